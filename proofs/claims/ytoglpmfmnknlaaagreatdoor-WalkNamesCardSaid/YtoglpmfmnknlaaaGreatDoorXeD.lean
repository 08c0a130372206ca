/- A part of an evaluator for the code. -/
import Derived.Test.YtoglpmfmnknlaaaGreatDoorXeC
namespace Go.Xe
section
variable {P : Program} {B : Nat} {w0 w : World} {X : XW} {E : Env}

/-! ### A list's parts are laid -/
theorem foldl_set (new : List Value) : ∀ (off : Nat) (cs : Array Value) (i : Nat), off + i + new.length ≤ cs.size →
    ((new.zipIdx i).foldl (fun (cs : Array Value) (x : Value × Nat) => cs.setIfInBounds (off + x.2) x.1) cs).toList = cs.toList.take (off + i) ++ new ++ cs.toList.drop (off + i + new.length) := by
  induction new with
  | nil => intro off cs i h; simp
  | cons v new ih =>
    intro off cs i h
    simp only [List.length_cons] at h
    simp only [List.zipIdx_cons, List.foldl_cons]
    rw [ih off _ (i + 1) (by simp; omega)]
    have hlt : off + i < cs.toList.length := by simp; omega
    simp only [Array.toList_setIfInBounds]
    rw [show off + (i + 1) = off + i + 1 by omega]
    rw [List.take_succ_eq_append_getElem (by simpa using hlt)]
    rw [List.take_set_of_le (by omega), List.getElem_set_self]
    rw [List.drop_set_of_lt (by omega)]
    simp [Nat.add_assoc, Nat.add_comm 1]

theorem fill_spec {place : Nat → Option (Nat × Nat)} : ∀ (ix : List Nat) (ys : List SV) (vs : List Value) (cells : List SV) (cv : Array Value) (cs : List SV), DenL E ys vs → DenL E cells cv.toList →
    fillL place cells (ix.zip ys) = some cs → ∃ cv', Instr.fill place cv (ix.zip vs) = some cv' ∧ DenL E cs cv'.toList
  | [], ys, vs, cells, cv, cs, hv, hc, h => by
    simp [fillL] at h; subst h; exact ⟨cv, by simp [Instr.fill], hc⟩
  | i :: ix, [], vs, cells, cv, cs, hv, hc, h => by
    cases hv
    simp [fillL] at h; subst h; exact ⟨cv, by simp [Instr.fill], hc⟩
  | i :: ix, y :: ys, _, cells, cv, cs, ⟨v, vs, hy, hv, e⟩, hc, h => by
    subst e
    simp only [List.zip_cons_cons, fillL] at h
    cases hp : place i with
    | none => simp [hp] at h
    | some os =>
      obtain ⟨off, size⟩ := os
      simp only [hp] at h
      cases hf : y.flat with
      | false => simp [hf] at h
      | true =>
        cases h1 : Nat.beq y.cells.length size with
        | false => simp [hf, h1] at h
        | true =>
          cases h2 : Nat.ble (off + size) cells.length with
          | false => simp [hf, h1, h2] at h
          | true =>
            simp only [hf, h1, h2, Bool.and_self, cond_true] at h
            have h1' := Nat.eq_of_beq_eq_true h1
            have h2' := Nat.le_of_ble_eq_true h2
            have hflat : ∀ x, y ≠ .val (.agg x) := fun x e => by subst e; simp [SV.flat] at hf
            have hyc := den_cells hy hflat
            have hl1 := hyc.length
            have hl2 := hc.length
            simp only [Array.length_toList] at hl1 hl2
            have hsp : (v.cells.zipIdx.foldl (fun (cs : Array Value) (x : Value × Nat) => cs.setIfInBounds (off + x.2) x.1) cv).toList = cv.toList.take off ++ v.cells.toList ++ cv.toList.drop (off + v.cells.toList.length) := by
              rw [← Array.foldl_toList, Array.toList_zipIdx]
              have := foldl_set v.cells.toList off cv 0 (by simp; omega)
              simpa using this
            have hd : DenL E (splice cells off y.cells) (v.cells.zipIdx.foldl (fun (cs : Array Value) (x : Value × Nat) => cs.setIfInBounds (off + x.2) x.1) cv).toList := by
              rw [hsp]
              unfold splice
              have := (DenL.take off hc).append hyc
              refine this.append ?_
              rw [hyc.length]
              exact DenL.drop _ hc
            obtain ⟨cv', hfill, hd'⟩ := fill_spec ix ys vs _ _ cs hv hd h
            refine ⟨cv', ?_, hd'⟩
            simp only [List.zip_cons_cons, Instr.fill, hp]
            rw [if_neg]
            · exact hfill
            · simp; omega

theorem denL_reps {z : List SV} {zv : List Value} (h : DenL E z zv) : ∀ n, DenL E (reps z n) (List.replicate n zv).flatten
  | 0 => by simp [reps, DenL]
  | n + 1 => by simp only [reps, List.replicate_succ, List.flatten_cons]; exact h.append (denL_reps h n)

theorem range_mod (zv : Array Value) (n : Nat) : ((Array.range (n * zv.size)).map (zv[· % zv.size]!)).toList = (List.replicate n zv.toList).flatten := by
  induction n with
  | zero => simp
  | succ n ih =>
    rw [List.replicate_succ', List.flatten_append, ← ih]
    simp only [List.flatten_singleton, Array.toList_map, Array.toList_range]
    rw [show (n + 1) * zv.size = n * zv.size + zv.size by rw [Nat.add_mul]; omega, List.range_add, List.map_append]
    congr 1
    apply List.ext_getElem
    · simp
    · intro i h1 h2
      simp at h1 h2 ⊢
      rw [Nat.mod_eq_of_lt (by omega)]
      simp [*]

theorem mkV_cells (z : Value) : DenL E (mkV z).cells z.cells.toList := den_cells (den_mkV E z) (fun x e => by cases z <;> simp [mkV] at e)

/-! ### Single operations -/
theorem alloc_good (hE : Emb P B w0 X E w) {e : TypeId} {y : SV} {X' : XW} (h : semAlloc P e X = some (y, X')) : Good P B w0 E w (Instr.alloc e true (.tuple #[])) y X' := by
  unfold semAlloc at h
  split at h <;> simp at h
  rename_i z hz
  obtain ⟨rfl, rfl⟩ := h
  obtain ⟨E', hle, hk, hE', hrun⟩ := newRow_good (P := P) (ty := e) hE (mkV_cells (E := E) z)
  refine ⟨E', .pointer (some ⟨w.heap.size, 0, none⟩), _, hle, ?_, ⟨_, _, hk, rfl⟩, hE'⟩
  have hrun' : (Go.newRow e z.cells).run P w = .ok ⟨w.heap.size, 0, none⟩ (w.alloc (.cells z.cells.toList.toArray e)) := by simpa using hrun
  simp [Instr.alloc, tyZero_run hz, newVar, hrun']

theorem box_good (hE : Emb P B w0 X E w) {e : TypeId} {x y : SV} {v : Value} {X' : XW} (hx : Den E x v) (h : semBox e x X = some (y, X')) : Good P B w0 E w (Instr.box e v) y X' := by
  unfold semBox at h
  cases hf : x.flat with
  | false => simp [hf] at h
  | true =>
    simp only [hf, cond_true, Option.some.injEq, Prod.mk.injEq] at h
    obtain ⟨rfl, rfl⟩ := h
    have hflat : ∀ z, x ≠ .val (.agg z) := fun z e => by subst e; simp [SV.flat] at hf
    obtain ⟨E', hle, hk, hE', hrun⟩ := newRow_good (P := P) (ty := e) hE (den_cells hx hflat)
    refine ⟨E', .pointer (some ⟨w.heap.size, 0, none⟩), _, hle, ?_, ⟨_, _, hk, rfl⟩, hE'⟩
    have hrun' : (Go.newRow e v.cells).run P w = .ok ⟨w.heap.size, 0, none⟩ (w.alloc (.cells v.cells.toList.toArray e)) := by simpa using hrun
    simp [Instr.box, newVar, hrun']

theorem zip_map_fst (ps : Array (Nat × Operand)) (ρ : Operand → Value) : (ps.toList.map (·.1)).zip (ps.toList.map fun p => ρ p.2) = (ps.map fun (i, x) => (i, ρ x)).toList := by
  simp only [Array.toList_map]
  generalize ps.toList = l
  induction l with
  | nil => rfl
  | cons p l ih => simp [ih]

theorem build_good (hE : Emb P B w0 X E w) {t : TypeId} {ps : Array (Nat × Operand)} {ρ : Operand → Value} {ys : List SV} {y : SV} (hv : DenL E ys (ps.toList.map fun p => ρ p.2))
    (h : semBuild P t (ps.toList.map (·.1)) ys = some y) : Good P B w0 E w (Instr.build t (ps.map fun (i, x) => (i, ρ x))) y X := by
  unfold semBuild at h
  split at h <;> try (cases h; done)
  rename_i z hz
  split at h
  · rename_i fs hu
    split at h <;> try (cases h; done)
    rename_i pl hpl
    split at h <;> try (cases h; done)
    rename_i cs hfill
    simp only [Option.some.injEq] at h
    subst h
    obtain ⟨cv, hf, hd⟩ := fill_spec (E := E) (ps.toList.map (·.1)) ys _ _ _ cs hv (mkV_cells z) hfill
    rw [zip_map_fst] at hf
    refine Good.pure hE (v := .agg cv) ?_ ⟨cv.toList, hd, by simp⟩
    simp only [Array.toList_map] at hf
    simp [Instr.build, tyZero_run hz, und_run hu, Array.mapM_eq_mapM_toList, run_places w _ _ hpl, hf]
  · rename_i n e hu
    split at h <;> try (cases h; done)
    rename_i s hs
    split at h <;> try (cases h; done)
    rename_i cs hfill
    simp only [Option.some.injEq] at h
    subst h
    obtain ⟨cv, hf, hd⟩ := fill_spec (E := E) (ps.toList.map (·.1)) ys _ _ _ cs hv (mkV_cells z) hfill
    rw [zip_map_fst] at hf
    refine Good.pure hE (v := .agg cv) ?_ ⟨cv.toList, hd, by simp⟩
    simp only [Array.toList_map] at hf
    simp [Instr.build, tyZero_run hz, und_run hu, tySize_run hs, hf]
  · cases h
end
end Go.Xe
