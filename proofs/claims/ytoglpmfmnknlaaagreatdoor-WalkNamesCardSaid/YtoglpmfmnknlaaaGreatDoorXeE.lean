/- A part of an evaluator for the code. -/
import Derived.Test.YtoglpmfmnknlaaaGreatDoorXeD
namespace Go.Xe
section
variable {P : Program} {B : Nat} {w0 w : World} {X : XW} {E : Env}

theorem buildSlice_good (hE : Emb P B w0 X E w) {t : TypeId} {len : Nat} {ps : Array (Nat × Operand)} {ρ : Operand → Value} {ys : List SV} {y : SV} {X' : XW} (hv : DenL E ys (ps.toList.map fun p => ρ p.2))
    (h : semBuildSlice P t len (ps.toList.map (·.1)) ys X = some (y, X')) : Good P B w0 E w (Instr.buildSlice t len (ps.map fun (i, x) => (i, ρ x))) y X' := by
  unfold semBuildSlice at h
  split at h <;> try (cases h; done)
  rename_i e hu
  split at h <;> try (cases h; done)
  rename_i s z hs hz
  cases h1 : Nat.ble (len * s) 65536 with
  | false => simp [h1] at h
  | true =>
  cases h2 : Nat.ble 1 s with
  | false => simp [h1, h2] at h
  | true =>
  cases h3 : Nat.beq (mkV z).cells.length s with
  | false => simp [h1, h2, h3] at h
  | true =>
  simp only [h1, h2, h3, Bool.and_self, cond_true] at h
  have h1' := Nat.le_of_ble_eq_true h1
  have h2' := Nat.le_of_ble_eq_true h2
  have h3' := Nat.eq_of_beq_eq_true h3
  split at h <;> try (cases h; done)
  rename_i cs hfill
  simp only [Option.some.injEq, Prod.mk.injEq] at h
  obtain ⟨rfl, rfl⟩ := h
  have hzc := mkV_cells (E := E) z
  have hzl := hzc.length
  simp only [Array.length_toList] at hzl
  have hcells : DenL E (reps (mkV z).cells len) ((Array.range (len * s)).map (z.cells[· % z.cells.size]!)).toList := by
    rw [show len * s = len * z.cells.size by rw [hzl, h3'], range_mod]
    exact denL_reps hzc len
  obtain ⟨cv, hf, hd⟩ := fill_spec (E := E) (ps.toList.map (·.1)) ys _ _ _ cs hv hcells hfill
  rw [zip_map_fst] at hf
  simp only [Array.toList_map] at hf
  obtain ⟨E', hle, hk, hE', hrun⟩ := newRow_good (P := P) (ty := e) hE hd
  refine ⟨E', .slice (some ⟨w.heap.size, 0, none⟩) len len, _, hle, ?_, ⟨_, _, hk, rfl⟩, hE'⟩
  have hrun' : (Go.newRow e cv).run P w = .ok ⟨w.heap.size, 0, none⟩ (w.alloc (.cells cv.toList.toArray e)) := by simpa using hrun
  unfold Instr.buildSlice
  by_cases h0 : len * s = 0
  · have hlen : len = 0 := by
      rcases Nat.mul_eq_zero.1 h0 with h | h
      · exact h
      · omega
    subst hlen
    have hf0 : Instr.fill (fun i => some (i * s, s)) #[] (ps.toList.map fun a => (a.1, ρ a.2)) = some cv := by simpa [Array.range_zero'] using hf
    simp [und_run hu, tySize_run hs, hf0, hrun', Array.range_zero']
  · simp only [Sem.run_bind, und_run hu, tySize_run hs, Result.andThen_ok]
    rw [if_neg (by omega), if_neg h0]
    simp [tyZero_run hz, hf, hrun']

theorem newPat_good {ty : TypeId} {z : Value} {s n : Nat} (hE : Emb P B w0 X E w) (hs : (mkV z).cells.length = s) (hs1 : 1 ≤ s) :
    ∃ E', Le E E' ∧ E' (newPat X ty (n * s) (mkV z).cells).1 = some (w.heap.size, 0) ∧
      Emb P B w0 (newPat X ty (n * s) (mkV z).cells).2 E' (w.alloc (.cells ((Array.range (n * s)).map (z.cells[· % z.cells.size]!)) ty)) := by
  unfold newPat
  rw [force_eq]
  have hzl : z.cells.size = s := by have := (mkV_cells (E := E) z).length; simpa [hs] using this
  refine ⟨E.put X.next w.heap.size 0, Env.le_put (hE.fresh _ (Nat.le_refl _)) hE.nle, Env.put_same _ _ _ _, hE.new _ _ 0 0 0 rfl rfl fun E' hle => ?_⟩
  refine ⟨_, _, 0, 0, rfl, fun j y hj => ?_, fun _ => ⟨rfl, .inl rfl, by simp, fun _ => by simp, fun h => by cases h⟩⟩
  have hlt := Ob.get_lt hj
  unfold Ob.get at hj
  have hb : Nat.blt j (n * s) = true := by rw [Nat.blt_eq]; exact hlt
  simp only [hb, cond_true, get_nil] at hj
  obtain ⟨v, h1, h2⟩ := ((mkV_cells (E := E) z).mono hle).get _ _ (get_trieOf _ _ _ hj)
  refine ⟨v, ?_, h2⟩
  have hlt' : j < n * s := hlt
  rw [hs] at h1
  have hm : j % s < s := Nat.mod_lt _ (by omega)
  simp only [Array.getElem?_toList] at h1
  rw [Array.getElem?_map, Array.getElem?_range]
  simp only [hlt', if_true, Option.map_some, hzl]
  rw [← h1, getElem!_def, h1]

theorem natOf_spec {y : SV} {n : Nat} (h : natOf y = some n) {v : Value} (hv : Den E y v) : ∃ k, v = .int k n := by
  unfold natOf at h
  split at h <;> simp at h
  subst h
  exact ⟨_, hv⟩

theorem wrap_small {n : Nat} (h : n ≤ 35184372088832) : IntKind.i64.wrap (n : Int) = n := by
  unfold IntKind.wrap
  have e : ((2 : Int) ^ 64) = 18446744073709551616 := rfl
  have e' : ((2 : Int) ^ (64 - 1)) = 9223372036854775808 := rfl
  simp only [IntKind.bits, IntKind.signed, Bool.true_and, e, e']
  rw [if_neg (by simp; omega)]
  omega

theorem make_good (hE : Emb P B w0 X E w) {t : TypeId} {l c y : SV} {lv cv : Value} {X' : XW} (hl : Den E l lv) (hc : Den E c cv)
    (h : semMake P t l c X = some (y, X')) : Good P B w0 E w (Instr.makeSlice t lv cv) y X' := by
  unfold semMake at h
  split at h <;> try (cases h; done)
  rename_i e hu
  split at h <;> try (cases h; done)
  rename_i ln cn hln hcn
  split at h <;> try (cases h; done)
  rename_i s z b hs hz hb
  obtain ⟨k1, rfl⟩ := natOf_spec hln hl
  obtain ⟨k2, rfl⟩ := natOf_spec hcn hc
  cases h1 : Nat.ble ln cn with
  | false => simp [h1] at h
  | true =>
  cases h2 : Nat.ble (cn * b) 35184372088832 with
  | false => simp [h1, h2] at h
  | true =>
  cases h3 : Nat.ble cn 35184372088832 with
  | false => simp [h1, h2, h3] at h
  | true =>
  cases h4 : Nat.beq (mkV z).cells.length s with
  | false => simp [h1, h2, h3, h4] at h
  | true =>
  cases h5 : Nat.ble 1 s with
  | false => simp [h1, h2, h3, h4, h5] at h
  | true =>
  simp only [h1, h2, h3, h4, h5, Bool.and_self, cond_true, Option.some.injEq, Prod.mk.injEq] at h
  obtain ⟨rfl, rfl⟩ := h
  have h1' := Nat.le_of_ble_eq_true h1
  have h2' := Nat.le_of_ble_eq_true h2
  have h3' := Nat.le_of_ble_eq_true h3
  have h4' := Nat.eq_of_beq_eq_true h4
  have h5' := Nat.le_of_ble_eq_true h5
  obtain ⟨E', hle, hk, hE'⟩ := newPat_good (ty := e) (n := cn) hE h4' h5'
  refine ⟨E', .slice (some ⟨w.heap.size, 0, none⟩) ln cn, _, hle, ?_, ⟨_, _, hk, rfl⟩, hE'⟩
  obtain ⟨i, hi, hib⟩ := tyBytes_run hb w
  have hbb : (b : Int) * (cn : Int) = ((cn * b : Nat) : Int) := by rw [Nat.mul_comm]; simp
  unfold Instr.makeSlice
  simp only [Sem.run_bind, und_run hu, Result.andThen_ok, asInt, asIntOf, Sem.run_pure, hi, wrap_small h3', wrap_small (Nat.le_trans h1' h3'), hib]
  have hnot : ¬ ((decide ((cn : Int) < 0) || decide ((b : Int) * (cn : Int) > 2 ^ 48)) = true ∨ decide ((ln : Int) < 0) = true ∨ decide ((ln : Int) > (cn : Int)) = true) := by
    rw [hbb]; simp; omega
  rw [if_neg (by simp only [Bool.or_eq_true, decide_eq_true_eq] at hnot ⊢; omega)]
  have hnr : ∀ cs, (Go.newRow e cs).run P w = .ok ⟨w.heap.size, 0, none⟩ (w.alloc (.cells cs e)) := fun _ => rfl
  simp only [run_askRoom, Result.andThen_ok, Sem.run_bind, tySize_run hs, Int.toNat_natCast]
  by_cases h0 : cn * s = 0
  · have : cn = 0 := by rcases Nat.mul_eq_zero.1 h0 with h | h <;> omega
    subst this
    rw [if_pos h0]
    simp [hnr, Array.range_zero']
  · rw [if_neg h0]
    simp [tyZero_run hz, hnr]
end
end Go.Xe
