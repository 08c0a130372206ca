/- A part of an evaluator for the program's code: it runs code over an abstract memory, and what it answers holds of every run. -/
import Derived.Test.YtomialandfplkaaDoorXvF
namespace Go.Xe
section
variable {P : Program} {E : Env} {w : World}

theorem part_yes {t : TypeId} {cs : List SV} {off : Nat} {z : SV} {vs : List Value} (hv : DenL E cs vs) (h : partE P t cs off = some z) : Yes P E w (part t vs.toArray off) z := by
  unfold partE at h
  split at h
  · rename_i n ha hs
    cases hb : Nat.ble (off + n) cs.length with
    | false => simp [hb] at h
    | true =>
      simp only [hb, cond_true, Option.some.injEq] at h
      subst h
      have hb' := Nat.le_of_ble_eq_true hb
      have hl := hv.length
      refine ⟨.agg (vs.toArray.extract off (off + n)), by simp [part, tyAgg_run ha, tySize_run hs], (vs.drop off).take n, DenL.take n (DenL.drop off hv), ?_⟩
      simp
  · rename_i n ha hs
    obtain ⟨v, h1, h2⟩ := hv.get _ _ h
    exact ⟨v, by simp [part, tyAgg_run ha, h1], h2⟩
  · cases h

theorem fieldOf_spec {s : TypeId} {f : Nat} {fd : Field} (h : fieldOf P s f = some fd) : ∃ fs, P.underlying s = some (.struct fs) ∧ fs[f]? = some fd := by
  unfold fieldOf at h
  split at h
  · rename_i fs hu; exact ⟨fs, hu, h⟩
  · cases h

theorem fieldAddr_yes {s : TypeId} {f k off id c : Nat} {z : SV} (hk : E k = some (id, c)) (h : semFieldAddr P s f k off = some z) :
    Yes P E w (Instr.fieldAt s (.pointer (some ⟨id, off, none⟩)) f) z := by
  unfold semFieldAddr at h
  split at h <;> try (cases h; done)
  rename_i fd hfd
  split at h <;> try (cases h; done)
  rename_i n hs
  simp only [force_eq, Option.some.injEq] at h
  subst h
  obtain ⟨fs, hu, hf⟩ := fieldOf_spec hfd
  refine ⟨.pointer (some ⟨id, off + fd.offset, none⟩), ?_, id, c, hk, rfl⟩
  simp [Instr.fieldAt, und_run hu, hf, Instr.sureAddr, fieldPlace, tySize_run hs, Addr.add_lit]

theorem field_yes {s : TypeId} {f : Nat} {cs : List SV} {z : SV} {vs : List Value} (hv : DenL E cs vs) (h : semField P s f cs = some z) :
    Yes P E w (Instr.field s (.agg vs.toArray) f) z := by
  unfold semField at h
  split at h <;> try (cases h; done)
  rename_i fd hfd
  obtain ⟨fs, hu, hf⟩ := fieldOf_spec hfd
  obtain ⟨v, hr, hd⟩ := part_yes (w := w) hv h
  exact ⟨v, by simp [Instr.field, und_run hu, hf, asAgg, hr], hd⟩

theorem indexAddr_yes {t : TypeId} {x ix z : SV} {u v : Value} (hx : Den E x u) (hi : Den E ix v) (h : semIndexAddr P t x ix = some z) :
    Yes P E w (Instr.indexAt t u v) z := by
  unfold semIndexAddr at h
  split at h <;> try (cases h; done)
  rename_i i hn
  obtain ⟨ki, rfl⟩ := natOf_spec hn hi
  split at h <;> (try (cases h; done)) <;> rename_i hu
  · rename_i n e k off
    split at h <;> try (cases h; done)
    rename_i s hs
    cases hb : Nat.blt i n with
    | false => simp [hb] at h
    | true =>
      simp only [hb, cond_true, force_eq, Option.some.injEq] at h
      subst h
      have hlt : i < n := by rw [Nat.blt_eq] at hb; exact hb
      obtain ⟨id, c, hk, rfl⟩ := hx
      refine ⟨.pointer (some ⟨id, off + i * s, none⟩), ?_, id, c, hk, rfl⟩
      simp [Instr.indexAt, asIntOf, und_run hu, Instr.sureAddr, tySize_run hs, hlt, Addr.add_lit]
  · rename_i e k off len cap lo
    split at h <;> try (cases h; done)
    rename_i s hs
    cases hb : Nat.blt i len with
    | false => simp [hb] at h
    | true =>
      simp only [hb, cond_true, force_eq, Option.some.injEq] at h
      subst h
      have hlt : i < len := by rw [Nat.blt_eq] at hb; exact hb
      have hk : ∃ id c c', E k = some (id, c) ∧ u = .slice (some ⟨id, off, none⟩) len c' := by
        cases cap <;> (obtain ⟨id, c, h1, h2⟩ := hx; exact ⟨id, c, _, h1, h2⟩)
      obtain ⟨id, c, c', hk, rfl⟩ := hk
      refine ⟨.pointer (some ⟨id, off + i * s, none⟩), ?_, id, c, hk, rfl⟩
      simp [Instr.indexAt, asIntOf, und_run hu, tySize_run hs, hlt, Addr.add_lit]

theorem index_yes {t : TypeId} {x ix z : SV} {u v : Value} (hx : Den E x u) (hi : Den E ix v) (h : semIndex P t x ix = some z) :
    Yes P E w (Instr.index t u v) z := by
  unfold semIndex at h
  split at h <;> try (cases h; done)
  rename_i i hn
  obtain ⟨ki, rfl⟩ := natOf_spec hn hi
  split at h <;> (try (cases h; done)) <;> rename_i hu
  · rename_i n e cs
    split at h <;> try (cases h; done)
    rename_i s hs
    cases hb : Nat.blt i n with
    | false => simp [hb] at h
    | true =>
      simp only [hb, cond_true] at h
      have hlt : i < n := by rw [Nat.blt_eq] at hb; exact hb
      obtain ⟨vs, hv, rfl⟩ := hx
      obtain ⟨v, hr, hd⟩ := part_yes (w := w) hv h
      exact ⟨v, by simp [Instr.index, asIntOf, und_run hu, tySize_run hs, hlt, hr], hd⟩
  · rename_i s
    have e1 : u = _ := hx; subst e1
    split at h <;> try (cases h; done)
    rename_i b hb
    cases h
    exact ⟨_, by simp [Instr.index, asIntOf, und_run hu, hb], rfl⟩

theorem sliceB_spec {len cap : Nat} {lo hi : Option SV} {lv hv : Option Value} {l h : Nat} (h1 : ∀ y, lo = some y → ∃ v, lv = some v ∧ Den E y v) (h1' : lo = none → lv = none)
    (h2 : ∀ y, hi = some y → ∃ v, hv = some v ∧ Den E y v) (h2' : hi = none → hv = none) (hb : sliceB len cap lo hi = some (l, h)) :
    l ≤ h ∧ h ≤ cap ∧ ∀ isSlice w, (Instr.sliceBounds isSlice len cap lv hv none).run P w = .ok (l, h, cap) w := by
  unfold sliceB at hb
  split at hb <;> try (cases hb; done)
  rename_i hh ll eh el
  cases hc1 : Nat.ble hh cap with
  | false => simp [hc1] at hb
  | true =>
  cases hc2 : Nat.ble ll hh with
  | false => simp [hc1, hc2] at hb
  | true =>
  simp only [hc1, hc2, Bool.and_self, cond_true, Option.some.injEq, Prod.mk.injEq] at hb
  obtain ⟨rfl, rfl⟩ := hb
  have k1 := Nat.le_of_ble_eq_true hc1
  have k2 := Nat.le_of_ble_eq_true hc2
  refine ⟨k2, k1, fun isS w => ?_⟩
  cases hi with
  | none =>
    simp only [Option.some.injEq] at eh
    subst eh
    rw [h2' rfl]
    cases lo with
    | none =>
      simp only [Option.some.injEq] at el
      subst el
      rw [h1' rfl]
      simp [Instr.sliceBounds]
    | some y =>
      simp only at el
      obtain ⟨v, e, hd⟩ := h1 y rfl
      obtain ⟨k, rfl⟩ := natOf_spec el hd
      rw [e]
      simp [Instr.sliceBounds, Instr.sliceBound, asIntOf, k2]
  | some y' =>
    simp only at eh
    obtain ⟨v', e', hd'⟩ := h2 y' rfl
    obtain ⟨k', rfl⟩ := natOf_spec eh hd'
    rw [e']
    cases lo with
    | none =>
      simp only [Option.some.injEq] at el
      subst el
      rw [h1' rfl]
      simp [Instr.sliceBounds, Instr.sliceBound, asIntOf, k1]
    | some y =>
      simp only at el
      obtain ⟨v, e, hd⟩ := h1 y rfl
      obtain ⟨k, rfl⟩ := natOf_spec el hd
      rw [e]
      simp [Instr.sliceBounds, Instr.sliceBound, asIntOf, k1, k2]

theorem slice_yes {t : TypeId} {x z : SV} {u : Value} {lo hi : Option SV} {lv hv : Option Value} (hx : Den E x u) (h1 : ∀ y, lo = some y → ∃ v, lv = some v ∧ Den E y v) (h1' : lo = none → lv = none)
    (h2 : ∀ y, hi = some y → ∃ v, hv = some v ∧ Den E y v) (h2' : hi = none → hv = none) (h : semSlice P t x lo hi = some z) : Yes P E w (Instr.sliceAt t u lv hv none) z := by
  unfold semSlice at h
  split at h <;> try (cases h; done)
  rename_i e k off len cap lo' hu
  split at h <;> try (cases h; done)
  rename_i s l hh hs hb
  obtain ⟨id, c, hk, rfl⟩ := hx
  obtain ⟨k1, k2, hrun⟩ := sliceB_spec (P := P) h1 h1' h2 h2' hb
  simp only [force_eq] at h
  cases hm : Nat.beq (cap - l) 0 with
  | true =>
    have hm' := Nat.eq_of_beq_eq_true hm
    simp only [hm, cond_true, Option.some.injEq] at h
    subst h
    refine ⟨.slice (some ⟨id, off, none⟩) (hh - l) (cap - l), ?_, id, c, hk, rfl⟩
    simp [Instr.sliceAt, Instr.slice, und_run hu, hrun, tySize_run hs]
    omega
  | false =>
    have hm' := Nat.ne_of_beq_eq_false hm
    simp only [hm, cond_false, Option.some.injEq] at h
    subst h
    refine ⟨.slice (some ⟨id, off + l * s, none⟩) (hh - l) (cap - l), ?_, id, c, hk, rfl⟩
    simp [Instr.sliceAt, Instr.slice, und_run hu, hrun, tySize_run hs, Addr.add_lit]
    omega

theorem len_yes {t ty : TypeId} {ts : Array TypeId} {x z : SV} {u : Value} (ht : ts[0]? = some t) (hx : Den E x u) (h : lenE P t x = some z) : Yes P E w (Builtin.len_ ts ty #[u]) z := by
  unfold lenE at h
  split at h <;> (try (cases h; done)) <;> rename_i hu
  · have e1 : u = _ := hx; subst e1
    simp only [forceI_eq, Option.some.injEq] at h; subst h
    exact ⟨_, by simp [Builtin.len_, ht, und_run hu]; rfl, rfl⟩
  · have e1 : u = _ := hx; subst e1
    simp only [Option.some.injEq] at h; subst h
    exact ⟨_, by simp [Builtin.len_, ht, und_run hu]; rfl, rfl⟩
  · obtain ⟨id, c, rfl⟩ := den_sl hx
    cases h
    exact ⟨_, by simp [Builtin.len_, ht, und_run hu]; rfl, rfl⟩
  · have e1 : u = _ := hx; subst e1
    simp only [forceI_eq, Option.some.injEq] at h; subst h
    exact ⟨_, by simp [Builtin.len_, ht, und_run hu]; rfl, rfl⟩
  · have e1 : u = _ := hx; subst e1
    simp only [Option.some.injEq] at h; subst h
    exact ⟨_, by simp [Builtin.len_, ht, und_run hu]; rfl, rfl⟩
end
end Go.Xe
