/- A part of an evaluator for the code. -/
import Derived.Test.YtoglpmfmnknlaaaGreatDoorXeF
namespace Go.Xe
section
variable {P : Program} {E : Env} {w : World}

theorem fieldOf_spec {s : TypeId} {f : Nat} {fd : Field} (h : fieldOf P s f = some fd) : ∃ fs, P.underlying s = some (.struct fs) ∧ fs[f]? = some fd := by
  unfold fieldOf at h
  split at h
  · rename_i fs hu; exact ⟨fs, hu, h⟩
  · cases h

theorem fieldAddr_yes {s : TypeId} {f k off id c : Nat} {z : SV} (hk : E k = some (id, c)) (h : semFieldAddr P s f k off = some z) :
    Yes P E w (Instr.fieldAt s (.pointer (some ⟨id, off, none⟩)) f) z := by
  unfold semFieldAddr at h
  split at h <;> try (cases h; done)
  rename_i fd hfd
  split at h <;> try (cases h; done)
  rename_i n hs
  simp only [force_eq, Option.some.injEq] at h
  subst h
  obtain ⟨fs, hu, hf⟩ := fieldOf_spec hfd
  refine ⟨.pointer (some ⟨id, off + fd.offset, none⟩), ?_, id, c, hk, rfl⟩
  simp [Instr.fieldAt, und_run hu, hf, Instr.sureAddr, fieldPlace, tySize_run hs, Addr.add_lit]

theorem field_yes {s : TypeId} {f : Nat} {cs : List SV} {z : SV} {vs : List Value} (hv : DenL E cs vs) (h : semField P s f cs = some z) :
    Yes P E w (Instr.field s (.agg vs.toArray) f) z := by
  unfold semField at h
  split at h <;> try (cases h; done)
  rename_i fd hfd
  obtain ⟨fs, hu, hf⟩ := fieldOf_spec hfd
  obtain ⟨v, hr, hd⟩ := part_yes (w := w) hv h
  exact ⟨v, by simp [Instr.field, und_run hu, hf, asAgg, hr], hd⟩

theorem indexAddr_yes {t : TypeId} {x ix z : SV} {u v : Value} (hx : Den E x u) (hi : Den E ix v) (h : semIndexAddr P t x ix = some z) :
    Yes P E w (Instr.indexAt t u v) z := by
  unfold semIndexAddr at h
  split at h <;> try (cases h; done)
  rename_i i hn
  obtain ⟨ki, rfl⟩ := natOf_spec hn hi
  split at h <;> (try (cases h; done)) <;> rename_i hu
  · rename_i n e k off
    split at h <;> try (cases h; done)
    rename_i s hs
    cases hb : Nat.blt i n with
    | false => simp [hb] at h
    | true =>
      simp only [hb, cond_true, force_eq, Option.some.injEq] at h
      subst h
      have hlt : i < n := by rw [Nat.blt_eq] at hb; exact hb
      obtain ⟨id, c, hk, rfl⟩ := hx
      refine ⟨.pointer (some ⟨id, off + i * s, none⟩), ?_, id, c, hk, rfl⟩
      simp [Instr.indexAt, asIntOf, und_run hu, Instr.sureAddr, tySize_run hs, hlt, Addr.add_lit]
  · rename_i e k off len cap lo
    split at h <;> try (cases h; done)
    rename_i s hs
    cases hb : Nat.blt i len with
    | false => simp [hb] at h
    | true =>
      simp only [hb, cond_true, force_eq, Option.some.injEq] at h
      subst h
      have hlt : i < len := by rw [Nat.blt_eq] at hb; exact hb
      have hk : ∃ id c c', E k = some (id, c) ∧ u = .slice (some ⟨id, off, none⟩) len c' := by
        cases cap with
        | none => obtain ⟨id, c, h1, h2⟩ := hx; exact ⟨id, c, _, h1.1, h2⟩
        | some cap => obtain ⟨id, c, h1, h2⟩ := hx; exact ⟨id, c, _, h1, h2⟩
      obtain ⟨id, c, c', hk, rfl⟩ := hk
      refine ⟨.pointer (some ⟨id, off + i * s, none⟩), ?_, id, c, hk, rfl⟩
      simp [Instr.indexAt, asIntOf, und_run hu, tySize_run hs, hlt, Addr.add_lit]

theorem index_yes {t : TypeId} {x ix z : SV} {u v : Value} (hx : Den E x u) (hi : Den E ix v) (h : semIndex P t x ix = some z) :
    Yes P E w (Instr.index t u v) z := by
  unfold semIndex at h
  split at h <;> try (cases h; done)
  rename_i i hn
  obtain ⟨ki, rfl⟩ := natOf_spec hn hi
  split at h <;> (try (cases h; done)) <;> rename_i hu
  · rename_i n e cs
    split at h <;> try (cases h; done)
    rename_i s hs
    cases hb : Nat.blt i n with
    | false => simp [hb] at h
    | true =>
      simp only [hb, cond_true] at h
      have hlt : i < n := by rw [Nat.blt_eq] at hb; exact hb
      obtain ⟨vs, hv, rfl⟩ := hx
      obtain ⟨v, hr, hd⟩ := part_yes (w := w) hv h
      exact ⟨v, by simp [Instr.index, asIntOf, und_run hu, tySize_run hs, hlt, hr], hd⟩
  · rename_i s
    have e1 : u = _ := hx; subst e1
    split at h <;> try (cases h; done)
    rename_i b hb
    cases h
    exact ⟨_, by simp [Instr.index, asIntOf, und_run hu, hb], rfl⟩

theorem sliceB_spec {len cap : Nat} {lo hi : Option SV} {lv hv : Option Value} {l h : Nat} (h1 : ∀ y, lo = some y → ∃ v, lv = some v ∧ Den E y v) (h1' : lo = none → lv = none)
    (h2 : ∀ y, hi = some y → ∃ v, hv = some v ∧ Den E y v) (h2' : hi = none → hv = none) (hb : sliceB len cap lo hi = some (l, h)) :
    l ≤ h ∧ h ≤ cap ∧ ∀ isSlice w, (Instr.sliceBounds isSlice len cap lv hv none).run P w = .ok (l, h, cap) w := by
  unfold sliceB at hb
  split at hb <;> try (cases hb; done)
  rename_i hh ll eh el
  cases hc1 : Nat.ble hh cap with
  | false => simp [hc1] at hb
  | true =>
  cases hc2 : Nat.ble ll hh with
  | false => simp [hc1, hc2] at hb
  | true =>
  simp only [hc1, hc2, Bool.and_self, cond_true, Option.some.injEq, Prod.mk.injEq] at hb
  obtain ⟨rfl, rfl⟩ := hb
  have k1 := Nat.le_of_ble_eq_true hc1
  have k2 := Nat.le_of_ble_eq_true hc2
  refine ⟨k2, k1, fun isS w => ?_⟩
  cases hi with
  | none =>
    simp only [Option.some.injEq] at eh
    subst eh
    rw [h2' rfl]
    cases lo with
    | none =>
      simp only [Option.some.injEq] at el
      subst el
      rw [h1' rfl]
      simp [Instr.sliceBounds]
    | some y =>
      simp only at el
      obtain ⟨v, e, hd⟩ := h1 y rfl
      obtain ⟨k, rfl⟩ := natOf_spec el hd
      rw [e]
      simp [Instr.sliceBounds, Instr.sliceBound, asIntOf, k2]
  | some y' =>
    simp only at eh
    obtain ⟨v', e', hd'⟩ := h2 y' rfl
    obtain ⟨k', rfl⟩ := natOf_spec eh hd'
    rw [e']
    cases lo with
    | none =>
      simp only [Option.some.injEq] at el
      subst el
      rw [h1' rfl]
      simp [Instr.sliceBounds, Instr.sliceBound, asIntOf, k1]
    | some y =>
      simp only at el
      obtain ⟨v, e, hd⟩ := h1 y rfl
      obtain ⟨k, rfl⟩ := natOf_spec el hd
      rw [e]
      simp [Instr.sliceBounds, Instr.sliceBound, asIntOf, k1, k2]

theorem sliceB_more {len cap : Nat} {lo hi : Option SV} {l h : Nat} (hb : sliceB len len lo hi = some (l, h)) (hc : len ≤ cap) : sliceB len cap lo hi = some (l, h) := by
  have key : ∀ A B : Option Nat, (match A, B with | some h, some l => bif Nat.ble h len && Nat.ble l h then some (l, h) else none | _, _ => none) = some (l, h) →
      (match A, B with | some h, some l => bif Nat.ble h cap && Nat.ble l h then some (l, h) else none | _, _ => none) = some (l, h) := by
    intro A B hb
    split at hb <;> try (cases hb; done)
    rename_i hh ll
    cases hc1 : Nat.ble hh len with
    | false => simp [hc1] at hb
    | true =>
      have := Nat.le_of_ble_eq_true hc1
      have h2 : Nat.ble hh cap = true := (by rw [Nat.ble_eq]; exact Nat.le_trans this hc)
      simp only [hc1] at hb
      simp only [h2]; exact hb
  exact key _ _ hb

theorem slAt_den {k off len lo' s l h id c capv : Nat} {cap : Option Nat} {z : SV} (hk : E k = some (id, c)) (hc : (∃ c', cap = some c' ∧ capv = c') ∨ (cap = none ∧ capv = c - lo' ∧ lo' + len ≤ c)) (h1 : l ≤ h) (h2 : h ≤ capv)
    (hz : slAt k off len cap lo' s l h = some z) : Den E z (.slice (some (if capv = l then ⟨id, off, none⟩ else ⟨id, off + l * s, none⟩)) (h - l) (capv - l)) := by
  unfold slAt at hz
  rcases hc with ⟨c', rfl, rfl⟩ | ⟨rfl, rfl, hle⟩
  · simp only [force_eq] at hz
    cases hm : Nat.beq (capv - l) 0 with
    | true =>
      have hm' := Nat.eq_of_beq_eq_true hm
      simp only [hm, cond_true, Option.some.injEq] at hz
      subst hz
      rw [if_pos (by omega)]
      exact ⟨id, c, hk, rfl⟩
    | false =>
      have hm' := Nat.ne_of_beq_eq_false hm
      simp only [hm, cond_false, Option.some.injEq] at hz
      subst hz
      rw [if_neg (by omega)]
      exact ⟨id, c, hk, rfl⟩
  · simp only [force_eq] at hz
    cases hh : Nat.ble h len with
    | false => simp [hh] at hz
    | true =>
      have hh' := Nat.le_of_ble_eq_true hh
      simp only [hh, cond_true] at hz
      cases hl : Nat.blt l len with
      | true =>
        have hl' : l < len := by rw [Nat.blt_eq] at hl; exact hl
        simp only [hl, cond_true, Option.some.injEq] at hz
        subst hz
        rw [if_neg (by omega)]
        exact ⟨id, c, ⟨hk, by omega⟩, by rw [Nat.sub_add_eq]⟩
      | false =>
        simp only [hl, cond_false] at hz
        cases h0 : Nat.beq l 0 with
        | false =>
          have hl' : ¬ l < len := fun hh => by have : Nat.blt l len = true := by rw [Nat.blt_eq]; exact hh
                                               rw [hl] at this; cases this
          simp only [h0, cond_false, Option.some.injEq] at hz
          subst hz
          have e0 : h - l = 0 := by omega
          rw [e0]
          split
          · exact ⟨id, c, _, _, hk, rfl⟩
          · exact ⟨id, c, _, _, hk, rfl⟩
        | true =>
          have h0' := Nat.eq_of_beq_eq_true h0
          simp only [h0, cond_true, Option.some.injEq] at hz
          subst hz; subst h0'
          refine ⟨id, c, ⟨hk, by omega⟩, ?_⟩
          simp

theorem slice_yes {t : TypeId} {x z : SV} {u : Value} {lo hi : Option SV} {lv hv : Option Value} (hx : Den E x u) (h1 : ∀ y, lo = some y → ∃ v, lv = some v ∧ Den E y v) (h1' : lo = none → lv = none)
    (h2 : ∀ y, hi = some y → ∃ v, hv = some v ∧ Den E y v) (h2' : hi = none → hv = none) (h : semSlice P t x lo hi = some z) : Yes P E w (Instr.sliceAt t u lv hv none) z := by
  unfold semSlice at h
  split at h <;> try (cases h; done)
  · rename_i e k off len cap lo' hu
    split at h <;> try (cases h; done)
    rename_i s l hh hs hb
    have hx' : ∃ id c capv, E k = some (id, c) ∧ u = .slice (some ⟨id, off, none⟩) len capv ∧ ((∃ c', cap = some c' ∧ capv = c') ∨ (cap = none ∧ capv = c - lo' ∧ lo' + len ≤ c)) := by
      cases cap with
      | none => obtain ⟨id, c, e1, e2⟩ := hx; exact ⟨id, c, _, e1.1, e2, .inr ⟨rfl, rfl, e1.2⟩⟩
      | some cap => obtain ⟨id, c, e1, e2⟩ := hx; exact ⟨id, c, _, e1, e2, .inl ⟨_, rfl, rfl⟩⟩
    obtain ⟨id, c, capv, hk, rfl, hc⟩ := hx'
    have hb' : sliceB len capv lo hi = some (l, hh) := by
      rcases hc with ⟨c', rfl, rfl⟩ | ⟨rfl, rfl, hle⟩
      · exact hb
      · exact sliceB_more hb (by omega)
    obtain ⟨k1, k2, hrun⟩ := sliceB_spec (P := P) h1 h1' h2 h2' hb'
    refine ⟨_, ?_, slAt_den hk hc k1 k2 h⟩
    simp only [Instr.sliceAt, Instr.slice, Sem.run_bind, und_run hu, Result.andThen_ok, hrun, tySize_run hs, Sem.run_pure, Option.map_some, Addr.add_lit]
    split <;> rfl
  · rename_i e k hu
    split at h <;> try (cases h; done)
    rename_i s lh hs hb
    obtain ⟨l, hh⟩ := lh
    cases h
    obtain ⟨id, c, o, cp, hk, rfl⟩ := hx
    obtain ⟨q1, q2, _⟩ := sliceB_spec (P := P) h1 h1' h2 h2' hb
    obtain ⟨k1, k2, hrun⟩ := sliceB_spec (P := P) h1 h1' h2 h2' (sliceB_more hb (Nat.zero_le cp))
    have e1 : hh = 0 := by omega
    have e2 : l = 0 := by omega
    subst e1; subst e2
    refine ⟨.slice (some ⟨id, o, none⟩) 0 cp, ?_, id, c, o, cp, hk, rfl⟩
    simp only [Instr.sliceAt, Instr.slice, Sem.run_bind, und_run hu, Result.andThen_ok, hrun, tySize_run hs, Sem.run_pure, Option.map_some, Addr.add_lit]
    simp
  · rename_i e a c hu
    split at h <;> try (cases h; done)
    rename_i s lh hs hb
    obtain ⟨l, hh⟩ := lh
    cases h
    cases ha : Nat.beq a 0 with
    | false => simp [ha] at hb
    | true =>
      cases hc : Nat.beq c 0 with
      | false => simp [ha, hc] at hb
      | true =>
        simp only [ha, hc, Bool.and_self, cond_true] at hb
        have e1 := Nat.eq_of_beq_eq_true ha
        have e2 := Nat.eq_of_beq_eq_true hc
        have e3 : u = _ := hx
        subst e1; subst e2; subst e3
        obtain ⟨k1, k2, hrun⟩ := sliceB_spec (P := P) h1 h1' h2 h2' hb
        have e4 : hh = 0 := by omega
        have e5 : l = 0 := by omega
        subst e4; subst e5
        refine ⟨.slice none 0 0, ?_, rfl⟩
        simp only [Instr.sliceAt, Instr.slice, Sem.run_bind, und_run hu, Result.andThen_ok, hrun, tySize_run hs, Sem.run_pure]
        simp
  · rename_i n e k off hu
    split at h <;> try (cases h; done)
    rename_i s l hh hs hb
    obtain ⟨id, c, hk, rfl⟩ := hx
    obtain ⟨k1, k2, hrun⟩ := sliceB_spec (P := P) h1 h1' h2 h2' hb
    refine ⟨_, ?_, slAt_den hk (.inl ⟨n, rfl, rfl⟩) k1 k2 h⟩
    simp only [Instr.sliceAt, Instr.sureAddr, Sem.run_bind, und_run hu, Result.andThen_ok, hrun, tySize_run hs, Sem.run_pure, Addr.add_lit]
  · rename_i s hu
    split at h <;> try (cases h; done)
    rename_i l hh hb
    obtain ⟨k1, k2, hrun⟩ := sliceB_spec (P := P) h1 h1' h2 h2' hb
    have e : u = .string s := hx
    subst e
    cases h
    refine ⟨.string (s.extract l hh), ?_, rfl⟩
    simp [Instr.sliceAt, Instr.slice, und_run hu, hrun]

theorem len_yes {t ty : TypeId} {ts : Array TypeId} {x z : SV} {u : Value} (ht : ts[0]? = some t) (hx : Den E x u) (h : lenE P t x = some z) : Yes P E w (Builtin.len_ ts ty #[u]) z := by
  unfold lenE at h
  split at h <;> (try (cases h; done)) <;> rename_i hu
  · have e1 : u = _ := hx; subst e1
    simp only [forceI_eq, Option.some.injEq] at h; subst h
    exact ⟨_, by simp [Builtin.len_, ht, und_run hu]; rfl, rfl⟩
  · have e1 : u = _ := hx; subst e1
    simp only [Option.some.injEq] at h; subst h
    exact ⟨_, by simp [Builtin.len_, ht, und_run hu]; rfl, rfl⟩
  · obtain ⟨id, c, rfl⟩ := den_sl hx
    cases h
    exact ⟨_, by simp [Builtin.len_, ht, und_run hu]; rfl, rfl⟩
  · obtain ⟨_, _, _, _, _, rfl⟩ := hx
    cases h
    exact ⟨_, by simp [Builtin.len_, ht, und_run hu]; rfl, rfl⟩
  · have e1 : u = _ := hx; subst e1
    simp only [forceI_eq, Option.some.injEq] at h; subst h
    exact ⟨_, by simp [Builtin.len_, ht, und_run hu]; rfl, rfl⟩
  · have e1 : u = _ := hx; subst e1
    simp only [Option.some.injEq] at h; subst h
    exact ⟨_, by simp [Builtin.len_, ht, und_run hu]; rfl, rfl⟩
end
end Go.Xe
