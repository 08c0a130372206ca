/- A part of an evaluator for the code. -/
import Derived.Test.YtoglpmfmnknlaaaGreatDoorXeB
namespace Go.Xe
section
variable {P : Program} {B : Nat} {w0 w : World} {X : XW} {E : Env}

theorem tySize_run {t : TypeId} {n : Nat} (h : tySize P t = some n) (w : World) : (sizeOf t).run P w = .ok n w := by
  unfold tySize at h
  split at h <;> simp at h
  rename_i i hi
  subst h
  simp [sizeOf, typeInfo, hi]
theorem tyBytes_run {t : TypeId} {n : Nat} (h : tyBytes P t = some n) (w : World) : ∃ i, (typeInfo t).run P w = .ok i w ∧ i.bytes = n := by
  unfold tyBytes at h
  split at h <;> simp at h
  rename_i i hi
  exact ⟨i, by simp [typeInfo, hi], h⟩
theorem tyZero_run {t : TypeId} {z : Value} (h : tyZero P t = some z) (w : World) : (zeroValue t).run P w = .ok z w := by
  unfold tyZero at h
  split at h <;> try (cases h; done)
  rename_i i hi
  simp [zeroValue, typeInfo, hi, h]
theorem tyAgg_run {t : TypeId} {b : Bool} (h : tyAgg P t = some b) (w : World) : (isAgg t).run P w = .ok b w := by
  unfold tyAgg at h
  unfold isAgg
  rw [Sem.run_bind]
  split at h <;> simp only [Option.some.injEq, reduceCtorEq] at h
  · rename_i fs hu; subst h; simp [underlying, hu]
  · rename_i n e hu; subst h; simp [underlying, hu]
  · rename_i d hn1 hn2 hu
    subst h
    simp only [underlying, Sem.run_bind, run_program, Result.andThen_ok, hu, Sem.run_pure]
    all_goals (split <;> first | exact absurd rfl (hn1 _) | exact absurd rfl (hn2 _ _) | rfl)
theorem und_run {t : TypeId} {d : TypeDesc} (h : P.underlying t = some d) (w : World) : (underlying t).run P w = .ok d w := by
  simp [underlying, h]

/-! ### load -/
theorem loadN_spec {o : Ob} {id c : Nat} (hr : ObjRel P E o w.heap[id]? c) : ∀ (n off : Nat) (ys : List SV), loadN o off n = some ys →
    ∃ vs, DenL E ys vs ∧ vs.length = n ∧ ∀ j v, vs[j]? = some v → w.cell? ⟨id, off + j, none⟩ = some v
  | 0, off, ys, h => by simp [loadN] at h; subst h; exact ⟨[], rfl, rfl, fun j v hj => by simp at hj⟩
  | n + 1, off, ys, h => by
    simp only [loadN] at h
    split at h <;> try (simp at h; done)
    rename_i y hy
    split at h <;> try (simp at h; done)
    rename_i ys' hys
    simp at h; subst h
    obtain ⟨vs, h1, h2, h3⟩ := loadN_spec hr n (off + 1) ys' hys
    obtain ⟨v, hv, hd⟩ := hr.cell hy
    refine ⟨v :: vs, ⟨v, vs, hd, h1, rfl⟩, by simp [h2], fun j u hj => ?_⟩
    cases j with
    | zero => simp at hj; subst hj; exact hv
    | succ j => simp at hj; have := h3 j u hj; rwa [show off + 1 + j = off + (j + 1) by omega] at this

theorem load_good (hE : Emb P B w0 X E w) {t : TypeId} {k off : Nat} {y : SV} (h : semLoad P t X k off = some y) {id c : Nat} (hk : E k = some (id, c)) :
    ∃ v, (loadVar t ⟨id, off, none⟩).run P w = .ok v w ∧ Den E y v := by
  unfold semLoad at h
  split at h
  · rename_i o n ho ha hs
    obtain ⟨id', c', hk', hr, _⟩ := hE.obj k o ho
    rw [hk] at hk'; cases hk'
    split at h <;> simp at h
    rename_i ys hys
    subst h
    obtain ⟨vs, h1, h2, h3⟩ := loadN_spec hr n off ys hys
    refine ⟨.agg vs.toArray, ?_, vs, h1, rfl⟩
    have := run_loadCells_list (P := P) (w := w) ⟨id, off, none⟩ vs (fun j v hj => by rw [Addr.add_lit]; exact h3 j v hj)
    rw [h2] at this
    simp [loadVar, tyAgg_run ha, tySize_run hs, this]
  · rename_i o n ho ha hs
    obtain ⟨id', c', hk', hr, _⟩ := hE.obj k o ho
    rw [hk] at hk'; cases hk'
    obtain ⟨v, hv, hd⟩ := hr.cell h
    exact ⟨v, by simp [loadVar, tyAgg_run ha, hv], hd⟩
  · cases h

/-! ### store -/
theorem storeCells_spec (P : Program) (id off : Nat) (ty : TypeId) (lo hi : Nat) : ∀ (vs : List Value) (i : Nat) (w : World) (cs : Array Value), w.heap[id]? = some (.cells cs ty (lo, hi)) →
    (∀ v ∈ vs, v.oneCell' = true) → (∀ j, j < vs.length → off + i + j < cs.size ∧ (decide (lo ≤ off + i + j) && decide (off + i + j < hi)) = false) →
    ∃ w' cs', (storeCells ⟨id, off, none⟩ vs i).run P w = .ok () w' ∧ w'.os = w.os ∧ w'.tape = w.tape ∧ w'.output = w.output ∧ w'.heap.size = w.heap.size ∧ (∀ k, k ≠ id → w'.heap[k]? = w.heap[k]?) ∧
      w'.heap[id]? = some (.cells cs' ty (lo, hi)) ∧ cs'.size = cs.size ∧ (∀ j, cs'[j]? = if off + i ≤ j ∧ j < off + i + vs.length then vs[j - (off + i)]? else cs[j]?)
  | [], i, w, cs, hb, _, _ => ⟨w, cs, rfl, rfl, rfl, rfl, rfl, fun _ _ => rfl, hb, rfl, fun j => by rw [if_neg (by simp only [List.length_nil]; omega)]⟩
  | v :: vs, i, w, cs, hb, h1, h2 => by
    obtain ⟨hlt, hfz⟩ := h2 0 (by simp)
    simp only [Nat.add_zero] at hlt hfz
    have hc : w.cell? ⟨id, off + i, none⟩ = some cs[off + i] := by simp [World.cell?, hb, hlt]
    have hf : w.frozen? ⟨id, off + i, none⟩ = false := by simp only [World.frozen?, hb]; exact hfz
    have hb' : (w.setCell ⟨id, off + i, none⟩ v).heap[id]? = some (.cells (cs.setIfInBounds (off + i) v) ty (lo, hi)) := by
      simp [World.setCell, Array.getElem?_modify, hb]
    obtain ⟨w', cs', hr, ho, ht, hout, hsz, hoth, hb2, hcs, hget⟩ := storeCells_spec P id off ty lo hi vs (i + 1) (w.setCell ⟨id, off + i, none⟩ v) (cs.setIfInBounds (off + i) v) hb'
      (fun u hu => h1 u (List.mem_cons_of_mem _ hu)) (fun j hj => by
        have := h2 (j + 1) (by simp; omega)
        rw [show off + (i + 1) + j = off + i + (j + 1) by omega]
        simpa using this)
    refine ⟨w', cs', ?_, ho.trans rfl, ht.trans rfl, hout.trans rfl, hsz.trans (by simp), fun k hk => (hoth k hk).trans ?_, hb2, by simpa using hcs, fun j => ?_⟩
    · simp only [storeCells, Sem.run_bind, Addr.add_lit]
      rw [run_store P w _ v .plain (h1 v (List.mem_cons_self ..)), hc, hf]
      simpa using hr
    · simp only [World.setCell, Array.getElem?_modify]
      rw [if_neg (by simpa using fun e => hk e.symm)]
    · rw [hget j]
      by_cases e : j = off + i
      · subst e
        rw [if_neg (by omega), if_pos (by simp)]
        simp [hlt]
      · by_cases hin : off + (i + 1) ≤ j ∧ j < off + (i + 1) + vs.length
        · rw [if_pos hin, if_pos (by simp; omega), show j - (off + i) = (j - (off + (i + 1))) + 1 by omega]; simp
        · rw [if_neg hin, if_neg (by simp; omega)]
          simp [Array.getElem?_setIfInBounds_ne (fun h => e h.symm)]

theorem denL_one : ∀ {ys : List SV} {vs : List Value}, DenL E ys vs → allOne ys = true → ∀ v ∈ vs, v.oneCell' = true
  | [], _, h, _ => by cases h; simp
  | y :: ys, _, ⟨v, vs, hv, h, e⟩, h1 => by
    subst e
    simp only [allOne, Bool.and_eq_true] at h1
    intro u hu
    rcases List.mem_cons.1 hu with rfl | hu
    · exact den_one hv h1.1
    · exact denL_one h h1.2 u hu

theorem flat_of_allOne {y : SV} (h : allOne y.cells = true) : ∀ x, y ≠ .val (.agg x) := fun x e => by
  subst e; simp [SV.cells, allOne, SV.one] at h

theorem Emb.stored (hE : Emb P B w0 X E w) {k id c : Nat} {o : Ob} (ho : X.objs.get k = some o) (hk : E k = some (id, c)) (hro : o.ro = false) {off : Nat} {ys : List SV} {vs : List Value}
    (hv : DenL E ys vs) (h1 : allOne ys = true) (hlen : off + ys.length ≤ o.n) (Q : Program) :
    ∃ w', (storeCells ⟨id, off, none⟩ vs 0).run Q w = .ok () w' ∧ Emb P B w0 { X with objs := X.objs.put k { o with ver := o.ver + 1, ov := storeN o.ov off ys } } E w' := by
  obtain ⟨id', c', hk', hrel, hBid⟩ := hE.obj k o ho
  obtain ⟨hit, cs, ty, lo, hi, hb, hc, hnro⟩ := hrel.cs hro
  rw [hk] at hk'; cases hk'
  obtain ⟨hty, hfz, hn, hl1, hl2⟩ := hnro hro
  subst hty
  have hlen' := hv.length
  obtain ⟨w', cs', hr, hos, ht, hout, hsz, hoth, hb2, hcs, hget⟩ := storeCells_spec Q id off o.ty lo hi vs 0 w cs hb (denL_one hv h1) (fun j hj => ⟨by omega, by rcases hfz with e | e <;> simp <;> omega⟩)
  refine ⟨w', hr, hos.trans hE.os, ht.trans hE.tape, hout.trans hE.output, by rw [hsz]; exact hE.base, fun k' hk' => ?_, fun k' o' hk' => ?_, fun k1 k2 o1 o2 i c1 c2 hk1 hk2 he1 he2 => ?_, hE.fresh, hE.glob, hE.nle⟩
  · have := hBid (.inl hro)
    rw [hoth k' (by omega)]; exact hE.old k' hk'
  · rcases Hp.get_put_some hk' with ⟨e, e2⟩ | ⟨e, ho'⟩
    · subst e; subst e2
      refine ⟨id, c, hk, .inl ⟨hit, cs', _, lo, hi, hb2, fun j y hj => ?_, fun _ => ⟨rfl, by rw [hcs]; exact hfz, by simpa [hcs] using hn, fun h => by rw [hcs]; exact hl1 h, fun h => by rw [hcs]; exact hl2 h⟩⟩, hBid⟩
      have hjlt : j < o.n := Ob.get_lt (o := { o with ver := o.ver + 1, ov := storeN o.ov off ys }) hj
      have hbl : Nat.blt j o.n = true := by rw [Nat.blt_eq]; exact hjlt
      rw [hget j]
      simp only [Nat.add_zero]
      unfold Ob.get at hj
      simp only [hbl, cond_true] at hj
      rw [get_storeN_eq ys o.ov off j] at hj
      by_cases hin : off ≤ j ∧ j < off + ys.length
      · rw [if_pos hin] at hj
        rw [if_pos (by omega)]
        cases hy : ys[j - off]? with
        | none => rw [List.getElem?_eq_none_iff] at hy; omega
        | some z =>
          simp only [hy] at hj; cases hj
          exact hv.get _ _ hy
      · rw [if_neg hin] at hj
        rw [if_neg (by omega)]
        exact hc j y (by unfold Ob.get; simp [hbl]; exact hj)
    · obtain ⟨i, c', he, hrel, hb3⟩ := hE.obj k' o' ho'
      have hne : i ≠ id := fun e2 => e (hE.inj k' k o' o i c' c ho' ho he (by rw [hk, e2]))
      exact ⟨i, c', he, by rw [hoth i hne]; exact hrel, hb3⟩
  · have f1 : ∃ o1', X.objs.get k1 = some o1' := by
      rcases Hp.get_put_some hk1 with ⟨e, _⟩ | ⟨_, h⟩
      · exact ⟨o, e ▸ ho⟩
      · exact ⟨_, h⟩
    have f2 : ∃ o2', X.objs.get k2 = some o2' := by
      rcases Hp.get_put_some hk2 with ⟨e, _⟩ | ⟨_, h⟩
      · exact ⟨o, e ▸ ho⟩
      · exact ⟨_, h⟩
    obtain ⟨o1', h1'⟩ := f1
    obtain ⟨o2', h2'⟩ := f2
    exact hE.inj k1 k2 o1' o2' i c1 c2 h1' h2' he1 he2
end
end Go.Xe
