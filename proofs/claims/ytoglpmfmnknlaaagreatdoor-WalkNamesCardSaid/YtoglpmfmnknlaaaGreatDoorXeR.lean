/- A part of an evaluator for the code. -/
import Derived.Test.YtoglpmfmnknlaaaGreatDoorXeQ
namespace Go.Xe
section
variable {P : Program} {B : Nat} {w0 w : World} {X : XW} {E : Env}

theorem DenL.takeN {ys : List SV} {vs : List Value} (n : Nat) (h : DenL E ys vs) : DenL E (ys.take n) (vs.take n) := DenL.take n h

theorem allOne_take : ∀ {ys : List SV} (n : Nat), allOne ys = true → allOne (ys.take n) = true
  | [], n, _ => by simp [allOne]
  | y :: ys, 0, _ => rfl
  | y :: ys, n + 1, h => by
    simp only [allOne, Bool.and_eq_true] at h
    simp only [List.take_succ_cons, allOne, Bool.and_eq_true]
    exact ⟨h.1, allOne_take n h.2⟩

theorem copy_good {ts : Array TypeId} {t ty : Nat} {s x y : SV} {sv xv : Value} {X' : XW} (hE : Emb P B w0 X E w) (h0 : ts[0]? = some t)
    (hs : Den E s sv) (hx : Den E x xv) (h : semCopy P t s x X = some (y, X')) : Good P B w0 E w (Builtin.copy_ ts ty #[sv, xv]) y X' := by
  unfold semCopy at h
  split at h <;> try (cases h; done)
  rename_i e ht
  split at h <;> try (cases h; done)
  rename_i sz hsz
  split at h <;> try (cases h; done)
  rename_i n ny hel
  cases c2 : Nat.beq ny.length (n * sz) with
  | false => simp [c2] at h
  | true =>
  cases c3 : allOne ny with
  | false => simp [c2, c3] at h
  | true =>
  simp only [c2, c3, Bool.and_self, cond_true] at h
  have c2' := Nat.eq_of_beq_eq_true c2
  obtain ⟨news, hv, hlen, hfc⟩ := appElems_spec (P := P) hE hx hel c2'
  have hnl : news.length = n * sz := by rw [hv.length, c2']
  split at h
  · rename_i a c
    have e1 : sv = _ := hs
    subst e1
    cases ha : Nat.beq a 0 with
    | false => simp [ha] at h
    | true =>
    have ha' := Nat.eq_of_beq_eq_true ha
    subst ha'
    simp only [ha, cond_true, Option.some.injEq, Prod.mk.injEq] at h
    obtain ⟨rfl, rfl⟩ := h
    have hf := hfc w rfl 0 (Nat.zero_le _)
    refine ⟨E, .int .i64 0, w, Le.refl _, ?_, rfl, hE⟩
    simp [Builtin.copy_, h0, run_underlying ht, tySize_run hsz, hlen, hf, goInt]
  · rename_i k off len cap lo
    split at h <;> try (cases h; done)
    rename_i o ho
    rw [force_eq] at h
    cases c4 : Nat.ble (off + len * sz) o.n with
    | false => simp [c4] at h
    | true =>
    cases c6 : o.ro with
    | true => simp [c4, c6] at h
    | false =>
    rw [show (Nat.ble (off + len * sz) o.n && !o.ro) = true by simp [c4, c6]] at h
    simp only [cond_true, Option.some.injEq, Prod.mk.injEq] at h
    obtain ⟨rfl, rfl⟩ := h
    have c4' := Nat.le_of_ble_eq_true c4
    have hs' : ∃ id c capv, E k = some (id, c) ∧ sv = .slice (some ⟨id, off, none⟩) len capv := by
      cases cap with
      | none => obtain ⟨id, c, e1, e2⟩ := hs; exact ⟨id, c, _, e1.1, e2⟩
      | some cap => obtain ⟨id, c, e1, e2⟩ := hs; exact ⟨id, c, _, e1, e2⟩
    obtain ⟨id, c, capv, hk, rfl⟩ := hs'
    have hmn : Nat.min n len ≤ n := Nat.min_le_left _ _
    have hml : Nat.min n len ≤ len := Nat.min_le_right _ _
    have hlen2 : off + (ny.take (Nat.min n len * sz)).length ≤ o.n := by
      have := Nat.mul_le_mul_right sz hml
      rw [List.length_take]; omega
    obtain ⟨w', hst, hE'⟩ := hE.stored (Q := P) ho hk c6 (DenL.takeN (Nat.min n len * sz) hv) (allOne_take _ c3) hlen2
    have hf := hfc w rfl _ hmn
    refine ⟨E, .int .i64 (Nat.min n len), w', Le.refl _, ?_, rfl, hE'⟩
    simp [Builtin.copy_, h0, run_underlying ht, tySize_run hsz, hlen, hf, hst, goInt]
  · cases h

theorem isU8_spec {e : TypeId} (h : isU8 P e = true) : P.underlying e = some (.int .u8) := by
  unfold isU8 at h
  split at h <;> first | assumption | cases h

theorem bytesOf_spec : ∀ {ys : List SV} {ns : List Int} {vs : List Value}, bytesOf ys = some ns → DenL E ys vs → vs = ns.map (Value.int .u8)
  | [], ns, vs, h, hd => by simp [bytesOf] at h; subst h; cases hd; rfl
  | .int .u8 n :: ys, ns, vs, h, ⟨v, vs', hv, hd, e⟩ => by
    simp only [bytesOf] at h
    split at h <;> try (cases h; done)
    rename_i ns' hns
    cases h
    have e1 : v = _ := hv
    subst e; subst e1
    rw [bytesOf_spec hns hd]; rfl

theorem freeze_new (w1 : World) (cs : Array Value) (e : TypeId) : (w1.alloc (.cells cs e)).freeze ⟨w1.heap.size, cs.size, none⟩ 1 = w1.alloc (.cells cs e (cs.size, cs.size + 1)) := by
  have : ∀ f : Obj → Obj, (w1.heap.push (Obj.cells cs e)).modify w1.heap.size f = w1.heap.push (f (.cells cs e)) := by
    intro f
    apply Array.ext_getElem?
    intro i
    rw [Array.getElem?_modify, Array.getElem?_push, Array.getElem?_push]
    by_cases h : w1.heap.size = i
    · subst h; simp
    · simp [h, Ne.symm h]
  have e2 : (w1.alloc (.cells cs e)).heap = w1.heap.push (.cells cs e) := rfl
  unfold World.freeze
  rw [if_neg (by decide), e2, this]
  rfl

theorem Emb.marked {off : Nat} (hE : Emb P B w0 X E w) {k id c : Nat} {o : Ob} (ho : X.objs.get k = some o) (hk : E k = some (id, c)) (hro : o.ro = false) :
    ∃ w', (markStringish ⟨id, off, none⟩).run P w = .ok () w' ∧ Emb P B w0 X E w' := by
  obtain ⟨i', c', hk', hrel0, hBid⟩ := hE.obj k o ho
  obtain ⟨hit, cs, ty, lo, hi, hb, hc, hnro⟩ := hrel0.cs hro
  rw [hk] at hk'; cases hk'
  obtain ⟨hty, hfz, hn, hl1, hl2⟩ := hnro hro
  have hsh : w.shape? id = some (ty, cs.size) := by simp [World.shape?, hb]
  have hb2 : (w.freeze ⟨id, cs.size, none⟩ 1).heap[id]? = some (.cells cs ty (if lo == hi then (cs.size, cs.size + 1) else (min lo cs.size, max hi (cs.size + 1)))) := by
    simp [World.freeze, Array.getElem?_modify, hb]
  have hoth : ∀ j, j ≠ id → (w.freeze ⟨id, cs.size, none⟩ 1).heap[j]? = w.heap[j]? := fun j hj => by
    simp [World.freeze, Array.getElem?_modify, Ne.symm hj]
  have hfr : ∃ l h, (if lo == hi then (cs.size, cs.size + 1) else (min lo cs.size, max hi (cs.size + 1))) = (l, h) ∧ (l = h ∨ cs.size ≤ l) := by
    by_cases e : lo = hi
    · exact ⟨cs.size, cs.size + 1, by simp [e], .inr (Nat.le_refl _)⟩
    · refine ⟨min lo cs.size, max hi (cs.size + 1), by simp [e], .inr ?_⟩
      rcases hfz with h | h
      · exact absurd h e
      · omega
  obtain ⟨l, h, hlh, hfr⟩ := hfr
  rw [hlh] at hb2
  refine ⟨w.freeze ⟨id, cs.size, none⟩ 1, by simp [markStringish, hsh], hE.os, hE.tape, hE.output, ?_, fun j hj => ?_, fun j oj hj => ?_, hE.inj, hE.fresh, hE.glob, hE.nle⟩
  · have := hE.base
    simpa [World.freeze] using this
  · rw [hoth j (by have := hBid (.inl hro); omega)]; exact hE.old j hj
  · by_cases hjk : j = k
    · subst hjk
      rw [ho] at hj; cases hj
      exact ⟨id, c, hk, .inl ⟨hit, cs, ty, l, h, hb2, hc, fun _ => ⟨hty, hfr, hn, hl1, hl2⟩⟩, hBid⟩
    · obtain ⟨i, c2, he, hrel, hb3⟩ := hE.obj j oj hj
      have hne : i ≠ id := fun e2 => hjk (hE.inj j k oj o i c2 c hj ho he (by rw [hk, e2]))
      exact ⟨i, c2, he, by rw [hoth i hne]; exact hrel, hb3⟩

theorem convX_good {s d : TypeId} {x y : SV} {u : Value} {X' : XW} (hE : Emb P B w0 X E w) (hx : Den E x u) (h : convX P s d x X = some (y, X')) : Good P B w0 E w (convert s d u) y X' := by
  unfold convX at h
  split at h
  · rename_i e b hs hd
    cases c1 : isU8 P e with
    | false => simp [c1] at h
    | true =>
    cases c2 : Nat.ble b.size 35184372088832 with
    | false => simp [c1, c2] at h
    | true =>
    simp only [c1, c2, Bool.and_self, cond_true, Option.some.injEq, Prod.mk.injEq] at h
    obtain ⟨rfl, rfl⟩ := h
    have he := isU8_spec c1
    have e1 : u = _ := hx
    subst e1
    have hrun := Lib.run_convert_string_bytes w s d e b hs hd he
    have hge := grownCap_ge w b.size 0 e
    have hsz : (Lib.bytesCells w e b).size = grownCap w b.size 0 e := by
      have : b.data.size = b.size := rfl
      simp [Lib.bytesCells, this]; omega
    have hlist : Lib.bytesCells w e b = ((b.data.toList.map fun z : UInt8 => Value.int .u8 z.toNat) ++ List.replicate (grownCap w b.size 0 e - b.size) (Value.int .u8 0)).toArray := by
      apply Array.ext'
      simp [Lib.bytesCells]
    obtain ⟨E', hle, hk, hE'⟩ := loose_good (ty := e) (esz := 1) (c := grownCap w b.size 0 e) (lo := grownCap w b.size 0 e) (hi := grownCap w b.size 0 e + 1) (ys := strCells b) (vs := b.data.toList.map fun z : UInt8 => Value.int .u8 z.toNat)
      (rest := List.replicate (grownCap w b.size 0 e - b.size) (.int .u8 0)) hE.drew (den_strCells b) (by
        have : b.data.size = b.size := rfl
        simp [this]; omega) (.inr (by omega))
    refine ⟨E', _, _, hle, hrun, ⟨_, _, ⟨hk, by omega⟩, by simp⟩, ?_⟩
    have hw : Lib.bytesWorld w e b = w.drew.alloc (.cells (Lib.bytesCells w e b) e (grownCap w b.size 0 e, grownCap w b.size 0 e + 1)) := by
      unfold Lib.bytesWorld
      have := freeze_new w.drew (Lib.bytesCells w e b) e
      rw [← hsz]
      exact this
    rw [hw, hlist]
    exact hE'
  · rename_i e' e k off n cap lo hs hd
    cases c1 : isU8 P e with
    | false => simp [c1] at h
    | true =>
    cases c2 : Nat.beq s d with
    | false => simp [c1, c2] at h
    | true =>
    have c2' := Nat.eq_of_beq_eq_true c2
    subst c2'
    simp only [c1, c2, Bool.and_self, cond_true] at h
    split at h <;> try (cases h; done)
    rename_i o ho
    cases c3 : o.ro with
    | true => simp [c3] at h
    | false =>
    simp only [c3, cond_false, Option.some.injEq, Prod.mk.injEq] at h
    obtain ⟨rfl, rfl⟩ := h
    have he := isU8_spec c1
    have hx' : ∃ id c capv, E k = some (id, c) ∧ u = .slice (some ⟨id, off, none⟩) n capv := by
      cases cap with
      | none => obtain ⟨id, c, e1, e2⟩ := hx; exact ⟨id, c, _, e1.1, e2⟩
      | some cap => obtain ⟨id, c, e1, e2⟩ := hx; exact ⟨id, c, _, e1, e2⟩
    obtain ⟨id, c, capv, hk, hu⟩ := hx'
    obtain ⟨w', hr, hE'⟩ := hE.marked (P := P) (off := off) ho hk c3
    refine ⟨E, u, w', Le.refl _, ?_, hx, hE'⟩
    subst hu
    rw [hs] at hd; cases hd
    simp [convert, run_underlying hs, run_underlying he, hr]
  · rename_i e a c hs hd
    cases c1 : isU8 P e with
    | false => simp [c1] at h
    | true =>
    simp only [c1, cond_true, Option.some.injEq, Prod.mk.injEq] at h
    obtain ⟨rfl, rfl⟩ := h
    have he := isU8_spec c1
    have e1 : u = _ := hx
    subst e1
    exact ⟨E, .string .empty, w, Le.refl _, by simp [convert, run_underlying hs, run_underlying hd, run_underlying he, Conv.bytesToString], rfl, hE⟩
  · rename_i e k off n cap lo hs hd
    cases c1 : isU8 P e with
    | false => simp [c1] at h
    | true =>
    simp only [c1, cond_true] at h
    split at h <;> try (cases h; done)
    rename_i o ho
    split at h <;> try (cases h; done)
    rename_i ys hys
    split at h <;> try (cases h; done)
    rename_i ns hns
    cases h
    have he := isU8_spec c1
    have hx' : ∃ id c capv, E k = some (id, c) ∧ u = .slice (some ⟨id, off, none⟩) n capv := by
      cases cap with
      | none => obtain ⟨id, c, e1, e2⟩ := hx; exact ⟨id, c, _, e1.1, e2⟩
      | some cap => obtain ⟨id, c, e1, e2⟩ := hx; exact ⟨id, c, _, e1, e2⟩
    obtain ⟨id, c, capv, hk, rfl⟩ := hx'
    obtain ⟨id', c', hk', hrel, _⟩ := hE.obj k o ho
    rw [hk] at hk'; cases hk'
    obtain ⟨vs, h1, h2, h3⟩ := loadN_spec hrel _ off ys hys
    have hvs := bytesOf_spec hns h1
    have hl := run_loadCells_list (P := P) (w := w) ⟨id, off, none⟩ vs (fun j v hj => by rw [Addr.add_lit]; exact h3 j v hj)
    rw [h2, hvs] at hl
    have hr := run_bytesToString (P := P) w ⟨id, off, none⟩ n capv ns hl
    exact ⟨E, _, w, Le.refl _, by simp [convert, run_underlying hs, run_underlying hd, run_underlying he, hr, bytesStr], rfl, hE⟩
  · cases h

theorem cap_yes {t ty : TypeId} {ts : Array TypeId} {x z : SV} {u : Value} (ht : ts[0]? = some t) (hx : Den E x u) (h : capE P t x = some z) : Yes P E w (Builtin.cap_ ts ty #[u]) z := by
  unfold capE at h
  split at h <;> (try (cases h; done)) <;> rename_i hu
  · obtain ⟨id, c, _, rfl⟩ := hx
    cases h
    exact ⟨_, by simp [Builtin.cap_, ht, und_run hu]; rfl, rfl⟩
  · have e1 : u = _ := hx; subst e1
    simp only [forceI_eq, Option.some.injEq] at h; subst h
    exact ⟨_, by simp [Builtin.cap_, ht, und_run hu]; rfl, rfl⟩
  · have e1 : u = _ := hx; subst e1
    simp only [Option.some.injEq] at h; subst h
    exact ⟨_, by simp [Builtin.cap_, ht, und_run hu]; rfl, rfl⟩

theorem min_yes {ty : TypeId} {ts : Array TypeId} {x y z : SV} {u v : Value} (hx : Den E x u) (hy : Den E y v) (h : minE x y = some z) : Yes P E w (Builtin.min_ ts ty #[u, v]) z := by
  unfold minE at h
  split at h <;> (try (cases h; done)) <;> (have e1 : u = _ := hx; have e2 : v = _ := hy; subst e1; subst e2; cases h)
  all_goals exact ⟨_, by simp [Builtin.min_, Builtin.min2]; rfl, by simp [Den, Bool.cond_decide]⟩
theorem max_yes {ty : TypeId} {ts : Array TypeId} {x y z : SV} {u v : Value} (hx : Den E x u) (hy : Den E y v) (h : maxE x y = some z) : Yes P E w (Builtin.max_ ts ty #[u, v]) z := by
  unfold maxE at h
  split at h <;> (try (cases h; done)) <;> (have e1 : u = _ := hx; have e2 : v = _ := hy; subst e1; subst e2; cases h)
  all_goals exact ⟨_, by simp [Builtin.max_, Builtin.max2]; rfl, by simp [Den, Bool.cond_decide]⟩

theorem range_good {t : TypeId} {x y : SV} {u : Value} {X' : XW} (hE : Emb P B w0 X E w) (hx : Den E x u) (h : semRange P t x X = some (y, X')) : Good P B w0 E w (Instr.range t u) y X' := by
  unfold semRange at h
  split at h <;> try (cases h; done)
  rename_i s hu
  have e1 : u = _ := hx
  subst e1
  cases h
  refine ⟨E.put X.next w.heap.size 0, .pointer (some ⟨w.heap.size, 0, none⟩), w.alloc (.stringIter s 0), Env.le_put (hE.fresh _ (Nat.le_refl _)) hE.nle, ?_, ⟨_, _, Env.put_same _ _ _ _, rfl⟩, hE.newOb _ _ 0 fun E' _ => .inr ⟨rfl, rfl, rfl⟩⟩
  simp [Instr.range, run_underlying hu]

theorem SpRel.nocells {s : Sp} {ob : Obj} (h : SpRel P E s (some ob)) : ∀ c e f, ob ≠ .cells c e f := by
  intro c e f hh
  subst hh
  cases s with
  | cells => exact h
  | iter s pos => have h' : (some (Obj.cells c e f)) = some (.stringIter s pos) := h; cases h'
  | map es clock => obtain ⟨l, h1, _⟩ := h; cases h1
  | loop st pend ord me N F ps a c2 b => obtain ⟨_, r, h1, _⟩ := h; cases h1
  | blk t => have h' : (some (Obj.cells c e f)) = some (.deferred (bif t then none else some [])) := h; cases h'

theorem Emb.spAt (hE : Emb P B w0 X E w) {k : Nat} {o : Ob} (ho : X.objs.get k = some o) (hs : o.sp ≠ .cells) : ∃ id c, E k = some (id, c) ∧ SpRel P E o.sp w.heap[id]? ∧ o.n = 0 ∧ o.ro = true ∧ B ≤ id := by
  obtain ⟨id, c, hk, hrel, hB⟩ := hE.obj k o ho
  rcases hrel with ⟨h, _⟩ | ⟨h1, h2, h3⟩
  · exact absurd h hs
  · exact ⟨id, c, hk, h1, h2, h3, hB (.inr hs)⟩

theorem Emb.setSp (hE : Emb P B w0 X E w) {k id c : Nat} {o : Ob} {s : Sp} {obj' : Obj} (ho : X.objs.get k = some o) (hs : o.sp ≠ .cells) (hk : E k = some (id, c)) (hr : SpRel P E s (some obj')) (Q : Program) :
    ∃ w', (setObj id obj').run Q w = .ok () w' ∧ Emb P B w0 { X with objs := X.objs.put k { o with ver := o.ver + 1, sp := s } } E w' := by
  obtain ⟨id', c', hk', hrel, hn0, hro, hBid⟩ := hE.spAt ho hs
  rw [hk] at hk'; cases hk'
  obtain ⟨ob, hobj⟩ := hrel.there
  have hidlt : id < w.heap.size := (Array.getElem?_eq_some_iff.1 hobj).1
  rw [hobj] at hrel
  have hnc := hrel.nocells
  refine ⟨{ w with heap := w.heap.setIfInBounds id obj' }, by cases ob <;> first | exact absurd rfl (hnc _ _ _) | simp [setObj, Sem.run, hobj], ?_⟩
  refine ⟨hE.os, hE.tape, hE.output, by simpa using hE.base, fun j hj => ?_, fun j oj hj => ?_, fun j j' o1 o2 i c1 c2 hj hj' he he' => ?_, hE.fresh, hE.glob, hE.nle⟩
  · show (w.heap.setIfInBounds id _)[j]? = _
    rw [Array.getElem?_setIfInBounds_ne (by omega)]; exact hE.old j hj
  · rcases Hp.get_put_some hj with ⟨e, e2⟩ | ⟨e, hl⟩
    · subst e; subst e2
      refine ⟨id, c, hk, .inr ⟨?_, hn0, hro⟩, fun _ => hBid⟩
      show SpRel P E s (w.heap.setIfInBounds id _)[id]?
      rw [Array.getElem?_setIfInBounds_self_of_lt hidlt]
      exact hr
    · obtain ⟨i, c', he, hr, hb2⟩ := hE.obj j oj hl
      have hne : i ≠ id := fun e2 => e (hE.inj j k oj o i c' c hl ho he (by rw [hk, e2]))
      refine ⟨i, c', he, ?_, hb2⟩
      show ObjRel P E oj (w.heap.setIfInBounds id _)[i]? c'
      rw [Array.getElem?_setIfInBounds_ne (fun e => hne e.symm)]; exact hr
  · have f : ∀ q oq, (X.objs.put k { o with ver := o.ver + 1, sp := s }).get q = some oq → ∃ oq', X.objs.get q = some oq' := fun q oq hq => by
      rcases Hp.get_put_some hq with ⟨e, _⟩ | ⟨_, h⟩
      · exact ⟨o, e ▸ ho⟩
      · exact ⟨_, h⟩
    obtain ⟨o1', h1'⟩ := f j o1 hj
    obtain ⟨o2', h2'⟩ := f j' o2 hj'
    exact hE.inj j j' o1' o2' i c1 c2 h1' h2' he he'

theorem getObj_run {id : Nat} {ob : Obj} {s : Sp} (h : w.heap[id]? = some ob) (hs : SpRel P E s (some ob)) : (getObj id).run P w = .ok ob w := by
  have hnc := hs.nocells
  cases ob <;> first | exact absurd rfl (hnc _ _ _) | simp [getObj, Sem.run, h]

theorem next_good {k id c : Nat} {ty : TypeId} {y : SV} {X' : XW} (hE : Emb P B w0 X E w) (hk : E k = some (id, c)) (h : semNext k X = some (y, X')) : Good P B w0 E w (Instr.next (.pointer (some ⟨id, 0, none⟩)) true ty) y X' := by
  unfold semNext at h
  split at h <;> try (cases h; done)
  rename_i o ho
  split at h <;> try (cases h; done)
  rename_i s pos hit
  have hne : o.sp ≠ .cells := by rw [hit]; simp
  obtain ⟨id', c', hk', hrel, hn0, hro, hBid⟩ := hE.spAt ho hne
  rw [hk] at hk'; cases hk'
  rw [hit] at hrel
  have hobj : w.heap[id]? = some (.stringIter s pos) := hrel
  have hg := getObj_run (P := P) hobj (hobj ▸ hrel)
  cases hb : Nat.blt pos s.size with
  | false =>
    rw [hb] at h
    cases h
    have hlt : ¬ pos < s.size := fun h' => by have : Nat.blt pos s.size = true := by rw [Nat.blt_eq]; exact h'
                                              rw [hb] at this; cases this
    exact ⟨E, _, w, Le.refl _, by simp only [Instr.next, Sem.run_bind, hg, Result.andThen_ok]; rw [if_neg hlt]; rfl, ⟨[.bool false], ⟨_, _, rfl, rfl, rfl⟩, rfl⟩, hE⟩
  | true =>
    rw [hb] at h
    simp only [cond_true, force_eq, forceI_eq, Option.some.injEq, Prod.mk.injEq] at h
    obtain ⟨rfl, rfl⟩ := h
    have hlt : pos < s.size := by rw [Nat.blt_eq] at hb; exact hb
    obtain ⟨w', hset, hE'⟩ := hE.setSp (s := .iter s (pos + (Utf8.decode s pos).2)) (obj' := .stringIter s (pos + (Utf8.decode s pos).2)) ho hne hk rfl P
    refine ⟨E, .tuple #[.bool true, .int .i64 pos, .int .i32 (Utf8.decode s pos).1], w', Le.refl _, ?_,
      ⟨[.bool true, .int .i64 pos, .int .i32 (Utf8.decode s pos).1], ⟨_, _, rfl, ⟨_, _, rfl, ⟨_, _, rfl, rfl, rfl⟩, rfl⟩, rfl⟩, rfl⟩, hE'⟩
    simp only [Instr.next, Sem.run_bind, hg, Result.andThen_ok]
    rw [if_pos hlt]
    simp [hset, goInt]

theorem blt_good {b : Builtin} {ts : Array TypeId} {ty : TypeId} {consts : Array Bool} {vals : List SV} {vv : List Value} {y : SV} {X' : XW} (hE : Emb P B w0 X E w) (hv : DenL E vals vv) (h : bltE P b ts vals X = some (y, X')) :
    ∃ E' v w', Le E E' ∧ (builtin b ts ty consts vv.toArray).run P w = .ok (.value v) w' ∧ Den E' y v ∧ Emb P B w0 X' E' w' := by
  have two : ∀ {x1 x2 : SV}, DenL E [x1, x2] vv → ∃ u1 u2, vv = [u1, u2] ∧ Den E x1 u1 ∧ Den E x2 u2 := by
    rintro x1 x2 ⟨u1, _, h1, ⟨u2, _, h2, h3, e2⟩, e1⟩
    cases h3
    exact ⟨u1, u2, by rw [e1, e2], h1, h2⟩
  have one : ∀ {x1 : SV}, DenL E [x1] vv → ∃ u1, vv = [u1] ∧ Den E x1 u1 := by
    rintro x1 ⟨u1, _, h1, h2, e1⟩
    cases h2
    exact ⟨u1, e1, h1⟩
  have yes : ∀ {s : Sem Value}, Yes P E w s y → X' = X → ∃ E' v w', Le E E' ∧ (do Pure.pure (Next.value (← s)) : Sem Next).run P w = .ok (.value v) w' ∧ Den E' y v ∧ Emb P B w0 X' E' w' := by
    rintro s ⟨v, h1, h2⟩ rfl
    exact ⟨E, v, w, Le.refl _, by simp [h1], h2, hE⟩
  have good : ∀ {s : Sem Value}, Good P B w0 E w s y X' → ∃ E' v w', Le E E' ∧ (do Pure.pure (Next.value (← s)) : Sem Next).run P w = .ok (.value v) w' ∧ Den E' y v ∧ Emb P B w0 X' E' w' := by
    rintro s ⟨E', v, w', h1, h2, h3, h4⟩
    exact ⟨E', v, w', h1, by simp [h2], h3, h4⟩
  have wx : ∀ {o : Option SV}, withX X o = some (y, X') → o = some y ∧ X' = X := by
    intro o h
    unfold withX at h
    split at h <;> simp at h
    obtain ⟨rfl, rfl⟩ := h
    exact ⟨rfl, rfl⟩
  unfold bltE at h
  split at h
  · split at h <;> try (cases h; done)
    rename_i t ht
    obtain ⟨u, rfl, hu⟩ := one hv
    obtain ⟨h', e⟩ := wx h
    exact yes (len_yes ht hu h') e
  · split at h <;> try (cases h; done)
    rename_i t ht
    obtain ⟨u, rfl, hu⟩ := one hv
    obtain ⟨h', e⟩ := wx h
    exact yes (cap_yes ht hu h') e
  · obtain ⟨u, v, rfl, hu, hv'⟩ := two hv
    obtain ⟨h', e⟩ := wx h
    exact yes (min_yes hu hv' h') e
  · obtain ⟨u, v, rfl, hu, hv'⟩ := two hv
    obtain ⟨h', e⟩ := wx h
    exact yes (max_yes hu hv' h') e
  · split at h <;> try (cases h; done)
    rename_i t u' ht hu'
    split at h <;> try (cases h; done)
    rename_i d hd
    cases hno : noInt d with
    | false => simp [hno] at h
    | true =>
      simp only [hno, cond_true] at h
      obtain ⟨u, v, rfl, hu, hv'⟩ := two hv
      exact good (append_good hE ht hu' hd hno hu hv' h)
  · split at h <;> try (cases h; done)
    rename_i t ht
    obtain ⟨u, v, rfl, hu, hv'⟩ := two hv
    exact good (copy_good hE ht hu hv' h)
  · cases h
end
end Go.Xe
