/- A part of an evaluator for the code. -/
import Derived.Test.YtoglpmfmnknlaaaGreatDoorXeA
namespace Go.Xe

theorem get_storeN : ∀ (ys : List SV) (t : Tr SV) (off j : Nat) (y : SV), (storeN t off ys).get j = some y →
    (off ≤ j ∧ ys[j - off]? = some y) ∨ ((j < off ∨ off + ys.length ≤ j) ∧ t.get j = some y)
  | [], t, off, j, y, h => .inr ⟨by simp; omega, h⟩
  | z :: ys, t, off, j, y, h => by
    simp only [storeN, force_eq] at h
    rcases get_storeN ys _ _ _ _ h with ⟨h1, h2⟩ | ⟨h1, h2⟩
    · refine .inl ⟨by omega, ?_⟩
      rw [show j - off = (j - (off + 1)) + 1 by omega]
      simpa using h2
    · rcases get_put_some h2 with ⟨e, hy⟩ | ⟨e, hy⟩
      · exact .inl ⟨by omega, by subst e; simp [hy]⟩
      · exact .inr ⟨by simp; omega, hy⟩

theorem get_storeN_eq : ∀ (ys : List SV) (t : Tr SV) (off j : Nat), (storeN t off ys).get j = if off ≤ j ∧ j < off + ys.length then ys[j - off]? else t.get j
  | [], t, off, j => by rw [if_neg (by simp only [List.length_nil]; omega)]; rfl
  | z :: ys, t, off, j => by
    simp only [storeN, force_eq, List.length_cons]
    rw [get_storeN_eq ys _ (off + 1) j, get_put]
    by_cases e : j = off
    · subst e
      rw [if_neg (by omega), if_pos rfl, if_pos (by omega)]; simp
    · rw [if_neg e]
      by_cases h1 : off + 1 ≤ j ∧ j < off + 1 + ys.length
      · rw [if_pos h1, if_pos (by omega), show j - off = (j - (off + 1)) + 1 by omega]; simp
      · rw [if_neg h1, if_neg (by omega)]

theorem get_trieOf (l : List SV) (j : Nat) (y : SV) (h : (trieOf l).get j = some y) : l[j]? = some y := by
  rcases get_storeN _ _ _ _ _ h with ⟨_, h2⟩ | ⟨_, h2⟩
  · simpa using h2
  · cases h2

def CellsRel (E : Env) (o : Ob) (obj : Option Obj) (c : Nat) : Prop :=
  ∃ cs ty lo hi, obj = some (.cells cs ty (lo, hi)) ∧ (∀ j y, o.get j = some y → ∃ v, cs[j]? = some v ∧ Den E y v) ∧
    (o.ro = false → ty = o.ty ∧ (lo = hi ∨ cs.size ≤ lo) ∧ o.n ≤ cs.size ∧ (o.loose = false → cs.size = o.n) ∧ (o.loose = true → cs.size = c * o.esz))
def EntRel (E : Env) : List (SV × SV × Nat) → List MapEntry → Prop
  | [], l => l = []
  | (k, v, b) :: es, l => ∃ e l', Den E k e.key ∧ Den E v e.val ∧ e.born = b ∧ EntRel E es l' ∧ l = e :: l'
theorem EntRel.sub {E E' : Env} (hE : Sub E E') : ∀ {es : List (SV × SV × Nat)} {l : List MapEntry}, EntRel E es l → EntRel E' es l
  | [], _, h => h
  | (_, _, _) :: _, _, ⟨e, l', h1, h2, h3, h4, h5⟩ => ⟨e, l', h1.sub hE, h2.sub hE, h3, EntRel.sub hE h4, h5⟩
def TmpsRel (N : Nat) (E : Env) (F : Tr SV) (tmps : Array Value) : Prop := N ≤ tmps.size ∧ ∀ j y, F.get j = some y → j < N ∧ ∃ v, tmps[j]? = some v ∧ Den E y v
theorem TmpsRel.sub {N : Nat} {E E' : Env} (hE : Sub E E') {F : Tr SV} {tmps : Array Value} (h : TmpsRel N E F tmps) : TmpsRel N E' F tmps :=
  ⟨h.1, fun j y hj => let ⟨l, v, h1, h2⟩ := h.2 j y hj; ⟨l, v, h1, h2.sub hE⟩⟩
def jumpCode : Jump → Option Code
  | .none => none
  | .ret => some .ret
  | .ex id => some (.exit id)
def SpRel (P : Program) (E : Env) (s : Sp) (obj : Option Obj) : Prop := match s with
  | .cells => False
  | .iter s pos => obj = some (.stringIter s pos)
  | .map es clock => ∃ l : List MapEntry, obj = some (.map l.toArray clock) ∧ EntRel E es l
  | .loop st pend ord _ N F ps a c b => (codeOK P ord true a = true ∧ codeOK P ord true c = true) ∧ ∃ r : Loop, obj = some (.loop r) ∧ r.state = st ∧ r.pending = jumpCode pend ∧ r.params = ps ∧ r.assign = a ∧ r.body = c ∧ (∃ cc, E b = some (r.defers, cc)) ∧ TmpsRel N E F r.tmps
  | .blk t => obj = some (.deferred (bif t then none else some []))
theorem SpRel.sub {P : Program} {E E' : Env} (hE : Sub E E') {s : Sp} {obj : Option Obj} (h : SpRel P E s obj) : SpRel P E' s obj := by
  cases s with
  | cells => exact h
  | iter s pos => exact h
  | map es clock => obtain ⟨l, h1, h2⟩ := h; exact ⟨l, h1, h2.sub hE⟩
  | loop st pend ord me N F ps a c b =>
    obtain ⟨h0, r, h1, h2, h3, h4, h5, h6, ⟨cc, h7⟩, h8⟩ := h
    exact ⟨h0, r, h1, h2, h3, h4, h5, h6, ⟨cc, hE _ _ h7⟩, h8.sub hE⟩
  | blk t => exact h
theorem SpRel.there {P : Program} {E : Env} {s : Sp} {obj : Option Obj} (h : SpRel P E s obj) : ∃ x, obj = some x := by
  cases s with
  | cells => exact h.elim
  | iter s pos => exact ⟨_, h⟩
  | map es clock => obtain ⟨l, h1, h2⟩ := h; exact ⟨_, h1⟩
  | loop st pend ord me N F ps a c b => obtain ⟨h0, r, h1, _⟩ := h; exact ⟨_, h1⟩
  | blk t => exact ⟨_, h⟩
def ObjRel (P : Program) (E : Env) (o : Ob) (obj : Option Obj) (c : Nat) : Prop := (o.sp = .cells ∧ CellsRel E o obj c) ∨ (SpRel P E o.sp obj ∧ o.n = 0 ∧ o.ro = true)
theorem spRel_ne {P : Program} {E : Env} {s : Sp} {obj : Option Obj} (h : SpRel P E s obj) : s ≠ .cells := fun e => by subst e; exact h

theorem ObjRel.cs {P : Program} {E : Env} {o : Ob} {obj : Option Obj} {c : Nat} (h : ObjRel P E o obj c) (hro : o.ro = false) : o.sp = .cells ∧ CellsRel E o obj c := by
  rcases h with h | ⟨_, _, h⟩
  · exact h
  · rw [hro] at h; cases h
theorem ObjRel.there {P : Program} {E : Env} {o : Ob} {obj : Option Obj} {c : Nat} (h : ObjRel P E o obj c) : ∃ x, obj = some x := by
  rcases h with ⟨_, cs, ty, lo, hi, h, _⟩ | ⟨h, _⟩
  · exact ⟨_, h⟩
  · exact h.there
theorem ObjRel.sub {P : Program} {E E' : Env} (hE : Sub E E') {o : Ob} {obj : Option Obj} {c : Nat} (h : ObjRel P E o obj c) : ObjRel P E' o obj c := by
  rcases h with ⟨hi, cs, ty, lo, hi', h0, h1, h2⟩ | ⟨h, h'⟩
  · exact .inl ⟨hi, cs, ty, lo, hi', h0, fun j y hj => let ⟨v, a, b⟩ := h1 j y hj; ⟨v, a, b.sub hE⟩, h2⟩
  · exact .inr ⟨h.sub hE, h'⟩
theorem ObjRel.mono {P : Program} {E E' : Env} (hE : Le E E') {o : Ob} {obj : Option Obj} {c : Nat} (h : ObjRel P E o obj c) : ObjRel P E' o obj c := h.sub hE.sub

structure Emb (P : Program) (B : Nat) (w0 : World) (X : XW) (E : Env) (w : World) : Prop where
  os : w.os = w0.os
  tape : w.tape = w0.tape
  output : w.output = w0.output
  base : B ≤ w.heap.size
  old : ∀ k, k < B → w.heap[k]? = w0.heap[k]?
  obj : ∀ k o, X.objs.get k = some o → ∃ id c, E k = some (id, c) ∧ ObjRel P E o w.heap[id]? c ∧ (o.ro = false ∨ o.sp ≠ .cells → B ≤ id)
  inj : ∀ k k' o o' id c c', X.objs.get k = some o → X.objs.get k' = some o' → E k = some (id, c) → E k' = some (id, c') → k = k'
  fresh : ∀ k, X.next ≤ k → E k = none
  glob : ∀ g, g < X.ng → ∃ c, E g = some (g, c)
  nle : E.n ≤ X.next

section
variable {P : Program} {B : Nat} {w0 w : World} {X : XW} {E : Env}

theorem Emb.drew (h : Emb P B w0 X E w) : Emb P B w0 X E { w with drawn := w.drawn + 1 } :=
  ⟨h.os, h.tape, h.output, h.base, h.old, h.obj, h.inj, h.fresh, h.glob, h.nle⟩

theorem Emb.same {X' : XW} (h : Emb P B w0 X E w) (h1 : X'.objs = X.objs) (h2 : X'.next = X.next) (h3 : X'.ng = X.ng) : Emb P B w0 X' E w :=
  ⟨h.os, h.tape, h.output, h.base, h.old, by rw [h1]; exact h.obj, by rw [h1]; exact h.inj, by rw [h2]; exact h.fresh, by rw [h3]; exact h.glob, by rw [h2]; exact h.nle⟩

theorem Emb.lt (h : Emb P B w0 X E w) {k : Nat} {o : Ob} (hk : X.objs.get k = some o) : k < X.next := by
  obtain ⟨id, c, he, _⟩ := h.obj k o hk
  rcases Nat.lt_or_ge k X.next with h1 | h1
  · exact h1
  · rw [h.fresh k h1] at he; cases he

theorem Ob.get_lt {o : Ob} {j : Nat} {y : SV} (h : o.get j = some y) : j < o.n := by
  unfold Ob.get at h
  cases hb : Nat.blt j o.n with
  | true => exact Nat.blt_eq ▸ hb
  | false => simp [hb] at h

theorem ObjRel.cell {o : Ob} {id c j : Nat} {y : SV} (h : ObjRel P E o w.heap[id]? c) (hj : o.get j = some y) :
    ∃ v, w.cell? ⟨id, j, none⟩ = some v ∧ Den E y v := by
  rcases h with ⟨_, cs, ty, lo, hi, h0, h1, _⟩ | ⟨_, h, _⟩
  rotate_left
  · have := Ob.get_lt hj; omega
  obtain ⟨v, hv, hd⟩ := h1 j y hj
  exact ⟨v, by simp [World.cell?, h0, hv], hd⟩

def Env.put (E : Env) (k id c : Nat) : Env := { f := fun j => if j = k then some (id, c) else E j, n := E.n }
theorem Env.put_ne (E : Env) {k j : Nat} (id c : Nat) (h : j ≠ k) : E.put k id c j = E j := if_neg h
theorem Env.put_same (E : Env) (k id c : Nat) : E.put k id c k = some (id, c) := if_pos rfl
theorem Env.sub_put {E : Env} {k id c : Nat} (h : E k = none) : Sub E (E.put k id c) := fun j x hx => by
  by_cases e : j = k
  · subst e; rw [h] at hx; cases hx
  · rw [Env.put_ne E id c e]; exact hx
theorem Env.le_put {E : Env} {k id c : Nat} (h : E k = none) (hn : E.n ≤ k) : Le E (E.put k id c) := ⟨rfl, Env.sub_put h, fun j hj => Env.put_ne E id c (by omega)⟩

theorem Emb.newOb (h : Emb P B w0 X E w) (o : Ob) (ob : Obj) (c : Nat)
    (hrel : ∀ E', Le E E' → ObjRel P E' o (some ob) c) :
    Emb P B w0 (X.new o).2 (E.put X.next w.heap.size c) (w.alloc ob) := by
  have hle : Le E (E.put X.next w.heap.size c) := Env.le_put (h.fresh _ (Nat.le_refl _)) h.nle
  have hlive : ∀ k o', X.objs.get k = some o' → ∀ id c', E k = some (id, c') → id < w.heap.size := by
    intro k o' hk id c' he
    obtain ⟨id', c'', he', hrel', _⟩ := h.obj k o' hk
    obtain ⟨_, hobj⟩ := hrel'.there
    rw [he] at he'; cases he'
    rcases Nat.lt_or_ge id w.heap.size with h1 | h1
    · exact h1
    · rw [Array.getElem?_eq_none h1] at hobj; cases hobj
  have hold : ∀ k, k < w.heap.size → (w.alloc ob).heap[k]? = w.heap[k]? := fun k hk => by
    show (w.heap.push _)[k]? = _
    rw [Array.getElem?_push, if_neg (by omega)]
  have hnew : (w.alloc ob).heap[w.heap.size]? = some ob := by
    show (w.heap.push _)[w.heap.size]? = _
    simp
  have hE : ∀ k, k ≠ X.next → (E.put X.next w.heap.size c) k = E k := fun k hk => Env.put_ne E _ _ hk
  refine ⟨h.os, h.tape, h.output, by simp; have := h.base; omega, fun k hk => ?_, fun k o' hk => ?_, fun k k' o1 o2 id c1 c2 hk hk' he he' => ?_, fun k hk => ?_, fun g hg => let ⟨c, hc⟩ := h.glob g hg; ⟨c, hle.sub _ _ hc⟩, Nat.le_succ_of_le h.nle⟩
  · rw [hold k (by have := h.base; omega)]; exact h.old k hk
  · rcases Hp.get_put_some hk with ⟨e, ho⟩ | ⟨e, ho⟩
    · subst e; subst ho
      exact ⟨w.heap.size, c, Env.put_same _ _ _ _, by rw [hnew]; exact hrel _ hle, fun _ => h.base⟩
    · obtain ⟨id, c', he, hr, hb⟩ := h.obj k o' ho
      exact ⟨id, c', hle.sub _ _ he, by rw [hold id (hlive k o' ho id c' he)]; exact hr.mono hle, hb⟩
  · rcases Hp.get_put_some hk with ⟨e, _⟩ | ⟨e, ho⟩ <;> rcases Hp.get_put_some hk' with ⟨e', _⟩ | ⟨e', ho'⟩
    · rw [e, e']
    · subst e
      rw [Env.put_same] at he; cases he
      rw [hE _ e'] at he'
      have := hlive k' o2 ho' _ _ he'
      omega
    · subst e'
      rw [Env.put_same] at he'; cases he'
      rw [hE _ e] at he
      have := hlive k o1 ho _ _ he
      omega
    · rw [hE _ e] at he; rw [hE _ e'] at he'
      exact h.inj k k' o1 o2 id c1 c2 ho ho' he he'
  · have hk' : X.next + 1 ≤ k := hk
    rw [hE k (by omega)]; exact h.fresh k (by omega)

theorem Emb.new (h : Emb P B w0 X E w) (o : Ob) (cs : Array Value) (c lo hi : Nat) (_hro : o.ro = false) (hit : o.sp = .cells)
    (hrel : ∀ E', Le E E' → CellsRel E' o (some (.cells cs o.ty (lo, hi))) c) :
    Emb P B w0 (X.new o).2 (E.put X.next w.heap.size c) (w.alloc (.cells cs o.ty (lo, hi))) := h.newOb o _ c fun E' hle => .inl ⟨hit, hrel E' hle⟩

def Good (P : Program) (B : Nat) (w0 : World) (E : Env) (w : World) (s : Sem Value) (y : SV) (X' : XW) : Prop :=
  ∃ E' v w', Le E E' ∧ s.run P w = .ok v w' ∧ Den E' y v ∧ Emb P B w0 X' E' w'

theorem Good.pure {s : Sem Value} {y : SV} {v : Value} (hE : Emb P B w0 X E w) (hr : s.run P w = .ok v w) (hd : Den E y v) : Good P B w0 E w s y X :=
  ⟨E, v, w, Le.refl _, hr, hd, hE⟩

theorem newRow_good {ty : TypeId} {ys : List SV} {vs : List Value} (hE : Emb P B w0 X E w) (hv : DenL E ys vs) :
    ∃ E', Le E E' ∧ E' (newRow X ty ys).1 = some (w.heap.size, 0) ∧ Emb P B w0 (newRow X ty ys).2 E' (w.alloc (.cells vs.toArray ty)) ∧ (Go.newRow ty vs.toArray).run P w = .ok ⟨w.heap.size, 0, none⟩ (w.alloc (.cells vs.toArray ty)) := by
  unfold Xe.newRow
  rw [force_eq]
  refine ⟨E.put X.next w.heap.size 0, Env.le_put (hE.fresh _ (Nat.le_refl _)) hE.nle, Env.put_same _ _ _ _, hE.new _ vs.toArray 0 0 0 rfl rfl fun E' hle => ?_, rfl⟩
  refine ⟨vs.toArray, _, 0, 0, rfl, fun j y hj => ?_, fun _ => ⟨rfl, .inl rfl, by simp [hv.length], fun _ => by simp [hv.length], fun h => by cases h⟩⟩
  have hlt := Ob.get_lt hj
  unfold Ob.get at hj
  have hb : Nat.blt j ys.length = true := by rw [Nat.blt_eq]; exact hlt
  simp only [hb, cond_true] at hj
  cases ho : (trieOf ys).get j with
  | none => simp [ho] at hj
  | some z =>
    simp only [ho] at hj; cases hj
    obtain ⟨v, h1, h2⟩ := (hv.mono hle).get j _ (get_trieOf _ _ _ ho)
    exact ⟨v, by simpa using h1, h2⟩

/-! ### Bools and the oracle -/
def Pc (X : XW) : Prop := ∀ p ∈ X.pc, p

theorem asB_spec {X X' : XW} {y : SV} {b : Bool} (h : asB X y = some (b, X')) : (Pc X' → Pc X ∧ ∀ E v, Den E y v → v = .bool b) ∧ X'.objs = X.objs ∧ X'.next = X.next ∧ X'.ng = X.ng := by
  cases y with
  | bool c =>
    simp only [asB, Option.some.injEq, Prod.mk.injEq] at h
    obtain ⟨rfl, rfl⟩ := h
    exact ⟨fun hp => ⟨hp, fun E v hv => hv⟩, rfl, rfl, rfl⟩
  | val x =>
    cases x with
    | bool s =>
      simp only [asB, XW.ask] at h
      split at h
      · rename_i o os ho
        simp only [Option.some.injEq, Prod.mk.injEq] at h
        obtain ⟨rfl, rfl⟩ := h
        refine ⟨fun hp => ⟨fun p h => hp p (List.mem_cons_of_mem _ h), fun E v hv => ?_⟩, rfl, rfl, rfl⟩
        have e : s = o := hp (s = o) (List.mem_cons_self ..)
        have hv' : v = .bool s := hv
        rw [hv', e]
      · cases h
    | _ => simp [asB] at h
  | _ => simp [asB] at h

theorem asW_spec {X X' : XW} {y : SV} {b want : Bool} (h : asW X want y = some (b, X')) : (Pc X' → Pc X ∧ ∀ E v, Den E y v → (∃ c, v = .bool c ∧ (c == want) = b) ∨ (∃ a, v = .tuple a ∧ b = false)) ∧ X'.objs = X.objs ∧ X'.next = X.next ∧ X'.ng = X.ng := by
  unfold asW at h
  cases ht : isTup y with
  | true =>
    simp only [ht, cond_true, Option.some.injEq, Prod.mk.injEq] at h
    obtain ⟨rfl, rfl⟩ := h
    refine ⟨fun hp => ⟨hp, fun E v hv => .inr ?_⟩, rfl, rfl, rfl⟩
    unfold isTup at ht
    split at ht <;> try (cases ht; done)
    exact ⟨_, hv, rfl⟩
  | false =>
    simp only [ht, cond_false] at h
    split at h <;> try (cases h; done)
    rename_i b' X1 hb
    cases h
    obtain ⟨h1, h2, h3, h4⟩ := asB_spec hb
    exact ⟨fun hp => ⟨(h1 hp).1, fun E v hv => .inl ⟨b', (h1 hp).2 E v hv, rfl⟩⟩, h2, h3, h4⟩


end
end Go.Xe
