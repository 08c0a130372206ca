/- A part of an evaluator for the code. -/
import Derived.Test.YtoglpmfmnknlaaaGreatDoorXeR
import Derived.Lib.BytesEntry
import Derived.Laws.Externs
namespace Go.Xe
section
variable {P : Program} {B : Nat} {w0 w : World} {X : XW} {E : Env}

theorem arr_yes {t : TypeId} {k off len lo : Nat} {cap : Option Nat} {z : SV} {u : Value} (hx : Den E (.sl k off len cap lo) u) (h : semArr P t k off len = some z) : Yes P E w (Instr.arrayAt t u) z := by
  unfold semArr at h
  split at h <;> try (cases h; done)
  rename_i n e hu
  cases hb : Nat.ble n len with
  | false => simp [hb] at h
  | true =>
    simp only [hb, cond_true, Option.some.injEq] at h
    subst h
    have hle := Nat.le_of_ble_eq_true hb
    have hx' : ∃ id c capv, E k = some (id, c) ∧ u = .slice (some ⟨id, off, none⟩) len capv := by
      cases cap with
      | none => obtain ⟨id, c, e1, e2⟩ := hx; exact ⟨id, c, _, e1.1, e2⟩
      | some cap => obtain ⟨id, c, e1, e2⟩ := hx; exact ⟨id, c, _, e1, e2⟩
    obtain ⟨id, c, capv, hk, rfl⟩ := hx'
    refine ⟨.pointer (some ⟨id, off, none⟩), ?_, id, c, hk, rfl⟩
    simp [Instr.arrayAt, und_run hu, Nat.not_lt.2 hle]

/-! ### Maps -/
theorem newMap_good {t : TypeId} (hE : Emb P B w0 X E w) : Good P B w0 E w (Instr.makeMap t none) (.mp (newMap X).1) (newMap X).2 := by
  refine ⟨E.put X.next w.heap.size 0, .map (some w.heap.size), w.alloc (.map #[] 0), Env.le_put (hE.fresh _ (Nat.le_refl _)) hE.nle, ?_, ⟨_, _, Env.put_same _ _ _ _, rfl⟩, hE.newOb _ _ 0 fun E' _ => .inr ⟨⟨[], rfl, rfl⟩, rfl, rfl⟩⟩
  simp [Instr.makeMap]

theorem den_int {k : IntKind} {n : Int} {v : Value} (h : Den E (.int k n) v) : v = .int k n := h
theorem den_str {s : ByteArray} {v : Value} (h : Den E (.str s) v) : v = .string s := h

theorem findE_run {kt : TypeId} {d : TypeDesc} {k : SV} {kv : Value} (hd : P.underlying kt = some d) (hk : keyNow P kt k = true) (hkv : Den E k kv) : ∀ (es : List (SV × SV × Nat)) (l : List MapEntry) (i : Nat) (r : Option (Nat × SV)), EntRel E es l → findE k es i = some r →
    (r = none ∧ Instr.findNow d kv l i = some none) ∨ ∃ n q v b e, r = some (i + n, v) ∧ es[n]? = some (q, v, b) ∧ l[n]? = some e ∧ e.key = kv ∧ Den E v e.val ∧ e.born = b ∧ Den E q kv ∧ Instr.findNow d kv l i = some (some (i + n, e.val))
  | [], l, i, r, he, h => by
    cases he
    simp only [findE, Option.some.injEq] at h
    subst h
    exact .inl ⟨rfl, rfl⟩
  | (q, v, b) :: es, _, i, r, ⟨e, l', h1, h2, h3, h4, e1⟩, h => by
    subst e1
    simp only [findE] at h
    have same : ∀ c, keyEq k q = some c → Instr.sameNow d kv e.key = some c ∧ (c = true → e.key = kv) := by
      intro c hc
      unfold keyNow at hk
      rw [hd] at hk
      unfold keyEq at hc
      split at hc
      · rename_i k1 a k2 b2
        have e1 := den_int hkv
        have e2 := den_int h1
        subst e1
        cases hkk : (k1 == k2) with
        | false => simp [hkk] at hc
        | true =>
          obtain rfl : k1 = k2 := by simpa using hkk
          simp only [hkk, cond_true, Option.some.injEq] at hc
          rw [e2]
          cases d <;> simp at hk
          subst hc
          exact ⟨by simp [Instr.sameNow], fun hab => by simp at hab; rw [hab]⟩
      · rename_i a b2
        have e1 := den_str hkv
        have e2 := den_str h1
        subst e1
        rw [e2]
        simp only [Option.some.injEq] at hc
        cases d <;> simp at hk
        subst hc
        refine ⟨by simp only [Instr.sameNow, beq_toListBytes], fun hab => ?_⟩
        have e3 : a.toList = b2.toList := by simpa using hab
        rw [ByteArray.toList_eq, ByteArray.toList_eq] at e3
        have e4 : a = b2 := by
          obtain ⟨⟨x⟩⟩ := a
          obtain ⟨⟨y⟩⟩ := b2
          simp only at e3
          rw [e3]
        rw [e4]
      · cases hc
    split at h
    · rename_i hq
      obtain ⟨g1, g2⟩ := same _ hq
      cases h
      exact .inr ⟨0, q, v, b, e, rfl, rfl, rfl, g2 rfl, h2, h3, by rw [← g2 rfl]; exact h1, by simp only [Instr.findNow, g1]; rfl⟩
    · rename_i hq
      obtain ⟨g1, _⟩ := same _ hq
      rcases findE_run hd hk hkv es l' (i + 1) r h4 h with ⟨rfl, g⟩ | ⟨n, q', v', b', e', rfl, a1, a2, a3, a4, a5, a6, a7⟩
      · exact .inl ⟨rfl, by simp only [Instr.findNow, g1, g]⟩
      · refine .inr ⟨n + 1, q', v', b', e', ?_, by simpa using a1, by simpa using a2, a3, a4, a5, a6, ?_⟩
        · congr 2; omega
        · simp only [Instr.findNow, g1, a7]
          congr 3; omega
    · cases h

theorem checkKey_run {kt : TypeId} {k : SV} {kv : Value} {empty : Bool} (hk : keyNow P kt k = true) (hkv : Den E k kv) (n : Nat) : (Instr.checkKey empty (n + 1) kt kv).run P w = .ok () w := by
  unfold keyNow at hk
  split at hk
  · rename_i hu; have e := den_int hkv; subst e; simp [Instr.checkKey, und_run hu]
  · rename_i hu; have e := den_str hkv; subst e; simp [Instr.checkKey, und_run hu]
  · cases hk

theorem keyNow_und {kt : TypeId} {k : SV} (hk : keyNow P kt k = true) : ∃ d, P.underlying kt = some d := by
  unfold keyNow at hk
  split at hk
  · exact ⟨_, ‹_›⟩
  · exact ⟨_, ‹_›⟩
  · cases hk

theorem entriesOf_run (hE : Emb P B w0 X E w) {j : Nat} {es : List (SV × SV × Nat)} {clock : Nat} (h : entriesOf X j = some (es, clock)) {id c : Nat} (hj : E j = some (id, c)) :
    ∃ l : List MapEntry, (getObj id).run P w = .ok (.map l.toArray clock) w ∧ EntRel E es l := by
  unfold entriesOf at h
  split at h <;> try (cases h; done)
  rename_i o ho
  split at h <;> try (cases h; done)
  rename_i es' clock' hs
  cases h
  obtain ⟨id', c', hk', hrel, _⟩ := hE.spAt ho (by rw [hs]; simp)
  rw [hj] at hk'; cases hk'
  rw [hs] at hrel
  obtain ⟨l, h1, h2⟩ := hrel
  have hrel' : SpRel P E (.map es clock) (some (.map l.toArray clock)) := ⟨l, rfl, h2⟩
  exact ⟨l, getObj_run h1 hrel', h2⟩

theorem lookup_yes (hE : Emb P B w0 X E w) {t : TypeId} {m k z : SV} {mv kv : Value} {ok : Bool} (hm : Den E m mv) (hk : Den E k kv) (h : semLookup P t m k ok X = some z) : Yes P E w (Instr.lookup t mv kv ok) z := by
  unfold semLookup at h
  split at h <;> try (cases h; done)
  rename_i kt e hu
  split at h <;> try (cases h; done)
  rename_i es zv hes hz
  cases hn : keyNow P kt k with
  | false => simp [hn] at h
  | true =>
  simp only [hn, cond_true] at h
  obtain ⟨d, hd⟩ := keyNow_und hn
  have hent : ∃ l : List MapEntry, EntRel E es l ∧ ((mv = .map none ∧ l = []) ∨ ∃ id clock, mv = .map (some id) ∧ (getObj id).run P w = .ok (.map l.toArray clock) w) := by
    unfold mapOf at hes
    split at hes
    · cases hes
      have e1 : mv = .map none := hm
      exact ⟨[], rfl, .inl ⟨e1, rfl⟩⟩
    · rename_i j
      obtain ⟨id, c, hj, rfl⟩ := hm
      split at hes <;> try (cases hes; done)
      rename_i es' clock hen
      cases hes
      obtain ⟨l, h1, h2⟩ := entriesOf_run hE hen hj
      exact ⟨l, h2, .inr ⟨id, clock, rfl, h1⟩⟩
    · cases hes
  obtain ⟨l, hrel, hC⟩ := hent
  have hck : ∀ b, (Instr.checkKey b 10000 kt kv).run P w = .ok () w := fun b => checkKey_run hn hk 9999
  have hrun : ∀ r : Option (Nat × Value), Instr.findNow d kv l 0 = some r → (Instr.lookup t mv kv ok).run P w = .ok (if ok then .tuple #[(match r with | some (_, v) => v | none => zv), .bool r.isSome] else (match r with | some (_, v) => v | none => zv)) w := by
    intro r hfn
    rcases hC with ⟨rfl, rfl⟩ | ⟨id, clock, rfl, hg⟩
    · cases r with
      | none => simp [Instr.lookup, und_run hu, hck, Instr.findKey, und_run hd, hfn, tyZero_run hz]
      | some r => simp [Instr.lookup, und_run hu, hck, Instr.findKey, und_run hd, hfn]
    · cases r with
      | none => simp [Instr.lookup, und_run hu, hg, hck, Instr.findKey, und_run hd, hfn, tyZero_run hz]
      | some r => simp [Instr.lookup, und_run hu, hg, hck, Instr.findKey, und_run hd, hfn]
  split at h
  · rename_i i v hf
    cases h
    rcases findE_run hd hn hk es l 0 _ hrel hf with ⟨h0, _⟩ | ⟨n, q, v', b, e', h0, _, _, _, hv, _, _, hfn⟩
    · cases h0
    · cases h0
      have hr := hrun _ hfn
      cases ok with
      | true => exact ⟨.tuple #[e'.val, .bool true], by simpa using hr, [e'.val, .bool true], ⟨_, _, hv, ⟨_, _, rfl, rfl, rfl⟩, rfl⟩, rfl⟩
      | false => exact ⟨e'.val, by simpa using hr, hv⟩
  · rename_i hf
    cases h
    rcases findE_run hd hn hk es l 0 _ hrel hf with ⟨_, hfn⟩ | ⟨n, q, v', b, e', h0, _⟩
    · have hr := hrun _ hfn
      cases ok with
      | true => exact ⟨.tuple #[zv, .bool false], by simpa using hr, [zv, .bool false], ⟨_, _, den_mkV E zv, ⟨_, _, rfl, rfl, rfl⟩, rfl⟩, rfl⟩
      | false => exact ⟨zv, by simpa using hr, den_mkV E zv⟩
    · cases h0
  · cases h

theorem entRel_upd {v : SV} {u : Value} (hv : Den E v u) {kv : Value} : ∀ {es : List (SV × SV × Nat)} {l : List MapEntry} {n : Nat} {q w' : SV} {b : Nat} {e : MapEntry}, EntRel E es l → es[n]? = some (q, w', b) → l[n]? = some e → e.key = kv →
    EntRel E (updL v es n) (l.modify n fun e => { e with key := kv, val := u })
  | [], _, _, _, _, _, _, _, h, _, _ => by simp at h
  | (k, x, b) :: es, _, 0, q, w', b', e, ⟨e0, l', h1, h2, h3, h4, e1⟩, h, hl, hkey => by
    subst e1
    simp at hl
    subst hl
    rw [List.modify_zero_cons]
    exact ⟨{ e0 with key := kv, val := u }, l', by rw [← hkey]; exact h1, hv, h3, h4, rfl⟩
  | (k, x, b) :: es, _, n + 1, q, w', b', e, ⟨e0, l', h1, h2, h3, h4, e1⟩, h, hl, hkey => by
    subst e1
    rw [List.modify_succ_cons]
    exact ⟨e0, _, h1, h2, h3, entRel_upd hv h4 (by simpa using h) (by simpa using hl) hkey, rfl⟩

theorem entRel_push {k v : SV} {kv u : Value} (hk : Den E k kv) (hv : Den E v u) (c : Nat) : ∀ {es : List (SV × SV × Nat)} {l : List MapEntry}, EntRel E es l → EntRel E (es ++ [(k, v, c)]) (l ++ [{ key := kv, val := u, born := c }])
  | [], _, h => by cases h; exact ⟨_, [], hk, hv, rfl, rfl, rfl⟩
  | (_, _, _) :: es, _, ⟨e0, l', h1, h2, h3, h4, e1⟩ => by subst e1; exact ⟨e0, _, h1, h2, h3, entRel_push hk hv c h4, rfl⟩

theorem update_good (hE : Emb P B w0 X E w) {t : TypeId} {m k v : SV} {mv kv vv : Value} {X' : XW} (hm : Den E m mv) (hk : Den E k kv) (hv : Den E v vv) (h : semUpdate P t m k v X = some X') :
    ∃ w', (Instr.mapUpdate t mv kv vv).run P w = .ok () w' ∧ Emb P B w0 X' E w' := by
  unfold semUpdate at h
  split at h <;> try (cases h; done)
  rename_i kt e j hu
  split at h <;> try (cases h; done)
  rename_i o ho
  split at h <;> try (cases h; done)
  rename_i es clock hs
  cases hn : keyNow P kt k with
  | false => simp [hn] at h
  | true =>
  simp only [hn, cond_true] at h
  obtain ⟨d, hd⟩ := keyNow_und hn
  obtain ⟨id, c, hj, rfl⟩ := hm
  have hne : o.sp ≠ .cells := by rw [hs]; simp
  obtain ⟨l, hg, hrel⟩ := entriesOf_run (j := j) (es := es) (clock := clock) hE (by unfold entriesOf; rw [ho]; simp only [hs]) hj
  have hck : ∀ b, (Instr.checkKey b 10000 kt kv).run P w = .ok () w := fun b => checkKey_run hn hk 9999
  split at h
  · rename_i i v' hf
    cases h
    rcases findE_run hd hn hk es l 0 _ hrel hf with ⟨h0, _⟩ | ⟨n, q, v'', b, e', h0, hes, hl, hkey, _, _, _, hfn⟩
    · cases h0
    · simp only [Option.some.injEq, Prod.mk.injEq] at h0
      obtain ⟨rfl, rfl⟩ := h0
      rw [Nat.zero_add] at hfn
      have hnew := entRel_upd hv (kv := kv) hrel hes hl hkey
      obtain ⟨w', hset, hE'⟩ := hE.setSp (s := .map (updL v es n) clock) (obj' := .map ((l.modify n fun e : MapEntry => { e with key := kv, val := vv }).toArray) clock) ho hne hj ⟨_, rfl, hnew⟩ P
      refine ⟨w', ?_, by simpa using hE'⟩
      have hstay : (Instr.keyThatStays kv kv).run P w = .ok kv w := by
        unfold Instr.keyThatStays
        have : Instr.sameBits 10000 kv kv = true := by
          unfold keyNow at hn
          split at hn
          · have e1 := den_int hk; subst e1; simp [Instr.sameBits]
          · have e1 := den_str hk; subst e1; simp [Instr.sameBits, beq_toListBytes]
          · cases hn
        rw [if_pos this]; rfl
      simp [Instr.mapUpdate, und_run hu, hg, hck, Instr.findKey, und_run hd, hfn, hl, hkey, hstay, hset]
  · rename_i hf
    rw [force_eq] at h
    cases h
    rcases findE_run hd hn hk es l 0 _ hrel hf with ⟨_, hfn⟩ | ⟨n, q, v'', b, e', h0, _⟩
    · have hnew := entRel_push hk hv clock hrel
      obtain ⟨w', hset, hE'⟩ := hE.setSp (s := .map (es ++ [(k, v, clock)]) (clock + 1)) (obj' := .map (l ++ [({ key := kv, val := vv, born := clock } : MapEntry)]).toArray (clock + 1)) ho hne hj ⟨_, rfl, hnew⟩ P
      refine ⟨w', ?_, hE'⟩
      simp [Instr.mapUpdate, und_run hu, hg, hck, Instr.findKey, und_run hd, hfn]
      simpa using hset
    · cases h0
  · cases h

/-! ### Interfaces -/
theorem assert_yes {x z : SV} {u : Value} {xt a : TypeId} {ok : Bool} (hx : Den E x u) (h : semAssert P x a ok = some z) : Yes P E w (Instr.typeAssert u xt a ok) z := by
  unfold semAssert at h
  split at h <;> try (cases h; done)
  rename_i d zv hd hz
  have hno : Den E (.tup [mkV zv, .bool false]) (.tuple #[zv, .bool false]) := ⟨[zv, .bool false], ⟨_, _, den_mkV E zv, ⟨_, _, rfl, rfl, rfl⟩, rfl⟩, rfl⟩
  split at h
  · have e1 : u = .nilIface := hx
    subst e1
    cases ok <;> simp at h
    subst h
    exact ⟨_, by simp [Instr.typeAssert, und_run hd, tyZero_run hz], hno⟩
  · rename_i ws t y
    have hx' := hx
    obtain ⟨v, hv, rfl⟩ := hx'
    split at h <;> try (cases h; done)
    rename_i i hi
    split at h
    · rename_i hm
      cases h
      cases ok with
      | true => exact ⟨.tuple #[.iface t v, .bool true], by simp [Instr.typeAssert, und_run hd, typeInfo, hi, hm], [.iface t v, .bool true], ⟨_, _, hx, ⟨_, _, rfl, rfl, rfl⟩, rfl⟩, rfl⟩
      | false => exact ⟨.iface t v, by simp [Instr.typeAssert, und_run hd, typeInfo, hi, hm], hx⟩
    · rename_i hm
      cases ok <;> simp at h
      subst h
      exact ⟨_, by simp [Instr.typeAssert, und_run hd, typeInfo, hi, hm, tyZero_run hz], hno⟩
  · rename_i hn
    have e1 : u = .nilIface := hx
    subst e1
    cases ok <;> simp at h
    subst h
    refine ⟨_, ?_, hno⟩
    cases d <;> simp [Instr.typeAssert, und_run hd, tyZero_run hz]
  · rename_i t y hn
    have hx' := hx
    obtain ⟨v, hv, rfl⟩ := hx'
    cases hta : Nat.beq t a with
    | true =>
      have e := Nat.eq_of_beq_eq_true hta
      subst e
      simp only [hta, cond_true, Option.some.injEq] at h
      subst h
      cases ok with
      | true =>
        refine ⟨.tuple #[v, .bool true], ?_, [v, .bool true], ⟨_, _, hv, ⟨_, _, rfl, rfl, rfl⟩, rfl⟩, rfl⟩
        cases d <;> first | exact absurd rfl (hn _) | simp [Instr.typeAssert, und_run hd]
      | false =>
        refine ⟨v, ?_, hv⟩
        cases d <;> first | exact absurd rfl (hn _) | simp [Instr.typeAssert, und_run hd]
    | false =>
      have e := Nat.ne_of_beq_eq_false hta
      simp only [hta, cond_false] at h
      cases ok <;> simp at h
      subst h
      refine ⟨_, ?_, hno⟩
      cases d <;> first | exact absurd rfl (hn _) | simp [Instr.typeAssert, und_run hd, e, tyZero_run hz]
  · cases h

theorem meth_run (hE : Emb P B w0 X E w) {x r : SV} {u : Value} {name : String} {f : FuncId} (hx : Den E x u) (h : methE P x name X = some (f, r)) :
    ∃ rv, Den E r rv ∧ ∀ args, (callMethod u name args).run P w = (callFunc f (#[rv] ++ args)).run P w := by
  unfold methE at h
  split at h <;> try (cases h; done)
  rename_i t y
  obtain ⟨v, hv, rfl⟩ := hx
  split at h <;> try (cases h; done)
  rename_i i hi
  split at h <;> try (cases h; done)
  rename_i m hm
  cases hp : m.path.isEmpty with
  | false => simp [hp] at h
  | true =>
  simp only [hp, cond_true] at h
  have hpath : m.path.toList = [] := by simpa using hp
  have hpath2 : m.path = #[] := by simpa using hp
  have hfuel : ∃ n, P.types.size + Made.depth = n + 1 := ⟨P.types.size + 99, rfl⟩
  obtain ⟨n, hfuel⟩ := hfuel
  have hinfo : (typeInfo t).run P w = .ok i w := by simp [typeInfo, hi]
  split at h
  · rename_i f' e y' hfn hu
    cases h
    refine ⟨v, hv, fun args => ?_⟩
    simp [callMethod, run_program, hfuel, method, hinfo, hm, hpath, follow, hfn, receiverAt, und_run hu, Place.get]
  · rename_i f' e k off hfn hu
    split at h <;> try (cases h; done)
    rename_i z hz
    cases h
    obtain ⟨id, c, hk, rfl⟩ := hv
    obtain ⟨zv, hr, hd⟩ := load_good hE hz hk
    refine ⟨zv, hd, fun args => ?_⟩
    have hw : ∀ nm, (Builtin.ssaWrapNilChk_ #[t] t #[.pointer (some ⟨id, off, none⟩), strVal "", strVal nm]).run P w = .ok (.pointer (some ⟨id, off, none⟩)) w := fun _ => rfl
    simp [callMethod, run_program, hfuel, method, hinfo, hm, follow, hfn, receiverAt, und_run hu, Place.get, hpath2, hw, asAddr, hr]
  · cases h
  · rename_i z g d hn3 hfn hu hn2
    cases h
    refine ⟨v, hv, fun args => ?_⟩
    cases d <;> first | exact (hn3 _ rfl).elim | exact (hn2 _ rfl).elim | simp [callMethod, run_program, hfuel, method, hinfo, hm, hpath, follow, hfn, receiverAt, und_run hu, Place.get]
  · cases h

/-! ### Functions that the model carries out itself -/
theorem idxL_eq (c : UInt8) : ∀ (l : List UInt8) (i : Nat), idxL l c i = if Lib.indexByte l c = -1 then -1 else i + Lib.indexByte l c
  | [], i => by simp [idxL, Lib.indexByte]
  | b :: l, i => by
    have hge := Lib.indexByte_ge l c
    simp only [idxL, Lib.indexByte]
    by_cases hb : (b == c) = true
    · simp [hb]
    · have hb' : (b == c) = false := by simpa using hb
      simp only [hb', cond_false, Bool.false_eq_true, if_false]
      rw [idxL_eq c l (i + 1)]
      by_cases h : Lib.indexByte l c = -1
      · simp [h]
      · have h' : (Lib.indexByte l c == -1) = false := by simpa using h
        simp only [h, h', if_false, Bool.false_eq_true]
        rw [if_neg (by omega)]
        push_cast; omega
theorem idxL_zero (l : List UInt8) (c : UInt8) : idxL l c 0 = Lib.indexByte l c := by
  rw [idxL_eq]
  by_cases h : Lib.indexByte l c = -1
  · simp [h]
  · simp [h]
theorem cmpL_eq : ∀ (a b : List UInt8), cmpL a b = Lib.compareBytes a b
  | [], [] => rfl
  | [], _ :: _ => rfl
  | _ :: _, [] => rfl
  | a :: l, b :: m => by
    simp only [cmpL, Lib.compareBytes]
    cases hab : (a == b) with
    | true =>
      have e : a = b := by simpa using hab
      subst e
      simp only [cond_true]
      rw [if_neg (by simp), if_neg (by simp)]
      exact cmpL_eq l m
    | false =>
      have hne : a ≠ b := by simpa using hab
      simp only [cond_false]
      cases hl : Nat.blt a.toNat b.toNat with
      | true =>
        rw [Nat.blt_eq] at hl
        rw [if_pos (by rw [UInt8.lt_iff_toNat_lt]; exact hl)]; rfl
      | false =>
        have hl' : ¬ a.toNat < b.toNat := fun h => by have : Nat.blt a.toNat b.toNat = true := by rw [Nat.blt_eq]; exact h
                                                      rw [hl] at this; cases this
        have hne' : a.toNat ≠ b.toNat := fun h => hne (UInt8.toNat_inj.1 h)
        rw [if_neg (by rw [UInt8.lt_iff_toNat_lt]; exact hl'), if_pos (by rw [UInt8.lt_iff_toNat_lt]; omega)]; rfl

theorem nat_yes (hE : Emb P B w0 X E w) {k : NK} {args : List SV} {argv : List Value} {z : SV} (hv : DenL E args argv) (h : natE k args X = some z) : Yes P E w (natSem k argv.toArray) z := by
  have two : ∀ {x1 x2 : SV}, DenL E [x1, x2] argv → ∃ u1 u2, argv = [u1, u2] ∧ Den E x1 u1 ∧ Den E x2 u2 := by
    rintro x1 x2 ⟨u1, _, h1, ⟨u2, _, h2, h3, e2⟩, e1⟩
    cases h3
    exact ⟨u1, u2, by rw [e1, e2], h1, h2⟩
  unfold natE at h
  split at h
  · rename_i s c
    obtain ⟨u1, u2, rfl, h1, h2⟩ := two hv
    have e1 := den_str h1
    have e2 := den_int h2
    subst e1; subst e2
    simp only [forceI_eq, Option.some.injEq, idxL_zero] at h
    subst h
    exact ⟨_, Lib.run_indexByteString s c w, rfl⟩
  · rename_i n1 n2 c
    obtain ⟨u1, u2, rfl, h1, h2⟩ := two hv
    have e1 : u1 = .slice none n1 n2 := h1
    have e2 := den_int h2
    subst e1; subst e2
    cases h
    exact ⟨_, Lib.run_indexByteNil w n1 n2 c, rfl⟩
  · rename_i k off n cap lo c
    obtain ⟨u1, u2, rfl, h1, h2⟩ := two hv
    have e2 := den_int h2
    subst e2
    split at h <;> try (cases h; done)
    rename_i o ho
    split at h <;> try (cases h; done)
    rename_i ys hys
    split at h <;> try (cases h; done)
    rename_i ns hns
    simp only [forceI_eq, Option.some.injEq, idxL_zero] at h
    subst h
    have hx' : ∃ id c capv, E k = some (id, c) ∧ u1 = .slice (some ⟨id, off, none⟩) n capv := by
      cases cap with
      | none => obtain ⟨id, c, e1, e2⟩ := h1; exact ⟨id, c, _, e1.1, e2⟩
      | some cap => obtain ⟨id, c, e1, e2⟩ := h1; exact ⟨id, c, _, e1, e2⟩
    obtain ⟨id, c', capv, hk, rfl⟩ := hx'
    obtain ⟨id', c2, hk', hrel, _⟩ := hE.obj k o ho
    rw [hk] at hk'; cases hk'
    obtain ⟨vs, g1, g2, g3⟩ := loadN_spec hrel _ off ys hys
    have hvs := bytesOf_spec hns g1
    have hlen : ns.length = n := by rw [← g2, hvs]; simp
    have hcells : ∀ i, i < n → w.cell? ⟨id, off + i, none⟩ = some (.int .u8 (ns.getD i 0)) := by
      intro i hi
      refine g3 i _ ?_
      rw [hvs]
      simp [List.getElem?_map, List.getD, List.getElem?_eq_getElem (show i < ns.length by omega)]
    exact ⟨_, Lib.run_indexByteSlice w id off n capv ns hlen hcells c, rfl⟩
  · rename_i a b
    obtain ⟨u1, u2, rfl, h1, h2⟩ := two hv
    have e1 := den_str h1
    have e2 := den_str h2
    subst e1; subst e2
    simp only [forceI_eq, Option.some.injEq, cmpL_eq] at h
    subst h
    exact ⟨_, Lib.run_compareString a b w, rfl⟩
  · obtain ⟨u1, _, h1, h2, rfl⟩ := hv
    cases h2
    cases h
    exact ⟨u1, rfl, h1⟩
  · cases h
end
end Go.Xe
