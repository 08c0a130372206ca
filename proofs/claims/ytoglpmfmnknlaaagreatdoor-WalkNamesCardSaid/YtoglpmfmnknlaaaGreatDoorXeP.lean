/- A part of an evaluator for the code. -/
import Derived.Test.YtoglpmfmnknlaaaGreatDoorXeG
import Derived.Laws.AppendOwn
import Derived.Laws.BytesString
import Derived.Lib.ConvBytes
namespace Go.Xe

section
variable {P : Program} {B : Nat} {w0 w : World} {X : XW} {E : Env}

theorem Emb.killed (h : Emb P B w0 X E w) (k : Nat) : Emb P B w0 { X with objs := X.objs.del k } E w :=
  ⟨h.os, h.tape, h.output, h.base, h.old, fun j o hj => h.obj j o (Hp.get_del_some hj).2, fun j j' o o' id c c' hj hj' he he' => h.inj j j' o o' id c c' (Hp.get_del_some hj).2 (Hp.get_del_some hj').2 he he', h.fresh, h.glob, h.nle⟩

theorem Emb.renamed (h : Emb P B w0 X E w) {k id c : Nat} {o o' : Ob} (ho : X.objs.get k = some o) (hk : E k = some (id, c)) (hro : o.ro = false) (hro' : o'.ro = false) {w' : World} (h1 : w'.os = w.os) (h2 : w'.tape = w.tape)
    (h3 : w'.output = w.output) (h4 : w'.heap.size = w.heap.size) (h5 : ∀ j, j ≠ id → w'.heap[j]? = w.heap[j]?) (hrel : ObjRel P (E.put X.next id c) o' w'.heap[id]? c) :
    Emb P B w0 { X with next := X.next + 1, objs := (X.objs.del k).put X.next o' } (E.put X.next id c) w' := by
  have hB : B ≤ id := by
    obtain ⟨id', c', hk', _, hb⟩ := h.obj k o ho
    rw [hk] at hk'; cases hk'
    exact hb (.inl hro)
  have hle : Le E (E.put X.next id c) := Env.le_put (h.fresh _ (Nat.le_refl _)) h.nle
  have hE : ∀ j, j ≠ X.next → (E.put X.next id c) j = E j := fun j hj => Env.put_ne E _ _ hj
  refine ⟨h1.trans h.os, h2.trans h.tape, h3.trans h.output, by rw [h4]; exact h.base, fun j hj => ?_, fun j oj hj => ?_, fun j j' o1 o2 i c1 c2 hj hj' he he' => ?_, fun j hj => ?_, fun g hg => let ⟨c, hc⟩ := h.glob g hg; ⟨c, hle.sub _ _ hc⟩, Nat.le_succ_of_le h.nle⟩
  · rw [h5 j (by omega)]; exact h.old j hj
  · rcases Hp.get_put_some hj with ⟨e, e2⟩ | ⟨e, hd⟩
    · subst e; subst e2
      exact ⟨id, c, Env.put_same _ _ _ _, hrel, fun _ => hB⟩
    · obtain ⟨hne, hl⟩ := Hp.get_del_some hd
      obtain ⟨i, c', he, hr, hb⟩ := h.obj j oj hl
      have hii : i ≠ id := fun e2 => hne (h.inj j k oj o i c' c hl ho he (by rw [hk, e2]))
      exact ⟨i, c', hle.sub _ _ he, by rw [h5 i hii]; exact hr.mono hle, hb⟩
  · rcases Hp.get_put_some hj with ⟨e, _⟩ | ⟨e, hd⟩ <;> rcases Hp.get_put_some hj' with ⟨e', _⟩ | ⟨e', hd'⟩
    · rw [e, e']
    · subst e
      rw [Env.put_same] at he; cases he
      rw [hE _ e'] at he'
      obtain ⟨hne, hl⟩ := Hp.get_del_some hd'
      exact absurd (h.inj j' k o2 o _ c2 _ hl ho he' hk) hne
    · subst e'
      rw [Env.put_same] at he'; cases he'
      rw [hE _ e] at he
      obtain ⟨hne, hl⟩ := Hp.get_del_some hd
      exact absurd (h.inj j k o1 o _ c1 _ hl ho he hk) hne
    · rw [hE _ e] at he; rw [hE _ e'] at he'
      exact h.inj j j' o1 o2 i c1 c2 (Hp.get_del_some hd).2 (Hp.get_del_some hd').2 he he'
  · have hj' : X.next + 1 ≤ j := hj
    rw [hE j (by omega)]; exact h.fresh j (by omega)

theorem loose_good {ty esz c lo hi : Nat} {ys : List SV} {vs rest : List Value} (hE : Emb P B w0 X E w) (hv : DenL E ys vs) (hc : vs.length + rest.length = c * esz) (hfz : lo = hi ∨ c * esz ≤ lo) :
    ∃ E', Le E E' ∧ E' (newLoose X ty esz ys).1 = some (w.heap.size, c) ∧ Emb P B w0 (newLoose X ty esz ys).2 E' (w.alloc (.cells (vs ++ rest).toArray ty (lo, hi))) := by
  unfold newLoose
  rw [force_eq]
  refine ⟨E.put X.next w.heap.size c, Env.le_put (hE.fresh _ (Nat.le_refl _)) hE.nle, Env.put_same _ _ _ _, hE.new _ (vs ++ rest).toArray c lo hi rfl rfl fun E' hle => ?_⟩
  have hl := hv.length
  refine ⟨_, _, lo, hi, rfl, fun j y hj => ?_, fun _ => ⟨rfl, ?_, by simp [hl], fun h => (by cases h), fun _ => by simp [hc]⟩⟩
  · have hlt := Ob.get_lt hj
    unfold Ob.get at hj
    have hb : Nat.blt j ys.length = true := by rw [Nat.blt_eq]; exact hlt
    simp only [hb, cond_true] at hj
    cases ho : (trieOf ys).get j with
    | none => simp [ho] at hj
    | some z =>
      simp only [ho] at hj; cases hj
      obtain ⟨v, h1, h2⟩ := (hv.mono hle).get j _ (get_trieOf _ _ _ ho)
      refine ⟨v, ?_, h2⟩
      have hlt' : j < vs.length := (List.getElem?_eq_some_iff.1 h1).1
      rw [List.getElem?_toArray, List.getElem?_append_left hlt']
      exact h1
  · simpa [hc] using hfz

theorem den_strCells (s : ByteArray) : DenL E (strCells s) (s.data.toList.map fun b => Value.int .u8 b.toNat) := by
  unfold strCells
  simp only [forceI_eq]
  induction s.data.toList with
  | nil => rfl
  | cons b bs ih => exact ⟨_, _, rfl, ih, rfl⟩

theorem appElems_spec (hE : Emb P B w0 X E w) {sz n : Nat} {x : SV} {u : Value} {ys : List SV} (hx : Den E x u) (h : appElems X sz x = some (n, ys)) (hl : ys.length = n * sz) :
    ∃ vs, DenL E ys vs ∧ (∀ w2, (Builtin.lenOf u).run P w2 = .ok n w2) ∧ ∀ w2 : World, w2.heap = w.heap → ∀ m, m ≤ n → (Builtin.firstCells sz m u).run P w2 = .ok (vs.take (m * sz)).toArray w2 := by
  unfold appElems at h
  split at h
  · rename_i k off n' cap lo
    split at h <;> try (cases h; done)
    rename_i o ho
    split at h <;> try (cases h; done)
    rename_i ys' hys
    cases h
    have hx' : ∃ id c capv, E k = some (id, c) ∧ u = .slice (some ⟨id, off, none⟩) n capv := by
      cases cap with
      | none => obtain ⟨id, c, e1, e2⟩ := hx; exact ⟨id, c, _, e1.1, e2⟩
      | some cap => obtain ⟨id, c, e1, e2⟩ := hx; exact ⟨id, c, _, e1, e2⟩
    obtain ⟨id, c, capv, hk, rfl⟩ := hx'
    obtain ⟨id', c', hk', hr, _⟩ := hE.obj k o ho
    rw [hk] at hk'; cases hk'
    obtain ⟨vs, h1, h2, h3⟩ := loadN_spec hr _ off ys hys
    refine ⟨vs, h1, fun w2 => by simp [Builtin.lenOf], fun w2 hh m hm => ?_⟩
    have hle : m * sz ≤ n * sz := Nat.mul_le_mul_right _ hm
    have := run_loadCells_list (P := P) (w := w2) ⟨id, off, none⟩ (vs.take (m * sz)) (fun j v hj => by
      rw [Addr.add_lit]
      have hj' := hj
      rw [List.getElem?_take] at hj'
      split at hj'
      · have := h3 j v hj'
        simpa [World.cell?, hh] using this
      · cases hj')
    rw [List.length_take, h2, Nat.min_eq_left hle] at this
    simpa [Builtin.firstCells] using this
  · rename_i a c
    cases ha : Nat.beq a 0 with
    | false => simp [ha] at h
    | true =>
      cases hc : Nat.beq c 0 with
      | false => simp [ha, hc] at h
      | true =>
        simp only [ha, hc, Bool.and_self, cond_true, Option.some.injEq, Prod.mk.injEq] at h
        obtain ⟨rfl, rfl⟩ := h
        have e := Nat.eq_of_beq_eq_true ha
        have e1 : u = _ := hx
        subst e; subst e1
        exact ⟨[], rfl, fun w2 => by simp [Builtin.lenOf], fun w2 _ m _ => by simp [Builtin.firstCells]⟩
  · rename_i s
    cases h
    have e1 : u = _ := hx
    subst e1
    have hd := den_strCells (E := E) s
    refine ⟨_, hd, fun w2 => by simp [Builtin.lenOf], fun w2 _ m hm => ?_⟩
    have hsz : (strCells s).length = s.size := by simp [strCells]
    rw [hsz] at hl
    have hmm : m * sz = m ∨ s.size = 0 := by
      rcases Nat.eq_zero_or_pos s.size with h0 | h0
      · exact .inr h0
      · refine .inl ?_
        have : s.size * 1 = s.size * sz := by omega
        have := Nat.eq_of_mul_eq_mul_left h0 this
        rw [← this, Nat.mul_one]
    simp only [Builtin.firstCells, Sem.run_pure, Result.ok.injEq, and_true]
    apply Array.ext'
    rcases hmm with hm' | h0
    · rw [hm']
      simp [ByteArray.data_extract]
    · have : m = 0 := by omega
      subst this
      simp
  · rename_i k
    cases h
    obtain ⟨id, c, o, cp, hk, rfl⟩ := hx
    refine ⟨[], rfl, fun w2 => by simp [Builtin.lenOf], fun w2 _ m hm => ?_⟩
    have e : m = 0 := by omega
    subst e
    simp [Builtin.firstCells, loadCells, loadCellsFrom]
  · cases h

theorem app_in {ts : Array TypeId} {t u ty e sz n sLen sCap : Nat} {d : TypeDesc} {a : Addr} {x : Value} {news : List Value} {w' : World} (h0 : ts[0]? = some t) (h1 : ts[1]? = some u) (ht : P.underlying t = some (.slice e)) (hu : P.underlying u = some d) (hd : noInt d = true)
    (hs : tySize P e = some sz) (hn : (Builtin.lenOf x).run P w = .ok n w) (hroom : sLen + n ≤ sCap) (hx : (Builtin.firstCells sz n x).run P w = .ok news.toArray w)
    (hst : (storeCells (a.add (sLen * sz)) news).run P w = .ok () w') : (Builtin.append_ ts ty #[.slice (some a) sLen sCap, x]).run P w = .ok (.slice (some a) (sLen + n) sCap) w' := by
  cases d <;> first
    | (cases hd; done)
    | simp [Builtin.append_, h0, h1, run_underlying ht, run_underlying hu, tySize_run hs, hn, hroom, hx, hst]

theorem app_grow {ts : Array TypeId} {t u ty e sz bytes n sLen sCap : Nat} {z : Value} {d : TypeDesc} {base : Option Addr} {x : Value} {olds news : List Value} (h0 : ts[0]? = some t) (h1 : ts[1]? = some u) (ht : P.underlying t = some (.slice e)) (hu : P.underlying u = some d) (hd : noInt d = true)
    (hs : tySize P e = some sz) (hz : tyZero P e = some z) (hb : tyBytes P e = some bytes) (hn : (Builtin.lenOf x).run P w = .ok n w) (hroom : sCap < sLen + n) (h63 : sLen + n ≤ 35184372088832) (hby : (sLen + n) * bytes ≤ 35184372088832)
    (hold : (Builtin.firstCells sz sLen (.slice base sLen sCap)).run P w.drew = .ok olds.toArray w.drew) (hx : (Builtin.firstCells sz n x).run P w.drew = .ok news.toArray w.drew) :
    (Builtin.append_ ts ty #[.slice base sLen sCap, x]).run P w = .ok (.slice (some ⟨w.heap.size, 0, none⟩) (sLen + n) (grownCap w (sLen + n) sCap e))
      (w.drew.alloc (.cells (olds ++ (news ++ (Builtin.zeroCells z.cells (grownCap w (sLen + n) sCap e - (sLen + n))).toList)).toArray e)) := by
  obtain ⟨i, hi, hib⟩ := tyBytes_run hb w
  obtain ⟨i', hi', hib'⟩ := tyBytes_run hb w.drew
  have hni : ¬ (sLen + n ≤ sCap) := by omega
  have hfit : ¬ (281474976710656 < Builtin.nextslicecap (sLen + n) sCap * i.bytes) := by
    have := growslice_fits hroom (bytes := bytes) (by omega)
    rw [hib]; omega
  have h63' : ¬ (9223372036854775807 < ((sLen : Int) + (n : Int))) := by omega
  have hz' := tyZero_run hz (w := w.drew)
  cases d <;> first
    | (cases hd; done)
    | (simp [Builtin.append_, h0, h1, run_underlying ht, run_underlying hu, tySize_run hs, hn, hni, hi, hi', hfit, h63', Question.forced, hold, hx, hz', Go.newRow, grownCap]; done)
    | (simp [Builtin.append_, h0, h1, run_underlying ht, run_underlying hu, tySize_run hs, hn, hni, hi, hi', hfit, h63', Question.forced, hold, hx, hz', Go.newRow, grownCap]
       congr 2
       apply Array.ext'
       simp)
end
end Go.Xe
