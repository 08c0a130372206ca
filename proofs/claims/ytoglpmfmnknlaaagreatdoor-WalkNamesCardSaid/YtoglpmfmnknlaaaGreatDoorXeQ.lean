/- A part of an evaluator for the code. -/
import Derived.Test.YtoglpmfmnknlaaaGreatDoorXeP
namespace Go.Xe
section
variable {P : Program} {B : Nat} {w0 w : World} {X : XW} {E : Env}

theorem mkV_size {z : Value} {sz : Nat} (h : (mkV z).cells.length = sz) : z.cells.size = sz := by
  have := (mkV_cells (E := { f := fun _ => none, n := 0 }) z).length; simpa [h] using this

theorem appNew_good {ts : Array TypeId} {t u ty e sz b n sLen sCap : Nat} {z : Value} {d : TypeDesc} {base : Option Addr} {x : Value} {oy ny : List SV} {olds news : List Value} {y : SV} {X' : XW} (hE : Emb P B w0 X E w)
    (h0 : ts[0]? = some t) (h1 : ts[1]? = some u) (ht : P.underlying t = some (.slice e)) (hu : P.underlying u = some d) (hd : noInt d = true)
    (hs : tySize P e = some sz) (hz : tyZero P e = some z) (hb : tyBytes P e = some b) (hzl : (mkV z).cells.length = sz) (hn : (Builtin.lenOf x).run P w = .ok n w) (hroom : sCap < sLen + n)
    (hold : (Builtin.firstCells sz sLen (.slice base sLen sCap)).run P w.drew = .ok olds.toArray w.drew) (hx : (Builtin.firstCells sz n x).run P w.drew = .ok news.toArray w.drew)
    (ho : DenL E oy olds) (hv : DenL E ny news) (hol : olds.length = sLen * sz) (hnl : news.length = n * sz) (h : appNew e sz b (sLen + n) (oy ++ ny) X = some (y, X')) :
    Good P B w0 E w (Builtin.append_ ts ty #[.slice base sLen sCap, x]) y X' := by
  unfold appNew at h
  cases c1 : Nat.ble (sLen + n) 35184372088832 with
  | false => simp [c1] at h
  | true =>
  cases c2 : Nat.ble ((sLen + n) * b) 35184372088832 with
  | false => simp [c1, c2] at h
  | true =>
  simp only [c1, c2, Bool.and_self, cond_true, Option.some.injEq, Prod.mk.injEq] at h
  obtain ⟨rfl, rfl⟩ := h
  have c1' := Nat.le_of_ble_eq_true c1
  have c2' := Nat.le_of_ble_eq_true c2
  have hge := grownCap_ge w (sLen + n) sCap e
  have hrun := app_grow (ty := ty) h0 h1 ht hu hd hs hz hb hn hroom c1' c2' hold hx
  have hzs := mkV_size hzl
  obtain ⟨E', hle, hk, hE'⟩ := loose_good (ty := e) (esz := sz) (c := grownCap w (sLen + n) sCap e) (lo := 0) (hi := 0) (ys := oy ++ ny) (vs := olds ++ news)
    (rest := (Builtin.zeroCells z.cells (grownCap w (sLen + n) sCap e - (sLen + n))).toList) hE.drew (ho.append hv) (by
      simp only [List.length_append, hol, hnl, Array.length_toList, size_zeroCells, hzs, ← Nat.add_mul]
      congr 1; omega) (.inl rfl)
  refine ⟨E', _, _, hle, hrun, ⟨_, _, ⟨hk, by omega⟩, by simp⟩, ?_⟩
  simpa [List.append_assoc] using hE'

theorem appIn_good {ts : Array TypeId} {t u ty e sz n k off len lo : Nat} {cap : Option Nat} {d : TypeDesc} {o : Ob} {sv x : Value} {ny : List SV} {news : List Value} {y : SV} {X' : XW} (hE : Emb P B w0 X E w)
    (h0 : ts[0]? = some t) (h1 : ts[1]? = some u) (ht : P.underlying t = some (.slice e)) (hu : P.underlying u = some d) (hd : noInt d = true)
    (hs : tySize P e = some sz) (hn : (Builtin.lenOf x).run P w = .ok n w) (hx : (Builtin.firstCells sz n x).run P w = .ok news.toArray w) (hv : DenL E ny news) (hnl : ny.length = n * sz) (hone : allOne ny = true)
    (ho : X.objs.get k = some o) {id c capv : Nat} (hk : E k = some (id, c)) (hsv : sv = .slice (some ⟨id, off, none⟩) len capv) (hroom : len + n ≤ capv)
    (hy : ∀ E', Le E E' → Den E' (.sl k off (len + n) cap lo) (.slice (some ⟨id, off, none⟩) (len + n) capv))
    (h : appIn k off len cap lo (len + n) sz o ny X = some (y, X')) : Good P B w0 E w (Builtin.append_ ts ty #[sv, x]) y X' := by
  unfold appIn at h
  cases c1 : Nat.ble (off + (len + n) * sz) o.n with
  | false => simp [c1] at h
  | true =>
  cases c3 : o.ro with
  | true => simp [c1, c3] at h
  | false =>
  rw [show (Nat.ble (off + (len + n) * sz) o.n && !o.ro) = true by simp [c1, c3]] at h
  simp only [cond_true, Option.some.injEq, Prod.mk.injEq] at h
  obtain ⟨rfl, rfl⟩ := h
  have c1' := Nat.le_of_ble_eq_true c1
  subst hsv
  have hlen : off + len * sz + ny.length ≤ o.n := by rw [hnl]; rw [Nat.add_mul] at c1'; omega
  obtain ⟨w', hst, hE'⟩ := hE.stored (Q := P) ho hk c3 hv hone hlen
  exact ⟨E, _, w', Le.refl _, app_in (ty := ty) h0 h1 ht hu hd hs hn hroom hx (by rw [Addr.add_lit]; exact hst), hy E (Le.refl _), hE'⟩

theorem appOn_good {ts : Array TypeId} {t u ty e sz b n k len : Nat} {z : Value} {d : TypeDesc} {o : Ob} {sv x : Value} {ny : List SV} {news : List Value} {y : SV} {X' : XW} (hE : Emb P B w0 X E w)
    (h0 : ts[0]? = some t) (h1 : ts[1]? = some u) (ht : P.underlying t = some (.slice e)) (hu : P.underlying u = some d) (hd : noInt d = true)
    (hs : tySize P e = some sz) (hz : tyZero P e = some z) (hb : tyBytes P e = some b) (hzl : (mkV z).cells.length = sz) (hn : (Builtin.lenOf x).run P w = .ok n w)
    (hx : ∀ w2 : World, w2.heap = w.heap → (Builtin.firstCells sz n x).run P w2 = .ok news.toArray w2) (hv : DenL E ny news) (hnl : ny.length = n * sz) (hone : allOne ny = true)
    (ho : X.objs.get k = some o) {id c : Nat} (hk : E k = some (id, c)) (hsv : sv = .slice (some ⟨id, 0, none⟩) len c) (hesz : o.esz = sz) (hloose : o.loose = true) (hro : o.ro = false) (hty : o.ty = e)
    (h : appOn k len (len + n) sz b o ny X = some (y, X')) : Good P B w0 E w (Builtin.append_ ts ty #[sv, x]) y X' := by
  unfold appOn at h
  cases c1 : Nat.ble (len * sz) o.n with
  | false => simp [c1] at h
  | true =>
  cases c3 : Nat.ble (len + n) 35184372088832 with
  | false => simp [c1, c3] at h
  | true =>
  cases c4 : Nat.ble ((len + n) * b) 35184372088832 with
  | false => simp [c1, c3, c4] at h
  | true =>
  simp only [c1, c3, c4, Bool.and_self, cond_true, force_eq, Option.some.injEq, Prod.mk.injEq] at h
  obtain ⟨rfl, rfl⟩ := h
  have c1' := Nat.le_of_ble_eq_true c1
  have c3' := Nat.le_of_ble_eq_true c3
  have c4' := Nat.le_of_ble_eq_true c4
  subst hsv
  obtain ⟨id', c', hk', hrel, hBid⟩ := hE.obj k o ho
  obtain ⟨hit, cs, ty', lo, hi, hbk, hcell, hnro⟩ := hrel.cs hro
  rw [hk] at hk'; cases hk'
  obtain ⟨hty', hfz, hnle, _, hl2⟩ := hnro hro
  have hcs := hl2 hloose
  rw [hesz] at hcs
  have hnl' : news.length = n * sz := by rw [hv.length, hnl]
  -- what the new object reads
  have hread : ∀ (E' : Env) (cs' : Array Value), Le E E' → (∀ j, j < len * sz → cs'[j]? = cs[j]?) → (∀ j, j < news.length → cs'[len * sz + j]? = news[j]?) →
      ∀ j y, Ob.get { o with ver := 0, n := (len + n) * sz, ov := storeN o.ov (len * sz) ny } j = some y → ∃ v, cs'[j]? = some v ∧ Den E' y v := by
    intro E' cs' hle hA hB j y hj
    have hjlt : j < (len + n) * sz := Ob.get_lt hj
    have hbl : Nat.blt j ((len + n) * sz) = true := by rw [Nat.blt_eq]; exact hjlt
    rw [Nat.add_mul] at hjlt
    unfold Ob.get at hj
    simp only [hbl, cond_true] at hj
    rw [get_storeN_eq ny o.ov (len * sz) j] at hj
    by_cases hin : len * sz ≤ j ∧ j < len * sz + ny.length
    · rw [if_pos hin] at hj
      cases hy : ny[j - len * sz]? with
      | none => rw [List.getElem?_eq_none_iff] at hy; omega
      | some z =>
        simp only [hy] at hj; cases hj
        obtain ⟨v, hv1, hv2⟩ := (hv.mono hle).get _ _ hy
        refine ⟨v, ?_, hv2⟩
        have := hB (j - len * sz) (by have := (List.getElem?_eq_some_iff.1 hv1).1; omega)
        rw [show len * sz + (j - len * sz) = j by omega] at this
        rw [this]; exact hv1
    · rw [if_neg hin] at hj
      have hj2 : j < len * sz := by rw [hnl] at hin; omega
      rw [hA j hj2]
      have hbl2 : Nat.blt j o.n = true := by rw [Nat.blt_eq]; omega
      obtain ⟨v, hv1, hv2⟩ := hcell j y (by unfold Ob.get; simp only [hbl2, cond_true]; exact hj)
      exact ⟨v, hv1, hv2.mono hle⟩
  by_cases hroom : len + n ≤ c
  · -- there was room
    have hroom' : len * sz + n * sz ≤ cs.size := by rw [hcs, ← Nat.add_mul]; exact Nat.mul_le_mul_right _ hroom
    obtain ⟨w', cs', hst, hos, htp, hout, hsz, hoth, hb2, hcs', hget⟩ := storeCells_spec P id (len * sz) ty' lo hi news 0 w cs hbk (denL_one hv hone) (fun j hj => ⟨by omega, by rcases hfz with e | e <;> simp <;> omega⟩)
    have hrun := app_in (ty := ty) (w' := w') h0 h1 ht hu hd hs hn hroom (hx w rfl) (by rw [Addr.add_lit, Nat.zero_add]; exact hst)
    refine ⟨E.put X.next id c, _, w', Env.le_put (hE.fresh _ (Nat.le_refl _)) hE.nle, hrun, ⟨id, c, ⟨Env.put_same _ _ _ _, by omega⟩, by simp⟩, ?_⟩
    refine hE.renamed (o' := { o with ver := 0, n := (len + n) * sz, ov := storeN o.ov (len * sz) ny }) ho hk hro hro hos htp hout hsz hoth (.inl ⟨hit, cs', ty', lo, hi, hb2, ?_, fun _ => ⟨hty', by rw [hcs']; exact hfz, ?_, fun h => (by rw [hloose] at h; cases h), fun _ => by rw [hcs', hcs, ← hesz]⟩⟩)
    · refine hread _ _ (Env.le_put (hE.fresh _ (Nat.le_refl _)) hE.nle) (fun j hj => ?_) (fun j hj => ?_)
      · rw [hget j, if_neg (by omega)]
      · rw [hget (len * sz + j), if_pos (by omega)]
        congr 1; omega
    · rw [hcs', Nat.add_mul]; exact hroom'
  · -- a new row
    have hlen : len * sz ≤ cs.size := by omega
    have hold : (Builtin.firstCells sz len (.slice (some ⟨id, 0, none⟩) len c)).run P w.drew = .ok (cs.toList.take (len * sz)).toArray w.drew := by
      have := run_loadCells_list (P := P) (w := w.drew) ⟨id, 0, none⟩ (cs.toList.take (len * sz)) (fun j v hj => by
        rw [Addr.add_lit, Nat.zero_add]
        rw [List.getElem?_take] at hj
        have hbk' : w.drew.heap[id]? = some (.cells cs ty' (lo, hi)) := hbk
        split at hj
        · simpa [World.cell?, hbk'] using hj
        · cases hj)
      rw [List.length_take, Array.length_toList, Nat.min_eq_left hlen] at this
      simpa [Builtin.firstCells] using this
    have hge := grownCap_ge w (len + n) c e
    have hrun := app_grow (ty := ty) h0 h1 ht hu hd hs hz hb hn (by omega) c3' c4' hold (hx w.drew rfl)
    have hzs := mkV_size hzl
    have hE1 := (hE.killed k).drew
    refine ⟨E.put X.next w.heap.size (grownCap w (len + n) c e), _, _, Env.le_put (hE.fresh _ (Nat.le_refl _)) hE.nle, hrun, ⟨_, _, ⟨Env.put_same _ _ _ _, by omega⟩, by simp⟩, ?_⟩
    have hlt : (cs.toList.take (len * sz)).length = len * sz := by rw [List.length_take, Array.length_toList, Nat.min_eq_left hlen]
    have := hE1.new { o with ver := 0, n := (len + n) * sz, ov := storeN o.ov (len * sz) ny } (cs.toList.take (len * sz) ++ (news ++ (Builtin.zeroCells z.cells (grownCap w (len + n) c e - (len + n))).toList)).toArray
      (grownCap w (len + n) c e) 0 0 hro hit (fun E' hle => ?_)
    · rw [show e = o.ty from hty.symm]
      rw [← hty] at this
      exact this
    · refine ⟨_, _, 0, 0, rfl, hread E' _ hle (fun j hj => ?_) (fun j hj => ?_), fun _ => ⟨rfl, .inl rfl, ?_, fun h => (by rw [hloose] at h; cases h), fun _ => ?_⟩⟩
      · rw [List.getElem?_toArray, List.getElem?_append_left (by rw [hlt]; exact hj), List.getElem?_take, if_pos hj]
        simp
      · rw [List.getElem?_toArray, List.getElem?_append_right (by rw [hlt]; omega), hlt, show len * sz + j - len * sz = j by omega, List.getElem?_append_left hj]
      · simp only [List.size_toArray, List.length_append, hlt, hnl', Nat.add_mul]
        omega
      · simp only [List.size_toArray, List.length_append, hlt, hnl', Array.length_toList, size_zeroCells, hzs]
        rw [hesz, ← Nat.add_assoc, ← Nat.add_mul, ← Nat.add_mul]
        congr 1; omega

theorem append_good {ts : Array TypeId} {t u ty : Nat} {d : TypeDesc} {s x y : SV} {sv xv : Value} {X' : XW} (hE : Emb P B w0 X E w) (h0 : ts[0]? = some t) (h1 : ts[1]? = some u) (hu : P.underlying u = some d) (hd : noInt d = true)
    (hs : Den E s sv) (hx : Den E x xv) (h : semAppend P t s x X = some (y, X')) : Good P B w0 E w (Builtin.append_ ts ty #[sv, xv]) y X' := by
  unfold semAppend at h
  split at h <;> try (cases h; done)
  rename_i e ht
  split at h <;> try (cases h; done)
  rename_i sz z b hsz hz hb
  split at h <;> try (cases h; done)
  rename_i n ny hel
  cases c1 : Nat.ble 1 sz with
  | false => simp [c1] at h
  | true =>
  cases c2 : Nat.beq ny.length (n * sz) with
  | false => simp [c1, c2] at h
  | true =>
  cases c3 : allOne ny with
  | false => simp [c1, c2, c3] at h
  | true =>
  cases c4 : Nat.beq (mkV z).cells.length sz with
  | false => simp [c1, c2, c3, c4] at h
  | true =>
  simp only [c1, c2, c3, c4, Bool.and_self, cond_true] at h
  have c2' := Nat.eq_of_beq_eq_true c2
  have c4' := Nat.eq_of_beq_eq_true c4
  obtain ⟨news, hv, hlen, hfc⟩ := appElems_spec (P := P) hE hx hel c2'
  have hnl : news.length = n * sz := by rw [hv.length, c2']
  have hfull : ∀ w2 : World, w2.heap = w.heap → (Builtin.firstCells sz n xv).run P w2 = .ok news.toArray w2 := fun w2 hh => by
    have := hfc w2 hh n (Nat.le_refl _)
    rwa [← hnl, List.take_length] at this
  split at h
  · -- nothing there
    rename_i a c
    have e1 : sv = _ := hs
    subst e1
    cases ha : Nat.beq a 0 with
    | false => simp [ha] at h
    | true =>
    cases hc : Nat.beq c 0 with
    | false => simp [ha, hc] at h
    | true =>
    simp only [ha, hc, Bool.and_self, cond_true] at h
    have ha' := Nat.eq_of_beq_eq_true ha
    have hc' := Nat.eq_of_beq_eq_true hc
    subst ha'; subst hc'
    cases hn0 : Nat.beq n 0 with
    | true =>
      have hn0' := Nat.eq_of_beq_eq_true hn0
      subst hn0'
      simp only [hn0, cond_true, Option.some.injEq, Prod.mk.injEq] at h
      obtain ⟨rfl, rfl⟩ := h
      refine ⟨E, .slice none 0 0, w, Le.refl _, ?_, rfl, hE⟩
      have hf := hfull w rfl
      cases d <;> first
        | (cases hd; done)
        | simp [Builtin.append_, h0, h1, run_underlying ht, run_underlying hu, tySize_run hsz, hlen, hf]
    | false =>
      have hn0' := Nat.ne_of_beq_eq_false hn0
      simp only [hn0, cond_false] at h
      have h' : appNew e sz b (0 + n) ([] ++ ny) X = some (y, X') := by simpa using h
      exact appNew_good (oy := []) (olds := []) hE h0 h1 ht hu hd hsz hz hb c4' (hlen w) (by omega) (by simp [Builtin.firstCells]) (hfull w.drew rfl) rfl hv (by simp) hnl h'
  · rename_i k off len cap lo
    unfold appTo at h
    split at h <;> try (cases h; done)
    rename_i o ho
    rw [force_eq] at h
    obtain ⟨id', c', hk', hrel, hBid⟩ := hE.obj k o ho
    cases cap with
    | some cp =>
      obtain ⟨id, c, hk, rfl⟩ := hs
      simp only at h
      cases hr : Nat.ble (len + n) cp with
      | true =>
        simp only [hr, cond_true] at h
        exact appIn_good (cap := some cp) (lo := lo) hE h0 h1 ht hu hd hsz (hlen w) (hfull w rfl) hv c2' c3 ho hk rfl (Nat.le_of_ble_eq_true hr) (fun E' hle => ⟨id, c, hle.sub _ _ hk, rfl⟩) h
      | false =>
        simp only [hr, cond_false] at h
        split at h <;> try (cases h; done)
        rename_i oy hoy
        have hr' : cp < len + n := by
          rcases Nat.lt_or_ge cp (len + n) with h' | h'
          · exact h'
          · have : Nat.ble (len + n) cp = true := by rw [Nat.ble_eq]; exact h'
            rw [hr] at this; cases this
        rw [hk] at hk'; cases hk'
        obtain ⟨olds, hod, hol, hoc⟩ := loadN_spec hrel _ off oy hoy
        have hold : (Builtin.firstCells sz len (.slice (some ⟨id', off, none⟩) len cp)).run P w.drew = .ok olds.toArray w.drew := by
          have := run_loadCells_list (P := P) (w := w.drew) ⟨id', off, none⟩ olds (fun j v hj => by
            rw [Addr.add_lit]
            exact hoc j v hj)
          rw [hol] at this
          simpa [Builtin.firstCells] using this
        exact appNew_good hE h0 h1 ht hu hd hsz hz hb c4' (hlen w) hr' hold (hfull w.drew rfl) hod hv hol hnl h
    | none =>
      obtain ⟨id, c, ⟨hk, hle⟩, rfl⟩ := hs
      simp only at h
      cases g1 : Nat.beq off 0 with
      | false => simp [g1] at h
      | true =>
      cases g2 : Nat.beq lo 0 with
      | false => simp [g1, g2] at h
      | true =>
      cases g3 : Nat.beq o.esz sz with
      | false => simp [g1, g2, g3] at h
      | true =>
      cases g4 : o.loose with
      | false => simp [g1, g2, g3, g4] at h
      | true =>
      cases g5 : o.ro with
      | true => simp [g1, g2, g3, g4, g5] at h
      | false =>
      cases g6 : Nat.beq o.ty e with
      | false => simp [g1, g2, g3, g4, g5, g6] at h
      | true =>
      simp only [g1, g2, g3, g4, g5, g6, Bool.and_self, Bool.not_false, cond_true] at h
      have g1' := Nat.eq_of_beq_eq_true g1
      have g2' := Nat.eq_of_beq_eq_true g2
      have g3' := Nat.eq_of_beq_eq_true g3
      have g6' := Nat.eq_of_beq_eq_true g6
      subst g1'; subst g2'
      rw [Nat.sub_zero]
      rw [hk] at hk'; cases hk'
      obtain ⟨_, cs, ty', l', h'', hbk, hcell, hnro⟩ := hrel.cs g5
      obtain ⟨_, _, hnle, _, hl2⟩ := hnro g5
      have hcs := hl2 g4
      rw [g3'] at hcs
      cases hr : Nat.ble ((len + n) * sz) o.n with
      | true =>
        simp only [hr, cond_true] at h
        have hr' := Nat.le_of_ble_eq_true hr
        have hroom : len + n ≤ c' := by
          have h1 : (len + n) * sz ≤ c' * sz := by omega
          exact Nat.le_of_mul_le_mul_right h1 (by have := Nat.le_of_ble_eq_true c1; omega)
        exact appIn_good (cap := none) (lo := 0) hE h0 h1 ht hu hd hsz (hlen w) (hfull w rfl) hv c2' c3 ho hk rfl hroom (fun E' hle => ⟨id', c', ⟨hle.sub _ _ hk, by omega⟩, by simp⟩) h
      | false =>
        simp only [hr, cond_false] at h
        exact appOn_good hE h0 h1 ht hu hd hsz hz hb c4' (hlen w) hfull hv c2' c3 ho hk rfl g3' g4 g5 g6' h
  · rename_i k
    obtain ⟨id, c, o, cp, hk, rfl⟩ := hs
    cases hn0 : Nat.beq n 0 with
    | false => simp [hn0] at h
    | true =>
      have hn0' := Nat.eq_of_beq_eq_true hn0
      subst hn0'
      simp only [hn0, cond_true, Option.some.injEq, Prod.mk.injEq] at h
      obtain ⟨rfl, rfl⟩ := h
      refine ⟨E, .slice (some ⟨id, o, none⟩) 0 cp, w, Le.refl _, ?_, ⟨id, c, o, cp, hk, rfl⟩, hE⟩
      have hf := hfull w rfl
      have hnil : news = [] := by
        have : news.length = 0 := by simpa using hnl
        exact List.length_eq_zero_iff.1 this
      subst hnil
      have hst : ∀ a : Addr, (storeCells a ([] : List Value)).run P w = .ok () w := fun _ => rfl
      cases d <;> first
        | (cases hd; done)
        | simp [Builtin.append_, h0, h1, run_underlying ht, run_underlying hu, tySize_run hsz, hlen, hf, hst]
  · cases h
end
end Go.Xe
