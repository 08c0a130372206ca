/- A part of an evaluator for the code. -/
import Derived.Test.YtoglpmfmnknlaaaGreatDoorXeH
namespace Go.Xe
section
variable {P : Program} {B : Nat} {w0 w : World} {X : XW} {E : Env} {ds : List Deferred}

def FrRel (ds : List Deferred) (N : Nat) (E : Env) (F : Tr SV) (a : Act) : Prop :=
  a.defers = ds ∧ N ≤ a.tmps.size ∧ ∀ j y, F.get j = some y → j < N ∧ ∃ v, a.tmps[j]? = some v ∧ Den E y v

theorem FrRel.mono {N : Nat} {E E' : Env} {F : Tr SV} {a : Act} (h : FrRel ds N E F a) (hE : Le E E') : FrRel ds N E' F a :=
  ⟨h.1, h.2.1, fun j y hj => let ⟨l, v, h1, h2⟩ := h.2.2 j y hj; ⟨l, v, h1, h2.mono hE⟩⟩

theorem FrRel.put {N : Nat} {F : Tr SV} {a : Act} (h : FrRel ds N E F a) {d : Option Tmp} {y : SV} {v : Value} (hd : Den E y v) : FrRel ds N E (Xe.put N F d y) (a.put d v) := by
  cases d with
  | none => exact h
  | some d =>
    simp only [Xe.put, Act.put]
    cases hb : Nat.blt d N with
    | false =>
      refine ⟨h.1, by simpa using h.2.1, fun j z hj => ?_⟩
      obtain ⟨hl, u, h1, h2⟩ := h.2.2 j z hj
      have hne : d ≠ j := fun e => by subst e; have : Nat.blt d N = true := by rw [Nat.blt_eq]; exact hl
                                      rw [hb] at this; cases this
      exact ⟨hl, u, by simpa [Array.getElem?_setIfInBounds_ne hne] using h1, h2⟩
    | true =>
      have hlt : d < N := by rw [Nat.blt_eq] at hb; exact hb
      refine ⟨h.1, by simpa using h.2.1, fun j z hj => ?_⟩
      rcases get_put_some hj with ⟨e, e2⟩ | ⟨e, hz⟩
      · subst e; subst e2
        have hsz := h.2.1
        exact ⟨hlt, v, Array.getElem?_setIfInBounds_self_of_lt (Nat.lt_of_lt_of_le hlt hsz), hd⟩
      · obtain ⟨hl, u, h1, h2⟩ := h.2.2 j z hz
        exact ⟨hl, u, by simpa [Array.getElem?_setIfInBounds_ne (fun h => e h.symm)] using h1, h2⟩

theorem look_sound {N : Nat} {F : Tr SV} {a : Act} (hE : Emb P B w0 X E w) (hF : FrRel ds N E F a) {x : Operand} {y : SV} (h : look X.ng F x = some y) : Den E y (a.eval x) := by
  cases x with
  | tmp t =>
    obtain ⟨_, v, h1, h2⟩ := hF.2.2 t y h
    simpa [Act.eval, h1] using h2
  | const v => simp only [look, Option.some.injEq] at h; subst h; exact den_mkV E v
  | global g =>
    simp only [look] at h
    cases hb : Nat.blt g X.ng with
    | false => simp [hb] at h
    | true =>
      simp only [hb, cond_true, Option.some.injEq] at h; subst h
      obtain ⟨c, hc⟩ := hE.glob g (by rw [Nat.blt_eq] at hb; exact hb)
      exact ⟨g, c, hc, rfl⟩
  | func f => simp only [look, Option.some.injEq] at h; subst h; exact ⟨[], [], rfl, rfl, rfl⟩

theorem looks_sound {N : Nat} {F : Tr SV} {a : Act} (hE : Emb P B w0 X E w) (hF : FrRel ds N E F a) : ∀ {xs : List Operand} {ys : List SV}, looks X.ng F xs = some ys → DenL E ys (xs.map a.eval)
  | [], ys, h => by simp [looks] at h; subst h; rfl
  | x :: xs, ys, h => by
    simp only [looks] at h
    split at h <;> try (cases h; done)
    rename_i y hy
    split at h <;> try (cases h; done)
    rename_i ys' hys
    cases h
    exact ⟨_, _, look_sound hE hF hy, looks_sound hE hF hys, rfl⟩

/-! ### Calls -/
def wideR (ro : Option Nat) : Fence := { fn := fun _ => True, depth := none, alive := false, round := ro }

def RetPost (P : Program) (B : Nat) (w0 : World) (E : Env) (y : Out) (X' : XW) (e : Ending) (w' : World) : Prop :=
  ∃ E', Le E E' ∧ Emb P B w0 X' E' w' ∧ match y with
    | .ret z => ∃ v, e = .returned v ∧ Den E' z v
    | .pan ch => ∃ l, e = .panicked l ∧ DenCh E' ch l

def CalIn (P : Program) (E : Env) (c : Cal) (argv : List Value) (w : World) (R : Ending → World → Prop) : Prop := match c with
  | .fn f => (∃ fn, P.funcs[f]? = some fn ∧ fn.body.isSome = true ∧ fn.name ≠ "runtime.NumGoroutine" ∧ CallsIn (wideR none) 0 P f argv.toArray w R) ∨ (∃ v w', (callFunc f argv.toArray).run P w = .ok (.value v) w' ∧ R (.returned v) w')
  | .ent f => ∃ fn, P.funcs[f]? = some fn ∧ fn.body.isSome = true ∧ fn.name ≠ "runtime.NumGoroutine" ∧ CallsIn (wideR none) 0 P f argv.toArray w R
  | .yld k => ∃ l c fn tmps assign body, E k = some (l, c) ∧ (Instr.yield l argv.toArray).run P w = .ok (.round l fn tmps assign body) w ∧ RoundIn (wideR none) 0 P l fn tmps assign body w R

def CallOK (P : Program) (callf : CallF) : Prop := ∀ c args X y X', callf c args X = some (y, X') → Pc X' →
  Pc X ∧ ∀ B w0 E w argv, Emb P B w0 X E w → DenL E args argv → CalIn P E c argv w (RetPost P B w0 E y X')

theorem CallsIn.anyRound {f : FuncId} {args : Array Value} {R : Ending → World → Prop} (ro : Option Nat) (h : CallsIn (wideR none) 0 P f args w R) : CallsIn (wideR ro) 0 P f args w R := h
theorem RoundIn.anyRound {l : Nat} {f : FuncId} {tmps : Array Value} {a c : Code} {R : Ending → World → Prop} (ro : Option Nat) (h : RoundIn (wideR none) 0 P l f tmps a c w R) : RoundIn (wideR ro) 0 P l f tmps a c w R := h

theorem cal_run {c : Call} {type : TypeId} {vals args : List SV} {cal : Cal} {ρ : Operand → Value} (hE : Emb P B w0 X E w) (hv : DenL E vals (c.operands.toList.map ρ)) (h : calE P c vals X = some (cal, args)) :
    ∃ argv, DenL E args argv ∧ (match cal with
      | .fn f => (do let d ← resolve ρ c type; invoke d.target d.args : Sem Next).run P w = (callFunc f argv.toArray).run P w
      | .ent _ => False
      | .yld k => ∃ l cc, E k = some (l, cc) ∧ (do let d ← resolve ρ c type; invoke d.target d.args : Sem Next).run P w = (Instr.yield l argv.toArray).run P w) := by
  unfold calE at h
  split at h
  · rename_i f' hcal
    have hops : c.operands.toList = f' :: c.args.toList := by simp [Call.operands, hcal]
    rw [hops] at hv
    split at h <;> try (cases h; done)
    · rename_i f fa fb as
      obtain ⟨u, us, ⟨xa, xb, hxa, hxb, hu⟩, hus, e⟩ := hv
      simp only [List.map_cons, List.cons.injEq] at e
      obtain ⟨e1, e2⟩ := e
      cases h
      refine ⟨xa ++ us ++ xb, (hxa.append hus).append hxb, ?_⟩
      have hmap : Array.map ρ c.args = us.toArray := by rw [← e2, ← Array.toList_inj]; simp
      simp [resolve, hcal, e1, hu, Deferred.ofValue, hmap, invoke]
    · rename_i k as
      obtain ⟨u, us, ⟨l, cc, hk, hu⟩, hus, e⟩ := hv
      simp only [List.map_cons, List.cons.injEq] at e
      obtain ⟨e1, e2⟩ := e
      cases h
      refine ⟨us, hus, l, cc, hk, ?_⟩
      have hmap : Array.map ρ c.args = us.toArray := by rw [← e2, ← Array.toList_inj]; simp
      simp [resolve, hcal, e1, hu, Deferred.ofValue, hmap, invoke]
  · rename_i rc name hcal
    have hops : c.operands.toList = rc :: c.args.toList := by simp [Call.operands, hcal]
    rw [hops] at hv
    split at h <;> try (cases h; done)
    rename_i x as
    split at h <;> try (cases h; done)
    rename_i f r hm
    obtain ⟨u, us, hu, hus, e⟩ := hv
    simp only [List.map_cons, List.cons.injEq] at e
    obtain ⟨e1, e2⟩ := e
    cases h
    obtain ⟨rv, hr, hrun⟩ := meth_run hE hu hm
    refine ⟨rv :: us, ⟨_, _, hr, hus, rfl⟩, ?_⟩
    have hmap : Array.map ρ c.args = us.toArray := by rw [← e2, ← Array.toList_inj]; simp
    have hx : (#[u] ++ us.toArray).extract 1 (#[u] ++ us.toArray).size = us.toArray := by
      apply Array.ext'
      simp
    have h0 : (#[u] ++ us.toArray)[0]? = some u := by simp
    have hrun' := hrun us.toArray
    simp only [resolve, hcal, e1, hmap, Sem.run_bind, Sem.run_pure, Result.andThen_ok, invoke, h0, hx]
    rw [hrun']
    simp
  · cases h

theorem opO_sound {callf : CallF} (hcall : CallOK P callf) {N : Nat} {F : Tr SV} {a : Act} {o : Oper} {y : Out} {X' : XW} (hE : Emb P B w0 X E w) (hF : FrRel ds N E F a) (hsel : noSel o.op = true)
    (h : evOpO P callf o F X = some (y, X')) (hp : Pc X') (ro : Option Nat) {K : Act → World → Prop} {Q : Exit → Act → World → Prop}
    (hK : ∀ z, y = .ret z → ∀ E' v w', Le E E' → Den E' z v → Emb P B w0 X' E' w' → K (a.put o.dst v) w')
    (hQ : ∀ ch, y = .pan ch → ∀ E' l w', Le E E' → DenCh E' ch l → Emb P B w0 X' E' w' → Q (.panic l) a w') : o.wpIn (wideR ro) 0 P a w K Q := by
  refine ⟨fun _ _ => trivial, ?_⟩
  have hsem : o.semAt (wideR ro).round a.eval = execOp a.eval o := by
    cases ro with
    | none => rfl
    | some l => exact Oper.semAt_some l _ o (fun c hc => by rw [hc] at hsel; simp [noSel] at hsel)
  rw [hsem]
  unfold evOpO at h
  split at h <;> try (cases h; done)
  rename_i vals hv
  have hv' := looks_sound hE hF hv
  have plain : ∀ z, y = .ret z → OpGood P B w0 E w (execOp a.eval o) z X' → o.uponIn (wideR ro) 0 P a K Q ((execOp a.eval o).run P w) := by
    rintro z hz ⟨E', v, w', h1, h2, h3, h4⟩
    rcases h2 with h2 | ⟨h2, rfl⟩
    · rw [h2]; exact hK z hz E' v w' h1 h3 h4
    · rw [h2]; exact hK z hz E' undef w' h1 h3 h4
  have retO_some : ∀ {r : Option (SV × XW)}, retO r = some (y, X') → ∃ z, y = .ret z ∧ r = some (z, X') := by
    intro r hr
    unfold retO at hr
    split at hr <;> cases hr
    exact ⟨_, rfl, rfl⟩
  have pan : ∀ {u : Value}, panE vals X = some (y, X') → DenL E vals [u] → (execOp a.eval o).run P w = ((Instr.panic u).run P w).andThen (fun v w' => Result.ok (Next.value v) w') → o.uponIn (wideR ro) 0 P a K Q ((execOp a.eval o).run P w) := by
    intro u hpa hd hrun
    unfold panE at hpa
    split at hpa <;> try (cases hpa; done)
    rename_i tt xx
    cases hpa
    obtain ⟨u', hu', hd'⟩ := denL1 hd
    cases hu'
    have hd2 := hd'
    obtain ⟨x, hx, rfl⟩ := hd2
    rw [hrun]
    have hpn : (Instr.panic (.iface tt x) : Sem Value).run P w = .halt (.panic (.iface tt x)) w := rfl
    rw [hpn]
    exact hQ _ rfl E _ w (Le.refl _) ⟨_, [], hd', rfl, rfl⟩ hE
  split at h
  · rename_i c hc
    have hops : o.op.operands.toList = c.operands.toList := by rw [hc]; rfl
    rw [hops] at hv'
    have hex : execOp a.eval o = (do let d ← resolve a.eval c o.type; invoke d.target d.args) := by simp only [execOp, hc]
    split at h
    · rename_i b hcal
      have hops2 : c.operands.toList = c.args.toList := by simp [Call.operands, hcal]
      rw [hops2] at hv'
      have hmap : Array.map a.eval c.args = (c.args.toList.map a.eval).toArray := by rw [← Array.toList_inj]; simp
      cases hpb : isPanB b with
      | true =>
        rw [hpb] at h
        simp only [cond_true] at h
        have hb : b = .panic := by cases b <;> first | rfl | cases hpb
        subst hb
        have hlen := hv'.length
        unfold panE at h
        split at h <;> try (cases h; done)
        rename_i t x
        obtain ⟨u, hu, hd⟩ := denL1 hv'
        refine pan (u := u) (by unfold panE; exact h) ⟨u, [], hd, rfl, rfl⟩ ?_
        rw [hex]
        simp only [resolve, hcal, hmap, hu, invoke, Sem.run_bind, Sem.run_pure, Result.andThen_ok, builtin]
        rfl
      | false =>
        rw [hpb] at h
        simp only [cond_false] at h
        obtain ⟨z, rfl, h3⟩ := retO_some h
        obtain ⟨E', v, w', g1, g2, g3, g4⟩ := blt_good (ty := o.type) (consts := c.args.map fun | .const _ => true | _ => false) hE hv' h3
        refine plain z rfl ⟨E', v, w', g1, .inl ?_, g3, g4⟩
        rw [hex]
        simp only [resolve, hcal, hmap, invoke, Sem.run_bind, Sem.run_pure, Result.andThen_ok]
        exact g2
    · split at h <;> try (cases h; done)
      rename_i cal args hcal
      obtain ⟨argv, hargs, hrun⟩ := cal_run (type := o.type) hE hv' hcal
      obtain ⟨_, hcl⟩ := hcall _ _ _ _ _ h hp
      have hcal2 := hcl B w0 E w argv hE hargs
      have post : ∀ {e w'}, RetPost P B w0 E y X' e w' → (∀ v, e = .returned v → K (a.put o.dst v) w') ∧ (∀ ch, e = .panicked ch → Q (.panic ch) a w') ∧ e ≠ .outgrown := by
        rintro e w' ⟨E', h1, h2, h3⟩
        cases y with
        | ret z =>
          obtain ⟨v, rfl, hd⟩ := h3
          exact ⟨fun v' e => (by cases e; exact hK z rfl E' v w' h1 hd h2), fun ch e => (by cases e), by simp⟩
        | pan ch =>
          obtain ⟨l, rfl, hd⟩ := h3
          exact ⟨fun v' e => (by cases e), fun ch' e => (by cases e; exact hQ ch rfl E' l w' h1 hd h2), by simp⟩
      rw [hex]
      cases cal with
      | fn f =>
        rw [hrun]
        rcases hcal2 with ⟨fn, hfn, hbody, hname, hci⟩ | ⟨v, w', hr, hpost⟩
        · have hbn : fn.body ≠ none := fun e => by rw [e] at hbody; cases hbody
          have : (callFunc f argv.toArray).run P w = .ok (.enter f argv.toArray) w := by simp [callFunc, hfn, hname, hbn]
          rw [this, Oper.uponIn_enter]
          refine ⟨(fun h => by cases h), ?_⟩
          refine CallsIn.mono (CallsIn.anyRound ro hci) ?_
          intro e w' hpost
          obtain ⟨p1, p2, p3⟩ := post hpost
          cases e with
          | returned v => exact p1 v rfl
          | panicked ch => exact p2 ch rfl
          | outgrown => exact absurd rfl p3
        · rw [hr]
          exact (post hpost).1 v rfl
      | ent f => exact hrun.elim
      | yld k =>
        obtain ⟨l, cc, hk, hrun⟩ := hrun
        obtain ⟨l', cc', fn, tmps, assign, body, hk', hy, hri⟩ := hcal2
        rw [hk] at hk'; cases hk'
        rw [hrun, hy, Oper.uponIn_round]
        refine ⟨(fun h => by cases h), ?_⟩
        refine RoundIn.mono (RoundIn.anyRound ro hri) ?_
        intro e w' hpost
        obtain ⟨p1, p2, p3⟩ := post hpost
        cases e with
        | returned v => exact p1 v rfl
        | panicked ch => exact p2 ch rfl
        | outgrown => exact absurd rfl p3
  · rename_i x hx
    have hops : o.op.operands.toList = [x] := by rw [hx]; rfl
    rw [hops] at hv'
    refine pan (u := a.eval x) h hv' ?_
    simp only [execOp, hx, Sem.run_bind]
    rfl
  · rename_i op hne1 hne2
    obtain ⟨z, rfl, h3⟩ := retO_some h
    exact plain z rfl (sem_sound hE hv' hp h3)

theorem evOpO_ret {callf : CallF} {F : Tr SV} {o : Oper} {y : SV} {X' : XW} (h : evOp P callf o F X = some (y, X')) : evOpO P callf o F X = some (.ret y, X') := by
  unfold evOp at h
  unfold evOpO
  split at h <;> try (cases h; done)
  rename_i vals hv
  split at h
  · rename_i c hc
    unfold evCall at h
    split at h
    · rename_i b hcal
      have hb : isPanB b = false := by
        cases b <;> first | rfl | (unfold bltE at h; split at h <;> first | cases h | contradiction)
      simp only [hc, hcal, hb, cond_false, h, retO]
    · rename_i hcal
      split at h <;> try (cases h; done)
      rename_i cal args hc2
      unfold callV at h
      split at h <;> try (cases h; done)
      rename_i z X1 hz
      cases h
      split
      · rename_i c' hc'; rw [hc] at hc'; cases hc'
        split
        · rename_i b hb; exact absurd hb (hcal b)
        · simp only [hc2, hz]
      · rename_i hx; rw [hc] at hx; cases hx
      · rename_i hx _; exact absurd hc (hx c)
  · rename_i op hne
    split
    · rename_i c hc; exact absurd hc (hne c)
    · rename_i x hx; rw [hx] at h; simp [sem] at h
    · rw [h]; rfl

theorem op_sound {callf : CallF} (hcall : CallOK P callf) {N : Nat} {F : Tr SV} {a : Act} {o : Oper} {y : SV} {X' : XW} (hE : Emb P B w0 X E w) (hF : FrRel ds N E F a) (hsel : noSel o.op = true)
    (h : evOp P callf o F X = some (y, X')) (hp : Pc X') (ro : Option Nat) {K : Act → World → Prop} {Q : Exit → Act → World → Prop}
    (hK : ∀ E' v w', Le E E' → Den E' y v → Emb P B w0 X' E' w' → K (a.put o.dst v) w') : o.wpIn (wideR ro) 0 P a w K Q :=
  opO_sound hcall hE hF hsel (evOpO_ret h) hp ro (fun z hz => by cases hz; exact hK) (fun ch hz => by cases hz)

theorem evOpO_pc {callf : CallF} (hcall : CallOK P callf) {F : Tr SV} {o : Oper} {y : Out} {X' : XW} (h : evOpO P callf o F X = some (y, X')) (hp : Pc X') : Pc X := by
  have panPc : ∀ {vals : List SV}, panE vals X = some (y, X') → Pc X := by
    intro vals h
    unfold panE at h
    split at h <;> cases h
    exact hp
  have retPc : ∀ {r : Option (SV × XW)}, retO r = some (y, X') → ∃ z, r = some (z, X') := by
    intro r hr
    unfold retO at hr
    split at hr <;> cases hr
    exact ⟨_, rfl⟩
  unfold evOpO at h
  split at h <;> try (cases h; done)
  split at h
  · split at h
    · rename_i b _
      cases hb : isPanB b with
      | true => rw [hb] at h; exact panPc h
      | false =>
        rw [hb] at h
        obtain ⟨z, h⟩ := retPc h
        unfold Pc; rw [← (blt_turned h).pc]; exact hp
    · split at h <;> try (cases h; done)
      exact (hcall _ _ _ _ _ h hp).1
  · exact panPc h
  · obtain ⟨z, h⟩ := retPc h
    exact sem_pc h hp
theorem op_pc {callf : CallF} (hcall : CallOK P callf) {F : Tr SV} {o : Oper} {y : SV} {X' : XW} (h : evOp P callf o F X = some (y, X')) (hp : Pc X') : Pc X := evOpO_pc hcall (evOpO_ret h) hp

theorem want_sound {N : Nat} {F : Tr SV} {a : Act} {ops : Array Oper} {o : Oper} {b : Bool} {X' : XW} (hF : FrRel ds N E F a) (h : wantE ops.toList F X o.guard = some (b, X')) :
    (Pc X' → Pc X ∧ Region.wanted o (yielded ops a.tmps) = b) ∧ X'.objs = X.objs ∧ X'.next = X.next ∧ X'.ng = X.ng := by
  unfold wantE at h
  unfold Region.wanted
  split at h
  · rename_i hg
    cases h
    simp [hg]
  · rename_i j want hg
    split at h <;> try (cases h; done)
    rename_i o' ho'
    split at h <;> try (cases h; done)
    rename_i d hd
    split at h <;> try (cases h; done)
    rename_i y hy
    obtain ⟨h1, h2, h3, h4⟩ := asW_spec h
    refine ⟨fun hp => ⟨(h1 hp).1, ?_⟩, h2, h3, h4⟩
    obtain ⟨_, v, hv, hdv⟩ := hF.2.2 d y hy
    have ho'' : ops[j]? = some o' := by simpa using ho'
    rcases (h1 hp).2 _ _ hdv with ⟨c, rfl, hc⟩ | ⟨a, rfl, rfl⟩
    · rw [← hc]; simp [hg, yielded, ho'', hd, hv]
    · simp [hg, yielded, ho'', hd, hv]

theorem want_pc {F : Tr SV} {ops : List Oper} {g : Option (Nat × Bool)} {b : Bool} {X' : XW} (h : wantE ops F X g = some (b, X')) (hp : Pc X') : Pc X := by
  unfold wantE at h
  split at h
  · cases h; exact hp
  · split at h <;> try (cases h; done)
    split at h <;> try (cases h; done)
    split at h <;> try (cases h; done)
    exact ((asW_spec h).1 hp).1

theorem step_pc {callf : CallF} (hcall : CallOK P callf) {N : Nat} {F F' : Tr SV} {ops : List Oper} {o : Oper} {X' : XW} (h : stepE P callf N ops o F X = some (F', X')) (hp : Pc X') : Pc X := by
  unfold stepE at h
  split at h
  · rename_i X1 hw
    split at h <;> try (cases h; done)
    rename_i y X2 ho
    cases h
    exact want_pc hw (op_pc hcall ho hp)
  · rename_i X1 hw
    cases h
    exact want_pc hw hp
  · cases h

theorem step_sound {callf : CallF} (hcall : CallOK P callf) {N : Nat} {F F' : Tr SV} {a : Act} {ops : Array Oper} {o : Oper} {X' : XW} (hE : Emb P B w0 X E w) (hF : FrRel ds N E F a) (hsel : noSel o.op = true)
    (h : stepE P callf N ops.toList o F X = some (F', X')) (hp : Pc X') (ro : Option Nat) {K : Act → World → Prop} {Q : Exit → Act → World → Prop}
    (hK : ∀ E' a' w', Le E E' → FrRel ds N E' F' a' → Emb P B w0 X' E' w' → K a' w') :
    if Region.wanted o (yielded ops a.tmps) then o.wpIn (wideR ro) 0 P a w K Q
    else (∀ f, o.about P w a.eval = some f → (wideR ro).fn f) ∧ K (a.put o.dst undef) w := by
  unfold stepE at h
  split at h
  · rename_i X1 hw
    split at h <;> try (cases h; done)
    rename_i y X2 ho
    cases h
    have hp1 := op_pc hcall ho hp
    obtain ⟨h1, h2, h3, h4⟩ := want_sound hF hw
    rw [(h1 hp1).2, if_pos rfl]
    exact op_sound hcall (hE.same h2 h3 h4) hF hsel ho hp ro (fun E' v w' a1 a2 a3 => hK E' _ w' a1 ((hF.mono a1).put a2) a3)
  · rename_i X1 hw
    cases h
    obtain ⟨h1, h2, h3, h4⟩ := want_sound hF hw
    rw [(h1 hp).2, if_neg (by simp)]
    exact ⟨fun _ _ => trivial, hK E _ w (Le.refl _) (hF.put rfl) (hE.same h2 h3 h4)⟩
  · cases h

end
end Go.Xe
