/- A part of an evaluator for the code. -/
import Derived.Test.YtoglpmfmnknlaaaGreatDoorXeX
import Derived.RangeFuncLeaves
import Derived.RecoverIn
namespace Go.Xe
section
variable {P : Program} {B : Nat} {w0 w : World} {E : Env} {ds : List Deferred} {X : XW}

/-! ### Results -/
def resS (a : Act) : ResultVar → Sem Value
  | .tmp t => Pure.pure (a.tmps.getD t undef)
  | .cell b t => do loadVar t (← asAddr (a.tmps.getD b undef))
theorem results_eq (fn : Func) (a : Act) : results fn a.tmps = (do let vs ← fn.results.mapM (resS a); Pure.pure (if h : vs.size = 1 then vs[0] else .tuple vs)) := by
  unfold results
  congr 1

theorem resultE_sound {N : Nat} {F : Tr SV} {a : Act} (hE : Emb P B w0 X E w) (hF : FrRel ds N E F a) {r : ResultVar} {y : SV} (h : resultE P F X r = some y) :
    ∃ v, (resS a r).run P w = .ok v w ∧ Den E y v := by
  cases r with
  | tmp t =>
    obtain ⟨_, v, h1, h2⟩ := hF.2.2 t y h
    exact ⟨v, by simp [resS, h1], h2⟩
  | cell b t =>
    simp only [resultE] at h
    split at h <;> try (cases h; done)
    rename_i k off hb
    obtain ⟨_, v, h1, id, c, hk, h2⟩ := hF.2.2 b _ hb
    obtain ⟨u, hr, hd⟩ := load_good hE h hk
    exact ⟨u, by simp [resS, h1, h2, asAddr, hr], hd⟩

theorem resultsE_sound {N : Nat} {F : Tr SV} {a : Act} (hE : Emb P B w0 X E w) (hF : FrRel ds N E F a) : ∀ {rs : List ResultVar} {ys : List SV}, resultsE P F X rs = some ys →
    ∃ vs, (rs.mapM (resS a)).run P w = .ok vs w ∧ DenL E ys vs
  | [], ys, h => by simp [resultsE] at h; subst h; exact ⟨[], rfl, rfl⟩
  | r :: rs, ys, h => by
    simp only [resultsE] at h
    split at h <;> try (cases h; done)
    rename_i y hy
    split at h <;> try (cases h; done)
    rename_i ys' hys
    cases h
    obtain ⟨v, h1, h2⟩ := resultE_sound hE hF hy
    obtain ⟨vs, h3, h4⟩ := resultsE_sound hE hF hys
    refine ⟨v :: vs, ?_, v, vs, h2, h4, rfl⟩
    rw [List.mapM_cons, Sem.run_bind, h1]
    simp only [Result.andThen_ok, Sem.run_bind, h3, Sem.run_pure]

theorem result1_den {ys : List SV} {vs : List Value} (h : DenL E ys vs) : Den E (result1 ys) (if h : vs.toArray.size = 1 then vs.toArray[0] else .tuple vs.toArray) := by
  match ys, vs, h with
  | [], vs, h => cases h; exact ⟨[], rfl, rfl⟩
  | [y], _, ⟨v, vs, hv, hvs, e⟩ => cases hvs; subst e; exact hv
  | y :: z :: ys, _, ⟨v, vs, hv, ⟨u, us, hu, hus, e'⟩, e⟩ =>
    subst e'; subst e
    rw [dif_neg (by simp)]
    exact ⟨_, ⟨v, _, hv, ⟨u, us, hu, hus, rfl⟩, rfl⟩, rfl⟩

theorem results_sound {N : Nat} {F : Tr SV} {a : Act} {fn : Func} (hE : Emb P B w0 X E w) (hF : FrRel ds N E F a) {ys : List SV} (h : resultsE P F X fn.results.toList = some ys) :
    ∃ v, (results fn a.tmps).run P w = .ok v w ∧ Den E (result1 ys) v := by
  obtain ⟨vs, h1, h2⟩ := resultsE_sound hE hF h
  refine ⟨_, ?_, result1_den h2⟩
  rw [results_eq, Sem.run_bind, Array.mapM_eq_mapM_toList]
  simp only [Sem.run_map]
  rw [h1]
  simp

theorem tmpsRel_init {args : List SV} {argv : List Value} {n : Nat} (h : DenL E args argv) (hn : args.length ≤ n) :
    TmpsRel n E (storeN .nil 0 args) (argv.toArray ++ Array.replicate (n - argv.toArray.size) undef) := by
  have hl := h.length
  refine ⟨by simp; omega, fun j y hj => ?_⟩
  rcases get_storeN _ _ _ _ _ hj with ⟨_, h2⟩ | ⟨_, h2⟩
  · simp only [Nat.sub_zero] at h2
    obtain ⟨v, h3, h4⟩ := h.get _ _ h2
    have := (List.getElem?_eq_some_iff.1 h3).1
    refine ⟨by omega, v, ?_, h4⟩
    rw [Array.getElem?_append_left (by simpa using this)]
    simpa using h3
  · cases h2

/-! ### Rounds -/
theorem put_tmps {N : Nat} {F : Tr SV} {tmps : Array Value} (h : TmpsRel N E F tmps) {d : Nat} {y : SV} {v : Value} (hd : Den E y v) : TmpsRel N E (put N F (some d) y) (tmps.setIfInBounds d v) := by
  have hF : FrRel [] N E F { tmps, defers := [] } := ⟨rfl, h⟩
  exact (hF.put (d := some d) hd).2

theorem puts_rel {N : Nat} : ∀ {ps : List Tmp} {F : Tr SV} {tmps : Array Value} {args : List SV} {argv : List Value}, TmpsRel N E F tmps → DenL E args argv → args.length = ps.length →
    TmpsRel N E (puts N F ps args) ((ps.zip argv).foldl (fun tmps (t, a) => tmps.setIfInBounds t a) tmps)
  | [], _, _, [], _, h, h', _ => by cases h'; exact h
  | [], _, _, _ :: _, _, _, _, hl => by simp at hl
  | _ :: _, _, _, [], _, _, _, hl => by simp at hl
  | p :: ps, F, tmps, x :: xs, _, h, ⟨v, vs, hv, hvs, e⟩, hl => by
    subst e
    simp only [puts, List.zip_cons_cons, List.foldl_cons]
    exact puts_rel (put_tmps h hv) hvs (by simpa using hl)

theorem setSt_spec {o o' : Ob} {st : LoopState} {p : Option Jump} (h : setSt o st p = some o') : ∃ st0 q ord me N G ps a c b, o.sp = .loop st0 q ord me N G ps a c b ∧ o' = { o with ver := o.ver + 1, sp := .loop st (orJ p q) ord me N G ps a c b } := by
  unfold setSt at h
  split at h <;> cases h
  rename_i hs
  exact ⟨_, _, _, _, _, _, _, _, _, _, hs, rfl⟩

def orC (p : Option Jump) (q : Option Code) : Option Code := match p with
  | some p => jumpCode p
  | none => q
theorem setLoop_run (hE : Emb P B w0 X E w) {k id c : Nat} {st : LoopState} {p : Option Jump} {X' : XW} (hk : E k = some (id, c)) (h : setLoop X k st p = some X') :
    ∃ (r : Loop) (w' : World), w.heap[id]? = some (.loop r) ∧ (setObj id (.loop { r with state := st, pending := orC p r.pending })).run P w = .ok () w' ∧ Emb P B w0 X' E w' := by
  unfold setLoop at h
  split at h <;> try (cases h; done)
  rename_i o ho
  split at h <;> try (cases h; done)
  rename_i o' hs
  cases h
  obtain ⟨st0, q, ord, me, N, G, ps, a, cc, b, hsp, rfl⟩ := setSt_spec hs
  have hne : o.sp ≠ .cells := by rw [hsp]; simp
  obtain ⟨id', c', hk', hrel, _⟩ := hE.spAt ho hne
  rw [hk] at hk'; cases hk'
  rw [hsp] at hrel
  obtain ⟨g0, r3, g1, g2, g3, g4, g5, g6, g7, g8⟩ := hrel
  obtain ⟨w4, hset, hE4⟩ := hE.setSp (s := .loop st (orJ p q) ord me N G ps a cc b) (obj' := .loop { r3 with state := st, pending := orC p r3.pending }) ho hne hk
    ⟨g0, _, rfl, rfl, by cases p <;> simp [g3, orJ, orC], g4, g5, g6, g7, g8⟩ P
  exact ⟨r3, w4, g1, hset, hE4⟩

theorem setLoop_pc {k : Nat} {st : LoopState} {p : Option Jump} {X' : XW} (h : setLoop X k st p = some X') : X'.pc = X.pc ∧ X'.dfs = X.dfs := by
  unfold setLoop at h
  split at h <;> try (cases h; done)
  split at h <;> cases h
  exact ⟨rfl, rfl⟩

theorem isReady_spec {o : Ob} (h : isReady o = true) : ∃ q ord me N G ps a c b, o.sp = .loop .ready q ord me N G ps a c b := by
  unfold isReady at h
  split at h
  · exact ⟨_, _, _, _, _, _, _, _, _, rfl⟩
  · cases h

theorem endRound_run (hE : Emb P B w0 X E w) {k id c : Nat} {D : List SD} {st : LoopState} {j : Jump} {b : Bool} {y : Out} {X' : XW} (hk : E k = some (id, c)) (h : endRound D X k st j b = some (y, X')) (hst : st = if (jumpCode j).isNone then .ready else .done) (hb : b = (jumpCode j).isNone) :
    y = .ret (.bool b) ∧ ∃ w', (Instr.endRound id (jumpCode j)).run P w = .ok (.bool b) w' ∧ Emb P B w0 X' E w' := by
  unfold endRound at h
  split at h <;> try (cases h; done)
  rename_i X1 hs
  cases h
  obtain ⟨r, w', h1, h2, h3⟩ := setLoop_run hE hk hs
  refine ⟨rfl, w', ?_, h3.reD _⟩
  subst hst; subst hb
  cases j <;> simp [orC, jumpCode] at h2 <;> simp [Instr.endRound, getLoop_run h1, jumpCode, h2]

theorem endRound_pc {k : Nat} {D : List SD} {st : LoopState} {j : Jump} {b : Bool} {y : Out} {X' : XW} (h : endRound D X k st j b = some (y, X')) (hp : Pc X') : Pc X := by
  unfold endRound at h
  split at h <;> try (cases h; done)
  rename_i X1 hs
  cases h
  have := (setLoop_pc hs).1
  intro p hpp
  exact hp p (by show p ∈ X1.pc; rw [this]; exact hpp)

theorem round_good {ord : Nat → Hint} {k N : Nat} {ev : Code → Tr SV → XW → R} {ps : Array Tmp} {as body : Code} {F : Tr SV}
    (hev : ∀ c F X ex F' X', codeOK P ord true c = true → ev c F X = some (ex, F', X') → Pc X' → CodeGood P (some k) N c F X ex F' X') (hek : ∀ c F X ex F' X', ev c F X = some (ex, F', X') → KeepsD X X')
    {o : Ob} {st : LoopState} {pend : Jump} {me : FuncId} {blk : Nat} (ho : X.objs.get k = some o) (hs : o.sp = .loop st pend ord me N F ps as body blk) {args : List SV} {y : Out} {X' : XW} (h : roundE ev k N F ps as body args X = some (y, X')) (hp : Pc X') :
    Pc X ∧ ∀ B w0 E w argv, Emb P B w0 X E w → DenL E args argv → CalIn P E (.yld k) argv w (RetPost P B w0 E y X') := by
  unfold roundE at h
  cases hlen : Nat.beq args.length ps.size with
  | false => simp [hlen] at h
  | true =>
  have hlen' := Nat.eq_of_beq_eq_true hlen
  simp only [hlen, cond_true] at h
  split at h <;> try (cases h; done)
  rename_i F1 X1 ha
  split at h <;> try (cases h; done)
  rename_i o1 ho1
  cases hr : isReady o1 with
  | false => simp [hr] at h
  | true =>
  simp only [hr, cond_true] at h
  split at h <;> try (cases h; done)
  rename_i X2 hb
  obtain ⟨q1, od1, me1, N1, G1, ps1, a1, c1, b1, hs1⟩ := isReady_spec hr
  have hpcb := setLoop_pc hb
  have main : ∀ (j : Jump) (ex : Ex) (F3 : Tr SV) (X3 : XW) (st3 : LoopState) (b3 : Bool), ev body F1 X2 = some (ex, F3, X3) → endRound X.dfs X3 k st3 j b3 = some (y, X') → (ex = jumpEx j) → (st3 = if (jumpCode j).isNone then .ready else .done) → (b3 = (jumpCode j).isNone) →
      Pc X ∧ ∀ B w0 E w argv, Emb P B w0 X E w → DenL E args argv → CalIn P E (.yld k) argv w (RetPost P B w0 E y X') := by
    intro j ex F3 X3 st3 b3 hbody hend hex hst3 hb3
    have hp3 : Pc X3 := endRound_pc hend hp
    have hp2 : Pc X2 := (hek _ _ _ _ _ _ hbody).pc hp3
    have hp1 : Pc X1 := fun p hpp => hp2 p (by rw [hpcb.1]; exact hpp)
    refine ⟨(KeepsD.reD' (l := []) (hek _ _ _ _ _ _ ha)).pc hp1, fun B w0 E w argv hE hargs => ?_⟩
    have hne : o.sp ≠ .cells := by rw [hs]; simp
    obtain ⟨id, c, hk, hrel, _⟩ := hE.spAt ho hne
    rw [hs] at hrel
    obtain ⟨⟨ok1, ok2⟩, r, g1, g2, g3, g4, g5, g6, g7, g8⟩ := hrel
    have hsz : argv.toArray.size = r.params.size := by rw [g4]; have := hargs.length; simp; omega
    refine ⟨id, c, r.fn, (r.params.zip argv.toArray).foldl (fun tmps (t, a) => tmps.setIfInBounds t a) r.tmps, r.assign, r.body, hk, ?_, ?_⟩
    · simp only [Instr.yield, Sem.run_bind, getLoop_run g1, Result.andThen_ok]
      rw [if_neg (by simpa using hsz)]
      rfl
    · refine roundIn_of_wpIn (F := wideR none) trivial ?_
      show Code.wpIn (wideR (some id)) 0 P r.assign _ _ w
      rw [g5, g6]
      obtain ⟨_, ka⟩ := hev as _ _ _ _ _ ok1 ha hp1
      have hfold : (r.params.zip argv.toArray).foldl (fun tmps (t, a) => tmps.setIfInBounds t a) r.tmps = (ps.toList.zip argv).foldl (fun tmps (t, a) => tmps.setIfInBounds t a) r.tmps := by
        rw [← Array.foldl_toList, Array.toList_zip, g4]
      have hF1 : FrRel [] N E (puts N F ps.toList args) { tmps := (r.params.zip argv.toArray).foldl (fun tmps (t, a) => tmps.setIfInBounds t a) r.tmps, defers := [] } := by
        refine ⟨rfl, ?_⟩
        rw [hfold]
        exact puts_rel g8 hargs (by simpa using hlen')
      refine ka (some id) B w0 E [] _ w _ (hE.reD []) hF1 rfl ⟨id, c, hk, rfl⟩ ?_
      intro E1 ds1 a1' w1 e1 l1 l2 l3 l4 l5
      cases l5
      -- the round begins
      obtain ⟨r1, w2, t1, t2, t3⟩ := setLoop_run l4 (l1.sub _ _ hk) hb
      have hst1 : r1.state = .ready := by
        obtain ⟨i2, c2, hk2, hrel2, _⟩ := l4.spAt ho1 (by rw [hs1]; simp)
        rw [l1.sub _ _ hk] at hk2; cases hk2
        rw [hs1] at hrel2
        obtain ⟨_, r2, u1, u2, _⟩ := hrel2
        rw [t1] at u1; cases u1
        exact u2
      refine ⟨w2, ?_, ?_⟩
      · simp only [orC] at t2
        simp [Instr.beginRound, getLoop_run t1, t2, hst1]
      · obtain ⟨_, kb⟩ := hev body _ _ _ _ _ ok2 hbody hp3
        refine kb (some id) B w0 E1 ds1 a1' w2 _ t3 l2 (by rw [hpcb.2]; exact l3) ⟨id, c, l1.sub _ _ hk, rfl⟩ ?_
        intro E2 ds2 a2 w3 e2 m1 m2 m3 m4 m5
        obtain ⟨rfl, w4, n1, n2⟩ := endRound_run m4 (m1.sub _ _ (l1.sub _ _ hk)) hend hst3 hb3
        have post : RetPost P B w0 E (.ret (.bool b3)) X' (.returned (.bool b3)) w4 := ⟨E2, l1.trans m1, n2, _, rfl, rfl⟩
        subst hex
        cases j with
        | none => cases m5; exact ⟨_, w4, n1, post⟩
        | ret => cases m5; exact ⟨_, w4, n1, post⟩
        | ex id' => cases m5; exact ⟨_, w4, n1, post⟩
  split at h
  · rename_i F3 X3 hbody; exact main .none .nm F3 X3 _ _ hbody h rfl rfl rfl
  · rename_i F3 X3 hbody; exact main .ret .ret F3 X3 _ _ hbody h rfl rfl rfl
  · rename_i id F3 X3 hbody; exact main (.ex id) (.ex id) F3 X3 _ _ hbody h rfl rfl rfl
  · cases h

/-! ### How functions leave -/
def ModeRel (E : Env) : Mode → FrameMode → Prop
  | .ret, m => m = .returning
  | .pan ch, m => ∃ l, DenCh E ch l ∧ m = .panicking l
theorem ModeRel.sub {E E' : Env} (hE : Sub E E') {u : Mode} {m : FrameMode} (h : ModeRel E u m) : ModeRel E' u m := by
  cases u with
  | ret => exact h
  | pan ch => obtain ⟨l, a, b⟩ := h; exact ⟨l, a.sub hE, b⟩
def OutRel (E : Env) : Out → Ending → Prop
  | .ret y, e => ∃ v, e = .returned v ∧ Den E y v
  | .pan ch, e => ∃ l, e = .panicked l ∧ DenCh E ch l
theorem ModeRel.ne {u : Mode} {m : FrameMode} (h : ModeRel E u m) : m ≠ .run := by
  cases u with
  | ret => cases h; simp
  | pan ch => obtain ⟨l, _, rfl⟩ := h; simp

theorem denCh_noexit : ∀ {ch : Chain} {l : List PanicEntry}, DenCh E ch l → l.dropWhile (!·.goexit) = []
  | [], _, h => by cases h; rfl
  | (_, _) :: ch, _, ⟨v, l', _, h2, e⟩ => by subst e; simp [denCh_noexit h2]

theorem settle_rel {u : Mode} {m : FrameMode} (h : ModeRel E u m) : ModeRel E (settleE u) (settle m) := by
  cases u with
  | ret => cases h; rfl
  | pan ch =>
    obtain ⟨l, h1, rfl⟩ := h
    cases ch with
    | nil => cases h1; exact ⟨[], rfl, rfl⟩
    | cons p ch =>
      obtain ⟨v, r⟩ := p
      have h1' := h1
      obtain ⟨u, l', a, b, rfl⟩ := h1'
      cases r with
      | false => exact ⟨_, h1, rfl⟩
      | true =>
        show settle (.panicking ({ v := u, recovered := true } :: l')) = .returning
        simp [settle, denCh_noexit b]

theorem raised_rel {u : Mode} {m : FrameMode} {ch : Chain} {l : List PanicEntry} (h : ModeRel E u m) (hc : DenCh E ch l) : ModeRel E (raisedE u ch) (raised m l) := by
  cases u with
  | ret => cases h; exact ⟨l, hc, rfl⟩
  | pan old => obtain ⟨l', h1, rfl⟩ := h; exact ⟨l ++ l', hc.append h1, rfl⟩

def DCallOK (P : Program) (dcall : DCallF) : Prop := ∀ f args u X y u' X', dcall f args u X = some (y, u', X') → Pc X' →
  (∃ fn, P.funcs[f]? = some fn ∧ fn.body.isSome = true ∧ fn.name ≠ "runtime.NumGoroutine") ∧ ∀ B w0 E w argv m, Emb P B w0 X E w → DenL E args argv → ModeRel E u m →
    CallsDIn (wideR none) 0 P f argv.toArray m w fun e m' w' => ∃ E', Le E E' ∧ Emb P B w0 X' E' w' ∧ ModeRel E' u' m' ∧ OutRel E' y e
def DKeeps (dcall : DCallF) : Prop := ∀ f args u X y u' X', dcall f args u X = some (y, u', X') → Keeps X X'

theorem leave_keeps {dcall : DCallF} (hk : DKeeps dcall) {fn : Func} {F : Tr SV} : ∀ {D : List SD} {u : Mode} {X X' : XW} {y : Out}, leaveE P dcall fn F D u X = some (y, X') → Keeps X X'
  | [], .ret, X, X', y, h => by
    simp only [leaveE] at h
    split at h <;> cases h
    exact Keeps.refl _
  | [], .pan ch, X, X', y, h => by simp only [leaveE, Option.some.injEq, Prod.mk.injEq] at h; obtain ⟨_, rfl⟩ := h; exact Keeps.refl _
  | .coll k :: D, u, X, X', y, h => by
    simp only [leaveE] at h
    split at h <;> try (cases h; done)
    rename_i o ho
    split at h <;> try (cases h; done)
    exact (Keeps.store ho (Nat.lt_succ_self _)).trans (leave_keeps hk h)
  | .call f xs ys :: D, u, X, X', y, h => by
    simp only [leaveE] at h
    split at h
    · rename_i hd; exact (hk _ _ _ _ _ _ _ hd).trans (leave_keeps hk h)
    · rename_i hd; exact (hk _ _ _ _ _ _ _ hd).trans (leave_keeps hk h)
    · cases h

theorem leave_good {dcall : DCallF} (hd : DCallOK P dcall) (hk : DKeeps dcall) {fn : Func} {F : Tr SV} {N : Nat} {R : Ending → World → Prop} {X' : XW} {y : Out} (hp : Pc X') :
    ∀ (D : List SD) (u : Mode) (X : XW) (E : Env) (ds ds0 : List Deferred) (a : Act) (w : World) (m : FrameMode), leaveE P dcall fn F D u X = some (y, X') → Emb P B w0 X E w → FrRel ds0 N E F a → DenDs E D ds → ModeRel E u m →
      (∀ E' e w', Le E E' → Emb P B w0 X' E' w' → OutRel E' y e → R e w') → LeavesInM (wideR none) 0 P fn a.tmps R ds m w
  | [], .ret, X, E, ds, ds0, a, w, m, h, hE, hF, hD, hM, hR => by
    cases hD
    cases hM
    simp only [leaveE] at h
    split at h <;> cases h
    rename_i ys hys
    obtain ⟨v, hr, hv⟩ := results_sound (fn := fn) hE hF hys
    exact ⟨v, hr, hR E _ w (Le.refl _) hE ⟨v, rfl, hv⟩⟩
  | [], .pan ch, X, E, ds, ds0, a, w, m, h, hE, hF, hD, hM, hR => by
    cases hD
    obtain ⟨l, hch, rfl⟩ := hM
    simp only [leaveE, Option.some.injEq, Prod.mk.injEq] at h
    obtain ⟨rfl, rfl⟩ := h
    exact hR E _ w (Le.refl _) hE ⟨l, rfl, hch⟩
  | .coll k :: D, u, X, E, ds, ds0, a, w, m, h, hE, hF, hD, hM, hR => by
    obtain ⟨d, ds', ⟨id, c, hid, rfl⟩, hD', rfl⟩ := hD
    simp only [leaveE] at h
    split at h <;> try (cases h; done)
    rename_i o ho
    split at h <;> try (cases h; done)
    rename_i hs
    have hne : o.sp ≠ .cells := by rw [hs]; simp
    obtain ⟨id', c', hk', hrel, _⟩ := hE.spAt ho hne
    rw [hid] at hk'; cases hk'
    rw [hs] at hrel
    have hobj : w.heap[id]? = some (.deferred (some [])) := hrel
    obtain ⟨w', hset, hE'⟩ := hE.setSp (s := .blk true) (obj' := .deferred none) ho hne hid rfl P
    refine ⟨hM.ne, .inl ⟨id, w', rfl, ?_, leave_good hd hk hp D u _ E ds' ds0 a w' m h hE' hF hD' hM hR⟩⟩
    have hg : (getObj id).run P w = .ok (.deferred (some [])) w := getObj_run hobj (hobj ▸ hrel)
    simp [Instr.takeDeferred, hg, hset]
  | .call f xs ys :: D, u, X, E, ds, ds0, a, w, m, h, hE, hF, hD, hM, hR => by
    obtain ⟨d, ds', ⟨xv, yv, hxv, hyv, rfl⟩, hD', rfl⟩ := hD
    simp only [leaveE] at h
    have core : ∀ {y1 : Out} {u1 : Mode} {X1 : XW}, dcall f (xs ++ ys) u X = some (y1, u1, X1) → Pc X1 →
        (∀ E1 e m1 w1, Le E E1 → Emb P B w0 X1 E1 w1 → ModeRel E1 u1 m1 → OutRel E1 y1 e → (match e with
          | .returned _ => LeavesInM (wideR none) 0 P fn a.tmps R ds' (settle m1) w1
          | .panicked chain => LeavesInM (wideR none) 0 P fn a.tmps R ds' (raised m1 chain) w1
          | .outgrown => R .outgrown w1)) → LeavesInM (wideR none) 0 P fn a.tmps R ({ target := .fn (.func f) yv.toArray, args := xv.toArray } :: ds') m w := by
      intro y1 u1 X1 hcl hp1 hpost
      obtain ⟨⟨fn1, hfn, hbody, hname⟩, hc⟩ := hd _ _ _ _ _ _ _ hcl hp1
      have hbn : fn1.body ≠ none := fun e => by rw [e] at hbody; cases hbody
      refine ⟨hM.ne, .inr ⟨(fun h => by cases h), .func f, yv.toArray, f, (xv ++ yv).toArray, rfl, ?_, fun _ _ => trivial, ?_⟩⟩
      · simp [invoke, callFunc, hfn, hname, hbn]
      · refine (hc B w0 E w (xv ++ yv) m hE (hxv.append hyv) hM).mono ?_
        rintro e m1 w1 ⟨E1, h1, h2, h3, h4⟩
        have := hpost E1 e m1 w1 h1 h2 h3 h4
        cases e <;> exact this
    split at h
    · rename_i z u1 X1 hcl
      refine core hcl ((leave_keeps hk h).pc hp) ?_
      rintro E1 e m1 w1 h1 h2 h3 ⟨v, rfl, _⟩
      exact leave_good hd hk hp D _ X1 E1 ds' ds0 a w1 _ h h2 (hF.mono h1) (hD'.sub h1.sub) (settle_rel h3) (fun E' e w' l1 => hR E' e w' (h1.trans l1))
    · rename_i ch u1 X1 hcl
      refine core hcl ((leave_keeps hk h).pc hp) ?_
      rintro E1 e m1 w1 h1 h2 h3 ⟨l, rfl, hl⟩
      exact leave_good hd hk hp D _ X1 E1 ds' ds0 a w1 _ h h2 (hF.mono h1) (hD'.sub h1.sub) (raised_rel h3 hl) (fun E' e w' l1 => hR E' e w' (h1.trans l1))
    · cases h
end
end Go.Xe
