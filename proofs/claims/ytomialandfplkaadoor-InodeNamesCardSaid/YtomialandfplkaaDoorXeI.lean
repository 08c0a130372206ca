/- A part of an evaluator for the program's code: it runs code over an abstract memory, and what it answers holds of every run. -/
import Derived.Test.YtomialandfplkaaDoorXeH
namespace Go.Xe
section
variable {P : Program} {B : Nat} {w0 w : World} {X : XW} {E : Env}

def FrRel (N : Nat) (E : Env) (F : Tr SV) (a : Act) : Prop :=
  a.defers = [] ∧ N ≤ a.tmps.size ∧ ∀ j y, F.get j = some y → j < N ∧ ∃ v, a.tmps[j]? = some v ∧ Den E y v

theorem FrRel.mono {N : Nat} {E E' : Env} {F : Tr SV} {a : Act} (h : FrRel N E F a) (hE : Le E E') : FrRel N E' F a :=
  ⟨h.1, h.2.1, fun j y hj => let ⟨l, v, h1, h2⟩ := h.2.2 j y hj; ⟨l, v, h1, h2.mono hE⟩⟩

theorem FrRel.put {N : Nat} {F : Tr SV} {a : Act} (h : FrRel N E F a) {d : Option Tmp} {y : SV} {v : Value} (hd : Den E y v) : FrRel N E (Xe.put N F d y) (a.put d v) := by
  cases d with
  | none => exact h
  | some d =>
    simp only [Xe.put, Act.put]
    cases hb : Nat.blt d N with
    | false =>
      refine ⟨h.1, by simpa using h.2.1, fun j z hj => ?_⟩
      obtain ⟨hl, u, h1, h2⟩ := h.2.2 j z hj
      have hne : d ≠ j := fun e => by subst e; have : Nat.blt d N = true := by rw [Nat.blt_eq]; exact hl
                                      rw [hb] at this; cases this
      exact ⟨hl, u, by simpa [Array.getElem?_setIfInBounds_ne hne] using h1, h2⟩
    | true =>
      have hlt : d < N := by rw [Nat.blt_eq] at hb; exact hb
      refine ⟨h.1, by simpa using h.2.1, fun j z hj => ?_⟩
      rcases get_set _ _ _ _ _ _ hj with ⟨e, e2⟩ | ⟨e, hz⟩
      · subst e; subst e2
        have hsz := h.2.1
        exact ⟨hlt, v, Array.getElem?_setIfInBounds_self_of_lt (Nat.lt_of_lt_of_le hlt hsz), hd⟩
      · obtain ⟨hl, u, h1, h2⟩ := h.2.2 j z hz
        exact ⟨hl, u, by simpa [Array.getElem?_setIfInBounds_ne (fun h => e h.symm)] using h1, h2⟩

theorem look_sound {N : Nat} {F : Tr SV} {a : Act} (hE : Emb B w0 X E w) (hF : FrRel N E F a) {x : Operand} {y : SV} (h : look X.ng F x = some y) : Den E y (a.eval x) := by
  cases x with
  | tmp t =>
    obtain ⟨_, v, h1, h2⟩ := hF.2.2 t y h
    simpa [Act.eval, h1] using h2
  | const v => simp only [look, Option.some.injEq] at h; subst h; exact den_mkV E v
  | global g =>
    simp only [look] at h
    cases hb : Nat.blt g X.ng with
    | false => simp [hb] at h
    | true =>
      simp only [hb, cond_true, Option.some.injEq] at h; subst h
      obtain ⟨c, hc⟩ := hE.glob g (by rw [Nat.blt_eq] at hb; exact hb)
      exact ⟨g, c, hc, rfl⟩
  | func f => simp only [look, Option.some.injEq] at h; subst h; exact ⟨[], [], rfl, rfl, rfl⟩

theorem looks_sound {N : Nat} {F : Tr SV} {a : Act} (hE : Emb B w0 X E w) (hF : FrRel N E F a) : ∀ {xs : List Operand} {ys : List SV}, looks X.ng F xs = some ys → DenL E ys (xs.map a.eval)
  | [], ys, h => by simp [looks] at h; subst h; rfl
  | x :: xs, ys, h => by
    simp only [looks] at h
    split at h <;> try (cases h; done)
    rename_i y hy
    split at h <;> try (cases h; done)
    rename_i ys' hys
    cases h
    exact ⟨_, _, look_sound hE hF hy, looks_sound hE hF hys, rfl⟩

/-! ### Calls -/
def wideR (ro : Option Nat) : Fence := { fn := fun _ => True, depth := none, alive := false, round := ro }

def RetPost (B : Nat) (w0 : World) (E : Env) (y : SV) (X' : XW) (e : Ending) (w' : World) : Prop :=
  ∃ E' v, Le E E' ∧ e = .returned v ∧ Den E' y v ∧ Emb B w0 X' E' w'

/-- What a way to carry out calls promises. -/
def CallOK (P : Program) (callf : CallF) : Prop := ∀ f args X y X', callf f args X = some (y, X') → Pc X' →
  Pc X ∧ ∀ B w0 E w argv, Emb B w0 X E w → DenL E args argv → CallsIn (wideR none) 0 P f argv.toArray w (RetPost B w0 E y X')

theorem CallsIn.anyRound {f : FuncId} {args : Array Value} {R : Ending → World → Prop} (ro : Option Nat) (h : CallsIn (wideR none) 0 P f args w R) : CallsIn (wideR ro) 0 P f args w R := h

/-- An operation of the text. -/
theorem op_sound {callf : CallF} (hcall : CallOK P callf) (hB : ∀ f, ∀ args X r, callf f args X = some r → ∃ fn, P.funcs[f]? = some fn ∧ fn.body.isSome = true ∧ fn.name ≠ "runtime.NumGoroutine")
    {N : Nat} {F : Tr SV} {a : Act} {o : Oper} {y : SV} {X' : XW} (hE : Emb B w0 X E w) (hF : FrRel N E F a) (hsel : noSel o.op = true)
    (h : evOp P callf o F X = some (y, X')) (hp : Pc X') (ro : Option Nat) {K : Act → World → Prop} {Q : Exit → Act → World → Prop}
    (hK : ∀ E' v w', Le E E' → Den E' y v → Emb B w0 X' E' w' → K (a.put o.dst v) w') : o.wpIn (wideR ro) 0 P a w K Q := by
  refine ⟨fun _ _ => trivial, ?_⟩
  have hsem : o.semAt (wideR ro).round a.eval = execOp a.eval o := by
    cases ro with
    | none => rfl
    | some l => exact Oper.semAt_some l _ o (fun c hc => by rw [hc] at hsel; simp [noSel] at hsel)
  rw [hsem]
  unfold evOp at h
  split at h <;> try (cases h; done)
  rename_i vals hv
  have hv' := looks_sound hE hF hv
  have plain : ∀ (hs : OpGood P B w0 E w (execOp a.eval o) y X'), o.uponIn (wideR ro) 0 P a K Q ((execOp a.eval o).run P w) := by
    rintro ⟨E', v, w', h1, h2, h3, h4⟩
    rcases h2 with h2 | ⟨h2, rfl⟩
    · rw [h2]; exact hK E' v w' h1 h3 h4
    · rw [h2]; exact hK E' undef w' h1 h3 h4
  split at h
  · rename_i c hc
    unfold evCall at h
    split at h
    · rename_i f' hcal
      split at h <;> try (cases h; done)
      rename_i f fa fb args
      have hops : o.op.operands.toList = f' :: c.args.toList := by rw [hc]; simp [Op.operands, Call.operands, hcal]
      rw [hops] at hv'
      obtain ⟨u, us, ⟨xa, xb, hxa, hxb, hu⟩, hus, e⟩ := hv'
      simp only [List.map_cons, List.cons.injEq] at e
      obtain ⟨e1, e2⟩ := e
      obtain ⟨fn, hfn, hbody, hname⟩ := hB f _ _ _ h
      obtain ⟨_, hcl⟩ := hcall _ _ _ _ _ h hp
      have hrun : (execOp a.eval o).run P w = .ok (.enter f (xa ++ us ++ xb).toArray) w := by
        have hmap : Array.map a.eval c.args = us.toArray := by rw [← e2, ← Array.toList_inj]; simp
        have hbn : fn.body ≠ none := fun e => by rw [e] at hbody; cases hbody
        simp [execOp, hc, resolve, hcal, e1, hu, Deferred.ofValue, hmap, invoke, callFunc, hfn, hname, hbn]
      rw [hrun, Oper.uponIn_enter]
      refine ⟨(fun h => by cases h), ?_⟩
      refine CallsIn.mono (CallsIn.anyRound ro (hcl B w0 E w (xa ++ us ++ xb) hE ((hxa.append hus).append hxb))) ?_
      rintro e w' ⟨E', v, h1, rfl, h3, h4⟩
      exact hK E' v w' h1 h3 h4
    · rename_i b hcal
      have hops : o.op.operands.toList = c.args.toList := by rw [hc]; simp [Op.operands, Call.operands, hcal]
      rw [hops] at hv'
      obtain ⟨E', v, w', g1, g2, g3, g4⟩ := blt_good (ty := o.type) (consts := c.args.map fun | .const _ => true | _ => false) hE hv' h
      have hmap : Array.map a.eval c.args = (c.args.toList.map a.eval).toArray := by rw [← Array.toList_inj]; simp
      refine plain ⟨E', v, w', g1, .inl ?_, g3, g4⟩
      simp only [execOp, hc, resolve, hcal, hmap, invoke, Sem.run_bind, Sem.run_pure, Result.andThen_ok]
      exact g2
    · cases h
  · rename_i op hne
    exact plain (sem_sound hE hv' hp h)

theorem op_pc {callf : CallF} (hcall : CallOK P callf) {F : Tr SV} {o : Oper} {y : SV} {X' : XW} (h : evOp P callf o F X = some (y, X')) (hp : Pc X') : Pc X := by
  unfold evOp at h
  split at h <;> try (cases h; done)
  split at h
  · unfold evCall at h
    split at h
    · split at h <;> try (cases h; done)
      exact (hcall _ _ _ _ _ h hp).1
    · unfold Pc; rw [← (blt_turned h).pc]; exact hp
    · cases h
  · exact sem_pc h hp

theorem want_sound {N : Nat} {F : Tr SV} {a : Act} {ops : Array Oper} {o : Oper} {b : Bool} {X' : XW} (hF : FrRel N E F a) (h : wantE ops.toList F X o.guard = some (b, X')) :
    (Pc X' → Pc X ∧ Region.wanted o (yielded ops a.tmps) = b) ∧ X'.objs = X.objs ∧ X'.next = X.next ∧ X'.ng = X.ng := by
  unfold wantE at h
  unfold Region.wanted
  split at h
  · rename_i hg
    cases h
    simp [hg]
  · rename_i j want hg
    split at h <;> try (cases h; done)
    rename_i o' ho'
    split at h <;> try (cases h; done)
    rename_i d hd
    split at h <;> try (cases h; done)
    rename_i y hy
    split at h <;> try (cases h; done)
    rename_i b' X1 hb
    cases h
    obtain ⟨h1, h2, h3, h4⟩ := asB_spec hb
    refine ⟨fun hp => ⟨(h1 hp).1, ?_⟩, h2, h3, h4⟩
    obtain ⟨_, v, hv, hdv⟩ := hF.2.2 d y hy
    have hv' := (h1 hp).2 _ _ hdv
    subst hv'
    have ho'' : ops[j]? = some o' := by simpa using ho'
    simp [hg, yielded, ho'', hd, hv]

theorem want_pc {F : Tr SV} {ops : List Oper} {g : Option (Nat × Bool)} {b : Bool} {X' : XW} (h : wantE ops F X g = some (b, X')) (hp : Pc X') : Pc X := by
  unfold wantE at h
  split at h
  · cases h; exact hp
  · split at h <;> try (cases h; done)
    split at h <;> try (cases h; done)
    split at h <;> try (cases h; done)
    split at h <;> try (cases h; done)
    rename_i hb
    cases h
    exact ((asB_spec hb).1 hp).1

theorem step_pc {callf : CallF} (hcall : CallOK P callf) {N : Nat} {F F' : Tr SV} {ops : List Oper} {o : Oper} {X' : XW} (h : stepE P callf N ops o F X = some (F', X')) (hp : Pc X') : Pc X := by
  unfold stepE at h
  split at h
  · rename_i X1 hw
    split at h <;> try (cases h; done)
    rename_i y X2 ho
    cases h
    exact want_pc hw (op_pc hcall ho hp)
  · rename_i X1 hw
    cases h
    exact want_pc hw hp
  · cases h

theorem ops_pc {callf : CallF} (hcall : CallOK P callf) {N : Nat} {ops : List Oper} : ∀ {l : List Oper} {F F' : Tr SV} {X X' : XW}, evOps P callf N ops l F X = some (F', X') → Pc X' → Pc X
  | [], _, _, _, _, h, hp => by cases h; exact hp
  | o :: l, F, F', X, X', h, hp => by
    simp only [evOps] at h
    split at h <;> try (cases h; done)
    rename_i F1 X1 hs
    exact step_pc hcall hs (ops_pc hcall h hp)

/-- One operation that comes up. -/
theorem step_sound {callf : CallF} (hcall : CallOK P callf) (hB : ∀ f, ∀ args X r, callf f args X = some r → ∃ fn, P.funcs[f]? = some fn ∧ fn.body.isSome = true ∧ fn.name ≠ "runtime.NumGoroutine")
    {N : Nat} {F F' : Tr SV} {a : Act} {ops : Array Oper} {o : Oper} {X' : XW} (hE : Emb B w0 X E w) (hF : FrRel N E F a) (hsel : noSel o.op = true)
    (h : stepE P callf N ops.toList o F X = some (F', X')) (hp : Pc X') (ro : Option Nat) {K : Act → World → Prop} {Q : Exit → Act → World → Prop}
    (hK : ∀ E' a' w', Le E E' → FrRel N E' F' a' → Emb B w0 X' E' w' → K a' w') :
    if Region.wanted o (yielded ops a.tmps) then o.wpIn (wideR ro) 0 P a w K Q
    else (∀ f, o.about P w a.eval = some f → (wideR ro).fn f) ∧ K (a.put o.dst undef) w := by
  unfold stepE at h
  split at h
  · rename_i X1 hw
    split at h <;> try (cases h; done)
    rename_i y X2 ho
    cases h
    have hp1 := op_pc hcall ho hp
    obtain ⟨h1, h2, h3, h4⟩ := want_sound hF hw
    rw [(h1 hp1).2, if_pos rfl]
    exact op_sound hcall hB (hE.same h2 h3 h4) hF hsel ho hp ro (fun E' v w' a1 a2 a3 => hK E' _ w' a1 ((hF.mono a1).put a2) a3)
  · rename_i X1 hw
    cases h
    obtain ⟨h1, h2, h3, h4⟩ := want_sound hF hw
    rw [(h1 hp).2, if_neg (by simp)]
    exact ⟨fun _ _ => trivial, hK E _ w (Le.refl _) (hF.put rfl) (hE.same h2 h3 h4)⟩
  · cases h

theorem ops_sound {callf : CallF} (hcall : CallOK P callf) (hB : ∀ f, ∀ args X r, callf f args X = some r → ∃ fn, P.funcs[f]? = some fn ∧ fn.body.isSome = true ∧ fn.name ≠ "runtime.NumGoroutine")
    {N : Nat} {ops : Array Oper} (ro : Option Nat) {Q : Exit → Act → World → Prop} {F' : Tr SV} {X' : XW} (hp : Pc X') :
    ∀ (l : List Oper) (F : Tr SV) (X : XW) (E : Env) (a : Act) (w : World), (∀ o ∈ l, noSel o.op = true) → Emb B w0 X E w → FrRel N E F a → evOps P callf N ops.toList l F X = some (F', X') →
      (∀ E' a' w', Le E E' → FrRel N E' F' a' → Emb B w0 X' E' w' → Q .normal a' w') → wpListIn (wideR ro) 0 P ops Q l a w
  | [], F, X, E, a, w, _, hE, hF, h, hQ => by cases h; exact hQ E a w (Le.refl _) hF hE
  | o :: l, F, X, E, a, w, hs, hE, hF, h, hQ => by
    simp only [evOps] at h
    split at h <;> try (cases h; done)
    rename_i F1 X1 hst
    unfold wpListIn
    exact step_sound hcall hB hE hF (hs o (List.mem_cons_self ..)) hst (ops_pc hcall h hp) ro (fun E' a' w' h1 h2 h3 =>
      ops_sound hcall hB ro hp l F1 X1 E' a' w' (fun o' ho' => hs o' (List.mem_cons_of_mem _ ho')) h3 h2 h (fun E'' a'' w'' k1 => hQ E'' a'' w'' (h1.trans k1)))
end
end Go.Xe
