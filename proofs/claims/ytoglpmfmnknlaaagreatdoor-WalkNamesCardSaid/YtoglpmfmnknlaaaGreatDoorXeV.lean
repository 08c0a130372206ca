/- A part of an evaluator for the code. -/
import Derived.Test.YtoglpmfmnknlaaaGreatDoorXeT
import Derived.RangeFuncIn
namespace Go.Xe
section
variable {P : Program} {B : Nat} {w0 w : World} {E : Env} {ds : List Deferred} {X : XW}

theorem Emb.reD (h : Emb P B w0 X E w) (l : List SD) : Emb P B w0 { X with dfs := l } E w := h.same rfl rfl rfl

theorem stepO_sound {callf : CallF} (hcall : CallOK P callf) (hc : KeepsOK callf) {N : Nat} {F F' : Tr SV} {a : Act} {ops : Array Oper} {o : Oper} {X' : XW} {r : Option Chain} (hE : Emb P B w0 X E w) (hF : FrRel ds N E F a) (hD : DenDs E X.dfs ds)
    (hsel : noSel2 o.op = true) (ro : Option Nat) (hdf : isDefer o.op = true → ro = none) (h : stepO P callf N ops.toList o F X = some (r, F', X')) (hp : Pc X') {K : Act → World → Prop} {Q : Exit → Act → World → Prop}
    (hK : r = none → ∀ E' ds' a' w', Le E E' → FrRel ds' N E' F' a' → DenDs E' X'.dfs ds' → Emb P B w0 X' E' w' → K a' w')
    (hQ : ∀ ch, r = some ch → ∀ E' ds' a' w' l, Le E E' → FrRel ds' N E' F' a' → DenDs E' X'.dfs ds' → Emb P B w0 X' E' w' → DenCh E' ch l → Q (.panic l) a' w') :
    if Region.wanted o (yielded ops a.tmps) then o.wpIn (wideR ro) 0 P a w K Q
    else (∀ f, o.about P w a.eval = some f → (wideR ro).fn f) ∧ K (a.put o.dst undef) w := by
  unfold stepO at h
  split at h
  · rename_i X1 hw
    obtain ⟨h1, h2, h3, h4⟩ := want_sound hF hw
    have hd1 : X1.dfs = X.dfs := (want_keeps hw).dfs
    cases hd : isDefer o.op with
    | true =>
      rw [hd] at h
      simp only [cond_true] at h
      split at h <;> try (cases h; done)
      rename_i d hdd
      cases h
      rw [(h1 hp).2, if_pos rfl]
      refine ⟨fun _ _ => trivial, ?_⟩
      have hro := hdf hd
      subst hro
      unfold dferE at hdd
      split at hdd <;> try (cases hdd; done)
      rename_i c hop
      split at hdd <;> try (cases hdd; done)
      rename_i fv f fa fb args hcal hl
      cases hdd
      have hops : o.op.operands.toList = fv :: c.args.toList := by rw [hop]; simp [Op.operands, Call.operands, hcal]
      rw [hops] at hl
      obtain ⟨u, us, ⟨xa, xb, hxa, hxb, hu⟩, hus, e⟩ := looks_sound (hE.same h2 h3 h4) hF hl
      simp only [List.map_cons, List.cons.injEq] at e
      obtain ⟨e1, e2⟩ := e
      have hmap : Array.map a.eval c.args = us.toArray := by rw [← e2, ← Array.toList_inj]; simp
      have hrun : (o.semAt (wideR none).round a.eval).run P w = .ok (.defer { target := .fn (.func f) xb.toArray, args := (xa ++ us).toArray }) w := by
        have : o.semAt (wideR none).round a.eval = execOp a.eval o := rfl
        rw [this]
        simp [execOp, hop, resolve, hcal, e1, hu, Deferred.ofValue, hmap]
      rw [hrun, Oper.uponIn_defer]
      refine hK rfl E ({ target := .fn (.func f) xb.toArray, args := (xa ++ us).toArray } :: ds) _ w (Le.refl _) ?_ ?_ ((hE.same h2 h3 h4).reD _)
      · have hF2 : FrRel ({ target := .fn (.func f) xb.toArray, args := (xa ++ us).toArray } :: ds) N E F { a with defers := { target := .fn (.func f) xb.toArray, args := (xa ++ us).toArray } :: a.defers } := ⟨by simp [hF.1], hF.2⟩
        exact hF2.put rfl
      · refine ⟨_, ds, ⟨xa ++ us, xb, hxa.append hus, hxb, rfl⟩, ?_, rfl⟩
        show DenDs E X1.dfs ds
        rw [hd1]; exact hD
    | false =>
      rw [hd] at h
      simp only [cond_false] at h
      have hns : noSel o.op = true := by
        cases ho : o.op <;> first | rfl | (rw [ho] at hsel; simp [noSel2] at hsel; done) | (rw [ho] at hd; simp [isDefer] at hd)
      split at h
      · rename_i y X2 ho
        cases h
        have hp1 := evOpO_pc hcall ho hp
        rw [(h1 hp1).2, if_pos rfl]
        have hd2 : X'.dfs = X.dfs := ((evOpO_keeps hc ho).dfs).trans hd1
        exact opO_sound hcall (hE.same h2 h3 h4) hF hns ho hp ro (fun z hz E' v w' a1 a2 a3 => by
          cases hz
          exact hK rfl E' ds _ w' a1 ((hF.mono a1).put a2) (by rw [hd2]; exact hD.sub a1.sub) a3) (fun ch hz => by cases hz)
      · rename_i ch X2 ho
        cases h
        have hp1 := evOpO_pc hcall ho hp
        rw [(h1 hp1).2, if_pos rfl]
        have hd2 : X'.dfs = X.dfs := ((evOpO_keeps hc ho).dfs).trans hd1
        exact opO_sound hcall (hE.same h2 h3 h4) hF hns ho hp ro (fun z hz => by cases hz) (fun ch' hz E' l w' a1 a2 a3 => by
          cases hz
          exact hQ _ rfl E' ds a w' l a1 (hF.mono a1) (by rw [hd2]; exact hD.sub a1.sub) a3 a2)
      · cases h
  · rename_i X1 hw
    cases h
    obtain ⟨h1, h2, h3, h4⟩ := want_sound hF hw
    rw [(h1 hp).2, if_neg (by simp)]
    have hd1 : X'.dfs = X.dfs := (want_keeps hw).dfs
    exact ⟨fun _ _ => trivial, hK rfl E ds _ w (Le.refl _) (hF.put rfl) (by rw [hd1]; exact hD) (hE.same h2 h3 h4)⟩
  · cases h

theorem stepO_pc {callf : CallF} (hcall : CallOK P callf) {N : Nat} {ops : List Oper} {o : Oper} {F F' : Tr SV} {X' : XW} {r : Option Chain} (h : stepO P callf N ops o F X = some (r, F', X')) (hp : Pc X') : Pc X := by
  unfold stepO at h
  split at h
  · rename_i X1 hw
    cases hd : isDefer o.op with
    | true =>
      rw [hd] at h
      simp only [cond_true] at h
      split at h <;> cases h
      exact want_pc hw hp
    | false =>
      rw [hd] at h
      simp only [cond_false] at h
      split at h
      · rename_i ho; cases h; exact want_pc hw (evOpO_pc hcall ho hp)
      · rename_i ho; cases h; exact want_pc hw (evOpO_pc hcall ho hp)
      · cases h
  · rename_i hw; cases h; exact want_pc hw hp
  · cases h

theorem evOps_pc {callf : CallF} (hcall : CallOK P callf) {N : Nat} {ops : List Oper} : ∀ {l : List Oper} {F F' : Tr SV} {X X' : XW} {r : Option Chain}, evOps P callf N ops l F X = some (r, F', X') → Pc X' → Pc X
  | [], _, _, _, _, _, h, hp => by cases h; exact hp
  | o :: l, F, F', X, X', r, h, hp => by
    simp only [evOps] at h
    split at h
    · rename_i F1 X1 hs
      exact stepO_pc hcall hs (evOps_pc hcall h hp)
    · exact stepO_pc hcall h hp

theorem evOps_sound {callf : CallF} (hcall : CallOK P callf) (hc : KeepsOK callf) {N : Nat} {ops : Array Oper} (ro : Option Nat) {Q : Exit → Act → World → Prop} {F' : Tr SV} {X' : XW} {r : Option Chain} (hp : Pc X') :
    ∀ (l : List Oper) (F : Tr SV) (X : XW) (E : Env) (ds : List Deferred) (a : Act) (w : World), (∀ o ∈ l, noSel2 o.op = true ∧ (isDefer o.op = true → ro = none)) → Emb P B w0 X E w → FrRel ds N E F a → DenDs E X.dfs ds → evOps P callf N ops.toList l F X = some (r, F', X') →
      (r = none → ∀ E' ds' a' w', Le E E' → FrRel ds' N E' F' a' → DenDs E' X'.dfs ds' → Emb P B w0 X' E' w' → Q .normal a' w') →
      (∀ ch, r = some ch → ∀ E' ds' a' w' p, Le E E' → FrRel ds' N E' F' a' → DenDs E' X'.dfs ds' → Emb P B w0 X' E' w' → DenCh E' ch p → Q (.panic p) a' w') → wpListIn (wideR ro) 0 P ops Q l a w
  | [], F, X, E, ds, a, w, _, hE, hF, hD, h, hQ, _ => by cases h; exact hQ rfl E ds a w (Le.refl _) hF hD hE
  | o :: l, F, X, E, ds, a, w, hs, hE, hF, hD, h, hQ, hR => by
    simp only [evOps] at h
    obtain ⟨s1, s2⟩ := hs o (List.mem_cons_self ..)
    unfold wpListIn
    split at h
    · rename_i F1 X1 hst
      exact stepO_sound hcall hc hE hF hD s1 ro s2 hst (evOps_pc hcall h hp)
        (fun _ E' ds' a' w' h1 h2 h3 h4 => evOps_sound hcall hc ro hp l F1 X1 E' ds' a' w' (fun o' ho' => hs o' (List.mem_cons_of_mem _ ho')) h4 h2 h3 h
          (fun hr E'' ds'' a'' w'' k1 => hQ hr E'' ds'' a'' w'' (h1.trans k1)) (fun ch hr E'' ds'' a'' w'' p k1 => hR ch hr E'' ds'' a'' w'' p (h1.trans k1)))
        (fun ch hr => by cases hr)
    · rename_i hne
      refine stepO_sound hcall hc hE hF hD s1 ro s2 h hp (fun hr => ?_) hR
      subst hr
      exact absurd h (hne F' X')

/-! ### Scopes -/
def scPost (F : Fence) (m : Nat) (P : Program) (c : Code) (Q : Exit → Act → World → Prop) : Nat → Exit → Act → World → Prop
  | n, .goto l, a, w => match findLabel c l with
    | none => Q (.goto l) a w
    | some rest => match n with
      | 0 => False
      | n + 1 => rest.wpIn F m P (scPost F m P c Q n) a w
  | _, e, a, w => Q e a w

theorem stepR_scope {b : Frame} {a : Act} {c : Code} {k : List Item} {cs : List Frame} : step P (lone (b.atR a (.code (.scope c) :: k)) cs w) = .next (lone (b.atR a (.code c :: .inScope c :: k)) cs w) :=
  step_lone_go (by simp [stepG, stepG.exec, Frame.atR])
theorem stepR_inScope {b : Frame} {a : Act} {c : Code} {k : List Item} {cs : List Frame} : step P (lone (b.atR a (.inScope c :: k)) cs w) = .next (lone (b.atR a k) cs w) :=
  step_lone_go (by simp [stepG, stepG.exec, Frame.atR])

theorem scope_run {F : Fence} {m : Nat} {c : Code} {Q : Exit → Act → World → Prop} : ∀ (n : Nat) (x : Code) (a : Act) (w : World), x.wpIn F m P (scPost F m P c Q n) a w → ∀ (b : Frame) (k : List Item) (cs : List Frame), b.roundOf = F.round → F.fn b.fn → F.room (cs.length + 1 + m) →
    ∃ e a' w', Q e a' w' ∧ ArrivesIn (Machine.fenced P F) P (lone (b.atR a (.code x :: .inScope c :: k)) cs w) b k cs e a' w' := by
  intro n
  induction n with
  | zero =>
    intro x a w h b k cs hro hb hr
    obtain ⟨e, a₁, w₁, hq, harr⟩ := h b (.inScope c :: k) cs hro hb hr
    cases e with
    | normal => exact ⟨.normal, a₁, w₁, hq, StepsIn.trans harr (.one (fenced_calm hb hr rfl) stepR_inScope)⟩
    | exit id => exact ⟨.exit id, a₁, w₁, hq, fun k' hk => harr.1 k' (by simp [exitTo, hk]), fun hr' hk => harr.2 hr' (by simp [exitTo, hk])⟩
    | goto l =>
      simp only [scPost] at hq
      split at hq
      · rename_i hf
        have hx : gotoIn l (.inScope c :: k) = gotoIn l k := by simp [gotoIn, hf]
        exact ⟨.goto l, a₁, w₁, hq, fun k' hk => harr.1 k' (by rw [hx]; exact hk), fun hr' hk => harr.2 hr' (by rw [hx]; exact hk)⟩
      · exact hq.elim
    | ret => exact ⟨_, a₁, w₁, hq, harr⟩
    | panic ch => exact ⟨_, a₁, w₁, hq, harr⟩
    | outgrown => exact ⟨_, a₁, w₁, hq, harr⟩
  | succ n ih =>
    intro x a w h b k cs hro hb hr
    obtain ⟨e, a₁, w₁, hq, harr⟩ := h b (.inScope c :: k) cs hro hb hr
    cases e with
    | normal => exact ⟨.normal, a₁, w₁, hq, StepsIn.trans harr (.one (fenced_calm hb hr rfl) stepR_inScope)⟩
    | exit id => exact ⟨.exit id, a₁, w₁, hq, fun k' hk => harr.1 k' (by simp [exitTo, hk]), fun hr' hk => harr.2 hr' (by simp [exitTo, hk])⟩
    | goto l =>
      simp only [scPost] at hq
      split at hq
      · rename_i hf
        have hx : gotoIn l (.inScope c :: k) = gotoIn l k := by simp [gotoIn, hf]
        exact ⟨.goto l, a₁, w₁, hq, fun k' hk => harr.1 k' (by rw [hx]; exact hk), fun hr' hk => harr.2 hr' (by rw [hx]; exact hk)⟩
      · rename_i rest hf
        have hx : gotoIn l (.inScope c :: k) = some (.code rest :: .inScope c :: k) := by simp [gotoIn, hf]
        obtain ⟨e₂, a₂, w₂, hq₂, harr₂⟩ := ih rest a₁ w₁ hq b k cs hro hb hr
        exact ⟨e₂, a₂, w₂, hq₂, .of_steps (harr.1 _ hx) harr₂⟩
    | ret => exact ⟨_, a₁, w₁, hq, harr⟩
    | panic ch => exact ⟨_, a₁, w₁, hq, harr⟩
    | outgrown => exact ⟨_, a₁, w₁, hq, harr⟩

theorem wpIn_scope {F : Fence} {m n : Nat} {c : Code} {Q : Exit → Act → World → Prop} {a : Act} (h : c.wpIn F m P (scPost F m P c Q n) a w) : (Code.scope c).wpIn F m P Q a w := fun b k cs hro hb hr => by
  obtain ⟨e, a', w', hq, harr⟩ := scope_run n c a w h b k cs hro hb hr
  exact ⟨e, a', w', hq, .of_steps (.one (fenced_calm hb hr rfl) stepR_scope) harr⟩

theorem codeOK_label {ord : Nat → Hint} {rd : Bool} : ∀ (c : Code) (l : Nat) (rest : Code), codeOK P ord rd c = true → findLabel c l = some rest → codeOK P ord rd rest = true
  | .seq a b, l, rest, h, hf => by
    simp only [codeOK, Bool.and_eq_true] at h
    simp only [findLabel] at hf
    split at hf
    · rename_i r hr
      cases hf
      simp only [codeOK, Bool.and_eq_true]
      exact ⟨codeOK_label a l r h.1 hr, h.2⟩
    · exact codeOK_label b l rest h.2 hf
  | .label l', l, rest, _, hf => by
    simp only [findLabel] at hf
    split at hf <;> cases hf
    rfl
  | .skip, _, _, _, hf => by simp [findLabel] at hf
  | .region _ _ _, _, _, _, hf => by simp [findLabel] at hf
  | .cond _ _ _, _, _, _, hf => by simp [findLabel] at hf
  | .block _ _, _, _, _, hf => by simp [findLabel] at hf
  | .loop _, _, _, _, hf => by simp [findLabel] at hf
  | .rangeFunc _ _ _ _, _, _, _, hf => by simp [findLabel] at hf
  | .exit _, _, _, _, hf => by simp [findLabel] at hf
  | .scope _, _, _, _, hf => by simp [findLabel] at hf
  | .goto _, _, _, _, hf => by simp [findLabel] at hf
  | .ret, _, _, _, hf => by simp [findLabel] at hf
  | .refuse _, _, _, _, hf => by simp [findLabel] at hf
end
end Go.Xe
