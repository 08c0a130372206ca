/- A part of an evaluator for the program's code: it runs code over an abstract memory, and what it answers holds of every run. -/
import Derived.Test.YtomialandfplkaaDoorXvI
namespace Go.Xe
section
variable {P : Program} {B : Nat} {w0 w : World} {E : Env}

def Eqv (F F' : Tr SV) : Prop := ∀ k, F.get k = F'.get k
theorem Eqv.refl (F : Tr SV) : Eqv F F := fun _ => rfl
theorem Eqv.symm {F F' : Tr SV} (h : Eqv F F') : Eqv F' F := fun k => (h k).symm
theorem Eqv.trans {F F' F'' : Tr SV} (h : Eqv F F') (h' : Eqv F' F'') : Eqv F F'' := fun k => (h k).trans (h' k)

theorem FrRel.eqv {N : Nat} {F F' : Tr SV} {a : Act} (h : FrRel N E F a) (he : Eqv F F') : FrRel N E F' a :=
  ⟨h.1, h.2.1, fun j y hj => h.2.2 j y (by rw [he j]; exact hj)⟩

theorem look_eqv {ng : Nat} {F F' : Tr SV} (he : Eqv F F') (x : Operand) : look ng F x = look ng F' x := by
  cases x <;> simp [look, he _]
theorem looks_eqv {ng : Nat} {F F' : Tr SV} : ∀ {xs : List Operand}, (∀ x ∈ xs, look ng F x = look ng F' x) → looks ng F xs = looks ng F' xs
  | [], _ => rfl
  | x :: xs, h => by simp only [looks, h x (List.mem_cons_self ..), looks_eqv (fun y hy => h y (List.mem_cons_of_mem _ hy))]

/-- What an operation yields. -/
def stepV (P : Program) (callf : CallF) (ops : List Oper) (o : Oper) (F : Tr SV) (X : XW) : Option (SV × XW) :=
  match wantE ops F X o.guard with
  | some (true, X) => evOp P callf o F X
  | some (false, X) => some (.val undef, X)
  | none => none

theorem stepE_eq {callf : CallF} {N : Nat} {ops : List Oper} {o : Oper} {F F' : Tr SV} {X X' : XW} :
    stepE P callf N ops o F X = some (F', X') ↔ ∃ y, stepV P callf ops o F X = some (y, X') ∧ F' = put N F o.dst y := by
  unfold stepE stepV
  cases hw : wantE ops F X o.guard with
  | none => simp
  | some r =>
    obtain ⟨b, X1⟩ := r
    cases b with
    | false =>
      simp only [Option.some.injEq, Prod.mk.injEq]
      constructor
      · rintro ⟨rfl, rfl⟩; exact ⟨_, ⟨rfl, rfl⟩, rfl⟩
      · rintro ⟨y', ⟨rfl, rfl⟩, rfl⟩; exact ⟨rfl, rfl⟩
    | true =>
      simp only []
      cases ho : evOp P callf o F X1 with
      | none => simp
      | some r =>
        obtain ⟨y, X2⟩ := r
        simp only [Option.some.injEq, Prod.mk.injEq]
        constructor
        · rintro ⟨rfl, rfl⟩; exact ⟨y, ⟨rfl, rfl⟩, rfl⟩
        · rintro ⟨y', ⟨rfl, rfl⟩, rfl⟩; exact ⟨rfl, rfl⟩

/-- It looks at its own slots alone. -/
theorem stepV_look {callf : CallF} {ops : Array Oper} {o : Oper} {F F' : Tr SV} {X : XW} (h : ∀ t ∈ o.looksAt ops, F.get t = F'.get t) :
    stepV P callf ops.toList o F X = stepV P callf ops.toList o F' X := by
  have hw : wantE ops.toList F X o.guard = wantE ops.toList F' X o.guard := by
    unfold wantE
    cases hg : o.guard with
    | none => rfl
    | some gw =>
      obtain ⟨j, want⟩ := gw
      simp only []
      cases ho : ops.toList[j]? with
      | none => rfl
      | some o' =>
        simp only []
        cases hd : o'.dst with
        | none => rfl
        | some d =>
          have ho' : ops[j]? = some o' := by simpa using ho
          have hm : d ∈ o.looksAt ops := by simp [Oper.looksAt, hg, ho', hd]
          simp only [h d hm]
  have hl : ∀ ng, looks ng F o.op.operands.toList = looks ng F' o.op.operands.toList := fun ng => looks_eqv fun x hx => by
    cases x with
    | tmp t => exact h t (List.mem_append_left _ (List.mem_filterMap.2 ⟨.tmp t, hx, rfl⟩))
    | _ => rfl
  unfold stepV
  rw [hw]
  unfold evOp
  simp only [hl]

theorem put_get {N : Nat} (hN : N + 2 < 2 ^ depth) {F : Tr SV} {d : Option Tmp} {y : SV} (k : Nat) (h : d ≠ some k) : (put N F d y).get k = F.get k := by
  cases d with
  | none => rfl
  | some t =>
    simp only [put]
    cases hb : Nat.blt t N with
    | false => rfl
    | true =>
      have hlt : t < N := by rw [Nat.blt_eq] at hb; exact hb
      simp only [cond_true]
      rw [get_set_eq _ _ _ _ _ (Nat.lt_of_le_of_lt (by exact Nat.succ_le_succ (Nat.le_of_lt hlt)) (Nat.lt_of_le_of_lt (Nat.le_succ _) hN)), if_neg (fun e => h (by rw [e]))]

theorem put_self {N : Nat} (hN : N + 2 < 2 ^ depth) {F F' : Tr SV} {d : Option Tmp} {y : SV} {k : Nat} (h : d = some k) (hF : F.get k = F'.get k) : (put N F d y).get k = (put N F' d y).get k := by
  subst h
  simp only [put]
  cases hb : Nat.blt k N with
  | false => exact hF
  | true =>
    have hlt : k < N := by rw [Nat.blt_eq] at hb; exact hb
    have hk : k + 1 < 2 ^ depth := by omega
    simp only [cond_true]
    rw [get_set_eq _ _ _ _ _ hk, get_set_eq _ _ _ _ _ hk]
    simp

theorem put_eqv {N : Nat} (hN : N + 2 < 2 ^ depth) {F F' : Tr SV} (he : Eqv F F') (d : Option Tmp) (y : SV) : Eqv (put N F d y) (put N F' d y) := fun k => by
  by_cases h : d = some k
  · exact put_self hN h (he k)
  · rw [put_get hN k h, put_get hN k h]; exact he k

theorem put_comm {N : Nat} (hN : N + 2 < 2 ^ depth) {F : Tr SV} {d e : Option Tmp} {y z : SV} (h : ∀ t, d = some t → e ≠ some t) : Eqv (put N (put N F d y) e z) (put N (put N F e z) d y) := fun k => by
  by_cases hd : d = some k
  · have he := h k hd
    rw [put_get hN k he]
    exact put_self hN hd (put_get hN k he).symm
  · rw [put_get (d := d) hN k hd]
    by_cases he : e = some k
    · exact put_self hN he (put_get hN k hd)
    · rw [put_get hN k he, put_get hN k he, put_get hN k hd]

theorem stepE_eqv {callf : CallF} {N : Nat} (hN : N + 2 < 2 ^ depth) {ops : Array Oper} {o : Oper} {F F' G : Tr SV} {X X' : XW} (he : Eqv F F') (h : stepE P callf N ops.toList o F X = some (G, X')) :
    ∃ G', stepE P callf N ops.toList o F' X = some (G', X') ∧ Eqv G G' := by
  obtain ⟨y, hy, rfl⟩ := stepE_eq.1 h
  exact ⟨_, stepE_eq.2 ⟨y, by rw [← stepV_look (fun t _ => he t)]; exact hy, rfl⟩, put_eqv hN he _ _⟩

theorem asB_orc {X X' : XW} {y : SV} {b : Bool} (ho : X.orc = []) (h : asB X y = some (b, X')) : X' = X ∧ ∀ X1, asB X1 y = some (b, X1) := by
  cases y with
  | bool c => simp only [asB, Option.some.injEq, Prod.mk.injEq] at h; obtain ⟨rfl, rfl⟩ := h; exact ⟨rfl, fun _ => rfl⟩
  | val x => cases x <;> simp [asB, XW.ask, ho] at h
  | _ => simp [asB] at h

theorem want_orc {ops : List Oper} {F : Tr SV} {X X' : XW} {g : Option (Nat × Bool)} {b : Bool} (ho : X.orc = []) (h : wantE ops F X g = some (b, X')) : X' = X ∧ ∀ X1, wantE ops F X1 g = some (b, X1) := by
  unfold wantE at h ⊢
  split at h
  · cases h; exact ⟨rfl, fun _ => rfl⟩
  · split at h <;> try (cases h; done)
    split at h <;> try (cases h; done)
    split at h <;> try (cases h; done)
    split at h <;> try (cases h; done)
    rename_i hb
    cases h
    obtain ⟨h1, h2⟩ := asB_orc ho hb
    exact ⟨h1, fun X1 => by simp [*]⟩

theorem pure_sem {op : Op} {vals : List SV} {X X' : XW} {y : SV} (hp : isPure op = true) (ho : X.orc = []) (h : sem P op vals X = some (y, X')) : X' = X ∧ ∀ X1, sem P op vals X1 = some (y, X1) := by
  unfold sem at h
  split at h
  all_goals first
    | (simp [isPure] at hp; done)
    | (cases h; done)
    | (cases h; exact ⟨rfl, fun _ => rfl⟩)
    | (obtain ⟨h', hXX⟩ := withX_some h; subst hXX; exact ⟨rfl, fun X1 => by simp only [sem, withX, h']⟩)
    | (unfold semPick at h
       split at h
       · rename_i hb; cases h; obtain ⟨h1, h2⟩ := asB_orc ho hb; exact ⟨h1, fun X1 => by simp only [sem, semPick, h2]⟩
       · rename_i hb; cases h; obtain ⟨h1, h2⟩ := asB_orc ho hb; exact ⟨h1, fun X1 => by simp only [sem, semPick, h2]⟩
       · cases h)

theorem read_sem {op : Op} {vals : List SV} {X X' : XW} {y : SV} (hp : isRead op = true) (h : sem P op vals X = some (y, X')) : X' = X := by
  unfold sem at h
  split at h
  all_goals first
    | (simp [isRead] at hp; done)
    | (cases h; done)
    | (obtain ⟨_, hXX⟩ := withX_some h; exact hXX.symm)

theorem evOp_nocall {callf : CallF} {o : Oper} {F : Tr SV} {X : XW} (h : isPure o.op = true ∨ isRead o.op = true) : evOp P callf o F X = match looks X.ng F o.op.operands.toList with
    | none => none
    | some vals => sem P o.op vals X := by
  unfold evOp
  cases looks X.ng F o.op.operands.toList with
  | none => rfl
  | some vals =>
    simp only []
    split
    · rename_i hc; rcases h with h | h <;> simp [hc, isPure, isRead] at h
    · rfl

def OrcOK (callf : CallF) : Prop := ∀ f args X y X', callf f args X = some (y, X') → (X.orc = [] → X'.orc = []) ∧ X'.ng = X.ng

theorem sem_keeps {op : Op} {vals : List SV} {X X' : XW} {y : SV} (h : sem P op vals X = some (y, X')) : (X.orc = [] → X'.orc = []) ∧ X'.ng = X.ng := by
  unfold sem at h
  split at h
  case h_3 =>
    unfold semPick at h
    split at h
    · rename_i hb; cases h; exact ⟨fun ho => by rw [(asB_orc ho hb).1]; exact ho, (asB_spec hb).2.2.2⟩
    · rename_i hb; cases h; exact ⟨fun ho => by rw [(asB_orc ho hb).1]; exact ho, (asB_spec hb).2.2.2⟩
    · cases h
  case h_4 => unfold semAlloc newRow XW.new at h; split at h <;> (try simp only [force_eq] at h) <;> cases h; exact ⟨fun ho => ho, rfl⟩
  case h_5 =>
    unfold semBox newRow XW.new at h
    rename_i x
    cases hx : x.flat <;> simp only [hx, cond_false, cond_true, force_eq] at h <;> cases h
    exact ⟨fun ho => ho, rfl⟩
  case h_7 =>
    unfold semBuildSlice newRow XW.new at h
    split at h <;> try (cases h; done)
    split at h <;> try (cases h; done)
    rename_i s z _ _
    generalize hc : (Nat.ble _ _ && Nat.ble 1 s && _) = b at h
    cases b <;> simp only [cond_true, cond_false, force_eq] at h
    · cases h
    · split at h <;> cases h; exact ⟨fun ho => ho, rfl⟩
  case h_9 =>
    split at h <;> cases h
    rename_i X1 hs
    unfold semStore at hs
    split at hs <;> try (cases hs; done)
    rename_i o n _ _
    generalize hc : (Nat.beq _ _ && _ && _ && _ && _) = b at hs
    cases b <;> simp only [cond_true, cond_false] at hs <;> cases hs
    exact ⟨fun ho => ho, rfl⟩
  case h_16 =>
    unfold semMake newPat XW.new at h
    split at h <;> try (cases h; done)
    split at h <;> try (cases h; done)
    split at h <;> try (cases h; done)
    rename_i s z b _ _ _
    generalize hc : (Nat.ble _ _ && _ && _ && _ && _) = b at h
    cases b <;> simp only [cond_true, cond_false, force_eq] at h <;> cases h
    exact ⟨fun ho => ho, rfl⟩
  all_goals first
    | (cases h; exact ⟨fun ho => ho, rfl⟩)
    | (obtain ⟨_, rfl⟩ := withX_some h; exact ⟨fun ho => ho, rfl⟩)
    | (cases h; done)

theorem evOp_keeps {callf : CallF} (hc : OrcOK callf) {o : Oper} {F : Tr SV} {X X' : XW} {y : SV} (h : evOp P callf o F X = some (y, X')) : (X.orc = [] → X'.orc = []) ∧ X'.ng = X.ng := by
  unfold evOp at h
  split at h <;> try (cases h; done)
  split at h
  · unfold evCall at h
    split at h
    · exact hc _ _ _ _ _ h
    · split at h <;> try (cases h; done)
      obtain ⟨_, hXX⟩ := withX_some h; subst hXX; exact ⟨fun ho => ho, rfl⟩
    · cases h
  · exact sem_keeps h

theorem stepV_keeps {callf : CallF} (hc : OrcOK callf) {ops : List Oper} {o : Oper} {F : Tr SV} {X X' : XW} {y : SV} (ho : X.orc = []) (h : stepV P callf ops o F X = some (y, X')) : X'.orc = [] ∧ X'.ng = X.ng := by
  unfold stepV at h
  split at h
  · rename_i X1 hw
    obtain ⟨rfl, _⟩ := want_orc ho hw
    exact ⟨(evOp_keeps hc h).1 ho, (evOp_keeps hc h).2⟩
  · rename_i X1 hw
    obtain ⟨rfl, _⟩ := want_orc ho hw
    cases h; exact ⟨ho, rfl⟩
  · cases h

theorem stepV_pure {callf : CallF} {ops : List Oper} {o : Oper} {F : Tr SV} {X X' : XW} {y : SV} (hp : isPure o.op = true) (ho : X.orc = []) (h : stepV P callf ops o F X = some (y, X')) :
    X' = X ∧ ∀ X1, X1.ng = X.ng → stepV P callf ops o F X1 = some (y, X1) := by
  unfold stepV at h ⊢
  split at h
  · rename_i X2 hw
    obtain ⟨rfl, hw'⟩ := want_orc ho hw
    rw [evOp_nocall (.inl hp)] at h
    split at h <;> try (cases h; done)
    rename_i vals hl
    obtain ⟨h1, h2⟩ := pure_sem hp ho h
    refine ⟨h1, fun X1 hng => ?_⟩
    rw [hw' X1]
    simp only []
    rw [evOp_nocall (.inl hp), hng, hl]
    exact h2 X1
  · rename_i X2 hw
    obtain ⟨rfl, hw'⟩ := want_orc ho hw
    cases h
    exact ⟨rfl, fun X1 _ => by rw [hw' X1]⟩
  · cases h

theorem stepV_read {callf : CallF} {ops : List Oper} {o : Oper} {F : Tr SV} {X X' : XW} {y : SV} (hp : isRead o.op = true) (ho : X.orc = []) (h : stepV P callf ops o F X = some (y, X')) : X' = X := by
  unfold stepV at h
  split at h
  · rename_i X2 hw
    obtain ⟨rfl, hw'⟩ := want_orc ho hw
    rw [evOp_nocall (.inr hp)] at h
    split at h <;> try (cases h; done)
    exact read_sem hp h
  · rename_i X2 hw
    obtain ⟨rfl, hw'⟩ := want_orc ho hw
    cases h; rfl
  · cases h

/-- Two operations change places. -/
theorem step_comm {callf : CallF} (hc : OrcOK callf) {N : Nat} (hN : N + 2 < 2 ^ depth) {ops : Array Oper} {oi oj : Oper} {F Fi Fij : Tr SV} {X Xi Xij : XW} (hap : oi.apart ops oj = true) (hco : compat oi.op oj.op = true)
    (ho : X.orc = []) (h1 : stepE P callf N ops.toList oi F X = some (Fi, Xi)) (h2 : stepE P callf N ops.toList oj Fi Xi = some (Fij, Xij)) :
    ∃ Fj Xj Fji, stepE P callf N ops.toList oj F X = some (Fj, Xj) ∧ Xj.orc = [] ∧ stepE P callf N ops.toList oi Fj Xj = some (Fji, Xij) ∧ Eqv Fij Fji := by
  obtain ⟨a1, a2, a3⟩ := Oper.apart_spec hap
  obtain ⟨yi, hyi, rfl⟩ := stepE_eq.1 h1
  obtain ⟨yj, hyj, rfl⟩ := stepE_eq.1 h2
  have hj : stepV P callf ops.toList oj F Xi = some (yj, Xij) := by
    rw [← hyj]
    exact stepV_look fun t ht => (put_get hN t fun e => a1 t e ht).symm
  have hi' : ∀ X1, stepV P callf ops.toList oi F X1 = some (yi, Xij) → stepV P callf ops.toList oi (put N F oj.dst yj) X1 = some (yi, Xij) := fun X1 h => by
    rw [← h]
    exact stepV_look fun t ht => put_get hN t fun e => a3 t e ht
  have hfr := put_comm hN (F := F) (y := yi) (z := yj) a2
  have ki := stepV_keeps hc ho hyi
  have kj := stepV_keeps hc ki.1 hj
  simp only [compat, Bool.or_eq_true, Bool.and_eq_true] at hco
  rcases hco with (hp | hp) | ⟨hr1, hr2⟩
  · obtain ⟨rfl, hind⟩ := stepV_pure hp ho hyi
    exact ⟨_, Xij, _, stepE_eq.2 ⟨yj, hj, rfl⟩, kj.1, stepE_eq.2 ⟨yi, hi' _ (hind Xij kj.2), rfl⟩, hfr⟩
  · obtain ⟨rfl, hind⟩ := stepV_pure hp ki.1 hj
    exact ⟨_, X, _, stepE_eq.2 ⟨yj, hind X ki.2.symm, rfl⟩, ho, stepE_eq.2 ⟨yi, hi' _ hyi, rfl⟩, hfr⟩
  · have e1 := stepV_read hr1 ho hyi
    subst e1
    have e2 := stepV_read hr2 ho hj
    subst e2
    exact ⟨_, _, _, stepE_eq.2 ⟨yj, hj, rfl⟩, ho, stepE_eq.2 ⟨yi, hi' _ hyi, rfl⟩, hfr⟩
end
end Go.Xe
