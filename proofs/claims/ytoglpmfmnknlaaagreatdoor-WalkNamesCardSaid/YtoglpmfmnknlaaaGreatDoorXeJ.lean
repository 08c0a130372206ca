/- A part of an evaluator for the code. -/
import Derived.Test.YtoglpmfmnknlaaaGreatDoorXeI
namespace Go.Xe
section
variable {P : Program} {B : Nat} {w0 w : World} {E : Env} {ds : List Deferred}

def Eqv (F F' : Tr SV) : Prop := ∀ k, F.get k = F'.get k
theorem Eqv.refl (F : Tr SV) : Eqv F F := fun _ => rfl
theorem Eqv.symm {F F' : Tr SV} (h : Eqv F F') : Eqv F' F := fun k => (h k).symm
theorem Eqv.trans {F F' F'' : Tr SV} (h : Eqv F F') (h' : Eqv F' F'') : Eqv F F'' := fun k => (h k).trans (h' k)

theorem FrRel.eqv {N : Nat} {F F' : Tr SV} {a : Act} (h : FrRel ds N E F a) (he : Eqv F F') : FrRel ds N E F' a :=
  ⟨h.1, h.2.1, fun j y hj => h.2.2 j y (by rw [he j]; exact hj)⟩

theorem look_eqv {ng : Nat} {F F' : Tr SV} (he : Eqv F F') (x : Operand) : look ng F x = look ng F' x := by
  cases x <;> simp [look, he _]
theorem looks_eqv {ng : Nat} {F F' : Tr SV} : ∀ {xs : List Operand}, (∀ x ∈ xs, look ng F x = look ng F' x) → looks ng F xs = looks ng F' xs
  | [], _ => rfl
  | x :: xs, h => by simp only [looks, h x (List.mem_cons_self ..), looks_eqv (fun y hy => h y (List.mem_cons_of_mem _ hy))]

def stepV (P : Program) (callf : CallF) (ops : List Oper) (o : Oper) (F : Tr SV) (X : XW) : Option (SV × XW) :=
  match wantE ops F X o.guard with
  | some (true, X) => evOp P callf o F X
  | some (false, X) => some (.val undef, X)
  | none => none

theorem stepE_eq {callf : CallF} {N : Nat} {ops : List Oper} {o : Oper} {F F' : Tr SV} {X X' : XW} :
    stepE P callf N ops o F X = some (F', X') ↔ ∃ y, stepV P callf ops o F X = some (y, X') ∧ F' = put N F o.dst y := by
  unfold stepE stepV
  cases hw : wantE ops F X o.guard with
  | none => simp
  | some r =>
    obtain ⟨b, X1⟩ := r
    cases b with
    | false =>
      simp only [Option.some.injEq, Prod.mk.injEq]
      constructor
      · rintro ⟨rfl, rfl⟩; exact ⟨_, ⟨rfl, rfl⟩, rfl⟩
      · rintro ⟨y', ⟨rfl, rfl⟩, rfl⟩; exact ⟨rfl, rfl⟩
    | true =>
      simp only []
      cases ho : evOp P callf o F X1 with
      | none => simp
      | some r =>
        obtain ⟨y, X2⟩ := r
        simp only [Option.some.injEq, Prod.mk.injEq]
        constructor
        · rintro ⟨rfl, rfl⟩; exact ⟨y, ⟨rfl, rfl⟩, rfl⟩
        · rintro ⟨y', ⟨rfl, rfl⟩, rfl⟩; exact ⟨rfl, rfl⟩

theorem look_same {ops : Array Oper} {o : Oper} {F F' : Tr SV} {X : XW} (h : ∀ t ∈ o.looksAt ops, F.get t = F'.get t) :
    wantE ops.toList F X o.guard = wantE ops.toList F' X o.guard ∧ ∀ ng, looks ng F o.op.operands.toList = looks ng F' o.op.operands.toList := by
  refine ⟨?_, fun ng => looks_eqv fun x hx => ?_⟩
  · unfold wantE
    cases hg : o.guard with
    | none => rfl
    | some gw =>
      obtain ⟨j, want⟩ := gw
      simp only []
      cases ho : ops.toList[j]? with
      | none => rfl
      | some o' =>
        simp only []
        cases hd : o'.dst with
        | none => rfl
        | some d =>
          have ho' : ops[j]? = some o' := by simpa using ho
          have hm : d ∈ o.looksAt ops := by simp [Oper.looksAt, hg, ho', hd]
          simp only [h d hm]
  · cases x with
    | tmp t => exact h t (List.mem_append_left _ (List.mem_filterMap.2 ⟨.tmp t, hx, rfl⟩))
    | _ => rfl

theorem stepV_look {callf : CallF} {ops : Array Oper} {o : Oper} {F F' : Tr SV} {X : XW} (h : ∀ t ∈ o.looksAt ops, F.get t = F'.get t) :
    stepV P callf ops.toList o F X = stepV P callf ops.toList o F' X := by
  obtain ⟨hw, hl⟩ := look_same (X := X) h
  unfold stepV
  rw [hw]
  unfold evOp
  simp only [hl]

theorem put_get {N : Nat} {F : Tr SV} {d : Option Tmp} {y : SV} (k : Nat) (h : d ≠ some k) : (put N F d y).get k = F.get k := by
  cases d with
  | none => rfl
  | some t =>
    simp only [put]
    cases hb : Nat.blt t N with
    | false => rfl
    | true =>
      have hlt : t < N := by rw [Nat.blt_eq] at hb; exact hb
      simp only [cond_true]
      rw [get_put, if_neg (fun e => h (by rw [e]))]

theorem put_self {N : Nat} {F F' : Tr SV} {d : Option Tmp} {y : SV} {k : Nat} (h : d = some k) (hF : F.get k = F'.get k) : (put N F d y).get k = (put N F' d y).get k := by
  subst h
  simp only [put]
  cases hb : Nat.blt k N with
  | false => exact hF
  | true =>
    simp only [cond_true]
    rw [get_put, get_put]
    simp

theorem put_eqv {N : Nat} {F F' : Tr SV} (he : Eqv F F') (d : Option Tmp) (y : SV) : Eqv (put N F d y) (put N F' d y) := fun k => by
  by_cases h : d = some k
  · exact put_self h (he k)
  · rw [put_get k h, put_get k h]; exact he k

theorem put_comm {N : Nat} {F : Tr SV} {d e : Option Tmp} {y z : SV} (h : ∀ t, d = some t → e ≠ some t) : Eqv (put N (put N F d y) e z) (put N (put N F e z) d y) := fun k => by
  by_cases hd : d = some k
  · have he := h k hd
    rw [put_get k he]
    exact put_self hd (put_get k he).symm
  · rw [put_get (d := d) k hd]
    by_cases he : e = some k
    · exact put_self he (put_get k hd)
    · rw [put_get k he, put_get k he, put_get k hd]

theorem stepE_eqv {callf : CallF} {N : Nat} {ops : Array Oper} {o : Oper} {F F' G : Tr SV} {X X' : XW} (he : Eqv F F') (h : stepE P callf N ops.toList o F X = some (G, X')) :
    ∃ G', stepE P callf N ops.toList o F' X = some (G', X') ∧ Eqv G G' := by
  obtain ⟨y, hy, rfl⟩ := stepE_eq.1 h
  exact ⟨_, stepE_eq.2 ⟨y, by rw [← stepV_look (fun t _ => he t)]; exact hy, rfl⟩, put_eqv he _ _⟩

theorem asB_orc {X X' : XW} {y : SV} {b : Bool} (ho : X.orc = []) (h : asB X y = some (b, X')) : X' = X ∧ ∀ X1, asB X1 y = some (b, X1) := by
  cases y with
  | bool c => simp only [asB, Option.some.injEq, Prod.mk.injEq] at h; obtain ⟨rfl, rfl⟩ := h; exact ⟨rfl, fun _ => rfl⟩
  | val x => cases x <;> simp [asB, XW.ask, ho] at h
  | _ => simp [asB] at h

theorem asW_orc {X X' : XW} {y : SV} {b want : Bool} (ho : X.orc = []) (h : asW X want y = some (b, X')) : X' = X ∧ ∀ X1, asW X1 want y = some (b, X1) := by
  unfold asW at h ⊢
  cases ht : isTup y with
  | true =>
    simp only [ht, cond_true, Option.some.injEq, Prod.mk.injEq] at h
    obtain ⟨rfl, rfl⟩ := h
    exact ⟨rfl, fun _ => rfl⟩
  | false =>
    simp only [ht, cond_false] at h
    split at h <;> try (cases h; done)
    rename_i hb
    cases h
    obtain ⟨h1, h2⟩ := asB_orc ho hb
    exact ⟨h1, fun X1 => by simp [h2 X1]⟩

theorem want_orc {ops : List Oper} {F : Tr SV} {X X' : XW} {g : Option (Nat × Bool)} {b : Bool} (ho : X.orc = []) (h : wantE ops F X g = some (b, X')) : X' = X ∧ ∀ X1, wantE ops F X1 g = some (b, X1) := by
  unfold wantE at h ⊢
  split at h
  · cases h; exact ⟨rfl, fun _ => rfl⟩
  · split at h <;> try (cases h; done)
    split at h <;> try (cases h; done)
    split at h <;> try (cases h; done)
    obtain ⟨h1, h2⟩ := asW_orc ho h
    exact ⟨h1, fun X1 => by simp [*]⟩

theorem convX_row {s d : TypeId} {x y : SV} {X X' : XW} (h : convX P s d x X = some (y, X')) : rowConv P s d = true := by
  unfold convX at h
  unfold rowConv
  split at h <;> first
    | (cases h; done)
    | (rename_i h1 h2; simp only [h1, h2])
    | (rename_i h1 h2; simp [h1, h2])

theorem pure_sem {op : Op} {vals : List SV} {X X' : XW} {y : SV} (hp : isPure P op = true) (ho : X.orc = []) (h : sem P op vals X = some (y, X')) : X' = X ∧ ∀ X1, sem P op vals X1 = some (y, X1) := by
  unfold sem at h
  split at h
  all_goals first
    | (simp [isPure] at hp; done)
    | (cases h; done)
    | (cases h; exact ⟨rfl, fun _ => rfl⟩)
    | (obtain ⟨h', hXX⟩ := withX_some h; subst hXX; exact ⟨rfl, fun X1 => by simp only [sem, withX, h']⟩)
    | (unfold semPick at h
       split at h
       · rename_i hb; cases h; obtain ⟨h1, h2⟩ := asB_orc ho hb; exact ⟨h1, fun X1 => by simp only [sem, semPick, h2]⟩
       · rename_i hb; cases h; obtain ⟨h1, h2⟩ := asB_orc ho hb; exact ⟨h1, fun X1 => by simp only [sem, semPick, h2]⟩
       · cases h)
    | (split at h
       · rename_i hc; cases h; exact ⟨rfl, fun X1 => by simp only [sem, hc]⟩
       · have := convX_row h; simp [isPure, this] at hp)

structure Keeps (X X' : XW) : Prop where
  orc : X.orc = [] → X'.orc = []
  ng : X'.ng = X.ng
  next : X.next ≤ X'.next
  ver : ∀ k o o', k < X.next → X.objs.get k = some o → X'.objs.get k = some o' → o.ver ≤ o'.ver ∧ (o'.ver = o.ver → o' = o)
  dead : ∀ k, k < X.next → X.objs.get k = none → X'.objs.get k = none
  dfs : X'.dfs = X.dfs
  pc : Pc X' → Pc X

theorem Keeps.refl (X : XW) : Keeps X X := ⟨fun h => h, rfl, Nat.le_refl _, fun k o o' _ h h' => by rw [h] at h'; cases h'; exact ⟨Nat.le_refl _, fun _ => rfl⟩, fun _ _ h => h, rfl, fun h => h⟩

theorem Keeps.trans {X Y Z : XW} (h : Keeps X Y) (h' : Keeps Y Z) : Keeps X Z := by
  refine ⟨fun ho => h'.orc (h.orc ho), h'.ng.trans h.ng, Nat.le_trans h.next h'.next, fun k o o' hk ho ho' => ?_, fun k hk hd => h'.dead k (Nat.lt_of_lt_of_le hk h.next) (h.dead k hk hd), h'.dfs.trans h.dfs, fun p => h.pc (h'.pc p)⟩
  cases hy : Y.objs.get k with
  | none => have := h'.dead k (Nat.lt_of_lt_of_le hk h.next) hy; rw [ho'] at this; cases this
  | some oy =>
    obtain ⟨a1, a2⟩ := h.ver k o oy hk ho hy
    obtain ⟨b1, b2⟩ := h'.ver k oy o' (Nat.lt_of_lt_of_le hk h.next) hy ho'
    exact ⟨Nat.le_trans a1 b1, fun e => by rw [b2 (by omega), a2 (by omega)]⟩

theorem Keeps.same {X X' : XW} (ho : X.orc = [] → X'.orc = []) (hn : X'.ng = X.ng) (hx : X'.next = X.next) (hobj : X'.objs = X.objs) (hd : X'.dfs = X.dfs) (hpc : Pc X' → Pc X) : Keeps X X' :=
  ⟨ho, hn, by rw [hx]; exact Nat.le_refl _, fun k o o' _ h h' => by rw [hobj, h] at h'; cases h'; exact ⟨Nat.le_refl _, fun _ => rfl⟩, fun k _ h => by rw [hobj]; exact h, hd, hpc⟩

theorem Keeps.new (X : XW) (o : Ob) : Keeps X (X.new o).2 := by
  refine ⟨fun h => h, rfl, Nat.le_succ _, fun k a b hk h h' => ?_, fun k hk h => ?_, rfl, fun h => h⟩
  · rcases Hp.get_put_some h' with ⟨e, _⟩ | ⟨_, h2⟩
    · omega
    · rw [h] at h2; cases h2; exact ⟨Nat.le_refl _, fun _ => rfl⟩
  · cases h' : (X.new o).2.objs.get k with
    | none => rfl
    | some b =>
      rcases Hp.get_put_some h' with ⟨e, _⟩ | ⟨_, h2⟩
      · omega
      · rw [h] at h2; cases h2

theorem Keeps.store {X : XW} {k : Nat} {o o' : Ob} (hk : X.objs.get k = some o) (hv : o.ver < o'.ver) : Keeps X { X with objs := X.objs.put k o' } := by
  refine ⟨fun h => h, rfl, Nat.le_refl _, fun j a b _ h h' => ?_, fun j _ h => ?_, rfl, fun h => h⟩
  · rcases Hp.get_put_some h' with ⟨rfl, rfl⟩ | ⟨_, h2⟩
    · rw [hk] at h; cases h; exact ⟨by omega, fun e => by omega⟩
    · rw [h] at h2; cases h2; exact ⟨Nat.le_refl _, fun _ => rfl⟩
  · cases h' : (X.objs.put k o').get j with
    | none => rfl
    | some b =>
      rcases Hp.get_put_some h' with ⟨rfl, _⟩ | ⟨_, h2⟩
      · rw [hk] at h; cases h
      · rw [h] at h2; cases h2

theorem Keeps.name {X : XW} {k : Nat} {o : Ob} : Keeps X { X with next := X.next + 1, objs := (X.objs.del k).put X.next o } := by
  refine ⟨fun h => h, rfl, Nat.le_succ _, fun j a b hj h h' => ?_, fun j hj h => ?_, rfl, fun h => h⟩
  · rcases Hp.get_put_some h' with ⟨e, _⟩ | ⟨_, h2⟩
    · omega
    · have := (Hp.get_del_some h2).2; rw [h] at this; cases this; exact ⟨Nat.le_refl _, fun _ => rfl⟩
  · show ((X.objs.del k).put X.next o).get j = none
    cases h' : ((X.objs.del k).put X.next o).get j with
    | none => rfl
    | some b =>
      rcases Hp.get_put_some h' with ⟨e, _⟩ | ⟨_, h2⟩
      · omega
      · have := (Hp.get_del_some h2).2; rw [h] at this; cases this

theorem Turned.keeps {X X' : XW} (h : Turned X X') : Keeps X X' := by
  cases h with
  | same => exact Keeps.refl _
  | new o => exact Keeps.new _ _
  | set k o o' h1 h2 => exact Keeps.store h1 h2
  | name k o => exact Keeps.name

theorem asB_dfs {X X' : XW} {y : SV} {b : Bool} (h : asB X y = some (b, X')) : X'.dfs = X.dfs := by
  cases y with
  | bool c => simp only [asB, Option.some.injEq, Prod.mk.injEq] at h; obtain ⟨rfl, rfl⟩ := h; rfl
  | val x =>
    cases x with
    | bool s =>
      simp only [asB, XW.ask] at h
      split at h <;> cases h
      rfl
    | _ => simp [asB] at h
  | _ => simp [asB] at h

theorem asB_keeps {X X' : XW} {y : SV} {b : Bool} (h : asB X y = some (b, X')) : Keeps X X' := by
  obtain ⟨_, h2, h3, h4⟩ := asB_spec h
  exact Keeps.same (fun ho => by rw [(asB_orc ho h).1]; exact ho) h4 h3 h2 (asB_dfs h) (fun hp => ((asB_spec h).1 hp).1)

def KeepsOK (callf : CallF) : Prop := ∀ c args X y X', callf c args X = some (y, X') → Keeps X X'

theorem sem_keeps {op : Op} {vals : List SV} {X X' : XW} {y : SV} (h : sem P op vals X = some (y, X')) : Keeps X X' := by
  unfold sem at h
  split at h
  case h_3 =>
    unfold semPick at h
    split at h
    · rename_i hb; cases h; exact asB_keeps hb
    · rename_i hb; cases h; exact asB_keeps hb
    · cases h
  case h_4 => unfold semAlloc newRow at h; split at h <;> (try simp only [force_eq] at h) <;> cases h; exact Keeps.new _ _
  case h_5 =>
    unfold semBox newRow at h
    rename_i x
    cases hx : x.flat <;> simp only [hx, cond_false, cond_true, force_eq] at h <;> cases h
    exact Keeps.new _ _
  case h_7 =>
    unfold semBuildSlice newRow at h
    split at h <;> try (cases h; done)
    split at h <;> try (cases h; done)
    rename_i s z _ _
    generalize hc : (Nat.ble _ _ && Nat.ble 1 s && _) = b at h
    cases b <;> simp only [cond_true, cond_false, force_eq] at h
    · cases h
    · split at h <;> cases h; exact Keeps.new _ _
  case h_9 =>
    split at h <;> cases h
    rename_i X1 hs
    unfold semStore at hs
    split at hs <;> try (cases hs; done)
    rename_i o n ho _
    generalize hc : (Nat.beq _ _ && _ && _ && _) = b at hs
    cases b <;> simp only [cond_true, cond_false] at hs <;> cases hs
    exact Keeps.store ho (Nat.lt_succ_self _)
  case h_16 =>
    unfold semMake newPat at h
    split at h <;> try (cases h; done)
    split at h <;> try (cases h; done)
    split at h <;> try (cases h; done)
    rename_i s z b _ _ _
    generalize hc : (Nat.ble _ _ && _ && _ && _ && _) = b at h
    cases b <;> simp only [cond_true, cond_false, force_eq] at h <;> cases h
    exact Keeps.new _ _
  all_goals first
    | (cases h; exact Keeps.refl _)
    | (obtain ⟨_, rfl⟩ := withX_some h; exact Keeps.refl _)
    | (cases h; done)
    | exact (range_turned h).keeps
    | exact (next_turned h).keeps
    | (unfold newMap at h; cases h; exact Keeps.new _ _)
    | (split at h <;> cases h; rename_i hu; exact (update_turned hu).keeps)
    | (split at h
       · cases h; exact Keeps.refl _
       · exact (convX_turned h).keeps)

theorem evOp_keeps {callf : CallF} (hc : KeepsOK callf) {o : Oper} {F : Tr SV} {X X' : XW} {y : SV} (h : evOp P callf o F X = some (y, X')) : Keeps X X' := by
  unfold evOp at h
  split at h <;> try (cases h; done)
  split at h
  · unfold evCall at h
    split at h
    · exact (blt_turned h).keeps
    · split at h <;> try (cases h; done)
      unfold callV at h
      split at h <;> try (cases h; done)
      rename_i hz
      cases h
      exact hc _ _ _ _ _ hz
  · exact sem_keeps h

theorem evOpO_keeps {callf : CallF} (hc : KeepsOK callf) {o : Oper} {F : Tr SV} {X X' : XW} {y : Out} (h : evOpO P callf o F X = some (y, X')) : Keeps X X' := by
  have panK : ∀ {vals : List SV}, panE vals X = some (y, X') → Keeps X X' := by
    intro vals h
    unfold panE at h
    split at h <;> cases h
    exact Keeps.refl _
  have retK : ∀ {r : Option (SV × XW)}, retO r = some (y, X') → ∃ z, r = some (z, X') := by
    intro r hr
    unfold retO at hr
    split at hr <;> cases hr
    exact ⟨_, rfl⟩
  unfold evOpO at h
  split at h <;> try (cases h; done)
  split at h
  · split at h
    · rename_i b _
      cases hb : isPanB b with
      | true => rw [hb] at h; exact panK h
      | false =>
        rw [hb] at h
        obtain ⟨z, h⟩ := retK h
        exact (blt_turned h).keeps
    · split at h <;> try (cases h; done)
      exact hc _ _ _ _ _ h
  · exact panK h
  · obtain ⟨z, h⟩ := retK h
    exact sem_keeps h

theorem want_keeps {ops : List Oper} {F : Tr SV} {X X' : XW} {g : Option (Nat × Bool)} {b : Bool} (h : wantE ops F X g = some (b, X')) : Keeps X X' := by
  unfold wantE at h
  split at h
  · cases h; exact Keeps.refl _
  · split at h <;> try (cases h; done)
    split at h <;> try (cases h; done)
    split at h <;> try (cases h; done)
    rename_i y _
    unfold asW at h
    cases ht : isTup y with
    | true =>
      simp only [ht, cond_true, Option.some.injEq, Prod.mk.injEq] at h
      obtain ⟨rfl, rfl⟩ := h
      exact Keeps.refl _
    | false =>
      simp only [ht, cond_false] at h
      split at h <;> try (cases h; done)
      rename_i hb
      cases h
      exact asB_keeps hb

theorem stepV_keeps {callf : CallF} (hc : KeepsOK callf) {ops : List Oper} {o : Oper} {F : Tr SV} {X X' : XW} {y : SV} (h : stepV P callf ops o F X = some (y, X')) : Keeps X X' := by
  unfold stepV at h
  split at h
  · rename_i X1 hw
    exact (want_keeps hw).trans (evOp_keeps hc h)
  · rename_i X1 hw
    cases h; exact want_keeps hw
  · cases h

theorem stepE_keeps {callf : CallF} (hc : KeepsOK callf) {N : Nat} {ops : List Oper} {o : Oper} {F F' : Tr SV} {X X' : XW} (h : stepE P callf N ops o F X = some (F', X')) : Keeps X X' := by
  obtain ⟨y, hy, _⟩ := stepE_eq.1 h
  exact stepV_keeps hc hy

theorem pure_blt {c : Call} {vals : List SV} {X X' : XW} {y : SV} {b : Builtin} (hp : isPure P (.call c) = true) (hb : c.callee = .builtin b) (h : bltE P b c.argTypes vals X = some (y, X')) :
    X' = X ∧ ∀ X1, bltE P b c.argTypes vals X1 = some (y, X1) := by
  unfold bltE at h
  split at h
  · split at h <;> try (cases h; done)
    rename_i ht
    obtain ⟨h', hXX⟩ := withX_some h
    exact ⟨hXX.symm, fun X1 => by simp only [bltE, ht, h', withX]⟩
  · split at h <;> try (cases h; done)
    rename_i ht
    obtain ⟨h', hXX⟩ := withX_some h
    exact ⟨hXX.symm, fun X1 => by simp only [bltE, ht, h', withX]⟩
  · obtain ⟨h', hXX⟩ := withX_some h
    exact ⟨hXX.symm, fun X1 => by simp only [bltE, h', withX]⟩
  · obtain ⟨h', hXX⟩ := withX_some h
    exact ⟨hXX.symm, fun X1 => by simp only [bltE, h', withX]⟩
  · simp [isPure, pureCallee, hb, pureBlt] at hp
  · simp [isPure, pureCallee, hb, pureBlt] at hp
  · cases h

theorem pure_op {callf : CallF} {o : Oper} {F : Tr SV} {X X' : XW} {y : SV} (hp : isPure P o.op = true) (ho : X.orc = []) (h : evOp P callf o F X = some (y, X')) :
    X' = X ∧ ∀ X1, X1.ng = X.ng → evOp P callf o F X1 = some (y, X1) := by
  unfold evOp at h ⊢
  split at h <;> try (cases h; done)
  rename_i vals hl
  split at h
  · rename_i c hc
    unfold evCall at h
    rw [hc] at hp
    split at h
    · rename_i b hcal
      obtain ⟨h1, h2⟩ := pure_blt hp hcal h
      exact ⟨h1, fun X1 hng => by simp only [hng, hl, evCall, hcal]; exact h2 X1⟩
    · rename_i hcal
      have hp' : pureCallee c.callee = true := hp
      unfold pureCallee at hp'
      split at hp'
      · rename_i b hb; exact absurd hb (hcal b)
      · cases hp'
  · rename_i op hne
    obtain ⟨h1, h2⟩ := pure_sem hp ho h
    refine ⟨h1, fun X1 hng => ?_⟩
    simp only [hng, hl]
    exact h2 X1

theorem stepV_pure {callf : CallF} {ops : List Oper} {o : Oper} {F : Tr SV} {X X' : XW} {y : SV} (hp : isPure P o.op = true) (ho : X.orc = []) (h : stepV P callf ops o F X = some (y, X')) :
    X' = X ∧ ∀ X1, X1.ng = X.ng → stepV P callf ops o F X1 = some (y, X1) := by
  unfold stepV at h ⊢
  split at h
  · rename_i X2 hw
    obtain ⟨rfl, hw'⟩ := want_orc ho hw
    obtain ⟨h1, h2⟩ := pure_op hp ho h
    refine ⟨h1, fun X1 hng => ?_⟩
    rw [hw' X1]
    exact h2 X1 hng
  · rename_i X2 hw
    obtain ⟨rfl, hw'⟩ := want_orc ho hw
    cases h
    exact ⟨rfl, fun X1 _ => by rw [hw' X1]⟩
  · cases h

def readK : List SV → Option Nat
  | [.ptr k _] => some k
  | [.sl k _ _ _ _] => some k
  | _ => none

theorem read_sem {op : Op} {vals : List SV} {X X' : XW} {y : SV} (hp : isRead P op = true) (h : sem P op vals X = some (y, X')) : X' = X ∧ ∀ X1 : XW, (∀ k, readK vals = some k → X1.objs.get k = X.objs.get k) → sem P op vals X1 = some (y, X1) := by
  unfold sem at h
  split at h
  case h_8 =>
    obtain ⟨h', hXX⟩ := withX_some h
    refine ⟨hXX.symm, fun X1 hk => ?_⟩
    simp only [sem, semLoad, hk _ rfl, withX] at h' ⊢
    rw [h']
  case h_13 =>
    rename_i s d _ x
    have hs : strConv P s d = true := hp
    split at h
    · rename_i hc; cases h; exact ⟨rfl, fun X1 _ => by simp only [sem, hc]⟩
    · rename_i hc
      have : X' = X ∧ ∀ X1 : XW, (∀ k, readK [x] = some k → X1.objs.get k = X.objs.get k) → convX P s d x X1 = some (y, X1) := by
        unfold strConv at hs
        split at hs <;> try (cases hs; done)
        rename_i e h1 h2
        unfold convX at h
        simp only [h1, h2] at h
        split at h
        · rename_i he _; cases he
        · rename_i _ he; cases he
        · rename_i a c he _
          cases he
          cases c1 : isU8 P e with
          | false => simp [c1] at h
          | true =>
            simp only [c1, cond_true, Option.some.injEq, Prod.mk.injEq] at h
            obtain ⟨rfl, rfl⟩ := h
            exact ⟨rfl, fun X1 _ => by simp only [convX, h1, h2, c1, cond_true]⟩
        · rename_i k off n cap lo he _
          cases he
          cases c1 : isU8 P e with
          | false => simp [c1] at h
          | true =>
            simp only [c1, cond_true] at h
            split at h <;> try (cases h; done)
            rename_i o ho
            split at h <;> try (cases h; done)
            rename_i ys hys
            split at h <;> try (cases h; done)
            rename_i ns hns
            cases h
            exact ⟨rfl, fun X1 hk => by simp only [convX, h1, h2, c1, cond_true, hk k rfl, ho, hys, hns]⟩
        · cases h
      exact ⟨this.1, fun X1 hk => by simp only [sem, hc]; exact this.2 X1 hk⟩
  all_goals first
    | (simp [isRead] at hp; done)
    | (cases h; done)

theorem read_op {callf : CallF} {o : Oper} {F : Tr SV} {X : XW} (h : isRead P o.op = true) : evOp P callf o F X = match looks X.ng F o.op.operands.toList with
    | none => none
    | some vals => sem P o.op vals X := by
  unfold evOp
  cases looks X.ng F o.op.operands.toList with
  | none => rfl
  | some vals =>
    simp only []
    split
    · rename_i hc; simp [hc, isRead] at h
    · rfl

theorem stepV_read {callf : CallF} {ops : List Oper} {o : Oper} {F : Tr SV} {X X' : XW} {y : SV} (hp : isRead P o.op = true) (ho : X.orc = []) (h : stepV P callf ops o F X = some (y, X')) :
    X' = X ∧ ∀ X1, X1.ng = X.ng → (∀ k, addrOf ops o F X = some k → X1.objs.get k = X.objs.get k) → stepV P callf ops o F X1 = some (y, X1) := by
  unfold stepV at h ⊢
  unfold addrOf
  split at h
  · rename_i X2 hw
    obtain ⟨rfl, hw'⟩ := want_orc ho hw
    rw [read_op hp] at h
    split at h <;> try (cases h; done)
    rename_i vals hl
    obtain ⟨e, hind⟩ := read_sem hp h
    refine ⟨e, fun X1 hng hk => ?_⟩
    rw [hw' X1]
    simp only []
    rw [read_op hp, hng, hl]
    simp only [hw, hl] at hk
    refine hind X1 fun k hk' => hk k ?_
    unfold readK at hk'
    split at hk' <;> first | exact hk' | cases hk'
  · rename_i X2 hw
    obtain ⟨rfl, hw'⟩ := want_orc ho hw
    cases h; exact ⟨rfl, fun X1 _ _ => by rw [hw' X1]⟩
  · cases h

theorem addrOf_look {ops : Array Oper} {o : Oper} {F F' : Tr SV} {X : XW} (h : ∀ t ∈ o.looksAt ops, F.get t = F'.get t) : addrOf ops.toList o F X = addrOf ops.toList o F' X := by
  obtain ⟨hw, hl⟩ := look_same (X := X) h
  unfold addrOf
  rw [hw]
  simp only [hl]

theorem addrOf_X {ops : List Oper} {o : Oper} {F : Tr SV} {X X1 : XW} (ho : X.orc = []) (ho1 : X1.orc = []) (hng : X1.ng = X.ng) : addrOf ops o F X1 = addrOf ops o F X := by
  unfold addrOf
  cases hw : wantE ops F X o.guard with
  | none =>
    cases hw1 : wantE ops F X1 o.guard with
    | none => rfl
    | some r => obtain ⟨b, X2⟩ := r; have := (want_orc ho1 hw1).2 X; rw [hw] at this; cases this
  | some r =>
    obtain ⟨b, X2⟩ := r
    obtain ⟨rfl, hw'⟩ := want_orc ho hw
    rw [hw' X1]
    cases b with
    | false => rfl
    | true => simp only [hng]

structure Sees where
  pre : Nat → XW
  post : Nat → XW
  obj : Nat → Option Nat

def St (P : Program) (callf : CallF) (N : Nat) (ops : Array Oper) (S : Sees) (i : Nat) (F : Tr SV) (X : XW) (F' : Tr SV) (X' : XW) : Prop :=
  ∃ o, ops[i]? = some o ∧ stepE P callf N ops.toList o F X = some (F', X') ∧ (isBar P o.op = true → X = S.pre i ∧ X' = S.post i) ∧ (isRead P o.op = true → addrOf ops.toList o F X = S.obj i)

theorem sameVer_spec {X X' : XW} (hk : Keeps X X') {k : Nat} (h : sameVer X X' k = true) : X'.objs.get k = X.objs.get k := by
  unfold sameVer at h
  cases hb : Nat.blt k X.next with
  | false => rw [hb] at h; cases h
  | true =>
    rw [hb] at h
    have hlt : k < X.next := by rw [Nat.blt_eq] at hb; exact hb
    simp only [cond_true, verOf] at h
    cases h1 : X.objs.get k with
    | none => simp [h1] at h
    | some o =>
      cases h2 : X'.objs.get k with
      | none => simp [h1, h2] at h
      | some o' =>
        simp only [h1, h2] at h
        rw [(hk.ver k o o' hlt h1 h2).2 (Nat.eq_of_beq_eq_true h).symm]

theorem str_row {s d : TypeId} (h : rowConv P s d = false) : strConv P s d = false := by
  unfold rowConv at h
  unfold strConv
  cases hs : P.underlying s with
  | none => rfl
  | some t => cases t <;> first | rfl | (simp [hs] at h)

theorem pure_cases {op : Op} (h : isPure P op = true) : isBar P op = false ∧ isRead P op = false := by
  have hr : isRead P op = false := by
    cases op <;> first
      | rfl
      | (simp [isPure] at h; done)
      | (simp only [isPure, Bool.not_eq_true'] at h; exact str_row h)
  exact ⟨by simp [isBar, h], hr⟩
theorem read_cases {op : Op} (h : isRead P op = true) : isBar P op = false := by simp [isBar, h]

theorem step_comm {callf : CallF} (hc : KeepsOK callf) {N : Nat} {ops : Array Oper} {S : Sees} {chk : List (Nat × List Nat)} {i j : Nat} {oi oj : Oper} {F Fi Fij : Tr SV} {X Xi Xij : XW} (hoi : ops[i]? = some oi) (hoj : ops[j]? = some oj)
    (hap : oi.apart ops oj = true) (hco : compat P chk i j oi.op oj.op = true) (hsv : isBar P oj.op = true → hasNat (chkOf chk j) i = true → ∀ k, S.obj i = some k → sameVer (S.pre j) (S.post j) k = true)
    (ho : X.orc = []) (h1 : St P callf N ops S i F X Fi Xi) (h2 : St P callf N ops S j Fi Xi Fij Xij) :
    ∃ Fj Xj Fji, St P callf N ops S j F X Fj Xj ∧ Xj.orc = [] ∧ St P callf N ops S i Fj Xj Fji Xij ∧ Eqv Fij Fji := by
  obtain ⟨oi', hoi', h1, b1, r1⟩ := h1
  obtain ⟨oj', hoj', h2, b2, r2⟩ := h2
  rw [hoi] at hoi'; cases hoi'
  rw [hoj] at hoj'; cases hoj'
  obtain ⟨a1, a2, a3⟩ := Oper.apart_spec hap
  obtain ⟨yi, hyi, rfl⟩ := stepE_eq.1 h1
  obtain ⟨yj, hyj, rfl⟩ := stepE_eq.1 h2
  have lj : ∀ t ∈ oj.looksAt ops, F.get t = (put N F oi.dst yi).get t := fun t ht => (put_get t fun e => a1 t e ht).symm
  have li : ∀ t ∈ oi.looksAt ops, F.get t = (put N F oj.dst yj).get t := fun t ht => (put_get t fun e => a3 t e ht).symm
  have hj : stepV P callf ops.toList oj F Xi = some (yj, Xij) := by rw [← hyj]; exact stepV_look lj
  have hi' : ∀ X1 X2, stepV P callf ops.toList oi F X1 = some (yi, X2) → stepV P callf ops.toList oi (put N F oj.dst yj) X1 = some (yi, X2) := fun X1 X2 h => by
    rw [← h]; exact (stepV_look li).symm
  have rj : ∀ X1, addrOf ops.toList oj F X1 = addrOf ops.toList oj (put N F oi.dst yi) X1 := fun X1 => addrOf_look lj
  have ri : ∀ X1, addrOf ops.toList oi F X1 = addrOf ops.toList oi (put N F oj.dst yj) X1 := fun X1 => addrOf_look li
  have hfr := put_comm (N := N) (F := F) (y := yi) (z := yj) a2
  have ki := stepV_keeps hc hyi
  have kj := stepV_keeps hc hj
  have oi0 := ki.orc ho
  have oj0 := kj.orc oi0
  simp only [compat, Bool.or_eq_true, Bool.and_eq_true] at hco
  rcases hco with ((hp | hp) | ⟨hr1, hr2⟩) | ⟨⟨hr1, hb2⟩, hn⟩
  · obtain ⟨rfl, hind⟩ := stepV_pure hp ho hyi
    obtain ⟨nb, nr⟩ := pure_cases hp
    exact ⟨_, Xij, _, ⟨oj, hoj, stepE_eq.2 ⟨yj, hj, rfl⟩, b2, fun h => by rw [rj]; exact r2 h⟩, oj0,
      ⟨oi, hoi, stepE_eq.2 ⟨yi, hi' _ _ (hind Xij kj.ng), rfl⟩, fun h => (by rw [nb] at h; cases h), fun h => (by rw [nr] at h; cases h)⟩, hfr⟩
  · obtain ⟨rfl, hind⟩ := stepV_pure hp oi0 hj
    obtain ⟨nb, nr⟩ := pure_cases hp
    exact ⟨_, X, _, ⟨oj, hoj, stepE_eq.2 ⟨yj, hind X ki.ng.symm, rfl⟩, fun h => (by rw [nb] at h; cases h), fun h => (by rw [nr] at h; cases h)⟩, ho,
      ⟨oi, hoi, stepE_eq.2 ⟨yi, hi' _ _ hyi, rfl⟩, b1, fun h => by rw [← ri]; exact r1 h⟩, hfr⟩
  · obtain ⟨e1, _⟩ := stepV_read hr1 ho hyi
    subst e1
    obtain ⟨e2, _⟩ := stepV_read hr2 ho hj
    subst e2
    exact ⟨_, _, _, ⟨oj, hoj, stepE_eq.2 ⟨yj, hj, rfl⟩, b2, fun h => by rw [rj]; exact r2 h⟩, ho,
      ⟨oi, hoi, stepE_eq.2 ⟨yi, hi' _ _ hyi, rfl⟩, b1, fun h => by rw [← ri]; exact r1 h⟩, hfr⟩
  · obtain ⟨e1, hind⟩ := stepV_read hr1 ho hyi
    subst e1
    have nb := read_cases hr1
    obtain ⟨p1, p2⟩ := b2 hb2
    refine ⟨_, Xij, _, ⟨oj, hoj, stepE_eq.2 ⟨yj, hj, rfl⟩, b2, fun h => by rw [rj]; exact r2 h⟩, oj0,
      ⟨oi, hoi, stepE_eq.2 ⟨yi, hi' _ _ (hind Xij kj.ng fun k hk => ?_), rfl⟩, fun h => (by rw [nb] at h; cases h), fun h => by rw [← ri, addrOf_X ho oj0 kj.ng]; exact r1 h⟩, hfr⟩
    have := hsv hb2 hn k (by rw [← r1 hr1]; exact hk)
    rw [← p1, ← p2] at this
    exact sameVer_spec kj this
end
end Go.Xe
