/- A part of an evaluator for the code. -/
import Derived.Test.YtoglpmfmnknlaaaGreatDoorXeU
namespace Go.Xe
section
variable {P : Program} {B : Nat} {w0 w : World} {X : XW} {E : Env}

def OpGood (P : Program) (B : Nat) (w0 : World) (E : Env) (w : World) (s : Sem Next) (y : SV) (X' : XW) : Prop :=
  ∃ E' v w', Le E E' ∧ (s.run P w = .ok (.value v) w' ∨ (s.run P w = .ok .skip w' ∧ v = undef)) ∧ Den E' y v ∧ Emb P B w0 X' E' w'

theorem Good.op {s : Sem Value} {y : SV} {X' : XW} (h : Good P B w0 E w s y X') : OpGood P B w0 E w (do Pure.pure (.value (← s))) y X' := by
  obtain ⟨E', v, w', h1, h2, h3, h4⟩ := h
  exact ⟨E', v, w', h1, .inl (by simp [h2]), h3, h4⟩

theorem Yes.op {s : Sem Value} {y : SV} (hE : Emb P B w0 X E w) (h : Yes P E w s y) : OpGood P B w0 E w (do Pure.pure (.value (← s))) y X := by
  obtain ⟨v, h2, h3⟩ := h
  exact ⟨E, v, w, Le.refl _, .inl (by simp [h2]), h3, hE⟩

theorem withX_some {o : Option SV} {y : SV} {X X' : XW} (h : withX X o = some (y, X')) : o = some y ∧ X = X' := by
  unfold withX at h
  split at h <;> simp at h
  obtain ⟨rfl, rfl⟩ := h
  exact ⟨rfl, rfl⟩

theorem denL1 {a : SV} {l : List Value} (h : DenL E [a] l) : ∃ u, l = [u] ∧ Den E a u := by
  obtain ⟨u, us, h1, h2, e⟩ := h; cases h2; exact ⟨u, e, h1⟩
theorem denL2 {a b : SV} {l : List Value} (h : DenL E [a, b] l) : ∃ u v, l = [u, v] ∧ Den E a u ∧ Den E b v := by
  obtain ⟨u, us, h1, h2, e⟩ := h; obtain ⟨v, rfl, h3⟩ := denL1 h2; exact ⟨u, v, e, h1, h3⟩
theorem denL3 {a b c : SV} {l : List Value} (h : DenL E [a, b, c] l) : ∃ u v x, l = [u, v, x] ∧ Den E a u ∧ Den E b v ∧ Den E c x := by
  obtain ⟨u, us, h1, h2, e⟩ := h; obtain ⟨v, x, rfl, h3⟩ := denL2 h2; exact ⟨u, v, x, e, h1, h3⟩

inductive Turned (X : XW) : XW → Prop
  | same : Turned X X
  | new (o : Ob) : Turned X (X.new o).2
  | set (k : Nat) (o o' : Ob) : X.objs.get k = some o → o.ver < o'.ver → Turned X { X with objs := X.objs.put k o' }
  | name (k : Nat) (o : Ob) : Turned X { X with next := X.next + 1, objs := (X.objs.del k).put X.next o }

theorem Turned.pc {X X' : XW} (h : Turned X X') : X'.pc = X.pc := by cases h <;> rfl
theorem Turned.dfs {X X' : XW} (h : Turned X X') : X'.dfs = X.dfs := by cases h <;> rfl

theorem loose_turned {ty esz : Nat} {cells : List SV} {X : XW} : Turned X (newLoose X ty esz cells).2 := by
  unfold newLoose; rw [force_eq]; exact .new _

theorem convX_turned {s d : TypeId} {x y : SV} {X X' : XW} (h : convX P s d x X = some (y, X')) : Turned X X' := by
  unfold convX at h
  split at h
  · generalize (isU8 P _ && _) = b at h
    cases b <;> simp only [cond_true, cond_false, Option.some.injEq, Prod.mk.injEq, reduceCtorEq] at h
    obtain ⟨_, rfl⟩ := h
    exact loose_turned
  · generalize (isU8 P _ && _) = b at h
    cases b <;> simp only [cond_true, cond_false, reduceCtorEq] at h
    split at h <;> try (cases h; done)
    rename_i o _
    cases ho : o.ro <;> simp only [ho, cond_true, cond_false, Option.some.injEq, Prod.mk.injEq, reduceCtorEq] at h
    obtain ⟨_, rfl⟩ := h
    exact .same
  · generalize isU8 P _ = b at h
    cases b <;> simp only [cond_true, cond_false, Option.some.injEq, Prod.mk.injEq, reduceCtorEq] at h
    obtain ⟨_, rfl⟩ := h
    exact .same
  · generalize isU8 P _ = b at h
    cases b <;> simp only [cond_true, cond_false, reduceCtorEq] at h
    split at h <;> try (cases h; done)
    split at h <;> try (cases h; done)
    split at h <;> try (cases h; done)
    cases h
    exact .same
  · cases h

theorem appIn_turned {k off len lo need sz : Nat} {cap : Option Nat} {o : Ob} {ny : List SV} {y : SV} {X X' : XW} (ho : X.objs.get k = some o) (h : appIn k off len cap lo need sz o ny X = some (y, X')) : Turned X X' := by
  unfold appIn at h
  generalize (Nat.ble _ _ && _) = b at h
  cases b <;> simp only [cond_true, cond_false, Option.some.injEq, Prod.mk.injEq, reduceCtorEq] at h
  obtain ⟨_, rfl⟩ := h
  exact .set k o _ ho (Nat.lt_succ_self _)

theorem appNew_turned {e sz b need : Nat} {cells : List SV} {y : SV} {X X' : XW} (h : appNew e sz b need cells X = some (y, X')) : Turned X X' := by
  unfold appNew at h
  generalize (Nat.ble _ _ && _) = b at h
  cases b <;> simp only [cond_true, cond_false, Option.some.injEq, Prod.mk.injEq, reduceCtorEq] at h
  obtain ⟨_, rfl⟩ := h
  exact loose_turned

theorem appOn_turned {k len need sz b : Nat} {o : Ob} {ny : List SV} {y : SV} {X X' : XW} (h : appOn k len need sz b o ny X = some (y, X')) : Turned X X' := by
  unfold appOn at h
  generalize (Nat.ble _ _ && (_ && _)) = c at h
  cases c <;> simp only [cond_true, cond_false, force_eq, Option.some.injEq, Prod.mk.injEq, reduceCtorEq] at h
  obtain ⟨_, rfl⟩ := h
  exact .name k _

theorem append_turned {t : TypeId} {s x y : SV} {X X' : XW} (h : semAppend P t s x X = some (y, X')) : Turned X X' := by
  unfold semAppend at h
  split at h <;> try (cases h; done)
  split at h <;> try (cases h; done)
  split at h <;> try (cases h; done)
  generalize (Nat.ble _ _ && (_ && (_ && _))) = c at h
  cases c <;> simp only [cond_true, cond_false, reduceCtorEq] at h
  split at h
  · rename_i a c
    generalize (Nat.beq a 0 && _) = b1 at h
    cases b1 <;> simp only [cond_true, cond_false, reduceCtorEq] at h
    rename_i n _ _ _ _
    generalize Nat.beq _ 0 = b2 at h
    cases b2 <;> simp only [cond_true, cond_false, Option.some.injEq, Prod.mk.injEq] at h
    · exact appNew_turned h
    · obtain ⟨_, rfl⟩ := h; exact .same
  · unfold appTo at h
    split at h <;> try (cases h; done)
    rename_i o ho
    rw [force_eq] at h
    split at h
    · generalize Nat.ble _ _ = b1 at h
      cases b1 <;> simp only [cond_true, cond_false] at h
      · split at h <;> try (cases h; done)
        exact appNew_turned h
      · exact appIn_turned ho h
    · generalize (Nat.beq _ _ && (_ && (_ && (_ && (_ && _))))) = b1 at h
      cases b1 <;> simp only [cond_true, cond_false, reduceCtorEq] at h
      generalize Nat.ble _ _ = b2 at h
      cases b2 <;> simp only [cond_true, cond_false] at h
      · exact appOn_turned h
      · exact appIn_turned ho h
  · generalize Nat.beq _ 0 = b1 at h
    cases b1 <;> simp only [cond_true, cond_false, reduceCtorEq] at h
    cases h; exact .same
  · cases h

theorem copy_turned {t : TypeId} {s x y : SV} {X X' : XW} (h : semCopy P t s x X = some (y, X')) : Turned X X' := by
  unfold semCopy at h
  split at h <;> try (cases h; done)
  split at h <;> try (cases h; done)
  split at h <;> try (cases h; done)
  generalize (Nat.beq _ _ && _) = c at h
  cases c <;> simp only [cond_true, cond_false, reduceCtorEq] at h
  split at h
  · generalize Nat.beq _ _ = b1 at h
    cases b1 <;> simp only [cond_true, cond_false, Option.some.injEq, Prod.mk.injEq, reduceCtorEq] at h
    obtain ⟨_, rfl⟩ := h; exact .same
  · split at h <;> try (cases h; done)
    rename_i o ho
    rw [force_eq] at h
    generalize (Nat.ble _ _ && _) = b1 at h
    cases b1 <;> simp only [cond_true, cond_false, Option.some.injEq, Prod.mk.injEq, reduceCtorEq] at h
    obtain ⟨_, rfl⟩ := h
    exact .set _ o _ ho (Nat.lt_succ_self _)
  · cases h

theorem blt_turned {b : Builtin} {ts : Array TypeId} {vals : List SV} {y : SV} {X X' : XW} (h : bltE P b ts vals X = some (y, X')) : Turned X X' := by
  unfold bltE at h
  split at h
  · split at h <;> try (cases h; done)
    obtain ⟨_, rfl⟩ := withX_some h; exact .same
  · split at h <;> try (cases h; done)
    obtain ⟨_, rfl⟩ := withX_some h; exact .same
  · obtain ⟨_, rfl⟩ := withX_some h; exact .same
  · obtain ⟨_, rfl⟩ := withX_some h; exact .same
  · split at h <;> try (cases h; done)
    split at h <;> try (cases h; done)
    generalize noInt _ = b1 at h
    cases b1 <;> simp only [cond_true, cond_false, reduceCtorEq] at h
    exact append_turned h
  · split at h <;> try (cases h; done)
    exact copy_turned h
  · cases h

theorem range_turned {t : TypeId} {x y : SV} {X X' : XW} (h : semRange P t x X = some (y, X')) : Turned X X' := by
  unfold semRange at h
  split at h <;> cases h
  exact .new _

theorem next_turned {k : Nat} {y : SV} {X X' : XW} (h : semNext k X = some (y, X')) : Turned X X' := by
  unfold semNext at h
  split at h <;> try (cases h; done)
  rename_i o ho
  split at h <;> try (cases h; done)
  generalize Nat.blt _ _ = b at h
  cases b <;> simp only [cond_true, cond_false, force_eq, Option.some.injEq, Prod.mk.injEq] at h
  · obtain ⟨_, rfl⟩ := h; exact .same
  · obtain ⟨_, rfl⟩ := h; exact .set k o _ ho (Nat.lt_succ_self _)

theorem update_turned {t : TypeId} {m k v : SV} {X X' : XW} (h : semUpdate P t m k v X = some X') : Turned X X' := by
  unfold semUpdate at h
  split at h <;> try (cases h; done)
  split at h <;> try (cases h; done)
  rename_i o ho
  split at h <;> try (cases h; done)
  generalize keyNow P _ k = b at h
  cases b <;> simp only [cond_true, cond_false, reduceCtorEq] at h
  split at h
  · cases h; exact .set _ o _ ho (Nat.lt_succ_self _)
  · rw [force_eq] at h; cases h; exact .set _ o _ ho (Nat.lt_succ_self _)
  · cases h

theorem sem_pc {op : Op} {vals : List SV} {X X' : XW} {y : SV} (h : sem P op vals X = some (y, X')) (hp : Pc X') : Pc X := by
  unfold sem at h
  split at h
  case h_3 =>
    unfold semPick at h
    split at h
    · rename_i hb; cases h; exact ((asB_spec hb).1 hp).1
    · rename_i hb; cases h; exact ((asB_spec hb).1 hp).1
    · cases h
  case h_4 => unfold semAlloc newRow XW.new at h; split at h <;> (try simp only [force_eq] at h) <;> cases h; exact hp
  case h_5 =>
    unfold semBox newRow XW.new at h
    rename_i x
    cases hx : x.flat <;> simp only [hx, cond_false, cond_true, force_eq] at h <;> cases h
    exact hp
  case h_7 =>
    unfold semBuildSlice newRow XW.new at h
    split at h <;> try (cases h; done)
    split at h <;> try (cases h; done)
    rename_i s z _ _
    generalize hc : (Nat.ble _ _ && Nat.ble 1 s && _) = b at h
    cases b <;> simp only [cond_true, cond_false, force_eq] at h
    · cases h
    · split at h <;> cases h; exact hp
  case h_9 =>
    split at h <;> cases h
    rename_i X1 hs
    unfold semStore at hs
    split at hs <;> try (cases hs; done)
    rename_i o n _ _
    generalize hc : (Nat.beq _ _ && _ && _ && _) = b at hs
    cases b <;> simp only [cond_true, cond_false] at hs <;> cases hs
    exact hp
  case h_16 =>
    unfold semMake newPat XW.new at h
    split at h <;> try (cases h; done)
    split at h <;> try (cases h; done)
    split at h <;> try (cases h; done)
    rename_i s z b _ _ _
    generalize hc : (Nat.ble _ _ && _ && _ && _ && _) = b at h
    cases b <;> simp only [cond_true, cond_false, force_eq] at h <;> cases h
    exact hp
  all_goals first
    | (cases h; exact hp)
    | (obtain ⟨_, rfl⟩ := withX_some h; exact hp)
    | (cases h; done)
    | (unfold Pc; rw [← (range_turned h).pc]; exact hp)
    | (unfold Pc; rw [← (next_turned h).pc]; exact hp)
    | (split at h <;> cases h; rename_i hu; unfold Pc; rw [← (update_turned hu).pc]; exact hp)
    | (split at h
       · cases h; exact hp
       · unfold Pc; rw [← (convX_turned h).pc]; exact hp)

theorem store_good (hE : Emb P B w0 X E w) {t : TypeId} {k off id c : Nat} {y : SV} {v : Value} {X' : XW} (hk : E k = some (id, c)) (hv' : Den E y v) (hs : semStore P t X k off y = some X') :
    ∃ w', (storeVar t ⟨id, off, none⟩ v).run P w = .ok () w' ∧ Emb P B w0 X' E w' := by
  unfold semStore at hs
  split at hs <;> try (cases hs; done)
  rename_i o n ho hn
  cases h1 : Nat.beq y.cells.length n with
  | false => simp [h1] at hs
  | true =>
  cases h2 : Nat.ble (off + n) o.n with
  | false => simp [h1, h2] at hs
  | true =>
  cases h4 : o.ro with
  | true => simp [h1, h2, h4] at hs
  | false =>
  cases h5 : allOne y.cells with
  | false => simp [h1, h2, h4, h5] at hs
  | true =>
  simp only [h1, h2, h4, h5, Bool.and_self, Bool.not_false, cond_true, Option.some.injEq] at hs
  subst hs
  have h1' := Nat.eq_of_beq_eq_true h1
  have h2' := Nat.le_of_ble_eq_true h2
  have hcl := den_cells hv' (flat_of_allOne h5)
  obtain ⟨w', hr, hE'⟩ := hE.stored (off := off) ho hk h4 hcl h5 (by omega) P
  have hlen := hcl.length
  simp only [Array.length_toList] at hlen
  exact ⟨w', by simp [storeVar, tySize_run hn, hlen, h1', hr], by simpa [h4] using hE'⟩

theorem sem_sound (hE : Emb P B w0 X E w) {o : Oper} {ρ : Operand → Value} {vals : List SV} {y : SV} {X' : XW} (hv : DenL E vals (o.op.operands.toList.map ρ)) (hp : Pc X')
    (h : sem P o.op vals X = some (y, X')) : OpGood P B w0 E w (execOp ρ o) y X' := by
  obtain ⟨dst, op, type, pos, after, guard⟩ := o
  simp only at hv h
  unfold sem at h
  split at h
  · -- move
    obtain ⟨u, e, hu⟩ := denL1 hv
    cases h
    simp [Op.operands] at e; subst e
    exact ⟨E, _, w, Le.refl _, .inl rfl, hu, hE⟩
  · -- assign
    obtain ⟨u, e, hu⟩ := denL1 hv
    cases h
    simp [Op.operands] at e; subst e
    exact ⟨E, _, w, Le.refl _, .inl rfl, hu, hE⟩
  · -- pick
    obtain ⟨u, v, x, e, hu, hv', hx⟩ := denL3 hv
    simp [Op.operands] at e
    obtain ⟨rfl, rfl, rfl⟩ := e
    unfold semPick at h
    split at h
    · rename_i hb; cases h
      obtain ⟨h1, h2, h3, h4⟩ := asB_spec hb
      exact ⟨E, _, w, Le.refl _, .inl (by simp [execOp, (h1 hp).2 _ _ hu, asBool]), hv', hE.same h2 h3 h4⟩
    · rename_i hb; cases h
      obtain ⟨h1, h2, h3, h4⟩ := asB_spec hb
      exact ⟨E, _, w, Le.refl _, .inl (by simp [execOp, (h1 hp).2 _ _ hu, asBool]), hx, hE.same h2 h3 h4⟩
    · cases h
  · -- alloc
    exact (alloc_good hE h).op
  · -- box
    obtain ⟨u, e, hu⟩ := denL1 hv
    simp [Op.operands] at e; subst e
    exact (box_good hE hu h).op
  · -- build
    obtain ⟨h', hXX⟩ := withX_some h; subst hXX
    simp only [Op.operands, List.map_map] at hv
    exact (build_good hE hv h').op
  · -- buildSlice
    simp only [Op.operands, List.map_map] at hv
    exact (buildSlice_good hE hv h).op
  · -- load
    obtain ⟨h', hXX⟩ := withX_some h; subst hXX
    obtain ⟨u, e, id, c, hk, hu⟩ := denL1 hv
    simp [Op.operands] at e; subst e
    obtain ⟨v, hr, hd⟩ := load_good hE h' hk
    exact ⟨E, v, w, Le.refl _, .inl (by simp [execOp, Instr.loadAt, hu, Instr.sureAddr, hr]), hd, hE⟩
  · -- store
    split at h <;> try (cases h; done)
    rename_i X1 hs
    cases h
    obtain ⟨u, v, e, ⟨id, c, hk, hu⟩, hv'⟩ := denL2 hv
    simp [Op.operands] at e
    obtain ⟨rfl, rfl⟩ := e
    obtain ⟨w', hr, hE'⟩ := store_good hE hk hv' hs
    exact ⟨E, undef, w', Le.refl _, .inr ⟨by simp [execOp, Instr.storeAt, hu, Instr.sureAddr, hr], rfl⟩, rfl, hE'⟩
  · -- nilCheck
    obtain ⟨h', hXX⟩ := withX_some h; subst hXX
    obtain ⟨u, e, hu⟩ := denL1 hv
    simp [Op.operands] at e
    obtain ⟨rfl, h1⟩ := nil_yes hu h'
    refine ⟨E, u, w, Le.refl _, .inl ?_, hu, hE⟩
    rcases h1 with ⟨a, rfl⟩ | ⟨f, a, b, rfl⟩ <;> simp [execOp, e]
  · -- binOp
    obtain ⟨h', hXX⟩ := withX_some h; subst hXX
    obtain ⟨u, v, e, hu, hv'⟩ := denL2 hv
    simp [Op.operands] at e
    obtain ⟨rfl, rfl⟩ := e
    exact (bin_yes hu hv' h').op hE
  · -- unOp
    obtain ⟨h', hXX⟩ := withX_some h; subst hXX
    obtain ⟨u, e, hu⟩ := denL1 hv
    simp [Op.operands] at e; subst e
    exact (un_yes hu h').op hE
  · -- convert
    obtain ⟨u, e, hu⟩ := denL1 hv
    simp [Op.operands] at e; subst e
    split at h
    · rename_i z h'
      cases h
      exact (conv_yes hu h').op hE
    · exact (convX_good hE hu h).op
  · -- makeInterface
    obtain ⟨h', hXX⟩ := withX_some h; subst hXX
    obtain ⟨u, e, hu⟩ := denL1 hv
    simp [Op.operands] at e; subst e
    exact (iface_yes hu h').op hE
  · -- makeFunc
    cases h
    rename_i fn a b
    simp only [Op.operands, Array.toList_append, List.map_append] at hv
    have h1 := DenL.take a.size hv
    have h2 := DenL.drop a.size hv
    rw [List.take_left' (by simp)] at h1
    rw [List.drop_left' (by simp)] at h2
    exact ⟨E, .func fn (a.map ρ) (b.map ρ), w, Le.refl _, .inl (by simp [execOp, Instr.makeFunc]), ⟨_, _, h1, h2, by rw [← Array.toList_map, ← Array.toList_map]⟩, hE⟩
  · -- makeSlice
    obtain ⟨u, v, e, hu, hv'⟩ := denL2 hv
    simp [Op.operands] at e
    obtain ⟨rfl, rfl⟩ := e
    exact (make_good hE hu hv' h).op
  · -- fieldAddr
    obtain ⟨h', hXX⟩ := withX_some h; subst hXX
    obtain ⟨u, e, id, c, hk, hu⟩ := denL1 hv
    simp [Op.operands] at e
    have := (fieldAddr_yes (w := w) hk h').op hE
    rw [← hu, ← e] at this
    exact this
  · -- field
    obtain ⟨h', hXX⟩ := withX_some h; subst hXX
    obtain ⟨u, e, vs, hvs, hu⟩ := denL1 hv
    simp [Op.operands] at e
    have := (field_yes (w := w) hvs h').op hE
    rw [← hu, ← e] at this
    exact this
  · -- indexAddr
    obtain ⟨h', hXX⟩ := withX_some h; subst hXX
    obtain ⟨u, v, e, hu, hv'⟩ := denL2 hv
    simp [Op.operands] at e
    obtain ⟨rfl, rfl⟩ := e
    exact (indexAddr_yes hu hv' h').op hE
  · -- index
    obtain ⟨h', hXX⟩ := withX_some h; subst hXX
    obtain ⟨u, v, e, hu, hv'⟩ := denL2 hv
    simp [Op.operands] at e
    obtain ⟨rfl, rfl⟩ := e
    exact (index_yes hu hv' h').op hE
  · -- extract
    obtain ⟨h', hXX⟩ := withX_some h; subst hXX
    obtain ⟨u, e, vs, hvs, hu⟩ := denL1 hv
    simp [Op.operands] at e
    obtain ⟨v, h1, h2⟩ := hvs.get _ _ h'
    exact ⟨E, v, w, Le.refl _, .inl (by simp [execOp, Instr.extract, e, hu, h1]), h2, hE⟩
  · -- range
    obtain ⟨u, e, hu⟩ := denL1 hv
    simp [Op.operands] at e; subst e
    exact (range_good hE hu h).op
  · -- next
    obtain ⟨u, e, hu⟩ := denL1 hv
    simp [Op.operands] at e; subst e
    obtain ⟨id, c, hk, hu'⟩ := hu
    have := (next_good (P := P) (ty := type) hE hk h).op
    rw [← hu'] at this
    exact this
  · -- a slice's array
    obtain ⟨h', hXX⟩ := withX_some h; subst hXX
    obtain ⟨u, e, hu⟩ := denL1 hv
    simp [Op.operands] at e; subst e
    exact (arr_yes hu h').op hE
  · -- makeMap
    cases h
    exact (newMap_good hE).op
  · -- lookup
    obtain ⟨h', hXX⟩ := withX_some h; subst hXX
    obtain ⟨u, v, e, hu, hv'⟩ := denL2 hv
    simp [Op.operands] at e
    obtain ⟨rfl, rfl⟩ := e
    exact (lookup_yes hE hu hv' h').op hE
  · -- mapUpdate
    split at h <;> try (cases h; done)
    rename_i X1 hs
    cases h
    obtain ⟨u, v, x, e, hu, hv', hx⟩ := denL3 hv
    simp [Op.operands] at e
    obtain ⟨rfl, rfl, rfl⟩ := e
    obtain ⟨w', hr, hE'⟩ := update_good hE hu hv' hx hs
    exact ⟨E, undef, w', Le.refl _, .inr ⟨by simp [execOp, hr], rfl⟩, rfl, hE'⟩
  · -- typeAssert
    obtain ⟨h', hXX⟩ := withX_some h; subst hXX
    obtain ⟨u, e, hu⟩ := denL1 hv
    simp [Op.operands] at e; subst e
    exact (assert_yes hu h').op hE
  · -- slices
    obtain ⟨h', hXX⟩ := withX_some h; subst hXX
    obtain ⟨u, e, hu⟩ := denL1 hv
    simp [Op.operands] at e; subst e
    exact (slice_yes (lv := none) (hv := none) hu (fun y h => by cases h) (fun _ => rfl) (fun y h => by cases h) (fun _ => rfl) h').op hE
  · obtain ⟨h', hXX⟩ := withX_some h; subst hXX
    obtain ⟨u, v, e, hu, hv'⟩ := denL2 hv
    simp [Op.operands] at e
    obtain ⟨rfl, rfl⟩ := e
    exact (slice_yes (lv := some _) (hv := none) hu (fun y h => by cases h; exact ⟨_, rfl, hv'⟩) (fun h => by cases h) (fun y h => by cases h) (fun _ => rfl) h').op hE
  · obtain ⟨h', hXX⟩ := withX_some h; subst hXX
    obtain ⟨u, v, e, hu, hv'⟩ := denL2 hv
    simp [Op.operands] at e
    obtain ⟨rfl, rfl⟩ := e
    exact (slice_yes (lv := none) (hv := some _) hu (fun y h => by cases h) (fun _ => rfl) (fun y h => by cases h; exact ⟨_, rfl, hv'⟩) (fun h => by cases h) h').op hE
  · obtain ⟨h', hXX⟩ := withX_some h; subst hXX
    obtain ⟨u, v, x, e, hu, hv', hx⟩ := denL3 hv
    simp [Op.operands] at e
    obtain ⟨rfl, rfl, rfl⟩ := e
    exact (slice_yes (lv := some _) (hv := some _) hu (fun y h => by cases h; exact ⟨_, rfl, hv'⟩) (fun h => by cases h) (fun y h => by cases h; exact ⟨_, rfl, hx⟩) (fun h => by cases h) h').op hE
  · cases h
end
end Go.Xe
