/- A part of an evaluator for the code. -/
import Derived.Test.YtoglpmfmnknlaaaGreatDoorXeYd
namespace Go.Xe

section
variable {P : Program} {C : YC} {callf : CallF} {N : Nat}

def Feq (Ft : Tr SV) (F : Fr) : Prop := ∀ t, Ft.get t = F t
theorem Feq.put {Ft : Tr SV} {F : Fr} (hF : Feq Ft F) (d : Option Tmp) (y : SV) : Feq (put N Ft d y) (putF N F d y) := fun t => by
  cases d with
  | none => exact hF t
  | some d =>
    simp only [Xe.put, putF]
    cases Nat.blt d N with
    | false => exact hF t
    | true =>
      simp only [cond_true]
      rw [get_put]
      cases hb : Nat.beq t d with
      | true => rw [if_pos (Nat.eq_of_beq_eq_true hb)]; rfl
      | false => rw [if_neg (Nat.ne_of_beq_eq_false hb)]; exact hF t

theorem yLook_eq {Ft : Tr SV} {F : Fr} (hF : Feq Ft F) (ng : Nat) (x : Operand) : look ng Ft x = yLook ng F x := by
  cases x with
  | tmp t => exact hF t
  | _ => rfl
theorem yl_spec {ng : Nat} {F : Fr} {x : Operand} {k : SV → Rs} {r : Out × HW} (e : yl ng F x k = some r) : ∃ a, yLook ng F x = some a ∧ k a = some r := by
  cases x with
  | tmp t => exact ob_spec e
  | const v => exact ⟨_, rfl, e⟩
  | func f => exact ⟨_, rfl, e⟩
  | global g =>
    simp only [yl, gl, yLook, glO] at e ⊢
    cases hb : Nat.blt g ng with
    | false => simp [hb] at e
    | true => simp only [hb, cond_true] at e ⊢; exact ⟨_, rfl, e⟩
theorem yLs_spec {ng : Nat} {F : Fr} : ∀ {l : List Operand} {k : List SV → Rs} {r : Out × HW}, yLs ng F l k = some r → ∃ v, (∀ Ft, Feq Ft F → looks ng Ft l = some v) ∧ k v = some r
  | [], k, r, e => ⟨[], fun _ _ => rfl, e⟩
  | x :: xs, k, r, e => by
    obtain ⟨a, h1, e⟩ := yl_spec e
    obtain ⟨v, h2, e⟩ := yLs_spec e
    exact ⟨a :: v, fun Ft hF => by simp only [looks, yLook_eq hF, h1, h2 Ft hF], e⟩

theorem evOp_of {o : Oper} {F : Tr SV} {X X' : XW} {y : SV} (h : evOpO P callf o F X = some (.ret y, X')) : evOp P callf o F X = some (y, X') := by
  unfold evOpO at h
  unfold evOp
  split at h <;> try (cases h; done)
  rename_i vals hv
  try simp only [hv]
  have hp : ∀ vs, panE vs X ≠ some (.ret y, X') := fun vs hh => by unfold panE at hh; split at hh <;> cases hh
  have hr : ∀ z, retO z = some (.ret y, X') → z = some (y, X') := fun z hz => by
    rcases z with _ | ⟨a, b⟩
    · cases hz
    · cases hz; rfl
  split at h
  · rename_i c hc
    simp only [hc]
    unfold evCall
    split at h
    · rename_i b hb
      try simp only [hb]
      cases hpb : isPanB b with
      | true => simp only [hpb, cond_true] at h; exact absurd h (hp _)
      | false => simp only [hpb, cond_false] at h; exact hr _ h
    · rename_i hb
      split at h <;> try (cases h; done)
      rename_i cal args hcal
      try simp only [hcal]
      first
        | (split
           · rename_i b hb'; exact absurd hb' (hb b)
           · simp only [hcal, callV, h])
        | simp only [callV, h]
  · exact absurd h (hp _)
  · rename_i h1 h2
    split
    · rename_i c hc; exact absurd hc (h1 c)
    · exact hr _ h

theorem gd_spec {want : Bool} {x : Option SV} {r0 : Rs} {h h' : HW} {out : Out} (e : gd want x r0 h = some (out, h')) :
    ∃ y, x = some y ∧ (((∀ X, asW X want y = some (false, X)) ∧ out = .ret (.val undef) ∧ h' = h) ∨ ((∀ X, asW X want y = some (true, X)) ∧ r0 = some (out, h'))) := by
  cases x with
  | none => cases e
  | some y =>
    refine ⟨y, rfl, ?_⟩
    simp only [gd] at e
    cases ht : isTup y with
    | true =>
      simp only [ht, cond_true, Option.some.injEq, Prod.mk.injEq] at e
      obtain ⟨rfl, rfl⟩ := e
      exact .inl ⟨fun X => by simp only [asW, ht, cond_true], rfl, rfl⟩
    | false =>
      simp only [ht, cond_false] at e
      split at e
      · rename_i b
        cases hb : (b == want) with
        | true =>
          simp only [hb, cond_true] at e
          exact .inr ⟨fun X => by simp only [asW, ht, cond_false, asB, hb], e⟩
        | false =>
          simp only [hb, cond_false, Option.some.injEq, Prod.mk.injEq] at e
          obtain ⟨rfl, rfl⟩ := e
          exact .inl ⟨fun X => by simp only [asW, ht, cond_false, asB, hb], rfl, rfl⟩
      · cases e

theorem yS_defer {dr : Bool} {op : Op} {v : List SV} {h : HW} {k : SV → HW → Rs} {r : Out × HW} (e : yS P dr C op v h k = some r) : isDefer op = false := by
  cases op <;> first | rfl | cases e

def StepR (P : Program) (callf : CallF) (N : Nat) (ops : List Oper) (o : Oper) (Ft : Tr SV) (h : HW) (out : Out) (h' : HW) : Prop := ∀ D, match out with
  | .ret y => stepO P callf N ops o Ft (h.xd D) = some (none, put N Ft o.dst y, h'.xd D) ∧ stepE P callf N ops o Ft (h.xd D) = some (put N Ft o.dst y, h'.xd D)
  | .pan ch => stepO P callf N ops o Ft (h.xd D) = some (some ch, Ft, h'.xd D)

theorem step_of {ops : List Oper} {o : Oper} {Ft : Tr SV} {h h' : HW} {out : Out} {v : List SV} (hw : ∀ D, wantE ops Ft (h.xd D) o.guard = some (true, h.xd D)) (hd : isDefer o.op = false)
    (hl : looks h.ng Ft o.op.operands.toList = some v) (ho : OpR P callf o.op v h out h') : StepR P callf N ops o Ft h out h' := by
  intro D
  have h1 : evOpO P callf o Ft (h.xd D) = some (out, h'.xd D) := by rw [evOpO_eq, HW.xd_ng, hl]; exact ho D
  cases out with
  | ret y =>
    refine ⟨?_, ?_⟩
    · simp only [stepO, hw, hd, cond_false, h1]
    · simp only [stepE, hw, evOp_of h1]
  | pan ch => simp only [stepO, hw, hd, cond_false, h1]

theorem yOper_spec (hC : LiftOK C callf) {dr : Bool} {ops : List Oper} {o : Oper} {F : Fr} {h : HW} {k : Fr → HW → Rs} {r : Out × HW} (e : yOper P C N dr ops o F h k = some r) :
    ∃ out h', After dr (fun y h => k (putF N F o.dst y) h) r out h' ∧ ∀ Ft, Feq Ft F → StepR P callf N ops o Ft h out h' := by
  unfold yOper at e
  split at e
  · rename_i hg
    obtain ⟨v, h1, e⟩ := yLs_spec e
    have hd := yS_defer e
    obtain ⟨out, h', h2, h3⟩ := yS_spec hC e
    exact ⟨out, h', h3, fun Ft hF => step_of (fun D => by rw [hg]; rfl) hd (h1 Ft hF) h2⟩
  · rename_i j want hg
    split at e <;> try (cases e; done)
    rename_i oj hj
    split at e <;> try (cases e; done)
    rename_i d hdst
    obtain ⟨out, h', h1, h3⟩ := bcd_spec e
    refine ⟨out, h', h3, fun Ft hF => ?_⟩
    obtain ⟨y, hy, h4⟩ := gd_spec h1
    have hwant : ∀ X, wantE ops Ft X o.guard = asW X want y := fun X => by simp only [wantE, hg, hj, hdst, hF d, hy]
    rcases h4 with ⟨hn, rfl, rfl⟩ | ⟨hn, h5⟩
    · intro D
      exact ⟨by simp only [stepO, hwant, hn], by simp only [stepE, hwant, hn]⟩
    · obtain ⟨v, h6, h7⟩ := yLs_spec h5
      have hd := yS_defer h7
      obtain ⟨out2, h8, h9, h10⟩ := yS_spec hC h7
      have he : out2 = out ∧ h8 = h' := by
        cases out2 with
        | ret z => cases h10; exact ⟨rfl, rfl⟩
        | pan ch => obtain ⟨_, h10⟩ := h10; cases h10; exact ⟨rfl, rfl⟩
      obtain ⟨rfl, rfl⟩ := he
      exact step_of (fun D => by rw [hwant, hn]) hd (h6 Ft hF) h9

theorem yOps_spec (hC : LiftOK C callf) {ops : List Oper} : ∀ {l : List Oper} {F : Fr} {h : HW} {k : Fr → HW → Rs} {r : Out × HW}, yOps P C N false ops l F h k = some r →
    (∃ F' h', k F' h' = some r ∧ ∀ Ft, Feq Ft F → ∃ Ft', Feq Ft' F' ∧ ∀ D, evOps P callf N ops l Ft (h.xd D) = some (none, Ft', h'.xd D)) ∨
    (∃ ch h', r = (.pan ch, h') ∧ ∀ Ft, Feq Ft F → ∃ Ft', ∀ D, evOps P callf N ops l Ft (h.xd D) = some (some ch, Ft', h'.xd D))
  | [], F, h, k, r, e => .inl ⟨F, h, e, fun Ft hF => ⟨Ft, hF, fun _ => rfl⟩⟩
  | o :: rest, F, h, k, r, e => by
    obtain ⟨out, h', h1, h2⟩ := yOper_spec hC e
    cases out with
    | ret y =>
      rcases yOps_spec hC h1 with ⟨F', h'', h3, h4⟩ | ⟨ch, h'', rfl, h4⟩
      · refine .inl ⟨F', h'', h3, fun Ft hF => ?_⟩
        obtain ⟨Ft', h5, h6⟩ := h4 _ (hF.put o.dst y)
        exact ⟨Ft', h5, fun D => by simp only [evOps, (h2 Ft hF D).1, h6]⟩
      · refine .inr ⟨ch, h'', rfl, fun Ft hF => ?_⟩
        obtain ⟨Ft', h6⟩ := h4 _ (hF.put o.dst y)
        exact ⟨Ft', fun D => by simp only [evOps, (h2 Ft hF D).1, h6]⟩
    | pan ch =>
      obtain ⟨_, rfl⟩ := h1
      exact .inr ⟨ch, h', rfl, fun Ft hF => ⟨Ft, fun D => by
        have := h2 Ft hF D
        simp only at this
        simp only [evOps, this]⟩⟩

theorem yOpsT_spec (hC : LiftOK C callf) {ops : List Oper} : ∀ {l : List Oper} {i : Nat} {F : Fr} {h : HW} {k : Fr → HW → Rs} {r : Out × HW}, ops.drop i = l → yOps P C N true ops l F h k = some r →
    ∃ F' h', k F' h' = some r ∧ ∀ Ft, Feq Ft F → ∃ Ft', Feq Ft' F' ∧ ∀ D recs, evD P callf N ops [] (List.range' i l.length) recs Ft (h.xd D) = some (Ft', h'.xd D)
  | [], i, F, h, k, r, _, e => ⟨F, h, e, fun Ft hF => ⟨Ft, hF, fun _ _ => rfl⟩⟩
  | o :: rest, i, F, h, k, r, hl, e => by
    obtain ⟨out, h', h1, h2⟩ := yOper_spec hC e
    cases out with
    | pan ch => obtain ⟨h1, _⟩ := h1; cases h1
    | ret y =>
      have hi : ops[i]? = some o := by
        have : (ops.drop i)[0]? = some o := by rw [hl]; rfl
        simpa using this
      have hr : ops.drop (i + 1) = rest := by
        have : (ops.drop i).drop 1 = rest := by rw [hl]; rfl
        rw [List.drop_drop] at this
        exact this
      obtain ⟨F', h'', h3, h4⟩ := yOpsT_spec hC hr h1
      refine ⟨F', h'', h3, fun Ft hF => ?_⟩
      obtain ⟨Ft', h5, h6⟩ := h4 _ (hF.put o.dst y)
      refine ⟨Ft', h5, fun D recs => ?_⟩
      simp only [List.length_cons, List.range'_succ, evD, hi, (h2 Ft hF D).2, chkOf, chkOK, cond_true, h6]

theorem adr_eq {ops : List Oper} {o : Oper} {Ft : Tr SV} {F : Fr} (hF : Feq Ft F) (h : HW) (D : List SD) : addrOf ops o Ft (h.xd D) = yAdr ops o F h.ng := by
  have hx : (match looks h.ng Ft o.op.operands.toList with
      | some [.ptr k _] => some k
      | some [.sl k _ _ _ _] => some k
      | _ => none) = (match o.op.operands.toList with | [x] => adrO (yLook h.ng F x) | _ => none) := by
    generalize o.op.operands.toList = l
    rcases l with _ | ⟨x, _ | ⟨y, l⟩⟩
    · rfl
    · simp only [looks, yLook_eq hF]
      cases yLook h.ng F x with
      | none => rfl
      | some z => cases z <;> rfl
    · simp only [looks]
      cases look h.ng Ft x with
      | none => rfl
      | some a =>
        cases look h.ng Ft y with
        | none => rfl
        | some b => cases looks h.ng Ft l <;> (cases a <;> rfl)
  unfold addrOf yAdr
  cases hg : o.guard with
  | none => simp only [wantE, HW.xd_ng]; exact hx
  | some g =>
    obtain ⟨j, want⟩ := g
    simp only [wantE]
    cases ops[j]? with
    | none => rfl
    | some oj =>
      simp only []
      cases oj.dst with
      | none => rfl
      | some d =>
        simp only [hF d]
        cases F d with
        | none => rfl
        | some y =>
          simp only [gdA, asW]
          cases ht : isTup y with
          | true => rfl
          | false =>
            simp only [cond_false]
            cases y with
            | bool b =>
              simp only [asB]
              cases (b == want) with
              | true => simp only [cond_true, HW.xd_ng]; exact hx
              | false => rfl
            | val v => cases v <;> rfl
            | _ => rfl

theorem chk_eq {recs : List (Nat × Option Nat)} {h h' : HW} {D : List SD} : ∀ ls : List Nat, chkOK recs (h.xd D) (h'.xd D) ls = chkH recs h h' ls
  | [] => rfl
  | l :: ls => by
    simp only [chkOK, chkH, chk_eq ls]
    congr 1
    cases findK recs l with
    | none => rfl
    | some k =>
      simp only [sameVer, sameH, verOf, HW.xd_objs, HW.xd_next]
      cases Nat.blt k h.next with
      | false => rfl
      | true =>
        simp only [cond_true]
        cases h.objs.get k with
        | none => rfl
        | some o => cases h'.objs.get k <;> rfl
theorem ck_spec {b : Bool} {k : Rs} {r : Out × HW} (e : ck b k = some r) : b = true ∧ k = some r := by
  cases b with
  | false => cases e
  | true => exact ⟨rfl, e⟩
theorem yChk_spec {recs : List (Nat × Option Nat)} {h h' : HW} {ls : List Nat} {k : Rs} {r : Out × HW} (e : yChk recs h h' ls k = some r) : chkH recs h h' ls = true ∧ k = some r := by
  unfold yChk at e
  split at e
  · exact ⟨rfl, e⟩
  · exact ck_spec e
theorem rec_eq {ops : List Oper} {i : Nat} {o : Oper} {Ft : Tr SV} {F : Fr} (hF : Feq Ft F) (h : HW) (D : List SD) (recs : List (Nat × Option Nat)) :
    (bif isRead P o.op then (i, addrOf ops o Ft (h.xd D)) :: recs else recs) = recOf P ops i o F h.ng recs := by
  unfold recOf
  rw [adr_eq hF]

theorem yD_spec (hC : LiftOK C callf) {ops : List Oper} {chk : List (Nat × List Nat)} : ∀ {is : List Nat} {recs : List (Nat × Option Nat)} {F : Fr} {h : HW} {k : Fr → HW → Rs} {r : Out × HW}, yD P C N ops chk is recs F h k = some r →
    ∃ F' h', k F' h' = some r ∧ ∀ Ft, Feq Ft F → ∃ Ft', Feq Ft' F' ∧ ∀ D, evD P callf N ops chk is recs Ft (h.xd D) = some (Ft', h'.xd D)
  | [], recs, F, h, k, r, e => ⟨F, h, e, fun Ft hF => ⟨Ft, hF, fun _ => rfl⟩⟩
  | i :: is, recs, F, h, k, r, e => by
    unfold yD at e
    split at e <;> try (cases e; done)
    rename_i o ho
    obtain ⟨out, h', h1, h2⟩ := yOper_spec hC e
    cases out with
    | pan ch => obtain ⟨h1, _⟩ := h1; cases h1
    | ret y =>
      obtain ⟨hc, h1⟩ := yChk_spec h1
      obtain ⟨F', h'', h3, h4⟩ := yD_spec hC h1
      refine ⟨F', h'', h3, fun Ft hF => ?_⟩
      obtain ⟨Ft', h5, h6⟩ := h4 _ (hF.put o.dst y)
      refine ⟨Ft', h5, fun D => ?_⟩
      simp only [evD, ho, (h2 Ft hF D).2, chk_eq, hc, cond_true, rec_eq hF, h6]

theorem yNew_spec {op : Op} {v : List SV} {base i : Nat} {h : HW} {k : SV → HW → Rs} {r : Out × HW} (e : yNew P op v base i h k = some r) :
    ∃ y g, lowL base v = true ∧ k y g = some r ∧ ∀ D, ∃ X', sem P op v { h.xd D with next := base + i } = some (y, X') ∧ { X' with next := h.next } = g.xd D := by
  have key : ∀ (f : XW → Option (SV × XW)), Cm f → ∀ {y g}, ynf (fun h => hx (f h.x0)) base i h = some (y, g) → ∀ D, ∃ X', f { h.xd D with next := base + i } = some (y, X') ∧ { X' with next := h.next } = g.xd D := by
    intro f hf y g he D
    unfold ynf at he
    split at he <;> try (cases he; done)
    rename_i y' h' he'
    cases he
    exact ⟨_, hf ⟨h.ng, base + i, h.objs⟩ y h' he' [] [] D, rfl⟩
  cases op <;> try (cases e; done)
  · simp only [yNew] at e
    split at e
    · obtain ⟨y, g, h1, e⟩ := b2_spec e
      exact ⟨y, g, rfl, e, key _ (cm_alloc _) h1⟩
    · cases e
  · simp only [yNew] at e
    obtain ⟨a, rfl, e⟩ := on1_spec e
    obtain ⟨hl, e⟩ := ck_spec e
    obtain ⟨y, g, h1, e⟩ := b2_spec e
    exact ⟨y, g, by simp only [lowL, hl, Bool.and_true], e, key _ (cm_box _ _) h1⟩
  · simp only [yNew] at e
    obtain ⟨hl, e⟩ := ck_spec e
    obtain ⟨y, g, h1, e⟩ := b2_spec e
    exact ⟨y, g, hl, e, key _ (cm_buildSlice _ _ _ _) h1⟩
  · simp only [yNew] at e
    obtain ⟨a, b, rfl, e⟩ := on2_spec e
    obtain ⟨hl, e⟩ := ck_spec e
    obtain ⟨y, g, h1, e⟩ := b2_spec e
    exact ⟨y, g, by simpa only [lowL, Bool.and_true] using hl, e, key _ (cm_make _ _ _) h1⟩

theorem yLow_spec {ops : List Oper} {base : Nat} {o : Oper} {Ft : Tr SV} {F : Fr} (hF : Feq Ft F) {h : HW} {k : Rs} {r : Out × HW} (e : yLow P ops base o F h.ng k = some r) : k = some r ∧ ∀ D, lowRead P ops base o Ft (h.xd D) = true := by
  unfold yLow at e
  unfold lowRead
  cases hr : isRead P o.op with
  | false => simp only [hr, cond_false] at e ⊢; exact ⟨e, fun _ => trivial⟩
  | true =>
    simp only [hr, cond_true] at e ⊢
    obtain ⟨h1, e⟩ := ck_spec e
    refine ⟨e, fun D => ?_⟩
    rw [adr_eq hF]
    unfold lowA at h1
    exact h1

theorem yNs_spec (hC : LiftOK C callf) {ops : List Oper} {rs : List Nat} {chk : List (Nat × List Nat)} {base : Nat} : ∀ {is : List Nat} {recs : List (Nat × Option Nat)} {F : Fr} {h : HW} {k : Fr → HW → Rs} {r : Out × HW}, yNs P C N ops rs chk base is recs F h k = some r →
    ∃ F' h', k F' h' = some r ∧ ∀ Ft, Feq Ft F → ∃ Ft', Feq Ft' F' ∧ ∀ D, evN P callf N ops rs chk base is recs Ft (h.xd D) = some (Ft', h'.xd D)
  | [], recs, F, h, k, r, e => ⟨F, h, e, fun Ft hF => ⟨Ft, hF, fun _ => rfl⟩⟩
  | i :: is, recs, F, h, k, r, e => by
    unfold yNs at e
    split at e <;> try (cases e; done)
    rename_i o ho
    cases hn : newR rs i o.op with
    | false =>
      simp only [hn, cond_false] at e
      -- the frame is not needed for what comes
      have e' : yOper P C N true ops o F h (fun F' h' => yChk recs h h' (chkOf chk i) (yNs P C N ops rs chk base is (recOf P ops i o F h.ng recs) F' h' k)) = some r := by
        unfold yLow at e
        cases hr : isRead P o.op with
        | false => simp only [hr, cond_false] at e; exact e
        | true => simp only [hr, cond_true] at e; exact (ck_spec e).2
      obtain ⟨out, h', h1, h2⟩ := yOper_spec hC e'
      cases out with
      | pan ch => obtain ⟨h1, _⟩ := h1; cases h1
      | ret y =>
        obtain ⟨hc, h1⟩ := yChk_spec h1
        obtain ⟨F', h'', h3, h4⟩ := yNs_spec hC h1
        refine ⟨F', h'', h3, fun Ft hF => ?_⟩
        obtain ⟨Ft', h5, h6⟩ := h4 _ (hF.put o.dst y)
        refine ⟨Ft', h5, fun D => ?_⟩
        simp only [evN, ho, (yLow_spec hF e).2 D, cond_true, stepN, hn, cond_false, (h2 Ft hF D).2, chk_eq, hc, rec_eq hF, h6]
    | true =>
      simp only [hn, cond_true] at e
      have e' : (match o.guard with
          | some _ => none
          | none => yLs h.ng F o.op.operands.toList fun v => yNew P o.op v base i h fun y h' => yChk recs h h' (chkOf chk i) (yNs P C N ops rs chk base is (recOf P ops i o F h.ng recs) (putF N F o.dst y) h' k)) = some r := by
        unfold yLow at e
        cases hr : isRead P o.op with
        | false => simp only [hr, cond_false] at e; exact e
        | true => simp only [hr, cond_true] at e; exact (ck_spec e).2
      split at e' <;> try (cases e'; done)
      rename_i hg
      obtain ⟨v, hv, e'⟩ := yLs_spec e'
      obtain ⟨y, g, hlow, e', hsem⟩ := yNew_spec e'
      obtain ⟨hc, e'⟩ := yChk_spec e'
      obtain ⟨F', h'', h3, h4⟩ := yNs_spec hC e'
      refine ⟨F', h'', h3, fun Ft hF => ?_⟩
      obtain ⟨Ft', h5, h6⟩ := h4 _ (hF.put o.dst y)
      refine ⟨Ft', h5, fun D => ?_⟩
      obtain ⟨X', hs1, hs2⟩ := hsem D
      have hstep : stepN P callf N ops rs base i o Ft (h.xd D) = some (put N Ft o.dst y, g.xd D) := by
        simp only [stepN, hn, cond_true, hg, HW.xd_ng, hv Ft hF, hlow, force_eq]
        erw [hs1]
        exact congrArg (fun z => some (put N Ft o.dst y, z)) hs2
      simp only [evN, ho, (yLow_spec hF e).2 D, cond_true, hstep, chk_eq, hc, rec_eq hF, h6]
theorem dead_eq {h : HW} {D : List SD} {base : Nat} : ∀ rs : List Nat, allDead (h.xd D) base rs = deadH h base rs
  | [] => rfl
  | k :: ks => by simp only [allDead, deadH, dead_eq ks]; rfl
end
end Go.Xe
