/- A part of an evaluator for the code. -/
import Derived.Test.YtoglpmfmnknlaaaGreatDoorXeYg
import Derived.Test.YtoglpmfmnknlaaaGreatDoorXeYm
namespace Go.Xe
noncomputable section

inductive YE (P : Program) where
  | fn (y : YX P)
  | nat (x : XN P)
  | ev (x : XF P)
def YE.e {P : Program} : YE P → XE P
  | .fn y => .fn y.x
  | .nat x => .nat x
  | .ev x => .fn x
structure YEvs where
  call : YC
  dcall : DCallF
def natH (k : NK) (args : List SV) (h : HW) : Rs := match natE k args h.x0 with
  | some y => some (.ret y, h)
  | none => none
def liftC (C : YC) : CallF := fun c args X => match X.orc, X.pc with
  | [], [] => (match C c args X.h with
    | some (o, h) => some (o, h.xd X.dfs)
    | none => none)
  | _, _ => none
def clean (X : XW) : Bool := match X.orc, X.pc, X.dfs with
  | [], [], [] => true
  | _, _, _ => false
def toR (r : Option (Out × XW)) : Rs := match r with
  | some (o, X) => bif clean X then some (o, X.h) else none
  | none => none
section
variable {P : Program}
def evH (ih : YEvs) (xf : XF P) (lf f : Nat) (args : List SV) (h : HW) : Rs := toR (kGo ⟨liftC ih.call, ih.dcall⟩ xf lf f args h.x0)
def runE (ih : YEvs) (lf f : Nat) (args : List SV) (h : HW) (e : Option (YE P)) : Rs := match e with
  | some (.fn y) => bif Nat.beq y.x.f f then y.s ih.call lf args h else none
  | some (.nat x) => bif Nat.beq x.f f then natH x.k args h else none
  | some (.ev x) => bif Nat.beq x.f f then evH ih x lf f args h else none
  | none => none
def runN (ih : YEvs) (lf f : Nat) (args : List SV) (h : HW) (e : Option (YE P)) : Rs := match e with
  | some (.fn y) => bif Nat.beq y.x.f f then y.s ih.call lf args h else none
  | some (.ev x) => bif Nat.beq x.f f then evH ih x lf f args h else none
  | _ => none
def runR (P : Program) (ih : YEvs) (lf k : Nat) (args : List SV) (h : HW) : Rs := match h.objs.get k with
  | some o => (match o.sp with
    | .loop _ _ ord me N F ps a c _ => toR (roundE (kBody P (liftC ih.call) ord me (some k) N lf) k N F ps a c args h.x0)
    | _ => none)
  | none => none
def dOf (ih : YEvs) (xf : XF P) (lf f : Nat) (args : List SV) (u : Mode) (X : XW) : Option (Out × Mode × XW) :=
  bif Nat.beq xf.f f && Nat.ble args.length xf.fn.ntmps then finD P xf.fn X.dfs (evCD P xf.fn.ntmps (kBody P (liftC ih.call) xf.ord xf.f none xf.fn.ntmps lf) (xf.fn.body.getD .skip) (storeN .nil 0 args) { X with dfs := [] } u) else none
def runD (ih : YEvs) (lf f : Nat) (args : List SV) (u : Mode) (X : XW) (e : Option (YE P)) : Option (Out × Mode × XW) := match e with
  | some (.fn y) => dOf ih y.x lf f args u X
  | some (.ev x) => dOf ih x lf f args u X
  | _ => none
def runY (tab : Tr (YE P)) (lf fuel : Nat) : YEvs := Nat.rec (motive := fun _ => YEvs) ⟨fun _ _ _ => none, fun _ _ _ _ => none⟩ (fun _ ih => {
  call := fun c args h => match c with
    | .fn f => runE ih lf f args h (getP (path f) tab)
    | .ent f => runN ih lf f args h (getP (path f) tab)
    | .yld k => runR P ih lf k args h
  dcall := fun f args u X => runD ih lf f args u X (getP (path f) tab) }) fuel

def Tr.map {α β : Type} (g : α → β) : Tr α → Tr β
  | .nil => .nil
  | .node v l r => .node (v.map g) (l.map g) (r.map g)
theorem get_map {α β : Type} (g : α → β) : ∀ (t : Tr α) (i : Nat), (t.map g).get i = (t.get i).map g
  | .nil, i => rfl
  | .node v l r, i => by
    simp only [Tr.map, Tr.get]
    cases Nat.beq i 0 with
    | true => rfl
    | false =>
      simp only [cond_false]
      cases Nat.beq (i % 2) 1 with
      | true => exact get_map g l _
      | false => exact get_map g r _

theorem toR_spec {r : Option (Out × XW)} {o : Out} {h : HW} (e : toR r = some (o, h)) : r = some (o, h.x0) := by
  unfold toR at e
  split at e <;> try (cases e; done)
  rename_i o X
  cases hc : clean X with
  | false => simp [hc] at e
  | true =>
    simp only [hc, cond_true, Option.some.injEq, Prod.mk.injEq] at e
    obtain ⟨rfl, rfl⟩ := e
    obtain ⟨ng, next, objs, orc, pc, dfs⟩ := X
    unfold clean at hc
    split at hc <;> try (cases hc; done)
    rename_i h1 h2 h3
    simp only at h1 h2 h3
    subst h1 h2 h3
    rfl
theorem lift_ext {C : YC} {callf : CallF} (hC : LiftOK C callf) : Ext (liftC C) callf := by
  intro c args X r h
  obtain ⟨ng, next, objs, orc, pc, dfs⟩ := X
  unfold liftC at h
  split at h <;> try (cases h; done)
  rename_i h1 h2
  simp only at h1 h2
  subst h1 h2
  split at h <;> try (cases h; done)
  rename_i o h' he
  cases h
  exact hC _ _ _ _ _ he dfs
theorem goE_D {e : Evs} {xf : XF P} {lf f : Nat} {args : List SV} {h h' : HW} {o : Out} (he : goE e xf lf f args h.x0 = some (o, h'.x0)) (D : List SD) : goE e xf lf f args (h.xd D) = some (o, h'.xd D) := by
  unfold goE at he ⊢
  cases hb : (Nat.beq xf.f f && Nat.ble args.length xf.fn.ntmps) with
  | false => simp [hb] at he
  | true =>
    simp only [hb, cond_true] at he ⊢
    have e1 : ({ h.xd D with dfs := [] } : XW) = { h.x0 with dfs := [] } := rfl
    rw [e1]
    generalize finE P e.dcall xf.fn (bodyE xf e.call lf (xf.fn.body.getD .skip) (storeN .nil 0 args) { h.x0 with dfs := [] }) = r at he ⊢
    rcases r with _ | ⟨o1, X1⟩
    · cases he
    · simp only [withD, Option.some.injEq, Prod.mk.injEq] at he ⊢
      obtain ⟨rfl, h2⟩ := he
      refine ⟨rfl, ?_⟩
      obtain ⟨ng, next, objs, orc, pc, dfs⟩ := X1
      obtain ⟨ng', next', objs'⟩ := h'
      simp only [HW.x0, HW.x, XW.mk.injEq] at h2
      obtain ⟨rfl, rfl, rfl, rfl, rfl, _⟩ := h2
      rfl
theorem round_D {ev : Code → Tr SV → XW → R} {k N : Nat} {F : Tr SV} {ps : Array Tmp} {a c : Code} {args : List SV} {h h' : HW} {o : Out} (he : roundE ev k N F ps a c args h.x0 = some (o, h'.x0)) (D : List SD) : roundE ev k N F ps a c args (h.xd D) = some (o, h'.xd D) := by
  have fin : ∀ {X : XW} {st : LoopState} {p : Jump} {b : Bool}, endRound [] X k st p b = some (o, h'.x0) → endRound D X k st p b = some (o, h'.xd D) := by
    intro X st p b h1
    unfold endRound at h1 ⊢
    split at h1 <;> try (cases h1; done)
    rename_i X2 h2
    simp only [Option.some.injEq, Prod.mk.injEq] at h1 ⊢
    obtain ⟨rfl, h1⟩ := h1
    refine ⟨rfl, ?_⟩
    obtain ⟨ng, next, objs, orc, pc, dfs⟩ := X2
    obtain ⟨ng', next', objs'⟩ := h'
    simp only [HW.x0, HW.x, XW.mk.injEq] at h1
    obtain ⟨rfl, rfl, rfl, rfl, rfl, _⟩ := h1
    rfl
  unfold roundE at he ⊢
  cases hb : Nat.beq args.length ps.size with
  | false => simp [hb] at he
  | true =>
    simp only [hb, cond_true] at he ⊢
    have e1 : ({ h.xd D with dfs := [] } : XW) = { h.x0 with dfs := [] } := rfl
    rw [e1]
    split at he <;> try (cases he; done)
    rename_i F1 X1 h1
    simp only [h1]
    split at he <;> try (cases he; done)
    rename_i ob ho
    try simp only [ho]
    cases hr : isReady ob with
    | false => simp [hr] at he
    | true =>
      simp only [hr, cond_true] at he ⊢
      split at he <;> try (cases he; done)
      rename_i X2 h2
      try simp only [h2]
      split at he <;> first | (cases he; done) | (rename_i h3; (try simp only [h3]); exact fin he)

theorem runY_ok (tab : Tr (YE P)) (lf : Nat) : ∀ fuel, LiftOK (runY tab lf fuel).call (evF P (tab.map YE.e) lf fuel).call ∧ DExt (runY tab lf fuel).dcall (evF P (tab.map YE.e) lf fuel).dcall
  | 0 => ⟨fun c args h o h' e => (by cases e), fun _ _ _ _ _ h => (by cases h)⟩
  | fuel + 1 => by
    obtain ⟨ih, ihd⟩ := runY_ok tab lf fuel
    have hgo : ∀ (y : YX P) f args h o h', Nat.beq y.x.f f = true → y.s (runY tab lf fuel).call lf args h = some (o, h') → ∀ D, goE (evF P (tab.map YE.e) lf fuel) y.x lf f args (h.xd D) = some (o, h'.xd D) := by
      intro y f args h o h' hf hs D
      obtain ⟨h1, h2⟩ := y.eq _ _ _ _ _ hs
      have hf := Nat.eq_of_beq_eq_true hf
      subst hf
      exact yFn_spec ih y.x h1 h2 D
    have hev : ∀ (x : XF P) f args h o h', evH (runY tab lf fuel) x lf f args h = some (o, h') → ∀ D, goE (evF P (tab.map YE.e) lf fuel) x lf f args (h.xd D) = some (o, h'.xd D) := by
      intro x f args h o h' hs D
      have h1 := toR_spec hs
      have hk : kGo ⟨liftC (runY tab lf fuel).call, (runY tab lf fuel).dcall⟩ x lf f args h.x0 = goE ⟨liftC (runY tab lf fuel).call, (runY tab lf fuel).dcall⟩ x lf f args h.x0 := by
        unfold kGo goE bodyE
        rw [kBody_eq]
      rw [hk] at h1
      exact goE_D (go_mono (lift_ext ih) ihd h1) D
    have hkb : ∀ ord me rd N, CExt (kBody P (liftC (runY tab lf fuel).call) ord me rd N lf) (evC P (evF P (tab.map YE.e) lf fuel).call ord me rd N lf (jumpE P (evF P (tab.map YE.e) lf fuel).call ord me rd N lf lf)) := by
      intro ord me rd N
      rw [kBody_eq]
      exact evCj_mono (lift_ext ih)
    refine ⟨?_, ?_⟩
    · intro c args h o h' e D
      cases c with
      | fn f =>
        have e' : runE (runY tab lf fuel) lf f args h (getP (path f) tab) = some (o, h') := e
        rw [getP_eq] at e'
        show (match (tab.map YE.e).get f with
          | some (.fn xf) => goE (evF P (tab.map YE.e) lf fuel) xf lf f args (h.xd D)
          | some (.nat xn) => bif Nat.beq xn.f f then (match natE xn.k args (h.xd D) with | some y => some (.ret y, (h.xd D)) | none => none) else none
          | none => none) = _
        rw [get_map]
        cases ht : tab.get f with
        | none => rw [ht] at e'; cases e'
        | some t =>
          rw [ht] at e'
          cases t with
          | fn y =>
            simp only [runE] at e'
            cases hb : Nat.beq y.x.f f with
            | false => simp [hb] at e'
            | true => simp only [hb, cond_true] at e'; exact hgo y f _ _ _ _ hb e' D
          | ev x =>
            simp only [runE] at e'
            cases hb : Nat.beq x.f f with
            | false => simp [hb] at e'
            | true => simp only [hb, cond_true] at e'; exact hev x f _ _ _ _ e' D
          | nat x =>
            simp only [runE] at e'
            cases hb : Nat.beq x.f f with
            | false => simp [hb] at e'
            | true =>
              simp only [hb, cond_true, natH] at e'
              have hn : natE x.k args (h.xd D) = natE x.k args h.x0 := rfl
              simp only [Option.map_some, YE.e, hb, cond_true, hn]
              cases hx : natE x.k args h.x0 with
              | none => simp [hx] at e'
              | some z => simp only [hx, Option.some.injEq, Prod.mk.injEq] at e' ⊢; obtain ⟨rfl, rfl⟩ := e'; exact ⟨rfl, rfl⟩
      | ent f =>
        have e' : runN (runY tab lf fuel) lf f args h (getP (path f) tab) = some (o, h') := e
        rw [getP_eq] at e'
        show (match (tab.map YE.e).get f with
          | some (.fn xf) => goE (evF P (tab.map YE.e) lf fuel) xf lf f args (h.xd D)
          | _ => none) = _
        rw [get_map]
        cases ht : tab.get f with
        | none => rw [ht] at e'; cases e'
        | some t =>
          rw [ht] at e'
          cases t with
          | fn y =>
            simp only [runN] at e'
            cases hb : Nat.beq y.x.f f with
            | false => simp [hb] at e'
            | true => simp only [hb, cond_true] at e'; exact hgo y f _ _ _ _ hb e' D
          | ev x =>
            simp only [runN] at e'
            cases hb : Nat.beq x.f f with
            | false => simp [hb] at e'
            | true => simp only [hb, cond_true] at e'; exact hev x f _ _ _ _ e' D
          | nat x => cases e'
      | yld k =>
        have e' : runR P (runY tab lf fuel) lf k args h = some (o, h') := e
        show (match h.objs.get k with
          | some o => match o.sp with
            | .loop _ _ ord me N F ps a c _ => roundE (evC P (evF P (tab.map YE.e) lf fuel).call ord me (some k) N lf (jumpE P (evF P (tab.map YE.e) lf fuel).call ord me (some k) N lf lf)) k N F ps a c args (h.xd D)
            | _ => none
          | none => none) = _
        unfold runR at e'
        split at e' <;> try (cases e'; done)
        rename_i ob ho
        split at e' <;> try (cases e'; done)
        rename_i h1
        (try simp only [ho, h1])
        exact round_D (round_mono (hkb _ _ _ _) (toR_spec e')) D
    · intro f args u X r h
      have e' : runD (runY tab lf fuel) lf f args u X (getP (path f) tab) = some r := h
      rw [getP_eq] at e'
      show (match (tab.map YE.e).get f with
        | some (.fn xf) => bif Nat.beq xf.f f && Nat.ble args.length xf.fn.ntmps then finD P xf.fn X.dfs (evCD P xf.fn.ntmps (bodyE xf (evF P (tab.map YE.e) lf fuel).call lf) (xf.fn.body.getD .skip) (storeN .nil 0 args) { X with dfs := [] } u) else none
        | _ => none) = _
      rw [get_map]
      have hd : ∀ xf : XF P, dOf (runY tab lf fuel) xf lf f args u X = some r → (bif Nat.beq xf.f f && Nat.ble args.length xf.fn.ntmps then finD P xf.fn X.dfs (evCD P xf.fn.ntmps (bodyE xf (evF P (tab.map YE.e) lf fuel).call lf) (xf.fn.body.getD .skip) (storeN .nil 0 args) { X with dfs := [] } u) else none) = some r := by
        intro xf hh
        unfold dOf at hh
        cases hb : (Nat.beq xf.f f && Nat.ble args.length xf.fn.ntmps) with
        | false => simp [hb] at hh
        | true =>
          simp only [hb, cond_true] at hh ⊢
          cases hc : evCD P xf.fn.ntmps (kBody P (liftC (runY tab lf fuel).call) xf.ord xf.f none xf.fn.ntmps lf) (xf.fn.body.getD .skip) (storeN .nil 0 args) { X with dfs := [] } u with
          | none => rw [hc] at hh; cases hh
          | some q =>
            rw [hc] at hh
            have := evCD_mono (hkb xf.ord xf.f none xf.fn.ntmps) _ hc
            unfold bodyE
            rw [this]; exact hh
      cases ht : tab.get f with
      | none => rw [ht] at e'; cases e'
      | some t =>
        rw [ht] at e'
        cases t with
        | fn y => exact hd _ e'
        | ev x => exact hd _ e'
        | nat x => cases e'
end
end
end Go.Xe
