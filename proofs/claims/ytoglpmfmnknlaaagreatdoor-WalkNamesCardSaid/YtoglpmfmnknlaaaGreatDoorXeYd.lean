/- A part of an evaluator for the code. -/
import Derived.Test.YtoglpmfmnknlaaaGreatDoorXeYc
namespace Go.Xe

section
variable {P : Program} {C : YC} {callf : CallF}

def evV (P : Program) (callf : CallF) (op : Op) (vals : List SV) (X : XW) : Option (Out × XW) := match op with
  | .call c => (match c.callee with
    | .builtin b => bif isPanB b then panE vals X else retO (bltE P b c.argTypes vals X)
    | _ => match calE P c vals X with
      | some (f, args) => callf f args X
      | none => none)
  | .panic _ => panE vals X
  | op => retO (sem P op vals X)
theorem evOpO_eq {o : Oper} {F : Tr SV} {X : XW} : evOpO P callf o F X = match looks X.ng F o.op.operands.toList with | none => none | some vals => evV P callf o.op vals X := by
  unfold evOpO
  cases looks X.ng F o.op.operands.toList with
  | none => rfl
  | some vals => simp only []; cases o.op <;> rfl

def LiftOK (C : YC) (callf : CallF) : Prop := ∀ c args h o h', C c args h = some (o, h') → ∀ D, callf c args (h.xd D) = some (o, h'.xd D)

def OpR (P : Program) (callf : CallF) (op : Op) (v : List SV) (h : HW) (out : Out) (h' : HW) : Prop := ∀ D, evV P callf op v (h.xd D) = some (out, h'.xd D)
def After (dr : Bool) (k : SV → HW → Rs) (r : Out × HW) (out : Out) (h' : HW) : Prop := match out with
  | .ret y => k y h' = some r
  | .pan ch => dr = false ∧ r = (.pan ch, h')
def Goes (P : Program) (callf : CallF) (dr : Bool) (op : Op) (v : List SV) (h : HW) (k : SV → HW → Rs) (r : Out × HW) : Prop := ∃ out h', OpR P callf op v h out h' ∧ After dr k r out h'

theorem ob_spec {α : Type} {x : Option α} {k : α → Rs} {r : Out × HW} (e : ob x k = some r) : ∃ y, x = some y ∧ k y = some r := by
  cases x with
  | none => cases e
  | some y => exact ⟨y, rfl, e⟩
theorem b2_spec {x : Option (SV × HW)} {k : SV → HW → Rs} {r : Out × HW} (e : b2 x k = some r) : ∃ y h, x = some (y, h) ∧ k y h = some r := by
  rcases x with _ | ⟨y, h⟩
  · cases e
  · exact ⟨y, h, rfl, e⟩
theorem bcd_spec {dr : Bool} {x : Rs} {k : SV → HW → Rs} {r : Out × HW} (e : bcd dr x k = some r) : ∃ out h, x = some (out, h) ∧ After dr k r out h := by
  rcases x with _ | ⟨out, h⟩
  · cases dr <;> cases e
  · refine ⟨out, h, rfl, ?_⟩
    cases out with
    | ret y => cases dr <;> exact e
    | pan ch =>
      cases dr with
      | true => cases e
      | false => exact ⟨rfl, (Option.some.inj e).symm⟩
theorem on1_spec {v : List SV} {k : SV → Rs} {r : Out × HW} (e : on1 v k = some r) : ∃ a, v = [a] ∧ k a = some r := by
  unfold on1 at e; split at e
  · exact ⟨_, rfl, e⟩
  · cases e
theorem on2_spec {v : List SV} {k : SV → SV → Rs} {r : Out × HW} (e : on2 v k = some r) : ∃ a b, v = [a, b] ∧ k a b = some r := by
  unfold on2 at e; split at e
  · exact ⟨_, _, rfl, e⟩
  · cases e
theorem on3_spec {v : List SV} {k : SV → SV → SV → Rs} {r : Out × HW} (e : on3 v k = some r) : ∃ a b c, v = [a, b, c] ∧ k a b c = some r := by
  unfold on3 at e; split at e
  · exact ⟨_, _, _, rfl, e⟩
  · cases e

variable {dr : Bool} {op : Op} {v : List SV} {h : HW} {k : SV → HW → Rs} {r : Out × HW}
theorem goP {x : Option SV} (hs : ∀ X, evV P callf op v X = retO (withX X x)) (e : ob x (fun y => k y h) = some r) : Goes P callf dr op v h k r := by
  obtain ⟨y, rfl, e⟩ := ob_spec e
  exact ⟨.ret y, h, fun D => by rw [hs]; rfl, e⟩
theorem goC {f : XW → Option (SV × XW)} (hf : Cm f) (hs : ∀ X, evV P callf op v X = retO (f X)) (e : b2 (hx (f h.x0)) k = some r) : Goes P callf dr op v h k r := by
  obtain ⟨y, g, h1, e⟩ := b2_spec e
  exact ⟨.ret y, g, fun D => by rw [hs]; unfold HW.xd; rw [hf h y g h1]; rfl, e⟩
theorem goR {f : HW → Option SV} (hs : ∀ D, evV P callf op v (h.xd D) = retO (withX (h.xd D) (f h))) (e : ob (f h) (fun y => k y h) = some r) : Goes P callf dr op v h k r := by
  obtain ⟨y, h1, e⟩ := ob_spec e
  exact ⟨.ret y, h, fun D => by rw [hs, h1]; rfl, e⟩

theorem bin_eq (op : BinOp) (t : TypeId) (x y : SV) : bin P op t x y = binE P op t x y := by
  cases x <;> try rfl
  cases y <;> try rfl
  show (kAr op).run _ _ _ _ = _
  rw [kAr_eq]; rfl

theorem load_x {t : TypeId} {b : Bool} {n : Nat} (ha : tyAgg P t = some b) (hn : tySize P t = some n) {x : Operand} (a : SV) (h : HW) (D : List SD) :
    evV P callf (.load t x) [a] (h.xd D) = retO (withX (h.xd D) (bif b then ldN n a h else ld1 a h)) := by
  cases a <;> try (cases b <;> rfl)
  rename_i j off
  show retO (withX _ (semLoad P t (h.xd D) j off)) = _
  unfold semLoad
  rw [ha, hn]
  simp only [HW.xd_objs]
  cases b with
  | true =>
    simp only [cond_true, ldN, ldNP]
    cases h.objs.get j with
    | none => rfl
    | some o => simp only []; rfl
  | false =>
    simp only [cond_false, ld1, ld1P]
    cases h.objs.get j <;> rfl

theorem st_x {n j off : Nat} {y : SV} {h g : HW} {t : TypeId} (hn : tySize P t = some n) (e : stP n j off y h = some g) (D : List SD) : semStore P t (h.xd D) j off y = some (g.xd D) := by
  unfold stP at e
  unfold semStore
  rw [hn]
  simp only [HW.xd_objs]
  cases ho : h.objs.get j with
  | none => simp [ho] at e
  | some o =>
    simp only [ho, stO] at e ⊢
    cases hc : (Nat.beq y.cells.length n && Nat.ble (off + n) o.n && !o.ro && allOne y.cells) with
    | false => simp [hc] at e
    | true =>
      simp only [hc, cond_true, Option.some.injEq, obSet_eq] at e ⊢
      subst e
      obtain ⟨ng, next, ⟨tr, base⟩⟩ := h
      rfl

theorem panE_x {vals : List SV} {h : HW} {r : Out × HW} {dr : Bool} (e : yPan dr vals h = some r) : dr = false ∧ ∃ ch, r = (.pan ch, h) ∧ ∀ X, panE vals X = some (.pan ch, X) := by
  unfold yPan at e
  split at e
  · simp only [Option.some.injEq] at e; subst e; exact ⟨rfl, _, rfl, fun X => rfl⟩
  · cases e

theorem yCall_spec (hC : LiftOK C callf) {c : Call} (e : yCall P dr C c v h k = some r) : Goes P callf dr (.call c) v h k r := by
  unfold yCall at e
  cases hc : c.callee with
  | builtin b =>
    have hev : ∀ X, evV P callf (.call c) v X = bif isPanB b then panE v X else retO (bltE P b c.argTypes v X) := fun X => by simp only [evV, hc]
    simp only [hc] at e
    unfold yBlt at e
    split at e
    · obtain ⟨rfl, ch, rfl, hp⟩ := panE_x e
      exact ⟨.pan ch, h, fun D => by rw [hev]; exact hp _, rfl, rfl⟩
    · obtain ⟨x, hv, e'⟩ := on1_spec e; clear e; subst hv; revert e'; intro e
      split at e
      · rename_i t ht
        refine goP (fun X => ?_) e
        rw [hev]; simp only [isPanB, cond_false, bltE, ht]
      · cases e
    · rename_i h1 h2
      refine goC (cm_blt _ c.argTypes v) (fun X => ?_) e
      rw [hev]
      have : isPanB b = false := by cases b <;> first | rfl | exact absurd rfl h1
      rw [this]; rfl
  | value f =>
    simp only [hc] at e
    split at e <;> try (cases e; done)
    rename_i f args
    unfold cv at e
    split at e
    · rename_i g a b
      obtain ⟨out, h', h1, h2⟩ := bcd_spec e
      exact ⟨out, h', fun D => by simp only [evV, hc, calE]; exact hC _ _ _ _ _ h1 D, h2⟩
    · rename_i j
      obtain ⟨out, h', h1, h2⟩ := bcd_spec e
      exact ⟨out, h', fun D => by simp only [evV, hc, calE]; exact hC _ _ _ _ _ h1 D, h2⟩
    · cases e
  | invoke rc name =>
    simp only [hc] at e
    split at e <;> try (cases e; done)
    rename_i x args
    obtain ⟨out, h', h1, h2⟩ := bcd_spec e
    unfold iv at h1
    split at h1 <;> try (cases h1; done)
    rename_i f rv hm
    exact ⟨out, h', fun D => by simp only [evV, hc, calE]; unfold HW.xd; simp only [meth_x, hm]; exact hC _ _ _ _ _ h1 D, h2⟩

theorem yS_spec (hC : LiftOK C callf) (e : yS P dr C op v h k = some r) : Goes P callf dr op v h k r := by
  unfold yS at e
  split at e
  · obtain ⟨a, hv, e'⟩ := on1_spec e; clear e; subst hv; revert e'; intro e
    exact ⟨.ret a, h, fun D => rfl, e⟩
  · obtain ⟨a, hv, e'⟩ := on1_spec e; clear e; subst hv; revert e'; intro e
    exact ⟨.ret a, h, fun D => rfl, e⟩
  · obtain ⟨c, a, b, hv, e'⟩ := on3_spec e; clear e; subst hv; revert e'; intro e
    obtain ⟨y, h1, e⟩ := ob_spec e
    refine ⟨.ret y, h, fun D => ?_, e⟩
    unfold ypk at h1
    split at h1
    · rename_i t
      cases t <;> (cases h1; rfl)
    · cases h1
  · split at e
    · exact goC (cm_alloc _) (fun X => rfl) e
    · cases e
  · obtain ⟨a, hv, e'⟩ := on1_spec e; clear e; subst hv; revert e'; intro e
    exact goC (cm_box _ _) (fun X => rfl) e
  · exact goP (fun X => rfl) e
  · exact goC (cm_buildSlice _ _ _ _) (fun X => rfl) e
  · obtain ⟨a, hv, e'⟩ := on1_spec e; clear e; subst hv; revert e'; intro e
    split at e
    · rename_i n ha hn
      exact goR (f := fun h => ldN n a h) (fun D => load_x ha hn a h D) e
    · rename_i n ha hn
      exact goR (f := fun h => ld1 a h) (fun D => load_x ha hn a h D) e
    · cases e
  · obtain ⟨a, y, hv, e'⟩ := on2_spec e; clear e; subst hv; revert e'; intro e
    rename_i t _ _
    split at e
    · rename_i n hn
      obtain ⟨g, h1, e2⟩ := ob_spec e
      unfold st at h1
      split at h1 <;> try (cases h1; done)
      rename_i j off
      refine ⟨.ret (.val undef), g, fun D => ?_, e2⟩
      show retO (match semStore P t (h.xd D) j off y with | some X => some (SV.val undef, X) | none => none) = _
      rw [st_x hn h1]; rfl
    · cases e
  · obtain ⟨a, hv, e'⟩ := on1_spec e; clear e; subst hv; revert e'; intro e
    exact goP (fun X => rfl) e
  · obtain ⟨a, b, hv, e'⟩ := on2_spec e; clear e; subst hv; revert e'; intro e
    rw [bin_eq] at e
    exact goP (fun X => rfl) e
  · obtain ⟨a, hv, e'⟩ := on1_spec e; clear e; subst hv; revert e'; intro e
    exact goP (fun X => rfl) e
  · obtain ⟨a, hv, e'⟩ := on1_spec e; clear e; subst hv; revert e'; intro e
    rename_i s d _
    split at e
    · rename_i k1 kd hs hd
      refine goP (fun X => ?_) e
      show retO (match semConv P s d a with | some y => some (y, X) | none => convX P s d a X) = _
      unfold semConv convX
      simp only [hs, hd]
      cases a <;> try rfl
      rename_i x
      cases x <;> rfl
    · refine goC (f := fun X => match semConv P s d a with | some y => some (y, X) | none => convX P s d a X) ?_ (fun X => rfl) (by
        revert e; unfold ycv; cases semConv P s d a <;> exact id)
      cases semConv P s d a with
      | none => exact cm_convX _ _ _
      | some y => exact cm_withX (some y)
  · obtain ⟨a, hv, e'⟩ := on1_spec e; clear e; subst hv; revert e'; intro e
    rename_i t _
    split at e
    · cases e
    · rename_i d hne hd
      refine ⟨.ret (.ifc t a), h, fun D => ?_, e⟩
      show retO (withX _ (semIface P t a)) = _
      unfold semIface
      simp only [hd]
      cases d <;> first | rfl | (exact absurd rfl (hne _))
    · cases e
  · exact ⟨.ret _, h, fun D => rfl, e⟩
  · obtain ⟨a, b, hv, e'⟩ := on2_spec e; clear e; subst hv; revert e'; intro e
    exact goC (cm_make _ _ _) (fun X => rfl) e
  · obtain ⟨a, hv, e'⟩ := on1_spec e; clear e; subst hv; revert e'; intro e
    rename_i s _ f
    split at e
    · rename_i fd hf
      split at e
      · rename_i m hm
        refine goP (fun X => ?_) e
        cases a <;> try rfl
        rename_i j off
        show retO (withX X (semFieldAddr P s f j off)) = _
        simp only [semFieldAddr, hf, hm, fa, force_eq]
      · cases e
    · cases e
  · obtain ⟨a, hv, e'⟩ := on1_spec e; clear e; subst hv; revert e'; intro e
    rename_i s _ f
    split at e
    · rename_i fd hf
      split at e
      · rename_i n ha hn
        refine goP (fun X => ?_) e
        cases a <;> try rfl
        rename_i cs
        show retO (withX X (semField P s f cs)) = _
        simp only [semField, hf, partE, ha, hn, fdN]
      · rename_i n ha hn
        refine goP (fun X => ?_) e
        cases a <;> try rfl
        rename_i cs
        show retO (withX X (semField P s f cs)) = _
        simp only [semField, hf, partE, ha, hn, fd1]
      · cases e
    · cases e
  · obtain ⟨a, i, hv, e'⟩ := on2_spec e; clear e; subst hv; revert e'; intro e
    rename_i t _ _
    split at e
    · rename_i n el hu
      split at e
      · rename_i s hs
        refine goP (fun X => ?_) e
        show retO (withX X (semIndexAddr P t a i)) = _
        unfold semIndexAddr ixA
        cases natOf i with
        | none => rfl
        | some m =>
          simp only [hu]
          cases a <;> try rfl
          simp only [hs, atA, force_eq]
      · cases e
    · rename_i el hu
      split at e
      · rename_i s hs
        refine goP (fun X => ?_) e
        show retO (withX X (semIndexAddr P t a i)) = _
        unfold semIndexAddr ixS
        cases natOf i with
        | none => rfl
        | some m =>
          simp only [hu]
          cases a <;> try rfl
          simp only [hs, atA, force_eq]
      · cases e
    · cases e
  · obtain ⟨a, i, hv, e'⟩ := on2_spec e; clear e; subst hv; revert e'; intro e
    exact goP (fun X => rfl) e
  · obtain ⟨a, hv, e'⟩ := on1_spec e; clear e; subst hv; revert e'; intro e
    refine goP (fun X => ?_) e
    cases a <;> rfl
  · obtain ⟨a, hv, e'⟩ := on1_spec e; clear e; subst hv; revert e'; intro e
    exact goC (cm_range _ _) (fun X => rfl) e
  · obtain ⟨a, hv, e'⟩ := on1_spec e; clear e; subst hv; revert e'; intro e
    obtain ⟨y, g, h1, e2⟩ := b2_spec e
    unfold ynx at h1
    split at h1
    · rename_i j
      exact ⟨.ret y, g, fun D => by
        show retO (semNext j (h.xd D)) = _
        unfold HW.xd; rw [cm_next j h y g h1]; rfl, e2⟩
    · cases h1
  · obtain ⟨a, hv, e'⟩ := on1_spec e; clear e; subst hv; revert e'; intro e
    refine goP (fun X => ?_) e
    cases a <;> rfl
  · split at e
    · exact ⟨.ret _, _, fun D => rfl, e⟩
    · cases e
  · obtain ⟨m, q, hv, e'⟩ := on2_spec e; clear e; subst hv; revert e'; intro e
    rename_i t _ _ ok
    exact goR (f := fun h => ylk P t ok m q h) (fun D => rfl) e
  · obtain ⟨m, q, x, hv, e'⟩ := on3_spec e; clear e; subst hv; revert e'; intro e
    rename_i t _ _ _
    obtain ⟨g, h1, e⟩ := ob_spec e
    refine ⟨.ret (.val undef), g, fun D => ?_, e⟩
    show retO (match semUpdate P t m q x (h.xd D) with | some X => some (SV.val undef, X) | none => none) = _
    unfold HW.xd; rw [cs_update t m q x h g h1]; rfl
  · obtain ⟨x, hv, e'⟩ := on1_spec e; clear e; subst hv; revert e'; intro e
    exact goP (fun X => rfl) e
  · obtain ⟨x, hv, e'⟩ := on1_spec e; clear e; subst hv; revert e'; intro e
    exact goP (fun X => rfl) e
  · obtain ⟨x, l, hv, e'⟩ := on2_spec e; clear e; subst hv; revert e'; intro e
    exact goP (fun X => rfl) e
  · obtain ⟨x, l, hv, e'⟩ := on2_spec e; clear e; subst hv; revert e'; intro e
    exact goP (fun X => rfl) e
  · obtain ⟨x, l, m, hv, e'⟩ := on3_spec e; clear e; subst hv; revert e'; intro e
    exact goP (fun X => rfl) e
  · exact yCall_spec hC e
  · obtain ⟨rfl, ch, rfl, hp⟩ := panE_x e
    exact ⟨.pan ch, h, fun D => hp _, rfl, rfl⟩
  · cases e
end
end Go.Xe
