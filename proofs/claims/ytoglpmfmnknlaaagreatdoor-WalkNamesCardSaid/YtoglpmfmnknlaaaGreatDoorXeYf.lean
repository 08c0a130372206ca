/- A part of an evaluator for the code. -/
import Derived.Test.YtoglpmfmnknlaaaGreatDoorXeYe
namespace Go.Xe

section
variable {P : Program} {C : YC} {callf : CallF} {N : Nat}

def PostY (kn kr : Fr → HW → Rs) (ke : Nat → Fr → HW → Rs) (r : Out × HW) (ex : Ex) (F : Fr) (h : HW) : Prop := match ex with
  | .nm => kn F h = some r
  | .ret => kr F h = some r
  | .ex i => ke i F h = some r
  | .pan ch => r = (.pan ch, h)
  | .gt _ => False
def CodeY (ev : Tr SV → XW → R) (F : Fr) (h : HW) (kn kr : Fr → HW → Rs) (ke : Nat → Fr → HW → Rs) (r : Out × HW) : Prop :=
  ∃ ex F' h', PostY kn kr ke r ex F' h' ∧ ∀ Ft, Feq Ft F → ∃ Ft', (Feq Ft' F' ∨ ∃ ch, ex = .pan ch) ∧ ∀ D, ev Ft (h.xd D) = some (ex, Ft', h'.xd D)

theorem loopY {ev : Tr SV → XW → R} {body : Fr → HW → (Fr → HW → Rs) → Rs} {kr : Fr → HW → Rs} {ke : Nat → Fr → HW → Rs} {r : Out × HW} (hb : ∀ F h k, body F h k = some r → CodeY ev F h k kr ke r) :
    ∀ (n : Nat) (F : Fr) (h : HW) (kn : Fr → HW → Rs), yLoop body n F h = some r → CodeY (loopE ev n) F h kn kr ke r
  | 0, F, h, kn, e => by cases e
  | n + 1, F, h, kn, e => by
    have e' : body F h (yLoop body n) = some r := e
    obtain ⟨ex, F', h', h1, h2⟩ := hb _ _ _ e'
    cases ex with
    | nm =>
      obtain ⟨ex, F'', h'', h3, h4⟩ := loopY hb n F' h' kn h1
      refine ⟨ex, F'', h'', h3, fun Ft hF => ?_⟩
      obtain ⟨Ft', h5, h6⟩ := h2 Ft hF
      have h5 : Feq Ft' F' := by
        rcases h5 with h5 | ⟨ch, hh⟩
        · exact h5
        · cases hh
      obtain ⟨Ft'', h7, h8⟩ := h4 Ft' h5
      refine ⟨Ft'', h7, fun D => ?_⟩
      show (match ev Ft (h.xd D) with | some (.nm, F, X) => loopE ev n F X | r => r) = _
      rw [h6]; exact h8 D
    | gt l => exact h1.elim
    | ret =>
      refine ⟨.ret, F', h', h1, fun Ft hF => ?_⟩
      obtain ⟨Ft', h5, h6⟩ := h2 Ft hF
      refine ⟨Ft', h5, fun D => ?_⟩
      show (match ev Ft (h.xd D) with | some (.nm, F, X) => loopE ev n F X | r => r) = _
      rw [h6]
    | ex i =>
      refine ⟨.ex i, F', h', h1, fun Ft hF => ?_⟩
      obtain ⟨Ft', h5, h6⟩ := h2 Ft hF
      refine ⟨Ft', h5, fun D => ?_⟩
      show (match ev Ft (h.xd D) with | some (.nm, F, X) => loopE ev n F X | r => r) = _
      rw [h6]
    | pan ch =>
      refine ⟨.pan ch, F', h', h1, fun Ft hF => ?_⟩
      obtain ⟨Ft', h5, h6⟩ := h2 Ft hF
      refine ⟨Ft', h5, fun D => ?_⟩
      show (match ev Ft (h.xd D) with | some (.nm, F, X) => loopE ev n F X | r => r) = _
      rw [h6]

theorem code_nm {ev : Tr SV → XW → R} {F : Fr} {h : HW} {kn kr : Fr → HW → Rs} {ke : Nat → Fr → HW → Rs} {r : Out × HW} {F' : Fr} {h' : HW} (h1 : kn F' h' = some r)
    (h2 : ∀ Ft, Feq Ft F → ∃ Ft', Feq Ft' F' ∧ ∀ D, ev Ft (h.xd D) = some (.nm, Ft', h'.xd D)) : CodeY ev F h kn kr ke r :=
  ⟨.nm, F', h', h1, fun Ft hF => let ⟨Ft', h3, h4⟩ := h2 Ft hF; ⟨Ft', .inl h3, h4⟩⟩

theorem evY_spec (hC : LiftOK C callf) {ord : Nat → Hint} {me : FuncId} {rd : Option Nat} {lf : Nat} {jump : JumpF} : ∀ (c : Code) {F : Fr} {h : HW} {kn kr : Fr → HW → Rs} {ke : Nat → Fr → HW → Rs} {r : Out × HW},
    evY P C N ord lf c F h kn kr ke = some r → CodeY (evC P callf ord me rd N lf jump c) F h kn kr ke r := by
  intro c
  induction c with
  | skip => intro F h kn kr ke r e; exact code_nm (F' := F) (h' := h) e fun Ft hF => ⟨Ft, hF, fun _ => rfl⟩
  | region id ops d =>
    intro F h kn kr ke r e
    cases d with
    | false =>
      rcases yOps_spec hC e with ⟨F', h', h1, h2⟩ | ⟨ch, h', rfl, h2⟩
      · refine code_nm h1 fun Ft hF => ?_
        obtain ⟨Ft', h3, h4⟩ := h2 Ft hF
        exact ⟨Ft', h3, fun D => by simp only [evC, h4]⟩
      · refine ⟨.pan ch, F, h', rfl, fun Ft hF => ?_⟩
        obtain ⟨Ft', h4⟩ := h2 Ft hF
        exact ⟨Ft', .inr ⟨ch, rfl⟩, fun D => by simp only [evC, h4]⟩
    | true =>
      simp only [evY] at e
      cases ho : ord id with
      | text =>
        simp only [ho] at e
        obtain ⟨F', h', h1, h2⟩ := yOpsT_spec (i := 0) hC rfl e
        refine code_nm h1 fun Ft hF => ?_
        obtain ⟨Ft', h3, h4⟩ := h2 Ft hF
        refine ⟨Ft', h3, fun D => ?_⟩
        have := h4 D []
        rw [Array.length_toList, ← List.range_eq_range'] at this
        simp only [evC, ho]
        erw [this]
        rfl
      | skip => simp only [ho] at e; cases e
      | ord is chk =>
        simp only [ho] at e
        obtain ⟨F', h', h1, h2⟩ := yD_spec hC e
        refine code_nm h1 fun Ft hF => ?_
        obtain ⟨Ft', h3, h4⟩ := h2 Ft hF
        refine ⟨Ft', h3, fun D => ?_⟩
        simp only [evC, ho]
        erw [h4 D]
        rfl
      | news is rs chk =>
        simp only [ho, nwB, force_eq] at e
        obtain ⟨hd, e⟩ := ck_spec e
        obtain ⟨F', h', h1, h2⟩ := yNs_spec hC e
        refine code_nm h1 fun Ft hF => ?_
        obtain ⟨Ft', h3, h4⟩ := h2 Ft hF
        refine ⟨Ft', h3, fun D => ?_⟩
        have h5 := h4 D
        simp only [evC, ho, force_eq, HW.xd_next, dead_eq, hd, cond_true]
        erw [h5]
        rfl
  | seq a b iha ihb =>
    intro F h kn kr ke r e
    obtain ⟨ex, F', h', h1, h2⟩ := iha e
    cases ex with
    | nm =>
      obtain ⟨ex, F'', h'', h3, h4⟩ := ihb h1
      refine ⟨ex, F'', h'', h3, fun Ft hF => ?_⟩
      obtain ⟨Ft', h5, h6⟩ := h2 Ft hF
      have h5 : Feq Ft' F' := by
        rcases h5 with h5 | ⟨ch, hh⟩
        · exact h5
        · cases hh
      obtain ⟨Ft'', h7, h8⟩ := h4 Ft' h5
      exact ⟨Ft'', h7, fun D => by simp only [evC, h6, h8]⟩
    | gt l => exact h1.elim
    | ret =>
      refine ⟨.ret, F', h', h1, fun Ft hF => ?_⟩
      obtain ⟨Ft', h5, h6⟩ := h2 Ft hF
      exact ⟨Ft', h5, fun D => by simp only [evC, h6]⟩
    | ex i =>
      refine ⟨.ex i, F', h', h1, fun Ft hF => ?_⟩
      obtain ⟨Ft', h5, h6⟩ := h2 Ft hF
      exact ⟨Ft', h5, fun D => by simp only [evC, h6]⟩
    | pan ch =>
      refine ⟨.pan ch, F', h', h1, fun Ft hF => ?_⟩
      obtain ⟨Ft', h5, h6⟩ := h2 Ft hF
      exact ⟨Ft', h5, fun D => by simp only [evC, h6]⟩
  | cond c a b iha ihb =>
    intro F h kn kr ke r e
    simp only [evY] at e
    obtain ⟨y, hy, e⟩ := yl_spec e
    unfold yIf at e
    split at e <;> try (cases e; done)
    rename_i t
    cases t with
    | true =>
      obtain ⟨ex, F', h', h1, h2⟩ := iha e
      refine ⟨ex, F', h', h1, fun Ft hF => ?_⟩
      obtain ⟨Ft', h5, h6⟩ := h2 Ft hF
      exact ⟨Ft', h5, fun D => by simp only [evC, HW.xd_ng, yLook_eq hF, hy, asB, h6]⟩
    | false =>
      obtain ⟨ex, F', h', h1, h2⟩ := ihb e
      refine ⟨ex, F', h', h1, fun Ft hF => ?_⟩
      obtain ⟨Ft', h5, h6⟩ := h2 Ft hF
      exact ⟨Ft', h5, fun D => by simp only [evC, HW.xd_ng, yLook_eq hF, hy, asB, h6]⟩
  | block id c ih =>
    intro F h kn kr ke r e
    obtain ⟨ex, F', h', h1, h2⟩ := ih e
    cases ex with
    | ex i =>
      cases hb : Nat.beq i id with
      | true =>
        have h1 : kn F' h' = some r := by simpa only [PostY, hb, cond_true] using h1
        refine ⟨.nm, F', h', h1, fun Ft hF => ?_⟩
        obtain ⟨Ft', h5, h6⟩ := h2 Ft hF
        have h5 : Feq Ft' F' := by
          rcases h5 with h5 | ⟨ch, hh⟩
          · exact h5
          · cases hh
        exact ⟨Ft', .inl h5, fun D => by simp only [evC, h6, hb, cond_true]⟩
      | false =>
        have h1 : ke i F' h' = some r := by simpa only [PostY, hb, cond_false] using h1
        refine ⟨.ex i, F', h', h1, fun Ft hF => ?_⟩
        obtain ⟨Ft', h5, h6⟩ := h2 Ft hF
        exact ⟨Ft', h5, fun D => by simp only [evC, h6, hb, cond_false]⟩
    | gt l => exact h1.elim
    | nm =>
      refine ⟨.nm, F', h', h1, fun Ft hF => ?_⟩
      obtain ⟨Ft', h5, h6⟩ := h2 Ft hF
      exact ⟨Ft', h5, fun D => by simp only [evC, h6]⟩
    | ret =>
      refine ⟨.ret, F', h', h1, fun Ft hF => ?_⟩
      obtain ⟨Ft', h5, h6⟩ := h2 Ft hF
      exact ⟨Ft', h5, fun D => by simp only [evC, h6]⟩
    | pan ch =>
      refine ⟨.pan ch, F', h', h1, fun Ft hF => ?_⟩
      obtain ⟨Ft', h5, h6⟩ := h2 Ft hF
      exact ⟨Ft', h5, fun D => by simp only [evC, h6]⟩
  | loop c ih =>
    intro F h kn kr ke r e
    exact loopY (fun F h k e => ih e) lf F h kn e
  | exit id => intro F h kn kr ke r e; exact ⟨.ex id, F, h, e, fun Ft hF => ⟨Ft, .inl hF, fun _ => rfl⟩⟩
  | label l => intro F h kn kr ke r e; exact code_nm (F' := F) (h' := h) e fun Ft hF => ⟨Ft, hF, fun _ => rfl⟩
  | ret => intro F h kn kr ke r e; exact ⟨.ret, F, h, e, fun Ft hF => ⟨Ft, .inl hF, fun _ => rfl⟩⟩
  | _ => intro F h kn kr ke r e; cases e

theorem yRes_spec {F : Fr} {h : HW} {k : SV → Rs} {rv : ResultVar} {r : Out × HW} (e : yRes P F h k rv = some r) : ∃ y, k y = some r ∧ ∀ Ft, Feq Ft F → ∀ D, resultE P Ft (h.xd D) rv = some y := by
  cases rv with
  | tmp t =>
    obtain ⟨y, h1, e⟩ := ob_spec e
    exact ⟨y, e, fun Ft hF D => by simp only [resultE, hF t, h1]⟩
  | cell a t =>
    simp only [yRes] at e
    obtain ⟨q, h1, e⟩ := ob_spec e
    split at e
    · rename_i n ha hn
      obtain ⟨y, h2, e⟩ := ob_spec e
      refine ⟨y, e, fun Ft hF D => ?_⟩
      simp only [resultE, hF a, h1]
      unfold ldN at h2
      split at h2 <;> try (cases h2; done)
      rename_i k off
      simp only [semLoad, ha, hn, HW.xd_objs]
      unfold ldNP at h2
      cases ho : h.objs.get k with
      | none => simp [ho] at h2
      | some o => simp only [ho] at h2 ⊢; exact h2
    · rename_i n ha hn
      obtain ⟨y, h2, e⟩ := ob_spec e
      refine ⟨y, e, fun Ft hF D => ?_⟩
      simp only [resultE, hF a, h1]
      unfold ld1 at h2
      split at h2 <;> try (cases h2; done)
      rename_i k off
      simp only [semLoad, ha, hn, HW.xd_objs]
      unfold ld1P at h2
      cases ho : h.objs.get k with
      | none => simp [ho] at h2
      | some o => simp only [ho] at h2 ⊢; exact h2
    · cases e
theorem yRss_spec {F : Fr} {h : HW} : ∀ {rs : List ResultVar} {k : List SV → Rs} {r : Out × HW}, yRss P F h rs k = some r → ∃ ys, k ys = some r ∧ ∀ Ft, Feq Ft F → ∀ D, resultsE P Ft (h.xd D) rs = some ys
  | [], k, r, e => ⟨[], e, fun _ _ _ => rfl⟩
  | x :: rs, k, r, e => by
    obtain ⟨y, e, h1⟩ := yRes_spec e
    obtain ⟨ys, e, h2⟩ := yRss_spec e
    exact ⟨y :: ys, e, fun Ft hF D => by simp only [resultsE, h1 Ft hF D, h2 Ft hF D]⟩

theorem feq_args (args : List SV) : Feq (storeN .nil 0 args) (frOf args) := fun t => by
  rw [get_storeN_eq]
  unfold frOf
  by_cases ht : t < args.length
  · rw [if_pos ⟨Nat.zero_le _, by omega⟩]; simp
  · rw [if_neg (by omega), List.getElem?_eq_none (by omega)]; rfl

theorem yFn_spec {e : Evs} (hC : LiftOK C e.call) (xf : XF P) {lf : Nat} {args : List SV} {h h' : HW} {out : Out} (hl : Nat.ble args.length xf.fn.ntmps = true) (hy : yFn P xf C lf args h = some (out, h')) :
    ∀ D, goE e xf lf xf.f args (h.xd D) = some (out, h'.xd D) := by
  intro D
  obtain ⟨ex, F', h2, h3, h4⟩ := evY_spec (rd := none) (me := xf.f) (jump := jumpE P e.call xf.ord xf.f none xf.fn.ntmps lf lf) hC _ hy
  obtain ⟨Ft', h5, h6⟩ := h4 _ (feq_args args)
  have h7 := h6 []
  have hfin : yFin P xf.fn F' h2 = some (out, h') → Feq Ft' F' → leaveE P e.dcall xf.fn Ft' [] .ret (h2.xd []) = some (out, h'.xd []) := by
    intro hf hq
    obtain ⟨ys, h8, h9⟩ := yRss_spec hf
    cases h8
    simp only [leaveE, h9 Ft' hq]
  have hq : (∃ ch, ex = .pan ch) ∨ Feq Ft' F' := h5.symm
  unfold goE bodyE
  have hbeq : Nat.beq xf.f xf.f = true := Nat.beq_refl _
  simp only [hbeq, hl, Bool.and_self, cond_true]
  have hb : evC P e.call xf.ord xf.f none xf.fn.ntmps lf (jumpE P e.call xf.ord xf.f none xf.fn.ntmps lf lf) (xf.fn.body.getD .skip) (storeN .nil 0 args) { h.xd D with dfs := [] } = some (ex, Ft', h2.xd []) := h7
  rw [hb]
  cases ex with
  | nm =>
    have hq : Feq Ft' F' := by
      rcases hq with ⟨ch, hh⟩ | hq
      · cases hh
      · exact hq
    show withD D (leaveE P e.dcall xf.fn Ft' [] .ret (h2.xd [])) = _
    rw [hfin h3 hq]; rfl
  | ret =>
    have hq : Feq Ft' F' := by
      rcases hq with ⟨ch, hh⟩ | hq
      · cases hh
      · exact hq
    show withD D (leaveE P e.dcall xf.fn Ft' [] .ret (h2.xd [])) = _
    rw [hfin h3 hq]; rfl
  | ex i => cases h3
  | pan ch => cases h3; rfl
  | gt l => exact h3.elim
end
end Go.Xe
