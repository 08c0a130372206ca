/- A part of an evaluator for the program's code: it runs code over an abstract memory, and what it answers holds of every run. -/
import Derived.Test.YtomialandfplkaaDoorXvJ
namespace Go.Xe
section
variable {P : Program} {B : Nat} {w0 w : World} {E : Env}

def stI (P : Program) (callf : CallF) (N : Nat) (ops : Array Oper) (i : Nat) (F : Tr SV) (X : XW) : Option (Tr SV × XW) := match ops[i]? with
  | some o => stepE P callf N ops.toList o F X
  | none => none

/-- In whatever order. -/
def anyE (P : Program) (callf : CallF) (N : Nat) (ops : Array Oper) (G : Tr SV → XW → Prop) : Nat → Array Bool → Tr SV → XW → Prop
  | 0, listed, F, X => Region.ready .any ops listed = [] ∧ G F X
  | n + 1, listed, F, X => (Region.ready .any ops listed = [] → G F X) ∧
    ∀ i ∈ Region.ready .any ops listed, ∃ F' X', stI P callf N ops i F X = some (F', X') ∧ anyE P callf N ops G n (listed.setIfInBounds i true) F' X'

theorem anyE_eqv {callf : CallF} {N : Nat} (hN : N + 2 < 2 ^ depth) {ops : Array Oper} {G : Tr SV → XW → Prop} (hG : ∀ F F' X, Eqv F F' → G F X → G F' X) :
    ∀ (n : Nat) (listed : Array Bool) (F F' : Tr SV) (X : XW), Eqv F F' → anyE P callf N ops G n listed F X → anyE P callf N ops G n listed F' X
  | 0, _, _, _, _, he, h => ⟨h.1, hG _ _ _ he h.2⟩
  | n + 1, listed, F, F', X, he, h => ⟨fun hr => hG _ _ _ he (h.1 hr), fun i hi => by
      obtain ⟨F1, X1, h1, h2⟩ := h.2 i hi
      unfold stI at h1 ⊢
      split at h1 <;> try (cases h1; done)
      obtain ⟨G', h3, h4⟩ := stepE_eqv hN he h1
      exact ⟨G', X1, h3, anyE_eqv hN hG n _ _ _ _ h4 h2⟩⟩

/-- Before number i those of r alone can come up. -/
structure Inv (ops : Array Oper) (i : Nat) (listed0 : Array Bool) (r : List Bool) (listed : Array Bool) : Prop where
  inR : ∀ k, listed.getD k false = true → r.getD k false = true
  more : ∀ k, listed0.getD k true = true → listed.getD k true = true

theorem stepOK_spec {ops : Array Oper} {listed0 : Array Bool} {i : Nat} {oi : Oper} {r : List Bool} (hi : ops[i]? = some oi) (h : stepOK ops listed0 i r = true) {j : Nat} {oj : Oper} (hj : ops[j]? = some oj) (hne : j ≠ i) :
    (r.getD j false = true ∧ (listed0.getD j true = true ∨ (oi.apart ops oj = true ∧ compat oi.op oj.op = true))) ∨
    (r.getD j false = false ∧ listed0.getD j true = false ∧ ∃ e ∈ oj.after, Region.binds .any e = true ∧ r.getD e.on false = false) := by
  unfold stepOK at h
  simp only [hi, List.all_eq_true, List.mem_range] at h
  have hlt := (Array.getElem?_eq_some_iff.1 hj).1
  have := h j hlt
  simp only [hj] at this
  have hb : (j == i) = false := by simpa using hne
  simp only [hb, Bool.false_or] at this
  cases hr : r.getD j false with
  | true =>
    simp only [hr, cond_true, Bool.or_eq_true, Bool.and_eq_true] at this
    exact .inl ⟨rfl, this⟩
  | false =>
    simp only [hr, cond_false, Bool.and_eq_true, Bool.not_eq_true', Array.any_eq_true'] at this
    obtain ⟨h1, e, he, h2, h3⟩ := this
    exact .inr ⟨rfl, h1, e, he, h2, h3⟩

theorem anyE_first {callf : CallF} (hc : OrcOK callf) {N : Nat} (hN : N + 2 < 2 ^ depth) {ops : Array Oper} {G : Tr SV → XW → Prop} (hG : ∀ F F' X, Eqv F F' → G F X → G F' X) {i : Nat} {oi : Oper} (hi : ops[i]? = some oi)
    {listed0 : Array Bool} {r : List Bool} (hok : stepOK ops listed0 i r = true) :
    ∀ (n : Nat) (listed : Array Bool) (F Fi : Tr SV) (X Xi : XW), Inv ops i listed0 r listed → i ∈ Region.ready .any ops listed → X.orc = [] → stI P callf N ops i F X = some (Fi, Xi) →
      anyE P callf N ops G n (listed.setIfInBounds i true) Fi Xi → anyE P callf N ops G (n + 1) listed F X := by
  intro n
  induction n with
  | zero =>
    intro listed F Fi X Xi _ hr _ hs H
    refine ⟨fun h => (by rw [h] at hr; cases hr), fun j hj => ?_⟩
    by_cases hji : j = i
    · subst hji; exact ⟨Fi, Xi, hs, H⟩
    · have := ready_mono hj hji
      rw [H.1] at this
      cases this
  | succ n ih =>
    intro listed F Fi X Xi inv hr ho hs H
    refine ⟨fun h => (by rw [h] at hr; cases hr), fun j hj => ?_⟩
    by_cases hji : j = i
    · subst hji; exact ⟨Fi, Xi, hs, H⟩
    · obtain ⟨Fij, Xij, h1, h2⟩ := H.2 j (ready_mono hj hji)
      obtain ⟨hjun, oj, hoj, hall⟩ := mem_ready.1 hj
      have hcase := stepOK_spec hi hok hoj hji
      have hRj : r.getD j false = true ∧ oi.apart ops oj = true ∧ compat oi.op oj.op = true := by
        rcases hcase with ⟨h3, h4⟩ | ⟨_, _, e, he, hb, hn⟩
        · rcases h4 with h4 | h4
          · have := inv.more j h4; rw [hjun] at this; cases this
          · exact ⟨h3, h4⟩
        · have := inv.inR _ (hall e he hb); rw [hn] at this; cases this
      have hs' : stepE P callf N ops.toList oi F X = some (Fi, Xi) := by unfold stI at hs; rw [hi] at hs; exact hs
      have h1' : stepE P callf N ops.toList oj Fi Xi = some (Fij, Xij) := by unfold stI at h1; rw [hoj] at h1; exact h1
      obtain ⟨Fj, Xj, Fji, k1, k2, k3, k4⟩ := step_comm hc hN hRj.2.1 hRj.2.2 ho hs' h1'
      refine ⟨Fj, Xj, by unfold stI; rw [hoj]; exact k1, ?_⟩
      refine ih (listed.setIfInBounds j true) Fj Fji Xj Xij ⟨fun k hk => ?_, fun k hk => ?_⟩ (ready_mono hr (Ne.symm hji)) k2 (by unfold stI; rw [hi]; exact k3) ?_
      · by_cases e : j = k
        · subst e; exact hRj.1
        · rw [getD_set_ne false e] at hk; exact inv.inR k hk
      · by_cases e : j = k
        · subst e; have := inv.more j hk; rw [hjun] at this; cases this
        · rw [getD_set_ne true e]; exact inv.more k hk
      · rw [Array.setIfInBounds_comm _ _ hji]
        exact anyE_eqv hN hG n _ _ _ _ k4 h2

theorem anyE_lex {callf : CallF} (hc : OrcOK callf) {N : Nat} (hN : N + 2 < 2 ^ depth) {ops : Array Oper} {F' : Tr SV} {X' : XW} : ∀ (ks : List Nat) (l : List Oper) (listed : Array Bool) (F : Tr SV) (X : XW), listed.size = ops.size → X.orc = [] →
    pickOps ops.toList ks = some l → lexOK ops ks listed = true → evOps P callf N ops.toList l F X = some (F', X') → anyE P callf N ops (fun F1 X1 => Eqv F' F1 ∧ X1 = X') ks.length listed F X
  | [], l, listed, F, X, _, _, hp, hl, h => by
    simp only [pickOps, Option.some.injEq] at hp
    subst hp
    simp only [evOps, Option.some.injEq, Prod.mk.injEq] at h
    obtain ⟨rfl, rfl⟩ := h
    exact ⟨by simpa [lexOK] using hl, Eqv.refl _, rfl⟩
  | k :: ks, l, listed, F, X, hsz, ho, hp, hl, h => by
    simp only [pickOps] at hp
    split at hp <;> try (cases hp; done)
    rename_i o hok
    split at hp <;> try (cases hp; done)
    rename_i l' hl'
    simp only [Option.some.injEq] at hp
    subst hp
    simp only [lexOK, Bool.and_eq_true] at hl
    obtain ⟨⟨⟨hr, hnr⟩, hst⟩, hl2⟩ := hl
    simp only [evOps] at h
    split at h <;> try (cases h; done)
    rename_i F1 X1 hs
    have hk : ops[k]? = some o := by simpa using hok
    have hr' : k ∈ Region.ready .any ops listed := by simpa using hr
    have ho1 : X1.orc = [] := by
      obtain ⟨y, hy, _⟩ := stepE_eq.1 hs
      exact (stepV_keeps hc ho hy).1
    refine anyE_first hc hN (fun F F1 X he hg => ⟨hg.1.trans he, hg.2⟩) hk hst ks.length listed F F1 X X1 ⟨fun j hj => ?_, fun j hj => hj⟩ hr' ho (by unfold stI; rw [hk]; exact hs) (anyE_lex hc hN ks l' _ F1 X1 (by simpa using hsz) ho1 hl' hl2 h)
    have hun := (mem_ready.1 hr').1
    by_cases hjk : j = k
    · subst hjk
      rcases Nat.lt_or_ge j listed.size with h' | h'
      · simp [h'] at hun hj; rw [hun] at hj; cases hj
      · simp [Array.getElem?_eq_none h'] at hj
    · cases hoj : ops[j]? with
      | none =>
        exfalso
        rcases Nat.lt_or_ge j listed.size with h' | h'
        · rw [hsz] at h'; rw [Array.getElem?_eq_none_iff] at hoj; omega
        · simp [Array.getElem?_eq_none h'] at hj
      | some oj =>
        rcases stepOK_spec hk hst hoj hjk with ⟨h1, _⟩ | ⟨_, h1, _⟩
        · exact h1
        · rcases Nat.lt_or_ge j listed.size with h' | h'
          · simp [h'] at h1 hj; rw [h1] at hj; cases hj
          · simp [Array.getElem?_eq_none h'] at hj

theorem anyE_pc {callf : CallF} (hcall : CallOK P callf) {N : Nat} {ops : Array Oper} {G : Tr SV → XW → Prop} (hG : ∀ F X, G F X → Pc X) : ∀ (n : Nat) (listed : Array Bool) (F : Tr SV) (X : XW), anyE P callf N ops G n listed F X → Pc X
  | 0, _, _, _, h => hG _ _ h.2
  | n + 1, listed, F, X, h => by
    cases hr : Region.ready .any ops listed with
    | nil => exact hG _ _ (h.1 hr)
    | cons i is =>
      obtain ⟨F1, X1, h1, h2⟩ := h.2 i (by rw [hr]; exact List.mem_cons_self ..)
      have := anyE_pc hcall hG n _ _ _ h2
      unfold stI at h1
      split at h1 <;> try (cases h1; done)
      exact step_pc hcall h1 this

def HasFn (P : Program) (callf : CallF) : Prop := ∀ f, ∀ args X r, callf f args X = some r → ∃ fn, P.funcs[f]? = some fn ∧ fn.body.isSome = true ∧ fn.name ≠ "runtime.NumGoroutine"

theorem wpAny_of_anyE {callf : CallF} (hcall : CallOK P callf) (hB : HasFn P callf) {N : Nat} {ops : Array Oper} (hsel : ∀ o ∈ ops, noSel o.op = true) {G : Tr SV → XW → Prop} (hG : ∀ F X, G F X → Pc X) (ro : Option Nat)
    {Q : Exit → Act → World → Prop} : ∀ (n : Nat) (listed : Array Bool) (F : Tr SV) (X : XW) (E : Env) (a : Act) (w : World), anyE P callf N ops G n listed F X → Emb B w0 X E w → FrRel N E F a →
      (∀ F1 X1 E' a' w', G F1 X1 → Le E E' → FrRel N E' F1 a' → Emb B w0 X1 E' w' → Q .normal a' w') → wpAnyIn (wideR ro) 0 P .any ops Q n listed a w
  | 0, _, F, X, E, a, w, h, hE, hF, hQ => ⟨h.1, hQ F X E a w h.2 (Le.refl _) hF hE⟩
  | n + 1, listed, F, X, E, a, w, h, hE, hF, hQ => by
    refine ⟨fun hr => hQ F X E a w (h.1 hr) (Le.refl _) hF hE, fun i hi => ?_⟩
    obtain ⟨F1, X1, h1, h2⟩ := h.2 i hi
    unfold stI at h1
    unfold wpOpIn
    split at h1 <;> try (cases h1; done)
    rename_i o ho
    simp only [ho]
    exact step_sound hcall hB hE hF (hsel o (Array.mem_of_getElem? ho)) h1 (anyE_pc hcall hG n _ _ _ h2) ro (fun E' a' w' a1 a2 a3 =>
      wpAny_of_anyE hcall hB hsel hG ro n _ F1 X1 E' a' w' h2 a3 a2 (fun F2 X2 E'' a'' w'' b1 b2 => hQ F2 X2 E'' a'' w'' b1 (a1.trans b2)))

theorem want_ng {ops : List Oper} {F : Tr SV} {X X' : XW} {g : Option (Nat × Bool)} {b : Bool} (h : wantE ops F X g = some (b, X')) : X'.ng = X.ng := by
  unfold wantE at h
  split at h
  · cases h; rfl
  · split at h <;> try (cases h; done)
    split at h <;> try (cases h; done)
    split at h <;> try (cases h; done)
    split at h <;> try (cases h; done)
    rename_i hb
    cases h
    exact (asB_spec hb).2.2.2

theorem ops_keeps {callf : CallF} (hc : OrcOK callf) {N : Nat} {ops : List Oper} : ∀ {l : List Oper} {F F' : Tr SV} {X X' : XW}, evOps P callf N ops l F X = some (F', X') → (X.orc = [] → X'.orc = []) ∧ X'.ng = X.ng
  | [], _, _, _, _, h => by cases h; exact ⟨fun h => h, rfl⟩
  | o :: l, F, F', X, X', h => by
    simp only [evOps] at h
    split at h <;> try (cases h; done)
    rename_i F1 X1 hs
    obtain ⟨k1, k2⟩ := ops_keeps hc h
    obtain ⟨y, hy, _⟩ := stepE_eq.1 hs
    have hng : X1.ng = X.ng := by
      unfold stepV at hy
      split at hy
      · rename_i X2 hw
        rw [(evOp_keeps hc hy).2]
        exact want_ng hw
      · rename_i X2 hw
        cases hy; exact want_ng hw
      · cases hy
    exact ⟨fun ho => k1 (stepV_keeps hc ho hy).1, k2.trans hng⟩
end
end Go.Xe
