/- A part of an evaluator for the code. -/
import Derived.Test.YtoglpmfmnknlaaaGreatDoorXeJ
namespace Go.Xe
section
variable {P : Program} {B : Nat} {w0 w : World} {E : Env} {ds : List Deferred}

def anyE (P : Program) (callf : CallF) (N : Nat) (ops : Array Oper) (S : Sees) (G : Tr SV → XW → Prop) : Nat → Array Bool → Tr SV → XW → Prop
  | 0, listed, F, X => Region.ready .any ops listed = [] ∧ G F X
  | n + 1, listed, F, X => (Region.ready .any ops listed = [] → G F X) ∧
    ∀ i ∈ Region.ready .any ops listed, ∃ F' X', St P callf N ops S i F X F' X' ∧ anyE P callf N ops S G n (listed.setIfInBounds i true) F' X'

theorem anyE_eqv {callf : CallF} {N : Nat} {ops : Array Oper} {S : Sees} {G : Tr SV → XW → Prop} (hG : ∀ F F' X, Eqv F F' → G F X → G F' X) :
    ∀ (n : Nat) (listed : Array Bool) (F F' : Tr SV) (X : XW), Eqv F F' → anyE P callf N ops S G n listed F X → anyE P callf N ops S G n listed F' X
  | 0, _, _, _, _, he, h => ⟨h.1, hG _ _ _ he h.2⟩
  | n + 1, listed, F, F', X, he, h => ⟨fun hr => hG _ _ _ he (h.1 hr), fun i hi => by
      obtain ⟨F1, X1, ⟨o, ho, h1, hb, hr⟩, h2⟩ := h.2 i hi
      obtain ⟨G', h3, h4⟩ := stepE_eqv he h1
      exact ⟨G', X1, ⟨o, ho, h3, hb, fun h => by rw [← addrOf_look (fun t _ => he t)]; exact hr h⟩, anyE_eqv hG n _ _ _ _ h4 h2⟩⟩

theorem anyE_sees {callf : CallF} {N : Nat} {ops : Array Oper} {S S' : Sees} {G : Tr SV → XW → Prop} :
    ∀ (n : Nat) (listed : Array Bool) (F : Tr SV) (X : XW), (∀ i, listed.getD i true = false → S'.pre i = S.pre i ∧ S'.post i = S.post i ∧ S'.obj i = S.obj i) → anyE P callf N ops S G n listed F X → anyE P callf N ops S' G n listed F X
  | 0, _, _, _, _, h => h
  | n + 1, listed, F, X, hs, h => ⟨h.1, fun i hi => by
      obtain ⟨F1, X1, ⟨o, ho, h1, hb, hr⟩, h2⟩ := h.2 i hi
      obtain ⟨e1, e2, e3⟩ := hs i (mem_ready.1 hi).1
      refine ⟨F1, X1, ⟨o, ho, h1, fun h => by rw [e1, e2]; exact hb h, fun h => by rw [e3]; exact hr h⟩, anyE_sees n _ _ _ (fun j hj => hs j ?_) h2⟩
      by_cases e : i = j
      · subst e
        exact (mem_ready.1 hi).1
      · rw [getD_set_ne true e] at hj; exact hj⟩

structure Inv (ops : Array Oper) (i : Nat) (listed0 : Array Bool) (r : List Bool) (listed : Array Bool) : Prop where
  inR : ∀ k, listed.getD k false = true → r.getD k false = true
  more : ∀ k, listed0.getD k true = true → listed.getD k true = true

theorem stepOK_spec {chk : List (Nat × List Nat)} {ops : Array Oper} {listed0 : Array Bool} {i : Nat} {oi : Oper} {r : List Bool} (hi : ops[i]? = some oi) (h : stepOK P chk ops listed0 i r = true) {j : Nat} {oj : Oper} (hj : ops[j]? = some oj) (hne : j ≠ i) :
    (r.getD j false = true ∧ (listed0.getD j true = true ∨ (oi.apart ops oj = true ∧ compat P chk i j oi.op oj.op = true))) ∨
    (r.getD j false = false ∧ listed0.getD j true = false ∧ ∃ e ∈ oj.after, Region.binds .any e = true ∧ r.getD e.on false = false) := by
  unfold stepOK at h
  simp only [hi, List.all_eq_true, List.mem_range] at h
  have hlt := (Array.getElem?_eq_some_iff.1 hj).1
  have := h j hlt
  simp only [hj] at this
  have hb : (j == i) = false := by simpa using hne
  simp only [hb, Bool.false_or] at this
  cases hr : r.getD j false with
  | true =>
    simp only [hr, cond_true, Bool.or_eq_true, Bool.and_eq_true] at this
    exact .inl ⟨rfl, this⟩
  | false =>
    simp only [hr, cond_false, Bool.and_eq_true, Bool.not_eq_true', Array.any_eq_true'] at this
    obtain ⟨h1, e, he, h2, h3⟩ := this
    exact .inr ⟨rfl, h1, e, he, h2, h3⟩

theorem anyE_first {callf : CallF} (hc : KeepsOK callf) {N : Nat} {ops : Array Oper} {S : Sees} {G : Tr SV → XW → Prop} (hG : ∀ F F' X, Eqv F F' → G F X → G F' X) {i : Nat} {oi : Oper} (hi : ops[i]? = some oi)
    {listed0 : Array Bool} {r : List Bool} {chk : List (Nat × List Nat)} (hok : stepOK P chk ops listed0 i r = true)
    (hsv : ∀ j oj, ops[j]? = some oj → listed0.getD j true = false → j ≠ i → isBar P oj.op = true → hasNat (chkOf chk j) i = true → ∀ k, S.obj i = some k → sameVer (S.pre j) (S.post j) k = true) :
    ∀ (n : Nat) (listed : Array Bool) (F Fi : Tr SV) (X Xi : XW), Inv ops i listed0 r listed → i ∈ Region.ready .any ops listed → X.orc = [] → St P callf N ops S i F X Fi Xi →
      anyE P callf N ops S G n (listed.setIfInBounds i true) Fi Xi → anyE P callf N ops S G (n + 1) listed F X := by
  intro n
  induction n with
  | zero =>
    intro listed F Fi X Xi _ hr _ hs H
    refine ⟨fun h => (by rw [h] at hr; cases hr), fun j hj => ?_⟩
    by_cases hji : j = i
    · subst hji; exact ⟨Fi, Xi, hs, H⟩
    · have := ready_mono hj hji
      rw [H.1] at this
      cases this
  | succ n ih =>
    intro listed F Fi X Xi inv hr ho hs H
    refine ⟨fun h => (by rw [h] at hr; cases hr), fun j hj => ?_⟩
    by_cases hji : j = i
    · subst hji; exact ⟨Fi, Xi, hs, H⟩
    · obtain ⟨Fij, Xij, h1, h2⟩ := H.2 j (ready_mono hj hji)
      obtain ⟨hjun, oj, hoj, hall⟩ := mem_ready.1 hj
      have hj0 : listed0.getD j true = false := by
        cases h : listed0.getD j true with
        | false => rfl
        | true => have := inv.more j h; rw [hjun] at this; cases this
      have hcase := stepOK_spec hi hok hoj hji
      have hRj : r.getD j false = true ∧ oi.apart ops oj = true ∧ compat P chk i j oi.op oj.op = true := by
        rcases hcase with ⟨h3, h4⟩ | ⟨_, _, e, he, hb, hn⟩
        · rcases h4 with h4 | h4
          · rw [hj0] at h4; cases h4
          · exact ⟨h3, h4⟩
        · have := inv.inR _ (hall e he hb); rw [hn] at this; cases this
      obtain ⟨Fj, Xj, Fji, k1, k2, k3, k4⟩ := step_comm hc hi hoj hRj.2.1 hRj.2.2 (hsv j oj hoj hj0 hji) ho hs h1
      refine ⟨Fj, Xj, k1, ?_⟩
      refine ih (listed.setIfInBounds j true) Fj Fji Xj Xij ⟨fun k hk => ?_, fun k hk => ?_⟩ (ready_mono hr (Ne.symm hji)) k2 k3 ?_
      · by_cases e : j = k
        · subst e; exact hRj.1
        · rw [getD_set_ne false e] at hk; exact inv.inR k hk
      · by_cases e : j = k
        · subst e; have := inv.more j hk; rw [hjun] at this; cases this
        · rw [getD_set_ne true e]; exact inv.more k hk
      · rw [Array.setIfInBounds_comm _ _ hji]
        exact anyE_eqv hG n _ _ _ _ k4 h2

theorem getD_set_true {l : Array Bool} {k j : Nat} (h : (l.setIfInBounds k true).getD j true = false) : l.getD j true = false ∧ j ≠ k := by
  by_cases e : k = j
  · subst e
    exfalso
    rcases Nat.lt_or_ge k l.size with h' | h'
    · simp [h'] at h
    · simp at h
  · rw [getD_set_ne true e] at h
    exact ⟨h, fun e' => e e'.symm⟩

theorem lex_unlisted {chk : List (Nat × List Nat)} {ops : Array Oper} : ∀ (ks : List Nat) (listed : Array Bool), lexOK P chk ops ks listed = true → (∀ j ∈ ks, listed.getD j true = false) ∧ ∀ j, listed.getD j true = false → j ∈ ks
  | [], listed, h => by
    refine ⟨fun j hj => (by cases hj), fun j hj => ?_⟩
    simp only [lexOK, Array.all_eq_true_iff_forall_mem] at h
    rcases Nat.lt_or_ge j listed.size with h' | h'
    · have := h listed[j] (Array.getElem_mem h')
      simp only [id] at this
      simp [h', this] at hj
    · simp [Array.getElem?_eq_none h'] at hj
  | k :: ks, listed, h => by
    simp only [lexOK, Bool.and_eq_true] at h
    obtain ⟨⟨⟨hr, hnr⟩, hst⟩, hl2⟩ := h
    have hr' : k ∈ Region.ready .any ops listed := by simpa using hr
    have hk := (mem_ready.1 hr').1
    obtain ⟨i1, i2⟩ := lex_unlisted ks _ hl2
    refine ⟨fun j hj => ?_, fun j hj => ?_⟩
    · rcases List.mem_cons.1 hj with rfl | hj
      · exact hk
      · exact (getD_set_true (i1 j hj)).1
    · by_cases e : j = k
      · subst e; exact List.mem_cons_self ..
      · refine List.mem_cons_of_mem _ (i2 j ?_)
        rw [getD_set_ne true (fun e' => e e'.symm)]; exact hj

theorem chkOK_spec {recs : List (Nat × Option Nat)} {X X' : XW} : ∀ {ls : List Nat}, chkOK recs X X' ls = true → ∀ l, hasNat ls l = true → ∀ k, findK recs l = some k → sameVer X X' k = true
  | [], _, l, hl, _, _ => by simp [hasNat] at hl
  | l' :: ls, h, l, hl, k, hk => by
    simp only [chkOK, Bool.and_eq_true] at h
    simp only [hasNat, Bool.or_eq_true] at hl
    rcases hl with hl | hl
    · have e := Nat.eq_of_beq_eq_true hl
      subst e
      have := h.1
      rw [hk] at this
      exact this
    · exact chkOK_spec h.2 l hl k hk

def Sees.set (S : Sees) (k : Nat) (X X' : XW) (a : Option Nat) : Sees :=
  { pre := fun j => if j = k then X else S.pre j, post := fun j => if j = k then X' else S.post j, obj := fun j => if j = k then a else S.obj j }

theorem anyE_lex {callf : CallF} (hc : KeepsOK callf) {N : Nat} {ops : Array Oper} {chk : List (Nat × List Nat)} {F' : Tr SV} {X' : XW} : ∀ (ks : List Nat) (recs : List (Nat × Option Nat)) (listed : Array Bool) (F : Tr SV) (X : XW), listed.size = ops.size → X.orc = [] →
    lexOK P chk ops ks listed = true → evD P callf N ops.toList chk ks recs F X = some (F', X') → ∃ S : Sees, anyE P callf N ops S (fun F1 X1 => Eqv F' F1 ∧ X1 = X') ks.length listed F X ∧
      ∀ i, i ∉ ks → ∀ k, findK recs i = some k → ∀ j oj, j ∈ ks → ops[j]? = some oj → isBar P oj.op = true → hasNat (chkOf chk j) i = true → sameVer (S.pre j) (S.post j) k = true
  | [], recs, listed, F, X, _, _, hl, h => by
    simp only [evD, Option.some.injEq, Prod.mk.injEq] at h
    obtain ⟨rfl, rfl⟩ := h
    refine ⟨⟨fun _ => X, fun _ => X, fun _ => none⟩, ⟨?_, Eqv.refl _, rfl⟩, fun i _ k _ j oj hj => by cases hj⟩
    have := (lex_unlisted [] listed hl).2
    cases hr : Region.ready .any ops listed with
    | nil => rfl
    | cons a as =>
      have ha : a ∈ Region.ready .any ops listed := by rw [hr]; exact List.mem_cons_self ..
      have := this a (mem_ready.1 ha).1
      cases this
  | k :: ks, recs, listed, F, X, hsz, ho, hl, h => by
    obtain ⟨hun, hcov⟩ := lex_unlisted (k :: ks) listed hl
    simp only [evD] at h
    split at h <;> try (cases h; done)
    rename_i o hok
    split at h <;> try (cases h; done)
    rename_i F1 X1 hs
    cases hck : chkOK recs X X1 (chkOf chk k) with
    | false => rw [hck] at h; cases h
    | true =>
      rw [hck] at h
      simp only [cond_true] at h
      simp only [lexOK, Bool.and_eq_true] at hl
      obtain ⟨⟨⟨hr, hnr⟩, hst⟩, hl2⟩ := hl
      have hk : ops[k]? = some o := by simpa using hok
      have hr' : k ∈ Region.ready .any ops listed := by simpa using hr
      have ho1 : X1.orc = [] := (stepE_keeps hc hs).orc ho
      obtain ⟨S0, hany, hrec⟩ := anyE_lex hc ks _ _ F1 X1 (by simpa using hsz) ho1 hl2 h
      obtain ⟨hun2, hcov2⟩ := lex_unlisted ks _ hl2
      have hkks : k ∉ ks := fun hmem => (getD_set_true (hun2 k hmem)).2 rfl
      have hne : ∀ j, j ∈ ks → j ≠ k := fun j hj e => hkks (e ▸ hj)
      let S : Sees := S0.set k X X1 (bif isRead P o.op then addrOf ops.toList o F X else none)
      have hS : ∀ j, j ≠ k → S.pre j = S0.pre j ∧ S.post j = S0.post j ∧ S.obj j = S0.obj j := fun j hj => ⟨if_neg hj, if_neg hj, if_neg hj⟩
      have hSk : S.pre k = X ∧ S.post k = X1 ∧ S.obj k = (bif isRead P o.op then addrOf ops.toList o F X else none) := ⟨if_pos rfl, if_pos rfl, if_pos rfl⟩
      refine ⟨S, ?_, ?_⟩
      · have hany' : anyE P callf N ops S (fun F1 X1 => Eqv F' F1 ∧ X1 = X') ks.length (listed.setIfInBounds k true) F1 X1 := anyE_sees ks.length _ _ _ (fun j hj => hS j (getD_set_true hj).2) hany
        refine anyE_first hc (fun F F1 X he hg => ⟨hg.1.trans he, hg.2⟩) hk hst ?_ ks.length listed F F1 X X1 ⟨fun j hj => ?_, fun j hj => hj⟩ hr' ho ⟨o, hk, hs, fun _ => ⟨hSk.1.symm, hSk.2.1.symm⟩, fun hrd => by rw [hSk.2.2, hrd]; rfl⟩ hany'
        · intro j oj hoj hj0 hjk hb hn k' hk'
          rw [hSk.2.2] at hk'
          have hjm : j ∈ ks := by
            rcases List.mem_cons.1 (hcov j hj0) with e | e
            · exact absurd e hjk
            · exact e
          obtain ⟨e1, e2, _⟩ := hS j hjk
          rw [e1, e2]
          cases hrd : isRead P o.op with
          | true =>
            rw [hrd] at hk'
            simp only [cond_true] at hk'
            refine hrec k hkks k' ?_ j oj hjm hoj hb hn
            simp only [hrd, cond_true, findK]
            rw [hk']
            have : Nat.beq k k = true := by simp
            rw [this]; rfl
          | false => rw [hrd] at hk'; cases hk'
        · by_cases hjk : j = k
          · subst hjk
            have hun' := hun j (List.mem_cons_self ..)
            rcases Nat.lt_or_ge j listed.size with h' | h'
            · simp [h'] at hun' hj; rw [hun'] at hj; cases hj
            · simp [Array.getElem?_eq_none h'] at hj
          · cases hoj : ops[j]? with
            | none =>
              exfalso
              rcases Nat.lt_or_ge j listed.size with h' | h'
              · rw [hsz] at h'; rw [Array.getElem?_eq_none_iff] at hoj; omega
              · simp [Array.getElem?_eq_none h'] at hj
            | some oj =>
              rcases stepOK_spec hk hst hoj hjk with ⟨h1, _⟩ | ⟨_, h1, _⟩
              · exact h1
              · rcases Nat.lt_or_ge j listed.size with h' | h'
                · simp [h'] at h1 hj; rw [h1] at hj; cases hj
                · simp [Array.getElem?_eq_none h'] at hj
      · intro i hi k' hk' j oj hj hoj hb hn
        have hik : i ≠ k := fun e => hi (by rw [e]; exact List.mem_cons_self ..)
        rcases List.mem_cons.1 hj with rfl | hj
        · rw [hSk.1, hSk.2.1]
          exact chkOK_spec hck i hn k' hk'
        · obtain ⟨e1, e2, _⟩ := hS j (hne j hj)
          rw [e1, e2]
          refine hrec i (fun h => hi (List.mem_cons_of_mem _ h)) k' ?_ j oj hj hoj hb hn
          cases isRead P o.op with
          | true =>
            simp only [cond_true, findK]
            have : Nat.beq k i = false := by
              cases h : Nat.beq k i with
              | false => rfl
              | true => exact absurd (Nat.eq_of_beq_eq_true h).symm hik
            rw [this]; exact hk'
          | false => exact hk'

theorem anyE_pc {callf : CallF} (hcall : CallOK P callf) {N : Nat} {ops : Array Oper} {S : Sees} {G : Tr SV → XW → Prop} (hG : ∀ F X, G F X → Pc X) : ∀ (n : Nat) (listed : Array Bool) (F : Tr SV) (X : XW), anyE P callf N ops S G n listed F X → Pc X
  | 0, _, _, _, h => hG _ _ h.2
  | n + 1, listed, F, X, h => by
    cases hr : Region.ready .any ops listed with
    | nil => exact hG _ _ (h.1 hr)
    | cons i is =>
      obtain ⟨F1, X1, ⟨o, _, h1, _⟩, h2⟩ := h.2 i (by rw [hr]; exact List.mem_cons_self ..)
      exact step_pc hcall h1 (anyE_pc hcall hG n _ _ _ h2)


theorem wpAny_of_anyE {callf : CallF} (hcall : CallOK P callf) {N : Nat} {ops : Array Oper} {S : Sees} (hsel : ∀ o ∈ ops, noSel o.op = true) {G : Tr SV → XW → Prop} (hG : ∀ F X, G F X → Pc X) (ro : Option Nat)
    {Q : Exit → Act → World → Prop} : ∀ (n : Nat) (listed : Array Bool) (F : Tr SV) (X : XW) (E : Env) (a : Act) (w : World), anyE P callf N ops S G n listed F X → Emb P B w0 X E w → FrRel ds N E F a →
      (∀ F1 X1 E' a' w', G F1 X1 → Le E E' → FrRel ds N E' F1 a' → Emb P B w0 X1 E' w' → Q .normal a' w') → wpAnyIn (wideR ro) 0 P .any ops Q n listed a w
  | 0, _, F, X, E, a, w, h, hE, hF, hQ => ⟨h.1, hQ F X E a w h.2 (Le.refl _) hF hE⟩
  | n + 1, listed, F, X, E, a, w, h, hE, hF, hQ => by
    refine ⟨fun hr => hQ F X E a w (h.1 hr) (Le.refl _) hF hE, fun i hi => ?_⟩
    obtain ⟨F1, X1, ⟨o, ho, h1, _⟩, h2⟩ := h.2 i hi
    unfold wpOpIn
    simp only [ho]
    exact step_sound hcall hE hF (hsel o (Array.mem_of_getElem? ho)) h1 (anyE_pc hcall hG n _ _ _ h2) ro (fun E' a' w' a1 a2 a3 =>
      wpAny_of_anyE hcall hsel hG ro n _ F1 X1 E' a' w' h2 a3 a2 (fun F2 X2 E'' a'' w'' b1 b2 => hQ F2 X2 E'' a'' w'' b1 (a1.trans b2)))

theorem d_keeps {callf : CallF} (hc : KeepsOK callf) {N : Nat} {ops : List Oper} {chk : List (Nat × List Nat)} : ∀ {ks : List Nat} {recs : List (Nat × Option Nat)} {F F' : Tr SV} {X X' : XW}, evD P callf N ops chk ks recs F X = some (F', X') → Keeps X X'
  | [], _, _, _, _, _, h => by simp only [evD, Option.some.injEq, Prod.mk.injEq] at h; obtain ⟨rfl, rfl⟩ := h; exact Keeps.refl _
  | k :: ks, recs, F, F', X, X', h => by
    simp only [evD] at h
    split at h <;> try (cases h; done)
    split at h <;> try (cases h; done)
    rename_i F1 X1 hs
    generalize chkOK recs X X1 (chkOf chk k) = b at h
    cases b with
    | false => cases h
    | true => exact (stepE_keeps hc hs).trans (d_keeps hc h)

theorem d_pc {callf : CallF} (hcall : CallOK P callf) {N : Nat} {ops : List Oper} {chk : List (Nat × List Nat)} : ∀ {ks : List Nat} {recs : List (Nat × Option Nat)} {F F' : Tr SV} {X X' : XW}, evD P callf N ops chk ks recs F X = some (F', X') → Pc X' → Pc X
  | [], _, _, _, _, _, h, hp => by simp only [evD, Option.some.injEq, Prod.mk.injEq] at h; obtain ⟨rfl, rfl⟩ := h; exact hp
  | k :: ks, recs, F, F', X, X', h, hp => by
    simp only [evD] at h
    split at h <;> try (cases h; done)
    split at h <;> try (cases h; done)
    rename_i F1 X1 hs
    generalize chkOK recs X X1 (chkOf chk k) = b at h
    cases b with
    | false => cases h
    | true => exact step_pc hcall hs (d_pc hcall h hp)
end
end Go.Xe
