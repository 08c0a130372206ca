/- A part of an evaluator for the code. -/
import Derived.Test.YtoglpmfmnknlaaaGreatDoorXeS
namespace Go.Xe
section
variable {P : Program} {B : Nat} {w0 w : World} {E : Env} {ds : List Deferred}

def anyN (P : Program) (callf : CallF) (N : Nat) (ops : Array Oper) (S : Sees) (rs : List Nat) (base : Nat) (G : Tr SV → XW → Prop) : Nat → Array Bool → Tr SV → XW → Prop
  | 0, listed, F, X => Region.ready .any ops listed = [] ∧ G F X
  | n + 1, listed, F, X => (Region.ready .any ops listed = [] → G F X) ∧
    ∀ i ∈ Region.ready .any ops listed, ∃ F' X', StN P callf N ops S rs base i F X F' X' ∧ anyN P callf N ops S rs base G n (listed.setIfInBounds i true) F' X'

theorem stepN_eqv {callf : CallF} {rs : List Nat} {N base k : Nat} {ops : Array Oper} {o : Oper} {F F' G : Tr SV} {X X' : XW} (he : Eqv F F') (h : stepN P callf N ops.toList rs base k o F X = some (G, X')) :
    ∃ G', stepN P callf N ops.toList rs base k o F' X = some (G', X') ∧ Eqv G G' := by
  obtain ⟨y, hy, rfl⟩ := stepN_eq.1 h
  exact ⟨_, stepN_eq.2 ⟨y, by rw [← stepNV_look (fun t _ => he t)]; exact hy, rfl⟩, put_eqv he _ _⟩

theorem anyN_eqv {callf : CallF} {S : Sees} {rs : List Nat} {N base : Nat} {ops : Array Oper} {G : Tr SV → XW → Prop} (hG : ∀ F F' X, Eqv F F' → G F X → G F' X) :
    ∀ (n : Nat) (listed : Array Bool) (F F' : Tr SV) (X : XW), Eqv F F' → anyN P callf N ops S rs base G n listed F X → anyN P callf N ops S rs base G n listed F' X
  | 0, _, _, _, _, he, h => ⟨h.1, hG _ _ _ he h.2⟩
  | n + 1, listed, F, F', X, he, h => ⟨fun hr => hG _ _ _ he (h.1 hr), fun i hi => by
      obtain ⟨F1, X1, ⟨o, ho, h1, hr, hb, hs⟩, h2⟩ := h.2 i hi
      obtain ⟨G', h3, h4⟩ := stepN_eqv he h1
      exact ⟨G', X1, ⟨o, ho, h3, fun h => (by rw [← addrOf_look (fun t _ => he t)]; exact hr h), hb, fun h => (by rw [← addrOf_look (fun t _ => he t)]; exact hs h)⟩, anyN_eqv hG n _ _ _ _ h4 h2⟩⟩

theorem stepOKN_spec {rs : List Nat} {chk : List (Nat × List Nat)} {ops : Array Oper} {listed0 : Array Bool} {i : Nat} {oi : Oper} {r : List Bool} (hi : ops[i]? = some oi) (h : stepOKN P rs chk ops listed0 i r = true) {j : Nat} {oj : Oper} (hj : ops[j]? = some oj) (hne : j ≠ i) :
    (r.getD j false = true ∧ (listed0.getD j true = true ∨ (oi.apart ops oj = true ∧ compatN P rs chk i j oi.op oj.op = true))) ∨
    (r.getD j false = false ∧ listed0.getD j true = false ∧ ∃ e ∈ oj.after, Region.binds .any e = true ∧ r.getD e.on false = false) := by
  unfold stepOKN at h
  simp only [hi, List.all_eq_true, List.mem_range] at h
  have hlt := (Array.getElem?_eq_some_iff.1 hj).1
  have := h j hlt
  simp only [hj] at this
  have hb : (j == i) = false := by simpa using hne
  simp only [hb, Bool.false_or] at this
  cases hr : r.getD j false with
  | true =>
    simp only [hr, cond_true, Bool.or_eq_true, Bool.and_eq_true] at this
    exact .inl ⟨rfl, this⟩
  | false =>
    simp only [hr, cond_false, Bool.and_eq_true, Bool.not_eq_true', Array.any_eq_true'] at this
    obtain ⟨h1, e, he, h2, h3⟩ := this
    exact .inr ⟨rfl, h1, e, he, h2, h3⟩

def Kept (ops : Array Oper) (rs : List Nat) (base : Nat) (listed : Array Bool) (X : XW) : Prop :=
  ∀ j oj, ops[j]? = some oj → listed.getD j true = false → newR rs j oj.op = true → Free X (base + j)

theorem Kept.step {callf : CallF} (hc : KeepsOK callf) {S : Sees} {rs : List Nat} {N base : Nat} {ops : Array Oper} {i : Nat} {listed : Array Bool} {F F' : Tr SV} {X X' : XW} (h : Kept ops rs base listed X) (hs : StN P callf N ops S rs base i F X F' X') :
    Kept ops rs base (listed.setIfInBounds i true) X' := by
  intro j oj hoj hj hn
  have hlt := (Array.getElem?_eq_some_iff.1 hoj).1
  have hj2 : listed.getD j true = false ∧ j ≠ i := by
    by_cases e : i = j
    · subst e
      exfalso
      rcases Nat.lt_or_ge i listed.size with h' | h'
      · simp [h'] at hj
      · simp at hj
    · rw [getD_set_ne true e] at hj
      exact ⟨hj, fun e' => e e'.symm⟩
  have hf := h j oj hoj hj2.1 hn
  obtain ⟨o, ho, hst, _⟩ := hs
  obtain ⟨y, hy, _⟩ := stepN_eq.1 hst
  cases hni : newR rs i o.op with
  | true =>
    obtain ⟨ob, rfl, _⟩ := stepNV_new hni hy
    refine ⟨?_, hf.lt⟩
    show (X.objs.put (base + i) ob).get (base + j) = none
    cases hg : (X.objs.put (base + i) ob).get (base + j) with
    | none => rfl
    | some b =>
      rcases Hp.get_put_some hg with ⟨e, _⟩ | ⟨_, h2⟩
      · omega
      · rw [hf.dead] at h2; cases h2
  | false =>
    rw [stepNV_old hni] at hy
    exact hf.keeps (stepV_keeps hc hy)

theorem anyN_first {callf : CallF} (hfrm : FrameOK callf) (hc : KeepsOK callf) {S : Sees} {chk : List (Nat × List Nat)} {rs : List Nat} {N base : Nat} {ops : Array Oper} {G : Tr SV → XW → Prop} (hG : ∀ F F' X, Eqv F F' → G F X → G F' X) {i : Nat} {oi : Oper} (hi : ops[i]? = some oi)
    {listed0 : Array Bool} {r : List Bool} (hok : stepOKN P rs chk ops listed0 i r = true)
    (hsv : ∀ j oj, ops[j]? = some oj → listed0.getD j true = false → j ≠ i → isBar P oj.op = true → hasNat (chkOf chk j) i = true → ∀ k, S.obj i = some k → sameVer (S.pre j) (S.post j) k = true) :
    ∀ (n : Nat) (listed : Array Bool) (F Fi : Tr SV) (X Xi : XW), Inv ops i listed0 r listed → Kept ops rs base listed X → i ∈ Region.ready .any ops listed → X.orc = [] → StN P callf N ops S rs base i F X Fi Xi →
      anyN P callf N ops S rs base G n (listed.setIfInBounds i true) Fi Xi → anyN P callf N ops S rs base G (n + 1) listed F X := by
  intro n
  induction n with
  | zero =>
    intro listed F Fi X Xi _ _ hr _ hs H
    refine ⟨fun h => (by rw [h] at hr; cases hr), fun j hj => ?_⟩
    by_cases hji : j = i
    · subst hji; exact ⟨Fi, Xi, hs, H⟩
    · have := ready_mono hj hji
      rw [H.1] at this
      cases this
  | succ n ih =>
    intro listed F Fi X Xi inv hkept hr ho hs H
    refine ⟨fun h => (by rw [h] at hr; cases hr), fun j hj => ?_⟩
    by_cases hji : j = i
    · subst hji; exact ⟨Fi, Xi, hs, H⟩
    · obtain ⟨Fij, Xij, h1, h2⟩ := H.2 j (ready_mono hj hji)
      obtain ⟨hjun, oj, hoj, hall⟩ := mem_ready.1 hj
      have hj0 : listed0.getD j true = false := by
        cases h : listed0.getD j true with
        | false => rfl
        | true => have := inv.more j h; rw [hjun] at this; cases this
      have hcase := stepOKN_spec hi hok hoj hji
      have hRj : r.getD j false = true ∧ oi.apart ops oj = true ∧ compatN P rs chk i j oi.op oj.op = true := by
        rcases hcase with ⟨h3, h4⟩ | ⟨_, _, e, he, hb, hn⟩
        · rcases h4 with h4 | h4
          · rw [hj0] at h4; cases h4
          · exact ⟨h3, h4⟩
        · have := inv.inR _ (hall e he hb); rw [hn] at this; cases this
      obtain ⟨Fj, Xj, Fji, k1, k2, k3, k4⟩ := step_commN hfrm hc (fun e => hji e.symm) hi hoj hRj.2.1 hRj.2.2 (hsv j oj hoj hj0 hji) (hkept j oj hoj hjun) ho hs h1
      refine ⟨Fj, Xj, k1, ?_⟩
      refine ih (listed.setIfInBounds j true) Fj Fji Xj Xij ⟨fun k hk => ?_, fun k hk => ?_⟩ (hkept.step hc k1) (ready_mono hr (Ne.symm hji)) k2 k3 ?_
      · by_cases e : j = k
        · subst e; exact hRj.1
        · rw [getD_set_ne false e] at hk; exact inv.inR k hk
      · by_cases e : j = k
        · subst e; have := inv.more j hk; rw [hjun] at this; cases this
        · rw [getD_set_ne true e]; exact inv.more k hk
      · rw [Array.setIfInBounds_comm _ _ hji]
        exact anyN_eqv hG n _ _ _ _ k4 h2

theorem lexN_cov {rs : List Nat} {chk : List (Nat × List Nat)} {ops : Array Oper} : ∀ (ks : List Nat) (listed : Array Bool), lexOKN P rs chk ops ks listed = true → ∀ j, listed.getD j true = false → j ∈ ks
  | [], listed, h, j, hj => by
    simp only [lexOKN, Array.all_eq_true_iff_forall_mem] at h
    rcases Nat.lt_or_ge j listed.size with h' | h'
    · have := h listed[j] (Array.getElem_mem h')
      simp only [id] at this
      simp [h', this] at hj
    · simp [Array.getElem?_eq_none h'] at hj
  | k :: ks, listed, h, j, hj => by
    simp only [lexOKN, Bool.and_eq_true] at h
    obtain ⟨⟨⟨hr, hnr⟩, hst⟩, hl2⟩ := h
    by_cases e : j = k
    · subst e; exact List.mem_cons_self ..
    · refine List.mem_cons_of_mem _ (lexN_cov ks _ hl2 j ?_)
      rw [getD_set_ne true (fun e' => e e'.symm)]; exact hj

theorem anyN_sees {callf : CallF} {N : Nat} {ops : Array Oper} {S S' : Sees} {rs : List Nat} {base : Nat} {G : Tr SV → XW → Prop} :
    ∀ (n : Nat) (listed : Array Bool) (F : Tr SV) (X : XW), (∀ i, listed.getD i true = false → S'.pre i = S.pre i ∧ S'.post i = S.post i ∧ S'.obj i = S.obj i) → anyN P callf N ops S rs base G n listed F X → anyN P callf N ops S' rs base G n listed F X
  | 0, _, _, _, _, h => h
  | n + 1, listed, F, X, hs, h => ⟨h.1, fun i hi => by
      obtain ⟨F1, X1, ⟨o, ho, h1, hr, hb, hs'⟩, h2⟩ := h.2 i hi
      obtain ⟨e1, e2, e3⟩ := hs i (mem_ready.1 hi).1
      refine ⟨F1, X1, ⟨o, ho, h1, hr, fun h => by rw [e1, e2]; exact hb h, fun h => by rw [e3]; exact hs' h⟩, anyN_sees n _ _ _ (fun j hj => hs j ?_) h2⟩
      by_cases e : i = j
      · subst e
        exact (mem_ready.1 hi).1
      · rw [getD_set_ne true e] at hj; exact hj⟩

theorem lexN_unlisted {rs : List Nat} {chk : List (Nat × List Nat)} {ops : Array Oper} : ∀ (ks : List Nat) (listed : Array Bool), lexOKN P rs chk ops ks listed = true → (∀ j ∈ ks, listed.getD j true = false)
  | [], listed, h, j, hj => by cases hj
  | k :: ks, listed, h, j, hj => by
    simp only [lexOKN, Bool.and_eq_true] at h
    obtain ⟨⟨⟨hr, hnr⟩, hst⟩, hl2⟩ := h
    have hr' : k ∈ Region.ready .any ops listed := by simpa using hr
    have hk := (mem_ready.1 hr').1
    rcases List.mem_cons.1 hj with rfl | hj
    · exact hk
    · exact (getD_set_true (lexN_unlisted ks _ hl2 j hj)).1

theorem anyN_lex {callf : CallF} (hfrm : FrameOK callf) (hc : KeepsOK callf) {rs : List Nat} {chk : List (Nat × List Nat)} {N base : Nat} {ops : Array Oper} {F' : Tr SV} {X' : XW} : ∀ (ks : List Nat) (recs : List (Nat × Option Nat)) (listed : Array Bool) (F : Tr SV) (X : XW), listed.size = ops.size → Kept ops rs base listed X → X.orc = [] →
    lexOKN P rs chk ops ks listed = true → evN P callf N ops.toList rs chk base ks recs F X = some (F', X') → ∃ S : Sees, anyN P callf N ops S rs base (fun F1 X1 => Eqv F' F1 ∧ X1 = X') ks.length listed F X ∧
      ∀ i, i ∉ ks → ∀ k, findK recs i = some k → ∀ j oj, j ∈ ks → ops[j]? = some oj → isBar P oj.op = true → hasNat (chkOf chk j) i = true → sameVer (S.pre j) (S.post j) k = true
  | [], recs, listed, F, X, _, _, _, hl, h => by
    simp only [evN, Option.some.injEq, Prod.mk.injEq] at h
    obtain ⟨rfl, rfl⟩ := h
    refine ⟨⟨fun _ => X, fun _ => X, fun _ => none⟩, ⟨?_, Eqv.refl _, rfl⟩, fun i _ k _ j oj hj => by cases hj⟩
    have := lexN_cov [] listed hl
    cases hr : Region.ready .any ops listed with
    | nil => rfl
    | cons a as =>
      have ha : a ∈ Region.ready .any ops listed := by rw [hr]; exact List.mem_cons_self ..
      have := this a (mem_ready.1 ha).1
      cases this
  | k :: ks, recs, listed, F, X, hsz, hkept, ho, hl, h => by
    have hun := lexN_unlisted (k :: ks) listed hl
    have hcov := lexN_cov (k :: ks) listed hl
    simp only [evN] at h
    split at h <;> try (cases h; done)
    rename_i o hok
    cases hlr : lowRead P ops.toList base o F X with
    | false => rw [hlr] at h; cases h
    | true =>
      rw [hlr] at h
      simp only [cond_true] at h
      split at h <;> try (cases h; done)
      rename_i F1 X1 hs
      cases hck : chkOK recs X X1 (chkOf chk k) with
      | false => rw [hck] at h; cases h
      | true =>
      rw [hck] at h
      simp only [cond_true] at h
      simp only [lexOKN, Bool.and_eq_true] at hl
      obtain ⟨⟨⟨hr, hnr⟩, hst⟩, hl2⟩ := hl
      have hk : ops[k]? = some o := by simpa using hok
      have hr' : k ∈ Region.ready .any ops listed := by simpa using hr
      have ho1 : X1.orc = [] := by
        obtain ⟨y, hy, _⟩ := stepN_eq.1 hs
        exact (stepN_orc hc hy).1 ho
      have hst1 : ∀ S : Sees, S.pre k = X → S.post k = X1 → S.obj k = (bif isRead P o.op then addrOf ops.toList o F X else none) → StN P callf N ops S rs base k F X F1 X1 := fun S e1 e2 e3 => ⟨o, hk, hs, fun hrd j hj => by
        unfold lowRead at hlr
        rw [hrd] at hlr
        simp only [cond_true, hj] at hlr
        rw [Nat.blt_eq] at hlr
        exact hlr, fun _ _ k' hk' => by rw [e1, e2] at hk'; exact hk', fun hrd => by rw [e3, hrd]; rfl⟩
      have hkept1 : Kept ops rs base (listed.setIfInBounds k true) X1 := hkept.step hc (hst1 ⟨fun _ => X, fun _ => X1, fun _ => bif isRead P o.op then addrOf ops.toList o F X else none⟩ rfl rfl rfl)
      obtain ⟨S0, hany, hrec⟩ := anyN_lex hfrm hc ks _ _ F1 X1 (by simpa using hsz) hkept1 ho1 hl2 h
      have hun2 := lexN_unlisted ks _ hl2
      have hkks : k ∉ ks := fun hmem => (getD_set_true (hun2 k hmem)).2 rfl
      have hne : ∀ j, j ∈ ks → j ≠ k := fun j hj e => hkks (e ▸ hj)
      let S : Sees := S0.set k X X1 (bif isRead P o.op then addrOf ops.toList o F X else none)
      have hS : ∀ j, j ≠ k → S.pre j = S0.pre j ∧ S.post j = S0.post j ∧ S.obj j = S0.obj j := fun j hj => ⟨if_neg hj, if_neg hj, if_neg hj⟩
      have hSk : S.pre k = X ∧ S.post k = X1 ∧ S.obj k = (bif isRead P o.op then addrOf ops.toList o F X else none) := ⟨if_pos rfl, if_pos rfl, if_pos rfl⟩
      refine ⟨S, ?_, ?_⟩
      · have hany' : anyN P callf N ops S rs base (fun F1 X1 => Eqv F' F1 ∧ X1 = X') ks.length (listed.setIfInBounds k true) F1 X1 := anyN_sees ks.length _ _ _ (fun j hj => hS j (getD_set_true hj).2) hany
        refine anyN_first hfrm hc (fun F F1 X he hg => ⟨hg.1.trans he, hg.2⟩) hk hst ?_ ks.length listed F F1 X X1 ⟨fun j hj => ?_, fun j hj => hj⟩ hkept hr' ho (hst1 S hSk.1 hSk.2.1 hSk.2.2) hany'
        · intro j oj hoj hj0 hjk hb hn k' hk'
          rw [hSk.2.2] at hk'
          have hjm : j ∈ ks := by
            rcases List.mem_cons.1 (hcov j hj0) with e | e
            · exact absurd e hjk
            · exact e
          obtain ⟨e1, e2, _⟩ := hS j hjk
          rw [e1, e2]
          cases hrd : isRead P o.op with
          | true =>
            rw [hrd] at hk'
            simp only [cond_true] at hk'
            refine hrec k hkks k' ?_ j oj hjm hoj hb hn
            simp only [hrd, cond_true, findK]
            rw [hk']
            have : Nat.beq k k = true := by simp
            rw [this]; rfl
          | false => rw [hrd] at hk'; cases hk'
        · have hun' := (mem_ready.1 hr').1
          by_cases hjk : j = k
          · subst hjk
            rcases Nat.lt_or_ge j listed.size with h' | h'
            · simp [h'] at hun' hj; rw [hun'] at hj; cases hj
            · simp [Array.getElem?_eq_none h'] at hj
          · cases hoj : ops[j]? with
            | none =>
              exfalso
              rcases Nat.lt_or_ge j listed.size with h' | h'
              · rw [hsz] at h'; rw [Array.getElem?_eq_none_iff] at hoj; omega
              · simp [Array.getElem?_eq_none h'] at hj
            | some oj =>
              rcases stepOKN_spec hk hst hoj hjk with ⟨h1, _⟩ | ⟨_, h1, _⟩
              · exact h1
              · rcases Nat.lt_or_ge j listed.size with h' | h'
                · simp [h'] at h1 hj; rw [h1] at hj; cases hj
                · simp [Array.getElem?_eq_none h'] at hj
      · intro i hi k' hk' j oj hj hoj hb hn
        have hik : i ≠ k := fun e => hi (by rw [e]; exact List.mem_cons_self ..)
        rcases List.mem_cons.1 hj with rfl | hj
        · rw [hSk.1, hSk.2.1]
          exact chkOK_spec hck i hn k' hk'
        · obtain ⟨e1, e2, _⟩ := hS j (hne j hj)
          rw [e1, e2]
          refine hrec i (fun h => hi (List.mem_cons_of_mem _ h)) k' ?_ j oj hj hoj hb hn
          cases isRead P o.op with
          | true =>
            simp only [cond_true, findK]
            have : Nat.beq k i = false := by
              cases h : Nat.beq k i with
              | false => rfl
              | true => exact absurd (Nat.eq_of_beq_eq_true h).symm hik
            rw [this]; exact hk'
          | false => exact hk'

theorem stepN_pc {callf : CallF} (hcall : CallOK P callf) {rs : List Nat} {N base k : Nat} {ops : List Oper} {o : Oper} {F F' : Tr SV} {X X' : XW} (h : stepN P callf N ops rs base k o F X = some (F', X')) (hp : Pc X') : Pc X := by
  obtain ⟨y, hy, rfl⟩ := stepN_eq.1 h
  cases hn : newR rs k o.op with
  | true => obtain ⟨ob, rfl, _⟩ := stepNV_new hn hy; exact hp
  | false =>
    rw [stepNV_old hn] at hy
    exact step_pc (N := N) hcall (stepE_eq.2 ⟨y, hy, rfl⟩) hp

theorem anyN_pc {callf : CallF} (hcall : CallOK P callf) {S : Sees} {rs : List Nat} {N base : Nat} {ops : Array Oper} {G : Tr SV → XW → Prop} (hG : ∀ F X, G F X → Pc X) : ∀ (n : Nat) (listed : Array Bool) (F : Tr SV) (X : XW), anyN P callf N ops S rs base G n listed F X → Pc X
  | 0, _, _, _, h => hG _ _ h.2
  | n + 1, listed, F, X, h => by
    cases hr : Region.ready .any ops listed with
    | nil => exact hG _ _ (h.1 hr)
    | cons i is =>
      obtain ⟨F1, X1, ⟨o, _, h1, _⟩, h2⟩ := h.2 i (by rw [hr]; exact List.mem_cons_self ..)
      exact stepN_pc hcall h1 (anyN_pc hcall hG n _ _ _ h2)

def Env.cut (E : Env) (b : Nat) : Env := { f := fun k => if k < b then E k else none, n := b }

theorem den_low {b : Nat} {y : SV} {v : Value} (hl : lowV b y = true) {m : Nat} (hm : b ≤ m) (h : Den E y v) : Den (E.cut m) y v := by
  cases y with
  | val x => exact h
  | int k n => exact h
  | bool b => exact h
  | str s => exact h
  | ptr k off =>
    obtain ⟨id, c, hk, rfl⟩ := h
    have : k < b := by simp only [lowV] at hl; rw [Nat.blt_eq] at hl; exact hl
    exact ⟨id, c, by show (if k < m then E k else none) = _; rw [if_pos (by omega)]; exact hk, rfl⟩
  | sl k off len cap lo =>
    have : k < b := by simp only [lowV] at hl; rw [Nat.blt_eq] at hl; exact hl
    have hcut : (E.cut m) k = E k := if_pos (by omega)
    cases cap with
    | none => obtain ⟨id, c, ⟨hk, hc⟩, rfl⟩ := h; exact ⟨id, c, ⟨by rw [hcut]; exact hk, hc⟩, rfl⟩
    | some cap => obtain ⟨id, c, hk, rfl⟩ := h; exact ⟨id, c, by rw [hcut]; exact hk, rfl⟩
  | fn f a b => simp [lowV] at hl
  | ifc t x => simp [lowV] at hl
  | agg cs => simp [lowV] at hl
  | tup cs => simp [lowV] at hl
  | yld k => simp [lowV] at hl
  | mp k => simp [lowV] at hl
  | se k => simp [lowV] at hl
theorem denL_low {b m : Nat} (hm : b ≤ m) : ∀ {ys : List SV} {vs : List Value}, lowL b ys = true → DenL E ys vs → DenL (E.cut m) ys vs
  | [], _, _, h => h
  | y :: ys, _, hl, ⟨v, vs, hv, h, e⟩ => by
    simp only [lowL, Bool.and_eq_true] at hl
    exact ⟨v, vs, den_low hl.1 hm hv, denL_low hm hl.2 h, e⟩

theorem newAt_good {o : Oper} {a : Act} {vals : List SV} {X X' : XW} {y : SV} {base m : Nat} (hE : Emb P B w0 X E w) (hn : isNew o.op = true) (hv : DenL E vals (o.op.operands.toList.map a.eval)) (hlow : lowL base vals = true)
    (hbm : base ≤ m) (hng : X.ng ≤ base) (hmn : m < X.next) (hfree : E m = none) (h : sem P o.op vals { X with next := m } = some (y, X')) (hp : Pc X) :
    ∃ id c v w', ((execOp a.eval o).run P w = .ok (.value v) w' ∨ ((execOp a.eval o).run P w = .ok .skip w' ∧ v = undef)) ∧ Den (E.put m id c) y v ∧ Emb P B w0 { X' with next := X.next } (E.put m id c) w' := by
  obtain ⟨ob, hX', hro, hind⟩ := new_sem hn h
  -- the same step with no memory
  let Xr : XW := { X with objs := { tr := .nil, base := fun _ => none }, next := m }
  have hr : sem P o.op vals Xr = some (y, (Xr.new ob).2) := hind Xr rfl
  have hEr : Emb P w.heap.size w Xr (E.cut m) w := by
    refine ⟨rfl, rfl, rfl, Nat.le_refl _, fun _ _ => rfl, fun k o hk => (by cases hk), fun k k' o o' id c c' hk => (by cases hk), fun k hk => if_neg (Nat.not_lt.2 hk), fun g hg => ?_, Nat.le_refl _⟩
    obtain ⟨c, hc⟩ := hE.glob g hg
    have : g < X.ng := hg
    exact ⟨c, by show (if g < m then E g else none) = _; rw [if_pos (by omega)]; exact hc⟩
  obtain ⟨E', v, w', hle, hrun, hd, hE'⟩ := sem_sound hEr (denL_low hbm hlow hv) (show Pc (Xr.new ob).2 from hp) hr
  have hget : (Xr.new ob).2.objs.get m = some ob := by
    show (Hp.put _ m ob).get m = some ob
    rw [Hp.get_put, if_pos rfl]
  obtain ⟨id, c, hid, hrel, hBid⟩ := hE'.obj m ob hget
  have hsub : Sub E' (E.put m id c) := fun k x hx => by
    rcases Nat.lt_trichotomy k m with hk | hk | hk
    · rw [Env.put_ne E id c (by omega), ← show E.cut m k = E k from if_pos hk, ← hle.2.2 k hk]; exact hx
    · subst hk; rw [Env.put_same, ← hid]; exact hx
    · rw [hE'.fresh k hk] at hx; cases hx
  have hsubE : Sub E (E.put m id c) := Env.sub_put hfree
  have hlive : ∀ k o', X.objs.get k = some o' → ∀ i c', E k = some (i, c') → i < w.heap.size := by
    intro k o' hk i c' he
    obtain ⟨i', c2, he', hrel', _⟩ := hE.obj k o' hk
    obtain ⟨_, hobj⟩ := hrel'.there
    rw [he] at he'; cases he'
    rcases Nat.lt_or_ge i w.heap.size with h1 | h1
    · exact h1
    · rw [Array.getElem?_eq_none h1] at hobj; cases hobj
  have hidB := hBid (.inl hro)
  subst hX'
  refine ⟨id, c, v, w', hrun, hd.sub hsub, hE'.os.trans hE.os, hE'.tape.trans hE.tape, hE'.output.trans hE.output, Nat.le_trans hE.base hE'.base, fun k hk => (hE'.old k (Nat.lt_of_lt_of_le hk hE.base)).trans (hE.old k hk), fun k o' hk => ?_,
    fun k k' o1 o2 i c1 c2 hk hk' he he' => ?_, fun k hk => ?_, fun g hg => let ⟨c', hc'⟩ := hE.glob g hg; ⟨c', hsubE _ _ hc'⟩, hE.nle⟩
  · rcases Hp.get_put_some hk with ⟨e, e2⟩ | ⟨e, ho⟩
    · subst e2; rw [e]
      exact ⟨id, c, Env.put_same _ _ _ _, hrel.sub hsub, fun _ => Nat.le_trans hE.base hidB⟩
    · obtain ⟨i, c', he, hr2, hb⟩ := hE.obj k o' ho
      exact ⟨i, c', hsubE _ _ he, by rw [hE'.old i (hlive k o' ho i c' he)]; exact hr2.sub hsubE, hb⟩
  · rcases Hp.get_put_some hk with ⟨e, _⟩ | ⟨e, ho⟩ <;> rcases Hp.get_put_some hk' with ⟨e', _⟩ | ⟨e', ho'⟩
    · have e1 : k = m := e
      have e2 : k' = m := e'
      rw [e1, e2]
    · have e1 : k = m := e
      rw [e1, Env.put_same] at he; cases he
      have e2 : k' ≠ m := e'
      rw [Env.put_ne E id c e2] at he'
      have := hlive k' o2 ho' _ _ he'
      omega
    · have e1 : k' = m := e'
      rw [e1, Env.put_same] at he'; cases he'
      have e2 : k ≠ m := e
      rw [Env.put_ne E id c e2] at he
      have := hlive k o1 ho _ _ he
      omega
    · have e1 : k ≠ m := e
      have e2 : k' ≠ m := e'
      rw [Env.put_ne E id c e1] at he; rw [Env.put_ne E id c e2] at he'
      exact hE.inj k k' o1 o2 i c1 c2 ho ho' he he'
  · have hk2 : X.next ≤ k := hk
    rw [Env.put_ne E id c (by omega)]; exact hE.fresh k hk2

theorem stepNV_next {callf : CallF} (hc : KeepsOK callf) {rs : List Nat} {base k : Nat} {ops : List Oper} {o : Oper} {F : Tr SV} {X X' : XW} {y : SV} (h : stepNV P callf ops rs base k o F X = some (y, X')) : X.next ≤ X'.next := by
  cases hn : newR rs k o.op with
  | true => obtain ⟨ob, rfl, _⟩ := stepNV_new hn h; exact Nat.le_refl _
  | false =>
    rw [stepNV_old hn] at h
    exact (stepV_keeps hc h).next

theorem wpAny_of_anyN {callf : CallF} (hc : KeepsOK callf) (hcall : CallOK P callf) {S : Sees} {rs : List Nat} {N base : Nat} {ops : Array Oper} (hsel : ∀ o ∈ ops, noSel o.op = true) {G : Tr SV → XW → Prop} (hG : ∀ F X, G F X → Pc X) (ro : Option Nat)
    {Q : Exit → Act → World → Prop} : ∀ (n : Nat) (listed : Array Bool) (F : Tr SV) (X : XW) (E : Env) (a : Act) (w : World), anyN P callf N ops S rs base G n listed F X → Emb P B w0 X E w → FrRel ds N E F a → X.orc = [] →
      (∀ i o, listed.getD i true = false → ops[i]? = some o → newR rs i o.op = true → E (base + i) = none) → E.n = base + ops.size → base + ops.size ≤ X.next → X.ng ≤ base →
      (∀ F1 X1 E' a' w', G F1 X1 → Sub E E' → (∀ k, k < base → E' k = E k) → E'.n = E.n → FrRel ds N E' F1 a' → Emb P B w0 X1 E' w' → Q .normal a' w') → wpAnyIn (wideR ro) 0 P .any ops Q n listed a w
  | 0, _, F, X, E, a, w, h, hE, hF, _, _, _, _, _, hQ => ⟨h.1, hQ F X E a w h.2 (Sub.refl _) (fun _ _ => rfl) rfl hF hE⟩
  | n + 1, listed, F, X, E, a, w, h, hE, hF, horc, hres, hEn, hXn, hng, hQ => by
    refine ⟨fun hr => hQ F X E a w (h.1 hr) (Sub.refl _) (fun _ _ => rfl) rfl hF hE, fun i hi => ?_⟩
    obtain ⟨F1, X1, ⟨o, ho, h1, _⟩, h2⟩ := h.2 i hi
    have hmem := Array.mem_of_getElem? ho
    have hilt := (Array.getElem?_eq_some_iff.1 ho).1
    have hun := (mem_ready.1 hi).1
    obtain ⟨y, hy, rfl⟩ := stepN_eq.1 h1
    have hpc := anyN_pc hcall hG n _ _ _ h2
    have hnext := stepNV_next hc hy
    obtain ⟨ko, kn⟩ := stepN_orc hc hy
    unfold wpOpIn
    simp only [ho]
    cases hn : newR rs i o.op with
    | false =>
      rw [stepNV_old hn] at hy
      refine step_sound (N := N) hcall hE hF (hsel o hmem) (stepE_eq.2 ⟨y, hy, rfl⟩) hpc ro (fun E' a' w' a1 a2 a3 => ?_)
      refine wpAny_of_anyN hc hcall hsel hG ro n _ _ X1 E' a' w' h2 a3 a2 (ko horc) (fun j oj hj hoj hnj => ?_) (a1.1.trans hEn) (Nat.le_trans hXn hnext) (by rw [kn]; exact hng) (fun F2 X2 E'' a'' w'' b1 b2 b3 b4 => hQ F2 X2 E'' a'' w'' b1 (a1.sub.trans b2) (fun k hk => (b3 k hk).trans (a1.2.2 k (by omega))) (b4.trans a1.1))
      have hjlt := (Array.getElem?_eq_some_iff.1 hoj).1
      rw [a1.2.2 (base + j) (by omega)]
      exact hres j oj (getD_set_true hj).1 hoj hnj
    | true =>
      have hy' := hy
      unfold stepNV at hy'
      simp only [hn, cond_true] at hy'
      split at hy' <;> try (cases hy'; done)
      rename_i hgd
      split at hy' <;> try (cases hy'; done)
      rename_i vals hl
      cases hlow : lowL base vals with
      | false => simp [hlow] at hy'
      | true =>
      simp only [hlow, cond_true] at hy'
      split at hy' <;> try (cases hy'; done)
      rename_i y2 X2 hs
      cases hy'
      have hpcX : Pc X := stepN_pc hcall h1 hpc
      obtain ⟨id, c, v, w', hrun, hd, hE2⟩ := newAt_good (a := a) hE (newR_new hn) (looks_sound hE hF hl) hlow (by omega) hng (by omega) (hres i o hun ho hn) hs hpcX
      have hfree := hres i o hun ho hn
      have hsub : Sub E (E.put (base + i) id c) := Env.sub_put hfree
      have hF2 : FrRel ds N (E.put (base + i) id c) F a := ⟨hF.1, hF.2.1, fun j z hj => let ⟨l, u, g1, g2⟩ := hF.2.2 j z hj; ⟨l, u, g1, g2.sub hsub⟩⟩
      have hK : wpAnyIn (wideR ro) 0 P .any ops Q n (listed.setIfInBounds i true) (a.put o.dst v) w' := by
        refine wpAny_of_anyN hc hcall hsel hG ro n _ _ _ _ _ w' h2 hE2 (hF2.put hd) (ko horc) (fun j oj hj hoj hnj => ?_) hEn (Nat.le_trans hXn hnext) (by rw [kn]; exact hng) (fun F2 X2 E'' a'' w'' b1 b2 b3 b4 => hQ F2 X2 E'' a'' w'' b1 (hsub.trans b2) (fun k hk => (b3 k hk).trans (Env.put_ne E id c (by omega))) b4)
        obtain ⟨g1, g2⟩ := getD_set_true hj
        rw [Env.put_ne E id c (by omega)]
        exact hres j oj g1 hoj hnj
      have hw : Region.wanted o (yielded ops a.tmps) = true := by simp [Region.wanted, hgd]
      rw [if_pos hw]
      refine ⟨fun _ _ => trivial, ?_⟩
      have hsem : o.semAt (wideR ro).round a.eval = execOp a.eval o := by
        cases ro with
        | none => rfl
        | some l => exact Oper.semAt_some l _ o (fun c hc => by have hn2 := newR_new hn; rw [hc] at hn2; cases hn2)
      rw [hsem]
      rcases hrun with h | ⟨h, e⟩
      · rw [h]; exact hK
      · rw [h]; subst e; exact hK

structure KeepsTo (b : Nat) (X X' : XW) : Prop where
  orc : X.orc = [] → X'.orc = []
  ng : X'.ng = X.ng
  ver : ∀ k o o', k < b → X.objs.get k = some o → X'.objs.get k = some o' → o.ver ≤ o'.ver ∧ (o'.ver = o.ver → o' = o)
  dead : ∀ k, k < b → X.objs.get k = none → X'.objs.get k = none
  pc : Pc X' → Pc X

theorem KeepsTo.trans {b : Nat} {X Y Z : XW} (h : KeepsTo b X Y) (h' : KeepsTo b Y Z) : KeepsTo b X Z := by
  refine ⟨fun ho => h'.orc (h.orc ho), h'.ng.trans h.ng, fun k o o' hk ho ho' => ?_, fun k hk hd => h'.dead k hk (h.dead k hk hd), fun p => h.pc (h'.pc p)⟩
  cases hy : Y.objs.get k with
  | none => have := h'.dead k hk hy; rw [ho'] at this; cases this
  | some oy =>
    obtain ⟨a1, a2⟩ := h.ver k o oy hk ho hy
    obtain ⟨b1, b2⟩ := h'.ver k oy o' hk hy ho'
    exact ⟨Nat.le_trans a1 b1, fun e => by rw [b2 (by omega), a2 (by omega)]⟩

theorem stepNV_keeps {callf : CallF} (hc : KeepsOK callf) {rs : List Nat} {base k : Nat} {ops : List Oper} {o : Oper} {F : Tr SV} {X X' : XW} {y : SV} (hb : base ≤ X.next) (h : stepNV P callf ops rs base k o F X = some (y, X')) : KeepsTo base X X' ∧ base ≤ X'.next := by
  cases hn : newR rs k o.op with
  | true =>
    obtain ⟨ob, rfl, _⟩ := stepNV_new hn h
    refine ⟨⟨fun h => h, rfl, fun j a b hj h h' => ?_, fun j hj h => ?_, fun h => h⟩, hb⟩
    · rcases Hp.get_put_some h' with ⟨e, _⟩ | ⟨_, h2⟩
      · omega
      · rw [h] at h2; cases h2; exact ⟨Nat.le_refl _, fun _ => rfl⟩
    · show (X.objs.put (base + k) ob).get j = none
      cases h' : (X.objs.put (base + k) ob).get j with
      | none => rfl
      | some b =>
        rcases Hp.get_put_some h' with ⟨e, _⟩ | ⟨_, h2⟩
        · omega
        · rw [h] at h2; cases h2
  | false =>
    rw [stepNV_old hn] at h
    have k := stepV_keeps hc h
    exact ⟨⟨k.orc, k.ng, fun j a b hj => k.ver j a b (by omega), fun j hj => k.dead j (by omega), k.pc⟩, Nat.le_trans hb k.next⟩

theorem evN_keeps {callf : CallF} (hc : KeepsOK callf) {rs : List Nat} {chk : List (Nat × List Nat)} {N base : Nat} {ops : List Oper} : ∀ {ks : List Nat} {recs : List (Nat × Option Nat)} {F F' : Tr SV} {X X' : XW}, base ≤ X.next → evN P callf N ops rs chk base ks recs F X = some (F', X') → KeepsTo base X X' ∧ base ≤ X'.next
  | [], _, _, _, _, _, hb, h => by
    simp only [evN, Option.some.injEq, Prod.mk.injEq] at h; obtain ⟨rfl, rfl⟩ := h
    exact ⟨⟨fun h => h, rfl, fun k o o' _ h h' => (by rw [h] at h'; cases h'; exact ⟨Nat.le_refl _, fun _ => rfl⟩), fun _ _ h => h, fun h => h⟩, hb⟩
  | k :: ks, recs, F, F', X, X', hb, h => by
    simp only [evN] at h
    split at h <;> try (cases h; done)
    rename_i o _
    generalize lowRead P ops base o F X = b at h
    cases b with
    | false => cases h
    | true =>
      simp only [cond_true] at h
      split at h <;> try (cases h; done)
      rename_i F1 X1 hs
      generalize chkOK recs X X1 (chkOf chk k) = b at h
      cases b with
      | false => cases h
      | true =>
      simp only [cond_true] at h
      obtain ⟨y, hy, _⟩ := stepN_eq.1 hs
      obtain ⟨k1, k2⟩ := stepNV_keeps hc hb hy
      obtain ⟨k3, k4⟩ := evN_keeps hc k2 h
      exact ⟨k1.trans k3, k4⟩

theorem evN_pc {callf : CallF} (hcall : CallOK P callf) {rs : List Nat} {chk : List (Nat × List Nat)} {N base : Nat} {ops : List Oper} : ∀ {ks : List Nat} {recs : List (Nat × Option Nat)} {F F' : Tr SV} {X X' : XW}, evN P callf N ops rs chk base ks recs F X = some (F', X') → Pc X' → Pc X
  | [], _, _, _, _, _, h, hp => by simp only [evN, Option.some.injEq, Prod.mk.injEq] at h; obtain ⟨rfl, rfl⟩ := h; exact hp
  | k :: ks, recs, F, F', X, X', h, hp => by
    simp only [evN] at h
    split at h <;> try (cases h; done)
    rename_i o _
    generalize lowRead P ops base o F X = b at h
    cases b with
    | false => cases h
    | true =>
      simp only [cond_true] at h
      split at h <;> try (cases h; done)
      rename_i F1 X1 hs
      generalize chkOK recs X X1 (chkOf chk k) = b at h
      cases b with
      | false => cases h
      | true =>
      simp only [cond_true] at h
      exact stepN_pc hcall hs (evN_pc hcall h hp)
end
end Go.Xe
