/- A part of an evaluator for the code. -/
import Derived.Test.YtoglpmfmnknlaaaGreatDoorXeFr
namespace Go.Xe

section
variable {P : Program} {B : Nat} {w0 w : World} {E : Env} {ds : List Deferred}

theorem new_sem {op : Op} {vals : List SV} {X X' : XW} {y : SV} (hn : isNew op = true) (h : sem P op vals X = some (y, X')) :
    ∃ o, X' = (X.new o).2 ∧ o.ro = false ∧ ∀ X1 : XW, X1.next = X.next → sem P op vals X1 = some (y, (X1.new o).2) := by
  unfold sem at h
  split at h
  case h_4 =>
    unfold semAlloc newRow XW.new at h
    split at h <;> try (cases h; done)
    rename_i z hz
    simp only [force_eq] at h
    cases h
    exact ⟨_, rfl, rfl, fun X1 h1 => by simp only [sem, semAlloc, newRow, XW.new, hz, force_eq, h1]⟩
  case h_5 =>
    unfold semBox newRow XW.new at h
    rename_i x
    cases hx : x.flat <;> simp only [hx, cond_false, cond_true, force_eq] at h <;> cases h
    exact ⟨_, rfl, rfl, fun X1 h1 => by simp only [sem, semBox, newRow, XW.new, hx, cond_true, force_eq, h1]⟩
  case h_7 =>
    unfold semBuildSlice newRow XW.new at h
    split at h <;> try (cases h; done)
    rename_i e hu
    split at h <;> try (cases h; done)
    rename_i s z hs hz
    generalize hc : (Nat.ble _ _ && Nat.ble 1 s && _) = b at h
    cases b <;> simp only [cond_true, cond_false, force_eq] at h
    · cases h
    · split at h <;> cases h
      rename_i cs hcs
      exact ⟨_, rfl, rfl, fun X1 h1 => by simp only [sem, semBuildSlice, newRow, XW.new, hu, hs, hz, hc, cond_true, hcs, force_eq, h1]⟩
  case h_16 =>
    unfold semMake newPat XW.new at h
    split at h <;> try (cases h; done)
    rename_i e hu
    split at h <;> try (cases h; done)
    rename_i l c hl hcc
    split at h <;> try (cases h; done)
    rename_i s z b hs hz hb
    generalize hc : (Nat.ble _ _ && _ && _ && _ && _) = b at h
    cases b <;> simp only [cond_true, cond_false, force_eq] at h <;> cases h
    exact ⟨_, rfl, rfl, fun X1 h1 => by simp only [sem, semMake, newPat, XW.new, hu, hl, hcc, hs, hz, hb, hc, cond_true, force_eq, h1]⟩
  all_goals first
    | (simp [isNew] at hn; done)
    | (cases h; done)

theorem newR_new {rs : List Nat} {k : Nat} {o : Op} (h : newR rs k o = true) : isNew o = true := by
  simp only [newR, Bool.and_eq_true] at h; exact h.2

def stepNV (P : Program) (callf : CallF) (ops : List Oper) (rs : List Nat) (base k : Nat) (o : Oper) (F : Tr SV) (X : XW) : Option (SV × XW) :=
  bif newR rs k o.op then (match o.guard with
    | some _ => none
    | none => match looks X.ng F o.op.operands.toList with
      | none => none
      | some vals => bif lowL base vals then (match sem P o.op vals { X with next := base + k } with
        | some (y, X') => some (y, { X' with next := X.next })
        | none => none) else none) else stepV P callf ops o F X

theorem stepN_eq {callf : CallF} {rs : List Nat} {N base k : Nat} {ops : List Oper} {o : Oper} {F F' : Tr SV} {X X' : XW} :
    stepN P callf N ops rs base k o F X = some (F', X') ↔ ∃ y, stepNV P callf ops rs base k o F X = some (y, X') ∧ F' = put N F o.dst y := by
  unfold stepN stepNV
  cases hn : newR rs k o.op with
  | false => simp only [cond_false]; exact stepE_eq
  | true =>
    simp only [cond_true]
    cases o.guard with
    | some g => simp
    | none =>
      simp only []
      cases looks X.ng F o.op.operands.toList with
      | none => simp
      | some vals =>
        simp only []
        cases lowL base vals with
        | false => simp
        | true =>
          simp only [cond_true, force_eq]
          cases hs : sem P o.op vals { X with next := base + k } with
          | none => simp
          | some r =>
            obtain ⟨y, X1⟩ := r
            simp only [Option.some.injEq, Prod.mk.injEq]
            constructor
            · rintro ⟨rfl, rfl⟩; exact ⟨y, ⟨rfl, rfl⟩, rfl⟩
            · rintro ⟨y', ⟨rfl, rfl⟩, rfl⟩; exact ⟨rfl, rfl⟩

theorem stepNV_look {callf : CallF} {rs : List Nat} {base k : Nat} {ops : Array Oper} {o : Oper} {F F' : Tr SV} {X : XW} (h : ∀ t ∈ o.looksAt ops, F.get t = F'.get t) :
    stepNV P callf ops.toList rs base k o F X = stepNV P callf ops.toList rs base k o F' X := by
  obtain ⟨hw, hl⟩ := look_same (X := X) h
  unfold stepNV
  rw [stepV_look h]
  simp only [hl]

theorem stepNV_new {callf : CallF} {rs : List Nat} {base k : Nat} {ops : List Oper} {o : Oper} {F : Tr SV} {X X' : XW} {y : SV} (hn : newR rs k o.op = true) (h : stepNV P callf ops rs base k o F X = some (y, X')) :
    ∃ ob, X' = { X with objs := X.objs.put (base + k) ob } ∧ ∀ X1 : XW, X1.ng = X.ng → stepNV P callf ops rs base k o F X1 = some (y, { X1 with objs := X1.objs.put (base + k) ob }) := by
  unfold stepNV at h ⊢
  simp only [hn, cond_true] at h ⊢
  split at h <;> try (cases h; done)
  split at h <;> try (cases h; done)
  rename_i vals hl
  cases hlow : lowL base vals with
  | false => simp [hlow] at h
  | true =>
    simp only [hlow, cond_true] at h
    split at h <;> try (cases h; done)
    rename_i y' X2 hs
    cases h
    obtain ⟨ob, rfl, _, hind⟩ := new_sem (newR_new hn) hs
    refine ⟨ob, rfl, fun X1 hng => ?_⟩
    have := hind { X1 with next := base + k } rfl
    simp only [hng] at this
    simp only [hng, hl, hlow, cond_true, this]
    simp only [XW.new]

def StN (P : Program) (callf : CallF) (N : Nat) (ops : Array Oper) (S : Sees) (rs : List Nat) (base i : Nat) (F : Tr SV) (X : XW) (F' : Tr SV) (X' : XW) : Prop :=
  ∃ o, ops[i]? = some o ∧ stepN P callf N ops.toList rs base i o F X = some (F', X') ∧ (isRead P o.op = true → ∀ k, addrOf ops.toList o F X = some k → k < base) ∧
    (isBar P o.op = true → newR rs i o.op = false → ∀ k, sameVer (S.pre i) (S.post i) k = true → sameVer X X' k = true) ∧ (isRead P o.op = true → addrOf ops.toList o F X = S.obj i)

theorem new_cases {op : Op} (h : isNew op = true) : isPure P op = false ∧ isRead P op = false := by
  cases op <;> first | (simp [isNew] at h; done) | exact ⟨rfl, rfl⟩

theorem stepNV_old {callf : CallF} {rs : List Nat} {base k : Nat} {ops : List Oper} {o : Oper} {F : Tr SV} {X : XW} (h : newR rs k o.op = false) : stepNV P callf ops rs base k o F X = stepV P callf ops o F X := by
  unfold stepNV; rw [h]; rfl

theorem stepN_orc {callf : CallF} (hc : KeepsOK callf) {rs : List Nat} {base k : Nat} {ops : List Oper} {o : Oper} {F : Tr SV} {X X' : XW} {y : SV} (h : stepNV P callf ops rs base k o F X = some (y, X')) : (X.orc = [] → X'.orc = []) ∧ X'.ng = X.ng := by
  cases hn : newR rs k o.op with
  | true => obtain ⟨ob, rfl, _⟩ := stepNV_new hn h; exact ⟨fun h => h, rfl⟩
  | false =>
    rw [stepNV_old hn] at h
    have := stepV_keeps hc h
    exact ⟨this.orc, this.ng⟩

theorem pure_noNew {rs : List Nat} {k : Nat} {op : Op} (hp : isPure P op = true) : newR rs k op = false := by
  cases hn : newR rs k op with
  | false => rfl
  | true => have := (new_cases (P := P) (newR_new hn)).1; rw [hp] at this; cases this
theorem read_noNew {rs : List Nat} {k : Nat} {op : Op} (hp : isRead P op = true) : newR rs k op = false := by
  cases hn : newR rs k op with
  | false => rfl
  | true => have := (new_cases (P := P) (newR_new hn)).2; rw [hp] at this; cases this

theorem step_commN {callf : CallF} (hfrm : FrameOK callf) (hc : KeepsOK callf) {N : Nat} {ops : Array Oper} {S : Sees} {chk : List (Nat × List Nat)} {rs : List Nat} {base : Nat} {i j : Nat} {oi oj : Oper} {F Fi Fij : Tr SV} {X Xi Xij : XW} (hij : i ≠ j) (hoi : ops[i]? = some oi) (hoj : ops[j]? = some oj)
    (hap : oi.apart ops oj = true) (hco : compatN P rs chk i j oi.op oj.op = true)
    (hsv : isBar P oj.op = true → hasNat (chkOf chk j) i = true → ∀ k, S.obj i = some k → sameVer (S.pre j) (S.post j) k = true) (hdead : newR rs j oj.op = true → Free X (base + j)) (ho : X.orc = []) (h1 : StN P callf N ops S rs base i F X Fi Xi) (h2 : StN P callf N ops S rs base j Fi Xi Fij Xij) :
    ∃ Fj Xj Fji, StN P callf N ops S rs base j F X Fj Xj ∧ Xj.orc = [] ∧ StN P callf N ops S rs base i Fj Xj Fji Xij ∧ Eqv Fij Fji := by
  obtain ⟨oi', hoi', h1, r1, b1, s1⟩ := h1
  obtain ⟨oj', hoj', h2, r2, b2, s2⟩ := h2
  rw [hoi] at hoi'; cases hoi'
  rw [hoj] at hoj'; cases hoj'
  obtain ⟨a1, a2, a3⟩ := Oper.apart_spec hap
  obtain ⟨yi, hyi, rfl⟩ := stepN_eq.1 h1
  obtain ⟨yj, hyj, rfl⟩ := stepN_eq.1 h2
  have lj : ∀ t ∈ oj.looksAt ops, F.get t = (put N F oi.dst yi).get t := fun t ht => (put_get t fun e => a1 t e ht).symm
  have li : ∀ t ∈ oi.looksAt ops, F.get t = (put N F oj.dst yj).get t := fun t ht => (put_get t fun e => a3 t e ht).symm
  have hj : stepNV P callf ops.toList rs base j oj F Xi = some (yj, Xij) := by rw [← hyj]; exact stepNV_look lj
  have hi' : ∀ X1 X2, stepNV P callf ops.toList rs base i oi F X1 = some (yi, X2) → stepNV P callf ops.toList rs base i oi (put N F oj.dst yj) X1 = some (yi, X2) := fun X1 X2 h => by
    rw [← h]; exact (stepNV_look li).symm
  have rj : ∀ X1, addrOf ops.toList oj F X1 = addrOf ops.toList oj (put N F oi.dst yi) X1 := fun X1 => addrOf_look lj
  have ri : ∀ X1, addrOf ops.toList oi F X1 = addrOf ops.toList oi (put N F oj.dst yj) X1 := fun X1 => addrOf_look li
  have hfr := put_comm (N := N) (F := F) (y := yi) (z := yj) a2
  obtain ⟨ki1, ki2⟩ := stepN_orc hc hyi
  obtain ⟨kj1, kj2⟩ := stepN_orc hc hj
  have oi0 := ki1 ho
  have oj0 := kj1 oi0
  have hilt := (Array.getElem?_eq_some_iff.1 hoi).1
  have hjlt := (Array.getElem?_eq_some_iff.1 hoj).1
  have getNe : ∀ (t : Hp) (m k : Nat) (ob : Ob), m < base + ops.size → k < base → base ≤ m → (t.put m ob).get k = t.get k := fun t m k ob hm hk hbm => by
    rw [Hp.get_put, if_neg (by omega)]
  simp only [compatN, Bool.or_eq_true, Bool.and_eq_true] at hco
  rcases hco with (((hp | hp) | hnj) | ⟨hri, hrj⟩) | ⟨⟨⟨hri, hbj⟩, hnj⟩, hck⟩
  · have hn := pure_noNew (rs := rs) (k := i) hp
    rw [stepNV_old hn] at hyi
    obtain ⟨rfl, hind⟩ := stepV_pure hp ho hyi
    obtain ⟨nb, nr⟩ := pure_cases hp
    exact ⟨_, Xij, _, ⟨oj, hoj, stepN_eq.2 ⟨yj, hj, rfl⟩, fun h => (by rw [rj]; exact r2 h), b2, fun h => (by rw [rj]; exact s2 h)⟩, oj0,
      ⟨oi, hoi, stepN_eq.2 ⟨yi, hi' _ _ (by rw [stepNV_old hn]; exact hind Xij kj2), rfl⟩, fun h => (by rw [nr] at h; cases h), fun h => (by rw [nb] at h; cases h), fun h => (by rw [nr] at h; cases h)⟩, hfr⟩
  · have hn := pure_noNew (rs := rs) (k := j) hp
    rw [stepNV_old hn] at hj
    obtain ⟨rfl, hind⟩ := stepV_pure hp oi0 hj
    obtain ⟨nb, nr⟩ := pure_cases hp
    exact ⟨_, X, _, ⟨oj, hoj, stepN_eq.2 ⟨yj, by rw [stepNV_old hn]; exact hind X ki2.symm, rfl⟩, fun h => (by rw [nr] at h; cases h), fun h => (by rw [nb] at h; cases h), fun h => (by rw [nr] at h; cases h)⟩, ho,
      ⟨oi, hoi, stepN_eq.2 ⟨yi, hi' _ _ hyi, rfl⟩, fun h => (by rw [← ri]; exact r1 h), b1, fun h => (by rw [← ri]; exact s1 h)⟩, hfr⟩
  · -- a row is made second
    obtain ⟨ob, rfl, hindj⟩ := stepNV_new hnj hj
    have hnr := (new_cases (P := P) (newR_new hnj)).2
    refine ⟨_, _, _, ⟨oj, hoj, stepN_eq.2 ⟨yj, hindj X ki2.symm, rfl⟩, fun h => (by rw [hnr] at h; cases h), fun _ h => (by rw [hnj] at h; cases h), fun h => (by rw [hnr] at h; cases h)⟩, ho,
      ⟨oi, hoi, stepN_eq.2 ⟨yi, hi' _ _ ?_, rfl⟩, fun h => (by rw [← ri, addrOf_X (X := X) (X1 := { X with objs := X.objs.put (base + j) ob }) ho ho rfl]; exact r1 h), fun h1 h2 k hk => sameVer_frame (hdead hnj) (b1 h1 h2 k hk),
        fun h => (by rw [← ri, addrOf_X (X := X) (X1 := { X with objs := X.objs.put (base + j) ob }) ho ho rfl]; exact s1 h)⟩, hfr⟩
    cases hni : newR rs i oi.op with
    | true =>
      obtain ⟨ob2, rfl, hindi⟩ := stepNV_new hni hyi
      have := hindi { X with objs := X.objs.put (base + j) ob } rfl
      rw [this]
      simp only [Option.some.injEq, Prod.mk.injEq, true_and]
      rw [Hp.put_comm _ _ _ (by omega)]
    | false =>
      rw [stepNV_old hni] at hyi ⊢
      exact stepV_frame (ob := ob) hfrm (hdead hnj) hyi
  · have hnj := read_noNew (rs := rs) (k := j) hrj
    have nbj := read_cases hrj
    rw [stepNV_old hnj] at hj
    rcases hri with hri | hri
    · have hn := read_noNew (rs := rs) (k := i) hri
      rw [stepNV_old hn] at hyi
      obtain ⟨rfl, hind⟩ := stepV_read hri ho hyi
      obtain ⟨rfl, _⟩ := stepV_read hrj ho hj
      exact ⟨_, _, _, ⟨oj, hoj, stepN_eq.2 ⟨yj, by rw [stepNV_old hnj]; exact hj, rfl⟩, fun h => (by rw [rj]; exact r2 h), fun h => (by rw [nbj] at h; cases h), fun h => (by rw [rj]; exact s2 h)⟩, ho,
        ⟨oi, hoi, stepN_eq.2 ⟨yi, hi' _ _ (by rw [stepNV_old hn]; exact hyi), rfl⟩, fun h => (by rw [← ri]; exact r1 h), b1, fun h => (by rw [← ri]; exact s1 h)⟩, hfr⟩
    · obtain ⟨ob, rfl, hindi⟩ := stepNV_new hri hyi
      have hnr := (new_cases (P := P) (newR_new hri)).2
      obtain ⟨e, hindj⟩ := stepV_read hrj oi0 hj
      subst e
      refine ⟨_, X, _, ⟨oj, hoj, stepN_eq.2 ⟨yj, ?_, rfl⟩, fun h => (by rw [rj, ← addrOf_X (X := X) (X1 := { X with objs := X.objs.put (base + i) ob }) ho ho rfl]; exact r2 h), fun h => (by rw [nbj] at h; cases h), fun h => (by rw [rj, ← addrOf_X (X := X) (X1 := { X with objs := X.objs.put (base + i) ob }) ho ho rfl]; exact s2 h)⟩, ho,
        ⟨oi, hoi, stepN_eq.2 ⟨yi, hi' _ _ hyi, rfl⟩, fun h => (by rw [hnr] at h; cases h), fun _ h => (by rw [hri] at h; cases h), fun h => (by rw [hnr] at h; cases h)⟩, hfr⟩
      rw [stepNV_old hnj]
      exact hindj X rfl fun k hk => (getNe _ _ _ _ (by omega) (r2 hrj k (by rw [← rj]; exact hk)) (by omega)).symm
  · have hnj' : newR rs j oj.op = false := by simpa using hnj
    have hni := read_noNew (rs := rs) (k := i) hri
    rw [stepNV_old hnj'] at hj
    rw [stepNV_old hni] at hyi
    obtain ⟨e1, hind⟩ := stepV_read hri ho hyi
    subst e1
    have nb := read_cases hri
    have kj := stepV_keeps hc hj
    have hre : stepNV P callf ops.toList rs base i oi F Xij = some (yi, Xij) := by
      rw [stepNV_old hni]
      exact hind Xij kj.ng fun k hk => sameVer_spec kj (b2 hbj hnj' k (hsv hbj hck k (by rw [← s1 hri]; exact hk)))
    exact ⟨_, Xij, _, ⟨oj, hoj, stepN_eq.2 ⟨yj, by rw [stepNV_old hnj']; exact hj, rfl⟩, fun h => (by rw [rj]; exact r2 h), b2, fun h => (by rw [rj]; exact s2 h)⟩, oj0,
      ⟨oi, hoi, stepN_eq.2 ⟨yi, hi' _ _ hre, rfl⟩, fun h => (by rw [← ri, addrOf_X ho oj0 kj.ng]; exact r1 h), fun h => (by rw [nb] at h; cases h), fun h => (by rw [← ri, addrOf_X ho oj0 kj.ng]; exact s1 h)⟩, hfr⟩
end
end Go.Xe
