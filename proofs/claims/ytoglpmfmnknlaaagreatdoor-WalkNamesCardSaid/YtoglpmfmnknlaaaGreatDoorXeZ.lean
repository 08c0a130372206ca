/- A part of an evaluator for the code. -/
import Derived.Test.YtoglpmfmnknlaaaGreatDoorXeY
namespace Go.Xe
section
variable {P : Program} {B : Nat} {w0 w : World} {E : Env} {ds : List Deferred} {X : XW}

def PostD (P : Program) (B : Nat) (w0 : World) (N : Nat) (E : Env) (ex : Ex) (F' : Tr SV) (X' : XW) (u' : Mode) (Q : Exit → Act → FrameMode → World → Prop) : Prop :=
  ∀ E' ds' a' w' e m', Le E E' → FrRel ds' N E' F' a' → DenDs E' X'.dfs ds' → Emb P B w0 X' E' w' → ModeRel E' u' m' → ExRel E' ex e → Q e a' m' w'
theorem PostD.le {N : Nat} {E E1 : Env} {ex : Ex} {F' : Tr SV} {X' : XW} {u' : Mode} {Q : Exit → Act → FrameMode → World → Prop} (h : PostD P B w0 N E ex F' X' u' Q) (hle : Le E E1) : PostD P B w0 N E1 ex F' X' u' Q :=
  fun E' ds' a' w' e m' h1 => h E' ds' a' w' e m' (hle.trans h1)

def OnMode (c0 : Frame) (cs : List Frame) (Q : Exit → Act → FrameMode → World → Prop) (e : Exit) (a : Act) (cs' : List Frame) (w : World) : Prop := ∃ m', cs' = { c0 with mode := m' } :: cs ∧ Q e a m' w

def CodeDGood (P : Program) (N : Nat) (c : Code) (F : Tr SV) (X : XW) (u : Mode) (ex : Ex) (F' : Tr SV) (X' : XW) (u' : Mode) : Prop :=
  ∀ B w0 E ds a w m (c0 : Frame) (cs : List Frame) (Q : Exit → Act → FrameMode → World → Prop), Emb P B w0 X E w → FrRel ds N E F a → DenDs E X.dfs ds → ModeRel E u m → PostD P B w0 N E ex F' X' u' Q →
    c.wpSIn (wideR none) 0 P (OnMode c0 cs Q) a ({ c0 with mode := m } :: cs) w

theorem recE_rel {u : Mode} {m : FrameMode} {c0 : Frame} {cs : List Frame} (h : ModeRel E u m) :
    (∃ v m', recoverD ({ c0 with mode := m } :: cs) = some (v, { c0 with mode := m' } :: cs) ∧ Den E (recE u).1 v ∧ ModeRel E (recE u).2 m') ∨
    (recoverD ({ c0 with mode := m } :: cs) = none ∧ (recE u).1 = .val .nilIface ∧ (recE u).2 = u) := by
  cases u with
  | ret => cases h; exact .inr ⟨rfl, rfl, rfl⟩
  | pan ch =>
    obtain ⟨l, h1, rfl⟩ := h
    cases ch with
    | nil => cases h1; exact .inr ⟨rfl, rfl, rfl⟩
    | cons p ch =>
      obtain ⟨y, r⟩ := p
      obtain ⟨v, l', a, b, rfl⟩ := h1
      cases r with
      | false => exact .inl ⟨v, .panicking ({ v, recovered := true } :: l'), rfl, a, _, ⟨v, l', a, b, rfl⟩, rfl⟩
      | true => exact .inr ⟨rfl, rfl, rfl⟩

theorem evOpsD_keeps {N : Nat} : ∀ {l : List Oper} {F F' : Tr SV} {X X' : XW} {u u' : Mode}, evOpsD P N l F X u = some (F', X', u') → Keeps X X'
  | [], _, _, _, _, _, _, h => by simp only [evOpsD, Option.some.injEq, Prod.mk.injEq] at h; obtain ⟨_, rfl, _⟩ := h; exact Keeps.refl _
  | o :: l, F, F', X, X', u, u', h => by
    simp only [evOpsD] at h
    split at h <;> try (cases h; done)
    cases hr : isRec o.op with
    | true => rw [hr] at h; exact evOpsD_keeps h
    | false =>
      rw [hr] at h
      simp only [cond_false] at h
      split at h <;> try (cases h; done)
      split at h <;> try (cases h; done)
      rename_i hs
      exact (sem_keeps hs).trans (evOpsD_keeps h)

theorem evOpsD_sound {N : Nat} {ops : Array Oper} {c0 : Frame} {cs : List Frame} {Q : Exit → Act → FrameMode → World → Prop} {F' : Tr SV} {X' : XW} {u' : Mode} (hp : Pc X') :
    ∀ (n k : Nat) (F : Tr SV) (X : XW) (u : Mode) (E : Env) (a : Act) (w : World) (m : FrameMode), k + n = ops.size → evOpsD P N (ops.toList.drop k) F X u = some (F', X', u') → Emb P B w0 X E w → FrRel ds N E F a → ModeRel E u m →
      (∀ E' a' w' m', Le E E' → FrRel ds N E' F' a' → Emb P B w0 X' E' w' → ModeRel E' u' m' → Q .normal a' m' w') → wpOpsSIn (wideR none) 0 P ops (OnMode c0 cs Q) (List.range' k n) a ({ c0 with mode := m } :: cs) w
  | 0, k, F, X, u, E, a, w, m, hk, h, hE, hF, hM, hQ => by
    rw [List.drop_of_length_le (by simp; omega)] at h
    simp only [evOpsD, Option.some.injEq, Prod.mk.injEq] at h
    obtain ⟨rfl, rfl, rfl⟩ := h
    exact ⟨m, rfl, hQ E a w m (Le.refl _) hF hE hM⟩
  | n + 1, k, F, X, u, E, a, w, m, hk, h, hE, hF, hM, hQ => by
    have hlt : k < ops.toList.length := by simp; omega
    rw [List.drop_eq_getElem_cons hlt] at h
    have ho : ops[k]? = some ops.toList[k] := by simp [Array.getElem?_eq_getElem (show k < ops.size by omega)]
    generalize ops.toList[k] = o at h ho
    rw [List.range'_succ]
    simp only [wpOpsSIn, ho]
    refine ⟨fun _ _ => trivial, ?_⟩
    simp only [evOpsD] at h
    split at h <;> try (cases h; done)
    rename_i hg
    have hw : Region.wanted o (yielded ops a.tmps) = true := by simp [Region.wanted, hg]
    rw [if_pos hw]
    cases hr : isRec o.op with
    | true =>
      rw [hr] at h
      simp only [cond_true] at h
      have hrun : (execOp a.eval o).run P w = .ok .recover w := by
        unfold isRec at hr
        split at hr <;> try (cases hr; done)
        rename_i c hc
        split at hr <;> try (cases hr; done)
        rename_i hb
        simp [execOp, hc, resolve, hb, invoke, builtin]
      simp only [hrun]
      rcases recE_rel (c0 := c0) (cs := cs) hM with ⟨v, m', h1, h2, h3⟩ | ⟨h1, h2, h3⟩
      · simp only [h1]
        exact evOpsD_sound hp n (k + 1) _ X _ E _ w m' (by omega) h hE (hF.put h2) h3 hQ
      · simp only [h1]
        rw [h2, h3] at h
        exact evOpsD_sound hp n (k + 1) _ X _ E _ w m (by omega) h hE (hF.put (d := o.dst) (v := .nilIface) rfl) hM hQ
    | false =>
      rw [hr] at h
      simp only [cond_false] at h
      split at h <;> try (cases h; done)
      rename_i vals hl
      split at h <;> try (cases h; done)
      rename_i y X1 hs
      have hp1 : Pc X1 := (evOpsD_keeps h).pc hp
      obtain ⟨E1, v, w1, a1, a2, a3, a4⟩ := sem_sound hE (looks_sound hE hF hl) hp1 hs
      rcases a2 with a2 | ⟨a2, rfl⟩
      · simp only [a2]
        exact evOpsD_sound hp n (k + 1) _ X1 _ E1 _ w1 m (by omega) h a4 ((hF.mono a1).put a3) (hM.sub a1.sub) (fun E' a' w' m' b1 => hQ E' a' w' m' (a1.trans b1))
      · simp only [a2]
        exact evOpsD_sound hp n (k + 1) _ X1 _ E1 _ w1 m (by omega) h a4 ((hF.mono a1).put a3) (hM.sub a1.sub) (fun E' a' w' m' b1 => hQ E' a' w' m' (a1.trans b1))

theorem codeD_keeps {N : Nat} {ev : Code → Tr SV → XW → R} (hek : ∀ c F X ex F' X', ev c F X = some (ex, F', X') → KeepsD X X') : ∀ (c : Code) (F : Tr SV) (X : XW) (u : Mode) (ex : Ex) (F' : Tr SV) (X' : XW) (u' : Mode), evCD P N ev c F X u = some (ex, F', X', u') → KeepsD X X' := by
  have plain : ∀ (c : Code) (F : Tr SV) (X : XW) (u : Mode) (ex : Ex) (F' : Tr SV) (X' : XW) (u' : Mode), (match ev c F X with | some (ex, F, X) => some (ex, F, X, u) | none => none) = some (ex, F', X', u') → KeepsD X X' := by
    intro c F X u ex F' X' u' h
    split at h <;> cases h
    rename_i he
    exact hek _ _ _ _ _ _ he
  intro c
  induction c with
  | seq a b iha ihb =>
    intro F X u ex F' X' u' h
    simp only [evCD] at h
    split at h
    · rename_i h1; exact (iha _ _ _ _ _ _ _ h1).trans (ihb _ _ _ _ _ _ _ h)
    · exact iha _ _ _ _ _ _ _ h
  | cond c a b iha ihb =>
    intro F X u ex F' X' u' h
    simp only [evCD] at h
    split at h <;> try (cases h; done)
    split at h
    · rename_i hb; exact (asB_keeps hb).toD.trans (iha _ _ _ _ _ _ _ h)
    · rename_i hb; exact (asB_keeps hb).toD.trans (ihb _ _ _ _ _ _ _ h)
    · cases h
  | region id ops d =>
    intro F X u ex F' X' u' h
    cases d with
    | true => exact plain _ _ _ _ _ _ _ _ h
    | false =>
      simp only [evCD] at h
      cases hr : hasRec ops.toList with
      | true =>
        rw [hr] at h
        simp only [cond_true] at h
        split at h <;> cases h
        rename_i he
        exact (evOpsD_keeps he).toD
      | false => rw [hr] at h; exact plain _ _ _ _ _ _ _ _ h
  | _ => intro F X u ex F' X' u' h; exact plain _ _ _ _ _ _ _ _ h

theorem codeD_good {N : Nat} {ord : Nat → Hint} {ev : Code → Tr SV → XW → R} (hev : ∀ c F X ex F' X', codeOK P ord false c = true → ev c F X = some (ex, F', X') → Pc X' → CodeGood P none N c F X ex F' X')
    (hek : ∀ c F X ex F' X', ev c F X = some (ex, F', X') → KeepsD X X') : ∀ (c : Code) (F : Tr SV) (X : XW) (u : Mode) (ex : Ex) (F' : Tr SV) (X' : XW) (u' : Mode), codeOK P ord false c = true → evCD P N ev c F X u = some (ex, F', X', u') → Pc X' → CodeDGood P N c F X u ex F' X' u' := by
  have plain : ∀ (c : Code) (F : Tr SV) (X : XW) (u : Mode) (ex : Ex) (F' : Tr SV) (X' : XW) (u' : Mode), codeOK P ord false c = true → (match ev c F X with | some (ex, F, X) => some (ex, F, X, u) | none => none) = some (ex, F', X', u') → Pc X' → CodeDGood P N c F X u ex F' X' u' := by
    intro c F X u ex F' X' u' hok h hp
    split at h <;> cases h
    rename_i he
    obtain ⟨_, k⟩ := hev _ _ _ _ _ _ hok he hp
    intro B w0 E ds a w m c0 cs Q hE hF hD hM hQ
    refine wpSIn_of_wpIn rfl (k none B w0 E ds a w _ hE hF hD rfl ?_)
    intro E' ds' a' w' e h1 h2 h3 h4 h5
    exact ⟨m, rfl, hQ E' ds' a' w' e m h1 h2 h3 h4 (hM.sub h1.sub) h5⟩
  intro c
  induction c with
  | seq a b iha ihb =>
    intro F X u ex F' X' u' hok h hp
    simp only [codeOK, Bool.and_eq_true] at hok
    simp only [evCD] at h
    split at h
    · rename_i F1 X1 u1 h1
      have hp1 : Pc X1 := (codeD_keeps hek _ _ _ _ _ _ _ _ h).pc hp
      have k1 := iha _ _ _ _ _ _ _ hok.1 h1 hp1
      have k2 := ihb _ _ _ _ _ _ _ hok.2 h hp
      intro B w0 E ds a' w m c0 cs Q hE hF hD hM hQ
      refine wpSIn_seq ?_
      have := k1 B w0 E ds a' w m c0 cs (fun e a2 m2 w2 => Exit.thenS (b.wpSIn (wideR none) 0 P (OnMode c0 cs Q)) (OnMode c0 cs Q) e a2 ({ c0 with mode := m2 } :: cs) w2) hE hF hD hM ?_
      · intro fr k x1 x2 x3 x4
        obtain ⟨e, a2, cs2, w2, l, ⟨m2, rfl, q⟩, r⟩ := this fr k x1 x2 x3 x4
        exact ⟨e, a2, _, w2, l, q, r⟩
      · intro E' ds' a2 w2 e m2 g1 g2 g3 g4 g5 g6
        cases g6
        exact k2 B w0 E' ds' a2 w2 m2 c0 cs Q g4 g2 g3 g5 (hQ.le g1)
    · rename_i r hne
      have k1 := iha _ _ _ _ _ _ _ hok.1 h hp
      intro B w0 E ds a' w m c0 cs Q hE hF hD hM hQ
      refine wpSIn_seq ?_
      have := k1 B w0 E ds a' w m c0 cs (fun e a2 m2 w2 => Exit.thenS (b.wpSIn (wideR none) 0 P (OnMode c0 cs Q)) (OnMode c0 cs Q) e a2 ({ c0 with mode := m2 } :: cs) w2) hE hF hD hM ?_
      · intro fr k x1 x2 x3 x4
        obtain ⟨e, a2, cs2, w2, l, ⟨m2, rfl, q⟩, r⟩ := this fr k x1 x2 x3 x4
        exact ⟨e, a2, _, w2, l, q, r⟩
      · intro E' ds' a2 w2 e m2 g1 g2 g3 g4 g5 g6
        have hq := hQ E' ds' a2 w2 e m2 g1 g2 g3 g4 g5 g6
        cases ex with
        | nm => exact absurd h (hne F' X' u')
        | ex id => cases g6; exact ⟨m2, rfl, hq⟩
        | ret => cases g6; exact ⟨m2, rfl, hq⟩
        | gt l => cases g6; exact ⟨m2, rfl, hq⟩
        | pan ch => obtain ⟨p, _, rfl⟩ := g6; exact ⟨m2, rfl, hq⟩
  | cond c a b iha ihb =>
    intro F X u ex F' X' u' hok h hp
    simp only [codeOK, Bool.and_eq_true] at hok
    simp only [evCD] at h
    split at h <;> try (cases h; done)
    rename_i z hz
    split at h
    · rename_i X1 hb
      have k1 := iha _ _ _ _ _ _ _ hok.1 h hp
      have hp1 : Pc X1 := (codeD_keeps hek _ _ _ _ _ _ _ _ h).pc hp
      obtain ⟨h1, h2, h3, h4⟩ := asB_spec hb
      intro B w0 E ds a' w m c0 cs Q hE hF hD hM hQ
      exact wpSIn_cond ((h1 hp1).2 _ _ (look_sound hE hF hz)) (k1 B w0 E ds a' w m c0 cs Q (hE.same h2 h3 h4) hF (by rw [asB_dfs hb]; exact hD) hM hQ)
    · rename_i X1 hb
      have k1 := ihb _ _ _ _ _ _ _ hok.2 h hp
      have hp1 : Pc X1 := (codeD_keeps hek _ _ _ _ _ _ _ _ h).pc hp
      obtain ⟨h1, h2, h3, h4⟩ := asB_spec hb
      intro B w0 E ds a' w m c0 cs Q hE hF hD hM hQ
      exact wpSIn_cond ((h1 hp1).2 _ _ (look_sound hE hF hz)) (k1 B w0 E ds a' w m c0 cs Q (hE.same h2 h3 h4) hF (by rw [asB_dfs hb]; exact hD) hM hQ)
    · cases h
  | region id ops d =>
    intro F X u ex F' X' u' hok h hp
    cases d with
    | true => exact plain _ _ _ _ _ _ _ _ hok h hp
    | false =>
      simp only [evCD] at h
      cases hr : hasRec ops.toList with
      | true =>
        rw [hr] at h
        simp only [cond_true] at h
        split at h <;> cases h
        rename_i he
        intro B w0 E ds a' w m c0 cs Q hE hF hD hM hQ
        refine wpSIn_region ?_
        rw [List.range_eq_range']
        refine evOpsD_sound (c0 := c0) (cs := cs) hp ops.size 0 F X u E a' w m (by omega) (by simpa using he) hE hF hM ?_
        intro E' a2 w2 m2 g1 g2 g3 g4
        exact hQ E' ds a2 w2 .normal m2 g1 g2 (by rw [(evOpsD_keeps he).dfs]; exact hD.sub g1.sub) g3 g4 rfl
      | false => rw [hr] at h; exact plain _ _ _ _ _ _ _ _ hok h hp
  | _ => intro F X u ex F' X' u' hok h hp; exact plain _ _ _ _ _ _ _ _ hok h hp
end
end Go.Xe
