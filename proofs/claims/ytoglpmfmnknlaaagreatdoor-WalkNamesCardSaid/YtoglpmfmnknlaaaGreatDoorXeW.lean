/- A part of an evaluator for the code. -/
import Derived.Test.YtoglpmfmnknlaaaGreatDoorXeL
namespace Go.Xe
section
variable {P : Program} {B : Nat} {w0 w : World} {E : Env} {ds : List Deferred}

def JumpOK (P : Program) (ord : Nat → Hint) (rd : Option Nat) (N : Nat) (jump : JumpF) : Prop := ∀ c rest F X ex F' X', codeOK P ord rd.isSome c = true → codeOK P ord rd.isSome rest = true → jump c rest F X = some (ex, F', X') → Pc X' →
  Pc X ∧ ∃ n, ∀ (ro : Option Nat) B w0 E ds a w (Q : Exit → Act → World → Prop), Emb P B w0 X E w → FrRel ds N E F a → DenDs E X.dfs ds → RoRel E rd ro → Post P B w0 N E ex F' X' Q → rest.wpIn (wideR ro) 0 P (scPost (wideR ro) 0 P c Q n) a w

theorem code_good (callf : CallF) (hcall : CallOK P callf) (hc : KeepsOK callf) (hfrm : FrameOK callf) (hm : P.follows .mixedOrders = true) {ord : Nat → Hint} {me : FuncId} {rd : Option Nat} {N fuel : Nat} {jump : JumpF} (hj : JumpOK P ord rd N jump) : ∀ (c : Code) (F : Tr SV) (X : XW) (ex : Ex) (F' : Tr SV) (X' : XW), codeOK P ord rd.isSome c = true →
    evC P callf ord me rd N fuel jump c F X = some (ex, F', X') → Pc X' → CodeGood P rd N c F X ex F' X'
  | .skip, F, X, ex, F', X', _, h, hp => by
    simp only [evC, Option.some.injEq, Prod.mk.injEq] at h
    obtain ⟨rfl, rfl, rfl⟩ := h
    exact ⟨hp, fun ro B w0 E ds a w Q hE hF hD hR hQ => wpIn_skip (hQ E ds a w .normal (Le.refl _) hF hD hE rfl)⟩
  | .region id ops false, F, X, ex, F', X', hok, h, hp => by
    simp only [evC] at h
    have hsel : ∀ {E : Env} {ro : Option Nat}, RoRel E rd ro → ∀ o ∈ ops.toList, noSel2 o.op = true ∧ (isDefer o.op = true → ro = none) := by
      intro E ro hR o ho
      have hok' : (bif rd.isSome then ops.all (fun o => noSel o.op) else ops.all fun o => noSel2 o.op) = true := hok
      cases rd with
      | none =>
        simp only [Option.isSome_none, cond_false, Array.all_eq_true_iff_forall_mem] at hok'
        exact ⟨hok' o (by simpa using ho), fun _ => hR⟩
      | some k =>
        simp only [Option.isSome_some, cond_true, Array.all_eq_true_iff_forall_mem] at hok'
        have h1 := hok' o (by simpa using ho)
        refine ⟨?_, fun hd => ?_⟩
        · cases hop : o.op <;> first | rfl | (rw [hop] at h1; simp [noSel] at h1)
        · cases hop : o.op <;> first | (rw [hop] at hd; simp [isDefer] at hd; done) | (rw [hop] at h1; simp [noSel] at h1)
    split at h <;> try (cases h; done)
    · rename_i F1 X1 hops
      simp only [Option.some.injEq, Prod.mk.injEq] at h
      obtain ⟨rfl, rfl, rfl⟩ := h
      refine ⟨evOps_pc hcall hops hp, fun ro B w0 E ds a w Q hE hF hD hR hQ => wpIn_region_list ?_⟩
      exact evOps_sound hcall hc ro hp ops.toList F X E ds a w (hsel hR) hE hF hD hops (fun _ E' ds' a' w' h1 h2 h3 h4 => hQ E' ds' a' w' .normal h1 h2 h3 h4 rfl) (fun ch hr => by cases hr)
    · rename_i ch F1 X1 hops
      simp only [Option.some.injEq, Prod.mk.injEq] at h
      obtain ⟨rfl, rfl, rfl⟩ := h
      refine ⟨evOps_pc hcall hops hp, fun ro B w0 E ds a w Q hE hF hD hR hQ => wpIn_region_list ?_⟩
      exact evOps_sound hcall hc ro hp ops.toList F X E ds a w (hsel hR) hE hF hD hops (fun hr => by cases hr) (fun ch' hr E' ds' a' w' p h1 h2 h3 h4 h5 => by cases hr; exact hQ E' ds' a' w' (.panic p) h1 h2 h3 h4 ⟨p, h5, rfl⟩)
  | .region id ops true, F, X, ex, F', X', hok, h, hp => by
    simp only [evC] at h
    simp only [codeOK] at hok
    split at h <;> try (cases h; done)
    rename_i F1 X1 hd
    simp only [Option.some.injEq, Prod.mk.injEq] at h
    obtain ⟨rfl, rfl, rfl⟩ := h
    cases ho : ord id with
    | text => rw [ho] at hok hd; exact region_good callf hcall hc hm hok hd hp
    | skip => rw [ho] at hd; cases hd
    | ord is chk => rw [ho] at hok hd; exact region_good callf hcall hc hm hok hd hp
    | news is rs =>
      rw [ho] at hok hd
      simp only [force_eq] at hd
      cases hdd : allDead X X.next rs with
      | false => rw [hdd] at hd; cases hd
      | true =>
        rw [hdd] at hd
        exact news_good callf hcall hc hfrm hm hok hdd hd hp
  | .seq x y, F, X, ex, F', X', hok, h, hp => by
    simp only [codeOK, Bool.and_eq_true] at hok
    simp only [evC] at h
    split at h
    · rename_i F1 X1 hx
      obtain ⟨p1, k1⟩ := code_good callf hcall hc hfrm hm hj y F1 X1 ex F' X' hok.2 h hp
      obtain ⟨p2, k2⟩ := code_good callf hcall hc hfrm hm hj x F X .nm F1 X1 hok.1 hx p1
      refine ⟨p2, fun ro B w0 E ds a w Q hE hF hD hR hQ => wpIn_seq (k2 ro B w0 E ds a w _ hE hF hD hR (fun E' ds' a' w' e a1 a2 a3 a4 a5 => ?_))⟩
      cases a5
      exact k1 ro B w0 E' ds' a' w' Q a4 a2 a3 (hR.sub a1.sub) (hQ.le a1)
    · rename_i r hne
      obtain ⟨p2, k2⟩ := code_good callf hcall hc hfrm hm hj x F X ex F' X' hok.1 h hp
      refine ⟨p2, fun ro B w0 E ds a w Q hE hF hD hR hQ => wpIn_seq (k2 ro B w0 E ds a w _ hE hF hD hR (hQ.mono fun E' e a w he hq => ?_))⟩
      cases ex with
      | nm => exact absurd h (hne F' X')
      | ex id => cases he; exact hq
      | ret => cases he; exact hq
      | gt l => cases he; exact hq
      | pan ch => obtain ⟨p, _, rfl⟩ := he; exact hq
  | .cond c x y, F, X, ex, F', X', hok, h, hp => by
    simp only [codeOK, Bool.and_eq_true] at hok
    simp only [evC] at h
    split at h <;> try (cases h; done)
    rename_i z hz
    split at h
    · rename_i X1 hb
      obtain ⟨p1, k1⟩ := code_good callf hcall hc hfrm hm hj x F X1 ex F' X' hok.1 h hp
      obtain ⟨h1, h2, h3, h4⟩ := asB_spec hb
      have hd := asB_dfs hb
      exact ⟨(h1 p1).1, fun ro B w0 E ds a w Q hE hF hD hR hQ => wpIn_cond_true ((h1 p1).2 _ _ (look_sound hE hF hz)) (k1 ro B w0 E ds a w Q (hE.same h2 h3 h4) hF (by rw [hd]; exact hD) hR hQ)⟩
    · rename_i X1 hb
      obtain ⟨p1, k1⟩ := code_good callf hcall hc hfrm hm hj y F X1 ex F' X' hok.2 h hp
      obtain ⟨h1, h2, h3, h4⟩ := asB_spec hb
      have hd := asB_dfs hb
      exact ⟨(h1 p1).1, fun ro B w0 E ds a w Q hE hF hD hR hQ => wpIn_cond_false ((h1 p1).2 _ _ (look_sound hE hF hz)) (k1 ro B w0 E ds a w Q (hE.same h2 h3 h4) hF (by rw [hd]; exact hD) hR hQ)⟩
    · cases h
  | .block id c, F, X, ex, F', X', hok, h, hp => by
    simp only [codeOK] at hok
    simp only [evC] at h
    split at h
    · rename_i id' F1 X1 hx
      cases hb : Nat.beq id' id with
      | true =>
        have e := Nat.eq_of_beq_eq_true hb
        simp only [hb, cond_true, Option.some.injEq, Prod.mk.injEq] at h
        obtain ⟨rfl, rfl, rfl⟩ := h
        obtain ⟨p1, k1⟩ := code_good callf hcall hc hfrm hm hj c F X _ _ _ hok hx hp
        refine ⟨p1, fun ro B w0 E ds a w Q hE hF hD hR hQ => wpIn_block (k1 ro B w0 E ds a w _ hE hF hD hR (fun E' ds' a' w' ee a1 a2 a3 a4 a5 => ?_))⟩
        cases a5
        simp only [Exit.inBlock, e, if_true]; exact hQ E' ds' a' w' .normal a1 a2 a3 a4 rfl
      | false =>
        have e := Nat.ne_of_beq_eq_false hb
        simp only [hb, cond_false, Option.some.injEq, Prod.mk.injEq] at h
        obtain ⟨rfl, rfl, rfl⟩ := h
        obtain ⟨p1, k1⟩ := code_good callf hcall hc hfrm hm hj c F X _ _ _ hok hx hp
        refine ⟨p1, fun ro B w0 E ds a w Q hE hF hD hR hQ => wpIn_block (k1 ro B w0 E ds a w _ hE hF hD hR (fun E' ds' a' w' ee a1 a2 a3 a4 a5 => ?_))⟩
        cases a5
        simp only [Exit.inBlock, e, if_false]; exact hQ E' ds' a' w' (.exit id') a1 a2 a3 a4 rfl
    · rename_i r hne
      obtain ⟨p1, k1⟩ := code_good callf hcall hc hfrm hm hj c F X ex F' X' hok h hp
      refine ⟨p1, fun ro B w0 E ds a w Q hE hF hD hR hQ => wpIn_block (k1 ro B w0 E ds a w _ hE hF hD hR (hQ.mono fun E' e a w he hq => ?_))⟩
      cases ex with
      | nm => cases he; exact hq
      | ex id => exact absurd h (hne id F' X')
      | ret => cases he; exact hq
      | gt l => cases he; exact hq
      | pan ch => obtain ⟨p, _, rfl⟩ := he; exact hq
  | .loop c, F, X, ex, F', X', hok, h, hp => by
    simp only [codeOK] at hok
    simp only [evC] at h
    obtain ⟨p1, k1⟩ := loop_good (rd := rd) (fun F X ex F' X' h hp => code_good callf hcall hc hfrm hm hj c F X ex F' X' hok h hp) fuel F X ex F' X' h hp
    exact ⟨p1, fun ro B w0 E ds a w Q hE hF hD hR hQ => wpIn_loop_rounds fuel (k1 ro B w0 E ds a w Q hE hF hD hR hQ)⟩
  | .exit id, F, X, ex, F', X', _, h, hp => by
    simp only [evC, Option.some.injEq, Prod.mk.injEq] at h
    obtain ⟨rfl, rfl, rfl⟩ := h
    exact ⟨hp, fun ro B w0 E ds a w Q hE hF hD hR hQ => wpIn_exit (hQ E ds a w (.exit id) (Le.refl _) hF hD hE rfl)⟩
  | .label l, F, X, ex, F', X', _, h, hp => by
    simp only [evC, Option.some.injEq, Prod.mk.injEq] at h
    obtain ⟨rfl, rfl, rfl⟩ := h
    exact ⟨hp, fun ro B w0 E ds a w Q hE hF hD hR hQ => wpIn_label (hQ E ds a w .normal (Le.refl _) hF hD hE rfl)⟩
  | .ret, F, X, ex, F', X', _, h, hp => by
    simp only [evC, Option.some.injEq, Prod.mk.injEq] at h
    obtain ⟨rfl, rfl, rfl⟩ := h
    exact ⟨hp, fun ro B w0 E ds a w Q hE hF hD hR hQ => wpIn_ret (hQ E ds a w .ret (Le.refl _) hF hD hE rfl)⟩
  | .goto l, F, X, ex, F', X', _, h, hp => by
    simp only [evC, Option.some.injEq, Prod.mk.injEq] at h
    obtain ⟨rfl, rfl, rfl⟩ := h
    exact ⟨hp, fun ro B w0 E ds a w Q hE hF hD hR hQ => wpIn_goto (hQ E ds a w (.goto l) (Le.refl _) hF hD hE rfl)⟩
  | .scope c, F, X, ex, F', X', hok, h, hp => by
    simp only [codeOK] at hok
    simp only [evC] at h
    split at h
    · rename_i l F1 X1 hx
      split at h
      · rename_i rest hf
        obtain ⟨p1, n, k1⟩ := hj c rest F1 X1 ex F' X' hok (codeOK_label c l rest hok hf) h hp
        obtain ⟨p2, k2⟩ := code_good callf hcall hc hfrm hm hj c F X _ F1 X1 hok hx p1
        refine ⟨p2, fun ro B w0 E ds a w Q hE hF hD hR hQ => wpIn_scope (n := n + 1) (k2 ro B w0 E ds a w _ hE hF hD hR (fun E' ds' a' w' ee a1 a2 a3 a4 a5 => ?_))⟩
        cases a5
        simp only [scPost, hf]
        exact k1 ro B w0 E' ds' a' w' Q a4 a2 a3 (hR.sub a1.sub) (hQ.le a1)
      · rename_i hf
        simp only [Option.some.injEq, Prod.mk.injEq] at h
        obtain ⟨rfl, rfl, rfl⟩ := h
        obtain ⟨p2, k2⟩ := code_good callf hcall hc hfrm hm hj c F X _ _ _ hok hx hp
        refine ⟨p2, fun ro B w0 E ds a w Q hE hF hD hR hQ => wpIn_scope (n := 0) (k2 ro B w0 E ds a w _ hE hF hD hR (fun E' ds' a' w' ee a1 a2 a3 a4 a5 => ?_))⟩
        cases a5
        simp only [scPost, hf]
        exact hQ E' ds' a' w' (.goto l) a1 a2 a3 a4 rfl
    · rename_i r hne
      obtain ⟨p2, k2⟩ := code_good callf hcall hc hfrm hm hj c F X ex F' X' hok h hp
      refine ⟨p2, fun ro B w0 E ds a w Q hE hF hD hR hQ => wpIn_scope (n := 0) (k2 ro B w0 E ds a w _ hE hF hD hR (hQ.mono fun E' e a w he hq => ?_))⟩
      cases ex with
      | nm => cases he; exact hq
      | ex id => cases he; exact hq
      | ret => cases he; exact hq
      | gt l => exact absurd h (hne l F' X')
      | pan ch => obtain ⟨p, _, rfl⟩ := he; exact hq
  | .rangeFunc g ps as body, F, X, ex, F', X', hok, h, hp => by
    simp only [codeOK, Bool.and_eq_true] at hok
    simp only [evC] at h
    split at h <;> try (cases h; done)
    rename_i y hy
    exact range_good2 callf hcall hc hok.1 hok.2 hy h hp
  | .refuse _, _, _, _, _, _, _, h, _ => by simp [evC] at h

theorem jump_good (callf : CallF) (hcall : CallOK P callf) (hc : KeepsOK callf) (hfrm : FrameOK callf) (hm : P.follows .mixedOrders = true) {ord : Nat → Hint} {me : FuncId} {rd : Option Nat} {N fuel : Nat} : ∀ n, JumpOK P ord rd N (jumpE P callf ord me rd N fuel n)
  | 0, _, _, _, _, _, _, _, _, _, h, _ => by simp [jumpE] at h
  | n + 1, c, rest, F, X, ex, F', X', hok, hok2, h, hp => by
    have ih := jump_good callf hcall hc hfrm hm (ord := ord) (me := me) (rd := rd) (N := N) (fuel := fuel) n
    have h' : (match evC P callf ord me rd N fuel (jumpE P callf ord me rd N fuel n) rest F X with
      | some (.gt l, F, X) => (match findLabel c l with
        | some rest => jumpE P callf ord me rd N fuel n c rest F X
        | none => some (.gt l, F, X))
      | r => r) = some (ex, F', X') := h
    split at h'
    · rename_i l F1 X1 hx
      split at h'
      · rename_i rest2 hf
        obtain ⟨p1, m, k1⟩ := ih c rest2 F1 X1 ex F' X' hok (codeOK_label c l rest2 hok hf) h' hp
        obtain ⟨p2, k2⟩ := code_good callf hcall hc hfrm hm ih rest F X _ F1 X1 hok2 hx p1
        refine ⟨p2, m + 1, fun ro B w0 E ds a w Q hE hF hD hR hQ => k2 ro B w0 E ds a w _ hE hF hD hR (fun E' ds' a' w' ee a1 a2 a3 a4 a5 => ?_)⟩
        cases a5
        simp only [scPost, hf]
        exact k1 ro B w0 E' ds' a' w' Q a4 a2 a3 (hR.sub a1.sub) (hQ.le a1)
      · rename_i hf
        simp only [Option.some.injEq, Prod.mk.injEq] at h'
        obtain ⟨rfl, rfl, rfl⟩ := h'
        obtain ⟨p2, k2⟩ := code_good callf hcall hc hfrm hm ih rest F X _ _ _ hok2 hx hp
        refine ⟨p2, 0, fun ro B w0 E ds a w Q hE hF hD hR hQ => k2 ro B w0 E ds a w _ hE hF hD hR (fun E' ds' a' w' ee a1 a2 a3 a4 a5 => ?_)⟩
        cases a5
        simp only [scPost, hf]
        exact hQ E' ds' a' w' (.goto l) a1 a2 a3 a4 rfl
    · rename_i r hne
      obtain ⟨p2, k2⟩ := code_good callf hcall hc hfrm hm ih rest F X ex F' X' hok2 h' hp
      refine ⟨p2, 0, fun ro B w0 E ds a w Q hE hF hD hR hQ => k2 ro B w0 E ds a w _ hE hF hD hR (hQ.mono fun E' e a w he hq => ?_)⟩
      cases ex with
      | nm => cases he; exact hq
      | ex id => cases he; exact hq
      | ret => cases he; exact hq
      | gt l => exact absurd h' (hne l F' X')
      | pan ch => obtain ⟨p, _, rfl⟩ := he; exact hq
end
end Go.Xe
