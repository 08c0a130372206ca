/- A part of an evaluator for the program's code: it runs code over an abstract memory, and what it answers holds of every run. -/
import Derived.Test.YtomialandfplkaaDoorXeK
namespace Go.Xe
section
variable {P : Program} {B : Nat} {w0 w : World} {E : Env}

def exOf : Ex → Exit
  | .nm => .normal
  | .ex id => .exit id
  | .ret => .ret

/-- What a code that the evaluator has gone through stands for. -/
def CodeGood (P : Program) (N : Nat) (c : Code) (F : Tr SV) (X : XW) (ex : Ex) (F' : Tr SV) (X' : XW) : Prop :=
  Pc X ∧ ∀ (ro : Option Nat) B w0 E a w (Q : Exit → Act → World → Prop), Emb B w0 X E w → FrRel N E F a → (∀ E' a' w', Le E E' → FrRel N E' F' a' → Emb B w0 X' E' w' → Q (exOf ex) a' w') → c.wpIn (wideR ro) 0 P Q a w

theorem Emb.noOrc {X : XW} (h : Emb B w0 X E w) (l : List Bool) : Emb B w0 { X with orc := l } E w := h.same rfl rfl rfl

theorem loop_good {N : Nat} {c : Code} {body : Tr SV → XW → R} (hbody : ∀ F X ex F' X', body F X = some (ex, F', X') → Pc X' → CodeGood P N c F X ex F' X') : ∀ (fuel : Nat) (F : Tr SV) (X : XW) (ex : Ex) (F' : Tr SV) (X' : XW),
    loopE body fuel F X = some (ex, F', X') → Pc X' → Pc X ∧ ∀ (ro : Option Nat) B w0 E a w (Q : Exit → Act → World → Prop), Emb B w0 X E w → FrRel N E F a →
      (∀ E' a' w', Le E E' → FrRel N E' F' a' → Emb B w0 X' E' w' → Q (exOf ex) a' w') → Code.roundsIn (wideR ro) 0 P c Q fuel a w
  | 0, F, X, ex, F', X', h, _ => by simp [loopE] at h
  | fuel + 1, F, X, ex, F', X', h, hp => by
    have h' : (match body F X with | some (.nm, F, X) => loopE body fuel F X | r => r) = some (ex, F', X') := h
    split at h'
    · rename_i F1 X1 hb
      obtain ⟨p1, k1⟩ := loop_good hbody fuel F1 X1 ex F' X' h' hp
      obtain ⟨p2, k2⟩ := hbody F X .nm F1 X1 hb p1
      refine ⟨p2, fun ro B w0 E a w Q hE hF hQ => ?_⟩
      rw [roundsIn_succ]
      exact k2 ro B w0 E a w _ hE hF (fun E' a' w' a1 a2 a3 => k1 ro B w0 E' a' w' Q a3 a2 (fun E'' a'' w'' b1 => hQ E'' a'' w'' (a1.trans b1)))
    · rename_i r hne
      obtain ⟨p2, k2⟩ := hbody F X ex F' X' h' hp
      refine ⟨p2, fun ro B w0 E a w Q hE hF hQ => ?_⟩
      rw [roundsIn_succ]
      refine k2 ro B w0 E a w _ hE hF (fun E' a' w' a1 a2 a3 => ?_)
      cases ex with
      | nm => exact absurd h' (hne F' X')
      | ex id => exact hQ E' a' w' a1 a2 a3
      | ret => exact hQ E' a' w' a1 a2 a3


theorem region_good (callf : CallF) (hcall : CallOK P callf) (hB : HasFn P callf) (hc : KeepsOK callf) (hm : P.follows .mixedOrders = true) {N : Nat} {id : Nat} {ops : Array Oper} (hN : N + 2 < 2 ^ depth) {F F' : Tr SV} {X X' : XW} {is : List Nat} {chk : List (Nat × List Nat)} (hok : drawOK P chk ops is = true)
    (h : evD P callf N ops.toList chk is [] F { X with orc := [] } = some (F', X')) (hpc : Pc X') : CodeGood P N (.region id ops true) F X .nm F' { X' with orc := X.orc } := by
  simp only [drawOK, Bool.and_eq_true, Array.all_eq_true_iff_forall_mem] at hok
  obtain ⟨⟨hsel, hlen⟩, hlex⟩ := hok
  have hlen' := Nat.eq_of_beq_eq_true hlen
  refine ⟨fun p hp' => d_pc hcall h hpc p hp', fun ro B w0 E a w Q hE hF hQ => ?_⟩
  refine wpIn_region_any hm ?_
  obtain ⟨S, hany, _⟩ := anyE_lex hc hN is [] (Array.replicate ops.size false) F { X with orc := [] } (by simp) rfl hlex h
  rw [hlen'] at hany
  refine wpAny_of_anyE hcall hB hsel (fun F1 X1 hg => by rw [hg.2]; exact hpc) ro ops.size _ F _ E a _ hany (hE.noOrc []).drew hF ?_
  rintro F1 X1 E' a' w' ⟨he, rfl⟩ hle hF' hE'
  exact hQ E' a' w' hle (hF'.eqv he.symm) (hE'.noOrc _)

theorem code_good (callf : CallF) (hcall : CallOK P callf) (hB : HasFn P callf) (hc : KeepsOK callf) (hm : P.follows .mixedOrders = true) {ord : Nat → Hint} {N fuel : Nat} (hN : N + 2 < 2 ^ depth) : ∀ (c : Code) (F : Tr SV) (X : XW) (ex : Ex) (F' : Tr SV) (X' : XW), codeOK P ord c = true →
    evC P callf ord N fuel c F X = some (ex, F', X') → Pc X' → CodeGood P N c F X ex F' X'
  | .skip, F, X, ex, F', X', _, h, hp => by
    simp only [evC, Option.some.injEq, Prod.mk.injEq] at h
    obtain ⟨rfl, rfl, rfl⟩ := h
    exact ⟨hp, fun ro B w0 E a w Q hE hF hQ => wpIn_skip (hQ E a w (Le.refl _) hF hE)⟩
  | .region id ops false, F, X, ex, F', X', hok, h, hp => by
    simp only [evC] at h
    split at h <;> try (cases h; done)
    rename_i F1 X1 hops
    simp only [Option.some.injEq, Prod.mk.injEq] at h
    obtain ⟨rfl, rfl, rfl⟩ := h
    refine ⟨ops_pc hcall hops hp, fun ro B w0 E a w Q hE hF hQ => wpIn_region_list ?_⟩
    have hsel : ∀ o ∈ ops.toList, noSel o.op = true := fun o ho => by have hok' : ops.all (fun o => noSel o.op) = true := hok; rw [Array.all_eq_true_iff_forall_mem] at hok'; exact hok' o (by simpa using ho)
    exact ops_sound hcall hB ro hp ops.toList F X E a w hsel hE hF hops hQ
  | .region id ops true, F, X, ex, F', X', hok, h, hp => by
    simp only [evC] at h
    simp only [codeOK] at hok
    split at h <;> try (cases h; done)
    rename_i F1 X1 hd
    simp only [Option.some.injEq, Prod.mk.injEq] at h
    obtain ⟨rfl, rfl, rfl⟩ := h
    cases ho : ord id with
    | text => rw [ho] at hok hd; exact region_good callf hcall hB hc hm hN hok hd hp
    | skip => rw [ho] at hd; cases hd
    | ord is chk => rw [ho] at hok hd; exact region_good callf hcall hB hc hm hN hok hd hp
  | .seq x y, F, X, ex, F', X', hok, h, hp => by
    simp only [codeOK, Bool.and_eq_true] at hok
    simp only [evC] at h
    split at h
    · rename_i F1 X1 hx
      obtain ⟨p1, k1⟩ := code_good callf hcall hB hc hm hN y F1 X1 ex F' X' hok.2 h hp
      obtain ⟨p2, k2⟩ := code_good callf hcall hB hc hm hN x F X .nm F1 X1 hok.1 hx p1
      exact ⟨p2, fun ro B w0 E a w Q hE hF hQ => wpIn_seq (k2 ro B w0 E a w _ hE hF (fun E' a' w' a1 a2 a3 => k1 ro B w0 E' a' w' Q a3 a2 (fun E'' a'' w'' b1 => hQ E'' a'' w'' (a1.trans b1))))⟩
    · rename_i r hne
      obtain ⟨p2, k2⟩ := code_good callf hcall hB hc hm hN x F X ex F' X' hok.1 h hp
      refine ⟨p2, fun ro B w0 E a w Q hE hF hQ => wpIn_seq (k2 ro B w0 E a w _ hE hF (fun E' a' w' a1 a2 a3 => ?_))⟩
      cases ex with
      | nm => exact absurd h (hne F' X')
      | ex id => exact hQ E' a' w' a1 a2 a3
      | ret => exact hQ E' a' w' a1 a2 a3
  | .cond c x y, F, X, ex, F', X', hok, h, hp => by
    simp only [codeOK, Bool.and_eq_true] at hok
    simp only [evC] at h
    split at h <;> try (cases h; done)
    rename_i z hz
    split at h
    · rename_i X1 hb
      obtain ⟨p1, k1⟩ := code_good callf hcall hB hc hm hN x F X1 ex F' X' hok.1 h hp
      obtain ⟨h1, h2, h3, h4⟩ := asB_spec hb
      refine ⟨(h1 p1).1, fun ro B w0 E a w Q hE hF hQ => wpIn_cond_true ((h1 p1).2 _ _ (look_sound hE hF hz)) (k1 ro B w0 E a w Q (hE.same h2 h3 h4) hF hQ)⟩
    · rename_i X1 hb
      obtain ⟨p1, k1⟩ := code_good callf hcall hB hc hm hN y F X1 ex F' X' hok.2 h hp
      obtain ⟨h1, h2, h3, h4⟩ := asB_spec hb
      refine ⟨(h1 p1).1, fun ro B w0 E a w Q hE hF hQ => wpIn_cond_false ((h1 p1).2 _ _ (look_sound hE hF hz)) (k1 ro B w0 E a w Q (hE.same h2 h3 h4) hF hQ)⟩
    · cases h
  | .block id c, F, X, ex, F', X', hok, h, hp => by
    simp only [codeOK] at hok
    simp only [evC] at h
    split at h
    · rename_i id' F1 X1 hx
      cases hb : Nat.beq id' id with
      | true =>
        have e := Nat.eq_of_beq_eq_true hb
        simp only [hb, cond_true, Option.some.injEq, Prod.mk.injEq] at h
        obtain ⟨rfl, rfl, rfl⟩ := h
        obtain ⟨p1, k1⟩ := code_good callf hcall hB hc hm hN c F X _ _ _ hok hx hp
        exact ⟨p1, fun ro B w0 E a w Q hE hF hQ => wpIn_block (k1 ro B w0 E a w _ hE hF (fun E' a' w' a1 a2 a3 => by simp only [exOf, Exit.inBlock, e, if_true]; exact hQ E' a' w' a1 a2 a3))⟩
      | false =>
        have e := Nat.ne_of_beq_eq_false hb
        simp only [hb, cond_false, Option.some.injEq, Prod.mk.injEq] at h
        obtain ⟨rfl, rfl, rfl⟩ := h
        obtain ⟨p1, k1⟩ := code_good callf hcall hB hc hm hN c F X _ _ _ hok hx hp
        exact ⟨p1, fun ro B w0 E a w Q hE hF hQ => wpIn_block (k1 ro B w0 E a w _ hE hF (fun E' a' w' a1 a2 a3 => by simp only [exOf, Exit.inBlock, e, if_false]; exact hQ E' a' w' a1 a2 a3))⟩
    · rename_i r hne
      obtain ⟨p1, k1⟩ := code_good callf hcall hB hc hm hN c F X ex F' X' hok h hp
      refine ⟨p1, fun ro B w0 E a w Q hE hF hQ => wpIn_block (k1 ro B w0 E a w _ hE hF (fun E' a' w' a1 a2 a3 => ?_))⟩
      cases ex with
      | nm => exact hQ E' a' w' a1 a2 a3
      | ex id => exact absurd h (hne id F' X')
      | ret => exact hQ E' a' w' a1 a2 a3
  | .loop c, F, X, ex, F', X', hok, h, hp => by
    simp only [codeOK] at hok
    simp only [evC] at h
    obtain ⟨p1, k1⟩ := loop_good (fun F X ex F' X' h hp => code_good callf hcall hB hc hm hN c F X ex F' X' hok h hp) fuel F X ex F' X' h hp
    exact ⟨p1, fun ro B w0 E a w Q hE hF hQ => wpIn_loop_rounds fuel (k1 ro B w0 E a w Q hE hF hQ)⟩
  | .exit id, F, X, ex, F', X', _, h, hp => by
    simp only [evC, Option.some.injEq, Prod.mk.injEq] at h
    obtain ⟨rfl, rfl, rfl⟩ := h
    exact ⟨hp, fun ro B w0 E a w Q hE hF hQ => wpIn_exit (hQ E a w (Le.refl _) hF hE)⟩
  | .label l, F, X, ex, F', X', _, h, hp => by
    simp only [evC, Option.some.injEq, Prod.mk.injEq] at h
    obtain ⟨rfl, rfl, rfl⟩ := h
    exact ⟨hp, fun ro B w0 E a w Q hE hF hQ => wpIn_label (hQ E a w (Le.refl _) hF hE)⟩
  | .ret, F, X, ex, F', X', _, h, hp => by
    simp only [evC, Option.some.injEq, Prod.mk.injEq] at h
    obtain ⟨rfl, rfl, rfl⟩ := h
    exact ⟨hp, fun ro B w0 E a w Q hE hF hQ => wpIn_ret (hQ E a w (Le.refl _) hF hE)⟩
  | .scope _, _, _, _, _, _, _, h, _ => by simp [evC] at h
  | .goto _, _, _, _, _, _, _, h, _ => by simp [evC] at h
  | .rangeFunc _ _ _ _, _, _, _, _, _, _, h, _ => by simp [evC] at h
  | .refuse _, _, _, _, _, _, _, h, _ => by simp [evC] at h
end
end Go.Xe
