/- A part of an evaluator for the code. -/
import Derived.Test.YtoglpmfmnknlaaaGreatDoorXeV
namespace Go.Xe
section
variable {P : Program} {B : Nat} {w0 w : World} {E : Env} {ds : List Deferred}

def ExRel (E : Env) : Ex → Exit → Prop
  | .nm, e => e = .normal
  | .ex id, e => e = .exit id
  | .ret, e => e = .ret
  | .gt l, e => e = .goto l
  | .pan ch, e => ∃ p, DenCh E ch p ∧ e = .panic p

def RoRel (E : Env) : Option Nat → Option Nat → Prop
  | none, ro => ro = none
  | some k, ro => ∃ l c, E k = some (l, c) ∧ ro = some l
theorem RoRel.sub {E E' : Env} (hE : Sub E E') {rd ro : Option Nat} (h : RoRel E rd ro) : RoRel E' rd ro := by
  cases rd with
  | none => exact h
  | some k => obtain ⟨l, c, h1, h2⟩ := h; exact ⟨l, c, hE _ _ h1, h2⟩

def Post (P : Program) (B : Nat) (w0 : World) (N : Nat) (E : Env) (ex : Ex) (F' : Tr SV) (X' : XW) (Q : Exit → Act → World → Prop) : Prop :=
  ∀ E' ds' a' w' e, Le E E' → FrRel ds' N E' F' a' → DenDs E' X'.dfs ds' → Emb P B w0 X' E' w' → ExRel E' ex e → Q e a' w'
theorem Post.le {N : Nat} {E E1 : Env} {ex : Ex} {F' : Tr SV} {X' : XW} {Q : Exit → Act → World → Prop} (h : Post P B w0 N E ex F' X' Q) (hle : Le E E1) : Post P B w0 N E1 ex F' X' Q :=
  fun E' ds' a' w' e h1 => h E' ds' a' w' e (hle.trans h1)
theorem Post.mono {N : Nat} {E : Env} {ex : Ex} {F' : Tr SV} {X' : XW} {Q Q' : Exit → Act → World → Prop} (h : Post P B w0 N E ex F' X' Q) (hq : ∀ E' e a w, ExRel E' ex e → Q e a w → Q' e a w) : Post P B w0 N E ex F' X' Q' :=
  fun E' ds' a' w' e h1 h2 h3 h4 h5 => hq E' e a' w' h5 (h E' ds' a' w' e h1 h2 h3 h4 h5)

def CodeGood (P : Program) (rd : Option Nat) (N : Nat) (c : Code) (F : Tr SV) (X : XW) (ex : Ex) (F' : Tr SV) (X' : XW) : Prop :=
  Pc X ∧ ∀ (ro : Option Nat) B w0 E ds a w (Q : Exit → Act → World → Prop), Emb P B w0 X E w → FrRel ds N E F a → DenDs E X.dfs ds → RoRel E rd ro → Post P B w0 N E ex F' X' Q → c.wpIn (wideR ro) 0 P Q a w

theorem Emb.noOrc {X : XW} (h : Emb P B w0 X E w) (l : List Bool) : Emb P B w0 { X with orc := l } E w := h.same rfl rfl rfl

theorem loop_good {rd : Option Nat} {N : Nat} {c : Code} {body : Tr SV → XW → R} (hbody : ∀ F X ex F' X', body F X = some (ex, F', X') → Pc X' → CodeGood P rd N c F X ex F' X') : ∀ (fuel : Nat) (F : Tr SV) (X : XW) (ex : Ex) (F' : Tr SV) (X' : XW),
    loopE body fuel F X = some (ex, F', X') → Pc X' → Pc X ∧ ∀ (ro : Option Nat) B w0 E ds a w (Q : Exit → Act → World → Prop), Emb P B w0 X E w → FrRel ds N E F a → DenDs E X.dfs ds → RoRel E rd ro →
      Post P B w0 N E ex F' X' Q → Code.roundsIn (wideR ro) 0 P c Q fuel a w
  | 0, F, X, ex, F', X', h, _ => by simp [loopE] at h
  | fuel + 1, F, X, ex, F', X', h, hp => by
    have h' : (match body F X with | some (.nm, F, X) => loopE body fuel F X | r => r) = some (ex, F', X') := h
    split at h'
    · rename_i F1 X1 hb
      obtain ⟨p1, k1⟩ := loop_good hbody fuel F1 X1 ex F' X' h' hp
      obtain ⟨p2, k2⟩ := hbody F X .nm F1 X1 hb p1
      refine ⟨p2, fun ro B w0 E ds a w Q hE hF hD hR hQ => ?_⟩
      rw [roundsIn_succ]
      refine k2 ro B w0 E ds a w _ hE hF hD hR (fun E' ds' a' w' e a1 a2 a3 a4 a5 => ?_)
      cases a5
      exact k1 ro B w0 E' ds' a' w' Q a4 a2 a3 (hR.sub a1.sub) (hQ.le a1)
    · rename_i r hne
      obtain ⟨p2, k2⟩ := hbody F X ex F' X' h' hp
      refine ⟨p2, fun ro B w0 E ds a w Q hE hF hD hR hQ => ?_⟩
      rw [roundsIn_succ]
      refine k2 ro B w0 E ds a w _ hE hF hD hR (hQ.mono fun E' e a w he hq => ?_)
      cases ex with
      | nm => exact absurd h' (hne F' X')
      | ex id => cases he; exact hq
      | ret => cases he; exact hq
      | gt l => cases he; exact hq
      | pan ch => obtain ⟨p, _, rfl⟩ := he; exact hq

theorem region_good (callf : CallF) (hcall : CallOK P callf) (hc : KeepsOK callf) (hm : P.follows .mixedOrders = true) {rd : Option Nat} {N : Nat} {id : Nat} {ops : Array Oper} {F F' : Tr SV} {X X' : XW} {is : List Nat} {chk : List (Nat × List Nat)} (hok : drawOK P chk ops is = true)
    (h : evD P callf N ops.toList chk is [] F { X with orc := [] } = some (F', X')) (hpc : Pc X') : CodeGood P rd N (.region id ops true) F X .nm F' { X' with orc := X.orc } := by
  simp only [drawOK, Bool.and_eq_true, Array.all_eq_true_iff_forall_mem] at hok
  obtain ⟨⟨hsel, hlen⟩, hlex⟩ := hok
  have hlen' := Nat.eq_of_beq_eq_true hlen
  have hdfs : X'.dfs = X.dfs := (d_keeps hc h).dfs
  refine ⟨fun p hp' => d_pc hcall h hpc p hp', fun ro B w0 E ds a w Q hE hF hD hR hQ => ?_⟩
  refine wpIn_region_any hm ?_
  obtain ⟨S, hany, _⟩ := anyE_lex hc is [] (Array.replicate ops.size false) F { X with orc := [] } (by simp) rfl hlex h
  rw [hlen'] at hany
  refine wpAny_of_anyE hcall hsel (fun F1 X1 hg => by rw [hg.2]; exact hpc) ro ops.size _ F _ E a _ hany (hE.noOrc []).drew hF ?_
  rintro F1 X1 E' a' w' ⟨he, rfl⟩ hle hF' hE'
  exact hQ E' ds a' w' .normal hle (hF'.eqv he.symm) (by show DenDs E' X1.dfs ds; rw [hdfs]; exact hD.sub hle.sub) (hE'.noOrc _) rfl

theorem allDead_spec {X : XW} {base : Nat} : ∀ {rs : List Nat}, allDead X base rs = true → ∀ {j : Nat}, hasNat rs j = true → X.objs.get (base + j) = none
  | [], _, j, hj => by simp [hasNat] at hj
  | k :: ks, h, j, hj => by
    simp only [allDead, Bool.and_eq_true] at h
    simp only [hasNat, Bool.or_eq_true] at hj
    rcases hj with hj | hj
    · have e := Nat.eq_of_beq_eq_true hj
      subst e
      have := h.1
      cases hg : X.objs.get (base + k) with
      | none => rfl
      | some o => rw [hg] at this; cases this
    · exact allDead_spec h.2 hj

theorem evN_dfs {callf : CallF} (hc : KeepsOK callf) {rs : List Nat} {chk : List (Nat × List Nat)} {N base : Nat} {ops : List Oper} : ∀ {ks : List Nat} {recs : List (Nat × Option Nat)} {F F' : Tr SV} {X X' : XW}, evN P callf N ops rs chk base ks recs F X = some (F', X') → X'.dfs = X.dfs
  | [], _, _, _, _, _, h => by simp only [evN, Option.some.injEq, Prod.mk.injEq] at h; obtain ⟨rfl, rfl⟩ := h; rfl
  | k :: ks, recs, F, F', X, X', h => by
    simp only [evN] at h
    split at h <;> try (cases h; done)
    rename_i o _
    generalize lowRead P ops base o F X = b at h
    cases b with
    | false => cases h
    | true =>
      simp only [cond_true] at h
      split at h <;> try (cases h; done)
      rename_i F1 X1 hs
      generalize chkOK recs X X1 (chkOf chk k) = b at h
      cases b with
      | false => cases h
      | true =>
      simp only [cond_true] at h
      refine (evN_dfs hc h).trans ?_
      obtain ⟨y, hy, _⟩ := stepN_eq.1 hs
      cases hn : newR rs k o.op with
      | true => obtain ⟨ob, rfl, _⟩ := stepNV_new hn hy; rfl
      | false => rw [stepNV_old hn] at hy; exact (stepV_keeps hc hy).dfs

theorem news_good (callf : CallF) (hcall : CallOK P callf) (hc : KeepsOK callf) (hfrm : FrameOK callf) (hm : P.follows .mixedOrders = true) {rd : Option Nat} {N : Nat} {id : Nat} {ops : Array Oper} {F F' : Tr SV} {X X' : XW} {is rs : List Nat} {chk : List (Nat × List Nat)} (hok : newsOK P rs chk ops is = true) (hdead : allDead X X.next rs = true)
    (h : evN P callf N ops.toList rs chk X.next is [] F { X with orc := [], next := X.next + ops.size } = some (F', X')) (hpc : Pc X') : CodeGood P rd N (.region id ops true) F X .nm F' { X' with orc := X.orc } := by
  simp only [newsOK, Bool.and_eq_true, Array.all_eq_true_iff_forall_mem] at hok
  obtain ⟨⟨hsel, hlen⟩, hlex⟩ := hok
  have hkept : Kept ops rs X.next (Array.replicate ops.size false) { X with orc := [], next := X.next + ops.size } := by
    intro j oj hoj _ hn
    have hlt := (Array.getElem?_eq_some_iff.1 hoj).1
    refine ⟨?_, by show X.next + j < X.next + ops.size; omega⟩
    have hmem : hasNat rs j = true := by simp only [newR, Bool.and_eq_true] at hn; exact hn.1
    exact allDead_spec hdead hmem
  have hlen' := Nat.eq_of_beq_eq_true hlen
  have hdfs : X'.dfs = X.dfs := evN_dfs (X := { X with orc := [], next := X.next + ops.size }) hc h
  refine ⟨fun p hp' => evN_pc hcall h hpc p hp', fun ro B w0 E ds a w Q hE hF hD hR hQ => ?_⟩
  refine wpIn_region_any hm ?_
  obtain ⟨S, hany, _⟩ := anyN_lex hfrm hc is [] (Array.replicate ops.size false) F { X with orc := [], next := X.next + ops.size } (by simp) hkept rfl hlex h
  rw [hlen'] at hany
  let E1 : Env := { f := E.f, n := X.next + ops.size }
  have hE1 : Emb P B w0 { X with orc := [], next := X.next + ops.size } E1 { w with drawn := w.drawn + 1 } := by
    have := (hE.noOrc []).drew
    exact ⟨this.os, this.tape, this.output, this.base, this.old, fun k o hk => let ⟨i, c, a1, a2, a3⟩ := this.obj k o hk; ⟨i, c, a1, a2.sub (show Sub E E1 from fun _ _ h => h), a3⟩, this.inj, fun k hk => hE.fresh k (Nat.le_trans (Nat.le_add_right _ _) hk), this.glob, Nat.le_refl _⟩
  have hng : X.ng ≤ X.next := by
    rcases Nat.lt_or_ge X.next X.ng with h' | h'
    · obtain ⟨c, hc'⟩ := hE.glob X.next h'
      rw [hE.fresh X.next (Nat.le_refl _)] at hc'; cases hc'
    · exact h'
  have hF1 : FrRel ds N E1 F a := ⟨hF.1, hF.2.1, fun j z hj => let ⟨l, u, g1, g2⟩ := hF.2.2 j z hj; ⟨l, u, g1, g2.sub (show Sub E E1 from fun _ _ h => h)⟩⟩
  refine wpAny_of_anyN hc hcall hsel (fun F1 X1 hg => by rw [hg.2]; exact hpc) ro ops.size _ F _ E1 a _ hany hE1 hF1 rfl (fun i o _ _ _ => hE.fresh _ (Nat.le_add_right _ _)) rfl (Nat.le_refl _) hng ?_
  rintro F1 X1 E' a' w' ⟨he, rfl⟩ hsub hlow hn hF' hE'
  have hEn : E.n ≤ X.next := hE.nle
  have hle : Le E { f := E'.f, n := E.n } := ⟨rfl, fun k x hk => hsub k x hk, fun k hk => hlow k (Nat.lt_of_lt_of_le hk hEn)⟩
  refine hQ { f := E'.f, n := E.n } ds a' w' .normal hle ⟨hF'.1, hF'.2.1, fun j z hj => ?_⟩ (by show DenDs _ X1.dfs ds; rw [hdfs]; exact hD.sub hle.sub) ?_ rfl
  · obtain ⟨l, u, g1, g2⟩ := hF'.2.2 j z (by rw [← he j]; exact hj)
    exact ⟨l, u, g1, g2.sub (show Sub E' { f := E'.f, n := E.n } from fun _ _ h => h)⟩
  · have hnl := hE'.nle
    rw [hn] at hnl
    have hnl2 : X.next + ops.size ≤ X1.next := hnl
    exact ⟨hE'.os, hE'.tape, hE'.output, hE'.base, hE'.old, fun k o hk => let ⟨i, c, a1, a2, a3⟩ := hE'.obj k o hk; ⟨i, c, a1, a2.sub (show Sub E' { f := E'.f, n := E.n } from fun _ _ h => h), a3⟩, hE'.inj, hE'.fresh, hE'.glob, by show E.n ≤ X1.next; omega⟩

/-! ### Ranges over functions -/
theorem getLoop_run {id : Nat} {r : Loop} (h : w.heap[id]? = some (.loop r)) : (Instr.getLoop id).run P w = .ok r w := by
  simp [Instr.getLoop, getObj, Sem.run, h, bind, Sem.bind]

theorem jump_some {j : Jump} {c : Code} (h : jumpCode j = some c) : (j = .ret ∧ c = .ret) ∨ ∃ id, j = .ex id ∧ c = .exit id := by
  cases j with
  | none => cases h
  | ret => cases h; exact .inl ⟨rfl, rfl⟩
  | ex id => cases h; exact .inr ⟨id, rfl, rfl⟩

theorem range_good2 (callf : CallF) (hcall : CallOK P callf) (hc : KeepsOK callf) {ord : Nat → Hint} {me : FuncId} {rd : Option Nat} {N : Nat} {g : Operand} {ps : Array Tmp} {as body : Code} {F F' : Tr SV} {X X' : XW} {y : SV} {ex : Ex} (hok1 : codeOK P ord true as = true) (hok2 : codeOK P ord true body = true)
    (hl : look X.ng F g = some y) (h : rangeE callf ord me rd N ps as body y F X = some (ex, F', X')) (hp : Pc X') : CodeGood P rd N (.rangeFunc g ps as body) F X ex F' X' := by
  unfold rangeE at h
  split at h <;> try (cases h; done)
  rename_i f fa fb b X1 hb
  have hpcs : Pc X1 → Pc X := by
    intro hp1
    unfold blkOf at hb
    split at hb
    · cases hb; exact hp1
    · split at hb <;> try (cases hb; done)
      split at hb <;> cases hb
      exact hp1
  -- the call, and what is left of it
  have key : ∃ out X2, callf (.ent f) (fa ++ [.yld (X1.new (mkLoop ord me N F ps as body b)).1] ++ fb) { (X1.new (mkLoop ord me N F ps as body b)).2 with dfs := [] } = some (out, X2) ∧ Pc X2 ∧
      ((∃ ch, out = .pan ch ∧ ex = .pan ch ∧ F' = F ∧ X' = { X2 with dfs := X1.dfs }) ∨ ∃ z, out = .ret z ∧ endE F (X1.new (mkLoop ord me N F ps as body b)).1 { X2 with dfs := X1.dfs } = some (ex, F', X')) := by
    split at h
    · rename_i z X2 hcl
      refine ⟨_, X2, hcl, ?_, .inr ⟨z, rfl, h⟩⟩
      unfold endE at h
      split at h <;> try (cases h; done)
      split at h <;> try (cases h; done)
      split at h <;> cases h
      all_goals exact hp
    · rename_i ch X2 hcl
      cases h
      exact ⟨_, X2, hcl, hp, .inl ⟨ch, rfl, rfl, rfl, rfl⟩⟩
    · cases h
  obtain ⟨out, X2, hcl, hp2, hout⟩ := key
  obtain ⟨p1, k1⟩ := hcall _ _ _ _ _ hcl hp2
  refine ⟨hpcs p1, fun ro B w0 E ds a w Q hE hF hD hR hQ => ?_⟩
  refine wpIn_rangeFunc fun fn _ => ?_
  -- the block
  have hblk : ∃ E1 w1 mark r cc, Le E E1 ∧ Emb P B w0 X1 E1 w1 ∧ E1 b = some (r, cc) ∧ DenDs E1 X1.dfs (mark ++ ds) ∧
      (Instr.enterLoop fn a.tmps ps as body ro).run P w = .ok (w1.heap.size, mark) (w1.alloc (.loop { state := .ready, pending := none, fn := fn, tmps := a.tmps, params := ps, assign := as, body := body, defers := r })) := by
    unfold blkOf at hb
    cases rd with
    | none =>
      have hro : ro = none := hR
      subst hro
      simp only [Option.some.injEq, Prod.mk.injEq] at hb
      obtain ⟨rfl, rfl⟩ := hb
      have hle : Le E (E.put X.next w.heap.size 0) := Env.le_put (hE.fresh _ (Nat.le_refl _)) hE.nle
      refine ⟨E.put X.next w.heap.size 0, w.alloc (.deferred (some [])), [{ target := .collected w.heap.size, args := #[] }], w.heap.size, 0, hle, (hE.newOb mkBlk (.deferred (some [])) 0 fun E' _ => .inr ⟨rfl, rfl, rfl⟩).reD _, Env.put_same _ _ _ _, ⟨_, ds, ⟨_, _, Env.put_same _ _ _ _, rfl⟩, hD.sub hle.sub, rfl⟩, by simp [Instr.enterLoop]⟩
    | some k =>
      obtain ⟨l, c, hk, hro⟩ := hR
      subst hro
      simp only at hb
      split at hb <;> try (cases hb; done)
      rename_i o ho
      split at hb <;> try (cases hb; done)
      rename_i st pend od mm NN FF pps aa cc2 bb hs
      cases hb
      obtain ⟨id', c', hk', hrel, _⟩ := hE.spAt ho (by rw [hs]; simp)
      rw [hk] at hk'; cases hk'
      rw [hs] at hrel
      obtain ⟨_, r, h1, _, _, _, _, _, ⟨cc, h7⟩, _⟩ := hrel
      exact ⟨E, w, [], r.defers, cc, Le.refl _, hE, h7, hD, by simp [Instr.enterLoop, getLoop_run h1]⟩
  obtain ⟨E1, w1, mark, r, cc, hle1, hE1, hb1, hD1, hblkrun⟩ := hblk
  -- the record
  have hle2 : Le E1 (E1.put X1.next w1.heap.size 0) := Env.le_put (hE1.fresh _ (Nat.le_refl _)) hE1.nle
  have hle := hle1.trans hle2
  let rec0 : Loop := { state := .ready, pending := none, fn := fn, tmps := a.tmps, params := ps, assign := as, body := body, defers := r }
  have hE2 : Emb P B w0 (X1.new (mkLoop ord me N F ps as body b)).2 (E1.put X1.next w1.heap.size 0) (w1.alloc (.loop rec0)) :=
    hE1.newOb (mkLoop ord me N F ps as body b) (.loop rec0) 0 fun E' hle' => .inr ⟨⟨⟨hok1, hok2⟩, rec0, rfl, rfl, rfl, rfl, rfl, rfl, ⟨cc, hle'.sub _ _ hb1⟩, (show TmpsRel N E F a.tmps from hF.2).sub (hle1.trans hle').sub⟩, rfl, rfl⟩
  have hkl : (E1.put X1.next w1.heap.size 0) (X1.new (mkLoop ord me N F ps as body b)).1 = some (w1.heap.size, 0) := Env.put_same _ _ _ _
  have hg := look_sound hE hF hl
  obtain ⟨xa, xb, hxa, hxb, hgv⟩ := hg
  have hyl : DenL (E1.put X1.next w1.heap.size 0) [.yld (X1.new (mkLoop ord me N F ps as body b)).1] [Value.func (.yield w1.heap.size) #[] #[]] := ⟨_, _, ⟨_, _, hkl, rfl⟩, rfl, rfl⟩
  have hce : a.eval (.const (.func (.yield w1.heap.size) #[] #[])) = .func (.yield w1.heap.size) #[] #[] := rfl
  obtain ⟨fnf, hfn, hbody, hname, hci⟩ := k1 B w0 (E1.put X1.next w1.heap.size 0) (w1.alloc (.loop rec0)) (xa ++ [Value.func (.yield w1.heap.size) #[] #[]] ++ xb) (hE2.reD _)
    (((hxa.sub hle.sub).append hyl).append (hxb.sub hle.sub))
  have hbn : fnf.body ≠ none := fun e => by rw [e] at hbody; cases hbody
  refine ⟨w1.heap.size, mark, w1.alloc (.loop rec0), { target := .fn (.func f) xb.toArray, args := xa.toArray ++ #[.func (.yield w1.heap.size) #[] #[]] }, w1.alloc (.loop rec0), f, (xa ++ [Value.func (.yield w1.heap.size) #[] #[]] ++ xb).toArray, w1.alloc (.loop rec0), ?_, ?_, fun _ _ => trivial, ?_, (fun h => by cases h), ?_⟩
  · exact hblkrun
  · simp [resolve, hgv, Deferred.ofValue, hce]
  · simp [invoke, callFunc, hfn, hname, hbn]
  · refine CallsIn.mono (CallsIn.anyRound ro hci) ?_
    rintro e w3 ⟨E3, hle3, hE3, hpost⟩
    have hleA := hle.trans hle3
    have hkeep := hc _ _ _ _ _ hcl
    have hFA : FrRel (mark ++ ds) N E3 F { a with defers := mark ++ a.defers } := ⟨by show mark ++ a.defers = _; rw [hF.1], (show TmpsRel N E F a.tmps from hF.2).sub hleA.sub⟩
    have hDA : DenDs E3 X1.dfs (mark ++ ds) := hD1.sub (hle2.trans hle3).sub
    rcases hout with ⟨ch, rfl, rfl, rfl, rfl⟩ | ⟨z, rfl, hend⟩
    · obtain ⟨p, rfl, hch⟩ := hpost
      exact hQ E3 (mark ++ ds) { a with defers := mark ++ a.defers } w3 (.panic p) hleA hFA hDA (hE3.reD _) ⟨p, hch, rfl⟩
    · obtain ⟨v, rfl, _⟩ := hpost
      unfold endE at hend
      split at hend <;> try (cases hend; done)
      rename_i o ho
      split at hend <;> try (cases hend; done)
      rename_i st pend od mm NN FF pps aa cc2 bb hs
      have hne : o.sp ≠ .cells := by rw [hs]; simp
      have ho' : X2.objs.get (X1.new (mkLoop ord me N F ps as body b)).1 = some o := ho
      have hk3 : E3 (X1.new (mkLoop ord me N F ps as body b)).1 = some (w1.heap.size, 0) := hle3.sub _ _ hkl
      obtain ⟨id', c', hk', hrel, _⟩ := hE3.spAt ho' hne
      rw [hk3] at hk'; cases hk'
      rw [hs] at hrel
      obtain ⟨g0, r3, g1, g2, g3, g4, g5, g6, g7, g8⟩ := hrel
      have fin : st ≠ .busy → some (jumpEx pend, F, { ({ X2 with dfs := X1.dfs } : XW) with objs := X2.objs.put (X1.new (mkLoop ord me N F ps as body b)).1 { o with ver := o.ver + 1, sp := .loop .exhausted pend od mm NN FF pps aa cc2 bb } }) = some (ex, F', X') →
          rangePost (wideR ro) 0 P w1.heap.size Q { a with defers := mark ++ a.defers } (.returned v) w3 := by
        intro hst hX
        simp only [Option.some.injEq, Prod.mk.injEq] at hX
        obtain ⟨rfl, rfl, rfl⟩ := hX
        obtain ⟨w4, hset, hE4⟩ := hE3.setSp (s := .loop .exhausted pend od mm NN FF pps aa cc2 bb) (obj' := .loop { r3 with state := .exhausted }) ho' hne hk3 ⟨g0, _, rfl, rfl, g3, g4, g5, g6, g7, g8⟩ P
        refine ⟨jumpCode pend, w4, ?_, ?_⟩
        · have hb3 : ¬ r3.state = LoopState.busy := by rw [g2]; exact hst
          rw [← g3]
          simp [Instr.endLoop, getLoop_run g1, hb3, hset]
        · have hEf : Emb P B w0 { ({ X2 with dfs := X1.dfs } : XW) with objs := X2.objs.put (X1.new (mkLoop ord me N F ps as body b)).1 { o with ver := o.ver + 1, sp := .loop .exhausted pend od mm NN FF pps aa cc2 bb } } E3 w4 := hE4.reD _
          cases pend with
          | none => exact hQ E3 (mark ++ ds) _ w4 .normal hleA hFA hDA hEf rfl
          | ret => exact wpIn_ret (hQ E3 (mark ++ ds) _ w4 .ret hleA hFA hDA hEf rfl)
          | ex id => exact wpIn_exit (hQ E3 (mark ++ ds) _ w4 (.exit id) hleA hFA hDA hEf rfl)
      split at hend
      · cases hend
      · rename_i hnb; exact fin hnb hend
end
end Go.Xe
