/- A part of an evaluator for the code. -/
import Derived.Test.YtoglpmfmnknlaaaGreatDoorXeZ
namespace Go.Xe
section
variable {P : Program} {B : Nat} {w0 w : World} {E : Env} {ds : List Deferred}

def DFrameOK (dcall : DCallF) : Prop := ∀ f args u X y u' X' m ob, dcall f args u X = some (y, u', X') → Free X m → dcall f args u (X.add m ob) = some (y, u', X'.add m ob)

/-! ### One more row -/
section
variable {m : Nat} {ob : Ob} {X X' : XW}

theorem resultE_frame {F : Tr SV} (hf : Free X m) {r : ResultVar} {y : SV} (h : resultE P F X r = some y) : resultE P F (X.add m ob) r = some y := by
  cases r with
  | tmp t => exact h
  | cell b t =>
    simp only [resultE] at h ⊢
    split at h <;> try (cases h; done)
    exact load_frame hf h
theorem resultsE_frame {F : Tr SV} (hf : Free X m) : ∀ {rs : List ResultVar} {ys : List SV}, resultsE P F X rs = some ys → resultsE P F (X.add m ob) rs = some ys
  | [], ys, h => h
  | r :: rs, ys, h => by
    simp only [resultsE] at h ⊢
    split at h <;> try (cases h; done)
    rename_i y hy
    split at h <;> try (cases h; done)
    rename_i ys' hys
    rw [resultE_frame hf hy, resultsE_frame hf hys]
    exact h

theorem leave_frame {dcall : DCallF} (hk : DKeeps dcall) (hfr : DFrameOK dcall) {fn : Func} {F : Tr SV} : ∀ {D : List SD} {u : Mode} {X X' : XW} {y : Out}, Free X m → leaveE P dcall fn F D u X = some (y, X') → leaveE P dcall fn F D u (X.add m ob) = some (y, X'.add m ob)
  | [], .ret, X, X', y, hf, h => by
    simp only [leaveE] at h ⊢
    split at h <;> cases h
    rename_i ys hys
    rw [resultsE_frame hf hys]
  | [], .pan ch, X, X', y, hf, h => by simp only [leaveE, Option.some.injEq, Prod.mk.injEq] at h ⊢; obtain ⟨rfl, rfl⟩ := h; exact ⟨rfl, rfl⟩
  | .coll k :: D, u, X, X', y, hf, h => by
    simp only [leaveE] at h ⊢
    split at h <;> try (cases h; done)
    rename_i o ho
    simp only [(add_get hf ho).1]
    split at h <;> try (cases h; done)
    rw [add_set hf ho]
    exact leave_frame hk hfr (hf.keeps (Keeps.store ho (Nat.lt_succ_self _))) h
  | .call f xs ys :: D, u, X, X', y, hf, h => by
    simp only [leaveE] at h ⊢
    split at h
    · rename_i hd
      rw [hfr _ _ _ _ _ _ _ m ob hd hf]
      exact leave_frame hk hfr (hf.keeps (hk _ _ _ _ _ _ _ hd)) h
    · rename_i hd
      rw [hfr _ _ _ _ _ _ _ m ob hd hf]
      exact leave_frame hk hfr (hf.keeps (hk _ _ _ _ _ _ _ hd)) h
    · cases h

theorem setLoop_frame {k : Nat} {st : LoopState} {p : Option Jump} (hf : Free X m) (h : setLoop X k st p = some X') : setLoop (X.add m ob) k st p = some (X'.add m ob) := by
  unfold setLoop at h ⊢
  split at h <;> try (cases h; done)
  rename_i o ho
  simp only [(add_get hf ho).1]
  split at h <;> cases h
  rw [add_set hf ho]
theorem setLoop_keeps {k : Nat} {st : LoopState} {p : Option Jump} (h : setLoop X k st p = some X') : Keeps X X' := by
  unfold setLoop at h
  split at h <;> try (cases h; done)
  rename_i o ho
  split at h <;> cases h
  rename_i hs
  obtain ⟨_, _, _, _, _, _, _, _, _, _, _, rfl⟩ := setSt_spec hs
  exact Keeps.store ho (Nat.lt_succ_self _)
theorem endRound_keeps {k : Nat} {D : List SD} {st : LoopState} {j : Jump} {b : Bool} {y : Out} (h : endRound D X k st j b = some (y, X')) : KeepsD X X' ∧ X'.dfs = D := by
  unfold endRound at h
  split at h <;> cases h
  rename_i hs
  exact ⟨(setLoop_keeps hs).toD.reD _, rfl⟩
theorem endRound_frame {k : Nat} {D : List SD} {st : LoopState} {j : Jump} {b : Bool} {y : Out} (hf : Free X m) (h : endRound D X k st j b = some (y, X')) : endRound D (X.add m ob) k st j b = some (y, X'.add m ob) := by
  unfold endRound at h ⊢
  split at h <;> cases h
  rename_i hs
  rw [setLoop_frame hf hs]
  rfl

theorem round_keeps {ev : Code → Tr SV → XW → R} (hek : ∀ c F X ex F' X', ev c F X = some (ex, F', X') → KeepsD X X') {k N : Nat} {F : Tr SV} {ps : Array Tmp} {as body : Code} {args : List SV} {y : Out} (h : roundE ev k N F ps as body args X = some (y, X')) : Keeps X X' := by
  unfold roundE at h
  cases hlen : Nat.beq args.length ps.size with
  | false => simp [hlen] at h
  | true =>
  simp only [hlen, cond_true] at h
  split at h <;> try (cases h; done)
  rename_i F1 X1 ha
  split at h <;> try (cases h; done)
  rename_i o1 ho1
  cases hr : isReady o1 with
  | false => simp [hr] at h
  | true =>
  simp only [hr, cond_true] at h
  split at h <;> try (cases h; done)
  rename_i X2 hb
  have k1 := ((KeepsD.reD' (l := []) (hek _ _ _ _ _ _ ha)).trans (setLoop_keeps hb).toD)
  split at h
  · rename_i hbody; obtain ⟨k2, k3⟩ := endRound_keeps h; exact ((k1.trans (hek _ _ _ _ _ _ hbody)).trans k2).to k3
  · rename_i hbody; obtain ⟨k2, k3⟩ := endRound_keeps h; exact ((k1.trans (hek _ _ _ _ _ _ hbody)).trans k2).to k3
  · rename_i hbody; obtain ⟨k2, k3⟩ := endRound_keeps h; exact ((k1.trans (hek _ _ _ _ _ _ hbody)).trans k2).to k3
  · cases h

theorem round_frame {ev : Code → Tr SV → XW → R} (hek : ∀ c F X ex F' X', ev c F X = some (ex, F', X') → KeepsD X X') (hef : ∀ c F X ex F' X', Free X m → ev c F X = some (ex, F', X') → ev c F (X.add m ob) = some (ex, F', X'.add m ob))
    {k N : Nat} {F : Tr SV} {ps : Array Tmp} {as body : Code} {args : List SV} {y : Out} (hf : Free X m) (h : roundE ev k N F ps as body args X = some (y, X')) : roundE ev k N F ps as body args (X.add m ob) = some (y, X'.add m ob) := by
  unfold roundE at h ⊢
  cases hlen : Nat.beq args.length ps.size with
  | false => simp [hlen] at h
  | true =>
  simp only [hlen, cond_true] at h ⊢
  split at h <;> try (cases h; done)
  rename_i F1 X1 ha
  have e1 : ev as (puts N F ps.toList args) { X.add m ob with dfs := [] } = some (.nm, F1, X1.add m ob) := hef as _ { X with dfs := [] } _ _ _ (hf.reD []) ha
  have hf1 : Free X1 m := (hf.reD []).kD (hek _ _ _ _ _ _ ha)
  simp only [e1]
  split at h <;> try (cases h; done)
  rename_i o1 ho1
  simp only [(add_get hf1 ho1).1]
  cases hr : isReady o1 with
  | false => simp [hr] at h
  | true =>
  simp only [hr, cond_true] at h ⊢
  split at h <;> try (cases h; done)
  rename_i X2 hb
  have hf2 : Free X2 m := hf1.keeps (setLoop_keeps hb)
  simp only [setLoop_frame hf1 hb]
  split at h
  · rename_i hbody; simp only [hef _ _ _ _ _ _ hf2 hbody]; exact endRound_frame (hf2.kD (hek _ _ _ _ _ _ hbody)) h
  · rename_i hbody; simp only [hef _ _ _ _ _ _ hf2 hbody]; exact endRound_frame (hf2.kD (hek _ _ _ _ _ _ hbody)) h
  · rename_i hbody; simp only [hef _ _ _ _ _ _ hf2 hbody]; exact endRound_frame (hf2.kD (hek _ _ _ _ _ _ hbody)) h
  · cases h

theorem evOpsD_frame {N : Nat} : ∀ {l : List Oper} {F F' : Tr SV} {X X' : XW} {u u' : Mode}, Free X m → evOpsD P N l F X u = some (F', X', u') → evOpsD P N l F (X.add m ob) u = some (F', X'.add m ob, u')
  | [], _, _, _, _, _, _, _, h => by simp only [evOpsD, Option.some.injEq, Prod.mk.injEq] at h ⊢; obtain ⟨rfl, rfl, rfl⟩ := h; exact ⟨rfl, rfl, rfl⟩
  | o :: l, F, F', X, X', u, u', hf, h => by
    simp only [evOpsD] at h ⊢
    split at h <;> try (cases h; done)
    rename_i hg
    try simp only [hg]
    cases hr : isRec o.op with
    | true => rw [hr] at h; exact evOpsD_frame hf h
    | false =>
      rw [hr] at h
      simp only [cond_false] at h ⊢
      split at h <;> try (cases h; done)
      rename_i vals hl
      have hl' : looks (X.add m ob).ng F o.op.operands.toList = some vals := hl
      rw [hl']
      split at h <;> try (cases h; done)
      rename_i hs
      simp only [sem_frame hf hs]
      exact evOpsD_frame (hf.keeps (sem_keeps hs)) h

theorem codeD_frame {N : Nat} {ev : Code → Tr SV → XW → R} (hek : ∀ c F X ex F' X', ev c F X = some (ex, F', X') → KeepsD X X') (hef : ∀ c F X ex F' X', Free X m → ev c F X = some (ex, F', X') → ev c F (X.add m ob) = some (ex, F', X'.add m ob)) :
    ∀ (c : Code) (F : Tr SV) (X : XW) (u : Mode) (ex : Ex) (F' : Tr SV) (X' : XW) (u' : Mode), Free X m → evCD P N ev c F X u = some (ex, F', X', u') → evCD P N ev c F (X.add m ob) u = some (ex, F', X'.add m ob, u') := by
  have plain : ∀ (c : Code) (F : Tr SV) (X : XW) (u : Mode) (ex : Ex) (F' : Tr SV) (X' : XW) (u' : Mode), Free X m → (match ev c F X with | some (ex, F, X) => some (ex, F, X, u) | none => none) = some (ex, F', X', u') →
      (match ev c F (X.add m ob) with | some (ex, F, X) => some (ex, F, X, u) | none => none) = some (ex, F', X'.add m ob, u') := by
    intro c F X u ex F' X' u' hf h
    split at h <;> cases h
    rename_i he
    rw [hef _ _ _ _ _ _ hf he]
  intro c
  induction c with
  | seq a b iha ihb =>
    intro F X u ex F' X' u' hf h
    simp only [evCD] at h ⊢
    split at h
    · rename_i h1
      rw [iha _ _ _ _ _ _ _ hf h1]
      exact ihb _ _ _ _ _ _ _ (hf.kD (codeD_keeps hek _ _ _ _ _ _ _ _ h1)) h
    · rename_i hne
      rw [iha _ _ _ _ _ _ _ hf h]
      cases ex with
      | nm => exact absurd h (hne F' X' u')
      | _ => rfl
  | cond c a b iha ihb =>
    intro F X u ex F' X' u' hf h
    simp only [evCD] at h ⊢
    split at h <;> try (cases h; done)
    rename_i z hz
    have hz' : look (X.add m ob).ng F c = some z := hz
    simp only [hz']
    split at h
    · rename_i hb
      rw [asB_frame (m := m) (ob := ob) hb]
      exact iha _ _ _ _ _ _ _ (hf.keeps (asB_keeps hb)) h
    · rename_i hb
      rw [asB_frame (m := m) (ob := ob) hb]
      exact ihb _ _ _ _ _ _ _ (hf.keeps (asB_keeps hb)) h
    · cases h
  | region id ops d =>
    intro F X u ex F' X' u' hf h
    cases d with
    | true => exact plain _ _ _ _ _ _ _ _ hf h
    | false =>
      simp only [evCD] at h ⊢
      cases hr : hasRec ops.toList with
      | true =>
        rw [hr] at h
        simp only [cond_true] at h ⊢
        split at h <;> cases h
        rename_i he
        rw [evOpsD_frame hf he]
      | false => rw [hr] at h; exact plain _ _ _ _ _ _ _ _ hf h
  | _ => intro F X u ex F' X' u' hf h; exact plain _ _ _ _ _ _ _ _ hf h
end

theorem nat_frame {m : Nat} {ob : Ob} {X : XW} (hf : Free X m) {k : NK} {args : List SV} {z : SV} (h : natE k args X = some z) : natE k args (X.add m ob) = some z := by
  unfold natE at h ⊢
  split at h
  · exact h
  · exact h
  · split at h <;> try (cases h; done)
    rename_i o ho
    simp only [(add_get hf ho).1]; exact h
  · exact h
  · exact h
  · cases h

theorem noDfs_spec {X : XW} (h : noDfs X = true) : X.dfs = [] := by
  unfold noDfs at h
  split at h
  · assumption
  · cases h

structure EvOK (P : Program) (xf : XF P) (callf : CallF) (lf : Nat) : Prop where
  good : ∀ c F X ex F' X', codeOK P xf.ord false c = true → bodyE xf callf lf c F X = some (ex, F', X') → Pc X' → CodeGood P none xf.fn.ntmps c F X ex F' X'
  keeps : ∀ c F X ex F' X', bodyE xf callf lf c F X = some (ex, F', X') → KeepsD X X'
  frame : ∀ m ob c F X ex F' X', Free X m → bodyE xf callf lf c F X = some (ex, F', X') → bodyE xf callf lf c F (X.add m ob) = some (ex, F', X'.add m ob)

theorem evOK (hm : P.follows .mixedOrders = true) (xf : XF P) {callf : CallF} (lf : Nat) (hcall : CallOK P callf) (hc : KeepsOK callf) (hfr : FrameOK callf) : EvOK P xf callf lf :=
  ⟨fun c F X ex F' X' hok h hp => code_good callf hcall hc hfr hm (rd := none) (jump_good callf hcall hc hfr hm lf) c F X ex F' X' hok h hp,
   fun c F X ex F' X' h => code_keeps hc (jump_keeps hc lf) c F X ex F' X' h,
   fun _ _ c F X ex F' X' hf h => code_frame hfr hc (jump_frame hfr hc lf) (jump_keeps hc lf) c F X ex F' X' hf h⟩

structure EvsOK (P : Program) (e : Evs) : Prop where
  call : CallOK P e.call
  keeps : KeepsOK e.call
  frame : FrameOK e.call
  dcall : DCallOK P e.dcall
  dkeeps : DKeeps e.dcall
  dframe : DFrameOK e.dcall

theorem finE_spec {dcall : DCallF} {fn : Func} {r : R} {y : Out} {X' : XW} (h : finE P dcall fn r = some (y, X')) : ∃ ex F X u, r = some (ex, F, X) ∧ leaveE P dcall fn F X.dfs u { X with dfs := [] } = some (y, X') ∧
    ((ex = .nm ∧ u = .ret) ∨ (ex = .ret ∧ u = .ret) ∨ ∃ ch, ex = .pan ch ∧ u = .pan ch) := by
  unfold finE at h
  split at h
  · exact ⟨_, _, _, _, rfl, h, .inl ⟨rfl, rfl⟩⟩
  · exact ⟨_, _, _, _, rfl, h, .inr (.inl ⟨rfl, rfl⟩)⟩
  · exact ⟨_, _, _, _, rfl, h, .inr (.inr ⟨_, rfl, rfl⟩)⟩
  · cases h

theorem finD_spec {fn : Func} {D : List SD} {r : RD} {y : Out} {u' : Mode} {X' : XW} (h : finD P fn D r = some (y, u', X')) : ∃ ex F X, r = some (ex, F, X, u') ∧ X.dfs = [] ∧ X' = { X with dfs := D } ∧
    (((ex = .nm ∨ ex = .ret) ∧ ∃ ys, resultsE P F X fn.results.toList = some ys ∧ y = .ret (result1 ys)) ∨ ∃ ch, ex = .pan ch ∧ y = .pan ch) := by
  unfold finD at h
  split at h
  · rename_i F X u
    cases hd : noDfs X with
    | false => simp [hd] at h
    | true =>
      simp only [hd, cond_true] at h
      split at h <;> cases h
      exact ⟨_, _, _, rfl, noDfs_spec hd, rfl, .inl ⟨.inl rfl, _, by assumption, rfl⟩⟩
  · rename_i F X u
    cases hd : noDfs X with
    | false => simp [hd] at h
    | true =>
      simp only [hd, cond_true] at h
      split at h <;> cases h
      exact ⟨_, _, _, rfl, noDfs_spec hd, rfl, .inl ⟨.inr rfl, _, by assumption, rfl⟩⟩
  · rename_i ch F X u
    cases hd : noDfs X with
    | false => simp [hd] at h
    | true =>
      simp only [hd, cond_true] at h
      cases h
      exact ⟨_, _, _, rfl, noDfs_spec hd, rfl, .inr ⟨_, rfl, rfl⟩⟩
  · cases h

theorem isFn_of (xf : XF P) {f : FuncId} (hf : xf.f = f) : P.funcs[f]? = some xf.fn ∧ xf.fn.body.isSome = true ∧ xf.fn.name ≠ "runtime.NumGoroutine" ∧ xf.fn.body = some (xf.fn.body.getD .skip) := by
  refine ⟨by rw [← hf]; exact xf.isFn, xf.isBody, by simpa using xf.isPlain, ?_⟩
  have := xf.isBody
  cases hb : xf.fn.body with
  | none => rw [hb] at this; cases this
  | some c => rfl

theorem goE_spec {e : Evs} {xf : XF P} {lf : Nat} {f : FuncId} {args : List SV} {X X' : XW} {y : Out} (h : goE e xf lf f args X = some (y, X')) : xf.f = f ∧ args.length ≤ xf.fn.ntmps ∧
    ∃ X1, finE P e.dcall xf.fn (bodyE xf e.call lf (xf.fn.body.getD .skip) (storeN .nil 0 args) { X with dfs := [] }) = some (y, X1) ∧ X' = { X1 with dfs := X.dfs } := by
  unfold goE at h
  cases h1 : Nat.beq xf.f f with
  | false => simp [h1] at h
  | true =>
    cases h2 : Nat.ble args.length xf.fn.ntmps with
    | false => simp [h1, h2] at h
    | true =>
      simp only [h1, h2, Bool.and_self, cond_true] at h
      unfold withD at h
      split at h <;> cases h
      exact ⟨Nat.eq_of_beq_eq_true h1, Nat.le_of_ble_eq_true h2, _, by assumption, rfl⟩

theorem go_keeps {e : Evs} (he : EvsOK P e) (hm : P.follows .mixedOrders = true) {xf : XF P} {lf : Nat} {f : FuncId} {args : List SV} {X X' : XW} {y : Out} (h : goE e xf lf f args X = some (y, X')) : Keeps X X' := by
  obtain ⟨_, _, X1, hfin, rfl⟩ := goE_spec h
  obtain ⟨ex, F, X2, u, hev, hlv, _⟩ := finE_spec hfin
  have ok := evOK hm xf lf he.call he.keeps he.frame
  have k1 := KeepsD.reD' (l := []) (ok.keeps _ _ _ _ _ _ hev)
  have k2 := (k1.reD []).trans (leave_keeps he.dkeeps hlv).toD
  exact (k2.reD _).to rfl

theorem go_good {e : Evs} (he : EvsOK P e) (hm : P.follows .mixedOrders = true) {xf : XF P} {lf : Nat} {f : FuncId} {args : List SV} {X X' : XW} {y : Out} (h : goE e xf lf f args X = some (y, X')) (hp : Pc X') :
    ∀ B w0 E w argv, Emb P B w0 X E w → DenL E args argv → CalIn P E (.ent f) argv w (RetPost P B w0 E y X') := by
  obtain ⟨hf, hlen, X1, hfin, rfl⟩ := goE_spec h
  obtain ⟨ex, F, X2, u, hev, hlv, hex⟩ := finE_spec hfin
  have ok := evOK hm xf lf he.call he.keeps he.frame
  obtain ⟨h1, h2, h3, h4⟩ := isFn_of xf hf
  have hp1 : Pc X1 := hp
  have hp2 : Pc X2 := (leave_keeps he.dkeeps hlv).pc hp1
  obtain ⟨_, k⟩ := ok.good _ _ _ _ _ _ xf.isOK hev hp2
  intro B w0 E w argv hE hd
  refine ⟨xf.fn, h1, h2, h3, callsIn_of_wp_marks h1 h4 trivial ?_⟩
  refine k none B w0 E [] _ w _ (hE.reD []) ⟨rfl, tmpsRel_init hd hlen⟩ rfl rfl ?_
  intro E' ds' a' w' ee a1 a2 a3 a4 a5
  have fin : ∀ um, ModeRel E' u um → LeavesInM (wideR none) 0 P xf.fn a'.tmps (RetPost P B w0 E y { X1 with dfs := X.dfs }) a'.defers um w' := fun um hum => by
    rw [a2.1]
    refine leave_good he.dcall he.dkeeps (N := xf.fn.ntmps) hp1 _ u _ E' ds' ds' a' w' um hlv (a4.reD _) a2 a3 hum ?_
    intro E2 e2 w2 b1 b2 b3
    refine ⟨E2, a1.trans b1, b2.reD _, ?_⟩
    cases y with
    | ret z => exact b3
    | pan ch => exact b3
  rcases hex with ⟨rfl, rfl⟩ | ⟨rfl, rfl⟩ | ⟨ch, rfl, rfl⟩
  · cases a5; exact fin .returning rfl
  · cases a5; exact fin .returning rfl
  · obtain ⟨p, hp', rfl⟩ := a5; exact fin (.panicking p) ⟨p, hp', rfl⟩

theorem go_frame {e : Evs} (he : EvsOK P e) (hm : P.follows .mixedOrders = true) {xf : XF P} {lf : Nat} {f : FuncId} {args : List SV} {X X' : XW} {y : Out} {m : Nat} {ob : Ob} (hf : Free X m) (h : goE e xf lf f args X = some (y, X')) : goE e xf lf f args (X.add m ob) = some (y, X'.add m ob) := by
  have h0 := h
  obtain ⟨hff, hlen, X1, hfin, rfl⟩ := goE_spec h
  obtain ⟨ex, F, X2, u, hev, hlv, hex⟩ := finE_spec hfin
  have ok := evOK hm xf lf he.call he.keeps he.frame
  have e1 := ok.frame m ob _ _ _ _ _ _ (hf.reD []) hev
  have hf2 : Free X2 m := (hf.reD []).kD (ok.keeps _ _ _ _ _ _ hev)
  have e2 := leave_frame (ob := ob) he.dkeeps he.dframe (hf2.reD []) hlv
  unfold goE
  have b1 : Nat.beq xf.f f = true := by simp [hff]
  have b2 : Nat.ble args.length xf.fn.ntmps = true := by rw [Nat.ble_eq]; exact hlen
  rw [b1, b2]
  simp only [Bool.and_self, cond_true]
  rw [show ({ X.add m ob with dfs := [] } : XW) = ({ X with dfs := [] } : XW).add m ob from rfl, e1]
  have e3 : finE P e.dcall xf.fn (some (ex, F, X2.add m ob)) = some (y, X1.add m ob) := by
    rcases hex with ⟨rfl, rfl⟩ | ⟨rfl, rfl⟩ | ⟨ch, rfl, rfl⟩ <;> exact e2
  rw [e3]
  rfl

theorem evF_sound (tab : Tr (XE P)) (lf : Nat) (hm : P.follows .mixedOrders = true) : ∀ fuel, EvsOK P (evF P tab lf fuel)
  | 0 => ⟨fun _ _ _ _ _ h => by simp [evF] at h, fun _ _ _ _ _ h => by simp [evF] at h, fun _ _ _ _ _ _ _ h => by simp [evF] at h, fun _ _ _ _ _ _ _ h => by simp [evF] at h, fun _ _ _ _ _ _ _ h => by simp [evF] at h, fun _ _ _ _ _ _ _ _ _ h => by simp [evF] at h⟩
  | fuel + 1 => by
    have he := evF_sound tab lf hm fuel
    generalize hih : evF P tab lf fuel = ih at he
    have hcall : ∀ c args X, (evF P tab lf (fuel + 1)).call c args X = match c with
      | .fn f => (match tab.get f with
        | some (.fn xf) => goE ih xf lf f args X
        | some (.nat xn) => bif Nat.beq xn.f f then (match natE xn.k args X with | some y => some (.ret y, X) | none => none) else none
        | none => none)
      | .ent f => (match tab.get f with
        | some (.fn xf) => goE ih xf lf f args X
        | _ => none)
      | .yld k => (match X.objs.get k with
        | some o => match o.sp with
          | .loop _ _ ord me N F ps a c _ => roundE (evC P ih.call ord me (some k) N lf (jumpE P ih.call ord me (some k) N lf lf)) k N F ps a c args X
          | _ => none
        | none => none) := fun c args X => by rw [← hih]; cases c <;> rfl
    have hdcall : ∀ f args u X, (evF P tab lf (fuel + 1)).dcall f args u X = match tab.get f with
      | some (.fn xf) => bif Nat.beq xf.f f && Nat.ble args.length xf.fn.ntmps then finD P xf.fn X.dfs (evCD P xf.fn.ntmps (bodyE xf ih.call lf) (xf.fn.body.getD .skip) (storeN .nil 0 args) { X with dfs := [] } u) else none
      | _ => none := fun f args u X => by rw [← hih]; rfl
    have rk : ∀ {ord : Nat → Hint} {me : FuncId} {k N : Nat}, ∀ c F X ex F' X', evC P ih.call ord me (some k) N lf (jumpE P ih.call ord me (some k) N lf lf) c F X = some (ex, F', X') → KeepsD X X' := fun c F X ex F' X' h => code_keeps he.keeps (jump_keeps he.keeps lf) c F X ex F' X' h
    have dspec : ∀ {f args u X y u' X'}, (evF P tab lf (fuel + 1)).dcall f args u X = some (y, u', X') → ∃ xf : XF P, tab.get f = some (.fn xf) ∧ xf.f = f ∧ args.length ≤ xf.fn.ntmps ∧
        finD P xf.fn X.dfs (evCD P xf.fn.ntmps (bodyE xf ih.call lf) (xf.fn.body.getD .skip) (storeN .nil 0 args) { X with dfs := [] } u) = some (y, u', X') := by
      intro f args u X y u' X' h
      rw [hdcall] at h
      split at h <;> try (cases h; done)
      rename_i xf hxf
      cases h1 : Nat.beq xf.f f with
      | false => simp [h1] at h
      | true =>
        cases h2 : Nat.ble args.length xf.fn.ntmps with
        | false => simp [h1, h2] at h
        | true =>
          simp only [h1, h2, Bool.and_self, cond_true] at h
          exact ⟨xf, hxf, Nat.eq_of_beq_eq_true h1, Nat.le_of_ble_eq_true h2, h⟩
    have keeps : KeepsOK (evF P tab lf (fuel + 1)).call := by
      intro c args X y X' h
      rw [hcall] at h
      cases c with
      | fn f =>
        simp only at h
        split at h
        · exact go_keeps he hm h
        · rename_i xn _
          cases hb : Nat.beq xn.f f with
          | false => simp [hb] at h
          | true =>
            simp only [hb, cond_true] at h
            split at h <;> cases h
            exact Keeps.refl _
        · cases h
      | ent f =>
        simp only at h
        split at h
        · exact go_keeps he hm h
        · cases h
      | yld k =>
        simp only at h
        split at h <;> try (cases h; done)
        split at h <;> try (cases h; done)
        exact round_keeps rk h
    refine ⟨fun c args X y X' h hp => ?_, keeps, fun c args X y X' m ob h hf => ?_, fun f args u X y u' X' h hp => ?_, fun f args u X y u' X' h => ?_, fun f args u X y u' X' m ob h hf => ?_⟩
    · refine ⟨(keeps _ _ _ _ _ h).pc hp, ?_⟩
      rw [hcall] at h
      cases c with
      | fn f =>
        simp only at h
        split at h
        · intro B w0 E w argv hE hd
          exact .inl (go_good he hm h hp B w0 E w argv hE hd)
        · rename_i xn _
          cases hb : Nat.beq xn.f f with
          | false => simp [hb] at h
          | true =>
            simp only [hb, cond_true] at h
            split at h <;> cases h
            rename_i z hz
            intro B w0 E w argv hE hd
            obtain ⟨v, hr, hv⟩ := nat_yes hE hd hz
            have hfe := Nat.eq_of_beq_eq_true hb
            refine .inr ⟨v, w, ?_, E, Le.refl _, hE, v, rfl, hv⟩
            rw [run_callFunc_extern (by rw [← hfe]; exact xn.isFn) xn.isPlain xn.noBody xn.noNext xn.isK, hr]
            rfl
        · cases h
      | ent f =>
        simp only at h
        split at h
        · exact go_good he hm h hp
        · cases h
      | yld k =>
        simp only at h
        split at h <;> try (cases h; done)
        rename_i o ho
        split at h <;> try (cases h; done)
        rename_i hs
        refine (round_good (fun c F X ex F' X' hok h hp => code_good ih.call he.call he.keeps he.frame hm (rd := some k) (jump_good ih.call he.call he.keeps he.frame hm lf) c F X ex F' X' hok h hp) rk ho hs h hp).2
    · rw [hcall] at h ⊢
      cases c with
      | fn f =>
        simp only at h ⊢
        split at h
        · exact go_frame he hm hf h
        · rename_i xn _
          cases hb : Nat.beq xn.f f with
          | false => simp [hb] at h
          | true =>
            simp only [hb, cond_true] at h ⊢
            split at h <;> cases h
            rename_i z hz
            rw [nat_frame hf hz]
        · cases h
      | ent f =>
        simp only at h ⊢
        split at h
        · exact go_frame he hm hf h
        · cases h
      | yld k =>
        simp only at h ⊢
        split at h <;> try (cases h; done)
        rename_i o ho
        simp only [(add_get hf ho).1]
        split at h <;> try (cases h; done)
        exact round_frame rk (fun c F X ex F' X' hf h => code_frame he.frame he.keeps (jump_frame he.frame he.keeps lf) (jump_keeps he.keeps lf) c F X ex F' X' hf h) hf h
    · obtain ⟨xf, hxf, hff, hlen, hfin⟩ := dspec h
      obtain ⟨ex, F, X2, hev, hd2, rfl, hex⟩ := finD_spec hfin
      have ok := evOK hm xf lf he.call he.keeps he.frame
      obtain ⟨h1, h2, h3, h4⟩ := isFn_of xf hff
      refine ⟨⟨xf.fn, h1, h2, h3⟩, fun B w0 E w argv m hE hd hM => ?_⟩
      have hp2 : Pc X2 := hp
      have kd := codeD_good ok.good ok.keeps _ _ _ _ _ _ _ _ xf.isOK hev hp2
      refine callsDIn_of_wpSIn h1 h4 trivial fun c0 cs hc0 => ?_
      have hc0' : c0 = { c0 with mode := m } := by subst hc0; rfl
      have key := kd B w0 E [] { tmps := argv.toArray ++ Array.replicate (xf.fn.ntmps - argv.toArray.size) undef, defers := [] } w m c0 cs
        (fun e a' m' w' => bodyPostS P xf.fn c0 cs (fun e m' w' => ∃ E', Le E E' ∧ Emb P B w0 { X2 with dfs := X.dfs } E' w' ∧ ModeRel E' u' m' ∧ OutRel E' y e) e a' ({ c0 with mode := m' } :: cs) w') (hE.reD []) ⟨rfl, tmpsRel_init hd hlen⟩ rfl hM ?_
      · rw [← hc0'] at key
        intro fr k x1 x2 x3 x4
        obtain ⟨e, a2, cs2, w2, l, ⟨m2, rfl, q⟩, r⟩ := key fr k x1 x2 x3 x4
        exact ⟨e, a2, _, w2, l, q, r⟩
      · intro E' ds' a' w' e m' g1 g2 g3 g4 g5 g6
        rw [hd2] at g3
        have hdn : a'.defers = [] := by rw [g2.1]; exact g3
        rcases hex with ⟨hex, ys, hys, rfl⟩ | ⟨ch, rfl, rfl⟩
        · obtain ⟨v, hr, hv⟩ := results_sound (fn := xf.fn) g4 g2 hys
          rcases hex with rfl | rfl
          · cases g6; exact ⟨hdn, m', rfl, v, hr, E', g1, g4.reD _, g5, v, rfl, hv⟩
          · cases g6; exact ⟨hdn, m', rfl, v, hr, E', g1, g4.reD _, g5, v, rfl, hv⟩
        · obtain ⟨p, hp', rfl⟩ := g6
          exact ⟨hdn, m', rfl, E', g1, g4.reD _, g5, p, rfl, hp'⟩
    · obtain ⟨xf, hxf, hff, hlen, hfin⟩ := dspec h
      obtain ⟨ex, F, X2, hev, hd2, rfl, hex⟩ := finD_spec hfin
      have ok := evOK hm xf lf he.call he.keeps he.frame
      have k1 := KeepsD.reD' (l := []) (codeD_keeps ok.keeps _ _ _ _ _ _ _ _ hev)
      exact (k1.reD _).to rfl
    · obtain ⟨xf, hxf, hff, hlen, hfin⟩ := dspec h
      obtain ⟨ex, F, X2, hev, hd2, rfl, hex⟩ := finD_spec hfin
      have ok := evOK hm xf lf he.call he.keeps he.frame
      have e1 := codeD_frame ok.keeps (ok.frame m ob) _ _ _ _ _ _ _ _ (hf.reD []) hev
      have hf2 : Free X2 m := (hf.reD []).kD (codeD_keeps ok.keeps _ _ _ _ _ _ _ _ hev)
      rw [hdcall, hxf]
      have b1 : Nat.beq xf.f f = true := by simp [hff]
      have b2 : Nat.ble args.length xf.fn.ntmps = true := by rw [Nat.ble_eq]; exact hlen
      simp only [b1, b2, Bool.and_self, cond_true]
      rw [show ({ X.add m ob with dfs := [] } : XW) = ({ X with dfs := [] } : XW).add m ob from rfl, e1]
      have hn : noDfs (X2.add m ob) = true := by show noDfs X2 = true; unfold noDfs; rw [hd2]
      rcases hex with ⟨hex, ys, hys, rfl⟩ | ⟨ch, rfl, rfl⟩
      · rcases hex with rfl | rfl
        · simp only [finD, hn, cond_true, resultsE_frame hf2 hys]; rfl
        · simp only [finD, hn, cond_true, resultsE_frame hf2 hys]; rfl
      · simp only [finD, hn, cond_true]; rfl

def Start (ng : Nat) (objs : Hp) (w : World) : Prop :=
  ng ≤ w.heap.size ∧ ∀ k o, objs.get k = some o → k < ng ∧ o.ro = true ∧ o.sp = .cells ∧ ∀ P E, ObjRel P E o w.heap[k]? 0

theorem emb_start {ng : Nat} {objs : Hp} {orc : List Bool} {w : World} (h : Start ng objs w) :
    Emb P w.heap.size w { ng, next := ng, objs, orc, pc := [], dfs := [] } { f := fun k => if k < ng then some (k, 0) else none, n := 0 } w := by
  refine ⟨rfl, rfl, rfl, Nat.le_refl _, fun _ _ => rfl, fun k o hk => ?_, fun k k' o o' id c c' hk hk' he he' => ?_, fun k hk => ?_, fun g hg => ⟨0, if_pos hg⟩, Nat.zero_le _⟩
  · obtain ⟨h1, h2, h4, h3⟩ := h.2 k o hk
    exact ⟨k, 0, if_pos h1, h3 _ _, fun h => by
      rcases h with h | h
      · rw [h2] at h; cases h
      · exact absurd h4 h⟩
  · obtain ⟨h1, _⟩ := h.2 k o hk
    obtain ⟨h1', _⟩ := h.2 k' o' hk'
    have he := (if_pos h1).symm.trans he
    have he' := (if_pos h1').symm.trans he'
    cases he; cases he'; rfl
  · have hk' : ng ≤ k := hk
    exact if_neg (by omega)

theorem Emb.below {X : XW} (h : Emb P w0.heap.size w0 X E w) : RowKit.Below w0.heap.size w0 w := ⟨h.os, h.tape, h.output, h.base, h.old⟩

theorem says_true {tab : Tr (XE P)} {lf fuel : Nat} (hm : P.follows .mixedOrders = true) {f : FuncId} {ng : Nat} {objs : Hp} {args : List SV} {argv : List Value} {w : World}
    (hst : Start ng objs w) (hargs : ∀ E, DenL E args argv) (h : saysTrue ((evF P tab lf fuel).call (.ent f) args { ng, next := ng, objs, orc := [], pc := [], dfs := [] }) = true) :
    Calls P f argv.toArray w fun e w' => e = .returned (.bool true) ∧ RowKit.Below w.heap.size w w' := by
  unfold saysTrue at h
  split at h <;> try (cases h; done)
  rename_i X' hev
  obtain ⟨_, k⟩ := (evF_sound tab lf hm fuel).call _ _ _ _ _ hev (fun p hp => by cases hp)
  obtain ⟨_, _, _, _, hci⟩ := k _ _ _ _ _ (emb_start hst) (hargs _)
  refine CallsIn.calls (CallsIn.mono hci ?_) (fun k d h => by cases h)
  rintro e w' ⟨E', _, hE', v, rfl, hd⟩
  cases hd
  exact ⟨rfl, hE'.below⟩
end
end Go.Xe
