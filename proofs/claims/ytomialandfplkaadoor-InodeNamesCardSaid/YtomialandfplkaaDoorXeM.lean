/- A part of an evaluator for the program's code: it runs code over an abstract memory, and what it answers holds of every run. -/
import Derived.Test.YtomialandfplkaaDoorXeL
namespace Go.Xe
section
variable {P : Program} {B : Nat} {w0 w : World} {E : Env}

theorem code_keeps {callf : CallF} (hc : KeepsOK callf) {ord : Nat → Hint} {N fuel : Nat} : ∀ (c : Code) (F : Tr SV) (X : XW) (ex : Ex) (F' : Tr SV) (X' : XW),
    evC P callf ord N fuel c F X = some (ex, F', X') → Keeps X X'
  | .skip, F, X, ex, F', X', h => by simp only [evC, Option.some.injEq, Prod.mk.injEq] at h; obtain ⟨rfl, rfl, rfl⟩ := h; exact Keeps.refl _
  | .region id ops false, F, X, ex, F', X', h => by
    simp only [evC] at h
    split at h <;> try (cases h; done)
    rename_i F1 X1 hops
    simp only [Option.some.injEq, Prod.mk.injEq] at h
    obtain ⟨rfl, rfl, rfl⟩ := h
    exact ops_keeps hc hops
  | .region id ops true, F, X, ex, F', X', h => by
    simp only [evC] at h
    split at h <;> try (cases h; done)
    rename_i F1 X1 hd
    simp only [Option.some.injEq, Prod.mk.injEq] at h
    obtain ⟨rfl, rfl, rfl⟩ := h
    have key : ∀ {is : List Nat} {chk : List (Nat × List Nat)}, evD P callf N ops.toList chk is [] F { X with orc := [] } = some (F1, X1) → Keeps X { X1 with orc := X.orc } := fun h =>
      have k := d_keeps hc h
      ⟨fun ho => ho, k.ng, k.next, k.ver, k.dead⟩
    cases ho : ord id with
    | text => rw [ho] at hd; exact key hd
    | skip => rw [ho] at hd; cases hd
    | ord is chk => rw [ho] at hd; exact key hd
  | .seq x y, F, X, ex, F', X', h => by
    simp only [evC] at h
    split at h
    · rename_i F1 X1 hx
      exact (code_keeps hc x _ _ _ _ _ hx).trans (code_keeps hc y _ _ _ _ _ h)
    · exact code_keeps hc x _ _ _ _ _ h
  | .cond c x y, F, X, ex, F', X', h => by
    simp only [evC] at h
    split at h <;> try (cases h; done)
    split at h
    · rename_i X1 hb
      exact (asB_keeps hb).trans (code_keeps hc x _ _ _ _ _ h)
    · rename_i X1 hb
      exact (asB_keeps hb).trans (code_keeps hc y _ _ _ _ _ h)
    · cases h
  | .block id c, F, X, ex, F', X', h => by
    simp only [evC] at h
    split at h
    · rename_i id' F1 X1 hx
      have := code_keeps hc c _ _ _ _ _ hx
      cases hb : Nat.beq id' id <;> simp only [hb, cond_true, cond_false, Option.some.injEq, Prod.mk.injEq] at h <;> (obtain ⟨rfl, rfl, rfl⟩ := h; exact this)
    · exact code_keeps hc c _ _ _ _ _ h
  | .loop c, F, X, ex, F', X', h => by
    simp only [evC] at h
    have key : ∀ (k : Nat) (F : Tr SV) (X : XW), loopE (evC P callf ord N fuel c) k F X = some (ex, F', X') → Keeps X X' := by
      intro k
      induction k with
      | zero => intro F X h; simp [loopE] at h
      | succ k ih =>
        intro F X h
        have h' : (match evC P callf ord N fuel c F X with | some (.nm, F, X) => loopE (evC P callf ord N fuel c) k F X | r => r) = some (ex, F', X') := h
        split at h'
        · rename_i F1 X1 hb
          exact (code_keeps hc c _ _ _ _ _ hb).trans (ih _ _ h')
        · exact code_keeps hc c _ _ _ _ _ h'
    exact key fuel F X h
  | .exit id, F, X, ex, F', X', h => by simp only [evC, Option.some.injEq, Prod.mk.injEq] at h; obtain ⟨rfl, rfl, rfl⟩ := h; exact Keeps.refl _
  | .label l, F, X, ex, F', X', h => by simp only [evC, Option.some.injEq, Prod.mk.injEq] at h; obtain ⟨rfl, rfl, rfl⟩ := h; exact Keeps.refl _
  | .ret, F, X, ex, F', X', h => by simp only [evC, Option.some.injEq, Prod.mk.injEq] at h; obtain ⟨rfl, rfl, rfl⟩ := h; exact Keeps.refl _
  | .scope _, _, _, _, _, _, h => by simp [evC] at h
  | .goto _, _, _, _, _, _, h => by simp [evC] at h
  | .rangeFunc _ _ _ _, _, _, _, _, _, h => by simp [evC] at h
  | .refuse _, _, _, _, _, _, h => by simp [evC] at h

/-! ### Results -/
def resS (a : Act) : ResultVar → Sem Value
  | .tmp t => Pure.pure (a.tmps.getD t undef)
  | .cell b t => do loadVar t (← asAddr (a.tmps.getD b undef))
theorem results_eq (fn : Func) (a : Act) : results fn a.tmps = (do let vs ← fn.results.mapM (resS a); Pure.pure (if h : vs.size = 1 then vs[0] else .tuple vs)) := by
  unfold results
  congr 1

theorem resultE_sound {N : Nat} {X : XW} {F : Tr SV} {a : Act} (hE : Emb B w0 X E w) (hF : FrRel N E F a) {r : ResultVar} {y : SV} (h : resultE P F X r = some y) :
    ∃ v, (resS a r).run P w = .ok v w ∧ Den E y v := by
  cases r with
  | tmp t =>
    obtain ⟨_, v, h1, h2⟩ := hF.2.2 t y h
    exact ⟨v, by simp [resS, h1], h2⟩
  | cell b t =>
    simp only [resultE] at h
    split at h <;> try (cases h; done)
    rename_i k off hb
    obtain ⟨_, v, h1, id, c, hk, h2⟩ := hF.2.2 b _ hb
    obtain ⟨u, hr, hd⟩ := load_good hE h hk
    exact ⟨u, by simp [resS, h1, h2, asAddr, hr], hd⟩

theorem resultsE_sound {N : Nat} {X : XW} {F : Tr SV} {a : Act} (hE : Emb B w0 X E w) (hF : FrRel N E F a) : ∀ {rs : List ResultVar} {ys : List SV}, resultsE P F X rs = some ys →
    ∃ vs, (rs.mapM (resS a)).run P w = .ok vs w ∧ DenL E ys vs
  | [], ys, h => by simp [resultsE] at h; subst h; exact ⟨[], rfl, rfl⟩
  | r :: rs, ys, h => by
    simp only [resultsE] at h
    split at h <;> try (cases h; done)
    rename_i y hy
    split at h <;> try (cases h; done)
    rename_i ys' hys
    cases h
    obtain ⟨v, h1, h2⟩ := resultE_sound hE hF hy
    obtain ⟨vs, h3, h4⟩ := resultsE_sound hE hF hys
    refine ⟨v :: vs, ?_, v, vs, h2, h4, rfl⟩
    rw [List.mapM_cons, Sem.run_bind, h1]
    simp only [Result.andThen_ok, Sem.run_bind, h3, Sem.run_pure]

theorem result1_den {ys : List SV} {vs : List Value} (h : DenL E ys vs) : Den E (result1 ys) (if h : vs.toArray.size = 1 then vs.toArray[0] else .tuple vs.toArray) := by
  match ys, vs, h with
  | [], vs, h => cases h; exact ⟨[], rfl, rfl⟩
  | [y], _, ⟨v, vs, hv, hvs, e⟩ => cases hvs; subst e; exact hv
  | y :: z :: ys, _, ⟨v, vs, hv, ⟨u, us, hu, hus, e'⟩, e⟩ =>
    subst e'; subst e
    rw [dif_neg (by simp)]
    exact ⟨_, ⟨v, _, hv, ⟨u, us, hu, hus, rfl⟩, rfl⟩, rfl⟩

theorem results_sound {N : Nat} {X : XW} {F : Tr SV} {a : Act} {fn : Func} (hE : Emb B w0 X E w) (hF : FrRel N E F a) {ys : List SV} (h : resultsE P F X fn.results.toList = some ys) :
    ∃ v, (results fn a.tmps).run P w = .ok v w ∧ Den E (result1 ys) v := by
  obtain ⟨vs, h1, h2⟩ := resultsE_sound hE hF h
  refine ⟨_, ?_, result1_den h2⟩
  rw [results_eq, Sem.run_bind, Array.mapM_eq_mapM_toList]
  simp only [Sem.run_map]
  rw [h1]
  simp

theorem frRel_init {args : List SV} {argv : List Value} {n : Nat} (h : DenL E args argv) (hn : args.length ≤ n) :
    FrRel n E (storeN .nil 0 args) { tmps := argv.toArray ++ Array.replicate (n - argv.toArray.size) undef, defers := [] } := by
  have hl := h.length
  refine ⟨rfl, by simp; omega, fun j y hj => ?_⟩
  rcases get_storeN _ _ _ _ _ hj with ⟨_, h2⟩ | ⟨_, h2⟩
  · simp only [Nat.sub_zero] at h2
    obtain ⟨v, h3, h4⟩ := h.get _ _ h2
    have := (List.getElem?_eq_some_iff.1 h3).1
    refine ⟨by omega, v, ?_, h4⟩
    rw [Array.getElem?_append_left (by simpa using this)]
    simpa using h3
  · cases h2

/-- **The evaluator is sound.** -/
theorem evF_sound (tab : Tr (XF P)) (lf : Nat) (hm : P.follows .mixedOrders = true) : ∀ fuel, CallOK P (evF P tab lf fuel) ∧ HasFn P (evF P tab lf fuel) ∧ KeepsOK (evF P tab lf fuel)
  | 0 => ⟨fun _ _ _ _ _ h => by simp [evF] at h, fun _ _ _ _ h => by simp [evF] at h, fun _ _ _ _ _ h => by simp [evF] at h⟩
  | fuel + 1 => by
    obtain ⟨ih1, ih2, ih3⟩ := evF_sound tab lf hm fuel
    have step : ∀ f args X r, evF P tab lf (fuel + 1) f args X = some r → ∃ xf : XF P, tab.get f = some xf ∧ xf.f = f ∧ args.length ≤ xf.fn.ntmps ∧
        finE P xf.fn (evC P (evF P tab lf fuel) xf.ord xf.fn.ntmps lf (xf.fn.body.getD .skip) (storeN .nil 0 args) X) = some r := by
      intro f args X r h
      have h' : (match tab.get f with
        | some xf => bif Nat.beq xf.f f && Nat.ble args.length xf.fn.ntmps then finE P xf.fn (evC P (evF P tab lf fuel) xf.ord xf.fn.ntmps lf (xf.fn.body.getD .skip) (storeN .nil 0 args) X) else none
        | none => none) = some r := h
      split at h' <;> try (cases h'; done)
      rename_i xf hxf
      cases h1 : Nat.beq xf.f f with
      | false => simp [h1] at h'
      | true =>
        cases h2 : Nat.ble args.length xf.fn.ntmps with
        | false => simp [h1, h2] at h'
        | true =>
          simp only [h1, h2, Bool.and_self, cond_true] at h'
          exact ⟨xf, hxf, Nat.eq_of_beq_eq_true h1, Nat.le_of_ble_eq_true h2, h'⟩
    have fin : ∀ (fn : Func) (r : R) (y : SV) (X' : XW), finE P fn r = some (y, X') → ∃ ex F' ys, r = some (ex, F', X') ∧ (ex = .nm ∨ ex = .ret) ∧ resultsE P F' X' fn.results.toList = some ys ∧ y = result1 ys := by
      intro fn r y X' h
      unfold finE at h
      split at h
      · split at h <;> cases h
        rename_i ys hys
        exact ⟨_, _, ys, rfl, .inl rfl, hys, rfl⟩
      · split at h <;> cases h
        rename_i ys hys
        exact ⟨_, _, ys, rfl, .inr rfl, hys, rfl⟩
      · cases h
    refine ⟨fun f args X y X' h hp => ?_, fun f args X r h => ?_, fun f args X y X' h => ?_⟩
    · obtain ⟨xf, hxf, hf, hlen, hfin⟩ := step f args X _ h
      obtain ⟨ex, F', ys, hev, hex, hys, rfl⟩ := fin _ _ _ _ hfin
      obtain ⟨p1, k1⟩ := code_good (evF P tab lf fuel) ih1 ih2 ih3 hm (ord := xf.ord) (fuel := lf) (by have := Nat.le_of_ble_eq_true xf.isSmall; simp only [depth]; omega) _ _ _ _ _ _ xf.isOK hev hp
      refine ⟨p1, fun B w0 E w argv hE hd => ?_⟩
      have hbody : xf.fn.body = some (xf.fn.body.getD .skip) := by
        have := xf.isBody
        cases hb : xf.fn.body with
        | none => rw [hb] at this; cases this
        | some c => rfl
      refine callsIn_of_wp (fn := xf.fn) (c := xf.fn.body.getD .skip) (by rw [← hf]; exact xf.isFn) hbody trivial ?_
      refine k1 none B w0 E _ w _ hE (frRel_init hd hlen) (fun E' a' w' a1 a2 a3 => ?_)
      obtain ⟨v, hr, hdv⟩ := results_sound (fn := xf.fn) a3 a2 hys
      rcases hex with rfl | rfl
      · exact ⟨a2.1, v, hr, E', v, a1, rfl, hdv, a3⟩
      · exact ⟨a2.1, v, hr, E', v, a1, rfl, hdv, a3⟩
    · obtain ⟨xf, hxf, hf, _⟩ := step f args X _ h
      exact ⟨xf.fn, by rw [← hf]; exact xf.isFn, xf.isBody, by simpa using xf.isPlain⟩
    · obtain ⟨xf, hxf, hf, hlen, hfin⟩ := step f args X _ h
      obtain ⟨ex, F', ys, hev, hex, hys, rfl⟩ := fin _ _ _ _ hfin
      exact code_keeps ih3 _ _ _ _ _ _ hev

/-- What holds of memory when a call begins: the tables that are read lie there. -/
def Start (ng : Nat) (objs : Tr Ob) (w : World) : Prop :=
  ng ≤ w.heap.size ∧ ∀ k o, objs.get k = some o → k < ng ∧ o.ro = true ∧ ∀ E, ObjRel E o w.heap[k]? 0

theorem emb_start {ng : Nat} {objs : Tr Ob} {orc : List Bool} {w : World} (h : Start ng objs w) :
    Emb w.heap.size w { ng, next := ng, objs, orc, pc := [] } (fun k => if k < ng then some (k, 0) else none) w := by
  refine ⟨rfl, rfl, rfl, Nat.le_refl _, fun _ _ => rfl, fun k o hk => ?_, fun k k' o o' id c c' hk hk' he he' => ?_, fun k hk => ?_, fun g hg => ⟨0, if_pos hg⟩⟩
  · obtain ⟨h1, h2, h3⟩ := h.2 k o hk
    exact ⟨k, 0, if_pos h1, h3 _, fun h => by rw [h2] at h; cases h⟩
  · obtain ⟨h1, _⟩ := h.2 k o hk
    obtain ⟨h1', _⟩ := h.2 k' o' hk'
    have he := (if_pos h1).symm.trans he
    have he' := (if_pos h1').symm.trans he'
    cases he; cases he'; rfl
  · have hk' : ng ≤ k := hk
    exact if_neg (by omega)

theorem Emb.below {X : XW} (h : Emb w0.heap.size w0 X E w) : RowKit.Below w0.heap.size w0 w := ⟨h.os, h.tape, h.output, h.base, h.old⟩

/-- **A call that the evaluator sees answer true.** -/
theorem says_true {tab : Tr (XF P)} {lf fuel : Nat} (hm : P.follows .mixedOrders = true) {f : FuncId} {ng : Nat} {objs : Tr Ob} {args : List SV} {argv : List Value} {w : World}
    (hst : Start ng objs w) (hargs : ∀ E, DenL E args argv) (h : saysTrue (evF P tab lf fuel f args { ng, next := ng, objs, orc := [], pc := [] }) = true) :
    Calls P f argv.toArray w fun e w' => e = .returned (.bool true) ∧ RowKit.Below w.heap.size w w' := by
  unfold saysTrue at h
  split at h <;> try (cases h; done)
  rename_i X' hev
  obtain ⟨_, k⟩ := (evF_sound tab lf hm fuel).1 _ _ _ _ _ hev (fun p hp => by cases hp)
  refine CallsIn.calls (CallsIn.mono (k _ _ _ _ _ (emb_start hst) (hargs _)) ?_) (fun k d h => by cases h)
  rintro e w' ⟨E', v, _, rfl, hd, hE'⟩
  cases hd
  exact ⟨rfl, hE'.below⟩
end
end Go.Xe
