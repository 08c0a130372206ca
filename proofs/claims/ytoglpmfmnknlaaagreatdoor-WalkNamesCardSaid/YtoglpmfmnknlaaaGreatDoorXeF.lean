/- A part of an evaluator for the code. -/
import Derived.Test.YtoglpmfmnknlaaaGreatDoorXeE
import Derived.Laws.StructEq
import Derived.ChangeKeysEq
namespace Go.Xe
section
variable {P : Program} {E : Env} {w : World}

def Yes (P : Program) (E : Env) (w : World) (s : Sem Value) (y : SV) : Prop := ∃ v, s.run P w = .ok v w ∧ Den E y v

theorem nil_yes {x y : SV} {v : Value} (hx : Den E x v) (h : semNil x = some y) :
    x = y ∧ ((∃ a, v = .pointer (some a)) ∨ ∃ f a b, v = .func (.func f) a b) := by
  unfold semNil at h
  split at h <;> simp at h
  · subst h; obtain ⟨_, _, _, rfl⟩ := hx; exact ⟨rfl, .inl ⟨_, rfl⟩⟩
  · subst h; obtain ⟨_, _, _, _, rfl⟩ := hx; exact ⟨rfl, .inr ⟨_, _, _, rfl⟩⟩

theorem arith_yes {op : BinOp} {k : IntKind} {a b : Int} {y : SV} (t : TypeId) (h : arith op k a b = some y) : Yes P E w (binOp op t (.int k a) (.int k b)) y := by
  unfold arith at h
  split at h
  case h_4 =>
    cases hb : (b == 0) with
    | true => simp [hb] at h
    | false =>
      simp only [hb, cond_false, forceI_eq, Option.some.injEq] at h
      subst h
      have hb' : b ≠ 0 := by simpa using hb
      exact ⟨_, by simp [binOp_quo, Op.intDiv, hb'], rfl⟩
  case h_5 =>
    cases hb : (b == 0) with
    | true => simp [hb] at h
    | false =>
      simp only [hb, cond_false, forceI_eq, Option.some.injEq] at h
      subst h
      have hb' : b ≠ 0 := by simpa using hb
      exact ⟨_, by simp [binOp_rem, Op.intDiv, hb'], rfl⟩
  all_goals first
    | (simp only [forceI_eq, Option.some.injEq] at h; subst h; exact ⟨_, by simp [binOp, Op.intArith, Op.intBits, Op.intCmp]; rfl, rfl⟩)
    | (simp only [forceI_eq, Option.some.injEq] at h; subst h; exact ⟨_, by simp [binOp, Op.intArith, Op.intBits, Op.intCmp], rfl⟩)
    | cases h

theorem arithS_yes {op : BinOp} {k : IntKind} {a b : Int} {y : SV} (t : TypeId) (h : arithS op k a b = some y) : Yes P E w (binOp op t (.int k a) (.int k b)) y := by
  unfold arithS at h
  split at h
  all_goals first
    | (simp only [Option.some.injEq] at h; subst h; exact ⟨_, by simp [binOp, Op.intArith, Op.intCmp]; rfl, rfl⟩)
    | (simp only [Option.some.injEq] at h; subst h; exact ⟨_, by simp [binOp, Op.intArith, Op.intCmp], rfl⟩)
    | cases h

theorem shift_yes {op : BinOp} {k k' : IntKind} {a b : Int} {y : SV} (t : TypeId) (hop : op = .shl ∨ op = .shr) (h : shiftE op k a b = some y) : Yes P E w (binOp op t (.int k a) (.int k' b)) y := by
  unfold shiftE at h
  cases hb : decide (b < 0) with
  | true => simp [hb] at h
  | false =>
    have hb' : ¬ b < 0 := by simpa using hb
    simp only [hb, cond_false] at h
    rcases hop with rfl | rfl
    · simp only [forceI_eq, Option.some.injEq] at h; subst h
      exact ⟨_, by rw [binOp_shl]; simp [Op.shift, hb'], rfl⟩
    · simp only [forceI_eq, Option.some.injEq] at h; subst h
      exact ⟨_, by rw [binOp_shr]; simp [Op.shift, hb'], rfl⟩

theorem intE_yes {op : BinOp} {k k' : IntKind} {a b : Int} {y : SV} (t : TypeId) (h : intE op k a k' b = some y) : Yes P E w (binOp op t (.int k a) (.int k' b)) y := by
  unfold intE at h
  split at h
  · exact shift_yes t (.inl rfl) h
  · exact shift_yes t (.inr rfl) h
  · cases hk : (k == k') with
    | false => simp [hk] at h
    | true =>
      have : k = k' := by simpa using hk
      subst this
      simp only [hk, cond_true] at h
      exact arith_yes t h

theorem str_yes {op : BinOp} {a b : ByteArray} {y : SV} (t : TypeId) (h : strE op a b = some y) : Yes P E w (binOp op t (.string a) (.string b)) y := by
  unfold strE at h
  split at h
  · cases hb : decide (((a.size + b.size : Nat) : Int) > IntKind.i64.max) with
    | true => simp only [hb, cond_true] at h; cases h
    | false =>
      simp only [hb, cond_false, Option.some.injEq] at h; subst h
      have hb' := of_decide_eq_false hb
      exact ⟨_, by simp only [binOp, Op.stringOp]; rw [if_neg hb']; rfl, rfl⟩
  · simp only [Option.some.injEq] at h; subst h; exact ⟨_, by simp only [binOp, Op.stringOp]; rfl, rfl⟩
  · simp only [Option.some.injEq] at h; subst h; exact ⟨_, by simp only [binOp, Op.stringOp]; rfl, rfl⟩
  · cases h

theorem strS_yes {op : BinOp} {a b : ByteArray} {y : SV} (t : TypeId) (h : strS op a b = some y) : Yes P E w (binOp op t (.string a) (.string b)) y := by
  unfold strS at h
  split at h
  · simp only [Option.some.injEq] at h; subst h; exact ⟨_, by simp only [binOp, Op.stringOp]; rfl, rfl⟩
  · simp only [Option.some.injEq] at h; subst h; exact ⟨_, by simp only [binOp, Op.stringOp]; rfl, rfl⟩
  · cases h

theorem den_sl {k off len : Nat} {cap : Option Nat} {lo : Nat} {u : Value} (h : Den E (.sl k off len cap lo) u) : ∃ id c, u = .slice (some ⟨id, off, none⟩) len c := by
  cases cap <;> (obtain ⟨id, _, _, rfl⟩ := h; exact ⟨id, _, rfl⟩)

theorem part_yes {t : TypeId} {cs : List SV} {off : Nat} {z : SV} {vs : List Value} (hv : DenL E cs vs) (h : partE P t cs off = some z) : Yes P E w (part t vs.toArray off) z := by
  unfold partE at h
  split at h
  · rename_i n ha hs
    cases hb : Nat.ble (off + n) cs.length with
    | false => simp [hb] at h
    | true =>
      simp only [hb, cond_true, Option.some.injEq] at h
      subst h
      have hb' := Nat.le_of_ble_eq_true hb
      have hl := hv.length
      refine ⟨.agg (vs.toArray.extract off (off + n)), by simp [part, tyAgg_run ha, tySize_run hs], (vs.drop off).take n, DenL.take n (DenL.drop off hv), ?_⟩
      simp
  · rename_i n ha hs
    obtain ⟨v, h1, h2⟩ := hv.get _ _ h
    exact ⟨v, by simp [part, tyAgg_run ha, h1], h2⟩
  · cases h

theorem eqE_run {t : TypeId} {x y : SV} {u v : Value} {b : Bool} (hx : Den E x u) (hy : Den E y v) (h : eqE P t x y = some b) (d : Nat) : (Op.equalIn (d + 1) t u v).run P w = .ok b w := by
  unfold eqE at h
  split at h <;> (try (cases h; done)) <;> rename_i hu <;> simp only [Option.some.injEq] at h <;> subst h
  all_goals
    first
    | (have hx' : u = _ := hx; have hy' : v = _ := hy; subst hx'; subst hy'; simp [Op.equalIn, und_run hu]; done)
    | (have hx' : u = _ := hx; obtain ⟨_, _, _, rfl⟩ := hy; subst hx'; simp [Op.equalIn, und_run hu]; done)
    | (obtain ⟨_, _, _, rfl⟩ := hx; have hy' : v = _ := hy; subst hy'; simp [Op.equalIn, und_run hu]; done)
    | (have hx' : u = _ := hx; obtain ⟨_, _, _, _, rfl⟩ := hy; subst hx'; simp [Op.equalIn, und_run hu]; done)
    | (obtain ⟨_, _, _, _, rfl⟩ := hx; have hy' : v = _ := hy; subst hy'; simp [Op.equalIn, und_run hu]; done)
    | (have hx' : u = _ := hx; obtain ⟨_, _, rfl⟩ := hy; subst hx'; simp [Op.equalIn, und_run hu]; done)
    | (obtain ⟨_, _, rfl⟩ := hx; have hy' : v = _ := hy; subst hy'; simp [Op.equalIn, und_run hu]; done)
    | (obtain ⟨_, _, rfl⟩ := den_sl hx; have hy' : v = _ := hy; subst hy'; simp [Op.equalIn, und_run hu]; done)
    | (obtain ⟨_, _, rfl⟩ := den_sl hy; have hx' : u = _ := hx; subst hx'; simp [Op.equalIn, und_run hu]; done)
    | (obtain ⟨_, _, _, _, _, rfl⟩ := hx; have hy' : v = _ := hy; subst hy'; simp [Op.equalIn, und_run hu]; done)
    | (obtain ⟨_, _, _, _, _, rfl⟩ := hy; have hx' : u = _ := hx; subst hx'; simp [Op.equalIn, und_run hu]; done)

theorem eqFs_run {r : TypeId → SV → SV → Option Bool} {d : Nat} (hr : ∀ (t : TypeId) (x y : SV) (u v : Value) (b : Bool), Den E x u → Den E y v → r t x y = some b → (Op.equalIn d t u v).run P w = .ok b w)
    {xs ys : List SV} {us vs : List Value} (hx : DenL E xs us) (hy : DenL E ys vs) : ∀ (fs : List Field) (b : Bool), eqFs P r xs ys fs = some b → (Op.eqFields d us.toArray vs.toArray fs).run P w = .ok b w
  | [], b, h => by simp [eqFs] at h; subst h; rfl
  | f :: fs, b, h => by
    simp only [eqFs] at h
    simp only [Op.eqFields]
    cases hn : (f.name == "_") with
    | true =>
      rw [hn] at h
      simp only [cond_true] at h
      have hn' : f.name = "_" := by simpa using hn
      simp only [hn', ne_eq, not_true_eq_false, if_false]
      exact eqFs_run hr hx hy fs b h
    | false =>
      rw [hn] at h
      simp only [cond_false] at h
      have hn' : f.name ≠ "_" := by simpa using hn
      split at h <;> try (cases h; done)
      rename_i p q hp hq
      split at h <;> try (cases h; done)
      rename_i b1 b2 h1 h2
      cases h
      obtain ⟨u, g1, g2⟩ := part_yes (w := w) hx hp
      obtain ⟨v, g3, g4⟩ := part_yes (w := w) hy hq
      have g5 := hr _ _ _ _ _ _ g2 g4 h1
      have g6 := eqFs_run hr hx hy fs b2 h2
      rw [if_pos hn']
      simp only [Sem.run_bind, g1, g3, g5, Result.andThen_ok]
      cases b1 with
      | false => simp
      | true => simpa using g6

theorem eqIs_run {r : TypeId → SV → SV → Option Bool} {d : Nat} (hr : ∀ (t : TypeId) (x y : SV) (u v : Value) (b : Bool), Den E x u → Den E y v → r t x y = some b → (Op.equalIn d t u v).run P w = .ok b w) {e sz : Nat}
    {xs ys : List SV} {us vs : List Value} (hx : DenL E xs us) (hy : DenL E ys vs) : ∀ (is : List Nat) (b : Bool), eqIs P r e sz xs ys is = some b → (Op.eqItems d e sz us.toArray vs.toArray is).run P w = .ok b w
  | [], b, h => by simp [eqIs] at h; subst h; rfl
  | i :: is, b, h => by
    simp only [eqIs] at h
    simp only [Op.eqItems]
    split at h <;> try (cases h; done)
    rename_i p q hp hq
    split at h <;> try (cases h; done)
    rename_i b1 b2 h1 h2
    cases h
    obtain ⟨u, g1, g2⟩ := part_yes (w := w) hx hp
    obtain ⟨v, g3, g4⟩ := part_yes (w := w) hy hq
    have g5 := hr _ _ _ _ _ _ g2 g4 h1
    have g6 := eqIs_run hr hx hy is b2 h2
    simp only [Sem.run_bind, g1, g3, g5, Result.andThen_ok]
    cases b1 with
    | false => simp
    | true => simpa using g6

theorem eqIn_run : ∀ (n : Nat) (t : TypeId) (x y : SV) (u v : Value) (b : Bool), Den E x u → Den E y v → eqIn P n t x y = some b → ∀ d, n ≤ d → (Op.equalIn d t u v).run P w = .ok b w
  | 0, _, _, _, _, _, _, _, _, h, _, _ => by simp [eqIn] at h
  | n + 1, t, x, y, u, v, b, hx, hy, h, d, hd => by
    obtain ⟨d, rfl⟩ : ∃ d', d = d' + 1 := ⟨d - 1, by omega⟩
    have ih : ∀ (t : TypeId) (x y : SV) (u v : Value) (b : Bool), Den E x u → Den E y v → eqIn P n t x y = some b → (Op.equalIn d t u v).run P w = .ok b w :=
      fun t x y u v b hx hy h => eqIn_run n t x y u v b hx hy h d (by omega)
    simp only [eqIn] at h
    split at h
    · rename_i k' k a k2 b2 hu
      have hx' : u = _ := hx; have hy' : v = _ := hy; subst hx'; subst hy'
      cases hk : (k == k2) with
      | false => simp [hk] at h
      | true =>
        simp only [hk, cond_true, Option.some.injEq] at h
        obtain rfl : k = k2 := by simpa using hk
        subst h
        exact run_equalIn_int w d t k k' a b2 hu
    · rename_i a b2 hu
      have hx' : u = _ := hx; have hy' : v = _ := hy; subst hx'; subst hy'
      cases h
      exact run_equalIn_string w d t a b2 hu
    · rename_i fs xs ys hu
      obtain ⟨us, h1, rfl⟩ := hx
      obtain ⟨vs, h2, rfl⟩ := hy
      cases hs : P.stoodInHeld t with
      | true => simp [hs] at h
      | false =>
        simp only [hs, cond_false] at h
        have hfs : P.fieldsOf t = fs := by simp [Program.fieldsOf, hu]
        rw [run_equalIn_struct w d t us.toArray vs.toArray (by rw [hfs]; exact hu) hs, hfs]
        exact eqFs_run ih h1 h2 _ _ h
    · rename_i m e xs ys hu
      obtain ⟨us, h1, rfl⟩ := hx
      obtain ⟨vs, h2, rfl⟩ := hy
      split at h <;> try (cases h; done)
      rename_i sz hsz
      unfold tySize at hsz
      split at hsz <;> try (cases hsz; done)
      rename_i i hi
      cases hsz
      have := run_equalIn_array w d us.toArray vs.toArray hu hi
      rw [this]
      have hc : P.cellsOf e = i.size := by simp [Program.cellsOf, hi]
      rw [hc]
      exact eqIs_run ih h1 h2 _ _ h
    · exact eqE_run hx hy h d

theorem eqE_yes {t : TypeId} {x y : SV} {u v : Value} {b : Bool} (hx : Den E x u) (hy : Den E y v) (h : eqE P t x y = some b) :
    (Op.equal t u v).run P w = .ok b w ∧ (∀ op ox oy, eqGuard op t ox oy u v = Pure.pure ()) ∧ binOp .eql t u v = (do Pure.pure (.bool (← Op.equal t u v))) ∧ binOp .neq t u v = (do Pure.pure (.bool (!(← Op.equal t u v)))) := by
  unfold eqE at h
  unfold Op.equal
  obtain ⟨d, hd⟩ : ∃ d, Op.maxDepth = d + 1 := ⟨9999, rfl⟩
  rw [hd]
  split at h <;> (try (cases h; done)) <;> rename_i hu <;> simp only [Option.some.injEq] at h <;> subst h
  all_goals
    first
    | (have hx' : u = _ := hx; have hy' : v = _ := hy; subst hx'; subst hy'
       refine ⟨by simp [Op.equalIn, und_run hu], fun op _ _ => by cases op <;> rfl, ?_, ?_⟩ <;> simp [binOp, Op.equal, hd])
    | (have hx' : u = _ := hx; obtain ⟨_, _, _, rfl⟩ := hy; subst hx'
       refine ⟨by simp [Op.equalIn, und_run hu], fun op _ _ => by cases op <;> rfl, ?_, ?_⟩ <;> simp [binOp, Op.equal, hd])
    | (obtain ⟨_, _, _, rfl⟩ := hx; have hy' : v = _ := hy; subst hy'
       refine ⟨by simp [Op.equalIn, und_run hu], fun op _ _ => by cases op <;> rfl, ?_, ?_⟩ <;> simp [binOp, Op.equal, hd])
    | (have hx' : u = _ := hx; obtain ⟨_, _, _, _, rfl⟩ := hy; subst hx'
       refine ⟨by simp [Op.equalIn, und_run hu], fun op _ _ => by cases op <;> rfl, ?_, ?_⟩ <;> simp [binOp, Op.equal, hd])
    | (obtain ⟨_, _, _, _, rfl⟩ := hx; have hy' : v = _ := hy; subst hy'
       refine ⟨by simp [Op.equalIn, und_run hu], fun op _ _ => by cases op <;> rfl, ?_, ?_⟩ <;> simp [binOp, Op.equal, hd])
    | (have hx' : u = _ := hx; obtain ⟨_, _, rfl⟩ := hy; subst hx'
       refine ⟨by simp [Op.equalIn, und_run hu], fun op _ _ => by cases op <;> rfl, ?_, ?_⟩ <;> simp [binOp, Op.equal, hd])
    | (obtain ⟨_, _, rfl⟩ := hx; have hy' : v = _ := hy; subst hy'
       refine ⟨by simp [Op.equalIn, und_run hu], fun op _ _ => by cases op <;> rfl, ?_, ?_⟩ <;> simp [binOp, Op.equal, hd])
    | (obtain ⟨_, _, rfl⟩ := den_sl hx; have hy' : v = _ := hy; subst hy'
       refine ⟨by simp [Op.equalIn, und_run hu], fun op _ _ => by cases op <;> rfl, ?_, ?_⟩ <;> simp [binOp, Op.equal, hd])
    | (obtain ⟨_, _, rfl⟩ := den_sl hy; have hx' : u = _ := hx; subst hx'
       refine ⟨by simp [Op.equalIn, und_run hu], fun op _ _ => by cases op <;> rfl, ?_, ?_⟩ <;> simp [binOp, Op.equal, hd])
    | (obtain ⟨_, _, _, _, _, rfl⟩ := hx; have hy' : v = _ := hy; subst hy'
       refine ⟨by simp [Op.equalIn, und_run hu], fun op _ _ => by cases op <;> rfl, ?_, ?_⟩ <;> simp [binOp, Op.equal, hd])
    | (obtain ⟨_, _, _, _, _, rfl⟩ := hy; have hx' : u = _ := hx; subst hx'
       refine ⟨by simp [Op.equalIn, und_run hu], fun op _ _ => by cases op <;> rfl, ?_, ?_⟩ <;> simp [binOp, Op.equal, hd])

theorem eqTop_yes {t : TypeId} {ox oy : Operand} {x y : SV} {u v : Value} {b : Bool} (hx : Den E x u) (hy : Den E y v) (hb : eqTop P t x y = some b) :
    (Op.equal t u v).run P w = .ok b w ∧ (∀ op, (eqGuard op t ox oy u v).run P w = .ok () w) ∧ binOp .eql t u v = (do Pure.pure (.bool (← Op.equal t u v))) ∧ binOp .neq t u v = (do Pure.pure (.bool (!(← Op.equal t u v)))) := by
  unfold eqTop at hb
  split at hb
  · have hx' := hx
    have hy' := hy
    obtain ⟨us, h1, rfl⟩ := hx'
    obtain ⟨vs, h2, rfl⟩ := hy'
    cases hg : P.eqGuardType P.depth t with
    | true => simp [hg] at hb
    | false =>
      simp only [hg, cond_false] at hb
      exact ⟨eqIn_run 16 t _ _ (.agg us.toArray) (.agg vs.toArray) b hx hy hb Op.maxDepth (by decide), fun op => run_eqGuard_agg w op t ox oy _ _ hg, rfl, rfl⟩
  · split at hb <;> try (cases hb; done)
    rename_i ms hu
    cases hm : ms.isEmpty with
    | false => simp [hm] at hb
    | true =>
      simp only [hm, cond_true, Option.some.injEq] at hb
      subst hb
      have e1 : u = .nilIface := hx
      have e2 : v = .nilIface := hy
      subst e1; subst e2
      obtain ⟨d, hd⟩ : ∃ d, Op.maxDepth = d + 1 := ⟨9999, rfl⟩
      refine ⟨by simp [Op.equal, hd, Op.equalIn, und_run hu], fun op => ?_, ?_, ?_⟩
      · cases op <;> first | rfl | (cases ox <;> cases oy <;> simp [eqGuard, hd, Op.eqGuardIn, und_run hu, hm])
      all_goals simp [binOp, Op.equal, hd]
  · obtain ⟨h1, h2, h3, h4⟩ := eqE_yes (w := w) hx hy hb
    exact ⟨h1, fun op => by rw [h2]; rfl, h3, h4⟩

theorem bin_yes {op : BinOp} {t : TypeId} {ox oy : Operand} {x y z : SV} {u v : Value} (hx : Den E x u) (hy : Den E y v) (h : binE P op t x y = some z) :
    Yes P E w (do eqGuard op t ox oy u v; binOp op t u v) z := by
  have gi : ∀ k n (v : Value), eqGuard op t ox oy (.int k n) v = Pure.pure () := fun _ _ _ => by cases op <;> rfl
  have gs : ∀ s (v : Value), eqGuard op t ox oy (.string s) v = Pure.pure () := fun _ _ => by cases op <;> rfl
  unfold binE at h
  split at h
  · have e1 : u = _ := hx; have e2 : v = _ := hy; subst e1; subst e2; rw [gi]; exact intE_yes t h
  · rename_i k a k' b
    have e1 : u = _ := hx; have e2 : v = _ := hy; subst e1; subst e2
    cases hk : (k == k') with
    | false => simp [hk] at h
    | true => obtain rfl : k = k' := by simpa using hk
              simp only [hk, cond_true] at h; rw [gi]; exact arithS_yes t h
  · rename_i k a k' b
    have e1 : u = _ := hx; have e2 : v = _ := hy; subst e1; subst e2
    cases hk : (k == k') with
    | false => simp [hk] at h
    | true => obtain rfl : k = k' := by simpa using hk
              simp only [hk, cond_true] at h; rw [gi]; exact arithS_yes t h
  · rename_i k a k' b
    have e1 : u = _ := hx; have e2 : v = _ := hy; subst e1; subst e2
    cases hk : (k == k') with
    | false => simp [hk] at h
    | true => obtain rfl : k = k' := by simpa using hk
              simp only [hk, cond_true] at h; rw [gi]; exact arithS_yes t h
  · have e1 : u = _ := hx; have e2 : v = _ := hy; subst e1; subst e2; rw [gs]; exact str_yes t h
  · have e1 : u = _ := hx; have e2 : v = _ := hy; subst e1; subst e2; rw [gs]; exact strS_yes t h
  · have e1 : u = _ := hx; have e2 : v = _ := hy; subst e1; subst e2; rw [gs]; exact strS_yes t h
  · have e1 : u = _ := hx; have e2 : v = _ := hy; subst e1; subst e2; rw [gs]; exact strS_yes t h
  · have key := fun b (hb : eqTop P t x y = some b) => eqTop_yes (w := w) (ox := ox) (oy := oy) hx hy hb
    unfold eqOp at h
    split at h
    · split at h <;> try (cases h; done)
      rename_i b hb
      cases h
      obtain ⟨h1, h2, h3, _⟩ := key b hb
      exact ⟨.bool b, by rw [h3]; simp [h1, h2], rfl⟩
    · split at h <;> try (cases h; done)
      rename_i b hb
      cases h
      obtain ⟨h1, h2, _, h3⟩ := key b hb
      exact ⟨.bool (!b), by rw [h3]; simp [h1, h2], rfl⟩
    · cases h

theorem un_yes {op : UnOp} {x z : SV} {u : Value} (hx : Den E x u) (h : unE op x = some z) : Yes P E w (Op.unary op u) z := by
  unfold unE at h
  split at h
  · have e1 : u = _ := hx; subst e1
    have := arith_yes (P := P) (E := E) (w := w) 0 h
    rw [binOp_sub] at this; exact this
  · have e1 : u = _ := hx; subst e1
    have := arith_yes (P := P) (E := E) (w := w) 0 h
    rw [binOp_xor] at this; exact this
  · have e1 : u = _ := hx; subst e1; cases h; exact ⟨_, rfl, rfl⟩
  · have e1 : u = _ := hx; subst e1; cases h; exact ⟨_, rfl, rfl⟩
  · cases h

theorem conv_yes {s d : TypeId} {x z : SV} {u : Value} (hx : Den E x u) (h : semConv P s d x = some z) : Yes P E w (convert s d u) z := by
  unfold semConv at h
  split at h <;> try (cases h; done)
  rename_i ds hs
  split at h <;> (try (cases h; done)) <;> rename_i hd
  · have e1 : u = _ := hx; subst e1
    simp only [forceI_eq, Option.some.injEq] at h; subst h
    exact ⟨_, by unfold convert; cases ds <;> simp [und_run hs, und_run hd, Conv.intToInt] <;> rfl, rfl⟩
  · have e1 : u = _ := hx; subst e1
    simp only [Option.some.injEq] at h; subst h
    exact ⟨_, by unfold convert; cases ds <;> simp [und_run hs, und_run hd, Conv.intToInt] <;> rfl, rfl⟩
  · have e1 : u = _ := hx; subst e1
    simp only [Option.some.injEq] at h; subst h
    exact ⟨_, by unfold convert; cases ds <;> simp [und_run hs, und_run hd] <;> rfl, rfl⟩
  · have e1 : u = _ := hx; subst e1
    simp only [Option.some.injEq] at h; subst h
    exact ⟨_, by unfold convert; cases ds <;> simp [und_run hs, und_run hd] <;> rfl, rfl⟩

theorem iface_yes {t : TypeId} {x z : SV} {u : Value} (hx : Den E x u) (h : semIface P t x = some z) : Yes P E w (Instr.makeInterface t u) z := by
  unfold semIface at h
  split at h <;> try (cases h; done)
  rename_i d hn hu
  cases h
  refine ⟨.iface t u, ?_, u, hx, rfl⟩
  cases d <;> first | exact absurd rfl (hn _) | simp [Instr.makeInterface, und_run hu]
end
end Go.Xe
