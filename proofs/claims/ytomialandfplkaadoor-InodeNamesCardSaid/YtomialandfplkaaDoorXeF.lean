/- A part of an evaluator for the program's code: it runs code over an abstract memory, and what it answers holds of every run. -/
import Derived.Test.YtomialandfplkaaDoorXeE
namespace Go.Xe
section
variable {P : Program} {E : Env} {w : World}

/-- What a step without memory stands for. -/
def Yes (P : Program) (E : Env) (w : World) (s : Sem Value) (y : SV) : Prop := ∃ v, s.run P w = .ok v w ∧ Den E y v

theorem nil_yes {x y : SV} {v : Value} (hx : Den E x v) (h : semNil x = some y) :
    x = y ∧ ((∃ a, v = .pointer (some a)) ∨ ∃ f a b, v = .func (.func f) a b) := by
  unfold semNil at h
  split at h <;> simp at h
  · subst h; obtain ⟨_, _, _, rfl⟩ := hx; exact ⟨rfl, .inl ⟨_, rfl⟩⟩
  · subst h; obtain ⟨_, _, _, _, rfl⟩ := hx; exact ⟨rfl, .inr ⟨_, _, _, rfl⟩⟩

theorem arith_yes {op : BinOp} {k : IntKind} {a b : Int} {y : SV} (t : TypeId) (h : arith op k a b = some y) : Yes P E w (binOp op t (.int k a) (.int k b)) y := by
  unfold arith at h
  split at h
  case h_4 =>
    cases hb : (b == 0) with
    | true => simp [hb] at h
    | false =>
      simp only [hb, cond_false, forceI_eq, Option.some.injEq] at h
      subst h
      have hb' : b ≠ 0 := by simpa using hb
      exact ⟨_, by simp [binOp_quo, Op.intDiv, hb'], rfl⟩
  case h_5 =>
    cases hb : (b == 0) with
    | true => simp [hb] at h
    | false =>
      simp only [hb, cond_false, forceI_eq, Option.some.injEq] at h
      subst h
      have hb' : b ≠ 0 := by simpa using hb
      exact ⟨_, by simp [binOp_rem, Op.intDiv, hb'], rfl⟩
  all_goals first
    | (simp only [forceI_eq, Option.some.injEq] at h; subst h; exact ⟨_, by simp [binOp, Op.intArith, Op.intBits, Op.intCmp]; rfl, rfl⟩)
    | (simp only [forceI_eq, Option.some.injEq] at h; subst h; exact ⟨_, by simp [binOp, Op.intArith, Op.intBits, Op.intCmp], rfl⟩)
    | cases h

theorem arithS_yes {op : BinOp} {k : IntKind} {a b : Int} {y : SV} (t : TypeId) (h : arithS op k a b = some y) : Yes P E w (binOp op t (.int k a) (.int k b)) y := by
  unfold arithS at h
  split at h
  all_goals first
    | (simp only [Option.some.injEq] at h; subst h; exact ⟨_, by simp [binOp, Op.intArith, Op.intCmp]; rfl, rfl⟩)
    | (simp only [Option.some.injEq] at h; subst h; exact ⟨_, by simp [binOp, Op.intArith, Op.intCmp], rfl⟩)
    | cases h

theorem shift_yes {op : BinOp} {k k' : IntKind} {a b : Int} {y : SV} (t : TypeId) (hop : op = .shl ∨ op = .shr) (h : shiftE op k a b = some y) : Yes P E w (binOp op t (.int k a) (.int k' b)) y := by
  unfold shiftE at h
  cases hb : decide (b < 0) with
  | true => simp [hb] at h
  | false =>
    have hb' : ¬ b < 0 := by simpa using hb
    simp only [hb, cond_false] at h
    rcases hop with rfl | rfl
    · simp only [forceI_eq, Option.some.injEq] at h; subst h
      exact ⟨_, by rw [binOp_shl]; simp [Op.shift, hb'], rfl⟩
    · simp only [forceI_eq, Option.some.injEq] at h; subst h
      exact ⟨_, by rw [binOp_shr]; simp [Op.shift, hb'], rfl⟩

theorem intE_yes {op : BinOp} {k k' : IntKind} {a b : Int} {y : SV} (t : TypeId) (h : intE op k a k' b = some y) : Yes P E w (binOp op t (.int k a) (.int k' b)) y := by
  unfold intE at h
  split at h
  · exact shift_yes t (.inl rfl) h
  · exact shift_yes t (.inr rfl) h
  · cases hk : (k == k') with
    | false => simp [hk] at h
    | true =>
      have : k = k' := by simpa using hk
      subst this
      simp only [hk, cond_true] at h
      exact arith_yes t h

theorem str_yes {op : BinOp} {a b : ByteArray} {y : SV} (t : TypeId) (h : strE op a b = some y) : Yes P E w (binOp op t (.string a) (.string b)) y := by
  unfold strE at h
  split at h
  · cases hb : decide (((a.size + b.size : Nat) : Int) > IntKind.i64.max) with
    | true => simp only [hb, cond_true] at h; cases h
    | false =>
      simp only [hb, cond_false, Option.some.injEq] at h; subst h
      have hb' := of_decide_eq_false hb
      exact ⟨_, by simp only [binOp, Op.stringOp]; rw [if_neg hb']; rfl, rfl⟩
  · simp only [Option.some.injEq] at h; subst h; exact ⟨_, by simp only [binOp, Op.stringOp]; rfl, rfl⟩
  · simp only [Option.some.injEq] at h; subst h; exact ⟨_, by simp only [binOp, Op.stringOp]; rfl, rfl⟩
  · cases h

theorem strS_yes {op : BinOp} {a b : ByteArray} {y : SV} (t : TypeId) (h : strS op a b = some y) : Yes P E w (binOp op t (.string a) (.string b)) y := by
  unfold strS at h
  split at h
  · simp only [Option.some.injEq] at h; subst h; exact ⟨_, by simp only [binOp, Op.stringOp]; rfl, rfl⟩
  · simp only [Option.some.injEq] at h; subst h; exact ⟨_, by simp only [binOp, Op.stringOp]; rfl, rfl⟩
  · cases h

theorem den_sl {k off len : Nat} {cap : Option Nat} {lo : Nat} {u : Value} (h : Den E (.sl k off len cap lo) u) : ∃ id c, u = .slice (some ⟨id, off, none⟩) len c := by
  cases cap <;> (obtain ⟨id, _, _, rfl⟩ := h; exact ⟨id, _, rfl⟩)

theorem eqE_yes {t : TypeId} {x y : SV} {u v : Value} {b : Bool} (hx : Den E x u) (hy : Den E y v) (h : eqE P t x y = some b) :
    (Op.equal t u v).run P w = .ok b w ∧ (∀ op ox oy, eqGuard op t ox oy u v = Pure.pure ()) ∧ binOp .eql t u v = (do Pure.pure (.bool (← Op.equal t u v))) ∧ binOp .neq t u v = (do Pure.pure (.bool (!(← Op.equal t u v)))) := by
  unfold eqE at h
  unfold Op.equal
  obtain ⟨d, hd⟩ : ∃ d, Op.maxDepth = d + 1 := ⟨9999, rfl⟩
  rw [hd]
  split at h <;> (try (cases h; done)) <;> rename_i hu <;> simp only [Option.some.injEq] at h <;> subst h
  all_goals
    first
    | (have hx' : u = _ := hx; have hy' : v = _ := hy; subst hx'; subst hy'
       refine ⟨by simp [Op.equalIn, und_run hu], fun op _ _ => by cases op <;> rfl, ?_, ?_⟩ <;> simp [binOp, Op.equal, hd])
    | (have hx' : u = _ := hx; obtain ⟨_, _, _, rfl⟩ := hy; subst hx'
       refine ⟨by simp [Op.equalIn, und_run hu], fun op _ _ => by cases op <;> rfl, ?_, ?_⟩ <;> simp [binOp, Op.equal, hd])
    | (obtain ⟨_, _, _, rfl⟩ := hx; have hy' : v = _ := hy; subst hy'
       refine ⟨by simp [Op.equalIn, und_run hu], fun op _ _ => by cases op <;> rfl, ?_, ?_⟩ <;> simp [binOp, Op.equal, hd])
    | (have hx' : u = _ := hx; obtain ⟨_, _, _, _, rfl⟩ := hy; subst hx'
       refine ⟨by simp [Op.equalIn, und_run hu], fun op _ _ => by cases op <;> rfl, ?_, ?_⟩ <;> simp [binOp, Op.equal, hd])
    | (obtain ⟨_, _, _, _, rfl⟩ := hx; have hy' : v = _ := hy; subst hy'
       refine ⟨by simp [Op.equalIn, und_run hu], fun op _ _ => by cases op <;> rfl, ?_, ?_⟩ <;> simp [binOp, Op.equal, hd])
    | (have hx' : u = _ := hx; obtain ⟨_, _, rfl⟩ := hy; subst hx'
       refine ⟨by simp [Op.equalIn, und_run hu], fun op _ _ => by cases op <;> rfl, ?_, ?_⟩ <;> simp [binOp, Op.equal, hd])
    | (obtain ⟨_, _, rfl⟩ := hx; have hy' : v = _ := hy; subst hy'
       refine ⟨by simp [Op.equalIn, und_run hu], fun op _ _ => by cases op <;> rfl, ?_, ?_⟩ <;> simp [binOp, Op.equal, hd])
    | (obtain ⟨_, _, rfl⟩ := den_sl hx; have hy' : v = _ := hy; subst hy'
       refine ⟨by simp [Op.equalIn, und_run hu], fun op _ _ => by cases op <;> rfl, ?_, ?_⟩ <;> simp [binOp, Op.equal, hd])
    | (obtain ⟨_, _, rfl⟩ := den_sl hy; have hx' : u = _ := hx; subst hx'
       refine ⟨by simp [Op.equalIn, und_run hu], fun op _ _ => by cases op <;> rfl, ?_, ?_⟩ <;> simp [binOp, Op.equal, hd])

theorem bin_yes {op : BinOp} {t : TypeId} {ox oy : Operand} {x y z : SV} {u v : Value} (hx : Den E x u) (hy : Den E y v) (h : binE P op t x y = some z) :
    Yes P E w (do eqGuard op t ox oy u v; binOp op t u v) z := by
  have gi : ∀ k n (v : Value), eqGuard op t ox oy (.int k n) v = Pure.pure () := fun _ _ _ => by cases op <;> rfl
  have gs : ∀ s (v : Value), eqGuard op t ox oy (.string s) v = Pure.pure () := fun _ _ => by cases op <;> rfl
  unfold binE at h
  split at h
  · have e1 : u = _ := hx; have e2 : v = _ := hy; subst e1; subst e2; rw [gi]; exact intE_yes t h
  · rename_i k a k' b
    have e1 : u = _ := hx; have e2 : v = _ := hy; subst e1; subst e2
    cases hk : (k == k') with
    | false => simp [hk] at h
    | true => obtain rfl : k = k' := by simpa using hk
              simp only [hk, cond_true] at h; rw [gi]; exact arithS_yes t h
  · rename_i k a k' b
    have e1 : u = _ := hx; have e2 : v = _ := hy; subst e1; subst e2
    cases hk : (k == k') with
    | false => simp [hk] at h
    | true => obtain rfl : k = k' := by simpa using hk
              simp only [hk, cond_true] at h; rw [gi]; exact arithS_yes t h
  · rename_i k a k' b
    have e1 : u = _ := hx; have e2 : v = _ := hy; subst e1; subst e2
    cases hk : (k == k') with
    | false => simp [hk] at h
    | true => obtain rfl : k = k' := by simpa using hk
              simp only [hk, cond_true] at h; rw [gi]; exact arithS_yes t h
  · have e1 : u = _ := hx; have e2 : v = _ := hy; subst e1; subst e2; rw [gs]; exact str_yes t h
  · have e1 : u = _ := hx; have e2 : v = _ := hy; subst e1; subst e2; rw [gs]; exact strS_yes t h
  · have e1 : u = _ := hx; have e2 : v = _ := hy; subst e1; subst e2; rw [gs]; exact strS_yes t h
  · have e1 : u = _ := hx; have e2 : v = _ := hy; subst e1; subst e2; rw [gs]; exact strS_yes t h
  · unfold eqOp at h
    split at h
    · split at h <;> try (cases h; done)
      rename_i b hb
      cases h
      obtain ⟨h1, h2, h3, _⟩ := eqE_yes (w := w) hx hy hb
      exact ⟨.bool b, by rw [h2, h3]; simp [h1], rfl⟩
    · split at h <;> try (cases h; done)
      rename_i b hb
      cases h
      obtain ⟨h1, h2, _, h3⟩ := eqE_yes (w := w) hx hy hb
      exact ⟨.bool (!b), by rw [h2, h3]; simp [h1], rfl⟩
    · cases h

theorem un_yes {op : UnOp} {x z : SV} {u : Value} (hx : Den E x u) (h : unE op x = some z) : Yes P E w (Op.unary op u) z := by
  unfold unE at h
  split at h
  · have e1 : u = _ := hx; subst e1
    have := arith_yes (P := P) (E := E) (w := w) 0 h
    rw [binOp_sub] at this; exact this
  · have e1 : u = _ := hx; subst e1
    have := arith_yes (P := P) (E := E) (w := w) 0 h
    rw [binOp_xor] at this; exact this
  · have e1 : u = _ := hx; subst e1; cases h; exact ⟨_, rfl, rfl⟩
  · have e1 : u = _ := hx; subst e1; cases h; exact ⟨_, rfl, rfl⟩
  · cases h

theorem conv_yes {s d : TypeId} {x z : SV} {u : Value} (hx : Den E x u) (h : semConv P s d x = some z) : Yes P E w (convert s d u) z := by
  unfold semConv at h
  split at h <;> try (cases h; done)
  rename_i ds hs
  split at h <;> (try (cases h; done)) <;> rename_i hd
  · have e1 : u = _ := hx; subst e1
    simp only [forceI_eq, Option.some.injEq] at h; subst h
    exact ⟨_, by unfold convert; cases ds <;> simp [und_run hs, und_run hd, Conv.intToInt] <;> rfl, rfl⟩
  · have e1 : u = _ := hx; subst e1
    simp only [Option.some.injEq] at h; subst h
    exact ⟨_, by unfold convert; cases ds <;> simp [und_run hs, und_run hd, Conv.intToInt] <;> rfl, rfl⟩
  · have e1 : u = _ := hx; subst e1
    simp only [Option.some.injEq] at h; subst h
    exact ⟨_, by unfold convert; cases ds <;> simp [und_run hs, und_run hd] <;> rfl, rfl⟩
  · have e1 : u = _ := hx; subst e1
    simp only [Option.some.injEq] at h; subst h
    exact ⟨_, by unfold convert; cases ds <;> simp [und_run hs, und_run hd] <;> rfl, rfl⟩

theorem iface_yes {t : TypeId} {x z : SV} {u : Value} (hx : Den E x u) (h : semIface P t x = some z) : Yes P E w (Instr.makeInterface t u) z := by
  unfold semIface at h
  split at h <;> try (cases h; done)
  rename_i d hn hu
  cases h
  refine ⟨.iface t u, ?_, u, hx, rfl⟩
  cases d <;> first | exact absurd rfl (hn _) | simp [Instr.makeInterface, und_run hu]
end
end Go.Xe
