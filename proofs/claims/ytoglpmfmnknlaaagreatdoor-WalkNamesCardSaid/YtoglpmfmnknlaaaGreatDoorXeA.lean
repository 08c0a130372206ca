/- A part of an evaluator for the code. -/
import Derived.Test.YtoglpmfmnknlaaaGreatDoorXe
import Derived.Laws.Sem
import Derived.Laws.World
import Derived.Laws.Entries
import Derived.Laws.Cells
import Derived.Laws.Small
import Derived.Laws.Tables
import Derived.Laws.MakeOwn
import Derived.Laws.AppendOwn
import Derived.Laws.Slices
import Derived.Laws.Pointers
import Derived.Laws.Build
import Derived.Laws.Bits
import Derived.OrdersIn
import Derived.LoopNIn
import Derived.RangeFuncIn
import Derived.TacticsIn
import Derived.DefersIn
import Derived.RowKit3
namespace Go.Xe

/-! ### Tries -/
theorem get_nil {α : Type} (j : Nat) : (Tr.nil : Tr α).get j = none := rfl

theorem get_set {α : Type} : ∀ (f : Nat) (t : Tr α) (i j : Nat) (x y : α), (t.set f i x).get j = some y → (j = i ∧ y = x) ∨ (j ≠ i ∧ t.get j = some y)
  | 0, t, i, j, x, y, h => by simp [Tr.set, Tr.get] at h
  | f + 1, .nil, i, j, x, y, h => by
    unfold Tr.set at h
    cases hi : Nat.beq i 0 with
    | true =>
      have hi0 : i = 0 := Nat.eq_of_beq_eq_true hi
      rw [hi] at h
      cases hj : Nat.beq j 0 with
      | true => simp only [cond_true, Tr.get, hj] at h; exact .inl ⟨by rw [hi0]; exact Nat.eq_of_beq_eq_true hj, (Option.some.inj h).symm⟩
      | false => simp only [cond_true, Tr.get, hj, cond_false] at h; cases h2 : Nat.beq (j % 2) 1 <;> simp [h2] at h
    | false =>
      have hi0 : i ≠ 0 := Nat.ne_of_beq_eq_false hi
      rw [hi] at h
      cases ho : Nat.beq (i % 2) 1 with
      | true =>
        have ho' : i % 2 = 1 := Nat.eq_of_beq_eq_true ho
        simp only [cond_false, ho, cond_true, Tr.get] at h
        cases hj : Nat.beq j 0 with
        | true => simp [hj] at h
        | false =>
          have hj0 : j ≠ 0 := Nat.ne_of_beq_eq_false hj
          cases h2 : Nat.beq (j % 2) 1 with
          | true =>
            have h2' : j % 2 = 1 := Nat.eq_of_beq_eq_true h2
            simp only [hj, h2, cond_false, cond_true] at h
            rcases get_set f _ _ _ _ _ h with ⟨e, hy⟩ | ⟨_, hy⟩
            · exact .inl ⟨by omega, hy⟩
            · simp [Tr.get] at hy
          | false => simp [hj, h2] at h
      | false =>
        have ho' : i % 2 ≠ 1 := Nat.ne_of_beq_eq_false ho
        simp only [cond_false, ho, Tr.get] at h
        cases hj : Nat.beq j 0 with
        | true => simp [hj] at h
        | false =>
          have hj0 : j ≠ 0 := Nat.ne_of_beq_eq_false hj
          cases h2 : Nat.beq (j % 2) 1 with
          | true => simp [hj, h2] at h
          | false =>
            have h2' : j % 2 ≠ 1 := Nat.ne_of_beq_eq_false h2
            simp only [hj, h2, cond_false] at h
            rcases get_set f _ _ _ _ _ h with ⟨e, hy⟩ | ⟨_, hy⟩
            · exact .inl ⟨by omega, hy⟩
            · simp [Tr.get] at hy
  | f + 1, .node v l r, i, j, x, y, h => by
    unfold Tr.set at h
    cases hi : Nat.beq i 0 with
    | true =>
      have hi0 : i = 0 := Nat.eq_of_beq_eq_true hi
      simp only [hi, cond_true, Tr.get] at h
      cases hj : Nat.beq j 0 with
      | true =>
        have hj0 : j = 0 := Nat.eq_of_beq_eq_true hj
        simp only [hj, cond_true] at h; exact .inl ⟨by omega, (Option.some.inj h).symm⟩
      | false =>
        have hj0 : j ≠ 0 := Nat.ne_of_beq_eq_false hj
        exact .inr ⟨by omega, by simpa [Tr.get, hj] using h⟩
    | false =>
      have hi0 : i ≠ 0 := Nat.ne_of_beq_eq_false hi
      cases ho : Nat.beq (i % 2) 1 with
      | true =>
        have ho' : i % 2 = 1 := Nat.eq_of_beq_eq_true ho
        simp only [hi, ho, cond_false, cond_true, Tr.get] at h
        cases hj : Nat.beq j 0 with
        | true =>
          have hj0 : j = 0 := Nat.eq_of_beq_eq_true hj
          exact .inr ⟨by omega, by simpa [Tr.get, hj] using h⟩
        | false =>
          have hj0 : j ≠ 0 := Nat.ne_of_beq_eq_false hj
          cases h2 : Nat.beq (j % 2) 1 with
          | true =>
            have h2' : j % 2 = 1 := Nat.eq_of_beq_eq_true h2
            simp only [hj, h2, cond_false, cond_true] at h
            rcases get_set f _ _ _ _ _ h with ⟨e, hy⟩ | ⟨hn, hy⟩
            · exact .inl ⟨by omega, hy⟩
            · exact .inr ⟨by omega, by simpa [Tr.get, hj, h2] using hy⟩
          | false =>
            have h2' : j % 2 ≠ 1 := Nat.ne_of_beq_eq_false h2
            exact .inr ⟨by omega, by simpa [Tr.get, hj, h2] using h⟩
      | false =>
        have ho' : i % 2 ≠ 1 := Nat.ne_of_beq_eq_false ho
        simp only [hi, ho, cond_false, Tr.get] at h
        cases hj : Nat.beq j 0 with
        | true =>
          have hj0 : j = 0 := Nat.eq_of_beq_eq_true hj
          exact .inr ⟨by omega, by simpa [Tr.get, hj] using h⟩
        | false =>
          have hj0 : j ≠ 0 := Nat.ne_of_beq_eq_false hj
          cases h2 : Nat.beq (j % 2) 1 with
          | true =>
            have h2' : j % 2 = 1 := Nat.eq_of_beq_eq_true h2
            exact .inr ⟨by omega, by simpa [Tr.get, hj, h2] using h⟩
          | false =>
            have h2' : j % 2 ≠ 1 := Nat.ne_of_beq_eq_false h2
            simp only [hj, h2, cond_false] at h
            rcases get_set f _ _ _ _ _ h with ⟨e, hy⟩ | ⟨hn, hy⟩
            · exact .inl ⟨by omega, hy⟩
            · exact .inr ⟨by omega, by simpa [Tr.get, hj, h2] using hy⟩

theorem get_set_eq {α : Type} : ∀ (f : Nat) (t : Tr α) (i j : Nat) (x : α), i + 1 < 2 ^ f → (t.set f i x).get j = if j = i then some x else t.get j
  | 0, t, i, j, x, h => by simp at h
  | f + 1, .nil, i, j, x, h => by
    have h2 : 2 ^ (f + 1) = 2 * 2 ^ f := by rw [Nat.pow_succ]; omega
    unfold Tr.set
    cases hi : Nat.beq i 0 with
    | true =>
      have hi0 : i = 0 := Nat.eq_of_beq_eq_true hi
      simp only [cond_true, Tr.get]
      cases hj : Nat.beq j 0 with
      | true => have := Nat.eq_of_beq_eq_true hj; simp [hi0, this]
      | false => have := Nat.ne_of_beq_eq_false hj; simp [hi0, this]
    | false =>
      have hi0 : i ≠ 0 := Nat.ne_of_beq_eq_false hi
      cases ho : Nat.beq (i % 2) 1 with
      | true =>
        have ho' : i % 2 = 1 := Nat.eq_of_beq_eq_true ho
        simp only [cond_false, cond_true, Tr.get]
        cases hj : Nat.beq j 0 with
        | true => have := Nat.eq_of_beq_eq_true hj; simp only [cond_true]; rw [if_neg (by omega)]
        | false =>
          have hj0 := Nat.ne_of_beq_eq_false hj
          cases h3 : Nat.beq (j % 2) 1 with
          | true =>
            have h3' := Nat.eq_of_beq_eq_true h3
            simp only [cond_false, cond_true]
            rw [get_set_eq f .nil (i / 2) (j / 2) x (by omega)]
            by_cases e : j = i
            · rw [if_pos e, if_pos (by omega)]
            · rw [if_neg e, if_neg (by omega)]; rfl
          | false =>
            have h3' := Nat.ne_of_beq_eq_false h3
            simp only [cond_false]; rw [if_neg (by omega)]
      | false =>
        have ho' : i % 2 ≠ 1 := Nat.ne_of_beq_eq_false ho
        simp only [cond_false, Tr.get]
        cases hj : Nat.beq j 0 with
        | true => have := Nat.eq_of_beq_eq_true hj; simp only [cond_true]; rw [if_neg (by omega)]
        | false =>
          have hj0 := Nat.ne_of_beq_eq_false hj
          cases h3 : Nat.beq (j % 2) 1 with
          | true =>
            have h3' := Nat.eq_of_beq_eq_true h3
            simp only [cond_false, cond_true]; rw [if_neg (by omega)]
          | false =>
            have h3' := Nat.ne_of_beq_eq_false h3
            simp only [cond_false]
            rw [get_set_eq f .nil (i / 2 - 1) (j / 2 - 1) x (by omega)]
            by_cases e : j = i
            · rw [if_pos e, if_pos (by omega)]
            · rw [if_neg e, if_neg (by omega)]; rfl
  | f + 1, .node v l r, i, j, x, h => by
    have h2 : 2 ^ (f + 1) = 2 * 2 ^ f := by rw [Nat.pow_succ]; omega
    unfold Tr.set
    cases hi : Nat.beq i 0 with
    | true =>
      have hi0 : i = 0 := Nat.eq_of_beq_eq_true hi
      simp only [cond_true, Tr.get]
      cases hj : Nat.beq j 0 with
      | true => have := Nat.eq_of_beq_eq_true hj; simp [hi0, this]
      | false => have := Nat.ne_of_beq_eq_false hj; simp [hi0, this]
    | false =>
      have hi0 : i ≠ 0 := Nat.ne_of_beq_eq_false hi
      cases ho : Nat.beq (i % 2) 1 with
      | true =>
        have ho' : i % 2 = 1 := Nat.eq_of_beq_eq_true ho
        simp only [cond_false, cond_true, Tr.get]
        cases hj : Nat.beq j 0 with
        | true => have := Nat.eq_of_beq_eq_true hj; simp only [cond_true]; rw [if_neg (by omega)]
        | false =>
          have hj0 := Nat.ne_of_beq_eq_false hj
          cases h3 : Nat.beq (j % 2) 1 with
          | true =>
            have h3' := Nat.eq_of_beq_eq_true h3
            simp only [cond_false, cond_true]
            rw [get_set_eq f l (i / 2) (j / 2) x (by omega)]
            by_cases e : j = i
            · rw [if_pos e, if_pos (by omega)]
            · rw [if_neg e, if_neg (by omega)]
          | false =>
            have h3' := Nat.ne_of_beq_eq_false h3
            simp only [cond_false]; rw [if_neg (by omega)]
      | false =>
        have ho' : i % 2 ≠ 1 := Nat.ne_of_beq_eq_false ho
        simp only [cond_false, Tr.get]
        cases hj : Nat.beq j 0 with
        | true => have := Nat.eq_of_beq_eq_true hj; simp only [cond_true]; rw [if_neg (by omega)]
        | false =>
          have hj0 := Nat.ne_of_beq_eq_false hj
          cases h3 : Nat.beq (j % 2) 1 with
          | true =>
            have h3' := Nat.eq_of_beq_eq_true h3
            simp only [cond_false, cond_true]; rw [if_neg (by omega)]
          | false =>
            have h3' := Nat.ne_of_beq_eq_false h3
            simp only [cond_false]
            rw [get_set_eq f r (i / 2 - 1) (j / 2 - 1) x (by omega)]
            by_cases e : j = i
            · rw [if_pos e, if_pos (by omega)]
            · rw [if_neg e, if_neg (by omega)]

theorem get_put {α : Type} (t : Tr α) (i j : Nat) (x : α) : (t.put i x).get j = if j = i then some x else t.get j :=
  get_set_eq _ _ _ _ _ (Nat.lt_two_pow_self)
theorem get_put_some {α : Type} {t : Tr α} {i j : Nat} {x y : α} (h : (t.put i x).get j = some y) : (j = i ∧ y = x) ∨ (j ≠ i ∧ t.get j = some y) := get_set _ _ _ _ _ _ h

theorem Hp.get_put (H : Hp) (i j : Nat) (o : Ob) : (H.put i o).get j = if j = i then some o else H.get j := by
  unfold Hp.get Hp.put
  simp only [Xe.get_put]
  by_cases h : j = i
  · simp [h]
  · simp [h]
theorem Hp.get_put_some {H : Hp} {i j : Nat} {o o' : Ob} (h : (H.put i o).get j = some o') : (j = i ∧ o' = o) ∨ (j ≠ i ∧ H.get j = some o') := by
  rw [Hp.get_put] at h
  by_cases e : j = i
  · rw [if_pos e] at h; exact .inl ⟨e, (Option.some.inj h).symm⟩
  · rw [if_neg e] at h; exact .inr ⟨e, h⟩
theorem Hp.get_del (H : Hp) (i j : Nat) : (H.del i).get j = if j = i then none else H.get j := by
  unfold Hp.get Hp.del
  simp only [Xe.get_put]
  by_cases h : j = i
  · simp [h]
  · simp [h]
theorem Hp.get_del_some {H : Hp} {i j : Nat} {o' : Ob} (h : (H.del i).get j = some o') : j ≠ i ∧ H.get j = some o' := by
  rw [Hp.get_del] at h
  by_cases e : j = i
  · rw [if_pos e] at h; cases h
  · rw [if_neg e] at h; exact ⟨e, h⟩

theorem set_comm {α : Type} : ∀ (f g : Nat) (t : Tr α) (i j : Nat) (x y : α), i + 1 < 2 ^ f → j + 1 < 2 ^ g → i ≠ j → (t.set f i x).set g j y = (t.set g j y).set f i x
  | 0, _, _, _, _, _, _, h, _, _ => by simp at h
  | _ + 1, 0, _, _, _, _, _, _, h, _ => by simp at h
  | f + 1, g + 1, t, i, j, x, y, hf, hg, hij => by
    have e1 : 2 ^ (f + 1) = 2 * 2 ^ f := by rw [Nat.pow_succ]; omega
    have e2 : 2 ^ (g + 1) = 2 * 2 ^ g := by rw [Nat.pow_succ]; omega
    rw [e1] at hf
    rw [e2] at hg
    by_cases hi : i = 0
    · subst hi
      have bj : Nat.beq j 0 = false := by
        cases h : Nat.beq j 0 with
        | false => rfl
        | true => have := Nat.eq_of_beq_eq_true h; omega
      cases hjo : Nat.beq (j % 2) 1 <;> cases t <;> simp [Tr.set, bj, hjo]
    · have bi : Nat.beq i 0 = false := by
        cases h : Nat.beq i 0 with
        | false => rfl
        | true => have := Nat.eq_of_beq_eq_true h; omega
      by_cases hj : j = 0
      · subst hj
        cases hio : Nat.beq (i % 2) 1 <;> cases t <;> simp [Tr.set, bi, hio]
      · have bj : Nat.beq j 0 = false := by
          cases h : Nat.beq j 0 with
          | false => rfl
          | true => have := Nat.eq_of_beq_eq_true h; omega
        cases hio : Nat.beq (i % 2) 1 with
        | true =>
          have hio' := Nat.eq_of_beq_eq_true hio
          cases hjo : Nat.beq (j % 2) 1 with
          | true =>
            have hjo' := Nat.eq_of_beq_eq_true hjo
            cases t with
            | nil => simp only [Tr.set, bi, bj, hio, hjo, cond_true, cond_false]; rw [set_comm f g .nil (i / 2) (j / 2) x y (by omega) (by omega) (by omega)]
            | node v l r => simp only [Tr.set, bi, bj, hio, hjo, cond_true, cond_false]; rw [set_comm f g l (i / 2) (j / 2) x y (by omega) (by omega) (by omega)]
          | false => cases t <;> simp [Tr.set, bi, bj, hio, hjo]
        | false =>
          have hio' := Nat.ne_of_beq_eq_false hio
          cases hjo : Nat.beq (j % 2) 1 with
          | true => cases t <;> simp [Tr.set, bi, bj, hio, hjo]
          | false =>
            have hjo' := Nat.ne_of_beq_eq_false hjo
            cases t with
            | nil => simp only [Tr.set, bi, bj, hio, hjo, cond_false]; rw [set_comm f g .nil (i / 2 - 1) (j / 2 - 1) x y (by omega) (by omega) (by omega)]
            | node v l r => simp only [Tr.set, bi, bj, hio, hjo, cond_false]; rw [set_comm f g r (i / 2 - 1) (j / 2 - 1) x y (by omega) (by omega) (by omega)]
theorem put_comm' {α : Type} (t : Tr α) {i j : Nat} (x y : α) (h : i ≠ j) : (t.put i x).put j y = (t.put j y).put i x :=
  set_comm _ _ _ _ _ _ _ (Nat.lt_two_pow_self) (Nat.lt_two_pow_self) h
theorem Hp.put_comm (H : Hp) {i j : Nat} (o o' : Ob) (h : i ≠ j) : (H.put i o).put j o' = (H.put j o').put i o := by
  unfold Hp.put; simp only []; rw [put_comm' _ _ _ h]
theorem Hp.del_put (H : Hp) {i j : Nat} (o : Ob) (h : i ≠ j) : (H.del i).put j o = (H.put j o).del i := by
  unfold Hp.put Hp.del; simp only []; rw [put_comm' _ _ _ h]

theorem force_eq {α : Type} (n : Nat) (k : Nat → α) : force n k = k n := by cases n <;> rfl
theorem forceI_eq {α : Type} (n : Int) (k : Int → α) : forceI n k = k n := by cases n <;> simp [forceI, force_eq]

/-! ### What a value stands for -/
structure Env where
  f : Nat → Option (Nat × Nat)
  n : Nat
instance : CoeFun Env (fun _ => Nat → Option (Nat × Nat)) := ⟨Env.f⟩

mutual
def Den (E : Env) : SV → Value → Prop
  | .val x, w => w = x
  | .int k n, w => w = .int k n
  | .bool b, w => w = .bool b
  | .str s, w => w = .string s
  | .ptr k off, w => ∃ id c, E k = some (id, c) ∧ w = .pointer (some ⟨id, off, none⟩)
  | .sl k off len (some cap) _, w => ∃ id c, E k = some (id, c) ∧ w = .slice (some ⟨id, off, none⟩) len cap
  | .sl k off len none lo, w => ∃ id c, (E k = some (id, c) ∧ lo + len ≤ c) ∧ w = .slice (some ⟨id, off, none⟩) len (c - lo)
  | .fn f a b, w => ∃ x y, DenL E a x ∧ DenL E b y ∧ w = .func f x.toArray y.toArray
  | .ifc t x, w => ∃ v, Den E x v ∧ w = .iface t v
  | .agg cs, w => ∃ x, DenL E cs x ∧ w = .agg x.toArray
  | .tup cs, w => ∃ x, DenL E cs x ∧ w = .tuple x.toArray
  | .yld k, w => ∃ id c, E k = some (id, c) ∧ w = .func (.yield id) #[] #[]
  | .mp k, w => ∃ id c, E k = some (id, c) ∧ w = .map (some id)
  | .se k, w => ∃ id c o cp, E k = some (id, c) ∧ w = .slice (some ⟨id, o, none⟩) 0 cp
def DenL (E : Env) : List SV → List Value → Prop
  | [], l => l = []
  | y :: ys, l => ∃ v vs, Den E y v ∧ DenL E ys vs ∧ l = v :: vs
end

def Sub (E E' : Env) : Prop := ∀ k x, E k = some x → E' k = some x
def Le (E E' : Env) : Prop := E'.n = E.n ∧ Sub E E' ∧ ∀ k, k < E.n → E' k = E k
theorem Sub.refl (E : Env) : Sub E E := fun _ _ h => h
theorem Sub.trans {E E' E'' : Env} (h : Sub E E') (h' : Sub E' E'') : Sub E E'' := fun k x e => h' k x (h k x e)
theorem Le.sub {E E' : Env} (h : Le E E') : Sub E E' := h.2.1
theorem Le.refl (E : Env) : Le E E := ⟨rfl, fun _ _ h => h, fun _ _ => rfl⟩
theorem Le.trans {E E' E'' : Env} (h : Le E E') (h' : Le E' E'') : Le E E'' := ⟨h'.1.trans h.1, h.sub.trans h'.sub, fun k hk => (h'.2.2 k (by rw [h.1]; exact hk)).trans (h.2.2 k hk)⟩

mutual
theorem Den.sub {E E' : Env} (hE : Sub E E') : ∀ {y : SV} {v : Value}, Den E y v → Den E' y v
  | .val _, _, h => h
  | .int _ _, _, h => h
  | .bool _, _, h => h
  | .str _, _, h => h
  | .ptr _ _, _, h => let ⟨id, c, e, hw⟩ := h; ⟨id, c, hE _ _ e, hw⟩
  | .sl _ _ _ (some _) _, _, h => let ⟨id, c, e, hw⟩ := h; ⟨id, c, hE _ _ e, hw⟩
  | .sl _ _ _ none _, _, h => let ⟨id, c, e, hw⟩ := h; ⟨id, c, ⟨hE _ _ e.1, e.2⟩, hw⟩
  | .fn _ _ _, _, h => let ⟨x, y, hx, hy, hw⟩ := h; ⟨x, y, DenL.sub hE hx, DenL.sub hE hy, hw⟩
  | .ifc _ _, _, h => let ⟨v, hv, hw⟩ := h; ⟨v, Den.sub hE hv, hw⟩
  | .agg _, _, h => let ⟨x, hx, hw⟩ := h; ⟨x, DenL.sub hE hx, hw⟩
  | .tup _, _, h => let ⟨x, hx, hw⟩ := h; ⟨x, DenL.sub hE hx, hw⟩
  | .yld _, _, h => let ⟨id, c, e, hw⟩ := h; ⟨id, c, hE _ _ e, hw⟩
  | .mp _, _, h => let ⟨id, c, e, hw⟩ := h; ⟨id, c, hE _ _ e, hw⟩
  | .se _, _, h => let ⟨id, c, o, cp, e, hw⟩ := h; ⟨id, c, o, cp, hE _ _ e, hw⟩
theorem DenL.sub {E E' : Env} (hE : Sub E E') : ∀ {ys : List SV} {vs : List Value}, DenL E ys vs → DenL E' ys vs
  | [], _, h => h
  | _ :: _, _, h => let ⟨v, vs, hv, hvs, e⟩ := h; ⟨v, vs, Den.sub hE hv, DenL.sub hE hvs, e⟩
end

theorem Den.mono {E E' : Env} (hE : Le E E') {y : SV} {v : Value} (h : Den E y v) : Den E' y v := h.sub hE.sub
theorem DenL.mono {E E' : Env} (hE : Le E E') {ys : List SV} {vs : List Value} (h : DenL E ys vs) : DenL E' ys vs := h.sub hE.sub

theorem DenL.length {E : Env} : ∀ {ys : List SV} {vs : List Value}, DenL E ys vs → vs.length = ys.length
  | [], _, h => by cases h; rfl
  | _ :: _, _, ⟨_, _, _, h, e⟩ => by subst e; simp [DenL.length h]

theorem DenL.get {E : Env} : ∀ {ys : List SV} {vs : List Value}, DenL E ys vs → ∀ (j : Nat) (y : SV), ys[j]? = some y → ∃ v, vs[j]? = some v ∧ Den E y v
  | [], _, _, j, y, hj => by simp at hj
  | z :: ys, _, ⟨v, vs, hv, h, e⟩, 0, y, hj => by subst e; simp at hj; subst hj; exact ⟨v, rfl, hv⟩
  | z :: ys, _, ⟨v, vs, hv, h, e⟩, j + 1, y, hj => by subst e; simp at hj; simpa using DenL.get h j y hj

theorem DenL.append {E : Env} : ∀ {ys : List SV} {vs : List Value} {ys' : List SV} {vs' : List Value}, DenL E ys vs → DenL E ys' vs' → DenL E (ys ++ ys') (vs ++ vs')
  | [], _, _, _, h, h' => by cases h; exact h'
  | _ :: _, _, _, _, ⟨v, vs, hv, h, e⟩, h' => by subst e; exact ⟨v, _, hv, DenL.append h h', rfl⟩

theorem DenL.take {E : Env} : ∀ {ys : List SV} {vs : List Value} (n : Nat), DenL E ys vs → DenL E (ys.take n) (vs.take n)
  | [], _, n, h => by cases h; simp [DenL]
  | _ :: _, _, 0, h => by simp [DenL]
  | _ :: _, _, n + 1, ⟨v, vs, hv, h, e⟩ => by subst e; exact ⟨v, _, hv, DenL.take n h, rfl⟩

theorem DenL.drop {E : Env} : ∀ {ys : List SV} {vs : List Value} (n : Nat), DenL E ys vs → DenL E (ys.drop n) (vs.drop n)
  | [], _, n, h => by cases h; simp [DenL]
  | _ :: _, _, 0, h => h
  | _ :: _, _, n + 1, ⟨v, vs, hv, h, e⟩ => by subst e; exact DenL.drop n h

theorem den_mkV1 (E : Env) (x : Value) : Den E (mkV1 x) x := by cases x <;> simp [mkV1, Den]
theorem denL_mkV1 (E : Env) : ∀ l : List Value, DenL E (l.map mkV1) l
  | [] => rfl
  | x :: xs => ⟨x, xs, den_mkV1 E x, denL_mkV1 E xs, rfl⟩
theorem den_mkV (E : Env) (x : Value) : Den E (mkV x) x := by
  cases x with
  | agg cs => exact ⟨cs.toList, denL_mkV1 E _, by simp⟩
  | _ => simp [mkV, Den]

theorem den_cells {E : Env} {y : SV} {v : Value} (h : Den E y v) (hy : ∀ x, y ≠ .val (.agg x)) : DenL E y.cells v.cells.toList := by
  cases y with
  | agg cs => obtain ⟨x, hx, rfl⟩ := h; simpa [SV.cells, Value.cells] using hx
  | val x =>
    have e : v = x := h
    subst e
    cases v <;> first | exact absurd rfl (hy _) | exact ⟨_, [], rfl, rfl, rfl⟩
  | _ =>
    have hv : v.cells.toList = [v] := by
      first
        | (obtain ⟨_, _, _, rfl⟩ := h; rfl)
        | (cases h; rfl)
        | (obtain ⟨_, _, _, _, rfl⟩ := h; rfl)
        | (obtain ⟨_, _, rfl⟩ := h; rfl)
        | (obtain ⟨_, _, _, _, _, rfl⟩ := h; rfl)
        | (rename_i cap _; cases cap <;> (obtain ⟨_, _, _, rfl⟩ := h; rfl))
    rw [hv]
    exact ⟨v, [], h, rfl, rfl⟩

theorem den_one {E : Env} {y : SV} {v : Value} (h : Den E y v) (h1 : y.one = true) : v.oneCell' = true := by
  cases y with
  | val x =>
    have e : v = x := h
    subst e
    cases v <;> simp_all [SV.one, Value.oneCell']
  | agg cs => simp [SV.one] at h1
  | tup cs => simp [SV.one] at h1
  | int k n => cases h; rfl
  | bool b => cases h; rfl
  | str s => cases h; rfl
  | ptr k o => obtain ⟨_, _, _, rfl⟩ := h; rfl
  | sl k o n cap lo => cases cap <;> (obtain ⟨_, _, _, rfl⟩ := h; rfl)
  | fn f a b => obtain ⟨_, _, _, _, rfl⟩ := h; rfl
  | ifc t x => obtain ⟨_, _, rfl⟩ := h; rfl
  | yld k => obtain ⟨_, _, _, rfl⟩ := h; rfl
  | mp k => obtain ⟨_, _, _, rfl⟩ := h; rfl
  | se k => obtain ⟨_, _, _, _, _, rfl⟩ := h; rfl


/-! ### Deferred calls, chains of panics -/
def DenCh (E : Env) : Chain → List PanicEntry → Prop
  | [], l => l = []
  | (y, r) :: ch, l => ∃ v l', Den E y v ∧ DenCh E ch l' ∧ l = { v, recovered := r } :: l'
def DenSD (E : Env) : SD → Deferred → Prop
  | .call f xs ys, d => ∃ a b, DenL E xs a ∧ DenL E ys b ∧ d = { target := .fn (.func f) b.toArray, args := a.toArray }
  | .coll k, d => ∃ id c, E k = some (id, c) ∧ d = { target := .collected id, args := #[] }
def DenDs (E : Env) : List SD → List Deferred → Prop
  | [], l => l = []
  | y :: ys, l => ∃ d ds, DenSD E y d ∧ DenDs E ys ds ∧ l = d :: ds
theorem DenCh.sub {E E' : Env} (hE : Sub E E') : ∀ {ch : Chain} {l : List PanicEntry}, DenCh E ch l → DenCh E' ch l
  | [], _, h => h
  | (_, _) :: _, _, ⟨v, l', a, b, e⟩ => ⟨v, l', a.sub hE, DenCh.sub hE b, e⟩
theorem DenSD.sub {E E' : Env} (hE : Sub E E') : ∀ {y : SD} {d : Deferred}, DenSD E y d → DenSD E' y d
  | .call _ _ _, _, ⟨a, b, h1, h2, e⟩ => ⟨a, b, h1.sub hE, h2.sub hE, e⟩
  | .coll _, _, ⟨id, c, h, e⟩ => ⟨id, c, hE _ _ h, e⟩
theorem DenDs.sub {E E' : Env} (hE : Sub E E') : ∀ {ys : List SD} {ds : List Deferred}, DenDs E ys ds → DenDs E' ys ds
  | [], _, h => h
  | _ :: _, _, ⟨d, ds, a, b, e⟩ => ⟨d, ds, a.sub hE, DenDs.sub hE b, e⟩
theorem DenCh.append {E : Env} : ∀ {a b : Chain} {l m : List PanicEntry}, DenCh E a l → DenCh E b m → DenCh E (a ++ b) (l ++ m)
  | [], _, _, _, h, h' => by cases h; exact h'
  | (_, _) :: _, _, _, _, ⟨v, l', x, y, e⟩, h' => by subst e; exact ⟨v, _, x, DenCh.append y h', rfl⟩

end Go.Xe
