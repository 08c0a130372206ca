/- A part of an evaluator for the code. -/
import Derived.Test.YtoglpmfmnknlaaaGreatDoorXeO
namespace Go.Xe
noncomputable section

/-! Tries by paths. -/
def pathF : Nat → Nat → List Bool
  | 0, _ => []
  | f + 1, i => bif Nat.beq i 0 then [] else bif Nat.beq (i % 2) 1 then true :: pathF f (i / 2) else false :: pathF f (i / 2 - 1)
def path (i : Nat) : List Bool := pathF (i + 1) i

def getP {α : Type} : List Bool → Tr α → Option α := fun p => List.rec (motive := fun _ => Tr α → Option α)
  (fun t => Tr.rec (motive := fun _ => Option α) none (fun v _ _ _ _ => v) t)
  (fun b _ ih t => Tr.rec (motive := fun _ => Option α) none (fun _ l r _ _ => Bool.rec (motive := fun _ => Option α) (ih r) (ih l) b) t) p

def putP {α : Type} (x : α) : List Bool → Tr α → Tr α := fun p => List.rec (motive := fun _ => Tr α → Tr α)
  (fun t => Tr.rec (motive := fun _ => Tr α) (.node (some x) .nil .nil) (fun _ l r _ _ => .node (some x) l r) t)
  (fun b _ ih t => Bool.rec (motive := fun _ => Tr α) (Tr.rec (motive := fun _ => Tr α) (.node none .nil (ih .nil)) (fun v l r _ _ => .node v l (ih r)) t)
    (Tr.rec (motive := fun _ => Tr α) (.node none (ih .nil) .nil) (fun v l r _ _ => .node v (ih l) r) t) b) p

theorem getP_path {α : Type} : ∀ (f i : Nat) (t : Tr α), i < f → getP (pathF f i) t = t.get i
  | 0, _, _, h => by omega
  | f + 1, i, t, h => by
    simp only [pathF]
    cases h0 : Nat.beq i 0 with
    | true =>
      simp only [cond_true]
      cases t with
      | nil => rfl
      | node v l r => simp [getP, Tr.get, h0]
    | false =>
      have hi := Nat.ne_of_beq_eq_false h0
      simp only [cond_false]
      cases h1 : Nat.beq (i % 2) 1 with
      | true =>
        simp only [cond_true]
        cases t with
        | nil => rfl
        | node v l r =>
          have := getP_path f (i / 2) l (by omega)
          simp only [Tr.get, h0, h1, cond_true, cond_false, ← this]
          rfl
      | false =>
        simp only [cond_false]
        cases t with
        | nil => rfl
        | node v l r =>
          have := getP_path f (i / 2 - 1) r (by omega)
          simp only [Tr.get, h0, h1, cond_false, ← this]
          rfl

theorem set_path {α : Type} (x : α) : ∀ (f g i : Nat) (t : Tr α), i < f → i < g → putP x (pathF f i) t = Tr.set g t i x
  | 0, _, _, _, h, _ => by omega
  | f + 1, 0, i, t, h, h' => by omega
  | f + 1, g + 1, i, t, h, h' => by
    simp only [pathF]
    cases h0 : Nat.beq i 0 with
    | true =>
      simp only [cond_true]
      cases t with
      | nil => simp [putP, Tr.set, h0]
      | node v l r => simp [putP, Tr.set, h0]
    | false =>
      have hi := Nat.ne_of_beq_eq_false h0
      simp only [cond_false]
      cases h1 : Nat.beq (i % 2) 1 with
      | true =>
        simp only [cond_true]
        cases t with
        | nil =>
          have := set_path x f g (i / 2) .nil (by omega) (by omega)
          simp only [Tr.set, h0, h1, cond_true, cond_false, ← this]
          rfl
        | node v l r =>
          have := set_path x f g (i / 2) l (by omega) (by omega)
          simp only [Tr.set, h0, h1, cond_true, cond_false, ← this]
          rfl
      | false =>
        simp only [cond_false]
        cases t with
        | nil =>
          have := set_path x f g (i / 2 - 1) .nil (by omega) (by omega)
          simp only [Tr.set, h0, h1, cond_false, ← this]
          rfl
        | node v l r =>
          have := set_path x f g (i / 2 - 1) r (by omega) (by omega)
          simp only [Tr.set, h0, h1, cond_false, ← this]
          rfl

theorem getP_eq {α : Type} (i : Nat) (t : Tr α) : getP (path i) t = t.get i := getP_path _ _ _ (Nat.lt_succ_self i)
theorem putP_eq {α : Type} (i : Nat) (t : Tr α) (x : α) : putP x (path i) t = t.put i x := set_path x _ _ _ _ (Nat.lt_succ_self i) (Nat.lt_succ_self i)

/-! Operands. -/
structure KL where
  run : Nat → Tr SV → Option SV
def kLook : Operand → KL
  | .tmp t => ⟨fun _ F => getP (path t) F⟩
  | .const v => ⟨fun _ _ => some (mkV v)⟩
  | .global g => ⟨fun ng _ => bif Nat.blt g ng then some (.ptr g 0) else none⟩
  | .func f => ⟨fun _ _ => some (.fn (.func f) [] [])⟩
theorem kLook_eq (x : Operand) (ng : Nat) (F : Tr SV) : (kLook x).run ng F = look ng F x := by
  cases x with
  | tmp t => exact getP_eq t F
  | const v => rfl
  | global g => rfl
  | func f => rfl

def kLooks (l : List Operand) : Nat → Tr SV → Option (List SV) := List.rec (motive := fun _ => Nat → Tr SV → Option (List SV)) (fun _ _ => some [])
  (fun x _ ih ng F => Option.rec (motive := fun _ => Option (List SV)) none (fun y => Option.rec (motive := fun _ => Option (List SV)) none (fun ys => some (y :: ys)) (ih ng F)) ((kLook x).run ng F)) l
theorem kLooks_eq (ng : Nat) (F : Tr SV) : ∀ l : List Operand, kLooks l ng F = looks ng F l
  | [] => rfl
  | x :: xs => by
    have ih := kLooks_eq ng F xs
    simp only [looks, ← kLook_eq, ← ih]
    show Option.rec (motive := fun _ => Option (List SV)) none (fun y => Option.rec (motive := fun _ => Option (List SV)) none (fun ys => some (y :: ys)) (kLooks xs ng F)) ((kLook x).run ng F) = _
    cases (kLook x).run ng F with
    | none => rfl
    | some y => cases kLooks xs ng F <;> rfl
end
end Go.Xe
