/- A part of an evaluator for the code. -/
import Derived.Test.YtoglpmfmnknlaaaGreatDoorXeKb
namespace Go.Xe
noncomputable section

structure KO where
  run : CallF → Tr SV → XW → Option (Option Chain × Tr SV × XW)
structure KP where
  run : Tr SV → SV → Tr SV
structure KW where
  run : CallF → List SV → XW → Option (Out × XW)
structure KG where
  run : Tr SV → XW → Option (Bool × XW)
structure KC where
  run : CallF → JumpF → Tr SV → XW → R

def kPut (N : Nat) : Option Tmp → KP
  | some d => bif Nat.blt d N then ⟨fun F y => putP y (path d) F⟩ else ⟨fun F _ => F⟩
  | none => ⟨fun F _ => F⟩
theorem kPut_eq (N : Nat) (d : Option Tmp) (F : Tr SV) (y : SV) : (kPut N d).run F y = put N F d y := by
  cases d with
  | none => rfl
  | some d =>
    simp only [kPut, put]
    cases Nat.blt d N with
    | true => exact putP_eq d F y
    | false => rfl

def kCallV (callf : CallF) (X : XW) : List SV → Option (Out × XW)
  | .fn (.func f) a b :: args => callf (.fn f) (a ++ args ++ b) X
  | .yld k :: args => callf (.yld k) args X
  | _ => none
def kCallX (P : Program) (c : Call) (callf : CallF) (vals : List SV) (X : XW) : Option (Out × XW) := match calE P c vals X with
  | some (f, args) => callf f args X
  | none => none

def kOpO (P : Program) (op : Op) : KW := match op with
  | .call c => (match c.callee with
    | .builtin b => bif isPanB b then ⟨fun _ vals X => panE vals X⟩ else ⟨fun _ vals X => retO (bltE P b c.argTypes vals X)⟩
    | .value _ => ⟨fun callf vals X => kCallV callf X vals⟩
    | .invoke _ _ => ⟨kCallX P c⟩)
  | .panic _ => ⟨fun _ vals X => panE vals X⟩
  | op => ⟨fun _ vals X => retO ((kSem P op).run vals X)⟩

theorem kOpO_eq (P : Program) (callf : CallF) (o : Oper) (F : Tr SV) (X : XW) :
    evOpO P callf o F X = match kLooks o.op.operands.toList X.ng F with | none => none | some vals => (kOpO P o.op).run callf vals X := by
  unfold evOpO
  rw [kLooks_eq]
  cases looks X.ng F o.op.operands.toList with
  | none => rfl
  | some vals =>
    simp only []
    generalize o.op = op
    cases op with
    | call c =>
      cases hc : c.callee with
      | builtin b =>
        simp only [kOpO, hc]
        cases isPanB b <;> rfl
      | value f =>
        simp only [kOpO, hc, calE]
        unfold kCallV
        split <;> rename_i h
        · split at h <;> cases h <;> rfl
        · split at h
          · cases h
          · cases h
          · rename_i h1 h2
            split
            · exact absurd rfl (h1 _ _ _ _)
            · exact absurd rfl (h2 _ _)
            · rfl
      | invoke r m =>
        simp only [kOpO, hc]
        rfl
    | panic x => rfl
    | _ => exact congrArg retO (kSem_eq P _ vals X).symm

def kAfter (U : KP) (F : Tr SV) : Option (Out × XW) → Option (Option Chain × Tr SV × XW)
  | some (.ret y, X) => some (none, U.run F y, X)
  | some (.pan ch, X) => some (some ch, F, X)
  | none => none
def kDo (W : KW) (L : List Operand) (U : KP) (callf : CallF) (F : Tr SV) (X : XW) : Option (Option Chain × Tr SV × XW) := match kLooks L X.ng F with
  | none => none
  | some vals => kAfter U F (W.run callf vals X)
def kAsk (want : Bool) (y : SV) (X : XW) : Option (Bool × XW) := match y with
  | .bool b => some (bif want then b else !b, X)
  | y => asW X want y
def kAskO (want : Bool) (X : XW) : Option SV → Option (Bool × XW)
  | some y => kAsk want y X
  | none => none
def kWant (ops : List Oper) (j : Nat) (want : Bool) : KG := match ops[j]? with
  | some o => (match o.dst with
    | some d => ⟨fun F X => kAskO want X (getP (path d) F)⟩
    | none => ⟨fun _ _ => none⟩)
  | none => ⟨fun _ _ => none⟩
theorem kAsk_eq (want : Bool) (y : SV) (X : XW) : kAsk want y X = asW X want y := by
  cases y <;> try rfl
  rename_i b
  cases b <;> cases want <;> rfl
theorem kWant_eq (ops : List Oper) (j : Nat) (want : Bool) (F : Tr SV) (X : XW) : (kWant ops j want).run F X = wantE ops F X (some (j, want)) := by
  unfold kWant wantE
  simp only []
  cases ho : ops[j]? with
  | none => rfl
  | some o =>
    cases h : o.dst with
    | none => simp only [h]
    | some d =>
      simp only [h, getP_eq]
      cases F.get d with
      | none => rfl
      | some y => exact kAsk_eq want y X

def kIf (D : CallF → Tr SV → XW → Option (Option Chain × Tr SV × XW)) (U : KP) (callf : CallF) (F : Tr SV) : Option (Bool × XW) → Option (Option Chain × Tr SV × XW)
  | some (true, X) => D callf F X
  | some (false, X) => some (none, U.run F (.val undef), X)
  | none => none
def kGuard (G : KG) (D : CallF → Tr SV → XW → Option (Option Chain × Tr SV × XW)) (U : KP) (callf : CallF) (F : Tr SV) (X : XW) : Option (Option Chain × Tr SV × XW) := kIf D U callf F (G.run F X)

def kO (P : Program) (N : Nat) (ops : List Oper) (o : Oper) : KO := bif isDefer o.op then ⟨fun callf F X => stepO P callf N ops o F X⟩ else (match o.guard with
  | none => ⟨kDo (kOpO P o.op) o.op.operands.toList (kPut N o.dst)⟩
  | some (j, want) => ⟨kGuard (kWant ops j want) (kDo (kOpO P o.op) o.op.operands.toList (kPut N o.dst)) (kPut N o.dst)⟩)

theorem kO_eq (P : Program) (callf : CallF) (N : Nat) (ops : List Oper) (o : Oper) (F : Tr SV) (X : XW) : (kO P N ops o).run callf F X = stepO P callf N ops o F X := by
  unfold kO
  cases hd : isDefer o.op with
  | true => rfl
  | false =>
    have hdo : ∀ X, kDo (kOpO P o.op) o.op.operands.toList (kPut N o.dst) callf F X = (match evOpO P callf o F X with
      | some (.ret y, X) => some (none, put N F o.dst y, X)
      | some (.pan ch, X) => some (some ch, F, X)
      | none => none) := by
      intro X
      rw [kOpO_eq]
      unfold kDo
      cases kLooks o.op.operands.toList X.ng F with
      | none => rfl
      | some vals =>
        simp only []
        unfold kAfter
        split <;> simp only [*, kPut_eq]
    simp only [cond_false]
    unfold stepO
    simp only [hd, cond_false]
    cases hg : o.guard with
    | none =>
      simp only [wantE]
      exact hdo X
    | some g =>
      obtain ⟨j, want⟩ := g
      show kIf _ _ callf F ((kWant ops j want).run F X) = _
      rw [kWant_eq]
      cases wantE ops F X (some (j, want)) with
      | none => rfl
      | some r =>
        obtain ⟨b, X1⟩ := r
        cases b with
        | true => exact hdo X1
        | false => simp only [kIf, kPut_eq]

def kThen (B : CallF → Tr SV → XW → Option (Option Chain × Tr SV × XW)) (callf : CallF) : Option (Option Chain × Tr SV × XW) → Option (Option Chain × Tr SV × XW)
  | some (none, F, X) => B callf F X
  | r => r
def kOps (P : Program) (N : Nat) (ops : List Oper) : List Oper → KO
  | [] => ⟨fun _ F X => some (none, F, X)⟩
  | o :: rest => ⟨fun callf F X => kThen (kOps P N ops rest).run callf ((kO P N ops o).run callf F X)⟩
theorem kOps_eq (P : Program) (callf : CallF) (N : Nat) (ops : List Oper) : ∀ (l : List Oper) (F : Tr SV) (X : XW), (kOps P N ops l).run callf F X = evOps P callf N ops l F X
  | [], _, _ => rfl
  | o :: rest, F, X => by
    show kThen (kOps P N ops rest).run callf ((kO P N ops o).run callf F X) = _
    rw [kO_eq]
    unfold evOps kThen
    split
    · rename_i F1 X1 h; rw [h]; exact kOps_eq P callf N ops rest F1 X1
    · rename_i r h
      split
      · rename_i F1 X1 h'; exact absurd h' (h F1 X1)
      · rfl
end
end Go.Xe
