/- A part of an evaluator for the code. -/
import Derived.Test.YtoglpmfmnknlaaaGreatDoorXeKc
namespace Go.Xe
noncomputable section

def kReg (O : CallF → Tr SV → XW → Option (Option Chain × Tr SV × XW)) (callf : CallF) (_ : JumpF) (F : Tr SV) (X : XW) : R := match O callf F X with
  | some (none, F, X) => some (.nm, F, X)
  | some (some ch, F, X) => some (.pan ch, F, X)
  | none => none
def kSeqK (B : CallF → JumpF → Tr SV → XW → R) (callf : CallF) (jump : JumpF) : R → R
  | some (.nm, F, X) => B callf jump F X
  | r => r
def kCondK (A B : CallF → JumpF → Tr SV → XW → R) (callf : CallF) (jump : JumpF) (F : Tr SV) : Option (Bool × XW) → R
  | some (true, X) => A callf jump F X
  | some (false, X) => B callf jump F X
  | none => none
def kAsB (X : XW) : Option SV → Option (Bool × XW)
  | some (.bool b) => some (b, X)
  | some y => asB X y
  | none => none
def kBlockK (id : Nat) : R → R
  | some (.ex id', F, X) => bif Nat.beq id' id then some (.nm, F, X) else some (.ex id', F, X)
  | r => r
def kScopeK (c : Code) (jump : JumpF) : R → R
  | some (.gt l, F, X) => (match findLabel c l with
    | some rest => jump c rest F X
    | none => some (.gt l, F, X))
  | r => r

def kC (P : Program) (ord : Nat → Hint) (me : FuncId) (rd : Option Nat) (N fuel : Nat) : Code → KC
  | .skip => ⟨fun _ _ F X => some (.nm, F, X)⟩
  | .region _ ops false => ⟨kReg (kOps P N ops.toList ops.toList).run⟩
  | .seq a b => ⟨fun callf jump F X => kSeqK (kC P ord me rd N fuel b).run callf jump ((kC P ord me rd N fuel a).run callf jump F X)⟩
  | .cond c a b => ⟨fun callf jump F X => kCondK (kC P ord me rd N fuel a).run (kC P ord me rd N fuel b).run callf jump F (kAsB X ((kLook c).run X.ng F))⟩
  | .block id c => ⟨fun callf jump F X => kBlockK id ((kC P ord me rd N fuel c).run callf jump F X)⟩
  | .loop c => ⟨fun callf jump F X => loopE ((kC P ord me rd N fuel c).run callf jump) fuel F X⟩
  | .exit id => ⟨fun _ _ F X => some (.ex id, F, X)⟩
  | .label _ => ⟨fun _ _ F X => some (.nm, F, X)⟩
  | .ret => ⟨fun _ _ F X => some (.ret, F, X)⟩
  | .goto l => ⟨fun _ _ F X => some (.gt l, F, X)⟩
  | .scope c => ⟨fun callf jump F X => kScopeK c jump ((kC P ord me rd N fuel c).run callf jump F X)⟩
  | c => ⟨fun callf jump F X => evC P callf ord me rd N fuel jump c F X⟩

theorem kAsB_eq (X : XW) (F : Tr SV) (c : Operand) (A B : CallF → JumpF → Tr SV → XW → R) (callf : CallF) (jump : JumpF) :
    kCondK A B callf jump F (kAsB X ((kLook c).run X.ng F)) = (match look X.ng F c with
      | some y => match asB X y with
        | some (true, X) => A callf jump F X
        | some (false, X) => B callf jump F X
        | none => none
      | none => none) := by
  rw [kLook_eq]
  cases look X.ng F c with
  | none => rfl
  | some y =>
    have : kAsB X (some y) = asB X y := by cases y <;> rfl
    rw [this]
    simp only []
    unfold kCondK
    cases asB X y with
    | none => rfl
    | some r => obtain ⟨b, X1⟩ := r; cases b <;> rfl

theorem kC_eq (P : Program) (callf : CallF) (ord : Nat → Hint) (me : FuncId) (rd : Option Nat) (N fuel : Nat) (jump : JumpF) : ∀ (c : Code) (F : Tr SV) (X : XW),
    (kC P ord me rd N fuel c).run callf jump F X = evC P callf ord me rd N fuel jump c F X := by
  intro c
  induction c with
  | region id ops d =>
    intro F X
    cases d with
    | false =>
      show kReg _ callf jump F X = _
      unfold kReg
      rw [kOps_eq]
      rfl
    | true => rfl
  | seq a b iha ihb =>
    intro F X
    show kSeqK _ callf jump ((kC P ord me rd N fuel a).run callf jump F X) = (match evC P callf ord me rd N fuel jump a F X with
      | some (.nm, F, X) => evC P callf ord me rd N fuel jump b F X
      | r => r)
    rw [iha]
    generalize evC P callf ord me rd N fuel jump a F X = r
    rcases r with _ | ⟨ex, F1, X1⟩
    · rfl
    · cases ex <;> first | exact ihb F1 X1 | rfl
  | cond c a b iha ihb =>
    intro F X
    show kCondK _ _ callf jump F (kAsB X ((kLook c).run X.ng F)) = _
    rw [kAsB_eq]
    simp only [iha, ihb]
    rfl
  | block id c ih =>
    intro F X
    show kBlockK id ((kC P ord me rd N fuel c).run callf jump F X) = (match evC P callf ord me rd N fuel jump c F X with
      | some (.ex id', F, X) => bif Nat.beq id' id then some (.nm, F, X) else some (.ex id', F, X)
      | r => r)
    rw [ih]
    generalize evC P callf ord me rd N fuel jump c F X = r
    rcases r with _ | ⟨ex, F1, X1⟩
    · rfl
    · cases ex <;> rfl
  | loop c ih =>
    intro F X
    show loopE ((kC P ord me rd N fuel c).run callf jump) fuel F X = _
    have : (kC P ord me rd N fuel c).run callf jump = evC P callf ord me rd N fuel jump c := by
      funext F X; exact ih F X
    rw [this]; rfl
  | scope c ih =>
    intro F X
    show kScopeK c jump ((kC P ord me rd N fuel c).run callf jump F X) = (match evC P callf ord me rd N fuel jump c F X with
      | some (.gt l, F, X) => (match findLabel c l with
        | some rest => jump c rest F X
        | none => some (.gt l, F, X))
      | r => r)
    rw [ih]
    generalize evC P callf ord me rd N fuel jump c F X = r
    rcases r with _ | ⟨ex, F1, X1⟩
    · rfl
    · cases ex <;> rfl
  | _ => intro F X; rfl

theorem kC_fun (P : Program) (callf : CallF) (ord : Nat → Hint) (me : FuncId) (rd : Option Nat) (N fuel : Nat) (jump : JumpF) :
    (fun c => (kC P ord me rd N fuel c).run callf jump) = evC P callf ord me rd N fuel jump := by
  funext c F X; exact kC_eq P callf ord me rd N fuel jump c F X

def kJump (P : Program) (callf : CallF) (ord : Nat → Hint) (me : FuncId) (rd : Option Nat) (N fuel : Nat) (n : Nat) : JumpF :=
  Nat.rec (motive := fun _ => JumpF) (fun _ _ _ _ => none) (fun _ ih c rest F X => match (kC P ord me rd N fuel rest).run callf ih F X with
    | some (.gt l, F, X) => (match findLabel c l with
      | some rest => ih c rest F X
      | none => some (.gt l, F, X))
    | r => r) n
theorem kJump_eq (P : Program) (callf : CallF) (ord : Nat → Hint) (me : FuncId) (rd : Option Nat) (N fuel : Nat) : ∀ n, kJump P callf ord me rd N fuel n = jumpE P callf ord me rd N fuel n := by
  intro n
  unfold kJump jumpE
  congr 1
  funext _ ih c rest F X
  rw [kC_eq]
  rfl

def kBody (P : Program) (callf : CallF) (ord : Nat → Hint) (me : FuncId) (rd : Option Nat) (N lf : Nat) : Code → Tr SV → XW → R :=
  fun c => (kC P ord me rd N lf c).run callf (kJump P callf ord me rd N lf lf)
theorem kBody_eq (P : Program) (callf : CallF) (ord : Nat → Hint) (me : FuncId) (rd : Option Nat) (N lf : Nat) :
    kBody P callf ord me rd N lf = evC P callf ord me rd N lf (jumpE P callf ord me rd N lf lf) := by
  unfold kBody
  rw [kJump_eq]
  exact kC_fun P callf ord me rd N lf _

def kGo {P : Program} (ih : Evs) (xf : XF P) (lf : Nat) (f : FuncId) (args : List SV) (X : XW) : Option (Out × XW) :=
  bif Nat.beq xf.f f && Nat.ble args.length xf.fn.ntmps then withD X.dfs (finE P ih.dcall xf.fn (kBody P ih.call xf.ord xf.f none xf.fn.ntmps lf (xf.fn.body.getD .skip) (storeN .nil 0 args) { X with dfs := [] })) else none

def kF (P : Program) (tab : Tr (XE P)) (lf : Nat) (fuel : Nat) : Evs :=
  Nat.rec (motive := fun _ => Evs) { call := fun _ _ _ => none, dcall := fun _ _ _ _ => none } (fun _ ih => {
    call := fun c args X => match c with
      | .fn f => (match tab.get f with
        | some (.fn xf) => kGo ih xf lf f args X
        | some (.nat xn) => bif Nat.beq xn.f f then (match natE xn.k args X with | some y => some (.ret y, X) | none => none) else none
        | none => none)
      | .ent f => (match tab.get f with
        | some (.fn xf) => kGo ih xf lf f args X
        | _ => none)
      | .yld k => (match X.objs.get k with
        | some o => match o.sp with
          | .loop _ _ ord me N F ps a c _ => roundE (kBody P ih.call ord me (some k) N lf) k N F ps a c args X
          | _ => none
        | none => none)
    dcall := fun f args u X => match tab.get f with
      | some (.fn xf) => bif Nat.beq xf.f f && Nat.ble args.length xf.fn.ntmps then finD P xf.fn X.dfs (evCD P xf.fn.ntmps (kBody P ih.call xf.ord xf.f none xf.fn.ntmps lf) (xf.fn.body.getD .skip) (storeN .nil 0 args) { X with dfs := [] } u) else none
      | _ => none }) fuel

theorem kF_eq (P : Program) (tab : Tr (XE P)) (lf : Nat) (fuel : Nat) : kF P tab lf fuel = evF P tab lf fuel := by
  have hgo : ∀ (ih : Evs) (xf : XF P), kGo ih xf lf = goE ih xf lf := by
    intro ih xf
    funext f args X
    unfold kGo goE bodyE
    rw [kBody_eq]
  unfold kF evF
  simp only [hgo, kBody_eq]
  rfl
end
end Go.Xe
