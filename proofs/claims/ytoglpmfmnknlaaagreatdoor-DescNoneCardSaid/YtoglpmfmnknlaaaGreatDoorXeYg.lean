/- A part of an evaluator for the program's code: texts of functions, and how they are put together. -/
import Derived.Test.YtoglpmfmnknlaaaGreatDoorXeYf
namespace Go.Xe
noncomputable section

abbrev O := Option SV
abbrev KF := Fr → HW → Rs
abbrev KX := Nat → Fr → HW → Rs
abbrev K0 := HW → Rs
abbrev K1 := O → K0
abbrev K2 := O → K1
abbrev K3 := O → K2
abbrev K4 := O → K3
abbrev K5 := O → K4
abbrev K6 := O → K5
abbrev K7 := O → K6
abbrev K8 := O → K7
abbrev K9 := O → K8
abbrev K10 := O → K9
abbrev K11 := O → K10
abbrev K12 := O → K11
abbrev K13 := O → K12
abbrev K14 := O → K13
abbrev K15 := O → K14
abbrev K16 := O → K15
abbrev K17 := O → K16
abbrev K18 := O → K17
abbrev K19 := O → K18
abbrev K20 := O → K19
abbrev K21 := O → K20
abbrev K22 := O → K21
abbrev K23 := O → K22
abbrev K24 := O → K23
abbrev K25 := O → K24
abbrev K26 := O → K25
abbrev K27 := O → K26
abbrev K28 := O → K27
abbrev K29 := O → K28
abbrev K30 := O → K29
abbrev K31 := O → K30
abbrev K32 := O → K31
abbrev K33 := O → K32
abbrev K34 := O → K33
abbrev K35 := O → K34
abbrev K36 := O → K35
abbrev K37 := O → K36
abbrev K38 := O → K37
abbrev K39 := O → K38
abbrev K40 := O → K39
/-- A part of code. -/
def sub (c : Code) : List Nat → Code
  | [] => c
  | i :: p => match c with
    | .seq a b => sub (bif Nat.beq i 0 then a else b) p
    | .cond _ a b => sub (bif Nat.beq i 0 then a else b) p
    | .block _ a => sub a p
    | .loop a => sub a p
    | c => c
def bk (id : Nat) (kn : Fr → HW → Rs) (ke : Nat → Fr → HW → Rs) : Nat → Fr → HW → Rs := fun i F h => bif Nat.beq i id then kn F h else ke i F h
/-- A loop over what its head needs. -/
def lp {α : Type} (body : (α → HW → Rs) → α → HW → Rs) (n : Nat) : α → HW → Rs := Nat.rec (motive := fun _ => α → HW → Rs) (fun _ _ => none) (fun _ ih s h => body ih s h) n
theorem lp_succ {α : Type} (body : (α → HW → Rs) → α → HW → Rs) (n : Nat) (s : α) (h : HW) : lp body (n + 1) s h = body (lp body n) s h := rfl
def bs (l : List Nat) : ByteArray := ⟨(l.map fun n => UInt8.ofNat n).toArray⟩

section
variable {P : Program} {C : YC} {N : Nat} {ord : Nat → Hint} {lf : Nat} {c a b : Code} {KN KR : Fr → HW → Rs} {KE : Nat → Fr → HW → Rs}

theorem cSeq (hc : c = .seq a b) {A B : Fr → HW → Rs} (hb : ∀ F h, evY P C N ord lf b F h KN KR KE = B F h) (ha : ∀ F h, evY P C N ord lf a F h B KR KE = A F h) (F : Fr) (h : HW) : evY P C N ord lf c F h KN KR KE = A F h := by
  subst hc
  have : (fun F h => evY P C N ord lf b F h KN KR KE) = B := funext fun F => funext fun h => hb F h
  show evY P C N ord lf a F h (fun F h => evY P C N ord lf b F h KN KR KE) KR KE = A F h
  rw [this]; exact ha F h
theorem cSeqD (hc : c = .seq a b) {A : Fr → HW → Rs} (ha : ∀ F h, evY P C N ord lf a F h (fun F h => evY P C N ord lf b F h KN KR KE) KR KE = A F h) (F : Fr) (h : HW) : evY P C N ord lf c F h KN KR KE = A F h := by
  subst hc
  exact ha F h
theorem cBlock {id : Nat} (hc : c = .block id a) {A : Fr → HW → Rs} (ha : ∀ F h, evY P C N ord lf a F h KN KR (bk id KN KE) = A F h) (F : Fr) (h : HW) : evY P C N ord lf c F h KN KR KE = A F h := by
  subst hc
  exact ha F h
theorem cCond {x : Operand} (hc : c = .cond x a b) {A B : Fr → HW → Rs} (ha : ∀ F h, evY P C N ord lf a F h KN KR KE = A F h) (hb : ∀ F h, evY P C N ord lf b F h KN KR KE = B F h) (F : Fr) (h : HW) :
    evY P C N ord lf c F h KN KR KE = yl h.ng F x fun y => yIf y (A F h) (B F h) := by
  subst hc
  show (yl h.ng F x fun y => yIf y (evY P C N ord lf a F h KN KR KE) (evY P C N ord lf b F h KN KR KE)) = _
  rw [ha, hb]
theorem cLoop {α : Type} {g : Fr → α} {body : (α → HW → Rs) → α → HW → Rs} (hc : c = .loop a) (hb : ∀ (k : α → HW → Rs) F h, evY P C N ord lf a F h (fun F h => k (g F) h) KR KE = body k (g F) h) (F : Fr) (h : HW) :
    evY P C N ord lf c F h KN KR KE = lp body lf (g F) h := by
  subst hc
  show yLoop (fun F h k => evY P C N ord lf a F h k KR KE) lf F h = lp body lf (g F) h
  have : ∀ n F h, yLoop (fun F h k => evY P C N ord lf a F h k KR KE) n F h = lp body n (g F) h := by
    intro n
    induction n with
    | zero => intro F h; rfl
    | succ n ih =>
      intro F h
      show evY P C N ord lf a F h (yLoop (fun F h k => evY P C N ord lf a F h k KR KE) n) KR KE = body (lp body n) (g F) h
      have e : yLoop (fun F h k => evY P C N ord lf a F h k KR KE) n = fun F h => lp body n (g F) h := funext fun F => funext fun h => ih F h
      rw [e]; exact hb _ F h
  exact this lf F h

theorem fnOf {x : XF P} {args : List SV} {h : HW} {K : Fr → HW → Rs} {R : Rs} (hk : yFin P x.fn = K) (hb : x.fn.body.getD .skip = b) (hN : x.fn.ntmps = N) (e : evY P C N x.ord lf b (frOf args) h K K (fun _ _ _ => none) = R) : yFn P x C lf args h = R := by
  subst hk hb hN
  exact e
end

/-- A function with its text. -/
structure YX (P : Program) where
  x : XF P
  s : YC → Nat → List SV → HW → Rs
  eq : ∀ C lf args h r, s C lf args h = some r → Nat.ble args.length x.fn.ntmps = true ∧ yFn P x C lf args h = some r
end
end Go.Xe
