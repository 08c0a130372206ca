/- A part of an evaluator for the code. -/
import Derived.Test.YtoglpmfmnknlaaaGreatDoorXeYf
namespace Go.Xe
noncomputable section

abbrev O := Option SV
abbrev KF := Fr → HW → Rs
abbrev KX := Nat → Fr → HW → Rs
abbrev K0 := HW → Rs
abbrev K1 := O → K0
abbrev K2 := O → K1
abbrev K3 := O → K2
abbrev K4 := O → K3
abbrev K5 := O → K4
abbrev K6 := O → K5
abbrev K7 := O → K6
abbrev K8 := O → K7
abbrev K9 := O → K8
abbrev K10 := O → K9
abbrev K11 := O → K10
abbrev K12 := O → K11
abbrev K13 := O → K12
abbrev K14 := O → K13
abbrev K15 := O → K14
abbrev K16 := O → K15
abbrev K17 := O → K16
abbrev K18 := O → K17
abbrev K19 := O → K18
abbrev K20 := O → K19
abbrev K21 := O → K20
abbrev K22 := O → K21
abbrev K23 := O → K22
abbrev K24 := O → K23
abbrev K25 := O → K24
abbrev K26 := O → K25
abbrev K27 := O → K26
abbrev K28 := O → K27
abbrev K29 := O → K28
abbrev K30 := O → K29
abbrev K31 := O → K30
abbrev K32 := O → K31
abbrev K33 := O → K32
abbrev K34 := O → K33
abbrev K35 := O → K34
abbrev K36 := O → K35
abbrev K37 := O → K36
abbrev K38 := O → K37
abbrev K39 := O → K38
abbrev K40 := O → K39
def sub (c : Code) : List Nat → Code
  | [] => c
  | i :: p => match c with
    | .seq a b => sub (bif Nat.beq i 0 then a else b) p
    | .cond _ a b => sub (bif Nat.beq i 0 then a else b) p
    | .block _ a => sub a p
    | .loop a => sub a p
    | c => c
def bk (id : Nat) (kn : Fr → HW → Rs) (ke : Nat → Fr → HW → Rs) : Nat → Fr → HW → Rs := fun i F h => bif Nat.beq i id then kn F h else ke i F h
def lp {α : Type} (body : (α → HW → Rs) → α → HW → Rs) (n : Nat) : α → HW → Rs := Nat.rec (motive := fun _ => α → HW → Rs) (fun _ _ => none) (fun _ ih s h => body ih s h) n
theorem lp_succ {α : Type} (body : (α → HW → Rs) → α → HW → Rs) (n : Nat) (s : α) (h : HW) : lp body (n + 1) s h = body (lp body n) s h := rfl
def bs (l : List Nat) : ByteArray := ⟨(l.map fun n => UInt8.ofNat n).toArray⟩

section
variable {P : Program} {C : YC} {N : Nat} {ord : Nat → Hint} {lf : Nat} {c a b : Code} {KN KR : Fr → HW → Rs} {KE : Nat → Fr → HW → Rs}

theorem cSeq (hc : c = .seq a b) {A B : Fr → HW → Rs} (hb : ∀ F h, evY P C N ord lf b F h KN KR KE = B F h) (ha : ∀ F h, evY P C N ord lf a F h B KR KE = A F h) (F : Fr) (h : HW) : evY P C N ord lf c F h KN KR KE = A F h := by
  subst hc
  have : (fun F h => evY P C N ord lf b F h KN KR KE) = B := funext fun F => funext fun h => hb F h
  show evY P C N ord lf a F h (fun F h => evY P C N ord lf b F h KN KR KE) KR KE = A F h
  rw [this]; exact ha F h
theorem cSeqD (hc : c = .seq a b) {A : Fr → HW → Rs} (ha : ∀ F h, evY P C N ord lf a F h (fun F h => evY P C N ord lf b F h KN KR KE) KR KE = A F h) (F : Fr) (h : HW) : evY P C N ord lf c F h KN KR KE = A F h := by
  subst hc
  exact ha F h
theorem cBlock {id : Nat} (hc : c = .block id a) {A : Fr → HW → Rs} (ha : ∀ F h, evY P C N ord lf a F h KN KR (bk id KN KE) = A F h) (F : Fr) (h : HW) : evY P C N ord lf c F h KN KR KE = A F h := by
  subst hc
  exact ha F h
theorem cCond {x : Operand} (hc : c = .cond x a b) {A B : Fr → HW → Rs} (ha : ∀ F h, evY P C N ord lf a F h KN KR KE = A F h) (hb : ∀ F h, evY P C N ord lf b F h KN KR KE = B F h) (F : Fr) (h : HW) :
    evY P C N ord lf c F h KN KR KE = yl h.ng F x fun y => yIf y (A F h) (B F h) := by
  subst hc
  show (yl h.ng F x fun y => yIf y (evY P C N ord lf a F h KN KR KE) (evY P C N ord lf b F h KN KR KE)) = _
  rw [ha, hb]
theorem cLoop {α : Type} {g : Fr → α} {body : (α → HW → Rs) → α → HW → Rs} (hc : c = .loop a) (hb : ∀ (k : α → HW → Rs) F h, evY P C N ord lf a F h (fun F h => k (g F) h) KR KE = body k (g F) h) (F : Fr) (h : HW) :
    evY P C N ord lf c F h KN KR KE = lp body lf (g F) h := by
  subst hc
  show yLoop (fun F h k => evY P C N ord lf a F h k KR KE) lf F h = lp body lf (g F) h
  have : ∀ n F h, yLoop (fun F h k => evY P C N ord lf a F h k KR KE) n F h = lp body n (g F) h := by
    intro n
    induction n with
    | zero => intro F h; rfl
    | succ n ih =>
      intro F h
      show evY P C N ord lf a F h (yLoop (fun F h k => evY P C N ord lf a F h k KR KE) n) KR KE = body (lp body n) (g F) h
      have e : yLoop (fun F h k => evY P C N ord lf a F h k KR KE) n = fun F h => lp body n (g F) h := funext fun F => funext fun h => ih F h
      rw [e]; exact hb _ F h
  exact this lf F h

abbrev subX (x : XF P) (p : List Nat) : Code := sub (x.fn.body.getD .skip) p
abbrev evX (x : XF P) (C : YC) (lf : Nat) (p : List Nat) := evY P C x.fn.ntmps x.ord lf (subX x p)
theorem fnX {x : XF P} {args : List SV} {h : HW} {K : Fr → HW → Rs} {R : Rs} (hk : yFin P x.fn = K) (e : evX x C lf [] (frOf args) h K K (fun _ _ _ => none) = R) : yFn P x C lf args h = R := by
  subst hk
  exact e
theorem fnOf {x : XF P} {args : List SV} {h : HW} {K : Fr → HW → Rs} {R : Rs} (hk : yFin P x.fn = K) (hb : x.fn.body.getD .skip = b) (hN : x.fn.ntmps = N) (e : evY P C N x.ord lf b (frOf args) h K K (fun _ _ _ => none) = R) : yFn P x C lf args h = R := by
  subst hk hb hN
  exact e
end

structure YX (P : Program) where
  x : XF P
  s : YC → Nat → List SV → HW → Rs
  eq : ∀ C lf args h r, s C lf args h = some r → Nat.ble args.length x.fn.ntmps = true ∧ yFn P x C lf args h = some r
def Y0 {P : Program} (x : XF P) (s : YC → Nat → HW → Rs) (e : ∀ C lf h, yFn P x C lf [] h = s C lf h) (hn : Nat.ble 0 x.fn.ntmps = true) : YX P := ⟨x, fun C lf args h => match args with
  | [] => s C lf h
  | _ => none, fun C lf args h r he => by
  rcases args with _ | ⟨_, _⟩ <;> first | (cases he; done) | exact ⟨hn, (e ..).trans he⟩⟩
def Y1 {P : Program} (x : XF P) (s : YC → Nat → SV → HW → Rs) (e : ∀ C lf a0 h, yFn P x C lf [a0] h = s C lf a0 h) (hn : Nat.ble 1 x.fn.ntmps = true) : YX P := ⟨x, fun C lf args h => match args with
  | [a0] => s C lf a0 h
  | _ => none, fun C lf args h r he => by
  rcases args with _ | ⟨a0, _ | ⟨_, _⟩⟩ <;> first | (cases he; done) | exact ⟨hn, (e ..).trans he⟩⟩
def Y2 {P : Program} (x : XF P) (s : YC → Nat → SV → SV → HW → Rs) (e : ∀ C lf a0 a1 h, yFn P x C lf [a0, a1] h = s C lf a0 a1 h) (hn : Nat.ble 2 x.fn.ntmps = true) : YX P := ⟨x, fun C lf args h => match args with
  | [a0, a1] => s C lf a0 a1 h
  | _ => none, fun C lf args h r he => by
  rcases args with _ | ⟨a0, _ | ⟨a1, _ | ⟨_, _⟩⟩⟩ <;> first | (cases he; done) | exact ⟨hn, (e ..).trans he⟩⟩
def Y3 {P : Program} (x : XF P) (s : YC → Nat → SV → SV → SV → HW → Rs) (e : ∀ C lf a0 a1 a2 h, yFn P x C lf [a0, a1, a2] h = s C lf a0 a1 a2 h) (hn : Nat.ble 3 x.fn.ntmps = true) : YX P := ⟨x, fun C lf args h => match args with
  | [a0, a1, a2] => s C lf a0 a1 a2 h
  | _ => none, fun C lf args h r he => by
  rcases args with _ | ⟨a0, _ | ⟨a1, _ | ⟨a2, _ | ⟨_, _⟩⟩⟩⟩ <;> first | (cases he; done) | exact ⟨hn, (e ..).trans he⟩⟩
def Y4 {P : Program} (x : XF P) (s : YC → Nat → SV → SV → SV → SV → HW → Rs) (e : ∀ C lf a0 a1 a2 a3 h, yFn P x C lf [a0, a1, a2, a3] h = s C lf a0 a1 a2 a3 h) (hn : Nat.ble 4 x.fn.ntmps = true) : YX P := ⟨x, fun C lf args h => match args with
  | [a0, a1, a2, a3] => s C lf a0 a1 a2 a3 h
  | _ => none, fun C lf args h r he => by
  rcases args with _ | ⟨a0, _ | ⟨a1, _ | ⟨a2, _ | ⟨a3, _ | ⟨_, _⟩⟩⟩⟩⟩ <;> first | (cases he; done) | exact ⟨hn, (e ..).trans he⟩⟩
def Y5 {P : Program} (x : XF P) (s : YC → Nat → SV → SV → SV → SV → SV → HW → Rs) (e : ∀ C lf a0 a1 a2 a3 a4 h, yFn P x C lf [a0, a1, a2, a3, a4] h = s C lf a0 a1 a2 a3 a4 h) (hn : Nat.ble 5 x.fn.ntmps = true) : YX P := ⟨x, fun C lf args h => match args with
  | [a0, a1, a2, a3, a4] => s C lf a0 a1 a2 a3 a4 h
  | _ => none, fun C lf args h r he => by
  rcases args with _ | ⟨a0, _ | ⟨a1, _ | ⟨a2, _ | ⟨a3, _ | ⟨a4, _ | ⟨_, _⟩⟩⟩⟩⟩⟩ <;> first | (cases he; done) | exact ⟨hn, (e ..).trans he⟩⟩
def Y6 {P : Program} (x : XF P) (s : YC → Nat → SV → SV → SV → SV → SV → SV → HW → Rs) (e : ∀ C lf a0 a1 a2 a3 a4 a5 h, yFn P x C lf [a0, a1, a2, a3, a4, a5] h = s C lf a0 a1 a2 a3 a4 a5 h) (hn : Nat.ble 6 x.fn.ntmps = true) : YX P := ⟨x, fun C lf args h => match args with
  | [a0, a1, a2, a3, a4, a5] => s C lf a0 a1 a2 a3 a4 a5 h
  | _ => none, fun C lf args h r he => by
  rcases args with _ | ⟨a0, _ | ⟨a1, _ | ⟨a2, _ | ⟨a3, _ | ⟨a4, _ | ⟨a5, _ | ⟨_, _⟩⟩⟩⟩⟩⟩⟩ <;> first | (cases he; done) | exact ⟨hn, (e ..).trans he⟩⟩
def Y7 {P : Program} (x : XF P) (s : YC → Nat → SV → SV → SV → SV → SV → SV → SV → HW → Rs) (e : ∀ C lf a0 a1 a2 a3 a4 a5 a6 h, yFn P x C lf [a0, a1, a2, a3, a4, a5, a6] h = s C lf a0 a1 a2 a3 a4 a5 a6 h) (hn : Nat.ble 7 x.fn.ntmps = true) : YX P := ⟨x, fun C lf args h => match args with
  | [a0, a1, a2, a3, a4, a5, a6] => s C lf a0 a1 a2 a3 a4 a5 a6 h
  | _ => none, fun C lf args h r he => by
  rcases args with _ | ⟨a0, _ | ⟨a1, _ | ⟨a2, _ | ⟨a3, _ | ⟨a4, _ | ⟨a5, _ | ⟨a6, _ | ⟨_, _⟩⟩⟩⟩⟩⟩⟩⟩ <;> first | (cases he; done) | exact ⟨hn, (e ..).trans he⟩⟩
def Y8 {P : Program} (x : XF P) (s : YC → Nat → SV → SV → SV → SV → SV → SV → SV → SV → HW → Rs) (e : ∀ C lf a0 a1 a2 a3 a4 a5 a6 a7 h, yFn P x C lf [a0, a1, a2, a3, a4, a5, a6, a7] h = s C lf a0 a1 a2 a3 a4 a5 a6 a7 h) (hn : Nat.ble 8 x.fn.ntmps = true) : YX P := ⟨x, fun C lf args h => match args with
  | [a0, a1, a2, a3, a4, a5, a6, a7] => s C lf a0 a1 a2 a3 a4 a5 a6 a7 h
  | _ => none, fun C lf args h r he => by
  rcases args with _ | ⟨a0, _ | ⟨a1, _ | ⟨a2, _ | ⟨a3, _ | ⟨a4, _ | ⟨a5, _ | ⟨a6, _ | ⟨a7, _ | ⟨_, _⟩⟩⟩⟩⟩⟩⟩⟩⟩ <;> first | (cases he; done) | exact ⟨hn, (e ..).trans he⟩⟩
def Y9 {P : Program} (x : XF P) (s : YC → Nat → SV → SV → SV → SV → SV → SV → SV → SV → SV → HW → Rs) (e : ∀ C lf a0 a1 a2 a3 a4 a5 a6 a7 a8 h, yFn P x C lf [a0, a1, a2, a3, a4, a5, a6, a7, a8] h = s C lf a0 a1 a2 a3 a4 a5 a6 a7 a8 h) (hn : Nat.ble 9 x.fn.ntmps = true) : YX P := ⟨x, fun C lf args h => match args with
  | [a0, a1, a2, a3, a4, a5, a6, a7, a8] => s C lf a0 a1 a2 a3 a4 a5 a6 a7 a8 h
  | _ => none, fun C lf args h r he => by
  rcases args with _ | ⟨a0, _ | ⟨a1, _ | ⟨a2, _ | ⟨a3, _ | ⟨a4, _ | ⟨a5, _ | ⟨a6, _ | ⟨a7, _ | ⟨a8, _ | ⟨_, _⟩⟩⟩⟩⟩⟩⟩⟩⟩⟩ <;> first | (cases he; done) | exact ⟨hn, (e ..).trans he⟩⟩
def Y10 {P : Program} (x : XF P) (s : YC → Nat → SV → SV → SV → SV → SV → SV → SV → SV → SV → SV → HW → Rs) (e : ∀ C lf a0 a1 a2 a3 a4 a5 a6 a7 a8 a9 h, yFn P x C lf [a0, a1, a2, a3, a4, a5, a6, a7, a8, a9] h = s C lf a0 a1 a2 a3 a4 a5 a6 a7 a8 a9 h) (hn : Nat.ble 10 x.fn.ntmps = true) : YX P := ⟨x, fun C lf args h => match args with
  | [a0, a1, a2, a3, a4, a5, a6, a7, a8, a9] => s C lf a0 a1 a2 a3 a4 a5 a6 a7 a8 a9 h
  | _ => none, fun C lf args h r he => by
  rcases args with _ | ⟨a0, _ | ⟨a1, _ | ⟨a2, _ | ⟨a3, _ | ⟨a4, _ | ⟨a5, _ | ⟨a6, _ | ⟨a7, _ | ⟨a8, _ | ⟨a9, _ | ⟨_, _⟩⟩⟩⟩⟩⟩⟩⟩⟩⟩⟩ <;> first | (cases he; done) | exact ⟨hn, (e ..).trans he⟩⟩
def Y11 {P : Program} (x : XF P) (s : YC → Nat → SV → SV → SV → SV → SV → SV → SV → SV → SV → SV → SV → HW → Rs) (e : ∀ C lf a0 a1 a2 a3 a4 a5 a6 a7 a8 a9 a10 h, yFn P x C lf [a0, a1, a2, a3, a4, a5, a6, a7, a8, a9, a10] h = s C lf a0 a1 a2 a3 a4 a5 a6 a7 a8 a9 a10 h) (hn : Nat.ble 11 x.fn.ntmps = true) : YX P := ⟨x, fun C lf args h => match args with
  | [a0, a1, a2, a3, a4, a5, a6, a7, a8, a9, a10] => s C lf a0 a1 a2 a3 a4 a5 a6 a7 a8 a9 a10 h
  | _ => none, fun C lf args h r he => by
  rcases args with _ | ⟨a0, _ | ⟨a1, _ | ⟨a2, _ | ⟨a3, _ | ⟨a4, _ | ⟨a5, _ | ⟨a6, _ | ⟨a7, _ | ⟨a8, _ | ⟨a9, _ | ⟨a10, _ | ⟨_, _⟩⟩⟩⟩⟩⟩⟩⟩⟩⟩⟩⟩ <;> first | (cases he; done) | exact ⟨hn, (e ..).trans he⟩⟩
def Y12 {P : Program} (x : XF P) (s : YC → Nat → SV → SV → SV → SV → SV → SV → SV → SV → SV → SV → SV → SV → HW → Rs) (e : ∀ C lf a0 a1 a2 a3 a4 a5 a6 a7 a8 a9 a10 a11 h, yFn P x C lf [a0, a1, a2, a3, a4, a5, a6, a7, a8, a9, a10, a11] h = s C lf a0 a1 a2 a3 a4 a5 a6 a7 a8 a9 a10 a11 h) (hn : Nat.ble 12 x.fn.ntmps = true) : YX P := ⟨x, fun C lf args h => match args with
  | [a0, a1, a2, a3, a4, a5, a6, a7, a8, a9, a10, a11] => s C lf a0 a1 a2 a3 a4 a5 a6 a7 a8 a9 a10 a11 h
  | _ => none, fun C lf args h r he => by
  rcases args with _ | ⟨a0, _ | ⟨a1, _ | ⟨a2, _ | ⟨a3, _ | ⟨a4, _ | ⟨a5, _ | ⟨a6, _ | ⟨a7, _ | ⟨a8, _ | ⟨a9, _ | ⟨a10, _ | ⟨a11, _ | ⟨_, _⟩⟩⟩⟩⟩⟩⟩⟩⟩⟩⟩⟩⟩ <;> first | (cases he; done) | exact ⟨hn, (e ..).trans he⟩⟩
end
end Go.Xe
