/- A part of an evaluator for the code. -/
import Derived.Test.YtoglpmfmnknlaaaGreatDoorXeKd
namespace Go.Xe
noncomputable section

structure HW where
  ng : Nat
  next : Nat
  objs : Hp
def HW.x (h : HW) (O : List Bool) (p : List Prop) (D : List SD) : XW := { ng := h.ng, next := h.next, objs := h.objs, orc := O, pc := p, dfs := D }
def HW.x0 (h : HW) : XW := h.x [] [] []
def XW.h (X : XW) : HW := ⟨X.ng, X.next, X.objs⟩
def hx (r : Option (SV × XW)) : Option (SV × HW) := match r with
  | some (y, X) => some (y, X.h)
  | none => none
def hs (r : Option XW) : Option HW := match r with
  | some X => some X.h
  | none => none

abbrev Rs := Option (Out × HW)
abbrev YC := Cal → List SV → HW → Rs
abbrev Fr := Nat → Option SV

/-! What comes next. -/
def ob {α : Type} (x : Option α) (k : α → Rs) : Rs := Option.rec (motive := fun _ => Rs) none k x
def b2 (x : Option (SV × HW)) (k : SV → HW → Rs) : Rs := Option.rec (motive := fun _ => Rs) none (fun p => Prod.rec (motive := fun _ => Rs) k p) x
def bcO (k : SV → HW → Rs) (o : Out) (h : HW) : Rs := Out.rec (motive := fun _ => Rs) (fun y => k y h) (fun ch => some (.pan ch, h)) o
def bc (x : Rs) (k : SV → HW → Rs) : Rs := Option.rec (motive := fun _ => Rs) none (fun p => Prod.rec (motive := fun _ => Rs) (bcO k) p) x
def bcnO (k : SV → HW → Rs) (o : Out) (h : HW) : Rs := Out.rec (motive := fun _ => Rs) (fun y => k y h) (fun _ => none) o
def bcn (x : Rs) (k : SV → HW → Rs) : Rs := Option.rec (motive := fun _ => Rs) none (fun p => Prod.rec (motive := fun _ => Rs) (bcnO k) p) x
def bcd (dr : Bool) (x : Rs) (k : SV → HW → Rs) : Rs := match dr with
  | true => bcn x k
  | false => bc x k
@[simp] theorem ob_some {α : Type} (x : α) (k : α → Rs) : ob (some x) k = k x := rfl
@[simp] theorem ob_none {α : Type} (k : α → Rs) : ob none k = none := rfl
@[simp] theorem b2_some (y : SV) (h : HW) (k : SV → HW → Rs) : b2 (some (y, h)) k = k y h := rfl
@[simp] theorem b2_none (k : SV → HW → Rs) : b2 none k = none := rfl
@[simp] theorem bc_ret (y : SV) (h : HW) (k : SV → HW → Rs) : bc (some (.ret y, h)) k = k y h := rfl
@[simp] theorem bc_pan (ch : Chain) (h : HW) (k : SV → HW → Rs) : bc (some (.pan ch, h)) k = some (.pan ch, h) := rfl
@[simp] theorem bc_none (k : SV → HW → Rs) : bc none k = none := rfl
@[simp] theorem bcn_ret (y : SV) (h : HW) (k : SV → HW → Rs) : bcn (some (.ret y, h)) k = k y h := rfl
@[simp] theorem bcn_pan (ch : Chain) (h : HW) (k : SV → HW → Rs) : bcn (some (.pan ch, h)) k = none := rfl
@[simp] theorem bcn_none (k : SV → HW → Rs) : bcn none k = none := rfl

def yIf (y : SV) (a b : Rs) : Rs := match y with
  | .bool c => Bool.rec (motive := fun _ => Rs) b a c
  | _ => none
@[simp] theorem yIf_true (a b : Rs) : yIf (.bool true) a b = a := rfl
@[simp] theorem yIf_false (a b : Rs) : yIf (.bool false) a b = b := rfl
theorem yIf_bool (c : Bool) (a b : Rs) : yIf (.bool c) a b = if c then a else b := by cases c <;> rfl

/-! Operands. -/
def gl (ng g : Nat) (k : SV → Rs) : Rs := bif Nat.blt g ng then k (.ptr g 0) else none
def yl (ng : Nat) (F : Fr) (x : Operand) (k : SV → Rs) : Rs := match x with
  | .tmp t => ob (F t) k
  | .const v => k (mkV v)
  | .global g => gl ng g k
  | .func f => k (.fn (.func f) [] [])
def yLs (ng : Nat) (F : Fr) : List Operand → (List SV → Rs) → Rs
  | [], k => k []
  | x :: xs, k => yl ng F x fun a => yLs ng F xs fun as => k (a :: as)
def on1 (v : List SV) (k : SV → Rs) : Rs := match v with
  | [a] => k a
  | _ => none
def on2 (v : List SV) (k : SV → SV → Rs) : Rs := match v with
  | [a, b] => k a b
  | _ => none
def on3 (v : List SV) (k : SV → SV → SV → Rs) : Rs := match v with
  | [a, b, c] => k a b c
  | _ => none

/-! Operations. -/
def ld1P (k off : Nat) (h : HW) : Option SV := match h.objs.get k with
  | some o => o.get off
  | none => none
def ld1 (a : SV) (h : HW) : Option SV := match a with
  | .ptr k off => ld1P k off h
  | _ => none
def ldNP (n k off : Nat) (h : HW) : Option SV := match h.objs.get k with
  | some o => (match loadN o off n with | some ys => some (.agg ys) | none => none)
  | none => none
def ldN (n : Nat) (a : SV) (h : HW) : Option SV := match a with
  | .ptr k off => ldNP n k off h
  | _ => none
def hwPut (h : HW) (k : Nat) (o : Ob) : HW := match h with
  | ⟨ng, next, ⟨tr, base⟩⟩ => ⟨ng, next, ⟨tr.put k (some o), base⟩⟩
def stO (n k off : Nat) (y : SV) (h : HW) (o : Ob) : Option HW := bif Nat.beq y.cells.length n && Nat.ble (off + n) o.n && !o.ro && allOne y.cells then some (hwPut h k (obSet o off y.cells)) else none
def stP (n k off : Nat) (y : SV) (h : HW) : Option HW := match h.objs.get k with
  | some o => stO n k off y h o
  | none => none
def st (n : Nat) (a y : SV) (h : HW) : Option HW := match a with
  | .ptr k off => stP n k off y h
  | _ => none
def fa (fo : Nat) (a : SV) : Option SV := match a with
  | .ptr k off => force (off + fo) fun o => some (.ptr k o)
  | _ => none
def atA (n s i k off : Nat) : Option SV := bif Nat.blt i n then (force (off + i * s) fun o => some (.ptr k o)) else none
def ixA (n s : Nat) (x ix : SV) : Option SV := match natOf ix with
  | some i => (match x with | .ptr k off => atA n s i k off | _ => none)
  | none => none
def ixS (s : Nat) (x ix : SV) : Option SV := match natOf ix with
  | some i => (match x with | .sl k off len _ _ => atA len s i k off | _ => none)
  | none => none
def fd1 (fo : Nat) (a : SV) : Option SV := match a with
  | .agg cs => cs[fo]?
  | _ => none
def fdN (fo n : Nat) (a : SV) : Option SV := match a with
  | .agg cs => bif Nat.ble (fo + n) cs.length then some (.agg ((cs.drop fo).take n)) else none
  | _ => none
def ext (i : Nat) (x : SV) : Option SV := match x with
  | .tup vs => vs[i]?
  | _ => none
def cvI (k : IntKind) (a : SV) : Option SV := match a with
  | .int _ n => some (forceI (k.wrap n) fun r => .int k r)
  | .val (.int _ n) => some (.val (.int k (k.wrap n)))
  | _ => none
def ypk (c a b : SV) : Option SV := match c with
  | .bool t => Bool.rec (motive := fun _ => Option SV) (some b) (some a) t
  | _ => none
section
variable (P : Program)
def bin (op : BinOp) (t : TypeId) (x y : SV) : Option SV := match x with
  | .int k a => kBinI P (kAr op) op t k a y
  | x => binE P op t x y
def yAl (e : TypeId) (h : HW) : Option (SV × HW) := hx (semAlloc P e h.x0)
def ybx (e : TypeId) (x : SV) (h : HW) : Option (SV × HW) := hx (semBox e x h.x0)
def ybs (t : TypeId) (len : Nat) (ix : List Nat) (vs : List SV) (h : HW) : Option (SV × HW) := hx (semBuildSlice P t len ix vs h.x0)
def ymk (t : TypeId) (l c : SV) (h : HW) : Option (SV × HW) := hx (semMake P t l c h.x0)
def ycv (s d : TypeId) (x : SV) (h : HW) : Option (SV × HW) := match semConv P s d x with
  | some y => some (y, h)
  | none => hx (convX P s d x h.x0)
def yrg (t : TypeId) (x : SV) (h : HW) : Option (SV × HW) := hx (semRange P t x h.x0)
def ynx (x : SV) (h : HW) : Option (SV × HW) := match x with
  | .ptr k 0 => hx (semNext k h.x0)
  | _ => none
def ysa (t : TypeId) (x : SV) : Option SV := match x with
  | .sl k off len _ _ => semArr P t k off len
  | _ => none
def ymm (h : HW) : Option (SV × HW) := some (.mp (newMap h.x0).1, (newMap h.x0).2.h)
def ylk (t : TypeId) (ok : Bool) (m k : SV) (h : HW) : Option SV := semLookup P t m k ok h.x0
def yup (t : TypeId) (m k v : SV) (h : HW) : Option HW := hs (semUpdate P t m k v h.x0)
def ybl (b : Builtin) (ts : Array TypeId) (vs : List SV) (h : HW) : Option (SV × HW) := hx (bltE P b ts vs h.x0)

def iv (C : YC) (name : String) (x : SV) (args : List SV) (h : HW) : Rs := match methE P x name h.x0 with
  | some (f, r) => C (.fn f) (r :: args) h
  | none => none
def cv (dr : Bool) (C : YC) (f : SV) (args : List SV) (h : HW) (k : SV → HW → Rs) : Rs := match f with
  | .fn (.func g) a b => bcd dr (C (.fn g) (a ++ args ++ b) h) k
  | .yld j => bcd dr (C (.yld j) args h) k
  | _ => none
def yPan (dr : Bool) (vals : List SV) (h : HW) : Rs := match dr, vals with
  | false, [.ifc t x] => some (.pan [(.ifc t x, false)], h)
  | _, _ => none
def yBlt (dr : Bool) (b : Builtin) (ts : Array TypeId) (v : List SV) (h : HW) (k : SV → HW → Rs) : Rs := match b with
  | .panic => yPan dr v h
  | .len => on1 v fun x => match ts[0]? with | some t => ob (lenE P t x) fun y => k y h | none => none
  | b => b2 (ybl P b ts v h) k
def yCall (dr : Bool) (C : YC) (c : Call) (v : List SV) (h : HW) (k : SV → HW → Rs) : Rs := match c.callee with
  | .builtin b => yBlt P dr b c.argTypes v h k
  | .value _ => (match v with
    | f :: args => cv dr C f args h k
    | [] => none)
  | .invoke _ name => (match v with
    | x :: args => bcd dr (iv P C name x args h) k
    | [] => none)

def yS (dr : Bool) (C : YC) (op : Op) (v : List SV) (h : HW) (k : SV → HW → Rs) : Rs := match op with
  | .move _ => on1 v fun a => k a h
  | .assign _ => on1 v fun a => k a h
  | .pick _ _ _ => on3 v fun c a b => ob (ypk c a b) fun y => k y h
  | .alloc e => (match v with | [] => b2 (yAl P e h) k | _ => none)
  | .box e _ => on1 v fun a => b2 (ybx e a h) k
  | .build t ps => ob (semBuild P t (ps.toList.map (·.1)) v) fun y => k y h
  | .buildSlice t len ps => b2 (ybs P t len (ps.toList.map (·.1)) v h) k
  | .load t _ => on1 v fun a => (match tyAgg P t, tySize P t with
    | some true, some n => ob (ldN n a h) fun y => k y h
    | some false, some _ => ob (ld1 a h) fun y => k y h
    | _, _ => none)
  | .store t _ _ => on2 v fun a y => (match tySize P t with
    | some n => ob (st n a y h) fun h => k (.val undef) h
    | none => none)
  | .nilCheck _ => on1 v fun a => ob (semNil a) fun y => k y h
  | .binOp op t _ _ _ => on2 v fun a b => ob (bin P op t a b) fun y => k y h
  | .unOp op _ _ => on1 v fun a => ob (unE op a) fun y => k y h
  | .convert s d _ => on1 v fun a => (match P.underlying s, P.underlying d with
    | some (.int _), some (.int kd) => ob (cvI kd a) fun y => k y h
    | _, _ => b2 (ycv P s d a h) k)
  | .makeInterface t _ => on1 v fun a => (match P.underlying t with
    | some (.interface _) => none
    | some _ => k (.ifc t a) h
    | none => none)
  | .makeFunc fn a _ => k (.fn fn (v.take a.size) (v.drop a.size)) h
  | .makeSlice t _ _ => on2 v fun l c => b2 (ymk P t l c h) k
  | .fieldAddr s _ f => on1 v fun a => (match fieldOf P s f with
    | some fd => (match tySize P fd.type with
      | some (_ + 1) => ob (fa fd.offset a) fun y => k y h
      | _ => none)
    | none => none)
  | .field s _ f => on1 v fun a => (match fieldOf P s f with
    | some fd => (match tyAgg P fd.type, tySize P fd.type with
      | some true, some n => ob (fdN fd.offset n a) fun y => k y h
      | some false, some _ => ob (fd1 fd.offset a) fun y => k y h
      | _, _ => none)
    | none => none)
  | .indexAddr t _ _ => on2 v fun a i => (match P.underlying t with
    | some (.array n e) => (match tySize P e with | some s => ob (ixA n s a i) fun y => k y h | none => none)
    | some (.slice e) => (match tySize P e with | some s => ob (ixS s a i) fun y => k y h | none => none)
    | _ => none)
  | .index t _ _ => on2 v fun a i => ob (semIndex P t a i) fun y => k y h
  | .extract _ i => on1 v fun a => ob (ext i a) fun y => k y h
  | .range t _ => on1 v fun a => b2 (yrg P t a h) k
  | .next _ true => on1 v fun a => b2 (ynx a h) k
  | .sliceToArrayPointer t _ => on1 v fun a => ob (ysa P t a) fun y => k y h
  | .makeMap _ none => (match v with | [] => b2 (ymm h) k | _ => none)
  | .lookup t _ _ ok => on2 v fun m q => ob (ylk P t ok m q h) fun y => k y h
  | .mapUpdate t _ _ _ => on3 v fun m q x => ob (yup P t m q x h) fun h => k (.val undef) h
  | .typeAssert _ _ a ok => on1 v fun x => ob (semAssert P x a ok) fun y => k y h
  | .slice t _ none none none => on1 v fun x => ob (semSlice P t x none none) fun y => k y h
  | .slice t _ (some _) none none => on2 v fun x l => ob (semSlice P t x (some l) none) fun y => k y h
  | .slice t _ none (some _) none => on2 v fun x r => ob (semSlice P t x none (some r)) fun y => k y h
  | .slice t _ (some _) (some _) none => on3 v fun x l r => ob (semSlice P t x (some l) (some r)) fun y => k y h
  | .call c => yCall P dr C c v h k
  | .panic _ => yPan dr v h
  | _ => none
end

def gd (want : Bool) (x : Option SV) (r : Rs) (h : HW) : Rs := match x with
  | some y => bif isTup y then some (.ret (.val undef), h) else (match y with
    | .bool b => bif b == want then r else some (.ret (.val undef), h)
    | _ => none)
  | none => none
def putF (N : Nat) (F : Fr) (d : Option Tmp) (y : SV) : Fr := match d with
  | some d => bif Nat.blt d N then (fun t => bif Nat.beq t d then some y else F t) else F
  | none => F
def setF (F : Fr) (d : Nat) (y : SV) : Fr := fun t => bif Nat.beq t d then some y else F t
end
end Go.Xe
