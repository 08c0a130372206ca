/- A part of an evaluator for the code. -/
import Derived.Test.YtoglpmfmnknlaaaGreatDoorXeYa
namespace Go.Xe
noncomputable section

def ck (b : Bool) (k : Rs) : Rs := Bool.rec (motive := fun _ => Rs) none k b
@[simp] theorem ck_true (k : Rs) : ck true k = k := rfl
@[simp] theorem ck_false (k : Rs) : ck false k = none := rfl

/-! The object that a load reads. -/
def adr (y : SV) : Option Nat := match y with
  | .ptr k _ => some k
  | .sl k _ _ _ _ => some k
  | _ => none
def adrO (x : Option SV) : Option Nat := match x with
  | some y => adr y
  | none => none
def glO (ng g : Nat) : Option SV := bif Nat.blt g ng then some (.ptr g 0) else none
def yLook (ng : Nat) (F : Fr) (x : Operand) : Option SV := match x with
  | .tmp t => F t
  | .const v => some (mkV v)
  | .global g => glO ng g
  | .func f => some (.fn (.func f) [] [])
def gdA (want : Bool) (x : Option SV) (r : Option Nat) : Option Nat := match x with
  | some y => bif isTup y then none else (match y with
    | .bool b => bif b == want then r else none
    | _ => none)
  | none => none
def yAdr (ops : List Oper) (o : Oper) (F : Fr) (ng : Nat) : Option Nat := match o.guard with
  | none => (match o.op.operands.toList with | [x] => adrO (yLook ng F x) | _ => none)
  | some (j, want) => (match ops[j]? with
    | some oj => (match oj.dst with
      | some d => gdA want (F d) (match o.op.operands.toList with | [x] => adrO (yLook ng F x) | _ => none)
      | none => none)
    | none => none)
def sameH (h h' : HW) (k : Nat) : Bool := bif Nat.blt k h.next then (match h.objs.get k with
  | some o => (match h'.objs.get k with | some o' => Nat.beq o.ver o'.ver | none => false)
  | none => false) else false
def chkH (recs : List (Nat × Option Nat)) (h h' : HW) : List Nat → Bool
  | [] => true
  | l :: ls => (match findK recs l with | some k => sameH h h' k | none => true) && chkH recs h h' ls

section
variable (P : Program) (C : YC) (N : Nat)

def yOper (dr : Bool) (ops : List Oper) (o : Oper) (F : Fr) (h : HW) (k : Fr → HW → Rs) : Rs := match o.guard with
  | none => yLs h.ng F o.op.operands.toList fun v => yS P dr C o.op v h fun y h => k (putF N F o.dst y) h
  | some (j, want) => (match ops[j]? with
    | some oj => (match oj.dst with
      | some d => bcd dr (gd want (F d) (yLs h.ng F o.op.operands.toList fun v => yS P dr C o.op v h fun y h => some (.ret y, h)) h) fun y h => k (putF N F o.dst y) h
      | none => none)
    | none => none)

def yOps (dr : Bool) (ops : List Oper) : List Oper → Fr → HW → (Fr → HW → Rs) → Rs
  | [], F, h, k => k F h
  | o :: rest, F, h, k => yOper P C N dr ops o F h fun F h => yOps dr ops rest F h k

def yChk (recs : List (Nat × Option Nat)) (h h' : HW) (ls : List Nat) (k : Rs) : Rs := match ls with
  | [] => k
  | ls => ck (chkH recs h h' ls) k
def recOf (ops : List Oper) (i : Nat) (o : Oper) (F : Fr) (ng : Nat) (recs : List (Nat × Option Nat)) : List (Nat × Option Nat) := bif isRead P o.op then (i, yAdr ops o F ng) :: recs else recs

def yD (ops : List Oper) (chk : List (Nat × List Nat)) : List Nat → List (Nat × Option Nat) → Fr → HW → (Fr → HW → Rs) → Rs
  | [], _, F, h, k => k F h
  | i :: is, recs, F, h, k => match ops[i]? with
    | none => none
    | some o => yOper P C N true ops o F h fun F' h' => yChk recs h h' (chkOf chk i) (yD ops chk is (recOf P ops i o F h.ng recs) F' h' k)

def ynf (f : HW → Option (SV × HW)) (base i : Nat) (h : HW) : Option (SV × HW) := match f ⟨h.ng, base + i, h.objs⟩ with
  | some (y, h') => some (y, ⟨h'.ng, h.next, h'.objs⟩)
  | none => none
def yNew (op : Op) (v : List SV) (base i : Nat) (h : HW) (k : SV → HW → Rs) : Rs := match op with
  | .alloc e => (match v with | [] => b2 (ynf (yAl P e) base i h) k | _ => none)
  | .box e _ => on1 v fun a => ck (lowV base a) (b2 (ynf (ybx e a) base i h) k)
  | .buildSlice t len ps => ck (lowL base v) (b2 (ynf (ybs P t len (ps.toList.map (·.1)) v) base i h) k)
  | .makeSlice t _ _ => on2 v fun l c => ck (lowV base l && lowV base c) (b2 (ynf (ymk P t l c) base i h) k)
  | _ => none
def lowA (base : Nat) (a : Option Nat) : Bool := match a with
  | some j => Nat.blt j base
  | none => true
def yLow (ops : List Oper) (base : Nat) (o : Oper) (F : Fr) (ng : Nat) (k : Rs) : Rs := bif isRead P o.op then ck (lowA base (yAdr ops o F ng)) k else k
def yNs (ops : List Oper) (rs : List Nat) (chk : List (Nat × List Nat)) (base : Nat) : List Nat → List (Nat × Option Nat) → Fr → HW → (Fr → HW → Rs) → Rs
  | [], _, F, h, k => k F h
  | i :: is, recs, F, h, k => match ops[i]? with
    | none => none
    | some o => yLow P ops base o F h.ng (bif newR rs i o.op then (match o.guard with
      | some _ => none
      | none => yLs h.ng F o.op.operands.toList fun v => yNew P o.op v base i h fun y h' => yChk recs h h' (chkOf chk i) (yNs ops rs chk base is (recOf P ops i o F h.ng recs) (putF N F o.dst y) h' k)) else
      yOper P C N true ops o F h fun F' h' => yChk recs h h' (chkOf chk i) (yNs ops rs chk base is (recOf P ops i o F h.ng recs) F' h' k))
def deadH (h : HW) (base : Nat) : List Nat → Bool
  | [] => true
  | k :: ks => (match h.objs.get (base + k) with | none => true | some _ => false) && deadH h base ks
def nwB (rs : List Nat) (n : Nat) (h : HW) (k : Nat → HW → Rs) : Rs := force (h.next + n) fun m => ck (deadH h h.next rs) (k h.next ⟨h.ng, m, h.objs⟩)

def yLoop (body : Fr → HW → (Fr → HW → Rs) → Rs) (n : Nat) : Fr → HW → Rs := Nat.rec (motive := fun _ => Fr → HW → Rs) (fun _ _ => none) (fun _ ih F h => body F h ih) n

def evY (ord : Nat → Hint) (lf : Nat) : Code → Fr → HW → (Fr → HW → Rs) → (Fr → HW → Rs) → (Nat → Fr → HW → Rs) → Rs
  | .skip, F, h, kn, _, _ => kn F h
  | .region _ ops false, F, h, kn, _, _ => yOps P C N false ops.toList ops.toList F h kn
  | .region id ops true, F, h, kn, _, _ => (match ord id with
    | .text => yOps P C N true ops.toList ops.toList F h kn
    | .skip => none
    | .ord is chk => yD P C N ops.toList chk is [] F h kn
    | .news is rs chk => nwB rs ops.size h fun base h => yNs P C N ops.toList rs chk base is [] F h kn)
  | .seq a b, F, h, kn, kr, ke => evY ord lf a F h (fun F h => evY ord lf b F h kn kr ke) kr ke
  | .cond c a b, F, h, kn, kr, ke => yl h.ng F c fun y => yIf y (evY ord lf a F h kn kr ke) (evY ord lf b F h kn kr ke)
  | .block id c, F, h, kn, kr, ke => evY ord lf c F h kn kr (fun i F h => bif Nat.beq i id then kn F h else ke i F h)
  | .loop c, F, h, _, kr, ke => yLoop (fun F h k => evY ord lf c F h k kr ke) lf F h
  | .exit id, F, h, _, _, ke => ke id F h
  | .label _, F, h, kn, _, _ => kn F h
  | .ret, F, h, _, kr, _ => kr F h
  | _, _, _, _, _, _ => none
end

section
variable (P : Program)
def yRes (F : Fr) (h : HW) (k : SV → Rs) : ResultVar → Rs
  | .tmp t => ob (F t) k
  | .cell a t => ob (F a) fun p => (match tyAgg P t, tySize P t with
    | some true, some n => ob (ldN n p h) k
    | some false, some _ => ob (ld1 p h) k
    | _, _ => none)
def yRss (F : Fr) (h : HW) : List ResultVar → (List SV → Rs) → Rs
  | [], k => k []
  | r :: rs, k => yRes P F h (fun y => yRss F h rs fun ys => k (y :: ys)) r
def yFin (fn : Func) (F : Fr) (h : HW) : Rs := yRss P F h fn.results.toList fun ys => some (.ret (result1 ys), h)
def frOf (args : List SV) : Fr := fun t => args[t]?
def yFn (xf : XF P) (C : YC) (lf : Nat) (args : List SV) (h : HW) : Rs :=
  evY P C xf.fn.ntmps xf.ord lf (xf.fn.body.getD .skip) (frOf args) h (yFin P xf.fn) (yFin P xf.fn) (fun _ _ _ => none)
end
end
end Go.Xe
