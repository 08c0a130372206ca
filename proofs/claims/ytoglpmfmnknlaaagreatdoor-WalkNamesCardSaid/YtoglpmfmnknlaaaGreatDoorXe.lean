/- A part of an evaluator for the code. -/
import Derived.Orders
import Derived.Tactics
import Derived.Below
namespace Go.Xe

/-! Tries keyed by numbers. -/
inductive Tr (α : Type) where
  | nil
  | node (v : Option α) (l r : Tr α)

def Tr.get {α : Type} : Tr α → Nat → Option α
  | .nil, _ => none
  | .node v l r, i => bif Nat.beq i 0 then v else bif Nat.beq (i % 2) 1 then l.get (i / 2) else r.get (i / 2 - 1)

def Tr.set {α : Type} : Nat → Tr α → Nat → α → Tr α
  | 0, _, _, _ => .nil
  | f + 1, .nil, i, x => bif Nat.beq i 0 then .node (some x) .nil .nil else bif Nat.beq (i % 2) 1 then .node none (Tr.set f .nil (i / 2) x) .nil else .node none .nil (Tr.set f .nil (i / 2 - 1) x)
  | f + 1, .node v l r, i, x => bif Nat.beq i 0 then .node (some x) l r else bif Nat.beq (i % 2) 1 then .node v (Tr.set f l (i / 2) x) r else .node v l (Tr.set f r (i / 2 - 1) x)

def Tr.put {α : Type} (t : Tr α) (i : Nat) (x : α) : Tr α := t.set (i + 1) i x

/-! Values. 'val': a value that bears no address of an object of ours; 'int', 'bool', 'str': concrete ones. -/
inductive SV where
  | val (x : Value)
  | int (k : IntKind) (n : Int)
  | bool (b : Bool)
  | str (s : ByteArray)
  | ptr (blk off : Nat)
  | sl (blk off len : Nat) (cap : Option Nat) (lo : Nat)
  | fn (fn : Fn) (first captured : List SV)
  | ifc (t : TypeId) (x : SV)
  | agg (cells : List SV)
  | tup (vs : List SV)
  | yld (k : Nat)
  | mp (k : Nat)
  | se (k : Nat)

inductive Hint where
  | text
  | skip
  | ord (is : List Nat) (chk : List (Nat × List Nat))
  | news (is rs : List Nat) (chk : List (Nat × List Nat))
inductive Jump where
  | none
  | ret
  | ex (id : Nat)

inductive Sp where
  | cells
  | iter (s : ByteArray) (pos : Nat)
  | map (es : List (SV × SV × Nat)) (clock : Nat)
  | loop (st : LoopState) (pend : Jump) (ord : Nat → Hint) (me : FuncId) (N : Nat) (F : Tr SV) (ps : Array Tmp) (assign body : Code) (blk : Nat)
  | blk (taken : Bool)

structure Ob where
  ver : Nat
  ty : TypeId
  n : Nat
  loose : Bool
  esz : Nat
  ro : Bool
  bf : Nat → Option SV
  ov : Tr SV
  sp : Sp

inductive SD where
  | call (f : FuncId) (xs ys : List SV)
  | coll (k : Nat)

structure Hp where
  tr : Tr (Option Ob)
  base : Nat → Option Ob
def Hp.get (H : Hp) (k : Nat) : Option Ob := match H.tr.get k with | some r => r | none => H.base k
def Hp.put (H : Hp) (k : Nat) (o : Ob) : Hp := { H with tr := H.tr.put k (some o) }
def Hp.del (H : Hp) (k : Nat) : Hp := { H with tr := H.tr.put k none }

structure XW where
  ng : Nat
  next : Nat
  objs : Hp
  orc : List Bool
  pc : List Prop
  dfs : List SD

def depth : Nat := 24

def Ob.get (o : Ob) (i : Nat) : Option SV :=
  bif Nat.blt i o.n then (match o.ov.get i with | some y => some y | none => o.bf i) else none

def force {α : Type} (n : Nat) (k : Nat → α) : α := Nat.rec (motive := fun _ => α) (k 0) (fun m _ => k (m + 1)) n
def forceI {α : Type} (n : Int) (k : Int → α) : α := match n with
  | .ofNat m => force m fun m => k (.ofNat m)
  | .negSucc m => force m fun m => k (.negSucc m)

def mkV1 : Value → SV
  | .int k n => .int k n
  | .bool b => .bool b
  | .string s => .str s
  | x => .val x
def mkV : Value → SV
  | .int k n => .int k n
  | .bool b => .bool b
  | .string s => .str s
  | .agg cs => .agg (cs.toList.map mkV1)
  | x => .val x

def look (ng : Nat) (F : Tr SV) : Operand → Option SV
  | .tmp t => F.get t
  | .const v => some (mkV v)
  | .global g => bif Nat.blt g ng then some (.ptr g 0) else none
  | .func f => some (.fn (.func f) [] [])

def looks (ng : Nat) (F : Tr SV) : List Operand → Option (List SV)
  | [] => some []
  | x :: xs => match look ng F x with
    | some y => match looks ng F xs with | some ys => some (y :: ys) | none => none
    | none => none

def SV.cells : SV → List SV
  | .agg cs => cs
  | x => [x]

def SV.one : SV → Bool
  | .agg _ | .tup _ => false
  | .val (.agg _) | .val (.tuple _) => false
  | .val (.int _ _) | .val (.bool _) | .val (.string _) | .val (.pointer _) | .val (.slice _ _ _) | .val (.map _) | .val .nilIface | .val .nilFunc | .val (.iface _ _) => true
  | .val _ => false
  | _ => true

def SV.flat : SV → Bool
  | .val (.agg _) => false
  | _ => true

def allOne : List SV → Bool
  | [] => true
  | y :: ys => y.one && allOne ys

def loadN (o : Ob) (off : Nat) : Nat → Option (List SV)
  | 0 => some []
  | n + 1 => match o.get off with
    | some y => match loadN o (off + 1) n with | some ys => some (y :: ys) | none => none
    | none => none

def storeN (t : Tr SV) (off : Nat) : List SV → Tr SV
  | [] => t
  | y :: ys => force off fun off => storeN (t.put off y) (off + 1) ys

def trieOf (l : List SV) : Tr SV := storeN .nil 0 l

/-! Types. -/
section
variable (P : Program)
def tySize (t : TypeId) : Option Nat := match P.info? t with | some i => some i.size | none => none
def tyBytes (t : TypeId) : Option Nat := match P.info? t with | some i => some i.bytes | none => none
def tyZero (t : TypeId) : Option Value := match P.info? t with | some i => i.zero | none => none
def tyAgg (t : TypeId) : Option Bool := match P.underlying t with | some (.struct _) => some true | some (.array _ _) => some true | some _ => some false | none => none
end

/-! Steps. -/
def XW.ask (X : XW) (s : Bool) : Option (Bool × XW) := match X.orc with
  | o :: os => some (o, { X with orc := os, pc := (s = o) :: X.pc })
  | [] => none

def asB (X : XW) : SV → Option (Bool × XW)
  | .bool b => some (b, X)
  | .val (.bool s) => X.ask s
  | _ => none

def isTup : SV → Bool
  | .val (.tuple _) => true
  | _ => false
def asW (X : XW) (want : Bool) (y : SV) : Option (Bool × XW) := bif isTup y then some (false, X) else match asB X y with
  | some (b, X) => some (b == want, X)
  | none => none

def XW.new (X : XW) (o : Ob) : Nat × XW := (X.next, { X with next := X.next + 1, objs := X.objs.put X.next o })

def newRow (X : XW) (ty : TypeId) (cells : List SV) : Nat × XW :=
  force cells.length fun n => X.new { ver := 0, ty, n, loose := false, esz := 1, ro := false, bf := fun _ => none, ov := trieOf cells, sp := .cells }

def newPat (X : XW) (ty : TypeId) (n : Nat) (zero : List SV) : Nat × XW :=
  force n fun n => X.new { ver := 0, ty, n, loose := false, esz := 1, ro := false, bf := fun i => (trieOf zero).get (i % zero.length), ov := .nil, sp := .cells }

def splice (cells : List SV) (off : Nat) (new : List SV) : List SV := cells.take off ++ new ++ cells.drop (off + new.length)

def fillL (place : Nat → Option (Nat × Nat)) : List SV → List (Nat × SV) → Option (List SV)
  | cells, [] => some cells
  | cells, (i, v) :: rest => match place i with
    | none => none
    | some (off, size) => bif v.flat && Nat.beq v.cells.length size && Nat.ble (off + size) cells.length then fillL place (splice cells off v.cells) rest else none

def natOf : SV → Option Nat
  | .int _ (.ofNat n) => some n
  | _ => none

def reps (zero : List SV) : Nat → List SV
  | 0 => []
  | n + 1 => zero ++ reps zero n

def arith (op : BinOp) (k : IntKind) (x y : Int) : Option SV :=
  match op with
  | .add => some (forceI (k.wrap (x + y)) fun r => .int k r)
  | .sub => some (forceI (k.wrap (x - y)) fun r => .int k r)
  | .mul => some (forceI (k.wrap (x * y)) fun r => .int k r)
  | .quo => bif y == 0 then none else some (forceI (k.wrap (x.tdiv y)) fun r => .int k r)
  | .rem => bif y == 0 then none else some (forceI (x.tmod y) fun r => .int k r)
  | .and => some (forceI (k.wrap ((BitVec.ofInt k.bits x &&& BitVec.ofInt k.bits y).toNat : Int)) fun r => .int k r)
  | .or => some (forceI (k.wrap ((BitVec.ofInt k.bits x ||| BitVec.ofInt k.bits y).toNat : Int)) fun r => .int k r)
  | .xor => some (forceI (k.wrap ((BitVec.ofInt k.bits x ^^^ BitVec.ofInt k.bits y).toNat : Int)) fun r => .int k r)
  | .andNot => some (forceI (k.wrap ((BitVec.ofInt k.bits x &&& ~~~BitVec.ofInt k.bits y).toNat : Int)) fun r => .int k r)
  | .eql => some (.bool (x == y))
  | .neq => some (.bool (x != y))
  | .lss => some (.bool (decide (x < y)))
  | .leq => some (.bool (decide (x ≤ y)))
  | .gtr => some (.bool (decide (x > y)))
  | .geq => some (.bool (decide (x ≥ y)))
  | _ => none

def arithS (op : BinOp) (k : IntKind) (x y : Int) : Option SV :=
  match op with
  | .add => some (.val (.int k (k.wrap (x + y))))
  | .sub => some (.val (.int k (k.wrap (x - y))))
  | .mul => some (.val (.int k (k.wrap (x * y))))
  | .eql => some (.val (.bool (x == y)))
  | .neq => some (.val (.bool (x != y)))
  | .lss => some (.val (.bool (decide (x < y))))
  | .leq => some (.val (.bool (decide (x ≤ y))))
  | .gtr => some (.val (.bool (decide (x > y))))
  | .geq => some (.val (.bool (decide (x ≥ y))))
  | _ => none

def shiftE (op : BinOp) (k : IntKind) (x : Int) (y : Int) : Option SV :=
  bif decide (y < 0) then none else
    match op with
    | .shl => some (forceI (k.wrap (x * 2 ^ (min y.toNat k.bits))) fun r => .int k r)
    | .shr => some (forceI (x.fdiv (2 ^ (min y.toNat k.bits))) fun r => .int k r)
    | _ => none

def strE (op : BinOp) (x y : ByteArray) : Option SV :=
  match op with
  | .add => bif decide (((x.size + y.size : Nat) : Int) > IntKind.i64.max) then none else some (.str (x ++ y))
  | .eql => some (.bool (x.toList == y.toList))
  | .neq => some (.bool (!(x.toList == y.toList)))
  | _ => none

def strS (op : BinOp) (x y : ByteArray) : Option SV :=
  match op with
  | .eql => some (.val (.bool (x.toList == y.toList)))
  | .neq => some (.val (.bool (!(x.toList == y.toList))))
  | _ => none

def eqE (P : Program) (t : TypeId) (x y : SV) : Option Bool := match P.underlying t, x, y with
  | some .bool, .bool a, .bool b => some (a == b)
  | some (.pointer _), .val (.pointer none), .val (.pointer none) => some true
  | some (.pointer _), .val (.pointer none), .ptr _ _ => some false
  | some (.pointer _), .ptr _ _, .val (.pointer none) => some false
  | some (.slice _), .val (.slice none _ _), .val (.slice none _ _) => some true
  | some (.slice _), .sl _ _ _ _ _, .val (.slice none _ _) => some false
  | some (.slice _), .val (.slice none _ _), .sl _ _ _ _ _ => some false
  | some (.slice _), .se _, .val (.slice none _ _) => some false
  | some (.slice _), .val (.slice none _ _), .se _ => some false
  | some (.func _ _ _), .val .nilFunc, .val .nilFunc => some true
  | some (.func _ _ _), .fn _ _ _, .val .nilFunc => some false
  | some (.func _ _ _), .val .nilFunc, .fn _ _ _ => some false
  | some (.map _ _), .val (.map none), .val (.map none) => some true
  | some (.map _ _), .mp _, .val (.map none) => some false
  | some (.map _ _), .val (.map none), .mp _ => some false
  | some (.interface _), .val .nilIface, .ifc _ _ => some false
  | some (.interface _), .ifc _ _, .val .nilIface => some false
  | _, _, _ => none

def partE (P : Program) (t : TypeId) (cs : List SV) (off : Nat) : Option SV :=
  match tyAgg P t, tySize P t with
  | some true, some n => bif Nat.ble (off + n) cs.length then some (.agg ((cs.drop off).take n)) else none
  | some false, some _ => cs[off]?
  | _, _ => none

def eqFs (P : Program) (r : TypeId → SV → SV → Option Bool) (xs ys : List SV) : List Field → Option Bool
  | [] => some true
  | f :: fs => bif f.name == "_" then eqFs P r xs ys fs else (match partE P f.type xs f.offset, partE P f.type ys f.offset with
    | some a, some b => (match r f.type a b, eqFs P r xs ys fs with
      | some p, some q => some (p && q)
      | _, _ => none)
    | _, _ => none)
def eqIs (P : Program) (r : TypeId → SV → SV → Option Bool) (e sz : Nat) (xs ys : List SV) : List Nat → Option Bool
  | [] => some true
  | i :: is => (match partE P e xs (i * sz), partE P e ys (i * sz) with
    | some a, some b => (match r e a b, eqIs P r e sz xs ys is with
      | some p, some q => some (p && q)
      | _, _ => none)
    | _, _ => none)
def eqIn (P : Program) : Nat → TypeId → SV → SV → Option Bool
  | 0, _, _, _ => none
  | d + 1, t, x, y => match P.underlying t, x, y with
    | some (.int _), .int k a, .int k' b => bif k == k' then some (a == b) else none
    | some .string, .str a, .str b => some (a.toList == b.toList)
    | some (.struct fs), .agg xs, .agg ys => bif P.stoodInHeld t then none else eqFs P (eqIn P d) xs ys fs.toList
    | some (.array n e), .agg xs, .agg ys => (match tySize P e with | some sz => eqIs P (eqIn P d) e sz xs ys (List.range n) | none => none)
    | _, _, _ => eqE P t x y
def eqTop (P : Program) (t : TypeId) (x y : SV) : Option Bool := match x, y with
  | .agg xs, .agg ys => bif P.eqGuardType P.depth t then none else eqIn P 16 t (.agg xs) (.agg ys)
  | .val .nilIface, .val .nilIface => (match P.underlying t with
    | some (.interface ms) => bif ms.isEmpty then some true else none
    | _ => none)
  | x, y => eqE P t x y

def eqOp (P : Program) (op : BinOp) (t : TypeId) (x y : SV) : Option SV :=
  match op with
  | .eql => match eqTop P t x y with | some b => some (.bool b) | none => none
  | .neq => match eqTop P t x y with | some b => some (.bool (!b)) | none => none
  | _ => none

def intE (op : BinOp) (k : IntKind) (a : Int) (k' : IntKind) (b : Int) : Option SV :=
  match op with
  | .shl => shiftE .shl k a b
  | .shr => shiftE .shr k a b
  | op => bif k == k' then arith op k a b else none

def binE (P : Program) (op : BinOp) (t : TypeId) (x y : SV) : Option SV :=
  match x, y with
  | .int k a, .int k' b => intE op k a k' b
  | .int k a, .val (.int k' b) => bif k == k' then arithS op k a b else none
  | .val (.int k a), .int k' b => bif k == k' then arithS op k a b else none
  | .val (.int k a), .val (.int k' b) => bif k == k' then arithS op k a b else none
  | .str a, .str b => strE op a b
  | .str a, .val (.string b) => strS op a b
  | .val (.string a), .str b => strS op a b
  | .val (.string a), .val (.string b) => strS op a b
  | x, y => eqOp P op t x y

def unE (op : UnOp) (x : SV) : Option SV :=
  match op, x with
  | .neg, .int k n => arith .sub k 0 n
  | .xor, .int k n => arith .xor k (if k.signed then -1 else k.max) n
  | .not, .bool b => some (.bool (!b))
  | .not, .val (.bool b) => some (.val (.bool (!b)))
  | _, _ => none

def fieldOf (P : Program) (s : TypeId) (f : Nat) : Option Field := match P.underlying s with
  | some (.struct fs) => fs[f]?
  | _ => none

def sliceB (len cap : Nat) (lo hi : Option SV) : Option (Nat × Nat) :=
  match (match hi with | none => some len | some y => natOf y), (match lo with | none => some 0 | some y => natOf y) with
  | some h, some l => bif Nat.ble h cap && Nat.ble l h then some (l, h) else none
  | _, _ => none

def semPick (X : XW) (c a b : SV) : Option (SV × XW) := match asB X c with
  | some (true, X) => some (a, X)
  | some (false, X) => some (b, X)
  | none => none

def semAlloc (P : Program) (e : TypeId) (X : XW) : Option (SV × XW) := match tyZero P e with
  | some z => some (.ptr (newRow X e (mkV z).cells).1 0, (newRow X e (mkV z).cells).2)
  | none => none

def semBox (e : TypeId) (x : SV) (X : XW) : Option (SV × XW) := bif x.flat then some (.ptr (newRow X e x.cells).1 0, (newRow X e x.cells).2) else none

def placesS (P : Program) (fs : List Field) : Option (List (Nat × Nat)) := fs.mapM fun f => (P.info? f.type).map fun i => (f.offset, i.size)

def semBuild (P : Program) (t : TypeId) (ix : List Nat) (vs : List SV) : Option SV := match tyZero P t with
  | none => none
  | some z => match P.underlying t with
    | some (.struct fs) => match placesS P fs.toList with
      | some pl => match fillL (fun i => pl[i]?) (mkV z).cells (ix.zip vs) with
        | some cs => some (.agg cs)
        | none => none
      | none => none
    | some (.array _ e) => match tySize P e with
      | some s => match fillL (fun i => some (i * s, s)) (mkV z).cells (ix.zip vs) with
        | some cs => some (.agg cs)
        | none => none
      | none => none
    | _ => none

def semBuildSlice (P : Program) (t : TypeId) (len : Nat) (ix : List Nat) (vs : List SV) (X : XW) : Option (SV × XW) := match P.underlying t with
  | some (.slice e) => match tySize P e, tyZero P e with
    | some s, some z => bif Nat.ble (len * s) 65536 && Nat.ble 1 s && Nat.beq (mkV z).cells.length s then match fillL (fun i => some (i * s, s)) (reps (mkV z).cells len) (ix.zip vs) with
        | some cs => some (.sl (newRow X e cs).1 0 len (some len) 0, (newRow X e cs).2)
        | none => none
      else none
    | _, _ => none
  | _ => none

def semLoad (P : Program) (t : TypeId) (X : XW) (k off : Nat) : Option SV := match X.objs.get k, tyAgg P t, tySize P t with
  | some o, some true, some n => match loadN o off n with | some ys => some (.agg ys) | none => none
  | some o, some false, some _ => o.get off
  | _, _, _ => none

def semStore (P : Program) (t : TypeId) (X : XW) (k off : Nat) (y : SV) : Option XW := match X.objs.get k, tySize P t with
  | some o, some n => bif Nat.beq y.cells.length n && Nat.ble (off + n) o.n && !o.ro && allOne y.cells
    then some { X with objs := X.objs.put k { o with ver := o.ver + 1, ov := storeN o.ov off y.cells } } else none
  | _, _ => none

def semNil : SV → Option SV
  | .ptr k off => some (.ptr k off)
  | .fn (.func f) a b => some (.fn (.func f) a b)
  | _ => none

def semConv (P : Program) (s d : TypeId) (x : SV) : Option SV := match P.underlying s with
  | none => none
  | some _ => match P.underlying d, x with
    | some (.int k), .int _ n => some (forceI (k.wrap n) fun r => .int k r)
    | some (.int k), .val (.int _ n) => some (.val (.int k (k.wrap n)))
    | some .string, .str s => some (.str s)
    | some .string, .val (.string s) => some (.val (.string s))
    | _, _ => none

def semIface (P : Program) (t : TypeId) (x : SV) : Option SV := match P.underlying t with
  | some (.interface _) => none
  | some _ => some (.ifc t x)
  | none => none

def semMake (P : Program) (t : TypeId) (l c : SV) (X : XW) : Option (SV × XW) := match P.underlying t with
  | some (.slice e) => match natOf l, natOf c with
    | some l, some c => match tySize P e, tyZero P e, tyBytes P e with
      | some s, some z, some b => bif Nat.ble l c && Nat.ble (c * b) 35184372088832 && Nat.ble c 35184372088832 && Nat.beq (mkV z).cells.length s && Nat.ble 1 s then
          some (.sl (newPat X e (c * s) (mkV z).cells).1 0 l (some c) 0, (newPat X e (c * s) (mkV z).cells).2)
        else none
      | _, _, _ => none
    | _, _ => none
  | _ => none

def semFieldAddr (P : Program) (s : TypeId) (f k off : Nat) : Option SV := match fieldOf P s f with
  | some fd => match tySize P fd.type with
    | some (_ + 1) => some (force (off + fd.offset) fun o => .ptr k o)
    | _ => none
  | none => none

def semField (P : Program) (s : TypeId) (f : Nat) (cs : List SV) : Option SV := match fieldOf P s f with
  | some fd => partE P fd.type cs fd.offset
  | none => none

def semIndexAddr (P : Program) (t : TypeId) (x ix : SV) : Option SV := match natOf ix with
  | none => none
  | some i => match P.underlying t, x with
    | some (.array n e), .ptr k off => match tySize P e with
      | some s => bif Nat.blt i n then some (force (off + i * s) fun o => .ptr k o) else none
      | none => none
    | some (.slice e), .sl k off len _ _ => match tySize P e with
      | some s => bif Nat.blt i len then some (force (off + i * s) fun o => .ptr k o) else none
      | none => none
    | _, _ => none

def semIndex (P : Program) (t : TypeId) (x ix : SV) : Option SV := match natOf ix with
  | none => none
  | some i => match P.underlying t, x with
    | some (.array n e), .agg cs => match tySize P e with
      | some s => bif Nat.blt i n then partE P e cs (i * s) else none
      | none => none
    | some .string, .str s => match s[i]? with
      | some b => some (.int .u8 b.toNat)
      | none => none
    | _, _ => none

def slAt (k off len : Nat) (cap : Option Nat) (lo s l h : Nat) : Option SV := match cap with
  | some cap => force (h - l) fun n => force (cap - l) fun m => bif Nat.beq m 0 then some (.sl k off n (some m) 0) else force (off + l * s) fun o => some (.sl k o n (some m) 0)
  | none => bif Nat.ble h len then (bif Nat.blt l len then force (h - l) fun n => force (lo + l) fun lo => force (off + l * s) fun o => some (.sl k o n none lo) else (bif Nat.beq l 0 then force h fun n => some (.sl k off n none lo) else some (.se k))) else none

def semSlice (P : Program) (t : TypeId) (x : SV) (lo hi : Option SV) : Option SV := match P.underlying t, x with
  | some (.slice e), .sl k off len cap lo' => match tySize P e, sliceB len (match cap with | some c => c | none => len) lo hi with
    | some s, some (l, h) => slAt k off len cap lo' s l h
    | _, _ => none
  | some (.slice e), .se k => match tySize P e, sliceB 0 0 lo hi with
    | some _, some _ => some (.se k)
    | _, _ => none
  | some (.slice e), .val (.slice none a c) => match tySize P e, (bif Nat.beq a 0 && Nat.beq c 0 then sliceB 0 0 lo hi else none) with
    | some _, some _ => some (.val (.slice none 0 0))
    | _, _ => none
  | some (.array n e), .ptr k off => match tySize P e, sliceB n n lo hi with
    | some s, some (l, h) => slAt k off n (some n) 0 s l h
    | _, _ => none
  | some .string, .str s => match sliceB s.size s.size lo hi with
    | some (l, h) => some (.str (s.extract l h))
    | none => none
  | _, _ => none

def strCells (s : ByteArray) : List SV := s.data.toList.map fun b => forceI b.toNat fun r => .int .u8 r

def bytesOf : List SV → Option (List Int)
  | [] => some []
  | .int .u8 n :: ys => match bytesOf ys with | some ns => some (n :: ns) | none => none
  | _ => none

def newLoose (X : XW) (ty esz : Nat) (cells : List SV) : Nat × XW :=
  force cells.length fun n => X.new { ver := 0, ty, n, loose := true, esz, ro := false, bf := fun _ => none, ov := trieOf cells, sp := .cells }

def isU8 (P : Program) (e : TypeId) : Bool := match P.underlying e with | some (.int .u8) => true | _ => false

def bytesStr (ns : List Int) : ByteArray := ns.foldl (fun r n => r.push (UInt8.ofNat n.toNat)) ByteArray.empty

def convX (P : Program) (s d : TypeId) (x : SV) (X : XW) : Option (SV × XW) := match P.underlying s, P.underlying d, x with
  | some .string, some (.slice e), .str b => bif isU8 P e && Nat.ble b.size 35184372088832 then some (.sl (newLoose X e 1 (strCells b)).1 0 b.size none 0, (newLoose X e 1 (strCells b)).2) else none
  | some (.slice _), some (.slice e), .sl k off n cap lo => bif isU8 P e && Nat.beq s d then (match X.objs.get k with
    | some o => bif o.ro then none else some (.sl k off n cap lo, X)
    | none => none) else none
  | some (.slice e), some .string, .val (.slice none _ _) => bif isU8 P e then some (.str .empty, X) else none
  | some (.slice e), some .string, .sl k off n _ _ => bif isU8 P e then (match X.objs.get k with
    | some o => match loadN o off n with
      | some ys => match bytesOf ys with
        | some ns => some (.str (bytesStr ns), X)
        | none => none
      | none => none
    | none => none) else none
  | _, _, _ => none

def semRange (P : Program) (t : TypeId) (x : SV) (X : XW) : Option (SV × XW) := match P.underlying t, x with
  | some .string, .str s => some (.ptr (X.new { ver := 0, ty := 0, n := 0, loose := false, esz := 1, ro := true, bf := fun _ => none, ov := .nil, sp := .iter s 0 }).1 0,
      (X.new { ver := 0, ty := 0, n := 0, loose := false, esz := 1, ro := true, bf := fun _ => none, ov := .nil, sp := .iter s 0 }).2)
  | _, _ => none

def semNext (k : Nat) (X : XW) : Option (SV × XW) := match X.objs.get k with
  | some o => match o.sp with
    | .iter s pos => bif Nat.blt pos s.size then
        some (.tup [.bool true, .int .i64 pos, forceI (Utf8.decode s pos).1 fun c => .int .i32 c], force (pos + (Utf8.decode s pos).2) fun q => { X with objs := X.objs.put k { o with ver := o.ver + 1, sp := .iter s q } })
      else some (.tup [.bool false], X)
    | _ => none
  | none => none

def semArr (P : Program) (t : TypeId) (k off len : Nat) : Option SV := match P.underlying t with
  | some (.array n _) => bif Nat.ble n len then some (.ptr k off) else none
  | _ => none

/-! Maps. -/
def newMap (X : XW) : Nat × XW := X.new { ver := 0, ty := 0, n := 0, loose := false, esz := 1, ro := true, bf := fun _ => none, ov := .nil, sp := .map [] 0 }
def keyEq : SV → SV → Option Bool
  | .int k a, .int k' b => bif k == k' then some (a == b) else none
  | .str a, .str b => some (a.toList == b.toList)
  | _, _ => none
def findE (k : SV) : List (SV × SV × Nat) → Nat → Option (Option (Nat × SV))
  | [], _ => some none
  | (q, v, _) :: es, i => match keyEq k q with
    | some true => some (some (i, v))
    | some false => findE k es (i + 1)
    | none => none
def keyNow (P : Program) (kt : TypeId) (k : SV) : Bool := match P.underlying kt, k with
  | some (.int _), .int _ _ => true
  | some .string, .str _ => true
  | _, _ => false
def entriesOf (X : XW) (k : Nat) : Option (List (SV × SV × Nat) × Nat) := match X.objs.get k with
  | some o => match o.sp with | .map es clock => some (es, clock) | _ => none
  | none => none
def mapOf (m : SV) (X : XW) : Option (List (SV × SV × Nat)) := match m with
  | .val (.map none) => some []
  | .mp j => (match entriesOf X j with | some (es, _) => some es | none => none)
  | _ => none
def semLookup (P : Program) (t : TypeId) (m k : SV) (ok : Bool) (X : XW) : Option SV := match P.underlying t with
  | some (.map kt e) => match mapOf m X, tyZero P e with
    | some es, some z => bif keyNow P kt k then (match findE k es 0 with
      | some (some (_, v)) => some (bif ok then .tup [v, .bool true] else v)
      | some none => some (bif ok then .tup [mkV z, .bool false] else mkV z)
      | none => none) else none
    | _, _ => none
  | _ => none
def updL (v : SV) : List (SV × SV × Nat) → Nat → List (SV × SV × Nat)
  | [], _ => []
  | (q, _, b) :: es, 0 => (q, v, b) :: es
  | e :: es, i + 1 => e :: updL v es i
def semUpdate (P : Program) (t : TypeId) (m k v : SV) (X : XW) : Option XW := match P.underlying t, m with
  | some (.map kt _), .mp j => match X.objs.get j with
    | some o => match o.sp with
      | .map es clock => bif keyNow P kt k then (match findE k es 0 with
        | some (some (i, _)) => some { X with objs := X.objs.put j { o with ver := o.ver + 1, sp := .map (updL v es i) clock } }
        | some none => force (clock + 1) fun c => some { X with objs := X.objs.put j { o with ver := o.ver + 1, sp := .map (es ++ [(k, v, clock)]) c } }
        | none => none) else none
      | _ => none
    | none => none
  | _, _ => none

/-! Interfaces. -/
def semAssert (P : Program) (x : SV) (a : TypeId) (ok : Bool) : Option SV := match P.underlying a, tyZero P a with
  | some d, some z => (match d, x with
    | .interface _, .val .nilIface => bif ok then some (.tup [mkV z, .bool false]) else none
    | .interface w, .ifc t y => (match P.info? t with
      | some i => (match Instr.missingMethod w i.methods with
        | none => some (bif ok then .tup [.ifc t y, .bool true] else .ifc t y)
        | some _ => bif ok then some (.tup [mkV z, .bool false]) else none)
      | none => none)
    | _, .val .nilIface => bif ok then some (.tup [mkV z, .bool false]) else none
    | _, .ifc t y => bif Nat.beq t a then some (bif ok then .tup [y, .bool true] else y) else (bif ok then some (.tup [mkV z, .bool false]) else none)
    | _, _ => none)
  | _, _ => none
def methE (P : Program) (x : SV) (name : String) (X : XW) : Option (FuncId × SV) := match x with
  | .ifc t y => match P.info? t with
    | some i => match i.methods.find? (·.name == name) with
      | some m => bif m.path.isEmpty then (match m.func, P.underlying t, y with
          | some (f, true), some (.pointer _), y => some (f, y)
          | some (f, false), some (.pointer e), .ptr k off => (match semLoad P e X k off with | some z => some (f, z) | none => none)
          | some (_, false), some (.pointer _), _ => none
          | some (f, false), some _, y => some (f, y)
          | _, _, _ => none) else none
      | none => none
    | none => none
  | _ => none

def withX (X : XW) : Option SV → Option (SV × XW)
  | some y => some (y, X)
  | none => none

def sem (P : Program) (op : Op) (vals : List SV) (X : XW) : Option (SV × XW) :=
  match op, vals with
  | .move _, [x] => some (x, X)
  | .assign _, [x] => some (x, X)
  | .pick _ _ _, [c, a, b] => semPick X c a b
  | .alloc e, [] => semAlloc P e X
  | .box e _, [x] => semBox e x X
  | .build t ps, vs => withX X (semBuild P t (ps.toList.map (·.1)) vs)
  | .buildSlice t len ps, vs => semBuildSlice P t len (ps.toList.map (·.1)) vs X
  | .load t _, [.ptr k off] => withX X (semLoad P t X k off)
  | .store t _ _, [.ptr k off, y] => match semStore P t X k off y with | some X => some (.val undef, X) | none => none
  | .nilCheck _, [x] => withX X (semNil x)
  | .binOp op t _ _ _, [x, y] => withX X (binE P op t x y)
  | .unOp op _ _, [x] => withX X (unE op x)
  | .convert s d _, [x] => match semConv P s d x with | some y => some (y, X) | none => convX P s d x X
  | .makeInterface t _, [x] => withX X (semIface P t x)
  | .makeFunc fn a _, vs => some (.fn fn (vs.take a.size) (vs.drop a.size), X)
  | .makeSlice t _ _, [l, c] => semMake P t l c X
  | .fieldAddr s _ f, [.ptr k off] => withX X (semFieldAddr P s f k off)
  | .field s _ f, [.agg cs] => withX X (semField P s f cs)
  | .indexAddr t _ _, [x, ix] => withX X (semIndexAddr P t x ix)
  | .index t _ _, [x, ix] => withX X (semIndex P t x ix)
  | .extract _ i, [.tup vs] => withX X vs[i]?
  | .range t _, [x] => semRange P t x X
  | .next _ true, [.ptr k 0] => semNext k X
  | .sliceToArrayPointer t _, [.sl k off len _ _] => withX X (semArr P t k off len)
  | .makeMap _ none, [] => some (.mp (newMap X).1, (newMap X).2)
  | .lookup t _ _ ok, [m, k] => withX X (semLookup P t m k ok X)
  | .mapUpdate t _ _ _, [m, k, v] => match semUpdate P t m k v X with | some X => some (.val undef, X) | none => none
  | .typeAssert _ _ a ok, [x] => withX X (semAssert P x a ok)
  | .slice t _ none none none, [x] => withX X (semSlice P t x none none)
  | .slice t _ (some _) none none, [x, l] => withX X (semSlice P t x (some l) none)
  | .slice t _ none (some _) none, [x, h] => withX X (semSlice P t x none (some h))
  | .slice t _ (some _) (some _) none, [x, l, h] => withX X (semSlice P t x (some l) (some h))
  | _, _ => none

/-! Regions that draw their order: which operations may change places. -/
def rowConv (P : Program) (s d : TypeId) : Bool := match P.underlying s, P.underlying d with
  | some (.slice _), _ => true
  | _, some (.slice _) => true
  | _, _ => false
def strConv (P : Program) (s d : TypeId) : Bool := match P.underlying s, P.underlying d with
  | some (.slice _), some .string => true
  | _, _ => false
def pureBlt : Builtin → Bool
  | .len | .cap | .min | .max => true
  | _ => false
def pureCallee : Callee → Bool
  | .builtin b => pureBlt b
  | _ => false
def isNew : Op → Bool
  | .alloc _ | .box _ _ | .buildSlice _ _ _ | .makeSlice _ _ _ => true
  | _ => false
def isStore : Op → Bool
  | .store _ _ _ => true
  | _ => false
section
variable (P : Program)
def isPure : Op → Bool
  | .convert s d _ => !rowConv P s d
  | .move _ | .assign _ | .pick _ _ _ | .build _ _ | .nilCheck _ | .binOp _ _ _ _ _ | .unOp _ _ _ | .makeInterface _ _ | .makeFunc _ _ _ | .fieldAddr _ _ _ | .field _ _ _ | .indexAddr _ _ _ | .index _ _ _ | .extract _ _ | .slice _ _ _ _ _ | .sliceToArrayPointer _ _ | .typeAssert _ _ _ _ => true
  | .call c => pureCallee c.callee
  | _ => false
def isRead : Op → Bool
  | .load _ _ => true
  | .convert s d _ => strConv P s d
  | _ => false
def isBar (o : Op) : Bool := !isPure P o && !isRead P o
def chkOf : List (Nat × List Nat) → Nat → List Nat
  | [], _ => []
  | (b, ls) :: rest, i => bif Nat.beq b i then ls else chkOf rest i
def hasNat : List Nat → Nat → Bool
  | [], _ => false
  | x :: xs, i => Nat.beq x i || hasNat xs i
def compat (chk : List (Nat × List Nat)) (i j : Nat) (a b : Op) : Bool := isPure P a || isPure P b || (isRead P a && isRead P b) || (isRead P a && isBar P b && hasNat (chkOf chk j) i)
def noSel : Op → Bool
  | .select _ _ => false
  | .defer _ => false
  | _ => true

def reachS (ops : List Oper) (listed : Array Bool) (i : Nat) : Nat → List Oper → List Bool → List Bool
  | _, [], acc => acc
  | j, o :: rest, acc => reachS ops listed i (j + 1) rest (acc ++ [if j == i then false else listed.getD j true || o.after.all fun e => !Region.binds .any e || acc.getD e.on false])

def stepOK (chk : List (Nat × List Nat)) (ops : Array Oper) (listed : Array Bool) (i : Nat) (r : List Bool) : Bool :=
  match ops[i]? with
  | none => false
  | some oi => (List.range ops.size).all fun j => match ops[j]? with
    | none => false
    | some oj =>
      j == i || (bif r.getD j false then listed.getD j true || (oi.apart ops oj && compat P chk i j oi.op oj.op) else (!listed.getD j true && oj.after.any fun e => Region.binds .any e && !r.getD e.on false))

def lexOK (chk : List (Nat × List Nat)) (ops : Array Oper) : List Nat → Array Bool → Bool
  | [], listed => listed.all id
  | k :: ks, listed => (Region.ready .any ops listed).contains k && !(reachS ops.toList listed k 0 ops.toList []).getD k false && stepOK P chk ops listed k (reachS ops.toList listed k 0 ops.toList []) && lexOK chk ops ks (listed.setIfInBounds k true)

def drawOK (chk : List (Nat × List Nat)) (ops : Array Oper) (is : List Nat) : Bool := ops.all (fun o => noSel o.op) && Nat.beq is.length ops.size && lexOK P chk ops is (Array.replicate ops.size false)

/-! Regions in which rows are made in any order: those of rs are named by their operations' numbers. -/
def newR (rs : List Nat) (k : Nat) (o : Op) : Bool := hasNat rs k && isNew o
def compatN (rs : List Nat) (chk : List (Nat × List Nat)) (i j : Nat) (a b : Op) : Bool := isPure P a || isPure P b || newR rs j b || ((isRead P a || newR rs i a) && isRead P b) || (isRead P a && isBar P b && !newR rs j b && hasNat (chkOf chk j) i)

def stepOKN (rs : List Nat) (chk : List (Nat × List Nat)) (ops : Array Oper) (listed : Array Bool) (i : Nat) (r : List Bool) : Bool :=
  match ops[i]? with
  | none => false
  | some oi => (List.range ops.size).all fun j => match ops[j]? with
    | none => false
    | some oj =>
      j == i || (bif r.getD j false then listed.getD j true || (oi.apart ops oj && compatN P rs chk i j oi.op oj.op) else (!listed.getD j true && oj.after.any fun e => Region.binds .any e && !r.getD e.on false))

def lexOKN (rs : List Nat) (chk : List (Nat × List Nat)) (ops : Array Oper) : List Nat → Array Bool → Bool
  | [], listed => listed.all id
  | k :: ks, listed => (Region.ready .any ops listed).contains k && !(reachS ops.toList listed k 0 ops.toList []).getD k false && stepOKN P rs chk ops listed k (reachS ops.toList listed k 0 ops.toList []) && lexOKN rs chk ops ks (listed.setIfInBounds k true)

def newsOK (rs : List Nat) (chk : List (Nat × List Nat)) (ops : Array Oper) (is : List Nat) : Bool := ops.all (fun o => noSel o.op) && Nat.beq is.length ops.size && lexOKN P rs chk ops is (Array.replicate ops.size false)

def noSel2 : Op → Bool
  | .select _ _ => false
  | _ => true
def codeOK (ord : Nat → Hint) (rd : Bool) : Code → Bool
  | .region _ ops false => bif rd then ops.all fun o => noSel o.op else ops.all fun o => noSel2 o.op
  | .region id ops true => match ord id with
    | .text => drawOK P [] ops (List.range ops.size)
    | .skip => true
    | .ord is chk => drawOK P chk ops is
    | .news is rs chk => newsOK P rs chk ops is
  | .seq a b => codeOK ord rd a && codeOK ord rd b
  | .cond _ a b => codeOK ord rd a && codeOK ord rd b
  | .block _ c => codeOK ord rd c
  | .loop c => codeOK ord rd c
  | .scope c => codeOK ord rd c
  | .rangeFunc _ _ a c => codeOK ord true a && codeOK ord true c
  | _ => true
end

/-! Calls, regions, code. -/
structure XF (P : Program) where
  f : FuncId
  fn : Func
  ord : Nat → Hint
  isFn : P.funcs[f]? = some fn
  isBody : fn.body.isSome = true
  isPlain : (fn.name == "runtime.NumGoroutine") = false
  isSmall : Nat.ble fn.ntmps 60000 = true
  isOK : codeOK P ord false (fn.body.getD .skip) = true

inductive NK where
  | indexByte
  | compare
  | same
def natSem : NK → Array Value → Sem Value
  | .indexByte => Extern.BytealgIndexByte.indexByte
  | .compare => Extern.BytealgCompare.compare
  | .same => Extern.AbiNoEscape.same
structure XN (P : Program) where
  f : FuncId
  fn : Func
  k : NK
  isFn : P.funcs[f]? = some fn
  isPlain : (fn.name == "runtime.NumGoroutine") = false
  noBody : fn.body.isNone = true
  noNext : Extern.findNext fn = none
  isK : Extern.find fn = some (natSem k)
inductive XE (P : Program) where
  | fn (x : XF P)
  | nat (x : XN P)

def idxL : List UInt8 → UInt8 → Nat → Int
  | [], _, _ => -1
  | b :: l, c, i => bif b == c then Int.ofNat i else idxL l c (i + 1)
def cmpL : List UInt8 → List UInt8 → Int
  | [], [] => 0
  | [], _ :: _ => -1
  | _ :: _, [] => 1
  | a :: l, b :: m => bif a == b then cmpL l m else bif Nat.blt a.toNat b.toNat then -1 else 1
def natE (k : NK) (args : List SV) (X : XW) : Option SV := match k, args with
  | .indexByte, [.str s, .int .u8 c] => some (forceI (idxL s.data.toList c.toNat.toUInt8 0) fun r => .int .i64 r)
  | .indexByte, [.val (.slice none _ _), .int .u8 _] => some (.int .i64 (-1))
  | .indexByte, [.sl k off n _ _, .int .u8 c] => (match X.objs.get k with
    | some o => match loadN o off n with
      | some ys => match bytesOf ys with
        | some ns => some (forceI (idxL (ns.map fun b => b.toNat.toUInt8) c.toNat.toUInt8 0) fun r => .int .i64 r)
        | none => none
      | none => none
    | none => none)
  | .compare, [.str a, .str b] => some (forceI (cmpL a.data.toList b.data.toList) fun r => .int .i64 r)
  | .same, [x] => some x
  | _, _ => none

inductive Cal where
  | fn (f : FuncId)
  | ent (f : FuncId)
  | yld (k : Nat)
abbrev Chain := List (SV × Bool)
inductive Out where
  | ret (y : SV)
  | pan (ch : Chain)
abbrev CallF := Cal → List SV → XW → Option (Out × XW)
def callV (callf : CallF) (c : Cal) (args : List SV) (X : XW) : Option (SV × XW) := match callf c args X with
  | some (.ret y, X) => some (y, X)
  | _ => none

def lenE (P : Program) (t : TypeId) (x : SV) : Option SV := match P.underlying t, x with
  | some .string, .str s => some (forceI s.size fun r => .int .i64 r)
  | some .string, .val (.string s) => some (.val (.int .i64 s.size))
  | some (.slice _), .sl _ _ n _ _ => some (.int .i64 n)
  | some (.slice _), .se _ => some (.int .i64 0)
  | some (.slice _), .val (.slice none n _) => some (forceI n fun r => .int .i64 r)
  | some (.slice _), .val (.slice (some _) n _) => some (.val (.int .i64 n))
  | _, _ => none

def capE (P : Program) (t : TypeId) (x : SV) : Option SV := match P.underlying t, x with
  | some (.slice _), .sl _ _ _ (some c) _ => some (.int .i64 c)
  | some (.slice _), .val (.slice none _ c) => some (forceI c fun r => .int .i64 r)
  | some (.slice _), .val (.slice (some _) _ c) => some (.val (.int .i64 c))
  | _, _ => none

def minE : SV → SV → Option SV
  | .int k a, .int _ b => some (.int k (bif decide (b < a) then b else a))
  | .int k a, .val (.int _ b) => some (.val (.int k (bif decide (b < a) then b else a)))
  | .val (.int k a), .int _ b => some (.val (.int k (bif decide (b < a) then b else a)))
  | .val (.int k a), .val (.int _ b) => some (.val (.int k (bif decide (b < a) then b else a)))
  | _, _ => none
def maxE : SV → SV → Option SV
  | .int k a, .int _ b => some (.int k (bif decide (b > a) then b else a))
  | .int k a, .val (.int _ b) => some (.val (.int k (bif decide (b > a) then b else a)))
  | .val (.int k a), .int _ b => some (.val (.int k (bif decide (b > a) then b else a)))
  | .val (.int k a), .val (.int _ b) => some (.val (.int k (bif decide (b > a) then b else a)))
  | _, _ => none

def appElems (X : XW) (sz : Nat) : SV → Option (Nat × List SV)
  | .sl k off n _ _ => match X.objs.get k with
    | some o => match loadN o off (n * sz) with | some ys => some (n, ys) | none => none
    | none => none
  | .val (.slice none a c) => bif Nat.beq a 0 && Nat.beq c 0 then some (0, []) else none
  | .str s => some (s.size, strCells s)
  | .se _ => some (0, [])
  | _ => none

def appNew (e sz b need : Nat) (cells : List SV) (X : XW) : Option (SV × XW) :=
  bif Nat.ble need 35184372088832 && Nat.ble (need * b) 35184372088832 then some (.sl (newLoose X e sz cells).1 0 need none 0, (newLoose X e sz cells).2) else none

def appIn (k off len : Nat) (cap : Option Nat) (lo need sz : Nat) (o : Ob) (news : List SV) (X : XW) : Option (SV × XW) :=
  bif Nat.ble (off + need * sz) o.n && !o.ro then some (.sl k off need cap lo, { X with objs := X.objs.put k { o with ver := o.ver + 1, ov := storeN o.ov (off + len * sz) news } }) else none

def appOn (k len need sz b : Nat) (o : Ob) (news : List SV) (X : XW) : Option (SV × XW) :=
  bif Nat.ble (len * sz) o.n && (Nat.ble need 35184372088832 && Nat.ble (need * b) 35184372088832) then
    force (need * sz) fun n => some (.sl X.next 0 need none 0, { X with next := X.next + 1, objs := (X.objs.del k).put X.next { o with ver := 0, n, ov := storeN o.ov (len * sz) news } }) else none

def appTo (e sz b k off len : Nat) (cap : Option Nat) (lo n : Nat) (news : List SV) (X : XW) : Option (SV × XW) := match X.objs.get k with
  | none => none
  | some o => force (len + n) fun need => match cap with
    | some c => bif Nat.ble need c then appIn k off len cap lo need sz o news X else (match loadN o off (len * sz) with
      | some olds => appNew e sz b need (olds ++ news) X
      | none => none)
    | none => bif Nat.beq off 0 && (Nat.beq lo 0 && (Nat.beq o.esz sz && (o.loose && (!o.ro && Nat.beq o.ty e)))) then
        (bif Nat.ble (need * sz) o.n then appIn k off len cap lo need sz o news X else appOn k len need sz b o news X) else none

def semAppend (P : Program) (t : TypeId) (s x : SV) (X : XW) : Option (SV × XW) := match P.underlying t with
  | some (.slice e) => match tySize P e, tyZero P e, tyBytes P e with
    | some sz, some z, some b => match appElems X sz x with
      | some (n, news) => bif Nat.ble 1 sz && (Nat.beq news.length (n * sz) && (allOne news && Nat.beq (mkV z).cells.length sz)) then (match s with
          | .val (.slice none a c) => bif Nat.beq a 0 && Nat.beq c 0 then (bif Nat.beq n 0 then some (.val (.slice none 0 0), X) else appNew e sz b n news X) else none
          | .sl k off len cap lo => appTo e sz b k off len cap lo n news X
          | .se k => bif Nat.beq n 0 then some (.se k, X) else none
          | _ => none) else none
      | none => none
    | _, _, _ => none
  | _ => none

def semCopy (P : Program) (t : TypeId) (d x : SV) (X : XW) : Option (SV × XW) := match P.underlying t with
  | some (.slice e) => match tySize P e with
    | some sz => match appElems X sz x with
      | some (n, news) => bif Nat.beq news.length (n * sz) && allOne news then (match d with
          | .val (.slice none a _) => bif Nat.beq a 0 then some (.int .i64 0, X) else none
          | .sl k off len _ _ => match X.objs.get k with
            | some o => force (Nat.min n len) fun m => bif Nat.ble (off + len * sz) o.n && !o.ro then some (.int .i64 m, { X with objs := X.objs.put k { o with ver := o.ver + 1, ov := storeN o.ov off (news.take (m * sz)) } }) else none
            | none => none
          | _ => none) else none
      | none => none
    | none => none
  | _ => none

def noInt : TypeDesc → Bool
  | .slice _ => true
  | .string => true
  | _ => false

def bltE (P : Program) (b : Builtin) (ts : Array TypeId) (vals : List SV) (X : XW) : Option (SV × XW) := match b, vals with
  | .len, [x] => match ts[0]? with | some t => withX X (lenE P t x) | none => none
  | .cap, [x] => match ts[0]? with | some t => withX X (capE P t x) | none => none
  | .min, [x, y] => withX X (minE x y)
  | .max, [x, y] => withX X (maxE x y)
  | .append, [s, x] => match ts[0]?, ts[1]? with
    | some t, some u => match P.underlying u with
      | some d => bif noInt d then semAppend P t s x X else none
      | none => none
    | _, _ => none
  | .copy, [d, x] => match ts[0]? with | some t => semCopy P t d x X | none => none
  | _, _ => none

def calE (P : Program) (c : Call) (vals : List SV) (X : XW) : Option (Cal × List SV) :=
  match c.callee with
  | .value _ => (match vals with
    | .fn (.func f) a b :: args => some (.fn f, a ++ args ++ b)
    | .yld k :: args => some (.yld k, args)
    | _ => none)
  | .invoke _ name => (match vals with
    | x :: args => (match methE P x name X with | some (f, r) => some (.fn f, r :: args) | none => none)
    | _ => none)
  | _ => none

def evCall (P : Program) (callf : CallF) (c : Call) (vals : List SV) (X : XW) : Option (SV × XW) :=
  match c.callee with
  | .builtin b => bltE P b c.argTypes vals X
  | _ => match calE P c vals X with
    | some (f, args) => callV callf f args X
    | none => none

def evOp (P : Program) (callf : CallF) (o : Oper) (F : Tr SV) (X : XW) : Option (SV × XW) :=
  match looks X.ng F o.op.operands.toList with
  | none => none
  | some vals => match o.op with
    | .call c => evCall P callf c vals X
    | op => sem P op vals X

def panE (vals : List SV) (X : XW) : Option (Out × XW) := match vals with
  | [.ifc t x] => some (.pan [(.ifc t x, false)], X)
  | _ => none
def isPanB : Builtin → Bool
  | .panic => true
  | _ => false
def retO : Option (SV × XW) → Option (Out × XW)
  | some (y, X) => some (.ret y, X)
  | none => none
def evOpO (P : Program) (callf : CallF) (o : Oper) (F : Tr SV) (X : XW) : Option (Out × XW) :=
  match looks X.ng F o.op.operands.toList with
  | none => none
  | some vals => match o.op with
    | .call c => (match c.callee with
      | .builtin b => bif isPanB b then panE vals X else retO (bltE P b c.argTypes vals X)
      | _ => match calE P c vals X with
        | some (f, args) => callf f args X
        | none => none)
    | .panic _ => panE vals X
    | op => retO (sem P op vals X)

def put (N : Nat) (F : Tr SV) (d : Option Tmp) (y : SV) : Tr SV := match d with
  | some d => bif Nat.blt d N then F.put d y else F
  | none => F

def wantE (ops : List Oper) (F : Tr SV) (X : XW) : Option (Nat × Bool) → Option (Bool × XW)
  | none => some (true, X)
  | some (j, want) => match ops[j]? with
    | some o => match o.dst with
      | some d => match F.get d with
        | some y => asW X want y
        | none => none
      | none => none
    | none => none

def stepE (P : Program) (callf : CallF) (N : Nat) (ops : List Oper) (o : Oper) (F : Tr SV) (X : XW) : Option (Tr SV × XW) :=
  match wantE ops F X o.guard with
  | some (true, X) => match evOp P callf o F X with
    | some (y, X) => some (put N F o.dst y, X)
    | none => none
  | some (false, X) => some (put N F o.dst (.val undef), X)
  | none => none

def dferE (o : Oper) (F : Tr SV) (X : XW) : Option SD := match o.op with
  | .defer c => (match c.callee, looks X.ng F o.op.operands.toList with
    | .value _, some (.fn (.func f) a b :: args) => some (.call f (a ++ args) b)
    | _, _ => none)
  | _ => none
def isDefer : Op → Bool
  | .defer _ => true
  | _ => false

def stepO (P : Program) (callf : CallF) (N : Nat) (ops : List Oper) (o : Oper) (F : Tr SV) (X : XW) : Option (Option Chain × Tr SV × XW) :=
  match wantE ops F X o.guard with
  | some (true, X) => bif isDefer o.op then (match dferE o F X with
      | some d => some (none, put N F o.dst (.val undef), { X with dfs := d :: X.dfs })
      | none => none) else (match evOpO P callf o F X with
      | some (.ret y, X) => some (none, put N F o.dst y, X)
      | some (.pan ch, X) => some (some ch, F, X)
      | none => none)
  | some (false, X) => some (none, put N F o.dst (.val undef), X)
  | none => none

def evOps (P : Program) (callf : CallF) (N : Nat) (ops : List Oper) : List Oper → Tr SV → XW → Option (Option Chain × Tr SV × XW)
  | [], F, X => some (none, F, X)
  | o :: rest, F, X => match stepO P callf N ops o F X with
    | some (none, F, X) => evOps P callf N ops rest F X
    | r => r

inductive Ex where
  | nm
  | ex (id : Nat)
  | ret
  | gt (l : Nat)
  | pan (ch : Chain)

abbrev R := Option (Ex × Tr SV × XW)

def addrOf (ops : List Oper) (o : Oper) (F : Tr SV) (X : XW) : Option Nat := match wantE ops F X o.guard with
  | some (true, X) => match looks X.ng F o.op.operands.toList with
    | some [.ptr k _] => some k
    | some [.sl k _ _ _ _] => some k
    | _ => none
  | _ => none

def verOf (X : XW) (k : Nat) : Option Nat := match X.objs.get k with | some o => some o.ver | none => none
def sameVer (X X' : XW) (k : Nat) : Bool := bif Nat.blt k X.next then (match verOf X k with
  | some v => (match verOf X' k with | some v' => Nat.beq v v' | none => false)
  | none => false) else false

def findK : List (Nat × Option Nat) → Nat → Option Nat
  | [], _ => none
  | (l, k) :: rest, i => bif Nat.beq l i then k else findK rest i

def chkOK (recs : List (Nat × Option Nat)) (X X' : XW) : List Nat → Bool
  | [] => true
  | l :: ls => (match findK recs l with | some k => sameVer X X' k | none => true) && chkOK recs X X' ls

def evD (P : Program) (callf : CallF) (N : Nat) (ops : List Oper) (chk : List (Nat × List Nat)) : List Nat → List (Nat × Option Nat) → Tr SV → XW → Option (Tr SV × XW)
  | [], _, F, X => some (F, X)
  | k :: ks, recs, F, X => match ops[k]? with
    | none => none
    | some o => match stepE P callf N ops o F X with
      | none => none
      | some (F', X') => bif chkOK recs X X' (chkOf chk k) then evD P callf N ops chk ks (bif isRead P o.op then (k, addrOf ops o F X) :: recs else recs) F' X' else none

def lowV (b : Nat) : SV → Bool
  | .val _ | .int _ _ | .bool _ | .str _ => true
  | .ptr k _ => Nat.blt k b
  | .sl k _ _ _ _ => Nat.blt k b
  | _ => false
def lowL (b : Nat) : List SV → Bool
  | [] => true
  | y :: ys => lowV b y && lowL b ys

def stepN (P : Program) (callf : CallF) (N : Nat) (ops : List Oper) (rs : List Nat) (base k : Nat) (o : Oper) (F : Tr SV) (X : XW) : Option (Tr SV × XW) :=
  bif newR rs k o.op then (match o.guard with
    | some _ => none
    | none => match looks X.ng F o.op.operands.toList with
      | none => none
      | some vals => bif lowL base vals then (force (base + k) fun m => match sem P o.op vals { X with next := m } with
        | some (y, X') => some (put N F o.dst y, { X' with next := X.next })
        | none => none) else none) else stepE P callf N ops o F X

def lowRead (P : Program) (ops : List Oper) (base : Nat) (o : Oper) (F : Tr SV) (X : XW) : Bool :=
  bif isRead P o.op then (match addrOf ops o F X with | some j => Nat.blt j base | none => true) else true

def allDead (X : XW) (base : Nat) : List Nat → Bool
  | [] => true
  | k :: ks => (match X.objs.get (base + k) with | none => true | some _ => false) && allDead X base ks

def evN (P : Program) (callf : CallF) (N : Nat) (ops : List Oper) (rs : List Nat) (chk : List (Nat × List Nat)) (base : Nat) : List Nat → List (Nat × Option Nat) → Tr SV → XW → Option (Tr SV × XW)
  | [], _, F, X => some (F, X)
  | k :: ks, recs, F, X => match ops[k]? with
    | none => none
    | some o => bif lowRead P ops base o F X then (match stepN P callf N ops rs base k o F X with
      | none => none
      | some (F', X') => bif chkOK recs X X' (chkOf chk k) then evN P callf N ops rs chk base ks (bif isRead P o.op then (k, addrOf ops o F X) :: recs else recs) F' X' else none) else none

def loopE (body : Tr SV → XW → R) (fuel : Nat) : Tr SV → XW → R :=
  Nat.rec (motive := fun _ => Tr SV → XW → R) (fun _ _ => none) (fun _ ih F X => match body F X with
    | some (.nm, F, X) => ih F X
    | r => r) fuel

def jumpEx : Jump → Ex
  | .none => .nm
  | .ret => .ret
  | .ex id => .ex id

def mkLoop (ord : Nat → Hint) (me : FuncId) (N : Nat) (F : Tr SV) (ps : Array Tmp) (assign body : Code) (blk : Nat) : Ob :=
  { ver := 0, ty := 0, n := 0, loose := false, esz := 1, ro := true, bf := fun _ => none, ov := .nil, sp := .loop .ready .none ord me N F ps assign body blk }
def mkBlk : Ob := { ver := 0, ty := 0, n := 0, loose := false, esz := 1, ro := true, bf := fun _ => none, ov := .nil, sp := .blk false }

def blkOf (rd : Option Nat) (X : XW) : Option (Nat × XW) := match rd with
  | none => some ((X.new mkBlk).1, { (X.new mkBlk).2 with dfs := .coll (X.new mkBlk).1 :: X.dfs })
  | some k => match X.objs.get k with
    | some o => match o.sp with
      | .loop _ _ _ _ _ _ _ _ _ b => some (b, X)
      | _ => none
    | none => none

def endE (F : Tr SV) (l : Nat) (X : XW) : R := match X.objs.get l with
  | some o => match o.sp with
    | .loop st pend ord me N G ps a c b => (match st with
      | .busy => none
      | _ => some (jumpEx pend, F, { X with objs := X.objs.put l { o with ver := o.ver + 1, sp := .loop .exhausted pend ord me N G ps a c b } }))
    | _ => none
  | none => none

def rangeE (callf : CallF) (ord : Nat → Hint) (me : FuncId) (rd : Option Nat) (N : Nat) (ps : Array Tmp) (a c : Code) (g : SV) (F : Tr SV) (X : XW) : R := match g, blkOf rd X with
  | .fn (.func f) fa fb, some (b, X1) => (match callf (.ent f) (fa ++ [.yld (X1.new (mkLoop ord me N F ps a c b)).1] ++ fb) { (X1.new (mkLoop ord me N F ps a c b)).2 with dfs := [] } with
    | some (.ret _, X2) => endE F (X1.new (mkLoop ord me N F ps a c b)).1 { X2 with dfs := X1.dfs }
    | some (.pan ch, X2) => some (.pan ch, F, { X2 with dfs := X1.dfs })
    | none => none)
  | _, _ => none

abbrev JumpF := Code → Code → Tr SV → XW → R

def evC (P : Program) (callf : CallF) (ord : Nat → Hint) (me : FuncId) (rd : Option Nat) (N fuel : Nat) (jump : JumpF) : Code → Tr SV → XW → R
  | .skip, F, X => some (.nm, F, X)
  | .region _ ops false, F, X => match evOps P callf N ops.toList ops.toList F X with
    | some (none, F, X) => some (.nm, F, X)
    | some (some ch, F, X) => some (.pan ch, F, X)
    | none => none
  | .region id ops true, F, X => match (match ord id with
      | .text => evD P callf N ops.toList [] (List.range ops.size) [] F { X with orc := [] }
      | .skip => none
      | .ord is chk => evD P callf N ops.toList chk is [] F { X with orc := [] }
      | .news is rs chk => force (X.next + ops.size) fun n => bif allDead X X.next rs then evN P callf N ops.toList rs chk X.next is [] F { X with orc := [], next := n } else none) with
    | some (F, X') => some (.nm, F, { X' with orc := X.orc })
    | none => none
  | .seq a b, F, X => match evC P callf ord me rd N fuel jump a F X with
    | some (.nm, F, X) => evC P callf ord me rd N fuel jump b F X
    | r => r
  | .cond c a b, F, X => match look X.ng F c with
    | some y => match asB X y with
      | some (true, X) => evC P callf ord me rd N fuel jump a F X
      | some (false, X) => evC P callf ord me rd N fuel jump b F X
      | none => none
    | none => none
  | .block id c, F, X => match evC P callf ord me rd N fuel jump c F X with
    | some (.ex id', F, X) => bif Nat.beq id' id then some (.nm, F, X) else some (.ex id', F, X)
    | r => r
  | .loop c, F, X => loopE (evC P callf ord me rd N fuel jump c) fuel F X
  | .exit id, F, X => some (.ex id, F, X)
  | .label _, F, X => some (.nm, F, X)
  | .ret, F, X => some (.ret, F, X)
  | .goto l, F, X => some (.gt l, F, X)
  | .scope c, F, X => match evC P callf ord me rd N fuel jump c F X with
    | some (.gt l, F, X) => (match findLabel c l with
      | some rest => jump c rest F X
      | none => some (.gt l, F, X))
    | r => r
  | .rangeFunc g ps a c, F, X => match look X.ng F g with
    | some y => rangeE callf ord me rd N ps a c y F X
    | none => none
  | _, _, _ => none

def jumpE (P : Program) (callf : CallF) (ord : Nat → Hint) (me : FuncId) (rd : Option Nat) (N fuel : Nat) (n : Nat) : JumpF :=
  Nat.rec (motive := fun _ => JumpF) (fun _ _ _ _ => none) (fun _ ih c rest F X => match evC P callf ord me rd N fuel ih rest F X with
    | some (.gt l, F, X) => (match findLabel c l with
      | some rest => ih c rest F X
      | none => some (.gt l, F, X))
    | r => r) n

def resultE (P : Program) (F : Tr SV) (X : XW) : ResultVar → Option SV
  | .tmp t => F.get t
  | .cell a t => match F.get a with
    | some (.ptr k off) => semLoad P t X k off
    | _ => none

def resultsE (P : Program) (F : Tr SV) (X : XW) : List ResultVar → Option (List SV)
  | [] => some []
  | r :: rs => match resultE P F X r with
    | some y => match resultsE P F X rs with | some ys => some (y :: ys) | none => none
    | none => none

def result1 : List SV → SV
  | [y] => y
  | ys => .tup ys

/-! How a function leaves: its deferred calls. -/
inductive Mode where
  | ret
  | pan (ch : Chain)
def settleE : Mode → Mode
  | .pan ((_, true) :: _) => .ret
  | m => m
def raisedE (u : Mode) (ch : Chain) : Mode := match u with
  | .pan old => .pan (ch ++ old)
  | .ret => .pan ch

abbrev DCallF := FuncId → List SV → Mode → XW → Option (Out × Mode × XW)

def leaveE (P : Program) (dcall : DCallF) (fn : Func) (F : Tr SV) : List SD → Mode → XW → Option (Out × XW)
  | [], .ret, X => match resultsE P F X fn.results.toList with | some ys => some (.ret (result1 ys), X) | none => none
  | [], .pan ch, X => some (.pan ch, X)
  | .coll k :: ds, u, X => (match X.objs.get k with
    | some o => match o.sp with
      | .blk false => leaveE P dcall fn F ds u { X with objs := X.objs.put k { o with ver := o.ver + 1, sp := .blk true } }
      | _ => none
    | none => none)
  | .call f xs ys :: ds, u, X => (match dcall f (xs ++ ys) u X with
    | some (.ret _, u, X) => leaveE P dcall fn F ds (settleE u) X
    | some (.pan ch, u, X) => leaveE P dcall fn F ds (raisedE u ch) X
    | none => none)

def finE (P : Program) (dcall : DCallF) (fn : Func) : R → Option (Out × XW)
  | some (.nm, F, X) => leaveE P dcall fn F X.dfs .ret { X with dfs := [] }
  | some (.ret, F, X) => leaveE P dcall fn F X.dfs .ret { X with dfs := [] }
  | some (.pan ch, F, X) => leaveE P dcall fn F X.dfs (.pan ch) { X with dfs := [] }
  | _ => none

def orJ : Option Jump → Jump → Jump
  | some p, _ => p
  | none, q => q
def setSt (o : Ob) (st : LoopState) (p : Option Jump) : Option Ob := match o.sp with
  | .loop _ q ord me N G ps a c b => some { o with ver := o.ver + 1, sp := .loop st (orJ p q) ord me N G ps a c b }
  | _ => none
def isReady : Ob → Bool
  | { sp := .loop .ready _ _ _ _ _ _ _ _ _, .. } => true
  | _ => false
def setLoop (X : XW) (k : Nat) (st : LoopState) (p : Option Jump) : Option XW := match X.objs.get k with
  | some o => match setSt o st p with
    | some o' => some { X with objs := X.objs.put k o' }
    | none => none
  | none => none
def endRound (D : List SD) (X : XW) (k : Nat) (st : LoopState) (p : Jump) (b : Bool) : Option (Out × XW) := match setLoop X k st (some p) with
  | some X => some (.ret (.bool b), { X with dfs := D })
  | none => none
def puts (N : Nat) (F : Tr SV) : List Tmp → List SV → Tr SV
  | p :: ps, x :: xs => puts N (put N F (some p) x) ps xs
  | _, _ => F
def roundE (ev : Code → Tr SV → XW → R) (k N : Nat) (F : Tr SV) (ps : Array Tmp) (a c : Code) (args : List SV) (X : XW) : Option (Out × XW) :=
  bif Nat.beq args.length ps.size then (match ev a (puts N F ps.toList args) { X with dfs := [] } with
    | some (.nm, F1, X1) => (match X1.objs.get k with
      | some o => bif isReady o then (match setLoop X1 k .busy none with
        | some X2 => (match ev c F1 X2 with
          | some (.nm, _, X3) => endRound X.dfs X3 k .ready .none true
          | some (.ret, _, X3) => endRound X.dfs X3 k .done .ret false
          | some (.ex id, _, X3) => endRound X.dfs X3 k .done (.ex id) false
          | _ => none)
        | none => none) else none
      | none => none)
    | _ => none) else none

/-! Functions that are deferred: they may recover. -/
def isRec : Op → Bool
  | .call c => (match c.callee with | .builtin .recover => true | _ => false)
  | _ => false
def recE : Mode → SV × Mode
  | .pan ((v, false) :: old) => (v, .pan ((v, true) :: old))
  | u => (.val .nilIface, u)
def evOpsD (P : Program) (N : Nat) : List Oper → Tr SV → XW → Mode → Option (Tr SV × XW × Mode)
  | [], F, X, u => some (F, X, u)
  | o :: rest, F, X, u => match o.guard with
    | some _ => none
    | none => bif isRec o.op then evOpsD P N rest (put N F o.dst (recE u).1) X (recE u).2 else (match looks X.ng F o.op.operands.toList with
      | some vals => (match sem P o.op vals X with
        | some (y, X') => evOpsD P N rest (put N F o.dst y) X' u
        | none => none)
      | none => none)
def hasRec : List Oper → Bool
  | [] => false
  | o :: os => isRec o.op || hasRec os
abbrev RD := Option (Ex × Tr SV × XW × Mode)
def evCD (P : Program) (N : Nat) (ev : Code → Tr SV → XW → R) : Code → Tr SV → XW → Mode → RD
  | .seq a b, F, X, u => match evCD P N ev a F X u with
    | some (.nm, F, X, u) => evCD P N ev b F X u
    | r => r
  | .cond c a b, F, X, u => match look X.ng F c with
    | some y => match asB X y with
      | some (true, X) => evCD P N ev a F X u
      | some (false, X) => evCD P N ev b F X u
      | none => none
    | none => none
  | .region id ops false, F, X, u => bif hasRec ops.toList then (match evOpsD P N ops.toList F X u with
      | some (F, X, u) => some (.nm, F, X, u)
      | none => none) else (match ev (.region id ops false) F X with
      | some (ex, F, X) => some (ex, F, X, u)
      | none => none)
  | c, F, X, u => match ev c F X with
    | some (ex, F, X) => some (ex, F, X, u)
    | none => none

def noDfs (X : XW) : Bool := match X.dfs with | [] => true | _ => false
def finD (P : Program) (fn : Func) (D : List SD) : RD → Option (Out × Mode × XW)
  | some (.nm, F, X, u) => bif noDfs X then (match resultsE P F X fn.results.toList with | some ys => some (.ret (result1 ys), u, { X with dfs := D }) | none => none) else none
  | some (.ret, F, X, u) => bif noDfs X then (match resultsE P F X fn.results.toList with | some ys => some (.ret (result1 ys), u, { X with dfs := D }) | none => none) else none
  | some (.pan ch, _, X, u) => bif noDfs X then some (.pan ch, u, { X with dfs := D }) else none
  | _ => none

structure Evs where
  call : CallF
  dcall : DCallF

def withD (D : List SD) : Option (Out × XW) → Option (Out × XW)
  | some (y, X) => some (y, { X with dfs := D })
  | none => none

def bodyE {P : Program} (xf : XF P) (callf : CallF) (lf : Nat) : Code → Tr SV → XW → R :=
  evC P callf xf.ord xf.f none xf.fn.ntmps lf (jumpE P callf xf.ord xf.f none xf.fn.ntmps lf lf)

def goE {P : Program} (ih : Evs) (xf : XF P) (lf : Nat) (f : FuncId) (args : List SV) (X : XW) : Option (Out × XW) :=
  bif Nat.beq xf.f f && Nat.ble args.length xf.fn.ntmps then withD X.dfs (finE P ih.dcall xf.fn (bodyE xf ih.call lf (xf.fn.body.getD .skip) (storeN .nil 0 args) { X with dfs := [] })) else none

def evF (P : Program) (tab : Tr (XE P)) (lf : Nat) (fuel : Nat) : Evs :=
  Nat.rec (motive := fun _ => Evs) { call := fun _ _ _ => none, dcall := fun _ _ _ _ => none } (fun _ ih => {
    call := fun c args X => match c with
      | .fn f => (match tab.get f with
        | some (.fn xf) => goE ih xf lf f args X
        | some (.nat xn) => bif Nat.beq xn.f f then (match natE xn.k args X with | some y => some (.ret y, X) | none => none) else none
        | none => none)
      | .ent f => (match tab.get f with
        | some (.fn xf) => goE ih xf lf f args X
        | _ => none)
      | .yld k => (match X.objs.get k with
        | some o => match o.sp with
          | .loop _ _ ord me N F ps a c _ => roundE (evC P ih.call ord me (some k) N lf (jumpE P ih.call ord me (some k) N lf lf)) k N F ps a c args X
          | _ => none
        | none => none)
    dcall := fun f args u X => match tab.get f with
      | some (.fn xf) => bif Nat.beq xf.f f && Nat.ble args.length xf.fn.ntmps then finD P xf.fn X.dfs (evCD P xf.fn.ntmps (bodyE xf ih.call lf) (xf.fn.body.getD .skip) (storeN .nil 0 args) { X with dfs := [] } u) else none
      | _ => none }) fuel

def tabOf {P : Program} : List (FuncId × XE P) → Tr (XE P)
  | [] => .nil
  | (f, x) :: xs => (tabOf xs).put f x

def saysTrue : Option (Out × XW) → Bool
  | some (.ret (.bool true), { pc := [], .. }) => true
  | _ => false

end Go.Xe
