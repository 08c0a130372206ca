import Derived.Orders
import Derived.Tactics
import Derived.Below
import Derived.Laws.Sem
import Derived.Laws.World
import Derived.Laws.Entries
import Derived.Laws.Cells
import Derived.Laws.Small
import Derived.Laws.Tables
import Derived.Laws.MakeOwn
import Derived.Laws.AppendOwn
import Derived.Laws.Slices
import Derived.Laws.Pointers
import Derived.Laws.Build
import Derived.Laws.Bits
import Derived.OrdersIn
import Derived.LoopNIn
import Derived.RangeFuncIn
import Derived.TacticsIn
import Derived.DefersIn
import Derived.RowKit3
import Derived.Laws.StructEq
import Derived.ChangeKeysEq
import Derived.Laws.BytesString
import Derived.Lib.ConvBytes
import Derived.Lib.BytesEntry
import Derived.Laws.Externs
set_option linter.unusedSimpArgs false
set_option linter.unusedVariables false
namespace Go.Xe
inductive ax (α:Type) where
 |nil
 |node (v:Option α) (l r:ax α)
def ax.get{α:Type}:ax α->Nat->Option α
 | .nil,_=>none
 | .node v l r,i=>bif Nat.beq i 0 then v else bif Nat.beq (i%2) 1 then l.get (i/2) else r.get (i/2-1)
def ax.set{α:Type}:Nat->ax α->Nat->α->ax α
 |0,_,_,_=> .nil
 |f+1,.nil,i,x=>bif Nat.beq i 0 then .node (some x) .nil .nil else bif Nat.beq (i%2) 1 then .node none (ax.set f .nil (i/2) x) .nil else .node none .nil (ax.set f .nil (i/2-1) x)
 |f+1,.node v l r,i,x=>bif Nat.beq i 0 then .node (some x) l r else bif Nat.beq (i%2) 1 then .node v (ax.set f l (i/2) x) r else .node v l (ax.set f r (i/2-1) x)
def ax.put{α:Type}(t:ax α)(i:Nat)(x:α):ax α:=t.set (i+1) i x
inductive J where
 |val (x:Value)
 |int (k:IntKind) (n:Int)
 |bool (b:Bool)
 |str (s:ByteArray)
 |ptr (jI off:Nat)
 |aZ (jI off len:Nat) (cap:Option Nat) (lo:Nat)
 |fn (fn:Fn) (first captured:List J)
 |pK (t:TypeId) (x:J)
 |agg (cells:List J)
 |bm (vs:List J)
 |fw (k:Nat)
 |mp (k:Nat)
 |kR (k:Nat)
inductive Hint where
 |text
 |skip
 |ord (is:List Nat) (bU:List (Nat×List Nat))
 |news (is rs:List Nat) (bU:List (Nat×List Nat))
inductive Jump where
 |none
 |ret
 |ex (id:Nat)
inductive pg where
 |cells
 |iter (s:ByteArray) (pos:Nat)
 |map (es:List (J×J×Nat)) (clock:Nat)
 |loop (st:LoopState) (ir:Jump) (ord:Nat->Hint) (me:FuncId) (N:Nat) (F:ax J) (ps:Array Tmp) (assign body:Code) (jI:Nat)
 |jI (taken:Bool)
structure bH where
 cn:Nat
 ty:TypeId
 n:Nat
 loose:Bool
 esz:Nat
 ro:Bool
 mz:Nat->Option J
 fy:ax J
 sp:pg
inductive eO where
 |call (f:FuncId) (xs ys:List J)
 |sU (k:Nat)
structure cE where
 iS:ax (Option bH)
 base:Nat->Option bH
def cE.get(H:cE)(k:Nat):Option bH:=match H.iS.get k with|some r=>r|none=>H.base k
def cE.put(H:cE)(k:Nat)(o:bH):cE:={H with iS:=H.iS.put k (some o)}
def cE.del(H:cE)(k:Nat):cE:={H with iS:=H.iS.put k none}
structure ah where
 aK:Nat
 next:Nat
 aV:cE
 cK:List Bool
 pc:List Prop
 bs:List eO
def depth:Nat:=24
def bH.get(o:bH)(i:Nat):Option J:=
 bif Nat.blt i o.n then(match o.fy.get i with|some y=>some y|none=>o.mz i) else none
def force{α:Type}(n:Nat)(k:Nat->α):α:=Nat.rec (motive:=λ_=>α) (k 0) (λm _=>k (m+1)) n
def jX{α:Type}(n:Int)(k:Int->α):α:=match n with
 | .ofNat m=>force m λm=>k (.ofNat m)
 | .negSucc m=>force m λm=>k (.negSucc m)
def Jk:Value->J
 | .int k n=> .int k n
 | .bool b=> .bool b
 | .string s=> .str s
 |x=> .val x
def db:Value->J
 | .int k n=> .int k n
 | .bool b=> .bool b
 | .string s=> .str s
 | .agg cs=> .agg (cs.toList.map Jk)
 |x=> .val x
def look(aK:Nat)(F:ax J):Operand->Option J
 | .tmp t=>F.get t
 | .const v=>some (db v)
 | .global g=>bif Nat.blt g aK then some (.ptr g 0) else none
 | .func f=>some (.fn (.func f) [] [])
def looks(aK:Nat)(F:ax J):List Operand->Option (List J)
 | []=>some []
 |x::xs=>match look aK F x with
  |some y=>match looks aK F xs with|some ys=>some (y::ys)|none=>none
  |none=>none
def J.cells:J->List J
 | .agg cs=>cs
 |x=>[x]
def J.one:J->Bool
 | .agg _| .bm _=>false
 | .val (.agg _)| .val (.tuple _)=>false
 | .val (.int _ _)| .val (.bool _)| .val (.string _)| .val (.pointer _)| .val (.slice _ _ _)| .val (.map _)| .val .nilIface| .val .nilFunc| .val (.iface _ _)=>true
 | .val _=>false
 |_=>true
def J.flat:J->Bool
 | .val (.agg _)=>false
 |_=>true
def dZ:List J->Bool
 | []=>true
 |y::ys=>y.one&&dZ ys
def j4(o:bH)(off:Nat):Nat->Option (List J)
 |0=>some []
 |n+1=>match o.get off with
  |some y=>match j4 o (off+1) n with|some ys=>some (y::ys)|none=>none
  |none=>none
def ha(t:ax J)(off:Nat):List J->ax J
 | []=>t
 |y::ys=>force off λoff=>ha (t.put off y) (off+1) ys
def p6(l:List J):ax J:=ha .nil 0 l
section
variable(P:Program)
def dP(t:TypeId):Option Nat:=match P.info? t with|some i=>some i.size|none=>none
def n8(t:TypeId):Option Nat:=match P.info? t with|some i=>some i.bytes|none=>none
def hb(t:TypeId):Option Value:=match P.info? t with|some i=>i.zero|none=>none
def oZ(t:TypeId):Option Bool:=match P.underlying t with|some (.struct _)=>some true|some (.array _ _)=>some true|some _=>some false|none=>none
end
def ah.ask(X:ah)(s:Bool):Option (Bool×ah):=match X.cK with
 |o::os=>some (o,{X with cK:=os,pc:=(s=o)::X.pc})
 | []=>none
def fZ(X:ah):J->Option (Bool×ah)
 | .bool b=>some (b,X)
 | .val (.bool s)=>X.ask s
 |_=>none
def tv:J->Bool
 | .val (.tuple _)=>true
 |_=>false
def lB(X:ah)(want:Bool)(y:J):Option (Bool×ah):=bif tv y then some (false,X) else match fZ X y with
 |some (b,X)=>some (b==want,X)
 |none=>none
def ah.new(X:ah)(o:bH):Nat×ah:=(X.next,{X with next:=X.next+1,aV:=X.aV.put X.next o})
def newRow(X:ah)(ty:TypeId)(cells:List J):Nat×ah:=
 force cells.length λn=>X.new {cn:=0,ty,n,loose:=false,esz:=1,ro:=false,mz:=λ_=>none,fy:=p6 cells,sp:= .cells}
def mQ(X:ah)(ty:TypeId)(n:Nat)(zero:List J):Nat×ah:=
 force n λn=>X.new {cn:=0,ty,n,loose:=false,esz:=1,ro:=false,mz:=λi=>(p6 zero).get (i%zero.length),fy:= .nil,sp:= .cells}
def Fu(cells:List J)(off:Nat)(new:List J):List J:=cells.take off++new++cells.drop (off+new.length)
def pB(place:Nat->Option (Nat×Nat)):List J->List (Nat×J)->Option (List J)
 |cells,[]=>some cells
 |cells,(i,v)::rest=>match place i with
  |none=>none
  |some (off,size)=>bif v.flat&&Nat.beq v.cells.length size&&Nat.ble (off+size) cells.length then pB place (Fu cells off v.cells) rest else none
def hX:J->Option Nat
 | .int _ (.ofNat n)=>some n
 |_=>none
def si(zero:List J):Nat->List J
 |0=>[]
 |n+1=>zero++si zero n
def arith(op:BinOp)(k:IntKind)(x y:Int):Option J:=
 match op with
 | .add=>some (jX (k.wrap (x+y)) λr=> .int k r)
 | .sub=>some (jX (k.wrap (x-y)) λr=> .int k r)
 | .mul=>some (jX (k.wrap (x*y)) λr=> .int k r)
 | .quo=>bif y==0 then none else some (jX (k.wrap (x.tdiv y)) λr=> .int k r)
 | .rem=>bif y==0 then none else some (jX (x.tmod y) λr=> .int k r)
 | .and=>some (jX (k.wrap ((BitVec.ofInt k.bits x&&& BitVec.ofInt k.bits y).toNat:Int)) λr=> .int k r)
 | .or=>some (jX (k.wrap ((BitVec.ofInt k.bits x|||BitVec.ofInt k.bits y).toNat:Int)) λr=> .int k r)
 | .xor=>some (jX (k.wrap ((BitVec.ofInt k.bits x ^^^ BitVec.ofInt k.bits y).toNat:Int)) λr=> .int k r)
 | .andNot=>some (jX (k.wrap ((BitVec.ofInt k.bits x&&& ~~~BitVec.ofInt k.bits y).toNat:Int)) λr=> .int k r)
 | .eql=>some (.bool (x==y))
 | .neq=>some (.bool (x != y))
 | .lss=>some (.bool (decide (x<y)))
 | .leq=>some (.bool (decide (x<=y)))
 | .gtr=>some (.bool (decide (x>y)))
 | .geq=>some (.bool (decide (x>=y)))
 |_=>none
def Cp(op:BinOp)(k:IntKind)(x y:Int):Option J:=
 match op with
 | .add=>some (.val (.int k (k.wrap (x+y))))
 | .sub=>some (.val (.int k (k.wrap (x-y))))
 | .mul=>some (.val (.int k (k.wrap (x*y))))
 | .eql=>some (.val (.bool (x==y)))
 | .neq=>some (.val (.bool (x != y)))
 | .lss=>some (.val (.bool (decide (x<y))))
 | .leq=>some (.val (.bool (decide (x<=y))))
 | .gtr=>some (.val (.bool (decide (x>y))))
 | .geq=>some (.val (.bool (decide (x>=y))))
 |_=>none
def wU(op:BinOp)(k:IntKind)(x:Int)(y:Int):Option J:=
 bif decide (y<0) then none else
  match op with
  | .shl=>some (jX (k.wrap (x*2 ^ (min y.toNat k.bits))) λr=> .int k r)
  | .shr=>some (jX (x.fdiv (2 ^ (min y.toNat k.bits))) λr=> .int k r)
  |_=>none
def WV(op:BinOp)(x y:ByteArray):Option J:=
 match op with
 | .add=>bif decide (((x.size+y.size:Nat):Int)>IntKind.i64.max) then none else some (.str (x++y))
 | .eql=>some (.bool (x.toList==y.toList))
 | .neq=>some (.bool (!(x.toList==y.toList)))
 |_=>none
def Fy(op:BinOp)(x y:ByteArray):Option J:=
 match op with
 | .eql=>some (.val (.bool (x.toList==y.toList)))
 | .neq=>some (.val (.bool (!(x.toList==y.toList))))
 |_=>none
def uy(P:Program)(t:TypeId)(x y:J):Option Bool:=match P.underlying t,x,y with
 |some .bool,.bool a,.bool b=>some (a==b)
 |some (.pointer _),.val (.pointer none),.val (.pointer none)=>some true
 |some (.pointer _),.val (.pointer none),.ptr _ _=>some false
 |some (.pointer _),.ptr _ _,.val (.pointer none)=>some false
 |some (.slice _),.val (.slice none _ _),.val (.slice none _ _)=>some true
 |some (.slice _),.aZ _ _ _ _ _,.val (.slice none _ _)=>some false
 |some (.slice _),.val (.slice none _ _),.aZ _ _ _ _ _=>some false
 |some (.slice _),.kR _,.val (.slice none _ _)=>some false
 |some (.slice _),.val (.slice none _ _),.kR _=>some false
 |some (.func _ _ _),.val .nilFunc,.val .nilFunc=>some true
 |some (.func _ _ _),.fn _ _ _,.val .nilFunc=>some false
 |some (.func _ _ _),.val .nilFunc,.fn _ _ _=>some false
 |some (.map _ _),.val (.map none),.val (.map none)=>some true
 |some (.map _ _),.mp _,.val (.map none)=>some false
 |some (.map _ _),.val (.map none),.mp _=>some false
 |some (.interface _),.val .nilIface,.pK _ _=>some false
 |some (.interface _),.pK _ _,.val .nilIface=>some false
 |_,_,_=>none
def pT(P:Program)(t:TypeId)(cs:List J)(off:Nat):Option J:=
 match oZ P t,dP P t with
 |some true,some n=>bif Nat.ble (off+n) cs.length then some (.agg ((cs.drop off).take n)) else none
 |some false,some _=>cs[off]?
 |_,_=>none
def Ah(P:Program)(r:TypeId->J->J->Option Bool)(xs ys:List J):List Field->Option Bool
 | []=>some true
 |f::fO=>bif f.name=="_" then Ah P r xs ys fO else(match pT P f.type xs f.offset,pT P f.type ys f.offset with
  |some a,some b=>(match r f.type a b,Ah P r xs ys fO with
   |some p,some q=>some (p&&q)
   |_,_=>none)
  |_,_=>none)
def vN(P:Program)(r:TypeId->J->J->Option Bool)(e sz:Nat)(xs ys:List J):List Nat->Option Bool
 | []=>some true
 |i::is=>(match pT P e xs (i*sz),pT P e ys (i*sz) with
  |some a,some b=>(match r e a b,vN P r e sz xs ys is with
   |some p,some q=>some (p&&q)
   |_,_=>none)
  |_,_=>none)
def px(P:Program):Nat->TypeId->J->J->Option Bool
 |0,_,_,_=>none
 |d+1,t,x,y=>match P.underlying t,x,y with
  |some (.int _),.int k a,.int b5 b=>bif k==b5 then some (a==b) else none
  |some .string,.str a,.str b=>some (a.toList==b.toList)
  |some (.struct fO),.agg xs,.agg ys=>bif P.stoodInHeld t then none else Ah P (px P d) xs ys fO.toList
  |some (.array n e),.agg xs,.agg ys=>(match dP P e with|some sz=>vN P (px P d) e sz xs ys (List.range n)|none=>none)
  |_,_,_=>uy P t x y
def uz(P:Program)(t:TypeId)(x y:J):Option Bool:=match x,y with
 | .agg xs,.agg ys=>bif P.eqGuardType P.depth t then none else px P 16 t (.agg xs) (.agg ys)
 | .val .nilIface,.val .nilIface=>(match P.underlying t with
   |some (.interface ms)=>bif ms.isEmpty then some true else none
   |_=>none)
 |x,y=>uy P t x y
def sY(P:Program)(op:BinOp)(t:TypeId)(x y:J):Option J:=
 match op with
 | .eql=>match uz P t x y with|some b=>some (.bool b)|none=>none
 | .neq=>match uz P t x y with|some b=>some (.bool (!b))|none=>none
 |_=>none
def AX(op:BinOp)(k:IntKind)(a:Int)(b5:IntKind)(b:Int):Option J:=
 match op with
 | .shl=>wU .shl k a b
 | .shr=>wU .shr k a b
 |op=>bif k==b5 then arith op k a b else none
def vG(P:Program)(op:BinOp)(t:TypeId)(x y:J):Option J:=
 match x,y with
 | .int k a,.int b5 b=>AX op k a b5 b
 | .int k a,.val (.int b5 b)=>bif k==b5 then Cp op k a b else none
 | .val (.int k a),.int b5 b=>bif k==b5 then Cp op k a b else none
 | .val (.int k a),.val (.int b5 b)=>bif k==b5 then Cp op k a b else none
 | .str a,.str b=>WV op a b
 | .str a,.val (.string b)=>Fy op a b
 | .val (.string a),.str b=>Fy op a b
 | .val (.string a),.val (.string b)=>Fy op a b
 |x,y=>sY P op t x y
def h4(op:UnOp)(x:J):Option J:=
 match op,x with
 | .neg,.int k n=>arith .sub k 0 n
 | .xor,.int k n=>arith .xor k (if k.signed then -1 else k.max) n
 | .not,.bool b=>some (.bool (!b))
 | .not,.val (.bool b)=>some (.val (.bool (!b)))
 |_,_=>none
def xS(P:Program)(s:TypeId)(f:Nat):Option Field:=match P.underlying s with
 |some (.struct fO)=>fO[f]?
 |_=>none
def sliceB(len cap:Nat)(lo hi:Option J):Option (Nat×Nat):=
 match (match hi with|none=>some len|some y=>hX y),(match lo with|none=>some 0|some y=>hX y) with
 |some h,some l=>bif Nat.ble h cap&&Nat.ble l h then some (l,h) else none
 |_,_=>none
def tT(X:ah)(c a b:J):Option (J×ah):=match fZ X c with
 |some (true,X)=>some (a,X)
 |some (false,X)=>some (b,X)
 |none=>none
def pX(P:Program)(e:TypeId)(X:ah):Option (J×ah):=match hb P e with
 |some z=>some (.ptr (newRow X e (db z).cells).1 0,(newRow X e (db z).cells).2)
 |none=>none
def pZ(e:TypeId)(x:J)(X:ah):Option (J×ah):=bif x.flat then some (.ptr (newRow X e x.cells).1 0,(newRow X e x.cells).2) else none
def arM(P:Program)(fO:List Field):Option (List (Nat×Nat)):=fO.mapM λf=>(P.info? f.type).map λi=>(f.offset,i.size)
def hZ(P:Program)(t:TypeId)(gi:List Nat)(vs:List J):Option J:=match hb P t with
 |none=>none
 |some z=>match P.underlying t with
  |some (.struct fO)=>match arM P fO.toList with
   |some pl=>match pB (λi=>pl[i]?) (db z).cells (gi.zip vs) with
    |some cs=>some (.agg cs)
    |none=>none
   |none=>none
  |some (.array _ e)=>match dP P e with
   |some s=>match pB (λi=>some (i*s,s)) (db z).cells (gi.zip vs) with
    |some cs=>some (.agg cs)
    |none=>none
   |none=>none
  |_=>none
def oV(P:Program)(t:TypeId)(len:Nat)(gi:List Nat)(vs:List J)(X:ah):Option (J×ah):=match P.underlying t with
 |some (.slice e)=>match dP P e,hb P e with
  |some s,some z=>bif Nat.ble (len*s) 65536&&Nat.ble 1 s&&Nat.beq (db z).cells.length s then match pB (λi=>some (i*s,s)) (si (db z).cells len) (gi.zip vs) with
    |some cs=>some (.aZ (newRow X e cs).1 0 len (some len) 0,(newRow X e cs).2)
    |none=>none
   else none
  |_,_=>none
 |_=>none
def lV(P:Program)(t:TypeId)(X:ah)(k off:Nat):Option J:=match X.aV.get k,oZ P t,dP P t with
 |some o,some true,some n=>match j4 o off n with|some ys=>some (.agg ys)|none=>none
 |some o,some false,some _=>o.get off
 |_,_,_=>none
def n7(P:Program)(t:TypeId)(X:ah)(k off:Nat)(y:J):Option ah:=match X.aV.get k,dP P t with
 |some o,some n=>bif Nat.beq y.cells.length n&&Nat.ble (off+n) o.n&&!o.ro&&dZ y.cells
  then some {X with aV:=X.aV.put k {o with cn:=o.cn+1,fy:=ha o.fy off y.cells}} else none
 |_,_=>none
def ew:J->Option J
 | .ptr k off=>some (.ptr k off)
 | .fn (.func f) a b=>some (.fn (.func f) a b)
 |_=>none
def n6(P:Program)(s d:TypeId)(x:J):Option J:=match P.underlying s with
 |none=>none
 |some _=>match P.underlying d,x with
  |some (.int k),.int _ n=>some (jX (k.wrap n) λr=> .int k r)
  |some (.int k),.val (.int _ n)=>some (.val (.int k (k.wrap n)))
  |some .string,.str s=>some (.str s)
  |some .string,.val (.string s)=>some (.val (.string s))
  |_,_=>none
def Fm(P:Program)(t:TypeId)(x:J):Option J:=match P.underlying t with
 |some (.interface _)=>none
 |some _=>some (.pK t x)
 |none=>none
def p0(P:Program)(t:TypeId)(l c:J)(X:ah):Option (J×ah):=match P.underlying t with
 |some (.slice e)=>match hX l,hX c with
  |some l,some c=>match dP P e,hb P e,n8 P e with
   |some s,some z,some b=>bif Nat.ble l c&&Nat.ble (c*b) 140737488355328&&Nat.ble c 140737488355328&&Nat.beq (db z).cells.length s&&Nat.ble 1 s then
     some (.aZ (mQ X e (c*s) (db z).cells).1 0 l (some c) 0,(mQ X e (c*s) (db z).cells).2)
    else none
   |_,_,_=>none
  |_,_=>none
 |_=>none
def q7(P:Program)(s:TypeId)(f k off:Nat):Option J:=match xS P s f with
 |some fd=>match dP P fd.type with
  |some (_+1)=>some (force (off+fd.offset) λo=> .ptr k o)
  |_=>none
 |none=>none
def zo(P:Program)(s:TypeId)(f:Nat)(cs:List J):Option J:=match xS P s f with
 |some fd=>pT P fd.type cs fd.offset
 |none=>none
def mT(P:Program)(t:TypeId)(x gi:J):Option J:=match hX gi with
 |none=>none
 |some i=>match P.underlying t,x with
  |some (.array n e),.ptr k off=>match dP P e with
   |some s=>bif Nat.blt i n then some (force (off+i*s) λo=> .ptr k o) else none
   |none=>none
  |some (.slice e),.aZ k off len _ _=>match dP P e with
   |some s=>bif Nat.blt i len then some (force (off+i*s) λo=> .ptr k o) else none
   |none=>none
  |_,_=>none
def zp(P:Program)(t:TypeId)(x gi:J):Option J:=match hX gi with
 |none=>none
 |some i=>match P.underlying t,x with
  |some (.array n e),.agg cs=>match dP P e with
   |some s=>bif Nat.blt i n then pT P e cs (i*s) else none
   |none=>none
  |some .string,.str s=>match s[i]? with
   |some b=>some (.int .u8 b.toNat)
   |none=>none
  |_,_=>none
def p3(k off len:Nat)(cap:Option Nat)(lo s l h:Nat):Option J:=match cap with
 |some cap=>force (h-l) λn=>force (cap-l) λm=>bif Nat.beq m 0 then some (.aZ k off n (some m) 0) else force (off+l*s) λo=>some (.aZ k o n (some m) 0)
 |none=>bif Nat.ble h len then(bif Nat.blt l len then force (h-l) λn=>force (lo+l) λlo=>force (off+l*s) λo=>some (.aZ k o n none lo) else(bif Nat.beq l 0 then force h λn=>some (.aZ k off n none lo) else some (.kR k))) else none
def fX(P:Program)(t:TypeId)(x:J)(lo hi:Option J):Option J:=match P.underlying t,x with
 |some (.slice e),.aZ k off len cap iP=>match dP P e,sliceB len (match cap with|some c=>c|none=>len) lo hi with
  |some s,some (l,h)=>p3 k off len cap iP s l h
  |_,_=>none
 |some (.slice e),.kR k=>match dP P e,sliceB 0 0 lo hi with
  |some _,some _=>some (.kR k)
  |_,_=>none
 |some (.slice e),.val (.slice none a c)=>match dP P e,(bif Nat.beq a 0&&Nat.beq c 0 then sliceB 0 0 lo hi else none) with
  |some _,some _=>some (.val (.slice none 0 0))
  |_,_=>none
 |some (.array n e),.ptr k off=>match dP P e,sliceB n n lo hi with
  |some s,some (l,h)=>p3 k off n (some n) 0 s l h
  |_,_=>none
 |some .string,.str s=>match sliceB s.size s.size lo hi with
  |some (l,h)=>some (.str (s.extract l h))
  |none=>none
 |_,_=>none
def wX(s:ByteArray):List J:=s.data.toList.map λb=>jX b.toNat λr=> .int .u8 r
def bytesOf:List J->Option (List Int)
 | []=>some []
 | .int .u8 n::ys=>match bytesOf ys with|some lh=>some (n::lh)|none=>none
 |_=>none
def mP(X:ah)(ty esz:Nat)(cells:List J):Nat×ah:=
 force cells.length λn=>X.new {cn:=0,ty,n,loose:=true,esz,ro:=false,mz:=λ_=>none,fy:=p6 cells,sp:= .cells}
def hN(P:Program)(e:TypeId):Bool:=match P.underlying e with|some (.int .u8)=>true|_=>false
def GW(lh:List Int):ByteArray:=lh.foldl (λr n=>r.push (UInt8.ofNat n.toNat)) ByteArray.empty
def jJ(P:Program)(s d:TypeId)(x:J)(X:ah):Option (J×ah):=match P.underlying s,P.underlying d,x with
 |some .string,some (.slice e),.str b=>bif hN P e&&Nat.ble b.size 140737488355328 then some (.aZ (mP X e 1 (wX b)).1 0 b.size none 0,(mP X e 1 (wX b)).2) else none
 |some (.slice _),some (.slice e),.aZ k off n cap lo=>bif hN P e&&Nat.beq s d then(match X.aV.get k with
  |some o=>bif o.ro then none else some (.aZ k off n cap lo,X)
  |none=>none) else none
 |some (.slice e),some .string,.val (.slice none _ _)=>bif hN P e then some (.str .empty,X) else none
 |some (.slice e),some .string,.kR _=>bif hN P e then some (.str .empty,X) else none
 |some (.slice e),some .string,.aZ k off n _ _=>bif hN P e then(match X.aV.get k with
  |some o=>match j4 o off n with
   |some ys=>match bytesOf ys with
    |some lh=>some (.str (GW lh),X)
    |none=>none
   |none=>none
  |none=>none) else none
 |_,_,_=>none
def zr(_P:Program)(_t:TypeId)(_x:J)(_X:ah):Option (J×ah):=none
def wS(_k:Nat)(_X:ah):Option (J×ah):=none
def WD(_P:Program)(_t:TypeId)(_k _off _len:Nat):Option J:=none
def tE(X:ah):Nat×ah:=X.new {cn:=0,ty:=0,n:=0,loose:=false,esz:=1,ro:=true,mz:=λ_=>none,fy:= .nil,sp:= .map [] 0}
def zq(_P:Program)(_t:TypeId)(_m _k:J)(_ok:Bool)(_X:ah):Option J:=none
def wT(_P:Program)(_t:TypeId)(_m _k _v:J)(_X:ah):Option ah:=none
def zn(_P:Program)(_t:TypeId)(_m _k:J)(_X:ah):Option (J×ah):=none
def wR(_m _st _v:J)(_X:ah):Option ah:=none
def WE(_P:Program)(_x:J)(_a:TypeId)(_ok:Bool):Option J:=none
def Ji(_P:Program)(_x:J)(_name:String)(_X:ah):Option (FuncId×J):=none
def dx(X:ah):Option J->Option (J×ah)
 |some y=>some (y,X)
 |none=>none
def dO(P:Program)(op:Op)(bA:List J)(X:ah):Option (J×ah):=
 match op,bA with
 | .move _,[x]=>some (x,X)
 | .assign _,[x]=>some (x,X)
 | .pick _ _ _,[c,a,b]=>tT X c a b
 | .alloc e,[]=>pX P e X
 | .box e _,[x]=>pZ e x X
 | .build t ps,vs=>dx X (hZ P t (ps.toList.map (·.1)) vs)
 | .buildSlice t len ps,vs=>oV P t len (ps.toList.map (·.1)) vs X
 | .load t _,[.ptr k off]=>dx X (lV P t X k off)
 | .store t _ _,[.ptr k off,y]=>match n7 P t X k off y with|some X=>some (.val undef,X)|none=>none
 | .nilCheck _,[x]=>dx X (ew x)
 | .binOp op t _ _ _,[x,y]=>dx X (vG P op t x y)
 | .unOp op _ _,[x]=>dx X (h4 op x)
 | .convert s d _,[x]=>match n6 P s d x with|some y=>some (y,X)|none=>jJ P s d x X
 | .makeInterface t _,[x]=>dx X (Fm P t x)
 | .makeFunc fn a _,vs=>some (.fn fn (vs.take a.size) (vs.drop a.size),X)
 | .makeSlice t _ _,[l,c]=>p0 P t l c X
 | .fieldAddr s _ f,[.ptr k off]=>dx X (q7 P s f k off)
 | .field s _ f,[.agg cs]=>dx X (zo P s f cs)
 | .indexAddr t _ _,[x,gi]=>dx X (mT P t x gi)
 | .index t _ _,[x,gi]=>dx X (zp P t x gi)
 | .extract _ i,[.bm vs]=>dx X vs[i]?
 | .range t _,[x]=>zr P t x X
 | .next _ true,[.ptr k 0]=>wS k X
 | .sliceToArrayPointer t _,[.aZ k off len _ _]=>dx X (WD P t k off len)
 | .makeMap _ none,[]=>some (.mp (tE X).1,(tE X).2)
 | .lookup t _ _ ok,[m,k]=>dx X (zq P t m k ok X)
 | .mapUpdate t _ _ _,[m,k,v]=>match wT P t m k v X with|some X=>some (.val undef,X)|none=>none
 | .mapEntry t _ _,[m,k]=>zn P t m k X
 | .entryStore _ _ _ _,[m,b,v]=>match wR m b v X with|some X=>some (.val undef,X)|none=>none
 | .typeAssert _ _ a ok,[x]=>dx X (WE P x a ok)
 | .slice t _ none none none,[x]=>dx X (fX P t x none none)
 | .slice t _ (some _) none none,[x,l]=>dx X (fX P t x (some l) none)
 | .slice t _ none (some _) none,[x,h]=>dx X (fX P t x none (some h))
 | .slice t _ (some _) (some _) none,[x,l,h]=>dx X (fX P t x (some l) (some h))
 |_,_=>none
def Fg(P:Program)(s d:TypeId):Bool:=match P.underlying s,P.underlying d with
 |some (.slice _),_=>true
 |_,some (.slice _)=>true
 |_,_=>false
def Fx(P:Program)(s d:TypeId):Bool:=match P.underlying s,P.underlying d with
 |some (.slice _),some .string=>true
 |_,_=>false
def RA:Builtin->Bool
 | .len| .cap| .min| .max=>true
 |_=>false
def Ep:Callee->Bool
 | .builtin b=>RA b
 |_=>false
def yG:Op->Bool
 | .alloc _| .box _ _| .buildSlice _ _ _| .makeSlice _ _ _=>true
 |_=>false
section
variable(P:Program)
def mg:Op->Bool
 | .convert s d _=>!Fg P s d
 | .move _| .assign _| .pick _ _ _| .build _ _| .nilCheck _| .binOp _ _ _ _ _| .unOp _ _ _| .makeInterface _ _| .makeFunc _ _ _| .fieldAddr _ _ _| .field _ _ _| .indexAddr _ _ _| .index _ _ _| .extract _ _| .slice _ _ _ _ _| .sliceToArrayPointer _ _| .typeAssert _ _ _ _=>true
 | .call c=>Ep c.callee
 |_=>false
def fb:Op->Bool
 | .load _ _=>true
 | .lookup _ _ _ _=>true
 | .convert s d _=>Fx P s d
 |_=>false
def nY(o:Op):Bool:=!mg P o&&!fb P o
def ig:List (Nat×List Nat)->Nat->List Nat
 | [],_=>[]
 |(b,ls)::rest,i=>bif Nat.beq b i then ls else ig rest i
def mG:List Nat->Nat->Bool
 | [],_=>false
 |x::xs,i=>Nat.beq x i||mG xs i
def aec(_ _:Op):Bool:=false
def CB(bU:List (Nat×List Nat))(i j:Nat)(a b:Op):Bool:=mg P a||mg P b||(fb P a&&fb P b)||(fb P a&&nY P b&&mG (ig bU j) i)||aec a b
def pQ:Op->Bool
 | .select _ _=>false
 | .defer _=>false
 |_=>true
def Fb(ops:List Oper)(listed:Array Bool)(i:Nat):Nat->List Oper->List Bool->List Bool
 |_,[],acc=>acc
 |j,o::rest,acc=>Fb ops listed i (j+1) rest (acc++[if j==i then false else listed.getD j true||o.after.all λe=>!Region.binds .any e||acc.getD e.on false])
def Lc(bU:List (Nat×List Nat))(ops:Array Oper)(listed:Array Bool)(i:Nat)(r:List Bool):Bool:=
 match ops[i]? with
 |none=>false
 |some dT=>(List.range ops.size).all λj=>match ops[j]? with
  |none=>false
  |some cf=>
   j==i||(bif r.getD j false then listed.getD j true||(dT.apart ops cf&&CB P bU i j dT.op cf.op) else(!listed.getD j true&&cf.after.any λe=>Region.binds .any e&&!r.getD e.on false))
def yT(bU:List (Nat×List Nat))(ops:Array Oper):List Nat->Array Bool->Bool
 | [],listed=>listed.all id
 |k::bO,listed=>(Region.ready .any ops listed).contains k&&!(Fb ops.toList listed k 0 ops.toList []).getD k false&&Lc P bU ops listed k (Fb ops.toList listed k 0 ops.toList [])&&yT bU ops bO (listed.setIfInBounds k true)
def Hf(bU:List (Nat×List Nat))(ops:Array Oper)(is:List Nat):Bool:=ops.all (λo=>pQ o.op)&&Nat.beq is.length ops.size&&yT P bU ops is (Array.replicate ops.size false)
def hy(rs:List Nat)(k:Nat)(o:Op):Bool:=mG rs k&&yG o
def CC(rs:List Nat)(bU:List (Nat×List Nat))(i j:Nat)(a b:Op):Bool:=mg P a||mg P b||hy rs j b||((fb P a||hy rs i a)&&fb P b)||(fb P a&&nY P b&&!hy rs j b&&mG (ig bU j) i)
def Ld(rs:List Nat)(bU:List (Nat×List Nat))(ops:Array Oper)(listed:Array Bool)(i:Nat)(r:List Bool):Bool:=
 match ops[i]? with
 |none=>false
 |some dT=>(List.range ops.size).all λj=>match ops[j]? with
  |none=>false
  |some cf=>
   j==i||(bif r.getD j false then listed.getD j true||(dT.apart ops cf&&CC P rs bU i j dT.op cf.op) else(!listed.getD j true&&cf.after.any λe=>Region.binds .any e&&!r.getD e.on false))
def uT(rs:List Nat)(bU:List (Nat×List Nat))(ops:Array Oper):List Nat->Array Bool->Bool
 | [],listed=>listed.all id
 |k::bO,listed=>(Region.ready .any ops listed).contains k&&!(Fb ops.toList listed k 0 ops.toList []).getD k false&&Ld P rs bU ops listed k (Fb ops.toList listed k 0 ops.toList [])&&uT rs bU ops bO (listed.setIfInBounds k true)
def Rh(rs:List Nat)(bU:List (Nat×List Nat))(ops:Array Oper)(is:List Nat):Bool:=ops.all (λo=>pQ o.op)&&Nat.beq is.length ops.size&&uT P rs bU ops is (Array.replicate ops.size false)
def Bp:Op->Bool
 | .select _ _=>false
 |_=>true
def gn(ord:Nat->Hint)(rd:Bool):Code->Bool
 | .region _ ops false=>bif rd then ops.all λo=>pQ o.op else ops.all λo=>Bp o.op
 | .region id ops true=>match ord id with
   | .text=>Hf P [] ops (List.range ops.size)
   | .skip=>true
   | .ord is bU=>Hf P bU ops is
   | .news is rs bU=>Rh P rs bU ops is
 | .seq a b=>gn ord rd a&&gn ord rd b
 | .cond _ a b=>gn ord rd a&&gn ord rd b
 | .block _ c=>gn ord rd c
 | .loop c=>gn ord rd c
 | .scope c=>gn ord rd c
 | .rangeFunc _ _ a c=>gn ord true a&&gn ord true c
 |_=>true
end
structure ca (P:Program) where
 f:FuncId
 fn:Func
 ord:Nat->Hint
 QF:P.funcs[f]?=some fn
 adD:fn.body.isSome=true
 QG:(fn.name=="runtime.NumGoroutine")=false
 isSmall:Nat.ble fn.ntmps 60000=true
 adF:gn P ord false (fn.body.getD .skip)=true
inductive zQ where
 |indexByte
 |compare
 |same
def aeA:zQ->Array Value->Sem Value
 | .indexByte=>Extern.BytealgIndexByte.indexByte
 | .compare=>Extern.BytealgCompare.compare
 | .same=>Extern.AbiNoEscape.same
structure X8 (P:Program) where
 f:FuncId
 fn:Func
 k:zQ
 QF:P.funcs[f]?=some fn
 QG:(fn.name=="runtime.NumGoroutine")=false
 aq4:fn.body.isNone=true
 aq5:Extern.findNext fn=none
 apL:Extern.find fn=some (aeA k)
inductive MR (P:Program) where
 |fn (x:ca P)
 |nat (x:X8 P)
def tD(_k:zQ)(_args:List J)(_X:ah):Option J:=none
inductive xd where
 |fn (f:FuncId)
 |iF (f:FuncId)
 |fw (k:Nat)
abbrev gL:=List (J×Bool)
inductive Out where
 |ret (y:J)
 |cD (bj:gL)
abbrev bL:=xd->List J->ah->Option (Out×ah)
def Aa(callf:bL)(c:xd)(args:List J)(X:ah):Option (J×ah):=match callf c args X with
 |some (.ret y,X)=>some (y,X)
 |_=>none
def eE(P:Program)(t:TypeId)(x:J):Option J:=match P.underlying t,x with
 |some .string,.str s=>some (jX s.size λr=> .int .i64 r)
 |some .string,.val (.string s)=>some (.val (.int .i64 s.size))
 |some (.slice _),.aZ _ _ n _ _=>some (.int .i64 n)
 |some (.slice _),.kR _=>some (.int .i64 0)
 |some (.slice _),.val (.slice none n _)=>some (jX n λr=> .int .i64 r)
 |some (.slice _),.val (.slice (some _) n _)=>some (.val (.int .i64 n))
 |_,_=>none
def Ng(P:Program)(t:TypeId)(x:J):Option J:=match P.underlying t,x with
 |some (.slice _),.aZ _ _ _ (some c) _=>some (.int .i64 c)
 |some (.slice _),.val (.slice none _ c)=>some (jX c λr=> .int .i64 r)
 |some (.slice _),.val (.slice (some _) _ c)=>some (.val (.int .i64 c))
 |_,_=>none
def Eh:J->J->Option J
 | .int k a,.int _ b=>some (.int k (bif decide (b<a) then b else a))
 | .int k a,.val (.int _ b)=>some (.val (.int k (bif decide (b<a) then b else a)))
 | .val (.int k a),.int _ b=>some (.val (.int k (bif decide (b<a) then b else a)))
 | .val (.int k a),.val (.int _ b)=>some (.val (.int k (bif decide (b<a) then b else a)))
 |_,_=>none
def Eg:J->J->Option J
 | .int k a,.int _ b=>some (.int k (bif decide (b>a) then b else a))
 | .int k a,.val (.int _ b)=>some (.val (.int k (bif decide (b>a) then b else a)))
 | .val (.int k a),.int _ b=>some (.val (.int k (bif decide (b>a) then b else a)))
 | .val (.int k a),.val (.int _ b)=>some (.val (.int k (bif decide (b>a) then b else a)))
 |_,_=>none
def kY(X:ah)(sz:Nat):J->Option (Nat×List J)
 | .aZ k off n _ _=>match X.aV.get k with
   |some o=>match j4 o off (n*sz) with|some ys=>some (n,ys)|none=>none
   |none=>none
 | .val (.slice none a c)=>bif Nat.beq a 0&&Nat.beq c 0 then some (0,[]) else none
 | .str s=>some (s.size,wX s)
 | .kR _=>some (0,[])
 |_=>none
def nC(e sz b ep:Nat)(cells:List J)(X:ah):Option (J×ah):=
 bif Nat.ble ep 140737488355328&&Nat.ble (ep*b) 140737488355328 then some (.aZ (mP X e sz cells).1 0 ep none 0,(mP X e sz cells).2) else none
def pq(k off len:Nat)(cap:Option Nat)(lo ep sz:Nat)(o:bH)(news:List J)(X:ah):Option (J×ah):=
 bif Nat.ble (off+ep*sz) o.n&&!o.ro then some (.aZ k off ep cap lo,{X with aV:=X.aV.put k {o with cn:=o.cn+1,fy:=ha o.fy (off+len*sz) news}}) else none
def rB(k len ep sz b:Nat)(o:bH)(news:List J)(X:ah):Option (J×ah):=
 bif Nat.ble (len*sz) o.n&&(Nat.ble ep 140737488355328&&Nat.ble (ep*b) 140737488355328) then
  force (ep*sz) λn=>some (.aZ X.next 0 ep none 0,{X with next:=X.next+1,aV:=(X.aV.del k).put X.next {o with cn:=0,n,fy:=ha o.fy (len*sz) news}}) else none
def lA(e sz b k off len:Nat)(cap:Option Nat)(lo n:Nat)(news:List J)(X:ah):Option (J×ah):=match X.aV.get k with
 |none=>none
 |some o=>force (len+n) λep=>match cap with
  |some c=>bif Nat.ble ep c then pq k off len cap lo ep sz o news X else(match j4 o off (len*sz) with
   |some olds=>nC e sz b ep (olds++news) X
   |none=>none)
  |none=>bif Nat.beq off 0&&(Nat.beq lo 0&&(Nat.beq o.esz sz&&(o.loose&&(!o.ro&&Nat.beq o.ty e)))) then
    (bif Nat.ble (ep*sz) o.n then pq k off len cap lo ep sz o news X else rB k len ep sz b o news X) else none
def oU(P:Program)(t:TypeId)(s x:J)(X:ah):Option (J×ah):=match P.underlying t with
 |some (.slice e)=>match dP P e,hb P e,n8 P e with
  |some sz,some z,some b=>match kY X sz x with
   |some (n,news)=>bif Nat.ble 1 sz&&(Nat.beq news.length (n*sz)&&(dZ news&&Nat.beq (db z).cells.length sz)) then(match s with
     | .val (.slice none a c)=>bif Nat.beq a 0&&Nat.beq c 0 then(bif Nat.beq n 0 then some (.val (.slice none 0 0),X) else nC e sz b n news X) else none
     | .aZ k off len cap lo=>lA e sz b k off len cap lo n news X
     | .kR k=>bif Nat.beq n 0 then some (.kR k,X) else none
     |_=>none) else none
   |none=>none
  |_,_,_=>none
 |_=>none
def pY(P:Program)(t:TypeId)(s x:J)(X:ah):Option (J×ah):=match P.underlying t,x with
 |some (.slice e),.int _ (.ofNat n)=>match dP P e,hb P e,n8 P e with
  |some sz,some z,some b=>match (db z).cells with
   | [c]=>bif Nat.beq sz 1&&(c.one&&(Nat.ble n 140737488355328&&Nat.ble (n*b) 140737488355328)) then(match s with
       | .aZ k off len cap lo=>lA e 1 b k off len cap lo n (List.replicate n c) X
       |_=>none) else none
   |_=>none
  |_,_,_=>none
 |_,_=>none
def q6(P:Program)(t:TypeId)(d x:J)(X:ah):Option (J×ah):=match P.underlying t with
 |some (.slice e)=>match dP P e with
  |some sz=>match kY X sz x with
   |some (n,news)=>bif Nat.beq news.length (n*sz)&&dZ news then(match d with
     | .val (.slice none a _)=>bif Nat.beq a 0 then some (.int .i64 0,X) else none
     | .aZ k off len _ _=>match X.aV.get k with
       |some o=>force (Nat.min n len) λm=>bif Nat.ble (off+len*sz) o.n&&!o.ro then some (.int .i64 m,{X with aV:=X.aV.put k {o with cn:=o.cn+1,fy:=ha o.fy off (news.take (m*sz))}}) else none
       |none=>none
     |_=>none) else none
   |none=>none
  |none=>none
 |_=>none
def se:TypeDesc->Bool
 | .slice _=>true
 | .string=>true
 |_=>false
def vi:TypeDesc->Bool
 | .int _=>true
 |_=>false
def iD(P:Program)(b:Builtin)(c9:Array TypeId)(bA:List J)(X:ah):Option (J×ah):=match b,bA with
 | .len,[x]=>match c9[0]? with|some t=>dx X (eE P t x)|none=>none
 | .cap,[x]=>match c9[0]? with|some t=>dx X (Ng P t x)|none=>none
 | .min,[x,y]=>dx X (Eh x y)
 | .max,[x,y]=>dx X (Eg x y)
 | .append,[s,x]=>match c9[0]?,c9[1]? with
   |some t,some u=>match P.underlying u with
    |some d=>bif se d then oU P t s x X else(bif vi d then pY P t s x X else none)
    |none=>none
   |_,_=>none
 | .copy,[d,x]=>match c9[0]? with|some t=>q6 P t d x X|none=>none
 |_,_=>none
def pv(P:Program)(c:Call)(bA:List J)(X:ah):Option (xd×List J):=
 match c.callee with
 | .value _=>(match bA with
   | .fn (.func f) a b::args=>some (.fn f,a++args++b)
   | .fw k::args=>some (.fw k,args)
   |_=>none)
 | .invoke _ name=>(match bA with
   |x::args=>(match Ji P x name X with|some (f,r)=>some (.fn f,r::args)|none=>none)
   |_=>none)
 |_=>none
def xM(P:Program)(callf:bL)(c:Call)(bA:List J)(X:ah):Option (J×ah):=
 match c.callee with
 | .builtin b=>iD P b c.argTypes bA X
 |_=>match pv P c bA X with
  |some (f,args)=>Aa callf f args X
  |none=>none
def kl(P:Program)(callf:bL)(o:Oper)(F:ax J)(X:ah):Option (J×ah):=
 match looks X.aK F o.op.operands.toList with
 |none=>none
 |some bA=>match o.op with
  | .call c=>xM P callf c bA X
  |op=>dO P op bA X
def kO(bA:List J)(X:ah):Option (Out×ah):=match bA with
 | [.pK t x]=>some (.cD [(.pK t x,false)],X)
 |_=>none
def pL:Builtin->Bool
 | .panic=>true
 |_=>false
def gA:Option (J×ah)->Option (Out×ah)
 |some (y,X)=>some (.ret y,X)
 |none=>none
def jW(P:Program)(callf:bL)(o:Oper)(F:ax J)(X:ah):Option (Out×ah):=
 match looks X.aK F o.op.operands.toList with
 |none=>none
 |some bA=>match o.op with
  | .call c=>(match c.callee with
    | .builtin b=>bif pL b then kO bA X else gA (iD P b c.argTypes bA X)
    |_=>match pv P c bA X with
     |some (f,args)=>callf f args X
     |none=>none)
  | .panic _=>kO bA X
  |op=>gA (dO P op bA X)
def put(N:Nat)(F:ax J)(d:Option Tmp)(y:J):ax J:=match d with
 |some d=>bif Nat.blt d N then F.put d y else F
 |none=>F
def hp(ops:List Oper)(F:ax J)(X:ah):Option (Nat×Bool)->Option (Bool×ah)
 |none=>some (true,X)
 |some (j,want)=>match ops[j]? with
  |some o=>match o.dst with
   |some d=>match F.get d with
    |some y=>lB X want y
    |none=>none
   |none=>none
  |none=>none
def j9(P:Program)(callf:bL)(N:Nat)(ops:List Oper)(o:Oper)(F:ax J)(X:ah):Option (ax J×ah):=
 match hp ops F X o.guard with
 |some (true,X)=>match kl P callf o F X with
  |some (y,X)=>some (put N F o.dst y,X)
  |none=>none
 |some (false,X)=>some (put N F o.dst (.val undef),X)
 |none=>none
def He(o:Oper)(F:ax J)(X:ah):Option eO:=match o.op with
 | .defer c=>(match c.callee,looks X.aK F o.op.operands.toList with
   | .value _,some (.fn (.func f) a b::args)=>some (.call f (a++args) b)
   |_,_=>none)
 |_=>none
def nZ:Op->Bool
 | .defer _=>true
 |_=>false
def kz(P:Program)(callf:bL)(N:Nat)(ops:List Oper)(o:Oper)(F:ax J)(X:ah):Option (Option gL×ax J×ah):=
 match hp ops F X o.guard with
 |some (true,X)=>bif nZ o.op then(match He o F X with
   |some d=>some (none,put N F o.dst (.val undef),{X with bs:=d::X.bs})
   |none=>none) else(match jW P callf o F X with
   |some (.ret y,X)=>some (none,put N F o.dst y,X)
   |some (.cD bj,X)=>some (some bj,F,X)
   |none=>none)
 |some (false,X)=>some (none,put N F o.dst (.val undef),X)
 |none=>none
def km(P:Program)(callf:bL)(N:Nat)(ops:List Oper):List Oper->ax J->ah->Option (Option gL×ax J×ah)
 | [],F,X=>some (none,F,X)
 |o::rest,F,X=>match kz P callf N ops o F X with
  |some (none,F,X)=>km P callf N ops rest F X
  |r=>r
inductive hq where
 |cz
 |ex (id:Nat)
 |ret
 |gt (l:Nat)
 |cD (bj:gL)
abbrev R:=Option (hq×ax J×ah)
def addrOf(ops:List Oper)(o:Oper)(F:ax J)(X:ah):Option Nat:=match hp ops F X o.guard with
 |some (true,X)=>match looks X.aK F o.op.operands.toList with
  |some [.ptr k _]=>some k
  |some [.aZ k _ _ _ _]=>some k
  |some [.mp k,_]=>some k
  |_=>none
 |_=>none
def FD(X:ah)(k:Nat):Option Nat:=match X.aV.get k with|some o=>some o.cn|none=>none
def nm(X af:ah)(k:Nat):Bool:=bif Nat.blt k X.next then(match FD X k with
 |some v=>(match FD af k with|some Lv=>Nat.beq v Lv|none=>false)
 |none=>false) else false
def l7:List (Nat×Option Nat)->Nat->Option Nat
 | [],_=>none
 |(l,k)::rest,i=>bif Nat.beq l i then k else l7 rest i
def ki(bK:List (Nat×Option Nat))(X af:ah):List Nat->Bool
 | []=>true
 |l::ls=>(match l7 bK l with|some k=>nm X af k|none=>true)&&ki bK X af ls
def iG(P:Program)(callf:bL)(N:Nat)(ops:List Oper)(bU:List (Nat×List Nat)):List Nat->List (Nat×Option Nat)->ax J->ah->Option (ax J×ah)
 | [],_,F,X=>some (F,X)
 |k::bO,bK,F,X=>match ops[k]? with
  |none=>none
  |some o=>match j9 P callf N ops o F X with
   |none=>none
   |some (F',af)=>bif ki bK X af (ig bU k) then iG P callf N ops bU bO (bif fb P o.op then(k,addrOf ops o F X)::bK else bK) F' af else none
def kt(b:Nat):J->Bool
 | .val _| .int _ _| .bool _| .str _=>true
 | .ptr k _=>Nat.blt k b
 | .aZ k _ _ _ _=>Nat.blt k b
 |_=>false
def pO(b:Nat):List J->Bool
 | []=>true
 |y::ys=>kt b y&&pO b ys
def ll(P:Program)(callf:bL)(N:Nat)(ops:List Oper)(rs:List Nat)(base k:Nat)(o:Oper)(F:ax J)(X:ah):Option (ax J×ah):=
 bif hy rs k o.op then(match o.guard with
  |some _=>none
  |none=>match looks X.aK F o.op.operands.toList with
   |none=>none
   |some bA=>bif pO base bA then(force (base+k) λm=>match dO P o.op bA {X with next:=m} with
    |some (y,af)=>some (put N F o.dst y,{af with next:=X.next})
    |none=>none) else none) else j9 P callf N ops o F X
def pP(P:Program)(ops:List Oper)(base:Nat)(o:Oper)(F:ax J)(X:ah):Bool:=
 bif fb P o.op then(match addrOf ops o F X with|some j=>Nat.blt j base|none=>true) else true
def nB(X:ah)(base:Nat):List Nat->Bool
 | []=>true
 |k::bO=>(match X.aV.get (base+k) with|none=>true|some _=>false)&&nB X base bO
def ja(P:Program)(callf:bL)(N:Nat)(ops:List Oper)(rs:List Nat)(bU:List (Nat×List Nat))(base:Nat):List Nat->List (Nat×Option Nat)->ax J->ah->Option (ax J×ah)
 | [],_,F,X=>some (F,X)
 |k::bO,bK,F,X=>match ops[k]? with
  |none=>none
  |some o=>bif pP P ops base o F X then(match ll P callf N ops rs base k o F X with
   |none=>none
   |some (F',af)=>bif ki bK X af (ig bU k) then ja P callf N ops rs bU base bO (bif fb P o.op then(k,addrOf ops o F X)::bK else bK) F' af else none) else none
def iQ(body:ax J->ah->R)(fuel:Nat):ax J->ah->R:=
 Nat.rec (motive:=λ_=>ax J->ah->R) (λ_ _=>none) (λ_ bc F X=>match body F X with
  |some (.cz,F,X)=>bc F X
  |r=>r) fuel
def I2:Jump->hq
 | .none=> .cz
 | .ret=> .ret
 | .ex id=> .ex id
def il(ord:Nat->Hint)(me:FuncId)(N:Nat)(F:ax J)(ps:Array Tmp)(assign body:Code)(jI:Nat):bH:=
 {cn:=0,ty:=0,n:=0,loose:=false,esz:=1,ro:=true,mz:=λ_=>none,fy:= .nil,sp:= .loop .ready .none ord me N F ps assign body jI}
def sb:bH:={cn:=0,ty:=0,n:=0,loose:=false,esz:=1,ro:=true,mz:=λ_=>none,fy:= .nil,sp:= .jI false}
def sQ(rd:Option Nat)(X:ah):Option (Nat×ah):=match rd with
 |none=>some ((X.new sb).1,{(X.new sb).2 with bs:= .sU (X.new sb).1::X.bs})
 |some k=>match X.aV.get k with
  |some o=>match o.sp with
   | .loop _ _ _ _ _ _ _ _ _ b=>some (b,X)
   |_=>none
  |none=>none
def sX(F:ax J)(l:Nat)(X:ah):R:=match X.aV.get l with
 |some o=>match o.sp with
  | .loop st ir ord me N G ps a c b=>(match st with
    | .busy=>none
    |_=>some (I2 ir,F,{X with aV:=X.aV.put l {o with cn:=o.cn+1,sp:= .loop .exhausted ir ord me N G ps a c b}}))
  |_=>none
 |none=>none
def G5:Code->Nat
 | .region id _ _=>id
 | .seq a _=>G5 a
 | .block _ a=>G5 a
 | .loop a=>G5 a
 |_=>0
def iO(ord:Nat->Hint)(N:Nat)(c:Code):List Nat:=match ord (1000000+G5 c) with
 | .ord is _=>is
 |_=>List.range N
def ji:List (Nat×Option J)->ax J
 | []=> .nil
 |(t,x)::l=>match x with
  |some y=>(ji l).put t y
  |none=>ji l
def iq(us:List Nat)(F:Nat->Option J):ax J:=ji (us.map λt=>(t,F t))
def pV(callf:bL)(ord:Nat->Hint)(me:FuncId)(rd:Option Nat)(N:Nat)(ps:Array Tmp)(a c:Code)(g:J)(F:ax J)(X:ah):R:=match g,sQ rd X with
 | .fn (.func f) b6 qj,some (b,X1)=>(match callf (.iF f) (b6++[.fw (X1.new (il ord me N (iq (iO ord N c) F.get) ps a c b)).1]++qj) {(X1.new (il ord me N (iq (iO ord N c) F.get) ps a c b)).2 with bs:=[]} with
   |some (.ret _,c4)=>sX F (X1.new (il ord me N (iq (iO ord N c) F.get) ps a c b)).1 {c4 with bs:=X1.bs}
   |some (.cD bj,c4)=>some (.cD bj,F,{c4 with bs:=X1.bs})
   |none=>none)
 |_,_=>none
abbrev iA:=Code->Code->ax J->ah->R
def bY(P:Program)(callf:bL)(ord:Nat->Hint)(me:FuncId)(rd:Option Nat)(N fuel:Nat)(jump:iA):Code->ax J->ah->R
 | .skip,F,X=>some (.cz,F,X)
 | .region _ ops false,F,X=>match km P callf N ops.toList ops.toList F X with
   |some (none,F,X)=>some (.cz,F,X)
   |some (some bj,F,X)=>some (.cD bj,F,X)
   |none=>none
 | .region id ops true,F,X=>match (match ord id with
     | .text=>iG P callf N ops.toList [] (List.range ops.size) [] F {X with cK:=[]}
     | .skip=>none
     | .ord is bU=>iG P callf N ops.toList bU is [] F {X with cK:=[]}
     | .news is rs bU=>force (X.next+ops.size) λn=>bif nB X X.next rs then ja P callf N ops.toList rs bU X.next is [] F {X with cK:=[],next:=n} else none) with
   |some (F,af)=>some (.cz,F,{af with cK:=X.cK})
   |none=>none
 | .seq a b,F,X=>match bY P callf ord me rd N fuel jump a F X with
   |some (.cz,F,X)=>bY P callf ord me rd N fuel jump b F X
   |r=>r
 | .cond c a b,F,X=>match look X.aK F c with
   |some y=>match fZ X y with
    |some (true,X)=>bY P callf ord me rd N fuel jump a F X
    |some (false,X)=>bY P callf ord me rd N fuel jump b F X
    |none=>none
   |none=>none
 | .block id c,F,X=>match bY P callf ord me rd N fuel jump c F X with
   |some (.ex gF,F,X)=>bif Nat.beq gF id then some (.cz,F,X) else some (.ex gF,F,X)
   |r=>r
 | .loop c,F,X=>iQ (bY P callf ord me rd N fuel jump c) fuel F X
 | .exit id,F,X=>some (.ex id,F,X)
 | .label _,F,X=>some (.cz,F,X)
 | .ret,F,X=>some (.ret,F,X)
 | .goto l,F,X=>some (.gt l,F,X)
 | .scope c,F,X=>match bY P callf ord me rd N fuel jump c F X with
   |some (.gt l,F,X)=>(match findLabel c l with
    |some rest=>jump c rest F X
    |none=>some (.gt l,F,X))
   |r=>r
 | .rangeFunc g ps a c,F,X=>match look X.aK F g with
   |some y=>pV callf ord me rd N ps a c y F X
   |none=>none
 |_,_,_=>none
def fR(P:Program)(callf:bL)(ord:Nat->Hint)(me:FuncId)(rd:Option Nat)(N fuel:Nat)(n:Nat):iA:=
 Nat.rec (motive:=λ_=>iA) (λ_ _ _ _=>none) (λ_ bc c rest F X=>match bY P callf ord me rd N fuel bc rest F X with
  |some (.gt l,F,X)=>(match findLabel c l with
   |some rest=>bc c rest F X
   |none=>some (.gt l,F,X))
  |r=>r) n
def tP(P:Program)(F:ax J)(X:ah):ResultVar->Option J
 | .tmp t=>F.get t
 | .cell a t=>match F.get a with
   |some (.ptr k off)=>lV P t X k off
   |_=>none
def oP(P:Program)(F:ax J)(X:ah):List ResultVar->Option (List J)
 | []=>some []
 |r::rs=>match tP P F X r with
  |some y=>match oP P F X rs with|some ys=>some (y::ys)|none=>none
  |none=>none
def zl:List J->J
 | [y]=>y
 |ys=> .bm ys
inductive Mode where
 |ret
 |cD (bj:gL)
def ahl:Mode->Mode
 | .cD ((_,true)::_)=> .ret
 |m=>m
def agB(u:Mode)(bj:gL):Mode:=match u with
 | .cD gz=> .cD (bj++gz)
 | .ret=> .cD bj
abbrev nu:=FuncId->List J->Mode->ah->Option (Out×Mode×ah)
def fS(P:Program)(dcall:nu)(fn:Func)(F:ax J):List eO->Mode->ah->Option (Out×ah)
 | [],.ret,X=>match oP P F X fn.results.toList with|some ys=>some (.ret (zl ys),X)|none=>none
 | [],.cD bj,X=>some (.cD bj,X)
 | .sU k::bh,u,X=>(match X.aV.get k with
   |some o=>match o.sp with
    | .jI false=>fS P dcall fn F bh u {X with aV:=X.aV.put k {o with cn:=o.cn+1,sp:= .jI true}}
    |_=>none
   |none=>none)
 | .call f xs ys::bh,u,X=>(match dcall f (xs++ys) u X with
   |some (.ret _,u,X)=>fS P dcall fn F bh (ahl u) X
   |some (.cD bj,u,X)=>fS P dcall fn F bh (agB u bj) X
   |none=>none)
def rN(P:Program)(dcall:nu)(fn:Func):R->Option (Out×ah)
 |some (.cz,F,X)=>fS P dcall fn F X.bs .ret {X with bs:=[]}
 |some (.ret,F,X)=>fS P dcall fn F X.bs .ret {X with bs:=[]}
 |some (.cD bj,F,X)=>fS P dcall fn F X.bs (.cD bj) {X with bs:=[]}
 |_=>none
def Em:Option Jump->Jump->Jump
 |some p,_=>p
 |none,q=>q
def Fp(o:bH)(st:LoopState)(p:Option Jump):Option bH:=match o.sp with
 | .loop _ q ord me N G ps a c b=>some {o with cn:=o.cn+1,sp:= .loop st (Em p q) ord me N G ps a c b}
 |_=>none
def isReady:bH->Bool
 |{sp:= .loop .ready _ _ _ _ _ _ _ _ _,..}=>true
 |_=>false
def p1(X:ah)(k:Nat)(st:LoopState)(p:Option Jump):Option ah:=match X.aV.get k with
 |some o=>match Fp o st p with
  |some o'=>some {X with aV:=X.aV.put k o'}
  |none=>none
 |none=>none
def endRound(D:List eO)(X:ah)(k:Nat)(st:LoopState)(p:Jump)(b:Bool):Option (Out×ah):=match p1 X k st (some p) with
 |some X=>some (.ret (.bool b),{X with bs:=D})
 |none=>none
def wH(N:Nat)(F:ax J):List Tmp->List J->ax J
 |p::ps,x::xs=>wH N (put N F (some p) x) ps xs
 |_,_=>F
def lU(cO:Code->ax J->ah->R)(k N:Nat)(F:ax J)(ps:Array Tmp)(a c:Code)(args:List J)(X:ah):Option (Out×ah):=
 bif Nat.beq args.length ps.size then(match cO a (wH N F ps.toList args) {X with bs:=[]} with
  |some (.cz,aM,X1)=>(match X1.aV.get k with
   |some o=>bif isReady o then(match p1 X1 k .busy none with
    |some c4=>(match cO c aM c4 with
     |some (.cz,_,m0)=>endRound X.bs m0 k .ready .none true
     |some (.ret,_,m0)=>endRound X.bs m0 k .done .ret false
     |some (.ex id,_,m0)=>endRound X.bs m0 k .done (.ex id) false
     |_=>none)
    |none=>none) else none
   |none=>none)
  |_=>none) else none
def isRec:Op->Bool
 | .call c=>(match c.callee with| .builtin .recover=>true|_=>false)
 |_=>false
def BM:Mode->J×Mode
 | .cD ((v,false)::gz)=>(v,.cD ((v,true)::gz))
 |u=>(.val .nilIface,u)
def py(P:Program)(N:Nat):List Oper->ax J->ah->Mode->Option (ax J×ah×Mode)
 | [],F,X,u=>some (F,X,u)
 |o::rest,F,X,u=>match o.guard with
  |some _=>none
  |none=>bif isRec o.op then py P N rest (put N F o.dst (BM u).1) X (BM u).2 else(match looks X.aK F o.op.operands.toList with
   |some bA=>(match dO P o.op bA X with
    |some (y,af)=>py P N rest (put N F o.dst y) af u
    |none=>none)
   |none=>none)
def AF:List Oper->Bool
 | []=>false
 |o::os=>isRec o.op||AF os
abbrev Ms:=Option (hq×ax J×ah×Mode)
def hU(P:Program)(N:Nat)(cO:Code->ax J->ah->R):Code->ax J->ah->Mode->Ms
 | .seq a b,F,X,u=>match hU P N cO a F X u with
   |some (.cz,F,X,u)=>hU P N cO b F X u
   |r=>r
 | .cond c a b,F,X,u=>match look X.aK F c with
   |some y=>match fZ X y with
    |some (true,X)=>hU P N cO a F X u
    |some (false,X)=>hU P N cO b F X u
    |none=>none
   |none=>none
 | .region id ops false,F,X,u=>bif AF ops.toList then(match py P N ops.toList F X u with
     |some (F,X,u)=>some (.cz,F,X,u)
     |none=>none) else(match cO (.region id ops false) F X with
     |some (ex,F,X)=>some (ex,F,X,u)
     |none=>none)
 |c,F,X,u=>match cO c F X with
  |some (ex,F,X)=>some (ex,F,X,u)
  |none=>none
def sd(X:ah):Bool:=match X.bs with| []=>true|_=>false
def rM(P:Program)(fn:Func)(D:List eO):Ms->Option (Out×Mode×ah)
 |some (.cz,F,X,u)=>bif sd X then(match oP P F X fn.results.toList with|some ys=>some (.ret (zl ys),u,{X with bs:=D})|none=>none) else none
 |some (.ret,F,X,u)=>bif sd X then(match oP P F X fn.results.toList with|some ys=>some (.ret (zl ys),u,{X with bs:=D})|none=>none) else none
 |some (.cD bj,_,X,u)=>bif sd X then some (.cD bj,u,{X with bs:=D}) else none
 |_=>none
structure l2 where
 call:bL
 dcall:nu
def w2(D:List eO):Option (Out×ah)->Option (Out×ah)
 |some (y,X)=>some (y,{X with bs:=D})
 |none=>none
def mA{P:Program}(a6:ca P)(callf:bL)(lf:Nat):Code->ax J->ah->R:=
 bY P callf a6.ord a6.f none a6.fn.ntmps lf (fR P callf a6.ord a6.f none a6.fn.ntmps lf lf)
def ih{P:Program}(bc:l2)(a6:ca P)(lf:Nat)(f:FuncId)(args:List J)(X:ah):Option (Out×ah):=
 bif Nat.beq a6.f f&&Nat.ble args.length a6.fn.ntmps then w2 X.bs (rN P bc.dcall a6.fn (mA a6 bc.call lf (a6.fn.body.getD .skip) (ha .nil 0 args) {X with bs:=[]})) else none
def iZ(P:Program)(tab:ax (MR P))(lf:Nat)(fuel:Nat):l2:=
 Nat.rec (motive:=λ_=>l2) {call:=λ_ _ _=>none,dcall:=λ_ _ _ _=>none} (λ_ bc=>{
  call:=λc args X=>match c with
   | .fn f=>(match tab.get f with
     |some (.fn a6)=>ih bc a6 lf f args X
     |some (.nat l0)=>bif Nat.beq l0.f f then(match tD l0.k args X with|some y=>some (.ret y,X)|none=>none) else none
     |none=>none)
   | .iF f=>(match tab.get f with
     |some (.fn a6)=>ih bc a6 lf f args X
     |_=>none)
   | .fw k=>(match X.aV.get k with
     |some o=>match o.sp with
      | .loop _ _ ord me N F ps a c _=>lU (bY P bc.call ord me (some k) N lf (fR P bc.call ord me (some k) N lf lf)) k N F ps a c args X
      |_=>none
     |none=>none)
  dcall:=λf args u X=>match tab.get f with
   |some (.fn a6)=>bif Nat.beq a6.f f&&Nat.ble args.length a6.fn.ntmps then rM P a6.fn X.bs (hU P a6.fn.ntmps (mA a6 bc.call lf) (a6.fn.body.getD .skip) (ha .nil 0 args) {X with bs:=[]} u) else none
   |_=>none}) fuel
theorem get_nil{α:Type}(j:Nat):(ax.nil:ax α).get j=none:=rfl
theorem Dc{α:Type}:∀(f:Nat) (t:ax α) (i j:Nat) (x y:α),(t.set f i x).get j=some y->(j=i/\y=x)\/(j≠i/\t.get j=some y)
 |0,t,i,j,x,y,h=>by simp[ax.set,ax.get] at h
 |f+1,.nil,i,j,x,y,h=>by
  unfold ax.set at h;cases hi:Nat.beq i 0 with
  |true=>
   have qx:i=0:=Nat.eq_of_beq_eq_true hi;rw[hi] at h;cases aa:Nat.beq j 0 with
   |true=>simp only[cond_true,ax.get,aa] at h;exact .inl ⟨by rw[qx];exact Nat.eq_of_beq_eq_true aa,(Option.some.inj h).symm⟩
   |false=>simp only[cond_true,ax.get,aa,cond_false] at h;cases h2:Nat.beq (j%2) 1<;>simp[h2] at h
  |false=>
   have qx:i≠0:=Nat.ne_of_beq_eq_false hi;rw[hi] at h;cases aq:Nat.beq (i%2) 1 with
   |true=>
    have gh:i%2=1:=Nat.eq_of_beq_eq_true aq;simp only[cond_false,aq,cond_true,ax.get] at h;cases aa:Nat.beq j 0 with
    |true=>simp[aa] at h
    |false=>
     have kH:j≠0:=Nat.ne_of_beq_eq_false aa;cases h2:Nat.beq (j%2) 1 with
     |true=>
      have kq:j%2=1:=Nat.eq_of_beq_eq_true h2;simp only[aa,h2,cond_false,cond_true] at h;rcases Dc f _ _ _ _ _ h with⟨e,bf⟩|⟨_,bf⟩
      ·exact .inl ⟨by omega,bf⟩
      ·simp[ax.get] at bf
     |false=>simp[aa,h2] at h
   |false=>
    have gh:i%2≠1:=Nat.ne_of_beq_eq_false aq;simp only[cond_false,aq,ax.get] at h;cases aa:Nat.beq j 0 with
    |true=>simp[aa] at h
    |false=>
     have kH:j≠0:=Nat.ne_of_beq_eq_false aa;cases h2:Nat.beq (j%2) 1 with
     |true=>simp[aa,h2] at h
     |false=>
      have kq:j%2≠1:=Nat.ne_of_beq_eq_false h2;simp only[aa,h2,cond_false] at h;rcases Dc f _ _ _ _ _ h with⟨e,bf⟩|⟨_,bf⟩
      ·exact .inl ⟨by omega,bf⟩
      ·simp[ax.get] at bf
 |f+1,.node v l r,i,j,x,y,h=>by
  unfold ax.set at h;cases hi:Nat.beq i 0 with
  |true=>
   have qx:i=0:=Nat.eq_of_beq_eq_true hi;simp only[hi,cond_true,ax.get] at h;cases aa:Nat.beq j 0 with
   |true=>
    have kH:j=0:=Nat.eq_of_beq_eq_true aa;simp only[aa,cond_true] at h;exact .inl ⟨by omega,(Option.some.inj h).symm⟩
   |false=>
    have kH:j≠0:=Nat.ne_of_beq_eq_false aa;exact .inr ⟨by omega,by simpa[ax.get,aa] using h⟩
  |false=>
   have qx:i≠0:=Nat.ne_of_beq_eq_false hi;cases aq:Nat.beq (i%2) 1 with
   |true=>
    have gh:i%2=1:=Nat.eq_of_beq_eq_true aq;simp only[hi,aq,cond_false,cond_true,ax.get] at h;cases aa:Nat.beq j 0 with
    |true=>
     have kH:j=0:=Nat.eq_of_beq_eq_true aa;exact .inr ⟨by omega,by simpa[ax.get,aa] using h⟩
    |false=>
     have kH:j≠0:=Nat.ne_of_beq_eq_false aa;cases h2:Nat.beq (j%2) 1 with
     |true=>
      have kq:j%2=1:=Nat.eq_of_beq_eq_true h2;simp only[aa,h2,cond_false,cond_true] at h;rcases Dc f _ _ _ _ _ h with⟨e,bf⟩|⟨aO,bf⟩
      ·exact .inl ⟨by omega,bf⟩
      ·exact .inr ⟨by omega,by simpa[ax.get,aa,h2] using bf⟩
     |false=>
      have kq:j%2≠1:=Nat.ne_of_beq_eq_false h2;exact .inr ⟨by omega,by simpa[ax.get,aa,h2] using h⟩
   |false=>
    have gh:i%2≠1:=Nat.ne_of_beq_eq_false aq;simp only[hi,aq,cond_false,ax.get] at h;cases aa:Nat.beq j 0 with
    |true=>
     have kH:j=0:=Nat.eq_of_beq_eq_true aa;exact .inr ⟨by omega,by simpa[ax.get,aa] using h⟩
    |false=>
     have kH:j≠0:=Nat.ne_of_beq_eq_false aa;cases h2:Nat.beq (j%2) 1 with
     |true=>
      have kq:j%2=1:=Nat.eq_of_beq_eq_true h2;exact .inr ⟨by omega,by simpa[ax.get,aa,h2] using h⟩
     |false=>
      have kq:j%2≠1:=Nat.ne_of_beq_eq_false h2;simp only[aa,h2,cond_false] at h;rcases Dc f _ _ _ _ _ h with⟨e,bf⟩|⟨aO,bf⟩
      ·exact .inl ⟨by omega,bf⟩
      ·exact .inr ⟨by omega,by simpa[ax.get,aa,h2] using bf⟩
theorem Dd{α:Type}:∀(f:Nat) (t:ax α) (i j:Nat) (x:α),i+1<2 ^ f->(t.set f i x).get j=if j=i then some x else t.get j
 |0,t,i,j,x,h=>by simp at h
 |f+1,.nil,i,j,x,h=>by
  have h2:2 ^ (f+1)=2*2 ^ f:=by rw[Nat.pow_succ];omega
  unfold ax.set;cases hi:Nat.beq i 0 with
  |true=>
   have qx:i=0:=Nat.eq_of_beq_eq_true hi;simp only[cond_true,ax.get];cases aa:Nat.beq j 0 with
   |true=>have:=Nat.eq_of_beq_eq_true aa;simp[qx,this]
   |false=>have:=Nat.ne_of_beq_eq_false aa;simp[qx,this]
  |false=>
   have qx:i≠0:=Nat.ne_of_beq_eq_false hi;cases aq:Nat.beq (i%2) 1 with
   |true=>
    have gh:i%2=1:=Nat.eq_of_beq_eq_true aq;simp only[cond_false,cond_true,ax.get];cases aa:Nat.beq j 0 with
    |true=>have:=Nat.eq_of_beq_eq_true aa;simp only[cond_true];rw[if_neg (by omega)]
    |false=>
     have kH:=Nat.ne_of_beq_eq_false aa;cases h3:Nat.beq (j%2) 1 with
     |true=>
      have qu:=Nat.eq_of_beq_eq_true h3;simp only[cond_false,cond_true];rw[Dd f .nil (i/2) (j/2) x (by omega)];by_cases e:j=i
      ·rw[if_pos e,if_pos (by omega)]
      ·rw[if_neg e,if_neg (by omega)];rfl
     |false=>
      have qu:=Nat.ne_of_beq_eq_false h3;simp only[cond_false];rw[if_neg (by omega)]
   |false=>
    have gh:i%2≠1:=Nat.ne_of_beq_eq_false aq;simp only[cond_false,ax.get];cases aa:Nat.beq j 0 with
    |true=>have:=Nat.eq_of_beq_eq_true aa;simp only[cond_true];rw[if_neg (by omega)]
    |false=>
     have kH:=Nat.ne_of_beq_eq_false aa;cases h3:Nat.beq (j%2) 1 with
     |true=>
      have qu:=Nat.eq_of_beq_eq_true h3;simp only[cond_false,cond_true];rw[if_neg (by omega)]
     |false=>
      have qu:=Nat.ne_of_beq_eq_false h3;simp only[cond_false];rw[Dd f .nil (i/2-1) (j/2-1) x (by omega)];by_cases e:j=i
      ·rw[if_pos e,if_pos (by omega)]
      ·rw[if_neg e,if_neg (by omega)];rfl
 |f+1,.node v l r,i,j,x,h=>by
  have h2:2 ^ (f+1)=2*2 ^ f:=by rw[Nat.pow_succ];omega
  unfold ax.set;cases hi:Nat.beq i 0 with
  |true=>
   have qx:i=0:=Nat.eq_of_beq_eq_true hi;simp only[cond_true,ax.get];cases aa:Nat.beq j 0 with
   |true=>have:=Nat.eq_of_beq_eq_true aa;simp[qx,this]
   |false=>have:=Nat.ne_of_beq_eq_false aa;simp[qx,this]
  |false=>
   have qx:i≠0:=Nat.ne_of_beq_eq_false hi;cases aq:Nat.beq (i%2) 1 with
   |true=>
    have gh:i%2=1:=Nat.eq_of_beq_eq_true aq;simp only[cond_false,cond_true,ax.get];cases aa:Nat.beq j 0 with
    |true=>have:=Nat.eq_of_beq_eq_true aa;simp only[cond_true];rw[if_neg (by omega)]
    |false=>
     have kH:=Nat.ne_of_beq_eq_false aa;cases h3:Nat.beq (j%2) 1 with
     |true=>
      have qu:=Nat.eq_of_beq_eq_true h3;simp only[cond_false,cond_true];rw[Dd f l (i/2) (j/2) x (by omega)];by_cases e:j=i
      ·rw[if_pos e,if_pos (by omega)]
      ·rw[if_neg e,if_neg (by omega)]
     |false=>
      have qu:=Nat.ne_of_beq_eq_false h3;simp only[cond_false];rw[if_neg (by omega)]
   |false=>
    have gh:i%2≠1:=Nat.ne_of_beq_eq_false aq;simp only[cond_false,ax.get];cases aa:Nat.beq j 0 with
    |true=>have:=Nat.eq_of_beq_eq_true aa;simp only[cond_true];rw[if_neg (by omega)]
    |false=>
     have kH:=Nat.ne_of_beq_eq_false aa;cases h3:Nat.beq (j%2) 1 with
     |true=>
      have qu:=Nat.eq_of_beq_eq_true h3;simp only[cond_false,cond_true];rw[if_neg (by omega)]
     |false=>
      have qu:=Nat.ne_of_beq_eq_false h3;simp only[cond_false];rw[Dd f r (i/2-1) (j/2-1) x (by omega)];by_cases e:j=i
      ·rw[if_pos e,if_pos (by omega)]
      ·rw[if_neg e,if_neg (by omega)]
theorem kG{α:Type}(t:ax α)(i j:Nat)(x:α):(t.put i x).get j=if j=i then some x else t.get j:=
 Dd _ _ _ _ _ (Nat.lt_two_pow_self)
theorem iI{α:Type}{t:ax α}{i j:Nat}{x y:α}(h:(t.put i x).get j=some y):(j=i/\y=x)\/(j≠i/\t.get j=some y):=Dc _ _ _ _ _ _ h
theorem cE.kG(H:cE)(i j:Nat)(o:bH):(H.put i o).get j=if j=i then some o else H.get j:=by
 unfold cE.get cE.put;simp only[Xe.kG];by_cases h:j=i
 ·simp[h]
 ·simp[h]
theorem cE.iI{H:cE}{i j:Nat}{o o':bH}(h:(H.put i o).get j=some o'):(j=i/\o'=o)\/(j≠i/\H.get j=some o'):=by
 rw[cE.kG] at h;by_cases e:j=i
 ·rw[if_pos e] at h;exact .inl ⟨e,(Option.some.inj h).symm⟩
 ·rw[if_neg e] at h;exact .inr ⟨e,h⟩
theorem cE.ack(H:cE)(i j:Nat):(H.del i).get j=if j=i then none else H.get j:=by
 unfold cE.get cE.del;simp only[Xe.kG];by_cases h:j=i
 ·simp[h]
 ·simp[h]
theorem cE.s8{H:cE}{i j:Nat}{o':bH}(h:(H.del i).get j=some o'):j≠i/\H.get j=some o':=by
 rw[cE.ack] at h;by_cases e:j=i
 ·rw[if_pos e] at h;cases h
 ·rw[if_neg e] at h;exact⟨e,h⟩
theorem set_comm{α:Type}:∀(f g:Nat) (t:ax α) (i j:Nat) (x y:α),i+1<2 ^ f->j+1<2 ^ g->i≠j->(t.set f i x).set g j y=(t.set g j y).set f i x
 |0,_,_,_,_,_,_,h,_,_=>by simp at h
 |_+1,0,_,_,_,_,_,_,h,_=>by simp at h
 |f+1,g+1,t,i,j,x,y,an,bd,aoy=>by
  have az:2 ^ (f+1)=2*2 ^ f:=by rw[Nat.pow_succ];omega
  have aA:2 ^ (g+1)=2*2 ^ g:=by rw[Nat.pow_succ];omega
  rw[az] at an;rw[aA] at bd;by_cases hi:i=0
  ·subst hi
   have vH:Nat.beq j 0=false:=by
    cases h:Nat.beq j 0 with
    |false=>rfl
    |true=>have:=Nat.eq_of_beq_eq_true h;omega
   cases rT:Nat.beq (j%2) 1<;>cases t<;>simp[ax.set,vH,rT]
  ·have bi:Nat.beq i 0=false:=by
    cases h:Nat.beq i 0 with
    |false=>rfl
    |true=>have:=Nat.eq_of_beq_eq_true h;omega
   by_cases aa:j=0
   ·subst aa;cases tk:Nat.beq (i%2) 1<;>cases t<;>simp[ax.set,bi,tk]
   ·have vH:Nat.beq j 0=false:=by
     cases h:Nat.beq j 0 with
     |false=>rfl
     |true=>have:=Nat.eq_of_beq_eq_true h;omega
    cases tk:Nat.beq (i%2) 1 with
    |true=>
     have aoB:=Nat.eq_of_beq_eq_true tk;cases rT:Nat.beq (j%2) 1 with
     |true=>
      have aoF:=Nat.eq_of_beq_eq_true rT;cases t with
      |nil=>simp only[ax.set,bi,vH,tk,rT,cond_true,cond_false];rw[set_comm f g .nil (i/2) (j/2) x y (by omega) (by omega) (by omega)]
      |node v l r=>simp only[ax.set,bi,vH,tk,rT,cond_true,cond_false];rw[set_comm f g l (i/2) (j/2) x y (by omega) (by omega) (by omega)]
     |false=>cases t<;>simp[ax.set,bi,vH,tk,rT]
    |false=>
     have aoB:=Nat.ne_of_beq_eq_false tk;cases rT:Nat.beq (j%2) 1 with
     |true=>cases t<;>simp[ax.set,bi,vH,tk,rT]
     |false=>
      have aoF:=Nat.ne_of_beq_eq_false rT;cases t with
      |nil=>simp only[ax.set,bi,vH,tk,rT,cond_false];rw[set_comm f g .nil (i/2-1) (j/2-1) x y (by omega) (by omega) (by omega)]
      |node v l r=>simp only[ax.set,bi,vH,tk,rT,cond_false];rw[set_comm f g r (i/2-1) (j/2-1) x y (by omega) (by omega) (by omega)]
theorem afg{α:Type}(t:ax α){i j:Nat}(x y:α)(h:i≠j):(t.put i x).put j y=(t.put j y).put i x:=
 set_comm _ _ _ _ _ _ _ (Nat.lt_two_pow_self) (Nat.lt_two_pow_self) h
theorem cE.put_comm(H:cE){i j:Nat}(o o':bH)(h:i≠j):(H.put i o).put j o'=(H.put j o').put i o:=by
 unfold cE.put;simp only[];rw[afg _ _ _ h]
theorem cE.al1(H:cE){i j:Nat}(o:bH)(h:i≠j):(H.del i).put j o=(H.put j o).del i:=by
 unfold cE.put cE.del;simp only[];rw[afg _ _ _ h]
theorem force_eq{α:Type}(n:Nat)(k:Nat->α):force n k=k n:=by cases n<;>rfl
theorem fD{α:Type}(n:Int)(k:Int->α):jX n k=k n:=by cases n<;>simp[jX,force_eq]
structure Env where
 f:Nat->Option (Nat×Nat)
 n:Nat
instance:CoeFun Env (λ_=>Nat->Option (Nat×Nat)):=⟨Env.f⟩
mutual
def Den(E:Env):J->Value->Prop
 | .val x,w=>w=x
 | .int k n,w=>w= .int k n
 | .bool b,w=>w= .bool b
 | .str s,w=>w= .string s
 | .ptr k off,w=>∃id c,E k=some (id,c)/\w= .pointer (some ⟨id,off,none⟩)
 | .aZ k off len (some cap) _,w=>∃id c,E k=some (id,c)/\w= .slice (some ⟨id,off,none⟩) len cap
 | .aZ k off len none lo,w=>∃id c,(E k=some (id,c)/\lo+len<=c)/\w= .slice (some ⟨id,off,none⟩) len (c-lo)
 | .fn f a b,w=>∃x y,cg E a x/\cg E b y/\w= .func f x.toArray y.toArray
 | .pK t x,w=>∃v,Den E x v/\w= .iface t v
 | .agg cs,w=>∃x,cg E cs x/\w= .agg x.toArray
 | .bm cs,w=>∃x,cg E cs x/\w= .tuple x.toArray
 | .fw k,w=>∃id c,E k=some (id,c)/\w= .func (.yield id) #[] #[]
 | .mp k,w=>∃id c,E k=some (id,c)/\w= .map (some id)
 | .kR _,w=>∃a cp,w= .slice (some a) 0 cp
def cg(E:Env):List J->List Value->Prop
 | [],l=>l=[]
 |y::ys,l=>∃v vs,Den E y v/\cg E ys vs/\l=v::vs
end
def Sub(E aQ:Env):Prop:=∀k x,E k=some x->aQ k=some x
def cM(E aQ:Env):Prop:=aQ.n=E.n/\Sub E aQ/\∀k,k<E.n->aQ k=E k
theorem Sub.refl(E:Env):Sub E E:=λ_ _ h=>h
theorem Sub.trans{E aQ nv:Env}(h:Sub E aQ)(h':Sub aQ nv):Sub E nv:=λk x e=>h' k x (h k x e)
theorem cM.sub{E aQ:Env}(h:cM E aQ):Sub E aQ:=h.2.1
theorem cM.refl(E:Env):cM E E:=⟨rfl,λ_ _ h=>h,λ_ _=>rfl⟩
theorem cM.trans{E aQ nv:Env}(h:cM E aQ)(h':cM aQ nv):cM E nv:=⟨h'.1.trans h.1,h.sub.trans h'.sub,λk ai=>(h'.2.2 k (by rw[h.1];exact ai)).trans (h.2.2 k ai)⟩
mutual
theorem Den.sub{E aQ:Env}(aB:Sub E aQ):∀{y:J} {v:Value},Den E y v->Den aQ y v
 | .val _,_,h=>h
 | .int _ _,_,h=>h
 | .bool _,_,h=>h
 | .str _,_,h=>h
 | .ptr _ _,_,h=>let ⟨id,c,e,hw⟩:=h;⟨id,c,aB _ _ e,hw⟩
 | .aZ _ _ _ (some _) _,_,h=>let ⟨id,c,e,hw⟩:=h;⟨id,c,aB _ _ e,hw⟩
 | .aZ _ _ _ none _,_,h=>let ⟨id,c,e,hw⟩:=h;⟨id,c,⟨aB _ _ e.1,e.2⟩,hw⟩
 | .fn _ _ _,_,h=>let ⟨x,y,ar,bf,hw⟩:=h;⟨x,y,cg.sub aB ar,cg.sub aB bf,hw⟩
 | .pK _ _,_,h=>let ⟨v,hv,hw⟩:=h;⟨v,Den.sub aB hv,hw⟩
 | .agg _,_,h=>let ⟨x,ar,hw⟩:=h;⟨x,cg.sub aB ar,hw⟩
 | .bm _,_,h=>let ⟨x,ar,hw⟩:=h;⟨x,cg.sub aB ar,hw⟩
 | .fw _,_,h=>let ⟨id,c,e,hw⟩:=h;⟨id,c,aB _ _ e,hw⟩
 | .mp _,_,h=>let ⟨id,c,e,hw⟩:=h;⟨id,c,aB _ _ e,hw⟩
 | .kR _,_,h=>h
theorem cg.sub{E aQ:Env}(aB:Sub E aQ):∀{ys:List J} {vs:List Value},cg E ys vs->cg aQ ys vs
 | [],_,h=>h
 |_::_,_,h=>let ⟨v,vs,hv,r1,e⟩:=h;⟨v,vs,Den.sub aB hv,cg.sub aB r1,e⟩
end
theorem Den.mono{E aQ:Env}(aB:cM E aQ){y:J}{v:Value}(h:Den E y v):Den aQ y v:=h.sub aB.sub
theorem cg.mono{E aQ:Env}(aB:cM E aQ){ys:List J}{vs:List Value}(h:cg E ys vs):cg aQ ys vs:=h.sub aB.sub
theorem cg.length{E:Env}:∀{ys:List J} {vs:List Value},cg E ys vs->vs.length=ys.length
 | [],_,h=>by cases h;rfl
 |_::_,_,⟨_,_,_,h,e⟩=>by subst e;simp[cg.length h]
theorem cg.get{E:Env}:∀{ys:List J} {vs:List Value},cg E ys vs->∀(j:Nat) (y:J),ys[j]?=some y->∃v,vs[j]?=some v/\Den E y v
 | [],_,_,j,y,aa=>by simp at aa
 |z::ys,_,⟨v,vs,hv,h,e⟩,0,y,aa=>by subst e;simp at aa;subst aa;exact⟨v,rfl,hv⟩
 |z::ys,_,⟨v,vs,hv,h,e⟩,j+1,y,aa=>by subst e;simp at aa;simpa using cg.get h j y aa
theorem cg.append{E:Env}:∀{ys:List J} {vs:List Value} {vk:List J} {BV:List Value},cg E ys vs->cg E vk BV->cg E (ys++vk) (vs++BV)
 | [],_,_,_,h,h'=>by cases h;exact h'
 |_::_,_,_,_,⟨v,vs,hv,h,e⟩,h'=>by subst e;exact⟨v,_,hv,cg.append h h',rfl⟩
theorem cg.take{E:Env}:∀{ys:List J} {vs:List Value} (n:Nat),cg E ys vs->cg E (ys.take n) (vs.take n)
 | [],_,n,h=>by cases h;simp[cg]
 |_::_,_,0,h=>by simp[cg]
 |_::_,_,n+1,⟨v,vs,hv,h,e⟩=>by subst e;exact⟨v,_,hv,cg.take n h,rfl⟩
theorem cg.drop{E:Env}:∀{ys:List J} {vs:List Value} (n:Nat),cg E ys vs->cg E (ys.drop n) (vs.drop n)
 | [],_,n,h=>by cases h;simp[cg]
 |_::_,_,0,h=>h
 |_::_,_,n+1,⟨v,vs,hv,h,e⟩=>by subst e;exact cg.drop n h
theorem al4(E:Env)(x:Value):Den E (Jk x) x:=by cases x<;>simp[Jk,Den]
theorem Zu(E:Env):∀l:List Value,cg E (l.map Jk) l
 | []=>rfl
 |x::xs=>⟨x,xs,al4 E x,Zu E xs,rfl⟩
theorem Zx(E:Env)(x:Value):Den E (db x) x:=by
 cases x with
 |agg cs=>exact⟨cs.toList,Zu E _,by simp⟩
 |_=>simp[db,Den]
theorem Hd{E:Env}{y:J}{v:Value}(h:Den E y v)(bf:∀x,y≠ .val (.agg x)):cg E y.cells v.cells.toList:=by
 cases y with
 |agg cs=>obtain⟨x,ar,rfl⟩:=h;simpa[J.cells,Value.cells] using ar
 |val x=>
  have e:v=x:=h;subst e;cases v<;>first|exact absurd rfl (bf _)|exact⟨_,[],rfl,rfl,rfl⟩
 |_=>
  have hv:v.cells.toList=[v]:=by
   first
    |(obtain⟨_,_,_,rfl⟩:=h;rfl)
    |(cases h;rfl)
    |(obtain⟨_,_,_,_,rfl⟩:=h;rfl)
    |(obtain⟨_,_,rfl⟩:=h;rfl)
    |(obtain⟨_,_,_,_,_,rfl⟩:=h;rfl)
    |(rename_i cap _;cases cap<;>(obtain⟨_,_,_,rfl⟩:=h;rfl))
  rw[hv];exact⟨v,[],h,rfl,rfl⟩
theorem al5{E:Env}{y:J}{v:Value}(h:Den E y v)(h1:y.one=true):v.oneCell'=true:=by
 cases y with
 |val x=>
  have e:v=x:=h;subst e;cases v<;>simp_all [J.one,Value.oneCell']
 |agg cs=>simp[J.one] at h1
 |bm cs=>simp[J.one] at h1
 |int k n=>cases h;rfl
 |bool b=>cases h;rfl
 |str s=>cases h;rfl
 |ptr k o=>obtain⟨_,_,_,rfl⟩:=h;rfl
 |aZ k o n cap lo=>cases cap<;>(obtain⟨_,_,_,rfl⟩:=h;rfl)
 |fn f a b=>obtain⟨_,_,_,_,rfl⟩:=h;rfl
 |pK t x=>obtain⟨_,_,rfl⟩:=h;rfl
 |fw k=>obtain⟨_,_,_,rfl⟩:=h;rfl
 |mp k=>obtain⟨_,_,_,rfl⟩:=h;rfl
 |kR k=>obtain⟨_,_,rfl⟩:=h;rfl
def lu(E:Env):gL->List PanicEntry->Prop
 | [],l=>l=[]
 |(y,r)::bj,l=>∃v dD,Den E y v/\lu E bj dD/\l={v,recovered:=r}::dD
def F1(E:Env):eO->Deferred->Prop
 | .call f xs ys,d=>∃a b,cg E xs a/\cg E ys b/\d={target:= .fn (.func f) b.toArray,args:=a.toArray}
 | .sU k,d=>∃id c,E k=some (id,c)/\d={target:= .collected id,args:= #[]}
def jR(E:Env):List eO->List Deferred->Prop
 | [],l=>l=[]
 |y::ys,l=>∃d bh,F1 E y d/\jR E ys bh/\l=d::bh
theorem lu.sub{E aQ:Env}(aB:Sub E aQ):∀{bj:gL} {l:List PanicEntry},lu E bj l->lu aQ bj l
 | [],_,h=>h
 |(_,_)::_,_,⟨v,dD,a,b,e⟩=>⟨v,dD,a.sub aB,lu.sub aB b,e⟩
theorem F1.sub{E aQ:Env}(aB:Sub E aQ):∀{y:eO} {d:Deferred},F1 E y d->F1 aQ y d
 | .call _ _ _,_,⟨a,b,h1,h2,e⟩=>⟨a,b,h1.sub aB,h2.sub aB,e⟩
 | .sU _,_,⟨id,c,h,e⟩=>⟨id,c,aB _ _ h,e⟩
theorem jR.sub{E aQ:Env}(aB:Sub E aQ):∀{ys:List eO} {bh:List Deferred},jR E ys bh->jR aQ ys bh
 | [],_,h=>h
 |_::_,_,⟨d,bh,a,b,e⟩=>⟨d,bh,a.sub aB,jR.sub aB b,e⟩
theorem lu.append{E:Env}:∀{a b:gL} {l m:List PanicEntry},lu E a l->lu E b m->lu E (a++b) (l++m)
 | [],_,_,_,h,h'=>by cases h;exact h'
 |(_,_)::_,_,_,_,⟨v,dD,x,y,e⟩,h'=>by subst e;exact⟨v,_,x,lu.append y h',rfl⟩
theorem Pq:∀(ys:List J) (t:ax J) (off j:Nat) (y:J),(ha t off ys).get j=some y->
 (off<=j/\ys[j-off]?=some y)\/((j<off\/off+ys.length<=j)/\t.get j=some y)
 | [],t,off,j,y,h=> .inr ⟨by simp;omega,h⟩
 |z::ys,t,off,j,y,h=>by
  simp only[ha,force_eq] at h;rcases Pq ys _ _ _ _ h with⟨h1,h2⟩|⟨h1,h2⟩
  ·refine .inl ⟨by omega,?_⟩;rw[show j-off=(j-(off+1))+1 by omega];simpa using h2
  ·rcases iI h2 with⟨e,bf⟩|⟨e,bf⟩
   ·exact .inl ⟨by omega,by subst e;simp[bf]⟩
   ·exact .inr ⟨by simp;omega,bf⟩
theorem x5:∀(ys:List J) (t:ax J) (off j:Nat),(ha t off ys).get j=if off<=j/\j<off+ys.length then ys[j-off]? else t.get j
 | [],t,off,j=>by rw[if_neg (by simp only[List.length_nil];omega)];rfl
 |z::ys,t,off,j=>by
  simp only[ha,force_eq,List.length_cons];rw[x5 ys _ (off+1) j,kG];by_cases e:j=off
  ·subst e;rw[if_neg (by omega),if_pos rfl,if_pos (by omega)];simp
  ·rw[if_neg e];by_cases h1:off+1<=j/\j<off+1+ys.length
   ·rw[if_pos h1,if_pos (by omega),show j-off=(j-(off+1))+1 by omega];simp
   ·rw[if_neg h1,if_neg (by omega)]
theorem Iq(l:List J)(j:Nat)(y:J)(h:(p6 l).get j=some y):l[j]?=some y:=by
 rcases Pq _ _ _ _ _ h with⟨_,h2⟩|⟨_,h2⟩
 ·simpa using h2
 ·cases h2
def L3(E:Env)(o:bH)(obj:Option Obj)(c:Nat):Prop:=
 ∃cs ty lo hi,obj=some (.cells cs ty (lo,hi))/\(∀j y,o.get j=some y->∃v,cs[j]?=some v/\Den E y v)/\
  (o.ro=false->ty=o.ty/\(lo=hi\/cs.size<=lo)/\o.n<=cs.size/\(o.loose=false->cs.size=o.n)/\(o.loose=true->cs.size=c*o.esz))
def zK(E:Env):List (J×J×Nat)->List MapEntry->Prop
 | [],l=>l=[]
 |(k,v,b)::es,l=>∃e dD,Den E k e.key/\Den E v e.val/\e.born=b/\zK E es dD/\l=e::dD
theorem zK.sub{E aQ:Env}(aB:Sub E aQ):∀{es:List (J×J×Nat)} {l:List MapEntry},zK E es l->zK aQ es l
 | [],_,h=>h
 |(_,_,_)::_,_,⟨e,dD,h1,h2,h3,aW,bz⟩=>⟨e,dD,h1.sub aB,h2.sub aB,h3,zK.sub aB aW,bz⟩
def oj(N:Nat)(E:Env)(F:ax J)(tmps:Array Value):Prop:=N<=tmps.size/\∀j y,F.get j=some y->j<N/\∃v,tmps[j]?=some v/\Den E y v
theorem oj.sub{N:Nat}{E aQ:Env}(aB:Sub E aQ){F:ax J}{tmps:Array Value}(h:oj N E F tmps):oj N aQ F tmps:=
 ⟨h.1,λj y aa=>let ⟨l,v,h1,h2⟩:=h.2 j y aa;⟨l,v,h1,h2.sub aB⟩⟩
theorem Pp:∀(l:List (Nat×Option J)) (j:Nat) (y:J),(ji l).get j=some y->(j,some y)∈l
 | [],j,y,h=>by cases h
 |(t,x)::l,j,y,h=>by
  cases x with
  |none=>exact List.mem_cons_of_mem _ (Pp l j y h)
  |some z=>
   have h:((ji l).put t z).get j=some y:=h;rw[kG] at h;by_cases e:j=t
   ·rw[if_pos e] at h;cases h;subst e;exact List.mem_cons_self ..
   ·rw[if_neg e] at h;exact List.mem_cons_of_mem _ (Pp l j y h)
theorem anq{us:List Nat}{F:Nat->Option J}{j:Nat}{y:J}(h:(iq us F).get j=some y):F j=some y:=by
 have:=Pp _ _ _ h
 obtain⟨t,_,e⟩:=List.mem_map.1 this;simp only[Prod.mk.injEq] at e;rw[<- e.1];exact e.2
theorem oj.norm{N:Nat}{E:Env}{F:ax J}{tmps:Array Value}(h:oj N E F tmps){us:List Nat}:oj N E (iq us F.get) tmps:=
 ⟨h.1,λ_ _ aa=>h.2 _ _ (anq aa)⟩
def tw:Jump->Option Code
 | .none=>none
 | .ret=>some .ret
 | .ex id=>some (.exit id)
def ph(P:Program)(E:Env)(s:pg)(obj:Option Obj):Prop:=match s with
 | .cells=>False
 | .iter s pos=>obj=some (.stringIter s pos)
 | .map es clock=>∃l:List MapEntry,obj=some (.map l.toArray clock)/\zK E es l
 | .loop st ir ord _ N F ps a c b=>(gn P ord true a=true/\gn P ord true c=true)/\∃r:Loop,obj=some (.loop r)/\r.state=st/\r.pending=tw ir/\r.params=ps/\r.assign=a/\r.body=c/\(∃cS,E b=some (r.defers,cS))/\oj N E F r.tmps
 | .jI t=>obj=some (.deferred (bif t then none else some []))
theorem ph.sub{P:Program}{E aQ:Env}(aB:Sub E aQ){s:pg}{obj:Option Obj}(h:ph P E s obj):ph P aQ s obj:=by
 cases s with
 |cells=>exact h
 |iter s pos=>exact h
 |map es clock=>obtain⟨l,h1,h2⟩:=h;exact⟨l,h1,h2.sub aB⟩
 |loop st ir ord me N F ps a c b=>
  obtain⟨h0,r,h1,h2,h3,aW,bz,bB,⟨cS,dW⟩,gE⟩:=h;exact⟨h0,r,h1,h2,h3,aW,bz,bB,⟨cS,aB _ _ dW⟩,gE.sub aB⟩
 |jI t=>exact h
theorem ph.there{P:Program}{E:Env}{s:pg}{obj:Option Obj}(h:ph P E s obj):∃x,obj=some x:=by
 cases s with
 |cells=>exact h.elim
 |iter s pos=>exact⟨_,h⟩
 |map es clock=>obtain⟨l,h1,h2⟩:=h;exact⟨_,h1⟩
 |loop st ir ord me N F ps a c b=>obtain⟨h0,r,h1,_⟩:=h;exact⟨_,h1⟩
 |jI t=>exact⟨_,h⟩
def lz(P:Program)(E:Env)(o:bH)(obj:Option Obj)(c:Nat):Prop:=(o.sp= .cells/\L3 E o obj c)\/(ph P E o.sp obj/\o.n=0/\o.ro=true)
theorem aBx{P:Program}{E:Env}{s:pg}{obj:Option Obj}(h:ph P E s obj):s≠ .cells:=λe=>by subst e;exact h
theorem lz.cs{P:Program}{E:Env}{o:bH}{obj:Option Obj}{c:Nat}(h:lz P E o obj c)(gT:o.ro=false):o.sp= .cells/\L3 E o obj c:=by
 rcases h with h|⟨_,_,h⟩
 ·exact h
 ·rw[gT] at h;cases h
theorem lz.there{P:Program}{E:Env}{o:bH}{obj:Option Obj}{c:Nat}(h:lz P E o obj c):∃x,obj=some x:=by
 rcases h with⟨_,cs,ty,lo,hi,h,_⟩|⟨h,_⟩
 ·exact⟨_,h⟩
 ·exact h.there
theorem lz.sub{P:Program}{E aQ:Env}(aB:Sub E aQ){o:bH}{obj:Option Obj}{c:Nat}(h:lz P E o obj c):lz P aQ o obj c:=by
 rcases h with⟨hi,cs,ty,lo,cF,h0,h1,h2⟩|⟨h,h'⟩
 ·exact .inl ⟨hi,cs,ty,lo,cF,h0,λj y aa=>let ⟨v,a,b⟩:=h1 j y aa;⟨v,a,b.sub aB⟩,h2⟩
 ·exact .inr ⟨h.sub aB,h'⟩
theorem lz.mono{P:Program}{E aQ:Env}(aB:cM E aQ){o:bH}{obj:Option Obj}{c:Nat}(h:lz P E o obj c):lz P aQ o obj c:=h.sub aB.sub
structure bP (P:Program) (B:Nat) (aY:World) (X:ah) (E:Env) (w:World):Prop where
 os:w.os=aY.os
 tape:w.tape=aY.tape
 output:w.output=aY.output
 base:B<=w.heap.size
 gz:∀k,k<B->w.heap[k]?=aY.heap[k]?
 obj:∀k o,X.aV.get k=some o->∃id c,E k=some (id,c)/\lz P E o w.heap[id]? c/\(o.ro=false\/o.sp≠ .cells->B<=id)
 inj:∀k b5 o o' id c a3,X.aV.get k=some o->X.aV.get b5=some o'->E k=some (id,c)->E b5=some (id,a3)->k=b5
 fresh:∀k,X.next<=k->E k=none
 m8:∀g,g<X.aK->∃c,E g=some (g,c)
 j7:E.n<=X.next
section
variable{P:Program}{B:Nat}{aY w:World}{X:ah}{E:Env}
theorem bP.drew(h:bP P B aY X E w):bP P B aY X E {w with drawn:=w.drawn+1}:=
 ⟨h.os,h.tape,h.output,h.base,h.gz,h.obj,h.inj,h.fresh,h.m8,h.j7⟩
theorem bP.same{af:ah}(h:bP P B aY X E w)(h1:af.aV=X.aV)(h2:af.next=X.next)(h3:af.aK=X.aK):bP P B aY af E w:=
 ⟨h.os,h.tape,h.output,h.base,h.gz,by rw[h1];exact h.obj,by rw[h1];exact h.inj,by rw[h2];exact h.fresh,by rw[h3];exact h.m8,by rw[h2];exact h.j7⟩
theorem bP.lt(h:bP P B aY X E w){k:Nat}{o:bH}(ai:X.aV.get k=some o):k<X.next:=by
 obtain⟨id,c,he,_⟩:=h.obj k o ai;rcases Nat.lt_or_ge k X.next with h1|h1
 ·exact h1
 ·rw[h.fresh k h1] at he;cases he
theorem bH.x4{o:bH}{j:Nat}{y:J}(h:o.get j=some y):j<o.n:=by
 unfold bH.get at h;cases ag:Nat.blt j o.n with
 |true=>exact Nat.blt_eq▸ag
 |false=>simp[ag] at h
theorem lz.cell{o:bH}{id c j:Nat}{y:J}(h:lz P E o w.heap[id]? c)(aa:o.get j=some y):
 ∃v,w.cell? ⟨id,j,none⟩=some v/\Den E y v:=by
 rcases h with⟨_,cs,ty,lo,hi,h0,h1,_⟩|⟨_,h,_⟩
 rotate_left
 ·have:=bH.x4 aa;omega
 obtain⟨v,hv,aH⟩:=h1 j y aa;exact⟨v,by simp[World.cell?,h0,hv],aH⟩
def Env.put(E:Env)(k id c:Nat):Env:={f:=λj=>if j=k then some (id,c) else E j,n:=E.n}
theorem Env.q2(E:Env){k j:Nat}(id c:Nat)(h:j≠k):E.put k id c j=E j:=if_neg h
theorem Env.lS(E:Env)(k id c:Nat):E.put k id c k=some (id,c):=if_pos rfl
theorem Env.WY{E:Env}{k id c:Nat}(h:E k=none):Sub E (E.put k id c):=λj x ar=>by
 by_cases e:j=k
 ·subst e;rw[h] at ar;cases ar
 ·rw[Env.q2 E id c e];exact ar
theorem Env.r9{E:Env}{k id c:Nat}(h:E k=none)(aO:E.n<=k):cM E (E.put k id c):=⟨rfl,Env.WY h,λj aa=>Env.q2 E id c (by omega)⟩
theorem bP.Jm(h:bP P B aY X E w)(o:bH)(ob:Obj)(c:Nat)
 (fs:∀aQ,cM E aQ->lz P aQ o (some ob) c):
 bP P B aY (X.new o).2 (E.put X.next w.heap.size c) (w.alloc ob):=by
 have hle:cM E (E.put X.next w.heap.size c):=Env.r9 (h.fresh _ (Nat.le_refl _)) h.j7
 have yr:∀k o',X.aV.get k=some o'->∀id a3,E k=some (id,a3)->id<w.heap.size:=by
  intro k o' ai id a3 he;obtain⟨gF,aEO,fF,Qj,_⟩:=h.obj k o' ai;obtain⟨_,nU⟩:=Qj.there;rw[he] at fF;cases fF;rcases Nat.lt_or_ge id w.heap.size with h1|h1
  ·exact h1
  ·rw[Array.getElem?_eq_none h1] at nU;cases nU
 have hold:∀k,k<w.heap.size->(w.alloc ob).heap[k]?=w.heap[k]?:=λk ai=>by
  show(w.heap.push _)[k]?=_;rw[Array.getElem?_push,if_neg (by omega)]
 have aoT:(w.alloc ob).heap[w.heap.size]?=some ob:=by
  show(w.heap.push _)[w.heap.size]?=_;simp
 have aB:∀k,k≠X.next->(E.put X.next w.heap.size c) k=E k:=λk ai=>Env.q2 E _ _ ai
 refine⟨h.os,h.tape,h.output,by simp;have:=h.base;omega,λk ai=>?_,λk o' ai=>?_,λk b5 dN df id aS a2 ai cP he fF=>?_,λk ai=>?_,λg bd=>let ⟨c,ae⟩:=h.m8 g bd;⟨c,hle.sub _ _ ae⟩,Nat.le_succ_of_le h.j7⟩
 ·rw[hold k (by have:=h.base;omega)];exact h.gz k ai
 ·rcases cE.iI ai with⟨e,aq⟩|⟨e,aq⟩
  ·subst e;subst aq;exact⟨w.heap.size,c,Env.lS _ _ _ _,by rw[aoT];exact fs _ hle,λ_=>h.base⟩
  ·obtain⟨id,a3,he,aI,ag⟩:=h.obj k o' aq;exact⟨id,a3,hle.sub _ _ he,by rw[hold id (yr k o' aq id a3 he)];exact aI.mono hle,ag⟩
 ·rcases cE.iI ai with⟨e,_⟩|⟨e,aq⟩<;>rcases cE.iI cP with⟨bg,_⟩|⟨bg,gh⟩
  ·rw[e,bg]
  ·subst e;rw[Env.lS] at he;cases he;rw[aB _ bg] at fF
   have:=yr b5 df gh _ _ fF
   omega
  ·subst bg;rw[Env.lS] at fF;cases fF;rw[aB _ e] at he
   have:=yr k dN aq _ _ he
   omega
  ·rw[aB _ e] at he;rw[aB _ bg] at fF;exact h.inj k b5 dN df id aS a2 aq gh he fF
 ·have cP:X.next+1<=k:=ai
  rw[aB k (by omega)];exact h.fresh k (by omega)
theorem bP.new(h:bP P B aY X E w)(o:bH)(cs:Array Value)(c lo hi:Nat)(_hro:o.ro=false)(v7:o.sp= .cells)
 (fs:∀aQ,cM E aQ->L3 aQ o (some (.cells cs o.ty (lo,hi))) c):
 bP P B aY (X.new o).2 (E.put X.next w.heap.size c) (w.alloc (.cells cs o.ty (lo,hi))):=h.Jm o _ c λaQ hle=> .inl ⟨v7,fs aQ hle⟩
def Good(P:Program)(B:Nat)(aY:World)(E:Env)(w:World)(s:Sem Value)(y:J)(af:ah):Prop:=
 ∃aQ v w',cM E aQ/\s.run P w= .ok v w'/\Den aQ y v/\bP P B aY af aQ w'
theorem Good.pure{s:Sem Value}{y:J}{v:Value}(aB:bP P B aY X E w)(aI:s.run P w= .ok v w)(aH:Den E y v):Good P B aY E w s y X:=
 ⟨E,v,w,cM.refl _,aI,aH,aB⟩
theorem Rg{ty:TypeId}{ys:List J}{vs:List Value}(aB:bP P B aY X E w)(hv:cg E ys vs):
 ∃aQ,cM E aQ/\aQ (newRow X ty ys).1=some (w.heap.size,0)/\bP P B aY (newRow X ty ys).2 aQ (w.alloc (.cells vs.toArray ty))/\(Go.newRow ty vs.toArray).run P w= .ok ⟨w.heap.size,0,none⟩ (w.alloc (.cells vs.toArray ty)):=by
 unfold Xe.newRow;rw[force_eq];refine⟨E.put X.next w.heap.size 0,Env.r9 (aB.fresh _ (Nat.le_refl _)) aB.j7,Env.lS _ _ _ _,aB.new _ vs.toArray 0 0 0 rfl rfl λaQ hle=>?_,rfl⟩;refine⟨vs.toArray,_,0,0,rfl,λj y aa=>?_,λ_=>⟨rfl,.inl rfl,by simp[hv.length],λ_=>by simp[hv.length],λh=>by cases h⟩⟩;have ba:=bH.x4 aa;unfold bH.get at aa;have ag:Nat.blt j ys.length=true:=by rw[Nat.blt_eq];exact ba
 simp only[ag,cond_true] at aa;cases aq:(p6 ys).get j with
 |none=>simp[aq] at aa
 |some z=>
  simp only[aq] at aa;cases aa;obtain⟨v,h1,h2⟩:=(hv.mono hle).get j _ (Iq _ _ _ aq);exact⟨v,by simpa using h1,h2⟩
def cG(X:ah):Prop:=∀p∈X.pc,p
theorem rE{X af:ah}{y:J}{b:Bool}(h:fZ X y=some (b,af)):(cG af->cG X/\∀E v,Den E y v->v= .bool b)/\af.aV=X.aV/\af.next=X.next/\af.aK=X.aK:=by
 cases y with
 |bool c=>
  simp only[fZ,Option.some.injEq,Prod.mk.injEq] at h;obtain⟨rfl,rfl⟩:=h;exact⟨λaC=>⟨aC,λE v hv=>hv⟩,rfl,rfl,rfl⟩
 |val x=>
  cases x with
  |bool s=>
   simp only[fZ,ah.ask] at h;split at h
   ·rename_i o os aq;simp only[Option.some.injEq,Prod.mk.injEq] at h;obtain⟨rfl,rfl⟩:=h;refine⟨λaC=>⟨λp h=>aC p (List.mem_cons_of_mem _ h),λE v hv=>?_⟩,rfl,rfl,rfl⟩;have e:s=o:=aC (s=o) (List.mem_cons_self ..);have eI:v= .bool s:=hv;rw[eI,e]
   ·cases h
  |_=>simp[fZ] at h
 |_=>simp[fZ] at h
theorem YE{X af:ah}{y:J}{b want:Bool}(h:lB X want y=some (b,af)):(cG af->cG X/\∀E v,Den E y v->(∃c,v= .bool c/\(c==want)=b)\/(∃a,v= .tuple a/\b=false))/\af.aV=X.aV/\af.next=X.next/\af.aK=X.aK:=by
 unfold lB at h;cases aN:tv y with
 |true=>
  simp only[aN,cond_true,Option.some.injEq,Prod.mk.injEq] at h;obtain⟨rfl,rfl⟩:=h;refine⟨λaC=>⟨aC,λE v hv=> .inr ?_⟩,rfl,rfl,rfl⟩;unfold tv at aN;split at aN<;>try(cases aN;done)
  exact⟨_,hv,rfl⟩
 |false=>
  simp only[aN,cond_false] at h;split at h<;>try(cases h;done)
  rename_i b' X1 ag;cases h;obtain⟨h1,h2,h3,aW⟩:=rE ag;exact⟨λaC=>⟨(h1 aC).1,λE v hv=> .inl ⟨b',(h1 aC).2 E v hv,rfl⟩⟩,h2,h3,aW⟩
end
section
variable{P:Program}{B:Nat}{aY w:World}{X:ah}{E:Env}
theorem jj{t:TypeId}{n:Nat}(h:dP P t=some n)(w:World):(sizeOf t).run P w= .ok n w:=by
 unfold dP at h;split at h<;>simp at h
 rename_i i hi;subst h;simp[sizeOf,typeInfo,hi]
theorem Lp{t:TypeId}{n:Nat}(h:n8 P t=some n)(w:World):∃i,(typeInfo t).run P w= .ok i w/\i.bytes=n:=by
 unfold n8 at h;split at h<;>simp at h
 rename_i i hi;exact⟨i,by simp[typeInfo,hi],h⟩
theorem zu{t:TypeId}{z:Value}(h:hb P t=some z)(w:World):(zeroValue t).run P w= .ok z w:=by
 unfold hb at h;split at h<;>try(cases h;done)
 rename_i i hi;simp[zeroValue,typeInfo,hi,h]
theorem Lo{t:TypeId}{b:Bool}(h:oZ P t=some b)(w:World):(isAgg t).run P w= .ok b w:=by
 unfold oZ at h;unfold isAgg;rw[Sem.run_bind];split at h<;>simp only[Option.some.injEq,reduceCtorEq] at h
 ·rename_i fO hu;subst h;simp[underlying,hu]
 ·rename_i n e hu;subst h;simp[underlying,hu]
 ·rename_i d DG gb hu;subst h;simp only[underlying,Sem.run_bind,run_program,Result.andThen_ok,hu,Sem.run_pure]
  all_goals (split<;>first|exact absurd rfl (DG _)|exact absurd rfl (gb _ _)|rfl)
theorem ec{t:TypeId}{d:TypeDesc}(h:P.underlying t=some d)(w:World):(underlying t).run P w= .ok d w:=by
 simp[underlying,h]
theorem Ed{o:bH}{id c:Nat}(aI:lz P E o w.heap[id]? c):∀(n off:Nat) (ys:List J),j4 o off n=some ys->
 ∃vs,cg E ys vs/\vs.length=n/\∀j v,vs[j]?=some v->w.cell? ⟨id,off+j,none⟩=some v
 |0,off,ys,h=>by simp[j4] at h;subst h;exact⟨[],rfl,rfl,λj v aa=>by simp at aa⟩
 |n+1,off,ys,h=>by
  simp only[j4] at h;split at h<;>try(simp at h;done)
  rename_i y bf;split at h<;>try(simp at h;done)
  rename_i vk ft;simp at h;subst h;obtain⟨vs,h1,h2,h3⟩:=Ed aI n (off+1) vk ft;obtain⟨v,hv,aH⟩:=aI.cell bf;refine⟨v::vs,⟨v,vs,aH,h1,rfl⟩,by simp[h2],λj u aa=>?_⟩;cases j with
  |zero=>simp at aa;subst aa;exact hv
  |succ j=>simp at aa;have:=h3 j u aa;rwa[show off+1+j=off+(j+1) by omega] at this
theorem aee(aB:bP P B aY X E w){t:TypeId}{k off:Nat}{y:J}(h:lV P t X k off=some y){id c:Nat}(ai:E k=some (id,c)):
 ∃v,(loadVar t ⟨id,off,none⟩).run P w= .ok v w/\Den E y v:=by
 unfold lV at h;split at h
 ·rename_i o n aq b1 al;obtain⟨gF,a3,cP,aI,_⟩:=aB.obj k o aq;rw[ai] at cP;cases cP;split at h<;>simp at h
  rename_i ys ft;subst h;obtain⟨vs,h1,h2,h3⟩:=Ed aI n off ys ft;refine⟨.agg vs.toArray,?_,vs,h1,rfl⟩
  have:=run_loadCells_list (P:=P) (w:=w) ⟨id,off,none⟩ vs (λj v aa=>by rw[Addr.add_lit];exact h3 j v aa)
  rw[h2] at this;simp[loadVar,Lo b1,jj al,this]
 ·rename_i o n aq b1 al;obtain⟨gF,a3,cP,aI,_⟩:=aB.obj k o aq;rw[ai] at cP;cases cP;obtain⟨v,hv,aH⟩:=aI.cell h;exact⟨v,by simp[loadVar,Lo b1,hv],aH⟩
 ·cases h
theorem WU(P:Program)(id off:Nat)(ty:TypeId)(lo hi:Nat):∀(vs:List Value) (i:Nat) (w:World) (cs:Array Value),w.heap[id]?=some (.cells cs ty (lo,hi))->
 (∀v∈vs,v.oneCell'=true)->(∀j,j<vs.length->off+i+j<cs.size/\(decide (lo<=off+i+j)&&decide (off+i+j<hi))=false)->
 ∃w' m3,(storeCells ⟨id,off,none⟩ vs i).run P w= .ok () w'/\w'.os=w.os/\w'.tape=w.tape/\w'.output=w.output/\w'.heap.size=w.heap.size/\(∀k,k≠id->w'.heap[k]?=w.heap[k]?)/\
  w'.heap[id]?=some (.cells m3 ty (lo,hi))/\m3.size=cs.size/\(∀j,m3[j]?=if off+i<=j/\j<off+i+vs.length then vs[j-(off+i)]? else cs[j]?)
 | [],i,w,cs,ag,_,_=>⟨w,cs,rfl,rfl,rfl,rfl,rfl,λ_ _=>rfl,ag,rfl,λj=>by rw[if_neg (by simp only[List.length_nil];omega)]⟩
 |v::vs,i,w,cs,ag,h1,h2=>by
  obtain⟨ba,oJ⟩:=h2 0 (by simp);simp only[Nat.add_zero] at ba oJ;have ae:w.cell? ⟨id,off+i,none⟩=some cs[off+i]:=by simp[World.cell?,ag,ba]
  have an:w.frozen? ⟨id,off+i,none⟩=false:=by simp only[World.frozen?,ag];exact oJ
  have iL:(w.setCell ⟨id,off+i,none⟩ v).heap[id]?=some (.cells (cs.setIfInBounds (off+i) v) ty (lo,hi)):=by
   simp[World.setCell,Array.getElem?_modify,ag]
  obtain⟨w',m3,aI,aq,aN,rX,dR,uO,jZ,eA,th⟩:=WU P id off ty lo hi vs (i+1) (w.setCell ⟨id,off+i,none⟩ v) (cs.setIfInBounds (off+i) v) iL
   (λu hu=>h1 u (List.mem_cons_of_mem _ hu)) (λj aa=>by
     have:=h2 (j+1) (by simp;omega)
     rw[show off+(i+1)+j=off+i+(j+1) by omega]
     simpa using this)
  refine⟨w',m3,?_,aq.trans rfl,aN.trans rfl,rX.trans rfl,dR.trans (by simp),λk ai=>(uO k ai).trans ?_,jZ,by simpa using eA,λj=>?_⟩
  ·simp only[storeCells,Sem.run_bind,Addr.add_lit];rw[run_store P w _ v .plain (h1 v (List.mem_cons_self ..)),ae,an];simpa using aI
  ·simp only[World.setCell,Array.getElem?_modify];rw[if_neg (by simpa using λe=>ai e.symm)]
  ·rw[th j];by_cases e:j=off+i
   ·subst e;rw[if_neg (by omega),if_pos (by simp)];simp[ba]
   ·by_cases je:off+(i+1)<=j/\j<off+(i+1)+vs.length
    ·rw[if_pos je,if_pos (by simp;omega),show j-(off+i)=(j-(off+(i+1)))+1 by omega];simp
    ·rw[if_neg je,if_neg (by simp;omega)];simp[Array.getElem?_setIfInBounds_ne (λh=>e h.symm)]
theorem Nt:∀{ys:List J} {vs:List Value},cg E ys vs->dZ ys=true->∀v∈vs,v.oneCell'=true
 | [],_,h,_=>by cases h;simp
 |y::ys,_,⟨v,vs,hv,h,e⟩,h1=>by
  subst e;simp only[dZ,Bool.and_eq_true] at h1;intro u hu;rcases List.mem_cons.1 hu with rfl|hu
  ·exact al5 hv h1.1
  ·exact Nt h h1.2 u hu
theorem am0{y:J}(h:dZ y.cells=true):∀x,y≠ .val (.agg x):=λx e=>by
 subst e;simp[J.cells,dZ,J.one] at h
theorem bP.stored(aB:bP P B aY X E w){k id c:Nat}{o:bH}(aq:X.aV.get k=some o)(ai:E k=some (id,c))(gT:o.ro=false){off:Nat}{ys:List J}{vs:List Value}
 (hv:cg E ys vs)(h1:dZ ys=true)(hlen:off+ys.length<=o.n)(Q:Program):
 ∃w',(storeCells ⟨id,off,none⟩ vs 0).run Q w= .ok () w'/\bP P B aY {X with aV:=X.aV.put k {o with cn:=o.cn+1,fy:=ha o.fy off ys}} E w':=by
 obtain⟨gF,a3,cP,fs,rQ⟩:=aB.obj k o aq;obtain⟨v7,cs,ty,lo,hi,ag,ae,yz⟩:=fs.cs gT;rw[ai] at cP;cases cP;obtain⟨tr,oJ,aO,oK,kI⟩:=yz gT;subst tr;have AN:=hv.length;obtain⟨w',m3,aI,Qg,aN,rX,dR,uO,jZ,eA,th⟩:=WU Q id off o.ty lo hi vs 0 w cs ag (Nt hv h1) (λj aa=>⟨by omega,by rcases oJ with e|e<;>simp<;>omega⟩);refine⟨w',aI,Qg.trans aB.os,aN.trans aB.tape,rX.trans aB.output,by rw[dR];exact aB.base,λb5 cP=>?_,λb5 o' cP=>?_,λk1 k2 dN df i aS a2 ac2 AL aon yh=>?_,aB.fresh,aB.m8,aB.j7⟩
 ·have:=rQ (.inl gT)
  rw[uO b5 (by omega)];exact aB.gz b5 cP
 ·rcases cE.iI cP with⟨e,aA⟩|⟨e,gh⟩
  ·subst e;subst aA;refine⟨id,c,ai,.inl ⟨v7,m3,_,lo,hi,jZ,λj y aa=>?_,λ_=>⟨rfl,by rw[eA];exact oJ,by simpa[eA] using aO,λh=>by rw[eA];exact oK h,λh=>by rw[eA];exact kI h⟩⟩,rQ⟩;have AJ:j<o.n:=bH.x4 (o:={o with cn:=o.cn+1,fy:=ha o.fy off ys}) aa;have nP:Nat.blt j o.n=true:=by rw[Nat.blt_eq];exact AJ
   rw[th j];simp only[Nat.add_zero];unfold bH.get at aa;simp only[nP,cond_true] at aa;rw[x5 ys o.fy off j] at aa;by_cases je:off<=j/\j<off+ys.length
   ·rw[if_pos je] at aa;rw[if_pos (by omega)];cases bf:ys[j-off]? with
    |none=>rw[List.getElem?_eq_none_iff] at bf;omega
    |some z=>
     simp only[bf] at aa;cases aa;exact hv.get _ _ bf
   ·rw[if_neg je] at aa;rw[if_neg (by omega)];exact ae j y (by unfold bH.get;simp[nP];exact aa)
  ·obtain⟨i,a3,he,fs,yc⟩:=aB.obj b5 o' gh;have b4:i≠id:=λaA=>e (aB.inj b5 k o' o i a3 c gh aq he (by rw[ai,aA]))
   exact⟨i,a3,he,by rw[uO i b4];exact fs,yc⟩
 ·have f1:∃Ei,X.aV.get k1=some Ei:=by
   rcases cE.iI ac2 with⟨e,_⟩|⟨_,h⟩
   ·exact⟨o,e▸aq⟩
   ·exact⟨_,h⟩
  have f2:∃Ej,X.aV.get k2=some Ej:=by
   rcases cE.iI AL with⟨e,_⟩|⟨_,h⟩
   ·exact⟨o,e▸aq⟩
   ·exact⟨_,h⟩
  obtain⟨Ei,jY⟩:=f1;obtain⟨Ej,kq⟩:=f2;exact aB.inj k1 k2 Ei Ej i aS a2 jY kq aon yh
end
section
variable{P:Program}{B:Nat}{aY w:World}{X:ah}{E:Env}
theorem am4(new:List Value):∀(off:Nat) (cs:Array Value) (i:Nat),off+i+new.length<=cs.size->
 ((new.zipIdx i).foldl (λ(cs:Array Value) (x:Value×Nat)=>cs.setIfInBounds (off+x.2) x.1) cs).toList=cs.toList.take (off+i)++new++cs.toList.drop (off+i+new.length):=by
 induction new with
 |nil=>intro off cs i h;simp
 |cons v new bc=>
  intro off cs i h;simp only[List.length_cons] at h;simp only[List.zipIdx_cons,List.foldl_cons];rw[bc off _ (i+1) (by simp;omega)];have ba:off+i<cs.toList.length:=by simp;omega
  simp only[Array.toList_setIfInBounds];rw[show off+(i+1)=off+i+1 by omega];rw[List.take_succ_eq_append_getElem (by simpa using ba)];rw[List.take_set_of_le (by omega),List.getElem_set_self];rw[List.drop_set_of_lt (by omega)];simp[Nat.add_assoc,Nat.add_comm 1]
theorem Hx{place:Nat->Option (Nat×Nat)}:∀(gi:List Nat) (ys:List J) (vs:List Value) (cells:List J) (fi:Array Value) (cs:List J),cg E ys vs->cg E cells fi.toList->
 pB place cells (gi.zip ys)=some cs->∃G9,Instr.fill place fi (gi.zip vs)=some G9/\cg E cs G9.toList
 | [],ys,vs,cells,fi,cs,hv,ae,h=>by
   simp[pB] at h;subst h;exact⟨fi,by simp[Instr.fill],ae⟩
 |i::gi,[],vs,cells,fi,cs,hv,ae,h=>by
  cases hv;simp[pB] at h;subst h;exact⟨fi,by simp[Instr.fill],ae⟩
 |i::gi,y::ys,_,cells,fi,cs,⟨v,vs,bf,hv,e⟩,ae,h=>by
  subst e;simp only[List.zip_cons_cons,pB] at h;cases aC:place i with
  |none=>simp[aC] at h
  |some os=>
   obtain⟨off,size⟩:=os;simp only[aC] at h;cases an:y.flat with
   |false=>simp[an] at h
   |true=>
    cases h1:Nat.beq y.cells.length size with
    |false=>simp[an,h1] at h
    |true=>
     cases h2:Nat.ble (off+size) cells.length with
     |false=>simp[an,h1,h2] at h
     |true=>
      simp only[an,h1,h2,Bool.and_self,cond_true] at h;have jY:=Nat.eq_of_beq_eq_true h1;have kq:=Nat.le_of_ble_eq_true h2;have Dw:∀x,y≠ .val (.agg x):=λx e=>by subst e;simp[J.flat] at an
      have Qy:=Hd bf Dw;have oK:=Qy.length;have kI:=ae.length;simp only[Array.length_toList] at oK kI
      have wi:(v.cells.zipIdx.foldl (λ(cs:Array Value) (x:Value×Nat)=>cs.setIfInBounds (off+x.2) x.1) fi).toList=fi.toList.take off++v.cells.toList++fi.toList.drop (off+v.cells.toList.length):=by
       rw[<- Array.foldl_toList,Array.toList_zipIdx]
       have:=am4 v.cells.toList off fi 0 (by simp;omega)
       simpa using this
      have aH:cg E (Fu cells off y.cells) (v.cells.zipIdx.foldl (λ(cs:Array Value) (x:Value×Nat)=>cs.setIfInBounds (off+x.2) x.1) fi).toList:=by
       rw[wi];unfold Fu
       have:=(cg.take off ae).append Qy
       refine this.append ?_;rw[Qy.length];exact cg.drop _ ae
      obtain⟨G9,yi,oG⟩:=Hx gi ys vs _ _ cs hv aH h;refine⟨G9,?_,oG⟩;simp only[List.zip_cons_cons,Instr.fill,aC];rw[if_neg]
      ·exact yi
      ·simp;omega
theorem Zw{z:List J}{tZ:List Value}(h:cg E z tZ):∀n,cg E (si z n) (List.replicate n tZ).flatten
 |0=>by simp[si,cg]
 |n+1=>by simp only[si,List.replicate_succ,List.flatten_cons];exact h.append (Zw h n)
theorem azR(tZ:Array Value)(n:Nat):((Array.range (n*tZ.size)).map (tZ[· %tZ.size]!)).toList=(List.replicate n tZ.toList).flatten:=by
 induction n with
 |zero=>simp
 |succ n bc=>
  rw[List.replicate_succ',List.flatten_append, <- bc];simp only[List.flatten_singleton,Array.toList_map,Array.toList_range];rw[show(n+1)*tZ.size=n*tZ.size+tZ.size by rw[Nat.add_mul];omega,List.range_add,List.map_append];congr 1;apply List.ext_getElem
  ·simp
  ·intro i h1 h2;simp at h1 h2⊢;rw[Nat.mod_eq_of_lt (by omega)];simp[*]
theorem wz(z:Value):cg E (db z).cells z.cells.toList:=Hd (Zx E z) (λx e=>by cases z<;>simp[db] at e)
theorem ajQ(aB:bP P B aY X E w){e:TypeId}{y:J}{af:ah}(h:pX P e X=some (y,af)):Good P B aY E w (Instr.alloc e true (.tuple #[])) y af:=by
 unfold pX at h;split at h<;>simp at h
 rename_i z a1;obtain⟨rfl,rfl⟩:=h;obtain⟨aQ,hle,ai,eu,fx⟩:=Rg (P:=P) (ty:=e) aB (wz (E:=E) z);refine⟨aQ,.pointer (some ⟨w.heap.size,0,none⟩),_,hle,?_,⟨_,_,ai,rfl⟩,eu⟩;have AT:(Go.newRow e z.cells).run P w= .ok ⟨w.heap.size,0,none⟩ (w.alloc (.cells z.cells.toList.toArray e)):=by simpa using fx
 simp[Instr.alloc,zu a1,newVar,AT]
theorem akK(aB:bP P B aY X E w){e:TypeId}{x y:J}{v:Value}{af:ah}(ar:Den E x v)(h:pZ e x X=some (y,af)):Good P B aY E w (Instr.box e v) y af:=by
 unfold pZ at h;cases an:x.flat with
 |false=>simp[an] at h
 |true=>
  simp only[an,cond_true,Option.some.injEq,Prod.mk.injEq] at h;obtain⟨rfl,rfl⟩:=h;have Dw:∀z,x≠ .val (.agg z):=λz e=>by subst e;simp[J.flat] at an
  obtain⟨aQ,hle,ai,eu,fx⟩:=Rg (P:=P) (ty:=e) aB (Hd ar Dw);refine⟨aQ,.pointer (some ⟨w.heap.size,0,none⟩),_,hle,?_,⟨_,_,ai,rfl⟩,eu⟩;have AT:(Go.newRow e v.cells).run P w= .ok ⟨w.heap.size,0,none⟩ (w.alloc (.cells v.cells.toList.toArray e)):=by simpa using fx
  simp[Instr.box,newVar,AT]
theorem Xu(ps:Array (Nat×Operand))(lq:Operand->Value):(ps.toList.map (·.1)).zip (ps.toList.map λp=>lq p.2)=(ps.map λ(i,x)=>(i,lq x)).toList:=by
 simp only[Array.toList_map];generalize ps.toList=l
 induction l with
 |nil=>rfl
 |cons p l bc=>simp[bc]
theorem akM(aB:bP P B aY X E w){t:TypeId}{ps:Array (Nat×Operand)}{lq:Operand->Value}{ys:List J}{y:J}(hv:cg E ys (ps.toList.map λp=>lq p.2))
 (h:hZ P t (ps.toList.map (·.1)) ys=some y):Good P B aY E w (Instr.build t (ps.map λ(i,x)=>(i,lq x))) y X:=by
 unfold hZ at h;split at h<;>try(cases h;done)
 rename_i z a1;split at h
 ·rename_i fO hu;split at h<;>try(cases h;done)
  rename_i pl iN;split at h<;>try(cases h;done)
  rename_i cs yi;simp only[Option.some.injEq] at h;subst h;obtain⟨fi,an,aH⟩:=Hx (E:=E) (ps.toList.map (·.1)) ys _ _ _ cs hv (wz z) yi;rw[Xu] at an;refine Good.pure aB (v:= .agg fi) ?_ ⟨fi.toList,aH,by simp⟩;simp only[Array.toList_map] at an;simp[Instr.build,zu a1,ec hu,Array.mapM_eq_mapM_toList,run_places w _ _ iN,an]
 ·rename_i n e hu;split at h<;>try(cases h;done)
  rename_i s al;split at h<;>try(cases h;done)
  rename_i cs yi;simp only[Option.some.injEq] at h;subst h;obtain⟨fi,an,aH⟩:=Hx (E:=E) (ps.toList.map (·.1)) ys _ _ _ cs hv (wz z) yi;rw[Xu] at an;refine Good.pure aB (v:= .agg fi) ?_ ⟨fi.toList,aH,by simp⟩;simp only[Array.toList_map] at an;simp[Instr.build,zu a1,ec hu,jj al,an]
 ·cases h
end
section
variable{P:Program}{B:Nat}{aY w:World}{X:ah}{E:Env}
theorem akL(aB:bP P B aY X E w){t:TypeId}{len:Nat}{ps:Array (Nat×Operand)}{lq:Operand->Value}{ys:List J}{y:J}{af:ah}(hv:cg E ys (ps.toList.map λp=>lq p.2))
 (h:oV P t len (ps.toList.map (·.1)) ys X=some (y,af)):Good P B aY E w (Instr.buildSlice t len (ps.map λ(i,x)=>(i,lq x))) y af:=by
 unfold oV at h;split at h<;>try(cases h;done)
 rename_i e hu;split at h<;>try(cases h;done)
 rename_i s z al a1;cases h1:Nat.ble (len*s) 65536 with
 |false=>simp[h1] at h
 |true=>
 cases h2:Nat.ble 1 s with
 |false=>simp[h1,h2] at h
 |true=>
 cases h3:Nat.beq (db z).cells.length s with
 |false=>simp[h1,h2,h3] at h
 |true=>
 simp only[h1,h2,h3,Bool.and_self,cond_true] at h;have jY:=Nat.le_of_ble_eq_true h1;have kq:=Nat.le_of_ble_eq_true h2;have qu:=Nat.eq_of_beq_eq_true h3;split at h<;>try(cases h;done)
 rename_i cs yi;simp only[Option.some.injEq,Prod.mk.injEq] at h;obtain⟨rfl,rfl⟩:=h;have qE:=wz (E:=E) z;have hj:=qE.length;simp only[Array.length_toList] at hj
 have te:cg E (si (db z).cells len) ((Array.range (len*s)).map (z.cells[· %z.cells.size]!)).toList:=by
  rw[show len*s=len*z.cells.size by rw[hj,qu],azR];exact Zw qE len
 obtain⟨fi,an,aH⟩:=Hx (E:=E) (ps.toList.map (·.1)) ys _ _ _ cs hv te yi;rw[Xu] at an;simp only[Array.toList_map] at an;obtain⟨aQ,hle,ai,eu,fx⟩:=Rg (P:=P) (ty:=e) aB aH;refine⟨aQ,.slice (some ⟨w.heap.size,0,none⟩) len len,_,hle,?_,⟨_,_,ai,rfl⟩,eu⟩;have AT:(Go.newRow e fi).run P w= .ok ⟨w.heap.size,0,none⟩ (w.alloc (.cells fi.toList.toArray e)):=by simpa using fx
 unfold Instr.buildSlice;by_cases h0:len*s=0
 ·have hlen:len=0:=by
   rcases Nat.mul_eq_zero.1 h0 with h|h
   ·exact h
   ·omega
  subst hlen;have IF:Instr.fill (λi=>some (i*s,s)) #[] (ps.toList.map λa=>(a.1,lq a.2))=some fi:=by simpa[Array.range_zero'] using an
  simp[ec hu,jj al,IF,AT,Array.range_zero']
 ·simp only[Sem.run_bind,ec hu,jj al,Result.andThen_ok];rw[if_neg (by omega),if_neg h0];simp[zu a1,an,AT]
theorem aqU{ty:TypeId}{z:Value}{s n:Nat}(aB:bP P B aY X E w)(al:(db z).cells.length=s)(kr:1<=s):
 ∃aQ,cM E aQ/\aQ (mQ X ty (n*s) (db z).cells).1=some (w.heap.size,0)/\
  bP P B aY (mQ X ty (n*s) (db z).cells).2 aQ (w.alloc (.cells ((Array.range (n*s)).map (z.cells[· %z.cells.size]!)) ty)):=by
 unfold mQ;rw[force_eq];have hj:z.cells.size=s:=by have:=(wz (E:=E) z).length;simpa[al] using this
 refine⟨E.put X.next w.heap.size 0,Env.r9 (aB.fresh _ (Nat.le_refl _)) aB.j7,Env.lS _ _ _ _,aB.new _ _ 0 0 0 rfl rfl λaQ hle=>?_⟩;refine⟨_,_,0,0,rfl,λj y aa=>?_,λ_=>⟨rfl,.inl rfl,by simp,λ_=>by simp,λh=>by cases h⟩⟩;have ba:=bH.x4 aa;unfold bH.get at aa;have ag:Nat.blt j (n*s)=true:=by rw[Nat.blt_eq];exact ba
 simp only[ag,cond_true,get_nil] at aa;obtain⟨v,h1,h2⟩:=((wz (E:=E) z).mono hle).get _ _ (Iq _ _ _ aa);refine⟨v,?_,h2⟩;have Qb:j<n*s:=ba;rw[al] at h1;have hm:j%s<s:=Nat.mod_lt _ (by omega);simp only[Array.getElem?_toList] at h1;rw[Array.getElem?_map,Array.getElem?_range];simp only[Qb,if_true,Option.map_some,hj];rw[<- h1,getElem!_def,h1]
theorem yZ{y:J}{n:Nat}(h:hX y=some n){v:Value}(hv:Den E y v):∃k,v= .int k n:=by
 unfold hX at h;split at h<;>simp at h
 subst h;exact⟨_,hv⟩
theorem wrap_small{n:Nat}(h:n<=140737488355328):IntKind.i64.wrap (n:Int)=n:=by
 unfold IntKind.wrap;have e:((2:Int) ^ 64)=18446744073709551616:=rfl;have bg:((2:Int) ^ (64-1))=9223372036854775808:=rfl;simp only[IntKind.bits,IntKind.signed,Bool.true_and,e,bg];rw[if_neg (by simp;omega)];omega
theorem aqz(aB:bP P B aY X E w){t:TypeId}{l c y:J}{lv fi:Value}{af:ah}(aL:Den E l lv)(ae:Den E c fi)
 (h:p0 P t l c X=some (y,af)):Good P B aY E w (Instr.makeSlice t lv fi) y af:=by
 unfold p0 at h;split at h<;>try(cases h;done)
 rename_i e hu;split at h<;>try(cases h;done)
 rename_i lb ef P9 aof;split at h<;>try(cases h;done)
 rename_i s z b al a1 ag;obtain⟨k1,rfl⟩:=yZ P9 aL;obtain⟨k2,rfl⟩:=yZ aof ae;cases h1:Nat.ble lb ef with
 |false=>simp[h1] at h
 |true=>
 cases h2:Nat.ble (ef*b) 140737488355328 with
 |false=>simp[h1,h2] at h
 |true=>
 cases h3:Nat.ble ef 140737488355328 with
 |false=>simp[h1,h2,h3] at h
 |true=>
 cases aW:Nat.beq (db z).cells.length s with
 |false=>simp[h1,h2,h3,aW] at h
 |true=>
 cases bz:Nat.ble 1 s with
 |false=>simp[h1,h2,h3,aW,bz] at h
 |true=>
 simp only[h1,h2,h3,aW,bz,Bool.and_self,cond_true,Option.some.injEq,Prod.mk.injEq] at h;obtain⟨rfl,rfl⟩:=h;have jY:=Nat.le_of_ble_eq_true h1;have kq:=Nat.le_of_ble_eq_true h2;have qu:=Nat.le_of_ble_eq_true h3;have anH:=Nat.eq_of_beq_eq_true aW;have anL:=Nat.le_of_ble_eq_true bz;obtain⟨aQ,hle,ai,eu⟩:=aqU (ty:=e) (n:=ef) aB anH anL;refine⟨aQ,.slice (some ⟨w.heap.size,0,none⟩) lb ef,_,hle,?_,⟨_,_,ai,rfl⟩,eu⟩;obtain⟨i,hi,AI⟩:=Lp ag w;have an7:(b:Int)*(ef:Int)=((ef*b:Nat):Int):=by rw[Nat.mul_comm];simp
 unfold Instr.makeSlice;simp only[Sem.run_bind,ec hu,Result.andThen_ok,asInt,asIntOf,Sem.run_pure,hi,wrap_small qu,wrap_small (Nat.le_trans jY qu),AI]
 have rV:¬((decide ((ef:Int)<0)||decide ((b:Int)*(ef:Int)>2 ^ 48))=true\/decide ((lb:Int)<0)=true\/decide ((lb:Int)>(ef:Int))=true):=by
  rw[an7];simp;omega
 rw[if_neg (by simp only[Bool.or_eq_true,decide_eq_true_eq] at rV⊢;omega)];have mM:∀cs,(Go.newRow e cs).run P w= .ok ⟨w.heap.size,0,none⟩ (w.alloc (.cells cs e)):=λ_=>rfl
 simp only[run_askRoom,Result.andThen_ok,Sem.run_bind,jj al,Int.toNat_natCast];by_cases h0:ef*s=0
 ·have:ef=0:=by rcases Nat.mul_eq_zero.1 h0 with h|h<;>omega
  subst this;rw[if_pos h0];simp[mM,Array.range_zero']
 ·rw[if_neg h0];simp[zu a1,mM]
end
section
variable{P:Program}{E:Env}{w:World}
def iC(P:Program)(E:Env)(w:World)(s:Sem Value)(y:J):Prop:=∃v,s.run P w= .ok v w/\Den E y v
theorem aq1{x y:J}{v:Value}(ar:Den E x v)(h:ew x=some y):
 x=y/\((∃a,v= .pointer (some a))\/∃f a b,v= .func (.func f) a b):=by
 unfold ew at h;split at h<;>simp at h
 ·subst h;obtain⟨_,_,_,rfl⟩:=ar;exact⟨rfl,.inl ⟨_,rfl⟩⟩
 ·subst h;obtain⟨_,_,_,_,rfl⟩:=ar;exact⟨rfl,.inr ⟨_,_,_,rfl⟩⟩
theorem M1{op:BinOp}{k:IntKind}{a b:Int}{y:J}(t:TypeId)(h:arith op k a b=some y):iC P E w (binOp op t (.int k a) (.int k b)) y:=by
 unfold arith at h;split at h
 case h_4=>
  cases ag:(b==0) with
  |true=>simp[ag] at h
  |false=>
   simp only[ag,cond_false,fD,Option.some.injEq] at h;subst h;have iL:b≠0:=by simpa using ag
   exact⟨_,by simp[binOp_quo,Op.intDiv,iL],rfl⟩
 case h_5=>
  cases ag:(b==0) with
  |true=>simp[ag] at h
  |false=>
   simp only[ag,cond_false,fD,Option.some.injEq] at h;subst h;have iL:b≠0:=by simpa using ag
   exact⟨_,by simp[binOp_rem,Op.intDiv,iL],rfl⟩
 all_goals first
  |(simp only[fD,Option.some.injEq] at h;subst h;exact⟨_,by simp[binOp,Op.intArith,Op.intBits,Op.intCmp];rfl,rfl⟩)
  |(simp only[fD,Option.some.injEq] at h;subst h;exact⟨_,by simp[binOp,Op.intArith,Op.intBits,Op.intCmp],rfl⟩)
  |cases h
theorem M0{op:BinOp}{k:IntKind}{a b:Int}{y:J}(t:TypeId)(h:Cp op k a b=some y):iC P E w (binOp op t (.int k a) (.int k b)) y:=by
 unfold Cp at h;split at h
 all_goals first
  |(simp only[Option.some.injEq] at h;subst h;exact⟨_,by simp[binOp,Op.intArith,Op.intCmp];rfl,rfl⟩)
  |(simp only[Option.some.injEq] at h;subst h;exact⟨_,by simp[binOp,Op.intArith,Op.intCmp],rfl⟩)
  |cases h
theorem ahm{op:BinOp}{k b5:IntKind}{a b:Int}{y:J}(t:TypeId)(pI:op= .shl\/op= .shr)(h:wU op k a b=some y):iC P E w (binOp op t (.int k a) (.int b5 b)) y:=by
 unfold wU at h;cases ag:decide (b<0) with
 |true=>simp[ag] at h
 |false=>
  have iL:¬b<0:=by simpa using ag
  simp only[ag,cond_false] at h;rcases pI with rfl|rfl
  ·simp only[fD,Option.some.injEq] at h;subst h;exact⟨_,by rw[binOp_shl];simp[Op.shift,iL],rfl⟩
  ·simp only[fD,Option.some.injEq] at h;subst h;exact⟨_,by rw[binOp_shr];simp[Op.shift,iL],rfl⟩
theorem apH{op:BinOp}{k b5:IntKind}{a b:Int}{y:J}(t:TypeId)(h:AX op k a b5 b=some y):iC P E w (binOp op t (.int k a) (.int b5 b)) y:=by
 unfold AX at h;split at h
 ·exact ahm t (.inl rfl) h
 ·exact ahm t (.inr rfl) h
 ·cases ai:(k==b5) with
  |false=>simp[ai] at h
  |true=>
   have:k=b5:=by simpa using ai
   subst this;simp only[ai,cond_true] at h;exact M1 t h
theorem aBU{op:BinOp}{a b:ByteArray}{y:J}(t:TypeId)(h:WV op a b=some y):iC P E w (binOp op t (.string a) (.string b)) y:=by
 unfold WV at h;split at h
 ·cases ag:decide (((a.size+b.size:Nat):Int)>IntKind.i64.max) with
  |true=>simp only[ag,cond_true] at h;cases h
  |false=>
   simp only[ag,cond_false,Option.some.injEq] at h;subst h;have iL:=of_decide_eq_false ag;exact⟨_,by simp only[binOp,Op.stringOp];rw[if_neg iL];rfl,rfl⟩
 ·simp only[Option.some.injEq] at h;subst h;exact⟨_,by simp only[binOp,Op.stringOp];rfl,rfl⟩
 ·simp only[Option.some.injEq] at h;subst h;exact⟨_,by simp only[binOp,Op.stringOp];rfl,rfl⟩
 ·cases h
theorem WW{op:BinOp}{a b:ByteArray}{y:J}(t:TypeId)(h:Fy op a b=some y):iC P E w (binOp op t (.string a) (.string b)) y:=by
 unfold Fy at h;split at h
 ·simp only[Option.some.injEq] at h;subst h;exact⟨_,by simp only[binOp,Op.stringOp];rfl,rfl⟩
 ·simp only[Option.some.injEq] at h;subst h;exact⟨_,by simp only[binOp,Op.stringOp];rfl,rfl⟩
 ·cases h
theorem CD{k off len:Nat}{cap:Option Nat}{lo:Nat}{u:Value}(h:Den E (.aZ k off len cap lo) u):∃id c,u= .slice (some ⟨id,off,none⟩) len c:=by
 cases cap<;>(obtain⟨id,_,_,rfl⟩:=h;exact⟨id,_,rfl⟩)
theorem Bt{t:TypeId}{cs:List J}{off:Nat}{z:J}{vs:List Value}(hv:cg E cs vs)(h:pT P t cs off=some z):iC P E w (part t vs.toArray off) z:=by
 unfold pT at h;split at h
 ·rename_i n b1 al;cases ag:Nat.ble (off+n) cs.length with
  |false=>simp[ag] at h
  |true=>
   simp only[ag,cond_true,Option.some.injEq] at h;subst h;have iL:=Nat.le_of_ble_eq_true ag;have aL:=hv.length;refine⟨.agg (vs.toArray.extract off (off+n)),by simp[part,Lo b1,jj al],(vs.drop off).take n,cg.take n (cg.drop off hv),?_⟩;simp
 ·rename_i n b1 al;obtain⟨v,h1,h2⟩:=hv.get _ _ h;exact⟨v,by simp[part,Lo b1,h1],h2⟩
 ·cases h
theorem amv{t:TypeId}{x y:J}{u v:Value}{b:Bool}(ar:Den E x u)(bf:Den E y v)(h:uy P t x y=some b)(d:Nat):(Op.equalIn (d+1) t u v).run P w= .ok b w:=by
 unfold uy at h;split at h<;>(try(cases h;done))<;>rename_i hu<;>simp only[Option.some.injEq] at h<;>subst h
 all_goals
  first
  |(have fG:u=_:=ar;have fk:v=_:=bf;subst fG;subst fk;simp[Op.equalIn,ec hu];done)
  |(have fG:u=_:=ar;obtain⟨_,_,_,rfl⟩:=bf;subst fG;simp[Op.equalIn,ec hu];done)
  |(obtain⟨_,_,_,rfl⟩:=ar;have fk:v=_:=bf;subst fk;simp[Op.equalIn,ec hu];done)
  |(have fG:u=_:=ar;obtain⟨_,_,_,_,rfl⟩:=bf;subst fG;simp[Op.equalIn,ec hu];done)
  |(obtain⟨_,_,_,_,rfl⟩:=ar;have fk:v=_:=bf;subst fk;simp[Op.equalIn,ec hu];done)
  |(have fG:u=_:=ar;obtain⟨_,_,rfl⟩:=bf;subst fG;simp[Op.equalIn,ec hu];done)
  |(obtain⟨_,_,rfl⟩:=ar;have fk:v=_:=bf;subst fk;simp[Op.equalIn,ec hu];done)
  |(obtain⟨_,_,rfl⟩:=CD ar;have fk:v=_:=bf;subst fk;simp[Op.equalIn,ec hu];done)
  |(obtain⟨_,_,rfl⟩:=CD bf;have fG:u=_:=ar;subst fG;simp[Op.equalIn,ec hu];done)
  |(obtain⟨_,_,_,_,_,rfl⟩:=ar;have fk:v=_:=bf;subst fk;simp[Op.equalIn,ec hu];done)
  |(obtain⟨_,_,_,_,_,rfl⟩:=bf;have fG:u=_:=ar;subst fG;simp[Op.equalIn,ec hu];done)
theorem NH{r:TypeId->J->J->Option Bool}{d:Nat}(aI:∀(t:TypeId) (x y:J) (u v:Value) (b:Bool),Den E x u->Den E y v->r t x y=some b->(Op.equalIn d t u v).run P w= .ok b w)
 {xs ys:List J}{us vs:List Value}(ar:cg E xs us)(bf:cg E ys vs):∀(fO:List Field) (b:Bool),Ah P r xs ys fO=some b->(Op.eqFields d us.toArray vs.toArray fO).run P w= .ok b w
 | [],b,h=>by simp[Ah] at h;subst h;rfl
 |f::fO,b,h=>by
  simp only[Ah] at h;simp only[Op.eqFields];cases aO:(f.name=="_") with
  |true=>
   rw[aO] at h;simp only[cond_true] at h;have uM:f.name="_":=by simpa using aO
   simp only[uM,ne_eq,not_true_eq_false,if_false];exact NH aI ar bf fO b h
  |false=>
   rw[aO] at h;simp only[cond_false] at h;have uM:f.name≠"_":=by simpa using aO
   split at h<;>try(cases h;done)
   rename_i p q aC a0;split at h<;>try(cases h;done)
   rename_i bX b2 h1 h2;cases h;obtain⟨u,g1,g2⟩:=Bt (w:=w) ar aC;obtain⟨v,g3,g4⟩:=Bt (w:=w) bf a0;have g5:=aI _ _ _ _ _ _ g2 g4 h1;have g6:=NH aI ar bf fO b2 h2;rw[if_pos uM];simp only[Sem.run_bind,g1,g3,g5,Result.andThen_ok];cases bX with
   |false=>simp
   |true=>simpa using g6
theorem ZQ{r:TypeId->J->J->Option Bool}{d:Nat}(aI:∀(t:TypeId) (x y:J) (u v:Value) (b:Bool),Den E x u->Den E y v->r t x y=some b->(Op.equalIn d t u v).run P w= .ok b w){e sz:Nat}
 {xs ys:List J}{us vs:List Value}(ar:cg E xs us)(bf:cg E ys vs):∀(is:List Nat) (b:Bool),vN P r e sz xs ys is=some b->(Op.eqItems d e sz us.toArray vs.toArray is).run P w= .ok b w
 | [],b,h=>by simp[vN] at h;subst h;rfl
 |i::is,b,h=>by
  simp only[vN] at h;simp only[Op.eqItems];split at h<;>try(cases h;done)
  rename_i p q aC a0;split at h<;>try(cases h;done)
  rename_i bX b2 h1 h2;cases h;obtain⟨u,g1,g2⟩:=Bt (w:=w) ar aC;obtain⟨v,g3,g4⟩:=Bt (w:=w) bf a0;have g5:=aI _ _ _ _ _ _ g2 g4 h1;have g6:=ZQ aI ar bf is b2 h2;simp only[Sem.run_bind,g1,g3,g5,Result.andThen_ok];cases bX with
  |false=>simp
  |true=>simpa using g6
theorem ZN:∀(n:Nat) (t:TypeId) (x y:J) (u v:Value) (b:Bool),Den E x u->Den E y v->px P n t x y=some b->∀d,n<=d->(Op.equalIn d t u v).run P w= .ok b w
 |0,_,_,_,_,_,_,_,_,h,_,_=>by simp[px] at h
 |n+1,t,x,y,u,v,b,ar,bf,h,d,aH=>by
  obtain⟨d,rfl⟩:∃hJ,d=hJ+1:=⟨d-1,by omega⟩
  have bc:∀(t:TypeId) (x y:J) (u v:Value) (b:Bool),Den E x u->Den E y v->px P n t x y=some b->(Op.equalIn d t u v).run P w= .ok b w:=
   λt x y u v b ar bf h=>ZN n t x y u v b ar bf h d (by omega)
  simp only[px] at h;split at h
  ·rename_i b5 k a k2 b2 hu;have fG:u=_:=ar;have fk:v=_:=bf;subst fG;subst fk;cases ai:(k==k2) with
   |false=>simp[ai] at h
   |true=>
    simp only[ai,cond_true,Option.some.injEq] at h;obtain rfl:k=k2:=by simpa using ai
    subst h;exact run_equalIn_int w d t k b5 a b2 hu
  ·rename_i a b2 hu;have fG:u=_:=ar;have fk:v=_:=bf;subst fG;subst fk;cases h;exact run_equalIn_string w d t a b2 hu
  ·rename_i fO xs ys hu;obtain⟨us,h1,rfl⟩:=ar;obtain⟨vs,h2,rfl⟩:=bf;cases al:P.stoodInHeld t with
   |true=>simp[al] at h
   |false=>
    simp only[al,cond_false] at h;have v5:P.fieldsOf t=fO:=by simp[Program.fieldsOf,hu]
    rw[run_equalIn_struct w d t us.toArray vs.toArray (by rw[v5];exact hu) al,v5];exact NH bc h1 h2 _ _ h
  ·rename_i m e xs ys hu;obtain⟨us,h1,rfl⟩:=ar;obtain⟨vs,h2,rfl⟩:=bf;split at h<;>try(cases h;done)
   rename_i sz dR;unfold dP at dR;split at dR<;>try(cases dR;done)
   rename_i i hi;cases dR
   have:=run_equalIn_array w d us.toArray vs.toArray hu hi
   rw[this];have ae:P.cellsOf e=i.size:=by simp[Program.cellsOf,hi]
   rw[ae];exact ZQ bc h1 h2 _ _ h
  ·exact amv ar bf h d
theorem amw{t:TypeId}{x y:J}{u v:Value}{b:Bool}(ar:Den E x u)(bf:Den E y v)(h:uy P t x y=some b):
 (Op.equal t u v).run P w= .ok b w/\(∀op ox oy,eqGuard op t ox oy u v=Pure.pure ())/\binOp .eql t u v=(do Pure.pure (.bool (<- Op.equal t u v)))/\binOp .neq t u v=(do Pure.pure (.bool (!(<- Op.equal t u v)))):=by
 unfold uy at h;unfold Op.equal;obtain⟨d,aH⟩:∃d,Op.maxDepth=d+1:=⟨9999,rfl⟩;rw[aH];split at h<;>(try(cases h;done))<;>rename_i hu<;>simp only[Option.some.injEq] at h<;>subst h
 all_goals
  first
  |(have fG:u=_:=ar;have fk:v=_:=bf;subst fG;subst fk
    refine⟨by simp[Op.equalIn,ec hu],λop _ _=>by cases op<;>rfl,?_,?_⟩<;>simp[binOp,Op.equal,aH])
  |(have fG:u=_:=ar;obtain⟨_,_,_,rfl⟩:=bf;subst fG
    refine⟨by simp[Op.equalIn,ec hu],λop _ _=>by cases op<;>rfl,?_,?_⟩<;>simp[binOp,Op.equal,aH])
  |(obtain⟨_,_,_,rfl⟩:=ar;have fk:v=_:=bf;subst fk
    refine⟨by simp[Op.equalIn,ec hu],λop _ _=>by cases op<;>rfl,?_,?_⟩<;>simp[binOp,Op.equal,aH])
  |(have fG:u=_:=ar;obtain⟨_,_,_,_,rfl⟩:=bf;subst fG
    refine⟨by simp[Op.equalIn,ec hu],λop _ _=>by cases op<;>rfl,?_,?_⟩<;>simp[binOp,Op.equal,aH])
  |(obtain⟨_,_,_,_,rfl⟩:=ar;have fk:v=_:=bf;subst fk
    refine⟨by simp[Op.equalIn,ec hu],λop _ _=>by cases op<;>rfl,?_,?_⟩<;>simp[binOp,Op.equal,aH])
  |(have fG:u=_:=ar;obtain⟨_,_,rfl⟩:=bf;subst fG
    refine⟨by simp[Op.equalIn,ec hu],λop _ _=>by cases op<;>rfl,?_,?_⟩<;>simp[binOp,Op.equal,aH])
  |(obtain⟨_,_,rfl⟩:=ar;have fk:v=_:=bf;subst fk
    refine⟨by simp[Op.equalIn,ec hu],λop _ _=>by cases op<;>rfl,?_,?_⟩<;>simp[binOp,Op.equal,aH])
  |(obtain⟨_,_,rfl⟩:=CD ar;have fk:v=_:=bf;subst fk
    refine⟨by simp[Op.equalIn,ec hu],λop _ _=>by cases op<;>rfl,?_,?_⟩<;>simp[binOp,Op.equal,aH])
  |(obtain⟨_,_,rfl⟩:=CD bf;have fG:u=_:=ar;subst fG
    refine⟨by simp[Op.equalIn,ec hu],λop _ _=>by cases op<;>rfl,?_,?_⟩<;>simp[binOp,Op.equal,aH])
  |(obtain⟨_,_,_,_,_,rfl⟩:=ar;have fk:v=_:=bf;subst fk
    refine⟨by simp[Op.equalIn,ec hu],λop _ _=>by cases op<;>rfl,?_,?_⟩<;>simp[binOp,Op.equal,aH])
  |(obtain⟨_,_,_,_,_,rfl⟩:=bf;have fG:u=_:=ar;subst fG
    refine⟨by simp[Op.equalIn,ec hu],λop _ _=>by cases op<;>rfl,?_,?_⟩<;>simp[binOp,Op.equal,aH])
theorem amz{t:TypeId}{ox oy:Operand}{x y:J}{u v:Value}{b:Bool}(ar:Den E x u)(bf:Den E y v)(ag:uz P t x y=some b):
 (Op.equal t u v).run P w= .ok b w/\(∀op,(eqGuard op t ox oy u v).run P w= .ok () w)/\binOp .eql t u v=(do Pure.pure (.bool (<- Op.equal t u v)))/\binOp .neq t u v=(do Pure.pure (.bool (!(<- Op.equal t u v)))):=by
 unfold uz at ag;split at ag
 ·have fG:=ar;have fk:=bf;obtain⟨us,h1,rfl⟩:=fG;obtain⟨vs,h2,rfl⟩:=fk;cases bd:P.eqGuardType P.depth t with
  |true=>simp[bd] at ag
  |false=>
   simp only[bd,cond_false] at ag;exact⟨ZN 16 t _ _ (.agg us.toArray) (.agg vs.toArray) b ar bf ag Op.maxDepth (by decide),λop=>run_eqGuard_agg w op t ox oy _ _ bd,rfl,rfl⟩
 ·split at ag<;>try(cases ag;done)
  rename_i ms hu;cases hm:ms.isEmpty with
  |false=>simp[hm] at ag
  |true=>
   simp only[hm,cond_true,Option.some.injEq] at ag;subst ag;have az:u= .nilIface:=ar;have aA:v= .nilIface:=bf;subst az;subst aA;obtain⟨d,aH⟩:∃d,Op.maxDepth=d+1:=⟨9999,rfl⟩;refine⟨by simp[Op.equal,aH,Op.equalIn,ec hu],λop=>?_,?_,?_⟩
   ·cases op<;>first|rfl|(cases ox<;>cases oy<;>simp[eqGuard,aH,Op.eqGuardIn,ec hu,hm])
   all_goals simp[binOp,Op.equal,aH]
 ·obtain⟨h1,h2,h3,aW⟩:=amw (w:=w) ar bf ag;exact⟨h1,λop=>by rw[h2];rfl,h3,aW⟩
theorem akD{op:BinOp}{t:TypeId}{ox oy:Operand}{x y z:J}{u v:Value}(ar:Den E x u)(bf:Den E y v)(h:vG P op t x y=some z):
 iC P E w (do eqGuard op t ox oy u v;binOp op t u v) z:=by
 have Ir:∀k n (v:Value),eqGuard op t ox oy (.int k n) v=Pure.pure ():=λ_ _ _=>by cases op<;>rfl
 have gs:∀s (v:Value),eqGuard op t ox oy (.string s) v=Pure.pure ():=λ_ _=>by cases op<;>rfl
 unfold vG at h;split at h
 ·have az:u=_:=ar;have aA:v=_:=bf;subst az;subst aA;rw[Ir];exact apH t h
 ·rename_i k a b5 b;have az:u=_:=ar;have aA:v=_:=bf;subst az;subst aA;cases ai:(k==b5) with
  |false=>simp[ai] at h
  |true=>obtain rfl:k=b5:=by simpa using ai
         simp only[ai,cond_true] at h;rw[Ir];exact M0 t h
 ·rename_i k a b5 b;have az:u=_:=ar;have aA:v=_:=bf;subst az;subst aA;cases ai:(k==b5) with
  |false=>simp[ai] at h
  |true=>obtain rfl:k=b5:=by simpa using ai
         simp only[ai,cond_true] at h;rw[Ir];exact M0 t h
 ·rename_i k a b5 b;have az:u=_:=ar;have aA:v=_:=bf;subst az;subst aA;cases ai:(k==b5) with
  |false=>simp[ai] at h
  |true=>obtain rfl:k=b5:=by simpa using ai
         simp only[ai,cond_true] at h;rw[Ir];exact M0 t h
 ·have az:u=_:=ar;have aA:v=_:=bf;subst az;subst aA;rw[gs];exact aBU t h
 ·have az:u=_:=ar;have aA:v=_:=bf;subst az;subst aA;rw[gs];exact WW t h
 ·have az:u=_:=ar;have aA:v=_:=bf;subst az;subst aA;rw[gs];exact WW t h
 ·have az:u=_:=ar;have aA:v=_:=bf;subst az;subst aA;rw[gs];exact WW t h
 ·have key:=λb (ag:uz P t x y=some b)=>amz (w:=w) (ox:=ox) (oy:=oy) ar bf ag
  unfold sY at h;split at h
  ·split at h<;>try(cases h;done)
   rename_i b ag;cases h;obtain⟨h1,h2,h3,_⟩:=key b ag;exact⟨.bool b,by rw[h3];simp[h1,h2],rfl⟩
  ·split at h<;>try(cases h;done)
   rename_i b ag;cases h;obtain⟨h1,h2,_,h3⟩:=key b ag;exact⟨.bool (!b),by rw[h3];simp[h1,h2],rfl⟩
  ·cases h
theorem aDb{op:UnOp}{x z:J}{u:Value}(ar:Den E x u)(h:h4 op x=some z):iC P E w (Op.unary op u) z:=by
 unfold h4 at h;split at h
 ·have az:u=_:=ar;subst az
  have:=M1 (P:=P) (E:=E) (w:=w) 0 h
  rw[binOp_sub] at this;exact this
 ·have az:u=_:=ar;subst az
  have:=M1 (P:=P) (E:=E) (w:=w) 0 h
  rw[binOp_xor] at this;exact this
 ·have az:u=_:=ar;subst az;cases h;exact⟨_,rfl,rfl⟩
 ·have az:u=_:=ar;subst az;cases h;exact⟨_,rfl,rfl⟩
 ·cases h
theorem alH{s d:TypeId}{x z:J}{u:Value}(ar:Den E x u)(h:n6 P s d x=some z):iC P E w (convert s d u) z:=by
 unfold n6 at h;split at h<;>try(cases h;done)
 rename_i bh al;split at h<;>(try(cases h;done))<;>rename_i aH
 ·have az:u=_:=ar;subst az;simp only[fD,Option.some.injEq] at h;subst h;exact⟨_,by unfold convert;cases bh<;>simp[ec al,ec aH,Conv.intToInt]<;>rfl,rfl⟩
 ·have az:u=_:=ar;subst az;simp only[Option.some.injEq] at h;subst h;exact⟨_,by unfold convert;cases bh<;>simp[ec al,ec aH,Conv.intToInt]<;>rfl,rfl⟩
 ·have az:u=_:=ar;subst az;simp only[Option.some.injEq] at h;subst h;exact⟨_,by unfold convert;cases bh<;>simp[ec al,ec aH]<;>rfl,rfl⟩
 ·have az:u=_:=ar;subst az;simp only[Option.some.injEq] at h;subst h;exact⟨_,by unfold convert;cases bh<;>simp[ec al,ec aH]<;>rfl,rfl⟩
theorem apB{t:TypeId}{x z:J}{u:Value}(ar:Den E x u)(h:Fm P t x=some z):iC P E w (Instr.makeInterface t u) z:=by
 unfold Fm at h;split at h<;>try(cases h;done)
 rename_i d aO hu;cases h;refine⟨.iface t u,?_,u,ar,rfl⟩;cases d<;>first|exact absurd rfl (aO _)|simp[Instr.makeInterface,ec hu]
end
section
variable{P:Program}{E:Env}{w:World}
theorem aac{s:TypeId}{f:Nat}{fd:Field}(h:xS P s f=some fd):∃fO,P.underlying s=some (.struct fO)/\fO[f]?=some fd:=by
 unfold xS at h;split at h
 ·rename_i fO hu;exact⟨fO,hu,h⟩
 ·cases h
theorem amN{s:TypeId}{f k off id c:Nat}{z:J}(ai:E k=some (id,c))(h:q7 P s f k off=some z):
 iC P E w (Instr.fieldAt s (.pointer (some ⟨id,off,none⟩)) f) z:=by
 unfold q7 at h;split at h<;>try(cases h;done)
 rename_i fd PY;split at h<;>try(cases h;done)
 rename_i n al;simp only[force_eq,Option.some.injEq] at h;subst h;obtain⟨fO,hu,an⟩:=aac PY;refine⟨.pointer (some ⟨id,off+fd.offset,none⟩),?_,id,c,ai,rfl⟩;simp[Instr.fieldAt,ec hu,an,Instr.sureAddr,fieldPlace,jj al,Addr.add_lit]
theorem amP{s:TypeId}{f:Nat}{cs:List J}{z:J}{vs:List Value}(hv:cg E cs vs)(h:zo P s f cs=some z):
 iC P E w (Instr.field s (.agg vs.toArray) f) z:=by
 unfold zo at h;split at h<;>try(cases h;done)
 rename_i fd PY;obtain⟨fO,hu,an⟩:=aac PY;obtain⟨v,aI,aH⟩:=Bt (w:=w) hv h;exact⟨v,by simp[Instr.field,ec hu,an,asAgg,aI],aH⟩
theorem apF{t:TypeId}{x gi z:J}{u v:Value}(ar:Den E x u)(hi:Den E gi v)(h:mT P t x gi=some z):
 iC P E w (Instr.indexAt t u v) z:=by
 unfold mT at h;split at h<;>try(cases h;done)
 rename_i i aO;obtain⟨Jb,rfl⟩:=yZ aO hi;split at h<;>(try(cases h;done))<;>rename_i hu
 ·rename_i n e k off;split at h<;>try(cases h;done)
  rename_i s al;cases ag:Nat.blt i n with
  |false=>simp[ag] at h
  |true=>
   simp only[ag,cond_true,force_eq,Option.some.injEq] at h;subst h;have ba:i<n:=by rw[Nat.blt_eq] at ag;exact ag
   obtain⟨id,c,ai,rfl⟩:=ar;refine⟨.pointer (some ⟨id,off+i*s,none⟩),?_,id,c,ai,rfl⟩;simp[Instr.indexAt,asIntOf,ec hu,Instr.sureAddr,jj al,ba,Addr.add_lit]
 ·rename_i e k off len cap lo;split at h<;>try(cases h;done)
  rename_i s al;cases ag:Nat.blt i len with
  |false=>simp[ag] at h
  |true=>
   simp only[ag,cond_true,force_eq,Option.some.injEq] at h;subst h;have ba:i<len:=by rw[Nat.blt_eq] at ag;exact ag
   have ai:∃id c a3,E k=some (id,c)/\u= .slice (some ⟨id,off,none⟩) len a3:=by
    cases cap with
    |none=>obtain⟨id,c,h1,h2⟩:=ar;exact⟨id,c,_,h1.1,h2⟩
    |some cap=>obtain⟨id,c,h1,h2⟩:=ar;exact⟨id,c,_,h1,h2⟩
   obtain⟨id,c,a3,ai,rfl⟩:=ai;refine⟨.pointer (some ⟨id,off+i*s,none⟩),?_,id,c,ai,rfl⟩;simp[Instr.indexAt,asIntOf,ec hu,jj al,ba,Addr.add_lit]
theorem apG{t:TypeId}{x gi z:J}{u v:Value}(ar:Den E x u)(hi:Den E gi v)(h:zp P t x gi=some z):
 iC P E w (Instr.index t u v) z:=by
 unfold zp at h;split at h<;>try(cases h;done)
 rename_i i aO;obtain⟨Jb,rfl⟩:=yZ aO hi;split at h<;>(try(cases h;done))<;>rename_i hu
 ·rename_i n e cs;split at h<;>try(cases h;done)
  rename_i s al;cases ag:Nat.blt i n with
  |false=>simp[ag] at h
  |true=>
   simp only[ag,cond_true] at h;have ba:i<n:=by rw[Nat.blt_eq] at ag;exact ag
   obtain⟨vs,hv,rfl⟩:=ar;obtain⟨v,aI,aH⟩:=Bt (w:=w) hv h;exact⟨v,by simp[Instr.index,asIntOf,ec hu,jj al,ba,aI],aH⟩
 ·rename_i s;have az:u=_:=ar;subst az;split at h<;>try(cases h;done)
  rename_i b ag;cases h;exact⟨_,by simp[Instr.index,asIntOf,ec hu,ag],rfl⟩
theorem BQ{len cap:Nat}{lo hi:Option J}{lv hv:Option Value}{l h:Nat}(h1:∀y,lo=some y->∃v,lv=some v/\Den E y v)(jY:lo=none->lv=none)
 (h2:∀y,hi=some y->∃v,hv=some v/\Den E y v)(kq:hi=none->hv=none)(ag:sliceB len cap lo hi=some (l,h)):
 l<=h/\h<=cap/\∀isSlice w,(Instr.sliceBounds isSlice len cap lv hv none).run P w= .ok (l,h,cap) w:=by
 unfold sliceB at ag;split at ag<;>try(cases ag;done)
 rename_i ck hO Hi el;cases jt:Nat.ble ck cap with
 |false=>simp[jt] at ag
 |true=>
 cases mH:Nat.ble hO ck with
 |false=>simp[jt,mH] at ag
 |true=>
 simp only[jt,mH,Bool.and_self,cond_true,Option.some.injEq,Prod.mk.injEq] at ag;obtain⟨rfl,rfl⟩:=ag;have k1:=Nat.le_of_ble_eq_true jt;have k2:=Nat.le_of_ble_eq_true mH;refine⟨k2,k1,λaFq w=>?_⟩;cases hi with
 |none=>
  simp only[Option.some.injEq] at Hi;subst Hi;rw[kq rfl];cases lo with
  |none=>
   simp only[Option.some.injEq] at el;subst el;rw[jY rfl];simp[Instr.sliceBounds]
  |some y=>
   simp only at el;obtain⟨v,e,aH⟩:=h1 y rfl;obtain⟨k,rfl⟩:=yZ el aH;rw[e];simp[Instr.sliceBounds,Instr.sliceBound,asIntOf,k2]
 |some zz=>
  simp only at Hi;obtain⟨Lv,bg,oG⟩:=h2 zz rfl;obtain⟨b5,rfl⟩:=yZ Hi oG;rw[bg];cases lo with
  |none=>
   simp only[Option.some.injEq] at el;subst el;rw[jY rfl];simp[Instr.sliceBounds,Instr.sliceBound,asIntOf,k1]
  |some y=>
   simp only at el;obtain⟨v,e,aH⟩:=h1 y rfl;obtain⟨k,rfl⟩:=yZ el aH;rw[e];simp[Instr.sliceBounds,Instr.sliceBound,asIntOf,k1,k2]
theorem aho{len cap:Nat}{lo hi:Option J}{l h:Nat}(ag:sliceB len len lo hi=some (l,h))(ae:len<=cap):sliceB len cap lo hi=some (l,h):=by
 have key:∀A B:Option Nat,(match A,B with|some h,some l=>bif Nat.ble h len&&Nat.ble l h then some (l,h) else none|_,_=>none)=some (l,h)->
  (match A,B with|some h,some l=>bif Nat.ble h cap&&Nat.ble l h then some (l,h) else none|_,_=>none)=some (l,h):=by
  intro A B ag;split at ag<;>try(cases ag;done)
  rename_i ck hO;cases jt:Nat.ble ck len with
  |false=>simp[jt] at ag
  |true=>
   have:=Nat.le_of_ble_eq_true jt
   have h2:Nat.ble ck cap=true:=(by rw[Nat.ble_eq];exact Nat.le_trans this ae);simp only[jt] at ag;simp only[h2];exact ag
 exact key _ _ ag
theorem ahn{k off len iP s l h id c h7:Nat}{cap:Option Nat}{z:J}(ai:E k=some (id,c))(ae:(∃a3,cap=some a3/\h7=a3)\/(cap=none/\h7=c-iP/\iP+len<=c))(h1:l<=h)(h2:h<=h7)
 (a1:p3 k off len cap iP s l h=some z):Den E z (.slice (some (if h7=l then⟨id,off,none⟩ else⟨id,off+l*s,none⟩)) (h-l) (h7-l)):=by
 unfold p3 at a1;rcases ae with⟨a3,rfl,rfl⟩|⟨rfl,rfl,hle⟩
 ·simp only[force_eq] at a1;cases hm:Nat.beq (h7-l) 0 with
  |true=>
   have qz:=Nat.eq_of_beq_eq_true hm;simp only[hm,cond_true,Option.some.injEq] at a1;subst a1;rw[if_pos (by omega)];exact⟨id,c,ai,rfl⟩
  |false=>
   have qz:=Nat.ne_of_beq_eq_false hm;simp only[hm,cond_false,Option.some.injEq] at a1;subst a1;rw[if_neg (by omega)];exact⟨id,c,ai,rfl⟩
 ·simp only[force_eq] at a1;cases ck:Nat.ble h len with
  |false=>simp[ck] at a1
  |true=>
   have aE2:=Nat.le_of_ble_eq_true ck;simp only[ck,cond_true] at a1;cases aL:Nat.blt l len with
   |true=>
    have yp:l<len:=by rw[Nat.blt_eq] at aL;exact aL
    simp only[aL,cond_true,Option.some.injEq] at a1;subst a1;rw[if_neg (by omega)];exact⟨id,c,⟨ai,by omega⟩,by rw[Nat.sub_add_eq]⟩
   |false=>
    simp only[aL,cond_false] at a1;cases h0:Nat.beq l 0 with
    |false=>
     have yp:¬l<len:=λck=>by have:Nat.blt l len=true:=by rw[Nat.blt_eq];exact ck
                             rw[aL] at this;cases this
     simp only[h0,cond_false,Option.some.injEq] at a1;subst a1;have av:h-l=0:=by omega
     rw[av];split
     ·exact⟨_,_,rfl⟩
     ·exact⟨_,_,rfl⟩
    |true=>
     have rP:=Nat.eq_of_beq_eq_true h0;simp only[h0,cond_true,Option.some.injEq] at a1;subst a1;subst rP;refine⟨id,c,⟨ai,by omega⟩,?_⟩;simp
theorem K6{t:TypeId}{x z:J}{u:Value}{lo hi:Option J}{lv hv:Option Value}(ar:Den E x u)(h1:∀y,lo=some y->∃v,lv=some v/\Den E y v)(jY:lo=none->lv=none)
 (h2:∀y,hi=some y->∃v,hv=some v/\Den E y v)(kq:hi=none->hv=none)(h:fX P t x lo hi=some z):iC P E w (Instr.sliceAt t u lv hv none) z:=by
 unfold fX at h;split at h<;>try(cases h;done)
 ·rename_i e k off len cap iP hu;split at h<;>try(cases h;done)
  rename_i s l ck al ag
  have fG:∃id c h7,E k=some (id,c)/\u= .slice (some ⟨id,off,none⟩) len h7/\((∃a3,cap=some a3/\h7=a3)\/(cap=none/\h7=c-iP/\iP+len<=c)):=by
   cases cap with
   |none=>obtain⟨id,c,az,aA⟩:=ar;exact⟨id,c,_,az.1,aA,.inr ⟨rfl,rfl,az.2⟩⟩
   |some cap=>obtain⟨id,c,az,aA⟩:=ar;exact⟨id,c,_,az,aA,.inl ⟨_,rfl,rfl⟩⟩
  obtain⟨id,c,h7,ai,rfl,ae⟩:=fG
  have iL:sliceB len h7 lo hi=some (l,ck):=by
   rcases ae with⟨a3,rfl,rfl⟩|⟨rfl,rfl,hle⟩
   ·exact ag
   ·exact aho ag (by omega)
  obtain⟨k1,k2,fx⟩:=BQ (P:=P) h1 jY h2 kq iL;refine⟨_,?_,ahn ai ae k1 k2 h⟩;simp only[Instr.sliceAt,Instr.slice,Sem.run_bind,ec hu,Result.andThen_ok,fx,jj al,Sem.run_pure,Option.map_some,Addr.add_lit];split<;>rfl
 ·rename_i e k hu;split at h<;>try(cases h;done)
  rename_i s Q5 al ag;obtain⟨l,ck⟩:=Q5;cases h;obtain⟨uk,cp,rfl⟩:=ar;obtain⟨ej,fV,_⟩:=BQ (P:=P) h1 jY h2 kq ag;obtain⟨k1,k2,fx⟩:=BQ (P:=P) h1 jY h2 kq (aho ag (Nat.zero_le cp));have az:ck=0:=by omega
  have aA:l=0:=by omega
  subst az;subst aA;refine⟨.slice (some uk) 0 cp,?_,uk,cp,rfl⟩;simp only[Instr.sliceAt,Instr.slice,Sem.run_bind,ec hu,Result.andThen_ok,fx,jj al,Sem.run_pure,Option.map_some,Addr.add_lit];simp[Addr.add]
 ·rename_i e a c hu;split at h<;>try(cases h;done)
  rename_i s Q5 al ag;obtain⟨l,ck⟩:=Q5;cases h;cases b1:Nat.beq a 0 with
  |false=>simp[b1] at ag
  |true=>
   cases ae:Nat.beq c 0 with
   |false=>simp[b1,ae] at ag
   |true=>
    simp only[b1,ae,Bool.and_self,cond_true] at ag;have az:=Nat.eq_of_beq_eq_true b1;have aA:=Nat.eq_of_beq_eq_true ae;have cj:u=_:=ar;subst az;subst aA;subst cj;obtain⟨k1,k2,fx⟩:=BQ (P:=P) h1 jY h2 kq ag;have e9:ck=0:=by omega
    have iE:l=0:=by omega
    subst e9;subst iE;refine⟨.slice none 0 0,?_,rfl⟩;simp only[Instr.sliceAt,Instr.slice,Sem.run_bind,ec hu,Result.andThen_ok,fx,jj al,Sem.run_pure];simp
 ·rename_i n e k off hu;split at h<;>try(cases h;done)
  rename_i s l ck al ag;obtain⟨id,c,ai,rfl⟩:=ar;obtain⟨k1,k2,fx⟩:=BQ (P:=P) h1 jY h2 kq ag;refine⟨_,?_,ahn ai (.inl ⟨n,rfl,rfl⟩) k1 k2 h⟩;simp only[Instr.sliceAt,Instr.sureAddr,Sem.run_bind,ec hu,Result.andThen_ok,fx,jj al,Sem.run_pure,Addr.add_lit]
 ·rename_i s hu;split at h<;>try(cases h;done)
  rename_i l ck ag;obtain⟨k1,k2,fx⟩:=BQ (P:=P) h1 jY h2 kq ag;have e:u= .string s:=ar;subst e;cases h;refine⟨.string (s.extract l ck),?_,rfl⟩;simp[Instr.sliceAt,Instr.slice,ec hu,fx]
theorem aqi{t ty:TypeId}{c9:Array TypeId}{x z:J}{u:Value}(aN:c9[0]?=some t)(ar:Den E x u)(h:eE P t x=some z):iC P E w (Builtin.len_ c9 ty #[u]) z:=by
 unfold eE at h;split at h<;>(try(cases h;done))<;>rename_i hu
 ·have az:u=_:=ar;subst az;simp only[fD,Option.some.injEq] at h;subst h;exact⟨_,by simp[Builtin.len_,aN,ec hu];rfl,rfl⟩
 ·have az:u=_:=ar;subst az;simp only[Option.some.injEq] at h;subst h;exact⟨_,by simp[Builtin.len_,aN,ec hu];rfl,rfl⟩
 ·obtain⟨id,c,rfl⟩:=CD ar;cases h;exact⟨_,by simp[Builtin.len_,aN,ec hu];rfl,rfl⟩
 ·obtain⟨_,_,rfl⟩:=ar;cases h;exact⟨_,by simp[Builtin.len_,aN,ec hu];rfl,rfl⟩
 ·have az:u=_:=ar;subst az;simp only[fD,Option.some.injEq] at h;subst h;exact⟨_,by simp[Builtin.len_,aN,ec hu];rfl,rfl⟩
 ·have az:u=_:=ar;subst az;simp only[Option.some.injEq] at h;subst h;exact⟨_,by simp[Builtin.len_,aN,ec hu];rfl,rfl⟩
end
theorem aio{n:Nat}(h:n<=140737488355328):IntKind.i64.wrap (n:Int)=(n:Int):=by
 simp only[IntKind.wrap,IntKind.bits,IntKind.signed];simp;omega
section
variable{P:Program}{B:Nat}{aY w:World}{X:ah}{E:Env}
theorem bP.ap8(h:bP P B aY X E w)(k:Nat):bP P B aY {X with aV:=X.aV.del k} E w:=
 ⟨h.os,h.tape,h.output,h.base,h.gz,λj o aa=>h.obj j o (cE.s8 aa).2,λj gW o o' id c a3 aa hs he fF=>h.inj j gW o o' id c a3 (cE.s8 aa).2 (cE.s8 hs).2 he fF,h.fresh,h.m8,h.j7⟩
theorem bP.renamed(h:bP P B aY X E w){k id c:Nat}{o o':bH}(aq:X.aV.get k=some o)(ai:E k=some (id,c))(gT:o.ro=false)(aFi:o'.ro=false){w':World}(h1:w'.os=w.os)(h2:w'.tape=w.tape)
 (h3:w'.output=w.output)(aW:w'.heap.size=w.heap.size)(bz:∀j,j≠id->w'.heap[j]?=w.heap[j]?)(fs:lz P (E.put X.next id c) o' w'.heap[id]? c):
 bP P B aY {X with next:=X.next+1,aV:=(X.aV.del k).put X.next o'} (E.put X.next id c) w':=by
 have Dh:B<=id:=by
  obtain⟨gF,a3,cP,_,ag⟩:=h.obj k o aq;rw[ai] at cP;cases cP;exact ag (.inl gT)
 have hle:cM E (E.put X.next id c):=Env.r9 (h.fresh _ (Nat.le_refl _)) h.j7;have aB:∀j,j≠X.next->(E.put X.next id c) j=E j:=λj aa=>Env.q2 E _ _ aa
 refine⟨h1.trans h.os,h2.trans h.tape,h3.trans h.output,by rw[aW];exact h.base,λj aa=>?_,λj cf aa=>?_,λj gW dN df i aS a2 aa hs he fF=>?_,λj aa=>?_,λg bd=>let ⟨c,ae⟩:=h.m8 g bd;⟨c,hle.sub _ _ ae⟩,Nat.le_succ_of_le h.j7⟩
 ·rw[bz j (by omega)];exact h.gz j aa
 ·rcases cE.iI aa with⟨e,aA⟩|⟨e,aH⟩
  ·subst e;subst aA;exact⟨id,c,Env.lS _ _ _ _,fs,λ_=>Dh⟩
  ·obtain⟨b4,aL⟩:=cE.s8 aH;obtain⟨i,a3,he,aI,ag⟩:=h.obj j cf aL;have aox:i≠id:=λaA=>b4 (h.inj j k cf o i a3 c aL aq he (by rw[ai,aA]))
   exact⟨i,a3,hle.sub _ _ he,by rw[bz i aox];exact aI.mono hle,ag⟩
 ·rcases cE.iI aa with⟨e,_⟩|⟨e,aH⟩<;>rcases cE.iI hs with⟨bg,_⟩|⟨bg,oG⟩
  ·rw[e,bg]
  ·subst e;rw[Env.lS] at he;cases he;rw[aB _ bg] at fF;obtain⟨b4,aL⟩:=cE.s8 oG;exact absurd (h.inj gW k df o _ a2 _ aL aq fF ai) b4
  ·subst bg;rw[Env.lS] at fF;cases fF;rw[aB _ e] at he;obtain⟨b4,aL⟩:=cE.s8 aH;exact absurd (h.inj j k dN o _ aS _ aL aq he ai) b4
  ·rw[aB _ e] at he;rw[aB _ bg] at fF;exact h.inj j gW dN df i aS a2 (cE.s8 aH).2 (cE.s8 oG).2 he fF
 ·have hs:X.next+1<=j:=aa
  rw[aB j (by omega)];exact h.fresh j (by omega)
theorem aen{ty esz c lo hi:Nat}{ys:List J}{vs rest:List Value}(aB:bP P B aY X E w)(hv:cg E ys vs)(ae:vs.length+rest.length=c*esz)(oJ:lo=hi\/c*esz<=lo):
 ∃aQ,cM E aQ/\aQ (mP X ty esz ys).1=some (w.heap.size,c)/\bP P B aY (mP X ty esz ys).2 aQ (w.alloc (.cells (vs++rest).toArray ty (lo,hi))):=by
 unfold mP;rw[force_eq];refine⟨E.put X.next w.heap.size c,Env.r9 (aB.fresh _ (Nat.le_refl _)) aB.j7,Env.lS _ _ _ _,aB.new _ (vs++rest).toArray c lo hi rfl rfl λaQ hle=>?_⟩;have aL:=hv.length;refine⟨_,_,lo,hi,rfl,λj y aa=>?_,λ_=>⟨rfl,?_,by simp[aL],λh=>(by cases h),λ_=>by simp[ae]⟩⟩
 ·have ba:=bH.x4 aa;unfold bH.get at aa;have ag:Nat.blt j ys.length=true:=by rw[Nat.blt_eq];exact ba
  simp only[ag,cond_true] at aa;cases aq:(p6 ys).get j with
  |none=>simp[aq] at aa
  |some z=>
   simp only[aq] at aa;cases aa;obtain⟨v,h1,h2⟩:=(hv.mono hle).get j _ (Iq _ _ _ aq);refine⟨v,?_,h2⟩;have Qb:j<vs.length:=(List.getElem?_eq_some_iff.1 h1).1;rw[List.getElem?_toArray,List.getElem?_append_left Qb];exact h1
 ·simpa[ae] using oJ
theorem Zy(s:ByteArray):cg E (wX s) (s.data.toList.map λb=>Value.int .u8 b.toNat):=by
 unfold wX;simp only[fD]
 induction s.data.toList with
 |nil=>rfl
 |cons b YP bc=>exact⟨_,_,rfl,bc,rfl⟩
theorem Yr(aB:bP P B aY X E w){sz n:Nat}{x:J}{u:Value}{ys:List J}(ar:Den E x u)(h:kY X sz x=some (n,ys))(aL:ys.length=n*sz):
 ∃vs,cg E ys vs/\(∀cy,(Builtin.lenOf u).run P cy= .ok n cy)/\∀cy:World,cy.heap=w.heap->∀m,m<=n->(Builtin.firstCells sz m u).run P cy= .ok (vs.take (m*sz)).toArray cy:=by
 unfold kY at h;split at h
 ·rename_i k off aex cap lo;split at h<;>try(cases h;done)
  rename_i o aq;split at h<;>try(cases h;done)
  rename_i vk ft;cases h
  have fG:∃id c h7,E k=some (id,c)/\u= .slice (some ⟨id,off,none⟩) n h7:=by
   cases cap with
   |none=>obtain⟨id,c,az,aA⟩:=ar;exact⟨id,c,_,az.1,aA⟩
   |some cap=>obtain⟨id,c,az,aA⟩:=ar;exact⟨id,c,_,az,aA⟩
  obtain⟨id,c,h7,ai,rfl⟩:=fG;obtain⟨gF,a3,cP,aI,_⟩:=aB.obj k o aq;rw[ai] at cP;cases cP;obtain⟨vs,h1,h2,h3⟩:=Ed aI _ off ys ft;refine⟨vs,h1,λcy=>by simp[Builtin.lenOf],λcy ck m hm=>?_⟩;have hle:m*sz<=n*sz:=Nat.mul_le_mul_right _ hm
  have:=run_loadCells_list (P:=P) (w:=cy) ⟨id,off,none⟩ (vs.take (m*sz)) (λj v aa=>by
   rw[Addr.add_lit];have hs:=aa;rw[List.getElem?_take] at hs;split at hs
   ·have:=h3 j v hs
    simpa[World.cell?,ck] using this
   ·cases hs)
  rw[List.length_take,h2,Nat.min_eq_left hle] at this;simpa[Builtin.firstCells] using this
 ·rename_i a c;cases b1:Nat.beq a 0 with
  |false=>simp[b1] at h
  |true=>
   cases ae:Nat.beq c 0 with
   |false=>simp[b1,ae] at h
   |true=>
    simp only[b1,ae,Bool.and_self,cond_true,Option.some.injEq,Prod.mk.injEq] at h;obtain⟨rfl,rfl⟩:=h;have e:=Nat.eq_of_beq_eq_true b1;have az:u=_:=ar;subst e;subst az;exact⟨[],rfl,λcy=>by simp[Builtin.lenOf],λcy _ m _=>by simp[Builtin.firstCells]⟩
 ·rename_i s;cases h;have az:u=_:=ar;subst az;have aH:=Zy (E:=E) s;refine⟨_,aH,λcy=>by simp[Builtin.lenOf],λcy _ m hm=>?_⟩;have dR:(wX s).length=s.size:=by simp[wX]
  rw[dR] at aL
  have uL:m*sz=m\/s.size=0:=by
   rcases Nat.eq_zero_or_pos s.size with h0|h0
   ·exact .inr h0
   ·refine .inl ?_
    have:s.size*1=s.size*sz:=by omega
    have:=Nat.eq_of_mul_eq_mul_left h0 this
    rw[<- this,Nat.mul_one]
  simp only[Builtin.firstCells,Sem.run_pure,Result.ok.injEq,and_true];apply Array.ext';rcases uL with qz|h0
  ·rw[qz];simp[ByteArray.data_extract]
  ·have:m=0:=by omega
   subst this;simp
 ·rename_i k;cases h;obtain⟨uk,cp,rfl⟩:=ar;refine⟨[],rfl,λcy=>by simp[Builtin.lenOf],λcy _ m hm=>?_⟩;have e:m=0:=by omega
  subst e;simp[Builtin.firstCells,loadCells,loadCellsFrom]
 ·cases h
inductive ua (P:Program) (d:TypeDesc) (e sz n:Nat) (x:Value) (news:List Value) (w:World):Prop
 |Ag (aH:se d=true) (aO:∀cy:World,cy.heap=w.heap->(Builtin.lenOf x).run P cy= .ok n cy) (ar:∀cy:World,cy.heap=w.heap->(Builtin.firstCells sz n x).run P cy= .ok news.toArray cy)
 |FT (k b5:IntKind) (z:Value) (b:Nat) (aH:d= .int k) (ar:x= .int b5 n) (a1:hb P e=some z) (ag:n8 P e=some b) (aO:n<=140737488355328) (tl:n*b<=140737488355328)
   (wc:news=(Builtin.zeroCells z.cells n).toList) (AU:sz=0->n=0)
theorem ua.mono{d:TypeDesc}{e sz n:Nat}{x:Value}{news:List Value}{w cy:World}(h:ua P d e sz n x news w)(hw:cy.heap=w.heap):ua P d e sz n x news cy:=by
 cases h with
 |Ag aH aO ar=>exact .Ag aH (λfp h3=>aO fp (h3.trans hw)) (λfp h3=>ar fp (h3.trans hw))
 |FT k b5 z b aH ar a1 ag aO tl wc AU=>exact .FT k b5 z b aH ar a1 ag aO tl wc AU
theorem aiK(z:Array Value):Builtin.zeroCells z 0= #[]:=by
 apply Array.ext';simp[Builtin.zeroCells]
theorem YD{c9:Array TypeId}{t u ty e sz n hQ mn:Nat}{d:TypeDesc}{a:Addr}{x:Value}{news:List Value}{w':World}(h0:c9[0]?=some t)(h1:c9[1]?=some u)(aN:P.underlying t=some (.slice e))(hu:P.underlying u=some d)
 (al:dP P e=some sz)(nX:hQ+n<=mn)(ar:ua P d e sz n x news w)
 (dv:(storeCells (a.add (hQ*sz)) news).run P w= .ok () w'):(Builtin.append_ c9 ty #[.slice (some a) hQ mn,x]).run P w= .ok (.slice (some a) (hQ+n) mn) w':=by
 cases ar with
 |Ag aH aO ar=>
  have aO:=aO w rfl;have ar:=ar w rfl
  cases d<;>first
   |(cases aH;done)
   |simp[Builtin.append_,h0,h1,run_underlying aN,run_underlying hu,jj al,aO,nX,ar,dv]
 |FT k b5 z b aH ar a1 ag aO tl wc AU=>
  subst aH;subst ar;obtain⟨i,hi,AI⟩:=Lp ag w;have qD:=zu a1 (w:=w);have hw:IntKind.i64.wrap (n:Int)=(n:Int):=aio (by omega);have h2:¬((n:Int)<0):=by omega
  have h3:¬((281474976710656:Int)<(n:Int)*(i.bytes:Int)):=by
   rw[AI, <- Int.natCast_mul];omega
  by_cases rP:n*sz=0
  ·have lM:n=0:=by
    rcases Nat.mul_eq_zero.1 rP with h|h
    ·exact h
    ·exact AU h
   have az:news=[]:=by rw[wc,lM,aiK]
   subst az;simp[Builtin.append_,asInt,asIntOf,h0,h1,run_underlying aN,run_underlying hu,jj al,hw,h2,hi,h3,nX,rP,dv]
  ·simp[Builtin.append_,asInt,asIntOf,h0,h1,run_underlying aN,run_underlying hu,jj al,hw,h2,hi,h3,nX,rP,qD, <- wc,dv]
theorem YC{c9:Array TypeId}{t u ty e sz bytes n hQ mn:Nat}{z:Value}{d:TypeDesc}{base:Option Addr}{x:Value}{olds news:List Value}(h0:c9[0]?=some t)(h1:c9[1]?=some u)(aN:P.underlying t=some (.slice e))(hu:P.underlying u=some d)
 (al:dP P e=some sz)(a1:hb P e=some z)(ag:n8 P e=some bytes)(nX:mn<hQ+n)(aEU:hQ+n<=140737488355328)(aEY:(hQ+n)*bytes<=140737488355328)
 (hold:(Builtin.firstCells sz hQ (.slice base hQ mn)).run P w.drew= .ok olds.toArray w.drew)(ar:ua P d e sz n x news w):
 (Builtin.append_ c9 ty #[.slice base hQ mn,x]).run P w= .ok (.slice (some ⟨w.heap.size,0,none⟩) (hQ+n) (grownCap w (hQ+n) mn e))
   (w.drew.alloc (.cells (olds++(news++(Builtin.zeroCells z.cells (grownCap w (hQ+n) mn e-(hQ+n))).toList)).toArray e)):=by
 obtain⟨i,hi,AI⟩:=Lp ag w;obtain⟨i',cF,aE4⟩:=Lp ag w.drew;have pH:¬(hQ+n<=mn):=by omega
 have yj:¬(281474976710656<Builtin.nextslicecap (hQ+n) mn*i.bytes):=by
  have:=growslice_fits nX (bytes:=bytes) (by omega)
  rw[AI];omega
 have It:¬(9223372036854775807<((hQ:Int)+(n:Int))):=by omega
 have qD:=zu a1 (w:=w.drew);cases ar with
 |Ag aH aO ar=>
  have aO:=aO w rfl;have ar:=ar w.drew rfl
  cases d<;>first
   |(cases aH;done)
   |(simp[Builtin.append_,h0,h1,run_underlying aN,run_underlying hu,jj al,aO,pH,hi,cF,yj,It,Question.forced,hold,ar,qD,Go.newRow,grownCap];done)
   |(simp[Builtin.append_,h0,h1,run_underlying aN,run_underlying hu,jj al,aO,pH,hi,cF,yj,It,Question.forced,hold,ar,qD,Go.newRow,grownCap]
     congr 2;apply Array.ext'
     simp)
 |FT k b5 tY b aH ar adA jZ aO tl wc AU=>
  subst aH;subst ar;rw[a1] at adA;cases adA;rw[ag] at jZ;cases jZ;have hw:IntKind.i64.wrap (n:Int)=(n:Int):=aio (by omega);have h2:¬((n:Int)<0):=by omega
  have h3:¬((281474976710656:Int)<(n:Int)*(i.bytes:Int)):=by
   rw[AI, <- Int.natCast_mul];omega
  by_cases rP:n*sz=0
  ·have lM:n=0:=by
    rcases Nat.mul_eq_zero.1 rP with h|h
    ·exact h
    ·exact AU h
   have az:news=[]:=by rw[wc,lM,aiK]
   subst az;simp[Builtin.append_,asInt,asIntOf,h0,h1,run_underlying aN,run_underlying hu,jj al,hw,h2,h3,rP,pH,hi,cF,yj,It,Question.forced,hold,qD,Go.newRow,grownCap];congr 2;apply Array.ext';simp
  ·simp[Builtin.append_,asInt,asIntOf,h0,h1,run_underlying aN,run_underlying hu,jj al,hw,h2,h3,rP,pH,hi,cF,yj,It,Question.forced,hold,qD,Go.newRow,grownCap];congr 2;apply Array.ext';simp[wc]
end
section
variable{P:Program}{B:Nat}{aY w:World}{X:ah}{E:Env}
theorem aew{z:Value}{sz:Nat}(h:(db z).cells.length=sz):z.cells.size=sz:=by
 have:=(wz (E:={f:=λ_=>none,n:=0}) z).length;simpa[h] using this
theorem Yw{c9:Array TypeId}{t u ty e sz b n hQ mn:Nat}{z:Value}{d:TypeDesc}{base:Option Addr}{x:Value}{oy e6:List J}{olds news:List Value}{y:J}{af:ah}(aB:bP P B aY X E w)
 (h0:c9[0]?=some t)(h1:c9[1]?=some u)(aN:P.underlying t=some (.slice e))(hu:P.underlying u=some d)
 (al:dP P e=some sz)(a1:hb P e=some z)(ag:n8 P e=some b)(hj:(db z).cells.length=sz)(nX:mn<hQ+n)
 (hold:(Builtin.firstCells sz hQ (.slice base hQ mn)).run P w.drew= .ok olds.toArray w.drew)(ar:ua P d e sz n x news w)
 (aq:cg E oy olds)(hv:cg E e6 news)(gS:olds.length=hQ*sz)(gv:news.length=n*sz)(h:nC e sz b (hQ+n) (oy++e6) X=some (y,af)):
 Good P B aY E w (Builtin.append_ c9 ty #[.slice base hQ mn,x]) y af:=by
 unfold nC at h;cases aS:Nat.ble (hQ+n) 140737488355328 with
 |false=>simp[aS] at h
 |true=>
 cases a2:Nat.ble ((hQ+n)*b) 140737488355328 with
 |false=>simp[aS,a2] at h
 |true=>
 simp only[aS,a2,Bool.and_self,cond_true,Option.some.injEq,Prod.mk.injEq] at h;obtain⟨rfl,rfl⟩:=h;have vI:=Nat.le_of_ble_eq_true aS;have oq:=Nat.le_of_ble_eq_true a2;have P0:=grownCap_ge w (hQ+n) mn e;have fx:=YC (ty:=ty) h0 h1 aN hu al a1 ag nX vI oq hold ar;have QC:=aew hj
 obtain⟨aQ,hle,ai,eu⟩:=aen (ty:=e) (esz:=sz) (c:=grownCap w (hQ+n) mn e) (lo:=0) (hi:=0) (ys:=oy++e6) (vs:=olds++news)
  (rest:=(Builtin.zeroCells z.cells (grownCap w (hQ+n) mn e-(hQ+n))).toList) aB.drew (aq.append hv) (by
    simp only[List.length_append,gS,gv,Array.length_toList,size_zeroCells,QC, <- Nat.add_mul]
    congr 1;omega) (.inl rfl)
 refine⟨aQ,_,_,hle,fx,⟨_,_,⟨ai,by omega⟩,by simp⟩,?_⟩;simpa[List.append_assoc] using eu
theorem Yt{c9:Array TypeId}{t u ty e sz n k off len lo:Nat}{cap:Option Nat}{d:TypeDesc}{o:bH}{ln x:Value}{e6:List J}{news:List Value}{y:J}{af:ah}(aB:bP P B aY X E w)
 (h0:c9[0]?=some t)(h1:c9[1]?=some u)(aN:P.underlying t=some (.slice e))(hu:P.underlying u=some d)
 (al:dP P e=some sz)(ar:ua P d e sz n x news w)(hv:cg E e6 news)(gv:e6.length=n*sz)(gw:dZ e6=true)
 (aq:X.aV.get k=some o){id c h7:Nat}(ai:E k=some (id,c))(rY:ln= .slice (some ⟨id,off,none⟩) len h7)(nX:len+n<=h7)
 (bf:∀aQ,cM E aQ->Den aQ (.aZ k off (len+n) cap lo) (.slice (some ⟨id,off,none⟩) (len+n) h7))
 (h:pq k off len cap lo (len+n) sz o e6 X=some (y,af)):Good P B aY E w (Builtin.append_ c9 ty #[ln,x]) y af:=by
 unfold pq at h;cases aS:Nat.ble (off+(len+n)*sz) o.n with
 |false=>simp[aS] at h
 |true=>
 cases cr:o.ro with
 |true=>simp[aS,cr] at h
 |false=>
 rw[show(Nat.ble (off+(len+n)*sz) o.n&&!o.ro)=true by simp[aS,cr]] at h;simp only[cond_true,Option.some.injEq,Prod.mk.injEq] at h;obtain⟨rfl,rfl⟩:=h;have vI:=Nat.le_of_ble_eq_true aS;subst rY;have hlen:off+len*sz+e6.length<=o.n:=by rw[gv];rw[Nat.add_mul] at vI;omega
 obtain⟨w',dv,eu⟩:=aB.stored (Q:=P) aq ai cr hv gw hlen;exact⟨E,_,w',cM.refl _,YD (ty:=ty) h0 h1 aN hu al nX ar (by rw[Addr.add_lit];exact dv),bf E (cM.refl _),eu⟩
theorem aj1{c9:Array TypeId}{t u ty e sz b n k len:Nat}{z:Value}{d:TypeDesc}{o:bH}{ln x:Value}{e6:List J}{news:List Value}{y:J}{af:ah}(aB:bP P B aY X E w)
 (h0:c9[0]?=some t)(h1:c9[1]?=some u)(aN:P.underlying t=some (.slice e))(hu:P.underlying u=some d)
 (al:dP P e=some sz)(a1:hb P e=some z)(ag:n8 P e=some b)(hj:(db z).cells.length=sz)
 (ar:ua P d e sz n x news w)(hv:cg E e6 news)(gv:e6.length=n*sz)(gw:dZ e6=true)
 (aq:X.aV.get k=some o){id c:Nat}(ai:E k=some (id,c))(rY:ln= .slice (some ⟨id,0,none⟩) len c)(PW:o.esz=sz)(Qa:o.loose=true)(gT:o.ro=false)(tr:o.ty=e)
 (h:rB k len (len+n) sz b o e6 X=some (y,af)):Good P B aY E w (Builtin.append_ c9 ty #[ln,x]) y af:=by
 unfold rB at h;cases aS:Nat.ble (len*sz) o.n with
 |false=>simp[aS] at h
 |true=>
 cases cr:Nat.ble (len+n) 140737488355328 with
 |false=>simp[aS,cr] at h
 |true=>
 cases ct:Nat.ble ((len+n)*b) 140737488355328 with
 |false=>simp[aS,cr,ct] at h
 |true=>
 simp only[aS,cr,ct,Bool.and_self,cond_true,force_eq,Option.some.injEq,Prod.mk.injEq] at h;obtain⟨rfl,rfl⟩:=h;have vI:=Nat.le_of_ble_eq_true aS;have akZ:=Nat.le_of_ble_eq_true cr;have vJ:=Nat.le_of_ble_eq_true ct;subst rY;obtain⟨gF,a3,cP,fs,rQ⟩:=aB.obj k o aq;obtain⟨v7,cs,Ln,lo,hi,AG,eD,yz⟩:=fs.cs gT;rw[ai] at cP;cases cP;obtain⟨api,oJ,aoU,_,kI⟩:=yz gT;have eA:=kI Qa;rw[PW] at eA;have adf:news.length=n*sz:=by rw[hv.length,gv]
 have adn:∀(aQ:Env) (m3:Array Value),cM E aQ->(∀j,j<len*sz->m3[j]?=cs[j]?)->(∀j,j<news.length->m3[len*sz+j]?=news[j]?)->
  ∀j y,bH.get {o with cn:=0,n:=(len+n)*sz,fy:=ha o.fy (len*sz) e6} j=some y->∃v,m3[j]?=some v/\Den aQ y v:=by
  intro aQ m3 hle tb Dh j y aa;have AJ:j<(len+n)*sz:=bH.x4 aa;have nP:Nat.blt j ((len+n)*sz)=true:=by rw[Nat.blt_eq];exact AJ
  rw[Nat.add_mul] at AJ;unfold bH.get at aa;simp only[nP,cond_true] at aa;rw[x5 e6 o.fy (len*sz) j] at aa;by_cases je:len*sz<=j/\j<len*sz+e6.length
  ·rw[if_pos je] at aa;cases bf:e6[j-len*sz]? with
   |none=>rw[List.getElem?_eq_none_iff] at bf;omega
   |some z=>
    simp only[bf] at aa;cases aa;obtain⟨v,AV,DW⟩:=(hv.mono hle).get _ _ bf;refine⟨v,?_,DW⟩
    have:=Dh (j-len*sz) (by have:=(List.getElem?_eq_some_iff.1 AV).1;omega)
    rw[show len*sz+(j-len*sz)=j by omega] at this;rw[this];exact AV
  ·rw[if_neg je] at aa;have nR:j<len*sz:=by rw[gv] at je;omega
   rw[tb j nR];have an9:Nat.blt j o.n=true:=by rw[Nat.blt_eq];omega
   obtain⟨v,AV,DW⟩:=eD j y (by unfold bH.get;simp only[an9,cond_true];exact aa);exact⟨v,AV,DW.mono hle⟩
 by_cases nX:len+n<=c
 ·
  have ao9:len*sz+n*sz<=cs.size:=by rw[eA, <- Nat.add_mul];exact Nat.mul_le_mul_right _ nX
  obtain⟨w',m3,dv,Qg,aph,rX,dR,uO,jZ,PO,th⟩:=WU P id (len*sz) Ln lo hi news 0 w cs AG (Nt hv gw) (λj aa=>⟨by omega,by rcases oJ with e|e<;>simp<;>omega⟩);have fx:=YD (ty:=ty) (w':=w') h0 h1 aN hu al nX ar (by rw[Addr.add_lit,Nat.zero_add];exact dv);refine⟨E.put X.next id c,_,w',Env.r9 (aB.fresh _ (Nat.le_refl _)) aB.j7,fx,⟨id,c,⟨Env.lS _ _ _ _,by omega⟩,by simp⟩,?_⟩;refine aB.renamed (o':={o with cn:=0,n:=(len+n)*sz,fy:=ha o.fy (len*sz) e6}) aq ai gT gT Qg aph rX dR uO (.inl ⟨v7,m3,Ln,lo,hi,jZ,?_,λ_=>⟨api,by rw[PO];exact oJ,?_,λh=>(by rw[Qa] at h;cases h),λ_=>by rw[PO,eA, <- PW]⟩⟩)
  ·refine adn _ _ (Env.r9 (aB.fresh _ (Nat.le_refl _)) aB.j7) (λj aa=>?_) (λj aa=>?_)
   ·rw[th j,if_neg (by omega)]
   ·rw[th (len*sz+j),if_pos (by omega)];congr 1;omega
  ·rw[PO,Nat.add_mul];exact ao9
 ·
  have hlen:len*sz<=cs.size:=by omega
  have hold:(Builtin.firstCells sz len (.slice (some ⟨id,0,none⟩) len c)).run P w.drew= .ok (cs.toList.take (len*sz)).toArray w.drew:=by
   have:=run_loadCells_list (P:=P) (w:=w.drew) ⟨id,0,none⟩ (cs.toList.take (len*sz)) (λj v aa=>by
    rw[Addr.add_lit,Nat.zero_add];rw[List.getElem?_take] at aa;have an8:w.drew.heap[id]?=some (.cells cs Ln (lo,hi)):=AG;split at aa
    ·simpa[World.cell?,an8] using aa
    ·cases aa)
   rw[List.length_take,Array.length_toList,Nat.min_eq_left hlen] at this;simpa[Builtin.firstCells] using this
  have P0:=grownCap_ge w (len+n) c e;have fx:=YC (ty:=ty) h0 h1 aN hu al a1 ag (by omega) akZ vJ hold ar;have QC:=aew hj;have ya:=(aB.ap8 k).drew;refine⟨E.put X.next w.heap.size (grownCap w (len+n) c e),_,_,Env.r9 (aB.fresh _ (Nat.le_refl _)) aB.j7,fx,⟨_,_,⟨Env.lS _ _ _ _,by omega⟩,by simp⟩,?_⟩;have ba:(cs.toList.take (len*sz)).length=len*sz:=by rw[List.length_take,Array.length_toList,Nat.min_eq_left hlen]
  have:=ya.new {o with cn:=0,n:=(len+n)*sz,fy:=ha o.fy (len*sz) e6} (cs.toList.take (len*sz)++(news++(Builtin.zeroCells z.cells (grownCap w (len+n) c e-(len+n))).toList)).toArray
   (grownCap w (len+n) c e) 0 0 gT v7 (λaQ hle=>?_)
  ·rw[show e=o.ty from tr.symm];rw[<- tr] at this;exact this
  ·refine⟨_,_,0,0,rfl,adn aQ _ hle (λj aa=>?_) (λj aa=>?_),λ_=>⟨rfl,.inl rfl,?_,λh=>(by rw[Qa] at h;cases h),λ_=>?_⟩⟩
   ·rw[List.getElem?_toArray,List.getElem?_append_left (by rw[ba];exact aa),List.getElem?_take,if_pos aa];simp
   ·rw[List.getElem?_toArray,List.getElem?_append_right (by rw[ba];omega),ba,show len*sz+j-len*sz=j by omega,List.getElem?_append_left aa]
   ·simp only[List.size_toArray,List.length_append,ba,adf,Nat.add_mul];omega
   ·simp only[List.size_toArray,List.length_append,ba,adf,Array.length_toList,size_zeroCells,QC];rw[PW, <- Nat.add_assoc, <- Nat.add_mul, <- Nat.add_mul];congr 1;omega
theorem YA{c9:Array TypeId}{t u ty e sz b n k off len lo:Nat}{cap:Option Nat}{z:Value}{d:TypeDesc}{ln x:Value}{e6:List J}{news:List Value}{y:J}{af:ah}(aB:bP P B aY X E w)
 (h0:c9[0]?=some t)(h1:c9[1]?=some u)(aN:P.underlying t=some (.slice e))(hu:P.underlying u=some d)
 (dR:dP P e=some sz)(a1:hb P e=some z)(ag:n8 P e=some b)(vJ:(db z).cells.length=sz)(aS:1<=sz)(ar:ua P d e sz n x news w)(hv:cg E e6 news)(oq:e6.length=n*sz)
 (gv:news.length=n*sz)(cr:dZ e6=true)(al:Den E (.aZ k off len cap lo) ln)
 (h:lA e sz b k off len cap lo n e6 X=some (y,af)):Good P B aY E w (Builtin.append_ c9 ty #[ln,x]) y af:=by
 unfold lA at h;split at h<;>try(cases h;done)
 rename_i o aq;rw[force_eq] at h;obtain⟨gF,a3,cP,fs,rQ⟩:=aB.obj k o aq;cases cap with
 |some cp=>
  obtain⟨id,c,ai,rfl⟩:=al;simp only at h;cases aI:Nat.ble (len+n) cp with
  |true=>
   simp only[aI,cond_true] at h;exact Yt (cap:=some cp) (lo:=lo) aB h0 h1 aN hu dR ar hv oq cr aq ai rfl (Nat.le_of_ble_eq_true aI) (λaQ hle=>⟨id,c,hle.sub _ _ ai,rfl⟩) h
  |false=>
   simp only[aI,cond_false] at h;split at h<;>try(cases h;done)
   rename_i oy ao0
   have lO:cp<len+n:=by
    rcases Nat.lt_or_ge cp (len+n) with h'|h'
    ·exact h'
    ·have:Nat.ble (len+n) cp=true:=by rw[Nat.ble_eq];exact h'
     rw[aI] at this;cases this
   rw[ai] at cP;cases cP;obtain⟨olds,aoW,gS,aoV⟩:=Ed fs _ off oy ao0
   have hold:(Builtin.firstCells sz len (.slice (some ⟨gF,off,none⟩) len cp)).run P w.drew= .ok olds.toArray w.drew:=by
    have:=run_loadCells_list (P:=P) (w:=w.drew) ⟨gF,off,none⟩ olds (λj v aa=>by
     rw[Addr.add_lit]
     exact aoV j v aa)
    rw[gS] at this;simpa[Builtin.firstCells] using this
   exact Yw aB h0 h1 aN hu dR a1 ag vJ lO hold ar aoW hv gS gv h
 |none=>
  obtain⟨id,c,⟨ai,hle⟩,rfl⟩:=al;simp only at h;cases g1:Nat.beq off 0 with
  |false=>simp[g1] at h
  |true=>
  cases g2:Nat.beq lo 0 with
  |false=>simp[g1,g2] at h
  |true=>
  cases g3:Nat.beq o.esz sz with
  |false=>simp[g1,g2,g3] at h
  |true=>
  cases g4:o.loose with
  |false=>simp[g1,g2,g3,g4] at h
  |true=>
  cases g5:o.ro with
  |true=>simp[g1,g2,g3,g4,g5] at h
  |false=>
  cases g6:Nat.beq o.ty e with
  |false=>simp[g1,g2,g3,g4,g5,g6] at h
  |true=>
  simp only[g1,g2,g3,g4,g5,g6,Bool.and_self,Bool.not_false,cond_true] at h;have ane:=Nat.eq_of_beq_eq_true g1;have anf:=Nat.eq_of_beq_eq_true g2;have acg:=Nat.eq_of_beq_eq_true g3;have ang:=Nat.eq_of_beq_eq_true g6;subst ane;subst anf;rw[Nat.sub_zero];rw[ai] at cP;cases cP;obtain⟨_,cs,Ln,dD,fq,AG,eD,yz⟩:=fs.cs g5;obtain⟨_,_,aoU,_,kI⟩:=yz g5;have eA:=kI g4;rw[acg] at eA;cases aI:Nat.ble ((len+n)*sz) o.n with
  |true=>
   simp only[aI,cond_true] at h;have lO:=Nat.le_of_ble_eq_true aI
   have nX:len+n<=a3:=by
    have h1:(len+n)*sz<=a3*sz:=by omega
    exact Nat.le_of_mul_le_mul_right h1 (by omega)
   exact Yt (cap:=none) (lo:=0) aB h0 h1 aN hu dR ar hv oq cr aq ai rfl nX (λaQ hle=>⟨gF,a3,⟨hle.sub _ _ ai,by omega⟩,by simp⟩) h
  |false=>
   simp only[aI,cond_false] at h;exact aj1 aB h0 h1 aN hu dR a1 ag vJ ar hv oq cr aq ai rfl acg g4 g5 ang h
theorem akg{c9:Array TypeId}{t u ty:Nat}{d:TypeDesc}{s x y:J}{ln o5:Value}{af:ah}(aB:bP P B aY X E w)(h0:c9[0]?=some t)(h1:c9[1]?=some u)(hu:P.underlying u=some d)(aH:se d=true)
 (al:Den E s ln)(ar:Den E x o5)(h:oU P t s x X=some (y,af)):Good P B aY E w (Builtin.append_ c9 ty #[ln,o5]) y af:=by
 unfold oU at h;split at h<;>try(cases h;done)
 rename_i e aN;split at h<;>try(cases h;done)
 rename_i sz z b dR a1 ag;split at h<;>try(cases h;done)
 rename_i n e6 na;cases aS:Nat.ble 1 sz with
 |false=>simp[aS] at h
 |true=>
 cases a2:Nat.beq e6.length (n*sz) with
 |false=>simp[aS,a2] at h
 |true=>
 cases cr:dZ e6 with
 |false=>simp[aS,a2,cr] at h
 |true=>
 cases ct:Nat.beq (db z).cells.length sz with
 |false=>simp[aS,a2,cr,ct] at h
 |true=>
 simp only[aS,a2,cr,ct,Bool.and_self,cond_true] at h;have oq:=Nat.eq_of_beq_eq_true a2;have vJ:=Nat.eq_of_beq_eq_true ct;obtain⟨news,hv,hlen,IG⟩:=Yr (P:=P) aB ar na oq;have gv:news.length=n*sz:=by rw[hv.length,oq]
 have IH:∀cy:World,cy.heap=w.heap->(Builtin.firstCells sz n o5).run P cy= .ok news.toArray cy:=λcy ck=>by
  have:=IG cy ck n (Nat.le_refl _)
  rwa[<- gv,List.take_length] at this
 split at h
 ·
  rename_i a c;have az:ln=_:=al;subst az;cases b1:Nat.beq a 0 with
  |false=>simp[b1] at h
  |true=>
  cases ae:Nat.beq c 0 with
  |false=>simp[b1,ae] at h
  |true=>
  simp only[b1,ae,Bool.and_self,cond_true] at h;have Dl:=Nat.eq_of_beq_eq_true b1;have fr:=Nat.eq_of_beq_eq_true ae;subst Dl;subst fr;cases lM:Nat.beq n 0 with
  |true=>
   have IN:=Nat.eq_of_beq_eq_true lM;subst IN;simp only[lM,cond_true,Option.some.injEq,Prod.mk.injEq] at h;obtain⟨rfl,rfl⟩:=h;refine⟨E,.slice none 0 0,w,cM.refl _,?_,rfl,aB⟩;have an:=IH w rfl
   cases d<;>first
    |(cases aH;done)
    |simp[Builtin.append_,h0,h1,run_underlying aN,run_underlying hu,jj dR,hlen,an]
  |false=>
   have IN:=Nat.ne_of_beq_eq_false lM;simp only[lM,cond_false] at h;have h':nC e sz b (0+n) ([]++e6) X=some (y,af):=by simpa using h
   exact Yw (oy:=[]) (olds:=[]) aB h0 h1 aN hu dR a1 ag vJ (by omega) (by simp[Builtin.firstCells]) (.Ag aH (λcy _=>hlen cy) IH) rfl hv (by simp) gv h'
 ·exact YA aB h0 h1 aN hu dR a1 ag vJ (Nat.le_of_ble_eq_true aS) (.Ag aH (λcy _=>hlen cy) IH) hv oq gv cr al h
 ·rename_i k;obtain⟨uk,cp,rfl⟩:=al;cases lM:Nat.beq n 0 with
  |false=>simp[lM] at h
  |true=>
   have IN:=Nat.eq_of_beq_eq_true lM;subst IN;simp only[lM,cond_true,Option.some.injEq,Prod.mk.injEq] at h;obtain⟨rfl,rfl⟩:=h;refine⟨E,.slice (some uk) 0 cp,w,cM.refl _,?_,⟨uk,cp,rfl⟩,aB⟩;have an:=IH w rfl
   have yw:news=[]:=by
    have:news.length=0:=by simpa using gv
    exact List.length_eq_zero_iff.1 this
   subst yw;have dv:∀a:Addr,(storeCells a ([]:List Value)).run P w= .ok () w:=λ_=>rfl
   cases d<;>first
    |(cases aH;done)
    |simp[Builtin.append_,h0,h1,run_underlying aN,run_underlying hu,jj dR,hlen,an,dv]
 ·cases h
theorem Zv{c:J}{v:Value}(h:Den E c v):∀n,cg E (List.replicate n c) (List.replicate n v)
 |0=>rfl
 |n+1=>⟨v,_,h,Zv h n,rfl⟩
theorem aEE(v:Value)(n:Nat):(Builtin.zeroCells #[v] n).toList=List.replicate n v:=by
 apply List.ext_getElem
 ·simp[Builtin.zeroCells]
 ·intro i h1 h2;simp[Builtin.zeroCells,Nat.mod_one]
theorem Yg{c:J}(h:c.one=true):∀n,dZ (List.replicate n c)=true
 |0=>rfl
 |n+1=>by simp[List.replicate_succ,dZ,h,Yg h n]
theorem akd{c9:Array TypeId}{t u ty:Nat}{d:TypeDesc}{s x y:J}{ln o5:Value}{af:ah}(aB:bP P B aY X E w)(h0:c9[0]?=some t)(h1:c9[1]?=some u)(hu:P.underlying u=some d)(aH:vi d=true)
 (al:Den E s ln)(ar:Den E x o5)(h:pY P t s x X=some (y,af)):Good P B aY E w (Builtin.append_ c9 ty #[ln,o5]) y af:=by
 unfold pY at h;split at h<;>try(cases h;done)
 rename_i e k n aN;have az:o5=_:=ar;subst az;split at h<;>try(cases h;done)
 rename_i sz z b dR a1 ag;split at h<;>try(cases h;done)
 rename_i c ae;cases aS:Nat.beq sz 1 with
 |false=>simp[aS] at h
 |true=>
 cases a2:c.one with
 |false=>simp[aS,a2] at h
 |true=>
 cases cr:Nat.ble n 140737488355328 with
 |false=>simp[aS,a2,cr] at h
 |true=>
 cases ct:Nat.ble (n*b) 140737488355328 with
 |false=>simp[aS,a2,cr,ct] at h
 |true=>
 simp only[aS,a2,cr,ct,Bool.and_self,cond_true] at h;have vI:=Nat.eq_of_beq_eq_true aS;subst vI;split at h<;>try(cases h;done)
 have te:=wz (E:=E) z;rw[ae] at te;obtain⟨v,vs,AV,DW,apk⟩:=te;cases DW
 have qE:z.cells= #[v]:=by
  apply Array.ext';rw[apk]
 obtain⟨n0,v9⟩:∃n0,d= .int n0:=by
  cases d<;>first|(cases aH;done)|exact⟨_,rfl⟩
 refine YA (news:=List.replicate n v) aB h0 h1 aN hu dR a1 ag (by rw[ae];rfl) (Nat.le_refl _)
  (.FT n0 _ z b v9 rfl a1 ag (Nat.le_of_ble_eq_true cr) (Nat.le_of_ble_eq_true ct) (by rw[qE,aEE]) (by omega)) (Zv AV n) (by simp) (by simp) (Yg a2 n) al h
end
section
variable{P:Program}{B:Nat}{aY w:World}{X:ah}{E:Env}
theorem cg.takeN{ys:List J}{vs:List Value}(n:Nat)(h:cg E ys vs):cg E (ys.take n) (vs.take n):=cg.take n h
theorem Yh:∀{ys:List J} (n:Nat),dZ ys=true->dZ (ys.take n)=true
 | [],n,_=>by simp[dZ]
 |y::ys,0,_=>rfl
 |y::ys,n+1,h=>by
  simp only[dZ,Bool.and_eq_true] at h;simp only[List.take_succ_cons,dZ,Bool.and_eq_true];exact⟨h.1,Yh n h.2⟩
theorem alK{c9:Array TypeId}{t ty:Nat}{s x y:J}{ln o5:Value}{af:ah}(aB:bP P B aY X E w)(h0:c9[0]?=some t)
 (al:Den E s ln)(ar:Den E x o5)(h:q6 P t s x X=some (y,af)):Good P B aY E w (Builtin.copy_ c9 ty #[ln,o5]) y af:=by
 unfold q6 at h;split at h<;>try(cases h;done)
 rename_i e aN;split at h<;>try(cases h;done)
 rename_i sz dR;split at h<;>try(cases h;done)
 rename_i n e6 na;cases a2:Nat.beq e6.length (n*sz) with
 |false=>simp[a2] at h
 |true=>
 cases cr:dZ e6 with
 |false=>simp[a2,cr] at h
 |true=>
 simp only[a2,cr,Bool.and_self,cond_true] at h;have oq:=Nat.eq_of_beq_eq_true a2;obtain⟨news,hv,hlen,IG⟩:=Yr (P:=P) aB ar na oq;have gv:news.length=n*sz:=by rw[hv.length,oq]
 split at h
 ·rename_i a c;have az:ln=_:=al;subst az;cases b1:Nat.beq a 0 with
  |false=>simp[b1] at h
  |true=>
  have Dl:=Nat.eq_of_beq_eq_true b1;subst Dl;simp only[b1,cond_true,Option.some.injEq,Prod.mk.injEq] at h;obtain⟨rfl,rfl⟩:=h;have an:=IG w rfl 0 (Nat.zero_le _);refine⟨E,.int .i64 0,w,cM.refl _,?_,rfl,aB⟩;simp[Builtin.copy_,h0,run_underlying aN,jj dR,hlen,an,goInt]
 ·rename_i k off len cap lo;split at h<;>try(cases h;done)
  rename_i o aq;rw[force_eq] at h;cases ct:Nat.ble (off+len*sz) o.n with
  |false=>simp[ct] at h
  |true=>
  cases l5:o.ro with
  |true=>simp[ct,l5] at h
  |false=>
  rw[show(Nat.ble (off+len*sz) o.n&&!o.ro)=true by simp[ct,l5]] at h;simp only[cond_true,Option.some.injEq,Prod.mk.injEq] at h;obtain⟨rfl,rfl⟩:=h;have vJ:=Nat.le_of_ble_eq_true ct
  have DP:∃id c h7,E k=some (id,c)/\ln= .slice (some ⟨id,off,none⟩) len h7:=by
   cases cap with
   |none=>obtain⟨id,c,az,aA⟩:=al;exact⟨id,c,_,az.1,aA⟩
   |some cap=>obtain⟨id,c,az,aA⟩:=al;exact⟨id,c,_,az,aA⟩
  obtain⟨id,c,h7,ai,rfl⟩:=DP;have ac9:Nat.min n len<=n:=Nat.min_le_left _ _;have aoR:Nat.min n len<=len:=Nat.min_le_right _ _
  have yq:off+(e6.take (Nat.min n len*sz)).length<=o.n:=by
   have:=Nat.mul_le_mul_right sz aoR
   rw[List.length_take];omega
  obtain⟨w',dv,eu⟩:=aB.stored (Q:=P) aq ai l5 (cg.takeN (Nat.min n len*sz) hv) (Yh _ cr) yq;have an:=IG w rfl _ ac9;refine⟨E,.int .i64 (Nat.min n len),w',cM.refl _,?_,rfl,eu⟩;simp[Builtin.copy_,h0,run_underlying aN,jj dR,hlen,an,dv,goInt]
 ·cases h
theorem D6{e:TypeId}(h:hN P e=true):P.underlying e=some (.int .u8):=by
 unfold hN at h;split at h<;>first|assumption|cases h
theorem YQ:∀{ys:List J} {lh:List Int} {vs:List Value},bytesOf ys=some lh->cg E ys vs->vs=lh.map (Value.int .u8)
 | [],lh,vs,h,aH=>by simp[bytesOf] at h;subst h;cases aH;rfl
 | .int .u8 n::ys,lh,vs,h,⟨v,BV,hv,aH,e⟩=>by
   simp only[bytesOf] at h;split at h<;>try(cases h;done)
   rename_i aFy tm;cases h;have az:v=_:=hv;subst e;subst az;rw[YQ tm aH];rfl
theorem am8(cN:World)(cs:Array Value)(e:TypeId):(cN.alloc (.cells cs e)).freeze ⟨cN.heap.size,cs.size,none⟩ 1=cN.alloc (.cells cs e (cs.size,cs.size+1)):=by
 have:∀f:Obj->Obj,(cN.heap.push (Obj.cells cs e)).modify cN.heap.size f=cN.heap.push (f (.cells cs e)):=by
  intro f;apply Array.ext_getElem?;intro i;rw[Array.getElem?_modify,Array.getElem?_push,Array.getElem?_push];by_cases h:cN.heap.size=i
  ·subst h;simp
  ·simp[h,Ne.symm h]
 have aA:(cN.alloc (.cells cs e)).heap=cN.heap.push (.cells cs e):=rfl;unfold World.freeze;rw[if_neg (by decide),aA,this];rfl
theorem bP.marked{off:Nat}(aB:bP P B aY X E w){k id c:Nat}{o:bH}(aq:X.aV.get k=some o)(ai:E k=some (id,c))(gT:o.ro=false):
 ∃w',(markStringish ⟨id,off,none⟩).run P w= .ok () w'/\bP P B aY X E w':=by
 obtain⟨i',a3,cP,ao7,rQ⟩:=aB.obj k o aq;obtain⟨v7,cs,ty,lo,hi,ag,ae,yz⟩:=ao7.cs gT;rw[ai] at cP;cases cP;obtain⟨tr,oJ,aO,oK,kI⟩:=yz gT;have yC:w.shape? id=some (ty,cs.size):=by simp[World.shape?,ag]
 have jZ:(w.freeze ⟨id,cs.size,none⟩ 1).heap[id]?=some (.cells cs ty (if lo==hi then(cs.size,cs.size+1) else(min lo cs.size,max hi (cs.size+1)))):=by
  simp[World.freeze,Array.getElem?_modify,ag]
 have uO:∀j,j≠id->(w.freeze ⟨id,cs.size,none⟩ 1).heap[j]?=w.heap[j]?:=λj aa=>by
  simp[World.freeze,Array.getElem?_modify,Ne.symm aa]
 have c2:∃l h,(if lo==hi then(cs.size,cs.size+1) else(min lo cs.size,max hi (cs.size+1)))=(l,h)/\(l=h\/cs.size<=l):=by
  by_cases e:lo=hi
  ·exact⟨cs.size,cs.size+1,by simp[e],.inr (Nat.le_refl _)⟩
  ·refine⟨min lo cs.size,max hi (cs.size+1),by simp[e],.inr ?_⟩;rcases oJ with h|h
   ·exact absurd h e
   ·omega
 obtain⟨l,h,aoL,c2⟩:=c2;rw[aoL] at jZ;refine⟨w.freeze ⟨id,cs.size,none⟩ 1,by simp[markStringish,yC],aB.os,aB.tape,aB.output,?_,λj aa=>?_,λj cf aa=>?_,aB.inj,aB.fresh,aB.m8,aB.j7⟩
 ·have:=aB.base
  simpa[World.freeze] using this
 ·rw[uO j (by have:=rQ (.inl gT);omega)];exact aB.gz j aa
 ·by_cases h9:j=k
  ·subst h9;rw[aq] at aa;cases aa;exact⟨id,c,ai,.inl ⟨v7,cs,ty,l,h,jZ,ae,λ_=>⟨tr,c2,aO,oK,kI⟩⟩,rQ⟩
  ·obtain⟨i,a2,he,fs,yc⟩:=aB.obj j cf aa;have b4:i≠id:=λaA=>h9 (aB.inj j k cf o i a2 c aa aq he (by rw[ai,aA]))
   exact⟨i,a2,he,by rw[uO i b4];exact fs,yc⟩
theorem alF{s d:TypeId}{x y:J}{u:Value}{af:ah}(aB:bP P B aY X E w)(ar:Den E x u)(h:jJ P s d x X=some (y,af)):Good P B aY E w (convert s d u) y af:=by
 unfold jJ at h;split at h
 ·rename_i e b al aH;cases aS:hN P e with
  |false=>simp[aS] at h
  |true=>
  cases a2:Nat.ble b.size 140737488355328 with
  |false=>simp[aS,a2] at h
  |true=>
  simp only[aS,a2,Bool.and_self,cond_true,Option.some.injEq,Prod.mk.injEq] at h;obtain⟨rfl,rfl⟩:=h;have he:=D6 aS;have az:u=_:=ar;subst az;have fx:=Lib.run_convert_string_bytes w s d e b al aH he;have P0:=grownCap_ge w b.size 0 e
  have dR:(Lib.bytesCells w e b).size=grownCap w b.size 0 e:=by
   have:b.data.size=b.size:=rfl
   simp[Lib.bytesCells,this];omega
  have aoM:Lib.bytesCells w e b=((b.data.toList.map λz:UInt8=>Value.int .u8 z.toNat)++List.replicate (grownCap w b.size 0 e-b.size) (Value.int .u8 0)).toArray:=by
   apply Array.ext';simp[Lib.bytesCells]
  obtain⟨aQ,hle,ai,eu⟩:=aen (ty:=e) (esz:=1) (c:=grownCap w b.size 0 e) (lo:=grownCap w b.size 0 e) (hi:=grownCap w b.size 0 e+1) (ys:=wX b) (vs:=b.data.toList.map λz:UInt8=>Value.int .u8 z.toNat)
   (rest:=List.replicate (grownCap w b.size 0 e-b.size) (.int .u8 0)) aB.drew (Zy b) (by
     have:b.data.size=b.size:=rfl
     simp[this];omega) (.inr (by omega))
  refine⟨aQ,_,_,hle,fx,⟨_,_,⟨ai,by omega⟩,by simp⟩,?_⟩
  have hw:Lib.bytesWorld w e b=w.drew.alloc (.cells (Lib.bytesCells w e b) e (grownCap w b.size 0 e,grownCap w b.size 0 e+1)):=by
   unfold Lib.bytesWorld
   have:=am8 w.drew (Lib.bytesCells w e b) e
   rw[<- dR];exact this
  rw[hw,aoM];exact eu
 ·rename_i bg e k off n cap lo al aH;cases aS:hN P e with
  |false=>simp[aS] at h
  |true=>
  cases a2:Nat.beq s d with
  |false=>simp[aS,a2] at h
  |true=>
  have oq:=Nat.eq_of_beq_eq_true a2;subst oq;simp only[aS,a2,Bool.and_self,cond_true] at h;split at h<;>try(cases h;done)
  rename_i o aq;cases cr:o.ro with
  |true=>simp[cr] at h
  |false=>
  simp only[cr,cond_false,Option.some.injEq,Prod.mk.injEq] at h;obtain⟨rfl,rfl⟩:=h;have he:=D6 aS
  have fG:∃id c h7,E k=some (id,c)/\u= .slice (some ⟨id,off,none⟩) n h7:=by
   cases cap with
   |none=>obtain⟨id,c,az,aA⟩:=ar;exact⟨id,c,_,az.1,aA⟩
   |some cap=>obtain⟨id,c,az,aA⟩:=ar;exact⟨id,c,_,az,aA⟩
  obtain⟨id,c,h7,ai,hu⟩:=fG;obtain⟨w',aI,eu⟩:=aB.marked (P:=P) (off:=off) aq ai cr;refine⟨E,u,w',cM.refl _,?_,ar,eu⟩;subst hu;rw[al] at aH;cases aH;simp[convert,run_underlying al,run_underlying he,aI]
 ·rename_i e a c al aH;cases aS:hN P e with
  |false=>simp[aS] at h
  |true=>
  simp only[aS,cond_true,Option.some.injEq,Prod.mk.injEq] at h;obtain⟨rfl,rfl⟩:=h;have he:=D6 aS;have az:u=_:=ar;subst az;exact⟨E,.string .empty,w,cM.refl _,by simp[convert,run_underlying al,run_underlying aH,run_underlying he,Conv.bytesToString],rfl,aB⟩
 ·rename_i e k al aH;cases aS:hN P e with
  |false=>simp[aS] at h
  |true=>
  simp only[aS,cond_true,Option.some.injEq,Prod.mk.injEq] at h;obtain⟨rfl,rfl⟩:=h;have he:=D6 aS;obtain⟨uk,cp,rfl⟩:=ar;have aL:=run_loadCells_list (P:=P) (w:=w) uk [] (λj v aa=>by simp at aa);have aI:=run_bytesToString (P:=P) w uk 0 cp [] (by simpa using aL);exact⟨E,.string .empty,w,cM.refl _,by simp[convert,run_underlying al,run_underlying aH,run_underlying he,aI],rfl,aB⟩
 ·rename_i e k off n cap lo al aH;cases aS:hN P e with
  |false=>simp[aS] at h
  |true=>
  simp only[aS,cond_true] at h;split at h<;>try(cases h;done)
  rename_i o aq;split at h<;>try(cases h;done)
  rename_i ys ft;split at h<;>try(cases h;done)
  rename_i lh tm;cases h;have he:=D6 aS
  have fG:∃id c h7,E k=some (id,c)/\u= .slice (some ⟨id,off,none⟩) n h7:=by
   cases cap with
   |none=>obtain⟨id,c,az,aA⟩:=ar;exact⟨id,c,_,az.1,aA⟩
   |some cap=>obtain⟨id,c,az,aA⟩:=ar;exact⟨id,c,_,az,aA⟩
  obtain⟨id,c,h7,ai,rfl⟩:=fG;obtain⟨gF,a3,cP,fs,_⟩:=aB.obj k o aq;rw[ai] at cP;cases cP;obtain⟨vs,h1,h2,h3⟩:=Ed fs _ off ys ft;have r1:=YQ tm h1;have aL:=run_loadCells_list (P:=P) (w:=w) ⟨id,off,none⟩ vs (λj v aa=>by rw[Addr.add_lit];exact h3 j v aa);rw[h2,r1] at aL;have aI:=run_bytesToString (P:=P) w ⟨id,off,none⟩ n h7 lh aL;exact⟨E,_,w,cM.refl _,by simp[convert,run_underlying al,run_underlying aH,run_underlying he,aI,GW],rfl,aB⟩
 ·cases h
theorem ak7{t ty:TypeId}{c9:Array TypeId}{x z:J}{u:Value}(aN:c9[0]?=some t)(ar:Den E x u)(h:Ng P t x=some z):iC P E w (Builtin.cap_ c9 ty #[u]) z:=by
 unfold Ng at h;split at h<;>(try(cases h;done))<;>rename_i hu
 ·obtain⟨id,c,_,rfl⟩:=ar;cases h;exact⟨_,by simp[Builtin.cap_,aN,ec hu];rfl,rfl⟩
 ·have az:u=_:=ar;subst az;simp only[fD,Option.some.injEq] at h;subst h;exact⟨_,by simp[Builtin.cap_,aN,ec hu];rfl,rfl⟩
 ·have az:u=_:=ar;subst az;simp only[Option.some.injEq] at h;subst h;exact⟨_,by simp[Builtin.cap_,aN,ec hu];rfl,rfl⟩
theorem aqC{ty:TypeId}{c9:Array TypeId}{x y z:J}{u v:Value}(ar:Den E x u)(bf:Den E y v)(h:Eh x y=some z):iC P E w (Builtin.min_ c9 ty #[u,v]) z:=by
 unfold Eh at h;split at h<;>(try(cases h;done))<;>(have az:u=_:=ar;have aA:v=_:=bf;subst az;subst aA;cases h)
 all_goals exact⟨_,by simp[Builtin.min_,Builtin.min2];rfl,by simp[Den,Bool.cond_decide]⟩
theorem aqA{ty:TypeId}{c9:Array TypeId}{x y z:J}{u v:Value}(ar:Den E x u)(bf:Den E y v)(h:Eg x y=some z):iC P E w (Builtin.max_ c9 ty #[u,v]) z:=by
 unfold Eg at h;split at h<;>(try(cases h;done))<;>(have az:u=_:=ar;have aA:v=_:=bf;subst az;subst aA;cases h)
 all_goals exact⟨_,by simp[Builtin.max_,Builtin.max2];rfl,by simp[Den,Bool.cond_decide]⟩
theorem azO{t:TypeId}{x y:J}{u:Value}{af:ah}(aB:bP P B aY X E w)(ar:Den E x u)(h:zr P t x X=some (y,af)):Good P B aY E w (Instr.range t u) y af:=by cases h
theorem ph.aeG{s:pg}{ob:Obj}(h:ph P E s (some ob)):∀c e f,ob≠ .cells c e f:=by
 intro c e f ck;subst ck;cases s with
 |cells=>exact h
 |iter s pos=>have h':(some (Obj.cells c e f))=some (.stringIter s pos):=h;cases h'
 |map es clock=>obtain⟨l,h1,_⟩:=h;cases h1
 |loop st ir ord me N F ps a a2 b=>obtain⟨_,r,h1,_⟩:=h;cases h1
 |jI t=>have h':(some (Obj.cells c e f))=some (.deferred (bif t then none else some [])):=h;cases h'
theorem bP.zt(aB:bP P B aY X E w){k:Nat}{o:bH}(aq:X.aV.get k=some o)(al:o.sp≠ .cells):∃id c,E k=some (id,c)/\ph P E o.sp w.heap[id]?/\o.n=0/\o.ro=true/\B<=id:=by
 obtain⟨id,c,ai,fs,Dh⟩:=aB.obj k o aq;rcases fs with⟨h,_⟩|⟨h1,h2,h3⟩
 ·exact absurd h al
 ·exact⟨id,c,ai,h1,h2,h3,Dh (.inr al)⟩
theorem bP.WK(aB:bP P B aY X E w){k id c:Nat}{o:bH}{s:pg}{obj':Obj}(aq:X.aV.get k=some o)(al:o.sp≠ .cells)(ai:E k=some (id,c))(aI:ph P E s (some obj'))(Q:Program):
 ∃w',(setObj id obj').run Q w= .ok () w'/\bP P B aY {X with aV:=X.aV.put k {o with cn:=o.cn+1,sp:=s}} E w':=by
 obtain⟨gF,a3,cP,fs,lM,gT,rQ⟩:=aB.zt aq al;rw[ai] at cP;cases cP;obtain⟨ob,nU⟩:=fs.there;have aow:id<w.heap.size:=(Array.getElem?_eq_some_iff.1 nU).1;rw[nU] at fs;have DI:=fs.aeG;refine⟨{w with heap:=w.heap.setIfInBounds id obj'},by cases ob<;>first|exact absurd rfl (DI _ _ _)|simp[setObj,Sem.run,nU],?_⟩;refine⟨aB.os,aB.tape,aB.output,by simpa using aB.base,λj aa=>?_,λj cf aa=>?_,λj gW dN df i aS a2 aa hs he fF=>?_,aB.fresh,aB.m8,aB.j7⟩
 ·show(w.heap.setIfInBounds id _)[j]?=_;rw[Array.getElem?_setIfInBounds_ne (by omega)];exact aB.gz j aa
 ·rcases cE.iI aa with⟨e,aA⟩|⟨e,aL⟩
  ·subst e;subst aA;refine⟨id,c,ai,.inr ⟨?_,lM,gT⟩,λ_=>rQ⟩;show ph P E s (w.heap.setIfInBounds id _)[id]?;rw[Array.getElem?_setIfInBounds_self_of_lt aow];exact aI
  ·obtain⟨i,a3,he,aI,jZ⟩:=aB.obj j cf aL;have b4:i≠id:=λaA=>e (aB.inj j k cf o i a3 c aL aq he (by rw[ai,aA]))
   refine⟨i,a3,he,?_,jZ⟩;show lz P E cf (w.heap.setIfInBounds id _)[i]? a3;rw[Array.getElem?_setIfInBounds_ne (λe=>b4 e.symm)];exact aI
 ·have f:∀q aeV,(X.aV.put k {o with cn:=o.cn+1,sp:=s}).get q=some aeV->∃ary,X.aV.get q=some ary:=λq aeV a0=>by
   rcases cE.iI a0 with⟨e,_⟩|⟨_,h⟩
   ·exact⟨o,e▸aq⟩
   ·exact⟨_,h⟩
  obtain⟨Ei,jY⟩:=f j dN aa;obtain⟨Ej,kq⟩:=f gW df hs;exact aB.inj j gW Ei Ej i aS a2 jY kq he fF
theorem anp{id:Nat}{ob:Obj}{s:pg}(h:w.heap[id]?=some ob)(al:ph P E s (some ob)):(getObj id).run P w= .ok ob w:=by
 have DI:=al.aeG;cases ob<;>first|exact absurd rfl (DI _ _ _)|simp[getObj,Sem.run,h]
theorem aqZ{k id c:Nat}{ty:TypeId}{y:J}{af:ah}(aB:bP P B aY X E w)(ai:E k=some (id,c))(h:wS k X=some (y,af)):Good P B aY E w (Instr.next (.pointer (some ⟨id,0,none⟩)) true ty) y af:=by cases h
theorem akJ{b:Builtin}{c9:Array TypeId}{ty:TypeId}{consts:Array Bool}{bA:List J}{ra:List Value}{y:J}{af:ah}(aB:bP P B aY X E w)(hv:cg E bA ra)(h:iD P b c9 bA X=some (y,af)):
 ∃aQ v w',cM E aQ/\(builtin b c9 ty consts ra.toArray).run P w= .ok (.value v) w'/\Den aQ y v/\bP P B aY af aQ w':=by
 have two:∀{x1 x2:J},cg E [x1,x2] ra->∃iv sm,ra=[iv,sm]/\Den E x1 iv/\Den E x2 sm:=by
  rintro x1 x2 ⟨iv,_,h1,⟨sm,_,h2,h3,aA⟩,az⟩
  cases h3;exact⟨iv,sm,by rw[az,aA],h1,h2⟩
 have one:∀{x1:J},cg E [x1] ra->∃iv,ra=[iv]/\Den E x1 iv:=by
  rintro x1 ⟨iv,_,h1,h2,az⟩
  cases h2;exact⟨iv,az,h1⟩
 have yes:∀{s:Sem Value},iC P E w s y->af=X->∃aQ v w',cM E aQ/\(do Pure.pure (Next.value (<- s)):Sem Next).run P w= .ok (.value v) w'/\Den aQ y v/\bP P B aY af aQ w':=by
  rintro s ⟨v,h1,h2⟩ rfl
  exact⟨E,v,w,cM.refl _,by simp[h1],h2,aB⟩
 have AA:∀{s:Sem Value},Good P B aY E w s y af->∃aQ v w',cM E aQ/\(do Pure.pure (Next.value (<- s)):Sem Next).run P w= .ok (.value v) w'/\Den aQ y v/\bP P B aY af aQ w':=by
  rintro s ⟨aQ,v,w',h1,h2,h3,aW⟩
  exact⟨aQ,v,w',h1,by simp[h2],h3,aW⟩
 have Lz:∀{o:Option J},dx X o=some (y,af)->o=some y/\af=X:=by
  intro o h;unfold dx at h;split at h<;>simp at h
  obtain⟨rfl,rfl⟩:=h;exact⟨rfl,rfl⟩
 unfold iD at h;split at h
 ·split at h<;>try(cases h;done)
  rename_i t aN;obtain⟨u,rfl,hu⟩:=one hv;obtain⟨h',e⟩:=Lz h;exact yes (aqi aN hu h') e
 ·split at h<;>try(cases h;done)
  rename_i t aN;obtain⟨u,rfl,hu⟩:=one hv;obtain⟨h',e⟩:=Lz h;exact yes (ak7 aN hu h') e
 ·obtain⟨u,v,rfl,hu,eI⟩:=two hv;obtain⟨h',e⟩:=Lz h;exact yes (aqC hu eI h') e
 ·obtain⟨u,v,rfl,hu,eI⟩:=two hv;obtain⟨h',e⟩:=Lz h;exact yes (aqA hu eI h') e
 ·split at h<;>try(cases h;done)
  rename_i t dz aN gU;split at h<;>try(cases h;done)
  rename_i d aH;cases yy:se d with
  |false=>
   simp only[yy,cond_false] at h;cases Qz:vi d with
   |false=>simp[Qz] at h
   |true=>
    simp only[Qz,cond_true] at h;obtain⟨u,v,rfl,hu,eI⟩:=two hv;exact AA (akd aB aN gU aH Qz hu eI h)
  |true=>
   simp only[yy,cond_true] at h;obtain⟨u,v,rfl,hu,eI⟩:=two hv;exact AA (akg aB aN gU aH yy hu eI h)
 ·split at h<;>try(cases h;done)
  rename_i t aN;obtain⟨u,v,rfl,hu,eI⟩:=two hv;exact AA (alK aB aN hu eI h)
 ·cases h
end
section
variable{P:Program}{B:Nat}{aY w:World}{X:ah}{E:Env}
theorem aki{t:TypeId}{k off len lo:Nat}{cap:Option Nat}{z:J}{u:Value}(ar:Den E (.aZ k off len cap lo) u)(h:WD P t k off len=some z):iC P E w (Instr.arrayAt t u) z:=by cases h
theorem aqS{t:TypeId}(aB:bP P B aY X E w):Good P B aY E w (Instr.makeMap t none) (.mp (tE X).1) (tE X).2:=by
 refine⟨E.put X.next w.heap.size 0,.map (some w.heap.size),w.alloc (.map #[] 0),Env.r9 (aB.fresh _ (Nat.le_refl _)) aB.j7,?_,⟨_,_,Env.lS _ _ _ _,rfl⟩,aB.Jm _ _ 0 λaQ _=> .inr ⟨⟨[],rfl,rfl⟩,rfl,rfl⟩⟩;simp[Instr.makeMap]
def Ma(E:Env)(cJ:Value)(es:List (J×J×Nat))(l:List MapEntry)(i:Nat)(r:Option (Nat×J))(o:Nat->Value->Prop):Prop:=
 ∃n q v b e,r=some (i+n,v)/\es[n]?=some (q,v,b)/\l[n]?=some e/\e.key=cJ/\Den E v e.val/\e.born=b/\Den E q cJ/\o (i+n) e.val
theorem Ma.next{cJ:Value}{es:List (J×J×Nat)}{l:List MapEntry}{i:Nat}{r:Option (Nat×J)}{o o':Nat->Value->Prop}{x:J×J×Nat}{y:MapEntry}(h:Ma E cJ es l (i+1) r o)(aq:∀n v,o n v->o' n v):Ma E cJ (x::es) (y::l) i r o':=by
 obtain⟨n,q,v,b,e,h1,h2,h3,aW,bz,bB,dW,gE⟩:=h;have pw:i+1+n=i+(n+1):=by omega
 rw[pw] at h1 gE;exact⟨n+1,q,v,b,e,h1,by simpa using h2,by simpa using h3,aW,bz,bB,dW,aq _ _ gE⟩
theorem aqq(aB:bP P B aY X E w){t:TypeId}{m k z:J}{sc cJ:Value}{ok:Bool}(hm:Den E m sc)(ai:Den E k cJ)(h:zq P t m k ok X=some z):iC P E w (Instr.lookup t sc cJ ok) z:=by cases h
theorem aDf(aB:bP P B aY X E w){t:TypeId}{m k v:J}{sc cJ ra:Value}{af:ah}(hm:Den E m sc)(ai:Den E k cJ)(hv:Den E v ra)(h:wT P t m k v X=some af):
 ∃w',(Instr.mapUpdate t sc cJ ra).run P w= .ok () w'/\bP P B aY af E w':=by cases h
theorem amu(aB:bP P B aY X E w){t:TypeId}{m k z:J}{sc cJ:Value}{af:ah}(hm:Den E m sc)(ai:Den E k cJ)(h:zn P t m k X=some (z,af)):Good P B aY E w (Instr.mapEntry t sc cJ) z af:=by cases h
theorem ams(aB:bP P B aY X E w){t:TypeId}{m b v:J}{sc bv ra:Value}{af:ah}(hm:Den E m sc)(ag:Den E b bv)(hv:Den E v ra)(h:wR m b v X=some af):
 ∃w',(Instr.entryStore t sc bv ra).run P w= .ok () w'/\bP P B aY af E w':=by cases h
theorem akk{x z:J}{u:Value}{aDE a:TypeId}{ok:Bool}(ar:Den E x u)(h:WE P x a ok=some z):iC P E w (Instr.typeAssert u aDE a ok) z:=by cases h
theorem aqL(aB:bP P B aY X E w){k:zQ}{args:List J}{argv:List Value}{z:J}(hv:cg E args argv)(h:tD k args X=some z):iC P E w (aeA k argv.toArray) z:=by cases h
end
section
variable{P:Program}{B:Nat}{aY w:World}{X:ah}{E:Env}
def Ge(P:Program)(B:Nat)(aY:World)(E:Env)(w:World)(s:Sem Next)(y:J)(af:ah):Prop:=
 ∃aQ v w',cM E aQ/\(s.run P w= .ok (.value v) w'\/(s.run P w= .ok .skip w'/\v=undef))/\Den aQ y v/\bP P B aY af aQ w'
theorem Good.op{s:Sem Value}{y:J}{af:ah}(h:Good P B aY E w s y af):Ge P B aY E w (do Pure.pure (.value (<- s))) y af:=by
 obtain⟨aQ,v,w',h1,h2,h3,aW⟩:=h;exact⟨aQ,v,w',h1,.inl (by simp[h2]),h3,aW⟩
theorem iC.op{s:Sem Value}{y:J}(aB:bP P B aY X E w)(h:iC P E w s y):Ge P B aY E w (do Pure.pure (.value (<- s))) y X:=by
 obtain⟨v,h2,h3⟩:=h;exact⟨E,v,w,cM.refl _,.inl (by simp[h2]),h3,aB⟩
theorem gK{o:Option J}{y:J}{X af:ah}(h:dx X o=some (y,af)):o=some y/\X=af:=by
 unfold dx at h;split at h<;>simp at h
 obtain⟨rfl,rfl⟩:=h;exact⟨rfl,rfl⟩
theorem lG{a:J}{l:List Value}(h:cg E [a] l):∃u,l=[u]/\Den E a u:=by
 obtain⟨u,us,h1,h2,e⟩:=h;cases h2;exact⟨u,e,h1⟩
theorem sW{a b:J}{l:List Value}(h:cg E [a,b] l):∃u v,l=[u,v]/\Den E a u/\Den E b v:=by
 obtain⟨u,us,h1,h2,e⟩:=h;obtain⟨v,rfl,h3⟩:=lG h2;exact⟨u,v,e,h1,h3⟩
theorem Hc{a b c:J}{l:List Value}(h:cg E [a,b,c] l):∃u v x,l=[u,v,x]/\Den E a u/\Den E b v/\Den E c x:=by
 obtain⟨u,us,h1,h2,e⟩:=h;obtain⟨v,x,rfl,h3⟩:=sW h2;exact⟨u,v,x,e,h1,h3⟩
inductive jq (X:ah):ah->Prop
 |same:jq X X
 |new (o:bH):jq X (X.new o).2
 |set (k:Nat) (o o':bH):X.aV.get k=some o->o.cn<o'.cn->jq X {X with aV:=X.aV.put k o'}
 |name (k:Nat) (o:bH):jq X {X with next:=X.next+1,aV:=(X.aV.del k).put X.next o}
theorem jq.pc{X af:ah}(h:jq X af):af.pc=X.pc:=by cases h<;>rfl
theorem jq.bs{X af:ah}(h:jq X af):af.bs=X.bs:=by cases h<;>rfl
theorem aeo{ty esz:Nat}{cells:List J}{X:ah}:jq X (mP X ty esz cells).2:=by
 unfold mP;rw[force_eq];exact .new _
theorem Zh{s d:TypeId}{x y:J}{X af:ah}(h:jJ P s d x X=some (y,af)):jq X af:=by
 unfold jJ at h;split at h
 ·generalize(hN P _&&_)=b at h;cases b<;>simp only[cond_true,cond_false,Option.some.injEq,Prod.mk.injEq,reduceCtorEq] at h
  obtain⟨_,rfl⟩:=h;exact aeo
 ·generalize(hN P _&&_)=b at h;cases b<;>simp only[cond_true,cond_false,reduceCtorEq] at h
  split at h<;>try(cases h;done)
  rename_i o _;cases aq:o.ro<;>simp only[aq,cond_true,cond_false,Option.some.injEq,Prod.mk.injEq,reduceCtorEq] at h
  obtain⟨_,rfl⟩:=h;exact .same
 ·generalize hN P _=b at h;cases b<;>simp only[cond_true,cond_false,Option.some.injEq,Prod.mk.injEq,reduceCtorEq] at h
  obtain⟨_,rfl⟩:=h;exact .same
 ·generalize hN P _=b at h;cases b<;>simp only[cond_true,cond_false,Option.some.injEq,Prod.mk.injEq,reduceCtorEq] at h
  obtain⟨_,rfl⟩:=h;exact .same
 ·generalize hN P _=b at h;cases b<;>simp only[cond_true,cond_false,reduceCtorEq] at h
  split at h<;>try(cases h;done)
  split at h<;>try(cases h;done)
  split at h<;>try(cases h;done)
  cases h;exact .same
 ·cases h
theorem Yu{k off len lo ep sz:Nat}{cap:Option Nat}{o:bH}{e6:List J}{y:J}{X af:ah}(aq:X.aV.get k=some o)(h:pq k off len cap lo ep sz o e6 X=some (y,af)):jq X af:=by
 unfold pq at h;generalize(Nat.ble _ _&&_)=b at h;cases b<;>simp only[cond_true,cond_false,Option.some.injEq,Prod.mk.injEq,reduceCtorEq] at h
 obtain⟨_,rfl⟩:=h;exact .set k o _ aq (Nat.lt_succ_self _)
theorem Yx{e sz b ep:Nat}{cells:List J}{y:J}{X af:ah}(h:nC e sz b ep cells X=some (y,af)):jq X af:=by
 unfold nC at h;generalize(Nat.ble _ _&&_)=b at h;cases b<;>simp only[cond_true,cond_false,Option.some.injEq,Prod.mk.injEq,reduceCtorEq] at h
 obtain⟨_,rfl⟩:=h;exact aeo
theorem aj2{k len ep sz b:Nat}{o:bH}{e6:List J}{y:J}{X af:ah}(h:rB k len ep sz b o e6 X=some (y,af)):jq X af:=by
 unfold rB at h;generalize(Nat.ble _ _&&(_&&_))=c at h;cases c<;>simp only[cond_true,cond_false,force_eq,Option.some.injEq,Prod.mk.injEq,reduceCtorEq] at h
 obtain⟨_,rfl⟩:=h;exact .name k _
theorem YB{e sz b k off len lo n:Nat}{cap:Option Nat}{news:List J}{y:J}{X af:ah}(h:lA e sz b k off len cap lo n news X=some (y,af)):jq X af:=by
 unfold lA at h;split at h<;>try(cases h;done)
 rename_i o aq;rw[force_eq] at h;split at h
 ·generalize Nat.ble _ _=bX at h;cases bX<;>simp only[cond_true,cond_false] at h
  ·split at h<;>try(cases h;done)
   exact Yx h
  ·exact Yu aq h
 ·generalize(Nat.beq _ _&&(_&&(_&&(_&&(_&&_)))))=bX at h;cases bX<;>simp only[cond_true,cond_false,reduceCtorEq] at h
  generalize Nat.ble _ _=b2 at h;cases b2<;>simp only[cond_true,cond_false] at h
  ·exact aj2 h
  ·exact Yu aq h
theorem akh{t:TypeId}{s x y:J}{X af:ah}(h:oU P t s x X=some (y,af)):jq X af:=by
 unfold oU at h;split at h<;>try(cases h;done)
 split at h<;>try(cases h;done)
 split at h<;>try(cases h;done)
 generalize(Nat.ble _ _&&(_&&(_&&_)))=c at h;cases c<;>simp only[cond_true,cond_false,reduceCtorEq] at h
 split at h
 ·rename_i a c;generalize(Nat.beq a 0&&_)=bX at h;cases bX<;>simp only[cond_true,cond_false,reduceCtorEq] at h
  rename_i n _ _ _ _;generalize Nat.beq _ 0=b2 at h;cases b2<;>simp only[cond_true,cond_false,Option.some.injEq,Prod.mk.injEq] at h
  ·exact Yx h
  ·obtain⟨_,rfl⟩:=h;exact .same
 ·exact YB h
 ·generalize Nat.beq _ 0=bX at h;cases bX<;>simp only[cond_true,cond_false,reduceCtorEq] at h
  cases h;exact .same
 ·cases h
theorem ake{t:TypeId}{s x y:J}{X af:ah}(h:pY P t s x X=some (y,af)):jq X af:=by
 unfold pY at h;split at h<;>try(cases h;done)
 split at h<;>try(cases h;done)
 split at h<;>try(cases h;done)
 generalize(Nat.beq _ _&&(_&&(_&&_)))=c at h;cases c<;>simp only[cond_true,cond_false,reduceCtorEq] at h
 split at h<;>try(cases h;done)
 exact YB h
theorem alL{t:TypeId}{s x y:J}{X af:ah}(h:q6 P t s x X=some (y,af)):jq X af:=by
 unfold q6 at h;split at h<;>try(cases h;done)
 split at h<;>try(cases h;done)
 split at h<;>try(cases h;done)
 generalize(Nat.beq _ _&&_)=c at h;cases c<;>simp only[cond_true,cond_false,reduceCtorEq] at h
 split at h
 ·generalize Nat.beq _ _=bX at h;cases bX<;>simp only[cond_true,cond_false,Option.some.injEq,Prod.mk.injEq,reduceCtorEq] at h
  obtain⟨_,rfl⟩:=h;exact .same
 ·split at h<;>try(cases h;done)
  rename_i o aq;rw[force_eq] at h;generalize(Nat.ble _ _&&_)=bX at h;cases bX<;>simp only[cond_true,cond_false,Option.some.injEq,Prod.mk.injEq,reduceCtorEq] at h
  obtain⟨_,rfl⟩:=h;exact .set _ o _ aq (Nat.lt_succ_self _)
 ·cases h
theorem Nb{b:Builtin}{c9:Array TypeId}{bA:List J}{y:J}{X af:ah}(h:iD P b c9 bA X=some (y,af)):jq X af:=by
 unfold iD at h;split at h
 ·split at h<;>try(cases h;done)
  obtain⟨_,rfl⟩:=gK h;exact .same
 ·split at h<;>try(cases h;done)
  obtain⟨_,rfl⟩:=gK h;exact .same
 ·obtain⟨_,rfl⟩:=gK h;exact .same
 ·obtain⟨_,rfl⟩:=gK h;exact .same
 ·split at h<;>try(cases h;done)
  split at h<;>try(cases h;done)
  generalize se _=bX at h;cases bX<;>simp only[cond_true,cond_false,reduceCtorEq] at h
  ·generalize vi _=b2 at h;cases b2<;>simp only[cond_true,cond_false,reduceCtorEq] at h
   exact ake h
  ·exact akh h
 ·split at h<;>try(cases h;done)
  exact alL h
 ·cases h
theorem agE{t:TypeId}{x y:J}{X af:ah}(h:zr P t x X=some (y,af)):jq X af:=by cases h
theorem aeE{k:Nat}{y:J}{X af:ah}(h:wS k X=some (y,af)):jq X af:=by cases h
theorem aie{t:TypeId}{m k v:J}{X af:ah}(h:wT P t m k v X=some af):jq X af:=by cases h
theorem ZM{t:TypeId}{m k z:J}{X af:ah}(h:zn P t m k X=some (z,af)):jq X af:=by cases h
theorem ZL{m b v:J}{X af:ah}(h:wR m b v X=some af):jq X af:=by cases h
theorem aBi{op:Op}{bA:List J}{X af:ah}{y:J}(h:dO P op bA X=some (y,af))(aC:cG af):cG X:=by
 unfold dO at h;split at h
 case h_3=>
  unfold tT at h;split at h
  ·rename_i ag;cases h;exact((rE ag).1 aC).1
  ·rename_i ag;cases h;exact((rE ag).1 aC).1
  ·cases h
 case h_4=>unfold pX newRow ah.new at h;split at h<;>(try simp only[force_eq] at h)<;>cases h;exact aC
 case h_5=>
  unfold pZ newRow ah.new at h;rename_i x;cases ar:x.flat<;>simp only[ar,cond_false,cond_true,force_eq] at h<;>cases h
  exact aC
 case h_7=>
  unfold oV newRow ah.new at h;split at h<;>try(cases h;done)
  split at h<;>try(cases h;done)
  rename_i s z _ _;generalize ae:(Nat.ble _ _&&Nat.ble 1 s&&_)=b at h;cases b<;>simp only[cond_true,cond_false,force_eq] at h
  ·cases h
  ·split at h<;>cases h;exact aC
 case h_9=>
  split at h<;>cases h
  rename_i X1 al;unfold n7 at al;split at al<;>try(cases al;done)
  rename_i o n _ _;generalize ae:(Nat.beq _ _&&_&&_&&_)=b at al;cases b<;>simp only[cond_true,cond_false] at al<;>cases al
  exact aC
 case h_16=>
  unfold p0 mQ ah.new at h;split at h<;>try(cases h;done)
  split at h<;>try(cases h;done)
  split at h<;>try(cases h;done)
  rename_i s z b _ _ _;generalize ae:(Nat.ble _ _&&_&&_&&_&&_)=b at h;cases b<;>simp only[cond_true,cond_false,force_eq] at h<;>cases h
  exact aC
 all_goals first
  |(cases h;exact aC)
  |(obtain⟨_,rfl⟩:=gK h;exact aC)
  |(cases h;done)
  |(unfold cG;rw[<- (agE h).pc];exact aC)
  |(unfold cG;rw[<- (aeE h).pc];exact aC)
  |(split at h<;>cases h;rename_i hu;unfold cG;rw[<- (aie hu).pc];exact aC)
  |(unfold cG;rw[<- (ZM h).pc];exact aC)
  |(split at h<;>cases h;rename_i hu;unfold cG;rw[<- (ZL hu).pc];exact aC)
  |(split at h
    ·cases h;exact aC
    ·unfold cG;rw[<- (Zh h).pc];exact aC)
theorem aBQ(aB:bP P B aY X E w){t:TypeId}{k off id c:Nat}{y:J}{v:Value}{af:ah}(ai:E k=some (id,c))(eI:Den E y v)(al:n7 P t X k off y=some af):
 ∃w',(storeVar t ⟨id,off,none⟩ v).run P w= .ok () w'/\bP P B aY af E w':=by
 unfold n7 at al;split at al<;>try(cases al;done)
 rename_i o n aq aO;cases h1:Nat.beq y.cells.length n with
 |false=>simp[h1] at al
 |true=>
 cases h2:Nat.ble (off+n) o.n with
 |false=>simp[h1,h2] at al
 |true=>
 cases aW:o.ro with
 |true=>simp[h1,h2,aW] at al
 |false=>
 cases bz:dZ y.cells with
 |false=>simp[h1,h2,aW,bz] at al
 |true=>
 simp only[h1,h2,aW,bz,Bool.and_self,Bool.not_false,cond_true,Option.some.injEq] at al;subst al;have jY:=Nat.eq_of_beq_eq_true h1;have kq:=Nat.le_of_ble_eq_true h2;have fE:=Hd eI (am0 bz);obtain⟨w',aI,eu⟩:=aB.stored (off:=off) aq ai aW fE bz (by omega) P;have hlen:=fE.length;simp only[Array.length_toList] at hlen;exact⟨w',by simp[storeVar,jj aO,hlen,jY,aI],by simpa[aW] using eu⟩
theorem WH(aB:bP P B aY X E w){o:Oper}{lq:Operand->Value}{bA:List J}{y:J}{af:ah}(hv:cg E bA (o.op.operands.toList.map lq))(aC:cG af)
 (h:dO P o.op bA X=some (y,af)):Ge P B aY E w (execOp lq o) y af:=by
 obtain⟨dst,op,type,pos,after,guard⟩:=o;simp only at hv h;unfold dO at h;split at h
 ·
  obtain⟨u,e,hu⟩:=lG hv;cases h;simp[Op.operands] at e;subst e;exact⟨E,_,w,cM.refl _,.inl rfl,hu,aB⟩
 ·
  obtain⟨u,e,hu⟩:=lG hv;cases h;simp[Op.operands] at e;subst e;exact⟨E,_,w,cM.refl _,.inl rfl,hu,aB⟩
 ·
  obtain⟨u,v,x,e,hu,eI,ar⟩:=Hc hv;simp[Op.operands] at e;obtain⟨rfl,rfl,rfl⟩:=e;unfold tT at h;split at h
  ·rename_i ag;cases h;obtain⟨h1,h2,h3,aW⟩:=rE ag;exact⟨E,_,w,cM.refl _,.inl (by simp[execOp,(h1 aC).2 _ _ hu,asBool]),eI,aB.same h2 h3 aW⟩
  ·rename_i ag;cases h;obtain⟨h1,h2,h3,aW⟩:=rE ag;exact⟨E,_,w,cM.refl _,.inl (by simp[execOp,(h1 aC).2 _ _ hu,asBool]),ar,aB.same h2 h3 aW⟩
  ·cases h
 ·
  exact(ajQ aB h).op
 ·
  obtain⟨u,e,hu⟩:=lG hv;simp[Op.operands] at e;subst e;exact(akK aB hu h).op
 ·
  obtain⟨h',eK⟩:=gK h;subst eK;simp only[Op.operands,List.map_map] at hv;exact(akM aB hv h').op
 ·
  simp only[Op.operands,List.map_map] at hv;exact(akL aB hv h).op
 ·
  obtain⟨h',eK⟩:=gK h;subst eK;obtain⟨u,e,id,c,ai,hu⟩:=lG hv;simp[Op.operands] at e;subst e;obtain⟨v,aI,aH⟩:=aee aB h' ai;exact⟨E,v,w,cM.refl _,.inl (by simp[execOp,Instr.loadAt,hu,Instr.sureAddr,aI]),aH,aB⟩
 ·
  split at h<;>try(cases h;done)
  rename_i X1 al;cases h;obtain⟨u,v,e,⟨id,c,ai,hu⟩,eI⟩:=sW hv;simp[Op.operands] at e;obtain⟨rfl,rfl⟩:=e;obtain⟨w',aI,eu⟩:=aBQ aB ai eI al;exact⟨E,undef,w',cM.refl _,.inr ⟨by simp[execOp,Instr.storeAt,hu,Instr.sureAddr,aI],rfl⟩,rfl,eu⟩
 ·
  obtain⟨h',eK⟩:=gK h;subst eK;obtain⟨u,e,hu⟩:=lG hv;simp[Op.operands] at e;obtain⟨rfl,h1⟩:=aq1 hu h';refine⟨E,u,w,cM.refl _,.inl ?_,hu,aB⟩;rcases h1 with⟨a,rfl⟩|⟨f,a,b,rfl⟩<;>simp[execOp,e]
 ·
  obtain⟨h',eK⟩:=gK h;subst eK;obtain⟨u,v,e,hu,eI⟩:=sW hv;simp[Op.operands] at e;obtain⟨rfl,rfl⟩:=e;exact(akD hu eI h').op aB
 ·
  obtain⟨h',eK⟩:=gK h;subst eK;obtain⟨u,e,hu⟩:=lG hv;simp[Op.operands] at e;subst e;exact(aDb hu h').op aB
 ·
  obtain⟨u,e,hu⟩:=lG hv;simp[Op.operands] at e;subst e;split at h
  ·rename_i z h';cases h;exact(alH hu h').op aB
  ·exact(alF aB hu h).op
 ·
  obtain⟨h',eK⟩:=gK h;subst eK;obtain⟨u,e,hu⟩:=lG hv;simp[Op.operands] at e;subst e;exact(apB hu h').op aB
 ·
  cases h;rename_i fn a b;simp only[Op.operands,Array.toList_append,List.map_append] at hv;have h1:=cg.take a.size hv;have h2:=cg.drop a.size hv;rw[List.take_left' (by simp)] at h1;rw[List.drop_left' (by simp)] at h2;exact⟨E,.func fn (a.map lq) (b.map lq),w,cM.refl _,.inl (by simp[execOp,Instr.makeFunc]),⟨_,_,h1,h2,by rw[<- Array.toList_map, <- Array.toList_map]⟩,aB⟩
 ·
  obtain⟨u,v,e,hu,eI⟩:=sW hv;simp[Op.operands] at e;obtain⟨rfl,rfl⟩:=e;exact(aqz aB hu eI h).op
 ·
  obtain⟨h',eK⟩:=gK h;subst eK;obtain⟨u,e,id,c,ai,hu⟩:=lG hv;simp[Op.operands] at e
  have:=(amN (w:=w) ai h').op aB
  rw[<- hu, <- e] at this;exact this
 ·
  obtain⟨h',eK⟩:=gK h;subst eK;obtain⟨u,e,vs,r1,hu⟩:=lG hv;simp[Op.operands] at e
  have:=(amP (w:=w) r1 h').op aB
  rw[<- hu, <- e] at this;exact this
 ·
  obtain⟨h',eK⟩:=gK h;subst eK;obtain⟨u,v,e,hu,eI⟩:=sW hv;simp[Op.operands] at e;obtain⟨rfl,rfl⟩:=e;exact(apF hu eI h').op aB
 ·
  obtain⟨h',eK⟩:=gK h;subst eK;obtain⟨u,v,e,hu,eI⟩:=sW hv;simp[Op.operands] at e;obtain⟨rfl,rfl⟩:=e;exact(apG hu eI h').op aB
 ·
  obtain⟨h',eK⟩:=gK h;subst eK;obtain⟨u,e,vs,r1,hu⟩:=lG hv;simp[Op.operands] at e;obtain⟨v,h1,h2⟩:=r1.get _ _ h';exact⟨E,v,w,cM.refl _,.inl (by simp[execOp,Instr.extract,e,hu,h1]),h2,aB⟩
 ·
  obtain⟨u,e,hu⟩:=lG hv;simp[Op.operands] at e;subst e;exact(azO aB hu h).op
 ·
  obtain⟨u,e,hu⟩:=lG hv;simp[Op.operands] at e;subst e;obtain⟨id,c,ai,gU⟩:=hu
  have:=(aqZ (P:=P) (ty:=type) aB ai h).op
  rw[<- gU] at this;exact this
 ·
  obtain⟨h',eK⟩:=gK h;subst eK;obtain⟨u,e,hu⟩:=lG hv;simp[Op.operands] at e;subst e;exact(aki hu h').op aB
 ·
  cases h;exact(aqS aB).op
 ·
  obtain⟨h',eK⟩:=gK h;subst eK;obtain⟨u,v,e,hu,eI⟩:=sW hv;simp[Op.operands] at e;obtain⟨rfl,rfl⟩:=e;exact(aqq aB hu eI h').op aB
 ·
  split at h<;>try(cases h;done)
  rename_i X1 al;cases h;obtain⟨u,v,x,e,hu,eI,ar⟩:=Hc hv;simp[Op.operands] at e;obtain⟨rfl,rfl,rfl⟩:=e;obtain⟨w',aI,eu⟩:=aDf aB hu eI ar al;exact⟨E,undef,w',cM.refl _,.inr ⟨by simp[execOp,aI],rfl⟩,rfl,eu⟩
 ·
  obtain⟨u,v,e,hu,eI⟩:=sW hv;simp[Op.operands] at e;obtain⟨rfl,rfl⟩:=e;exact(amu aB hu eI h).op
 ·
  split at h<;>try(cases h;done)
  rename_i t _ _ _ _ _ _ _ X1 al;cases h;obtain⟨u,v,x,e,hu,eI,ar⟩:=Hc hv;simp[Op.operands] at e;obtain⟨rfl,rfl,rfl⟩:=e;obtain⟨w',aI,eu⟩:=ams (t:=t) aB hu eI ar al;exact⟨E,undef,w',cM.refl _,.inr ⟨by simp[execOp,aI],rfl⟩,rfl,eu⟩
 ·
  obtain⟨h',eK⟩:=gK h;subst eK;obtain⟨u,e,hu⟩:=lG hv;simp[Op.operands] at e;subst e;exact(akk hu h').op aB
 ·
  obtain⟨h',eK⟩:=gK h;subst eK;obtain⟨u,e,hu⟩:=lG hv;simp[Op.operands] at e;subst e;exact(K6 (lv:=none) (hv:=none) hu (λy h=>by cases h) (λ_=>rfl) (λy h=>by cases h) (λ_=>rfl) h').op aB
 ·obtain⟨h',eK⟩:=gK h;subst eK;obtain⟨u,v,e,hu,eI⟩:=sW hv;simp[Op.operands] at e;obtain⟨rfl,rfl⟩:=e;exact(K6 (lv:=some _) (hv:=none) hu (λy h=>by cases h;exact⟨_,rfl,eI⟩) (λh=>by cases h) (λy h=>by cases h) (λ_=>rfl) h').op aB
 ·obtain⟨h',eK⟩:=gK h;subst eK;obtain⟨u,v,e,hu,eI⟩:=sW hv;simp[Op.operands] at e;obtain⟨rfl,rfl⟩:=e;exact(K6 (lv:=none) (hv:=some _) hu (λy h=>by cases h) (λ_=>rfl) (λy h=>by cases h;exact⟨_,rfl,eI⟩) (λh=>by cases h) h').op aB
 ·obtain⟨h',eK⟩:=gK h;subst eK;obtain⟨u,v,x,e,hu,eI,ar⟩:=Hc hv;simp[Op.operands] at e;obtain⟨rfl,rfl,rfl⟩:=e;exact(K6 (lv:=some _) (hv:=some _) hu (λy h=>by cases h;exact⟨_,rfl,eI⟩) (λh=>by cases h) (λy h=>by cases h;exact⟨_,rfl,ar⟩) (λh=>by cases h) h').op aB
 ·cases h
end
end Go.Xe
