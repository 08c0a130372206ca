import Derived.Orders
import Derived.Tactics
import Derived.Below
import Derived.Laws.Sem
import Derived.Laws.World
import Derived.Laws.Entries
import Derived.Laws.Cells
import Derived.Laws.Small
import Derived.Laws.Tables
import Derived.Laws.MakeOwn
import Derived.Laws.AppendOwn
import Derived.Laws.Slices
import Derived.Laws.Pointers
import Derived.Laws.Build
import Derived.Laws.Bits
import Derived.OrdersIn
import Derived.LoopNIn
import Derived.RangeFuncIn
import Derived.TacticsIn
import Derived.DefersIn
import Derived.RowKit3
import Derived.Laws.StructEq
import Derived.ChangeKeysEq
import Derived.Laws.BytesString
import Derived.Lib.ConvBytes
import Derived.Lib.BytesEntry
import Derived.Laws.Externs
set_option linter.unusedSimpArgs false
set_option linter.unusedVariables false
namespace Go.Xe
inductive aH (α:Type) where
 |nil
 |node (v:Option α) (l r:aH α)
def aH.get{α:Type}:aH α->Nat->Option α
 | .nil,_=>none
 | .node v l r,i=>bif Nat.beq i 0 then v else bif Nat.beq (i%2) 1 then l.get (i/2) else r.get (i/2-1)
def aH.set{α:Type}:Nat->aH α->Nat->α->aH α
 |0,_,_,_=> .nil
 |f+1,.nil,i,x=>bif Nat.beq i 0 then .node (some x) .nil .nil else bif Nat.beq (i%2) 1 then .node none (aH.set f .nil (i/2) x) .nil else .node none .nil (aH.set f .nil (i/2-1) x)
 |f+1,.node v l r,i,x=>bif Nat.beq i 0 then .node (some x) l r else bif Nat.beq (i%2) 1 then .node v (aH.set f l (i/2) x) r else .node v l (aH.set f r (i/2-1) x)
def aH.put{α:Type}(t:aH α)(i:Nat)(x:α):aH α:=t.set (i+1) i x
inductive U where
 |val (x:Value)
 |int (k:IntKind) (n:Int)
 |bool (b:Bool)
 |str (s:ByteArray)
 |ptr (jO off:Nat)
 |aF (jO off len:Nat) (cap:Option Nat) (lo:Nat)
 |fn (fn:Fn) (first captured:List U)
 |p4 (t:TypeId) (x:U)
 |agg (cells:List U)
 |bm (vs:List U)
 |fV (k:Nat)
 |mp (k:Nat)
 |la (k:Nat)
inductive Hint where
 |text
 |skip
 |ord (is:List Nat) (bS:List (Nat×List Nat))
 |news (is rs:List Nat) (bS:List (Nat×List Nat))
inductive Jump where
 |none
 |ret
 |ex (id:Nat)
inductive pK where
 |cells
 |iter (s:ByteArray) (pos:Nat)
 |map (es:List (U×U×Nat)) (clock:Nat)
 |loop (st:LoopState) (iC:Jump) (ord:Nat->Hint) (me:FuncId) (N:Nat) (F:aH U) (ps:Array Tmp) (assign body:Code) (jO:Nat)
 |jO (taken:Bool)
structure bH where
 cq:Nat
 ty:TypeId
 n:Nat
 loose:Bool
 esz:Nat
 ro:Bool
 mZ:Nat->Option U
 fL:aH U
 sp:pK
inductive eR where
 |call (f:FuncId) (xs ys:List U)
 |tp (k:Nat)
structure cE where
 jD:aH (Option bH)
 base:Nat->Option bH
def cE.get(H:cE)(k:Nat):Option bH:=match H.jD.get k with|some r=>r|none=>H.base k
def cE.put(H:cE)(k:Nat)(o:bH):cE:={H with jD:=H.jD.put k (some o)}
def cE.del(H:cE)(k:Nat):cE:={H with jD:=H.jD.put k none}
structure al where
 aO:Nat
 next:Nat
 aV:cE
 cN:List Bool
 pc:List Prop
 bx:List eR
def depth:Nat:=24
def bH.get(o:bH)(i:Nat):Option U:=
 bif Nat.blt i o.n then(match o.fL.get i with|some y=>some y|none=>o.mZ i) else none
def force{α:Type}(n:Nat)(k:Nat->α):α:=Nat.rec (motive:=λ_=>α) (k 0) (λm _=>k (m+1)) n
def j8{α:Type}(n:Int)(k:Int->α):α:=match n with
 | .ofNat m=>force m λm=>k (.ofNat m)
 | .negSucc m=>force m λm=>k (.negSucc m)
def J0:Value->U
 | .int k n=> .int k n
 | .bool b=> .bool b
 | .string s=> .str s
 |x=> .val x
def c1:Value->U
 | .int k n=> .int k n
 | .bool b=> .bool b
 | .string s=> .str s
 | .agg cs=> .agg (cs.toList.map J0)
 |x=> .val x
def look(aO:Nat)(F:aH U):Operand->Option U
 | .tmp t=>F.get t
 | .const v=>some (c1 v)
 | .global g=>bif Nat.blt g aO then some (.ptr g 0) else none
 | .func f=>some (.fn (.func f) [] [])
def looks(aO:Nat)(F:aH U):List Operand->Option (List U)
 | []=>some []
 |x::xs=>match look aO F x with
  |some y=>match looks aO F xs with|some ys=>some (y::ys)|none=>none
  |none=>none
def U.cells:U->List U
 | .agg cs=>cs
 |x=>[x]
def U.one:U->Bool
 | .agg _| .bm _=>false
 | .val (.agg _)| .val (.tuple _)=>false
 | .val (.int _ _)| .val (.bool _)| .val (.string _)| .val (.pointer _)| .val (.slice _ _ _)| .val (.map _)| .val .nilIface| .val .nilFunc| .val (.iface _ _)=>true
 | .val _=>false
 |_=>true
def U.flat:U->Bool
 | .val (.agg _)=>false
 |_=>true
def dB:List U->Bool
 | []=>true
 |y::ys=>y.one&&dB ys
def kG(o:bH)(off:Nat):Nat->Option (List U)
 |0=>some []
 |n+1=>match o.get off with
  |some y=>match kG o (off+1) n with|some ys=>some (y::ys)|none=>none
  |none=>none
def hl(t:aH U)(off:Nat):List U->aH U
 | []=>t
 |y::ys=>force off λoff=>hl (t.put off y) (off+1) ys
def qo(l:List U):aH U:=hl .nil 0 l
section
variable(P:Program)
def eg(t:TypeId):Option Nat:=match P.info? t with|some i=>some i.size|none=>none
def oG(t:TypeId):Option Nat:=match P.info? t with|some i=>some i.bytes|none=>none
def gC(t:TypeId):Option Value:=match P.info? t with|some i=>i.zero|none=>none
def rG(t:TypeId):Option Bool:=match P.underlying t with|some (.struct _)=>some true|some (.array _ _)=>some true|some _=>some false|none=>none
end
def al.ask(X:al)(s:Bool):Option (Bool×al):=match X.cN with
 |o::os=>some (o,{X with cN:=os,pc:=(s=o)::X.pc})
 | []=>none
def hs(X:al):U->Option (Bool×al)
 | .bool b=>some (b,X)
 | .val (.bool s)=>X.ask s
 |_=>none
def ua:U->Bool
 | .val (.tuple _)=>true
 |_=>false
def mW(X:al)(want:Bool)(y:U):Option (Bool×al):=bif ua y then some (false,X) else match hs X y with
 |some (b,X)=>some (b==want,X)
 |none=>none
def al.new(X:al)(o:bH):Nat×al:=(X.next,{X with next:=X.next+1,aV:=X.aV.put X.next o})
def newRow(X:al)(ty:TypeId)(cells:List U):Nat×al:=
 force cells.length λn=>X.new {cq:=0,ty,n,loose:=false,esz:=1,ro:=false,mZ:=λ_=>none,fL:=qo cells,sp:= .cells}
def nh(X:al)(ty:TypeId)(n:Nat)(zero:List U):Nat×al:=
 force n λn=>X.new {cq:=0,ty,n,loose:=false,esz:=1,ro:=false,mZ:=λi=>(qo zero).get (i%zero.length),fL:= .nil,sp:= .cells}
def F5(cells:List U)(off:Nat)(new:List U):List U:=cells.take off++new++cells.drop (off+new.length)
def oX(place:Nat->Option (Nat×Nat)):List U->List (Nat×U)->Option (List U)
 |cells,[]=>some cells
 |cells,(i,v)::rest=>match place i with
  |none=>none
  |some (off,size)=>bif v.flat&&Nat.beq v.cells.length size&&Nat.ble (off+size) cells.length then oX place (F5 cells off v.cells) rest else none
def kl:U->Option Nat
 | .int _ (.ofNat n)=>some n
 |_=>none
def rB(zero:List U):Nat->List U
 |0=>[]
 |n+1=>zero++rB zero n
def arith(op:BinOp)(k:IntKind)(x y:Int):Option U:=
 match op with
 | .add=>some (j8 (k.wrap (x+y)) λr=> .int k r)
 | .sub=>some (j8 (k.wrap (x-y)) λr=> .int k r)
 | .mul=>some (j8 (k.wrap (x*y)) λr=> .int k r)
 | .quo=>bif y==0 then none else some (j8 (k.wrap (x.tdiv y)) λr=> .int k r)
 | .rem=>bif y==0 then none else some (j8 (x.tmod y) λr=> .int k r)
 | .and=>some (j8 (k.wrap ((BitVec.ofInt k.bits x&&& BitVec.ofInt k.bits y).toNat:Int)) λr=> .int k r)
 | .or=>some (j8 (k.wrap ((BitVec.ofInt k.bits x|||BitVec.ofInt k.bits y).toNat:Int)) λr=> .int k r)
 | .xor=>some (j8 (k.wrap ((BitVec.ofInt k.bits x ^^^ BitVec.ofInt k.bits y).toNat:Int)) λr=> .int k r)
 | .andNot=>some (j8 (k.wrap ((BitVec.ofInt k.bits x&&& ~~~BitVec.ofInt k.bits y).toNat:Int)) λr=> .int k r)
 | .eql=>some (.bool (x==y))
 | .neq=>some (.bool (x != y))
 | .lss=>some (.bool (decide (x<y)))
 | .leq=>some (.bool (decide (x<=y)))
 | .gtr=>some (.bool (decide (x>y)))
 | .geq=>some (.bool (decide (x>=y)))
 |_=>none
def CV(op:BinOp)(k:IntKind)(x y:Int):Option U:=
 match op with
 | .add=>some (.val (.int k (k.wrap (x+y))))
 | .sub=>some (.val (.int k (k.wrap (x-y))))
 | .mul=>some (.val (.int k (k.wrap (x*y))))
 | .eql=>some (.val (.bool (x==y)))
 | .neq=>some (.val (.bool (x != y)))
 | .lss=>some (.val (.bool (decide (x<y))))
 | .leq=>some (.val (.bool (decide (x<=y))))
 | .gtr=>some (.val (.bool (decide (x>y))))
 | .geq=>some (.val (.bool (decide (x>=y))))
 |_=>none
def xy(op:BinOp)(k:IntKind)(x:Int)(y:Int):Option U:=
 bif decide (y<0) then none else
  match op with
  | .shl=>some (j8 (k.wrap (x*2 ^ (min y.toNat k.bits))) λr=> .int k r)
  | .shr=>some (j8 (x.fdiv (2 ^ (min y.toNat k.bits))) λr=> .int k r)
  |_=>none
def XY(op:BinOp)(x y:ByteArray):Option U:=
 match op with
 | .add=>bif decide (((x.size+y.size:Nat):Int)>IntKind.i64.max) then none else some (.str (x++y))
 | .eql=>some (.bool (x.toList==y.toList))
 | .neq=>some (.bool (!(x.toList==y.toList)))
 |_=>none
def F9(op:BinOp)(x y:ByteArray):Option U:=
 match op with
 | .eql=>some (.val (.bool (x.toList==y.toList)))
 | .neq=>some (.val (.bool (!(x.toList==y.toList))))
 |_=>none
def wA(P:Program)(t:TypeId)(x y:U):Option Bool:=match P.underlying t,x,y with
 |some .bool,.bool a,.bool b=>some (a==b)
 |some (.pointer _),.val (.pointer none),.val (.pointer none)=>some true
 |some (.pointer _),.val (.pointer none),.ptr _ _=>some false
 |some (.pointer _),.ptr _ _,.val (.pointer none)=>some false
 |some (.slice _),.val (.slice none _ _),.val (.slice none _ _)=>some true
 |some (.slice _),.aF _ _ _ _ _,.val (.slice none _ _)=>some false
 |some (.slice _),.val (.slice none _ _),.aF _ _ _ _ _=>some false
 |some (.slice _),.la _,.val (.slice none _ _)=>some false
 |some (.slice _),.val (.slice none _ _),.la _=>some false
 |some (.func _ _ _),.val .nilFunc,.val .nilFunc=>some true
 |some (.func _ _ _),.fn _ _ _,.val .nilFunc=>some false
 |some (.func _ _ _),.val .nilFunc,.fn _ _ _=>some false
 |some (.map _ _),.val (.map none),.val (.map none)=>some true
 |some (.map _ _),.mp _,.val (.map none)=>some false
 |some (.map _ _),.val (.map none),.mp _=>some false
 |some (.interface _),.val .nilIface,.p4 _ _=>some false
 |some (.interface _),.p4 _ _,.val .nilIface=>some false
 |_,_,_=>none
def qb(P:Program)(t:TypeId)(cs:List U)(off:Nat):Option U:=
 match rG P t,eg P t with
 |some true,some n=>bif Nat.ble (off+n) cs.length then some (.agg ((cs.drop off).take n)) else none
 |some false,some _=>cs[off]?
 |_,_=>none
def AU(P:Program)(r:TypeId->U->U->Option Bool)(xs ys:List U):List Field->Option Bool
 | []=>some true
 |f::gb=>bif f.name=="_" then AU P r xs ys gb else(match qb P f.type xs f.offset,qb P f.type ys f.offset with
  |some a,some b=>(match r f.type a b,AU P r xs ys gb with
   |some p,some q=>some (p&&q)
   |_,_=>none)
  |_,_=>none)
def wB(P:Program)(r:TypeId->U->U->Option Bool)(e sz:Nat)(xs ys:List U):List Nat->Option Bool
 | []=>some true
 |i::is=>(match qb P e xs (i*sz),qb P e ys (i*sz) with
  |some a,some b=>(match r e a b,wB P r e sz xs ys is with
   |some p,some q=>some (p&&q)
   |_,_=>none)
  |_,_=>none)
def pU(P:Program):Nat->TypeId->U->U->Option Bool
 |0,_,_,_=>none
 |d+1,t,x,y=>match P.underlying t,x,y with
  |some (.int _),.int k a,.int b6 b=>bif k==b6 then some (a==b) else none
  |some .string,.str a,.str b=>some (a.toList==b.toList)
  |some (.struct gb),.agg xs,.agg ys=>bif P.stoodInHeld t then none else AU P (pU P d) xs ys gb.toList
  |some (.array n e),.agg xs,.agg ys=>(match eg P e with|some sz=>wB P (pU P d) e sz xs ys (List.range n)|none=>none)
  |_,_,_=>wA P t x y
def wD(P:Program)(t:TypeId)(x y:U):Option Bool:=match x,y with
 | .agg xs,.agg ys=>bif P.eqGuardType P.depth t then none else pU P 16 t (.agg xs) (.agg ys)
 | .val .nilIface,.val .nilIface=>(match P.underlying t with
   |some (.interface ms)=>bif ms.isEmpty then some true else none
   |_=>none)
 |x,y=>wA P t x y
def wC(P:Program)(op:BinOp)(t:TypeId)(x y:U):Option U:=
 match op with
 | .eql=>match wD P t x y with|some b=>some (.bool b)|none=>none
 | .neq=>match wD P t x y with|some b=>some (.bool (!b))|none=>none
 |_=>none
def Bv(op:BinOp)(k:IntKind)(a:Int)(b6:IntKind)(b:Int):Option U:=
 match op with
 | .shl=>xy .shl k a b
 | .shr=>xy .shr k a b
 |op=>bif k==b6 then arith op k a b else none
def AI(P:Program)(op:BinOp)(t:TypeId)(x y:U):Option U:=
 match x,y with
 | .int k a,.int b6 b=>Bv op k a b6 b
 | .int k a,.val (.int b6 b)=>bif k==b6 then CV op k a b else none
 | .val (.int k a),.int b6 b=>bif k==b6 then CV op k a b else none
 | .val (.int k a),.val (.int b6 b)=>bif k==b6 then CV op k a b else none
 | .str a,.str b=>XY op a b
 | .str a,.val (.string b)=>F9 op a b
 | .val (.string a),.str b=>F9 op a b
 | .val (.string a),.val (.string b)=>F9 op a b
 |x,y=>wC P op t x y
def ib(op:UnOp)(x:U):Option U:=
 match op,x with
 | .neg,.int k n=>arith .sub k 0 n
 | .xor,.int k n=>arith .xor k (if k.signed then -1 else k.max) n
 | .not,.bool b=>some (.bool (!b))
 | .not,.val (.bool b)=>some (.val (.bool (!b)))
 |_,_=>none
def AZ(P:Program)(s:TypeId)(f:Nat):Option Field:=match P.underlying s with
 |some (.struct gb)=>gb[f]?
 |_=>none
def sliceB(len cap:Nat)(lo hi:Option U):Option (Nat×Nat):=
 match (match hi with|none=>some len|some y=>kl y),(match lo with|none=>some 0|some y=>kl y) with
 |some h,some l=>bif Nat.ble h cap&&Nat.ble l h then some (l,h) else none
 |_,_=>none
def uB(X:al)(c a b:U):Option (U×al):=match hs X c with
 |some (true,X)=>some (a,X)
 |some (false,X)=>some (b,X)
 |none=>none
def qg(P:Program)(e:TypeId)(X:al):Option (U×al):=match gC P e with
 |some z=>some (.ptr (newRow X e (c1 z).cells).1 0,(newRow X e (c1 z).cells).2)
 |none=>none
def qi(e:TypeId)(x:U)(X:al):Option (U×al):=bif x.flat then some (.ptr (newRow X e x.cells).1 0,(newRow X e x.cells).2) else none
def asQ(P:Program)(gb:List Field):Option (List (Nat×Nat)):=gb.mapM λf=>(P.info? f.type).map λi=>(f.offset,i.size)
def gM(P:Program)(t:TypeId)(hy:List Nat)(vs:List U):Option U:=match gC P t with
 |none=>none
 |some z=>match P.underlying t with
  |some (.struct gb)=>match asQ P gb.toList with
   |some pl=>match oX (λi=>pl[i]?) (c1 z).cells (hy.zip vs) with
    |some cs=>some (.agg cs)
    |none=>none
   |none=>none
  |some (.array _ e)=>match eg P e with
   |some s=>match oX (λi=>some (i*s,s)) (c1 z).cells (hy.zip vs) with
    |some cs=>some (.agg cs)
    |none=>none
   |none=>none
  |_=>none
def oD(P:Program)(t:TypeId)(len:Nat)(hy:List Nat)(vs:List U)(X:al):Option (U×al):=match P.underlying t with
 |some (.slice e)=>match eg P e,gC P e with
  |some s,some z=>bif Nat.ble (len*s) 65536&&Nat.ble 1 s&&Nat.beq (c1 z).cells.length s then match oX (λi=>some (i*s,s)) (rB (c1 z).cells len) (hy.zip vs) with
    |some cs=>some (.aF (newRow X e cs).1 0 len (some len) 0,(newRow X e cs).2)
    |none=>none
   else none
  |_,_=>none
 |_=>none
def rD(P:Program)(t:TypeId)(X:al)(k off:Nat):Option U:=match X.aV.get k,rG P t,eg P t with
 |some o,some true,some n=>match kG o off n with|some ys=>some (.agg ys)|none=>none
 |some o,some false,some _=>o.get off
 |_,_,_=>none
def sL(P:Program)(t:TypeId)(X:al)(k off:Nat)(y:U):Option al:=match X.aV.get k,eg P t with
 |some o,some n=>bif Nat.beq y.cells.length n&&Nat.ble (off+n) o.n&&!o.ro&&dB y.cells
  then some {X with aV:=X.aV.put k {o with cq:=o.cq+1,fL:=hl o.fL off y.cells}} else none
 |_,_=>none
def ev:U->Option U
 | .ptr k off=>some (.ptr k off)
 | .fn (.func f) a b=>some (.fn (.func f) a b)
 |_=>none
def oE(P:Program)(s d:TypeId)(x:U):Option U:=match P.underlying s with
 |none=>none
 |some _=>match P.underlying d,x with
  |some (.int k),.int _ n=>some (j8 (k.wrap n) λr=> .int k r)
  |some (.int k),.val (.int _ n)=>some (.val (.int k (k.wrap n)))
  |some .string,.str s=>some (.str s)
  |some .string,.val (.string s)=>some (.val (.string s))
  |_,_=>none
def F1(P:Program)(t:TypeId)(x:U):Option U:=match P.underlying t with
 |some (.interface _)=>none
 |some _=>some (.p4 t x)
 |none=>none
def qj(P:Program)(t:TypeId)(l c:U)(X:al):Option (U×al):=match P.underlying t with
 |some (.slice e)=>match kl l,kl c with
  |some l,some c=>match eg P e,gC P e,oG P e with
   |some s,some z,some b=>bif Nat.ble l c&&Nat.ble (c*b) 140737488355328&&Nat.ble c 140737488355328&&Nat.beq (c1 z).cells.length s&&Nat.ble 1 s then
     some (.aF (nh X e (c*s) (c1 z).cells).1 0 l (some c) 0,(nh X e (c*s) (c1 z).cells).2)
    else none
   |_,_,_=>none
  |_,_=>none
 |_=>none
def F0(P:Program)(s:TypeId)(f k off:Nat):Option U:=match AZ P s f with
 |some fd=>match eg P fd.type with
  |some (_+1)=>some (force (off+fd.offset) λo=> .ptr k o)
  |_=>none
 |none=>none
def z0(P:Program)(s:TypeId)(f:Nat)(cs:List U):Option U:=match AZ P s f with
 |some fd=>qb P fd.type cs fd.offset
 |none=>none
def z2(P:Program)(t:TypeId)(x hy:U):Option U:=match kl hy with
 |none=>none
 |some i=>match P.underlying t,x with
  |some (.array n e),.ptr k off=>match eg P e with
   |some s=>bif Nat.blt i n then some (force (off+i*s) λo=> .ptr k o) else none
   |none=>none
  |some (.slice e),.aF k off len _ _=>match eg P e with
   |some s=>bif Nat.blt i len then some (force (off+i*s) λo=> .ptr k o) else none
   |none=>none
  |_,_=>none
def z1(P:Program)(t:TypeId)(x hy:U):Option U:=match kl hy with
 |none=>none
 |some i=>match P.underlying t,x with
  |some (.array n e),.agg cs=>match eg P e with
   |some s=>bif Nat.blt i n then qb P e cs (i*s) else none
   |none=>none
  |some .string,.str s=>match s[i]? with
   |some b=>some (.int .u8 b.toNat)
   |none=>none
  |_,_=>none
def qm(k off len:Nat)(cap:Option Nat)(lo s l h:Nat):Option U:=match cap with
 |some cap=>force (h-l) λn=>force (cap-l) λm=>bif Nat.beq m 0 then some (.aF k off n (some m) 0) else force (off+l*s) λo=>some (.aF k o n (some m) 0)
 |none=>bif Nat.ble h len then(bif Nat.blt l len then force (h-l) λn=>force (lo+l) λlo=>force (off+l*s) λo=>some (.aF k o n none lo) else(bif Nat.beq l 0 then force h λn=>some (.aF k off n none lo) else some (.la k))) else none
def gl(P:Program)(t:TypeId)(x:U)(lo hi:Option U):Option U:=match P.underlying t,x with
 |some (.slice e),.aF k off len cap iz=>match eg P e,sliceB len (match cap with|some c=>c|none=>len) lo hi with
  |some s,some (l,h)=>qm k off len cap iz s l h
  |_,_=>none
 |some (.slice e),.la k=>match eg P e,sliceB 0 0 lo hi with
  |some _,some _=>some (.la k)
  |_,_=>none
 |some (.slice e),.val (.slice none a c)=>match eg P e,(bif Nat.beq a 0&&Nat.beq c 0 then sliceB 0 0 lo hi else none) with
  |some _,some _=>some (.val (.slice none 0 0))
  |_,_=>none
 |some (.array n e),.ptr k off=>match eg P e,sliceB n n lo hi with
  |some s,some (l,h)=>qm k off n (some n) 0 s l h
  |_,_=>none
 |some .string,.str s=>match sliceB s.size s.size lo hi with
  |some (l,h)=>some (.str (s.extract l h))
  |none=>none
 |_,_=>none
def xB(s:ByteArray):List U:=s.data.toList.map λb=>j8 b.toNat λr=> .int .u8 r
def bytesOf:List U->Option (List Int)
 | []=>some []
 | .int .u8 n::ys=>match bytesOf ys with|some lJ=>some (n::lJ)|none=>none
 |_=>none
def ng(X:al)(ty esz:Nat)(cells:List U):Nat×al:=
 force cells.length λn=>X.new {cq:=0,ty,n,loose:=true,esz,ro:=false,mZ:=λ_=>none,fL:=qo cells,sp:= .cells}
def hT(P:Program)(e:TypeId):Bool:=match P.underlying e with|some (.int .u8)=>true|_=>false
def HA(lJ:List Int):ByteArray:=lJ.foldl (λr n=>r.push (UInt8.ofNat n.toNat)) ByteArray.empty
def jP(P:Program)(s d:TypeId)(x:U)(X:al):Option (U×al):=match P.underlying s,P.underlying d,x with
 |some .string,some (.slice e),.str b=>bif hT P e&&Nat.ble b.size 140737488355328 then some (.aF (ng X e 1 (xB b)).1 0 b.size none 0,(ng X e 1 (xB b)).2) else none
 |some (.slice _),some (.slice e),.aF k off n cap lo=>bif hT P e&&Nat.beq s d then(match X.aV.get k with
  |some o=>bif o.ro then none else some (.aF k off n cap lo,X)
  |none=>none) else none
 |some (.slice e),some .string,.val (.slice none _ _)=>bif hT P e then some (.str .empty,X) else none
 |some (.slice e),some .string,.la _=>bif hT P e then some (.str .empty,X) else none
 |some (.slice e),some .string,.aF k off n _ _=>bif hT P e then(match X.aV.get k with
  |some o=>match kG o off n with
   |some ys=>match bytesOf ys with
    |some lJ=>some (.str (HA lJ),X)
    |none=>none
   |none=>none
  |none=>none) else none
 |_,_,_=>none
def z4(_P:Program)(_t:TypeId)(_x:U)(_X:al):Option (U×al):=none
def xv(_k:Nat)(_X:al):Option (U×al):=none
def XK(_P:Program)(_t:TypeId)(_k _off _len:Nat):Option U:=none
def uj(X:al):Nat×al:=X.new {cq:=0,ty:=0,n:=0,loose:=false,esz:=1,ro:=true,mZ:=λ_=>none,fL:= .nil,sp:= .map [] 0}
def z3(_P:Program)(_t:TypeId)(_m _k:U)(_ok:Bool)(_X:al):Option U:=none
def xw(_P:Program)(_t:TypeId)(_m _k _v:U)(_X:al):Option al:=none
def zZ(_P:Program)(_t:TypeId)(_m _k:U)(_X:al):Option (U×al):=none
def xu(_m _st _v:U)(_X:al):Option al:=none
def XL(_P:Program)(_x:U)(_a:TypeId)(_ok:Bool):Option U:=none
def JY(_P:Program)(_x:U)(_name:String)(_X:al):Option (FuncId×U):=none
def eC(X:al):Option U->Option (U×al)
 |some y=>some (y,X)
 |none=>none
def dX(P:Program)(op:Op)(ch:List U)(X:al):Option (U×al):=
 match op,ch with
 | .move _,[x]=>some (x,X)
 | .assign _,[x]=>some (x,X)
 | .pick _ _ _,[c,a,b]=>uB X c a b
 | .alloc e,[]=>qg P e X
 | .box e _,[x]=>qi e x X
 | .build t ps,vs=>eC X (gM P t (ps.toList.map (·.1)) vs)
 | .buildSlice t len ps,vs=>oD P t len (ps.toList.map (·.1)) vs X
 | .load t _,[.ptr k off]=>eC X (rD P t X k off)
 | .store t _ _,[.ptr k off,y]=>match sL P t X k off y with|some X=>some (.val undef,X)|none=>none
 | .nilCheck _,[x]=>eC X (ev x)
 | .binOp op t _ _ _,[x,y]=>eC X (AI P op t x y)
 | .unOp op _ _,[x]=>eC X (ib op x)
 | .convert s d _,[x]=>match oE P s d x with|some y=>some (y,X)|none=>jP P s d x X
 | .makeInterface t _,[x]=>eC X (F1 P t x)
 | .makeFunc fn a _,vs=>some (.fn fn (vs.take a.size) (vs.drop a.size),X)
 | .makeSlice t _ _,[l,c]=>qj P t l c X
 | .fieldAddr s _ f,[.ptr k off]=>eC X (F0 P s f k off)
 | .field s _ f,[.agg cs]=>eC X (z0 P s f cs)
 | .indexAddr t _ _,[x,hy]=>eC X (z2 P t x hy)
 | .index t _ _,[x,hy]=>eC X (z1 P t x hy)
 | .extract _ i,[.bm vs]=>eC X vs[i]?
 | .range t _,[x]=>z4 P t x X
 | .next _ true,[.ptr k 0]=>xv k X
 | .sliceToArrayPointer t _,[.aF k off len _ _]=>eC X (XK P t k off len)
 | .makeMap _ none,[]=>some (.mp (uj X).1,(uj X).2)
 | .lookup t _ _ ok,[m,k]=>eC X (z3 P t m k ok X)
 | .mapUpdate t _ _ _,[m,k,v]=>match xw P t m k v X with|some X=>some (.val undef,X)|none=>none
 | .mapEntry t _ _,[m,k]=>zZ P t m k X
 | .entryStore _ _ _ _,[m,b,v]=>match xu m b v X with|some X=>some (.val undef,X)|none=>none
 | .typeAssert _ _ a ok,[x]=>eC X (XL P x a ok)
 | .slice t _ none none none,[x]=>eC X (gl P t x none none)
 | .slice t _ (some _) none none,[x,l]=>eC X (gl P t x (some l) none)
 | .slice t _ none (some _) none,[x,h]=>eC X (gl P t x none (some h))
 | .slice t _ (some _) (some _) none,[x,l,h]=>eC X (gl P t x (some l) (some h))
 |_,_=>none
def FW(P:Program)(s d:TypeId):Bool:=match P.underlying s,P.underlying d with
 |some (.slice _),_=>true
 |_,some (.slice _)=>true
 |_,_=>false
def F8(P:Program)(s d:TypeId):Bool:=match P.underlying s,P.underlying d with
 |some (.slice _),some .string=>true
 |_,_=>false
def Sj:Builtin->Bool
 | .len| .cap| .min| .max=>true
 |_=>false
def EZ:Callee->Bool
 | .builtin b=>Sj b
 |_=>false
def zl:Op->Bool
 | .alloc _| .box _ _| .buildSlice _ _ _| .makeSlice _ _ _=>true
 |_=>false
section
variable(P:Program)
def mD:Op->Bool
 | .convert s d _=>!FW P s d
 | .move _| .assign _| .pick _ _ _| .build _ _| .nilCheck _| .binOp _ _ _ _ _| .unOp _ _ _| .makeInterface _ _| .makeFunc _ _ _| .fieldAddr _ _ _| .field _ _ _| .indexAddr _ _ _| .index _ _ _| .extract _ _| .slice _ _ _ _ _| .sliceToArrayPointer _ _| .typeAssert _ _ _ _=>true
 | .call c=>EZ c.callee
 |_=>false
def fo:Op->Bool
 | .load _ _=>true
 | .lookup _ _ _ _=>true
 | .convert s d _=>F8 P s d
 |_=>false
def ou(o:Op):Bool:=!mD P o&&!fo P o
def iw:List (Nat×List Nat)->Nat->List Nat
 | [],_=>[]
 |(b,ls)::rest,i=>bif Nat.beq b i then ls else iw rest i
def m5:List Nat->Nat->Bool
 | [],_=>false
 |x::xs,i=>Nat.beq x i||m5 xs i
def ae6(_ _:Op):Bool:=false
def C6(bS:List (Nat×List Nat))(i j:Nat)(a b:Op):Bool:=mD P a||mD P b||(fo P a&&fo P b)||(fo P a&&ou P b&&m5 (iw bS j) i)||ae6 a b
def p9:Op->Bool
 | .select _ _=>false
 | .defer _=>false
 |_=>true
def FQ(ops:List Oper)(listed:Array Bool)(i:Nat):Nat->List Oper->List Bool->List Bool
 |_,[],acc=>acc
 |j,o::rest,acc=>FQ ops listed i (j+1) rest (acc++[if j==i then false else listed.getD j true||o.after.all λe=>!Region.binds .any e||acc.getD e.on false])
def LY(bS:List (Nat×List Nat))(ops:Array Oper)(listed:Array Bool)(i:Nat)(r:List Bool):Bool:=
 match ops[i]? with
 |none=>false
 |some dR=>(List.range ops.size).all λj=>match ops[j]? with
  |none=>false
  |some cd=>
   j==i||(bif r.getD j false then listed.getD j true||(dR.apart ops cd&&C6 P bS i j dR.op cd.op) else(!listed.getD j true&&cd.after.any λe=>Region.binds .any e&&!r.getD e.on false))
def zv(bS:List (Nat×List Nat))(ops:Array Oper):List Nat->Array Bool->Bool
 | [],listed=>listed.all id
 |k::bL,listed=>(Region.ready .any ops listed).contains k&&!(FQ ops.toList listed k 0 ops.toList []).getD k false&&LY P bS ops listed k (FQ ops.toList listed k 0 ops.toList [])&&zv bS ops bL (listed.setIfInBounds k true)
def HQ(bS:List (Nat×List Nat))(ops:Array Oper)(is:List Nat):Bool:=ops.all (λo=>p9 o.op)&&Nat.beq is.length ops.size&&zv P bS ops is (Array.replicate ops.size false)
def hI(rs:List Nat)(k:Nat)(o:Op):Bool:=m5 rs k&&zl o
def C7(rs:List Nat)(bS:List (Nat×List Nat))(i j:Nat)(a b:Op):Bool:=mD P a||mD P b||hI rs j b||((fo P a||hI rs i a)&&fo P b)||(fo P a&&ou P b&&!hI rs j b&&m5 (iw bS j) i)
def LZ(rs:List Nat)(bS:List (Nat×List Nat))(ops:Array Oper)(listed:Array Bool)(i:Nat)(r:List Bool):Bool:=
 match ops[i]? with
 |none=>false
 |some dR=>(List.range ops.size).all λj=>match ops[j]? with
  |none=>false
  |some cd=>
   j==i||(bif r.getD j false then listed.getD j true||(dR.apart ops cd&&C7 P rs bS i j dR.op cd.op) else(!listed.getD j true&&cd.after.any λe=>Region.binds .any e&&!r.getD e.on false))
def vn(rs:List Nat)(bS:List (Nat×List Nat))(ops:Array Oper):List Nat->Array Bool->Bool
 | [],listed=>listed.all id
 |k::bL,listed=>(Region.ready .any ops listed).contains k&&!(FQ ops.toList listed k 0 ops.toList []).getD k false&&LZ P rs bS ops listed k (FQ ops.toList listed k 0 ops.toList [])&&vn rs bS ops bL (listed.setIfInBounds k true)
def RT(rs:List Nat)(bS:List (Nat×List Nat))(ops:Array Oper)(is:List Nat):Bool:=ops.all (λo=>p9 o.op)&&Nat.beq is.length ops.size&&vn P rs bS ops is (Array.replicate ops.size false)
def BW:Op->Bool
 | .select _ _=>false
 |_=>true
def ix(ord:Nat->Hint)(rd:Bool):Code->Bool
 | .region _ ops false=>bif rd then ops.all λo=>p9 o.op else ops.all λo=>BW o.op
 | .region id ops true=>match ord id with
   | .text=>HQ P [] ops (List.range ops.size)
   | .skip=>true
   | .ord is bS=>HQ P bS ops is
   | .news is rs bS=>RT P rs bS ops is
 | .seq a b=>ix ord rd a&&ix ord rd b
 | .cond _ a b=>ix ord rd a&&ix ord rd b
 | .block _ c=>ix ord rd c
 | .loop c=>ix ord rd c
 | .scope c=>ix ord rd c
 | .rangeFunc _ _ a c=>ix ord true a&&ix ord true c
 |_=>true
end
structure b1 (P:Program) where
 f:FuncId
 fn:Func
 ord:Nat->Hint
 Rw:P.funcs[f]?=some fn
 aeM:fn.body.isSome=true
 Rx:(fn.name=="runtime.NumGoroutine")=false
 isSmall:Nat.ble fn.ntmps 60000=true
 aeO:ix P ord false (fn.body.getD .skip)=true
inductive Ar where
 |indexByte
 |compare
 |same
def afv:Ar->Array Value->Sem Value
 | .indexByte=>Extern.BytealgIndexByte.indexByte
 | .compare=>Extern.BytealgCompare.compare
 | .same=>Extern.AbiNoEscape.same
structure Y6 (P:Program) where
 f:FuncId
 fn:Func
 k:Ar
 Rw:P.funcs[f]?=some fn
 Rx:(fn.name=="runtime.NumGoroutine")=false
 asf:fn.body.isNone=true
 asg:Extern.findNext fn=none
 aq5:Extern.find fn=some (afv k)
inductive NL (P:Program) where
 |fn (x:b1 P)
 |nat (x:Y6 P)
def ui(_k:Ar)(_args:List U)(_X:al):Option U:=none
inductive xQ where
 |fn (f:FuncId)
 |iJ (f:FuncId)
 |fV (k:Nat)
abbrev j2:=List (U×Bool)
inductive Out where
 |ret (y:U)
 |cY (bn:j2)
abbrev cc:=xQ->List U->al->Option (Out×al)
def AN(callf:cc)(c:xQ)(args:List U)(X:al):Option (U×al):=match callf c args X with
 |some (.ret y,X)=>some (y,X)
 |_=>none
def eG(P:Program)(t:TypeId)(x:U):Option U:=match P.underlying t,x with
 |some .string,.str s=>some (j8 s.size λr=> .int .i64 r)
 |some .string,.val (.string s)=>some (.val (.int .i64 s.size))
 |some (.slice _),.aF _ _ n _ _=>some (.int .i64 n)
 |some (.slice _),.la _=>some (.int .i64 0)
 |some (.slice _),.val (.slice none n _)=>some (j8 n λr=> .int .i64 r)
 |some (.slice _),.val (.slice (some _) n _)=>some (.val (.int .i64 n))
 |_,_=>none
def Oa(P:Program)(t:TypeId)(x:U):Option U:=match P.underlying t,x with
 |some (.slice _),.aF _ _ _ (some c) _=>some (.int .i64 c)
 |some (.slice _),.val (.slice none _ c)=>some (j8 c λr=> .int .i64 r)
 |some (.slice _),.val (.slice (some _) _ c)=>some (.val (.int .i64 c))
 |_,_=>none
def EP:U->U->Option U
 | .int k a,.int _ b=>some (.int k (bif decide (b<a) then b else a))
 | .int k a,.val (.int _ b)=>some (.val (.int k (bif decide (b<a) then b else a)))
 | .val (.int k a),.int _ b=>some (.val (.int k (bif decide (b<a) then b else a)))
 | .val (.int k a),.val (.int _ b)=>some (.val (.int k (bif decide (b<a) then b else a)))
 |_,_=>none
def EO:U->U->Option U
 | .int k a,.int _ b=>some (.int k (bif decide (b>a) then b else a))
 | .int k a,.val (.int _ b)=>some (.val (.int k (bif decide (b>a) then b else a)))
 | .val (.int k a),.int _ b=>some (.val (.int k (bif decide (b>a) then b else a)))
 | .val (.int k a),.val (.int _ b)=>some (.val (.int k (bif decide (b>a) then b else a)))
 |_,_=>none
def jv(X:al)(sz:Nat):U->Option (Nat×List U)
 | .aF k off n _ _=>match X.aV.get k with
   |some o=>match kG o off (n*sz) with|some ys=>some (n,ys)|none=>none
   |none=>none
 | .val (.slice none a c)=>bif Nat.beq a 0&&Nat.beq c 0 then some (0,[]) else none
 | .str s=>some (s.size,xB s)
 | .la _=>some (0,[])
 |_=>none
def nZ(e sz b eo:Nat)(cells:List U)(X:al):Option (U×al):=
 bif Nat.ble eo 140737488355328&&Nat.ble (eo*b) 140737488355328 then some (.aF (ng X e sz cells).1 0 eo none 0,(ng X e sz cells).2) else none
def oS(k off len:Nat)(cap:Option Nat)(lo eo sz:Nat)(o:bH)(news:List U)(X:al):Option (U×al):=
 bif Nat.ble (off+eo*sz) o.n&&!o.ro then some (.aF k off eo cap lo,{X with aV:=X.aV.put k {o with cq:=o.cq+1,fL:=hl o.fL (off+len*sz) news}}) else none
def rW(k len eo sz b:Nat)(o:bH)(news:List U)(X:al):Option (U×al):=
 bif Nat.ble (len*sz) o.n&&(Nat.ble eo 140737488355328&&Nat.ble (eo*b) 140737488355328) then
  force (eo*sz) λn=>some (.aF X.next 0 eo none 0,{X with next:=X.next+1,aV:=(X.aV.del k).put X.next {o with cq:=0,n,fL:=hl o.fL (len*sz) news}}) else none
def kR(e sz b k off len:Nat)(cap:Option Nat)(lo n:Nat)(news:List U)(X:al):Option (U×al):=match X.aV.get k with
 |none=>none
 |some o=>force (len+n) λeo=>match cap with
  |some c=>bif Nat.ble eo c then oS k off len cap lo eo sz o news X else(match kG o off (len*sz) with
   |some olds=>nZ e sz b eo (olds++news) X
   |none=>none)
  |none=>bif Nat.beq off 0&&(Nat.beq lo 0&&(Nat.beq o.esz sz&&(o.loose&&(!o.ro&&Nat.beq o.ty e)))) then
    (bif Nat.ble (eo*sz) o.n then oS k off len cap lo eo sz o news X else rW k len eo sz b o news X) else none
def po(P:Program)(t:TypeId)(s x:U)(X:al):Option (U×al):=match P.underlying t with
 |some (.slice e)=>match eg P e,gC P e,oG P e with
  |some sz,some z,some b=>match jv X sz x with
   |some (n,news)=>bif Nat.ble 1 sz&&(Nat.beq news.length (n*sz)&&(dB news&&Nat.beq (c1 z).cells.length sz)) then(match s with
     | .val (.slice none a c)=>bif Nat.beq a 0&&Nat.beq c 0 then(bif Nat.beq n 0 then some (.val (.slice none 0 0),X) else nZ e sz b n news X) else none
     | .aF k off len cap lo=>kR e sz b k off len cap lo n news X
     | .la k=>bif Nat.beq n 0 then some (.la k,X) else none
     |_=>none) else none
   |none=>none
  |_,_,_=>none
 |_=>none
def qh(P:Program)(t:TypeId)(s x:U)(X:al):Option (U×al):=match P.underlying t,x with
 |some (.slice e),.int _ (.ofNat n)=>match eg P e,gC P e,oG P e with
  |some sz,some z,some b=>match (c1 z).cells with
   | [c]=>bif Nat.beq sz 1&&(c.one&&(Nat.ble n 140737488355328&&Nat.ble (n*b) 140737488355328)) then(match s with
       | .aF k off len cap lo=>kR e 1 b k off len cap lo n (List.replicate n c) X
       |_=>none) else none
   |_=>none
  |_,_,_=>none
 |_,_=>none
def rC(P:Program)(t:TypeId)(d x:U)(X:al):Option (U×al):=match P.underlying t with
 |some (.slice e)=>match eg P e with
  |some sz=>match jv X sz x with
   |some (n,news)=>bif Nat.beq news.length (n*sz)&&dB news then(match d with
     | .val (.slice none a _)=>bif Nat.beq a 0 then some (.int .i64 0,X) else none
     | .aF k off len _ _=>match X.aV.get k with
       |some o=>force (Nat.min n len) λm=>bif Nat.ble (off+len*sz) o.n&&!o.ro then some (.int .i64 m,{X with aV:=X.aV.put k {o with cq:=o.cq+1,fL:=hl o.fL off (news.take (m*sz))}}) else none
       |none=>none
     |_=>none) else none
   |none=>none
  |none=>none
 |_=>none
def sF:TypeDesc->Bool
 | .slice _=>true
 | .string=>true
 |_=>false
def vM:TypeDesc->Bool
 | .int _=>true
 |_=>false
def ja(P:Program)(b:Builtin)(c8:Array TypeId)(ch:List U)(X:al):Option (U×al):=match b,ch with
 | .len,[x]=>match c8[0]? with|some t=>eC X (eG P t x)|none=>none
 | .cap,[x]=>match c8[0]? with|some t=>eC X (Oa P t x)|none=>none
 | .min,[x,y]=>eC X (EP x y)
 | .max,[x,y]=>eC X (EO x y)
 | .append,[s,x]=>match c8[0]?,c8[1]? with
   |some t,some u=>match P.underlying u with
    |some d=>bif sF d then po P t s x X else(bif vM d then qh P t s x X else none)
    |none=>none
   |_,_=>none
 | .copy,[d,x]=>match c8[0]? with|some t=>rC P t d x X|none=>none
 |_,_=>none
def r3(P:Program)(c:Call)(ch:List U)(X:al):Option (xQ×List U):=
 match c.callee with
 | .value _=>(match ch with
   | .fn (.func f) a b::args=>some (.fn f,a++args++b)
   | .fV k::args=>some (.fV k,args)
   |_=>none)
 | .invoke _ name=>(match ch with
   |x::args=>(match JY P x name X with|some (f,r)=>some (.fn f,r::args)|none=>none)
   |_=>none)
 |_=>none
def yw(P:Program)(callf:cc)(c:Call)(ch:List U)(X:al):Option (U×al):=
 match c.callee with
 | .builtin b=>ja P b c.argTypes ch X
 |_=>match r3 P c ch X with
  |some (f,args)=>AN callf f args X
  |none=>none
def ku(P:Program)(callf:cc)(o:Oper)(F:aH U)(X:al):Option (U×al):=
 match looks X.aO F o.op.operands.toList with
 |none=>none
 |some ch=>match o.op with
  | .call c=>yw P callf c ch X
  |op=>dX P op ch X
def l4(ch:List U)(X:al):Option (Out×al):=match ch with
 | [.p4 t x]=>some (.cY [(.p4 t x,false)],X)
 |_=>none
def sr:Builtin->Bool
 | .panic=>true
 |_=>false
def hB:Option (U×al)->Option (Out×al)
 |some (y,X)=>some (.ret y,X)
 |none=>none
def ly(P:Program)(callf:cc)(o:Oper)(F:aH U)(X:al):Option (Out×al):=
 match looks X.aO F o.op.operands.toList with
 |none=>none
 |some ch=>match o.op with
  | .call c=>(match c.callee with
    | .builtin b=>bif sr b then l4 ch X else hB (ja P b c.argTypes ch X)
    |_=>match r3 P c ch X with
     |some (f,args)=>callf f args X
     |none=>none)
  | .panic _=>l4 ch X
  |op=>hB (dX P op ch X)
def put(N:Nat)(F:aH U)(d:Option Tmp)(y:U):aH U:=match d with
 |some d=>bif Nat.blt d N then F.put d y else F
 |none=>F
def ir(ops:List Oper)(F:aH U)(X:al):Option (Nat×Bool)->Option (Bool×al)
 |none=>some (true,X)
 |some (j,want)=>match ops[j]? with
  |some o=>match o.dst with
   |some d=>match F.get d with
    |some y=>mW X want y
    |none=>none
   |none=>none
  |none=>none
def kn(P:Program)(callf:cc)(N:Nat)(ops:List Oper)(o:Oper)(F:aH U)(X:al):Option (aH U×al):=
 match ir ops F X o.guard with
 |some (true,X)=>match ku P callf o F X with
  |some (y,X)=>some (put N F o.dst y,X)
  |none=>none
 |some (false,X)=>some (put N F o.dst (.val undef),X)
 |none=>none
def HP(o:Oper)(F:aH U)(X:al):Option eR:=match o.op with
 | .defer c=>(match c.callee,looks X.aO F o.op.operands.toList with
   | .value _,some (.fn (.func f) a b::args)=>some (.call f (a++args) b)
   |_,_=>none)
 |_=>none
def p5:Op->Bool
 | .defer _=>true
 |_=>false
def l8(P:Program)(callf:cc)(N:Nat)(ops:List Oper)(o:Oper)(F:aH U)(X:al):Option (Option j2×aH U×al):=
 match ir ops F X o.guard with
 |some (true,X)=>bif p5 o.op then(match HP o F X with
   |some d=>some (none,put N F o.dst (.val undef),{X with bx:=d::X.bx})
   |none=>none) else(match ly P callf o F X with
   |some (.ret y,X)=>some (none,put N F o.dst y,X)
   |some (.cY bn,X)=>some (some bn,F,X)
   |none=>none)
 |some (false,X)=>some (none,put N F o.dst (.val undef),X)
 |none=>none
def lz(P:Program)(callf:cc)(N:Nat)(ops:List Oper):List Oper->aH U->al->Option (Option j2×aH U×al)
 | [],F,X=>some (none,F,X)
 |o::rest,F,X=>match l8 P callf N ops o F X with
  |some (none,F,X)=>lz P callf N ops rest F X
  |r=>r
inductive iu where
 |c4
 |ex (id:Nat)
 |ret
 |gt (l:Nat)
 |cY (bn:j2)
abbrev R:=Option (iu×aH U×al)
def addrOf(ops:List Oper)(o:Oper)(F:aH U)(X:al):Option Nat:=match ir ops F X o.guard with
 |some (true,X)=>match looks X.aO F o.op.operands.toList with
  |some [.ptr k _]=>some k
  |some [.aF k _ _ _ _]=>some k
  |some [.mp k,_]=>some k
  |_=>none
 |_=>none
def Gg(X:al)(k:Nat):Option Nat:=match X.aV.get k with|some o=>some o.cq|none=>none
def nL(X af:al)(k:Nat):Bool:=bif Nat.blt k X.next then(match Gg X k with
 |some v=>(match Gg af k with|some Mj=>Nat.beq v Mj|none=>false)
 |none=>false) else false
def mq:List (Nat×Option Nat)->Nat->Option Nat
 | [],_=>none
 |(l,k)::rest,i=>bif Nat.beq l i then k else mq rest i
def kt(bJ:List (Nat×Option Nat))(X af:al):List Nat->Bool
 | []=>true
 |l::ls=>(match mq bJ l with|some k=>nL X af k|none=>true)&&kt bJ X af ls
def iK(P:Program)(callf:cc)(N:Nat)(ops:List Oper)(bS:List (Nat×List Nat)):List Nat->List (Nat×Option Nat)->aH U->al->Option (aH U×al)
 | [],_,F,X=>some (F,X)
 |k::bL,bJ,F,X=>match ops[k]? with
  |none=>none
  |some o=>match kn P callf N ops o F X with
   |none=>none
   |some (F',af)=>bif kt bJ X af (iw bS k) then iK P callf N ops bS bL (bif fo P o.op then(k,addrOf ops o F X)::bJ else bJ) F' af else none
def kI(b:Nat):U->Bool
 | .val _| .int _ _| .bool _| .str _=>true
 | .ptr k _=>Nat.blt k b
 | .aF k _ _ _ _=>Nat.blt k b
 |_=>false
def oz(b:Nat):List U->Bool
 | []=>true
 |y::ys=>kI b y&&oz b ys
def lM(P:Program)(callf:cc)(N:Nat)(ops:List Oper)(rs:List Nat)(base k:Nat)(o:Oper)(F:aH U)(X:al):Option (aH U×al):=
 bif hI rs k o.op then(match o.guard with
  |some _=>none
  |none=>match looks X.aO F o.op.operands.toList with
   |none=>none
   |some ch=>bif oz base ch then(force (base+k) λm=>match dX P o.op ch {X with next:=m} with
    |some (y,af)=>some (put N F o.dst y,{af with next:=X.next})
    |none=>none) else none) else kn P callf N ops o F X
def p7(P:Program)(ops:List Oper)(base:Nat)(o:Oper)(F:aH U)(X:al):Bool:=
 bif fo P o.op then(match addrOf ops o F X with|some j=>Nat.blt j base|none=>true) else true
def nY(X:al)(base:Nat):List Nat->Bool
 | []=>true
 |k::bL=>(match X.aV.get (base+k) with|none=>true|some _=>false)&&nY X base bL
def jd(P:Program)(callf:cc)(N:Nat)(ops:List Oper)(rs:List Nat)(bS:List (Nat×List Nat))(base:Nat):List Nat->List (Nat×Option Nat)->aH U->al->Option (aH U×al)
 | [],_,F,X=>some (F,X)
 |k::bL,bJ,F,X=>match ops[k]? with
  |none=>none
  |some o=>bif p7 P ops base o F X then(match lM P callf N ops rs base k o F X with
   |none=>none
   |some (F',af)=>bif kt bJ X af (iw bS k) then jd P callf N ops rs bS base bL (bif fo P o.op then(k,addrOf ops o F X)::bJ else bJ) F' af else none) else none
def jA(body:aH U->al->R)(fuel:Nat):aH U->al->R:=
 Nat.rec (motive:=λ_=>aH U->al->R) (λ_ _=>none) (λ_ bp F X=>match body F X with
  |some (.c4,F,X)=>bp F X
  |r=>r) fuel
def JL:Jump->iu
 | .none=> .c4
 | .ret=> .ret
 | .ex id=> .ex id
def iA(ord:Nat->Hint)(me:FuncId)(N:Nat)(F:aH U)(ps:Array Tmp)(assign body:Code)(jO:Nat):bH:=
 {cq:=0,ty:=0,n:=0,loose:=false,esz:=1,ro:=true,mZ:=λ_=>none,fL:= .nil,sp:= .loop .ready .none ord me N F ps assign body jO}
def sB:bH:={cq:=0,ty:=0,n:=0,loose:=false,esz:=1,ro:=true,mZ:=λ_=>none,fL:= .nil,sp:= .jO false}
def tl(rd:Option Nat)(X:al):Option (Nat×al):=match rd with
 |none=>some ((X.new sB).1,{(X.new sB).2 with bx:= .tp (X.new sB).1::X.bx})
 |some k=>match X.aV.get k with
  |some o=>match o.sp with
   | .loop _ _ _ _ _ _ _ _ _ b=>some (b,X)
   |_=>none
  |none=>none
def tu(F:aH U)(l:Nat)(X:al):R:=match X.aV.get l with
 |some o=>match o.sp with
  | .loop st iC ord me N G ps a c b=>(match st with
    | .busy=>none
    |_=>some (JL iC,F,{X with aV:=X.aV.put l {o with cq:=o.cq+1,sp:= .loop .exhausted iC ord me N G ps a c b}}))
  |_=>none
 |none=>none
def HH:Code->Nat
 | .region id _ _=>id
 | .seq a _=>HH a
 | .block _ a=>HH a
 | .loop a=>HH a
 |_=>0
def iS(ord:Nat->Hint)(N:Nat)(c:Code):List Nat:=match ord (1000000+HH c) with
 | .ord is _=>is
 |_=>List.range N
def jl:List (Nat×Option U)->aH U
 | []=> .nil
 |(t,x)::l=>match x with
  |some y=>(jl l).put t y
  |none=>jl l
def iB(us:List Nat)(F:Nat->Option U):aH U:=jl (us.map λt=>(t,F t))
def qe(callf:cc)(ord:Nat->Hint)(me:FuncId)(rd:Option Nat)(N:Nat)(ps:Array Tmp)(a c:Code)(g:U)(F:aH U)(X:al):R:=match g,tl rd X with
 | .fn (.func f) bZ qD,some (b,X1)=>(match callf (.iJ f) (bZ++[.fV (X1.new (iA ord me N (iB (iS ord N c) F.get) ps a c b)).1]++qD) {(X1.new (iA ord me N (iB (iS ord N c) F.get) ps a c b)).2 with bx:=[]} with
   |some (.ret _,c5)=>tu F (X1.new (iA ord me N (iB (iS ord N c) F.get) ps a c b)).1 {c5 with bx:=X1.bx}
   |some (.cY bn,c5)=>some (.cY bn,F,{c5 with bx:=X1.bx})
   |none=>none)
 |_,_=>none
abbrev pI:=Code->Code->aH U->al->R
def cl(P:Program)(callf:cc)(ord:Nat->Hint)(me:FuncId)(rd:Option Nat)(N fuel:Nat)(jump:pI):Code->aH U->al->R
 | .skip,F,X=>some (.c4,F,X)
 | .region _ ops false,F,X=>match lz P callf N ops.toList ops.toList F X with
   |some (none,F,X)=>some (.c4,F,X)
   |some (some bn,F,X)=>some (.cY bn,F,X)
   |none=>none
 | .region id ops true,F,X=>match (match ord id with
     | .text=>iK P callf N ops.toList [] (List.range ops.size) [] F {X with cN:=[]}
     | .skip=>none
     | .ord is bS=>iK P callf N ops.toList bS is [] F {X with cN:=[]}
     | .news is rs bS=>force (X.next+ops.size) λn=>bif nY X X.next rs then jd P callf N ops.toList rs bS X.next is [] F {X with cN:=[],next:=n} else none) with
   |some (F,af)=>some (.c4,F,{af with cN:=X.cN})
   |none=>none
 | .seq a b,F,X=>match cl P callf ord me rd N fuel jump a F X with
   |some (.c4,F,X)=>cl P callf ord me rd N fuel jump b F X
   |r=>r
 | .cond c a b,F,X=>match look X.aO F c with
   |some y=>match hs X y with
    |some (true,X)=>cl P callf ord me rd N fuel jump a F X
    |some (false,X)=>cl P callf ord me rd N fuel jump b F X
    |none=>none
   |none=>none
 | .block id c,F,X=>match cl P callf ord me rd N fuel jump c F X with
   |some (.ex il,F,X)=>bif Nat.beq il id then some (.c4,F,X) else some (.ex il,F,X)
   |r=>r
 | .loop c,F,X=>jA (cl P callf ord me rd N fuel jump c) fuel F X
 | .exit id,F,X=>some (.ex id,F,X)
 | .label _,F,X=>some (.c4,F,X)
 | .ret,F,X=>some (.ret,F,X)
 | .goto l,F,X=>some (.gt l,F,X)
 | .rangeFunc g ps a c,F,X=>match look X.aO F g with
   |some y=>qe callf ord me rd N ps a c y F X
   |none=>none
 |_,_,_=>none
def k0(_P:Program)(_callf:cc)(_ord:Nat->Hint)(_me:FuncId)(_rd:Option Nat)(_N _fuel:Nat)(_n:Nat):pI:=λ_ _ _ _=>none
def uy(P:Program)(F:aH U)(X:al):ResultVar->Option U
 | .tmp t=>F.get t
 | .cell a t=>match F.get a with
   |some (.ptr k off)=>rD P t X k off
   |_=>none
def pj(P:Program)(F:aH U)(X:al):List ResultVar->Option (List U)
 | []=>some []
 |r::rs=>match uy P F X r with
  |some y=>match pj P F X rs with|some ys=>some (y::ys)|none=>none
  |none=>none
def zW:List U->U
 | [y]=>y
 |ys=> .bm ys
inductive Mode where
 |ret
 |cY (bn:j2)
def aim:Mode->Mode
 | .cY ((_,true)::_)=> .ret
 |m=>m
def ahw(u:Mode)(bn:j2):Mode:=match u with
 | .cY gB=> .cY (bn++gB)
 | .ret=> .cY bn
abbrev nQ:=FuncId->List U->Mode->al->Option (Out×Mode×al)
def gh(P:Program)(dcall:nQ)(fn:Func)(F:aH U):List eR->Mode->al->Option (Out×al)
 | [],.ret,X=>match pj P F X fn.results.toList with|some ys=>some (.ret (zW ys),X)|none=>none
 | [],.cY bn,X=>some (.cY bn,X)
 | .tp k::bq,u,X=>(match X.aV.get k with
   |some o=>match o.sp with
    | .jO false=>gh P dcall fn F bq u {X with aV:=X.aV.put k {o with cq:=o.cq+1,sp:= .jO true}}
    |_=>none
   |none=>none)
 | .call f xs ys::bq,u,X=>(match dcall f (xs++ys) u X with
   |some (.ret _,u,X)=>gh P dcall fn F bq (aim u) X
   |some (.cY bn,u,X)=>gh P dcall fn F bq (ahw u bn) X
   |none=>none)
def r9(P:Program)(dcall:nQ)(fn:Func):R->Option (Out×al)
 |some (.c4,F,X)=>gh P dcall fn F X.bx .ret {X with bx:=[]}
 |some (.ret,F,X)=>gh P dcall fn F X.bx .ret {X with bx:=[]}
 |some (.cY bn,F,X)=>gh P dcall fn F X.bx (.cY bn) {X with bx:=[]}
 |_=>none
def EV:Option Jump->Jump->Jump
 |some p,_=>p
 |none,q=>q
def F3(o:bH)(st:LoopState)(p:Option Jump):Option bH:=match o.sp with
 | .loop _ q ord me N G ps a c b=>some {o with cq:=o.cq+1,sp:= .loop st (EV p q) ord me N G ps a c b}
 |_=>none
def isReady:bH->Bool
 |{sp:= .loop .ready _ _ _ _ _ _ _ _ _,..}=>true
 |_=>false
def qk(X:al)(k:Nat)(st:LoopState)(p:Option Jump):Option al:=match X.aV.get k with
 |some o=>match F3 o st p with
  |some o'=>some {X with aV:=X.aV.put k o'}
  |none=>none
 |none=>none
def endRound(D:List eR)(X:al)(k:Nat)(st:LoopState)(p:Jump)(b:Bool):Option (Out×al):=match qk X k st (some p) with
 |some X=>some (.ret (.bool b),{X with bx:=D})
 |none=>none
def xf(N:Nat)(F:aH U):List Tmp->List U->aH U
 |p::ps,x::xs=>xf N (put N F (some p) x) ps xs
 |_,_=>F
def l7(dj:Code->aH U->al->R)(k N:Nat)(F:aH U)(ps:Array Tmp)(a c:Code)(args:List U)(X:al):Option (Out×al):=
 bif Nat.beq args.length ps.size then(match dj a (xf N F ps.toList args) {X with bx:=[]} with
  |some (.c4,aL,X1)=>(match X1.aV.get k with
   |some o=>bif isReady o then(match qk X1 k .busy none with
    |some c5=>(match dj c aL c5 with
     |some (.c4,_,nr)=>endRound X.bx nr k .ready .none true
     |some (.ret,_,nr)=>endRound X.bx nr k .done .ret false
     |some (.ex id,_,nr)=>endRound X.bx nr k .done (.ex id) false
     |_=>none)
    |none=>none) else none
   |none=>none)
  |_=>none) else none
abbrev Nk:=Option (iu×aH U×al×Mode)
def m2(_P:Program)(_N:Nat)(_ev:Code->aH U->al->R):Code->aH U->al->Mode->Nk:=λ_ _ _ _=>none
def sE(X:al):Bool:=match X.bx with| []=>true|_=>false
def r8(P:Program)(fn:Func)(D:List eR):Nk->Option (Out×Mode×al)
 |some (.c4,F,X,u)=>bif sE X then(match pj P F X fn.results.toList with|some ys=>some (.ret (zW ys),u,{X with bx:=D})|none=>none) else none
 |some (.ret,F,X,u)=>bif sE X then(match pj P F X fn.results.toList with|some ys=>some (.ret (zW ys),u,{X with bx:=D})|none=>none) else none
 |some (.cY bn,_,X,u)=>bif sE X then some (.cY bn,u,{X with bx:=D}) else none
 |_=>none
structure mg where
 call:cc
 dcall:nQ
def xE(D:List eR):Option (Out×al)->Option (Out×al)
 |some (y,X)=>some (y,{X with bx:=D})
 |none=>none
def m0{P:Program}(a6:b1 P)(callf:cc)(lf:Nat):Code->aH U->al->R:=
 cl P callf a6.ord a6.f none a6.fn.ntmps lf (k0 P callf a6.ord a6.f none a6.fn.ntmps lf lf)
def iy{P:Program}(bp:mg)(a6:b1 P)(lf:Nat)(f:FuncId)(args:List U)(X:al):Option (Out×al):=
 bif Nat.beq a6.f f&&Nat.ble args.length a6.fn.ntmps then xE X.bx (r9 P bp.dcall a6.fn (m0 a6 bp.call lf (a6.fn.body.getD .skip) (hl .nil 0 args) {X with bx:=[]})) else none
def jc(P:Program)(tab:aH (NL P))(lf:Nat)(fuel:Nat):mg:=
 Nat.rec (motive:=λ_=>mg) {call:=λ_ _ _=>none,dcall:=λ_ _ _ _=>none} (λ_ bp=>{
  call:=λc args X=>match c with
   | .fn f=>(match tab.get f with
     |some (.fn a6)=>iy bp a6 lf f args X
     |some (.nat mb)=>bif Nat.beq mb.f f then(match ui mb.k args X with|some y=>some (.ret y,X)|none=>none) else none
     |none=>none)
   | .iJ f=>(match tab.get f with
     |some (.fn a6)=>iy bp a6 lf f args X
     |_=>none)
   | .fV k=>(match X.aV.get k with
     |some o=>match o.sp with
      | .loop _ _ ord me N F ps a c _=>l7 (cl P bp.call ord me (some k) N lf (k0 P bp.call ord me (some k) N lf lf)) k N F ps a c args X
      |_=>none
     |none=>none)
  dcall:=λf args u X=>match tab.get f with
   |some (.fn a6)=>bif Nat.beq a6.f f&&Nat.ble args.length a6.fn.ntmps then r8 P a6.fn X.bx (m2 P a6.fn.ntmps (m0 a6 bp.call lf) (a6.fn.body.getD .skip) (hl .nil 0 args) {X with bx:=[]} u) else none
   |_=>none}) fuel
theorem get_nil{α:Type}(j:Nat):(aH.nil:aH α).get j=none:=rfl
theorem DI{α:Type}:∀(f:Nat) (t:aH α) (i j:Nat) (x y:α),(t.set f i x).get j=some y->(j=i/\y=x)\/(j≠i/\t.get j=some y)
 |0,t,i,j,x,y,h=>by simp[aH.set,aH.get] at h
 |f+1,.nil,i,j,x,y,h=>by
  unfold aH.set at h;cases hi:Nat.beq i 0 with
  |true=>
   have qW:i=0:=Nat.eq_of_beq_eq_true hi;rw[hi] at h;cases aa:Nat.beq j 0 with
   |true=>simp only[cond_true,aH.get,aa] at h;exact .inl ⟨by rw[qW];exact Nat.eq_of_beq_eq_true aa,(Option.some.inj h).symm⟩
   |false=>simp only[cond_true,aH.get,aa,cond_false] at h;cases h2:Nat.beq (j%2) 1<;>simp[h2] at h
  |false=>
   have qW:i≠0:=Nat.ne_of_beq_eq_false hi;rw[hi] at h;cases aq:Nat.beq (i%2) 1 with
   |true=>
    have gz:i%2=1:=Nat.eq_of_beq_eq_true aq;simp only[cond_false,aq,cond_true,aH.get] at h;cases aa:Nat.beq j 0 with
    |true=>simp[aa] at h
    |false=>
     have kW:j≠0:=Nat.ne_of_beq_eq_false aa;cases h2:Nat.beq (j%2) 1 with
     |true=>
      have kA:j%2=1:=Nat.eq_of_beq_eq_true h2;simp only[aa,h2,cond_false,cond_true] at h;rcases DI f _ _ _ _ _ h with⟨e,bb⟩|⟨_,bb⟩
      ·exact .inl ⟨by omega,bb⟩
      ·simp[aH.get] at bb
     |false=>simp[aa,h2] at h
   |false=>
    have gz:i%2≠1:=Nat.ne_of_beq_eq_false aq;simp only[cond_false,aq,aH.get] at h;cases aa:Nat.beq j 0 with
    |true=>simp[aa] at h
    |false=>
     have kW:j≠0:=Nat.ne_of_beq_eq_false aa;cases h2:Nat.beq (j%2) 1 with
     |true=>simp[aa,h2] at h
     |false=>
      have kA:j%2≠1:=Nat.ne_of_beq_eq_false h2;simp only[aa,h2,cond_false] at h;rcases DI f _ _ _ _ _ h with⟨e,bb⟩|⟨_,bb⟩
      ·exact .inl ⟨by omega,bb⟩
      ·simp[aH.get] at bb
 |f+1,.node v l r,i,j,x,y,h=>by
  unfold aH.set at h;cases hi:Nat.beq i 0 with
  |true=>
   have qW:i=0:=Nat.eq_of_beq_eq_true hi;simp only[hi,cond_true,aH.get] at h;cases aa:Nat.beq j 0 with
   |true=>
    have kW:j=0:=Nat.eq_of_beq_eq_true aa;simp only[aa,cond_true] at h;exact .inl ⟨by omega,(Option.some.inj h).symm⟩
   |false=>
    have kW:j≠0:=Nat.ne_of_beq_eq_false aa;exact .inr ⟨by omega,by simpa[aH.get,aa] using h⟩
  |false=>
   have qW:i≠0:=Nat.ne_of_beq_eq_false hi;cases aq:Nat.beq (i%2) 1 with
   |true=>
    have gz:i%2=1:=Nat.eq_of_beq_eq_true aq;simp only[hi,aq,cond_false,cond_true,aH.get] at h;cases aa:Nat.beq j 0 with
    |true=>
     have kW:j=0:=Nat.eq_of_beq_eq_true aa;exact .inr ⟨by omega,by simpa[aH.get,aa] using h⟩
    |false=>
     have kW:j≠0:=Nat.ne_of_beq_eq_false aa;cases h2:Nat.beq (j%2) 1 with
     |true=>
      have kA:j%2=1:=Nat.eq_of_beq_eq_true h2;simp only[aa,h2,cond_false,cond_true] at h;rcases DI f _ _ _ _ _ h with⟨e,bb⟩|⟨aR,bb⟩
      ·exact .inl ⟨by omega,bb⟩
      ·exact .inr ⟨by omega,by simpa[aH.get,aa,h2] using bb⟩
     |false=>
      have kA:j%2≠1:=Nat.ne_of_beq_eq_false h2;exact .inr ⟨by omega,by simpa[aH.get,aa,h2] using h⟩
   |false=>
    have gz:i%2≠1:=Nat.ne_of_beq_eq_false aq;simp only[hi,aq,cond_false,aH.get] at h;cases aa:Nat.beq j 0 with
    |true=>
     have kW:j=0:=Nat.eq_of_beq_eq_true aa;exact .inr ⟨by omega,by simpa[aH.get,aa] using h⟩
    |false=>
     have kW:j≠0:=Nat.ne_of_beq_eq_false aa;cases h2:Nat.beq (j%2) 1 with
     |true=>
      have kA:j%2=1:=Nat.eq_of_beq_eq_true h2;exact .inr ⟨by omega,by simpa[aH.get,aa,h2] using h⟩
     |false=>
      have kA:j%2≠1:=Nat.ne_of_beq_eq_false h2;simp only[aa,h2,cond_false] at h;rcases DI f _ _ _ _ _ h with⟨e,bb⟩|⟨aR,bb⟩
      ·exact .inl ⟨by omega,bb⟩
      ·exact .inr ⟨by omega,by simpa[aH.get,aa,h2] using bb⟩
theorem DJ{α:Type}:∀(f:Nat) (t:aH α) (i j:Nat) (x:α),i+1<2 ^ f->(t.set f i x).get j=if j=i then some x else t.get j
 |0,t,i,j,x,h=>by simp at h
 |f+1,.nil,i,j,x,h=>by
  have h2:2 ^ (f+1)=2*2 ^ f:=by rw[Nat.pow_succ];omega
  unfold aH.set;cases hi:Nat.beq i 0 with
  |true=>
   have qW:i=0:=Nat.eq_of_beq_eq_true hi;simp only[cond_true,aH.get];cases aa:Nat.beq j 0 with
   |true=>have:=Nat.eq_of_beq_eq_true aa;simp[qW,this]
   |false=>have:=Nat.ne_of_beq_eq_false aa;simp[qW,this]
  |false=>
   have qW:i≠0:=Nat.ne_of_beq_eq_false hi;cases aq:Nat.beq (i%2) 1 with
   |true=>
    have gz:i%2=1:=Nat.eq_of_beq_eq_true aq;simp only[cond_false,cond_true,aH.get];cases aa:Nat.beq j 0 with
    |true=>have:=Nat.eq_of_beq_eq_true aa;simp only[cond_true];rw[if_neg (by omega)]
    |false=>
     have kW:=Nat.ne_of_beq_eq_false aa;cases h3:Nat.beq (j%2) 1 with
     |true=>
      have qS:=Nat.eq_of_beq_eq_true h3;simp only[cond_false,cond_true];rw[DJ f .nil (i/2) (j/2) x (by omega)];by_cases e:j=i
      ·rw[if_pos e,if_pos (by omega)]
      ·rw[if_neg e,if_neg (by omega)];rfl
     |false=>
      have qS:=Nat.ne_of_beq_eq_false h3;simp only[cond_false];rw[if_neg (by omega)]
   |false=>
    have gz:i%2≠1:=Nat.ne_of_beq_eq_false aq;simp only[cond_false,aH.get];cases aa:Nat.beq j 0 with
    |true=>have:=Nat.eq_of_beq_eq_true aa;simp only[cond_true];rw[if_neg (by omega)]
    |false=>
     have kW:=Nat.ne_of_beq_eq_false aa;cases h3:Nat.beq (j%2) 1 with
     |true=>
      have qS:=Nat.eq_of_beq_eq_true h3;simp only[cond_false,cond_true];rw[if_neg (by omega)]
     |false=>
      have qS:=Nat.ne_of_beq_eq_false h3;simp only[cond_false];rw[DJ f .nil (i/2-1) (j/2-1) x (by omega)];by_cases e:j=i
      ·rw[if_pos e,if_pos (by omega)]
      ·rw[if_neg e,if_neg (by omega)];rfl
 |f+1,.node v l r,i,j,x,h=>by
  have h2:2 ^ (f+1)=2*2 ^ f:=by rw[Nat.pow_succ];omega
  unfold aH.set;cases hi:Nat.beq i 0 with
  |true=>
   have qW:i=0:=Nat.eq_of_beq_eq_true hi;simp only[cond_true,aH.get];cases aa:Nat.beq j 0 with
   |true=>have:=Nat.eq_of_beq_eq_true aa;simp[qW,this]
   |false=>have:=Nat.ne_of_beq_eq_false aa;simp[qW,this]
  |false=>
   have qW:i≠0:=Nat.ne_of_beq_eq_false hi;cases aq:Nat.beq (i%2) 1 with
   |true=>
    have gz:i%2=1:=Nat.eq_of_beq_eq_true aq;simp only[cond_false,cond_true,aH.get];cases aa:Nat.beq j 0 with
    |true=>have:=Nat.eq_of_beq_eq_true aa;simp only[cond_true];rw[if_neg (by omega)]
    |false=>
     have kW:=Nat.ne_of_beq_eq_false aa;cases h3:Nat.beq (j%2) 1 with
     |true=>
      have qS:=Nat.eq_of_beq_eq_true h3;simp only[cond_false,cond_true];rw[DJ f l (i/2) (j/2) x (by omega)];by_cases e:j=i
      ·rw[if_pos e,if_pos (by omega)]
      ·rw[if_neg e,if_neg (by omega)]
     |false=>
      have qS:=Nat.ne_of_beq_eq_false h3;simp only[cond_false];rw[if_neg (by omega)]
   |false=>
    have gz:i%2≠1:=Nat.ne_of_beq_eq_false aq;simp only[cond_false,aH.get];cases aa:Nat.beq j 0 with
    |true=>have:=Nat.eq_of_beq_eq_true aa;simp only[cond_true];rw[if_neg (by omega)]
    |false=>
     have kW:=Nat.ne_of_beq_eq_false aa;cases h3:Nat.beq (j%2) 1 with
     |true=>
      have qS:=Nat.eq_of_beq_eq_true h3;simp only[cond_false,cond_true];rw[if_neg (by omega)]
     |false=>
      have qS:=Nat.ne_of_beq_eq_false h3;simp only[cond_false];rw[DJ f r (i/2-1) (j/2-1) x (by omega)];by_cases e:j=i
      ·rw[if_pos e,if_pos (by omega)]
      ·rw[if_neg e,if_neg (by omega)]
theorem kT{α:Type}(t:aH α)(i j:Nat)(x:α):(t.put i x).get j=if j=i then some x else t.get j:=
 DJ _ _ _ _ _ (Nat.lt_two_pow_self)
theorem iM{α:Type}{t:aH α}{i j:Nat}{x y:α}(h:(t.put i x).get j=some y):(j=i/\y=x)\/(j≠i/\t.get j=some y):=DI _ _ _ _ _ _ h
theorem cE.kT(H:cE)(i j:Nat)(o:bH):(H.put i o).get j=if j=i then some o else H.get j:=by
 unfold cE.get cE.put;simp only[Xe.kT];by_cases h:j=i
 ·simp[h]
 ·simp[h]
theorem cE.iM{H:cE}{i j:Nat}{o o':bH}(h:(H.put i o).get j=some o'):(j=i/\o'=o)\/(j≠i/\H.get j=some o'):=by
 rw[cE.kT] at h;by_cases e:j=i
 ·rw[if_pos e] at h;exact .inl ⟨e,(Option.some.inj h).symm⟩
 ·rw[if_neg e] at h;exact .inr ⟨e,h⟩
theorem cE.ady(H:cE)(i j:Nat):(H.del i).get j=if j=i then none else H.get j:=by
 unfold cE.get cE.del;simp only[Xe.kT];by_cases h:j=i
 ·simp[h]
 ·simp[h]
theorem cE.tD{H:cE}{i j:Nat}{o':bH}(h:(H.del i).get j=some o'):j≠i/\H.get j=some o':=by
 rw[cE.ady] at h;by_cases e:j=i
 ·rw[if_pos e] at h;cases h
 ·rw[if_neg e] at h;exact⟨e,h⟩
theorem set_comm{α:Type}:∀(f g:Nat) (t:aH α) (i j:Nat) (x y:α),i+1<2 ^ f->j+1<2 ^ g->i≠j->(t.set f i x).set g j y=(t.set g j y).set f i x
 |0,_,_,_,_,_,_,h,_,_=>by simp at h
 |_+1,0,_,_,_,_,_,_,h,_=>by simp at h
 |f+1,g+1,t,i,j,x,y,au,bc,apN=>by
  have az:2 ^ (f+1)=2*2 ^ f:=by rw[Nat.pow_succ];omega
  have ay:2 ^ (g+1)=2*2 ^ g:=by rw[Nat.pow_succ];omega
  rw[az] at au;rw[ay] at bc;by_cases hi:i=0
  ·subst hi
   have wk:Nat.beq j 0=false:=by
    cases h:Nat.beq j 0 with
    |false=>rfl
    |true=>have:=Nat.eq_of_beq_eq_true h;omega
   cases sf:Nat.beq (j%2) 1<;>cases t<;>simp[aH.set,wk,sf]
  ·have bi:Nat.beq i 0=false:=by
    cases h:Nat.beq i 0 with
    |false=>rfl
    |true=>have:=Nat.eq_of_beq_eq_true h;omega
   by_cases aa:j=0
   ·subst aa;cases tO:Nat.beq (i%2) 1<;>cases t<;>simp[aH.set,bi,tO]
   ·have wk:Nat.beq j 0=false:=by
     cases h:Nat.beq j 0 with
     |false=>rfl
     |true=>have:=Nat.eq_of_beq_eq_true h;omega
    cases tO:Nat.beq (i%2) 1 with
    |true=>
     have apQ:=Nat.eq_of_beq_eq_true tO;cases sf:Nat.beq (j%2) 1 with
     |true=>
      have apU:=Nat.eq_of_beq_eq_true sf;cases t with
      |nil=>simp only[aH.set,bi,wk,tO,sf,cond_true,cond_false];rw[set_comm f g .nil (i/2) (j/2) x y (by omega) (by omega) (by omega)]
      |node v l r=>simp only[aH.set,bi,wk,tO,sf,cond_true,cond_false];rw[set_comm f g l (i/2) (j/2) x y (by omega) (by omega) (by omega)]
     |false=>cases t<;>simp[aH.set,bi,wk,tO,sf]
    |false=>
     have apQ:=Nat.ne_of_beq_eq_false tO;cases sf:Nat.beq (j%2) 1 with
     |true=>cases t<;>simp[aH.set,bi,wk,tO,sf]
     |false=>
      have apU:=Nat.ne_of_beq_eq_false sf;cases t with
      |nil=>simp only[aH.set,bi,wk,tO,sf,cond_false];rw[set_comm f g .nil (i/2-1) (j/2-1) x y (by omega) (by omega) (by omega)]
      |node v l r=>simp only[aH.set,bi,wk,tO,sf,cond_false];rw[set_comm f g r (i/2-1) (j/2-1) x y (by omega) (by omega) (by omega)]
theorem age{α:Type}(t:aH α){i j:Nat}(x y:α)(h:i≠j):(t.put i x).put j y=(t.put j y).put i x:=
 set_comm _ _ _ _ _ _ _ (Nat.lt_two_pow_self) (Nat.lt_two_pow_self) h
theorem cE.put_comm(H:cE){i j:Nat}(o o':bH)(h:i≠j):(H.put i o).put j o'=(H.put j o').put i o:=by
 unfold cE.put;simp only[];rw[age _ _ _ h]
theorem cE.anf(H:cE){i j:Nat}(o:bH)(h:i≠j):(H.del i).put j o=(H.put j o).del i:=by
 unfold cE.put cE.del;simp only[];rw[age _ _ _ h]
theorem force_eq{α:Type}(n:Nat)(k:Nat->α):force n k=k n:=by cases n<;>rfl
theorem fP{α:Type}(n:Int)(k:Int->α):j8 n k=k n:=by cases n<;>simp[j8,force_eq]
structure Env where
 f:Nat->Option (Nat×Nat)
 n:Nat
instance:CoeFun Env (λ_=>Nat->Option (Nat×Nat)):=⟨Env.f⟩
mutual
def Den(E:Env):U->Value->Prop
 | .val x,w=>w=x
 | .int k n,w=>w= .int k n
 | .bool b,w=>w= .bool b
 | .str s,w=>w= .string s
 | .ptr k off,w=>∃id c,E k=some (id,c)/\w= .pointer (some ⟨id,off,none⟩)
 | .aF k off len (some cap) _,w=>∃id c,E k=some (id,c)/\w= .slice (some ⟨id,off,none⟩) len cap
 | .aF k off len none lo,w=>∃id c,(E k=some (id,c)/\lo+len<=c)/\w= .slice (some ⟨id,off,none⟩) len (c-lo)
 | .fn f a b,w=>∃x y,cg E a x/\cg E b y/\w= .func f x.toArray y.toArray
 | .p4 t x,w=>∃v,Den E x v/\w= .iface t v
 | .agg cs,w=>∃x,cg E cs x/\w= .agg x.toArray
 | .bm cs,w=>∃x,cg E cs x/\w= .tuple x.toArray
 | .fV k,w=>∃id c,E k=some (id,c)/\w= .func (.yield id) #[] #[]
 | .mp k,w=>∃id c,E k=some (id,c)/\w= .map (some id)
 | .la _,w=>∃a cp,w= .slice (some a) 0 cp
def cg(E:Env):List U->List Value->Prop
 | [],l=>l=[]
 |y::ys,l=>∃v vs,Den E y v/\cg E ys vs/\l=v::vs
end
def Sub(E aW:Env):Prop:=∀k x,E k=some x->aW k=some x
def cQ(E aW:Env):Prop:=aW.n=E.n/\Sub E aW/\∀k,k<E.n->aW k=E k
theorem Sub.refl(E:Env):Sub E E:=λ_ _ h=>h
theorem Sub.trans{E aW nR:Env}(h:Sub E aW)(h':Sub aW nR):Sub E nR:=λk x e=>h' k x (h k x e)
theorem cQ.sub{E aW:Env}(h:cQ E aW):Sub E aW:=h.2.1
theorem cQ.refl(E:Env):cQ E E:=⟨rfl,λ_ _ h=>h,λ_ _=>rfl⟩
theorem cQ.trans{E aW nR:Env}(h:cQ E aW)(h':cQ aW nR):cQ E nR:=⟨h'.1.trans h.1,h.sub.trans h'.sub,λk ai=>(h'.2.2 k (by rw[h.1];exact ai)).trans (h.2.2 k ai)⟩
mutual
theorem Den.sub{E aW:Env}(aE:Sub E aW):∀{y:U} {v:Value},Den E y v->Den aW y v
 | .val _,_,h=>h
 | .int _ _,_,h=>h
 | .bool _,_,h=>h
 | .str _,_,h=>h
 | .ptr _ _,_,h=>let ⟨id,c,e,hw⟩:=h;⟨id,c,aE _ _ e,hw⟩
 | .aF _ _ _ (some _) _,_,h=>let ⟨id,c,e,hw⟩:=h;⟨id,c,aE _ _ e,hw⟩
 | .aF _ _ _ none _,_,h=>let ⟨id,c,e,hw⟩:=h;⟨id,c,⟨aE _ _ e.1,e.2⟩,hw⟩
 | .fn _ _ _,_,h=>let ⟨x,y,ax,bb,hw⟩:=h;⟨x,y,cg.sub aE ax,cg.sub aE bb,hw⟩
 | .p4 _ _,_,h=>let ⟨v,hv,hw⟩:=h;⟨v,Den.sub aE hv,hw⟩
 | .agg _,_,h=>let ⟨x,ax,hw⟩:=h;⟨x,cg.sub aE ax,hw⟩
 | .bm _,_,h=>let ⟨x,ax,hw⟩:=h;⟨x,cg.sub aE ax,hw⟩
 | .fV _,_,h=>let ⟨id,c,e,hw⟩:=h;⟨id,c,aE _ _ e,hw⟩
 | .mp _,_,h=>let ⟨id,c,e,hw⟩:=h;⟨id,c,aE _ _ e,hw⟩
 | .la _,_,h=>h
theorem cg.sub{E aW:Env}(aE:Sub E aW):∀{ys:List U} {vs:List Value},cg E ys vs->cg aW ys vs
 | [],_,h=>h
 |_::_,_,h=>let ⟨v,vs,hv,sq,e⟩:=h;⟨v,vs,Den.sub aE hv,cg.sub aE sq,e⟩
end
theorem Den.mono{E aW:Env}(aE:cQ E aW){y:U}{v:Value}(h:Den E y v):Den aW y v:=h.sub aE.sub
theorem cg.mono{E aW:Env}(aE:cQ E aW){ys:List U}{vs:List Value}(h:cg E ys vs):cg aW ys vs:=h.sub aE.sub
theorem cg.length{E:Env}:∀{ys:List U} {vs:List Value},cg E ys vs->vs.length=ys.length
 | [],_,h=>by cases h;rfl
 |_::_,_,⟨_,_,_,h,e⟩=>by subst e;simp[cg.length h]
theorem cg.get{E:Env}:∀{ys:List U} {vs:List Value},cg E ys vs->∀(j:Nat) (y:U),ys[j]?=some y->∃v,vs[j]?=some v/\Den E y v
 | [],_,_,j,y,aa=>by simp at aa
 |z::ys,_,⟨v,vs,hv,h,e⟩,0,y,aa=>by subst e;simp at aa;subst aa;exact⟨v,rfl,hv⟩
 |z::ys,_,⟨v,vs,hv,h,e⟩,j+1,y,aa=>by subst e;simp at aa;simpa using cg.get h j y aa
theorem cg.append{E:Env}:∀{ys:List U} {vs:List Value} {vO:List U} {Co:List Value},cg E ys vs->cg E vO Co->cg E (ys++vO) (vs++Co)
 | [],_,_,_,h,h'=>by cases h;exact h'
 |_::_,_,_,_,⟨v,vs,hv,h,e⟩,h'=>by subst e;exact⟨v,_,hv,cg.append h h',rfl⟩
theorem cg.take{E:Env}:∀{ys:List U} {vs:List Value} (n:Nat),cg E ys vs->cg E (ys.take n) (vs.take n)
 | [],_,n,h=>by cases h;simp[cg]
 |_::_,_,0,h=>by simp[cg]
 |_::_,_,n+1,⟨v,vs,hv,h,e⟩=>by subst e;exact⟨v,_,hv,cg.take n h,rfl⟩
theorem cg.drop{E:Env}:∀{ys:List U} {vs:List Value} (n:Nat),cg E ys vs->cg E (ys.drop n) (vs.drop n)
 | [],_,n,h=>by cases h;simp[cg]
 |_::_,_,0,h=>h
 |_::_,_,n+1,⟨v,vs,hv,h,e⟩=>by subst e;exact cg.drop n h
theorem ani(E:Env)(x:Value):Den E (J0 x) x:=by cases x<;>simp[J0,Den]
theorem aay(E:Env):∀l:List Value,cg E (l.map J0) l
 | []=>rfl
 |x::xs=>⟨x,xs,ani E x,aay E xs,rfl⟩
theorem aaB(E:Env)(x:Value):Den E (c1 x) x:=by
 cases x with
 |agg cs=>exact⟨cs.toList,aay E _,by simp⟩
 |_=>simp[c1,Den]
theorem HO{E:Env}{y:U}{v:Value}(h:Den E y v)(bb:∀x,y≠ .val (.agg x)):cg E y.cells v.cells.toList:=by
 cases y with
 |agg cs=>obtain⟨x,ax,rfl⟩:=h;simpa[U.cells,Value.cells] using ax
 |val x=>
  have e:v=x:=h;subst e;cases v<;>first|exact absurd rfl (bb _)|exact⟨_,[],rfl,rfl,rfl⟩
 |_=>
  have hv:v.cells.toList=[v]:=by
   first
    |(obtain⟨_,_,_,rfl⟩:=h;rfl)
    |(cases h;rfl)
    |(obtain⟨_,_,_,_,rfl⟩:=h;rfl)
    |(obtain⟨_,_,rfl⟩:=h;rfl)
    |(obtain⟨_,_,_,_,_,rfl⟩:=h;rfl)
    |(rename_i cap _;cases cap<;>(obtain⟨_,_,_,rfl⟩:=h;rfl))
  rw[hv];exact⟨v,[],h,rfl,rfl⟩
theorem anj{E:Env}{y:U}{v:Value}(h:Den E y v)(h1:y.one=true):v.oneCell'=true:=by
 cases y with
 |val x=>
  have e:v=x:=h;subst e;cases v<;>simp_all [U.one,Value.oneCell']
 |agg cs=>simp[U.one] at h1
 |bm cs=>simp[U.one] at h1
 |int k n=>cases h;rfl
 |bool b=>cases h;rfl
 |str s=>cases h;rfl
 |ptr k o=>obtain⟨_,_,_,rfl⟩:=h;rfl
 |aF k o n cap lo=>cases cap<;>(obtain⟨_,_,_,rfl⟩:=h;rfl)
 |fn f a b=>obtain⟨_,_,_,_,rfl⟩:=h;rfl
 |p4 t x=>obtain⟨_,_,rfl⟩:=h;rfl
 |fV k=>obtain⟨_,_,_,rfl⟩:=h;rfl
 |mp k=>obtain⟨_,_,_,rfl⟩:=h;rfl
 |la k=>obtain⟨_,_,rfl⟩:=h;rfl
def lR(E:Env):j2->List PanicEntry->Prop
 | [],l=>l=[]
 |(y,r)::bn,l=>∃v dJ,Den E y v/\lR E bn dJ/\l={v,recovered:=r}::dJ
def GD(E:Env):eR->Deferred->Prop
 | .call f xs ys,d=>∃a b,cg E xs a/\cg E ys b/\d={target:= .fn (.func f) b.toArray,args:=a.toArray}
 | .tp k,d=>∃id c,E k=some (id,c)/\d={target:= .collected id,args:= #[]}
def j3(E:Env):List eR->List Deferred->Prop
 | [],l=>l=[]
 |y::ys,l=>∃d bq,GD E y d/\j3 E ys bq/\l=d::bq
theorem lR.sub{E aW:Env}(aE:Sub E aW):∀{bn:j2} {l:List PanicEntry},lR E bn l->lR aW bn l
 | [],_,h=>h
 |(_,_)::_,_,⟨v,dJ,a,b,e⟩=>⟨v,dJ,a.sub aE,lR.sub aE b,e⟩
theorem GD.sub{E aW:Env}(aE:Sub E aW):∀{y:eR} {d:Deferred},GD E y d->GD aW y d
 | .call _ _ _,_,⟨a,b,h1,h2,e⟩=>⟨a,b,h1.sub aE,h2.sub aE,e⟩
 | .tp _,_,⟨id,c,h,e⟩=>⟨id,c,aE _ _ h,e⟩
theorem j3.sub{E aW:Env}(aE:Sub E aW):∀{ys:List eR} {bq:List Deferred},j3 E ys bq->j3 aW ys bq
 | [],_,h=>h
 |_::_,_,⟨d,bq,a,b,e⟩=>⟨d,bq,a.sub aE,j3.sub aE b,e⟩
theorem lR.append{E:Env}:∀{a b:j2} {l m:List PanicEntry},lR E a l->lR E b m->lR E (a++b) (l++m)
 | [],_,_,_,h,h'=>by cases h;exact h'
 |(_,_)::_,_,_,_,⟨v,dJ,x,y,e⟩,h'=>by subst e;exact⟨v,_,x,lR.append y h',rfl⟩
theorem Ql:∀(ys:List U) (t:aH U) (off j:Nat) (y:U),(hl t off ys).get j=some y->
 (off<=j/\ys[j-off]?=some y)\/((j<off\/off+ys.length<=j)/\t.get j=some y)
 | [],t,off,j,y,h=> .inr ⟨by simp;omega,h⟩
 |z::ys,t,off,j,y,h=>by
  simp only[hl,force_eq] at h;rcases Ql ys _ _ _ _ h with⟨h1,h2⟩|⟨h1,h2⟩
  ·refine .inl ⟨by omega,?_⟩;rw[show j-off=(j-(off+1))+1 by omega];simpa using h2
  ·rcases iM h2 with⟨e,bb⟩|⟨e,bb⟩
   ·exact .inl ⟨by omega,by subst e;simp[bb]⟩
   ·exact .inr ⟨by simp;omega,bb⟩
theorem yJ:∀(ys:List U) (t:aH U) (off j:Nat),(hl t off ys).get j=if off<=j/\j<off+ys.length then ys[j-off]? else t.get j
 | [],t,off,j=>by rw[if_neg (by simp only[List.length_nil];omega)];rfl
 |z::ys,t,off,j=>by
  simp only[hl,force_eq,List.length_cons];rw[yJ ys _ (off+1) j,kT];by_cases e:j=off
  ·subst e;rw[if_neg (by omega),if_pos rfl,if_pos (by omega)];simp
  ·rw[if_neg e];by_cases h1:off+1<=j/\j<off+1+ys.length
   ·rw[if_pos h1,if_pos (by omega),show j-off=(j-(off+1))+1 by omega];simp
   ·rw[if_neg h1,if_neg (by omega)]
theorem I9(l:List U)(j:Nat)(y:U)(h:(qo l).get j=some y):l[j]?=some y:=by
 rcases Ql _ _ _ _ _ h with⟨_,h2⟩|⟨_,h2⟩
 ·simpa using h2
 ·cases h2
def MR(E:Env)(o:bH)(obj:Option Obj)(c:Nat):Prop:=
 ∃cs ty lo hi,obj=some (.cells cs ty (lo,hi))/\(∀j y,o.get j=some y->∃v,cs[j]?=some v/\Den E y v)/\
  (o.ro=false->ty=o.ty/\(lo=hi\/cs.size<=lo)/\o.n<=cs.size/\(o.loose=false->cs.size=o.n)/\(o.loose=true->cs.size=c*o.esz))
def Al(E:Env):List (U×U×Nat)->List MapEntry->Prop
 | [],l=>l=[]
 |(k,v,b)::es,l=>∃e dJ,Den E k e.key/\Den E v e.val/\e.born=b/\Al E es dJ/\l=e::dJ
theorem Al.sub{E aW:Env}(aE:Sub E aW):∀{es:List (U×U×Nat)} {l:List MapEntry},Al E es l->Al aW es l
 | [],_,h=>h
 |(_,_,_)::_,_,⟨e,dJ,h1,h2,h3,aT,bz⟩=>⟨e,dJ,h1.sub aE,h2.sub aE,h3,Al.sub aE aT,bz⟩
def oQ(N:Nat)(E:Env)(F:aH U)(tmps:Array Value):Prop:=N<=tmps.size/\∀j y,F.get j=some y->j<N/\∃v,tmps[j]?=some v/\Den E y v
theorem oQ.sub{N:Nat}{E aW:Env}(aE:Sub E aW){F:aH U}{tmps:Array Value}(h:oQ N E F tmps):oQ N aW F tmps:=
 ⟨h.1,λj y aa=>let ⟨l,v,h1,h2⟩:=h.2 j y aa;⟨l,v,h1,h2.sub aE⟩⟩
theorem Qk:∀(l:List (Nat×Option U)) (j:Nat) (y:U),(jl l).get j=some y->(j,some y)∈l
 | [],j,y,h=>by cases h
 |(t,x)::l,j,y,h=>by
  cases x with
  |none=>exact List.mem_cons_of_mem _ (Qk l j y h)
  |some z=>
   have h:((jl l).put t z).get j=some y:=h;rw[kT] at h;by_cases e:j=t
   ·rw[if_pos e] at h;cases h;subst e;exact List.mem_cons_self ..
   ·rw[if_neg e] at h;exact List.mem_cons_of_mem _ (Qk l j y h)
theorem aoE{us:List Nat}{F:Nat->Option U}{j:Nat}{y:U}(h:(iB us F).get j=some y):F j=some y:=by
 have:=Qk _ _ _ h
 obtain⟨t,_,e⟩:=List.mem_map.1 this;simp only[Prod.mk.injEq] at e;rw[<- e.1];exact e.2
theorem oQ.norm{N:Nat}{E:Env}{F:aH U}{tmps:Array Value}(h:oQ N E F tmps){us:List Nat}:oQ N E (iB us F.get) tmps:=
 ⟨h.1,λ_ _ aa=>h.2 _ _ (aoE aa)⟩
def ub:Jump->Option Code
 | .none=>none
 | .ret=>some .ret
 | .ex id=>some (.exit id)
def pL(P:Program)(E:Env)(s:pK)(obj:Option Obj):Prop:=match s with
 | .cells=>False
 | .iter s pos=>obj=some (.stringIter s pos)
 | .map es clock=>∃l:List MapEntry,obj=some (.map l.toArray clock)/\Al E es l
 | .loop st iC ord _ N F ps a c b=>(ix P ord true a=true/\ix P ord true c=true)/\∃r:Loop,obj=some (.loop r)/\r.state=st/\r.pending=ub iC/\r.params=ps/\r.assign=a/\r.body=c/\(∃cJ,E b=some (r.defers,cJ))/\oQ N E F r.tmps
 | .jO t=>obj=some (.deferred (bif t then none else some []))
theorem pL.sub{P:Program}{E aW:Env}(aE:Sub E aW){s:pK}{obj:Option Obj}(h:pL P E s obj):pL P aW s obj:=by
 cases s with
 |cells=>exact h
 |iter s pos=>exact h
 |map es clock=>obtain⟨l,h1,h2⟩:=h;exact⟨l,h1,h2.sub aE⟩
 |loop st iC ord me N F ps a c b=>
  obtain⟨h0,r,h1,h2,h3,aT,bz,bA,⟨cJ,dN⟩,e0⟩:=h;exact⟨h0,r,h1,h2,h3,aT,bz,bA,⟨cJ,aE _ _ dN⟩,e0.sub aE⟩
 |jO t=>exact h
theorem pL.there{P:Program}{E:Env}{s:pK}{obj:Option Obj}(h:pL P E s obj):∃x,obj=some x:=by
 cases s with
 |cells=>exact h.elim
 |iter s pos=>exact⟨_,h⟩
 |map es clock=>obtain⟨l,h1,h2⟩:=h;exact⟨_,h1⟩
 |loop st iC ord me N F ps a c b=>obtain⟨h0,r,h1,_⟩:=h;exact⟨_,h1⟩
 |jO t=>exact⟨_,h⟩
def lT(P:Program)(E:Env)(o:bH)(obj:Option Obj)(c:Nat):Prop:=(o.sp= .cells/\MR E o obj c)\/(pL P E o.sp obj/\o.n=0/\o.ro=true)
theorem aCX{P:Program}{E:Env}{s:pK}{obj:Option Obj}(h:pL P E s obj):s≠ .cells:=λe=>by subst e;exact h
theorem lT.cs{P:Program}{E:Env}{o:bH}{obj:Option Obj}{c:Nat}(h:lT P E o obj c)(iR:o.ro=false):o.sp= .cells/\MR E o obj c:=by
 rcases h with h|⟨_,_,h⟩
 ·exact h
 ·rw[iR] at h;cases h
theorem lT.there{P:Program}{E:Env}{o:bH}{obj:Option Obj}{c:Nat}(h:lT P E o obj c):∃x,obj=some x:=by
 rcases h with⟨_,cs,ty,lo,hi,h,_⟩|⟨h,_⟩
 ·exact⟨_,h⟩
 ·exact h.there
theorem lT.sub{P:Program}{E aW:Env}(aE:Sub E aW){o:bH}{obj:Option Obj}{c:Nat}(h:lT P E o obj c):lT P aW o obj c:=by
 rcases h with⟨hi,cs,ty,lo,cH,h0,h1,h2⟩|⟨h,h'⟩
 ·exact .inl ⟨hi,cs,ty,lo,cH,h0,λj y aa=>let ⟨v,a,b⟩:=h1 j y aa;⟨v,a,b.sub aE⟩,h2⟩
 ·exact .inr ⟨h.sub aE,h'⟩
theorem lT.mono{P:Program}{E aW:Env}(aE:cQ E aW){o:bH}{obj:Option Obj}{c:Nat}(h:lT P E o obj c):lT P aW o obj c:=h.sub aE.sub
structure bQ (P:Program) (B:Nat) (aZ:World) (X:al) (E:Env) (w:World):Prop where
 os:w.os=aZ.os
 tape:w.tape=aZ.tape
 output:w.output=aZ.output
 base:B<=w.heap.size
 gB:∀k,k<B->w.heap[k]?=aZ.heap[k]?
 obj:∀k o,X.aV.get k=some o->∃id c,E k=some (id,c)/\lT P E o w.heap[id]? c/\(o.ro=false\/o.sp≠ .cells->B<=id)
 inj:∀k b6 o o' id c a4,X.aV.get k=some o->X.aV.get b6=some o'->E k=some (id,c)->E b6=some (id,a4)->k=b6
 fresh:∀k,X.next<=k->E k=none
 ny:∀g,g<X.aO->∃c,E g=some (g,c)
 km:E.n<=X.next
section
variable{P:Program}{B:Nat}{aZ w:World}{X:al}{E:Env}
theorem bQ.drew(h:bQ P B aZ X E w):bQ P B aZ X E {w with drawn:=w.drawn+1}:=
 ⟨h.os,h.tape,h.output,h.base,h.gB,h.obj,h.inj,h.fresh,h.ny,h.km⟩
theorem bQ.same{af:al}(h:bQ P B aZ X E w)(h1:af.aV=X.aV)(h2:af.next=X.next)(h3:af.aO=X.aO):bQ P B aZ af E w:=
 ⟨h.os,h.tape,h.output,h.base,h.gB,by rw[h1];exact h.obj,by rw[h1];exact h.inj,by rw[h2];exact h.fresh,by rw[h3];exact h.ny,by rw[h2];exact h.km⟩
theorem bQ.lt(h:bQ P B aZ X E w){k:Nat}{o:bH}(ai:X.aV.get k=some o):k<X.next:=by
 obtain⟨id,c,he,_⟩:=h.obj k o ai;rcases Nat.lt_or_ge k X.next with h1|h1
 ·exact h1
 ·rw[h.fresh k h1] at he;cases he
theorem bH.yI{o:bH}{j:Nat}{y:U}(h:o.get j=some y):j<o.n:=by
 unfold bH.get at h;cases ag:Nat.blt j o.n with
 |true=>exact Nat.blt_eq▸ag
 |false=>simp[ag] at h
theorem lT.cell{o:bH}{id c j:Nat}{y:U}(h:lT P E o w.heap[id]? c)(aa:o.get j=some y):
 ∃v,w.cell? ⟨id,j,none⟩=some v/\Den E y v:=by
 rcases h with⟨_,cs,ty,lo,hi,h0,h1,_⟩|⟨_,h,_⟩
 rotate_left
 ·have:=bH.yI aa;omega
 obtain⟨v,hv,aI⟩:=h1 j y aa;exact⟨v,by simp[World.cell?,h0,hv],aI⟩
def Env.put(E:Env)(k id c:Nat):Env:={f:=λj=>if j=k then some (id,c) else E j,n:=E.n}
theorem Env.rv(E:Env){k j:Nat}(id c:Nat)(h:j≠k):E.put k id c j=E j:=if_neg h
theorem Env.l5(E:Env)(k id c:Nat):E.put k id c k=some (id,c):=if_pos rfl
theorem Env.X2{E:Env}{k id c:Nat}(h:E k=none):Sub E (E.put k id c):=λj x ax=>by
 by_cases e:j=k
 ·subst e;rw[h] at ax;cases ax
 ·rw[Env.rv E id c e];exact ax
theorem Env.sy{E:Env}{k id c:Nat}(h:E k=none)(aR:E.n<=k):cQ E (E.put k id c):=⟨rfl,Env.X2 h,λj aa=>Env.rv E id c (by omega)⟩
theorem bQ.J2(h:bQ P B aZ X E w)(o:bH)(ob:Obj)(c:Nat)
 (fH:∀aW,cQ E aW->lT P aW o (some ob) c):
 bQ P B aZ (X.new o).2 (E.put X.next w.heap.size c) (w.alloc ob):=by
 have hle:cQ E (E.put X.next w.heap.size c):=Env.sy (h.fresh _ (Nat.le_refl _)) h.km
 have y5:∀k o',X.aV.get k=some o'->∀id a4,E k=some (id,a4)->id<w.heap.size:=by
  intro k o' ai id a4 he;obtain⟨il,aGn,fS,Rc,_⟩:=h.obj k o' ai;obtain⟨_,oi⟩:=Rc.there;rw[he] at fS;cases fS;rcases Nat.lt_or_ge id w.heap.size with h1|h1
  ·exact h1
  ·rw[Array.getElem?_eq_none h1] at oi;cases oi
 have hold:∀k,k<w.heap.size->(w.alloc ob).heap[k]?=w.heap[k]?:=λk ai=>by
  show(w.heap.push _)[k]?=_;rw[Array.getElem?_push,if_neg (by omega)]
 have aqb:(w.alloc ob).heap[w.heap.size]?=some ob:=by
  show(w.heap.push _)[w.heap.size]?=_;simp
 have aE:∀k,k≠X.next->(E.put X.next w.heap.size c) k=E k:=λk ai=>Env.rv E _ _ ai
 refine⟨h.os,h.tape,h.output,by simp;have:=h.base;omega,λk ai=>?_,λk o' ai=>?_,λk b6 dv cy id aP a1 ai cO he fS=>?_,λk ai=>?_,λg bc=>let ⟨c,ae⟩:=h.ny g bc;⟨c,hle.sub _ _ ae⟩,Nat.le_succ_of_le h.km⟩
 ·rw[hold k (by have:=h.base;omega)];exact h.gB k ai
 ·rcases cE.iM ai with⟨e,aq⟩|⟨e,aq⟩
  ·subst e;subst aq;exact⟨w.heap.size,c,Env.l5 _ _ _ _,by rw[aqb];exact fH _ hle,λ_=>h.base⟩
  ·obtain⟨id,a4,he,aQ,ag⟩:=h.obj k o' aq;exact⟨id,a4,hle.sub _ _ he,by rw[hold id (y5 k o' aq id a4 he)];exact aQ.mono hle,ag⟩
 ·rcases cE.iM ai with⟨e,_⟩|⟨e,aq⟩<;>rcases cE.iM cO with⟨bd,_⟩|⟨bd,gz⟩
  ·rw[e,bd]
  ·subst e;rw[Env.l5] at he;cases he;rw[aE _ bd] at fS
   have:=y5 b6 cy gz _ _ fS
   omega
  ·subst bd;rw[Env.l5] at fS;cases fS;rw[aE _ e] at he
   have:=y5 k dv aq _ _ he
   omega
  ·rw[aE _ e] at he;rw[aE _ bd] at fS;exact h.inj k b6 dv cy id aP a1 aq gz he fS
 ·have cO:X.next+1<=k:=ai
  rw[aE k (by omega)];exact h.fresh k (by omega)
theorem bQ.new(h:bQ P B aZ X E w)(o:bH)(cs:Array Value)(c lo hi:Nat)(_hro:o.ro=false)(wR:o.sp= .cells)
 (fH:∀aW,cQ E aW->MR aW o (some (.cells cs o.ty (lo,hi))) c):
 bQ P B aZ (X.new o).2 (E.put X.next w.heap.size c) (w.alloc (.cells cs o.ty (lo,hi))):=h.J2 o _ c λaW hle=> .inl ⟨wR,fH aW hle⟩
def Good(P:Program)(B:Nat)(aZ:World)(E:Env)(w:World)(s:Sem Value)(y:U)(af:al):Prop:=
 ∃aW v w',cQ E aW/\s.run P w= .ok v w'/\Den aW y v/\bQ P B aZ af aW w'
theorem Good.pure{s:Sem Value}{y:U}{v:Value}(aE:bQ P B aZ X E w)(aQ:s.run P w= .ok v w)(aI:Den E y v):Good P B aZ E w s y X:=
 ⟨E,v,w,cQ.refl _,aQ,aI,aE⟩
theorem RS{ty:TypeId}{ys:List U}{vs:List Value}(aE:bQ P B aZ X E w)(hv:cg E ys vs):
 ∃aW,cQ E aW/\aW (newRow X ty ys).1=some (w.heap.size,0)/\bQ P B aZ (newRow X ty ys).2 aW (w.alloc (.cells vs.toArray ty))/\(Go.newRow ty vs.toArray).run P w= .ok ⟨w.heap.size,0,none⟩ (w.alloc (.cells vs.toArray ty)):=by
 unfold Xe.newRow;rw[force_eq];refine⟨E.put X.next w.heap.size 0,Env.sy (aE.fresh _ (Nat.le_refl _)) aE.km,Env.l5 _ _ _ _,aE.new _ vs.toArray 0 0 0 rfl rfl λaW hle=>?_,rfl⟩;refine⟨vs.toArray,_,0,0,rfl,λj y aa=>?_,λ_=>⟨rfl,.inl rfl,by simp[hv.length],λ_=>by simp[hv.length],λh=>by cases h⟩⟩;have a9:=bH.yI aa;unfold bH.get at aa;have ag:Nat.blt j ys.length=true:=by rw[Nat.blt_eq];exact a9
 simp only[ag,cond_true] at aa;cases aq:(qo ys).get j with
 |none=>simp[aq] at aa
 |some z=>
  simp only[aq] at aa;cases aa;obtain⟨v,h1,h2⟩:=(hv.mono hle).get j _ (I9 _ _ _ aq);exact⟨v,by simpa using h1,h2⟩
def cX(X:al):Prop:=∀p∈X.pc,p
theorem uX{X af:al}{y:U}{b:Bool}(h:hs X y=some (b,af)):(cX af->cX X/\∀E v,Den E y v->v= .bool b)/\af.aV=X.aV/\af.next=X.next/\af.aO=X.aO:=by
 cases y with
 |bool c=>
  simp only[hs,Option.some.injEq,Prod.mk.injEq] at h;obtain⟨rfl,rfl⟩:=h;exact⟨λaB=>⟨aB,λE v hv=>hv⟩,rfl,rfl,rfl⟩
 |val x=>
  cases x with
  |bool s=>
   simp only[hs,al.ask] at h;split at h
   ·rename_i o os aq;simp only[Option.some.injEq,Prod.mk.injEq] at h;obtain⟨rfl,rfl⟩:=h;refine⟨λaB=>⟨λp h=>aB p (List.mem_cons_of_mem _ h),λE v hv=>?_⟩,rfl,rfl,rfl⟩;have e:s=o:=aB (s=o) (List.mem_cons_self ..);have eJ:v= .bool s:=hv;rw[eJ,e]
   ·cases h
  |_=>simp[hs] at h
 |_=>simp[hs] at h
theorem ZF{X af:al}{y:U}{b want:Bool}(h:mW X want y=some (b,af)):(cX af->cX X/\∀E v,Den E y v->(∃c,v= .bool c/\(c==want)=b)\/(∃a,v= .tuple a/\b=false))/\af.aV=X.aV/\af.next=X.next/\af.aO=X.aO:=by
 unfold mW at h;cases aN:ua y with
 |true=>
  simp only[aN,cond_true,Option.some.injEq,Prod.mk.injEq] at h;obtain⟨rfl,rfl⟩:=h;refine⟨λaB=>⟨aB,λE v hv=> .inr ?_⟩,rfl,rfl,rfl⟩;unfold ua at aN;split at aN<;>try(cases aN;done)
  exact⟨_,hv,rfl⟩
 |false=>
  simp only[aN,cond_false] at h;split at h<;>try(cases h;done)
  rename_i b' X1 ag;cases h;obtain⟨h1,h2,h3,aT⟩:=uX ag;exact⟨λaB=>⟨(h1 aB).1,λE v hv=> .inl ⟨b',(h1 aB).2 E v hv,rfl⟩⟩,h2,h3,aT⟩
end
section
variable{P:Program}{B:Nat}{aZ w:World}{X:al}{E:Env}
theorem jn{t:TypeId}{n:Nat}(h:eg P t=some n)(w:World):(sizeOf t).run P w= .ok n w:=by
 unfold eg at h;split at h<;>simp at h
 rename_i i hi;subst h;simp[sizeOf,typeInfo,hi]
theorem Mc{t:TypeId}{n:Nat}(h:oG P t=some n)(w:World):∃i,(typeInfo t).run P w= .ok i w/\i.bytes=n:=by
 unfold oG at h;split at h<;>simp at h
 rename_i i hi;exact⟨i,by simp[typeInfo,hi],h⟩
theorem z7{t:TypeId}{z:Value}(h:gC P t=some z)(w:World):(zeroValue t).run P w= .ok z w:=by
 unfold gC at h;split at h<;>try(cases h;done)
 rename_i i hi;simp[zeroValue,typeInfo,hi,h]
theorem Mb{t:TypeId}{b:Bool}(h:rG P t=some b)(w:World):(isAgg t).run P w= .ok b w:=by
 unfold rG at h;unfold isAgg;rw[Sem.run_bind];split at h<;>simp only[Option.some.injEq,reduceCtorEq] at h
 ·rename_i gb hu;subst h;simp[underlying,hu]
 ·rename_i n e hu;subst h;simp[underlying,hu]
 ·rename_i d zb fG hu;subst h;simp only[underlying,Sem.run_bind,run_program,Result.andThen_ok,hu,Sem.run_pure]
  all_goals (split<;>first|exact absurd rfl (zb _)|exact absurd rfl (fG _ _)|rfl)
theorem eb{t:TypeId}{d:TypeDesc}(h:P.underlying t=some d)(w:World):(underlying t).run P w= .ok d w:=by
 simp[underlying,h]
theorem EN{o:bH}{id c:Nat}(aQ:lT P E o w.heap[id]? c):∀(n off:Nat) (ys:List U),kG o off n=some ys->
 ∃vs,cg E ys vs/\vs.length=n/\∀j v,vs[j]?=some v->w.cell? ⟨id,off+j,none⟩=some v
 |0,off,ys,h=>by simp[kG] at h;subst h;exact⟨[],rfl,rfl,λj v aa=>by simp at aa⟩
 |n+1,off,ys,h=>by
  simp only[kG] at h;split at h<;>try(simp at h;done)
  rename_i y bb;split at h<;>try(simp at h;done)
  rename_i vO eU;simp at h;subst h;obtain⟨vs,h1,h2,h3⟩:=EN aQ n (off+1) vO eU;obtain⟨v,hv,aI⟩:=aQ.cell bb;refine⟨v::vs,⟨v,vs,aI,h1,rfl⟩,by simp[h2],λj u aa=>?_⟩;cases j with
  |zero=>simp at aa;subst aa;exact hv
  |succ j=>simp at aa;have:=h3 j u aa;rwa[show off+1+j=off+(j+1) by omega] at this
theorem ae8(aE:bQ P B aZ X E w){t:TypeId}{k off:Nat}{y:U}(h:rD P t X k off=some y){id c:Nat}(ai:E k=some (id,c)):
 ∃v,(loadVar t ⟨id,off,none⟩).run P w= .ok v w/\Den E y v:=by
 unfold rD at h;split at h
 ·rename_i o n aq bV ak;obtain⟨il,a4,cO,aQ,_⟩:=aE.obj k o aq;rw[ai] at cO;cases cO;split at h<;>simp at h
  rename_i ys eU;subst h;obtain⟨vs,h1,h2,h3⟩:=EN aQ n off ys eU;refine⟨.agg vs.toArray,?_,vs,h1,rfl⟩
  have:=run_loadCells_list (P:=P) (w:=w) ⟨id,off,none⟩ vs (λj v aa=>by rw[Addr.add_lit];exact h3 j v aa)
  rw[h2] at this;simp[loadVar,Mb bV,jn ak,this]
 ·rename_i o n aq bV ak;obtain⟨il,a4,cO,aQ,_⟩:=aE.obj k o aq;rw[ai] at cO;cases cO;obtain⟨v,hv,aI⟩:=aQ.cell h;exact⟨v,by simp[loadVar,Mb bV,hv],aI⟩
 ·cases h
theorem XX(P:Program)(id off:Nat)(ty:TypeId)(lo hi:Nat):∀(vs:List Value) (i:Nat) (w:World) (cs:Array Value),w.heap[id]?=some (.cells cs ty (lo,hi))->
 (∀v∈vs,v.oneCell'=true)->(∀j,j<vs.length->off+i+j<cs.size/\(decide (lo<=off+i+j)&&decide (off+i+j<hi))=false)->
 ∃w' nv,(storeCells ⟨id,off,none⟩ vs i).run P w= .ok () w'/\w'.os=w.os/\w'.tape=w.tape/\w'.output=w.output/\w'.heap.size=w.heap.size/\(∀k,k≠id->w'.heap[k]?=w.heap[k]?)/\
  w'.heap[id]?=some (.cells nv ty (lo,hi))/\nv.size=cs.size/\(∀j,nv[j]?=if off+i<=j/\j<off+i+vs.length then vs[j-(off+i)]? else cs[j]?)
 | [],i,w,cs,ag,_,_=>⟨w,cs,rfl,rfl,rfl,rfl,rfl,λ_ _=>rfl,ag,rfl,λj=>by rw[if_neg (by simp only[List.length_nil];omega)]⟩
 |v::vs,i,w,cs,ag,h1,h2=>by
  obtain⟨a9,o8⟩:=h2 0 (by simp);simp only[Nat.add_zero] at a9 o8;have ae:w.cell? ⟨id,off+i,none⟩=some cs[off+i]:=by simp[World.cell?,ag,a9]
  have au:w.frozen? ⟨id,off+i,none⟩=false:=by simp only[World.frozen?,ag];exact o8
  have iP:(w.setCell ⟨id,off+i,none⟩ v).heap[id]?=some (.cells (cs.setIfInBounds (off+i) v) ty (lo,hi)):=by
   simp[World.setCell,Array.getElem?_modify,ag]
  obtain⟨w',nv,aQ,aq,aN,sk,dP,vg,ka,en,tL⟩:=XX P id off ty lo hi vs (i+1) (w.setCell ⟨id,off+i,none⟩ v) (cs.setIfInBounds (off+i) v) iP
   (λu hu=>h1 u (List.mem_cons_of_mem _ hu)) (λj aa=>by
     have:=h2 (j+1) (by simp;omega)
     rw[show off+(i+1)+j=off+i+(j+1) by omega]
     simpa using this)
  refine⟨w',nv,?_,aq.trans rfl,aN.trans rfl,sk.trans rfl,dP.trans (by simp),λk ai=>(vg k ai).trans ?_,ka,by simpa using en,λj=>?_⟩
  ·simp only[storeCells,Sem.run_bind,Addr.add_lit];rw[run_store P w _ v .plain (h1 v (List.mem_cons_self ..)),ae,au];simpa using aQ
  ·simp only[World.setCell,Array.getElem?_modify];rw[if_neg (by simpa using λe=>ai e.symm)]
  ·rw[tL j];by_cases e:j=off+i
   ·subst e;rw[if_neg (by omega),if_pos (by simp)];simp[a9]
   ·by_cases jj:off+(i+1)<=j/\j<off+(i+1)+vs.length
    ·rw[if_pos jj,if_pos (by simp;omega),show j-(off+i)=(j-(off+(i+1)))+1 by omega];simp
    ·rw[if_neg jj,if_neg (by simp;omega)];simp[Array.getElem?_setIfInBounds_ne (λh=>e h.symm)]
theorem Ol:∀{ys:List U} {vs:List Value},cg E ys vs->dB ys=true->∀v∈vs,v.oneCell'=true
 | [],_,h,_=>by cases h;simp
 |y::ys,_,⟨v,vs,hv,h,e⟩,h1=>by
  subst e;simp only[dB,Bool.and_eq_true] at h1;intro u hu;rcases List.mem_cons.1 hu with rfl|hu
  ·exact anj hv h1.1
  ·exact Ol h h1.2 u hu
theorem aoe{y:U}(h:dB y.cells=true):∀x,y≠ .val (.agg x):=λx e=>by
 subst e;simp[U.cells,dB,U.one] at h
theorem bQ.stored(aE:bQ P B aZ X E w){k id c:Nat}{o:bH}(aq:X.aV.get k=some o)(ai:E k=some (id,c))(iR:o.ro=false){off:Nat}{ys:List U}{vs:List Value}
 (hv:cg E ys vs)(h1:dB ys=true)(hlen:off+ys.length<=o.n)(Q:Program):
 ∃w',(storeCells ⟨id,off,none⟩ vs 0).run Q w= .ok () w'/\bQ P B aZ {X with aV:=X.aV.put k {o with cq:=o.cq+1,fL:=hl o.fL off ys}} E w':=by
 obtain⟨il,a4,cO,fH,sc⟩:=aE.obj k o aq;obtain⟨wR,cs,ty,lo,hi,ag,ae,zf⟩:=fH.cs iR;rw[ai] at cO;cases cO;obtain⟨tV,o8,aR,o9,kX⟩:=zf iR;subst tV;have Bn:=hv.length;obtain⟨w',nv,aQ,Q9,aN,sk,dP,vg,ka,en,tL⟩:=XX Q id off o.ty lo hi vs 0 w cs ag (Ol hv h1) (λj aa=>⟨by omega,by rcases o8 with e|e<;>simp<;>omega⟩);refine⟨w',aQ,Q9.trans aE.os,aN.trans aE.tape,sk.trans aE.output,by rw[dP];exact aE.base,λb6 cO=>?_,λb6 o' cO=>?_,λk1 k2 dv cy i aP a1 aeb Bm apC yT=>?_,aE.fresh,aE.ny,aE.km⟩
 ·have:=sc (.inl iR)
  rw[vg b6 (by omega)];exact aE.gB b6 cO
 ·rcases cE.iM cO with⟨e,ay⟩|⟨e,gz⟩
  ·subst e;subst ay;refine⟨id,c,ai,.inl ⟨wR,nv,_,lo,hi,ka,λj y aa=>?_,λ_=>⟨rfl,by rw[en];exact o8,by simpa[en] using aR,λh=>by rw[en];exact o9 h,λh=>by rw[en];exact kX h⟩⟩,sc⟩;have Bk:j<o.n:=bH.yI (o:={o with cq:=o.cq+1,fL:=hl o.fL off ys}) aa;have oa:Nat.blt j o.n=true:=by rw[Nat.blt_eq];exact Bk
   rw[tL j];simp only[Nat.add_zero];unfold bH.get at aa;simp only[oa,cond_true] at aa;rw[yJ ys o.fL off j] at aa;by_cases jj:off<=j/\j<off+ys.length
   ·rw[if_pos jj] at aa;rw[if_pos (by omega)];cases bb:ys[j-off]? with
    |none=>rw[List.getElem?_eq_none_iff] at bb;omega
    |some z=>
     simp only[bb] at aa;cases aa;exact hv.get _ _ bb
   ·rw[if_neg jj] at aa;rw[if_neg (by omega)];exact ae j y (by unfold bH.get;simp[oa];exact aa)
  ·obtain⟨i,a4,he,fH,yP⟩:=aE.obj b6 o' gz;have ca:i≠id:=λay=>e (aE.inj b6 k o' o i a4 c gz aq he (by rw[ai,ay]))
   exact⟨i,a4,he,by rw[vg i ca];exact fH,yP⟩
 ·have f1:∃ER,X.aV.get k1=some ER:=by
   rcases cE.iM aeb with⟨e,_⟩|⟨_,h⟩
   ·exact⟨o,e▸aq⟩
   ·exact⟨_,h⟩
  have f2:∃ES,X.aV.get k2=some ES:=by
   rcases cE.iM Bm with⟨e,_⟩|⟨_,h⟩
   ·exact⟨o,e▸aq⟩
   ·exact⟨_,h⟩
  obtain⟨ER,j9⟩:=f1;obtain⟨ES,kA⟩:=f2;exact aE.inj k1 k2 ER ES i aP a1 j9 kA apC yT
end
section
variable{P:Program}{B:Nat}{aZ w:World}{X:al}{E:Env}
theorem aoi(new:List Value):∀(off:Nat) (cs:Array Value) (i:Nat),off+i+new.length<=cs.size->
 ((new.zipIdx i).foldl (λ(cs:Array Value) (x:Value×Nat)=>cs.setIfInBounds (off+x.2) x.1) cs).toList=cs.toList.take (off+i)++new++cs.toList.drop (off+i+new.length):=by
 induction new with
 |nil=>intro off cs i h;simp
 |cons v new bp=>
  intro off cs i h;simp only[List.length_cons] at h;simp only[List.zipIdx_cons,List.foldl_cons];rw[bp off _ (i+1) (by simp;omega)];have a9:off+i<cs.toList.length:=by simp;omega
  simp only[Array.toList_setIfInBounds];rw[show off+(i+1)=off+i+1 by omega];rw[List.take_succ_eq_append_getElem (by simpa using a9)];rw[List.take_set_of_le (by omega),List.getElem_set_self];rw[List.drop_set_of_lt (by omega)];simp[Nat.add_assoc,Nat.add_comm 1]
theorem Ib{place:Nat->Option (Nat×Nat)}:∀(hy:List Nat) (ys:List U) (vs:List Value) (cells:List U) (fv:Array Value) (cs:List U),cg E ys vs->cg E cells fv.toList->
 oX place cells (hy.zip ys)=some cs->∃HK,Instr.fill place fv (hy.zip vs)=some HK/\cg E cs HK.toList
 | [],ys,vs,cells,fv,cs,hv,ae,h=>by
   simp[oX] at h;subst h;exact⟨fv,by simp[Instr.fill],ae⟩
 |i::hy,[],vs,cells,fv,cs,hv,ae,h=>by
  cases hv;simp[oX] at h;subst h;exact⟨fv,by simp[Instr.fill],ae⟩
 |i::hy,y::ys,_,cells,fv,cs,⟨v,vs,bb,hv,e⟩,ae,h=>by
  subst e;simp only[List.zip_cons_cons,oX] at h;cases aB:place i with
  |none=>simp[aB] at h
  |some os=>
   obtain⟨off,size⟩:=os;simp only[aB] at h;cases au:y.flat with
   |false=>simp[au] at h
   |true=>
    cases h1:Nat.beq y.cells.length size with
    |false=>simp[au,h1] at h
    |true=>
     cases h2:Nat.ble (off+size) cells.length with
     |false=>simp[au,h1,h2] at h
     |true=>
      simp only[au,h1,h2,Bool.and_self,cond_true] at h;have j9:=Nat.eq_of_beq_eq_true h1;have kA:=Nat.le_of_ble_eq_true h2;have D5:∀x,y≠ .val (.agg x):=λx e=>by subst e;simp[U.flat] at au
      have Rq:=HO bb D5;have o9:=Rq.length;have kX:=ae.length;simp only[Array.length_toList] at o9 kX
      have wZ:(v.cells.zipIdx.foldl (λ(cs:Array Value) (x:Value×Nat)=>cs.setIfInBounds (off+x.2) x.1) fv).toList=fv.toList.take off++v.cells.toList++fv.toList.drop (off+v.cells.toList.length):=by
       rw[<- Array.foldl_toList,Array.toList_zipIdx]
       have:=aoi v.cells.toList off fv 0 (by simp;omega)
       simpa using this
      have aI:cg E (F5 cells off y.cells) (v.cells.zipIdx.foldl (λ(cs:Array Value) (x:Value×Nat)=>cs.setIfInBounds (off+x.2) x.1) fv).toList:=by
       rw[wZ];unfold F5
       have:=(cg.take off ae).append Rq
       refine this.append ?_;rw[Rq.length];exact cg.drop _ ae
      obtain⟨HK,yU,o6⟩:=Ib hy ys vs _ _ cs hv aI h;refine⟨HK,?_,o6⟩;simp only[List.zip_cons_cons,Instr.fill,aB];rw[if_neg]
      ·exact yU
      ·simp;omega
theorem aaA{z:List U}{uL:List Value}(h:cg E z uL):∀n,cg E (rB z n) (List.replicate n uL).flatten
 |0=>by simp[rB,cg]
 |n+1=>by simp only[rB,List.replicate_succ,List.flatten_cons];exact h.append (aaA h n)
theorem aBf(uL:Array Value)(n:Nat):((Array.range (n*uL.size)).map (uL[· %uL.size]!)).toList=(List.replicate n uL.toList).flatten:=by
 induction n with
 |zero=>simp
 |succ n bp=>
  rw[List.replicate_succ',List.flatten_append, <- bp];simp only[List.flatten_singleton,Array.toList_map,Array.toList_range];rw[show(n+1)*uL.size=n*uL.size+uL.size by rw[Nat.add_mul];omega,List.range_add,List.map_append];congr 1;apply List.ext_getElem
  ·simp
  ·intro i h1 h2;simp at h1 h2⊢;rw[Nat.mod_eq_of_lt (by omega)];simp[*]
theorem w7(z:Value):cg E (c1 z).cells z.cells.toList:=HO (aaB E z) (λx e=>by cases z<;>simp[c1] at e)
theorem akU(aE:bQ P B aZ X E w){e:TypeId}{y:U}{af:al}(h:qg P e X=some (y,af)):Good P B aZ E w (Instr.alloc e true (.tuple #[])) y af:=by
 unfold qg at h;split at h<;>simp at h
 rename_i z aX;obtain⟨rfl,rfl⟩:=h;obtain⟨aW,hle,ai,et,gg⟩:=RS (P:=P) (ty:=e) aE (w7 (E:=E) z);refine⟨aW,.pointer (some ⟨w.heap.size,0,none⟩),_,hle,?_,⟨_,_,ai,rfl⟩,et⟩;have Br:(Go.newRow e z.cells).run P w= .ok ⟨w.heap.size,0,none⟩ (w.alloc (.cells z.cells.toList.toArray e)):=by simpa using gg
 simp[Instr.alloc,z7 aX,newVar,Br]
theorem alQ(aE:bQ P B aZ X E w){e:TypeId}{x y:U}{v:Value}{af:al}(ax:Den E x v)(h:qi e x X=some (y,af)):Good P B aZ E w (Instr.box e v) y af:=by
 unfold qi at h;cases au:x.flat with
 |false=>simp[au] at h
 |true=>
  simp only[au,cond_true,Option.some.injEq,Prod.mk.injEq] at h;obtain⟨rfl,rfl⟩:=h;have D5:∀z,x≠ .val (.agg z):=λz e=>by subst e;simp[U.flat] at au
  obtain⟨aW,hle,ai,et,gg⟩:=RS (P:=P) (ty:=e) aE (HO ax D5);refine⟨aW,.pointer (some ⟨w.heap.size,0,none⟩),_,hle,?_,⟨_,_,ai,rfl⟩,et⟩;have Br:(Go.newRow e v.cells).run P w= .ok ⟨w.heap.size,0,none⟩ (w.alloc (.cells v.cells.toList.toArray e)):=by simpa using gg
  simp[Instr.box,newVar,Br]
theorem Yv(ps:Array (Nat×Operand))(lP:Operand->Value):(ps.toList.map (·.1)).zip (ps.toList.map λp=>lP p.2)=(ps.map λ(i,x)=>(i,lP x)).toList:=by
 simp only[Array.toList_map];generalize ps.toList=l
 induction l with
 |nil=>rfl
 |cons p l bp=>simp[bp]
theorem alS(aE:bQ P B aZ X E w){t:TypeId}{ps:Array (Nat×Operand)}{lP:Operand->Value}{ys:List U}{y:U}(hv:cg E ys (ps.toList.map λp=>lP p.2))
 (h:gM P t (ps.toList.map (·.1)) ys=some y):Good P B aZ E w (Instr.build t (ps.map λ(i,x)=>(i,lP x))) y X:=by
 unfold gM at h;split at h<;>try(cases h;done)
 rename_i z aX;split at h
 ·rename_i gb hu;split at h<;>try(cases h;done)
  rename_i pl iQ;split at h<;>try(cases h;done)
  rename_i cs yU;simp only[Option.some.injEq] at h;subst h;obtain⟨fv,au,aI⟩:=Ib (E:=E) (ps.toList.map (·.1)) ys _ _ _ cs hv (w7 z) yU;rw[Yv] at au;refine Good.pure aE (v:= .agg fv) ?_ ⟨fv.toList,aI,by simp⟩;simp only[Array.toList_map] at au;simp[Instr.build,z7 aX,eb hu,Array.mapM_eq_mapM_toList,run_places w _ _ iQ,au]
 ·rename_i n e hu;split at h<;>try(cases h;done)
  rename_i s ak;split at h<;>try(cases h;done)
  rename_i cs yU;simp only[Option.some.injEq] at h;subst h;obtain⟨fv,au,aI⟩:=Ib (E:=E) (ps.toList.map (·.1)) ys _ _ _ cs hv (w7 z) yU;rw[Yv] at au;refine Good.pure aE (v:= .agg fv) ?_ ⟨fv.toList,aI,by simp⟩;simp only[Array.toList_map] at au;simp[Instr.build,z7 aX,eb hu,jn ak,au]
 ·cases h
end
section
variable{P:Program}{B:Nat}{aZ w:World}{X:al}{E:Env}
theorem alR(aE:bQ P B aZ X E w){t:TypeId}{len:Nat}{ps:Array (Nat×Operand)}{lP:Operand->Value}{ys:List U}{y:U}{af:al}(hv:cg E ys (ps.toList.map λp=>lP p.2))
 (h:oD P t len (ps.toList.map (·.1)) ys X=some (y,af)):Good P B aZ E w (Instr.buildSlice t len (ps.map λ(i,x)=>(i,lP x))) y af:=by
 unfold oD at h;split at h<;>try(cases h;done)
 rename_i e hu;split at h<;>try(cases h;done)
 rename_i s z ak aX;cases h1:Nat.ble (len*s) 65536 with
 |false=>simp[h1] at h
 |true=>
 cases h2:Nat.ble 1 s with
 |false=>simp[h1,h2] at h
 |true=>
 cases h3:Nat.beq (c1 z).cells.length s with
 |false=>simp[h1,h2,h3] at h
 |true=>
 simp only[h1,h2,h3,Bool.and_self,cond_true] at h;have j9:=Nat.le_of_ble_eq_true h1;have kA:=Nat.le_of_ble_eq_true h2;have qS:=Nat.eq_of_beq_eq_true h3;split at h<;>try(cases h;done)
 rename_i cs yU;simp only[Option.some.injEq,Prod.mk.injEq] at h;obtain⟨rfl,rfl⟩:=h;have oq:=w7 (E:=E) z;have ff:=oq.length;simp only[Array.length_toList] at ff
 have o5:cg E (rB (c1 z).cells len) ((Array.range (len*s)).map (z.cells[· %z.cells.size]!)).toList:=by
  rw[show len*s=len*z.cells.size by rw[ff,qS],aBf];exact aaA oq len
 obtain⟨fv,au,aI⟩:=Ib (E:=E) (ps.toList.map (·.1)) ys _ _ _ cs hv o5 yU;rw[Yv] at au;simp only[Array.toList_map] at au;obtain⟨aW,hle,ai,et,gg⟩:=RS (P:=P) (ty:=e) aE aI;refine⟨aW,.slice (some ⟨w.heap.size,0,none⟩) len len,_,hle,?_,⟨_,_,ai,rfl⟩,et⟩;have Br:(Go.newRow e fv).run P w= .ok ⟨w.heap.size,0,none⟩ (w.alloc (.cells fv.toList.toArray e)):=by simpa using gg
 unfold Instr.buildSlice;by_cases h0:len*s=0
 ·have hlen:len=0:=by
   rcases Nat.mul_eq_zero.1 h0 with h|h
   ·exact h
   ·omega
  subst hlen;have Jp:Instr.fill (λi=>some (i*s,s)) #[] (ps.toList.map λa=>(a.1,lP a.2))=some fv:=by simpa[Array.range_zero'] using au
  simp[eb hu,jn ak,Jp,Br,Array.range_zero']
 ·simp only[Sem.run_bind,eb hu,jn ak,Result.andThen_ok];rw[if_neg (by omega),if_neg h0];simp[z7 aX,au,Br]
theorem ar4{ty:TypeId}{z:Value}{s n:Nat}(aE:bQ P B aZ X E w)(ak:(c1 z).cells.length=s)(kD:1<=s):
 ∃aW,cQ E aW/\aW (nh X ty (n*s) (c1 z).cells).1=some (w.heap.size,0)/\
  bQ P B aZ (nh X ty (n*s) (c1 z).cells).2 aW (w.alloc (.cells ((Array.range (n*s)).map (z.cells[· %z.cells.size]!)) ty)):=by
 unfold nh;rw[force_eq];have ff:z.cells.size=s:=by have:=(w7 (E:=E) z).length;simpa[ak] using this
 refine⟨E.put X.next w.heap.size 0,Env.sy (aE.fresh _ (Nat.le_refl _)) aE.km,Env.l5 _ _ _ _,aE.new _ _ 0 0 0 rfl rfl λaW hle=>?_⟩;refine⟨_,_,0,0,rfl,λj y aa=>?_,λ_=>⟨rfl,.inl rfl,by simp,λ_=>by simp,λh=>by cases h⟩⟩;have a9:=bH.yI aa;unfold bH.get at aa;have ag:Nat.blt j (n*s)=true:=by rw[Nat.blt_eq];exact a9
 simp only[ag,cond_true,get_nil] at aa;obtain⟨v,h1,h2⟩:=((w7 (E:=E) z).mono hle).get _ _ (I9 _ _ _ aa);refine⟨v,?_,h2⟩;have Q4:j<n*s:=a9;rw[ak] at h1;have hm:j%s<s:=Nat.mod_lt _ (by omega);simp only[Array.getElem?_toList] at h1;rw[Array.getElem?_map,Array.getElem?_range];simp only[Q4,if_true,Option.map_some,ff];rw[<- h1,getElem!_def,h1]
theorem zB{y:U}{n:Nat}(h:kl y=some n){v:Value}(hv:Den E y v):∃k,v= .int k n:=by
 unfold kl at h;split at h<;>simp at h
 subst h;exact⟨_,hv⟩
theorem wrap_small{n:Nat}(h:n<=140737488355328):IntKind.i64.wrap (n:Int)=n:=by
 unfold IntKind.wrap;have e:((2:Int) ^ 64)=18446744073709551616:=rfl;have bd:((2:Int) ^ (64-1))=9223372036854775808:=rfl;simp only[IntKind.bits,IntKind.signed,Bool.true_and,e,bd];rw[if_neg (by simp;omega)];omega
theorem arK(aE:bQ P B aZ X E w){t:TypeId}{l c y:U}{lv fv:Value}{af:al}(aJ:Den E l lv)(ae:Den E c fv)
 (h:qj P t l c X=some (y,af)):Good P B aZ E w (Instr.makeSlice t lv fv) y af:=by
 unfold qj at h;split at h<;>try(cases h;done)
 rename_i e hu;split at h<;>try(cases h;done)
 rename_i k5 dO Q2 apu;split at h<;>try(cases h;done)
 rename_i s z b ak aX ag;obtain⟨k1,rfl⟩:=zB Q2 aJ;obtain⟨k2,rfl⟩:=zB apu ae;cases h1:Nat.ble k5 dO with
 |false=>simp[h1] at h
 |true=>
 cases h2:Nat.ble (dO*b) 140737488355328 with
 |false=>simp[h1,h2] at h
 |true=>
 cases h3:Nat.ble dO 140737488355328 with
 |false=>simp[h1,h2,h3] at h
 |true=>
 cases aT:Nat.beq (c1 z).cells.length s with
 |false=>simp[h1,h2,h3,aT] at h
 |true=>
 cases bz:Nat.ble 1 s with
 |false=>simp[h1,h2,h3,aT,bz] at h
 |true=>
 simp only[h1,h2,h3,aT,bz,Bool.and_self,cond_true,Option.some.injEq,Prod.mk.injEq] at h;obtain⟨rfl,rfl⟩:=h;have j9:=Nat.le_of_ble_eq_true h1;have kA:=Nat.le_of_ble_eq_true h2;have qS:=Nat.le_of_ble_eq_true h3;have aoV:=Nat.eq_of_beq_eq_true aT;have aoZ:=Nat.le_of_ble_eq_true bz;obtain⟨aW,hle,ai,et⟩:=ar4 (ty:=e) (n:=dO) aE aoV aoZ;refine⟨aW,.slice (some ⟨w.heap.size,0,none⟩) k5 dO,_,hle,?_,⟨_,_,ai,rfl⟩,et⟩;obtain⟨i,hi,Bj⟩:=Mc ag w;have apl:(b:Int)*(dO:Int)=((dO*b:Nat):Int):=by rw[Nat.mul_comm];simp
 unfold Instr.makeSlice;simp only[Sem.run_bind,eb hu,Result.andThen_ok,asInt,asIntOf,Sem.run_pure,hi,wrap_small qS,wrap_small (Nat.le_trans j9 qS),Bj]
 have sh:¬((decide ((dO:Int)<0)||decide ((b:Int)*(dO:Int)>2 ^ 48))=true\/decide ((k5:Int)<0)=true\/decide ((k5:Int)>(dO:Int))=true):=by
  rw[apl];simp;omega
 rw[if_neg (by simp only[Bool.or_eq_true,decide_eq_true_eq] at sh⊢;omega)];have nb:∀cs,(Go.newRow e cs).run P w= .ok ⟨w.heap.size,0,none⟩ (w.alloc (.cells cs e)):=λ_=>rfl
 simp only[run_askRoom,Result.andThen_ok,Sem.run_bind,jn ak,Int.toNat_natCast];by_cases h0:dO*s=0
 ·have:dO=0:=by rcases Nat.mul_eq_zero.1 h0 with h|h<;>omega
  subst this;rw[if_pos h0];simp[nb,Array.range_zero']
 ·rw[if_neg h0];simp[z7 aX,nb]
end
section
variable{P:Program}{E:Env}{w:World}
def iH(P:Program)(E:Env)(w:World)(s:Sem Value)(y:U):Prop:=∃v,s.run P w= .ok v w/\Den E y v
theorem asc{x y:U}{v:Value}(ax:Den E x v)(h:ev x=some y):
 x=y/\((∃a,v= .pointer (some a))\/∃f a b,v= .func (.func f) a b):=by
 unfold ev at h;split at h<;>simp at h
 ·subst h;obtain⟨_,_,_,rfl⟩:=ax;exact⟨rfl,.inl ⟨_,rfl⟩⟩
 ·subst h;obtain⟨_,_,_,_,rfl⟩:=ax;exact⟨rfl,.inr ⟨_,_,_,rfl⟩⟩
theorem NV{op:BinOp}{k:IntKind}{a b:Int}{y:U}(t:TypeId)(h:arith op k a b=some y):iH P E w (binOp op t (.int k a) (.int k b)) y:=by
 unfold arith at h;split at h
 case h_4=>
  cases ag:(b==0) with
  |true=>simp[ag] at h
  |false=>
   simp only[ag,cond_false,fP,Option.some.injEq] at h;subst h;have iP:b≠0:=by simpa using ag
   exact⟨_,by simp[binOp_quo,Op.intDiv,iP],rfl⟩
 case h_5=>
  cases ag:(b==0) with
  |true=>simp[ag] at h
  |false=>
   simp only[ag,cond_false,fP,Option.some.injEq] at h;subst h;have iP:b≠0:=by simpa using ag
   exact⟨_,by simp[binOp_rem,Op.intDiv,iP],rfl⟩
 all_goals first
  |(simp only[fP,Option.some.injEq] at h;subst h;exact⟨_,by simp[binOp,Op.intArith,Op.intBits,Op.intCmp];rfl,rfl⟩)
  |(simp only[fP,Option.some.injEq] at h;subst h;exact⟨_,by simp[binOp,Op.intArith,Op.intBits,Op.intCmp],rfl⟩)
  |cases h
theorem NU{op:BinOp}{k:IntKind}{a b:Int}{y:U}(t:TypeId)(h:CV op k a b=some y):iH P E w (binOp op t (.int k a) (.int k b)) y:=by
 unfold CV at h;split at h
 all_goals first
  |(simp only[Option.some.injEq] at h;subst h;exact⟨_,by simp[binOp,Op.intArith,Op.intCmp];rfl,rfl⟩)
  |(simp only[Option.some.injEq] at h;subst h;exact⟨_,by simp[binOp,Op.intArith,Op.intCmp],rfl⟩)
  |cases h
theorem ain{op:BinOp}{k b6:IntKind}{a b:Int}{y:U}(t:TypeId)(p1:op= .shl\/op= .shr)(h:xy op k a b=some y):iH P E w (binOp op t (.int k a) (.int b6 b)) y:=by
 unfold xy at h;cases ag:decide (b<0) with
 |true=>simp[ag] at h
 |false=>
  have iP:¬b<0:=by simpa using ag
  simp only[ag,cond_false] at h;rcases p1 with rfl|rfl
  ·simp only[fP,Option.some.injEq] at h;subst h;exact⟨_,by rw[binOp_shl];simp[Op.shift,iP],rfl⟩
  ·simp only[fP,Option.some.injEq] at h;subst h;exact⟨_,by rw[binOp_shr];simp[Op.shift,iP],rfl⟩
theorem aq1{op:BinOp}{k b6:IntKind}{a b:Int}{y:U}(t:TypeId)(h:Bv op k a b6 b=some y):iH P E w (binOp op t (.int k a) (.int b6 b)) y:=by
 unfold Bv at h;split at h
 ·exact ain t (.inl rfl) h
 ·exact ain t (.inr rfl) h
 ·cases ai:(k==b6) with
  |false=>simp[ai] at h
  |true=>
   have:k=b6:=by simpa using ai
   subst this;simp only[ai,cond_true] at h;exact NV t h
theorem aDl{op:BinOp}{a b:ByteArray}{y:U}(t:TypeId)(h:XY op a b=some y):iH P E w (binOp op t (.string a) (.string b)) y:=by
 unfold XY at h;split at h
 ·cases ag:decide (((a.size+b.size:Nat):Int)>IntKind.i64.max) with
  |true=>simp only[ag,cond_true] at h;cases h
  |false=>
   simp only[ag,cond_false,Option.some.injEq] at h;subst h;have iP:=of_decide_eq_false ag;exact⟨_,by simp only[binOp,Op.stringOp];rw[if_neg iP];rfl,rfl⟩
 ·simp only[Option.some.injEq] at h;subst h;exact⟨_,by simp only[binOp,Op.stringOp];rfl,rfl⟩
 ·simp only[Option.some.injEq] at h;subst h;exact⟨_,by simp only[binOp,Op.stringOp];rfl,rfl⟩
 ·cases h
theorem XZ{op:BinOp}{a b:ByteArray}{y:U}(t:TypeId)(h:F9 op a b=some y):iH P E w (binOp op t (.string a) (.string b)) y:=by
 unfold F9 at h;split at h
 ·simp only[Option.some.injEq] at h;subst h;exact⟨_,by simp only[binOp,Op.stringOp];rfl,rfl⟩
 ·simp only[Option.some.injEq] at h;subst h;exact⟨_,by simp only[binOp,Op.stringOp];rfl,rfl⟩
 ·cases h
theorem C9{k off len:Nat}{cap:Option Nat}{lo:Nat}{u:Value}(h:Den E (.aF k off len cap lo) u):∃id c,u= .slice (some ⟨id,off,none⟩) len c:=by
 cases cap<;>(obtain⟨id,_,_,rfl⟩:=h;exact⟨id,_,rfl⟩)
theorem BY{t:TypeId}{cs:List U}{off:Nat}{z:U}{vs:List Value}(hv:cg E cs vs)(h:qb P t cs off=some z):iH P E w (part t vs.toArray off) z:=by
 unfold qb at h;split at h
 ·rename_i n bV ak;cases ag:Nat.ble (off+n) cs.length with
  |false=>simp[ag] at h
  |true=>
   simp only[ag,cond_true,Option.some.injEq] at h;subst h;have iP:=Nat.le_of_ble_eq_true ag;have aJ:=hv.length;refine⟨.agg (vs.toArray.extract off (off+n)),by simp[part,Mb bV,jn ak],(vs.drop off).take n,cg.take n (cg.drop off hv),?_⟩;simp
 ·rename_i n bV ak;obtain⟨v,h1,h2⟩:=hv.get _ _ h;exact⟨v,by simp[part,Mb bV,h1],h2⟩
 ·cases h
theorem anK{t:TypeId}{x y:U}{u v:Value}{b:Bool}(ax:Den E x u)(bb:Den E y v)(h:wA P t x y=some b)(d:Nat):(Op.equalIn (d+1) t u v).run P w= .ok b w:=by
 unfold wA at h;split at h<;>(try(cases h;done))<;>rename_i hu<;>simp only[Option.some.injEq] at h<;>subst h
 all_goals
  first
  |(have fT:u=_:=ax;have fy:v=_:=bb;subst fT;subst fy;simp[Op.equalIn,eb hu];done)
  |(have fT:u=_:=ax;obtain⟨_,_,_,rfl⟩:=bb;subst fT;simp[Op.equalIn,eb hu];done)
  |(obtain⟨_,_,_,rfl⟩:=ax;have fy:v=_:=bb;subst fy;simp[Op.equalIn,eb hu];done)
  |(have fT:u=_:=ax;obtain⟨_,_,_,_,rfl⟩:=bb;subst fT;simp[Op.equalIn,eb hu];done)
  |(obtain⟨_,_,_,_,rfl⟩:=ax;have fy:v=_:=bb;subst fy;simp[Op.equalIn,eb hu];done)
  |(have fT:u=_:=ax;obtain⟨_,_,rfl⟩:=bb;subst fT;simp[Op.equalIn,eb hu];done)
  |(obtain⟨_,_,rfl⟩:=ax;have fy:v=_:=bb;subst fy;simp[Op.equalIn,eb hu];done)
  |(obtain⟨_,_,rfl⟩:=C9 ax;have fy:v=_:=bb;subst fy;simp[Op.equalIn,eb hu];done)
  |(obtain⟨_,_,rfl⟩:=C9 bb;have fT:u=_:=ax;subst fT;simp[Op.equalIn,eb hu];done)
  |(obtain⟨_,_,_,_,_,rfl⟩:=ax;have fy:v=_:=bb;subst fy;simp[Op.equalIn,eb hu];done)
  |(obtain⟨_,_,_,_,_,rfl⟩:=bb;have fT:u=_:=ax;subst fT;simp[Op.equalIn,eb hu];done)
theorem OB{r:TypeId->U->U->Option Bool}{d:Nat}(aQ:∀(t:TypeId) (x y:U) (u v:Value) (b:Bool),Den E x u->Den E y v->r t x y=some b->(Op.equalIn d t u v).run P w= .ok b w)
 {xs ys:List U}{us vs:List Value}(ax:cg E xs us)(bb:cg E ys vs):∀(gb:List Field) (b:Bool),AU P r xs ys gb=some b->(Op.eqFields d us.toArray vs.toArray gb).run P w= .ok b w
 | [],b,h=>by simp[AU] at h;subst h;rfl
 |f::gb,b,h=>by
  simp only[AU] at h;simp only[Op.eqFields];cases aR:(f.name=="_") with
  |true=>
   rw[aR] at h;simp only[cond_true] at h;have ve:f.name="_":=by simpa using aR
   simp only[ve,ne_eq,not_true_eq_false,if_false];exact OB aQ ax bb gb b h
  |false=>
   rw[aR] at h;simp only[cond_false] at h;have ve:f.name≠"_":=by simpa using aR
   split at h<;>try(cases h;done)
   rename_i p q aB a2;split at h<;>try(cases h;done)
   rename_i bY b2 h1 h2;cases h;obtain⟨u,g1,g2⟩:=BY (w:=w) ax aB;obtain⟨v,g3,g4⟩:=BY (w:=w) bb a2;have g5:=aQ _ _ _ _ _ _ g2 g4 h1;have g6:=OB aQ ax bb gb b2 h2;rw[if_pos ve];simp only[Sem.run_bind,g1,g3,g5,Result.andThen_ok];cases bY with
   |false=>simp
   |true=>simpa using g6
theorem aaU{r:TypeId->U->U->Option Bool}{d:Nat}(aQ:∀(t:TypeId) (x y:U) (u v:Value) (b:Bool),Den E x u->Den E y v->r t x y=some b->(Op.equalIn d t u v).run P w= .ok b w){e sz:Nat}
 {xs ys:List U}{us vs:List Value}(ax:cg E xs us)(bb:cg E ys vs):∀(is:List Nat) (b:Bool),wB P r e sz xs ys is=some b->(Op.eqItems d e sz us.toArray vs.toArray is).run P w= .ok b w
 | [],b,h=>by simp[wB] at h;subst h;rfl
 |i::is,b,h=>by
  simp only[wB] at h;simp only[Op.eqItems];split at h<;>try(cases h;done)
  rename_i p q aB a2;split at h<;>try(cases h;done)
  rename_i bY b2 h1 h2;cases h;obtain⟨u,g1,g2⟩:=BY (w:=w) ax aB;obtain⟨v,g3,g4⟩:=BY (w:=w) bb a2;have g5:=aQ _ _ _ _ _ _ g2 g4 h1;have g6:=aaU aQ ax bb is b2 h2;simp only[Sem.run_bind,g1,g3,g5,Result.andThen_ok];cases bY with
  |false=>simp
  |true=>simpa using g6
theorem aaR:∀(n:Nat) (t:TypeId) (x y:U) (u v:Value) (b:Bool),Den E x u->Den E y v->pU P n t x y=some b->∀d,n<=d->(Op.equalIn d t u v).run P w= .ok b w
 |0,_,_,_,_,_,_,_,_,h,_,_=>by simp[pU] at h
 |n+1,t,x,y,u,v,b,ax,bb,h,d,aI=>by
  obtain⟨d,rfl⟩:∃hQ,d=hQ+1:=⟨d-1,by omega⟩
  have bp:∀(t:TypeId) (x y:U) (u v:Value) (b:Bool),Den E x u->Den E y v->pU P n t x y=some b->(Op.equalIn d t u v).run P w= .ok b w:=
   λt x y u v b ax bb h=>aaR n t x y u v b ax bb h d (by omega)
  simp only[pU] at h;split at h
  ·rename_i b6 k a k2 b2 hu;have fT:u=_:=ax;have fy:v=_:=bb;subst fT;subst fy;cases ai:(k==k2) with
   |false=>simp[ai] at h
   |true=>
    simp only[ai,cond_true,Option.some.injEq] at h;obtain rfl:k=k2:=by simpa using ai
    subst h;exact run_equalIn_int w d t k b6 a b2 hu
  ·rename_i a b2 hu;have fT:u=_:=ax;have fy:v=_:=bb;subst fT;subst fy;cases h;exact run_equalIn_string w d t a b2 hu
  ·rename_i gb xs ys hu;obtain⟨us,h1,rfl⟩:=ax;obtain⟨vs,h2,rfl⟩:=bb;cases ak:P.stoodInHeld t with
   |true=>simp[ak] at h
   |false=>
    simp only[ak,cond_false] at h;have wQ:P.fieldsOf t=gb:=by simp[Program.fieldsOf,hu]
    rw[run_equalIn_struct w d t us.toArray vs.toArray (by rw[wQ];exact hu) ak,wQ];exact OB bp h1 h2 _ _ h
  ·rename_i m e xs ys hu;obtain⟨us,h1,rfl⟩:=ax;obtain⟨vs,h2,rfl⟩:=bb;split at h<;>try(cases h;done)
   rename_i sz dP;unfold eg at dP;split at dP<;>try(cases dP;done)
   rename_i i hi;cases dP
   have:=run_equalIn_array w d us.toArray vs.toArray hu hi
   rw[this];have ae:P.cellsOf e=i.size:=by simp[Program.cellsOf,hi]
   rw[ae];exact aaU bp h1 h2 _ _ h
  ·exact anK ax bb h d
theorem anL{t:TypeId}{x y:U}{u v:Value}{b:Bool}(ax:Den E x u)(bb:Den E y v)(h:wA P t x y=some b):
 (Op.equal t u v).run P w= .ok b w/\(∀op ox oy,eqGuard op t ox oy u v=Pure.pure ())/\binOp .eql t u v=(do Pure.pure (.bool (<- Op.equal t u v)))/\binOp .neq t u v=(do Pure.pure (.bool (!(<- Op.equal t u v)))):=by
 unfold wA at h;unfold Op.equal;obtain⟨d,aI⟩:∃d,Op.maxDepth=d+1:=⟨9999,rfl⟩;rw[aI];split at h<;>(try(cases h;done))<;>rename_i hu<;>simp only[Option.some.injEq] at h<;>subst h
 all_goals
  first
  |(have fT:u=_:=ax;have fy:v=_:=bb;subst fT;subst fy
    refine⟨by simp[Op.equalIn,eb hu],λop _ _=>by cases op<;>rfl,?_,?_⟩<;>simp[binOp,Op.equal,aI])
  |(have fT:u=_:=ax;obtain⟨_,_,_,rfl⟩:=bb;subst fT
    refine⟨by simp[Op.equalIn,eb hu],λop _ _=>by cases op<;>rfl,?_,?_⟩<;>simp[binOp,Op.equal,aI])
  |(obtain⟨_,_,_,rfl⟩:=ax;have fy:v=_:=bb;subst fy
    refine⟨by simp[Op.equalIn,eb hu],λop _ _=>by cases op<;>rfl,?_,?_⟩<;>simp[binOp,Op.equal,aI])
  |(have fT:u=_:=ax;obtain⟨_,_,_,_,rfl⟩:=bb;subst fT
    refine⟨by simp[Op.equalIn,eb hu],λop _ _=>by cases op<;>rfl,?_,?_⟩<;>simp[binOp,Op.equal,aI])
  |(obtain⟨_,_,_,_,rfl⟩:=ax;have fy:v=_:=bb;subst fy
    refine⟨by simp[Op.equalIn,eb hu],λop _ _=>by cases op<;>rfl,?_,?_⟩<;>simp[binOp,Op.equal,aI])
  |(have fT:u=_:=ax;obtain⟨_,_,rfl⟩:=bb;subst fT
    refine⟨by simp[Op.equalIn,eb hu],λop _ _=>by cases op<;>rfl,?_,?_⟩<;>simp[binOp,Op.equal,aI])
  |(obtain⟨_,_,rfl⟩:=ax;have fy:v=_:=bb;subst fy
    refine⟨by simp[Op.equalIn,eb hu],λop _ _=>by cases op<;>rfl,?_,?_⟩<;>simp[binOp,Op.equal,aI])
  |(obtain⟨_,_,rfl⟩:=C9 ax;have fy:v=_:=bb;subst fy
    refine⟨by simp[Op.equalIn,eb hu],λop _ _=>by cases op<;>rfl,?_,?_⟩<;>simp[binOp,Op.equal,aI])
  |(obtain⟨_,_,rfl⟩:=C9 bb;have fT:u=_:=ax;subst fT
    refine⟨by simp[Op.equalIn,eb hu],λop _ _=>by cases op<;>rfl,?_,?_⟩<;>simp[binOp,Op.equal,aI])
  |(obtain⟨_,_,_,_,_,rfl⟩:=ax;have fy:v=_:=bb;subst fy
    refine⟨by simp[Op.equalIn,eb hu],λop _ _=>by cases op<;>rfl,?_,?_⟩<;>simp[binOp,Op.equal,aI])
  |(obtain⟨_,_,_,_,_,rfl⟩:=bb;have fT:u=_:=ax;subst fT
    refine⟨by simp[Op.equalIn,eb hu],λop _ _=>by cases op<;>rfl,?_,?_⟩<;>simp[binOp,Op.equal,aI])
theorem anO{t:TypeId}{ox oy:Operand}{x y:U}{u v:Value}{b:Bool}(ax:Den E x u)(bb:Den E y v)(ag:wD P t x y=some b):
 (Op.equal t u v).run P w= .ok b w/\(∀op,(eqGuard op t ox oy u v).run P w= .ok () w)/\binOp .eql t u v=(do Pure.pure (.bool (<- Op.equal t u v)))/\binOp .neq t u v=(do Pure.pure (.bool (!(<- Op.equal t u v)))):=by
 unfold wD at ag;split at ag
 ·have fT:=ax;have fy:=bb;obtain⟨us,h1,rfl⟩:=fT;obtain⟨vs,h2,rfl⟩:=fy;cases bc:P.eqGuardType P.depth t with
  |true=>simp[bc] at ag
  |false=>
   simp only[bc,cond_false] at ag;exact⟨aaR 16 t _ _ (.agg us.toArray) (.agg vs.toArray) b ax bb ag Op.maxDepth (by decide),λop=>run_eqGuard_agg w op t ox oy _ _ bc,rfl,rfl⟩
 ·split at ag<;>try(cases ag;done)
  rename_i ms hu;cases hm:ms.isEmpty with
  |false=>simp[hm] at ag
  |true=>
   simp only[hm,cond_true,Option.some.injEq] at ag;subst ag;have az:u= .nilIface:=ax;have ay:v= .nilIface:=bb;subst az;subst ay;obtain⟨d,aI⟩:∃d,Op.maxDepth=d+1:=⟨9999,rfl⟩;refine⟨by simp[Op.equal,aI,Op.equalIn,eb hu],λop=>?_,?_,?_⟩
   ·cases op<;>first|rfl|(cases ox<;>cases oy<;>simp[eqGuard,aI,Op.eqGuardIn,eb hu,hm])
   all_goals simp[binOp,Op.equal,aI]
 ·obtain⟨h1,h2,h3,aT⟩:=anL (w:=w) ax bb ag;exact⟨h1,λop=>by rw[h2];rfl,h3,aT⟩
theorem alK{op:BinOp}{t:TypeId}{ox oy:Operand}{x y z:U}{u v:Value}(ax:Den E x u)(bb:Den E y v)(h:AI P op t x y=some z):
 iH P E w (do eqGuard op t ox oy u v;binOp op t u v) z:=by
 have Ja:∀k n (v:Value),eqGuard op t ox oy (.int k n) v=Pure.pure ():=λ_ _ _=>by cases op<;>rfl
 have gs:∀s (v:Value),eqGuard op t ox oy (.string s) v=Pure.pure ():=λ_ _=>by cases op<;>rfl
 unfold AI at h;split at h
 ·have az:u=_:=ax;have ay:v=_:=bb;subst az;subst ay;rw[Ja];exact aq1 t h
 ·rename_i k a b6 b;have az:u=_:=ax;have ay:v=_:=bb;subst az;subst ay;cases ai:(k==b6) with
  |false=>simp[ai] at h
  |true=>obtain rfl:k=b6:=by simpa using ai
         simp only[ai,cond_true] at h;rw[Ja];exact NU t h
 ·rename_i k a b6 b;have az:u=_:=ax;have ay:v=_:=bb;subst az;subst ay;cases ai:(k==b6) with
  |false=>simp[ai] at h
  |true=>obtain rfl:k=b6:=by simpa using ai
         simp only[ai,cond_true] at h;rw[Ja];exact NU t h
 ·rename_i k a b6 b;have az:u=_:=ax;have ay:v=_:=bb;subst az;subst ay;cases ai:(k==b6) with
  |false=>simp[ai] at h
  |true=>obtain rfl:k=b6:=by simpa using ai
         simp only[ai,cond_true] at h;rw[Ja];exact NU t h
 ·have az:u=_:=ax;have ay:v=_:=bb;subst az;subst ay;rw[gs];exact aDl t h
 ·have az:u=_:=ax;have ay:v=_:=bb;subst az;subst ay;rw[gs];exact XZ t h
 ·have az:u=_:=ax;have ay:v=_:=bb;subst az;subst ay;rw[gs];exact XZ t h
 ·have az:u=_:=ax;have ay:v=_:=bb;subst az;subst ay;rw[gs];exact XZ t h
 ·have key:=λb (ag:wD P t x y=some b)=>anO (w:=w) (ox:=ox) (oy:=oy) ax bb ag
  unfold wC at h;split at h
  ·split at h<;>try(cases h;done)
   rename_i b ag;cases h;obtain⟨h1,h2,h3,_⟩:=key b ag;exact⟨.bool b,by rw[h3];simp[h1,h2],rfl⟩
  ·split at h<;>try(cases h;done)
   rename_i b ag;cases h;obtain⟨h1,h2,_,h3⟩:=key b ag;exact⟨.bool (!b),by rw[h3];simp[h1,h2],rfl⟩
  ·cases h
theorem aEG{op:UnOp}{x z:U}{u:Value}(ax:Den E x u)(h:ib op x=some z):iH P E w (Op.unary op u) z:=by
 unfold ib at h;split at h
 ·have az:u=_:=ax;subst az
  have:=NV (P:=P) (E:=E) (w:=w) 0 h
  rw[binOp_sub] at this;exact this
 ·have az:u=_:=ax;subst az
  have:=NV (P:=P) (E:=E) (w:=w) 0 h
  rw[binOp_xor] at this;exact this
 ·have az:u=_:=ax;subst az;cases h;exact⟨_,rfl,rfl⟩
 ·have az:u=_:=ax;subst az;cases h;exact⟨_,rfl,rfl⟩
 ·cases h
theorem amP{s d:TypeId}{x z:U}{u:Value}(ax:Den E x u)(h:oE P s d x=some z):iH P E w (convert s d u) z:=by
 unfold oE at h;split at h<;>try(cases h;done)
 rename_i bq ak;split at h<;>(try(cases h;done))<;>rename_i aI
 ·have az:u=_:=ax;subst az;simp only[fP,Option.some.injEq] at h;subst h;exact⟨_,by unfold convert;cases bq<;>simp[eb ak,eb aI,Conv.intToInt]<;>rfl,rfl⟩
 ·have az:u=_:=ax;subst az;simp only[Option.some.injEq] at h;subst h;exact⟨_,by unfold convert;cases bq<;>simp[eb ak,eb aI,Conv.intToInt]<;>rfl,rfl⟩
 ·have az:u=_:=ax;subst az;simp only[Option.some.injEq] at h;subst h;exact⟨_,by unfold convert;cases bq<;>simp[eb ak,eb aI]<;>rfl,rfl⟩
 ·have az:u=_:=ax;subst az;simp only[Option.some.injEq] at h;subst h;exact⟨_,by unfold convert;cases bq<;>simp[eb ak,eb aI]<;>rfl,rfl⟩
theorem aqV{t:TypeId}{x z:U}{u:Value}(ax:Den E x u)(h:F1 P t x=some z):iH P E w (Instr.makeInterface t u) z:=by
 unfold F1 at h;split at h<;>try(cases h;done)
 rename_i d aR hu;cases h;refine⟨.iface t u,?_,u,ax,rfl⟩;cases d<;>first|exact absurd rfl (aR _)|simp[Instr.makeInterface,eb hu]
end
section
variable{P:Program}{E:Env}{w:World}
theorem abf{s:TypeId}{f:Nat}{fd:Field}(h:AZ P s f=some fd):∃gb,P.underlying s=some (.struct gb)/\gb[f]?=some fd:=by
 unfold AZ at h;split at h
 ·rename_i gb hu;exact⟨gb,hu,h⟩
 ·cases h
theorem an1{s:TypeId}{f k off id c:Nat}{z:U}(ai:E k=some (id,c))(h:F0 P s f k off=some z):
 iH P E w (Instr.fieldAt s (.pointer (some ⟨id,off,none⟩)) f) z:=by
 unfold F0 at h;split at h<;>try(cases h;done)
 rename_i fd QS;split at h<;>try(cases h;done)
 rename_i n ak;simp only[force_eq,Option.some.injEq] at h;subst h;obtain⟨gb,hu,au⟩:=abf QS;refine⟨.pointer (some ⟨id,off+fd.offset,none⟩),?_,id,c,ai,rfl⟩;simp[Instr.fieldAt,eb hu,au,Instr.sureAddr,fieldPlace,jn ak,Addr.add_lit]
theorem an3{s:TypeId}{f:Nat}{cs:List U}{z:U}{vs:List Value}(hv:cg E cs vs)(h:z0 P s f cs=some z):
 iH P E w (Instr.field s (.agg vs.toArray) f) z:=by
 unfold z0 at h;split at h<;>try(cases h;done)
 rename_i fd QS;obtain⟨gb,hu,au⟩:=abf QS;obtain⟨v,aQ,aI⟩:=BY (w:=w) hv h;exact⟨v,by simp[Instr.field,eb hu,au,asAgg,aQ],aI⟩
theorem aqZ{t:TypeId}{x hy z:U}{u v:Value}(ax:Den E x u)(hi:Den E hy v)(h:z2 P t x hy=some z):
 iH P E w (Instr.indexAt t u v) z:=by
 unfold z2 at h;split at h<;>try(cases h;done)
 rename_i i aR;obtain⟨JO,rfl⟩:=zB aR hi;split at h<;>(try(cases h;done))<;>rename_i hu
 ·rename_i n e k off;split at h<;>try(cases h;done)
  rename_i s ak;cases ag:Nat.blt i n with
  |false=>simp[ag] at h
  |true=>
   simp only[ag,cond_true,force_eq,Option.some.injEq] at h;subst h;have a9:i<n:=by rw[Nat.blt_eq] at ag;exact ag
   obtain⟨id,c,ai,rfl⟩:=ax;refine⟨.pointer (some ⟨id,off+i*s,none⟩),?_,id,c,ai,rfl⟩;simp[Instr.indexAt,asIntOf,eb hu,Instr.sureAddr,jn ak,a9,Addr.add_lit]
 ·rename_i e k off len cap lo;split at h<;>try(cases h;done)
  rename_i s ak;cases ag:Nat.blt i len with
  |false=>simp[ag] at h
  |true=>
   simp only[ag,cond_true,force_eq,Option.some.injEq] at h;subst h;have a9:i<len:=by rw[Nat.blt_eq] at ag;exact ag
   have ai:∃id c a4,E k=some (id,c)/\u= .slice (some ⟨id,off,none⟩) len a4:=by
    cases cap with
    |none=>obtain⟨id,c,h1,h2⟩:=ax;exact⟨id,c,_,h1.1,h2⟩
    |some cap=>obtain⟨id,c,h1,h2⟩:=ax;exact⟨id,c,_,h1,h2⟩
   obtain⟨id,c,a4,ai,rfl⟩:=ai;refine⟨.pointer (some ⟨id,off+i*s,none⟩),?_,id,c,ai,rfl⟩;simp[Instr.indexAt,asIntOf,eb hu,jn ak,a9,Addr.add_lit]
theorem aq0{t:TypeId}{x hy z:U}{u v:Value}(ax:Den E x u)(hi:Den E hy v)(h:z1 P t x hy=some z):
 iH P E w (Instr.index t u v) z:=by
 unfold z1 at h;split at h<;>try(cases h;done)
 rename_i i aR;obtain⟨JO,rfl⟩:=zB aR hi;split at h<;>(try(cases h;done))<;>rename_i hu
 ·rename_i n e cs;split at h<;>try(cases h;done)
  rename_i s ak;cases ag:Nat.blt i n with
  |false=>simp[ag] at h
  |true=>
   simp only[ag,cond_true] at h;have a9:i<n:=by rw[Nat.blt_eq] at ag;exact ag
   obtain⟨vs,hv,rfl⟩:=ax;obtain⟨v,aQ,aI⟩:=BY (w:=w) hv h;exact⟨v,by simp[Instr.index,asIntOf,eb hu,jn ak,a9,aQ],aI⟩
 ·rename_i s;have az:u=_:=ax;subst az;split at h<;>try(cases h;done)
  rename_i b ag;cases h;exact⟨_,by simp[Instr.index,asIntOf,eb hu,ag],rfl⟩
theorem Cj{len cap:Nat}{lo hi:Option U}{lv hv:Option Value}{l h:Nat}(h1:∀y,lo=some y->∃v,lv=some v/\Den E y v)(j9:lo=none->lv=none)
 (h2:∀y,hi=some y->∃v,hv=some v/\Den E y v)(kA:hi=none->hv=none)(ag:sliceB len cap lo hi=some (l,h)):
 l<=h/\h<=cap/\∀isSlice w,(Instr.sliceBounds isSlice len cap lv hv none).run P w= .ok (l,h,cap) w:=by
 unfold sliceB at ag;split at ag<;>try(cases ag;done)
 rename_i cj hg HT el;cases fl:Nat.ble cj cap with
 |false=>simp[fl] at ag
 |true=>
 cases m6:Nat.ble hg cj with
 |false=>simp[fl,m6] at ag
 |true=>
 simp only[fl,m6,Bool.and_self,cond_true,Option.some.injEq,Prod.mk.injEq] at ag;obtain⟨rfl,rfl⟩:=ag;have k1:=Nat.le_of_ble_eq_true fl;have k2:=Nat.le_of_ble_eq_true m6;refine⟨k2,k1,λaG1 w=>?_⟩;cases hi with
 |none=>
  simp only[Option.some.injEq] at HT;subst HT;rw[kA rfl];cases lo with
  |none=>
   simp only[Option.some.injEq] at el;subst el;rw[j9 rfl];simp[Instr.sliceBounds]
  |some y=>
   simp only at el;obtain⟨v,e,aI⟩:=h1 y rfl;obtain⟨k,rfl⟩:=zB el aI;rw[e];simp[Instr.sliceBounds,Instr.sliceBound,asIntOf,k2]
 |some Ac=>
  simp only at HT;obtain⟨Mj,bd,o6⟩:=h2 Ac rfl;obtain⟨b6,rfl⟩:=zB HT o6;rw[bd];cases lo with
  |none=>
   simp only[Option.some.injEq] at el;subst el;rw[j9 rfl];simp[Instr.sliceBounds,Instr.sliceBound,asIntOf,k1]
  |some y=>
   simp only at el;obtain⟨v,e,aI⟩:=h1 y rfl;obtain⟨k,rfl⟩:=zB el aI;rw[e];simp[Instr.sliceBounds,Instr.sliceBound,asIntOf,k1,k2]
theorem aip{len cap:Nat}{lo hi:Option U}{l h:Nat}(ag:sliceB len len lo hi=some (l,h))(ae:len<=cap):sliceB len cap lo hi=some (l,h):=by
 have key:∀A B:Option Nat,(match A,B with|some h,some l=>bif Nat.ble h len&&Nat.ble l h then some (l,h) else none|_,_=>none)=some (l,h)->
  (match A,B with|some h,some l=>bif Nat.ble h cap&&Nat.ble l h then some (l,h) else none|_,_=>none)=some (l,h):=by
  intro A B ag;split at ag<;>try(cases ag;done)
  rename_i cj hg;cases fl:Nat.ble cj len with
  |false=>simp[fl] at ag
  |true=>
   have:=Nat.le_of_ble_eq_true fl
   have h2:Nat.ble cj cap=true:=(by rw[Nat.ble_eq];exact Nat.le_trans this ae);simp only[fl] at ag;simp only[h2];exact ag
 exact key _ _ ag
theorem aio{k off len iz s l h id c ij:Nat}{cap:Option Nat}{z:U}(ai:E k=some (id,c))(ae:(∃a4,cap=some a4/\ij=a4)\/(cap=none/\ij=c-iz/\iz+len<=c))(h1:l<=h)(h2:h<=ij)
 (aX:qm k off len cap iz s l h=some z):Den E z (.slice (some (if ij=l then⟨id,off,none⟩ else⟨id,off+l*s,none⟩)) (h-l) (ij-l)):=by
 unfold qm at aX;rcases ae with⟨a4,rfl,rfl⟩|⟨rfl,rfl,hle⟩
 ·simp only[force_eq] at aX;cases hm:Nat.beq (ij-l) 0 with
  |true=>
   have qX:=Nat.eq_of_beq_eq_true hm;simp only[hm,cond_true,Option.some.injEq] at aX;subst aX;rw[if_pos (by omega)];exact⟨id,c,ai,rfl⟩
  |false=>
   have qX:=Nat.ne_of_beq_eq_false hm;simp only[hm,cond_false,Option.some.injEq] at aX;subst aX;rw[if_neg (by omega)];exact⟨id,c,ai,rfl⟩
 ·simp only[force_eq] at aX;cases cj:Nat.ble h len with
  |false=>simp[cj] at aX
  |true=>
   have aGC:=Nat.le_of_ble_eq_true cj;simp only[cj,cond_true] at aX;cases aJ:Nat.blt l len with
   |true=>
    have Ed:l<len:=by rw[Nat.blt_eq] at aJ;exact aJ
    simp only[aJ,cond_true,Option.some.injEq] at aX;subst aX;rw[if_neg (by omega)];exact⟨id,c,⟨ai,by omega⟩,by rw[Nat.sub_add_eq]⟩
   |false=>
    simp only[aJ,cond_false] at aX;cases h0:Nat.beq l 0 with
    |false=>
     have Ed:¬l<len:=λcj=>by have:Nat.blt l len=true:=by rw[Nat.blt_eq];exact cj
                             rw[aJ] at this;cases this
     simp only[h0,cond_false,Option.some.injEq] at aX;subst aX;have av:h-l=0:=by omega
     rw[av];split
     ·exact⟨_,_,rfl⟩
     ·exact⟨_,_,rfl⟩
    |true=>
     have sb:=Nat.eq_of_beq_eq_true h0;simp only[h0,cond_true,Option.some.injEq] at aX;subst aX;subst sb;refine⟨id,c,⟨ai,by omega⟩,?_⟩;simp
theorem LR{t:TypeId}{x z:U}{u:Value}{lo hi:Option U}{lv hv:Option Value}(ax:Den E x u)(h1:∀y,lo=some y->∃v,lv=some v/\Den E y v)(j9:lo=none->lv=none)
 (h2:∀y,hi=some y->∃v,hv=some v/\Den E y v)(kA:hi=none->hv=none)(h:gl P t x lo hi=some z):iH P E w (Instr.sliceAt t u lv hv none) z:=by
 unfold gl at h;split at h<;>try(cases h;done)
 ·rename_i e k off len cap iz hu;split at h<;>try(cases h;done)
  rename_i s l cj ak ag
  have fT:∃id c ij,E k=some (id,c)/\u= .slice (some ⟨id,off,none⟩) len ij/\((∃a4,cap=some a4/\ij=a4)\/(cap=none/\ij=c-iz/\iz+len<=c)):=by
   cases cap with
   |none=>obtain⟨id,c,az,ay⟩:=ax;exact⟨id,c,_,az.1,ay,.inr ⟨rfl,rfl,az.2⟩⟩
   |some cap=>obtain⟨id,c,az,ay⟩:=ax;exact⟨id,c,_,az,ay,.inl ⟨_,rfl,rfl⟩⟩
  obtain⟨id,c,ij,ai,rfl,ae⟩:=fT
  have iP:sliceB len ij lo hi=some (l,cj):=by
   rcases ae with⟨a4,rfl,rfl⟩|⟨rfl,rfl,hle⟩
   ·exact ag
   ·exact aip ag (by omega)
  obtain⟨k1,k2,gg⟩:=Cj (P:=P) h1 j9 h2 kA iP;refine⟨_,?_,aio ai ae k1 k2 h⟩;simp only[Instr.sliceAt,Instr.slice,Sem.run_bind,eb hu,Result.andThen_ok,gg,jn ak,Sem.run_pure,Option.map_some,Addr.add_lit];split<;>rfl
 ·rename_i e k hu;split at h<;>try(cases h;done)
  rename_i s RH ak ag;obtain⟨l,cj⟩:=RH;cases h;obtain⟨uW,cp,rfl⟩:=ax;obtain⟨dT,fA,_⟩:=Cj (P:=P) h1 j9 h2 kA ag;obtain⟨k1,k2,gg⟩:=Cj (P:=P) h1 j9 h2 kA (aip ag (Nat.zero_le cp));have az:cj=0:=by omega
  have ay:l=0:=by omega
  subst az;subst ay;refine⟨.slice (some uW) 0 cp,?_,uW,cp,rfl⟩;simp only[Instr.sliceAt,Instr.slice,Sem.run_bind,eb hu,Result.andThen_ok,gg,jn ak,Sem.run_pure,Option.map_some,Addr.add_lit];simp[Addr.add]
 ·rename_i e a c hu;split at h<;>try(cases h;done)
  rename_i s RH ak ag;obtain⟨l,cj⟩:=RH;cases h;cases bV:Nat.beq a 0 with
  |false=>simp[bV] at ag
  |true=>
   cases ae:Nat.beq c 0 with
   |false=>simp[bV,ae] at ag
   |true=>
    simp only[bV,ae,Bool.and_self,cond_true] at ag;have az:=Nat.eq_of_beq_eq_true bV;have ay:=Nat.eq_of_beq_eq_true ae;have b9:u=_:=ax;subst az;subst ay;subst b9;obtain⟨k1,k2,gg⟩:=Cj (P:=P) h1 j9 h2 kA ag;have ee:cj=0:=by omega
    have iI:l=0:=by omega
    subst ee;subst iI;refine⟨.slice none 0 0,?_,rfl⟩;simp only[Instr.sliceAt,Instr.slice,Sem.run_bind,eb hu,Result.andThen_ok,gg,jn ak,Sem.run_pure];simp
 ·rename_i n e k off hu;split at h<;>try(cases h;done)
  rename_i s l cj ak ag;obtain⟨id,c,ai,rfl⟩:=ax;obtain⟨k1,k2,gg⟩:=Cj (P:=P) h1 j9 h2 kA ag;refine⟨_,?_,aio ai (.inl ⟨n,rfl,rfl⟩) k1 k2 h⟩;simp only[Instr.sliceAt,Instr.sureAddr,Sem.run_bind,eb hu,Result.andThen_ok,gg,jn ak,Sem.run_pure,Addr.add_lit]
 ·rename_i s hu;split at h<;>try(cases h;done)
  rename_i l cj ag;obtain⟨k1,k2,gg⟩:=Cj (P:=P) h1 j9 h2 kA ag;have e:u= .string s:=ax;subst e;cases h;refine⟨.string (s.extract l cj),?_,rfl⟩;simp[Instr.sliceAt,Instr.slice,eb hu,gg]
theorem art{t ty:TypeId}{c8:Array TypeId}{x z:U}{u:Value}(aN:c8[0]?=some t)(ax:Den E x u)(h:eG P t x=some z):iH P E w (Builtin.len_ c8 ty #[u]) z:=by
 unfold eG at h;split at h<;>(try(cases h;done))<;>rename_i hu
 ·have az:u=_:=ax;subst az;simp only[fP,Option.some.injEq] at h;subst h;exact⟨_,by simp[Builtin.len_,aN,eb hu];rfl,rfl⟩
 ·have az:u=_:=ax;subst az;simp only[Option.some.injEq] at h;subst h;exact⟨_,by simp[Builtin.len_,aN,eb hu];rfl,rfl⟩
 ·obtain⟨id,c,rfl⟩:=C9 ax;cases h;exact⟨_,by simp[Builtin.len_,aN,eb hu];rfl,rfl⟩
 ·obtain⟨_,_,rfl⟩:=ax;cases h;exact⟨_,by simp[Builtin.len_,aN,eb hu];rfl,rfl⟩
 ·have az:u=_:=ax;subst az;simp only[fP,Option.some.injEq] at h;subst h;exact⟨_,by simp[Builtin.len_,aN,eb hu];rfl,rfl⟩
 ·have az:u=_:=ax;subst az;simp only[Option.some.injEq] at h;subst h;exact⟨_,by simp[Builtin.len_,aN,eb hu];rfl,rfl⟩
end
theorem ajo{n:Nat}(h:n<=140737488355328):IntKind.i64.wrap (n:Int)=(n:Int):=by
 simp only[IntKind.wrap,IntKind.bits,IntKind.signed];simp;omega
section
variable{P:Program}{B:Nat}{aZ w:World}{X:al}{E:Env}
theorem bQ.arh(h:bQ P B aZ X E w)(k:Nat):bQ P B aZ {X with aV:=X.aV.del k} E w:=
 ⟨h.os,h.tape,h.output,h.base,h.gB,λj o aa=>h.obj j o (cE.tD aa).2,λj fp o o' id c a4 aa hb he fS=>h.inj j fp o o' id c a4 (cE.tD aa).2 (cE.tD hb).2 he fS,h.fresh,h.ny,h.km⟩
theorem bQ.renamed(h:bQ P B aZ X E w){k id c:Nat}{o o':bH}(aq:X.aV.get k=some o)(ai:E k=some (id,c))(iR:o.ro=false)(aGT:o'.ro=false){w':World}(h1:w'.os=w.os)(h2:w'.tape=w.tape)
 (h3:w'.output=w.output)(aT:w'.heap.size=w.heap.size)(bz:∀j,j≠id->w'.heap[j]?=w.heap[j]?)(fH:lT P (E.put X.next id c) o' w'.heap[id]? c):
 bQ P B aZ {X with next:=X.next+1,aV:=(X.aV.del k).put X.next o'} (E.put X.next id c) w':=by
 have yM:B<=id:=by
  obtain⟨il,a4,cO,_,ag⟩:=h.obj k o aq;rw[ai] at cO;cases cO;exact ag (.inl iR)
 have hle:cQ E (E.put X.next id c):=Env.sy (h.fresh _ (Nat.le_refl _)) h.km;have aE:∀j,j≠X.next->(E.put X.next id c) j=E j:=λj aa=>Env.rv E _ _ aa
 refine⟨h1.trans h.os,h2.trans h.tape,h3.trans h.output,by rw[aT];exact h.base,λj aa=>?_,λj cd aa=>?_,λj fp dv cy i aP a1 aa hb he fS=>?_,λj aa=>?_,λg bc=>let ⟨c,ae⟩:=h.ny g bc;⟨c,hle.sub _ _ ae⟩,Nat.le_succ_of_le h.km⟩
 ·rw[bz j (by omega)];exact h.gB j aa
 ·rcases cE.iM aa with⟨e,ay⟩|⟨e,aI⟩
  ·subst e;subst ay;exact⟨id,c,Env.l5 _ _ _ _,fH,λ_=>yM⟩
  ·obtain⟨ca,aJ⟩:=cE.tD aI;obtain⟨i,a4,he,aQ,ag⟩:=h.obj j cd aJ;have apM:i≠id:=λay=>ca (h.inj j k cd o i a4 c aJ aq he (by rw[ai,ay]))
   exact⟨i,a4,hle.sub _ _ he,by rw[bz i apM];exact aQ.mono hle,ag⟩
 ·rcases cE.iM aa with⟨e,_⟩|⟨e,aI⟩<;>rcases cE.iM hb with⟨bd,_⟩|⟨bd,o6⟩
  ·rw[e,bd]
  ·subst e;rw[Env.l5] at he;cases he;rw[aE _ bd] at fS;obtain⟨ca,aJ⟩:=cE.tD o6;exact absurd (h.inj fp k cy o _ a1 _ aJ aq fS ai) ca
  ·subst bd;rw[Env.l5] at fS;cases fS;rw[aE _ e] at he;obtain⟨ca,aJ⟩:=cE.tD aI;exact absurd (h.inj j k dv o _ aP _ aJ aq he ai) ca
  ·rw[aE _ e] at he;rw[aE _ bd] at fS;exact h.inj j fp dv cy i aP a1 (cE.tD aI).2 (cE.tD o6).2 he fS
 ·have hb:X.next+1<=j:=aa
  rw[aE j (by omega)];exact h.fresh j (by omega)
theorem aff{ty esz c lo hi:Nat}{ys:List U}{vs rest:List Value}(aE:bQ P B aZ X E w)(hv:cg E ys vs)(ae:vs.length+rest.length=c*esz)(o8:lo=hi\/c*esz<=lo):
 ∃aW,cQ E aW/\aW (ng X ty esz ys).1=some (w.heap.size,c)/\bQ P B aZ (ng X ty esz ys).2 aW (w.alloc (.cells (vs++rest).toArray ty (lo,hi))):=by
 unfold ng;rw[force_eq];refine⟨E.put X.next w.heap.size c,Env.sy (aE.fresh _ (Nat.le_refl _)) aE.km,Env.l5 _ _ _ _,aE.new _ (vs++rest).toArray c lo hi rfl rfl λaW hle=>?_⟩;have aJ:=hv.length;refine⟨_,_,lo,hi,rfl,λj y aa=>?_,λ_=>⟨rfl,?_,by simp[aJ],λh=>(by cases h),λ_=>by simp[ae]⟩⟩
 ·have a9:=bH.yI aa;unfold bH.get at aa;have ag:Nat.blt j ys.length=true:=by rw[Nat.blt_eq];exact a9
  simp only[ag,cond_true] at aa;cases aq:(qo ys).get j with
  |none=>simp[aq] at aa
  |some z=>
   simp only[aq] at aa;cases aa;obtain⟨v,h1,h2⟩:=(hv.mono hle).get j _ (I9 _ _ _ aq);refine⟨v,?_,h2⟩;have Q4:j<vs.length:=(List.getElem?_eq_some_iff.1 h1).1;rw[List.getElem?_toArray,List.getElem?_append_left Q4];exact h1
 ·simpa[ae] using o8
theorem aaC(s:ByteArray):cg E (xB s) (s.data.toList.map λb=>Value.int .u8 b.toNat):=by
 unfold xB;simp only[fP]
 induction s.data.toList with
 |nil=>rfl
 |cons b ZP bp=>exact⟨_,_,rfl,bp,rfl⟩
theorem Zr(aE:bQ P B aZ X E w){sz n:Nat}{x:U}{u:Value}{ys:List U}(ax:Den E x u)(h:jv X sz x=some (n,ys))(aJ:ys.length=n*sz):
 ∃vs,cg E ys vs/\(∀cV,(Builtin.lenOf u).run P cV= .ok n cV)/\∀cV:World,cV.heap=w.heap->∀m,m<=n->(Builtin.firstCells sz m u).run P cV= .ok (vs.take (m*sz)).toArray cV:=by
 unfold jv at h;split at h
 ·rename_i k off aG6 cap lo;split at h<;>try(cases h;done)
  rename_i o aq;split at h<;>try(cases h;done)
  rename_i vO eU;cases h
  have fT:∃id c ij,E k=some (id,c)/\u= .slice (some ⟨id,off,none⟩) n ij:=by
   cases cap with
   |none=>obtain⟨id,c,az,ay⟩:=ax;exact⟨id,c,_,az.1,ay⟩
   |some cap=>obtain⟨id,c,az,ay⟩:=ax;exact⟨id,c,_,az,ay⟩
  obtain⟨id,c,ij,ai,rfl⟩:=fT;obtain⟨il,a4,cO,aQ,_⟩:=aE.obj k o aq;rw[ai] at cO;cases cO;obtain⟨vs,h1,h2,h3⟩:=EN aQ _ off ys eU;refine⟨vs,h1,λcV=>by simp[Builtin.lenOf],λcV cj m hm=>?_⟩;have hle:m*sz<=n*sz:=Nat.mul_le_mul_right _ hm
  have:=run_loadCells_list (P:=P) (w:=cV) ⟨id,off,none⟩ (vs.take (m*sz)) (λj v aa=>by
   rw[Addr.add_lit];have hb:=aa;rw[List.getElem?_take] at hb;split at hb
   ·have:=h3 j v hb
    simpa[World.cell?,cj] using this
   ·cases hb)
  rw[List.length_take,h2,Nat.min_eq_left hle] at this;simpa[Builtin.firstCells] using this
 ·rename_i a c;cases bV:Nat.beq a 0 with
  |false=>simp[bV] at h
  |true=>
   cases ae:Nat.beq c 0 with
   |false=>simp[bV,ae] at h
   |true=>
    simp only[bV,ae,Bool.and_self,cond_true,Option.some.injEq,Prod.mk.injEq] at h;obtain⟨rfl,rfl⟩:=h;have e:=Nat.eq_of_beq_eq_true bV;have az:u=_:=ax;subst e;subst az;exact⟨[],rfl,λcV=>by simp[Builtin.lenOf],λcV _ m _=>by simp[Builtin.firstCells]⟩
 ·rename_i s;cases h;have az:u=_:=ax;subst az;have aI:=aaC (E:=E) s;refine⟨_,aI,λcV=>by simp[Builtin.lenOf],λcV _ m hm=>?_⟩;have dP:(xB s).length=s.size:=by simp[xB]
  rw[dP] at aJ
  have y9:m*sz=m\/s.size=0:=by
   rcases Nat.eq_zero_or_pos s.size with h0|h0
   ·exact .inr h0
   ·refine .inl ?_
    have:s.size*1=s.size*sz:=by omega
    have:=Nat.eq_of_mul_eq_mul_left h0 this
    rw[<- this,Nat.mul_one]
  simp only[Builtin.firstCells,Sem.run_pure,Result.ok.injEq,and_true];apply Array.ext';rcases y9 with qX|h0
  ·rw[qX];simp[ByteArray.data_extract]
  ·have:m=0:=by omega
   subst this;simp
 ·rename_i k;cases h;obtain⟨uW,cp,rfl⟩:=ax;refine⟨[],rfl,λcV=>by simp[Builtin.lenOf],λcV _ m hm=>?_⟩;have e:m=0:=by omega
  subst e;simp[Builtin.firstCells,loadCells,loadCellsFrom]
 ·cases h
inductive uM (P:Program) (d:TypeDesc) (e sz n:Nat) (x:Value) (news:List Value) (w:World):Prop
 |AT (aI:sF d=true) (aR:∀cV:World,cV.heap=w.heap->(Builtin.lenOf x).run P cV= .ok n cV) (ax:∀cV:World,cV.heap=w.heap->(Builtin.firstCells sz n x).run P cV= .ok news.toArray cV)
 |Gw (k b6:IntKind) (z:Value) (b:Nat) (aI:d= .int k) (ax:x= .int b6 n) (aX:gC P e=some z) (ag:oG P e=some b) (aR:n<=140737488355328) (tP:n*b<=140737488355328)
   (wW:news=(Builtin.zeroCells z.cells n).toList) (Bs:sz=0->n=0)
theorem uM.mono{d:TypeDesc}{e sz n:Nat}{x:Value}{news:List Value}{w cV:World}(h:uM P d e sz n x news w)(hw:cV.heap=w.heap):uM P d e sz n x news cV:=by
 cases h with
 |AT aI aR ax=>exact .AT aI (λfh h3=>aR fh (h3.trans hw)) (λfh h3=>ax fh (h3.trans hw))
 |Gw k b6 z b aI ax aX ag aR tP wW Bs=>exact .Gw k b6 z b aI ax aX ag aR tP wW Bs
theorem ajK(z:Array Value):Builtin.zeroCells z 0= #[]:=by
 apply Array.ext';simp[Builtin.zeroCells]
theorem ZE{c8:Array TypeId}{t u ty e sz n hV mL:Nat}{d:TypeDesc}{a:Addr}{x:Value}{news:List Value}{w':World}(h0:c8[0]?=some t)(h1:c8[1]?=some u)(aN:P.underlying t=some (.slice e))(hu:P.underlying u=some d)
 (ak:eg P e=some sz)(oo:hV+n<=mL)(ax:uM P d e sz n x news w)
 (dc:(storeCells (a.add (hV*sz)) news).run P w= .ok () w'):(Builtin.append_ c8 ty #[.slice (some a) hV mL,x]).run P w= .ok (.slice (some a) (hV+n) mL) w':=by
 cases ax with
 |AT aI aR ax=>
  have aR:=aR w rfl;have ax:=ax w rfl
  cases d<;>first
   |(cases aI;done)
   |simp[Builtin.append_,h0,h1,run_underlying aN,run_underlying hu,jn ak,aR,oo,ax,dc]
 |Gw k b6 z b aI ax aX ag aR tP wW Bs=>
  subst aI;subst ax;obtain⟨i,hi,Bj⟩:=Mc ag w;have tX:=z7 aX (w:=w);have hw:IntKind.i64.wrap (n:Int)=(n:Int):=ajo (by omega);have h2:¬((n:Int)<0):=by omega
  have h3:¬((281474976710656:Int)<(n:Int)*(i.bytes:Int)):=by
   rw[Bj, <- Int.natCast_mul];omega
  by_cases sb:n*sz=0
  ·have lZ:n=0:=by
    rcases Nat.mul_eq_zero.1 sb with h|h
    ·exact h
    ·exact Bs h
   have az:news=[]:=by rw[wW,lZ,ajK]
   subst az;simp[Builtin.append_,asInt,asIntOf,h0,h1,run_underlying aN,run_underlying hu,jn ak,hw,h2,hi,h3,oo,sb,dc]
  ·simp[Builtin.append_,asInt,asIntOf,h0,h1,run_underlying aN,run_underlying hu,jn ak,hw,h2,hi,h3,oo,sb,tX, <- wW,dc]
theorem ZD{c8:Array TypeId}{t u ty e sz bytes n hV mL:Nat}{z:Value}{d:TypeDesc}{base:Option Addr}{x:Value}{olds news:List Value}(h0:c8[0]?=some t)(h1:c8[1]?=some u)(aN:P.underlying t=some (.slice e))(hu:P.underlying u=some d)
 (ak:eg P e=some sz)(aX:gC P e=some z)(ag:oG P e=some bytes)(oo:mL<hV+n)(aGu:hV+n<=140737488355328)(aGy:(hV+n)*bytes<=140737488355328)
 (hold:(Builtin.firstCells sz hV (.slice base hV mL)).run P w.drew= .ok olds.toArray w.drew)(ax:uM P d e sz n x news w):
 (Builtin.append_ c8 ty #[.slice base hV mL,x]).run P w= .ok (.slice (some ⟨w.heap.size,0,none⟩) (hV+n) (grownCap w (hV+n) mL e))
   (w.drew.alloc (.cells (olds++(news++(Builtin.zeroCells z.cells (grownCap w (hV+n) mL e-(hV+n))).toList)).toArray e)):=by
 obtain⟨i,hi,Bj⟩:=Mc ag w;obtain⟨i',cH,aGE⟩:=Mc ag w.drew;have pb:¬(hV+n<=mL):=by omega
 have yV:¬(281474976710656<Builtin.nextslicecap (hV+n) mL*i.bytes):=by
  have:=growslice_fits oo (bytes:=bytes) (by omega)
  rw[Bj];omega
 have Jd:¬(9223372036854775807<((hV:Int)+(n:Int))):=by omega
 have tX:=z7 aX (w:=w.drew);cases ax with
 |AT aI aR ax=>
  have aR:=aR w rfl;have ax:=ax w.drew rfl
  cases d<;>first
   |(cases aI;done)
   |(simp[Builtin.append_,h0,h1,run_underlying aN,run_underlying hu,jn ak,aR,pb,hi,cH,yV,Jd,Question.forced,hold,ax,tX,Go.newRow,grownCap];done)
   |(simp[Builtin.append_,h0,h1,run_underlying aN,run_underlying hu,jn ak,aR,pb,hi,cH,yV,Jd,Question.forced,hold,ax,tX,Go.newRow,grownCap]
     congr 2;apply Array.ext'
     simp)
 |Gw k b6 uK b aI ax aeK ka aR tP wW Bs=>
  subst aI;subst ax;rw[aX] at aeK;cases aeK;rw[ag] at ka;cases ka;have hw:IntKind.i64.wrap (n:Int)=(n:Int):=ajo (by omega);have h2:¬((n:Int)<0):=by omega
  have h3:¬((281474976710656:Int)<(n:Int)*(i.bytes:Int)):=by
   rw[Bj, <- Int.natCast_mul];omega
  by_cases sb:n*sz=0
  ·have lZ:n=0:=by
    rcases Nat.mul_eq_zero.1 sb with h|h
    ·exact h
    ·exact Bs h
   have az:news=[]:=by rw[wW,lZ,ajK]
   subst az;simp[Builtin.append_,asInt,asIntOf,h0,h1,run_underlying aN,run_underlying hu,jn ak,hw,h2,h3,sb,pb,hi,cH,yV,Jd,Question.forced,hold,tX,Go.newRow,grownCap];congr 2;apply Array.ext';simp
  ·simp[Builtin.append_,asInt,asIntOf,h0,h1,run_underlying aN,run_underlying hu,jn ak,hw,h2,h3,sb,pb,hi,cH,yV,Jd,Question.forced,hold,tX,Go.newRow,grownCap];congr 2;apply Array.ext';simp[wW]
end
section
variable{P:Program}{B:Nat}{aZ w:World}{X:al}{E:Env}
theorem afo{z:Value}{sz:Nat}(h:(c1 z).cells.length=sz):z.cells.size=sz:=by
 have:=(w7 (E:={f:=λ_=>none,n:=0}) z).length;simpa[h] using this
theorem Zw{c8:Array TypeId}{t u ty e sz b n hV mL:Nat}{z:Value}{d:TypeDesc}{base:Option Addr}{x:Value}{oy fg:List U}{olds news:List Value}{y:U}{af:al}(aE:bQ P B aZ X E w)
 (h0:c8[0]?=some t)(h1:c8[1]?=some u)(aN:P.underlying t=some (.slice e))(hu:P.underlying u=some d)
 (ak:eg P e=some sz)(aX:gC P e=some z)(ag:oG P e=some b)(ff:(c1 z).cells.length=sz)(oo:mL<hV+n)
 (hold:(Builtin.firstCells sz hV (.slice base hV mL)).run P w.drew= .ok olds.toArray w.drew)(ax:uM P d e sz n x news w)
 (aq:cg E oy olds)(hv:cg E fg news)(hc:olds.length=hV*sz)(gq:news.length=n*sz)(h:nZ e sz b (hV+n) (oy++fg) X=some (y,af)):
 Good P B aZ E w (Builtin.append_ c8 ty #[.slice base hV mL,x]) y af:=by
 unfold nZ at h;cases aP:Nat.ble (hV+n) 140737488355328 with
 |false=>simp[aP] at h
 |true=>
 cases a1:Nat.ble ((hV+n)*b) 140737488355328 with
 |false=>simp[aP,a1] at h
 |true=>
 simp only[aP,a1,Bool.and_self,cond_true,Option.some.injEq,Prod.mk.injEq] at h;obtain⟨rfl,rfl⟩:=h;have wo:=Nat.le_of_ble_eq_true aP;have oU:=Nat.le_of_ble_eq_true a1;have QT:=grownCap_ge w (hV+n) mL e;have gg:=ZD (ty:=ty) h0 h1 aN hu ak aX ag oo wo oU hold ax;have Ru:=afo ff
 obtain⟨aW,hle,ai,et⟩:=aff (ty:=e) (esz:=sz) (c:=grownCap w (hV+n) mL e) (lo:=0) (hi:=0) (ys:=oy++fg) (vs:=olds++news)
  (rest:=(Builtin.zeroCells z.cells (grownCap w (hV+n) mL e-(hV+n))).toList) aE.drew (aq.append hv) (by
    simp only[List.length_append,hc,gq,Array.length_toList,size_zeroCells,Ru, <- Nat.add_mul]
    congr 1;omega) (.inl rfl)
 refine⟨aW,_,_,hle,gg,⟨_,_,⟨ai,by omega⟩,by simp⟩,?_⟩;simpa[List.append_assoc] using et
theorem Zt{c8:Array TypeId}{t u ty e sz n k off len lo:Nat}{cap:Option Nat}{d:TypeDesc}{o:bH}{lN x:Value}{fg:List U}{news:List Value}{y:U}{af:al}(aE:bQ P B aZ X E w)
 (h0:c8[0]?=some t)(h1:c8[1]?=some u)(aN:P.underlying t=some (.slice e))(hu:P.underlying u=some d)
 (ak:eg P e=some sz)(ax:uM P d e sz n x news w)(hv:cg E fg news)(gq:fg.length=n*sz)(fm:dB fg=true)
 (aq:X.aV.get k=some o){id c ij:Nat}(ai:E k=some (id,c))(sn:lN= .slice (some ⟨id,off,none⟩) len ij)(oo:len+n<=ij)
 (bb:∀aW,cQ E aW->Den aW (.aF k off (len+n) cap lo) (.slice (some ⟨id,off,none⟩) (len+n) ij))
 (h:oS k off len cap lo (len+n) sz o fg X=some (y,af)):Good P B aZ E w (Builtin.append_ c8 ty #[lN,x]) y af:=by
 unfold oS at h;cases aP:Nat.ble (off+(len+n)*sz) o.n with
 |false=>simp[aP] at h
 |true=>
 cases cm:o.ro with
 |true=>simp[aP,cm] at h
 |false=>
 rw[show(Nat.ble (off+(len+n)*sz) o.n&&!o.ro)=true by simp[aP,cm]] at h;simp only[cond_true,Option.some.injEq,Prod.mk.injEq] at h;obtain⟨rfl,rfl⟩:=h;have wo:=Nat.le_of_ble_eq_true aP;subst sn;have hlen:off+len*sz+fg.length<=o.n:=by rw[gq];rw[Nat.add_mul] at wo;omega
 obtain⟨w',dc,et⟩:=aE.stored (Q:=P) aq ai cm hv fm hlen;exact⟨E,_,w',cQ.refl _,ZE (ty:=ty) h0 h1 aN hu ak oo ax (by rw[Addr.add_lit];exact dc),bb E (cQ.refl _),et⟩
theorem ak5{c8:Array TypeId}{t u ty e sz b n k len:Nat}{z:Value}{d:TypeDesc}{o:bH}{lN x:Value}{fg:List U}{news:List Value}{y:U}{af:al}(aE:bQ P B aZ X E w)
 (h0:c8[0]?=some t)(h1:c8[1]?=some u)(aN:P.underlying t=some (.slice e))(hu:P.underlying u=some d)
 (ak:eg P e=some sz)(aX:gC P e=some z)(ag:oG P e=some b)(ff:(c1 z).cells.length=sz)
 (ax:uM P d e sz n x news w)(hv:cg E fg news)(gq:fg.length=n*sz)(fm:dB fg=true)
 (aq:X.aV.get k=some o){id c:Nat}(ai:E k=some (id,c))(sn:lN= .slice (some ⟨id,0,none⟩) len c)(QQ:o.esz=sz)(Q3:o.loose=true)(iR:o.ro=false)(tV:o.ty=e)
 (h:rW k len (len+n) sz b o fg X=some (y,af)):Good P B aZ E w (Builtin.append_ c8 ty #[lN,x]) y af:=by
 unfold rW at h;cases aP:Nat.ble (len*sz) o.n with
 |false=>simp[aP] at h
 |true=>
 cases cm:Nat.ble (len+n) 140737488355328 with
 |false=>simp[aP,cm] at h
 |true=>
 cases cb:Nat.ble ((len+n)*b) 140737488355328 with
 |false=>simp[aP,cm,cb] at h
 |true=>
 simp only[aP,cm,cb,Bool.and_self,cond_true,force_eq,Option.some.injEq,Prod.mk.injEq] at h;obtain⟨rfl,rfl⟩:=h;have wo:=Nat.le_of_ble_eq_true aP;have al7:=Nat.le_of_ble_eq_true cm;have wq:=Nat.le_of_ble_eq_true cb;subst sn;obtain⟨il,a4,cO,fH,sc⟩:=aE.obj k o aq;obtain⟨wR,cs,Ma,lo,hi,Bh,ek,zf⟩:=fH.cs iR;rw[ai] at cO;cases cO;obtain⟨aqB,o8,aqc,_,kX⟩:=zf iR;have en:=kX Q3;rw[QQ] at en;have aep:news.length=n*sz:=by rw[hv.length,gq]
 have aex:∀(aW:Env) (nv:Array Value),cQ E aW->(∀j,j<len*sz->nv[j]?=cs[j]?)->(∀j,j<news.length->nv[len*sz+j]?=news[j]?)->
  ∀j y,bH.get {o with cq:=0,n:=(len+n)*sz,fL:=hl o.fL (len*sz) fg} j=some y->∃v,nv[j]?=some v/\Den aW y v:=by
  intro aW nv hle tH yM j y aa;have Bk:j<(len+n)*sz:=bH.yI aa;have oa:Nat.blt j ((len+n)*sz)=true:=by rw[Nat.blt_eq];exact Bk
  rw[Nat.add_mul] at Bk;unfold bH.get at aa;simp only[oa,cond_true] at aa;rw[yJ fg o.fL (len*sz) j] at aa;by_cases jj:len*sz<=j/\j<len*sz+fg.length
  ·rw[if_pos jj] at aa;cases bb:fg[j-len*sz]? with
   |none=>rw[List.getElem?_eq_none_iff] at bb;omega
   |some z=>
    simp only[bb] at aa;cases aa;obtain⟨v,Bt,Ew⟩:=(hv.mono hle).get _ _ bb;refine⟨v,?_,Ew⟩
    have:=yM (j-len*sz) (by have:=(List.getElem?_eq_some_iff.1 Bt).1;omega)
    rw[show len*sz+(j-len*sz)=j by omega] at this;rw[this];exact Bt
  ·rw[if_neg jj] at aa;have kC:j<len*sz:=by rw[gq] at jj;omega
   rw[tH j kC];have apn:Nat.blt j o.n=true:=by rw[Nat.blt_eq];omega
   obtain⟨v,Bt,Ew⟩:=ek j y (by unfold bH.get;simp only[apn,cond_true];exact aa);exact⟨v,Bt,Ew.mono hle⟩
 by_cases oo:len+n<=c
 ·
  have aqs:len*sz+n*sz<=cs.size:=by rw[en, <- Nat.add_mul];exact Nat.mul_le_mul_right _ oo
  obtain⟨w',nv,dc,Q9,aqA,sk,dP,vg,ka,QJ,tL⟩:=XX P id (len*sz) Ma lo hi news 0 w cs Bh (Ol hv fm) (λj aa=>⟨by omega,by rcases o8 with e|e<;>simp<;>omega⟩);have gg:=ZE (ty:=ty) (w':=w') h0 h1 aN hu ak oo ax (by rw[Addr.add_lit,Nat.zero_add];exact dc);refine⟨E.put X.next id c,_,w',Env.sy (aE.fresh _ (Nat.le_refl _)) aE.km,gg,⟨id,c,⟨Env.l5 _ _ _ _,by omega⟩,by simp⟩,?_⟩;refine aE.renamed (o':={o with cq:=0,n:=(len+n)*sz,fL:=hl o.fL (len*sz) fg}) aq ai iR iR Q9 aqA sk dP vg (.inl ⟨wR,nv,Ma,lo,hi,ka,?_,λ_=>⟨aqB,by rw[QJ];exact o8,?_,λh=>(by rw[Q3] at h;cases h),λ_=>by rw[QJ,en, <- QQ]⟩⟩)
  ·refine aex _ _ (Env.sy (aE.fresh _ (Nat.le_refl _)) aE.km) (λj aa=>?_) (λj aa=>?_)
   ·rw[tL j,if_neg (by omega)]
   ·rw[tL (len*sz+j),if_pos (by omega)];congr 1;omega
  ·rw[QJ,Nat.add_mul];exact aqs
 ·
  have hlen:len*sz<=cs.size:=by omega
  have hold:(Builtin.firstCells sz len (.slice (some ⟨id,0,none⟩) len c)).run P w.drew= .ok (cs.toList.take (len*sz)).toArray w.drew:=by
   have:=run_loadCells_list (P:=P) (w:=w.drew) ⟨id,0,none⟩ (cs.toList.take (len*sz)) (λj v aa=>by
    rw[Addr.add_lit,Nat.zero_add];rw[List.getElem?_take] at aa;have apm:w.drew.heap[id]?=some (.cells cs Ma (lo,hi)):=Bh;split at aa
    ·simpa[World.cell?,apm] using aa
    ·cases aa)
   rw[List.length_take,Array.length_toList,Nat.min_eq_left hlen] at this;simpa[Builtin.firstCells] using this
  have QT:=grownCap_ge w (len+n) c e;have gg:=ZD (ty:=ty) h0 h1 aN hu ak aX ag (by omega) al7 wq hold ax;have Ru:=afo ff;have yN:=(aE.arh k).drew;refine⟨E.put X.next w.heap.size (grownCap w (len+n) c e),_,_,Env.sy (aE.fresh _ (Nat.le_refl _)) aE.km,gg,⟨_,_,⟨Env.l5 _ _ _ _,by omega⟩,by simp⟩,?_⟩;have a9:(cs.toList.take (len*sz)).length=len*sz:=by rw[List.length_take,Array.length_toList,Nat.min_eq_left hlen]
  have:=yN.new {o with cq:=0,n:=(len+n)*sz,fL:=hl o.fL (len*sz) fg} (cs.toList.take (len*sz)++(news++(Builtin.zeroCells z.cells (grownCap w (len+n) c e-(len+n))).toList)).toArray
   (grownCap w (len+n) c e) 0 0 iR wR (λaW hle=>?_)
  ·rw[show e=o.ty from tV.symm];rw[<- tV] at this;exact this
  ·refine⟨_,_,0,0,rfl,aex aW _ hle (λj aa=>?_) (λj aa=>?_),λ_=>⟨rfl,.inl rfl,?_,λh=>(by rw[Q3] at h;cases h),λ_=>?_⟩⟩
   ·rw[List.getElem?_toArray,List.getElem?_append_left (by rw[a9];exact aa),List.getElem?_take,if_pos aa];simp
   ·rw[List.getElem?_toArray,List.getElem?_append_right (by rw[a9];omega),a9,show len*sz+j-len*sz=j by omega,List.getElem?_append_left aa]
   ·simp only[List.size_toArray,List.length_append,a9,aep,Nat.add_mul];omega
   ·simp only[List.size_toArray,List.length_append,a9,aep,Array.length_toList,size_zeroCells,Ru];rw[QQ, <- Nat.add_assoc, <- Nat.add_mul, <- Nat.add_mul];congr 1;omega
theorem ZB{c8:Array TypeId}{t u ty e sz b n k off len lo:Nat}{cap:Option Nat}{z:Value}{d:TypeDesc}{lN x:Value}{fg:List U}{news:List Value}{y:U}{af:al}(aE:bQ P B aZ X E w)
 (h0:c8[0]?=some t)(h1:c8[1]?=some u)(aN:P.underlying t=some (.slice e))(hu:P.underlying u=some d)
 (dP:eg P e=some sz)(aX:gC P e=some z)(ag:oG P e=some b)(wq:(c1 z).cells.length=sz)(aP:1<=sz)(ax:uM P d e sz n x news w)(hv:cg E fg news)(oU:fg.length=n*sz)
 (gq:news.length=n*sz)(cm:dB fg=true)(ak:Den E (.aF k off len cap lo) lN)
 (h:kR e sz b k off len cap lo n fg X=some (y,af)):Good P B aZ E w (Builtin.append_ c8 ty #[lN,x]) y af:=by
 unfold kR at h;split at h<;>try(cases h;done)
 rename_i o aq;rw[force_eq] at h;obtain⟨il,a4,cO,fH,sc⟩:=aE.obj k o aq;cases cap with
 |some cp=>
  obtain⟨id,c,ai,rfl⟩:=ak;simp only at h;cases aQ:Nat.ble (len+n) cp with
  |true=>
   simp only[aQ,cond_true] at h;exact Zt (cap:=some cp) (lo:=lo) aE h0 h1 aN hu dP ax hv oU cm aq ai rfl (Nat.le_of_ble_eq_true aQ) (λaW hle=>⟨id,c,hle.sub _ _ ai,rfl⟩) h
  |false=>
   simp only[aQ,cond_false] at h;split at h<;>try(cases h;done)
   rename_i oy aqk
   have sl:cp<len+n:=by
    rcases Nat.lt_or_ge cp (len+n) with h'|h'
    ·exact h'
    ·have:Nat.ble (len+n) cp=true:=by rw[Nat.ble_eq];exact h'
     rw[aQ] at this;cases this
   rw[ai] at cO;cases cO;obtain⟨olds,aqe,hc,aqd⟩:=EN fH _ off oy aqk
   have hold:(Builtin.firstCells sz len (.slice (some ⟨il,off,none⟩) len cp)).run P w.drew= .ok olds.toArray w.drew:=by
    have:=run_loadCells_list (P:=P) (w:=w.drew) ⟨il,off,none⟩ olds (λj v aa=>by
     rw[Addr.add_lit]
     exact aqd j v aa)
    rw[hc] at this;simpa[Builtin.firstCells] using this
   exact Zw aE h0 h1 aN hu dP aX ag wq sl hold ax aqe hv hc gq h
 |none=>
  obtain⟨id,c,⟨ai,hle⟩,rfl⟩:=ak;simp only at h;cases g1:Nat.beq off 0 with
  |false=>simp[g1] at h
  |true=>
  cases g2:Nat.beq lo 0 with
  |false=>simp[g1,g2] at h
  |true=>
  cases g3:Nat.beq o.esz sz with
  |false=>simp[g1,g2,g3] at h
  |true=>
  cases g4:o.loose with
  |false=>simp[g1,g2,g3,g4] at h
  |true=>
  cases g5:o.ro with
  |true=>simp[g1,g2,g3,g4,g5] at h
  |false=>
  cases g6:Nat.beq o.ty e with
  |false=>simp[g1,g2,g3,g4,g5,g6] at h
  |true=>
  simp only[g1,g2,g3,g4,g5,g6,Bool.and_self,Bool.not_false,cond_true] at h;have aos:=Nat.eq_of_beq_eq_true g1;have aot:=Nat.eq_of_beq_eq_true g2;have adu:=Nat.eq_of_beq_eq_true g3;have aou:=Nat.eq_of_beq_eq_true g6;subst aos;subst aot;rw[Nat.sub_zero];rw[ai] at cO;cases cO;obtain⟨_,cs,Ma,dJ,fF,Bh,ek,zf⟩:=fH.cs g5;obtain⟨_,_,aqc,_,kX⟩:=zf g5;have en:=kX g4;rw[adu] at en;cases aQ:Nat.ble ((len+n)*sz) o.n with
  |true=>
   simp only[aQ,cond_true] at h;have sl:=Nat.le_of_ble_eq_true aQ
   have oo:len+n<=a4:=by
    have h1:(len+n)*sz<=a4*sz:=by omega
    exact Nat.le_of_mul_le_mul_right h1 (by omega)
   exact Zt (cap:=none) (lo:=0) aE h0 h1 aN hu dP ax hv oU cm aq ai rfl oo (λaW hle=>⟨il,a4,⟨hle.sub _ _ ai,by omega⟩,by simp⟩) h
  |false=>
   simp only[aQ,cond_false] at h;exact ak5 aE h0 h1 aN hu dP aX ag wq ax hv oU cm aq ai rfl adu g4 g5 aou h
theorem aln{c8:Array TypeId}{t u ty:Nat}{d:TypeDesc}{s x y:U}{lN pA:Value}{af:al}(aE:bQ P B aZ X E w)(h0:c8[0]?=some t)(h1:c8[1]?=some u)(hu:P.underlying u=some d)(aI:sF d=true)
 (ak:Den E s lN)(ax:Den E x pA)(h:po P t s x X=some (y,af)):Good P B aZ E w (Builtin.append_ c8 ty #[lN,pA]) y af:=by
 unfold po at h;split at h<;>try(cases h;done)
 rename_i e aN;split at h<;>try(cases h;done)
 rename_i sz z b dP aX ag;split at h<;>try(cases h;done)
 rename_i n fg jR;cases aP:Nat.ble 1 sz with
 |false=>simp[aP] at h
 |true=>
 cases a1:Nat.beq fg.length (n*sz) with
 |false=>simp[aP,a1] at h
 |true=>
 cases cm:dB fg with
 |false=>simp[aP,a1,cm] at h
 |true=>
 cases cb:Nat.beq (c1 z).cells.length sz with
 |false=>simp[aP,a1,cm,cb] at h
 |true=>
 simp only[aP,a1,cm,cb,Bool.and_self,cond_true] at h;have oU:=Nat.eq_of_beq_eq_true a1;have wq:=Nat.eq_of_beq_eq_true cb;obtain⟨news,hv,hlen,Jq⟩:=Zr (P:=P) aE ax jR oU;have gq:news.length=n*sz:=by rw[hv.length,oU]
 have Jr:∀cV:World,cV.heap=w.heap->(Builtin.firstCells sz n pA).run P cV= .ok news.toArray cV:=λcV cj=>by
  have:=Jq cV cj n (Nat.le_refl _)
  rwa[<- gq,List.take_length] at this
 split at h
 ·
  rename_i a c;have az:lN=_:=ak;subst az;cases bV:Nat.beq a 0 with
  |false=>simp[bV] at h
  |true=>
  cases ae:Nat.beq c 0 with
  |false=>simp[bV,ae] at h
  |true=>
  simp only[bV,ae,Bool.and_self,cond_true] at h;have DS:=Nat.eq_of_beq_eq_true bV;have fk:=Nat.eq_of_beq_eq_true ae;subst DS;subst fk;cases lZ:Nat.beq n 0 with
  |true=>
   have Jy:=Nat.eq_of_beq_eq_true lZ;subst Jy;simp only[lZ,cond_true,Option.some.injEq,Prod.mk.injEq] at h;obtain⟨rfl,rfl⟩:=h;refine⟨E,.slice none 0 0,w,cQ.refl _,?_,rfl,aE⟩;have au:=Jr w rfl
   cases d<;>first
    |(cases aI;done)
    |simp[Builtin.append_,h0,h1,run_underlying aN,run_underlying hu,jn dP,hlen,au]
  |false=>
   have Jy:=Nat.ne_of_beq_eq_false lZ;simp only[lZ,cond_false] at h;have h':nZ e sz b (0+n) ([]++fg) X=some (y,af):=by simpa using h
   exact Zw (oy:=[]) (olds:=[]) aE h0 h1 aN hu dP aX ag wq (by omega) (by simp[Builtin.firstCells]) (.AT aI (λcV _=>hlen cV) Jr) rfl hv (by simp) gq h'
 ·exact ZB aE h0 h1 aN hu dP aX ag wq (Nat.le_of_ble_eq_true aP) (.AT aI (λcV _=>hlen cV) Jr) hv oU gq cm ak h
 ·rename_i k;obtain⟨uW,cp,rfl⟩:=ak;cases lZ:Nat.beq n 0 with
  |false=>simp[lZ] at h
  |true=>
   have Jy:=Nat.eq_of_beq_eq_true lZ;subst Jy;simp only[lZ,cond_true,Option.some.injEq,Prod.mk.injEq] at h;obtain⟨rfl,rfl⟩:=h;refine⟨E,.slice (some uW) 0 cp,w,cQ.refl _,?_,⟨uW,cp,rfl⟩,aE⟩;have au:=Jr w rfl
   have zc:news=[]:=by
    have:news.length=0:=by simpa using gq
    exact List.length_eq_zero_iff.1 this
   subst zc;have dc:∀a:Addr,(storeCells a ([]:List Value)).run P w= .ok () w:=λ_=>rfl
   cases d<;>first
    |(cases aI;done)
    |simp[Builtin.append_,h0,h1,run_underlying aN,run_underlying hu,jn dP,hlen,au,dc]
 ·cases h
theorem aaz{c:U}{v:Value}(h:Den E c v):∀n,cg E (List.replicate n c) (List.replicate n v)
 |0=>rfl
 |n+1=>⟨v,_,h,aaz h n,rfl⟩
theorem aGd(v:Value)(n:Nat):(Builtin.zeroCells #[v] n).toList=List.replicate n v:=by
 apply List.ext_getElem
 ·simp[Builtin.zeroCells]
 ·intro i h1 h2;simp[Builtin.zeroCells,Nat.mod_one]
theorem Zg{c:U}(h:c.one=true):∀n,dB (List.replicate n c)=true
 |0=>rfl
 |n+1=>by simp[List.replicate_succ,dB,h,Zg h n]
theorem alj{c8:Array TypeId}{t u ty:Nat}{d:TypeDesc}{s x y:U}{lN pA:Value}{af:al}(aE:bQ P B aZ X E w)(h0:c8[0]?=some t)(h1:c8[1]?=some u)(hu:P.underlying u=some d)(aI:vM d=true)
 (ak:Den E s lN)(ax:Den E x pA)(h:qh P t s x X=some (y,af)):Good P B aZ E w (Builtin.append_ c8 ty #[lN,pA]) y af:=by
 unfold qh at h;split at h<;>try(cases h;done)
 rename_i e k n aN;have az:pA=_:=ax;subst az;split at h<;>try(cases h;done)
 rename_i sz z b dP aX ag;split at h<;>try(cases h;done)
 rename_i c ae;cases aP:Nat.beq sz 1 with
 |false=>simp[aP] at h
 |true=>
 cases a1:c.one with
 |false=>simp[aP,a1] at h
 |true=>
 cases cm:Nat.ble n 140737488355328 with
 |false=>simp[aP,a1,cm] at h
 |true=>
 cases cb:Nat.ble (n*b) 140737488355328 with
 |false=>simp[aP,a1,cm,cb] at h
 |true=>
 simp only[aP,a1,cm,cb,Bool.and_self,cond_true] at h;have wo:=Nat.eq_of_beq_eq_true aP;subst wo;split at h<;>try(cases h;done)
 have o5:=w7 (E:=E) z;rw[ae] at o5;obtain⟨v,vs,Bt,Ew,aqD⟩:=o5;cases Ew
 have oq:z.cells= #[v]:=by
  apply Array.ext';rw[aqD]
 obtain⟨ov,wT⟩:∃ov,d= .int ov:=by
  cases d<;>first|(cases aI;done)|exact⟨_,rfl⟩
 refine ZB (news:=List.replicate n v) aE h0 h1 aN hu dP aX ag (by rw[ae];rfl) (Nat.le_refl _)
  (.Gw ov _ z b wT rfl aX ag (Nat.le_of_ble_eq_true cm) (Nat.le_of_ble_eq_true cb) (by rw[oq,aGd]) (by omega)) (aaz Bt n) (by simp) (by simp) (Zg a1 n) ak h
end
section
variable{P:Program}{B:Nat}{aZ w:World}{X:al}{E:Env}
theorem cg.takeN{ys:List U}{vs:List Value}(n:Nat)(h:cg E ys vs):cg E (ys.take n) (vs.take n):=cg.take n h
theorem Zh:∀{ys:List U} (n:Nat),dB ys=true->dB (ys.take n)=true
 | [],n,_=>by simp[dB]
 |y::ys,0,_=>rfl
 |y::ys,n+1,h=>by
  simp only[dB,Bool.and_eq_true] at h;simp only[List.take_succ_cons,dB,Bool.and_eq_true];exact⟨h.1,Zh n h.2⟩
theorem amU{c8:Array TypeId}{t ty:Nat}{s x y:U}{lN pA:Value}{af:al}(aE:bQ P B aZ X E w)(h0:c8[0]?=some t)
 (ak:Den E s lN)(ax:Den E x pA)(h:rC P t s x X=some (y,af)):Good P B aZ E w (Builtin.copy_ c8 ty #[lN,pA]) y af:=by
 unfold rC at h;split at h<;>try(cases h;done)
 rename_i e aN;split at h<;>try(cases h;done)
 rename_i sz dP;split at h<;>try(cases h;done)
 rename_i n fg jR;cases a1:Nat.beq fg.length (n*sz) with
 |false=>simp[a1] at h
 |true=>
 cases cm:dB fg with
 |false=>simp[a1,cm] at h
 |true=>
 simp only[a1,cm,Bool.and_self,cond_true] at h;have oU:=Nat.eq_of_beq_eq_true a1;obtain⟨news,hv,hlen,Jq⟩:=Zr (P:=P) aE ax jR oU;have gq:news.length=n*sz:=by rw[hv.length,oU]
 split at h
 ·rename_i a c;have az:lN=_:=ak;subst az;cases bV:Nat.beq a 0 with
  |false=>simp[bV] at h
  |true=>
  have DS:=Nat.eq_of_beq_eq_true bV;subst DS;simp only[bV,cond_true,Option.some.injEq,Prod.mk.injEq] at h;obtain⟨rfl,rfl⟩:=h;have au:=Jq w rfl 0 (Nat.zero_le _);refine⟨E,.int .i64 0,w,cQ.refl _,?_,rfl,aE⟩;simp[Builtin.copy_,h0,run_underlying aN,jn dP,hlen,au,goInt]
 ·rename_i k off len cap lo;split at h<;>try(cases h;done)
  rename_i o aq;rw[force_eq] at h;cases cb:Nat.ble (off+len*sz) o.n with
  |false=>simp[cb] at h
  |true=>
  cases lq:o.ro with
  |true=>simp[cb,lq] at h
  |false=>
  rw[show(Nat.ble (off+len*sz) o.n&&!o.ro)=true by simp[cb,lq]] at h;simp only[cond_true,Option.some.injEq,Prod.mk.injEq] at h;obtain⟨rfl,rfl⟩:=h;have wq:=Nat.le_of_ble_eq_true cb
  have Eo:∃id c ij,E k=some (id,c)/\lN= .slice (some ⟨id,off,none⟩) len ij:=by
   cases cap with
   |none=>obtain⟨id,c,az,ay⟩:=ak;exact⟨id,c,_,az.1,ay⟩
   |some cap=>obtain⟨id,c,az,ay⟩:=ak;exact⟨id,c,_,az,ay⟩
  obtain⟨id,c,ij,ai,rfl⟩:=Eo;have aek:Nat.min n len<=n:=Nat.min_le_left _ _;have ap8:Nat.min n len<=len:=Nat.min_le_right _ _
  have y4:off+(fg.take (Nat.min n len*sz)).length<=o.n:=by
   have:=Nat.mul_le_mul_right sz ap8
   rw[List.length_take];omega
  obtain⟨w',dc,et⟩:=aE.stored (Q:=P) aq ai lq (cg.takeN (Nat.min n len*sz) hv) (Zh _ cm) y4;have au:=Jq w rfl _ aek;refine⟨E,.int .i64 (Nat.min n len),w',cQ.refl _,?_,rfl,et⟩;simp[Builtin.copy_,h0,run_underlying aN,jn dP,hlen,au,dc,goInt]
 ·cases h
theorem EG{e:TypeId}(h:hT P e=true):P.underlying e=some (.int .u8):=by
 unfold hT at h;split at h<;>first|assumption|cases h
theorem ZQ:∀{ys:List U} {lJ:List Int} {vs:List Value},bytesOf ys=some lJ->cg E ys vs->vs=lJ.map (Value.int .u8)
 | [],lJ,vs,h,aI=>by simp[bytesOf] at h;subst h;cases aI;rfl
 | .int .u8 n::ys,lJ,vs,h,⟨v,Co,hv,aI,e⟩=>by
   simp only[bytesOf] at h;split at h<;>try(cases h;done)
   rename_i aG9 tQ;cases h;have az:v=_:=hv;subst e;subst az;rw[ZQ tQ aI];rfl
theorem aom(cP:World)(cs:Array Value)(e:TypeId):(cP.alloc (.cells cs e)).freeze ⟨cP.heap.size,cs.size,none⟩ 1=cP.alloc (.cells cs e (cs.size,cs.size+1)):=by
 have:∀f:Obj->Obj,(cP.heap.push (Obj.cells cs e)).modify cP.heap.size f=cP.heap.push (f (.cells cs e)):=by
  intro f;apply Array.ext_getElem?;intro i;rw[Array.getElem?_modify,Array.getElem?_push,Array.getElem?_push];by_cases h:cP.heap.size=i
  ·subst h;simp
  ·simp[h,Ne.symm h]
 have ay:(cP.alloc (.cells cs e)).heap=cP.heap.push (.cells cs e):=rfl;unfold World.freeze;rw[if_neg (by decide),ay,this];rfl
theorem bQ.marked{off:Nat}(aE:bQ P B aZ X E w){k id c:Nat}{o:bH}(aq:X.aV.get k=some o)(ai:E k=some (id,c))(iR:o.ro=false):
 ∃w',(markStringish ⟨id,off,none⟩).run P w= .ok () w'/\bQ P B aZ X E w':=by
 obtain⟨i',a4,cO,aqq,sc⟩:=aE.obj k o aq;obtain⟨wR,cs,ty,lo,hi,ag,ae,zf⟩:=aqq.cs iR;rw[ai] at cO;cases cO;obtain⟨tV,o8,aR,o9,kX⟩:=zf iR;have zh:w.shape? id=some (ty,cs.size):=by simp[World.shape?,ag]
 have ka:(w.freeze ⟨id,cs.size,none⟩ 1).heap[id]?=some (.cells cs ty (if lo==hi then(cs.size,cs.size+1) else(min lo cs.size,max hi (cs.size+1)))):=by
  simp[World.freeze,Array.getElem?_modify,ag]
 have vg:∀j,j≠id->(w.freeze ⟨id,cs.size,none⟩ 1).heap[j]?=w.heap[j]?:=λj aa=>by
  simp[World.freeze,Array.getElem?_modify,Ne.symm aa]
 have db:∃l h,(if lo==hi then(cs.size,cs.size+1) else(min lo cs.size,max hi (cs.size+1)))=(l,h)/\(l=h\/cs.size<=l):=by
  by_cases e:lo=hi
  ·exact⟨cs.size,cs.size+1,by simp[e],.inr (Nat.le_refl _)⟩
  ·refine⟨min lo cs.size,max hi (cs.size+1),by simp[e],.inr ?_⟩;rcases o8 with h|h
   ·exact absurd h e
   ·omega
 obtain⟨l,h,ap0,db⟩:=db;rw[ap0] at ka;refine⟨w.freeze ⟨id,cs.size,none⟩ 1,by simp[markStringish,zh],aE.os,aE.tape,aE.output,?_,λj aa=>?_,λj cd aa=>?_,aE.inj,aE.fresh,aE.ny,aE.km⟩
 ·have:=aE.base
  simpa[World.freeze] using this
 ·rw[vg j (by have:=sc (.inl iR);omega)];exact aE.gB j aa
 ·by_cases jk:j=k
  ·subst jk;rw[aq] at aa;cases aa;exact⟨id,c,ai,.inl ⟨wR,cs,ty,l,h,ka,ae,λ_=>⟨tV,db,aR,o9,kX⟩⟩,sc⟩
  ·obtain⟨i,a1,he,fH,yP⟩:=aE.obj j cd aa;have ca:i≠id:=λay=>jk (aE.inj j k cd o i a1 c aa aq he (by rw[ai,ay]))
   exact⟨i,a1,he,by rw[vg i ca];exact fH,yP⟩
theorem amN{s d:TypeId}{x y:U}{u:Value}{af:al}(aE:bQ P B aZ X E w)(ax:Den E x u)(h:jP P s d x X=some (y,af)):Good P B aZ E w (convert s d u) y af:=by
 unfold jP at h;split at h
 ·rename_i e b ak aI;cases aP:hT P e with
  |false=>simp[aP] at h
  |true=>
  cases a1:Nat.ble b.size 140737488355328 with
  |false=>simp[aP,a1] at h
  |true=>
  simp only[aP,a1,Bool.and_self,cond_true,Option.some.injEq,Prod.mk.injEq] at h;obtain⟨rfl,rfl⟩:=h;have he:=EG aP;have az:u=_:=ax;subst az;have gg:=Lib.run_convert_string_bytes w s d e b ak aI he;have QT:=grownCap_ge w b.size 0 e
  have dP:(Lib.bytesCells w e b).size=grownCap w b.size 0 e:=by
   have:b.data.size=b.size:=rfl
   simp[Lib.bytesCells,this];omega
  have ap1:Lib.bytesCells w e b=((b.data.toList.map λz:UInt8=>Value.int .u8 z.toNat)++List.replicate (grownCap w b.size 0 e-b.size) (Value.int .u8 0)).toArray:=by
   apply Array.ext';simp[Lib.bytesCells]
  obtain⟨aW,hle,ai,et⟩:=aff (ty:=e) (esz:=1) (c:=grownCap w b.size 0 e) (lo:=grownCap w b.size 0 e) (hi:=grownCap w b.size 0 e+1) (ys:=xB b) (vs:=b.data.toList.map λz:UInt8=>Value.int .u8 z.toNat)
   (rest:=List.replicate (grownCap w b.size 0 e-b.size) (.int .u8 0)) aE.drew (aaC b) (by
     have:b.data.size=b.size:=rfl
     simp[this];omega) (.inr (by omega))
  refine⟨aW,_,_,hle,gg,⟨_,_,⟨ai,by omega⟩,by simp⟩,?_⟩
  have hw:Lib.bytesWorld w e b=w.drew.alloc (.cells (Lib.bytesCells w e b) e (grownCap w b.size 0 e,grownCap w b.size 0 e+1)):=by
   unfold Lib.bytesWorld
   have:=aom w.drew (Lib.bytesCells w e b) e
   rw[<- dP];exact this
  rw[hw,ap1];exact et
 ·rename_i bd e k off n cap lo ak aI;cases aP:hT P e with
  |false=>simp[aP] at h
  |true=>
  cases a1:Nat.beq s d with
  |false=>simp[aP,a1] at h
  |true=>
  have oU:=Nat.eq_of_beq_eq_true a1;subst oU;simp only[aP,a1,Bool.and_self,cond_true] at h;split at h<;>try(cases h;done)
  rename_i o aq;cases cm:o.ro with
  |true=>simp[cm] at h
  |false=>
  simp only[cm,cond_false,Option.some.injEq,Prod.mk.injEq] at h;obtain⟨rfl,rfl⟩:=h;have he:=EG aP
  have fT:∃id c ij,E k=some (id,c)/\u= .slice (some ⟨id,off,none⟩) n ij:=by
   cases cap with
   |none=>obtain⟨id,c,az,ay⟩:=ax;exact⟨id,c,_,az.1,ay⟩
   |some cap=>obtain⟨id,c,az,ay⟩:=ax;exact⟨id,c,_,az,ay⟩
  obtain⟨id,c,ij,ai,hu⟩:=fT;obtain⟨w',aQ,et⟩:=aE.marked (P:=P) (off:=off) aq ai cm;refine⟨E,u,w',cQ.refl _,?_,ax,et⟩;subst hu;rw[ak] at aI;cases aI;simp[convert,run_underlying ak,run_underlying he,aQ]
 ·rename_i e a c ak aI;cases aP:hT P e with
  |false=>simp[aP] at h
  |true=>
  simp only[aP,cond_true,Option.some.injEq,Prod.mk.injEq] at h;obtain⟨rfl,rfl⟩:=h;have he:=EG aP;have az:u=_:=ax;subst az;exact⟨E,.string .empty,w,cQ.refl _,by simp[convert,run_underlying ak,run_underlying aI,run_underlying he,Conv.bytesToString],rfl,aE⟩
 ·rename_i e k ak aI;cases aP:hT P e with
  |false=>simp[aP] at h
  |true=>
  simp only[aP,cond_true,Option.some.injEq,Prod.mk.injEq] at h;obtain⟨rfl,rfl⟩:=h;have he:=EG aP;obtain⟨uW,cp,rfl⟩:=ax;have aJ:=run_loadCells_list (P:=P) (w:=w) uW [] (λj v aa=>by simp at aa);have aQ:=run_bytesToString (P:=P) w uW 0 cp [] (by simpa using aJ);exact⟨E,.string .empty,w,cQ.refl _,by simp[convert,run_underlying ak,run_underlying aI,run_underlying he,aQ],rfl,aE⟩
 ·rename_i e k off n cap lo ak aI;cases aP:hT P e with
  |false=>simp[aP] at h
  |true=>
  simp only[aP,cond_true] at h;split at h<;>try(cases h;done)
  rename_i o aq;split at h<;>try(cases h;done)
  rename_i ys eU;split at h<;>try(cases h;done)
  rename_i lJ tQ;cases h;have he:=EG aP
  have fT:∃id c ij,E k=some (id,c)/\u= .slice (some ⟨id,off,none⟩) n ij:=by
   cases cap with
   |none=>obtain⟨id,c,az,ay⟩:=ax;exact⟨id,c,_,az.1,ay⟩
   |some cap=>obtain⟨id,c,az,ay⟩:=ax;exact⟨id,c,_,az,ay⟩
  obtain⟨id,c,ij,ai,rfl⟩:=fT;obtain⟨il,a4,cO,fH,_⟩:=aE.obj k o aq;rw[ai] at cO;cases cO;obtain⟨vs,h1,h2,h3⟩:=EN fH _ off ys eU;have sq:=ZQ tQ h1;have aJ:=run_loadCells_list (P:=P) (w:=w) ⟨id,off,none⟩ vs (λj v aa=>by rw[Addr.add_lit];exact h3 j v aa);rw[h2,sq] at aJ;have aQ:=run_bytesToString (P:=P) w ⟨id,off,none⟩ n ij lJ aJ;exact⟨E,_,w,cQ.refl _,by simp[convert,run_underlying ak,run_underlying aI,run_underlying he,aQ,HA],rfl,aE⟩
 ·cases h
theorem ame{t ty:TypeId}{c8:Array TypeId}{x z:U}{u:Value}(aN:c8[0]?=some t)(ax:Den E x u)(h:Oa P t x=some z):iH P E w (Builtin.cap_ c8 ty #[u]) z:=by
 unfold Oa at h;split at h<;>(try(cases h;done))<;>rename_i hu
 ·obtain⟨id,c,_,rfl⟩:=ax;cases h;exact⟨_,by simp[Builtin.cap_,aN,eb hu];rfl,rfl⟩
 ·have az:u=_:=ax;subst az;simp only[fP,Option.some.injEq] at h;subst h;exact⟨_,by simp[Builtin.cap_,aN,eb hu];rfl,rfl⟩
 ·have az:u=_:=ax;subst az;simp only[Option.some.injEq] at h;subst h;exact⟨_,by simp[Builtin.cap_,aN,eb hu];rfl,rfl⟩
theorem arO{ty:TypeId}{c8:Array TypeId}{x y z:U}{u v:Value}(ax:Den E x u)(bb:Den E y v)(h:EP x y=some z):iH P E w (Builtin.min_ c8 ty #[u,v]) z:=by
 unfold EP at h;split at h<;>(try(cases h;done))<;>(have az:u=_:=ax;have ay:v=_:=bb;subst az;subst ay;cases h)
 all_goals exact⟨_,by simp[Builtin.min_,Builtin.min2];rfl,by simp[Den,Bool.cond_decide]⟩
theorem arL{ty:TypeId}{c8:Array TypeId}{x y z:U}{u v:Value}(ax:Den E x u)(bb:Den E y v)(h:EO x y=some z):iH P E w (Builtin.max_ c8 ty #[u,v]) z:=by
 unfold EO at h;split at h<;>(try(cases h;done))<;>(have az:u=_:=ax;have ay:v=_:=bb;subst az;subst ay;cases h)
 all_goals exact⟨_,by simp[Builtin.max_,Builtin.max2];rfl,by simp[Den,Bool.cond_decide]⟩
theorem aBc{t:TypeId}{x y:U}{u:Value}{af:al}(aE:bQ P B aZ X E w)(ax:Den E x u)(h:z4 P t x X=some (y,af)):Good P B aZ E w (Instr.range t u) y af:=by cases h
theorem pL.afC{s:pK}{ob:Obj}(h:pL P E s (some ob)):∀c e f,ob≠ .cells c e f:=by
 intro c e f cj;subst cj;cases s with
 |cells=>exact h
 |iter s pos=>have h':(some (Obj.cells c e f))=some (.stringIter s pos):=h;cases h'
 |map es clock=>obtain⟨l,h1,_⟩:=h;cases h1
 |loop st iC ord me N F ps a a1 b=>obtain⟨_,r,h1,_⟩:=h;cases h1
 |jO t=>have h':(some (Obj.cells c e f))=some (.deferred (bif t then none else some [])):=h;cases h'
theorem bQ.z6(aE:bQ P B aZ X E w){k:Nat}{o:bH}(aq:X.aV.get k=some o)(ak:o.sp≠ .cells):∃id c,E k=some (id,c)/\pL P E o.sp w.heap[id]?/\o.n=0/\o.ro=true/\B<=id:=by
 obtain⟨id,c,ai,fH,yM⟩:=aE.obj k o aq;rcases fH with⟨h,_⟩|⟨h1,h2,h3⟩
 ·exact absurd h ak
 ·exact⟨id,c,ai,h1,h2,h3,yM (.inr ak)⟩
theorem bQ.XO(aE:bQ P B aZ X E w){k id c:Nat}{o:bH}{s:pK}{obj':Obj}(aq:X.aV.get k=some o)(ak:o.sp≠ .cells)(ai:E k=some (id,c))(aQ:pL P E s (some obj'))(Q:Program):
 ∃w',(setObj id obj').run Q w= .ok () w'/\bQ P B aZ {X with aV:=X.aV.put k {o with cq:=o.cq+1,sp:=s}} E w':=by
 obtain⟨il,a4,cO,fH,lZ,iR,sc⟩:=aE.z6 aq ak;rw[ai] at cO;cases cO;obtain⟨ob,oi⟩:=fH.there;have apL:id<w.heap.size:=(Array.getElem?_eq_some_iff.1 oi).1;rw[oi] at fH;have Ej:=fH.afC;refine⟨{w with heap:=w.heap.setIfInBounds id obj'},by cases ob<;>first|exact absurd rfl (Ej _ _ _)|simp[setObj,Sem.run,oi],?_⟩;refine⟨aE.os,aE.tape,aE.output,by simpa using aE.base,λj aa=>?_,λj cd aa=>?_,λj fp dv cy i aP a1 aa hb he fS=>?_,aE.fresh,aE.ny,aE.km⟩
 ·show(w.heap.setIfInBounds id _)[j]?=_;rw[Array.getElem?_setIfInBounds_ne (by omega)];exact aE.gB j aa
 ·rcases cE.iM aa with⟨e,ay⟩|⟨e,aJ⟩
  ·subst e;subst ay;refine⟨id,c,ai,.inr ⟨?_,lZ,iR⟩,λ_=>sc⟩;show pL P E s (w.heap.setIfInBounds id _)[id]?;rw[Array.getElem?_setIfInBounds_self_of_lt apL];exact aQ
  ·obtain⟨i,a4,he,aQ,ka⟩:=aE.obj j cd aJ;have ca:i≠id:=λay=>e (aE.inj j k cd o i a4 c aJ aq he (by rw[ai,ay]))
   refine⟨i,a4,he,?_,ka⟩;show lT P E cd (w.heap.setIfInBounds id _)[i]? a4;rw[Array.getElem?_setIfInBounds_ne (λe=>ca e.symm)];exact aQ
 ·have f:∀q afT,(X.aV.put k {o with cq:=o.cq+1,sp:=s}).get q=some afT->∃asF,X.aV.get q=some asF:=λq afT a2=>by
   rcases cE.iM a2 with⟨e,_⟩|⟨_,h⟩
   ·exact⟨o,e▸aq⟩
   ·exact⟨_,h⟩
  obtain⟨ER,j9⟩:=f j dv aa;obtain⟨ES,kA⟩:=f fp cy hb;exact aE.inj j fp ER ES i aP a1 j9 kA he fS
theorem aoD{id:Nat}{ob:Obj}{s:pK}(h:w.heap[id]?=some ob)(ak:pL P E s (some ob)):(getObj id).run P w= .ok ob w:=by
 have Ej:=ak.afC;cases ob<;>first|exact absurd rfl (Ej _ _ _)|simp[getObj,Sem.run,h]
theorem asa{k id c:Nat}{ty:TypeId}{y:U}{af:al}(aE:bQ P B aZ X E w)(ai:E k=some (id,c))(h:xv k X=some (y,af)):Good P B aZ E w (Instr.next (.pointer (some ⟨id,0,none⟩)) true ty) y af:=by cases h
theorem alP{b:Builtin}{c8:Array TypeId}{ty:TypeId}{consts:Array Bool}{ch:List U}{rH:List Value}{y:U}{af:al}(aE:bQ P B aZ X E w)(hv:cg E ch rH)(h:ja P b c8 ch X=some (y,af)):
 ∃aW v w',cQ E aW/\(builtin b c8 ty consts rH.toArray).run P w= .ok (.value v) w'/\Den aW y v/\bQ P B aZ af aW w':=by
 have two:∀{x1 x2:U},cg E [x1,x2] rH->∃iD sO,rH=[iD,sO]/\Den E x1 iD/\Den E x2 sO:=by
  rintro x1 x2 ⟨iD,_,h1,⟨sO,_,h2,h3,ay⟩,az⟩
  cases h3;exact⟨iD,sO,by rw[az,ay],h1,h2⟩
 have one:∀{x1:U},cg E [x1] rH->∃iD,rH=[iD]/\Den E x1 iD:=by
  rintro x1 ⟨iD,_,h1,h2,az⟩
  cases h2;exact⟨iD,az,h1⟩
 have yes:∀{s:Sem Value},iH P E w s y->af=X->∃aW v w',cQ E aW/\(do Pure.pure (Next.value (<- s)):Sem Next).run P w= .ok (.value v) w'/\Den aW y v/\bQ P B aZ af aW w':=by
  rintro s ⟨v,h1,h2⟩ rfl
  exact⟨E,v,w,cQ.refl _,by simp[h1],h2,aE⟩
 have Bc:∀{s:Sem Value},Good P B aZ E w s y af->∃aW v w',cQ E aW/\(do Pure.pure (Next.value (<- s)):Sem Next).run P w= .ok (.value v) w'/\Den aW y v/\bQ P B aZ af aW w':=by
  rintro s ⟨aW,v,w',h1,h2,h3,aT⟩
  exact⟨aW,v,w',h1,by simp[h2],h3,aT⟩
 have Mo:∀{o:Option U},eC X o=some (y,af)->o=some y/\af=X:=by
  intro o h;unfold eC at h;split at h<;>simp at h
  obtain⟨rfl,rfl⟩:=h;exact⟨rfl,rfl⟩
 unfold ja at h;split at h
 ·split at h<;>try(cases h;done)
  rename_i t aN;obtain⟨u,rfl,hu⟩:=one hv;obtain⟨h',e⟩:=Mo h;exact yes (art aN hu h') e
 ·split at h<;>try(cases h;done)
  rename_i t aN;obtain⟨u,rfl,hu⟩:=one hv;obtain⟨h',e⟩:=Mo h;exact yes (ame aN hu h') e
 ·obtain⟨u,v,rfl,hu,eJ⟩:=two hv;obtain⟨h',e⟩:=Mo h;exact yes (arO hu eJ h') e
 ·obtain⟨u,v,rfl,hu,eJ⟩:=two hv;obtain⟨h',e⟩:=Mo h;exact yes (arL hu eJ h') e
 ·split at h<;>try(cases h;done)
  rename_i t gV aN hd;split at h<;>try(cases h;done)
  rename_i d aI;cases ze:sF d with
  |false=>
   simp only[ze,cond_false] at h;cases Rr:vM d with
   |false=>simp[Rr] at h
   |true=>
    simp only[Rr,cond_true] at h;obtain⟨u,v,rfl,hu,eJ⟩:=two hv;exact Bc (alj aE aN hd aI Rr hu eJ h)
  |true=>
   simp only[ze,cond_true] at h;obtain⟨u,v,rfl,hu,eJ⟩:=two hv;exact Bc (aln aE aN hd aI ze hu eJ h)
 ·split at h<;>try(cases h;done)
  rename_i t aN;obtain⟨u,v,rfl,hu,eJ⟩:=two hv;exact Bc (amU aE aN hu eJ h)
 ·cases h
end
section
variable{P:Program}{B:Nat}{aZ w:World}{X:al}{E:Env}
theorem alp{t:TypeId}{k off len lo:Nat}{cap:Option Nat}{z:U}{u:Value}(ax:Den E (.aF k off len cap lo) u)(h:XK P t k off len=some z):iH P E w (Instr.arrayAt t u) z:=by cases h
theorem ar2{t:TypeId}(aE:bQ P B aZ X E w):Good P B aZ E w (Instr.makeMap t none) (.mp (uj X).1) (uj X).2:=by
 refine⟨E.put X.next w.heap.size 0,.map (some w.heap.size),w.alloc (.map #[] 0),Env.sy (aE.fresh _ (Nat.le_refl _)) aE.km,?_,⟨_,_,Env.l5 _ _ _ _,rfl⟩,aE.J2 _ _ 0 λaW _=> .inr ⟨⟨[],rfl,rfl⟩,rfl,rfl⟩⟩;simp[Instr.makeMap]
def M0(E:Env)(cK:Value)(es:List (U×U×Nat))(l:List MapEntry)(i:Nat)(r:Option (Nat×U))(o:Nat->Value->Prop):Prop:=
 ∃n q v b e,r=some (i+n,v)/\es[n]?=some (q,v,b)/\l[n]?=some e/\e.key=cK/\Den E v e.val/\e.born=b/\Den E q cK/\o (i+n) e.val
theorem M0.next{cK:Value}{es:List (U×U×Nat)}{l:List MapEntry}{i:Nat}{r:Option (Nat×U)}{o o':Nat->Value->Prop}{x:U×U×Nat}{y:MapEntry}(h:M0 E cK es l (i+1) r o)(aq:∀n v,o n v->o' n v):M0 E cK (x::es) (y::l) i r o':=by
 obtain⟨n,q,v,b,e,h1,h2,h3,aT,bz,bA,dN,e0⟩:=h;have pT:i+1+n=i+(n+1):=by omega
 rw[pT] at h1 e0;exact⟨n+1,q,v,b,e,h1,by simpa using h2,by simpa using h3,aT,bz,bA,dN,aq _ _ e0⟩
theorem arB(aE:bQ P B aZ X E w){t:TypeId}{m k z:U}{sC cK:Value}{ok:Bool}(hm:Den E m sC)(ai:Den E k cK)(h:z3 P t m k ok X=some z):iH P E w (Instr.lookup t sC cK ok) z:=by cases h
theorem aEK(aE:bQ P B aZ X E w){t:TypeId}{m k v:U}{sC cK rH:Value}{af:al}(hm:Den E m sC)(ai:Den E k cK)(hv:Den E v rH)(h:xw P t m k v X=some af):
 ∃w',(Instr.mapUpdate t sC cK rH).run P w= .ok () w'/\bQ P B aZ af E w':=by cases h
theorem anJ(aE:bQ P B aZ X E w){t:TypeId}{m k z:U}{sC cK:Value}{af:al}(hm:Den E m sC)(ai:Den E k cK)(h:zZ P t m k X=some (z,af)):Good P B aZ E w (Instr.mapEntry t sC cK) z af:=by cases h
theorem anH(aE:bQ P B aZ X E w){t:TypeId}{m b v:U}{sC bv rH:Value}{af:al}(hm:Den E m sC)(ag:Den E b bv)(hv:Den E v rH)(h:xu m b v X=some af):
 ∃w',(Instr.entryStore t sC bv rH).run P w= .ok () w'/\bQ P B aZ af E w':=by cases h
theorem alr{x z:U}{u:Value}{aFd a:TypeId}{ok:Bool}(ax:Den E x u)(h:XL P x a ok=some z):iH P E w (Instr.typeAssert u aFd a ok) z:=by cases h
theorem arU(aE:bQ P B aZ X E w){k:Ar}{args:List U}{argv:List Value}{z:U}(hv:cg E args argv)(h:ui k args X=some z):iH P E w (afv k argv.toArray) z:=by cases h
end
section
variable{P:Program}{B:Nat}{aZ w:World}{X:al}{E:Env}
def GR(P:Program)(B:Nat)(aZ:World)(E:Env)(w:World)(s:Sem Next)(y:U)(af:al):Prop:=
 ∃aW v w',cQ E aW/\(s.run P w= .ok (.value v) w'\/(s.run P w= .ok .skip w'/\v=undef))/\Den aW y v/\bQ P B aZ af aW w'
theorem Good.op{s:Sem Value}{y:U}{af:al}(h:Good P B aZ E w s y af):GR P B aZ E w (do Pure.pure (.value (<- s))) y af:=by
 obtain⟨aW,v,w',h1,h2,h3,aT⟩:=h;exact⟨aW,v,w',h1,.inl (by simp[h2]),h3,aT⟩
theorem iH.op{s:Sem Value}{y:U}(aE:bQ P B aZ X E w)(h:iH P E w s y):GR P B aZ E w (do Pure.pure (.value (<- s))) y X:=by
 obtain⟨v,h2,h3⟩:=h;exact⟨E,v,w,cQ.refl _,.inl (by simp[h2]),h3,aE⟩
theorem gW{o:Option U}{y:U}{X af:al}(h:eC X o=some (y,af)):o=some y/\X=af:=by
 unfold eC at h;split at h<;>simp at h
 obtain⟨rfl,rfl⟩:=h;exact⟨rfl,rfl⟩
theorem lW{a:U}{l:List Value}(h:cg E [a] l):∃u,l=[u]/\Den E a u:=by
 obtain⟨u,us,h1,h2,e⟩:=h;cases h2;exact⟨u,e,h1⟩
theorem tt{a b:U}{l:List Value}(h:cg E [a,b] l):∃u v,l=[u,v]/\Den E a u/\Den E b v:=by
 obtain⟨u,us,h1,h2,e⟩:=h;obtain⟨v,rfl,h3⟩:=lW h2;exact⟨u,v,e,h1,h3⟩
theorem HN{a b c:U}{l:List Value}(h:cg E [a,b,c] l):∃u v x,l=[u,v,x]/\Den E a u/\Den E b v/\Den E c x:=by
 obtain⟨u,us,h1,h2,e⟩:=h;obtain⟨v,x,rfl,h3⟩:=tt h2;exact⟨u,v,x,e,h1,h3⟩
inductive ju (X:al):al->Prop
 |same:ju X X
 |new (o:bH):ju X (X.new o).2
 |set (k:Nat) (o o':bH):X.aV.get k=some o->o.cq<o'.cq->ju X {X with aV:=X.aV.put k o'}
 |name (k:Nat) (o:bH):ju X {X with next:=X.next+1,aV:=(X.aV.del k).put X.next o}
theorem ju.pc{X af:al}(h:ju X af):af.pc=X.pc:=by cases h<;>rfl
theorem ju.bx{X af:al}(h:ju X af):af.bx=X.bx:=by cases h<;>rfl
theorem afg{ty esz:Nat}{cells:List U}{X:al}:ju X (ng X ty esz cells).2:=by
 unfold ng;rw[force_eq];exact .new _
theorem aai{s d:TypeId}{x y:U}{X af:al}(h:jP P s d x X=some (y,af)):ju X af:=by
 unfold jP at h;split at h
 ·generalize(hT P _&&_)=b at h;cases b<;>simp only[cond_true,cond_false,Option.some.injEq,Prod.mk.injEq,reduceCtorEq] at h
  obtain⟨_,rfl⟩:=h;exact afg
 ·generalize(hT P _&&_)=b at h;cases b<;>simp only[cond_true,cond_false,reduceCtorEq] at h
  split at h<;>try(cases h;done)
  rename_i o _;cases aq:o.ro<;>simp only[aq,cond_true,cond_false,Option.some.injEq,Prod.mk.injEq,reduceCtorEq] at h
  obtain⟨_,rfl⟩:=h;exact .same
 ·generalize hT P _=b at h;cases b<;>simp only[cond_true,cond_false,Option.some.injEq,Prod.mk.injEq,reduceCtorEq] at h
  obtain⟨_,rfl⟩:=h;exact .same
 ·generalize hT P _=b at h;cases b<;>simp only[cond_true,cond_false,Option.some.injEq,Prod.mk.injEq,reduceCtorEq] at h
  obtain⟨_,rfl⟩:=h;exact .same
 ·generalize hT P _=b at h;cases b<;>simp only[cond_true,cond_false,reduceCtorEq] at h
  split at h<;>try(cases h;done)
  split at h<;>try(cases h;done)
  split at h<;>try(cases h;done)
  cases h;exact .same
 ·cases h
theorem Zu{k off len lo eo sz:Nat}{cap:Option Nat}{o:bH}{fg:List U}{y:U}{X af:al}(aq:X.aV.get k=some o)(h:oS k off len cap lo eo sz o fg X=some (y,af)):ju X af:=by
 unfold oS at h;generalize(Nat.ble _ _&&_)=b at h;cases b<;>simp only[cond_true,cond_false,Option.some.injEq,Prod.mk.injEq,reduceCtorEq] at h
 obtain⟨_,rfl⟩:=h;exact .set k o _ aq (Nat.lt_succ_self _)
theorem Zx{e sz b eo:Nat}{cells:List U}{y:U}{X af:al}(h:nZ e sz b eo cells X=some (y,af)):ju X af:=by
 unfold nZ at h;generalize(Nat.ble _ _&&_)=b at h;cases b<;>simp only[cond_true,cond_false,Option.some.injEq,Prod.mk.injEq,reduceCtorEq] at h
 obtain⟨_,rfl⟩:=h;exact afg
theorem ak6{k len eo sz b:Nat}{o:bH}{fg:List U}{y:U}{X af:al}(h:rW k len eo sz b o fg X=some (y,af)):ju X af:=by
 unfold rW at h;generalize(Nat.ble _ _&&(_&&_))=c at h;cases c<;>simp only[cond_true,cond_false,force_eq,Option.some.injEq,Prod.mk.injEq,reduceCtorEq] at h
 obtain⟨_,rfl⟩:=h;exact .name k _
theorem ZC{e sz b k off len lo n:Nat}{cap:Option Nat}{news:List U}{y:U}{X af:al}(h:kR e sz b k off len cap lo n news X=some (y,af)):ju X af:=by
 unfold kR at h;split at h<;>try(cases h;done)
 rename_i o aq;rw[force_eq] at h;split at h
 ·generalize Nat.ble _ _=bY at h;cases bY<;>simp only[cond_true,cond_false] at h
  ·split at h<;>try(cases h;done)
   exact Zx h
  ·exact Zu aq h
 ·generalize(Nat.beq _ _&&(_&&(_&&(_&&(_&&_)))))=bY at h;cases bY<;>simp only[cond_true,cond_false,reduceCtorEq] at h
  generalize Nat.ble _ _=b2 at h;cases b2<;>simp only[cond_true,cond_false] at h
  ·exact ak6 h
  ·exact Zu aq h
theorem alo{t:TypeId}{s x y:U}{X af:al}(h:po P t s x X=some (y,af)):ju X af:=by
 unfold po at h;split at h<;>try(cases h;done)
 split at h<;>try(cases h;done)
 split at h<;>try(cases h;done)
 generalize(Nat.ble _ _&&(_&&(_&&_)))=c at h;cases c<;>simp only[cond_true,cond_false,reduceCtorEq] at h
 split at h
 ·rename_i a c;generalize(Nat.beq a 0&&_)=bY at h;cases bY<;>simp only[cond_true,cond_false,reduceCtorEq] at h
  rename_i n _ _ _ _;generalize Nat.beq _ 0=b2 at h;cases b2<;>simp only[cond_true,cond_false,Option.some.injEq,Prod.mk.injEq] at h
  ·exact Zx h
  ·obtain⟨_,rfl⟩:=h;exact .same
 ·exact ZC h
 ·generalize Nat.beq _ 0=bY at h;cases bY<;>simp only[cond_true,cond_false,reduceCtorEq] at h
  cases h;exact .same
 ·cases h
theorem alk{t:TypeId}{s x y:U}{X af:al}(h:qh P t s x X=some (y,af)):ju X af:=by
 unfold qh at h;split at h<;>try(cases h;done)
 split at h<;>try(cases h;done)
 split at h<;>try(cases h;done)
 generalize(Nat.beq _ _&&(_&&(_&&_)))=c at h;cases c<;>simp only[cond_true,cond_false,reduceCtorEq] at h
 split at h<;>try(cases h;done)
 exact ZC h
theorem amW{t:TypeId}{s x y:U}{X af:al}(h:rC P t s x X=some (y,af)):ju X af:=by
 unfold rC at h;split at h<;>try(cases h;done)
 split at h<;>try(cases h;done)
 split at h<;>try(cases h;done)
 generalize(Nat.beq _ _&&_)=c at h;cases c<;>simp only[cond_true,cond_false,reduceCtorEq] at h
 split at h
 ·generalize Nat.beq _ _=bY at h;cases bY<;>simp only[cond_true,cond_false,Option.some.injEq,Prod.mk.injEq,reduceCtorEq] at h
  obtain⟨_,rfl⟩:=h;exact .same
 ·split at h<;>try(cases h;done)
  rename_i o aq;rw[force_eq] at h;generalize(Nat.ble _ _&&_)=bY at h;cases bY<;>simp only[cond_true,cond_false,Option.some.injEq,Prod.mk.injEq,reduceCtorEq] at h
  obtain⟨_,rfl⟩:=h;exact .set _ o _ aq (Nat.lt_succ_self _)
 ·cases h
theorem N5{b:Builtin}{c8:Array TypeId}{ch:List U}{y:U}{X af:al}(h:ja P b c8 ch X=some (y,af)):ju X af:=by
 unfold ja at h;split at h
 ·split at h<;>try(cases h;done)
  obtain⟨_,rfl⟩:=gW h;exact .same
 ·split at h<;>try(cases h;done)
  obtain⟨_,rfl⟩:=gW h;exact .same
 ·obtain⟨_,rfl⟩:=gW h;exact .same
 ·obtain⟨_,rfl⟩:=gW h;exact .same
 ·split at h<;>try(cases h;done)
  split at h<;>try(cases h;done)
  generalize sF _=bY at h;cases bY<;>simp only[cond_true,cond_false,reduceCtorEq] at h
  ·generalize vM _=b2 at h;cases b2<;>simp only[cond_true,cond_false,reduceCtorEq] at h
   exact alk h
  ·exact alo h
 ·split at h<;>try(cases h;done)
  exact amW h
 ·cases h
theorem ahz{t:TypeId}{x y:U}{X af:al}(h:z4 P t x X=some (y,af)):ju X af:=by cases h
theorem afA{k:Nat}{y:U}{X af:al}(h:xv k X=some (y,af)):ju X af:=by cases h
theorem ajg{t:TypeId}{m k v:U}{X af:al}(h:xw P t m k v X=some af):ju X af:=by cases h
theorem aaQ{t:TypeId}{m k z:U}{X af:al}(h:zZ P t m k X=some (z,af)):ju X af:=by cases h
theorem aaP{m b v:U}{X af:al}(h:xu m b v X=some af):ju X af:=by cases h
theorem aCI{op:Op}{ch:List U}{X af:al}{y:U}(h:dX P op ch X=some (y,af))(aB:cX af):cX X:=by
 unfold dX at h;split at h
 case h_3=>
  unfold uB at h;split at h
  ·rename_i ag;cases h;exact((uX ag).1 aB).1
  ·rename_i ag;cases h;exact((uX ag).1 aB).1
  ·cases h
 case h_4=>unfold qg newRow al.new at h;split at h<;>(try simp only[force_eq] at h)<;>cases h;exact aB
 case h_5=>
  unfold qi newRow al.new at h;rename_i x;cases ax:x.flat<;>simp only[ax,cond_false,cond_true,force_eq] at h<;>cases h
  exact aB
 case h_7=>
  unfold oD newRow al.new at h;split at h<;>try(cases h;done)
  split at h<;>try(cases h;done)
  rename_i s z _ _;generalize ae:(Nat.ble _ _&&Nat.ble 1 s&&_)=b at h;cases b<;>simp only[cond_true,cond_false,force_eq] at h
  ·cases h
  ·split at h<;>cases h;exact aB
 case h_9=>
  split at h<;>cases h
  rename_i X1 ak;unfold sL at ak;split at ak<;>try(cases ak;done)
  rename_i o n _ _;generalize ae:(Nat.beq _ _&&_&&_&&_)=b at ak;cases b<;>simp only[cond_true,cond_false] at ak<;>cases ak
  exact aB
 case h_16=>
  unfold qj nh al.new at h;split at h<;>try(cases h;done)
  split at h<;>try(cases h;done)
  split at h<;>try(cases h;done)
  rename_i s z b _ _ _;generalize ae:(Nat.ble _ _&&_&&_&&_&&_)=b at h;cases b<;>simp only[cond_true,cond_false,force_eq] at h<;>cases h
  exact aB
 all_goals first
  |(cases h;exact aB)
  |(obtain⟨_,rfl⟩:=gW h;exact aB)
  |(cases h;done)
  |(unfold cX;rw[<- (ahz h).pc];exact aB)
  |(unfold cX;rw[<- (afA h).pc];exact aB)
  |(split at h<;>cases h;rename_i hu;unfold cX;rw[<- (ajg hu).pc];exact aB)
  |(unfold cX;rw[<- (aaQ h).pc];exact aB)
  |(split at h<;>cases h;rename_i hu;unfold cX;rw[<- (aaP hu).pc];exact aB)
  |(split at h
    ·cases h;exact aB
    ·unfold cX;rw[<- (aai h).pc];exact aB)
theorem aDh(aE:bQ P B aZ X E w){t:TypeId}{k off id c:Nat}{y:U}{v:Value}{af:al}(ai:E k=some (id,c))(eJ:Den E y v)(ak:sL P t X k off y=some af):
 ∃w',(storeVar t ⟨id,off,none⟩ v).run P w= .ok () w'/\bQ P B aZ af E w':=by
 unfold sL at ak;split at ak<;>try(cases ak;done)
 rename_i o n aq aR;cases h1:Nat.beq y.cells.length n with
 |false=>simp[h1] at ak
 |true=>
 cases h2:Nat.ble (off+n) o.n with
 |false=>simp[h1,h2] at ak
 |true=>
 cases aT:o.ro with
 |true=>simp[h1,h2,aT] at ak
 |false=>
 cases bz:dB y.cells with
 |false=>simp[h1,h2,aT,bz] at ak
 |true=>
 simp only[h1,h2,aT,bz,Bool.and_self,Bool.not_false,cond_true,Option.some.injEq] at ak;subst ak;have j9:=Nat.eq_of_beq_eq_true h1;have kA:=Nat.le_of_ble_eq_true h2;have fR:=HO eJ (aoe bz);obtain⟨w',aQ,et⟩:=aE.stored (off:=off) aq ai aT fR bz (by omega) P;have hlen:=fR.length;simp only[Array.length_toList] at hlen;exact⟨w',by simp[storeVar,jn aR,hlen,j9,aQ],by simpa[aT] using et⟩
theorem aic(aE:bQ P B aZ X E w){o:Oper}{lP:Operand->Value}{ch:List U}{y:U}{af:al}(hv:cg E ch (o.op.operands.toList.map lP))(aB:cX af)
 (h:dX P o.op ch X=some (y,af)):GR P B aZ E w (execOp lP o) y af:=by
 obtain⟨dst,op,type,pos,after,guard⟩:=o;simp only at hv h;unfold dX at h;split at h
 ·
  obtain⟨u,e,hu⟩:=lW hv;cases h;simp[Op.operands] at e;subst e;exact⟨E,_,w,cQ.refl _,.inl rfl,hu,aE⟩
 ·
  obtain⟨u,e,hu⟩:=lW hv;cases h;simp[Op.operands] at e;subst e;exact⟨E,_,w,cQ.refl _,.inl rfl,hu,aE⟩
 ·
  obtain⟨u,v,x,e,hu,eJ,ax⟩:=HN hv;simp[Op.operands] at e;obtain⟨rfl,rfl,rfl⟩:=e;unfold uB at h;split at h
  ·rename_i ag;cases h;obtain⟨h1,h2,h3,aT⟩:=uX ag;exact⟨E,_,w,cQ.refl _,.inl (by simp[execOp,(h1 aB).2 _ _ hu,asBool]),eJ,aE.same h2 h3 aT⟩
  ·rename_i ag;cases h;obtain⟨h1,h2,h3,aT⟩:=uX ag;exact⟨E,_,w,cQ.refl _,.inl (by simp[execOp,(h1 aB).2 _ _ hu,asBool]),ax,aE.same h2 h3 aT⟩
  ·cases h
 ·
  exact(akU aE h).op
 ·
  obtain⟨u,e,hu⟩:=lW hv;simp[Op.operands] at e;subst e;exact(alQ aE hu h).op
 ·
  obtain⟨h',eL⟩:=gW h;subst eL;simp only[Op.operands,List.map_map] at hv;exact(alS aE hv h').op
 ·
  simp only[Op.operands,List.map_map] at hv;exact(alR aE hv h).op
 ·
  obtain⟨h',eL⟩:=gW h;subst eL;obtain⟨u,e,id,c,ai,hu⟩:=lW hv;simp[Op.operands] at e;subst e;obtain⟨v,aQ,aI⟩:=ae8 aE h' ai;exact⟨E,v,w,cQ.refl _,.inl (by simp[execOp,Instr.loadAt,hu,Instr.sureAddr,aQ]),aI,aE⟩
 ·
  split at h<;>try(cases h;done)
  rename_i X1 ak;cases h;obtain⟨u,v,e,⟨id,c,ai,hu⟩,eJ⟩:=tt hv;simp[Op.operands] at e;obtain⟨rfl,rfl⟩:=e;obtain⟨w',aQ,et⟩:=aDh aE ai eJ ak;exact⟨E,undef,w',cQ.refl _,.inr ⟨by simp[execOp,Instr.storeAt,hu,Instr.sureAddr,aQ],rfl⟩,rfl,et⟩
 ·
  obtain⟨h',eL⟩:=gW h;subst eL;obtain⟨u,e,hu⟩:=lW hv;simp[Op.operands] at e;obtain⟨rfl,h1⟩:=asc hu h';refine⟨E,u,w,cQ.refl _,.inl ?_,hu,aE⟩;rcases h1 with⟨a,rfl⟩|⟨f,a,b,rfl⟩<;>simp[execOp,e]
 ·
  obtain⟨h',eL⟩:=gW h;subst eL;obtain⟨u,v,e,hu,eJ⟩:=tt hv;simp[Op.operands] at e;obtain⟨rfl,rfl⟩:=e;exact(alK hu eJ h').op aE
 ·
  obtain⟨h',eL⟩:=gW h;subst eL;obtain⟨u,e,hu⟩:=lW hv;simp[Op.operands] at e;subst e;exact(aEG hu h').op aE
 ·
  obtain⟨u,e,hu⟩:=lW hv;simp[Op.operands] at e;subst e;split at h
  ·rename_i z h';cases h;exact(amP hu h').op aE
  ·exact(amN aE hu h).op
 ·
  obtain⟨h',eL⟩:=gW h;subst eL;obtain⟨u,e,hu⟩:=lW hv;simp[Op.operands] at e;subst e;exact(aqV hu h').op aE
 ·
  cases h;rename_i fn a b;simp only[Op.operands,Array.toList_append,List.map_append] at hv;have h1:=cg.take a.size hv;have h2:=cg.drop a.size hv;rw[List.take_left' (by simp)] at h1;rw[List.drop_left' (by simp)] at h2;exact⟨E,.func fn (a.map lP) (b.map lP),w,cQ.refl _,.inl (by simp[execOp,Instr.makeFunc]),⟨_,_,h1,h2,by rw[<- Array.toList_map, <- Array.toList_map]⟩,aE⟩
 ·
  obtain⟨u,v,e,hu,eJ⟩:=tt hv;simp[Op.operands] at e;obtain⟨rfl,rfl⟩:=e;exact(arK aE hu eJ h).op
 ·
  obtain⟨h',eL⟩:=gW h;subst eL;obtain⟨u,e,id,c,ai,hu⟩:=lW hv;simp[Op.operands] at e
  have:=(an1 (w:=w) ai h').op aE
  rw[<- hu, <- e] at this;exact this
 ·
  obtain⟨h',eL⟩:=gW h;subst eL;obtain⟨u,e,vs,sq,hu⟩:=lW hv;simp[Op.operands] at e
  have:=(an3 (w:=w) sq h').op aE
  rw[<- hu, <- e] at this;exact this
 ·
  obtain⟨h',eL⟩:=gW h;subst eL;obtain⟨u,v,e,hu,eJ⟩:=tt hv;simp[Op.operands] at e;obtain⟨rfl,rfl⟩:=e;exact(aqZ hu eJ h').op aE
 ·
  obtain⟨h',eL⟩:=gW h;subst eL;obtain⟨u,v,e,hu,eJ⟩:=tt hv;simp[Op.operands] at e;obtain⟨rfl,rfl⟩:=e;exact(aq0 hu eJ h').op aE
 ·
  obtain⟨h',eL⟩:=gW h;subst eL;obtain⟨u,e,vs,sq,hu⟩:=lW hv;simp[Op.operands] at e;obtain⟨v,h1,h2⟩:=sq.get _ _ h';exact⟨E,v,w,cQ.refl _,.inl (by simp[execOp,Instr.extract,e,hu,h1]),h2,aE⟩
 ·
  obtain⟨u,e,hu⟩:=lW hv;simp[Op.operands] at e;subst e;exact(aBc aE hu h).op
 ·
  obtain⟨u,e,hu⟩:=lW hv;simp[Op.operands] at e;subst e;obtain⟨id,c,ai,hd⟩:=hu
  have:=(asa (P:=P) (ty:=type) aE ai h).op
  rw[<- hd] at this;exact this
 ·
  obtain⟨h',eL⟩:=gW h;subst eL;obtain⟨u,e,hu⟩:=lW hv;simp[Op.operands] at e;subst e;exact(alp hu h').op aE
 ·
  cases h;exact(ar2 aE).op
 ·
  obtain⟨h',eL⟩:=gW h;subst eL;obtain⟨u,v,e,hu,eJ⟩:=tt hv;simp[Op.operands] at e;obtain⟨rfl,rfl⟩:=e;exact(arB aE hu eJ h').op aE
 ·
  split at h<;>try(cases h;done)
  rename_i X1 ak;cases h;obtain⟨u,v,x,e,hu,eJ,ax⟩:=HN hv;simp[Op.operands] at e;obtain⟨rfl,rfl,rfl⟩:=e;obtain⟨w',aQ,et⟩:=aEK aE hu eJ ax ak;exact⟨E,undef,w',cQ.refl _,.inr ⟨by simp[execOp,aQ],rfl⟩,rfl,et⟩
 ·
  obtain⟨u,v,e,hu,eJ⟩:=tt hv;simp[Op.operands] at e;obtain⟨rfl,rfl⟩:=e;exact(anJ aE hu eJ h).op
 ·
  split at h<;>try(cases h;done)
  rename_i t _ _ _ _ _ _ _ X1 ak;cases h;obtain⟨u,v,x,e,hu,eJ,ax⟩:=HN hv;simp[Op.operands] at e;obtain⟨rfl,rfl,rfl⟩:=e;obtain⟨w',aQ,et⟩:=anH (t:=t) aE hu eJ ax ak;exact⟨E,undef,w',cQ.refl _,.inr ⟨by simp[execOp,aQ],rfl⟩,rfl,et⟩
 ·
  obtain⟨h',eL⟩:=gW h;subst eL;obtain⟨u,e,hu⟩:=lW hv;simp[Op.operands] at e;subst e;exact(alr hu h').op aE
 ·
  obtain⟨h',eL⟩:=gW h;subst eL;obtain⟨u,e,hu⟩:=lW hv;simp[Op.operands] at e;subst e;exact(LR (lv:=none) (hv:=none) hu (λy h=>by cases h) (λ_=>rfl) (λy h=>by cases h) (λ_=>rfl) h').op aE
 ·obtain⟨h',eL⟩:=gW h;subst eL;obtain⟨u,v,e,hu,eJ⟩:=tt hv;simp[Op.operands] at e;obtain⟨rfl,rfl⟩:=e;exact(LR (lv:=some _) (hv:=none) hu (λy h=>by cases h;exact⟨_,rfl,eJ⟩) (λh=>by cases h) (λy h=>by cases h) (λ_=>rfl) h').op aE
 ·obtain⟨h',eL⟩:=gW h;subst eL;obtain⟨u,v,e,hu,eJ⟩:=tt hv;simp[Op.operands] at e;obtain⟨rfl,rfl⟩:=e;exact(LR (lv:=none) (hv:=some _) hu (λy h=>by cases h) (λ_=>rfl) (λy h=>by cases h;exact⟨_,rfl,eJ⟩) (λh=>by cases h) h').op aE
 ·obtain⟨h',eL⟩:=gW h;subst eL;obtain⟨u,v,x,e,hu,eJ,ax⟩:=HN hv;simp[Op.operands] at e;obtain⟨rfl,rfl,rfl⟩:=e;exact(LR (lv:=some _) (hv:=some _) hu (λy h=>by cases h;exact⟨_,rfl,eJ⟩) (λh=>by cases h) (λy h=>by cases h;exact⟨_,rfl,ax⟩) (λh=>by cases h) h').op aE
 ·cases h
end
end Go.Xe
