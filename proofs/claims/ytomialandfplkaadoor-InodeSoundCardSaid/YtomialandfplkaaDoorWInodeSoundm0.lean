import Derived.Orders
import Derived.Tactics
import Derived.Below
import Derived.Laws.Sem
import Derived.Laws.World
import Derived.Laws.Entries
import Derived.Laws.Cells
import Derived.Laws.Small
import Derived.Laws.Tables
import Derived.Laws.MakeOwn
import Derived.Laws.AppendOwn
import Derived.Laws.Slices
import Derived.Laws.Pointers
import Derived.Laws.Build
import Derived.Laws.Bits
import Derived.OrdersIn
import Derived.LoopNIn
import Derived.RangeFuncIn
import Derived.TacticsIn
import Derived.DefersIn
import Derived.RowKit3
import Derived.Laws.StructEq
import Derived.ChangeKeysEq
import Derived.Laws.BytesString
import Derived.Lib.ConvBytes
import Derived.Lib.BytesEntry
import Derived.Laws.Externs
set_option linter.unusedSimpArgs false
set_option linter.unusedVariables false
namespace Go.Xe
inductive av (α:Type) where
 |nil
 |node (v:Option α) (l r:av α)
def av.get{α:Type}:av α->Nat->Option α
 | .nil,_=>none
 | .node v l r,i=>bif Nat.beq i 0 then v else bif Nat.beq (i%2) 1 then l.get (i/2) else r.get (i/2-1)
def av.set{α:Type}:Nat->av α->Nat->α->av α
 |0,_,_,_=> .nil
 |f+1,.nil,i,x=>bif Nat.beq i 0 then .node (some x) .nil .nil else bif Nat.beq (i%2) 1 then .node none (av.set f .nil (i/2) x) .nil else .node none .nil (av.set f .nil (i/2-1) x)
 |f+1,.node v l r,i,x=>bif Nat.beq i 0 then .node (some x) l r else bif Nat.beq (i%2) 1 then .node v (av.set f l (i/2) x) r else .node v l (av.set f r (i/2-1) x)
def av.put{α:Type}(t:av α)(i:Nat)(x:α):av α:=t.set (i+1) i x
inductive J where
 |val (x:Value)
 |int (k:IntKind) (n:Int)
 |bool (b:Bool)
 |str (s:ByteArray)
 |ptr (jF off:Nat)
 |aY (jF off len:Nat) (cap:Option Nat) (lo:Nat)
 |fn (fn:Fn) (first captured:List J)
 |pE (t:TypeId) (x:J)
 |agg (cells:List J)
 |bo (vs:List J)
 |fm (k:Nat)
 |mp (k:Nat)
 |kL (k:Nat)
inductive Hint where
 |text
 |skip
 |ord (is:List Nat) (bO:List (Nat×List Nat))
 |news (is rs:List Nat) (bO:List (Nat×List Nat))
inductive Jump where
 |none
 |ret
 |ex (id:Nat)
inductive pe where
 |cells
 |iter (s:ByteArray) (pos:Nat)
 |map (es:List (J×J×Nat)) (clock:Nat)
 |loop (st:LoopState) (ia:Jump) (ord:Nat->Hint) (me:FuncId) (N:Nat) (F:av J) (ps:Array Tmp) (assign body:Code) (jF:Nat)
 |jF (taken:Bool)
structure bD where
 ck:Nat
 ty:TypeId
 n:Nat
 loose:Bool
 esz:Nat
 ro:Bool
 mw:Nat->Option J
 fq:av J
 sp:pe
inductive eK where
 |call (f:FuncId) (xs ys:List J)
 |sI (k:Nat)
structure cz where
 iH:av (Option bD)
 base:Nat->Option bD
def cz.get(H:cz)(k:Nat):Option bD:=match H.iH.get k with|some r=>r|none=>H.base k
def cz.put(H:cz)(k:Nat)(o:bD):cz:={H with iH:=H.iH.put k (some o)}
def cz.del(H:cz)(k:Nat):cz:={H with iH:=H.iH.put k none}
structure ah where
 aH:Nat
 next:Nat
 aS:cz
 cG:List Bool
 pc:List Prop
 bs:List eK
def depth:Nat:=24
def bD.get(o:bD)(i:Nat):Option J:=
 bif Nat.blt i o.n then(match o.fq.get i with|some y=>some y|none=>o.mw i) else none
def force{α:Type}(n:Nat)(k:Nat->α):α:=Nat.rec (motive:=λ_=>α) (k 0) (λm _=>k (m+1)) n
def jS{α:Type}(n:Int)(k:Int->α):α:=match n with
 | .ofNat m=>force m λm=>k (.ofNat m)
 | .negSucc m=>force m λm=>k (.negSucc m)
def IQ:Value->J
 | .int k n=> .int k n
 | .bool b=> .bool b
 | .string s=> .str s
 |x=> .val x
def c2:Value->J
 | .int k n=> .int k n
 | .bool b=> .bool b
 | .string s=> .str s
 | .agg cs=> .agg (cs.toList.map IQ)
 |x=> .val x
def look(aH:Nat)(F:av J):Operand->Option J
 | .tmp t=>F.get t
 | .const v=>some (c2 v)
 | .global g=>bif Nat.blt g aH then some (.ptr g 0) else none
 | .func f=>some (.fn (.func f) [] [])
def looks(aH:Nat)(F:av J):List Operand->Option (List J)
 | []=>some []
 |x::xs=>match look aH F x with
  |some y=>match looks aH F xs with|some ys=>some (y::ys)|none=>none
  |none=>none
def J.cells:J->List J
 | .agg cs=>cs
 |x=>[x]
def J.one:J->Bool
 | .agg _| .bo _=>false
 | .val (.agg _)| .val (.tuple _)=>false
 | .val (.int _ _)| .val (.bool _)| .val (.string _)| .val (.pointer _)| .val (.slice _ _ _)| .val (.map _)| .val .nilIface| .val .nilFunc| .val (.iface _ _)=>true
 | .val _=>false
 |_=>true
def J.flat:J->Bool
 | .val (.agg _)=>false
 |_=>true
def eA:List J->Bool
 | []=>true
 |y::ys=>y.one&&eA ys
def j1(o:bD)(off:Nat):Nat->Option (List J)
 |0=>some []
 |n+1=>match o.get off with
  |some y=>match j1 o (off+1) n with|some ys=>some (y::ys)|none=>none
  |none=>none
def gS(t:av J)(off:Nat):List J->av J
 | []=>t
 |y::ys=>force off λoff=>gS (t.put off y) (off+1) ys
def p1(l:List J):av J:=gS .nil 0 l
section
variable(P:Program)
def dN(t:TypeId):Option Nat:=match P.info? t with|some i=>some i.size|none=>none
def n8(t:TypeId):Option Nat:=match P.info? t with|some i=>some i.bytes|none=>none
def hE(t:TypeId):Option Value:=match P.info? t with|some i=>i.zero|none=>none
def oW(t:TypeId):Option Bool:=match P.underlying t with|some (.struct _)=>some true|some (.array _ _)=>some true|some _=>some false|none=>none
end
def ah.ask(X:ah)(s:Bool):Option (Bool×ah):=match X.cG with
 |o::os=>some (o,{X with cG:=os,pc:=(s=o)::X.pc})
 | []=>none
def fN(X:ah):J->Option (Bool×ah)
 | .bool b=>some (b,X)
 | .val (.bool s)=>X.ask s
 |_=>none
def th:J->Bool
 | .val (.tuple _)=>true
 |_=>false
def lG(X:ah)(want:Bool)(y:J):Option (Bool×ah):=bif th y then some (false,X) else match fN X y with
 |some (b,X)=>some (b==want,X)
 |none=>none
def ah.new(X:ah)(o:bD):Nat×ah:=(X.next,{X with next:=X.next+1,aS:=X.aS.put X.next o})
def newRow(X:ah)(ty:TypeId)(cells:List J):Nat×ah:=
 force cells.length λn=>X.new {ck:=0,ty,n,loose:=false,esz:=1,ro:=false,mw:=λ_=>none,fq:=p1 cells,sp:= .cells}
def mM(X:ah)(ty:TypeId)(n:Nat)(zero:List J):Nat×ah:=
 force n λn=>X.new {ck:=0,ty,n,loose:=false,esz:=1,ro:=false,mw:=λi=>(p1 zero).get (i%zero.length),fq:= .nil,sp:= .cells}
def Fg(cells:List J)(off:Nat)(new:List J):List J:=cells.take off++new++cells.drop (off+new.length)
def pv(place:Nat->Option (Nat×Nat)):List J->List (Nat×J)->Option (List J)
 |cells,[]=>some cells
 |cells,(i,v)::rest=>match place i with
  |none=>none
  |some (off,size)=>bif v.flat&&Nat.beq v.cells.length size&&Nat.ble (off+size) cells.length then pv place (Fg cells off v.cells) rest else none
def hL:J->Option Nat
 | .int _ (.ofNat n)=>some n
 |_=>none
def r9(zero:List J):Nat->List J
 |0=>[]
 |n+1=>zero++r9 zero n
def arith(op:BinOp)(k:IntKind)(x y:Int):Option J:=
 match op with
 | .add=>some (jS (k.wrap (x+y)) λr=> .int k r)
 | .sub=>some (jS (k.wrap (x-y)) λr=> .int k r)
 | .mul=>some (jS (k.wrap (x*y)) λr=> .int k r)
 | .quo=>bif y==0 then none else some (jS (k.wrap (x.tdiv y)) λr=> .int k r)
 | .rem=>bif y==0 then none else some (jS (x.tmod y) λr=> .int k r)
 | .and=>some (jS (k.wrap ((BitVec.ofInt k.bits x&&& BitVec.ofInt k.bits y).toNat:Int)) λr=> .int k r)
 | .or=>some (jS (k.wrap ((BitVec.ofInt k.bits x|||BitVec.ofInt k.bits y).toNat:Int)) λr=> .int k r)
 | .xor=>some (jS (k.wrap ((BitVec.ofInt k.bits x ^^^ BitVec.ofInt k.bits y).toNat:Int)) λr=> .int k r)
 | .andNot=>some (jS (k.wrap ((BitVec.ofInt k.bits x&&& ~~~BitVec.ofInt k.bits y).toNat:Int)) λr=> .int k r)
 | .eql=>some (.bool (x==y))
 | .neq=>some (.bool (x != y))
 | .lss=>some (.bool (decide (x<y)))
 | .leq=>some (.bool (decide (x<=y)))
 | .gtr=>some (.bool (decide (x>y)))
 | .geq=>some (.bool (decide (x>=y)))
 |_=>none
def Cb(op:BinOp)(k:IntKind)(x y:Int):Option J:=
 match op with
 | .add=>some (.val (.int k (k.wrap (x+y))))
 | .sub=>some (.val (.int k (k.wrap (x-y))))
 | .mul=>some (.val (.int k (k.wrap (x*y))))
 | .eql=>some (.val (.bool (x==y)))
 | .neq=>some (.val (.bool (x != y)))
 | .lss=>some (.val (.bool (decide (x<y))))
 | .leq=>some (.val (.bool (decide (x<=y))))
 | .gtr=>some (.val (.bool (decide (x>y))))
 | .geq=>some (.val (.bool (decide (x>=y))))
 |_=>none
def wF(op:BinOp)(k:IntKind)(x:Int)(y:Int):Option J:=
 bif decide (y<0) then none else
  match op with
  | .shl=>some (jS (k.wrap (x*2 ^ (min y.toNat k.bits))) λr=> .int k r)
  | .shr=>some (jS (x.fdiv (2 ^ (min y.toNat k.bits))) λr=> .int k r)
  |_=>none
def V0(op:BinOp)(x y:ByteArray):Option J:=
 match op with
 | .add=>bif decide (((x.size+y.size:Nat):Int)>IntKind.i64.max) then none else some (.str (x++y))
 | .eql=>some (.bool (x.toList==y.toList))
 | .neq=>some (.bool (!(x.toList==y.toList)))
 |_=>none
def Fj(op:BinOp)(x y:ByteArray):Option J:=
 match op with
 | .eql=>some (.val (.bool (x.toList==y.toList)))
 | .neq=>some (.val (.bool (!(x.toList==y.toList))))
 |_=>none
def ub(P:Program)(t:TypeId)(x y:J):Option Bool:=match P.underlying t,x,y with
 |some .bool,.bool a,.bool b=>some (a==b)
 |some (.pointer _),.val (.pointer none),.val (.pointer none)=>some true
 |some (.pointer _),.val (.pointer none),.ptr _ _=>some false
 |some (.pointer _),.ptr _ _,.val (.pointer none)=>some false
 |some (.slice _),.val (.slice none _ _),.val (.slice none _ _)=>some true
 |some (.slice _),.aY _ _ _ _ _,.val (.slice none _ _)=>some false
 |some (.slice _),.val (.slice none _ _),.aY _ _ _ _ _=>some false
 |some (.slice _),.kL _,.val (.slice none _ _)=>some false
 |some (.slice _),.val (.slice none _ _),.kL _=>some false
 |some (.func _ _ _),.val .nilFunc,.val .nilFunc=>some true
 |some (.func _ _ _),.fn _ _ _,.val .nilFunc=>some false
 |some (.func _ _ _),.val .nilFunc,.fn _ _ _=>some false
 |some (.map _ _),.val (.map none),.val (.map none)=>some true
 |some (.map _ _),.mp _,.val (.map none)=>some false
 |some (.map _ _),.val (.map none),.mp _=>some false
 |some (.interface _),.val .nilIface,.pE _ _=>some false
 |some (.interface _),.pE _ _,.val .nilIface=>some false
 |_,_,_=>none
def pN(P:Program)(t:TypeId)(cs:List J)(off:Nat):Option J:=
 match oW P t,dN P t with
 |some true,some n=>bif Nat.ble (off+n) cs.length then some (.agg ((cs.drop off).take n)) else none
 |some false,some _=>cs[off]?
 |_,_=>none
def zY(P:Program)(r:TypeId->J->J->Option Bool)(xs ys:List J):List Field->Option Bool
 | []=>some true
 |f::fD=>bif f.name=="_" then zY P r xs ys fD else(match pN P f.type xs f.offset,pN P f.type ys f.offset with
  |some a,some b=>(match r f.type a b,zY P r xs ys fD with
   |some p,some q=>some (p&&q)
   |_,_=>none)
  |_,_=>none)
def vw(P:Program)(r:TypeId->J->J->Option Bool)(e sz:Nat)(xs ys:List J):List Nat->Option Bool
 | []=>some true
 |i::is=>(match pN P e xs (i*sz),pN P e ys (i*sz) with
  |some a,some b=>(match r e a b,vw P r e sz xs ys is with
   |some p,some q=>some (p&&q)
   |_,_=>none)
  |_,_=>none)
def pq(P:Program):Nat->TypeId->J->J->Option Bool
 |0,_,_,_=>none
 |d+1,t,x,y=>match P.underlying t,x,y with
  |some (.int _),.int k a,.int b1 b=>bif k==b1 then some (a==b) else none
  |some .string,.str a,.str b=>some (a.toList==b.toList)
  |some (.struct fD),.agg xs,.agg ys=>bif P.stoodInHeld t then none else zY P (pq P d) xs ys fD.toList
  |some (.array n e),.agg xs,.agg ys=>(match dN P e with|some sz=>vw P (pq P d) e sz xs ys (List.range n)|none=>none)
  |_,_,_=>ub P t x y
def uc(P:Program)(t:TypeId)(x y:J):Option Bool:=match x,y with
 | .agg xs,.agg ys=>bif P.eqGuardType P.depth t then none else pq P 16 t (.agg xs) (.agg ys)
 | .val .nilIface,.val .nilIface=>(match P.underlying t with
   |some (.interface ms)=>bif ms.isEmpty then some true else none
   |_=>none)
 |x,y=>ub P t x y
def sM(P:Program)(op:BinOp)(t:TypeId)(x y:J):Option J:=
 match op with
 | .eql=>match uc P t x y with|some b=>some (.bool b)|none=>none
 | .neq=>match uc P t x y with|some b=>some (.bool (!b))|none=>none
 |_=>none
def AD(op:BinOp)(k:IntKind)(a:Int)(b1:IntKind)(b:Int):Option J:=
 match op with
 | .shl=>wF .shl k a b
 | .shr=>wF .shr k a b
 |op=>bif k==b1 then arith op k a b else none
def vo(P:Program)(op:BinOp)(t:TypeId)(x y:J):Option J:=
 match x,y with
 | .int k a,.int b1 b=>AD op k a b1 b
 | .int k a,.val (.int b1 b)=>bif k==b1 then Cb op k a b else none
 | .val (.int k a),.int b1 b=>bif k==b1 then Cb op k a b else none
 | .val (.int k a),.val (.int b1 b)=>bif k==b1 then Cb op k a b else none
 | .str a,.str b=>V0 op a b
 | .str a,.val (.string b)=>Fj op a b
 | .val (.string a),.str b=>Fj op a b
 | .val (.string a),.val (.string b)=>Fj op a b
 |x,y=>sM P op t x y
def kM(op:UnOp)(x:J):Option J:=
 match op,x with
 | .neg,.int k n=>arith .sub k 0 n
 | .xor,.int k n=>arith .xor k (if k.signed then -1 else k.max) n
 | .not,.bool b=>some (.bool (!b))
 | .not,.val (.bool b)=>some (.val (.bool (!b)))
 |_,_=>none
def xD(P:Program)(s:TypeId)(f:Nat):Option Field:=match P.underlying s with
 |some (.struct fD)=>fD[f]?
 |_=>none
def sliceB(len cap:Nat)(lo hi:Option J):Option (Nat×Nat):=
 match (match hi with|none=>some len|some y=>hL y),(match lo with|none=>some 0|some y=>hL y) with
 |some h,some l=>bif Nat.ble h cap&&Nat.ble l h then some (l,h) else none
 |_,_=>none
def tE(X:ah)(c a b:J):Option (J×ah):=match fN X c with
 |some (true,X)=>some (a,X)
 |some (false,X)=>some (b,X)
 |none=>none
def pR(P:Program)(e:TypeId)(X:ah):Option (J×ah):=match hE P e with
 |some z=>some (.ptr (newRow X e (c2 z).cells).1 0,(newRow X e (c2 z).cells).2)
 |none=>none
def pT(e:TypeId)(x:J)(X:ah):Option (J×ah):=bif x.flat then some (.ptr (newRow X e x.cells).1 0,(newRow X e x.cells).2) else none
def aqs(P:Program)(fD:List Field):Option (List (Nat×Nat)):=fD.mapM λf=>(P.info? f.type).map λi=>(f.offset,i.size)
def ib(P:Program)(t:TypeId)(fT:List Nat)(vs:List J):Option J:=match hE P t with
 |none=>none
 |some z=>match P.underlying t with
  |some (.struct fD)=>match aqs P fD.toList with
   |some pl=>match pv (λi=>pl[i]?) (c2 z).cells (fT.zip vs) with
    |some cs=>some (.agg cs)
    |none=>none
   |none=>none
  |some (.array _ e)=>match dN P e with
   |some s=>match pv (λi=>some (i*s,s)) (c2 z).cells (fT.zip vs) with
    |some cs=>some (.agg cs)
    |none=>none
   |none=>none
  |_=>none
def oU(P:Program)(t:TypeId)(len:Nat)(fT:List Nat)(vs:List J)(X:ah):Option (J×ah):=match P.underlying t with
 |some (.slice e)=>match dN P e,hE P e with
  |some s,some z=>bif Nat.ble (len*s) 65536&&Nat.ble 1 s&&Nat.beq (c2 z).cells.length s then match pv (λi=>some (i*s,s)) (r9 (c2 z).cells len) (fT.zip vs) with
    |some cs=>some (.aY (newRow X e cs).1 0 len (some len) 0,(newRow X e cs).2)
    |none=>none
   else none
  |_,_=>none
 |_=>none
def lW(P:Program)(t:TypeId)(X:ah)(k off:Nat):Option J:=match X.aS.get k,oW P t,dN P t with
 |some o,some true,some n=>match j1 o off n with|some ys=>some (.agg ys)|none=>none
 |some o,some false,some _=>o.get off
 |_,_,_=>none
def n6(P:Program)(t:TypeId)(X:ah)(k off:Nat)(y:J):Option ah:=match X.aS.get k,dN P t with
 |some o,some n=>bif Nat.beq y.cells.length n&&Nat.ble (off+n) o.n&&!o.ro&&eA y.cells
  then some {X with aS:=X.aS.put k {o with ck:=o.ck+1,fq:=gS o.fq off y.cells}} else none
 |_,_=>none
def eC:J->Option J
 | .ptr k off=>some (.ptr k off)
 | .fn (.func f) a b=>some (.fn (.func f) a b)
 |_=>none
def n5(P:Program)(s d:TypeId)(x:J):Option J:=match P.underlying s with
 |none=>none
 |some _=>match P.underlying d,x with
  |some (.int k),.int _ n=>some (jS (k.wrap n) λr=> .int k r)
  |some (.int k),.val (.int _ n)=>some (.val (.int k (k.wrap n)))
  |some .string,.str s=>some (.str s)
  |some .string,.val (.string s)=>some (.val (.string s))
  |_,_=>none
def Fb(P:Program)(t:TypeId)(x:J):Option J:=match P.underlying t with
 |some (.interface _)=>none
 |some _=>some (.pE t x)
 |none=>none
def pU(P:Program)(t:TypeId)(l c:J)(X:ah):Option (J×ah):=match P.underlying t with
 |some (.slice e)=>match hL l,hL c with
  |some l,some c=>match dN P e,hE P e,n8 P e with
   |some s,some z,some b=>bif Nat.ble l c&&Nat.ble (c*b) 140737488355328&&Nat.ble c 140737488355328&&Nat.beq (c2 z).cells.length s&&Nat.ble 1 s then
     some (.aY (mM X e (c*s) (c2 z).cells).1 0 l (some c) 0,(mM X e (c*s) (c2 z).cells).2)
    else none
   |_,_,_=>none
  |_,_=>none
 |_=>none
def q1(P:Program)(s:TypeId)(f k off:Nat):Option J:=match xD P s f with
 |some fd=>match dN P fd.type with
  |some (_+1)=>some (force (off+fd.offset) λo=> .ptr k o)
  |_=>none
 |none=>none
def y7(P:Program)(s:TypeId)(f:Nat)(cs:List J):Option J:=match xD P s f with
 |some fd=>pN P fd.type cs fd.offset
 |none=>none
def mQ(P:Program)(t:TypeId)(x fT:J):Option J:=match hL fT with
 |none=>none
 |some i=>match P.underlying t,x with
  |some (.array n e),.ptr k off=>match dN P e with
   |some s=>bif Nat.blt i n then some (force (off+i*s) λo=> .ptr k o) else none
   |none=>none
  |some (.slice e),.aY k off len _ _=>match dN P e with
   |some s=>bif Nat.blt i len then some (force (off+i*s) λo=> .ptr k o) else none
   |none=>none
  |_,_=>none
def y8(P:Program)(t:TypeId)(x fT:J):Option J:=match hL fT with
 |none=>none
 |some i=>match P.underlying t,x with
  |some (.array n e),.agg cs=>match dN P e with
   |some s=>bif Nat.blt i n then pN P e cs (i*s) else none
   |none=>none
  |some .string,.str s=>match s[i]? with
   |some b=>some (.int .u8 b.toNat)
   |none=>none
  |_,_=>none
def pX(k off len:Nat)(cap:Option Nat)(lo s l h:Nat):Option J:=match cap with
 |some cap=>force (h-l) λn=>force (cap-l) λm=>bif Nat.beq m 0 then some (.aY k off n (some m) 0) else force (off+l*s) λo=>some (.aY k o n (some m) 0)
 |none=>bif Nat.ble h len then(bif Nat.blt l len then force (h-l) λn=>force (lo+l) λlo=>force (off+l*s) λo=>some (.aY k o n none lo) else(bif Nat.beq l 0 then force h λn=>some (.aY k off n none lo) else some (.kL k))) else none
def fK(P:Program)(t:TypeId)(x:J)(lo hi:Option J):Option J:=match P.underlying t,x with
 |some (.slice e),.aY k off len cap iE=>match dN P e,sliceB len (match cap with|some c=>c|none=>len) lo hi with
  |some s,some (l,h)=>pX k off len cap iE s l h
  |_,_=>none
 |some (.slice e),.kL k=>match dN P e,sliceB 0 0 lo hi with
  |some _,some _=>some (.kL k)
  |_,_=>none
 |some (.slice e),.val (.slice none a c)=>match dN P e,(bif Nat.beq a 0&&Nat.beq c 0 then sliceB 0 0 lo hi else none) with
  |some _,some _=>some (.val (.slice none 0 0))
  |_,_=>none
 |some (.array n e),.ptr k off=>match dN P e,sliceB n n lo hi with
  |some s,some (l,h)=>pX k off n (some n) 0 s l h
  |_,_=>none
 |some .string,.str s=>match sliceB s.size s.size lo hi with
  |some (l,h)=>some (.str (s.extract l h))
  |none=>none
 |_,_=>none
def wI(s:ByteArray):List J:=s.data.toList.map λb=>jS b.toNat λr=> .int .u8 r
def bytesOf:List J->Option (List Int)
 | []=>some []
 | .int .u8 n::ys=>match bytesOf ys with|some lh=>some (n::lh)|none=>none
 |_=>none
def mL(X:ah)(ty esz:Nat)(cells:List J):Nat×ah:=
 force cells.length λn=>X.new {ck:=0,ty,n,loose:=true,esz,ro:=false,mw:=λ_=>none,fq:=p1 cells,sp:= .cells}
def hA(P:Program)(e:TypeId):Bool:=match P.underlying e with|some (.int .u8)=>true|_=>false
def GC(lh:List Int):ByteArray:=lh.foldl (λr n=>r.push (UInt8.ofNat n.toNat)) ByteArray.empty
def jG(P:Program)(s d:TypeId)(x:J)(X:ah):Option (J×ah):=match P.underlying s,P.underlying d,x with
 |some .string,some (.slice e),.str b=>bif hA P e&&Nat.ble b.size 140737488355328 then some (.aY (mL X e 1 (wI b)).1 0 b.size none 0,(mL X e 1 (wI b)).2) else none
 |some (.slice _),some (.slice e),.aY k off n cap lo=>bif hA P e&&Nat.beq s d then(match X.aS.get k with
  |some o=>bif o.ro then none else some (.aY k off n cap lo,X)
  |none=>none) else none
 |some (.slice e),some .string,.val (.slice none _ _)=>bif hA P e then some (.str .empty,X) else none
 |some (.slice e),some .string,.kL _=>bif hA P e then some (.str .empty,X) else none
 |some (.slice e),some .string,.aY k off n _ _=>bif hA P e then(match X.aS.get k with
  |some o=>match j1 o off n with
   |some ys=>match bytesOf ys with
    |some lh=>some (.str (GC lh),X)
    |none=>none
   |none=>none
  |none=>none) else none
 |_,_,_=>none
def za(_P:Program)(_t:TypeId)(_x:J)(_X:ah):Option (J×ah):=none
def wD(_k:Nat)(_X:ah):Option (J×ah):=none
def VK(_P:Program)(_t:TypeId)(_k _off _len:Nat):Option J:=none
def tp(X:ah):Nat×ah:=X.new {ck:=0,ty:=0,n:=0,loose:=false,esz:=1,ro:=true,mw:=λ_=>none,fq:= .nil,sp:= .map [] 0}
def y9(_P:Program)(_t:TypeId)(_m _k:J)(_ok:Bool)(_X:ah):Option J:=none
def wE(_P:Program)(_t:TypeId)(_m _k _v:J)(_X:ah):Option ah:=none
def y6(_P:Program)(_t:TypeId)(_m _k:J)(_X:ah):Option (J×ah):=none
def wC(_m _st _v:J)(_X:ah):Option ah:=none
def VL(_P:Program)(_x:J)(_a:TypeId)(_ok:Bool):Option J:=none
def IN(_P:Program)(_x:J)(_name:String)(_X:ah):Option (FuncId×J):=none
def ds(X:ah):Option J->Option (J×ah)
 |some y=>some (y,X)
 |none=>none
def dK(P:Program)(op:Op)(bz:List J)(X:ah):Option (J×ah):=
 match op,bz with
 | .move _,[x]=>some (x,X)
 | .assign _,[x]=>some (x,X)
 | .pick _ _ _,[c,a,b]=>tE X c a b
 | .alloc e,[]=>pR P e X
 | .box e _,[x]=>pT e x X
 | .build t ps,vs=>ds X (ib P t (ps.toList.map (·.1)) vs)
 | .buildSlice t len ps,vs=>oU P t len (ps.toList.map (·.1)) vs X
 | .load t _,[.ptr k off]=>ds X (lW P t X k off)
 | .store t _ _,[.ptr k off,y]=>match n6 P t X k off y with|some X=>some (.val undef,X)|none=>none
 | .nilCheck _,[x]=>ds X (eC x)
 | .binOp op t _ _ _,[x,y]=>ds X (vo P op t x y)
 | .unOp op _ _,[x]=>ds X (kM op x)
 | .convert s d _,[x]=>match n5 P s d x with|some y=>some (y,X)|none=>jG P s d x X
 | .makeInterface t _,[x]=>ds X (Fb P t x)
 | .makeFunc fn a _,vs=>some (.fn fn (vs.take a.size) (vs.drop a.size),X)
 | .makeSlice t _ _,[l,c]=>pU P t l c X
 | .fieldAddr s _ f,[.ptr k off]=>ds X (q1 P s f k off)
 | .field s _ f,[.agg cs]=>ds X (y7 P s f cs)
 | .indexAddr t _ _,[x,fT]=>ds X (mQ P t x fT)
 | .index t _ _,[x,fT]=>ds X (y8 P t x fT)
 | .extract _ i,[.bo vs]=>ds X vs[i]?
 | .range t _,[x]=>za P t x X
 | .next _ true,[.ptr k 0]=>wD k X
 | .sliceToArrayPointer t _,[.aY k off len _ _]=>ds X (VK P t k off len)
 | .makeMap _ none,[]=>some (.mp (tp X).1,(tp X).2)
 | .lookup t _ _ ok,[m,k]=>ds X (y9 P t m k ok X)
 | .mapUpdate t _ _ _,[m,k,v]=>match wE P t m k v X with|some X=>some (.val undef,X)|none=>none
 | .mapEntry t _ _,[m,k]=>y6 P t m k X
 | .entryStore _ _ _ _,[m,b,v]=>match wC m b v X with|some X=>some (.val undef,X)|none=>none
 | .typeAssert _ _ a ok,[x]=>ds X (VL P x a ok)
 | .slice t _ none none none,[x]=>ds X (fK P t x none none)
 | .slice t _ (some _) none none,[x,l]=>ds X (fK P t x (some l) none)
 | .slice t _ none (some _) none,[x,h]=>ds X (fK P t x none (some h))
 | .slice t _ (some _) (some _) none,[x,l,h]=>ds X (fK P t x (some l) (some h))
 |_,_=>none
def E6(P:Program)(s d:TypeId):Bool:=match P.underlying s,P.underlying d with
 |some (.slice _),_=>true
 |_,some (.slice _)=>true
 |_,_=>false
def Fi(P:Program)(s d:TypeId):Bool:=match P.underlying s,P.underlying d with
 |some (.slice _),some .string=>true
 |_,_=>false
def QY:Builtin->Bool
 | .len| .cap| .min| .max=>true
 |_=>false
def Eg:Callee->Bool
 | .builtin b=>QY b
 |_=>false
def yo:Op->Bool
 | .alloc _| .box _ _| .buildSlice _ _ _| .makeSlice _ _ _=>true
 |_=>false
section
variable(P:Program)
def mb:Op->Bool
 | .convert s d _=>!E6 P s d
 | .move _| .assign _| .pick _ _ _| .build _ _| .nilCheck _| .binOp _ _ _ _ _| .unOp _ _ _| .makeInterface _ _| .makeFunc _ _ _| .fieldAddr _ _ _| .field _ _ _| .indexAddr _ _ _| .index _ _ _| .extract _ _| .slice _ _ _ _ _| .sliceToArrayPointer _ _| .typeAssert _ _ _ _=>true
 | .call c=>Eg c.callee
 |_=>false
def e5:Op->Bool
 | .load _ _=>true
 | .lookup _ _ _ _=>true
 | .convert s d _=>Fi P s d
 |_=>false
def nY(o:Op):Bool:=!mb P o&&!e5 P o
def hY:List (Nat×List Nat)->Nat->List Nat
 | [],_=>[]
 |(b,ls)::rest,i=>bif Nat.beq b i then ls else hY rest i
def mE:List Nat->Nat->Bool
 | [],_=>false
 |x::xs,i=>Nat.beq x i||mE xs i
def ac5(_ _:Op):Bool:=false
def Cn(bO:List (Nat×List Nat))(i j:Nat)(a b:Op):Bool:=mb P a||mb P b||(e5 P a&&e5 P b)||(e5 P a&&nY P b&&mE (hY bO j) i)||ac5 a b
def pK:Op->Bool
 | .select _ _=>false
 | .defer _=>false
 |_=>true
def E2(ops:List Oper)(listed:Array Bool)(i:Nat):Nat->List Oper->List Bool->List Bool
 |_,[],acc=>acc
 |j,o::rest,acc=>E2 ops listed i (j+1) rest (acc++[if j==i then false else listed.getD j true||o.after.all λe=>!Region.binds .any e||acc.getD e.on false])
def KE(bO:List (Nat×List Nat))(ops:Array Oper)(listed:Array Bool)(i:Nat)(r:List Bool):Bool:=
 match ops[i]? with
 |none=>false
 |some dQ=>(List.range ops.size).all λj=>match ops[j]? with
  |none=>false
  |some cb=>
   j==i||(bif r.getD j false then listed.getD j true||(dQ.apart ops cb&&Cn P bO i j dQ.op cb.op) else(!listed.getD j true&&cb.after.any λe=>Region.binds .any e&&!r.getD e.on false))
def yE(bO:List (Nat×List Nat))(ops:Array Oper):List Nat->Array Bool->Bool
 | [],listed=>listed.all id
 |k::bJ,listed=>(Region.ready .any ops listed).contains k&&!(E2 ops.toList listed k 0 ops.toList []).getD k false&&KE P bO ops listed k (E2 ops.toList listed k 0 ops.toList [])&&yE bO ops bJ (listed.setIfInBounds k true)
def GV(bO:List (Nat×List Nat))(ops:Array Oper)(is:List Nat):Bool:=ops.all (λo=>pK o.op)&&Nat.beq is.length ops.size&&yE P bO ops is (Array.replicate ops.size false)
def hk(rs:List Nat)(k:Nat)(o:Op):Bool:=mE rs k&&yo o
def Co(rs:List Nat)(bO:List (Nat×List Nat))(i j:Nat)(a b:Op):Bool:=mb P a||mb P b||hk rs j b||((e5 P a||hk rs i a)&&e5 P b)||(e5 P a&&nY P b&&!hk rs j b&&mE (hY bO j) i)
def KF(rs:List Nat)(bO:List (Nat×List Nat))(ops:Array Oper)(listed:Array Bool)(i:Nat)(r:List Bool):Bool:=
 match ops[i]? with
 |none=>false
 |some dQ=>(List.range ops.size).all λj=>match ops[j]? with
  |none=>false
  |some cb=>
   j==i||(bif r.getD j false then listed.getD j true||(dQ.apart ops cb&&Co P rs bO i j dQ.op cb.op) else(!listed.getD j true&&cb.after.any λe=>Region.binds .any e&&!r.getD e.on false))
def uz(rs:List Nat)(bO:List (Nat×List Nat))(ops:Array Oper):List Nat->Array Bool->Bool
 | [],listed=>listed.all id
 |k::bJ,listed=>(Region.ready .any ops listed).contains k&&!(E2 ops.toList listed k 0 ops.toList []).getD k false&&KF P rs bO ops listed k (E2 ops.toList listed k 0 ops.toList [])&&uz rs bO ops bJ (listed.setIfInBounds k true)
def QD(rs:List Nat)(bO:List (Nat×List Nat))(ops:Array Oper)(is:List Nat):Bool:=ops.all (λo=>pK o.op)&&Nat.beq is.length ops.size&&uz P rs bO ops is (Array.replicate ops.size false)
def A4:Op->Bool
 | .select _ _=>false
 |_=>true
def fZ(ord:Nat->Hint)(rd:Bool):Code->Bool
 | .region _ ops false=>bif rd then ops.all λo=>pK o.op else ops.all λo=>A4 o.op
 | .region id ops true=>match ord id with
   | .text=>GV P [] ops (List.range ops.size)
   | .skip=>true
   | .ord is bO=>GV P bO ops is
   | .news is rs bO=>QD P rs bO ops is
 | .seq a b=>fZ ord rd a&&fZ ord rd b
 | .cond _ a b=>fZ ord rd a&&fZ ord rd b
 | .block _ c=>fZ ord rd c
 | .loop c=>fZ ord rd c
 | .scope c=>fZ ord rd c
 | .rangeFunc _ _ a c=>fZ ord true a&&fZ ord true c
 |_=>true
end
structure ca (P:Program) where
 f:FuncId
 fn:Func
 ord:Nat->Hint
 P0:P.funcs[f]?=some fn
 acz:fn.body.isSome=true
 P1:(fn.name=="runtime.NumGoroutine")=false
 isSmall:Nat.ble fn.ntmps 60000=true
 acB:fZ P ord false (fn.body.getD .skip)=true
inductive zy where
 |indexByte
 |compare
 |same
def adv:zy->Array Value->Sem Value
 | .indexByte=>Extern.BytealgIndexByte.indexByte
 | .compare=>Extern.BytealgCompare.compare
 | .same=>Extern.AbiNoEscape.same
structure Xc (P:Program) where
 f:FuncId
 fn:Func
 k:zy
 P0:P.funcs[f]?=some fn
 P1:(fn.name=="runtime.NumGoroutine")=false
 apK:fn.body.isNone=true
 apL:Extern.findNext fn=none
 aor:Extern.find fn=some (adv k)
inductive Mp (P:Program) where
 |fn (x:ca P)
 |nat (x:Xc P)
def tn(_k:zy)(_args:List J)(_X:ah):Option J:=none
inductive wX where
 |fn (f:FuncId)
 |iu (f:FuncId)
 |fm (k:Nat)
abbrev gB:=List (J×Bool)
inductive Out where
 |ret (y:J)
 |cy (bj:gB)
abbrev bH:=wX->List J->ah->Option (Out×ah)
def zQ(callf:bH)(c:wX)(args:List J)(X:ah):Option (J×ah):=match callf c args X with
 |some (.ret y,X)=>some (y,X)
 |_=>none
def eN(P:Program)(t:TypeId)(x:J):Option J:=match P.underlying t,x with
 |some .string,.str s=>some (jS s.size λr=> .int .i64 r)
 |some .string,.val (.string s)=>some (.val (.int .i64 s.size))
 |some (.slice _),.aY _ _ n _ _=>some (.int .i64 n)
 |some (.slice _),.kL _=>some (.int .i64 0)
 |some (.slice _),.val (.slice none n _)=>some (jS n λr=> .int .i64 r)
 |some (.slice _),.val (.slice (some _) n _)=>some (.val (.int .i64 n))
 |_,_=>none
def ML(P:Program)(t:TypeId)(x:J):Option J:=match P.underlying t,x with
 |some (.slice _),.aY _ _ _ (some c) _=>some (.int .i64 c)
 |some (.slice _),.val (.slice none _ c)=>some (jS c λr=> .int .i64 r)
 |some (.slice _),.val (.slice (some _) _ c)=>some (.val (.int .i64 c))
 |_,_=>none
def D6:J->J->Option J
 | .int k a,.int _ b=>some (.int k (bif decide (b<a) then b else a))
 | .int k a,.val (.int _ b)=>some (.val (.int k (bif decide (b<a) then b else a)))
 | .val (.int k a),.int _ b=>some (.val (.int k (bif decide (b<a) then b else a)))
 | .val (.int k a),.val (.int _ b)=>some (.val (.int k (bif decide (b<a) then b else a)))
 |_,_=>none
def D4:J->J->Option J
 | .int k a,.int _ b=>some (.int k (bif decide (b>a) then b else a))
 | .int k a,.val (.int _ b)=>some (.val (.int k (bif decide (b>a) then b else a)))
 | .val (.int k a),.int _ b=>some (.val (.int k (bif decide (b>a) then b else a)))
 | .val (.int k a),.val (.int _ b)=>some (.val (.int k (bif decide (b>a) then b else a)))
 |_,_=>none
def kU(X:ah)(sz:Nat):J->Option (Nat×List J)
 | .aY k off n _ _=>match X.aS.get k with
   |some o=>match j1 o off (n*sz) with|some ys=>some (n,ys)|none=>none
   |none=>none
 | .val (.slice none a c)=>bif Nat.beq a 0&&Nat.beq c 0 then some (0,[]) else none
 | .str s=>some (s.size,wI s)
 | .kL _=>some (0,[])
 |_=>none
def nz(e sz b eh:Nat)(cells:List J)(X:ah):Option (J×ah):=
 bif Nat.ble eh 140737488355328&&Nat.ble (eh*b) 140737488355328 then some (.aY (mL X e sz cells).1 0 eh none 0,(mL X e sz cells).2) else none
def pk(k off len:Nat)(cap:Option Nat)(lo eh sz:Nat)(o:bD)(news:List J)(X:ah):Option (J×ah):=
 bif Nat.ble (off+eh*sz) o.n&&!o.ro then some (.aY k off eh cap lo,{X with aS:=X.aS.put k {o with ck:=o.ck+1,fq:=gS o.fq (off+len*sz) news}}) else none
def rm(k len eh sz b:Nat)(o:bD)(news:List J)(X:ah):Option (J×ah):=
 bif Nat.ble (len*sz) o.n&&(Nat.ble eh 140737488355328&&Nat.ble (eh*b) 140737488355328) then
  force (eh*sz) λn=>some (.aY X.next 0 eh none 0,{X with next:=X.next+1,aS:=(X.aS.del k).put X.next {o with ck:=0,n,fq:=gS o.fq (len*sz) news}}) else none
def lF(e sz b k off len:Nat)(cap:Option Nat)(lo n:Nat)(news:List J)(X:ah):Option (J×ah):=match X.aS.get k with
 |none=>none
 |some o=>force (len+n) λeh=>match cap with
  |some c=>bif Nat.ble eh c then pk k off len cap lo eh sz o news X else(match j1 o off (len*sz) with
   |some olds=>nz e sz b eh (olds++news) X
   |none=>none)
  |none=>bif Nat.beq off 0&&(Nat.beq lo 0&&(Nat.beq o.esz sz&&(o.loose&&(!o.ro&&Nat.beq o.ty e)))) then
    (bif Nat.ble (eh*sz) o.n then pk k off len cap lo eh sz o news X else rm k len eh sz b o news X) else none
def oT(P:Program)(t:TypeId)(s x:J)(X:ah):Option (J×ah):=match P.underlying t with
 |some (.slice e)=>match dN P e,hE P e,n8 P e with
  |some sz,some z,some b=>match kU X sz x with
   |some (n,news)=>bif Nat.ble 1 sz&&(Nat.beq news.length (n*sz)&&(eA news&&Nat.beq (c2 z).cells.length sz)) then(match s with
     | .val (.slice none a c)=>bif Nat.beq a 0&&Nat.beq c 0 then(bif Nat.beq n 0 then some (.val (.slice none 0 0),X) else nz e sz b n news X) else none
     | .aY k off len cap lo=>lF e sz b k off len cap lo n news X
     | .kL k=>bif Nat.beq n 0 then some (.kL k,X) else none
     |_=>none) else none
   |none=>none
  |_,_,_=>none
 |_=>none
def pS(P:Program)(t:TypeId)(s x:J)(X:ah):Option (J×ah):=match P.underlying t,x with
 |some (.slice e),.int _ (.ofNat n)=>match dN P e,hE P e,n8 P e with
  |some sz,some z,some b=>match (c2 z).cells with
   | [c]=>bif Nat.beq sz 1&&(c.one&&(Nat.ble n 140737488355328&&Nat.ble (n*b) 140737488355328)) then(match s with
       | .aY k off len cap lo=>lF e 1 b k off len cap lo n (List.replicate n c) X
       |_=>none) else none
   |_=>none
  |_,_,_=>none
 |_,_=>none
def q0(P:Program)(t:TypeId)(d x:J)(X:ah):Option (J×ah):=match P.underlying t with
 |some (.slice e)=>match dN P e with
  |some sz=>match kU X sz x with
   |some (n,news)=>bif Nat.beq news.length (n*sz)&&eA news then(match d with
     | .val (.slice none a _)=>bif Nat.beq a 0 then some (.int .i64 0,X) else none
     | .aY k off len _ _=>match X.aS.get k with
       |some o=>force (Nat.min n len) λm=>bif Nat.ble (off+len*sz) o.n&&!o.ro then some (.int .i64 m,{X with aS:=X.aS.put k {o with ck:=o.ck+1,fq:=gS o.fq off (news.take (m*sz))}}) else none
       |none=>none
     |_=>none) else none
   |none=>none
  |none=>none
 |_=>none
def r3:TypeDesc->Bool
 | .slice _=>true
 | .string=>true
 |_=>false
def u0:TypeDesc->Bool
 | .int _=>true
 |_=>false
def iq(P:Program)(b:Builtin)(cX:Array TypeId)(bz:List J)(X:ah):Option (J×ah):=match b,bz with
 | .len,[x]=>match cX[0]? with|some t=>ds X (eN P t x)|none=>none
 | .cap,[x]=>match cX[0]? with|some t=>ds X (ML P t x)|none=>none
 | .min,[x,y]=>ds X (D6 x y)
 | .max,[x,y]=>ds X (D4 x y)
 | .append,[s,x]=>match cX[0]?,cX[1]? with
   |some t,some u=>match P.underlying u with
    |some d=>bif r3 d then oT P t s x X else(bif u0 d then pS P t s x X else none)
    |none=>none
   |_,_=>none
 | .copy,[d,x]=>match cX[0]? with|some t=>q0 P t d x X|none=>none
 |_,_=>none
def po(P:Program)(c:Call)(bz:List J)(X:ah):Option (wX×List J):=
 match c.callee with
 | .value _=>(match bz with
   | .fn (.func f) a b::args=>some (.fn f,a++args++b)
   | .fm k::args=>some (.fm k,args)
   |_=>none)
 | .invoke _ name=>(match bz with
   |x::args=>(match IN P x name X with|some (f,r)=>some (.fn f,r::args)|none=>none)
   |_=>none)
 |_=>none
def xx(P:Program)(callf:bH)(c:Call)(bz:List J)(X:ah):Option (J×ah):=
 match c.callee with
 | .builtin b=>iq P b c.argTypes bz X
 |_=>match po P c bz X with
  |some (f,args)=>zQ callf f args X
  |none=>none
def ka(P:Program)(callf:bH)(o:Oper)(F:av J)(X:ah):Option (J×ah):=
 match looks X.aH F o.op.operands.toList with
 |none=>none
 |some bz=>match o.op with
  | .call c=>xx P callf c bz X
  |op=>dK P op bz X
def kI(bz:List J)(X:ah):Option (Out×ah):=match bz with
 | [.pE t x]=>some (.cy [(.pE t x,false)],X)
 |_=>none
def pF:Builtin->Bool
 | .panic=>true
 |_=>false
def gm:Option (J×ah)->Option (Out×ah)
 |some (y,X)=>some (.ret y,X)
 |none=>none
def jR(P:Program)(callf:bH)(o:Oper)(F:av J)(X:ah):Option (Out×ah):=
 match looks X.aH F o.op.operands.toList with
 |none=>none
 |some bz=>match o.op with
  | .call c=>(match c.callee with
    | .builtin b=>bif pF b then kI bz X else gm (iq P b c.argTypes bz X)
    |_=>match po P c bz X with
     |some (f,args)=>callf f args X
     |none=>none)
  | .panic _=>kI bz X
  |op=>gm (dK P op bz X)
def put(N:Nat)(F:av J)(d:Option Tmp)(y:J):av J:=match d with
 |some d=>bif Nat.blt d N then F.put d y else F
 |none=>F
def hb(ops:List Oper)(F:av J)(X:ah):Option (Nat×Bool)->Option (Bool×ah)
 |none=>some (true,X)
 |some (j,want)=>match ops[j]? with
  |some o=>match o.dst with
   |some d=>match F.get d with
    |some y=>lG X want y
    |none=>none
   |none=>none
  |none=>none
def j4(P:Program)(callf:bH)(N:Nat)(ops:List Oper)(o:Oper)(F:av J)(X:ah):Option (av J×ah):=
 match hb ops F X o.guard with
 |some (true,X)=>match ka P callf o F X with
  |some (y,X)=>some (put N F o.dst y,X)
  |none=>none
 |some (false,X)=>some (put N F o.dst (.val undef),X)
 |none=>none
def GU(o:Oper)(F:av J)(X:ah):Option eK:=match o.op with
 | .defer c=>(match c.callee,looks X.aH F o.op.operands.toList with
   | .value _,some (.fn (.func f) a b::args)=>some (.call f (a++args) b)
   |_,_=>none)
 |_=>none
def nZ:Op->Bool
 | .defer _=>true
 |_=>false
def ko(P:Program)(callf:bH)(N:Nat)(ops:List Oper)(o:Oper)(F:av J)(X:ah):Option (Option gB×av J×ah):=
 match hb ops F X o.guard with
 |some (true,X)=>bif nZ o.op then(match GU o F X with
   |some d=>some (none,put N F o.dst (.val undef),{X with bs:=d::X.bs})
   |none=>none) else(match jR P callf o F X with
   |some (.ret y,X)=>some (none,put N F o.dst y,X)
   |some (.cy bj,X)=>some (some bj,F,X)
   |none=>none)
 |some (false,X)=>some (none,put N F o.dst (.val undef),X)
 |none=>none
def kb(P:Program)(callf:bH)(N:Nat)(ops:List Oper):List Oper->av J->ah->Option (Option gB×av J×ah)
 | [],F,X=>some (none,F,X)
 |o::rest,F,X=>match ko P callf N ops o F X with
  |some (none,F,X)=>kb P callf N ops rest F X
  |r=>r
inductive hd where
 |cu
 |ex (id:Nat)
 |ret
 |gt (l:Nat)
 |cy (bj:gB)
abbrev R:=Option (hd×av J×ah)
def addrOf(ops:List Oper)(o:Oper)(F:av J)(X:ah):Option Nat:=match hb ops F X o.guard with
 |some (true,X)=>match looks X.aH F o.op.operands.toList with
  |some [.ptr k _]=>some k
  |some [.aY k _ _ _ _]=>some k
  |some [.mp k,_]=>some k
  |_=>none
 |_=>none
def Fo(X:ah)(k:Nat):Option Nat:=match X.aS.get k with|some o=>some o.ck|none=>none
def nm(X af:ah)(k:Nat):Bool:=bif Nat.blt k X.next then(match Fo X k with
 |some v=>(match Fo af k with|some KY=>Nat.beq v KY|none=>false)
 |none=>false) else false
def l5:List (Nat×Option Nat)->Nat->Option Nat
 | [],_=>none
 |(l,k)::rest,i=>bif Nat.beq l i then k else l5 rest i
def j9(bL:List (Nat×Option Nat))(X af:ah):List Nat->Bool
 | []=>true
 |l::ls=>(match l5 bL l with|some k=>nm X af k|none=>true)&&j9 bL X af ls
def iv(P:Program)(callf:bH)(N:Nat)(ops:List Oper)(bO:List (Nat×List Nat)):List Nat->List (Nat×Option Nat)->av J->ah->Option (av J×ah)
 | [],_,F,X=>some (F,X)
 |k::bJ,bL,F,X=>match ops[k]? with
  |none=>none
  |some o=>match j4 P callf N ops o F X with
   |none=>none
   |some (F',af)=>bif j9 bL X af (hY bO k) then iv P callf N ops bO bJ (bif e5 P o.op then(k,addrOf ops o F X)::bL else bL) F' af else none
def kj(b:Nat):J->Bool
 | .val _| .int _ _| .bool _| .str _=>true
 | .ptr k _=>Nat.blt k b
 | .aY k _ _ _ _=>Nat.blt k b
 |_=>false
def pI(b:Nat):List J->Bool
 | []=>true
 |y::ys=>kj b y&&pI b ys
def ll(P:Program)(callf:bH)(N:Nat)(ops:List Oper)(rs:List Nat)(base k:Nat)(o:Oper)(F:av J)(X:ah):Option (av J×ah):=
 bif hk rs k o.op then(match o.guard with
  |some _=>none
  |none=>match looks X.aH F o.op.operands.toList with
   |none=>none
   |some bz=>bif pI base bz then(force (base+k) λm=>match dK P o.op bz {X with next:=m} with
    |some (y,af)=>some (put N F o.dst y,{af with next:=X.next})
    |none=>none) else none) else j4 P callf N ops o F X
def pJ(P:Program)(ops:List Oper)(base:Nat)(o:Oper)(F:av J)(X:ah):Bool:=
 bif e5 P o.op then(match addrOf ops o F X with|some j=>Nat.blt j base|none=>true) else true
def ny(X:ah)(base:Nat):List Nat->Bool
 | []=>true
 |k::bJ=>(match X.aS.get (base+k) with|none=>true|some _=>false)&&ny X base bJ
def iO(P:Program)(callf:bH)(N:Nat)(ops:List Oper)(rs:List Nat)(bO:List (Nat×List Nat))(base:Nat):List Nat->List (Nat×Option Nat)->av J->ah->Option (av J×ah)
 | [],_,F,X=>some (F,X)
 |k::bJ,bL,F,X=>match ops[k]? with
  |none=>none
  |some o=>bif pJ P ops base o F X then(match ll P callf N ops rs base k o F X with
   |none=>none
   |some (F',af)=>bif j9 bL X af (hY bO k) then iO P callf N ops rs bO base bJ (bif e5 P o.op then(k,addrOf ops o F X)::bL else bL) F' af else none) else none
def iF(body:av J->ah->R)(fuel:Nat):av J->ah->R:=
 Nat.rec (motive:=λ_=>av J->ah->R) (λ_ _=>none) (λ_ ba F X=>match body F X with
  |some (.cu,F,X)=>ba F X
  |r=>r) fuel
def Ix:Jump->hd
 | .none=> .cu
 | .ret=> .ret
 | .ex id=> .ex id
def h7(ord:Nat->Hint)(me:FuncId)(N:Nat)(F:av J)(ps:Array Tmp)(assign body:Code)(jF:Nat):bD:=
 {ck:=0,ty:=0,n:=0,loose:=false,esz:=1,ro:=true,mw:=λ_=>none,fq:= .nil,sp:= .loop .ready .none ord me N F ps assign body jF}
def r0:bD:={ck:=0,ty:=0,n:=0,loose:=false,esz:=1,ro:=true,mw:=λ_=>none,fq:= .nil,sp:= .jF false}
def sE(rd:Option Nat)(X:ah):Option (Nat×ah):=match rd with
 |none=>some ((X.new r0).1,{(X.new r0).2 with bs:= .sI (X.new r0).1::X.bs})
 |some k=>match X.aS.get k with
  |some o=>match o.sp with
   | .loop _ _ _ _ _ _ _ _ _ b=>some (b,X)
   |_=>none
  |none=>none
def sL(F:av J)(l:Nat)(X:ah):R:=match X.aS.get l with
 |some o=>match o.sp with
  | .loop st ia ord me N G ps a c b=>(match st with
    | .busy=>none
    |_=>some (Ix ia,F,{X with aS:=X.aS.put l {o with ck:=o.ck+1,sp:= .loop .exhausted ia ord me N G ps a c b}}))
  |_=>none
 |none=>none
def GL:Code->Nat
 | .region id _ _=>id
 | .seq a _=>GL a
 | .block _ a=>GL a
 | .loop a=>GL a
 |_=>0
def iC(ord:Nat->Hint)(N:Nat)(c:Code):List Nat:=match ord (1000000+GL c) with
 | .ord is _=>is
 |_=>List.range N
def iZ:List (Nat×Option J)->av J
 | []=> .nil
 |(t,x)::l=>match x with
  |some y=>(iZ l).put t y
  |none=>iZ l
def h8(us:List Nat)(F:Nat->Option J):av J:=iZ (us.map λt=>(t,F t))
def pP(callf:bH)(ord:Nat->Hint)(me:FuncId)(rd:Option Nat)(N:Nat)(ps:Array Tmp)(a c:Code)(g:J)(F:av J)(X:ah):R:=match g,sE rd X with
 | .fn (.func f) b5 qg,some (b,X1)=>(match callf (.iu f) (b5++[.fm (X1.new (h7 ord me N (h8 (iC ord N c) F.get) ps a c b)).1]++qg) {(X1.new (h7 ord me N (h8 (iC ord N c) F.get) ps a c b)).2 with bs:=[]} with
   |some (.ret _,cU)=>sL F (X1.new (h7 ord me N (h8 (iC ord N c) F.get) ps a c b)).1 {cU with bs:=X1.bs}
   |some (.cy bj,cU)=>some (.cy bj,F,{cU with bs:=X1.bs})
   |none=>none)
 |_,_=>none
abbrev ik:=Code->Code->av J->ah->R
def bT(P:Program)(callf:bH)(ord:Nat->Hint)(me:FuncId)(rd:Option Nat)(N fuel:Nat)(jump:ik):Code->av J->ah->R
 | .skip,F,X=>some (.cu,F,X)
 | .region _ ops false,F,X=>match kb P callf N ops.toList ops.toList F X with
   |some (none,F,X)=>some (.cu,F,X)
   |some (some bj,F,X)=>some (.cy bj,F,X)
   |none=>none
 | .region id ops true,F,X=>match (match ord id with
     | .text=>iv P callf N ops.toList [] (List.range ops.size) [] F {X with cG:=[]}
     | .skip=>none
     | .ord is bO=>iv P callf N ops.toList bO is [] F {X with cG:=[]}
     | .news is rs bO=>force (X.next+ops.size) λn=>bif ny X X.next rs then iO P callf N ops.toList rs bO X.next is [] F {X with cG:=[],next:=n} else none) with
   |some (F,af)=>some (.cu,F,{af with cG:=X.cG})
   |none=>none
 | .seq a b,F,X=>match bT P callf ord me rd N fuel jump a F X with
   |some (.cu,F,X)=>bT P callf ord me rd N fuel jump b F X
   |r=>r
 | .cond c a b,F,X=>match look X.aH F c with
   |some y=>match fN X y with
    |some (true,X)=>bT P callf ord me rd N fuel jump a F X
    |some (false,X)=>bT P callf ord me rd N fuel jump b F X
    |none=>none
   |none=>none
 | .block id c,F,X=>match bT P callf ord me rd N fuel jump c F X with
   |some (.ex gr,F,X)=>bif Nat.beq gr id then some (.cu,F,X) else some (.ex gr,F,X)
   |r=>r
 | .loop c,F,X=>iF (bT P callf ord me rd N fuel jump c) fuel F X
 | .exit id,F,X=>some (.ex id,F,X)
 | .label _,F,X=>some (.cu,F,X)
 | .ret,F,X=>some (.ret,F,X)
 | .goto l,F,X=>some (.gt l,F,X)
 | .scope c,F,X=>match bT P callf ord me rd N fuel jump c F X with
   |some (.gt l,F,X)=>(match findLabel c l with
    |some rest=>jump c rest F X
    |none=>some (.gt l,F,X))
   |r=>r
 | .rangeFunc g ps a c,F,X=>match look X.aH F g with
   |some y=>pP callf ord me rd N ps a c y F X
   |none=>none
 |_,_,_=>none
def fF(P:Program)(callf:bH)(ord:Nat->Hint)(me:FuncId)(rd:Option Nat)(N fuel:Nat)(n:Nat):ik:=
 Nat.rec (motive:=λ_=>ik) (λ_ _ _ _=>none) (λ_ ba c rest F X=>match bT P callf ord me rd N fuel ba rest F X with
  |some (.gt l,F,X)=>(match findLabel c l with
   |some rest=>ba c rest F X
   |none=>some (.gt l,F,X))
  |r=>r) n
def tA(P:Program)(F:av J)(X:ah):ResultVar->Option J
 | .tmp t=>F.get t
 | .cell a t=>match F.get a with
   |some (.ptr k off)=>lW P t X k off
   |_=>none
def oP(P:Program)(F:av J)(X:ah):List ResultVar->Option (List J)
 | []=>some []
 |r::rs=>match tA P F X r with
  |some y=>match oP P F X rs with|some ys=>some (y::ys)|none=>none
  |none=>none
def y4:List J->J
 | [y]=>y
 |ys=> .bo ys
inductive Mode where
 |ret
 |cy (bj:gB)
def af9:Mode->Mode
 | .cy ((_,true)::_)=> .ret
 |m=>m
def aft(u:Mode)(bj:gB):Mode:=match u with
 | .cy hN=> .cy (bj++hN)
 | .ret=> .cy bj
abbrev ns:=FuncId->List J->Mode->ah->Option (Out×Mode×ah)
def fG(P:Program)(dcall:ns)(fn:Func)(F:av J):List eK->Mode->ah->Option (Out×ah)
 | [],.ret,X=>match oP P F X fn.results.toList with|some ys=>some (.ret (y4 ys),X)|none=>none
 | [],.cy bj,X=>some (.cy bj,X)
 | .sI k::bg,u,X=>(match X.aS.get k with
   |some o=>match o.sp with
    | .jF false=>fG P dcall fn F bg u {X with aS:=X.aS.put k {o with ck:=o.ck+1,sp:= .jF true}}
    |_=>none
   |none=>none)
 | .call f xs ys::bg,u,X=>(match dcall f (xs++ys) u X with
   |some (.ret _,u,X)=>fG P dcall fn F bg (af9 u) X
   |some (.cy bj,u,X)=>fG P dcall fn F bg (aft u bj) X
   |none=>none)
def rE(P:Program)(dcall:ns)(fn:Func):R->Option (Out×ah)
 |some (.cu,F,X)=>fG P dcall fn F X.bs .ret {X with bs:=[]}
 |some (.ret,F,X)=>fG P dcall fn F X.bs .ret {X with bs:=[]}
 |some (.cy bj,F,X)=>fG P dcall fn F X.bs (.cy bj) {X with bs:=[]}
 |_=>none
def Ee:Option Jump->Jump->Jump
 |some p,_=>p
 |none,q=>q
def Fe(o:bD)(st:LoopState)(p:Option Jump):Option bD:=match o.sp with
 | .loop _ q ord me N G ps a c b=>some {o with ck:=o.ck+1,sp:= .loop st (Ee p q) ord me N G ps a c b}
 |_=>none
def isReady:bD->Bool
 |{sp:= .loop .ready _ _ _ _ _ _ _ _ _,..}=>true
 |_=>false
def pV(X:ah)(k:Nat)(st:LoopState)(p:Option Jump):Option ah:=match X.aS.get k with
 |some o=>match Fe o st p with
  |some o'=>some {X with aS:=X.aS.put k o'}
  |none=>none
 |none=>none
def endRound(D:List eK)(X:ah)(k:Nat)(st:LoopState)(p:Jump)(b:Bool):Option (Out×ah):=match pV X k st (some p) with
 |some X=>some (.ret (.bool b),{X with bs:=D})
 |none=>none
def wq(N:Nat)(F:av J):List Tmp->List J->av J
 |p::ps,x::xs=>wq N (put N F (some p) x) ps xs
 |_,_=>F
def lV(cM:Code->av J->ah->R)(k N:Nat)(F:av J)(ps:Array Tmp)(a c:Code)(args:List J)(X:ah):Option (Out×ah):=
 bif Nat.beq args.length ps.size then(match cM a (wq N F ps.toList args) {X with bs:=[]} with
  |some (.cu,aL,X1)=>(match X1.aS.get k with
   |some o=>bif isReady o then(match pV X1 k .busy none with
    |some cU=>(match cM c aL cU with
     |some (.cu,_,m0)=>endRound X.bs m0 k .ready .none true
     |some (.ret,_,m0)=>endRound X.bs m0 k .done .ret false
     |some (.ex id,_,m0)=>endRound X.bs m0 k .done (.ex id) false
     |_=>none)
    |none=>none) else none
   |none=>none)
  |_=>none) else none
def isRec:Op->Bool
 | .call c=>(match c.callee with| .builtin .recover=>true|_=>false)
 |_=>false
def Bs:Mode->J×Mode
 | .cy ((v,false)::hN)=>(v,.cy ((v,true)::hN))
 |u=>(.val .nilIface,u)
def pr(P:Program)(N:Nat):List Oper->av J->ah->Mode->Option (av J×ah×Mode)
 | [],F,X,u=>some (F,X,u)
 |o::rest,F,X,u=>match o.guard with
  |some _=>none
  |none=>bif isRec o.op then pr P N rest (put N F o.dst (Bs u).1) X (Bs u).2 else(match looks X.aH F o.op.operands.toList with
   |some bz=>(match dK P o.op bz X with
    |some (y,af)=>pr P N rest (put N F o.dst y) af u
    |none=>none)
   |none=>none)
def Al:List Oper->Bool
 | []=>false
 |o::os=>isRec o.op||Al os
abbrev LZ:=Option (hd×av J×ah×Mode)
def hG(P:Program)(N:Nat)(cM:Code->av J->ah->R):Code->av J->ah->Mode->LZ
 | .seq a b,F,X,u=>match hG P N cM a F X u with
   |some (.cu,F,X,u)=>hG P N cM b F X u
   |r=>r
 | .cond c a b,F,X,u=>match look X.aH F c with
   |some y=>match fN X y with
    |some (true,X)=>hG P N cM a F X u
    |some (false,X)=>hG P N cM b F X u
    |none=>none
   |none=>none
 | .region id ops false,F,X,u=>bif Al ops.toList then(match pr P N ops.toList F X u with
     |some (F,X,u)=>some (.cu,F,X,u)
     |none=>none) else(match cM (.region id ops false) F X with
     |some (ex,F,X)=>some (ex,F,X,u)
     |none=>none)
 |c,F,X,u=>match cM c F X with
  |some (ex,F,X)=>some (ex,F,X,u)
  |none=>none
def r2(X:ah):Bool:=match X.bs with| []=>true|_=>false
def rD(P:Program)(fn:Func)(D:List eK):LZ->Option (Out×Mode×ah)
 |some (.cu,F,X,u)=>bif r2 X then(match oP P F X fn.results.toList with|some ys=>some (.ret (y4 ys),u,{X with bs:=D})|none=>none) else none
 |some (.ret,F,X,u)=>bif r2 X then(match oP P F X fn.results.toList with|some ys=>some (.ret (y4 ys),u,{X with bs:=D})|none=>none) else none
 |some (.cy bj,_,X,u)=>bif r2 X then some (.cy bj,u,{X with bs:=D}) else none
 |_=>none
structure l1 where
 call:bH
 dcall:ns
def wN(D:List eK):Option (Out×ah)->Option (Out×ah)
 |some (y,X)=>some (y,{X with bs:=D})
 |none=>none
def mx{P:Program}(a5:ca P)(callf:bH)(lf:Nat):Code->av J->ah->R:=
 bT P callf a5.ord a5.f none a5.fn.ntmps lf (fF P callf a5.ord a5.f none a5.fn.ntmps lf lf)
def h5{P:Program}(ba:l1)(a5:ca P)(lf:Nat)(f:FuncId)(args:List J)(X:ah):Option (Out×ah):=
 bif Nat.beq a5.f f&&Nat.ble args.length a5.fn.ntmps then wN X.bs (rE P ba.dcall a5.fn (mx a5 ba.call lf (a5.fn.body.getD .skip) (gS .nil 0 args) {X with bs:=[]})) else none
def iN(P:Program)(tab:av (Mp P))(lf:Nat)(fuel:Nat):l1:=
 Nat.rec (motive:=λ_=>l1) {call:=λ_ _ _=>none,dcall:=λ_ _ _ _=>none} (λ_ ba=>{
  call:=λc args X=>match c with
   | .fn f=>(match tab.get f with
     |some (.fn a5)=>h5 ba a5 lf f args X
     |some (.nat l0)=>bif Nat.beq l0.f f then(match tn l0.k args X with|some y=>some (.ret y,X)|none=>none) else none
     |none=>none)
   | .iu f=>(match tab.get f with
     |some (.fn a5)=>h5 ba a5 lf f args X
     |_=>none)
   | .fm k=>(match X.aS.get k with
     |some o=>match o.sp with
      | .loop _ _ ord me N F ps a c _=>lV (bT P ba.call ord me (some k) N lf (fF P ba.call ord me (some k) N lf lf)) k N F ps a c args X
      |_=>none
     |none=>none)
  dcall:=λf args u X=>match tab.get f with
   |some (.fn a5)=>bif Nat.beq a5.f f&&Nat.ble args.length a5.fn.ntmps then rD P a5.fn X.bs (hG P a5.fn.ntmps (mx a5 ba.call lf) (a5.fn.body.getD .skip) (gS .nil 0 args) {X with bs:=[]} u) else none
   |_=>none}) fuel
theorem get_nil{α:Type}(j:Nat):(av.nil:av α).get j=none:=rfl
theorem CY{α:Type}:∀(f:Nat) (t:av α) (i j:Nat) (x y:α),(t.set f i x).get j=some y->(j=i/\y=x)\/(j≠i/\t.get j=some y)
 |0,t,i,j,x,y,h=>by simp[av.set,av.get] at h
 |f+1,.nil,i,j,x,y,h=>by
  unfold av.set at h;cases hi:Nat.beq i 0 with
  |true=>
   have qs:i=0:=Nat.eq_of_beq_eq_true hi;rw[hi] at h;cases aa:Nat.beq j 0 with
   |true=>simp only[cond_true,av.get,aa] at h;exact .inl ⟨by rw[qs];exact Nat.eq_of_beq_eq_true aa,(Option.some.inj h).symm⟩
   |false=>simp only[cond_true,av.get,aa,cond_false] at h;cases h2:Nat.beq (j%2) 1<;>simp[h2] at h
  |false=>
   have qs:i≠0:=Nat.ne_of_beq_eq_false hi;rw[hi] at h;cases aq:Nat.beq (i%2) 1 with
   |true=>
    have fS:i%2=1:=Nat.eq_of_beq_eq_true aq;simp only[cond_false,aq,cond_true,av.get] at h;cases aa:Nat.beq j 0 with
    |true=>simp[aa] at h
    |false=>
     have kC:j≠0:=Nat.ne_of_beq_eq_false aa;cases h2:Nat.beq (j%2) 1 with
     |true=>
      have kh:j%2=1:=Nat.eq_of_beq_eq_true h2;simp only[aa,h2,cond_false,cond_true] at h;rcases CY f _ _ _ _ _ h with⟨e,bb⟩|⟨_,bb⟩
      ·exact .inl ⟨by omega,bb⟩
      ·simp[av.get] at bb
     |false=>simp[aa,h2] at h
   |false=>
    have fS:i%2≠1:=Nat.ne_of_beq_eq_false aq;simp only[cond_false,aq,av.get] at h;cases aa:Nat.beq j 0 with
    |true=>simp[aa] at h
    |false=>
     have kC:j≠0:=Nat.ne_of_beq_eq_false aa;cases h2:Nat.beq (j%2) 1 with
     |true=>simp[aa,h2] at h
     |false=>
      have kh:j%2≠1:=Nat.ne_of_beq_eq_false h2;simp only[aa,h2,cond_false] at h;rcases CY f _ _ _ _ _ h with⟨e,bb⟩|⟨_,bb⟩
      ·exact .inl ⟨by omega,bb⟩
      ·simp[av.get] at bb
 |f+1,.node v l r,i,j,x,y,h=>by
  unfold av.set at h;cases hi:Nat.beq i 0 with
  |true=>
   have qs:i=0:=Nat.eq_of_beq_eq_true hi;simp only[hi,cond_true,av.get] at h;cases aa:Nat.beq j 0 with
   |true=>
    have kC:j=0:=Nat.eq_of_beq_eq_true aa;simp only[aa,cond_true] at h;exact .inl ⟨by omega,(Option.some.inj h).symm⟩
   |false=>
    have kC:j≠0:=Nat.ne_of_beq_eq_false aa;exact .inr ⟨by omega,by simpa[av.get,aa] using h⟩
  |false=>
   have qs:i≠0:=Nat.ne_of_beq_eq_false hi;cases aq:Nat.beq (i%2) 1 with
   |true=>
    have fS:i%2=1:=Nat.eq_of_beq_eq_true aq;simp only[hi,aq,cond_false,cond_true,av.get] at h;cases aa:Nat.beq j 0 with
    |true=>
     have kC:j=0:=Nat.eq_of_beq_eq_true aa;exact .inr ⟨by omega,by simpa[av.get,aa] using h⟩
    |false=>
     have kC:j≠0:=Nat.ne_of_beq_eq_false aa;cases h2:Nat.beq (j%2) 1 with
     |true=>
      have kh:j%2=1:=Nat.eq_of_beq_eq_true h2;simp only[aa,h2,cond_false,cond_true] at h;rcases CY f _ _ _ _ _ h with⟨e,bb⟩|⟨aO,bb⟩
      ·exact .inl ⟨by omega,bb⟩
      ·exact .inr ⟨by omega,by simpa[av.get,aa,h2] using bb⟩
     |false=>
      have kh:j%2≠1:=Nat.ne_of_beq_eq_false h2;exact .inr ⟨by omega,by simpa[av.get,aa,h2] using h⟩
   |false=>
    have fS:i%2≠1:=Nat.ne_of_beq_eq_false aq;simp only[hi,aq,cond_false,av.get] at h;cases aa:Nat.beq j 0 with
    |true=>
     have kC:j=0:=Nat.eq_of_beq_eq_true aa;exact .inr ⟨by omega,by simpa[av.get,aa] using h⟩
    |false=>
     have kC:j≠0:=Nat.ne_of_beq_eq_false aa;cases h2:Nat.beq (j%2) 1 with
     |true=>
      have kh:j%2=1:=Nat.eq_of_beq_eq_true h2;exact .inr ⟨by omega,by simpa[av.get,aa,h2] using h⟩
     |false=>
      have kh:j%2≠1:=Nat.ne_of_beq_eq_false h2;simp only[aa,h2,cond_false] at h;rcases CY f _ _ _ _ _ h with⟨e,bb⟩|⟨aO,bb⟩
      ·exact .inl ⟨by omega,bb⟩
      ·exact .inr ⟨by omega,by simpa[av.get,aa,h2] using bb⟩
theorem CZ{α:Type}:∀(f:Nat) (t:av α) (i j:Nat) (x:α),i+1<2 ^ f->(t.set f i x).get j=if j=i then some x else t.get j
 |0,t,i,j,x,h=>by simp at h
 |f+1,.nil,i,j,x,h=>by
  have h2:2 ^ (f+1)=2*2 ^ f:=by rw[Nat.pow_succ];omega
  unfold av.set;cases hi:Nat.beq i 0 with
  |true=>
   have qs:i=0:=Nat.eq_of_beq_eq_true hi;simp only[cond_true,av.get];cases aa:Nat.beq j 0 with
   |true=>have:=Nat.eq_of_beq_eq_true aa;simp[qs,this]
   |false=>have:=Nat.ne_of_beq_eq_false aa;simp[qs,this]
  |false=>
   have qs:i≠0:=Nat.ne_of_beq_eq_false hi;cases aq:Nat.beq (i%2) 1 with
   |true=>
    have fS:i%2=1:=Nat.eq_of_beq_eq_true aq;simp only[cond_false,cond_true,av.get];cases aa:Nat.beq j 0 with
    |true=>have:=Nat.eq_of_beq_eq_true aa;simp only[cond_true];rw[if_neg (by omega)]
    |false=>
     have kC:=Nat.ne_of_beq_eq_false aa;cases h3:Nat.beq (j%2) 1 with
     |true=>
      have qo:=Nat.eq_of_beq_eq_true h3;simp only[cond_false,cond_true];rw[CZ f .nil (i/2) (j/2) x (by omega)];by_cases e:j=i
      ·rw[if_pos e,if_pos (by omega)]
      ·rw[if_neg e,if_neg (by omega)];rfl
     |false=>
      have qo:=Nat.ne_of_beq_eq_false h3;simp only[cond_false];rw[if_neg (by omega)]
   |false=>
    have fS:i%2≠1:=Nat.ne_of_beq_eq_false aq;simp only[cond_false,av.get];cases aa:Nat.beq j 0 with
    |true=>have:=Nat.eq_of_beq_eq_true aa;simp only[cond_true];rw[if_neg (by omega)]
    |false=>
     have kC:=Nat.ne_of_beq_eq_false aa;cases h3:Nat.beq (j%2) 1 with
     |true=>
      have qo:=Nat.eq_of_beq_eq_true h3;simp only[cond_false,cond_true];rw[if_neg (by omega)]
     |false=>
      have qo:=Nat.ne_of_beq_eq_false h3;simp only[cond_false];rw[CZ f .nil (i/2-1) (j/2-1) x (by omega)];by_cases e:j=i
      ·rw[if_pos e,if_pos (by omega)]
      ·rw[if_neg e,if_neg (by omega)];rfl
 |f+1,.node v l r,i,j,x,h=>by
  have h2:2 ^ (f+1)=2*2 ^ f:=by rw[Nat.pow_succ];omega
  unfold av.set;cases hi:Nat.beq i 0 with
  |true=>
   have qs:i=0:=Nat.eq_of_beq_eq_true hi;simp only[cond_true,av.get];cases aa:Nat.beq j 0 with
   |true=>have:=Nat.eq_of_beq_eq_true aa;simp[qs,this]
   |false=>have:=Nat.ne_of_beq_eq_false aa;simp[qs,this]
  |false=>
   have qs:i≠0:=Nat.ne_of_beq_eq_false hi;cases aq:Nat.beq (i%2) 1 with
   |true=>
    have fS:i%2=1:=Nat.eq_of_beq_eq_true aq;simp only[cond_false,cond_true,av.get];cases aa:Nat.beq j 0 with
    |true=>have:=Nat.eq_of_beq_eq_true aa;simp only[cond_true];rw[if_neg (by omega)]
    |false=>
     have kC:=Nat.ne_of_beq_eq_false aa;cases h3:Nat.beq (j%2) 1 with
     |true=>
      have qo:=Nat.eq_of_beq_eq_true h3;simp only[cond_false,cond_true];rw[CZ f l (i/2) (j/2) x (by omega)];by_cases e:j=i
      ·rw[if_pos e,if_pos (by omega)]
      ·rw[if_neg e,if_neg (by omega)]
     |false=>
      have qo:=Nat.ne_of_beq_eq_false h3;simp only[cond_false];rw[if_neg (by omega)]
   |false=>
    have fS:i%2≠1:=Nat.ne_of_beq_eq_false aq;simp only[cond_false,av.get];cases aa:Nat.beq j 0 with
    |true=>have:=Nat.eq_of_beq_eq_true aa;simp only[cond_true];rw[if_neg (by omega)]
    |false=>
     have kC:=Nat.ne_of_beq_eq_false aa;cases h3:Nat.beq (j%2) 1 with
     |true=>
      have qo:=Nat.eq_of_beq_eq_true h3;simp only[cond_false,cond_true];rw[if_neg (by omega)]
     |false=>
      have qo:=Nat.ne_of_beq_eq_false h3;simp only[cond_false];rw[CZ f r (i/2-1) (j/2-1) x (by omega)];by_cases e:j=i
      ·rw[if_pos e,if_pos (by omega)]
      ·rw[if_neg e,if_neg (by omega)]
theorem kA{α:Type}(t:av α)(i j:Nat)(x:α):(t.put i x).get j=if j=i then some x else t.get j:=
 CZ _ _ _ _ _ (Nat.lt_two_pow_self)
theorem ix{α:Type}{t:av α}{i j:Nat}{x y:α}(h:(t.put i x).get j=some y):(j=i/\y=x)\/(j≠i/\t.get j=some y):=CY _ _ _ _ _ _ h
theorem cz.kA(H:cz)(i j:Nat)(o:bD):(H.put i o).get j=if j=i then some o else H.get j:=by
 unfold cz.get cz.put;simp only[Xe.kA];by_cases h:j=i
 ·simp[h]
 ·simp[h]
theorem cz.ix{H:cz}{i j:Nat}{o o':bD}(h:(H.put i o).get j=some o'):(j=i/\o'=o)\/(j≠i/\H.get j=some o'):=by
 rw[cz.kA] at h;by_cases e:j=i
 ·rw[if_pos e] at h;exact .inl ⟨e,(Option.some.inj h).symm⟩
 ·rw[if_neg e] at h;exact .inr ⟨e,h⟩
theorem cz.abd(H:cz)(i j:Nat):(H.del i).get j=if j=i then none else H.get j:=by
 unfold cz.get cz.del;simp only[Xe.kA];by_cases h:j=i
 ·simp[h]
 ·simp[h]
theorem cz.sV{H:cz}{i j:Nat}{o':bD}(h:(H.del i).get j=some o'):j≠i/\H.get j=some o':=by
 rw[cz.abd] at h;by_cases e:j=i
 ·rw[if_pos e] at h;cases h
 ·rw[if_neg e] at h;exact⟨e,h⟩
theorem set_comm{α:Type}:∀(f g:Nat) (t:av α) (i j:Nat) (x y:α),i+1<2 ^ f->j+1<2 ^ g->i≠j->(t.set f i x).set g j y=(t.set g j y).set f i x
 |0,_,_,_,_,_,_,h,_,_=>by simp at h
 |_+1,0,_,_,_,_,_,_,h,_=>by simp at h
 |f+1,g+1,t,i,j,x,y,ak,bd,anb=>by
  have az:2 ^ (f+1)=2*2 ^ f:=by rw[Nat.pow_succ];omega
  have aw:2 ^ (g+1)=2*2 ^ g:=by rw[Nat.pow_succ];omega
  rw[az] at ak;rw[aw] at bd;by_cases hi:i=0
  ·subst hi
   have vp:Nat.beq j 0=false:=by
    cases h:Nat.beq j 0 with
    |false=>rfl
    |true=>have:=Nat.eq_of_beq_eq_true h;omega
   cases rK:Nat.beq (j%2) 1<;>cases t<;>simp[av.set,vp,rK]
  ·have bi:Nat.beq i 0=false:=by
    cases h:Nat.beq i 0 with
    |false=>rfl
    |true=>have:=Nat.eq_of_beq_eq_true h;omega
   by_cases aa:j=0
   ·subst aa;cases s7:Nat.beq (i%2) 1<;>cases t<;>simp[av.set,bi,s7]
   ·have vp:Nat.beq j 0=false:=by
     cases h:Nat.beq j 0 with
     |false=>rfl
     |true=>have:=Nat.eq_of_beq_eq_true h;omega
    cases s7:Nat.beq (i%2) 1 with
    |true=>
     have ang:=Nat.eq_of_beq_eq_true s7;cases rK:Nat.beq (j%2) 1 with
     |true=>
      have ank:=Nat.eq_of_beq_eq_true rK;cases t with
      |nil=>simp only[av.set,bi,vp,s7,rK,cond_true,cond_false];rw[set_comm f g .nil (i/2) (j/2) x y (by omega) (by omega) (by omega)]
      |node v l r=>simp only[av.set,bi,vp,s7,rK,cond_true,cond_false];rw[set_comm f g l (i/2) (j/2) x y (by omega) (by omega) (by omega)]
     |false=>cases t<;>simp[av.set,bi,vp,s7,rK]
    |false=>
     have ang:=Nat.ne_of_beq_eq_false s7;cases rK:Nat.beq (j%2) 1 with
     |true=>cases t<;>simp[av.set,bi,vp,s7,rK]
     |false=>
      have ank:=Nat.ne_of_beq_eq_false rK;cases t with
      |nil=>simp only[av.set,bi,vp,s7,rK,cond_false];rw[set_comm f g .nil (i/2-1) (j/2-1) x y (by omega) (by omega) (by omega)]
      |node v l r=>simp only[av.set,bi,vp,s7,rK,cond_false];rw[set_comm f g r (i/2-1) (j/2-1) x y (by omega) (by omega) (by omega)]
theorem aee{α:Type}(t:av α){i j:Nat}(x y:α)(h:i≠j):(t.put i x).put j y=(t.put j y).put i x:=
 set_comm _ _ _ _ _ _ _ (Nat.lt_two_pow_self) (Nat.lt_two_pow_self) h
theorem cz.put_comm(H:cz){i j:Nat}(o o':bD)(h:i≠j):(H.put i o).put j o'=(H.put j o').put i o:=by
 unfold cz.put;simp only[];rw[aee _ _ _ h]
theorem cz.akE(H:cz){i j:Nat}(o:bD)(h:i≠j):(H.del i).put j o=(H.put j o).del i:=by
 unfold cz.put cz.del;simp only[];rw[aee _ _ _ h]
theorem force_eq{α:Type}(n:Nat)(k:Nat->α):force n k=k n:=by cases n<;>rfl
theorem fC{α:Type}(n:Int)(k:Int->α):jS n k=k n:=by cases n<;>simp[jS,force_eq]
structure Env where
 f:Nat->Option (Nat×Nat)
 n:Nat
instance:CoeFun Env (λ_=>Nat->Option (Nat×Nat)):=⟨Env.f⟩
mutual
def Den(E:Env):J->Value->Prop
 | .val x,w=>w=x
 | .int k n,w=>w= .int k n
 | .bool b,w=>w= .bool b
 | .str s,w=>w= .string s
 | .ptr k off,w=>∃id c,E k=some (id,c)/\w= .pointer (some ⟨id,off,none⟩)
 | .aY k off len (some cap) _,w=>∃id c,E k=some (id,c)/\w= .slice (some ⟨id,off,none⟩) len cap
 | .aY k off len none lo,w=>∃id c,(E k=some (id,c)/\lo+len<=c)/\w= .slice (some ⟨id,off,none⟩) len (c-lo)
 | .fn f a b,w=>∃x y,cc E a x/\cc E b y/\w= .func f x.toArray y.toArray
 | .pE t x,w=>∃v,Den E x v/\w= .iface t v
 | .agg cs,w=>∃x,cc E cs x/\w= .agg x.toArray
 | .bo cs,w=>∃x,cc E cs x/\w= .tuple x.toArray
 | .fm k,w=>∃id c,E k=some (id,c)/\w= .func (.yield id) #[] #[]
 | .mp k,w=>∃id c,E k=some (id,c)/\w= .map (some id)
 | .kL _,w=>∃a cp,w= .slice (some a) 0 cp
def cc(E:Env):List J->List Value->Prop
 | [],l=>l=[]
 |y::ys,l=>∃v vs,Den E y v/\cc E ys vs/\l=v::vs
end
def Sub(E aP:Env):Prop:=∀k x,E k=some x->aP k=some x
def cJ(E aP:Env):Prop:=aP.n=E.n/\Sub E aP/\∀k,k<E.n->aP k=E k
theorem Sub.refl(E:Env):Sub E E:=λ_ _ h=>h
theorem Sub.trans{E aP nt:Env}(h:Sub E aP)(h':Sub aP nt):Sub E nt:=λk x e=>h' k x (h k x e)
theorem cJ.sub{E aP:Env}(h:cJ E aP):Sub E aP:=h.2.1
theorem cJ.refl(E:Env):cJ E E:=⟨rfl,λ_ _ h=>h,λ_ _=>rfl⟩
theorem cJ.trans{E aP nt:Env}(h:cJ E aP)(h':cJ aP nt):cJ E nt:=⟨h'.1.trans h.1,h.sub.trans h'.sub,λk ai=>(h'.2.2 k (by rw[h.1];exact ai)).trans (h.2.2 k ai)⟩
mutual
theorem Den.sub{E aP:Env}(ay:Sub E aP):∀{y:J} {v:Value},Den E y v->Den aP y v
 | .val _,_,h=>h
 | .int _ _,_,h=>h
 | .bool _,_,h=>h
 | .str _,_,h=>h
 | .ptr _ _,_,h=>let ⟨id,c,e,hw⟩:=h;⟨id,c,ay _ _ e,hw⟩
 | .aY _ _ _ (some _) _,_,h=>let ⟨id,c,e,hw⟩:=h;⟨id,c,ay _ _ e,hw⟩
 | .aY _ _ _ none _,_,h=>let ⟨id,c,e,hw⟩:=h;⟨id,c,⟨ay _ _ e.1,e.2⟩,hw⟩
 | .fn _ _ _,_,h=>let ⟨x,y,ao,bb,hw⟩:=h;⟨x,y,cc.sub ay ao,cc.sub ay bb,hw⟩
 | .pE _ _,_,h=>let ⟨v,hv,hw⟩:=h;⟨v,Den.sub ay hv,hw⟩
 | .agg _,_,h=>let ⟨x,ao,hw⟩:=h;⟨x,cc.sub ay ao,hw⟩
 | .bo _,_,h=>let ⟨x,ao,hw⟩:=h;⟨x,cc.sub ay ao,hw⟩
 | .fm _,_,h=>let ⟨id,c,e,hw⟩:=h;⟨id,c,ay _ _ e,hw⟩
 | .mp _,_,h=>let ⟨id,c,e,hw⟩:=h;⟨id,c,ay _ _ e,hw⟩
 | .kL _,_,h=>h
theorem cc.sub{E aP:Env}(ay:Sub E aP):∀{ys:List J} {vs:List Value},cc E ys vs->cc aP ys vs
 | [],_,h=>h
 |_::_,_,h=>let ⟨v,vs,hv,rQ,e⟩:=h;⟨v,vs,Den.sub ay hv,cc.sub ay rQ,e⟩
end
theorem Den.mono{E aP:Env}(ay:cJ E aP){y:J}{v:Value}(h:Den E y v):Den aP y v:=h.sub ay.sub
theorem cc.mono{E aP:Env}(ay:cJ E aP){ys:List J}{vs:List Value}(h:cc E ys vs):cc aP ys vs:=h.sub ay.sub
theorem cc.length{E:Env}:∀{ys:List J} {vs:List Value},cc E ys vs->vs.length=ys.length
 | [],_,h=>by cases h;rfl
 |_::_,_,⟨_,_,_,h,e⟩=>by subst e;simp[cc.length h]
theorem cc.get{E:Env}:∀{ys:List J} {vs:List Value},cc E ys vs->∀(j:Nat) (y:J),ys[j]?=some y->∃v,vs[j]?=some v/\Den E y v
 | [],_,_,j,y,aa=>by simp at aa
 |z::ys,_,⟨v,vs,hv,h,e⟩,0,y,aa=>by subst e;simp at aa;subst aa;exact⟨v,rfl,hv⟩
 |z::ys,_,⟨v,vs,hv,h,e⟩,j+1,y,aa=>by subst e;simp at aa;simpa using cc.get h j y aa
theorem cc.append{E:Env}:∀{ys:List J} {vs:List Value} {u2:List J} {BC:List Value},cc E ys vs->cc E u2 BC->cc E (ys++u2) (vs++BC)
 | [],_,_,_,h,h'=>by cases h;exact h'
 |_::_,_,_,_,⟨v,vs,hv,h,e⟩,h'=>by subst e;exact⟨v,_,hv,cc.append h h',rfl⟩
theorem cc.take{E:Env}:∀{ys:List J} {vs:List Value} (n:Nat),cc E ys vs->cc E (ys.take n) (vs.take n)
 | [],_,n,h=>by cases h;simp[cc]
 |_::_,_,0,h=>by simp[cc]
 |_::_,_,n+1,⟨v,vs,hv,h,e⟩=>by subst e;exact⟨v,_,hv,cc.take n h,rfl⟩
theorem cc.drop{E:Env}:∀{ys:List J} {vs:List Value} (n:Nat),cc E ys vs->cc E (ys.drop n) (vs.drop n)
 | [],_,n,h=>by cases h;simp[cc]
 |_::_,_,0,h=>h
 |_::_,_,n+1,⟨v,vs,hv,h,e⟩=>by subst e;exact cc.drop n h
theorem akH(E:Env)(x:Value):Den E (IQ x) x:=by cases x<;>simp[IQ,Den]
theorem YA(E:Env):∀l:List Value,cc E (l.map IQ) l
 | []=>rfl
 |x::xs=>⟨x,xs,akH E x,YA E xs,rfl⟩
theorem YD(E:Env)(x:Value):Den E (c2 x) x:=by
 cases x with
 |agg cs=>exact⟨cs.toList,YA E _,by simp⟩
 |_=>simp[c2,Den]
theorem GS{E:Env}{y:J}{v:Value}(h:Den E y v)(bb:∀x,y≠ .val (.agg x)):cc E y.cells v.cells.toList:=by
 cases y with
 |agg cs=>obtain⟨x,ao,rfl⟩:=h;simpa[J.cells,Value.cells] using ao
 |val x=>
  have e:v=x:=h;subst e;cases v<;>first|exact absurd rfl (bb _)|exact⟨_,[],rfl,rfl,rfl⟩
 |_=>
  have hv:v.cells.toList=[v]:=by
   first
    |(obtain⟨_,_,_,rfl⟩:=h;rfl)
    |(cases h;rfl)
    |(obtain⟨_,_,_,_,rfl⟩:=h;rfl)
    |(obtain⟨_,_,rfl⟩:=h;rfl)
    |(obtain⟨_,_,_,_,_,rfl⟩:=h;rfl)
    |(rename_i cap _;cases cap<;>(obtain⟨_,_,_,rfl⟩:=h;rfl))
  rw[hv];exact⟨v,[],h,rfl,rfl⟩
theorem akI{E:Env}{y:J}{v:Value}(h:Den E y v)(h1:y.one=true):v.oneCell'=true:=by
 cases y with
 |val x=>
  have e:v=x:=h;subst e;cases v<;>simp_all [J.one,Value.oneCell']
 |agg cs=>simp[J.one] at h1
 |bo cs=>simp[J.one] at h1
 |int k n=>cases h;rfl
 |bool b=>cases h;rfl
 |str s=>cases h;rfl
 |ptr k o=>obtain⟨_,_,_,rfl⟩:=h;rfl
 |aY k o n cap lo=>cases cap<;>(obtain⟨_,_,_,rfl⟩:=h;rfl)
 |fn f a b=>obtain⟨_,_,_,_,rfl⟩:=h;rfl
 |pE t x=>obtain⟨_,_,rfl⟩:=h;rfl
 |fm k=>obtain⟨_,_,_,rfl⟩:=h;rfl
 |mp k=>obtain⟨_,_,_,rfl⟩:=h;rfl
 |kL k=>obtain⟨_,_,rfl⟩:=h;rfl
def ly(E:Env):gB->List PanicEntry->Prop
 | [],l=>l=[]
 |(y,r)::bj,l=>∃v dw,Den E y v/\ly E bj dw/\l={v,recovered:=r}::dw
def FK(E:Env):eK->Deferred->Prop
 | .call f xs ys,d=>∃a b,cc E xs a/\cc E ys b/\d={target:= .fn (.func f) b.toArray,args:=a.toArray}
 | .sI k,d=>∃id c,E k=some (id,c)/\d={target:= .collected id,args:= #[]}
def jO(E:Env):List eK->List Deferred->Prop
 | [],l=>l=[]
 |y::ys,l=>∃d bg,FK E y d/\jO E ys bg/\l=d::bg
theorem ly.sub{E aP:Env}(ay:Sub E aP):∀{bj:gB} {l:List PanicEntry},ly E bj l->ly aP bj l
 | [],_,h=>h
 |(_,_)::_,_,⟨v,dw,a,b,e⟩=>⟨v,dw,a.sub ay,ly.sub ay b,e⟩
theorem FK.sub{E aP:Env}(ay:Sub E aP):∀{y:eK} {d:Deferred},FK E y d->FK aP y d
 | .call _ _ _,_,⟨a,b,h1,h2,e⟩=>⟨a,b,h1.sub ay,h2.sub ay,e⟩
 | .sI _,_,⟨id,c,h,e⟩=>⟨id,c,ay _ _ h,e⟩
theorem jO.sub{E aP:Env}(ay:Sub E aP):∀{ys:List eK} {bg:List Deferred},jO E ys bg->jO aP ys bg
 | [],_,h=>h
 |_::_,_,⟨d,bg,a,b,e⟩=>⟨d,bg,a.sub ay,jO.sub ay b,e⟩
theorem ly.append{E:Env}:∀{a b:gB} {l m:List PanicEntry},ly E a l->ly E b m->ly E (a++b) (l++m)
 | [],_,_,_,h,h'=>by cases h;exact h'
 |(_,_)::_,_,_,_,⟨v,dw,x,y,e⟩,h'=>by subst e;exact⟨v,_,x,ly.append y h',rfl⟩
theorem OO:∀(ys:List J) (t:av J) (off j:Nat) (y:J),(gS t off ys).get j=some y->
 (off<=j/\ys[j-off]?=some y)\/((j<off\/off+ys.length<=j)/\t.get j=some y)
 | [],t,off,j,y,h=> .inr ⟨by simp;omega,h⟩
 |z::ys,t,off,j,y,h=>by
  simp only[gS,force_eq] at h;rcases OO ys _ _ _ _ h with⟨h1,h2⟩|⟨h1,h2⟩
  ·refine .inl ⟨by omega,?_⟩;rw[show j-off=(j-(off+1))+1 by omega];simpa using h2
  ·rcases ix h2 with⟨e,bb⟩|⟨e,bb⟩
   ·exact .inl ⟨by omega,by subst e;simp[bb]⟩
   ·exact .inr ⟨by simp;omega,bb⟩
theorem xM:∀(ys:List J) (t:av J) (off j:Nat),(gS t off ys).get j=if off<=j/\j<off+ys.length then ys[j-off]? else t.get j
 | [],t,off,j=>by rw[if_neg (by simp only[List.length_nil];omega)];rfl
 |z::ys,t,off,j=>by
  simp only[gS,force_eq,List.length_cons];rw[xM ys _ (off+1) j,kA];by_cases e:j=off
  ·subst e;rw[if_neg (by omega),if_pos rfl,if_pos (by omega)];simp
  ·rw[if_neg e];by_cases h1:off+1<=j/\j<off+1+ys.length
   ·rw[if_pos h1,if_pos (by omega),show j-off=(j-(off+1))+1 by omega];simp
   ·rw[if_neg h1,if_neg (by omega)]
theorem HS(l:List J)(j:Nat)(y:J)(h:(p1 l).get j=some y):l[j]?=some y:=by
 rcases OO _ _ _ _ _ h with⟨_,h2⟩|⟨_,h2⟩
 ·simpa using h2
 ·cases h2
def Lw(E:Env)(o:bD)(obj:Option Obj)(c:Nat):Prop:=
 ∃cs ty lo hi,obj=some (.cells cs ty (lo,hi))/\(∀j y,o.get j=some y->∃v,cs[j]?=some v/\Den E y v)/\
  (o.ro=false->ty=o.ty/\(lo=hi\/cs.size<=lo)/\o.n<=cs.size/\(o.loose=false->cs.size=o.n)/\(o.loose=true->cs.size=c*o.esz))
def zt(E:Env):List (J×J×Nat)->List MapEntry->Prop
 | [],l=>l=[]
 |(k,v,b)::es,l=>∃e dw,Den E k e.key/\Den E v e.val/\e.born=b/\zt E es dw/\l=e::dw
theorem zt.sub{E aP:Env}(ay:Sub E aP):∀{es:List (J×J×Nat)} {l:List MapEntry},zt E es l->zt aP es l
 | [],_,h=>h
 |(_,_,_)::_,_,⟨e,dw,h1,h2,h3,aU,bA⟩=>⟨e,dw,h1.sub ay,h2.sub ay,h3,zt.sub ay aU,bA⟩
def og(N:Nat)(E:Env)(F:av J)(tmps:Array Value):Prop:=N<=tmps.size/\∀j y,F.get j=some y->j<N/\∃v,tmps[j]?=some v/\Den E y v
theorem og.sub{N:Nat}{E aP:Env}(ay:Sub E aP){F:av J}{tmps:Array Value}(h:og N E F tmps):og N aP F tmps:=
 ⟨h.1,λj y aa=>let ⟨l,v,h1,h2⟩:=h.2 j y aa;⟨l,v,h1,h2.sub ay⟩⟩
theorem ON:∀(l:List (Nat×Option J)) (j:Nat) (y:J),(iZ l).get j=some y->(j,some y)∈l
 | [],j,y,h=>by cases h
 |(t,x)::l,j,y,h=>by
  cases x with
  |none=>exact List.mem_cons_of_mem _ (ON l j y h)
  |some z=>
   have h:((iZ l).put t z).get j=some y:=h;rw[kA] at h;by_cases e:j=t
   ·rw[if_pos e] at h;cases h;subst e;exact List.mem_cons_self ..
   ·rw[if_neg e] at h;exact List.mem_cons_of_mem _ (ON l j y h)
theorem al3{us:List Nat}{F:Nat->Option J}{j:Nat}{y:J}(h:(h8 us F).get j=some y):F j=some y:=by
 have:=ON _ _ _ h
 obtain⟨t,_,e⟩:=List.mem_map.1 this;simp only[Prod.mk.injEq] at e;rw[<- e.1];exact e.2
theorem og.norm{N:Nat}{E:Env}{F:av J}{tmps:Array Value}(h:og N E F tmps){us:List Nat}:og N E (h8 us F.get) tmps:=
 ⟨h.1,λ_ _ aa=>h.2 _ _ (al3 aa)⟩
def ti:Jump->Option Code
 | .none=>none
 | .ret=>some .ret
 | .ex id=>some (.exit id)
def pf(P:Program)(E:Env)(s:pe)(obj:Option Obj):Prop:=match s with
 | .cells=>False
 | .iter s pos=>obj=some (.stringIter s pos)
 | .map es clock=>∃l:List MapEntry,obj=some (.map l.toArray clock)/\zt E es l
 | .loop st ia ord _ N F ps a c b=>(fZ P ord true a=true/\fZ P ord true c=true)/\∃r:Loop,obj=some (.loop r)/\r.state=st/\r.pending=ti ia/\r.params=ps/\r.assign=a/\r.body=c/\(∃da,E b=some (r.defers,da))/\og N E F r.tmps
 | .jF t=>obj=some (.deferred (bif t then none else some []))
theorem pf.sub{P:Program}{E aP:Env}(ay:Sub E aP){s:pe}{obj:Option Obj}(h:pf P E s obj):pf P aP s obj:=by
 cases s with
 |cells=>exact h
 |iter s pos=>exact h
 |map es clock=>obtain⟨l,h1,h2⟩:=h;exact⟨l,h1,h2.sub ay⟩
 |loop st ia ord me N F ps a c b=>
  obtain⟨h0,r,h1,h2,h3,aU,bA,bC,⟨da,er⟩,hz⟩:=h;exact⟨h0,r,h1,h2,h3,aU,bA,bC,⟨da,ay _ _ er⟩,hz.sub ay⟩
 |jF t=>exact h
theorem pf.there{P:Program}{E:Env}{s:pe}{obj:Option Obj}(h:pf P E s obj):∃x,obj=some x:=by
 cases s with
 |cells=>exact h.elim
 |iter s pos=>exact⟨_,h⟩
 |map es clock=>obtain⟨l,h1,h2⟩:=h;exact⟨_,h1⟩
 |loop st ia ord me N F ps a c b=>obtain⟨h0,r,h1,_⟩:=h;exact⟨_,h1⟩
 |jF t=>exact⟨_,h⟩
def lE(P:Program)(E:Env)(o:bD)(obj:Option Obj)(c:Nat):Prop:=(o.sp= .cells/\Lw E o obj c)\/(pf P E o.sp obj/\o.n=0/\o.ro=true)
theorem azU{P:Program}{E:Env}{s:pe}{obj:Option Obj}(h:pf P E s obj):s≠ .cells:=λe=>by subst e;exact h
theorem lE.cs{P:Program}{E:Env}{o:bD}{obj:Option Obj}{c:Nat}(h:lE P E o obj c)(gJ:o.ro=false):o.sp= .cells/\Lw E o obj c:=by
 rcases h with h|⟨_,_,h⟩
 ·exact h
 ·rw[gJ] at h;cases h
theorem lE.there{P:Program}{E:Env}{o:bD}{obj:Option Obj}{c:Nat}(h:lE P E o obj c):∃x,obj=some x:=by
 rcases h with⟨_,cs,ty,lo,hi,h,_⟩|⟨h,_⟩
 ·exact⟨_,h⟩
 ·exact h.there
theorem lE.sub{P:Program}{E aP:Env}(ay:Sub E aP){o:bD}{obj:Option Obj}{c:Nat}(h:lE P E o obj c):lE P aP o obj c:=by
 rcases h with⟨hi,cs,ty,lo,cA,h0,h1,h2⟩|⟨h,h'⟩
 ·exact .inl ⟨hi,cs,ty,lo,cA,h0,λj y aa=>let ⟨v,a,b⟩:=h1 j y aa;⟨v,a,b.sub ay⟩,h2⟩
 ·exact .inr ⟨h.sub ay,h'⟩
theorem lE.mono{P:Program}{E aP:Env}(ay:cJ E aP){o:bD}{obj:Option Obj}{c:Nat}(h:lE P E o obj c):lE P aP o obj c:=h.sub ay.sub
structure bK (P:Program) (B:Nat) (aV:World) (X:ah) (E:Env) (w:World):Prop where
 os:w.os=aV.os
 tape:w.tape=aV.tape
 output:w.output=aV.output
 base:B<=w.heap.size
 hN:∀k,k<B->w.heap[k]?=aV.heap[k]?
 obj:∀k o,X.aS.get k=some o->∃id c,E k=some (id,c)/\lE P E o w.heap[id]? c/\(o.ro=false\/o.sp≠ .cells->B<=id)
 inj:∀k b1 o o' id c a2,X.aS.get k=some o->X.aS.get b1=some o'->E k=some (id,c)->E b1=some (id,a2)->k=b1
 fresh:∀k,X.next<=k->E k=none
 m7:∀g,g<X.aH->∃c,E g=some (g,c)
 j3:E.n<=X.next
section
variable{P:Program}{B:Nat}{aV w:World}{X:ah}{E:Env}
theorem bK.drew(h:bK P B aV X E w):bK P B aV X E {w with drawn:=w.drawn+1}:=
 ⟨h.os,h.tape,h.output,h.base,h.hN,h.obj,h.inj,h.fresh,h.m7,h.j3⟩
theorem bK.same{af:ah}(h:bK P B aV X E w)(h1:af.aS=X.aS)(h2:af.next=X.next)(h3:af.aH=X.aH):bK P B aV af E w:=
 ⟨h.os,h.tape,h.output,h.base,h.hN,by rw[h1];exact h.obj,by rw[h1];exact h.inj,by rw[h2];exact h.fresh,by rw[h3];exact h.m7,by rw[h2];exact h.j3⟩
theorem bK.lt(h:bK P B aV X E w){k:Nat}{o:bD}(ai:X.aS.get k=some o):k<X.next:=by
 obtain⟨id,c,he,_⟩:=h.obj k o ai;rcases Nat.lt_or_ge k X.next with h1|h1
 ·exact h1
 ·rw[h.fresh k h1] at he;cases he
theorem bD.xL{o:bD}{j:Nat}{y:J}(h:o.get j=some y):j<o.n:=by
 unfold bD.get at h;cases ag:Nat.blt j o.n with
 |true=>exact Nat.blt_eq▸ag
 |false=>simp[ag] at h
theorem lE.cell{o:bD}{id c j:Nat}{y:J}(h:lE P E o w.heap[id]? c)(aa:o.get j=some y):
 ∃v,w.cell? ⟨id,j,none⟩=some v/\Den E y v:=by
 rcases h with⟨_,cs,ty,lo,hi,h0,h1,_⟩|⟨_,h,_⟩
 rotate_left
 ·have:=bD.xL aa;omega
 obtain⟨v,hv,aF⟩:=h1 j y aa;exact⟨v,by simp[World.cell?,h0,hv],aF⟩
def Env.put(E:Env)(k id c:Nat):Env:={f:=λj=>if j=k then some (id,c) else E j,n:=E.n}
theorem Env.qY(E:Env){k j:Nat}(id c:Nat)(h:j≠k):E.put k id c j=E j:=if_neg h
theorem Env.lU(E:Env)(k id c:Nat):E.put k id c k=some (id,c):=if_pos rfl
theorem Env.V3{E:Env}{k id c:Nat}(h:E k=none):Sub E (E.put k id c):=λj x ao=>by
 by_cases e:j=k
 ·subst e;rw[h] at ao;cases ao
 ·rw[Env.qY E id c e];exact ao
theorem Env.rY{E:Env}{k id c:Nat}(h:E k=none)(aO:E.n<=k):cJ E (E.put k id c):=⟨rfl,Env.V3 h,λj aa=>Env.qY E id c (by omega)⟩
theorem bK.IT(h:bK P B aV X E w)(o:bD)(ob:Obj)(c:Nat)
 (fj:∀aP,cJ E aP->lE P aP o (some ob) c):
 bK P B aV (X.new o).2 (E.put X.next w.heap.size c) (w.alloc ob):=by
 have hle:cJ E (E.put X.next w.heap.size c):=Env.rY (h.fresh _ (Nat.le_refl _)) h.j3
 have yb:∀k o',X.aS.get k=some o'->∀id a2,E k=some (id,a2)->id<w.heap.size:=by
  intro k o' ai id a2 he;obtain⟨gr,aDe,fu,PD,_⟩:=h.obj k o' ai;obtain⟨_,nU⟩:=PD.there;rw[he] at fu;cases fu;rcases Nat.lt_or_ge id w.heap.size with h1|h1
  ·exact h1
  ·rw[Array.getElem?_eq_none h1] at nU;cases nU
 have hold:∀k,k<w.heap.size->(w.alloc ob).heap[k]?=w.heap[k]?:=λk ai=>by
  show(w.heap.push _)[k]?=_;rw[Array.getElem?_push,if_neg (by omega)]
 have anA:(w.alloc ob).heap[w.heap.size]?=some ob:=by
  show(w.heap.push _)[w.heap.size]?=_;simp
 have ay:∀k,k≠X.next->(E.put X.next w.heap.size c) k=E k:=λk ai=>Env.qY E _ _ ai
 refine⟨h.os,h.tape,h.output,by simp;have:=h.base;omega,λk ai=>?_,λk o' ai=>?_,λk b1 dH dn id aQ a3 ai cN he fu=>?_,λk ai=>?_,λg bd=>let ⟨c,ae⟩:=h.m7 g bd;⟨c,hle.sub _ _ ae⟩,Nat.le_succ_of_le h.j3⟩
 ·rw[hold k (by have:=h.base;omega)];exact h.hN k ai
 ·rcases cz.ix ai with⟨e,aq⟩|⟨e,aq⟩
  ·subst e;subst aq;exact⟨w.heap.size,c,Env.lU _ _ _ _,by rw[anA];exact fj _ hle,λ_=>h.base⟩
  ·obtain⟨id,a2,he,aI,ag⟩:=h.obj k o' aq;exact⟨id,a2,hle.sub _ _ he,by rw[hold id (yb k o' aq id a2 he)];exact aI.mono hle,ag⟩
 ·rcases cz.ix ai with⟨e,_⟩|⟨e,aq⟩<;>rcases cz.ix cN with⟨bh,_⟩|⟨bh,fS⟩
  ·rw[e,bh]
  ·subst e;rw[Env.lU] at he;cases he;rw[ay _ bh] at fu
   have:=yb b1 dn fS _ _ fu
   omega
  ·subst bh;rw[Env.lU] at fu;cases fu;rw[ay _ e] at he
   have:=yb k dH aq _ _ he
   omega
  ·rw[ay _ e] at he;rw[ay _ bh] at fu;exact h.inj k b1 dH dn id aQ a3 aq fS he fu
 ·have cN:X.next+1<=k:=ai
  rw[ay k (by omega)];exact h.fresh k (by omega)
theorem bK.new(h:bK P B aV X E w)(o:bD)(cs:Array Value)(c lo hi:Nat)(_hro:o.ro=false)(vL:o.sp= .cells)
 (fj:∀aP,cJ E aP->Lw aP o (some (.cells cs o.ty (lo,hi))) c):
 bK P B aV (X.new o).2 (E.put X.next w.heap.size c) (w.alloc (.cells cs o.ty (lo,hi))):=h.IT o _ c λaP hle=> .inl ⟨vL,fj aP hle⟩
def Good(P:Program)(B:Nat)(aV:World)(E:Env)(w:World)(s:Sem Value)(y:J)(af:ah):Prop:=
 ∃aP v w',cJ E aP/\s.run P w= .ok v w'/\Den aP y v/\bK P B aV af aP w'
theorem Good.pure{s:Sem Value}{y:J}{v:Value}(ay:bK P B aV X E w)(aI:s.run P w= .ok v w)(aF:Den E y v):Good P B aV E w s y X:=
 ⟨E,v,w,cJ.refl _,aI,aF,ay⟩
theorem QC{ty:TypeId}{ys:List J}{vs:List Value}(ay:bK P B aV X E w)(hv:cc E ys vs):
 ∃aP,cJ E aP/\aP (newRow X ty ys).1=some (w.heap.size,0)/\bK P B aV (newRow X ty ys).2 aP (w.alloc (.cells vs.toArray ty))/\(Go.newRow ty vs.toArray).run P w= .ok ⟨w.heap.size,0,none⟩ (w.alloc (.cells vs.toArray ty)):=by
 unfold Xe.newRow;rw[force_eq];refine⟨E.put X.next w.heap.size 0,Env.rY (ay.fresh _ (Nat.le_refl _)) ay.j3,Env.lU _ _ _ _,ay.new _ vs.toArray 0 0 0 rfl rfl λaP hle=>?_,rfl⟩;refine⟨vs.toArray,_,0,0,rfl,λj y aa=>?_,λ_=>⟨rfl,.inl rfl,by simp[hv.length],λ_=>by simp[hv.length],λh=>by cases h⟩⟩;have a8:=bD.xL aa;unfold bD.get at aa;have ag:Nat.blt j ys.length=true:=by rw[Nat.blt_eq];exact a8
 simp only[ag,cond_true] at aa;cases aq:(p1 ys).get j with
 |none=>simp[aq] at aa
 |some z=>
  simp only[aq] at aa;cases aa;obtain⟨v,h1,h2⟩:=(hv.mono hle).get j _ (HS _ _ _ aq);exact⟨v,by simpa using h1,h2⟩
def cC(X:ah):Prop:=∀p∈X.pc,p
theorem rq{X af:ah}{y:J}{b:Bool}(h:fN X y=some (b,af)):(cC af->cC X/\∀E v,Den E y v->v= .bool b)/\af.aS=X.aS/\af.next=X.next/\af.aH=X.aH:=by
 cases y with
 |bool c=>
  simp only[fN,Option.some.injEq,Prod.mk.injEq] at h;obtain⟨rfl,rfl⟩:=h;exact⟨λaA=>⟨aA,λE v hv=>hv⟩,rfl,rfl,rfl⟩
 |val x=>
  cases x with
  |bool s=>
   simp only[fN,ah.ask] at h;split at h
   ·rename_i o os aq;simp only[Option.some.injEq,Prod.mk.injEq] at h;obtain⟨rfl,rfl⟩:=h;refine⟨λaA=>⟨λp h=>aA p (List.mem_cons_of_mem _ h),λE v hv=>?_⟩,rfl,rfl,rfl⟩;have e:s=o:=aA (s=o) (List.mem_cons_self ..);have eE:v= .bool s:=hv;rw[eE,e]
   ·cases h
  |_=>simp[fN] at h
 |_=>simp[fN] at h
theorem XH{X af:ah}{y:J}{b want:Bool}(h:lG X want y=some (b,af)):(cC af->cC X/\∀E v,Den E y v->(∃c,v= .bool c/\(c==want)=b)\/(∃a,v= .tuple a/\b=false))/\af.aS=X.aS/\af.next=X.next/\af.aH=X.aH:=by
 unfold lG at h;cases aK:th y with
 |true=>
  simp only[aK,cond_true,Option.some.injEq,Prod.mk.injEq] at h;obtain⟨rfl,rfl⟩:=h;refine⟨λaA=>⟨aA,λE v hv=> .inr ?_⟩,rfl,rfl,rfl⟩;unfold th at aK;split at aK<;>try(cases aK;done)
  exact⟨_,hv,rfl⟩
 |false=>
  simp only[aK,cond_false] at h;split at h<;>try(cases h;done)
  rename_i b' X1 ag;cases h;obtain⟨h1,h2,h3,aU⟩:=rq ag;exact⟨λaA=>⟨(h1 aA).1,λE v hv=> .inl ⟨b',(h1 aA).2 E v hv,rfl⟩⟩,h2,h3,aU⟩
end
section
variable{P:Program}{B:Nat}{aV w:World}{X:ah}{E:Env}
theorem jc{t:TypeId}{n:Nat}(h:dN P t=some n)(w:World):(sizeOf t).run P w= .ok n w:=by
 unfold dN at h;split at h<;>simp at h
 rename_i i hi;subst h;simp[sizeOf,typeInfo,hi]
theorem KR{t:TypeId}{n:Nat}(h:n8 P t=some n)(w:World):∃i,(typeInfo t).run P w= .ok i w/\i.bytes=n:=by
 unfold n8 at h;split at h<;>simp at h
 rename_i i hi;exact⟨i,by simp[typeInfo,hi],h⟩
theorem zc{t:TypeId}{z:Value}(h:hE P t=some z)(w:World):(zeroValue t).run P w= .ok z w:=by
 unfold hE at h;split at h<;>try(cases h;done)
 rename_i i hi;simp[zeroValue,typeInfo,hi,h]
theorem KQ{t:TypeId}{b:Bool}(h:oW P t=some b)(w:World):(isAgg t).run P w= .ok b w:=by
 unfold oW at h;unfold isAgg;rw[Sem.run_bind];split at h<;>simp only[Option.some.injEq,reduceCtorEq] at h
 ·rename_i fD hu;subst h;simp[underlying,hu]
 ·rename_i n e hu;subst h;simp[underlying,hu]
 ·rename_i d Du fv hu;subst h;simp only[underlying,Sem.run_bind,run_program,Result.andThen_ok,hu,Sem.run_pure]
  all_goals (split<;>first|exact absurd rfl (Du _)|exact absurd rfl (fv _ _)|rfl)
theorem dX{t:TypeId}{d:TypeDesc}(h:P.underlying t=some d)(w:World):(underlying t).run P w= .ok d w:=by
 simp[underlying,h]
theorem D1{o:bD}{id c:Nat}(aI:lE P E o w.heap[id]? c):∀(n off:Nat) (ys:List J),j1 o off n=some ys->
 ∃vs,cc E ys vs/\vs.length=n/\∀j v,vs[j]?=some v->w.cell? ⟨id,off+j,none⟩=some v
 |0,off,ys,h=>by simp[j1] at h;subst h;exact⟨[],rfl,rfl,λj v aa=>by simp at aa⟩
 |n+1,off,ys,h=>by
  simp only[j1] at h;split at h<;>try(simp at h;done)
  rename_i y bb;split at h<;>try(simp at h;done)
  rename_i u2 fk;simp at h;subst h;obtain⟨vs,h1,h2,h3⟩:=D1 aI n (off+1) u2 fk;obtain⟨v,hv,aF⟩:=aI.cell bb;refine⟨v::vs,⟨v,vs,aF,h1,rfl⟩,by simp[h2],λj u aa=>?_⟩;cases j with
  |zero=>simp at aa;subst aa;exact hv
  |succ j=>simp at aa;have:=h3 j u aa;rwa[show off+1+j=off+(j+1) by omega] at this
theorem ac7(ay:bK P B aV X E w){t:TypeId}{k off:Nat}{y:J}(h:lW P t X k off=some y){id c:Nat}(ai:E k=some (id,c)):
 ∃v,(loadVar t ⟨id,off,none⟩).run P w= .ok v w/\Den E y v:=by
 unfold lW at h;split at h
 ·rename_i o n aq bX aj;obtain⟨gr,a2,cN,aI,_⟩:=ay.obj k o aq;rw[ai] at cN;cases cN;split at h<;>simp at h
  rename_i ys fk;subst h;obtain⟨vs,h1,h2,h3⟩:=D1 aI n off ys fk;refine⟨.agg vs.toArray,?_,vs,h1,rfl⟩
  have:=run_loadCells_list (P:=P) (w:=w) ⟨id,off,none⟩ vs (λj v aa=>by rw[Addr.add_lit];exact h3 j v aa)
  rw[h2] at this;simp[loadVar,KQ bX,jc aj,this]
 ·rename_i o n aq bX aj;obtain⟨gr,a2,cN,aI,_⟩:=ay.obj k o aq;rw[ai] at cN;cases cN;obtain⟨v,hv,aF⟩:=aI.cell h;exact⟨v,by simp[loadVar,KQ bX,hv],aF⟩
 ·cases h
theorem VZ(P:Program)(id off:Nat)(ty:TypeId)(lo hi:Nat):∀(vs:List Value) (i:Nat) (w:World) (cs:Array Value),w.heap[id]?=some (.cells cs ty (lo,hi))->
 (∀v∈vs,v.oneCell'=true)->(∀j,j<vs.length->off+i+j<cs.size/\(decide (lo<=off+i+j)&&decide (off+i+j<hi))=false)->
 ∃w' m2,(storeCells ⟨id,off,none⟩ vs i).run P w= .ok () w'/\w'.os=w.os/\w'.tape=w.tape/\w'.output=w.output/\w'.heap.size=w.heap.size/\(∀k,k≠id->w'.heap[k]?=w.heap[k]?)/\
  w'.heap[id]?=some (.cells m2 ty (lo,hi))/\m2.size=cs.size/\(∀j,m2[j]?=if off+i<=j/\j<off+i+vs.length then vs[j-(off+i)]? else cs[j]?)
 | [],i,w,cs,ag,_,_=>⟨w,cs,rfl,rfl,rfl,rfl,rfl,λ_ _=>rfl,ag,rfl,λj=>by rw[if_neg (by simp only[List.length_nil];omega)]⟩
 |v::vs,i,w,cs,ag,h1,h2=>by
  obtain⟨a8,oG⟩:=h2 0 (by simp);simp only[Nat.add_zero] at a8 oG;have ae:w.cell? ⟨id,off+i,none⟩=some cs[off+i]:=by simp[World.cell?,ag,a8]
  have ak:w.frozen? ⟨id,off+i,none⟩=false:=by simp only[World.frozen?,ag];exact oG
  have hT:(w.setCell ⟨id,off+i,none⟩ v).heap[id]?=some (.cells (cs.setIfInBounds (off+i) v) ty (lo,hi)):=by
   simp[World.setCell,Array.getElem?_modify,ag]
  obtain⟨w',m2,aI,aq,aK,rN,dV,uv,jU,ey,s4⟩:=VZ P id off ty lo hi vs (i+1) (w.setCell ⟨id,off+i,none⟩ v) (cs.setIfInBounds (off+i) v) hT
   (λu hu=>h1 u (List.mem_cons_of_mem _ hu)) (λj aa=>by
     have:=h2 (j+1) (by simp;omega)
     rw[show off+(i+1)+j=off+i+(j+1) by omega]
     simpa using this)
  refine⟨w',m2,?_,aq.trans rfl,aK.trans rfl,rN.trans rfl,dV.trans (by simp),λk ai=>(uv k ai).trans ?_,jU,by simpa using ey,λj=>?_⟩
  ·simp only[storeCells,Sem.run_bind,Addr.add_lit];rw[run_store P w _ v .plain (h1 v (List.mem_cons_self ..)),ae,ak];simpa using aI
  ·simp only[World.setCell,Array.getElem?_modify];rw[if_neg (by simpa using λe=>ai e.symm)]
  ·rw[s4 j];by_cases e:j=off+i
   ·subst e;rw[if_neg (by omega),if_pos (by simp)];simp[a8]
   ·by_cases iU:off+(i+1)<=j/\j<off+(i+1)+vs.length
    ·rw[if_pos iU,if_pos (by simp;omega),show j-(off+i)=(j-(off+(i+1)))+1 by omega];simp
    ·rw[if_neg iU,if_neg (by simp;omega)];simp[Array.getElem?_setIfInBounds_ne (λh=>e h.symm)]
theorem MY:∀{ys:List J} {vs:List Value},cc E ys vs->eA ys=true->∀v∈vs,v.oneCell'=true
 | [],_,h,_=>by cases h;simp
 |y::ys,_,⟨v,vs,hv,h,e⟩,h1=>by
  subst e;simp only[eA,Bool.and_eq_true] at h1;intro u hu;rcases List.mem_cons.1 hu with rfl|hu
  ·exact akI hv h1.1
  ·exact MY h h1.2 u hu
theorem alE{y:J}(h:eA y.cells=true):∀x,y≠ .val (.agg x):=λx e=>by
 subst e;simp[J.cells,eA,J.one] at h
theorem bK.stored(ay:bK P B aV X E w){k id c:Nat}{o:bD}(aq:X.aS.get k=some o)(ai:E k=some (id,c))(gJ:o.ro=false){off:Nat}{ys:List J}{vs:List Value}
 (hv:cc E ys vs)(h1:eA ys=true)(hlen:off+ys.length<=o.n)(Q:Program):
 ∃w',(storeCells ⟨id,off,none⟩ vs 0).run Q w= .ok () w'/\bK P B aV {X with aS:=X.aS.put k {o with ck:=o.ck+1,fq:=gS o.fq off ys}} E w':=by
 obtain⟨gr,a2,cN,fj,rH⟩:=ay.obj k o aq;obtain⟨vL,cs,ty,lo,hi,ag,ae,yh⟩:=fj.cs gJ;rw[ai] at cN;cases cN;obtain⟨te,oG,aO,oH,kD⟩:=yh gJ;subst te;have At:=hv.length;obtain⟨w',m2,aI,PA,aK,rN,dV,uv,jU,ey,s4⟩:=VZ Q id off o.ty lo hi vs 0 w cs ag (MY hv h1) (λj aa=>⟨by omega,by rcases oG with e|e<;>simp<;>omega⟩);refine⟨w',aI,PA.trans ay.os,aK.trans ay.tape,rN.trans ay.output,by rw[dV];exact ay.base,λb1 cN=>?_,λb1 o' cN=>?_,λk1 k2 dH dn i aQ a3 abS Ar am0 xW=>?_,ay.fresh,ay.m7,ay.j3⟩
 ·have:=rH (.inl gJ)
  rw[uv b1 (by omega)];exact ay.hN b1 cN
 ·rcases cz.ix cN with⟨e,aw⟩|⟨e,fS⟩
  ·subst e;subst aw;refine⟨id,c,ai,.inl ⟨vL,m2,_,lo,hi,jU,λj y aa=>?_,λ_=>⟨rfl,by rw[ey];exact oG,by simpa[ey] using aO,λh=>by rw[ey];exact oH h,λh=>by rw[ey];exact kD h⟩⟩,rH⟩;have Ap:j<o.n:=bD.xL (o:={o with ck:=o.ck+1,fq:=gS o.fq off ys}) aa;have na:Nat.blt j o.n=true:=by rw[Nat.blt_eq];exact Ap
   rw[s4 j];simp only[Nat.add_zero];unfold bD.get at aa;simp only[na,cond_true] at aa;rw[xM ys o.fq off j] at aa;by_cases iU:off<=j/\j<off+ys.length
   ·rw[if_pos iU] at aa;rw[if_pos (by omega)];cases bb:ys[j-off]? with
    |none=>rw[List.getElem?_eq_none_iff] at bb;omega
    |some z=>
     simp only[bb] at aa;cases aa;exact hv.get _ _ bb
   ·rw[if_neg iU] at aa;rw[if_neg (by omega)];exact ae j y (by unfold bD.get;simp[na];exact aa)
  ·obtain⟨i,a2,he,fj,xR⟩:=ay.obj b1 o' fS;have bY:i≠id:=λaw=>e (ay.inj b1 k o' o i a2 c fS aq he (by rw[ai,aw]))
   exact⟨i,a2,he,by rw[uv i bY];exact fj,xR⟩
 ·have f1:∃D8,X.aS.get k1=some D8:=by
   rcases cz.ix abS with⟨e,_⟩|⟨_,h⟩
   ·exact⟨o,e▸aq⟩
   ·exact⟨_,h⟩
  have f2:∃D9,X.aS.get k2=some D9:=by
   rcases cz.ix Ar with⟨e,_⟩|⟨_,h⟩
   ·exact⟨o,e▸aq⟩
   ·exact⟨_,h⟩
  obtain⟨D8,jT⟩:=f1;obtain⟨D9,kh⟩:=f2;exact ay.inj k1 k2 D8 D9 i aQ a3 jT kh am0 xW
end
section
variable{P:Program}{B:Nat}{aV w:World}{X:ah}{E:Env}
theorem alI(new:List Value):∀(off:Nat) (cs:Array Value) (i:Nat),off+i+new.length<=cs.size->
 ((new.zipIdx i).foldl (λ(cs:Array Value) (x:Value×Nat)=>cs.setIfInBounds (off+x.2) x.1) cs).toList=cs.toList.take (off+i)++new++cs.toList.drop (off+i+new.length):=by
 induction new with
 |nil=>intro off cs i h;simp
 |cons v new ba=>
  intro off cs i h;simp only[List.length_cons] at h;simp only[List.zipIdx_cons,List.foldl_cons];rw[ba off _ (i+1) (by simp;omega)];have a8:off+i<cs.toList.length:=by simp;omega
  simp only[Array.toList_setIfInBounds];rw[show off+(i+1)=off+i+1 by omega];rw[List.take_succ_eq_append_getElem (by simpa using a8)];rw[List.take_set_of_le (by omega),List.getElem_set_self];rw[List.drop_set_of_lt (by omega)];simp[Nat.add_assoc,Nat.add_comm 1]
theorem Hb{place:Nat->Option (Nat×Nat)}:∀(fT:List Nat) (ys:List J) (vs:List Value) (cells:List J) (fb:Array Value) (cs:List J),cc E ys vs->cc E cells fb.toList->
 pv place cells (fT.zip ys)=some cs->∃GP,Instr.fill place fb (fT.zip vs)=some GP/\cc E cs GP.toList
 | [],ys,vs,cells,fb,cs,hv,ae,h=>by
   simp[pv] at h;subst h;exact⟨fb,by simp[Instr.fill],ae⟩
 |i::fT,[],vs,cells,fb,cs,hv,ae,h=>by
  cases hv;simp[pv] at h;subst h;exact⟨fb,by simp[Instr.fill],ae⟩
 |i::fT,y::ys,_,cells,fb,cs,⟨v,vs,bb,hv,e⟩,ae,h=>by
  subst e;simp only[List.zip_cons_cons,pv] at h;cases aA:place i with
  |none=>simp[aA] at h
  |some os=>
   obtain⟨off,size⟩:=os;simp only[aA] at h;cases ak:y.flat with
   |false=>simp[ak] at h
   |true=>
    cases h1:Nat.beq y.cells.length size with
    |false=>simp[ak,h1] at h
    |true=>
     cases h2:Nat.ble (off+size) cells.length with
     |false=>simp[ak,h1,h2] at h
     |true=>
      simp only[ak,h1,h2,Bool.and_self,cond_true] at h;have jT:=Nat.eq_of_beq_eq_true h1;have kh:=Nat.le_of_ble_eq_true h2;have Dh:∀x,y≠ .val (.agg x):=λx e=>by subst e;simp[J.flat] at ak
      have PT:=GS bb Dh;have oH:=PT.length;have kD:=ae.length;simp only[Array.length_toList] at oH kD
      have vU:(v.cells.zipIdx.foldl (λ(cs:Array Value) (x:Value×Nat)=>cs.setIfInBounds (off+x.2) x.1) fb).toList=fb.toList.take off++v.cells.toList++fb.toList.drop (off+v.cells.toList.length):=by
       rw[<- Array.foldl_toList,Array.toList_zipIdx]
       have:=alI v.cells.toList off fb 0 (by simp;omega)
       simpa using this
      have aF:cc E (Fg cells off y.cells) (v.cells.zipIdx.foldl (λ(cs:Array Value) (x:Value×Nat)=>cs.setIfInBounds (off+x.2) x.1) fb).toList:=by
       rw[vU];unfold Fg
       have:=(cc.take off ae).append PT
       refine this.append ?_;rw[PT.length];exact cc.drop _ ae
      obtain⟨GP,xX,oD⟩:=Hb fT ys vs _ _ cs hv aF h;refine⟨GP,?_,oD⟩;simp only[List.zip_cons_cons,Instr.fill,aA];rw[if_neg]
      ·exact xX
      ·simp;omega
theorem YC{z:List J}{tL:List Value}(h:cc E z tL):∀n,cc E (r9 z n) (List.replicate n tL).flatten
 |0=>by simp[r9,cc]
 |n+1=>by simp only[r9,List.replicate_succ,List.flatten_cons];exact h.append (YC h n)
theorem ayg(tL:Array Value)(n:Nat):((Array.range (n*tL.size)).map (tL[· %tL.size]!)).toList=(List.replicate n tL.toList).flatten:=by
 induction n with
 |zero=>simp
 |succ n ba=>
  rw[List.replicate_succ',List.flatten_append, <- ba];simp only[List.flatten_singleton,Array.toList_map,Array.toList_range];rw[show(n+1)*tL.size=n*tL.size+tL.size by rw[Nat.add_mul];omega,List.range_add,List.map_append];congr 1;apply List.ext_getElem
  ·simp
  ·intro i h1 h2;simp at h1 h2⊢;rw[Nat.mod_eq_of_lt (by omega)];simp[*]
theorem wc(z:Value):cc E (c2 z).cells z.cells.toList:=GS (YD E z) (λx e=>by cases z<;>simp[c2] at e)
theorem aiv(ay:bK P B aV X E w){e:TypeId}{y:J}{af:ah}(h:pR P e X=some (y,af)):Good P B aV E w (Instr.alloc e true (.tuple #[])) y af:=by
 unfold pR at h;split at h<;>simp at h
 rename_i z a1;obtain⟨rfl,rfl⟩:=h;obtain⟨aP,hle,ai,et,fp⟩:=QC (P:=P) (ty:=e) ay (wc (E:=E) z);refine⟨aP,.pointer (some ⟨w.heap.size,0,none⟩),_,hle,?_,⟨_,_,ai,rfl⟩,et⟩;have Az:(Go.newRow e z.cells).run P w= .ok ⟨w.heap.size,0,none⟩ (w.alloc (.cells z.cells.toList.toArray e)):=by simpa using fp
 simp[Instr.alloc,zc a1,newVar,Az]
theorem ajp(ay:bK P B aV X E w){e:TypeId}{x y:J}{v:Value}{af:ah}(ao:Den E x v)(h:pT e x X=some (y,af)):Good P B aV E w (Instr.box e v) y af:=by
 unfold pT at h;cases ak:x.flat with
 |false=>simp[ak] at h
 |true=>
  simp only[ak,cond_true,Option.some.injEq,Prod.mk.injEq] at h;obtain⟨rfl,rfl⟩:=h;have Dh:∀z,x≠ .val (.agg z):=λz e=>by subst e;simp[J.flat] at ak
  obtain⟨aP,hle,ai,et,fp⟩:=QC (P:=P) (ty:=e) ay (GS ao Dh);refine⟨aP,.pointer (some ⟨w.heap.size,0,none⟩),_,hle,?_,⟨_,_,ai,rfl⟩,et⟩;have Az:(Go.newRow e v.cells).run P w= .ok ⟨w.heap.size,0,none⟩ (w.alloc (.cells v.cells.toList.toArray e)):=by simpa using fp
  simp[Instr.box,newVar,Az]
theorem Wy(ps:Array (Nat×Operand))(lq:Operand->Value):(ps.toList.map (·.1)).zip (ps.toList.map λp=>lq p.2)=(ps.map λ(i,x)=>(i,lq x)).toList:=by
 simp only[Array.toList_map];generalize ps.toList=l
 induction l with
 |nil=>rfl
 |cons p l ba=>simp[ba]
theorem ajr(ay:bK P B aV X E w){t:TypeId}{ps:Array (Nat×Operand)}{lq:Operand->Value}{ys:List J}{y:J}(hv:cc E ys (ps.toList.map λp=>lq p.2))
 (h:ib P t (ps.toList.map (·.1)) ys=some y):Good P B aV E w (Instr.build t (ps.map λ(i,x)=>(i,lq x))) y X:=by
 unfold ib at h;split at h<;>try(cases h;done)
 rename_i z a1;split at h
 ·rename_i fD hu;split at h<;>try(cases h;done)
  rename_i pl iA;split at h<;>try(cases h;done)
  rename_i cs xX;simp only[Option.some.injEq] at h;subst h;obtain⟨fb,ak,aF⟩:=Hb (E:=E) (ps.toList.map (·.1)) ys _ _ _ cs hv (wc z) xX;rw[Wy] at ak;refine Good.pure ay (v:= .agg fb) ?_ ⟨fb.toList,aF,by simp⟩;simp only[Array.toList_map] at ak;simp[Instr.build,zc a1,dX hu,Array.mapM_eq_mapM_toList,run_places w _ _ iA,ak]
 ·rename_i n e hu;split at h<;>try(cases h;done)
  rename_i s aj;split at h<;>try(cases h;done)
  rename_i cs xX;simp only[Option.some.injEq] at h;subst h;obtain⟨fb,ak,aF⟩:=Hb (E:=E) (ps.toList.map (·.1)) ys _ _ _ cs hv (wc z) xX;rw[Wy] at ak;refine Good.pure ay (v:= .agg fb) ?_ ⟨fb.toList,aF,by simp⟩;simp only[Array.toList_map] at ak;simp[Instr.build,zc a1,dX hu,jc aj,ak]
 ·cases h
end
section
variable{P:Program}{B:Nat}{aV w:World}{X:ah}{E:Env}
theorem ajq(ay:bK P B aV X E w){t:TypeId}{len:Nat}{ps:Array (Nat×Operand)}{lq:Operand->Value}{ys:List J}{y:J}{af:ah}(hv:cc E ys (ps.toList.map λp=>lq p.2))
 (h:oU P t len (ps.toList.map (·.1)) ys X=some (y,af)):Good P B aV E w (Instr.buildSlice t len (ps.map λ(i,x)=>(i,lq x))) y af:=by
 unfold oU at h;split at h<;>try(cases h;done)
 rename_i e hu;split at h<;>try(cases h;done)
 rename_i s z aj a1;cases h1:Nat.ble (len*s) 65536 with
 |false=>simp[h1] at h
 |true=>
 cases h2:Nat.ble 1 s with
 |false=>simp[h1,h2] at h
 |true=>
 cases h3:Nat.beq (c2 z).cells.length s with
 |false=>simp[h1,h2,h3] at h
 |true=>
 simp only[h1,h2,h3,Bool.and_self,cond_true] at h;have jT:=Nat.le_of_ble_eq_true h1;have kh:=Nat.le_of_ble_eq_true h2;have qo:=Nat.eq_of_beq_eq_true h3;split at h<;>try(cases h;done)
 rename_i cs xX;simp only[Option.some.injEq,Prod.mk.injEq] at h;obtain⟨rfl,rfl⟩:=h;have qA:=wc (E:=E) z;have iB:=qA.length;simp only[Array.length_toList] at iB
 have s0:cc E (r9 (c2 z).cells len) ((Array.range (len*s)).map (z.cells[· %z.cells.size]!)).toList:=by
  rw[show len*s=len*z.cells.size by rw[iB,qo],ayg];exact YC qA len
 obtain⟨fb,ak,aF⟩:=Hb (E:=E) (ps.toList.map (·.1)) ys _ _ _ cs hv s0 xX;rw[Wy] at ak;simp only[Array.toList_map] at ak;obtain⟨aP,hle,ai,et,fp⟩:=QC (P:=P) (ty:=e) ay aF;refine⟨aP,.slice (some ⟨w.heap.size,0,none⟩) len len,_,hle,?_,⟨_,_,ai,rfl⟩,et⟩;have Az:(Go.newRow e fb).run P w= .ok ⟨w.heap.size,0,none⟩ (w.alloc (.cells fb.toList.toArray e)):=by simpa using fp
 unfold Instr.buildSlice;by_cases h0:len*s=0
 ·have hlen:len=0:=by
   rcases Nat.mul_eq_zero.1 h0 with h|h
   ·exact h
   ·omega
  subst hlen;have H9:Instr.fill (λi=>some (i*s,s)) #[] (ps.toList.map λa=>(a.1,lq a.2))=some fb:=by simpa[Array.range_zero'] using ak
  simp[dX hu,jc aj,H9,Az,Array.range_zero']
 ·simp only[Sem.run_bind,dX hu,jc aj,Result.andThen_ok];rw[if_neg (by omega),if_neg h0];simp[zc a1,ak,Az]
theorem apC{ty:TypeId}{z:Value}{s n:Nat}(ay:bK P B aV X E w)(aj:(c2 z).cells.length=s)(ki:1<=s):
 ∃aP,cJ E aP/\aP (mM X ty (n*s) (c2 z).cells).1=some (w.heap.size,0)/\
  bK P B aV (mM X ty (n*s) (c2 z).cells).2 aP (w.alloc (.cells ((Array.range (n*s)).map (z.cells[· %z.cells.size]!)) ty)):=by
 unfold mM;rw[force_eq];have iB:z.cells.size=s:=by have:=(wc (E:=E) z).length;simpa[aj] using this
 refine⟨E.put X.next w.heap.size 0,Env.rY (ay.fresh _ (Nat.le_refl _)) ay.j3,Env.lU _ _ _ _,ay.new _ _ 0 0 0 rfl rfl λaP hle=>?_⟩;refine⟨_,_,0,0,rfl,λj y aa=>?_,λ_=>⟨rfl,.inl rfl,by simp,λ_=>by simp,λh=>by cases h⟩⟩;have a8:=bD.xL aa;unfold bD.get at aa;have ag:Nat.blt j (n*s)=true:=by rw[Nat.blt_eq];exact a8
 simp only[ag,cond_true,get_nil] at aa;obtain⟨v,h1,h2⟩:=((wc (E:=E) z).mono hle).get _ _ (HS _ _ _ aa);refine⟨v,?_,h2⟩;have Pv:j<n*s:=a8;rw[aj] at h1;have hm:j%s<s:=Nat.mod_lt _ (by omega);simp only[Array.getElem?_toList] at h1;rw[Array.getElem?_map,Array.getElem?_range];simp only[Pv,if_true,Option.map_some,iB];rw[<- h1,getElem!_def,h1]
theorem yK{y:J}{n:Nat}(h:hL y=some n){v:Value}(hv:Den E y v):∃k,v= .int k n:=by
 unfold hL at h;split at h<;>simp at h
 subst h;exact⟨_,hv⟩
theorem wrap_small{n:Nat}(h:n<=140737488355328):IntKind.i64.wrap (n:Int)=n:=by
 unfold IntKind.wrap;have e:((2:Int) ^ 64)=18446744073709551616:=rfl;have bh:((2:Int) ^ (64-1))=9223372036854775808:=rfl;simp only[IntKind.bits,IntKind.signed,Bool.true_and,e,bh];rw[if_neg (by simp;omega)];omega
theorem apg(ay:bK P B aV X E w){t:TypeId}{l c y:J}{lv fb:Value}{af:ah}(aJ:Den E l lv)(ae:Den E c fb)
 (h:pU P t l c X=some (y,af)):Good P B aV E w (Instr.makeSlice t lv fb) y af:=by
 unfold pU at h;split at h<;>try(cases h;done)
 rename_i e hu;split at h<;>try(cases h;done)
 rename_i la ec ab2 amR;split at h<;>try(cases h;done)
 rename_i s z b aj a1 ag;obtain⟨k1,rfl⟩:=yK ab2 aJ;obtain⟨k2,rfl⟩:=yK amR ae;cases h1:Nat.ble la ec with
 |false=>simp[h1] at h
 |true=>
 cases h2:Nat.ble (ec*b) 140737488355328 with
 |false=>simp[h1,h2] at h
 |true=>
 cases h3:Nat.ble ec 140737488355328 with
 |false=>simp[h1,h2,h3] at h
 |true=>
 cases aU:Nat.beq (c2 z).cells.length s with
 |false=>simp[h1,h2,h3,aU] at h
 |true=>
 cases bA:Nat.ble 1 s with
 |false=>simp[h1,h2,h3,aU,bA] at h
 |true=>
 simp only[h1,h2,h3,aU,bA,Bool.and_self,cond_true,Option.some.injEq,Prod.mk.injEq] at h;obtain⟨rfl,rfl⟩:=h;have jT:=Nat.le_of_ble_eq_true h1;have kh:=Nat.le_of_ble_eq_true h2;have qo:=Nat.le_of_ble_eq_true h3;have amj:=Nat.eq_of_beq_eq_true aU;have amn:=Nat.le_of_ble_eq_true bA;obtain⟨aP,hle,ai,et⟩:=apC (ty:=e) (n:=ec) ay amj amn;refine⟨aP,.slice (some ⟨w.heap.size,0,none⟩) la ec,_,hle,?_,⟨_,_,ai,rfl⟩,et⟩;obtain⟨i,hi,Ao⟩:=KR ag w;have amJ:(b:Int)*(ec:Int)=((ec*b:Nat):Int):=by rw[Nat.mul_comm];simp
 unfold Instr.makeSlice;simp only[Sem.run_bind,dX hu,Result.andThen_ok,asInt,asIntOf,Sem.run_pure,hi,wrap_small qo,wrap_small (Nat.le_trans jT qo),Ao]
 have rL:¬((decide ((ec:Int)<0)||decide ((b:Int)*(ec:Int)>2 ^ 48))=true\/decide ((la:Int)<0)=true\/decide ((la:Int)>(ec:Int))=true):=by
  rw[amJ];simp;omega
 rw[if_neg (by simp only[Bool.or_eq_true,decide_eq_true_eq] at rL⊢;omega)];have mJ:∀cs,(Go.newRow e cs).run P w= .ok ⟨w.heap.size,0,none⟩ (w.alloc (.cells cs e)):=λ_=>rfl
 simp only[run_askRoom,Result.andThen_ok,Sem.run_bind,jc aj,Int.toNat_natCast];by_cases h0:ec*s=0
 ·have:ec=0:=by rcases Nat.mul_eq_zero.1 h0 with h|h<;>omega
  subst this;rw[if_pos h0];simp[mJ,Array.range_zero']
 ·rw[if_neg h0];simp[zc a1,mJ]
end
section
variable{P:Program}{E:Env}{w:World}
def im(P:Program)(E:Env)(w:World)(s:Sem Value)(y:J):Prop:=∃v,s.run P w= .ok v w/\Den E y v
theorem apJ{x y:J}{v:Value}(ao:Den E x v)(h:eC x=some y):
 x=y/\((∃a,v= .pointer (some a))\/∃f a b,v= .func (.func f) a b):=by
 unfold eC at h;split at h<;>simp at h
 ·subst h;obtain⟨_,_,_,rfl⟩:=ao;exact⟨rfl,.inl ⟨_,rfl⟩⟩
 ·subst h;obtain⟨_,_,_,_,rfl⟩:=ao;exact⟨rfl,.inr ⟨_,_,_,rfl⟩⟩
theorem Mz{op:BinOp}{k:IntKind}{a b:Int}{y:J}(t:TypeId)(h:arith op k a b=some y):im P E w (binOp op t (.int k a) (.int k b)) y:=by
 unfold arith at h;split at h
 case h_4=>
  cases ag:(b==0) with
  |true=>simp[ag] at h
  |false=>
   simp only[ag,cond_false,fC,Option.some.injEq] at h;subst h;have hT:b≠0:=by simpa using ag
   exact⟨_,by simp[binOp_quo,Op.intDiv,hT],rfl⟩
 case h_5=>
  cases ag:(b==0) with
  |true=>simp[ag] at h
  |false=>
   simp only[ag,cond_false,fC,Option.some.injEq] at h;subst h;have hT:b≠0:=by simpa using ag
   exact⟨_,by simp[binOp_rem,Op.intDiv,hT],rfl⟩
 all_goals first
  |(simp only[fC,Option.some.injEq] at h;subst h;exact⟨_,by simp[binOp,Op.intArith,Op.intBits,Op.intCmp];rfl,rfl⟩)
  |(simp only[fC,Option.some.injEq] at h;subst h;exact⟨_,by simp[binOp,Op.intArith,Op.intBits,Op.intCmp],rfl⟩)
  |cases h
theorem My{op:BinOp}{k:IntKind}{a b:Int}{y:J}(t:TypeId)(h:Cb op k a b=some y):im P E w (binOp op t (.int k a) (.int k b)) y:=by
 unfold Cb at h;split at h
 all_goals first
  |(simp only[Option.some.injEq] at h;subst h;exact⟨_,by simp[binOp,Op.intArith,Op.intCmp];rfl,rfl⟩)
  |(simp only[Option.some.injEq] at h;subst h;exact⟨_,by simp[binOp,Op.intArith,Op.intCmp],rfl⟩)
  |cases h
theorem aga{op:BinOp}{k b1:IntKind}{a b:Int}{y:J}(t:TypeId)(pB:op= .shl\/op= .shr)(h:wF op k a b=some y):im P E w (binOp op t (.int k a) (.int b1 b)) y:=by
 unfold wF at h;cases ag:decide (b<0) with
 |true=>simp[ag] at h
 |false=>
  have hT:¬b<0:=by simpa using ag
  simp only[ag,cond_false] at h;rcases pB with rfl|rfl
  ·simp only[fC,Option.some.injEq] at h;subst h;exact⟨_,by rw[binOp_shl];simp[Op.shift,hT],rfl⟩
  ·simp only[fC,Option.some.injEq] at h;subst h;exact⟨_,by rw[binOp_shr];simp[Op.shift,hT],rfl⟩
theorem aon{op:BinOp}{k b1:IntKind}{a b:Int}{y:J}(t:TypeId)(h:AD op k a b1 b=some y):im P E w (binOp op t (.int k a) (.int b1 b)) y:=by
 unfold AD at h;split at h
 ·exact aga t (.inl rfl) h
 ·exact aga t (.inr rfl) h
 ·cases ai:(k==b1) with
  |false=>simp[ai] at h
  |true=>
   have:k=b1:=by simpa using ai
   subst this;simp only[ai,cond_true] at h;exact Mz t h
theorem aAd{op:BinOp}{a b:ByteArray}{y:J}(t:TypeId)(h:V0 op a b=some y):im P E w (binOp op t (.string a) (.string b)) y:=by
 unfold V0 at h;split at h
 ·cases ag:decide (((a.size+b.size:Nat):Int)>IntKind.i64.max) with
  |true=>simp only[ag,cond_true] at h;cases h
  |false=>
   simp only[ag,cond_false,Option.some.injEq] at h;subst h;have hT:=of_decide_eq_false ag;exact⟨_,by simp only[binOp,Op.stringOp];rw[if_neg hT];rfl,rfl⟩
 ·simp only[Option.some.injEq] at h;subst h;exact⟨_,by simp only[binOp,Op.stringOp];rfl,rfl⟩
 ·simp only[Option.some.injEq] at h;subst h;exact⟨_,by simp only[binOp,Op.stringOp];rfl,rfl⟩
 ·cases h
theorem V1{op:BinOp}{a b:ByteArray}{y:J}(t:TypeId)(h:Fj op a b=some y):im P E w (binOp op t (.string a) (.string b)) y:=by
 unfold Fj at h;split at h
 ·simp only[Option.some.injEq] at h;subst h;exact⟨_,by simp only[binOp,Op.stringOp];rfl,rfl⟩
 ·simp only[Option.some.injEq] at h;subst h;exact⟨_,by simp only[binOp,Op.stringOp];rfl,rfl⟩
 ·cases h
theorem Cp{k off len:Nat}{cap:Option Nat}{lo:Nat}{u:Value}(h:Den E (.aY k off len cap lo) u):∃id c,u= .slice (some ⟨id,off,none⟩) len c:=by
 cases cap<;>(obtain⟨id,_,_,rfl⟩:=h;exact⟨id,_,rfl⟩)
theorem A8{t:TypeId}{cs:List J}{off:Nat}{z:J}{vs:List Value}(hv:cc E cs vs)(h:pN P t cs off=some z):im P E w (part t vs.toArray off) z:=by
 unfold pN at h;split at h
 ·rename_i n bX aj;cases ag:Nat.ble (off+n) cs.length with
  |false=>simp[ag] at h
  |true=>
   simp only[ag,cond_true,Option.some.injEq] at h;subst h;have hT:=Nat.le_of_ble_eq_true ag;have aJ:=hv.length;refine⟨.agg (vs.toArray.extract off (off+n)),by simp[part,KQ bX,jc aj],(vs.drop off).take n,cc.take n (cc.drop off hv),?_⟩;simp
 ·rename_i n bX aj;obtain⟨v,h1,h2⟩:=hv.get _ _ h;exact⟨v,by simp[part,KQ bX,h1],h2⟩
 ·cases h
theorem ak8{t:TypeId}{x y:J}{u v:Value}{b:Bool}(ao:Den E x u)(bb:Den E y v)(h:ub P t x y=some b)(d:Nat):(Op.equalIn (d+1) t u v).run P w= .ok b w:=by
 unfold ub at h;split at h<;>(try(cases h;done))<;>rename_i hu<;>simp only[Option.some.injEq] at h<;>subst h
 all_goals
  first
  |(have fw:u=_:=ao;have fe:v=_:=bb;subst fw;subst fe;simp[Op.equalIn,dX hu];done)
  |(have fw:u=_:=ao;obtain⟨_,_,_,rfl⟩:=bb;subst fw;simp[Op.equalIn,dX hu];done)
  |(obtain⟨_,_,_,rfl⟩:=ao;have fe:v=_:=bb;subst fe;simp[Op.equalIn,dX hu];done)
  |(have fw:u=_:=ao;obtain⟨_,_,_,_,rfl⟩:=bb;subst fw;simp[Op.equalIn,dX hu];done)
  |(obtain⟨_,_,_,_,rfl⟩:=ao;have fe:v=_:=bb;subst fe;simp[Op.equalIn,dX hu];done)
  |(have fw:u=_:=ao;obtain⟨_,_,rfl⟩:=bb;subst fw;simp[Op.equalIn,dX hu];done)
  |(obtain⟨_,_,rfl⟩:=ao;have fe:v=_:=bb;subst fe;simp[Op.equalIn,dX hu];done)
  |(obtain⟨_,_,rfl⟩:=Cp ao;have fe:v=_:=bb;subst fe;simp[Op.equalIn,dX hu];done)
  |(obtain⟨_,_,rfl⟩:=Cp bb;have fw:u=_:=ao;subst fw;simp[Op.equalIn,dX hu];done)
  |(obtain⟨_,_,_,_,_,rfl⟩:=ao;have fe:v=_:=bb;subst fe;simp[Op.equalIn,dX hu];done)
  |(obtain⟨_,_,_,_,_,rfl⟩:=bb;have fw:u=_:=ao;subst fw;simp[Op.equalIn,dX hu];done)
theorem Nb{r:TypeId->J->J->Option Bool}{d:Nat}(aI:∀(t:TypeId) (x y:J) (u v:Value) (b:Bool),Den E x u->Den E y v->r t x y=some b->(Op.equalIn d t u v).run P w= .ok b w)
 {xs ys:List J}{us vs:List Value}(ao:cc E xs us)(bb:cc E ys vs):∀(fD:List Field) (b:Bool),zY P r xs ys fD=some b->(Op.eqFields d us.toArray vs.toArray fD).run P w= .ok b w
 | [],b,h=>by simp[zY] at h;subst h;rfl
 |f::fD,b,h=>by
  simp only[zY] at h;simp only[Op.eqFields];cases aO:(f.name=="_") with
  |true=>
   rw[aO] at h;simp only[cond_true] at h;have ur:f.name="_":=by simpa using aO
   simp only[ur,ne_eq,not_true_eq_false,if_false];exact Nb aI ao bb fD b h
  |false=>
   rw[aO] at h;simp only[cond_false] at h;have ur:f.name≠"_":=by simpa using aO
   split at h<;>try(cases h;done)
   rename_i p q aA aZ;split at h<;>try(cases h;done)
   rename_i bR b2 h1 h2;cases h;obtain⟨u,g1,g2⟩:=A8 (w:=w) ao aA;obtain⟨v,g3,g4⟩:=A8 (w:=w) bb aZ;have g5:=aI _ _ _ _ _ _ g2 g4 h1;have g6:=Nb aI ao bb fD b2 h2;rw[if_pos ur];simp only[Sem.run_bind,g1,g3,g5,Result.andThen_ok];cases bR with
   |false=>simp
   |true=>simpa using g6
theorem YW{r:TypeId->J->J->Option Bool}{d:Nat}(aI:∀(t:TypeId) (x y:J) (u v:Value) (b:Bool),Den E x u->Den E y v->r t x y=some b->(Op.equalIn d t u v).run P w= .ok b w){e sz:Nat}
 {xs ys:List J}{us vs:List Value}(ao:cc E xs us)(bb:cc E ys vs):∀(is:List Nat) (b:Bool),vw P r e sz xs ys is=some b->(Op.eqItems d e sz us.toArray vs.toArray is).run P w= .ok b w
 | [],b,h=>by simp[vw] at h;subst h;rfl
 |i::is,b,h=>by
  simp only[vw] at h;simp only[Op.eqItems];split at h<;>try(cases h;done)
  rename_i p q aA aZ;split at h<;>try(cases h;done)
  rename_i bR b2 h1 h2;cases h;obtain⟨u,g1,g2⟩:=A8 (w:=w) ao aA;obtain⟨v,g3,g4⟩:=A8 (w:=w) bb aZ;have g5:=aI _ _ _ _ _ _ g2 g4 h1;have g6:=YW aI ao bb is b2 h2;simp only[Sem.run_bind,g1,g3,g5,Result.andThen_ok];cases bR with
  |false=>simp
  |true=>simpa using g6
theorem YT:∀(n:Nat) (t:TypeId) (x y:J) (u v:Value) (b:Bool),Den E x u->Den E y v->pq P n t x y=some b->∀d,n<=d->(Op.equalIn d t u v).run P w= .ok b w
 |0,_,_,_,_,_,_,_,_,h,_,_=>by simp[pq] at h
 |n+1,t,x,y,u,v,b,ao,bb,h,d,aF=>by
  obtain⟨d,rfl⟩:∃hy,d=hy+1:=⟨d-1,by omega⟩
  have ba:∀(t:TypeId) (x y:J) (u v:Value) (b:Bool),Den E x u->Den E y v->pq P n t x y=some b->(Op.equalIn d t u v).run P w= .ok b w:=
   λt x y u v b ao bb h=>YT n t x y u v b ao bb h d (by omega)
  simp only[pq] at h;split at h
  ·rename_i b1 k a k2 b2 hu;have fw:u=_:=ao;have fe:v=_:=bb;subst fw;subst fe;cases ai:(k==k2) with
   |false=>simp[ai] at h
   |true=>
    simp only[ai,cond_true,Option.some.injEq] at h;obtain rfl:k=k2:=by simpa using ai
    subst h;exact run_equalIn_int w d t k b1 a b2 hu
  ·rename_i a b2 hu;have fw:u=_:=ao;have fe:v=_:=bb;subst fw;subst fe;cases h;exact run_equalIn_string w d t a b2 hu
  ·rename_i fD xs ys hu;obtain⟨us,h1,rfl⟩:=ao;obtain⟨vs,h2,rfl⟩:=bb;cases aj:P.stoodInHeld t with
   |true=>simp[aj] at h
   |false=>
    simp only[aj,cond_false] at h;have vJ:P.fieldsOf t=fD:=by simp[Program.fieldsOf,hu]
    rw[run_equalIn_struct w d t us.toArray vs.toArray (by rw[vJ];exact hu) aj,vJ];exact Nb ba h1 h2 _ _ h
  ·rename_i m e xs ys hu;obtain⟨us,h1,rfl⟩:=ao;obtain⟨vs,h2,rfl⟩:=bb;split at h<;>try(cases h;done)
   rename_i sz dV;unfold dN at dV;split at dV<;>try(cases dV;done)
   rename_i i hi;cases dV
   have:=run_equalIn_array w d us.toArray vs.toArray hu hi
   rw[this];have ae:P.cellsOf e=i.size:=by simp[Program.cellsOf,hi]
   rw[ae];exact YW ba h1 h2 _ _ h
  ·exact ak8 ao bb h d
theorem ak9{t:TypeId}{x y:J}{u v:Value}{b:Bool}(ao:Den E x u)(bb:Den E y v)(h:ub P t x y=some b):
 (Op.equal t u v).run P w= .ok b w/\(∀op ox oy,eqGuard op t ox oy u v=Pure.pure ())/\binOp .eql t u v=(do Pure.pure (.bool (<- Op.equal t u v)))/\binOp .neq t u v=(do Pure.pure (.bool (!(<- Op.equal t u v)))):=by
 unfold ub at h;unfold Op.equal;obtain⟨d,aF⟩:∃d,Op.maxDepth=d+1:=⟨9999,rfl⟩;rw[aF];split at h<;>(try(cases h;done))<;>rename_i hu<;>simp only[Option.some.injEq] at h<;>subst h
 all_goals
  first
  |(have fw:u=_:=ao;have fe:v=_:=bb;subst fw;subst fe
    refine⟨by simp[Op.equalIn,dX hu],λop _ _=>by cases op<;>rfl,?_,?_⟩<;>simp[binOp,Op.equal,aF])
  |(have fw:u=_:=ao;obtain⟨_,_,_,rfl⟩:=bb;subst fw
    refine⟨by simp[Op.equalIn,dX hu],λop _ _=>by cases op<;>rfl,?_,?_⟩<;>simp[binOp,Op.equal,aF])
  |(obtain⟨_,_,_,rfl⟩:=ao;have fe:v=_:=bb;subst fe
    refine⟨by simp[Op.equalIn,dX hu],λop _ _=>by cases op<;>rfl,?_,?_⟩<;>simp[binOp,Op.equal,aF])
  |(have fw:u=_:=ao;obtain⟨_,_,_,_,rfl⟩:=bb;subst fw
    refine⟨by simp[Op.equalIn,dX hu],λop _ _=>by cases op<;>rfl,?_,?_⟩<;>simp[binOp,Op.equal,aF])
  |(obtain⟨_,_,_,_,rfl⟩:=ao;have fe:v=_:=bb;subst fe
    refine⟨by simp[Op.equalIn,dX hu],λop _ _=>by cases op<;>rfl,?_,?_⟩<;>simp[binOp,Op.equal,aF])
  |(have fw:u=_:=ao;obtain⟨_,_,rfl⟩:=bb;subst fw
    refine⟨by simp[Op.equalIn,dX hu],λop _ _=>by cases op<;>rfl,?_,?_⟩<;>simp[binOp,Op.equal,aF])
  |(obtain⟨_,_,rfl⟩:=ao;have fe:v=_:=bb;subst fe
    refine⟨by simp[Op.equalIn,dX hu],λop _ _=>by cases op<;>rfl,?_,?_⟩<;>simp[binOp,Op.equal,aF])
  |(obtain⟨_,_,rfl⟩:=Cp ao;have fe:v=_:=bb;subst fe
    refine⟨by simp[Op.equalIn,dX hu],λop _ _=>by cases op<;>rfl,?_,?_⟩<;>simp[binOp,Op.equal,aF])
  |(obtain⟨_,_,rfl⟩:=Cp bb;have fw:u=_:=ao;subst fw
    refine⟨by simp[Op.equalIn,dX hu],λop _ _=>by cases op<;>rfl,?_,?_⟩<;>simp[binOp,Op.equal,aF])
  |(obtain⟨_,_,_,_,_,rfl⟩:=ao;have fe:v=_:=bb;subst fe
    refine⟨by simp[Op.equalIn,dX hu],λop _ _=>by cases op<;>rfl,?_,?_⟩<;>simp[binOp,Op.equal,aF])
  |(obtain⟨_,_,_,_,_,rfl⟩:=bb;have fw:u=_:=ao;subst fw
    refine⟨by simp[Op.equalIn,dX hu],λop _ _=>by cases op<;>rfl,?_,?_⟩<;>simp[binOp,Op.equal,aF])
theorem alc{t:TypeId}{ox oy:Operand}{x y:J}{u v:Value}{b:Bool}(ao:Den E x u)(bb:Den E y v)(ag:uc P t x y=some b):
 (Op.equal t u v).run P w= .ok b w/\(∀op,(eqGuard op t ox oy u v).run P w= .ok () w)/\binOp .eql t u v=(do Pure.pure (.bool (<- Op.equal t u v)))/\binOp .neq t u v=(do Pure.pure (.bool (!(<- Op.equal t u v)))):=by
 unfold uc at ag;split at ag
 ·have fw:=ao;have fe:=bb;obtain⟨us,h1,rfl⟩:=fw;obtain⟨vs,h2,rfl⟩:=fe;cases bd:P.eqGuardType P.depth t with
  |true=>simp[bd] at ag
  |false=>
   simp only[bd,cond_false] at ag;exact⟨YT 16 t _ _ (.agg us.toArray) (.agg vs.toArray) b ao bb ag Op.maxDepth (by decide),λop=>run_eqGuard_agg w op t ox oy _ _ bd,rfl,rfl⟩
 ·split at ag<;>try(cases ag;done)
  rename_i ms hu;cases hm:ms.isEmpty with
  |false=>simp[hm] at ag
  |true=>
   simp only[hm,cond_true,Option.some.injEq] at ag;subst ag;have az:u= .nilIface:=ao;have aw:v= .nilIface:=bb;subst az;subst aw;obtain⟨d,aF⟩:∃d,Op.maxDepth=d+1:=⟨9999,rfl⟩;refine⟨by simp[Op.equal,aF,Op.equalIn,dX hu],λop=>?_,?_,?_⟩
   ·cases op<;>first|rfl|(cases ox<;>cases oy<;>simp[eqGuard,aF,Op.eqGuardIn,dX hu,hm])
   all_goals simp[binOp,Op.equal,aF]
 ·obtain⟨h1,h2,h3,aU⟩:=ak9 (w:=w) ao bb ag;exact⟨h1,λop=>by rw[h2];rfl,h3,aU⟩
theorem aji{op:BinOp}{t:TypeId}{ox oy:Operand}{x y z:J}{u v:Value}(ao:Den E x u)(bb:Den E y v)(h:vo P op t x y=some z):
 im P E w (do eqGuard op t ox oy u v;binOp op t u v) z:=by
 have HT:∀k n (v:Value),eqGuard op t ox oy (.int k n) v=Pure.pure ():=λ_ _ _=>by cases op<;>rfl
 have gs:∀s (v:Value),eqGuard op t ox oy (.string s) v=Pure.pure ():=λ_ _=>by cases op<;>rfl
 unfold vo at h;split at h
 ·have az:u=_:=ao;have aw:v=_:=bb;subst az;subst aw;rw[HT];exact aon t h
 ·rename_i k a b1 b;have az:u=_:=ao;have aw:v=_:=bb;subst az;subst aw;cases ai:(k==b1) with
  |false=>simp[ai] at h
  |true=>obtain rfl:k=b1:=by simpa using ai
         simp only[ai,cond_true] at h;rw[HT];exact My t h
 ·rename_i k a b1 b;have az:u=_:=ao;have aw:v=_:=bb;subst az;subst aw;cases ai:(k==b1) with
  |false=>simp[ai] at h
  |true=>obtain rfl:k=b1:=by simpa using ai
         simp only[ai,cond_true] at h;rw[HT];exact My t h
 ·rename_i k a b1 b;have az:u=_:=ao;have aw:v=_:=bb;subst az;subst aw;cases ai:(k==b1) with
  |false=>simp[ai] at h
  |true=>obtain rfl:k=b1:=by simpa using ai
         simp only[ai,cond_true] at h;rw[HT];exact My t h
 ·have az:u=_:=ao;have aw:v=_:=bb;subst az;subst aw;rw[gs];exact aAd t h
 ·have az:u=_:=ao;have aw:v=_:=bb;subst az;subst aw;rw[gs];exact V1 t h
 ·have az:u=_:=ao;have aw:v=_:=bb;subst az;subst aw;rw[gs];exact V1 t h
 ·have az:u=_:=ao;have aw:v=_:=bb;subst az;subst aw;rw[gs];exact V1 t h
 ·have key:=λb (ag:uc P t x y=some b)=>alc (w:=w) (ox:=ox) (oy:=oy) ao bb ag
  unfold sM at h;split at h
  ·split at h<;>try(cases h;done)
   rename_i b ag;cases h;obtain⟨h1,h2,h3,_⟩:=key b ag;exact⟨.bool b,by rw[h3];simp[h1,h2],rfl⟩
  ·split at h<;>try(cases h;done)
   rename_i b ag;cases h;obtain⟨h1,h2,_,h3⟩:=key b ag;exact⟨.bool (!b),by rw[h3];simp[h1,h2],rfl⟩
  ·cases h
theorem aBx{op:UnOp}{x z:J}{u:Value}(ao:Den E x u)(h:kM op x=some z):im P E w (Op.unary op u) z:=by
 unfold kM at h;split at h
 ·have az:u=_:=ao;subst az
  have:=Mz (P:=P) (E:=E) (w:=w) 0 h
  rw[binOp_sub] at this;exact this
 ·have az:u=_:=ao;subst az
  have:=Mz (P:=P) (E:=E) (w:=w) 0 h
  rw[binOp_xor] at this;exact this
 ·have az:u=_:=ao;subst az;cases h;exact⟨_,rfl,rfl⟩
 ·have az:u=_:=ao;subst az;cases h;exact⟨_,rfl,rfl⟩
 ·cases h
theorem akk{s d:TypeId}{x z:J}{u:Value}(ao:Den E x u)(h:n5 P s d x=some z):im P E w (convert s d u) z:=by
 unfold n5 at h;split at h<;>try(cases h;done)
 rename_i bg aj;split at h<;>(try(cases h;done))<;>rename_i aF
 ·have az:u=_:=ao;subst az;simp only[fC,Option.some.injEq] at h;subst h;exact⟨_,by unfold convert;cases bg<;>simp[dX aj,dX aF,Conv.intToInt]<;>rfl,rfl⟩
 ·have az:u=_:=ao;subst az;simp only[Option.some.injEq] at h;subst h;exact⟨_,by unfold convert;cases bg<;>simp[dX aj,dX aF,Conv.intToInt]<;>rfl,rfl⟩
 ·have az:u=_:=ao;subst az;simp only[Option.some.injEq] at h;subst h;exact⟨_,by unfold convert;cases bg<;>simp[dX aj,dX aF]<;>rfl,rfl⟩
 ·have az:u=_:=ao;subst az;simp only[Option.some.injEq] at h;subst h;exact⟨_,by unfold convert;cases bg<;>simp[dX aj,dX aF]<;>rfl,rfl⟩
theorem aoh{t:TypeId}{x z:J}{u:Value}(ao:Den E x u)(h:Fb P t x=some z):im P E w (Instr.makeInterface t u) z:=by
 unfold Fb at h;split at h<;>try(cases h;done)
 rename_i d aO hu;cases h;refine⟨.iface t u,?_,u,ao,rfl⟩;cases d<;>first|exact absurd rfl (aO _)|simp[Instr.makeInterface,dX hu]
end
section
variable{P:Program}{E:Env}{w:World}
theorem Zi{s:TypeId}{f:Nat}{fd:Field}(h:xD P s f=some fd):∃fD,P.underlying s=some (.struct fD)/\fD[f]?=some fd:=by
 unfold xD at h;split at h
 ·rename_i fD hu;exact⟨fD,hu,h⟩
 ·cases h
theorem alq{s:TypeId}{f k off id c:Nat}{z:J}(ai:E k=some (id,c))(h:q1 P s f k off=some z):
 im P E w (Instr.fieldAt s (.pointer (some ⟨id,off,none⟩)) f) z:=by
 unfold q1 at h;split at h<;>try(cases h;done)
 rename_i fd Pk;split at h<;>try(cases h;done)
 rename_i n aj;simp only[force_eq,Option.some.injEq] at h;subst h;obtain⟨fD,hu,ak⟩:=Zi Pk;refine⟨.pointer (some ⟨id,off+fd.offset,none⟩),?_,id,c,ai,rfl⟩;simp[Instr.fieldAt,dX hu,ak,Instr.sureAddr,fieldPlace,jc aj,Addr.add_lit]
theorem als{s:TypeId}{f:Nat}{cs:List J}{z:J}{vs:List Value}(hv:cc E cs vs)(h:y7 P s f cs=some z):
 im P E w (Instr.field s (.agg vs.toArray) f) z:=by
 unfold y7 at h;split at h<;>try(cases h;done)
 rename_i fd Pk;obtain⟨fD,hu,ak⟩:=Zi Pk;obtain⟨v,aI,aF⟩:=A8 (w:=w) hv h;exact⟨v,by simp[Instr.field,dX hu,ak,asAgg,aI],aF⟩
theorem aol{t:TypeId}{x fT z:J}{u v:Value}(ao:Den E x u)(hi:Den E fT v)(h:mQ P t x fT=some z):
 im P E w (Instr.indexAt t u v) z:=by
 unfold mQ at h;split at h<;>try(cases h;done)
 rename_i i aO;obtain⟨IG,rfl⟩:=yK aO hi;split at h<;>(try(cases h;done))<;>rename_i hu
 ·rename_i n e k off;split at h<;>try(cases h;done)
  rename_i s aj;cases ag:Nat.blt i n with
  |false=>simp[ag] at h
  |true=>
   simp only[ag,cond_true,force_eq,Option.some.injEq] at h;subst h;have a8:i<n:=by rw[Nat.blt_eq] at ag;exact ag
   obtain⟨id,c,ai,rfl⟩:=ao;refine⟨.pointer (some ⟨id,off+i*s,none⟩),?_,id,c,ai,rfl⟩;simp[Instr.indexAt,asIntOf,dX hu,Instr.sureAddr,jc aj,a8,Addr.add_lit]
 ·rename_i e k off len cap lo;split at h<;>try(cases h;done)
  rename_i s aj;cases ag:Nat.blt i len with
  |false=>simp[ag] at h
  |true=>
   simp only[ag,cond_true,force_eq,Option.some.injEq] at h;subst h;have a8:i<len:=by rw[Nat.blt_eq] at ag;exact ag
   have ai:∃id c a2,E k=some (id,c)/\u= .slice (some ⟨id,off,none⟩) len a2:=by
    cases cap with
    |none=>obtain⟨id,c,h1,h2⟩:=ao;exact⟨id,c,_,h1.1,h2⟩
    |some cap=>obtain⟨id,c,h1,h2⟩:=ao;exact⟨id,c,_,h1,h2⟩
   obtain⟨id,c,a2,ai,rfl⟩:=ai;refine⟨.pointer (some ⟨id,off+i*s,none⟩),?_,id,c,ai,rfl⟩;simp[Instr.indexAt,asIntOf,dX hu,jc aj,a8,Addr.add_lit]
theorem aom{t:TypeId}{x fT z:J}{u v:Value}(ao:Den E x u)(hi:Den E fT v)(h:y8 P t x fT=some z):
 im P E w (Instr.index t u v) z:=by
 unfold y8 at h;split at h<;>try(cases h;done)
 rename_i i aO;obtain⟨IG,rfl⟩:=yK aO hi;split at h<;>(try(cases h;done))<;>rename_i hu
 ·rename_i n e cs;split at h<;>try(cases h;done)
  rename_i s aj;cases ag:Nat.blt i n with
  |false=>simp[ag] at h
  |true=>
   simp only[ag,cond_true] at h;have a8:i<n:=by rw[Nat.blt_eq] at ag;exact ag
   obtain⟨vs,hv,rfl⟩:=ao;obtain⟨v,aI,aF⟩:=A8 (w:=w) hv h;exact⟨v,by simp[Instr.index,asIntOf,dX hu,jc aj,a8,aI],aF⟩
 ·rename_i s;have az:u=_:=ao;subst az;split at h<;>try(cases h;done)
  rename_i b ag;cases h;exact⟨_,by simp[Instr.index,asIntOf,dX hu,ag],rfl⟩
theorem Bx{len cap:Nat}{lo hi:Option J}{lv hv:Option Value}{l h:Nat}(h1:∀y,lo=some y->∃v,lv=some v/\Den E y v)(jT:lo=none->lv=none)
 (h2:∀y,hi=some y->∃v,hv=some v/\Den E y v)(kh:hi=none->hv=none)(ag:sliceB len cap lo hi=some (l,h)):
 l<=h/\h<=cap/\∀isSlice w,(Instr.sliceBounds isSlice len cap lv hv none).run P w= .ok (l,h,cap) w:=by
 unfold sliceB at ag;split at ag<;>try(cases ag;done)
 rename_i cj hB GY el;cases kB:Nat.ble cj cap with
 |false=>simp[kB] at ag
 |true=>
 cases mF:Nat.ble hB cj with
 |false=>simp[kB,mF] at ag
 |true=>
 simp only[kB,mF,Bool.and_self,cond_true,Option.some.injEq,Prod.mk.injEq] at ag;obtain⟨rfl,rfl⟩:=ag;have k1:=Nat.le_of_ble_eq_true kB;have k2:=Nat.le_of_ble_eq_true mF;refine⟨k2,k1,λaDO w=>?_⟩;cases hi with
 |none=>
  simp only[Option.some.injEq] at GY;subst GY;rw[kh rfl];cases lo with
  |none=>
   simp only[Option.some.injEq] at el;subst el;rw[jT rfl];simp[Instr.sliceBounds]
  |some y=>
   simp only at el;obtain⟨v,e,aF⟩:=h1 y rfl;obtain⟨k,rfl⟩:=yK el aF;rw[e];simp[Instr.sliceBounds,Instr.sliceBound,asIntOf,k2]
 |some zh=>
  simp only at GY;obtain⟨KY,bh,oD⟩:=h2 zh rfl;obtain⟨b1,rfl⟩:=yK GY oD;rw[bh];cases lo with
  |none=>
   simp only[Option.some.injEq] at el;subst el;rw[jT rfl];simp[Instr.sliceBounds,Instr.sliceBound,asIntOf,k1]
  |some y=>
   simp only at el;obtain⟨v,e,aF⟩:=h1 y rfl;obtain⟨k,rfl⟩:=yK el aF;rw[e];simp[Instr.sliceBounds,Instr.sliceBound,asIntOf,k1,k2]
theorem agd{len cap:Nat}{lo hi:Option J}{l h:Nat}(ag:sliceB len len lo hi=some (l,h))(ae:len<=cap):sliceB len cap lo hi=some (l,h):=by
 have key:∀A B:Option Nat,(match A,B with|some h,some l=>bif Nat.ble h len&&Nat.ble l h then some (l,h) else none|_,_=>none)=some (l,h)->
  (match A,B with|some h,some l=>bif Nat.ble h cap&&Nat.ble l h then some (l,h) else none|_,_=>none)=some (l,h):=by
  intro A B ag;split at ag<;>try(cases ag;done)
  rename_i cj hB;cases kB:Nat.ble cj len with
  |false=>simp[kB] at ag
  |true=>
   have:=Nat.le_of_ble_eq_true kB
   have h2:Nat.ble cj cap=true:=(by rw[Nat.ble_eq];exact Nat.le_trans this ae);simp only[kB] at ag;simp only[h2];exact ag
 exact key _ _ ag
theorem agc{k off len iE s l h id c hR:Nat}{cap:Option Nat}{z:J}(ai:E k=some (id,c))(ae:(∃a2,cap=some a2/\hR=a2)\/(cap=none/\hR=c-iE/\iE+len<=c))(h1:l<=h)(h2:h<=hR)
 (a1:pX k off len cap iE s l h=some z):Den E z (.slice (some (if hR=l then⟨id,off,none⟩ else⟨id,off+l*s,none⟩)) (h-l) (hR-l)):=by
 unfold pX at a1;rcases ae with⟨a2,rfl,rfl⟩|⟨rfl,rfl,hle⟩
 ·simp only[force_eq] at a1;cases hm:Nat.beq (hR-l) 0 with
  |true=>
   have qu:=Nat.eq_of_beq_eq_true hm;simp only[hm,cond_true,Option.some.injEq] at a1;subst a1;rw[if_pos (by omega)];exact⟨id,c,ai,rfl⟩
  |false=>
   have qu:=Nat.ne_of_beq_eq_false hm;simp only[hm,cond_false,Option.some.injEq] at a1;subst a1;rw[if_neg (by omega)];exact⟨id,c,ai,rfl⟩
 ·simp only[force_eq] at a1;cases cj:Nat.ble h len with
  |false=>simp[cj] at a1
  |true=>
   have aDs:=Nat.le_of_ble_eq_true cj;simp only[cj,cond_true] at a1;cases aJ:Nat.blt l len with
   |true=>
    have x8:l<len:=by rw[Nat.blt_eq] at aJ;exact aJ
    simp only[aJ,cond_true,Option.some.injEq] at a1;subst a1;rw[if_neg (by omega)];exact⟨id,c,⟨ai,by omega⟩,by rw[Nat.sub_add_eq]⟩
   |false=>
    simp only[aJ,cond_false] at a1;cases h0:Nat.beq l 0 with
    |false=>
     have x8:¬l<len:=λcj=>by have:Nat.blt l len=true:=by rw[Nat.blt_eq];exact cj
                             rw[aJ] at this;cases this
     simp only[h0,cond_false,Option.some.injEq] at a1;subst a1;have aB:h-l=0:=by omega
     rw[aB];split
     ·exact⟨_,_,rfl⟩
     ·exact⟨_,_,rfl⟩
    |true=>
     have rG:=Nat.eq_of_beq_eq_true h0;simp only[h0,cond_true,Option.some.injEq] at a1;subst a1;subst rG;refine⟨id,c,⟨ai,by omega⟩,?_⟩;simp
theorem Kz{t:TypeId}{x z:J}{u:Value}{lo hi:Option J}{lv hv:Option Value}(ao:Den E x u)(h1:∀y,lo=some y->∃v,lv=some v/\Den E y v)(jT:lo=none->lv=none)
 (h2:∀y,hi=some y->∃v,hv=some v/\Den E y v)(kh:hi=none->hv=none)(h:fK P t x lo hi=some z):im P E w (Instr.sliceAt t u lv hv none) z:=by
 unfold fK at h;split at h<;>try(cases h;done)
 ·rename_i e k off len cap iE hu;split at h<;>try(cases h;done)
  rename_i s l cj aj ag
  have fw:∃id c hR,E k=some (id,c)/\u= .slice (some ⟨id,off,none⟩) len hR/\((∃a2,cap=some a2/\hR=a2)\/(cap=none/\hR=c-iE/\iE+len<=c)):=by
   cases cap with
   |none=>obtain⟨id,c,az,aw⟩:=ao;exact⟨id,c,_,az.1,aw,.inr ⟨rfl,rfl,az.2⟩⟩
   |some cap=>obtain⟨id,c,az,aw⟩:=ao;exact⟨id,c,_,az,aw,.inl ⟨_,rfl,rfl⟩⟩
  obtain⟨id,c,hR,ai,rfl,ae⟩:=fw
  have hT:sliceB len hR lo hi=some (l,cj):=by
   rcases ae with⟨a2,rfl,rfl⟩|⟨rfl,rfl,hle⟩
   ·exact ag
   ·exact agd ag (by omega)
  obtain⟨k1,k2,fp⟩:=Bx (P:=P) h1 jT h2 kh hT;refine⟨_,?_,agc ai ae k1 k2 h⟩;simp only[Instr.sliceAt,Instr.slice,Sem.run_bind,dX hu,Result.andThen_ok,fp,jc aj,Sem.run_pure,Option.map_some,Addr.add_lit];split<;>rfl
 ·rename_i e k hu;split at h<;>try(cases h;done)
  rename_i s Qq aj ag;obtain⟨l,cj⟩:=Qq;cases h;obtain⟨tW,cp,rfl⟩:=ao;obtain⟨ei,fJ,_⟩:=Bx (P:=P) h1 jT h2 kh ag;obtain⟨k1,k2,fp⟩:=Bx (P:=P) h1 jT h2 kh (agd ag (Nat.zero_le cp));have az:cj=0:=by omega
  have aw:l=0:=by omega
  subst az;subst aw;refine⟨.slice (some tW) 0 cp,?_,tW,cp,rfl⟩;simp only[Instr.sliceAt,Instr.slice,Sem.run_bind,dX hu,Result.andThen_ok,fp,jc aj,Sem.run_pure,Option.map_some,Addr.add_lit];simp[Addr.add]
 ·rename_i e a c hu;split at h<;>try(cases h;done)
  rename_i s Qq aj ag;obtain⟨l,cj⟩:=Qq;cases h;cases bX:Nat.beq a 0 with
  |false=>simp[bX] at ag
  |true=>
   cases ae:Nat.beq c 0 with
   |false=>simp[bX,ae] at ag
   |true=>
    simp only[bX,ae,Bool.and_self,cond_true] at ag;have az:=Nat.eq_of_beq_eq_true bX;have aw:=Nat.eq_of_beq_eq_true ae;have ch:u=_:=ao;subst az;subst aw;subst ch;obtain⟨k1,k2,fp⟩:=Bx (P:=P) h1 jT h2 kh ag;have ef:cj=0:=by omega
    have jk:l=0:=by omega
    subst ef;subst jk;refine⟨.slice none 0 0,?_,rfl⟩;simp only[Instr.sliceAt,Instr.slice,Sem.run_bind,dX hu,Result.andThen_ok,fp,jc aj,Sem.run_pure];simp
 ·rename_i n e k off hu;split at h<;>try(cases h;done)
  rename_i s l cj aj ag;obtain⟨id,c,ai,rfl⟩:=ao;obtain⟨k1,k2,fp⟩:=Bx (P:=P) h1 jT h2 kh ag;refine⟨_,?_,agc ai (.inl ⟨n,rfl,rfl⟩) k1 k2 h⟩;simp only[Instr.sliceAt,Instr.sureAddr,Sem.run_bind,dX hu,Result.andThen_ok,fp,jc aj,Sem.run_pure,Addr.add_lit]
 ·rename_i s hu;split at h<;>try(cases h;done)
  rename_i l cj ag;obtain⟨k1,k2,fp⟩:=Bx (P:=P) h1 jT h2 kh ag;have e:u= .string s:=ao;subst e;cases h;refine⟨.string (s.extract l cj),?_,rfl⟩;simp[Instr.sliceAt,Instr.slice,dX hu,fp]
theorem aoZ{t ty:TypeId}{cX:Array TypeId}{x z:J}{u:Value}(aK:cX[0]?=some t)(ao:Den E x u)(h:eN P t x=some z):im P E w (Builtin.len_ cX ty #[u]) z:=by
 unfold eN at h;split at h<;>(try(cases h;done))<;>rename_i hu
 ·have az:u=_:=ao;subst az;simp only[fC,Option.some.injEq] at h;subst h;exact⟨_,by simp[Builtin.len_,aK,dX hu];rfl,rfl⟩
 ·have az:u=_:=ao;subst az;simp only[Option.some.injEq] at h;subst h;exact⟨_,by simp[Builtin.len_,aK,dX hu];rfl,rfl⟩
 ·obtain⟨id,c,rfl⟩:=Cp ao;cases h;exact⟨_,by simp[Builtin.len_,aK,dX hu];rfl,rfl⟩
 ·obtain⟨_,_,rfl⟩:=ao;cases h;exact⟨_,by simp[Builtin.len_,aK,dX hu];rfl,rfl⟩
 ·have az:u=_:=ao;subst az;simp only[fC,Option.some.injEq] at h;subst h;exact⟨_,by simp[Builtin.len_,aK,dX hu];rfl,rfl⟩
 ·have az:u=_:=ao;subst az;simp only[Option.some.injEq] at h;subst h;exact⟨_,by simp[Builtin.len_,aK,dX hu];rfl,rfl⟩
end
theorem ag4{n:Nat}(h:n<=140737488355328):IntKind.i64.wrap (n:Int)=(n:Int):=by
 simp only[IntKind.wrap,IntKind.bits,IntKind.signed];simp;omega
section
variable{P:Program}{B:Nat}{aV w:World}{X:ah}{E:Env}
theorem bK.aoO(h:bK P B aV X E w)(k:Nat):bK P B aV {X with aS:=X.aS.del k} E w:=
 ⟨h.os,h.tape,h.output,h.base,h.hN,λj o aa=>h.obj j o (cz.sV aa).2,λj gM o o' id c a2 aa hh he fu=>h.inj j gM o o' id c a2 (cz.sV aa).2 (cz.sV hh).2 he fu,h.fresh,h.m7,h.j3⟩
theorem bK.renamed(h:bK P B aV X E w){k id c:Nat}{o o':bD}(aq:X.aS.get k=some o)(ai:E k=some (id,c))(gJ:o.ro=false)(aDI:o'.ro=false){w':World}(h1:w'.os=w.os)(h2:w'.tape=w.tape)
 (h3:w'.output=w.output)(aU:w'.heap.size=w.heap.size)(bA:∀j,j≠id->w'.heap[j]?=w.heap[j]?)(fj:lE P (E.put X.next id c) o' w'.heap[id]? c):
 bK P B aV {X with next:=X.next+1,aS:=(X.aS.del k).put X.next o'} (E.put X.next id c) w':=by
 have C3:B<=id:=by
  obtain⟨gr,a2,cN,_,ag⟩:=h.obj k o aq;rw[ai] at cN;cases cN;exact ag (.inl gJ)
 have hle:cJ E (E.put X.next id c):=Env.rY (h.fresh _ (Nat.le_refl _)) h.j3;have ay:∀j,j≠X.next->(E.put X.next id c) j=E j:=λj aa=>Env.qY E _ _ aa
 refine⟨h1.trans h.os,h2.trans h.tape,h3.trans h.output,by rw[aU];exact h.base,λj aa=>?_,λj cb aa=>?_,λj gM dH dn i aQ a3 aa hh he fu=>?_,λj aa=>?_,λg bd=>let ⟨c,ae⟩:=h.m7 g bd;⟨c,hle.sub _ _ ae⟩,Nat.le_succ_of_le h.j3⟩
 ·rw[bA j (by omega)];exact h.hN j aa
 ·rcases cz.ix aa with⟨e,aw⟩|⟨e,aF⟩
  ·subst e;subst aw;exact⟨id,c,Env.lU _ _ _ _,fj,λ_=>C3⟩
  ·obtain⟨bY,aJ⟩:=cz.sV aF;obtain⟨i,a2,he,aI,ag⟩:=h.obj j cb aJ;have ana:i≠id:=λaw=>bY (h.inj j k cb o i a2 c aJ aq he (by rw[ai,aw]))
   exact⟨i,a2,hle.sub _ _ he,by rw[bA i ana];exact aI.mono hle,ag⟩
 ·rcases cz.ix aa with⟨e,_⟩|⟨e,aF⟩<;>rcases cz.ix hh with⟨bh,_⟩|⟨bh,oD⟩
  ·rw[e,bh]
  ·subst e;rw[Env.lU] at he;cases he;rw[ay _ bh] at fu;obtain⟨bY,aJ⟩:=cz.sV oD;exact absurd (h.inj gM k dn o _ a3 _ aJ aq fu ai) bY
  ·subst bh;rw[Env.lU] at fu;cases fu;rw[ay _ e] at he;obtain⟨bY,aJ⟩:=cz.sV aF;exact absurd (h.inj j k dH o _ aQ _ aJ aq he ai) bY
  ·rw[ay _ e] at he;rw[ay _ bh] at fu;exact h.inj j gM dH dn i aQ a3 (cz.sV aF).2 (cz.sV oD).2 he fu
 ·have hh:X.next+1<=j:=aa
  rw[ay j (by omega)];exact h.fresh j (by omega)
theorem adi{ty esz c lo hi:Nat}{ys:List J}{vs rest:List Value}(ay:bK P B aV X E w)(hv:cc E ys vs)(ae:vs.length+rest.length=c*esz)(oG:lo=hi\/c*esz<=lo):
 ∃aP,cJ E aP/\aP (mL X ty esz ys).1=some (w.heap.size,c)/\bK P B aV (mL X ty esz ys).2 aP (w.alloc (.cells (vs++rest).toArray ty (lo,hi))):=by
 unfold mL;rw[force_eq];refine⟨E.put X.next w.heap.size c,Env.rY (ay.fresh _ (Nat.le_refl _)) ay.j3,Env.lU _ _ _ _,ay.new _ (vs++rest).toArray c lo hi rfl rfl λaP hle=>?_⟩;have aJ:=hv.length;refine⟨_,_,lo,hi,rfl,λj y aa=>?_,λ_=>⟨rfl,?_,by simp[aJ],λh=>(by cases h),λ_=>by simp[ae]⟩⟩
 ·have a8:=bD.xL aa;unfold bD.get at aa;have ag:Nat.blt j ys.length=true:=by rw[Nat.blt_eq];exact a8
  simp only[ag,cond_true] at aa;cases aq:(p1 ys).get j with
  |none=>simp[aq] at aa
  |some z=>
   simp only[aq] at aa;cases aa;obtain⟨v,h1,h2⟩:=(hv.mono hle).get j _ (HS _ _ _ aq);refine⟨v,?_,h2⟩;have Pv:j<vs.length:=(List.getElem?_eq_some_iff.1 h1).1;rw[List.getElem?_toArray,List.getElem?_append_left Pv];exact h1
 ·simpa[ae] using oG
theorem YE(s:ByteArray):cc E (wI s) (s.data.toList.map λb=>Value.int .u8 b.toNat):=by
 unfold wI;simp only[fC]
 induction s.data.toList with
 |nil=>rfl
 |cons b XT ba=>exact⟨_,_,rfl,ba,rfl⟩
theorem Xu(ay:bK P B aV X E w){sz n:Nat}{x:J}{u:Value}{ys:List J}(ao:Den E x u)(h:kU X sz x=some (n,ys))(aJ:ys.length=n*sz):
 ∃vs,cc E ys vs/\(∀cL,(Builtin.lenOf u).run P cL= .ok n cL)/\∀cL:World,cL.heap=w.heap->∀m,m<=n->(Builtin.firstCells sz m u).run P cL= .ok (vs.take (m*sz)).toArray cL:=by
 unfold kU at h;split at h
 ·rename_i k off ads cap lo;split at h<;>try(cases h;done)
  rename_i o aq;split at h<;>try(cases h;done)
  rename_i u2 fk;cases h
  have fw:∃id c hR,E k=some (id,c)/\u= .slice (some ⟨id,off,none⟩) n hR:=by
   cases cap with
   |none=>obtain⟨id,c,az,aw⟩:=ao;exact⟨id,c,_,az.1,aw⟩
   |some cap=>obtain⟨id,c,az,aw⟩:=ao;exact⟨id,c,_,az,aw⟩
  obtain⟨id,c,hR,ai,rfl⟩:=fw;obtain⟨gr,a2,cN,aI,_⟩:=ay.obj k o aq;rw[ai] at cN;cases cN;obtain⟨vs,h1,h2,h3⟩:=D1 aI _ off ys fk;refine⟨vs,h1,λcL=>by simp[Builtin.lenOf],λcL cj m hm=>?_⟩;have hle:m*sz<=n*sz:=Nat.mul_le_mul_right _ hm
  have:=run_loadCells_list (P:=P) (w:=cL) ⟨id,off,none⟩ (vs.take (m*sz)) (λj v aa=>by
   rw[Addr.add_lit];have hh:=aa;rw[List.getElem?_take] at hh;split at hh
   ·have:=h3 j v hh
    simpa[World.cell?,cj] using this
   ·cases hh)
  rw[List.length_take,h2,Nat.min_eq_left hle] at this;simpa[Builtin.firstCells] using this
 ·rename_i a c;cases bX:Nat.beq a 0 with
  |false=>simp[bX] at h
  |true=>
   cases ae:Nat.beq c 0 with
   |false=>simp[bX,ae] at h
   |true=>
    simp only[bX,ae,Bool.and_self,cond_true,Option.some.injEq,Prod.mk.injEq] at h;obtain⟨rfl,rfl⟩:=h;have e:=Nat.eq_of_beq_eq_true bX;have az:u=_:=ao;subst e;subst az;exact⟨[],rfl,λcL=>by simp[Builtin.lenOf],λcL _ m _=>by simp[Builtin.firstCells]⟩
 ·rename_i s;cases h;have az:u=_:=ao;subst az;have aF:=YE (E:=E) s;refine⟨_,aF,λcL=>by simp[Builtin.lenOf],λcL _ m hm=>?_⟩;have dV:(wI s).length=s.size:=by simp[wI]
  rw[dV] at aJ
  have uq:m*sz=m\/s.size=0:=by
   rcases Nat.eq_zero_or_pos s.size with h0|h0
   ·exact .inr h0
   ·refine .inl ?_
    have:s.size*1=s.size*sz:=by omega
    have:=Nat.eq_of_mul_eq_mul_left h0 this
    rw[<- this,Nat.mul_one]
  simp only[Builtin.firstCells,Sem.run_pure,Result.ok.injEq,and_true];apply Array.ext';rcases uq with qu|h0
  ·rw[qu];simp[ByteArray.data_extract]
  ·have:m=0:=by omega
   subst this;simp
 ·rename_i k;cases h;obtain⟨tW,cp,rfl⟩:=ao;refine⟨[],rfl,λcL=>by simp[Builtin.lenOf],λcL _ m hm=>?_⟩;have e:m=0:=by omega
  subst e;simp[Builtin.firstCells,loadCells,loadCellsFrom]
 ·cases h
inductive tM (P:Program) (d:TypeDesc) (e sz n:Nat) (x:Value) (news:List Value) (w:World):Prop
 |zX (aF:r3 d=true) (aO:∀cL:World,cL.heap=w.heap->(Builtin.lenOf x).run P cL= .ok n cL) (ao:∀cL:World,cL.heap=w.heap->(Builtin.firstCells sz n x).run P cL= .ok news.toArray cL)
 |FE (k b1:IntKind) (z:Value) (b:Nat) (aF:d= .int k) (ao:x= .int b1 n) (a1:hE P e=some z) (ag:n8 P e=some b) (aO:n<=140737488355328) (s8:n*b<=140737488355328)
   (vQ:news=(Builtin.zeroCells z.cells n).toList) (AA:sz=0->n=0)
theorem tM.mono{d:TypeDesc}{e sz n:Nat}{x:Value}{news:List Value}{w cL:World}(h:tM P d e sz n x news w)(hw:cL.heap=w.heap):tM P d e sz n x news cL:=by
 cases h with
 |zX aF aO ao=>exact .zX aF (λgy h3=>aO gy (h3.trans hw)) (λgy h3=>ao gy (h3.trans hw))
 |FE k b1 z b aF ao a1 ag aO s8 vQ AA=>exact .FE k b1 z b aF ao a1 ag aO s8 vQ AA
theorem ahr(z:Array Value):Builtin.zeroCells z 0= #[]:=by
 apply Array.ext';simp[Builtin.zeroCells]
theorem XG{cX:Array TypeId}{t u ty e sz n hD ml:Nat}{d:TypeDesc}{a:Addr}{x:Value}{news:List Value}{w':World}(h0:cX[0]?=some t)(h1:cX[1]?=some u)(aK:P.underlying t=some (.slice e))(hu:P.underlying u=some d)
 (aj:dN P e=some sz)(nX:hD+n<=ml)(ao:tM P d e sz n x news w)
 (dk:(storeCells (a.add (hD*sz)) news).run P w= .ok () w'):(Builtin.append_ cX ty #[.slice (some a) hD ml,x]).run P w= .ok (.slice (some a) (hD+n) ml) w':=by
 cases ao with
 |zX aF aO ao=>
  have aO:=aO w rfl;have ao:=ao w rfl
  cases d<;>first
   |(cases aF;done)
   |simp[Builtin.append_,h0,h1,run_underlying aK,run_underlying hu,jc aj,aO,nX,ao,dk]
 |FE k b1 z b aF ao a1 ag aO s8 vQ AA=>
  subst aF;subst ao;obtain⟨i,hi,Ao⟩:=KR ag w;have qz:=zc a1 (w:=w);have hw:IntKind.i64.wrap (n:Int)=(n:Int):=ag4 (by omega);have h2:¬((n:Int)<0):=by omega
  have h3:¬((281474976710656:Int)<(n:Int)*(i.bytes:Int)):=by
   rw[Ao, <- Int.natCast_mul];omega
  by_cases rG:n*sz=0
  ·have lQ:n=0:=by
    rcases Nat.mul_eq_zero.1 rG with h|h
    ·exact h
    ·exact AA h
   have az:news=[]:=by rw[vQ,lQ,ahr]
   subst az;simp[Builtin.append_,asInt,asIntOf,h0,h1,run_underlying aK,run_underlying hu,jc aj,hw,h2,hi,h3,nX,rG,dk]
  ·simp[Builtin.append_,asInt,asIntOf,h0,h1,run_underlying aK,run_underlying hu,jc aj,hw,h2,hi,h3,nX,rG,qz, <- vQ,dk]
theorem XF{cX:Array TypeId}{t u ty e sz bytes n hD ml:Nat}{z:Value}{d:TypeDesc}{base:Option Addr}{x:Value}{olds news:List Value}(h0:cX[0]?=some t)(h1:cX[1]?=some u)(aK:P.underlying t=some (.slice e))(hu:P.underlying u=some d)
 (aj:dN P e=some sz)(a1:hE P e=some z)(ag:n8 P e=some bytes)(nX:ml<hD+n)(aDk:hD+n<=140737488355328)(aDo:(hD+n)*bytes<=140737488355328)
 (hold:(Builtin.firstCells sz hD (.slice base hD ml)).run P w.drew= .ok olds.toArray w.drew)(ao:tM P d e sz n x news w):
 (Builtin.append_ cX ty #[.slice base hD ml,x]).run P w= .ok (.slice (some ⟨w.heap.size,0,none⟩) (hD+n) (grownCap w (hD+n) ml e))
   (w.drew.alloc (.cells (olds++(news++(Builtin.zeroCells z.cells (grownCap w (hD+n) ml e-(hD+n))).toList)).toArray e)):=by
 obtain⟨i,hi,Ao⟩:=KR ag w;obtain⟨i',cA,aDt⟩:=KR ag w.drew;have pA:¬(hD+n<=ml):=by omega
 have xY:¬(281474976710656<Builtin.nextslicecap (hD+n) ml*i.bytes):=by
  have:=growslice_fits nX (bytes:=bytes) (by omega)
  rw[Ao];omega
 have HV:¬(9223372036854775807<((hD:Int)+(n:Int))):=by omega
 have qz:=zc a1 (w:=w.drew);cases ao with
 |zX aF aO ao=>
  have aO:=aO w rfl;have ao:=ao w.drew rfl
  cases d<;>first
   |(cases aF;done)
   |(simp[Builtin.append_,h0,h1,run_underlying aK,run_underlying hu,jc aj,aO,pA,hi,cA,xY,HV,Question.forced,hold,ao,qz,Go.newRow,grownCap];done)
   |(simp[Builtin.append_,h0,h1,run_underlying aK,run_underlying hu,jc aj,aO,pA,hi,cA,xY,HV,Question.forced,hold,ao,qz,Go.newRow,grownCap]
     congr 2;apply Array.ext'
     simp)
 |FE k b1 tK b aF ao acw jU aO s8 vQ AA=>
  subst aF;subst ao;rw[a1] at acw;cases acw;rw[ag] at jU;cases jU;have hw:IntKind.i64.wrap (n:Int)=(n:Int):=ag4 (by omega);have h2:¬((n:Int)<0):=by omega
  have h3:¬((281474976710656:Int)<(n:Int)*(i.bytes:Int)):=by
   rw[Ao, <- Int.natCast_mul];omega
  by_cases rG:n*sz=0
  ·have lQ:n=0:=by
    rcases Nat.mul_eq_zero.1 rG with h|h
    ·exact h
    ·exact AA h
   have az:news=[]:=by rw[vQ,lQ,ahr]
   subst az;simp[Builtin.append_,asInt,asIntOf,h0,h1,run_underlying aK,run_underlying hu,jc aj,hw,h2,h3,rG,pA,hi,cA,xY,HV,Question.forced,hold,qz,Go.newRow,grownCap];congr 2;apply Array.ext';simp
  ·simp[Builtin.append_,asInt,asIntOf,h0,h1,run_underlying aK,run_underlying hu,jc aj,hw,h2,h3,rG,pA,hi,cA,xY,HV,Question.forced,hold,qz,Go.newRow,grownCap];congr 2;apply Array.ext';simp[vQ]
end
section
variable{P:Program}{B:Nat}{aV w:World}{X:ah}{E:Env}
theorem adr{z:Value}{sz:Nat}(h:(c2 z).cells.length=sz):z.cells.size=sz:=by
 have:=(wc (E:={f:=λ_=>none,n:=0}) z).length;simpa[h] using this
theorem Xz{cX:Array TypeId}{t u ty e sz b n hD ml:Nat}{z:Value}{d:TypeDesc}{base:Option Addr}{x:Value}{oy e0:List J}{olds news:List Value}{y:J}{af:ah}(ay:bK P B aV X E w)
 (h0:cX[0]?=some t)(h1:cX[1]?=some u)(aK:P.underlying t=some (.slice e))(hu:P.underlying u=some d)
 (aj:dN P e=some sz)(a1:hE P e=some z)(ag:n8 P e=some b)(iB:(c2 z).cells.length=sz)(nX:ml<hD+n)
 (hold:(Builtin.firstCells sz hD (.slice base hD ml)).run P w.drew= .ok olds.toArray w.drew)(ao:tM P d e sz n x news w)
 (aq:cc E oy olds)(hv:cc E e0 news)(gI:olds.length=hD*sz)(gg:news.length=n*sz)(h:nz e sz b (hD+n) (oy++e0) X=some (y,af)):
 Good P B aV E w (Builtin.append_ cX ty #[.slice base hD ml,x]) y af:=by
 unfold nz at h;cases aQ:Nat.ble (hD+n) 140737488355328 with
 |false=>simp[aQ] at h
 |true=>
 cases a3:Nat.ble ((hD+n)*b) 140737488355328 with
 |false=>simp[aQ,a3] at h
 |true=>
 simp only[aQ,a3,Bool.and_self,cond_true,Option.some.injEq,Prod.mk.injEq] at h;obtain⟨rfl,rfl⟩:=h;have vq:=Nat.le_of_ble_eq_true aQ;have oj:=Nat.le_of_ble_eq_true a3;have Pm:=grownCap_ge w (hD+n) ml e;have fp:=XF (ty:=ty) h0 h1 aK hu aj a1 ag nX vq oj hold ao;have PX:=adr iB
 obtain⟨aP,hle,ai,et⟩:=adi (ty:=e) (esz:=sz) (c:=grownCap w (hD+n) ml e) (lo:=0) (hi:=0) (ys:=oy++e0) (vs:=olds++news)
  (rest:=(Builtin.zeroCells z.cells (grownCap w (hD+n) ml e-(hD+n))).toList) ay.drew (aq.append hv) (by
    simp only[List.length_append,gI,gg,Array.length_toList,size_zeroCells,PX, <- Nat.add_mul]
    congr 1;omega) (.inl rfl)
 refine⟨aP,_,_,hle,fp,⟨_,_,⟨ai,by omega⟩,by simp⟩,?_⟩;simpa[List.append_assoc] using et
theorem Xw{cX:Array TypeId}{t u ty e sz n k off len lo:Nat}{cap:Option Nat}{d:TypeDesc}{o:bD}{ln x:Value}{e0:List J}{news:List Value}{y:J}{af:ah}(ay:bK P B aV X E w)
 (h0:cX[0]?=some t)(h1:cX[1]?=some u)(aK:P.underlying t=some (.slice e))(hu:P.underlying u=some d)
 (aj:dN P e=some sz)(ao:tM P d e sz n x news w)(hv:cc E e0 news)(gg:e0.length=n*sz)(iW:eA e0=true)
 (aq:X.aS.get k=some o){id c hR:Nat}(ai:E k=some (id,c))(rO:ln= .slice (some ⟨id,off,none⟩) len hR)(nX:len+n<=hR)
 (bb:∀aP,cJ E aP->Den aP (.aY k off (len+n) cap lo) (.slice (some ⟨id,off,none⟩) (len+n) hR))
 (h:pk k off len cap lo (len+n) sz o e0 X=some (y,af)):Good P B aV E w (Builtin.append_ cX ty #[ln,x]) y af:=by
 unfold pk at h;cases aQ:Nat.ble (off+(len+n)*sz) o.n with
 |false=>simp[aQ] at h
 |true=>
 cases cl:o.ro with
 |true=>simp[aQ,cl] at h
 |false=>
 rw[show(Nat.ble (off+(len+n)*sz) o.n&&!o.ro)=true by simp[aQ,cl]] at h;simp only[cond_true,Option.some.injEq,Prod.mk.injEq] at h;obtain⟨rfl,rfl⟩:=h;have vq:=Nat.le_of_ble_eq_true aQ;subst rO;have hlen:off+len*sz+e0.length<=o.n:=by rw[gg];rw[Nat.add_mul] at vq;omega
 obtain⟨w',dk,et⟩:=ay.stored (Q:=P) aq ai cl hv iW hlen;exact⟨E,_,w',cJ.refl _,XG (ty:=ty) h0 h1 aK hu aj nX ao (by rw[Addr.add_lit];exact dk),bb E (cJ.refl _),et⟩
theorem aiG{cX:Array TypeId}{t u ty e sz b n k len:Nat}{z:Value}{d:TypeDesc}{o:bD}{ln x:Value}{e0:List J}{news:List Value}{y:J}{af:ah}(ay:bK P B aV X E w)
 (h0:cX[0]?=some t)(h1:cX[1]?=some u)(aK:P.underlying t=some (.slice e))(hu:P.underlying u=some d)
 (aj:dN P e=some sz)(a1:hE P e=some z)(ag:n8 P e=some b)(iB:(c2 z).cells.length=sz)
 (ao:tM P d e sz n x news w)(hv:cc E e0 news)(gg:e0.length=n*sz)(iW:eA e0=true)
 (aq:X.aS.get k=some o){id c:Nat}(ai:E k=some (id,c))(rO:ln= .slice (some ⟨id,0,none⟩) len c)(Ph:o.esz=sz)(Pu:o.loose=true)(gJ:o.ro=false)(te:o.ty=e)
 (h:rm k len (len+n) sz b o e0 X=some (y,af)):Good P B aV E w (Builtin.append_ cX ty #[ln,x]) y af:=by
 unfold rm at h;cases aQ:Nat.ble (len*sz) o.n with
 |false=>simp[aQ] at h
 |true=>
 cases cl:Nat.ble (len+n) 140737488355328 with
 |false=>simp[aQ,cl] at h
 |true=>
 cases ct:Nat.ble ((len+n)*b) 140737488355328 with
 |false=>simp[aQ,cl,ct] at h
 |true=>
 simp only[aQ,cl,ct,Bool.and_self,cond_true,force_eq,Option.some.injEq,Prod.mk.injEq] at h;obtain⟨rfl,rfl⟩:=h;have vq:=Nat.le_of_ble_eq_true aQ;have ajE:=Nat.le_of_ble_eq_true cl;have vr:=Nat.le_of_ble_eq_true ct;subst rO;obtain⟨gr,a2,cN,fj,rH⟩:=ay.obj k o aq;obtain⟨vL,cs,KP,lo,hi,Am,eB,yh⟩:=fj.cs gJ;rw[ai] at cN;cases cN;obtain⟨anZ,oG,anB,_,kD⟩:=yh gJ;have ey:=kD Pu;rw[Ph] at ey;have ab6:news.length=n*sz:=by rw[hv.length,gg]
 have acf:∀(aP:Env) (m2:Array Value),cJ E aP->(∀j,j<len*sz->m2[j]?=cs[j]?)->(∀j,j<news.length->m2[len*sz+j]?=news[j]?)->
  ∀j y,bD.get {o with ck:=0,n:=(len+n)*sz,fq:=gS o.fq (len*sz) e0} j=some y->∃v,m2[j]?=some v/\Den aP y v:=by
  intro aP m2 hle sY C3 j y aa;have Ap:j<(len+n)*sz:=bD.xL aa;have na:Nat.blt j ((len+n)*sz)=true:=by rw[Nat.blt_eq];exact Ap
  rw[Nat.add_mul] at Ap;unfold bD.get at aa;simp only[na,cond_true] at aa;rw[xM e0 o.fq (len*sz) j] at aa;by_cases iU:len*sz<=j/\j<len*sz+e0.length
  ·rw[if_pos iU] at aa;cases bb:e0[j-len*sz]? with
   |none=>rw[List.getElem?_eq_none_iff] at bb;omega
   |some z=>
    simp only[bb] at aa;cases aa;obtain⟨v,AB,DK⟩:=(hv.mono hle).get _ _ bb;refine⟨v,?_,DK⟩
    have:=C3 (j-len*sz) (by have:=(List.getElem?_eq_some_iff.1 AB).1;omega)
    rw[show len*sz+(j-len*sz)=j by omega] at this;rw[this];exact AB
  ·rw[if_neg iU] at aa;have nQ:j<len*sz:=by rw[gg] at iU;omega
   rw[sY j nQ];have amL:Nat.blt j o.n=true:=by rw[Nat.blt_eq];omega
   obtain⟨v,AB,DK⟩:=eB j y (by unfold bD.get;simp only[amL,cond_true];exact aa);exact⟨v,AB,DK.mono hle⟩
 by_cases nX:len+n<=c
 ·
  have anQ:len*sz+n*sz<=cs.size:=by rw[ey, <- Nat.add_mul];exact Nat.mul_le_mul_right _ nX
  obtain⟨w',m2,dk,PA,anY,rN,dV,uv,jU,O9,s4⟩:=VZ P id (len*sz) KP lo hi news 0 w cs Am (MY hv iW) (λj aa=>⟨by omega,by rcases oG with e|e<;>simp<;>omega⟩);have fp:=XG (ty:=ty) (w':=w') h0 h1 aK hu aj nX ao (by rw[Addr.add_lit,Nat.zero_add];exact dk);refine⟨E.put X.next id c,_,w',Env.rY (ay.fresh _ (Nat.le_refl _)) ay.j3,fp,⟨id,c,⟨Env.lU _ _ _ _,by omega⟩,by simp⟩,?_⟩;refine ay.renamed (o':={o with ck:=0,n:=(len+n)*sz,fq:=gS o.fq (len*sz) e0}) aq ai gJ gJ PA anY rN dV uv (.inl ⟨vL,m2,KP,lo,hi,jU,?_,λ_=>⟨anZ,by rw[O9];exact oG,?_,λh=>(by rw[Pu] at h;cases h),λ_=>by rw[O9,ey, <- Ph]⟩⟩)
  ·refine acf _ _ (Env.rY (ay.fresh _ (Nat.le_refl _)) ay.j3) (λj aa=>?_) (λj aa=>?_)
   ·rw[s4 j,if_neg (by omega)]
   ·rw[s4 (len*sz+j),if_pos (by omega)];congr 1;omega
  ·rw[O9,Nat.add_mul];exact anQ
 ·
  have hlen:len*sz<=cs.size:=by omega
  have hold:(Builtin.firstCells sz len (.slice (some ⟨id,0,none⟩) len c)).run P w.drew= .ok (cs.toList.take (len*sz)).toArray w.drew:=by
   have:=run_loadCells_list (P:=P) (w:=w.drew) ⟨id,0,none⟩ (cs.toList.take (len*sz)) (λj v aa=>by
    rw[Addr.add_lit,Nat.zero_add];rw[List.getElem?_take] at aa;have amK:w.drew.heap[id]?=some (.cells cs KP (lo,hi)):=Am;split at aa
    ·simpa[World.cell?,amK] using aa
    ·cases aa)
   rw[List.length_take,Array.length_toList,Nat.min_eq_left hlen] at this;simpa[Builtin.firstCells] using this
  have Pm:=grownCap_ge w (len+n) c e;have fp:=XF (ty:=ty) h0 h1 aK hu aj a1 ag (by omega) ajE vr hold ao;have PX:=adr iB;have xP:=(ay.aoO k).drew;refine⟨E.put X.next w.heap.size (grownCap w (len+n) c e),_,_,Env.rY (ay.fresh _ (Nat.le_refl _)) ay.j3,fp,⟨_,_,⟨Env.lU _ _ _ _,by omega⟩,by simp⟩,?_⟩;have a8:(cs.toList.take (len*sz)).length=len*sz:=by rw[List.length_take,Array.length_toList,Nat.min_eq_left hlen]
  have:=xP.new {o with ck:=0,n:=(len+n)*sz,fq:=gS o.fq (len*sz) e0} (cs.toList.take (len*sz)++(news++(Builtin.zeroCells z.cells (grownCap w (len+n) c e-(len+n))).toList)).toArray
   (grownCap w (len+n) c e) 0 0 gJ vL (λaP hle=>?_)
  ·rw[show e=o.ty from te.symm];rw[<- te] at this;exact this
  ·refine⟨_,_,0,0,rfl,acf aP _ hle (λj aa=>?_) (λj aa=>?_),λ_=>⟨rfl,.inl rfl,?_,λh=>(by rw[Pu] at h;cases h),λ_=>?_⟩⟩
   ·rw[List.getElem?_toArray,List.getElem?_append_left (by rw[a8];exact aa),List.getElem?_take,if_pos aa];simp
   ·rw[List.getElem?_toArray,List.getElem?_append_right (by rw[a8];omega),a8,show len*sz+j-len*sz=j by omega,List.getElem?_append_left aa]
   ·simp only[List.size_toArray,List.length_append,a8,ab6,Nat.add_mul];omega
   ·simp only[List.size_toArray,List.length_append,a8,ab6,Array.length_toList,size_zeroCells,PX];rw[Ph, <- Nat.add_assoc, <- Nat.add_mul, <- Nat.add_mul];congr 1;omega
theorem XD{cX:Array TypeId}{t u ty e sz b n k off len lo:Nat}{cap:Option Nat}{z:Value}{d:TypeDesc}{ln x:Value}{e0:List J}{news:List Value}{y:J}{af:ah}(ay:bK P B aV X E w)
 (h0:cX[0]?=some t)(h1:cX[1]?=some u)(aK:P.underlying t=some (.slice e))(hu:P.underlying u=some d)
 (dV:dN P e=some sz)(a1:hE P e=some z)(ag:n8 P e=some b)(vr:(c2 z).cells.length=sz)(aQ:1<=sz)(ao:tM P d e sz n x news w)(hv:cc E e0 news)(oj:e0.length=n*sz)
 (gg:news.length=n*sz)(cl:eA e0=true)(aj:Den E (.aY k off len cap lo) ln)
 (h:lF e sz b k off len cap lo n e0 X=some (y,af)):Good P B aV E w (Builtin.append_ cX ty #[ln,x]) y af:=by
 unfold lF at h;split at h<;>try(cases h;done)
 rename_i o aq;rw[force_eq] at h;obtain⟨gr,a2,cN,fj,rH⟩:=ay.obj k o aq;cases cap with
 |some cp=>
  obtain⟨id,c,ai,rfl⟩:=aj;simp only at h;cases aI:Nat.ble (len+n) cp with
  |true=>
   simp only[aI,cond_true] at h;exact Xw (cap:=some cp) (lo:=lo) ay h0 h1 aK hu dV ao hv oj cl aq ai rfl (Nat.le_of_ble_eq_true aI) (λaP hle=>⟨id,c,hle.sub _ _ ai,rfl⟩) h
  |false=>
   simp only[aI,cond_false] at h;split at h<;>try(cases h;done)
   rename_i oy anH
   have lS:cp<len+n:=by
    rcases Nat.lt_or_ge cp (len+n) with h'|h'
    ·exact h'
    ·have:Nat.ble (len+n) cp=true:=by rw[Nat.ble_eq];exact h'
     rw[aI] at this;cases this
   rw[ai] at cN;cases cN;obtain⟨olds,anD,gI,anC⟩:=D1 fj _ off oy anH
   have hold:(Builtin.firstCells sz len (.slice (some ⟨gr,off,none⟩) len cp)).run P w.drew= .ok olds.toArray w.drew:=by
    have:=run_loadCells_list (P:=P) (w:=w.drew) ⟨gr,off,none⟩ olds (λj v aa=>by
     rw[Addr.add_lit]
     exact anC j v aa)
    rw[gI] at this;simpa[Builtin.firstCells] using this
   exact Xz ay h0 h1 aK hu dV a1 ag vr lS hold ao anD hv gI gg h
 |none=>
  obtain⟨id,c,⟨ai,hle⟩,rfl⟩:=aj;simp only at h;cases g1:Nat.beq off 0 with
  |false=>simp[g1] at h
  |true=>
  cases g2:Nat.beq lo 0 with
  |false=>simp[g1,g2] at h
  |true=>
  cases g3:Nat.beq o.esz sz with
  |false=>simp[g1,g2,g3] at h
  |true=>
  cases g4:o.loose with
  |false=>simp[g1,g2,g3,g4] at h
  |true=>
  cases g5:o.ro with
  |true=>simp[g1,g2,g3,g4,g5] at h
  |false=>
  cases g6:Nat.beq o.ty e with
  |false=>simp[g1,g2,g3,g4,g5,g6] at h
  |true=>
  simp only[g1,g2,g3,g4,g5,g6,Bool.and_self,Bool.not_false,cond_true] at h;have alR:=Nat.eq_of_beq_eq_true g1;have alS:=Nat.eq_of_beq_eq_true g2;have aa7:=Nat.eq_of_beq_eq_true g3;have alT:=Nat.eq_of_beq_eq_true g6;subst alR;subst alS;rw[Nat.sub_zero];rw[ai] at cN;cases cN;obtain⟨_,cs,KP,dw,fh,Am,eB,yh⟩:=fj.cs g5;obtain⟨_,_,anB,_,kD⟩:=yh g5;have ey:=kD g4;rw[aa7] at ey;cases aI:Nat.ble ((len+n)*sz) o.n with
  |true=>
   simp only[aI,cond_true] at h;have lS:=Nat.le_of_ble_eq_true aI
   have nX:len+n<=a2:=by
    have h1:(len+n)*sz<=a2*sz:=by omega
    exact Nat.le_of_mul_le_mul_right h1 (by omega)
   exact Xw (cap:=none) (lo:=0) ay h0 h1 aK hu dV ao hv oj cl aq ai rfl nX (λaP hle=>⟨gr,a2,⟨hle.sub _ _ ai,by omega⟩,by simp⟩) h
  |false=>
   simp only[aI,cond_false] at h;exact aiG ay h0 h1 aK hu dV a1 ag vr ao hv oj cl aq ai rfl aa7 g4 g5 alT h
theorem aiV{cX:Array TypeId}{t u ty:Nat}{d:TypeDesc}{s x y:J}{ln o3:Value}{af:ah}(ay:bK P B aV X E w)(h0:cX[0]?=some t)(h1:cX[1]?=some u)(hu:P.underlying u=some d)(aF:r3 d=true)
 (aj:Den E s ln)(ao:Den E x o3)(h:oT P t s x X=some (y,af)):Good P B aV E w (Builtin.append_ cX ty #[ln,o3]) y af:=by
 unfold oT at h;split at h<;>try(cases h;done)
 rename_i e aK;split at h<;>try(cases h;done)
 rename_i sz z b dV a1 ag;split at h<;>try(cases h;done)
 rename_i n e0 nb;cases aQ:Nat.ble 1 sz with
 |false=>simp[aQ] at h
 |true=>
 cases a3:Nat.beq e0.length (n*sz) with
 |false=>simp[aQ,a3] at h
 |true=>
 cases cl:eA e0 with
 |false=>simp[aQ,a3,cl] at h
 |true=>
 cases ct:Nat.beq (c2 z).cells.length sz with
 |false=>simp[aQ,a3,cl,ct] at h
 |true=>
 simp only[aQ,a3,cl,ct,Bool.and_self,cond_true] at h;have oj:=Nat.eq_of_beq_eq_true a3;have vr:=Nat.eq_of_beq_eq_true ct;obtain⟨news,hv,hlen,Ia⟩:=Xu (P:=P) ay ao nb oj;have gg:news.length=n*sz:=by rw[hv.length,oj]
 have Ib:∀cL:World,cL.heap=w.heap->(Builtin.firstCells sz n o3).run P cL= .ok news.toArray cL:=λcL cj=>by
  have:=Ia cL cj n (Nat.le_refl _)
  rwa[<- gg,List.take_length] at this
 split at h
 ·
  rename_i a c;have az:ln=_:=aj;subst az;cases bX:Nat.beq a 0 with
  |false=>simp[bX] at h
  |true=>
  cases ae:Nat.beq c 0 with
  |false=>simp[bX,ae] at h
  |true=>
  simp only[bX,ae,Bool.and_self,cond_true] at h;have C7:=Nat.eq_of_beq_eq_true bX;have fi:=Nat.eq_of_beq_eq_true ae;subst C7;subst fi;cases lQ:Nat.beq n 0 with
  |true=>
   have Ij:=Nat.eq_of_beq_eq_true lQ;subst Ij;simp only[lQ,cond_true,Option.some.injEq,Prod.mk.injEq] at h;obtain⟨rfl,rfl⟩:=h;refine⟨E,.slice none 0 0,w,cJ.refl _,?_,rfl,ay⟩;have ak:=Ib w rfl
   cases d<;>first
    |(cases aF;done)
    |simp[Builtin.append_,h0,h1,run_underlying aK,run_underlying hu,jc dV,hlen,ak]
  |false=>
   have Ij:=Nat.ne_of_beq_eq_false lQ;simp only[lQ,cond_false] at h;have h':nz e sz b (0+n) ([]++e0) X=some (y,af):=by simpa using h
   exact Xz (oy:=[]) (olds:=[]) ay h0 h1 aK hu dV a1 ag vr (by omega) (by simp[Builtin.firstCells]) (.zX aF (λcL _=>hlen cL) Ib) rfl hv (by simp) gg h'
 ·exact XD ay h0 h1 aK hu dV a1 ag vr (Nat.le_of_ble_eq_true aQ) (.zX aF (λcL _=>hlen cL) Ib) hv oj gg cl aj h
 ·rename_i k;obtain⟨tW,cp,rfl⟩:=aj;cases lQ:Nat.beq n 0 with
  |false=>simp[lQ] at h
  |true=>
   have Ij:=Nat.eq_of_beq_eq_true lQ;subst Ij;simp only[lQ,cond_true,Option.some.injEq,Prod.mk.injEq] at h;obtain⟨rfl,rfl⟩:=h;refine⟨E,.slice (some tW) 0 cp,w,cJ.refl _,?_,⟨tW,cp,rfl⟩,ay⟩;have ak:=Ib w rfl
   have ye:news=[]:=by
    have:news.length=0:=by simpa using gg
    exact List.length_eq_zero_iff.1 this
   subst ye;have dk:∀a:Addr,(storeCells a ([]:List Value)).run P w= .ok () w:=λ_=>rfl
   cases d<;>first
    |(cases aF;done)
    |simp[Builtin.append_,h0,h1,run_underlying aK,run_underlying hu,jc dV,hlen,ak,dk]
 ·cases h
theorem YB{c:J}{v:Value}(h:Den E c v):∀n,cc E (List.replicate n c) (List.replicate n v)
 |0=>rfl
 |n+1=>⟨v,_,h,YB h n,rfl⟩
theorem aC3(v:Value)(n:Nat):(Builtin.zeroCells #[v] n).toList=List.replicate n v:=by
 apply List.ext_getElem
 ·simp[Builtin.zeroCells]
 ·intro i h1 h2;simp[Builtin.zeroCells,Nat.mod_one]
theorem Xj{c:J}(h:c.one=true):∀n,eA (List.replicate n c)=true
 |0=>rfl
 |n+1=>by simp[List.replicate_succ,eA,h,Xj h n]
theorem aiS{cX:Array TypeId}{t u ty:Nat}{d:TypeDesc}{s x y:J}{ln o3:Value}{af:ah}(ay:bK P B aV X E w)(h0:cX[0]?=some t)(h1:cX[1]?=some u)(hu:P.underlying u=some d)(aF:u0 d=true)
 (aj:Den E s ln)(ao:Den E x o3)(h:pS P t s x X=some (y,af)):Good P B aV E w (Builtin.append_ cX ty #[ln,o3]) y af:=by
 unfold pS at h;split at h<;>try(cases h;done)
 rename_i e k n aK;have az:o3=_:=ao;subst az;split at h<;>try(cases h;done)
 rename_i sz z b dV a1 ag;split at h<;>try(cases h;done)
 rename_i c ae;cases aQ:Nat.beq sz 1 with
 |false=>simp[aQ] at h
 |true=>
 cases a3:c.one with
 |false=>simp[aQ,a3] at h
 |true=>
 cases cl:Nat.ble n 140737488355328 with
 |false=>simp[aQ,a3,cl] at h
 |true=>
 cases ct:Nat.ble (n*b) 140737488355328 with
 |false=>simp[aQ,a3,cl,ct] at h
 |true=>
 simp only[aQ,a3,cl,ct,Bool.and_self,cond_true] at h;have vq:=Nat.eq_of_beq_eq_true aQ;subst vq;split at h<;>try(cases h;done)
 have s0:=wc (E:=E) z;rw[ae] at s0;obtain⟨v,vs,AB,DK,an1⟩:=s0;cases DK
 have qA:z.cells= #[v]:=by
  apply Array.ext';rw[an1]
 obtain⟨n0,vN⟩:∃n0,d= .int n0:=by
  cases d<;>first|(cases aF;done)|exact⟨_,rfl⟩
 refine XD (news:=List.replicate n v) ay h0 h1 aK hu dV a1 ag (by rw[ae];rfl) (Nat.le_refl _)
  (.FE n0 _ z b vN rfl a1 ag (Nat.le_of_ble_eq_true cl) (Nat.le_of_ble_eq_true ct) (by rw[qA,aC3]) (by omega)) (YB AB n) (by simp) (by simp) (Xj a3 n) aj h
end
section
variable{P:Program}{B:Nat}{aV w:World}{X:ah}{E:Env}
theorem cc.takeN{ys:List J}{vs:List Value}(n:Nat)(h:cc E ys vs):cc E (ys.take n) (vs.take n):=cc.take n h
theorem Xk:∀{ys:List J} (n:Nat),eA ys=true->eA (ys.take n)=true
 | [],n,_=>by simp[eA]
 |y::ys,0,_=>rfl
 |y::ys,n+1,h=>by
  simp only[eA,Bool.and_eq_true] at h;simp only[List.take_succ_cons,eA,Bool.and_eq_true];exact⟨h.1,Xk n h.2⟩
theorem akn{cX:Array TypeId}{t ty:Nat}{s x y:J}{ln o3:Value}{af:ah}(ay:bK P B aV X E w)(h0:cX[0]?=some t)
 (aj:Den E s ln)(ao:Den E x o3)(h:q0 P t s x X=some (y,af)):Good P B aV E w (Builtin.copy_ cX ty #[ln,o3]) y af:=by
 unfold q0 at h;split at h<;>try(cases h;done)
 rename_i e aK;split at h<;>try(cases h;done)
 rename_i sz dV;split at h<;>try(cases h;done)
 rename_i n e0 nb;cases a3:Nat.beq e0.length (n*sz) with
 |false=>simp[a3] at h
 |true=>
 cases cl:eA e0 with
 |false=>simp[a3,cl] at h
 |true=>
 simp only[a3,cl,Bool.and_self,cond_true] at h;have oj:=Nat.eq_of_beq_eq_true a3;obtain⟨news,hv,hlen,Ia⟩:=Xu (P:=P) ay ao nb oj;have gg:news.length=n*sz:=by rw[hv.length,oj]
 split at h
 ·rename_i a c;have az:ln=_:=aj;subst az;cases bX:Nat.beq a 0 with
  |false=>simp[bX] at h
  |true=>
  have C7:=Nat.eq_of_beq_eq_true bX;subst C7;simp only[bX,cond_true,Option.some.injEq,Prod.mk.injEq] at h;obtain⟨rfl,rfl⟩:=h;have ak:=Ia w rfl 0 (Nat.zero_le _);refine⟨E,.int .i64 0,w,cJ.refl _,?_,rfl,ay⟩;simp[Builtin.copy_,h0,run_underlying aK,jc dV,hlen,ak,goInt]
 ·rename_i k off len cap lo;split at h<;>try(cases h;done)
  rename_i o aq;rw[force_eq] at h;cases ct:Nat.ble (off+len*sz) o.n with
  |false=>simp[ct] at h
  |true=>
  cases l4:o.ro with
  |true=>simp[ct,l4] at h
  |false=>
  rw[show(Nat.ble (off+len*sz) o.n&&!o.ro)=true by simp[ct,l4]] at h;simp only[cond_true,Option.some.injEq,Prod.mk.injEq] at h;obtain⟨rfl,rfl⟩:=h;have vr:=Nat.le_of_ble_eq_true ct
  have DD:∃id c hR,E k=some (id,c)/\ln= .slice (some ⟨id,off,none⟩) len hR:=by
   cases cap with
   |none=>obtain⟨id,c,az,aw⟩:=aj;exact⟨id,c,_,az.1,aw⟩
   |some cap=>obtain⟨id,c,az,aw⟩:=aj;exact⟨id,c,_,az,aw⟩
  obtain⟨id,c,hR,ai,rfl⟩:=DD;have ab3:Nat.min n len<=n:=Nat.min_le_left _ _;have anw:Nat.min n len<=len:=Nat.min_le_right _ _
  have ya:off+(e0.take (Nat.min n len*sz)).length<=o.n:=by
   have:=Nat.mul_le_mul_right sz anw
   rw[List.length_take];omega
  obtain⟨w',dk,et⟩:=ay.stored (Q:=P) aq ai l4 (cc.takeN (Nat.min n len*sz) hv) (Xk _ cl) ya;have ak:=Ia w rfl _ ab3;refine⟨E,.int .i64 (Nat.min n len),w',cJ.refl _,?_,rfl,et⟩;simp[Builtin.copy_,h0,run_underlying aK,jc dV,hlen,ak,dk,goInt]
 ·cases h
theorem DV{e:TypeId}(h:hA P e=true):P.underlying e=some (.int .u8):=by
 unfold hA at h;split at h<;>first|assumption|cases h
theorem XU:∀{ys:List J} {lh:List Int} {vs:List Value},bytesOf ys=some lh->cc E ys vs->vs=lh.map (Value.int .u8)
 | [],lh,vs,h,aF=>by simp[bytesOf] at h;subst h;cases aF;rfl
 | .int .u8 n::ys,lh,vs,h,⟨v,BC,hv,aF,e⟩=>by
   simp only[bytesOf] at h;split at h<;>try(cases h;done)
   rename_i aDW s9;cases h;have az:v=_:=hv;subst e;subst az;rw[XU s9 aF];rfl
theorem alM(cQ:World)(cs:Array Value)(e:TypeId):(cQ.alloc (.cells cs e)).freeze ⟨cQ.heap.size,cs.size,none⟩ 1=cQ.alloc (.cells cs e (cs.size,cs.size+1)):=by
 have:∀f:Obj->Obj,(cQ.heap.push (Obj.cells cs e)).modify cQ.heap.size f=cQ.heap.push (f (.cells cs e)):=by
  intro f;apply Array.ext_getElem?;intro i;rw[Array.getElem?_modify,Array.getElem?_push,Array.getElem?_push];by_cases h:cQ.heap.size=i
  ·subst h;simp
  ·simp[h,Ne.symm h]
 have aw:(cQ.alloc (.cells cs e)).heap=cQ.heap.push (.cells cs e):=rfl;unfold World.freeze;rw[if_neg (by decide),aw,this];rfl
theorem bK.marked{off:Nat}(ay:bK P B aV X E w){k id c:Nat}{o:bD}(aq:X.aS.get k=some o)(ai:E k=some (id,c))(gJ:o.ro=false):
 ∃w',(markStringish ⟨id,off,none⟩).run P w= .ok () w'/\bK P B aV X E w':=by
 obtain⟨i',a2,cN,anO,rH⟩:=ay.obj k o aq;obtain⟨vL,cs,ty,lo,hi,ag,ae,yh⟩:=anO.cs gJ;rw[ai] at cN;cases cN;obtain⟨te,oG,aO,oH,kD⟩:=yh gJ;have yk:w.shape? id=some (ty,cs.size):=by simp[World.shape?,ag]
 have jU:(w.freeze ⟨id,cs.size,none⟩ 1).heap[id]?=some (.cells cs ty (if lo==hi then(cs.size,cs.size+1) else(min lo cs.size,max hi (cs.size+1)))):=by
  simp[World.freeze,Array.getElem?_modify,ag]
 have uv:∀j,j≠id->(w.freeze ⟨id,cs.size,none⟩ 1).heap[j]?=w.heap[j]?:=λj aa=>by
  simp[World.freeze,Array.getElem?_modify,Ne.symm aa]
 have cS:∃l h,(if lo==hi then(cs.size,cs.size+1) else(min lo cs.size,max hi (cs.size+1)))=(l,h)/\(l=h\/cs.size<=l):=by
  by_cases e:lo=hi
  ·exact⟨cs.size,cs.size+1,by simp[e],.inr (Nat.le_refl _)⟩
  ·refine⟨min lo cs.size,max hi (cs.size+1),by simp[e],.inr ?_⟩;rcases oG with h|h
   ·exact absurd h e
   ·omega
 obtain⟨l,h,anp,cS⟩:=cS;rw[anp] at jU;refine⟨w.freeze ⟨id,cs.size,none⟩ 1,by simp[markStringish,yk],ay.os,ay.tape,ay.output,?_,λj aa=>?_,λj cb aa=>?_,ay.inj,ay.fresh,ay.m7,ay.j3⟩
 ·have:=ay.base
  simpa[World.freeze] using this
 ·rw[uv j (by have:=rH (.inl gJ);omega)];exact ay.hN j aa
 ·by_cases hU:j=k
  ·subst hU;rw[aq] at aa;cases aa;exact⟨id,c,ai,.inl ⟨vL,cs,ty,l,h,jU,ae,λ_=>⟨te,cS,aO,oH,kD⟩⟩,rH⟩
  ·obtain⟨i,a3,he,fj,xR⟩:=ay.obj j cb aa;have bY:i≠id:=λaw=>hU (ay.inj j k cb o i a3 c aa aq he (by rw[ai,aw]))
   exact⟨i,a3,he,by rw[uv i bY];exact fj,xR⟩
theorem aki{s d:TypeId}{x y:J}{u:Value}{af:ah}(ay:bK P B aV X E w)(ao:Den E x u)(h:jG P s d x X=some (y,af)):Good P B aV E w (convert s d u) y af:=by
 unfold jG at h;split at h
 ·rename_i e b aj aF;cases aQ:hA P e with
  |false=>simp[aQ] at h
  |true=>
  cases a3:Nat.ble b.size 140737488355328 with
  |false=>simp[aQ,a3] at h
  |true=>
  simp only[aQ,a3,Bool.and_self,cond_true,Option.some.injEq,Prod.mk.injEq] at h;obtain⟨rfl,rfl⟩:=h;have he:=DV aQ;have az:u=_:=ao;subst az;have fp:=Lib.run_convert_string_bytes w s d e b aj aF he;have Pm:=grownCap_ge w b.size 0 e
  have dV:(Lib.bytesCells w e b).size=grownCap w b.size 0 e:=by
   have:b.data.size=b.size:=rfl
   simp[Lib.bytesCells,this];omega
  have anq:Lib.bytesCells w e b=((b.data.toList.map λz:UInt8=>Value.int .u8 z.toNat)++List.replicate (grownCap w b.size 0 e-b.size) (Value.int .u8 0)).toArray:=by
   apply Array.ext';simp[Lib.bytesCells]
  obtain⟨aP,hle,ai,et⟩:=adi (ty:=e) (esz:=1) (c:=grownCap w b.size 0 e) (lo:=grownCap w b.size 0 e) (hi:=grownCap w b.size 0 e+1) (ys:=wI b) (vs:=b.data.toList.map λz:UInt8=>Value.int .u8 z.toNat)
   (rest:=List.replicate (grownCap w b.size 0 e-b.size) (.int .u8 0)) ay.drew (YE b) (by
     have:b.data.size=b.size:=rfl
     simp[this];omega) (.inr (by omega))
  refine⟨aP,_,_,hle,fp,⟨_,_,⟨ai,by omega⟩,by simp⟩,?_⟩
  have hw:Lib.bytesWorld w e b=w.drew.alloc (.cells (Lib.bytesCells w e b) e (grownCap w b.size 0 e,grownCap w b.size 0 e+1)):=by
   unfold Lib.bytesWorld
   have:=alM w.drew (Lib.bytesCells w e b) e
   rw[<- dV];exact this
  rw[hw,anq];exact et
 ·rename_i bh e k off n cap lo aj aF;cases aQ:hA P e with
  |false=>simp[aQ] at h
  |true=>
  cases a3:Nat.beq s d with
  |false=>simp[aQ,a3] at h
  |true=>
  have oj:=Nat.eq_of_beq_eq_true a3;subst oj;simp only[aQ,a3,Bool.and_self,cond_true] at h;split at h<;>try(cases h;done)
  rename_i o aq;cases cl:o.ro with
  |true=>simp[cl] at h
  |false=>
  simp only[cl,cond_false,Option.some.injEq,Prod.mk.injEq] at h;obtain⟨rfl,rfl⟩:=h;have he:=DV aQ
  have fw:∃id c hR,E k=some (id,c)/\u= .slice (some ⟨id,off,none⟩) n hR:=by
   cases cap with
   |none=>obtain⟨id,c,az,aw⟩:=ao;exact⟨id,c,_,az.1,aw⟩
   |some cap=>obtain⟨id,c,az,aw⟩:=ao;exact⟨id,c,_,az,aw⟩
  obtain⟨id,c,hR,ai,hu⟩:=fw;obtain⟨w',aI,et⟩:=ay.marked (P:=P) (off:=off) aq ai cl;refine⟨E,u,w',cJ.refl _,?_,ao,et⟩;subst hu;rw[aj] at aF;cases aF;simp[convert,run_underlying aj,run_underlying he,aI]
 ·rename_i e a c aj aF;cases aQ:hA P e with
  |false=>simp[aQ] at h
  |true=>
  simp only[aQ,cond_true,Option.some.injEq,Prod.mk.injEq] at h;obtain⟨rfl,rfl⟩:=h;have he:=DV aQ;have az:u=_:=ao;subst az;exact⟨E,.string .empty,w,cJ.refl _,by simp[convert,run_underlying aj,run_underlying aF,run_underlying he,Conv.bytesToString],rfl,ay⟩
 ·rename_i e k aj aF;cases aQ:hA P e with
  |false=>simp[aQ] at h
  |true=>
  simp only[aQ,cond_true,Option.some.injEq,Prod.mk.injEq] at h;obtain⟨rfl,rfl⟩:=h;have he:=DV aQ;obtain⟨tW,cp,rfl⟩:=ao;have aJ:=run_loadCells_list (P:=P) (w:=w) tW [] (λj v aa=>by simp at aa);have aI:=run_bytesToString (P:=P) w tW 0 cp [] (by simpa using aJ);exact⟨E,.string .empty,w,cJ.refl _,by simp[convert,run_underlying aj,run_underlying aF,run_underlying he,aI],rfl,ay⟩
 ·rename_i e k off n cap lo aj aF;cases aQ:hA P e with
  |false=>simp[aQ] at h
  |true=>
  simp only[aQ,cond_true] at h;split at h<;>try(cases h;done)
  rename_i o aq;split at h<;>try(cases h;done)
  rename_i ys fk;split at h<;>try(cases h;done)
  rename_i lh s9;cases h;have he:=DV aQ
  have fw:∃id c hR,E k=some (id,c)/\u= .slice (some ⟨id,off,none⟩) n hR:=by
   cases cap with
   |none=>obtain⟨id,c,az,aw⟩:=ao;exact⟨id,c,_,az.1,aw⟩
   |some cap=>obtain⟨id,c,az,aw⟩:=ao;exact⟨id,c,_,az,aw⟩
  obtain⟨id,c,hR,ai,rfl⟩:=fw;obtain⟨gr,a2,cN,fj,_⟩:=ay.obj k o aq;rw[ai] at cN;cases cN;obtain⟨vs,h1,h2,h3⟩:=D1 fj _ off ys fk;have rQ:=XU s9 h1;have aJ:=run_loadCells_list (P:=P) (w:=w) ⟨id,off,none⟩ vs (λj v aa=>by rw[Addr.add_lit];exact h3 j v aa);rw[h2,rQ] at aJ;have aI:=run_bytesToString (P:=P) w ⟨id,off,none⟩ n hR lh aJ;exact⟨E,_,w,cJ.refl _,by simp[convert,run_underlying aj,run_underlying aF,run_underlying he,aI,GC],rfl,ay⟩
 ·cases h
theorem ajM{t ty:TypeId}{cX:Array TypeId}{x z:J}{u:Value}(aK:cX[0]?=some t)(ao:Den E x u)(h:ML P t x=some z):im P E w (Builtin.cap_ cX ty #[u]) z:=by
 unfold ML at h;split at h<;>(try(cases h;done))<;>rename_i hu
 ·obtain⟨id,c,_,rfl⟩:=ao;cases h;exact⟨_,by simp[Builtin.cap_,aK,dX hu];rfl,rfl⟩
 ·have az:u=_:=ao;subst az;simp only[fC,Option.some.injEq] at h;subst h;exact⟨_,by simp[Builtin.cap_,aK,dX hu];rfl,rfl⟩
 ·have az:u=_:=ao;subst az;simp only[Option.some.injEq] at h;subst h;exact⟨_,by simp[Builtin.cap_,aK,dX hu];rfl,rfl⟩
theorem apj{ty:TypeId}{cX:Array TypeId}{x y z:J}{u v:Value}(ao:Den E x u)(bb:Den E y v)(h:D6 x y=some z):im P E w (Builtin.min_ cX ty #[u,v]) z:=by
 unfold D6 at h;split at h<;>(try(cases h;done))<;>(have az:u=_:=ao;have aw:v=_:=bb;subst az;subst aw;cases h)
 all_goals exact⟨_,by simp[Builtin.min_,Builtin.min2];rfl,by simp[Den,Bool.cond_decide]⟩
theorem aph{ty:TypeId}{cX:Array TypeId}{x y z:J}{u v:Value}(ao:Den E x u)(bb:Den E y v)(h:D4 x y=some z):im P E w (Builtin.max_ cX ty #[u,v]) z:=by
 unfold D4 at h;split at h<;>(try(cases h;done))<;>(have az:u=_:=ao;have aw:v=_:=bb;subst az;subst aw;cases h)
 all_goals exact⟨_,by simp[Builtin.max_,Builtin.max2];rfl,by simp[Den,Bool.cond_decide]⟩
theorem ayd{t:TypeId}{x y:J}{u:Value}{af:ah}(ay:bK P B aV X E w)(ao:Den E x u)(h:za P t x X=some (y,af)):Good P B aV E w (Instr.range t u) y af:=by cases h
theorem pf.adB{s:pe}{ob:Obj}(h:pf P E s (some ob)):∀c e f,ob≠ .cells c e f:=by
 intro c e f cj;subst cj;cases s with
 |cells=>exact h
 |iter s pos=>have h':(some (Obj.cells c e f))=some (.stringIter s pos):=h;cases h'
 |map es clock=>obtain⟨l,h1,_⟩:=h;cases h1
 |loop st ia ord me N F ps a a3 b=>obtain⟨_,r,h1,_⟩:=h;cases h1
 |jF t=>have h':(some (Obj.cells c e f))=some (.deferred (bif t then none else some [])):=h;cases h'
theorem bK.zb(ay:bK P B aV X E w){k:Nat}{o:bD}(aq:X.aS.get k=some o)(aj:o.sp≠ .cells):∃id c,E k=some (id,c)/\pf P E o.sp w.heap[id]?/\o.n=0/\o.ro=true/\B<=id:=by
 obtain⟨id,c,ai,fj,C3⟩:=ay.obj k o aq;rcases fj with⟨h,_⟩|⟨h1,h2,h3⟩
 ·exact absurd h aj
 ·exact⟨id,c,ai,h1,h2,h3,C3 (.inr aj)⟩
theorem bK.VQ(ay:bK P B aV X E w){k id c:Nat}{o:bD}{s:pe}{obj':Obj}(aq:X.aS.get k=some o)(aj:o.sp≠ .cells)(ai:E k=some (id,c))(aI:pf P E s (some obj'))(Q:Program):
 ∃w',(setObj id obj').run Q w= .ok () w'/\bK P B aV {X with aS:=X.aS.put k {o with ck:=o.ck+1,sp:=s}} E w':=by
 obtain⟨gr,a2,cN,fj,lQ,gJ,rH⟩:=ay.zb aq aj;rw[ai] at cN;cases cN;obtain⟨ob,nU⟩:=fj.there;have am9:id<w.heap.size:=(Array.getElem?_eq_some_iff.1 nU).1;rw[nU] at fj;have Dw:=fj.adB;refine⟨{w with heap:=w.heap.setIfInBounds id obj'},by cases ob<;>first|exact absurd rfl (Dw _ _ _)|simp[setObj,Sem.run,nU],?_⟩;refine⟨ay.os,ay.tape,ay.output,by simpa using ay.base,λj aa=>?_,λj cb aa=>?_,λj gM dH dn i aQ a3 aa hh he fu=>?_,ay.fresh,ay.m7,ay.j3⟩
 ·show(w.heap.setIfInBounds id _)[j]?=_;rw[Array.getElem?_setIfInBounds_ne (by omega)];exact ay.hN j aa
 ·rcases cz.ix aa with⟨e,aw⟩|⟨e,aJ⟩
  ·subst e;subst aw;refine⟨id,c,ai,.inr ⟨?_,lQ,gJ⟩,λ_=>rH⟩;show pf P E s (w.heap.setIfInBounds id _)[id]?;rw[Array.getElem?_setIfInBounds_self_of_lt am9];exact aI
  ·obtain⟨i,a2,he,aI,jU⟩:=ay.obj j cb aJ;have bY:i≠id:=λaw=>e (ay.inj j k cb o i a2 c aJ aq he (by rw[ai,aw]))
   refine⟨i,a2,he,?_,jU⟩;show lE P E cb (w.heap.setIfInBounds id _)[i]? a2;rw[Array.getElem?_setIfInBounds_ne (λe=>bY e.symm)];exact aI
 ·have f:∀q adQ,(X.aS.put k {o with ck:=o.ck+1,sp:=s}).get q=some adQ->∃aqb,X.aS.get q=some aqb:=λq adQ aZ=>by
   rcases cz.ix aZ with⟨e,_⟩|⟨_,h⟩
   ·exact⟨o,e▸aq⟩
   ·exact⟨_,h⟩
  obtain⟨D8,jT⟩:=f j dH aa;obtain⟨D9,kh⟩:=f gM dn hh;exact ay.inj j gM D8 D9 i aQ a3 jT kh he fu
theorem al2{id:Nat}{ob:Obj}{s:pe}(h:w.heap[id]?=some ob)(aj:pf P E s (some ob)):(getObj id).run P w= .ok ob w:=by
 have Dw:=aj.adB;cases ob<;>first|exact absurd rfl (Dw _ _ _)|simp[getObj,Sem.run,h]
theorem apH{k id c:Nat}{ty:TypeId}{y:J}{af:ah}(ay:bK P B aV X E w)(ai:E k=some (id,c))(h:wD k X=some (y,af)):Good P B aV E w (Instr.next (.pointer (some ⟨id,0,none⟩)) true ty) y af:=by cases h
theorem ajo{b:Builtin}{cX:Array TypeId}{ty:TypeId}{consts:Array Bool}{bz:List J}{q3:List Value}{y:J}{af:ah}(ay:bK P B aV X E w)(hv:cc E bz q3)(h:iq P b cX bz X=some (y,af)):
 ∃aP v w',cJ E aP/\(builtin b cX ty consts q3.toArray).run P w= .ok (.value v) w'/\Den aP y v/\bK P B aV af aP w':=by
 have two:∀{x1 x2:J},cc E [x1,x2] q3->∃ic sd,q3=[ic,sd]/\Den E x1 ic/\Den E x2 sd:=by
  rintro x1 x2 ⟨ic,_,h1,⟨sd,_,h2,h3,aw⟩,az⟩
  cases h3;exact⟨ic,sd,by rw[az,aw],h1,h2⟩
 have one:∀{x1:J},cc E [x1] q3->∃ic,q3=[ic]/\Den E x1 ic:=by
  rintro x1 ⟨ic,_,h1,h2,az⟩
  cases h2;exact⟨ic,az,h1⟩
 have yes:∀{s:Sem Value},im P E w s y->af=X->∃aP v w',cJ E aP/\(do Pure.pure (Next.value (<- s)):Sem Next).run P w= .ok (.value v) w'/\Den aP y v/\bK P B aV af aP w':=by
  rintro s ⟨v,h1,h2⟩ rfl
  exact⟨E,v,w,cJ.refl _,by simp[h1],h2,ay⟩
 have Ah:∀{s:Sem Value},Good P B aV E w s y af->∃aP v w',cJ E aP/\(do Pure.pure (Next.value (<- s)):Sem Next).run P w= .ok (.value v) w'/\Den aP y v/\bK P B aV af aP w':=by
  rintro s ⟨aP,v,w',h1,h2,h3,aU⟩
  exact⟨aP,v,w',h1,by simp[h2],h3,aU⟩
 have K2:∀{o:Option J},ds X o=some (y,af)->o=some y/\af=X:=by
  intro o h;unfold ds at h;split at h<;>simp at h
  obtain⟨rfl,rfl⟩:=h;exact⟨rfl,rfl⟩
 unfold iq at h;split at h
 ·split at h<;>try(cases h;done)
  rename_i t aK;obtain⟨u,rfl,hu⟩:=one hv;obtain⟨h',e⟩:=K2 h;exact yes (aoZ aK hu h') e
 ·split at h<;>try(cases h;done)
  rename_i t aK;obtain⟨u,rfl,hu⟩:=one hv;obtain⟨h',e⟩:=K2 h;exact yes (ajM aK hu h') e
 ·obtain⟨u,v,rfl,hu,eE⟩:=two hv;obtain⟨h',e⟩:=K2 h;exact yes (apj hu eE h') e
 ·obtain⟨u,v,rfl,hu,eE⟩:=two hv;obtain⟨h',e⟩:=K2 h;exact yes (aph hu eE h') e
 ·split at h<;>try(cases h;done)
  rename_i t dt aK gK;split at h<;>try(cases h;done)
  rename_i d aF;cases yg:r3 d with
  |false=>
   simp only[yg,cond_false] at h;cases PU:u0 d with
   |false=>simp[PU] at h
   |true=>
    simp only[PU,cond_true] at h;obtain⟨u,v,rfl,hu,eE⟩:=two hv;exact Ah (aiS ay aK gK aF PU hu eE h)
  |true=>
   simp only[yg,cond_true] at h;obtain⟨u,v,rfl,hu,eE⟩:=two hv;exact Ah (aiV ay aK gK aF yg hu eE h)
 ·split at h<;>try(cases h;done)
  rename_i t aK;obtain⟨u,v,rfl,hu,eE⟩:=two hv;exact Ah (akn ay aK hu eE h)
 ·cases h
end
section
variable{P:Program}{B:Nat}{aV w:World}{X:ah}{E:Env}
theorem aiX{t:TypeId}{k off len lo:Nat}{cap:Option Nat}{z:J}{u:Value}(ao:Den E (.aY k off len cap lo) u)(h:VK P t k off len=some z):im P E w (Instr.arrayAt t u) z:=by cases h
theorem apA{t:TypeId}(ay:bK P B aV X E w):Good P B aV E w (Instr.makeMap t none) (.mp (tp X).1) (tp X).2:=by
 refine⟨E.put X.next w.heap.size 0,.map (some w.heap.size),w.alloc (.map #[] 0),Env.rY (ay.fresh _ (Nat.le_refl _)) ay.j3,?_,⟨_,_,Env.lU _ _ _ _,rfl⟩,ay.IT _ _ 0 λaP _=> .inr ⟨⟨[],rfl,rfl⟩,rfl,rfl⟩⟩;simp[Instr.makeMap]
def LG(E:Env)(cE:Value)(es:List (J×J×Nat))(l:List MapEntry)(i:Nat)(r:Option (Nat×J))(o:Nat->Value->Prop):Prop:=
 ∃n q v b e,r=some (i+n,v)/\es[n]?=some (q,v,b)/\l[n]?=some e/\e.key=cE/\Den E v e.val/\e.born=b/\Den E q cE/\o (i+n) e.val
theorem LG.next{cE:Value}{es:List (J×J×Nat)}{l:List MapEntry}{i:Nat}{r:Option (Nat×J)}{o o':Nat->Value->Prop}{x:J×J×Nat}{y:MapEntry}(h:LG E cE es l (i+1) r o)(aq:∀n v,o n v->o' n v):LG E cE (x::es) (y::l) i r o':=by
 obtain⟨n,q,v,b,e,h1,h2,h3,aU,bA,bC,er,hz⟩:=h;have rB:i+1+n=i+(n+1):=by omega
 rw[rB] at h1 hz;exact⟨n+1,q,v,b,e,h1,by simpa using h2,by simpa using h3,aU,bA,bC,er,aq _ _ hz⟩
theorem ao7(ay:bK P B aV X E w){t:TypeId}{m k z:J}{r1 cE:Value}{ok:Bool}(hm:Den E m r1)(ai:Den E k cE)(h:y9 P t m k ok X=some z):im P E w (Instr.lookup t r1 cE ok) z:=by cases h
theorem aBB(ay:bK P B aV X E w){t:TypeId}{m k v:J}{r1 cE q3:Value}{af:ah}(hm:Den E m r1)(ai:Den E k cE)(hv:Den E v q3)(h:wE P t m k v X=some af):
 ∃w',(Instr.mapUpdate t r1 cE q3).run P w= .ok () w'/\bK P B aV af E w':=by cases h
theorem ak7(ay:bK P B aV X E w){t:TypeId}{m k z:J}{r1 cE:Value}{af:ah}(hm:Den E m r1)(ai:Den E k cE)(h:y6 P t m k X=some (z,af)):Good P B aV E w (Instr.mapEntry t r1 cE) z af:=by cases h
theorem ak5(ay:bK P B aV X E w){t:TypeId}{m b v:J}{r1 bv q3:Value}{af:ah}(hm:Den E m r1)(ag:Den E b bv)(hv:Den E v q3)(h:wC m b v X=some af):
 ∃w',(Instr.entryStore t r1 bv q3).run P w= .ok () w'/\bK P B aV af E w':=by cases h
theorem aiZ{x z:J}{u:Value}{aB3 a:TypeId}{ok:Bool}(ao:Den E x u)(h:VL P x a ok=some z):im P E w (Instr.typeAssert u aB3 a ok) z:=by cases h
theorem apt(ay:bK P B aV X E w){k:zy}{args:List J}{argv:List Value}{z:J}(hv:cc E args argv)(h:tn k args X=some z):im P E w (adv k argv.toArray) z:=by cases h
end
section
variable{P:Program}{B:Nat}{aV w:World}{X:ah}{E:Env}
def FW(P:Program)(B:Nat)(aV:World)(E:Env)(w:World)(s:Sem Next)(y:J)(af:ah):Prop:=
 ∃aP v w',cJ E aP/\(s.run P w= .ok (.value v) w'\/(s.run P w= .ok .skip w'/\v=undef))/\Den aP y v/\bK P B aV af aP w'
theorem Good.op{s:Sem Value}{y:J}{af:ah}(h:Good P B aV E w s y af):FW P B aV E w (do Pure.pure (.value (<- s))) y af:=by
 obtain⟨aP,v,w',h1,h2,h3,aU⟩:=h;exact⟨aP,v,w',h1,.inl (by simp[h2]),h3,aU⟩
theorem im.op{s:Sem Value}{y:J}(ay:bK P B aV X E w)(h:im P E w s y):FW P B aV E w (do Pure.pure (.value (<- s))) y X:=by
 obtain⟨v,h2,h3⟩:=h;exact⟨E,v,w,cJ.refl _,.inl (by simp[h2]),h3,ay⟩
theorem gz{o:Option J}{y:J}{X af:ah}(h:ds X o=some (y,af)):o=some y/\X=af:=by
 unfold ds at h;split at h<;>simp at h
 obtain⟨rfl,rfl⟩:=h;exact⟨rfl,rfl⟩
theorem lM{a:J}{l:List Value}(h:cc E [a] l):∃u,l=[u]/\Den E a u:=by
 obtain⟨u,us,h1,h2,e⟩:=h;cases h2;exact⟨u,e,h1⟩
theorem sK{a b:J}{l:List Value}(h:cc E [a,b] l):∃u v,l=[u,v]/\Den E a u/\Den E b v:=by
 obtain⟨u,us,h1,h2,e⟩:=h;obtain⟨v,rfl,h3⟩:=lM h2;exact⟨u,v,e,h1,h3⟩
theorem GR{a b c:J}{l:List Value}(h:cc E [a,b,c] l):∃u v x,l=[u,v,x]/\Den E a u/\Den E b v/\Den E c x:=by
 obtain⟨u,us,h1,h2,e⟩:=h;obtain⟨v,x,rfl,h3⟩:=sK h2;exact⟨u,v,x,e,h1,h3⟩
inductive jj (X:ah):ah->Prop
 |same:jj X X
 |new (o:bD):jj X (X.new o).2
 |set (k:Nat) (o o':bD):X.aS.get k=some o->o.ck<o'.ck->jj X {X with aS:=X.aS.put k o'}
 |name (k:Nat) (o:bD):jj X {X with next:=X.next+1,aS:=(X.aS.del k).put X.next o}
theorem jj.pc{X af:ah}(h:jj X af):af.pc=X.pc:=by cases h<;>rfl
theorem jj.bs{X af:ah}(h:jj X af):af.bs=X.bs:=by cases h<;>rfl
theorem adj{ty esz:Nat}{cells:List J}{X:ah}:jj X (mL X ty esz cells).2:=by
 unfold mL;rw[force_eq];exact .new _
theorem Yn{s d:TypeId}{x y:J}{X af:ah}(h:jG P s d x X=some (y,af)):jj X af:=by
 unfold jG at h;split at h
 ·generalize(hA P _&&_)=b at h;cases b<;>simp only[cond_true,cond_false,Option.some.injEq,Prod.mk.injEq,reduceCtorEq] at h
  obtain⟨_,rfl⟩:=h;exact adj
 ·generalize(hA P _&&_)=b at h;cases b<;>simp only[cond_true,cond_false,reduceCtorEq] at h
  split at h<;>try(cases h;done)
  rename_i o _;cases aq:o.ro<;>simp only[aq,cond_true,cond_false,Option.some.injEq,Prod.mk.injEq,reduceCtorEq] at h
  obtain⟨_,rfl⟩:=h;exact .same
 ·generalize hA P _=b at h;cases b<;>simp only[cond_true,cond_false,Option.some.injEq,Prod.mk.injEq,reduceCtorEq] at h
  obtain⟨_,rfl⟩:=h;exact .same
 ·generalize hA P _=b at h;cases b<;>simp only[cond_true,cond_false,Option.some.injEq,Prod.mk.injEq,reduceCtorEq] at h
  obtain⟨_,rfl⟩:=h;exact .same
 ·generalize hA P _=b at h;cases b<;>simp only[cond_true,cond_false,reduceCtorEq] at h
  split at h<;>try(cases h;done)
  split at h<;>try(cases h;done)
  split at h<;>try(cases h;done)
  cases h;exact .same
 ·cases h
theorem Xx{k off len lo eh sz:Nat}{cap:Option Nat}{o:bD}{e0:List J}{y:J}{X af:ah}(aq:X.aS.get k=some o)(h:pk k off len cap lo eh sz o e0 X=some (y,af)):jj X af:=by
 unfold pk at h;generalize(Nat.ble _ _&&_)=b at h;cases b<;>simp only[cond_true,cond_false,Option.some.injEq,Prod.mk.injEq,reduceCtorEq] at h
 obtain⟨_,rfl⟩:=h;exact .set k o _ aq (Nat.lt_succ_self _)
theorem XA{e sz b eh:Nat}{cells:List J}{y:J}{X af:ah}(h:nz e sz b eh cells X=some (y,af)):jj X af:=by
 unfold nz at h;generalize(Nat.ble _ _&&_)=b at h;cases b<;>simp only[cond_true,cond_false,Option.some.injEq,Prod.mk.injEq,reduceCtorEq] at h
 obtain⟨_,rfl⟩:=h;exact adj
theorem aiH{k len eh sz b:Nat}{o:bD}{e0:List J}{y:J}{X af:ah}(h:rm k len eh sz b o e0 X=some (y,af)):jj X af:=by
 unfold rm at h;generalize(Nat.ble _ _&&(_&&_))=c at h;cases c<;>simp only[cond_true,cond_false,force_eq,Option.some.injEq,Prod.mk.injEq,reduceCtorEq] at h
 obtain⟨_,rfl⟩:=h;exact .name k _
theorem XE{e sz b k off len lo n:Nat}{cap:Option Nat}{news:List J}{y:J}{X af:ah}(h:lF e sz b k off len cap lo n news X=some (y,af)):jj X af:=by
 unfold lF at h;split at h<;>try(cases h;done)
 rename_i o aq;rw[force_eq] at h;split at h
 ·generalize Nat.ble _ _=bR at h;cases bR<;>simp only[cond_true,cond_false] at h
  ·split at h<;>try(cases h;done)
   exact XA h
  ·exact Xx aq h
 ·generalize(Nat.beq _ _&&(_&&(_&&(_&&(_&&_)))))=bR at h;cases bR<;>simp only[cond_true,cond_false,reduceCtorEq] at h
  generalize Nat.ble _ _=b2 at h;cases b2<;>simp only[cond_true,cond_false] at h
  ·exact aiH h
  ·exact Xx aq h
theorem aiW{t:TypeId}{s x y:J}{X af:ah}(h:oT P t s x X=some (y,af)):jj X af:=by
 unfold oT at h;split at h<;>try(cases h;done)
 split at h<;>try(cases h;done)
 split at h<;>try(cases h;done)
 generalize(Nat.ble _ _&&(_&&(_&&_)))=c at h;cases c<;>simp only[cond_true,cond_false,reduceCtorEq] at h
 split at h
 ·rename_i a c;generalize(Nat.beq a 0&&_)=bR at h;cases bR<;>simp only[cond_true,cond_false,reduceCtorEq] at h
  rename_i n _ _ _ _;generalize Nat.beq _ 0=b2 at h;cases b2<;>simp only[cond_true,cond_false,Option.some.injEq,Prod.mk.injEq] at h
  ·exact XA h
  ·obtain⟨_,rfl⟩:=h;exact .same
 ·exact XE h
 ·generalize Nat.beq _ 0=bR at h;cases bR<;>simp only[cond_true,cond_false,reduceCtorEq] at h
  cases h;exact .same
 ·cases h
theorem aiT{t:TypeId}{s x y:J}{X af:ah}(h:pS P t s x X=some (y,af)):jj X af:=by
 unfold pS at h;split at h<;>try(cases h;done)
 split at h<;>try(cases h;done)
 split at h<;>try(cases h;done)
 generalize(Nat.beq _ _&&(_&&(_&&_)))=c at h;cases c<;>simp only[cond_true,cond_false,reduceCtorEq] at h
 split at h<;>try(cases h;done)
 exact XE h
theorem ako{t:TypeId}{s x y:J}{X af:ah}(h:q0 P t s x X=some (y,af)):jj X af:=by
 unfold q0 at h;split at h<;>try(cases h;done)
 split at h<;>try(cases h;done)
 split at h<;>try(cases h;done)
 generalize(Nat.beq _ _&&_)=c at h;cases c<;>simp only[cond_true,cond_false,reduceCtorEq] at h
 split at h
 ·generalize Nat.beq _ _=bR at h;cases bR<;>simp only[cond_true,cond_false,Option.some.injEq,Prod.mk.injEq,reduceCtorEq] at h
  obtain⟨_,rfl⟩:=h;exact .same
 ·split at h<;>try(cases h;done)
  rename_i o aq;rw[force_eq] at h;generalize(Nat.ble _ _&&_)=bR at h;cases bR<;>simp only[cond_true,cond_false,Option.some.injEq,Prod.mk.injEq,reduceCtorEq] at h
  obtain⟨_,rfl⟩:=h;exact .set _ o _ aq (Nat.lt_succ_self _)
 ·cases h
theorem MH{b:Builtin}{cX:Array TypeId}{bz:List J}{y:J}{X af:ah}(h:iq P b cX bz X=some (y,af)):jj X af:=by
 unfold iq at h;split at h
 ·split at h<;>try(cases h;done)
  obtain⟨_,rfl⟩:=gz h;exact .same
 ·split at h<;>try(cases h;done)
  obtain⟨_,rfl⟩:=gz h;exact .same
 ·obtain⟨_,rfl⟩:=gz h;exact .same
 ·obtain⟨_,rfl⟩:=gz h;exact .same
 ·split at h<;>try(cases h;done)
  split at h<;>try(cases h;done)
  generalize r3 _=bR at h;cases bR<;>simp only[cond_true,cond_false,reduceCtorEq] at h
  ·generalize u0 _=b2 at h;cases b2<;>simp only[cond_true,cond_false,reduceCtorEq] at h
   exact aiT h
  ·exact aiW h
 ·split at h<;>try(cases h;done)
  exact ako h
 ·cases h
theorem afw{t:TypeId}{x y:J}{X af:ah}(h:za P t x X=some (y,af)):jj X af:=by cases h
theorem adz{k:Nat}{y:J}{X af:ah}(h:wD k X=some (y,af)):jj X af:=by cases h
theorem agW{t:TypeId}{m k v:J}{X af:ah}(h:wE P t m k v X=some af):jj X af:=by cases h
theorem YS{t:TypeId}{m k z:J}{X af:ah}(h:y6 P t m k X=some (z,af)):jj X af:=by cases h
theorem YR{m b v:J}{X af:ah}(h:wC m b v X=some af):jj X af:=by cases h
theorem azC{op:Op}{bz:List J}{X af:ah}{y:J}(h:dK P op bz X=some (y,af))(aA:cC af):cC X:=by
 unfold dK at h;split at h
 case h_3=>
  unfold tE at h;split at h
  ·rename_i ag;cases h;exact((rq ag).1 aA).1
  ·rename_i ag;cases h;exact((rq ag).1 aA).1
  ·cases h
 case h_4=>unfold pR newRow ah.new at h;split at h<;>(try simp only[force_eq] at h)<;>cases h;exact aA
 case h_5=>
  unfold pT newRow ah.new at h;rename_i x;cases ao:x.flat<;>simp only[ao,cond_false,cond_true,force_eq] at h<;>cases h
  exact aA
 case h_7=>
  unfold oU newRow ah.new at h;split at h<;>try(cases h;done)
  split at h<;>try(cases h;done)
  rename_i s z _ _;generalize ae:(Nat.ble _ _&&Nat.ble 1 s&&_)=b at h;cases b<;>simp only[cond_true,cond_false,force_eq] at h
  ·cases h
  ·split at h<;>cases h;exact aA
 case h_9=>
  split at h<;>cases h
  rename_i X1 aj;unfold n6 at aj;split at aj<;>try(cases aj;done)
  rename_i o n _ _;generalize ae:(Nat.beq _ _&&_&&_&&_)=b at aj;cases b<;>simp only[cond_true,cond_false] at aj<;>cases aj
  exact aA
 case h_16=>
  unfold pU mM ah.new at h;split at h<;>try(cases h;done)
  split at h<;>try(cases h;done)
  split at h<;>try(cases h;done)
  rename_i s z b _ _ _;generalize ae:(Nat.ble _ _&&_&&_&&_&&_)=b at h;cases b<;>simp only[cond_true,cond_false,force_eq] at h<;>cases h
  exact aA
 all_goals first
  |(cases h;exact aA)
  |(obtain⟨_,rfl⟩:=gz h;exact aA)
  |(cases h;done)
  |(unfold cC;rw[<- (afw h).pc];exact aA)
  |(unfold cC;rw[<- (adz h).pc];exact aA)
  |(split at h<;>cases h;rename_i hu;unfold cC;rw[<- (agW hu).pc];exact aA)
  |(unfold cC;rw[<- (YS h).pc];exact aA)
  |(split at h<;>cases h;rename_i hu;unfold cC;rw[<- (YR hu).pc];exact aA)
  |(split at h
    ·cases h;exact aA
    ·unfold cC;rw[<- (Yn h).pc];exact aA)
theorem az9(ay:bK P B aV X E w){t:TypeId}{k off id c:Nat}{y:J}{v:Value}{af:ah}(ai:E k=some (id,c))(eE:Den E y v)(aj:n6 P t X k off y=some af):
 ∃w',(storeVar t ⟨id,off,none⟩ v).run P w= .ok () w'/\bK P B aV af E w':=by
 unfold n6 at aj;split at aj<;>try(cases aj;done)
 rename_i o n aq aO;cases h1:Nat.beq y.cells.length n with
 |false=>simp[h1] at aj
 |true=>
 cases h2:Nat.ble (off+n) o.n with
 |false=>simp[h1,h2] at aj
 |true=>
 cases aU:o.ro with
 |true=>simp[h1,h2,aU] at aj
 |false=>
 cases bA:eA y.cells with
 |false=>simp[h1,h2,aU,bA] at aj
 |true=>
 simp only[h1,h2,aU,bA,Bool.and_self,Bool.not_false,cond_true,Option.some.injEq] at aj;subst aj;have jT:=Nat.eq_of_beq_eq_true h1;have kh:=Nat.le_of_ble_eq_true h2;have ft:=GS eE (alE bA);obtain⟨w',aI,et⟩:=ay.stored (off:=off) aq ai aU ft bA (by omega) P;have hlen:=ft.length;simp only[Array.length_toList] at hlen;exact⟨w',by simp[storeVar,jc aO,hlen,jT,aI],by simpa[aU] using et⟩
theorem VN(ay:bK P B aV X E w){o:Oper}{lq:Operand->Value}{bz:List J}{y:J}{af:ah}(hv:cc E bz (o.op.operands.toList.map lq))(aA:cC af)
 (h:dK P o.op bz X=some (y,af)):FW P B aV E w (execOp lq o) y af:=by
 obtain⟨dst,op,type,pos,after,guard⟩:=o;simp only at hv h;unfold dK at h;split at h
 ·
  obtain⟨u,e,hu⟩:=lM hv;cases h;simp[Op.operands] at e;subst e;exact⟨E,_,w,cJ.refl _,.inl rfl,hu,ay⟩
 ·
  obtain⟨u,e,hu⟩:=lM hv;cases h;simp[Op.operands] at e;subst e;exact⟨E,_,w,cJ.refl _,.inl rfl,hu,ay⟩
 ·
  obtain⟨u,v,x,e,hu,eE,ao⟩:=GR hv;simp[Op.operands] at e;obtain⟨rfl,rfl,rfl⟩:=e;unfold tE at h;split at h
  ·rename_i ag;cases h;obtain⟨h1,h2,h3,aU⟩:=rq ag;exact⟨E,_,w,cJ.refl _,.inl (by simp[execOp,(h1 aA).2 _ _ hu,asBool]),eE,ay.same h2 h3 aU⟩
  ·rename_i ag;cases h;obtain⟨h1,h2,h3,aU⟩:=rq ag;exact⟨E,_,w,cJ.refl _,.inl (by simp[execOp,(h1 aA).2 _ _ hu,asBool]),ao,ay.same h2 h3 aU⟩
  ·cases h
 ·
  exact(aiv ay h).op
 ·
  obtain⟨u,e,hu⟩:=lM hv;simp[Op.operands] at e;subst e;exact(ajp ay hu h).op
 ·
  obtain⟨h',eH⟩:=gz h;subst eH;simp only[Op.operands,List.map_map] at hv;exact(ajr ay hv h').op
 ·
  simp only[Op.operands,List.map_map] at hv;exact(ajq ay hv h).op
 ·
  obtain⟨h',eH⟩:=gz h;subst eH;obtain⟨u,e,id,c,ai,hu⟩:=lM hv;simp[Op.operands] at e;subst e;obtain⟨v,aI,aF⟩:=ac7 ay h' ai;exact⟨E,v,w,cJ.refl _,.inl (by simp[execOp,Instr.loadAt,hu,Instr.sureAddr,aI]),aF,ay⟩
 ·
  split at h<;>try(cases h;done)
  rename_i X1 aj;cases h;obtain⟨u,v,e,⟨id,c,ai,hu⟩,eE⟩:=sK hv;simp[Op.operands] at e;obtain⟨rfl,rfl⟩:=e;obtain⟨w',aI,et⟩:=az9 ay ai eE aj;exact⟨E,undef,w',cJ.refl _,.inr ⟨by simp[execOp,Instr.storeAt,hu,Instr.sureAddr,aI],rfl⟩,rfl,et⟩
 ·
  obtain⟨h',eH⟩:=gz h;subst eH;obtain⟨u,e,hu⟩:=lM hv;simp[Op.operands] at e;obtain⟨rfl,h1⟩:=apJ hu h';refine⟨E,u,w,cJ.refl _,.inl ?_,hu,ay⟩;rcases h1 with⟨a,rfl⟩|⟨f,a,b,rfl⟩<;>simp[execOp,e]
 ·
  obtain⟨h',eH⟩:=gz h;subst eH;obtain⟨u,v,e,hu,eE⟩:=sK hv;simp[Op.operands] at e;obtain⟨rfl,rfl⟩:=e;exact(aji hu eE h').op ay
 ·
  obtain⟨h',eH⟩:=gz h;subst eH;obtain⟨u,e,hu⟩:=lM hv;simp[Op.operands] at e;subst e;exact(aBx hu h').op ay
 ·
  obtain⟨u,e,hu⟩:=lM hv;simp[Op.operands] at e;subst e;split at h
  ·rename_i z h';cases h;exact(akk hu h').op ay
  ·exact(aki ay hu h).op
 ·
  obtain⟨h',eH⟩:=gz h;subst eH;obtain⟨u,e,hu⟩:=lM hv;simp[Op.operands] at e;subst e;exact(aoh hu h').op ay
 ·
  cases h;rename_i fn a b;simp only[Op.operands,Array.toList_append,List.map_append] at hv;have h1:=cc.take a.size hv;have h2:=cc.drop a.size hv;rw[List.take_left' (by simp)] at h1;rw[List.drop_left' (by simp)] at h2;exact⟨E,.func fn (a.map lq) (b.map lq),w,cJ.refl _,.inl (by simp[execOp,Instr.makeFunc]),⟨_,_,h1,h2,by rw[<- Array.toList_map, <- Array.toList_map]⟩,ay⟩
 ·
  obtain⟨u,v,e,hu,eE⟩:=sK hv;simp[Op.operands] at e;obtain⟨rfl,rfl⟩:=e;exact(apg ay hu eE h).op
 ·
  obtain⟨h',eH⟩:=gz h;subst eH;obtain⟨u,e,id,c,ai,hu⟩:=lM hv;simp[Op.operands] at e
  have:=(alq (w:=w) ai h').op ay
  rw[<- hu, <- e] at this;exact this
 ·
  obtain⟨h',eH⟩:=gz h;subst eH;obtain⟨u,e,vs,rQ,hu⟩:=lM hv;simp[Op.operands] at e
  have:=(als (w:=w) rQ h').op ay
  rw[<- hu, <- e] at this;exact this
 ·
  obtain⟨h',eH⟩:=gz h;subst eH;obtain⟨u,v,e,hu,eE⟩:=sK hv;simp[Op.operands] at e;obtain⟨rfl,rfl⟩:=e;exact(aol hu eE h').op ay
 ·
  obtain⟨h',eH⟩:=gz h;subst eH;obtain⟨u,v,e,hu,eE⟩:=sK hv;simp[Op.operands] at e;obtain⟨rfl,rfl⟩:=e;exact(aom hu eE h').op ay
 ·
  obtain⟨h',eH⟩:=gz h;subst eH;obtain⟨u,e,vs,rQ,hu⟩:=lM hv;simp[Op.operands] at e;obtain⟨v,h1,h2⟩:=rQ.get _ _ h';exact⟨E,v,w,cJ.refl _,.inl (by simp[execOp,Instr.extract,e,hu,h1]),h2,ay⟩
 ·
  obtain⟨u,e,hu⟩:=lM hv;simp[Op.operands] at e;subst e;exact(ayd ay hu h).op
 ·
  obtain⟨u,e,hu⟩:=lM hv;simp[Op.operands] at e;subst e;obtain⟨id,c,ai,gK⟩:=hu
  have:=(apH (P:=P) (ty:=type) ay ai h).op
  rw[<- gK] at this;exact this
 ·
  obtain⟨h',eH⟩:=gz h;subst eH;obtain⟨u,e,hu⟩:=lM hv;simp[Op.operands] at e;subst e;exact(aiX hu h').op ay
 ·
  cases h;exact(apA ay).op
 ·
  obtain⟨h',eH⟩:=gz h;subst eH;obtain⟨u,v,e,hu,eE⟩:=sK hv;simp[Op.operands] at e;obtain⟨rfl,rfl⟩:=e;exact(ao7 ay hu eE h').op ay
 ·
  split at h<;>try(cases h;done)
  rename_i X1 aj;cases h;obtain⟨u,v,x,e,hu,eE,ao⟩:=GR hv;simp[Op.operands] at e;obtain⟨rfl,rfl,rfl⟩:=e;obtain⟨w',aI,et⟩:=aBB ay hu eE ao aj;exact⟨E,undef,w',cJ.refl _,.inr ⟨by simp[execOp,aI],rfl⟩,rfl,et⟩
 ·
  obtain⟨u,v,e,hu,eE⟩:=sK hv;simp[Op.operands] at e;obtain⟨rfl,rfl⟩:=e;exact(ak7 ay hu eE h).op
 ·
  split at h<;>try(cases h;done)
  rename_i t _ _ _ _ _ _ _ X1 aj;cases h;obtain⟨u,v,x,e,hu,eE,ao⟩:=GR hv;simp[Op.operands] at e;obtain⟨rfl,rfl,rfl⟩:=e;obtain⟨w',aI,et⟩:=ak5 (t:=t) ay hu eE ao aj;exact⟨E,undef,w',cJ.refl _,.inr ⟨by simp[execOp,aI],rfl⟩,rfl,et⟩
 ·
  obtain⟨h',eH⟩:=gz h;subst eH;obtain⟨u,e,hu⟩:=lM hv;simp[Op.operands] at e;subst e;exact(aiZ hu h').op ay
 ·
  obtain⟨h',eH⟩:=gz h;subst eH;obtain⟨u,e,hu⟩:=lM hv;simp[Op.operands] at e;subst e;exact(Kz (lv:=none) (hv:=none) hu (λy h=>by cases h) (λ_=>rfl) (λy h=>by cases h) (λ_=>rfl) h').op ay
 ·obtain⟨h',eH⟩:=gz h;subst eH;obtain⟨u,v,e,hu,eE⟩:=sK hv;simp[Op.operands] at e;obtain⟨rfl,rfl⟩:=e;exact(Kz (lv:=some _) (hv:=none) hu (λy h=>by cases h;exact⟨_,rfl,eE⟩) (λh=>by cases h) (λy h=>by cases h) (λ_=>rfl) h').op ay
 ·obtain⟨h',eH⟩:=gz h;subst eH;obtain⟨u,v,e,hu,eE⟩:=sK hv;simp[Op.operands] at e;obtain⟨rfl,rfl⟩:=e;exact(Kz (lv:=none) (hv:=some _) hu (λy h=>by cases h) (λ_=>rfl) (λy h=>by cases h;exact⟨_,rfl,eE⟩) (λh=>by cases h) h').op ay
 ·obtain⟨h',eH⟩:=gz h;subst eH;obtain⟨u,v,x,e,hu,eE,ao⟩:=GR hv;simp[Op.operands] at e;obtain⟨rfl,rfl,rfl⟩:=e;exact(Kz (lv:=some _) (hv:=some _) hu (λy h=>by cases h;exact⟨_,rfl,eE⟩) (λh=>by cases h) (λy h=>by cases h;exact⟨_,rfl,ao⟩) (λh=>by cases h) h').op ay
 ·cases h
end
end Go.Xe
