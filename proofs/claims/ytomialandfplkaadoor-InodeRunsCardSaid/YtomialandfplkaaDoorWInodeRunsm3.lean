import Derived.Lib.TrailingZeros
import Derived.ChangeSlices
import Derived.WideShapes
import Derived.Test.YtomialandfplkaaDoorCards
import Derived.Test.YtomialandfplkaaDoorWInodeRunsm2
set_option linter.unusedSimpArgs false
set_option linter.unusedVariables false
set_option maxRecDepth 100000
set_option maxHeartbeats 400000
namespace Go.Xe
noncomputable section
inductive gf (P:Program) where
 |fn (y:cx P)
 |nat (x:X8 P)
 |cO (x:ca P)
def gf.e{P:Program}:gf P->MR P
 | .fn y=> .fn y.x
 | .nat x=> .nat x
 | .cO x=> .fn x
structure vD where
 call:ad
 dcall:nu
def aey(k:zQ)(args:List J)(h:U):ab:=match tD k args h.x0 with
 |some y=>some (.ret y,h)
 |none=>none
def qR(C:ad):bL:=λc args X=>match X.cK,X.pc with
 | [],[]=>(match C c args X.h with
   |some (o,h)=>some (o,h.b3 X.bs)
   |none=>none)
 |_,_=>none
def clean(X:ah):Bool:=match X.cK,X.pc,X.bs with
 | [],[],[]=>true
 |_,_,_=>false
def FA(r:Option (Out×ah)):ab:=match r with
 |some (o,X)=>bif clean X then some (o,X.h) else none
 |none=>none
section
variable{P:Program}
def NM(bc:vD)(a6:ca P)(lf f:Nat)(args:List J)(h:U):ab:=FA (QN ⟨qR bc.call,bc.dcall⟩ a6 lf f args h.x0)
def zm(bc:vD)(lf f:Nat)(args:List J)(h:U)(e:Option (gf P)):ab:=match e with
 |some (.fn y)=>bif Nat.beq y.x.f f then y.s bc.call lf args h else none
 |some (.nat x)=>bif Nat.beq x.f f then aey x.k args h else none
 |some (.cO x)=>bif Nat.beq x.f f then NM bc x lf f args h else none
 |none=>none
def runN(bc:vD)(lf f:Nat)(args:List J)(h:U)(e:Option (gf P)):ab:=match e with
 |some (.fn y)=>bif Nat.beq y.x.f f then y.s bc.call lf args h else none
 |some (.cO x)=>bif Nat.beq x.f f then NM bc x lf f args h else none
 |_=>none
def Fh(P:Program)(bc:vD)(lf k:Nat)(args:List J)(h:U):ab:=match h.aV.get k with
 |some o=>(match o.sp with
  | .loop _ _ ord me N F ps a c _=>FA (lU (yJ P (qR bc.call) ord me (some k) N lf) k N F ps a c args h.x0)
  |_=>none)
 |none=>none
def Hb(bc:vD)(a6:ca P)(lf f:Nat)(args:List J)(u:Mode)(X:ah):Option (Out×Mode×ah):=
 bif Nat.beq a6.f f&&Nat.ble args.length a6.fn.ntmps then rM P a6.fn X.bs (hU P a6.fn.ntmps (yJ P (qR bc.call) a6.ord a6.f none a6.fn.ntmps lf) (a6.fn.body.getD .skip) (ha .nil 0 args) {X with bs:=[]} u) else none
def ag0(bc:vD)(lf f:Nat)(args:List J)(u:Mode)(X:ah)(e:Option (gf P)):Option (Out×Mode×ah):=match e with
 |some (.fn y)=>Hb bc y.x lf f args u X
 |some (.cO x)=>Hb bc x lf f args u X
 |_=>none
def hB(tab:ax (gf P))(lf fuel:Nat):vD:=Nat.rec (motive:=λ_=>vD) ⟨λ_ _ _=>none,λ_ _ _ _=>none⟩ (λ_ bc=>{
 call:=λc args h=>match c with
  | .fn f=>zm bc lf f args h (m7 (path f) tab)
  | .iF f=>runN bc lf f args h (m7 (path f) tab)
  | .fw k=>Fh P bc lf k args h
 dcall:=λf args u X=>ag0 bc lf f args u X (m7 (path f) tab)}) fuel
def ax.map{α β:Type}(g:α->β):ax α->ax β
 | .nil=> .nil
 | .node v l r=> .node (v.map g) (l.map g) (r.map g)
theorem get_map{α β:Type}(g:α->β):∀(t:ax α) (i:Nat),(t.map g).get i=(t.get i).map g
 | .nil,i=>rfl
 | .node v l r,i=>by
   simp only[ax.map,ax.get];cases Nat.beq i 0 with
   |true=>rfl
   |false=>
    simp only[cond_false];cases Nat.beq (i%2) 1 with
    |true=>exact get_map g l _
    |false=>exact get_map g r _
theorem ah8{r:Option (Out×ah)}{o:Out}{h:U}(e:FA r=some (o,h)):r=some (o,h.x0):=by
 unfold FA at e;split at e<;>try(cases e;done)
 rename_i o X;cases ae:clean X with
 |false=>simp[ae] at e
 |true=>
  simp only[ae,cond_true,Option.some.injEq,Prod.mk.injEq] at e;obtain⟨rfl,rfl⟩:=e;obtain⟨aK,next,aV,cK,pc,bs⟩:=X;unfold clean at ae;split at ae<;>try(cases ae;done)
  rename_i h1 h2 h3;simp only at h1 h2 h3;subst h1 h2 h3;rfl
theorem aea{C:ad}{callf:bL}(fj:ly C callf):Ext (qR C) callf:=by
 intro c args X r h;obtain⟨aK,next,aV,cK,pc,bs⟩:=X;unfold qR at h;split at h<;>try(cases h;done)
 rename_i h1 h2;simp only at h1 h2;subst h1 h2;split at h<;>try(cases h;done)
 rename_i o h' he;cases h;exact fj _ _ _ _ _ he bs
theorem ant{e:l2}{a6:ca P}{lf f:Nat}{args:List J}{h h':U}{o:Out}(he:ih e a6 lf f args h.x0=some (o,h'.x0))(D:List eO):ih e a6 lf f args (h.b3 D)=some (o,h'.b3 D):=by
 unfold ih at he⊢;cases ag:(Nat.beq a6.f f&&Nat.ble args.length a6.fn.ntmps) with
 |false=>simp[ag] at he
 |true=>
  simp only[ag,cond_true] at he⊢;have az:({h.b3 D with bs:=[]}:ah)={h.x0 with bs:=[]}:=rfl;rw[az];generalize rN P e.dcall a6.fn (mA a6 e.call lf (a6.fn.body.getD .skip) (ha .nil 0 args) {h.x0 with bs:=[]})=r at he⊢;rcases r with _|⟨dN,X1⟩
  ·cases he
  ·simp only[w2,Option.some.injEq,Prod.mk.injEq] at he⊢;obtain⟨rfl,h2⟩:=he;refine⟨rfl,?_⟩;obtain⟨aK,next,aV,cK,pc,bs⟩:=X1;obtain⟨aq0,next',arf⟩:=h';simp only[U.x0,U.x,ah.mk.injEq] at h2;obtain⟨rfl,rfl,rfl,rfl,rfl,_⟩:=h2;rfl
theorem aAt{cO:Code->ax J->ah->R}{k N:Nat}{F:ax J}{ps:Array Tmp}{a c:Code}{args:List J}{h h':U}{o:Out}(he:lU cO k N F ps a c args h.x0=some (o,h'.x0))(D:List eO):lU cO k N F ps a c args (h.b3 D)=some (o,h'.b3 D):=by
 have fin:∀{X:ah} {st:LoopState} {p:Jump} {b:Bool},endRound [] X k st p b=some (o,h'.x0)->endRound D X k st p b=some (o,h'.b3 D):=by
  intro X st p b h1;unfold endRound at h1⊢;split at h1<;>try(cases h1;done)
  rename_i c4 h2;simp only[Option.some.injEq,Prod.mk.injEq] at h1⊢;obtain⟨rfl,h1⟩:=h1;refine⟨rfl,?_⟩;obtain⟨aK,next,aV,cK,pc,bs⟩:=c4;obtain⟨aq0,next',arf⟩:=h';simp only[U.x0,U.x,ah.mk.injEq] at h1;obtain⟨rfl,rfl,rfl,rfl,rfl,_⟩:=h1;rfl
 unfold lU at he⊢;cases ag:Nat.beq args.length ps.size with
 |false=>simp[ag] at he
 |true=>
  simp only[ag,cond_true] at he⊢;have az:({h.b3 D with bs:=[]}:ah)={h.x0 with bs:=[]}:=rfl;rw[az];split at he<;>try(cases he;done)
  rename_i aM X1 h1;simp only[h1];split at he<;>try(cases he;done)
  rename_i ob aq
  try simp only[aq]
  cases aI:isReady ob with
  |false=>simp[aI] at he
  |true=>
   simp only[aI,cond_true] at he⊢;split at he<;>try(cases he;done)
   rename_i c4 h2
   try simp only[h2]
   split at he<;>first|(cases he;done)|(rename_i h3;(try simp only[h3]);exact fin he)
theorem Wv(tab:ax (gf P))(lf:Nat):∀fuel,ly (hB tab lf fuel).call (iZ P (tab.map gf.e) lf fuel).call/\FZ (hB tab lf fuel).dcall (iZ P (tab.map gf.e) lf fuel).dcall
 |0=>⟨λc args h o h' e=>(by cases e),λ_ _ _ _ _ h=>(by cases h)⟩
 |fuel+1=>by
  obtain⟨bc,apC⟩:=Wv tab lf fuel
  have acU:∀(y:cx P) f args h o h',Nat.beq y.x.f f=true->y.s (hB tab lf fuel).call lf args h=some (o,h')->∀D,ih (iZ P (tab.map gf.e) lf fuel) y.x lf f args (h.b3 D)=some (o,h'.b3 D):=by
   intro y f args h o h' an al D;obtain⟨h1,h2⟩:=y.eq _ _ _ _ _ al;have an:=Nat.eq_of_beq_eq_true an;subst an;exact aiC bc y.x h1 h2 D
  have ju:∀(x:ca P) f args h o h',NM (hB tab lf fuel) x lf f args h=some (o,h')->∀D,ih (iZ P (tab.map gf.e) lf fuel) x lf f args (h.b3 D)=some (o,h'.b3 D):=by
   intro x f args h o h' al D;have h1:=ah8 al
   have ai:QN ⟨qR (hB tab lf fuel).call,(hB tab lf fuel).dcall⟩ x lf f args h.x0=ih ⟨qR (hB tab lf fuel).call,(hB tab lf fuel).dcall⟩ x lf f args h.x0:=by
    unfold QN ih mA;rw[QL]
   rw[ai] at h1;exact ant (anu (aea bc) apC h1) D
  have IK:∀ord me rd N,B3 (yJ P (qR (hB tab lf fuel).call) ord me rd N lf) (bY P (iZ P (tab.map gf.e) lf fuel).call ord me rd N lf (fR P (iZ P (tab.map gf.e) lf fuel).call ord me rd N lf lf)):=by
   intro ord me rd N;rw[QL];exact ZT (aea bc)
  refine⟨?_,?_⟩
  ·intro c args h o h' e D;cases c with
   |fn f=>
    have bg:zm (hB tab lf fuel) lf f args h (m7 (path f) tab)=some (o,h'):=e;rw[Db] at bg
    show(match (tab.map gf.e).get f with
     |some (.fn a6)=>ih (iZ P (tab.map gf.e) lf fuel) a6 lf f args (h.b3 D)
     |some (.nat l0)=>bif Nat.beq l0.f f then(match tD l0.k args (h.b3 D) with|some y=>some (.ret y,(h.b3 D))|none=>none) else none
     |none=>none)=_
    rw[get_map];cases aN:tab.get f with
    |none=>rw[aN] at bg;cases bg
    |some t=>
     rw[aN] at bg;cases t with
     |fn y=>
      simp only[zm] at bg;cases ag:Nat.beq y.x.f f with
      |false=>simp[ag] at bg
      |true=>simp only[ag,cond_true] at bg;exact acU y f _ _ _ _ ag bg D
     |cO x=>
      simp only[zm] at bg;cases ag:Nat.beq x.f f with
      |false=>simp[ag] at bg
      |true=>simp only[ag,cond_true] at bg;exact ju x f _ _ _ _ bg D
     |nat x=>
      simp only[zm] at bg;cases ag:Nat.beq x.f f with
      |false=>simp[ag] at bg
      |true=>
       simp only[ag,cond_true,aey] at bg;have aO:tD x.k args (h.b3 D)=tD x.k args h.x0:=rfl;simp only[Option.map_some,gf.e,ag,cond_true,aO];cases ar:tD x.k args h.x0 with
       |none=>simp[ar] at bg
       |some z=>simp only[ar,Option.some.injEq,Prod.mk.injEq] at bg⊢;obtain⟨rfl,rfl⟩:=bg;exact⟨rfl,rfl⟩
   |iF f=>
    have bg:runN (hB tab lf fuel) lf f args h (m7 (path f) tab)=some (o,h'):=e;rw[Db] at bg
    show(match (tab.map gf.e).get f with
     |some (.fn a6)=>ih (iZ P (tab.map gf.e) lf fuel) a6 lf f args (h.b3 D)
     |_=>none)=_
    rw[get_map];cases aN:tab.get f with
    |none=>rw[aN] at bg;cases bg
    |some t=>
     rw[aN] at bg;cases t with
     |fn y=>
      simp only[runN] at bg;cases ag:Nat.beq y.x.f f with
      |false=>simp[ag] at bg
      |true=>simp only[ag,cond_true] at bg;exact acU y f _ _ _ _ ag bg D
     |cO x=>
      simp only[runN] at bg;cases ag:Nat.beq x.f f with
      |false=>simp[ag] at bg
      |true=>simp only[ag,cond_true] at bg;exact ju x f _ _ _ _ bg D
     |nat x=>cases bg
   |fw k=>
    have bg:Fh P (hB tab lf fuel) lf k args h=some (o,h'):=e
    show(match h.aV.get k with
     |some o=>match o.sp with
      | .loop _ _ ord me N F ps a c _=>lU (bY P (iZ P (tab.map gf.e) lf fuel).call ord me (some k) N lf (fR P (iZ P (tab.map gf.e) lf fuel).call ord me (some k) N lf lf)) k N F ps a c args (h.b3 D)
      |_=>none
     |none=>none)=_
    unfold Fh at bg;split at bg<;>try(cases bg;done)
    rename_i ob aq;split at bg<;>try(cases bg;done)
    rename_i h1
    (try simp only[aq,h1])
    exact aAt (aAx (IK _ _ _ _) (ah8 bg)) D
  ·intro f args u X r h;have bg:ag0 (hB tab lf fuel) lf f args u X (m7 (path f) tab)=some r:=h;rw[Db] at bg
   show(match (tab.map gf.e).get f with
    |some (.fn a6)=>bif Nat.beq a6.f f&&Nat.ble args.length a6.fn.ntmps then rM P a6.fn X.bs (hU P a6.fn.ntmps (mA a6 (iZ P (tab.map gf.e) lf fuel).call lf) (a6.fn.body.getD .skip) (ha .nil 0 args) {X with bs:=[]} u) else none
    |_=>none)=_
   rw[get_map]
   have aH:∀a6:ca P,Hb (hB tab lf fuel) a6 lf f args u X=some r->(bif Nat.beq a6.f f&&Nat.ble args.length a6.fn.ntmps then rM P a6.fn X.bs (hU P a6.fn.ntmps (mA a6 (iZ P (tab.map gf.e) lf fuel).call lf) (a6.fn.body.getD .skip) (ha .nil 0 args) {X with bs:=[]} u) else none)=some r:=by
    intro a6 ck;unfold Hb at ck;cases ag:(Nat.beq a6.f f&&Nat.ble args.length a6.fn.ntmps) with
    |false=>simp[ag] at ck
    |true=>
     simp only[ag,cond_true] at ck⊢;cases ae:hU P a6.fn.ntmps (yJ P (qR (hB tab lf fuel).call) a6.ord a6.f none a6.fn.ntmps lf) (a6.fn.body.getD .skip) (ha .nil 0 args) {X with bs:=[]} u with
     |none=>rw[ae] at ck;cases ck
     |some q=>
      rw[ae] at ck
      have:=amE (IK a6.ord a6.f none a6.fn.ntmps) _ ae
      unfold mA;rw[this];exact ck
   cases aN:tab.get f with
   |none=>rw[aN] at bg;cases bg
   |some t=>
    rw[aN] at bg;cases t with
    |fn y=>exact aH _ bg
    |cO x=>exact aH _ bg
    |nat x=>cases bg
end
end
def Wz(r:ab):Bool:=match r with
 |some (.ret (.bool true),_)=>true
 |_=>false
structure pb where
 cn:Nat
 ty:TypeId
 n:Nat
 loose:Bool
 esz:Nat
 ro:Bool
 sp:pg
def bH.mt(o:bH):pb:=⟨o.cn,o.ty,o.n,o.loose,o.esz,o.ro,o.sp⟩
def U.cell(h:U)(k i:Nat):Option J:=match h.aV.get k with
 |some o=>o.get i
 |none=>none
def U.mt(h:U)(k:Nat):Option pb:=match h.aV.get k with
 |some o=>some o.mt
 |none=>none
def cQ(h h':U)(k:Nat):Prop:=h'.aV.get k=h.aV.get k
theorem cQ.cell{h h':U}{k:Nat}(e:cQ h h' k)(i:Nat):h'.cell k i=h.cell k i:=by unfold U.cell;rw[e]
theorem cQ.mt{h h':U}{k:Nat}(e:cQ h h' k):h'.mt k=h.mt k:=by unfold U.mt;rw[e]
def U.set(h:U)(k off:Nat)(ys:List J):U:=match h.aV.get k with
 |some o=>DZ h k (wC o off ys)
 |none=>h
theorem Qw(h:U)(k j:Nat)(o:bH):(DZ h k o).aV.get j=if j=k then some o else h.aV.get j:=by
 obtain⟨aK,next,⟨iS,base⟩⟩:=h;show cE.get (cE.put ⟨iS,base⟩ k o) j=_;exact cE.kG _ _ _ _
@[simp] theorem aFn(h:U)(k:Nat)(o:bH):(DZ h k o).next=h.next:=e1 rfl
@[simp] theorem aFo(h:U)(k:Nat)(o:bH):(DZ h k o).aK=h.aK:=e1 rfl
@[simp] theorem eb(h:U)(k off:Nat)(ys:List J):(h.set k off ys).next=h.next:=by unfold U.set;split<;>rfl
@[simp] theorem K4(h:U)(k off:Nat)(ys:List J):(h.set k off ys).aK=h.aK:=by unfold U.set;split<;>rfl
theorem iu(h:U){k j:Nat}(off:Nat)(ys:List J)(e:j≠k):(h.set k off ys).aV.get j=h.aV.get j:=by
 unfold U.set;split
 ·rw[Qw,if_neg e]
 ·rfl
theorem are(o:bH)(off:Nat)(ys:List J)(i:Nat):(wC o off ys).get i=if off<=i/\i<off+ys.length/\i<o.n then ys[i-off]? else o.get i:=by
 obtain⟨cn,ty,n,loose,esz,ro,mz,fy,sp⟩:=o;simp only[wC,force_eq,bH.get];cases ag:Nat.blt i n with
 |false=>
  have:¬i<n:=λh=>by rw[<- Nat.blt_eq,ag] at h;cases h
  rw[if_neg (by omega)];rfl
 |true=>
  have:i<n:=by rw[Nat.blt_eq] at ag;exact ag
  simp only[cond_true];rw[x5];by_cases hi:off<=i/\i<off+ys.length
  ·rw[if_pos hi,if_pos ⟨hi.1,hi.2,this⟩]
   have:i-off<ys.length:=by omega
   rw[List.getElem?_eq_getElem this]
  ·rw[if_neg hi,if_neg (by omega)]
theorem Y0(h:U)(k off:Nat)(ys:List J)(j i:Nat):(h.set k off ys).cell j i=if j=k/\off<=i/\i<off+ys.length/\(∃m,h.mt k=some m/\i<m.n) then ys[i-off]? else h.cell j i:=by
 by_cases aa:j=k
 ·subst aa;unfold U.set U.cell U.mt;cases aq:h.aV.get j with
  |none=>simp[aq]
  |some o=>
   simp only[Qw,if_true,are,aq]
   have:(∃m,some o.mt=some m/\i<m.n)↔i<o.n:=⟨λ⟨m,e,hm⟩=>by cases e;exact hm,λhm=>⟨_,rfl,hm⟩⟩
   simp only[this,true_and]
 ·rw[if_neg (λh=>aa h.1)];unfold U.cell;rw[iu _ _ _ aa]
def pb.up(m:pb):pb:={m with cn:=m.cn+1}
theorem Jl(h:U)(k off:Nat)(ys:List J)(j:Nat):(h.set k off ys).mt j=if j=k then(h.mt k).map pb.up else h.mt j:=by
 by_cases aa:j=k
 ·subst aa;rw[if_pos rfl];unfold U.set U.mt;cases aq:h.aV.get j with
  |none=>simp[aq]
  |some o=>
   simp only[Qw,if_true];obtain⟨cn,ty,n,loose,esz,ro,mz,fy,sp⟩:=o;simp only[wC,force_eq,bH.mt,pb.up,Option.map]
 ·rw[if_neg aa];unfold U.mt;rw[iu _ _ _ aa]
theorem qP(k off:Nat)(h:U):bZ (.ptr k off) h=h.cell k off:=e1 rfl
def U.cells(h:U)(k off:Nat):Nat->Option (List J)
 |0=>some []
 |n+1=>match h.cell k off with
  |some y=>(match h.cells k (off+1) n with|some ys=>some (y::ys)|none=>none)
  |none=>none
theorem Bj{h:U}{k:Nat}{o:bH}(aq:h.aV.get k=some o):∀n off,j4 o off n=h.cells k off n
 |0,off=>rfl
 |n+1,off=>by
  simp only[j4,U.cells,Bj aq n,U.cell,aq];cases o.get off with
  |none=>rfl
  |some y=>cases h.cells k (off+1) n<;>rfl
theorem n2{k off n:Nat}{h:U}{m:pb}(hm:h.mt k=some m):fu n (.ptr k off) h=(h.cells k off n).map .agg:=by
 unfold U.mt at hm;cases aq:h.aV.get k with
 |none=>simp[aq] at hm
 |some o=>
  simp only[fu,Je,aq,Bj aq];cases h.cells k off n<;>rfl
theorem lE{h:U}{k:Nat}:∀{n off:Nat} {ys:List J},ys.length=n->(∀i,i<n->h.cell k (off+i)=ys[i]?)->h.cells k off n=some ys
 |0,off,ys,aL,_=>by
  cases ys with
  |nil=>rfl
  |cons y ys=>simp at aL
 |n+1,off,ys,aL,ae=>by
  cases ys with
  |nil=>simp at aL
  |cons y ys=>
   have h0:=ae 0 (by omega);simp at h0
   have:=lE (h:=h) (k:=k) (n:=n) (off:=off+1) (ys:=ys) (by simpa using aL) (λi hi=>by
    have:=ae (i+1) (by omega)
    simpa[Nat.add_assoc,Nat.add_comm 1 i] using this)
   simp only[U.cells,h0,this]
def U.wr(h:U)(k n:Nat):Prop:=∃m,h.mt k=some m/\m.ro=false/\m.n=n
theorem hR{n k off N:Nat}{y:J}{h:U}(hw:h.wr k N)(aL:y.cells.length=n)(ag:off+n<=N)(aq:dZ y.cells=true):st n (.ptr k off) y h=some (h.set k off y.cells):=by
 obtain⟨m,hm,aI,aO⟩:=hw;unfold U.mt at hm;cases hM:h.aV.get k with
 |none=>simp[hM] at hm
 |some o=>
  simp only[hM,Option.some.injEq] at hm;subst hm;simp only[bH.mt] at aI aO;have h1:Nat.beq y.cells.length n=true:=by rw[aL];exact Nat.beq_refl n
  have h2:Nat.ble (off+n) o.n=true:=Nat.ble_eq_true_of_le (by omega);simp only[st,La,hM,WM,h1,h2,aI,aq,Bool.and_self,Bool.not_false,cond_true,U.set]
theorem eG{h:U}{k off j N:Nat}{ys:List J}(hw:h.wr j N):(h.set k off ys).wr j N:=by
 obtain⟨m,hm,aI,aO⟩:=hw;by_cases aa:j=k
 ·subst aa;exact⟨m.up,by rw[Jl,if_pos rfl,hm];rfl,aI,aO⟩
 ·exact⟨m,by rw[Jl,if_neg aa];exact hm,aI,aO⟩
theorem hh{h:U}{k off N:Nat}{ys:List J}(hw:h.wr k N)(ag:off+ys.length<=N){i:Nat}(hi:off<=i)(cF:i<off+ys.length):(h.set k off ys).cell k i=ys[i-off]?:=by
 obtain⟨m,hm,aI,aO⟩:=hw;rw[Y0,if_pos ⟨rfl,hi,cF,m,hm,by omega⟩]
theorem eH{h:U}{k off j i:Nat}{ys:List J}(hi:j≠k\/i<off\/off+ys.length<=i):(h.set k off ys).cell j i=h.cell j i:=by
 rw[Y0,if_neg];omega
def U.new(h:U)(o:bH):U:=⟨h.aK,h.next+1,h.aV.put h.next o⟩
theorem Bo(h:U)(o:bH)(j:Nat):(h.new o).aV.get j=if j=h.next then some o else h.aV.get j:=cE.kG _ _ _ _
theorem n4(h:U)(o:bH){j:Nat}(e:j≠h.next):(h.new o).aV.get j=h.aV.get j:=by rw[Bo,if_neg e]
theorem YZ(h:U)(o:bH)(j i:Nat):(h.new o).cell j i=if j=h.next then o.get i else h.cell j i:=by
 unfold U.cell;rw[Bo];by_cases e:j=h.next
 ·simp[e]
 ·simp[e]
theorem yX(h:U)(o:bH)(j:Nat):(h.new o).mt j=if j=h.next then some o.mt else h.mt j:=by
 unfold U.mt;rw[Bo];by_cases e:j=h.next
 ·simp[e]
 ·simp[e]
@[simp] theorem im(h:U)(o:bH):(h.new o).next=h.next+1:=e1 rfl
@[simp] theorem aFx(h:U)(o:bH):(h.new o).aK=h.aK:=e1 rfl
theorem wrap_i64{n:Int}(h1: -9223372036854775808<=n)(h2:n<9223372036854775808):IntKind.i64.wrap n=n:=by
 simp[IntKind.wrap,IntKind.signed,IntKind.bits];omega
theorem wrap_u64{n:Int}(h1:0<=n)(h2:n<18446744073709551616):IntKind.u64.wrap n=n:=by
 simp[IntKind.wrap,IntKind.signed,IntKind.bits];omega
theorem aez{k:IntKind}{n:Int}(h:0<=n):hX (.int k n)=some n.toNat:=by
 cases n with
 |ofNat m=>rfl
 |negSucc m=>exact absurd h (by omega)
section
variable{P:Program}{t:TypeId}{k:IntKind}{a b:Int}
theorem qg(op:BinOp):bin P op t (.int k a) (.int k b)=AX op k a k b:=by rw[ur];rfl
theorem pM:(k==k)=true:=by cases k<;>rfl
@[simp] theorem rH:bin P .add t (.int k a) (.int k b)=some (.int k (k.wrap (a+b))):=by
  rw[qg];show(bif k==k then arith .add k a b else none)=_;rw[pM];simp[arith,fD]
@[simp] theorem akC:bin P .sub t (.int k a) (.int k b)=some (.int k (k.wrap (a-b))):=by
  rw[qg];show(bif k==k then arith .sub k a b else none)=_;rw[pM];simp[arith,fD]
@[simp] theorem M6:bin P .mul t (.int k a) (.int k b)=some (.int k (k.wrap (a*b))):=by
  rw[qg];show(bif k==k then arith .mul k a b else none)=_;rw[pM];simp[arith,fD]
theorem lD(ag:b≠0):bin P .quo t (.int k a) (.int k b)=some (.int k (k.wrap (a.tdiv b))):=by
 rw[qg];show(bif k==k then arith .quo k a b else none)=_;rw[pM,cond_true];have h0:(b==0)=false:=(by simp[ag]);simp only[arith,h0,cond_false,fD]
theorem h6(ag:b≠0):bin P .rem t (.int k a) (.int k b)=some (.int k (a.tmod b)):=by
 rw[qg];show(bif k==k then arith .rem k a b else none)=_;rw[pM,cond_true];have h0:(b==0)=false:=(by simp[ag]);simp only[arith,h0,cond_false,fD]
@[simp] theorem M5:bin P .eql t (.int k a) (.int k b)=some (.bool (decide (a=b))):=by
  rw[qg];show(bif k==k then arith .eql k a b else none)=_;rw[pM];rfl
@[simp] theorem Ct:bin P .neq t (.int k a) (.int k b)=some (.bool (decide (a≠b))):=by
  rw[qg];show(bif k==k then arith .neq k a b else none)=_;rw[pM];simp[arith,bne];by_cases h:a=b<;>simp[h]
@[simp] theorem rI:bin P .lss t (.int k a) (.int k b)=some (.bool (decide (a<b))):=by
  rw[qg];show(bif k==k then arith .lss k a b else none)=_;rw[pM];rfl
@[simp] theorem akA:bin P .leq t (.int k a) (.int k b)=some (.bool (decide (a<=b))):=by
  rw[qg];show(bif k==k then arith .leq k a b else none)=_;rw[pM];rfl
@[simp] theorem z7:bin P .gtr t (.int k a) (.int k b)=some (.bool (decide (b<a))):=by
  rw[qg];show(bif k==k then arith .gtr k a b else none)=_;rw[pM];rfl
@[simp] theorem YJ:bin P .geq t (.int k a) (.int k b)=some (.bool (decide (b<=a))):=by
  rw[qg];show(bif k==k then arith .geq k a b else none)=_;rw[pM];rfl
theorem M7{e:TypeId}{k off:Nat}(hu:P.underlying t=some (.pointer e)):bin P .neq t (.ptr k off) (.val (.pointer none))=some (.bool true):=by
 rw[ur];show sY P .neq t _ _=_;simp[sY,uz,uy,hu]
theorem akz{e:TypeId}{k off:Nat}(hu:P.underlying t=some (.pointer e)):bin P .eql t (.ptr k off) (.val (.pointer none))=some (.bool false):=by
 rw[ur];show sY P .eql t _ _=_;simp[sY,uz,uy,hu]
theorem xD(op:BinOp):op= .and\/op= .or\/op= .xor\/op= .andNot->bin P op t (.int k a) (.int k b)=arith op k a b:=by
 intro h;rw[qg];rcases h with rfl|rfl|rfl|rfl<;>(show(bif k==k then arith _ k a b else none)=_;rw[pM];rfl)
end
@[simp] theorem aDa(b:Bool):h4 .not (.bool b)=some (.bool (!b)):=e1 rfl
@[simp] theorem Xt(a b:J):jB (.bool true) a b=some a:=e1 rfl
@[simp] theorem aEu(a b:J):jB (.bool false) a b=some b:=e1 rfl
@[simp] theorem u1(k off:Nat):ew (.ptr k off)=some (.ptr k off):=e1 rfl
@[simp] theorem uA(ov k off:Nat):b6 ov (.ptr k off)=some (.ptr k (off+ov)):=by simp[b6,force_eq]
theorem lP{n s k off:Nat}{kd:IntKind}{i:Int}(h0:0<=i)(h1:i<n):ev n s (.ptr k off) (.int kd i)=some (.ptr k (off+i.toNat*s)):=by
 have:Nat.blt i.toNat n=true:=by rw[Nat.blt_eq];omega
 simp[ev,aez h0,z4,this,force_eq]
theorem gV{s k off len lo:Nat}{cap:Option Nat}{kd:IntKind}{i:Int}(h0:0<=i)(h1:i<len):dS s (.aZ k off len cap lo) (.int kd i)=some (.ptr k (off+i.toNat*s)):=by
 have:Nat.blt i.toNat len=true:=by rw[Nat.blt_eq];omega
 simp[dS,aez h0,z4,this,force_eq]
@[simp] theorem pz(i:Nat)(vs:List J):ext i (.bm vs)=vs[i]?:=e1 rfl
@[simp] theorem amL(i:Nat)(vs:List J):Hn i (.agg vs)=vs[i]?:=e1 rfl
@[simp] theorem aES(want:Bool)(r:ab)(h:U):cX want (some (.bool want)) r h=r:=by cases want<;>rfl
@[simp] theorem ank(r:ab)(h:U):cX false (some (.bool true)) r h=some (.ret (.val undef),h):=e1 rfl
@[simp] theorem anm(r:ab)(h:U):cX true (some (.bool false)) r h=some (.ret (.val undef),h):=e1 rfl
@[simp] theorem anj(r:ab)(h:U):cX false (some (.bool false)) r h=r:=e1 rfl
@[simp] theorem Pn(r:ab)(h:U):cX true (some (.bool true)) r h=r:=e1 rfl
section
open Go.ChangeShapes Go.WideShapes Go.ChangeAt Go.RowKit
section
variable{P:Program}
theorem bP.grow{B:Nat}{aY w w':World}{X:ah}{E:Env}(h:bP P B aY X E w)(ag:RowKit.Below w.heap.size w w'):bP P B aY X E w':=by
 have h1:w'.os=w.os:=ag.os;have h2:w'.tape=w.tape:=ag.tape;have h3:w'.output=w.output:=ag.output;have aW:w.heap.size<=w'.heap.size:=ag.size;have bz:∀k,k<w.heap.size->w'.heap[k]?=w.heap[k]?:=ag.block;refine⟨h1.trans h.os,h2.trans h.tape,h3.trans h.output,Nat.le_trans h.base aW,λk ai=>(bz k (Nat.lt_of_lt_of_le ai h.base)).trans (h.gz k ai),λk o ai=>?_,h.inj,h.fresh,h.m8,h.j7⟩;obtain⟨id,c,az,aA,cj⟩:=h.obj k o ai
 have tj:id<w.heap.size:=by
  obtain⟨x,ar⟩:=aA.there;exact(Array.getElem?_eq_some_iff.1 ar).1
 exact⟨id,c,az,by rw[bz id tj];exact aA,cj⟩
theorem rl.mono{E aQ:Env}{f:FuncId}{argv:List Value}{w:World}{R X2:Ending->World->Prop}(aI:∀e w',R e w'->X2 e w')(h:rl P E (.fn f) argv w R):rl P aQ (.fn f) argv w X2:=by
 rcases h with⟨fn,h1,h2,h3,aW⟩|⟨v,w',h1,h2⟩
 ·exact .inl ⟨fn,h1,h2,h3,CallsIn.mono aW aI⟩
 ·exact .inr ⟨v,w',h1,aI _ _ h2⟩
def free:J->Bool
 | .val _| .int _ _| .bool _| .str _=>true
 |_=>false
theorem Den.free{E aQ:Env}{y:J}{v:Value}(an:free y=true)(h:Den E y v):Den aQ y v:=by
 cases y<;>first|exact h|cases an
theorem cg.free{E aQ:Env}:∀{ys:List J} {vs:List Value},ys.all Xe.free=true->cg E ys vs->cg aQ ys vs
 | [],_,_,h=>h
 |y::ys,vs,an,h=>by
  obtain⟨v,BV,h1,h2,rfl⟩:=h;simp only[List.all_cons,Bool.and_eq_true] at an;exact⟨v,BV,h1.free an.1,h2.free an.2,rfl⟩
structure o8 (P:Program) where
 f:FuncId
 g:List J->U->Option J
 ok:∀{args:List J} {X:ah} {y:J},g args X.h=some y->∀{B:Nat} {aY:World} {E:Env} {w:World} {argv:List Value},bP P B aY X E w->cg E args argv->rl P E (.fn f) argv w (sI P B aY E (.ret y) X)
 frame:∀{args:List J} {X:ah} {y:J} {m:Nat} {ob:bH},g args X.h=some y->c3 X m->g args (X.add m ob).h=some y
def xG:List (o8 P)->FuncId->Option (o8 P)
 | [],_=>none
 |q::agA,f=>bif Nat.beq q.f f then some q else xG agA f
theorem Zd:∀{cs:List (o8 P)} {f:FuncId} {q:o8 P},xG cs f=some q->q.f=f
 |q::agA,f,hA,h=>by
  simp only[xG] at h;cases ag:Nat.beq q.f f with
  |true=>simp only[ag,cond_true,Option.some.injEq] at h;subst h;exact Nat.eq_of_beq_eq_true ag
  |false=>simp only[ag,cond_false] at h;exact Zd h
def vL(cs:List (o8 P))(e:l2):l2 where
 call:=λc args X=>match c with
  | .fn f=>(match xG cs f with
    |some q=>(match q.g args X.h with
     |some y=>some (.ret y,X)
     |none=>none)
    |none=>e.call (.fn f) args X)
  |c=>e.call c args X
 dcall:=e.dcall
def sV(cs:List (o8 P))(C:ad):ad:=λc args h=>match c with
 | .fn f=>(match xG cs f with
   |some q=>(match q.g args h with
    |some y=>some (.ret y,h)
    |none=>none)
   |none=>C (.fn f) args h)
 |c=>C c args h
theorem alx{cs:List (o8 P)}{e:l2}(he:xf P e):xf P (vL cs e):=by
 refine⟨λc args X y af h aC=>?_,λc args X y af h=>?_,λc args X y af m ob h an=>?_,he.dcall,he.CE,he.Zz⟩
 ·cases c with
  |fn f=>
   simp only[vL] at h;split at h
   ·rename_i q a0;split at h
    ·rename_i z a1;cases h;refine⟨aC,λB aY E w argv aB aH=>?_⟩
     have:=q.ok a1 aB aH
     rw[Zd a0] at this;exact this
    ·cases h
   ·exact he.call _ _ _ _ _ h aC
  |iF f=>exact he.call _ _ _ _ _ h aC
  |fw k=>exact he.call _ _ _ _ _ h aC
 ·cases c with
  |fn f=>
   simp only[vL] at h;split at h
   ·split at h
    ·cases h;exact dh.refl _
    ·cases h
   ·exact he.keeps _ _ _ _ _ h
  |iF f=>exact he.keeps _ _ _ _ _ h
  |fw k=>exact he.keeps _ _ _ _ _ h
 ·cases c with
  |fn f=>
   simp only[vL] at h⊢;split at h
   ·rename_i q a0
    try simp only[a0]
    split at h
    ·rename_i z a1;cases h;rw[q.frame a1 an]
    ·cases h
   ·rename_i a0
    try simp only[a0]
    exact he.frame _ _ _ _ _ _ _ h an
  |iF f=>exact he.frame _ _ _ _ _ _ _ h an
  |fw k=>exact he.frame _ _ _ _ _ _ _ h an
theorem alz{cs:List (o8 P)}{C:ad}{e:l2}(h:ly C e.call):ly (sV cs C) (vL cs e).call:=by
 intro c args h' o fq ae D;cases c with
 |fn f=>
  simp only[sV] at ae;simp only[vL];split at ae
  ·rename_i q a0
   try simp only[a0]
   split at ae
   ·rename_i z a1;cases ae
    have:(h'.b3 D).h=h':=rfl
    rw[this,a1]
   ·cases ae
  ·exact h _ _ _ _ _ ae D
 |iF f=>exact h _ _ _ _ _ ae D
 |fw k=>exact h _ _ _ _ _ ae D
theorem Q9{o:bH}:∀{n off:Nat} {ys:List J},j4 o off n=some ys->∀i,i<ys.length->o.get (off+i)=ys[i]?
 |0,off,ys,h,i,hi=>by cases h;simp at hi
 |n+1,off,ys,h,i,hi=>by
  simp only[j4] at h;split at h<;>try(cases h;done)
  rename_i y bf;split at h<;>try(cases h;done)
  rename_i vk ft;cases h;cases i with
  |zero=>simpa using bf
  |succ i=>
   have:=Q9 ft i (by simpa using hi)
   rw[show off+(i+1)=off+1+i by omega,this];rfl
theorem alA{cs:List (o8 P)}{tab:ax (gf P)}{lf fuel:Nat}(hm:P.follows .mixedOrders=true){y:cx P}{args:List J}{argv:List Value}{h h':U}{o:Out}{w:World}{B:Nat}{aY:World}{E:Env}
 (bf:y.s (sV cs (hB tab lf fuel).call) lf args h=some (o,h'))(aB:bP P B aY (h.b3 []) E w)(aH:cg E args argv):rl P E (.iF y.x.f) argv w (sI P B aY E o (h'.b3 [])):=by
 have he:xf P (vL cs (iZ P (tab.map gf.e) lf fuel)):=alx (NL _ lf hm fuel);obtain⟨h1,h2⟩:=y.eq _ _ _ _ _ bf;have h3:=aiC (e:=vL cs (iZ P (tab.map gf.e) lf fuel)) (alz (Wv tab lf fuel).1) y.x h1 h2 [];exact Pt he hm h3 (λp aC=>by cases aC) B aY E w argv aB aH
theorem ak6{f:FuncId}{argv:List Value}{w:World}{E:Env}{h':U}(h:rl P E (.iF f) argv w (sI P w.heap.size w E (.ret (.bool true)) (h'.b3 []))):
 Calls P f argv.toArray w λe w'=>e= .returned (.bool true)/\RowKit.Below w.heap.size w w':=by
 obtain⟨_,_,_,_,rR⟩:=h;refine CallsIn.calls (CallsIn.mono rR ?_) (λk d h=>by cases h)
 rintro e w' ⟨aQ,_,eu,v,rfl,aH⟩
 cases aH;exact⟨rfl,eu.below⟩
def xL(k:IntKind):List J->List Int->Bool
 | [],[]=>true
 | .int b5 n::ys,z::zs=>(b5==k)&&(n==z)&&xL k ys zs
 |_,_=>false
theorem NI{k:IntKind}:∀{ys:List J} {zs:List Int},xL k ys zs=true->ys=zs.map (.int k)
 | [],[],_=>rfl
 | .int b5 n::ys,z::zs,h=>by
   simp only[xL,Bool.and_eq_true,beq_iff_eq] at h;obtain⟨⟨h1,h2⟩,h3⟩:=h
   have:b5=k:=by cases b5<;>cases k<;>first|rfl|(exact absurd h1 (by decide))
   subst this h2;rw[NI h3];rfl
 | [],_::_,h=>by cases h
 | .int _ _::_,[],h=>by cases h
def mc(g:Nat)(k:IntKind)(zs:List Int)(h:U):Bool:=Nat.blt g h.aK&&(match h.aV.get g with
 |some o=>(match o.sp with
  | .cells=>(match j4 o 0 zs.length with|some ys=>xL k ys zs|none=>false)
  |_=>false)
 |none=>false)
theorem aBA{g ty n:Nat}{k:IntKind}{zs:List Int}(h0:0<zs.length){X:ah}(aN:mc g k zs X.h=true){B:Nat}{aY w:World}{E:Env}(aB:bP P B aY X E w):Start (g+1) (Lj g ty n (zs.map (.int k))) w:=by
 unfold mc at aN;simp only[Bool.and_eq_true] at aN;obtain⟨bd,aN⟩:=aN;have bd:g<X.aK:=by rw[Nat.blt_eq] at bd;exact bd
 split at aN<;>try(cases aN;done)
 rename_i o aq;split at aN<;>try(cases aN;done)
 rename_i wi;split at aN<;>try(cases aN;done)
 rename_i ys ft;have QB:=NI aN;subst QB;obtain⟨c0,mf⟩:=aB.m8 g bd;obtain⟨id,c,az,aA,_⟩:=aB.obj g o aq;rw[mf] at az;cases az;rcases aA with⟨_,aog⟩|⟨al,_⟩
 ·obtain⟨cs,W2,lo,hi,hM,te,_⟩:=aog;refine aBB (λi hi=>?_) h0
  have:o.get i=some (.int k (zs.getD i 0)):=by
   have:=Q9 ft i (by simpa using hi)
   rw[Nat.zero_add] at this;rw[this];simp[List.getD,hi]
  obtain⟨v,h1,h2⟩:=te i _ this;have h2:v= .int k (zs.getD i 0):=h2;subst h2;simp[World.cell?,hM,h1]
 ·exact absurd wi (aBx al)
end
end
section
open Go.ChangeShapes Go.WideShapes Go.ChangeAt Go.RowKit
section
variable{P:Program}
def lift(aK:Nat):Value->J
 | .int k n=> .int k n
 | .bool b=> .bool b
 | .string s=> .str s
 | .pointer (some ⟨id,off,none⟩)=>bif Nat.blt id aK then .ptr id off else .val (.pointer (some ⟨id,off,none⟩))
 | .slice (some _) 0 0=> .kR 0
 | .slice (some ⟨id,off,none⟩) l c=>bif Nat.blt id aK then .aZ id off l (some c) 0 else .val (.slice (some ⟨id,off,none⟩) l c)
 |v=> .val v
def uU(aK:Nat):Value->J
 | .agg cs=> .agg (cs.toList.map (lift aK))
 |v=>lift aK v
def Fw(aK:Nat):Env:={f:=λk=>if k<aK then some (k,0) else none,n:=0}
theorem Nu(aK:Nat)(v:Value):Den (Fw aK) (lift aK v) v:=by
 unfold lift;split<;>try(simp[Den];done)
 ·rename_i id off;cases ag:Nat.blt id aK with
  |false=>simp[Den]
  |true=>exact⟨id,0,if_pos (by rw[Nat.blt_eq] at ag;exact ag),rfl⟩
 ·rename_i id off l c _;cases ag:Nat.blt id aK with
  |false=>simp[Den]
  |true=>exact⟨id,0,if_pos (by rw[Nat.blt_eq] at ag;exact ag),rfl⟩
theorem Zr(aK:Nat):∀l:List Value,cg (Fw aK) (l.map (lift aK)) l
 | []=>rfl
 |v::l=>⟨v,l,Nu aK v,Zr aK l,rfl⟩
theorem al2(aK:Nat)(v:Value):Den (Fw aK) (uU aK v) v:=by
 unfold uU;split
 ·rename_i cs;exact⟨cs.toList,Zr aK _,by simp⟩
 ·exact Nu aK _
theorem Zs(aK:Nat):∀l:List Value,cg (Fw aK) (l.map (uU aK)) l
 | []=>rfl
 |v::l=>⟨v,l,al2 aK v,Zs aK l,rfl⟩
def y7(aK:Nat)(cs:Array Value)(ty:TypeId):bH:={cn:=0,ty,n:=cs.size,loose:=false,esz:=1,ro:=true,mz:=λi=>(cs[i]?).map (lift aK),fy:= .nil,sp:= .cells}
def arh(w:World):cE:={iS:= .nil,base:=λk=>match w.heap[k]? with
 |some (.cells cs ty _)=>some (y7 w.heap.size cs ty)
 |_=>none}
def ht(w:World):U:=⟨w.heap.size,w.heap.size,arh w⟩
theorem aeO(aK:Nat)(cs:Array Value)(ty:TypeId)(i:Nat):(y7 aK cs ty).get i=(cs[i]?).map (lift aK):=by
 unfold y7 bH.get;simp only[ax.get];cases ag:Nat.blt i cs.size with
 |true=>rfl
 |false=>
  have:¬i<cs.size:=λh=>by rw[<- Nat.blt_eq,ag] at h;cases h
  simp[Array.getElem?_eq_none (by omega:cs.size<=i)]
theorem DX(w:World)(k:Nat):(ht w).aV.get k=match w.heap[k]? with
 |some (.cells cs ty _)=>some (y7 w.heap.size cs ty)
 |_=>none:=rfl
theorem Qu(w:World)(k i:Nat):(ht w).cell k i=(w.cell? ⟨k,i,none⟩).map (lift w.heap.size):=by
 unfold U.cell World.cell?;rw[DX];cases w.heap[k]? with
 |none=>rfl
 |some ob=>cases ob<;>first|rfl|(simp[aeO])
theorem IZ(w:World){k:Nat}(h:w.heap.size<=k):(ht w).aV.get k=none:=by
 rw[DX,Array.getElem?_eq_none h]
theorem amj(w:World):bP P w.heap.size w ((ht w).b3 []) (Fw w.heap.size) w:=by
 refine⟨rfl,rfl,rfl,Nat.le_refl _,λ_ _=>rfl,λk o ai=>?_,λk b5 o o' id c a3 ai cP he fF=>?_,λk ai=>?_,λg bd=>⟨0,if_pos bd⟩,Nat.zero_le _⟩
 ·have ai:(ht w).aV.get k=some o:=ai
  have ba:k<w.heap.size:=by
   apply Nat.lt_of_not_le;intro h;rw[IZ w h] at ai;cases ai
  rw[DX] at ai;split at ai<;>try(cases ai;done)
  rename_i cs ty C9 hM;cases ai;refine⟨k,0,if_pos ba,.inl ⟨rfl,cs,ty,C9.1,C9.2,hM,λj y aa=>?_,λh=>by cases h⟩,λh=>?_⟩
  ·rw[aeO] at aa;cases ae:cs[j]? with
   |none=>simp[ae] at aa
   |some v=>
    simp only[ae,Option.map_some,Option.some.injEq] at aa;subst aa;exact⟨v,rfl,Nu _ v⟩
  ·rcases h with h|h
   ·cases h
   ·exact absurd rfl h
 ·have ba:∀{k o},(ht w).aV.get k=some o->k<w.heap.size:=by
   intro k o h;apply Nat.lt_of_not_le;intro h';rw[IZ w h'] at h;cases h
  have he:=(if_pos (ba ai)).symm.trans he;have fF:=(if_pos (ba cP)).symm.trans fF;cases he;cases fF;rfl
 ·have cP:w.heap.size<=k:=ai;exact if_neg (by omega)
theorem aqe{cs:List (o8 P)}{tab:ax (gf P)}{lf fuel:Nat}(hm:P.follows .mixedOrders=true){y:cx P}{argv:List Value}{w:World}{h':U}
 (bf:y.s (sV cs (hB tab lf fuel).call) lf (argv.map (uU w.heap.size)) (ht w)=some (.ret (.bool true),h')):
 Calls P y.x.f argv.toArray w λe w'=>e= .returned (.bool true)/\RowKit.Below w.heap.size w w':=
 ak6 (alA hm bf (amj w) (Zs _ _))
theorem ala{h:U}{g:Nat}{k:IntKind}{zs:List Int}{o:bH}(aq:h.aV.get g=some o)(a1:∀i,i<zs.length->h.cell g i=some (.int k (zs.getD i 0))):j4 o 0 zs.length=some (zs.map (.int k)):=by
 rw[Bj aq];refine lE (by simp) λi hi=>?_
 rw[Nat.zero_add,a1 i hi];simp[List.getD,hi]
theorem ZO(k:IntKind):∀zs:List Int,xL k (zs.map (.int k)) zs=true
 | []=>rfl
 |z::zs=>by simp[xL,ZO k zs]
theorem an4{w:World}{g:Nat}{k:IntKind}{zs:List Int}(h0:0<zs.length)(h:∀i,i<zs.length->w.cell? ⟨g,i,none⟩=some (.int k (zs.getD i 0))):mc g k zs (ht w)=true:=by
 have ck:=h 0 h0;unfold World.cell? at ck;split at ck<;>try(cases ck;done)
 rename_i cs ty C9 hM;have ba:g<w.heap.size:=(Array.getElem?_eq_some_iff.1 hM).1;have aq:(ht w).aV.get g=some (y7 w.heap.size cs ty):=by rw[DX];simp only at hM;rw[hM]
 have ag:Nat.blt g (ht w).aK=true:=by rw[Nat.blt_eq];exact ba
 have aL:=ala (h:=ht w) (k:=k) (zs:=zs) aq (λi hi=>by rw[Qu,h i hi];rfl);unfold mc;simp only[ag,aq,Bool.true_and];show(match j4 (y7 w.heap.size cs ty) 0 zs.length with|some ys=>xL k ys zs|none=>false)=true;rw[aL];exact ZO k zs
def aly{tab:ax (gf P)}{lf fuel:Nat}(hm:P.follows .mixedOrders=true)(g0 ty n:Nat)(k:IntKind)(zs:List Int)(h0:0<zs.length)(f:FuncId)(g:List J->Option J)
    (Dx:∀args y,g args=some y->args.all free=true/\free y=true)
    (fx:∀args y,g args=some y->∃h',(hB tab lf fuel).call (.fn f) args ⟨g0+1,g0+1,Lj g0 ty n (zs.map (.int k))⟩=some (.ret y,h')):o8 P where
 f:=f
 g:=λargs h=>bif mc g0 k zs h then g args else none
 ok:=by
  intro args X y bd B aY E w argv aB aH;cases aN:mc g0 k zs X.h with
  |false=>simp[aN] at bd
  |true=>
   simp only[aN,cond_true] at bd;obtain⟨oI,k7⟩:=Dx _ _ bd;obtain⟨h',aI⟩:=fx _ _ bd;have dv:=aBA (ty:=ty) (n:=n) h0 aN aB;have al:=(Wv tab lf fuel).1 _ _ _ _ _ aI [];obtain⟨_,kk⟩:=(NL (tab.map gf.e) lf hm fuel).call _ _ _ _ _ al (λp aC=>by cases aC);have rR:=kk _ _ _ _ _ (amk dv) (aH.free oI);refine rl.mono ?_ rR
   rintro e w' ⟨aQ,_,eu,v,rfl,hv⟩
   exact⟨E,cM.refl E,aB.grow eu.below,v,rfl,hv.free k7⟩
 frame:=by
  intro args X y m ob bd an;cases aN:mc g0 k zs X.h with
  |false=>simp[aN] at bd
  |true=>
   have:mc g0 k zs (X.add m ob).h=true:=by
    unfold mc at aN⊢;simp only[Bool.and_eq_true] at aN⊢;refine⟨aN.1,?_⟩
    have b4:g0≠m:=λe=>by
     have h2:=aN.2;have yg:X.h.aV.get m=none:=an.dead;rw[e,yg] at h2;cases h2
    have az:(X.add m ob).h.aV.get g0=X.h.aV.get g0:=by
     show(X.aV.put m ob).get g0=X.aV.get g0;rw[cE.kG,if_neg b4]
    rw[az];exact aN.2
   simp only[aN,cond_true] at bd;simp only[this,cond_true];exact bd
end
end
theorem uY(a:Nat):BitVec.ofInt 64 (a:Int)=BitVec.ofNat 64 a:=by
 apply BitVec.eq_of_toNat_eq;simp
theorem z9:IntKind.u64.bits=64:=rfl
theorem FJ{a:Nat}(h:a<2 ^ 64):IntKind.u64.wrap (a:Int)=a:=wrap_u64 (by omega) (by omega)
theorem ajW{a b:Nat}(b1:a<2 ^ 64)(ag:b<2 ^ 64):arith .and .u64 (a:Int) (b:Int)=some (.int .u64 ((a&&& b:Nat):Int)):=by
 have h1:((BitVec.ofInt IntKind.u64.bits (a:Int)&&& BitVec.ofInt IntKind.u64.bits (b:Int)).toNat)=a&&& b:=by
  rw[z9,uY,uY,BitVec.toNat_and,BitVec.toNat_ofNat,BitVec.toNat_ofNat,Nat.mod_eq_of_lt b1,Nat.mod_eq_of_lt ag]
 have h2:a&&& b<2 ^ 64:=Nat.and_lt_two_pow _ ag;simp only[arith,fD,h1,FJ h2]
theorem arC{a b:Nat}(b1:a<2 ^ 64)(ag:b<2 ^ 64):arith .or .u64 (a:Int) (b:Int)=some (.int .u64 ((a|||b:Nat):Int)):=by
 have h1:((BitVec.ofInt IntKind.u64.bits (a:Int)|||BitVec.ofInt IntKind.u64.bits (b:Int)).toNat)=a|||b:=by
  rw[z9,uY,uY,BitVec.toNat_or,BitVec.toNat_ofNat,BitVec.toNat_ofNat,Nat.mod_eq_of_lt b1,Nat.mod_eq_of_lt ag]
 have h2:a|||b<2 ^ 64:=Nat.or_lt_two_pow b1 ag
 simp only[arith,fD,h1,FJ h2]
theorem aDD{a b:Nat}(b1:a<2 ^ 64)(ag:b<2 ^ 64):arith .xor .u64 (a:Int) (b:Int)=some (.int .u64 ((a ^^^ b:Nat):Int)):=by
 have h1:((BitVec.ofInt IntKind.u64.bits (a:Int) ^^^ BitVec.ofInt IntKind.u64.bits (b:Int)).toNat)=a ^^^ b:=by
  rw[z9,uY,uY,BitVec.toNat_xor,BitVec.toNat_ofNat,BitVec.toNat_ofNat,Nat.mod_eq_of_lt b1,Nat.mod_eq_of_lt ag]
 have h2:a ^^^ b<2 ^ 64:=Nat.xor_lt_two_pow b1 ag;simp only[arith,fD,h1,FJ h2]
theorem ajV{a b:Nat}(b1:a<2 ^ 64)(ag:b<2 ^ 64):arith .andNot .u64 (a:Int) (b:Int)=some (.int .u64 ((a&&& (2 ^ 64-1-b):Nat):Int)):=by
 have h1:((BitVec.ofInt IntKind.u64.bits (a:Int)&&& ~~~ BitVec.ofInt IntKind.u64.bits (b:Int)).toNat)=a&&& (2 ^ 64-1-b):=by
  rw[z9,uY,uY,BitVec.toNat_and,BitVec.toNat_not,BitVec.toNat_ofNat,BitVec.toNat_ofNat,Nat.mod_eq_of_lt b1,Nat.mod_eq_of_lt ag]
 have h2:a&&& (2 ^ 64-1-b)<2 ^ 64:=Nat.and_lt_two_pow _ (by omega);simp only[arith,fD,h1,FJ h2]
theorem aeK{a:Nat}(b1:a<2 ^ 64):h4 .xor (.int .u64 (a:Int))=some (.int .u64 ((2 ^ 64-1-a:Nat):Int)):=by
 have e:h4 .xor (.int .u64 (a:Int))=arith .xor .u64 ((2 ^ 64-1:Nat):Int) (a:Int):=rfl;rw[e,aDD (by omega) b1];congr 3;apply Nat.eq_of_testBit_eq;intro i;rw[Nat.testBit_xor,Nat.testBit_two_pow_sub_one,show 2 ^ 64-1-a=2 ^ 64-(a+1) by omega,Nat.testBit_two_pow_sub_succ b1];by_cases hi:i<64
 ·simp[hi]
 ·have:a.testBit i=false:=Nat.testBit_lt_two_pow (Nat.lt_of_lt_of_le b1 (Nat.pow_le_pow_right (by omega) (by omega)))
  simp[hi,this]
theorem Lk{a:Nat}(b1:a<2 ^ 64)(i:Nat):(2 ^ 64-1-a).testBit i=(decide (i<64)&&!a.testBit i):=by
 rw[show 2 ^ 64-1-a=2 ^ 64-(a+1) by omega,Nat.testBit_two_pow_sub_succ b1]
section
variable{P:Program}{t:TypeId}
theorem M4{a b:Nat}(b1:a<2 ^ 64)(ag:b<2 ^ 64):bin P .and t (.int .u64 (a:Int)) (.int .u64 (b:Int))=some (.int .u64 ((a&&& b:Nat):Int)):=by
 rw[xD .and (.inl rfl),ajW b1 ag]
theorem akB{a b:Nat}(b1:a<2 ^ 64)(ag:b<2 ^ 64):bin P .or t (.int .u64 (a:Int)) (.int .u64 (b:Int))=some (.int .u64 ((a|||b:Nat):Int)):=by
 rw[xD .or (.inr (.inl rfl)),arC b1 ag]
theorem akw{a b:Nat}(b1:a<2 ^ 64)(ag:b<2 ^ 64):bin P .andNot t (.int .u64 (a:Int)) (.int .u64 (b:Int))=some (.int .u64 ((a&&& (2 ^ 64-1-b):Nat):Int)):=by
 rw[xD .andNot (.inr (.inr (.inr rfl))),ajV b1 ag]
theorem M8{k:IntKind}{a b:Nat}(ag:b<64):bin P .shr t (.int .u64 (a:Int)) (.int k (b:Int))=some (.int .u64 ((a/2 ^ b:Nat):Int)):=by
 have e:bin P .shr t (.int .u64 (a:Int)) (.int k (b:Int))=wU .shr .u64 (a:Int) (b:Int):=by rw[ur];rfl
 rw[e];have h1:decide ((b:Int)<0)=false:=decide_eq_false (by omega);have h2:min (b:Int).toNat IntKind.u64.bits=b:=by rw[z9];simp;omega
 simp only[wU,h1,cond_false,fD,h2];congr 2;have h3:(2:Int) ^ b=((2 ^ b:Nat):Int):=by simp
 rw[h3,Int.fdiv_eq_ediv_of_nonneg _ (Int.natCast_nonneg _)];rfl
theorem YL{k:IntKind}{b:Nat}(ag:b<64):bin P .shl t (.int .u64 1) (.int k (b:Int))=some (.int .u64 ((2 ^ b:Nat):Int)):=by
 have e:bin P .shl t (.int .u64 1) (.int k (b:Int))=wU .shl .u64 1 (b:Int):=by rw[ur];rfl
 rw[e];have h1:decide ((b:Int)<0)=false:=decide_eq_false (by omega);have h2:min (b:Int).toNat IntKind.u64.bits=b:=by rw[z9];simp;omega
 simp only[wU,h1,cond_false,fD,h2];congr 2;rw[Int.one_mul];have h3:(2:Int) ^ b=((2 ^ b:Nat):Int):=by simp
 have aW:2 ^ b<2 ^ 64:=Nat.pow_lt_pow_right (by omega) ag;rw[h3,FJ aW]
end
theorem aqP{x:Nat}(h0:x≠0)(ar:x<2 ^ 64):h4 .neg (.int .u64 (x:Int))=some (.int .u64 ((2 ^ 64-x:Nat):Int)):=by
 show arith .sub .u64 0 (x:Int)=_;simp only[arith,fD];congr 2;simp[IntKind.wrap,IntKind.signed,IntKind.bits];omega
theorem aDu(a:Nat):IntKind.u64.wrap (a:Int)=((a%18446744073709551616:Nat):Int):=by
 simp[IntKind.wrap,IntKind.signed,IntKind.bits]
theorem aqE(a:Nat):IntKind.u64.wrap ((a:Int)*285870213051353865)=((a*285870213051353865%18446744073709551616:Nat):Int):=by
 rw[<- aDu];congr 1
theorem akE{a b:Nat}:(((a/2 ^ b)&&& 1:Nat)=1)↔a.testBit b=true:=by
 rw[Nat.testBit,Nat.shiftRight_eq_div_pow,Nat.and_comm 1]
 have:a/2 ^ b&&& 1=a/2 ^ b%2:=Nat.and_one_is_mod _
 rw[this];have h2:=Nat.mod_two_eq_zero_or_one (a/2 ^ b);rcases h2 with h|h<;>simp[h]
end Go.Xe
namespace Go.Proofs.YtomialandfplkaaDoor.Eva
open Go.Xe
theorem cL{a b:Int}(h: -9223372036854775808<=a/\a<9223372036854775808/\a=b):IntKind.i64.wrap a=b:=by
 rw[wrap_i64 h.1 h.2.1];exact h.2.2
theorem br{p:Prop} [Decidable p](h:¬p):decide p=false:=decide_eq_false h
theorem bu{p:Prop} [Decidable p](h:p):decide p=true:=decide_eq_true h
theorem dK(f:Nat)(h:0<f):∃g,f=g+1:=⟨f-1,by omega⟩
abbrev XN:Prop:=(∀n,bG n=some (.int .i64 n))/\(∀i x h k,eJ i x h k=ob (b6 i x) λc=>ob (bZ c h) k)/\(∀i x k,fU i x k=ob x λa=>ob (ew a) λb=>ob (b6 i b) k)/\
 (∀i x h k,dE i x h k=ob x λa=>ob (ew a) λb=>ob (b6 i b) λc=>ob (bZ c h) k)/\(∀i x v h k,arc i x v h k=ob x λa=>ob (ew a) λb=>ob (b6 i b) λc=>ob (st 1 c v h) k)/\
 (∀o t x y k,cl o t x y k=ob (bin aw o t x y) k)/\(∀o t x v k,cC o t x v k=ob x λa=>ob (bin aw o t a v) k)/\(∀o t x y k,n5 o t x y k=ob x λa=>ob y λb=>ob (bin aw o t a b) k)/\
 (∀o t x y p q,eF o t x y p q=ob (bin aw o t x y) λz=>fY z p q)/\(∀o t x v p q,gJ o t x v p q=ob x λa=>ob (bin aw o t a v) λz=>fY z p q)/\
 (∀o t x y p q,mr o t x y p q=ob x λa=>ob y λb=>ob (bin aw o t a b) λz=>fY z p q)/\(∀y p q,gj y p q=ob (h4 .not y) λz=>fY z p q)/\
 (∀s v x k,lR s v x k=ob x λa=>ob (dS s v a) k)/\(∀s i v x h k,Jq s i v x h k=ob x λa=>ob (dS s v a) λb=>ob (b6 i b) λc=>ob (bZ c h) k)/\(∀s v x h k,tH s v x h k=ob x λa=>ob (dS s v a) λb=>ob (bZ b h) k)/\
 (∀t x k,ni t x k=ob x λa=>ob (eE aw t a) k)/\(∀y k,df y k=ob (ext 0 y) λa=>ob (ext 1 y) λb=>k a b)/\
 (∀y e h k,b8 y e h k=dV (cX true (some y) (ob e λa=>some (.ret a,h)) h) k)/\(∀y e h k,dQ y e h k=dV (cX false (some y) (ob e λa=>some (.ret a,h)) h) k)/\
 (∀o t y x v h k,jc o t y x v h k=b8 y x h λa h=>b8 y (bin aw o t a v) h k)/\(∀o t y x v h k,jr o t y x v h k=dQ y x h λa h=>dQ y (bin aw o t a v) h k)/\
 (∀i y x h k,uD i y x h k=b8 y x h λa h=>b8 y (ew a) h λb h=>b8 y (b6 i b) h λc h=>b8 y (bZ c h) h k)/\(∀i y x h k,aci i y x h k=dQ y x h λa h=>dQ y (ew a) h λb h=>dQ y (b6 i b) h λc h=>dQ y (bZ c h) h k)/\
 (∀y z k,hz y z k=ob (jB y z (.bool false)) k)/\(∀y z k,ml y z k=ob (jB y (.bool true) z) k)/\(∀y z p q,p4 y z p q=ob (jB y z (.bool false)) λc=>fY c p q)/\(∀y z p q,nn y z p q=ob (jB y (.bool true) z) λc=>fY c p q)/\
 (∀i a k,eg i a k=ob (ew a) λb=>ob (b6 i b) k)/\(∀i a h k,tG i a h k=ob (ew a) λb=>ob (b6 i b) λc=>ob (bZ c h) k)/\(∀i a v h k,uX i a v h k=ob (ew a) λb=>ob (b6 i b) λc=>ob (st 1 c v h) k)/\
 (∀t a k,kM t a k=ob (eE aw t a) k)/\(∀o t v x k,y6 o t v x k=ob x λa=>ob (bin aw o t v a) k)/\(∀o t v x p q,ahI o t v x p q=ob x λa=>ob (bin aw o t v a) λz=>fY z p q)/\(∀C n l h k,cS C n l h k=dV (C (.fn n) l h) k)/\
 (∀C n x h k,aS C n x h k=ob x λa=>dV (C (.fn n) [a] h) k)/\(∀C n x y h k,a2 C n x y h k=ob x λa=>ob y λb=>dV (C (.fn n) [a,b] h) k)/\
 (∀C n x y z h k,cr C n x y z h k=ob x λa=>ob y λb=>ob z λc=>dV (C (.fn n) [a,b,c] h) k)/\(∀C n x y z u h k,ct C n x y z u h k=ob x λa=>ob y λb=>ob z λc=>ob u λd=>dV (C (.fn n) [a,b,c,d] h) k)
theorem ch:XN:=by
 refine⟨?_,?_,?_,?_,?_,?_,?_,?_,?_,?_,?_,?_,?_,?_,?_,?_,?_,?_,?_,?_,?_,?_,?_,?_,?_,?_,?_,?_,?_,?_,?_,?_,?_,?_,?_,?_,?_,?_⟩<;>intros<;>rfl
theorem aE:(∀{α:Type} (x:α) (k:α->ab),ob (some x) k=k x)/\(∀(y:J) (h:U) (k:J->U->ab),b2 (some (y,h)) k=k y h)/\(∀(y:J) (h:U) (k:J->U->ab),dV (some (.ret y,h)) k=k y h)/\(∀(y:J) (h:U) (k:J->U->ab),cR (some (.ret y,h)) k=k y h)/\
 (∀(r:ab) (h:U),cX true (some (.bool true)) r h=r)/\(∀(r:ab) (h:U),cX false (some (.bool false)) r h=r)/\(∀(r:ab) (h:U),cX true (some (.bool false)) r h=some (.ret (.val undef),h))/\(∀(r:ab) (h:U),cX false (some (.bool true)) r h=some (.ret (.val undef),h))/\
 (∀a b:J,jB (.bool true) a b=some a)/\(∀a b:J,jB (.bool false) a b=some b)/\(∀a b:ab,fY (.bool true) a b=a)/\(∀a b:ab,fY (.bool false) a b=b)/\(∀k off:Nat,ew (.ptr k off)=some (.ptr k off))/\(∀ov k off:Nat,b6 ov (.ptr k off)=some (.ptr k (off+ov)))/\
 (∀(k off:Nat) (h:U),bZ (.ptr k off) h=h.cell k off)/\(∀(i:Nat) (vs:List J),ext i (.bm vs)=vs[i]?)/\(∀(i:Nat) (vs:List J),Hn i (.agg vs)=vs[i]?)/\(∀b:Bool,h4 .not (.bool b)=some (.bool (!b)))/\
 (∀{P:Program} {t:TypeId} {k:IntKind} {a b:Int},bin P .add t (.int k a) (.int k b)=some (.int k (k.wrap (a+b))))/\(∀{P:Program} {t:TypeId} {k:IntKind} {a b:Int},bin P .sub t (.int k a) (.int k b)=some (.int k (k.wrap (a-b))))/\(∀{P:Program} {t:TypeId} {k:IntKind} {a b:Int},bin P .mul t (.int k a) (.int k b)=some (.int k (k.wrap (a*b))))/\
 (∀{P:Program} {t:TypeId} {k:IntKind} {a b:Int},bin P .eql t (.int k a) (.int k b)=some (.bool (decide (a=b))))/\(∀{P:Program} {t:TypeId} {k:IntKind} {a b:Int},bin P .neq t (.int k a) (.int k b)=some (.bool (decide (a≠b))))/\(∀{P:Program} {t:TypeId} {k:IntKind} {a b:Int},bin P .lss t (.int k a) (.int k b)=some (.bool (decide (a<b))))/\
 (∀{P:Program} {t:TypeId} {k:IntKind} {a b:Int},bin P .leq t (.int k a) (.int k b)=some (.bool (decide (a<=b))))/\(∀{P:Program} {t:TypeId} {k:IntKind} {a b:Int},bin P .gtr t (.int k a) (.int k b)=some (.bool (decide (b<a))))/\(∀{P:Program} {t:TypeId} {k:IntKind} {a b:Int},bin P .geq t (.int k a) (.int k b)=some (.bool (decide (b<=a))))/\
 (∀n:Nat,0+n=n)/\(∀n:Nat,n*1=n)/\XN:=
 ⟨cd,rF,kh,YH,Pn,anj,anm,ank,Xt,aEu,rh,o6,u1,uA,qP,pz,amL,aDa,rH,akC,M6,M5,Ct,rI,akA,z7,YJ,Nat.zero_add,Nat.mul_one,ch⟩
def hr(h:U):Prop:=0<h.aK/\∀i,i<64->h.cell 0 i=some (.int .u8 (Lib.deBruijn64tab.getD i 0:Nat))
theorem aC7{h:U}{j z:Nat}(r:ay)(aN:hr h)(h3:j<64)(aW:Lib.deBruijn64tab.getD j 0=z)(bz:z<64):
 (De h.aK 0 λsN=>ob (ev 64 1 sN (.int .u64 (j:Int))) λXj=>ob (bZ Xj h) λLB=>ob (xH .i64 LB) λFM=>r (some FM) h)=r (some (I (z:Int))) h:=by
 have bd:Nat.blt 0 h.aK=true:=by rw[Nat.blt_eq];exact aN.1
 have eD:=aN.2 _ h3;rw[aW] at eD;have b7:=lP (n:=64) (s:=1) (k:=0) (off:=0) (kd:= .u64) (i:=(j:Int)) (by omega) (by omega);simp only[De,bd,cond_true,b7,cd,qP,Int.toNat_natCast,Nat.zero_add,Nat.mul_one,eD,xH,fD];rw[wrap_i64 (by omega) (by omega)]
theorem aC6{C:ad}{lf x:Nat}{h:U}(ar:x<2 ^ 64)(aN:hr h):H0 C lf (.int .u64 (x:Int)) h=some (.ret (I (Lib.ctz 64 x:Nat)),h):=by
 unfold H0 Ul Ow;simp only[ch,cd,M5];by_cases h0:x=0
 ·subst h0;simp[Lib.ctz]
 ·have rP:decide ((x:Int)=0)=false:=br (by omega);obtain⟨h1,h2⟩:=Lib.lowest_bit 64 x h0 ar;obtain⟨h3,aW⟩:=Lib.deBruijn64_at _ h2;have ba:2 ^ 64-x<2 ^ 64:=by omega
  rw[rP,o6];simp only[ch,aqP h0 ar,cd,M4 ar ba,h1,M6,aqE];have al:=M8 (P:=aw) (t:=55) (k:= .u64) (a:=2 ^ Lib.ctz 64 x*285870213051353865%18446744073709551616) (b:=58) (by omega);have aH:(2:Nat) ^ 58=288230376151711744:=by decide
  rw[aH] at al;generalize 2 ^ Lib.ctz 64 x*285870213051353865%18446744073709551616=m at *;have DP:bin aw .shr 55 (.int .u64 (m:Int)) (.int .u64 58)=some (.int .u64 ((m/288230376151711744:Nat):Int)):=al;rw[DP];generalize m/288230376151711744=j at *;rw[cd];exact aC7 (λx h=>ob x λaj=>some (.ret aj,h)) aN h3 aW h2
structure en (h:U) (k c5 n:Nat) (wd b:Nat->Nat):Prop where
 cH:1<=n
 cA:n<=4096
 ef:h.cell k 0=some (I (n:Int))
 uw:∀i,i<64->h.cell k (1+i)=some (.int .u64 (wd i:Int))
 iU:∀i,wd i<2 ^ 64
 out:∀i c,i<64->c<64->n<=64*i+c->(wd i).testBit c=false
 cs:∃cap,h.cell k 65=some (.aZ c5 0 n cap 0)
 re:h.wr k 66
 va:h.wr c5 (n*64)
 xF:∀j,j<n*64->h.cell c5 j=some (.int .u8 (b j:Int))
 blt:∀j,b j<256
 ne:k≠c5
 wy:k<h.next
 wv:c5<h.next
def bQ(wd:Nat->Nat)(i:Nat):Bool:=(wd (i/64)).testBit (i%64)
section
variable{lf m:Nat}{h:U}{k c5 n:Nat}{wd b:Nat->Nat}
def sD(C:ad):Prop:=∀h k c5 n wd b,en h k c5 n wd b->C (.fn 63) [.ptr k 0] h=some (.ret (.bool true),h)
theorem aqw{C:ad}{lf:Nat}(S:en h k c5 n wd b):HZ C lf (.ptr k 0) h=some (.ret (.bool true),h):=by
 have h1:=S.cH;have b4:=M7 (k:=k) (off:=0) Tryd.underlying25;unfold HZ Uk Ov;simp only[ch,cd,b4,Pn,kh,u1,uA,qP,Nat.zero_add,S.ef,z7,Xt];simp;omega
def gH(n:Nat)(wd:Nat->Nat)(i:Int):Bool:=decide (0<=i)&&(decide (i<n)&&bQ wd i.toNat)
def xn(C:ad):Prop:=∀h k c5 n wd b i,en h k c5 n wd b-> -9223372036854775808<=i->i<9223372036854775808->C (.fn 33) [.ptr k 0,I i] h=some (.ret (.bool (gH n wd i)),h)
theorem apO{C:ad}{lf:Nat}(hm:sD C)(S:en h k c5 n wd b){i:Int}:HM C lf (.ptr k 0) (I i) h=some (.ret (.bool (gH n wd i)),h):=by
 have h1:=S.cH;have h2:=S.cA;unfold HM Tg N8;simp only[aE,hm _ _ _ _ _ _ S];by_cases h3:0<=i
 ·by_cases aW:i<n
  ·have bz:0<=i/64:=by omega
   have bB:i/64<64:=by omega
   have dW:IntKind.i64.wrap (i.tdiv 64)=i/64:=by
    rw[Int.tdiv_eq_ediv_of_nonneg h3];exact wrap_i64 (by omega) (by omega)
   have gE:i.tmod 64=((i.toNat%64:Nat):Int):=by
    rw[Int.tmod_eq_emod_of_nonneg h3];omega
   have pD:(i/64).toNat=i.toNat/64:=by omega
   have oD:=S.uw (i.toNat/64) (by omega);have k4:=S.iU (i.toNat/64);have b7:=lP (n:=64) (s:=1) (k:=k) (off:=1) (kd:= .i64) bz bB;rw[pD,Nat.mul_one] at b7;have yC:=M8 (P:=aw) (t:=55) (k:= .i64) (a:=wd (i.toNat/64)) (b:=i.toNat%64) (by omega);have ba:wd (i.toNat/64)/2 ^ (i.toNat%64)<2 ^ 64:=Nat.lt_of_le_of_lt (Nat.div_le_self _ _) k4;have IC:=M4 (P:=aw) (t:=55) ba (show 1<2 ^ 64 by omega);have ag:=akE (a:=wd (i.toNat/64)) (b:=i.toNat%64)
   have a0:decide (((wd (i.toNat/64)/2 ^ (i.toNat%64)&&& 1:Nat):Int)=1)=bQ wd i.toNat:=by
    unfold bQ;cases aN:(wd (i.toNat/64)).testBit (i.toNat%64) with
    |true=>
     have:=ag.2 aN
     rw[this];rfl
    |false=>
     have:¬(wd (i.toNat/64)/2 ^ (i.toNat%64)&&& 1=1):=λe=>by rw[ag.1 e] at aN;cases aN
     exact br (by omega)
   have aI:gH n wd i=bQ wd i.toNat:=by simp only[gH,h3,aW,decide_true,Bool.true_and]
   rw[aI, <- a0];generalize wd (i.toNat/64)/2 ^ (i.toNat%64)=z at *;have an2:bin aw .and 55 (.int .u64 (z:Int)) (.int .u64 1)=some (.int .u64 ((z&&& 1:Nat):Int)):=IC;simp only[h3,aW,decide_true,aE,lD (show(64:Int)≠0 by omega),h6 (show(64:Int)≠0 by omega),dW,gE,S.ef,b7,oD,yC,an2]
  ·have:gH n wd i=false:=by simp[gH,aW]
   simp only[h3,aW,decide_true,decide_false,this,aE,S.ef]
 ·have:gH n wd i=false:=by simp[gH,h3]
  simp only[h3,decide_false,this,aE]
end
end Go.Proofs.YtomialandfplkaaDoor.Eva
namespace Go.Xe
def dJ(ty:TypeId)(cs:List J):bH:={cn:=0,ty,n:=cs.length,loose:=false,esz:=1,ro:=false,mz:=λ_=>none,fy:=p6 cs,sp:= .cells}
def iR(ty:TypeId)(n:Nat)(zs:List J):bH:={cn:=0,ty,n,loose:=false,esz:=1,ro:=false,mz:=λi=>(p6 zs).get (i%zs.length),fy:= .nil,sp:= .cells}
def yU(ty:TypeId)(esz:Nat)(cs:List J):bH:={cn:=0,ty,n:=cs.length,loose:=true,esz,ro:=false,mz:=λ_=>none,fy:=p6 cs,sp:= .cells}
theorem ah9(cs:List J)(i:Nat):(p6 cs).get i=cs[i]?:=by
 unfold p6;rw[x5];by_cases h:i<cs.length
 ·rw[if_pos ⟨Nat.zero_le _,by omega⟩];simp
 ·rw[if_neg (by omega),List.getElem?_eq_none (by omega)];rfl
theorem oR(ty:TypeId)(cs:List J)(i:Nat):(dJ ty cs).get i=cs[i]?:=by
 unfold dJ bH.get;simp only[ah9];cases ag:Nat.blt i cs.length with
 |true=>
  have:i<cs.length:=by rw[Nat.blt_eq] at ag;exact ag
  simp[List.getElem?_eq_getElem this]
 |false=>
  have:¬i<cs.length:=λh=>by rw[<- Nat.blt_eq,ag] at h;cases h
  simp[List.getElem?_eq_none (by omega:cs.length<=i)]
theorem aem(ty:TypeId)(e:Nat)(cs:List J)(i:Nat):(yU ty e cs).get i=cs[i]?:=oR ty cs i
theorem y9(ty:TypeId){n i:Nat}(zs:List J)(hi:i<n):(iR ty n zs).get i=zs[i%zs.length]?:=by
 unfold iR bH.get;have ag:Nat.blt i n=true:=by rw[Nat.blt_eq];exact hi
 simp only[ag,cond_true,ax.get,ah9]
section
variable{P:Program}
theorem w9{e:TypeId}{x:J}{h:U}(an:x.flat=true):ri e x h=some (.ptr h.next 0,h.new (dJ e x.cells)):=by
 unfold ri pZ;simp only[an,cond_true,newRow,force_eq];rfl
theorem rf{e:TypeId}{z:Value}{h:U}(a1:hb P e=some z):l1 P e h=some (.ptr h.next 0,h.new (dJ e (db z).cells)):=by
 unfold l1 pX;simp only[a1,newRow,force_eq];rfl
theorem zF{t e s b:Nat}{z:Value}{k1 k2:IntKind}{l c:Nat}{h:U}(hu:P.underlying t=some (.slice e))(al:dP P e=some s)(a1:hb P e=some z)(ag:n8 P e=some b)
 (h1:l<=c)(h2:c*b<=140737488355328)(h3:c<=140737488355328)(aW:(db z).cells.length=s)(bz:1<=s):
 nq P t (.int k1 (l:Int)) (.int k2 (c:Int)) h=some (.aZ h.next 0 l (some c) 0,h.new (iR e (c*s) (db z).cells)):=by
 have az:hX (.int k1 (l:Int))=some l:=rfl;have aA:hX (.int k2 (c:Int))=some c:=rfl
 have cj:(Nat.ble l c&&Nat.ble (c*b) 140737488355328&&Nat.ble c 140737488355328&&Nat.beq (db z).cells.length s&&Nat.ble 1 s)=true:=by
  simp only[Nat.ble_eq_true_of_le h1,Nat.ble_eq_true_of_le h2,Nat.ble_eq_true_of_le h3,Nat.ble_eq_true_of_le bz,aW,Nat.beq_refl,Bool.and_self]
 unfold nq p0;simp only[hu,az,aA,al,a1,ag,cj,cond_true,mQ,force_eq];rfl
end
theorem lZ{h:U}{o:bH}(aI:o.ro=false):(h.new o).wr h.next o.n:=⟨o.mt,by rw[yX,if_pos rfl],aI,rfl⟩
theorem FI{h:U}{o:bH}{k N:Nat}(hw:h.wr k N)(ai:k≠h.next):(h.new o).wr k N:=by
 obtain⟨m,h1,h2,h3⟩:=hw;exact⟨m,by rw[yX,if_neg ai];exact h1,h2,h3⟩
theorem l6(h:U)(o:bH)(i:Nat):(h.new o).cell h.next i=o.get i:=by rw[YZ,if_pos rfl]
theorem G0{h:U}{o:bH}{k:Nat}(ai:k≠h.next)(i:Nat):(h.new o).cell k i=h.cell k i:=by rw[YZ,if_neg ai]
def F2(x:J):Prop:=x= .val (.slice none 0 0)\/∃k,x= .kR k
def Bytes(h:U)(x:J)(l:List Nat):Prop:=(∀c∈l,c<256)/\((F2 x/\l=[])\/
 ∃bR ob cap lo m,x= .aZ bR ob l.length cap lo/\h.mt bR=some m/\∀j,j<l.length->h.cell bR (ob+j)=some (.int .u8 (l.getD j 0:Nat)))
def jk(l:List Nat):List J:=l.map λ(c:Nat)=>J.int .u8 (c:Int)
theorem zv(l:List Nat):(jk l).length=l.length:=by simp[jk]
theorem Lr(l:List Nat){j:Nat}(aa:j<l.length):(jk l)[j]?=some (.int .u8 (l.getD j 0:Nat)):=by simp[jk,List.getD,aa]
theorem aib(l:List Nat):dZ (jk l)=true:=by
 unfold jk
 induction l with
 |nil=>rfl
 |cons c l bc=>simp[dZ,bc,J.one]
theorem aC8(l:List Nat)(n:Nat):(jk l).take n=jk (l.take n):=by simp[jk,List.map_take]
section
variable{P:Program}
theorem qQ{h:U}{x:J}{l:List Nat}{t e:TypeId}(hu:P.underlying t=some (.slice e))(B:Bytes h x l):eE P t x=some (.int .i64 (l.length:Int)):=by
 rcases B.2 with⟨rfl|⟨k,rfl⟩,rfl⟩|⟨bR,ob,cap,lo,m,rfl,_⟩
 ·simp[eE,hu,fD]
 ·simp[eE,hu]
 ·simp[eE,hu]
theorem YS{h:U}{bR ob:Nat}{l:List Nat}(ae:∀j,j<l.length->h.cell bR (ob+j)=some (.int .u8 (l.getD j 0:Nat))):h.cells bR ob l.length=some (jk l):=
 lE (zv l) λj aa=>by rw[ae j aa,Lr l aa]
theorem ZH{h:U}{x:J}{l:List Nat}(B:Bytes h x l):kY h.x0 1 x=some (l.length,jk l):=by
 rcases B.2 with⟨rfl|⟨k,rfl⟩,rfl⟩|⟨bR,ob,cap,lo,m,rfl,hm,ae⟩
 ·simp[kY,jk]
 ·simp[kY,jk]
 ·unfold U.mt at hm;cases aq:h.aV.get bR with
  |none=>simp[aq] at hm
  |some o=>
   simp only[kY,U.so,aq,Nat.mul_one,Bj aq,YS ae]
theorem alI{h:U}{x:J}{l:List Nat}{t t2 e kd od ld N lo:Nat}{cap:Option Nat}(hu:P.underlying t=some (.slice e))(al:dP P e=some 1)(B:Bytes h x l)(hw:h.wr kd N)(ag:od+ld<=N):
 gk P .copy #[t,t2] [.aZ kd od ld cap lo,x] h=some (.int .i64 ((min l.length ld:Nat):Int),h.set kd od (jk (l.take (min l.length ld)))):=by
 obtain⟨md,nf,aI,aO⟩:=hw;unfold U.mt at nf;cases aq:h.aV.get kd with
 |none=>simp[aq] at nf
 |some o=>
  simp only[aq,Option.some.injEq] at nf;subst nf;simp only[bH.mt] at aI aO;have h2:Nat.beq (jk l).length l.length=true:=by rw[zv];exact Nat.beq_refl _
  have h1:Nat.ble (od+ld) o.n=true:=Nat.ble_eq_true_of_le (by omega);have av:iD P .copy #[t,t2] [.aZ kd od ld cap lo,x] h.x0=q6 P t (.aZ kd od ld cap lo) x h.x0:=rfl;unfold gk;rw[av];unfold q6;simp only[hu,al,ZH B,h2,aib,Bool.and_self,cond_true,U.so,aq,force_eq,h1,aI,Bool.not_false,Nat.mul_one];unfold U.set;simp only[aq,Ek,aC8,aI];rfl
theorem aBu{t e s n k off l:Nat}{kd:IntKind}(hu:P.underlying t=some (.array n e))(al:dP P e=some s)(aL:l<=n):
 ∃sf,fX P t (.ptr k off) (some (.int kd (l:Int))) none=some (.aZ k sf (n-l) (some (n-l)) 0)/\(l<n->sf=off+l*s)/\(l=n->sf=off):=by
 have h0:hX (.int kd (l:Int))=some l:=rfl
 have h1:sliceB n n (some (.int kd (l:Int))) none=some (l,n):=by
  simp only[sliceB,h0]
  have:(Nat.ble n n&&Nat.ble l n)=true:=by simp[Nat.ble_eq_true_of_le aL]
  simp only[this,cond_true]
 unfold fX;simp only[hu,al,h1,p3,force_eq];by_cases h2:n-l=0
 ·refine⟨off,?_,λh=>by omega,λ_=>rfl⟩
  have:Nat.beq (n-l) 0=true:=by rw[h2];rfl
  simp only[this,cond_true]
 ·refine⟨off+l*s,?_,λ_=>rfl,λh=>by omega⟩
  have:Nat.beq (n-l) 0=false:=by
   cases ag:Nat.beq (n-l) 0 with
   |false=>rfl
   |true=>exact absurd (Nat.eq_of_beq_eq_true ag) h2
  simp only[this,cond_false]
end
theorem Bytes.frame{h h':U}{x:J}{l:List Nat}(B:Bytes h x l)(al:∀bR ob len cap lo,x= .aZ bR ob len cap lo->cQ h h' bR):Bytes h' x l:=by
 refine⟨B.1,?_⟩;rcases B.2 with h1|⟨bR,ob,cap,lo,m,ar,hm,ae⟩
 ·exact .inl h1
 ·have e:=al bR ob _ cap lo ar;exact .inr ⟨bR,ob,cap,lo,m,ar,by rw[e.mt];exact hm,λj aa=>by rw[e.cell];exact ae j aa⟩
section
open Go.ChangeShapes Go.WideShapes Go.ChangeAt Go.RowKit
section
variable{P:Program}{H:Type}{enc:TypeId×Value->H}{w:World}
theorem aeb{aK id off l c:Nat}(ag:id<aK)(ae:¬(l=0/\c=0)):lift aK (.slice (some ⟨id,off,none⟩) l c)= .aZ id off l (some c) 0:=by
 have iL:Nat.blt id aK=true:=by rw[Nat.blt_eq];exact ag
 cases l with
 |zero=>cases c with
  |zero=>exact absurd ⟨rfl,rfl⟩ ae
  |succ c=>simp only[lift,iL,cond_true]
 |succ l=>simp only[lift,iL,cond_true]
theorem adv{id off:Nat}{x:Value}(h:w.cell? ⟨id,off,none⟩=some x):∃m,(ht w).mt id=some m:=by
 unfold World.cell? at h;split at h
 ·rename_i cs ty C9 hM;exact⟨(y7 w.heap.size cs ty).mt,by unfold U.mt;rw[DX];simp only at hM;rw[hM]⟩
 ·cases h
theorem YY{a:Addr}{x:Value}(h:w.cell? a=some x):a.block<w.heap.size:=by
 unfold World.cell? at h;split at h
 ·rename_i cs ty C9 hM;exact(Array.getElem?_eq_some_iff.1 hM).1
 ·cases h
theorem xB(id off j:Nat):(Addr.add ⟨id,off,none⟩ j)=⟨id,off+j,none⟩:=by
 unfold Addr.add;by_cases e:j=0
 ·subst e;rfl
 ·rw[if_neg e]
theorem MW{a:Addr}(h:(a.add 0).spot=none):a.spot=none:=by
 simpa[Addr.add] using h
def mu:J->Prop
 | .aZ _ _ len (some c) _=>len<=c
 |_=>True
theorem akV{t e fuel:Nat}{v:Value}{d:DataW H}{ps:List MemPlace}(aN:P.underlying t=some (.slice e))(he:P.underlying e=some (.int .u8))(ae:P.cellsOf e=1)
 (an:DataW.trod enc P w 0 (λ_=>true) true fuel t [v]=some (d,ps)):
 ∃l:List Nat,Bytes (ht w) (lift w.heap.size v) l/\mu (lift w.heap.size v)/\uU w.heap.size v=lift w.heap.size v/\((d= .nil/\l=[])\/∃el sp,d= .slice el sp/\el.length=l.length):=by
 rcases open_ints aN he ae an with⟨eA,ar⟩|⟨a,len,cap,zs,eA,_,aL,hm,a1,ar,eD,apt⟩
 ·simp only[List.cons.injEq,and_true] at eA;subst eA;exact⟨[],⟨λc ae=>by simp at ae,.inl ⟨.inl rfl,rfl⟩⟩,trivial,rfl,.inl ⟨(Prod.mk.inj ar).1,rfl⟩⟩
 ·simp only[List.cons.injEq,and_true] at eA;subst eA;have a1:zs.length=cap:=by simpa using a1
  have aH:=(Prod.mk.inj ar).1;by_cases h0:len=0/\cap=0
  ·obtain⟨rfl,rfl⟩:=h0;exact⟨[],⟨λc ae=>by simp at ae,.inl ⟨.inr ⟨0,rfl⟩,rfl⟩⟩,trivial,rfl,.inr ⟨_,_,aH,by simp[lits]⟩⟩
  ·have aC:0<cap:=by omega
   obtain⟨id,off,spot⟩:=a;have al:spot=none:=MW (World.cell?_spot (eD 0 (by omega)));subst al
   have tj:id<w.heap.size:=by
    have:=YY (eD 0 (by omega))
    rw[xB] at this;exact this
   have ar:=aeb (off:=off) tj h0
   have adw:∀n∈zs,0<=n/\n<256:=λn aO=>by
    have:=apt n aO
    simp only[Lit.wf,IntKind.min,IntKind.max,IntKind.signed,IntKind.bits] at this;simp at this;omega
   obtain⟨m,Qd⟩:∃m,(ht w).mt id=some m:=adv (off:=off+0) (by rw[<- xB];exact eD 0 (by omega));refine⟨(zs.take len).map Int.toNat,⟨λc ae=>?_,.inr ⟨id,off,some cap,0,m,?_,Qd,λj aa=>?_⟩⟩,?_,rfl,.inr ⟨_,_,aH,by simp[lits]⟩⟩
   ·simp only[List.mem_map] at ae;obtain⟨n,aO,rfl⟩:=ae
    have:=adw n (List.mem_of_mem_take aO)
    omega
   ·have hlen:((zs.take len).map Int.toNat).length=len:=by simp;omega
    rw[hlen,ar]
   ·have hs:j<zs.length:=by simp at aa;omega
    have h1:=eD j hs;rw[xB] at h1;rw[Qu,h1];have bd:zs.getD j 0=zs[j]:=by simp[List.getD,hs]
    have aO:=adw zs[j] (List.getElem_mem hs);have nR:j<len:=by simp at aa;omega
    have ij:((zs.take len).map Int.toNat).getD j 0=zs[j].toNat:=by simp[List.getD,hs,nR]
    rw[bd,ij,Option.map_some];show some (J.int .u8 zs[j])=_;congr 2;omega
   ·rw[ar];exact aL
end
end
def rowOf:J->Option Nat
 | .aZ k _ _ _ _=>some k
 |_=>none
def jT(h:U):Prop:=∀j,h.next<=j->h.aV.get j=none
theorem Ap{h:U}(an:jT h)(k off:Nat)(ys:List J):jT (h.set k off ys):=λj aa=>by
 rw[eb] at aa;cases aq:h.aV.get k with
 |none=>
  have:h.set k off ys=h:=by unfold U.set;rw[aq]
  rw[this];exact an j aa
 |some o=>
  have ai:j≠k:=λe=>by
   rw[e] at aa;rw[an k aa] at aq;cases aq
  rw[iu _ _ _ ai];exact an j aa
theorem xV{h:U}(an:jT h)(o:bH):jT (h.new o):=λj aa=>by
 rw[im] at aa;rw[n4 h o (by omega)];exact an j (by omega)
theorem am9(w:World):jT (ht w):=λ_ aa=>IZ w aa
structure MH (h:U) (k e sz len:Nat) (ys:List J):Prop where
 lt:k<h.next
 mt:∃m,h.mt k=some m/\m.ty=e/\len*sz=m.n/\m.loose=true/\m.esz=sz/\m.ro=false
 cs:∀j,j<len*sz->h.cell k j=ys[j]?
def hH(h:U)(e sz:Nat)(x:J)(len:Nat)(ys:List J):Prop:=ys.length=len*sz/\((x= .val (.slice none 0 0)/\len=0)\/∃k,x= .aZ k 0 len none 0/\MH h k e sz len ys)
theorem hH.nil(h:U)(e sz:Nat):hH h e sz (.val (.slice none 0 0)) 0 []:=⟨by simp,.inl ⟨rfl,rfl⟩⟩
theorem hH.frame{h h':U}{e sz len:Nat}{x:J}{ys:List J}(S:hH h e sz x len ys)(aO:h.next<=h'.next)(al:∀k,rowOf x=some k->cQ h h' k):hH h' e sz x len ys:=by
 refine⟨S.1,?_⟩;rcases S.2 with h1|⟨k,rfl,h2⟩
 ·exact .inl h1
 ·have az:=al k rfl;obtain⟨m,hm,aI⟩:=h2.mt;exact .inr ⟨k,rfl,Nat.lt_of_lt_of_le h2.lt aO,⟨m,by rw[az.mt];exact hm,aI⟩,λj aa=>by rw[az.cell];exact h2.cs j aa⟩
theorem hH.j8{h:U}{e sz len:Nat}{x:J}{ys:List J}(S:hH h e sz x len ys){k:Nat}(ai:rowOf x=some k):k<h.next:=by
 rcases S.2 with⟨rfl,_⟩|⟨b5,rfl,h2⟩
 ·cases ai
 ·cases ai;exact h2.lt
section
variable{P:Program}{t u e sz b:Nat}{z:Value}{d:TypeDesc}{h:U}{x y:J}{n:Nat}{news:List J}
structure sv (P:Program) (t u e sz b:Nat):Prop where
 hu:P.underlying t=some (.slice e)
 al:dP P e=some sz
 a1:∃z,hb P e=some z/\(db z).cells.length=sz
 ag:n8 P e=some b
 aH:∃d,P.underlying u=some d/\se d=true
 h1:1<=sz
theorem LN(T:sv P t u e sz b)(he:kY h.x0 sz y=some (n,news))(gv:news.length=n*sz)(gw:dZ news=true):
 gk P .append #[t,u] [x,y] h=ar (match x with
  | .val (.slice none a c)=>bif Nat.beq a 0&&Nat.beq c 0 then(bif Nat.beq n 0 then some (.val (.slice none 0 0),h.x0) else nC e sz b n news h.x0) else none
  | .aZ k off len cap lo=>lA e sz b k off len cap lo n news h.x0
  | .kR k=>bif Nat.beq n 0 then some (.kR k,h.x0) else none
  |_=>none):=by
 obtain⟨hu,al,⟨z,a1,hj⟩,ag,⟨d,aH,oG⟩,h1⟩:=T
 have av:iD P .append #[t,u] [x,y] h.x0=oU P t x y h.x0:=by
  show(match P.underlying u with|some d=>bif se d then oU P t x y h.x0 else(bif vi d then pY P t x y h.x0 else none)|none=>none)=_;simp only[aH,oG,cond_true]
 have aS:(Nat.ble 1 sz&&(Nat.beq news.length (n*sz)&&(dZ news&&Nat.beq (db z).cells.length sz)))=true:=by
  rw[Nat.ble_eq_true_of_le h1,gv,hj,gw,Nat.beq_refl,Nat.beq_refl];rfl
 unfold gk;rw[av];unfold oU;simp only[hu,al,a1,ag,he,aS,cond_true];rfl
theorem MZ{ep:Nat}{cells:List J}(h1:ep<=140737488355328)(h2:ep*b<=140737488355328):ar (nC e sz b ep cells h.x0)=some (.aZ h.next 0 ep none 0,h.new (yU e sz cells)):=by
 have:(Nat.ble ep 140737488355328&&Nat.ble (ep*b) 140737488355328)=true:=by rw[Nat.ble_eq_true_of_le h1,Nat.ble_eq_true_of_le h2];rfl
 unfold nC;simp only[this,cond_true,mP,force_eq];rfl
theorem aBs{ep:Nat}{cells:List J}(aL:cells.length=ep*sz):MH (h.new (yU e sz cells)) h.next e sz ep cells:=
 ⟨by simp,⟨_,by rw[yX,if_pos rfl],rfl,aL.symm,rfl,rfl,rfl⟩,λj aa=>by rw[l6,aem]⟩
def AB(o:bH)(N off:Nat)(news:List J):bH:={o with cn:=0,n:=N,fy:=ha o.fy off news}
def U.grow(h:U)(k N off:Nat)(news:List J)(o:bH):U:=⟨h.aK,h.next+1,(h.aV.del k).put h.next (AB o N off news)⟩
theorem anx(o:bH){N off i:Nat}(news:List J)(jK:off+news.length=N)(aq:off<=o.n)(hi:i<N):(AB o N off news).get i=if i<off then o.get i else news[i-off]?:=by
 obtain⟨cn,ty,n,loose,esz,ro,mz,fy,sp⟩:=o;simp only at aq;simp only[AB,bH.get];have ag:Nat.blt i N=true:=by rw[Nat.blt_eq];exact hi
 simp only[ag,cond_true];rw[x5];by_cases ba:i<off
 ·have jZ:Nat.blt i n=true:=by rw[Nat.blt_eq];omega
  rw[if_neg (by omega),if_pos ba];simp only[jZ,cond_true]
 ·have:i-off<news.length:=by omega
  rw[if_pos (by omega),if_neg ba,List.getElem?_eq_getElem this]
theorem aj5{k len:Nat}{ys:List J}(ft:ys.length=len*sz)(A:MH h k e sz len ys)(gv:news.length=n*sz)
 (ae:len+n<=140737488355328)(td:(len+n)*b<=140737488355328):
 ∃bF h',ar (lA e sz b k 0 len none 0 n news h.x0)=some (bF,h')/\hH h' e sz bF (len+n) (ys++news)/\h.next<=h'.next/\h'.aK=h.aK/\
  (∀j,j<h.next->rowOf (.aZ k 0 len none 0)≠some j->cQ h h' j)/\(∀j,rowOf bF=some j->rowOf (.aZ k 0 len none 0)=some j\/h.next<=j)/\(jT h->jT h'):=by
 have hlen:(ys++news).length=(len+n)*sz:=by rw[List.length_append,ft,gv,Nat.add_mul]
 obtain⟨m,hm,hP,e0,Bl,oO,sa⟩:=A.mt;have ada:h.mt k=some m:=hm;unfold U.mt at hm;cases aq:h.aV.get k with
 |none=>simp[aq] at hm
 |some o=>
  simp only[aq,Option.some.injEq] at hm;subst hm;simp only[bH.mt] at hP e0 Bl oO sa;have aps:h.wr k o.n:=⟨o.mt,ada,sa,rfl⟩;have eD:∀j,o.get j=h.cell k j:=λj=>by unfold U.cell;rw[aq]
  have ba:=A.lt
  have bX:(Nat.beq 0 0&&(Nat.beq 0 0&&(Nat.beq o.esz sz&&(o.loose&&(!o.ro&&Nat.beq o.ty e)))))=true:=by
   rw[oO,Bl,sa,hP,Nat.beq_refl,Nat.beq_refl,Nat.beq_refl];rfl
  have hmul:(len+n)*sz=len*sz+n*sz:=Nat.add_mul ..;simp only[lA,U.so,aq,force_eq];have YF:=bX;simp only[show Nat.beq 0 0=true from rfl,Bool.true_and] at YF;simp only[show Nat.beq 0 0=true from rfl,Bool.true_and,YF,cond_true];by_cases yj:(len+n)*sz<=o.n
  ·have b2:Nat.ble ((len+n)*sz) o.n=true:=Nat.ble_eq_true_of_le yj;have hf:(Nat.ble (0+(len+n)*sz) o.n&&!o.ro)=true:=by rw[Nat.zero_add,b2,sa];rfl
   simp only[b2,cond_true,pq,hf,Nat.zero_add];refine⟨_,h.set k (len*sz) news,?_,⟨hlen,.inr ⟨k,rfl,⟨by rw[eb];exact ba,⟨_,by rw[Jl,if_pos rfl,ada];rfl,hP,(by show(len+n)*sz=o.n;omega),Bl,oO,sa⟩,λj aa=>?_⟩⟩⟩,by rw[eb];exact Nat.le_refl _,K4 ..,λj _ aI=>iu h _ _ (λe=>aI (by rw[e];rfl)),(λj aa=> .inl aa),λan=>Ap an _ _ _⟩
   ·unfold U.set;simp only[aq,Ek,sa];rfl
   ·by_cases nR:j<len*sz
    ·rw[eH (by omega),A.cs j nR,List.getElem?_append_left (by rw[ft];exact nR)]
    ·rw[hh aps (by omega) (by omega) (by omega),List.getElem?_append_right (by rw[ft];omega),ft]
  ·have b2:Nat.ble ((len+n)*sz) o.n=false:=by
    cases ag:Nat.ble ((len+n)*sz) o.n with
    |false=>rfl
    |true=>exact absurd (Nat.le_of_ble_eq_true ag) yj
   have hf:(Nat.ble (len*sz) o.n&&(Nat.ble (len+n) 140737488355328&&Nat.ble ((len+n)*b) 140737488355328))=true:=by
    rw[Nat.ble_eq_true_of_le (Nat.le_of_eq e0),Nat.ble_eq_true_of_le ae,Nat.ble_eq_true_of_le td];rfl
   simp only[b2,cond_false,rB,hf,cond_true,force_eq]
   have bd:∀j,(U.grow h k ((len+n)*sz) (len*sz) news o).aV.get j=if j=h.next then some (AB o ((len+n)*sz) (len*sz) news) else if j=k then none else h.aV.get j:=λj=>by
    show cE.get (cE.put (cE.del h.aV k) h.next _) j=_;rw[cE.kG];by_cases az:j=h.next
    ·rw[if_pos az,if_pos az]
    ·rw[if_neg az,if_neg az];exact cE.ack _ _ _
   refine⟨_,U.grow h k ((len+n)*sz) (len*sz) news o,rfl,⟨hlen,.inr ⟨h.next,rfl,⟨Nat.lt_succ_self _,⟨(AB o ((len+n)*sz) (len*sz) news).mt,?_,hP,rfl,Bl,oO,sa⟩,λj aa=>?_⟩⟩⟩,Nat.le_succ _,rfl,λj aa aI=>?_,(λj aa=>by cases aa;exact .inr (Nat.le_refl _)),λan j aa=>?_⟩
   ·unfold U.mt;rw[bd,if_pos rfl]
   ·have:U.cell (U.grow h k ((len+n)*sz) (len*sz) news o) h.next j=(AB o ((len+n)*sz) (len*sz) news).get j:=by unfold U.cell;rw[bd,if_pos rfl]
    rw[this,anx o news (by omega) (Nat.le_of_eq e0) aa];by_cases nR:j<len*sz
    ·rw[if_pos nR,eD,A.cs j nR,List.getElem?_append_left (by rw[ft];exact nR)]
    ·rw[if_neg nR,List.getElem?_append_right (by rw[ft];omega),ft]
   ·show(U.grow h k ((len+n)*sz) (len*sz) news o).aV.get j=h.aV.get j;rw[bd,if_neg (by omega),if_neg (λe=>aI (by rw[e];rfl))]
   ·have aa:h.next+1<=j:=aa
    rw[bd,if_neg (by omega)];by_cases e:j=k
    ·rw[if_pos e]
    ·rw[if_neg e];exact an j (by omega)
theorem akb{len:Nat}{ys:List J}(T:sv P t u e sz b)(S:hH h e sz x len ys)(he:kY h.x0 sz y=some (n,news))(gv:news.length=n*sz)(gw:dZ news=true)
 (ae:len+n<=140737488355328)(td:(len+n)*b<=140737488355328):
 ∃bF h',gk P .append #[t,u] [x,y] h=some (bF,h')/\hH h' e sz bF (len+n) (ys++news)/\h.next<=h'.next/\h'.aK=h.aK/\
  (∀j,j<h.next->rowOf x≠some j->cQ h h' j)/\(∀j,rowOf bF=some j->rowOf x=some j\/h.next<=j)/\(jT h->jT h'):=by
 have h1:=T.h1;rw[LN T he gv gw];have hlen:(ys++news).length=(len+n)*sz:=by rw[List.length_append,S.1,gv,Nat.add_mul]
 rcases S.2 with⟨rfl,rfl⟩|⟨k,rfl,A⟩
 ·have ft:ys=[]:=by
   have:=S.1
   rw[Nat.zero_mul] at this;exact List.eq_nil_of_length_eq_zero this
  subst ft;have qf:(Nat.beq 0 0&&Nat.beq 0 0)=true:=rfl;simp only[qf,cond_true,Nat.zero_add,List.nil_append] at *;by_cases aO:n=0
  ·subst aO
   have:news=[]:=List.eq_nil_of_length_eq_zero (by rw[gv,Nat.zero_mul])
   subst this;exact⟨_,h,rfl,hH.nil h e sz,Nat.le_refl _,rfl,λ_ _ _=>rfl,(λj aa=>by cases aa),λan=>an⟩
  ·have bX:Nat.beq n 0=false:=by
    cases ag:Nat.beq n 0 with
    |false=>rfl
    |true=>exact absurd (Nat.eq_of_beq_eq_true ag) aO
   simp only[bX,cond_false];rw[MZ ae td];exact⟨_,_,rfl,⟨gv,.inr ⟨_,rfl,aBs gv⟩⟩,by simp,rfl,λj aa _=>n4 h _ (by omega),(λj aa=>by cases aa;exact .inr (Nat.le_refl _)),λan=>xV an _⟩
 ·exact aj5 S.1 A gv ae td
end
end Go.Xe
namespace Go.Proofs.YtomialandfplkaaDoor.Eva
open Go.Xe
def de{α:Type}(f:Nat->α)(i:Nat)(v:α):Nat->α:=λj=>if j=i then v else f j
theorem kS{α:Type}(f:Nat->α)(i:Nat)(v:α):de f i v i=v:=if_pos rfl
theorem ix{α:Type}(f:Nat->α){i j:Nat}(v:α)(h:j≠i):de f i v j=f j:=if_neg h
structure aG (h h':U) (S:Nat->Prop):Prop where
 aK:h'.aK=h.aK
 next:h.next<=h'.next
 same:∀j,j<h.next->¬S j->cQ h h' j
 dA:jT h->jT h'
theorem aG.refl(h:U)(S:Nat->Prop):aG h h S:=⟨rfl,Nat.le_refl _,λ_ _ _=>rfl,λan=>an⟩
theorem aG.trans{h h' fq:U}{S:Nat->Prop}(a:aG h h' S)(b:aG h' fq S):aG h fq S:=
 ⟨b.aK.trans a.aK,Nat.le_trans a.next b.next,λj aa al=>(b.same j (Nat.lt_of_lt_of_le aa a.next) al).trans (a.same j aa al),λan=>b.dA (a.dA an)⟩
theorem aG.ek{h h':U}{S e8:Nat->Prop}(a:aG h h' S)(al:∀j,S j->e8 j):aG h h' e8:=⟨a.aK,a.next,λj aa aO=>a.same j aa (λe=>aO (al j e)),a.dA⟩
theorem fa{h:U}{k off:Nat}{ys:List J}{S:Nat->Prop}(ai:S k):aG h (h.set k off ys) S:=
 ⟨K4 ..,Nat.le_of_eq (eb ..).symm,λj _ al=>iu h off ys (λe=>al (e▸ai)),λan=>Ap an _ _ _⟩
theorem ow(h:U)(o:bH)(S:Nat->Prop):aG h (h.new o) S:=⟨rfl,Nat.le_succ _,λj aa _=>n4 h o (by omega),λan=>xV an o⟩
section
variable{lf m:Nat}{h:U}{k c5 n:Nat}{wd b:Nat->Nat}
theorem en.ahj(S:en h k c5 n wd b){w v:Nat}(hw:w<64)(hv:v<2 ^ 64)(aq:∀c,c<64->n<=64*w+c->v.testBit c=false):en (h.set k (1+w) [.int .u64 (v:Int)]) k c5 n (de wd w v) b:=by
 have ag:1+w+[J.int .u64 (v:Int)].length<=66:=by simp;omega
 refine⟨S.cH,S.cA,?_,λi hi=>?_,λi=>?_,λi c hi ae aO=>?_,?_,eG S.re,eG S.va,λj aa=>?_,S.blt,S.ne,by rw[eb];exact S.wy,by rw[eb];exact S.wv⟩
 ·rw[eH (by omega)];exact S.ef
 ·by_cases e:i=w
  ·subst e;rw[hh S.re ag (by omega) (by simp),kS];simp
  ·rw[eH (by simp;omega),ix _ _ e];exact S.uw i hi
 ·by_cases e:i=w
  ·subst e;rw[kS];exact hv
  ·rw[ix _ _ e];exact S.iU i
 ·by_cases e:i=w
  ·subst e;rw[kS];exact aq c ae aO
  ·rw[ix _ _ e];exact S.out i c hi ae aO
 ·obtain⟨cap,e⟩:=S.cs;exact⟨cap,by rw[eH (by simp;omega)];exact e⟩
 ·rw[eH (.inl (λe=>S.ne e.symm))];exact S.xF j aa
theorem aeQ{wd:Nat->Nat}{i v j:Nat}:bQ (de wd (i/64) v) j=if j/64=i/64 then v.testBit (j%64) else bQ wd j:=by
 unfold bQ de;by_cases e:j/64=i/64
 ·rw[if_pos e,if_pos e]
 ·rw[if_neg e,if_neg e]
def sT(w c:Nat):Nat:=w&&& (2 ^ 64-1-2 ^ c)
theorem Y4{w c d:Nat}(hw:w<2 ^ 64)(ae:c<64):(sT w c).testBit d=(w.testBit d&&decide (d≠c)):=by
 have h2:2 ^ c<2 ^ 64:=Nat.pow_lt_pow_right (by omega) ae;unfold sT;rw[Nat.testBit_and,Lk h2,Nat.testBit_two_pow];by_cases aH:d<64
 ·by_cases e:d=c
  ·subst e;simp
  ·have:¬c=d:=λh=>e h.symm
   simp[aH,e,this]
 ·have:w.testBit d=false:=Nat.testBit_lt_two_pow (Nat.lt_of_lt_of_le hw (Nat.pow_le_pow_right (by omega) (by omega)))
  simp[this]
theorem alg{w c:Nat}(hw:w<2 ^ 64):sT w c<2 ^ 64:=Nat.lt_of_le_of_lt Nat.and_le_left hw
def B7(C:ad):Prop:=∀h k c5 n wd b i,en h k c5 n wd b-> -9223372036854775808<=i->i<9223372036854775808->
 (gH n wd i=false->C (.fn 23) [.ptr k 0,I i] h=some (.ret (I 22),h))/\
 (gH n wd i=true->∃h',C (.fn 23) [.ptr k 0,I i] h=some (.ret (I 0),h')/\en h' k c5 n (de wd (i.toNat/64) (sT (wd (i.toNat/64)) (i.toNat%64))) b/\aG h h' (· =k))
theorem am7{C:ad}{lf:Nat}(hm:sD C)(hi:xn C)(S:en h k c5 n wd b){i:Int}(cb: -9223372036854775808<=i)(cV:i<9223372036854775808):
 (gH n wd i=false->CU C lf (.ptr k 0) (I i) h=some (.ret (I 22),h))/\
 (gH n wd i=true->∃h',CU C lf (.ptr k 0) (I i) h=some (.ret (I 0),h')/\en h' k c5 n (de wd (i.toNat/64) (sT (wd (i.toNat/64)) (i.toNat%64))) b/\aG h h' (· =k)):=by
 have h2:=S.cA;unfold CU SR N5;simp only[aE,hm _ _ _ _ _ _ S,hi _ _ _ _ _ _ _ S cb cV,Bool.not_true];refine⟨λhu=>?_,λhu=>?_⟩
 ·simp only[hu,Bool.not_false,aE]
 ·have gU:=hu;simp only[gH,Bool.and_eq_true,decide_eq_true_eq] at gU;obtain⟨h3,aW,_⟩:=gU;have bz:0<=i/64:=by omega
  have bB:i/64<64:=by omega
  have dW:IntKind.i64.wrap (i.tdiv 64)=i/64:=by
   rw[Int.tdiv_eq_ediv_of_nonneg h3];exact wrap_i64 (by omega) (by omega)
  have gE:i.tmod 64=((i.toNat%64:Nat):Int):=by
   rw[Int.tmod_eq_emod_of_nonneg h3];omega
  have pD:(i/64).toNat=i.toNat/64:=by omega
  have hw:i.toNat/64<64:=by omega
  have oD:=S.uw (i.toNat/64) hw;have k4:=S.iU (i.toNat/64);have ae:i.toNat%64<64:=by omega
  have b7:=lP (n:=64) (s:=1) (k:=k) (off:=1) (kd:= .i64) bz bB;rw[pD,Nat.mul_one] at b7;have yC:=YL (P:=aw) (t:=55) (k:= .i64) ae;have aC:2 ^ (i.toNat%64)<2 ^ 64:=Nat.pow_lt_pow_right (by omega) ae;have IC:=akw (P:=aw) (t:=55) k4 aC;have aoe:wd (i.toNat/64)&&& (2 ^ 64-1-2 ^ (i.toNat%64))=sT (wd (i.toNat/64)) (i.toNat%64):=rfl;rw[aoe] at IC;have dv:=hR (n:=1) (off:=1+i.toNat/64) (y:= .int .u64 (sT (wd (i.toNat/64)) (i.toNat%64):Int)) S.re rfl (by omega) rfl;refine⟨_,?_,S.ahj hw (alg k4) (λc fr aO=>?_),fa rfl⟩
  ·simp only[hu,Bool.not_true,aE,lD (show(64:Int)≠0 by omega),h6 (show(64:Int)≠0 by omega),dW,gE,b7,oD,yC,IC,dv];rfl
  ·rw[Y4 k4 ae,S.out _ c hw fr aO,Bool.false_and]
end
theorem alR{x c:Nat}(ar:x<2 ^ 64)(h1:x.testBit c=true)(h0:∀d,d<c->x.testBit d=false):Lib.ctz 64 x=c:=by
 have apu:0<x:=by
  apply Nat.pos_of_ne_zero;intro e;rw[e,Nat.zero_testBit] at h1;cases h1
 obtain⟨m,hm,ba⟩:=Lib.ctzFrom_spec 64 x apu ar;have e:Lib.ctz 64 x=Lib.ctzFrom 64 x:=by simp[Lib.ctz];omega
 rw[e];generalize Lib.ctzFrom 64 x=z at hm ba⊢
 have a1:x.testBit z=true:=by
  rw[hm,Nat.testBit_two_pow_mul];simp
 have ag:∀d,d<z->x.testBit d=false:=by
  intro d aH;rw[hm,Nat.testBit_two_pow_mul];simp;omega
 rcases Nat.lt_trichotomy z c with h|h|h
 ·rw[h0 z h] at a1;cases a1
 ·exact h
 ·rw[ag c h] at h1;cases h1
theorem amA{x:Nat}(ar:x<2 ^ 64)(h:∀c,c<64->x.testBit c=true):x=2 ^ 64-1:=by
 apply Nat.eq_of_testBit_eq;intro c;rw[Nat.testBit_two_pow_sub_one];by_cases ae:c<64
 ·simp[h c ae,ae]
 ·have:x.testBit c=false:=Nat.testBit_lt_two_pow (Nat.lt_of_lt_of_le ar (Nat.pow_le_pow_right (by omega) (by omega)))
  simp[this,ae]
def q1(w c:Nat):Nat:=w|||2 ^ c
theorem afd{w c d:Nat}:(q1 w c).testBit d=(w.testBit d||decide (d=c)):=by
 unfold q1;rw[Nat.testBit_or,Nat.testBit_two_pow];by_cases e:d=c
 ·subst e;simp
 ·have:¬c=d:=λh=>e h.symm
  simp[e,this]
theorem afe{w c:Nat}(hw:w<2 ^ 64)(ae:c<64):q1 w c<2 ^ 64:=Nat.or_lt_two_pow hw (Nat.pow_lt_pow_right (by omega) ae)
section
variable{lf m:Nat}{h:U}{k c5 n:Nat}{wd b:Nat->Nat}
def gl(b:Nat->Nat)(i:Nat):Nat->Nat:=λj=>if 64*i<=j/\j<64*i+64 then 0 else b j
theorem en.aEC(S:en h k c5 n wd b){i:Nat}(hi:i<n):en (h.set c5 (i*64) (List.replicate 64 (.int .u8 0))) k c5 n wd (gl b i):=by
 have ag:i*64+(List.replicate 64 (J.int .u8 0)).length<=n*64:=by simp;omega
 refine⟨S.cH,S.cA,?_,λi hi=>?_,S.iU,S.out,?_,eG S.re,eG S.va,λj aa=>?_,λj=>?_,S.ne,by rw[eb];exact S.wy,by rw[eb];exact S.wv⟩
 ·rw[eH (.inl S.ne)];exact S.ef
 ·rw[eH (.inl S.ne)];exact S.uw i hi
 ·obtain⟨cap,e⟩:=S.cs;exact⟨cap,by rw[eH (.inl S.ne)];exact e⟩
 ·unfold gl;by_cases e:64*i<=j/\j<64*i+64
  ·rw[if_pos e,hh S.va ag (by omega) (by rw[List.length_replicate];omega)];rw[List.getElem?_replicate,if_pos (by omega)];rfl
  ·have aA:j<i*64\/i*64+(List.replicate 64 (J.int .u8 0)).length<=j:=by rw[List.length_replicate];omega
   rw[if_neg e,eH (.inr aA)];exact S.xF j aa
 ·unfold gl;split
  ·omega
  ·exact S.blt j
def zZ(C:ad):Prop:=∀h (x:Nat),x<2 ^ 64->hr h->C (.fn 64) [.int .u64 (x:Int)] h=some (.ret (I (Lib.ctz 64 x:Nat)),h)
def B1(C:ad):Prop:=∀h k c5 n wd b,en h k c5 n wd b->hr h->
 ((∀j,j<n->bQ wd j=true)->C (.fn 17) [.ptr k 0] h=some (.ret (.bm [I 0,I 28]),h))/\
 (∀i,i<n->bQ wd i=false->(∀j,j<i->bQ wd j=true)->∃h',C (.fn 17) [.ptr k 0] h=some (.ret (.bm [I (i:Int),I 0]),h')/\
   en h' k c5 n (de wd (i/64) (q1 (wd (i/64)) (i%64))) (gl b i)/\aG h h' (λj=>j=k\/j=c5))
theorem ajT{C:ad}{lf:Nat}(aN:zZ C)(m9:hr h)(S:en h k c5 n wd b)(aJ r:aU)(av:cu){w:Nat}(hw:w<64)
 (bd:wd w=2 ^ 64-1\/n<=w*64+Lib.ctz 64 (2 ^ 64-1-wd w)):
 wI C lf aJ r av (some (.ptr k 0)) (some (I (w:Int))) h=aJ (some (.ptr k 0)) (some (I ((w+1:Nat):Int))) h:=by
 have h2:=S.cA;have oD:=S.uw w hw;have k4:=S.iU w;have b7:=lP (n:=64) (s:=1) (k:=k) (off:=1) (kd:= .i64) (i:=(w:Int)) (by omega) (by omega);rw[Int.toNat_natCast,Nat.mul_one] at b7;have rV:=aeK k4;have ar:2 ^ 64-1-wd w<2 ^ 64:=by omega
 have IY:=aN h _ ar m9
 have aE0:Lib.ctz 64 (2 ^ 64-1-wd w)<=64:=by
  by_cases h0:2 ^ 64-1-wd w=0
  ·simp[Lib.ctz,h0]
  ·exact Nat.le_of_lt (Lib.lowest_bit 64 _ h0 ar).2
 generalize a1:Lib.ctz 64 (2 ^ 64-1-wd w)=z at *;generalize bf:2 ^ 64-1-wd w=y at *;have ba:decide ((w:Int)<64)=true:=bu (by omega);have hmul:IntKind.i64.wrap ((w:Int)*64)=((w*64:Nat):Int):=cL (by omega);have iK:IntKind.i64.wrap (((w*64:Nat):Int)+(z:Int))=((w*64+z:Nat):Int):=cL (by omega);have dC:IntKind.i64.wrap ((w:Int)+1)=((w+1:Nat):Int):=cL (by omega);unfold wI;simp only[aE,ba,hmul,b7,oD,rV,IY,iK];by_cases Qe:wd w=2 ^ 64-1
 ·have aH:decide ((wd w:Int)=18446744073709551615)=true:=bu (by omega);simp only[aH,aE,dC]
 ·have aH:decide ((wd w:Int)=18446744073709551615)=false:=br (by omega)
  have P0:n<=w*64+z:=by
   rcases bd with bd|bd
   ·exact absurd bd Qe
   ·exact bd
  have oH:decide ((n:Int)<=((w*64+z:Nat):Int))=true:=bu (by omega);simp only[aH,aE,S.ef,oH,dC]
theorem ajR{C:ad}{lf:Nat}(aN:zZ C)(m9:hr h)(S:en h k c5 n wd b)(aJ r:aU)(av:cu){w:Nat}(hw:w<64){z:Nat}
 (a1:Lib.ctz 64 (2 ^ 64-1-wd w)=z)(wk:z<64)(Dp:(wd w).testBit z=false)(aO:w*64+z<n):
 ∃h',wI C lf aJ r av (some (.ptr k 0)) (some (I (w:Int))) h=r (some (I ((w*64+z:Nat):Int))) (some (I 0)) h'/\
  en h' k c5 n (de wd w (q1 (wd w) z)) (gl b (w*64+z))/\aG h h' (λj=>j=k\/j=c5):=by
 have h2:=S.cA;have oD:=S.uw w hw;have k4:=S.iU w;have b7:=lP (n:=64) (s:=1) (k:=k) (off:=1) (kd:= .i64) (i:=(w:Int)) (by omega) (by omega);rw[Int.toNat_natCast,Nat.mul_one] at b7;have rV:=aeK k4;have ar:2 ^ 64-1-wd w<2 ^ 64:=by omega
 have IY:=aN h _ ar m9;rw[a1] at IY;have ba:decide ((w:Int)<64)=true:=bu (by omega);have hmul:IntKind.i64.wrap ((w:Int)*64)=((w*64:Nat):Int):=cL (by omega);have iK:IntKind.i64.wrap (((w*64:Nat):Int)+(z:Int))=((w*64+z:Nat):Int):=cL (by omega)
 have b4:wd w≠2 ^ 64-1:=λe=>by
  rw[e,Nat.testBit_two_pow_sub_one,bu wk] at Dp;cases Dp
 have aH:decide ((wd w:Int)=18446744073709551615)=false:=br (by omega);have oH:decide ((n:Int)<=((w*64+z:Nat):Int))=false:=br (by omega)
 have ao8:(((w*64+z:Nat):Int)).tmod 64=(z:Int):=by
  rw[Int.tmod_eq_emod_of_nonneg (by omega)];omega
 have yC:=YL (P:=aw) (t:=55) (k:= .i64) wk;have AQ:=akB (P:=aw) (t:=55) k4 (show 2 ^ z<2 ^ 64 from Nat.pow_lt_pow_right (by omega) wk);have jg:wd w|||2 ^ z=q1 (wd w) z:=rfl
 rw[jg] at AQ;have dv:=hR (n:=1) (off:=1+w) (y:= .int .u64 (q1 (wd w) z:Int)) S.re rfl (by omega) rfl
 have jn:=S.ahj hw (afe k4 wk) (λc ae DI=>by
  have:c≠z:=by omega
  rw[afd,S.out w c hw ae DI];simp[this])
 have oF:hZ aw 110 [] []=some (.agg (List.replicate 64 (.int .u8 0))):=by kernel_rfl
 obtain⟨cap,eA⟩:=jn.cs;have v8:=gV (s:=64) (k:=c5) (off:=0) (len:=n) (lo:=0) (cap:=cap) (kd:= .i64) (i:=((w*64+z:Nat):Int)) (by omega) (by omega);rw[Int.toNat_natCast,Nat.zero_add] at v8;have Qm:=hR (n:=64) (off:=(w*64+z)*64) (y:= .agg (List.replicate 64 (.int .u8 0))) jn.va rfl (by omega) rfl;refine⟨_,?_,jn.aEC aO,(fa (.inl rfl)).trans (fa (.inr rfl))⟩;unfold wI;simp only[aE,ba,hmul,b7,oD,rV,IY,iK,aH,S.ef,oH,h6 (show(64:Int)≠0 by omega),ao8,yC,AQ,dv];have az:(J.int .u64 (q1 (wd w) z:Int)).cells=[.int .u64 (q1 (wd w) z:Int)]:=rfl;have aA:(J.agg (List.replicate 64 (.int .u8 0))).cells=List.replicate 64 (.int .u8 0):=rfl;rw[az];simp only[aE,eA,oF,v8,Qm,aA]
theorem ajS{C:ad}{lf:Nat}(aN:zZ C)(m9:hr h)(S:en h k c5 n wd b)(r:aU)(av:cu):∀(d:Nat) (w:Nat),w+d=64->∀f,d<f->
 ((∀j,j<n->bQ wd j=true)->bq (r5 C lf r av) f (some (.ptr k 0),some (I (w:Int))) h=av h)/\
 (∀i,i<n->w*64<=i->bQ wd i=false->(∀j,j<i->bQ wd j=true)->∃h',bq (r5 C lf r av) f (some (.ptr k 0),some (I (w:Int))) h=r (some (I (i:Int))) (some (I 0)) h'/\
   en h' k c5 n (de wd (i/64) (q1 (wd (i/64)) (i%64))) (gl b i)/\aG h h' (λj=>j=k\/j=c5)):=by
 intro d
 induction d with
 |zero=>
  intro w hw f an;obtain⟨f,rfl⟩:=dK f (by omega);have h2:=S.cA;refine⟨λ_=>?_,λi hi apo=>by omega⟩;rw[dr];unfold r5 wI;have ba:decide ((w:Int)<64)=false:=br (by omega);simp only[aE,ba]
 |succ d bc=>
  intro w hw f an;obtain⟨f,rfl⟩:=dK f (by omega);have h2:=S.cA;have k4:=S.iU w;have ar:2 ^ 64-1-wd w<2 ^ 64:=by omega
  have I0:w<64:=by omega
  obtain⟨D4,D5⟩:=bc (w+1) (by omega) f (by omega)
  have step:(wd w=2 ^ 64-1\/n<=w*64+Lib.ctz 64 (2 ^ 64-1-wd w))->bq (r5 C lf r av) (f+1) (some (.ptr k 0),some (I (w:Int))) h=bq (r5 C lf r av) f (some (.ptr k 0),some (I ((w+1:Nat):Int))) h:=by
   intro bd;rw[dr];show wI C lf (λx0 x9 h=>bq (r5 C lf r av) f (x0,x9) h) r av (some (.ptr k 0)) (some (I (w:Int))) h=_;rw[ajT aN m9 S _ r av I0 bd]
  have Jt:∀c,c<64->(wd w).testBit c=bQ wd (w*64+c):=λc ae=>by
   unfold bQ;rw[show(w*64+c)/64=w by omega,show(w*64+c)%64=c by omega]
  refine⟨λfP=>?_,λi hi apo jL eZ=>?_⟩
  ·rw[step ?_];exact D4 fP;by_cases Qe:wd w=2 ^ 64-1
   ·exact .inl Qe
   ·right
    apply Nat.le_of_not_lt;intro ba;have h0:2 ^ 64-1-wd w≠0:=by omega
    have ae:=(Lib.lowest_bit 64 _ h0 ar)
    have Dp:(2 ^ 64-1-wd w).testBit (Lib.ctz 64 (2 ^ 64-1-wd w))=true:=by
     have h3:((2 ^ 64-1-wd w)&&& (2 ^ 64-(2 ^ 64-1-wd w))).testBit (Lib.ctz 64 (2 ^ 64-1-wd w))=true:=by
      rw[ae.1,Nat.testBit_two_pow_self]
     rw[Nat.testBit_and,Bool.and_eq_true] at h3;exact h3.1
    rw[Lk k4,bu ae.2,Bool.true_and,Jt _ ae.2,fP _ ba] at Dp;cases Dp
  ·by_cases aoC:i/64=w
   ·have wk:i%64<64:=by omega
    have acX:w*64+i%64=i:=by omega
    have ID:(wd w).testBit (i%64)=false:=by rw[Jt _ wk,acX];exact jL
    have a1:Lib.ctz 64 (2 ^ 64-1-wd w)=i%64:=by
     refine alR ar ?_ λd aH=>?_
     ·rw[Lk k4,ID,bu wk];rfl
     ·rw[Lk k4,Jt d (by omega),eZ _ (by omega)];simp
    obtain⟨h',az,aA,cj⟩:=ajR (lf:=lf) aN m9 S (λx0 x9 h=>bq (r5 C lf r av) f (x0,x9) h) r av I0 a1 wk ID (by omega);rw[acX] at az aA;refine⟨h',?_,?_,cj⟩
    ·rw[dr];exact az
    ·rw[aoC];exact aA
   ·rw[step ?_]
    ·exact D5 i hi (by omega) jL eZ
    ·left
     refine amA k4 λc ae=>?_
     rw[Jt c ae];exact eZ _ (by omega)
theorem ajU{C:ad}{lf:Nat}(gu:65<=lf)(hm:sD C)(aN:zZ C)(S:en h k c5 n wd b)(m9:hr h):
 ((∀j,j<n->bQ wd j=true)->As C lf (.ptr k 0) h=some (.ret (.bm [I 0,I 28]),h))/\
 (∀i,i<n->bQ wd i=false->(∀j,j<i->bQ wd j=true)->∃h',As C lf (.ptr k 0) h=some (.ret (.bm [I (i:Int),I 0]),h')/\
   en h' k c5 n (de wd (i/64) (q1 (wd (i/64)) (i%64))) (gl b i)/\aG h h' (λj=>j=k\/j=c5)):=by
 obtain⟨cb,cV⟩:=ajS (lf:=lf) aN m9 S Al (λh=>JP C lf Al h) 64 0 rfl lf (by omega)
 have v5:As C lf (.ptr k 0) h=bq (r5 C lf Al (λh=>JP C lf Al h)) lf (some (.ptr k 0),some (I ((0:Nat):Int))) h:=by
  unfold As Sw Sv Su St;simp only[aE,hm _ _ _ _ _ _ S,Bool.not_true];rfl
 rw[v5];refine⟨λfP=>?_,λi hi jL eZ=>?_⟩
 ·rw[cb fP];rfl
 ·obtain⟨h',az,aA,cj⟩:=cV i hi (by omega) jL eZ;exact⟨h',by rw[az];rfl,aA,cj⟩
end
section
variable{lf m:Nat}{h:U}{k c5 n:Nat}{wd b:Nat->Nat}
theorem en.frame(S:en h k c5 n wd b){h':U}(aO:h.next<=h'.next)(ai:cQ h h' k)(aH:cQ h h' c5):en h' k c5 n wd b:=
 ⟨S.cH,S.cA,by rw[ai.cell];exact S.ef,λi hi=>by rw[ai.cell];exact S.uw i hi,S.iU,S.out,(let ⟨cap,e⟩:=S.cs;⟨cap,by rw[ai.cell];exact e⟩),
   let ⟨q,a,c⟩:=S.re;⟨q,by rw[ai.mt];exact a,c⟩,let ⟨q,a,c⟩:=S.va;⟨q,by rw[aH.mt];exact a,c⟩,λj aa=>by rw[aH.cell];exact S.xF j aa,S.blt,S.ne,Nat.lt_of_lt_of_le S.wy aO,Nat.lt_of_lt_of_le S.wv aO⟩
theorem en.hK(S:en h k c5 n wd b){h':U}{Q:Nat->Prop}(F:aG h h' Q)(h1:¬Q k)(h2:¬Q c5):en h' k c5 n wd b:=S.frame F.next (F.same _ S.wy h1) (F.same _ S.wv h2)
theorem aG.new(h:U)(o:bH)(S:Nat->Prop):aG h (h.new o) S:=ow h o S
def Mk(C:ad):Prop:=∀h (n:Int), -9223372036854775808<=n->n<9223372036854775808->
 ((n<1\/4096<n)->C (.fn 16) [I n] h=some (.ret (.bm [.val (.pointer none),I 22]),h))/\
 (1<=n->n<=4096->∃h',C (.fn 16) [I n] h=some (.ret (.bm [.ptr (h.next+1) 0,I 0]),h')/\h'.next=h.next+2/\
   en h' (h.next+1) h.next n.toNat (λ_=>0) (λ_=>0)/\aG h h' (λ_=>False))
theorem aqW{C:ad}{lf:Nat}{n:Int}:
 ((n<1\/4096<n)->CR C lf (I n) h=some (.ret (.bm [.val (.pointer none),I 22]),h))/\
 (1<=n->n<=4096->∃h',CR C lf (I n) h=some (.ret (.bm [.ptr (h.next+1) 0,I 0]),h')/\h'.next=h.next+2/\
   en h' (h.next+1) h.next n.toNat (λ_=>0) (λ_=>0)/\aG h h' (λ_=>False)):=by
 unfold CR Ss N2;simp only[aE];refine⟨λaO=>?_,λh1 h2=>?_⟩
 ·by_cases h1:n<1
  ·simp only[bu h1,aE]
  ·have h2:4096<n:=by omega
   simp only[br h1,bu h2,aE]
 ·have d1:decide (n<1)=false:=br (by omega);have d2:decide ((4096:Int)<n)=false:=br (by omega);obtain⟨N,rfl⟩:∃N:Nat,n=N:=⟨n.toNat,by omega⟩;have a1:hb aw 110=some (.agg (Array.replicate 64 (.int .u8 0))):=by kernel_rfl
  have ae:(db (.agg (Array.replicate 64 (.int .u8 0)))).cells=List.replicate 64 (.int .u8 0):=rfl
  have lL:=zF (P:=aw) (t:=57) (e:=110) (s:=64) (b:=64) (k1:= .i64) (k2:= .i64) (l:=N) (c:=N) (h:=h)
   Tryd.underlying57 (by kernel_rfl) a1 (by kernel_rfl) (Nat.le_refl _) (by omega) (by omega) (by rw[ae];rfl) (by omega)
  rw[ae] at lL;have oF:hZ aw 59 [0,2] [I (N:Int),.aZ h.next 0 N (some N) 0]=some (.agg (I (N:Int)::(List.replicate 64 (.int .u64 0)++[.aZ h.next 0 N (some N) 0]))):=by kernel_rfl
  have gR:=w9 (e:=59) (x:= .agg (I (N:Int)::(List.replicate 64 (.int .u64 0)++[.aZ h.next 0 N (some N) 0]))) (h:=h.new (iR 110 (N*64) (List.replicate 64 (.int .u8 0)))) rfl;simp only[d1,d2,aE,lL,oF,gR,im];refine⟨_,rfl,rfl,?_,(aG.new _ _ _).trans (aG.new _ _ _)⟩;rw[Int.toNat_natCast]
  have eD:∀i,(((h.new (iR 110 (N*64) (List.replicate 64 (.int .u8 0)))).new (dJ 59 (J.agg (I (N:Int)::(List.replicate 64 (.int .u64 0)++[.aZ h.next 0 N (some N) 0]))).cells)).cell (h.next+1) i)=
   (J.int .i64 (N:Int)::(List.replicate 64 (.int .u64 0)++[.aZ h.next 0 N (some N) 0]))[i]?:=λi=>by
   rw[show h.next+1=(h.new (iR 110 (N*64) (List.replicate 64 (.int .u8 0)))).next from rfl,l6,oR];rfl
  refine⟨by omega,by omega,?_,λi hi=>?_,λi=>by omega,λi c _ _ _=>Nat.zero_testBit c,?_,?_,?_,λj aa=>?_,λj=>by omega,by omega,by simp,by simp;omega⟩
  ·rw[eD];rfl
  ·rw[eD,show 1+i=i+1 by omega,List.getElem?_cons_succ,List.getElem?_append_left (by simp;omega),List.getElem?_replicate,if_pos hi];rfl
  ·exact⟨some N,by rw[eD];rfl⟩
  ·exact lZ (h:=h.new (iR 110 (N*64) (List.replicate 64 (.int .u8 0)))) rfl
  ·exact FI (lZ (h:=h) rfl) (by simp)
  ·rw[G0 (by simp),l6,y9 _ _ aa,List.length_replicate,List.getElem?_replicate,if_pos (by omega)];rfl
def sR(b:Nat->Nat)(i:Nat):List J:=(List.range 64).map λj=> .int .u8 (b (i*64+j):Int)
def Gz(C:ad):Prop:=∀h k c5 n wd b i,en h k c5 n wd b-> -9223372036854775808<=i->i<9223372036854775808->
 (gH n wd i=false->C (.fn 21) [.ptr k 0,I i] h=some (.ret (.bm [.val (.slice none 0 0),I 22]),h))/\
 (gH n wd i=true->∃h',C (.fn 21) [.ptr k 0,I i] h=some (.ret (.bm [.aZ h.next 0 64 (some 64) 0,I 0]),h')/\h'.next=h.next+1/\
   h'.wr h.next 64/\(∀j,j<64->h'.cell h.next j=some (.int .u8 (b (i.toNat*64+j):Int)))/\aG h h' (λ_=>False))
theorem azW{C:ad}{lf:Nat}(hm:sD C)(hi:xn C)(S:en h k c5 n wd b){i:Int}(cb: -9223372036854775808<=i)(cV:i<9223372036854775808):
 (gH n wd i=false->CT C lf (.ptr k 0) (I i) h=some (.ret (.bm [.val (.slice none 0 0),I 22]),h))/\
 (gH n wd i=true->∃h',CT C lf (.ptr k 0) (I i) h=some (.ret (.bm [.aZ h.next 0 64 (some 64) 0,I 0]),h')/\h'.next=h.next+1/\
   h'.wr h.next 64/\(∀j,j<64->h'.cell h.next j=some (.int .u8 (b (i.toNat*64+j):Int)))/\aG h h' (λ_=>False)):=by
 unfold CT SQ N4;simp only[aE,hm _ _ _ _ _ _ S,hi _ _ _ _ _ _ _ S cb cV,Bool.not_true];refine⟨λhu=>?_,λhu=>?_⟩
 ·simp only[hu,Bool.not_false,aE]
 ·have gU:=hu;simp only[gH,Bool.and_eq_true,decide_eq_true_eq] at gU;obtain⟨h3,aW,_⟩:=gU;obtain⟨c7,rfl⟩:∃c7:Nat,i=c7:=⟨i.toNat,by omega⟩;obtain⟨cap,aoh⟩:=S.cs;have v8:=gV (s:=64) (k:=c5) (off:=0) (len:=n) (lo:=0) (cap:=cap) (kd:= .i64) (i:=(c7:Int)) (by omega) (by omega);rw[Int.toNat_natCast,Nat.zero_add] at v8;obtain⟨md,nf,aI,aO⟩:=S.va
  have eA:h.cells c5 (c7*64) 64=some (sR b c7):=by
   refine lE (by simp[sR]) λj aa=>?_
   rw[S.xF _ (by omega)];simp[sR,aa]
  have lK:fu 64 (.ptr c5 (c7*64)) h=some (.agg (sR b c7)):=by rw[n2 nf,eA];rfl
  have a1:hb aw 110=some (.agg (Array.replicate 64 (.int .u8 0))):=by kernel_rfl
  have IB:=rf (P:=aw) (e:=110) (h:=h) a1;have ae:(db (.agg (Array.replicate 64 (.int .u8 0)))).cells=List.replicate 64 (.int .u8 0):=rfl;rw[ae] at IB;have hw:(h.new (dJ 110 (List.replicate 64 (.int .u8 0)))).wr h.next 64:=lZ (o:=dJ _ (List.replicate 64 (.int .u8 0))) rfl
  have gw:dZ (sR b c7)=true:=by
   have:∀l:List Nat,dZ (l.map λj=>J.int .u8 (b (c7*64+j):Int))=true:=λl=>by
    induction l with
    |nil=>rfl
    |cons x l bc=>simp[dZ,bc,J.one]
   exact this _
  have dv:=hR (n:=64) (off:=0) (y:= .agg (sR b c7)) hw (by simp[sR,J.cells]) (by omega) gw;have ks:fX aw 110 (.ptr h.next 0) none none=some (.aZ h.next 0 64 (some 64) 0):=by kernel_rfl
  simp only[hu,Bool.not_true,aE,aoh,v8,lK,IB,dv,ks];refine⟨_,rfl,by simp,eG hw,λj aa=>?_,⟨by simp,by simp,λj aa _=>(iu _ _ _ (by omega)).trans (n4 h _ (by omega)),λan=>Ap (xV an _) _ _ _⟩⟩;rw[hh hw (by simp[sR,J.cells]) (by omega) (by simp[sR,J.cells,aa])];simp[sR,J.cells,aa]
end
section
variable{lf m:Nat}{h:U}{k c5 n:Nat}{wd b:Nat->Nat}
def over(b:Nat->Nat)(at_:Nat)(l:List Nat):Nat->Nat:=λj=>if at_<=j/\j<at_+l.length then l.getD (j-at_) 0 else b j
theorem en.air(S:en h k c5 n wd b){p:Nat}{l:List Nat}(aL:∀c∈l,c<256)(aC:p+l.length<=n*64):en (h.set c5 p (jk l)) k c5 n wd (over b p l):=by
 have ag:p+(jk l).length<=n*64:=by rw[zv];exact aC
 refine⟨S.cH,S.cA,?_,λi hi=>?_,S.iU,S.out,?_,eG S.re,eG S.va,λj aa=>?_,λj=>?_,S.ne,by rw[eb];exact S.wy,by rw[eb];exact S.wv⟩
 ·rw[eH (.inl S.ne)];exact S.ef
 ·rw[eH (.inl S.ne)];exact S.uw i hi
 ·obtain⟨cap,e⟩:=S.cs;exact⟨cap,by rw[eH (.inl S.ne)];exact e⟩
 ·unfold over;by_cases e:p<=j/\j<p+l.length
  ·rw[if_pos e,hh S.va ag e.1 (by rw[zv];exact e.2),Lr l (by omega)]
  ·rw[if_neg e,eH (.inr (by rw[zv];omega))];exact S.xF j aa
 ·unfold over;split
  ·rename_i e;have h1:j-p<l.length:=by omega
   have:l.getD (j-p) 0=l[j-p]:=by simp[List.getD,h1]
   rw[this];exact aL _ (List.getElem_mem h1)
  ·exact S.blt j
def uq(n:Nat)(wd:Nat->Nat)(i at_:Int)(l:List Nat):Prop:=gH n wd i=false\/at_<0\/64<at_\/64-at_<l.length
def Cl(C:ad):Prop:=∀h k c5 n wd b (i at_:Int) x l,en h k c5 n wd b->Bytes h x l->l.length<=140737488355328-> -9223372036854775808<=i->i<9223372036854775808-> -9223372036854775808<=at_->at_<9223372036854775808->
 (uq n wd i at_ l->C (.fn 18) [.ptr k 0,I i,I at_,x] h=some (.ret (I 22),h))/\
 (¬uq n wd i at_ l->∃h',C (.fn 18) [.ptr k 0,I i,I at_,x] h=some (.ret (I 0),h')/\en h' k c5 n wd (over b (i.toNat*64+at_.toNat) l)/\h'.next=h.next/\aG h h' (· =c5))
theorem aDx{C:ad}{lf:Nat}(hm:sD C)(hi:xn C)(S:en h k c5 n wd b){i at_:Int}{x:J}{l:List Nat}(B:Bytes h x l)(aL:l.length<=140737488355328)
 (cb: -9223372036854775808<=i)(cV:i<9223372036854775808)(ak: -9223372036854775808<=at_)(aD:at_<9223372036854775808):
 (uq n wd i at_ l->CS C lf (.ptr k 0) (I i) (I at_) x h=some (.ret (I 22),h))/\
 (¬uq n wd i at_ l->∃h',CS C lf (.ptr k 0) (I i) (I at_) x h=some (.ret (I 0),h')/\en h' k c5 n wd (over b (i.toNat*64+at_.toNat) l)/\h'.next=h.next/\aG h h' (· =c5)):=by
 have hlen:=qQ (P:=aw) Tryd.underlying24 B;unfold CS Sx N3;simp only[aE,hm _ _ _ _ _ _ S,hi _ _ _ _ _ _ _ S cb cV,Bool.not_true];refine⟨λyd=>?_,λyd=>?_⟩
 ·cases hu:gH n wd i with
  |false=>simp only[Bool.not_false,aE]
  |true=>
   by_cases h1:at_<0
   ·simp only[Bool.not_true,bu h1,aE]
   ·by_cases h2:64<at_
    ·simp only[Bool.not_true,br h1,bu h2,aE]
    ·have h3:64-at_<l.length:=by
      rcases yd with h|h|h|h
      ·rw[hu] at h;cases h
      ·exact absurd h h1
      ·exact absurd h h2
      ·exact h
     have al:IntKind.i64.wrap (64-at_)=64-at_:=wrap_i64 (by omega) (by omega);simp only[Bool.not_true,br h1,br h2,aE,hlen,al,bu h3]
 ·unfold uq at yd
  have hu:gH n wd i=true:=by
   cases hu:gH n wd i with
   |true=>rfl
   |false=>exact absurd (.inl hu) yd
  have h1:¬at_<0:=λh=>yd (.inr (.inl h))
  have h2:¬64<at_:=λh=>yd (.inr (.inr (.inl h)))
  have h3:¬64-at_<l.length:=λh=>yd (.inr (.inr (.inr h)))
  have al:IntKind.i64.wrap (64-at_)=64-at_:=wrap_i64 (by omega) (by omega);have gU:=hu;simp only[gH,Bool.and_eq_true,decide_eq_true_eq] at gU;obtain⟨bz,bB,_⟩:=gU;obtain⟨c7,rfl⟩:∃c7:Nat,i=c7:=⟨i.toNat,by omega⟩;obtain⟨a,rfl⟩:∃a:Nat,at_=a:=⟨at_.toNat,by omega⟩;obtain⟨cap,eA⟩:=S.cs;have v8:=gV (s:=64) (k:=c5) (off:=0) (len:=n) (lo:=0) (cap:=cap) (kd:= .i64) (i:=(c7:Int)) (by omega) (by omega);rw[Int.toNat_natCast,Nat.zero_add] at v8;obtain⟨sf,ks,jf,AP⟩:=aBu (P:=aw) (k:=c5) (off:=c7*64) (l:=a) (kd:= .i64) Tryd.underlying110 (s:=1) (by kernel_rfl) (by omega)
  have eL:=alI (P:=aw) (t:=24) (t2:=24) (kd:=c5) (od:=sf) (ld:=64-a) (lo:=0) (cap:=some (64-a)) Tryd.underlying24 (by kernel_rfl) B S.va (by
   by_cases h:a<64
   ·rw[jf h];omega
   ·rw[AP (by omega)];omega)
  have wb:min l.length (64-a)=l.length:=by omega
  rw[wb,List.take_length] at eL;simp only[hu,Bool.not_true,br h1,br h2,aE,hlen,al,br h3,eA,v8,ks,eL]
  have jL:en (h.set c5 sf (jk l)) k c5 n wd (over b (c7*64+a) l):=by
   by_cases h:a<64
   ·rw[jf h,Nat.mul_one];exact S.air B.1 (by omega)
   ·have uI:l=[]:=List.eq_nil_of_length_eq_zero (by omega);subst uI
    have e:over b (c7*64+a) []=over b sf []:=by
     funext j;unfold over;simp only[List.length_nil,Nat.add_zero];rw[if_neg (by omega),if_neg (by omega)]
    rw[e];exact S.air B.1 (by rw[AP (by omega)];simp;omega)
  exact⟨_,rfl,by simpa using jL,by simp,fa rfl⟩
end
structure ei where
 a9:Nat
 bO:Nat
 kd:Nat
 aJ:Nat
structure bx (h:U) (T:ei) (n N:Nat) (wd b:Nat->Nat) (now:Int) (us:Nat->Bool) (nd:Nat->Nat->J):Prop where
 pd:1<=N
 gN:N<=4096
 st:en h T.bO T.kd n wd b
 c0:h.cell T.a9 0=some (.ptr T.bO 0)
 aS:h.cell T.a9 1=some (.aZ T.aJ 0 N (some N) 0)
 a2:h.cell T.a9 2=some (I now)
 wt:h.wr T.a9 3
 wn:h.wr T.aJ (N*308)
 ef:∀i c,i<N->c<308->h.cell T.aJ (i*308+c)=some (nd i c)
 lX:∀i,i<N->nd i 0= .bool (us i)
 d1:T.a9≠T.bO
 d2:T.a9≠T.kd
 d3:T.a9≠T.aJ
 d4:T.aJ≠T.bO
 d5:T.aJ≠T.kd
 lt:T.a9<h.next
 lb:T.aJ<h.next
def a4(k:Nat):Nat:=if k<6 then 12+k else if k<22 then 19+(k-6) else 37+17*((k-22)/16)+(k-22)%16
section
variable{lf:Nat}{h:U}{T:ei}{n N:Nat}{wd b:Nat->Nat}{now:Int}{us:Nat->Bool}{nd:Nat->Nat->J}
def qb(C:ad):Prop:=∀h T n N wd b now us nd,bx h T n N wd b now us nd->C (.fn 73) [.ptr T.a9 0] h=some (.ret (.bool true),h)
theorem apN{C:ad}(A:bx h T n N wd b now us nd):H6 C lf (.ptr T.a9 0) h=some (.ret (.bool true),h):=by
 have h1:=M7 (k:=T.a9) (off:=0) Tryd.underlying64;have h2:=M7 (k:=T.bO) (off:=0) Tryd.underlying25;unfold H6 UE OB;simp only[aE,h1,A.c0,h2]
def c8(N:Nat)(us:Nat->Bool)(ino:Int):Bool:=decide (1<=ino)&&(decide (ino<=N)&&us (ino.toNat-1))
def zO(C:ad):Prop:=∀h T n N wd b now us nd ino,bx h T n N wd b now us nd-> -9223372036854775808<=ino->ino<9223372036854775808->C (.fn 62) [.ptr T.a9 0,I ino] h=some (.ret (.bool (c8 N us ino)),h)
theorem apK{C:ad}(aN:qb C)(A:bx h T n N wd b now us nd){ino:Int}:HY C lf (.ptr T.a9 0) (I ino) h=some (.ret (.bool (c8 N us ino)),h):=by
 have aL:eE aw 100 (.aZ T.aJ 0 N (some N) 0)=some (I (N:Int)):=by
  simp[eE,Tryd.underlying100]
 unfold HY Uj Ou;simp only[aE,aN _ _ _ _ _ _ _ _ _ A];by_cases h1:1<=ino
 ·by_cases h2:ino<=N
  ·have jK:=A.gN;obtain⟨c7,rfl⟩:∃c7:Nat,ino=((c7+1:Nat):Int):=⟨ino.toNat-1,by omega⟩;have bV:c7<N:=by omega
   have al:IntKind.i64.wrap (((c7+1:Nat):Int)-1)=(c7:Int):=cL (by omega);have b7:=gV (s:=308) (k:=T.aJ) (off:=0) (len:=N) (lo:=0) (cap:=some N) (kd:= .i64) (i:=(c7:Int)) (by omega) (by omega);rw[Int.toNat_natCast,Nat.zero_add] at b7;have ae:=A.ef c7 0 bV (by omega);rw[Nat.add_zero,A.lX c7 bV] at ae
   have ag:c8 N us ((c7+1:Nat):Int)=us c7:=by
    simp only[c8,bu h1,bu h2,Bool.true_and];congr 1
   simp only[bu h1,aE,A.aS,aL,bu h2,al,b7,Nat.add_zero,ae,ag]
  ·have ag:c8 N us ino=false:=by simp[c8,h2]
   simp only[bu h1,aE,A.aS,aL,br h2,ag]
 ·have ag:c8 N us ino=false:=by simp[c8,h1]
  simp only[br h1,aE,ag]
def l3(C:ad):Prop:=∀h T n N wd b now us nd ino,bx h T n N wd b now us nd-> -9223372036854775808<=ino->ino<9223372036854775808->
 C (.fn 74) [.ptr T.a9 0,I ino] h=some (.ret (if c8 N us ino then .bm [.ptr T.aJ ((ino.toNat-1)*308),I 0] else .bm [.val (.pointer none),I 2]),h)
theorem anr{C:ad}(aN:qb C)(hi:zO C)(A:bx h T n N wd b now us nd){ino:Int}(cb: -9223372036854775808<=ino)(cV:ino<9223372036854775808):
 H7 C lf (.ptr T.a9 0) (I ino) h=some (.ret (if c8 N us ino then .bm [.ptr T.aJ ((ino.toNat-1)*308),I 0] else .bm [.val (.pointer none),I 2]),h):=by
 unfold H7 UF OC;simp only[aE,aN _ _ _ _ _ _ _ _ _ A,Bool.not_true,hi _ _ _ _ _ _ _ _ _ _ A cb cV];cases ag:c8 N us ino with
 |false=>simp only[Bool.not_false,aE];rfl
 |true=>
  have jK:=A.gN;have iL:=ag;simp only[c8,Bool.and_eq_true,decide_eq_true_eq] at iL;obtain⟨h1,h2,_⟩:=iL;obtain⟨c7,rfl⟩:∃c7:Nat,ino=((c7+1:Nat):Int):=⟨ino.toNat-1,by omega⟩;have al:IntKind.i64.wrap (((c7+1:Nat):Int)-1)=(c7:Int):=cL (by omega);have b7:=gV (s:=308) (k:=T.aJ) (off:=0) (len:=N) (lo:=0) (cap:=some N) (kd:= .i64) (i:=(c7:Int)) (by omega) (by omega);rw[Int.toNat_natCast,Nat.zero_add] at b7;have e:(((c7+1:Nat):Int).toNat-1)=c7:=by omega
  simp only[Bool.not_true,aE,A.aS,al,b7,e];rfl
def sF(C:ad):Prop:=∀h k o (i:Nat),i<278->C (.fn 76) [.ptr k o,I (i:Int)] h=some (.ret (.ptr k (o+a4 i)),h)
theorem arL{C:ad}{k o i:Nat}(hi:i<278):H8 C lf (.ptr k o) (I (i:Int)) h=some (.ret (.ptr k (o+a4 i)),h):=by
 unfold H8 UO OD;simp only[aE];by_cases h1:i<6
 ·have d1:decide ((i:Int)<6)=true:=bu (by omega);have b7:=lP (n:=6) (s:=1) (k:=k) (off:=o+12) (kd:= .i64) (i:=(i:Int)) (by omega) (by omega);simp only[d1,aE,b7,Int.toNat_natCast];rw[a4,if_pos h1,Nat.add_assoc]
 ·have d1:decide ((i:Int)<6)=false:=br (by omega);by_cases h2:i<22
  ·have d2:decide ((i:Int)<22)=true:=bu (by omega);have al:IntKind.i64.wrap ((i:Int)-6)=((i-6:Nat):Int):=cL (by omega);have b7:=lP (n:=16) (s:=1) (k:=k) (off:=o+18+1) (kd:= .i64) (i:=((i-6:Nat):Int)) (by omega) (by omega);simp only[d1,d2,aE,al,b7,Int.toNat_natCast];rw[a4,if_neg h1,if_pos h2,show o+18+1+(i-6)=o+(19+(i-6)) by omega]
  ·have d2:decide ((i:Int)<22)=false:=br (by omega);have al:IntKind.i64.wrap ((i:Int)-22)=((i-22:Nat):Int):=cL (by omega)
   have a0:IntKind.i64.wrap (((i-22:Nat):Int).tdiv 16)=(((i-22)/16:Nat):Int):=by
    rw[Int.tdiv_eq_ediv_of_nonneg (by omega),wrap_i64 (by omega) (by omega)];rfl
   have aI:((i-22:Nat):Int).tmod 16=(((i-22)%16:Nat):Int):=by
    rw[Int.tmod_eq_emod_of_nonneg (by omega)];rfl
   have b7:=lP (n:=16) (s:=17) (k:=k) (off:=o+36) (kd:= .i64) (i:=(((i-22)/16:Nat):Int)) (by omega) (by omega);have acY:=lP (n:=16) (s:=1) (k:=k) (off:=o+36+(i-22)/16*17+1) (kd:= .i64) (i:=(((i-22)%16:Nat):Int)) (by omega) (by omega);rw[Int.toNat_natCast] at b7 acY;simp only[d1,d2,aE,al,lD (show(16:Int)≠0 by omega),h6 (show(16:Int)≠0 by omega),a0,aI,b7,acY];rw[a4,if_neg h1,if_neg h2,show o+36+(i-22)/16*17+1+(i-22)%16=o+(37+17*((i-22)/16)+(i-22)%16) by omega]
end
def cT(nd:Nat->Nat->J)(i c:Nat)(y:J):Nat->Nat->J:=λi' a3=>if i'=i/\a3=c then y else nd i' a3
theorem mU(nd:Nat->Nat->J)(i c:Nat)(y:J):cT nd i c y i c=y:=if_pos ⟨rfl,rfl⟩
theorem ho(nd:Nat->Nat->J){i c i' a3:Nat}(y:J)(h:i'≠i\/a3≠c):cT nd i c y i' a3=nd i' a3:=if_neg (by omega)
section
variable{lf:Nat}{h h':U}{T:ei}{n N:Nat}{wd b dg b':Nat->Nat}{now:Int}{us:Nat->Bool}{nd:Nat->Nat->J}
theorem bx.store(A:bx h T n N wd b now us nd)(S:en h' T.bO T.kd n dg b')(aO:h.next<=h'.next)(h1:cQ h h' T.a9)(h2:cQ h h' T.aJ):bx h' T n N dg b' now us nd:=
 ⟨A.pd,A.gN,S,by rw[h1.cell];exact A.c0,by rw[h1.cell];exact A.aS,by rw[h1.cell];exact A.a2,let ⟨q,a,c⟩:=A.wt;⟨q,by rw[h1.mt];exact a,c⟩,
   let ⟨q,a,c⟩:=A.wn;⟨q,by rw[h2.mt];exact a,c⟩,λi c hi ae=>by rw[h2.cell];exact A.ef i c hi ae,A.lX,A.d1,A.d2,A.d3,A.d4,A.d5,Nat.lt_of_lt_of_le A.lt aO,Nat.lt_of_lt_of_le A.lb aO⟩
theorem bx.frame(A:bx h T n N wd b now us nd)(aO:h.next<=h'.next)(al:∀j,j=T.a9\/j=T.bO\/j=T.kd\/j=T.aJ->cQ h h' j):bx h' T n N wd b now us nd:=
 A.store (A.st.frame aO (al _ (.inr (.inl rfl))) (al _ (.inr (.inr (.inl rfl))))) aO (al _ (.inl rfl)) (al _ (.inr (.inr (.inr rfl))))
theorem bx.setNode(A:bx h T n N wd b now us nd){i c:Nat}{y:J}(hi:i<N)(ae:c<308)(h0:c≠0):bx (h.set T.aJ (i*308+c) [y]) T n N wd b now us (cT nd i c y):=by
 have ag:i*308+c+[y].length<=N*308:=by simp;omega
 refine⟨A.pd,A.gN,A.st.frame (Nat.le_of_eq (eb ..).symm) (iu _ _ _ (λe=>A.d4 e.symm)) (iu _ _ _ (λe=>A.d5 e.symm)),?_,?_,?_,eG A.wt,eG A.wn,λi' a3 cF fr=>?_,λi' cF=>?_,A.d1,A.d2,A.d3,A.d4,A.d5,by rw[eb];exact A.lt,by rw[eb];exact A.lb⟩
 ·rw[eH (.inl A.d3)];exact A.c0
 ·rw[eH (.inl A.d3)];exact A.aS
 ·rw[eH (.inl A.d3)];exact A.a2
 ·by_cases e:i'=i/\a3=c
  ·obtain⟨rfl,rfl⟩:=e;rw[hh A.wn ag (Nat.le_refl _) (by simp),mU];simp
  ·rw[eH (.inr (by simp;omega)),ho _ _ (by omega)];exact A.ef i' a3 cF fr
 ·rw[ho _ _ (.inr (λe=>h0 e.symm))];exact A.lX i' cF
theorem wV(A:bx h T n N wd b now us nd){i c:Nat}{y:J}(hi:i<N)(ae:c<308)(h1:y.cells=[y])(h2:dZ [y]=true):st 1 (.ptr T.aJ (i*308+c)) y h=some (h.set T.aJ (i*308+c) [y]):=by
 have:=hR (n:=1) (off:=i*308+c) (y:=y) A.wn (by rw[h1];rfl) (by omega) (by rw[h1];exact h2)
 rw[h1] at this;exact this
def vo(C:ad):Prop:=∀h T n N wd b now us nd i c (v:Nat),bx h T n N wd b now us nd->i<N->c<308->c≠0->nd i c=I (v:Int)->v<=n->
 (v=0->C (.fn 91) [.ptr T.a9 0,.ptr T.aJ (i*308+c)] h=some (.ret (.bm []),h))/\
 (0<v->bQ wd (v-1)=true->∃h',C (.fn 91) [.ptr T.a9 0,.ptr T.aJ (i*308+c)] h=some (.ret (.bm []),h')/\
   bx h' T n N (de wd ((v-1)/64) (sT (wd ((v-1)/64)) ((v-1)%64))) b now us (cT nd i c (I 0))/\aG h h' (λj=>j=T.bO\/j=T.aJ))
theorem al9{C:ad}(an:B7 C)(A:bx h T n N wd b now us nd){i c v:Nat}(hi:i<N)(ae:c<308)(h0:c≠0)(hv:nd i c=I (v:Int))(Qs:v<=n):
 (v=0->C7 C lf (.ptr T.a9 0) (.ptr T.aJ (i*308+c)) h=some (.ret (.bm []),h))/\
 (0<v->bQ wd (v-1)=true->∃h',C7 C lf (.ptr T.a9 0) (.ptr T.aJ (i*308+c)) h=some (.ret (.bm []),h')/\
   bx h' T n N (de wd ((v-1)/64) (sT (wd ((v-1)/64)) ((v-1)%64))) b now us (cT nd i c (I 0))/\aG h h' (λj=>j=T.bO\/j=T.aJ)):=by
 have aO:=A.st.cA;have eD:=A.ef i c hi ae;rw[hv] at eD;unfold C7 VV OM;simp only[aE,eD];refine⟨λe=>?_,λe eZ=>?_⟩
 ·subst e;have d:decide ((0:Int)<((0:Nat):Int))=false:=by decide
  simp only[d,aE]
 ·have d:decide ((0:Int)<(v:Int))=true:=bu (by omega);have al:IntKind.i64.wrap ((v:Int)-1)=((v-1:Nat):Int):=cL (by omega)
  have je:gH n wd ((v-1:Nat):Int)=true:=by
   simp only[gH,Int.toNat_natCast,eZ,Bool.and_true,Bool.and_eq_true,decide_eq_true_eq];omega
  obtain⟨h1,az,jn,aM⟩:=(an h T.bO T.kd n wd b ((v-1:Nat):Int) A.st (by omega) (by omega)).2 je;rw[Int.toNat_natCast] at jn;have b0:=A.store jn aM.next (aM.same _ A.lt (λe=>A.d1 e)) (aM.same _ A.lb (λe=>A.d4 e))
  have dv:=wV b0 (i:=i) (c:=c) (y:=I 0) hi ae rfl rfl;refine⟨_,?_,b0.setNode hi ae h0,(aG.ek aM (λj e=> .inl e)).trans (fa (.inr rfl))⟩;simp only[d,aE,A.c0,al,az,dv]
end
section
variable{lf:Nat}{h h':U}{T:ei}{n N:Nat}{wd b dg b':Nat->Nat}{now:Int}{us:Nat->Bool}{nd:Nat->Nat->J}
def GI(C:ad):Prop:=∀h T n N wd b now us nd i,bx h T n N wd b now us nd->i<N->∃h',C (.fn 77) [.ptr T.a9 0,.ptr T.aJ (i*308)] h=some (.ret (.bm []),h')/\
 bx h' T n N wd b now us (cT (cT nd i 9 (I now)) i 10 (I now))/\h'.next=h.next/\aG h h' (· =T.aJ)
theorem aCZ{C:ad}(A:bx h T n N wd b now us nd){i:Nat}(hi:i<N):∃h',H9 C lf (.ptr T.a9 0) (.ptr T.aJ (i*308)) h=some (.ret (.bm []),h')/\
 bx h' T n N wd b now us (cT (cT nd i 9 (I now)) i 10 (I now))/\h'.next=h.next/\aG h h' (· =T.aJ):=by
 have b0:=A.setNode (c:=9) (y:=I now) hi (by omega) (by omega);have s1:=wV (y:=I now) A (i:=i) (c:=9) hi (by omega) rfl rfl;have s2:=wV (y:=I now) b0 (i:=i) (c:=10) hi (by omega) rfl rfl;have az:i*308+1+8=i*308+9:=Nat.add_assoc _ 1 8;have aA:i*308+1+9=i*308+10:=Nat.add_assoc _ 1 9;refine⟨(h.set T.aJ (i*308+9) [I now]).set T.aJ (i*308+10) [I now],?_,b0.setNode hi (by omega) (by omega),by rw[eb,eb],(fa (S:=(· =T.aJ)) rfl).trans (fa (S:=(· =T.aJ)) rfl)⟩;unfold H9 UP OE;simp only[aE,A.a2,az,aA,s1,s2]
structure c1 (n N:Nat) (wd:Nat->Nat) (nd:Nat->Nat->J) (bl:Nat->Nat->Nat):Prop where
 cell:∀i c,i<N->12<=c->c<308->nd i c=I (bl i c:Int)
 le:∀i c,bl i c<=n
 on:∀i c,i<N->12<=c->c<308->0<bl i c->bQ wd (bl i c-1)=true
 inj:∀i c i' a3,i<N->12<=c->c<308->i'<N->12<=a3->a3<308->0<bl i c->bl i c=bl i' a3->i=i'/\c=a3
def ka(bl:Nat->Nat->Nat)(i c v:Nat):Nat->Nat->Nat:=λi' a3=>if i'=i/\a3=c then v else bl i' a3
theorem sn(bl:Nat->Nat->Nat)(i c v:Nat):ka bl i c v i c=v:=if_pos ⟨rfl,rfl⟩
theorem np(bl:Nat->Nat->Nat){i c i' a3:Nat}(v:Nat)(h:i'≠i\/a3≠c):ka bl i c v i' a3=bl i' a3:=if_neg (by omega)
theorem aDd{bl:Nat->Nat->Nat}{i c:Nat}(h:bl i c=0):ka bl i c 0=bl:=by
 funext i' a3
 unfold ka;split
 ·rename_i e;rw[e.1,e.2,h]
 ·rfl
theorem aid{nd:Nat->Nat->J}{i c:Nat}{y:J}(h:nd i c=y):cT nd i c y=nd:=by
 funext i' a3
 unfold cT;split
 ·rename_i e;rw[e.1,e.2,h]
 ·rfl
def wD(wd:Nat->Nat)(j:Nat):Nat->Nat:=de wd (j/64) (sT (wd (j/64)) (j%64))
theorem Rn{wd:Nat->Nat}(hw:∀i,wd i<2 ^ 64){j gW:Nat}:bQ (wD wd j) gW=(bQ wd gW&&decide (gW≠j)):=by
 unfold wD;rw[aeQ];split
 ·rename_i e;rw[Y4 (hw _) (Nat.mod_lt _ (by omega))];unfold bQ;rw[e];congr 1;by_cases h:gW=j
  ·subst h;simp
  ·have:gW%64≠j%64:=by omega
   simp[h,this]
 ·rename_i e
  have:gW≠j:=λh=>e (by rw[h])
  simp[this]
theorem c1.drop{bl:Nat->Nat->Nat}(M:c1 n N wd nd bl)(hw:∀i,wd i<2 ^ 64){i c:Nat}(hi:i<N)(dG:12<=c)(ae:c<308)(ag:0<bl i c):
 c1 n N (wD wd (bl i c-1)) (cT nd i c (I 0)) (ka bl i c 0):=by
 refine⟨λi' a3 cF nN fr=>?_,λi' a3=>?_,λi' a3 cF nN fr aC=>?_,λi1 aS i2 a2 nb h1 jt nc h2 mH aC he=>?_⟩
 ·by_cases e:i'=i/\a3=c
  ·obtain⟨rfl,rfl⟩:=e;rw[mU,sn];rfl
  ·rw[ho _ _ (by omega),np _ _ (by omega)];exact M.cell i' a3 cF nN fr
 ·unfold ka;split
  ·omega
  ·exact M.le i' a3
 ·by_cases e:i'=i/\a3=c
  ·obtain⟨rfl,rfl⟩:=e;rw[sn] at aC;omega
  ·rw[np _ _ (by omega)] at aC⊢;rw[Rn hw,M.on i' a3 cF nN fr aC,Bool.true_and,decide_eq_true_eq];intro h;exact e (M.inj i' a3 i c cF nN fr hi dG ae aC (by omega))
 ·by_cases az:i1=i/\aS=c
  ·obtain⟨rfl,rfl⟩:=az;rw[sn] at aC;omega
  ·rw[np _ _ (by omega)] at aC he;by_cases aA:i2=i/\a2=c
   ·obtain⟨rfl,rfl⟩:=aA;rw[sn] at he;omega
   ·rw[np _ _ (by omega)] at he;exact M.inj i1 aS i2 a2 nb h1 jt nc h2 mH aC he
theorem c1.kZ{bl:Nat->Nat->Nat}(M:c1 n N wd nd bl){i c:Nat}{y:J}(ae:c<12):c1 n N wd (cT nd i c y) bl:=
 ⟨λi' a3 cF nN fr=>by rw[ho _ _ (by omega)];exact M.cell i' a3 cF nN fr,M.le,M.on,M.inj⟩
def xI(wd:Nat->Nat)(v:Nat):Nat->Nat:=if v=0 then wd else wD wd (v-1)
theorem al8{C:ad}(D:vo C){bl:Nat->Nat->Nat}(A:bx h T n N wd b now us nd)(M:c1 n N wd nd bl){i c:Nat}(hi:i<N)(dG:12<=c)(ae:c<308):
 ∃h',C (.fn 91) [.ptr T.a9 0,.ptr T.aJ (i*308+c)] h=some (.ret (.bm []),h')/\
  bx h' T n N (xI wd (bl i c)) b now us (cT nd i c (I 0))/\c1 n N (xI wd (bl i c)) (cT nd i c (I 0)) (ka bl i c 0)/\aG h h' (λj=>j=T.bO\/j=T.aJ):=by
 obtain⟨d0,d1⟩:=D h T n N wd b now us nd i c (bl i c) A hi ae (by omega) (M.cell i c hi dG ae) (M.le i c);by_cases e:bl i c=0
 ·have al:cT nd i c (I 0)=nd:=aid (by rw[M.cell i c hi dG ae,e];rfl);refine⟨h,d0 e,?_,?_,aG.refl _ _⟩
  ·rw[xI,if_pos e,al];exact A
  ·rw[xI,if_pos e,al,aDd e];exact M
 ·obtain⟨h',az,b0,aM⟩:=d1 (by omega) (M.on i c hi dG ae (by omega));refine⟨h',az,?_,?_,aM⟩
  ·rw[xI,if_neg e];exact b0
  ·rw[xI,if_neg e];exact M.drop A.st.iU hi dG ae (by omega)
end
section
variable{P:Program}
theorem arJ{e:TypeId}(al:dP P e=some 1)(b1:oZ P e=some false){k:IntKind}{f:Nat->Int}{n i:Nat}(hi:i<n):pT P e ((List.range n).map λj=> .int k (f j)) (i*1)=some (.int k (f i)):=by
 simp[pT,al,b1,hi]
theorem amy{e:TypeId}{kk k:IntKind}(he:P.underlying e=some (.int kk)){d:Nat}{a b:Int}:px P (d+1) e (.int k a) (.int k b)=some (a==b):=by
 have ai:(k==k)=true:=pM;simp only[px,he,ai,cond_true]
theorem amx{t e:TypeId}{n z:Nat}(hu:P.underlying t=some (.array n e))(al:dP P e=some z){d:Nat}{xs ys:List J}:px P (d+1) t (.agg xs) (.agg ys)=vN P (px P d) e z xs ys (List.range n):=by
 simp only[px,hu,al]
theorem ZP{e:TypeId}{kk k:IntKind}(he:P.underlying e=some (.int kk))(al:dP P e=some 1)(b1:oZ P e=some false){f g:Nat->Int}{n d:Nat}:∀{is:List Nat},(∀i∈is,i<n)->
 vN P (px P (d+1)) e 1 ((List.range n).map λj=> .int k (f j)) ((List.range n).map λj=> .int k (g j)) is=some (is.all λi=>f i==g i)
 | [],_=>rfl
 |i::is,h=>by
  have bc:=ZP (k:=k) he al b1 (f:=f) (g:=g) (n:=n) (d:=d) (is:=is) (λj aa=>h j (List.mem_cons_of_mem _ aa));have hi:=h i (List.mem_cons_self ..);simp only[vN,arJ al b1 hi,bc,amy he,List.all_cons]
theorem aky{t e:TypeId}{n:Nat}{kk k:IntKind}(hu:P.underlying t=some (.array n e))(he:P.underlying e=some (.int kk))(al:dP P e=some 1)(b1:oZ P e=some false)(bd:P.eqGuardType P.depth t=false){f g:Nat->Int}:
 bin P .eql t (.agg ((List.range n).map λj=> .int k (f j))) (.agg ((List.range n).map λj=> .int k (g j)))=some (.bool ((List.range n).all λi=>f i==g i)):=by
 rw[ur];show sY P .eql t _ _=_;simp only[sY,uz,bd,cond_false,amx hu al,ZP he al b1 (λi hi=>List.mem_range.1 hi)]
end
section
variable{lf:Nat}{h h':U}{T:ei}{n N:Nat}{wd b dg b':Nat->Nat}{now:Int}{us:Nat->Bool}{nd:Nat->Nat->J}
def mD(f:Nat->Nat):List J:=(List.range 17).map λj=>I (f j:Int)
theorem Yf{α:Type}(k:IntKind)(f:α->Int):∀l:List α,dZ (l.map λj=> .int k (f j))=true
 | []=>rfl
 |x::l=>by simp[dZ,Yf k f l,J.one]
def B5(C:ad):Prop:=∀h (f:Nat->Nat),∃h',C (.fn 92) [.agg (mD f)] h=some (.ret (.bool ((List.range 16).all λj=>f (1+j)==0)),h')/\aG h h' (λ_=>False)
theorem aml{C:ad}{f:Nat->Nat}:∃h',Il C lf (.agg (mD f)) h=some (.ret (.bool ((List.range 16).all λj=>f (1+j)==0)),h')/\aG h h' (λ_=>False):=by
 have Dw:(J.agg (mD f)).flat=true:=rfl;have ae:(J.agg (mD f)).cells=mD f:=rfl;have gR:=w9 (e:=122) (h:=h) Dw;rw[ae] at gR;have th:∀i,(h.new (dJ 122 (mD f))).cell h.next i=(mD f)[i]?:=λi=>by rw[l6,oR]
 have eA:(h.new (dJ 122 (mD f))).cells h.next 1 16=some ((List.range 16).map λj=>I (f (1+j):Int)):=by
  refine lE (by simp) λj aa=>?_
  rw[th];simp[mD,aa,show 1+j<17 by omega]
 obtain⟨md,nf,_,_⟩:=lZ (h:=h) (o:=dJ 122 (mD f)) rfl;have lK:fu 16 (.ptr h.next 1) (h.new (dJ 122 (mD f)))=some (.agg ((List.range 16).map λj=>I (f (1+j):Int))):=by rw[n2 nf,eA];rfl
 have oF:hZ aw 120 [] []=some (.agg ((List.range 16).map λj=>I 0)):=by kernel_rfl
 have heq:=aky (P:=aw) (t:=120) (n:=16) (kk:= .i64) (k:= .i64) Tryd.underlying120 (by kernel_rfl) (by kernel_rfl) (by kernel_rfl) (by kernel_rfl) (f:=λj=>(f (1+j):Int)) (g:=λ_=>0)
 have a0:((List.range 16).all λi=>(f (1+i):Int)==0)=(List.range 16).all λj=>f (1+j)==0:=by
  have:(λi:Nat=>(f (1+i):Int)==0)=λj=>f (1+j)==0:=by
   funext j
   by_cases e:f (1+j)=0
   ·rw[e];rfl
   ·have az:((f (1+j):Int)==0)=false:=by simp;omega
    have aA:(f (1+j)==0)=false:=by simp[e]
    rw[az,aA]
  rw[this]
 rw[a0] at heq;refine⟨_,?_,aG.new h (dJ 122 (mD f)) _⟩;unfold Il VW ON;simp only[aE,gR,lK,oF,heq]
end
noncomputable section
variable{C:ad}{lf:Nat}{bb a5 eB fl jM kK qJ qK qL qM qN qO qG qH qI:hc}{ao:kU}
noncomputable def l8:ca aw:=⟨38,Tryd.f38,λr=>bif Nat.beq r 16 then .ord [0,1,2,4,5,10,11,12,13,14,15,16,3,6,7,8,9,17] [(6,[3])] else .text,Tryd.func38,by kernel_rfl,by kernel_rfl,by kernel_rfl,by kernel_rfl⟩
noncomputable def ql(aP x9:O)(h:U):ab:=
 ob aP λa=>ob x9 λb=>some (.ret (.bm [a,b]),h)
def zd(C:ad)(lf:Nat)(r:aU)(x0 x2 aX bW:O)(h:U):ab:=
 gJ .eql 3 bW (I 0) (r (bG 0) (bG 28) h) (ob aX λa=>fU 1 aX λb=>eJ 4 b h λb=>n5 .add 3 x2 bW λc=>b2 (gk aw .max #[3,3] [b,c] h) λb k=>eg 1 a λa=>ob (b6 4 a) λa=>ob (st 1 a b k) λk=>a2 C 77 x0 aX k λa k=>ob bW λa=>r (some a) (bG 0) k)
theorem auA{r:aU}:∀F h,au l8 C lf [1,1,1,1,1,1,1] F h bb (a8 r 8 9) ao=bp (zd C lf r) 0 2 10 12 F h:=by
 intro F h;kernel_rfl
def EJ(C:ad)(lf:Nat)(n:cY)(az:bt)(x0 x2 x3 aX bW:O)(h:U):ab:=
 ob bW λa=>ni 24 x3 λb=>eF .lss 3 a b (n5 .add 3 x2 bW λa=>cl .quo 3 a (I 64) λa=>n5 .add 3 x2 bW λb=>cl .rem 3 b (I 64) λb=>ob x0 λc=>ob aX λd=>cS C 75 [c,d,a] h λc k=>gj c (az x0 x2 aX bW k) (cl .sub 3 (I 64) b λc=>ni 24 x3 λd=>y6 .sub 3 d bW λd=>b2 (gk aw .min #[3,3] [c,d] k) λc k=>fU 0 x0 λd=>ob aX λg=>ob x3 λi=>ob bW λj=>cC .add 3 bW c λm=>ob (fX aw 24 i (some j) (some m)) λi=>ob (bZ d k) λj=>cR (C (.fn 76) [g,a] k) λa l=>eX (fC [(3,cq (some d))] k l [3]) (ob (ew a) λa=>ob (bZ a l) λa=>cl .sub 3 a (I 1) λa=>cR (C (.fn 18) [j,a,b,i] l) λa k=>cC .add 3 bW c λa=>n x0 x2 x3 aX (some a) k))) (az x0 x2 aX bW h)
theorem auB{n:cY}{az:bt}:∀F h,au l8 C lf [1,1,1,1,1,1,0,0,0] F h (dj n 0 2 3 10 12) a5 (bM 1 (bp az 0 2 10 12) ao)=dj (EJ C lf n az) 0 2 3 10 12 F h:=by
 intro F h;kernel_rfl
def D8(C:ad)(lf:Nat)(az:bt)(k:O×O×O×O×O->U->ab)(s:O×O×O×O×O)(h:U):ab:=
 EJ C lf (λa b c d g=>k (a,b,c,d,g)) az s.1 s.2.1 s.2.2.1 s.2.2.2.1 s.2.2.2.2 h
def Tt(C:ad)(lf:Nat)(r:aU)(x0 x2 x3 aX bW:O)(h:U):ab:=
 bq (D8 C lf (zd C lf r)) lf (x0,x2,x3,aX,bW) h
theorem auC{r:aU}:∀F h,au l8 C lf [1,1,1,1,1,1] F h bb (a8 r 8 9) ao=dj (Tt C lf r) 0 2 3 10 12 F h:=bn (a:=cc l8 [1,1,1,1,1,1,0]) (by kernel_rfl) auA (gm (id:=1) (a:=cc l8 [1,1,1,1,1,1,0,0]) (by kernel_rfl) (hg (g:=λF=>(F 0,F 2,F 3,F 10,F 12)) (body:=D8 C lf (λx0 x2 aX bW h=>zd C lf r x0 x2 aX bW h)) (by kernel_rfl) (λk=>(auB (n:=λx0 x2 x3 aX bW h=>k (x0,x2,x3,aX,bW) h)))))
def Tu(C:ad)(lf:Nat)(n:cY)(x0 x2 x3 aX:O)(h:U):ab:=
 n x0 x2 x3 aX (bG 0) h
theorem auD{n:cY}:∀F h,au l8 C lf [1,1,1,1,1,0] F h (dj n 0 2 3 10 12) a5 ao=bp (Tu C lf n) 0 2 3 10 F h:=by
 intro F h;kernel_rfl
def Tv(C:ad)(lf:Nat)(r:aU)(x0 x2 x3 aX:O)(h:U):ab:=
 Tu C lf (Tt C lf r) x0 x2 x3 aX h
theorem auE{r:aU}:∀F h,au l8 C lf [1,1,1,1,1] F h bb (a8 r 8 9) ao=bp (Tv C lf r) 0 2 3 10 F h:=bn (by kernel_rfl) auC auD
def Tw(C:ad)(lf:Nat)(n:bt)(x0 x2 x3 aX:O)(h:U):ab:=
 ob x3 λa=>ni 24 x3 λb=>y6 .sub 3 (I 17792) x2 λc=>b2 (gk aw .min #[3,3] [b,c] h) λb k=>ob (fX aw 24 a none (some b)) λa=>n x0 x2 (some a) aX k
theorem auF{n:bt}:∀F h,au l8 C lf [1,1,1,1,0] F h (bp n 0 2 3 10) a5 ao=bp (Tw C lf n) 0 2 3 10 F h:=by
 intro F h;kernel_rfl
def Tx(C:ad)(lf:Nat)(r:aU)(x0 x2 x3 aX:O)(h:U):ab:=
 Tw C lf (Tv C lf r) x0 x2 x3 aX h
theorem auG{r:aU}:∀F h,au l8 C lf [1,1,1,1] F h bb (a8 r 8 9) ao=bp (Tx C lf r) 0 2 3 10 F h:=bn (by kernel_rfl) auE auF
def Bz(C:ad)(lf:Nat)(n:bt)(r:aU)(x0 x2 x3 aX:O)(h:U):ab:=
 gJ .lss 3 x2 (I 0) (r (bG 0) (bG 22) h) (ni 24 x3 λa=>eF .eql 3 a (I 0) (r (bG 0) (bG 0) h) (gJ .geq 3 x2 (I 17792) (r (bG 0) (bG 27) h) (n x0 x2 x3 aX h)))
theorem auH{n:bt}{r:aU}:∀F h,au l8 C lf [1,1,1,0] F h (bp n 0 2 3 10) (a8 r 8 9) ao=bp (Bz C lf n r) 0 2 3 10 F h:=by
 intro F h;kernel_rfl
def wJ(C:ad)(lf:Nat)(r:aU)(x0 x2 x3 aX:O)(h:U):ab:=
 Bz C lf (Tx C lf r) r x0 x2 x3 aX h
theorem auI{r:aU}:∀F h,au l8 C lf [1,1,1] F h bb (a8 r 8 9) ao=bp (wJ C lf r) 0 2 3 10 F h:=bn (by kernel_rfl) auG auH
def JW(C:ad)(lf:Nat)(n:bt)(r:aU)(x0 x2 x3 aX x11:O)(h:U):ab:=
 gJ .neq 26 x11 (I 0) (ob x11 λa=>r (bG 0) (some a) h) (n x0 x2 x3 aX h)
theorem auJ{n:bt}{r:aU}:∀F h,au l8 C lf [1,1,0] F h (bp n 0 2 3 10) (a8 r 8 9) ao=dj (JW C lf n r) 0 2 3 10 11 F h:=by
 intro F h;kernel_rfl
def JX(C:ad)(lf:Nat)(r:aU)(x0 x2 x3 aX x11:O)(h:U):ab:=
 JW C lf (wJ C lf r) r x0 x2 x3 aX x11 h
theorem auK{r:aU}:∀F h,au l8 C lf [1,1] F h bb (a8 r 8 9) ao=dj (JX C lf r) 0 2 3 10 11 F h:=bn (by kernel_rfl) auI auJ
def JY(C:ad)(lf:Nat)(n:cY)(x0 x1 x2 x3:O)(h:U):ab:=
 a2 C 74 x0 x1 h λa k=>df a λa b=>n x0 x2 x3 (some a) (some b) k
theorem auL{n:cY}:∀F h,au l8 C lf [1,0] F h (dj n 0 2 3 10 11) a5 ao=bp (JY C lf n) 0 1 2 3 F h:=by
 intro F h;kernel_rfl
def JZ(C:ad)(lf:Nat)(r:aU)(x0 x1 x2 x3:O)(h:U):ab:=
 JY C lf (JX C lf r) x0 x1 x2 x3 h
theorem auM{r:aU}:∀F h,au l8 C lf [1] F h bb (a8 r 8 9) ao=bp (JZ C lf r) 0 1 2 3 F h:=bn (by kernel_rfl) auK auL
noncomputable def J0(C:ad)(lf:Nat)(n:bt)(x0 x1 x2 x3:O)(h:U):ab:=
 n x0 x1 x2 x3 h
theorem auN{n:bt}:∀F h,au l8 C lf [0] F h (bp n 0 1 2 3) a5 ao=bp (J0 C lf n) 0 1 2 3 F h:=by
 intro F h;kernel_rfl
def J1(C:ad)(lf:Nat)(r:aU)(x0 x1 x2 x3:O)(h:U):ab:=
 J0 C lf (JZ C lf r) x0 x1 x2 x3 h
theorem auO{r:aU}:∀F h,au l8 C lf [] F h bb (a8 r 8 9) ao=bp (J1 C lf r) 0 1 2 3 F h:=bn (by kernel_rfl) auM auN
def rO(C:ad)(lf:Nat)(aj ak aD a7:J)(h:U):ab:=J1 C lf ql (some aj) (some ak) (some aD) (some a7) h
def Pa:cx aw:=ry l8 rO (λC lf aj ak aD a7 h=>cZ (K:=(a8 ql 8 9)) (by kernel_rfl) (Eq.trans (auO _ h) (by kernel_rfl))) (by kernel_rfl)
def ko:ca aw:=dn 41 Tryd.f41 Tryd.func41 (by kernel_rfl)
noncomputable def s3(aP x9:O)(h:U):ab:=
 ob aP λa=>ob x9 λb=>some (.ret (.bm [a,b]),h)
def EL(C:ad)(lf:Nat)(r:aU)(ey:O)(h:U):ab:=
 ob ey λa=>r (some a) (bG 0) h
theorem au1{r:aU}:∀F h,au ko C lf [1,1,1,1,1,1,1,1,1] F h bb (a8 r 8 9) ao=aR (EL C lf r) 13 F h:=by
 intro F h;kernel_rfl
def EM(C:ad)(lf:Nat)(n:cY)(av:ay)(x0 x2 aX bW ey:O)(h:U):ab:=
 mr .lss 3 x2 bW (cC .quo 3 x2 (I 64) λa=>cC .rem 3 x2 (I 64) λb=>cl .sub 3 (I 64) b λc=>n5 .sub 3 bW x2 λd=>b2 (gk aw .min #[3,3] [c,d] h) λc k=>ob aX λd=>cS C 76 [d,a] k λa k=>ob (ew a) λa=>ob (bZ a k) λa=>eF .gtr 3 a (I 0) (dE 0 x0 k λd=>cl .sub 3 a (I 1) λa=>cS C 21 [d,a] k λa k=>df a λa d=>ob ey λd=>cl .add 3 b c λg=>ob (fX aw 24 a (some b) (some g)) λa=>b2 (gk aw .append #[24,24] [d,a] k) λa k=>cC .add 3 x2 c λb=>n x0 (some b) aX bW (some a) k) (ob ey λa=>b2 (gk aw .append #[24,3] [a,c] k) λa k=>cC .add 3 x2 c λb=>n x0 (some b) aX bW (some a) k)) (av ey h)
theorem au2{n:cY}{av:ay}:∀F h,au ko C lf [1,1,1,1,1,1,1,1,0,0,0] F h (dj n 0 2 10 12 13) a5 (bM 0 (aR av 13) ao)=dj (EM C lf n av) 0 2 10 12 13 F h:=by
 intro F h;kernel_rfl
def D9(C:ad)(lf:Nat)(av:ay)(k:O×O×O×O×O->U->ab)(s:O×O×O×O×O)(h:U):ab:=
 EM C lf (λa b c d g=>k (a,b,c,d,g)) av s.1 s.2.1 s.2.2.1 s.2.2.2.1 s.2.2.2.2 h
def TA(C:ad)(lf:Nat)(r:aU)(x0 x2 aX bW ey:O)(h:U):ab:=
 bq (D9 C lf (EL C lf r)) lf (x0,x2,aX,bW,ey) h
theorem au3{r:aU}:∀F h,au ko C lf [1,1,1,1,1,1,1,1] F h bb (a8 r 8 9) ao=dj (TA C lf r) 0 2 10 12 13 F h:=bn (a:=cc ko [1,1,1,1,1,1,1,1,0]) (by kernel_rfl) au1 (gm (id:=0) (a:=cc ko [1,1,1,1,1,1,1,1,0,0]) (by kernel_rfl) (hg (g:=λF=>(F 0,F 2,F 10,F 12,F 13)) (body:=D9 C lf (λey h=>EL C lf r ey h)) (by kernel_rfl) (λk=>(au2 (n:=λx0 x2 aX bW ey h=>k (x0,x2,aX,bW,ey) h)))))
def TB(C:ad)(lf:Nat)(n:cY)(x0 x2 aX bW:O)(h:U):ab:=
 n5 .sub 3 bW x2 λa=>b2 (nq aw 24 (I 0) a h) λa=>n x0 x2 aX bW (some a)
theorem au4{n:cY}:∀F h,au ko C lf [1,1,1,1,1,1,1,0] F h (dj n 0 2 10 12 13) a5 ao=bp (TB C lf n) 0 2 10 12 F h:=by
 intro F h;kernel_rfl
def J6(C:ad)(lf:Nat)(r:aU)(x0 x2 aX bW:O)(h:U):ab:=
 TB C lf (TA C lf r) x0 x2 aX bW h
theorem au5{r:aU}:∀F h,au ko C lf [1,1,1,1,1,1,1] F h bb (a8 r 8 9) ao=bp (J6 C lf r) 0 2 10 12 F h:=bn (by kernel_rfl) au3 au4
def TC(C:ad)(lf:Nat)(n:bt)(x0 x2 x3 aX bW:O)(h:U):ab:=
 ob x3 λa=>n5 .sub 3 bW x2 λb=>eF .lss 3 a b (n5 .add 3 x2 x3 λa=>n x0 x2 aX (some a) h) (n x0 x2 aX bW h)
theorem au6{n:bt}:∀F h,au ko C lf [1,1,1,1,1,1,0] F h (bp n 0 2 10 12) a5 ao=dj (TC C lf n) 0 2 3 10 12 F h:=by
 intro F h;kernel_rfl
def TD(C:ad)(lf:Nat)(r:aU)(x0 x2 x3 aX bW:O)(h:U):ab:=
 TC C lf (J6 C lf r) x0 x2 x3 aX bW h
theorem au7{r:aU}:∀F h,au ko C lf [1,1,1,1,1,1] F h bb (a8 r 8 9) ao=dj (TD C lf r) 0 2 3 10 12 F h:=bn (by kernel_rfl) au5 au6
def TE(C:ad)(lf:Nat)(n:cY)(x0 x2 x3 aX:O)(h:U):ab:=
 fU 1 aX λa=>eJ 4 a h λa=>n x0 x2 x3 aX (some a) h
theorem au8{n:cY}:∀F h,au ko C lf [1,1,1,1,1,0] F h (dj n 0 2 3 10 12) a5 ao=bp (TE C lf n) 0 2 3 10 F h:=by
 intro F h;kernel_rfl
def TF(C:ad)(lf:Nat)(r:aU)(x0 x2 x3 aX:O)(h:U):ab:=
 TE C lf (TD C lf r) x0 x2 x3 aX h
theorem au9{r:aU}:∀F h,au ko C lf [1,1,1,1,1] F h bb (a8 r 8 9) ao=bp (TF C lf r) 0 2 3 10 F h:=bn (by kernel_rfl) au7 au8
def J7(C:ad)(lf:Nat)(n:bt)(r:aU)(x0 x2 x3 aX:O)(h:U):ab:=
 ob x2 λa=>fU 1 aX λb=>eJ 4 b h λb=>eF .geq 3 a b (r (some (.val (.slice none 0 0))) (bG 0) h) (n x0 x2 x3 aX h)
theorem ava{n:bt}{r:aU}:∀F h,au ko C lf [1,1,1,1,0] F h (bp n 0 2 3 10) (a8 r 8 9) ao=bp (J7 C lf n r) 0 2 3 10 F h:=by
 intro F h;kernel_rfl
def J8(C:ad)(lf:Nat)(r:aU)(x0 x2 x3 aX:O)(h:U):ab:=
 J7 C lf (TF C lf r) r x0 x2 x3 aX h
theorem avb{r:aU}:∀F h,au ko C lf [1,1,1,1] F h bb (a8 r 8 9) ao=bp (J8 C lf r) 0 2 3 10 F h:=bn (by kernel_rfl) au9 ava
def EN(C:ad)(lf:Nat)(n:bt)(r:aU)(x0 x2 x3 aX:O)(h:U):ab:=
 cC .lss 3 x2 (I 0) λa=>jr .lss 3 a x3 (I 0) h λb k=>nn a b (r (some (.val (.slice none 0 0))) (bG 22) k) (n x0 x2 x3 aX k)
theorem avc{n:bt}{r:aU}:∀F h,au ko C lf [1,1,1,0] F h (bp n 0 2 3 10) (a8 r 8 9) ao=bp (EN C lf n r) 0 2 3 10 F h:=by
 intro F h;kernel_rfl
def ze(C:ad)(lf:Nat)(r:aU)(x0 x2 x3 aX:O)(h:U):ab:=
 EN C lf (J8 C lf r) r x0 x2 x3 aX h
theorem avd{r:aU}:∀F h,au ko C lf [1,1,1] F h bb (a8 r 8 9) ao=bp (ze C lf r) 0 2 3 10 F h:=bn (by kernel_rfl) avb avc
def J9(C:ad)(lf:Nat)(n:bt)(r:aU)(x0 x2 x3 aX x11:O)(h:U):ab:=
 gJ .neq 26 x11 (I 0) (ob x11 λa=>r (some (.val (.slice none 0 0))) (some a) h) (n x0 x2 x3 aX h)
theorem ave{n:bt}{r:aU}:∀F h,au ko C lf [1,1,0] F h (bp n 0 2 3 10) (a8 r 8 9) ao=dj (J9 C lf n r) 0 2 3 10 11 F h:=by
 intro F h;kernel_rfl
def Ka(C:ad)(lf:Nat)(r:aU)(x0 x2 x3 aX x11:O)(h:U):ab:=
 J9 C lf (ze C lf r) r x0 x2 x3 aX x11 h
theorem avf{r:aU}:∀F h,au ko C lf [1,1] F h bb (a8 r 8 9) ao=dj (Ka C lf r) 0 2 3 10 11 F h:=bn (by kernel_rfl) avd ave
def Kb(C:ad)(lf:Nat)(n:cY)(x0 x1 x2 x3:O)(h:U):ab:=
 a2 C 74 x0 x1 h λa k=>df a λa b=>n x0 x2 x3 (some a) (some b) k
theorem avg{n:cY}:∀F h,au ko C lf [1,0] F h (dj n 0 2 3 10 11) a5 ao=bp (Kb C lf n) 0 1 2 3 F h:=by
 intro F h;kernel_rfl
def Kc(C:ad)(lf:Nat)(r:aU)(x0 x1 x2 x3:O)(h:U):ab:=
 Kb C lf (Ka C lf r) x0 x1 x2 x3 h
theorem avh{r:aU}:∀F h,au ko C lf [1] F h bb (a8 r 8 9) ao=bp (Kc C lf r) 0 1 2 3 F h:=bn (by kernel_rfl) avf avg
noncomputable def Kd(C:ad)(lf:Nat)(n:bt)(x0 x1 x2 x3:O)(h:U):ab:=
 n x0 x1 x2 x3 h
theorem avi{n:bt}:∀F h,au ko C lf [0] F h (bp n 0 1 2 3) a5 ao=bp (Kd C lf n) 0 1 2 3 F h:=by
 intro F h;kernel_rfl
def Ke(C:ad)(lf:Nat)(r:aU)(x0 x1 x2 x3:O)(h:U):ab:=
 Kd C lf (Kc C lf r) x0 x1 x2 x3 h
theorem avj{r:aU}:∀F h,au ko C lf [] F h bb (a8 r 8 9) ao=bp (Ke C lf r) 0 1 2 3 F h:=bn (by kernel_rfl) avh avi
def uC(C:ad)(lf:Nat)(aj ak aD a7:J)(h:U):ab:=Ke C lf s3 (some aj) (some ak) (some aD) (some a7) h
def Pb:cx aw:=ry ko uC (λC lf aj ak aD a7 h=>cZ (K:=(a8 s3 8 9)) (by kernel_rfl) (Eq.trans (avj _ h) (by kernel_rfl))) (by kernel_rfl)
def l9:ca aw:=dn 75 Tryd.f75 Tryd.func75 (by kernel_rfl)
noncomputable def nL(aF:O)(h:U):ab:=
 ob aF λa=>some (.ret a,h)
noncomputable def EU(C:ad)(lf:Nat)(r:ay)(h:U):ab:=
 r (some (.bool true)) h
theorem awy{r:ay}:∀F h,au l9 C lf [1,1,1,1,1,1] F h bb (aR r 6) ao=ee (EU C lf r) F h:=by
 intro F h;kernel_rfl
def EV(C:ad)(lf:Nat)(n:dy)(r:ay)(az:cu)(x3 aP x9 x50 x51 x52:O)(h:U):ab:=
 mr .lss 3 x52 x51 (ob x50 λa=>tH 1 a x52 h λa=>ob (ew a) λb=>ob (bZ b h) λb=>eF .gtr 3 b (I 0) (cC .add 3 x52 (I 1) λa=>n x3 aP x9 x50 x51 (some a) h) (ob x3 λb=>ob (bZ b h) λb=>tG 0 b h λb=>cS C 17 [b] h λb k=>df b λb c=>eF .neq 26 c (I 0) (ob x9 λa=>fi false C a [] k λa=>r (some (.bool false))) (cl .add 3 b (I 1) λb=>ob (ew a) λc=>ob (st 1 c b k) λk=>ob aP λb=>ob (bZ b k) λb=>b2 (ib aw 143 1 [0] [a] k) λa k=>b2 (gk aw .append #[143,143] [b,a] k) λa k=>ob aP λb=>ob (st 1 b a k) λk=>cC .add 3 x52 (I 1) λa=>n x3 aP x9 x50 x51 (some a) k))) (az h)
theorem awz{n:dy}{r:ay}{az:cu}:∀F h,au l9 C lf [1,1,1,1,1,0,1,0,0] F h (dY n 3 8 9 50 51 52) (aR r 6) (bM 1 (ee az) ao)=dY (EV C lf n r az) 3 8 9 50 51 52 F h:=by
 intro F h;kernel_rfl
def yM(C:ad)(lf:Nat)(r:ay)(az:cu)(k:O×O×O×O×O×O->U->ab)(s:O×O×O×O×O×O)(h:U):ab:=
 EV C lf (λa b c d g i=>k (a,b,c,d,g,i)) r az s.1 s.2.1 s.2.2.1 s.2.2.2.1 s.2.2.2.2.1 s.2.2.2.2.2 h
def UG(C:ad)(lf:Nat)(n:dy)(x1 x2 x3 x7 aP x9:O)(h:U):ab:=
 ob x7 λa=>a2 C 76 x1 x2 h λb k=>b2 (ib aw 143 1 [0] [b] k) λb k=>b2 (gk aw .append #[143,143] [a,b] k) λa k=>kM 143 a λb=>n x3 aP x9 (some a) (some b) (bG 0) k
theorem awA{n:dy}:∀F h,au l9 C lf [1,1,1,1,1,0,0] F h (dY n 3 8 9 50 51 52) a5 ao=dY (UG C lf n) 1 2 3 7 8 9 F h:=by
 intro F h;kernel_rfl
def UH(C:ad)(lf:Nat)(n:cu)(r:ay)(x1 x2 x3 x7 aP x9:O)(h:U):ab:=
 UG C lf (λa b c d g i=>bq (yM C lf r n) lf (a,b,c,d,g,i)) x1 x2 x3 x7 aP x9 h
theorem awB{n:cu}{r:ay}:∀F h,au l9 C lf [1,1,1,1,1,0] F h (ee n) (aR r 6) ao=dY (UH C lf n r) 1 2 3 7 8 9 F h:=bn (b:=cc l9 [1,1,1,1,1,0,1]) (by kernel_rfl) (gm (id:=1) (a:=cc l9 [1,1,1,1,1,0,1,0]) (by kernel_rfl) (hg (g:=λF=>(F 3,F 8,F 9,F 50,F 51,F 52)) (body:=yM C lf r n) (by kernel_rfl) (λk=>(awz (n:=λx3 aP x9 x50 x51 x52 h=>k (x3,aP,x9,x50,x51,x52) h))))) (awA (n:=λx3 aP x9 x50 x51 x52 h=>bq (yM C lf r n) lf (x3,aP,x9,x50,x51,x52) h))
def UI(C:ad)(lf:Nat)(r:ay)(x1 x2 x3 x7 aP x9:O)(h:U):ab:=
 UH C lf (EU C lf r) r x1 x2 x3 x7 aP x9 h
theorem awC{r:ay}:∀F h,au l9 C lf [1,1,1,1,1] F h bb (aR r 6) ao=dY (UI C lf r) 1 2 3 7 8 9 F h:=bn (by kernel_rfl) awy awB
noncomputable def UJ(C:ad)(lf:Nat)(n:dy)(x1 x2 x3 x7 aP:O)(h:U):ab:=
 ob aP λa=>ob x3 λb=>n x1 x2 x3 x7 aP (some (.fn (.func 90) [] [a,b])) h
theorem awD{n:dy}:∀F h,au l9 C lf [1,1,1,1,0] F h (dY n 1 2 3 7 8 9) a5 ao=dj (UJ C lf n) 1 2 3 7 8 F h:=by
 intro F h;kernel_rfl
def UK(C:ad)(lf:Nat)(r:ay)(x1 x2 x3 x7 aP:O)(h:U):ab:=
 UJ C lf (UI C lf r) x1 x2 x3 x7 aP h
theorem awE{r:ay}:∀F h,au l9 C lf [1,1,1,1] F h bb (aR r 6) ao=dj (UK C lf r) 1 2 3 7 8 F h:=bn (by kernel_rfl) awC awD
noncomputable def UL(C:ad)(lf:Nat)(n:cY)(x1 x2 x3 x7:O)(h:U):ab:=
 b2 (l1 aw 143 h) λa=>n x1 x2 x3 x7 (some a)
theorem awF{n:cY}:∀F h,au l9 C lf [1,1,1,0] F h (dj n 1 2 3 7 8) a5 ao=bp (UL C lf n) 1 2 3 7 F h:=by
 intro F h;kernel_rfl
def zg(C:ad)(lf:Nat)(r:ay)(x1 x2 x3 x7:O)(h:U):ab:=
 UL C lf (UK C lf r) x1 x2 x3 x7 h
theorem awG{r:ay}:∀F h,au l9 C lf [1,1,1] F h bb (aR r 6) ao=bp (zg C lf r) 1 2 3 7 F h:=bn (by kernel_rfl) awE awF
def wL(C:ad)(lf:Nat)(n:bt)(r:ay)(x1 x2 x3 x7:O)(h:U):ab:=
 a2 C 76 x1 x2 h λa k=>ob (ew a) λa=>ob (bZ a k) λa=>eF .gtr 3 a (I 0) (r (some (.bool true)) k) (gJ .geq 3 x2 (I 22) (fU 35 x1 λa=>ob x1 λb=>cC .sub 3 x2 (I 22) λc=>cl .quo 3 c (I 16) λc=>eg 36 b λb=>ob (ev 16 17 b c) λb=>ob (b6 0 b) λb=>b2 (ib aw 143 2 [0,1] [a,b] k) λa=>n x1 x2 x3 (some a)) (gJ .geq 3 x2 (I 6) (fU 18 x1 λa=>ob (b6 0 a) λa=>b2 (ib aw 143 1 [0] [a] k) λa=>n x1 x2 x3 (some a)) (n x1 x2 x3 x7 k)))
theorem awH{n:bt}{r:ay}:∀F h,au l9 C lf [1,1,0] F h (bp n 1 2 3 7) (aR r 6) ao=bp (wL C lf n r) 1 2 3 7 F h:=by
 intro F h;kernel_rfl
def afT(C:ad)(lf:Nat)(r:ay)(x1 x2 x3 x7:O)(h:U):ab:=
 wL C lf (zg C lf r) r x1 x2 x3 x7 h
theorem awI{r:ay}:∀F h,au l9 C lf [1,1] F h bb (aR r 6) ao=bp (afT C lf r) 1 2 3 7 F h:=bn (by kernel_rfl) awG awH
noncomputable def afU(C:ad)(lf:Nat)(n:bt)(x1 x2 x3:O)(h:U):ab:=
 n x1 x2 x3 (some (.val (.slice none 0 0))) h
theorem awJ{n:bt}:∀F h,au l9 C lf [1,0] F h (bp n 1 2 3 7) a5 ao=bE (afU C lf n) 1 2 3 F h:=by
 intro F h;kernel_rfl
def afV(C:ad)(lf:Nat)(r:ay)(x1 x2 x3:O)(h:U):ab:=
 afU C lf (afT C lf r) x1 x2 x3 h
theorem awK{r:ay}:∀F h,au l9 C lf [1] F h bb (aR r 6) ao=bE (afV C lf r) 1 2 3 F h:=bn (by kernel_rfl) awI awJ
noncomputable def UM(C:ad)(lf:Nat)(n:bI)(x0 x1 x2:O)(h:U):ab:=
 ob x0 λa=>b2 (ri 64 a h) λa=>n x1 x2 (some a)
theorem awL{n:bI}:∀F h,au l9 C lf [0] F h (bE n 1 2 3) a5 ao=bE (UM C lf n) 0 1 2 F h:=by
 intro F h;kernel_rfl
def UN(C:ad)(lf:Nat)(r:ay)(x0 x1 x2:O)(h:U):ab:=
 UM C lf (afV C lf r) x0 x1 x2 h
theorem awM{r:ay}:∀F h,au l9 C lf [] F h bb (aR r 6) ao=bE (UN C lf r) 0 1 2 F h:=bn (by kernel_rfl) awK awL
def C3(C:ad)(lf:Nat)(aj ak aD:J)(h:U):ab:=UN C lf nL (some aj) (some ak) (some aD) h
def Ph:cx aw:=nA l9 C3 (λC lf aj ak aD h=>cZ (K:=(aR nL 6)) (by kernel_rfl) (Eq.trans (awM _ h) (by kernel_rfl))) (by kernel_rfl)
def Ax:ca aw:=dn 90 Tryd.f90 Tryd.func90 (by kernel_rfl)
noncomputable def OL(h:U):ab:=
 some (.ret (.bm []),h)
def E5(C:ad)(lf:Nat)(n:bt)(av:cu)(x1 bC eC aF:O)(h:U):ab:=
 mr .lss 3 aF eC (ob bC λa=>tH 1 a aF h λa=>ob x1 λb=>ob (bZ b h) λb=>tG 0 b h λb=>ob (ew a) λc=>ob (bZ c h) λc=>cl .sub 3 c (I 1) λc=>cR (C (.fn 23) [b,c] h) λb k=>ob (ew a) λa=>ob (st 1 a (I 0) k) λk=>cC .add 3 aF (I 1) λa=>n x1 bC eC (some a) k) (av h)
theorem ayw{n:bt}{av:cu}:∀F h,au Ax C lf [1,0,0] F h (bp n 1 4 5 6) a5 (bM 0 (ee av) ao)=bp (E5 C lf n av) 1 4 5 6 F h:=by
 intro F h;kernel_rfl
def Bg(C:ad)(lf:Nat)(av:cu)(k:O×O×O×O->U->ab)(s:O×O×O×O)(h:U):ab:=
 E5 C lf (λa b c d=>k (a,b,c,d)) av s.1 s.2.1 s.2.2.1 s.2.2.2 h
def VT(C:ad)(lf:Nat)(n:bt)(x0 x1:O)(h:U):ab:=
 ob x0 λa=>ob (bZ a h) λa=>kM 143 a λb=>n x1 (some a) (some b) (bG 0) h
theorem ayx{n:bt}:∀F h,au Ax C lf [0] F h (bp n 1 4 5 6) a5 ao=a8 (VT C lf n) 0 1 F h:=by
 intro F h;kernel_rfl
def VU(C:ad)(lf:Nat)(n:cu)(x0 x1:O)(h:U):ab:=
 VT C lf (λa b c d=>bq (Bg C lf n) lf (a,b,c,d)) x0 x1 h
theorem ayy{n:cu}:∀F h,au Ax C lf [] F h (ee n) a5 ao=a8 (VU C lf n) 0 1 F h:=bn (b:=cc Ax [1]) (by kernel_rfl) (gm (id:=0) (a:=cc Ax [1,0]) (by kernel_rfl) (hg (g:=λF=>(F 1,F 4,F 5,F 6)) (body:=Bg C lf n) (by kernel_rfl) (λk=>(ayw (n:=λx1 bC eC aF h=>k (x1,bC,eC,aF) h))))) (ayx (n:=λx1 bC eC aF h=>bq (Bg C lf n) lf (x1,bC,eC,aF) h))
def Ik(C:ad)(lf:Nat)(aj ak:J)(h:U):ab:=VU C lf OL (some aj) (some ak) h
def ab5:cx aw:=hd Ax Ik (λC lf aj ak h=>cZ (K:=(ee OL)) (by kernel_rfl) (Eq.trans (ayy _ h) (by kernel_rfl))) (by kernel_rfl)
def m6:ca aw:=dn 78 Tryd.f78 Tryd.func78 (by kernel_rfl)
noncomputable def uB(h:U):ab:=
 some (.ret (.bm []),h)
def BE(C:ad)(lf:Nat)(n:cu)(x0 x1 aF:O)(h:U):ab:=
 ob aF λa=>gj a (ob x0 λa=>fU 35 x1 λb=>cS C 91 [a,b] h λa=>n) (n h)
theorem awX{n:cu}:∀F h,au m6 C lf [1,1,1,1] F h (ee n) a5 ao=bE (BE C lf n) 0 1 6 F h:=by
 intro F h;kernel_rfl
def UQ(C:ad)(lf:Nat)(n:bt)(x0 x1 aF hD:O)(h:U):ab:=
 cC .add 3 hD (I 1) λa=>n x0 x1 aF (some a) h
def UR(C:ad)(lf:Nat)(n:bt)(x0 x1 aF x7 hD:O)(h:U):ab:=
 ob aF λa=>dQ a x1 h λb k=>dQ a x7 k λc k=>dQ a (ew b) k λb k=>dQ a (b6 36 b) k λb k=>dQ a (ev 16 17 b c) k λb k=>dQ a (b6 0 b) k λb k=>jr .gtr 3 a (bZ b k) (I 0) k λb k=>ml a b λa=>n x0 x1 (some a) hD k
def US(C:ad)(lf:Nat)(n:cY)(x0 x1 aF x7 hD:O)(h:U):ab:=
 ob x1 λa=>ob x7 λb=>eg 36 a λa=>ob (ev 16 17 a b) λa=>ob (fu 17 a h) λa=>cS C 92 [a] h λa k=>fY a (ob x0 λa=>ob x1 λb=>ob x7 λc=>eg 36 b λb=>ob (ev 16 17 b c) λb=>ob (b6 0 b) λb=>cS C 91 [a,b] k λa=>n x0 x1 aF x7 hD) (n x0 x1 aF x7 hD k)
def UT(C:ad)(lf:Nat)(n:bt)(x0 x1 aF x7 hD:O)(h:U):ab:=
 US C lf (UR C lf n) x0 x1 aF x7 hD h
noncomputable def UU(C:ad)(lf:Nat)(n:cY)(x0 x1 aF hD:O)(h:U):ab:=
 ob hD λa=>n x0 x1 aF (some a) hD h
def UW(C:ad)(lf:Nat)(n:bt)(x0 x1 aF hD:O)(h:U):ab:=
 UU C lf (UT C lf n) x0 x1 aF hD h
def UX(C:ad)(lf:Nat)(n:bt)(x0 x1 aF hD:O)(h:U):ab:=
 UW C lf (UQ C lf n) x0 x1 aF hD h
noncomputable def Ko(C:ad)(lf:Nat)(n:bt)(aA:bI)(x0 x1 aF hD Xf:O)(h:U):ab:=
 ob Xf λa=>fY a (n x0 x1 aF hD h) (aA x0 x1 aF h)
def Kp(C:ad)(lf:Nat)(n:bt)(aA:bI)(x0 x1 aF hD Xf:O)(h:U):ab:=
 Ko C lf (UX C lf n) aA x0 x1 aF hD Xf h
def Kq(C:ad)(lf:Nat)(n:cY)(x0 x1 aF hD:O)(h:U):ab:=
 cC .lss 3 hD (I 16) λa=>n x0 x1 aF hD (some a) h
def zh(C:ad)(lf:Nat)(n:bt)(aA:bI)(x0 x1 aF hD:O)(h:U):ab:=
 Kq C lf (Kp C lf n aA) x0 x1 aF hD h
theorem awP{n:bt}{aA:bI}:∀F h,au m6 C lf [1,1,1,0,1,0,0] F h (bp n 0 1 6 28) a5 (bM 2 (bE aA 0 1 6) ao)=bp (zh C lf n aA) 0 1 6 28 F h:=by
 intro F h;kernel_rfl
def wu(C:ad)(lf:Nat)(aA:bI)(k:O×O×O×O->U->ab)(s:O×O×O×O)(h:U):ab:=
 zh C lf (λa b c d=>k (a,b,c,d)) aA s.1 s.2.1 s.2.2.1 s.2.2.2 h
def afW(C:ad)(lf:Nat)(n:bt)(x0 x1 aF:O)(h:U):ab:=
 n x0 x1 aF (bG 0) h
theorem awQ{n:bt}:∀F h,au m6 C lf [1,1,1,0,0] F h (bp n 0 1 6 28) a5 ao=bE (afW C lf n) 0 1 6 F h:=by
 intro F h;kernel_rfl
def afX(C:ad)(lf:Nat)(n:bI)(x0 x1 aF:O)(h:U):ab:=
 afW C lf (λa b c d=>bq (wu C lf n) lf (a,b,c,d)) x0 x1 aF h
theorem awR{n:bI}:∀F h,au m6 C lf [1,1,1,0] F h (bE n 0 1 6) a5 ao=bE (afX C lf n) 0 1 6 F h:=bn (b:=cc m6 [1,1,1,0,1]) (by kernel_rfl) (gm (id:=2) (a:=cc m6 [1,1,1,0,1,0]) (by kernel_rfl) (hg (g:=λF=>(F 0,F 1,F 6,F 28)) (body:=wu C lf n) (by kernel_rfl) (λk=>(awP (n:=λx0 x1 aF hD h=>k (x0,x1,aF,hD) h))))) (awQ (n:=λx0 x1 aF hD h=>bq (wu C lf n) lf (x0,x1,aF,hD) h))
def afY(C:ad)(lf:Nat)(n:cu)(x0 x1 aF:O)(h:U):ab:=
 afX C lf (BE C lf n) x0 x1 aF h
theorem awS{n:cu}:∀F h,au m6 C lf [1,1,1] F h (ee n) a5 ao=bE (afY C lf n) 0 1 6 F h:=bn (by kernel_rfl) awX awR
noncomputable def afZ(C:ad)(lf:Nat)(n:bI)(x0 x1:O)(h:U):ab:=
 n x0 x1 (some (.bool false)) h
theorem awT{n:bI}:∀F h,au m6 C lf [1,1,0] F h (bE n 0 1 6) a5 ao=a8 (afZ C lf n) 0 1 F h:=by
 intro F h;kernel_rfl
def Kr(C:ad)(lf:Nat)(n:cu)(x0 x1:O)(h:U):ab:=
 afZ C lf (afY C lf n) x0 x1 h
theorem awU{n:cu}:∀F h,au m6 C lf [1,1] F h (ee n) a5 ao=a8 (Kr C lf n) 0 1 F h:=bn (by kernel_rfl) awS awT
def Ks(C:ad)(lf:Nat)(n:aU)(x0 x1:O)(h:U):ab:=
 fU 18 x1 λa=>ob (fu 17 a h) λa=>cS C 92 [a] h λa k=>fY a (ob x0 λa=>fU 18 x1 λb=>ob (b6 0 b) λb=>cS C 91 [a,b] k λa=>n x0 x1) (n x0 x1 k)
theorem awV{n:aU}:∀F h,au m6 C lf [1,0] F h (a8 n 0 1) a5 ao=a8 (Ks C lf n) 0 1 F h:=by
 intro F h;kernel_rfl
def wM(C:ad)(lf:Nat)(n:cu)(x0 x1:O)(h:U):ab:=
 Ks C lf (Kr C lf n) x0 x1 h
theorem awW{n:cu}:∀F h,au m6 C lf [1] F h (ee n) a5 ao=a8 (wM C lf n) 0 1 F h:=bn (by kernel_rfl) awU awV
def EW(C:ad)(lf:Nat)(n:bI)(av:aU)(x0 x1 x2:O)(h:U):ab:=
 gJ .lss 3 x2 (I 278) (ob x0 λa=>a2 C 76 x1 x2 h λb k=>cS C 91 [a,b] k λa k=>cC .add 3 x2 (I 1) λa=>n x0 x1 (some a) k) (av x0 x1 h)
theorem awY{n:bI}{av:aU}:∀F h,au m6 C lf [0,0,0] F h (bE n 0 1 2) a5 (bM 0 (a8 av 0 1) ao)=bE (EW C lf n av) 0 1 2 F h:=by
 intro F h;kernel_rfl
def Bc(C:ad)(lf:Nat)(av:aU)(k:O×O×O->U->ab)(s:O×O×O)(h:U):ab:=
 EW C lf (λa b c=>k (a,b,c)) av s.1 s.2.1 s.2.2 h
def af0(C:ad)(lf:Nat)(n:cu)(x0 x1 x2:O)(h:U):ab:=
 bq (Bc C lf (wM C lf n)) lf (x0,x1,x2) h
theorem awZ{n:cu}:∀F h,au m6 C lf [] F h (ee n) a5 ao=bE (af0 C lf n) 0 1 2 F h:=bn (a:=cc m6 [0]) (by kernel_rfl) awW (gm (id:=0) (a:=cc m6 [0,0]) (by kernel_rfl) (hg (g:=λF=>(F 0,F 1,F 2)) (body:=Bc C lf (λx0 x1 h=>wM C lf n x0 x1 h)) (by kernel_rfl) (λk=>(awY (n:=λx0 x1 x2 h=>k (x0,x1,x2) h)))))
def Ia(C:ad)(lf:Nat)(aj ak aD:J)(h:U):ab:=af0 C lf uB (some aj) (some ak) (some aD) h
def abT:cx aw:=nA m6 Ia (λC lf aj ak aD h=>cZ (K:=(ee uB)) (by kernel_rfl) (Eq.trans (awZ _ h) (by kernel_rfl))) (by kernel_rfl)
end
section
open Classical
noncomputable def k0(nd:Nat->Nat->J)(i:Nat)(S:Nat->Prop):Nat->Nat->J:=λi' a3=>if i'=i/\S a3 then I 0 else nd i' a3
noncomputable def dF(bl:Nat->Nat->Nat)(i:Nat)(S:Nat->Prop):Nat->Nat->Nat:=λi' a3=>if i'=i/\S a3 then 0 else bl i' a3
theorem alf{nd:Nat->Nat->J}{i:Nat}{S:Nat->Prop}{c:Nat}(h:S c):k0 nd i S i c=I 0:=if_pos ⟨rfl,h⟩
theorem G3{nd:Nat->Nat->J}{i:Nat}{S:Nat->Prop}{i' c:Nat}(h:¬(i'=i/\S c)):k0 nd i S i' c=nd i' c:=if_neg h
theorem ot{bl:Nat->Nat->Nat}{i:Nat}{S:Nat->Prop}{c:Nat}(h:S c):dF bl i S i c=0:=if_pos ⟨rfl,h⟩
theorem iY{bl:Nat->Nat->Nat}{i:Nat}{S:Nat->Prop}{i' c:Nat}(h:¬(i'=i/\S c)):dF bl i S i' c=bl i' c:=if_neg h
theorem Nm(nd:Nat->Nat->J)(i:Nat)(S e8:Nat->Prop):k0 (k0 nd i S) i e8=k0 nd i (λc=>S c\/e8 c):=by
 funext i' c
 unfold k0;by_cases e:i'=i<;>by_cases a:S c<;>by_cases a':e8 c<;>simp[e,a,a']
theorem Cz(bl:Nat->Nat->Nat)(i:Nat)(S e8:Nat->Prop):dF (dF bl i S) i e8=dF bl i (λc=>S c\/e8 c):=by
 funext i' c
 unfold dF;by_cases e:i'=i<;>by_cases a:S c<;>by_cases a':e8 c<;>simp[e,a,a']
theorem ale(nd:Nat->Nat->J)(i c:Nat):cT nd i c (I 0)=k0 nd i (· =c):=by
 funext i' a3;unfold cT k0;by_cases e:i'=i/\a3=c
 ·rw[if_pos e,if_pos e]
 ·rw[if_neg e,if_neg e]
theorem ald(bl:Nat->Nat->Nat)(i c:Nat):ka bl i c 0=dF bl i (· =c):=by
 funext i' a3;unfold ka dF;by_cases e:i'=i/\a3=c
 ·rw[if_pos e,if_pos e]
 ·rw[if_neg e,if_neg e]
theorem G4(nd:Nat->Nat->J)(i:Nat){S:Nat->Prop}(h:∀c,¬S c):k0 nd i S=nd:=by
 funext i' c;exact G3 λe=>h c e.2
theorem Nl(bl:Nat->Nat->Nat)(i:Nat){S:Nat->Prop}(h:∀c,¬S c):dF bl i S=bl:=by
 funext i' c;exact iY λe=>h c e.2
structure hE (h h':U) (T:ei) (n N:Nat) (wd dg b:Nat->Nat) (now:Int) (us:Nat->Bool) (nd:Nat->Nat->J) (bl:Nat->Nat->Nat) (i:Nat) (S:Nat->Prop):Prop where
 A:bx h' T n N dg b now us (k0 nd i S)
 M:c1 n N dg (k0 nd i S) (dF bl i S)
 O:∀j,bQ dg j=true↔(bQ wd j=true/\∀c,12<=c->c<308->S c->bl i c≠j+1)
 F:aG h h' (λj=>j=T.bO\/j=T.aJ)
section
variable{lf:Nat}{h h' fq:U}{T:ei}{n N:Nat}{wd dg FG b:Nat->Nat}{now:Int}{us:Nat->Bool}{nd:Nat->Nat->J}{bl:Nat->Nat->Nat}{i:Nat}{S e8:Nat->Prop}
theorem hE.refl(A:bx h T n N wd b now us nd)(M:c1 n N wd nd bl)(ea:∀c,¬S c):hE h h T n N wd wd b now us nd bl i S:=
 ⟨by rw[G4 nd i ea];exact A,by rw[G4 nd i ea,Nl bl i ea];exact M,λj=>⟨λe=>⟨e,λc _ _ ae=>absurd ae (ea c)⟩,λe=>e.1⟩,aG.refl _ _⟩
theorem hE.trans(a:hE h h' T n N wd dg b now us nd bl i S)(c:hE h' fq T n N dg FG b now us (k0 nd i S) (dF bl i S) i e8):hE h fq T n N wd FG b now us nd bl i (λc=>S c\/e8 c):=by
 refine⟨by rw[<- Nm];exact c.A,by rw[<- Nm, <- Cz];exact c.M,λj=>?_,a.F.trans c.F⟩;rw[c.O,a.O];constructor
 ·rintro ⟨⟨h1,h2⟩,h3⟩
  refine⟨h1,λc dG ae ea=>?_⟩;by_cases e:S c
  ·exact h2 c dG ae e
  ·have:=h3 c dG ae (ea.resolve_left e)
   rw[iY (λx=>e x.2)] at this;exact this
 ·rintro ⟨h1,h2⟩
  refine⟨⟨h1,λc dG ae ea=>h2 c dG ae (.inl ea)⟩,λc dG ae ea=>?_⟩;by_cases e:S c
  ·rw[ot e];omega
  ·rw[iY (λx=>e x.2)];exact h2 c dG ae (.inr ea)
theorem hE.ext(a:hE h h' T n N wd dg b now us nd bl i S)(ea:∀c,S c↔e8 c):hE h h' T n N wd dg b now us nd bl i e8:=by
 have:S=e8:=funext λc=>propext (ea c)
 rw[<- this];exact a
theorem hE.after(F:aG h h' (λ_=>False))(A:bx h T n N wd b now us nd)(a:bx h' T n N wd b now us nd->hE h' fq T n N wd dg b now us nd bl i S):hE h fq T n N wd dg b now us nd bl i S:=by
 have xa:bx h' T n N wd b now us nd:=A.frame F.next λj aa=>F.same j (by
  rcases aa with rfl|rfl|rfl|rfl
  ·exact A.lt
  ·exact A.st.wy
  ·exact A.st.wv
  ·exact A.lb) (λx=>x)
 have d:=a xa;exact⟨d.A,d.M,d.O,(aG.ek F (λ_ x=>x.elim)).trans d.F⟩
theorem Hg{C:ad}(D:vo C)(A:bx h T n N wd b now us nd)(M:c1 n N wd nd bl)(hi:i<N){c:Nat}(dG:12<=c)(ae:c<308):
 ∃h' dg,C (.fn 91) [.ptr T.a9 0,.ptr T.aJ (i*308+c)] h=some (.ret (.bm []),h')/\hE h h' T n N wd dg b now us nd bl i (· =c):=by
 obtain⟨h',e,b0,h5,aM⟩:=al8 D A M hi dG ae;rw[ale] at b0 h5;rw[ald] at h5;refine⟨h',_,e,⟨b0,h5,λj=>?_,aM⟩⟩;unfold xI;by_cases av:bl i c=0
 ·rw[if_pos av];exact⟨λx=>⟨x,λa3 _ _ h=>by rw[h,av];omega⟩,λx=>x.1⟩
 ·rw[if_neg av,Rn A.st.iU,Bool.and_eq_true,decide_eq_true_eq];exact⟨λx=>⟨x.1,λa3 _ _ h=>by rw[h];omega⟩,λx=>⟨x.1,λe=>x.2 c dG ae rfl (by omega)⟩⟩
theorem qX{m:Nat}:12<=a4 m:=by unfold a4;split<;>(try split)<;>omega
theorem sg{m:Nat}(hm:m<278):a4 m<308:=by unfold a4;split<;>(try split)<;>omega
def gX(k m:Nat)(c:Nat):Prop:=∃j,k<=j/\j<m/\c=a4 j
theorem alX{C:ad}(D:vo C)(nz:sF C)(av:aU)(hi:i<N):∀(d:Nat) (m:Nat) (h:U) (wd:Nat->Nat) (nd:Nat->Nat->J) (bl:Nat->Nat->Nat),m+d=278->∀f,d<f->
 bx h T n N wd b now us nd->c1 n N wd nd bl->∃h' dg,bq (Bc C lf av) f (some (.ptr T.a9 0),some (.ptr T.aJ (i*308)),some (I (m:Int))) h=av (some (.ptr T.a9 0)) (some (.ptr T.aJ (i*308))) h'/\
  hE h h' T n N wd dg b now us nd bl i (gX m 278):=by
 intro d
 induction d with
 |zero=>
  intro m h wd nd bl hm f an A M;obtain⟨f,rfl⟩:=dK f (by omega);refine⟨h,wd,?_,hE.refl A M λc ⟨j,h1,h2,_⟩=>by omega⟩;rw[dr];unfold Bc EW;have ba:decide ((m:Int)<278)=false:=br (by omega);simp only[aE,ba]
 |succ d bc=>
  intro m h wd nd bl hm f an A M;obtain⟨f,rfl⟩:=dK f (by omega);have qz:m<278:=by omega
  obtain⟨h1,o3,az,d1⟩:=Hg D A M hi (qX (m:=m)) (sg qz);obtain⟨h2,zx,aA,d2⟩:=bc (m+1) h1 o3 _ _ (by omega) f (by omega) d1.A d1.M;refine⟨h2,zx,?_,(d1.trans d2).ext λc=>?_⟩
  ·rw[dr, <- aA];have ba:decide ((m:Int)<278)=true:=bu (by omega);have al:IntKind.i64.wrap ((m:Int)+1)=((m+1:Nat):Int):=cL (by omega);have aC:=nz h T.aJ (i*308) m qz;show EW C lf (λx0 x1 x2 h=>bq (Bc C lf av) f (x0,x1,x2) h) av (some (.ptr T.a9 0)) (some (.ptr T.aJ (i*308))) (some (I (m:Int))) h=_;unfold EW;simp only[aE,ba,aC,az,al]
  ·constructor
   ·rintro (rfl|⟨j,a,b,c⟩)
    ·exact⟨m,Nat.le_refl _,qz,rfl⟩
    ·exact⟨j,by omega,b,c⟩
   ·rintro ⟨j,a,b,c⟩
    by_cases e:j=m
    ·subst e;exact .inl c
    ·exact .inr ⟨j,by omega,b,c⟩
end
end
section
open Classical
section
variable{lf:Nat}{h h' fq:U}{T:ei}{n N:Nat}{wd dg FG b:Nat->Nat}{now:Int}{us:Nat->Bool}{nd:Nat->Nat->J}{bl:Nat->Nat->Nat}{i:Nat}{S e8:Nat->Prop}
theorem aae(A:bx h T n N wd b now us nd)(M:c1 n N wd nd bl)(hi:i<N){c:Nat}(dG:12<=c)(ae:c+17<=308):fu 17 (.ptr T.aJ (i*308+c)) h=some (.agg (mD λj=>bl i (c+j))):=by
 obtain⟨md,nf,_,_⟩:=A.wn
 have:h.cells T.aJ (i*308+c) 17=some (mD λj=>bl i (c+j)):=by
  refine lE (by simp[mD]) λj aa=>?_
  rw[Nat.add_assoc,A.ef i (c+j) hi (by omega),M.cell i (c+j) hi (by omega) (by omega)];simp[mD,aa]
 rw[n2 nf,this];rfl
def hole(bl:Nat->Nat->Nat)(i c:Nat):Bool:=(List.range 16).all λj=>bl i (c+(1+j))==0
theorem oL{bl:Nat->Nat->Nat}{i c:Nat}:hole bl i c=true↔∀j,j<16->bl i (c+(1+j))=0:=by
 simp[hole]
def An(bl:Nat->Nat->Nat)(i p q:Nat)(c:Nat):Prop:=∃j,p<=j/\j<q/\c=36+17*j/\hole bl i (36+17*j)=true
def po(bl:Nat->Nat->Nat)(i p q:Nat):Prop:=∃j,p<=j/\j<q/\0<bl i (36+17*j)/\hole bl i (36+17*j)=false
theorem IQ(bl:Nat->Nat->Nat)(i q j:Nat):hole (dF bl i (· =36+17*q)) i (36+17*j)=hole bl i (36+17*j):=by
 have h1:∀t,t<16->dF bl i (· =36+17*q) i (36+17*j+(1+t))=bl i (36+17*j+(1+t)):=λt aN=>iY (by omega)
 rw[Bool.eq_iff_iff,oL,oL];exact⟨λh t aN=>by rw[<- h1 t aN];exact h t aN,λh t aN=>by rw[h1 t aN];exact h t aN⟩
theorem ajZ(bl:Nat->Nat->Nat)(i q:Nat):po (dF bl i (· =36+17*q)) i (q+1) 16↔po bl i (q+1) 16:=by
 constructor
 ·rintro ⟨j,h1,h2,h3,aW⟩
  rw[IQ] at aW;rw[iY (by omega)] at h3;exact⟨j,h1,h2,h3,aW⟩
 ·rintro ⟨j,h1,h2,h3,aW⟩
  refine⟨j,h1,h2,?_,by rw[IQ];exact aW⟩;rw[iY (by omega)];exact h3
theorem Yq(bl:Nat->Nat->Nat)(i q:Nat)(a0:q<16):po bl i q 16↔((0<bl i (36+17*q)/\hole bl i (36+17*q)=false)\/po bl i (q+1) 16):=by
 constructor
 ·rintro ⟨j,h1,h2,h3,aW⟩
  by_cases e:j=q
  ·subst e;exact .inl ⟨h3,aW⟩
  ·exact .inr ⟨j,by omega,h2,h3,aW⟩
 ·rintro (⟨h3,aW⟩|⟨j,h1,h2,h3,aW⟩)
  ·exact⟨q,Nat.le_refl _,a0,h3,aW⟩
  ·exact⟨j,by omega,h2,h3,aW⟩
theorem amX(bl:Nat->Nat->Nat)(i q c:Nat)(a0:q<16)(ck:hole bl i (36+17*q)=true):(c=36+17*q\/An (dF bl i (· =36+17*q)) i (q+1) 16 c)↔An bl i q 16 c:=by
 constructor
 ·rintro (rfl|⟨j,h1,h2,h3,aW⟩)
  ·exact⟨q,Nat.le_refl _,a0,rfl,ck⟩
  ·rw[IQ] at aW;exact⟨j,by omega,h2,h3,aW⟩
 ·rintro ⟨j,h1,h2,h3,aW⟩
  by_cases e:j=q
  ·subst e;exact .inl h3
  ·exact .inr ⟨j,by omega,h2,h3,by rw[IQ];exact aW⟩
theorem amY(bl:Nat->Nat->Nat)(i q c:Nat)(ck:hole bl i (36+17*q)=false):An bl i (q+1) 16 c↔An bl i q 16 c:=by
 constructor
 ·rintro ⟨j,h1,h2,h3,aW⟩
  exact⟨j,by omega,h2,h3,aW⟩
 ·rintro ⟨j,h1,h2,h3,aW⟩
  by_cases e:j=q
  ·subst e;rw[ck] at aW;cases aW
  ·exact⟨j,by omega,h2,h3,aW⟩
theorem alU{C:ad}(D:vo C)(E:B5 C)(aA:bI)(hi:i<N):∀(d:Nat) (q:Nat) (any:Bool) (h:U) (wd:Nat->Nat) (nd:Nat->Nat->J) (bl:Nat->Nat->Nat),q+d=16->∀f,d<f->
 bx h T n N wd b now us nd->c1 n N wd nd bl->∃h' dg,bq (wu C lf aA) f (some (.ptr T.a9 0),some (.ptr T.aJ (i*308)),some (.bool any),some (I (q:Int))) h=
  aA (some (.ptr T.a9 0)) (some (.ptr T.aJ (i*308))) (some (.bool (any||decide (po bl i q 16)))) h'/\
  hE h h' T n N wd dg b now us nd bl i (An bl i q 16):=by
 intro d
 induction d with
 |zero=>
  intro q any h wd nd bl hm f an A M;obtain⟨f,rfl⟩:=dK f (by omega);have yy:decide (po bl i q 16)=false:=br λ⟨j,h1,h2,_⟩=>by omega
  refine⟨h,wd,?_,hE.refl A M λc ⟨j,h1,h2,_⟩=>by omega⟩;rw[dr,yy,Bool.or_false];unfold wu zh Kq Kp Ko;have ba:decide ((q:Int)<16)=false:=br (by omega);simp only[aE,ba]
 |succ d bc=>
  intro q any h wd nd bl hm f an A M;obtain⟨f,rfl⟩:=dK f (by omega);have a0:q<16:=by omega
  have ba:decide ((q:Int)<16)=true:=bu (by omega);have al:IntKind.i64.wrap ((q:Int)+1)=((q+1:Nat):Int):=cL (by omega);have b7:=lP (n:=16) (s:=17) (k:=T.aJ) (off:=i*308+36) (kd:= .i64) (i:=(q:Int)) (by omega) (by omega);rw[Int.toNat_natCast,show i*308+36+q*17=i*308+(36+17*q) by omega] at b7;have lK:=aae A M hi (c:=36+17*q) (by omega) (by omega);obtain⟨h1,em,aM⟩:=E h (λj=>bl i (36+17*q+j));have aB:((List.range 16).all λj=>bl i (36+17*q+(1+j))==0)=hole bl i (36+17*q):=rfl;rw[aB] at em
  have b0:bx h1 T n N wd b now us nd:=(hE.after aM A λxa=>hE.refl (S:=λ_=>False) xa M (λ_ x=>x)).A |> λa=>by
   rw[G4 nd i (λ_ x=>x)] at a;exact a
  cases ck:hole bl i (36+17*q) with
  |true=>
   obtain⟨h2,zx,ZF,d2⟩:=Hg D b0 M hi (c:=36+17*q) (by omega) (by omega);have alZ:=hE.after aM A λ_=>d2
   have hv:(k0 nd i (· =36+17*q)) i (36+17*q)=I 0:=alf rfl;have mf:=d2.A.ef i (36+17*q) hi (by omega);rw[hv] at mf;obtain⟨h3,u9,cj,d3⟩:=bc (q+1) any h2 zx _ _ (by omega) f (by omega) d2.A d2.M;refine⟨h3,u9,?_,(alZ.trans d3).ext λc=>?_⟩
   ·rw[dr];show zh C lf (λx0 x1 aF hD h=>bq (wu C lf aA) f (x0,x1,aF,hD) h) aA (some (.ptr T.a9 0)) (some (.ptr T.aJ (i*308))) (some (.bool any)) (some (I (q:Int))) h=_;unfold zh Kq Kp Ko UX UW UU UT US UR UQ;have a1:decide ((0:Int)<0)=false:=by decide
    have pF:decide (po (dF bl i (· =36+17*q)) i (q+1) 16)=decide (po bl i q 16):=by
     rw[decide_eq_decide,ajZ,Yq bl i q a0,ck];simp
    rw[pF] at cj;rw[<- cj];rw[ck] at em;cases any with
    |true=>simp only[aE,Nat.add_zero,ba,b7,lK,em,ZF,al]
    |false=>simp only[aE,Nat.add_zero,ba,b7,lK,em,ZF,al,mf,a1]
   ·exact amX bl i q c a0 ck
  |false=>
   have Xv:=b0.ef i (36+17*q) hi (by omega);rw[M.cell i (36+17*q) hi (by omega) (by omega)] at Xv;obtain⟨h3,u9,cj,d3⟩:=bc (q+1) (any||decide (0<bl i (36+17*q))) h1 wd nd bl (by omega) f (by omega) b0 M;refine⟨h3,u9,?_,(hE.after aM A λ_=>d3).ext λc=>amY bl i q c ck⟩;rw[dr];show zh C lf (λx0 x1 aF hD h=>bq (wu C lf aA) f (x0,x1,aF,hD) h) aA (some (.ptr T.a9 0)) (some (.ptr T.aJ (i*308))) (some (.bool any)) (some (I (q:Int))) h=_;unfold zh Kq Kp Ko UX UW UU UT US UR UQ;have a1:decide ((0:Int)<(bl i (36+17*q):Int))=decide (0<bl i (36+17*q)):=by rw[decide_eq_decide];omega
   have pF:(any||decide (0<bl i (36+17*q))||decide (po bl i (q+1) 16))=(any||decide (po bl i q 16)):=by
    rw[Bool.or_assoc, <- Bool.decide_or];congr 1;rw[decide_eq_decide,Yq bl i q a0,ck];simp
   rw[pF] at cj;rw[<- cj];rw[ck] at em;cases any with
   |true=>simp only[aE,Nat.add_zero,ba,b7,lK,em,al,Bool.true_or]
   |false=>simp only[aE,Nat.add_zero,ba,b7,lK,em,al,Xv,a1,Bool.false_or]
end
end
section
open Classical
section
variable{lf:Nat}{h h' fq:U}{T:ei}{n N:Nat}{wd dg FG b:Nat->Nat}{now:Int}{us:Nat->Bool}{nd:Nat->Nat->J}{bl:Nat->Nat->Nat}{i:Nat}{S e8:Nat->Prop}
theorem tK{m:Nat}(hm:m<278):a4 m≠18/\a4 m≠35/\∀q,q<16->a4 m≠36+17*q:=by
 unfold a4;split
 ·exact⟨by omega,by omega,λq a0=>by omega⟩
 ·split
  ·exact⟨by omega,by omega,λq a0=>by omega⟩
  ·exact⟨by omega,by omega,λq a0=>by omega⟩
theorem Rx{m gx:Nat}(h:a4 m=a4 gx)(hm:m<278)(qz:gx<278):m=gx:=by
 unfold a4 at h;split at h<;>split at h<;>(try split at h)<;>(try split at h)<;>omega
noncomputable def gS(bl:Nat->Nat->Nat)(i k c:Nat):Bool:=hole (dF bl i (gX k 278)) i c
def gC(bl:Nat->Nat->Nat)(i k c:Nat):Prop:=gX k 278 c\/(c=18/\gS bl i k 18=true)\/(∃j,j<16/\c=36+17*j/\gS bl i k (36+17*j)=true)\/
 (c=35/\∀j,j<16->bl i (36+17*j)=0\/gS bl i k (36+17*j)=true)
theorem uN{bl bl':Nat->Nat->Nat}{i c:Nat}(h:∀t,t<16->bl' i (c+(1+t))=bl i (c+(1+t))):hole bl' i c=hole bl i c:=by
 rw[Bool.eq_iff_iff,oL,oL];exact⟨λe t aN=>by rw[<- h t aN];exact e t aN,λe t aN=>by rw[h t aN];exact e t aN⟩
theorem am5{C:ad}(D:vo C)(E:B5 C)(A:bx h T n N wd b now us nd)(M:c1 n N wd nd bl)(hi:i<N){c:Nat}(dG:12<=c)(ae:c+17<=308):
 ∃h1,C (.fn 92) [.agg (mD λj=>bl i (c+j))] h=some (.ret (.bool (hole bl i c)),h1)/\bx h1 T n N wd b now us nd/\
  (hole bl i c=true->∃h2 zx,C (.fn 91) [.ptr T.a9 0,.ptr T.aJ (i*308+c)] h1=some (.ret (.bm []),h2)/\hE h h2 T n N wd zx b now us nd bl i (λx=>x=c/\hole bl i c=true))/\
  (hole bl i c=false->hE h h1 T n N wd wd b now us nd bl i (λx=>x=c/\hole bl i c=true)):=by
 obtain⟨h1,em,aM⟩:=E h (λj=>bl i (c+j));have aB:((List.range 16).all λj=>bl i (c+(1+j))==0)=hole bl i c:=rfl;rw[aB] at em
 have b0:bx h1 T n N wd b now us nd:=(hE.after aM A λxa=>hE.refl (S:=λ_=>False) xa M (λ_ x=>x)).A |> λa=>by
  rw[G4 nd i (λ_ x=>x)] at a;exact a
 refine⟨h1,em,b0,λck=>?_,λck=>?_⟩
 ·obtain⟨h2,zx,aA,d2⟩:=Hg D b0 M hi (c:=c) (by omega) (by omega);exact⟨h2,zx,aA,(hE.after aM A λ_=>d2).ext λx=>⟨λe=>⟨e,ck⟩,λe=>e.1⟩⟩
 ·refine(hE.after aM A λxa=>hE.refl (S:=λ_=>False) xa M (λ_ x=>x)).ext λx=>⟨λe=>e.elim,λe=>?_⟩
  rw[ck] at e;exact absurd e.2 (by simp)
theorem arK{k q:Nat}(a0:q<16):¬gX k 278 (36+17*q):=λ⟨_,_,hm,e⟩=>(tK hm).2.2 q a0 e.symm
theorem Jj{k q:Nat}{p:Prop}(a0:q<16):hole (dF bl i (λc=>gX k 278 c\/(c=18/\p))) i (36+17*q)=gS bl i k (36+17*q):=by
 unfold gS;refine uN λt aN=>?_
 by_cases e:gX k 278 (36+17*q+(1+t))
 ·rw[ot e,ot (.inl e)]
 ·rw[iY (λx=>e x.2),iY (λx=>x.2.elim e (λy=>by omega))]
theorem aeu{k q:Nat}{p:Prop}(a0:q<16):dF bl i (λc=>gX k 278 c\/(c=18/\p)) i (36+17*q)=bl i (36+17*q):=
 iY (λx=>x.2.elim (arK a0) (λy=>by omega))
theorem aet{k:Nat}{p:Prop}:po (dF bl i (λc=>gX k 278 c\/(c=18/\p))) i 0 16↔¬ ∀j,j<16->bl i (36+17*j)=0\/gS bl i k (36+17*j)=true:=by
 constructor
 ·rintro ⟨j,_,aa,h1,h2⟩ fP
  rw[aeu aa] at h1;rw[Jj aa] at h2;rcases fP j aa with e|e
  ·omega
  ·rw[h2] at e;cases e
 ·intro aO;apply Classical.byContradiction;intro yy;refine aO λj aa=>?_
  by_cases e:bl i (36+17*j)=0
  ·exact .inl e
  ·right
   cases ck:gS bl i k (36+17*j) with
   |true=>rfl
   |false=>exact absurd ⟨j,by omega,aa,by rw[aeu aa];omega,by rw[Jj aa];exact ck⟩ yy
theorem aev{k c:Nat}{p:Prop}:An (dF bl i (λc=>gX k 278 c\/(c=18/\p))) i 0 16 c↔∃j,j<16/\c=36+17*j/\gS bl i k (36+17*j)=true:=by
 constructor
 ·rintro ⟨j,_,aa,h1,h2⟩
  rw[Jj aa] at h2;exact⟨j,aa,h1,h2⟩
 ·rintro ⟨j,aa,h1,h2⟩
  exact⟨j,by omega,aa,h1,by rw[Jj aa];exact h2⟩
def FX(C:ad):Prop:=∀h T n N wd b now us nd bl i (k:Nat),bx h T n N wd b now us nd->c1 n N wd nd bl->i<N->k<=278->
 ∃h' dg,C (.fn 78) [.ptr T.a9 0,.ptr T.aJ (i*308),I (k:Int)] h=some (.ret (.bm []),h')/\hE h h' T n N wd dg b now us nd bl i (gC bl i k)
theorem alV{C:ad}(gu:300<=lf)(D:vo C)(nz:sF C)(E:B5 C)(A:bx h T n N wd b now us nd)(M:c1 n N wd nd bl)(hi:i<N){k:Nat}(ai:k<=278):
 ∃h' dg,Ia C lf (.ptr T.a9 0) (.ptr T.aJ (i*308)) (I (k:Int)) h=some (.ret (.bm []),h')/\hE h h' T n N wd dg b now us nd bl i (gC bl i k):=by
 obtain⟨h1,o3,az,d1⟩:=alX (lf:=lf) D nz (λx0 x1 h=>wM C lf uB x0 x1 h) hi (278-k) k h wd nd bl (by omega) lf (by omega) A M;have v5:Ia C lf (.ptr T.a9 0) (.ptr T.aJ (i*308)) (I (k:Int)) h=bq (Bc C lf (λx0 x1 h=>wM C lf uB x0 x1 h)) lf (some (.ptr T.a9 0),some (.ptr T.aJ (i*308)),some (I (k:Int))) h:=rfl;rw[v5,az];obtain⟨h2,em,dk,tW,cA⟩:=am5 D E d1.A d1.M hi (c:=18) (by omega) (by omega);have lK:=aae d1.A d1.M hi (c:=18) (by omega) (by omega);have aEV:hole (dF bl i (gX k 278)) i 18=gS bl i k 18:=rfl
 have anM:∃h3 u9,wM C lf uB (some (.ptr T.a9 0)) (some (.ptr T.aJ (i*308))) h1=Kr C lf uB (some (.ptr T.a9 0)) (some (.ptr T.aJ (i*308))) h3/\
  hE h1 h3 T n N o3 u9 b now us (k0 nd i (gX k 278)) (dF bl i (gX k 278)) i (λx=>x=18/\hole (dF bl i (gX k 278)) i 18=true):=by
  cases ck:hole (dF bl i (gX k 278)) i 18 with
  |true=>
   obtain⟨h3,u9,cj,d3⟩:=tW ck;refine⟨h3,u9,?_,by rw[ck] at d3;exact d3⟩;rw[ck] at em;unfold wM Ks;simp only[aE,Nat.add_zero,lK,em,cj]
  |false=>
   refine⟨h2,o3,?_,by have:=cA ck;rw[ck] at this;exact this⟩;rw[ck] at em;unfold wM Ks;simp only[aE,Nat.add_zero,lK,em]
 obtain⟨h3,u9,cj,d3⟩:=anM;rw[cj];obtain⟨aW,aDq,e9,d4⟩:=alU (lf:=lf) D E (λx0 x1 aF h=>BE C lf uB x0 x1 aF h) hi 16 0 false h3 u9 _ _ rfl lf (by omega) d3.A d3.M;have PX:Kr C lf uB (some (.ptr T.a9 0)) (some (.ptr T.aJ (i*308))) h3=bq (wu C lf (λx0 x1 aF h=>BE C lf uB x0 x1 aF h)) lf (some (.ptr T.a9 0),some (.ptr T.aJ (i*308)),some (.bool false),some (I ((0:Nat):Int))) h3:=rfl;rw[PX,e9];have d14:=(d1.trans d3).trans (by rw[Nm,Cz] at d4;exact d4);rw[Cz,Bool.false_or];by_cases b1:∀j,j<16->bl i (36+17*j)=0\/gS bl i k (36+17*j)=true
 ·have aH:decide (po (dF bl i (λc=>gX k 278 c\/(c=18/\hole (dF bl i (gX k 278)) i 18=true))) i 0 16)=false:=br λe=>aet.1 e b1
  obtain⟨bz,aDr,iE,d5⟩:=Hg D d14.A d14.M hi (c:=35) (by omega) (by omega);refine⟨bz,aDr,?_,(d14.trans d5).ext λc=>?_⟩
  ·rw[aH];unfold BE;simp only[aE,Bool.not_false,iE];rfl
  ·rw[aev];unfold gC;constructor
   ·rintro (((h|h)|h)|h)
    ·exact .inl h
    ·exact .inr (.inl h)
    ·exact .inr (.inr (.inl h))
    ·exact .inr (.inr (.inr ⟨h,b1⟩))
   ·rintro (h|h|h|h)
    ·exact .inl (.inl (.inl h))
    ·exact .inl (.inl (.inr h))
    ·exact .inl (.inr h)
    ·exact .inr h.1
 ·have aH:decide (po (dF bl i (λc=>gX k 278 c\/(c=18/\hole (dF bl i (gX k 278)) i 18=true))) i 0 16)=true:=bu (aet.2 b1);refine⟨aW,aDq,?_,d14.ext λc=>?_⟩
  ·rw[aH];unfold BE;simp only[aE,Bool.not_true];rfl
  ·rw[aev];unfold gC;constructor
   ·rintro ((h|h)|h)
    ·exact .inl h
    ·exact .inr (.inl h)
    ·exact .inr (.inr (.inl h))
   ·rintro (h|h|h|h)
    ·exact .inl (.inl h)
    ·exact .inl (.inr h)
    ·exact .inr h
    ·exact absurd h.2 b1
end
end
section
open Classical
def iw(nd:Nat->Nat->J)(i:Nat)(g:Nat->J):Nat->Nat->J:=λi' c=>if i'=i then g c else nd i' c
theorem o1(nd:Nat->Nat->J)(i:Nat)(g:Nat->J)(c:Nat):iw nd i g i c=g c:=if_pos rfl
theorem o0(nd:Nat->Nat->J){i i':Nat}(g:Nat->J)(c:Nat)(h:i'≠i):iw nd i g i' c=nd i' c:=if_neg h
def fA(c:Nat):J:=if c=0 then .bool false else I 0
def e2(g:Nat->J):List J:=(List.range 308).map g
section
variable{lf:Nat}{h h' fq:U}{T:ei}{n N:Nat}{wd dg FG b:Nat->Nat}{now:Int}{us:Nat->Bool}{nd:Nat->Nat->J}{bl:Nat->Nat->Nat}{i:Nat}{S e8:Nat->Prop}
theorem bx.setRow(A:bx h T n N wd b now us nd)(hi:i<N){g:Nat->J}{v:Bool}(h0:g 0= .bool v):bx (h.set T.aJ (i*308) (e2 g)) T n N wd b now (de us i v) (iw nd i g):=by
 have aL:(e2 g).length=308:=by rw[e2,List.length_map,List.length_range]
 have ag:i*308+(e2 g).length<=N*308:=by rw[aL];omega
 refine⟨A.pd,A.gN,A.st.frame (Nat.le_of_eq (eb ..).symm) (iu _ _ _ (λe=>A.d4 e.symm)) (iu _ _ _ (λe=>A.d5 e.symm)),?_,?_,?_,eG A.wt,eG A.wn,λi' a3 cF fr=>?_,λi' cF=>?_,A.d1,A.d2,A.d3,A.d4,A.d5,by rw[eb];exact A.lt,by rw[eb];exact A.lb⟩
 ·rw[eH (.inl A.d3)];exact A.c0
 ·rw[eH (.inl A.d3)];exact A.aS
 ·rw[eH (.inl A.d3)];exact A.a2
 ·by_cases e:i'=i
  ·subst e;rw[hh A.wn ag (Nat.le_add_right _ _) (by rw[aL];exact Nat.add_lt_add_left fr _),o1,Nat.add_sub_cancel_left];simp[e2,fr]
  ·rw[eH (.inr (by rw[aL];omega)),o0 _ _ _ e];exact A.ef i' a3 cF fr
 ·by_cases e:i'=i
  ·subst e;rw[o1,kS,h0]
  ·rw[o0 _ _ _ e,ix _ _ e];exact A.lX i' cF
theorem aht(A:bx h T n N wd b now us nd)(hi:i<N){g:Nat->J}(bd:dZ (e2 g)=true):st 308 (.ptr T.aJ (i*308)) (.agg (e2 g)) h=some (h.set T.aJ (i*308) (e2 g)):=by
 have aL:(e2 g).length=308:=by rw[e2,List.length_map,List.length_range]
 exact hR (n:=308) (off:=i*308) (y:= .agg (e2 g)) A.wn aL (by omega) bd
theorem c1.row(M:c1 n N wd nd bl){g:Nat->J}(bd:∀c,12<=c->c<308->g c=I 0)(h0:∀c,12<=c->c<308->bl i c=0):c1 n N wd (iw nd i g) bl:=
 ⟨λi' c cF dG ae=>by
   by_cases e:i'=i
   ·subst e;rw[o1,bd c dG ae,h0 c dG ae];rfl
   ·rw[o0 _ _ _ e];exact M.cell i' c cF dG ae,M.le,M.on,M.inj⟩
theorem Nq{c:Nat}(dG:12<=c)(ae:c<308):gC bl i 0 c:=by
 have aC:∀m,m<278->gX 0 278 (a4 m):=λm hm=>⟨m,Nat.zero_le _,hm,rfl⟩
 have ck:∀d,(∀t,t<16->gX 0 278 (d+(1+t)))->gS bl i 0 d=true:=λd aH=>by
  unfold gS;rw[oL];exact λt aN=>ot (aH t aN)
 have acr:gS bl i 0 18=true:=ck 18 λt aN=>by
  have:=aC (6+t) (by omega)
  rwa[show a4 (6+t)=18+(1+t) by unfold a4;split<;>(try split)<;>omega] at this
 have Pv:∀q,q<16->gS bl i 0 (36+17*q)=true:=λq a0=>ck _ λt aN=>by
  have:=aC (22+16*q+t) (by omega)
  rwa[show a4 (22+16*q+t)=36+17*q+(1+t) by unfold a4;split<;>(try split)<;>omega] at this
 by_cases h1:c<18
 ·left
  have:=aC (c-12) (by omega)
  rwa[show a4 (c-12)=c by unfold a4;split<;>(try split)<;>omega] at this
 by_cases h2:c=18
 ·exact .inr (.inl ⟨h2,acr⟩)
 by_cases h3:c<35
 ·left
  have:=aC (c-13) (by omega)
  rwa[show a4 (c-13)=c by unfold a4;split<;>(try split)<;>omega] at this
 by_cases aW:c=35
 ·exact .inr (.inr (.inr ⟨aW,λj aa=> .inr (Pv j aa)⟩))
 by_cases bz:(c-36)%17=0
 ·exact .inr (.inr (.inl ⟨(c-36)/17,by omega,by omega,by
   have:=Pv ((c-36)/17) (by omega)
   exact this⟩))
 ·left
  have:=aC (22+16*((c-36)/17)+((c-36)%17-1)) (by omega)
  rwa[show a4 (22+16*((c-36)/17)+((c-36)%17-1))=c by unfold a4;split<;>(try split)<;>omega] at this
def m2(bl:Nat->Nat->Nat)(i:Nat):Nat->Nat->Nat:=λi' c=>if i'=i then 0 else bl i' c
def B8(C:ad):Prop:=∀h T n N wd b now us nd bl i (L H:Int),bx h T n N wd b now us nd->c1 n N wd nd bl->i<N->nd i 2=I L->nd i 11=I H->
 ((L≠0\/H≠0)->C (.fn 89) [.ptr T.a9 0,.ptr T.aJ (i*308)] h=some (.ret (.bm []),h))/\
 (L=0->H=0->∃h' dg,C (.fn 89) [.ptr T.a9 0,.ptr T.aJ (i*308)] h=some (.ret (.bm []),h')/\bx h' T n N dg b now (de us i false) (iw nd i fA)/\
   c1 n N dg (iw nd i fA) (m2 bl i)/\(∀j,bQ dg j=true↔(bQ wd j=true/\∀c,12<=c->c<308->bl i c≠j+1))/\aG h h' (λj=>j=T.bO\/j=T.aJ))
theorem am6{C:ad}(L5:FX C)(A:bx h T n N wd b now us nd)(M:c1 n N wd nd bl)(hi:i<N){L H:Int}(h8:nd i 2=I L)(iJ:nd i 11=I H):
 ((L≠0\/H≠0)->C6 C lf (.ptr T.a9 0) (.ptr T.aJ (i*308)) h=some (.ret (.bm []),h))/\
 (L=0->H=0->∃h' dg,C6 C lf (.ptr T.a9 0) (.ptr T.aJ (i*308)) h=some (.ret (.bm []),h')/\bx h' T n N dg b now (de us i false) (iw nd i fA)/\
   c1 n N dg (iw nd i fA) (m2 bl i)/\(∀j,bQ dg j=true↔(bQ wd j=true/\∀c,12<=c->c<308->bl i c≠j+1))/\aG h h' (λj=>j=T.bO\/j=T.aJ)):=by
 have a2:=A.ef i 2 hi (by omega);have GX:=A.ef i 11 hi (by omega);rw[h8] at a2;rw[iJ] at GX;have aA:i*308+1+1=i*308+2:=Nat.add_assoc _ 1 1;unfold C6 VS OK;simp only[aE,aA,a2,GX];refine⟨λb4=>?_,λr4 n0=>?_⟩
 ·by_cases r4:L=0
  ·have n0:decide (H=0)=false:=br (b4.resolve_left (λx=>x r4));simp only[bu r4,n0,aE,GX]
  ·simp only[br r4,aE]
 ·obtain⟨h1,o3,az,d1⟩:=L5 h T n N wd b now us nd bl i 0 A M hi (by omega);have Nx:C (.fn 78) [.ptr T.a9 0,.ptr T.aJ (i*308),I 0] h=some (.ret (.bm []),h1):=az;have oF:hZ aw 125 [] []=some (.agg (e2 fA)):=by kernel_rfl
  have dv:=aht d1.A hi (g:=fA) (by kernel_rfl);have a1:∀c,12<=c->c<308->dF bl i (gC bl i 0) i c=0:=λc dG ae=>ot (Nq dG ae)
  have dk:=d1.A.setRow hi (g:=fA) (v:=false) rfl;have M2:=d1.M.row (i:=i) (g:=fA) (λc dG _=>if_neg (by omega)) a1
  have rU:iw (k0 nd i (gC bl i 0)) i fA=iw nd i fA:=by
   funext i' c
   by_cases e:i'=i
   ·subst e;rw[o1,o1]
   ·rw[o0 _ _ _ e,o0 _ _ _ e,G3 (λx=>e x.1)]
  rw[rU] at dk M2;refine⟨_,o3,?_,dk,⟨λi' c cF dG ae=>?_,λi' c=>?_,λi' c cF dG ae aC=>?_,λi1 aS i2 a2 nb g1 jt nc g2 mH aC he=>?_⟩,λj=>?_,d1.F.trans (fa (.inr rfl))⟩
  ·simp only[bu r4,bu n0,aE,GX,Nx,oF,dv]
  ·rw[M2.cell i' c cF dG ae];unfold m2;by_cases e:i'=i
   ·subst e;rw[if_pos rfl,a1 c dG ae]
   ·rw[if_neg e,iY (λx=>e x.1)]
  ·unfold m2;split
   ·omega
   ·exact M.le i' c
  ·unfold m2 at aC⊢;by_cases e:i'=i
   ·rw[if_pos e] at aC;omega
   ·rw[if_neg e] at aC⊢
    have:=M2.on i' c cF dG ae
    rw[iY (λx=>e x.1)] at this;exact this aC
  ·unfold m2 at aC he;by_cases e:i1=i
   ·rw[if_pos e] at aC;omega
   ·by_cases bg:i2=i
    ·rw[if_neg e] at aC;rw[if_neg e,if_pos bg] at he;omega
    ·rw[if_neg e] at aC;rw[if_neg e,if_neg bg] at he;exact M.inj i1 aS i2 a2 nb g1 jt nc g2 mH aC he
  ·rw[d1.O];exact⟨λx=>⟨x.1,λc dG ae=>x.2 c dG ae (Nq dG ae)⟩,λx=>⟨x.1,λc dG ae _=>x.2 c dG ae⟩⟩
end
end
section
variable{lf:Nat}{h:U}
theorem Ll{a b:J}:([a,b]:List J)[0]?=some a:=e1 rfl
theorem Lm{a b:J}:([a,b]:List J)[1]?=some b:=e1 rfl
def zeroV:List Value:= .bool false::List.replicate 307 (.int .i64 0)
def Ml(C:ad):Prop:=∀h (n m:Int), -9223372036854775808<=n->n<9223372036854775808-> -9223372036854775808<=m->m<9223372036854775808->
 ((n<1\/4096<n\/m<1\/4096<m)->∃h',C (.fn 36) [I n,I m] h=some (.ret (.bm [.val (.pointer none),I 22]),h')/\aG h h' (λ_=>False))/\
 (1<=n->n<=4096->1<=m->m<=4096->∃h',C (.fn 36) [I n,I m] h=some (.ret (.bm [.ptr (h.next+3) 0,I 0]),h')/\h'.next=h.next+4/\
   bx h' ⟨h.next+3,h.next+1,h.next,h.next+2⟩ n.toNat m.toNat (λ_=>0) (λ_=>0) 0 (λ_=>false) (λ_=>fA)/\aG h h' (λ_=>False))
theorem aqV{C:ad}(ue:Mk C){n m:Int}(cH: -9223372036854775808<=n)(cA:n<9223372036854775808):
 ((n<1\/4096<n\/m<1\/4096<m)->∃h',CV C lf (I n) (I m) h=some (.ret (.bm [.val (.pointer none),I 22]),h')/\aG h h' (λ_=>False))/\
 (1<=n->n<=4096->1<=m->m<=4096->∃h',CV C lf (I n) (I m) h=some (.ret (.bm [.ptr (h.next+3) 0,I 0]),h')/\h'.next=h.next+4/\
   bx h' ⟨h.next+3,h.next+1,h.next,h.next+2⟩ n.toNat m.toNat (λ_=>0) (λ_=>0) 0 (λ_=>false) (λ_=>fA)/\aG h h' (λ_=>False)):=by
 obtain⟨cN,cy⟩:=ue h n cH cA;have x0:decide ((22:Int)≠0)=true:=by decide
 have x1:decide ((0:Int)≠0)=false:=by decide
 unfold CV Ti Oa;simp only[aE];refine⟨λag=>?_,λh1 h2 h3 aW=>?_⟩
 ·by_cases aO:n<1\/4096<n
  ·refine⟨h,?_,aG.refl _ _⟩;simp only[cN aO,aE,Ll,Lm,x0]
  ·obtain⟨al,az,_,_,aM⟩:=cy (by omega) (by omega);refine⟨al,?_,aM⟩;by_cases hm:m<1
   ·simp only[az,aE,Ll,Lm,x1,bu hm]
   ·have qz:4096<m:=by omega
    simp only[az,aE,Ll,Lm,x1,br hm,bu qz]
 ·obtain⟨al,az,rW,jn,aM⟩:=cy h1 h2;obtain⟨M,rfl⟩:∃M:Nat,m=M:=⟨m.toNat,by omega⟩;have d1:decide ((M:Int)<1)=false:=br (by omega);have d2:decide ((4096:Int)<(M:Int))=false:=br (by omega);have a1:hb aw 125=some (.agg ⟨zeroV⟩):=by kernel_rfl
  have ae:(db (.agg ⟨zeroV⟩)).cells=e2 fA:=by kernel_rfl
  have hlen:(e2 fA).length=308:=by rw[e2,List.length_map,List.length_range]
  have lL:=zF (P:=aw) (t:=100) (e:=125) (s:=308) (b:=2464) (k1:= .i64) (k2:= .i64) (l:=M) (c:=M) (h:=al)
   Tryd.underlying100 (by kernel_rfl) a1 (by kernel_rfl) (Nat.le_refl _) (by omega) (by omega) (by rw[ae,hlen]) (by omega)
  rw[ae] at lL;have oF:hZ aw 102 [0,1] [.ptr (h.next+1) 0,.aZ al.next 0 M (some M) 0]=some (.agg [.ptr (h.next+1) 0,.aZ al.next 0 M (some M) 0,I 0]):=by kernel_rfl
  have gR:=w9 (e:=102) (x:= .agg [.ptr (h.next+1) 0,.aZ al.next 0 M (some M) 0,I 0]) (h:=al.new (iR 125 (M*308) (e2 fA))) rfl;have te:(J.agg [.ptr (h.next+1) 0,.aZ al.next 0 M (some M) 0,I 0]).cells=[.ptr (h.next+1) 0,.aZ al.next 0 M (some M) 0,I 0]:=rfl;rw[te,im,rW] at gR;rw[rW] at lL oF;simp only[az,aE,Ll,Lm,x1,d1,d2,lL,oF,gR];refine⟨_,rfl,by rw[im,im,rW],?_,aM.trans ((aG.new _ _ _).trans (aG.new _ _ _))⟩;rw[Int.toNat_natCast]
  have eD:∀i,(((al.new (iR 125 (M*308) (e2 fA))).new (dJ 102 [.ptr (h.next+1) 0,.aZ (h.next+2) 0 M (some M) 0,I 0])).cell (h.next+3) i)=
   ([.ptr (h.next+1) 0,.aZ (h.next+2) 0 M (some M) 0,I 0]:List J)[i]?:=λi=>by
   have e:h.next+3=(al.new (iR 125 (M*308) (e2 fA))).next:=by rw[im,rW]
   rw[e,l6,oR]
  have cj:(al.new (iR 125 (M*308) (e2 fA))).next=h.next+3:=by rw[im,rW]
  have ru:en ((al.new (iR 125 (M*308) (e2 fA))).new (dJ 102 [.ptr (h.next+1) 0,.aZ (h.next+2) 0 M (some M) 0,I 0])) (h.next+1) h.next n.toNat (λ_=>0) (λ_=>0):=
   jn.hK ((aG.new al _ (λ_=>False)).trans (aG.new _ _ _)) (λx=>x) (λx=>x)
  refine⟨by omega,by omega,ru,by rw[eD];rfl,by rw[eD];rfl,by rw[eD];rfl,?_,?_,λi c hi ae=>?_,λi _=>rfl,by show h.next+3≠h.next+1;omega,by show h.next+3≠h.next;omega,by show h.next+3≠h.next+2;omega,by show h.next+2≠h.next+1;omega,by show h.next+2≠h.next;omega,?_,?_⟩
  ·have:=lZ (h:=al.new (iR 125 (M*308) (e2 fA))) (o:=dJ 102 [.ptr (h.next+1) 0,.aZ (h.next+2) 0 M (some M) 0,I 0]) rfl
   rw[cj] at this;exact this
  ·have:=lZ (h:=al) (o:=iR 125 (M*308) (e2 fA)) rfl
   rw[rW] at this;exact FI this (by rw[cj];show h.next+2≠h.next+3;omega)
  ·have aA:h.next+2=al.next:=rW.symm
   show _=some (fA c);rw[G0 (by rw[cj];show h.next+2≠h.next+3;omega)];show U.cell _ (h.next+2) _=_;have ba:i*308+c<M*308:=by omega
   have DF:(i*308+c)%308=c:=by omega
   rw[aA,l6,y9 _ _ ba,hlen,DF,e2,List.getElem?_map,List.getElem?_range ae];rfl
  ·show h.next+3<_
   rw[im,im,rW];omega
  ·show h.next+2<_
   rw[im,im,rW];omega
end
theorem Cr{P:Program}{t:TypeId}{a b:Int}:bin P .and t (I a) (I b)=some (I (IntKind.i64.wrap ((BitVec.ofInt 64 a&&& BitVec.ofInt 64 b).toNat:Int))):=by
 rw[xD _ (.inl rfl)];simp only[arith,fD];rfl
theorem akx{P:Program}{t:TypeId}{a b:Int}:bin P .andNot t (I a) (I b)=some (I (IntKind.i64.wrap ((BitVec.ofInt 64 a&&& ~~~BitVec.ofInt 64 b).toNat:Int))):=by
 rw[xD _ (.inr (.inr (.inr rfl)))];simp only[arith,fD];rfl
def yW(mo:Int):Int:=IntKind.i64.wrap ((BitVec.ofInt 64 mo&&& ~~~BitVec.ofInt 64 65535).toNat:Int)
def lg(mo:Int):Int:=IntKind.i64.wrap ((BitVec.ofInt 64 mo&&& BitVec.ofInt 64 61440).toNat:Int)
def lC(mo uid gid:Int):Prop:=yW mo≠0\/(lg mo≠32768/\lg mo≠16384/\lg mo≠40960)\/uid<0\/gid<0
def mh(ino uid gid mo now:Int)(c:Nat):J:=if c=0 then .bool true else if c=1 then I ino else if c=3 then I uid else if c=4 then I gid else if c=7 then I mo else
 if c=8\/c=9\/c=10 then I now else I 0
section
variable{lf:Nat}{h:U}{T:ei}{n N:Nat}{wd b:Nat->Nat}{now:Int}{us:Nat->Bool}{nd:Nat->Nat->J}{mo uid gid:Int}
theorem ajN{C:ad}(r:aU)(av:cu)(A:bx h T n N wd b now us nd):∀(d q:Nat),q+d=N->∀f,d<f->
 ((∀j,q<=j->j<N->us j=true)->bq (r6 C lf r av) f (some (.ptr T.a9 0),some (I mo),some (I uid),some (I gid),some (I (N:Int)),some (I (q:Int))) h=av h)/\
 (∀i,q<=i->i<N->us i=false->(∀j,q<=j->j<i->us j=true)->bq (r6 C lf r av) f (some (.ptr T.a9 0),some (I mo),some (I uid),some (I gid),some (I (N:Int)),some (I (q:Int))) h=
   r (some (I ((i+1:Nat):Int))) (some (I 0)) (h.set T.aJ (i*308) (e2 (mh ((i+1:Nat):Int) uid gid mo now)))):=by
 intro d
 induction d with
 |zero=>
  intro q a0 f an;obtain⟨f,rfl⟩:=dK f (by omega);refine⟨λ_=>?_,λi h1 h2=>by omega⟩;rw[dr];unfold r6 Bx;have ba:decide ((q:Int)<(N:Int))=false:=br (by omega);simp only[aE,ba]
 |succ d bc=>
  intro q a0 f an;obtain⟨f,rfl⟩:=dK f (by omega);obtain⟨D4,D5⟩:=bc (q+1) (by omega) f (by omega);have jK:=A.gN;have IT:q<N:=by omega
  have ba:decide ((q:Int)<(N:Int))=true:=bu (by omega);have al:IntKind.i64.wrap ((q:Int)+1)=((q+1:Nat):Int):=cL (by omega);have b7:=gV (s:=308) (k:=T.aJ) (off:=0) (len:=N) (lo:=0) (cap:=some N) (kd:= .i64) (i:=(q:Int)) (by omega) (by omega);rw[Int.toNat_natCast,Nat.zero_add] at b7;have ae:=A.ef q 0 IT (by omega);rw[A.lX q IT] at ae
  have step:us q=true->bq (r6 C lf r av) (f+1) (some (.ptr T.a9 0),some (I mo),some (I uid),some (I gid),some (I (N:Int)),some (I (q:Int))) h=
   bq (r6 C lf r av) f (some (.ptr T.a9 0),some (I mo),some (I uid),some (I gid),some (I (N:Int)),some (I ((q+1:Nat):Int))) h:=by
   intro hu;rw[hu] at ae;rw[dr];show Bx C lf (λx0 x1 x2 x3 w7 ve h=>bq (r6 C lf r av) f (x0,x1,x2,x3,w7,ve) h) r av (some (.ptr T.a9 0)) (some (I mo)) (some (I uid)) (some (I gid)) (some (I (N:Int))) (some (I (q:Int))) h=_;unfold Bx;simp only[aE,ba,A.aS,b7,ae,Bool.not_true,al]
  refine⟨λfP=>?_,λi h1 h2 hu vZ=>?_⟩
  ·rw[step (fP q (Nat.le_refl _) IT)];exact D4 λj aa hs=>fP j (by omega) hs
  ·by_cases e:i=q
   ·subst e;rw[hu] at ae
    have Dn:hZ aw 78 [0,2,3,6,7,8,9] [I ((i+1:Nat):Int),I uid,I gid,I mo,I now,I now,I now]=
     some (.agg [I ((i+1:Nat):Int),I 0,I uid,I gid,I 0,I 0,I mo,I now,I now,I now]):=by kernel_rfl
    have jZ:hZ aw 125 [0,1] [.bool true,.agg [I ((i+1:Nat):Int),I 0,I uid,I gid,I 0,I 0,I mo,I now,I now,I now]]=
     some (.agg (e2 (mh ((i+1:Nat):Int) uid gid mo now))):=by kernel_rfl
    have dv:=aht A IT (g:=mh ((i+1:Nat):Int) uid gid mo now) (by kernel_rfl);rw[dr];unfold r6 Bx;simp only[aE,ba,A.aS,A.a2,b7,ae,Bool.not_false,al,Dn,jZ,dv]
   ·rw[step (vZ q (Nat.le_refl _) (by omega))];exact D5 i (by omega) h2 hu λj aa hs=>vZ j (by omega) hs
end
section
variable{lf:Nat}{h:U}{T:ei}{n N:Nat}{wd b:Nat->Nat}{now:Int}{us:Nat->Bool}{nd:Nat->Nat->J}{mo uid gid:Int}
def FW(C:ad):Prop:=∀h T n N wd b now us nd (mo uid gid:Int),bx h T n N wd b now us nd->
 (lC mo uid gid->C (.fn 37) [.ptr T.a9 0,I mo,I uid,I gid] h=some (.ret (.bm [I 0,I 22]),h))/\
 (¬lC mo uid gid->(∀j,j<N->us j=true)->C (.fn 37) [.ptr T.a9 0,I mo,I uid,I gid] h=some (.ret (.bm [I 0,I 28]),h))/\
 (¬lC mo uid gid->∀i,i<N->us i=false->(∀j,j<i->us j=true)->∃h',C (.fn 37) [.ptr T.a9 0,I mo,I uid,I gid] h=some (.ret (.bm [I ((i+1:Nat):Int),I 0]),h')/\
   bx h' T n N wd b now (de us i true) (iw nd i (mh ((i+1:Nat):Int) uid gid mo now))/\h'.next=h.next/\aG h h' (· =T.aJ))
theorem amM{a c:J}:s0 (some a) (some c) h=some (.ret (.bm [a,c]),h):=e1 rfl
theorem iH{w:Bool}{r:ab}:cX w (some (.val undef)) r h=some (.ret (.val undef),h):=by cases w<;>exact e1 rfl
theorem ajP{C:ad}(Cb:qb C)(A:bx h T n N wd b now us nd):
 (lC mo uid gid->vR C lf (.ptr T.a9 0) (I mo) (I uid) (I gid) h=some (.ret (.bm [I 0,I 22]),h))/\
 (¬lC mo uid gid->vR C lf (.ptr T.a9 0) (I mo) (I uid) (I gid) h=By C lf s0 (some (.ptr T.a9 0)) (some (I mo)) (some (I uid)) (some (I gid)) h):=by
 have ar:IntKind.i64.wrap ((BitVec.ofInt 64 mo&&& ~~~BitVec.ofInt 64 65535).toNat:Int)=yW mo:=rfl;have ai:IntKind.i64.wrap ((BitVec.ofInt 64 mo&&& BitVec.ofInt 64 61440).toNat:Int)=lg mo:=rfl;unfold vR Ts Tr Tq Tp To Tn Tm Tl;generalize a0:By C lf s0 (some (.ptr T.a9 0)) (some (I mo)) (some (I uid)) (some (I gid)) h=Q;simp only[aE,Cb _ _ _ _ _ _ _ _ _ A,Bool.not_true,Cr,akx,ar,ai,a0];unfold lC
 by_cases ak:yW mo=0<;>by_cases aD:lg mo=32768<;>by_cases a7:lg mo=16384<;>by_cases cw:lg mo=40960<;>by_cases dB:uid<0<;>by_cases dU:gid<0<;>
  simp[ak,aD,a7,cw,dB,dU,a0,amM,iH]
theorem ajO{C:ad}(gu:4097<=lf)(Cb:qb C)(A:bx h T n N wd b now us nd):
 (lC mo uid gid->vR C lf (.ptr T.a9 0) (I mo) (I uid) (I gid) h=some (.ret (.bm [I 0,I 22]),h))/\
 (¬lC mo uid gid->(∀j,j<N->us j=true)->vR C lf (.ptr T.a9 0) (I mo) (I uid) (I gid) h=some (.ret (.bm [I 0,I 28]),h))/\
 (¬lC mo uid gid->∀i,i<N->us i=false->(∀j,j<i->us j=true)->∃h',vR C lf (.ptr T.a9 0) (I mo) (I uid) (I gid) h=some (.ret (.bm [I ((i+1:Nat):Int),I 0]),h')/\
   bx h' T n N wd b now (de us i true) (iw nd i (mh ((i+1:Nat):Int) uid gid mo now))/\h'.next=h.next/\aG h h' (· =T.aJ)):=by
 have jK:=A.gN;obtain⟨bT,cm⟩:=ajP (lf:=lf) (mo:=mo) (uid:=uid) (gid:=gid) Cb A
 have aL:eE aw 100 (.aZ T.aJ 0 N (some N) 0)=some (I (N:Int)):=by
  simp[eE,Tryd.underlying100]
 obtain⟨cb,cV⟩:=ajN (lf:=lf) (mo:=mo) (uid:=uid) (gid:=gid) (C:=C) s0 (λh=>JV C lf s0 h) A N 0 (by omega) lf (by omega)
 have a0:By C lf s0 (some (.ptr T.a9 0)) (some (I mo)) (some (I uid)) (some (I gid)) h=
  bq (r6 C lf s0 (λh=>JV C lf s0 h)) lf (some (.ptr T.a9 0),some (I mo),some (I uid),some (I gid),some (I (N:Int)),some (I ((0:Nat):Int))) h:=by
  unfold By Tk Tj;simp only[aE,A.aS,aL];rfl
 refine⟨bT,λbd fP=>?_,λbd i hi hu ag=>⟨_,?_,A.setRow hi rfl,eb ..,fa rfl⟩⟩
 ·rw[cm bd,a0,cb λj _ aa=>fP j aa];rfl
 ·rw[cm bd,a0,cV i (Nat.zero_le _) hi hu λj _ aa=>ag j aa];rfl
end
section
open Classical
structure kW (bl:Nat->Nat->Nat) (i:Nat):Prop where
 one:bl i 18=0↔hole bl i 18=true
 xU:∀q,q<16->(bl i (36+17*q)=0↔hole bl i (36+17*q)=true)
 two:bl i 35=0↔∀q,q<16->bl i (36+17*q)=0
theorem kW.alW{bl:Nat->Nat->Nat}{i k m:Nat}(hm:m<278):gC bl i k (a4 m)↔k<=m:=by
 obtain⟨h1,h2,h3⟩:=tK hm;unfold gC;constructor
 ·rintro (⟨j,a,b,e⟩|⟨e,_⟩|⟨j,a,e,_⟩|⟨e,_⟩)
  ·rw[Rx e hm b];exact a
  ·exact absurd e h1
  ·exact absurd e (h3 j a)
  ·exact absurd e h2
 ·exact λe=> .inl ⟨m,e,hm,rfl⟩
end
end Go.Proofs.YtomialandfplkaaDoor.Eva
