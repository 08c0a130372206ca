import Derived.Lib.TrailingZeros
import Derived.ChangeSlices
import Derived.WideShapes
import Derived.Test.YtomialandfplkaaDoorCards
import Derived.Test.YtomialandfplkaaDoorWInodeSoundm2
set_option linter.unusedSimpArgs false
set_option linter.unusedVariables false
set_option maxRecDepth 100000
set_option maxHeartbeats 400000
namespace Go.Xe
noncomputable section
inductive fR (P:Program) where
 |fn (y:cK P)
 |nat (x:Xc P)
 |cM (x:ca P)
def fR.e{P:Program}:fR P->Mp P
 | .fn y=> .fn y.x
 | .nat x=> .nat x
 | .cM x=> .fn x
structure vk where
 call:ad
 dcall:ns
def adt(k:zy)(args:List J)(h:U):ab:=match tn k args h.x0 with
 |some y=>some (.ret y,h)
 |none=>none
def qN(C:ad):bH:=λc args X=>match X.cG,X.pc with
 | [],[]=>(match C c args X.h with
   |some (o,h)=>some (o,h.bZ X.bs)
   |none=>none)
 |_,_=>none
def clean(X:ah):Bool:=match X.cG,X.pc,X.bs with
 | [],[],[]=>true
 |_,_,_=>false
def Fl(r:Option (Out×ah)):ab:=match r with
 |some (o,X)=>bif clean X then some (o,X.h) else none
 |none=>none
section
variable{P:Program}
def Nh(ba:vk)(a5:ca P)(lf f:Nat)(args:List J)(h:U):ab:=Fl (P8 ⟨qN ba.call,ba.dcall⟩ a5 lf f args h.x0)
def y5(ba:vk)(lf f:Nat)(args:List J)(h:U)(e:Option (fR P)):ab:=match e with
 |some (.fn y)=>bif Nat.beq y.x.f f then y.s ba.call lf args h else none
 |some (.nat x)=>bif Nat.beq x.f f then adt x.k args h else none
 |some (.cM x)=>bif Nat.beq x.f f then Nh ba x lf f args h else none
 |none=>none
def runN(ba:vk)(lf f:Nat)(args:List J)(h:U)(e:Option (fR P)):ab:=match e with
 |some (.fn y)=>bif Nat.beq y.x.f f then y.s ba.call lf args h else none
 |some (.cM x)=>bif Nat.beq x.f f then Nh ba x lf f args h else none
 |_=>none
def E7(P:Program)(ba:vk)(lf k:Nat)(args:List J)(h:U):ab:=match h.aS.get k with
 |some o=>(match o.sp with
  | .loop _ _ ord me N F ps a c _=>Fl (lV (yt P (qN ba.call) ord me (some k) N lf) k N F ps a c args h.x0)
  |_=>none)
 |none=>none
def GQ(ba:vk)(a5:ca P)(lf f:Nat)(args:List J)(u:Mode)(X:ah):Option (Out×Mode×ah):=
 bif Nat.beq a5.f f&&Nat.ble args.length a5.fn.ntmps then rD P a5.fn X.bs (hG P a5.fn.ntmps (yt P (qN ba.call) a5.ord a5.f none a5.fn.ntmps lf) (a5.fn.body.getD .skip) (gS .nil 0 args) {X with bs:=[]} u) else none
def afQ(ba:vk)(lf f:Nat)(args:List J)(u:Mode)(X:ah)(e:Option (fR P)):Option (Out×Mode×ah):=match e with
 |some (.fn y)=>GQ ba y.x lf f args u X
 |some (.cM x)=>GQ ba x lf f args u X
 |_=>none
def ho(tab:av (fR P))(lf fuel:Nat):vk:=Nat.rec (motive:=λ_=>vk) ⟨λ_ _ _=>none,λ_ _ _ _=>none⟩ (λ_ ba=>{
 call:=λc args h=>match c with
  | .fn f=>y5 ba lf f args h (m6 (path f) tab)
  | .iu f=>runN ba lf f args h (m6 (path f) tab)
  | .fm k=>E7 P ba lf k args h
 dcall:=λf args u X=>afQ ba lf f args u X (m6 (path f) tab)}) fuel
def av.map{α β:Type}(g:α->β):av α->av β
 | .nil=> .nil
 | .node v l r=> .node (v.map g) (l.map g) (r.map g)
theorem get_map{α β:Type}(g:α->β):∀(t:av α) (i:Nat),(t.map g).get i=(t.get i).map g
 | .nil,i=>rfl
 | .node v l r,i=>by
   simp only[av.map,av.get];cases Nat.beq i 0 with
   |true=>rfl
   |false=>
    simp only[cond_false];cases Nat.beq (i%2) 1 with
    |true=>exact get_map g l _
    |false=>exact get_map g r _
theorem agQ{r:Option (Out×ah)}{o:Out}{h:U}(e:Fl r=some (o,h)):r=some (o,h.x0):=by
 unfold Fl at e;split at e<;>try(cases e;done)
 rename_i o X;cases ae:clean X with
 |false=>simp[ae] at e
 |true=>
  simp only[ae,cond_true,Option.some.injEq,Prod.mk.injEq] at e;obtain⟨rfl,rfl⟩:=e;obtain⟨aH,next,aS,cG,pc,bs⟩:=X;unfold clean at ae;split at ae<;>try(cases ae;done)
  rename_i h1 h2 h3;simp only at h1 h2 h3;subst h1 h2 h3;rfl
theorem ac3{C:ad}{callf:bH}(fc:lB C callf):Ext (qN C) callf:=by
 intro c args X r h;obtain⟨aH,next,aS,cG,pc,bs⟩:=X;unfold qN at h;split at h<;>try(cases h;done)
 rename_i h1 h2;simp only at h1 h2;subst h1 h2;split at h<;>try(cases h;done)
 rename_i o h' he;cases h;exact fc _ _ _ _ _ he bs
theorem al6{e:l1}{a5:ca P}{lf f:Nat}{args:List J}{h h':U}{o:Out}(he:h5 e a5 lf f args h.x0=some (o,h'.x0))(D:List eK):h5 e a5 lf f args (h.bZ D)=some (o,h'.bZ D):=by
 unfold h5 at he⊢;cases ag:(Nat.beq a5.f f&&Nat.ble args.length a5.fn.ntmps) with
 |false=>simp[ag] at he
 |true=>
  simp only[ag,cond_true] at he⊢;have az:({h.bZ D with bs:=[]}:ah)={h.x0 with bs:=[]}:=rfl;rw[az];generalize rE P e.dcall a5.fn (mx a5 e.call lf (a5.fn.body.getD .skip) (gS .nil 0 args) {h.x0 with bs:=[]})=r at he⊢;rcases r with _|⟨dH,X1⟩
  ·cases he
  ·simp only[wN,Option.some.injEq,Prod.mk.injEq] at he⊢;obtain⟨rfl,h2⟩:=he;refine⟨rfl,?_⟩;obtain⟨aH,next,aS,cG,pc,bs⟩:=X1;obtain⟨apI,next',apV⟩:=h';simp only[U.x0,U.x,ah.mk.injEq] at h2;obtain⟨rfl,rfl,rfl,rfl,rfl,_⟩:=h2;rfl
theorem ayT{cM:Code->av J->ah->R}{k N:Nat}{F:av J}{ps:Array Tmp}{a c:Code}{args:List J}{h h':U}{o:Out}(he:lV cM k N F ps a c args h.x0=some (o,h'.x0))(D:List eK):lV cM k N F ps a c args (h.bZ D)=some (o,h'.bZ D):=by
 have fin:∀{X:ah} {st:LoopState} {p:Jump} {b:Bool},endRound [] X k st p b=some (o,h'.x0)->endRound D X k st p b=some (o,h'.bZ D):=by
  intro X st p b h1;unfold endRound at h1⊢;split at h1<;>try(cases h1;done)
  rename_i cU h2;simp only[Option.some.injEq,Prod.mk.injEq] at h1⊢;obtain⟨rfl,h1⟩:=h1;refine⟨rfl,?_⟩;obtain⟨aH,next,aS,cG,pc,bs⟩:=cU;obtain⟨apI,next',apV⟩:=h';simp only[U.x0,U.x,ah.mk.injEq] at h1;obtain⟨rfl,rfl,rfl,rfl,rfl,_⟩:=h1;rfl
 unfold lV at he⊢;cases ag:Nat.beq args.length ps.size with
 |false=>simp[ag] at he
 |true=>
  simp only[ag,cond_true] at he⊢;have az:({h.bZ D with bs:=[]}:ah)={h.x0 with bs:=[]}:=rfl;rw[az];split at he<;>try(cases he;done)
  rename_i aL X1 h1;simp only[h1];split at he<;>try(cases he;done)
  rename_i ob aq
  try simp only[aq]
  cases aI:isReady ob with
  |false=>simp[aI] at he
  |true=>
   simp only[aI,cond_true] at he⊢;split at he<;>try(cases he;done)
   rename_i cU h2
   try simp only[h2]
   split at he<;>first|(cases he;done)|(rename_i h3;(try simp only[h3]);exact fin he)
theorem VE(tab:av (fR P))(lf:Nat):∀fuel,lB (ho tab lf fuel).call (iN P (tab.map fR.e) lf fuel).call/\FI (ho tab lf fuel).dcall (iN P (tab.map fR.e) lf fuel).dcall
 |0=>⟨λc args h o h' e=>(by cases e),λ_ _ _ _ _ h=>(by cases h)⟩
 |fuel+1=>by
  obtain⟨ba,aoi⟩:=VE tab lf fuel
  have abK:∀(y:cK P) f args h o h',Nat.beq y.x.f f=true->y.s (ho tab lf fuel).call lf args h=some (o,h')->∀D,h5 (iN P (tab.map fR.e) lf fuel) y.x lf f args (h.bZ D)=some (o,h'.bZ D):=by
   intro y f args h o h' ak aj D;obtain⟨h1,h2⟩:=y.eq _ _ _ _ _ aj;have ak:=Nat.eq_of_beq_eq_true ak;subst ak;exact ahi ba y.x h1 h2 D
  have jm:∀(x:ca P) f args h o h',Nh (ho tab lf fuel) x lf f args h=some (o,h')->∀D,h5 (iN P (tab.map fR.e) lf fuel) x lf f args (h.bZ D)=some (o,h'.bZ D):=by
   intro x f args h o h' aj D;have h1:=agQ aj
   have ai:P8 ⟨qN (ho tab lf fuel).call,(ho tab lf fuel).dcall⟩ x lf f args h.x0=h5 ⟨qN (ho tab lf fuel).call,(ho tab lf fuel).dcall⟩ x lf f args h.x0:=by
    unfold P8 h5 mx;rw[P6]
   rw[ai] at h1;exact al6 (al7 (ac3 ba) aoi h1) D
  have Ig:∀ord me rd N,BO (yt P (qN (ho tab lf fuel).call) ord me rd N lf) (bT P (iN P (tab.map fR.e) lf fuel).call ord me rd N lf (fF P (iN P (tab.map fR.e) lf fuel).call ord me rd N lf lf)):=by
   intro ord me rd N;rw[P6];exact YZ (ac3 ba)
  refine⟨?_,?_⟩
  ·intro c args h o h' e D;cases c with
   |fn f=>
    have bh:y5 (ho tab lf fuel) lf f args h (m6 (path f) tab)=some (o,h'):=e;rw[CX] at bh
    show(match (tab.map fR.e).get f with
     |some (.fn a5)=>h5 (iN P (tab.map fR.e) lf fuel) a5 lf f args (h.bZ D)
     |some (.nat l0)=>bif Nat.beq l0.f f then(match tn l0.k args (h.bZ D) with|some y=>some (.ret y,(h.bZ D))|none=>none) else none
     |none=>none)=_
    rw[get_map];cases aK:tab.get f with
    |none=>rw[aK] at bh;cases bh
    |some t=>
     rw[aK] at bh;cases t with
     |fn y=>
      simp only[y5] at bh;cases ag:Nat.beq y.x.f f with
      |false=>simp[ag] at bh
      |true=>simp only[ag,cond_true] at bh;exact abK y f _ _ _ _ ag bh D
     |cM x=>
      simp only[y5] at bh;cases ag:Nat.beq x.f f with
      |false=>simp[ag] at bh
      |true=>simp only[ag,cond_true] at bh;exact jm x f _ _ _ _ bh D
     |nat x=>
      simp only[y5] at bh;cases ag:Nat.beq x.f f with
      |false=>simp[ag] at bh
      |true=>
       simp only[ag,cond_true,adt] at bh;have aO:tn x.k args (h.bZ D)=tn x.k args h.x0:=rfl;simp only[Option.map_some,fR.e,ag,cond_true,aO];cases ao:tn x.k args h.x0 with
       |none=>simp[ao] at bh
       |some z=>simp only[ao,Option.some.injEq,Prod.mk.injEq] at bh⊢;obtain⟨rfl,rfl⟩:=bh;exact⟨rfl,rfl⟩
   |iu f=>
    have bh:runN (ho tab lf fuel) lf f args h (m6 (path f) tab)=some (o,h'):=e;rw[CX] at bh
    show(match (tab.map fR.e).get f with
     |some (.fn a5)=>h5 (iN P (tab.map fR.e) lf fuel) a5 lf f args (h.bZ D)
     |_=>none)=_
    rw[get_map];cases aK:tab.get f with
    |none=>rw[aK] at bh;cases bh
    |some t=>
     rw[aK] at bh;cases t with
     |fn y=>
      simp only[runN] at bh;cases ag:Nat.beq y.x.f f with
      |false=>simp[ag] at bh
      |true=>simp only[ag,cond_true] at bh;exact abK y f _ _ _ _ ag bh D
     |cM x=>
      simp only[runN] at bh;cases ag:Nat.beq x.f f with
      |false=>simp[ag] at bh
      |true=>simp only[ag,cond_true] at bh;exact jm x f _ _ _ _ bh D
     |nat x=>cases bh
   |fm k=>
    have bh:E7 P (ho tab lf fuel) lf k args h=some (o,h'):=e
    show(match h.aS.get k with
     |some o=>match o.sp with
      | .loop _ _ ord me N F ps a c _=>lV (bT P (iN P (tab.map fR.e) lf fuel).call ord me (some k) N lf (fF P (iN P (tab.map fR.e) lf fuel).call ord me (some k) N lf lf)) k N F ps a c args (h.bZ D)
      |_=>none
     |none=>none)=_
    unfold E7 at bh;split at bh<;>try(cases bh;done)
    rename_i ob aq;split at bh<;>try(cases bh;done)
    rename_i h1
    (try simp only[aq,h1])
    exact ayT (ayX (Ig _ _ _ _) (agQ bh)) D
  ·intro f args u X r h;have bh:afQ (ho tab lf fuel) lf f args u X (m6 (path f) tab)=some r:=h;rw[CX] at bh
   show(match (tab.map fR.e).get f with
    |some (.fn a5)=>bif Nat.beq a5.f f&&Nat.ble args.length a5.fn.ntmps then rD P a5.fn X.bs (hG P a5.fn.ntmps (mx a5 (iN P (tab.map fR.e) lf fuel).call lf) (a5.fn.body.getD .skip) (gS .nil 0 args) {X with bs:=[]} u) else none
    |_=>none)=_
   rw[get_map]
   have aF:∀a5:ca P,GQ (ho tab lf fuel) a5 lf f args u X=some r->(bif Nat.beq a5.f f&&Nat.ble args.length a5.fn.ntmps then rD P a5.fn X.bs (hG P a5.fn.ntmps (mx a5 (iN P (tab.map fR.e) lf fuel).call lf) (a5.fn.body.getD .skip) (gS .nil 0 args) {X with bs:=[]} u) else none)=some r:=by
    intro a5 cj;unfold GQ at cj;cases ag:(Nat.beq a5.f f&&Nat.ble args.length a5.fn.ntmps) with
    |false=>simp[ag] at cj
    |true=>
     simp only[ag,cond_true] at cj⊢;cases ae:hG P a5.fn.ntmps (yt P (qN (ho tab lf fuel).call) a5.ord a5.f none a5.fn.ntmps lf) (a5.fn.body.getD .skip) (gS .nil 0 args) {X with bs:=[]} u with
     |none=>rw[ae] at cj;cases cj
     |some q=>
      rw[ae] at cj
      have:=alg (Ig a5.ord a5.f none a5.fn.ntmps) _ ae
      unfold mx;rw[this];exact cj
   cases aK:tab.get f with
   |none=>rw[aK] at bh;cases bh
   |some t=>
    rw[aK] at bh;cases t with
    |fn y=>exact aF _ bh
    |cM x=>exact aF _ bh
    |nat x=>cases bh
end
end
def VG(r:ab):Bool:=match r with
 |some (.ret (.bool true),_)=>true
 |_=>false
structure o8 where
 ck:Nat
 ty:TypeId
 n:Nat
 loose:Bool
 esz:Nat
 ro:Bool
 sp:pe
def bD.mt(o:bD):o8:=⟨o.ck,o.ty,o.n,o.loose,o.esz,o.ro,o.sp⟩
def U.cell(h:U)(k i:Nat):Option J:=match h.aS.get k with
 |some o=>o.get i
 |none=>none
def U.mt(h:U)(k:Nat):Option o8:=match h.aS.get k with
 |some o=>some o.mt
 |none=>none
def cW(h h':U)(k:Nat):Prop:=h'.aS.get k=h.aS.get k
theorem cW.cell{h h':U}{k:Nat}(e:cW h h' k)(i:Nat):h'.cell k i=h.cell k i:=by unfold U.cell;rw[e]
theorem cW.mt{h h':U}{k:Nat}(e:cW h h' k):h'.mt k=h.mt k:=by unfold U.mt;rw[e]
def U.set(h:U)(k off:Nat)(ys:List J):U:=match h.aS.get k with
 |some o=>DN h k (wh o off ys)
 |none=>h
theorem PR(h:U)(k j:Nat)(o:bD):(DN h k o).aS.get j=if j=k then some o else h.aS.get j:=by
 obtain⟨aH,next,⟨iH,base⟩⟩:=h;show cz.get (cz.put ⟨iH,base⟩ k o) j=_;exact cz.kA _ _ _ _
@[simp] theorem aDL(h:U)(k:Nat)(o:bD):(DN h k o).next=h.next:=eX rfl
@[simp] theorem aDM(h:U)(k:Nat)(o:bD):(DN h k o).aH=h.aH:=eX rfl
@[simp] theorem dW(h:U)(k off:Nat)(ys:List J):(h.set k off ys).next=h.next:=by unfold U.set;split<;>rfl
@[simp] theorem Kx(h:U)(k off:Nat)(ys:List J):(h.set k off ys).aH=h.aH:=by unfold U.set;split<;>rfl
theorem jb(h:U){k j:Nat}(off:Nat)(ys:List J)(e:j≠k):(h.set k off ys).aS.get j=h.aS.get j:=by
 unfold U.set;split
 ·rw[PR,if_neg e]
 ·rfl
theorem apU(o:bD)(off:Nat)(ys:List J)(i:Nat):(wh o off ys).get i=if off<=i/\i<off+ys.length/\i<o.n then ys[i-off]? else o.get i:=by
 obtain⟨ck,ty,n,loose,esz,ro,mw,fq,sp⟩:=o;simp only[wh,force_eq,bD.get];cases ag:Nat.blt i n with
 |false=>
  have:¬i<n:=λh=>by rw[<- Nat.blt_eq,ag] at h;cases h
  rw[if_neg (by omega)];rfl
 |true=>
  have:i<n:=by rw[Nat.blt_eq] at ag;exact ag
  simp only[cond_true];rw[xM];by_cases hi:off<=i/\i<off+ys.length
  ·rw[if_pos hi,if_pos ⟨hi.1,hi.2,this⟩]
   have:i-off<ys.length:=by omega
   rw[List.getElem?_eq_getElem this]
  ·rw[if_neg hi,if_neg (by omega)]
theorem X5(h:U)(k off:Nat)(ys:List J)(j i:Nat):(h.set k off ys).cell j i=if j=k/\off<=i/\i<off+ys.length/\(∃m,h.mt k=some m/\i<m.n) then ys[i-off]? else h.cell j i:=by
 by_cases aa:j=k
 ·subst aa;unfold U.set U.cell U.mt;cases aq:h.aS.get j with
  |none=>simp[aq]
  |some o=>
   simp only[PR,if_true,apU,aq]
   have:(∃m,some o.mt=some m/\i<m.n)↔i<o.n:=⟨λ⟨m,e,hm⟩=>by cases e;exact hm,λhm=>⟨_,rfl,hm⟩⟩
   simp only[this,true_and]
 ·rw[if_neg (λh=>aa h.1)];unfold U.cell;rw[jb _ _ _ aa]
def o8.up(m:o8):o8:={m with ck:=m.ck+1}
theorem IS(h:U)(k off:Nat)(ys:List J)(j:Nat):(h.set k off ys).mt j=if j=k then(h.mt k).map o8.up else h.mt j:=by
 by_cases aa:j=k
 ·subst aa;rw[if_pos rfl];unfold U.set U.mt;cases aq:h.aS.get j with
  |none=>simp[aq]
  |some o=>
   simp only[PR,if_true];obtain⟨ck,ty,n,loose,esz,ro,mw,fq,sp⟩:=o;simp only[wh,force_eq,bD.mt,o8.up,Option.map]
 ·rw[if_neg aa];unfold U.mt;rw[jb _ _ _ aa]
theorem qL(k off:Nat)(h:U):b0 (.ptr k off) h=h.cell k off:=eX rfl
def U.cells(h:U)(k off:Nat):Nat->Option (List J)
 |0=>some []
 |n+1=>match h.cell k off with
  |some y=>(match h.cells k (off+1) n with|some ys=>some (y::ys)|none=>none)
  |none=>none
theorem AY{h:U}{k:Nat}{o:bD}(aq:h.aS.get k=some o):∀n off,j1 o off n=h.cells k off n
 |0,off=>rfl
 |n+1,off=>by
  simp only[j1,U.cells,AY aq n,U.cell,aq];cases o.get off with
  |none=>rfl
  |some y=>cases h.cells k (off+1) n<;>rfl
theorem v7{k off n:Nat}{h:U}{m:o8}(hm:h.mt k=some m):iD n (.ptr k off) h=(h.cells k off n).map .agg:=by
 unfold U.mt at hm;cases aq:h.aS.get k with
 |none=>simp[aq] at hm
 |some o=>
  simp only[iD,IJ,aq,AY aq];cases h.cells k off n<;>rfl
theorem qd{h:U}{k:Nat}:∀{n off:Nat} {ys:List J},ys.length=n->(∀i,i<n->h.cell k (off+i)=ys[i]?)->h.cells k off n=some ys
 |0,off,ys,aJ,_=>by
  cases ys with
  |nil=>rfl
  |cons y ys=>simp at aJ
 |n+1,off,ys,aJ,ae=>by
  cases ys with
  |nil=>simp at aJ
  |cons y ys=>
   have h0:=ae 0 (by omega);simp at h0
   have:=qd (h:=h) (k:=k) (n:=n) (off:=off+1) (ys:=ys) (by simpa using aJ) (λi hi=>by
    have:=ae (i+1) (by omega)
    simpa[Nat.add_assoc,Nat.add_comm 1 i] using this)
   simp only[U.cells,h0,this]
def U.wr(h:U)(k n:Nat):Prop:=∃m,h.mt k=some m/\m.ro=false/\m.n=n
theorem jt{n k off N:Nat}{y:J}{h:U}(hw:h.wr k N)(aJ:y.cells.length=n)(ag:off+n<=N)(aq:eA y.cells=true):st n (.ptr k off) y h=some (h.set k off y.cells):=by
 obtain⟨m,hm,aI,aO⟩:=hw;unfold U.mt at hm;cases jW:h.aS.get k with
 |none=>simp[jW] at hm
 |some o=>
  simp only[jW,Option.some.injEq] at hm;subst hm;simp only[bD.mt] at aI aO;have h1:Nat.beq y.cells.length n=true:=by rw[aJ];exact Nat.beq_refl n
  have h2:Nat.ble (off+n) o.n=true:=Nat.ble_eq_true_of_le (by omega);simp only[st,KC,jW,VS,h1,h2,aI,aq,Bool.and_self,Bool.not_false,cond_true,U.set]
theorem e1{h:U}{k off j N:Nat}{ys:List J}(hw:h.wr j N):(h.set k off ys).wr j N:=by
 obtain⟨m,hm,aI,aO⟩:=hw;by_cases aa:j=k
 ·subst aa;exact⟨m.up,by rw[IS,if_pos rfl,hm];rfl,aI,aO⟩
 ·exact⟨m,by rw[IS,if_neg aa];exact hm,aI,aO⟩
theorem ir{h:U}{k off N:Nat}{ys:List J}(hw:h.wr k N)(ag:off+ys.length<=N){i:Nat}(hi:off<=i)(cA:i<off+ys.length):(h.set k off ys).cell k i=ys[i-off]?:=by
 obtain⟨m,hm,aI,aO⟩:=hw;rw[X5,if_pos ⟨rfl,hi,cA,m,hm,by omega⟩]
theorem eG{h:U}{k off j i:Nat}{ys:List J}(hi:j≠k\/i<off\/off+ys.length<=i):(h.set k off ys).cell j i=h.cell j i:=by
 rw[X5,if_neg];omega
def U.new(h:U)(o:bD):U:=⟨h.aH,h.next+1,h.aS.put h.next o⟩
theorem A3(h:U)(o:bD)(j:Nat):(h.new o).aS.get j=if j=h.next then some o else h.aS.get j:=cz.kA _ _ _ _
theorem n3(h:U)(o:bD){j:Nat}(e:j≠h.next):(h.new o).aS.get j=h.aS.get j:=by rw[A3,if_neg e]
theorem X4(h:U)(o:bD)(j i:Nat):(h.new o).cell j i=if j=h.next then o.get i else h.cell j i:=by
 unfold U.cell;rw[A3];by_cases e:j=h.next
 ·simp[e]
 ·simp[e]
theorem yI(h:U)(o:bD)(j:Nat):(h.new o).mt j=if j=h.next then some o.mt else h.mt j:=by
 unfold U.mt;rw[A3];by_cases e:j=h.next
 ·simp[e]
 ·simp[e]
@[simp] theorem iG(h:U)(o:bD):(h.new o).next=h.next+1:=eX rfl
@[simp] theorem aDV(h:U)(o:bD):(h.new o).aH=h.aH:=eX rfl
theorem wrap_i64{n:Int}(h1: -9223372036854775808<=n)(h2:n<9223372036854775808):IntKind.i64.wrap n=n:=by
 simp[IntKind.wrap,IntKind.signed,IntKind.bits];omega
theorem wrap_u64{n:Int}(h1:0<=n)(h2:n<18446744073709551616):IntKind.u64.wrap n=n:=by
 simp[IntKind.wrap,IntKind.signed,IntKind.bits];omega
theorem adu{k:IntKind}{n:Int}(h:0<=n):hL (.int k n)=some n.toNat:=by
 cases n with
 |ofNat m=>rfl
 |negSucc m=>exact absurd h (by omega)
section
variable{P:Program}{t:TypeId}{k:IntKind}{a b:Int}
theorem qc(op:BinOp):bin P op t (.int k a) (.int k b)=AD op k a k b:=by rw[tY];rfl
theorem pG:(k==k)=true:=by cases k<;>rfl
@[simp] theorem sD:bin P .add t (.int k a) (.int k b)=some (.int k (k.wrap (a+b))):=by
  rw[qc];show(bif k==k then arith .add k a b else none)=_;rw[pG];simp[arith,fC]
@[simp] theorem ajh:bin P .sub t (.int k a) (.int k b)=some (.int k (k.wrap (a-b))):=by
  rw[qc];show(bif k==k then arith .sub k a b else none)=_;rw[pG];simp[arith,fC]
@[simp] theorem MC:bin P .mul t (.int k a) (.int k b)=some (.int k (k.wrap (a*b))):=by
  rw[qc];show(bif k==k then arith .mul k a b else none)=_;rw[pG];simp[arith,fC]
theorem lJ(ag:b≠0):bin P .quo t (.int k a) (.int k b)=some (.int k (k.wrap (a.tdiv b))):=by
 rw[qc];show(bif k==k then arith .quo k a b else none)=_;rw[pG,cond_true];have h0:(b==0)=false:=(by simp[ag]);simp only[arith,h0,cond_false,fC]
theorem hQ(ag:b≠0):bin P .rem t (.int k a) (.int k b)=some (.int k (a.tmod b)):=by
 rw[qc];show(bif k==k then arith .rem k a b else none)=_;rw[pG,cond_true];have h0:(b==0)=false:=(by simp[ag]);simp only[arith,h0,cond_false,fC]
@[simp] theorem XL:bin P .eql t (.int k a) (.int k b)=some (.bool (decide (a=b))):=by
  rw[qc];show(bif k==k then arith .eql k a b else none)=_;rw[pG];rfl
@[simp] theorem Cf:bin P .neq t (.int k a) (.int k b)=some (.bool (decide (a≠b))):=by
  rw[qc];show(bif k==k then arith .neq k a b else none)=_;rw[pG];simp[arith,bne];by_cases h:a=b<;>simp[h]
@[simp] theorem ru:bin P .lss t (.int k a) (.int k b)=some (.bool (decide (a<b))):=by
  rw[qc];show(bif k==k then arith .lss k a b else none)=_;rw[pG];rfl
@[simp] theorem ajf:bin P .leq t (.int k a) (.int k b)=some (.bool (decide (a<=b))):=by
  rw[qc];show(bif k==k then arith .leq k a b else none)=_;rw[pG];rfl
@[simp] theorem zN:bin P .gtr t (.int k a) (.int k b)=some (.bool (decide (b<a))):=by
  rw[qc];show(bif k==k then arith .gtr k a b else none)=_;rw[pG];rfl
@[simp] theorem XN:bin P .geq t (.int k a) (.int k b)=some (.bool (decide (b<=a))):=by
  rw[qc];show(bif k==k then arith .geq k a b else none)=_;rw[pG];rfl
theorem MD{e:TypeId}{k off:Nat}(hu:P.underlying t=some (.pointer e)):bin P .neq t (.ptr k off) (.val (.pointer none))=some (.bool true):=by
 rw[tY];show sM P .neq t _ _=_;simp[sM,uc,ub,hu]
theorem aje{e:TypeId}{k off:Nat}(hu:P.underlying t=some (.pointer e)):bin P .eql t (.ptr k off) (.val (.pointer none))=some (.bool false):=by
 rw[tY];show sM P .eql t _ _=_;simp[sM,uc,ub,hu]
theorem xl(op:BinOp):op= .and\/op= .or\/op= .xor\/op= .andNot->bin P op t (.int k a) (.int k b)=arith op k a b:=by
 intro h;rw[qc];rcases h with rfl|rfl|rfl|rfl<;>(show(bif k==k then arith _ k a b else none)=_;rw[pG];rfl)
end
@[simp] theorem aBw(b:Bool):kM .not (.bool b)=some (.bool (!b)):=eX rfl
@[simp] theorem ahq(a b:J):jf (.bool true) a b=some a:=eX rfl
@[simp] theorem aCT(a b:J):jf (.bool false) a b=some b:=eX rfl
@[simp] theorem uJ(k off:Nat):eC (.ptr k off)=some (.ptr k off):=eX rfl
@[simp] theorem ud(oq k off:Nat):b5 oq (.ptr k off)=some (.ptr k (off+oq)):=by simp[b5,force_eq]
theorem lT{n s k off:Nat}{kd:IntKind}{i:Int}(h0:0<=i)(h1:i<n):ev n s (.ptr k off) (.int kd i)=some (.ptr k (off+i.toNat*s)):=by
 have:Nat.blt i.toNat n=true:=by rw[Nat.blt_eq];omega
 simp[ev,adu h0,zK,this,force_eq]
theorem gL{s k off len lo:Nat}{cap:Option Nat}{kd:IntKind}{i:Int}(h0:0<=i)(h1:i<len):dD s (.aY k off len cap lo) (.int kd i)=some (.ptr k (off+i.toNat*s)):=by
 have:Nat.blt i.toNat len=true:=by rw[Nat.blt_eq];omega
 simp[dD,adu h0,zK,this,force_eq]
@[simp] theorem sO(i:Nat)(vs:List J):ext i (.bo vs)=vs[i]?:=eX rfl
@[simp] theorem alo(i:Nat)(vs:List J):G3 i (.agg vs)=vs[i]?:=eX rfl
@[simp] theorem aDi(want:Bool)(r:ab)(h:U):dL want (some (.bool want)) r h=r:=by cases want<;>rfl
@[simp] theorem alX(r:ab)(h:U):dL false (some (.bool true)) r h=some (.ret (.val undef),h):=eX rfl
@[simp] theorem alZ(r:ab)(h:U):dL true (some (.bool false)) r h=some (.ret (.val undef),h):=eX rfl
@[simp] theorem alW(r:ab)(h:U):dL false (some (.bool false)) r h=r:=eX rfl
@[simp] theorem abc(r:ab)(h:U):dL true (some (.bool true)) r h=r:=eX rfl
section
open Go.ChangeShapes Go.WideShapes Go.ChangeAt Go.RowKit
section
variable{P:Program}
theorem bK.grow{B:Nat}{aV w w':World}{X:ah}{E:Env}(h:bK P B aV X E w)(ag:RowKit.Below w.heap.size w w'):bK P B aV X E w':=by
 have h1:w'.os=w.os:=ag.os;have h2:w'.tape=w.tape:=ag.tape;have h3:w'.output=w.output:=ag.output;have aU:w.heap.size<=w'.heap.size:=ag.size;have bA:∀k,k<w.heap.size->w'.heap[k]?=w.heap[k]?:=ag.block;refine⟨h1.trans h.os,h2.trans h.tape,h3.trans h.output,Nat.le_trans h.base aU,λk ai=>(bA k (Nat.lt_of_lt_of_le ai h.base)).trans (h.hN k ai),λk o ai=>?_,h.inj,h.fresh,h.m7,h.j3⟩;obtain⟨id,c,az,aw,ch⟩:=h.obj k o ai
 have s6:id<w.heap.size:=by
  obtain⟨x,ao⟩:=aw.there;exact(Array.getElem?_eq_some_iff.1 ao).1
 exact⟨id,c,az,by rw[bA id s6];exact aw,ch⟩
theorem ra.mono{E aP:Env}{f:FuncId}{argv:List Value}{w:World}{R W7:Ending->World->Prop}(aI:∀e w',R e w'->W7 e w')(h:ra P E (.fn f) argv w R):ra P aP (.fn f) argv w W7:=by
 rcases h with⟨fn,h1,h2,h3,aU⟩|⟨v,w',h1,h2⟩
 ·exact .inl ⟨fn,h1,h2,h3,CallsIn.mono aU aI⟩
 ·exact .inr ⟨v,w',h1,aI _ _ h2⟩
def free:J->Bool
 | .val _| .int _ _| .bool _| .str _=>true
 |_=>false
theorem Den.free{E aP:Env}{y:J}{v:Value}(ak:free y=true)(h:Den E y v):Den aP y v:=by
 cases y<;>first|exact h|cases ak
theorem cc.free{E aP:Env}:∀{ys:List J} {vs:List Value},ys.all Xe.free=true->cc E ys vs->cc aP ys vs
 | [],_,_,h=>h
 |y::ys,vs,ak,h=>by
  obtain⟨v,BC,h1,h2,rfl⟩:=h;simp only[List.all_cons,Bool.and_eq_true] at ak;exact⟨v,BC,h1.free ak.1,h2.free ak.2,rfl⟩
structure o6 (P:Program) where
 f:FuncId
 g:List J->U->Option J
 ok:∀{args:List J} {X:ah} {y:J},g args X.h=some y->∀{B:Nat} {aV:World} {E:Env} {w:World} {argv:List Value},bK P B aV X E w->cc E args argv->ra P E (.fn f) argv w (sw P B aV E (.ret y) X)
 frame:∀{args:List J} {X:ah} {y:J} {m:Nat} {ob:bD},g args X.h=some y->cT X m->g args (X.add m ob).h=some y
def xp:List (o6 P)->FuncId->Option (o6 P)
 | [],_=>none
 |q::afs,f=>bif Nat.beq q.f f then some q else xp afs f
theorem Yj:∀{cs:List (o6 P)} {f:FuncId} {q:o6 P},xp cs f=some q->q.f=f
 |q::afs,f,hn,h=>by
  simp only[xp] at h;cases ag:Nat.beq q.f f with
  |true=>simp only[ag,cond_true,Option.some.injEq] at h;subst h;exact Nat.eq_of_beq_eq_true ag
  |false=>simp only[ag,cond_false] at h;exact Yj h
def vv(cs:List (o6 P))(e:l1):l1 where
 call:=λc args X=>match c with
  | .fn f=>(match xp cs f with
    |some q=>(match q.g args X.h with
     |some y=>some (.ret y,X)
     |none=>none)
    |none=>e.call (.fn f) args X)
  |c=>e.call c args X
 dcall:=e.dcall
def sJ(cs:List (o6 P))(C:ad):ad:=λc args h=>match c with
 | .fn f=>(match xp cs f with
   |some q=>(match q.g args h with
    |some y=>some (.ret y,h)
    |none=>none)
   |none=>C (.fn f) args h)
 |c=>C c args h
theorem aka{cs:List (o6 P)}{e:l1}(he:wZ P e):wZ P (vv cs e):=by
 refine⟨λc args X y af h aA=>?_,λc args X y af h=>?_,λc args X y af m ob h ak=>?_,he.dcall,he.Cq,he.YF⟩
 ·cases c with
  |fn f=>
   simp only[vv] at h;split at h
   ·rename_i q aZ;split at h
    ·rename_i z a1;cases h;refine⟨aA,λB aV E w argv ay aF=>?_⟩
     have:=q.ok a1 ay aF
     rw[Yj aZ] at this;exact this
    ·cases h
   ·exact he.call _ _ _ _ _ h aA
  |iu f=>exact he.call _ _ _ _ _ h aA
  |fm k=>exact he.call _ _ _ _ _ h aA
 ·cases c with
  |fn f=>
   simp only[vv] at h;split at h
   ·split at h
    ·cases h;exact c7.refl _
    ·cases h
   ·exact he.keeps _ _ _ _ _ h
  |iu f=>exact he.keeps _ _ _ _ _ h
  |fm k=>exact he.keeps _ _ _ _ _ h
 ·cases c with
  |fn f=>
   simp only[vv] at h⊢;split at h
   ·rename_i q aZ
    try simp only[aZ]
    split at h
    ·rename_i z a1;cases h;rw[q.frame a1 ak]
    ·cases h
   ·rename_i aZ
    try simp only[aZ]
    exact he.frame _ _ _ _ _ _ _ h ak
  |iu f=>exact he.frame _ _ _ _ _ _ _ h ak
  |fm k=>exact he.frame _ _ _ _ _ _ _ h ak
theorem akc{cs:List (o6 P)}{C:ad}{e:l1}(h:lB C e.call):lB (sJ cs C) (vv cs e).call:=by
 intro c args h' o fh ae D;cases c with
 |fn f=>
  simp only[sJ] at ae;simp only[vv];split at ae
  ·rename_i q aZ
   try simp only[aZ]
   split at ae
   ·rename_i z a1;cases ae
    have:(h'.bZ D).h=h':=rfl
    rw[this,a1]
   ·cases ae
  ·exact h _ _ _ _ _ ae D
 |iu f=>exact h _ _ _ _ _ ae D
 |fm k=>exact h _ _ _ _ _ ae D
theorem Qu{o:bD}:∀{n off:Nat} {ys:List J},j1 o off n=some ys->∀i,i<ys.length->o.get (off+i)=ys[i]?
 |0,off,ys,h,i,hi=>by cases h;simp at hi
 |n+1,off,ys,h,i,hi=>by
  simp only[j1] at h;split at h<;>try(cases h;done)
  rename_i y bb;split at h<;>try(cases h;done)
  rename_i u2 fk;cases h;cases i with
  |zero=>simpa using bb
  |succ i=>
   have:=Qu fk i (by simpa using hi)
   rw[show off+(i+1)=off+1+i by omega,this];rfl
theorem akd{cs:List (o6 P)}{tab:av (fR P)}{lf fuel:Nat}(hm:P.follows .mixedOrders=true){y:cK P}{args:List J}{argv:List Value}{h h':U}{o:Out}{w:World}{B:Nat}{aV:World}{E:Env}
 (bb:y.s (sJ cs (ho tab lf fuel).call) lf args h=some (o,h'))(ay:bK P B aV (h.bZ []) E w)(aF:cc E args argv):ra P E (.iu y.x.f) argv w (sw P B aV E o (h'.bZ [])):=by
 have he:wZ P (vv cs (iN P (tab.map fR.e) lf fuel)):=aka (Ng _ lf hm fuel);obtain⟨h1,h2⟩:=y.eq _ _ _ _ _ bb;have h3:=ahi (e:=vv cs (iN P (tab.map fR.e) lf fuel)) (akc (VE tab lf fuel).1) y.x h1 h2 [];exact OR he hm h3 (λp aA=>by cases aA) B aV E w argv ay aF
theorem ajL{f:FuncId}{argv:List Value}{w:World}{E:Env}{h':U}(h:ra P E (.iu f) argv w (sw P w.heap.size w E (.ret (.bool true)) (h'.bZ []))):
 Calls P f argv.toArray w λe w'=>e= .returned (.bool true)/\RowKit.Below w.heap.size w w':=by
 obtain⟨_,_,_,_,rI⟩:=h;refine CallsIn.calls (CallsIn.mono rI ?_) (λk d h=>by cases h)
 rintro e w' ⟨aP,_,et,v,rfl,aF⟩
 cases aF;exact⟨rfl,et.below⟩
def xw(k:IntKind):List J->List Int->Bool
 | [],[]=>true
 | .int b1 n::ys,z::zs=>(b1==k)&&(n==z)&&xw k ys zs
 |_,_=>false
theorem Nc{k:IntKind}:∀{ys:List J} {zs:List Int},xw k ys zs=true->ys=zs.map (.int k)
 | [],[],_=>rfl
 | .int b1 n::ys,z::zs,h=>by
   simp only[xw,Bool.and_eq_true,beq_iff_eq] at h;obtain⟨⟨h1,h2⟩,h3⟩:=h
   have:b1=k:=by cases b1<;>cases k<;>first|rfl|(exact absurd h1 (by decide))
   subst this h2;rw[Nc h3];rfl
 | [],_::_,h=>by cases h
 | .int _ _::_,[],h=>by cases h
def l9(g:Nat)(k:IntKind)(zs:List Int)(h:U):Bool:=Nat.blt g h.aH&&(match h.aS.get g with
 |some o=>(match o.sp with
  | .cells=>(match j1 o 0 zs.length with|some ys=>xw k ys zs|none=>false)
  |_=>false)
 |none=>false)
theorem azX{g ty n:Nat}{k:IntKind}{zs:List Int}(h0:0<zs.length){X:ah}(aK:l9 g k zs X.h=true){B:Nat}{aV w:World}{E:Env}(ay:bK P B aV X E w):Start (g+1) (KL g ty n (zs.map (.int k))) w:=by
 unfold l9 at aK;simp only[Bool.and_eq_true] at aK;obtain⟨bd,aK⟩:=aK;have bd:g<X.aH:=by rw[Nat.blt_eq] at bd;exact bd
 split at aK<;>try(cases aK;done)
 rename_i o aq;split at aK<;>try(cases aK;done)
 rename_i vU;split at aK<;>try(cases aK;done)
 rename_i ys fk;have PW:=Nc aK;subst PW;obtain⟨c0,ma⟩:=ay.m7 g bd;obtain⟨id,c,az,aw,_⟩:=ay.obj g o aq;rw[ma] at az;cases az;rcases aw with⟨_,amS⟩|⟨aj,_⟩
 ·obtain⟨cs,V6,lo,hi,jW,s0,_⟩:=amS;refine azY (λi hi=>?_) h0
  have:o.get i=some (.int k (zs.getD i 0)):=by
   have:=Qu fk i (by simpa using hi)
   rw[Nat.zero_add] at this;rw[this];simp[List.getD,hi]
  obtain⟨v,h1,h2⟩:=s0 i _ this;have h2:v= .int k (zs.getD i 0):=h2;subst h2;simp[World.cell?,jW,h1]
 ·exact absurd vU (azU aj)
end
end
section
open Go.ChangeShapes Go.WideShapes Go.ChangeAt Go.RowKit
section
variable{P:Program}
def lift(aH:Nat):Value->J
 | .int k n=> .int k n
 | .bool b=> .bool b
 | .string s=> .str s
 | .pointer (some ⟨id,off,none⟩)=>bif Nat.blt id aH then .ptr id off else .val (.pointer (some ⟨id,off,none⟩))
 | .slice (some _) 0 0=> .kL 0
 | .slice (some ⟨id,off,none⟩) l c=>bif Nat.blt id aH then .aY id off l (some c) 0 else .val (.slice (some ⟨id,off,none⟩) l c)
 |v=> .val v
def uA(aH:Nat):Value->J
 | .agg cs=> .agg (cs.toList.map (lift aH))
 |v=>lift aH v
def Fh(aH:Nat):Env:={f:=λk=>if k<aH then some (k,0) else none,n:=0}
theorem MZ(aH:Nat)(v:Value):Den (Fh aH) (lift aH v) v:=by
 unfold lift;split<;>try(simp[Den];done)
 ·rename_i id off;cases ag:Nat.blt id aH with
  |false=>simp[Den]
  |true=>exact⟨id,0,if_pos (by rw[Nat.blt_eq] at ag;exact ag),rfl⟩
 ·rename_i id off l c _;cases ag:Nat.blt id aH with
  |false=>simp[Den]
  |true=>exact⟨id,0,if_pos (by rw[Nat.blt_eq] at ag;exact ag),rfl⟩
theorem Yx(aH:Nat):∀l:List Value,cc (Fh aH) (l.map (lift aH)) l
 | []=>rfl
 |v::l=>⟨v,l,MZ aH v,Yx aH l,rfl⟩
theorem akF(aH:Nat)(v:Value):Den (Fh aH) (uA aH v) v:=by
 unfold uA;split
 ·rename_i cs;exact⟨cs.toList,Yx aH _,by simp⟩
 ·exact MZ aH _
theorem Yy(aH:Nat):∀l:List Value,cc (Fh aH) (l.map (uA aH)) l
 | []=>rfl
 |v::l=>⟨v,l,akF aH v,Yy aH l,rfl⟩
def yO(aH:Nat)(cs:Array Value)(ty:TypeId):bD:={ck:=0,ty,n:=cs.size,loose:=false,esz:=1,ro:=true,mw:=λi=>(cs[i]?).map (lift aH),fq:= .nil,sp:= .cells}
def apW(w:World):cz:={iH:= .nil,base:=λk=>match w.heap[k]? with
 |some (.cells cs ty _)=>some (yO w.heap.size cs ty)
 |_=>none}
def hj(w:World):U:=⟨w.heap.size,w.heap.size,apW w⟩
theorem adJ(aH:Nat)(cs:Array Value)(ty:TypeId)(i:Nat):(yO aH cs ty).get i=(cs[i]?).map (lift aH):=by
 unfold yO bD.get;simp only[av.get];cases ag:Nat.blt i cs.size with
 |true=>rfl
 |false=>
  have:¬i<cs.size:=λh=>by rw[<- Nat.blt_eq,ag] at h;cases h
  simp[Array.getElem?_eq_none (by omega:cs.size<=i)]
theorem DL(w:World)(k:Nat):(hj w).aS.get k=match w.heap[k]? with
 |some (.cells cs ty _)=>some (yO w.heap.size cs ty)
 |_=>none:=rfl
theorem PO(w:World)(k i:Nat):(hj w).cell k i=(w.cell? ⟨k,i,none⟩).map (lift w.heap.size):=by
 unfold U.cell World.cell?;rw[DL];cases w.heap[k]? with
 |none=>rfl
 |some ob=>cases ob<;>first|rfl|(simp[adJ])
theorem Iu(w:World){k:Nat}(h:w.heap.size<=k):(hj w).aS.get k=none:=by
 rw[DL,Array.getElem?_eq_none h]
theorem akW(w:World):bK P w.heap.size w ((hj w).bZ []) (Fh w.heap.size) w:=by
 refine⟨rfl,rfl,rfl,Nat.le_refl _,λ_ _=>rfl,λk o ai=>?_,λk b1 o o' id c a2 ai cN he fu=>?_,λk ai=>?_,λg bd=>⟨0,if_pos bd⟩,Nat.zero_le _⟩
 ·have ai:(hj w).aS.get k=some o:=ai
  have a8:k<w.heap.size:=by
   apply Nat.lt_of_not_le;intro h;rw[Iu w h] at ai;cases ai
  rw[DL] at ai;split at ai<;>try(cases ai;done)
  rename_i cs ty CV jW;cases ai;refine⟨k,0,if_pos a8,.inl ⟨rfl,cs,ty,CV.1,CV.2,jW,λj y aa=>?_,λh=>by cases h⟩,λh=>?_⟩
  ·rw[adJ] at aa;cases ae:cs[j]? with
   |none=>simp[ae] at aa
   |some v=>
    simp only[ae,Option.map_some,Option.some.injEq] at aa;subst aa;exact⟨v,rfl,MZ _ v⟩
  ·rcases h with h|h
   ·cases h
   ·exact absurd rfl h
 ·have a8:∀{k o},(hj w).aS.get k=some o->k<w.heap.size:=by
   intro k o h;apply Nat.lt_of_not_le;intro h';rw[Iu w h'] at h;cases h
  have he:=(if_pos (a8 ai)).symm.trans he;have fu:=(if_pos (a8 cN)).symm.trans fu;cases he;cases fu;rfl
 ·have cN:w.heap.size<=k:=ai;exact if_neg (by omega)
theorem aoU{cs:List (o6 P)}{tab:av (fR P)}{lf fuel:Nat}(hm:P.follows .mixedOrders=true){y:cK P}{argv:List Value}{w:World}{h':U}
 (bb:y.s (sJ cs (ho tab lf fuel).call) lf (argv.map (uA w.heap.size)) (hj w)=some (.ret (.bool true),h')):
 Calls P y.x.f argv.toArray w λe w'=>e= .returned (.bool true)/\RowKit.Below w.heap.size w w':=
 ajL (akd hm bb (akW w) (Yy _ _))
theorem ajP{h:U}{g:Nat}{k:IntKind}{zs:List Int}{o:bD}(aq:h.aS.get g=some o)(a1:∀i,i<zs.length->h.cell g i=some (.int k (zs.getD i 0))):j1 o 0 zs.length=some (zs.map (.int k)):=by
 rw[AY aq];refine qd (by simp) λi hi=>?_
 rw[Nat.zero_add,a1 i hi];simp[List.getD,hi]
theorem YU(k:IntKind):∀zs:List Int,xw k (zs.map (.int k)) zs=true
 | []=>rfl
 |z::zs=>by simp[xw,YU k zs]
theorem amG{w:World}{g:Nat}{k:IntKind}{zs:List Int}(h0:0<zs.length)(h:∀i,i<zs.length->w.cell? ⟨g,i,none⟩=some (.int k (zs.getD i 0))):l9 g k zs (hj w)=true:=by
 have cj:=h 0 h0;unfold World.cell? at cj;split at cj<;>try(cases cj;done)
 rename_i cs ty CV jW;have a8:g<w.heap.size:=(Array.getElem?_eq_some_iff.1 jW).1;have aq:(hj w).aS.get g=some (yO w.heap.size cs ty):=by rw[DL];simp only at jW;rw[jW]
 have ag:Nat.blt g (hj w).aH=true:=by rw[Nat.blt_eq];exact a8
 have aJ:=ajP (h:=hj w) (k:=k) (zs:=zs) aq (λi hi=>by rw[PO,h i hi];rfl);unfold l9;simp only[ag,aq,Bool.true_and];show(match j1 (yO w.heap.size cs ty) 0 zs.length with|some ys=>xw k ys zs|none=>false)=true;rw[aJ];exact YU k zs
def akb{tab:av (fR P)}{lf fuel:Nat}(hm:P.follows .mixedOrders=true)(g0 ty n:Nat)(k:IntKind)(zs:List Int)(h0:0<zs.length)(f:FuncId)(g:List J->Option J)
    (Di:∀args y,g args=some y->args.all free=true/\free y=true)
    (fp:∀args y,g args=some y->∃h',(ho tab lf fuel).call (.fn f) args ⟨g0+1,g0+1,KL g0 ty n (zs.map (.int k))⟩=some (.ret y,h')):o6 P where
 f:=f
 g:=λargs h=>bif l9 g0 k zs h then g args else none
 ok:=by
  intro args X y bd B aV E w argv ay aF;cases aK:l9 g0 k zs X.h with
  |false=>simp[aK] at bd
  |true=>
   simp only[aK,cond_true] at bd;obtain⟨oF,k6⟩:=Di _ _ bd;obtain⟨h',aI⟩:=fp _ _ bd;have dk:=azX (ty:=ty) (n:=n) h0 aK ay;have aj:=(VE tab lf fuel).1 _ _ _ _ _ aI [];obtain⟨_,kk⟩:=(Ng (tab.map fR.e) lf hm fuel).call _ _ _ _ _ aj (λp aA=>by cases aA);have rI:=kk _ _ _ _ _ (akX dk) (aF.free oF);refine ra.mono ?_ rI
   rintro e w' ⟨aP,_,et,v,rfl,hv⟩
   exact⟨E,cJ.refl E,ay.grow et.below,v,rfl,hv.free k6⟩
 frame:=by
  intro args X y m ob bd ak;cases aK:l9 g0 k zs X.h with
  |false=>simp[aK] at bd
  |true=>
   have:l9 g0 k zs (X.add m ob).h=true:=by
    unfold l9 at aK⊢;simp only[Bool.and_eq_true] at aK⊢;refine⟨aK.1,?_⟩
    have bY:g0≠m:=λe=>by
     have h2:=aK.2;have xV:X.h.aS.get m=none:=ak.dead;rw[e,xV] at h2;cases h2
    have az:(X.add m ob).h.aS.get g0=X.h.aS.get g0:=by
     show(X.aS.put m ob).get g0=X.aS.get g0;rw[cz.kA,if_neg bY]
    rw[az];exact aK.2
   simp only[aK,cond_true] at bd;simp only[this,cond_true];exact bd
end
end
theorem uF(a:Nat):BitVec.ofInt 64 (a:Int)=BitVec.ofNat 64 a:=by
 apply BitVec.eq_of_toNat_eq;simp
theorem zP:IntKind.u64.bits=64:=rfl
theorem Fu{a:Nat}(h:a<2 ^ 64):IntKind.u64.wrap (a:Int)=a:=wrap_u64 (by omega) (by omega)
theorem aiB{a b:Nat}(bX:a<2 ^ 64)(ag:b<2 ^ 64):arith .and .u64 (a:Int) (b:Int)=some (.int .u64 ((a&&& b:Nat):Int)):=by
 have h1:((BitVec.ofInt IntKind.u64.bits (a:Int)&&& BitVec.ofInt IntKind.u64.bits (b:Int)).toNat)=a&&& b:=by
  rw[zP,uF,uF,BitVec.toNat_and,BitVec.toNat_ofNat,BitVec.toNat_ofNat,Nat.mod_eq_of_lt bX,Nat.mod_eq_of_lt ag]
 have h2:a&&& b<2 ^ 64:=Nat.and_lt_two_pow _ ag;simp only[arith,fC,h1,Fu h2]
theorem aqf{a b:Nat}(bX:a<2 ^ 64)(ag:b<2 ^ 64):arith .or .u64 (a:Int) (b:Int)=some (.int .u64 ((a|||b:Nat):Int)):=by
 have h1:((BitVec.ofInt IntKind.u64.bits (a:Int)|||BitVec.ofInt IntKind.u64.bits (b:Int)).toNat)=a|||b:=by
  rw[zP,uF,uF,BitVec.toNat_or,BitVec.toNat_ofNat,BitVec.toNat_ofNat,Nat.mod_eq_of_lt bX,Nat.mod_eq_of_lt ag]
 have h2:a|||b<2 ^ 64:=Nat.or_lt_two_pow bX ag
 simp only[arith,fC,h1,Fu h2]
theorem aB2{a b:Nat}(bX:a<2 ^ 64)(ag:b<2 ^ 64):arith .xor .u64 (a:Int) (b:Int)=some (.int .u64 ((a ^^^ b:Nat):Int)):=by
 have h1:((BitVec.ofInt IntKind.u64.bits (a:Int) ^^^ BitVec.ofInt IntKind.u64.bits (b:Int)).toNat)=a ^^^ b:=by
  rw[zP,uF,uF,BitVec.toNat_xor,BitVec.toNat_ofNat,BitVec.toNat_ofNat,Nat.mod_eq_of_lt bX,Nat.mod_eq_of_lt ag]
 have h2:a ^^^ b<2 ^ 64:=Nat.xor_lt_two_pow bX ag;simp only[arith,fC,h1,Fu h2]
theorem aiA{a b:Nat}(bX:a<2 ^ 64)(ag:b<2 ^ 64):arith .andNot .u64 (a:Int) (b:Int)=some (.int .u64 ((a&&& (2 ^ 64-1-b):Nat):Int)):=by
 have h1:((BitVec.ofInt IntKind.u64.bits (a:Int)&&& ~~~ BitVec.ofInt IntKind.u64.bits (b:Int)).toNat)=a&&& (2 ^ 64-1-b):=by
  rw[zP,uF,uF,BitVec.toNat_and,BitVec.toNat_not,BitVec.toNat_ofNat,BitVec.toNat_ofNat,Nat.mod_eq_of_lt bX,Nat.mod_eq_of_lt ag]
 have h2:a&&& (2 ^ 64-1-b)<2 ^ 64:=Nat.and_lt_two_pow _ (by omega);simp only[arith,fC,h1,Fu h2]
theorem adF{a:Nat}(bX:a<2 ^ 64):kM .xor (.int .u64 (a:Int))=some (.int .u64 ((2 ^ 64-1-a:Nat):Int)):=by
 have e:kM .xor (.int .u64 (a:Int))=arith .xor .u64 ((2 ^ 64-1:Nat):Int) (a:Int):=rfl;rw[e,aB2 (by omega) bX];congr 3;apply Nat.eq_of_testBit_eq;intro i;rw[Nat.testBit_xor,Nat.testBit_two_pow_sub_one,show 2 ^ 64-1-a=2 ^ 64-(a+1) by omega,Nat.testBit_two_pow_sub_succ bX];by_cases hi:i<64
 ·simp[hi]
 ·have:a.testBit i=false:=Nat.testBit_lt_two_pow (Nat.lt_of_lt_of_le bX (Nat.pow_le_pow_right (by omega) (by omega)))
  simp[hi,this]
theorem KM{a:Nat}(bX:a<2 ^ 64)(i:Nat):(2 ^ 64-1-a).testBit i=(decide (i<64)&&!a.testBit i):=by
 rw[show 2 ^ 64-1-a=2 ^ 64-(a+1) by omega,Nat.testBit_two_pow_sub_succ bX]
section
variable{P:Program}{t:TypeId}
theorem MB{a b:Nat}(bX:a<2 ^ 64)(ag:b<2 ^ 64):bin P .and t (.int .u64 (a:Int)) (.int .u64 (b:Int))=some (.int .u64 ((a&&& b:Nat):Int)):=by
 rw[xl .and (.inl rfl),aiB bX ag]
theorem ajg{a b:Nat}(bX:a<2 ^ 64)(ag:b<2 ^ 64):bin P .or t (.int .u64 (a:Int)) (.int .u64 (b:Int))=some (.int .u64 ((a|||b:Nat):Int)):=by
 rw[xl .or (.inr (.inl rfl)),aqf bX ag]
theorem ajb{a b:Nat}(bX:a<2 ^ 64)(ag:b<2 ^ 64):bin P .andNot t (.int .u64 (a:Int)) (.int .u64 (b:Int))=some (.int .u64 ((a&&& (2 ^ 64-1-b):Nat):Int)):=by
 rw[xl .andNot (.inr (.inr (.inr rfl))),aiA bX ag]
theorem ME{k:IntKind}{a b:Nat}(ag:b<64):bin P .shr t (.int .u64 (a:Int)) (.int k (b:Int))=some (.int .u64 ((a/2 ^ b:Nat):Int)):=by
 have e:bin P .shr t (.int .u64 (a:Int)) (.int k (b:Int))=wF .shr .u64 (a:Int) (b:Int):=by rw[tY];rfl
 rw[e];have h1:decide ((b:Int)<0)=false:=decide_eq_false (by omega);have h2:min (b:Int).toNat IntKind.u64.bits=b:=by rw[zP];simp;omega
 simp only[wF,h1,cond_false,fC,h2];congr 2;have h3:(2:Int) ^ b=((2 ^ b:Nat):Int):=by simp
 rw[h3,Int.fdiv_eq_ediv_of_nonneg _ (Int.natCast_nonneg _)];rfl
theorem XP{k:IntKind}{b:Nat}(ag:b<64):bin P .shl t (.int .u64 1) (.int k (b:Int))=some (.int .u64 ((2 ^ b:Nat):Int)):=by
 have e:bin P .shl t (.int .u64 1) (.int k (b:Int))=wF .shl .u64 1 (b:Int):=by rw[tY];rfl
 rw[e];have h1:decide ((b:Int)<0)=false:=decide_eq_false (by omega);have h2:min (b:Int).toNat IntKind.u64.bits=b:=by rw[zP];simp;omega
 simp only[wF,h1,cond_false,fC,h2];congr 2;rw[Int.one_mul];have h3:(2:Int) ^ b=((2 ^ b:Nat):Int):=by simp
 have aU:2 ^ b<2 ^ 64:=Nat.pow_lt_pow_right (by omega) ag;rw[h3,Fu aU]
end
theorem apx{x:Nat}(h0:x≠0)(ao:x<2 ^ 64):kM .neg (.int .u64 (x:Int))=some (.int .u64 ((2 ^ 64-x:Nat):Int)):=by
 show arith .sub .u64 0 (x:Int)=_;simp only[arith,fC];congr 2;simp[IntKind.wrap,IntKind.signed,IntKind.bits];omega
theorem aBT(a:Nat):IntKind.u64.wrap (a:Int)=((a%18446744073709551616:Nat):Int):=by
 simp[IntKind.wrap,IntKind.signed,IntKind.bits]
theorem apl(a:Nat):IntKind.u64.wrap ((a:Int)*285870213051353865)=((a*285870213051353865%18446744073709551616:Nat):Int):=by
 rw[<- aBT];congr 1
theorem ajj{a b:Nat}:(((a/2 ^ b)&&& 1:Nat)=1)↔a.testBit b=true:=by
 rw[Nat.testBit,Nat.shiftRight_eq_div_pow,Nat.and_comm 1]
 have:a/2 ^ b&&& 1=a/2 ^ b%2:=Nat.and_one_is_mod _
 rw[this];have h2:=Nat.mod_two_eq_zero_or_one (a/2 ^ b);rcases h2 with h|h<;>simp[h]
end Go.Xe
namespace Go.Proofs.YtomialandfplkaaDoor.Eva
open Go.Xe
theorem cH{a b:Int}(h: -9223372036854775808<=a/\a<9223372036854775808/\a=b):IntKind.i64.wrap a=b:=by
 rw[wrap_i64 h.1 h.2.1];exact h.2.2
theorem bq{p:Prop} [Decidable p](h:¬p):decide p=false:=decide_eq_false h
theorem bw{p:Prop} [Decidable p](h:p):decide p=true:=decide_eq_true h
theorem dE(f:Nat)(h:0<f):∃g,f=g+1:=⟨f-1,by omega⟩
abbrev WR:Prop:=(∀n,bE n=some (.int .i64 n))/\(∀i x h k,eR i x h k=ob (b5 i x) λc=>ob (b0 c h) k)/\(∀i x k,gO i x k=ob x λa=>ob (eC a) λb=>ob (b5 i b) k)/\
 (∀i x h k,dI i x h k=ob x λa=>ob (eC a) λb=>ob (b5 i b) λc=>ob (b0 c h) k)/\(∀i x v h k,apS i x v h k=ob x λa=>ob (eC a) λb=>ob (b5 i b) λc=>ob (st 1 c v h) k)/\
 (∀o t x y k,cm o t x y k=ob (bin ax o t x y) k)/\(∀o t x v k,cB o t x v k=ob x λa=>ob (bin ax o t a v) k)/\(∀o t x y k,n4 o t x y k=ob x λa=>ob y λb=>ob (bin ax o t a b) k)/\
 (∀o t x y p q,eF o t x y p q=ob (bin ax o t x y) λz=>fV z p q)/\(∀o t x v p q,gT o t x v p q=ob x λa=>ob (bin ax o t a v) λz=>fV z p q)/\
 (∀o t x y p q,lX o t x y p q=ob x λa=>ob y λb=>ob (bin ax o t a b) λz=>fV z p q)/\(∀y p q,gx y p q=ob (kM .not y) λz=>fV z p q)/\
 (∀s v x k,mh s v x k=ob x λa=>ob (dD s v a) k)/\(∀s i v x h k,QI s i v x h k=ob x λa=>ob (dD s v a) λb=>ob (b5 i b) λc=>ob (b0 c h) k)/\(∀s v x h k,r4 s v x h k=ob x λa=>ob (dD s v a) λb=>ob (b0 b h) k)/\
 (∀t x k,mO t x k=ob x λa=>ob (eN ax t a) k)/\(∀y k,dn y k=ob (ext 0 y) λa=>ob (ext 1 y) λb=>k a b)/\
 (∀y e h k,b8 y e h k=eo (dL true (some y) (ob e λa=>some (.ret a,h)) h) k)/\(∀y e h k,dJ y e h k=eo (dL false (some y) (ob e λa=>some (.ret a,h)) h) k)/\
 (∀o t y x v h k,iR o t y x v h k=b8 y x h λa h=>b8 y (bin ax o t a v) h k)/\(∀o t y x v h k,h4 o t y x v h k=dJ y x h λa h=>dJ y (bin ax o t a v) h k)/\
 (∀i y x h k,ug i y x h k=b8 y x h λa h=>b8 y (eC a) h λb h=>b8 y (b5 i b) h λc h=>b8 y (b0 c h) h k)/\(∀i y x h k,aa9 i y x h k=dJ y x h λa h=>dJ y (eC a) h λb h=>dJ y (b5 i b) h λc h=>dJ y (b0 c h) h k)/\
 (∀y z k,h9 y z k=ob (jf y z (.bool false)) k)/\(∀y z k,nk y z k=ob (jf y (.bool true) z) k)/\(∀y z p q,pY y z p q=ob (jf y z (.bool false)) λc=>fV c p q)/\(∀y z p q,n7 y z p q=ob (jf y (.bool true) z) λc=>fV c p q)/\
 (∀i a k,ed i a k=ob (eC a) λb=>ob (b5 i b) k)/\(∀i a h k,tr i a h k=ob (eC a) λb=>ob (b5 i b) λc=>ob (b0 c h) k)/\(∀i a v h k,uE i a v h k=ob (eC a) λb=>ob (b5 i b) λc=>ob (st 1 c v h) k)/\
 (∀t a k,mg t a k=ob (eN ax t a) k)/\(∀o t v x k,Ea o t v x k=ob x λa=>ob (bin ax o t v a) k)/\(∀o t v x p q,agA o t v x p q=ob x λa=>ob (bin ax o t v a) λz=>fV z p q)/\(∀C n l h k,da C n l h k=eo (C (.fn n) l h) k)/\
 (∀C n x h k,aQ C n x h k=ob x λa=>eo (C (.fn n) [a] h) k)/\(∀C n x y h k,a3 C n x y h k=ob x λa=>ob y λb=>eo (C (.fn n) [a,b] h) k)/\
 (∀C n x y z h k,cl C n x y z h k=ob x λa=>ob y λb=>ob z λc=>eo (C (.fn n) [a,b,c] h) k)/\(∀C n x y z u h k,ct C n x y z u h k=ob x λa=>ob y λb=>ob z λc=>ob u λd=>eo (C (.fn n) [a,b,c,d] h) k)
theorem cg:WR:=by
 refine⟨?_,?_,?_,?_,?_,?_,?_,?_,?_,?_,?_,?_,?_,?_,?_,?_,?_,?_,?_,?_,?_,?_,?_,?_,?_,?_,?_,?_,?_,?_,?_,?_,?_,?_,?_,?_,?_,?_⟩<;>intros<;>rfl
theorem aE:(∀{α:Type} (x:α) (k:α->ab),ob (some x) k=k x)/\(∀(y:J) (h:U) (k:J->U->ab),b2 (some (y,h)) k=k y h)/\(∀(y:J) (h:U) (k:J->U->ab),eo (some (.ret y,h)) k=k y h)/\(∀(y:J) (h:U) (k:J->U->ab),dP (some (.ret y,h)) k=k y h)/\
 (∀(r:ab) (h:U),dL true (some (.bool true)) r h=r)/\(∀(r:ab) (h:U),dL false (some (.bool false)) r h=r)/\(∀(r:ab) (h:U),dL true (some (.bool false)) r h=some (.ret (.val undef),h))/\(∀(r:ab) (h:U),dL false (some (.bool true)) r h=some (.ret (.val undef),h))/\
 (∀a b:J,jf (.bool true) a b=some a)/\(∀a b:J,jf (.bool false) a b=some b)/\(∀a b:ab,fV (.bool true) a b=a)/\(∀a b:ab,fV (.bool false) a b=b)/\(∀k off:Nat,eC (.ptr k off)=some (.ptr k off))/\(∀oq k off:Nat,b5 oq (.ptr k off)=some (.ptr k (off+oq)))/\
 (∀(k off:Nat) (h:U),b0 (.ptr k off) h=h.cell k off)/\(∀(i:Nat) (vs:List J),ext i (.bo vs)=vs[i]?)/\(∀(i:Nat) (vs:List J),G3 i (.agg vs)=vs[i]?)/\(∀b:Bool,kM .not (.bool b)=some (.bool (!b)))/\
 (∀{P:Program} {t:TypeId} {k:IntKind} {a b:Int},bin P .add t (.int k a) (.int k b)=some (.int k (k.wrap (a+b))))/\(∀{P:Program} {t:TypeId} {k:IntKind} {a b:Int},bin P .sub t (.int k a) (.int k b)=some (.int k (k.wrap (a-b))))/\(∀{P:Program} {t:TypeId} {k:IntKind} {a b:Int},bin P .mul t (.int k a) (.int k b)=some (.int k (k.wrap (a*b))))/\
 (∀{P:Program} {t:TypeId} {k:IntKind} {a b:Int},bin P .eql t (.int k a) (.int k b)=some (.bool (decide (a=b))))/\(∀{P:Program} {t:TypeId} {k:IntKind} {a b:Int},bin P .neq t (.int k a) (.int k b)=some (.bool (decide (a≠b))))/\(∀{P:Program} {t:TypeId} {k:IntKind} {a b:Int},bin P .lss t (.int k a) (.int k b)=some (.bool (decide (a<b))))/\
 (∀{P:Program} {t:TypeId} {k:IntKind} {a b:Int},bin P .leq t (.int k a) (.int k b)=some (.bool (decide (a<=b))))/\(∀{P:Program} {t:TypeId} {k:IntKind} {a b:Int},bin P .gtr t (.int k a) (.int k b)=some (.bool (decide (b<a))))/\(∀{P:Program} {t:TypeId} {k:IntKind} {a b:Int},bin P .geq t (.int k a) (.int k b)=some (.bool (decide (b<=a))))/\
 (∀n:Nat,0+n=n)/\(∀n:Nat,n*1=n)/\WR:=
 ⟨cf,sC,kV,XK,abc,alW,alZ,alX,ahq,aCT,q6,o4,uJ,ud,qL,sO,alo,aBw,sD,ajh,MC,XL,Cf,ru,ajf,zN,XN,Nat.zero_add,Nat.mul_one,cg⟩
def hg(h:U):Prop:=0<h.aH/\∀i,i<64->h.cell 0 i=some (.int .u8 (Lib.deBruijn64tab.getD i 0:Nat))
theorem aBt{h:U}{j z:Nat}(r:aC)(aK:hg h)(h3:j<64)(aU:Lib.deBruijn64tab.getD j 0=z)(bA:z<64):
 (C0 h.aH 0 λxe=>ob (ev 64 1 xe (.int .u64 (j:Int))) λWo=>ob (b0 Wo h) λK5=>ob (xt .i64 K5) λFy=>r (some Fy) h)=r (some (I (z:Int))) h:=by
 have bd:Nat.blt 0 h.aH=true:=by rw[Nat.blt_eq];exact aK.1
 have eB:=aK.2 _ h3;rw[aU] at eB;have b3:=lT (n:=64) (s:=1) (k:=0) (off:=0) (kd:= .u64) (i:=(j:Int)) (by omega) (by omega);simp only[C0,bd,cond_true,b3,cf,qL,Int.toNat_natCast,Nat.zero_add,Nat.mul_one,eB,xt,fC];rw[wrap_i64 (by omega) (by omega)]
theorem aBs{C:ad}{lf x:Nat}{h:U}(ao:x<2 ^ 64)(aK:hg h):HA C lf (.int .u64 (x:Int)) h=some (.ret (I (Lib.ctz 64 x:Nat)),h):=by
 unfold HA TE NX;simp only[cg,cf,XL];by_cases h0:x=0
 ·subst h0;simp[Lib.ctz]
 ·have rG:decide ((x:Int)=0)=false:=bq (by omega);obtain⟨h1,h2⟩:=Lib.lowest_bit 64 x h0 ao;obtain⟨h3,aU⟩:=Lib.deBruijn64_at _ h2;have a8:2 ^ 64-x<2 ^ 64:=by omega
  rw[rG,o4];simp only[cg,apx h0 ao,cf,MB ao a8,h1,MC,apl];have aj:=ME (P:=ax) (t:=55) (k:= .u64) (a:=2 ^ Lib.ctz 64 x*285870213051353865%18446744073709551616) (b:=58) (by omega);have aF:(2:Nat) ^ 58=288230376151711744:=by decide
  rw[aF] at aj;generalize 2 ^ Lib.ctz 64 x*285870213051353865%18446744073709551616=m at *;have DD:bin ax .shr 55 (.int .u64 (m:Int)) (.int .u64 58)=some (.int .u64 ((m/288230376151711744:Nat):Int)):=aj;rw[DD];generalize m/288230376151711744=j at *;rw[cf];exact aBt (λx h=>ob x λal=>some (.ret al,h)) aK h3 aU h2
structure ee (h:U) (k cV n:Nat) (wd b:Nat->Nat):Prop where
 cI:1<=n
 cF:n<=4096
 ec:h.cell k 0=some (I (n:Int))
 tZ:∀i,i<64->h.cell k (1+i)=some (.int .u64 (wd i:Int))
 iI:∀i,wd i<2 ^ 64
 out:∀i c,i<64->c<64->n<=64*i+c->(wd i).testBit c=false
 cs:∃cap,h.cell k 65=some (.aY cV 0 n cap 0)
 q4:h.wr k 66
 uR:h.wr cV (n*64)
 xo:∀j,j<n*64->h.cell cV j=some (.int .u8 (b j:Int))
 blt:∀j,b j<256
 ne:k≠cV
 wa:k<h.next
 v8:cV<h.next
def bU(wd:Nat->Nat)(i:Nat):Bool:=(wd (i/64)).testBit (i%64)
section
variable{lf m:Nat}{h:U}{k cV n:Nat}{wd b:Nat->Nat}
def sq(C:ad):Prop:=∀h k cV n wd b,ee h k cV n wd b->C (.fn 63) [.ptr k 0] h=some (.ret (.bool true),h)
theorem apd{C:ad}{lf:Nat}(S:ee h k cV n wd b):Hz C lf (.ptr k 0) h=some (.ret (.bool true),h):=by
 have h1:=S.cI;have bY:=MD (k:=k) (off:=0) Tryd.underlying25;unfold Hz TD NW;simp only[cg,cf,bY,abc,kV,uJ,ud,qL,Nat.zero_add,S.ec,zN,ahq];simp;omega
def gv(n:Nat)(wd:Nat->Nat)(i:Int):Bool:=decide (0<=i)&&(decide (i<n)&&bU wd i.toNat)
def w5(C:ad):Prop:=∀h k cV n wd b i,ee h k cV n wd b-> -9223372036854775808<=i->i<9223372036854775808->C (.fn 33) [.ptr k 0,I i] h=some (.ret (.bool (gv n wd i)),h)
theorem aou{C:ad}{lf:Nat}(hm:sq C)(S:ee h k cV n wd b){i:Int}:Hp C lf (.ptr k 0) (I i) h=some (.ret (.bool (gv n wd i)),h):=by
 have h1:=S.cI;have h2:=S.cF;unfold Hp SR ND;simp only[aE,hm _ _ _ _ _ _ S];by_cases h3:0<=i
 ·by_cases aU:i<n
  ·have bA:0<=i/64:=by omega
   have bC:i/64<64:=by omega
   have er:IntKind.i64.wrap (i.tdiv 64)=i/64:=by
    rw[Int.tdiv_eq_ediv_of_nonneg h3];exact wrap_i64 (by omega) (by omega)
   have hz:i.tmod 64=((i.toNat%64:Nat):Int):=by
    rw[Int.tmod_eq_emod_of_nonneg h3];omega
   have oB:(i/64).toNat=i.toNat/64:=by omega
   have oA:=S.tZ (i.toNat/64) (by omega);have k0:=S.iI (i.toNat/64);have b3:=lT (n:=64) (s:=1) (k:=k) (off:=1) (kd:= .i64) bA bC;rw[oB,Nat.mul_one] at b3;have yk:=ME (P:=ax) (t:=55) (k:= .i64) (a:=wd (i.toNat/64)) (b:=i.toNat%64) (by omega);have a8:wd (i.toNat/64)/2 ^ (i.toNat%64)<2 ^ 64:=Nat.lt_of_le_of_lt (Nat.div_le_self _ _) k0;have H6:=MB (P:=ax) (t:=55) a8 (show 1<2 ^ 64 by omega);have ag:=ajj (a:=wd (i.toNat/64)) (b:=i.toNat%64)
   have aZ:decide (((wd (i.toNat/64)/2 ^ (i.toNat%64)&&& 1:Nat):Int)=1)=bU wd i.toNat:=by
    unfold bU;cases aK:(wd (i.toNat/64)).testBit (i.toNat%64) with
    |true=>
     have:=ag.2 aK
     rw[this];rfl
    |false=>
     have:¬(wd (i.toNat/64)/2 ^ (i.toNat%64)&&& 1=1):=λe=>by rw[ag.1 e] at aK;cases aK
     exact bq (by omega)
   have aI:gv n wd i=bU wd i.toNat:=by simp only[gv,h3,aU,decide_true,Bool.true_and]
   rw[aI, <- aZ];generalize wd (i.toNat/64)/2 ^ (i.toNat%64)=z at *;have amE:bin ax .and 55 (.int .u64 (z:Int)) (.int .u64 1)=some (.int .u64 ((z&&& 1:Nat):Int)):=H6;simp only[h3,aU,decide_true,aE,lJ (show(64:Int)≠0 by omega),hQ (show(64:Int)≠0 by omega),er,hz,S.ec,b3,oA,yk,amE]
  ·have:gv n wd i=false:=by simp[gv,aU]
   simp only[h3,aU,decide_true,decide_false,this,aE,S.ec]
 ·have:gv n wd i=false:=by simp[gv,h3]
  simp only[h3,decide_false,this,aE]
end
end Go.Proofs.YtomialandfplkaaDoor.Eva
namespace Go.Xe
def dR(ty:TypeId)(cs:List J):bD:={ck:=0,ty,n:=cs.length,loose:=false,esz:=1,ro:=false,mw:=λ_=>none,fq:=p1 cs,sp:= .cells}
def gZ(ty:TypeId)(n:Nat)(zs:List J):bD:={ck:=0,ty,n,loose:=false,esz:=1,ro:=false,mw:=λi=>(p1 zs).get (i%zs.length),fq:= .nil,sp:= .cells}
def yF(ty:TypeId)(esz:Nat)(cs:List J):bD:={ck:=0,ty,n:=cs.length,loose:=true,esz,ro:=false,mw:=λ_=>none,fq:=p1 cs,sp:= .cells}
theorem agR(cs:List J)(i:Nat):(p1 cs).get i=cs[i]?:=by
 unfold p1;rw[xM];by_cases h:i<cs.length
 ·rw[if_pos ⟨Nat.zero_le _,by omega⟩];simp
 ·rw[if_neg (by omega),List.getElem?_eq_none (by omega)];rfl
theorem oR(ty:TypeId)(cs:List J)(i:Nat):(dR ty cs).get i=cs[i]?:=by
 unfold dR bD.get;simp only[agR];cases ag:Nat.blt i cs.length with
 |true=>
  have:i<cs.length:=by rw[Nat.blt_eq] at ag;exact ag
  simp[List.getElem?_eq_getElem this]
 |false=>
  have:¬i<cs.length:=λh=>by rw[<- Nat.blt_eq,ag] at h;cases h
  simp[List.getElem?_eq_none (by omega:cs.length<=i)]
theorem adh(ty:TypeId)(e:Nat)(cs:List J)(i:Nat):(yF ty e cs).get i=cs[i]?:=oR ty cs i
theorem wk(ty:TypeId){n i:Nat}(zs:List J)(hi:i<n):(gZ ty n zs).get i=zs[i%zs.length]?:=by
 unfold gZ bD.get;have ag:Nat.blt i n=true:=by rw[Nat.blt_eq];exact hi
 simp only[ag,cond_true,av.get,agR]
section
variable{P:Program}
theorem wS{e:TypeId}{x:J}{h:U}(ak:x.flat=true):q7 e x h=some (.ptr h.next 0,h.new (dR e x.cells)):=by
 unfold q7 pT;simp only[ak,cond_true,newRow,force_eq];rfl
theorem zj{e:TypeId}{z:Value}{h:U}(a1:hE P e=some z):q5 P e h=some (.ptr h.next 0,h.new (dR e (c2 z).cells)):=by
 unfold q5 pR;simp only[a1,newRow,force_eq];rfl
theorem wT{t e s b:Nat}{z:Value}{k1 k2:IntKind}{l c:Nat}{h:U}(hu:P.underlying t=some (.slice e))(aj:dN P e=some s)(a1:hE P e=some z)(ag:n8 P e=some b)
 (h1:l<=c)(h2:c*b<=140737488355328)(h3:c<=140737488355328)(aU:(c2 z).cells.length=s)(bA:1<=s):
 mU P t (.int k1 (l:Int)) (.int k2 (c:Int)) h=some (.aY h.next 0 l (some c) 0,h.new (gZ e (c*s) (c2 z).cells)):=by
 have az:hL (.int k1 (l:Int))=some l:=rfl;have aw:hL (.int k2 (c:Int))=some c:=rfl
 have ch:(Nat.ble l c&&Nat.ble (c*b) 140737488355328&&Nat.ble c 140737488355328&&Nat.beq (c2 z).cells.length s&&Nat.ble 1 s)=true:=by
  simp only[Nat.ble_eq_true_of_le h1,Nat.ble_eq_true_of_le h2,Nat.ble_eq_true_of_le h3,Nat.ble_eq_true_of_le bA,aU,Nat.beq_refl,Bool.and_self]
 unfold mU pU;simp only[hu,az,aw,aj,a1,ag,ch,cond_true,mM,force_eq];rfl
end
theorem mT{h:U}{o:bD}(aI:o.ro=false):(h.new o).wr h.next o.n:=⟨o.mt,by rw[yI,if_pos rfl],aI,rfl⟩
theorem Fs{h:U}{o:bD}{k N:Nat}(hw:h.wr k N)(ai:k≠h.next):(h.new o).wr k N:=by
 obtain⟨m,h1,h2,h3⟩:=hw;exact⟨m,by rw[yI,if_neg ai];exact h1,h2,h3⟩
theorem lK(h:U)(o:bD)(i:Nat):(h.new o).cell h.next i=o.get i:=by rw[X4,if_pos rfl]
theorem GH{h:U}{o:bD}{k:Nat}(ai:k≠h.next)(i:Nat):(h.new o).cell k i=h.cell k i:=by rw[X4,if_neg ai]
def FL(x:J):Prop:=x= .val (.slice none 0 0)\/∃k,x= .kL k
def Bytes(h:U)(x:J)(l:List Nat):Prop:=(∀c∈l,c<256)/\((FL x/\l=[])\/
 ∃bM ob cap lo m,x= .aY bM ob l.length cap lo/\h.mt bM=some m/\∀j,j<l.length->h.cell bM (ob+j)=some (.int .u8 (l.getD j 0:Nat)))
def jd(l:List Nat):List J:=l.map λ(c:Nat)=>J.int .u8 (c:Int)
theorem zd(l:List Nat):(jd l).length=l.length:=by simp[jd]
theorem KT(l:List Nat){j:Nat}(aa:j<l.length):(jd l)[j]?=some (.int .u8 (l.getD j 0:Nat)):=by simp[jd,List.getD,aa]
theorem agT(l:List Nat):eA (jd l)=true:=by
 unfold jd
 induction l with
 |nil=>rfl
 |cons c l ba=>simp[eA,ba,J.one]
theorem aBu(l:List Nat)(n:Nat):(jd l).take n=jd (l.take n):=by simp[jd,List.map_take]
section
variable{P:Program}
theorem qM{h:U}{x:J}{l:List Nat}{t e:TypeId}(hu:P.underlying t=some (.slice e))(B:Bytes h x l):eN P t x=some (.int .i64 (l.length:Int)):=by
 rcases B.2 with⟨rfl|⟨k,rfl⟩,rfl⟩|⟨bM,ob,cap,lo,m,rfl,_⟩
 ·simp[eN,hu,fC]
 ·simp[eN,hu]
 ·simp[eN,hu]
theorem XW{h:U}{bM ob:Nat}{l:List Nat}(ae:∀j,j<l.length->h.cell bM (ob+j)=some (.int .u8 (l.getD j 0:Nat))):h.cells bM ob l.length=some (jd l):=
 qd (zd l) λj aa=>by rw[ae j aa,KT l aa]
theorem YN{h:U}{x:J}{l:List Nat}(B:Bytes h x l):kU h.x0 1 x=some (l.length,jd l):=by
 rcases B.2 with⟨rfl|⟨k,rfl⟩,rfl⟩|⟨bM,ob,cap,lo,m,rfl,hm,ae⟩
 ·simp[kU,jd]
 ·simp[kU,jd]
 ·unfold U.mt at hm;cases aq:h.aS.get bM with
  |none=>simp[aq] at hm
  |some o=>
   simp only[kU,U.sf,aq,Nat.mul_one,AY aq,XW ae]
theorem akl{h:U}{x:J}{l:List Nat}{t t2 e kd od ld N lo:Nat}{cap:Option Nat}(hu:P.underlying t=some (.slice e))(aj:dN P e=some 1)(B:Bytes h x l)(hw:h.wr kd N)(ag:od+ld<=N):
 gA P .copy #[t,t2] [.aY kd od ld cap lo,x] h=some (.int .i64 ((min l.length ld:Nat):Int),h.set kd od (jd (l.take (min l.length ld)))):=by
 obtain⟨md,qv,aI,aO⟩:=hw;unfold U.mt at qv;cases aq:h.aS.get kd with
 |none=>simp[aq] at qv
 |some o=>
  simp only[aq,Option.some.injEq] at qv;subst qv;simp only[bD.mt] at aI aO;have h2:Nat.beq (jd l).length l.length=true:=by rw[zd];exact Nat.beq_refl _
  have h1:Nat.ble (od+ld) o.n=true:=Nat.ble_eq_true_of_le (by omega);have aB:iq P .copy #[t,t2] [.aY kd od ld cap lo,x] h.x0=q0 P t (.aY kd od ld cap lo) x h.x0:=rfl;unfold gA;rw[aB];unfold q0;simp only[hu,aj,YN B,h2,agT,Bool.and_self,cond_true,U.sf,aq,force_eq,h1,aI,Bool.not_false,Nat.mul_one];unfold U.set;simp only[aq,Eb,aBu,aI];rfl
theorem azO{t e s n k off l:Nat}{kd:IntKind}(hu:P.underlying t=some (.array n e))(aj:dN P e=some s)(aJ:l<=n):
 ∃r5,fK P t (.ptr k off) (some (.int kd (l:Int))) none=some (.aY k r5 (n-l) (some (n-l)) 0)/\(l<n->r5=off+l*s)/\(l=n->r5=off):=by
 have h0:hL (.int kd (l:Int))=some l:=rfl
 have h1:sliceB n n (some (.int kd (l:Int))) none=some (l,n):=by
  simp only[sliceB,h0]
  have:(Nat.ble n n&&Nat.ble l n)=true:=by simp[Nat.ble_eq_true_of_le aJ]
  simp only[this,cond_true]
 unfold fK;simp only[hu,aj,h1,pX,force_eq];by_cases h2:n-l=0
 ·refine⟨off,?_,λh=>by omega,λ_=>rfl⟩
  have:Nat.beq (n-l) 0=true:=by rw[h2];rfl
  simp only[this,cond_true]
 ·refine⟨off+l*s,?_,λ_=>rfl,λh=>by omega⟩
  have:Nat.beq (n-l) 0=false:=by
   cases ag:Nat.beq (n-l) 0 with
   |false=>rfl
   |true=>exact absurd (Nat.eq_of_beq_eq_true ag) h2
  simp only[this,cond_false]
end
theorem Bytes.frame{h h':U}{x:J}{l:List Nat}(B:Bytes h x l)(aj:∀bM ob len cap lo,x= .aY bM ob len cap lo->cW h h' bM):Bytes h' x l:=by
 refine⟨B.1,?_⟩;rcases B.2 with h1|⟨bM,ob,cap,lo,m,ao,hm,ae⟩
 ·exact .inl h1
 ·have e:=aj bM ob _ cap lo ao;exact .inr ⟨bM,ob,cap,lo,m,ao,by rw[e.mt];exact hm,λj aa=>by rw[e.cell];exact ae j aa⟩
section
open Go.ChangeShapes Go.WideShapes Go.ChangeAt Go.RowKit
section
variable{P:Program}{H:Type}{enc:TypeId×Value->H}{w:World}
theorem ac4{aH id off l c:Nat}(ag:id<aH)(ae:¬(l=0/\c=0)):lift aH (.slice (some ⟨id,off,none⟩) l c)= .aY id off l (some c) 0:=by
 have hT:Nat.blt id aH=true:=by rw[Nat.blt_eq];exact ag
 cases l with
 |zero=>cases c with
  |zero=>exact absurd ⟨rfl,rfl⟩ ae
  |succ c=>simp only[lift,hT,cond_true]
 |succ l=>simp only[lift,hT,cond_true]
theorem acq{id off:Nat}{x:Value}(h:w.cell? ⟨id,off,none⟩=some x):∃m,(hj w).mt id=some m:=by
 unfold World.cell? at h;split at h
 ·rename_i cs ty CV jW;exact⟨(yO w.heap.size cs ty).mt,by unfold U.mt;rw[DL];simp only at jW;rw[jW]⟩
 ·cases h
theorem X3{a:Addr}{x:Value}(h:w.cell? a=some x):a.block<w.heap.size:=by
 unfold World.cell? at h;split at h
 ·rename_i cs ty CV jW;exact(Array.getElem?_eq_some_iff.1 jW).1
 ·cases h
theorem xh(id off j:Nat):(Addr.add ⟨id,off,none⟩ j)=⟨id,off+j,none⟩:=by
 unfold Addr.add;by_cases e:j=0
 ·subst e;rfl
 ·rw[if_neg e]
theorem Mu{a:Addr}(h:(a.add 0).spot=none):a.spot=none:=by
 simpa[Addr.add] using h
def mn:J->Prop
 | .aY _ _ len (some c) _=>len<=c
 |_=>True
theorem ajA{t e fuel:Nat}{v:Value}{d:DataW H}{ps:List MemPlace}(aK:P.underlying t=some (.slice e))(he:P.underlying e=some (.int .u8))(ae:P.cellsOf e=1)
 (ak:DataW.trod enc P w 0 (λ_=>true) true fuel t [v]=some (d,ps)):
 ∃l:List Nat,Bytes (hj w) (lift w.heap.size v) l/\mn (lift w.heap.size v)/\uA w.heap.size v=lift w.heap.size v/\((d= .nil/\l=[])\/∃el sp,d= .slice el sp/\el.length=l.length):=by
 rcases open_ints aK he ae ak with⟨ey,ao⟩|⟨a,len,cap,zs,ey,_,aJ,hm,a1,ao,eB,an9⟩
 ·simp only[List.cons.injEq,and_true] at ey;subst ey;exact⟨[],⟨λc ae=>by simp at ae,.inl ⟨.inl rfl,rfl⟩⟩,trivial,rfl,.inl ⟨(Prod.mk.inj ao).1,rfl⟩⟩
 ·simp only[List.cons.injEq,and_true] at ey;subst ey;have a1:zs.length=cap:=by simpa using a1
  have aF:=(Prod.mk.inj ao).1;by_cases h0:len=0/\cap=0
  ·obtain⟨rfl,rfl⟩:=h0;exact⟨[],⟨λc ae=>by simp at ae,.inl ⟨.inr ⟨0,rfl⟩,rfl⟩⟩,trivial,rfl,.inr ⟨_,_,aF,by simp[lits]⟩⟩
  ·have aA:0<cap:=by omega
   obtain⟨id,off,spot⟩:=a;have aj:spot=none:=Mu (World.cell?_spot (eB 0 (by omega)));subst aj
   have s6:id<w.heap.size:=by
    have:=X3 (eB 0 (by omega))
    rw[xh] at this;exact this
   have ao:=ac4 (off:=off) s6 h0
   have acr:∀n∈zs,0<=n/\n<256:=λn aO=>by
    have:=an9 n aO
    simp only[Lit.wf,IntKind.min,IntKind.max,IntKind.signed,IntKind.bits] at this;simp at this;omega
   obtain⟨m,Px⟩:∃m,(hj w).mt id=some m:=acq (off:=off+0) (by rw[<- xh];exact eB 0 (by omega));refine⟨(zs.take len).map Int.toNat,⟨λc ae=>?_,.inr ⟨id,off,some cap,0,m,?_,Px,λj aa=>?_⟩⟩,?_,rfl,.inr ⟨_,_,aF,by simp[lits]⟩⟩
   ·simp only[List.mem_map] at ae;obtain⟨n,aO,rfl⟩:=ae
    have:=acr n (List.mem_of_mem_take aO)
    omega
   ·have hlen:((zs.take len).map Int.toNat).length=len:=by simp;omega
    rw[hlen,ao]
   ·have hh:j<zs.length:=by simp at aa;omega
    have h1:=eB j hh;rw[xh] at h1;rw[PO,h1];have bd:zs.getD j 0=zs[j]:=by simp[List.getD,hh]
    have aO:=acr zs[j] (List.getElem_mem hh);have nQ:j<len:=by simp at aa;omega
    have iT:((zs.take len).map Int.toNat).getD j 0=zs[j].toNat:=by simp[List.getD,hh,nQ]
    rw[bd,iT,Option.map_some];show some (J.int .u8 zs[j])=_;congr 2;omega
   ·rw[ao];exact aJ
end
end
def rowOf:J->Option Nat
 | .aY k _ _ _ _=>some k
 |_=>none
def jQ(h:U):Prop:=∀j,h.next<=j->h.aS.get j=none
theorem z6{h:U}(ak:jQ h)(k off:Nat)(ys:List J):jQ (h.set k off ys):=λj aa=>by
 rw[dW] at aa;cases aq:h.aS.get k with
 |none=>
  have:h.set k off ys=h:=by unfold U.set;rw[aq]
  rw[this];exact ak j aa
 |some o=>
  have ai:j≠k:=λe=>by
   rw[e] at aa;rw[ak k aa] at aq;cases aq
  rw[jb _ _ _ ai];exact ak j aa
theorem xG{h:U}(ak:jQ h)(o:bD):jQ (h.new o):=λj aa=>by
 rw[iG] at aa;rw[n3 h o (by omega)];exact ak j (by omega)
theorem alN(w:World):jQ (hj w):=λ_ aa=>Iu w aa
structure Mf (h:U) (k e sz len:Nat) (ys:List J):Prop where
 lt:k<h.next
 mt:∃m,h.mt k=some m/\m.ty=e/\len*sz=m.n/\m.loose=true/\m.esz=sz/\m.ro=false
 cs:∀j,j<len*sz->h.cell k j=ys[j]?
def hX(h:U)(e sz:Nat)(x:J)(len:Nat)(ys:List J):Prop:=ys.length=len*sz/\((x= .val (.slice none 0 0)/\len=0)\/∃k,x= .aY k 0 len none 0/\Mf h k e sz len ys)
theorem hX.nil(h:U)(e sz:Nat):hX h e sz (.val (.slice none 0 0)) 0 []:=⟨by simp,.inl ⟨rfl,rfl⟩⟩
theorem hX.frame{h h':U}{e sz len:Nat}{x:J}{ys:List J}(S:hX h e sz x len ys)(aO:h.next<=h'.next)(aj:∀k,rowOf x=some k->cW h h' k):hX h' e sz x len ys:=by
 refine⟨S.1,?_⟩;rcases S.2 with h1|⟨k,rfl,h2⟩
 ·exact .inl h1
 ·have az:=aj k rfl;obtain⟨m,hm,aI⟩:=h2.mt;exact .inr ⟨k,rfl,Nat.lt_of_lt_of_le h2.lt aO,⟨m,by rw[az.mt];exact hm,aI⟩,λj aa=>by rw[az.cell];exact h2.cs j aa⟩
theorem hX.kK{h:U}{e sz len:Nat}{x:J}{ys:List J}(S:hX h e sz x len ys){k:Nat}(ai:rowOf x=some k):k<h.next:=by
 rcases S.2 with⟨rfl,_⟩|⟨b1,rfl,h2⟩
 ·cases ai
 ·cases ai;exact h2.lt
section
variable{P:Program}{t u e sz b:Nat}{z:Value}{d:TypeDesc}{h:U}{x y:J}{n:Nat}{news:List J}
structure sk (P:Program) (t u e sz b:Nat):Prop where
 hu:P.underlying t=some (.slice e)
 aj:dN P e=some sz
 a1:∃z,hE P e=some z/\(c2 z).cells.length=sz
 ag:n8 P e=some b
 aF:∃d,P.underlying u=some d/\r3 d=true
 h1:1<=sz
theorem Lg(T:sk P t u e sz b)(he:kU h.x0 sz y=some (n,news))(gg:news.length=n*sz)(iW:eA news=true):
 gA P .append #[t,u] [x,y] h=ao (match x with
  | .val (.slice none a c)=>bif Nat.beq a 0&&Nat.beq c 0 then(bif Nat.beq n 0 then some (.val (.slice none 0 0),h.x0) else nz e sz b n news h.x0) else none
  | .aY k off len cap lo=>lF e sz b k off len cap lo n news h.x0
  | .kL k=>bif Nat.beq n 0 then some (.kL k,h.x0) else none
  |_=>none):=by
 obtain⟨hu,aj,⟨z,a1,iB⟩,ag,⟨d,aF,oD⟩,h1⟩:=T
 have aB:iq P .append #[t,u] [x,y] h.x0=oT P t x y h.x0:=by
  show(match P.underlying u with|some d=>bif r3 d then oT P t x y h.x0 else(bif u0 d then pS P t x y h.x0 else none)|none=>none)=_;simp only[aF,oD,cond_true]
 have aQ:(Nat.ble 1 sz&&(Nat.beq news.length (n*sz)&&(eA news&&Nat.beq (c2 z).cells.length sz)))=true:=by
  rw[Nat.ble_eq_true_of_le h1,gg,iB,iW,Nat.beq_refl,Nat.beq_refl];rfl
 unfold gA;rw[aB];unfold oT;simp only[hu,aj,a1,ag,he,aQ,cond_true];rfl
theorem Mx{eh:Nat}{cells:List J}(h1:eh<=140737488355328)(h2:eh*b<=140737488355328):ao (nz e sz b eh cells h.x0)=some (.aY h.next 0 eh none 0,h.new (yF e sz cells)):=by
 have:(Nat.ble eh 140737488355328&&Nat.ble (eh*b) 140737488355328)=true:=by rw[Nat.ble_eq_true_of_le h1,Nat.ble_eq_true_of_le h2];rfl
 unfold nz;simp only[this,cond_true,mL,force_eq];rfl
theorem azM{eh:Nat}{cells:List J}(aJ:cells.length=eh*sz):Mf (h.new (yF e sz cells)) h.next e sz eh cells:=
 ⟨by simp,⟨_,by rw[yI,if_pos rfl],rfl,aJ.symm,rfl,rfl,rfl⟩,λj aa=>by rw[lK,adh]⟩
def Ai(o:bD)(N off:Nat)(news:List J):bD:={o with ck:=0,n:=N,fq:=gS o.fq off news}
def U.grow(h:U)(k N off:Nat)(news:List J)(o:bD):U:=⟨h.aH,h.next+1,(h.aS.del k).put h.next (Ai o N off news)⟩
theorem ama(o:bD){N off i:Nat}(news:List J)(k3:off+news.length=N)(aq:off<=o.n)(hi:i<N):(Ai o N off news).get i=if i<off then o.get i else news[i-off]?:=by
 obtain⟨ck,ty,n,loose,esz,ro,mw,fq,sp⟩:=o;simp only at aq;simp only[Ai,bD.get];have ag:Nat.blt i N=true:=by rw[Nat.blt_eq];exact hi
 simp only[ag,cond_true];rw[xM];by_cases a8:i<off
 ·have jU:Nat.blt i n=true:=by rw[Nat.blt_eq];omega
  rw[if_neg (by omega),if_pos a8];simp only[jU,cond_true]
 ·have:i-off<news.length:=by omega
  rw[if_pos (by omega),if_neg a8,List.getElem?_eq_getElem this]
theorem aiK{k len:Nat}{ys:List J}(fk:ys.length=len*sz)(A:Mf h k e sz len ys)(gg:news.length=n*sz)
 (ae:len+n<=140737488355328)(sZ:(len+n)*b<=140737488355328):
 ∃bW h',ao (lF e sz b k 0 len none 0 n news h.x0)=some (bW,h')/\hX h' e sz bW (len+n) (ys++news)/\h.next<=h'.next/\h'.aH=h.aH/\
  (∀j,j<h.next->rowOf (.aY k 0 len none 0)≠some j->cW h h' j)/\(∀j,rowOf bW=some j->rowOf (.aY k 0 len none 0)=some j\/h.next<=j)/\(jQ h->jQ h'):=by
 have hlen:(ys++news).length=(len+n)*sz:=by rw[List.length_append,fk,gg,Nat.add_mul]
 obtain⟨m,hm,hC,e6,A0,wb,rZ⟩:=A.mt;have ab4:h.mt k=some m:=hm;unfold U.mt at hm;cases aq:h.aS.get k with
 |none=>simp[aq] at hm
 |some o=>
  simp only[aq,Option.some.injEq] at hm;subst hm;simp only[bD.mt] at hC e6 A0 wb rZ;have an8:h.wr k o.n:=⟨o.mt,ab4,rZ,rfl⟩;have eB:∀j,o.get j=h.cell k j:=λj=>by unfold U.cell;rw[aq]
  have a8:=A.lt
  have bR:(Nat.beq 0 0&&(Nat.beq 0 0&&(Nat.beq o.esz sz&&(o.loose&&(!o.ro&&Nat.beq o.ty e)))))=true:=by
   rw[wb,A0,rZ,hC,Nat.beq_refl,Nat.beq_refl,Nat.beq_refl];rfl
  have hmul:(len+n)*sz=len*sz+n*sz:=Nat.add_mul ..;simp only[lF,U.sf,aq,force_eq];have XI:=bR;simp only[show Nat.beq 0 0=true from rfl,Bool.true_and] at XI;simp only[show Nat.beq 0 0=true from rfl,Bool.true_and,XI,cond_true];by_cases xY:(len+n)*sz<=o.n
  ·have b2:Nat.ble ((len+n)*sz) o.n=true:=Nat.ble_eq_true_of_le xY;have gW:(Nat.ble (0+(len+n)*sz) o.n&&!o.ro)=true:=by rw[Nat.zero_add,b2,rZ];rfl
   simp only[b2,cond_true,pk,gW,Nat.zero_add];refine⟨_,h.set k (len*sz) news,?_,⟨hlen,.inr ⟨k,rfl,⟨by rw[dW];exact a8,⟨_,by rw[IS,if_pos rfl,ab4];rfl,hC,(by show(len+n)*sz=o.n;omega),A0,wb,rZ⟩,λj aa=>?_⟩⟩⟩,by rw[dW];exact Nat.le_refl _,Kx ..,λj _ aI=>jb h _ _ (λe=>aI (by rw[e];rfl)),(λj aa=> .inl aa),λak=>z6 ak _ _ _⟩
   ·unfold U.set;simp only[aq,Eb,rZ];rfl
   ·by_cases nQ:j<len*sz
    ·rw[eG (by omega),A.cs j nQ,List.getElem?_append_left (by rw[fk];exact nQ)]
    ·rw[ir an8 (by omega) (by omega) (by omega),List.getElem?_append_right (by rw[fk];omega),fk]
  ·have b2:Nat.ble ((len+n)*sz) o.n=false:=by
    cases ag:Nat.ble ((len+n)*sz) o.n with
    |false=>rfl
    |true=>exact absurd (Nat.le_of_ble_eq_true ag) xY
   have gW:(Nat.ble (len*sz) o.n&&(Nat.ble (len+n) 140737488355328&&Nat.ble ((len+n)*b) 140737488355328))=true:=by
    rw[Nat.ble_eq_true_of_le (Nat.le_of_eq e6),Nat.ble_eq_true_of_le ae,Nat.ble_eq_true_of_le sZ];rfl
   simp only[b2,cond_false,rm,gW,cond_true,force_eq]
   have bd:∀j,(U.grow h k ((len+n)*sz) (len*sz) news o).aS.get j=if j=h.next then some (Ai o ((len+n)*sz) (len*sz) news) else if j=k then none else h.aS.get j:=λj=>by
    show cz.get (cz.put (cz.del h.aS k) h.next _) j=_;rw[cz.kA];by_cases az:j=h.next
    ·rw[if_pos az,if_pos az]
    ·rw[if_neg az,if_neg az];exact cz.abd _ _ _
   refine⟨_,U.grow h k ((len+n)*sz) (len*sz) news o,rfl,⟨hlen,.inr ⟨h.next,rfl,⟨Nat.lt_succ_self _,⟨(Ai o ((len+n)*sz) (len*sz) news).mt,?_,hC,rfl,A0,wb,rZ⟩,λj aa=>?_⟩⟩⟩,Nat.le_succ _,rfl,λj aa aI=>?_,(λj aa=>by cases aa;exact .inr (Nat.le_refl _)),λak j aa=>?_⟩
   ·unfold U.mt;rw[bd,if_pos rfl]
   ·have:U.cell (U.grow h k ((len+n)*sz) (len*sz) news o) h.next j=(Ai o ((len+n)*sz) (len*sz) news).get j:=by unfold U.cell;rw[bd,if_pos rfl]
    rw[this,ama o news (by omega) (Nat.le_of_eq e6) aa];by_cases nQ:j<len*sz
    ·rw[if_pos nQ,eB,A.cs j nQ,List.getElem?_append_left (by rw[fk];exact nQ)]
    ·rw[if_neg nQ,List.getElem?_append_right (by rw[fk];omega),fk]
   ·show(U.grow h k ((len+n)*sz) (len*sz) news o).aS.get j=h.aS.get j;rw[bd,if_neg (by omega),if_neg (λe=>aI (by rw[e];rfl))]
   ·have aa:h.next+1<=j:=aa
    rw[bd,if_neg (by omega)];by_cases e:j=k
    ·rw[if_pos e]
    ·rw[if_neg e];exact ak j (by omega)
theorem aiQ{len:Nat}{ys:List J}(T:sk P t u e sz b)(S:hX h e sz x len ys)(he:kU h.x0 sz y=some (n,news))(gg:news.length=n*sz)(iW:eA news=true)
 (ae:len+n<=140737488355328)(sZ:(len+n)*b<=140737488355328):
 ∃bW h',gA P .append #[t,u] [x,y] h=some (bW,h')/\hX h' e sz bW (len+n) (ys++news)/\h.next<=h'.next/\h'.aH=h.aH/\
  (∀j,j<h.next->rowOf x≠some j->cW h h' j)/\(∀j,rowOf bW=some j->rowOf x=some j\/h.next<=j)/\(jQ h->jQ h'):=by
 have h1:=T.h1;rw[Lg T he gg iW];have hlen:(ys++news).length=(len+n)*sz:=by rw[List.length_append,S.1,gg,Nat.add_mul]
 rcases S.2 with⟨rfl,rfl⟩|⟨k,rfl,A⟩
 ·have fk:ys=[]:=by
   have:=S.1
   rw[Nat.zero_mul] at this;exact List.eq_nil_of_length_eq_zero this
  subst fk;have qb:(Nat.beq 0 0&&Nat.beq 0 0)=true:=rfl;simp only[qb,cond_true,Nat.zero_add,List.nil_append] at *;by_cases aO:n=0
  ·subst aO
   have:news=[]:=List.eq_nil_of_length_eq_zero (by rw[gg,Nat.zero_mul])
   subst this;exact⟨_,h,rfl,hX.nil h e sz,Nat.le_refl _,rfl,λ_ _ _=>rfl,(λj aa=>by cases aa),λak=>ak⟩
  ·have bR:Nat.beq n 0=false:=by
    cases ag:Nat.beq n 0 with
    |false=>rfl
    |true=>exact absurd (Nat.eq_of_beq_eq_true ag) aO
   simp only[bR,cond_false];rw[Mx ae sZ];exact⟨_,_,rfl,⟨gg,.inr ⟨_,rfl,azM gg⟩⟩,by simp,rfl,λj aa _=>n3 h _ (by omega),(λj aa=>by cases aa;exact .inr (Nat.le_refl _)),λak=>xG ak _⟩
 ·exact aiK S.1 A gg ae sZ
end
end Go.Xe
namespace Go.Proofs.YtomialandfplkaaDoor.Eva
open Go.Xe
def c3{α:Type}(f:Nat->α)(i:Nat)(v:α):Nat->α:=λj=>if j=i then v else f j
theorem kN{α:Type}(f:Nat->α)(i:Nat)(v:α):c3 f i v i=v:=if_pos rfl
theorem ig{α:Type}(f:Nat->α){i j:Nat}(v:α)(h:j≠i):c3 f i v j=f j:=if_neg h
structure aN (h h':U) (S:Nat->Prop):Prop where
 aH:h'.aH=h.aH
 next:h.next<=h'.next
 same:∀j,j<h.next->¬S j->cW h h' j
 dx:jQ h->jQ h'
theorem aN.refl(h:U)(S:Nat->Prop):aN h h S:=⟨rfl,Nat.le_refl _,λ_ _ _=>rfl,λak=>ak⟩
theorem aN.trans{h h' fh:U}{S:Nat->Prop}(a:aN h h' S)(b:aN h' fh S):aN h fh S:=
 ⟨b.aH.trans a.aH,Nat.le_trans a.next b.next,λj aa aj=>(b.same j (Nat.lt_of_lt_of_le aa a.next) aj).trans (a.same j aa aj),λak=>b.dx (a.dx ak)⟩
theorem aN.eb{h h':U}{S e4:Nat->Prop}(a:aN h h' S)(aj:∀j,S j->e4 j):aN h h' e4:=⟨a.aH,a.next,λj aa aO=>a.same j aa (λe=>aO (aj j e)),a.dx⟩
theorem fO{h:U}{k off:Nat}{ys:List J}{S:Nat->Prop}(ai:S k):aN h (h.set k off ys) S:=
 ⟨Kx ..,Nat.le_of_eq (dW ..).symm,λj _ aj=>jb h off ys (λe=>aj (e▸ai)),λak=>z6 ak _ _ _⟩
theorem ot(h:U)(o:bD)(S:Nat->Prop):aN h (h.new o) S:=⟨rfl,Nat.le_succ _,λj aa _=>n3 h o (by omega),λak=>xG ak o⟩
section
variable{lf m:Nat}{h:U}{k cV n:Nat}{wd b:Nat->Nat}
theorem ee.af7(S:ee h k cV n wd b){w v:Nat}(hw:w<64)(hv:v<2 ^ 64)(aq:∀c,c<64->n<=64*w+c->v.testBit c=false):ee (h.set k (1+w) [.int .u64 (v:Int)]) k cV n (c3 wd w v) b:=by
 have ag:1+w+[J.int .u64 (v:Int)].length<=66:=by simp;omega
 refine⟨S.cI,S.cF,?_,λi hi=>?_,λi=>?_,λi c hi ae aO=>?_,?_,e1 S.q4,e1 S.uR,λj aa=>?_,S.blt,S.ne,by rw[dW];exact S.wa,by rw[dW];exact S.v8⟩
 ·rw[eG (by omega)];exact S.ec
 ·by_cases e:i=w
  ·subst e;rw[ir S.q4 ag (by omega) (by simp),kN];simp
  ·rw[eG (by simp;omega),ig _ _ e];exact S.tZ i hi
 ·by_cases e:i=w
  ·subst e;rw[kN];exact hv
  ·rw[ig _ _ e];exact S.iI i
 ·by_cases e:i=w
  ·subst e;rw[kN];exact aq c ae aO
  ·rw[ig _ _ e];exact S.out i c hi ae aO
 ·obtain⟨cap,e⟩:=S.cs;exact⟨cap,by rw[eG (by simp;omega)];exact e⟩
 ·rw[eG (.inl (λe=>S.ne e.symm))];exact S.xo j aa
theorem adL{wd:Nat->Nat}{i v j:Nat}:bU (c3 wd (i/64) v) j=if j/64=i/64 then v.testBit (j%64) else bU wd j:=by
 unfold bU c3;by_cases e:j/64=i/64
 ·rw[if_pos e,if_pos e]
 ·rw[if_neg e,if_neg e]
def sH(w c:Nat):Nat:=w&&& (2 ^ 64-1-2 ^ c)
theorem Ya{w c d:Nat}(hw:w<2 ^ 64)(ae:c<64):(sH w c).testBit d=(w.testBit d&&decide (d≠c)):=by
 have h2:2 ^ c<2 ^ 64:=Nat.pow_lt_pow_right (by omega) ae;unfold sH;rw[Nat.testBit_and,KM h2,Nat.testBit_two_pow];by_cases aF:d<64
 ·by_cases e:d=c
  ·subst e;simp
  ·have:¬c=d:=λh=>e h.symm
   simp[aF,e,this]
 ·have:w.testBit d=false:=Nat.testBit_lt_two_pow (Nat.lt_of_lt_of_le hw (Nat.pow_le_pow_right (by omega) (by omega)))
  simp[this]
theorem ajV{w c:Nat}(hw:w<2 ^ 64):sH w c<2 ^ 64:=Nat.lt_of_le_of_lt Nat.and_le_left hw
def BT(C:ad):Prop:=∀h k cV n wd b i,ee h k cV n wd b-> -9223372036854775808<=i->i<9223372036854775808->
 (gv n wd i=false->C (.fn 23) [.ptr k 0,I i] h=some (.ret (I 22),h))/\
 (gv n wd i=true->∃h',C (.fn 23) [.ptr k 0,I i] h=some (.ret (I 0),h')/\ee h' k cV n (c3 wd (i.toNat/64) (sH (wd (i.toNat/64)) (i.toNat%64))) b/\aN h h' (· =k))
theorem alL{C:ad}{lf:Nat}(hm:sq C)(hi:w5 C)(S:ee h k cV n wd b){i:Int}(cd: -9223372036854775808<=i)(c1:i<9223372036854775808):
 (gv n wd i=false->CG C lf (.ptr k 0) (I i) h=some (.ret (I 22),h))/\
 (gv n wd i=true->∃h',CG C lf (.ptr k 0) (I i) h=some (.ret (I 0),h')/\ee h' k cV n (c3 wd (i.toNat/64) (sH (wd (i.toNat/64)) (i.toNat%64))) b/\aN h h' (· =k)):=by
 have h2:=S.cF;unfold CG SA NA;simp only[aE,hm _ _ _ _ _ _ S,hi _ _ _ _ _ _ _ S cd c1,Bool.not_true];refine⟨λhu=>?_,λhu=>?_⟩
 ·simp only[hu,Bool.not_false,aE]
 ·have gK:=hu;simp only[gv,Bool.and_eq_true,decide_eq_true_eq] at gK;obtain⟨h3,aU,_⟩:=gK;have bA:0<=i/64:=by omega
  have bC:i/64<64:=by omega
  have er:IntKind.i64.wrap (i.tdiv 64)=i/64:=by
   rw[Int.tdiv_eq_ediv_of_nonneg h3];exact wrap_i64 (by omega) (by omega)
  have hz:i.tmod 64=((i.toNat%64:Nat):Int):=by
   rw[Int.tmod_eq_emod_of_nonneg h3];omega
  have oB:(i/64).toNat=i.toNat/64:=by omega
  have hw:i.toNat/64<64:=by omega
  have oA:=S.tZ (i.toNat/64) hw;have k0:=S.iI (i.toNat/64);have ae:i.toNat%64<64:=by omega
  have b3:=lT (n:=64) (s:=1) (k:=k) (off:=1) (kd:= .i64) bA bC;rw[oB,Nat.mul_one] at b3;have yk:=XP (P:=ax) (t:=55) (k:= .i64) ae;have aA:2 ^ (i.toNat%64)<2 ^ 64:=Nat.pow_lt_pow_right (by omega) ae;have H6:=ajb (P:=ax) (t:=55) k0 aA;have amQ:wd (i.toNat/64)&&& (2 ^ 64-1-2 ^ (i.toNat%64))=sH (wd (i.toNat/64)) (i.toNat%64):=rfl;rw[amQ] at H6;have dk:=jt (n:=1) (off:=1+i.toNat/64) (y:= .int .u64 (sH (wd (i.toNat/64)) (i.toNat%64):Int)) S.q4 rfl (by omega) rfl;refine⟨_,?_,S.af7 hw (ajV k0) (λc fi aO=>?_),fO rfl⟩
  ·simp only[hu,Bool.not_true,aE,lJ (show(64:Int)≠0 by omega),hQ (show(64:Int)≠0 by omega),er,hz,b3,oA,yk,H6,dk];rfl
  ·rw[Ya k0 ae,S.out _ c hw fi aO,Bool.false_and]
end
theorem aku{x c:Nat}(ao:x<2 ^ 64)(h1:x.testBit c=true)(h0:∀d,d<c->x.testBit d=false):Lib.ctz 64 x=c:=by
 have aoa:0<x:=by
  apply Nat.pos_of_ne_zero;intro e;rw[e,Nat.zero_testBit] at h1;cases h1
 obtain⟨m,hm,a8⟩:=Lib.ctzFrom_spec 64 x aoa ao;have e:Lib.ctz 64 x=Lib.ctzFrom 64 x:=by simp[Lib.ctz];omega
 rw[e];generalize Lib.ctzFrom 64 x=z at hm a8⊢
 have a1:x.testBit z=true:=by
  rw[hm,Nat.testBit_two_pow_mul];simp
 have ag:∀d,d<z->x.testBit d=false:=by
  intro d aF;rw[hm,Nat.testBit_two_pow_mul];simp;omega
 rcases Nat.lt_trichotomy z c with h|h|h
 ·rw[h0 z h] at a1;cases a1
 ·exact h
 ·rw[ag c h] at h1;cases h1
theorem ald{x:Nat}(ao:x<2 ^ 64)(h:∀c,c<64->x.testBit c=true):x=2 ^ 64-1:=by
 apply Nat.eq_of_testBit_eq;intro c;rw[Nat.testBit_two_pow_sub_one];by_cases ae:c<64
 ·simp[h c ae,ae]
 ·have:x.testBit c=false:=Nat.testBit_lt_two_pow (Nat.lt_of_lt_of_le ao (Nat.pow_le_pow_right (by omega) (by omega)))
  simp[this,ae]
def qX(w c:Nat):Nat:=w|||2 ^ c
theorem aeb{w c d:Nat}:(qX w c).testBit d=(w.testBit d||decide (d=c)):=by
 unfold qX;rw[Nat.testBit_or,Nat.testBit_two_pow];by_cases e:d=c
 ·subst e;simp
 ·have:¬c=d:=λh=>e h.symm
  simp[e,this]
theorem aec{w c:Nat}(hw:w<2 ^ 64)(ae:c<64):qX w c<2 ^ 64:=Nat.or_lt_two_pow hw (Nat.pow_lt_pow_right (by omega) ae)
section
variable{lf m:Nat}{h:U}{k cV n:Nat}{wd b:Nat->Nat}
def fW(b:Nat->Nat)(i:Nat):Nat->Nat:=λj=>if 64*i<=j/\j<64*i+64 then 0 else b j
theorem ee.aC1(S:ee h k cV n wd b){i:Nat}(hi:i<n):ee (h.set cV (i*64) (List.replicate 64 (.int .u8 0))) k cV n wd (fW b i):=by
 have ag:i*64+(List.replicate 64 (J.int .u8 0)).length<=n*64:=by simp;omega
 refine⟨S.cI,S.cF,?_,λi hi=>?_,S.iI,S.out,?_,e1 S.q4,e1 S.uR,λj aa=>?_,λj=>?_,S.ne,by rw[dW];exact S.wa,by rw[dW];exact S.v8⟩
 ·rw[eG (.inl S.ne)];exact S.ec
 ·rw[eG (.inl S.ne)];exact S.tZ i hi
 ·obtain⟨cap,e⟩:=S.cs;exact⟨cap,by rw[eG (.inl S.ne)];exact e⟩
 ·unfold fW;by_cases e:64*i<=j/\j<64*i+64
  ·rw[if_pos e,ir S.uR ag (by omega) (by rw[List.length_replicate];omega)];rw[List.getElem?_replicate,if_pos (by omega)];rfl
  ·have aw:j<i*64\/i*64+(List.replicate 64 (J.int .u8 0)).length<=j:=by rw[List.length_replicate];omega
   rw[if_neg e,eG (.inr aw)];exact S.xo j aa
 ·unfold fW;split
  ·omega
  ·exact S.blt j
def zF(C:ad):Prop:=∀h (x:Nat),x<2 ^ 64->hg h->C (.fn 64) [.int .u64 (x:Int)] h=some (.ret (I (Lib.ctz 64 x:Nat)),h)
def BM(C:ad):Prop:=∀h k cV n wd b,ee h k cV n wd b->hg h->
 ((∀j,j<n->bU wd j=true)->C (.fn 17) [.ptr k 0] h=some (.ret (.bo [I 0,I 28]),h))/\
 (∀i,i<n->bU wd i=false->(∀j,j<i->bU wd j=true)->∃h',C (.fn 17) [.ptr k 0] h=some (.ret (.bo [I (i:Int),I 0]),h')/\
   ee h' k cV n (c3 wd (i/64) (qX (wd (i/64)) (i%64))) (fW b i)/\aN h h' (λj=>j=k\/j=cV))
theorem aiy{C:ad}{lf:Nat}(aK:zF C)(m9:hg h)(S:ee h k cV n wd b)(aG r:a0)(aB:cq){w:Nat}(hw:w<64)
 (bd:wd w=2 ^ 64-1\/n<=w*64+Lib.ctz 64 (2 ^ 64-1-wd w)):
 wu C lf aG r aB (some (.ptr k 0)) (some (I (w:Int))) h=aG (some (.ptr k 0)) (some (I ((w+1:Nat):Int))) h:=by
 have h2:=S.cF;have oA:=S.tZ w hw;have k0:=S.iI w;have b3:=lT (n:=64) (s:=1) (k:=k) (off:=1) (kd:= .i64) (i:=(w:Int)) (by omega) (by omega);rw[Int.toNat_natCast,Nat.mul_one] at b3;have rL:=adF k0;have ao:2 ^ 64-1-wd w<2 ^ 64:=by omega
 have It:=aK h _ ao m9
 have aDq:Lib.ctz 64 (2 ^ 64-1-wd w)<=64:=by
  by_cases h0:2 ^ 64-1-wd w=0
  ·simp[Lib.ctz,h0]
  ·exact Nat.le_of_lt (Lib.lowest_bit 64 _ h0 ao).2
 generalize a1:Lib.ctz 64 (2 ^ 64-1-wd w)=z at *;generalize bb:2 ^ 64-1-wd w=y at *;have a8:decide ((w:Int)<64)=true:=bw (by omega);have hmul:IntKind.i64.wrap ((w:Int)*64)=((w*64:Nat):Int):=cH (by omega);have jl:IntKind.i64.wrap (((w*64:Nat):Int)+(z:Int))=((w*64+z:Nat):Int):=cH (by omega);have dy:IntKind.i64.wrap ((w:Int)+1)=((w+1:Nat):Int):=cH (by omega);unfold wu;simp only[aE,a8,hmul,b3,oA,rL,It,jl];by_cases Py:wd w=2 ^ 64-1
 ·have aF:decide ((wd w:Int)=18446744073709551615)=true:=bw (by omega);simp only[aF,aE,dy]
 ·have aF:decide ((wd w:Int)=18446744073709551615)=false:=bq (by omega)
  have Pm:n<=w*64+z:=by
   rcases bd with bd|bd
   ·exact absurd bd Py
   ·exact bd
  have oE:decide ((n:Int)<=((w*64+z:Nat):Int))=true:=bw (by omega);simp only[aF,aE,S.ec,oE,dy]
theorem aiw{C:ad}{lf:Nat}(aK:zF C)(m9:hg h)(S:ee h k cV n wd b)(aG r:a0)(aB:cq){w:Nat}(hw:w<64){z:Nat}
 (a1:Lib.ctz 64 (2 ^ 64-1-wd w)=z)(vW:z<64)(Da:(wd w).testBit z=false)(aO:w*64+z<n):
 ∃h',wu C lf aG r aB (some (.ptr k 0)) (some (I (w:Int))) h=r (some (I ((w*64+z:Nat):Int))) (some (I 0)) h'/\
  ee h' k cV n (c3 wd w (qX (wd w) z)) (fW b (w*64+z))/\aN h h' (λj=>j=k\/j=cV):=by
 have h2:=S.cF;have oA:=S.tZ w hw;have k0:=S.iI w;have b3:=lT (n:=64) (s:=1) (k:=k) (off:=1) (kd:= .i64) (i:=(w:Int)) (by omega) (by omega);rw[Int.toNat_natCast,Nat.mul_one] at b3;have rL:=adF k0;have ao:2 ^ 64-1-wd w<2 ^ 64:=by omega
 have It:=aK h _ ao m9;rw[a1] at It;have a8:decide ((w:Int)<64)=true:=bw (by omega);have hmul:IntKind.i64.wrap ((w:Int)*64)=((w*64:Nat):Int):=cH (by omega);have jl:IntKind.i64.wrap (((w*64:Nat):Int)+(z:Int))=((w*64+z:Nat):Int):=cH (by omega)
 have bY:wd w≠2 ^ 64-1:=λe=>by
  rw[e,Nat.testBit_two_pow_sub_one,bw vW] at Da;cases Da
 have aF:decide ((wd w:Int)=18446744073709551615)=false:=bq (by omega);have oE:decide ((n:Int)<=((w*64+z:Nat):Int))=false:=bq (by omega)
 have anP:(((w*64+z:Nat):Int)).tmod 64=(z:Int):=by
  rw[Int.tmod_eq_emod_of_nonneg (by omega)];omega
 have yk:=XP (P:=ax) (t:=55) (k:= .i64) vW;have Aw:=ajg (P:=ax) (t:=55) k0 (show 2 ^ z<2 ^ 64 from Nat.pow_lt_pow_right (by omega) vW);have iX:wd w|||2 ^ z=qX (wd w) z:=rfl
 rw[iX] at Aw;have dk:=jt (n:=1) (off:=1+w) (y:= .int .u64 (qX (wd w) z:Int)) S.q4 rfl (by omega) rfl
 have jh:=S.af7 hw (aec k0 vW) (λc ae Dw=>by
  have:c≠z:=by omega
  rw[aeb,S.out w c hw ae Dw];simp[this])
 have oC:ib ax 110 [] []=some (.agg (List.replicate 64 (.int .u8 0))):=by kernel_rfl
 obtain⟨cap,ey⟩:=jh.cs;have vM:=gL (s:=64) (k:=cV) (off:=0) (len:=n) (lo:=0) (cap:=cap) (kd:= .i64) (i:=((w*64+z:Nat):Int)) (by omega) (by omega);rw[Int.toNat_natCast,Nat.zero_add] at vM;have PG:=jt (n:=64) (off:=(w*64+z)*64) (y:= .agg (List.replicate 64 (.int .u8 0))) jh.uR rfl (by omega) rfl;refine⟨_,?_,jh.aC1 aO,(fO (.inl rfl)).trans (fO (.inr rfl))⟩;unfold wu;simp only[aE,a8,hmul,b3,oA,rL,It,jl,aF,S.ec,oE,hQ (show(64:Int)≠0 by omega),anP,yk,Aw,dk];have az:(J.int .u64 (qX (wd w) z:Int)).cells=[.int .u64 (qX (wd w) z:Int)]:=rfl;have aw:(J.agg (List.replicate 64 (.int .u8 0))).cells=List.replicate 64 (.int .u8 0):=rfl;rw[az];simp only[aE,ey,oC,vM,PG,aw]
theorem aix{C:ad}{lf:Nat}(aK:zF C)(m9:hg h)(S:ee h k cV n wd b)(r:a0)(aB:cq):∀(d:Nat) (w:Nat),w+d=64->∀f,d<f->
 ((∀j,j<n->bU wd j=true)->bp (rU C lf r aB) f (some (.ptr k 0),some (I (w:Int))) h=aB h)/\
 (∀i,i<n->w*64<=i->bU wd i=false->(∀j,j<i->bU wd j=true)->∃h',bp (rU C lf r aB) f (some (.ptr k 0),some (I (w:Int))) h=r (some (I (i:Int))) (some (I 0)) h'/\
   ee h' k cV n (c3 wd (i/64) (qX (wd (i/64)) (i%64))) (fW b i)/\aN h h' (λj=>j=k\/j=cV)):=by
 intro d
 induction d with
 |zero=>
  intro w hw f ak;obtain⟨f,rfl⟩:=dE f (by omega);have h2:=S.cF;refine⟨λ_=>?_,λi hi an5=>by omega⟩;rw[dh];unfold rU wu;have a8:decide ((w:Int)<64)=false:=bq (by omega);simp only[aE,a8]
 |succ d ba=>
  intro w hw f ak;obtain⟨f,rfl⟩:=dE f (by omega);have h2:=S.cF;have k0:=S.iI w;have ao:2 ^ 64-1-wd w<2 ^ 64:=by omega
  have Iv:w<64:=by omega
  obtain⟨DR,DS⟩:=ba (w+1) (by omega) f (by omega)
  have step:(wd w=2 ^ 64-1\/n<=w*64+Lib.ctz 64 (2 ^ 64-1-wd w))->bp (rU C lf r aB) (f+1) (some (.ptr k 0),some (I (w:Int))) h=bp (rU C lf r aB) f (some (.ptr k 0),some (I ((w+1:Nat):Int))) h:=by
   intro bd;rw[dh];show wu C lf (λx0 x9 h=>bp (rU C lf r aB) f (x0,x9) h) r aB (some (.ptr k 0)) (some (I (w:Int))) h=_;rw[aiy aK m9 S _ r aB Iv bd]
  have IZ:∀c,c<64->(wd w).testBit c=bU wd (w*64+c):=λc ae=>by
   unfold bU;rw[show(w*64+c)/64=w by omega,show(w*64+c)%64=c by omega]
  refine⟨λgq=>?_,λi hi an5 jH eW=>?_⟩
  ·rw[step ?_];exact DR gq;by_cases Py:wd w=2 ^ 64-1
   ·exact .inl Py
   ·right
    apply Nat.le_of_not_lt;intro a8;have h0:2 ^ 64-1-wd w≠0:=by omega
    have ae:=(Lib.lowest_bit 64 _ h0 ao)
    have Da:(2 ^ 64-1-wd w).testBit (Lib.ctz 64 (2 ^ 64-1-wd w))=true:=by
     have h3:((2 ^ 64-1-wd w)&&& (2 ^ 64-(2 ^ 64-1-wd w))).testBit (Lib.ctz 64 (2 ^ 64-1-wd w))=true:=by
      rw[ae.1,Nat.testBit_two_pow_self]
     rw[Nat.testBit_and,Bool.and_eq_true] at h3;exact h3.1
    rw[KM k0,bw ae.2,Bool.true_and,IZ _ ae.2,gq _ a8] at Da;cases Da
  ·by_cases anh:i/64=w
   ·have vW:i%64<64:=by omega
    have abN:w*64+i%64=i:=by omega
    have H7:(wd w).testBit (i%64)=false:=by rw[IZ _ vW,abN];exact jH
    have a1:Lib.ctz 64 (2 ^ 64-1-wd w)=i%64:=by
     refine aku ao ?_ λd aF=>?_
     ·rw[KM k0,H7,bw vW];rfl
     ·rw[KM k0,IZ d (by omega),eW _ (by omega)];simp
    obtain⟨h',az,aw,ch⟩:=aiw (lf:=lf) aK m9 S (λx0 x9 h=>bp (rU C lf r aB) f (x0,x9) h) r aB Iv a1 vW H7 (by omega);rw[abN] at az aw;refine⟨h',?_,?_,ch⟩
    ·rw[dh];exact az
    ·rw[anh];exact aw
   ·rw[step ?_]
    ·exact DS i hi (by omega) jH eW
    ·left
     refine ald k0 λc ae=>?_
     rw[IZ c ae];exact eW _ (by omega)
theorem aiz{C:ad}{lf:Nat}(gf:65<=lf)(hm:sq C)(aK:zF C)(S:ee h k cV n wd b)(m9:hg h):
 ((∀j,j<n->bU wd j=true)->z9 C lf (.ptr k 0) h=some (.ret (.bo [I 0,I 28]),h))/\
 (∀i,i<n->bU wd i=false->(∀j,j<i->bU wd j=true)->∃h',z9 C lf (.ptr k 0) h=some (.ret (.bo [I (i:Int),I 0]),h')/\
   ee h' k cV n (c3 wd (i/64) (qX (wd (i/64)) (i%64))) (fW b i)/\aN h h' (λj=>j=k\/j=cV)):=by
 obtain⟨cd,c1⟩:=aix (lf:=lf) aK m9 S z2 (λh=>Js C lf z2 h) 64 0 rfl lf (by omega)
 have vJ:z9 C lf (.ptr k 0) h=bp (rU C lf z2 (λh=>Js C lf z2 h)) lf (some (.ptr k 0),some (I ((0:Nat):Int))) h:=by
  unfold z9 Sf Se Sd Sc;simp only[aE,hm _ _ _ _ _ _ S,Bool.not_true];rfl
 rw[vJ];refine⟨λgq=>?_,λi hi jH eW=>?_⟩
 ·rw[cd gq];rfl
 ·obtain⟨h',az,aw,ch⟩:=c1 i hi (by omega) jH eW;exact⟨h',by rw[az];rfl,aw,ch⟩
end
section
variable{lf m:Nat}{h:U}{k cV n:Nat}{wd b:Nat->Nat}
theorem ee.frame(S:ee h k cV n wd b){h':U}(aO:h.next<=h'.next)(ai:cW h h' k)(aF:cW h h' cV):ee h' k cV n wd b:=
 ⟨S.cI,S.cF,by rw[ai.cell];exact S.ec,λi hi=>by rw[ai.cell];exact S.tZ i hi,S.iI,S.out,(let ⟨cap,e⟩:=S.cs;⟨cap,by rw[ai.cell];exact e⟩),
   let ⟨q,a,c⟩:=S.q4;⟨q,by rw[ai.mt];exact a,c⟩,let ⟨q,a,c⟩:=S.uR;⟨q,by rw[aF.mt];exact a,c⟩,λj aa=>by rw[aF.cell];exact S.xo j aa,S.blt,S.ne,Nat.lt_of_lt_of_le S.wa aO,Nat.lt_of_lt_of_le S.v8 aO⟩
theorem ee.iP(S:ee h k cV n wd b){h':U}{Q:Nat->Prop}(F:aN h h' Q)(h1:¬Q k)(h2:¬Q cV):ee h' k cV n wd b:=S.frame F.next (F.same _ S.wa h1) (F.same _ S.v8 h2)
theorem aN.new(h:U)(o:bD)(S:Nat->Prop):aN h (h.new o) S:=ot h o S
def LP(C:ad):Prop:=∀h (n:Int), -9223372036854775808<=n->n<9223372036854775808->
 ((n<1\/4096<n)->C (.fn 16) [I n] h=some (.ret (.bo [.val (.pointer none),I 22]),h))/\
 (1<=n->n<=4096->∃h',C (.fn 16) [I n] h=some (.ret (.bo [.ptr (h.next+1) 0,I 0]),h')/\h'.next=h.next+2/\
   ee h' (h.next+1) h.next n.toNat (λ_=>0) (λ_=>0)/\aN h h' (λ_=>False))
theorem apE{C:ad}{lf:Nat}{n:Int}:
 ((n<1\/4096<n)->CD C lf (I n) h=some (.ret (.bo [.val (.pointer none),I 22]),h))/\
 (1<=n->n<=4096->∃h',CD C lf (I n) h=some (.ret (.bo [.ptr (h.next+1) 0,I 0]),h')/\h'.next=h.next+2/\
   ee h' (h.next+1) h.next n.toNat (λ_=>0) (λ_=>0)/\aN h h' (λ_=>False)):=by
 unfold CD Sb Nx;simp only[aE];refine⟨λaO=>?_,λh1 h2=>?_⟩
 ·by_cases h1:n<1
  ·simp only[bw h1,aE]
  ·have h2:4096<n:=by omega
   simp only[bq h1,bw h2,aE]
 ·have d1:decide (n<1)=false:=bq (by omega);have d2:decide ((4096:Int)<n)=false:=bq (by omega);obtain⟨N,rfl⟩:∃N:Nat,n=N:=⟨n.toNat,by omega⟩;have a1:hE ax 110=some (.agg (Array.replicate 64 (.int .u8 0))):=by kernel_rfl
  have ae:(c2 (.agg (Array.replicate 64 (.int .u8 0)))).cells=List.replicate 64 (.int .u8 0):=rfl
  have kF:=wT (P:=ax) (t:=57) (e:=110) (s:=64) (b:=64) (k1:= .i64) (k2:= .i64) (l:=N) (c:=N) (h:=h)
   Tryd.underlying57 (by kernel_rfl) a1 (by kernel_rfl) (Nat.le_refl _) (by omega) (by omega) (by rw[ae];rfl) (by omega)
  rw[ae] at kF;have oC:ib ax 59 [0,2] [I (N:Int),.aY h.next 0 N (some N) 0]=some (.agg (I (N:Int)::(List.replicate 64 (.int .u64 0)++[.aY h.next 0 N (some N) 0]))):=by kernel_rfl
  have gH:=wS (e:=59) (x:= .agg (I (N:Int)::(List.replicate 64 (.int .u64 0)++[.aY h.next 0 N (some N) 0]))) (h:=h.new (gZ 110 (N*64) (List.replicate 64 (.int .u8 0)))) rfl;simp only[d1,d2,aE,kF,oC,gH,iG];refine⟨_,rfl,rfl,?_,(aN.new _ _ _).trans (aN.new _ _ _)⟩;rw[Int.toNat_natCast]
  have eB:∀i,(((h.new (gZ 110 (N*64) (List.replicate 64 (.int .u8 0)))).new (dR 59 (J.agg (I (N:Int)::(List.replicate 64 (.int .u64 0)++[.aY h.next 0 N (some N) 0]))).cells)).cell (h.next+1) i)=
   (J.int .i64 (N:Int)::(List.replicate 64 (.int .u64 0)++[.aY h.next 0 N (some N) 0]))[i]?:=λi=>by
   rw[show h.next+1=(h.new (gZ 110 (N*64) (List.replicate 64 (.int .u8 0)))).next from rfl,lK,oR];rfl
  refine⟨by omega,by omega,?_,λi hi=>?_,λi=>by omega,λi c _ _ _=>Nat.zero_testBit c,?_,?_,?_,λj aa=>?_,λj=>by omega,by omega,by simp,by simp;omega⟩
  ·rw[eB];rfl
  ·rw[eB,show 1+i=i+1 by omega,List.getElem?_cons_succ,List.getElem?_append_left (by simp;omega),List.getElem?_replicate,if_pos hi];rfl
  ·exact⟨some N,by rw[eB];rfl⟩
  ·exact mT (h:=h.new (gZ 110 (N*64) (List.replicate 64 (.int .u8 0)))) rfl
  ·exact Fs (mT (h:=h) rfl) (by simp)
  ·rw[GH (by simp),lK,wk _ _ aa,List.length_replicate,List.getElem?_replicate,if_pos (by omega)];rfl
def sF(b:Nat->Nat)(i:Nat):List J:=(List.range 64).map λj=> .int .u8 (b (i*64+j):Int)
def Gg(C:ad):Prop:=∀h k cV n wd b i,ee h k cV n wd b-> -9223372036854775808<=i->i<9223372036854775808->
 (gv n wd i=false->C (.fn 21) [.ptr k 0,I i] h=some (.ret (.bo [.val (.slice none 0 0),I 22]),h))/\
 (gv n wd i=true->∃h',C (.fn 21) [.ptr k 0,I i] h=some (.ret (.bo [.aY h.next 0 64 (some 64) 0,I 0]),h')/\h'.next=h.next+1/\
   h'.wr h.next 64/\(∀j,j<64->h'.cell h.next j=some (.int .u8 (b (i.toNat*64+j):Int)))/\aN h h' (λ_=>False))
theorem ayk{C:ad}{lf:Nat}(hm:sq C)(hi:w5 C)(S:ee h k cV n wd b){i:Int}(cd: -9223372036854775808<=i)(c1:i<9223372036854775808):
 (gv n wd i=false->CF C lf (.ptr k 0) (I i) h=some (.ret (.bo [.val (.slice none 0 0),I 22]),h))/\
 (gv n wd i=true->∃h',CF C lf (.ptr k 0) (I i) h=some (.ret (.bo [.aY h.next 0 64 (some 64) 0,I 0]),h')/\h'.next=h.next+1/\
   h'.wr h.next 64/\(∀j,j<64->h'.cell h.next j=some (.int .u8 (b (i.toNat*64+j):Int)))/\aN h h' (λ_=>False)):=by
 unfold CF Sz Nz;simp only[aE,hm _ _ _ _ _ _ S,hi _ _ _ _ _ _ _ S cd c1,Bool.not_true];refine⟨λhu=>?_,λhu=>?_⟩
 ·simp only[hu,Bool.not_false,aE]
 ·have gK:=hu;simp only[gv,Bool.and_eq_true,decide_eq_true_eq] at gK;obtain⟨h3,aU,_⟩:=gK;obtain⟨cZ,rfl⟩:∃cZ:Nat,i=cZ:=⟨i.toNat,by omega⟩;obtain⟨cap,amT⟩:=S.cs;have vM:=gL (s:=64) (k:=cV) (off:=0) (len:=n) (lo:=0) (cap:=cap) (kd:= .i64) (i:=(cZ:Int)) (by omega) (by omega);rw[Int.toNat_natCast,Nat.zero_add] at vM;obtain⟨md,qv,aI,aO⟩:=S.uR
  have ey:h.cells cV (cZ*64) 64=some (sF b cZ):=by
   refine qd (by simp[sF]) λj aa=>?_
   rw[S.xo _ (by omega)];simp[sF,aa]
  have nR:iD 64 (.ptr cV (cZ*64)) h=some (.agg (sF b cZ)):=by rw[v7 qv,ey];rfl
  have a1:hE ax 110=some (.agg (Array.replicate 64 (.int .u8 0))):=by kernel_rfl
  have H5:=zj (P:=ax) (e:=110) (h:=h) a1;have ae:(c2 (.agg (Array.replicate 64 (.int .u8 0)))).cells=List.replicate 64 (.int .u8 0):=rfl;rw[ae] at H5;have hw:(h.new (dR 110 (List.replicate 64 (.int .u8 0)))).wr h.next 64:=mT (o:=dR _ (List.replicate 64 (.int .u8 0))) rfl
  have iW:eA (sF b cZ)=true:=by
   have:∀l:List Nat,eA (l.map λj=>J.int .u8 (b (cZ*64+j):Int))=true:=λl=>by
    induction l with
    |nil=>rfl
    |cons x l ba=>simp[eA,ba,J.one]
   exact this _
  have dk:=jt (n:=64) (off:=0) (y:= .agg (sF b cZ)) hw (by simp[sF,J.cells]) (by omega) iW;have oK:fK ax 110 (.ptr h.next 0) none none=some (.aY h.next 0 64 (some 64) 0):=by kernel_rfl
  simp only[hu,Bool.not_true,aE,amT,vM,nR,H5,dk,oK];refine⟨_,rfl,by simp,e1 hw,λj aa=>?_,⟨by simp,by simp,λj aa _=>(jb _ _ _ (by omega)).trans (n3 h _ (by omega)),λak=>z6 (xG ak _) _ _ _⟩⟩;rw[ir hw (by simp[sF,J.cells]) (by omega) (by simp[sF,J.cells,aa])];simp[sF,J.cells,aa]
end
section
variable{lf m:Nat}{h:U}{k cV n:Nat}{wd b:Nat->Nat}
def over(b:Nat->Nat)(at_:Nat)(l:List Nat):Nat->Nat:=λj=>if at_<=j/\j<at_+l.length then l.getD (j-at_) 0 else b j
theorem ee.ag7(S:ee h k cV n wd b){p:Nat}{l:List Nat}(aJ:∀c∈l,c<256)(aA:p+l.length<=n*64):ee (h.set cV p (jd l)) k cV n wd (over b p l):=by
 have ag:p+(jd l).length<=n*64:=by rw[zd];exact aA
 refine⟨S.cI,S.cF,?_,λi hi=>?_,S.iI,S.out,?_,e1 S.q4,e1 S.uR,λj aa=>?_,λj=>?_,S.ne,by rw[dW];exact S.wa,by rw[dW];exact S.v8⟩
 ·rw[eG (.inl S.ne)];exact S.ec
 ·rw[eG (.inl S.ne)];exact S.tZ i hi
 ·obtain⟨cap,e⟩:=S.cs;exact⟨cap,by rw[eG (.inl S.ne)];exact e⟩
 ·unfold over;by_cases e:p<=j/\j<p+l.length
  ·rw[if_pos e,ir S.uR ag e.1 (by rw[zd];exact e.2),KT l (by omega)]
  ·rw[if_neg e,eG (.inr (by rw[zd];omega))];exact S.xo j aa
 ·unfold over;split
  ·rename_i e;have h1:j-p<l.length:=by omega
   have:l.getD (j-p) 0=l[j-p]:=by simp[List.getD,h1]
   rw[this];exact aJ _ (List.getElem_mem h1)
  ·exact S.blt j
def tX(n:Nat)(wd:Nat->Nat)(i at_:Int)(l:List Nat):Prop:=gv n wd i=false\/at_<0\/64<at_\/64-at_<l.length
def B8(C:ad):Prop:=∀h k cV n wd b (i at_:Int) x l,ee h k cV n wd b->Bytes h x l->l.length<=140737488355328-> -9223372036854775808<=i->i<9223372036854775808-> -9223372036854775808<=at_->at_<9223372036854775808->
 (tX n wd i at_ l->C (.fn 18) [.ptr k 0,I i,I at_,x] h=some (.ret (I 22),h))/\
 (¬tX n wd i at_ l->∃h',C (.fn 18) [.ptr k 0,I i,I at_,x] h=some (.ret (I 0),h')/\ee h' k cV n wd (over b (i.toNat*64+at_.toNat) l)/\h'.next=h.next/\aN h h' (· =cV))
theorem aBW{C:ad}{lf:Nat}(hm:sq C)(hi:w5 C)(S:ee h k cV n wd b){i at_:Int}{x:J}{l:List Nat}(B:Bytes h x l)(aJ:l.length<=140737488355328)
 (cd: -9223372036854775808<=i)(c1:i<9223372036854775808)(an: -9223372036854775808<=at_)(aD:at_<9223372036854775808):
 (tX n wd i at_ l->CE C lf (.ptr k 0) (I i) (I at_) x h=some (.ret (I 22),h))/\
 (¬tX n wd i at_ l->∃h',CE C lf (.ptr k 0) (I i) (I at_) x h=some (.ret (I 0),h')/\ee h' k cV n wd (over b (i.toNat*64+at_.toNat) l)/\h'.next=h.next/\aN h h' (· =cV)):=by
 have hlen:=qM (P:=ax) Tryd.underlying24 B;unfold CE Sg Ny;simp only[aE,hm _ _ _ _ _ _ S,hi _ _ _ _ _ _ _ S cd c1,Bool.not_true];refine⟨λxS=>?_,λxS=>?_⟩
 ·cases hu:gv n wd i with
  |false=>simp only[Bool.not_false,aE]
  |true=>
   by_cases h1:at_<0
   ·simp only[Bool.not_true,bw h1,aE]
   ·by_cases h2:64<at_
    ·simp only[Bool.not_true,bq h1,bw h2,aE]
    ·have h3:64-at_<l.length:=by
      rcases xS with h|h|h|h
      ·rw[hu] at h;cases h
      ·exact absurd h h1
      ·exact absurd h h2
      ·exact h
     have aj:IntKind.i64.wrap (64-at_)=64-at_:=wrap_i64 (by omega) (by omega);simp only[Bool.not_true,bq h1,bq h2,aE,hlen,aj,bw h3]
 ·unfold tX at xS
  have hu:gv n wd i=true:=by
   cases hu:gv n wd i with
   |true=>rfl
   |false=>exact absurd (.inl hu) xS
  have h1:¬at_<0:=λh=>xS (.inr (.inl h))
  have h2:¬64<at_:=λh=>xS (.inr (.inr (.inl h)))
  have h3:¬64-at_<l.length:=λh=>xS (.inr (.inr (.inr h)))
  have aj:IntKind.i64.wrap (64-at_)=64-at_:=wrap_i64 (by omega) (by omega);have gK:=hu;simp only[gv,Bool.and_eq_true,decide_eq_true_eq] at gK;obtain⟨bA,bC,_⟩:=gK;obtain⟨cZ,rfl⟩:∃cZ:Nat,i=cZ:=⟨i.toNat,by omega⟩;obtain⟨a,rfl⟩:∃a:Nat,at_=a:=⟨at_.toNat,by omega⟩;obtain⟨cap,ey⟩:=S.cs;have vM:=gL (s:=64) (k:=cV) (off:=0) (len:=n) (lo:=0) (cap:=cap) (kd:= .i64) (i:=(cZ:Int)) (by omega) (by omega);rw[Int.toNat_natCast,Nat.zero_add] at vM;obtain⟨r5,oK,iV,Av⟩:=azO (P:=ax) (k:=cV) (off:=cZ*64) (l:=a) (kd:= .i64) Tryd.underlying110 (s:=1) (by kernel_rfl) (by omega)
  have eI:=akl (P:=ax) (t:=24) (t2:=24) (kd:=cV) (od:=r5) (ld:=64-a) (lo:=0) (cap:=some (64-a)) Tryd.underlying24 (by kernel_rfl) B S.uR (by
   by_cases h:a<64
   ·rw[iV h];omega
   ·rw[Av (by omega)];omega)
  have vP:min l.length (64-a)=l.length:=by omega
  rw[vP,List.take_length] at eI;simp only[hu,Bool.not_true,bq h1,bq h2,aE,hlen,aj,bq h3,ey,vM,oK,eI]
  have jH:ee (h.set cV r5 (jd l)) k cV n wd (over b (cZ*64+a) l):=by
   by_cases h:a<64
   ·rw[iV h,Nat.mul_one];exact S.ag7 B.1 (by omega)
   ·have um:l=[]:=List.eq_nil_of_length_eq_zero (by omega);subst um
    have e:over b (cZ*64+a) []=over b r5 []:=by
     funext j;unfold over;simp only[List.length_nil,Nat.add_zero];rw[if_neg (by omega),if_neg (by omega)]
    rw[e];exact S.ag7 B.1 (by rw[Av (by omega)];simp;omega)
  exact⟨_,rfl,by simpa using jH,by simp,fO rfl⟩
end
structure dU where
 a9:Nat
 bJ:Nat
 kd:Nat
 aG:Nat
structure bx (h:U) (T:dU) (n N:Nat) (wd b:Nat->Nat) (now:Int) (us:Nat->Bool) (nd:Nat->Nat->J):Prop where
 o9:1<=N
 hW:N<=4096
 st:ee h T.bJ T.kd n wd b
 c0:h.cell T.a9 0=some (.ptr T.bJ 0)
 aQ:h.cell T.a9 1=some (.aY T.aG 0 N (some N) 0)
 a3:h.cell T.a9 2=some (I now)
 wt:h.wr T.a9 3
 wn:h.wr T.aG (N*308)
 ec:∀i c,i<N->c<308->h.cell T.aG (i*308+c)=some (nd i c)
 mR:∀i,i<N->nd i 0= .bool (us i)
 d1:T.a9≠T.bJ
 d2:T.a9≠T.kd
 d3:T.a9≠T.aG
 d4:T.aG≠T.bJ
 d5:T.aG≠T.kd
 lt:T.a9<h.next
 la:T.aG<h.next
def a4(k:Nat):Nat:=if k<6 then 12+k else if k<22 then 19+(k-6) else 37+17*((k-22)/16)+(k-22)%16
section
variable{lf:Nat}{h:U}{T:dU}{n N:Nat}{wd b:Nat->Nat}{now:Int}{us:Nat->Bool}{nd:Nat->Nat->J}
def p5(C:ad):Prop:=∀h T n N wd b now us nd,bx h T n N wd b now us nd->C (.fn 73) [.ptr T.a9 0] h=some (.ret (.bool true),h)
theorem aot{C:ad}(A:bx h T n N wd b now us nd):HF C lf (.ptr T.a9 0) h=some (.ret (.bool true),h):=by
 have h1:=MD (k:=T.a9) (off:=0) Tryd.underlying64;have h2:=MD (k:=T.bJ) (off:=0) Tryd.underlying25;unfold HF TX N2;simp only[aE,h1,A.c0,h2]
def db(N:Nat)(us:Nat->Bool)(ino:Int):Bool:=decide (1<=ino)&&(decide (ino<=N)&&us (ino.toNat-1))
def LH(C:ad):Prop:=∀h T n N wd b now us nd ino,bx h T n N wd b now us nd-> -9223372036854775808<=ino->ino<9223372036854775808->C (.fn 62) [.ptr T.a9 0,I ino] h=some (.ret (.bool (db N us ino)),h)
theorem aoq{C:ad}(aK:p5 C)(A:bx h T n N wd b now us nd){ino:Int}:Hy C lf (.ptr T.a9 0) (I ino) h=some (.ret (.bool (db N us ino)),h):=by
 have aJ:eN ax 100 (.aY T.aG 0 N (some N) 0)=some (I (N:Int)):=by
  simp[eN,Tryd.underlying100]
 unfold Hy TC NV;simp only[aE,aK _ _ _ _ _ _ _ _ _ A];by_cases h1:1<=ino
 ·by_cases h2:ino<=N
  ·have k3:=A.hW;obtain⟨cZ,rfl⟩:∃cZ:Nat,ino=((cZ+1:Nat):Int):=⟨ino.toNat-1,by omega⟩;have b6:cZ<N:=by omega
   have aj:IntKind.i64.wrap (((cZ+1:Nat):Int)-1)=(cZ:Int):=cH (by omega);have b3:=gL (s:=308) (k:=T.aG) (off:=0) (len:=N) (lo:=0) (cap:=some N) (kd:= .i64) (i:=(cZ:Int)) (by omega) (by omega);rw[Int.toNat_natCast,Nat.zero_add] at b3;have ae:=A.ec cZ 0 b6 (by omega);rw[Nat.add_zero,A.mR cZ b6] at ae
   have ag:db N us ((cZ+1:Nat):Int)=us cZ:=by
    simp only[db,bw h1,bw h2,Bool.true_and];congr 1
   simp only[bw h1,aE,A.aQ,aJ,bw h2,aj,b3,Nat.add_zero,ae,ag]
  ·have ag:db N us ino=false:=by simp[db,h2]
   simp only[bw h1,aE,A.aQ,aJ,bq h2,ag]
 ·have ag:db N us ino=false:=by simp[db,h1]
  simp only[bq h1,aE,ag]
def mq(C:ad):Prop:=∀h T n N wd b now us nd ino,bx h T n N wd b now us nd-> -9223372036854775808<=ino->ino<9223372036854775808->
 C (.fn 74) [.ptr T.a9 0,I ino] h=some (.ret (if db N us ino then .bo [.ptr T.aG ((ino.toNat-1)*308),I 0] else .bo [.val (.pointer none),I 2]),h)
theorem al4{C:ad}(aK:p5 C)(hi:LH C)(A:bx h T n N wd b now us nd){ino:Int}(cd: -9223372036854775808<=ino)(c1:ino<9223372036854775808):
 HG C lf (.ptr T.a9 0) (I ino) h=some (.ret (if db N us ino then .bo [.ptr T.aG ((ino.toNat-1)*308),I 0] else .bo [.val (.pointer none),I 2]),h):=by
 unfold HG TY N3;simp only[aE,aK _ _ _ _ _ _ _ _ _ A,Bool.not_true,hi _ _ _ _ _ _ _ _ _ _ A cd c1];cases ag:db N us ino with
 |false=>simp only[Bool.not_false,aE];rfl
 |true=>
  have k3:=A.hW;have hT:=ag;simp only[db,Bool.and_eq_true,decide_eq_true_eq] at hT;obtain⟨h1,h2,_⟩:=hT;obtain⟨cZ,rfl⟩:∃cZ:Nat,ino=((cZ+1:Nat):Int):=⟨ino.toNat-1,by omega⟩;have aj:IntKind.i64.wrap (((cZ+1:Nat):Int)-1)=(cZ:Int):=cH (by omega);have b3:=gL (s:=308) (k:=T.aG) (off:=0) (len:=N) (lo:=0) (cap:=some N) (kd:= .i64) (i:=(cZ:Int)) (by omega) (by omega);rw[Int.toNat_natCast,Nat.zero_add] at b3;have e:(((cZ+1:Nat):Int).toNat-1)=cZ:=by omega
  simp only[Bool.not_true,aE,A.aQ,aj,b3,e];rfl
def su(C:ad):Prop:=∀h k o (i:Nat),i<278->C (.fn 76) [.ptr k o,I (i:Int)] h=some (.ret (.ptr k (o+a4 i)),h)
theorem aqr{C:ad}{k o i:Nat}(hi:i<278):HH C lf (.ptr k o) (I (i:Int)) h=some (.ret (.ptr k (o+a4 i)),h):=by
 unfold HH T7 N4;simp only[aE];by_cases h1:i<6
 ·have d1:decide ((i:Int)<6)=true:=bw (by omega);have b3:=lT (n:=6) (s:=1) (k:=k) (off:=o+12) (kd:= .i64) (i:=(i:Int)) (by omega) (by omega);simp only[d1,aE,b3,Int.toNat_natCast];rw[a4,if_pos h1,Nat.add_assoc]
 ·have d1:decide ((i:Int)<6)=false:=bq (by omega);by_cases h2:i<22
  ·have d2:decide ((i:Int)<22)=true:=bw (by omega);have aj:IntKind.i64.wrap ((i:Int)-6)=((i-6:Nat):Int):=cH (by omega);have b3:=lT (n:=16) (s:=1) (k:=k) (off:=o+18+1) (kd:= .i64) (i:=((i-6:Nat):Int)) (by omega) (by omega);simp only[d1,d2,aE,aj,b3,Int.toNat_natCast];rw[a4,if_neg h1,if_pos h2,show o+18+1+(i-6)=o+(19+(i-6)) by omega]
  ·have d2:decide ((i:Int)<22)=false:=bq (by omega);have aj:IntKind.i64.wrap ((i:Int)-22)=((i-22:Nat):Int):=cH (by omega)
   have aZ:IntKind.i64.wrap (((i-22:Nat):Int).tdiv 16)=(((i-22)/16:Nat):Int):=by
    rw[Int.tdiv_eq_ediv_of_nonneg (by omega),wrap_i64 (by omega) (by omega)];rfl
   have aI:((i-22:Nat):Int).tmod 16=(((i-22)%16:Nat):Int):=by
    rw[Int.tmod_eq_emod_of_nonneg (by omega)];rfl
   have b3:=lT (n:=16) (s:=17) (k:=k) (off:=o+36) (kd:= .i64) (i:=(((i-22)/16:Nat):Int)) (by omega) (by omega);have abO:=lT (n:=16) (s:=1) (k:=k) (off:=o+36+(i-22)/16*17+1) (kd:= .i64) (i:=(((i-22)%16:Nat):Int)) (by omega) (by omega);rw[Int.toNat_natCast] at b3 abO;simp only[d1,d2,aE,aj,lJ (show(16:Int)≠0 by omega),hQ (show(16:Int)≠0 by omega),aZ,aI,b3,abO];rw[a4,if_neg h1,if_neg h2,show o+36+(i-22)/16*17+1+(i-22)%16=o+(37+17*((i-22)/16)+(i-22)%16) by omega]
end
def cO(nd:Nat->Nat->J)(i c:Nat)(y:J):Nat->Nat->J:=λi' a2=>if i'=i/\a2=c then y else nd i' a2
theorem mS(nd:Nat->Nat->J)(i c:Nat)(y:J):cO nd i c y i c=y:=if_pos ⟨rfl,rfl⟩
theorem ha(nd:Nat->Nat->J){i c i' a2:Nat}(y:J)(h:i'≠i\/a2≠c):cO nd i c y i' a2=nd i' a2:=if_neg (by omega)
section
variable{lf:Nat}{h h':U}{T:dU}{n N:Nat}{wd b c6 b':Nat->Nat}{now:Int}{us:Nat->Bool}{nd:Nat->Nat->J}
theorem bx.store(A:bx h T n N wd b now us nd)(S:ee h' T.bJ T.kd n c6 b')(aO:h.next<=h'.next)(h1:cW h h' T.a9)(h2:cW h h' T.aG):bx h' T n N c6 b' now us nd:=
 ⟨A.o9,A.hW,S,by rw[h1.cell];exact A.c0,by rw[h1.cell];exact A.aQ,by rw[h1.cell];exact A.a3,let ⟨q,a,c⟩:=A.wt;⟨q,by rw[h1.mt];exact a,c⟩,
   let ⟨q,a,c⟩:=A.wn;⟨q,by rw[h2.mt];exact a,c⟩,λi c hi ae=>by rw[h2.cell];exact A.ec i c hi ae,A.mR,A.d1,A.d2,A.d3,A.d4,A.d5,Nat.lt_of_lt_of_le A.lt aO,Nat.lt_of_lt_of_le A.la aO⟩
theorem bx.frame(A:bx h T n N wd b now us nd)(aO:h.next<=h'.next)(aj:∀j,j=T.a9\/j=T.bJ\/j=T.kd\/j=T.aG->cW h h' j):bx h' T n N wd b now us nd:=
 A.store (A.st.frame aO (aj _ (.inr (.inl rfl))) (aj _ (.inr (.inr (.inl rfl))))) aO (aj _ (.inl rfl)) (aj _ (.inr (.inr (.inr rfl))))
theorem bx.setNode(A:bx h T n N wd b now us nd){i c:Nat}{y:J}(hi:i<N)(ae:c<308)(h0:c≠0):bx (h.set T.aG (i*308+c) [y]) T n N wd b now us (cO nd i c y):=by
 have ag:i*308+c+[y].length<=N*308:=by simp;omega
 refine⟨A.o9,A.hW,A.st.frame (Nat.le_of_eq (dW ..).symm) (jb _ _ _ (λe=>A.d4 e.symm)) (jb _ _ _ (λe=>A.d5 e.symm)),?_,?_,?_,e1 A.wt,e1 A.wn,λi' a2 cA fi=>?_,λi' cA=>?_,A.d1,A.d2,A.d3,A.d4,A.d5,by rw[dW];exact A.lt,by rw[dW];exact A.la⟩
 ·rw[eG (.inl A.d3)];exact A.c0
 ·rw[eG (.inl A.d3)];exact A.aQ
 ·rw[eG (.inl A.d3)];exact A.a3
 ·by_cases e:i'=i/\a2=c
  ·obtain⟨rfl,rfl⟩:=e;rw[ir A.wn ag (Nat.le_refl _) (by simp),mS];simp
  ·rw[eG (.inr (by simp;omega)),ha _ _ (by omega)];exact A.ec i' a2 cA fi
 ·rw[ha _ _ (.inr (λe=>h0 e.symm))];exact A.mR i' cA
theorem wG(A:bx h T n N wd b now us nd){i c:Nat}{y:J}(hi:i<N)(ae:c<308)(h1:y.cells=[y])(h2:eA [y]=true):st 1 (.ptr T.aG (i*308+c)) y h=some (h.set T.aG (i*308+c) [y]):=by
 have:=jt (n:=1) (off:=i*308+c) (y:=y) A.wn (by rw[h1];rfl) (by omega) (by rw[h1];exact h2)
 rw[h1] at this;exact this
def u6(C:ad):Prop:=∀h T n N wd b now us nd i c (v:Nat),bx h T n N wd b now us nd->i<N->c<308->c≠0->nd i c=I (v:Int)->v<=n->
 (v=0->C (.fn 91) [.ptr T.a9 0,.ptr T.aG (i*308+c)] h=some (.ret (.bo []),h))/\
 (0<v->bU wd (v-1)=true->∃h',C (.fn 91) [.ptr T.a9 0,.ptr T.aG (i*308+c)] h=some (.ret (.bo []),h')/\
   bx h' T n N (c3 wd ((v-1)/64) (sH (wd ((v-1)/64)) ((v-1)%64))) b now us (cO nd i c (I 0))/\aN h h' (λj=>j=T.bJ\/j=T.aG))
theorem akM{C:ad}(ak:BT C)(A:bx h T n N wd b now us nd){i c v:Nat}(hi:i<N)(ae:c<308)(h0:c≠0)(hv:nd i c=I (v:Int))(PM:v<=n):
 (v=0->CT C lf (.ptr T.a9 0) (.ptr T.aG (i*308+c)) h=some (.ret (.bo []),h))/\
 (0<v->bU wd (v-1)=true->∃h',CT C lf (.ptr T.a9 0) (.ptr T.aG (i*308+c)) h=some (.ret (.bo []),h')/\
   bx h' T n N (c3 wd ((v-1)/64) (sH (wd ((v-1)/64)) ((v-1)%64))) b now us (cO nd i c (I 0))/\aN h h' (λj=>j=T.bJ\/j=T.aG)):=by
 have aO:=A.st.cF;have eB:=A.ec i c hi ae;rw[hv] at eB;unfold CT U4 Oa;simp only[aE,eB];refine⟨λe=>?_,λe eW=>?_⟩
 ·subst e;have d:decide ((0:Int)<((0:Nat):Int))=false:=by decide
  simp only[d,aE]
 ·have d:decide ((0:Int)<(v:Int))=true:=bw (by omega);have aj:IntKind.i64.wrap ((v:Int)-1)=((v-1:Nat):Int):=cH (by omega)
  have iU:gv n wd ((v-1:Nat):Int)=true:=by
   simp only[gv,Int.toNat_natCast,eW,Bool.and_true,Bool.and_eq_true,decide_eq_true_eq];omega
  obtain⟨h1,az,jh,aL⟩:=(ak h T.bJ T.kd n wd b ((v-1:Nat):Int) A.st (by omega) (by omega)).2 iU;rw[Int.toNat_natCast] at jh;have b7:=A.store jh aL.next (aL.same _ A.lt (λe=>A.d1 e)) (aL.same _ A.la (λe=>A.d4 e))
  have dk:=wG b7 (i:=i) (c:=c) (y:=I 0) hi ae rfl rfl;refine⟨_,?_,b7.setNode hi ae h0,(aN.eb aL (λj e=> .inl e)).trans (fO (.inr rfl))⟩;simp only[d,aE,A.c0,aj,az,dk]
end
section
variable{lf:Nat}{h h':U}{T:dU}{n N:Nat}{wd b c6 b':Nat->Nat}{now:Int}{us:Nat->Bool}{nd:Nat->Nat->J}
def Gq(C:ad):Prop:=∀h T n N wd b now us nd i,bx h T n N wd b now us nd->i<N->∃h',C (.fn 77) [.ptr T.a9 0,.ptr T.aG (i*308)] h=some (.ret (.bo []),h')/\
 bx h' T n N wd b now us (cO (cO nd i 9 (I now)) i 10 (I now))/\h'.next=h.next/\aN h h' (· =T.aG)
theorem aBl{C:ad}(A:bx h T n N wd b now us nd){i:Nat}(hi:i<N):∃h',HI C lf (.ptr T.a9 0) (.ptr T.aG (i*308)) h=some (.ret (.bo []),h')/\
 bx h' T n N wd b now us (cO (cO nd i 9 (I now)) i 10 (I now))/\h'.next=h.next/\aN h h' (· =T.aG):=by
 have b7:=A.setNode (c:=9) (y:=I now) hi (by omega) (by omega);have s1:=wG (y:=I now) A (i:=i) (c:=9) hi (by omega) rfl rfl;have s2:=wG (y:=I now) b7 (i:=i) (c:=10) hi (by omega) rfl rfl;have az:i*308+1+8=i*308+9:=Nat.add_assoc _ 1 8;have aw:i*308+1+9=i*308+10:=Nat.add_assoc _ 1 9;refine⟨(h.set T.aG (i*308+9) [I now]).set T.aG (i*308+10) [I now],?_,b7.setNode hi (by omega) (by omega),by rw[dW,dW],(fO (S:=(· =T.aG)) rfl).trans (fO (S:=(· =T.aG)) rfl)⟩;unfold HI T8 N5;simp only[aE,A.a3,az,aw,s1,s2]
structure cR (n N:Nat) (wd:Nat->Nat) (nd:Nat->Nat->J) (bl:Nat->Nat->Nat):Prop where
 cell:∀i c,i<N->12<=c->c<308->nd i c=I (bl i c:Int)
 le:∀i c,bl i c<=n
 on:∀i c,i<N->12<=c->c<308->0<bl i c->bU wd (bl i c-1)=true
 inj:∀i c i' a2,i<N->12<=c->c<308->i'<N->12<=a2->a2<308->0<bl i c->bl i c=bl i' a2->i=i'/\c=a2
def j5(bl:Nat->Nat->Nat)(i c v:Nat):Nat->Nat->Nat:=λi' a2=>if i'=i/\a2=c then v else bl i' a2
theorem se(bl:Nat->Nat->Nat)(i c v:Nat):j5 bl i c v i c=v:=if_pos ⟨rfl,rfl⟩
theorem nn(bl:Nat->Nat->Nat){i c i' a2:Nat}(v:Nat)(h:i'≠i\/a2≠c):j5 bl i c v i' a2=bl i' a2:=if_neg (by omega)
theorem aBz{bl:Nat->Nat->Nat}{i c:Nat}(h:bl i c=0):j5 bl i c 0=bl:=by
 funext i' a2
 unfold j5;split
 ·rename_i e;rw[e.1,e.2,h]
 ·rfl
theorem agV{nd:Nat->Nat->J}{i c:Nat}{y:J}(h:nd i c=y):cO nd i c y=nd:=by
 funext i' a2
 unfold cO;split
 ·rename_i e;rw[e.1,e.2,h]
 ·rfl
def wi(wd:Nat->Nat)(j:Nat):Nat->Nat:=c3 wd (j/64) (sH (wd (j/64)) (j%64))
theorem QL{wd:Nat->Nat}(hw:∀i,wd i<2 ^ 64){j gM:Nat}:bU (wi wd j) gM=(bU wd gM&&decide (gM≠j)):=by
 unfold wi;rw[adL];split
 ·rename_i e;rw[Ya (hw _) (Nat.mod_lt _ (by omega))];unfold bU;rw[e];congr 1;by_cases h:gM=j
  ·subst h;simp
  ·have:gM%64≠j%64:=by omega
   simp[h,this]
 ·rename_i e
  have:gM≠j:=λh=>e (by rw[h])
  simp[this]
theorem cR.drop{bl:Nat->Nat->Nat}(M:cR n N wd nd bl)(hw:∀i,wd i<2 ^ 64){i c:Nat}(hi:i<N)(dB:12<=c)(ae:c<308)(ag:0<bl i c):
 cR n N (wi wd (bl i c-1)) (cO nd i c (I 0)) (j5 bl i c 0):=by
 refine⟨λi' a2 cA nL fi=>?_,λi' a2=>?_,λi' a2 cA nL fi aA=>?_,λi1 aQ i2 a3 nc h1 kB nf h2 mF aA he=>?_⟩
 ·by_cases e:i'=i/\a2=c
  ·obtain⟨rfl,rfl⟩:=e;rw[mS,se];rfl
  ·rw[ha _ _ (by omega),nn _ _ (by omega)];exact M.cell i' a2 cA nL fi
 ·unfold j5;split
  ·omega
  ·exact M.le i' a2
 ·by_cases e:i'=i/\a2=c
  ·obtain⟨rfl,rfl⟩:=e;rw[se] at aA;omega
  ·rw[nn _ _ (by omega)] at aA⊢;rw[QL hw,M.on i' a2 cA nL fi aA,Bool.true_and,decide_eq_true_eq];intro h;exact e (M.inj i' a2 i c cA nL fi hi dB ae aA (by omega))
 ·by_cases az:i1=i/\aQ=c
  ·obtain⟨rfl,rfl⟩:=az;rw[se] at aA;omega
  ·rw[nn _ _ (by omega)] at aA he;by_cases aw:i2=i/\a3=c
   ·obtain⟨rfl,rfl⟩:=aw;rw[se] at he;omega
   ·rw[nn _ _ (by omega)] at he;exact M.inj i1 aQ i2 a3 nc h1 kB nf h2 mF aA he
theorem cR.kW{bl:Nat->Nat->Nat}(M:cR n N wd nd bl){i c:Nat}{y:J}(ae:c<12):cR n N wd (cO nd i c y) bl:=
 ⟨λi' a2 cA nL fi=>by rw[ha _ _ (by omega)];exact M.cell i' a2 cA nL fi,M.le,M.on,M.inj⟩
def xu(wd:Nat->Nat)(v:Nat):Nat->Nat:=if v=0 then wd else wi wd (v-1)
theorem akL{C:ad}(D:u6 C){bl:Nat->Nat->Nat}(A:bx h T n N wd b now us nd)(M:cR n N wd nd bl){i c:Nat}(hi:i<N)(dB:12<=c)(ae:c<308):
 ∃h',C (.fn 91) [.ptr T.a9 0,.ptr T.aG (i*308+c)] h=some (.ret (.bo []),h')/\
  bx h' T n N (xu wd (bl i c)) b now us (cO nd i c (I 0))/\cR n N (xu wd (bl i c)) (cO nd i c (I 0)) (j5 bl i c 0)/\aN h h' (λj=>j=T.bJ\/j=T.aG):=by
 obtain⟨d0,d1⟩:=D h T n N wd b now us nd i c (bl i c) A hi ae (by omega) (M.cell i c hi dB ae) (M.le i c);by_cases e:bl i c=0
 ·have aj:cO nd i c (I 0)=nd:=agV (by rw[M.cell i c hi dB ae,e];rfl);refine⟨h,d0 e,?_,?_,aN.refl _ _⟩
  ·rw[xu,if_pos e,aj];exact A
  ·rw[xu,if_pos e,aj,aBz e];exact M
 ·obtain⟨h',az,b7,aL⟩:=d1 (by omega) (M.on i c hi dB ae (by omega));refine⟨h',az,?_,?_,aL⟩
  ·rw[xu,if_neg e];exact b7
  ·rw[xu,if_neg e];exact M.drop A.st.iI hi dB ae (by omega)
end
section
variable{P:Program}
theorem aqp{e:TypeId}(aj:dN P e=some 1)(bX:oW P e=some false){k:IntKind}{f:Nat->Int}{n i:Nat}(hi:i<n):pN P e ((List.range n).map λj=> .int k (f j)) (i*1)=some (.int k (f i)):=by
 simp[pN,aj,bX,hi]
theorem alb{e:TypeId}{kk k:IntKind}(he:P.underlying e=some (.int kk)){d:Nat}{a b:Int}:pq P (d+1) e (.int k a) (.int k b)=some (a==b):=by
 have ai:(k==k)=true:=pG;simp only[pq,he,ai,cond_true]
theorem ala{t e:TypeId}{n z:Nat}(hu:P.underlying t=some (.array n e))(aj:dN P e=some z){d:Nat}{xs ys:List J}:pq P (d+1) t (.agg xs) (.agg ys)=vw P (pq P d) e z xs ys (List.range n):=by
 simp only[pq,hu,aj]
theorem YV{e:TypeId}{kk k:IntKind}(he:P.underlying e=some (.int kk))(aj:dN P e=some 1)(bX:oW P e=some false){f g:Nat->Int}{n d:Nat}:∀{is:List Nat},(∀i∈is,i<n)->
 vw P (pq P (d+1)) e 1 ((List.range n).map λj=> .int k (f j)) ((List.range n).map λj=> .int k (g j)) is=some (is.all λi=>f i==g i)
 | [],_=>rfl
 |i::is,h=>by
  have ba:=YV (k:=k) he aj bX (f:=f) (g:=g) (n:=n) (d:=d) (is:=is) (λj aa=>h j (List.mem_cons_of_mem _ aa));have hi:=h i (List.mem_cons_self ..);simp only[vw,aqp aj bX hi,ba,alb he,List.all_cons]
theorem ajd{t e:TypeId}{n:Nat}{kk k:IntKind}(hu:P.underlying t=some (.array n e))(he:P.underlying e=some (.int kk))(aj:dN P e=some 1)(bX:oW P e=some false)(bd:P.eqGuardType P.depth t=false){f g:Nat->Int}:
 bin P .eql t (.agg ((List.range n).map λj=> .int k (f j))) (.agg ((List.range n).map λj=> .int k (g j)))=some (.bool ((List.range n).all λi=>f i==g i)):=by
 rw[tY];show sM P .eql t _ _=_;simp only[sM,uc,bd,cond_false,ala hu aj,YV he aj bX (λi hi=>List.mem_range.1 hi)]
end
section
variable{lf:Nat}{h h':U}{T:dU}{n N:Nat}{wd b c6 b':Nat->Nat}{now:Int}{us:Nat->Bool}{nd:Nat->Nat->J}
def mA(f:Nat->Nat):List J:=(List.range 17).map λj=>I (f j:Int)
theorem Xi{α:Type}(k:IntKind)(f:α->Int):∀l:List α,eA (l.map λj=> .int k (f j))=true
 | []=>rfl
 |x::l=>by simp[eA,Xi k f l,J.one]
def BQ(C:ad):Prop:=∀h (f:Nat->Nat),∃h',C (.fn 92) [.agg (mA f)] h=some (.ret (.bool ((List.range 16).all λj=>f (1+j)==0)),h')/\aN h h' (λ_=>False)
theorem akY{C:ad}{f:Nat->Nat}:∃h',HO C lf (.agg (mA f)) h=some (.ret (.bool ((List.range 16).all λj=>f (1+j)==0)),h')/\aN h h' (λ_=>False):=by
 have Dh:(J.agg (mA f)).flat=true:=rfl;have ae:(J.agg (mA f)).cells=mA f:=rfl;have gH:=wS (e:=122) (h:=h) Dh;rw[ae] at gH;have s4:∀i,(h.new (dR 122 (mA f))).cell h.next i=(mA f)[i]?:=λi=>by rw[lK,oR]
 have ey:(h.new (dR 122 (mA f))).cells h.next 1 16=some ((List.range 16).map λj=>I (f (1+j):Int)):=by
  refine qd (by simp) λj aa=>?_
  rw[s4];simp[mA,aa,show 1+j<17 by omega]
 obtain⟨md,qv,_,_⟩:=mT (h:=h) (o:=dR 122 (mA f)) rfl;have nR:iD 16 (.ptr h.next 1) (h.new (dR 122 (mA f)))=some (.agg ((List.range 16).map λj=>I (f (1+j):Int))):=by rw[v7 qv,ey];rfl
 have oC:ib ax 120 [] []=some (.agg ((List.range 16).map λj=>I 0)):=by kernel_rfl
 have heq:=ajd (P:=ax) (t:=120) (n:=16) (kk:= .i64) (k:= .i64) Tryd.underlying120 (by kernel_rfl) (by kernel_rfl) (by kernel_rfl) (by kernel_rfl) (f:=λj=>(f (1+j):Int)) (g:=λ_=>0)
 have aZ:((List.range 16).all λi=>(f (1+i):Int)==0)=(List.range 16).all λj=>f (1+j)==0:=by
  have:(λi:Nat=>(f (1+i):Int)==0)=λj=>f (1+j)==0:=by
   funext j
   by_cases e:f (1+j)=0
   ·rw[e];rfl
   ·have az:((f (1+j):Int)==0)=false:=by simp;omega
    have aw:(f (1+j)==0)=false:=by simp[e]
    rw[az,aw]
  rw[this]
 rw[aZ] at heq;refine⟨_,?_,aN.new h (dR 122 (mA f)) _⟩;unfold HO U5 Ob;simp only[aE,gH,nR,oC,heq]
end
noncomputable section
variable{C:ad}{lf:Nat}{bc a6 gi hJ gj hK qF qG qH qI qJ qK qC qD qE:gD}{ar:kR}
noncomputable def l6:ca ax:=⟨38,Tryd.f38,λr=>bif Nat.beq r 16 then .ord [0,1,2,4,5,10,11,12,13,14,15,16,3,6,7,8,9,17] [(6,[3])] else .text,Tryd.func38,by kernel_rfl,by kernel_rfl,by kernel_rfl,by kernel_rfl⟩
noncomputable def qi(aT x9:O)(h:U):ab:=
 ob aT λa=>ob x9 λb=>some (.ret (.bo [a,b]),h)
def yT(C:ad)(lf:Nat)(r:a0)(x0 x2 aW x12:O)(h:U):ab:=
 gT .eql 3 x12 (I 0) (r (bE 0) (bE 28) h) (ob aW λa=>gO 1 aW λb=>eR 4 b h λb=>n4 .add 3 x2 x12 λc=>b2 (gA ax .max #[3,3] [b,c] h) λb k=>ed 1 a λa=>ob (b5 4 a) λa=>ob (st 1 a b k) λk=>a3 C 77 x0 aW k λa k=>ob x12 λa=>r (some a) (bE 0) k)
theorem atA{r:a0}:∀F h,au l6 C lf [1,1,1,1,1,1,1] F h bc (bf r 8 9) ar=bm (yT C lf r) 0 2 10 12 F h:=by
 intro F h;kernel_rfl
def EC(C:ad)(lf:Nat)(n:dq)(az:br)(x0 x2 x3 aW x12:O)(h:U):ab:=
 ob x12 λa=>mO 24 x3 λb=>eF .lss 3 a b (n4 .add 3 x2 x12 λa=>cm .quo 3 a (I 64) λa=>n4 .add 3 x2 x12 λb=>cm .rem 3 b (I 64) λb=>ob x0 λc=>ob aW λd=>da C 75 [c,d,a] h λc k=>gx c (az x0 x2 aW x12 k) (cm .sub 3 (I 64) b λc=>mO 24 x3 λd=>Ea .sub 3 d x12 λd=>b2 (gA ax .min #[3,3] [c,d] k) λc k=>gO 0 x0 λd=>ob aW λg=>ob x3 λi=>ob x12 λj=>cB .add 3 x12 c λm=>ob (fK ax 24 i (some j) (some m)) λi=>ob (b0 d k) λj=>dP (C (.fn 76) [g,a] k) λa l=>fg (fY [(3,cv (some d))] k l [3]) (ob (eC a) λa=>ob (b0 a l) λa=>cm .sub 3 a (I 1) λa=>dP (C (.fn 18) [j,a,b,i] l) λa k=>cB .add 3 x12 c λa=>n x0 x2 x3 aW (some a) k))) (az x0 x2 aW x12 h)
theorem atB{n:dq}{az:br}:∀F h,au l6 C lf [1,1,1,1,1,1,0,0,0] F h (dj n 0 2 3 10 12) a6 (bS 1 (bm az 0 2 10 12) ar)=dj (EC C lf n az) 0 2 3 10 12 F h:=by
 intro F h;kernel_rfl
def DW(C:ad)(lf:Nat)(az:br)(k:O×O×O×O×O->U->ab)(s:O×O×O×O×O)(h:U):ab:=
 EC C lf (λa b c d g=>k (a,b,c,d,g)) az s.1 s.2.1 s.2.2.1 s.2.2.2.1 s.2.2.2.2 h
def S5(C:ad)(lf:Nat)(r:a0)(x0 x2 x3 aW x12:O)(h:U):ab:=
 bp (DW C lf (yT C lf r)) lf (x0,x2,x3,aW,x12) h
theorem atC{r:a0}:∀F h,au l6 C lf [1,1,1,1,1,1] F h bc (bf r 8 9) ar=dj (S5 C lf r) 0 2 3 10 12 F h:=bn (a:=b9 l6 [1,1,1,1,1,1,0]) (by kernel_rfl) atA (fX (id:=1) (a:=b9 l6 [1,1,1,1,1,1,0,0]) (by kernel_rfl) (gX (g:=λF=>(F 0,F 2,F 3,F 10,F 12)) (body:=DW C lf (λx0 x2 aW x12 h=>yT C lf r x0 x2 aW x12 h)) (by kernel_rfl) (λk=>(atB (n:=λx0 x2 x3 aW x12 h=>k (x0,x2,x3,aW,x12) h)))))
def S6(C:ad)(lf:Nat)(n:dq)(x0 x2 x3 aW:O)(h:U):ab:=
 n x0 x2 x3 aW (bE 0) h
theorem atD{n:dq}:∀F h,au l6 C lf [1,1,1,1,1,0] F h (dj n 0 2 3 10 12) a6 ar=bm (S6 C lf n) 0 2 3 10 F h:=by
 intro F h;kernel_rfl
def S7(C:ad)(lf:Nat)(r:a0)(x0 x2 x3 aW:O)(h:U):ab:=
 S6 C lf (S5 C lf r) x0 x2 x3 aW h
theorem atE{r:a0}:∀F h,au l6 C lf [1,1,1,1,1] F h bc (bf r 8 9) ar=bm (S7 C lf r) 0 2 3 10 F h:=bn (by kernel_rfl) atC atD
def S8(C:ad)(lf:Nat)(n:br)(x0 x2 x3 aW:O)(h:U):ab:=
 ob x3 λa=>mO 24 x3 λb=>Ea .sub 3 (I 17792) x2 λc=>b2 (gA ax .min #[3,3] [b,c] h) λb k=>ob (fK ax 24 a none (some b)) λa=>n x0 x2 (some a) aW k
theorem atF{n:br}:∀F h,au l6 C lf [1,1,1,1,0] F h (bm n 0 2 3 10) a6 ar=bm (S8 C lf n) 0 2 3 10 F h:=by
 intro F h;kernel_rfl
def S9(C:ad)(lf:Nat)(r:a0)(x0 x2 x3 aW:O)(h:U):ab:=
 S8 C lf (S7 C lf r) x0 x2 x3 aW h
theorem atG{r:a0}:∀F h,au l6 C lf [1,1,1,1] F h bc (bf r 8 9) ar=bm (S9 C lf r) 0 2 3 10 F h:=bn (by kernel_rfl) atE atF
def Be(C:ad)(lf:Nat)(n:br)(r:a0)(x0 x2 x3 aW:O)(h:U):ab:=
 gT .lss 3 x2 (I 0) (r (bE 0) (bE 22) h) (mO 24 x3 λa=>eF .eql 3 a (I 0) (r (bE 0) (bE 0) h) (gT .geq 3 x2 (I 17792) (r (bE 0) (bE 27) h) (n x0 x2 x3 aW h)))
theorem atH{n:br}{r:a0}:∀F h,au l6 C lf [1,1,1,0] F h (bm n 0 2 3 10) (bf r 8 9) ar=bm (Be C lf n r) 0 2 3 10 F h:=by
 intro F h;kernel_rfl
def wv(C:ad)(lf:Nat)(r:a0)(x0 x2 x3 aW:O)(h:U):ab:=
 Be C lf (S9 C lf r) r x0 x2 x3 aW h
theorem atI{r:a0}:∀F h,au l6 C lf [1,1,1] F h bc (bf r 8 9) ar=bm (wv C lf r) 0 2 3 10 F h:=bn (by kernel_rfl) atG atH
def Jy(C:ad)(lf:Nat)(n:br)(r:a0)(x0 x2 x3 aW x11:O)(h:U):ab:=
 gT .neq 26 x11 (I 0) (ob x11 λa=>r (bE 0) (some a) h) (n x0 x2 x3 aW h)
theorem atJ{n:br}{r:a0}:∀F h,au l6 C lf [1,1,0] F h (bm n 0 2 3 10) (bf r 8 9) ar=dj (Jy C lf n r) 0 2 3 10 11 F h:=by
 intro F h;kernel_rfl
def Jz(C:ad)(lf:Nat)(r:a0)(x0 x2 x3 aW x11:O)(h:U):ab:=
 Jy C lf (wv C lf r) r x0 x2 x3 aW x11 h
theorem atK{r:a0}:∀F h,au l6 C lf [1,1] F h bc (bf r 8 9) ar=dj (Jz C lf r) 0 2 3 10 11 F h:=bn (by kernel_rfl) atI atJ
def JA(C:ad)(lf:Nat)(n:dq)(x0 x1 x2 x3:O)(h:U):ab:=
 a3 C 74 x0 x1 h λa k=>dn a λa b=>n x0 x2 x3 (some a) (some b) k
theorem atL{n:dq}:∀F h,au l6 C lf [1,0] F h (dj n 0 2 3 10 11) a6 ar=bm (JA C lf n) 0 1 2 3 F h:=by
 intro F h;kernel_rfl
def JB(C:ad)(lf:Nat)(r:a0)(x0 x1 x2 x3:O)(h:U):ab:=
 JA C lf (Jz C lf r) x0 x1 x2 x3 h
theorem atM{r:a0}:∀F h,au l6 C lf [1] F h bc (bf r 8 9) ar=bm (JB C lf r) 0 1 2 3 F h:=bn (by kernel_rfl) atK atL
noncomputable def JC(C:ad)(lf:Nat)(n:br)(x0 x1 x2 x3:O)(h:U):ab:=
 n x0 x1 x2 x3 h
theorem atN{n:br}:∀F h,au l6 C lf [0] F h (bm n 0 1 2 3) a6 ar=bm (JC C lf n) 0 1 2 3 F h:=by
 intro F h;kernel_rfl
def JD(C:ad)(lf:Nat)(r:a0)(x0 x1 x2 x3:O)(h:U):ab:=
 JC C lf (JB C lf r) x0 x1 x2 x3 h
theorem atO{r:a0}:∀F h,au l6 C lf [] F h bc (bf r 8 9) ar=bm (JD C lf r) 0 1 2 3 F h:=bn (by kernel_rfl) atM atN
def rF(C:ad)(lf:Nat)(al an aD a7:J)(h:U):ab:=JD C lf qi (some al) (some an) (some aD) (some a7) h
def OB:cK ax:=rj l6 rF (λC lf al an aD a7 h=>c8 (K:=(bf qi 8 9)) (by kernel_rfl) (Eq.trans (atO _ h) (by kernel_rfl))) (by kernel_rfl)
def kf:ca ax:=dv 41 Tryd.f41 Tryd.func41 (by kernel_rfl)
noncomputable def sQ(aT x9:O)(h:U):ab:=
 ob aT λa=>ob x9 λb=>some (.ret (.bo [a,b]),h)
def EE(C:ad)(lf:Nat)(r:a0)(eS:O)(h:U):ab:=
 ob eS λa=>r (some a) (bE 0) h
theorem at2{r:a0}:∀F h,au kf C lf [1,1,1,1,1,1,1,1,1] F h bc (bf r 8 9) ar=aX (EE C lf r) 13 F h:=by
 intro F h;kernel_rfl
def EF(C:ad)(lf:Nat)(n:dq)(aB:aC)(x0 x2 aW x12 eS:O)(h:U):ab:=
 lX .lss 3 x2 x12 (cB .quo 3 x2 (I 64) λa=>cB .rem 3 x2 (I 64) λb=>cm .sub 3 (I 64) b λc=>n4 .sub 3 x12 x2 λd=>b2 (gA ax .min #[3,3] [c,d] h) λc k=>ob aW λd=>da C 76 [d,a] k λa k=>ob (eC a) λa=>ob (b0 a k) λa=>eF .gtr 3 a (I 0) (dI 0 x0 k λd=>cm .sub 3 a (I 1) λa=>da C 21 [d,a] k λa k=>dn a λa d=>ob eS λd=>cm .add 3 b c λg=>ob (fK ax 24 a (some b) (some g)) λa=>b2 (gA ax .append #[24,24] [d,a] k) λa k=>cB .add 3 x2 c λb=>n x0 (some b) aW x12 (some a) k) (ob eS λa=>b2 (gA ax .append #[24,3] [a,c] k) λa k=>cB .add 3 x2 c λb=>n x0 (some b) aW x12 (some a) k)) (aB eS h)
theorem at3{n:dq}{aB:aC}:∀F h,au kf C lf [1,1,1,1,1,1,1,1,0,0,0] F h (dj n 0 2 10 12 13) a6 (bS 0 (aX aB 13) ar)=dj (EF C lf n aB) 0 2 10 12 13 F h:=by
 intro F h;kernel_rfl
def DX(C:ad)(lf:Nat)(aB:aC)(k:O×O×O×O×O->U->ab)(s:O×O×O×O×O)(h:U):ab:=
 EF C lf (λa b c d g=>k (a,b,c,d,g)) aB s.1 s.2.1 s.2.2.1 s.2.2.2.1 s.2.2.2.2 h
def Tc(C:ad)(lf:Nat)(r:a0)(x0 x2 aW x12 eS:O)(h:U):ab:=
 bp (DX C lf (EE C lf r)) lf (x0,x2,aW,x12,eS) h
theorem at4{r:a0}:∀F h,au kf C lf [1,1,1,1,1,1,1,1] F h bc (bf r 8 9) ar=dj (Tc C lf r) 0 2 10 12 13 F h:=bn (a:=b9 kf [1,1,1,1,1,1,1,1,0]) (by kernel_rfl) at2 (fX (id:=0) (a:=b9 kf [1,1,1,1,1,1,1,1,0,0]) (by kernel_rfl) (gX (g:=λF=>(F 0,F 2,F 10,F 12,F 13)) (body:=DX C lf (λeS h=>EE C lf r eS h)) (by kernel_rfl) (λk=>(at3 (n:=λx0 x2 aW x12 eS h=>k (x0,x2,aW,x12,eS) h)))))
def Td(C:ad)(lf:Nat)(n:dq)(x0 x2 aW x12:O)(h:U):ab:=
 n4 .sub 3 x12 x2 λa=>b2 (mU ax 24 (I 0) a h) λa=>n x0 x2 aW x12 (some a)
theorem at5{n:dq}:∀F h,au kf C lf [1,1,1,1,1,1,1,0] F h (dj n 0 2 10 12 13) a6 ar=bm (Td C lf n) 0 2 10 12 F h:=by
 intro F h;kernel_rfl
def JI(C:ad)(lf:Nat)(r:a0)(x0 x2 aW x12:O)(h:U):ab:=
 Td C lf (Tc C lf r) x0 x2 aW x12 h
theorem at6{r:a0}:∀F h,au kf C lf [1,1,1,1,1,1,1] F h bc (bf r 8 9) ar=bm (JI C lf r) 0 2 10 12 F h:=bn (by kernel_rfl) at4 at5
def Te(C:ad)(lf:Nat)(n:br)(x0 x2 x3 aW x12:O)(h:U):ab:=
 ob x3 λa=>n4 .sub 3 x12 x2 λb=>eF .lss 3 a b (n4 .add 3 x2 x3 λa=>n x0 x2 aW (some a) h) (n x0 x2 aW x12 h)
theorem at7{n:br}:∀F h,au kf C lf [1,1,1,1,1,1,0] F h (bm n 0 2 10 12) a6 ar=dj (Te C lf n) 0 2 3 10 12 F h:=by
 intro F h;kernel_rfl
def Tf(C:ad)(lf:Nat)(r:a0)(x0 x2 x3 aW x12:O)(h:U):ab:=
 Te C lf (JI C lf r) x0 x2 x3 aW x12 h
theorem aua{r:a0}:∀F h,au kf C lf [1,1,1,1,1,1] F h bc (bf r 8 9) ar=dj (Tf C lf r) 0 2 3 10 12 F h:=bn (by kernel_rfl) at6 at7
def Tg(C:ad)(lf:Nat)(n:dq)(x0 x2 x3 aW:O)(h:U):ab:=
 gO 1 aW λa=>eR 4 a h λa=>n x0 x2 x3 aW (some a) h
theorem aub{n:dq}:∀F h,au kf C lf [1,1,1,1,1,0] F h (dj n 0 2 3 10 12) a6 ar=bm (Tg C lf n) 0 2 3 10 F h:=by
 intro F h;kernel_rfl
def Th(C:ad)(lf:Nat)(r:a0)(x0 x2 x3 aW:O)(h:U):ab:=
 Tg C lf (Tf C lf r) x0 x2 x3 aW h
theorem auc{r:a0}:∀F h,au kf C lf [1,1,1,1,1] F h bc (bf r 8 9) ar=bm (Th C lf r) 0 2 3 10 F h:=bn (by kernel_rfl) aua aub
def JJ(C:ad)(lf:Nat)(n:br)(r:a0)(x0 x2 x3 aW:O)(h:U):ab:=
 ob x2 λa=>gO 1 aW λb=>eR 4 b h λb=>eF .geq 3 a b (r (some (.val (.slice none 0 0))) (bE 0) h) (n x0 x2 x3 aW h)
theorem aud{n:br}{r:a0}:∀F h,au kf C lf [1,1,1,1,0] F h (bm n 0 2 3 10) (bf r 8 9) ar=bm (JJ C lf n r) 0 2 3 10 F h:=by
 intro F h;kernel_rfl
def JK(C:ad)(lf:Nat)(r:a0)(x0 x2 x3 aW:O)(h:U):ab:=
 JJ C lf (Th C lf r) r x0 x2 x3 aW h
theorem aue{r:a0}:∀F h,au kf C lf [1,1,1,1] F h bc (bf r 8 9) ar=bm (JK C lf r) 0 2 3 10 F h:=bn (by kernel_rfl) auc aud
def EG(C:ad)(lf:Nat)(n:br)(r:a0)(x0 x2 x3 aW:O)(h:U):ab:=
 cB .lss 3 x2 (I 0) λa=>h4 .lss 3 a x3 (I 0) h λb k=>n7 a b (r (some (.val (.slice none 0 0))) (bE 22) k) (n x0 x2 x3 aW k)
theorem auf{n:br}{r:a0}:∀F h,au kf C lf [1,1,1,0] F h (bm n 0 2 3 10) (bf r 8 9) ar=bm (EG C lf n r) 0 2 3 10 F h:=by
 intro F h;kernel_rfl
def yU(C:ad)(lf:Nat)(r:a0)(x0 x2 x3 aW:O)(h:U):ab:=
 EG C lf (JK C lf r) r x0 x2 x3 aW h
theorem aug{r:a0}:∀F h,au kf C lf [1,1,1] F h bc (bf r 8 9) ar=bm (yU C lf r) 0 2 3 10 F h:=bn (by kernel_rfl) aue auf
def JL(C:ad)(lf:Nat)(n:br)(r:a0)(x0 x2 x3 aW x11:O)(h:U):ab:=
 gT .neq 26 x11 (I 0) (ob x11 λa=>r (some (.val (.slice none 0 0))) (some a) h) (n x0 x2 x3 aW h)
theorem auh{n:br}{r:a0}:∀F h,au kf C lf [1,1,0] F h (bm n 0 2 3 10) (bf r 8 9) ar=dj (JL C lf n r) 0 2 3 10 11 F h:=by
 intro F h;kernel_rfl
def JM(C:ad)(lf:Nat)(r:a0)(x0 x2 x3 aW x11:O)(h:U):ab:=
 JL C lf (yU C lf r) r x0 x2 x3 aW x11 h
theorem aui{r:a0}:∀F h,au kf C lf [1,1] F h bc (bf r 8 9) ar=dj (JM C lf r) 0 2 3 10 11 F h:=bn (by kernel_rfl) aug auh
def JN(C:ad)(lf:Nat)(n:dq)(x0 x1 x2 x3:O)(h:U):ab:=
 a3 C 74 x0 x1 h λa k=>dn a λa b=>n x0 x2 x3 (some a) (some b) k
theorem auj{n:dq}:∀F h,au kf C lf [1,0] F h (dj n 0 2 3 10 11) a6 ar=bm (JN C lf n) 0 1 2 3 F h:=by
 intro F h;kernel_rfl
def JO(C:ad)(lf:Nat)(r:a0)(x0 x1 x2 x3:O)(h:U):ab:=
 JN C lf (JM C lf r) x0 x1 x2 x3 h
theorem auk{r:a0}:∀F h,au kf C lf [1] F h bc (bf r 8 9) ar=bm (JO C lf r) 0 1 2 3 F h:=bn (by kernel_rfl) aui auj
noncomputable def JP(C:ad)(lf:Nat)(n:br)(x0 x1 x2 x3:O)(h:U):ab:=
 n x0 x1 x2 x3 h
theorem aul{n:br}:∀F h,au kf C lf [0] F h (bm n 0 1 2 3) a6 ar=bm (JP C lf n) 0 1 2 3 F h:=by
 intro F h;kernel_rfl
def JQ(C:ad)(lf:Nat)(r:a0)(x0 x1 x2 x3:O)(h:U):ab:=
 JP C lf (JO C lf r) x0 x1 x2 x3 h
theorem aum{r:a0}:∀F h,au kf C lf [] F h bc (bf r 8 9) ar=bm (JQ C lf r) 0 1 2 3 F h:=bn (by kernel_rfl) auk aul
def uf(C:ad)(lf:Nat)(al an aD a7:J)(h:U):ab:=JQ C lf sQ (some al) (some an) (some aD) (some a7) h
def OC:cK ax:=rj kf uf (λC lf al an aD a7 h=>c8 (K:=(bf sQ 8 9)) (by kernel_rfl) (Eq.trans (aum _ h) (by kernel_rfl))) (by kernel_rfl)
def l7:ca ax:=dv 75 Tryd.f75 Tryd.func75 (by kernel_rfl)
noncomputable def nJ(aM:O)(h:U):ab:=
 ob aM λa=>some (.ret a,h)
noncomputable def EL(C:ad)(lf:Nat)(r:aC)(h:U):ab:=
 r (some (.bool true)) h
theorem au9{r:aC}:∀F h,au l7 C lf [1,1,1,1,1,1] F h bc (aX r 6) ar=dZ (EL C lf r) F h:=by
 intro F h;kernel_rfl
def EM(C:ad)(lf:Nat)(n:dz)(r:aC)(az:cq)(x3 aT x9 uV uW tH:O)(h:U):ab:=
 lX .lss 3 tH uW (ob uV λa=>r4 1 a tH h λa=>ob (eC a) λb=>ob (b0 b h) λb=>eF .gtr 3 b (I 0) (cB .add 3 tH (I 1) λa=>n x3 aT x9 uV uW (some a) h) (ob x3 λb=>ob (b0 b h) λb=>tr 0 b h λb=>da C 17 [b] h λb k=>dn b λb c=>eF .neq 26 c (I 0) (ob x9 λa=>fb false C a [] k λa=>r (some (.bool false))) (cm .add 3 b (I 1) λb=>ob (eC a) λc=>ob (st 1 c b k) λk=>ob aT λb=>ob (b0 b k) λb=>b2 (iJ ax 143 1 [0] [a] k) λa k=>b2 (gA ax .append #[143,143] [b,a] k) λa k=>ob aT λb=>ob (st 1 b a k) λk=>cB .add 3 tH (I 1) λa=>n x3 aT x9 uV uW (some a) k))) (az h)
theorem ava{n:dz}{r:aC}{az:cq}:∀F h,au l7 C lf [1,1,1,1,1,0,1,0,0] F h (ej n 3 8 9 50 51 52) (aX r 6) (bS 1 (dZ az) ar)=ej (EM C lf n r az) 3 8 9 50 51 52 F h:=by
 intro F h;kernel_rfl
def yw(C:ad)(lf:Nat)(r:aC)(az:cq)(k:O×O×O×O×O×O->U->ab)(s:O×O×O×O×O×O)(h:U):ab:=
 EM C lf (λa b c d g i=>k (a,b,c,d,g,i)) r az s.1 s.2.1 s.2.2.1 s.2.2.2.1 s.2.2.2.2.1 s.2.2.2.2.2 h
def TZ(C:ad)(lf:Nat)(n:dz)(x1 x2 x3 x7 aT x9:O)(h:U):ab:=
 ob x7 λa=>a3 C 76 x1 x2 h λb k=>b2 (iJ ax 143 1 [0] [b] k) λb k=>b2 (gA ax .append #[143,143] [a,b] k) λa k=>mg 143 a λb=>n x3 aT x9 (some a) (some b) (bE 0) k
theorem avb{n:dz}:∀F h,au l7 C lf [1,1,1,1,1,0,0] F h (ej n 3 8 9 50 51 52) a6 ar=ej (TZ C lf n) 1 2 3 7 8 9 F h:=by
 intro F h;kernel_rfl
def T0(C:ad)(lf:Nat)(n:cq)(r:aC)(x1 x2 x3 x7 aT x9:O)(h:U):ab:=
 TZ C lf (λa b c d g i=>bp (yw C lf r n) lf (a,b,c,d,g,i)) x1 x2 x3 x7 aT x9 h
theorem avc{n:cq}{r:aC}:∀F h,au l7 C lf [1,1,1,1,1,0] F h (dZ n) (aX r 6) ar=ej (T0 C lf n r) 1 2 3 7 8 9 F h:=bn (b:=b9 l7 [1,1,1,1,1,0,1]) (by kernel_rfl) (fX (id:=1) (a:=b9 l7 [1,1,1,1,1,0,1,0]) (by kernel_rfl) (gX (g:=λF=>(F 3,F 8,F 9,F 50,F 51,F 52)) (body:=yw C lf r n) (by kernel_rfl) (λk=>(ava (n:=λx3 aT x9 uV uW tH h=>k (x3,aT,x9,uV,uW,tH) h))))) (avb (n:=λx3 aT x9 uV uW tH h=>bp (yw C lf r n) lf (x3,aT,x9,uV,uW,tH) h))
def T1(C:ad)(lf:Nat)(r:aC)(x1 x2 x3 x7 aT x9:O)(h:U):ab:=
 T0 C lf (EL C lf r) r x1 x2 x3 x7 aT x9 h
theorem avd{r:aC}:∀F h,au l7 C lf [1,1,1,1,1] F h bc (aX r 6) ar=ej (T1 C lf r) 1 2 3 7 8 9 F h:=bn (by kernel_rfl) au9 avc
noncomputable def T2(C:ad)(lf:Nat)(n:dz)(x1 x2 x3 x7 aT:O)(h:U):ab:=
 ob aT λa=>ob x3 λb=>n x1 x2 x3 x7 aT (some (.fn (.func 90) [] [a,b])) h
theorem ave{n:dz}:∀F h,au l7 C lf [1,1,1,1,0] F h (ej n 1 2 3 7 8 9) a6 ar=dj (T2 C lf n) 1 2 3 7 8 F h:=by
 intro F h;kernel_rfl
def T3(C:ad)(lf:Nat)(r:aC)(x1 x2 x3 x7 aT:O)(h:U):ab:=
 T2 C lf (T1 C lf r) x1 x2 x3 x7 aT h
theorem avf{r:aC}:∀F h,au l7 C lf [1,1,1,1] F h bc (aX r 6) ar=dj (T3 C lf r) 1 2 3 7 8 F h:=bn (by kernel_rfl) avd ave
noncomputable def T4(C:ad)(lf:Nat)(n:dq)(x1 x2 x3 x7:O)(h:U):ab:=
 b2 (q5 ax 143 h) λa=>n x1 x2 x3 x7 (some a)
theorem avg{n:dq}:∀F h,au l7 C lf [1,1,1,0] F h (dj n 1 2 3 7 8) a6 ar=bm (T4 C lf n) 1 2 3 7 F h:=by
 intro F h;kernel_rfl
def yW(C:ad)(lf:Nat)(r:aC)(x1 x2 x3 x7:O)(h:U):ab:=
 T4 C lf (T3 C lf r) x1 x2 x3 x7 h
theorem avh{r:aC}:∀F h,au l7 C lf [1,1,1] F h bc (aX r 6) ar=bm (yW C lf r) 1 2 3 7 F h:=bn (by kernel_rfl) avf avg
def wy(C:ad)(lf:Nat)(n:br)(r:aC)(x1 x2 x3 x7:O)(h:U):ab:=
 a3 C 76 x1 x2 h λa k=>ob (eC a) λa=>ob (b0 a k) λa=>eF .gtr 3 a (I 0) (r (some (.bool true)) k) (gT .geq 3 x2 (I 22) (gO 35 x1 λa=>ob x1 λb=>cB .sub 3 x2 (I 22) λc=>cm .quo 3 c (I 16) λc=>ed 36 b λb=>ob (ev 16 17 b c) λb=>ob (b5 0 b) λb=>b2 (iJ ax 143 2 [0,1] [a,b] k) λa=>n x1 x2 x3 (some a)) (gT .geq 3 x2 (I 6) (gO 18 x1 λa=>ob (b5 0 a) λa=>b2 (iJ ax 143 1 [0] [a] k) λa=>n x1 x2 x3 (some a)) (n x1 x2 x3 x7 k)))
theorem avi{n:br}{r:aC}:∀F h,au l7 C lf [1,1,0] F h (bm n 1 2 3 7) (aX r 6) ar=bm (wy C lf n r) 1 2 3 7 F h:=by
 intro F h;kernel_rfl
def aeM(C:ad)(lf:Nat)(r:aC)(x1 x2 x3 x7:O)(h:U):ab:=
 wy C lf (yW C lf r) r x1 x2 x3 x7 h
theorem avj{r:aC}:∀F h,au l7 C lf [1,1] F h bc (aX r 6) ar=bm (aeM C lf r) 1 2 3 7 F h:=bn (by kernel_rfl) avh avi
noncomputable def aeN(C:ad)(lf:Nat)(n:br)(x1 x2 x3:O)(h:U):ab:=
 n x1 x2 x3 (some (.val (.slice none 0 0))) h
theorem avk{n:br}:∀F h,au l7 C lf [1,0] F h (bm n 1 2 3 7) a6 ar=bB (aeN C lf n) 1 2 3 F h:=by
 intro F h;kernel_rfl
def aeO(C:ad)(lf:Nat)(r:aC)(x1 x2 x3:O)(h:U):ab:=
 aeN C lf (aeM C lf r) x1 x2 x3 h
theorem avl{r:aC}:∀F h,au l7 C lf [1] F h bc (aX r 6) ar=bB (aeO C lf r) 1 2 3 F h:=bn (by kernel_rfl) avj avk
noncomputable def T5(C:ad)(lf:Nat)(n:bG)(x0 x1 x2:O)(h:U):ab:=
 ob x0 λa=>b2 (q7 64 a h) λa=>n x1 x2 (some a)
theorem avm{n:bG}:∀F h,au l7 C lf [0] F h (bB n 1 2 3) a6 ar=bB (T5 C lf n) 0 1 2 F h:=by
 intro F h;kernel_rfl
def T6(C:ad)(lf:Nat)(r:aC)(x0 x1 x2:O)(h:U):ab:=
 T5 C lf (aeO C lf r) x0 x1 x2 h
theorem avn{r:aC}:∀F h,au l7 C lf [] F h bc (aX r 6) ar=bB (T6 C lf r) 0 1 2 F h:=bn (by kernel_rfl) avl avm
def CP(C:ad)(lf:Nat)(al an aD:J)(h:U):ab:=T6 C lf nJ (some al) (some an) (some aD) h
def OI:cK ax:=nx l7 CP (λC lf al an aD h=>c8 (K:=(aX nJ 6)) (by kernel_rfl) (Eq.trans (avn _ h) (by kernel_rfl))) (by kernel_rfl)
def Ae:ca ax:=dv 90 Tryd.f90 Tryd.func90 (by kernel_rfl)
noncomputable def N9(h:U):ab:=
 some (.ret (.bo []),h)
def EW(C:ad)(lf:Nat)(n:br)(aB:cq)(x1 bV e2 aM:O)(h:U):ab:=
 lX .lss 3 aM e2 (ob bV λa=>r4 1 a aM h λa=>ob x1 λb=>ob (b0 b h) λb=>tr 0 b h λb=>ob (eC a) λc=>ob (b0 c h) λc=>cm .sub 3 c (I 1) λc=>dP (C (.fn 23) [b,c] h) λb k=>ob (eC a) λa=>ob (st 1 a (I 0) k) λk=>cB .add 3 aM (I 1) λa=>n x1 bV e2 (some a) k) (aB h)
theorem awV{n:br}{aB:cq}:∀F h,au Ae C lf [1,0,0] F h (bm n 1 4 5 6) a6 (bS 0 (dZ aB) ar)=bm (EW C lf n aB) 1 4 5 6 F h:=by
 intro F h;kernel_rfl
def AV(C:ad)(lf:Nat)(aB:cq)(k:O×O×O×O->U->ab)(s:O×O×O×O)(h:U):ab:=
 EW C lf (λa b c d=>k (a,b,c,d)) aB s.1 s.2.1 s.2.2.1 s.2.2.2 h
def U2(C:ad)(lf:Nat)(n:br)(x0 x1:O)(h:U):ab:=
 ob x0 λa=>ob (b0 a h) λa=>mg 143 a λb=>n x1 (some a) (some b) (bE 0) h
theorem awW{n:br}:∀F h,au Ae C lf [0] F h (bm n 1 4 5 6) a6 ar=bf (U2 C lf n) 0 1 F h:=by
 intro F h;kernel_rfl
def U3(C:ad)(lf:Nat)(n:cq)(x0 x1:O)(h:U):ab:=
 U2 C lf (λa b c d=>bp (AV C lf n) lf (a,b,c,d)) x0 x1 h
theorem awX{n:cq}:∀F h,au Ae C lf [] F h (dZ n) a6 ar=bf (U3 C lf n) 0 1 F h:=bn (b:=b9 Ae [1]) (by kernel_rfl) (fX (id:=0) (a:=b9 Ae [1,0]) (by kernel_rfl) (gX (g:=λF=>(F 1,F 4,F 5,F 6)) (body:=AV C lf n) (by kernel_rfl) (λk=>(awV (n:=λx1 bV e2 aM h=>k (x1,bV,e2,aM) h))))) (awW (n:=λx1 bV e2 aM h=>bp (AV C lf n) lf (x1,bV,e2,aM) h))
def HN(C:ad)(lf:Nat)(al an:J)(h:U):ab:=U3 C lf N9 (some al) (some an) h
def aaX:cK ax:=hP Ae HN (λC lf al an h=>c8 (K:=(dZ N9)) (by kernel_rfl) (Eq.trans (awX _ h) (by kernel_rfl))) (by kernel_rfl)
def m5:ca ax:=dv 78 Tryd.f78 Tryd.func78 (by kernel_rfl)
noncomputable def ue(h:U):ab:=
 some (.ret (.bo []),h)
def Bj(C:ad)(lf:Nat)(n:cq)(x0 x1 aM:O)(h:U):ab:=
 ob aM λa=>gx a (ob x0 λa=>gO 35 x1 λb=>da C 91 [a,b] h λa=>n) (n h)
theorem avy{n:cq}:∀F h,au m5 C lf [1,1,1,1] F h (dZ n) a6 ar=bB (Bj C lf n) 0 1 6 F h:=by
 intro F h;kernel_rfl
def T9(C:ad)(lf:Nat)(n:br)(x0 x1 aM hr:O)(h:U):ab:=
 cB .add 3 hr (I 1) λa=>n x0 x1 aM (some a) h
def Ua(C:ad)(lf:Nat)(n:br)(x0 x1 aM x7 hr:O)(h:U):ab:=
 ob aM λa=>dJ a x1 h λb k=>dJ a x7 k λc k=>dJ a (eC b) k λb k=>dJ a (b5 36 b) k λb k=>dJ a (ev 16 17 b c) k λb k=>dJ a (b5 0 b) k λb k=>h4 .gtr 3 a (b0 b k) (I 0) k λb k=>nk a b λa=>n x0 x1 (some a) hr k
def Ub(C:ad)(lf:Nat)(n:dq)(x0 x1 aM x7 hr:O)(h:U):ab:=
 ob x1 λa=>ob x7 λb=>ed 36 a λa=>ob (ev 16 17 a b) λa=>ob (iD 17 a h) λa=>da C 92 [a] h λa k=>fV a (ob x0 λa=>ob x1 λb=>ob x7 λc=>ed 36 b λb=>ob (ev 16 17 b c) λb=>ob (b5 0 b) λb=>da C 91 [a,b] k λa=>n x0 x1 aM x7 hr) (n x0 x1 aM x7 hr k)
def Uc(C:ad)(lf:Nat)(n:br)(x0 x1 aM x7 hr:O)(h:U):ab:=
 Ub C lf (Ua C lf n) x0 x1 aM x7 hr h
noncomputable def Ud(C:ad)(lf:Nat)(n:dq)(x0 x1 aM hr:O)(h:U):ab:=
 ob hr λa=>n x0 x1 aM (some a) hr h
def Ue(C:ad)(lf:Nat)(n:br)(x0 x1 aM hr:O)(h:U):ab:=
 Ud C lf (Uc C lf n) x0 x1 aM hr h
def Uf(C:ad)(lf:Nat)(n:br)(x0 x1 aM hr:O)(h:U):ab:=
 Ue C lf (T9 C lf n) x0 x1 aM hr h
noncomputable def JS(C:ad)(lf:Nat)(n:br)(aw:bG)(x0 x1 aM hr Wk:O)(h:U):ab:=
 ob Wk λa=>fV a (n x0 x1 aM hr h) (aw x0 x1 aM h)
def JT(C:ad)(lf:Nat)(n:br)(aw:bG)(x0 x1 aM hr Wk:O)(h:U):ab:=
 JS C lf (Uf C lf n) aw x0 x1 aM hr Wk h
def JU(C:ad)(lf:Nat)(n:dq)(x0 x1 aM hr:O)(h:U):ab:=
 cB .lss 3 hr (I 16) λa=>n x0 x1 aM hr (some a) h
def yX(C:ad)(lf:Nat)(n:br)(aw:bG)(x0 x1 aM hr:O)(h:U):ab:=
 JU C lf (JT C lf n aw) x0 x1 aM hr h
theorem avq{n:br}{aw:bG}:∀F h,au m5 C lf [1,1,1,0,1,0,0] F h (bm n 0 1 6 28) a6 (bS 2 (bB aw 0 1 6) ar)=bm (yX C lf n aw) 0 1 6 28 F h:=by
 intro F h;kernel_rfl
def v5(C:ad)(lf:Nat)(aw:bG)(k:O×O×O×O->U->ab)(s:O×O×O×O)(h:U):ab:=
 yX C lf (λa b c d=>k (a,b,c,d)) aw s.1 s.2.1 s.2.2.1 s.2.2.2 h
def aeP(C:ad)(lf:Nat)(n:br)(x0 x1 aM:O)(h:U):ab:=
 n x0 x1 aM (bE 0) h
theorem avr{n:br}:∀F h,au m5 C lf [1,1,1,0,0] F h (bm n 0 1 6 28) a6 ar=bB (aeP C lf n) 0 1 6 F h:=by
 intro F h;kernel_rfl
def aeQ(C:ad)(lf:Nat)(n:bG)(x0 x1 aM:O)(h:U):ab:=
 aeP C lf (λa b c d=>bp (v5 C lf n) lf (a,b,c,d)) x0 x1 aM h
theorem avs{n:bG}:∀F h,au m5 C lf [1,1,1,0] F h (bB n 0 1 6) a6 ar=bB (aeQ C lf n) 0 1 6 F h:=bn (b:=b9 m5 [1,1,1,0,1]) (by kernel_rfl) (fX (id:=2) (a:=b9 m5 [1,1,1,0,1,0]) (by kernel_rfl) (gX (g:=λF=>(F 0,F 1,F 6,F 28)) (body:=v5 C lf n) (by kernel_rfl) (λk=>(avq (n:=λx0 x1 aM hr h=>k (x0,x1,aM,hr) h))))) (avr (n:=λx0 x1 aM hr h=>bp (v5 C lf n) lf (x0,x1,aM,hr) h))
def aeR(C:ad)(lf:Nat)(n:cq)(x0 x1 aM:O)(h:U):ab:=
 aeQ C lf (Bj C lf n) x0 x1 aM h
theorem avt{n:cq}:∀F h,au m5 C lf [1,1,1] F h (dZ n) a6 ar=bB (aeR C lf n) 0 1 6 F h:=bn (by kernel_rfl) avy avs
noncomputable def aeS(C:ad)(lf:Nat)(n:bG)(x0 x1:O)(h:U):ab:=
 n x0 x1 (some (.bool false)) h
theorem avu{n:bG}:∀F h,au m5 C lf [1,1,0] F h (bB n 0 1 6) a6 ar=bf (aeS C lf n) 0 1 F h:=by
 intro F h;kernel_rfl
def JV(C:ad)(lf:Nat)(n:cq)(x0 x1:O)(h:U):ab:=
 aeS C lf (aeR C lf n) x0 x1 h
theorem avv{n:cq}:∀F h,au m5 C lf [1,1] F h (dZ n) a6 ar=bf (JV C lf n) 0 1 F h:=bn (by kernel_rfl) avt avu
def JW(C:ad)(lf:Nat)(n:a0)(x0 x1:O)(h:U):ab:=
 gO 18 x1 λa=>ob (iD 17 a h) λa=>da C 92 [a] h λa k=>fV a (ob x0 λa=>gO 18 x1 λb=>ob (b5 0 b) λb=>da C 91 [a,b] k λa=>n x0 x1) (n x0 x1 k)
theorem avw{n:a0}:∀F h,au m5 C lf [1,0] F h (bf n 0 1) a6 ar=bf (JW C lf n) 0 1 F h:=by
 intro F h;kernel_rfl
def wz(C:ad)(lf:Nat)(n:cq)(x0 x1:O)(h:U):ab:=
 JW C lf (JV C lf n) x0 x1 h
theorem avx{n:cq}:∀F h,au m5 C lf [1] F h (dZ n) a6 ar=bf (wz C lf n) 0 1 F h:=bn (by kernel_rfl) avv avw
def EN(C:ad)(lf:Nat)(n:bG)(aB:a0)(x0 x1 x2:O)(h:U):ab:=
 gT .lss 3 x2 (I 278) (ob x0 λa=>a3 C 76 x1 x2 h λb k=>da C 91 [a,b] k λa k=>cB .add 3 x2 (I 1) λa=>n x0 x1 (some a) k) (aB x0 x1 h)
theorem avz{n:bG}{aB:a0}:∀F h,au m5 C lf [0,0,0] F h (bB n 0 1 2) a6 (bS 0 (bf aB 0 1) ar)=bB (EN C lf n aB) 0 1 2 F h:=by
 intro F h;kernel_rfl
def AS(C:ad)(lf:Nat)(aB:a0)(k:O×O×O->U->ab)(s:O×O×O)(h:U):ab:=
 EN C lf (λa b c=>k (a,b,c)) aB s.1 s.2.1 s.2.2 h
def aeT(C:ad)(lf:Nat)(n:cq)(x0 x1 x2:O)(h:U):ab:=
 bp (AS C lf (wz C lf n)) lf (x0,x1,x2) h
theorem avA{n:cq}:∀F h,au m5 C lf [] F h (dZ n) a6 ar=bB (aeT C lf n) 0 1 2 F h:=bn (a:=b9 m5 [0]) (by kernel_rfl) avx (fX (id:=0) (a:=b9 m5 [0,0]) (by kernel_rfl) (gX (g:=λF=>(F 0,F 1,F 2)) (body:=AS C lf (λx0 x1 h=>wz C lf n x0 x1 h)) (by kernel_rfl) (λk=>(avz (n:=λx0 x1 x2 h=>k (x0,x1,x2) h)))))
def HJ(C:ad)(lf:Nat)(al an aD:J)(h:U):ab:=aeT C lf ue (some al) (some an) (some aD) h
def aaP:cK ax:=nx m5 HJ (λC lf al an aD h=>c8 (K:=(dZ ue)) (by kernel_rfl) (Eq.trans (avA _ h) (by kernel_rfl))) (by kernel_rfl)
end
section
open Classical
noncomputable def kY(nd:Nat->Nat->J)(i:Nat)(S:Nat->Prop):Nat->Nat->J:=λi' a2=>if i'=i/\S a2 then I 0 else nd i' a2
noncomputable def dA(bl:Nat->Nat->Nat)(i:Nat)(S:Nat->Prop):Nat->Nat->Nat:=λi' a2=>if i'=i/\S a2 then 0 else bl i' a2
theorem ajU{nd:Nat->Nat->J}{i:Nat}{S:Nat->Prop}{c:Nat}(h:S c):kY nd i S i c=I 0:=if_pos ⟨rfl,h⟩
theorem GJ{nd:Nat->Nat->J}{i:Nat}{S:Nat->Prop}{i' c:Nat}(h:¬(i'=i/\S c)):kY nd i S i' c=nd i' c:=if_neg h
theorem om{bl:Nat->Nat->Nat}{i:Nat}{S:Nat->Prop}{c:Nat}(h:S c):dA bl i S i c=0:=if_pos ⟨rfl,h⟩
theorem iM{bl:Nat->Nat->Nat}{i:Nat}{S:Nat->Prop}{i' c:Nat}(h:¬(i'=i/\S c)):dA bl i S i' c=bl i' c:=if_neg h
theorem MR(nd:Nat->Nat->J)(i:Nat)(S e4:Nat->Prop):kY (kY nd i S) i e4=kY nd i (λc=>S c\/e4 c):=by
 funext i' c
 unfold kY;by_cases e:i'=i<;>by_cases a:S c<;>by_cases a':e4 c<;>simp[e,a,a']
theorem Cl(bl:Nat->Nat->Nat)(i:Nat)(S e4:Nat->Prop):dA (dA bl i S) i e4=dA bl i (λc=>S c\/e4 c):=by
 funext i' c
 unfold dA;by_cases e:i'=i<;>by_cases a:S c<;>by_cases a':e4 c<;>simp[e,a,a']
theorem ajT(nd:Nat->Nat->J)(i c:Nat):cO nd i c (I 0)=kY nd i (· =c):=by
 funext i' a2;unfold cO kY;by_cases e:i'=i/\a2=c
 ·rw[if_pos e,if_pos e]
 ·rw[if_neg e,if_neg e]
theorem ajS(bl:Nat->Nat->Nat)(i c:Nat):j5 bl i c 0=dA bl i (· =c):=by
 funext i' a2;unfold j5 dA;by_cases e:i'=i/\a2=c
 ·rw[if_pos e,if_pos e]
 ·rw[if_neg e,if_neg e]
theorem GK(nd:Nat->Nat->J)(i:Nat){S:Nat->Prop}(h:∀c,¬S c):kY nd i S=nd:=by
 funext i' c;exact GJ λe=>h c e.2
theorem MQ(bl:Nat->Nat->Nat)(i:Nat){S:Nat->Prop}(h:∀c,¬S c):dA bl i S=bl:=by
 funext i' c;exact iM λe=>h c e.2
structure hs (h h':U) (T:dU) (n N:Nat) (wd c6 b:Nat->Nat) (now:Int) (us:Nat->Bool) (nd:Nat->Nat->J) (bl:Nat->Nat->Nat) (i:Nat) (S:Nat->Prop):Prop where
 A:bx h' T n N c6 b now us (kY nd i S)
 M:cR n N c6 (kY nd i S) (dA bl i S)
 O:∀j,bU c6 j=true↔(bU wd j=true/\∀c,12<=c->c<308->S c->bl i c≠j+1)
 F:aN h h' (λj=>j=T.bJ\/j=T.aG)
section
variable{lf:Nat}{h h' fh:U}{T:dU}{n N:Nat}{wd c6 Fq b:Nat->Nat}{now:Int}{us:Nat->Bool}{nd:Nat->Nat->J}{bl:Nat->Nat->Nat}{i:Nat}{S e4:Nat->Prop}
theorem hs.refl(A:bx h T n N wd b now us nd)(M:cR n N wd nd bl)(eu:∀c,¬S c):hs h h T n N wd wd b now us nd bl i S:=
 ⟨by rw[GK nd i eu];exact A,by rw[GK nd i eu,MQ bl i eu];exact M,λj=>⟨λe=>⟨e,λc _ _ ae=>absurd ae (eu c)⟩,λe=>e.1⟩,aN.refl _ _⟩
theorem hs.trans(a:hs h h' T n N wd c6 b now us nd bl i S)(c:hs h' fh T n N c6 Fq b now us (kY nd i S) (dA bl i S) i e4):hs h fh T n N wd Fq b now us nd bl i (λc=>S c\/e4 c):=by
 refine⟨by rw[<- MR];exact c.A,by rw[<- MR, <- Cl];exact c.M,λj=>?_,a.F.trans c.F⟩;rw[c.O,a.O];constructor
 ·rintro ⟨⟨h1,h2⟩,h3⟩
  refine⟨h1,λc dB ae eu=>?_⟩;by_cases e:S c
  ·exact h2 c dB ae e
  ·have:=h3 c dB ae (eu.resolve_left e)
   rw[iM (λx=>e x.2)] at this;exact this
 ·rintro ⟨h1,h2⟩
  refine⟨⟨h1,λc dB ae eu=>h2 c dB ae (.inl eu)⟩,λc dB ae eu=>?_⟩;by_cases e:S c
  ·rw[om e];omega
  ·rw[iM (λx=>e x.2)];exact h2 c dB ae (.inr eu)
theorem hs.ext(a:hs h h' T n N wd c6 b now us nd bl i S)(eu:∀c,S c↔e4 c):hs h h' T n N wd c6 b now us nd bl i e4:=by
 have:S=e4:=funext λc=>propext (eu c)
 rw[<- this];exact a
theorem hs.after(F:aN h h' (λ_=>False))(A:bx h T n N wd b now us nd)(a:bx h' T n N wd b now us nd->hs h' fh T n N wd c6 b now us nd bl i S):hs h fh T n N wd c6 b now us nd bl i S:=by
 have wU:bx h' T n N wd b now us nd:=A.frame F.next λj aa=>F.same j (by
  rcases aa with rfl|rfl|rfl|rfl
  ·exact A.lt
  ·exact A.st.wa
  ·exact A.st.v8
  ·exact A.la) (λx=>x)
 have d:=a wU;exact⟨d.A,d.M,d.O,(aN.eb F (λ_ x=>x.elim)).trans d.F⟩
theorem GW{C:ad}(D:u6 C)(A:bx h T n N wd b now us nd)(M:cR n N wd nd bl)(hi:i<N){c:Nat}(dB:12<=c)(ae:c<308):
 ∃h' c6,C (.fn 91) [.ptr T.a9 0,.ptr T.aG (i*308+c)] h=some (.ret (.bo []),h')/\hs h h' T n N wd c6 b now us nd bl i (· =c):=by
 obtain⟨h',e,b7,hO,aL⟩:=akL D A M hi dB ae;rw[ajT] at b7 hO;rw[ajS] at hO;refine⟨h',_,e,⟨b7,hO,λj=>?_,aL⟩⟩;unfold xu;by_cases aB:bl i c=0
 ·rw[if_pos aB];exact⟨λx=>⟨x,λa2 _ _ h=>by rw[h,aB];omega⟩,λx=>x.1⟩
 ·rw[if_neg aB,QL A.st.iI,Bool.and_eq_true,decide_eq_true_eq];exact⟨λx=>⟨x.1,λa2 _ _ h=>by rw[h];omega⟩,λx=>⟨x.1,λe=>x.2 c dB ae rfl (by omega)⟩⟩
theorem qT{m:Nat}:12<=a4 m:=by unfold a4;split<;>(try split)<;>omega
theorem r6{m:Nat}(hm:m<278):a4 m<308:=by unfold a4;split<;>(try split)<;>omega
def gP(k m:Nat)(c:Nat):Prop:=∃j,k<=j/\j<m/\c=a4 j
theorem akA{C:ad}(D:u6 C)(nw:su C)(aB:a0)(hi:i<N):∀(d:Nat) (m:Nat) (h:U) (wd:Nat->Nat) (nd:Nat->Nat->J) (bl:Nat->Nat->Nat),m+d=278->∀f,d<f->
 bx h T n N wd b now us nd->cR n N wd nd bl->∃h' c6,bp (AS C lf aB) f (some (.ptr T.a9 0),some (.ptr T.aG (i*308)),some (I (m:Int))) h=aB (some (.ptr T.a9 0)) (some (.ptr T.aG (i*308))) h'/\
  hs h h' T n N wd c6 b now us nd bl i (gP m 278):=by
 intro d
 induction d with
 |zero=>
  intro m h wd nd bl hm f ak A M;obtain⟨f,rfl⟩:=dE f (by omega);refine⟨h,wd,?_,hs.refl A M λc ⟨j,h1,h2,_⟩=>by omega⟩;rw[dh];unfold AS EN;have a8:decide ((m:Int)<278)=false:=bq (by omega);simp only[aE,a8]
 |succ d ba=>
  intro m h wd nd bl hm f ak A M;obtain⟨f,rfl⟩:=dE f (by omega);have qu:m<278:=by omega
  obtain⟨h1,o0,az,d1⟩:=GW D A M hi (qT (m:=m)) (r6 qu);obtain⟨h2,ze,aw,d2⟩:=ba (m+1) h1 o0 _ _ (by omega) f (by omega) d1.A d1.M;refine⟨h2,ze,?_,(d1.trans d2).ext λc=>?_⟩
  ·rw[dh, <- aw];have a8:decide ((m:Int)<278)=true:=bw (by omega);have aj:IntKind.i64.wrap ((m:Int)+1)=((m+1:Nat):Int):=cH (by omega);have aA:=nw h T.aG (i*308) m qu;show EN C lf (λx0 x1 x2 h=>bp (AS C lf aB) f (x0,x1,x2) h) aB (some (.ptr T.a9 0)) (some (.ptr T.aG (i*308))) (some (I (m:Int))) h=_;unfold EN;simp only[aE,a8,aA,az,aj]
  ·constructor
   ·rintro (rfl|⟨j,a,b,c⟩)
    ·exact⟨m,Nat.le_refl _,qu,rfl⟩
    ·exact⟨j,by omega,b,c⟩
   ·rintro ⟨j,a,b,c⟩
    by_cases e:j=m
    ·subst e;exact .inl c
    ·exact .inr ⟨j,by omega,b,c⟩
end
end
section
open Classical
section
variable{lf:Nat}{h h' fh:U}{T:dU}{n N:Nat}{wd c6 Fq b:Nat->Nat}{now:Int}{us:Nat->Bool}{nd:Nat->Nat->J}{bl:Nat->Nat->Nat}{i:Nat}{S e4:Nat->Prop}
theorem Zk(A:bx h T n N wd b now us nd)(M:cR n N wd nd bl)(hi:i<N){c:Nat}(dB:12<=c)(ae:c+17<=308):iD 17 (.ptr T.aG (i*308+c)) h=some (.agg (mA λj=>bl i (c+j))):=by
 obtain⟨md,qv,_,_⟩:=A.wn
 have:h.cells T.aG (i*308+c) 17=some (mA λj=>bl i (c+j)):=by
  refine qd (by simp[mA]) λj aa=>?_
  rw[Nat.add_assoc,A.ec i (c+j) hi (by omega),M.cell i (c+j) hi (by omega) (by omega)];simp[mA,aa]
 rw[v7 qv,this];rfl
def hole(bl:Nat->Nat->Nat)(i c:Nat):Bool:=(List.range 16).all λj=>bl i (c+(1+j))==0
theorem oI{bl:Nat->Nat->Nat}{i c:Nat}:hole bl i c=true↔∀j,j<16->bl i (c+(1+j))=0:=by
 simp[hole]
def z4(bl:Nat->Nat->Nat)(i p q:Nat)(c:Nat):Prop:=∃j,p<=j/\j<q/\c=36+17*j/\hole bl i (36+17*j)=true
def pj(bl:Nat->Nat->Nat)(i p q:Nat):Prop:=∃j,p<=j/\j<q/\0<bl i (36+17*j)/\hole bl i (36+17*j)=false
theorem Il(bl:Nat->Nat->Nat)(i q j:Nat):hole (dA bl i (· =36+17*q)) i (36+17*j)=hole bl i (36+17*j):=by
 have h1:∀t,t<16->dA bl i (· =36+17*q) i (36+17*j+(1+t))=bl i (36+17*j+(1+t)):=λt aK=>iM (by omega)
 rw[Bool.eq_iff_iff,oI,oI];exact⟨λh t aK=>by rw[<- h1 t aK];exact h t aK,λh t aK=>by rw[h1 t aK];exact h t aK⟩
theorem aiE(bl:Nat->Nat->Nat)(i q:Nat):pj (dA bl i (· =36+17*q)) i (q+1) 16↔pj bl i (q+1) 16:=by
 constructor
 ·rintro ⟨j,h1,h2,h3,aU⟩
  rw[Il] at aU;rw[iM (by omega)] at h3;exact⟨j,h1,h2,h3,aU⟩
 ·rintro ⟨j,h1,h2,h3,aU⟩
  refine⟨j,h1,h2,?_,by rw[Il];exact aU⟩;rw[iM (by omega)];exact h3
theorem Xt(bl:Nat->Nat->Nat)(i q:Nat)(aZ:q<16):pj bl i q 16↔((0<bl i (36+17*q)/\hole bl i (36+17*q)=false)\/pj bl i (q+1) 16):=by
 constructor
 ·rintro ⟨j,h1,h2,h3,aU⟩
  by_cases e:j=q
  ·subst e;exact .inl ⟨h3,aU⟩
  ·exact .inr ⟨j,by omega,h2,h3,aU⟩
 ·rintro (⟨h3,aU⟩|⟨j,h1,h2,h3,aU⟩)
  ·exact⟨q,Nat.le_refl _,aZ,h3,aU⟩
  ·exact⟨j,by omega,h2,h3,aU⟩
theorem alB(bl:Nat->Nat->Nat)(i q c:Nat)(aZ:q<16)(cj:hole bl i (36+17*q)=true):(c=36+17*q\/z4 (dA bl i (· =36+17*q)) i (q+1) 16 c)↔z4 bl i q 16 c:=by
 constructor
 ·rintro (rfl|⟨j,h1,h2,h3,aU⟩)
  ·exact⟨q,Nat.le_refl _,aZ,rfl,cj⟩
  ·rw[Il] at aU;exact⟨j,by omega,h2,h3,aU⟩
 ·rintro ⟨j,h1,h2,h3,aU⟩
  by_cases e:j=q
  ·subst e;exact .inl h3
  ·exact .inr ⟨j,by omega,h2,h3,by rw[Il];exact aU⟩
theorem alC(bl:Nat->Nat->Nat)(i q c:Nat)(cj:hole bl i (36+17*q)=false):z4 bl i (q+1) 16 c↔z4 bl i q 16 c:=by
 constructor
 ·rintro ⟨j,h1,h2,h3,aU⟩
  exact⟨j,by omega,h2,h3,aU⟩
 ·rintro ⟨j,h1,h2,h3,aU⟩
  by_cases e:j=q
  ·subst e;rw[cj] at aU;cases aU
  ·exact⟨j,by omega,h2,h3,aU⟩
theorem akx{C:ad}(D:u6 C)(E:BQ C)(aw:bG)(hi:i<N):∀(d:Nat) (q:Nat) (any:Bool) (h:U) (wd:Nat->Nat) (nd:Nat->Nat->J) (bl:Nat->Nat->Nat),q+d=16->∀f,d<f->
 bx h T n N wd b now us nd->cR n N wd nd bl->∃h' c6,bp (v5 C lf aw) f (some (.ptr T.a9 0),some (.ptr T.aG (i*308)),some (.bool any),some (I (q:Int))) h=
  aw (some (.ptr T.a9 0)) (some (.ptr T.aG (i*308))) (some (.bool (any||decide (pj bl i q 16)))) h'/\
  hs h h' T n N wd c6 b now us nd bl i (z4 bl i q 16):=by
 intro d
 induction d with
 |zero=>
  intro q any h wd nd bl hm f ak A M;obtain⟨f,rfl⟩:=dE f (by omega);have yg:decide (pj bl i q 16)=false:=bq λ⟨j,h1,h2,_⟩=>by omega
  refine⟨h,wd,?_,hs.refl A M λc ⟨j,h1,h2,_⟩=>by omega⟩;rw[dh,yg,Bool.or_false];unfold v5 yX JU JT JS;have a8:decide ((q:Int)<16)=false:=bq (by omega);simp only[aE,a8]
 |succ d ba=>
  intro q any h wd nd bl hm f ak A M;obtain⟨f,rfl⟩:=dE f (by omega);have aZ:q<16:=by omega
  have a8:decide ((q:Int)<16)=true:=bw (by omega);have aj:IntKind.i64.wrap ((q:Int)+1)=((q+1:Nat):Int):=cH (by omega);have b3:=lT (n:=16) (s:=17) (k:=T.aG) (off:=i*308+36) (kd:= .i64) (i:=(q:Int)) (by omega) (by omega);rw[Int.toNat_natCast,show i*308+36+q*17=i*308+(36+17*q) by omega] at b3;have nR:=Zk A M hi (c:=36+17*q) (by omega) (by omega);obtain⟨h1,em,aL⟩:=E h (λj=>bl i (36+17*q+j));have ay:((List.range 16).all λj=>bl i (36+17*q+(1+j))==0)=hole bl i (36+17*q):=rfl;rw[ay] at em
  have b7:bx h1 T n N wd b now us nd:=(hs.after aL A λwU=>hs.refl (S:=λ_=>False) wU M (λ_ x=>x)).A |> λa=>by
   rw[GK nd i (λ_ x=>x)] at a;exact a
  cases cj:hole bl i (36+17*q) with
  |true=>
   obtain⟨h2,ze,YL,d2⟩:=GW D b7 M hi (c:=36+17*q) (by omega) (by omega);have akC:=hs.after aL A λ_=>d2
   have hv:(kY nd i (· =36+17*q)) i (36+17*q)=I 0:=ajU rfl;have ma:=d2.A.ec i (36+17*q) hi (by omega);rw[hv] at ma;obtain⟨h3,uQ,ch,d3⟩:=ba (q+1) any h2 ze _ _ (by omega) f (by omega) d2.A d2.M;refine⟨h3,uQ,?_,(akC.trans d3).ext λc=>?_⟩
   ·rw[dh];show yX C lf (λx0 x1 aM hr h=>bp (v5 C lf aw) f (x0,x1,aM,hr) h) aw (some (.ptr T.a9 0)) (some (.ptr T.aG (i*308))) (some (.bool any)) (some (I (q:Int))) h=_;unfold yX JU JT JS Uf Ue Ud Uc Ub Ua T9;have a1:decide ((0:Int)<0)=false:=by decide
    have py:decide (pj (dA bl i (· =36+17*q)) i (q+1) 16)=decide (pj bl i q 16):=by
     rw[decide_eq_decide,aiE,Xt bl i q aZ,cj];simp
    rw[py] at ch;rw[<- ch];rw[cj] at em;cases any with
    |true=>simp only[aE,Nat.add_zero,a8,b3,nR,em,YL,aj]
    |false=>simp only[aE,Nat.add_zero,a8,b3,nR,em,YL,aj,ma,a1]
   ·exact alB bl i q c aZ cj
  |false=>
   have Wz:=b7.ec i (36+17*q) hi (by omega);rw[M.cell i (36+17*q) hi (by omega) (by omega)] at Wz;obtain⟨h3,uQ,ch,d3⟩:=ba (q+1) (any||decide (0<bl i (36+17*q))) h1 wd nd bl (by omega) f (by omega) b7 M;refine⟨h3,uQ,?_,(hs.after aL A λ_=>d3).ext λc=>alC bl i q c cj⟩;rw[dh];show yX C lf (λx0 x1 aM hr h=>bp (v5 C lf aw) f (x0,x1,aM,hr) h) aw (some (.ptr T.a9 0)) (some (.ptr T.aG (i*308))) (some (.bool any)) (some (I (q:Int))) h=_;unfold yX JU JT JS Uf Ue Ud Uc Ub Ua T9;have a1:decide ((0:Int)<(bl i (36+17*q):Int))=decide (0<bl i (36+17*q)):=by rw[decide_eq_decide];omega
   have py:(any||decide (0<bl i (36+17*q))||decide (pj bl i (q+1) 16))=(any||decide (pj bl i q 16)):=by
    rw[Bool.or_assoc, <- Bool.decide_or];congr 1;rw[decide_eq_decide,Xt bl i q aZ,cj];simp
   rw[py] at ch;rw[<- ch];rw[cj] at em;cases any with
   |true=>simp only[aE,Nat.add_zero,a8,b3,nR,em,aj,Bool.true_or]
   |false=>simp only[aE,Nat.add_zero,a8,b3,nR,em,aj,Wz,a1,Bool.false_or]
end
end
section
open Classical
section
variable{lf:Nat}{h h' fh:U}{T:dU}{n N:Nat}{wd c6 Fq b:Nat->Nat}{now:Int}{us:Nat->Bool}{nd:Nat->Nat->J}{bl:Nat->Nat->Nat}{i:Nat}{S e4:Nat->Prop}
theorem tu{m:Nat}(hm:m<278):a4 m≠18/\a4 m≠35/\∀q,q<16->a4 m≠36+17*q:=by
 unfold a4;split
 ·exact⟨by omega,by omega,λq aZ=>by omega⟩
 ·split
  ·exact⟨by omega,by omega,λq aZ=>by omega⟩
  ·exact⟨by omega,by omega,λq aZ=>by omega⟩
theorem QV{m gk:Nat}(h:a4 m=a4 gk)(hm:m<278)(qu:gk<278):m=gk:=by
 unfold a4 at h;split at h<;>split at h<;>(try split at h)<;>(try split at h)<;>omega
noncomputable def gI(bl:Nat->Nat->Nat)(i k c:Nat):Bool:=hole (dA bl i (gP k 278)) i c
def gn(bl:Nat->Nat->Nat)(i k c:Nat):Prop:=gP k 278 c\/(c=18/\gI bl i k 18=true)\/(∃j,j<16/\c=36+17*j/\gI bl i k (36+17*j)=true)\/
 (c=35/\∀j,j<16->bl i (36+17*j)=0\/gI bl i k (36+17*j)=true)
theorem uu{bl bl':Nat->Nat->Nat}{i c:Nat}(h:∀t,t<16->bl' i (c+(1+t))=bl i (c+(1+t))):hole bl' i c=hole bl i c:=by
 rw[Bool.eq_iff_iff,oI,oI];exact⟨λe t aK=>by rw[<- h t aK];exact e t aK,λe t aK=>by rw[h t aK];exact e t aK⟩
theorem alJ{C:ad}(D:u6 C)(E:BQ C)(A:bx h T n N wd b now us nd)(M:cR n N wd nd bl)(hi:i<N){c:Nat}(dB:12<=c)(ae:c+17<=308):
 ∃h1,C (.fn 92) [.agg (mA λj=>bl i (c+j))] h=some (.ret (.bool (hole bl i c)),h1)/\bx h1 T n N wd b now us nd/\
  (hole bl i c=true->∃h2 ze,C (.fn 91) [.ptr T.a9 0,.ptr T.aG (i*308+c)] h1=some (.ret (.bo []),h2)/\hs h h2 T n N wd ze b now us nd bl i (λx=>x=c/\hole bl i c=true))/\
  (hole bl i c=false->hs h h1 T n N wd wd b now us nd bl i (λx=>x=c/\hole bl i c=true)):=by
 obtain⟨h1,em,aL⟩:=E h (λj=>bl i (c+j));have ay:((List.range 16).all λj=>bl i (c+(1+j))==0)=hole bl i c:=rfl;rw[ay] at em
 have b7:bx h1 T n N wd b now us nd:=(hs.after aL A λwU=>hs.refl (S:=λ_=>False) wU M (λ_ x=>x)).A |> λa=>by
  rw[GK nd i (λ_ x=>x)] at a;exact a
 refine⟨h1,em,b7,λcj=>?_,λcj=>?_⟩
 ·obtain⟨h2,ze,aw,d2⟩:=GW D b7 M hi (c:=c) (by omega) (by omega);exact⟨h2,ze,aw,(hs.after aL A λ_=>d2).ext λx=>⟨λe=>⟨e,cj⟩,λe=>e.1⟩⟩
 ·refine(hs.after aL A λwU=>hs.refl (S:=λ_=>False) wU M (λ_ x=>x)).ext λx=>⟨λe=>e.elim,λe=>?_⟩
  rw[cj] at e;exact absurd e.2 (by simp)
theorem aqq{k q:Nat}(aZ:q<16):¬gP k 278 (36+17*q):=λ⟨_,_,hm,e⟩=>(tu hm).2.2 q aZ e.symm
theorem IP{k q:Nat}{p:Prop}(aZ:q<16):hole (dA bl i (λc=>gP k 278 c\/(c=18/\p))) i (36+17*q)=gI bl i k (36+17*q):=by
 unfold gI;refine uu λt aK=>?_
 by_cases e:gP k 278 (36+17*q+(1+t))
 ·rw[om e,om (.inl e)]
 ·rw[iM (λx=>e x.2),iM (λx=>x.2.elim e (λy=>by omega))]
theorem adp{k q:Nat}{p:Prop}(aZ:q<16):dA bl i (λc=>gP k 278 c\/(c=18/\p)) i (36+17*q)=bl i (36+17*q):=
 iM (λx=>x.2.elim (aqq aZ) (λy=>by omega))
theorem ado{k:Nat}{p:Prop}:pj (dA bl i (λc=>gP k 278 c\/(c=18/\p))) i 0 16↔¬ ∀j,j<16->bl i (36+17*j)=0\/gI bl i k (36+17*j)=true:=by
 constructor
 ·rintro ⟨j,_,aa,h1,h2⟩ gq
  rw[adp aa] at h1;rw[IP aa] at h2;rcases gq j aa with e|e
  ·omega
  ·rw[h2] at e;cases e
 ·intro aO;apply Classical.byContradiction;intro yg;refine aO λj aa=>?_
  by_cases e:bl i (36+17*j)=0
  ·exact .inl e
  ·right
   cases cj:gI bl i k (36+17*j) with
   |true=>rfl
   |false=>exact absurd ⟨j,by omega,aa,by rw[adp aa];omega,by rw[IP aa];exact cj⟩ yg
theorem adq{k c:Nat}{p:Prop}:z4 (dA bl i (λc=>gP k 278 c\/(c=18/\p))) i 0 16 c↔∃j,j<16/\c=36+17*j/\gI bl i k (36+17*j)=true:=by
 constructor
 ·rintro ⟨j,_,aa,h1,h2⟩
  rw[IP aa] at h2;exact⟨j,aa,h1,h2⟩
 ·rintro ⟨j,aa,h1,h2⟩
  exact⟨j,by omega,aa,h1,by rw[IP aa];exact h2⟩
def FG(C:ad):Prop:=∀h T n N wd b now us nd bl i (k:Nat),bx h T n N wd b now us nd->cR n N wd nd bl->i<N->k<=278->
 ∃h' c6,C (.fn 78) [.ptr T.a9 0,.ptr T.aG (i*308),I (k:Int)] h=some (.ret (.bo []),h')/\hs h h' T n N wd c6 b now us nd bl i (gn bl i k)
theorem aky{C:ad}(gf:300<=lf)(D:u6 C)(nw:su C)(E:BQ C)(A:bx h T n N wd b now us nd)(M:cR n N wd nd bl)(hi:i<N){k:Nat}(ai:k<=278):
 ∃h' c6,HJ C lf (.ptr T.a9 0) (.ptr T.aG (i*308)) (I (k:Int)) h=some (.ret (.bo []),h')/\hs h h' T n N wd c6 b now us nd bl i (gn bl i k):=by
 obtain⟨h1,o0,az,d1⟩:=akA (lf:=lf) D nw (λx0 x1 h=>wz C lf ue x0 x1 h) hi (278-k) k h wd nd bl (by omega) lf (by omega) A M;have vJ:HJ C lf (.ptr T.a9 0) (.ptr T.aG (i*308)) (I (k:Int)) h=bp (AS C lf (λx0 x1 h=>wz C lf ue x0 x1 h)) lf (some (.ptr T.a9 0),some (.ptr T.aG (i*308)),some (I (k:Int))) h:=rfl;rw[vJ,az];obtain⟨h2,em,c9,tI,cF⟩:=alJ D E d1.A d1.M hi (c:=18) (by omega) (by omega);have nR:=Zk d1.A d1.M hi (c:=18) (by omega) (by omega);have aDl:hole (dA bl i (gP k 278)) i 18=gI bl i k 18:=rfl
 have amo:∃h3 uQ,wz C lf ue (some (.ptr T.a9 0)) (some (.ptr T.aG (i*308))) h1=JV C lf ue (some (.ptr T.a9 0)) (some (.ptr T.aG (i*308))) h3/\
  hs h1 h3 T n N o0 uQ b now us (kY nd i (gP k 278)) (dA bl i (gP k 278)) i (λx=>x=18/\hole (dA bl i (gP k 278)) i 18=true):=by
  cases cj:hole (dA bl i (gP k 278)) i 18 with
  |true=>
   obtain⟨h3,uQ,ch,d3⟩:=tI cj;refine⟨h3,uQ,?_,by rw[cj] at d3;exact d3⟩;rw[cj] at em;unfold wz JW;simp only[aE,Nat.add_zero,nR,em,ch]
  |false=>
   refine⟨h2,o0,?_,by have:=cF cj;rw[cj] at this;exact this⟩;rw[cj] at em;unfold wz JW;simp only[aE,Nat.add_zero,nR,em]
 obtain⟨h3,uQ,ch,d3⟩:=amo;rw[ch];obtain⟨aU,aBP,ef,d4⟩:=akx (lf:=lf) D E (λx0 x1 aM h=>Bj C lf ue x0 x1 aM h) hi 16 0 false h3 uQ _ _ rfl lf (by omega) d3.A d3.M;have Pj:JV C lf ue (some (.ptr T.a9 0)) (some (.ptr T.aG (i*308))) h3=bp (v5 C lf (λx0 x1 aM h=>Bj C lf ue x0 x1 aM h)) lf (some (.ptr T.a9 0),some (.ptr T.aG (i*308)),some (.bool false),some (I ((0:Nat):Int))) h3:=rfl;rw[Pj,ef];have d14:=(d1.trans d3).trans (by rw[MR,Cl] at d4;exact d4);rw[Cl,Bool.false_or];by_cases bX:∀j,j<16->bl i (36+17*j)=0\/gI bl i k (36+17*j)=true
 ·have aF:decide (pj (dA bl i (λc=>gP k 278 c\/(c=18/\hole (dA bl i (gP k 278)) i 18=true))) i 0 16)=false:=bq λe=>ado.1 e bX
  obtain⟨bA,aBQ,jk,d5⟩:=GW D d14.A d14.M hi (c:=35) (by omega) (by omega);refine⟨bA,aBQ,?_,(d14.trans d5).ext λc=>?_⟩
  ·rw[aF];unfold Bj;simp only[aE,Bool.not_false,jk];rfl
  ·rw[adq];unfold gn;constructor
   ·rintro (((h|h)|h)|h)
    ·exact .inl h
    ·exact .inr (.inl h)
    ·exact .inr (.inr (.inl h))
    ·exact .inr (.inr (.inr ⟨h,bX⟩))
   ·rintro (h|h|h|h)
    ·exact .inl (.inl (.inl h))
    ·exact .inl (.inl (.inr h))
    ·exact .inl (.inr h)
    ·exact .inr h.1
 ·have aF:decide (pj (dA bl i (λc=>gP k 278 c\/(c=18/\hole (dA bl i (gP k 278)) i 18=true))) i 0 16)=true:=bw (ado.2 bX);refine⟨aU,aBP,?_,d14.ext λc=>?_⟩
  ·rw[aF];unfold Bj;simp only[aE,Bool.not_true];rfl
  ·rw[adq];unfold gn;constructor
   ·rintro ((h|h)|h)
    ·exact .inl h
    ·exact .inr (.inl h)
    ·exact .inr (.inr (.inl h))
   ·rintro (h|h|h|h)
    ·exact .inl (.inl h)
    ·exact .inl (.inr h)
    ·exact .inr h
    ·exact absurd h.2 bX
end
end
section
open Classical
def ie(nd:Nat->Nat->J)(i:Nat)(g:Nat->J):Nat->Nat->J:=λi' c=>if i'=i then g c else nd i' c
theorem oY(nd:Nat->Nat->J)(i:Nat)(g:Nat->J)(c:Nat):ie nd i g i c=g c:=if_pos rfl
theorem oX(nd:Nat->Nat->J){i i':Nat}(g:Nat->J)(c:Nat)(h:i'≠i):ie nd i g i' c=nd i' c:=if_neg h
def fr(c:Nat):J:=if c=0 then .bool false else I 0
def eY(g:Nat->J):List J:=(List.range 308).map g
section
variable{lf:Nat}{h h' fh:U}{T:dU}{n N:Nat}{wd c6 Fq b:Nat->Nat}{now:Int}{us:Nat->Bool}{nd:Nat->Nat->J}{bl:Nat->Nat->Nat}{i:Nat}{S e4:Nat->Prop}
theorem bx.setRow(A:bx h T n N wd b now us nd)(hi:i<N){g:Nat->J}{v:Bool}(h0:g 0= .bool v):bx (h.set T.aG (i*308) (eY g)) T n N wd b now (c3 us i v) (ie nd i g):=by
 have aJ:(eY g).length=308:=by rw[eY,List.length_map,List.length_range]
 have ag:i*308+(eY g).length<=N*308:=by rw[aJ];omega
 refine⟨A.o9,A.hW,A.st.frame (Nat.le_of_eq (dW ..).symm) (jb _ _ _ (λe=>A.d4 e.symm)) (jb _ _ _ (λe=>A.d5 e.symm)),?_,?_,?_,e1 A.wt,e1 A.wn,λi' a2 cA fi=>?_,λi' cA=>?_,A.d1,A.d2,A.d3,A.d4,A.d5,by rw[dW];exact A.lt,by rw[dW];exact A.la⟩
 ·rw[eG (.inl A.d3)];exact A.c0
 ·rw[eG (.inl A.d3)];exact A.aQ
 ·rw[eG (.inl A.d3)];exact A.a3
 ·by_cases e:i'=i
  ·subst e;rw[ir A.wn ag (Nat.le_add_right _ _) (by rw[aJ];exact Nat.add_lt_add_left fi _),oY,Nat.add_sub_cancel_left];simp[eY,fi]
  ·rw[eG (.inr (by rw[aJ];omega)),oX _ _ _ e];exact A.ec i' a2 cA fi
 ·by_cases e:i'=i
  ·subst e;rw[oY,kN,h0]
  ·rw[oX _ _ _ e,ig _ _ e];exact A.mR i' cA
theorem agl(A:bx h T n N wd b now us nd)(hi:i<N){g:Nat->J}(bd:eA (eY g)=true):st 308 (.ptr T.aG (i*308)) (.agg (eY g)) h=some (h.set T.aG (i*308) (eY g)):=by
 have aJ:(eY g).length=308:=by rw[eY,List.length_map,List.length_range]
 exact jt (n:=308) (off:=i*308) (y:= .agg (eY g)) A.wn aJ (by omega) bd
theorem cR.row(M:cR n N wd nd bl){g:Nat->J}(bd:∀c,12<=c->c<308->g c=I 0)(h0:∀c,12<=c->c<308->bl i c=0):cR n N wd (ie nd i g) bl:=
 ⟨λi' c cA dB ae=>by
   by_cases e:i'=i
   ·subst e;rw[oY,bd c dB ae,h0 c dB ae];rfl
   ·rw[oX _ _ _ e];exact M.cell i' c cA dB ae,M.le,M.on,M.inj⟩
theorem MU{c:Nat}(dB:12<=c)(ae:c<308):gn bl i 0 c:=by
 have aA:∀m,m<278->gP 0 278 (a4 m):=λm hm=>⟨m,Nat.zero_le _,hm,rfl⟩
 have cj:∀d,(∀t,t<16->gP 0 278 (d+(1+t)))->gI bl i 0 d=true:=λd aF=>by
  unfold gI;rw[oI];exact λt aK=>om (aF t aK)
 have abj:gI bl i 0 18=true:=cj 18 λt aK=>by
  have:=aA (6+t) (by omega)
  rwa[show a4 (6+t)=18+(1+t) by unfold a4;split<;>(try split)<;>omega] at this
 have OT:∀q,q<16->gI bl i 0 (36+17*q)=true:=λq aZ=>cj _ λt aK=>by
  have:=aA (22+16*q+t) (by omega)
  rwa[show a4 (22+16*q+t)=36+17*q+(1+t) by unfold a4;split<;>(try split)<;>omega] at this
 by_cases h1:c<18
 ·left
  have:=aA (c-12) (by omega)
  rwa[show a4 (c-12)=c by unfold a4;split<;>(try split)<;>omega] at this
 by_cases h2:c=18
 ·exact .inr (.inl ⟨h2,abj⟩)
 by_cases h3:c<35
 ·left
  have:=aA (c-13) (by omega)
  rwa[show a4 (c-13)=c by unfold a4;split<;>(try split)<;>omega] at this
 by_cases aU:c=35
 ·exact .inr (.inr (.inr ⟨aU,λj aa=> .inr (OT j aa)⟩))
 by_cases bA:(c-36)%17=0
 ·exact .inr (.inr (.inl ⟨(c-36)/17,by omega,by omega,by
   have:=OT ((c-36)/17) (by omega)
   exact this⟩))
 ·left
  have:=aA (22+16*((c-36)/17)+((c-36)%17-1)) (by omega)
  rwa[show a4 (22+16*((c-36)/17)+((c-36)%17-1))=c by unfold a4;split<;>(try split)<;>omega] at this
def m1(bl:Nat->Nat->Nat)(i:Nat):Nat->Nat->Nat:=λi' c=>if i'=i then 0 else bl i' c
def BU(C:ad):Prop:=∀h T n N wd b now us nd bl i (L H:Int),bx h T n N wd b now us nd->cR n N wd nd bl->i<N->nd i 2=I L->nd i 11=I H->
 ((L≠0\/H≠0)->C (.fn 89) [.ptr T.a9 0,.ptr T.aG (i*308)] h=some (.ret (.bo []),h))/\
 (L=0->H=0->∃h' c6,C (.fn 89) [.ptr T.a9 0,.ptr T.aG (i*308)] h=some (.ret (.bo []),h')/\bx h' T n N c6 b now (c3 us i false) (ie nd i fr)/\
   cR n N c6 (ie nd i fr) (m1 bl i)/\(∀j,bU c6 j=true↔(bU wd j=true/\∀c,12<=c->c<308->bl i c≠j+1))/\aN h h' (λj=>j=T.bJ\/j=T.aG))
theorem alK{C:ad}(Ly:FG C)(A:bx h T n N wd b now us nd)(M:cR n N wd nd bl)(hi:i<N){L H:Int}(hS:nd i 2=I L)(iy:nd i 11=I H):
 ((L≠0\/H≠0)->CS C lf (.ptr T.a9 0) (.ptr T.aG (i*308)) h=some (.ret (.bo []),h))/\
 (L=0->H=0->∃h' c6,CS C lf (.ptr T.a9 0) (.ptr T.aG (i*308)) h=some (.ret (.bo []),h')/\bx h' T n N c6 b now (c3 us i false) (ie nd i fr)/\
   cR n N c6 (ie nd i fr) (m1 bl i)/\(∀j,bU c6 j=true↔(bU wd j=true/\∀c,12<=c->c<308->bl i c≠j+1))/\aN h h' (λj=>j=T.bJ\/j=T.aG)):=by
 have a3:=A.ec i 2 hi (by omega);have GD:=A.ec i 11 hi (by omega);rw[hS] at a3;rw[iy] at GD;have aw:i*308+1+1=i*308+2:=Nat.add_assoc _ 1 1;unfold CS U1 N8;simp only[aE,aw,a3,GD];refine⟨λbY=>?_,λrT n0=>?_⟩
 ·by_cases rT:L=0
  ·have n0:decide (H=0)=false:=bq (bY.resolve_left (λx=>x rT));simp only[bw rT,n0,aE,GD]
  ·simp only[bq rT,aE]
 ·obtain⟨h1,o0,az,d1⟩:=Ly h T n N wd b now us nd bl i 0 A M hi (by omega);have M3:C (.fn 78) [.ptr T.a9 0,.ptr T.aG (i*308),I 0] h=some (.ret (.bo []),h1):=az;have oC:ib ax 125 [] []=some (.agg (eY fr)):=by kernel_rfl
  have dk:=agl d1.A hi (g:=fr) (by kernel_rfl);have a1:∀c,12<=c->c<308->dA bl i (gn bl i 0) i c=0:=λc dB ae=>om (MU dB ae)
  have c9:=d1.A.setRow hi (g:=fr) (v:=false) rfl;have M2:=d1.M.row (i:=i) (g:=fr) (λc dB _=>if_neg (by omega)) a1
  have jn:ie (kY nd i (gn bl i 0)) i fr=ie nd i fr:=by
   funext i' c
   by_cases e:i'=i
   ·subst e;rw[oY,oY]
   ·rw[oX _ _ _ e,oX _ _ _ e,GJ (λx=>e x.1)]
  rw[jn] at c9 M2;refine⟨_,o0,?_,c9,⟨λi' c cA dB ae=>?_,λi' c=>?_,λi' c cA dB ae aA=>?_,λi1 aQ i2 a3 nc g1 kB nf g2 mF aA he=>?_⟩,λj=>?_,d1.F.trans (fO (.inr rfl))⟩
  ·simp only[bw rT,bw n0,aE,GD,M3,oC,dk]
  ·rw[M2.cell i' c cA dB ae];unfold m1;by_cases e:i'=i
   ·subst e;rw[if_pos rfl,a1 c dB ae]
   ·rw[if_neg e,iM (λx=>e x.1)]
  ·unfold m1;split
   ·omega
   ·exact M.le i' c
  ·unfold m1 at aA⊢;by_cases e:i'=i
   ·rw[if_pos e] at aA;omega
   ·rw[if_neg e] at aA⊢
    have:=M2.on i' c cA dB ae
    rw[iM (λx=>e x.1)] at this;exact this aA
  ·unfold m1 at aA he;by_cases e:i1=i
   ·rw[if_pos e] at aA;omega
   ·by_cases bh:i2=i
    ·rw[if_neg e] at aA;rw[if_neg e,if_pos bh] at he;omega
    ·rw[if_neg e] at aA;rw[if_neg e,if_neg bh] at he;exact M.inj i1 aQ i2 a3 nc g1 kB nf g2 mF aA he
  ·rw[d1.O];exact⟨λx=>⟨x.1,λc dB ae=>x.2 c dB ae (MU dB ae)⟩,λx=>⟨x.1,λc dB ae _=>x.2 c dB ae⟩⟩
end
end
section
variable{lf:Nat}{h:U}
theorem KN{a b:J}:([a,b]:List J)[0]?=some a:=eX rfl
theorem KO{a b:J}:([a,b]:List J)[1]?=some b:=eX rfl
def zeroV:List Value:= .bool false::List.replicate 307 (.int .i64 0)
def LQ(C:ad):Prop:=∀h (n m:Int), -9223372036854775808<=n->n<9223372036854775808-> -9223372036854775808<=m->m<9223372036854775808->
 ((n<1\/4096<n\/m<1\/4096<m)->∃h',C (.fn 36) [I n,I m] h=some (.ret (.bo [.val (.pointer none),I 22]),h')/\aN h h' (λ_=>False))/\
 (1<=n->n<=4096->1<=m->m<=4096->∃h',C (.fn 36) [I n,I m] h=some (.ret (.bo [.ptr (h.next+3) 0,I 0]),h')/\h'.next=h.next+4/\
   bx h' ⟨h.next+3,h.next+1,h.next,h.next+2⟩ n.toNat m.toNat (λ_=>0) (λ_=>0) 0 (λ_=>false) (λ_=>fr)/\aN h h' (λ_=>False))
theorem apD{C:ad}(w7:LP C){n m:Int}(cI: -9223372036854775808<=n)(cF:n<9223372036854775808):
 ((n<1\/4096<n\/m<1\/4096<m)->∃h',CH C lf (I n) (I m) h=some (.ret (.bo [.val (.pointer none),I 22]),h')/\aN h h' (λ_=>False))/\
 (1<=n->n<=4096->1<=m->m<=4096->∃h',CH C lf (I n) (I m) h=some (.ret (.bo [.ptr (h.next+3) 0,I 0]),h')/\h'.next=h.next+4/\
   bx h' ⟨h.next+3,h.next+1,h.next,h.next+2⟩ n.toNat m.toNat (λ_=>0) (λ_=>0) 0 (λ_=>false) (λ_=>fr)/\aN h h' (λ_=>False)):=by
 obtain⟨cQ,cL⟩:=w7 h n cI cF;have x0:decide ((22:Int)≠0)=true:=by decide
 have x1:decide ((0:Int)≠0)=false:=by decide
 unfold CH SU NG;simp only[aE];refine⟨λag=>?_,λh1 h2 h3 aU=>?_⟩
 ·by_cases aO:n<1\/4096<n
  ·refine⟨h,?_,aN.refl _ _⟩;simp only[cQ aO,aE,KN,KO,x0]
  ·obtain⟨aj,az,_,_,aL⟩:=cL (by omega) (by omega);refine⟨aj,?_,aL⟩;by_cases hm:m<1
   ·simp only[az,aE,KN,KO,x1,bw hm]
   ·have qu:4096<m:=by omega
    simp only[az,aE,KN,KO,x1,bq hm,bw qu]
 ·obtain⟨aj,az,rM,jh,aL⟩:=cL h1 h2;obtain⟨M,rfl⟩:∃M:Nat,m=M:=⟨m.toNat,by omega⟩;have d1:decide ((M:Int)<1)=false:=bq (by omega);have d2:decide ((4096:Int)<(M:Int))=false:=bq (by omega);have a1:hE ax 125=some (.agg ⟨zeroV⟩):=by kernel_rfl
  have ae:(c2 (.agg ⟨zeroV⟩)).cells=eY fr:=by kernel_rfl
  have hlen:(eY fr).length=308:=by rw[eY,List.length_map,List.length_range]
  have kF:=wT (P:=ax) (t:=100) (e:=125) (s:=308) (b:=2464) (k1:= .i64) (k2:= .i64) (l:=M) (c:=M) (h:=aj)
   Tryd.underlying100 (by kernel_rfl) a1 (by kernel_rfl) (Nat.le_refl _) (by omega) (by omega) (by rw[ae,hlen]) (by omega)
  rw[ae] at kF;have oC:ib ax 102 [0,1] [.ptr (h.next+1) 0,.aY aj.next 0 M (some M) 0]=some (.agg [.ptr (h.next+1) 0,.aY aj.next 0 M (some M) 0,I 0]):=by kernel_rfl
  have gH:=wS (e:=102) (x:= .agg [.ptr (h.next+1) 0,.aY aj.next 0 M (some M) 0,I 0]) (h:=aj.new (gZ 125 (M*308) (eY fr))) rfl;have s0:(J.agg [.ptr (h.next+1) 0,.aY aj.next 0 M (some M) 0,I 0]).cells=[.ptr (h.next+1) 0,.aY aj.next 0 M (some M) 0,I 0]:=rfl;rw[s0,iG,rM] at gH;rw[rM] at kF oC;simp only[az,aE,KN,KO,x1,d1,d2,kF,oC,gH];refine⟨_,rfl,by rw[iG,iG,rM],?_,aL.trans ((aN.new _ _ _).trans (aN.new _ _ _))⟩;rw[Int.toNat_natCast]
  have eB:∀i,(((aj.new (gZ 125 (M*308) (eY fr))).new (dR 102 [.ptr (h.next+1) 0,.aY (h.next+2) 0 M (some M) 0,I 0])).cell (h.next+3) i)=
   ([.ptr (h.next+1) 0,.aY (h.next+2) 0 M (some M) 0,I 0]:List J)[i]?:=λi=>by
   have e:h.next+3=(aj.new (gZ 125 (M*308) (eY fr))).next:=by rw[iG,rM]
   rw[e,lK,oR]
  have ch:(aj.new (gZ 125 (M*308) (eY fr))).next=h.next+3:=by rw[iG,rM]
  have p8:ee ((aj.new (gZ 125 (M*308) (eY fr))).new (dR 102 [.ptr (h.next+1) 0,.aY (h.next+2) 0 M (some M) 0,I 0])) (h.next+1) h.next n.toNat (λ_=>0) (λ_=>0):=
   jh.iP ((aN.new aj _ (λ_=>False)).trans (aN.new _ _ _)) (λx=>x) (λx=>x)
  refine⟨by omega,by omega,p8,by rw[eB];rfl,by rw[eB];rfl,by rw[eB];rfl,?_,?_,λi c hi ae=>?_,λi _=>rfl,by show h.next+3≠h.next+1;omega,by show h.next+3≠h.next;omega,by show h.next+3≠h.next+2;omega,by show h.next+2≠h.next+1;omega,by show h.next+2≠h.next;omega,?_,?_⟩
  ·have:=mT (h:=aj.new (gZ 125 (M*308) (eY fr))) (o:=dR 102 [.ptr (h.next+1) 0,.aY (h.next+2) 0 M (some M) 0,I 0]) rfl
   rw[ch] at this;exact this
  ·have:=mT (h:=aj) (o:=gZ 125 (M*308) (eY fr)) rfl
   rw[rM] at this;exact Fs this (by rw[ch];show h.next+2≠h.next+3;omega)
  ·have aw:h.next+2=aj.next:=rM.symm
   show _=some (fr c);rw[GH (by rw[ch];show h.next+2≠h.next+3;omega)];show U.cell _ (h.next+2) _=_;have a8:i*308+c<M*308:=by omega
   have Dt:(i*308+c)%308=c:=by omega
   rw[aw,lK,wk _ _ a8,hlen,Dt,eY,List.getElem?_map,List.getElem?_range ae];rfl
  ·show h.next+3<_
   rw[iG,iG,rM];omega
  ·show h.next+2<_
   rw[iG,iG,rM];omega
end
theorem Cd{P:Program}{t:TypeId}{a b:Int}:bin P .and t (I a) (I b)=some (I (IntKind.i64.wrap ((BitVec.ofInt 64 a&&& BitVec.ofInt 64 b).toNat:Int))):=by
 rw[xl _ (.inl rfl)];simp only[arith,fC];rfl
theorem ajc{P:Program}{t:TypeId}{a b:Int}:bin P .andNot t (I a) (I b)=some (I (IntKind.i64.wrap ((BitVec.ofInt 64 a&&& ~~~BitVec.ofInt 64 b).toNat:Int))):=by
 rw[xl _ (.inr (.inr (.inr rfl)))];simp only[arith,fC];rfl
def yH(mo:Int):Int:=IntKind.i64.wrap ((BitVec.ofInt 64 mo&&& ~~~BitVec.ofInt 64 65535).toNat:Int)
def lb(mo:Int):Int:=IntKind.i64.wrap ((BitVec.ofInt 64 mo&&& BitVec.ofInt 64 61440).toNat:Int)
def lI(mo uid gid:Int):Prop:=yH mo≠0\/(lb mo≠32768/\lb mo≠16384/\lb mo≠40960)\/uid<0\/gid<0
def mc(ino uid gid mo now:Int)(c:Nat):J:=if c=0 then .bool true else if c=1 then I ino else if c=3 then I uid else if c=4 then I gid else if c=7 then I mo else
 if c=8\/c=9\/c=10 then I now else I 0
section
variable{lf:Nat}{h:U}{T:dU}{n N:Nat}{wd b:Nat->Nat}{now:Int}{us:Nat->Bool}{nd:Nat->Nat->J}{mo uid gid:Int}
theorem ais{C:ad}(r:a0)(aB:cq)(A:bx h T n N wd b now us nd):∀(d q:Nat),q+d=N->∀f,d<f->
 ((∀j,q<=j->j<N->us j=true)->bp (rV C lf r aB) f (some (.ptr T.a9 0),some (I mo),some (I uid),some (I gid),some (I (N:Int)),some (I (q:Int))) h=aB h)/\
 (∀i,q<=i->i<N->us i=false->(∀j,q<=j->j<i->us j=true)->bp (rV C lf r aB) f (some (.ptr T.a9 0),some (I mo),some (I uid),some (I gid),some (I (N:Int)),some (I (q:Int))) h=
   r (some (I ((i+1:Nat):Int))) (some (I 0)) (h.set T.aG (i*308) (eY (mc ((i+1:Nat):Int) uid gid mo now)))):=by
 intro d
 induction d with
 |zero=>
  intro q aZ f ak;obtain⟨f,rfl⟩:=dE f (by omega);refine⟨λ_=>?_,λi h1 h2=>by omega⟩;rw[dh];unfold rV Bc;have a8:decide ((q:Int)<(N:Int))=false:=bq (by omega);simp only[aE,a8]
 |succ d ba=>
  intro q aZ f ak;obtain⟨f,rfl⟩:=dE f (by omega);obtain⟨DR,DS⟩:=ba (q+1) (by omega) f (by omega);have k3:=A.hW;have Io:q<N:=by omega
  have a8:decide ((q:Int)<(N:Int))=true:=bw (by omega);have aj:IntKind.i64.wrap ((q:Int)+1)=((q+1:Nat):Int):=cH (by omega);have b3:=gL (s:=308) (k:=T.aG) (off:=0) (len:=N) (lo:=0) (cap:=some N) (kd:= .i64) (i:=(q:Int)) (by omega) (by omega);rw[Int.toNat_natCast,Nat.zero_add] at b3;have ae:=A.ec q 0 Io (by omega);rw[A.mR q Io] at ae
  have step:us q=true->bp (rV C lf r aB) (f+1) (some (.ptr T.a9 0),some (I mo),some (I uid),some (I gid),some (I (N:Int)),some (I (q:Int))) h=
   bp (rV C lf r aB) f (some (.ptr T.a9 0),some (I mo),some (I uid),some (I gid),some (I (N:Int)),some (I ((q+1:Nat):Int))) h:=by
   intro hu;rw[hu] at ae;rw[dh];show Bc C lf (λx0 x1 x2 x3 wQ uU h=>bp (rV C lf r aB) f (x0,x1,x2,x3,wQ,uU) h) r aB (some (.ptr T.a9 0)) (some (I mo)) (some (I uid)) (some (I gid)) (some (I (N:Int))) (some (I (q:Int))) h=_;unfold Bc;simp only[aE,a8,A.aQ,b3,ae,Bool.not_true,aj]
  refine⟨λgq=>?_,λi h1 h2 hu vH=>?_⟩
  ·rw[step (gq q (Nat.le_refl _) Io)];exact DR λj aa hh=>gq j (by omega) hh
  ·by_cases e:i=q
   ·subst e;rw[hu] at ae
    have C9:ib ax 78 [0,2,3,6,7,8,9] [I ((i+1:Nat):Int),I uid,I gid,I mo,I now,I now,I now]=
     some (.agg [I ((i+1:Nat):Int),I 0,I uid,I gid,I 0,I 0,I mo,I now,I now,I now]):=by kernel_rfl
    have jU:ib ax 125 [0,1] [.bool true,.agg [I ((i+1:Nat):Int),I 0,I uid,I gid,I 0,I 0,I mo,I now,I now,I now]]=
     some (.agg (eY (mc ((i+1:Nat):Int) uid gid mo now))):=by kernel_rfl
    have dk:=agl A Io (g:=mc ((i+1:Nat):Int) uid gid mo now) (by kernel_rfl);rw[dh];unfold rV Bc;simp only[aE,a8,A.aQ,A.a3,b3,ae,Bool.not_false,aj,C9,jU,dk]
   ·rw[step (vH q (Nat.le_refl _) (by omega))];exact DS i (by omega) h2 hu λj aa hh=>vH j (by omega) hh
end
section
variable{lf:Nat}{h:U}{T:dU}{n N:Nat}{wd b:Nat->Nat}{now:Int}{us:Nat->Bool}{nd:Nat->Nat->J}{mo uid gid:Int}
def FF(C:ad):Prop:=∀h T n N wd b now us nd (mo uid gid:Int),bx h T n N wd b now us nd->
 (lI mo uid gid->C (.fn 37) [.ptr T.a9 0,I mo,I uid,I gid] h=some (.ret (.bo [I 0,I 22]),h))/\
 (¬lI mo uid gid->(∀j,j<N->us j=true)->C (.fn 37) [.ptr T.a9 0,I mo,I uid,I gid] h=some (.ret (.bo [I 0,I 28]),h))/\
 (¬lI mo uid gid->∀i,i<N->us i=false->(∀j,j<i->us j=true)->∃h',C (.fn 37) [.ptr T.a9 0,I mo,I uid,I gid] h=some (.ret (.bo [I ((i+1:Nat):Int),I 0]),h')/\
   bx h' T n N wd b now (c3 us i true) (ie nd i (mc ((i+1:Nat):Int) uid gid mo now))/\h'.next=h.next/\aN h h' (· =T.aG))
theorem alp{a c:J}:sP (some a) (some c) h=some (.ret (.bo [a,c]),h):=eX rfl
theorem iw{w:Bool}{r:ab}:dL w (some (.val undef)) r h=some (.ret (.val undef),h):=by cases w<;>exact eX rfl
theorem aiu{C:ad}(BX:p5 C)(A:bx h T n N wd b now us nd):
 (lI mo uid gid->vz C lf (.ptr T.a9 0) (I mo) (I uid) (I gid) h=some (.ret (.bo [I 0,I 22]),h))/\
 (¬lI mo uid gid->vz C lf (.ptr T.a9 0) (I mo) (I uid) (I gid) h=Bd C lf sP (some (.ptr T.a9 0)) (some (I mo)) (some (I uid)) (some (I gid)) h):=by
 have ao:IntKind.i64.wrap ((BitVec.ofInt 64 mo&&& ~~~BitVec.ofInt 64 65535).toNat:Int)=yH mo:=rfl;have ai:IntKind.i64.wrap ((BitVec.ofInt 64 mo&&& BitVec.ofInt 64 61440).toNat:Int)=lb mo:=rfl;unfold vz S4 S3 S2 S1 S0 SZ SY SX;generalize aZ:Bd C lf sP (some (.ptr T.a9 0)) (some (I mo)) (some (I uid)) (some (I gid)) h=Q;simp only[aE,BX _ _ _ _ _ _ _ _ _ A,Bool.not_true,Cd,ajc,ao,ai,aZ];unfold lI
 by_cases an:yH mo=0<;>by_cases aD:lb mo=32768<;>by_cases a7:lb mo=16384<;>by_cases cw:lb mo=40960<;>by_cases dO:uid<0<;>by_cases ek:gid<0<;>
  simp[an,aD,a7,cw,dO,ek,aZ,alp,iw]
theorem ait{C:ad}(gf:4097<=lf)(BX:p5 C)(A:bx h T n N wd b now us nd):
 (lI mo uid gid->vz C lf (.ptr T.a9 0) (I mo) (I uid) (I gid) h=some (.ret (.bo [I 0,I 22]),h))/\
 (¬lI mo uid gid->(∀j,j<N->us j=true)->vz C lf (.ptr T.a9 0) (I mo) (I uid) (I gid) h=some (.ret (.bo [I 0,I 28]),h))/\
 (¬lI mo uid gid->∀i,i<N->us i=false->(∀j,j<i->us j=true)->∃h',vz C lf (.ptr T.a9 0) (I mo) (I uid) (I gid) h=some (.ret (.bo [I ((i+1:Nat):Int),I 0]),h')/\
   bx h' T n N wd b now (c3 us i true) (ie nd i (mc ((i+1:Nat):Int) uid gid mo now))/\h'.next=h.next/\aN h h' (· =T.aG)):=by
 have k3:=A.hW;obtain⟨bQ,cn⟩:=aiu (lf:=lf) (mo:=mo) (uid:=uid) (gid:=gid) BX A
 have aJ:eN ax 100 (.aY T.aG 0 N (some N) 0)=some (I (N:Int)):=by
  simp[eN,Tryd.underlying100]
 obtain⟨cd,c1⟩:=ais (lf:=lf) (mo:=mo) (uid:=uid) (gid:=gid) (C:=C) sP (λh=>Jx C lf sP h) A N 0 (by omega) lf (by omega)
 have aZ:Bd C lf sP (some (.ptr T.a9 0)) (some (I mo)) (some (I uid)) (some (I gid)) h=
  bp (rV C lf sP (λh=>Jx C lf sP h)) lf (some (.ptr T.a9 0),some (I mo),some (I uid),some (I gid),some (I (N:Int)),some (I ((0:Nat):Int))) h:=by
  unfold Bd SW SV;simp only[aE,A.aQ,aJ];rfl
 refine⟨bQ,λbd gq=>?_,λbd i hi hu ag=>⟨_,?_,A.setRow hi rfl,dW ..,fO rfl⟩⟩
 ·rw[cn bd,aZ,cd λj _ aa=>gq j aa];rfl
 ·rw[cn bd,aZ,c1 i (Nat.zero_le _) hi hu λj _ aa=>ag j aa];rfl
end
section
open Classical
structure l3 (bl:Nat->Nat->Nat) (i:Nat):Prop where
 one:bl i 18=0↔hole bl i 18=true
 xF:∀q,q<16->(bl i (36+17*q)=0↔hole bl i (36+17*q)=true)
 two:bl i 35=0↔∀q,q<16->bl i (36+17*q)=0
theorem l3.akz{bl:Nat->Nat->Nat}{i k m:Nat}(hm:m<278):gn bl i k (a4 m)↔k<=m:=by
 obtain⟨h1,h2,h3⟩:=tu hm;unfold gn;constructor
 ·rintro (⟨j,a,b,e⟩|⟨e,_⟩|⟨j,a,e,_⟩|⟨e,_⟩)
  ·rw[QV e hm b];exact a
  ·exact absurd e h1
  ·exact absurd e (h3 j a)
  ·exact absurd e h2
 ·exact λe=> .inl ⟨m,e,hm,rfl⟩
end
end Go.Proofs.YtomialandfplkaaDoor.Eva
