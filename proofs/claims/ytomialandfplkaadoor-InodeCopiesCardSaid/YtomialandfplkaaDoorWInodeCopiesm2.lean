import Derived.ProofKit
import Derived.OpenShut
import Derived.Carry
import Derived.ChangeOld
import Derived.Deep.DeepHandedRow
import Derived.Lib.LaidTab
import Derived.Test.YtomialandfplkaaDoorCards
import Derived.Test.YtomialandfplkaaDoorWInodeCopiesm1
set_option linter.unusedSimpArgs false
set_option linter.unusedVariables false
set_option maxRecDepth 100000
set_option maxHeartbeats 400000
namespace Go.Xe
section
variable{P:Program}{B:Nat}{aZ w:World}{E:Env}{bq:List Deferred}
def YH(dcall:nQ):Prop:=∀f args u X y gV af m ob,dcall f args u X=some (y,gV,af)->c9 X m->dcall f args u (X.add m ob)=some (y,gV,af.add m ob)
section
variable{m:Nat}{ob:bH}{X af:al}
theorem aBE{F:aH U}(au:c9 X m){r:ResultVar}{y:U}(h:uy P F X r=some y):uy P F (X.add m ob) r=some y:=by
 cases r with
 |tmp t=>exact h
 |cell b t=>
  simp only[uy] at h⊢;split at h<;>try(cases h;done)
  exact ae7 au h
theorem LL{F:aH U}(au:c9 X m):∀{rs:List ResultVar} {ys:List U},pj P F X rs=some ys->pj P F (X.add m ob) rs=some ys
 | [],ys,h=>h
 |r::rs,ys,h=>by
  simp only[pj] at h⊢;split at h<;>try(cases h;done)
  rename_i y bb;split at h<;>try(cases h;done)
  rename_i vO eU;rw[aBE au bb,LL au eU];exact h
theorem JT{dcall:nQ}(ai:GC dcall)(db:YH dcall){fn:Func}{F:aH U}:∀{D:List eR} {u:Mode} {X af:al} {y:Out},c9 X m->gh P dcall fn F D u X=some (y,af)->gh P dcall fn F D u (X.add m ob)=some (y,af.add m ob)
 | [],.ret,X,af,y,au,h=>by
   simp only[gh] at h⊢;split at h<;>cases h
   rename_i ys eU;rw[LL au eU]
 | [],.cY bn,X,af,y,au,h=>by simp only[gh,Option.some.injEq,Prod.mk.injEq] at h⊢;obtain⟨rfl,rfl⟩:=h;exact⟨rfl,rfl⟩
 | .tp k::D,u,X,af,y,au,h=>by
   simp only[gh] at h⊢;split at h<;>try(cases h;done)
   rename_i o aq;simp only[(add_get au aq).1];split at h<;>try(cases h;done)
   rw[AF au aq];exact JT ai db (au.keeps (di.store aq (Nat.lt_succ_self _))) h
 | .call f xs ys::D,u,X,af,y,au,h=>by
   simp only[gh] at h⊢;split at h
   ·rename_i aI;rw[db _ _ _ _ _ _ _ m ob aI au];exact JT ai db (au.keeps (ai _ _ _ _ _ _ _ aI)) h
   ·rename_i aI;rw[db _ _ _ _ _ _ _ m ob aI au];exact JT ai db (au.keeps (ai _ _ _ _ _ _ _ aI)) h
   ·cases h
theorem aif{k:Nat}{st:LoopState}{p:Option Jump}(au:c9 X m)(h:qk X k st p=some af):qk (X.add m ob) k st p=some (af.add m ob):=by
 unfold qk at h⊢;split at h<;>try(cases h;done)
 rename_i o aq;simp only[(add_get au aq).1];split at h<;>cases h
 rw[AF au aq]
theorem XM{k:Nat}{st:LoopState}{p:Option Jump}(h:qk X k st p=some af):di X af:=by
 unfold qk at h;split at h<;>try(cases h;done)
 rename_i o aq;split at h<;>cases h
 rename_i ak;obtain⟨_,_,_,_,_,_,_,_,_,_,_,rfl⟩:=aij ak;exact di.store aq (Nat.lt_succ_self _)
theorem Oz{k:Nat}{D:List eR}{st:LoopState}{j:Jump}{b:Bool}{y:Out}(h:endRound D X k st j b=some (y,af)):fe X af/\af.bx=D:=by
 unfold endRound at h;split at h<;>cases h
 rename_i ak;exact⟨(XM ak).uD.hj _,rfl⟩
theorem Oy{k:Nat}{D:List eR}{st:LoopState}{j:Jump}{b:Bool}{y:Out}(au:c9 X m)(h:endRound D X k st j b=some (y,af)):endRound D (X.add m ob) k st j b=some (y,af.add m ob):=by
 unfold endRound at h⊢;split at h<;>cases h
 rename_i ak;rw[aif au ak];rfl
theorem aBX{dj:Code->aH U->al->R}(oc:∀c F X ex F' af,dj c F X=some (ex,F',af)->fe X af){k N:Nat}{F:aH U}{ps:Array Tmp}{e3 body:Code}{args:List U}{y:Out}(h:l7 dj k N F ps e3 body args X=some (y,af)):di X af:=by
 unfold l7 at h;cases hlen:Nat.beq args.length ps.size with
 |false=>simp[hlen] at h
 |true=>
 simp only[hlen,cond_true] at h;split at h<;>try(cases h;done)
 rename_i aL X1 bV;split at h<;>try(cases h;done)
 rename_i dv ik;cases aQ:isReady dv with
 |false=>simp[aQ] at h
 |true=>
 simp only[aQ,cond_true] at h;split at h<;>try(cases h;done)
 rename_i c5 ag;have k1:=((fe.Ce (l:=[]) (oc _ _ _ _ _ _ bV)).trans (XM ag).uD);split at h
 ·rename_i gL;obtain⟨k2,hG⟩:=Oz h;exact((k1.trans (oc _ _ _ _ _ _ gL)).trans k2).to hG
 ·rename_i gL;obtain⟨k2,hG⟩:=Oz h;exact((k1.trans (oc _ _ _ _ _ _ gL)).trans k2).to hG
 ·rename_i gL;obtain⟨k2,hG⟩:=Oz h;exact((k1.trans (oc _ _ _ _ _ _ gL)).trans k2).to hG
 ·cases h
theorem aBV{dj:Code->aH U->al->R}(oc:∀c F X ex F' af,dj c F X=some (ex,F',af)->fe X af)(D4:∀c F X ex F' af,c9 X m->dj c F X=some (ex,F',af)->dj c F (X.add m ob)=some (ex,F',af.add m ob))
 {k N:Nat}{F:aH U}{ps:Array Tmp}{e3 body:Code}{args:List U}{y:Out}(au:c9 X m)(h:l7 dj k N F ps e3 body args X=some (y,af)):l7 dj k N F ps e3 body args (X.add m ob)=some (y,af.add m ob):=by
 unfold l7 at h⊢;cases hlen:Nat.beq args.length ps.size with
 |false=>simp[hlen] at h
 |true=>
 simp only[hlen,cond_true] at h⊢;split at h<;>try(cases h;done)
 rename_i aL X1 bV;have az:dj e3 (xf N F ps.toList args) {X.add m ob with bx:=[]}=some (.c4,aL,X1.add m ob):=D4 e3 _ {X with bx:=[]} _ _ _ (au.hj []) bV;have tK:c9 X1 m:=(au.hj []).vl (oc _ _ _ _ _ _ bV);simp only[az];split at h<;>try(cases h;done)
 rename_i dv ik;simp only[(add_get tK ik).1];cases aQ:isReady dv with
 |false=>simp[aQ] at h
 |true=>
 simp only[aQ,cond_true] at h⊢;split at h<;>try(cases h;done)
 rename_i c5 ag;have lD:c9 c5 m:=tK.keeps (XM ag);simp only[aif tK ag];split at h
 ·rename_i gL;simp only[D4 _ _ _ _ _ _ lD gL];exact Oy (lD.vl (oc _ _ _ _ _ _ gL)) h
 ·rename_i gL;simp only[D4 _ _ _ _ _ _ lD gL];exact Oy (lD.vl (oc _ _ _ _ _ _ gL)) h
 ·rename_i gL;simp only[D4 _ _ _ _ _ _ lD gL];exact Oy (lD.vl (oc _ _ _ _ _ _ gL)) h
 ·cases h
theorem amD{N:Nat}{dj:Code->aH U->al->R}(oc:∀c F X ex F' af,dj c F X=some (ex,F',af)->fe X af)(D4:∀c F X ex F' af,c9 X m->dj c F X=some (ex,F',af)->dj c F (X.add m ob)=some (ex,F',af.add m ob)):
 ∀(c:Code) (F:aH U) (X:al) (u:Mode) (ex:iu) (F':aH U) (af:al) (gV:Mode),c9 X m->m2 P N dj c F X u=some (ex,F',af,gV)->m2 P N dj c F (X.add m ob) u=some (ex,F',af.add m ob,gV):=by
 intros;exact absurd ‹m2 _ _ _ _ _ _ _=some _› (λe=>by cases e)
end
theorem arT{m:Nat}{ob:bH}{X:al}(au:c9 X m){k:Ar}{args:List U}{z:U}(h:ui k args X=some z):ui k args (X.add m ob)=some z:=by cases h
theorem RU{X:al}(h:sE X=true):X.bx=[]:=by
 unfold sE at h;split at h
 ·assumption
 ·cases h
structure ajY (P:Program) (a6:b1 P) (callf:cc) (lf:Nat):Prop where
 Bc:∀c F X ex F' af,ix P a6.ord false c=true->m0 a6 callf lf c F X=some (ex,F',af)->cX af->vR P none a6.fn.ntmps c F X ex F' af
 keeps:∀c F X ex F' af,m0 a6 callf lf c F X=some (ex,F',af)->fe X af
 frame:∀m ob c F X ex F' af,c9 X m->m0 a6 callf lf c F X=some (ex,F',af)->m0 a6 callf lf c F (X.add m ob)=some (ex,F',af.add m ob)
theorem AV(hm:P.follows .mixedOrders=true)(a6:b1 P){callf:cc}(lf:Nat)(c0:jI P callf)(ae:fX callf)(db:lh callf):ajY P a6 callf lf:=
 ⟨λc F X ex F' af eN h aB=>r6 callf c0 ae db hm (rd:=none) (aeS callf c0 ae db hm lf) c F X ex F' af eN h aB,
  λc F X ex F' af h=>pS ae (JM ae lf) c F X ex F' af h,
  λ_ _ c F X ex F' af au h=>r5 db ae (aeR db ae lf) (JM ae lf) c F X ex F' af au h⟩
structure xS (P:Program) (e:mg):Prop where
 call:jI P e.call
 keeps:fX e.call
 frame:lh e.call
 dcall:YG P e.dcall
 Da:GC e.dcall
 aaD:YH e.dcall
theorem PT{dcall:nQ}{fn:Func}{r:R}{y:Out}{af:al}(h:r9 P dcall fn r=some (y,af)):∃ex F X u,r=some (ex,F,X)/\gh P dcall fn F X.bx u {X with bx:=[]}=some (y,af)/\
 ((ex= .c4/\u= .ret)\/(ex= .ret/\u= .ret)\/∃bn,ex= .cY bn/\u= .cY bn):=by
 unfold r9 at h;split at h
 ·exact⟨_,_,_,_,rfl,h,.inl ⟨rfl,rfl⟩⟩
 ·exact⟨_,_,_,_,rfl,h,.inr (.inl ⟨rfl,rfl⟩)⟩
 ·exact⟨_,_,_,_,rfl,h,.inr (.inr ⟨_,rfl,rfl⟩)⟩
 ·cases h
theorem PS{fn:Func}{D:List eR}{r:Nk}{y:Out}{gV:Mode}{af:al}(h:r8 P fn D r=some (y,gV,af)):∃ex F X,r=some (ex,F,X,gV)/\X.bx=[]/\af={X with bx:=D}/\
 (((ex= .c4\/ex= .ret)/\∃ys,pj P F X fn.results.toList=some ys/\y= .ret (zW ys))\/∃bn,ex= .cY bn/\y= .cY bn):=by
 unfold r8 at h;split at h
 ·rename_i F X u;cases aI:sE X with
  |false=>simp[aI] at h
  |true=>
   simp only[aI,cond_true] at h;split at h<;>cases h
   exact⟨_,_,_,rfl,RU aI,rfl,.inl ⟨.inl rfl,_,by assumption,rfl⟩⟩
 ·rename_i F X u;cases aI:sE X with
  |false=>simp[aI] at h
  |true=>
   simp only[aI,cond_true] at h;split at h<;>cases h
   exact⟨_,_,_,rfl,RU aI,rfl,.inl ⟨.inr rfl,_,by assumption,rfl⟩⟩
 ·rename_i bn F X u;cases aI:sE X with
  |false=>simp[aI] at h
  |true=>
   simp only[aI,cond_true] at h;cases h;exact⟨_,_,_,rfl,RU aI,rfl,.inr ⟨_,rfl,rfl⟩⟩
 ·cases h
theorem aeN(a6:b1 P){f:FuncId}(au:a6.f=f):P.funcs[f]?=some a6.fn/\a6.fn.body.isSome=true/\a6.fn.name≠"runtime.NumGoroutine"/\a6.fn.body=some (a6.fn.body.getD .skip):=by
 refine⟨by rw[<- au];exact a6.Rw,a6.aeM,by simpa using a6.Rx,?_⟩
 have:=a6.aeM
 cases ag:a6.fn.body with
 |none=>rw[ag] at this;cases this
 |some c=>rfl
theorem Qm{e:mg}{a6:b1 P}{lf:Nat}{f:FuncId}{args:List U}{X af:al}{y:Out}(h:iy e a6 lf f args X=some (y,af)):a6.f=f/\args.length<=a6.fn.ntmps/\
 ∃X1,r9 P e.dcall a6.fn (m0 a6 e.call lf (a6.fn.body.getD .skip) (hl .nil 0 args) {X with bx:=[]})=some (y,X1)/\af={X1 with bx:=X.bx}:=by
 unfold iy at h;cases h1:Nat.beq a6.f f with
 |false=>simp[h1] at h
 |true=>
  cases h2:Nat.ble args.length a6.fn.ntmps with
  |false=>simp[h1,h2] at h
  |true=>
   simp only[h1,h2,Bool.and_self,cond_true] at h;unfold xE at h;split at h<;>cases h
   exact⟨Nat.eq_of_beq_eq_true h1,Nat.le_of_ble_eq_true h2,_,by assumption,rfl⟩
theorem adB{e:mg}(he:xS P e)(hm:P.follows .mixedOrders=true){a6:b1 P}{lf:Nat}{f:FuncId}{args:List U}{X af:al}{y:Out}(h:iy e a6 lf f args X=some (y,af)):di X af:=by
 obtain⟨_,_,X1,m9,rfl⟩:=Qm h;obtain⟨ex,F,c5,u,jS,Bo,_⟩:=PT m9;have ok:=AV hm a6 lf he.call he.keeps he.frame;have k1:=fe.Ce (l:=[]) (ok.keeps _ _ _ _ _ _ jS);have k2:=(k1.hj []).trans (zu he.Da Bo).uD;exact(k2.hj _).to rfl
theorem Qo{e:mg}(he:xS P e)(hm:P.follows .mixedOrders=true){a6:b1 P}{lf:Nat}{f:FuncId}{args:List U}{X af:al}{y:Out}(h:iy e a6 lf f args X=some (y,af))(aB:cX af):
 ∀B aZ E w argv,bQ P B aZ X E w->cg E args argv->rL P E (.iJ f) argv w (tb P B aZ E y af):=by
 obtain⟨au,hlen,X1,m9,rfl⟩:=Qm h;obtain⟨ex,F,c5,u,jS,Bo,hex⟩:=PT m9;have ok:=AV hm a6 lf he.call he.keeps he.frame;obtain⟨h1,h2,h3,aT⟩:=aeN a6 au;have mC:cX X1:=aB;have zg:cX c5:=(zu he.Da Bo).pc mC;obtain⟨_,k⟩:=ok.Bc _ _ _ _ _ _ a6.aeO jS zg;intro B aZ E w argv aE aI;refine⟨a6.fn,h1,h2,h3,callsIn_of_wp_marks h1 aT trivial ?_⟩;refine k none B aZ E [] _ w _ (aE.hj []) ⟨rfl,ai9 aI hlen⟩ rfl rfl ?_;intro aW eI a' w' aaK aj aC a8 cF dK
 have fin:∀Mg,mS aW u Mg->LeavesInM (gE none) 0 P a6.fn a'.tmps (tb P B aZ E y {X1 with bx:=X.bx}) a'.defers Mg w':=λMg aqC=>by
  rw[aC.1];refine JU he.dcall he.Da (N:=a6.fn.ntmps) mC _ u _ aW eI eI a' w' Mg Bo (cF.hj _) aC a8 aqC ?_;intro xR ay cV bY b2 ht;refine⟨xR,aj.trans bY,b2.hj _,?_⟩;cases y with
  |ret z=>exact ht
  |cY bn=>exact ht
 rcases hex with⟨rfl,rfl⟩|⟨rfl,rfl⟩|⟨bn,rfl,rfl⟩
 ·cases dK;exact fin .returning rfl
 ·cases dK;exact fin .returning rfl
 ·obtain⟨p,nc,rfl⟩:=dK;exact fin (.panicking p) ⟨p,nc,rfl⟩
theorem adA{e:mg}(he:xS P e)(hm:P.follows .mixedOrders=true){a6:b1 P}{lf:Nat}{f:FuncId}{args:List U}{X af:al}{y:Out}{m:Nat}{ob:bH}(au:c9 X m)(h:iy e a6 lf f args X=some (y,af)):iy e a6 lf f args (X.add m ob)=some (y,af.add m ob):=by
 have h0:=h;obtain⟨qV,hlen,X1,m9,rfl⟩:=Qm h;obtain⟨ex,F,c5,u,jS,Bo,hex⟩:=PT m9;have ok:=AV hm a6 lf he.call he.keeps he.frame;have az:=ok.frame m ob _ _ _ _ _ _ (au.hj []) jS;have lD:c9 c5 m:=(au.hj []).vl (ok.keeps _ _ _ _ _ _ jS);have ay:=JT (ob:=ob) he.Da he.aaD (lD.hj []) Bo;unfold iy;have bY:Nat.beq a6.f f=true:=by simp[qV]
 have b2:Nat.ble args.length a6.fn.ntmps=true:=by rw[Nat.ble_eq];exact hlen
 rw[bY,b2];simp only[Bool.and_self,cond_true];rw[show({X.add m ob with bx:=[]}:al)=({X with bx:=[]}:al).add m ob from rfl,az]
 have b9:r9 P e.dcall a6.fn (some (ex,F,c5.add m ob))=some (y,X1.add m ob):=by
  rcases hex with⟨rfl,rfl⟩|⟨rfl,rfl⟩|⟨bn,rfl,rfl⟩<;>exact ay
 rw[b9];rfl
theorem OF(tab:aH (NL P))(lf:Nat)(hm:P.follows .mixedOrders=true):∀fuel,xS P (jc P tab lf fuel)
 |0=>⟨λ_ _ _ _ _ h=>by simp[jc] at h,λ_ _ _ _ _ h=>by simp[jc] at h,λ_ _ _ _ _ _ _ h=>by simp[jc] at h,λ_ _ _ _ _ _ _ h=>by simp[jc] at h,λ_ _ _ _ _ _ _ h=>by simp[jc] at h,λ_ _ _ _ _ _ _ _ _ h=>by simp[jc] at h⟩
 |fuel+1=>by
  have he:=OF tab lf hm fuel;generalize ad4:jc P tab lf fuel=bp at he
  have c0:∀c args X,(jc P tab lf (fuel+1)).call c args X=match c with
   | .fn f=>(match tab.get f with
     |some (.fn a6)=>iy bp a6 lf f args X
     |some (.nat mb)=>bif Nat.beq mb.f f then(match ui mb.k args X with|some y=>some (.ret y,X)|none=>none) else none
     |none=>none)
   | .iJ f=>(match tab.get f with
     |some (.fn a6)=>iy bp a6 lf f args X
     |_=>none)
   | .fV k=>(match X.aV.get k with
     |some o=>match o.sp with
      | .loop _ _ ord me N F ps a c _=>l7 (cl P bp.call ord me (some k) N lf (k0 P bp.call ord me (some k) N lf lf)) k N F ps a c args X
      |_=>none
     |none=>none):=λc args X=>by rw[<- ad4];cases c<;>rfl
  have ad2:∀f args u X,(jc P tab lf (fuel+1)).dcall f args u X=match tab.get f with
   |some (.fn a6)=>bif Nat.beq a6.f f&&Nat.ble args.length a6.fn.ntmps then r8 P a6.fn X.bx (m2 P a6.fn.ntmps (m0 a6 bp.call lf) (a6.fn.body.getD .skip) (hl .nil 0 args) {X with bx:=[]} u) else none
   |_=>none:=λf args u X=>by rw[<- ad4];rfl
  have Xw:∀{ord:Nat->Hint} {me:FuncId} {k N:Nat},∀c F X ex F' af,cl P bp.call ord me (some k) N lf (k0 P bp.call ord me (some k) N lf lf) c F X=some (ex,F',af)->fe X af:=λc F X ex F' af h=>pS he.keeps (JM he.keeps lf) c F X ex F' af h
  have Oo:∀{f args u X y gV af},(jc P tab lf (fuel+1)).dcall f args u X=some (y,gV,af)->∃a6:b1 P,tab.get f=some (.fn a6)/\a6.f=f/\args.length<=a6.fn.ntmps/\
   r8 P a6.fn X.bx (m2 P a6.fn.ntmps (m0 a6 bp.call lf) (a6.fn.body.getD .skip) (hl .nil 0 args) {X with bx:=[]} u)=some (y,gV,af):=by
   intro f args u X y gV af h;rw[ad2] at h;split at h<;>try(cases h;done)
   rename_i a6 ED;cases h1:Nat.beq a6.f f with
   |false=>simp[h1] at h
   |true=>
    cases h2:Nat.ble args.length a6.fn.ntmps with
    |false=>simp[h1,h2] at h
    |true=>
     simp only[h1,h2,Bool.and_self,cond_true] at h;exact⟨a6,ED,Nat.eq_of_beq_eq_true h1,Nat.le_of_ble_eq_true h2,h⟩
  have keeps:fX (jc P tab lf (fuel+1)).call:=by
   intro c args X y af h;rw[c0] at h;cases c with
   |fn f=>
    simp only at h;split at h
    ·exact adB he hm h
    ·rename_i mb _;cases ag:Nat.beq mb.f f with
     |false=>simp[ag] at h
     |true=>
      simp only[ag,cond_true] at h;split at h<;>cases h
      exact di.refl _
    ·cases h
   |iJ f=>
    simp only at h;split at h
    ·exact adB he hm h
    ·cases h
   |fV k=>
    simp only at h;split at h<;>try(cases h;done)
    split at h<;>try(cases h;done)
    exact aBX Xw h
  refine⟨λc args X y af h aB=>?_,keeps,λc args X y af m ob h au=>?_,λf args u X y gV af h aB=>?_,λf args u X y gV af h=>?_,λf args u X y gV af m ob h au=>?_⟩
  ·refine⟨(keeps _ _ _ _ _ h).pc aB,?_⟩;rw[c0] at h;cases c with
   |fn f=>
    simp only at h;split at h
    ·intro B aZ E w argv aE aI;exact .inl (Qo he hm h aB B aZ E w argv aE aI)
    ·rename_i mb _;cases ag:Nat.beq mb.f f with
     |false=>simp[ag] at h
     |true=>
      simp only[ag,cond_true] at h;split at h<;>cases h
      rename_i z aX;intro B aZ E w argv aE aI;obtain⟨v,aQ,hv⟩:=arU aE aI aX;have apE:=Nat.eq_of_beq_eq_true ag;refine .inr ⟨v,w,?_,E,cQ.refl _,aE,v,rfl,hv⟩;rw[run_callFunc_extern (by rw[<- apE];exact mb.Rw) mb.Rx mb.asf mb.asg mb.aq5,aQ];rfl
    ·cases h
   |iJ f=>
    simp only at h;split at h
    ·exact Qo he hm h aB
    ·cases h
   |fV k=>
    simp only at h;split at h<;>try(cases h;done)
    rename_i o aq;split at h<;>try(cases h;done)
    rename_i ak;refine(aBW (λc F X ex F' af eN h aB=>r6 bp.call he.call he.keeps he.frame hm (rd:=some k) (aeS bp.call he.call he.keeps he.frame hm lf) c F X ex F' af eN h aB) Xw aq ak h aB).2
  ·rw[c0] at h⊢;cases c with
   |fn f=>
    simp only at h⊢;split at h
    ·exact adA he hm au h
    ·rename_i mb _;cases ag:Nat.beq mb.f f with
     |false=>simp[ag] at h
     |true=>
      simp only[ag,cond_true] at h⊢;split at h<;>cases h
      rename_i z aX;rw[arT au aX]
    ·cases h
   |iJ f=>
    simp only at h⊢;split at h
    ·exact adA he hm au h
    ·cases h
   |fV k=>
    simp only at h⊢;split at h<;>try(cases h;done)
    rename_i o aq;simp only[(add_get au aq).1];split at h<;>try(cases h;done)
    exact aBV Xw (λc F X ex F' af au h=>r5 he.frame he.keeps (aeR he.frame he.keeps lf) (JM he.keeps lf) c F X ex F' af au h) au h
  ·obtain⟨a6,ED,qV,hlen,m9⟩:=Oo h;obtain⟨ex,F,c5,jS,o7,rfl,hex⟩:=PS m9;have ok:=AV hm a6 lf he.call he.keeps he.frame;obtain⟨h1,h2,h3,aT⟩:=aeN a6 qV;refine⟨⟨a6.fn,h1,h2,h3⟩,λB aZ E w argv m aE aI kU=>?_⟩;have zg:cX c5:=aB;have kd:=amE ok.Bc ok.keeps _ _ _ _ _ _ _ _ a6.aeO jS zg;refine callsDIn_of_wpSIn h1 aT trivial λcG cs mz=>?_
   have apr:cG={cG with mode:=m}:=by subst mz;rfl
   have key:=kd B aZ E [] {tmps:=argv.toArray++Array.replicate (a6.fn.ntmps-argv.toArray.size) undef,defers:=[]} w m cG cs
    (λe a' jV w'=>bodyPostS P a6.fn cG cs (λe jV w'=>∃aW,cQ E aW/\bQ P B aZ {c5 with bx:=X.bx} aW w'/\mS aW gV jV/\GS aW y e) e a' ({cG with mode:=jV}::cs) w') (aE.hj []) ⟨rfl,ai9 aI hlen⟩ rfl kU ?_
   ·rw[<- apr] at key;intro dm k x1 x2 x3 bC;obtain⟨e,aC,aGq,cV,l,⟨hH,rfl,q⟩,r⟩:=key dm k x1 x2 x3 bC;exact⟨e,aC,_,cV,l,q,r⟩
   ·intro aW eI a' w' e jV g1 g2 g3 g4 g5 g6;rw[o7] at g3;have QO:a'.defers=[]:=by rw[g2.1];exact g3
    rcases hex with⟨hex,ys,eU,rfl⟩|⟨bn,rfl,rfl⟩
    ·obtain⟨v,aQ,hv⟩:=ahH (fn:=a6.fn) g4 g2 eU;rcases hex with rfl|rfl
     ·cases g6;exact⟨QO,jV,rfl,v,aQ,aW,g1,g4.hj _,g5,v,rfl,hv⟩
     ·cases g6;exact⟨QO,jV,rfl,v,aQ,aW,g1,g4.hj _,g5,v,rfl,hv⟩
    ·obtain⟨p,nc,rfl⟩:=g6;exact⟨QO,jV,rfl,aW,g1,g4.hj _,g5,p,rfl,nc⟩
  ·obtain⟨a6,ED,qV,hlen,m9⟩:=Oo h;obtain⟨ex,F,c5,jS,o7,rfl,hex⟩:=PS m9;have ok:=AV hm a6 lf he.call he.keeps he.frame;have k1:=fe.Ce (l:=[]) (aad ok.keeps _ _ _ _ _ _ _ _ jS);exact(k1.hj _).to rfl
  ·obtain⟨a6,ED,qV,hlen,m9⟩:=Oo h;obtain⟨ex,F,c5,jS,o7,rfl,hex⟩:=PS m9;have ok:=AV hm a6 lf he.call he.keeps he.frame;have az:=amD ok.keeps (ok.frame m ob) _ _ _ _ _ _ _ _ (au.hj []) jS;have lD:c9 c5 m:=(au.hj []).vl (aad ok.keeps _ _ _ _ _ _ _ _ jS);rw[ad2,ED];have bY:Nat.beq a6.f f=true:=by simp[qV]
   have b2:Nat.ble args.length a6.fn.ntmps=true:=by rw[Nat.ble_eq];exact hlen
   simp only[bY,b2,Bool.and_self,cond_true];rw[show({X.add m ob with bx:=[]}:al)=({X with bx:=[]}:al).add m ob from rfl,az];have aR:sE (c5.add m ob)=true:=by show sE c5=true;unfold sE;rw[o7]
   rcases hex with⟨hex,ys,eU,rfl⟩|⟨bn,rfl,rfl⟩
   ·rcases hex with rfl|rfl
    ·simp only[r8,aR,cond_true,LL lD eU];rfl
    ·simp only[r8,aR,cond_true,LL lD eU];rfl
   ·simp only[r8,aR,cond_true];rfl
def Start(aO:Nat)(aV:cE)(w:World):Prop:=
 aO<=w.heap.size/\∀k o,aV.get k=some o->k<aO/\o.ro=true/\o.sp= .cells/\∀P E,lT P E o w.heap[k]? 0
theorem anz{aO:Nat}{aV:cE}{cN:List Bool}{w:World}(h:Start aO aV w):
 bQ P w.heap.size w {aO,next:=aO,aV,cN,pc:=[],bx:=[]} {f:=λk=>if k<aO then some (k,0) else none,n:=0} w:=by
 refine⟨rfl,rfl,rfl,Nat.le_refl _,λ_ _=>rfl,λk o ai=>?_,λk b6 o o' id c a4 ai cO he fS=>?_,λk ai=>?_,λg bc=>⟨0,if_pos bc⟩,Nat.zero_le _⟩
 ·obtain⟨h1,h2,aT,h3⟩:=h.2 k o ai
  exact⟨k,0,if_pos h1,h3 _ _,λh=>by
   rcases h with h|h
   ·rw[h2] at h;cases h
   ·exact absurd aT h⟩
 ·obtain⟨h1,_⟩:=h.2 k o ai;obtain⟨j9,_⟩:=h.2 b6 o' cO;have he:=(if_pos h1).symm.trans he;have fS:=(if_pos j9).symm.trans fS;cases he;cases fS;rfl
 ·have cO:aO<=k:=ai;exact if_neg (by omega)
theorem bQ.below{X:al}(h:bQ P aZ.heap.size aZ X E w):RowKit.Below aZ.heap.size aZ w:=⟨h.os,h.tape,h.output,h.base,h.gB⟩
end
section
open Go.ChangeShapes Go.WideShapes Go.ChangeAt Go.RowKit
section
variable{H:Type}{enc:TypeId×Value->H}{P:Program}{W W':World}
theorem ajc(aJ:laidOutB P=true)(ag:Below W.heap.size W W'):∀{c8:List TypeId} {vs:List Value} {bq:List (DataW H)} {ps:List MemPlace},(∀t∈c8,P.readableRec t=true/\t<P.types.size)->
 DataW.TrodAll enc P W 0 (λ_=>true) true c8 vs bq ps->(∀x∈ps,x.block<W.heap.size)->DataW.TrodAll enc P W' 0 (λb=>decide (b<W.heap.size)) true c8 vs bq ps
 | [],vs,bq,ps,_,h,_=>by
   obtain⟨rfl,rfl,rfl⟩:=trodAll_nil h;exact trodAll_mk0
 |t::c8,vs,bq,ps,aN,h,a9=>by
  obtain⟨v,Co,d,eI,p,q,rfl,rfl,rfl,h0,h1⟩:=trodAll_cons h
  have:=aN t (List.mem_cons_self ..)
  exact trodAll_cons_mk (Below.trod aJ this.1 this.2 h0 ag λx ax=>a9 x (List.mem_append_left _ ax))
   (ajc aJ ag (λt aqy=>aN t (List.mem_cons_of_mem _ aqy)) h1 λx ax=>a9 x (List.mem_append_right _ ax))
theorem arn{s:ChangeSpec}{f:Func}{args:Array Value}{bq gs:List (DataW H)}{before:List MemPlace}{t:TypeId}(o4:DataW.Whole enc P f.params.toList s.vars false W args.toList bq gs before)
 (aeE:s.vars=[])(Bq:f.resultTypes= #[t])(aN:P.underlying t=some .bool)(Re:s.fn H (bq++[])={results:=[.lit (.bool true)],args:=bq})
 (ag:Below W.heap.size W W')(aJ:laidOutB P=true)(aQ:∀t∈f.params.toList,P.readableRec t=true/\t<P.types.size):
 s.post enc P f false true false false W args (.bool true) W':=by
 have a9:=o4.lt;have u5:=o4;obtain⟨p,q,tH,Bf,rfl,o8,sg⟩:=o4;rw[aeE] at Bf;obtain⟨rfl,rfl⟩:=trodVars_none Bf;refine⟨bq,[],p++[],[],p,[],u5,?_,?_,?_,ag.frame _,λh=>by cases h⟩
 ·rw[Re,Bq];exact trodAll_cons_mk (shut_bool aN _) trodAll_mk0
 ·rw[Re];exact ajc aJ ag aQ tH λx ax=>a9 x (List.mem_append_left _ ax)
 ·rw[Re,aeE];rfl
def X5(ty n:Nat)(l:List U):bH:={cq:=0,ty,n,loose:=false,esz:=1,ro:=true,mZ:=λ_=>none,fL:=qo l,sp:= .cells}
theorem aEo{g ty n:Nat}{k:IntKind}{zs:List Int}(h:∀i,i<zs.length->W.cell? ⟨g,i,none⟩=some (.int k (zs.getD i 0)))(h0:0<zs.length)(P:Program)(E:Env):
 lT P E (X5 ty n (zs.map (.int k))) W.heap[g]? 0:=by
 have cj:=h 0 h0;unfold World.cell? at cj;split at cj<;>try(cases cj;done)
 rename_i c e f ag;refine .inl ⟨rfl,c,e,f.1,f.2,ag,λj y aa=>?_,λh=>by cases h⟩;have a9:=bH.yI aa;unfold bH.get at aa;have oa:Nat.blt j n=true:=by rw[Nat.blt_eq];exact a9
 simp only[X5,oa,cond_true] at aa;cases aq:(qo (zs.map (U.int k))).get j with
 |none=>simp[aq] at aa
 |some z=>
  simp only[aq,Option.some.injEq] at aa;subst aa;have h1:=I9 _ _ _ aq;simp only[List.getElem?_map,Option.map_eq_some_iff] at h1;obtain⟨x,ax,rfl⟩:=h1;have hb:=(List.getElem?_eq_some_iff.1 ax).1;have h2:=h j hb;simp only[World.cell?,ag] at h2;exact⟨_,h2,by simp[List.getD,ax,Den]⟩
end
end
section
variable{P:Program}{W:World}
def L6(g ty n:Nat)(l:List U):cE:=cE.put {jD:= .nil,base:=λ_=>none} g (X5 ty n l)
theorem aC1{g ty n:Nat}{k:IntKind}{zs:List Int}(h:∀i,i<zs.length->W.cell? ⟨g,i,none⟩=some (.int k (zs.getD i 0)))(h0:0<zs.length):
 Start (g+1) (L6 g ty n (zs.map (.int k))) W:=by
 refine⟨?_,λj o bc=>?_⟩
 ·have cj:=h 0 h0;unfold World.cell? at cj;split at cj<;>try(cases cj;done)
  rename_i ag
  have:=(Array.getElem?_eq_some_iff.1 ag).1
  simp only at this;omega
 ·rcases cE.iM bc with⟨rfl,rfl⟩|⟨_,h2⟩
  ·exact⟨by omega,rfl,rfl,λP E=>aEo h h0 P E⟩
  ·simp[cE.get,aH.get] at h2
end
noncomputable section
def EY:Nat->Nat->List Bool
 |0,_=>[]
 |f+1,i=>bif Nat.beq i 0 then[] else bif Nat.beq (i%2) 1 then true::EY f (i/2) else false::EY f (i/2-1)
def path(i:Nat):List Bool:=EY (i+1) i
def o2{α:Type}:List Bool->aH α->Option α:=λp=>List.rec (motive:=λ_=>aH α->Option α)
 (λt=>aH.rec (motive:=λ_=>Option α) none (λv _ _ _ _=>v) t)
 (λb _ bp t=>aH.rec (motive:=λ_=>Option α) none (λ_ l r _ _=>Bool.rec (motive:=λ_=>Option α) (bp r) (bp l) b) t) p
theorem Qj{α:Type}:∀(f i:Nat) (t:aH α),i<f->o2 (EY f i) t=t.get i
 |0,_,_,h=>by omega
 |f+1,i,t,h=>by
  simp only[EY];cases h0:Nat.beq i 0 with
  |true=>
   simp only[cond_true];cases t with
   |nil=>rfl
   |node v l r=>simp[o2,aH.get,h0]
  |false=>
   have hi:=Nat.ne_of_beq_eq_false h0;simp only[cond_false];cases h1:Nat.beq (i%2) 1 with
   |true=>
    simp only[cond_true];cases t with
    |nil=>rfl
    |node v l r=>
     have:=Qj f (i/2) l (by omega)
     simp only[aH.get,h0,h1,cond_true,cond_false, <- this];rfl
   |false=>
    simp only[cond_false];cases t with
    |nil=>rfl
    |node v l r=>
     have:=Qj f (i/2-1) r (by omega)
     simp only[aH.get,h0,h1,cond_false, <- this];rfl
theorem Qi{α:Type}(i:Nat)(t:aH α):o2 (path i) t=t.get i:=Qj _ _ _ (Nat.lt_succ_self i)
end
noncomputable section
def zI(o:bH)(off:Nat)(cells:List U):bH:=match o with
 |⟨cq,ty,n,loose,esz,ro,mZ,fL,sp⟩=>force (cq+1) λv=>⟨v,ty,n,loose,esz,ro,mZ,hl fL off cells,sp⟩
structure YT where
 run:IntKind->Int->IntKind->Int->Option U
def nF(k b6:IntKind):Bool:=Nat.beq k.ctorIdx b6.ctorIdx
theorem ard(k b6:IntKind):nF k b6=(k==b6):=by cases k<;>cases b6<;>rfl
def JN:BinOp->YT
 | .add=>⟨λk a b6 b=>bif nF k b6 then some (j8 (k.wrap (a+b)) λr=> .int k r) else none⟩
 | .sub=>⟨λk a b6 b=>bif nF k b6 then some (j8 (k.wrap (a-b)) λr=> .int k r) else none⟩
 | .mul=>⟨λk a b6 b=>bif nF k b6 then some (j8 (k.wrap (a*b)) λr=> .int k r) else none⟩
 | .quo=>⟨λk a b6 b=>bif nF k b6 then arith .quo k a b else none⟩
 | .rem=>⟨λk a b6 b=>bif nF k b6 then arith .rem k a b else none⟩
 | .and=>⟨λk a b6 b=>bif nF k b6 then arith .and k a b else none⟩
 | .or=>⟨λk a b6 b=>bif nF k b6 then arith .or k a b else none⟩
 | .xor=>⟨λk a b6 b=>bif nF k b6 then arith .xor k a b else none⟩
 | .andNot=>⟨λk a b6 b=>bif nF k b6 then arith .andNot k a b else none⟩
 | .eql=>⟨λk a b6 b=>bif nF k b6 then some (.bool (a==b)) else none⟩
 | .neq=>⟨λk a b6 b=>bif nF k b6 then some (.bool (a != b)) else none⟩
 | .lss=>⟨λk a b6 b=>bif nF k b6 then some (.bool (decide (a<b))) else none⟩
 | .leq=>⟨λk a b6 b=>bif nF k b6 then some (.bool (decide (a<=b))) else none⟩
 | .gtr=>⟨λk a b6 b=>bif nF k b6 then some (.bool (decide (a>b))) else none⟩
 | .geq=>⟨λk a b6 b=>bif nF k b6 then some (.bool (decide (a>=b))) else none⟩
 |op=>⟨λk a b6 b=>Bv op k a b6 b⟩
theorem arb(op:BinOp)(k:IntKind)(a:Int)(b6:IntKind)(b:Int):(JN op).run k a b6 b=Bv op k a b6 b:=by
 cases op<;>simp only[JN,ard]<;>rfl
section
variable(P:Program)
def arc(A:YT)(op:BinOp)(t:TypeId)(k:IntKind)(a:Int)(y:U):Option U:=match y with
 | .int b6 b=>A.run k a b6 b
 |y=>AI P op t (.int k a) y
end
theorem ET(o:bH)(off:Nat)(cells:List U):zI o off cells={o with cq:=o.cq+1,fL:=hl o.fL off cells}:=by
 cases o;simp[zI,force_eq]
end
noncomputable section
end
noncomputable section
def Bx(P:Program)(callf:cc)(ord:Nat->Hint)(me:FuncId)(rd:Option Nat)(N lf:Nat):Code->aH U->al->R:=
 cl P callf ord me rd N lf (k0 P callf ord me rd N lf lf)
theorem Rz(P:Program)(callf:cc)(ord:Nat->Hint)(me:FuncId)(rd:Option Nat)(N lf:Nat):
 Bx P callf ord me rd N lf=cl P callf ord me rd N lf (k0 P callf ord me rd N lf lf):=rfl
def RA{P:Program}(bp:mg)(a6:b1 P)(lf:Nat)(f:FuncId)(args:List U)(X:al):Option (Out×al):=
 bif Nat.beq a6.f f&&Nat.ble args.length a6.fn.ntmps then xE X.bx (r9 P bp.dcall a6.fn (Bx P bp.call a6.ord a6.f none a6.fn.ntmps lf (a6.fn.body.getD .skip) (hl .nil 0 args) {X with bx:=[]})) else none
end
noncomputable section
structure J where
 aO:Nat
 next:Nat
 aV:cE
def J.x(h:J)(O:List Bool)(p:List Prop)(D:List eR):al:={aO:=h.aO,next:=h.next,aV:=h.aV,cN:=O,pc:=p,bx:=D}
def J.x0(h:J):al:=h.x [] [] []
def al.h(X:al):J:=⟨X.aO,X.next,X.aV⟩
def ax(r:Option (U×al)):Option (U×J):=match r with
 |some (y,X)=>some (y,X.h)
 |none=>none
def ak(r:Option al):Option J:=match r with
 |some X=>some X.h
 |none=>none
abbrev ab:=Option (Out×J)
abbrev ad:=xQ->List U->J->ab
abbrev Fr:=Nat->Option U
theorem e8{α:Type _}{a b:α}(h:a=b):a=b:=h
def ob{α:Type}(x:Option α)(k:α->ab):ab:=Option.rec (motive:=λ_=>ab) none k x
def b2(x:Option (U×J))(k:U->J->ab):ab:=Option.rec (motive:=λ_=>ab) none (λp=>Prod.rec (motive:=λ_=>ab) k p) x
def alx(k:U->J->ab)(o:Out)(h:J):ab:=Out.rec (motive:=λ_=>ab) (λy=>k y h) (λbn=>some (.cY bn,h)) o
def dL(x:ab)(k:U->J->ab):ab:=Option.rec (motive:=λ_=>ab) none (λp=>Prod.rec (motive:=λ_=>ab) (alx k) p) x
def aly(k:U->J->ab)(o:Out)(h:J):ab:=Out.rec (motive:=λ_=>ab) (λy=>k y h) (λ_=>none) o
def cM(x:ab)(k:U->J->ab):ab:=Option.rec (motive:=λ_=>ab) none (λp=>Prod.rec (motive:=λ_=>ab) (aly k) p) x
def rY(eS:Bool)(x:ab)(k:U->J->ab):ab:=match eS with
 |true=>cM x k
 |false=>dL x k
@[simp] theorem b8{α:Type}(x:α)(k:α->ab):ob (some x) k=k x:=e8 rfl
@[simp] theorem aHa{α:Type}(k:α->ab):ob none k=none:=e8 rfl
@[simp] theorem ns(y:U)(h:J)(k:U->J->ab):b2 (some (y,h)) k=k y h:=e8 rfl
@[simp] theorem aGi(k:U->J->ab):b2 none k=none:=e8 rfl
@[simp] theorem ks(y:U)(h:J)(k:U->J->ab):dL (some (.ret y,h)) k=k y h:=e8 rfl
@[simp] theorem aGk(bn:j2)(h:J)(k:U->J->ab):dL (some (.cY bn,h)) k=some (.cY bn,h):=e8 rfl
@[simp] theorem aGj(k:U->J->ab):dL none k=none:=e8 rfl
@[simp] theorem CX(y:U)(h:J)(k:U->J->ab):cM (some (.ret y,h)) k=k y h:=e8 rfl
@[simp] theorem aGm(bn:j2)(h:J)(k:U->J->ab):cM (some (.cY bn,h)) k=none:=e8 rfl
@[simp] theorem aGl(k:U->J->ab):cM none k=none:=e8 rfl
def gn(y:U)(a b:ab):ab:=match y with
 | .bool c=>Bool.rec (motive:=λ_=>ab) b a c
 |_=>none
@[simp] theorem sX(a b:ab):gn (.bool true) a b=a:=e8 rfl
@[simp] theorem qs(a b:ab):gn (.bool false) a b=b:=e8 rfl
def DK(aO g:Nat)(k:U->ab):ab:=bif Nat.blt g aO then k (.ptr g 0) else none
def vN(aO:Nat)(F:Fr)(x:Operand)(k:U->ab):ab:=match x with
 | .tmp t=>ob (F t) k
 | .const v=>k (c1 v)
 | .global g=>DK aO g k
 | .func f=>k (.fn (.func f) [] [])
def Cv(aO:Nat)(F:Fr):List Operand->(List U->ab)->ab
 | [],k=>k []
 |x::xs,k=>vN aO F x λa=>Cv aO F xs λe3=>k (a::e3)
def hz(v:List U)(k:U->ab):ab:=match v with
 | [a]=>k a
 |_=>none
def k7(v:List U)(k:U->U->ab):ab:=match v with
 | [a,b]=>k a b
 |_=>none
def xb(v:List U)(k:U->U->U->ab):ab:=match v with
 | [a,b,c]=>k a b c
 |_=>none
def RE(k off:Nat)(h:J):Option U:=match h.aV.get k with
 |some o=>o.get off
 |none=>none
def bO(a:U)(h:J):Option U:=match a with
 | .ptr k off=>RE k off h
 |_=>none
def JS(n k off:Nat)(h:J):Option U:=match h.aV.get k with
 |some o=>(match kG o off n with|some ys=>some (.agg ys)|none=>none)
 |none=>none
def eB(n:Nat)(a:U)(h:J):Option U:=match a with
 | .ptr k off=>JS n k off h
 |_=>none
def Ez(h:J)(k:Nat)(o:bH):J:=match h with
 |⟨aO,next,⟨jD,base⟩⟩=>⟨aO,next,⟨jD.put k (some o),base⟩⟩
def XQ(n k off:Nat)(y:U)(h:J)(o:bH):Option J:=bif Nat.beq y.cells.length n&&Nat.ble (off+n) o.n&&!o.ro&&dB y.cells then some (Ez h k (zI o off y.cells)) else none
def LW(n k off:Nat)(y:U)(h:J):Option J:=match h.aV.get k with
 |some o=>XQ n k off y h o
 |none=>none
def st(n:Nat)(a y:U)(h:J):Option J:=match a with
 | .ptr k off=>LW n k off y h
 |_=>none
def bZ(qH:Nat)(a:U):Option U:=match a with
 | .ptr k off=>force (off+qH) λo=>some (.ptr k o)
 |_=>none
def AG(n s i k off:Nat):Option U:=bif Nat.blt i n then(force (off+i*s) λo=>some (.ptr k o)) else none
def eu(n s:Nat)(x hy:U):Option U:=match kl hy with
 |some i=>(match x with| .ptr k off=>AG n s i k off|_=>none)
 |none=>none
def dQ(s:Nat)(x hy:U):Option U:=match kl hy with
 |some i=>(match x with| .aF k off len _ _=>AG len s i k off|_=>none)
 |none=>none
def HZ(qH:Nat)(a:U):Option U:=match a with
 | .agg cs=>cs[qH]?
 |_=>none
def abb(qH n:Nat)(a:U):Option U:=match a with
 | .agg cs=>bif Nat.ble (qH+n) cs.length then some (.agg ((cs.drop qH).take n)) else none
 |_=>none
def ext(i:Nat)(x:U):Option U:=match x with
 | .bm vs=>vs[i]?
 |_=>none
def yq(k:IntKind)(a:U):Option U:=match a with
 | .int _ n=>some (j8 (k.wrap n) λr=> .int k r)
 | .val (.int _ n)=>some (.val (.int k (k.wrap n)))
 |_=>none
def jH(c a b:U):Option U:=match c with
 | .bool t=>Bool.rec (motive:=λ_=>Option U) (some b) (some a) t
 |_=>none
section
variable(P:Program)
def bin(op:BinOp)(t:TypeId)(x y:U):Option U:=match x with
 | .int k a=>arc P (JN op) op t k a y
 |x=>AI P op t x y
def j0(e:TypeId)(h:J):Option (U×J):=ax (qg P e h.x0)
def pB(e:TypeId)(x:U)(h:J):Option (U×J):=ax (qi e x h.x0)
def gp(t:TypeId)(len:Nat)(hy:List Nat)(vs:List U)(h:J):Option (U×J):=ax (oD P t len hy vs h.x0)
def nN(t:TypeId)(l c:U)(h:J):Option (U×J):=ax (qj P t l c h.x0)
def rJ(s d:TypeId)(x:U)(h:J):Option (U×J):=match oE P s d x with
 |some y=>some (y,h)
 |none=>ax (jP P s d x h.x0)
def aF4(t:TypeId)(x:U)(h:J):Option (U×J):=ax (z4 P t x h.x0)
def ajJ(x:U)(h:J):Option (U×J):=match x with
 | .ptr k 0=>ax (xv k h.x0)
 |_=>none
def aF5(t:TypeId)(x:U):Option U:=match x with
 | .aF k off len _ _=>XK P t k off len
 |_=>none
def aF1(h:J):Option (U×J):=some (.mp (uj h.x0).1,(uj h.x0).2.h)
def ajI(t:TypeId)(ok:Bool)(m k:U)(h:J):Option U:=z3 P t m k ok h.x0
def aF6(t:TypeId)(m k v:U)(h:J):Option J:=ak (xw P t m k v h.x0)
def aF0(t:TypeId)(m k:U)(h:J):Option (U×J):=ax (zZ P t m k h.x0)
def yes(m b v:U)(h:J):Option J:=ak (xu m b v h.x0)
def eX(b:Builtin)(c8:Array TypeId)(vs:List U)(h:J):Option (U×J):=ax (ja P b c8 vs h.x0)
def aeP(C:ad)(name:String)(x:U)(args:List U)(h:J):ab:=match JY P x name h.x0 with
 |some (f,r)=>C (.fn f) (r::args) h
 |none=>none
def fv(eS:Bool)(C:ad)(f:U)(args:List U)(h:J)(k:U->J->ab):ab:=match f with
 | .fn (.func g) a b=>rY eS (C (.fn g) (a++args++b) h) k
 | .fV j=>rY eS (C (.fV j) args h) k
 |_=>none
def MA(eS:Bool)(ch:List U)(h:J):ab:=match eS,ch with
 |false,[.p4 t x]=>some (.cY [(.p4 t x,false)],h)
 |_,_=>none
def ajz(eS:Bool)(b:Builtin)(c8:Array TypeId)(v:List U)(h:J)(k:U->J->ab):ab:=match b with
 | .panic=>MA eS v h
 | .len=>hz v λx=>match c8[0]? with|some t=>ob (eG P t x) λy=>k y h|none=>none
 |b=>b2 (eX P b c8 v h) k
def Yn(eS:Bool)(C:ad)(c:Call)(v:List U)(h:J)(k:U->J->ab):ab:=match c.callee with
 | .builtin b=>ajz P eS b c.argTypes v h k
 | .value _=>(match v with
   |f::args=>fv eS C f args h k
   | []=>none)
 | .invoke _ name=>(match v with
   |x::args=>rY eS (aeP P C name x args h) k
   | []=>none)
def Gu(eS:Bool)(C:ad)(op:Op)(v:List U)(h:J)(k:U->J->ab):ab:=match op with
 | .move _=>hz v λa=>k a h
 | .assign _=>hz v λa=>k a h
 | .pick _ _ _=>xb v λc a b=>ob (jH c a b) λy=>k y h
 | .alloc e=>(match v with| []=>b2 (j0 P e h) k|_=>none)
 | .box e _=>hz v λa=>b2 (pB e a h) k
 | .build t ps=>ob (gM P t (ps.toList.map (·.1)) v) λy=>k y h
 | .buildSlice t len ps=>b2 (gp P t len (ps.toList.map (·.1)) v h) k
 | .load t _=>hz v λa=>(match rG P t,eg P t with
   |some true,some n=>ob (eB n a h) λy=>k y h
   |some false,some _=>ob (bO a h) λy=>k y h
   |_,_=>none)
 | .store t _ _=>k7 v λa y=>(match eg P t with
   |some n=>ob (st n a y h) λh=>k (.val undef) h
   |none=>none)
 | .nilCheck _=>hz v λa=>ob (ev a) λy=>k y h
 | .binOp op t _ _ _=>k7 v λa b=>ob (bin P op t a b) λy=>k y h
 | .unOp op _ _=>hz v λa=>ob (ib op a) λy=>k y h
 | .convert s d _=>hz v λa=>(match P.underlying s,P.underlying d with
   |some (.int _),some (.int kd)=>ob (yq kd a) λy=>k y h
   |_,_=>b2 (rJ P s d a h) k)
 | .makeInterface t _=>hz v λa=>(match P.underlying t with
   |some (.interface _)=>none
   |some _=>k (.p4 t a) h
   |none=>none)
 | .makeFunc fn a _=>k (.fn fn (v.take a.size) (v.drop a.size)) h
 | .makeSlice t _ _=>k7 v λl c=>b2 (nN P t l c h) k
 | .fieldAddr s _ f=>hz v λa=>(match AZ P s f with
   |some fd=>(match eg P fd.type with
    |some (_+1)=>ob (bZ fd.offset a) λy=>k y h
    |_=>none)
   |none=>none)
 | .field s _ f=>hz v λa=>(match AZ P s f with
   |some fd=>(match rG P fd.type,eg P fd.type with
    |some true,some n=>ob (abb fd.offset n a) λy=>k y h
    |some false,some _=>ob (HZ fd.offset a) λy=>k y h
    |_,_=>none)
   |none=>none)
 | .indexAddr t _ _=>k7 v λa i=>(match P.underlying t with
   |some (.array n e)=>(match eg P e with|some s=>ob (eu n s a i) λy=>k y h|none=>none)
   |some (.slice e)=>(match eg P e with|some s=>ob (dQ s a i) λy=>k y h|none=>none)
   |_=>none)
 | .index t _ _=>k7 v λa i=>ob (z1 P t a i) λy=>k y h
 | .extract _ i=>hz v λa=>ob (ext i a) λy=>k y h
 | .range t _=>hz v λa=>b2 (aF4 P t a h) k
 | .next _ true=>hz v λa=>b2 (ajJ a h) k
 | .sliceToArrayPointer t _=>hz v λa=>ob (aF5 P t a) λy=>k y h
 | .makeMap _ none=>(match v with| []=>b2 (aF1 h) k|_=>none)
 | .lookup t _ _ ok=>k7 v λm q=>ob (ajI P t ok m q h) λy=>k y h
 | .mapUpdate t _ _ _=>xb v λm q x=>ob (aF6 P t m q x h) λh=>k (.val undef) h
 | .mapEntry t _ _=>k7 v λm q=>b2 (aF0 P t m q h) k
 | .entryStore _ _ _ _=>xb v λm q x=>ob (yes m q x h) λh=>k (.val undef) h
 | .typeAssert _ _ a ok=>hz v λx=>ob (XL P x a ok) λy=>k y h
 | .slice t _ none none none=>hz v λx=>ob (gl P t x none none) λy=>k y h
 | .slice t _ (some _) none none=>k7 v λx l=>ob (gl P t x (some l) none) λy=>k y h
 | .slice t _ none (some _) none=>k7 v λx r=>ob (gl P t x none (some r)) λy=>k y h
 | .slice t _ (some _) (some _) none=>xb v λx l r=>ob (gl P t x (some l) (some r)) λy=>k y h
 | .call c=>Yn P eS C c v h k
 | .panic _=>MA eS v h
 |_=>none
end
def cT(want:Bool)(x:Option U)(r:ab)(h:J):ab:=match x with
 |some y=>bif ua y then some (.ret (.val undef),h) else(match y with
  | .bool b=>bif b==want then r else some (.ret (.val undef),h)
  |_=>none)
 |none=>none
def xe(N:Nat)(F:Fr)(d:Option Tmp)(y:U):Fr:=match d with
 |some d=>bif Nat.blt d N then(λt=>bif Nat.beq t d then some y else F t) else F
 |none=>F
end
noncomputable section
def dM(b:Bool)(k:ab):ab:=Bool.rec (motive:=λ_=>ab) none k b
@[simp] theorem wx(k:ab):dM true k=k:=e8 rfl
@[simp] theorem aGp(k:ab):dM false k=none:=e8 rfl
def jN(y:U):Option Nat:=match y with
 | .ptr k _=>some k
 | .aF k _ _ _ _=>some k
 |_=>none
def bU(x:Option U):Option Nat:=match x with
 |some y=>jN y
 |none=>none
def adz(aO g:Nat):Option U:=bif Nat.blt g aO then some (.ptr g 0) else none
def oJ(aO:Nat)(F:Fr)(x:Operand):Option U:=match x with
 | .tmp t=>F t
 | .const v=>some (c1 v)
 | .global g=>adz aO g
 | .func f=>some (.fn (.func f) [] [])
def Qg(want:Bool)(x:Option U)(r:Option Nat):Option Nat:=match x with
 |some y=>bif ua y then none else(match y with
  | .bool b=>bif b==want then r else none
  |_=>none)
 |none=>none
def NS(x y:Option U):Option Nat:=match x with
 |some (.mp k)=>(match y with|some _=>some k|none=>none)
 |_=>none
def Mw(ops:List Oper)(o:Oper)(F:Fr)(aO:Nat):Option Nat:=match o.guard with
 |none=>(match o.op.operands.toList with| [x]=>bU (oJ aO F x)| [x,y]=>NS (oJ aO F x) (oJ aO F y)|_=>none)
 |some (j,want)=>(match ops[j]? with
  |some cd=>(match cd.dst with
   |some d=>Qg want (F d) (match o.op.operands.toList with| [x]=>bU (oJ aO F x)| [x,y]=>NS (oJ aO F x) (oJ aO F y)|_=>none)
   |none=>none)
  |none=>none)
def FZ(h h':J)(k:Nat):Bool:=bif Nat.blt k h.next then(match h.aV.get k with
 |some o=>(match h'.aV.get k with|some o'=>Nat.beq o.cq o'.cq|none=>false)
 |none=>false) else false
def ey(bJ:List (Nat×Option Nat))(h h':J):List Nat->Bool
 | []=>true
 |l::ls=>(match mq bJ l with|some k=>FZ h h' k|none=>true)&&ey bJ h h' ls
section
variable(P:Program)(C:ad)(N:Nat)
def Cw(eS:Bool)(ops:List Oper)(o:Oper)(F:Fr)(h:J)(k:Fr->J->ab):ab:=match o.guard with
 |none=>Cv h.aO F o.op.operands.toList λv=>Gu P eS C o.op v h λy h=>k (xe N F o.dst y) h
 |some (j,want)=>(match ops[j]? with
  |some cd=>(match cd.dst with
   |some d=>rY eS (cT want (F d) (Cv h.aO F o.op.operands.toList λv=>Gu P eS C o.op v h λy h=>some (.ret y,h)) h) λy h=>k (xe N F o.dst y) h
   |none=>none)
  |none=>none)
def Gt(eS:Bool)(ops:List Oper):List Oper->Fr->J->(Fr->J->ab)->ab
 | [],F,h,k=>k F h
 |o::rest,F,h,k=>Cw P C N eS ops o F h λF h=>Gt eS ops rest F h k
def Ae(bJ:List (Nat×Option Nat))(h h':J)(ls:List Nat)(k:ab):ab:=match ls with
 | []=>k
 |ls=>dM (ey bJ h h' ls) k
def zV(ops:List Oper)(i:Nat)(o:Oper)(F:Fr)(aO:Nat)(bJ:List (Nat×Option Nat)):List (Nat×Option Nat):=bif fo P o.op then(i,Mw ops o F aO)::bJ else bJ
def Mx(ops:List Oper)(bS:List (Nat×List Nat)):List Nat->List (Nat×Option Nat)->Fr->J->(Fr->J->ab)->ab
 | [],_,F,h,k=>k F h
 |i::is,bJ,F,h,k=>match ops[i]? with
  |none=>none
  |some o=>Cw P C N true ops o F h λF' h'=>Ae bJ h h' (iw bS i) (Mx ops bS is (zV P ops i o F h.aO bJ) F' h' k)
def pC(f:J->Option (U×J))(base i:Nat)(h:J):Option (U×J):=match f ⟨h.aO,base+i,h.aV⟩ with
 |some (y,h')=>some (y,⟨h'.aO,h.next,h'.aV⟩)
 |none=>none
def Ag(op:Op)(v:List U)(base i:Nat)(h:J)(k:U->J->ab):ab:=match op with
 | .alloc e=>(match v with| []=>b2 (pC (j0 P e) base i h) k|_=>none)
 | .box e _=>hz v λa=>dM (kI base a) (b2 (pC (pB e a) base i h) k)
 | .buildSlice t len ps=>dM (oz base v) (b2 (pC (gp P t len (ps.toList.map (·.1)) v) base i h) k)
 | .makeSlice t _ _=>k7 v λl c=>dM (kI base l&&kI base c) (b2 (pC (nN P t l c) base i h) k)
 |_=>none
def BS(base:Nat)(a:Option Nat):Bool:=match a with
 |some j=>Nat.blt j base
 |none=>true
def Gs(ops:List Oper)(base:Nat)(o:Oper)(F:Fr)(aO:Nat)(k:ab):ab:=bif fo P o.op then dM (BS base (Mw ops o F aO)) k else k
def Ah(ops:List Oper)(rs:List Nat)(bS:List (Nat×List Nat))(base:Nat):List Nat->List (Nat×Option Nat)->Fr->J->(Fr->J->ab)->ab
 | [],_,F,h,k=>k F h
 |i::is,bJ,F,h,k=>match ops[i]? with
  |none=>none
  |some o=>Gs P ops base o F h.aO (bif hI rs i o.op then(match o.guard with
   |some _=>none
   |none=>Cv h.aO F o.op.operands.toList λv=>Ag P o.op v base i h λy h'=>Ae bJ h h' (iw bS i) (Ah ops rs bS base is (zV P ops i o F h.aO bJ) (xe N F o.dst y) h' k)) else
   Cw P C N true ops o F h λF' h'=>Ae bJ h h' (iw bS i) (Ah ops rs bS base is (zV P ops i o F h.aO bJ) F' h' k))
def AR(h:J)(base:Nat):List Nat->Bool
 | []=>true
 |k::bL=>(match h.aV.get (base+k) with|none=>true|some _=>false)&&AR h base bL
def zG(rs:List Nat)(n:Nat)(h:J)(k:Nat->J->ab):ab:=force (h.next+n) λm=>dM (AR h h.next rs) (k h.next ⟨h.aO,m,h.aV⟩)
def vL(body:Fr->J->(Fr->J->ab)->ab)(n:Nat):Fr->J->ab:=Nat.rec (motive:=λ_=>Fr->J->ab) (λ_ _=>none) (λ_ bp F h=>body F h bp) n
def ga(ord:Nat->Hint)(lf:Nat):Code->Fr->J->(Fr->J->ab)->(Fr->J->ab)->(Nat->Fr->J->ab)->ab
 | .skip,F,h,aK,_,_=>aK F h
 | .region _ ops false,F,h,aK,_,_=>Gt P C N false ops.toList ops.toList F h aK
 | .region id ops true,F,h,aK,_,_=>(match ord id with
   | .text=>Gt P C N true ops.toList ops.toList F h aK
   | .skip=>none
   | .ord is bS=>Mx P C N ops.toList bS is [] F h aK
   | .news is rs bS=>zG rs ops.size h λbase h=>Ah P C N ops.toList rs bS base is [] F h aK)
 | .seq a b,F,h,aK,bR,ke=>ga ord lf a F h (λF h=>ga ord lf b F h aK bR ke) bR ke
 | .cond c a b,F,h,aK,bR,ke=>vN h.aO F c λy=>gn y (ga ord lf a F h aK bR ke) (ga ord lf b F h aK bR ke)
 | .block id c,F,h,aK,bR,ke=>ga ord lf c F h aK bR (λi F h=>bif Nat.beq i id then aK F h else ke i F h)
 | .loop c,F,h,_,bR,ke=>vL (λF h k=>ga ord lf c F h k bR ke) lf F h
 | .exit id,F,h,_,_,ke=>ke id F h
 | .label _,F,h,aK,_,_=>aK F h
 | .ret,F,h,_,bR,_=>bR F h
 |_,_,_,_,_,_=>none
end
section
variable(P:Program)
def Yq(F:Fr)(h:J)(k:U->ab):ResultVar->ab
 | .tmp t=>ob (F t) k
 | .cell a t=>ob (F a) λp=>(match rG P t,eg P t with
   |some true,some n=>ob (eB n p h) k
   |some false,some _=>ob (bO p h) k
   |_,_=>none)
def Yr(F:Fr)(h:J):List ResultVar->(List U->ab)->ab
 | [],k=>k []
 |r::rs,k=>Yq P F h (λy=>Yr F h rs λys=>k (y::ys)) r
def Gr(fn:Func)(F:Fr)(h:J):ab:=Yr P F h fn.results.toList λys=>some (.ret (zW ys),h)
def A1(args:List U):Fr:=λt=>args[t]?
def uI(a6:b1 P)(C:ad)(lf:Nat)(args:List U)(h:J):ab:=
 ga P C a6.fn.ntmps a6.ord lf (a6.fn.body.getD .skip) (A1 args) h (Gr P a6.fn) (Gr P a6.fn) (λ_ _ _=>none)
end
end
section
variable{P:Program}
@[simp] theorem J.Mp(h:J)(O:List Bool)(p:List Prop)(D:List eR):(h.x O p D).aV=h.aV:=e8 rfl
@[simp] theorem J.aHn(h:J)(O:List Bool)(p:List Prop)(D:List eR):(h.x O p D).next=h.next:=e8 rfl
@[simp] theorem J.aHo(h:J)(O:List Bool)(p:List Prop)(D:List eR):(h.x O p D).aO=h.aO:=e8 rfl
@[simp] theorem J.py(h:J):h.x0.aV=h.aV:=e8 rfl
@[simp] theorem J.aHl(h:J):h.x0.next=h.next:=e8 rfl
@[simp] theorem J.aHk(h:J):h.x0.h=h:=e8 rfl
@[simp] theorem J.aHm(h:J)(O:List Bool)(p:List Prop)(D:List eR):(h.x O p D).h=h:=e8 rfl
def J.b0(h:J)(D:List eR):al:=h.x [] [] D
@[simp] theorem J.vK(h:J)(D:List eR):(h.b0 D).aV=h.aV:=e8 rfl
@[simp] theorem J.aju(h:J)(D:List eR):(h.b0 D).next=h.next:=e8 rfl
@[simp] theorem J.vJ(h:J)(D:List eR):(h.b0 D).aO=h.aO:=e8 rfl
def jJ(f:al->Option (U×al)):Prop:=∀(h:J) (y:U) (g:J),ax (f h.x0)=some (y,g)->∀O p D,f (h.x O p D)=some (y,g.x O p D)
def YD(f:al->Option al):Prop:=∀(h:J) (g:J),ak (f h.x0)=some g->∀O p D,f (h.x O p D)=some (g.x O p D)
theorem oW:jJ λ_=>none:=λh y g e=>by cases e
theorem Og(y:Nat->U)(o:bH):jJ λX=>some (y (X.new o).1,(X.new o).2):=λh z g e O p D=>by
 simp only[ax,Option.some.injEq,Prod.mk.injEq] at e;obtain⟨rfl,rfl⟩:=e;rfl
theorem Oh(y:Nat->U)(t:TypeId)(cs:List U):jJ λX=>some (y (newRow X t cs).1,(newRow X t cs).2):=by
 simp only[newRow,force_eq];exact Og y _
theorem aab(y:Nat->U)(t e:Nat)(cs:List U):jJ λX=>some (y (ng X t e cs).1,(ng X t e cs).2):=by
 simp only[ng,force_eq];exact Og y _
theorem amz(y:Nat->U)(t n:Nat)(cs:List U):jJ λX=>some (y (nh X t n cs).1,(nh X t n cs).2):=by
 simp only[nh,force_eq];exact Og y _
theorem Z5(e:TypeId):jJ (qg P e):=by
 unfold qg;cases gC P e with
 |none=>exact oW
 |some z=>exact Oh (λk=> .ptr k 0) _ _
theorem Z9(e:TypeId)(x:U):jJ (qi e x):=by
 unfold qi;cases x.flat with
 |false=>exact oW
 |true=>exact Oh (λk=> .ptr k 0) _ _
theorem aaa(t:TypeId)(len:Nat)(hy:List Nat)(vs:List U):jJ (oD P t len hy vs):=by
 unfold oD;split
 ·rename_i e _;split
  ·rename_i s z _ _;cases(Nat.ble (len*s) 65536&&Nat.ble 1 s&&Nat.beq (c1 z).cells.length s) with
   |false=>exact oW
   |true=>
    simp only[cond_true];cases oX (λi=>some (i*s,s)) (rB (c1 z).cells len) (hy.zip vs) with
    |none=>exact oW
    |some cs=>exact Oh (λk=> .aF k 0 len (some len) 0) _ _
  ·exact oW
 ·exact oW
theorem aac(t:TypeId)(l c:U):jJ (qj P t l c):=by
 unfold qj;split
 ·rename_i e _;split
  ·rename_i l c _ _;split
   ·rename_i s z b _ _ _;cases(Nat.ble l c&&Nat.ble (c*b) 140737488355328&&Nat.ble c 140737488355328&&Nat.beq (c1 z).cells.length s&&Nat.ble 1 s) with
    |false=>exact oW
    |true=>exact amz (λk=> .aF k 0 l (some c) 0) _ _ _
   ·exact oW
  ·exact oW
 ·exact oW
theorem amv(s d:TypeId)(x:U):jJ (jP P s d x):=by
 intro h y g e O p D;unfold jP at e⊢;split at e
 ·rename_i av b h1 h2;cases ae:(hT P av&&Nat.ble b.size 140737488355328) with
  |false=>simp[ae,ax] at e
  |true=>simp only[ae,cond_true] at e⊢;exact aab (λk=> .aF k 0 b.size none 0) _ _ _ h y g e O p D
 ·rename_i av k off n cap lo h1 h2;simp only[J.py,J.Mp] at e⊢;cases ae:(hT P av&&Nat.beq s d) with
  |false=>simp[ae,ax] at e
  |true=>
   simp only[ae,cond_true] at e⊢;cases aq:h.aV.get k with
   |none=>simp[aq,ax] at e
   |some o=>
    simp only[aq] at e⊢;cases aQ:o.ro with
    |true=>simp[aQ,ax] at e
    |false=>simp only[aQ,cond_false,ax,Option.some.injEq,Prod.mk.injEq] at e⊢;obtain⟨rfl,rfl⟩:=e;exact⟨rfl,rfl⟩
 ·rename_i av _ _ h1 h2;cases ae:hT P av with
  |false=>simp[ae,ax] at e
  |true=>simp only[ae,cond_true,ax,Option.some.injEq,Prod.mk.injEq] at e⊢;obtain⟨rfl,rfl⟩:=e;exact⟨rfl,rfl⟩
 ·rename_i av _ h1 h2;cases ae:hT P av with
  |false=>simp[ae,ax] at e
  |true=>simp only[ae,cond_true,ax,Option.some.injEq,Prod.mk.injEq] at e⊢;obtain⟨rfl,rfl⟩:=e;exact⟨rfl,rfl⟩
 ·rename_i av k off n _ _ h1 h2;simp only[J.py,J.Mp] at e⊢;cases ae:hT P av with
  |false=>simp[ae,ax] at e
  |true=>
   simp only[ae,cond_true] at e⊢;cases aq:h.aV.get k with
   |none=>simp[aq,ax] at e
   |some o=>
    simp only[aq] at e⊢;cases aJ:kG o off n with
    |none=>simp[aJ,ax] at e
    |some ys=>
     simp only[aJ] at e⊢;cases ag:bytesOf ys with
     |none=>simp[ag,ax] at e
     |some lJ=>simp only[ag,ax,Option.some.injEq,Prod.mk.injEq] at e⊢;obtain⟨rfl,rfl⟩:=e;exact⟨rfl,rfl⟩
 ·cases e
theorem amA(t:TypeId)(x:U):jJ (z4 P t x):=oW
theorem amy(k:Nat):jJ (xv k):=oW
theorem arN(x:U)(name:String)(h:J)(O:List Bool)(p:List Prop)(D:List eR):JY P x name (h.x O p D)=JY P x name h.x0:=rfl
theorem am3(t:TypeId)(m k v:U):YD (xw P t m k v):=λ_ _ e=>by cases e
theorem amx(t:TypeId)(m k:U):jJ (zZ P t m k):=oW
theorem am2(m b v:U):YD (xu m b v):=λ_ _ e=>by cases e
theorem aaO(sz:Nat)(x:U)(h:J)(O:List Bool)(p:List Prop)(D:List eR):jv (h.x O p D) sz x=jv h.x0 sz x:=rfl
theorem Z6(k off len:Nat)(cap:Option Nat)(lo eo sz:Nat)(o:bH)(news:List U):jJ (oS k off len cap lo eo sz o news):=by
 intro h y g e O p D;unfold oS at e⊢;cases ae:(Nat.ble (off+eo*sz) o.n&&!o.ro) with
 |false=>simp[ae,ax] at e
 |true=>simp only[ae,cond_true,ax,Option.some.injEq,Prod.mk.injEq] at e⊢;obtain⟨rfl,rfl⟩:=e;exact⟨rfl,rfl⟩
theorem Z7(e sz b eo:Nat)(cells:List U):jJ (nZ e sz b eo cells):=by
 unfold nZ;cases(Nat.ble eo 140737488355328&&Nat.ble (eo*b) 140737488355328) with
 |false=>exact oW
 |true=>exact aab (λk=> .aF k 0 eo none 0) _ _ _
theorem amr(k len eo sz b:Nat)(o:bH)(news:List U):jJ (rW k len eo sz b o news):=by
 intro h y g e O p D;unfold rW at e⊢;cases ae:(Nat.ble (len*sz) o.n&&(Nat.ble eo 140737488355328&&Nat.ble (eo*b) 140737488355328)) with
 |false=>simp[ae,ax] at e
 |true=>simp only[ae,cond_true,force_eq,ax,Option.some.injEq,Prod.mk.injEq] at e⊢;obtain⟨rfl,rfl⟩:=e;exact⟨rfl,rfl⟩
theorem Z8(e sz b k off len:Nat)(cap:Option Nat)(lo n:Nat)(news:List U):jJ (kR e sz b k off len cap lo n news):=by
 intro h y g he O p D;unfold kR at he⊢;simp only[J.py,J.Mp,force_eq] at he⊢;cases aq:h.aV.get k with
 |none=>simp[aq,ax] at he
 |some o=>
  simp only[aq] at he⊢;cases cap with
  |some c=>
   simp only at he⊢;cases ae:Nat.ble (len+n) c with
   |true=>simp only[ae,cond_true] at he⊢;exact Z6 _ _ _ _ _ _ _ _ _ h y g he O p D
   |false=>
    simp only[ae,cond_false] at he⊢;cases aJ:kG o off (len*sz) with
    |none=>simp[aJ,ax] at he
    |some olds=>simp only[aJ] at he⊢;exact Z7 _ _ _ _ _ h y g he O p D
  |none=>
   simp only at he⊢;cases ae:(Nat.beq off 0&&(Nat.beq lo 0&&(Nat.beq o.esz sz&&(o.loose&&(!o.ro&&Nat.beq o.ty e))))) with
   |false=>simp[ae,ax] at he
   |true=>
    simp only[ae,cond_true] at he⊢;cases aI:Nat.ble ((len+n)*sz) o.n with
    |true=>simp only[aI,cond_true] at he⊢;exact Z6 _ _ _ _ _ _ _ _ _ h y g he O p D
    |false=>simp only[aI,cond_false] at he⊢;exact amr _ _ _ _ _ _ _ h y g he O p D
theorem ams(t:TypeId)(s x:U):jJ (po P t s x):=by
 intro h y g he O p D;unfold po at he⊢;simp only[aaO];split at he<;>try(cases he;done)
 rename_i e _;split at he<;>try(cases he;done)
 rename_i sz z b h1 h2 h3
 try simp only[]
 split at he<;>try(cases he;done)
 rename_i n news aT;cases ae:(Nat.ble 1 sz&&(Nat.beq news.length (n*sz)&&(dB news&&Nat.beq (c1 z).cells.length sz))) with
 |false=>simp[ae,ax] at he
 |true=>
  simp only[ae,cond_true] at he⊢;split at he
  ·rename_i a c;cases bV:(Nat.beq a 0&&Nat.beq c 0) with
   |false=>simp[bV,ax] at he
   |true=>
    simp only[bV,cond_true] at he⊢;cases aR:Nat.beq n 0 with
    |true=>simp only[aR,cond_true,ax,Option.some.injEq,Prod.mk.injEq] at he⊢;obtain⟨rfl,rfl⟩:=he;exact⟨rfl,rfl⟩
    |false=>simp only[aR,cond_false] at he⊢;exact Z7 _ _ _ _ _ h y g he O p D
  ·exact Z8 _ _ _ _ _ _ _ _ _ _ h y g he O p D
  ·rename_i k;cases aR:Nat.beq n 0 with
   |true=>simp only[aR,cond_true,ax,Option.some.injEq,Prod.mk.injEq] at he⊢;obtain⟨rfl,rfl⟩:=he;exact⟨rfl,rfl⟩
   |false=>simp[aR,ax] at he
  ·cases he
theorem amt(t:TypeId)(s x:U):jJ (qh P t s x):=by
 intro h y g he O p D;unfold qh at he⊢;split at he<;>try(cases he;done)
 rename_i hu
 try simp only[hu]
 split at he<;>try(cases he;done)
 rename_i sz z b h1 h2 h3
 try simp only[h1,h2,h3]
 split at he<;>try(cases he;done)
 rename_i c fQ
 try simp only[fQ]
 generalize(Nat.beq sz 1&&(_&&(_&&_)))=aP at he⊢;cases aP with
 |false=>simp[ax] at he
 |true=>
  simp only[cond_true] at he⊢;split at he<;>try(cases he;done)
  exact Z8 _ _ _ _ _ _ _ _ _ _ h y g he O p D
theorem amw(t:TypeId)(d x:U):jJ (rC P t d x):=by
 intro h y g he O p D;unfold rC at he⊢;simp only[aaO];split at he<;>try(cases he;done)
 rename_i e _;split at he<;>try(cases he;done)
 rename_i sz h1
 try simp only[]
 split at he<;>try(cases he;done)
 rename_i n news aT;cases ae:(Nat.beq news.length (n*sz)&&dB news) with
 |false=>simp[ae,ax] at he
 |true=>
  simp only[ae,cond_true] at he⊢;split at he
  ·rename_i a c;cases bV:Nat.beq a 0 with
   |false=>simp[bV,ax] at he
   |true=>simp only[bV,cond_true,ax,Option.some.injEq,Prod.mk.injEq] at he⊢;obtain⟨rfl,rfl⟩:=he;exact⟨rfl,rfl⟩
  ·rename_i k off len _ _;simp only[J.py,J.Mp,force_eq] at he⊢;cases aq:h.aV.get k with
   |none=>simp[aq,ax] at he
   |some o=>
    simp only[aq] at he⊢;cases aI:(Nat.ble (off+len*sz) o.n&&!o.ro) with
    |false=>simp[aI,ax] at he
    |true=>simp only[aI,cond_true,ax,Option.some.injEq,Prod.mk.injEq] at he⊢;obtain⟨rfl,rfl⟩:=he;exact⟨rfl,rfl⟩
  ·cases he
theorem C5(r:Option U):jJ λX=>eC X r:=by
 intro h y g e O p D;cases r with
 |none=>cases e
 |some z=>simp only[eC,ax,Option.some.injEq,Prod.mk.injEq] at e⊢;obtain⟨rfl,rfl⟩:=e;exact⟨rfl,rfl⟩
theorem amu(b:Builtin)(c8:Array TypeId)(vs:List U):jJ (ja P b c8 vs):=by
 intro h y g e O p D;unfold ja at e⊢;split at e
 ·split at e
  ·rename_i t aN;try simp only[aN]
   exact C5 _ h y g e O p D
  ·cases e
 ·split at e
  ·rename_i t aN;try simp only[aN]
   exact C5 _ h y g e O p D
  ·cases e
 ·exact C5 _ h y g e O p D
 ·exact C5 _ h y g e O p D
 ·split at e
  ·rename_i t u h1 h2
   try simp only[h1,h2]
   split at e
   ·rename_i d aI;cases aR:sF d with
    |false=>
     simp only[aR,cond_false] at e⊢;cases bb:vM d with
     |false=>simp[bb,ax] at e
     |true=>simp only[bb,cond_true] at e⊢;exact amt _ _ _ h y g e O p D
    |true=>simp only[aR,cond_true] at e⊢;exact ams _ _ _ h y g e O p D
   ·cases e
  ·cases e
 ·split at e
  ·rename_i t aN;try simp only[aN]
   exact amw _ _ _ h y g e O p D
  ·cases e
 ·cases e
end
section
variable{P:Program}{C:ad}{callf:cc}
def qB(P:Program)(callf:cc)(op:Op)(ch:List U)(X:al):Option (Out×al):=match op with
 | .call c=>(match c.callee with
   | .builtin b=>bif sr b then l4 ch X else hB (ja P b c.argTypes ch X)
   |_=>match r3 P c ch X with
    |some (f,args)=>callf f args X
    |none=>none)
 | .panic _=>l4 ch X
 |op=>hB (dX P op ch X)
theorem aa2{o:Oper}{F:aH U}{X:al}:ly P callf o F X=match looks X.aO F o.op.operands.toList with|none=>none|some ch=>qB P callf o.op ch X:=by
 unfold ly;cases looks X.aO F o.op.operands.toList with
 |none=>rfl
 |some ch=>simp only[];cases o.op<;>rfl
def lS(C:ad)(callf:cc):Prop:=∀c args h o h',C c args h=some (o,h')->∀D,callf c args (h.b0 D)=some (o,h'.b0 D)
def hq(P:Program)(callf:cc)(op:Op)(v:List U)(h:J)(out:Out)(h':J):Prop:=∀D,qB P callf op v (h.b0 D)=some (out,h'.b0 D)
def MK(eS:Bool)(k:U->J->ab)(r:Out×J)(out:Out)(h':J):Prop:=match out with
 | .ret y=>k y h'=some r
 | .cY bn=>eS=false/\r=(.cY bn,h')
def CG(P:Program)(callf:cc)(eS:Bool)(op:Op)(v:List U)(h:J)(k:U->J->ab)(r:Out×J):Prop:=∃out h',hq P callf op v h out h'/\MK eS k r out h'
theorem rk{α:Type}{x:Option α}{k:α->ab}{r:Out×J}(e:ob x k=some r):∃y,x=some y/\k y=some r:=by
 cases x with
 |none=>cases e
 |some y=>exact⟨y,rfl,e⟩
theorem AH{x:Option (U×J)}{k:U->J->ab}{r:Out×J}(e:b2 x k=some r):∃y h,x=some (y,h)/\k y h=some r:=by
 rcases x with _|⟨y,h⟩
 ·cases e
 ·exact⟨y,h,rfl,e⟩
theorem Hy{eS:Bool}{x:ab}{k:U->J->ab}{r:Out×J}(e:rY eS x k=some r):∃out h,x=some (out,h)/\MK eS k r out h:=by
 rcases x with _|⟨out,h⟩
 ·cases eS<;>cases e
 ·refine⟨out,h,rfl,?_⟩;cases out with
  |ret y=>cases eS<;>exact e
  |cY bn=>
   cases eS with
   |true=>cases e
   |false=>exact⟨rfl,(Option.some.inj e).symm⟩
theorem mH{v:List U}{k:U->ab}{r:Out×J}(e:hz v k=some r):∃a,v=[a]/\k a=some r:=by
 unfold hz at e;split at e
 ·exact⟨_,rfl,e⟩
 ·cases e
theorem uq{v:List U}{k:U->U->ab}{r:Out×J}(e:k7 v k=some r):∃a b,v=[a,b]/\k a b=some r:=by
 unfold k7 at e;split at e
 ·exact⟨_,_,rfl,e⟩
 ·cases e
theorem J7{v:List U}{k:U->U->U->ab}{r:Out×J}(e:xb v k=some r):∃a b c,v=[a,b,c]/\k a b c=some r:=by
 unfold xb at e;split at e
 ·exact⟨_,_,_,rfl,e⟩
 ·cases e
variable{eS:Bool}{op:Op}{v:List U}{h:J}{k:U->J->ab}{r:Out×J}
theorem lY{x:Option U}(ak:∀X,qB P callf op v X=hB (eC X x))(e:ob x (λy=>k y h)=some r):CG P callf eS op v h k r:=by
 obtain⟨y,rfl,e⟩:=rk e;exact⟨.ret y,h,λD=>by rw[ak];rfl,e⟩
theorem wM{f:al->Option (U×al)}(au:jJ f)(ak:∀X,qB P callf op v X=hB (f X))(e:b2 (ax (f h.x0)) k=some r):CG P callf eS op v h k r:=by
 obtain⟨y,g,h1,e⟩:=AH e;exact⟨.ret y,g,λD=>by rw[ak];unfold J.b0;rw[au h y g h1];rfl,e⟩
theorem Qn{f:J->Option U}(ak:∀D,qB P callf op v (h.b0 D)=hB (eC (h.b0 D) (f h)))(e:ob (f h) (λy=>k y h)=some r):CG P callf eS op v h k r:=by
 obtain⟨y,h1,e⟩:=rk e;exact⟨.ret y,h,λD=>by rw[ak,h1];rfl,e⟩
theorem wj(op:BinOp)(t:TypeId)(x y:U):bin P op t x y=AI P op t x y:=by
 cases x<;>try rfl
 cases y<;>try rfl
 show(JN op).run _ _ _ _=_;rw[arb];rfl
theorem ae9{t:TypeId}{b:Bool}{n:Nat}(bV:rG P t=some b)(aR:eg P t=some n){x:Operand}(a:U)(h:J)(D:List eR):
 qB P callf (.load t x) [a] (h.b0 D)=hB (eC (h.b0 D) (bif b then eB n a h else bO a h)):=by
 cases a<;>try(cases b<;>rfl)
 rename_i j off;show hB (eC _ (rD P t (h.b0 D) j off))=_;unfold rD;rw[bV,aR];simp only[J.vK];cases b with
 |true=>
  simp only[cond_true,eB,JS];cases h.aV.get j with
  |none=>rfl
  |some o=>simp only[];rfl
 |false=>
  simp only[cond_false,bO,RE];cases h.aV.get j<;>rfl
theorem aCZ{n j off:Nat}{y:U}{h g:J}{t:TypeId}(aR:eg P t=some n)(e:LW n j off y h=some g)(D:List eR):sL P t (h.b0 D) j off y=some (g.b0 D):=by
 unfold LW at e;unfold sL;rw[aR];simp only[J.vK];cases aq:h.aV.get j with
 |none=>simp[aq] at e
 |some o=>
  simp only[aq,XQ] at e⊢;cases ae:(Nat.beq y.cells.length n&&Nat.ble (off+n) o.n&&!o.ro&&dB y.cells) with
  |false=>simp[ae] at e
  |true=>
   simp only[ae,cond_true,Option.some.injEq,ET] at e⊢;subst e;obtain⟨aO,next,⟨jD,base⟩⟩:=h;rfl
theorem afZ{ch:List U}{h:J}{r:Out×J}{eS:Bool}(e:MA eS ch h=some r):eS=false/\∃bn,r=(.cY bn,h)/\∀X,l4 ch X=some (.cY bn,X):=by
 unfold MA at e;split at e
 ·simp only[Option.some.injEq] at e;subst e;exact⟨rfl,_,rfl,λX=>rfl⟩
 ·cases e
theorem aFS(fw:lS C callf){c:Call}(e:Yn P eS C c v h k=some r):CG P callf eS (.call c) v h k r:=by
 unfold Yn at e;cases ae:c.callee with
 |builtin b=>
  have jS:∀X,qB P callf (.call c) v X=bif sr b then l4 v X else hB (ja P b c.argTypes v X):=λX=>by simp only[qB,ae]
  simp only[ae] at e;unfold ajz at e;split at e
  ·obtain⟨rfl,bn,rfl,aB⟩:=afZ e;exact⟨.cY bn,h,λD=>by rw[jS];exact aB _,rfl,rfl⟩
  ·obtain⟨x,hv,bd⟩:=mH e;clear e;subst hv;revert bd;intro e;split at e
   ·rename_i t aN;refine lY (λX=>?_) e;rw[jS];simp only[sr,cond_false,ja,aN]
   ·cases e
  ·rename_i h1 h2;refine wM (amu _ c.argTypes v) (λX=>?_) e;rw[jS]
   have:sr b=false:=by cases b<;>first|rfl|exact absurd rfl h1
   rw[this];rfl
 |value f=>
  simp only[ae] at e;split at e<;>try(cases e;done)
  rename_i f args;unfold fv at e;split at e
  ·rename_i g a b;obtain⟨out,h',h1,h2⟩:=Hy e;exact⟨out,h',λD=>by simp only[qB,ae,r3];exact fw _ _ _ _ _ h1 D,h2⟩
  ·rename_i j;obtain⟨out,h',h1,h2⟩:=Hy e;exact⟨out,h',λD=>by simp only[qB,ae,r3];exact fw _ _ _ _ _ h1 D,h2⟩
  ·cases e
 |invoke rc name=>
  simp only[ae] at e;split at e<;>try(cases e;done)
  rename_i x args;obtain⟨out,h',h1,h2⟩:=Hy e;unfold aeP at h1;split at h1<;>try(cases h1;done)
  rename_i f LP hm;exact⟨out,h',λD=>by simp only[qB,ae,r3];unfold J.b0;simp only[arN,hm];exact fw _ _ _ _ _ h1 D,h2⟩
theorem ajG(fw:lS C callf)(e:Gu P eS C op v h k=some r):CG P callf eS op v h k r:=by
 unfold Gu at e;split at e
 ·obtain⟨a,hv,bd⟩:=mH e;clear e;subst hv;revert bd;intro e;exact⟨.ret a,h,λD=>rfl,e⟩
 ·obtain⟨a,hv,bd⟩:=mH e;clear e;subst hv;revert bd;intro e;exact⟨.ret a,h,λD=>rfl,e⟩
 ·obtain⟨c,a,b,hv,bd⟩:=J7 e;clear e;subst hv;revert bd;intro e;obtain⟨y,h1,e⟩:=rk e;refine⟨.ret y,h,λD=>?_,e⟩;unfold jH at h1;split at h1
  ·rename_i t;cases t<;>(cases h1;rfl)
  ·cases h1
 ·split at e
  ·exact wM (Z5 _) (λX=>rfl) e
  ·cases e
 ·obtain⟨a,hv,bd⟩:=mH e;clear e;subst hv;revert bd;intro e;exact wM (Z9 _ _) (λX=>rfl) e
 ·exact lY (λX=>rfl) e
 ·exact wM (aaa _ _ _ _) (λX=>rfl) e
 ·obtain⟨a,hv,bd⟩:=mH e;clear e;subst hv;revert bd;intro e;split at e
  ·rename_i n bV aR;exact Qn (f:=λh=>eB n a h) (λD=>ae9 bV aR a h D) e
  ·rename_i n bV aR;exact Qn (f:=λh=>bO a h) (λD=>ae9 bV aR a h D) e
  ·cases e
 ·obtain⟨a,y,hv,bd⟩:=uq e;clear e;subst hv;revert bd;intro e;rename_i t _ _;split at e
  ·rename_i n aR;obtain⟨g,h1,ay⟩:=rk e;unfold st at h1;split at h1<;>try(cases h1;done)
   rename_i j off;refine⟨.ret (.val undef),g,λD=>?_,ay⟩;show hB (match sL P t (h.b0 D) j off y with|some X=>some (U.val undef,X)|none=>none)=_;rw[aCZ aR h1];rfl
  ·cases e
 ·obtain⟨a,hv,bd⟩:=mH e;clear e;subst hv;revert bd;intro e;exact lY (λX=>rfl) e
 ·obtain⟨a,b,hv,bd⟩:=uq e;clear e;subst hv;revert bd;intro e;rw[wj] at e;exact lY (λX=>rfl) e
 ·obtain⟨a,hv,bd⟩:=mH e;clear e;subst hv;revert bd;intro e;exact lY (λX=>rfl) e
 ·obtain⟨a,hv,bd⟩:=mH e;clear e;subst hv;revert bd;intro e;rename_i s d _;split at e
  ·rename_i k1 kd ak aI;refine lY (λX=>?_) e;show hB (match oE P s d a with|some y=>some (y,X)|none=>jP P s d a X)=_;unfold oE jP;simp only[ak,aI];cases a<;>try rfl
   rename_i x;cases x<;>rfl
  ·refine wM (f:=λX=>match oE P s d a with|some y=>some (y,X)|none=>jP P s d a X) ?_ (λX=>rfl) (by
    revert e;unfold rJ;cases oE P s d a<;>exact id)
   cases oE P s d a with
   |none=>exact amv _ _ _
   |some y=>exact C5 (some y)
 ·obtain⟨a,hv,bd⟩:=mH e;clear e;subst hv;revert bd;intro e;rename_i t _;split at e
  ·cases e
  ·rename_i d ca aI;refine⟨.ret (.p4 t a),h,λD=>?_,e⟩;show hB (eC _ (F1 P t a))=_;unfold F1;simp only[aI];cases d<;>first|rfl|(exact absurd rfl (ca _))
  ·cases e
 ·exact⟨.ret _,h,λD=>rfl,e⟩
 ·obtain⟨a,b,hv,bd⟩:=uq e;clear e;subst hv;revert bd;intro e;exact wM (aac _ _ _) (λX=>rfl) e
 ·obtain⟨a,hv,bd⟩:=mH e;clear e;subst hv;revert bd;intro e;rename_i s _ f;split at e
  ·rename_i fd au;split at e
   ·rename_i m hm;refine lY (λX=>?_) e;cases a<;>try rfl
    rename_i j off;show hB (eC X (F0 P s f j off))=_;simp only[F0,au,hm,bZ,force_eq]
   ·cases e
  ·cases e
 ·obtain⟨a,hv,bd⟩:=mH e;clear e;subst hv;revert bd;intro e;rename_i s _ f;split at e
  ·rename_i fd au;split at e
   ·rename_i n bV aR;refine lY (λX=>?_) e;cases a<;>try rfl
    rename_i cs;show hB (eC X (z0 P s f cs))=_;simp only[z0,au,qb,bV,aR,abb]
   ·rename_i n bV aR;refine lY (λX=>?_) e;cases a<;>try rfl
    rename_i cs;show hB (eC X (z0 P s f cs))=_;simp only[z0,au,qb,bV,aR,HZ]
   ·cases e
  ·cases e
 ·obtain⟨a,i,hv,bd⟩:=uq e;clear e;subst hv;revert bd;intro e;rename_i t _ _;split at e
  ·rename_i n el hu;split at e
   ·rename_i s ak;refine lY (λX=>?_) e;show hB (eC X (z2 P t a i))=_;unfold z2 eu;cases kl i with
    |none=>rfl
    |some m=>
     simp only[hu];cases a<;>try rfl
     simp only[ak,AG,force_eq]
   ·cases e
  ·rename_i el hu;split at e
   ·rename_i s ak;refine lY (λX=>?_) e;show hB (eC X (z2 P t a i))=_;unfold z2 dQ;cases kl i with
    |none=>rfl
    |some m=>
     simp only[hu];cases a<;>try rfl
     simp only[ak,AG,force_eq]
   ·cases e
  ·cases e
 ·obtain⟨a,i,hv,bd⟩:=uq e;clear e;subst hv;revert bd;intro e;exact lY (λX=>rfl) e
 ·obtain⟨a,hv,bd⟩:=mH e;clear e;subst hv;revert bd;intro e;refine lY (λX=>?_) e;cases a<;>rfl
 ·obtain⟨a,hv,bd⟩:=mH e;clear e;subst hv;revert bd;intro e;exact wM (amA _ _) (λX=>rfl) e
 ·obtain⟨a,hv,bd⟩:=mH e;clear e;subst hv;revert bd;intro e;obtain⟨y,g,h1,ay⟩:=AH e;unfold ajJ at h1;split at h1
  ·rename_i j
   exact⟨.ret y,g,λD=>by
    show hB (xv j (h.b0 D))=_
    unfold J.b0;rw[amy j h y g h1];rfl,ay⟩
  ·cases h1
 ·obtain⟨a,hv,bd⟩:=mH e;clear e;subst hv;revert bd;intro e;refine lY (λX=>?_) e;cases a<;>rfl
 ·split at e
  ·exact⟨.ret _,_,λD=>rfl,e⟩
  ·cases e
 ·obtain⟨m,q,hv,bd⟩:=uq e;clear e;subst hv;revert bd;intro e;rename_i t _ _ ok;exact Qn (f:=λh=>ajI P t ok m q h) (λD=>rfl) e
 ·obtain⟨m,q,x,hv,bd⟩:=J7 e;clear e;subst hv;revert bd;intro e;rename_i t _ _ _;obtain⟨g,h1,e⟩:=rk e;refine⟨.ret (.val undef),g,λD=>?_,e⟩;show hB (match xw P t m q x (h.b0 D) with|some X=>some (U.val undef,X)|none=>none)=_;unfold J.b0;rw[am3 t m q x h g h1];rfl
 ·obtain⟨m,q,hv,bd⟩:=uq e;clear e;subst hv;revert bd;intro e;exact wM (amx _ _ _) (λX=>rfl) e
 ·obtain⟨m,q,x,hv,bd⟩:=J7 e;clear e;subst hv;revert bd;intro e;obtain⟨g,h1,e⟩:=rk e;refine⟨.ret (.val undef),g,λD=>?_,e⟩;show hB (match xu m q x (h.b0 D) with|some X=>some (U.val undef,X)|none=>none)=_;unfold J.b0;rw[am2 m q x h g h1];rfl
 ·obtain⟨x,hv,bd⟩:=mH e;clear e;subst hv;revert bd;intro e;exact lY (λX=>rfl) e
 ·obtain⟨x,hv,bd⟩:=mH e;clear e;subst hv;revert bd;intro e;exact lY (λX=>rfl) e
 ·obtain⟨x,l,hv,bd⟩:=uq e;clear e;subst hv;revert bd;intro e;exact lY (λX=>rfl) e
 ·obtain⟨x,l,hv,bd⟩:=uq e;clear e;subst hv;revert bd;intro e;exact lY (λX=>rfl) e
 ·obtain⟨x,l,m,hv,bd⟩:=J7 e;clear e;subst hv;revert bd;intro e;exact lY (λX=>rfl) e
 ·exact aFS fw e
 ·obtain⟨rfl,bn,rfl,aB⟩:=afZ e;exact⟨.cY bn,h,λD=>aB _,rfl,rfl⟩
 ·cases e
end
section
variable{P:Program}{C:ad}{callf:cc}{N:Nat}
def fO(Ft:aH U)(F:Fr):Prop:=∀t,Ft.get t=F t
theorem fO.put{Ft:aH U}{F:Fr}(aY:fO Ft F)(d:Option Tmp)(y:U):fO (put N Ft d y) (xe N F d y):=λt=>by
 cases d with
 |none=>exact aY t
 |some d=>
  simp only[Xe.put,xe];cases Nat.blt d N with
  |false=>exact aY t
  |true=>
   simp only[cond_true];rw[kT];cases ag:Nat.beq t d with
   |true=>rw[if_pos (Nat.eq_of_beq_eq_true ag)];rfl
   |false=>rw[if_neg (Nat.ne_of_beq_eq_false ag)];exact aY t
theorem xK{Ft:aH U}{F:Fr}(aY:fO Ft F)(aO:Nat)(x:Operand):look aO Ft x=oJ aO F x:=by
 cases x with
 |tmp t=>exact aY t
 |_=>rfl
theorem MF{aO:Nat}{F:Fr}{x:Operand}{k:U->ab}{r:Out×J}(e:vN aO F x k=some r):∃a,oJ aO F x=some a/\k a=some r:=by
 cases x with
 |tmp t=>exact rk e
 |const v=>exact⟨_,rfl,e⟩
 |func f=>exact⟨_,rfl,e⟩
 |global g=>
  simp only[vN,DK,oJ,adz] at e⊢;cases ag:Nat.blt g aO with
  |false=>simp[ag] at e
  |true=>simp only[ag,cond_true] at e⊢;exact⟨_,rfl,e⟩
theorem My{aO:Nat}{F:Fr}:∀{l:List Operand} {k:List U->ab} {r:Out×J},Cv aO F l k=some r->∃v,(∀Ft,fO Ft F->looks aO Ft l=some v)/\k v=some r
 | [],k,r,e=>⟨[],λ_ _=>rfl,e⟩
 |x::xs,k,r,e=>by
  obtain⟨a,h1,e⟩:=MF e;obtain⟨v,h2,e⟩:=My e;exact⟨a::v,λFt aY=>by simp only[looks,xK aY,h1,h2 Ft aY],e⟩
theorem aa5{o:Oper}{F:aH U}{X af:al}{y:U}(h:ly P callf o F X=some (.ret y,af)):ku P callf o F X=some (y,af):=by
 unfold ly at h;unfold ku;split at h<;>try(cases h;done)
 rename_i ch hv
 try simp only[hv]
 have aB:∀vs,l4 vs X≠some (.ret y,af):=λvs cj=>by unfold l4 at cj;split at cj<;>cases cj
 have aQ:∀z,hB z=some (.ret y,af)->z=some (y,af):=λz aX=>by
  rcases z with _|⟨a,b⟩
  ·cases aX
  ·cases aX;rfl
 split at h
 ·rename_i c ae;simp only[ae];unfold yw;split at h
  ·rename_i b ag
   try simp only[ag]
   cases Bp:sr b with
   |true=>simp only[Bp,cond_true] at h;exact absurd h (aB _)
   |false=>simp only[Bp,cond_false] at h;exact aQ _ h
  ·rename_i ag;split at h<;>try(cases h;done)
   rename_i yn args h8
   try simp only[h8]
   first
    |(split
      ·rename_i b iP;exact absurd iP (ag b)
      ·simp only[h8,AN,h])
    |simp only[AN,h]
 ·exact absurd h (aB _)
 ·rename_i h1 h2;split
  ·rename_i c ae;exact absurd ae (h1 c)
  ·exact aQ _ h
theorem aoz{want:Bool}{x:Option U}{gj:ab}{h h':J}{out:Out}(e:cT want x gj h=some (out,h')):
 ∃y,x=some y/\(((∀X,mW X want y=some (false,X))/\out= .ret (.val undef)/\h'=h)\/((∀X,mW X want y=some (true,X))/\gj=some (out,h'))):=by
 cases x with
 |none=>cases e
 |some y=>
  refine⟨y,rfl,?_⟩;simp only[cT] at e;cases aN:ua y with
  |true=>
   simp only[aN,cond_true,Option.some.injEq,Prod.mk.injEq] at e;obtain⟨rfl,rfl⟩:=e;exact .inl ⟨λX=>by simp only[mW,aN,cond_true],rfl,rfl⟩
  |false=>
   simp only[aN,cond_false] at e;split at e
   ·rename_i b;cases ag:(b==want) with
    |true=>
     simp only[ag,cond_true] at e;exact .inr ⟨λX=>by simp only[mW,aN,cond_false,hs,ag],e⟩
    |false=>
     simp only[ag,cond_false,Option.some.injEq,Prod.mk.injEq] at e;obtain⟨rfl,rfl⟩:=e;exact .inl ⟨λX=>by simp only[mW,aN,cond_false,hs,ag],rfl,rfl⟩
   ·cases e
theorem ajF{eS:Bool}{op:Op}{v:List U}{h:J}{k:U->J->ab}{r:Out×J}(e:Gu P eS C op v h k=some r):p5 op=false:=by
 cases op<;>first|rfl|cases e
def Y2(P:Program)(callf:cc)(N:Nat)(ops:List Oper)(o:Oper)(Ft:aH U)(h:J)(out:Out)(h':J):Prop:=∀D,match out with
 | .ret y=>l8 P callf N ops o Ft (h.b0 D)=some (none,put N Ft o.dst y,h'.b0 D)/\kn P callf N ops o Ft (h.b0 D)=some (put N Ft o.dst y,h'.b0 D)
 | .cY bn=>l8 P callf N ops o Ft (h.b0 D)=some (some bn,Ft,h'.b0 D)
theorem aiE{ops:List Oper}{o:Oper}{Ft:aH U}{h h':J}{out:Out}{v:List U}(hw:∀D,ir ops Ft (h.b0 D) o.guard=some (true,h.b0 D))(aI:p5 o.op=false)
 (aJ:looks h.aO Ft o.op.operands.toList=some v)(aq:hq P callf o.op v h out h'):Y2 P callf N ops o Ft h out h':=by
 intro D;have h1:ly P callf o Ft (h.b0 D)=some (out,h'.b0 D):=by rw[aa2,J.vJ,aJ];exact aq D
 cases out with
 |ret y=>
  refine⟨?_,?_⟩
  ·simp only[l8,hw,aI,cond_false,h1]
  ·simp only[kn,hw,aa5 h1]
 |cY bn=>simp only[l8,hw,aI,cond_false,h1]
theorem Mz(fw:lS C callf){eS:Bool}{ops:List Oper}{o:Oper}{F:Fr}{h:J}{k:Fr->J->ab}{r:Out×J}(e:Cw P C N eS ops o F h k=some r):
 ∃out h',MK eS (λy h=>k (xe N F o.dst y) h) r out h'/\∀Ft,fO Ft F->Y2 P callf N ops o Ft h out h':=by
 unfold Cw at e;split at e
 ·rename_i bc;obtain⟨v,h1,e⟩:=My e;have aI:=ajF e;obtain⟨out,h',h2,h3⟩:=ajG fw e;exact⟨out,h',h3,λFt aY=>aiE (λD=>by rw[bc];rfl) aI (h1 Ft aY) h2⟩
 ·rename_i j want bc;split at e<;>try(cases e;done)
  rename_i cd aa;split at e<;>try(cases e;done)
  rename_i d apA;obtain⟨out,h',h1,h3⟩:=Hy e;refine⟨out,h',h3,λFt aY=>?_⟩;obtain⟨y,bb,aT⟩:=aoz h1;have Rp:∀X,ir ops Ft X o.guard=mW X want y:=λX=>by simp only[ir,bc,aa,apA,aY d,bb]
  rcases aT with⟨aR,rfl,rfl⟩|⟨aR,bz⟩
  ·intro D;exact⟨by simp only[l8,Rp,aR],by simp only[kn,Rp,aR]⟩
  ·obtain⟨v,bA,dN⟩:=My bz;have aI:=ajF dN;obtain⟨afU,e0,nz,o3⟩:=ajG fw dN
   have he:afU=out/\e0=h':=by
    cases afU with
    |ret z=>cases o3;exact⟨rfl,rfl⟩
    |cY bn=>obtain⟨_,o3⟩:=o3;cases o3;exact⟨rfl,rfl⟩
   obtain⟨rfl,rfl⟩:=he;exact aiE (λD=>by rw[Rp,aR]) aI (bA Ft aY) nz
theorem ajE(fw:lS C callf){ops:List Oper}:∀{l:List Oper} {F:Fr} {h:J} {k:Fr->J->ab} {r:Out×J},Gt P C N false ops l F h k=some r->
 (∃F' h',k F' h'=some r/\∀Ft,fO Ft F->∃b5,fO b5 F'/\∀D,lz P callf N ops l Ft (h.b0 D)=some (none,b5,h'.b0 D))\/
 (∃bn h',r=(.cY bn,h')/\∀Ft,fO Ft F->∃b5,∀D,lz P callf N ops l Ft (h.b0 D)=some (some bn,b5,h'.b0 D))
 | [],F,h,k,r,e=> .inl ⟨F,h,e,λFt aY=>⟨Ft,aY,λ_=>rfl⟩⟩
 |o::rest,F,h,k,r,e=>by
  obtain⟨out,h',h1,h2⟩:=Mz fw e;cases out with
  |ret y=>
   rcases ajE fw h1 with⟨F',fF,h3,aT⟩|⟨bn,fF,rfl,aT⟩
   ·refine .inl ⟨F',fF,h3,λFt aY=>?_⟩;obtain⟨b5,bz,bA⟩:=aT _ (aY.put o.dst y);exact⟨b5,bz,λD=>by simp only[lz,(h2 Ft aY D).1,bA]⟩
   ·refine .inr ⟨bn,fF,rfl,λFt aY=>?_⟩;obtain⟨b5,bA⟩:=aT _ (aY.put o.dst y);exact⟨b5,λD=>by simp only[lz,(h2 Ft aY D).1,bA]⟩
  |cY bn=>
   obtain⟨_,rfl⟩:=h1
   exact .inr ⟨bn,h',rfl,λFt aY=>⟨Ft,λD=>by
    have:=h2 Ft aY D
    simp only at this
    simp only[lz,this]⟩⟩
theorem ajD(fw:lS C callf){ops:List Oper}:∀{l:List Oper} {i:Nat} {F:Fr} {h:J} {k:Fr->J->ab} {r:Out×J},ops.drop i=l->Gt P C N true ops l F h k=some r->
 ∃F' h',k F' h'=some r/\∀Ft,fO Ft F->∃b5,fO b5 F'/\∀D bJ,iK P callf N ops [] (List.range' i l.length) bJ Ft (h.b0 D)=some (b5,h'.b0 D)
 | [],i,F,h,k,r,_,e=>⟨F,h,e,λFt aY=>⟨Ft,aY,λ_ _=>rfl⟩⟩
 |o::rest,i,F,h,k,r,aJ,e=>by
  obtain⟨out,h',h1,h2⟩:=Mz fw e;cases out with
  |cY bn=>obtain⟨h1,_⟩:=h1;cases h1
  |ret y=>
   have hi:ops[i]?=some o:=by
    have:(ops.drop i)[0]?=some o:=by rw[aJ];rfl
    simpa using this
   have aQ:ops.drop (i+1)=rest:=by
    have:(ops.drop i).drop 1=rest:=by rw[aJ];rfl
    rw[List.drop_drop] at this;exact this
   obtain⟨F',fF,h3,aT⟩:=ajD fw aQ h1;refine⟨F',fF,h3,λFt aY=>?_⟩;obtain⟨b5,bz,bA⟩:=aT _ (aY.put o.dst y);refine⟨b5,bz,λD bJ=>?_⟩;simp only[List.length_cons,List.range'_succ,iK,hi,(h2 Ft aY D).2,iw,kt,cond_true,bA]
theorem Y8{ops:List Oper}{o:Oper}{Ft:aH U}{F:Fr}(aY:fO Ft F)(h:J)(D:List eR):addrOf ops o Ft (h.b0 D)=Mw ops o F h.aO:=by
 have ax:(match looks h.aO Ft o.op.operands.toList with
  |some [.ptr k _]=>some k
  |some [.aF k _ _ _ _]=>some k
  |some [.mp k,_]=>some k
  |_=>none)=(match o.op.operands.toList with| [x]=>bU (oJ h.aO F x)| [x,y]=>NS (oJ h.aO F x) (oJ h.aO F y)|_=>none):=by
  generalize o.op.operands.toList=l;rcases l with _|⟨x,_|⟨y,_|⟨z,l⟩⟩⟩
  ·rfl
  ·simp only[looks,xK aY];cases oJ h.aO F x with
   |none=>rfl
   |some z=>cases z<;>rfl
  ·simp only[looks,xK aY];cases oJ h.aO F x with
   |none=>rfl
   |some a=>
    cases oJ h.aO F y with
    |none=>cases a<;>rfl
    |some b=>cases a<;>rfl
  ·simp only[looks];cases look h.aO Ft x with
   |none=>rfl
   |some a=>
    cases look h.aO Ft y with
    |none=>rfl
    |some b=>
     cases look h.aO Ft z with
     |none=>rfl
     |some c=>cases looks h.aO Ft l<;>(cases a<;>rfl)
 unfold addrOf Mw;cases bc:o.guard with
 |none=>simp only[ir,J.vJ];exact ax
 |some g=>
  obtain⟨j,want⟩:=g;simp only[ir];cases ops[j]? with
  |none=>rfl
  |some cd=>
   simp only[];cases cd.dst with
   |none=>rfl
   |some d=>
    simp only[aY d];cases F d with
    |none=>rfl
    |some y=>
     simp only[Qg,mW];cases aN:ua y with
     |true=>rfl
     |false=>
      simp only[cond_false];cases y with
      |bool b=>
       simp only[hs];cases(b==want) with
       |true=>simp only[cond_true,J.vJ];exact ax
       |false=>rfl
      |val v=>cases v<;>rfl
      |_=>rfl
theorem HE{bJ:List (Nat×Option Nat)}{h h':J}{D:List eR}:∀ls:List Nat,kt bJ (h.b0 D) (h'.b0 D) ls=ey bJ h h' ls
 | []=>rfl
 |l::ls=>by
  simp only[kt,ey,HE ls];congr 1;cases mq bJ l with
  |none=>rfl
  |some k=>
   simp only[nL,FZ,Gg,J.vK,J.aju];cases Nat.blt k h.next with
   |false=>rfl
   |true=>
    simp only[cond_true];cases h.aV.get k with
    |none=>rfl
    |some o=>cases h'.aV.get k<;>rfl
theorem wv{b:Bool}{k:ab}{r:Out×J}(e:dM b k=some r):b=true/\k=some r:=by
 cases b with
 |false=>cases e
 |true=>exact⟨rfl,e⟩
theorem Yo{bJ:List (Nat×Option Nat)}{h h':J}{ls:List Nat}{k:ab}{r:Out×J}(e:Ae bJ h h' ls k=some r):ey bJ h h' ls=true/\k=some r:=by
 unfold Ae at e;split at e
 ·exact⟨rfl,e⟩
 ·exact wv e
theorem rec_eq{ops:List Oper}{i:Nat}{o:Oper}{Ft:aH U}{F:Fr}(aY:fO Ft F)(h:J)(D:List eR)(bJ:List (Nat×Option Nat)):
 (bif fo P o.op then(i,addrOf ops o Ft (h.b0 D))::bJ else bJ)=zV P ops i o F h.aO bJ:=by
 unfold zV;rw[Y8 aY]
theorem ajA(fw:lS C callf){ops:List Oper}{bS:List (Nat×List Nat)}:∀{is:List Nat} {bJ:List (Nat×Option Nat)} {F:Fr} {h:J} {k:Fr->J->ab} {r:Out×J},Mx P C N ops bS is bJ F h k=some r->
 ∃F' h',k F' h'=some r/\∀Ft,fO Ft F->∃b5,fO b5 F'/\∀D,iK P callf N ops bS is bJ Ft (h.b0 D)=some (b5,h'.b0 D)
 | [],bJ,F,h,k,r,e=>⟨F,h,e,λFt aY=>⟨Ft,aY,λ_=>rfl⟩⟩
 |i::is,bJ,F,h,k,r,e=>by
  unfold Mx at e;split at e<;>try(cases e;done)
  rename_i o aq;obtain⟨out,h',h1,h2⟩:=Mz fw e;cases out with
  |cY bn=>obtain⟨h1,_⟩:=h1;cases h1
  |ret y=>
   obtain⟨ae,h1⟩:=Yo h1;obtain⟨F',fF,h3,aT⟩:=ajA fw h1;refine⟨F',fF,h3,λFt aY=>?_⟩;obtain⟨b5,bz,bA⟩:=aT _ (aY.put o.dst y);refine⟨b5,bz,λD=>?_⟩;simp only[iK,aq,(h2 Ft aY D).2,HE,ae,cond_true,rec_eq aY,bA]
theorem aFV{op:Op}{v:List U}{base i:Nat}{h:J}{k:U->J->ab}{r:Out×J}(e:Ag P op v base i h k=some r):
 ∃y g,oz base v=true/\k y g=some r/\∀D,∃af,dX P op v {h.b0 D with next:=base+i}=some (y,af)/\{af with next:=h.next}=g.b0 D:=by
 have key:∀(f:al->Option (U×al)),jJ f->∀{y g},pC (λh=>ax (f h.x0)) base i h=some (y,g)->∀D,∃af,f {h.b0 D with next:=base+i}=some (y,af)/\{af with next:=h.next}=g.b0 D:=by
  intro f au y g he D;unfold pC at he;split at he<;>try(cases he;done)
  rename_i Ac h' fS;cases he;exact⟨_,au ⟨h.aO,base+i,h.aV⟩ y h' fS [] [] D,rfl⟩
 cases op<;>try(cases e;done)
 ·simp only[Ag] at e;split at e
  ·obtain⟨y,g,h1,e⟩:=AH e;exact⟨y,g,rfl,e,key _ (Z5 _) h1⟩
  ·cases e
 ·simp only[Ag] at e;obtain⟨a,rfl,e⟩:=mH e;obtain⟨aJ,e⟩:=wv e;obtain⟨y,g,h1,e⟩:=AH e;exact⟨y,g,by simp only[oz,aJ,Bool.and_true],e,key _ (Z9 _ _) h1⟩
 ·simp only[Ag] at e;obtain⟨aJ,e⟩:=wv e;obtain⟨y,g,h1,e⟩:=AH e;exact⟨y,g,aJ,e,key _ (aaa _ _ _ _) h1⟩
 ·simp only[Ag] at e;obtain⟨a,b,rfl,e⟩:=uq e;obtain⟨aJ,e⟩:=wv e;obtain⟨y,g,h1,e⟩:=AH e;exact⟨y,g,by simpa only[oz,Bool.and_true] using aJ,e,key _ (aac _ _ _) h1⟩
theorem ajC{ops:List Oper}{base:Nat}{o:Oper}{Ft:aH U}{F:Fr}(aY:fO Ft F){h:J}{k:ab}{r:Out×J}(e:Gs P ops base o F h.aO k=some r):k=some r/\∀D,p7 P ops base o Ft (h.b0 D)=true:=by
 unfold Gs at e;unfold p7;cases aQ:fo P o.op with
 |false=>simp only[aQ,cond_false] at e⊢;exact⟨e,λ_=>trivial⟩
 |true=>
  simp only[aQ,cond_true] at e⊢;obtain⟨h1,e⟩:=wv e;refine⟨e,λD=>?_⟩;rw[Y8 aY];unfold BS at h1;exact h1
theorem Yp(fw:lS C callf){ops:List Oper}{rs:List Nat}{bS:List (Nat×List Nat)}{base:Nat}:∀{is:List Nat} {bJ:List (Nat×Option Nat)} {F:Fr} {h:J} {k:Fr->J->ab} {r:Out×J},Ah P C N ops rs bS base is bJ F h k=some r->
 ∃F' h',k F' h'=some r/\∀Ft,fO Ft F->∃b5,fO b5 F'/\∀D,jd P callf N ops rs bS base is bJ Ft (h.b0 D)=some (b5,h'.b0 D)
 | [],bJ,F,h,k,r,e=>⟨F,h,e,λFt aY=>⟨Ft,aY,λ_=>rfl⟩⟩
 |i::is,bJ,F,h,k,r,e=>by
  unfold Ah at e;split at e<;>try(cases e;done)
  rename_i o aq;cases aR:hI rs i o.op with
  |false=>
   simp only[aR,cond_false] at e
   have bd:Cw P C N true ops o F h (λF' h'=>Ae bJ h h' (iw bS i) (Ah P C N ops rs bS base is (zV P ops i o F h.aO bJ) F' h' k))=some r:=by
    unfold Gs at e;cases aQ:fo P o.op with
    |false=>simp only[aQ,cond_false] at e;exact e
    |true=>simp only[aQ,cond_true] at e;exact(wv e).2
   obtain⟨out,h',h1,h2⟩:=Mz fw bd;cases out with
   |cY bn=>obtain⟨h1,_⟩:=h1;cases h1
   |ret y=>
    obtain⟨ae,h1⟩:=Yo h1;obtain⟨F',fF,h3,aT⟩:=Yp fw h1;refine⟨F',fF,h3,λFt aY=>?_⟩;obtain⟨b5,bz,bA⟩:=aT _ (aY.put o.dst y);refine⟨b5,bz,λD=>?_⟩;simp only[jd,aq,(ajC aY e).2 D,cond_true,lM,aR,cond_false,(h2 Ft aY D).2,HE,ae,rec_eq aY,bA]
  |true=>
   simp only[aR,cond_true] at e
   have bd:(match o.guard with
    |some _=>none
    |none=>Cv h.aO F o.op.operands.toList λv=>Ag P o.op v base i h λy h'=>Ae bJ h h' (iw bS i) (Ah P C N ops rs bS base is (zV P ops i o F h.aO bJ) (xe N F o.dst y) h' k))=some r:=by
    unfold Gs at e;cases aQ:fo P o.op with
    |false=>simp only[aQ,cond_false] at e;exact e
    |true=>simp only[aQ,cond_true] at e;exact(wv e).2
   split at bd<;>try(cases bd;done)
   rename_i bc;obtain⟨v,hv,bd⟩:=My bd;obtain⟨y,g,og,bd,Ep⟩:=aFV bd;obtain⟨ae,bd⟩:=Yo bd;obtain⟨F',fF,h3,aT⟩:=Yp fw bd;refine⟨F',fF,h3,λFt aY=>?_⟩;obtain⟨b5,bz,bA⟩:=aT _ (aY.put o.dst y);refine⟨b5,bz,λD=>?_⟩;obtain⟨af,kD,qZ⟩:=Ep D
   have aqx:lM P callf N ops rs base i o Ft (h.b0 D)=some (put N Ft o.dst y,g.b0 D):=by
    simp only[lM,aR,cond_true,bc,J.vJ,hv Ft aY,og,force_eq]
    erw [kD]
    exact congrArg (λz=>some (put N Ft o.dst y,z)) qZ
   simp only[jd,aq,(ajC aY e).2 D,cond_true,aqx,HE,ae,rec_eq aY,bA]
theorem aat{h:J}{D:List eR}{base:Nat}:∀rs:List Nat,nY (h.b0 D) base rs=AR h base rs
 | []=>rfl
 |k::bL=>by simp only[nY,AR,aat bL];rfl
end
section
variable{P:Program}{C:ad}{callf:cc}{N:Nat}
def Ng(aK bR:Fr->J->ab)(ke:Nat->Fr->J->ab)(r:Out×J)(ex:iu)(F:Fr)(h:J):Prop:=match ex with
 | .c4=>aK F h=some r
 | .ret=>bR F h=some r
 | .ex i=>ke i F h=some r
 | .cY bn=>r=(.cY bn,h)
 | .gt _=>False
def CB(dj:aH U->al->R)(F:Fr)(h:J)(aK bR:Fr->J->ab)(ke:Nat->Fr->J->ab)(r:Out×J):Prop:=
 ∃ex F' h',Ng aK bR ke r ex F' h'/\∀Ft,fO Ft F->∃b5,(fO b5 F'\/∃bn,ex= .cY bn)/\∀D,dj Ft (h.b0 D)=some (ex,b5,h'.b0 D)
theorem afc{dj:aH U->al->R}{body:Fr->J->(Fr->J->ab)->ab}{bR:Fr->J->ab}{ke:Nat->Fr->J->ab}{r:Out×J}(ag:∀F h k,body F h k=some r->CB dj F h k bR ke r):
 ∀(n:Nat) (F:Fr) (h:J) (aK:Fr->J->ab),vL body n F h=some r->CB (jA dj n) F h aK bR ke r
 |0,F,h,aK,e=>by cases e
 |n+1,F,h,aK,e=>by
  have bd:body F h (vL body n)=some r:=e;obtain⟨ex,F',h',h1,h2⟩:=ag _ _ _ bd;cases ex with
  |c4=>
   obtain⟨ex,s0,fF,h3,aT⟩:=afc ag n F' h' aK h1;refine⟨ex,s0,fF,h3,λFt aY=>?_⟩;obtain⟨b5,bz,bA⟩:=h2 Ft aY
   have bz:fO b5 F':=by
    rcases bz with bz|⟨bn,cj⟩
    ·exact bz
    ·cases cj
   obtain⟨xX,dN,e0⟩:=aT b5 bz;refine⟨xX,dN,λD=>?_⟩;show(match dj Ft (h.b0 D) with|some (.c4,F,X)=>jA dj n F X|r=>r)=_;rw[bA];exact e0 D
  |gt l=>exact h1.elim
  |ret=>
   refine⟨.ret,F',h',h1,λFt aY=>?_⟩;obtain⟨b5,bz,bA⟩:=h2 Ft aY;refine⟨b5,bz,λD=>?_⟩;show(match dj Ft (h.b0 D) with|some (.c4,F,X)=>jA dj n F X|r=>r)=_;rw[bA]
  |ex i=>
   refine⟨.ex i,F',h',h1,λFt aY=>?_⟩;obtain⟨b5,bz,bA⟩:=h2 Ft aY;refine⟨b5,bz,λD=>?_⟩;show(match dj Ft (h.b0 D) with|some (.c4,F,X)=>jA dj n F X|r=>r)=_;rw[bA]
  |cY bn=>
   refine⟨.cY bn,F',h',h1,λFt aY=>?_⟩;obtain⟨b5,bz,bA⟩:=h2 Ft aY;refine⟨b5,bz,λD=>?_⟩;show(match dj Ft (h.b0 D) with|some (.c4,F,X)=>jA dj n F X|r=>r)=_;rw[bA]
theorem AQ{dj:aH U->al->R}{F:Fr}{h:J}{aK bR:Fr->J->ab}{ke:Nat->Fr->J->ab}{r:Out×J}{F':Fr}{h':J}(h1:aK F' h'=some r)
 (h2:∀Ft,fO Ft F->∃b5,fO b5 F'/\∀D,dj Ft (h.b0 D)=some (.c4,b5,h'.b0 D)):CB dj F h aK bR ke r:=
 ⟨.c4,F',h',h1,λFt aY=>let ⟨b5,h3,aT⟩:=h2 Ft aY;⟨b5,.inl h3,aT⟩⟩
theorem aa7(fw:lS C callf){ord:Nat->Hint}{me:FuncId}{rd:Option Nat}{lf:Nat}{jump:pI}:∀(c:Code) {F:Fr} {h:J} {aK bR:Fr->J->ab} {ke:Nat->Fr->J->ab} {r:Out×J},
 ga P C N ord lf c F h aK bR ke=some r->CB (cl P callf ord me rd N lf jump c) F h aK bR ke r:=by
 intro c
 induction c with
 |skip=>intro F h aK bR ke r e;exact AQ (F':=F) (h':=h) e λFt aY=>⟨Ft,aY,λ_=>rfl⟩
 |region id ops d=>
  intro F h aK bR ke r e;cases d with
  |false=>
   rcases ajE fw e with⟨F',h',h1,h2⟩|⟨bn,h',rfl,h2⟩
   ·refine AQ h1 λFt aY=>?_
    obtain⟨b5,h3,aT⟩:=h2 Ft aY;exact⟨b5,h3,λD=>by simp only[cl,aT]⟩
   ·refine⟨.cY bn,F,h',rfl,λFt aY=>?_⟩;obtain⟨b5,aT⟩:=h2 Ft aY;exact⟨b5,.inr ⟨bn,rfl⟩,λD=>by simp only[cl,aT]⟩
  |true=>
   simp only[ga] at e;cases aq:ord id with
   |text=>
    simp only[aq] at e;obtain⟨F',h',h1,h2⟩:=ajD (i:=0) fw rfl e;refine AQ h1 λFt aY=>?_
    obtain⟨b5,h3,aT⟩:=h2 Ft aY;refine⟨b5,h3,λD=>?_⟩
    have:=aT D []
    rw[Array.length_toList, <- List.range_eq_range'] at this;simp only[cl,aq]
    erw [this]
    rfl
   |skip=>simp only[aq] at e;cases e
   |ord is bS=>
    simp only[aq] at e;obtain⟨F',h',h1,h2⟩:=ajA fw e;refine AQ h1 λFt aY=>?_
    obtain⟨b5,h3,aT⟩:=h2 Ft aY;refine⟨b5,h3,λD=>?_⟩;simp only[cl,aq]
    erw [aT D]
    rfl
   |news is rs bS=>
    simp only[aq,zG,force_eq] at e;obtain⟨aI,e⟩:=wv e;obtain⟨F',h',h1,h2⟩:=Yp fw e;refine AQ h1 λFt aY=>?_
    obtain⟨b5,h3,aT⟩:=h2 Ft aY;refine⟨b5,h3,λD=>?_⟩;have bz:=aT D;simp only[cl,aq,force_eq,J.aju,aat,aI,cond_true]
    erw [bz]
    rfl
 |seq a b nE ot=>
  intro F h aK bR ke r e;obtain⟨ex,F',h',h1,h2⟩:=nE e;cases ex with
  |c4=>
   obtain⟨ex,s0,fF,h3,aT⟩:=ot h1;refine⟨ex,s0,fF,h3,λFt aY=>?_⟩;obtain⟨b5,bz,bA⟩:=h2 Ft aY
   have bz:fO b5 F':=by
    rcases bz with bz|⟨bn,cj⟩
    ·exact bz
    ·cases cj
   obtain⟨xX,dN,e0⟩:=aT b5 bz;exact⟨xX,dN,λD=>by simp only[cl,bA,e0]⟩
  |gt l=>exact h1.elim
  |ret=>
   refine⟨.ret,F',h',h1,λFt aY=>?_⟩;obtain⟨b5,bz,bA⟩:=h2 Ft aY;exact⟨b5,bz,λD=>by simp only[cl,bA]⟩
  |ex i=>
   refine⟨.ex i,F',h',h1,λFt aY=>?_⟩;obtain⟨b5,bz,bA⟩:=h2 Ft aY;exact⟨b5,bz,λD=>by simp only[cl,bA]⟩
  |cY bn=>
   refine⟨.cY bn,F',h',h1,λFt aY=>?_⟩;obtain⟨b5,bz,bA⟩:=h2 Ft aY;exact⟨b5,bz,λD=>by simp only[cl,bA]⟩
 |cond c a b nE ot=>
  intro F h aK bR ke r e;simp only[ga] at e;obtain⟨y,bb,e⟩:=MF e;unfold gn at e;split at e<;>try(cases e;done)
  rename_i t;cases t with
  |true=>
   obtain⟨ex,F',h',h1,h2⟩:=nE e;refine⟨ex,F',h',h1,λFt aY=>?_⟩;obtain⟨b5,bz,bA⟩:=h2 Ft aY;exact⟨b5,bz,λD=>by simp only[cl,J.vJ,xK aY,bb,hs,bA]⟩
  |false=>
   obtain⟨ex,F',h',h1,h2⟩:=ot e;refine⟨ex,F',h',h1,λFt aY=>?_⟩;obtain⟨b5,bz,bA⟩:=h2 Ft aY;exact⟨b5,bz,λD=>by simp only[cl,J.vJ,xK aY,bb,hs,bA]⟩
 |block id c bp=>
  intro F h aK bR ke r e;obtain⟨ex,F',h',h1,h2⟩:=bp e;cases ex with
  |ex i=>
   cases ag:Nat.beq i id with
   |true=>
    have h1:aK F' h'=some r:=by simpa only[Ng,ag,cond_true] using h1
    refine⟨.c4,F',h',h1,λFt aY=>?_⟩;obtain⟨b5,bz,bA⟩:=h2 Ft aY
    have bz:fO b5 F':=by
     rcases bz with bz|⟨bn,cj⟩
     ·exact bz
     ·cases cj
    exact⟨b5,.inl bz,λD=>by simp only[cl,bA,ag,cond_true]⟩
   |false=>
    have h1:ke i F' h'=some r:=by simpa only[Ng,ag,cond_false] using h1
    refine⟨.ex i,F',h',h1,λFt aY=>?_⟩;obtain⟨b5,bz,bA⟩:=h2 Ft aY;exact⟨b5,bz,λD=>by simp only[cl,bA,ag,cond_false]⟩
  |gt l=>exact h1.elim
  |c4=>
   refine⟨.c4,F',h',h1,λFt aY=>?_⟩;obtain⟨b5,bz,bA⟩:=h2 Ft aY;exact⟨b5,bz,λD=>by simp only[cl,bA]⟩
  |ret=>
   refine⟨.ret,F',h',h1,λFt aY=>?_⟩;obtain⟨b5,bz,bA⟩:=h2 Ft aY;exact⟨b5,bz,λD=>by simp only[cl,bA]⟩
  |cY bn=>
   refine⟨.cY bn,F',h',h1,λFt aY=>?_⟩;obtain⟨b5,bz,bA⟩:=h2 Ft aY;exact⟨b5,bz,λD=>by simp only[cl,bA]⟩
 |loop c bp=>
  intro F h aK bR ke r e;exact afc (λF h k e=>bp e) lf F h aK e
 |exit id=>intro F h aK bR ke r e;exact⟨.ex id,F,h,e,λFt aY=>⟨Ft,.inl aY,λ_=>rfl⟩⟩
 |label l=>intro F h aK bR ke r e;exact AQ (F':=F) (h':=h) e λFt aY=>⟨Ft,aY,λ_=>rfl⟩
 |ret=>intro F h aK bR ke r e;exact⟨.ret,F,h,e,λFt aY=>⟨Ft,.inl aY,λ_=>rfl⟩⟩
 |_=>intro F h aK bR ke r e;cases e
theorem aFW{F:Fr}{h:J}{k:U->ab}{LP:ResultVar}{r:Out×J}(e:Yq P F h k LP=some r):∃y,k y=some r/\∀Ft,fO Ft F->∀D,uy P Ft (h.b0 D) LP=some y:=by
 cases LP with
 |tmp t=>
  obtain⟨y,h1,e⟩:=rk e;exact⟨y,e,λFt aY D=>by simp only[uy,aY t,h1]⟩
 |cell a t=>
  simp only[Yq] at e;obtain⟨q,h1,e⟩:=rk e;split at e
  ·rename_i n bV aR;obtain⟨y,h2,e⟩:=rk e;refine⟨y,e,λFt aY D=>?_⟩;simp only[uy,aY a,h1];unfold eB at h2;split at h2<;>try(cases h2;done)
   rename_i k off;simp only[rD,bV,aR,J.vK];unfold JS at h2;cases aq:h.aV.get k with
   |none=>simp[aq] at h2
   |some o=>simp only[aq] at h2⊢;exact h2
  ·rename_i n bV aR;obtain⟨y,h2,e⟩:=rk e;refine⟨y,e,λFt aY D=>?_⟩;simp only[uy,aY a,h1];unfold bO at h2;split at h2<;>try(cases h2;done)
   rename_i k off;simp only[rD,bV,aR,J.vK];unfold RE at h2;cases aq:h.aV.get k with
   |none=>simp[aq] at h2
   |some o=>simp only[aq] at h2⊢;exact h2
  ·cases e
theorem Ys{F:Fr}{h:J}:∀{rs:List ResultVar} {k:List U->ab} {r:Out×J},Yr P F h rs k=some r->∃ys,k ys=some r/\∀Ft,fO Ft F->∀D,pj P Ft (h.b0 D) rs=some ys
 | [],k,r,e=>⟨[],e,λ_ _ _=>rfl⟩
 |x::rs,k,r,e=>by
  obtain⟨y,e,h1⟩:=aFW e;obtain⟨ys,e,h2⟩:=Ys e;exact⟨y::ys,e,λFt aY D=>by simp only[pj,h1 Ft aY D,h2 Ft aY D]⟩
theorem abc(args:List U):fO (hl .nil 0 args) (A1 args):=λt=>by
 rw[yJ];unfold A1;by_cases aN:t<args.length
 ·rw[if_pos ⟨Nat.zero_le _,by omega⟩];simp
 ·rw[if_neg (by omega),List.getElem?_eq_none (by omega)];rfl
theorem aFU{e:mg}(fw:lS C e.call)(a6:b1 P){lf:Nat}{args:List U}{h h':J}{out:Out}(aJ:Nat.ble args.length a6.fn.ntmps=true)(bb:uI P a6 C lf args h=some (out,h')):
 ∀D,iy e a6 lf a6.f args (h.b0 D)=some (out,h'.b0 D):=by
 intro D;obtain⟨ex,F',h2,h3,aT⟩:=aa7 (rd:=none) (me:=a6.f) (jump:=k0 P e.call a6.ord a6.f none a6.fn.ntmps lf lf) fw _ bb;obtain⟨b5,bz,bA⟩:=aT _ (abc args);have dN:=bA []
 have m9:Gr P a6.fn F' h2=some (out,h')->fO b5 F'->gh P e.dcall a6.fn b5 [] .ret (h2.b0 [])=some (out,h'.b0 []):=by
  intro au a2;obtain⟨ys,e0,nz⟩:=Ys au;cases e0;simp only[gh,nz b5 a2]
 have a2:(∃bn,ex= .cY bn)\/fO b5 F':=bz.symm;unfold iy m0;have QB:Nat.beq a6.f a6.f=true:=Nat.beq_refl _;simp only[QB,aJ,Bool.and_self,cond_true];have ag:cl P e.call a6.ord a6.f none a6.fn.ntmps lf (k0 P e.call a6.ord a6.f none a6.fn.ntmps lf lf) (a6.fn.body.getD .skip) (hl .nil 0 args) {h.b0 D with bx:=[]}=some (ex,b5,h2.b0 []):=dN;rw[ag];cases ex with
 |c4=>
  have a2:fO b5 F':=by
   rcases a2 with⟨bn,cj⟩|a2
   ·cases cj
   ·exact a2
  show xE D (gh P e.dcall a6.fn b5 [] .ret (h2.b0 []))=_;rw[m9 h3 a2];rfl
 |ret=>
  have a2:fO b5 F':=by
   rcases a2 with⟨bn,cj⟩|a2
   ·cases cj
   ·exact a2
  show xE D (gh P e.dcall a6.fn b5 [] .ret (h2.b0 []))=_;rw[m9 h3 a2];rfl
 |ex i=>cases h3
 |cY bn=>cases h3;rfl
 |gt l=>exact h3.elim
end
noncomputable section
abbrev gY:=List Nat->Fr->J->ab
def N4(rd:Option Nat)(L:List Nat)(h:J):Option (Nat×List Nat×J):=match rd with
 |none=>some (h.next,h.next::L,⟨h.aO,h.next+1,h.aV.put h.next sB⟩)
 |some k=>match h.aV.get k with
  |some o=>match o.sp with
   | .loop _ _ _ _ _ _ _ _ _ b=>some (b,L,h)
   |_=>none
  |none=>none
def AS(o:bH):bH:=match o.sp with
 | .loop _ iC ord me N G ps a c b=>{o with cq:=o.cq+1,sp:= .loop .exhausted iC ord me N G ps a c b}
 |_=>o
def uz:Code->Bool
 | .ret=>true
 | .seq a b=>uz a||uz b
 | .cond _ a b=>uz a||uz b
 | .block _ c=>uz c
 | .loop c=>uz c
 | .rangeFunc _ _ a c=>uz a||uz c
 |_=>false
def tv:Code->List Nat
 | .exit id=>[id]
 | .seq a b=>tv a++tv b
 | .cond _ a b=>tv a++tv b
 | .block id c=>(tv c).filter λi=>!Nat.beq i id
 | .loop c=>tv c
 | .rangeFunc _ _ a c=>tv a++tv c
 |_=>[]
abbrev s6:=List Nat->J->ab
def HY:List (Nat×s6)->Nat->s6
 | [],_=>λ_ _=>none
 |(i,k)::l,j=>λL h=>bif Nat.beq j i then k L h else HY l j L h
def aeQ(p:Jump)(L:List Nat)(h:J)(aK bR:s6)(ke:List (Nat×s6)):ab:=match p with
 | .none=>aK L h
 | .ret=>bR L h
 | .ex id=>HY ke id L h
def Dc(L:List Nat)(l:Nat)(h:J)(aK bR:s6)(ke:List (Nat×s6)):ab:=match h.aV.get l with
 |some o=>(match o.sp with
  | .loop st iC _ _ _ _ _ _ _ _=>(match st with
    | .busy=>none
    |_=>aeQ iC L ⟨h.aO,h.next,h.aV.put l (AS o)⟩ aK bR ke)
  |_=>none)
 |none=>none
def rA(C:ad)(ord:Nat->Hint)(me:FuncId)(rd:Option Nat)(N:Nat)(ps:Array Tmp)(a c:Code)(g:U)(L:List Nat)(T:aH U)(h:J)(aK bR:s6)(ke:List (Nat×s6)):ab:=match g,N4 rd L h with
 | .fn (.func f) bZ qD,some (b,lk,h1)=>cM (C (.iJ f) (bZ++[.fV h1.next]++qD) ⟨h1.aO,h1.next+1,h1.aV.put h1.next (iA ord me N T ps a c b)⟩) λ_ h2=>Dc lk h1.next h2 aK bR ke
 |_,_=>none
def ri:s6:=λ_ _=>none
def Gv(body:List Nat->Fr->J->gY->ab)(n:Nat):gY:=Nat.rec (motive:=λ_=>gY) (λ_ _ _=>none) (λ_ bp L F h=>body L F h bp) n
section
variable(P:Program)(C:ad)(N:Nat)
def h6(ord:Nat->Hint)(me:FuncId)(rd:Option Nat)(lf:Nat):Code->List Nat->Fr->J->gY->gY->(Nat->gY)->ab
 | .seq a b,L,F,h,aK,bR,ke=>h6 ord me rd lf a L F h (λL F h=>h6 ord me rd lf b L F h aK bR ke) bR ke
 | .cond c a b,L,F,h,aK,bR,ke=>vN h.aO F c λy=>gn y (h6 ord me rd lf a L F h aK bR ke) (h6 ord me rd lf b L F h aK bR ke)
 | .block id c,L,F,h,aK,bR,ke=>h6 ord me rd lf c L F h aK bR (λi L F h=>bif Nat.beq i id then aK L F h else ke i L F h)
 | .loop c,L,F,h,_,bR,ke=>Gv (λL F h k=>h6 ord me rd lf c L F h k bR ke) lf L F h
 | .rangeFunc g ps a c,L,F,h,aK,bR,ke=>vN h.aO F g λy=>rA C ord me rd N ps a c y L (iB (iS ord N c) F) h (λL h=>aK L F h) (bif uz c then(λL h=>bR L F h) else ri) ((tv c).map λi=>(i,λL h=>ke i L F h))
 |c,L,F,h,aK,bR,ke=>ga P C N ord lf c F h (aK L) (bR L) (λi=>ke i L)
end
def rp:Code->Bool
 | .seq a b=>rp a&&rp b
 | .cond _ a b=>rp a&&rp b
 | .block _ c=>rp c
 | .loop c=>rp c
 | .rangeFunc _ _ _ _=>false
 |_=>true
def Ci(h:J)(k:Nat)(st:LoopState)(p:Option Jump):Option J:=match h.aV.get k with
 |some o=>match F3 o st p with
  |some o'=>some ⟨h.aO,h.next,h.aV.put k o'⟩
  |none=>none
 |none=>none
def lX(h:J)(k:Nat)(st:LoopState)(p:Jump)(b:Bool):ab:=match Ci h k st (some p) with
 |some h=>some (.ret (.bool b),h)
 |none=>none
def E0(N:Nat)(F:Fr):List Tmp->List U->Fr
 |p::ps,x::xs=>E0 N (xe N F (some p) x) ps xs
 |_,_=>F
def ux(h:J)(k:Nat)(K:J->ab):ab:=match h.aV.get k with
 |some o=>bif isReady o then ob (Ci h k .busy none) K else none
 |none=>none
def Cf(P:Program)(C:ad)(ord:Nat->Hint)(me:FuncId)(k N lf:Nat)(F:Fr)(ps:Array Tmp)(a c:Code)(args:List U)(h:J):ab:=
 bif Nat.beq args.length ps.size then h6 P C N ord me (some k) lf a [] (E0 N F ps.toList args) h
  (λ_ aL h1=>ux h1 k λh2=>h6 P C N ord me (some k) lf c [] aL h2 (λ_ _ h3=>lX h3 k .ready .none true) (λ_ _ h3=>lX h3 k .done .ret false) (λid _ _ h3=>lX h3 k .done (.ex id) false))
  (λ_ _ _=>none) (λ_ _ _ _=>none) else none
def zz:List Nat->J->(J->ab)->ab
 | [],h,k=>k h
 |b::L,h,k=>match h.aV.get b with
  |some o=>match o.sp with
   | .jO false=>zz L ⟨h.aO,h.next,h.aV.put b {o with cq:=o.cq+1,sp:= .jO true}⟩ k
   |_=>none
  |none=>none
def zE(r:ab):ab:=match r with
 |some (.ret y,h)=>some (.ret y,h)
 |_=>none
@[simp] theorem ash(y:U)(h:J):zE (some (.ret y,h))=some (.ret y,h):=e8 rfl
def MH(P:Program)(fn:Func):gY:=λL F h=>zz L h λh=>Gr P fn F h
def Af(P:Program)(a6:b1 P)(C:ad)(lf:Nat)(args:List U)(h:J):ab:=
 zE (h6 P C a6.fn.ntmps a6.ord a6.f none lf (a6.fn.body.getD .skip) [] (A1 args) h (MH P a6.fn) (MH P a6.fn) (λ_ _ _ _=>none))
end
section
variable{P:Program}{C:ad}{callf:cc}{N:Nat}
theorem OL{ord:Nat->Hint}{me:FuncId}{rd:Option Nat}{lf:Nat}:∀{c:Code} (_:rp c=true) {L:List Nat} {F:Fr} {h:J} {aK bR:gY} {ke:Nat->gY},
 h6 P C N ord me rd lf c L F h aK bR ke=ga P C N ord lf c F h (aK L) (bR L) (λi=>ke i L):=by
 intro c
 induction c with
 |seq a b nE ot=>
  intro ae L F h aK bR ke;simp only[rp,Bool.and_eq_true] at ae;simp only[h6,ga];rw[nE ae.1];congr 1
  funext F h
  exact ot ae.2
 |cond x a b nE ot=>
  intro ae L F h aK bR ke;simp only[rp,Bool.and_eq_true] at ae;simp only[h6,ga,nE ae.1,ot ae.2]
 |block id c bp=>
  intro ae L F h aK bR ke;simp only[h6,ga];rw[bp ae]
 |loop c bp=>
  intro ae L F h aK bR ke;simp only[h6,ga]
  have:∀n F h,Gv (λL F h k=>h6 P C N ord me rd lf c L F h k bR ke) n L F h=vL (λF h k=>ga P C N ord lf c F h k (bR L) (λi=>ke i L)) n F h:=by
   intro n
   induction n with
   |zero=>intro F h;rfl
   |succ n aqX=>
    intro F h;show h6 P C N ord me rd lf c L F h (Gv _ n) bR ke=ga P C N ord lf c F h (vL _ n) (bR L) (λi=>ke i L);rw[bp ae];congr 1
    funext F h
    exact aqX F h
  exact this lf F h
 |rangeFunc g ps a c=>intro ae;cases ae
 |_=>intro ae L F h aK bR ke;rfl
def m1(L:List Nat):List eR:=L.map .tp
def Nh(aK bR:gY)(ke:Nat->gY)(r:Out×J)(ex:iu)(L:List Nat)(F:Fr)(h:J):Prop:=match ex with
 | .c4=>aK L F h=some r
 | .ret=>bR L F h=some r
 | .ex i=>ke i L F h=some r
 | .cY _=>∃bn h,r=(.cY bn,h)
 | .gt _=>False
def nP(dj:aH U->al->R)(L:List Nat)(F:Fr)(h:J)(aK bR:gY)(ke:Nat->gY)(r:Out×J):Prop:=
 ∃ex iG F' h',Nh aK bR ke r ex iG F' h'/\∀Ft,fO Ft F->∃b5,(fO b5 F'\/∃bn,ex= .cY bn)/\∀D,dj Ft (h.b0 (m1 L++D))=some (ex,b5,h'.b0 (m1 iG++D))
theorem nP.ast{dj:aH U->al->R}{L:List Nat}{F:Fr}{h:J}{aK bR:gY}{ke:Nat->gY}{r:Out×J}(H:CB dj F h (aK L) (bR L) (λi=>ke i L) r):nP dj L F h aK bR ke r:=by
 obtain⟨ex,F',h',h1,h2⟩:=H;refine⟨ex,L,F',h',?_,λFt aY=>?_⟩
 ·cases ex with
  |cY bn=>exact⟨bn,h',h1⟩
  |_=>exact h1
 ·obtain⟨b5,h3,aT⟩:=h2 Ft aY;exact⟨b5,h3,λD=>aT _⟩
theorem nP.yx{b5:aH U}{F':Fr}{ex:iu}(h:fO b5 F'\/∃bn,ex= .cY bn)(aR:∀bn,ex≠ .cY bn):fO b5 F':=by
 rcases h with h|⟨bn,h⟩
 ·exact h
 ·exact absurd h (aR bn)
theorem afd{dj:aH U->al->R}{body:List Nat->Fr->J->gY->ab}{bR:gY}{ke:Nat->gY}{r:Out×J}(ag:∀L F h k,body L F h k=some r->nP dj L F h k bR ke r):
 ∀(n:Nat) (L:List Nat) (F:Fr) (h:J) (aK:gY),Gv body n L F h=some r->nP (jA dj n) L F h aK bR ke r
 |0,L,F,h,aK,e=>by cases e
 |n+1,L,F,h,aK,e=>by
  have bd:body L F h (Gv body n)=some r:=e;obtain⟨ex,iG,F',h',h1,h2⟩:=ag _ _ _ _ bd
  have stop:(∀Ft X,ex≠ .c4->(match some (ex,Ft,X) with|some (.c4,F,X)=>jA dj n F X|r=>r)=some (ex,Ft,X)):=by
   intro Ft X ca;cases ex<;>first|rfl|exact absurd rfl ca
  by_cases zd:ex= .c4
  ·subst zd;obtain⟨ex,M6,s0,fF,h3,aT⟩:=afd ag n iG F' h' aK h1;refine⟨ex,M6,s0,fF,h3,λFt aY=>?_⟩;obtain⟨b5,bz,bA⟩:=h2 Ft aY;have bz:=nP.yx bz (λbn e=>by cases e);obtain⟨xX,dN,e0⟩:=aT b5 bz;refine⟨xX,dN,λD=>?_⟩;show(match dj Ft (h.b0 _) with|some (.c4,F,X)=>jA dj n F X|r=>r)=_;rw[bA];exact e0 D
  ·refine⟨ex,iG,F',h',?_,λFt aY=>?_⟩
   ·cases ex<;>first|exact absurd rfl zd|exact h1
   ·obtain⟨b5,bz,bA⟩:=h2 Ft aY;refine⟨b5,bz,λD=>?_⟩;show(match dj Ft (h.b0 _) with|some (.c4,F,X)=>jA dj n F X|r=>r)=_;rw[bA];exact stop _ _ zd
theorem alN{rd:Option Nat}{L lk:List Nat}{h h1:J}{b:Nat}(e:N4 rd L h=some (b,lk,h1))(D:List eR):tl rd (h.b0 (m1 L++D))=some (b,h1.b0 (m1 lk++D)):=by
 unfold N4 at e;unfold tl;cases rd with
 |none=>simp only[Option.some.injEq,Prod.mk.injEq] at e;obtain⟨rfl,rfl,rfl⟩:=e;rfl
 |some k=>
  simp only at e⊢;split at e<;>try(cases e;done)
  rename_i o aq;split at e<;>try(cases e;done)
  rename_i ak;simp only[Option.some.injEq,Prod.mk.injEq] at e;obtain⟨rfl,rfl,rfl⟩:=e;simp only[J.vK,aq,ak]
theorem aba{ke:Nat->s6}:∀{es:List Nat} {i:Nat} {L:List Nat} {h:J} {r:Out×J},HY (es.map λi=>(i,ke i)) i L h=some r->ke i L h=some r
 | [],i,L,h,r,e=>by cases e
 |j::es,i,L,h,r,e=>by
  have e:(bif Nat.beq i j then ke j L h else HY (es.map λi=>(i,ke i)) i L h)=some r:=e;cases ag:Nat.beq i j with
  |true=>rw[ag,cond_true] at e;rw[Nat.eq_of_beq_eq_true ag];exact e
  |false=>rw[ag,cond_false] at e;exact aba e
theorem aA8(fw:lS C callf){ord:Nat->Hint}{me:FuncId}{rd:Option Nat}{ps:Array Tmp}{a c:Code}{g:U}{L:List Nat}{F:Fr}{h:J}{aK bR:gY}{ke:Nat->gY}{r:Out×J}{rb:Bool}{es:List Nat}
 (e:rA C ord me rd N ps a c g L (iB (iS ord N c) F) h (λL h=>aK L F h) (bif rb then(λL h=>bR L F h) else ri) (es.map λi=>(i,λL h=>ke i L F h))=some r):nP (λFt X=>qe callf ord me rd N ps a c g Ft X) L F h aK bR ke r:=by
 unfold rA at e;split at e<;>try(cases e;done)
 rename_i f bZ qD b lk h1 ag;generalize fR:C (.iJ f) (bZ++[.fV h1.next]++qD) ⟨h1.aO,h1.next+1,h1.aV.put h1.next (iA ord me N (iB (iS ord N c) F) ps a c b)⟩=x at e;rcases x with _|⟨out,h2⟩
 ·cases e
 ·cases out with
  |cY bn=>cases e
  |ret z=>
   have e:Dc lk h1.next h2 (λL h=>aK L F h) (bif rb then(λL h=>bR L F h) else ri) (es.map λi=>(i,λL h=>ke i L F h))=some r:=e
   unfold Dc at e;split at e<;>try(cases e;done)
   rename_i o aq;split at e<;>try(cases e;done)
   rename_i st iC _ _ _ _ _ _ _ _ ak;have ca:st≠ .busy:=λcj=>by subst cj;cases e
   have e:aeQ iC lk ⟨h2.aO,h2.next,h2.aV.put h1.next (AS o)⟩ (λL h=>aK L F h) (bif rb then(λL h=>bR L F h) else ri) (es.map λi=>(i,λL h=>ke i L F h))=some r:=by
    cases st<;>first|exact absurd rfl ca|exact e
   refine⟨JL iC,lk,F,⟨h2.aO,h2.next,h2.aV.put h1.next (AS o)⟩,?_,λFt aY=>⟨Ft,.inl aY,λD=>?_⟩⟩
   ·cases iC with
    |none=>exact e
    |ret=>cases rb with
     |true=>exact e
     |false=>cases e
    |ex id=>exact aba (ke:=λi L h=>ke i L F h) e
   ·have ao5:Ft.get=F:=funext aY;have m6:=fw _ _ _ _ _ fR [];simp only[qe,alN ag D,ao5];have ay:({((h1.b0 (m1 lk++D)).new (iA ord me N (iB (iS ord N c) F) ps a c b)).2 with bx:=[]}:al)=(J.b0 ⟨h1.aO,h1.next+1,h1.aV.put h1.next (iA ord me N (iB (iS ord N c) F) ps a c b)⟩ []):=rfl;rw[ay];have b9:((h1.b0 (m1 lk++D)).new (iA ord me N (iB (iS ord N c) F) ps a c b)).1=h1.next:=rfl
    rw[b9,m6];have gz:(h2.b0 []).aV.get h1.next=some o:=aq
    simp only[tu,gz,ak];unfold AS;cases st<;>first|exact absurd rfl ca|(simp only[ak];rfl)
theorem OM(fw:lS C callf){ord:Nat->Hint}{me:FuncId}{rd:Option Nat}{lf:Nat}{jump:pI}:∀(c:Code) {L:List Nat} {F:Fr} {h:J} {aK bR:gY} {ke:Nat->gY} {r:Out×J},
 h6 P C N ord me rd lf c L F h aK bR ke=some r->nP (cl P callf ord me rd N lf jump c) L F h aK bR ke r:=by
 intro c
 induction c with
 |seq a b nE ot=>
  intro L F h aK bR ke r e;obtain⟨ex,iG,F',h',h1,h2⟩:=nE e;by_cases zd:ex= .c4
  ·subst zd;obtain⟨ex,M6,s0,fF,h3,aT⟩:=ot h1;refine⟨ex,M6,s0,fF,h3,λFt aY=>?_⟩;obtain⟨b5,bz,bA⟩:=h2 Ft aY;obtain⟨xX,dN,e0⟩:=aT b5 (nP.yx bz (λbn e=>by cases e));exact⟨xX,dN,λD=>by simp only[cl,bA,e0]⟩
  ·refine⟨ex,iG,F',h',?_,λFt aY=>?_⟩
   ·cases ex<;>first|exact absurd rfl zd|exact h1
   ·obtain⟨b5,bz,bA⟩:=h2 Ft aY;refine⟨b5,bz,λD=>?_⟩;simp only[cl,bA];cases ex<;>first|exact absurd rfl zd|rfl
 |cond c a b nE ot=>
  intro L F h aK bR ke r e;simp only[h6] at e;obtain⟨y,bb,e⟩:=MF e;unfold gn at e;split at e<;>try(cases e;done)
  rename_i t;cases t with
  |true=>
   obtain⟨ex,iG,F',h',h1,h2⟩:=nE e;refine⟨ex,iG,F',h',h1,λFt aY=>?_⟩;obtain⟨b5,bz,bA⟩:=h2 Ft aY;exact⟨b5,bz,λD=>by simp only[cl,J.vJ,xK aY,bb,hs,bA]⟩
  |false=>
   obtain⟨ex,iG,F',h',h1,h2⟩:=ot e;refine⟨ex,iG,F',h',h1,λFt aY=>?_⟩;obtain⟨b5,bz,bA⟩:=h2 Ft aY;exact⟨b5,bz,λD=>by simp only[cl,J.vJ,xK aY,bb,hs,bA]⟩
 |block id c bp=>
  intro L F h aK bR ke r e;obtain⟨ex,iG,F',h',h1,h2⟩:=bp e;cases ex with
  |ex i=>
   cases ag:Nat.beq i id with
   |true=>
    have h1:aK iG F' h'=some r:=by simpa only[Nh,ag,cond_true] using h1
    refine⟨.c4,iG,F',h',h1,λFt aY=>?_⟩;obtain⟨b5,bz,bA⟩:=h2 Ft aY;exact⟨b5,.inl (nP.yx bz (λbn e=>by cases e)),λD=>by simp only[cl,bA,ag,cond_true]⟩
   |false=>
    have h1:ke i iG F' h'=some r:=by simpa only[Nh,ag,cond_false] using h1
    refine⟨.ex i,iG,F',h',h1,λFt aY=>?_⟩;obtain⟨b5,bz,bA⟩:=h2 Ft aY;exact⟨b5,.inl (nP.yx bz (λbn e=>by cases e)),λD=>by simp only[cl,bA,ag,cond_false]⟩
  |gt l=>exact h1.elim
  |c4=>
   refine⟨.c4,iG,F',h',h1,λFt aY=>?_⟩;obtain⟨b5,bz,bA⟩:=h2 Ft aY;exact⟨b5,bz,λD=>by simp only[cl,bA]⟩
  |ret=>
   refine⟨.ret,iG,F',h',h1,λFt aY=>?_⟩;obtain⟨b5,bz,bA⟩:=h2 Ft aY;exact⟨b5,bz,λD=>by simp only[cl,bA]⟩
  |cY bn=>
   refine⟨.cY bn,iG,F',h',h1,λFt aY=>?_⟩;obtain⟨b5,bz,bA⟩:=h2 Ft aY;exact⟨b5,bz,λD=>by simp only[cl,bA]⟩
 |loop c bp=>
  intro L F h aK bR ke r e;exact afd (λL F h k e=>bp e) lf L F h aK e
 |rangeFunc g ps a c=>
  intro L F h aK bR ke r e;simp only[h6] at e;obtain⟨y,bb,e⟩:=MF e;obtain⟨ex,iG,F',h',h1,h2⟩:=aA8 fw e;refine⟨ex,iG,F',h',h1,λFt aY=>?_⟩;obtain⟨b5,bz,bA⟩:=h2 Ft aY;exact⟨b5,bz,λD=>by simp only[cl,J.vJ,xK aY,bb];exact bA D⟩
 |_=>intro L F h aK bR ke r e;exact nP.ast (aa7 fw _ e)
theorem abd{N:Nat}:∀{ps:List Tmp} {args:List U} {Ft:aH U} {F:Fr},fO Ft F->fO (xf N Ft ps args) (E0 N F ps args)
 | [],args,_,_,h=>by cases args<;>exact h
 |_::_,[],_,_,h=>h
 |p::ps,x::xs,_,_,h=>abd (ps:=ps) (args:=xs) (h.put (some p) x)
theorem aie{h h':J}{k:Nat}{st:LoopState}{p:Option Jump}(e:Ci h k st p=some h')(D:List eR):qk (h.b0 D) k st p=some (h'.b0 D):=by
 unfold Ci at e;unfold qk;split at e<;>try(cases e;done)
 rename_i o aq;split at e<;>try(cases e;done)
 rename_i o' ak;cases e;simp only[J.vK,aq,ak];rfl
theorem Ox{h h':J}{k:Nat}{st:LoopState}{p:Jump}{b:Bool}{o:Out}(e:lX h k st p b=some (o,h'))(D YE:List eR):endRound YE (h.b0 D) k st p b=some (o,h'.b0 YE):=by
 unfold lX at e;split at e<;>try(cases e;done)
 rename_i h1 ak;cases e;unfold endRound;rw[aie ak D];rfl
theorem aBT(fw:lS C callf){ord:Nat->Hint}{me:FuncId}{k lf:Nat}{jump:pI}{F:Fr}{Ft:aH U}(aY:fO Ft F){ps:Array Tmp}{a c:Code}{args:List U}{h h':J}{y:U}
 (e:Cf P C ord me k N lf F ps a c args h=some (.ret y,h'))(D:List eR):l7 (cl P callf ord me (some k) N lf jump) k N Ft ps a c args (h.b0 D)=some (.ret y,h'.b0 D):=by
 unfold Cf at e;unfold l7;cases aJ:Nat.beq args.length ps.size with
 |false=>simp[aJ] at e
 |true=>
  simp only[aJ,cond_true] at e⊢;obtain⟨ex,lk,aL,h1,bM,cz⟩:=OM (callf:=callf) (jump:=jump) fw _ e;obtain⟨YQ,dT,fA⟩:=cz _ (abd (args:=args) aY);have fA:=fA [];cases ex with
  |c4=>
   have dT:=nP.yx dT (λbn e=>by cases e);have bM:ux h1 k _=some (Out.ret y,h'):=bM;unfold ux at bM;split at bM<;>try(cases bM;done)
   rename_i o aq;cases aQ:isReady o with
   |false=>simp[aQ] at bM
   |true=>
    simp only[aQ,cond_true] at bM;obtain⟨h2,ak,bM⟩:=rk bM;have av:({h.b0 D with bx:=[]}:al)=h.b0 []:=rfl;have az:cl P callf ord me (some k) N lf jump a (xf N Ft ps.toList args) (h.b0 [])=some (.c4,YQ,h1.b0 (m1 lk++[])):=fA;rw[av,az];simp only[J.vK,aq,aQ,cond_true,aie ak];obtain⟨aa9,aj8,c2,h3,dd,dy⟩:=OM (callf:=callf) (jump:=jump) fw _ bM;obtain⟨aj2,s1,s2⟩:=dy _ dT;have s2:=s2 (m1 lk++[]);have s2:cl P callf ord me (some k) N lf jump c YQ (h2.b0 (m1 lk++[]))=some (aa9,aj2,h3.b0 (m1 aj8++(m1 lk++[]))):=s2;rw[s2];cases aa9 with
    |c4=>exact Ox dd _ _
    |ret=>exact Ox dd _ _
    |ex id=>exact Ox dd _ _
    |cY bn=>obtain⟨_,_,cj⟩:=dd;cases cj
    |gt l=>exact dd.elim
  |ret=>cases bM
  |ex id=>cases bM
  |cY bn=>obtain⟨_,_,cj⟩:=bM;cases cj
  |gt l=>exact bM.elim
theorem afk{dcall:nQ}{fn:Func}{Ft:aH U}{D:List eR}:∀{L:List Nat} {h:J} {k:J->ab} {r:Out×J},zz L h k=some r->
 ∃h',k h'=some r/\gh P dcall fn Ft (m1 L) .ret (h.b0 D)=gh P dcall fn Ft [] .ret (h'.b0 D)
 | [],h,k,r,e=>⟨h,e,rfl⟩
 |b::L,h,k,r,e=>by
  unfold zz at e;split at e<;>try(cases e;done)
  rename_i o aq;split at e<;>try(cases e;done)
  rename_i ak;obtain⟨h',h1,h2⟩:=afk (dcall:=dcall) (fn:=fn) (Ft:=Ft) (D:=D) (L:=L) e;refine⟨h',h1,?_⟩;rw[<- h2];show gh P dcall fn Ft (.tp b::m1 L) .ret (h.b0 D)=_;simp only[gh,J.vK,aq,ak];rfl
theorem aFT{e:mg}(fw:lS C e.call)(a6:b1 P){lf:Nat}{args:List U}{h h':J}{out:Out}(aJ:Nat.ble args.length a6.fn.ntmps=true)(bb:Af P a6 C lf args h=some (out,h')):
 ∀D,iy e a6 lf a6.f args (h.b0 D)=some (out,h'.b0 D):=by
 intro D;unfold Af zE at bb;split at bb<;>try(cases bb;done)
 rename_i y g fy;cases bb;obtain⟨ex,iG,F',h2,h3,aT⟩:=OM (rd:=none) (me:=a6.f) (jump:=k0 P e.call a6.ord a6.f none a6.fn.ntmps lf lf) fw _ fy;obtain⟨b5,bz,bA⟩:=aT _ (abc args);have dN:=bA []
 have m9:MH P a6.fn iG F' h2=some (.ret y,h')->fO b5 F'->gh P e.dcall a6.fn b5 (m1 iG) .ret (h2.b0 [])=some (.ret y,h'.b0 []):=by
  intro au a2;obtain⟨e0,nz,o3⟩:=afk (dcall:=e.dcall) (fn:=a6.fn) (Ft:=b5) (D:=[]) au;rw[o3];obtain⟨ys,lC,dF⟩:=Ys nz;cases lC;simp only[gh,dF b5 a2]
 unfold iy m0;have QB:Nat.beq a6.f a6.f=true:=Nat.beq_refl _;simp only[QB,aJ,Bool.and_self,cond_true];have ag:cl P e.call a6.ord a6.f none a6.fn.ntmps lf (k0 P e.call a6.ord a6.f none a6.fn.ntmps lf lf) (a6.fn.body.getD .skip) (hl .nil 0 args) {h.b0 D with bx:=[]}=some (ex,b5,h2.b0 (m1 iG++[])):=dN;rw[ag,List.append_nil];cases ex with
 |c4=>
  show xE D (gh P e.dcall a6.fn b5 (m1 iG) .ret (h2.b0 []))=_;rw[m9 h3 (nP.yx bz (λbn e=>by cases e))];rfl
 |ret=>
  show xE D (gh P e.dcall a6.fn b5 (m1 iG) .ret (h2.b0 []))=_;rw[m9 h3 (nP.yx bz (λbn e=>by cases e))];rfl
 |ex i=>cases h3
 |cY bn=>obtain⟨_,_,cj⟩:=h3;cases cj
 |gt l=>exact h3.elim
theorem ajB{e:mg}(fw:lS C e.call)(a6:b1 P){lf:Nat}{args:List U}{h h':J}{out:Out}(aJ:Nat.ble args.length a6.fn.ntmps=true)(bb:uI P a6 C lf args h=some (out,h')\/Af P a6 C lf args h=some (out,h')):
 ∀D,iy e a6 lf a6.f args (h.b0 D)=some (out,h'.b0 D):=by
 rcases bb with bb|bb
 ·exact aFU fw a6 aJ bb
 ·exact aFT fw a6 aJ bb
end
noncomputable section
abbrev O:=Option U
abbrev hp:=Fr->J->ab
abbrev lj:=Nat->Fr->J->ab
abbrev cu:=J->ab
abbrev aw:=O->cu
abbrev aS:=O->aw
abbrev bK:=O->aS
abbrev bo:=O->bK
abbrev cC:=O->bo
abbrev dp:=O->cC
abbrev hY:=O->dp
abbrev rQ:=O->hY
abbrev GL:=O->rQ
abbrev aj6:=O->GL
abbrev GK:=O->aj6
abbrev M3:=O->GK
def sub(c:Code):List Nat->Code
 | []=>c
 |i::p=>match c with
  | .seq a b=>sub (bif Nat.beq i 0 then a else b) p
  | .cond _ a b=>sub (bif Nat.beq i 0 then a else b) p
  | .block _ a=>sub a p
  | .loop a=>sub a p
  | .rangeFunc _ _ a c=>sub (bif Nat.beq i 0 then a else c) p
  |c=>c
def bI(id:Nat)(aK:Fr->J->ab)(ke:Nat->Fr->J->ab):Nat->Fr->J->ab:=λi F h=>bif Nat.beq i id then aK F h else ke i F h
def bk{α:Type}(body:(α->J->ab)->α->J->ab)(n:Nat):α->J->ab:=Nat.rec (motive:=λ_=>α->J->ab) (λ_ _=>none) (λ_ bp s h=>body bp s h) n
theorem df{α:Type}(body:(α->J->ab)->α->J->ab)(n:Nat)(s:α)(h:J):bk body (n+1) s h=body (bk body n) s h:=rfl
def ZP(l:List Nat):ByteArray:=⟨(l.map λn=>UInt8.ofNat n).toArray⟩
section
variable{P:Program}{C:ad}{N:Nat}{ord:Nat->Hint}{lf:Nat}{c a b:Code}{ba a0:Fr->J->ab}{an:Nat->Fr->J->ab}
theorem bg(ae:c= .seq a b){A B:Fr->J->ab}(ag:∀F h,ga P C N ord lf b F h ba a0 an=B F h)(bV:∀F h,ga P C N ord lf a F h B a0 an=A F h)(F:Fr)(h:J):ga P C N ord lf c F h ba a0 an=A F h:=by
 subst ae
 have:(λF h=>ga P C N ord lf b F h ba a0 an)=B:=funext λF=>funext λh=>ag F h
 show ga P C N ord lf a F h (λF h=>ga P C N ord lf b F h ba a0 an) a0 an=A F h;rw[this];exact bV F h
theorem fY{id:Nat}(ae:c= .block id a){A:Fr->J->ab}(bV:∀F h,ga P C N ord lf a F h ba a0 (bI id ba an)=A F h)(F:Fr)(h:J):ga P C N ord lf c F h ba a0 an=A F h:=by
 subst ae;exact bV F h
theorem ama{x:Operand}(ae:c= .cond x a b){A B:Fr->J->ab}(bV:∀F h,ga P C N ord lf a F h ba a0 an=A F h)(ag:∀F h,ga P C N ord lf b F h ba a0 an=B F h)(F:Fr)(h:J):
 ga P C N ord lf c F h ba a0 an=vN h.aO F x λy=>gn y (A F h) (B F h):=by
 subst ae;show(vN h.aO F x λy=>gn y (ga P C N ord lf a F h ba a0 an) (ga P C N ord lf b F h ba a0 an))=_;rw[bV,ag]
theorem gJ{α:Type}{g:Fr->α}{body:(α->J->ab)->α->J->ab}(ae:c= .loop a)(ag:∀(k:α->J->ab) F h,ga P C N ord lf a F h (λF h=>k (g F) h) a0 an=body k (g F) h)(F:Fr)(h:J):
 ga P C N ord lf c F h ba a0 an=bk body lf (g F) h:=by
 subst ae;show vL (λF h k=>ga P C N ord lf a F h k a0 an) lf F h=bk body lf (g F) h
 have:∀n F h,vL (λF h k=>ga P C N ord lf a F h k a0 an) n F h=bk body n (g F) h:=by
  intro n
  induction n with
  |zero=>intro F h;rfl
  |succ n bp=>
   intro F h;show ga P C N ord lf a F h (vL (λF h k=>ga P C N ord lf a F h k a0 an) n) a0 an=body (bk body n) (g F) h;have e:vL (λF h k=>ga P C N ord lf a F h k a0 an) n=λF h=>bk body n (g F) h:=funext λF=>funext λh=>bp F h
   rw[e];exact ag _ F h
 exact this lf F h
abbrev b7(x:b1 P)(p:List Nat):Code:=sub (x.fn.body.getD .skip) p
abbrev ar(x:b1 P)(C:ad)(lf:Nat)(p:List Nat):=ga P C x.fn.ntmps x.ord lf (b7 x p)
theorem cS{x:b1 P}{args:List U}{h:J}{K:Fr->J->ab}{R:ab}(ai:Gr P x.fn=K)(e:ar x C lf [] (A1 args) h K K (λ_ _ _=>none)=R):uI P x C lf args h=R:=by
 subst ai;exact e
abbrev aa8(x:b1 P)(C:ad)(lf:Nat)(p:List Nat):=h6 P C x.fn.ntmps x.ord x.f none lf (b7 x p)
def alM(id:Nat)(aK:gY)(ke:Nat->gY):Nat->gY:=λi L F h=>bif Nat.beq i id then aK L F h else ke i L F h
theorem MI{x:b1 P}{p:List Nat}(ae:rp (b7 x p)=true){aK bR:gY}{ke:Nat->gY}{A:gY}(e:∀L F h,ar x C lf p F h (aK L) (bR L) (λi=>ke i L)=A L F h)(L:List Nat)(F:Fr)(h:J):aa8 x C lf p L F h aK bR ke=A L F h:=
 (OL ae).trans (e L F h)
section
variable{me:FuncId}{uU tf:gY}{te:Nat->gY}
theorem MJ(ae:c= .seq a b){A B:gY}(ag:∀L F h,h6 P C N ord me none lf b L F h uU tf te=B L F h)(bV:∀L F h,h6 P C N ord me none lf a L F h B tf te=A L F h)(L:List Nat)(F:Fr)(h:J):h6 P C N ord me none lf c L F h uU tf te=A L F h:=by
 subst ae
 have:(λL F h=>h6 P C N ord me none lf b L F h uU tf te)=B:=funext λL=>funext λF=>funext λh=>ag L F h
 show h6 P C N ord me none lf a L F h (λL F h=>h6 P C N ord me none lf b L F h uU tf te) tf te=A L F h;rw[this];exact bV L F h
theorem aF8{id:Nat}(ae:c= .block id a){A:gY}(bV:∀L F h,h6 P C N ord me none lf a L F h uU tf (alM id uU te)=A L F h)(L:List Nat)(F:Fr)(h:J):h6 P C N ord me none lf c L F h uU tf te=A L F h:=by
 subst ae;exact bV L F h
theorem aF9{g:Operand}{ps:Array Tmp}{us es:List Nat}{rb:Bool}(ae:c= .rangeFunc g ps a b)(hu:iS ord N b=us)(aQ:uz b=rb)(he:tv b=es)(L:List Nat)(F:Fr)(h:J):
 h6 P C N ord me none lf c L F h uU tf te=vN h.aO F g λy=>rA C ord me none N ps a b y L (jl (us.map λt=>(t,F t))) h (λL h=>uU L F h) (bif rb then(λL h=>tf L F h) else ri) (es.map λi=>(i,λL h=>te i L F h)):=by
 subst ae hu aQ he;rfl
end
theorem aog{x:b1 P}{args:List U}{h:J}{K:gY}{R:ab}(ai:MH P x.fn=K)(e:aa8 x C lf [] [] (A1 args) h K K (λ_ _ _ _=>none)=R):Af P x C lf args h=zE R:=by
 subst ai;unfold Af;exact congrArg zE e
theorem aGa{x:b1 P}{pa pc:List Nat}(bV:rp (b7 x pa)=true)(ag:rp (b7 x pc)=true){A B:hp}{k:Nat}{F:Fr}{ps:Array Tmp}{args:List U}{h:J}(aJ:Nat.beq args.length ps.size=true)
 (Ow:∀F h,ar x C lf pc F h (λ_ h=>lX h k .ready .none true) (λ_ h=>lX h k .done .ret false) (λi _ h=>lX h k .done (.ex i) false)=B F h)
 (Ou:∀F h,ar x C lf pa F h (λF h=>ux h k λh=>B F h) (λ_ _=>none) (λ_ _ _=>none)=A F h):
 Cf P C x.ord x.f k x.fn.ntmps lf F ps (b7 x pa) (b7 x pc) args h=A (E0 x.fn.ntmps F ps.toList args) h:=by
 unfold Cf;rw[aJ,cond_true,OL bV]
 have:(λaL h1=>ux h1 k λh2=>h6 P C x.fn.ntmps x.ord x.f (some k) lf (b7 x pc) [] aL h2 (λ_ _ h3=>lX h3 k .ready .none true) (λ_ _ h3=>lX h3 k .done .ret false) (λid _ _ h3=>lX h3 k .done (.ex id) false))=(λF h=>ux h k λh=>B F h):=by
  funext aL h1
  congr 1
  funext h2
  exact(OL ag).trans (Ow aL h2)
 exact(congrArg (λK=>ar x C lf pa (E0 x.fn.ntmps F ps.toList args) h K (λ_ _=>none) (λ_ _ _=>none)) this).trans (Ou _ _)
end
structure cx (P:Program) where
 x:b1 P
 s:ad->Nat->List U->J->ab
 eq:∀C lf args h r,s C lf args h=some r->Nat.ble args.length x.fn.ntmps=true/\(uI P x C lf args h=some r\/Af P x C lf args h=some r)
def akD{P:Program}(x:b1 P)(s:ad->Nat->J->ab)(e:∀C lf h,uI P x C lf [] h=s C lf h)(aR:Nat.ble 0 x.fn.ntmps=true):cx P:=⟨x,λC lf args h=>match args with
 | []=>s C lf h
 |_=>none,λC lf args h r he=>by
 rcases args with _|⟨_,_⟩<;>first|(cases he;done)|exact⟨aR,.inl ((e ..).trans he)⟩⟩
def hZ{P:Program}(x:b1 P)(s:ad->Nat->U->J->ab)(e:∀C lf ah h,uI P x C lf [ah] h=s C lf ah h)(aR:Nat.ble 1 x.fn.ntmps=true):cx P:=⟨x,λC lf args h=>match args with
 | [ah]=>s C lf ah h
 |_=>none,λC lf args h r he=>by
 rcases args with _|⟨ah,_|⟨_,_⟩⟩<;>first|(cases he;done)|exact⟨aR,.inl ((e ..).trans he)⟩⟩
def hr{P:Program}(x:b1 P)(s:ad->Nat->U->U->J->ab)(e:∀C lf ah aj h,uI P x C lf [ah,aj] h=s C lf ah aj h)(aR:Nat.ble 2 x.fn.ntmps=true):cx P:=⟨x,λC lf args h=>match args with
 | [ah,aj]=>s C lf ah aj h
 |_=>none,λC lf args h r he=>by
 rcases args with _|⟨ah,_|⟨aj,_|⟨_,_⟩⟩⟩<;>first|(cases he;done)|exact⟨aR,.inl ((e ..).trans he)⟩⟩
def nX{P:Program}(x:b1 P)(s:ad->Nat->U->U->U->J->ab)(e:∀C lf ah aj aC h,uI P x C lf [ah,aj,aC] h=s C lf ah aj aC h)(aR:Nat.ble 3 x.fn.ntmps=true):cx P:=⟨x,λC lf args h=>match args with
 | [ah,aj,aC]=>s C lf ah aj aC h
 |_=>none,λC lf args h r he=>by
 rcases args with _|⟨ah,_|⟨aj,_|⟨aC,_|⟨_,_⟩⟩⟩⟩<;>first|(cases he;done)|exact⟨aR,.inl ((e ..).trans he)⟩⟩
def rT{P:Program}(x:b1 P)(s:ad->Nat->U->U->U->U->J->ab)(e:∀C lf ah aj aC a8 h,uI P x C lf [ah,aj,aC,a8] h=s C lf ah aj aC a8 h)(aR:Nat.ble 4 x.fn.ntmps=true):cx P:=⟨x,λC lf args h=>match args with
 | [ah,aj,aC,a8]=>s C lf ah aj aC a8 h
 |_=>none,λC lf args h r he=>by
 rcases args with _|⟨ah,_|⟨aj,_|⟨aC,_|⟨a8,_|⟨_,_⟩⟩⟩⟩⟩<;>first|(cases he;done)|exact⟨aR,.inl ((e ..).trans he)⟩⟩
def akE{P:Program}(x:b1 P)(s:ad->Nat->U->J->ab)(e:∀C lf ah h,Af P x C lf [ah] h=s C lf ah h)(aR:Nat.ble 1 x.fn.ntmps=true):cx P:=⟨x,λC lf args h=>match args with
 | [ah]=>s C lf ah h
 |_=>none,λC lf args h r he=>by
 rcases args with _|⟨ah,_|⟨_,_⟩⟩<;>first|(cases he;done)|exact⟨aR,.inr ((e ..).trans he)⟩⟩
end
end Go.Xe
namespace Go.Proofs.YtomialandfplkaaDoor.Eva
open Go.Xe
noncomputable section
set_option linter.unusedVariables false
noncomputable abbrev ao:Program:=Tryd.prog
abbrev I(n:Int):U:= .int .i64 n
noncomputable def dk{P:Program}(f:FuncId)(fn:Func)(au:P.funcs[f]?=some fn)(ok:(fn.body.isSome&&!(fn.name=="runtime.NumGoroutine")&&Nat.ble fn.ntmps 60000&&ix P (λ_=> .text) false (fn.body.getD .skip))=true):b1 P:=
 ⟨f,fn,λ_=> .text,au,by simp only[Bool.and_eq_true] at ok;exact ok.1.1.1,by simp only[Bool.and_eq_true] at ok;simpa using ok.1.1.2,by simp only[Bool.and_eq_true] at ok;exact ok.1.2,by simp only[Bool.and_eq_true] at ok;exact ok.2⟩
abbrev ed(n:cu):hp:=λF h=>n h
abbrev aM(n:aw)(ah:Nat):hp:=λF h=>n (F ah) h
abbrev a7(n:aS)(ah aj:Nat):hp:=λF h=>n (F ah) (F aj) h
abbrev bG(n:bK)(ah aj aC:Nat):hp:=λF h=>n (F ah) (F aj) (F aC) h
abbrev bj(n:bo)(ah aj aC a8:Nat):hp:=λF h=>n (F ah) (F aj) (F aC) (F a8) h
abbrev cR(n:cC)(ah aj aC a8 cF:Nat):hp:=λF h=>n (F ah) (F aj) (F aC) (F a8) (F cF) h
abbrev dD(n:dp)(ah aj aC a8 cF dK:Nat):hp:=λF h=>n (F ah) (F aj) (F aC) (F a8) (F cF) (F dK) h
abbrev ln(n:hY)(ah aj aC a8 cF dK dH:Nat):hp:=λF h=>n (F ah) (F aj) (F aC) (F a8) (F cF) (F dK) (F dH) h
abbrev Ax(n:rQ)(ah aj aC a8 cF dK dH fE:Nat):hp:=λF h=>n (F ah) (F aj) (F aC) (F a8) (F cF) (F dK) (F dH) (F fE) h
abbrev Nx(n:GL)(ah aj aC a8 cF dK dH fE h4:Nat):hp:=λF h=>n (F ah) (F aj) (F aC) (F a8) (F cF) (F dK) (F dH) (F fE) (F h4) h
abbrev Nv(n:GK)(ah aj aC a8 cF dK dH fE h4 tg NM:Nat):hp:=λF h=>n (F ah) (F aj) (F aC) (F a8) (F cF) (F dK) (F dH) (F fE) (F h4) (F tg) (F NM) h
abbrev Nw(n:M3)(ah aj aC a8 cF dK dH fE h4 tg NM akJ:Nat):hp:=λF h=>n (F ah) (F aj) (F aC) (F a8) (F cF) (F dK) (F dH) (F fE) (F h4) (F tg) (F NM) (F akJ) h
abbrev nq:=U->ab
abbrev rP:=U->J->ab
noncomputable def bD(n:Int):O:=some (.int .i64 n)
noncomputable def eK(i:Nat)(x:U)(h:J)(k:nq):ab:=ob (bZ i x) λc=>ob (bO c h) k
noncomputable def e9(i:Nat)(x:O)(k:nq):ab:=ob x λa=>ob (ev a) λb=>ob (bZ i b) k
noncomputable def dw(i:Nat)(x:O)(h:J)(k:nq):ab:=ob x λa=>ob (ev a) λb=>ob (bZ i b) λc=>ob (bO c h) k
noncomputable def aso(i:Nat)(x:O)(v:U)(h:J)(k:J->ab):ab:=ob x λa=>ob (ev a) λb=>ob (bZ i b) λc=>ob (st 1 c v h) k
noncomputable def cn(o:BinOp)(t:TypeId)(x y:U)(k:nq):ab:=ob (bin Tryd.prog o t x y) k
noncomputable def cB(o:BinOp)(t:TypeId)(x:O)(v:U)(k:nq):ab:=ob x λa=>ob (bin Tryd.prog o t a v) k
noncomputable def oC(o:BinOp)(t:TypeId)(x y:O)(k:nq):ab:=ob x λa=>ob y λb=>ob (bin Tryd.prog o t a b) k
noncomputable def eH(o:BinOp)(t:TypeId)(x y:U)(p q:ab):ab:=ob (bin Tryd.prog o t x y) λz=>gn z p q
noncomputable def hC(o:BinOp)(t:TypeId)(x:O)(v:U)(p q:ab):ab:=ob x λa=>ob (bin Tryd.prog o t a v) λz=>gn z p q
noncomputable def lb(o:BinOp)(t:TypeId)(x y:O)(p q:ab):ab:=ob x λa=>ob y λb=>ob (bin Tryd.prog o t a b) λz=>gn z p q
noncomputable def fM(y:U)(p q:ab):ab:=ob (ib .not y) λz=>gn z p q
noncomputable def k6(s:Nat)(v:U)(x:O)(k:nq):ab:=ob x λa=>ob (dQ s v a) k
noncomputable def J6(s i:Nat)(v:U)(x:O)(h:J)(k:nq):ab:=ob x λa=>ob (dQ s v a) λb=>ob (bZ i b) λc=>ob (bO c h) k
noncomputable def sG(s:Nat)(v:U)(x:O)(h:J)(k:nq):ab:=ob x λa=>ob (dQ s v a) λb=>ob (bO b h) k
noncomputable def nH(t:TypeId)(x:O)(k:nq):ab:=ob x λa=>ob (eG Tryd.prog t a) k
noncomputable def cy(y:U)(k:U->U->ab):ab:=ob (ext 0 y) λa=>ob (ext 1 y) λb=>k a b
noncomputable def b3(y:U)(e:O)(h:J)(k:rP):ab:=dL (cT true (some y) (ob e λa=>some (.ret a,h)) h) k
noncomputable def dI(y:U)(e:O)(h:J)(k:rP):ab:=dL (cT false (some y) (ob e λa=>some (.ret a,h)) h) k
noncomputable def jf(o:BinOp)(t:TypeId)(y:U)(x:O)(v:U)(h:J)(k:rP):ab:=b3 y x h λa h=>b3 y (bin Tryd.prog o t a v) h k
noncomputable def jg(o:BinOp)(t:TypeId)(y:U)(x:O)(v:U)(h:J)(k:rP):ab:=dI y x h λa h=>dI y (bin Tryd.prog o t a v) h k
noncomputable def u4(i:Nat)(y:U)(x:O)(h:J)(k:rP):ab:=b3 y x h λa h=>b3 y (ev a) h λb h=>b3 y (bZ i b) h λc h=>b3 y (bO c h) h k
noncomputable def adw(i:Nat)(y:U)(x:O)(h:J)(k:rP):ab:=dI y x h λa h=>dI y (ev a) h λb h=>dI y (bZ i b) h λc h=>dI y (bO c h) h k
noncomputable def hA(y z:U)(k:nq):ab:=ob (jH y z (.bool false)) k
noncomputable def mI(y z:U)(k:nq):ab:=ob (jH y (.bool true) z) k
noncomputable def qn(y z:U)(p q:ab):ab:=ob (jH y z (.bool false)) λc=>gn c p q
noncomputable def mN(y z:U)(p q:ab):ab:=ob (jH y (.bool true) z) λc=>gn c p q
noncomputable def ef(i:Nat)(a:U)(k:nq):ab:=ob (ev a) λb=>ob (bZ i b) k
noncomputable def um(i:Nat)(a:U)(h:J)(k:nq):ab:=ob (ev a) λb=>ob (bZ i b) λc=>ob (bO c h) k
noncomputable def vq(i:Nat)(a v:U)(h:J)(k:J->ab):ab:=ob (ev a) λb=>ob (bZ i b) λc=>ob (st 1 c v h) k
noncomputable def jX(t:TypeId)(a:U)(k:nq):ab:=ob (eG Tryd.prog t a) k
noncomputable def zH(o:BinOp)(t:TypeId)(v:U)(x:O)(k:nq):ab:=ob x λa=>ob (bin Tryd.prog o t v a) k
noncomputable def aiK(o:BinOp)(t:TypeId)(v:U)(x:O)(p q:ab):ab:=ob x λa=>ob (bin Tryd.prog o t v a) λz=>gn z p q
noncomputable def cJ(C:ad)(n:FuncId)(l:List U)(h:J)(k:rP):ab:=dL (C (.fn n) l h) k
noncomputable def aP(C:ad)(n:FuncId)(x:O)(h:J)(k:rP):ab:=ob x λa=>dL (C (.fn n) [a] h) k
noncomputable def a1(C:ad)(n:FuncId)(x y:O)(h:J)(k:rP):ab:=ob x λa=>ob y λb=>dL (C (.fn n) [a,b] h) k
noncomputable def cm(C:ad)(n:FuncId)(x y z:O)(h:J)(k:rP):ab:=ob x λa=>ob y λb=>ob z λc=>dL (C (.fn n) [a,b,c] h) k
noncomputable def cb(C:ad)(n:FuncId)(x y z u:O)(h:J)(k:rP):ab:=ob x λa=>ob y λb=>ob z λc=>ob u λd=>dL (C (.fn n) [a,b,c,d] h) k
end
noncomputable section
variable{C:ad}{lf:Nat}{ba a0 eA fz jU k3 q4 q5 q6 q7 q8 q9 q1 q2 q3:hp}{an:lj}
def abV:b1 ao:=dk 62 Tryd.f62 Tryd.func62 (by kernel_rfl)
noncomputable def Po(bC:O)(h:J):ab:=
 ob bC λa=>some (.ret a,h)
def Vk(C:ad)(lf:Nat)(r:aw)(x0 x1:O)(h:J):ab:=
 aP C 73 x0 h λa k=>jf .geq 3 a x1 (I 1) k λb k=>hA a b λa=>b3 a x1 k λb k=>u4 1 a x0 k λc k=>b3 a (eG ao 100 c) k λc k=>b3 a (bin ao .leq 3 b c) k λb k=>hA a b λa=>u4 1 a x0 k λb k=>jf .sub 3 a x1 (I 1) k λc k=>b3 a (dQ 308 b c) k λb k=>b3 a (bZ 0 b) k λb k=>b3 a (bO b k) k λb k=>hA a b λa=>r (some a) k
theorem axv{r:aw}:∀F h,ar abV C lf [] F h ba (aM r 4) an=a7 (Vk C lf r) 0 1 F h:=by
 intro F h;kernel_rfl
def IJ(C:ad)(lf:Nat)(ah aj:U)(h:J):ab:=Vk C lf Po (some ah) (some aj) h
def P7:cx ao:=hr abV IJ (λC lf ah aj h=>cS (K:=(aM Po 4)) (by kernel_rfl) (Eq.trans (axv _ h) (by kernel_rfl))) (by kernel_rfl)
def abB:b1 ao:=dk 36 Tryd.f36 Tryd.func36 (by kernel_rfl)
noncomputable def O4(bC eD:O)(h:J):ab:=
 ob bC λa=>ob eD λb=>some (.ret (.bm [a,b]),h)
def Ug(C:ad)(lf:Nat)(r:aS)(x0 x1:O)(h:J):ab:=
 aP C 16 x0 h λa k=>cy a λa b=>eH .neq 26 b (I 0) (r (some (.val (.pointer none))) (bD 22) k) (cB .lss 3 x1 (I 1) λb=>jg .gtr 3 b x1 (I 4096) k λc k=>mN b c (r (some (.val (.pointer none))) (bD 22) k) (ob x1 λb=>b2 (nN ao 100 b b k) λb k=>ob (gM ao 102 [0,1] [a,b]) λa=>b2 (pB 102 a k) λa=>r (some a) (bD 0)))
theorem avI{r:aS}:∀F h,ar abB C lf [] F h ba (a7 r 4 5) an=a7 (Ug C lf r) 0 1 F h:=by
 intro F h;kernel_rfl
def Ds(C:ad)(lf:Nat)(ah aj:U)(h:J):ab:=Ug C lf O4 (some ah) (some aj) h
def P3:cx ao:=hr abB Ds (λC lf ah aj h=>cS (K:=(a7 O4 4 5)) (by kernel_rfl) (Eq.trans (avI _ h) (by kernel_rfl))) (by kernel_rfl)
def nw:b1 ao:=dk 37 Tryd.f37 Tryd.func37 (by kernel_rfl)
noncomputable def tw(x8 x9:O)(h:J):ab:=
 ob x8 λa=>ob x9 λb=>some (.ret (.bm [a,b]),h)
def KF(C:ad)(lf:Nat)(r:aS)(h:J):ab:=
 r (bD 0) (bD 28) h
theorem avJ{r:aS}:∀F h,ar nw C lf [1,1,1,1,1] F h ba (a7 r 8 9) an=ed (KF C lf r) F h:=by
 intro F h;kernel_rfl
def B0(C:ad)(lf:Nat)(n:dp)(r:aS)(av:cu)(x0 x1 x2 x3 xJ vI:O)(h:J):ab:=
 lb .lss 3 vI xJ (ob vI λa=>dw 1 x0 h λb=>ob (dQ 308 b a) λb=>eK 0 b h λb=>fM b (dw 1 x0 h λb=>cn .add 3 a (I 1) λc=>ob x2 λd=>ob x3 λg=>ob x1 λi=>dw 2 x0 h λj=>dw 2 x0 h λm=>dw 2 x0 h λo=>ob (gM ao 78 [0,2,3,6,7,8,9] [c,d,g,i,j,m,o]) λc=>ob (gM ao 125 [0,1] [.bool true,c]) λc=>ob (dQ 308 b a) λb=>ob (st 308 b c h) λk=>cn .add 3 a (I 1) λa=>r (some a) (bD 0) k) (cB .add 3 vI (I 1) λa=>n x0 x1 x2 x3 xJ (some a) h)) (av h)
theorem avK{n:dp}{r:aS}{av:cu}:∀F h,ar nw C lf [1,1,1,1,0,1,0,0] F h (dD n 0 1 2 3 44 45) (a7 r 8 9) (bI 0 (ed av) an)=dD (B0 C lf n r av) 0 1 2 3 44 45 F h:=by
 intro F h;kernel_rfl
def sv(C:ad)(lf:Nat)(r:aS)(av:cu)(k:O×O×O×O×O×O->J->ab)(s:O×O×O×O×O×O)(h:J):ab:=
 B0 C lf (λa b c d g i=>k (a,b,c,d,g,i)) r av s.1 s.2.1 s.2.2.1 s.2.2.2.1 s.2.2.2.2.1 s.2.2.2.2.2 h
def Uh(C:ad)(lf:Nat)(n:dp)(x0 x1 x2 x3:O)(h:J):ab:=
 dw 1 x0 h λa=>jX 100 a λa=>n x0 x1 x2 x3 (some a) (bD 0) h
theorem avL{n:dp}:∀F h,ar nw C lf [1,1,1,1,0,0] F h (dD n 0 1 2 3 44 45) a0 an=bj (Uh C lf n) 0 1 2 3 F h:=by
 intro F h;kernel_rfl
def Ui(C:ad)(lf:Nat)(n:cu)(r:aS)(x0 x1 x2 x3:O)(h:J):ab:=
 Uh C lf (λa b c d g i=>bk (sv C lf r n) lf (a,b,c,d,g,i)) x0 x1 x2 x3 h
theorem avM{n:cu}{r:aS}:∀F h,ar nw C lf [1,1,1,1,0] F h (ed n) (a7 r 8 9) an=bj (Ui C lf n r) 0 1 2 3 F h:=bg (b:=b7 nw [1,1,1,1,0,1]) (by kernel_rfl) (fY (id:=0) (a:=b7 nw [1,1,1,1,0,1,0]) (by kernel_rfl) (gJ (g:=λF=>(F 0,F 1,F 2,F 3,F 44,F 45)) (body:=sv C lf r n) (by kernel_rfl) (λk=>(avK (n:=λx0 x1 x2 x3 xJ vI h=>k (x0,x1,x2,x3,xJ,vI) h))))) (avL (n:=λx0 x1 x2 x3 xJ vI h=>bk (sv C lf r n) lf (x0,x1,x2,x3,xJ,vI) h))
def B1(C:ad)(lf:Nat)(r:aS)(x0 x1 x2 x3:O)(h:J):ab:=
 Ui C lf (KF C lf r) r x0 x1 x2 x3 h
theorem avN{r:aS}:∀F h,ar nw C lf [1,1,1,1] F h ba (a7 r 8 9) an=bj (B1 C lf r) 0 1 2 3 F h:=bg (by kernel_rfl) avJ avM
def Uj(C:ad)(lf:Nat)(n:bo)(r:aS)(x0 x1 x2 x3 aU:O)(h:J):ab:=
 cB .andNot 68 x1 (I 65535) λa=>cn .neq 68 a (I 0) λa=>jg .neq 68 a aU (I 32768) h λb k=>dI a (some b) k λb k=>jf .neq 68 b aU (I 16384) k λc k=>dI a (jH b c (.bool false)) k λb k=>dI a (some b) k λb k=>jf .neq 68 b aU (I 40960) k λc k=>dI a (jH b c (.bool false)) k λb k=>mI a b λa=>jg .lss 3 a x2 (I 0) k λb k=>mI a b λa=>jg .lss 3 a x3 (I 0) k λb k=>mN a b (r (bD 0) (bD 22) k) (n x0 x1 x2 x3 k)
theorem avO{n:bo}{r:aS}:∀F h,ar nw C lf [1,1,1,0] F h (bj n 0 1 2 3) (a7 r 8 9) an=cR (Uj C lf n r) 0 1 2 3 10 F h:=by
 intro F h;kernel_rfl
def Uk(C:ad)(lf:Nat)(r:aS)(x0 x1 x2 x3 aU:O)(h:J):ab:=
 Uj C lf (B1 C lf r) r x0 x1 x2 x3 aU h
theorem avP{r:aS}:∀F h,ar nw C lf [1,1,1] F h ba (a7 r 8 9) an=cR (Uk C lf r) 0 1 2 3 10 F h:=bg (by kernel_rfl) avN avO
def Ul(C:ad)(lf:Nat)(n:cC)(x0 x1 x2 x3:O)(h:J):ab:=
 cB .and 68 x1 (I 61440) λa=>n x0 x1 x2 x3 (some a) h
theorem avQ{n:cC}:∀F h,ar nw C lf [1,1,0] F h (cR n 0 1 2 3 10) a0 an=bj (Ul C lf n) 0 1 2 3 F h:=by
 intro F h;kernel_rfl
def Um(C:ad)(lf:Nat)(r:aS)(x0 x1 x2 x3:O)(h:J):ab:=
 Ul C lf (Uk C lf r) x0 x1 x2 x3 h
theorem avR{r:aS}:∀F h,ar nw C lf [1,1] F h ba (a7 r 8 9) an=bj (Um C lf r) 0 1 2 3 F h:=bg (by kernel_rfl) avP avQ
def Un(C:ad)(lf:Nat)(n:bo)(r:aS)(x0 x1 x2 x3:O)(h:J):ab:=
 aP C 73 x0 h λa k=>fM a (r (bD 0) (bD 14) k) (n x0 x1 x2 x3 k)
theorem avS{n:bo}{r:aS}:∀F h,ar nw C lf [1,0] F h (bj n 0 1 2 3) (a7 r 8 9) an=bj (Un C lf n r) 0 1 2 3 F h:=by
 intro F h;kernel_rfl
def Uo(C:ad)(lf:Nat)(r:aS)(x0 x1 x2 x3:O)(h:J):ab:=
 Un C lf (Um C lf r) r x0 x1 x2 x3 h
theorem avT{r:aS}:∀F h,ar nw C lf [1] F h ba (a7 r 8 9) an=bj (Uo C lf r) 0 1 2 3 F h:=bg (by kernel_rfl) avR avS
noncomputable def Up(C:ad)(lf:Nat)(n:bo)(x0 x1 x2 x3:O)(h:J):ab:=
 n x0 x1 x2 x3 h
theorem avU{n:bo}:∀F h,ar nw C lf [0] F h (bj n 0 1 2 3) a0 an=bj (Up C lf n) 0 1 2 3 F h:=by
 intro F h;kernel_rfl
def Uq(C:ad)(lf:Nat)(r:aS)(x0 x1 x2 x3:O)(h:J):ab:=
 Up C lf (Uo C lf r) x0 x1 x2 x3 h
theorem avV{r:aS}:∀F h,ar nw C lf [] F h ba (a7 r 8 9) an=bj (Uq C lf r) 0 1 2 3 F h:=bg (by kernel_rfl) avT avU
def wG(C:ad)(lf:Nat)(ah aj aC a8:U)(h:J):ab:=Uq C lf tw (some ah) (some aj) (some aC) (some a8) h
def P4:cx ao:=rT nw wG (λC lf ah aj aC a8 h=>cS (K:=(a7 tw 8 9)) (by kernel_rfl) (Eq.trans (avV _ h) (by kernel_rfl))) (by kernel_rfl)
def ab3:b1 ao:=dk 74 Tryd.f74 Tryd.func74 (by kernel_rfl)
noncomputable def Pw(bC eD:O)(h:J):ab:=
 ob bC λa=>ob eD λb=>some (.ret (.bm [a,b]),h)
def VG(C:ad)(lf:Nat)(r:aS)(x0 x1:O)(h:J):ab:=
 aP C 73 x0 h λa k=>fM a (r (some (.val (.pointer none))) (bD 14) k) (a1 C 62 x0 x1 k λa k=>fM a (r (some (.val (.pointer none))) (bD 2) k) (dw 1 x0 k λa=>cB .sub 3 x1 (I 1) λb=>ob (dQ 308 a b) λa=>r (some a) (bD 0) k))
theorem axV{r:aS}:∀F h,ar ab3 C lf [] F h ba (a7 r 4 5) an=a7 (VG C lf r) 0 1 F h:=by
 intro F h;kernel_rfl
def IT(C:ad)(lf:Nat)(ah aj:U)(h:J):ab:=VG C lf Pw (some ah) (some aj) h
def Qb:cx ao:=hr ab3 IT (λC lf ah aj h=>cS (K:=(a7 Pw 4 5)) (by kernel_rfl) (Eq.trans (axV _ h) (by kernel_rfl))) (by kernel_rfl)
def kz:b1 ao:=dk 79 Tryd.f79 Tryd.func79 (by kernel_rfl)
noncomputable def H8(x2:O)(h:J):ab:=
 ob x2 λa=>some (.ret a,h)
noncomputable def Ld(C:ad)(lf:Nat)(r:aw)(x3:O)(h:J):ab:=
 ob x3 λa=>ob (bO a h) λa=>r (some a) h
theorem ayu{r:aw}:∀F h,ar kz C lf [1,1,1,1,1,1,1,1] F h ba (aM r 2) an=aM (Ld C lf r) 3 F h:=by
 intro F h;kernel_rfl
def FB(C:ad)(lf:Nat)(n:bo)(av:aw)(x3 bC nk vH:O)(h:J):ab:=
 hC .lss 3 vH (I 16) (ob nk λa=>ob vH λb=>ob (z1 ao 123 a b) λa=>b2 (j0 ao 122 h) λb k=>ob (st 17 b a k) λk=>ob bC λa=>eK 0 b k λc=>b2 (gp ao 33 1 [0] [c] k) λc k=>fv false C a [c] k λa k=>ob bC λa=>ob (bZ 1 b) λb=>ob (gl ao 120 b none none) λb=>fv false C a [b] k λa k=>cB .add 3 vH (I 1) λa=>n x3 bC nk (some a) k) (av x3 h)
theorem ayo{n:bo}{av:aw}:∀F h,ar kz C lf [1,1,1,1,1,1,1,0,1,0,0] F h (bj n 3 4 39 40) a0 (bI 0 (aM av 3) an)=bj (FB C lf n av) 3 4 39 40 F h:=by
 intro F h;kernel_rfl
def BM(C:ad)(lf:Nat)(av:aw)(k:O×O×O×O->J->ab)(s:O×O×O×O)(h:J):ab:=
 FB C lf (λa b c d=>k (a,b,c,d)) av s.1 s.2.1 s.2.2.1 s.2.2.2 h
def VY(C:ad)(lf:Nat)(n:bo)(x0 x3 bC:O)(h:J):ab:=
 e9 36 x0 λa=>ob (eB 272 a h) λa=>n x3 bC (some a) (bD 0) h
theorem ayp{n:bo}:∀F h,ar kz C lf [1,1,1,1,1,1,1,0,0] F h (bj n 3 4 39 40) a0 an=bG (VY C lf n) 0 3 4 F h:=by
 intro F h;kernel_rfl
def VZ(C:ad)(lf:Nat)(n:aw)(x0 x3 bC:O)(h:J):ab:=
 VY C lf (λa b c d=>bk (BM C lf n) lf (a,b,c,d)) x0 x3 bC h
theorem ayq{n:aw}:∀F h,ar kz C lf [1,1,1,1,1,1,1,0] F h (aM n 3) a0 an=bG (VZ C lf n) 0 3 4 F h:=bg (b:=b7 kz [1,1,1,1,1,1,1,0,1]) (by kernel_rfl) (fY (id:=0) (a:=b7 kz [1,1,1,1,1,1,1,0,1,0]) (by kernel_rfl) (gJ (g:=λF=>(F 3,F 4,F 39,F 40)) (body:=BM C lf n) (by kernel_rfl) (λk=>(ayo (n:=λx3 bC nk vH h=>k (x3,bC,nk,vH) h))))) (ayp (n:=λx3 bC nk vH h=>bk (BM C lf n) lf (x3,bC,nk,vH) h))
def V0(C:ad)(lf:Nat)(r:aw)(x0 x3 bC:O)(h:J):ab:=
 VZ C lf (Ld C lf r) x0 x3 bC h
theorem ayr{r:aw}:∀F h,ar kz C lf [1,1,1,1,1,1,1] F h ba (aM r 2) an=bG (V0 C lf r) 0 3 4 F h:=bg (by kernel_rfl) ayu ayq
def V1(C:ad)(lf:Nat)(n:bK)(x0 x3 bC:O)(h:J):ab:=
 ob bC λa=>dw 35 x0 h λb=>b2 (gp ao 33 1 [0] [b] h) λb k=>fv false C a [b] k λa=>n x0 x3 bC
theorem ays{n:bK}:∀F h,ar kz C lf [1,1,1,1,1,1,0] F h (bG n 0 3 4) a0 an=bG (V1 C lf n) 0 3 4 F h:=by
 intro F h;kernel_rfl
def V2(C:ad)(lf:Nat)(r:aw)(x0 x3 bC:O)(h:J):ab:=
 V1 C lf (V0 C lf r) x0 x3 bC h
theorem ayt{r:aw}:∀F h,ar kz C lf [1,1,1,1,1,1] F h ba (aM r 2) an=bG (V2 C lf r) 0 3 4 F h:=bg (by kernel_rfl) ayr ays
def V3(C:ad)(lf:Nat)(n:bK)(x0 x3 bC:O)(h:J):ab:=
 ob bC λa=>e9 18 x0 λb=>ob (bZ 1 b) λb=>ob (gl ao 120 b none none) λb=>fv false C a [b] h λa=>n x0 x3 bC
theorem ayv{n:bK}:∀F h,ar kz C lf [1,1,1,1,1,0] F h (bG n 0 3 4) a0 an=bG (V3 C lf n) 0 3 4 F h:=by
 intro F h;kernel_rfl
def V4(C:ad)(lf:Nat)(r:aw)(x0 x3 bC:O)(h:J):ab:=
 V3 C lf (V2 C lf r) x0 x3 bC h
theorem ayw{r:aw}:∀F h,ar kz C lf [1,1,1,1,1] F h ba (aM r 2) an=bG (V4 C lf r) 0 3 4 F h:=bg (by kernel_rfl) ayt ayv
def V5(C:ad)(lf:Nat)(n:bK)(x0 x3 bC:O)(h:J):ab:=
 ob bC λa=>e9 18 x0 λb=>eK 0 b h λb=>b2 (gp ao 33 1 [0] [b] h) λb k=>fv false C a [b] k λa=>n x0 x3 bC
theorem ayx{n:bK}:∀F h,ar kz C lf [1,1,1,1,0] F h (bG n 0 3 4) a0 an=bG (V5 C lf n) 0 3 4 F h:=by
 intro F h;kernel_rfl
def V6(C:ad)(lf:Nat)(r:aw)(x0 x3 bC:O)(h:J):ab:=
 V5 C lf (V4 C lf r) x0 x3 bC h
theorem ayy{r:aw}:∀F h,ar kz C lf [1,1,1,1] F h ba (aM r 2) an=bG (V6 C lf r) 0 3 4 F h:=bg (by kernel_rfl) ayw ayx
def V7(C:ad)(lf:Nat)(n:bK)(x0 x3 bC:O)(h:J):ab:=
 ob bC λa=>e9 12 x0 λb=>ob (gl ao 119 b none none) λb=>fv false C a [b] h λa=>n x0 x3 bC
theorem ayz{n:bK}:∀F h,ar kz C lf [1,1,1,0] F h (bG n 0 3 4) a0 an=bG (V7 C lf n) 0 3 4 F h:=by
 intro F h;kernel_rfl
def V8(C:ad)(lf:Nat)(r:aw)(x0 x3 bC:O)(h:J):ab:=
 V7 C lf (V6 C lf r) x0 x3 bC h
theorem ayA{r:aw}:∀F h,ar kz C lf [1,1,1] F h ba (aM r 2) an=bG (V8 C lf r) 0 3 4 F h:=bg (by kernel_rfl) ayy ayz
noncomputable def V9(C:ad)(lf:Nat)(n:bK)(x0 x3:O)(h:J):ab:=
 ob x3 λa=>n x0 x3 (some (.fn (.func 93) [] [a])) h
theorem ayB{n:bK}:∀F h,ar kz C lf [1,1,0] F h (bG n 0 3 4) a0 an=a7 (V9 C lf n) 0 3 F h:=by
 intro F h;kernel_rfl
def Wa(C:ad)(lf:Nat)(r:aw)(x0 x3:O)(h:J):ab:=
 V9 C lf (V8 C lf r) x0 x3 h
theorem ayC{r:aw}:∀F h,ar kz C lf [1,1] F h ba (aM r 2) an=a7 (Wa C lf r) 0 3 F h:=bg (by kernel_rfl) ayA ayB
noncomputable def Wb(C:ad)(lf:Nat)(n:aS)(x0:O)(h:J):ab:=
 b2 (j0 ao 33 h) λa=>n x0 (some a)
theorem ayD{n:aS}:∀F h,ar kz C lf [1,0] F h (a7 n 0 3) a0 an=aM (Wb C lf n) 0 F h:=by
 intro F h;kernel_rfl
def Wc(C:ad)(lf:Nat)(r:aw)(x0:O)(h:J):ab:=
 Wb C lf (Wa C lf r) x0 h
theorem ayE{r:aw}:∀F h,ar kz C lf [1] F h ba (aM r 2) an=aM (Wc C lf r) 0 F h:=bg (by kernel_rfl) ayC ayD
noncomputable def Wd(C:ad)(lf:Nat)(n:aw)(x0:O)(h:J):ab:=
 n x0 h
theorem ayF{n:aw}:∀F h,ar kz C lf [0] F h (aM n 0) a0 an=aM (Wd C lf n) 0 F h:=by
 intro F h;kernel_rfl
def We(C:ad)(lf:Nat)(r:aw)(x0:O)(h:J):ab:=
 Wd C lf (Wc C lf r) x0 h
theorem ayG{r:aw}:∀F h,ar kz C lf [] F h ba (aM r 2) an=aM (We C lf r) 0 F h:=bg (by kernel_rfl) ayE ayF
def IX(C:ad)(lf:Nat)(ah:U)(h:J):ab:=We C lf H8 (some ah) h
def ac7:cx ao:=hZ kz IX (λC lf ah h=>cS (K:=(aM H8 2)) (by kernel_rfl) (Eq.trans (ayG _ h) (by kernel_rfl))) (by kernel_rfl)
def ab2:b1 ao:=dk 73 Tryd.f73 Tryd.func73 (by kernel_rfl)
noncomputable def Pv(x2:O)(h:J):ab:=
 ob x2 λa=>some (.ret a,h)
def VF(C:ad)(lf:Nat)(r:aw)(x0:O)(h:J):ab:=
 cB .neq 64 x0 (.val (.pointer none)) λa=>b3 a x0 h λb k=>b3 a (ev b) k λb k=>b3 a (bZ 0 b) k λb k=>jf .neq 25 a (bO b k) (.val (.pointer none)) k λb k=>hA a b λa=>r (some a) k
theorem axU{r:aw}:∀F h,ar ab2 C lf [] F h ba (aM r 2) an=aM (VF C lf r) 0 F h:=by
 intro F h;kernel_rfl
def IS(C:ad)(lf:Nat)(ah:U)(h:J):ab:=VF C lf Pv (some ah) h
def Qa:cx ao:=hZ ab2 IS (λC lf ah h=>cS (K:=(aM Pv 2)) (by kernel_rfl) (Eq.trans (axU _ h) (by kernel_rfl))) (by kernel_rfl)
def ab4:b1 ao:=dk 76 Tryd.f76 Tryd.func76 (by kernel_rfl)
noncomputable def Px(bC:O)(h:J):ab:=
 ob bC λa=>some (.ret a,h)
def VP(C:ad)(lf:Nat)(r:aw)(x0 x1:O)(h:J):ab:=
 hC .lss 3 x1 (I 6) (ob x0 λa=>ob x1 λb=>ef 12 a λa=>ob (eu 6 1 a b) λa=>r (some a) h) (hC .lss 3 x1 (I 22) (ob x0 λa=>cB .sub 3 x1 (I 6) λb=>ef 18 a λa=>ob (bZ 1 a) λa=>ob (eu 16 1 a b) λa=>r (some a) h) (cB .sub 3 x1 (I 22) λa=>ob x0 λb=>cn .quo 3 a (I 16) λc=>cn .rem 3 a (I 16) λa=>ef 36 b λb=>ob (eu 16 17 b c) λb=>ob (bZ 1 b) λb=>ob (eu 16 1 b a) λa=>r (some a) h))
theorem ayb{r:aw}:∀F h,ar ab4 C lf [] F h ba (aM r 4) an=a7 (VP C lf r) 0 1 F h:=by
 intro F h;kernel_rfl
def IU(C:ad)(lf:Nat)(ah aj:U)(h:J):ab:=VP C lf Px (some ah) (some aj) h
def Qd:cx ao:=hr ab4 IU (λC lf ah aj h=>cS (K:=(aM Px 4)) (by kernel_rfl) (Eq.trans (ayb _ h) (by kernel_rfl))) (by kernel_rfl)
def ab5:b1 ao:=dk 77 Tryd.f77 Tryd.func77 (by kernel_rfl)
noncomputable def Py(h:J):ab:=
 some (.ret (.bm []),h)
def VQ(C:ad)(lf:Nat)(n:cu)(x0 x1:O)(h:J):ab:=
 ob x1 λa=>ob x1 λb=>dw 2 x0 h λc=>dw 2 x0 h λd=>ef 1 a λa=>ob (bZ 8 a) λa=>ob (st 1 a c h) λk=>ef 1 b λa=>ob (bZ 9 a) λa=>ob (st 1 a d k) n
theorem ayc{n:cu}:∀F h,ar ab5 C lf [] F h (ed n) a0 an=a7 (VQ C lf n) 0 1 F h:=by
 intro F h;kernel_rfl
def IV(C:ad)(lf:Nat)(ah aj:U)(h:J):ab:=VQ C lf Py (some ah) (some aj) h
def Qe:cx ao:=hr ab5 IV (λC lf ah aj h=>cS (K:=(ed Py)) (by kernel_rfl) (Eq.trans (ayc _ h) (by kernel_rfl))) (by kernel_rfl)
def abD:b1 ao:=dk 42 Tryd.f42 Tryd.func42 (by kernel_rfl)
noncomputable def O6(bC eD:O)(h:J):ab:=
 ob bC λa=>ob (eB 10 a h) λa=>ob eD λb=>some (.ret (.bm [a,b]),h)
def UE(C:ad)(lf:Nat)(r:aS)(x0 x1:O)(h:J):ab:=
 b2 (j0 ao 78 h) λa k=>a1 C 74 x0 x1 k λb k=>cy b λb c=>eH .neq 26 c (I 0) (ob (gM ao 78 [] []) λb=>ob (st 10 a b k) (r (some a) (some c))) (ef 1 b λc=>ob (eB 10 c k) λc=>b2 (j0 ao 78 k) λd k=>ob (st 10 d c k) λk=>cJ C 79 [b] k λb k=>jX 33 b λb=>ob (bZ 5 d) λc=>ob (st 1 c b k) λk=>ob (eB 10 d k) λb=>ob (st 10 a b k) (r (some a) (bD 0)))
theorem awG{r:aS}:∀F h,ar abD C lf [] F h ba (a7 r 4 5) an=a7 (UE C lf r) 0 1 F h:=by
 intro F h;kernel_rfl
def Iy(C:ad)(lf:Nat)(ah aj:U)(h:J):ab:=UE C lf O6 (some ah) (some aj) h
def acG:cx ao:=hr abD Iy (λC lf ah aj h=>cS (K:=(a7 O6 4 5)) (by kernel_rfl) (Eq.trans (awG _ h) (by kernel_rfl))) (by kernel_rfl)
def abS:b1 ao:=dk 59 Tryd.f59 Tryd.func59 (by kernel_rfl)
noncomputable def Pl(aG:O)(h:J):ab:=
 ob aG λa=>some (.ret a,h)
def Vh(C:ad)(lf:Nat)(r:aw)(x0 x1 x2:O)(h:J):ab:=
 a1 C 74 x0 x1 h λa k=>cy a λa b=>eH .neq 26 b (I 0) (r (some b) k) (ob x2 λb=>ef 1 a λc=>eK 1 c k λc=>ob (ib .neg c) λc=>eH .lss 3 b c (r (bD 22) k) (ob x2 λb=>ef 1 a λc=>eK 1 c k λc=>cn .sub 3 (I 16) c λc=>eH .gtr 3 b c (r (bD 31) k) (ef 1 a λb=>eK 1 b k λb=>zH .add 3 b x2 λb=>ef 1 a λc=>ob (bZ 1 c) λc=>ob (st 1 c b k) λk=>dw 2 x0 k λb=>ef 1 a λc=>ob (bZ 9 c) λc=>ob (st 1 c b k) λk=>ob x0 λb=>cJ C 89 [b,a] k λa=>r (bD 0))))
theorem axs{r:aw}:∀F h,ar abS C lf [] F h ba (aM r 6) an=bG (Vh C lf r) 0 1 2 F h:=by
 intro F h;kernel_rfl
def yF(C:ad)(lf:Nat)(ah aj aC:U)(h:J):ab:=Vh C lf Pl (some ah) (some aj) (some aC) h
def acX:cx ao:=nX abS yF (λC lf ah aj aC h=>cS (K:=(aM Pl 6)) (by kernel_rfl) (Eq.trans (axs _ h) (by kernel_rfl))) (by kernel_rfl)
def acb:b1 ao:=dk 89 Tryd.f89 Tryd.func89 (by kernel_rfl)
noncomputable def PE(h:J):ab:=
 some (.ret (.bm []),h)
def WU(C:ad)(lf:Nat)(n:cu)(x0 x1:O)(h:J):ab:=
 e9 1 x1 λa=>eK 1 a h λa=>cn .eql 3 a (I 0) λa=>b3 a x1 h λb k=>b3 a (ev b) k λb k=>b3 a (bZ 11 b) k λb k=>jf .eql 3 a (bO b k) (I 0) k λb k=>qn a b (ob x0 λa=>ob x1 λb=>cJ C 78 [a,b,I 0] k λa k=>ob x1 λa=>ob (gM ao 125 [] []) λb=>ob (ev a) λa=>ob (st 308 a b k) n) (n k)
theorem azT{n:cu}:∀F h,ar acb C lf [] F h (ed n) a0 an=a7 (WU C lf n) 0 1 F h:=by
 intro F h;kernel_rfl
def DD(C:ad)(lf:Nat)(ah aj:U)(h:J):ab:=WU C lf PE (some ah) (some aj) h
def adj:cx ao:=hr acb DD (λC lf ah aj h=>cS (K:=(ed PE)) (by kernel_rfl) (Eq.trans (azT _ h) (by kernel_rfl))) (by kernel_rfl)
def acd:b1 ao:=dk 91 Tryd.f91 Tryd.func91 (by kernel_rfl)
noncomputable def PG(h:J):ab:=
 some (.ret (.bm []),h)
def WX(C:ad)(lf:Nat)(n:cu)(x0 x1:O)(h:J):ab:=
 ob x1 λa=>ob (ev a) λa=>ob (bO a h) λa=>eH .gtr 3 a (I 0) (dw 0 x0 h λa=>ob x1 λb=>ob (ev b) λb=>ob (bO b h) λb=>cn .sub 3 b (I 1) λb=>cM (C (.fn 23) [a,b] h) λa k=>ob x1 λa=>ob (ev a) λa=>ob (st 1 a (I 0) k) n) (n h)
theorem azX{n:cu}:∀F h,ar acd C lf [] F h (ed n) a0 an=a7 (WX C lf n) 0 1 F h:=by
 intro F h;kernel_rfl
def DE(C:ad)(lf:Nat)(ah aj:U)(h:J):ab:=WX C lf PG (some ah) (some aj) h
def adl:cx ao:=hr acd DE (λC lf ah aj h=>cS (K:=(ed PG)) (by kernel_rfl) (Eq.trans (azX _ h) (by kernel_rfl))) (by kernel_rfl)
def ace:b1 ao:=dk 92 Tryd.f92 Tryd.func92 (by kernel_rfl)
noncomputable def PH(x2:O)(h:J):ab:=
 ob x2 λa=>some (.ret a,h)
def WY(C:ad)(lf:Nat)(r:aw)(x0:O)(h:J):ab:=
 ob x0 λa=>b2 (pB 122 a h) λa k=>ob (bZ 1 a) λa=>ob (eB 16 a k) λa=>ob (gM ao 120 [] []) λb=>cn .eql 120 a b λa=>r (some a) k
theorem azY{r:aw}:∀F h,ar ace C lf [] F h ba (aM r 2) an=aM (WY C lf r) 0 F h:=by
 intro F h;kernel_rfl
def I5(C:ad)(lf:Nat)(ah:U)(h:J):ab:=WY C lf PH (some ah) h
def adm:cx ao:=hZ ace I5 (λC lf ah h=>cS (K:=(aM PH 2)) (by kernel_rfl) (Eq.trans (azY _ h) (by kernel_rfl))) (by kernel_rfl)
end
noncomputable section
variable{C:ad}{lf:Nat}{ba a0 eA fz jU k3 q4 q5 q6 q7 q8 q9 q1 q2 q3:hp}{an:lj}
def abr:b1 ao:=dk 16 Tryd.f16 Tryd.func16 (by kernel_rfl)
noncomputable def OV(x2 x3:O)(h:J):ab:=
 ob x2 λa=>ob x3 λb=>some (.ret (.bm [a,b]),h)
def Tj(C:ad)(lf:Nat)(r:aS)(x0:O)(h:J):ab:=
 cB .lss 3 x0 (I 1) λa=>jg .gtr 3 a x0 (I 4096) h λb k=>mN a b (r (some (.val (.pointer none))) (bD 22) k) (ob x0 λa=>ob x0 λb=>b2 (nN ao 57 b b k) λb k=>ob (gM ao 59 [0,2] [a,b]) λa=>b2 (pB 59 a k) λa=>r (some a) (bD 0))
theorem aus{r:aS}:∀F h,ar abr C lf [] F h ba (a7 r 2 3) an=aM (Tj C lf r) 0 F h:=by
 intro F h;kernel_rfl
def Dn(C:ad)(lf:Nat)(ah:U)(h:J):ab:=Tj C lf OV (some ah) h
def PX:cx ao:=hZ abr Dn (λC lf ah h=>cS (K:=(a7 OV 2 3)) (by kernel_rfl) (Eq.trans (aus _ h) (by kernel_rfl))) (by kernel_rfl)
def abt:b1 ao:=dk 18 Tryd.f18 Tryd.func18 (by kernel_rfl)
noncomputable def OW(x8:O)(h:J):ab:=
 ob x8 λa=>some (.ret a,h)
def To(C:ad)(lf:Nat)(r:aw)(x0 x1 x2 x3:O)(h:J):ab:=
 aP C 63 x0 h λa k=>fM a (r (bD 14) k) (a1 C 33 x0 x1 k λa k=>ob (ib .not a) λa=>jg .lss 3 a x2 (I 0) k λb k=>mI a b λa=>jg .gtr 3 a x2 (I 64) k λb k=>mI a b λa=>dI a x3 k λb k=>dI a (eG ao 24 b) k λb k=>dI a x2 k λc k=>dI a (bin ao .sub 3 (I 64) c) k λc k=>dI a (bin ao .gtr 3 b c) k λb k=>mN a b (r (bD 22) k) (dw 65 x0 k λa=>k6 64 a x1 λa=>ob x2 λb=>ob (gl ao 110 a (some b) none) λa=>ob x3 λb=>b2 (eX ao .copy #[24,24] [a,b] k) λa=>r (bD 0)))
theorem auD{r:aw}:∀F h,ar abt C lf [] F h ba (aM r 8) an=bj (To C lf r) 0 1 2 3 F h:=by
 intro F h;kernel_rfl
def Dp(C:ad)(lf:Nat)(ah aj aC a8:U)(h:J):ab:=To C lf OW (some ah) (some aj) (some aC) (some a8) h
def PZ:cx ao:=rT abt Dp (λC lf ah aj aC a8 h=>cS (K:=(aM OW 8)) (by kernel_rfl) (Eq.trans (auD _ h) (by kernel_rfl))) (by kernel_rfl)
def abu:b1 ao:=dk 21 Tryd.f21 Tryd.func21 (by kernel_rfl)
noncomputable def OX(bC eD:O)(h:J):ab:=
 ob bC λa=>ob eD λb=>some (.ret (.bm [a,b]),h)
def TH(C:ad)(lf:Nat)(r:aS)(x0 x1:O)(h:J):ab:=
 aP C 63 x0 h λa k=>fM a (r (some (.val (.slice none 0 0))) (bD 14) k) (a1 C 33 x0 x1 k λa k=>fM a (r (some (.val (.slice none 0 0))) (bD 22) k) (dw 65 x0 k λa=>k6 64 a x1 λa=>ob (eB 64 a k) λa=>b2 (j0 ao 110 k) λb k=>ob (st 64 b a k) λk=>ob (gl ao 110 b none none) λa=>r (some a) (bD 0) k))
theorem au0{r:aS}:∀F h,ar abu C lf [] F h ba (a7 r 4 5) an=a7 (TH C lf r) 0 1 F h:=by
 intro F h;kernel_rfl
def Dq(C:ad)(lf:Nat)(ah aj:U)(h:J):ab:=TH C lf OX (some ah) (some aj) h
def P0:cx ao:=hr abu Dq (λC lf ah aj h=>cS (K:=(a7 OX 4 5)) (by kernel_rfl) (Eq.trans (au0 _ h) (by kernel_rfl))) (by kernel_rfl)
def abv:b1 ao:=dk 23 Tryd.f23 Tryd.func23 (by kernel_rfl)
noncomputable def OY(bC:O)(h:J):ab:=
 ob bC λa=>some (.ret a,h)
def TI(C:ad)(lf:Nat)(r:aw)(x0 x1:O)(h:J):ab:=
 aP C 63 x0 h λa k=>fM a (r (bD 14) k) (a1 C 33 x0 x1 k λa k=>fM a (r (bD 22) k) (ob x0 λa=>cB .quo 3 x1 (I 64) λb=>ef 1 a λc=>ob (eu 64 1 c b) λc=>ob (bO c k) λc=>cB .rem 3 x1 (I 64) λd=>cn .shl 55 (.int .u64 1) d λd=>cn .andNot 55 c d λc=>ef 1 a λa=>ob (eu 64 1 a b) λa=>ob (st 1 a c k) (r (bD 0))))
theorem au1{r:aw}:∀F h,ar abv C lf [] F h ba (aM r 4) an=a7 (TI C lf r) 0 1 F h:=by
 intro F h;kernel_rfl
def Dr(C:ad)(lf:Nat)(ah aj:U)(h:J):ab:=TI C lf OY (some ah) (some aj) h
def acw:cx ao:=hr abv Dr (λC lf ah aj h=>cS (K:=(aM OY 4)) (by kernel_rfl) (Eq.trans (au1 _ h) (by kernel_rfl))) (by kernel_rfl)
def qK:b1 ao:=dk 17 Tryd.f17 Tryd.func17 (by kernel_rfl)
noncomputable def AX(x2 x3:O)(h:J):ab:=
 ob x2 λa=>ob x3 λb=>some (.ret (.bm [a,b]),h)
def Ky(C:ad)(lf:Nat)(r:aS)(h:J):ab:=
 r (bD 0) (bD 28) h
theorem aut{r:aS}:∀F h,ar qK C lf [1,1,1] F h ba (a7 r 2 3) an=ed (Ky C lf r) F h:=by
 intro F h;kernel_rfl
def xh(C:ad)(lf:Nat)(n:aS)(r:aS)(av:cu)(x0 x9:O)(h:J):ab:=
 hC .lss 3 x9 (I 64) (ob x9 λa=>cn .mul 3 a (I 64) λb=>e9 1 x0 λc=>ob (eu 64 1 c a) λc=>ob (bO c h) λc=>ob (ib .xor c) λc=>cJ C 64 [c] h λc k=>cn .add 3 b c λb=>e9 1 x0 λc=>ob (eu 64 1 c a) λc=>ob (bO c k) λc=>cn .eql 55 c (.int .u64 18446744073709551615) λc=>dI c (some b) k λd k=>adw 0 c x0 k λg k=>dI c (bin ao .geq 3 d g) k λd k=>mN c d (cB .add 3 x9 (I 1) λa=>n x0 (some a) k) (ob x0 λc=>ef 1 c λd=>ob (eu 64 1 d a) λd=>ob (bO d k) λd=>cn .rem 3 b (I 64) λg=>cn .shl 55 (.int .u64 1) g λg=>cn .or 55 d g λd=>ef 1 c λc=>ob (eu 64 1 c a) λa=>ob (st 1 a d k) λk=>dw 65 x0 k λa=>ob (gM ao 110 [] []) λc=>ob (dQ 64 a b) λa=>ob (st 64 a c k) (r (some b) (bD 0)))) (av h)
theorem auu{n:aS}{r:aS}{av:cu}:∀F h,ar qK C lf [1,1,0,1,0,0] F h (a7 n 0 9) (a7 r 2 3) (bI 0 (ed av) an)=a7 (xh C lf n r av) 0 9 F h:=by
 intro F h;kernel_rfl
def su(C:ad)(lf:Nat)(r:aS)(av:cu)(k:O×O->J->ab)(s:O×O)(h:J):ab:=
 xh C lf (λa b=>k (a,b)) r av s.1 s.2 h
def agz(C:ad)(lf:Nat)(n:aS)(x0:O)(h:J):ab:=
 n x0 (bD 0) h
theorem auv{n:aS}:∀F h,ar qK C lf [1,1,0,0] F h (a7 n 0 9) a0 an=aM (agz C lf n) 0 F h:=by
 intro F h;kernel_rfl
def agA(C:ad)(lf:Nat)(n:cu)(r:aS)(x0:O)(h:J):ab:=
 agz C lf (λa b=>bk (su C lf r n) lf (a,b)) x0 h
theorem auw{n:cu}{r:aS}:∀F h,ar qK C lf [1,1,0] F h (ed n) (a7 r 2 3) an=aM (agA C lf n r) 0 F h:=bg (b:=b7 qK [1,1,0,1]) (by kernel_rfl) (fY (id:=0) (a:=b7 qK [1,1,0,1,0]) (by kernel_rfl) (gJ (g:=λF=>(F 0,F 9)) (body:=su C lf r n) (by kernel_rfl) (λk=>(auu (n:=λx0 x9 h=>k (x0,x9) h))))) (auv (n:=λx0 x9 h=>bk (su C lf r n) lf (x0,x9) h))
def agB(C:ad)(lf:Nat)(r:aS)(x0:O)(h:J):ab:=
 agA C lf (Ky C lf r) r x0 h
theorem auy{r:aS}:∀F h,ar qK C lf [1,1] F h ba (a7 r 2 3) an=aM (agB C lf r) 0 F h:=bg (by kernel_rfl) aut auw
def Tk(C:ad)(lf:Nat)(n:aw)(r:aS)(x0:O)(h:J):ab:=
 aP C 63 x0 h λa k=>fM a (r (bD 0) (bD 14) k) (n x0 k)
theorem auz{n:aw}{r:aS}:∀F h,ar qK C lf [1,0] F h (aM n 0) (a7 r 2 3) an=aM (Tk C lf n r) 0 F h:=by
 intro F h;kernel_rfl
def Tl(C:ad)(lf:Nat)(r:aS)(x0:O)(h:J):ab:=
 Tk C lf (agB C lf r) r x0 h
theorem auA{r:aS}:∀F h,ar qK C lf [1] F h ba (a7 r 2 3) an=aM (Tl C lf r) 0 F h:=bg (by kernel_rfl) auy auz
noncomputable def Tm(C:ad)(lf:Nat)(n:aw)(x0:O)(h:J):ab:=
 n x0 h
theorem auB{n:aw}:∀F h,ar qK C lf [0] F h (aM n 0) a0 an=aM (Tm C lf n) 0 F h:=by
 intro F h;kernel_rfl
def Tn(C:ad)(lf:Nat)(r:aS)(x0:O)(h:J):ab:=
 Tm C lf (Tl C lf r) x0 h
theorem auC{r:aS}:∀F h,ar qK C lf [] F h ba (a7 r 2 3) an=aM (Tn C lf r) 0 F h:=bg (by kernel_rfl) auA auB
def A4(C:ad)(lf:Nat)(ah:U)(h:J):ab:=Tn C lf AX (some ah) h
def PY:cx ao:=hZ qK A4 (λC lf ah h=>cS (K:=(a7 AX 2 3)) (by kernel_rfl) (Eq.trans (auC _ h) (by kernel_rfl))) (by kernel_rfl)
def abW:b1 ao:=dk 63 Tryd.f63 Tryd.func63 (by kernel_rfl)
noncomputable def Pp(x2:O)(h:J):ab:=
 ob x2 λa=>some (.ret a,h)
def Vl(C:ad)(lf:Nat)(r:aw)(x0:O)(h:J):ab:=
 cB .neq 25 x0 (.val (.pointer none)) λa=>b3 a x0 h λb k=>b3 a (ev b) k λb k=>b3 a (bZ 0 b) k λb k=>jf .gtr 3 a (bO b k) (I 0) k λb k=>hA a b λa=>r (some a) k
theorem axw{r:aw}:∀F h,ar abW C lf [] F h ba (aM r 2) an=aM (Vl C lf r) 0 F h:=by
 intro F h;kernel_rfl
def IK(C:ad)(lf:Nat)(ah:U)(h:J):ab:=Vl C lf Pp (some ah) h
def P8:cx ao:=hZ abW IK (λC lf ah h=>cS (K:=(aM Pp 2)) (by kernel_rfl) (Eq.trans (axw _ h) (by kernel_rfl))) (by kernel_rfl)
def abz:b1 ao:=dk 33 Tryd.f33 Tryd.func33 (by kernel_rfl)
noncomputable def O2(bC:O)(h:J):ab:=
 ob bC λa=>some (.ret a,h)
def Ue(C:ad)(lf:Nat)(r:aw)(x0 x1:O)(h:J):ab:=
 aP C 63 x0 h λa k=>jf .geq 3 a x1 (I 0) k λb k=>hA a b λa=>b3 a x1 k λb k=>u4 0 a x0 k λc k=>b3 a (bin ao .lss 3 b c) k λb k=>hA a b λa=>b3 a x0 k λb k=>jf .quo 3 a x1 (I 64) k λc k=>b3 a (ev b) k λb k=>b3 a (bZ 1 b) k λb k=>b3 a (eu 64 1 b c) k λb k=>b3 a (bO b k) k λb k=>jf .rem 3 a x1 (I 64) k λc k=>b3 a (bin ao .shr 55 b c) k λb k=>jf .eql 55 a (bin ao .and 55 b (.int .u64 1)) (.int .u64 1) k λb k=>hA a b λa=>r (some a) k
theorem avF{r:aw}:∀F h,ar abz C lf [] F h ba (aM r 4) an=a7 (Ue C lf r) 0 1 F h:=by
 intro F h;kernel_rfl
def Iv(C:ad)(lf:Nat)(ah aj:U)(h:J):ab:=Ue C lf O2 (some ah) (some aj) h
def P1:cx ao:=hr abz Iv (λC lf ah aj h=>cS (K:=(aM O2 4)) (by kernel_rfl) (Eq.trans (avF _ h) (by kernel_rfl))) (by kernel_rfl)
def abX:b1 ao:=dk 64 Tryd.f64 Tryd.func64 (by kernel_rfl)
noncomputable def Pq(x2:O)(h:J):ab:=
 ob x2 λa=>some (.ret a,h)
def Vm(C:ad)(lf:Nat)(r:aw)(x0:O)(h:J):ab:=
 hC .eql 55 x0 (.int .u64 0) (r (bD 64) h) (ob x0 λa=>ob x0 λb=>ob (ib .neg b) λb=>cn .and 55 a b λa=>cn .mul 55 a (.int .u64 285870213051353865) λa=>cn .shr 55 a (.int .u64 58) λa=>DK h.aO 0 λb=>ob (eu 64 1 b a) λa=>ob (bO a h) λa=>ob (yq .i64 a) λa=>r (some a) h)
theorem axx{r:aw}:∀F h,ar abX C lf [] F h ba (aM r 2) an=aM (Vm C lf r) 0 F h:=by
 intro F h;kernel_rfl
def IL(C:ad)(lf:Nat)(ah:U)(h:J):ab:=Vm C lf Pq (some ah) h
def P9:cx ao:=hZ abX IL (λC lf ah h=>cS (K:=(aM Pq 2)) (by kernel_rfl) (Eq.trans (axx _ h) (by kernel_rfl))) (by kernel_rfl)
end
end Go.Proofs.YtomialandfplkaaDoor.Eva
namespace Go.Xe
def Ext(f g:cc):Prop:=∀c args X r,f c args X=some r->g c args X=some r
def GB(f g:nQ):Prop:=∀i args u X r,f i args u X=some r->g i args u X=some r
def MX(f g:aH U->al->R):Prop:=∀F X r,f F X=some r->g F X=some r
def YR(f g:pI):Prop:=∀c d F X r,f c d F X=some r->g c d F X=some r
def CA(f g:Code->aH U->al->R):Prop:=∀c F X r,f c F X=some r->g c F X=some r
section
variable{P:Program}{f g:cc}{N:Nat}
theorem aa4(ax:Ext f g){o:Oper}{F:aH U}{X:al}{r:Out×al}(h:ly P f o F X=some r):ly P g o F X=some r:=by
 rw[aa2] at h⊢;cases aJ:looks X.aO F o.op.operands.toList with
 |none=>rw[aJ] at h;cases h
 |some ch=>
  rw[aJ] at h;simp only[] at h⊢;generalize o.op=op at h;cases op<;>try exact h
  rename_i c;simp only[qB] at h⊢;split at h
  ·exact h
  ·rename_i ag;split at h<;>try(cases h;done)
   rename_i yn args ae;exact ax _ _ _ _ h
theorem anW(ax:Ext f g){o:Oper}{F:aH U}{X:al}{r:U×al}(h:ku P f o F X=some r):ku P g o F X=some r:=by
 obtain⟨y,af⟩:=r;exact aa5 (aa4 ax (OH h))
theorem aiw(ax:Ext f g){ops:List Oper}{o:Oper}{F:aH U}{X:al}{r:aH U×al}(h:kn P f N ops o F X=some r):kn P g N ops o F X=some r:=by
 unfold kn at h⊢;split at h
 ·rename_i X1 hw;split at h<;>try(cases h;done)
  rename_i y c5 he;simp only[anW ax he];exact h
 ·exact h
 ·cases h
theorem aDb(ax:Ext f g){ops:List Oper}{o:Oper}{F:aH U}{X:al}{r:Option j2×aH U×al}(h:l8 P f N ops o F X=some r):l8 P g N ops o F X=some r:=by
 unfold l8 at h⊢;split at h
 ·rename_i X1 hw;cases aI:p5 o.op with
  |true=>simp only[aI,cond_true] at h⊢;exact h
  |false=>
   simp only[aI,cond_false] at h⊢;cases he:ly P f o F X1 with
   |none=>simp[he] at h
   |some Cd=>rw[he] at h;rw[aa4 ax he];exact h
 ·exact h
 ·cases h
theorem aa6(ax:Ext f g){ops:List Oper}:∀{l:List Oper} {F:aH U} {X:al} {r:Option j2×aH U×al},lz P f N ops l F X=some r->lz P g N ops l F X=some r
 | [],F,X,r,h=>h
 |o::rest,F,X,r,h=>by
  simp only[lz] at h⊢;cases ak:l8 P f N ops o F X with
  |none=>simp[ak] at h
  |some Cd=>
   rw[ak] at h;rw[aDb ax ak];obtain⟨bn,aL,X1⟩:=Cd;cases bn with
   |none=>exact aa6 ax h
   |some bn=>exact h
theorem OE(ax:Ext f g){ops:List Oper}{bS:List (Nat×List Nat)}:∀{is:List Nat} {bJ:List (Nat×Option Nat)} {F:aH U} {X:al} {r:aH U×al},iK P f N ops bS is bJ F X=some r->iK P g N ops bS is bJ F X=some r
 | [],bJ,F,X,r,h=>h
 |k::bL,bJ,F,X,r,h=>by
  simp only[iK] at h⊢;split at h<;>try(cases h;done)
  rename_i o aq;cases ak:kn P f N ops o F X with
  |none=>simp[ak] at h
  |some Cd=>
   rw[ak] at h;rw[aiw ax ak];obtain⟨aL,X1⟩:=Cd;simp only[] at h⊢;cases ae:kt bJ X X1 (iw bS k) with
   |false=>simp[ae] at h
   |true=>simp only[ae,cond_true] at h⊢;exact OE ax h
theorem aDa(ax:Ext f g){ops:List Oper}{rs:List Nat}{base k:Nat}{o:Oper}{F:aH U}{X:al}{r:aH U×al}(h:lM P f N ops rs base k o F X=some r):lM P g N ops rs base k o F X=some r:=by
 unfold lM at h⊢;cases aR:hI rs k o.op with
 |true=>simp only[aR,cond_true] at h⊢;exact h
 |false=>simp only[aR,cond_false] at h⊢;exact aiw ax h
theorem aa0(ax:Ext f g){ops:List Oper}{rs:List Nat}{bS:List (Nat×List Nat)}{base:Nat}:∀{is:List Nat} {bJ:List (Nat×Option Nat)} {F:aH U} {X:al} {r:aH U×al},jd P f N ops rs bS base is bJ F X=some r->jd P g N ops rs bS base is bJ F X=some r
 | [],bJ,F,X,r,h=>h
 |k::bL,bJ,F,X,r,h=>by
  simp only[jd] at h⊢;split at h<;>try(cases h;done)
  rename_i o aq;cases aJ:p7 P ops base o F X with
  |false=>simp[aJ] at h
  |true=>
   simp only[aJ,cond_true] at h⊢;cases ak:lM P f N ops rs base k o F X with
   |none=>simp[ak] at h
   |some Cd=>
    rw[ak] at h;rw[aDa ax ak];obtain⟨aL,X1⟩:=Cd;simp only[] at h⊢;cases ae:kt bJ X X1 (iw bS k) with
    |false=>simp[ae] at h
    |true=>simp only[ae,cond_true] at h⊢;exact aa0 ax h
theorem afb{b b':aH U->al->R}(ag:MX b b'):∀n,MX (jA b n) (jA b' n)
 |0=>λF X r h=>h
 |n+1=>λF X r h=>by
  have h:(match b F X with|some (.c4,F,X)=>jA b n F X|r=>r)=some r:=h;show(match b' F X with|some (.c4,F,X)=>jA b' n F X|r=>r)=some r;cases he:b F X with
  |none=>rw[he] at h;cases h
  |some q=>
   rw[he] at h;rw[ag _ _ _ he];obtain⟨ex,aL,X1⟩:=q;cases ex with
   |c4=>exact afb ag n aL X1 r h
   |_=>exact h
theorem aA7(ax:Ext f g){ord:Nat->Hint}{me:FuncId}{rd:Option Nat}{ps:Array Tmp}{a c:Code}{y:U}:MX (qe f ord me rd N ps a c y) (qe g ord me rd N ps a c y):=by
 intro F X r h;unfold qe at h⊢;split at h
 ·rename_i aGr bZ qD b X1 ag;split at h
  ·rename_i Ac c5 he;rw[ax _ _ _ _ he];exact h
  ·rename_i bn c5 he;rw[ax _ _ _ _ he];exact h
  ·cases h
 ·cases h
theorem anT(ax:Ext f g){ord:Nat->Hint}{me:FuncId}{rd:Option Nat}{lf:Nat}{j fp:pI}(aa:YR j fp):CA (cl P f ord me rd N lf j) (cl P g ord me rd N lf fp):=by
 intro c
 induction c with
 |region id ops d=>
  intro F X r h;cases d with
  |false=>
   simp only[cl] at h⊢;cases he:lz P f N ops.toList ops.toList F X with
   |none=>simp[he] at h
   |some q=>rw[he] at h;rw[aa6 ax he];exact h
  |true=>
   simp only[cl] at h⊢;cases aq:ord id with
   |text=>
    simp only[aq] at h⊢;cases he:iK P f N ops.toList [] (List.range ops.size) [] F {X with cN:=[]} with
    |none=>simp[he] at h
    |some q=>rw[he] at h;rw[OE ax he];exact h
   |skip=>simp[aq] at h
   |ord is bS=>
    simp only[aq] at h⊢;cases he:iK P f N ops.toList bS is [] F {X with cN:=[]} with
    |none=>simp[he] at h
    |some q=>rw[he] at h;rw[OE ax he];exact h
   |news is rs bS=>
    simp only[aq,force_eq] at h⊢;cases aI:nY X X.next rs with
    |false=>simp[aI] at h
    |true=>
     simp only[aI,cond_true] at h⊢;cases he:jd P f N ops.toList rs bS X.next is [] F {X with cN:=[],next:=X.next+ops.size} with
     |none=>simp[he] at h
     |some q=>rw[he] at h;rw[aa0 ax he];exact h
 |seq a b nE ot=>
  intro F X r h;simp only[cl] at h⊢;cases he:cl P f ord me rd N lf j a F X with
  |none=>simp[he] at h
  |some q=>
   rw[he] at h;rw[nE _ _ _ he];obtain⟨ex,aL,X1⟩:=q;cases ex with
   |c4=>exact ot _ _ _ h
   |_=>exact h
 |cond x a b nE ot=>
  intro F X r h;simp only[cl] at h⊢;split at h<;>try(cases h;done)
  rename_i y bb;split at h
  ·exact nE _ _ _ h
  ·exact ot _ _ _ h
  ·cases h
 |block id c bp=>
  intro F X r h;simp only[cl] at h⊢;cases he:cl P f ord me rd N lf j c F X with
  |none=>simp[he] at h
  |some q=>rw[he] at h;rw[bp _ _ _ he];exact h
 |loop c bp=>
  intro F X r h;exact afb (λF X r h=>bp F X r h) lf F X r h
 |rangeFunc x ps a c nE aG0=>
  intro F X r h;simp only[cl] at h⊢;split at h<;>try(cases h;done)
  exact aA7 ax _ _ _ h
 |_=>intro F X r h;exact h
theorem ara(ax:Ext f g){ord:Nat->Hint}{me:FuncId}{rd:Option Nat}{lf:Nat}:∀n,YR (k0 P f ord me rd N lf n) (k0 P g ord me rd N lf n):=λ_ _ _ _ _ _ h=>h
theorem aaW(ax:Ext f g){ord:Nat->Hint}{me:FuncId}{rd:Option Nat}{lf:Nat}:CA (cl P f ord me rd N lf (k0 P f ord me rd N lf lf)) (cl P g ord me rd N lf (k0 P g ord me rd N lf lf)):=
 anT ax (ara ax lf)
theorem anS{dj Dd:Code->aH U->al->R}(he:CA dj Dd):∀(c:Code) {F:aH U} {X:al} {u:Mode} {r:iu×aH U×al×Mode},m2 P N dj c F X u=some r->m2 P N Dd c F X u=some r:=by
 intros;exact absurd ‹m2 _ _ _ _ _ _ _=some _› (λe=>by cases e)
theorem aBY{dj Dd:Code->aH U->al->R}(he:CA dj Dd){k:Nat}{F:aH U}{ps:Array Tmp}{a c:Code}{args:List U}{X:al}{r:Out×al}(h:l7 dj k N F ps a c args X=some r):l7 Dd k N F ps a c args X=some r:=by
 unfold l7 at h⊢;cases ag:Nat.beq args.length ps.size with
 |false=>simp[ag] at h
 |true=>
  simp only[ag,cond_true] at h⊢;split at h<;>try(cases h;done)
  rename_i aL X1 h1;rw[he _ _ _ _ h1];simp only[] at h⊢;split at h<;>try(cases h;done)
  rename_i o aq;cases aQ:isReady o with
  |false=>simp[aQ] at h
  |true=>
   simp only[aQ,cond_true] at h⊢;split at h<;>try(cases h;done)
   rename_i c5 h2
   try simp only[h2] at h⊢
   cases ae:dj c aL c5 with
   |none=>simp[ae] at h
   |some q=>rw[ae] at h;rw[he _ _ _ _ ae];exact h
theorem EL{d hQ:nQ}(aI:GB d hQ){fn:Func}{F:aH U}:∀{D:List eR} {u:Mode} {X:al} {r:Out×al},gh P d fn F D u X=some r->gh P hQ fn F D u X=some r
 | [],u,X,r,h=>by cases u<;>exact h
 | .tp k::bq,u,X,r,h=>by
   simp only[gh] at h⊢;split at h<;>try(cases h;done)
   split at h<;>try(cases h;done)
   exact EL aI h
 | .call i xs ys::bq,u,X,r,h=>by
   simp only[gh] at h⊢;cases ae:d i (xs++ys) u X with
   |none=>simp[ae] at h
   |some q=>
    rw[ae] at h;rw[aI _ _ _ _ _ ae];obtain⟨o,iD,X1⟩:=q;cases o<;>exact EL aI h
theorem aoa{d hQ:nQ}(aI:GB d hQ){fn:Func}{r:R}{q:Out×al}(h:r9 P d fn r=some q):r9 P hQ fn r=some q:=by
 unfold r9 at h⊢;split at h
 ·exact EL aI h
 ·exact EL aI h
 ·exact EL aI h
 ·cases h
theorem aoJ{e bd:mg}(ae:Ext e.call bd.call)(aI:GB e.dcall bd.dcall){a6:b1 P}{lf:Nat}{i:FuncId}{args:List U}{X:al}{r:Out×al}(h:iy e a6 lf i args X=some r):iy bd a6 lf i args X=some r:=by
 unfold iy m0 at h⊢;cases ag:(Nat.beq a6.f i&&Nat.ble args.length a6.fn.ntmps) with
 |false=>simp[ag] at h
 |true=>
  simp only[ag,cond_true] at h⊢;cases he:cl P e.call a6.ord a6.f none a6.fn.ntmps lf (k0 P e.call a6.ord a6.f none a6.fn.ntmps lf lf) (a6.fn.body.getD .skip) (hl .nil 0 args) {X with bx:=[]} with
  |none=>rw[he] at h;cases h
  |some q=>
   rw[he] at h;rw[aaW ae _ _ _ _ he];cases au:r9 P e.dcall a6.fn (some q) with
   |none=>rw[au] at h;cases h
   |some z=>rw[au] at h;rw[aoa aI au];exact h
end
noncomputable section
inductive gx (P:Program) where
 |fn (y:cx P)
 |nat (x:Y6 P)
 |dj (x:b1 P)
def gx.e{P:Program}:gx P->NL P
 | .fn y=> .fn y.x
 | .nat x=> .nat x
 | .dj x=> .fn x
structure wg where
 call:ad
 dcall:nQ
def aft(k:Ar)(args:List U)(h:J):ab:=match ui k args h.x0 with
 |some y=>some (.ret y,h)
 |none=>none
def rf(C:ad):cc:=λc args X=>match X.cN,X.pc with
 | [],[]=>(match C c args X.h with
   |some (o,h)=>some (o,h.b0 X.bx)
   |none=>none)
 |_,_=>none
def clean(X:al):Bool:=match X.cN,X.pc,X.bx with
 | [],[],[]=>true
 |_,_,_=>false
def Gb(r:Option (Out×al)):ab:=match r with
 |some (o,X)=>bif clean X then some (o,X.h) else none
 |none=>none
section
variable{P:Program}
def OG(bp:wg)(a6:b1 P)(lf f:Nat)(args:List U)(h:J):ab:=Gb (RA ⟨rf bp.call,bp.dcall⟩ a6 lf f args h.x0)
def zX(bp:wg)(lf f:Nat)(args:List U)(h:J)(e:Option (gx P)):ab:=match e with
 |some (.fn y)=>bif Nat.beq y.x.f f then y.s bp.call lf args h else none
 |some (.nat x)=>bif Nat.beq x.f f then aft x.k args h else none
 |some (.dj x)=>bif Nat.beq x.f f then OG bp x lf f args h else none
 |none=>none
def runN(bp:wg)(lf f:Nat)(args:List U)(h:J)(e:Option (gx P)):ab:=match e with
 |some (.fn y)=>bif Nat.beq y.x.f f then y.s bp.call lf args h else none
 |some (.dj x)=>bif Nat.beq x.f f then OG bp x lf f args h else none
 |_=>none
def FX(P:Program)(bp:wg)(lf k:Nat)(args:List U)(h:J):ab:=match h.aV.get k with
 |some o=>(match o.sp with
  | .loop _ _ ord me N F ps a c _=>Gb (l7 (Bx P (rf bp.call) ord me (some k) N lf) k N F ps a c args h.x0)
  |_=>none)
 |none=>none
def HM(bp:wg)(a6:b1 P)(lf f:Nat)(args:List U)(u:Mode)(X:al):Option (Out×Mode×al):=
 bif Nat.beq a6.f f&&Nat.ble args.length a6.fn.ntmps then r8 P a6.fn X.bx (m2 P a6.fn.ntmps (Bx P (rf bp.call) a6.ord a6.f none a6.fn.ntmps lf) (a6.fn.body.getD .skip) (hl .nil 0 args) {X with bx:=[]} u) else none
def ahW(bp:wg)(lf f:Nat)(args:List U)(u:Mode)(X:al)(e:Option (gx P)):Option (Out×Mode×al):=match e with
 |some (.fn y)=>HM bp y.x lf f args u X
 |some (.dj x)=>HM bp x lf f args u X
 |_=>none
def hK(tab:aH (gx P))(lf fuel:Nat):wg:=Nat.rec (motive:=λ_=>wg) ⟨λ_ _ _=>none,λ_ _ _ _=>none⟩ (λ_ bp=>{
 call:=λc args h=>match c with
  | .fn f=>zX bp lf f args h (o2 (path f) tab)
  | .iJ f=>runN bp lf f args h (o2 (path f) tab)
  | .fV k=>FX P bp lf k args h
 dcall:=λf args u X=>ahW bp lf f args u X (o2 (path f) tab)}) fuel
def aH.map{α β:Type}(g:α->β):aH α->aH β
 | .nil=> .nil
 | .node v l r=> .node (v.map g) (l.map g) (r.map g)
theorem get_map{α β:Type}(g:α->β):∀(t:aH α) (i:Nat),(t.map g).get i=(t.get i).map g
 | .nil,i=>rfl
 | .node v l r,i=>by
   simp only[aH.map,aH.get];cases Nat.beq i 0 with
   |true=>rfl
   |false=>
    simp only[cond_false];cases Nat.beq (i%2) 1 with
    |true=>exact get_map g l _
    |false=>exact get_map g r _
theorem aja{r:Option (Out×al)}{o:Out}{h:J}(e:Gb r=some (o,h)):r=some (o,h.x0):=by
 unfold Gb at e;split at e<;>try(cases e;done)
 rename_i o X;cases ae:clean X with
 |false=>simp[ae] at e
 |true=>
  simp only[ae,cond_true,Option.some.injEq,Prod.mk.injEq] at e;obtain⟨rfl,rfl⟩:=e;obtain⟨aO,next,aV,cN,pc,bx⟩:=X;unfold clean at ae;split at ae<;>try(cases ae;done)
  rename_i h1 h2 h3;simp only at h1 h2 h3;subst h1 h2 h3;rfl
theorem ae4{C:ad}{callf:cc}(fw:lS C callf):Ext (rf C) callf:=by
 intro c args X r h;obtain⟨aO,next,aV,cN,pc,bx⟩:=X;unfold rf at h;split at h<;>try(cases h;done)
 rename_i h1 h2;simp only at h1 h2;subst h1 h2;split at h<;>try(cases h;done)
 rename_i o h' he;cases h;exact fw _ _ _ _ _ he bx
theorem aoI{e:mg}{a6:b1 P}{lf f:Nat}{args:List U}{h h':J}{o:Out}(he:iy e a6 lf f args h.x0=some (o,h'.x0))(D:List eR):iy e a6 lf f args (h.b0 D)=some (o,h'.b0 D):=by
 unfold iy at he⊢;cases ag:(Nat.beq a6.f f&&Nat.ble args.length a6.fn.ntmps) with
 |false=>simp[ag] at he
 |true=>
  simp only[ag,cond_true] at he⊢;have az:({h.b0 D with bx:=[]}:al)={h.x0 with bx:=[]}:=rfl;rw[az];generalize r9 P e.dcall a6.fn (m0 a6 e.call lf (a6.fn.body.getD .skip) (hl .nil 0 args) {h.x0 with bx:=[]})=r at he⊢;rcases r with _|⟨dv,X1⟩
  ·cases he
  ·simp only[xE,Option.some.injEq,Prod.mk.injEq] at he⊢;obtain⟨rfl,h2⟩:=he;refine⟨rfl,?_⟩;obtain⟨aO,next,aV,cN,pc,bx⟩:=X1;obtain⟨asb,next',asr⟩:=h';simp only[J.x0,J.x,al.mk.injEq] at h2;obtain⟨rfl,rfl,rfl,rfl,rfl,_⟩:=h2;rfl
theorem aBU{dj:Code->aH U->al->R}{k N:Nat}{F:aH U}{ps:Array Tmp}{a c:Code}{args:List U}{h h':J}{o:Out}(he:l7 dj k N F ps a c args h.x0=some (o,h'.x0))(D:List eR):l7 dj k N F ps a c args (h.b0 D)=some (o,h'.b0 D):=by
 have fin:∀{X:al} {st:LoopState} {p:Jump} {b:Bool},endRound [] X k st p b=some (o,h'.x0)->endRound D X k st p b=some (o,h'.b0 D):=by
  intro X st p b h1;unfold endRound at h1⊢;split at h1<;>try(cases h1;done)
  rename_i c5 h2;simp only[Option.some.injEq,Prod.mk.injEq] at h1⊢;obtain⟨rfl,h1⟩:=h1;refine⟨rfl,?_⟩;obtain⟨aO,next,aV,cN,pc,bx⟩:=c5;obtain⟨asb,next',asr⟩:=h';simp only[J.x0,J.x,al.mk.injEq] at h1;obtain⟨rfl,rfl,rfl,rfl,rfl,_⟩:=h1;rfl
 unfold l7 at he⊢;cases ag:Nat.beq args.length ps.size with
 |false=>simp[ag] at he
 |true=>
  simp only[ag,cond_true] at he⊢;have az:({h.b0 D with bx:=[]}:al)={h.x0 with bx:=[]}:=rfl;rw[az];split at he<;>try(cases he;done)
  rename_i aL X1 h1;simp only[h1];split at he<;>try(cases he;done)
  rename_i ob aq
  try simp only[aq]
  cases aQ:isReady ob with
  |false=>simp[aQ] at he
  |true=>
   simp only[aQ,cond_true] at he⊢;split at he<;>try(cases he;done)
   rename_i c5 h2
   try simp only[h2]
   split at he<;>first|(cases he;done)|(rename_i h3;(try simp only[h3]);exact fin he)
theorem XA(tab:aH (gx P))(lf:Nat):∀fuel,lS (hK tab lf fuel).call (jc P (tab.map gx.e) lf fuel).call/\GB (hK tab lf fuel).dcall (jc P (tab.map gx.e) lf fuel).dcall
 |0=>⟨λc args h o h' e=>(by cases e),λ_ _ _ _ _ h=>(by cases h)⟩
 |fuel+1=>by
  obtain⟨bp,aqW⟩:=XA tab lf fuel
  have ad3:∀(y:cx P) f args h o h',Nat.beq y.x.f f=true->y.s (hK tab lf fuel).call lf args h=some (o,h')->∀D,iy (jc P (tab.map gx.e) lf fuel) y.x lf f args (h.b0 D)=some (o,h'.b0 D):=by
   intro y f args h o h' au ak D;obtain⟨h1,h2⟩:=y.eq _ _ _ _ _ ak;have au:=Nat.eq_of_beq_eq_true au;subst au;exact ajB bp y.x h1 h2 D
  have jS:∀(x:b1 P) f args h o h',OG (hK tab lf fuel) x lf f args h=some (o,h')->∀D,iy (jc P (tab.map gx.e) lf fuel) x lf f args (h.b0 D)=some (o,h'.b0 D):=by
   intro x f args h o h' ak D;have h1:=aja ak
   have ai:RA ⟨rf (hK tab lf fuel).call,(hK tab lf fuel).dcall⟩ x lf f args h.x0=iy ⟨rf (hK tab lf fuel).call,(hK tab lf fuel).dcall⟩ x lf f args h.x0:=by
    unfold RA iy m0;rw[Rz]
   rw[ai] at h1;exact aoI (aoJ (ae4 bp) aqW h1) D
  have Ea:∀ord me rd N,CA (Bx P (rf (hK tab lf fuel).call) ord me rd N lf) (cl P (jc P (tab.map gx.e) lf fuel).call ord me rd N lf (k0 P (jc P (tab.map gx.e) lf fuel).call ord me rd N lf lf)):=by
   intro ord me rd N;rw[Rz];exact aaW (ae4 bp)
  refine⟨?_,?_⟩
  ·intro c args h o h' e D;cases c with
   |fn f=>
    have bd:zX (hK tab lf fuel) lf f args h (o2 (path f) tab)=some (o,h'):=e;rw[Qi] at bd
    show(match (tab.map gx.e).get f with
     |some (.fn a6)=>iy (jc P (tab.map gx.e) lf fuel) a6 lf f args (h.b0 D)
     |some (.nat mb)=>bif Nat.beq mb.f f then(match ui mb.k args (h.b0 D) with|some y=>some (.ret y,(h.b0 D))|none=>none) else none
     |none=>none)=_
    rw[get_map];cases aN:tab.get f with
    |none=>rw[aN] at bd;cases bd
    |some t=>
     rw[aN] at bd;cases t with
     |fn y=>
      simp only[zX] at bd;cases ag:Nat.beq y.x.f f with
      |false=>simp[ag] at bd
      |true=>simp only[ag,cond_true] at bd;exact ad3 y f _ _ _ _ ag bd D
     |dj x=>
      simp only[zX] at bd;cases ag:Nat.beq x.f f with
      |false=>simp[ag] at bd
      |true=>simp only[ag,cond_true] at bd;exact jS x f _ _ _ _ bd D
     |nat x=>
      simp only[zX] at bd;cases ag:Nat.beq x.f f with
      |false=>simp[ag] at bd
      |true=>
       simp only[ag,cond_true,aft] at bd;have aR:ui x.k args (h.b0 D)=ui x.k args h.x0:=rfl;simp only[Option.map_some,gx.e,ag,cond_true,aR];cases ax:ui x.k args h.x0 with
       |none=>simp[ax] at bd
       |some z=>simp only[ax,Option.some.injEq,Prod.mk.injEq] at bd⊢;obtain⟨rfl,rfl⟩:=bd;exact⟨rfl,rfl⟩
   |iJ f=>
    have bd:runN (hK tab lf fuel) lf f args h (o2 (path f) tab)=some (o,h'):=e;rw[Qi] at bd
    show(match (tab.map gx.e).get f with
     |some (.fn a6)=>iy (jc P (tab.map gx.e) lf fuel) a6 lf f args (h.b0 D)
     |_=>none)=_
    rw[get_map];cases aN:tab.get f with
    |none=>rw[aN] at bd;cases bd
    |some t=>
     rw[aN] at bd;cases t with
     |fn y=>
      simp only[runN] at bd;cases ag:Nat.beq y.x.f f with
      |false=>simp[ag] at bd
      |true=>simp only[ag,cond_true] at bd;exact ad3 y f _ _ _ _ ag bd D
     |dj x=>
      simp only[runN] at bd;cases ag:Nat.beq x.f f with
      |false=>simp[ag] at bd
      |true=>simp only[ag,cond_true] at bd;exact jS x f _ _ _ _ bd D
     |nat x=>cases bd
   |fV k=>
    have bd:FX P (hK tab lf fuel) lf k args h=some (o,h'):=e
    show(match h.aV.get k with
     |some o=>match o.sp with
      | .loop _ _ ord me N F ps a c _=>l7 (cl P (jc P (tab.map gx.e) lf fuel).call ord me (some k) N lf (k0 P (jc P (tab.map gx.e) lf fuel).call ord me (some k) N lf lf)) k N F ps a c args (h.b0 D)
      |_=>none
     |none=>none)=_
    unfold FX at bd;split at bd<;>try(cases bd;done)
    rename_i ob aq;split at bd<;>try(cases bd;done)
    rename_i h1
    (try simp only[aq,h1])
    exact aBU (aBY (Ea _ _ _ _) (aja bd)) D
  ·intro f args u X r h;have bd:ahW (hK tab lf fuel) lf f args u X (o2 (path f) tab)=some r:=h;rw[Qi] at bd
   show(match (tab.map gx.e).get f with
    |some (.fn a6)=>bif Nat.beq a6.f f&&Nat.ble args.length a6.fn.ntmps then r8 P a6.fn X.bx (m2 P a6.fn.ntmps (m0 a6 (jc P (tab.map gx.e) lf fuel).call lf) (a6.fn.body.getD .skip) (hl .nil 0 args) {X with bx:=[]} u) else none
    |_=>none)=_
   rw[get_map]
   have aI:∀a6:b1 P,HM (hK tab lf fuel) a6 lf f args u X=some r->(bif Nat.beq a6.f f&&Nat.ble args.length a6.fn.ntmps then r8 P a6.fn X.bx (m2 P a6.fn.ntmps (m0 a6 (jc P (tab.map gx.e) lf fuel).call lf) (a6.fn.body.getD .skip) (hl .nil 0 args) {X with bx:=[]} u) else none)=some r:=by
    intro a6 cj;unfold HM at cj;cases ag:(Nat.beq a6.f f&&Nat.ble args.length a6.fn.ntmps) with
    |false=>simp[ag] at cj
    |true=>
     simp only[ag,cond_true] at cj⊢;cases ae:m2 P a6.fn.ntmps (Bx P (rf (hK tab lf fuel).call) a6.ord a6.f none a6.fn.ntmps lf) (a6.fn.body.getD .skip) (hl .nil 0 args) {X with bx:=[]} u with
     |none=>rw[ae] at cj;cases cj
     |some q=>
      rw[ae] at cj
      have:=anS (Ea a6.ord a6.f none a6.fn.ntmps) _ ae
      unfold m0;rw[this];exact cj
   cases aN:tab.get f with
   |none=>rw[aN] at bd;cases bd
   |some t=>
    rw[aN] at bd;cases t with
    |fn y=>exact aI _ bd
    |dj x=>exact aI _ bd
    |nat x=>cases bd
end
end
def XG(r:ab):Bool:=match r with
 |some (.ret (.bool true),_)=>true
 |_=>false
structure qv where
 cq:Nat
 ty:TypeId
 n:Nat
 loose:Bool
 esz:Nat
 ro:Bool
 sp:pK
def bH.mt(o:bH):qv:=⟨o.cq,o.ty,o.n,o.loose,o.esz,o.ro,o.sp⟩
def J.cell(h:J)(k i:Nat):Option U:=match h.aV.get k with
 |some o=>o.get i
 |none=>none
def J.mt(h:J)(k:Nat):Option qv:=match h.aV.get k with
 |some o=>some o.mt
 |none=>none
def ct(h h':J)(k:Nat):Prop:=h'.aV.get k=h.aV.get k
theorem ct.cell{h h':J}{k:Nat}(e:ct h h' k)(i:Nat):h'.cell k i=h.cell k i:=by unfold J.cell;rw[e]
theorem ct.mt{h h':J}{k:Nat}(e:ct h h' k):h'.mt k=h.mt k:=by unfold J.mt;rw[e]
def J.set(h:J)(k off:Nat)(ys:List U):J:=match h.aV.get k with
 |some o=>Ez h k (zI o off ys)
 |none=>h
theorem Ro(h:J)(k j:Nat)(o:bH):(Ez h k o).aV.get j=if j=k then some o else h.aV.get j:=by
 obtain⟨aO,next,⟨jD,base⟩⟩:=h;show cE.get (cE.put ⟨jD,base⟩ k o) j=_;exact cE.kT _ _ _ _
@[simp] theorem aGY(h:J)(k:Nat)(o:bH):(Ez h k o).next=h.next:=e8 rfl
@[simp] theorem aGZ(h:J)(k:Nat)(o:bH):(Ez h k o).aO=h.aO:=e8 rfl
@[simp] theorem dz(h:J)(k off:Nat)(ys:List U):(h.set k off ys).next=h.next:=by unfold J.set;split<;>rfl
@[simp] theorem xx(h:J)(k off:Nat)(ys:List U):(h.set k off ys).aO=h.aO:=by unfold J.set;split<;>rfl
theorem gr(h:J){k j:Nat}(off:Nat)(ys:List U)(e:j≠k):(h.set k off ys).aV.get j=h.aV.get j:=by
 unfold J.set;split
 ·rw[Ro,if_neg e]
 ·rfl
theorem asq(o:bH)(off:Nat)(ys:List U)(i:Nat):(zI o off ys).get i=if off<=i/\i<off+ys.length/\i<o.n then ys[i-off]? else o.get i:=by
 obtain⟨cq,ty,n,loose,esz,ro,mZ,fL,sp⟩:=o;simp only[zI,force_eq,bH.get];cases ag:Nat.blt i n with
 |false=>
  have:¬i<n:=λh=>by rw[<- Nat.blt_eq,ag] at h;cases h
  rw[if_neg (by omega)];rfl
 |true=>
  have:i<n:=by rw[Nat.blt_eq] at ag;exact ag
  simp only[cond_true];rw[yJ];by_cases hi:off<=i/\i<off+ys.length
  ·rw[if_pos hi,if_pos ⟨hi.1,hi.2,this⟩]
   have:i-off<ys.length:=by omega
   rw[List.getElem?_eq_getElem this]
  ·rw[if_neg hi,if_neg (by omega)]
theorem ZZ(h:J)(k off:Nat)(ys:List U)(j i:Nat):(h.set k off ys).cell j i=if j=k/\off<=i/\i<off+ys.length/\(∃m,h.mt k=some m/\i<m.n) then ys[i-off]? else h.cell j i:=by
 by_cases aa:j=k
 ·subst aa;unfold J.set J.cell J.mt;cases aq:h.aV.get j with
  |none=>simp[aq]
  |some o=>
   simp only[Ro,if_true,asq,aq]
   have:(∃m,some o.mt=some m/\i<m.n)↔i<o.n:=⟨λ⟨m,e,hm⟩=>by cases e;exact hm,λhm=>⟨_,rfl,hm⟩⟩
   simp only[this,true_and]
 ·rw[if_neg (λh=>aa h.1)];unfold J.cell;rw[gr _ _ _ aa]
def qv.up(m:qv):qv:={m with cq:=m.cq+1}
theorem J1(h:J)(k off:Nat)(ys:List U)(j:Nat):(h.set k off ys).mt j=if j=k then(h.mt k).map qv.up else h.mt j:=by
 by_cases aa:j=k
 ·subst aa;rw[if_pos rfl];unfold J.set J.mt;cases aq:h.aV.get j with
  |none=>simp[aq]
  |some o=>
   simp only[Ro,if_true];obtain⟨cq,ty,n,loose,esz,ro,mZ,fL,sp⟩:=o;simp only[zI,force_eq,bH.mt,qv.up,Option.map]
 ·rw[if_neg aa];unfold J.mt;rw[gr _ _ _ aa]
theorem pf(k off:Nat)(h:J):bO (.ptr k off) h=h.cell k off:=e8 rfl
def J.cells(h:J)(k off:Nat):Nat->Option (List U)
 |0=>some []
 |n+1=>match h.cell k off with
  |some y=>(match h.cells k (off+1) n with|some ys=>some (y::ys)|none=>none)
  |none=>none
theorem zw{h:J}{k:Nat}{o:bH}(aq:h.aV.get k=some o):∀n off,kG o off n=h.cells k off n
 |0,off=>rfl
 |n+1,off=>by
  simp only[kG,J.cells,zw aq n,J.cell,aq];cases o.get off with
  |none=>rfl
  |some y=>cases h.cells k (off+1) n<;>rfl
theorem mE{k off n:Nat}{h:J}{m:qv}(hm:h.mt k=some m):eB n (.ptr k off) h=(h.cells k off n).map .agg:=by
 unfold J.mt at hm;cases aq:h.aV.get k with
 |none=>simp[aq] at hm
 |some o=>
  simp only[eB,JS,aq,zw aq];cases h.cells k off n<;>rfl
theorem jy{h:J}{k:Nat}:∀{n off:Nat} {ys:List U},ys.length=n->(∀i,i<n->h.cell k (off+i)=ys[i]?)->h.cells k off n=some ys
 |0,off,ys,aJ,_=>by
  cases ys with
  |nil=>rfl
  |cons y ys=>simp at aJ
 |n+1,off,ys,aJ,ae=>by
  cases ys with
  |nil=>simp at aJ
  |cons y ys=>
   have h0:=ae 0 (by omega);simp at h0
   have:=jy (h:=h) (k:=k) (n:=n) (off:=off+1) (ys:=ys) (by simpa using aJ) (λi hi=>by
    have:=ae (i+1) (by omega)
    simpa[Nat.add_assoc,Nat.add_comm 1 i] using this)
   simp only[J.cells,h0,this]
def J.wr(h:J)(k n:Nat):Prop:=∃m,h.mt k=some m/\m.ro=false/\m.n=n
theorem gN{n k off N:Nat}{y:U}{h:J}(hw:h.wr k N)(aJ:y.cells.length=n)(ag:off+n<=N)(aq:dB y.cells=true):st n (.ptr k off) y h=some (h.set k off y.cells):=by
 obtain⟨m,hm,aQ,aR⟩:=hw;unfold J.mt at hm;cases hS:h.aV.get k with
 |none=>simp[hS] at hm
 |some o=>
  simp only[hS,Option.some.injEq] at hm;subst hm;simp only[bH.mt] at aQ aR;have h1:Nat.beq y.cells.length n=true:=by rw[aJ];exact Nat.beq_refl n
  have h2:Nat.ble (off+n) o.n=true:=Nat.ble_eq_true_of_le (by omega);simp only[st,LW,hS,XQ,h1,h2,aQ,aq,Bool.and_self,Bool.not_false,cond_true,J.set]
theorem dY{h:J}{k off j N:Nat}{ys:List U}(hw:h.wr j N):(h.set k off ys).wr j N:=by
 obtain⟨m,hm,aQ,aR⟩:=hw;by_cases aa:j=k
 ·subst aa;exact⟨m.up,by rw[J1,if_pos rfl,hm];rfl,aQ,aR⟩
 ·exact⟨m,by rw[J1,if_neg aa];exact hm,aQ,aR⟩
theorem fZ{h:J}{k off N:Nat}{ys:List U}(hw:h.wr k N)(ag:off+ys.length<=N){i:Nat}(hi:off<=i)(cH:i<off+ys.length):(h.set k off ys).cell k i=ys[i-off]?:=by
 obtain⟨m,hm,aQ,aR⟩:=hw;rw[ZZ,if_pos ⟨rfl,hi,cH,m,hm,by omega⟩]
theorem ep{h:J}{k off j i:Nat}{ys:List U}(hi:j≠k\/i<off\/off+ys.length<=i):(h.set k off ys).cell j i=h.cell j i:=by
 rw[ZZ,if_neg];omega
def J.new(h:J)(o:bH):J:=⟨h.aO,h.next+1,h.aV.put h.next o⟩
theorem BV(h:J)(o:bH)(j:Nat):(h.new o).aV.get j=if j=h.next then some o else h.aV.get j:=cE.kT _ _ _ _
theorem iT(h:J)(o:bH){j:Nat}(e:j≠h.next):(h.new o).aV.get j=h.aV.get j:=by rw[BV,if_neg e]
theorem ZY(h:J)(o:bH)(j i:Nat):(h.new o).cell j i=if j=h.next then o.get i else h.cell j i:=by
 unfold J.cell;rw[BV];by_cases e:j=h.next
 ·simp[e]
 ·simp[e]
theorem rh(h:J)(o:bH)(j:Nat):(h.new o).mt j=if j=h.next then some o.mt else h.mt j:=by
 unfold J.mt;rw[BV];by_cases e:j=h.next
 ·simp[e]
 ·simp[e]
@[simp] theorem e7(h:J)(o:bH):(h.new o).next=h.next+1:=e8 rfl
@[simp] theorem ar6(h:J)(o:bH):(h.new o).aO=h.aO:=e8 rfl
theorem wrap_i64{n:Int}(h1: -9223372036854775808<=n)(h2:n<9223372036854775808):IntKind.i64.wrap n=n:=by
 simp[IntKind.wrap,IntKind.signed,IntKind.bits];omega
theorem wrap_u64{n:Int}(h1:0<=n)(h2:n<18446744073709551616):IntKind.u64.wrap n=n:=by
 simp[IntKind.wrap,IntKind.signed,IntKind.bits];omega
theorem afu{k:IntKind}{n:Int}(h:0<=n):kl (.int k n)=some n.toNat:=by
 cases n with
 |ofNat m=>rfl
 |negSucc m=>exact absurd h (by omega)
section
variable{P:Program}{t:TypeId}{k:IntKind}{a b:Int}
theorem qz(op:BinOp):bin P op t (.int k a) (.int k b)=Bv op k a k b:=by rw[wj];rfl
theorem p6:(k==k)=true:=by cases k<;>rfl
@[simp] theorem rZ:bin P .add t (.int k a) (.int k b)=some (.int k (k.wrap (a+b))):=by
  rw[qz];show(bif k==k then arith .add k a b else none)=_;rw[p6];simp[arith,fP]
@[simp] theorem alJ:bin P .sub t (.int k a) (.int k b)=some (.int k (k.wrap (a-b))):=by
  rw[qz];show(bif k==k then arith .sub k a b else none)=_;rw[p6];simp[arith,fP]
@[simp] theorem N0:bin P .mul t (.int k a) (.int k b)=some (.int k (k.wrap (a*b))):=by
  rw[qz];show(bif k==k then arith .mul k a b else none)=_;rw[p6];simp[arith,fP]
theorem lV(ag:b≠0):bin P .quo t (.int k a) (.int k b)=some (.int k (k.wrap (a.tdiv b))):=by
 rw[qz];show(bif k==k then arith .quo k a b else none)=_;rw[p6,cond_true];have h0:(b==0)=false:=(by simp[ag]);simp only[arith,h0,cond_false,fP]
theorem ih(ag:b≠0):bin P .rem t (.int k a) (.int k b)=some (.int k (a.tmod b)):=by
 rw[qz];show(bif k==k then arith .rem k a b else none)=_;rw[p6,cond_true];have h0:(b==0)=false:=(by simp[ag]);simp only[arith,h0,cond_false,fP]
@[simp] theorem NZ:bin P .eql t (.int k a) (.int k b)=some (.bool (decide (a=b))):=by
  rw[qz];show(bif k==k then arith .eql k a b else none)=_;rw[p6];rfl
@[simp] theorem C0:bin P .neq t (.int k a) (.int k b)=some (.bool (decide (a≠b))):=by
  rw[qz];show(bif k==k then arith .neq k a b else none)=_;rw[p6];simp[arith,bne];by_cases h:a=b<;>simp[h]
@[simp] theorem r0:bin P .lss t (.int k a) (.int k b)=some (.bool (decide (a<b))):=by
  rw[qz];show(bif k==k then arith .lss k a b else none)=_;rw[p6];rfl
@[simp] theorem alH:bin P .leq t (.int k a) (.int k b)=some (.bool (decide (a<=b))):=by
  rw[qz];show(bif k==k then arith .leq k a b else none)=_;rw[p6];rfl
@[simp] theorem AK:bin P .gtr t (.int k a) (.int k b)=some (.bool (decide (b<a))):=by
  rw[qz];show(bif k==k then arith .gtr k a b else none)=_;rw[p6];rfl
@[simp] theorem ZJ:bin P .geq t (.int k a) (.int k b)=some (.bool (decide (b<=a))):=by
  rw[qz];show(bif k==k then arith .geq k a b else none)=_;rw[p6];rfl
theorem N1{e:TypeId}{k off:Nat}(hu:P.underlying t=some (.pointer e)):bin P .neq t (.ptr k off) (.val (.pointer none))=some (.bool true):=by
 rw[wj];show wC P .neq t _ _=_;simp[wC,wD,wA,hu]
theorem alG{e:TypeId}{k off:Nat}(hu:P.underlying t=some (.pointer e)):bin P .eql t (.ptr k off) (.val (.pointer none))=some (.bool false):=by
 rw[wj];show wC P .eql t _ _=_;simp[wC,wD,wA,hu]
theorem ym(op:BinOp):op= .and\/op= .or\/op= .xor\/op= .andNot->bin P op t (.int k a) (.int k b)=arith op k a b:=by
 intro h;rw[qz];rcases h with rfl|rfl|rfl|rfl<;>(show(bif k==k then arith _ k a b else none)=_;rw[p6];rfl)
end
@[simp] theorem aje(b:Bool):ib .not (.bool b)=some (.bool (!b)):=e8 rfl
@[simp] theorem Yu(a b:U):jH (.bool true) a b=some a:=e8 rfl
@[simp] theorem aF3(a b:U):jH (.bool false) a b=some b:=e8 rfl
@[simp] theorem sK(k off:Nat):ev (.ptr k off)=some (.ptr k off):=e8 rfl
@[simp] theorem r7(qH k off:Nat):bZ qH (.ptr k off)=some (.ptr k (off+qH)):=by simp[bZ,force_eq]
theorem l1{n s k off:Nat}{kd:IntKind}{i:Int}(h0:0<=i)(h1:i<n):eu n s (.ptr k off) (.int kd i)=some (.ptr k (off+i.toNat*s)):=by
 have:Nat.blt i.toNat n=true:=by rw[Nat.blt_eq];omega
 simp[eu,afu h0,AG,this,force_eq]
theorem gA{s k off len lo:Nat}{cap:Option Nat}{kd:IntKind}{i:Int}(h0:0<=i)(h1:i<len):dQ s (.aF k off len cap lo) (.int kd i)=some (.ptr k (off+i.toNat*s)):=by
 have:Nat.blt i.toNat len=true:=by rw[Nat.blt_eq];omega
 simp[dQ,afu h0,AG,this,force_eq]
@[simp] theorem qC(i:Nat)(vs:List U):ext i (.bm vs)=vs[i]?:=e8 rfl
@[simp] theorem anZ(i:Nat)(vs:List U):HZ i (.agg vs)=vs[i]?:=e8 rfl
@[simp] theorem aGs(want:Bool)(r:ab)(h:J):cT want (some (.bool want)) r h=r:=by cases want<;>rfl
@[simp] theorem aoy(r:ab)(h:J):cT false (some (.bool true)) r h=some (.ret (.val undef),h):=e8 rfl
@[simp] theorem aoA(r:ab)(h:J):cT true (some (.bool false)) r h=some (.ret (.val undef),h):=e8 rfl
@[simp] theorem aox(r:ab)(h:J):cT false (some (.bool false)) r h=r:=e8 rfl
@[simp] theorem Qh(r:ab)(h:J):cT true (some (.bool true)) r h=r:=e8 rfl
section
open Go.ChangeShapes Go.WideShapes Go.ChangeAt Go.RowKit
section
variable{P:Program}
theorem bQ.grow{B:Nat}{aZ w w':World}{X:al}{E:Env}(h:bQ P B aZ X E w)(ag:RowKit.Below w.heap.size w w'):bQ P B aZ X E w':=by
 have h1:w'.os=w.os:=ag.os;have h2:w'.tape=w.tape:=ag.tape;have h3:w'.output=w.output:=ag.output;have aT:w.heap.size<=w'.heap.size:=ag.size;have bz:∀k,k<w.heap.size->w'.heap[k]?=w.heap[k]?:=ag.block;refine⟨h1.trans h.os,h2.trans h.tape,h3.trans h.output,Nat.le_trans h.base aT,λk ai=>(bz k (Nat.lt_of_lt_of_le ai h.base)).trans (h.gB k ai),λk o ai=>?_,h.inj,h.fresh,h.ny,h.km⟩;obtain⟨id,c,az,ay,b9⟩:=h.obj k o ai
 have tN:id<w.heap.size:=by
  obtain⟨x,ax⟩:=ay.there;exact(Array.getElem?_eq_some_iff.1 ax).1
 exact⟨id,c,az,by rw[bz id tN];exact ay,b9⟩
theorem rL.mono{E aW:Env}{f:FuncId}{argv:List Value}{w:World}{R gv:Ending->World->Prop}(aQ:∀e w',R e w'->gv e w')(h:rL P E (.fn f) argv w R):rL P aW (.fn f) argv w gv:=by
 rcases h with⟨fn,h1,h2,h3,aT⟩|⟨v,w',h1,h2⟩
 ·exact .inl ⟨fn,h1,h2,h3,CallsIn.mono aT aQ⟩
 ·exact .inr ⟨v,w',h1,aQ _ _ h2⟩
def free:U->Bool
 | .val _| .int _ _| .bool _| .str _=>true
 |_=>false
theorem Den.free{E aW:Env}{y:U}{v:Value}(au:free y=true)(h:Den E y v):Den aW y v:=by
 cases y<;>first|exact h|cases au
theorem cg.free{E aW:Env}:∀{ys:List U} {vs:List Value},ys.all Xe.free=true->cg E ys vs->cg aW ys vs
 | [],_,_,h=>h
 |y::ys,vs,au,h=>by
  obtain⟨v,Co,h1,h2,rfl⟩:=h;simp only[List.all_cons,Bool.and_eq_true] at au;exact⟨v,Co,h1.free au.1,h2.free au.2,rfl⟩
structure pE (P:Program) where
 f:FuncId
 g:List U->J->Option U
 ok:∀{args:List U} {X:al} {y:U},g args X.h=some y->∀{B:Nat} {aZ:World} {E:Env} {w:World} {argv:List Value},bQ P B aZ X E w->cg E args argv->rL P E (.fn f) argv w (tb P B aZ E (.ret y) X)
 frame:∀{args:List U} {X:al} {y:U} {m:Nat} {ob:bH},g args X.h=some y->c9 X m->g args (X.add m ob).h=some y
def yp:List (pE P)->FuncId->Option (pE P)
 | [],_=>none
 |q::ahv,f=>bif Nat.beq q.f f then some q else yp ahv f
theorem aae:∀{cs:List (pE P)} {f:FuncId} {q:pE P},yp cs f=some q->q.f=f
 |q::ahv,f,eV,h=>by
  simp only[yp] at h;cases ag:Nat.beq q.f f with
  |true=>simp only[ag,cond_true,Option.some.injEq] at h;subst h;exact Nat.eq_of_beq_eq_true ag
  |false=>simp only[ag,cond_false] at h;exact aae h
def wy(cs:List (pE P))(e:mg):mg where
 call:=λc args X=>match c with
  | .fn f=>(match yp cs f with
    |some q=>(match q.g args X.h with
     |some y=>some (.ret y,X)
     |none=>none)
    |none=>e.call (.fn f) args X)
  |c=>e.call c args X
 dcall:=e.dcall
def tr(cs:List (pE P))(C:ad):ad:=λc args h=>match c with
 | .fn f=>(match yp cs f with
   |some q=>(match q.g args h with
    |some y=>some (.ret y,h)
    |none=>none)
   |none=>C (.fn f) args h)
 |c=>C c args h
theorem amF{cs:List (pE P)}{e:mg}(he:xS P e):xS P (wy cs e):=by
 refine⟨λc args X y af h aB=>?_,λc args X y af h=>?_,λc args X y af m ob h au=>?_,he.dcall,he.Da,he.aaD⟩
 ·cases c with
  |fn f=>
   simp only[wy] at h;split at h
   ·rename_i q a2;split at h
    ·rename_i z aX;cases h;refine⟨aB,λB aZ E w argv aE aI=>?_⟩
     have:=q.ok aX aE aI
     rw[aae a2] at this;exact this
    ·cases h
   ·exact he.call _ _ _ _ _ h aB
  |iJ f=>exact he.call _ _ _ _ _ h aB
  |fV k=>exact he.call _ _ _ _ _ h aB
 ·cases c with
  |fn f=>
   simp only[wy] at h;split at h
   ·split at h
    ·cases h;exact di.refl _
    ·cases h
   ·exact he.keeps _ _ _ _ _ h
  |iJ f=>exact he.keeps _ _ _ _ _ h
  |fV k=>exact he.keeps _ _ _ _ _ h
 ·cases c with
  |fn f=>
   simp only[wy] at h⊢;split at h
   ·rename_i q a2
    try simp only[a2]
    split at h
    ·rename_i z aX;cases h;rw[q.frame aX au]
    ·cases h
   ·rename_i a2
    try simp only[a2]
    exact he.frame _ _ _ _ _ _ _ h au
  |iJ f=>exact he.frame _ _ _ _ _ _ _ h au
  |fV k=>exact he.frame _ _ _ _ _ _ _ h au
theorem amH{cs:List (pE P)}{C:ad}{e:mg}(h:lS C e.call):lS (tr cs C) (wy cs e).call:=by
 intro c args h' o fF ae D;cases c with
 |fn f=>
  simp only[tr] at ae;simp only[wy];split at ae
  ·rename_i q a2
   try simp only[a2]
   split at ae
   ·rename_i z aX;cases ae
    have:(h'.b0 D).h=h':=rfl
    rw[this,aX]
   ·cases ae
  ·exact h _ _ _ _ _ ae D
 |iJ f=>exact h _ _ _ _ _ ae D
 |fV k=>exact h _ _ _ _ _ ae D
theorem RL{o:bH}:∀{n off:Nat} {ys:List U},kG o off n=some ys->∀i,i<ys.length->o.get (off+i)=ys[i]?
 |0,off,ys,h,i,hi=>by cases h;simp at hi
 |n+1,off,ys,h,i,hi=>by
  simp only[kG] at h;split at h<;>try(cases h;done)
  rename_i y bb;split at h<;>try(cases h;done)
  rename_i vO eU;cases h;cases i with
  |zero=>simpa using bb
  |succ i=>
   have:=RL eU i (by simpa using hi)
   rw[show off+(i+1)=off+1+i by omega,this];rfl
theorem amI{cs:List (pE P)}{tab:aH (gx P)}{lf fuel:Nat}(hm:P.follows .mixedOrders=true){y:cx P}{args:List U}{argv:List Value}{h h':J}{o:Out}{w:World}{B:Nat}{aZ:World}{E:Env}
 (bb:y.s (tr cs (hK tab lf fuel).call) lf args h=some (o,h'))(aE:bQ P B aZ (h.b0 []) E w)(aI:cg E args argv):rL P E (.iJ y.x.f) argv w (tb P B aZ E o (h'.b0 [])):=by
 have he:xS P (wy cs (jc P (tab.map gx.e) lf fuel)):=amF (OF _ lf hm fuel);obtain⟨h1,h2⟩:=y.eq _ _ _ _ _ bb;have h3:=ajB (e:=wy cs (jc P (tab.map gx.e) lf fuel)) (amH (XA tab lf fuel).1) y.x h1 h2 [];exact Qo he hm h3 (λp aB=>by cases aB) B aZ E w argv aE aI
theorem amd{f:FuncId}{argv:List Value}{w:World}{E:Env}{h':J}(h:rL P E (.iJ f) argv w (tb P w.heap.size w E (.ret (.bool true)) (h'.b0 []))):
 Calls P f argv.toArray w λe w'=>e= .returned (.bool true)/\RowKit.Below w.heap.size w w':=by
 obtain⟨_,_,_,_,sd⟩:=h;refine CallsIn.calls (CallsIn.mono sd ?_) (λk d h=>by cases h)
 rintro e w' ⟨aW,_,et,v,rfl,aI⟩
 cases aI;exact⟨rfl,et.below⟩
def yv(k:IntKind):List U->List Int->Bool
 | [],[]=>true
 | .int b6 n::ys,z::zs=>(b6==k)&&(n==z)&&yv k ys zs
 |_,_=>false
theorem OC{k:IntKind}:∀{ys:List U} {zs:List Int},yv k ys zs=true->ys=zs.map (.int k)
 | [],[],_=>rfl
 | .int b6 n::ys,z::zs,h=>by
   simp only[yv,Bool.and_eq_true,beq_iff_eq] at h;obtain⟨⟨h1,h2⟩,h3⟩:=h
   have:b6=k:=by cases b6<;>cases k<;>first|rfl|(exact absurd h1 (by decide))
   subst this h2;rw[OC h3];rfl
 | [],_::_,h=>by cases h
 | .int _ _::_,[],h=>by cases h
def mx(g:Nat)(k:IntKind)(zs:List Int)(h:J):Bool:=Nat.blt g h.aO&&(match h.aV.get g with
 |some o=>(match o.sp with
  | .cells=>(match kG o 0 zs.length with|some ys=>yv k ys zs|none=>false)
  |_=>false)
 |none=>false)
theorem aC0{g ty n:Nat}{k:IntKind}{zs:List Int}(h0:0<zs.length){X:al}(aN:mx g k zs X.h=true){B:Nat}{aZ w:World}{E:Env}(aE:bQ P B aZ X E w):Start (g+1) (L6 g ty n (zs.map (.int k))) w:=by
 unfold mx at aN;simp only[Bool.and_eq_true] at aN;obtain⟨bc,aN⟩:=aN;have bc:g<X.aO:=by rw[Nat.blt_eq] at bc;exact bc
 split at aN<;>try(cases aN;done)
 rename_i o aq;split at aN<;>try(cases aN;done)
 rename_i wZ;split at aN<;>try(cases aN;done)
 rename_i ys eU;have Rt:=OC aN;subst Rt;obtain⟨cG,mz⟩:=aE.ny g bc;obtain⟨id,c,az,ay,_⟩:=aE.obj g o aq;rw[mz] at az;cases az;rcases ay with⟨_,apv⟩|⟨ak,_⟩
 ·obtain⟨cs,X6,lo,hi,hS,o5,_⟩:=apv;refine aC1 (λi hi=>?_) h0
  have:o.get i=some (.int k (zs.getD i 0)):=by
   have:=RL eU i (by simpa using hi)
   rw[Nat.zero_add] at this;rw[this];simp[List.getD,hi]
  obtain⟨v,h1,h2⟩:=o5 i _ this;have h2:v= .int k (zs.getD i 0):=h2;subst h2;simp[World.cell?,hS,h1]
 ·exact absurd wZ (aCX ak)
end
end
end Go.Xe
