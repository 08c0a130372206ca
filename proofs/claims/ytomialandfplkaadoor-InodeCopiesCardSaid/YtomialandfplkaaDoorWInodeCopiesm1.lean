import Derived.RangeFuncIn
import Derived.RangeFuncLeaves
import Derived.RecoverIn
import Derived.Test.YtomialandfplkaaDoorWInodeCopiesm0
set_option linter.unusedSimpArgs false
set_option linter.unusedVariables false
namespace Go.Xe
section
variable{P:Program}{B:Nat}{aZ w:World}{X:al}{E:Env}{bq:List Deferred}
def fD(bq:List Deferred)(N:Nat)(E:Env)(F:aH U)(a:Act):Prop:=
 a.defers=bq/\N<=a.tmps.size/\∀j y,F.get j=some y->j<N/\∃v,a.tmps[j]?=some v/\Den E y v
theorem fD.mono{N:Nat}{E aW:Env}{F:aH U}{a:Act}(h:fD bq N E F a)(aE:cQ E aW):fD bq N aW F a:=
 ⟨h.1,h.2.1,λj y aa=>let ⟨l,v,h1,h2⟩:=h.2.2 j y aa;⟨l,v,h1,h2.mono aE⟩⟩
theorem fD.put{N:Nat}{F:aH U}{a:Act}(h:fD bq N E F a){d:Option Tmp}{y:U}{v:Value}(aI:Den E y v):fD bq N E (Xe.put N F d y) (a.put d v):=by
 cases d with
 |none=>exact h
 |some d=>
  simp only[Xe.put,Act.put];cases ag:Nat.blt d N with
  |false=>
   refine⟨h.1,by simpa using h.2.1,λj z aa=>?_⟩;obtain⟨aJ,u,h1,h2⟩:=h.2.2 j z aa
   have ca:d≠j:=λe=>by subst e;have:Nat.blt d N=true:=by rw[Nat.blt_eq];exact aJ
                       rw[ag] at this;cases this
   exact⟨aJ,u,by simpa[Array.getElem?_setIfInBounds_ne ca] using h1,h2⟩
  |true=>
   have a9:d<N:=by rw[Nat.blt_eq] at ag;exact ag
   refine⟨h.1,by simpa using h.2.1,λj z aa=>?_⟩;rcases iM aa with⟨e,ay⟩|⟨e,aX⟩
   ·subst e;subst ay;have dP:=h.2.1;exact⟨a9,v,Array.getElem?_setIfInBounds_self_of_lt (Nat.lt_of_lt_of_le a9 dP),aI⟩
   ·obtain⟨aJ,u,h1,h2⟩:=h.2.2 j z aX;exact⟨aJ,u,by simpa[Array.getElem?_setIfInBounds_ne (λh=>e h.symm)] using h1,h2⟩
theorem JW{N:Nat}{F:aH U}{a:Act}(aE:bQ P B aZ X E w)(aY:fD bq N E F a){x:Operand}{y:U}(h:look X.aO F x=some y):Den E y (a.eval x):=by
 cases x with
 |tmp t=>
  obtain⟨_,v,h1,h2⟩:=aY.2.2 t y h;simpa[Act.eval,h1] using h2
 |const v=>simp only[look,Option.some.injEq] at h;subst h;exact aaB E v
 |global g=>
  simp only[look] at h;cases ag:Nat.blt g X.aO with
  |false=>simp[ag] at h
  |true=>
   simp only[ag,cond_true,Option.some.injEq] at h;subst h;obtain⟨c,ae⟩:=aE.ny g (by rw[Nat.blt_eq] at ag;exact ag);exact⟨g,c,ae,rfl⟩
 |func f=>simp only[look,Option.some.injEq] at h;subst h;exact⟨[],[],rfl,rfl,rfl⟩
theorem JX{N:Nat}{F:aH U}{a:Act}(aE:bQ P B aZ X E w)(aY:fD bq N E F a):∀{xs:List Operand} {ys:List U},looks X.aO F xs=some ys->cg E ys (xs.map a.eval)
 | [],ys,h=>by simp[looks] at h;subst h;rfl
 |x::xs,ys,h=>by
  simp only[looks] at h;split at h<;>try(cases h;done)
  rename_i y bb;split at h<;>try(cases h;done)
  rename_i vO eU;cases h;exact⟨_,_,JW aE aY bb,JX aE aY eU,rfl⟩
def gE(ro:Option Nat):Fence:={fn:=λ_=>True,depth:=none,alive:=false,round:=ro}
def tb(P:Program)(B:Nat)(aZ:World)(E:Env)(y:Out)(af:al)(e:Ending)(w':World):Prop:=
 ∃aW,cQ E aW/\bQ P B aZ af aW w'/\match y with
  | .ret z=>∃v,e= .returned v/\Den aW z v
  | .cY bn=>∃l,e= .panicked l/\lR aW bn l
def rL(P:Program)(E:Env)(c:xQ)(argv:List Value)(w:World)(R:Ending->World->Prop):Prop:=match c with
 | .fn f=>(∃fn,P.funcs[f]?=some fn/\fn.body.isSome=true/\fn.name≠"runtime.NumGoroutine"/\CallsIn (gE none) 0 P f argv.toArray w R)\/(∃v w',(callFunc f argv.toArray).run P w= .ok (.value v) w'/\R (.returned v) w')
 | .iJ f=>∃fn,P.funcs[f]?=some fn/\fn.body.isSome=true/\fn.name≠"runtime.NumGoroutine"/\CallsIn (gE none) 0 P f argv.toArray w R
 | .fV k=>∃l c fn tmps assign body,E k=some (l,c)/\(Instr.yield l argv.toArray).run P w= .ok (.round l fn tmps assign body) w/\RoundIn (gE none) 0 P l fn tmps assign body w R
def jI(P:Program)(callf:cc):Prop:=∀c args X y af,callf c args X=some (y,af)->cX af->
 cX X/\∀B aZ E w argv,bQ P B aZ X E w->cg E args argv->rL P E c argv w (tb P B aZ E y af)
theorem CallsIn.Ht{f:FuncId}{args:Array Value}{R:Ending->World->Prop}(ro:Option Nat)(h:CallsIn (gE none) 0 P f args w R):CallsIn (gE ro) 0 P f args w R:=h
theorem RoundIn.Ht{l:Nat}{f:FuncId}{tmps:Array Value}{a c:Code}{R:Ending->World->Prop}(ro:Option Nat)(h:RoundIn (gE none) 0 P l f tmps a c w R):RoundIn (gE ro) 0 P l f tmps a c w R:=h
theorem amb{c:Call}{type:TypeId}{ch args:List U}{yn:xQ}{lP:Operand->Value}(aE:bQ P B aZ X E w)(hv:cg E ch (c.operands.toList.map lP))(h:r3 P c ch X=some (yn,args)):
 ∃argv,cg E args argv/\(match yn with
  | .fn f=>(do let d <- resolve lP c type;invoke d.target d.args:Sem Next).run P w=(callFunc f argv.toArray).run P w
  | .iJ _=>False
  | .fV k=>∃l cJ,E k=some (l,cJ)/\(do let d <- resolve lP c type;invoke d.target d.args:Sem Next).run P w=(Instr.yield l argv.toArray).run P w):=by
 unfold r3 at h;split at h
 ·rename_i ON h8;have kg:c.operands.toList=ON::c.args.toList:=by simp[Call.operands,h8]
  rw[kg] at hv;split at h<;>try(cases h;done)
  ·rename_i f bZ qD e3;obtain⟨u,us,⟨sV,sW,EB,EC,hu⟩,zj,e⟩:=hv;simp only[List.map_cons,List.cons.injEq] at e;obtain⟨az,ay⟩:=e;cases h;refine⟨sV++us++sW,(EB.append zj).append EC,?_⟩;have wU:Array.map lP c.args=us.toArray:=by rw[<- ay, <- Array.toList_inj];simp
   simp[resolve,h8,az,hu,Deferred.ofValue,wU,invoke]
  ·rename_i k e3;obtain⟨u,us,⟨l,cJ,ai,hu⟩,zj,e⟩:=hv;simp only[List.map_cons,List.cons.injEq] at e;obtain⟨az,ay⟩:=e;cases h;refine⟨us,zj,l,cJ,ai,?_⟩;have wU:Array.map lP c.args=us.toArray:=by rw[<- ay, <- Array.toList_inj];simp
   simp[resolve,h8,az,hu,Deferred.ofValue,wU,invoke]
 ·rename_i rc name h8;have kg:c.operands.toList=rc::c.args.toList:=by simp[Call.operands,h8]
  rw[kg] at hv;split at h<;>try(cases h;done)
 ·cases h
theorem R3{callf:cc}(c0:jI P callf){N:Nat}{F:aH U}{a:Act}{o:Oper}{y:Out}{af:al}(aE:bQ P B aZ X E w)(aY:fD bq N E F a)(kh:p9 o.op=true)
 (h:ly P callf o F X=some (y,af))(aB:cX af)(ro:Option Nat){K:Act->World->Prop}{Q:Exit->Act->World->Prop}
 (kB:∀z,y= .ret z->∀aW v w',cQ E aW->Den aW z v->bQ P B aZ af aW w'->K (a.put o.dst v) w')
 (dG:∀bn,y= .cY bn->∀aW l w',cQ E aW->lR aW bn l->bQ P B aZ af aW w'->Q (.panic l) a w'):o.wpIn (gE ro) 0 P a w K Q:=by
 refine⟨λ_ _=>trivial,?_⟩
 have Ep:o.semAt (gE ro).round a.eval=execOp a.eval o:=by
  cases ro with
  |none=>rfl
  |some l=>exact Oper.semAt_some l _ o (λc ae=>by rw[ae] at kh;simp[p9] at kh)
 rw[Ep];unfold ly at h;split at h<;>try(cases h;done)
 rename_i ch hv;have eJ:=JX aE aY hv
 have plain:∀z,y= .ret z->GR P B aZ E w (execOp a.eval o) z af->o.uponIn (gE ro) 0 P a K Q ((execOp a.eval o).run P w):=by
  rintro z aX ⟨aW,v,w',h1,h2,h3,aT⟩
  rcases h2 with h2|⟨h2,rfl⟩
  ·rw[h2];exact kB z aX aW v w' h1 h3 aT
  ·rw[h2];exact kB z aX aW undef w' h1 h3 aT
 have ahI:∀{r:Option (U×al)},hB r=some (y,af)->∃z,y= .ret z/\r=some (z,af):=by
  intro r aQ;unfold hB at aQ;split at aQ<;>cases aQ
  exact⟨_,rfl,rfl⟩
 have cY:∀{u:Value},l4 ch X=some (y,af)->cg E ch [u]->(execOp a.eval o).run P w=((Instr.panic u).run P w).andThen (λv w'=>Result.ok (Next.value v) w')->o.uponIn (gE ro) 0 P a K Q ((execOp a.eval o).run P w):=by
  intro u JB aI gg;unfold l4 at JB;split at JB<;>try(cases JB;done)
  rename_i X6 aHp;cases JB;obtain⟨gV,hd,o6⟩:=lW aI;cases hd;have o7:=o6;obtain⟨x,ax,rfl⟩:=o7;rw[gg];have aqn:(Instr.panic (.iface X6 x):Sem Value).run P w= .halt (.panic (.iface X6 x)) w:=rfl;rw[aqn];exact dG _ rfl E _ w (cQ.refl _) ⟨_,[],o6,rfl,rfl⟩ aE
 split at h
 ·rename_i c ae;have kg:o.op.operands.toList=c.operands.toList:=by rw[ae];rfl
  rw[kg] at eJ;have hex:execOp a.eval o=(do let d <- resolve a.eval c o.type;invoke d.target d.args):=by simp only[execOp,ae]
  split at h
  ·rename_i b h8;have aqj:c.operands.toList=c.args.toList:=by simp[Call.operands,h8]
   rw[aqj] at eJ;have wU:Array.map a.eval c.args=(c.args.toList.map a.eval).toArray:=by rw[<- Array.toList_inj];simp
   cases Bp:sr b with
   |true=>
    rw[Bp] at h;simp only[cond_true] at h;have ag:b= .panic:=by cases b<;>first|rfl|cases Bp
    subst ag;have hlen:=eJ.length;unfold l4 at h;split at h<;>try(cases h;done)
    rename_i t x;obtain⟨u,hu,aI⟩:=lW eJ;refine cY (u:=u) (by unfold l4;exact h) ⟨u,[],aI,rfl,rfl⟩ ?_;rw[hex];simp only[resolve,h8,wU,hu,invoke,Sem.run_bind,Sem.run_pure,Result.andThen_ok,builtin];rfl
   |false=>
    rw[Bp] at h;simp only[cond_false] at h;obtain⟨z,rfl,h3⟩:=ahI h;obtain⟨aW,v,w',g1,g2,g3,g4⟩:=alP (ty:=o.type) (consts:=c.args.map λ| .const _=>true|_=>false) aE eJ h3;refine plain z rfl ⟨aW,v,w',g1,.inl ?_,g3,g4⟩;rw[hex];simp only[resolve,h8,wU,invoke,Sem.run_bind,Sem.run_pure,Result.andThen_ok];exact g2
  ·split at h<;>try(cases h;done)
   rename_i yn args h8;obtain⟨argv,DT,gg⟩:=amb (type:=o.type) aE eJ h8;obtain⟨_,fR⟩:=c0 _ _ _ _ _ h aB;have ad0:=fR B aZ E w argv aE DT
   have post:∀{e w'},tb P B aZ E y af e w'->(∀v,e= .returned v->K (a.put o.dst v) w')/\(∀bn,e= .panicked bn->Q (.panic bn) a w')/\e≠ .outgrown:=by
    rintro e w' ⟨aW,h1,h2,h3⟩
    cases y with
    |ret z=>
     obtain⟨v,rfl,aI⟩:=h3;exact⟨λMj e=>(by cases e;exact kB z rfl aW v w' h1 aI h2),λbn e=>(by cases e),by simp⟩
    |cY bn=>
     obtain⟨l,rfl,aI⟩:=h3;exact⟨λMj e=>(by cases e),λZ2 e=>(by cases e;exact dG bn rfl aW l w' h1 aI h2),by simp⟩
   rw[hex];cases yn with
   |fn f=>
    rw[gg];rcases ad0 with⟨fn,yW,gL,Ei,sd⟩|⟨v,w',aQ,tU⟩
    ·have DX:fn.body≠none:=λe=>by rw[e] at gL;cases gL
     have:(callFunc f argv.toArray).run P w= .ok (.enter f argv.toArray) w:=by simp[callFunc,yW,Ei,DX]
     rw[this,Oper.uponIn_enter];refine⟨(λh=>by cases h),?_⟩;refine CallsIn.mono (CallsIn.Ht ro sd) ?_;intro e w' tU;obtain⟨bM,cz,fr⟩:=post tU;cases e with
     |returned v=>exact bM v rfl
     |panicked bn=>exact cz bn rfl
     |outgrown=>exact absurd rfl fr
    ·rw[aQ];exact(post tU).1 v rfl
   |iJ f=>exact gg.elim
   |fV k=>
    obtain⟨l,cJ,ai,gg⟩:=gg;obtain⟨dJ,aGo,fn,tmps,assign,body,cO,bb,om⟩:=ad0;rw[ai] at cO;cases cO;rw[gg,bb,Oper.uponIn_round];refine⟨(λh=>by cases h),?_⟩;refine RoundIn.mono (RoundIn.Ht ro om) ?_;intro e w' tU;obtain⟨bM,cz,fr⟩:=post tU;cases e with
    |returned v=>exact bM v rfl
    |panicked bn=>exact cz bn rfl
    |outgrown=>exact absurd rfl fr
 ·rename_i x ax;have kg:o.op.operands.toList=[x]:=by rw[ax];rfl
  rw[kg] at eJ;refine cY (u:=a.eval x) h eJ ?_;simp only[execOp,ax,Sem.run_bind];rfl
 ·rename_i op aGL aGM;obtain⟨z,rfl,h3⟩:=ahI h;exact plain z rfl (aic aE eJ aB h3)
theorem OH{callf:cc}{F:aH U}{o:Oper}{y:U}{af:al}(h:ku P callf o F X=some (y,af)):ly P callf o F X=some (.ret y,af):=by
 unfold ku at h;unfold ly;split at h<;>try(cases h;done)
 rename_i ch hv;split at h
 ·rename_i c ae;unfold yw at h;split at h
  ·rename_i b h8
   have ag:sr b=false:=by
    cases b<;>first|rfl|(unfold ja at h;split at h<;>first|cases h|contradiction)
   simp only[ae,h8,ag,cond_false,h,hB]
  ·rename_i h8;split at h<;>try(cases h;done)
   rename_i yn args m6;unfold AN at h;split at h<;>try(cases h;done)
   rename_i z X1 aX;cases h;split
   ·rename_i a4 fk;rw[ae] at fk;cases fk;split
    ·rename_i b ag;exact absurd ag (h8 b)
    ·simp only[m6,aX]
   ·rename_i ax;rw[ae] at ax;cases ax
   ·rename_i ax _;exact absurd ae (ax c)
 ·rename_i op ca;split
  ·rename_i c ae;exact absurd ae (ca c)
  ·rename_i x ax;rw[ax] at h;simp[dX] at h
  ·rw[h];rfl
theorem asD{callf:cc}(c0:jI P callf){N:Nat}{F:aH U}{a:Act}{o:Oper}{y:U}{af:al}(aE:bQ P B aZ X E w)(aY:fD bq N E F a)(kh:p9 o.op=true)
 (h:ku P callf o F X=some (y,af))(aB:cX af)(ro:Option Nat){K:Act->World->Prop}{Q:Exit->Act->World->Prop}
 (kB:∀aW v w',cQ E aW->Den aW y v->bQ P B aZ af aW w'->K (a.put o.dst v) w'):o.wpIn (gE ro) 0 P a w K Q:=
 R3 c0 aE aY kh (OH h) aB ro (λz aX=>by cases aX;exact kB) (λbn aX=>by cases aX)
theorem De{callf:cc}(c0:jI P callf){F:aH U}{o:Oper}{y:Out}{af:al}(h:ly P callf o F X=some (y,af))(aB:cX af):cX X:=by
 have af2:∀{ch:List U},l4 ch X=some (y,af)->cX X:=by
  intro ch h;unfold l4 at h;split at h<;>cases h
  exact aB
 have ahJ:∀{r:Option (U×al)},hB r=some (y,af)->∃z,r=some (z,af):=by
  intro r aQ;unfold hB at aQ;split at aQ<;>cases aQ
  exact⟨_,rfl⟩
 unfold ly at h;split at h<;>try(cases h;done)
 split at h
 ·split at h
  ·rename_i b _;cases ag:sr b with
   |true=>rw[ag] at h;exact af2 h
   |false=>
    rw[ag] at h;obtain⟨z,h⟩:=ahJ h;unfold cX;rw[<- (N5 h).pc];exact aB
  ·split at h<;>try(cases h;done)
   exact(c0 _ _ _ _ _ h aB).1
 ·exact af2 h
 ·obtain⟨z,h⟩:=ahJ h;exact aCI h aB
theorem afS{callf:cc}(c0:jI P callf){F:aH U}{o:Oper}{y:U}{af:al}(h:ku P callf o F X=some (y,af))(aB:cX af):cX X:=De c0 (OH h) aB
theorem Mk{N:Nat}{F:aH U}{a:Act}{ops:Array Oper}{o:Oper}{b:Bool}{af:al}(aY:fD bq N E F a)(h:ir ops.toList F X o.guard=some (b,af)):
 (cX af->cX X/\Region.wanted o (yielded ops a.tmps)=b)/\af.aV=X.aV/\af.next=X.next/\af.aO=X.aO:=by
 unfold ir at h;unfold Region.wanted;split at h
 ·rename_i bc;cases h;simp[bc]
 ·rename_i j want bc;split at h<;>try(cases h;done)
  rename_i o' gz;split at h<;>try(cases h;done)
  rename_i d aI;split at h<;>try(cases h;done)
  rename_i y bb;obtain⟨h1,h2,h3,aT⟩:=ZF h;refine⟨λaB=>⟨(h1 aB).1,?_⟩,h2,h3,aT⟩;obtain⟨_,v,hv,apB⟩:=aY.2.2 d y bb;have aer:ops[j]?=some o':=by simpa using gz
  rcases(h1 aB).2 _ _ apB with⟨c,rfl,ae⟩|⟨a,rfl,rfl⟩
  ·rw[<- ae];simp[bc,yielded,aer,aI,hv]
  ·simp[bc,yielded,aer,aI,hv]
theorem Cq{F:aH U}{ops:List Oper}{g:Option (Nat×Bool)}{b:Bool}{af:al}(h:ir ops F X g=some (b,af))(aB:cX af):cX X:=by
 unfold ir at h;split at h
 ·cases h;exact aB
 ·split at h<;>try(cases h;done)
  split at h<;>try(cases h;done)
  split at h<;>try(cases h;done)
  exact((ZF h).1 aB).1
theorem XW{callf:cc}(c0:jI P callf){N:Nat}{F F':aH U}{ops:List Oper}{o:Oper}{af:al}(h:kn P callf N ops o F X=some (F',af))(aB:cX af):cX X:=by
 unfold kn at h;split at h
 ·rename_i X1 hw;split at h<;>try(cases h;done)
  rename_i y c5 aq;cases h;exact Cq hw (afS c0 aq aB)
 ·rename_i X1 hw;cases h;exact Cq hw aB
 ·cases h
theorem aiF{callf:cc}(c0:jI P callf){N:Nat}{F F':aH U}{a:Act}{ops:Array Oper}{o:Oper}{af:al}(aE:bQ P B aZ X E w)(aY:fD bq N E F a)(kh:p9 o.op=true)
 (h:kn P callf N ops.toList o F X=some (F',af))(aB:cX af)(ro:Option Nat){K:Act->World->Prop}{Q:Exit->Act->World->Prop}
 (kB:∀aW a' w',cQ E aW->fD bq N aW F' a'->bQ P B aZ af aW w'->K a' w'):
 if Region.wanted o (yielded ops a.tmps) then o.wpIn (gE ro) 0 P a w K Q
 else(∀f,o.about P w a.eval=some f->(gE ro).fn f)/\K (a.put o.dst undef) w:=by
 unfold kn at h;split at h
 ·rename_i X1 hw;split at h<;>try(cases h;done)
  rename_i y c5 aq;cases h;have mC:=afS c0 aq aB;obtain⟨h1,h2,h3,aT⟩:=Mk aY hw;rw[(h1 mC).2,if_pos rfl];exact asD c0 (aE.same h2 h3 aT) aY kh aq aB ro (λaW v w' aj aC a8=>kB aW _ w' aj ((aY.mono aj).put aC) a8)
 ·rename_i X1 hw;cases h;obtain⟨h1,h2,h3,aT⟩:=Mk aY hw;rw[(h1 aB).2,if_neg (by simp)];exact⟨λ_ _=>trivial,kB E _ w (cQ.refl _) (aY.put rfl) (aE.same h2 h3 aT)⟩
 ·cases h
end
section
variable{P:Program}{B:Nat}{aZ w:World}{E:Env}{bq:List Deferred}
def hN(F F':aH U):Prop:=∀k,F.get k=F'.get k
theorem hN.refl(F:aH U):hN F F:=λ_=>rfl
theorem hN.symm{F F':aH U}(h:hN F F'):hN F' F:=λk=>(h k).symm
theorem hN.trans{F F' s0:aH U}(h:hN F F')(h':hN F' s0):hN F s0:=λk=>(h k).trans (h' k)
theorem fD.eqv{N:Nat}{F F':aH U}{a:Act}(h:fD bq N E F a)(he:hN F F'):fD bq N E F' a:=
 ⟨h.1,h.2.1,λj y aa=>h.2.2 j y (by rw[he j];exact aa)⟩
theorem afa{aO:Nat}{F F':aH U}:∀{xs:List Operand},(∀x∈xs,look aO F x=look aO F' x)->looks aO F xs=looks aO F' xs
 | [],_=>rfl
 |x::xs,h=>by simp only[looks,h x (List.mem_cons_self ..),afa (λy bb=>h y (List.mem_cons_of_mem _ bb))]
def jZ(P:Program)(callf:cc)(ops:List Oper)(o:Oper)(F:aH U)(X:al):Option (U×al):=
 match ir ops F X o.guard with
 |some (true,X)=>ku P callf o F X
 |some (false,X)=>some (.val undef,X)
 |none=>none
theorem lL{callf:cc}{N:Nat}{ops:List Oper}{o:Oper}{F F':aH U}{X af:al}:
 kn P callf N ops o F X=some (F',af)↔∃y,jZ P callf ops o F X=some (y,af)/\F'=put N F o.dst y:=by
 unfold kn jZ;cases hw:ir ops F X o.guard with
 |none=>simp
 |some r=>
  obtain⟨b,X1⟩:=r;cases b with
  |false=>
   simp only[Option.some.injEq,Prod.mk.injEq];constructor
   ·rintro ⟨rfl,rfl⟩;exact⟨_,⟨rfl,rfl⟩,rfl⟩
   ·rintro ⟨Ac,⟨rfl,rfl⟩,rfl⟩;exact⟨rfl,rfl⟩
  |true=>
   simp only[];cases aq:ku P callf o F X1 with
   |none=>simp
   |some r=>
    obtain⟨y,c5⟩:=r;simp only[Option.some.injEq,Prod.mk.injEq];constructor
    ·rintro ⟨rfl,rfl⟩;exact⟨y,⟨rfl,rfl⟩,rfl⟩
    ·rintro ⟨Ac,⟨rfl,rfl⟩,rfl⟩;exact⟨rfl,rfl⟩
theorem RM{ops:Array Oper}{o:Oper}{F F':aH U}{X:al}(h:∀t∈o.looksAt ops,F.get t=F'.get t):
 ir ops.toList F X o.guard=ir ops.toList F' X o.guard/\∀aO,looks aO F o.op.operands.toList=looks aO F' o.op.operands.toList:=by
 refine⟨?_,λaO=>afa λx ax=>?_⟩
 ·unfold ir;cases bc:o.guard with
  |none=>rfl
  |some aoP=>
   obtain⟨j,want⟩:=aoP;simp only[];cases aq:ops.toList[j]? with
   |none=>rfl
   |some o'=>
    simp only[];cases aI:o'.dst with
    |none=>rfl
    |some d=>
     have gz:ops[j]?=some o':=by simpa using aq
     have hm:d∈o.looksAt ops:=by simp[Oper.looksAt,bc,gz,aI]
     simp only[h d hm]
 ·cases x with
  |tmp t=>exact h t (List.mem_append_left _ (List.mem_filterMap.2 ⟨.tmp t,ax,rfl⟩))
  |_=>rfl
theorem L0{callf:cc}{ops:Array Oper}{o:Oper}{F F':aH U}{X:al}(h:∀t∈o.looksAt ops,F.get t=F'.get t):
 jZ P callf ops.toList o F X=jZ P callf ops.toList o F' X:=by
 obtain⟨hw,aJ⟩:=RM (X:=X) h;unfold jZ;rw[hw];unfold ku;simp only[aJ]
theorem qc{N:Nat}{F:aH U}{d:Option Tmp}{y:U}(k:Nat)(h:d≠some k):(put N F d y).get k=F.get k:=by
 cases d with
 |none=>rfl
 |some t=>
  simp only[put];cases ag:Nat.blt t N with
  |false=>rfl
  |true=>
   have a9:t<N:=by rw[Nat.blt_eq] at ag;exact ag
   simp only[cond_true];rw[kT,if_neg (λe=>h (by rw[e]))]
theorem Sl{N:Nat}{F F':aH U}{d:Option Tmp}{y:U}{k:Nat}(h:d=some k)(aY:F.get k=F'.get k):(put N F d y).get k=(put N F' d y).get k:=by
 subst h;simp only[put];cases ag:Nat.blt k N with
 |false=>exact aY
 |true=>
  simp only[cond_true];rw[kT,kT];simp
theorem agf{N:Nat}{F F':aH U}(he:hN F F')(d:Option Tmp)(y:U):hN (put N F d y) (put N F' d y):=λk=>by
 by_cases h:d=some k
 ·exact Sl h (he k)
 ·rw[qc k h,qc k h];exact he k
theorem put_comm{N:Nat}{F:aH U}{d e:Option Tmp}{y z:U}(h:∀t,d=some t->e≠some t):hN (put N (put N F d y) e z) (put N (put N F e z) d y):=λk=>by
 by_cases aI:d=some k
 ·have he:=h k aI;rw[qc k he];exact Sl aI (qc k he).symm
 ·rw[qc (d:=d) k aI];by_cases he:e=some k
  ·exact Sl he (qc k aI)
  ·rw[qc k he,qc k he,qc k aI]
theorem aC6{callf:cc}{N:Nat}{ops:Array Oper}{o:Oper}{F F' G:aH U}{X af:al}(he:hN F F')(h:kn P callf N ops.toList o F X=some (G,af)):
 ∃uO,kn P callf N ops.toList o F' X=some (uO,af)/\hN G uO:=by
 obtain⟨y,bb,rfl⟩:=lL.1 h;exact⟨_,lL.2 ⟨y,by rw[<- L0 (λt _=>he t)];exact bb,rfl⟩,agf he _ _⟩
theorem Hx{X af:al}{y:U}{b:Bool}(aq:X.cN=[])(h:hs X y=some (b,af)):af=X/\∀X1,hs X1 y=some (b,X1):=by
 cases y with
 |bool c=>simp only[hs,Option.some.injEq,Prod.mk.injEq] at h;obtain⟨rfl,rfl⟩:=h;exact⟨rfl,λ_=>rfl⟩
 |val x=>cases x<;>simp[hs,al.ask,aq] at h
 |_=>simp[hs] at h
theorem alq{X af:al}{y:U}{b want:Bool}(aq:X.cN=[])(h:mW X want y=some (b,af)):af=X/\∀X1,mW X1 want y=some (b,X1):=by
 unfold mW at h⊢;cases aN:ua y with
 |true=>
  simp only[aN,cond_true,Option.some.injEq,Prod.mk.injEq] at h;obtain⟨rfl,rfl⟩:=h;exact⟨rfl,λ_=>rfl⟩
 |false=>
  simp only[aN,cond_false] at h;split at h<;>try(cases h;done)
  rename_i ag;cases h;obtain⟨h1,h2⟩:=Hx aq ag;exact⟨h1,λX1=>by simp[h2 X1]⟩
theorem Cp{ops:List Oper}{F:aH U}{X af:al}{g:Option (Nat×Bool)}{b:Bool}(aq:X.cN=[])(h:ir ops F X g=some (b,af)):af=X/\∀X1,ir ops F X1 g=some (b,X1):=by
 unfold ir at h⊢;split at h
 ·cases h;exact⟨rfl,λ_=>rfl⟩
 ·split at h<;>try(cases h;done)
  split at h<;>try(cases h;done)
  split at h<;>try(cases h;done)
  obtain⟨h1,h2⟩:=alq aq h;exact⟨h1,λX1=>by simp[*]⟩
theorem amO{s d:TypeId}{x y:U}{X af:al}(h:jP P s d x X=some (y,af)):FW P s d=true:=by
 unfold jP at h;unfold FW
 split at h<;>first
  |(cases h;done)
  |(rename_i h1 h2;simp only[h1,h2])
  |(rename_i h1 h2;simp[h1,h2])
theorem asU{op:Op}{ch:List U}{X af:al}{y:U}(aB:mD P op=true)(aq:X.cN=[])(h:dX P op ch X=some (y,af)):af=X/\∀X1,dX P op ch X1=some (y,X1):=by
 unfold dX at h;split at h
 all_goals first
  |(simp[mD] at aB;done)
  |(cases h;done)
  |(cases h;exact⟨rfl,λ_=>rfl⟩)
  |(obtain⟨h',eL⟩:=gW h;subst eL;exact⟨rfl,λX1=>by simp only[dX,eC,h']⟩)
  |(unfold uB at h
    split at h
    ·rename_i ag;cases h;obtain⟨h1,h2⟩:=Hx aq ag;exact⟨h1,λX1=>by simp only[dX,uB,h2]⟩
    ·rename_i ag;cases h;obtain⟨h1,h2⟩:=Hx aq ag;exact⟨h1,λX1=>by simp only[dX,uB,h2]⟩
    ·cases h)
  |(split at h
    ·rename_i ae;cases h;exact⟨rfl,λX1=>by simp only[dX,ae]⟩
    ·have:=amO h;simp[mD,this] at aB)
structure di (X af:al):Prop where
 cN:X.cN=[]->af.cN=[]
 aO:af.aO=X.aO
 next:X.next<=af.next
 cq:∀k o o',k<X.next->X.aV.get k=some o->af.aV.get k=some o'->o.cq<=o'.cq/\(o'.cq=o.cq->o'=o)
 dead:∀k,k<X.next->X.aV.get k=none->af.aV.get k=none
 bx:af.bx=X.bx
 pc:cX af->cX X
theorem di.refl(X:al):di X X:=⟨λh=>h,rfl,Nat.le_refl _,λk o o' _ h h'=>by rw[h] at h';cases h';exact⟨Nat.le_refl _,λ_=>rfl⟩,λ_ _ h=>h,rfl,λh=>h⟩
theorem di.trans{X Y Z:al}(h:di X Y)(h':di Y Z):di X Z:=by
 refine⟨λaq=>h'.cN (h.cN aq),h'.aO.trans h.aO,Nat.le_trans h.next h'.next,λk o o' ai aq gz=>?_,λk ai aI=>h'.dead k (Nat.lt_of_lt_of_le ai h.next) (h.dead k ai aI),h'.bx.trans h.bx,λp=>h.pc (h'.pc p)⟩;cases bb:Y.aV.get k with
 |none=>have:=h'.dead k (Nat.lt_of_lt_of_le ai h.next) bb;rw[gz] at this;cases this
 |some oy=>
  obtain⟨aj,aC⟩:=h.cq k o oy ai aq bb;obtain⟨bY,b2⟩:=h'.cq k oy o' (Nat.lt_of_lt_of_le ai h.next) bb gz;exact⟨Nat.le_trans aj bY,λe=>by rw[b2 (by omega),aC (by omega)]⟩
theorem di.same{X af:al}(aq:X.cN=[]->af.cN=[])(aR:af.aO=X.aO)(ax:af.next=X.next)(oi:af.aV=X.aV)(aI:af.bx=X.bx)(tS:cX af->cX X):di X af:=
 ⟨aq,aR,by rw[ax];exact Nat.le_refl _,λk o o' _ h h'=>by rw[oi,h] at h';cases h';exact⟨Nat.le_refl _,λ_=>rfl⟩,λk _ h=>by rw[oi];exact h,aI,tS⟩
theorem di.new(X:al)(o:bH):di X (X.new o).2:=by
 refine⟨λh=>h,rfl,Nat.le_succ _,λk a b ai h h'=>?_,λk ai h=>?_,rfl,λh=>h⟩
 ·rcases cE.iM h' with⟨e,_⟩|⟨_,h2⟩
  ·omega
  ·rw[h] at h2;cases h2;exact⟨Nat.le_refl _,λ_=>rfl⟩
 ·cases h':(X.new o).2.aV.get k with
  |none=>rfl
  |some b=>
   rcases cE.iM h' with⟨e,_⟩|⟨_,h2⟩
   ·omega
   ·rw[h] at h2;cases h2
theorem di.store{X:al}{k:Nat}{o o':bH}(ai:X.aV.get k=some o)(hv:o.cq<o'.cq):di X {X with aV:=X.aV.put k o'}:=by
 refine⟨λh=>h,rfl,Nat.le_refl _,λj a b _ h h'=>?_,λj _ h=>?_,rfl,λh=>h⟩
 ·rcases cE.iM h' with⟨rfl,rfl⟩|⟨_,h2⟩
  ·rw[ai] at h;cases h;exact⟨by omega,λe=>by omega⟩
  ·rw[h] at h2;cases h2;exact⟨Nat.le_refl _,λ_=>rfl⟩
 ·cases h':(X.aV.put k o').get j with
  |none=>rfl
  |some b=>
   rcases cE.iM h' with⟨rfl,_⟩|⟨_,h2⟩
   ·rw[ai] at h;cases h
   ·rw[h] at h2;cases h2
theorem di.name{X:al}{k:Nat}{o:bH}:di X {X with next:=X.next+1,aV:=(X.aV.del k).put X.next o}:=by
 refine⟨λh=>h,rfl,Nat.le_succ _,λj a b aa h h'=>?_,λj aa h=>?_,rfl,λh=>h⟩
 ·rcases cE.iM h' with⟨e,_⟩|⟨_,h2⟩
  ·omega
  ·have:=(cE.tD h2).2;rw[h] at this;cases this;exact⟨Nat.le_refl _,λ_=>rfl⟩
 ·show((X.aV.del k).put X.next o).get j=none;cases h':((X.aV.del k).put X.next o).get j with
  |none=>rfl
  |some b=>
   rcases cE.iM h' with⟨e,_⟩|⟨_,h2⟩
   ·omega
   ·have:=(cE.tD h2).2;rw[h] at this;cases this
theorem ju.keeps{X af:al}(h:ju X af):di X af:=by
 cases h with
 |same=>exact di.refl _
 |new o=>exact di.new _ _
 |set k o o' h1 h2=>exact di.store h1 h2
 |name k o=>exact di.name
theorem NW{X af:al}{y:U}{b:Bool}(h:hs X y=some (b,af)):af.bx=X.bx:=by
 cases y with
 |bool c=>simp only[hs,Option.some.injEq,Prod.mk.injEq] at h;obtain⟨rfl,rfl⟩:=h;rfl
 |val x=>
  cases x with
  |bool s=>
   simp only[hs,al.ask] at h;split at h<;>cases h
   rfl
  |_=>simp[hs] at h
 |_=>simp[hs] at h
theorem yl{X af:al}{y:U}{b:Bool}(h:hs X y=some (b,af)):di X af:=by
 obtain⟨_,h2,h3,aT⟩:=uX h;exact di.same (λaq=>by rw[(Hx aq h).1];exact aq) aT h3 h2 (NW h) (λaB=>((uX h).1 aB).1)
def fX(callf:cc):Prop:=∀c args X y af,callf c args X=some (y,af)->di X af
theorem aib{op:Op}{ch:List U}{X af:al}{y:U}(h:dX P op ch X=some (y,af)):di X af:=by
 unfold dX at h;split at h
 case h_3=>
  unfold uB at h;split at h
  ·rename_i ag;cases h;exact yl ag
  ·rename_i ag;cases h;exact yl ag
  ·cases h
 case h_4=>unfold qg newRow at h;split at h<;>(try simp only[force_eq] at h)<;>cases h;exact di.new _ _
 case h_5=>
  unfold qi newRow at h;rename_i x;cases ax:x.flat<;>simp only[ax,cond_false,cond_true,force_eq] at h<;>cases h
  exact di.new _ _
 case h_7=>
  unfold oD newRow at h;split at h<;>try(cases h;done)
  split at h<;>try(cases h;done)
  rename_i s z _ _;generalize ae:(Nat.ble _ _&&Nat.ble 1 s&&_)=b at h;cases b<;>simp only[cond_true,cond_false,force_eq] at h
  ·cases h
  ·split at h<;>cases h;exact di.new _ _
 case h_9=>
  split at h<;>cases h
  rename_i X1 ak;unfold sL at ak;split at ak<;>try(cases ak;done)
  rename_i o n aq _;generalize ae:(Nat.beq _ _&&_&&_&&_)=b at ak;cases b<;>simp only[cond_true,cond_false] at ak<;>cases ak
  exact di.store aq (Nat.lt_succ_self _)
 case h_16=>
  unfold qj nh at h;split at h<;>try(cases h;done)
  split at h<;>try(cases h;done)
  split at h<;>try(cases h;done)
  rename_i s z b _ _ _;generalize ae:(Nat.ble _ _&&_&&_&&_&&_)=b at h;cases b<;>simp only[cond_true,cond_false,force_eq] at h<;>cases h
  exact di.new _ _
 all_goals first
  |(cases h;exact di.refl _)
  |(obtain⟨_,rfl⟩:=gW h;exact di.refl _)
  |(cases h;done)
  |exact(ahz h).keeps
  |exact(afA h).keeps
  |(unfold uj at h;cases h;exact di.new _ _)
  |(split at h<;>cases h;rename_i hu;exact(ajg hu).keeps)
  |exact(aaQ h).keeps
  |(split at h<;>cases h;rename_i hu;exact(aaP hu).keeps)
  |(split at h
    ·cases h;exact di.refl _
    ·exact(aai h).keeps)
theorem anV{callf:cc}(ae:fX callf){o:Oper}{F:aH U}{X af:al}{y:U}(h:ku P callf o F X=some (y,af)):di X af:=by
 unfold ku at h;split at h<;>try(cases h;done)
 split at h
 ·unfold yw at h;split at h
  ·exact(N5 h).keeps
  ·split at h<;>try(cases h;done)
   unfold AN at h;split at h<;>try(cases h;done)
   rename_i aX;cases h;exact ae _ _ _ _ _ aX
 ·exact aib h
theorem HW{callf:cc}(ae:fX callf){o:Oper}{F:aH U}{X af:al}{y:Out}(h:ly P callf o F X=some (y,af)):di X af:=by
 have af1:∀{ch:List U},l4 ch X=some (y,af)->di X af:=by
  intro ch h;unfold l4 at h;split at h<;>cases h
  exact di.refl _
 have FU:∀{r:Option (U×al)},hB r=some (y,af)->∃z,r=some (z,af):=by
  intro r aQ;unfold hB at aQ;split at aQ<;>cases aQ
  exact⟨_,rfl⟩
 unfold ly at h;split at h<;>try(cases h;done)
 split at h
 ·split at h
  ·rename_i b _;cases ag:sr b with
   |true=>rw[ag] at h;exact af1 h
   |false=>
    rw[ag] at h;obtain⟨z,h⟩:=FU h;exact(N5 h).keeps
  ·split at h<;>try(cases h;done)
   exact ae _ _ _ _ _ h
 ·exact af1 h
 ·obtain⟨z,h⟩:=FU h;exact aib h
theorem xD{ops:List Oper}{F:aH U}{X af:al}{g:Option (Nat×Bool)}{b:Bool}(h:ir ops F X g=some (b,af)):di X af:=by
 unfold ir at h;split at h
 ·cases h;exact di.refl _
 ·split at h<;>try(cases h;done)
  split at h<;>try(cases h;done)
  split at h<;>try(cases h;done)
  rename_i y _;unfold mW at h;cases aN:ua y with
  |true=>
   simp only[aN,cond_true,Option.some.injEq,Prod.mk.injEq] at h;obtain⟨rfl,rfl⟩:=h;exact di.refl _
  |false=>
   simp only[aN,cond_false] at h;split at h<;>try(cases h;done)
   rename_i ag;cases h;exact yl ag
theorem vy{callf:cc}(ae:fX callf){ops:List Oper}{o:Oper}{F:aH U}{X af:al}{y:U}(h:jZ P callf ops o F X=some (y,af)):di X af:=by
 unfold jZ at h;split at h
 ·rename_i X1 hw;exact(xD hw).trans (anV ae h)
 ·rename_i X1 hw;cases h;exact xD hw
 ·cases h
theorem XR{callf:cc}(ae:fX callf){N:Nat}{ops:List Oper}{o:Oper}{F F':aH U}{X af:al}(h:kn P callf N ops o F X=some (F',af)):di X af:=by
 obtain⟨y,bb,_⟩:=lL.1 h;exact vy ae bb
theorem asS{c:Call}{ch:List U}{X af:al}{y:U}{b:Builtin}(aB:mD P (.call c)=true)(ag:c.callee= .builtin b)(h:ja P b c.argTypes ch X=some (y,af)):
 af=X/\∀X1,ja P b c.argTypes ch X1=some (y,X1):=by
 unfold ja at h;split at h
 ·split at h<;>try(cases h;done)
  rename_i aN;obtain⟨h',eL⟩:=gW h;exact⟨eL.symm,λX1=>by simp only[ja,aN,h',eC]⟩
 ·split at h<;>try(cases h;done)
  rename_i aN;obtain⟨h',eL⟩:=gW h;exact⟨eL.symm,λX1=>by simp only[ja,aN,h',eC]⟩
 ·obtain⟨h',eL⟩:=gW h;exact⟨eL.symm,λX1=>by simp only[ja,h',eC]⟩
 ·obtain⟨h',eL⟩:=gW h;exact⟨eL.symm,λX1=>by simp only[ja,h',eC]⟩
 ·simp[mD,EZ,ag,Sj] at aB
 ·simp[mD,EZ,ag,Sj] at aB
 ·cases h
theorem asT{callf:cc}{o:Oper}{F:aH U}{X af:al}{y:U}(aB:mD P o.op=true)(aq:X.cN=[])(h:ku P callf o F X=some (y,af)):
 af=X/\∀X1,X1.aO=X.aO->ku P callf o F X1=some (y,X1):=by
 unfold ku at h⊢;split at h<;>try(cases h;done)
 rename_i ch aJ;split at h
 ·rename_i c ae;unfold yw at h;rw[ae] at aB;split at h
  ·rename_i b h8;obtain⟨h1,h2⟩:=asS aB h8 h;exact⟨h1,λX1 l0=>by simp only[l0,aJ,yw,h8];exact h2 X1⟩
  ·rename_i h8;have nc:EZ c.callee=true:=aB;unfold EZ at nc;split at nc
   ·rename_i b ag;exact absurd ag (h8 b)
   ·cases nc
 ·rename_i op ca;obtain⟨h1,h2⟩:=asU aB aq h;refine⟨h1,λX1 l0=>?_⟩;simp only[l0,aJ];exact h2 X1
theorem L1{callf:cc}{ops:List Oper}{o:Oper}{F:aH U}{X af:al}{y:U}(aB:mD P o.op=true)(aq:X.cN=[])(h:jZ P callf ops o F X=some (y,af)):
 af=X/\∀X1,X1.aO=X.aO->jZ P callf ops o F X1=some (y,X1):=by
 unfold jZ at h⊢;split at h
 ·rename_i c5 hw;obtain⟨rfl,vk⟩:=Cp aq hw;obtain⟨h1,h2⟩:=asT aB aq h;refine⟨h1,λX1 l0=>?_⟩;rw[vk X1];exact h2 X1 l0
 ·rename_i c5 hw;obtain⟨rfl,vk⟩:=Cp aq hw;cases h;exact⟨rfl,λX1 _=>by rw[vk X1]⟩
 ·cases h
def Xv:List U->Option Nat
 | [.ptr k _]=>some k
 | [.aF k _ _ _ _]=>some k
 | [.mp k,_]=>some k
 |_=>none
theorem arA{t:TypeId}{m k y:U}{ok:Bool}{X X1:al}(ai:∀j,m= .mp j->X1.aV.get j=X.aV.get j)(h:z3 P t m k ok X=some y):z3 P t m k ok X1=some y:=by cases h
theorem aBo{op:Op}{ch:List U}{X af:al}{y:U}(aB:fo P op=true)(h:dX P op ch X=some (y,af)):af=X/\∀X1:al,(∀k,Xv ch=some k->X1.aV.get k=X.aV.get k)->dX P op ch X1=some (y,X1):=by
 unfold dX at h;split at h
 case h_8=>
  obtain⟨h',eL⟩:=gW h;refine⟨eL.symm,λX1 ai=>?_⟩;simp only[dX,rD,ai _ rfl,eC] at h'⊢;rw[h']
 case h_13=>
  rename_i s d _ x;have ak:F8 P s d=true:=aB;split at h
  ·rename_i ae;cases h;exact⟨rfl,λX1 _=>by simp only[dX,ae]⟩
  ·rename_i ae
   have:af=X/\∀X1:al,(∀k,Xv [x]=some k->X1.aV.get k=X.aV.get k)->jP P s d x X1=some (y,X1):=by
    unfold F8 at ak;split at ak<;>try(cases ak;done)
    rename_i e h1 h2;unfold jP at h;simp only[h1,h2] at h;split at h
    ·rename_i he _;cases he
    ·rename_i _ he;cases he
    ·rename_i a c he _;cases he;cases aP:hT P e with
     |false=>simp[aP] at h
     |true=>
      simp only[aP,cond_true,Option.some.injEq,Prod.mk.injEq] at h;obtain⟨rfl,rfl⟩:=h;exact⟨rfl,λX1 _=>by simp only[jP,h1,h2,aP,cond_true]⟩
    ·rename_i a he _;cases he;cases aP:hT P e with
     |false=>simp[aP] at h
     |true=>
      simp only[aP,cond_true,Option.some.injEq,Prod.mk.injEq] at h;obtain⟨rfl,rfl⟩:=h;exact⟨rfl,λX1 _=>by simp only[jP,h1,h2,aP,cond_true]⟩
    ·rename_i k off n cap lo he _;cases he;cases aP:hT P e with
     |false=>simp[aP] at h
     |true=>
      simp only[aP,cond_true] at h;split at h<;>try(cases h;done)
      rename_i o aq;split at h<;>try(cases h;done)
      rename_i ys eU;split at h<;>try(cases h;done)
      rename_i lJ tQ;cases h;exact⟨rfl,λX1 ai=>by simp only[jP,h1,h2,aP,cond_true,ai k rfl,aq,eU,tQ]⟩
    ·cases h
   exact⟨this.1,λX1 ai=>by simp only[dX,ae];exact this.2 X1 ai⟩
 all_goals first
  |(simp[fo] at aB;done)
  |(cases h;done)
  |(obtain⟨h',eL⟩:=gW h
    refine⟨eL.symm,λX1 ai=>?_⟩
    simp only[dX,eC,arA (λk e=>ai k (by rw[e];rfl)) h'])
theorem ahB{callf:cc}{o:Oper}{F:aH U}{X:al}(h:fo P o.op=true):ku P callf o F X=match looks X.aO F o.op.operands.toList with
 |none=>none
 |some ch=>dX P o.op ch X:=by
 unfold ku;cases looks X.aO F o.op.operands.toList with
 |none=>rfl
 |some ch=>
  simp only[];split
  ·rename_i ae;simp[ae,fo] at h
  ·rfl
theorem xA{callf:cc}{ops:List Oper}{o:Oper}{F:aH U}{X af:al}{y:U}(aB:fo P o.op=true)(aq:X.cN=[])(h:jZ P callf ops o F X=some (y,af)):
 af=X/\∀X1,X1.aO=X.aO->(∀k,addrOf ops o F X=some k->X1.aV.get k=X.aV.get k)->jZ P callf ops o F X1=some (y,X1):=by
 unfold jZ at h⊢;unfold addrOf;split at h
 ·rename_i c5 hw;obtain⟨rfl,vk⟩:=Cp aq hw;rw[ahB aB] at h;split at h<;>try(cases h;done)
  rename_i ch aJ;obtain⟨e,lF⟩:=aBo aB h;refine⟨e,λX1 l0 ai=>?_⟩;rw[vk X1];simp only[];rw[ahB aB,l0,aJ];simp only[hw,aJ] at ai;refine lF X1 λk cO=>ai k ?_
  unfold Xv at cO;split at cO<;>first|exact cO|cases cO
 ·rename_i c5 hw;obtain⟨rfl,vk⟩:=Cp aq hw;cases h;exact⟨rfl,λX1 _ _=>by rw[vk X1]⟩
 ·cases h
theorem yi{ops:Array Oper}{o:Oper}{F F':aH U}{X:al}(h:∀t∈o.looksAt ops,F.get t=F'.get t):addrOf ops.toList o F X=addrOf ops.toList o F' X:=by
 obtain⟨hw,aJ⟩:=RM (X:=X) h;unfold addrOf;rw[hw];simp only[aJ]
theorem wh{ops:List Oper}{o:Oper}{F:aH U}{X X1:al}(aq:X.cN=[])(ik:X1.cN=[])(l0:X1.aO=X.aO):addrOf ops o F X1=addrOf ops o F X:=by
 unfold addrOf;cases hw:ir ops F X o.guard with
 |none=>
  cases pe:ir ops F X1 o.guard with
  |none=>rfl
  |some r=>obtain⟨b,c5⟩:=r;have:=(Cp ik pe).2 X;rw[hw] at this;cases this
 |some r=>
  obtain⟨b,c5⟩:=r;obtain⟨rfl,vk⟩:=Cp aq hw;rw[vk X1];cases b with
  |false=>rfl
  |true=>simp only[l0]
structure jr where
 pre:Nat->al
 post:Nat->al
 obj:Nat->Option Nat
def pM(P:Program)(callf:cc)(N:Nat)(ops:Array Oper)(S:jr)(i:Nat)(F:aH U)(X:al)(F':aH U)(af:al):Prop:=
 ∃o,ops[i]?=some o/\kn P callf N ops.toList o F X=some (F',af)/\(ou P o.op=true->X=S.pre i/\af=S.post i)/\(fo P o.op=true->addrOf ops.toList o F X=S.obj i)
theorem ah8{X af:al}(ai:di X af){k:Nat}(h:nL X af k=true):af.aV.get k=X.aV.get k:=by
 unfold nL at h;cases ag:Nat.blt k X.next with
 |false=>rw[ag] at h;cases h
 |true=>
  rw[ag] at h;have a9:k<X.next:=by rw[Nat.blt_eq] at ag;exact ag
  simp only[cond_true,Gg] at h;cases h1:X.aV.get k with
  |none=>simp[h1] at h
  |some o=>
   cases h2:af.aV.get k with
   |none=>simp[h1,h2] at h
   |some o'=>
    simp only[h1,h2] at h;rw[(ai.cq k o o' a9 h1 h2).2 (Nat.eq_of_beq_eq_true h).symm]
theorem aDk{s d:TypeId}(h:FW P s d=false):F8 P s d=false:=by
 unfold FW at h;unfold F8;cases ak:P.underlying s with
 |none=>rfl
 |some t=>cases t<;>first|rfl|(simp[ak] at h)
theorem Ke{op:Op}(h:mD P op=true):ou P op=false/\fo P op=false:=by
 have aQ:fo P op=false:=by
  cases op<;>first
   |rfl
   |(simp[mD] at h;done)
   |(simp only[mD,Bool.not_eq_true'] at h;exact aDk h)
 exact⟨by simp[ou,h],aQ⟩
theorem LK{op:Op}(h:fo P op=true):ou P op=false:=by simp[ou,h]
theorem ary{callf:cc}{ops:Array Oper}{dR cd:Oper}{F:aH U}{X jM iZ:al}{jo j1:U}(aJ:ae6 dR.op cd.op=true)(aq:X.cN=[])
 (hi:jZ P callf ops.toList dR F X=some (jo,jM))(aa:jZ P callf ops.toList cd F jM=some (j1,iZ)):
 fo P dR.op=true/\ou P cd.op=true/\jZ P callf ops.toList dR F iZ=some (jo,iZ):=by cases aJ
theorem aDc{callf:cc}(ae:fX callf){N:Nat}{ops:Array Oper}{S:jr}{bS:List (Nat×List Nat)}{i j:Nat}{dR cd:Oper}{F j4 xV:aH U}{X jM iZ:al}(oj:ops[i]?=some dR)(eT:ops[j]?=some cd)
 (ji:dR.apart ops cd=true)(D1:C6 P bS i j dR.op cd.op=true)(sn:ou P cd.op=true->m5 (iw bS j) i=true->∀k,S.obj i=some k->nL (S.pre j) (S.post j) k=true)
 (aq:X.cN=[])(h1:pM P callf N ops S i F X j4 jM)(h2:pM P callf N ops S j j4 jM xV iZ):
 ∃rN pO uN,pM P callf N ops S j F X rN pO/\pO.cN=[]/\pM P callf N ops S i rN pO uN iZ/\hN xV uN:=by
 obtain⟨asv,Ek,h1,bY,dd⟩:=h1;obtain⟨asw,El,h2,b2,dy⟩:=h2;rw[oj] at Ek;cases Ek;rw[eT] at El;cases El;obtain⟨aj,aC,a8⟩:=Oper.apart_spec ji;obtain⟨jo,ki,rfl⟩:=lL.1 h1;obtain⟨j1,Rs,rfl⟩:=lL.1 h2;have EM:∀t∈cd.looksAt ops,F.get t=(put N F dR.dst jo).get t:=λt aN=>(qc t λe=>aj t e aN).symm
 have li:∀t∈dR.looksAt ops,F.get t=(put N F cd.dst j1).get t:=λt aN=>(qc t λe=>a8 t e aN).symm
 have aa:jZ P callf ops.toList cd F jM=some (j1,iZ):=by rw[<- Rs];exact L0 EM
 have cH:∀X1 c5,jZ P callf ops.toList dR F X1=some (jo,c5)->jZ P callf ops.toList dR (put N F cd.dst j1) X1=some (jo,c5):=λX1 c5 h=>by
  rw[<- h];exact(L0 li).symm
 have pk:∀X1,addrOf ops.toList cd F X1=addrOf ops.toList cd (put N F dR.dst jo) X1:=λX1=>yi EM
 have qf:∀X1,addrOf ops.toList dR F X1=addrOf ops.toList dR (put N F cd.dst j1) X1:=λX1=>yi li
 have db:=put_comm (N:=N) (F:=F) (y:=jo) (z:=j1) aC;have JO:=vy ae ki;have nG:=vy ae aa;have BX:=JO.cN aq;have uo:=nG.cN BX;simp only[C6,Bool.or_eq_true,Bool.and_eq_true] at D1;rcases D1 with(((aB|aB)|⟨qY,vh⟩)|⟨⟨qY,ka⟩,aR⟩)|aJ
 ·obtain⟨rfl,lF⟩:=L1 aB aq ki;obtain⟨oB,vp⟩:=Ke aB
  exact⟨_,iZ,_,⟨cd,eT,lL.2 ⟨j1,aa,rfl⟩,b2,λh=>by rw[pk];exact dy h⟩,uo,
   ⟨dR,oj,lL.2 ⟨jo,cH _ _ (lF iZ nG.aO),rfl⟩,λh=>(by rw[oB] at h;cases h),λh=>(by rw[vp] at h;cases h)⟩,db⟩
 ·obtain⟨rfl,lF⟩:=L1 aB BX aa;obtain⟨oB,vp⟩:=Ke aB
  exact⟨_,X,_,⟨cd,eT,lL.2 ⟨j1,lF X JO.aO.symm,rfl⟩,λh=>(by rw[oB] at h;cases h),λh=>(by rw[vp] at h;cases h)⟩,aq,
   ⟨dR,oj,lL.2 ⟨jo,cH _ _ ki,rfl⟩,bY,λh=>by rw[<- qf];exact dd h⟩,db⟩
 ·obtain⟨az,_⟩:=xA qY aq ki;subst az;obtain⟨ay,_⟩:=xA vh aq aa;subst ay
  exact⟨_,_,_,⟨cd,eT,lL.2 ⟨j1,aa,rfl⟩,b2,λh=>by rw[pk];exact dy h⟩,aq,
   ⟨dR,oj,lL.2 ⟨jo,cH _ _ ki,rfl⟩,bY,λh=>by rw[<- qf];exact dd h⟩,db⟩
 ·obtain⟨az,lF⟩:=xA qY aq ki;subst az;have oB:=LK qY;obtain⟨bM,cz⟩:=b2 ka
  refine⟨_,iZ,_,⟨cd,eT,lL.2 ⟨j1,aa,rfl⟩,b2,λh=>by rw[pk];exact dy h⟩,uo,
   ⟨dR,oj,lL.2 ⟨jo,cH _ _ (lF iZ nG.aO λk ai=>?_),rfl⟩,λh=>(by rw[oB] at h;cases h),λh=>by rw[<- qf,wh aq uo nG.aO];exact dd h⟩,db⟩
  have:=sn ka aR k (by rw[<- dd qY];exact ai)
  rw[<- bM, <- cz] at this;exact ah8 nG this
 ·obtain⟨qY,ka,Rb⟩:=ary aJ aq ki aa;obtain⟨az,_⟩:=xA qY aq ki;subst az;have oB:=LK qY
  exact⟨_,iZ,_,⟨cd,eT,lL.2 ⟨j1,aa,rfl⟩,b2,λh=>by rw[pk];exact dy h⟩,uo,
   ⟨dR,oj,lL.2 ⟨jo,cH _ _ Rb,rfl⟩,λh=>(by rw[oB] at h;cases h),λh=>by rw[<- qf,wh aq uo nG.aO];exact dd h⟩,db⟩
end
section
variable{P:Program}{B:Nat}{aZ w:World}{E:Env}{bq:List Deferred}
def rU(P:Program)(callf:cc)(N:Nat)(ops:Array Oper)(S:jr)(G:aH U->al->Prop):Nat->Array Bool->aH U->al->Prop
 |0,listed,F,X=>Region.ready .any ops listed=[]/\G F X
 |n+1,listed,F,X=>(Region.ready .any ops listed=[]->G F X)/\
  ∀i∈Region.ready .any ops listed,∃F' af,pM P callf N ops S i F X F' af/\rU P callf N ops S G n (listed.setIfInBounds i true) F' af
theorem Zi{callf:cc}{N:Nat}{ops:Array Oper}{S:jr}{G:aH U->al->Prop}(jh:∀F F' X,hN F F'->G F X->G F' X):
 ∀(n:Nat) (listed:Array Bool) (F F':aH U) (X:al),hN F F'->rU P callf N ops S G n listed F X->rU P callf N ops S G n listed F' X
 |0,_,_,_,_,he,h=>⟨h.1,jh _ _ _ he h.2⟩
 |n+1,listed,F,F',X,he,h=>⟨λaQ=>jh _ _ _ he (h.1 aQ),λi hi=>by
   obtain⟨aL,X1,⟨o,aq,h1,ag,aQ⟩,h2⟩:=h.2 i hi;obtain⟨uO,h3,aT⟩:=aC6 he h1
   exact⟨uO,X1,⟨o,aq,h3,ag,λh=>by rw[<- yi (λt _=>he t)];exact aQ h⟩,Zi jh n _ _ _ _ aT h2⟩⟩
theorem Zl{callf:cc}{N:Nat}{ops:Array Oper}{S fi:jr}{G:aH U->al->Prop}:
 ∀(n:Nat) (listed:Array Bool) (F:aH U) (X:al),(∀i,listed.getD i true=false->fi.pre i=S.pre i/\fi.post i=S.post i/\fi.obj i=S.obj i)->rU P callf N ops S G n listed F X->rU P callf N ops fi G n listed F X
 |0,_,_,_,_,h=>h
 |n+1,listed,F,X,ak,h=>⟨h.1,λi hi=>by
   obtain⟨aL,X1,⟨o,aq,h1,ag,aQ⟩,h2⟩:=h.2 i hi;obtain⟨az,ay,b9⟩:=ak i (mem_ready.1 hi).1;refine⟨aL,X1,⟨o,aq,h1,λh=>by rw[az,ay];exact ag h,λh=>by rw[b9];exact aQ h⟩,Zl n _ _ _ (λj aa=>ak j ?_) h2⟩;by_cases e:i=j
   ·subst e;exact(mem_ready.1 hi).1
   ·rw[getD_set_ne true e] at aa;exact aa⟩
structure Inv (ops:Array Oper) (i:Nat) (k4:Array Bool) (r:List Bool) (listed:Array Bool):Prop where
 lH:∀k,listed.getD k false=true->r.getD k false=true
 more:∀k,k4.getD k true=true->listed.getD k true=true
theorem aiA{bS:List (Nat×List Nat)}{ops:Array Oper}{k4:Array Bool}{i:Nat}{dR:Oper}{r:List Bool}(hi:ops[i]?=some dR)(h:LY P bS ops k4 i r=true){j:Nat}{cd:Oper}(aa:ops[j]?=some cd)(ca:j≠i):
 (r.getD j false=true/\(k4.getD j true=true\/(dR.apart ops cd=true/\C6 P bS i j dR.op cd.op=true)))\/
 (r.getD j false=false/\k4.getD j true=false/\∃e∈cd.after,Region.binds .any e=true/\r.getD e.on false=false):=by
 unfold LY at h;simp only[hi,List.all_eq_true,List.mem_range] at h;have a9:=(Array.getElem?_eq_some_iff.1 aa).1
 have:=h j a9
 simp only[aa] at this;have ag:(j==i)=false:=by simpa using ca
 simp only[ag,Bool.false_or] at this;cases aQ:r.getD j false with
 |true=>
  simp only[aQ,cond_true,Bool.or_eq_true,Bool.and_eq_true] at this;exact .inl ⟨rfl,this⟩
 |false=>
  simp only[aQ,cond_false,Bool.and_eq_true,Bool.not_eq_true',Array.any_eq_true'] at this;obtain⟨h1,e,he,h2,h3⟩:=this;exact .inr ⟨rfl,h1,e,he,h2,h3⟩
theorem ak1{callf:cc}(ae:fX callf){N:Nat}{ops:Array Oper}{S:jr}{G:aH U->al->Prop}(jh:∀F F' X,hN F F'->G F X->G F' X){i:Nat}{dR:Oper}(hi:ops[i]?=some dR)
 {k4:Array Bool}{r:List Bool}{bS:List (Nat×List Nat)}(eN:LY P bS ops k4 i r=true)
 (sn:∀j cd,ops[j]?=some cd->k4.getD j true=false->j≠i->ou P cd.op=true->m5 (iw bS j) i=true->∀k,S.obj i=some k->nL (S.pre j) (S.post j) k=true):
 ∀(n:Nat) (listed:Array Bool) (F j4:aH U) (X jM:al),Inv ops i k4 r listed->i∈Region.ready .any ops listed->X.cN=[]->pM P callf N ops S i F X j4 jM->
  rU P callf N ops S G n (listed.setIfInBounds i true) j4 jM->rU P callf N ops S G (n+1) listed F X:=by
 intro n
 induction n with
 |zero=>
  intro listed F j4 X jM _ aQ _ ak H;refine⟨λh=>(by rw[h] at aQ;cases aQ),λj aa=>?_⟩;by_cases lG:j=i
  ·subst lG;exact⟨j4,jM,ak,H⟩
  ·have:=ready_mono aa lG
   rw[H.1] at this;cases this
 |succ n bp=>
  intro listed F j4 X jM inv aQ aq ak H;refine⟨λh=>(by rw[h] at aQ;cases aQ),λj aa=>?_⟩;by_cases lG:j=i
  ·subst lG;exact⟨j4,jM,ak,H⟩
  ·obtain⟨xV,iZ,h1,h2⟩:=H.2 j (ready_mono aa lG);obtain⟨Bl,cd,eT,gd⟩:=mem_ready.1 aa
   have kW:k4.getD j true=false:=by
    cases h:k4.getD j true with
    |false=>rfl
    |true=>have:=inv.more j h;rw[Bl] at this;cases this
   have QD:=aiA hi eN eT lG
   have yO:r.getD j false=true/\dR.apart ops cd=true/\C6 P bS i j dR.op cd.op=true:=by
    rcases QD with⟨h3,aT⟩|⟨_,_,e,he,ag,aR⟩
    ·rcases aT with aT|aT
     ·rw[kW] at aT;cases aT
     ·exact⟨h3,aT⟩
    ·have:=inv.lH _ (gd e he ag);rw[aR] at this;cases this
   obtain⟨rN,pO,uN,k1,k2,hG,ow⟩:=aDc ae hi eT yO.2.1 yO.2.2 (sn j cd eT kW lG) aq ak h1;refine⟨rN,pO,k1,?_⟩;refine bp (listed.setIfInBounds j true) rN uN pO iZ ⟨λk ai=>?_,λk ai=>?_⟩ (ready_mono aQ (Ne.symm lG)) k2 hG ?_
   ·by_cases e:j=k
    ·subst e;exact yO.1
    ·rw[getD_set_ne false e] at ai;exact inv.lH k ai
   ·by_cases e:j=k
    ·subst e;have:=inv.more j ai;rw[Bl] at this;cases this
    ·rw[getD_set_ne true e];exact inv.more k ai
   ·rw[Array.setIfInBounds_comm _ _ lG];exact Zi jh n _ _ _ _ ow h2
theorem getD_set_true{l:Array Bool}{k j:Nat}(h:(l.setIfInBounds k true).getD j true=false):l.getD j true=false/\j≠k:=by
 by_cases e:k=j
 ·subst e
  exfalso
  rcases Nat.lt_or_ge k l.size with h'|h'
  ·simp[h'] at h
  ·simp at h
 ·rw[getD_set_ne true e] at h;exact⟨h,λbd=>e bd.symm⟩
theorem JV{bS:List (Nat×List Nat)}{ops:Array Oper}:∀(bL:List Nat) (listed:Array Bool),zv P bS ops bL listed=true->(∀j∈bL,listed.getD j true=false)/\∀j,listed.getD j true=false->j∈bL
 | [],listed,h=>by
   refine⟨λj aa=>(by cases aa),λj aa=>?_⟩;simp only[zv,Array.all_eq_true_iff_forall_mem] at h;rcases Nat.lt_or_ge j listed.size with h'|h'
   ·have:=h listed[j] (Array.getElem_mem h')
    simp only[id] at this;simp[h',this] at aa
   ·simp[Array.getElem?_eq_none h'] at aa
 |k::bL,listed,h=>by
  simp only[zv,Bool.and_eq_true] at h;obtain⟨⟨⟨aQ,nb⟩,dc⟩,kX⟩:=h;have sl:k∈Region.ready .any ops listed:=by simpa using aQ
  have ai:=(mem_ready.1 sl).1;obtain⟨i1,i2⟩:=JV bL _ kX;refine⟨λj aa=>?_,λj aa=>?_⟩
  ·rcases List.mem_cons.1 aa with rfl|aa
   ·exact ai
   ·exact(getD_set_true (i1 j aa)).1
  ·by_cases e:j=k
   ·subst e;exact List.mem_cons_self ..
   ·refine List.mem_cons_of_mem _ (i2 j ?_);rw[getD_set_ne true (λbd=>e bd.symm)];exact aa
theorem Od{bJ:List (Nat×Option Nat)}{X af:al}:∀{ls:List Nat},kt bJ X af ls=true->∀l,m5 ls l=true->∀k,mq bJ l=some k->nL X af k=true
 | [],_,l,aJ,_,_=>by simp[m5] at aJ
 |dJ::ls,h,l,aJ,k,ai=>by
  simp only[kt,Bool.and_eq_true] at h;simp only[m5,Bool.or_eq_true] at aJ;rcases aJ with aJ|aJ
  ·have e:=Nat.eq_of_beq_eq_true aJ;subst e
   have:=h.1
   rw[ai] at this;exact this
  ·exact Od h.2 l aJ k ai
def jr.set(S:jr)(k:Nat)(X af:al)(a:Option Nat):jr:=
 {pre:=λj=>if j=k then X else S.pre j,post:=λj=>if j=k then af else S.post j,obj:=λj=>if j=k then a else S.obj j}
theorem Zj{callf:cc}(ae:fX callf){N:Nat}{ops:Array Oper}{bS:List (Nat×List Nat)}{F':aH U}{af:al}:∀(bL:List Nat) (bJ:List (Nat×Option Nat)) (listed:Array Bool) (F:aH U) (X:al),listed.size=ops.size->X.cN=[]->
 zv P bS ops bL listed=true->iK P callf N ops.toList bS bL bJ F X=some (F',af)->∃S:jr,rU P callf N ops S (λaL X1=>hN F' aL/\X1=af) bL.length listed F X/\
  ∀i,i ∉ bL->∀k,mq bJ i=some k->∀j cd,j∈bL->ops[j]?=some cd->ou P cd.op=true->m5 (iw bS j) i=true->nL (S.pre j) (S.post j) k=true
 | [],bJ,listed,F,X,_,_,aJ,h=>by
   simp only[iK,Option.some.injEq,Prod.mk.injEq] at h;obtain⟨rfl,rfl⟩:=h;refine⟨⟨λ_=>X,λ_=>X,λ_=>none⟩,⟨?_,hN.refl _,rfl⟩,λi _ k _ j cd aa=>by cases aa⟩
   have:=(JV [] listed aJ).2
   cases aQ:Region.ready .any ops listed with
   |nil=>rfl
   |cons a e3=>
    have bV:a∈Region.ready .any ops listed:=by rw[aQ];exact List.mem_cons_self ..
    have:=this a (mem_ready.1 bV).1
    cases this
 |k::bL,bJ,listed,F,X,dP,aq,aJ,h=>by
  obtain⟨Eu,QI⟩:=JV (k::bL) listed aJ;simp only[iK] at h;split at h<;>try(cases h;done)
  rename_i o eN;split at h<;>try(cases h;done)
  rename_i aL X1 ak;cases kb:kt bJ X X1 (iw bS k) with
  |false=>rw[kb] at h;cases h
  |true=>
   rw[kb] at h;simp only[cond_true] at h;simp only[zv,Bool.and_eq_true] at aJ;obtain⟨⟨⟨aQ,nb⟩,dc⟩,kX⟩:=aJ;have ai:ops[k]?=some o:=by simpa using eN
   have sl:k∈Region.ready .any ops listed:=by simpa using aQ
   have ik:X1.cN=[]:=(XR ae ak).cN aq;obtain⟨uS,pY,Em⟩:=Zj ae bL _ _ aL X1 (by simpa using dP) ik kX h;obtain⟨Rj,aGz⟩:=JV bL _ kX;have Eb:k ∉ bL:=λvd=>(getD_set_true (Rj k vd)).2 rfl
   have ca:∀j,j∈bL->j≠k:=λj aa e=>Eb (e▸aa)
   let S:jr:=uS.set k X X1 (bif fo P o.op then addrOf ops.toList o F X else none)
   have dW:∀j,j≠k->S.pre j=uS.pre j/\S.post j=uS.post j/\S.obj j=uS.obj j:=λj aa=>⟨if_neg aa,if_neg aa,if_neg aa⟩
   have pX:S.pre k=X/\S.post k=X1/\S.obj k=(bif fo P o.op then addrOf ops.toList o F X else none):=⟨if_pos rfl,if_pos rfl,if_pos rfl⟩;refine⟨S,?_,?_⟩
   ·have QA:rU P callf N ops S (λaL X1=>hN F' aL/\X1=af) bL.length (listed.setIfInBounds k true) aL X1:=Zl bL.length _ _ _ (λj aa=>dW j (getD_set_true aa).2) pY;refine ak1 ae (λF aL X he bc=>⟨bc.1.trans he,bc.2⟩) ai dc ?_ bL.length listed F aL X X1 ⟨λj aa=>?_,λj aa=>aa⟩ sl aq ⟨o,ai,ak,λ_=>⟨pX.1.symm,pX.2.1.symm⟩,λp2=>by rw[pX.2.2,p2];rfl⟩ QA
    ·intro j cd eT kW jk ag aR b6 cO;rw[pX.2.2] at cO
     have QX:j∈bL:=by
      rcases List.mem_cons.1 (QI j kW) with e|e
      ·exact absurd e jk
      ·exact e
     obtain⟨az,ay,_⟩:=dW j jk;rw[az,ay];cases p2:fo P o.op with
     |true=>
      rw[p2] at cO;simp only[cond_true] at cO;refine Em k Eb b6 ?_ j cd QX eT ag aR;simp only[p2,cond_true,mq];rw[cO]
      have:Nat.beq k k=true:=by simp
      rw[this];rfl
     |false=>rw[p2] at cO;cases cO
    ·by_cases jk:j=k
     ·subst jk;have Ev:=Eu j (List.mem_cons_self ..);rcases Nat.lt_or_ge j listed.size with h'|h'
      ·simp[h'] at Ev aa;rw[Ev] at aa;cases aa
      ·simp[Array.getElem?_eq_none h'] at aa
     ·cases eT:ops[j]? with
      |none=>
       exfalso
       rcases Nat.lt_or_ge j listed.size with h'|h'
       ·rw[dP] at h';rw[Array.getElem?_eq_none_iff] at eT;omega
       ·simp[Array.getElem?_eq_none h'] at aa
      |some cd=>
       rcases aiA ai dc eT jk with⟨h1,_⟩|⟨_,h1,_⟩
       ·exact h1
       ·rcases Nat.lt_or_ge j listed.size with h'|h'
        ·simp[h'] at h1 aa;rw[h1] at aa;cases aa
        ·simp[Array.getElem?_eq_none h'] at aa
   ·intro i hi b6 cO j cd aa eT ag aR;have QU:i≠k:=λe=>hi (by rw[e];exact List.mem_cons_self ..)
    rcases List.mem_cons.1 aa with rfl|aa
    ·rw[pX.1,pX.2.1];exact Od kb i aR b6 cO
    ·obtain⟨az,ay,_⟩:=dW j (ca j aa);rw[az,ay];refine Em i (λh=>hi (List.mem_cons_of_mem _ h)) b6 ?_ j cd aa eT ag aR;cases fo P o.op with
     |true=>
      simp only[cond_true,mq]
      have:Nat.beq k i=false:=by
       cases h:Nat.beq k i with
       |false=>rfl
       |true=>exact absurd (Nat.eq_of_beq_eq_true h).symm QU
      rw[this];exact cO
     |false=>exact cO
theorem Zk{callf:cc}(c0:jI P callf){N:Nat}{ops:Array Oper}{S:jr}{G:aH U->al->Prop}(jh:∀F X,G F X->cX X):∀(n:Nat) (listed:Array Bool) (F:aH U) (X:al),rU P callf N ops S G n listed F X->cX X
 |0,_,_,_,h=>jh _ _ h.2
 |n+1,listed,F,X,h=>by
  cases aQ:Region.ready .any ops listed with
  |nil=>exact jh _ _ (h.1 aQ)
  |cons i is=>
   obtain⟨aL,X1,⟨o,_,h1,_⟩,h2⟩:=h.2 i (by rw[aQ];exact List.mem_cons_self ..);exact XW c0 h1 (Zk c0 jh n _ _ _ h2)
theorem ajn{callf:cc}(c0:jI P callf){N:Nat}{ops:Array Oper}{S:jr}(kh:∀o∈ops,p9 o.op=true){G:aH U->al->Prop}(jh:∀F X,G F X->cX X)(ro:Option Nat)
 {Q:Exit->Act->World->Prop}:∀(n:Nat) (listed:Array Bool) (F:aH U) (X:al) (E:Env) (a:Act) (w:World),rU P callf N ops S G n listed F X->bQ P B aZ X E w->fD bq N E F a->
   (∀aL X1 aW a' w',G aL X1->cQ E aW->fD bq N aW aL a'->bQ P B aZ X1 aW w'->Q .normal a' w')->wpAnyIn (gE ro) 0 P .any ops Q n listed a w
 |0,_,F,X,E,a,w,h,aE,aY,dG=>⟨h.1,dG F X E a w h.2 (cQ.refl _) aY aE⟩
 |n+1,listed,F,X,E,a,w,h,aE,aY,dG=>by
  refine⟨λaQ=>dG F X E a w (h.1 aQ) (cQ.refl _) aY aE,λi hi=>?_⟩;obtain⟨aL,X1,⟨o,aq,h1,_⟩,h2⟩:=h.2 i hi;unfold wpOpIn;simp only[aq]
  exact aiF c0 aE aY (kh o (Array.mem_of_getElem? aq)) h1 (Zk c0 jh n _ _ _ h2) ro (λaW a' w' aj aC a8=>
   ajn c0 kh jh ro n _ aL X1 aW a' w' h2 a8 aC (λbw c5 nR uV vD bY b2=>dG bw c5 nR uV vD bY (aj.trans b2)))
theorem Oj{callf:cc}(ae:fX callf){N:Nat}{ops:List Oper}{bS:List (Nat×List Nat)}:∀{bL:List Nat} {bJ:List (Nat×Option Nat)} {F F':aH U} {X af:al},iK P callf N ops bS bL bJ F X=some (F',af)->di X af
 | [],_,_,_,_,_,h=>by simp only[iK,Option.some.injEq,Prod.mk.injEq] at h;obtain⟨rfl,rfl⟩:=h;exact di.refl _
 |k::bL,bJ,F,F',X,af,h=>by
  simp only[iK] at h;split at h<;>try(cases h;done)
  split at h<;>try(cases h;done)
  rename_i aL X1 ak;generalize kt bJ X X1 (iw bS k)=b at h;cases b with
  |false=>cases h
  |true=>exact(XR ae ak).trans (Oj ae h)
theorem aas{callf:cc}(c0:jI P callf){N:Nat}{ops:List Oper}{bS:List (Nat×List Nat)}:∀{bL:List Nat} {bJ:List (Nat×Option Nat)} {F F':aH U} {X af:al},iK P callf N ops bS bL bJ F X=some (F',af)->cX af->cX X
 | [],_,_,_,_,_,h,aB=>by simp only[iK,Option.some.injEq,Prod.mk.injEq] at h;obtain⟨rfl,rfl⟩:=h;exact aB
 |k::bL,bJ,F,F',X,af,h,aB=>by
  simp only[iK] at h;split at h<;>try(cases h;done)
  split at h<;>try(cases h;done)
  rename_i aL X1 ak;generalize kt bJ X X1 (iw bS k)=b at h;cases b with
  |false=>cases h
  |true=>exact XW c0 ak (aas c0 h aB)
end
def al.add(X:al)(m:Nat)(ob:bH):al:={X with aV:=X.aV.put m ob}
structure c9 (X:al) (m:Nat):Prop where
 dead:X.aV.get m=none
 lt:m<X.next
theorem c9.keeps{X af:al}{m:Nat}(h:c9 X m)(k:di X af):c9 af m:=⟨k.dead m h.lt h.dead,Nat.lt_of_lt_of_le h.lt k.next⟩
section
variable{P:Program}{X af:al}{m:Nat}{ob:bH}
theorem add_get(h:c9 X m){k:Nat}{o:bH}(ai:X.aV.get k=some o):(X.add m ob).aV.get k=some o/\k≠m:=by
 have ca:k≠m:=λe=>by rw[e,h.dead] at ai;cases ai
 refine⟨?_,ca⟩;show(X.aV.put m ob).get k=some o;rw[cE.kT,if_neg ca];exact ai
theorem AE(h:c9 X m)(o:bH):((X.add m ob).new o)=((X.new o).1,((X.new o).2).add m ob):=by
 unfold al.new al.add;simp only[Prod.mk.injEq,true_and];rw[cE.put_comm _ _ _ (by have:=h.lt;omega)]
theorem NO(h:c9 X m)(ty:TypeId)(cells:List U):newRow (X.add m ob) ty cells=((newRow X ty cells).1,(newRow X ty cells).2.add m ob):=by
 unfold newRow;simp only[force_eq];exact AE h _
theorem akL(h:c9 X m)(ty:TypeId)(n:Nat)(cells:List U):nh (X.add m ob) ty n cells=((nh X ty n cells).1,(nh X ty n cells).2.add m ob):=by
 unfold nh;simp only[force_eq];exact AE h _
theorem Y7(h:c9 X m)(ty esz:Nat)(cells:List U):ng (X.add m ob) ty esz cells=((ng X ty esz cells).1,(ng X ty esz cells).2.add m ob):=by
 unfold ng;simp only[force_eq];exact AE h _
theorem AF(h:c9 X m){k:Nat}{o o':bH}(ai:X.aV.get k=some o):({X.add m ob with aV:=(X.add m ob).aV.put k o'}:al)=({X with aV:=X.aV.put k o'}:al).add m ob:=by
 obtain⟨_,ca⟩:=add_get (ob:=ob) h ai;unfold al.add;simp only[al.mk.injEq,true_and,and_true];exact cE.put_comm _ _ _ (λe=>ca e.symm)
theorem CW{y:U}{b:Bool}(h:hs X y=some (b,af)):hs (X.add m ob) y=some (b,af.add m ob):=by
 cases y with
 |bool c=>simp only[hs,Option.some.injEq,Prod.mk.injEq] at h⊢;obtain⟨rfl,rfl⟩:=h;exact⟨rfl,rfl⟩
 |val x=>
  cases x with
  |bool s=>
   simp only[hs,al.ask] at h;split at h
   ·rename_i o os aq;cases h
    have:(X.add m ob).cN=_::os:=aq
    simp only[hs,al.ask,this];rfl
   ·cases h
  |_=>simp[hs] at h
 |_=>simp[hs] at h
theorem Mm{o:Option U}{y:U}(h:eC X o=some (y,af)):eC (X.add m ob) o=some (y,af.add m ob):=by
 obtain⟨rfl,rfl⟩:=gW h;rfl
theorem ae7(au:c9 X m){t:TypeId}{k off:Nat}{y:U}(h:rD P t X k off=some y):rD P t (X.add m ob) k off=some y:=by
 unfold rD at h⊢;cases ai:X.aV.get k with
 |none=>simp[ai] at h
 |some o=>rw[ai] at h;rw[(add_get au ai).1];exact h
theorem aaM(au:c9 X m){sz n:Nat}{x:U}{ys:List U}(h:jv X sz x=some (n,ys)):jv (X.add m ob) sz x=some (n,ys):=by
 unfold jv at h⊢;split at h
 ·split at h<;>try(cases h;done)
  rename_i o aq;simp only[(add_get au aq).1];exact h
 ·exact h
 ·exact h
 ·exact h
 ·cases h
theorem aDg(au:c9 X m){t:TypeId}{k off:Nat}{y:U}(h:sL P t X k off y=some af):sL P t (X.add m ob) k off y=some (af.add m ob):=by
 unfold sL at h⊢;split at h<;>try(cases h;done)
 rename_i o n aq aR;simp only[(add_get au aq).1,aR];generalize(Nat.beq _ _&&_&&_&&_)=b at h⊢;cases b<;>simp only[cond_true,cond_false,Option.some.injEq,reduceCtorEq] at h⊢
 subst h;exact AF au aq
theorem Zv(au:c9 X m){e sz b eo:Nat}{cells:List U}{y:U}(h:nZ e sz b eo cells X=some (y,af)):nZ e sz b eo cells (X.add m ob)=some (y,af.add m ob):=by
 unfold nZ at h⊢;generalize(Nat.ble _ _&&_)=c at h⊢;cases c<;>simp only[cond_true,cond_false,Option.some.injEq,Prod.mk.injEq,reduceCtorEq] at h⊢
 obtain⟨rfl,rfl⟩:=h;rw[Y7 au];exact⟨rfl,rfl⟩
theorem Zs(au:c9 X m){k off len lo eo sz:Nat}{cap:Option Nat}{o:bH}{fg:List U}{y:U}(aq:X.aV.get k=some o)(h:oS k off len cap lo eo sz o fg X=some (y,af)):
 oS k off len cap lo eo sz o fg (X.add m ob)=some (y,af.add m ob):=by
 unfold oS at h⊢;generalize(Nat.ble _ _&&_)=c at h⊢;cases c<;>simp only[cond_true,cond_false,Option.some.injEq,Prod.mk.injEq,reduceCtorEq] at h⊢
 obtain⟨rfl,rfl⟩:=h;exact⟨rfl,AF au aq⟩
theorem ak4(au:c9 X m){k len eo sz b:Nat}{o:bH}{fg:List U}{y:U}(aq:X.aV.get k=some o)(h:rW k len eo sz b o fg X=some (y,af)):
 rW k len eo sz b o fg (X.add m ob)=some (y,af.add m ob):=by
 unfold rW at h⊢;generalize(Nat.ble _ _&&(_&&_))=c at h⊢;cases c<;>simp only[cond_true,cond_false,force_eq,Option.some.injEq,Prod.mk.injEq,reduceCtorEq] at h⊢
 obtain⟨rfl,rfl⟩:=h;refine⟨rfl,?_⟩;obtain⟨_,ca⟩:=add_get (ob:=ob) au aq;have a9:=au.lt;unfold al.add;simp only[al.mk.injEq,true_and,and_true];rw[<- cE.anf _ _ ca,cE.put_comm _ _ _ (by omega)]
theorem ZA(au:c9 X m){e sz b k off len lo n:Nat}{cap:Option Nat}{news:List U}{y:U}(h:kR e sz b k off len cap lo n news X=some (y,af)):kR e sz b k off len cap lo n news (X.add m ob)=some (y,af.add m ob):=by
 unfold kR at h⊢;split at h<;>try(cases h;done)
 rename_i o aq;simp only[(add_get au aq).1];rw[force_eq] at h⊢;split at h
 ·try simp only[]
  generalize Nat.ble _ _=bY at h⊢;cases bY<;>simp only[cond_true,cond_false] at h⊢
  ·split at h<;>try(cases h;done)
   exact Zv au h
  ·exact Zs au aq h
 ·try simp only[]
  generalize(Nat.beq _ _&&(_&&(_&&(_&&(_&&_)))))=bY at h⊢;cases bY<;>simp only[cond_true,cond_false,reduceCtorEq] at h⊢
  generalize Nat.ble _ _=b2 at h⊢;cases b2<;>simp only[cond_true,cond_false] at h⊢
  ·exact ak4 au aq h
  ·exact Zs au aq h
theorem alm(au:c9 X m){t:TypeId}{s x y:U}(h:po P t s x X=some (y,af)):po P t s x (X.add m ob)=some (y,af.add m ob):=by
 unfold po at h⊢;split at h<;>try(cases h;done)
 rename_i e aN;split at h<;>try(cases h;done)
 rename_i sz z b ak aX ag;split at h<;>try(cases h;done)
 rename_i n fg jR;simp only[aaM au jR];generalize(Nat.ble _ _&&(_&&(_&&_)))=c at h⊢;cases c<;>simp only[cond_true,cond_false,reduceCtorEq] at h⊢
 split at h
 ·rename_i a c
  try simp only[]
  generalize(Nat.beq a 0&&_)=bY at h⊢;cases bY<;>simp only[cond_true,cond_false,reduceCtorEq] at h⊢
  generalize Nat.beq _ 0=b2 at h⊢;cases b2<;>simp only[cond_true,cond_false] at h⊢
  ·exact Zv au h
  ·cases h;rfl
 ·try simp only[]
  exact ZA au h
 ·generalize Nat.beq _ 0=bY at h⊢;cases bY<;>simp only[cond_true,cond_false,reduceCtorEq] at h⊢
  cases h;rfl
 ·cases h
theorem ali(au:c9 X m){t:TypeId}{s x y:U}(h:qh P t s x X=some (y,af)):qh P t s x (X.add m ob)=some (y,af.add m ob):=by
 unfold qh at h⊢;split at h<;>try(cases h;done)
 rename_i hu
 try simp only[hu]
 split at h<;>try(cases h;done)
 rename_i h1 h2 h3
 try simp only[h1,h2,h3]
 split at h<;>try(cases h;done)
 rename_i ae
 try simp only[ae]
 generalize(Nat.beq _ _&&(_&&(_&&_)))=c at h⊢;cases c<;>simp only[cond_true,cond_false,reduceCtorEq] at h⊢
 split at h<;>try(cases h;done)
 exact ZA au h
theorem amT(au:c9 X m){t:TypeId}{s x y:U}(h:rC P t s x X=some (y,af)):rC P t s x (X.add m ob)=some (y,af.add m ob):=by
 unfold rC at h⊢;split at h<;>try(cases h;done)
 rename_i e aN;split at h<;>try(cases h;done)
 rename_i sz ak;split at h<;>try(cases h;done)
 rename_i n fg jR;simp only[aaM au jR];generalize(Nat.beq _ _&&_)=c at h⊢;cases c<;>simp only[cond_true,cond_false,reduceCtorEq] at h⊢
 split at h
 ·try simp only[]
  generalize Nat.beq _ _=bY at h⊢;cases bY<;>simp only[cond_true,cond_false,reduceCtorEq] at h⊢
  cases h;rfl
 ·try simp only[]
  split at h<;>try(cases h;done)
  rename_i o aq;simp only[(add_get au aq).1];rw[force_eq] at h⊢;generalize(Nat.ble _ _&&_)=bY at h⊢;cases bY<;>simp only[cond_true,cond_false,Option.some.injEq,Prod.mk.injEq,reduceCtorEq] at h⊢
  obtain⟨rfl,rfl⟩:=h;exact⟨rfl,AF au aq⟩
 ·cases h
theorem ZO(au:c9 X m){b:Builtin}{c8:Array TypeId}{ch:List U}{y:U}(h:ja P b c8 ch X=some (y,af)):ja P b c8 ch (X.add m ob)=some (y,af.add m ob):=by
 unfold ja at h⊢;split at h
 ·split at h<;>try(cases h;done)
  rename_i aN;exact Mm h
 ·split at h<;>try(cases h;done)
  rename_i aN;exact Mm h
 ·exact Mm h
 ·exact Mm h
 ·split at h<;>try(cases h;done)
  rename_i aN hu;split at h<;>try(cases h;done)
  rename_i aI;generalize sF _=bY at h⊢;cases bY<;>simp only[cond_true,cond_false,reduceCtorEq] at h⊢
  ·generalize vM _=b2 at h⊢;cases b2<;>simp only[cond_true,cond_false,reduceCtorEq] at h⊢
   exact ali au h
  ·exact alm au h
 ·split at h<;>try(cases h;done)
  rename_i aN;exact amT au h
 ·cases h
theorem amM(au:c9 X m){s d:TypeId}{x y:U}(h:jP P s d x X=some (y,af)):jP P s d x (X.add m ob)=some (y,af.add m ob):=by
 unfold jP at h⊢;split at h
 ·generalize(hT P _&&_)=b at h⊢;cases b<;>simp only[cond_true,cond_false,Option.some.injEq,Prod.mk.injEq,reduceCtorEq] at h⊢
  obtain⟨rfl,rfl⟩:=h;rw[Y7 au];exact⟨rfl,rfl⟩
 ·generalize(hT P _&&_)=b at h⊢;cases b<;>simp only[cond_true,cond_false,reduceCtorEq] at h⊢
  split at h<;>try(cases h;done)
  rename_i o aq;simp only[(add_get au aq).1];cases aQ:o.ro<;>simp only[aQ,cond_true,cond_false,reduceCtorEq] at h⊢
  cases h;rfl
 ·generalize hT P _=b at h⊢;cases b<;>simp only[cond_true,cond_false,reduceCtorEq] at h⊢
  cases h;rfl
 ·generalize hT P _=b at h⊢;cases b<;>simp only[cond_true,cond_false,reduceCtorEq] at h⊢
  cases h;rfl
 ·generalize hT P _=b at h⊢;cases b<;>simp only[cond_true,cond_false,reduceCtorEq] at h⊢
  split at h<;>try(cases h;done)
  rename_i o aq;split at h<;>try(cases h;done)
  rename_i ys eU;split at h<;>try(cases h;done)
  rename_i lJ tQ;simp only[(add_get au aq).1,eU,tQ];cases h;rfl
 ·cases h
theorem aBa(au:c9 X m){t:TypeId}{x y:U}(h:z4 P t x X=some (y,af)):z4 P t x (X.add m ob)=some (y,af.add m ob):=by cases h
theorem ar9(au:c9 X m){k:Nat}{y:U}(h:xv k X=some (y,af)):xv k (X.add m ob)=some (y,af.add m ob):=by cases h
def lh(callf:cc):Prop:=∀f args X y af m ob,callf f args X=some (y,af)->c9 X m->callf f args (X.add m ob)=some (y,af.add m ob)
theorem ar1(au:c9 X m):uj (X.add m ob)=((uj X).1,(uj X).2.add m ob):=AE au _
theorem arz(au:c9 X m){t:TypeId}{a k z:U}{ok:Bool}(h:z3 P t a k ok X=some z):z3 P t a k ok (X.add m ob)=some z:=by cases h
theorem aEJ(au:c9 X m){t:TypeId}{a k v:U}(h:xw P t a k v X=some af):xw P t a k v (X.add m ob)=some (af.add m ob):=by cases h
theorem anI(au:c9 X m){t:TypeId}{a k z:U}(h:zZ P t a k X=some (z,af)):zZ P t a k (X.add m ob)=some (z,af.add m ob):=by cases h
theorem anG(au:c9 X m){a b v:U}(h:xu a b v X=some af):xu a b v (X.add m ob)=some (af.add m ob):=by cases h
theorem ZV(au:c9 X m){c:Call}{ch:List U}{r:xQ×List U}(h:r3 P c ch X=some r):r3 P c ch (X.add m ob)=some r:=by
 unfold r3 at h⊢;split at h
 ·exact h
 ·split at h<;>try(cases h;done)
 ·cases h
theorem aia(au:c9 X m){op:Op}{ch:List U}{y:U}(h:dX P op ch X=some (y,af)):dX P op ch (X.add m ob)=some (y,af.add m ob):=by
 unfold dX at h;split at h
 case h_3=>
  unfold uB at h;split at h
  ·rename_i ag;cases h;simp only[dX,uB,CW (m:=m) (ob:=ob) ag]
  ·rename_i ag;cases h;simp only[dX,uB,CW (m:=m) (ob:=ob) ag]
  ·cases h
 case h_4=>
  unfold qg at h;split at h<;>cases h
  rename_i z aX;simp only[dX,qg,aX,NO au]
 case h_5=>
  unfold qi at h;rename_i x;cases ax:x.flat<;>simp only[ax,cond_false,cond_true] at h<;>cases h
  simp only[dX,qi,ax,cond_true,NO au]
 case h_7=>
  unfold oD at h;split at h<;>try(cases h;done)
  rename_i e hu;split at h<;>try(cases h;done)
  rename_i s z ak aX;generalize ae:(Nat.ble _ _&&Nat.ble 1 s&&_)=b at h;cases b<;>simp only[cond_true,cond_false] at h
  ·cases h
  ·split at h<;>cases h
   rename_i cs en;simp only[dX,oD,hu,ak,aX,ae,cond_true,en,NO au]
 case h_8=>
  obtain⟨h',rfl⟩:=gW h;simp only[dX,ae7 au h',eC]
 case h_9=>
  split at h<;>cases h
  rename_i X1 ak;simp only[dX,aDg au ak]
 case h_13=>
  split at h
  ·rename_i ae;cases h;simp only[dX,ae]
  ·rename_i ae;simp only[dX,ae];exact amM au h
 case h_16=>
  unfold qj at h;split at h<;>try(cases h;done)
  rename_i e hu;split at h<;>try(cases h;done)
  rename_i l c aJ fQ;split at h<;>try(cases h;done)
  rename_i s z b ak aX ag;generalize ae:(Nat.ble _ _&&_&&_&&_&&_)=b at h;cases b<;>simp only[cond_true,cond_false] at h<;>cases h
  simp only[dX,qj,hu,aJ,fQ,ak,aX,ag,ae,cond_true,akL au]
 all_goals first
  |(cases h;rfl)
  |(obtain⟨h',rfl⟩:=gW h;simp only[dX,eC,h'];done)
  |(obtain⟨h',rfl⟩:=gW h;simp only[dX,arz au h',eC];done)
  |(cases h;simp only[dX,ar1 au];done)
  |(split at h<;>cases h;rename_i hu;simp only[dX,aEJ au hu];done)
  |(simp only[dX,anI au h];done)
  |(split at h<;>cases h;rename_i hu;simp only[dX,anG au hu];done)
  |(cases h;done)
  |(simp only[dX];exact aBa au h)
  |(simp only[dX];exact ar9 au h)
theorem anU{callf:cc}(db:lh callf)(au:c9 X m){o:Oper}{F:aH U}{y:U}(h:ku P callf o F X=some (y,af)):ku P callf o F (X.add m ob)=some (y,af.add m ob):=by
 unfold ku at h⊢;split at h<;>try(cases h;done)
 rename_i ch aJ;have Ed:looks (X.add m ob).aO F o.op.operands.toList=some ch:=aJ;simp only[Ed];split at h
 ·unfold yw at h⊢;split at h
  ·exact ZO au h
  ·split at h<;>try(cases h;done)
   rename_i h8;rw[ZV au h8];unfold AN at h⊢;split at h<;>try(cases h;done)
   rename_i aX;cases h;simp only[db _ _ _ _ _ _ _ aX au]
 ·exact aia au h
theorem aa3{callf:cc}(db:lh callf)(au:c9 X m){o:Oper}{F:aH U}{y:Out}(h:ly P callf o F X=some (y,af)):ly P callf o F (X.add m ob)=some (y,af.add m ob):=by
 have af0:∀{ch:List U},l4 ch X=some (y,af)->l4 ch (X.add m ob)=some (y,af.add m ob):=by
  intro ch h;unfold l4 at h⊢;split at h<;>cases h
  rfl
 have FU:∀{r:Option (U×al)},hB r=some (y,af)->∃z,y= .ret z/\r=some (z,af):=by
  intro r aQ;unfold hB at aQ;split at aQ<;>cases aQ
  exact⟨_,rfl,rfl⟩
 unfold ly at h⊢;split at h<;>try(cases h;done)
 rename_i ch aJ;have Ed:looks (X.add m ob).aO F o.op.operands.toList=some ch:=aJ;simp only[Ed];split at h
 ·split at h
  ·rename_i b _;cases ag:sr b with
   |true=>rw[ag] at h;exact af0 h
   |false=>
    rw[ag] at h;obtain⟨z,rfl,h3⟩:=FU h;simp only[cond_false,ZO au h3,hB]
  ·split at h<;>try(cases h;done)
   rename_i h8;rw[ZV au h8];exact db _ _ _ _ _ _ _ h au
 ·exact af0 h
 ·obtain⟨z,rfl,h3⟩:=FU h;simp only[aia au h3,hB]
theorem Gj{ops:List Oper}{F:aH U}{g:Option (Nat×Bool)}{b:Bool}(h:ir ops F X g=some (b,af)):ir ops F (X.add m ob) g=some (b,af.add m ob):=by
 unfold ir at h⊢;split at h
 ·cases h;rfl
 ·split at h<;>try(cases h;done)
  split at h<;>try(cases h;done)
  split at h<;>try(cases h;done)
  rename_i y _;unfold mW at h;cases aN:ua y with
  |true=>
   simp only[aN,cond_true,Option.some.injEq,Prod.mk.injEq] at h;obtain⟨rfl,rfl⟩:=h;simp[*,mW]
  |false=>
   simp only[aN,cond_false] at h;split at h<;>try(cases h;done)
   rename_i ag;cases h;simp[*,mW,CW (m:=m) (ob:=ob) ag]
theorem XV{callf:cc}(db:lh callf)(au:c9 X m){ops:List Oper}{o:Oper}{F:aH U}{y:U}(h:jZ P callf ops o F X=some (y,af)):jZ P callf ops o F (X.add m ob)=some (y,af.add m ob):=by
 unfold jZ at h⊢;split at h
 ·rename_i X1 hw;rw[Gj (m:=m) (ob:=ob) hw];exact anU db (au.keeps (xD hw)) h
 ·rename_i X1 hw;rw[Gj (m:=m) (ob:=ob) hw];cases h;rfl
 ·cases h
theorem aC7{callf:cc}(db:lh callf)(au:c9 X m){N:Nat}{ops:List Oper}{o:Oper}{F F':aH U}(h:kn P callf N ops o F X=some (F',af)):kn P callf N ops o F (X.add m ob)=some (F',af.add m ob):=by
 obtain⟨y,bb,rfl⟩:=lL.1 h;exact lL.2 ⟨y,XV db au bb,rfl⟩
end
section
variable{P:Program}{m:Nat}{ob:bH}
theorem XU{callf:cc}(ae:fX callf){N:Nat}{ops:List Oper}{o:Oper}{F F':aH U}{X af:al}{r:Option j2}(h:l8 P callf N ops o F X=some (r,F',af)):di X {af with bx:=X.bx}:=by
 have qq:∀{X1:al} {b:Bool},ir ops F X o.guard=some (b,X1)->di X X1:=λh=>xD h
 unfold l8 at h;split at h
 ·rename_i X1 hw;cases aI:p5 o.op with
  |true=>
   rw[aI] at h;simp only[cond_true] at h;split at h<;>cases h
   have k:=qq hw;exact⟨k.cN,k.aO,k.next,k.cq,k.dead,rfl,k.pc⟩
  |false=>
   rw[aI] at h;simp only[cond_false] at h;split at h
   ·rename_i y c5 aq;cases h;have k:=(qq hw).trans (HW ae aq);exact⟨k.cN,k.aO,k.next,k.cq,k.dead,rfl,k.pc⟩
   ·rename_i bn c5 aq;cases h;have k:=(qq hw).trans (HW ae aq);exact⟨k.cN,k.aO,k.next,k.cq,k.dead,rfl,k.pc⟩
   ·cases h
 ·rename_i X1 hw;cases h;have k:=qq hw;exact⟨k.cN,k.aO,k.next,k.cq,k.dead,rfl,k.pc⟩
 ·cases h
theorem di.afB{X Y Z:al}(h:di X {Y with bx:=X.bx})(h':di Y {Z with bx:=Y.bx}):di X {Z with bx:=X.bx}:=by
 have a:di {Y with bx:=X.bx} {Z with bx:=X.bx}:=⟨h'.cN,h'.aO,h'.next,h'.cq,h'.dead,rfl,h'.pc⟩;exact h.trans a
theorem OJ{callf:cc}(ae:fX callf){N:Nat}{ops:List Oper}:∀{l:List Oper} {F F':aH U} {X af:al} {r:Option j2},lz P callf N ops l F X=some (r,F',af)->di X {af with bx:=X.bx}
 | [],_,_,_,_,_,h=>by cases h;exact di.refl _
 |o::l,F,F',X,af,r,h=>by
  simp only[lz] at h;split at h
  ·rename_i aL X1 ak;exact(XU ae ak).afB (OJ ae h)
  ·exact XU ae h
theorem ank{o:Oper}{F:aH U}{X:al}:HP o F (X.add m ob)=HP o F X:=rfl
theorem aiB{callf:cc}(db:lh callf){X af:al}(au:c9 X m){N:Nat}{ops:List Oper}{o:Oper}{F F':aH U}{r:Option j2}(h:l8 P callf N ops o F X=some (r,F',af)):l8 P callf N ops o F (X.add m ob)=some (r,F',af.add m ob):=by
 unfold l8 at h⊢;split at h
 ·rename_i X1 hw;rw[Gj (m:=m) (ob:=ob) hw];simp only[];cases aI:p5 o.op with
  |true=>
   rw[aI] at h;simp only[cond_true] at h⊢;rw[ank];split at h<;>cases h
   rfl
  |false=>
   rw[aI] at h;simp only[cond_false] at h⊢;split at h
   ·rename_i y c5 aq;cases h;rw[aa3 db (au.keeps (xD hw)) aq]
   ·rename_i bn c5 aq;cases h;rw[aa3 db (au.keeps (xD hw)) aq]
   ·cases h
 ·rename_i X1 hw;rw[Gj (m:=m) (ob:=ob) hw];cases h;rfl
 ·cases h
theorem c9.aeV{X af:al}(h:c9 X m)(k:di X {af with bx:=X.bx}):c9 af m:=⟨k.dead m h.lt h.dead,Nat.lt_of_lt_of_le h.lt k.next⟩
theorem OI{callf:cc}(db:lh callf)(ae:fX callf){N:Nat}{ops:List Oper}:∀{l:List Oper} {F F':aH U} {X af:al} {r:Option j2},c9 X m->lz P callf N ops l F X=some (r,F',af)->lz P callf N ops l F (X.add m ob)=some (r,F',af.add m ob)
 | [],_,_,_,_,_,_,h=>by cases h;rfl
 |o::l,F,F',X,af,r,au,h=>by
  simp only[lz] at h⊢;split at h
  ·rename_i aL X1 ak;rw[aiB db au ak];exact OI db ae (au.aeV (XU ae ak)) h
  ·rename_i ca;rw[aiB db au h];cases r with
   |none=>exact absurd h (ca _ _)
   |some bn=>rfl
theorem NR{ops:List Oper}{o:Oper}{F:aH U}{X:al}{r:aH U×al}{callf:cc}{N:Nat}(h:kn P callf N ops o F X=some r):addrOf ops o F (X.add m ob)=addrOf ops o F X:=by
 unfold kn at h;unfold addrOf;cases hw:ir ops F X o.guard with
 |none=>rw[hw] at h;cases h
 |some q=>
  obtain⟨b,X1⟩:=q;rw[Gj (m:=m) (ob:=ob) hw];cases b<;>rfl
theorem ah7{X af:al}{k:Nat}(au:c9 X m)(h:nL X af k=true):nL (X.add m ob) (af.add m ob) k=true:=by
 unfold nL at h⊢;cases ag:Nat.blt k X.next with
 |false=>rw[ag] at h;cases h
 |true=>
  rw[ag] at h;have iP:Nat.blt k (X.add m ob).next=true:=ag
  rw[iP];simp only[cond_true,Gg] at h⊢;cases h1:X.aV.get k with
  |none=>simp[h1] at h
  |some o=>
   obtain⟨h3,ca⟩:=add_get (ob:=ob) au h1
   have aT:(af.add m ob).aV.get k=af.aV.get k:=by
    show(af.aV.put m ob).get k=_;rw[cE.kT,if_neg ca]
   rw[h3,aT];rw[h1] at h;exact h
theorem Oc{bJ:List (Nat×Option Nat)}{X af:al}(au:c9 X m):∀{ls:List Nat},kt bJ X af ls=true->kt bJ (X.add m ob) (af.add m ob) ls=true
 | [],_=>rfl
 |l::ls,h=>by
  simp only[kt,Bool.and_eq_true] at h⊢;refine⟨?_,Oc au h.2⟩;cases ai:mq bJ l with
  |none=>rfl
  |some k=>
   have:=h.1
   rw[ai] at this;exact ah7 au this
theorem OD{callf:cc}(db:lh callf)(ae:fX callf){N:Nat}{ops:List Oper}{bS:List (Nat×List Nat)}:∀{bL:List Nat} {bJ:List (Nat×Option Nat)} {F F':aH U} {X af:al},c9 X m->iK P callf N ops bS bL bJ F X=some (F',af)->
 iK P callf N ops bS bL bJ F (X.add m ob)=some (F',af.add m ob)
 | [],_,_,_,_,_,_,h=>by simp only[iK,Option.some.injEq,Prod.mk.injEq] at h⊢;obtain⟨rfl,rfl⟩:=h;exact⟨rfl,rfl⟩
 |k::bL,bJ,F,F',X,af,au,h=>by
  simp only[iK] at h⊢;split at h<;>try(cases h;done)
  rename_i o _;split at h<;>try(cases h;done)
  rename_i aL X1 ak;rw[aC7 db au ak];simp only[];cases kb:kt bJ X X1 (iw bS k) with
  |false=>rw[kb] at h;cases h
  |true=>
   rw[kb] at h;rw[Oc au kb,NR ak];exact OD db ae (au.keeps (XR ae ak)) h
end
section
variable{P:Program}{B:Nat}{aZ w:World}{E:Env}{bq:List Deferred}
theorem afz{op:Op}{ch:List U}{X af:al}{y:U}(aR:zl op=true)(h:dX P op ch X=some (y,af)):
 ∃o,af=(X.new o).2/\o.ro=false/\∀X1:al,X1.next=X.next->dX P op ch X1=some (y,(X1.new o).2):=by
 unfold dX at h;split at h
 case h_4=>
  unfold qg newRow al.new at h;split at h<;>try(cases h;done)
  rename_i z aX;simp only[force_eq] at h;cases h;exact⟨_,rfl,rfl,λX1 h1=>by simp only[dX,qg,newRow,al.new,aX,force_eq,h1]⟩
 case h_5=>
  unfold qi newRow al.new at h;rename_i x;cases ax:x.flat<;>simp only[ax,cond_false,cond_true,force_eq] at h<;>cases h
  exact⟨_,rfl,rfl,λX1 h1=>by simp only[dX,qi,newRow,al.new,ax,cond_true,force_eq,h1]⟩
 case h_7=>
  unfold oD newRow al.new at h;split at h<;>try(cases h;done)
  rename_i e hu;split at h<;>try(cases h;done)
  rename_i s z ak aX;generalize ae:(Nat.ble _ _&&Nat.ble 1 s&&_)=b at h;cases b<;>simp only[cond_true,cond_false,force_eq] at h
  ·cases h
  ·split at h<;>cases h
   rename_i cs en;exact⟨_,rfl,rfl,λX1 h1=>by simp only[dX,oD,newRow,al.new,hu,ak,aX,ae,cond_true,en,force_eq,h1]⟩
 case h_16=>
  unfold qj nh al.new at h;split at h<;>try(cases h;done)
  rename_i e hu;split at h<;>try(cases h;done)
  rename_i l c aJ fQ;split at h<;>try(cases h;done)
  rename_i s z b ak aX ag;generalize ae:(Nat.ble _ _&&_&&_&&_&&_)=b at h;cases b<;>simp only[cond_true,cond_false,force_eq] at h<;>cases h
  exact⟨_,rfl,rfl,λX1 h1=>by simp only[dX,qj,nh,al.new,hu,aJ,fQ,ak,aX,ag,ae,cond_true,force_eq,h1]⟩
 all_goals first
  |(simp[zl] at aR;done)
  |(cases h;done)
theorem zD{rs:List Nat}{k:Nat}{o:Op}(h:hI rs k o=true):zl o=true:=by
 simp only[hI,Bool.and_eq_true] at h;exact h.2
def mM(P:Program)(callf:cc)(ops:List Oper)(rs:List Nat)(base k:Nat)(o:Oper)(F:aH U)(X:al):Option (U×al):=
 bif hI rs k o.op then(match o.guard with
  |some _=>none
  |none=>match looks X.aO F o.op.operands.toList with
   |none=>none
   |some ch=>bif oz base ch then(match dX P o.op ch {X with next:=base+k} with
    |some (y,af)=>some (y,{af with next:=X.next})
    |none=>none) else none) else jZ P callf ops o F X
theorem jC{callf:cc}{rs:List Nat}{N base k:Nat}{ops:List Oper}{o:Oper}{F F':aH U}{X af:al}:
 lM P callf N ops rs base k o F X=some (F',af)↔∃y,mM P callf ops rs base k o F X=some (y,af)/\F'=put N F o.dst y:=by
 unfold lM mM;cases aR:hI rs k o.op with
 |false=>simp only[cond_false];exact lL
 |true=>
  simp only[cond_true];cases o.guard with
  |some g=>simp
  |none=>
   simp only[];cases looks X.aO F o.op.operands.toList with
   |none=>simp
   |some ch=>
    simp only[];cases oz base ch with
    |false=>simp
    |true=>
     simp only[cond_true,force_eq];cases ak:dX P o.op ch {X with next:=base+k} with
     |none=>simp
     |some r=>
      obtain⟨y,X1⟩:=r;simp only[Option.some.injEq,Prod.mk.injEq];constructor
      ·rintro ⟨rfl,rfl⟩;exact⟨y,⟨rfl,rfl⟩,rfl⟩
      ·rintro ⟨Ac,⟨rfl,rfl⟩,rfl⟩;exact⟨rfl,rfl⟩
theorem XS{callf:cc}{rs:List Nat}{base k:Nat}{ops:Array Oper}{o:Oper}{F F':aH U}{X:al}(h:∀t∈o.looksAt ops,F.get t=F'.get t):
 mM P callf ops.toList rs base k o F X=mM P callf ops.toList rs base k o F' X:=by
 obtain⟨hw,aJ⟩:=RM (X:=X) h;unfold mM;rw[L0 h];simp only[aJ]
theorem uC{callf:cc}{rs:List Nat}{base k:Nat}{ops:List Oper}{o:Oper}{F:aH U}{X af:al}{y:U}(aR:hI rs k o.op=true)(h:mM P callf ops rs base k o F X=some (y,af)):
 ∃ob,af={X with aV:=X.aV.put (base+k) ob}/\∀X1:al,X1.aO=X.aO->mM P callf ops rs base k o F X1=some (y,{X1 with aV:=X1.aV.put (base+k) ob}):=by
 unfold mM at h⊢;simp only[aR,cond_true] at h⊢;split at h<;>try(cases h;done)
 split at h<;>try(cases h;done)
 rename_i ch aJ;cases og:oz base ch with
 |false=>simp[og] at h
 |true=>
  simp only[og,cond_true] at h;split at h<;>try(cases h;done)
  rename_i Ac c5 ak;cases h;obtain⟨ob,rfl,_,lF⟩:=afz (zD aR) ak;refine⟨ob,rfl,λX1 l0=>?_⟩
  have:=lF {X1 with next:=base+k} rfl
  simp only[l0] at this;simp only[l0,aJ,og,cond_true,this];simp only[al.new]
def v9(P:Program)(callf:cc)(N:Nat)(ops:Array Oper)(S:jr)(rs:List Nat)(base i:Nat)(F:aH U)(X:al)(F':aH U)(af:al):Prop:=
 ∃o,ops[i]?=some o/\lM P callf N ops.toList rs base i o F X=some (F',af)/\(fo P o.op=true->∀k,addrOf ops.toList o F X=some k->k<base)/\
  (ou P o.op=true->hI rs i o.op=false->∀k,nL (S.pre i) (S.post i) k=true->nL X af k=true)/\(fo P o.op=true->addrOf ops.toList o F X=S.obj i)
theorem J3{op:Op}(h:zl op=true):mD P op=false/\fo P op=false:=by
 cases op<;>first|(simp[zl] at h;done)|exact⟨rfl,rfl⟩
theorem kL{callf:cc}{rs:List Nat}{base k:Nat}{ops:List Oper}{o:Oper}{F:aH U}{X:al}(h:hI rs k o.op=false):mM P callf ops rs base k o F X=jZ P callf ops o F X:=by
 unfold mM;rw[h];rfl
theorem LX{callf:cc}(ae:fX callf){rs:List Nat}{base k:Nat}{ops:List Oper}{o:Oper}{F:aH U}{X af:al}{y:U}(h:mM P callf ops rs base k o F X=some (y,af)):(X.cN=[]->af.cN=[])/\af.aO=X.aO:=by
 cases aR:hI rs k o.op with
 |true=>obtain⟨ob,rfl,_⟩:=uC aR h;exact⟨λh=>h,rfl⟩
 |false=>
  rw[kL aR] at h
  have:=vy ae h
  exact⟨this.cN,this.aO⟩
theorem aga{rs:List Nat}{k:Nat}{op:Op}(aB:mD P op=true):hI rs k op=false:=by
 cases aR:hI rs k op with
 |false=>rfl
 |true=>have:=(J3 (P:=P) (zD aR)).1;rw[aB] at this;cases this
theorem FR{rs:List Nat}{k:Nat}{op:Op}(aB:fo P op=true):hI rs k op=false:=by
 cases aR:hI rs k op with
 |false=>rfl
 |true=>have:=(J3 (P:=P) (zD aR)).2;rw[aB] at this;cases this
theorem aDd{callf:cc}(lE:lh callf)(ae:fX callf){N:Nat}{ops:Array Oper}{S:jr}{bS:List (Nat×List Nat)}{rs:List Nat}{base:Nat}{i j:Nat}{dR cd:Oper}{F j4 xV:aH U}{X jM iZ:al}(apN:i≠j)(oj:ops[i]?=some dR)(eT:ops[j]?=some cd)
 (ji:dR.apart ops cd=true)(D1:C7 P rs bS i j dR.op cd.op=true)
 (sn:ou P cd.op=true->m5 (iw bS j) i=true->∀k,S.obj i=some k->nL (S.pre j) (S.post j) k=true)(yS:hI rs j cd.op=true->c9 X (base+j))(aq:X.cN=[])(h1:v9 P callf N ops S rs base i F X j4 jM)(h2:v9 P callf N ops S rs base j j4 jM xV iZ):
 ∃rN pO uN,v9 P callf N ops S rs base j F X rN pO/\pO.cN=[]/\v9 P callf N ops S rs base i rN pO uN iZ/\hN xV uN:=by
 obtain⟨asv,Ek,h1,dd,bY,s1⟩:=h1;obtain⟨asw,El,h2,dy,b2,s2⟩:=h2;rw[oj] at Ek;cases Ek;rw[eT] at El;cases El;obtain⟨aj,aC,a8⟩:=Oper.apart_spec ji;obtain⟨jo,ki,rfl⟩:=jC.1 h1;obtain⟨j1,Rs,rfl⟩:=jC.1 h2;have EM:∀t∈cd.looksAt ops,F.get t=(put N F dR.dst jo).get t:=λt aN=>(qc t λe=>aj t e aN).symm
 have li:∀t∈dR.looksAt ops,F.get t=(put N F cd.dst j1).get t:=λt aN=>(qc t λe=>a8 t e aN).symm
 have aa:mM P callf ops.toList rs base j cd F jM=some (j1,iZ):=by rw[<- Rs];exact XS EM
 have cH:∀X1 c5,mM P callf ops.toList rs base i dR F X1=some (jo,c5)->mM P callf ops.toList rs base i dR (put N F cd.dst j1) X1=some (jo,c5):=λX1 c5 h=>by
  rw[<- h];exact(XS li).symm
 have pk:∀X1,addrOf ops.toList cd F X1=addrOf ops.toList cd (put N F dR.dst jo) X1:=λX1=>yi EM
 have qf:∀X1,addrOf ops.toList dR F X1=addrOf ops.toList dR (put N F cd.dst j1) X1:=λX1=>yi li
 have db:=put_comm (N:=N) (F:=F) (y:=jo) (z:=j1) aC;obtain⟨arf,aeW⟩:=LX ae ki;obtain⟨arj,ark⟩:=LX ae aa;have BX:=arf aq;have uo:=arj BX;have apO:=(Array.getElem?_eq_some_iff.1 oj).1;have Bk:=(Array.getElem?_eq_some_iff.1 eT).1
 have aoC:∀(t:cE) (m k:Nat) (ob:bH),m<base+ops.size->k<base->base<=m->(t.put m ob).get k=t.get k:=λt m k ob hm ai adW=>by
  rw[cE.kT,if_neg (by omega)]
 simp only[C7,Bool.or_eq_true,Bool.and_eq_true] at D1;rcases D1 with(((aB|aB)|oh)|⟨om,En⟩)|⟨⟨⟨om,adV⟩,oh⟩,kb⟩
 ·have aR:=aga (rs:=rs) (k:=i) aB;rw[kL aR] at ki;obtain⟨rfl,lF⟩:=L1 aB aq ki;obtain⟨oB,vp⟩:=Ke aB
  exact⟨_,iZ,_,⟨cd,eT,jC.2 ⟨j1,aa,rfl⟩,λh=>(by rw[pk];exact dy h),b2,λh=>(by rw[pk];exact s2 h)⟩,uo,
   ⟨dR,oj,jC.2 ⟨jo,cH _ _ (by rw[kL aR];exact lF iZ ark),rfl⟩,λh=>(by rw[vp] at h;cases h),λh=>(by rw[oB] at h;cases h),λh=>(by rw[vp] at h;cases h)⟩,db⟩
 ·have aR:=aga (rs:=rs) (k:=j) aB;rw[kL aR] at aa;obtain⟨rfl,lF⟩:=L1 aB BX aa;obtain⟨oB,vp⟩:=Ke aB
  exact⟨_,X,_,⟨cd,eT,jC.2 ⟨j1,by rw[kL aR];exact lF X aeW.symm,rfl⟩,λh=>(by rw[vp] at h;cases h),λh=>(by rw[oB] at h;cases h),λh=>(by rw[vp] at h;cases h)⟩,aq,
   ⟨dR,oj,jC.2 ⟨jo,cH _ _ ki,rfl⟩,λh=>(by rw[<- qf];exact dd h),bY,λh=>(by rw[<- qf];exact s1 h)⟩,db⟩
 ·
  obtain⟨ob,rfl,QV⟩:=uC oh aa;have nb:=(J3 (P:=P) (zD oh)).2
  refine⟨_,_,_,⟨cd,eT,jC.2 ⟨j1,QV X aeW.symm,rfl⟩,λh=>(by rw[nb] at h;cases h),λ_ h=>(by rw[oh] at h;cases h),λh=>(by rw[nb] at h;cases h)⟩,aq,
   ⟨dR,oj,jC.2 ⟨jo,cH _ _ ?_,rfl⟩,λh=>(by rw[<- qf,wh (X:=X) (X1:={X with aV:=X.aV.put (base+j) ob}) aq aq rfl];exact dd h),λh1 h2 k ai=>ah7 (yS oh) (bY h1 h2 k ai),
     λh=>(by rw[<- qf,wh (X:=X) (X1:={X with aV:=X.aV.put (base+j) ob}) aq aq rfl];exact s1 h)⟩,db⟩
  cases pb:hI rs i dR.op with
  |true=>
   obtain⟨asp,rfl,ad5⟩:=uC pb ki
   have:=ad5 {X with aV:=X.aV.put (base+j) ob} rfl
   rw[this];simp only[Option.some.injEq,Prod.mk.injEq,true_and];rw[cE.put_comm _ _ _ (by omega)]
  |false=>
   rw[kL pb] at ki⊢;exact XV (ob:=ob) lE (yS oh) ki
 ·have oh:=FR (rs:=rs) (k:=j) En;have afw:=LK En;rw[kL oh] at aa;rcases om with om|om
  ·have aR:=FR (rs:=rs) (k:=i) om;rw[kL aR] at ki;obtain⟨rfl,lF⟩:=xA om aq ki;obtain⟨rfl,_⟩:=xA En aq aa
   exact⟨_,_,_,⟨cd,eT,jC.2 ⟨j1,by rw[kL oh];exact aa,rfl⟩,λh=>(by rw[pk];exact dy h),λh=>(by rw[afw] at h;cases h),λh=>(by rw[pk];exact s2 h)⟩,aq,
    ⟨dR,oj,jC.2 ⟨jo,cH _ _ (by rw[kL aR];exact ki),rfl⟩,λh=>(by rw[<- qf];exact dd h),bY,λh=>(by rw[<- qf];exact s1 h)⟩,db⟩
  ·obtain⟨ob,rfl,ad5⟩:=uC om ki;have nb:=(J3 (P:=P) (zD om)).2;obtain⟨e,QV⟩:=xA En BX aa;subst e
   refine⟨_,X,_,⟨cd,eT,jC.2 ⟨j1,?_,rfl⟩,λh=>(by rw[pk, <- wh (X:=X) (X1:={X with aV:=X.aV.put (base+i) ob}) aq aq rfl];exact dy h),λh=>(by rw[afw] at h;cases h),λh=>(by rw[pk, <- wh (X:=X) (X1:={X with aV:=X.aV.put (base+i) ob}) aq aq rfl];exact s2 h)⟩,aq,
    ⟨dR,oj,jC.2 ⟨jo,cH _ _ ki,rfl⟩,λh=>(by rw[nb] at h;cases h),λ_ h=>(by rw[om] at h;cases h),λh=>(by rw[nb] at h;cases h)⟩,db⟩
   rw[kL oh];exact QV X rfl λk ai=>(aoC _ _ _ _ (by omega) (dy En k (by rw[<- pk];exact ai)) (by omega)).symm
 ·have Q8:hI rs j cd.op=false:=by simpa using oh
  have pb:=FR (rs:=rs) (k:=i) om;rw[kL Q8] at aa;rw[kL pb] at ki;obtain⟨az,lF⟩:=xA om aq ki;subst az;have oB:=LK om;have nG:=vy ae aa
  have Rb:mM P callf ops.toList rs base i dR F iZ=some (jo,iZ):=by
   rw[kL pb];exact lF iZ nG.aO λk ai=>ah8 nG (b2 adV Q8 k (sn adV kb k (by rw[<- s1 om];exact ai)))
  exact⟨_,iZ,_,⟨cd,eT,jC.2 ⟨j1,by rw[kL Q8];exact aa,rfl⟩,λh=>(by rw[pk];exact dy h),b2,λh=>(by rw[pk];exact s2 h)⟩,uo,
   ⟨dR,oj,jC.2 ⟨jo,cH _ _ Rb,rfl⟩,λh=>(by rw[<- qf,wh aq uo nG.aO];exact dd h),λh=>(by rw[oB] at h;cases h),λh=>(by rw[<- qf,wh aq uo nG.aO];exact s1 h)⟩,db⟩
end
section
variable{P:Program}{B:Nat}{aZ w:World}{E:Env}{bq:List Deferred}
def rV(P:Program)(callf:cc)(N:Nat)(ops:Array Oper)(S:jr)(rs:List Nat)(base:Nat)(G:aH U->al->Prop):Nat->Array Bool->aH U->al->Prop
 |0,listed,F,X=>Region.ready .any ops listed=[]/\G F X
 |n+1,listed,F,X=>(Region.ready .any ops listed=[]->G F X)/\
  ∀i∈Region.ready .any ops listed,∃F' af,v9 P callf N ops S rs base i F X F' af/\rV P callf N ops S rs base G n (listed.setIfInBounds i true) F' af
theorem aC8{callf:cc}{rs:List Nat}{N base k:Nat}{ops:Array Oper}{o:Oper}{F F' G:aH U}{X af:al}(he:hN F F')(h:lM P callf N ops.toList rs base k o F X=some (G,af)):
 ∃uO,lM P callf N ops.toList rs base k o F' X=some (uO,af)/\hN G uO:=by
 obtain⟨y,bb,rfl⟩:=jC.1 h;exact⟨_,jC.2 ⟨y,by rw[<- XS (λt _=>he t)];exact bb,rfl⟩,agf he _ _⟩
theorem Zm{callf:cc}{S:jr}{rs:List Nat}{N base:Nat}{ops:Array Oper}{G:aH U->al->Prop}(jh:∀F F' X,hN F F'->G F X->G F' X):
 ∀(n:Nat) (listed:Array Bool) (F F':aH U) (X:al),hN F F'->rV P callf N ops S rs base G n listed F X->rV P callf N ops S rs base G n listed F' X
 |0,_,_,_,_,he,h=>⟨h.1,jh _ _ _ he h.2⟩
 |n+1,listed,F,F',X,he,h=>⟨λaQ=>jh _ _ _ he (h.1 aQ),λi hi=>by
   obtain⟨aL,X1,⟨o,aq,h1,aQ,ag,ak⟩,h2⟩:=h.2 i hi;obtain⟨uO,h3,aT⟩:=aC8 he h1
   exact⟨uO,X1,⟨o,aq,h3,λh=>(by rw[<- yi (λt _=>he t)];exact aQ h),ag,λh=>(by rw[<- yi (λt _=>he t)];exact ak h)⟩,Zm jh n _ _ _ _ aT h2⟩⟩
theorem aiz{rs:List Nat}{bS:List (Nat×List Nat)}{ops:Array Oper}{k4:Array Bool}{i:Nat}{dR:Oper}{r:List Bool}(hi:ops[i]?=some dR)(h:LZ P rs bS ops k4 i r=true){j:Nat}{cd:Oper}(aa:ops[j]?=some cd)(ca:j≠i):
 (r.getD j false=true/\(k4.getD j true=true\/(dR.apart ops cd=true/\C7 P rs bS i j dR.op cd.op=true)))\/
 (r.getD j false=false/\k4.getD j true=false/\∃e∈cd.after,Region.binds .any e=true/\r.getD e.on false=false):=by
 unfold LZ at h;simp only[hi,List.all_eq_true,List.mem_range] at h;have a9:=(Array.getElem?_eq_some_iff.1 aa).1
 have:=h j a9
 simp only[aa] at this;have ag:(j==i)=false:=by simpa using ca
 simp only[ag,Bool.false_or] at this;cases aQ:r.getD j false with
 |true=>
  simp only[aQ,cond_true,Bool.or_eq_true,Bool.and_eq_true] at this;exact .inl ⟨rfl,this⟩
 |false=>
  simp only[aQ,cond_false,Bool.and_eq_true,Bool.not_eq_true',Array.any_eq_true'] at this;obtain⟨h1,e,he,h2,h3⟩:=this;exact .inr ⟨rfl,h1,e,he,h2,h3⟩
def Kept(ops:Array Oper)(rs:List Nat)(base:Nat)(listed:Array Bool)(X:al):Prop:=
 ∀j cd,ops[j]?=some cd->listed.getD j true=false->hI rs j cd.op=true->c9 X (base+j)
theorem Kept.step{callf:cc}(ae:fX callf){S:jr}{rs:List Nat}{N base:Nat}{ops:Array Oper}{i:Nat}{listed:Array Bool}{F F':aH U}{X af:al}(h:Kept ops rs base listed X)(ak:v9 P callf N ops S rs base i F X F' af):
 Kept ops rs base (listed.setIfInBounds i true) af:=by
 intro j cd eT aa aR;have a9:=(Array.getElem?_eq_some_iff.1 eT).1
 have kC:listed.getD j true=false/\j≠i:=by
  by_cases e:i=j
  ·subst e
   exfalso
   rcases Nat.lt_or_ge i listed.size with h'|h'
   ·simp[h'] at aa
   ·simp at aa
  ·rw[getD_set_ne true e] at aa;exact⟨aa,λbd=>e bd.symm⟩
 have au:=h j cd eT kC.1 aR;obtain⟨o,aq,dc,_⟩:=ak;obtain⟨y,bb,_⟩:=jC.1 dc;cases pb:hI rs i o.op with
 |true=>
  obtain⟨ob,rfl,_⟩:=uC pb bb;refine⟨?_,au.lt⟩;show(X.aV.put (base+i) ob).get (base+j)=none;cases bc:(X.aV.put (base+i) ob).get (base+j) with
  |none=>rfl
  |some b=>
   rcases cE.iM bc with⟨e,_⟩|⟨_,h2⟩
   ·omega
   ·rw[au.dead] at h2;cases h2
 |false=>
  rw[kL pb] at bb;exact au.keeps (vy ae bb)
theorem ak2{callf:cc}(lE:lh callf)(ae:fX callf){S:jr}{bS:List (Nat×List Nat)}{rs:List Nat}{N base:Nat}{ops:Array Oper}{G:aH U->al->Prop}(jh:∀F F' X,hN F F'->G F X->G F' X){i:Nat}{dR:Oper}(hi:ops[i]?=some dR)
 {k4:Array Bool}{r:List Bool}(eN:LZ P rs bS ops k4 i r=true)
 (sn:∀j cd,ops[j]?=some cd->k4.getD j true=false->j≠i->ou P cd.op=true->m5 (iw bS j) i=true->∀k,S.obj i=some k->nL (S.pre j) (S.post j) k=true):
 ∀(n:Nat) (listed:Array Bool) (F j4:aH U) (X jM:al),Inv ops i k4 r listed->Kept ops rs base listed X->i∈Region.ready .any ops listed->X.cN=[]->v9 P callf N ops S rs base i F X j4 jM->
  rV P callf N ops S rs base G n (listed.setIfInBounds i true) j4 jM->rV P callf N ops S rs base G (n+1) listed F X:=by
 intro n
 induction n with
 |zero=>
  intro listed F j4 X jM _ _ aQ _ ak H;refine⟨λh=>(by rw[h] at aQ;cases aQ),λj aa=>?_⟩;by_cases lG:j=i
  ·subst lG;exact⟨j4,jM,ak,H⟩
  ·have:=ready_mono aa lG
   rw[H.1] at this;cases this
 |succ n bp=>
  intro listed F j4 X jM inv y3 aQ aq ak H;refine⟨λh=>(by rw[h] at aQ;cases aQ),λj aa=>?_⟩;by_cases lG:j=i
  ·subst lG;exact⟨j4,jM,ak,H⟩
  ·obtain⟨xV,iZ,h1,h2⟩:=H.2 j (ready_mono aa lG);obtain⟨Bl,cd,eT,gd⟩:=mem_ready.1 aa
   have kW:k4.getD j true=false:=by
    cases h:k4.getD j true with
    |false=>rfl
    |true=>have:=inv.more j h;rw[Bl] at this;cases this
   have QD:=aiz hi eN eT lG
   have yO:r.getD j false=true/\dR.apart ops cd=true/\C7 P rs bS i j dR.op cd.op=true:=by
    rcases QD with⟨h3,aT⟩|⟨_,_,e,he,ag,aR⟩
    ·rcases aT with aT|aT
     ·rw[kW] at aT;cases aT
     ·exact⟨h3,aT⟩
    ·have:=inv.lH _ (gd e he ag);rw[aR] at this;cases this
   obtain⟨rN,pO,uN,k1,k2,hG,ow⟩:=aDd lE ae (λe=>lG e.symm) hi eT yO.2.1 yO.2.2 (sn j cd eT kW lG) (y3 j cd eT Bl) aq ak h1;refine⟨rN,pO,k1,?_⟩;refine bp (listed.setIfInBounds j true) rN uN pO iZ ⟨λk ai=>?_,λk ai=>?_⟩ (y3.step ae k1) (ready_mono aQ (Ne.symm lG)) k2 hG ?_
   ·by_cases e:j=k
    ·subst e;exact yO.1
    ·rw[getD_set_ne false e] at ai;exact inv.lH k ai
   ·by_cases e:j=k
    ·subst e;have:=inv.more j ai;rw[Bl] at this;cases this
    ·rw[getD_set_ne true e];exact inv.more k ai
   ·rw[Array.setIfInBounds_comm _ _ lG];exact Zm jh n _ _ _ _ ow h2
theorem RF{rs:List Nat}{bS:List (Nat×List Nat)}{ops:Array Oper}:∀(bL:List Nat) (listed:Array Bool),vn P rs bS ops bL listed=true->∀j,listed.getD j true=false->j∈bL
 | [],listed,h,j,aa=>by
   simp only[vn,Array.all_eq_true_iff_forall_mem] at h;rcases Nat.lt_or_ge j listed.size with h'|h'
   ·have:=h listed[j] (Array.getElem_mem h')
    simp only[id] at this;simp[h',this] at aa
   ·simp[Array.getElem?_eq_none h'] at aa
 |k::bL,listed,h,j,aa=>by
  simp only[vn,Bool.and_eq_true] at h;obtain⟨⟨⟨aQ,nb⟩,dc⟩,kX⟩:=h;by_cases e:j=k
  ·subst e;exact List.mem_cons_self ..
  ·refine List.mem_cons_of_mem _ (RF bL _ kX j ?_);rw[getD_set_ne true (λbd=>e bd.symm)];exact aa
theorem Zp{callf:cc}{N:Nat}{ops:Array Oper}{S fi:jr}{rs:List Nat}{base:Nat}{G:aH U->al->Prop}:
 ∀(n:Nat) (listed:Array Bool) (F:aH U) (X:al),(∀i,listed.getD i true=false->fi.pre i=S.pre i/\fi.post i=S.post i/\fi.obj i=S.obj i)->rV P callf N ops S rs base G n listed F X->rV P callf N ops fi rs base G n listed F X
 |0,_,_,_,_,h=>h
 |n+1,listed,F,X,ak,h=>⟨h.1,λi hi=>by
   obtain⟨aL,X1,⟨o,aq,h1,aQ,ag,Eo⟩,h2⟩:=h.2 i hi;obtain⟨az,ay,b9⟩:=ak i (mem_ready.1 hi).1;refine⟨aL,X1,⟨o,aq,h1,aQ,λh=>by rw[az,ay];exact ag h,λh=>by rw[b9];exact Eo h⟩,Zp n _ _ _ (λj aa=>ak j ?_) h2⟩;by_cases e:i=j
   ·subst e;exact(mem_ready.1 hi).1
   ·rw[getD_set_ne true e] at aa;exact aa⟩
theorem RG{rs:List Nat}{bS:List (Nat×List Nat)}{ops:Array Oper}:∀(bL:List Nat) (listed:Array Bool),vn P rs bS ops bL listed=true->(∀j∈bL,listed.getD j true=false)
 | [],listed,h,j,aa=>by cases aa
 |k::bL,listed,h,j,aa=>by
  simp only[vn,Bool.and_eq_true] at h;obtain⟨⟨⟨aQ,nb⟩,dc⟩,kX⟩:=h;have sl:k∈Region.ready .any ops listed:=by simpa using aQ
  have ai:=(mem_ready.1 sl).1;rcases List.mem_cons.1 aa with rfl|aa
  ·exact ai
  ·exact(getD_set_true (RG bL _ kX j aa)).1
theorem Zn{callf:cc}(lE:lh callf)(ae:fX callf){rs:List Nat}{bS:List (Nat×List Nat)}{N base:Nat}{ops:Array Oper}{F':aH U}{af:al}:∀(bL:List Nat) (bJ:List (Nat×Option Nat)) (listed:Array Bool) (F:aH U) (X:al),listed.size=ops.size->Kept ops rs base listed X->X.cN=[]->
 vn P rs bS ops bL listed=true->jd P callf N ops.toList rs bS base bL bJ F X=some (F',af)->∃S:jr,rV P callf N ops S rs base (λaL X1=>hN F' aL/\X1=af) bL.length listed F X/\
  ∀i,i ∉ bL->∀k,mq bJ i=some k->∀j cd,j∈bL->ops[j]?=some cd->ou P cd.op=true->m5 (iw bS j) i=true->nL (S.pre j) (S.post j) k=true
 | [],bJ,listed,F,X,_,_,_,aJ,h=>by
   simp only[jd,Option.some.injEq,Prod.mk.injEq] at h;obtain⟨rfl,rfl⟩:=h;refine⟨⟨λ_=>X,λ_=>X,λ_=>none⟩,⟨?_,hN.refl _,rfl⟩,λi _ k _ j cd aa=>by cases aa⟩
   have:=RF [] listed aJ
   cases aQ:Region.ready .any ops listed with
   |nil=>rfl
   |cons a e3=>
    have bV:a∈Region.ready .any ops listed:=by rw[aQ];exact List.mem_cons_self ..
    have:=this a (mem_ready.1 bV).1
    cases this
 |k::bL,bJ,listed,F,X,dP,y3,aq,aJ,h=>by
  have Eu:=RG (k::bL) listed aJ;have QI:=RF (k::bL) listed aJ;simp only[jd] at h;split at h<;>try(cases h;done)
  rename_i o eN;cases y6:p7 P ops.toList base o F X with
  |false=>rw[y6] at h;cases h
  |true=>
   rw[y6] at h;simp only[cond_true] at h;split at h<;>try(cases h;done)
   rename_i aL X1 ak;cases kb:kt bJ X X1 (iw bS k) with
   |false=>rw[kb] at h;cases h
   |true=>
   rw[kb] at h;simp only[cond_true] at h;simp only[vn,Bool.and_eq_true] at aJ;obtain⟨⟨⟨aQ,nb⟩,dc⟩,kX⟩:=aJ;have ai:ops[k]?=some o:=by simpa using eN
   have sl:k∈Region.ready .any ops listed:=by simpa using aQ
   have ik:X1.cN=[]:=by
    obtain⟨y,bb,_⟩:=jC.1 ak;exact(LX ae bb).1 aq
   have JF:∀S:jr,S.pre k=X->S.post k=X1->S.obj k=(bif fo P o.op then addrOf ops.toList o F X else none)->v9 P callf N ops S rs base k F X aL X1:=λS az ay b9=>⟨o,ai,ak,λp2 j aa=>by
    unfold p7 at y6;rw[p2] at y6;simp only[cond_true,aa] at y6;rw[Nat.blt_eq] at y6
    exact y6,λ_ _ b6 cO=>by rw[az,ay] at cO;exact cO,λp2=>by rw[b9,p2];rfl⟩
   have apX:Kept ops rs base (listed.setIfInBounds k true) X1:=y3.step ae (JF ⟨λ_=>X,λ_=>X1,λ_=>bif fo P o.op then addrOf ops.toList o F X else none⟩ rfl rfl rfl);obtain⟨uS,pY,Em⟩:=Zn lE ae bL _ _ aL X1 (by simpa using dP) apX ik kX h;have Rj:=RG bL _ kX;have Eb:k ∉ bL:=λvd=>(getD_set_true (Rj k vd)).2 rfl
   have ca:∀j,j∈bL->j≠k:=λj aa e=>Eb (e▸aa)
   let S:jr:=uS.set k X X1 (bif fo P o.op then addrOf ops.toList o F X else none)
   have dW:∀j,j≠k->S.pre j=uS.pre j/\S.post j=uS.post j/\S.obj j=uS.obj j:=λj aa=>⟨if_neg aa,if_neg aa,if_neg aa⟩
   have pX:S.pre k=X/\S.post k=X1/\S.obj k=(bif fo P o.op then addrOf ops.toList o F X else none):=⟨if_pos rfl,if_pos rfl,if_pos rfl⟩;refine⟨S,?_,?_⟩
   ·have QA:rV P callf N ops S rs base (λaL X1=>hN F' aL/\X1=af) bL.length (listed.setIfInBounds k true) aL X1:=Zp bL.length _ _ _ (λj aa=>dW j (getD_set_true aa).2) pY;refine ak2 lE ae (λF aL X he bc=>⟨bc.1.trans he,bc.2⟩) ai dc ?_ bL.length listed F aL X X1 ⟨λj aa=>?_,λj aa=>aa⟩ y3 sl aq (JF S pX.1 pX.2.1 pX.2.2) QA
    ·intro j cd eT kW jk ag aR b6 cO;rw[pX.2.2] at cO
     have QX:j∈bL:=by
      rcases List.mem_cons.1 (QI j kW) with e|e
      ·exact absurd e jk
      ·exact e
     obtain⟨az,ay,_⟩:=dW j jk;rw[az,ay];cases p2:fo P o.op with
     |true=>
      rw[p2] at cO;simp only[cond_true] at cO;refine Em k Eb b6 ?_ j cd QX eT ag aR;simp only[p2,cond_true,mq];rw[cO]
      have:Nat.beq k k=true:=by simp
      rw[this];rfl
     |false=>rw[p2] at cO;cases cO
    ·have Ev:=(mem_ready.1 sl).1;by_cases jk:j=k
     ·subst jk;rcases Nat.lt_or_ge j listed.size with h'|h'
      ·simp[h'] at Ev aa;rw[Ev] at aa;cases aa
      ·simp[Array.getElem?_eq_none h'] at aa
     ·cases eT:ops[j]? with
      |none=>
       exfalso
       rcases Nat.lt_or_ge j listed.size with h'|h'
       ·rw[dP] at h';rw[Array.getElem?_eq_none_iff] at eT;omega
       ·simp[Array.getElem?_eq_none h'] at aa
      |some cd=>
       rcases aiz ai dc eT jk with⟨h1,_⟩|⟨_,h1,_⟩
       ·exact h1
       ·rcases Nat.lt_or_ge j listed.size with h'|h'
        ·simp[h'] at h1 aa;rw[h1] at aa;cases aa
        ·simp[Array.getElem?_eq_none h'] at aa
   ·intro i hi b6 cO j cd aa eT ag aR;have QU:i≠k:=λe=>hi (by rw[e];exact List.mem_cons_self ..)
    rcases List.mem_cons.1 aa with rfl|aa
    ·rw[pX.1,pX.2.1];exact Od kb i aR b6 cO
    ·obtain⟨az,ay,_⟩:=dW j (ca j aa);rw[az,ay];refine Em i (λh=>hi (List.mem_cons_of_mem _ h)) b6 ?_ j cd aa eT ag aR;cases fo P o.op with
     |true=>
      simp only[cond_true,mq]
      have:Nat.beq k i=false:=by
       cases h:Nat.beq k i with
       |false=>rfl
       |true=>exact absurd (Nat.eq_of_beq_eq_true h).symm QU
      rw[this];exact cO
     |false=>exact cO
theorem XT{callf:cc}(c0:jI P callf){rs:List Nat}{N base k:Nat}{ops:List Oper}{o:Oper}{F F':aH U}{X af:al}(h:lM P callf N ops rs base k o F X=some (F',af))(aB:cX af):cX X:=by
 obtain⟨y,bb,rfl⟩:=jC.1 h;cases aR:hI rs k o.op with
 |true=>obtain⟨ob,rfl,_⟩:=uC aR bb;exact aB
 |false=>
  rw[kL aR] at bb;exact XW (N:=N) c0 (lL.2 ⟨y,bb,rfl⟩) aB
theorem Zo{callf:cc}(c0:jI P callf){S:jr}{rs:List Nat}{N base:Nat}{ops:Array Oper}{G:aH U->al->Prop}(jh:∀F X,G F X->cX X):∀(n:Nat) (listed:Array Bool) (F:aH U) (X:al),rV P callf N ops S rs base G n listed F X->cX X
 |0,_,_,_,h=>jh _ _ h.2
 |n+1,listed,F,X,h=>by
  cases aQ:Region.ready .any ops listed with
  |nil=>exact jh _ _ (h.1 aQ)
  |cons i is=>
   obtain⟨aL,X1,⟨o,_,h1,_⟩,h2⟩:=h.2 i (by rw[aQ];exact List.mem_cons_self ..);exact XT c0 h1 (Zo c0 jh n _ _ _ h2)
def Env.cut(E:Env)(b:Nat):Env:={f:=λk=>if k<b then E k else none,n:=b}
theorem anh{b:Nat}{y:U}{v:Value}(aJ:kI b y=true){m:Nat}(hm:b<=m)(h:Den E y v):Den (E.cut m) y v:=by
 cases y with
 |val x=>exact h
 |int k n=>exact h
 |bool b=>exact h
 |str s=>exact h
 |ptr k off=>
  obtain⟨id,c,ai,rfl⟩:=h
  have:k<b:=by simp only[kI] at aJ;rw[Nat.blt_eq] at aJ;exact aJ
  exact⟨id,c,by show(if k<m then E k else none)=_;rw[if_pos (by omega)];exact ai,rfl⟩
 |aF k off len cap lo=>
  have:k<b:=by simp only[kI] at aJ;rw[Nat.blt_eq] at aJ;exact aJ
  have ad1:(E.cut m) k=E k:=if_pos (by omega);cases cap with
  |none=>obtain⟨id,c,⟨ai,ae⟩,rfl⟩:=h;exact⟨id,c,⟨by rw[ad1];exact ai,ae⟩,rfl⟩
  |some cap=>obtain⟨id,c,ai,rfl⟩:=h;exact⟨id,c,by rw[ad1];exact ai,rfl⟩
 |fn f a b=>simp[kI] at aJ
 |p4 t x=>simp[kI] at aJ
 |agg cs=>simp[kI] at aJ
 |bm cs=>simp[kI] at aJ
 |fV k=>simp[kI] at aJ
 |mp k=>simp[kI] at aJ
 |la k=>simp[kI] at aJ
theorem aax{b m:Nat}(hm:b<=m):∀{ys:List U} {vs:List Value},oz b ys=true->cg E ys vs->cg (E.cut m) ys vs
 | [],_,_,h=>h
 |y::ys,_,aJ,⟨v,vs,hv,h,e⟩=>by
  simp only[oz,Bool.and_eq_true] at aJ;exact⟨v,vs,anh aJ.1 hm hv,aax hm aJ.2 h,e⟩
theorem ar0{o:Oper}{a:Act}{ch:List U}{X af:al}{y:U}{base m:Nat}(aE:bQ P B aZ X E w)(aR:zl o.op=true)(hv:cg E ch (o.op.operands.toList.map a.eval))(og:oz base ch=true)
 (adW:base<=m)(l0:X.aO<=base)(aek:m<X.next)(D6:E m=none)(h:dX P o.op ch {X with next:=m}=some (y,af))(aB:cX X):
 ∃id c v w',((execOp a.eval o).run P w= .ok (.value v) w'\/((execOp a.eval o).run P w= .ok .skip w'/\v=undef))/\Den (E.put m id c) y v/\bQ P B aZ {af with next:=X.next} (E.put m id c) w':=by
 obtain⟨ob,apf,iR,lF⟩:=afz aR h
 let AD:al:={X with aV:={jD:= .nil,base:=λ_=>none},next:=m}
 have aQ:dX P o.op ch AD=some (y,(AD.new ob).2):=lF AD rfl
 have ao4:bQ P w.heap.size w AD (E.cut m) w:=by
  refine⟨rfl,rfl,rfl,Nat.le_refl _,λ_ _=>rfl,λk o ai=>(by cases ai),λk b6 o o' id c a4 ai=>(by cases ai),λk ai=>if_neg (Nat.not_lt.2 ai),λg bc=>?_,Nat.le_refl _⟩;obtain⟨c,ae⟩:=aE.ny g bc
  have:g<X.aO:=bc
  exact⟨c,by show(if g<m then E g else none)=_;rw[if_pos (by omega)];exact ae⟩
 obtain⟨aW,v,w',hle,gg,aI,et⟩:=aic ao4 (aax adW og hv) (show cX (AD.new ob).2 from aB) aQ
 have tL:(AD.new ob).2.aV.get m=some ob:=by
  show(cE.put _ m ob).get m=some ob;rw[cE.kT,if_pos rfl]
 obtain⟨id,c,tN,fH,sc⟩:=et.obj m ob tL
 have jz:Sub aW (E.put m id c):=λk x ax=>by
  rcases Nat.lt_trichotomy k m with ai|ai|ai
  ·rw[Env.rv E id c (by omega), <- show E.cut m k=E k from if_pos ai, <- hle.2.2 k ai];exact ax
  ·subst ai;rw[Env.l5, <- tN];exact ax
  ·rw[et.fresh k ai] at ax;cases ax
 have Rf:Sub E (E.put m id c):=Env.X2 D6
 have y5:∀k o',X.aV.get k=some o'->∀i a4,E k=some (i,a4)->i<w.heap.size:=by
  intro k o' ai i a4 he;obtain⟨i',a1,fS,Rc,_⟩:=aE.obj k o' ai;obtain⟨_,oi⟩:=Rc.there;rw[he] at fS;cases fS;rcases Nat.lt_or_ge i w.heap.size with h1|h1
  ·exact h1
  ·rw[Array.getElem?_eq_none h1] at oi;cases oi
 have apK:=sc (.inl iR);subst apf
 refine⟨id,c,v,w',gg,aI.sub jz,et.os.trans aE.os,et.tape.trans aE.tape,et.output.trans aE.output,Nat.le_trans aE.base et.base,λk ai=>(et.gB k (Nat.lt_of_lt_of_le ai aE.base)).trans (aE.gB k ai),λk o' ai=>?_,
  λk b6 dv cy i aP a1 ai cO he fS=>?_,λk ai=>?_,λg bc=>let ⟨a4,fk⟩:=aE.ny g bc;⟨a4,Rf _ _ fk⟩,aE.km⟩
 ·rcases cE.iM ai with⟨e,ay⟩|⟨e,aq⟩
  ·subst ay;rw[e];exact⟨id,c,Env.l5 _ _ _ _,fH.sub jz,λ_=>Nat.le_trans aE.base apK⟩
  ·obtain⟨i,a4,he,vh,ag⟩:=aE.obj k o' aq;exact⟨i,a4,Rf _ _ he,by rw[et.gB i (y5 k o' aq i a4 he)];exact vh.sub Rf,ag⟩
 ·rcases cE.iM ai with⟨e,_⟩|⟨e,aq⟩<;>rcases cE.iM cO with⟨bd,_⟩|⟨bd,gz⟩
  ·have az:k=m:=e;have ay:b6=m:=bd;rw[az,ay]
  ·have az:k=m:=e;rw[az,Env.l5] at he;cases he;have ay:b6≠m:=bd;rw[Env.rv E id c ay] at fS
   have:=y5 b6 cy gz _ _ fS
   omega
  ·have az:b6=m:=bd;rw[az,Env.l5] at fS;cases fS;have ay:k≠m:=e;rw[Env.rv E id c ay] at he
   have:=y5 k dv aq _ _ he
   omega
  ·have az:k≠m:=e;have ay:b6≠m:=bd;rw[Env.rv E id c az] at he;rw[Env.rv E id c ay] at fS;exact aE.inj k b6 dv cy i aP a1 aq gz he fS
 ·have Bm:X.next<=k:=ai
  rw[Env.rv E id c (by omega)];exact aE.fresh k Bm
theorem aiy{callf:cc}(ae:fX callf){rs:List Nat}{base k:Nat}{ops:List Oper}{o:Oper}{F:aH U}{X af:al}{y:U}(h:mM P callf ops rs base k o F X=some (y,af)):X.next<=af.next:=by
 cases aR:hI rs k o.op with
 |true=>obtain⟨ob,rfl,_⟩:=uC aR h;exact Nat.le_refl _
 |false=>
  rw[kL aR] at h;exact(vy ae h).next
theorem Yf{callf:cc}(ae:fX callf)(c0:jI P callf){S:jr}{rs:List Nat}{N base:Nat}{ops:Array Oper}(kh:∀o∈ops,p9 o.op=true){G:aH U->al->Prop}(jh:∀F X,G F X->cX X)(ro:Option Nat)
 {Q:Exit->Act->World->Prop}:∀(n:Nat) (listed:Array Bool) (F:aH U) (X:al) (E:Env) (a:Act) (w:World),rV P callf N ops S rs base G n listed F X->bQ P B aZ X E w->fD bq N E F a->X.cN=[]->
   (∀i o,listed.getD i true=false->ops[i]?=some o->hI rs i o.op=true->E (base+i)=none)->E.n=base+ops.size->base+ops.size<=X.next->X.aO<=base->
   (∀aL X1 aW a' w',G aL X1->Sub E aW->(∀k,k<base->aW k=E k)->aW.n=E.n->fD bq N aW aL a'->bQ P B aZ X1 aW w'->Q .normal a' w')->wpAnyIn (gE ro) 0 P .any ops Q n listed a w
 |0,_,F,X,E,a,w,h,aE,aY,_,_,_,_,_,dG=>⟨h.1,dG F X E a w h.2 (Sub.refl _) (λ_ _=>rfl) rfl aY aE⟩
 |n+1,listed,F,X,E,a,w,h,aE,aY,aeu,Bq,Jg,adR,l0,dG=>by
  refine⟨λaQ=>dG F X E a w (h.1 aQ) (Sub.refl _) (λ_ _=>rfl) rfl aY aE,λi hi=>?_⟩;obtain⟨aL,X1,⟨o,aq,h1,_⟩,h2⟩:=h.2 i hi;have vd:=Array.mem_of_getElem? aq;have apO:=(Array.getElem?_eq_some_iff.1 aq).1;have Eu:=(mem_ready.1 hi).1;obtain⟨y,bb,rfl⟩:=jC.1 h1;have tS:=Zo c0 jh n _ _ _ h2;have aeo:=aiy ae bb;obtain⟨ko,aK⟩:=LX ae bb;unfold wpOpIn;simp only[aq];cases aR:hI rs i o.op with
  |false=>
   rw[kL aR] at bb;refine aiF (N:=N) c0 aE aY (kh o vd) (lL.2 ⟨y,bb,rfl⟩) tS ro (λaW a' w' aj aC a8=>?_);refine Yf ae c0 kh jh ro n _ _ X1 aW a' w' h2 a8 aC (ko aeu) (λj cd aa eT oh=>?_) (aj.1.trans Jg) (Nat.le_trans adR aeo) (by rw[aK];exact l0) (λbw c5 nR uV vD bY b2 ht kS=>dG bw c5 nR uV vD bY (aj.sub.trans b2) (λk ai=>(ht k ai).trans (aj.2.2 k (by omega))) (kS.trans aj.1));have Bk:=(Array.getElem?_eq_some_iff.1 eT).1;rw[aj.2.2 (base+j) (by omega)];exact Bq j cd (getD_set_true aa).1 eT oh
  |true=>
   have fy:=bb;unfold mM at fy;simp only[aR,cond_true] at fy;split at fy<;>try(cases fy;done)
   rename_i apI;split at fy<;>try(cases fy;done)
   rename_i ch aJ;cases og:oz base ch with
   |false=>simp[og] at fy
   |true=>
   simp only[og,cond_true] at fy;split at fy<;>try(cases fy;done)
   rename_i rI c5 ak;cases fy;have aql:cX X:=XT c0 h1 tS;obtain⟨id,c,v,w',gg,aI,Qq⟩:=ar0 (a:=a) aE (zD aR) (JX aE aY aJ) og (by omega) l0 (by omega) (Bq i o Eu aq aR) ak aql;have D6:=Bq i o Eu aq aR;have jz:Sub E (E.put (base+i) id c):=Env.X2 D6;have Qv:fD bq N (E.put (base+i) id c) F a:=⟨aY.1,aY.2.1,λj z aa=>let ⟨l,u,g1,g2⟩:=aY.2.2 j z aa;⟨l,u,g1,g2.sub jz⟩⟩
   have kB:wpAnyIn (gE ro) 0 P .any ops Q n (listed.setIfInBounds i true) (a.put o.dst v) w':=by
    refine Yf ae c0 kh jh ro n _ _ _ _ _ w' h2 Qq (Qv.put aI) (ko aeu) (λj cd aa eT oh=>?_) Jg (Nat.le_trans adR aeo) (by rw[aK];exact l0) (λbw c5 nR uV vD bY b2 ht kS=>dG bw c5 nR uV vD bY (jz.trans b2) (λk ai=>(ht k ai).trans (Env.rv E id c (by omega))) kS);obtain⟨g1,g2⟩:=getD_set_true aa;rw[Env.rv E id c (by omega)];exact Bq j cd g1 eT oh
   have hw:Region.wanted o (yielded ops a.tmps)=true:=by simp[Region.wanted,apI]
   rw[if_pos hw];refine⟨λ_ _=>trivial,?_⟩
   have Ep:o.semAt (gE ro).round a.eval=execOp a.eval o:=by
    cases ro with
    |none=>rfl
    |some l=>exact Oper.semAt_some l _ o (λc ae=>by have fG:=zD aR;rw[ae] at fG;cases fG)
   rw[Ep];rcases gg with h|⟨h,e⟩
   ·rw[h];exact kB
   ·rw[h];subst e;exact kB
structure Aq (b:Nat) (X af:al):Prop where
 cN:X.cN=[]->af.cN=[]
 aO:af.aO=X.aO
 cq:∀k o o',k<b->X.aV.get k=some o->af.aV.get k=some o'->o.cq<=o'.cq/\(o'.cq=o.cq->o'=o)
 dead:∀k,k<b->X.aV.get k=none->af.aV.get k=none
 pc:cX af->cX X
theorem Aq.trans{b:Nat}{X Y Z:al}(h:Aq b X Y)(h':Aq b Y Z):Aq b X Z:=by
 refine⟨λaq=>h'.cN (h.cN aq),h'.aO.trans h.aO,λk o o' ai aq gz=>?_,λk ai aI=>h'.dead k ai (h.dead k ai aI),λp=>h.pc (h'.pc p)⟩;cases bb:Y.aV.get k with
 |none=>have:=h'.dead k ai bb;rw[gz] at this;cases this
 |some oy=>
  obtain⟨aj,aC⟩:=h.cq k o oy ai aq bb;obtain⟨bY,b2⟩:=h'.cq k oy o' ai bb gz;exact⟨Nat.le_trans aj bY,λe=>by rw[b2 (by omega),aC (by omega)]⟩
theorem aix{callf:cc}(ae:fX callf){rs:List Nat}{base k:Nat}{ops:List Oper}{o:Oper}{F:aH U}{X af:al}{y:U}(ag:base<=X.next)(h:mM P callf ops rs base k o F X=some (y,af)):Aq base X af/\base<=af.next:=by
 cases aR:hI rs k o.op with
 |true=>
  obtain⟨ob,rfl,_⟩:=uC aR h;refine⟨⟨λh=>h,rfl,λj a b aa h h'=>?_,λj aa h=>?_,λh=>h⟩,ag⟩
  ·rcases cE.iM h' with⟨e,_⟩|⟨_,h2⟩
   ·omega
   ·rw[h] at h2;cases h2;exact⟨Nat.le_refl _,λ_=>rfl⟩
  ·show(X.aV.put (base+k) ob).get j=none;cases h':(X.aV.put (base+k) ob).get j with
   |none=>rfl
   |some b=>
    rcases cE.iM h' with⟨e,_⟩|⟨_,h2⟩
    ·omega
    ·rw[h] at h2;cases h2
 |false=>
  rw[kL aR] at h;have k:=vy ae h;exact⟨⟨k.cN,k.aO,λj a b aa=>k.cq j a b (by omega),λj aa=>k.dead j (by omega),k.pc⟩,Nat.le_trans ag k.next⟩
theorem aaZ{callf:cc}(ae:fX callf){rs:List Nat}{bS:List (Nat×List Nat)}{N base:Nat}{ops:List Oper}:∀{bL:List Nat} {bJ:List (Nat×Option Nat)} {F F':aH U} {X af:al},base<=X.next->jd P callf N ops rs bS base bL bJ F X=some (F',af)->Aq base X af/\base<=af.next
 | [],_,_,_,_,_,ag,h=>by
   simp only[jd,Option.some.injEq,Prod.mk.injEq] at h;obtain⟨rfl,rfl⟩:=h;exact⟨⟨λh=>h,rfl,λk o o' _ h h'=>(by rw[h] at h';cases h';exact⟨Nat.le_refl _,λ_=>rfl⟩),λ_ _ h=>h,λh=>h⟩,ag⟩
 |k::bL,bJ,F,F',X,af,ag,h=>by
  simp only[jd] at h;split at h<;>try(cases h;done)
  rename_i o _;generalize p7 P ops base o F X=b at h;cases b with
  |false=>cases h
  |true=>
   simp only[cond_true] at h;split at h<;>try(cases h;done)
   rename_i aL X1 ak;generalize kt bJ X X1 (iw bS k)=b at h;cases b with
   |false=>cases h
   |true=>
   simp only[cond_true] at h;obtain⟨y,bb,_⟩:=jC.1 ak;obtain⟨k1,k2⟩:=aix ae ag bb;obtain⟨hG,ow⟩:=aaZ ae k2 h;exact⟨k1.trans hG,ow⟩
theorem aa1{callf:cc}(c0:jI P callf){rs:List Nat}{bS:List (Nat×List Nat)}{N base:Nat}{ops:List Oper}:∀{bL:List Nat} {bJ:List (Nat×Option Nat)} {F F':aH U} {X af:al},jd P callf N ops rs bS base bL bJ F X=some (F',af)->cX af->cX X
 | [],_,_,_,_,_,h,aB=>by simp only[jd,Option.some.injEq,Prod.mk.injEq] at h;obtain⟨rfl,rfl⟩:=h;exact aB
 |k::bL,bJ,F,F',X,af,h,aB=>by
  simp only[jd] at h;split at h<;>try(cases h;done)
  rename_i o _;generalize p7 P ops base o F X=b at h;cases b with
  |false=>cases h
  |true=>
   simp only[cond_true] at h;split at h<;>try(cases h;done)
   rename_i aL X1 ak;generalize kt bJ X X1 (iw bS k)=b at h;cases b with
   |false=>cases h
   |true=>
   simp only[cond_true] at h;exact XT c0 ak (aa1 c0 h aB)
end
section
variable{P:Program}{B:Nat}{aZ w:World}{E:Env}{bq:List Deferred}{X:al}
theorem bQ.hj(h:bQ P B aZ X E w)(l:List eR):bQ P B aZ {X with bx:=l} E w:=h.same rfl rfl rfl
theorem aiD{callf:cc}(c0:jI P callf)(ae:fX callf){N:Nat}{F F':aH U}{a:Act}{ops:Array Oper}{o:Oper}{af:al}{r:Option j2}(aE:bQ P B aZ X E w)(aY:fD bq N E F a)(dZ:j3 E X.bx bq)
 (kh:BW o.op=true)(ro:Option Nat)(apy:p5 o.op=true->ro=none)(h:l8 P callf N ops.toList o F X=some (r,F',af))(aB:cX af){K:Act->World->Prop}{Q:Exit->Act->World->Prop}
 (kB:r=none->∀aW eI a' w',cQ E aW->fD eI N aW F' a'->j3 aW af.bx eI->bQ P B aZ af aW w'->K a' w')
 (dG:∀bn,r=some bn->∀aW eI a' w' l,cQ E aW->fD eI N aW F' a'->j3 aW af.bx eI->bQ P B aZ af aW w'->lR aW bn l->Q (.panic l) a' w'):
 if Region.wanted o (yielded ops a.tmps) then o.wpIn (gE ro) 0 P a w K Q
 else(∀f,o.about P w a.eval=some f->(gE ro).fn f)/\K (a.put o.dst undef) w:=by
 unfold l8 at h;split at h
 ·rename_i X1 hw;obtain⟨h1,h2,h3,aT⟩:=Mk aY hw;have tJ:X1.bx=X.bx:=(xD hw).bx;cases aI:p5 o.op with
  |true=>
   rw[aI] at h;simp only[cond_true] at h;split at h<;>try(cases h;done)
   rename_i d m8;cases h;rw[(h1 aB).2,if_pos rfl];refine⟨λ_ _=>trivial,?_⟩;have iR:=apy aI;subst iR;unfold HP at m8;split at m8<;>try(cases m8;done)
   rename_i c p1;split at m8<;>try(cases m8;done)
   rename_i aoq f bZ qD args h8 aJ;cases m8;have kg:o.op.operands.toList=aoq::c.args.toList:=by rw[p1];simp[Op.operands,Call.operands,h8]
   rw[kg] at aJ;obtain⟨u,us,⟨sV,sW,EB,EC,hu⟩,zj,e⟩:=JX (aE.same h2 h3 aT) aY aJ;simp only[List.map_cons,List.cons.injEq] at e;obtain⟨az,ay⟩:=e;have wU:Array.map a.eval c.args=us.toArray:=by rw[<- ay, <- Array.toList_inj];simp
   have gg:(o.semAt (gE none).round a.eval).run P w= .ok (.defer {target:= .fn (.func f) sW.toArray,args:=(sV++us).toArray}) w:=by
    have:o.semAt (gE none).round a.eval=execOp a.eval o:=rfl
    rw[this];simp[execOp,p1,resolve,h8,az,hu,Deferred.ofValue,wU]
   rw[gg,Oper.uponIn_defer];refine kB rfl E ({target:= .fn (.func f) sW.toArray,args:=(sV++us).toArray}::bq) _ w (cQ.refl _) ?_ ?_ ((aE.same h2 h3 aT).hj _)
   ·have Qv:fD ({target:= .fn (.func f) sW.toArray,args:=(sV++us).toArray}::bq) N E F {a with defers:={target:= .fn (.func f) sW.toArray,args:=(sV++us).toArray}::a.defers}:=⟨by simp[aY.1],aY.2⟩;exact Qv.put rfl
   ·refine⟨_,bq,⟨sV++us,sW,EB.append zj,EC,rfl⟩,?_,rfl⟩;show j3 E X1.bx bq;rw[tJ];exact dZ
  |false=>
   rw[aI] at h;simp only[cond_false] at h
   have tQ:p9 o.op=true:=by
    cases aq:o.op<;>first|rfl|(rw[aq] at kh;simp[BW] at kh;done)|(rw[aq] at aI;simp[p5] at aI)
   split at h
   ·rename_i y c5 aq;cases h;have mC:=De c0 aq aB;rw[(h1 mC).2,if_pos rfl];have o7:af.bx=X.bx:=((HW ae aq).bx).trans tJ
    exact R3 c0 (aE.same h2 h3 aT) aY tQ aq aB ro (λz aX aW v w' aj aC a8=>by
     cases aX
     exact kB rfl aW bq _ w' aj ((aY.mono aj).put aC) (by rw[o7];exact dZ.sub aj.sub) a8) (λbn aX=>by cases aX)
   ·rename_i bn c5 aq;cases h;have mC:=De c0 aq aB;rw[(h1 mC).2,if_pos rfl];have o7:af.bx=X.bx:=((HW ae aq).bx).trans tJ
    exact R3 c0 (aE.same h2 h3 aT) aY tQ aq aB ro (λz aX=>by cases aX) (λZ2 aX aW l w' aj aC a8=>by
     cases aX
     exact dG _ rfl aW bq a w' l aj (aY.mono aj) (by rw[o7];exact dZ.sub aj.sub) a8 aC)
   ·cases h
 ·rename_i X1 hw;cases h;obtain⟨h1,h2,h3,aT⟩:=Mk aY hw;rw[(h1 aB).2,if_neg (by simp)];have tJ:af.bx=X.bx:=(xD hw).bx;exact⟨λ_ _=>trivial,kB rfl E bq _ w (cQ.refl _) (aY.put rfl) (by rw[tJ];exact dZ) (aE.same h2 h3 aT)⟩
 ·cases h
theorem aiC{callf:cc}(c0:jI P callf){N:Nat}{ops:List Oper}{o:Oper}{F F':aH U}{af:al}{r:Option j2}(h:l8 P callf N ops o F X=some (r,F',af))(aB:cX af):cX X:=by
 unfold l8 at h;split at h
 ·rename_i X1 hw;cases aI:p5 o.op with
  |true=>
   rw[aI] at h;simp only[cond_true] at h;split at h<;>cases h
   exact Cq hw aB
  |false=>
   rw[aI] at h;simp only[cond_false] at h;split at h
   ·rename_i aq;cases h;exact Cq hw (De c0 aq aB)
   ·rename_i aq;cases h;exact Cq hw (De c0 aq aB)
   ·cases h
 ·rename_i hw;cases h;exact Cq hw aB
 ·cases h
theorem HX{callf:cc}(c0:jI P callf){N:Nat}{ops:List Oper}:∀{l:List Oper} {F F':aH U} {X af:al} {r:Option j2},lz P callf N ops l F X=some (r,F',af)->cX af->cX X
 | [],_,_,_,_,_,h,aB=>by cases h;exact aB
 |o::l,F,F',X,af,r,h,aB=>by
  simp only[lz] at h;split at h
  ·rename_i aL X1 ak;exact aiC c0 ak (HX c0 h aB)
  ·exact aiC c0 h aB
theorem OK{callf:cc}(c0:jI P callf)(ae:fX callf){N:Nat}{ops:Array Oper}(ro:Option Nat){Q:Exit->Act->World->Prop}{F':aH U}{af:al}{r:Option j2}(aB:cX af):
 ∀(l:List Oper) (F:aH U) (X:al) (E:Env) (bq:List Deferred) (a:Act) (w:World),(∀o∈l,BW o.op=true/\(p5 o.op=true->ro=none))->bQ P B aZ X E w->fD bq N E F a->j3 E X.bx bq->lz P callf N ops.toList l F X=some (r,F',af)->
  (r=none->∀aW eI a' w',cQ E aW->fD eI N aW F' a'->j3 aW af.bx eI->bQ P B aZ af aW w'->Q .normal a' w')->
  (∀bn,r=some bn->∀aW eI a' w' p,cQ E aW->fD eI N aW F' a'->j3 aW af.bx eI->bQ P B aZ af aW w'->lR aW bn p->Q (.panic p) a' w')->wpListIn (gE ro) 0 P ops Q l a w
 | [],F,X,E,bq,a,w,_,aE,aY,dZ,h,dG,_=>by cases h;exact dG rfl E bq a w (cQ.refl _) aY dZ aE
 |o::l,F,X,E,bq,a,w,ak,aE,aY,dZ,h,dG,eF=>by
  simp only[lz] at h;obtain⟨s1,s2⟩:=ak o (List.mem_cons_self ..);unfold wpListIn;split at h
  ·rename_i aL X1 dc
   exact aiD c0 ae aE aY dZ s1 ro s2 dc (HX c0 h aB)
    (λ_ aW eI a' w' h1 h2 h3 aT=>OK c0 ae ro aB l aL X1 aW eI a' w' (λo' gz=>ak o' (List.mem_cons_of_mem _ gz)) aT h2 h3 h
      (λaQ nR On uV vD k1=>dG aQ nR On uV vD (h1.trans k1)) (λbn aQ nR On uV vD p k1=>eF bn aQ nR On uV vD p (h1.trans k1)))
    (λbn aQ=>by cases aQ)
  ·rename_i ca;refine aiD c0 ae aE aY dZ s1 ro s2 h aB (λaQ=>?_) eF;subst aQ;exact absurd h (ca F' af)
def ah9(F:Fence)(m:Nat)(P:Program)(c:Code)(Q:Exit->Act->World->Prop):Nat->Exit->Act->World->Prop
 |n,.goto l,a,w=>match findLabel c l with
  |none=>Q (.goto l) a w
  |some rest=>match n with
   |0=>False
   |n+1=>rest.wpIn F m P (ah9 F m P c Q n) a w
 |_,e,a,w=>Q e a w
end
section
variable{P:Program}{B:Nat}{aZ w:World}{E:Env}{bq:List Deferred}
def MY(E:Env):iu->Exit->Prop
 | .c4,e=>e= .normal
 | .ex id,e=>e= .exit id
 | .ret,e=>e= .ret
 | .gt l,e=>e= .goto l
 | .cY bn,e=>∃p,lR E bn p/\e= .panic p
def yd(E:Env):Option Nat->Option Nat->Prop
 |none,ro=>ro=none
 |some k,ro=>∃l c,E k=some (l,c)/\ro=some l
theorem yd.sub{E aW:Env}(aE:Sub E aW){rd ro:Option Nat}(h:yd E rd ro):yd aW rd ro:=by
 cases rd with
 |none=>exact h
 |some k=>obtain⟨l,c,h1,h2⟩:=h;exact⟨l,c,aE _ _ h1,h2⟩
def uQ(P:Program)(B:Nat)(aZ:World)(N:Nat)(E:Env)(ex:iu)(F':aH U)(af:al)(Q:Exit->Act->World->Prop):Prop:=
 ∀aW eI a' w' e,cQ E aW->fD eI N aW F' a'->j3 aW af.bx eI->bQ P B aZ af aW w'->MY aW ex e->Q e a' w'
theorem uQ.le{N:Nat}{E gG:Env}{ex:iu}{F':aH U}{af:al}{Q:Exit->Act->World->Prop}(h:uQ P B aZ N E ex F' af Q)(hle:cQ E gG):uQ P B aZ N gG ex F' af Q:=
 λaW eI a' w' e h1=>h aW eI a' w' e (hle.trans h1)
theorem uQ.mono{N:Nat}{E:Env}{ex:iu}{F':aH U}{af:al}{Q YY:Exit->Act->World->Prop}(h:uQ P B aZ N E ex F' af Q)(a2:∀aW e a w,MY aW ex e->Q e a w->YY e a w):uQ P B aZ N E ex F' af YY:=
 λaW eI a' w' e h1 h2 h3 aT bz=>a2 aW e a' w' bz (h aW eI a' w' e h1 h2 h3 aT bz)
def vR(P:Program)(rd:Option Nat)(N:Nat)(c:Code)(F:aH U)(X:al)(ex:iu)(F':aH U)(af:al):Prop:=
 cX X/\∀(ro:Option Nat) B aZ E bq a w (Q:Exit->Act->World->Prop),bQ P B aZ X E w->fD bq N E F a->j3 E X.bx bq->yd E rd ro->uQ P B aZ N E ex F' af Q->c.wpIn (gE ro) 0 P Q a w
theorem bQ.RV{X:al}(h:bQ P B aZ X E w)(l:List Bool):bQ P B aZ {X with cN:=l} E w:=h.same rfl rfl rfl
theorem afe{rd:Option Nat}{N:Nat}{c:Code}{body:aH U->al->R}(gL:∀F X ex F' af,body F X=some (ex,F',af)->cX af->vR P rd N c F X ex F' af):∀(fuel:Nat) (F:aH U) (X:al) (ex:iu) (F':aH U) (af:al),
 jA body fuel F X=some (ex,F',af)->cX af->cX X/\∀(ro:Option Nat) B aZ E bq a w (Q:Exit->Act->World->Prop),bQ P B aZ X E w->fD bq N E F a->j3 E X.bx bq->yd E rd ro->
  uQ P B aZ N E ex F' af Q->Code.roundsIn (gE ro) 0 P c Q fuel a w
 |0,F,X,ex,F',af,h,_=>by simp[jA] at h
 |fuel+1,F,X,ex,F',af,h,aB=>by
  have h':(match body F X with|some (.c4,F,X)=>jA body fuel F X|r=>r)=some (ex,F',af):=h;split at h'
  ·rename_i aL X1 ag;obtain⟨bM,k1⟩:=afe gL fuel aL X1 ex F' af h' aB;obtain⟨cz,k2⟩:=gL F X .c4 aL X1 ag bM;refine⟨cz,λro B aZ E bq a w Q aE aY dZ eF dG=>?_⟩;rw[roundsIn_succ];refine k2 ro B aZ E bq a w _ aE aY dZ eF (λaW eI a' w' e aj aC a8 cF dK=>?_);cases dK;exact k1 ro B aZ aW eI a' w' Q cF aC a8 (eF.sub aj.sub) (dG.le aj)
  ·rename_i r ca;obtain⟨cz,k2⟩:=gL F X ex F' af h' aB;refine⟨cz,λro B aZ E bq a w Q aE aY dZ eF dG=>?_⟩;rw[roundsIn_succ];refine k2 ro B aZ E bq a w _ aE aY dZ eF (dG.mono λaW e a w he a2=>?_);cases ex with
   |c4=>exact absurd h' (ca F' af)
   |ex id=>cases he;exact a2
   |ret=>cases he;exact a2
   |gt l=>cases he;exact a2
   |cY bn=>obtain⟨p,_,rfl⟩:=he;exact a2
theorem ahC(callf:cc)(c0:jI P callf)(ae:fX callf)(hm:P.follows .mixedOrders=true){rd:Option Nat}{N:Nat}{id:Nat}{ops:Array Oper}{F F':aH U}{X af:al}{is:List Nat}{bS:List (Nat×List Nat)}(eN:HQ P bS ops is=true)
 (h:iK P callf N ops.toList bS is [] F {X with cN:=[]}=some (F',af))(tS:cX af):vR P rd N (.region id ops true) F X .c4 F' {af with cN:=X.cN}:=by
 simp only[HQ,Bool.and_eq_true,Array.all_eq_true_iff_forall_mem] at eN;obtain⟨⟨kh,hlen⟩,Q1⟩:=eN;have Bn:=Nat.eq_of_beq_eq_true hlen;have QM:af.bx=X.bx:=(Oj ae h).bx;refine⟨λp nc=>aas c0 h tS p nc,λro B aZ E bq a w Q aE aY dZ eF dG=>?_⟩;refine wpIn_region_any hm ?_;obtain⟨S,pY,_⟩:=Zj ae is [] (Array.replicate ops.size false) F {X with cN:=[]} (by simp) rfl Q1 h;rw[Bn] at pY;refine ajn c0 kh (λaL X1 bc=>by rw[bc.2];exact tS) ro ops.size _ F _ E a _ pY (aE.RV []).drew aY ?_
 rintro aL X1 aW a' w' ⟨he,rfl⟩ hle DP et
 exact dG aW bq a' w' .normal hle (DP.eqv he.symm) (by show j3 aW X1.bx bq;rw[QM];exact dZ.sub hle.sub) (et.RV _) rfl
theorem Zd{X:al}{base:Nat}:∀{rs:List Nat},nY X base rs=true->∀{j:Nat},m5 rs j=true->X.aV.get (base+j)=none
 | [],_,j,aa=>by simp[m5] at aa
 |k::bL,h,j,aa=>by
  simp only[nY,Bool.and_eq_true] at h;simp only[m5,Bool.or_eq_true] at aa;rcases aa with aa|aa
  ·have e:=Nat.eq_of_beq_eq_true aa;subst e
   have:=h.1
   cases bc:X.aV.get (base+k) with
   |none=>rfl
   |some o=>rw[bc] at this;cases this
  ·exact Zd h.2 aa
theorem aaX{callf:cc}(ae:fX callf){rs:List Nat}{bS:List (Nat×List Nat)}{N base:Nat}{ops:List Oper}:∀{bL:List Nat} {bJ:List (Nat×Option Nat)} {F F':aH U} {X af:al},jd P callf N ops rs bS base bL bJ F X=some (F',af)->af.bx=X.bx
 | [],_,_,_,_,_,h=>by simp only[jd,Option.some.injEq,Prod.mk.injEq] at h;obtain⟨rfl,rfl⟩:=h;rfl
 |k::bL,bJ,F,F',X,af,h=>by
  simp only[jd] at h;split at h<;>try(cases h;done)
  rename_i o _;generalize p7 P ops base o F X=b at h;cases b with
  |false=>cases h
  |true=>
   simp only[cond_true] at h;split at h<;>try(cases h;done)
   rename_i aL X1 ak;generalize kt bJ X X1 (iw bS k)=b at h;cases b with
   |false=>cases h
   |true=>
   simp only[cond_true] at h;refine(aaX ae h).trans ?_;obtain⟨y,bb,_⟩:=jC.1 ak;cases aR:hI rs k o.op with
   |true=>obtain⟨ob,rfl,_⟩:=uC aR bb;rfl
   |false=>rw[kL aR] at bb;exact(vy ae bb).bx
theorem ar8(callf:cc)(c0:jI P callf)(ae:fX callf)(lE:lh callf)(hm:P.follows .mixedOrders=true){rd:Option Nat}{N:Nat}{id:Nat}{ops:Array Oper}{F F':aH U}{X af:al}{is rs:List Nat}{bS:List (Nat×List Nat)}(eN:RT P rs bS ops is=true)(yS:nY X X.next rs=true)
 (h:jd P callf N ops.toList rs bS X.next is [] F {X with cN:=[],next:=X.next+ops.size}=some (F',af))(tS:cX af):vR P rd N (.region id ops true) F X .c4 F' {af with cN:=X.cN}:=by
 simp only[RT,Bool.and_eq_true,Array.all_eq_true_iff_forall_mem] at eN;obtain⟨⟨kh,hlen⟩,Q1⟩:=eN
 have y3:Kept ops rs X.next (Array.replicate ops.size false) {X with cN:=[],next:=X.next+ops.size}:=by
  intro j cd eT _ aR;have a9:=(Array.getElem?_eq_some_iff.1 eT).1;refine⟨?_,by show X.next+j<X.next+ops.size;omega⟩;have vd:m5 rs j=true:=by simp only[hI,Bool.and_eq_true] at aR;exact aR.1
  exact Zd yS vd
 have Bn:=Nat.eq_of_beq_eq_true hlen;have QM:af.bx=X.bx:=aaX (X:={X with cN:=[],next:=X.next+ops.size}) ae h;refine⟨λp nc=>aa1 c0 h tS p nc,λro B aZ E bq a w Q aE aY dZ eF dG=>?_⟩;refine wpIn_region_any hm ?_;obtain⟨S,pY,_⟩:=Zn lE ae is [] (Array.replicate ops.size false) F {X with cN:=[],next:=X.next+ops.size} (by simp) y3 rfl Q1 h;rw[Bn] at pY
 let gG:Env:={f:=E.f,n:=X.next+ops.size}
 have yN:bQ P B aZ {X with cN:=[],next:=X.next+ops.size} gG {w with drawn:=w.drawn+1}:=by
  have:=(aE.RV []).drew
  exact⟨this.os,this.tape,this.output,this.base,this.gB,λk o ai=>let ⟨i,c,aj,aC,a8⟩:=this.obj k o ai;⟨i,c,aj,aC.sub (show Sub E gG from λ_ _ h=>h),a8⟩,this.inj,λk ai=>aE.fresh k (Nat.le_trans (Nat.le_add_right _ _) ai),this.ny,Nat.le_refl _⟩
 have l0:X.aO<=X.next:=by
  rcases Nat.lt_or_ge X.next X.aO with h'|h'
  ·obtain⟨c,fk⟩:=aE.ny X.next h'
   rw[aE.fresh X.next (Nat.le_refl _)] at fk;cases fk
  ·exact h'
 have Qu:fD bq N gG F a:=⟨aY.1,aY.2.1,λj z aa=>let ⟨l,u,g1,g2⟩:=aY.2.2 j z aa;⟨l,u,g1,g2.sub (show Sub E gG from λ_ _ h=>h)⟩⟩;refine Yf ae c0 kh (λaL X1 bc=>by rw[bc.2];exact tS) ro ops.size _ F _ gG a _ pY yN Qu rfl (λi o _ _ _=>aE.fresh _ (Nat.le_add_right _ _)) rfl (Nat.le_refl _) l0 ?_
 rintro aL X1 aW a' w' ⟨he,rfl⟩ jz og aR DP et
 have Jg:E.n<=X.next:=aE.km
 have hle:cQ E {f:=aW.f,n:=E.n}:=⟨rfl,λk x ai=>jz k x ai,λk ai=>og k (Nat.lt_of_lt_of_le ai Jg)⟩;refine dG {f:=aW.f,n:=E.n} bq a' w' .normal hle ⟨DP.1,DP.2.1,λj z aa=>?_⟩ (by show j3 _ X1.bx bq;rw[QM];exact dZ.sub hle.sub) ?_ rfl
 ·obtain⟨l,u,g1,g2⟩:=DP.2.2 j z (by rw[<- he j];exact aa);exact⟨l,u,g1,g2.sub (show Sub aW {f:=aW.f,n:=E.n} from λ_ _ h=>h)⟩
 ·have gq:=et.km;rw[aR] at gq;have aGN:X.next+ops.size<=X1.next:=gq
  exact⟨et.os,et.tape,et.output,et.base,et.gB,λk o ai=>let ⟨i,c,aj,aC,a8⟩:=et.obj k o ai;⟨i,c,aj,aC.sub (show Sub aW {f:=aW.f,n:=E.n} from λ_ _ h=>h),a8⟩,et.inj,et.fresh,et.ny,by show E.n<=X1.next;omega⟩
theorem DH{id:Nat}{r:Loop}(h:w.heap[id]?=some (.loop r)):(Instr.getLoop id).run P w= .ok r w:=by
 simp[Instr.getLoop,getObj,Sem.run,h,bind,Sem.bind]
theorem aBd(callf:cc)(c0:jI P callf)(ae:fX callf){ord:Nat->Hint}{me:FuncId}{rd:Option Nat}{N:Nat}{g:Operand}{ps:Array Tmp}{e3 body:Code}{F F':aH U}{X af:al}{y:U}{ex:iu}(aqg:ix P ord true e3=true)(aqh:ix P ord true body=true)
 (aJ:look X.aO F g=some y)(h:qe callf ord me rd N ps e3 body y F X=some (ex,F',af))(aB:cX af):vR P rd N (.rangeFunc g ps e3 body) F X ex F' af:=by
 unfold qe at h;split at h<;>try(cases h;done)
 rename_i f bZ qD b X1 ag
 have aqm:cX X1->cX X:=by
  intro mC;unfold tl at ag;split at ag
  ·cases ag;exact mC
  ·split at ag<;>try(cases ag;done)
   split at ag<;>cases ag
   exact mC
 have key:∃out c5,callf (.iJ f) (bZ++[.fV (X1.new (iA ord me N (iB (iS ord N body) F.get) ps e3 body b)).1]++qD) {(X1.new (iA ord me N (iB (iS ord N body) F.get) ps e3 body b)).2 with bx:=[]}=some (out,c5)/\cX c5/\
  ((∃bn,out= .cY bn/\ex= .cY bn/\F'=F/\af={c5 with bx:=X1.bx})\/∃z,out= .ret z/\tu F (X1.new (iA ord me N (iB (iS ord N body) F.get) ps e3 body b)).1 {c5 with bx:=X1.bx}=some (ex,F',af)):=by
  split at h
  ·rename_i z c5 fR;refine⟨_,c5,fR,?_,.inr ⟨z,rfl,h⟩⟩;unfold tu at h;split at h<;>try(cases h;done)
   split at h<;>try(cases h;done)
   split at h<;>cases h
   all_goals exact aB
  ·rename_i bn c5 fR;cases h;exact⟨_,c5,fR,aB,.inl ⟨bn,rfl,rfl,rfl,rfl⟩⟩
  ·cases h
 obtain⟨out,c5,fR,zg,sk⟩:=key;obtain⟨bM,k1⟩:=c0 _ _ _ _ _ fR zg;refine⟨aqm bM,λro B aZ E bq a w Q aE aY dZ eF dG=>?_⟩;refine wpIn_rangeFunc λfn _=>?_
 have apo:∃gG cP mark r cJ,cQ E gG/\bQ P B aZ X1 gG cP/\gG b=some (r,cJ)/\j3 gG X1.bx (mark++bq)/\
  (Instr.enterLoop fn a.tmps ps e3 body ro).run P w= .ok (cP.heap.size,mark) (cP.alloc (.loop {state:= .ready,pending:=none,fn:=fn,tmps:=a.tmps,params:=ps,assign:=e3,body:=body,defers:=r})):=by
  unfold tl at ag;cases rd with
  |none=>
   have iR:ro=none:=eF;subst iR;simp only[Option.some.injEq,Prod.mk.injEq] at ag;obtain⟨rfl,rfl⟩:=ag;have hle:cQ E (E.put X.next w.heap.size 0):=Env.sy (aE.fresh _ (Nat.le_refl _)) aE.km;refine⟨E.put X.next w.heap.size 0,w.alloc (.deferred (some [])),[{target:= .collected w.heap.size,args:= #[]}],w.heap.size,0,hle,(aE.J2 sB (.deferred (some [])) 0 λaW _=> .inr ⟨rfl,rfl,rfl⟩).hj _,Env.l5 _ _ _ _,⟨_,bq,⟨_,_,Env.l5 _ _ _ _,rfl⟩,dZ.sub hle.sub,rfl⟩,by simp[Instr.enterLoop]⟩
  |some k=>
   obtain⟨l,c,ai,iR⟩:=eF;subst iR;simp only at ag;split at ag<;>try(cases ag;done)
   rename_i o aq;split at ag<;>try(cases ag;done)
   rename_i st iC od gT GO GG Kd Hs HD mY ak;cases ag;obtain⟨il,a4,cO,fH,_⟩:=aE.z6 aq (by rw[ak];simp);rw[ai] at cO;cases cO;rw[ak] at fH;obtain⟨_,r,h1,_,_,_,_,_,⟨cJ,dN⟩,_⟩:=fH;exact⟨E,w,[],r.defers,cJ,cQ.refl _,aE,dN,dZ,by simp[Instr.enterLoop,DH h1]⟩
 obtain⟨gG,cP,mark,r,cJ,aei,yN,DU,ao3,apq⟩:=apo;have aej:cQ gG (gG.put X1.next cP.heap.size 0):=Env.sy (yN.fresh _ (Nat.le_refl _)) yN.km;have hle:=aei.trans aej
 let zU:Loop:={state:= .ready,pending:=none,fn:=fn,tmps:=a.tmps,params:=ps,assign:=e3,body:=body,defers:=r}
 have Qq:bQ P B aZ (X1.new (iA ord me N (iB (iS ord N body) F.get) ps e3 body b)).2 (gG.put X1.next cP.heap.size 0) (cP.alloc (.loop zU)):=
  yN.J2 (iA ord me N (iB (iS ord N body) F.get) ps e3 body b) (.loop zU) 0 λaW aeh=> .inr ⟨⟨⟨aqg,aqh⟩,zU,rfl,rfl,rfl,rfl,rfl,rfl,⟨cJ,aeh.sub _ _ DU⟩,((show oQ N E F a.tmps from aY.2).sub (aei.trans aeh).sub).norm⟩,rfl,rfl⟩
 have aed:(gG.put X1.next cP.heap.size 0) (X1.new (iA ord me N (iB (iS ord N body) F.get) ps e3 body b)).1=some (cP.heap.size,0):=Env.l5 _ _ _ _;have bc:=JW aE aY aJ;obtain⟨sV,sW,EB,EC,apJ⟩:=bc;have JK:cg (gG.put X1.next cP.heap.size 0) [.fV (X1.new (iA ord me N (iB (iS ord N body) F.get) ps e3 body b)).1] [Value.func (.yield cP.heap.size) #[] #[]]:=⟨_,_,⟨_,_,aed,rfl⟩,rfl,rfl⟩;have DZ:a.eval (.const (.func (.yield cP.heap.size) #[] #[]))= .func (.yield cP.heap.size) #[] #[]:=rfl
 obtain⟨aoh,yW,gL,Ei,sd⟩:=k1 B aZ (gG.put X1.next cP.heap.size 0) (cP.alloc (.loop zU)) (sV++[Value.func (.yield cP.heap.size) #[] #[]]++sW) (Qq.hj _)
  (((EB.sub hle.sub).append JK).append (EC.sub hle.sub))
 have DX:aoh.body≠none:=λe=>by rw[e] at gL;cases gL
 refine⟨cP.heap.size,mark,cP.alloc (.loop zU),{target:= .fn (.func f) sW.toArray,args:=sV.toArray++ #[.func (.yield cP.heap.size) #[] #[]]},cP.alloc (.loop zU),f,(sV++[Value.func (.yield cP.heap.size) #[] #[]]++sW).toArray,cP.alloc (.loop zU),?_,?_,λ_ _=>trivial,?_,(λh=>by cases h),?_⟩
 ·exact apq
 ·simp[resolve,apJ,Deferred.ofValue,DZ]
 ·simp[invoke,callFunc,yW,Ei,DX]
 ·refine CallsIn.mono (CallsIn.Ht ro sd) ?_
  rintro e fh ⟨vV,Q0,Qr,tU⟩
  have Ee:=hle.trans Q0;have aGF:=ae _ _ _ _ _ fR;have Jh:fD (mark++bq) N vV F {a with defers:=mark++a.defers}:=⟨by show mark++a.defers=_;rw[aY.1],(show oQ N E F a.tmps from aY.2).sub Ee.sub⟩;have Jf:j3 vV X1.bx (mark++bq):=ao3.sub (aej.trans Q0).sub;rcases sk with⟨bn,rfl,rfl,rfl,rfl⟩|⟨z,rfl,se⟩
  ·obtain⟨p,rfl,QH⟩:=tU;exact dG vV (mark++bq) {a with defers:=mark++a.defers} fh (.panic p) Ee Jh Jf (Qr.hj _) ⟨p,QH,rfl⟩
  ·obtain⟨v,rfl,_⟩:=tU;unfold tu at se;split at se<;>try(cases se;done)
   rename_i o aq;split at se<;>try(cases se;done)
   rename_i st iC od gT GO GG Kd Hs HD mY ak;have ca:o.sp≠ .cells:=by rw[ak];simp
   have gz:c5.aV.get (X1.new (iA ord me N (iB (iS ord N body) F.get) ps e3 body b)).1=some o:=aq;have aec:vV (X1.new (iA ord me N (iB (iS ord N body) F.get) ps e3 body b)).1=some (cP.heap.size,0):=Q0.sub _ _ aed;obtain⟨il,a4,cO,fH,_⟩:=Qr.z6 gz ca;rw[aec] at cO;cases cO;rw[ak] at fH;obtain⟨g0,fB,g1,g2,g3,g4,g5,g6,g7,g8⟩:=fH
   have fin:st≠ .busy->some (JL iC,F,{({c5 with bx:=X1.bx}:al) with aV:=c5.aV.put (X1.new (iA ord me N (iB (iS ord N body) F.get) ps e3 body b)).1 {o with cq:=o.cq+1,sp:= .loop .exhausted iC od gT GO GG Kd Hs HD mY}})=some (ex,F',af)->
    rangePost (gE ro) 0 P cP.heap.size Q {a with defers:=mark++a.defers} (.returned v) fh:=by
    intro dc adQ;simp only[Option.some.injEq,Prod.mk.injEq] at adQ;obtain⟨rfl,rfl,rfl⟩:=adQ;obtain⟨gD,Er,Qs⟩:=Qr.XO (s:= .loop .exhausted iC od gT GO GG Kd Hs HD mY) (obj':= .loop {fB with state:= .exhausted}) gz ca aec ⟨g0,_,rfl,rfl,g3,g4,g5,g6,g7,g8⟩ P;refine⟨ub iC,gD,?_,?_⟩
    ·have yP:¬fB.state=LoopState.busy:=by rw[g2];exact dc
     rw[<- g3];simp[Instr.endLoop,DH g1,yP,Er]
    ·have Qt:bQ P B aZ {({c5 with bx:=X1.bx}:al) with aV:=c5.aV.put (X1.new (iA ord me N (iB (iS ord N body) F.get) ps e3 body b)).1 {o with cq:=o.cq+1,sp:= .loop .exhausted iC od gT GO GG Kd Hs HD mY}} vV gD:=Qs.hj _;cases iC with
     |none=>exact dG vV (mark++bq) _ gD .normal Ee Jh Jf Qt rfl
     |ret=>exact wpIn_ret (dG vV (mark++bq) _ gD .ret Ee Jh Jf Qt rfl)
     |ex id=>exact wpIn_exit (dG vV (mark++bq) _ gD (.exit id) Ee Jh Jf Qt rfl)
   split at se
   ·cases se
   ·rename_i tP;exact fin tP se
end
section
variable{P:Program}{B:Nat}{aZ w:World}{E:Env}{bq:List Deferred}
def YS(P:Program)(ord:Nat->Hint)(rd:Option Nat)(N:Nat)(jump:pI):Prop:=∀c rest F X ex F' af,ix P ord rd.isSome c=true->ix P ord rd.isSome rest=true->jump c rest F X=some (ex,F',af)->cX af->
 cX X/\∃n,∀(ro:Option Nat) B aZ E bq a w (Q:Exit->Act->World->Prop),bQ P B aZ X E w->fD bq N E F a->j3 E X.bx bq->yd E rd ro->uQ P B aZ N E ex F' af Q->rest.wpIn (gE ro) 0 P (ah9 (gE ro) 0 P c Q n) a w
theorem r6(callf:cc)(c0:jI P callf)(ae:fX callf)(lE:lh callf)(hm:P.follows .mixedOrders=true){ord:Nat->Hint}{me:FuncId}{rd:Option Nat}{N fuel:Nat}{jump:pI}(aa:YS P ord rd N jump):∀(c:Code) (F:aH U) (X:al) (ex:iu) (F':aH U) (af:al),ix P ord rd.isSome c=true->
 cl P callf ord me rd N fuel jump c F X=some (ex,F',af)->cX af->vR P rd N c F X ex F' af
 | .skip,F,X,ex,F',af,_,h,aB=>by
   simp only[cl,Option.some.injEq,Prod.mk.injEq] at h;obtain⟨rfl,rfl,rfl⟩:=h;exact⟨aB,λro B aZ E bq a w Q aE aY dZ eF dG=>wpIn_skip (dG E bq a w .normal (cQ.refl _) aY dZ aE rfl)⟩
 | .region id ops false,F,X,ex,F',af,eN,h,aB=>by
   simp only[cl] at h
   have kh:∀{E:Env} {ro:Option Nat},yd E rd ro->∀o∈ops.toList,BW o.op=true/\(p5 o.op=true->ro=none):=by
    intro E ro eF o aq;have Jz:(bif rd.isSome then ops.all (λo=>p9 o.op) else ops.all λo=>BW o.op)=true:=eN;cases rd with
    |none=>
     simp only[Option.isSome_none,cond_false,Array.all_eq_true_iff_forall_mem] at Jz;exact⟨Jz o (by simpa using aq),λ_=>eF⟩
    |some k=>
     simp only[Option.isSome_some,cond_true,Array.all_eq_true_iff_forall_mem] at Jz;have h1:=Jz o (by simpa using aq);refine⟨?_,λaI=>?_⟩
     ·cases p1:o.op<;>first|rfl|(rw[p1] at h1;simp[p9] at h1)
     ·cases p1:o.op<;>first|(rw[p1] at aI;simp[p5] at aI;done)|(rw[p1] at h1;simp[p9] at h1)
   split at h<;>try(cases h;done)
   ·rename_i aL X1 kg;simp only[Option.some.injEq,Prod.mk.injEq] at h;obtain⟨rfl,rfl,rfl⟩:=h;refine⟨HX c0 kg aB,λro B aZ E bq a w Q aE aY dZ eF dG=>wpIn_region_list ?_⟩;exact OK c0 ae ro aB ops.toList F X E bq a w (kh eF) aE aY dZ kg (λ_ aW eI a' w' h1 h2 h3 aT=>dG aW eI a' w' .normal h1 h2 h3 aT rfl) (λbn aQ=>by cases aQ)
   ·rename_i bn aL X1 kg;simp only[Option.some.injEq,Prod.mk.injEq] at h;obtain⟨rfl,rfl,rfl⟩:=h;refine⟨HX c0 kg aB,λro B aZ E bq a w Q aE aY dZ eF dG=>wpIn_region_list ?_⟩;exact OK c0 ae ro aB ops.toList F X E bq a w (kh eF) aE aY dZ kg (λaQ=>by cases aQ) (λZ2 aQ aW eI a' w' p h1 h2 h3 aT bz=>by cases aQ;exact dG aW eI a' w' (.panic p) h1 h2 h3 aT ⟨p,bz,rfl⟩)
 | .region id ops true,F,X,ex,F',af,eN,h,aB=>by
   simp only[cl] at h;simp only[ix] at eN;split at h<;>try(cases h;done)
   rename_i aL X1 aI;simp only[Option.some.injEq,Prod.mk.injEq] at h;obtain⟨rfl,rfl,rfl⟩:=h;cases aq:ord id with
   |text=>rw[aq] at eN aI;exact ahC callf c0 ae hm eN aI aB
   |skip=>rw[aq] at aI;cases aI
   |ord is bS=>rw[aq] at eN aI;exact ahC callf c0 ae hm eN aI aB
   |news is rs=>
    rw[aq] at eN aI;simp only[force_eq] at aI;cases m8:nY X X.next rs with
    |false=>rw[m8] at aI;cases aI
    |true=>
     rw[m8] at aI;exact ar8 callf c0 ae lE hm eN m8 aI aB
 | .seq x y,F,X,ex,F',af,eN,h,aB=>by
   simp only[ix,Bool.and_eq_true] at eN;simp only[cl] at h;split at h
   ·rename_i aL X1 ax;obtain⟨bM,k1⟩:=r6 callf c0 ae lE hm aa y aL X1 ex F' af eN.2 h aB;obtain⟨cz,k2⟩:=r6 callf c0 ae lE hm aa x F X .c4 aL X1 eN.1 ax bM;refine⟨cz,λro B aZ E bq a w Q aE aY dZ eF dG=>wpIn_seq (k2 ro B aZ E bq a w _ aE aY dZ eF (λaW eI a' w' e aj aC a8 cF dK=>?_))⟩;cases dK;exact k1 ro B aZ aW eI a' w' Q cF aC a8 (eF.sub aj.sub) (dG.le aj)
   ·rename_i r ca;obtain⟨cz,k2⟩:=r6 callf c0 ae lE hm aa x F X ex F' af eN.1 h aB;refine⟨cz,λro B aZ E bq a w Q aE aY dZ eF dG=>wpIn_seq (k2 ro B aZ E bq a w _ aE aY dZ eF (dG.mono λaW e a w he a2=>?_))⟩;cases ex with
    |c4=>exact absurd h (ca F' af)
    |ex id=>cases he;exact a2
    |ret=>cases he;exact a2
    |gt l=>cases he;exact a2
    |cY bn=>obtain⟨p,_,rfl⟩:=he;exact a2
 | .cond c x y,F,X,ex,F',af,eN,h,aB=>by
   simp only[ix,Bool.and_eq_true] at eN;simp only[cl] at h;split at h<;>try(cases h;done)
   rename_i z aX;split at h
   ·rename_i X1 ag;obtain⟨bM,k1⟩:=r6 callf c0 ae lE hm aa x F X1 ex F' af eN.1 h aB;obtain⟨h1,h2,h3,aT⟩:=uX ag;have aI:=NW ag;exact⟨(h1 bM).1,λro B aZ E bq a w Q aE aY dZ eF dG=>wpIn_cond_true ((h1 bM).2 _ _ (JW aE aY aX)) (k1 ro B aZ E bq a w Q (aE.same h2 h3 aT) aY (by rw[aI];exact dZ) eF dG)⟩
   ·rename_i X1 ag;obtain⟨bM,k1⟩:=r6 callf c0 ae lE hm aa y F X1 ex F' af eN.2 h aB;obtain⟨h1,h2,h3,aT⟩:=uX ag;have aI:=NW ag;exact⟨(h1 bM).1,λro B aZ E bq a w Q aE aY dZ eF dG=>wpIn_cond_false ((h1 bM).2 _ _ (JW aE aY aX)) (k1 ro B aZ E bq a w Q (aE.same h2 h3 aT) aY (by rw[aI];exact dZ) eF dG)⟩
   ·cases h
 | .block id c,F,X,ex,F',af,eN,h,aB=>by
   simp only[ix] at eN;simp only[cl] at h;split at h
   ·rename_i il aL X1 ax;cases ag:Nat.beq il id with
    |true=>
     have e:=Nat.eq_of_beq_eq_true ag;simp only[ag,cond_true,Option.some.injEq,Prod.mk.injEq] at h;obtain⟨rfl,rfl,rfl⟩:=h;obtain⟨bM,k1⟩:=r6 callf c0 ae lE hm aa c F X _ _ _ eN ax aB;refine⟨bM,λro B aZ E bq a w Q aE aY dZ eF dG=>wpIn_block (k1 ro B aZ E bq a w _ aE aY dZ eF (λaW eI a' w' aaK aj aC a8 cF dK=>?_))⟩;cases dK;simp only[Exit.inBlock,e,if_true];exact dG aW eI a' w' .normal aj aC a8 cF rfl
    |false=>
     have e:=Nat.ne_of_beq_eq_false ag;simp only[ag,cond_false,Option.some.injEq,Prod.mk.injEq] at h;obtain⟨rfl,rfl,rfl⟩:=h;obtain⟨bM,k1⟩:=r6 callf c0 ae lE hm aa c F X _ _ _ eN ax aB;refine⟨bM,λro B aZ E bq a w Q aE aY dZ eF dG=>wpIn_block (k1 ro B aZ E bq a w _ aE aY dZ eF (λaW eI a' w' aaK aj aC a8 cF dK=>?_))⟩;cases dK;simp only[Exit.inBlock,e,if_false];exact dG aW eI a' w' (.exit il) aj aC a8 cF rfl
   ·rename_i r ca;obtain⟨bM,k1⟩:=r6 callf c0 ae lE hm aa c F X ex F' af eN h aB;refine⟨bM,λro B aZ E bq a w Q aE aY dZ eF dG=>wpIn_block (k1 ro B aZ E bq a w _ aE aY dZ eF (dG.mono λaW e a w he a2=>?_))⟩;cases ex with
    |c4=>cases he;exact a2
    |ex id=>exact absurd h (ca id F' af)
    |ret=>cases he;exact a2
    |gt l=>cases he;exact a2
    |cY bn=>obtain⟨p,_,rfl⟩:=he;exact a2
 | .loop c,F,X,ex,F',af,eN,h,aB=>by
   simp only[ix] at eN;simp only[cl] at h;obtain⟨bM,k1⟩:=afe (rd:=rd) (λF X ex F' af h aB=>r6 callf c0 ae lE hm aa c F X ex F' af eN h aB) fuel F X ex F' af h aB;exact⟨bM,λro B aZ E bq a w Q aE aY dZ eF dG=>wpIn_loop_rounds fuel (k1 ro B aZ E bq a w Q aE aY dZ eF dG)⟩
 | .exit id,F,X,ex,F',af,_,h,aB=>by
   simp only[cl,Option.some.injEq,Prod.mk.injEq] at h;obtain⟨rfl,rfl,rfl⟩:=h;exact⟨aB,λro B aZ E bq a w Q aE aY dZ eF dG=>wpIn_exit (dG E bq a w (.exit id) (cQ.refl _) aY dZ aE rfl)⟩
 | .label l,F,X,ex,F',af,_,h,aB=>by
   simp only[cl,Option.some.injEq,Prod.mk.injEq] at h;obtain⟨rfl,rfl,rfl⟩:=h;exact⟨aB,λro B aZ E bq a w Q aE aY dZ eF dG=>wpIn_label (dG E bq a w .normal (cQ.refl _) aY dZ aE rfl)⟩
 | .ret,F,X,ex,F',af,_,h,aB=>by
   simp only[cl,Option.some.injEq,Prod.mk.injEq] at h;obtain⟨rfl,rfl,rfl⟩:=h;exact⟨aB,λro B aZ E bq a w Q aE aY dZ eF dG=>wpIn_ret (dG E bq a w .ret (cQ.refl _) aY dZ aE rfl)⟩
 | .goto l,F,X,ex,F',af,_,h,aB=>by
   simp only[cl,Option.some.injEq,Prod.mk.injEq] at h;obtain⟨rfl,rfl,rfl⟩:=h;exact⟨aB,λro B aZ E bq a w Q aE aY dZ eF dG=>wpIn_goto (dG E bq a w (.goto l) (cQ.refl _) aY dZ aE rfl)⟩
 | .scope c,F,X,ex,F',af,eN,h,aB=>by cases h
 | .rangeFunc g ps e3 body,F,X,ex,F',af,eN,h,aB=>by
   simp only[ix,Bool.and_eq_true] at eN;simp only[cl] at h;split at h<;>try(cases h;done)
   rename_i y bb;exact aBd callf c0 ae eN.1 eN.2 bb h aB
 | .refuse _,_,_,_,_,_,_,h,_=>by simp[cl] at h
theorem aeS(callf:cc)(c0:jI P callf)(ae:fX callf)(lE:lh callf)(hm:P.follows .mixedOrders=true){ord:Nat->Hint}{me:FuncId}{rd:Option Nat}{N fuel:Nat}:∀n,YS P ord rd N (k0 P callf ord me rd N fuel n):=λ_ _ _ _ _ _ _ _ _ _ h _=>by cases h
end
section
variable{P:Program}
def fe(X af:al):Prop:=di X {af with bx:=X.bx}
theorem fe.refl(X:al):fe X X:=di.refl X
theorem fe.trans{X Y Z:al}(h:fe X Y)(h':fe Y Z):fe X Z:=di.afB h h'
theorem di.uD{X Y:al}(h:di X Y):fe X Y:=⟨h.cN,h.aO,h.next,h.cq,h.dead,rfl,h.pc⟩
theorem fe.hj{X Y:al}(h:fe X Y)(l:List eR):fe X {Y with bx:=l}:=⟨h.cN,h.aO,h.next,h.cq,h.dead,rfl,h.pc⟩
theorem fe.Ce{X Y:al}{l:List eR}(h:fe {X with bx:=l} Y):fe X Y:=⟨h.cN,h.aO,h.next,h.cq,h.dead,rfl,h.pc⟩
theorem fe.to{X Y:al}(h:fe X Y)(aI:Y.bx=X.bx):di X Y:=⟨h.cN,h.aO,h.next,h.cq,h.dead,aI,h.pc⟩
def M4(jump:pI):Prop:=∀c rest F X ex F' af,jump c rest F X=some (ex,F',af)->fe X af
theorem ZN{rd:Option Nat}{X X1:al}{b:Nat}(h:tl rd X=some (b,X1)):fe X X1:=by
 unfold tl at h;split at h
 ·cases h;exact(di.new X sB).uD.hj _
 ·split at h<;>try(cases h;done)
  split at h<;>cases h
  exact fe.refl _
theorem anF{F F':aH U}{l:Nat}{X af:al}{ex:iu}(h:tu F l X=some (ex,F',af)):fe X af:=by
 unfold tu at h;split at h<;>try(cases h;done)
 rename_i o aq;split at h<;>try(cases h;done)
 split at h<;>cases h
 all_goals exact(di.store aq (Nat.lt_succ_self _)).uD
theorem aBe{callf:cc}(ae:fX callf){ord:Nat->Hint}{me:FuncId}{rd:Option Nat}{N:Nat}{ps:Array Tmp}{e3 body:Code}{F F':aH U}{X af:al}{y:U}{ex:iu}(h:qe callf ord me rd N ps e3 body y F X=some (ex,F',af)):fe X af:=by
 unfold qe at h;split at h<;>try(cases h;done)
 rename_i f bZ qD b X1 ag;have k1:=(ZN ag).trans (di.new X1 (iA ord me N (iB (iS ord N body) F.get) ps e3 body b)).uD;split at h
 ·rename_i z c5 fR;have k2:=k1.trans (fe.Ce (l:=[]) (ae _ _ _ _ _ fR).uD);exact(k2.hj _).trans (anF h)
 ·rename_i bn c5 fR;cases h;have k2:=k1.trans (fe.Ce (l:=[]) (ae _ _ _ _ _ fR).uD);exact k2.hj _
 ·cases h
theorem pS{callf:cc}(ae:fX callf){ord:Nat->Hint}{me:FuncId}{rd:Option Nat}{N fuel:Nat}{jump:pI}(aa:M4 jump):∀(c:Code) (F:aH U) (X:al) (ex:iu) (F':aH U) (af:al),
 cl P callf ord me rd N fuel jump c F X=some (ex,F',af)->fe X af
 | .skip,F,X,ex,F',af,h=>by simp only[cl,Option.some.injEq,Prod.mk.injEq] at h;obtain⟨rfl,rfl,rfl⟩:=h;exact fe.refl _
 | .region id ops false,F,X,ex,F',af,h=>by
   simp only[cl] at h;split at h<;>try(cases h;done)
   ·rename_i aL X1 kg;simp only[Option.some.injEq,Prod.mk.injEq] at h;obtain⟨rfl,rfl,rfl⟩:=h;exact OJ ae kg
   ·rename_i bn aL X1 kg;simp only[Option.some.injEq,Prod.mk.injEq] at h;obtain⟨rfl,rfl,rfl⟩:=h;exact OJ ae kg
 | .region id ops true,F,X,ex,F',af,h=>by
   simp only[cl] at h;split at h<;>try(cases h;done)
   rename_i aL X1 aI;simp only[Option.some.injEq,Prod.mk.injEq] at h;obtain⟨rfl,rfl,rfl⟩:=h
   have key:∀{is:List Nat} {bS:List (Nat×List Nat)},iK P callf N ops.toList bS is [] F {X with cN:=[]}=some (aL,X1)->fe X {X1 with cN:=X.cN}:=λh=>
    have k:=Oj ae h
    ⟨λaq=>aq,k.aO,k.next,k.cq,k.dead,rfl,k.pc⟩
   cases aq:ord id with
   |text=>rw[aq] at aI;exact key aI
   |skip=>rw[aq] at aI;cases aI
   |ord is bS=>rw[aq] at aI;exact key aI
   |news is rs=>
    rw[aq] at aI;simp only[force_eq] at aI;cases m8:nY X X.next rs with
    |false=>rw[m8] at aI;cases aI
    |true=>
     rw[m8] at aI;obtain⟨k,k2⟩:=aaZ ae (Nat.le_add_right _ _) aI;exact⟨λaq=>aq,k.aO,k2,k.cq,k.dead,rfl,k.pc⟩
 | .seq x y,F,X,ex,F',af,h=>by
   simp only[cl] at h;split at h
   ·rename_i aL X1 ax;exact(pS ae aa x _ _ _ _ _ ax).trans (pS ae aa y _ _ _ _ _ h)
   ·exact pS ae aa x _ _ _ _ _ h
 | .cond c x y,F,X,ex,F',af,h=>by
   simp only[cl] at h;split at h<;>try(cases h;done)
   split at h
   ·rename_i X1 ag;exact(yl ag).uD.trans (pS ae aa x _ _ _ _ _ h)
   ·rename_i X1 ag;exact(yl ag).uD.trans (pS ae aa y _ _ _ _ _ h)
   ·cases h
 | .block id c,F,X,ex,F',af,h=>by
   simp only[cl] at h;split at h
   ·rename_i il aL X1 ax
    have:=pS ae aa c _ _ _ _ _ ax
    cases ag:Nat.beq il id<;>simp only[ag,cond_true,cond_false,Option.some.injEq,Prod.mk.injEq] at h<;>(obtain⟨rfl,rfl,rfl⟩:=h;exact this)
   ·exact pS ae aa c _ _ _ _ _ h
 | .loop c,F,X,ex,F',af,h=>by
   simp only[cl] at h
   have key:∀(k:Nat) (F:aH U) (X:al),jA (cl P callf ord me rd N fuel jump c) k F X=some (ex,F',af)->fe X af:=by
    intro k
    induction k with
    |zero=>intro F X h;simp[jA] at h
    |succ k bp=>
     intro F X h;have h':(match cl P callf ord me rd N fuel jump c F X with|some (.c4,F,X)=>jA (cl P callf ord me rd N fuel jump c) k F X|r=>r)=some (ex,F',af):=h;split at h'
     ·rename_i aL X1 ag;exact(pS ae aa c _ _ _ _ _ ag).trans (bp _ _ h')
     ·exact pS ae aa c _ _ _ _ _ h'
   exact key fuel F X h
 | .exit id,F,X,ex,F',af,h=>by simp only[cl,Option.some.injEq,Prod.mk.injEq] at h;obtain⟨rfl,rfl,rfl⟩:=h;exact fe.refl _
 | .label l,F,X,ex,F',af,h=>by simp only[cl,Option.some.injEq,Prod.mk.injEq] at h;obtain⟨rfl,rfl,rfl⟩:=h;exact fe.refl _
 | .ret,F,X,ex,F',af,h=>by simp only[cl,Option.some.injEq,Prod.mk.injEq] at h;obtain⟨rfl,rfl,rfl⟩:=h;exact fe.refl _
 | .goto _,F,X,ex,F',af,h=>by simp only[cl,Option.some.injEq,Prod.mk.injEq] at h;obtain⟨rfl,rfl,rfl⟩:=h;exact fe.refl _
 | .scope c,F,X,ex,F',af,h=>by cases h
 | .rangeFunc _ _ _ _,F,X,ex,F',af,h=>by
   simp only[cl] at h;split at h<;>try(cases h;done)
   exact aBe ae h
 | .refuse _,_,_,_,_,_,h=>by simp[cl] at h
theorem JM{callf:cc}(ae:fX callf){ord:Nat->Hint}{me:FuncId}{rd:Option Nat}{N fuel:Nat}:∀n,M4 (k0 P callf ord me rd N fuel n):=λ_ _ _ _ _ _ _ _ h=>by cases h
section
variable{m:Nat}{ob:bH}
theorem aC9{callf:cc}(db:lh callf){N base k:Nat}{rs:List Nat}{ops:List Oper}{o:Oper}{F F':aH U}{X af:al}(au:c9 X m)(hm:m<base)(h:lM P callf N ops rs base k o F X=some (F',af)):
 lM P callf N ops rs base k o F (X.add m ob)=some (F',af.add m ob):=by
 obtain⟨y,bb,rfl⟩:=jC.1 h;refine jC.2 ⟨y,?_,rfl⟩;cases aR:hI rs k o.op with
 |true=>
  obtain⟨asp,rfl,lF⟩:=uC aR bb;rw[lF (X.add m ob) rfl];unfold al.add;simp only[Option.some.injEq,Prod.mk.injEq,true_and];rw[cE.put_comm _ _ _ (by omega)]
 |false=>
  rw[kL aR] at bb⊢;exact XV db au bb
theorem arF{callf:cc}{N base k:Nat}{rs:List Nat}{ops:List Oper}{o:Oper}{F:aH U}{X:al}{r:aH U×al}(h:lM P callf N ops rs base k o F X=some r):p7 P ops base o F (X.add m ob)=p7 P ops base o F X:=by
 unfold p7;cases aQ:fo P o.op with
 |false=>rfl
 |true=>
  have aR:=FR (rs:=rs) (k:=k) aQ;unfold lM at h;rw[aR] at h;simp only[cond_false] at h;rw[NR h]
theorem aBr{callf:cc}{N base k:Nat}{rs:List Nat}{bJ:List (Nat×Option Nat)}{ops:List Oper}{o:Oper}{F:aH U}{X:al}{r:aH U×al}(h:lM P callf N ops rs base k o F X=some r):
 (bif fo P o.op then(k,addrOf ops o F (X.add m ob))::bJ else bJ)=(bif fo P o.op then(k,addrOf ops o F X)::bJ else bJ):=by
 cases aQ:fo P o.op with
 |false=>rfl
 |true=>
  have aR:=FR (rs:=rs) (k:=k) aQ;unfold lM at h;rw[aR] at h;simp only[cond_false] at h;rw[NR h]
theorem aaY{callf:cc}(db:lh callf)(ae:fX callf){N base:Nat}{rs:List Nat}{bS:List (Nat×List Nat)}{ops:List Oper}(hm:m<base):∀{bL:List Nat} {bJ:List (Nat×Option Nat)} {F F':aH U} {X af:al},base<=X.next->c9 X m->jd P callf N ops rs bS base bL bJ F X=some (F',af)->
 jd P callf N ops rs bS base bL bJ F (X.add m ob)=some (F',af.add m ob)
 | [],_,_,_,_,_,_,_,h=>by simp only[jd,Option.some.injEq,Prod.mk.injEq] at h⊢;obtain⟨rfl,rfl⟩:=h;exact⟨rfl,rfl⟩
 |k::bL,bJ,F,F',X,af,ag,au,h=>by
  simp only[jd] at h⊢;split at h<;>try(cases h;done)
  rename_i o _;cases aJ:p7 P ops base o F X with
  |false=>rw[aJ] at h;cases h
  |true=>
   rw[aJ] at h;simp only[cond_true] at h;split at h<;>try(cases h;done)
   rename_i aL X1 ak;rw[arF ak,aJ];simp only[cond_true];rw[aC9 db au hm ak];simp only[];cases kb:kt bJ X X1 (iw bS k) with
   |false=>rw[kb] at h;cases h
   |true=>
   rw[kb] at h;simp only[cond_true] at h;rw[Oc au kb,aBr ak];simp only[cond_true];obtain⟨y,bb,_⟩:=jC.1 ak;obtain⟨k1,k2⟩:=aix ae ag bb;have si:=aiy ae bb;exact aaY db ae hm k2 ⟨k1.dead m hm au.dead,Nat.lt_of_lt_of_le au.lt si⟩ h
theorem Zc{X:al}{base:Nat}(hm:m<base):∀{rs:List Nat},nY X base rs=true->nY (X.add m ob) base rs=true
 | [],_=>rfl
 |k::bL,h=>by
  simp only[nY,Bool.and_eq_true] at h⊢;refine⟨?_,Zc hm h.2⟩
  have:(X.add m ob).aV.get (base+k)=X.aV.get (base+k):=by
   show(X.aV.put m ob).get (base+k)=_;rw[cE.kT,if_neg (by omega)]
  rw[this];exact h.1
def YP(jump:pI):Prop:=∀m ob c rest F X ex F' af,c9 X m->jump c rest F X=some (ex,F',af)->jump c rest F (X.add m ob)=some (ex,F',af.add m ob)
theorem c9.vl{X af:al}(h:c9 X m)(k:fe X af):c9 af m:=h.aeV k
theorem c9.hj{X:al}(h:c9 X m)(l:List eR):c9 {X with bx:=l} m:=⟨h.dead,h.lt⟩
theorem alO{rd:Option Nat}{X X1:al}{b:Nat}(au:c9 X m)(h:tl rd X=some (b,X1)):tl rd (X.add m ob)=some (b,X1.add m ob):=by
 unfold tl at h⊢;split at h
 ·cases h;simp only[AE au];rfl
 ·split at h<;>try(cases h;done)
  rename_i o aq;simp only[(add_get au aq).1];split at h<;>cases h
  rfl
theorem anE{F F':aH U}{l:Nat}{X af:al}{ex:iu}(au:c9 X m)(h:tu F l X=some (ex,F',af)):tu F l (X.add m ob)=some (ex,F',af.add m ob):=by
 unfold tu at h⊢;split at h<;>try(cases h;done)
 rename_i o aq;simp only[(add_get au aq).1];split at h<;>try(cases h;done)
 split at h
 ·cases h
 ·rename_i ag;cases h;rw[AF au aq]
theorem aBb{callf:cc}(db:lh callf)(ae:fX callf){ord:Nat->Hint}{me:FuncId}{rd:Option Nat}{N:Nat}{ps:Array Tmp}{e3 body:Code}{F F':aH U}{X af:al}{y:U}{ex:iu}(au:c9 X m)(h:qe callf ord me rd N ps e3 body y F X=some (ex,F',af)):
 qe callf ord me rd N ps e3 body y F (X.add m ob)=some (ex,F',af.add m ob):=by
 unfold qe at h⊢;split at h<;>try(cases h;done)
 rename_i f bZ qD b X1 ag;have tK:c9 X1 m:=au.vl (ZN ag);have lD:c9 (X1.new (iA ord me N (iB (iS ord N body) F.get) ps e3 body b)).2 m:=tK.keeps (di.new _ _);rw[alO (ob:=ob) au ag];simp only[AE tK];split at h
 ·rename_i z c5 fR;have e:=db _ _ _ _ _ m ob fR (lD.hj _);have apD:c9 c5 m:=(lD.hj []).keeps (ae _ _ _ _ _ fR);rw[show({((X1.new (iA ord me N (iB (iS ord N body) F.get) ps e3 body b)).2).add m ob with bx:=[]}:al)=({(X1.new (iA ord me N (iB (iS ord N body) F.get) ps e3 body b)).2 with bx:=[]}:al).add m ob from rfl,e];exact anE (ob:=ob) (apD.hj _) h
 ·rename_i bn c5 fR;cases h;have e:=db _ _ _ _ _ m ob fR (lD.hj _);rw[show({((X1.new (iA ord me N (iB (iS ord N body) F.get) ps e3 body b)).2).add m ob with bx:=[]}:al)=({(X1.new (iA ord me N (iB (iS ord N body) F.get) ps e3 body b)).2 with bx:=[]}:al).add m ob from rfl,e];rfl
 ·cases h
theorem r5{callf:cc}(db:lh callf)(ae:fX callf){ord:Nat->Hint}{me:FuncId}{rd:Option Nat}{N fuel:Nat}{jump:pI}(aa:YP jump)(jk:M4 jump):∀(c:Code) (F:aH U) (X:al) (ex:iu) (F':aH U) (af:al),c9 X m->
 cl P callf ord me rd N fuel jump c F X=some (ex,F',af)->cl P callf ord me rd N fuel jump c F (X.add m ob)=some (ex,F',af.add m ob)
 | .skip,F,X,ex,F',af,_,h=>by simp only[cl,Option.some.injEq,Prod.mk.injEq] at h⊢;obtain⟨rfl,rfl,rfl⟩:=h;exact⟨rfl,rfl,rfl⟩
 | .region id ops false,F,X,ex,F',af,au,h=>by
   simp only[cl] at h⊢;split at h<;>try(cases h;done)
   ·rename_i aL X1 kg;simp only[Option.some.injEq,Prod.mk.injEq] at h;obtain⟨rfl,rfl,rfl⟩:=h;rw[OI db ae au kg]
   ·rename_i bn aL X1 kg;simp only[Option.some.injEq,Prod.mk.injEq] at h;obtain⟨rfl,rfl,rfl⟩:=h;rw[OI db ae au kg]
 | .region id ops true,F,X,ex,F',af,au,h=>by
   simp only[cl] at h⊢;split at h<;>try(cases h;done)
   rename_i aL X1 aI;simp only[Option.some.injEq,Prod.mk.injEq] at h;obtain⟨rfl,rfl,rfl⟩:=h;have Jp:c9 {X with cN:=[]} m:=⟨au.dead,au.lt⟩;cases aq:ord id with
   |text=>
    rw[aq] at aI
    have:=OD (ob:=ob) db ae Jp aI
    simp only[];rw[show({X.add m ob with cN:=[]}:al)=({X with cN:=[]}:al).add m ob from rfl,this];rfl
   |skip=>rw[aq] at aI;cases aI
   |ord is bS=>
    rw[aq] at aI
    have:=OD (ob:=ob) db ae Jp aI
    simp only[];rw[show({X.add m ob with cN:=[]}:al)=({X with cN:=[]}:al).add m ob from rfl,this];rfl
   |news is rs=>
    rw[aq] at aI;simp only[force_eq] at aI⊢;cases m8:nY X X.next rs with
    |false=>rw[m8] at aI;cases aI
    |true=>
     rw[m8] at aI;have h2:nY (X.add m ob) (X.add m ob).next rs=true:=Zc au.lt m8
     rw[h2];have tK:c9 {X with cN:=[],next:=X.next+ops.size} m:=⟨au.dead,Nat.lt_of_lt_of_le au.lt (Nat.le_add_right _ _)⟩
     have:=aaY (ob:=ob) db ae au.lt (Nat.le_add_right _ _) tK aI
     simp only[cond_true]
     rw[show({X.add m ob with cN:=[],next:=(X.add m ob).next+ops.size}:al)=({X with cN:=[],next:=X.next+ops.size}:al).add m ob from rfl,
      show(X.add m ob).next=X.next from rfl,this]
     rfl
 | .seq x y,F,X,ex,F',af,au,h=>by
   simp only[cl] at h⊢;split at h
   ·rename_i aL X1 ax;rw[r5 db ae aa jk x _ _ _ _ _ au ax];exact r5 db ae aa jk y _ _ _ _ _ (au.vl (pS ae jk x _ _ _ _ _ ax)) h
   ·rename_i ca;rw[r5 db ae aa jk x _ _ _ _ _ au h];cases ex with
    |c4=>exact absurd h (ca F' af)
    |_=>rfl
 | .cond c x y,F,X,ex,F',af,au,h=>by
   simp only[cl] at h⊢;split at h<;>try(cases h;done)
   rename_i z aX;have tX:look (X.add m ob).aO F c=some z:=aX;simp only[tX];split at h
   ·rename_i X1 ag;rw[CW (m:=m) (ob:=ob) ag];exact r5 db ae aa jk x _ _ _ _ _ (au.keeps (yl ag)) h
   ·rename_i X1 ag;rw[CW (m:=m) (ob:=ob) ag];exact r5 db ae aa jk y _ _ _ _ _ (au.keeps (yl ag)) h
   ·cases h
 | .block id c,F,X,ex,F',af,au,h=>by
   simp only[cl] at h⊢;split at h
   ·rename_i il aL X1 ax;rw[r5 db ae aa jk c _ _ _ _ _ au ax];simp only[];cases ag:Nat.beq il id<;>simp only[ag,cond_true,cond_false,Option.some.injEq,Prod.mk.injEq] at h⊢ <;>(obtain⟨rfl,rfl,rfl⟩:=h;exact⟨rfl,rfl,rfl⟩)
   ·rename_i ca;rw[r5 db ae aa jk c _ _ _ _ _ au h];cases ex with
    |ex il=>exact absurd h (ca il F' af)
    |_=>rfl
 | .loop c,F,X,ex,F',af,au,h=>by
   simp only[cl] at h⊢
   have key:∀(k:Nat) (F:aH U) (X:al),c9 X m->jA (cl P callf ord me rd N fuel jump c) k F X=some (ex,F',af)->jA (cl P callf ord me rd N fuel jump c) k F (X.add m ob)=some (ex,F',af.add m ob):=by
    intro k
    induction k with
    |zero=>intro F X _ h;simp[jA] at h
    |succ k bp=>
     intro F X au h;have h':(match cl P callf ord me rd N fuel jump c F X with|some (.c4,F,X)=>jA (cl P callf ord me rd N fuel jump c) k F X|r=>r)=some (ex,F',af):=h;show(match cl P callf ord me rd N fuel jump c F (X.add m ob) with|some (.c4,F,X)=>jA (cl P callf ord me rd N fuel jump c) k F X|r=>r)=some (ex,F',af.add m ob);split at h'
     ·rename_i aL X1 ag;rw[r5 db ae aa jk c _ _ _ _ _ au ag];exact bp _ _ (au.vl (pS ae jk c _ _ _ _ _ ag)) h'
     ·rename_i ca;rw[r5 db ae aa jk c _ _ _ _ _ au h'];cases ex with
      |c4=>exact absurd h' (ca F' af)
      |_=>rfl
   exact key fuel F X au h
 | .exit id,F,X,ex,F',af,_,h=>by simp only[cl,Option.some.injEq,Prod.mk.injEq] at h⊢;obtain⟨rfl,rfl,rfl⟩:=h;exact⟨rfl,rfl,rfl⟩
 | .label l,F,X,ex,F',af,_,h=>by simp only[cl,Option.some.injEq,Prod.mk.injEq] at h⊢;obtain⟨rfl,rfl,rfl⟩:=h;exact⟨rfl,rfl,rfl⟩
 | .ret,F,X,ex,F',af,_,h=>by simp only[cl,Option.some.injEq,Prod.mk.injEq] at h⊢;obtain⟨rfl,rfl,rfl⟩:=h;exact⟨rfl,rfl,rfl⟩
 | .goto _,F,X,ex,F',af,_,h=>by simp only[cl,Option.some.injEq,Prod.mk.injEq] at h⊢;obtain⟨rfl,rfl,rfl⟩:=h;exact⟨rfl,rfl,rfl⟩
 | .scope c,F,X,ex,F',af,au,h=>by cases h
 | .rangeFunc g _ _ _,F,X,ex,F',af,au,h=>by
   simp only[cl] at h⊢;split at h<;>try(cases h;done)
   rename_i z aX;have tX:look (X.add m ob).aO F g=some z:=aX;simp only[tX];exact aBb db ae au h
 | .refuse _,_,_,_,_,_,_,h=>by simp[cl] at h
end
theorem aeR{callf:cc}(db:lh callf)(ae:fX callf){ord:Nat->Hint}{me:FuncId}{rd:Option Nat}{N fuel:Nat}:∀n,YP (k0 P callf ord me rd N fuel n):=λ_ _ _ _ _ _ _ _ _ _ _ h=>by cases h
end
section
variable{P:Program}{B:Nat}{aZ w:World}{E:Env}{bq:List Deferred}{X:al}
def FT(a:Act):ResultVar->Sem Value
 | .tmp t=>Pure.pure (a.tmps.getD t undef)
 | .cell b t=>do loadVar t (<- asAddr (a.tmps.getD b undef))
theorem aBG(fn:Func)(a:Act):results fn a.tmps=(do let vs <- fn.results.mapM (FT a);Pure.pure (if h:vs.size=1 then vs[0] else .tuple vs)):=by
 unfold results;congr 1
theorem aBF{N:Nat}{F:aH U}{a:Act}(aE:bQ P B aZ X E w)(aY:fD bq N E F a){r:ResultVar}{y:U}(h:uy P F X r=some y):
 ∃v,(FT a r).run P w= .ok v w/\Den E y v:=by
 cases r with
 |tmp t=>
  obtain⟨_,v,h1,h2⟩:=aY.2.2 t y h;exact⟨v,by simp[FT,h1],h2⟩
 |cell b t=>
  simp only[uy] at h;split at h<;>try(cases h;done)
  rename_i k off ag;obtain⟨_,v,h1,id,c,ai,h2⟩:=aY.2.2 b _ ag;obtain⟨u,aQ,aI⟩:=ae8 aE h ai;exact⟨u,by simp[FT,h1,h2,asAddr,aQ],aI⟩
theorem ahG{N:Nat}{F:aH U}{a:Act}(aE:bQ P B aZ X E w)(aY:fD bq N E F a):∀{rs:List ResultVar} {ys:List U},pj P F X rs=some ys->
 ∃vs,(rs.mapM (FT a)).run P w= .ok vs w/\cg E ys vs
 | [],ys,h=>by simp[pj] at h;subst h;exact⟨[],rfl,rfl⟩
 |r::rs,ys,h=>by
  simp only[pj] at h;split at h<;>try(cases h;done)
  rename_i y bb;split at h<;>try(cases h;done)
  rename_i vO eU;cases h;obtain⟨v,h1,h2⟩:=aBF aE aY bb;obtain⟨vs,h3,aT⟩:=ahG aE aY eU;refine⟨v::vs,?_,v,vs,h2,aT,rfl⟩;rw[List.mapM_cons,Sem.run_bind,h1];simp only[Result.andThen_ok,Sem.run_bind,h3,Sem.run_pure]
theorem aBD{ys:List U}{vs:List Value}(h:cg E ys vs):Den E (zW ys) (if h:vs.toArray.size=1 then vs.toArray[0] else .tuple vs.toArray):=by
 match ys,vs,h with
 | [],vs,h=>cases h;exact⟨[],rfl,rfl⟩
 | [y],_,⟨v,vs,hv,sq,e⟩=>cases sq;subst e;exact hv
 |y::z::ys,_,⟨v,vs,hv,⟨u,us,hu,zj,bd⟩,e⟩=>
  subst bd;subst e;rw[dif_neg (by simp)];exact⟨_,⟨v,_,hv,⟨u,us,hu,zj,rfl⟩,rfl⟩,rfl⟩
theorem ahH{N:Nat}{F:aH U}{a:Act}{fn:Func}(aE:bQ P B aZ X E w)(aY:fD bq N E F a){ys:List U}(h:pj P F X fn.results.toList=some ys):
 ∃v,(results fn a.tmps).run P w= .ok v w/\Den E (zW ys) v:=by
 obtain⟨vs,h1,h2⟩:=ahG aE aY h;refine⟨_,?_,aBD h2⟩;rw[aBG,Sem.run_bind,Array.mapM_eq_mapM_toList];simp only[Sem.run_map];rw[h1];simp
theorem ai9{args:List U}{argv:List Value}{n:Nat}(h:cg E args argv)(aR:args.length<=n):
 oQ n E (hl .nil 0 args) (argv.toArray++Array.replicate (n-argv.toArray.size) undef):=by
 have aJ:=h.length;refine⟨by simp;omega,λj y aa=>?_⟩;rcases Ql _ _ _ _ _ aa with⟨_,h2⟩|⟨_,h2⟩
 ·simp only[Nat.sub_zero] at h2;obtain⟨v,h3,aT⟩:=h.get _ _ h2
  have:=(List.getElem?_eq_some_iff.1 h3).1
  refine⟨by omega,v,?_,aT⟩;rw[Array.getElem?_append_left (by simpa using this)];simpa using h3
 ·cases h2
theorem asW{N:Nat}{F:aH U}{tmps:Array Value}(h:oQ N E F tmps){d:Nat}{y:U}{v:Value}(aI:Den E y v):oQ N E (put N F (some d) y) (tmps.setIfInBounds d v):=by
 have aY:fD [] N E F {tmps,defers:=[]}:=⟨rfl,h⟩;exact(aY.put (d:=some d) aI).2
theorem agh{N:Nat}:∀{ps:List Tmp} {F:aH U} {tmps:Array Value} {args:List U} {argv:List Value},oQ N E F tmps->cg E args argv->args.length=ps.length->
 oQ N E (xf N F ps args) ((ps.zip argv).foldl (λtmps (t,a)=>tmps.setIfInBounds t a) tmps)
 | [],_,_,[],_,h,h',_=>by cases h';exact h
 | [],_,_,_::_,_,_,_,aJ=>by simp at aJ
 |_::_,_,_,[],_,_,_,aJ=>by simp at aJ
 |p::ps,F,tmps,x::xs,_,h,⟨v,vs,hv,sq,e⟩,aJ=>by
  subst e;simp only[xf,List.zip_cons_cons,List.foldl_cons];exact agh (asW h hv) sq (by simpa using aJ)
theorem aij{o o':bH}{st:LoopState}{p:Option Jump}(h:F3 o st p=some o'):∃vx q ord me N G ps a c b,o.sp= .loop vx q ord me N G ps a c b/\o'={o with cq:=o.cq+1,sp:= .loop st (EV p q) ord me N G ps a c b}:=by
 unfold F3 at h;split at h<;>cases h
 rename_i ak;exact⟨_,_,_,_,_,_,_,_,_,_,ak,rfl⟩
def EU(p:Option Jump)(q:Option Code):Option Code:=match p with
 |some p=>ub p
 |none=>q
theorem aii(aE:bQ P B aZ X E w){k id c:Nat}{st:LoopState}{p:Option Jump}{af:al}(ai:E k=some (id,c))(h:qk X k st p=some af):
 ∃(r:Loop) (w':World),w.heap[id]?=some (.loop r)/\(setObj id (.loop {r with state:=st,pending:=EU p r.pending})).run P w= .ok () w'/\bQ P B aZ af E w':=by
 unfold qk at h;split at h<;>try(cases h;done)
 rename_i o aq;split at h<;>try(cases h;done)
 rename_i o' ak;cases h;obtain⟨vx,q,ord,me,N,G,ps,a,cJ,b,wZ,rfl⟩:=aij ak;have ca:o.sp≠ .cells:=by rw[wZ];simp
 obtain⟨il,a4,cO,fH,_⟩:=aE.z6 aq ca;rw[ai] at cO;cases cO;rw[wZ] at fH;obtain⟨g0,fB,g1,g2,g3,g4,g5,g6,g7,g8⟩:=fH
 obtain⟨gD,Er,Qs⟩:=aE.XO (s:= .loop st (EV p q) ord me N G ps a cJ b) (obj':= .loop {fB with state:=st,pending:=EU p fB.pending}) aq ca ai
  ⟨g0,_,rfl,rfl,by cases p<;>simp[g3,EV,EU],g4,g5,g6,g7,g8⟩ P
 exact⟨fB,gD,g1,Er,Qs⟩
theorem aih{k:Nat}{st:LoopState}{p:Option Jump}{af:al}(h:qk X k st p=some af):af.pc=X.pc/\af.bx=X.bx:=by
 unfold qk at h;split at h<;>try(cases h;done)
 split at h<;>cases h
 exact⟨rfl,rfl⟩
theorem aq6{o:bH}(h:isReady o=true):∃q ord me N G ps a c b,o.sp= .loop .ready q ord me N G ps a c b:=by
 unfold isReady at h;split at h
 ·exact⟨_,_,_,_,_,_,_,_,_,rfl⟩
 ·cases h
theorem anD(aE:bQ P B aZ X E w){k id c:Nat}{D:List eR}{st:LoopState}{j:Jump}{b:Bool}{y:Out}{af:al}(ai:E k=some (id,c))(h:endRound D X k st j b=some (y,af))(dc:st=if(ub j).isNone then .ready else .done)(ag:b=(ub j).isNone):
 y= .ret (.bool b)/\∃w',(Instr.endRound id (ub j)).run P w= .ok (.bool b) w'/\bQ P B aZ af E w':=by
 unfold endRound at h;split at h<;>try(cases h;done)
 rename_i X1 ak;cases h;obtain⟨r,w',h1,h2,h3⟩:=aii aE ai ak;refine⟨rfl,w',?_,h3.hj _⟩;subst dc;subst ag;cases j<;>simp[EU,ub] at h2<;>simp[Instr.endRound,DH h1,ub,h2]
theorem anC{k:Nat}{D:List eR}{st:LoopState}{j:Jump}{b:Bool}{y:Out}{af:al}(h:endRound D X k st j b=some (y,af))(aB:cX af):cX X:=by
 unfold endRound at h;split at h<;>try(cases h;done)
 rename_i X1 ak;cases h
 have:=(aih ak).1
 intro p Ra;exact aB p (by show p∈X1.pc;rw[this];exact Ra)
theorem aBW{ord:Nat->Hint}{k N:Nat}{dj:Code->aH U->al->R}{ps:Array Tmp}{e3 body:Code}{F:aH U}
 (jS:∀c F X ex F' af,ix P ord true c=true->dj c F X=some (ex,F',af)->cX af->vR P (some k) N c F X ex F' af)(oc:∀c F X ex F' af,dj c F X=some (ex,F',af)->fe X af)
 {o:bH}{st:LoopState}{iC:Jump}{me:FuncId}{jO:Nat}(aq:X.aV.get k=some o)(ak:o.sp= .loop st iC ord me N F ps e3 body jO){args:List U}{y:Out}{af:al}(h:l7 dj k N F ps e3 body args X=some (y,af))(aB:cX af):
 cX X/\∀B aZ E w argv,bQ P B aZ X E w->cg E args argv->rL P E (.fV k) argv w (tb P B aZ E y af):=by
 unfold l7 at h;cases hlen:Nat.beq args.length ps.size with
 |false=>simp[hlen] at h
 |true=>
 have Bn:=Nat.eq_of_beq_eq_true hlen;simp only[hlen,cond_true] at h;split at h<;>try(cases h;done)
 rename_i aL X1 bV;split at h<;>try(cases h;done)
 rename_i dv ik;cases aQ:isReady dv with
 |false=>simp[aQ] at h
 |true=>
 simp only[aQ,cond_true] at h;split at h<;>try(cases h;done)
 rename_i c5 ag;obtain⟨dT,aHb,aG5,nU,s4,aHc,aj,aP,bY,kD⟩:=aq6 aQ;have aew:=aih ag
 have main:∀(j:Jump) (ex:iu) (c2:aH U) (nr:al) (pq:LoopState) (ht:Bool),dj body aL c5=some (ex,c2,nr)->endRound X.bx nr k pq j ht=some (y,af)->(ex=JL j)->(pq=if(ub j).isNone then .ready else .done)->(ht=(ub j).isNone)->
  cX X/\∀B aZ E w argv,bQ P B aZ X E w->cg E args argv->rL P E (.fV k) argv w (tb P B aZ E y af):=by
  intro j ex c2 nr pq ht gL se hex aqw yP;have aev:cX nr:=anC se aB;have zg:cX c5:=(oc _ _ _ _ _ _ gL).pc aev;have mC:cX X1:=λp Ra=>zg p (by rw[aew.1];exact Ra)
  refine⟨(fe.Ce (l:=[]) (oc _ _ _ _ _ _ bV)).pc mC,λB aZ E w argv aE DT=>?_⟩;have ca:o.sp≠ .cells:=by rw[ak];simp
  obtain⟨id,c,ai,fH,_⟩:=aE.z6 aq ca;rw[ak] at fH;obtain⟨⟨asx,asy⟩,r,g1,g2,g3,g4,g5,g6,g7,g8⟩:=fH;have dP:argv.toArray.size=r.params.size:=by rw[g4];have:=DT.length;simp;omega
  refine⟨id,c,r.fn,(r.params.zip argv.toArray).foldl (λtmps (t,a)=>tmps.setIfInBounds t a) r.tmps,r.assign,r.body,ai,?_,?_⟩
  ·simp only[Instr.yield,Sem.run_bind,DH g1,Result.andThen_ok];rw[if_neg (by simpa using dP)];rfl
  ·refine roundIn_of_wpIn (F:=gE none) trivial ?_;show Code.wpIn (gE (some id)) 0 P r.assign _ _ w;rw[g5,g6];obtain⟨_,h9⟩:=jS e3 _ _ _ _ _ asx bV mC
   have apG:(r.params.zip argv.toArray).foldl (λtmps (t,a)=>tmps.setIfInBounds t a) r.tmps=(ps.toList.zip argv).foldl (λtmps (t,a)=>tmps.setIfInBounds t a) r.tmps:=by
    rw[<- Array.foldl_toList,Array.toList_zip,g4]
   have Qu:fD [] N E (xf N F ps.toList args) {tmps:=(r.params.zip argv.toArray).foldl (λtmps (t,a)=>tmps.setIfInBounds t a) r.tmps,defers:=[]}:=by
    refine⟨rfl,?_⟩;rw[apG];exact agh g8 DT (by simpa using Bn)
   refine h9 (some id) B aZ E [] _ w _ (aE.hj []) Qu rfl ⟨id,c,ai,rfl⟩ ?_;intro gG aaE akF cP az b4 cv l2 JP EK;cases EK;obtain⟨dd,cV,t1,t2,t3⟩:=aii JP (b4.sub _ _ ai) ag
   have JF:dd.state= .ready:=by
    obtain⟨i2,a1,Bm,aey,_⟩:=JP.z6 ik (by rw[kD];simp);rw[b4.sub _ _ ai] at Bm;cases Bm;rw[kD] at aey;obtain⟨_,dy,iD,sO,_⟩:=aey;rw[t1] at iD;cases iD;exact sO
   refine⟨cV,?_,?_⟩
   ·simp only[EU] at t2;simp[Instr.beginRound,DH t1,t2,JF]
   ·obtain⟨_,bB⟩:=jS body _ _ _ _ _ asy gL aev;refine bB (some id) B aZ gG aaE akF cV _ t3 cv (by rw[aew.2];exact l2) ⟨id,c,b4.sub _ _ ai,rfl⟩ ?_;intro xR ano aC fh ay hU hH zy oA p8;obtain⟨rfl,gD,cA,ck⟩:=anD oA (hU.sub _ _ (b4.sub _ _ ai)) se aqw yP;have post:tb P B aZ E (.ret (.bool ht)) af (.returned (.bool ht)) gD:=⟨xR,b4.trans hU,ck,_,rfl,rfl⟩;subst hex;cases j with
    |none=>cases p8;exact⟨_,gD,cA,post⟩
    |ret=>cases p8;exact⟨_,gD,cA,post⟩
    |ex il=>cases p8;exact⟨_,gD,cA,post⟩
 split at h
 ·rename_i c2 nr gL;exact main .none .c4 c2 nr _ _ gL h rfl rfl rfl
 ·rename_i c2 nr gL;exact main .ret .ret c2 nr _ _ gL h rfl rfl rfl
 ·rename_i id c2 nr gL;exact main (.ex id) (.ex id) c2 nr _ _ gL h rfl rfl rfl
 ·cases h
def mS(E:Env):Mode->FrameMode->Prop
 | .ret,m=>m= .returning
 | .cY bn,m=>∃l,lR E bn l/\m= .panicking l
theorem mS.sub{E aW:Env}(aE:Sub E aW){u:Mode}{m:FrameMode}(h:mS E u m):mS aW u m:=by
 cases u with
 |ret=>exact h
 |cY bn=>obtain⟨l,a,b⟩:=h;exact⟨l,a.sub aE,b⟩
def GS(E:Env):Out->Ending->Prop
 | .ret y,e=>∃v,e= .returned v/\Den E y v
 | .cY bn,e=>∃l,e= .panicked l/\lR E bn l
theorem mS.ne{u:Mode}{m:FrameMode}(h:mS E u m):m≠ .run:=by
 cases u with
 |ret=>cases h;simp
 |cY bn=>obtain⟨l,_,rfl⟩:=h;simp
theorem aau:∀{bn:j2} {l:List PanicEntry},lR E bn l->l.dropWhile (!·.goexit)=[]
 | [],_,h=>by cases h;rfl
 |(_,_)::bn,_,⟨v,dJ,_,h2,e⟩=>by subst e;simp[aau h2]
theorem aCN{u:Mode}{m:FrameMode}(h:mS E u m):mS E (aim u) (settle m):=by
 cases u with
 |ret=>cases h;rfl
 |cY bn=>
  obtain⟨l,h1,rfl⟩:=h;cases bn with
  |nil=>cases h1;exact⟨[],rfl,rfl⟩
  |cons p bn=>
   obtain⟨v,r⟩:=p;have j9:=h1;obtain⟨u,dJ,a,b,rfl⟩:=j9;cases r with
   |false=>exact⟨_,h1,rfl⟩
   |true=>
    show settle (.panicking ({v:=u,recovered:=true}::dJ))= .returning;simp[settle,aau b]
theorem aA1{u:Mode}{m:FrameMode}{bn:j2}{l:List PanicEntry}(h:mS E u m)(ae:lR E bn l):mS E (ahw u bn) (raised m l):=by
 cases u with
 |ret=>cases h;exact⟨l,ae,rfl⟩
 |cY gB=>obtain⟨dJ,h1,rfl⟩:=h;exact⟨l++dJ,ae.append h1,rfl⟩
def YG(P:Program)(dcall:nQ):Prop:=∀f args u X y gV af,dcall f args u X=some (y,gV,af)->cX af->
 (∃fn,P.funcs[f]?=some fn/\fn.body.isSome=true/\fn.name≠"runtime.NumGoroutine")/\∀B aZ E w argv m,bQ P B aZ X E w->cg E args argv->mS E u m->
   CallsDIn (gE none) 0 P f argv.toArray m w λe jV w'=>∃aW,cQ E aW/\bQ P B aZ af aW w'/\mS aW gV jV/\GS aW y e
def GC(dcall:nQ):Prop:=∀f args u X y gV af,dcall f args u X=some (y,gV,af)->di X af
theorem zu{dcall:nQ}(ai:GC dcall){fn:Func}{F:aH U}:∀{D:List eR} {u:Mode} {X af:al} {y:Out},gh P dcall fn F D u X=some (y,af)->di X af
 | [],.ret,X,af,y,h=>by
   simp only[gh] at h;split at h<;>cases h
   exact di.refl _
 | [],.cY bn,X,af,y,h=>by simp only[gh,Option.some.injEq,Prod.mk.injEq] at h;obtain⟨_,rfl⟩:=h;exact di.refl _
 | .tp k::D,u,X,af,y,h=>by
   simp only[gh] at h;split at h<;>try(cases h;done)
   rename_i o aq;split at h<;>try(cases h;done)
   exact(di.store aq (Nat.lt_succ_self _)).trans (zu ai h)
 | .call f xs ys::D,u,X,af,y,h=>by
   simp only[gh] at h;split at h
   ·rename_i aI;exact(ai _ _ _ _ _ _ _ aI).trans (zu ai h)
   ·rename_i aI;exact(ai _ _ _ _ _ _ _ aI).trans (zu ai h)
   ·cases h
theorem JU{dcall:nQ}(aI:YG P dcall)(ai:GC dcall){fn:Func}{F:aH U}{N:Nat}{R:Ending->World->Prop}{af:al}{y:Out}(aB:cX af):
 ∀(D:List eR) (u:Mode) (X:al) (E:Env) (bq u0:List Deferred) (a:Act) (w:World) (m:FrameMode),gh P dcall fn F D u X=some (y,af)->bQ P B aZ X E w->fD u0 N E F a->j3 E D bq->mS E u m->
  (∀aW e w',cQ E aW->bQ P B aZ af aW w'->GS aW y e->R e w')->LeavesInM (gE none) 0 P fn a.tmps R bq m w
 | [],.ret,X,E,bq,u0,a,w,m,h,aE,aY,dZ,kU,eF=>by
   cases dZ;cases kU;simp only[gh] at h;split at h<;>cases h
   rename_i ys eU;obtain⟨v,aQ,hv⟩:=ahH (fn:=fn) aE aY eU;exact⟨v,aQ,eF E _ w (cQ.refl _) aE ⟨v,rfl,hv⟩⟩
 | [],.cY bn,X,E,bq,u0,a,w,m,h,aE,aY,dZ,kU,eF=>by
   cases dZ;obtain⟨l,QH,rfl⟩:=kU;simp only[gh,Option.some.injEq,Prod.mk.injEq] at h;obtain⟨rfl,rfl⟩:=h;exact eF E _ w (cQ.refl _) aE ⟨l,rfl,QH⟩
 | .tp k::D,u,X,E,bq,u0,a,w,m,h,aE,aY,dZ,kU,eF=>by
   obtain⟨d,eI,⟨id,c,tN,rfl⟩,Je,rfl⟩:=dZ;simp only[gh] at h;split at h<;>try(cases h;done)
   rename_i o aq;split at h<;>try(cases h;done)
   rename_i ak;have ca:o.sp≠ .cells:=by rw[ak];simp
   obtain⟨il,a4,cO,fH,_⟩:=aE.z6 aq ca;rw[tN] at cO;cases cO;rw[ak] at fH;have oi:w.heap[id]?=some (.deferred (some [])):=fH;obtain⟨w',Er,et⟩:=aE.XO (s:= .jO true) (obj':= .deferred none) aq ca tN rfl P;refine⟨kU.ne,.inl ⟨id,w',rfl,?_,JU aI ai aB D u _ E eI u0 a w' m h et aY Je kU eF⟩⟩;have bc:(getObj id).run P w= .ok (.deferred (some [])) w:=aoD oi (oi▸fH);simp[Instr.takeDeferred,bc,Er]
 | .call f xs ys::D,u,X,E,bq,u0,a,w,m,h,aE,aY,dZ,kU,eF=>by
   obtain⟨d,eI,⟨pA,MG,aqO,aqQ,rfl⟩,Je,rfl⟩:=dZ;simp only[gh] at h
   have core:∀{y1:Out} {iD:Mode} {X1:al},dcall f (xs++ys) u X=some (y1,iD,X1)->cX X1->
    (∀gG e hU cP,cQ E gG->bQ P B aZ X1 gG cP->mS gG iD hU->GS gG y1 e->(match e with
      | .returned _=>LeavesInM (gE none) 0 P fn a.tmps R eI (settle hU) cP
      | .panicked chain=>LeavesInM (gE none) 0 P fn a.tmps R eI (raised hU chain) cP
      | .outgrown=>R .outgrown cP))->LeavesInM (gE none) 0 P fn a.tmps R ({target:= .fn (.func f) MG.toArray,args:=pA.toArray}::eI) m w:=by
    intro y1 iD X1 fR mC tU;obtain⟨⟨aof,yW,gL,Ei⟩,ae⟩:=aI _ _ _ _ _ _ _ fR mC;have DX:aof.body≠none:=λe=>by rw[e] at gL;cases gL
    refine⟨kU.ne,.inr ⟨(λh=>by cases h),.func f,MG.toArray,f,(pA++MG).toArray,rfl,?_,λ_ _=>trivial,?_⟩⟩
    ·simp[invoke,callFunc,yW,Ei,DX]
    ·refine(ae B aZ E w (pA++MG) m aE (aqO.append aqQ) kU).mono ?_
     rintro e hU cP ⟨gG,h1,h2,h3,aT⟩
     have:=tU gG e hU cP h1 h2 h3 aT
     cases e<;>exact this
   split at h
   ·rename_i z iD X1 fR;refine core fR ((zu ai h).pc aB) ?_
    rintro gG e hU cP h1 h2 h3 ⟨v,rfl,_⟩
    exact JU aI ai aB D _ X1 gG eI u0 a cP _ h h2 (aY.mono h1) (Je.sub h1.sub) (aCN h3) (λaW e w' b4=>eF aW e w' (h1.trans b4))
   ·rename_i bn iD X1 fR;refine core fR ((zu ai h).pc aB) ?_
    rintro gG e hU cP h1 h2 h3 ⟨l,rfl,aJ⟩
    exact JU aI ai aB D _ X1 gG eI u0 a cP _ h h2 (aY.mono h1) (Je.sub h1.sub) (aA1 h3 aJ) (λaW e w' b4=>eF aW e w' (h1.trans b4))
   ·cases h
end
section
variable{P:Program}{B:Nat}{aZ w:World}{E:Env}{bq:List Deferred}{X:al}
def GV(P:Program)(B:Nat)(aZ:World)(N:Nat)(E:Env)(ex:iu)(F':aH U)(af:al)(gV:Mode)(Q:Exit->Act->FrameMode->World->Prop):Prop:=
 ∀aW eI a' w' e jV,cQ E aW->fD eI N aW F' a'->j3 aW af.bx eI->bQ P B aZ af aW w'->mS aW gV jV->MY aW ex e->Q e a' jV w'
theorem GV.le{N:Nat}{E gG:Env}{ex:iu}{F':aH U}{af:al}{gV:Mode}{Q:Exit->Act->FrameMode->World->Prop}(h:GV P B aZ N E ex F' af gV Q)(hle:cQ E gG):GV P B aZ N gG ex F' af gV Q:=
 λaW eI a' w' e jV h1=>h aW eI a' w' e jV (hle.trans h1)
def akh(cG:Frame)(cs:List Frame)(Q:Exit->Act->FrameMode->World->Prop)(e:Exit)(a:Act)(nv:List Frame)(w:World):Prop:=∃jV,nv={cG with mode:=jV}::cs/\Q e a jV w
def ajX(P:Program)(N:Nat)(c:Code)(F:aH U)(X:al)(u:Mode)(ex:iu)(F':aH U)(af:al)(gV:Mode):Prop:=
 ∀B aZ E bq a w m (cG:Frame) (cs:List Frame) (Q:Exit->Act->FrameMode->World->Prop),bQ P B aZ X E w->fD bq N E F a->j3 E X.bx bq->mS E u m->GV P B aZ N E ex F' af gV Q->
  c.wpSIn (gE none) 0 P (akh cG cs Q) a ({cG with mode:=m}::cs) w
theorem aad{N:Nat}{dj:Code->aH U->al->R}(oc:∀c F X ex F' af,dj c F X=some (ex,F',af)->fe X af):∀(c:Code) (F:aH U) (X:al) (u:Mode) (ex:iu) (F':aH U) (af:al) (gV:Mode),m2 P N dj c F X u=some (ex,F',af,gV)->fe X af:=by
 intros;exact absurd ‹m2 _ _ _ _ _ _ _=some _› (λe=>by cases e)
theorem amE{N:Nat}{ord:Nat->Hint}{dj:Code->aH U->al->R}(jS:∀c F X ex F' af,ix P ord false c=true->dj c F X=some (ex,F',af)->cX af->vR P none N c F X ex F' af)
 (oc:∀c F X ex F' af,dj c F X=some (ex,F',af)->fe X af):∀(c:Code) (F:aH U) (X:al) (u:Mode) (ex:iu) (F':aH U) (af:al) (gV:Mode),ix P ord false c=true->m2 P N dj c F X u=some (ex,F',af,gV)->cX af->ajX P N c F X u ex F' af gV:=by
 intros;exact absurd ‹m2 _ _ _ _ _ _ _=some _› (λe=>by cases e)
end
end Go.Xe
