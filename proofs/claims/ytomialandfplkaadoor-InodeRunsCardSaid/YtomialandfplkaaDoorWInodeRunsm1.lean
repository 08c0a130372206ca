import Derived.RangeFuncIn
import Derived.RangeFuncLeaves
import Derived.RecoverIn
import Derived.Test.YtomialandfplkaaDoorWInodeRunsm0
set_option linter.unusedSimpArgs false
set_option linter.unusedVariables false
namespace Go.Xe
section
variable{P:Program}{B:Nat}{aY w:World}{X:ah}{E:Env}{bh:List Deferred}
def e7(bh:List Deferred)(N:Nat)(E:Env)(F:ax J)(a:Act):Prop:=
 a.defers=bh/\N<=a.tmps.size/\∀j y,F.get j=some y->j<N/\∃v,a.tmps[j]?=some v/\Den E y v
theorem e7.mono{N:Nat}{E aQ:Env}{F:ax J}{a:Act}(h:e7 bh N E F a)(aB:cM E aQ):e7 bh N aQ F a:=
 ⟨h.1,h.2.1,λj y aa=>let ⟨l,v,h1,h2⟩:=h.2.2 j y aa;⟨l,v,h1,h2.mono aB⟩⟩
theorem e7.put{N:Nat}{F:ax J}{a:Act}(h:e7 bh N E F a){d:Option Tmp}{y:J}{v:Value}(aH:Den E y v):e7 bh N E (Xe.put N F d y) (a.put d v):=by
 cases d with
 |none=>exact h
 |some d=>
  simp only[Xe.put,Act.put];cases ag:Nat.blt d N with
  |false=>
   refine⟨h.1,by simpa using h.2.1,λj z aa=>?_⟩;obtain⟨aL,u,h1,h2⟩:=h.2.2 j z aa
   have b4:d≠j:=λe=>by subst e;have:Nat.blt d N=true:=by rw[Nat.blt_eq];exact aL
                       rw[ag] at this;cases this
   exact⟨aL,u,by simpa[Array.getElem?_setIfInBounds_ne b4] using h1,h2⟩
  |true=>
   have ba:d<N:=by rw[Nat.blt_eq] at ag;exact ag
   refine⟨h.1,by simpa using h.2.1,λj z aa=>?_⟩;rcases iI aa with⟨e,aA⟩|⟨e,a1⟩
   ·subst e;subst aA;have dR:=h.2.1;exact⟨ba,v,Array.getElem?_setIfInBounds_self_of_lt (Nat.lt_of_lt_of_le ba dR),aH⟩
   ·obtain⟨aL,u,h1,h2⟩:=h.2.2 j z a1;exact⟨aL,u,by simpa[Array.getElem?_setIfInBounds_ne (λh=>e h.symm)] using h1,h2⟩
theorem Bk{N:Nat}{F:ax J}{a:Act}(aB:bP P B aY X E w)(aT:e7 bh N E F a){x:Operand}{y:J}(h:look X.aK F x=some y):Den E y (a.eval x):=by
 cases x with
 |tmp t=>
  obtain⟨_,v,h1,h2⟩:=aT.2.2 t y h;simpa[Act.eval,h1] using h2
 |const v=>simp only[look,Option.some.injEq] at h;subst h;exact Zx E v
 |global g=>
  simp only[look] at h;cases ag:Nat.blt g X.aK with
  |false=>simp[ag] at h
  |true=>
   simp only[ag,cond_true,Option.some.injEq] at h;subst h;obtain⟨c,ae⟩:=aB.m8 g (by rw[Nat.blt_eq] at ag;exact ag);exact⟨g,c,ae,rfl⟩
 |func f=>simp only[look,Option.some.injEq] at h;subst h;exact⟨[],[],rfl,rfl,rfl⟩
theorem Ee{N:Nat}{F:ax J}{a:Act}(aB:bP P B aY X E w)(aT:e7 bh N E F a):∀{xs:List Operand} {ys:List J},looks X.aK F xs=some ys->cg E ys (xs.map a.eval)
 | [],ys,h=>by simp[looks] at h;subst h;rfl
 |x::xs,ys,h=>by
  simp only[looks] at h;split at h<;>try(cases h;done)
  rename_i y bf;split at h<;>try(cases h;done)
  rename_i vk ft;cases h;exact⟨_,_,Bk aB aT bf,Ee aB aT ft,rfl⟩
def fH(ro:Option Nat):Fence:={fn:=λ_=>True,depth:=none,alive:=false,round:=ro}
def sI(P:Program)(B:Nat)(aY:World)(E:Env)(y:Out)(af:ah)(e:Ending)(w':World):Prop:=
 ∃aQ,cM E aQ/\bP P B aY af aQ w'/\match y with
  | .ret z=>∃v,e= .returned v/\Den aQ z v
  | .cD bj=>∃l,e= .panicked l/\lu aQ bj l
def rl(P:Program)(E:Env)(c:xd)(argv:List Value)(w:World)(R:Ending->World->Prop):Prop:=match c with
 | .fn f=>(∃fn,P.funcs[f]?=some fn/\fn.body.isSome=true/\fn.name≠"runtime.NumGoroutine"/\CallsIn (fH none) 0 P f argv.toArray w R)\/(∃v w',(callFunc f argv.toArray).run P w= .ok (.value v) w'/\R (.returned v) w')
 | .iF f=>∃fn,P.funcs[f]?=some fn/\fn.body.isSome=true/\fn.name≠"runtime.NumGoroutine"/\CallsIn (fH none) 0 P f argv.toArray w R
 | .fw k=>∃l c fn tmps assign body,E k=some (l,c)/\(Instr.yield l argv.toArray).run P w= .ok (.round l fn tmps assign body) w/\RoundIn (fH none) 0 P l fn tmps assign body w R
def jD(P:Program)(callf:bL):Prop:=∀c args X y af,callf c args X=some (y,af)->cG af->
 cG X/\∀B aY E w argv,bP P B aY X E w->cg E args argv->rl P E c argv w (sI P B aY E y af)
theorem CallsIn.GR{f:FuncId}{args:Array Value}{R:Ending->World->Prop}(ro:Option Nat)(h:CallsIn (fH none) 0 P f args w R):CallsIn (fH ro) 0 P f args w R:=h
theorem RoundIn.GR{l:Nat}{f:FuncId}{tmps:Array Value}{a c:Code}{R:Ending->World->Prop}(ro:Option Nat)(h:RoundIn (fH none) 0 P l f tmps a c w R):RoundIn (fH ro) 0 P l f tmps a c w R:=h
theorem ak4{c:Call}{type:TypeId}{bA args:List J}{xE:xd}{lq:Operand->Value}(aB:bP P B aY X E w)(hv:cg E bA (c.operands.toList.map lq))(h:pv P c bA X=some (xE,args)):
 ∃argv,cg E args argv/\(match xE with
  | .fn f=>(do let d <- resolve lq c type;invoke d.target d.args:Sem Next).run P w=(callFunc f argv.toArray).run P w
  | .iF _=>False
  | .fw k=>∃l cS,E k=some (l,cS)/\(do let d <- resolve lq c type;invoke d.target d.args:Sem Next).run P w=(Instr.yield l argv.toArray).run P w):=by
 unfold pv at h;split at h
 ·rename_i NU hW;have j1:c.operands.toList=NU::c.args.toList:=by simp[Call.operands,hW]
  rw[j1] at hv;split at h<;>try(cases h;done)
  ·rename_i f b6 qj eW;obtain⟨u,us,⟨sq,sr,D1,D2,hu⟩,yE,e⟩:=hv;simp only[List.map_cons,List.cons.injEq] at e;obtain⟨az,aA⟩:=e;cases h;refine⟨sq++us++sr,(D1.append yE).append D2,?_⟩;have wa:Array.map lq c.args=us.toArray:=by rw[<- aA, <- Array.toList_inj];simp
   simp[resolve,hW,az,hu,Deferred.ofValue,wa,invoke]
  ·rename_i k eW;obtain⟨u,us,⟨l,cS,ai,hu⟩,yE,e⟩:=hv;simp only[List.map_cons,List.cons.injEq] at e;obtain⟨az,aA⟩:=e;cases h;refine⟨us,yE,l,cS,ai,?_⟩;have wa:Array.map lq c.args=us.toArray:=by rw[<- aA, <- Array.toList_inj];simp
   simp[resolve,hW,az,hu,Deferred.ofValue,wa,invoke]
 ·rename_i rc name hW;have j1:c.operands.toList=rc::c.args.toList:=by simp[Call.operands,hW]
  rw[j1] at hv;split at h<;>try(cases h;done)
 ·cases h
theorem Rp{callf:bL}(cI:jD P callf){N:Nat}{F:ax J}{a:Act}{o:Oper}{y:Out}{af:ah}(aB:bP P B aY X E w)(aT:e7 bh N E F a)(j2:pQ o.op=true)
 (h:jW P callf o F X=some (y,af))(aC:cG af)(ro:Option Nat){K:Act->World->Prop}{Q:Exit->Act->World->Prop}
 (mb:∀z,y= .ret z->∀aQ v w',cM E aQ->Den aQ z v->bP P B aY af aQ w'->K (a.put o.dst v) w')
 (cB:∀bj,y= .cD bj->∀aQ l w',cM E aQ->lu aQ bj l->bP P B aY af aQ w'->Q (.panic l) a w'):o.wpIn (fH ro) 0 P a w K Q:=by
 refine⟨λ_ _=>trivial,?_⟩
 have DQ:o.semAt (fH ro).round a.eval=execOp a.eval o:=by
  cases ro with
  |none=>rfl
  |some l=>exact Oper.semAt_some l _ o (λc ae=>by rw[ae] at j2;simp[pQ] at j2)
 rw[DQ];unfold jW at h;split at h<;>try(cases h;done)
 rename_i bA hv;have eI:=Ee aB aT hv
 have plain:∀z,y= .ret z->Ge P B aY E w (execOp a.eval o) z af->o.uponIn (fH ro) 0 P a K Q ((execOp a.eval o).run P w):=by
  rintro z a1 ⟨aQ,v,w',h1,h2,h3,aW⟩
  rcases h2 with h2|⟨h2,rfl⟩
  ·rw[h2];exact mb z a1 aQ v w' h1 h3 aW
  ·rw[h2];exact mb z a1 aQ undef w' h1 h3 aW
 have agO:∀{r:Option (J×ah)},gA r=some (y,af)->∃z,y= .ret z/\r=some (z,af):=by
  intro r aI;unfold gA at aI;split at aI<;>cases aI
  exact⟨_,rfl,rfl⟩
 have cD:∀{u:Value},kO bA X=some (y,af)->cg E bA [u]->(execOp a.eval o).run P w=((Instr.panic u).run P w).andThen (λv w'=>Result.ok (Next.value v) w')->o.uponIn (fH ro) 0 P a K Q ((execOp a.eval o).run P w):=by
  intro u IS aH fx;unfold kO at IS;split at IS<;>try(cases IS;done)
  rename_i W2 aFM;cases IS;obtain⟨dz,gU,oG⟩:=lG aH;cases gU;have oH:=oG;obtain⟨x,ar,rfl⟩:=oH;rw[fx];have ao3:(Instr.panic (.iface W2 x):Sem Value).run P w= .halt (.panic (.iface W2 x)) w:=rfl;rw[ao3];exact cB _ rfl E _ w (cM.refl _) ⟨_,[],oG,rfl,rfl⟩ aB
 split at h
 ·rename_i c ae;have j1:o.op.operands.toList=c.operands.toList:=by rw[ae];rfl
  rw[j1] at eI;have hex:execOp a.eval o=(do let d <- resolve a.eval c o.type;invoke d.target d.args):=by simp only[execOp,ae]
  split at h
  ·rename_i b hW;have aoZ:c.operands.toList=c.args.toList:=by simp[Call.operands,hW]
   rw[aoZ] at eI;have wa:Array.map a.eval c.args=(c.args.toList.map a.eval).toArray:=by rw[<- Array.toList_inj];simp
   cases AR:pL b with
   |true=>
    rw[AR] at h;simp only[cond_true] at h;have ag:b= .panic:=by cases b<;>first|rfl|cases AR
    subst ag;have hlen:=eI.length;unfold kO at h;split at h<;>try(cases h;done)
    rename_i t x;obtain⟨u,hu,aH⟩:=lG eI;refine cD (u:=u) (by unfold kO;exact h) ⟨u,[],aH,rfl,rfl⟩ ?_;rw[hex];simp only[resolve,hW,wa,hu,invoke,Sem.run_bind,Sem.run_pure,Result.andThen_ok,builtin];rfl
   |false=>
    rw[AR] at h;simp only[cond_false] at h;obtain⟨z,rfl,h3⟩:=agO h;obtain⟨aQ,v,w',g1,g2,g3,g4⟩:=akJ (ty:=o.type) (consts:=c.args.map λ| .const _=>true|_=>false) aB eI h3;refine plain z rfl ⟨aQ,v,w',g1,.inl ?_,g3,g4⟩;rw[hex];simp only[resolve,hW,wa,invoke,Sem.run_bind,Sem.run_pure,Result.andThen_ok];exact g2
  ·split at h<;>try(cases h;done)
   rename_i xE args hW;obtain⟨argv,Dm,fx⟩:=ak4 (type:=o.type) aB eI hW;obtain⟨_,fE⟩:=cI _ _ _ _ _ h aC;have acQ:=fE B aY E w argv aB Dm
   have post:∀{e w'},sI P B aY E y af e w'->(∀v,e= .returned v->K (a.put o.dst v) w')/\(∀bj,e= .panicked bj->Q (.panic bj) a w')/\e≠ .outgrown:=by
    rintro e w' ⟨aQ,h1,h2,h3⟩
    cases y with
    |ret z=>
     obtain⟨v,rfl,aH⟩:=h3;exact⟨λLv e=>(by cases e;exact mb z rfl aQ v w' h1 aH h2),λbj e=>(by cases e),by simp⟩
    |cD bj=>
     obtain⟨l,rfl,aH⟩:=h3;exact⟨λLv e=>(by cases e),λY2 e=>(by cases e;exact cB bj rfl aQ l w' h1 aH h2),by simp⟩
   rw[hex];cases xE with
   |fn f=>
    rw[fx];rcases acQ with⟨fn,yk,gr,DH,rR⟩|⟨v,w',aI,tq⟩
    ·have Dr:fn.body≠none:=λe=>by rw[e] at gr;cases gr
     have:(callFunc f argv.toArray).run P w= .ok (.enter f argv.toArray) w:=by simp[callFunc,yk,DH,Dr]
     rw[this,Oper.uponIn_enter];refine⟨(λh=>by cases h),?_⟩;refine CallsIn.mono (CallsIn.GR ro rR) ?_;intro e w' tq;obtain⟨bT,cm,fe⟩:=post tq;cases e with
     |returned v=>exact bT v rfl
     |panicked bj=>exact cm bj rfl
     |outgrown=>exact absurd rfl fe
    ·rw[aI];exact(post tq).1 v rfl
   |iF f=>exact fx.elim
   |fw k=>
    obtain⟨l,cS,ai,fx⟩:=fx;obtain⟨dD,aEP,fn,tmps,assign,body,cP,bf,nW⟩:=acQ;rw[ai] at cP;cases cP;rw[fx,bf,Oper.uponIn_round];refine⟨(λh=>by cases h),?_⟩;refine RoundIn.mono (RoundIn.GR ro nW) ?_;intro e w' tq;obtain⟨bT,cm,fe⟩:=post tq;cases e with
    |returned v=>exact bT v rfl
    |panicked bj=>exact cm bj rfl
    |outgrown=>exact absurd rfl fe
 ·rename_i x ar;have j1:o.op.operands.toList=[x]:=by rw[ar];rfl
  rw[j1] at eI;refine cD (u:=a.eval x) h eI ?_;simp only[execOp,ar,Sem.run_bind];rfl
 ·rename_i op aFa aFb;obtain⟨z,rfl,h3⟩:=agO h;exact plain z rfl (WH aB eI aC h3)
theorem NN{callf:bL}{F:ax J}{o:Oper}{y:J}{af:ah}(h:kl P callf o F X=some (y,af)):jW P callf o F X=some (.ret y,af):=by
 unfold kl at h;unfold jW;split at h<;>try(cases h;done)
 rename_i bA hv;split at h
 ·rename_i c ae;unfold xM at h;split at h
  ·rename_i b hW
   have ag:pL b=false:=by
    cases b<;>first|rfl|(unfold iD at h;split at h<;>first|cases h|contradiction)
   simp only[ae,hW,ag,cond_false,h,gA]
  ·rename_i hW;split at h<;>try(cases h;done)
   rename_i xE args mH;unfold Aa at h;split at h<;>try(cases h;done)
   rename_i z X1 a1;cases h;split
   ·rename_i a3 fr;rw[ae] at fr;cases fr;split
    ·rename_i b ag;exact absurd ag (hW b)
    ·simp only[mH,a1]
   ·rename_i ar;rw[ae] at ar;cases ar
   ·rename_i ar _;exact absurd ae (ar c)
 ·rename_i op b4;split
  ·rename_i c ae;exact absurd ae (b4 c)
  ·rename_i x ar;rw[ar] at h;simp[dO] at h
  ·rw[h];rfl
theorem arv{callf:bL}(cI:jD P callf){N:Nat}{F:ax J}{a:Act}{o:Oper}{y:J}{af:ah}(aB:bP P B aY X E w)(aT:e7 bh N E F a)(j2:pQ o.op=true)
 (h:kl P callf o F X=some (y,af))(aC:cG af)(ro:Option Nat){K:Act->World->Prop}{Q:Exit->Act->World->Prop}
 (mb:∀aQ v w',cM E aQ->Den aQ y v->bP P B aY af aQ w'->K (a.put o.dst v) w'):o.wpIn (fH ro) 0 P a w K Q:=
 Rp cI aB aT j2 (NN h) aC ro (λz a1=>by cases a1;exact mb) (λbj a1=>by cases a1)
theorem CG{callf:bL}(cI:jD P callf){F:ax J}{o:Oper}{y:Out}{af:ah}(h:jW P callf o F X=some (y,af))(aC:cG af):cG X:=by
 have ae4:∀{bA:List J},kO bA X=some (y,af)->cG X:=by
  intro bA h;unfold kO at h;split at h<;>cases h
  exact aC
 have agP:∀{r:Option (J×ah)},gA r=some (y,af)->∃z,r=some (z,af):=by
  intro r aI;unfold gA at aI;split at aI<;>cases aI
  exact⟨_,rfl⟩
 unfold jW at h;split at h<;>try(cases h;done)
 split at h
 ·split at h
  ·rename_i b _;cases ag:pL b with
   |true=>rw[ag] at h;exact ae4 h
   |false=>
    rw[ag] at h;obtain⟨z,h⟩:=agP h;unfold cG;rw[<- (Nb h).pc];exact aC
  ·split at h<;>try(cases h;done)
   exact(cI _ _ _ _ _ h aC).1
 ·exact ae4 h
 ·obtain⟨z,h⟩:=agP h;exact aBi h aC
theorem aeU{callf:bL}(cI:jD P callf){F:ax J}{o:Oper}{y:J}{af:ah}(h:kl P callf o F X=some (y,af))(aC:cG af):cG X:=CG cI (NN h) aC
theorem Lw{N:Nat}{F:ax J}{a:Act}{ops:Array Oper}{o:Oper}{b:Bool}{af:ah}(aT:e7 bh N E F a)(h:hp ops.toList F X o.guard=some (b,af)):
 (cG af->cG X/\Region.wanted o (yielded ops a.tmps)=b)/\af.aV=X.aV/\af.next=X.next/\af.aK=X.aK:=by
 unfold hp at h;unfold Region.wanted;split at h
 ·rename_i bd;cases h;simp[bd]
 ·rename_i j want bd;split at h<;>try(cases h;done)
  rename_i o' gh;split at h<;>try(cases h;done)
  rename_i d aH;split at h<;>try(cases h;done)
  rename_i y bf;obtain⟨h1,h2,h3,aW⟩:=YE h;refine⟨λaC=>⟨(h1 aC).1,?_⟩,h2,h3,aW⟩;obtain⟨_,v,hv,aom⟩:=aT.2.2 d y bf;have adh:ops[j]?=some o':=by simpa using gh
  rcases(h1 aC).2 _ _ aom with⟨c,rfl,ae⟩|⟨a,rfl,rfl⟩
  ·rw[<- ae];simp[bd,yielded,adh,aH,hv]
  ·simp[bd,yielded,adh,aH,hv]
theorem BX{F:ax J}{ops:List Oper}{g:Option (Nat×Bool)}{b:Bool}{af:ah}(h:hp ops F X g=some (b,af))(aC:cG af):cG X:=by
 unfold hp at h;split at h
 ·cases h;exact aC
 ·split at h<;>try(cases h;done)
  split at h<;>try(cases h;done)
  split at h<;>try(cases h;done)
  exact((YE h).1 aC).1
theorem WT{callf:bL}(cI:jD P callf){N:Nat}{F F':ax J}{ops:List Oper}{o:Oper}{af:ah}(h:j9 P callf N ops o F X=some (F',af))(aC:cG af):cG X:=by
 unfold j9 at h;split at h
 ·rename_i X1 hw;split at h<;>try(cases h;done)
  rename_i y c4 aq;cases h;exact BX hw (aeU cI aq aC)
 ·rename_i X1 hw;cases h;exact BX hw aC
 ·cases h
theorem ahE{callf:bL}(cI:jD P callf){N:Nat}{F F':ax J}{a:Act}{ops:Array Oper}{o:Oper}{af:ah}(aB:bP P B aY X E w)(aT:e7 bh N E F a)(j2:pQ o.op=true)
 (h:j9 P callf N ops.toList o F X=some (F',af))(aC:cG af)(ro:Option Nat){K:Act->World->Prop}{Q:Exit->Act->World->Prop}
 (mb:∀aQ a' w',cM E aQ->e7 bh N aQ F' a'->bP P B aY af aQ w'->K a' w'):
 if Region.wanted o (yielded ops a.tmps) then o.wpIn (fH ro) 0 P a w K Q
 else(∀f,o.about P w a.eval=some f->(fH ro).fn f)/\K (a.put o.dst undef) w:=by
 unfold j9 at h;split at h
 ·rename_i X1 hw;split at h<;>try(cases h;done)
  rename_i y c4 aq;cases h;have jg:=aeU cI aq aC;obtain⟨h1,h2,h3,aW⟩:=Lw aT hw;rw[(h1 jg).2,if_pos rfl];exact arv cI (aB.same h2 h3 aW) aT j2 aq aC ro (λaQ v w' ak aD a7=>mb aQ _ w' ak ((aT.mono ak).put aD) a7)
 ·rename_i X1 hw;cases h;obtain⟨h1,h2,h3,aW⟩:=Lw aT hw;rw[(h1 aC).2,if_neg (by simp)];exact⟨λ_ _=>trivial,mb E _ w (cM.refl _) (aT.put rfl) (aB.same h2 h3 aW)⟩
 ·cases h
end
section
variable{P:Program}{B:Nat}{aY w:World}{E:Env}{bh:List Deferred}
def hF(F F':ax J):Prop:=∀k,F.get k=F'.get k
theorem hF.refl(F:ax J):hF F F:=λ_=>rfl
theorem hF.symm{F F':ax J}(h:hF F F'):hF F' F:=λk=>(h k).symm
theorem hF.trans{F F' sw:ax J}(h:hF F F')(h':hF F' sw):hF F sw:=λk=>(h k).trans (h' k)
theorem e7.eqv{N:Nat}{F F':ax J}{a:Act}(h:e7 bh N E F a)(he:hF F F'):e7 bh N E F' a:=
 ⟨h.1,h.2.1,λj y aa=>h.2.2 j y (by rw[he j];exact aa)⟩
theorem aeh{aK:Nat}{F F':ax J}:∀{xs:List Operand},(∀x∈xs,look aK F x=look aK F' x)->looks aK F xs=looks aK F' xs
 | [],_=>rfl
 |x::xs,h=>by simp only[looks,h x (List.mem_cons_self ..),aeh (λy bf=>h y (List.mem_cons_of_mem _ bf))]
def jP(P:Program)(callf:bL)(ops:List Oper)(o:Oper)(F:ax J)(X:ah):Option (J×ah):=
 match hp ops F X o.guard with
 |some (true,X)=>kl P callf o F X
 |some (false,X)=>some (.val undef,X)
 |none=>none
theorem lk{callf:bL}{N:Nat}{ops:List Oper}{o:Oper}{F F':ax J}{X af:ah}:
 j9 P callf N ops o F X=some (F',af)↔∃y,jP P callf ops o F X=some (y,af)/\F'=put N F o.dst y:=by
 unfold j9 jP;cases hw:hp ops F X o.guard with
 |none=>simp
 |some r=>
  obtain⟨b,X1⟩:=r;cases b with
  |false=>
   simp only[Option.some.injEq,Prod.mk.injEq];constructor
   ·rintro ⟨rfl,rfl⟩;exact⟨_,⟨rfl,rfl⟩,rfl⟩
   ·rintro ⟨zz,⟨rfl,rfl⟩,rfl⟩;exact⟨rfl,rfl⟩
  |true=>
   simp only[];cases aq:kl P callf o F X1 with
   |none=>simp
   |some r=>
    obtain⟨y,c4⟩:=r;simp only[Option.some.injEq,Prod.mk.injEq];constructor
    ·rintro ⟨rfl,rfl⟩;exact⟨y,⟨rfl,rfl⟩,rfl⟩
    ·rintro ⟨zz,⟨rfl,rfl⟩,rfl⟩;exact⟨rfl,rfl⟩
theorem Ra{ops:Array Oper}{o:Oper}{F F':ax J}{X:ah}(h:∀t∈o.looksAt ops,F.get t=F'.get t):
 hp ops.toList F X o.guard=hp ops.toList F' X o.guard/\∀aK,looks aK F o.op.operands.toList=looks aK F' o.op.operands.toList:=by
 refine⟨?_,λaK=>aeh λx ar=>?_⟩
 ·unfold hp;cases bd:o.guard with
  |none=>rfl
  |some anB=>
   obtain⟨j,want⟩:=anB;simp only[];cases aq:ops.toList[j]? with
   |none=>rfl
   |some o'=>
    simp only[];cases aH:o'.dst with
    |none=>rfl
    |some d=>
     have gh:ops[j]?=some o':=by simpa using aq
     have hm:d∈o.looksAt ops:=by simp[Oper.looksAt,bd,gh,aH]
     simp only[h d hm]
 ·cases x with
  |tmp t=>exact h t (List.mem_append_left _ (List.mem_filterMap.2 ⟨.tmp t,ar,rfl⟩))
  |_=>rfl
theorem Le{callf:bL}{ops:Array Oper}{o:Oper}{F F':ax J}{X:ah}(h:∀t∈o.looksAt ops,F.get t=F'.get t):
 jP P callf ops.toList o F X=jP P callf ops.toList o F' X:=by
 obtain⟨hw,aL⟩:=Ra (X:=X) h;unfold jP;rw[hw];unfold kl;simp only[aL]
theorem pU{N:Nat}{F:ax J}{d:Option Tmp}{y:J}(k:Nat)(h:d≠some k):(put N F d y).get k=F.get k:=by
 cases d with
 |none=>rfl
 |some t=>
  simp only[put];cases ag:Nat.blt t N with
  |false=>rfl
  |true=>
   have ba:t<N:=by rw[Nat.blt_eq] at ag;exact ag
   simp only[cond_true];rw[kG,if_neg (λe=>h (by rw[e]))]
theorem RC{N:Nat}{F F':ax J}{d:Option Tmp}{y:J}{k:Nat}(h:d=some k)(aT:F.get k=F'.get k):(put N F d y).get k=(put N F' d y).get k:=by
 subst h;simp only[put];cases ag:Nat.blt k N with
 |false=>exact aT
 |true=>
  simp only[cond_true];rw[kG,kG];simp
theorem afh{N:Nat}{F F':ax J}(he:hF F F')(d:Option Tmp)(y:J):hF (put N F d y) (put N F' d y):=λk=>by
 by_cases h:d=some k
 ·exact RC h (he k)
 ·rw[pU k h,pU k h];exact he k
theorem put_comm{N:Nat}{F:ax J}{d e:Option Tmp}{y z:J}(h:∀t,d=some t->e≠some t):hF (put N (put N F d y) e z) (put N (put N F e z) d y):=λk=>by
 by_cases aH:d=some k
 ·have he:=h k aH;rw[pU k he];exact RC aH (pU k he).symm
 ·rw[pU (d:=d) k aH];by_cases he:e=some k
  ·exact RC he (pU k aH)
  ·rw[pU k he,pU k he,pU k aH]
theorem aBG{callf:bL}{N:Nat}{ops:Array Oper}{o:Oper}{F F' G:ax J}{X af:ah}(he:hF F F')(h:j9 P callf N ops.toList o F X=some (G,af)):
 ∃ud,j9 P callf N ops.toList o F' X=some (ud,af)/\hF G ud:=by
 obtain⟨y,bf,rfl⟩:=lk.1 h;exact⟨_,lk.2 ⟨y,by rw[<- Le (λt _=>he t)];exact bf,rfl⟩,afh he _ _⟩
theorem GS{X af:ah}{y:J}{b:Bool}(aq:X.cK=[])(h:fZ X y=some (b,af)):af=X/\∀X1,fZ X1 y=some (b,X1):=by
 cases y with
 |bool c=>simp only[fZ,Option.some.injEq,Prod.mk.injEq] at h;obtain⟨rfl,rfl⟩:=h;exact⟨rfl,λ_=>rfl⟩
 |val x=>cases x<;>simp[fZ,ah.ask,aq] at h
 |_=>simp[fZ] at h
theorem akj{X af:ah}{y:J}{b want:Bool}(aq:X.cK=[])(h:lB X want y=some (b,af)):af=X/\∀X1,lB X1 want y=some (b,X1):=by
 unfold lB at h⊢;cases aN:tv y with
 |true=>
  simp only[aN,cond_true,Option.some.injEq,Prod.mk.injEq] at h;obtain⟨rfl,rfl⟩:=h;exact⟨rfl,λ_=>rfl⟩
 |false=>
  simp only[aN,cond_false] at h;split at h<;>try(cases h;done)
  rename_i ag;cases h;obtain⟨h1,h2⟩:=GS aq ag;exact⟨h1,λX1=>by simp[h2 X1]⟩
theorem BW{ops:List Oper}{F:ax J}{X af:ah}{g:Option (Nat×Bool)}{b:Bool}(aq:X.cK=[])(h:hp ops F X g=some (b,af)):af=X/\∀X1,hp ops F X1 g=some (b,X1):=by
 unfold hp at h⊢;split at h
 ·cases h;exact⟨rfl,λ_=>rfl⟩
 ·split at h<;>try(cases h;done)
  split at h<;>try(cases h;done)
  split at h<;>try(cases h;done)
  obtain⟨h1,h2⟩:=akj aq h;exact⟨h1,λX1=>by simp[*]⟩
theorem alG{s d:TypeId}{x y:J}{X af:ah}(h:jJ P s d x X=some (y,af)):Fg P s d=true:=by
 unfold jJ at h;unfold Fg
 split at h<;>first
  |(cases h;done)
  |(rename_i h1 h2;simp only[h1,h2])
  |(rename_i h1 h2;simp[h1,h2])
theorem arQ{op:Op}{bA:List J}{X af:ah}{y:J}(aC:mg P op=true)(aq:X.cK=[])(h:dO P op bA X=some (y,af)):af=X/\∀X1,dO P op bA X1=some (y,X1):=by
 unfold dO at h;split at h
 all_goals first
  |(simp[mg] at aC;done)
  |(cases h;done)
  |(cases h;exact⟨rfl,λ_=>rfl⟩)
  |(obtain⟨h',eK⟩:=gK h;subst eK;exact⟨rfl,λX1=>by simp only[dO,dx,h']⟩)
  |(unfold tT at h
    split at h
    ·rename_i ag;cases h;obtain⟨h1,h2⟩:=GS aq ag;exact⟨h1,λX1=>by simp only[dO,tT,h2]⟩
    ·rename_i ag;cases h;obtain⟨h1,h2⟩:=GS aq ag;exact⟨h1,λX1=>by simp only[dO,tT,h2]⟩
    ·cases h)
  |(split at h
    ·rename_i ae;cases h;exact⟨rfl,λX1=>by simp only[dO,ae]⟩
    ·have:=alG h;simp[mg,this] at aC)
structure dh (X af:ah):Prop where
 cK:X.cK=[]->af.cK=[]
 aK:af.aK=X.aK
 next:X.next<=af.next
 cn:∀k o o',k<X.next->X.aV.get k=some o->af.aV.get k=some o'->o.cn<=o'.cn/\(o'.cn=o.cn->o'=o)
 dead:∀k,k<X.next->X.aV.get k=none->af.aV.get k=none
 bs:af.bs=X.bs
 pc:cG af->cG X
theorem dh.refl(X:ah):dh X X:=⟨λh=>h,rfl,Nat.le_refl _,λk o o' _ h h'=>by rw[h] at h';cases h';exact⟨Nat.le_refl _,λ_=>rfl⟩,λ_ _ h=>h,rfl,λh=>h⟩
theorem dh.trans{X Y Z:ah}(h:dh X Y)(h':dh Y Z):dh X Z:=by
 refine⟨λaq=>h'.cK (h.cK aq),h'.aK.trans h.aK,Nat.le_trans h.next h'.next,λk o o' ai aq gh=>?_,λk ai aH=>h'.dead k (Nat.lt_of_lt_of_le ai h.next) (h.dead k ai aH),h'.bs.trans h.bs,λp=>h.pc (h'.pc p)⟩;cases bf:Y.aV.get k with
 |none=>have:=h'.dead k (Nat.lt_of_lt_of_le ai h.next) bf;rw[gh] at this;cases this
 |some oy=>
  obtain⟨ak,aD⟩:=h.cn k o oy ai aq bf;obtain⟨bX,b2⟩:=h'.cn k oy o' (Nat.lt_of_lt_of_le ai h.next) bf gh;exact⟨Nat.le_trans ak bX,λe=>by rw[b2 (by omega),aD (by omega)]⟩
theorem dh.same{X af:ah}(aq:X.cK=[]->af.cK=[])(aO:af.aK=X.aK)(ar:af.next=X.next)(nU:af.aV=X.aV)(aH:af.bs=X.bs)(tn:cG af->cG X):dh X af:=
 ⟨aq,aO,by rw[ar];exact Nat.le_refl _,λk o o' _ h h'=>by rw[nU,h] at h';cases h';exact⟨Nat.le_refl _,λ_=>rfl⟩,λk _ h=>by rw[nU];exact h,aH,tn⟩
theorem dh.new(X:ah)(o:bH):dh X (X.new o).2:=by
 refine⟨λh=>h,rfl,Nat.le_succ _,λk a b ai h h'=>?_,λk ai h=>?_,rfl,λh=>h⟩
 ·rcases cE.iI h' with⟨e,_⟩|⟨_,h2⟩
  ·omega
  ·rw[h] at h2;cases h2;exact⟨Nat.le_refl _,λ_=>rfl⟩
 ·cases h':(X.new o).2.aV.get k with
  |none=>rfl
  |some b=>
   rcases cE.iI h' with⟨e,_⟩|⟨_,h2⟩
   ·omega
   ·rw[h] at h2;cases h2
theorem dh.store{X:ah}{k:Nat}{o o':bH}(ai:X.aV.get k=some o)(hv:o.cn<o'.cn):dh X {X with aV:=X.aV.put k o'}:=by
 refine⟨λh=>h,rfl,Nat.le_refl _,λj a b _ h h'=>?_,λj _ h=>?_,rfl,λh=>h⟩
 ·rcases cE.iI h' with⟨rfl,rfl⟩|⟨_,h2⟩
  ·rw[ai] at h;cases h;exact⟨by omega,λe=>by omega⟩
  ·rw[h] at h2;cases h2;exact⟨Nat.le_refl _,λ_=>rfl⟩
 ·cases h':(X.aV.put k o').get j with
  |none=>rfl
  |some b=>
   rcases cE.iI h' with⟨rfl,_⟩|⟨_,h2⟩
   ·rw[ai] at h;cases h
   ·rw[h] at h2;cases h2
theorem dh.name{X:ah}{k:Nat}{o:bH}:dh X {X with next:=X.next+1,aV:=(X.aV.del k).put X.next o}:=by
 refine⟨λh=>h,rfl,Nat.le_succ _,λj a b aa h h'=>?_,λj aa h=>?_,rfl,λh=>h⟩
 ·rcases cE.iI h' with⟨e,_⟩|⟨_,h2⟩
  ·omega
  ·have:=(cE.s8 h2).2;rw[h] at this;cases this;exact⟨Nat.le_refl _,λ_=>rfl⟩
 ·show((X.aV.del k).put X.next o).get j=none;cases h':((X.aV.del k).put X.next o).get j with
  |none=>rfl
  |some b=>
   rcases cE.iI h' with⟨e,_⟩|⟨_,h2⟩
   ·omega
   ·have:=(cE.s8 h2).2;rw[h] at this;cases this
theorem jq.keeps{X af:ah}(h:jq X af):dh X af:=by
 cases h with
 |same=>exact dh.refl _
 |new o=>exact dh.new _ _
 |set k o o' h1 h2=>exact dh.store h1 h2
 |name k o=>exact dh.name
theorem Cq{X af:ah}{y:J}{b:Bool}(h:fZ X y=some (b,af)):af.bs=X.bs:=by
 cases y with
 |bool c=>simp only[fZ,Option.some.injEq,Prod.mk.injEq] at h;obtain⟨rfl,rfl⟩:=h;rfl
 |val x=>
  cases x with
  |bool s=>
   simp only[fZ,ah.ask] at h;split at h<;>cases h
   rfl
  |_=>simp[fZ] at h
 |_=>simp[fZ] at h
theorem rD{X af:ah}{y:J}{b:Bool}(h:fZ X y=some (b,af)):dh X af:=by
 obtain⟨_,h2,h3,aW⟩:=rE h;exact dh.same (λaq=>by rw[(GS aq h).1];exact aq) aW h3 h2 (Cq h) (λaC=>((rE h).1 aC).1)
def fM(callf:bL):Prop:=∀c args X y af,callf c args X=some (y,af)->dh X af
theorem K3{op:Op}{bA:List J}{X af:ah}{y:J}(h:dO P op bA X=some (y,af)):dh X af:=by
 unfold dO at h;split at h
 case h_3=>
  unfold tT at h;split at h
  ·rename_i ag;cases h;exact rD ag
  ·rename_i ag;cases h;exact rD ag
  ·cases h
 case h_4=>unfold pX newRow at h;split at h<;>(try simp only[force_eq] at h)<;>cases h;exact dh.new _ _
 case h_5=>
  unfold pZ newRow at h;rename_i x;cases ar:x.flat<;>simp only[ar,cond_false,cond_true,force_eq] at h<;>cases h
  exact dh.new _ _
 case h_7=>
  unfold oV newRow at h;split at h<;>try(cases h;done)
  split at h<;>try(cases h;done)
  rename_i s z _ _;generalize ae:(Nat.ble _ _&&Nat.ble 1 s&&_)=b at h;cases b<;>simp only[cond_true,cond_false,force_eq] at h
  ·cases h
  ·split at h<;>cases h;exact dh.new _ _
 case h_9=>
  split at h<;>cases h
  rename_i X1 al;unfold n7 at al;split at al<;>try(cases al;done)
  rename_i o n aq _;generalize ae:(Nat.beq _ _&&_&&_&&_)=b at al;cases b<;>simp only[cond_true,cond_false] at al<;>cases al
  exact dh.store aq (Nat.lt_succ_self _)
 case h_16=>
  unfold p0 mQ at h;split at h<;>try(cases h;done)
  split at h<;>try(cases h;done)
  split at h<;>try(cases h;done)
  rename_i s z b _ _ _;generalize ae:(Nat.ble _ _&&_&&_&&_&&_)=b at h;cases b<;>simp only[cond_true,cond_false,force_eq] at h<;>cases h
  exact dh.new _ _
 all_goals first
  |(cases h;exact dh.refl _)
  |(obtain⟨_,rfl⟩:=gK h;exact dh.refl _)
  |(cases h;done)
  |exact(agE h).keeps
  |exact(aeE h).keeps
  |(unfold tE at h;cases h;exact dh.new _ _)
  |(split at h<;>cases h;rename_i hu;exact(aie hu).keeps)
  |exact(ZM h).keeps
  |(split at h<;>cases h;rename_i hu;exact(ZL hu).keeps)
  |(split at h
    ·cases h;exact dh.refl _
    ·exact(Zh h).keeps)
theorem amG{callf:bL}(ae:fM callf){o:Oper}{F:ax J}{X af:ah}{y:J}(h:kl P callf o F X=some (y,af)):dh X af:=by
 unfold kl at h;split at h<;>try(cases h;done)
 split at h
 ·unfold xM at h;split at h
  ·exact(Nb h).keeps
  ·split at h<;>try(cases h;done)
   unfold Aa at h;split at h<;>try(cases h;done)
   rename_i a1;cases h;exact ae _ _ _ _ _ a1
 ·exact K3 h
theorem Hk{callf:bL}(ae:fM callf){o:Oper}{F:ax J}{X af:ah}{y:Out}(h:jW P callf o F X=some (y,af)):dh X af:=by
 have ae3:∀{bA:List J},kO bA X=some (y,af)->dh X af:=by
  intro bA h;unfold kO at h;split at h<;>cases h
  exact dh.refl _
 have Ff:∀{r:Option (J×ah)},gA r=some (y,af)->∃z,r=some (z,af):=by
  intro r aI;unfold gA at aI;split at aI<;>cases aI
  exact⟨_,rfl⟩
 unfold jW at h;split at h<;>try(cases h;done)
 split at h
 ·split at h
  ·rename_i b _;cases ag:pL b with
   |true=>rw[ag] at h;exact ae3 h
   |false=>
    rw[ag] at h;obtain⟨z,h⟩:=Ff h;exact(Nb h).keeps
  ·split at h<;>try(cases h;done)
   exact ae _ _ _ _ _ h
 ·exact ae3 h
 ·obtain⟨z,h⟩:=Ff h;exact K3 h
theorem w1{ops:List Oper}{F:ax J}{X af:ah}{g:Option (Nat×Bool)}{b:Bool}(h:hp ops F X g=some (b,af)):dh X af:=by
 unfold hp at h;split at h
 ·cases h;exact dh.refl _
 ·split at h<;>try(cases h;done)
  split at h<;>try(cases h;done)
  split at h<;>try(cases h;done)
  rename_i y _;unfold lB at h;cases aN:tv y with
  |true=>
   simp only[aN,cond_true,Option.some.injEq,Prod.mk.injEq] at h;obtain⟨rfl,rfl⟩:=h;exact dh.refl _
  |false=>
   simp only[aN,cond_false] at h;split at h<;>try(cases h;done)
   rename_i ag;cases h;exact rD ag
theorem u4{callf:bL}(ae:fM callf){ops:List Oper}{o:Oper}{F:ax J}{X af:ah}{y:J}(h:jP P callf ops o F X=some (y,af)):dh X af:=by
 unfold jP at h;split at h
 ·rename_i X1 hw;exact(w1 hw).trans (amG ae h)
 ·rename_i X1 hw;cases h;exact w1 hw
 ·cases h
theorem WN{callf:bL}(ae:fM callf){N:Nat}{ops:List Oper}{o:Oper}{F F':ax J}{X af:ah}(h:j9 P callf N ops o F X=some (F',af)):dh X af:=by
 obtain⟨y,bf,_⟩:=lk.1 h;exact u4 ae bf
theorem arO{c:Call}{bA:List J}{X af:ah}{y:J}{b:Builtin}(aC:mg P (.call c)=true)(ag:c.callee= .builtin b)(h:iD P b c.argTypes bA X=some (y,af)):
 af=X/\∀X1,iD P b c.argTypes bA X1=some (y,X1):=by
 unfold iD at h;split at h
 ·split at h<;>try(cases h;done)
  rename_i aN;obtain⟨h',eK⟩:=gK h;exact⟨eK.symm,λX1=>by simp only[iD,aN,h',dx]⟩
 ·split at h<;>try(cases h;done)
  rename_i aN;obtain⟨h',eK⟩:=gK h;exact⟨eK.symm,λX1=>by simp only[iD,aN,h',dx]⟩
 ·obtain⟨h',eK⟩:=gK h;exact⟨eK.symm,λX1=>by simp only[iD,h',dx]⟩
 ·obtain⟨h',eK⟩:=gK h;exact⟨eK.symm,λX1=>by simp only[iD,h',dx]⟩
 ·simp[mg,Ep,ag,RA] at aC
 ·simp[mg,Ep,ag,RA] at aC
 ·cases h
theorem arP{callf:bL}{o:Oper}{F:ax J}{X af:ah}{y:J}(aC:mg P o.op=true)(aq:X.cK=[])(h:kl P callf o F X=some (y,af)):
 af=X/\∀X1,X1.aK=X.aK->kl P callf o F X1=some (y,X1):=by
 unfold kl at h⊢;split at h<;>try(cases h;done)
 rename_i bA aL;split at h
 ·rename_i c ae;unfold xM at h;rw[ae] at aC;split at h
  ·rename_i b hW;obtain⟨h1,h2⟩:=arO aC hW h;exact⟨h1,λX1 lN=>by simp only[lN,aL,xM,hW];exact h2 X1⟩
  ·rename_i hW;have mN:Ep c.callee=true:=aC;unfold Ep at mN;split at mN
   ·rename_i b ag;exact absurd ag (hW b)
   ·cases mN
 ·rename_i op b4;obtain⟨h1,h2⟩:=arQ aC aq h;refine⟨h1,λX1 lN=>?_⟩;simp only[lN,aL];exact h2 X1
theorem Lf{callf:bL}{ops:List Oper}{o:Oper}{F:ax J}{X af:ah}{y:J}(aC:mg P o.op=true)(aq:X.cK=[])(h:jP P callf ops o F X=some (y,af)):
 af=X/\∀X1,X1.aK=X.aK->jP P callf ops o F X1=some (y,X1):=by
 unfold jP at h⊢;split at h
 ·rename_i c4 hw;obtain⟨rfl,uQ⟩:=BW aq hw;obtain⟨h1,h2⟩:=arP aC aq h;refine⟨h1,λX1 lN=>?_⟩;rw[uQ X1];exact h2 X1 lN
 ·rename_i c4 hw;obtain⟨rfl,uQ⟩:=BW aq hw;cases h;exact⟨rfl,λX1 _=>by rw[uQ X1]⟩
 ·cases h
def Wr:List J->Option Nat
 | [.ptr k _]=>some k
 | [.aZ k _ _ _ _]=>some k
 | [.mp k,_]=>some k
 |_=>none
theorem aqp{t:TypeId}{m k y:J}{ok:Bool}{X X1:ah}(ai:∀j,m= .mp j->X1.aV.get j=X.aV.get j)(h:zq P t m k ok X=some y):zq P t m k ok X1=some y:=by cases h
theorem azX{op:Op}{bA:List J}{X af:ah}{y:J}(aC:fb P op=true)(h:dO P op bA X=some (y,af)):af=X/\∀X1:ah,(∀k,Wr bA=some k->X1.aV.get k=X.aV.get k)->dO P op bA X1=some (y,X1):=by
 unfold dO at h;split at h
 case h_8=>
  obtain⟨h',eK⟩:=gK h;refine⟨eK.symm,λX1 ai=>?_⟩;simp only[dO,lV,ai _ rfl,dx] at h'⊢;rw[h']
 case h_13=>
  rename_i s d _ x;have al:Fx P s d=true:=aC;split at h
  ·rename_i ae;cases h;exact⟨rfl,λX1 _=>by simp only[dO,ae]⟩
  ·rename_i ae
   have:af=X/\∀X1:ah,(∀k,Wr [x]=some k->X1.aV.get k=X.aV.get k)->jJ P s d x X1=some (y,X1):=by
    unfold Fx at al;split at al<;>try(cases al;done)
    rename_i e h1 h2;unfold jJ at h;simp only[h1,h2] at h;split at h
    ·rename_i he _;cases he
    ·rename_i _ he;cases he
    ·rename_i a c he _;cases he;cases aS:hN P e with
     |false=>simp[aS] at h
     |true=>
      simp only[aS,cond_true,Option.some.injEq,Prod.mk.injEq] at h;obtain⟨rfl,rfl⟩:=h;exact⟨rfl,λX1 _=>by simp only[jJ,h1,h2,aS,cond_true]⟩
    ·rename_i a he _;cases he;cases aS:hN P e with
     |false=>simp[aS] at h
     |true=>
      simp only[aS,cond_true,Option.some.injEq,Prod.mk.injEq] at h;obtain⟨rfl,rfl⟩:=h;exact⟨rfl,λX1 _=>by simp only[jJ,h1,h2,aS,cond_true]⟩
    ·rename_i k off n cap lo he _;cases he;cases aS:hN P e with
     |false=>simp[aS] at h
     |true=>
      simp only[aS,cond_true] at h;split at h<;>try(cases h;done)
      rename_i o aq;split at h<;>try(cases h;done)
      rename_i ys ft;split at h<;>try(cases h;done)
      rename_i lh tm;cases h;exact⟨rfl,λX1 ai=>by simp only[jJ,h1,h2,aS,cond_true,ai k rfl,aq,ft,tm]⟩
    ·cases h
   exact⟨this.1,λX1 ai=>by simp only[dO,ae];exact this.2 X1 ai⟩
 all_goals first
  |(simp[fb] at aC;done)
  |(cases h;done)
  |(obtain⟨h',eK⟩:=gK h
    refine⟨eK.symm,λX1 ai=>?_⟩
    simp only[dO,dx,aqp (λk e=>ai k (by rw[e];rfl)) h'])
theorem agG{callf:bL}{o:Oper}{F:ax J}{X:ah}(h:fb P o.op=true):kl P callf o F X=match looks X.aK F o.op.operands.toList with
 |none=>none
 |some bA=>dO P o.op bA X:=by
 unfold kl;cases looks X.aK F o.op.operands.toList with
 |none=>rfl
 |some bA=>
  simp only[];split
  ·rename_i ae;simp[ae,fb] at h
  ·rfl
theorem wW{callf:bL}{ops:List Oper}{o:Oper}{F:ax J}{X af:ah}{y:J}(aC:fb P o.op=true)(aq:X.cK=[])(h:jP P callf ops o F X=some (y,af)):
 af=X/\∀X1,X1.aK=X.aK->(∀k,addrOf ops o F X=some k->X1.aV.get k=X.aV.get k)->jP P callf ops o F X1=some (y,X1):=by
 unfold jP at h⊢;unfold addrOf;split at h
 ·rename_i c4 hw;obtain⟨rfl,uQ⟩:=BW aq hw;rw[agG aC] at h;split at h<;>try(cases h;done)
  rename_i bA aL;obtain⟨e,k8⟩:=azX aC h;refine⟨e,λX1 lN ai=>?_⟩;rw[uQ X1];simp only[];rw[agG aC,lN,aL];simp only[hw,aL] at ai;refine k8 X1 λk cP=>ai k ?_
  unfold Wr at cP;split at cP<;>first|exact cP|cases cP
 ·rename_i c4 hw;obtain⟨rfl,uQ⟩:=BW aq hw;cases h;exact⟨rfl,λX1 _ _=>by rw[uQ X1]⟩
 ·cases h
theorem xA{ops:Array Oper}{o:Oper}{F F':ax J}{X:ah}(h:∀t∈o.looksAt ops,F.get t=F'.get t):addrOf ops.toList o F X=addrOf ops.toList o F' X:=by
 obtain⟨hw,aL⟩:=Ra (X:=X) h;unfold addrOf;rw[hw];simp only[aL]
theorem vE{ops:List Oper}{o:Oper}{F:ax J}{X X1:ah}(aq:X.cK=[])(jf:X1.cK=[])(lN:X1.aK=X.aK):addrOf ops o F X1=addrOf ops o F X:=by
 unfold addrOf;cases hw:hp ops F X o.guard with
 |none=>
  cases ts:hp ops F X1 o.guard with
  |none=>rfl
  |some r=>obtain⟨b,c4⟩:=r;have:=(BW jf ts).2 X;rw[hw] at this;cases this
 |some r=>
  obtain⟨b,c4⟩:=r;obtain⟨rfl,uQ⟩:=BW aq hw;rw[uQ X1];cases b with
  |false=>rfl
  |true=>simp only[lN]
structure jo where
 pre:Nat->ah
 post:Nat->ah
 obj:Nat->Option Nat
def pj(P:Program)(callf:bL)(N:Nat)(ops:Array Oper)(S:jo)(i:Nat)(F:ax J)(X:ah)(F':ax J)(af:ah):Prop:=
 ∃o,ops[i]?=some o/\j9 P callf N ops.toList o F X=some (F',af)/\(nY P o.op=true->X=S.pre i/\af=S.post i)/\(fb P o.op=true->addrOf ops.toList o F X=S.obj i)
theorem ahc{X af:ah}(ai:dh X af){k:Nat}(h:nm X af k=true):af.aV.get k=X.aV.get k:=by
 unfold nm at h;cases ag:Nat.blt k X.next with
 |false=>rw[ag] at h;cases h
 |true=>
  rw[ag] at h;have ba:k<X.next:=by rw[Nat.blt_eq] at ag;exact ag
  simp only[cond_true,FD] at h;cases h1:X.aV.get k with
  |none=>simp[h1] at h
  |some o=>
   cases h2:af.aV.get k with
   |none=>simp[h1,h2] at h
   |some o'=>
    simp only[h1,h2] at h;rw[(ai.cn k o o' ba h1 h2).2 (Nat.eq_of_beq_eq_true h).symm]
theorem aBT{s d:TypeId}(h:Fg P s d=false):Fx P s d=false:=by
 unfold Fg at h;unfold Fx;cases al:P.underlying s with
 |none=>rfl
 |some t=>cases t<;>first|rfl|(simp[al] at h)
theorem Jy{op:Op}(h:mg P op=true):nY P op=false/\fb P op=false:=by
 have aI:fb P op=false:=by
  cases op<;>first
   |rfl
   |(simp[mg] at h;done)
   |(simp only[mg,Bool.not_eq_true'] at h;exact aBT h)
 exact⟨by simp[nY,h],aI⟩
theorem KX{op:Op}(h:fb P op=true):nY P op=false:=by simp[nY,h]
theorem aqn{callf:bL}{ops:Array Oper}{dT cf:Oper}{F:ax J}{X jH iW:ah}{jl jQ:J}(aL:aec dT.op cf.op=true)(aq:X.cK=[])
 (hi:jP P callf ops.toList dT F X=some (jl,jH))(aa:jP P callf ops.toList cf F jH=some (jQ,iW)):
 fb P dT.op=true/\nY P cf.op=true/\jP P callf ops.toList dT F iW=some (jl,iW):=by cases aL
theorem aBN{callf:bL}(ae:fM callf){N:Nat}{ops:Array Oper}{S:jo}{bU:List (Nat×List Nat)}{i j:Nat}{dT cf:Oper}{F jS xh:ax J}{X jH iW:ah}(nV:ops[i]?=some dT)(eQ:ops[j]?=some cf)
 (nO:dT.apart ops cf=true)(Du:CB P bU i j dT.op cf.op=true)(rY:nY P cf.op=true->mG (ig bU j) i=true->∀k,S.obj i=some k->nm (S.pre j) (S.post j) k=true)
 (aq:X.cK=[])(h1:pj P callf N ops S i F X jS jH)(h2:pj P callf N ops S j jS jH xh iW):
 ∃rn pn uc,pj P callf N ops S j F X rn pn/\pn.cK=[]/\pj P callf N ops S i rn pn uc iW/\hF xh uc:=by
 obtain⟨ark,DJ,h1,bX,dc⟩:=h1;obtain⟨arl,DK,h2,b2,du⟩:=h2;rw[nV] at DJ;cases DJ;rw[eQ] at DK;cases DK;obtain⟨ak,aD,a7⟩:=Oper.apart_spec nO;obtain⟨jl,j3,rfl⟩:=lk.1 h1;obtain⟨jQ,QA,rfl⟩:=lk.1 h2;have Ec:∀t∈cf.looksAt ops,F.get t=(put N F dT.dst jl).get t:=λt aN=>(pU t λe=>ak t e aN).symm
 have li:∀t∈dT.looksAt ops,F.get t=(put N F cf.dst jQ).get t:=λt aN=>(pU t λe=>a7 t e aN).symm
 have aa:jP P callf ops.toList cf F jH=some (jQ,iW):=by rw[<- QA];exact Le Ec
 have cF:∀X1 c4,jP P callf ops.toList dT F X1=some (jl,c4)->jP P callf ops.toList dT (put N F cf.dst jQ) X1=some (jl,c4):=λX1 c4 h=>by
  rw[<- h];exact(Le li).symm
 have oQ:∀X1,addrOf ops.toList cf F X1=addrOf ops.toList cf (put N F dT.dst jl) X1:=λX1=>xA Ec
 have pW:∀X1,addrOf ops.toList dT F X1=addrOf ops.toList dT (put N F cf.dst jQ) X1:=λX1=>xA li
 have c2:=put_comm (N:=N) (F:=F) (y:=jl) (z:=jQ) aD;have Jb:=u4 ae j3;have r3:=u4 ae aa;have Br:=Jb.cK aq;have tI:=r3.cK Br;simp only[CB,Bool.or_eq_true,Bool.and_eq_true] at Du;rcases Du with(((aC|aC)|⟨qA,DM⟩)|⟨⟨qA,jZ⟩,aO⟩)|aL
 ·obtain⟨rfl,k8⟩:=Lf aC aq j3;obtain⟨n3,uW⟩:=Jy aC
  exact⟨_,iW,_,⟨cf,eQ,lk.2 ⟨jQ,aa,rfl⟩,b2,λh=>by rw[oQ];exact du h⟩,tI,
   ⟨dT,nV,lk.2 ⟨jl,cF _ _ (k8 iW r3.aK),rfl⟩,λh=>(by rw[n3] at h;cases h),λh=>(by rw[uW] at h;cases h)⟩,c2⟩
 ·obtain⟨rfl,k8⟩:=Lf aC Br aa;obtain⟨n3,uW⟩:=Jy aC
  exact⟨_,X,_,⟨cf,eQ,lk.2 ⟨jQ,k8 X Jb.aK.symm,rfl⟩,λh=>(by rw[n3] at h;cases h),λh=>(by rw[uW] at h;cases h)⟩,aq,
   ⟨dT,nV,lk.2 ⟨jl,cF _ _ j3,rfl⟩,bX,λh=>by rw[<- pW];exact dc h⟩,c2⟩
 ·obtain⟨az,_⟩:=wW qA aq j3;subst az;obtain⟨aA,_⟩:=wW DM aq aa;subst aA
  exact⟨_,_,_,⟨cf,eQ,lk.2 ⟨jQ,aa,rfl⟩,b2,λh=>by rw[oQ];exact du h⟩,aq,
   ⟨dT,nV,lk.2 ⟨jl,cF _ _ j3,rfl⟩,bX,λh=>by rw[<- pW];exact dc h⟩,c2⟩
 ·obtain⟨az,k8⟩:=wW qA aq j3;subst az;have n3:=KX qA;obtain⟨bT,cm⟩:=b2 jZ
  refine⟨_,iW,_,⟨cf,eQ,lk.2 ⟨jQ,aa,rfl⟩,b2,λh=>by rw[oQ];exact du h⟩,tI,
   ⟨dT,nV,lk.2 ⟨jl,cF _ _ (k8 iW r3.aK λk ai=>?_),rfl⟩,λh=>(by rw[n3] at h;cases h),λh=>by rw[<- pW,vE aq tI r3.aK];exact dc h⟩,c2⟩
  have:=rY jZ aO k (by rw[<- dc qA];exact ai)
  rw[<- bT, <- cm] at this;exact ahc r3 this
 ·obtain⟨qA,jZ,Qi⟩:=aqn aL aq j3 aa;obtain⟨az,_⟩:=wW qA aq j3;subst az;have n3:=KX qA
  exact⟨_,iW,_,⟨cf,eQ,lk.2 ⟨jQ,aa,rfl⟩,b2,λh=>by rw[oQ];exact du h⟩,tI,
   ⟨dT,nV,lk.2 ⟨jl,cF _ _ Qi,rfl⟩,λh=>(by rw[n3] at h;cases h),λh=>by rw[<- pW,vE aq tI r3.aK];exact dc h⟩,c2⟩
end
section
variable{P:Program}{B:Nat}{aY w:World}{E:Env}{bh:List Deferred}
def rz(P:Program)(callf:bL)(N:Nat)(ops:Array Oper)(S:jo)(G:ax J->ah->Prop):Nat->Array Bool->ax J->ah->Prop
 |0,listed,F,X=>Region.ready .any ops listed=[]/\G F X
 |n+1,listed,F,X=>(Region.ready .any ops listed=[]->G F X)/\
  ∀i∈Region.ready .any ops listed,∃F' af,pj P callf N ops S i F X F' af/\rz P callf N ops S G n (listed.setIfInBounds i true) F' af
theorem Yi{callf:bL}{N:Nat}{ops:Array Oper}{S:jo}{G:ax J->ah->Prop}(jd:∀F F' X,hF F F'->G F X->G F' X):
 ∀(n:Nat) (listed:Array Bool) (F F':ax J) (X:ah),hF F F'->rz P callf N ops S G n listed F X->rz P callf N ops S G n listed F' X
 |0,_,_,_,_,he,h=>⟨h.1,jd _ _ _ he h.2⟩
 |n+1,listed,F,F',X,he,h=>⟨λaI=>jd _ _ _ he (h.1 aI),λi hi=>by
   obtain⟨aM,X1,⟨o,aq,h1,ag,aI⟩,h2⟩:=h.2 i hi;obtain⟨ud,h3,aW⟩:=aBG he h1
   exact⟨ud,X1,⟨o,aq,h3,ag,λh=>by rw[<- xA (λt _=>he t)];exact aI h⟩,Yi jd n _ _ _ _ aW h2⟩⟩
theorem Yl{callf:bL}{N:Nat}{ops:Array Oper}{S e8:jo}{G:ax J->ah->Prop}:
 ∀(n:Nat) (listed:Array Bool) (F:ax J) (X:ah),(∀i,listed.getD i true=false->e8.pre i=S.pre i/\e8.post i=S.post i/\e8.obj i=S.obj i)->rz P callf N ops S G n listed F X->rz P callf N ops e8 G n listed F X
 |0,_,_,_,_,h=>h
 |n+1,listed,F,X,al,h=>⟨h.1,λi hi=>by
   obtain⟨aM,X1,⟨o,aq,h1,ag,aI⟩,h2⟩:=h.2 i hi;obtain⟨az,aA,cj⟩:=al i (mem_ready.1 hi).1;refine⟨aM,X1,⟨o,aq,h1,λh=>by rw[az,aA];exact ag h,λh=>by rw[cj];exact aI h⟩,Yl n _ _ _ (λj aa=>al j ?_) h2⟩;by_cases e:i=j
   ·subst e;exact(mem_ready.1 hi).1
   ·rw[getD_set_ne true e] at aa;exact aa⟩
structure Inv (ops:Array Oper) (i:Nat) (kL:Array Bool) (r:List Bool) (listed:Array Bool):Prop where
 la:∀k,listed.getD k false=true->r.getD k false=true
 more:∀k,kL.getD k true=true->listed.getD k true=true
theorem ahy{bU:List (Nat×List Nat)}{ops:Array Oper}{kL:Array Bool}{i:Nat}{dT:Oper}{r:List Bool}(hi:ops[i]?=some dT)(h:Lc P bU ops kL i r=true){j:Nat}{cf:Oper}(aa:ops[j]?=some cf)(b4:j≠i):
 (r.getD j false=true/\(kL.getD j true=true\/(dT.apart ops cf=true/\CB P bU i j dT.op cf.op=true)))\/
 (r.getD j false=false/\kL.getD j true=false/\∃e∈cf.after,Region.binds .any e=true/\r.getD e.on false=false):=by
 unfold Lc at h;simp only[hi,List.all_eq_true,List.mem_range] at h;have ba:=(Array.getElem?_eq_some_iff.1 aa).1
 have:=h j ba
 simp only[aa] at this;have ag:(j==i)=false:=by simpa using b4
 simp only[ag,Bool.false_or] at this;cases aI:r.getD j false with
 |true=>
  simp only[aI,cond_true,Bool.or_eq_true,Bool.and_eq_true] at this;exact .inl ⟨rfl,this⟩
 |false=>
  simp only[aI,cond_false,Bool.and_eq_true,Bool.not_eq_true',Array.any_eq_true'] at this;obtain⟨h1,e,he,h2,h3⟩:=this;exact .inr ⟨rfl,h1,e,he,h2,h3⟩
theorem ajX{callf:bL}(ae:fM callf){N:Nat}{ops:Array Oper}{S:jo}{G:ax J->ah->Prop}(jd:∀F F' X,hF F F'->G F X->G F' X){i:Nat}{dT:Oper}(hi:ops[i]?=some dT)
 {kL:Array Bool}{r:List Bool}{bU:List (Nat×List Nat)}(dq:Lc P bU ops kL i r=true)
 (rY:∀j cf,ops[j]?=some cf->kL.getD j true=false->j≠i->nY P cf.op=true->mG (ig bU j) i=true->∀k,S.obj i=some k->nm (S.pre j) (S.post j) k=true):
 ∀(n:Nat) (listed:Array Bool) (F jS:ax J) (X jH:ah),Inv ops i kL r listed->i∈Region.ready .any ops listed->X.cK=[]->pj P callf N ops S i F X jS jH->
  rz P callf N ops S G n (listed.setIfInBounds i true) jS jH->rz P callf N ops S G (n+1) listed F X:=by
 intro n
 induction n with
 |zero=>
  intro listed F jS X jH _ aI _ al H;refine⟨λh=>(by rw[h] at aI;cases aI),λj aa=>?_⟩;by_cases k9:j=i
  ·subst k9;exact⟨jS,jH,al,H⟩
  ·have:=ready_mono aa k9
   rw[H.1] at this;cases this
 |succ n bc=>
  intro listed F jS X jH inv aI aq al H;refine⟨λh=>(by rw[h] at aI;cases aI),λj aa=>?_⟩;by_cases k9:j=i
  ·subst k9;exact⟨jS,jH,al,H⟩
  ·obtain⟨xh,iW,h1,h2⟩:=H.2 j (ready_mono aa k9);obtain⟨AK,cf,eQ,fP⟩:=mem_ready.1 aa
   have kH:kL.getD j true=false:=by
    cases h:kL.getD j true with
    |false=>rfl
    |true=>have:=inv.more j h;rw[AK] at this;cases this
   have PI:=ahy hi dq eQ k9
   have yb:r.getD j false=true/\dT.apart ops cf=true/\CB P bU i j dT.op cf.op=true:=by
    rcases PI with⟨h3,aW⟩|⟨_,_,e,he,ag,aO⟩
    ·rcases aW with aW|aW
     ·rw[kH] at aW;cases aW
     ·exact⟨h3,aW⟩
    ·have:=inv.la _ (fP e he ag);rw[aO] at this;cases this
   obtain⟨rn,pn,uc,k1,k2,hx,n1⟩:=aBN ae hi eQ yb.2.1 yb.2.2 (rY j cf eQ kH k9) aq al h1;refine⟨rn,pn,k1,?_⟩;refine bc (listed.setIfInBounds j true) rn uc pn iW ⟨λk ai=>?_,λk ai=>?_⟩ (ready_mono aI (Ne.symm k9)) k2 hx ?_
   ·by_cases e:j=k
    ·subst e;exact yb.1
    ·rw[getD_set_ne false e] at ai;exact inv.la k ai
   ·by_cases e:j=k
    ·subst e;have:=inv.more j ai;rw[AK] at this;cases this
    ·rw[getD_set_ne true e];exact inv.more k ai
   ·rw[Array.setIfInBounds_comm _ _ k9];exact Yi jd n _ _ _ _ n1 h2
theorem getD_set_true{l:Array Bool}{k j:Nat}(h:(l.setIfInBounds k true).getD j true=false):l.getD j true=false/\j≠k:=by
 by_cases e:k=j
 ·subst e
  exfalso
  rcases Nat.lt_or_ge k l.size with h'|h'
  ·simp[h'] at h
  ·simp at h
 ·rw[getD_set_ne true e] at h;exact⟨h,λbg=>e bg.symm⟩
theorem Jh{bU:List (Nat×List Nat)}{ops:Array Oper}:∀(bO:List Nat) (listed:Array Bool),yT P bU ops bO listed=true->(∀j∈bO,listed.getD j true=false)/\∀j,listed.getD j true=false->j∈bO
 | [],listed,h=>by
   refine⟨λj aa=>(by cases aa),λj aa=>?_⟩;simp only[yT,Array.all_eq_true_iff_forall_mem] at h;rcases Nat.lt_or_ge j listed.size with h'|h'
   ·have:=h listed[j] (Array.getElem_mem h')
    simp only[id] at this;simp[h',this] at aa
   ·simp[Array.getElem?_eq_none h'] at aa
 |k::bO,listed,h=>by
  simp only[yT,Bool.and_eq_true] at h;obtain⟨⟨⟨aI,mM⟩,dv⟩,kI⟩:=h;have lO:k∈Region.ready .any ops listed:=by simpa using aI
  have ai:=(mem_ready.1 lO).1;obtain⟨i1,i2⟩:=Jh bO _ kI;refine⟨λj aa=>?_,λj aa=>?_⟩
  ·rcases List.mem_cons.1 aa with rfl|aa
   ·exact ai
   ·exact(getD_set_true (i1 j aa)).1
  ·by_cases e:j=k
   ·subst e;exact List.mem_cons_self ..
   ·refine List.mem_cons_of_mem _ (i2 j ?_);rw[getD_set_ne true (λbg=>e bg.symm)];exact aa
theorem Nj{bK:List (Nat×Option Nat)}{X af:ah}:∀{ls:List Nat},ki bK X af ls=true->∀l,mG ls l=true->∀k,l7 bK l=some k->nm X af k=true
 | [],_,l,aL,_,_=>by simp[mG] at aL
 |dD::ls,h,l,aL,k,ai=>by
  simp only[ki,Bool.and_eq_true] at h;simp only[mG,Bool.or_eq_true] at aL;rcases aL with aL|aL
  ·have e:=Nat.eq_of_beq_eq_true aL;subst e
   have:=h.1
   rw[ai] at this;exact this
  ·exact Nj h.2 l aL k ai
def jo.set(S:jo)(k:Nat)(X af:ah)(a:Option Nat):jo:=
 {pre:=λj=>if j=k then X else S.pre j,post:=λj=>if j=k then af else S.post j,obj:=λj=>if j=k then a else S.obj j}
theorem Yj{callf:bL}(ae:fM callf){N:Nat}{ops:Array Oper}{bU:List (Nat×List Nat)}{F':ax J}{af:ah}:∀(bO:List Nat) (bK:List (Nat×Option Nat)) (listed:Array Bool) (F:ax J) (X:ah),listed.size=ops.size->X.cK=[]->
 yT P bU ops bO listed=true->iG P callf N ops.toList bU bO bK F X=some (F',af)->∃S:jo,rz P callf N ops S (λaM X1=>hF F' aM/\X1=af) bO.length listed F X/\
  ∀i,i ∉ bO->∀k,l7 bK i=some k->∀j cf,j∈bO->ops[j]?=some cf->nY P cf.op=true->mG (ig bU j) i=true->nm (S.pre j) (S.post j) k=true
 | [],bK,listed,F,X,_,_,aL,h=>by
   simp only[iG,Option.some.injEq,Prod.mk.injEq] at h;obtain⟨rfl,rfl⟩:=h;refine⟨⟨λ_=>X,λ_=>X,λ_=>none⟩,⟨?_,hF.refl _,rfl⟩,λi _ k _ j cf aa=>by cases aa⟩
   have:=(Jh [] listed aL).2
   cases aI:Region.ready .any ops listed with
   |nil=>rfl
   |cons a eW=>
    have b1:a∈Region.ready .any ops listed:=by rw[aI];exact List.mem_cons_self ..
    have:=this a (mem_ready.1 b1).1
    cases this
 |k::bO,bK,listed,F,X,dR,aq,aL,h=>by
  obtain⟨DU,PN⟩:=Jh (k::bO) listed aL;simp only[iG] at h;split at h<;>try(cases h;done)
  rename_i o dq;split at h<;>try(cases h;done)
  rename_i aM X1 al;cases j0:ki bK X X1 (ig bU k) with
  |false=>rw[j0] at h;cases h
  |true=>
   rw[j0] at h;simp only[cond_true] at h;simp only[yT,Bool.and_eq_true] at aL;obtain⟨⟨⟨aI,mM⟩,dv⟩,kI⟩:=aL;have ai:ops[k]?=some o:=by simpa using dq
   have lO:k∈Region.ready .any ops listed:=by simpa using aI
   have jf:X1.cK=[]:=(WN ae al).cK aq;obtain⟨ug,pF,DN⟩:=Yj ae bO _ _ aM X1 (by simpa using dR) jf kI h;obtain⟨Qr,aEZ⟩:=Jh bO _ kI;have DA:k ∉ bO:=λuK=>(getD_set_true (Qr k uK)).2 rfl
   have b4:∀j,j∈bO->j≠k:=λj aa e=>DA (e▸aa)
   let S:jo:=ug.set k X X1 (bif fb P o.op then addrOf ops.toList o F X else none)
   have ea:∀j,j≠k->S.pre j=ug.pre j/\S.post j=ug.post j/\S.obj j=ug.obj j:=λj aa=>⟨if_neg aa,if_neg aa,if_neg aa⟩
   have pE:S.pre k=X/\S.post k=X1/\S.obj k=(bif fb P o.op then addrOf ops.toList o F X else none):=⟨if_pos rfl,if_pos rfl,if_pos rfl⟩;refine⟨S,?_,?_⟩
   ·have PF:rz P callf N ops S (λaM X1=>hF F' aM/\X1=af) bO.length (listed.setIfInBounds k true) aM X1:=Yl bO.length _ _ _ (λj aa=>ea j (getD_set_true aa).2) pF;refine ajX ae (λF aM X he bd=>⟨bd.1.trans he,bd.2⟩) ai dv ?_ bO.length listed F aM X X1 ⟨λj aa=>?_,λj aa=>aa⟩ lO aq ⟨o,ai,al,λ_=>⟨pE.1.symm,pE.2.1.symm⟩,λpJ=>by rw[pE.2.2,pJ];rfl⟩ PF
    ·intro j cf eQ kH h9 ag aO b5 cP;rw[pE.2.2] at cP
     have P4:j∈bO:=by
      rcases List.mem_cons.1 (PN j kH) with e|e
      ·exact absurd e h9
      ·exact e
     obtain⟨az,aA,_⟩:=ea j h9;rw[az,aA];cases pJ:fb P o.op with
     |true=>
      rw[pJ] at cP;simp only[cond_true] at cP;refine DN k DA b5 ?_ j cf P4 eQ ag aO;simp only[pJ,cond_true,l7];rw[cP]
      have:Nat.beq k k=true:=by simp
      rw[this];rfl
     |false=>rw[pJ] at cP;cases cP
    ·by_cases h9:j=k
     ·subst h9;have DV:=DU j (List.mem_cons_self ..);rcases Nat.lt_or_ge j listed.size with h'|h'
      ·simp[h'] at DV aa;rw[DV] at aa;cases aa
      ·simp[Array.getElem?_eq_none h'] at aa
     ·cases eQ:ops[j]? with
      |none=>
       exfalso
       rcases Nat.lt_or_ge j listed.size with h'|h'
       ·rw[dR] at h';rw[Array.getElem?_eq_none_iff] at eQ;omega
       ·simp[Array.getElem?_eq_none h'] at aa
      |some cf=>
       rcases ahy ai dv eQ h9 with⟨h1,_⟩|⟨_,h1,_⟩
       ·exact h1
       ·rcases Nat.lt_or_ge j listed.size with h'|h'
        ·simp[h'] at h1 aa;rw[h1] at aa;cases aa
        ·simp[Array.getElem?_eq_none h'] at aa
   ·intro i hi b5 cP j cf aa eQ ag aO;have P1:i≠k:=λe=>hi (by rw[e];exact List.mem_cons_self ..)
    rcases List.mem_cons.1 aa with rfl|aa
    ·rw[pE.1,pE.2.1];exact Nj j0 i aO b5 cP
    ·obtain⟨az,aA,_⟩:=ea j (b4 j aa);rw[az,aA];refine DN i (λh=>hi (List.mem_cons_of_mem _ h)) b5 ?_ j cf aa eQ ag aO;cases fb P o.op with
     |true=>
      simp only[cond_true,l7]
      have:Nat.beq k i=false:=by
       cases h:Nat.beq k i with
       |false=>rfl
       |true=>exact absurd (Nat.eq_of_beq_eq_true h).symm P1
      rw[this];exact cP
     |false=>exact cP
theorem Yk{callf:bL}(cI:jD P callf){N:Nat}{ops:Array Oper}{S:jo}{G:ax J->ah->Prop}(jd:∀F X,G F X->cG X):∀(n:Nat) (listed:Array Bool) (F:ax J) (X:ah),rz P callf N ops S G n listed F X->cG X
 |0,_,_,_,h=>jd _ _ h.2
 |n+1,listed,F,X,h=>by
  cases aI:Region.ready .any ops listed with
  |nil=>exact jd _ _ (h.1 aI)
  |cons i is=>
   obtain⟨aM,X1,⟨o,_,h1,_⟩,h2⟩:=h.2 i (by rw[aI];exact List.mem_cons_self ..);exact WT cI h1 (Yk cI jd n _ _ _ h2)
theorem ain{callf:bL}(cI:jD P callf){N:Nat}{ops:Array Oper}{S:jo}(j2:∀o∈ops,pQ o.op=true){G:ax J->ah->Prop}(jd:∀F X,G F X->cG X)(ro:Option Nat)
 {Q:Exit->Act->World->Prop}:∀(n:Nat) (listed:Array Bool) (F:ax J) (X:ah) (E:Env) (a:Act) (w:World),rz P callf N ops S G n listed F X->bP P B aY X E w->e7 bh N E F a->
   (∀aM X1 aQ a' w',G aM X1->cM E aQ->e7 bh N aQ aM a'->bP P B aY X1 aQ w'->Q .normal a' w')->wpAnyIn (fH ro) 0 P .any ops Q n listed a w
 |0,_,F,X,E,a,w,h,aB,aT,cB=>⟨h.1,cB F X E a w h.2 (cM.refl _) aT aB⟩
 |n+1,listed,F,X,E,a,w,h,aB,aT,cB=>by
  refine⟨λaI=>cB F X E a w (h.1 aI) (cM.refl _) aT aB,λi hi=>?_⟩;obtain⟨aM,X1,⟨o,aq,h1,_⟩,h2⟩:=h.2 i hi;unfold wpOpIn;simp only[aq]
  exact ahE cI aB aT (j2 o (Array.mem_of_getElem? aq)) h1 (Yk cI jd n _ _ _ h2) ro (λaQ a' w' ak aD a7=>
   ain cI j2 jd ro n _ aM X1 aQ a' w' h2 a7 aD (λbD c4 nv uj u6 bX b2=>cB bD c4 nv uj u6 bX (ak.trans b2)))
theorem Nr{callf:bL}(ae:fM callf){N:Nat}{ops:List Oper}{bU:List (Nat×List Nat)}:∀{bO:List Nat} {bK:List (Nat×Option Nat)} {F F':ax J} {X af:ah},iG P callf N ops bU bO bK F X=some (F',af)->dh X af
 | [],_,_,_,_,_,h=>by simp only[iG,Option.some.injEq,Prod.mk.injEq] at h;obtain⟨rfl,rfl⟩:=h;exact dh.refl _
 |k::bO,bK,F,F',X,af,h=>by
  simp only[iG] at h;split at h<;>try(cases h;done)
  split at h<;>try(cases h;done)
  rename_i aM X1 al;generalize ki bK X X1 (ig bU k)=b at h;cases b with
  |false=>cases h
  |true=>exact(WN ae al).trans (Nr ae h)
theorem Zo{callf:bL}(cI:jD P callf){N:Nat}{ops:List Oper}{bU:List (Nat×List Nat)}:∀{bO:List Nat} {bK:List (Nat×Option Nat)} {F F':ax J} {X af:ah},iG P callf N ops bU bO bK F X=some (F',af)->cG af->cG X
 | [],_,_,_,_,_,h,aC=>by simp only[iG,Option.some.injEq,Prod.mk.injEq] at h;obtain⟨rfl,rfl⟩:=h;exact aC
 |k::bO,bK,F,F',X,af,h,aC=>by
  simp only[iG] at h;split at h<;>try(cases h;done)
  split at h<;>try(cases h;done)
  rename_i aM X1 al;generalize ki bK X X1 (ig bU k)=b at h;cases b with
  |false=>cases h
  |true=>exact WT cI al (Zo cI h aC)
end
def ah.add(X:ah)(m:Nat)(ob:bH):ah:={X with aV:=X.aV.put m ob}
structure c3 (X:ah) (m:Nat):Prop where
 dead:X.aV.get m=none
 lt:m<X.next
theorem c3.keeps{X af:ah}{m:Nat}(h:c3 X m)(k:dh X af):c3 af m:=⟨k.dead m h.lt h.dead,Nat.lt_of_lt_of_le h.lt k.next⟩
section
variable{P:Program}{X af:ah}{m:Nat}{ob:bH}
theorem add_get(h:c3 X m){k:Nat}{o:bH}(ai:X.aV.get k=some o):(X.add m ob).aV.get k=some o/\k≠m:=by
 have b4:k≠m:=λe=>by rw[e,h.dead] at ai;cases ai
 refine⟨?_,b4⟩;show(X.aV.put m ob).get k=some o;rw[cE.kG,if_neg b4];exact ai
theorem z1(h:c3 X m)(o:bH):((X.add m ob).new o)=((X.new o).1,((X.new o).2).add m ob):=by
 unfold ah.new ah.add;simp only[Prod.mk.injEq,true_and];rw[cE.put_comm _ _ _ (by have:=h.lt;omega)]
theorem MU(h:c3 X m)(ty:TypeId)(cells:List J):newRow (X.add m ob) ty cells=((newRow X ty cells).1,(newRow X ty cells).2.add m ob):=by
 unfold newRow;simp only[force_eq];exact z1 h _
theorem ajH(h:c3 X m)(ty:TypeId)(n:Nat)(cells:List J):mQ (X.add m ob) ty n cells=((mQ X ty n cells).1,(mQ X ty n cells).2.add m ob):=by
 unfold mQ;simp only[force_eq];exact z1 h _
theorem X9(h:c3 X m)(ty esz:Nat)(cells:List J):mP (X.add m ob) ty esz cells=((mP X ty esz cells).1,(mP X ty esz cells).2.add m ob):=by
 unfold mP;simp only[force_eq];exact z1 h _
theorem z2(h:c3 X m){k:Nat}{o o':bH}(ai:X.aV.get k=some o):({X.add m ob with aV:=(X.add m ob).aV.put k o'}:ah)=({X with aV:=X.aV.put k o'}:ah).add m ob:=by
 obtain⟨_,b4⟩:=add_get (ob:=ob) h ai;unfold ah.add;simp only[ah.mk.injEq,true_and,and_true];exact cE.put_comm _ _ _ (λe=>b4 e.symm)
theorem xC{y:J}{b:Bool}(h:fZ X y=some (b,af)):fZ (X.add m ob) y=some (b,af.add m ob):=by
 cases y with
 |bool c=>simp only[fZ,Option.some.injEq,Prod.mk.injEq] at h⊢;obtain⟨rfl,rfl⟩:=h;exact⟨rfl,rfl⟩
 |val x=>
  cases x with
  |bool s=>
   simp only[fZ,ah.ask] at h;split at h
   ·rename_i o os aq;cases h
    have:(X.add m ob).cK=_::os:=aq
    simp only[fZ,ah.ask,this];rfl
   ·cases h
  |_=>simp[fZ] at h
 |_=>simp[fZ] at h
theorem Ly{o:Option J}{y:J}(h:dx X o=some (y,af)):dx (X.add m ob) o=some (y,af.add m ob):=by
 obtain⟨rfl,rfl⟩:=gK h;rfl
theorem aed(an:c3 X m){t:TypeId}{k off:Nat}{y:J}(h:lV P t X k off=some y):lV P t (X.add m ob) k off=some y:=by
 unfold lV at h⊢;cases ai:X.aV.get k with
 |none=>simp[ai] at h
 |some o=>rw[ai] at h;rw[(add_get an ai).1];exact h
theorem ZI(an:c3 X m){sz n:Nat}{x:J}{ys:List J}(h:kY X sz x=some (n,ys)):kY (X.add m ob) sz x=some (n,ys):=by
 unfold kY at h⊢;split at h
 ·split at h<;>try(cases h;done)
  rename_i o aq;simp only[(add_get an aq).1];exact h
 ·exact h
 ·exact h
 ·exact h
 ·cases h
theorem aBP(an:c3 X m){t:TypeId}{k off:Nat}{y:J}(h:n7 P t X k off y=some af):n7 P t (X.add m ob) k off y=some (af.add m ob):=by
 unfold n7 at h⊢;split at h<;>try(cases h;done)
 rename_i o n aq aO;simp only[(add_get an aq).1,aO];generalize(Nat.beq _ _&&_&&_&&_)=b at h⊢;cases b<;>simp only[cond_true,cond_false,Option.some.injEq,reduceCtorEq] at h⊢
 subst h;exact z2 an aq
theorem Yv(an:c3 X m){e sz b ep:Nat}{cells:List J}{y:J}(h:nC e sz b ep cells X=some (y,af)):nC e sz b ep cells (X.add m ob)=some (y,af.add m ob):=by
 unfold nC at h⊢;generalize(Nat.ble _ _&&_)=c at h⊢;cases c<;>simp only[cond_true,cond_false,Option.some.injEq,Prod.mk.injEq,reduceCtorEq] at h⊢
 obtain⟨rfl,rfl⟩:=h;rw[X9 an];exact⟨rfl,rfl⟩
theorem Ys(an:c3 X m){k off len lo ep sz:Nat}{cap:Option Nat}{o:bH}{e6:List J}{y:J}(aq:X.aV.get k=some o)(h:pq k off len cap lo ep sz o e6 X=some (y,af)):
 pq k off len cap lo ep sz o e6 (X.add m ob)=some (y,af.add m ob):=by
 unfold pq at h⊢;generalize(Nat.ble _ _&&_)=c at h⊢;cases c<;>simp only[cond_true,cond_false,Option.some.injEq,Prod.mk.injEq,reduceCtorEq] at h⊢
 obtain⟨rfl,rfl⟩:=h;exact⟨rfl,z2 an aq⟩
theorem aj0(an:c3 X m){k len ep sz b:Nat}{o:bH}{e6:List J}{y:J}(aq:X.aV.get k=some o)(h:rB k len ep sz b o e6 X=some (y,af)):
 rB k len ep sz b o e6 (X.add m ob)=some (y,af.add m ob):=by
 unfold rB at h⊢;generalize(Nat.ble _ _&&(_&&_))=c at h⊢;cases c<;>simp only[cond_true,cond_false,force_eq,Option.some.injEq,Prod.mk.injEq,reduceCtorEq] at h⊢
 obtain⟨rfl,rfl⟩:=h;refine⟨rfl,?_⟩;obtain⟨_,b4⟩:=add_get (ob:=ob) an aq;have ba:=an.lt;unfold ah.add;simp only[ah.mk.injEq,true_and,and_true];rw[<- cE.al1 _ _ b4,cE.put_comm _ _ _ (by omega)]
theorem Yz(an:c3 X m){e sz b k off len lo n:Nat}{cap:Option Nat}{news:List J}{y:J}(h:lA e sz b k off len cap lo n news X=some (y,af)):lA e sz b k off len cap lo n news (X.add m ob)=some (y,af.add m ob):=by
 unfold lA at h⊢;split at h<;>try(cases h;done)
 rename_i o aq;simp only[(add_get an aq).1];rw[force_eq] at h⊢;split at h
 ·try simp only[]
  generalize Nat.ble _ _=bX at h⊢;cases bX<;>simp only[cond_true,cond_false] at h⊢
  ·split at h<;>try(cases h;done)
   exact Yv an h
  ·exact Ys an aq h
 ·try simp only[]
  generalize(Nat.beq _ _&&(_&&(_&&(_&&(_&&_)))))=bX at h⊢;cases bX<;>simp only[cond_true,cond_false,reduceCtorEq] at h⊢
  generalize Nat.ble _ _=b2 at h⊢;cases b2<;>simp only[cond_true,cond_false] at h⊢
  ·exact aj0 an aq h
  ·exact Ys an aq h
theorem akf(an:c3 X m){t:TypeId}{s x y:J}(h:oU P t s x X=some (y,af)):oU P t s x (X.add m ob)=some (y,af.add m ob):=by
 unfold oU at h⊢;split at h<;>try(cases h;done)
 rename_i e aN;split at h<;>try(cases h;done)
 rename_i sz z b al a1 ag;split at h<;>try(cases h;done)
 rename_i n e6 na;simp only[ZI an na];generalize(Nat.ble _ _&&(_&&(_&&_)))=c at h⊢;cases c<;>simp only[cond_true,cond_false,reduceCtorEq] at h⊢
 split at h
 ·rename_i a c
  try simp only[]
  generalize(Nat.beq a 0&&_)=bX at h⊢;cases bX<;>simp only[cond_true,cond_false,reduceCtorEq] at h⊢
  generalize Nat.beq _ 0=b2 at h⊢;cases b2<;>simp only[cond_true,cond_false] at h⊢
  ·exact Yv an h
  ·cases h;rfl
 ·try simp only[]
  exact Yz an h
 ·generalize Nat.beq _ 0=bX at h⊢;cases bX<;>simp only[cond_true,cond_false,reduceCtorEq] at h⊢
  cases h;rfl
 ·cases h
theorem akc(an:c3 X m){t:TypeId}{s x y:J}(h:pY P t s x X=some (y,af)):pY P t s x (X.add m ob)=some (y,af.add m ob):=by
 unfold pY at h⊢;split at h<;>try(cases h;done)
 rename_i hu
 try simp only[hu]
 split at h<;>try(cases h;done)
 rename_i h1 h2 h3
 try simp only[h1,h2,h3]
 split at h<;>try(cases h;done)
 rename_i ae
 try simp only[ae]
 generalize(Nat.beq _ _&&(_&&(_&&_)))=c at h⊢;cases c<;>simp only[cond_true,cond_false,reduceCtorEq] at h⊢
 split at h<;>try(cases h;done)
 exact Yz an h
theorem alJ(an:c3 X m){t:TypeId}{s x y:J}(h:q6 P t s x X=some (y,af)):q6 P t s x (X.add m ob)=some (y,af.add m ob):=by
 unfold q6 at h⊢;split at h<;>try(cases h;done)
 rename_i e aN;split at h<;>try(cases h;done)
 rename_i sz al;split at h<;>try(cases h;done)
 rename_i n e6 na;simp only[ZI an na];generalize(Nat.beq _ _&&_)=c at h⊢;cases c<;>simp only[cond_true,cond_false,reduceCtorEq] at h⊢
 split at h
 ·try simp only[]
  generalize Nat.beq _ _=bX at h⊢;cases bX<;>simp only[cond_true,cond_false,reduceCtorEq] at h⊢
  cases h;rfl
 ·try simp only[]
  split at h<;>try(cases h;done)
  rename_i o aq;simp only[(add_get an aq).1];rw[force_eq] at h⊢;generalize(Nat.ble _ _&&_)=bX at h⊢;cases bX<;>simp only[cond_true,cond_false,Option.some.injEq,Prod.mk.injEq,reduceCtorEq] at h⊢
  obtain⟨rfl,rfl⟩:=h;exact⟨rfl,z2 an aq⟩
 ·cases h
theorem YO(an:c3 X m){b:Builtin}{c9:Array TypeId}{bA:List J}{y:J}(h:iD P b c9 bA X=some (y,af)):iD P b c9 bA (X.add m ob)=some (y,af.add m ob):=by
 unfold iD at h⊢;split at h
 ·split at h<;>try(cases h;done)
  rename_i aN;exact Ly h
 ·split at h<;>try(cases h;done)
  rename_i aN;exact Ly h
 ·exact Ly h
 ·exact Ly h
 ·split at h<;>try(cases h;done)
  rename_i aN hu;split at h<;>try(cases h;done)
  rename_i aH;generalize se _=bX at h⊢;cases bX<;>simp only[cond_true,cond_false,reduceCtorEq] at h⊢
  ·generalize vi _=b2 at h⊢;cases b2<;>simp only[cond_true,cond_false,reduceCtorEq] at h⊢
   exact akc an h
  ·exact akf an h
 ·split at h<;>try(cases h;done)
  rename_i aN;exact alJ an h
 ·cases h
theorem alE(an:c3 X m){s d:TypeId}{x y:J}(h:jJ P s d x X=some (y,af)):jJ P s d x (X.add m ob)=some (y,af.add m ob):=by
 unfold jJ at h⊢;split at h
 ·generalize(hN P _&&_)=b at h⊢;cases b<;>simp only[cond_true,cond_false,Option.some.injEq,Prod.mk.injEq,reduceCtorEq] at h⊢
  obtain⟨rfl,rfl⟩:=h;rw[X9 an];exact⟨rfl,rfl⟩
 ·generalize(hN P _&&_)=b at h⊢;cases b<;>simp only[cond_true,cond_false,reduceCtorEq] at h⊢
  split at h<;>try(cases h;done)
  rename_i o aq;simp only[(add_get an aq).1];cases aI:o.ro<;>simp only[aI,cond_true,cond_false,reduceCtorEq] at h⊢
  cases h;rfl
 ·generalize hN P _=b at h⊢;cases b<;>simp only[cond_true,cond_false,reduceCtorEq] at h⊢
  cases h;rfl
 ·generalize hN P _=b at h⊢;cases b<;>simp only[cond_true,cond_false,reduceCtorEq] at h⊢
  cases h;rfl
 ·generalize hN P _=b at h⊢;cases b<;>simp only[cond_true,cond_false,reduceCtorEq] at h⊢
  split at h<;>try(cases h;done)
  rename_i o aq;split at h<;>try(cases h;done)
  rename_i ys ft;split at h<;>try(cases h;done)
  rename_i lh tm;simp only[(add_get an aq).1,ft,tm];cases h;rfl
 ·cases h
theorem azM(an:c3 X m){t:TypeId}{x y:J}(h:zr P t x X=some (y,af)):zr P t x (X.add m ob)=some (y,af.add m ob):=by cases h
theorem aqY(an:c3 X m){k:Nat}{y:J}(h:wS k X=some (y,af)):wS k (X.add m ob)=some (y,af.add m ob):=by cases h
def kT(callf:bL):Prop:=∀f args X y af m ob,callf f args X=some (y,af)->c3 X m->callf f args (X.add m ob)=some (y,af.add m ob)
theorem aqR(an:c3 X m):tE (X.add m ob)=((tE X).1,(tE X).2.add m ob):=z1 an _
theorem aqo(an:c3 X m){t:TypeId}{a k z:J}{ok:Bool}(h:zq P t a k ok X=some z):zq P t a k ok (X.add m ob)=some z:=by cases h
theorem aDe(an:c3 X m){t:TypeId}{a k v:J}(h:wT P t a k v X=some af):wT P t a k v (X.add m ob)=some (af.add m ob):=by cases h
theorem amt(an:c3 X m){t:TypeId}{a k z:J}(h:zn P t a k X=some (z,af)):zn P t a k (X.add m ob)=some (z,af.add m ob):=by cases h
theorem amr(an:c3 X m){a b v:J}(h:wR a b v X=some af):wR a b v (X.add m ob)=some (af.add m ob):=by cases h
theorem YV(an:c3 X m){c:Call}{bA:List J}{r:xd×List J}(h:pv P c bA X=some r):pv P c bA (X.add m ob)=some r:=by
 unfold pv at h⊢;split at h
 ·exact h
 ·split at h<;>try(cases h;done)
 ·cases h
theorem WG(an:c3 X m){op:Op}{bA:List J}{y:J}(h:dO P op bA X=some (y,af)):dO P op bA (X.add m ob)=some (y,af.add m ob):=by
 unfold dO at h;split at h
 case h_3=>
  unfold tT at h;split at h
  ·rename_i ag;cases h;simp only[dO,tT,xC (m:=m) (ob:=ob) ag]
  ·rename_i ag;cases h;simp only[dO,tT,xC (m:=m) (ob:=ob) ag]
  ·cases h
 case h_4=>
  unfold pX at h;split at h<;>cases h
  rename_i z a1;simp only[dO,pX,a1,MU an]
 case h_5=>
  unfold pZ at h;rename_i x;cases ar:x.flat<;>simp only[ar,cond_false,cond_true] at h<;>cases h
  simp only[dO,pZ,ar,cond_true,MU an]
 case h_7=>
  unfold oV at h;split at h<;>try(cases h;done)
  rename_i e hu;split at h<;>try(cases h;done)
  rename_i s z al a1;generalize ae:(Nat.ble _ _&&Nat.ble 1 s&&_)=b at h;cases b<;>simp only[cond_true,cond_false] at h
  ·cases h
  ·split at h<;>cases h
   rename_i cs eA;simp only[dO,oV,hu,al,a1,ae,cond_true,eA,MU an]
 case h_8=>
  obtain⟨h',rfl⟩:=gK h;simp only[dO,aed an h',dx]
 case h_9=>
  split at h<;>cases h
  rename_i X1 al;simp only[dO,aBP an al]
 case h_13=>
  split at h
  ·rename_i ae;cases h;simp only[dO,ae]
  ·rename_i ae;simp only[dO,ae];exact alE an h
 case h_16=>
  unfold p0 at h;split at h<;>try(cases h;done)
  rename_i e hu;split at h<;>try(cases h;done)
  rename_i l c aL ga;split at h<;>try(cases h;done)
  rename_i s z b al a1 ag;generalize ae:(Nat.ble _ _&&_&&_&&_&&_)=b at h;cases b<;>simp only[cond_true,cond_false] at h<;>cases h
  simp only[dO,p0,hu,aL,ga,al,a1,ag,ae,cond_true,ajH an]
 all_goals first
  |(cases h;rfl)
  |(obtain⟨h',rfl⟩:=gK h;simp only[dO,dx,h'];done)
  |(obtain⟨h',rfl⟩:=gK h;simp only[dO,aqo an h',dx];done)
  |(cases h;simp only[dO,aqR an];done)
  |(split at h<;>cases h;rename_i hu;simp only[dO,aDe an hu];done)
  |(simp only[dO,amt an h];done)
  |(split at h<;>cases h;rename_i hu;simp only[dO,amr an hu];done)
  |(cases h;done)
  |(simp only[dO];exact azM an h)
  |(simp only[dO];exact aqY an h)
theorem amF{callf:bL}(c2:kT callf)(an:c3 X m){o:Oper}{F:ax J}{y:J}(h:kl P callf o F X=some (y,af)):kl P callf o F (X.add m ob)=some (y,af.add m ob):=by
 unfold kl at h⊢;split at h<;>try(cases h;done)
 rename_i bA aL;have yp:looks (X.add m ob).aK F o.op.operands.toList=some bA:=aL;simp only[yp];split at h
 ·unfold xM at h⊢;split at h
  ·exact YO an h
  ·split at h<;>try(cases h;done)
   rename_i hW;rw[YV an hW];unfold Aa at h⊢;split at h<;>try(cases h;done)
   rename_i a1;cases h;simp only[c2 _ _ _ _ _ _ _ a1 an]
 ·exact WG an h
theorem Z0{callf:bL}(c2:kT callf)(an:c3 X m){o:Oper}{F:ax J}{y:Out}(h:jW P callf o F X=some (y,af)):jW P callf o F (X.add m ob)=some (y,af.add m ob):=by
 have ae2:∀{bA:List J},kO bA X=some (y,af)->kO bA (X.add m ob)=some (y,af.add m ob):=by
  intro bA h;unfold kO at h⊢;split at h<;>cases h
  rfl
 have Ff:∀{r:Option (J×ah)},gA r=some (y,af)->∃z,y= .ret z/\r=some (z,af):=by
  intro r aI;unfold gA at aI;split at aI<;>cases aI
  exact⟨_,rfl,rfl⟩
 unfold jW at h⊢;split at h<;>try(cases h;done)
 rename_i bA aL;have yp:looks (X.add m ob).aK F o.op.operands.toList=some bA:=aL;simp only[yp];split at h
 ·split at h
  ·rename_i b _;cases ag:pL b with
   |true=>rw[ag] at h;exact ae2 h
   |false=>
    rw[ag] at h;obtain⟨z,rfl,h3⟩:=Ff h;simp only[cond_false,YO an h3,gA]
  ·split at h<;>try(cases h;done)
   rename_i hW;rw[YV an hW];exact c2 _ _ _ _ _ _ _ h an
 ·exact ae2 h
 ·obtain⟨z,rfl,h3⟩:=Ff h;simp only[WG an h3,gA]
theorem FF{ops:List Oper}{F:ax J}{g:Option (Nat×Bool)}{b:Bool}(h:hp ops F X g=some (b,af)):hp ops F (X.add m ob) g=some (b,af.add m ob):=by
 unfold hp at h⊢;split at h
 ·cases h;rfl
 ·split at h<;>try(cases h;done)
  split at h<;>try(cases h;done)
  split at h<;>try(cases h;done)
  rename_i y _;unfold lB at h;cases aN:tv y with
  |true=>
   simp only[aN,cond_true,Option.some.injEq,Prod.mk.injEq] at h;obtain⟨rfl,rfl⟩:=h;simp[*,lB]
  |false=>
   simp only[aN,cond_false] at h;split at h<;>try(cases h;done)
   rename_i ag;cases h;simp[*,lB,xC (m:=m) (ob:=ob) ag]
theorem WS{callf:bL}(c2:kT callf)(an:c3 X m){ops:List Oper}{o:Oper}{F:ax J}{y:J}(h:jP P callf ops o F X=some (y,af)):jP P callf ops o F (X.add m ob)=some (y,af.add m ob):=by
 unfold jP at h⊢;split at h
 ·rename_i X1 hw;rw[FF (m:=m) (ob:=ob) hw];exact amF c2 (an.keeps (w1 hw)) h
 ·rename_i X1 hw;rw[FF (m:=m) (ob:=ob) hw];cases h;rfl
 ·cases h
theorem aBH{callf:bL}(c2:kT callf)(an:c3 X m){N:Nat}{ops:List Oper}{o:Oper}{F F':ax J}(h:j9 P callf N ops o F X=some (F',af)):j9 P callf N ops o F (X.add m ob)=some (F',af.add m ob):=by
 obtain⟨y,bf,rfl⟩:=lk.1 h;exact lk.2 ⟨y,WS c2 an bf,rfl⟩
end
section
variable{P:Program}{m:Nat}{ob:bH}
theorem WR{callf:bL}(ae:fM callf){N:Nat}{ops:List Oper}{o:Oper}{F F':ax J}{X af:ah}{r:Option gL}(h:kz P callf N ops o F X=some (r,F',af)):dh X {af with bs:=X.bs}:=by
 have re:∀{X1:ah} {b:Bool},hp ops F X o.guard=some (b,X1)->dh X X1:=λh=>w1 h
 unfold kz at h;split at h
 ·rename_i X1 hw;cases aH:nZ o.op with
  |true=>
   rw[aH] at h;simp only[cond_true] at h;split at h<;>cases h
   have k:=re hw;exact⟨k.cK,k.aK,k.next,k.cn,k.dead,rfl,k.pc⟩
  |false=>
   rw[aH] at h;simp only[cond_false] at h;split at h
   ·rename_i y c4 aq;cases h;have k:=(re hw).trans (Hk ae aq);exact⟨k.cK,k.aK,k.next,k.cn,k.dead,rfl,k.pc⟩
   ·rename_i bj c4 aq;cases h;have k:=(re hw).trans (Hk ae aq);exact⟨k.cK,k.aK,k.next,k.cn,k.dead,rfl,k.pc⟩
   ·cases h
 ·rename_i X1 hw;cases h;have k:=re hw;exact⟨k.cK,k.aK,k.next,k.cn,k.dead,rfl,k.pc⟩
 ·cases h
theorem dh.aeF{X Y Z:ah}(h:dh X {Y with bs:=X.bs})(h':dh Y {Z with bs:=Y.bs}):dh X {Z with bs:=X.bs}:=by
 have a:dh {Y with bs:=X.bs} {Z with bs:=X.bs}:=⟨h'.cK,h'.aK,h'.next,h'.cn,h'.dead,rfl,h'.pc⟩;exact h.trans a
theorem NQ{callf:bL}(ae:fM callf){N:Nat}{ops:List Oper}:∀{l:List Oper} {F F':ax J} {X af:ah} {r:Option gL},km P callf N ops l F X=some (r,F',af)->dh X {af with bs:=X.bs}
 | [],_,_,_,_,_,h=>by cases h;exact dh.refl _
 |o::l,F,F',X,af,r,h=>by
  simp only[km] at h;split at h
  ·rename_i aM X1 al;exact(WR ae al).aeF (NQ ae h)
  ·exact WR ae h
theorem al6{o:Oper}{F:ax J}{X:ah}:He o F (X.add m ob)=He o F X:=rfl
theorem ahz{callf:bL}(c2:kT callf){X af:ah}(an:c3 X m){N:Nat}{ops:List Oper}{o:Oper}{F F':ax J}{r:Option gL}(h:kz P callf N ops o F X=some (r,F',af)):kz P callf N ops o F (X.add m ob)=some (r,F',af.add m ob):=by
 unfold kz at h⊢;split at h
 ·rename_i X1 hw;rw[FF (m:=m) (ob:=ob) hw];simp only[];cases aH:nZ o.op with
  |true=>
   rw[aH] at h;simp only[cond_true] at h⊢;rw[al6];split at h<;>cases h
   rfl
  |false=>
   rw[aH] at h;simp only[cond_false] at h⊢;split at h
   ·rename_i y c4 aq;cases h;rw[Z0 c2 (an.keeps (w1 hw)) aq]
   ·rename_i bj c4 aq;cases h;rw[Z0 c2 (an.keeps (w1 hw)) aq]
   ·cases h
 ·rename_i X1 hw;rw[FF (m:=m) (ob:=ob) hw];cases h;rfl
 ·cases h
theorem c3.ad0{X af:ah}(h:c3 X m)(k:dh X {af with bs:=X.bs}):c3 af m:=⟨k.dead m h.lt h.dead,Nat.lt_of_lt_of_le h.lt k.next⟩
theorem NP{callf:bL}(c2:kT callf)(ae:fM callf){N:Nat}{ops:List Oper}:∀{l:List Oper} {F F':ax J} {X af:ah} {r:Option gL},c3 X m->km P callf N ops l F X=some (r,F',af)->km P callf N ops l F (X.add m ob)=some (r,F',af.add m ob)
 | [],_,_,_,_,_,_,h=>by cases h;rfl
 |o::l,F,F',X,af,r,an,h=>by
  simp only[km] at h⊢;split at h
  ·rename_i aM X1 al;rw[ahz c2 an al];exact NP c2 ae (an.ad0 (WR ae al)) h
  ·rename_i b4;rw[ahz c2 an h];cases r with
   |none=>exact absurd h (b4 _ _)
   |some bj=>rfl
theorem MX{ops:List Oper}{o:Oper}{F:ax J}{X:ah}{r:ax J×ah}{callf:bL}{N:Nat}(h:j9 P callf N ops o F X=some r):addrOf ops o F (X.add m ob)=addrOf ops o F X:=by
 unfold j9 at h;unfold addrOf;cases hw:hp ops F X o.guard with
 |none=>rw[hw] at h;cases h
 |some q=>
  obtain⟨b,X1⟩:=q;rw[FF (m:=m) (ob:=ob) hw];cases b<;>rfl
theorem ahb{X af:ah}{k:Nat}(an:c3 X m)(h:nm X af k=true):nm (X.add m ob) (af.add m ob) k=true:=by
 unfold nm at h⊢;cases ag:Nat.blt k X.next with
 |false=>rw[ag] at h;cases h
 |true=>
  rw[ag] at h;have iL:Nat.blt k (X.add m ob).next=true:=ag
  rw[iL];simp only[cond_true,FD] at h⊢;cases h1:X.aV.get k with
  |none=>simp[h1] at h
  |some o=>
   obtain⟨h3,b4⟩:=add_get (ob:=ob) an h1
   have aW:(af.add m ob).aV.get k=af.aV.get k:=by
    show(af.aV.put m ob).get k=_;rw[cE.kG,if_neg b4]
   rw[h3,aW];rw[h1] at h;exact h
theorem Ni{bK:List (Nat×Option Nat)}{X af:ah}(an:c3 X m):∀{ls:List Nat},ki bK X af ls=true->ki bK (X.add m ob) (af.add m ob) ls=true
 | [],_=>rfl
 |l::ls,h=>by
  simp only[ki,Bool.and_eq_true] at h⊢;refine⟨?_,Ni an h.2⟩;cases ai:l7 bK l with
  |none=>rfl
  |some k=>
   have:=h.1
   rw[ai] at this;exact ahb an this
theorem NJ{callf:bL}(c2:kT callf)(ae:fM callf){N:Nat}{ops:List Oper}{bU:List (Nat×List Nat)}:∀{bO:List Nat} {bK:List (Nat×Option Nat)} {F F':ax J} {X af:ah},c3 X m->iG P callf N ops bU bO bK F X=some (F',af)->
 iG P callf N ops bU bO bK F (X.add m ob)=some (F',af.add m ob)
 | [],_,_,_,_,_,_,h=>by simp only[iG,Option.some.injEq,Prod.mk.injEq] at h⊢;obtain⟨rfl,rfl⟩:=h;exact⟨rfl,rfl⟩
 |k::bO,bK,F,F',X,af,an,h=>by
  simp only[iG] at h⊢;split at h<;>try(cases h;done)
  rename_i o _;split at h<;>try(cases h;done)
  rename_i aM X1 al;rw[aBH c2 an al];simp only[];cases j0:ki bK X X1 (ig bU k) with
  |false=>rw[j0] at h;cases h
  |true=>
   rw[j0] at h;rw[Ni an j0,MX al];exact NJ c2 ae (an.keeps (WN ae al)) h
end
section
variable{P:Program}{B:Nat}{aY w:World}{E:Env}{bh:List Deferred}
theorem aeD{op:Op}{bA:List J}{X af:ah}{y:J}(aO:yG op=true)(h:dO P op bA X=some (y,af)):
 ∃o,af=(X.new o).2/\o.ro=false/\∀X1:ah,X1.next=X.next->dO P op bA X1=some (y,(X1.new o).2):=by
 unfold dO at h;split at h
 case h_4=>
  unfold pX newRow ah.new at h;split at h<;>try(cases h;done)
  rename_i z a1;simp only[force_eq] at h;cases h;exact⟨_,rfl,rfl,λX1 h1=>by simp only[dO,pX,newRow,ah.new,a1,force_eq,h1]⟩
 case h_5=>
  unfold pZ newRow ah.new at h;rename_i x;cases ar:x.flat<;>simp only[ar,cond_false,cond_true,force_eq] at h<;>cases h
  exact⟨_,rfl,rfl,λX1 h1=>by simp only[dO,pZ,newRow,ah.new,ar,cond_true,force_eq,h1]⟩
 case h_7=>
  unfold oV newRow ah.new at h;split at h<;>try(cases h;done)
  rename_i e hu;split at h<;>try(cases h;done)
  rename_i s z al a1;generalize ae:(Nat.ble _ _&&Nat.ble 1 s&&_)=b at h;cases b<;>simp only[cond_true,cond_false,force_eq] at h
  ·cases h
  ·split at h<;>cases h
   rename_i cs eA;exact⟨_,rfl,rfl,λX1 h1=>by simp only[dO,oV,newRow,ah.new,hu,al,a1,ae,cond_true,eA,force_eq,h1]⟩
 case h_16=>
  unfold p0 mQ ah.new at h;split at h<;>try(cases h;done)
  rename_i e hu;split at h<;>try(cases h;done)
  rename_i l c aL ga;split at h<;>try(cases h;done)
  rename_i s z b al a1 ag;generalize ae:(Nat.ble _ _&&_&&_&&_&&_)=b at h;cases b<;>simp only[cond_true,cond_false,force_eq] at h<;>cases h
  exact⟨_,rfl,rfl,λX1 h1=>by simp only[dO,p0,mQ,ah.new,hu,aL,ga,al,a1,ag,ae,cond_true,force_eq,h1]⟩
 all_goals first
  |(simp[yG] at aO;done)
  |(cases h;done)
theorem y3{rs:List Nat}{k:Nat}{o:Op}(h:hy rs k o=true):yG o=true:=by
 simp only[hy,Bool.and_eq_true] at h;exact h.2
def mq(P:Program)(callf:bL)(ops:List Oper)(rs:List Nat)(base k:Nat)(o:Oper)(F:ax J)(X:ah):Option (J×ah):=
 bif hy rs k o.op then(match o.guard with
  |some _=>none
  |none=>match looks X.aK F o.op.operands.toList with
   |none=>none
   |some bA=>bif pO base bA then(match dO P o.op bA {X with next:=base+k} with
    |some (y,af)=>some (y,{af with next:=X.next})
    |none=>none) else none) else jP P callf ops o F X
theorem jy{callf:bL}{rs:List Nat}{N base k:Nat}{ops:List Oper}{o:Oper}{F F':ax J}{X af:ah}:
 ll P callf N ops rs base k o F X=some (F',af)↔∃y,mq P callf ops rs base k o F X=some (y,af)/\F'=put N F o.dst y:=by
 unfold ll mq;cases aO:hy rs k o.op with
 |false=>simp only[cond_false];exact lk
 |true=>
  simp only[cond_true];cases o.guard with
  |some g=>simp
  |none=>
   simp only[];cases looks X.aK F o.op.operands.toList with
   |none=>simp
   |some bA=>
    simp only[];cases pO base bA with
    |false=>simp
    |true=>
     simp only[cond_true,force_eq];cases al:dO P o.op bA {X with next:=base+k} with
     |none=>simp
     |some r=>
      obtain⟨y,X1⟩:=r;simp only[Option.some.injEq,Prod.mk.injEq];constructor
      ·rintro ⟨rfl,rfl⟩;exact⟨y,⟨rfl,rfl⟩,rfl⟩
      ·rintro ⟨zz,⟨rfl,rfl⟩,rfl⟩;exact⟨rfl,rfl⟩
theorem WO{callf:bL}{rs:List Nat}{base k:Nat}{ops:Array Oper}{o:Oper}{F F':ax J}{X:ah}(h:∀t∈o.looksAt ops,F.get t=F'.get t):
 mq P callf ops.toList rs base k o F X=mq P callf ops.toList rs base k o F' X:=by
 obtain⟨hw,aL⟩:=Ra (X:=X) h;unfold mq;rw[Le h];simp only[aL]
theorem tU{callf:bL}{rs:List Nat}{base k:Nat}{ops:List Oper}{o:Oper}{F:ax J}{X af:ah}{y:J}(aO:hy rs k o.op=true)(h:mq P callf ops rs base k o F X=some (y,af)):
 ∃ob,af={X with aV:=X.aV.put (base+k) ob}/\∀X1:ah,X1.aK=X.aK->mq P callf ops rs base k o F X1=some (y,{X1 with aV:=X1.aV.put (base+k) ob}):=by
 unfold mq at h⊢;simp only[aO,cond_true] at h⊢;split at h<;>try(cases h;done)
 split at h<;>try(cases h;done)
 rename_i bA aL;cases nS:pO base bA with
 |false=>simp[nS] at h
 |true=>
  simp only[nS,cond_true] at h;split at h<;>try(cases h;done)
  rename_i zz c4 al;cases h;obtain⟨ob,rfl,_,k8⟩:=aeD (y3 aO) al;refine⟨ob,rfl,λX1 lN=>?_⟩
  have:=k8 {X1 with next:=base+k} rfl
  simp only[lN] at this;simp only[lN,aL,nS,cond_true,this];simp only[ah.new]
def vy(P:Program)(callf:bL)(N:Nat)(ops:Array Oper)(S:jo)(rs:List Nat)(base i:Nat)(F:ax J)(X:ah)(F':ax J)(af:ah):Prop:=
 ∃o,ops[i]?=some o/\ll P callf N ops.toList rs base i o F X=some (F',af)/\(fb P o.op=true->∀k,addrOf ops.toList o F X=some k->k<base)/\
  (nY P o.op=true->hy rs i o.op=false->∀k,nm (S.pre i) (S.post i) k=true->nm X af k=true)/\(fb P o.op=true->addrOf ops.toList o F X=S.obj i)
theorem Jn{op:Op}(h:yG op=true):mg P op=false/\fb P op=false:=by
 cases op<;>first|(simp[yG] at h;done)|exact⟨rfl,rfl⟩
theorem ky{callf:bL}{rs:List Nat}{base k:Nat}{ops:List Oper}{o:Oper}{F:ax J}{X:ah}(h:hy rs k o.op=false):mq P callf ops rs base k o F X=jP P callf ops o F X:=by
 unfold mq;rw[h];rfl
theorem Lb{callf:bL}(ae:fM callf){rs:List Nat}{base k:Nat}{ops:List Oper}{o:Oper}{F:ax J}{X af:ah}{y:J}(h:mq P callf ops rs base k o F X=some (y,af)):(X.cK=[]->af.cK=[])/\af.aK=X.aK:=by
 cases aO:hy rs k o.op with
 |true=>obtain⟨ob,rfl,_⟩:=tU aO h;exact⟨λh=>h,rfl⟩
 |false=>
  rw[ky aO] at h
  have:=u4 ae h
  exact⟨this.cK,this.aK⟩
theorem afc{rs:List Nat}{k:Nat}{op:Op}(aC:mg P op=true):hy rs k op=false:=by
 cases aO:hy rs k op with
 |false=>rfl
 |true=>have:=(Jn (P:=P) (y3 aO)).1;rw[aC] at this;cases this
theorem Fc{rs:List Nat}{k:Nat}{op:Op}(aC:fb P op=true):hy rs k op=false:=by
 cases aO:hy rs k op with
 |false=>rfl
 |true=>have:=(Jn (P:=P) (y3 aO)).2;rw[aC] at this;cases this
theorem aBO{callf:bL}(iM:kT callf)(ae:fM callf){N:Nat}{ops:Array Oper}{S:jo}{bU:List (Nat×List Nat)}{rs:List Nat}{base:Nat}{i j:Nat}{dT cf:Oper}{F jS xh:ax J}{X jH iW:ah}(aoy:i≠j)(nV:ops[i]?=some dT)(eQ:ops[j]?=some cf)
 (nO:dT.apart ops cf=true)(Du:CC P rs bU i j dT.op cf.op=true)
 (rY:nY P cf.op=true->mG (ig bU j) i=true->∀k,S.obj i=some k->nm (S.pre j) (S.post j) k=true)(yg:hy rs j cf.op=true->c3 X (base+j))(aq:X.cK=[])(h1:vy P callf N ops S rs base i F X jS jH)(h2:vy P callf N ops S rs base j jS jH xh iW):
 ∃rn pn uc,vy P callf N ops S rs base j F X rn pn/\pn.cK=[]/\vy P callf N ops S rs base i rn pn uc iW/\hF xh uc:=by
 obtain⟨ark,DJ,h1,dc,bX,s1⟩:=h1;obtain⟨arl,DK,h2,du,b2,s2⟩:=h2;rw[nV] at DJ;cases DJ;rw[eQ] at DK;cases DK;obtain⟨ak,aD,a7⟩:=Oper.apart_spec nO;obtain⟨jl,j3,rfl⟩:=jy.1 h1;obtain⟨jQ,QA,rfl⟩:=jy.1 h2;have Ec:∀t∈cf.looksAt ops,F.get t=(put N F dT.dst jl).get t:=λt aN=>(pU t λe=>ak t e aN).symm
 have li:∀t∈dT.looksAt ops,F.get t=(put N F cf.dst jQ).get t:=λt aN=>(pU t λe=>a7 t e aN).symm
 have aa:mq P callf ops.toList rs base j cf F jH=some (jQ,iW):=by rw[<- QA];exact WO Ec
 have cF:∀X1 c4,mq P callf ops.toList rs base i dT F X1=some (jl,c4)->mq P callf ops.toList rs base i dT (put N F cf.dst jQ) X1=some (jl,c4):=λX1 c4 h=>by
  rw[<- h];exact(WO li).symm
 have oQ:∀X1,addrOf ops.toList cf F X1=addrOf ops.toList cf (put N F dT.dst jl) X1:=λX1=>xA Ec
 have pW:∀X1,addrOf ops.toList dT F X1=addrOf ops.toList dT (put N F cf.dst jQ) X1:=λX1=>xA li
 have c2:=put_comm (N:=N) (F:=F) (y:=jl) (z:=jQ) aD;obtain⟨ap7,ad1⟩:=Lb ae j3;obtain⟨aqa,aqb⟩:=Lb ae aa;have Br:=ap7 aq;have tI:=aqa Br;have aoz:=(Array.getElem?_eq_some_iff.1 nV).1;have AJ:=(Array.getElem?_eq_some_iff.1 eQ).1
 have ano:∀(t:cE) (m k:Nat) (ob:bH),m<base+ops.size->k<base->base<=m->(t.put m ob).get k=t.get k:=λt m k ob hm ai acM=>by
  rw[cE.kG,if_neg (by omega)]
 simp only[CC,Bool.or_eq_true,Bool.and_eq_true] at Du;rcases Du with(((aC|aC)|nT)|⟨nW,DO⟩)|⟨⟨⟨nW,acL⟩,nT⟩,j0⟩
 ·have aO:=afc (rs:=rs) (k:=i) aC;rw[ky aO] at j3;obtain⟨rfl,k8⟩:=Lf aC aq j3;obtain⟨n3,uW⟩:=Jy aC
  exact⟨_,iW,_,⟨cf,eQ,jy.2 ⟨jQ,aa,rfl⟩,λh=>(by rw[oQ];exact du h),b2,λh=>(by rw[oQ];exact s2 h)⟩,tI,
   ⟨dT,nV,jy.2 ⟨jl,cF _ _ (by rw[ky aO];exact k8 iW aqb),rfl⟩,λh=>(by rw[uW] at h;cases h),λh=>(by rw[n3] at h;cases h),λh=>(by rw[uW] at h;cases h)⟩,c2⟩
 ·have aO:=afc (rs:=rs) (k:=j) aC;rw[ky aO] at aa;obtain⟨rfl,k8⟩:=Lf aC Br aa;obtain⟨n3,uW⟩:=Jy aC
  exact⟨_,X,_,⟨cf,eQ,jy.2 ⟨jQ,by rw[ky aO];exact k8 X ad1.symm,rfl⟩,λh=>(by rw[uW] at h;cases h),λh=>(by rw[n3] at h;cases h),λh=>(by rw[uW] at h;cases h)⟩,aq,
   ⟨dT,nV,jy.2 ⟨jl,cF _ _ j3,rfl⟩,λh=>(by rw[<- pW];exact dc h),bX,λh=>(by rw[<- pW];exact s1 h)⟩,c2⟩
 ·
  obtain⟨ob,rfl,P2⟩:=tU nT aa;have mM:=(Jn (P:=P) (y3 nT)).2
  refine⟨_,_,_,⟨cf,eQ,jy.2 ⟨jQ,P2 X ad1.symm,rfl⟩,λh=>(by rw[mM] at h;cases h),λ_ h=>(by rw[nT] at h;cases h),λh=>(by rw[mM] at h;cases h)⟩,aq,
   ⟨dT,nV,jy.2 ⟨jl,cF _ _ ?_,rfl⟩,λh=>(by rw[<- pW,vE (X:=X) (X1:={X with aV:=X.aV.put (base+j) ob}) aq aq rfl];exact dc h),λh1 h2 k ai=>ahb (yg nT) (bX h1 h2 k ai),
     λh=>(by rw[<- pW,vE (X:=X) (X1:={X with aV:=X.aV.put (base+j) ob}) aq aq rfl];exact s1 h)⟩,c2⟩
  cases pH:hy rs i dT.op with
  |true=>
   obtain⟨ard,rfl,acW⟩:=tU pH j3
   have:=acW {X with aV:=X.aV.put (base+j) ob} rfl
   rw[this];simp only[Option.some.injEq,Prod.mk.injEq,true_and];rw[cE.put_comm _ _ _ (by omega)]
  |false=>
   rw[ky pH] at j3⊢;exact WS (ob:=ob) iM (yg nT) j3
 ·have nT:=Fc (rs:=rs) (k:=j) DO;have aeB:=KX DO;rw[ky nT] at aa;rcases nW with nW|nW
  ·have aO:=Fc (rs:=rs) (k:=i) nW;rw[ky aO] at j3;obtain⟨rfl,k8⟩:=wW nW aq j3;obtain⟨rfl,_⟩:=wW DO aq aa
   exact⟨_,_,_,⟨cf,eQ,jy.2 ⟨jQ,by rw[ky nT];exact aa,rfl⟩,λh=>(by rw[oQ];exact du h),λh=>(by rw[aeB] at h;cases h),λh=>(by rw[oQ];exact s2 h)⟩,aq,
    ⟨dT,nV,jy.2 ⟨jl,cF _ _ (by rw[ky aO];exact j3),rfl⟩,λh=>(by rw[<- pW];exact dc h),bX,λh=>(by rw[<- pW];exact s1 h)⟩,c2⟩
  ·obtain⟨ob,rfl,acW⟩:=tU nW j3;have mM:=(Jn (P:=P) (y3 nW)).2;obtain⟨e,P2⟩:=wW DO Br aa;subst e
   refine⟨_,X,_,⟨cf,eQ,jy.2 ⟨jQ,?_,rfl⟩,λh=>(by rw[oQ, <- vE (X:=X) (X1:={X with aV:=X.aV.put (base+i) ob}) aq aq rfl];exact du h),λh=>(by rw[aeB] at h;cases h),λh=>(by rw[oQ, <- vE (X:=X) (X1:={X with aV:=X.aV.put (base+i) ob}) aq aq rfl];exact s2 h)⟩,aq,
    ⟨dT,nV,jy.2 ⟨jl,cF _ _ j3,rfl⟩,λh=>(by rw[mM] at h;cases h),λ_ h=>(by rw[nW] at h;cases h),λh=>(by rw[mM] at h;cases h)⟩,c2⟩
   rw[ky nT];exact P2 X rfl λk ai=>(ano _ _ _ _ (by omega) (du DO k (by rw[<- oQ];exact ai)) (by omega)).symm
 ·have Qf:hy rs j cf.op=false:=by simpa using nT
  have pH:=Fc (rs:=rs) (k:=i) nW;rw[ky Qf] at aa;rw[ky pH] at j3;obtain⟨az,k8⟩:=wW nW aq j3;subst az;have n3:=KX nW;have r3:=u4 ae aa
  have Qi:mq P callf ops.toList rs base i dT F iW=some (jl,iW):=by
   rw[ky pH];exact k8 iW r3.aK λk ai=>ahc r3 (b2 acL Qf k (rY acL j0 k (by rw[<- s1 nW];exact ai)))
  exact⟨_,iW,_,⟨cf,eQ,jy.2 ⟨jQ,by rw[ky Qf];exact aa,rfl⟩,λh=>(by rw[oQ];exact du h),b2,λh=>(by rw[oQ];exact s2 h)⟩,tI,
   ⟨dT,nV,jy.2 ⟨jl,cF _ _ Qi,rfl⟩,λh=>(by rw[<- pW,vE aq tI r3.aK];exact dc h),λh=>(by rw[n3] at h;cases h),λh=>(by rw[<- pW,vE aq tI r3.aK];exact s1 h)⟩,c2⟩
end
section
variable{P:Program}{B:Nat}{aY w:World}{E:Env}{bh:List Deferred}
def rA(P:Program)(callf:bL)(N:Nat)(ops:Array Oper)(S:jo)(rs:List Nat)(base:Nat)(G:ax J->ah->Prop):Nat->Array Bool->ax J->ah->Prop
 |0,listed,F,X=>Region.ready .any ops listed=[]/\G F X
 |n+1,listed,F,X=>(Region.ready .any ops listed=[]->G F X)/\
  ∀i∈Region.ready .any ops listed,∃F' af,vy P callf N ops S rs base i F X F' af/\rA P callf N ops S rs base G n (listed.setIfInBounds i true) F' af
theorem aBI{callf:bL}{rs:List Nat}{N base k:Nat}{ops:Array Oper}{o:Oper}{F F' G:ax J}{X af:ah}(he:hF F F')(h:ll P callf N ops.toList rs base k o F X=some (G,af)):
 ∃ud,ll P callf N ops.toList rs base k o F' X=some (ud,af)/\hF G ud:=by
 obtain⟨y,bf,rfl⟩:=jy.1 h;exact⟨_,jy.2 ⟨y,by rw[<- WO (λt _=>he t)];exact bf,rfl⟩,afh he _ _⟩
theorem Ym{callf:bL}{S:jo}{rs:List Nat}{N base:Nat}{ops:Array Oper}{G:ax J->ah->Prop}(jd:∀F F' X,hF F F'->G F X->G F' X):
 ∀(n:Nat) (listed:Array Bool) (F F':ax J) (X:ah),hF F F'->rA P callf N ops S rs base G n listed F X->rA P callf N ops S rs base G n listed F' X
 |0,_,_,_,_,he,h=>⟨h.1,jd _ _ _ he h.2⟩
 |n+1,listed,F,F',X,he,h=>⟨λaI=>jd _ _ _ he (h.1 aI),λi hi=>by
   obtain⟨aM,X1,⟨o,aq,h1,aI,ag,al⟩,h2⟩:=h.2 i hi;obtain⟨ud,h3,aW⟩:=aBI he h1
   exact⟨ud,X1,⟨o,aq,h3,λh=>(by rw[<- xA (λt _=>he t)];exact aI h),ag,λh=>(by rw[<- xA (λt _=>he t)];exact al h)⟩,Ym jd n _ _ _ _ aW h2⟩⟩
theorem ahx{rs:List Nat}{bU:List (Nat×List Nat)}{ops:Array Oper}{kL:Array Bool}{i:Nat}{dT:Oper}{r:List Bool}(hi:ops[i]?=some dT)(h:Ld P rs bU ops kL i r=true){j:Nat}{cf:Oper}(aa:ops[j]?=some cf)(b4:j≠i):
 (r.getD j false=true/\(kL.getD j true=true\/(dT.apart ops cf=true/\CC P rs bU i j dT.op cf.op=true)))\/
 (r.getD j false=false/\kL.getD j true=false/\∃e∈cf.after,Region.binds .any e=true/\r.getD e.on false=false):=by
 unfold Ld at h;simp only[hi,List.all_eq_true,List.mem_range] at h;have ba:=(Array.getElem?_eq_some_iff.1 aa).1
 have:=h j ba
 simp only[aa] at this;have ag:(j==i)=false:=by simpa using b4
 simp only[ag,Bool.false_or] at this;cases aI:r.getD j false with
 |true=>
  simp only[aI,cond_true,Bool.or_eq_true,Bool.and_eq_true] at this;exact .inl ⟨rfl,this⟩
 |false=>
  simp only[aI,cond_false,Bool.and_eq_true,Bool.not_eq_true',Array.any_eq_true'] at this;obtain⟨h1,e,he,h2,h3⟩:=this;exact .inr ⟨rfl,h1,e,he,h2,h3⟩
def Kept(ops:Array Oper)(rs:List Nat)(base:Nat)(listed:Array Bool)(X:ah):Prop:=
 ∀j cf,ops[j]?=some cf->listed.getD j true=false->hy rs j cf.op=true->c3 X (base+j)
theorem Kept.step{callf:bL}(ae:fM callf){S:jo}{rs:List Nat}{N base:Nat}{ops:Array Oper}{i:Nat}{listed:Array Bool}{F F':ax J}{X af:ah}(h:Kept ops rs base listed X)(al:vy P callf N ops S rs base i F X F' af):
 Kept ops rs base (listed.setIfInBounds i true) af:=by
 intro j cf eQ aa aO;have ba:=(Array.getElem?_eq_some_iff.1 eQ).1
 have nR:listed.getD j true=false/\j≠i:=by
  by_cases e:i=j
  ·subst e
   exfalso
   rcases Nat.lt_or_ge i listed.size with h'|h'
   ·simp[h'] at aa
   ·simp at aa
  ·rw[getD_set_ne true e] at aa;exact⟨aa,λbg=>e bg.symm⟩
 have an:=h j cf eQ nR.1 aO;obtain⟨o,aq,dv,_⟩:=al;obtain⟨y,bf,_⟩:=jy.1 dv;cases pH:hy rs i o.op with
 |true=>
  obtain⟨ob,rfl,_⟩:=tU pH bf;refine⟨?_,an.lt⟩;show(X.aV.put (base+i) ob).get (base+j)=none;cases bd:(X.aV.put (base+i) ob).get (base+j) with
  |none=>rfl
  |some b=>
   rcases cE.iI bd with⟨e,_⟩|⟨_,h2⟩
   ·omega
   ·rw[an.dead] at h2;cases h2
 |false=>
  rw[ky pH] at bf;exact an.keeps (u4 ae bf)
theorem ajY{callf:bL}(iM:kT callf)(ae:fM callf){S:jo}{bU:List (Nat×List Nat)}{rs:List Nat}{N base:Nat}{ops:Array Oper}{G:ax J->ah->Prop}(jd:∀F F' X,hF F F'->G F X->G F' X){i:Nat}{dT:Oper}(hi:ops[i]?=some dT)
 {kL:Array Bool}{r:List Bool}(dq:Ld P rs bU ops kL i r=true)
 (rY:∀j cf,ops[j]?=some cf->kL.getD j true=false->j≠i->nY P cf.op=true->mG (ig bU j) i=true->∀k,S.obj i=some k->nm (S.pre j) (S.post j) k=true):
 ∀(n:Nat) (listed:Array Bool) (F jS:ax J) (X jH:ah),Inv ops i kL r listed->Kept ops rs base listed X->i∈Region.ready .any ops listed->X.cK=[]->vy P callf N ops S rs base i F X jS jH->
  rA P callf N ops S rs base G n (listed.setIfInBounds i true) jS jH->rA P callf N ops S rs base G (n+1) listed F X:=by
 intro n
 induction n with
 |zero=>
  intro listed F jS X jH _ _ aI _ al H;refine⟨λh=>(by rw[h] at aI;cases aI),λj aa=>?_⟩;by_cases k9:j=i
  ·subst k9;exact⟨jS,jH,al,H⟩
  ·have:=ready_mono aa k9
   rw[H.1] at this;cases this
 |succ n bc=>
  intro listed F jS X jH inv yo aI aq al H;refine⟨λh=>(by rw[h] at aI;cases aI),λj aa=>?_⟩;by_cases k9:j=i
  ·subst k9;exact⟨jS,jH,al,H⟩
  ·obtain⟨xh,iW,h1,h2⟩:=H.2 j (ready_mono aa k9);obtain⟨AK,cf,eQ,fP⟩:=mem_ready.1 aa
   have kH:kL.getD j true=false:=by
    cases h:kL.getD j true with
    |false=>rfl
    |true=>have:=inv.more j h;rw[AK] at this;cases this
   have PI:=ahx hi dq eQ k9
   have yb:r.getD j false=true/\dT.apart ops cf=true/\CC P rs bU i j dT.op cf.op=true:=by
    rcases PI with⟨h3,aW⟩|⟨_,_,e,he,ag,aO⟩
    ·rcases aW with aW|aW
     ·rw[kH] at aW;cases aW
     ·exact⟨h3,aW⟩
    ·have:=inv.la _ (fP e he ag);rw[aO] at this;cases this
   obtain⟨rn,pn,uc,k1,k2,hx,n1⟩:=aBO iM ae (λe=>k9 e.symm) hi eQ yb.2.1 yb.2.2 (rY j cf eQ kH k9) (yo j cf eQ AK) aq al h1;refine⟨rn,pn,k1,?_⟩;refine bc (listed.setIfInBounds j true) rn uc pn iW ⟨λk ai=>?_,λk ai=>?_⟩ (yo.step ae k1) (ready_mono aI (Ne.symm k9)) k2 hx ?_
   ·by_cases e:j=k
    ·subst e;exact yb.1
    ·rw[getD_set_ne false e] at ai;exact inv.la k ai
   ·by_cases e:j=k
    ·subst e;have:=inv.more j ai;rw[AK] at this;cases this
    ·rw[getD_set_ne true e];exact inv.more k ai
   ·rw[Array.setIfInBounds_comm _ _ k9];exact Ym jd n _ _ _ _ n1 h2
theorem Q3{rs:List Nat}{bU:List (Nat×List Nat)}{ops:Array Oper}:∀(bO:List Nat) (listed:Array Bool),uT P rs bU ops bO listed=true->∀j,listed.getD j true=false->j∈bO
 | [],listed,h,j,aa=>by
   simp only[uT,Array.all_eq_true_iff_forall_mem] at h;rcases Nat.lt_or_ge j listed.size with h'|h'
   ·have:=h listed[j] (Array.getElem_mem h')
    simp only[id] at this;simp[h',this] at aa
   ·simp[Array.getElem?_eq_none h'] at aa
 |k::bO,listed,h,j,aa=>by
  simp only[uT,Bool.and_eq_true] at h;obtain⟨⟨⟨aI,mM⟩,dv⟩,kI⟩:=h;by_cases e:j=k
  ·subst e;exact List.mem_cons_self ..
  ·refine List.mem_cons_of_mem _ (Q3 bO _ kI j ?_);rw[getD_set_ne true (λbg=>e bg.symm)];exact aa
theorem Yp{callf:bL}{N:Nat}{ops:Array Oper}{S e8:jo}{rs:List Nat}{base:Nat}{G:ax J->ah->Prop}:
 ∀(n:Nat) (listed:Array Bool) (F:ax J) (X:ah),(∀i,listed.getD i true=false->e8.pre i=S.pre i/\e8.post i=S.post i/\e8.obj i=S.obj i)->rA P callf N ops S rs base G n listed F X->rA P callf N ops e8 rs base G n listed F X
 |0,_,_,_,_,h=>h
 |n+1,listed,F,X,al,h=>⟨h.1,λi hi=>by
   obtain⟨aM,X1,⟨o,aq,h1,aI,ag,DP⟩,h2⟩:=h.2 i hi;obtain⟨az,aA,cj⟩:=al i (mem_ready.1 hi).1;refine⟨aM,X1,⟨o,aq,h1,aI,λh=>by rw[az,aA];exact ag h,λh=>by rw[cj];exact DP h⟩,Yp n _ _ _ (λj aa=>al j ?_) h2⟩;by_cases e:i=j
   ·subst e;exact(mem_ready.1 hi).1
   ·rw[getD_set_ne true e] at aa;exact aa⟩
theorem Q4{rs:List Nat}{bU:List (Nat×List Nat)}{ops:Array Oper}:∀(bO:List Nat) (listed:Array Bool),uT P rs bU ops bO listed=true->(∀j∈bO,listed.getD j true=false)
 | [],listed,h,j,aa=>by cases aa
 |k::bO,listed,h,j,aa=>by
  simp only[uT,Bool.and_eq_true] at h;obtain⟨⟨⟨aI,mM⟩,dv⟩,kI⟩:=h;have lO:k∈Region.ready .any ops listed:=by simpa using aI
  have ai:=(mem_ready.1 lO).1;rcases List.mem_cons.1 aa with rfl|aa
  ·exact ai
  ·exact(getD_set_true (Q4 bO _ kI j aa)).1
theorem Yn{callf:bL}(iM:kT callf)(ae:fM callf){rs:List Nat}{bU:List (Nat×List Nat)}{N base:Nat}{ops:Array Oper}{F':ax J}{af:ah}:∀(bO:List Nat) (bK:List (Nat×Option Nat)) (listed:Array Bool) (F:ax J) (X:ah),listed.size=ops.size->Kept ops rs base listed X->X.cK=[]->
 uT P rs bU ops bO listed=true->ja P callf N ops.toList rs bU base bO bK F X=some (F',af)->∃S:jo,rA P callf N ops S rs base (λaM X1=>hF F' aM/\X1=af) bO.length listed F X/\
  ∀i,i ∉ bO->∀k,l7 bK i=some k->∀j cf,j∈bO->ops[j]?=some cf->nY P cf.op=true->mG (ig bU j) i=true->nm (S.pre j) (S.post j) k=true
 | [],bK,listed,F,X,_,_,_,aL,h=>by
   simp only[ja,Option.some.injEq,Prod.mk.injEq] at h;obtain⟨rfl,rfl⟩:=h;refine⟨⟨λ_=>X,λ_=>X,λ_=>none⟩,⟨?_,hF.refl _,rfl⟩,λi _ k _ j cf aa=>by cases aa⟩
   have:=Q3 [] listed aL
   cases aI:Region.ready .any ops listed with
   |nil=>rfl
   |cons a eW=>
    have b1:a∈Region.ready .any ops listed:=by rw[aI];exact List.mem_cons_self ..
    have:=this a (mem_ready.1 b1).1
    cases this
 |k::bO,bK,listed,F,X,dR,yo,aq,aL,h=>by
  have DU:=Q4 (k::bO) listed aL;have PN:=Q3 (k::bO) listed aL;simp only[ja] at h;split at h<;>try(cases h;done)
  rename_i o dq;cases yt:pP P ops.toList base o F X with
  |false=>rw[yt] at h;cases h
  |true=>
   rw[yt] at h;simp only[cond_true] at h;split at h<;>try(cases h;done)
   rename_i aM X1 al;cases j0:ki bK X X1 (ig bU k) with
   |false=>rw[j0] at h;cases h
   |true=>
   rw[j0] at h;simp only[cond_true] at h;simp only[uT,Bool.and_eq_true] at aL;obtain⟨⟨⟨aI,mM⟩,dv⟩,kI⟩:=aL;have ai:ops[k]?=some o:=by simpa using dq
   have lO:k∈Region.ready .any ops listed:=by simpa using aI
   have jf:X1.cK=[]:=by
    obtain⟨y,bf,_⟩:=jy.1 al;exact(Lb ae bf).1 aq
   have IW:∀S:jo,S.pre k=X->S.post k=X1->S.obj k=(bif fb P o.op then addrOf ops.toList o F X else none)->vy P callf N ops S rs base k F X aM X1:=λS az aA cj=>⟨o,ai,al,λpJ j aa=>by
    unfold pP at yt;rw[pJ] at yt;simp only[cond_true,aa] at yt;rw[Nat.blt_eq] at yt
    exact yt,λ_ _ b5 cP=>by rw[az,aA] at cP;exact cP,λpJ=>by rw[cj,pJ];rfl⟩
   have aoI:Kept ops rs base (listed.setIfInBounds k true) X1:=yo.step ae (IW ⟨λ_=>X,λ_=>X1,λ_=>bif fb P o.op then addrOf ops.toList o F X else none⟩ rfl rfl rfl);obtain⟨ug,pF,DN⟩:=Yn iM ae bO _ _ aM X1 (by simpa using dR) aoI jf kI h;have Qr:=Q4 bO _ kI;have DA:k ∉ bO:=λuK=>(getD_set_true (Qr k uK)).2 rfl
   have b4:∀j,j∈bO->j≠k:=λj aa e=>DA (e▸aa)
   let S:jo:=ug.set k X X1 (bif fb P o.op then addrOf ops.toList o F X else none)
   have ea:∀j,j≠k->S.pre j=ug.pre j/\S.post j=ug.post j/\S.obj j=ug.obj j:=λj aa=>⟨if_neg aa,if_neg aa,if_neg aa⟩
   have pE:S.pre k=X/\S.post k=X1/\S.obj k=(bif fb P o.op then addrOf ops.toList o F X else none):=⟨if_pos rfl,if_pos rfl,if_pos rfl⟩;refine⟨S,?_,?_⟩
   ·have PF:rA P callf N ops S rs base (λaM X1=>hF F' aM/\X1=af) bO.length (listed.setIfInBounds k true) aM X1:=Yp bO.length _ _ _ (λj aa=>ea j (getD_set_true aa).2) pF;refine ajY iM ae (λF aM X he bd=>⟨bd.1.trans he,bd.2⟩) ai dv ?_ bO.length listed F aM X X1 ⟨λj aa=>?_,λj aa=>aa⟩ yo lO aq (IW S pE.1 pE.2.1 pE.2.2) PF
    ·intro j cf eQ kH h9 ag aO b5 cP;rw[pE.2.2] at cP
     have P4:j∈bO:=by
      rcases List.mem_cons.1 (PN j kH) with e|e
      ·exact absurd e h9
      ·exact e
     obtain⟨az,aA,_⟩:=ea j h9;rw[az,aA];cases pJ:fb P o.op with
     |true=>
      rw[pJ] at cP;simp only[cond_true] at cP;refine DN k DA b5 ?_ j cf P4 eQ ag aO;simp only[pJ,cond_true,l7];rw[cP]
      have:Nat.beq k k=true:=by simp
      rw[this];rfl
     |false=>rw[pJ] at cP;cases cP
    ·have DV:=(mem_ready.1 lO).1;by_cases h9:j=k
     ·subst h9;rcases Nat.lt_or_ge j listed.size with h'|h'
      ·simp[h'] at DV aa;rw[DV] at aa;cases aa
      ·simp[Array.getElem?_eq_none h'] at aa
     ·cases eQ:ops[j]? with
      |none=>
       exfalso
       rcases Nat.lt_or_ge j listed.size with h'|h'
       ·rw[dR] at h';rw[Array.getElem?_eq_none_iff] at eQ;omega
       ·simp[Array.getElem?_eq_none h'] at aa
      |some cf=>
       rcases ahx ai dv eQ h9 with⟨h1,_⟩|⟨_,h1,_⟩
       ·exact h1
       ·rcases Nat.lt_or_ge j listed.size with h'|h'
        ·simp[h'] at h1 aa;rw[h1] at aa;cases aa
        ·simp[Array.getElem?_eq_none h'] at aa
   ·intro i hi b5 cP j cf aa eQ ag aO;have P1:i≠k:=λe=>hi (by rw[e];exact List.mem_cons_self ..)
    rcases List.mem_cons.1 aa with rfl|aa
    ·rw[pE.1,pE.2.1];exact Nj j0 i aO b5 cP
    ·obtain⟨az,aA,_⟩:=ea j (b4 j aa);rw[az,aA];refine DN i (λh=>hi (List.mem_cons_of_mem _ h)) b5 ?_ j cf aa eQ ag aO;cases fb P o.op with
     |true=>
      simp only[cond_true,l7]
      have:Nat.beq k i=false:=by
       cases h:Nat.beq k i with
       |false=>rfl
       |true=>exact absurd (Nat.eq_of_beq_eq_true h).symm P1
      rw[this];exact cP
     |false=>exact cP
theorem WQ{callf:bL}(cI:jD P callf){rs:List Nat}{N base k:Nat}{ops:List Oper}{o:Oper}{F F':ax J}{X af:ah}(h:ll P callf N ops rs base k o F X=some (F',af))(aC:cG af):cG X:=by
 obtain⟨y,bf,rfl⟩:=jy.1 h;cases aO:hy rs k o.op with
 |true=>obtain⟨ob,rfl,_⟩:=tU aO bf;exact aC
 |false=>
  rw[ky aO] at bf;exact WT (N:=N) cI (lk.2 ⟨y,bf,rfl⟩) aC
theorem Yo{callf:bL}(cI:jD P callf){S:jo}{rs:List Nat}{N base:Nat}{ops:Array Oper}{G:ax J->ah->Prop}(jd:∀F X,G F X->cG X):∀(n:Nat) (listed:Array Bool) (F:ax J) (X:ah),rA P callf N ops S rs base G n listed F X->cG X
 |0,_,_,_,h=>jd _ _ h.2
 |n+1,listed,F,X,h=>by
  cases aI:Region.ready .any ops listed with
  |nil=>exact jd _ _ (h.1 aI)
  |cons i is=>
   obtain⟨aM,X1,⟨o,_,h1,_⟩,h2⟩:=h.2 i (by rw[aI];exact List.mem_cons_self ..);exact WQ cI h1 (Yo cI jd n _ _ _ h2)
def Env.cut(E:Env)(b:Nat):Env:={f:=λk=>if k<b then E k else none,n:=b}
theorem al3{b:Nat}{y:J}{v:Value}(aL:kt b y=true){m:Nat}(hm:b<=m)(h:Den E y v):Den (E.cut m) y v:=by
 cases y with
 |val x=>exact h
 |int k n=>exact h
 |bool b=>exact h
 |str s=>exact h
 |ptr k off=>
  obtain⟨id,c,ai,rfl⟩:=h
  have:k<b:=by simp only[kt] at aL;rw[Nat.blt_eq] at aL;exact aL
  exact⟨id,c,by show(if k<m then E k else none)=_;rw[if_pos (by omega)];exact ai,rfl⟩
 |aZ k off len cap lo=>
  have:k<b:=by simp only[kt] at aL;rw[Nat.blt_eq] at aL;exact aL
  have acR:(E.cut m) k=E k:=if_pos (by omega);cases cap with
  |none=>obtain⟨id,c,⟨ai,ae⟩,rfl⟩:=h;exact⟨id,c,⟨by rw[acR];exact ai,ae⟩,rfl⟩
  |some cap=>obtain⟨id,c,ai,rfl⟩:=h;exact⟨id,c,by rw[acR];exact ai,rfl⟩
 |fn f a b=>simp[kt] at aL
 |pK t x=>simp[kt] at aL
 |agg cs=>simp[kt] at aL
 |bm cs=>simp[kt] at aL
 |fw k=>simp[kt] at aL
 |mp k=>simp[kt] at aL
 |kR k=>simp[kt] at aL
theorem Zt{b m:Nat}(hm:b<=m):∀{ys:List J} {vs:List Value},pO b ys=true->cg E ys vs->cg (E.cut m) ys vs
 | [],_,_,h=>h
 |y::ys,_,aL,⟨v,vs,hv,h,e⟩=>by
  simp only[pO,Bool.and_eq_true] at aL;exact⟨v,vs,al3 aL.1 hm hv,Zt hm aL.2 h,e⟩
theorem aqQ{o:Oper}{a:Act}{bA:List J}{X af:ah}{y:J}{base m:Nat}(aB:bP P B aY X E w)(aO:yG o.op=true)(hv:cg E bA (o.op.operands.toList.map a.eval))(nS:pO base bA=true)
 (acM:base<=m)(lN:X.aK<=base)(ac9:m<X.next)(Dx:E m=none)(h:dO P o.op bA {X with next:=m}=some (y,af))(aC:cG X):
 ∃id c v w',((execOp a.eval o).run P w= .ok (.value v) w'\/((execOp a.eval o).run P w= .ok .skip w'/\v=undef))/\Den (E.put m id c) y v/\bP P B aY {af with next:=X.next} (E.put m id c) w':=by
 obtain⟨ob,an0,gT,k8⟩:=aeD aO h
 let z0:ah:={X with aV:={iS:= .nil,base:=λ_=>none},next:=m}
 have aI:dO P o.op bA z0=some (y,(z0.new ob).2):=k8 z0 rfl
 have anQ:bP P w.heap.size w z0 (E.cut m) w:=by
  refine⟨rfl,rfl,rfl,Nat.le_refl _,λ_ _=>rfl,λk o ai=>(by cases ai),λk b5 o o' id c a3 ai=>(by cases ai),λk ai=>if_neg (Nat.not_lt.2 ai),λg bd=>?_,Nat.le_refl _⟩;obtain⟨c,ae⟩:=aB.m8 g bd
  have:g<X.aK:=bd
  exact⟨c,by show(if g<m then E g else none)=_;rw[if_pos (by omega)];exact ae⟩
 obtain⟨aQ,v,w',hle,fx,aH,eu⟩:=WH anQ (Zt acM nS hv) (show cG (z0.new ob).2 from aC) aI
 have th:(z0.new ob).2.aV.get m=some ob:=by
  show(cE.put _ m ob).get m=some ob;rw[cE.kG,if_pos rfl]
 obtain⟨id,c,tj,fs,rQ⟩:=eu.obj m ob th
 have jv:Sub aQ (E.put m id c):=λk x ar=>by
  rcases Nat.lt_trichotomy k m with ai|ai|ai
  ·rw[Env.q2 E id c (by omega), <- show E.cut m k=E k from if_pos ai, <- hle.2.2 k ai];exact ar
  ·subst ai;rw[Env.lS, <- tj];exact ar
  ·rw[eu.fresh k ai] at ar;cases ar
 have Qn:Sub E (E.put m id c):=Env.WY Dx
 have yr:∀k o',X.aV.get k=some o'->∀i a3,E k=some (i,a3)->i<w.heap.size:=by
  intro k o' ai i a3 he;obtain⟨i',a2,fF,Qj,_⟩:=aB.obj k o' ai;obtain⟨_,nU⟩:=Qj.there;rw[he] at fF;cases fF;rcases Nat.lt_or_ge i w.heap.size with h1|h1
  ·exact h1
  ·rw[Array.getElem?_eq_none h1] at nU;cases nU
 have aov:=rQ (.inl gT);subst an0
 refine⟨id,c,v,w',fx,aH.sub jv,eu.os.trans aB.os,eu.tape.trans aB.tape,eu.output.trans aB.output,Nat.le_trans aB.base eu.base,λk ai=>(eu.gz k (Nat.lt_of_lt_of_le ai aB.base)).trans (aB.gz k ai),λk o' ai=>?_,
  λk b5 dN df i aS a2 ai cP he fF=>?_,λk ai=>?_,λg bd=>let ⟨a3,fr⟩:=aB.m8 g bd;⟨a3,Qn _ _ fr⟩,aB.j7⟩
 ·rcases cE.iI ai with⟨e,aA⟩|⟨e,aq⟩
  ·subst aA;rw[e];exact⟨id,c,Env.lS _ _ _ _,fs.sub jv,λ_=>Nat.le_trans aB.base aov⟩
  ·obtain⟨i,a3,he,DM,ag⟩:=aB.obj k o' aq;exact⟨i,a3,Qn _ _ he,by rw[eu.gz i (yr k o' aq i a3 he)];exact DM.sub Qn,ag⟩
 ·rcases cE.iI ai with⟨e,_⟩|⟨e,aq⟩<;>rcases cE.iI cP with⟨bg,_⟩|⟨bg,gh⟩
  ·have az:k=m:=e;have aA:b5=m:=bg;rw[az,aA]
  ·have az:k=m:=e;rw[az,Env.lS] at he;cases he;have aA:b5≠m:=bg;rw[Env.q2 E id c aA] at fF
   have:=yr b5 df gh _ _ fF
   omega
  ·have az:b5=m:=bg;rw[az,Env.lS] at fF;cases fF;have aA:k≠m:=e;rw[Env.q2 E id c aA] at he
   have:=yr k dN aq _ _ he
   omega
  ·have az:k≠m:=e;have aA:b5≠m:=bg;rw[Env.q2 E id c az] at he;rw[Env.q2 E id c aA] at fF;exact aB.inj k b5 dN df i aS a2 aq gh he fF
 ·have AL:X.next<=k:=ai
  rw[Env.q2 E id c (by omega)];exact aB.fresh k AL
theorem ahw{callf:bL}(ae:fM callf){rs:List Nat}{base k:Nat}{ops:List Oper}{o:Oper}{F:ax J}{X af:ah}{y:J}(h:mq P callf ops rs base k o F X=some (y,af)):X.next<=af.next:=by
 cases aO:hy rs k o.op with
 |true=>obtain⟨ob,rfl,_⟩:=tU aO h;exact Nat.le_refl _
 |false=>
  rw[ky aO] at h;exact(u4 ae h).next
theorem Xa{callf:bL}(ae:fM callf)(cI:jD P callf){S:jo}{rs:List Nat}{N base:Nat}{ops:Array Oper}(j2:∀o∈ops,pQ o.op=true){G:ax J->ah->Prop}(jd:∀F X,G F X->cG X)(ro:Option Nat)
 {Q:Exit->Act->World->Prop}:∀(n:Nat) (listed:Array Bool) (F:ax J) (X:ah) (E:Env) (a:Act) (w:World),rA P callf N ops S rs base G n listed F X->bP P B aY X E w->e7 bh N E F a->X.cK=[]->
   (∀i o,listed.getD i true=false->ops[i]?=some o->hy rs i o.op=true->E (base+i)=none)->E.n=base+ops.size->base+ops.size<=X.next->X.aK<=base->
   (∀aM X1 aQ a' w',G aM X1->Sub E aQ->(∀k,k<base->aQ k=E k)->aQ.n=E.n->e7 bh N aQ aM a'->bP P B aY X1 aQ w'->Q .normal a' w')->wpAnyIn (fH ro) 0 P .any ops Q n listed a w
 |0,_,F,X,E,a,w,h,aB,aT,_,_,_,_,_,cB=>⟨h.1,cB F X E a w h.2 (Sub.refl _) (λ_ _=>rfl) rfl aT aB⟩
 |n+1,listed,F,X,E,a,w,h,aB,aT,adk,AS,Iw,acI,lN,cB=>by
  refine⟨λaI=>cB F X E a w (h.1 aI) (Sub.refl _) (λ_ _=>rfl) rfl aT aB,λi hi=>?_⟩;obtain⟨aM,X1,⟨o,aq,h1,_⟩,h2⟩:=h.2 i hi;have uK:=Array.mem_of_getElem? aq;have aoz:=(Array.getElem?_eq_some_iff.1 aq).1;have DU:=(mem_ready.1 hi).1;obtain⟨y,bf,rfl⟩:=jy.1 h1;have tn:=Yo cI jd n _ _ _ h2;have ade:=ahw ae bf;obtain⟨ad2,aJ⟩:=Lb ae bf;unfold wpOpIn;simp only[aq];cases aO:hy rs i o.op with
  |false=>
   rw[ky aO] at bf;refine ahE (N:=N) cI aB aT (j2 o uK) (lk.2 ⟨y,bf,rfl⟩) tn ro (λaQ a' w' ak aD a7=>?_);refine Xa ae cI j2 jd ro n _ _ X1 aQ a' w' h2 a7 aD (ad2 adk) (λj cf aa eQ nT=>?_) (ak.1.trans Iw) (Nat.le_trans acI ade) (by rw[aJ];exact lN) (λbD c4 nv uj u6 bX b2 hf kF=>cB bD c4 nv uj u6 bX (ak.sub.trans b2) (λk ai=>(hf k ai).trans (ak.2.2 k (by omega))) (kF.trans ak.1));have AJ:=(Array.getElem?_eq_some_iff.1 eQ).1;rw[ak.2.2 (base+j) (by omega)];exact AS j cf (getD_set_true aa).1 eQ nT
  |true=>
   have fk:=bf;unfold mq at fk;simp only[aO,cond_true] at fk;split at fk<;>try(cases fk;done)
   rename_i aot;split at fk<;>try(cases fk;done)
   rename_i bA aL;cases nS:pO base bA with
   |false=>simp[nS] at fk
   |true=>
   simp only[nS,cond_true] at fk;split at fk<;>try(cases fk;done)
   rename_i tW c4 al;cases fk;have ao1:cG X:=WQ cI h1 tn;obtain⟨id,c,v,w',fx,aH,Pw⟩:=aqQ (a:=a) aB (y3 aO) (Ee aB aT aL) nS (by omega) lN (by omega) (AS i o DU aq aO) al ao1;have Dx:=AS i o DU aq aO;have jv:Sub E (E.put (base+i) id c):=Env.WY Dx;have PB:e7 bh N (E.put (base+i) id c) F a:=⟨aT.1,aT.2.1,λj z aa=>let ⟨l,u,g1,g2⟩:=aT.2.2 j z aa;⟨l,u,g1,g2.sub jv⟩⟩
   have mb:wpAnyIn (fH ro) 0 P .any ops Q n (listed.setIfInBounds i true) (a.put o.dst v) w':=by
    refine Xa ae cI j2 jd ro n _ _ _ _ _ w' h2 Pw (PB.put aH) (ad2 adk) (λj cf aa eQ nT=>?_) Iw (Nat.le_trans acI ade) (by rw[aJ];exact lN) (λbD c4 nv uj u6 bX b2 hf kF=>cB bD c4 nv uj u6 bX (jv.trans b2) (λk ai=>(hf k ai).trans (Env.q2 E id c (by omega))) kF);obtain⟨g1,g2⟩:=getD_set_true aa;rw[Env.q2 E id c (by omega)];exact AS j cf g1 eQ nT
   have hw:Region.wanted o (yielded ops a.tmps)=true:=by simp[Region.wanted,aot]
   rw[if_pos hw];refine⟨λ_ _=>trivial,?_⟩
   have DQ:o.semAt (fH ro).round a.eval=execOp a.eval o:=by
    cases ro with
    |none=>rfl
    |some l=>exact Oper.semAt_some l _ o (λc ae=>by have gb:=y3 aO;rw[ae] at gb;cases gb)
   rw[DQ];rcases fx with h|⟨h,e⟩
   ·rw[h];exact mb
   ·rw[h];subst e;exact mb
structure zP (b:Nat) (X af:ah):Prop where
 cK:X.cK=[]->af.cK=[]
 aK:af.aK=X.aK
 cn:∀k o o',k<b->X.aV.get k=some o->af.aV.get k=some o'->o.cn<=o'.cn/\(o'.cn=o.cn->o'=o)
 dead:∀k,k<b->X.aV.get k=none->af.aV.get k=none
 pc:cG af->cG X
theorem zP.trans{b:Nat}{X Y Z:ah}(h:zP b X Y)(h':zP b Y Z):zP b X Z:=by
 refine⟨λaq=>h'.cK (h.cK aq),h'.aK.trans h.aK,λk o o' ai aq gh=>?_,λk ai aH=>h'.dead k ai (h.dead k ai aH),λp=>h.pc (h'.pc p)⟩;cases bf:Y.aV.get k with
 |none=>have:=h'.dead k ai bf;rw[gh] at this;cases this
 |some oy=>
  obtain⟨ak,aD⟩:=h.cn k o oy ai aq bf;obtain⟨bX,b2⟩:=h'.cn k oy o' ai bf gh;exact⟨Nat.le_trans ak bX,λe=>by rw[b2 (by omega),aD (by omega)]⟩
theorem ahv{callf:bL}(ae:fM callf){rs:List Nat}{base k:Nat}{ops:List Oper}{o:Oper}{F:ax J}{X af:ah}{y:J}(ag:base<=X.next)(h:mq P callf ops rs base k o F X=some (y,af)):zP base X af/\base<=af.next:=by
 cases aO:hy rs k o.op with
 |true=>
  obtain⟨ob,rfl,_⟩:=tU aO h;refine⟨⟨λh=>h,rfl,λj a b aa h h'=>?_,λj aa h=>?_,λh=>h⟩,ag⟩
  ·rcases cE.iI h' with⟨e,_⟩|⟨_,h2⟩
   ·omega
   ·rw[h] at h2;cases h2;exact⟨Nat.le_refl _,λ_=>rfl⟩
  ·show(X.aV.put (base+k) ob).get j=none;cases h':(X.aV.put (base+k) ob).get j with
   |none=>rfl
   |some b=>
    rcases cE.iI h' with⟨e,_⟩|⟨_,h2⟩
    ·omega
    ·rw[h] at h2;cases h2
 |false=>
  rw[ky aO] at h;have k:=u4 ae h;exact⟨⟨k.cK,k.aK,λj a b aa=>k.cn j a b (by omega),λj aa=>k.dead j (by omega),k.pc⟩,Nat.le_trans ag k.next⟩
theorem ZW{callf:bL}(ae:fM callf){rs:List Nat}{bU:List (Nat×List Nat)}{N base:Nat}{ops:List Oper}:∀{bO:List Nat} {bK:List (Nat×Option Nat)} {F F':ax J} {X af:ah},base<=X.next->ja P callf N ops rs bU base bO bK F X=some (F',af)->zP base X af/\base<=af.next
 | [],_,_,_,_,_,ag,h=>by
   simp only[ja,Option.some.injEq,Prod.mk.injEq] at h;obtain⟨rfl,rfl⟩:=h;exact⟨⟨λh=>h,rfl,λk o o' _ h h'=>(by rw[h] at h';cases h';exact⟨Nat.le_refl _,λ_=>rfl⟩),λ_ _ h=>h,λh=>h⟩,ag⟩
 |k::bO,bK,F,F',X,af,ag,h=>by
  simp only[ja] at h;split at h<;>try(cases h;done)
  rename_i o _;generalize pP P ops base o F X=b at h;cases b with
  |false=>cases h
  |true=>
   simp only[cond_true] at h;split at h<;>try(cases h;done)
   rename_i aM X1 al;generalize ki bK X X1 (ig bU k)=b at h;cases b with
   |false=>cases h
   |true=>
   simp only[cond_true] at h;obtain⟨y,bf,_⟩:=jy.1 al;obtain⟨k1,k2⟩:=ahv ae ag bf;obtain⟨hx,n1⟩:=ZW ae k2 h;exact⟨k1.trans hx,n1⟩
theorem ZY{callf:bL}(cI:jD P callf){rs:List Nat}{bU:List (Nat×List Nat)}{N base:Nat}{ops:List Oper}:∀{bO:List Nat} {bK:List (Nat×Option Nat)} {F F':ax J} {X af:ah},ja P callf N ops rs bU base bO bK F X=some (F',af)->cG af->cG X
 | [],_,_,_,_,_,h,aC=>by simp only[ja,Option.some.injEq,Prod.mk.injEq] at h;obtain⟨rfl,rfl⟩:=h;exact aC
 |k::bO,bK,F,F',X,af,h,aC=>by
  simp only[ja] at h;split at h<;>try(cases h;done)
  rename_i o _;generalize pP P ops base o F X=b at h;cases b with
  |false=>cases h
  |true=>
   simp only[cond_true] at h;split at h<;>try(cases h;done)
   rename_i aM X1 al;generalize ki bK X X1 (ig bU k)=b at h;cases b with
   |false=>cases h
   |true=>
   simp only[cond_true] at h;exact WQ cI al (ZY cI h aC)
end
section
variable{P:Program}{B:Nat}{aY w:World}{E:Env}{bh:List Deferred}{X:ah}
theorem bP.gY(h:bP P B aY X E w)(l:List eO):bP P B aY {X with bs:=l} E w:=h.same rfl rfl rfl
theorem ahB{callf:bL}(cI:jD P callf)(ae:fM callf){N:Nat}{F F':ax J}{a:Act}{ops:Array Oper}{o:Oper}{af:ah}{r:Option gL}(aB:bP P B aY X E w)(aT:e7 bh N E F a)(da:jR E X.bs bh)
 (j2:Bp o.op=true)(ro:Option Nat)(aoj:nZ o.op=true->ro=none)(h:kz P callf N ops.toList o F X=some (r,F',af))(aC:cG af){K:Act->World->Prop}{Q:Exit->Act->World->Prop}
 (mb:r=none->∀aQ dM a' w',cM E aQ->e7 dM N aQ F' a'->jR aQ af.bs dM->bP P B aY af aQ w'->K a' w')
 (cB:∀bj,r=some bj->∀aQ dM a' w' l,cM E aQ->e7 dM N aQ F' a'->jR aQ af.bs dM->bP P B aY af aQ w'->lu aQ bj l->Q (.panic l) a' w'):
 if Region.wanted o (yielded ops a.tmps) then o.wpIn (fH ro) 0 P a w K Q
 else(∀f,o.about P w a.eval=some f->(fH ro).fn f)/\K (a.put o.dst undef) w:=by
 unfold kz at h;split at h
 ·rename_i X1 hw;obtain⟨h1,h2,h3,aW⟩:=Lw aT hw;have tf:X1.bs=X.bs:=(w1 hw).bs;cases aH:nZ o.op with
  |true=>
   rw[aH] at h;simp only[cond_true] at h;split at h<;>try(cases h;done)
   rename_i d mJ;cases h;rw[(h1 aC).2,if_pos rfl];refine⟨λ_ _=>trivial,?_⟩;have gT:=aoj aH;subst gT;unfold He at mJ;split at mJ<;>try(cases mJ;done)
   rename_i c pI;split at mJ<;>try(cases mJ;done)
   rename_i anb f b6 qj args hW aL;cases mJ;have j1:o.op.operands.toList=anb::c.args.toList:=by rw[pI];simp[Op.operands,Call.operands,hW]
   rw[j1] at aL;obtain⟨u,us,⟨sq,sr,D1,D2,hu⟩,yE,e⟩:=Ee (aB.same h2 h3 aW) aT aL;simp only[List.map_cons,List.cons.injEq] at e;obtain⟨az,aA⟩:=e;have wa:Array.map a.eval c.args=us.toArray:=by rw[<- aA, <- Array.toList_inj];simp
   have fx:(o.semAt (fH none).round a.eval).run P w= .ok (.defer {target:= .fn (.func f) sr.toArray,args:=(sq++us).toArray}) w:=by
    have:o.semAt (fH none).round a.eval=execOp a.eval o:=rfl
    rw[this];simp[execOp,pI,resolve,hW,az,hu,Deferred.ofValue,wa]
   rw[fx,Oper.uponIn_defer];refine mb rfl E ({target:= .fn (.func f) sr.toArray,args:=(sq++us).toArray}::bh) _ w (cM.refl _) ?_ ?_ ((aB.same h2 h3 aW).gY _)
   ·have PB:e7 ({target:= .fn (.func f) sr.toArray,args:=(sq++us).toArray}::bh) N E F {a with defers:={target:= .fn (.func f) sr.toArray,args:=(sq++us).toArray}::a.defers}:=⟨by simp[aT.1],aT.2⟩;exact PB.put rfl
   ·refine⟨_,bh,⟨sq++us,sr,D1.append yE,D2,rfl⟩,?_,rfl⟩;show jR E X1.bs bh;rw[tf];exact da
  |false=>
   rw[aH] at h;simp only[cond_false] at h
   have tm:pQ o.op=true:=by
    cases aq:o.op<;>first|rfl|(rw[aq] at j2;simp[Bp] at j2;done)|(rw[aq] at aH;simp[nZ] at aH)
   split at h
   ·rename_i y c4 aq;cases h;have jg:=CG cI aq aC;rw[(h1 jg).2,if_pos rfl];have oH:af.bs=X.bs:=((Hk ae aq).bs).trans tf
    exact Rp cI (aB.same h2 h3 aW) aT tm aq aC ro (λz a1 aQ v w' ak aD a7=>by
     cases a1
     exact mb rfl aQ bh _ w' ak ((aT.mono ak).put aD) (by rw[oH];exact da.sub ak.sub) a7) (λbj a1=>by cases a1)
   ·rename_i bj c4 aq;cases h;have jg:=CG cI aq aC;rw[(h1 jg).2,if_pos rfl];have oH:af.bs=X.bs:=((Hk ae aq).bs).trans tf
    exact Rp cI (aB.same h2 h3 aW) aT tm aq aC ro (λz a1=>by cases a1) (λY2 a1 aQ l w' ak aD a7=>by
     cases a1
     exact cB _ rfl aQ bh a w' l ak (aT.mono ak) (by rw[oH];exact da.sub ak.sub) a7 aD)
   ·cases h
 ·rename_i X1 hw;cases h;obtain⟨h1,h2,h3,aW⟩:=Lw aT hw;rw[(h1 aC).2,if_neg (by simp)];have tf:af.bs=X.bs:=(w1 hw).bs;exact⟨λ_ _=>trivial,mb rfl E bh _ w (cM.refl _) (aT.put rfl) (by rw[tf];exact da) (aB.same h2 h3 aW)⟩
 ·cases h
theorem ahA{callf:bL}(cI:jD P callf){N:Nat}{ops:List Oper}{o:Oper}{F F':ax J}{af:ah}{r:Option gL}(h:kz P callf N ops o F X=some (r,F',af))(aC:cG af):cG X:=by
 unfold kz at h;split at h
 ·rename_i X1 hw;cases aH:nZ o.op with
  |true=>
   rw[aH] at h;simp only[cond_true] at h;split at h<;>cases h
   exact BX hw aC
  |false=>
   rw[aH] at h;simp only[cond_false] at h;split at h
   ·rename_i aq;cases h;exact BX hw (CG cI aq aC)
   ·rename_i aq;cases h;exact BX hw (CG cI aq aC)
   ·cases h
 ·rename_i hw;cases h;exact BX hw aC
 ·cases h
theorem Hl{callf:bL}(cI:jD P callf){N:Nat}{ops:List Oper}:∀{l:List Oper} {F F':ax J} {X af:ah} {r:Option gL},km P callf N ops l F X=some (r,F',af)->cG af->cG X
 | [],_,_,_,_,_,h,aC=>by cases h;exact aC
 |o::l,F,F',X,af,r,h,aC=>by
  simp only[km] at h;split at h
  ·rename_i aM X1 al;exact ahA cI al (Hl cI h aC)
  ·exact ahA cI h aC
theorem NR{callf:bL}(cI:jD P callf)(ae:fM callf){N:Nat}{ops:Array Oper}(ro:Option Nat){Q:Exit->Act->World->Prop}{F':ax J}{af:ah}{r:Option gL}(aC:cG af):
 ∀(l:List Oper) (F:ax J) (X:ah) (E:Env) (bh:List Deferred) (a:Act) (w:World),(∀o∈l,Bp o.op=true/\(nZ o.op=true->ro=none))->bP P B aY X E w->e7 bh N E F a->jR E X.bs bh->km P callf N ops.toList l F X=some (r,F',af)->
  (r=none->∀aQ dM a' w',cM E aQ->e7 dM N aQ F' a'->jR aQ af.bs dM->bP P B aY af aQ w'->Q .normal a' w')->
  (∀bj,r=some bj->∀aQ dM a' w' p,cM E aQ->e7 dM N aQ F' a'->jR aQ af.bs dM->bP P B aY af aQ w'->lu aQ bj p->Q (.panic p) a' w')->wpListIn (fH ro) 0 P ops Q l a w
 | [],F,X,E,bh,a,w,_,aB,aT,da,h,cB,_=>by cases h;exact cB rfl E bh a w (cM.refl _) aT da aB
 |o::l,F,X,E,bh,a,w,al,aB,aT,da,h,cB,dI=>by
  simp only[km] at h;obtain⟨s1,s2⟩:=al o (List.mem_cons_self ..);unfold wpListIn;split at h
  ·rename_i aM X1 dv
   exact ahB cI ae aB aT da s1 ro s2 dv (Hl cI h aC)
    (λ_ aQ dM a' w' h1 h2 h3 aW=>NR cI ae ro aC l aM X1 aQ dM a' w' (λo' gh=>al o' (List.mem_cons_of_mem _ gh)) aW h2 h3 h
      (λaI nv Nv uj u6 k1=>cB aI nv Nv uj u6 (h1.trans k1)) (λbj aI nv Nv uj u6 p k1=>dI bj aI nv Nv uj u6 p (h1.trans k1)))
    (λbj aI=>by cases aI)
  ·rename_i b4;refine ahB cI ae aB aT da s1 ro s2 h aC (λaI=>?_) dI;subst aI;exact absurd h (b4 F' af)
def tS(F:Fence)(m:Nat)(P:Program)(c:Code)(Q:Exit->Act->World->Prop):Nat->Exit->Act->World->Prop
 |n,.goto l,a,w=>match findLabel c l with
  |none=>Q (.goto l) a w
  |some rest=>match n with
   |0=>False
   |n+1=>rest.wpIn F m P (tS F m P c Q n) a w
 |_,e,a,w=>Q e a w
theorem aBM{b:Frame}{a:Act}{c:Code}{k:List Item}{cs:List Frame}:step P (lone (b.atR a (.code (.scope c)::k)) cs w)= .next (lone (b.atR a (.code c:: .inScope c::k)) cs w):=
 step_lone_go (by simp[stepG,stepG.exec,Frame.atR])
theorem ahC{b:Frame}{a:Act}{c:Code}{k:List Item}{cs:List Frame}:step P (lone (b.atR a (.inScope c::k)) cs w)= .next (lone (b.atR a k) cs w):=
 step_lone_go (by simp[stepG,stepG.exec,Frame.atR])
theorem aBf{F:Fence}{m:Nat}{c:Code}{Q:Exit->Act->World->Prop}:∀(n:Nat) (x:Code) (a:Act) (w:World),x.wpIn F m P (tS F m P c Q n) a w->∀(b:Frame) (k:List Item) (cs:List Frame),b.roundOf=F.round->F.fn b.fn->F.room (cs.length+1+m)->
 ∃e a' w',Q e a' w'/\ArrivesIn (Machine.fenced P F) P (lone (b.atR a (.code x:: .inScope c::k)) cs w) b k cs e a' w':=by
 intro n
 induction n with
 |zero=>
  intro x a w h b k cs gT ag aI;obtain⟨e,om,o4,a0,k5⟩:=h b (.inScope c::k) cs gT ag aI;cases e with
  |normal=>exact⟨.normal,om,o4,a0,StepsIn.trans k5 (.one (fenced_calm ag aI rfl) ahC)⟩
  |exit id=>exact⟨.exit id,om,o4,a0,λb5 ai=>k5.1 b5 (by simp[exitTo,ai]),λlO ai=>k5.2 lO (by simp[exitTo,ai])⟩
  |goto l=>
   simp only[tS] at a0;split at a0
   ·rename_i an;have ar:gotoIn l (.inScope c::k)=gotoIn l k:=by simp[gotoIn,an]
    exact⟨.goto l,om,o4,a0,λb5 ai=>k5.1 b5 (by rw[ar];exact ai),λlO ai=>k5.2 lO (by rw[ar];exact ai)⟩
   ·exact a0.elim
  |ret=>exact⟨_,om,o4,a0,k5⟩
  |panic bj=>exact⟨_,om,o4,a0,k5⟩
  |outgrown=>exact⟨_,om,o4,a0,k5⟩
 |succ n bc=>
  intro x a w h b k cs gT ag aI;obtain⟨e,om,o4,a0,k5⟩:=h b (.inScope c::k) cs gT ag aI;cases e with
  |normal=>exact⟨.normal,om,o4,a0,StepsIn.trans k5 (.one (fenced_calm ag aI rfl) ahC)⟩
  |exit id=>exact⟨.exit id,om,o4,a0,λb5 ai=>k5.1 b5 (by simp[exitTo,ai]),λlO ai=>k5.2 lO (by simp[exitTo,ai])⟩
  |goto l=>
   simp only[tS] at a0;split at a0
   ·rename_i an;have ar:gotoIn l (.inScope c::k)=gotoIn l k:=by simp[gotoIn,an]
    exact⟨.goto l,om,o4,a0,λb5 ai=>k5.1 b5 (by rw[ar];exact ai),λlO ai=>k5.2 lO (by rw[ar];exact ai)⟩
   ·rename_i rest an;have ar:gotoIn l (.inScope c::k)=some (.code rest:: .inScope c::k):=by simp[gotoIn,an]
    obtain⟨amJ,akm,aDz,ao6,an3⟩:=bc rest om o4 a0 b k cs gT ag aI;exact⟨amJ,akm,aDz,ao6,.of_steps (k5.1 _ ar) an3⟩
  |ret=>exact⟨_,om,o4,a0,k5⟩
  |panic bj=>exact⟨_,om,o4,a0,k5⟩
  |outgrown=>exact⟨_,om,o4,a0,k5⟩
theorem Xb{F:Fence}{m n:Nat}{c:Code}{Q:Exit->Act->World->Prop}{a:Act}(h:c.wpIn F m P (tS F m P c Q n) a w):(Code.scope c).wpIn F m P Q a w:=λb k cs gT ag aI=>by
 obtain⟨e,a',w',a0,k5⟩:=aBf n c a w h b k cs gT ag aI;exact⟨e,a',w',a0,.of_steps (.one (fenced_calm ag aI rfl) aBM) k5⟩
theorem G6{ord:Nat->Hint}{rd:Bool}:∀(c:Code) (l:Nat) (rest:Code),gn P ord rd c=true->findLabel c l=some rest->gn P ord rd rest=true
 | .seq a b,l,rest,h,an=>by
   simp only[gn,Bool.and_eq_true] at h;simp only[findLabel] at an;split at an
   ·rename_i r aI;cases an;simp only[gn,Bool.and_eq_true];exact⟨G6 a l r h.1 aI,h.2⟩
   ·exact G6 b l rest h.2 an
 | .label dD,l,rest,_,an=>by
   simp only[findLabel] at an;split at an<;>cases an
   rfl
 | .skip,_,_,_,an=>by simp[findLabel] at an
 | .region _ _ _,_,_,_,an=>by simp[findLabel] at an
 | .cond _ _ _,_,_,_,an=>by simp[findLabel] at an
 | .block _ _,_,_,_,an=>by simp[findLabel] at an
 | .loop _,_,_,_,an=>by simp[findLabel] at an
 | .rangeFunc _ _ _ _,_,_,_,an=>by simp[findLabel] at an
 | .exit _,_,_,_,an=>by simp[findLabel] at an
 | .scope _,_,_,_,an=>by simp[findLabel] at an
 | .goto _,_,_,_,an=>by simp[findLabel] at an
 | .ret,_,_,_,an=>by simp[findLabel] at an
 | .refuse _,_,_,_,an=>by simp[findLabel] at an
end
section
variable{P:Program}{B:Nat}{aY w:World}{E:Env}{bh:List Deferred}
def L8(E:Env):hq->Exit->Prop
 | .cz,e=>e= .normal
 | .ex id,e=>e= .exit id
 | .ret,e=>e= .ret
 | .gt l,e=>e= .goto l
 | .cD bj,e=>∃p,lu E bj p/\e= .panic p
def xv(E:Env):Option Nat->Option Nat->Prop
 |none,ro=>ro=none
 |some k,ro=>∃l c,E k=some (l,c)/\ro=some l
theorem xv.sub{E aQ:Env}(aB:Sub E aQ){rd ro:Option Nat}(h:xv E rd ro):xv aQ rd ro:=by
 cases rd with
 |none=>exact h
 |some k=>obtain⟨l,c,h1,h2⟩:=h;exact⟨l,c,aB _ _ h1,h2⟩
def uf(P:Program)(B:Nat)(aY:World)(N:Nat)(E:Env)(ex:hq)(F':ax J)(af:ah)(Q:Exit->Act->World->Prop):Prop:=
 ∀aQ dM a' w' e,cM E aQ->e7 dM N aQ F' a'->jR aQ af.bs dM->bP P B aY af aQ w'->L8 aQ ex e->Q e a' w'
theorem uf.le{N:Nat}{E fK:Env}{ex:hq}{F':ax J}{af:ah}{Q:Exit->Act->World->Prop}(h:uf P B aY N E ex F' af Q)(hle:cM E fK):uf P B aY N fK ex F' af Q:=
 λaQ dM a' w' e h1=>h aQ dM a' w' e (hle.trans h1)
theorem uf.mono{N:Nat}{E:Env}{ex:hq}{F':ax J}{af:ah}{Q X0:Exit->Act->World->Prop}(h:uf P B aY N E ex F' af Q)(a0:∀aQ e a w,L8 aQ ex e->Q e a w->X0 e a w):uf P B aY N E ex F' af X0:=
 λaQ dM a' w' e h1 h2 h3 aW bz=>a0 aQ e a' w' bz (h aQ dM a' w' e h1 h2 h3 aW bz)
def vm(P:Program)(rd:Option Nat)(N:Nat)(c:Code)(F:ax J)(X:ah)(ex:hq)(F':ax J)(af:ah):Prop:=
 cG X/\∀(ro:Option Nat) B aY E bh a w (Q:Exit->Act->World->Prop),bP P B aY X E w->e7 bh N E F a->jR E X.bs bh->xv E rd ro->uf P B aY N E ex F' af Q->c.wpIn (fH ro) 0 P Q a w
theorem bP.Rj{X:ah}(h:bP P B aY X E w)(l:List Bool):bP P B aY {X with cK:=l} E w:=h.same rfl rfl rfl
theorem ael{rd:Option Nat}{N:Nat}{c:Code}{body:ax J->ah->R}(gr:∀F X ex F' af,body F X=some (ex,F',af)->cG af->vm P rd N c F X ex F' af):∀(fuel:Nat) (F:ax J) (X:ah) (ex:hq) (F':ax J) (af:ah),
 iQ body fuel F X=some (ex,F',af)->cG af->cG X/\∀(ro:Option Nat) B aY E bh a w (Q:Exit->Act->World->Prop),bP P B aY X E w->e7 bh N E F a->jR E X.bs bh->xv E rd ro->
  uf P B aY N E ex F' af Q->Code.roundsIn (fH ro) 0 P c Q fuel a w
 |0,F,X,ex,F',af,h,_=>by simp[iQ] at h
 |fuel+1,F,X,ex,F',af,h,aC=>by
  have h':(match body F X with|some (.cz,F,X)=>iQ body fuel F X|r=>r)=some (ex,F',af):=h;split at h'
  ·rename_i aM X1 ag;obtain⟨bT,k1⟩:=ael gr fuel aM X1 ex F' af h' aC;obtain⟨cm,k2⟩:=gr F X .cz aM X1 ag bT;refine⟨cm,λro B aY E bh a w Q aB aT da dI cB=>?_⟩;rw[roundsIn_succ];refine k2 ro B aY E bh a w _ aB aT da dI (λaQ dM a' w' e ak aD a7 cw dB=>?_);cases dB;exact k1 ro B aY aQ dM a' w' Q cw aD a7 (dI.sub ak.sub) (cB.le ak)
  ·rename_i r b4;obtain⟨cm,k2⟩:=gr F X ex F' af h' aC;refine⟨cm,λro B aY E bh a w Q aB aT da dI cB=>?_⟩;rw[roundsIn_succ];refine k2 ro B aY E bh a w _ aB aT da dI (cB.mono λaQ e a w he a0=>?_);cases ex with
   |cz=>exact absurd h' (b4 F' af)
   |ex id=>cases he;exact a0
   |ret=>cases he;exact a0
   |gt l=>cases he;exact a0
   |cD bj=>obtain⟨p,_,rfl⟩:=he;exact a0
theorem agH(callf:bL)(cI:jD P callf)(ae:fM callf)(hm:P.follows .mixedOrders=true){rd:Option Nat}{N:Nat}{id:Nat}{ops:Array Oper}{F F':ax J}{X af:ah}{is:List Nat}{bU:List (Nat×List Nat)}(dq:Hf P bU ops is=true)
 (h:iG P callf N ops.toList bU is [] F {X with cK:=[]}=some (F',af))(tn:cG af):vm P rd N (.region id ops true) F X .cz F' {af with cK:=X.cK}:=by
 simp only[Hf,Bool.and_eq_true,Array.all_eq_true_iff_forall_mem] at dq;obtain⟨⟨j2,hlen⟩,P8⟩:=dq;have AN:=Nat.eq_of_beq_eq_true hlen;have PS:af.bs=X.bs:=(Nr ae h).bs;refine⟨λp mN=>Zo cI h tn p mN,λro B aY E bh a w Q aB aT da dI cB=>?_⟩;refine wpIn_region_any hm ?_;obtain⟨S,pF,_⟩:=Yj ae is [] (Array.replicate ops.size false) F {X with cK:=[]} (by simp) rfl P8 h;rw[AN] at pF;refine ain cI j2 (λaM X1 bd=>by rw[bd.2];exact tn) ro ops.size _ F _ E a _ pF (aB.Rj []).drew aT ?_
 rintro aM X1 aQ a' w' ⟨he,rfl⟩ hle Di eu
 exact cB aQ bh a' w' .normal hle (Di.eqv he.symm) (by show jR aQ X1.bs bh;rw[PS];exact da.sub hle.sub) (eu.Rj _) rfl
theorem Ye{X:ah}{base:Nat}:∀{rs:List Nat},nB X base rs=true->∀{j:Nat},mG rs j=true->X.aV.get (base+j)=none
 | [],_,j,aa=>by simp[mG] at aa
 |k::bO,h,j,aa=>by
  simp only[nB,Bool.and_eq_true] at h;simp only[mG,Bool.or_eq_true] at aa;rcases aa with aa|aa
  ·have e:=Nat.eq_of_beq_eq_true aa;subst e
   have:=h.1
   cases bd:X.aV.get (base+k) with
   |none=>rfl
   |some o=>rw[bd] at this;cases this
  ·exact Ye h.2 aa
theorem ZU{callf:bL}(ae:fM callf){rs:List Nat}{bU:List (Nat×List Nat)}{N base:Nat}{ops:List Oper}:∀{bO:List Nat} {bK:List (Nat×Option Nat)} {F F':ax J} {X af:ah},ja P callf N ops rs bU base bO bK F X=some (F',af)->af.bs=X.bs
 | [],_,_,_,_,_,h=>by simp only[ja,Option.some.injEq,Prod.mk.injEq] at h;obtain⟨rfl,rfl⟩:=h;rfl
 |k::bO,bK,F,F',X,af,h=>by
  simp only[ja] at h;split at h<;>try(cases h;done)
  rename_i o _;generalize pP P ops base o F X=b at h;cases b with
  |false=>cases h
  |true=>
   simp only[cond_true] at h;split at h<;>try(cases h;done)
   rename_i aM X1 al;generalize ki bK X X1 (ig bU k)=b at h;cases b with
   |false=>cases h
   |true=>
   simp only[cond_true] at h;refine(ZU ae h).trans ?_;obtain⟨y,bf,_⟩:=jy.1 al;cases aO:hy rs k o.op with
   |true=>obtain⟨ob,rfl,_⟩:=tU aO bf;rfl
   |false=>rw[ky aO] at bf;exact(u4 ae bf).bs
theorem aqX(callf:bL)(cI:jD P callf)(ae:fM callf)(iM:kT callf)(hm:P.follows .mixedOrders=true){rd:Option Nat}{N:Nat}{id:Nat}{ops:Array Oper}{F F':ax J}{X af:ah}{is rs:List Nat}{bU:List (Nat×List Nat)}(dq:Rh P rs bU ops is=true)(yg:nB X X.next rs=true)
 (h:ja P callf N ops.toList rs bU X.next is [] F {X with cK:=[],next:=X.next+ops.size}=some (F',af))(tn:cG af):vm P rd N (.region id ops true) F X .cz F' {af with cK:=X.cK}:=by
 simp only[Rh,Bool.and_eq_true,Array.all_eq_true_iff_forall_mem] at dq;obtain⟨⟨j2,hlen⟩,P8⟩:=dq
 have yo:Kept ops rs X.next (Array.replicate ops.size false) {X with cK:=[],next:=X.next+ops.size}:=by
  intro j cf eQ _ aO;have ba:=(Array.getElem?_eq_some_iff.1 eQ).1;refine⟨?_,by show X.next+j<X.next+ops.size;omega⟩;have uK:mG rs j=true:=by simp only[hy,Bool.and_eq_true] at aO;exact aO.1
  exact Ye yg uK
 have AN:=Nat.eq_of_beq_eq_true hlen;have PS:af.bs=X.bs:=ZU (X:={X with cK:=[],next:=X.next+ops.size}) ae h;refine⟨λp mN=>ZY cI h tn p mN,λro B aY E bh a w Q aB aT da dI cB=>?_⟩;refine wpIn_region_any hm ?_;obtain⟨S,pF,_⟩:=Yn iM ae is [] (Array.replicate ops.size false) F {X with cK:=[],next:=X.next+ops.size} (by simp) yo rfl P8 h;rw[AN] at pF
 let fK:Env:={f:=E.f,n:=X.next+ops.size}
 have ya:bP P B aY {X with cK:=[],next:=X.next+ops.size} fK {w with drawn:=w.drawn+1}:=by
  have:=(aB.Rj []).drew
  exact⟨this.os,this.tape,this.output,this.base,this.gz,λk o ai=>let ⟨i,c,ak,aD,a7⟩:=this.obj k o ai;⟨i,c,ak,aD.sub (show Sub E fK from λ_ _ h=>h),a7⟩,this.inj,λk ai=>aB.fresh k (Nat.le_trans (Nat.le_add_right _ _) ai),this.m8,Nat.le_refl _⟩
 have lN:X.aK<=X.next:=by
  rcases Nat.lt_or_ge X.next X.aK with h'|h'
  ·obtain⟨c,fr⟩:=aB.m8 X.next h'
   rw[aB.fresh X.next (Nat.le_refl _)] at fr;cases fr
  ·exact h'
 have PA:e7 bh N fK F a:=⟨aT.1,aT.2.1,λj z aa=>let ⟨l,u,g1,g2⟩:=aT.2.2 j z aa;⟨l,u,g1,g2.sub (show Sub E fK from λ_ _ h=>h)⟩⟩;refine Xa ae cI j2 (λaM X1 bd=>by rw[bd.2];exact tn) ro ops.size _ F _ fK a _ pF ya PA rfl (λi o _ _ _=>aB.fresh _ (Nat.le_add_right _ _)) rfl (Nat.le_refl _) lN ?_
 rintro aM X1 aQ a' w' ⟨he,rfl⟩ jv nS aO Di eu
 have Iw:E.n<=X.next:=aB.j7
 have hle:cM E {f:=aQ.f,n:=E.n}:=⟨rfl,λk x ai=>jv k x ai,λk ai=>nS k (Nat.lt_of_lt_of_le ai Iw)⟩;refine cB {f:=aQ.f,n:=E.n} bh a' w' .normal hle ⟨Di.1,Di.2.1,λj z aa=>?_⟩ (by show jR _ X1.bs bh;rw[PS];exact da.sub hle.sub) ?_ rfl
 ·obtain⟨l,u,g1,g2⟩:=Di.2.2 j z (by rw[<- he j];exact aa);exact⟨l,u,g1,g2.sub (show Sub aQ {f:=aQ.f,n:=E.n} from λ_ _ h=>h)⟩
 ·have gv:=eu.j7;rw[aO] at gv;have aFc:X.next+ops.size<=X1.next:=gv
  exact⟨eu.os,eu.tape,eu.output,eu.base,eu.gz,λk o ai=>let ⟨i,c,ak,aD,a7⟩:=eu.obj k o ai;⟨i,c,ak,aD.sub (show Sub aQ {f:=aQ.f,n:=E.n} from λ_ _ h=>h),a7⟩,eu.inj,eu.fresh,eu.m8,by show E.n<=X1.next;omega⟩
theorem Da{id:Nat}{r:Loop}(h:w.heap[id]?=some (.loop r)):(Instr.getLoop id).run P w= .ok r w:=by
 simp[Instr.getLoop,getObj,Sem.run,h,bind,Sem.bind]
theorem azP(callf:bL)(cI:jD P callf)(ae:fM callf){ord:Nat->Hint}{me:FuncId}{rd:Option Nat}{N:Nat}{g:Operand}{ps:Array Tmp}{eW body:Code}{F F':ax J}{X af:ah}{y:J}{ex:hq}(aoX:gn P ord true eW=true)(DL:gn P ord true body=true)
 (aL:look X.aK F g=some y)(h:pV callf ord me rd N ps eW body y F X=some (ex,F',af))(aC:cG af):vm P rd N (.rangeFunc g ps eW body) F X ex F' af:=by
 unfold pV at h;split at h<;>try(cases h;done)
 rename_i f b6 qj b X1 ag
 have ao2:cG X1->cG X:=by
  intro jg;unfold sQ at ag;split at ag
  ·cases ag;exact jg
  ·split at ag<;>try(cases ag;done)
   split at ag<;>cases ag
   exact jg
 have key:∃out c4,callf (.iF f) (b6++[.fw (X1.new (il ord me N (iq (iO ord N body) F.get) ps eW body b)).1]++qj) {(X1.new (il ord me N (iq (iO ord N body) F.get) ps eW body b)).2 with bs:=[]}=some (out,c4)/\cG c4/\
  ((∃bj,out= .cD bj/\ex= .cD bj/\F'=F/\af={c4 with bs:=X1.bs})\/∃z,out= .ret z/\sX F (X1.new (il ord me N (iq (iO ord N body) F.get) ps eW body b)).1 {c4 with bs:=X1.bs}=some (ex,F',af)):=by
  split at h
  ·rename_i z c4 fE;refine⟨_,c4,fE,?_,.inr ⟨z,rfl,h⟩⟩;unfold sX at h;split at h<;>try(cases h;done)
   split at h<;>try(cases h;done)
   split at h<;>cases h
   all_goals exact aC
  ·rename_i bj c4 fE;cases h;exact⟨_,c4,fE,aC,.inl ⟨bj,rfl,rfl,rfl,rfl⟩⟩
  ·cases h
 obtain⟨out,c4,fE,yB,rX⟩:=key;obtain⟨bT,k1⟩:=cI _ _ _ _ _ fE yB;refine⟨ao2 bT,λro B aY E bh a w Q aB aT da dI cB=>?_⟩;refine wpIn_rangeFunc λfn _=>?_
 have aoa:∃fK cN mark r cS,cM E fK/\bP P B aY X1 fK cN/\fK b=some (r,cS)/\jR fK X1.bs (mark++bh)/\
  (Instr.enterLoop fn a.tmps ps eW body ro).run P w= .ok (cN.heap.size,mark) (cN.alloc (.loop {state:= .ready,pending:=none,fn:=fn,tmps:=a.tmps,params:=ps,assign:=eW,body:=body,defers:=r})):=by
  unfold sQ at ag;cases rd with
  |none=>
   have gT:ro=none:=dI;subst gT;simp only[Option.some.injEq,Prod.mk.injEq] at ag;obtain⟨rfl,rfl⟩:=ag;have hle:cM E (E.put X.next w.heap.size 0):=Env.r9 (aB.fresh _ (Nat.le_refl _)) aB.j7;refine⟨E.put X.next w.heap.size 0,w.alloc (.deferred (some [])),[{target:= .collected w.heap.size,args:= #[]}],w.heap.size,0,hle,(aB.Jm sb (.deferred (some [])) 0 λaQ _=> .inr ⟨rfl,rfl,rfl⟩).gY _,Env.lS _ _ _ _,⟨_,bh,⟨_,_,Env.lS _ _ _ _,rfl⟩,da.sub hle.sub,rfl⟩,by simp[Instr.enterLoop]⟩
  |some k=>
   obtain⟨l,c,ai,gT⟩:=dI;subst gT;simp only at ag;split at ag<;>try(cases ag;done)
   rename_i o aq;split at ag<;>try(cases ag;done)
   rename_i st ir od j5 Gb F3 Jx GQ GZ nE al;cases ag;obtain⟨gF,a3,cP,fs,_⟩:=aB.zt aq (by rw[al];simp);rw[ai] at cP;cases cP;rw[al] at fs;obtain⟨_,r,h1,_,_,_,_,_,⟨cS,dW⟩,_⟩:=fs;exact⟨E,w,[],r.defers,cS,cM.refl _,aB,dW,da,by simp[Instr.enterLoop,Da h1]⟩
 obtain⟨fK,cN,mark,r,cS,ac7,ya,Dn,anP,aob⟩:=aoa;have ac8:cM fK (fK.put X1.next cN.heap.size 0):=Env.r9 (ya.fresh _ (Nat.le_refl _)) ya.j7;have hle:=ac7.trans ac8
 let zj:Loop:={state:= .ready,pending:=none,fn:=fn,tmps:=a.tmps,params:=ps,assign:=eW,body:=body,defers:=r}
 have Pw:bP P B aY (X1.new (il ord me N (iq (iO ord N body) F.get) ps eW body b)).2 (fK.put X1.next cN.heap.size 0) (cN.alloc (.loop zj)):=
  ya.Jm (il ord me N (iq (iO ord N body) F.get) ps eW body b) (.loop zj) 0 λaQ ac6=> .inr ⟨⟨⟨aoX,DL⟩,zj,rfl,rfl,rfl,rfl,rfl,rfl,⟨cS,ac6.sub _ _ Dn⟩,((show oj N E F a.tmps from aT.2).sub (ac7.trans ac6).sub).norm⟩,rfl,rfl⟩
 have ac4:(fK.put X1.next cN.heap.size 0) (X1.new (il ord me N (iq (iO ord N body) F.get) ps eW body b)).1=some (cN.heap.size,0):=Env.lS _ _ _ _;have bd:=Bk aB aT aL;obtain⟨sq,sr,D1,D2,aou⟩:=bd;have I1:cg (fK.put X1.next cN.heap.size 0) [.fw (X1.new (il ord me N (iq (iO ord N body) F.get) ps eW body b)).1] [Value.func (.yield cN.heap.size) #[] #[]]:=⟨_,_,⟨_,_,ac4,rfl⟩,rfl,rfl⟩;have aod:a.eval (.const (.func (.yield cN.heap.size) #[] #[]))= .func (.yield cN.heap.size) #[] #[]:=rfl
 obtain⟨am3,yk,gr,DH,rR⟩:=k1 B aY (fK.put X1.next cN.heap.size 0) (cN.alloc (.loop zj)) (sq++[Value.func (.yield cN.heap.size) #[] #[]]++sr) (Pw.gY _)
  (((D1.sub hle.sub).append I1).append (D2.sub hle.sub))
 have Dr:am3.body≠none:=λe=>by rw[e] at gr;cases gr
 refine⟨cN.heap.size,mark,cN.alloc (.loop zj),{target:= .fn (.func f) sr.toArray,args:=sq.toArray++ #[.func (.yield cN.heap.size) #[] #[]]},cN.alloc (.loop zj),f,(sq++[Value.func (.yield cN.heap.size) #[] #[]]++sr).toArray,cN.alloc (.loop zj),?_,?_,λ_ _=>trivial,?_,(λh=>by cases h),?_⟩
 ·exact aob
 ·simp[resolve,aou,Deferred.ofValue,aod]
 ·simp[invoke,callFunc,yk,DH,Dr]
 ·refine CallsIn.mono (CallsIn.GR ro rR) ?_
  rintro e fp ⟨vp,P7,Px,tq⟩
  have DB:=hle.trans P7;have aE5:=ae _ _ _ _ _ fE;have Ix:e7 (mark++bh) N vp F {a with defers:=mark++a.defers}:=⟨by show mark++a.defers=_;rw[aT.1],(show oj N E F a.tmps from aT.2).sub DB.sub⟩;have Iv:jR vp X1.bs (mark++bh):=anP.sub (ac8.trans P7).sub;rcases rX with⟨bj,rfl,rfl,rfl,rfl⟩|⟨z,rfl,rS⟩
  ·obtain⟨p,rfl,PM⟩:=tq;exact cB vp (mark++bh) {a with defers:=mark++a.defers} fp (.panic p) DB Ix Iv (Px.gY _) ⟨p,PM,rfl⟩
  ·obtain⟨v,rfl,_⟩:=tq;unfold sX at rS;split at rS<;>try(cases rS;done)
   rename_i o aq;split at rS<;>try(cases rS;done)
   rename_i st ir od j5 Gb F3 Jx GQ GZ nE al;have b4:o.sp≠ .cells:=by rw[al];simp
   have gh:c4.aV.get (X1.new (il ord me N (iq (iO ord N body) F.get) ps eW body b)).1=some o:=aq;have ac3:vp (X1.new (il ord me N (iq (iO ord N body) F.get) ps eW body b)).1=some (cN.heap.size,0):=P7.sub _ _ ac4;obtain⟨gF,a3,cP,fs,_⟩:=Px.zt gh b4;rw[ac3] at cP;cases cP;rw[al] at fs;obtain⟨g0,fm,g1,g2,g3,g4,g5,g6,g7,g8⟩:=fs
   have fin:st≠ .busy->some (I2 ir,F,{({c4 with bs:=X1.bs}:ah) with aV:=c4.aV.put (X1.new (il ord me N (iq (iO ord N body) F.get) ps eW body b)).1 {o with cn:=o.cn+1,sp:= .loop .exhausted ir od j5 Gb F3 Jx GQ GZ nE}})=some (ex,F',af)->
    rangePost (fH ro) 0 P cN.heap.size Q {a with defers:=mark++a.defers} (.returned v) fp:=by
    intro dv acH;simp only[Option.some.injEq,Prod.mk.injEq] at acH;obtain⟨rfl,rfl,rfl⟩:=acH;obtain⟨ia,DR,Py⟩:=Px.WK (s:= .loop .exhausted ir od j5 Gb F3 Jx GQ GZ nE) (obj':= .loop {fm with state:= .exhausted}) gh b4 ac3 ⟨g0,_,rfl,rfl,g3,g4,g5,g6,g7,g8⟩ P;refine⟨tw ir,ia,?_,?_⟩
    ·have yc:¬fm.state=LoopState.busy:=by rw[g2];exact dv
     rw[<- g3];simp[Instr.endLoop,Da g1,yc,DR]
    ·have Pz:bP P B aY {({c4 with bs:=X1.bs}:ah) with aV:=c4.aV.put (X1.new (il ord me N (iq (iO ord N body) F.get) ps eW body b)).1 {o with cn:=o.cn+1,sp:= .loop .exhausted ir od j5 Gb F3 Jx GQ GZ nE}} vp ia:=Py.gY _;cases ir with
     |none=>exact cB vp (mark++bh) _ ia .normal DB Ix Iv Pz rfl
     |ret=>exact wpIn_ret (cB vp (mark++bh) _ ia .ret DB Ix Iv Pz rfl)
     |ex id=>exact wpIn_exit (cB vp (mark++bh) _ ia (.exit id) DB Ix Iv Pz rfl)
   split at rS
   ·cases rS
   ·rename_i tl;exact fin tl rS
end
section
variable{P:Program}{B:Nat}{aY w:World}{E:Env}{bh:List Deferred}
def XS(P:Program)(ord:Nat->Hint)(rd:Option Nat)(N:Nat)(jump:iA):Prop:=∀c rest F X ex F' af,gn P ord rd.isSome c=true->gn P ord rd.isSome rest=true->jump c rest F X=some (ex,F',af)->cG af->
 cG X/\∃n,∀(ro:Option Nat) B aY E bh a w (Q:Exit->Act->World->Prop),bP P B aY X E w->e7 bh N E F a->jR E X.bs bh->xv E rd ro->uf P B aY N E ex F' af Q->rest.wpIn (fH ro) 0 P (tS (fH ro) 0 P c Q n) a w
theorem mB(callf:bL)(cI:jD P callf)(ae:fM callf)(iM:kT callf)(hm:P.follows .mixedOrders=true){ord:Nat->Hint}{me:FuncId}{rd:Option Nat}{N fuel:Nat}{jump:iA}(aa:XS P ord rd N jump):∀(c:Code) (F:ax J) (X:ah) (ex:hq) (F':ax J) (af:ah),gn P ord rd.isSome c=true->
 bY P callf ord me rd N fuel jump c F X=some (ex,F',af)->cG af->vm P rd N c F X ex F' af
 | .skip,F,X,ex,F',af,_,h,aC=>by
   simp only[bY,Option.some.injEq,Prod.mk.injEq] at h;obtain⟨rfl,rfl,rfl⟩:=h;exact⟨aC,λro B aY E bh a w Q aB aT da dI cB=>wpIn_skip (cB E bh a w .normal (cM.refl _) aT da aB rfl)⟩
 | .region id ops false,F,X,ex,F',af,dq,h,aC=>by
   simp only[bY] at h
   have j2:∀{E:Env} {ro:Option Nat},xv E rd ro->∀o∈ops.toList,Bp o.op=true/\(nZ o.op=true->ro=none):=by
    intro E ro dI o aq;have IP:(bif rd.isSome then ops.all (λo=>pQ o.op) else ops.all λo=>Bp o.op)=true:=dq;cases rd with
    |none=>
     simp only[Option.isSome_none,cond_false,Array.all_eq_true_iff_forall_mem] at IP;exact⟨IP o (by simpa using aq),λ_=>dI⟩
    |some k=>
     simp only[Option.isSome_some,cond_true,Array.all_eq_true_iff_forall_mem] at IP;have h1:=IP o (by simpa using aq);refine⟨?_,λaH=>?_⟩
     ·cases pI:o.op<;>first|rfl|(rw[pI] at h1;simp[pQ] at h1)
     ·cases pI:o.op<;>first|(rw[pI] at aH;simp[nZ] at aH;done)|(rw[pI] at h1;simp[pQ] at h1)
   split at h<;>try(cases h;done)
   ·rename_i aM X1 j1;simp only[Option.some.injEq,Prod.mk.injEq] at h;obtain⟨rfl,rfl,rfl⟩:=h;refine⟨Hl cI j1 aC,λro B aY E bh a w Q aB aT da dI cB=>wpIn_region_list ?_⟩;exact NR cI ae ro aC ops.toList F X E bh a w (j2 dI) aB aT da j1 (λ_ aQ dM a' w' h1 h2 h3 aW=>cB aQ dM a' w' .normal h1 h2 h3 aW rfl) (λbj aI=>by cases aI)
   ·rename_i bj aM X1 j1;simp only[Option.some.injEq,Prod.mk.injEq] at h;obtain⟨rfl,rfl,rfl⟩:=h;refine⟨Hl cI j1 aC,λro B aY E bh a w Q aB aT da dI cB=>wpIn_region_list ?_⟩;exact NR cI ae ro aC ops.toList F X E bh a w (j2 dI) aB aT da j1 (λaI=>by cases aI) (λY2 aI aQ dM a' w' p h1 h2 h3 aW bz=>by cases aI;exact cB aQ dM a' w' (.panic p) h1 h2 h3 aW ⟨p,bz,rfl⟩)
 | .region id ops true,F,X,ex,F',af,dq,h,aC=>by
   simp only[bY] at h;simp only[gn] at dq;split at h<;>try(cases h;done)
   rename_i aM X1 aH;simp only[Option.some.injEq,Prod.mk.injEq] at h;obtain⟨rfl,rfl,rfl⟩:=h;cases aq:ord id with
   |text=>rw[aq] at dq aH;exact agH callf cI ae hm dq aH aC
   |skip=>rw[aq] at aH;cases aH
   |ord is bU=>rw[aq] at dq aH;exact agH callf cI ae hm dq aH aC
   |news is rs=>
    rw[aq] at dq aH;simp only[force_eq] at aH;cases mJ:nB X X.next rs with
    |false=>rw[mJ] at aH;cases aH
    |true=>
     rw[mJ] at aH;exact aqX callf cI ae iM hm dq mJ aH aC
 | .seq x y,F,X,ex,F',af,dq,h,aC=>by
   simp only[gn,Bool.and_eq_true] at dq;simp only[bY] at h;split at h
   ·rename_i aM X1 ar;obtain⟨bT,k1⟩:=mB callf cI ae iM hm aa y aM X1 ex F' af dq.2 h aC;obtain⟨cm,k2⟩:=mB callf cI ae iM hm aa x F X .cz aM X1 dq.1 ar bT;refine⟨cm,λro B aY E bh a w Q aB aT da dI cB=>wpIn_seq (k2 ro B aY E bh a w _ aB aT da dI (λaQ dM a' w' e ak aD a7 cw dB=>?_))⟩;cases dB;exact k1 ro B aY aQ dM a' w' Q cw aD a7 (dI.sub ak.sub) (cB.le ak)
   ·rename_i r b4;obtain⟨cm,k2⟩:=mB callf cI ae iM hm aa x F X ex F' af dq.1 h aC;refine⟨cm,λro B aY E bh a w Q aB aT da dI cB=>wpIn_seq (k2 ro B aY E bh a w _ aB aT da dI (cB.mono λaQ e a w he a0=>?_))⟩;cases ex with
    |cz=>exact absurd h (b4 F' af)
    |ex id=>cases he;exact a0
    |ret=>cases he;exact a0
    |gt l=>cases he;exact a0
    |cD bj=>obtain⟨p,_,rfl⟩:=he;exact a0
 | .cond c x y,F,X,ex,F',af,dq,h,aC=>by
   simp only[gn,Bool.and_eq_true] at dq;simp only[bY] at h;split at h<;>try(cases h;done)
   rename_i z a1;split at h
   ·rename_i X1 ag;obtain⟨bT,k1⟩:=mB callf cI ae iM hm aa x F X1 ex F' af dq.1 h aC;obtain⟨h1,h2,h3,aW⟩:=rE ag;have aH:=Cq ag;exact⟨(h1 bT).1,λro B aY E bh a w Q aB aT da dI cB=>wpIn_cond_true ((h1 bT).2 _ _ (Bk aB aT a1)) (k1 ro B aY E bh a w Q (aB.same h2 h3 aW) aT (by rw[aH];exact da) dI cB)⟩
   ·rename_i X1 ag;obtain⟨bT,k1⟩:=mB callf cI ae iM hm aa y F X1 ex F' af dq.2 h aC;obtain⟨h1,h2,h3,aW⟩:=rE ag;have aH:=Cq ag;exact⟨(h1 bT).1,λro B aY E bh a w Q aB aT da dI cB=>wpIn_cond_false ((h1 bT).2 _ _ (Bk aB aT a1)) (k1 ro B aY E bh a w Q (aB.same h2 h3 aW) aT (by rw[aH];exact da) dI cB)⟩
   ·cases h
 | .block id c,F,X,ex,F',af,dq,h,aC=>by
   simp only[gn] at dq;simp only[bY] at h;split at h
   ·rename_i gF aM X1 ar;cases ag:Nat.beq gF id with
    |true=>
     have e:=Nat.eq_of_beq_eq_true ag;simp only[ag,cond_true,Option.some.injEq,Prod.mk.injEq] at h;obtain⟨rfl,rfl,rfl⟩:=h;obtain⟨bT,k1⟩:=mB callf cI ae iM hm aa c F X _ _ _ dq ar aC;refine⟨bT,λro B aY E bh a w Q aB aT da dI cB=>wpIn_block (k1 ro B aY E bh a w _ aB aT da dI (λaQ dM a' w' Af ak aD a7 cw dB=>?_))⟩;cases dB;simp only[Exit.inBlock,e,if_true];exact cB aQ dM a' w' .normal ak aD a7 cw rfl
    |false=>
     have e:=Nat.ne_of_beq_eq_false ag;simp only[ag,cond_false,Option.some.injEq,Prod.mk.injEq] at h;obtain⟨rfl,rfl,rfl⟩:=h;obtain⟨bT,k1⟩:=mB callf cI ae iM hm aa c F X _ _ _ dq ar aC;refine⟨bT,λro B aY E bh a w Q aB aT da dI cB=>wpIn_block (k1 ro B aY E bh a w _ aB aT da dI (λaQ dM a' w' Af ak aD a7 cw dB=>?_))⟩;cases dB;simp only[Exit.inBlock,e,if_false];exact cB aQ dM a' w' (.exit gF) ak aD a7 cw rfl
   ·rename_i r b4;obtain⟨bT,k1⟩:=mB callf cI ae iM hm aa c F X ex F' af dq h aC;refine⟨bT,λro B aY E bh a w Q aB aT da dI cB=>wpIn_block (k1 ro B aY E bh a w _ aB aT da dI (cB.mono λaQ e a w he a0=>?_))⟩;cases ex with
    |cz=>cases he;exact a0
    |ex id=>exact absurd h (b4 id F' af)
    |ret=>cases he;exact a0
    |gt l=>cases he;exact a0
    |cD bj=>obtain⟨p,_,rfl⟩:=he;exact a0
 | .loop c,F,X,ex,F',af,dq,h,aC=>by
   simp only[gn] at dq;simp only[bY] at h;obtain⟨bT,k1⟩:=ael (rd:=rd) (λF X ex F' af h aC=>mB callf cI ae iM hm aa c F X ex F' af dq h aC) fuel F X ex F' af h aC;exact⟨bT,λro B aY E bh a w Q aB aT da dI cB=>wpIn_loop_rounds fuel (k1 ro B aY E bh a w Q aB aT da dI cB)⟩
 | .exit id,F,X,ex,F',af,_,h,aC=>by
   simp only[bY,Option.some.injEq,Prod.mk.injEq] at h;obtain⟨rfl,rfl,rfl⟩:=h;exact⟨aC,λro B aY E bh a w Q aB aT da dI cB=>wpIn_exit (cB E bh a w (.exit id) (cM.refl _) aT da aB rfl)⟩
 | .label l,F,X,ex,F',af,_,h,aC=>by
   simp only[bY,Option.some.injEq,Prod.mk.injEq] at h;obtain⟨rfl,rfl,rfl⟩:=h;exact⟨aC,λro B aY E bh a w Q aB aT da dI cB=>wpIn_label (cB E bh a w .normal (cM.refl _) aT da aB rfl)⟩
 | .ret,F,X,ex,F',af,_,h,aC=>by
   simp only[bY,Option.some.injEq,Prod.mk.injEq] at h;obtain⟨rfl,rfl,rfl⟩:=h;exact⟨aC,λro B aY E bh a w Q aB aT da dI cB=>wpIn_ret (cB E bh a w .ret (cM.refl _) aT da aB rfl)⟩
 | .goto l,F,X,ex,F',af,_,h,aC=>by
   simp only[bY,Option.some.injEq,Prod.mk.injEq] at h;obtain⟨rfl,rfl,rfl⟩:=h;exact⟨aC,λro B aY E bh a w Q aB aT da dI cB=>wpIn_goto (cB E bh a w (.goto l) (cM.refl _) aT da aB rfl)⟩
 | .scope c,F,X,ex,F',af,dq,h,aC=>by
   simp only[gn] at dq;simp only[bY] at h;split at h
   ·rename_i l aM X1 ar;split at h
    ·rename_i rest an;obtain⟨bT,n,k1⟩:=aa c rest aM X1 ex F' af dq (G6 c l rest dq an) h aC;obtain⟨cm,k2⟩:=mB callf cI ae iM hm aa c F X _ aM X1 dq ar bT;refine⟨cm,λro B aY E bh a w Q aB aT da dI cB=>Xb (n:=n+1) (k2 ro B aY E bh a w _ aB aT da dI (λaQ dM a' w' Af ak aD a7 cw dB=>?_))⟩;cases dB;simp only[tS,an];exact k1 ro B aY aQ dM a' w' Q cw aD a7 (dI.sub ak.sub) (cB.le ak)
    ·rename_i an;simp only[Option.some.injEq,Prod.mk.injEq] at h;obtain⟨rfl,rfl,rfl⟩:=h;obtain⟨cm,k2⟩:=mB callf cI ae iM hm aa c F X _ _ _ dq ar aC;refine⟨cm,λro B aY E bh a w Q aB aT da dI cB=>Xb (n:=0) (k2 ro B aY E bh a w _ aB aT da dI (λaQ dM a' w' Af ak aD a7 cw dB=>?_))⟩;cases dB;simp only[tS,an];exact cB aQ dM a' w' (.goto l) ak aD a7 cw rfl
   ·rename_i r b4;obtain⟨cm,k2⟩:=mB callf cI ae iM hm aa c F X ex F' af dq h aC;refine⟨cm,λro B aY E bh a w Q aB aT da dI cB=>Xb (n:=0) (k2 ro B aY E bh a w _ aB aT da dI (cB.mono λaQ e a w he a0=>?_))⟩;cases ex with
    |cz=>cases he;exact a0
    |ex id=>cases he;exact a0
    |ret=>cases he;exact a0
    |gt l=>exact absurd h (b4 l F' af)
    |cD bj=>obtain⟨p,_,rfl⟩:=he;exact a0
 | .rangeFunc g ps eW body,F,X,ex,F',af,dq,h,aC=>by
   simp only[gn,Bool.and_eq_true] at dq;simp only[bY] at h;split at h<;>try(cases h;done)
   rename_i y bf;exact azP callf cI ae dq.1 dq.2 bf h aC
 | .refuse _,_,_,_,_,_,_,h,_=>by simp[bY] at h
theorem QJ(callf:bL)(cI:jD P callf)(ae:fM callf)(iM:kT callf)(hm:P.follows .mixedOrders=true){ord:Nat->Hint}{me:FuncId}{rd:Option Nat}{N fuel:Nat}:∀n,XS P ord rd N (fR P callf ord me rd N fuel n)
 |0,_,_,_,_,_,_,_,_,_,h,_=>by simp[fR] at h
 |n+1,c,rest,F,X,ex,F',af,dq,DL,h,aC=>by
  have bc:=QJ callf cI ae iM hm (ord:=ord) (me:=me) (rd:=rd) (N:=N) (fuel:=fuel) n
  have h':(match bY P callf ord me rd N fuel (fR P callf ord me rd N fuel n) rest F X with
   |some (.gt l,F,X)=>(match findLabel c l with
    |some rest=>fR P callf ord me rd N fuel n c rest F X
    |none=>some (.gt l,F,X))
   |r=>r)=some (ex,F',af):=h
  split at h'
  ·rename_i l aM X1 ar;split at h'
   ·rename_i agL an;obtain⟨bT,m,k1⟩:=bc c agL aM X1 ex F' af dq (G6 c l agL dq an) h' aC;obtain⟨cm,k2⟩:=mB callf cI ae iM hm bc rest F X _ aM X1 DL ar bT;refine⟨cm,m+1,λro B aY E bh a w Q aB aT da dI cB=>k2 ro B aY E bh a w _ aB aT da dI (λaQ dM a' w' Af ak aD a7 cw dB=>?_)⟩;cases dB;simp only[tS,an];exact k1 ro B aY aQ dM a' w' Q cw aD a7 (dI.sub ak.sub) (cB.le ak)
   ·rename_i an;simp only[Option.some.injEq,Prod.mk.injEq] at h';obtain⟨rfl,rfl,rfl⟩:=h';obtain⟨cm,k2⟩:=mB callf cI ae iM hm bc rest F X _ _ _ DL ar aC;refine⟨cm,0,λro B aY E bh a w Q aB aT da dI cB=>k2 ro B aY E bh a w _ aB aT da dI (λaQ dM a' w' Af ak aD a7 cw dB=>?_)⟩;cases dB;simp only[tS,an];exact cB aQ dM a' w' (.goto l) ak aD a7 cw rfl
  ·rename_i r b4;obtain⟨cm,k2⟩:=mB callf cI ae iM hm bc rest F X ex F' af DL h' aC;refine⟨cm,0,λro B aY E bh a w Q aB aT da dI cB=>k2 ro B aY E bh a w _ aB aT da dI (cB.mono λaQ e a w he a0=>?_)⟩;cases ex with
   |cz=>cases he;exact a0
   |ex id=>cases he;exact a0
   |ret=>cases he;exact a0
   |gt l=>exact absurd h' (b4 l F' af)
   |cD bj=>obtain⟨p,_,rfl⟩:=he;exact a0
end
section
variable{P:Program}
def eV(X af:ah):Prop:=dh X {af with bs:=X.bs}
theorem eV.refl(X:ah):eV X X:=dh.refl X
theorem eV.trans{X Y Z:ah}(h:eV X Y)(h':eV Y Z):eV X Z:=dh.aeF h h'
theorem dh.p5{X Y:ah}(h:dh X Y):eV X Y:=⟨h.cK,h.aK,h.next,h.cn,h.dead,rfl,h.pc⟩
theorem eV.gY{X Y:ah}(h:eV X Y)(l:List eO):eV X {Y with bs:=l}:=⟨h.cK,h.aK,h.next,h.cn,h.dead,rfl,h.pc⟩
theorem eV.BL{X Y:ah}{l:List eO}(h:eV {X with bs:=l} Y):eV X Y:=⟨h.cK,h.aK,h.next,h.cn,h.dead,rfl,h.pc⟩
theorem eV.to{X Y:ah}(h:eV X Y)(aH:Y.bs=X.bs):dh X Y:=⟨h.cK,h.aK,h.next,h.cn,h.dead,aH,h.pc⟩
def F9(jump:iA):Prop:=∀c rest F X ex F' af,jump c rest F X=some (ex,F',af)->eV X af
theorem YN{rd:Option Nat}{X X1:ah}{b:Nat}(h:sQ rd X=some (b,X1)):eV X X1:=by
 unfold sQ at h;split at h
 ·cases h;exact(dh.new X sb).p5.gY _
 ·split at h<;>try(cases h;done)
  split at h<;>cases h
  exact eV.refl _
theorem amq{F F':ax J}{l:Nat}{X af:ah}{ex:hq}(h:sX F l X=some (ex,F',af)):eV X af:=by
 unfold sX at h;split at h<;>try(cases h;done)
 rename_i o aq;split at h<;>try(cases h;done)
 split at h<;>cases h
 all_goals exact(dh.store aq (Nat.lt_succ_self _)).p5
theorem azQ{callf:bL}(ae:fM callf){ord:Nat->Hint}{me:FuncId}{rd:Option Nat}{N:Nat}{ps:Array Tmp}{eW body:Code}{F F':ax J}{X af:ah}{y:J}{ex:hq}(h:pV callf ord me rd N ps eW body y F X=some (ex,F',af)):eV X af:=by
 unfold pV at h;split at h<;>try(cases h;done)
 rename_i f b6 qj b X1 ag;have k1:=(YN ag).trans (dh.new X1 (il ord me N (iq (iO ord N body) F.get) ps eW body b)).p5;split at h
 ·rename_i z c4 fE;have k2:=k1.trans (eV.BL (l:=[]) (ae _ _ _ _ _ fE).p5);exact(k2.gY _).trans (amq h)
 ·rename_i bj c4 fE;cases h;have k2:=k1.trans (eV.BL (l:=[]) (ae _ _ _ _ _ fE).p5);exact k2.gY _
 ·cases h
theorem lF{callf:bL}(ae:fM callf){ord:Nat->Hint}{me:FuncId}{rd:Option Nat}{N fuel:Nat}{jump:iA}(aa:F9 jump):∀(c:Code) (F:ax J) (X:ah) (ex:hq) (F':ax J) (af:ah),
 bY P callf ord me rd N fuel jump c F X=some (ex,F',af)->eV X af
 | .skip,F,X,ex,F',af,h=>by simp only[bY,Option.some.injEq,Prod.mk.injEq] at h;obtain⟨rfl,rfl,rfl⟩:=h;exact eV.refl _
 | .region id ops false,F,X,ex,F',af,h=>by
   simp only[bY] at h;split at h<;>try(cases h;done)
   ·rename_i aM X1 j1;simp only[Option.some.injEq,Prod.mk.injEq] at h;obtain⟨rfl,rfl,rfl⟩:=h;exact NQ ae j1
   ·rename_i bj aM X1 j1;simp only[Option.some.injEq,Prod.mk.injEq] at h;obtain⟨rfl,rfl,rfl⟩:=h;exact NQ ae j1
 | .region id ops true,F,X,ex,F',af,h=>by
   simp only[bY] at h;split at h<;>try(cases h;done)
   rename_i aM X1 aH;simp only[Option.some.injEq,Prod.mk.injEq] at h;obtain⟨rfl,rfl,rfl⟩:=h
   have key:∀{is:List Nat} {bU:List (Nat×List Nat)},iG P callf N ops.toList bU is [] F {X with cK:=[]}=some (aM,X1)->eV X {X1 with cK:=X.cK}:=λh=>
    have k:=Nr ae h
    ⟨λaq=>aq,k.aK,k.next,k.cn,k.dead,rfl,k.pc⟩
   cases aq:ord id with
   |text=>rw[aq] at aH;exact key aH
   |skip=>rw[aq] at aH;cases aH
   |ord is bU=>rw[aq] at aH;exact key aH
   |news is rs=>
    rw[aq] at aH;simp only[force_eq] at aH;cases mJ:nB X X.next rs with
    |false=>rw[mJ] at aH;cases aH
    |true=>
     rw[mJ] at aH;obtain⟨k,k2⟩:=ZW ae (Nat.le_add_right _ _) aH;exact⟨λaq=>aq,k.aK,k2,k.cn,k.dead,rfl,k.pc⟩
 | .seq x y,F,X,ex,F',af,h=>by
   simp only[bY] at h;split at h
   ·rename_i aM X1 ar;exact(lF ae aa x _ _ _ _ _ ar).trans (lF ae aa y _ _ _ _ _ h)
   ·exact lF ae aa x _ _ _ _ _ h
 | .cond c x y,F,X,ex,F',af,h=>by
   simp only[bY] at h;split at h<;>try(cases h;done)
   split at h
   ·rename_i X1 ag;exact(rD ag).p5.trans (lF ae aa x _ _ _ _ _ h)
   ·rename_i X1 ag;exact(rD ag).p5.trans (lF ae aa y _ _ _ _ _ h)
   ·cases h
 | .block id c,F,X,ex,F',af,h=>by
   simp only[bY] at h;split at h
   ·rename_i gF aM X1 ar
    have:=lF ae aa c _ _ _ _ _ ar
    cases ag:Nat.beq gF id<;>simp only[ag,cond_true,cond_false,Option.some.injEq,Prod.mk.injEq] at h<;>(obtain⟨rfl,rfl,rfl⟩:=h;exact this)
   ·exact lF ae aa c _ _ _ _ _ h
 | .loop c,F,X,ex,F',af,h=>by
   simp only[bY] at h
   have key:∀(k:Nat) (F:ax J) (X:ah),iQ (bY P callf ord me rd N fuel jump c) k F X=some (ex,F',af)->eV X af:=by
    intro k
    induction k with
    |zero=>intro F X h;simp[iQ] at h
    |succ k bc=>
     intro F X h;have h':(match bY P callf ord me rd N fuel jump c F X with|some (.cz,F,X)=>iQ (bY P callf ord me rd N fuel jump c) k F X|r=>r)=some (ex,F',af):=h;split at h'
     ·rename_i aM X1 ag;exact(lF ae aa c _ _ _ _ _ ag).trans (bc _ _ h')
     ·exact lF ae aa c _ _ _ _ _ h'
   exact key fuel F X h
 | .exit id,F,X,ex,F',af,h=>by simp only[bY,Option.some.injEq,Prod.mk.injEq] at h;obtain⟨rfl,rfl,rfl⟩:=h;exact eV.refl _
 | .label l,F,X,ex,F',af,h=>by simp only[bY,Option.some.injEq,Prod.mk.injEq] at h;obtain⟨rfl,rfl,rfl⟩:=h;exact eV.refl _
 | .ret,F,X,ex,F',af,h=>by simp only[bY,Option.some.injEq,Prod.mk.injEq] at h;obtain⟨rfl,rfl,rfl⟩:=h;exact eV.refl _
 | .goto _,F,X,ex,F',af,h=>by simp only[bY,Option.some.injEq,Prod.mk.injEq] at h;obtain⟨rfl,rfl,rfl⟩:=h;exact eV.refl _
 | .scope c,F,X,ex,F',af,h=>by
   simp only[bY] at h;split at h
   ·rename_i l aM X1 ar;have k1:=lF ae aa c _ _ _ _ _ ar;split at h
    ·exact k1.trans (aa _ _ _ _ _ _ _ h)
    ·simp only[Option.some.injEq,Prod.mk.injEq] at h;obtain⟨rfl,rfl,rfl⟩:=h;exact k1
   ·exact lF ae aa c _ _ _ _ _ h
 | .rangeFunc _ _ _ _,F,X,ex,F',af,h=>by
   simp only[bY] at h;split at h<;>try(cases h;done)
   exact azQ ae h
 | .refuse _,_,_,_,_,_,h=>by simp[bY] at h
theorem AZ{callf:bL}(ae:fM callf){ord:Nat->Hint}{me:FuncId}{rd:Option Nat}{N fuel:Nat}:∀n,F9 (fR P callf ord me rd N fuel n)
 |0,_,_,_,_,_,_,_,h=>by simp[fR] at h
 |n+1,c,rest,F,X,ex,F',af,h=>by
  have bc:=AZ ae (ord:=ord) (me:=me) (rd:=rd) (N:=N) (fuel:=fuel) n
  have h':(match bY P callf ord me rd N fuel (fR P callf ord me rd N fuel n) rest F X with
   |some (.gt l,F,X)=>(match findLabel c l with
    |some rest=>fR P callf ord me rd N fuel n c rest F X
    |none=>some (.gt l,F,X))
   |r=>r)=some (ex,F',af):=h
  split at h'
  ·rename_i l aM X1 ar;have k1:=lF ae bc rest _ _ _ _ _ ar;split at h'
   ·exact k1.trans (bc _ _ _ _ _ _ _ h')
   ·simp only[Option.some.injEq,Prod.mk.injEq] at h';obtain⟨rfl,rfl,rfl⟩:=h';exact k1
  ·exact lF ae bc rest _ _ _ _ _ h'
section
variable{m:Nat}{ob:bH}
theorem aBJ{callf:bL}(c2:kT callf){N base k:Nat}{rs:List Nat}{ops:List Oper}{o:Oper}{F F':ax J}{X af:ah}(an:c3 X m)(hm:m<base)(h:ll P callf N ops rs base k o F X=some (F',af)):
 ll P callf N ops rs base k o F (X.add m ob)=some (F',af.add m ob):=by
 obtain⟨y,bf,rfl⟩:=jy.1 h;refine jy.2 ⟨y,?_,rfl⟩;cases aO:hy rs k o.op with
 |true=>
  obtain⟨ard,rfl,k8⟩:=tU aO bf;rw[k8 (X.add m ob) rfl];unfold ah.add;simp only[Option.some.injEq,Prod.mk.injEq,true_and];rw[cE.put_comm _ _ _ (by omega)]
 |false=>
  rw[ky aO] at bf⊢;exact WS c2 an bf
theorem aqu{callf:bL}{N base k:Nat}{rs:List Nat}{ops:List Oper}{o:Oper}{F:ax J}{X:ah}{r:ax J×ah}(h:ll P callf N ops rs base k o F X=some r):pP P ops base o F (X.add m ob)=pP P ops base o F X:=by
 unfold pP;cases aI:fb P o.op with
 |false=>rfl
 |true=>
  have aO:=Fc (rs:=rs) (k:=k) aI;unfold ll at h;rw[aO] at h;simp only[cond_false] at h;rw[MX h]
theorem az1{callf:bL}{N base k:Nat}{rs:List Nat}{bK:List (Nat×Option Nat)}{ops:List Oper}{o:Oper}{F:ax J}{X:ah}{r:ax J×ah}(h:ll P callf N ops rs base k o F X=some r):
 (bif fb P o.op then(k,addrOf ops o F (X.add m ob))::bK else bK)=(bif fb P o.op then(k,addrOf ops o F X)::bK else bK):=by
 cases aI:fb P o.op with
 |false=>rfl
 |true=>
  have aO:=Fc (rs:=rs) (k:=k) aI;unfold ll at h;rw[aO] at h;simp only[cond_false] at h;rw[MX h]
theorem ZV{callf:bL}(c2:kT callf)(ae:fM callf){N base:Nat}{rs:List Nat}{bU:List (Nat×List Nat)}{ops:List Oper}(hm:m<base):∀{bO:List Nat} {bK:List (Nat×Option Nat)} {F F':ax J} {X af:ah},base<=X.next->c3 X m->ja P callf N ops rs bU base bO bK F X=some (F',af)->
 ja P callf N ops rs bU base bO bK F (X.add m ob)=some (F',af.add m ob)
 | [],_,_,_,_,_,_,_,h=>by simp only[ja,Option.some.injEq,Prod.mk.injEq] at h⊢;obtain⟨rfl,rfl⟩:=h;exact⟨rfl,rfl⟩
 |k::bO,bK,F,F',X,af,ag,an,h=>by
  simp only[ja] at h⊢;split at h<;>try(cases h;done)
  rename_i o _;cases aL:pP P ops base o F X with
  |false=>rw[aL] at h;cases h
  |true=>
   rw[aL] at h;simp only[cond_true] at h;split at h<;>try(cases h;done)
   rename_i aM X1 al;rw[aqu al,aL];simp only[cond_true];rw[aBJ c2 an hm al];simp only[];cases j0:ki bK X X1 (ig bU k) with
   |false=>rw[j0] at h;cases h
   |true=>
   rw[j0] at h;simp only[cond_true] at h;rw[Ni an j0,az1 al];simp only[cond_true];obtain⟨y,bf,_⟩:=jy.1 al;obtain⟨k1,k2⟩:=ahv ae ag bf;have rW:=ahw ae bf;exact ZV c2 ae hm k2 ⟨k1.dead m hm an.dead,Nat.lt_of_lt_of_le an.lt rW⟩ h
theorem Yd{X:ah}{base:Nat}(hm:m<base):∀{rs:List Nat},nB X base rs=true->nB (X.add m ob) base rs=true
 | [],_=>rfl
 |k::bO,h=>by
  simp only[nB,Bool.and_eq_true] at h⊢;refine⟨?_,Yd hm h.2⟩
  have:(X.add m ob).aV.get (base+k)=X.aV.get (base+k):=by
   show(X.aV.put m ob).get (base+k)=_;rw[cE.kG,if_neg (by omega)]
  rw[this];exact h.1
def XP(jump:iA):Prop:=∀m ob c rest F X ex F' af,c3 X m->jump c rest F X=some (ex,F',af)->jump c rest F (X.add m ob)=some (ex,F',af.add m ob)
theorem c3.qF{X af:ah}(h:c3 X m)(k:eV X af):c3 af m:=h.ad0 k
theorem c3.gY{X:ah}(h:c3 X m)(l:List eO):c3 {X with bs:=l} m:=⟨h.dead,h.lt⟩
theorem akI{rd:Option Nat}{X X1:ah}{b:Nat}(an:c3 X m)(h:sQ rd X=some (b,X1)):sQ rd (X.add m ob)=some (b,X1.add m ob):=by
 unfold sQ at h⊢;split at h
 ·cases h;simp only[z1 an];rfl
 ·split at h<;>try(cases h;done)
  rename_i o aq;simp only[(add_get an aq).1];split at h<;>cases h
  rfl
theorem amp{F F':ax J}{l:Nat}{X af:ah}{ex:hq}(an:c3 X m)(h:sX F l X=some (ex,F',af)):sX F l (X.add m ob)=some (ex,F',af.add m ob):=by
 unfold sX at h⊢;split at h<;>try(cases h;done)
 rename_i o aq;simp only[(add_get an aq).1];split at h<;>try(cases h;done)
 split at h
 ·cases h
 ·rename_i ag;cases h;rw[z2 an aq]
theorem azN{callf:bL}(c2:kT callf)(ae:fM callf){ord:Nat->Hint}{me:FuncId}{rd:Option Nat}{N:Nat}{ps:Array Tmp}{eW body:Code}{F F':ax J}{X af:ah}{y:J}{ex:hq}(an:c3 X m)(h:pV callf ord me rd N ps eW body y F X=some (ex,F',af)):
 pV callf ord me rd N ps eW body y F (X.add m ob)=some (ex,F',af.add m ob):=by
 unfold pV at h⊢;split at h<;>try(cases h;done)
 rename_i f b6 qj b X1 ag;have oI:c3 X1 m:=an.qF (YN ag);have k7:c3 (X1.new (il ord me N (iq (iO ord N body) F.get) ps eW body b)).2 m:=oI.keeps (dh.new _ _);rw[akI (ob:=ob) an ag];simp only[z1 oI];split at h
 ·rename_i z c4 fE;have e:=c2 _ _ _ _ _ m ob fE (k7.gY _);have aoo:c3 c4 m:=(k7.gY []).keeps (ae _ _ _ _ _ fE);rw[show({((X1.new (il ord me N (iq (iO ord N body) F.get) ps eW body b)).2).add m ob with bs:=[]}:ah)=({(X1.new (il ord me N (iq (iO ord N body) F.get) ps eW body b)).2 with bs:=[]}:ah).add m ob from rfl,e];exact amp (ob:=ob) (aoo.gY _) h
 ·rename_i bj c4 fE;cases h;have e:=c2 _ _ _ _ _ m ob fE (k7.gY _);rw[show({((X1.new (il ord me N (iq (iO ord N body) F.get) ps eW body b)).2).add m ob with bs:=[]}:ah)=({(X1.new (il ord me N (iq (iO ord N body) F.get) ps eW body b)).2 with bs:=[]}:ah).add m ob from rfl,e];rfl
 ·cases h
theorem nG{callf:bL}(c2:kT callf)(ae:fM callf){ord:Nat->Hint}{me:FuncId}{rd:Option Nat}{N fuel:Nat}{jump:iA}(aa:XP jump)(h9:F9 jump):∀(c:Code) (F:ax J) (X:ah) (ex:hq) (F':ax J) (af:ah),c3 X m->
 bY P callf ord me rd N fuel jump c F X=some (ex,F',af)->bY P callf ord me rd N fuel jump c F (X.add m ob)=some (ex,F',af.add m ob)
 | .skip,F,X,ex,F',af,_,h=>by simp only[bY,Option.some.injEq,Prod.mk.injEq] at h⊢;obtain⟨rfl,rfl,rfl⟩:=h;exact⟨rfl,rfl,rfl⟩
 | .region id ops false,F,X,ex,F',af,an,h=>by
   simp only[bY] at h⊢;split at h<;>try(cases h;done)
   ·rename_i aM X1 j1;simp only[Option.some.injEq,Prod.mk.injEq] at h;obtain⟨rfl,rfl,rfl⟩:=h;rw[NP c2 ae an j1]
   ·rename_i bj aM X1 j1;simp only[Option.some.injEq,Prod.mk.injEq] at h;obtain⟨rfl,rfl,rfl⟩:=h;rw[NP c2 ae an j1]
 | .region id ops true,F,X,ex,F',af,an,h=>by
   simp only[bY] at h⊢;split at h<;>try(cases h;done)
   rename_i aM X1 aH;simp only[Option.some.injEq,Prod.mk.injEq] at h;obtain⟨rfl,rfl,rfl⟩:=h;have IF:c3 {X with cK:=[]} m:=⟨an.dead,an.lt⟩;cases aq:ord id with
   |text=>
    rw[aq] at aH
    have:=NJ (ob:=ob) c2 ae IF aH
    simp only[];rw[show({X.add m ob with cK:=[]}:ah)=({X with cK:=[]}:ah).add m ob from rfl,this];rfl
   |skip=>rw[aq] at aH;cases aH
   |ord is bU=>
    rw[aq] at aH
    have:=NJ (ob:=ob) c2 ae IF aH
    simp only[];rw[show({X.add m ob with cK:=[]}:ah)=({X with cK:=[]}:ah).add m ob from rfl,this];rfl
   |news is rs=>
    rw[aq] at aH;simp only[force_eq] at aH⊢;cases mJ:nB X X.next rs with
    |false=>rw[mJ] at aH;cases aH
    |true=>
     rw[mJ] at aH;have h2:nB (X.add m ob) (X.add m ob).next rs=true:=Yd an.lt mJ
     rw[h2];have oI:c3 {X with cK:=[],next:=X.next+ops.size} m:=⟨an.dead,Nat.lt_of_lt_of_le an.lt (Nat.le_add_right _ _)⟩
     have:=ZV (ob:=ob) c2 ae an.lt (Nat.le_add_right _ _) oI aH
     simp only[cond_true]
     rw[show({X.add m ob with cK:=[],next:=(X.add m ob).next+ops.size}:ah)=({X with cK:=[],next:=X.next+ops.size}:ah).add m ob from rfl,
      show(X.add m ob).next=X.next from rfl,this]
     rfl
 | .seq x y,F,X,ex,F',af,an,h=>by
   simp only[bY] at h⊢;split at h
   ·rename_i aM X1 ar;rw[nG c2 ae aa h9 x _ _ _ _ _ an ar];exact nG c2 ae aa h9 y _ _ _ _ _ (an.qF (lF ae h9 x _ _ _ _ _ ar)) h
   ·rename_i b4;rw[nG c2 ae aa h9 x _ _ _ _ _ an h];cases ex with
    |cz=>exact absurd h (b4 F' af)
    |_=>rfl
 | .cond c x y,F,X,ex,F',af,an,h=>by
   simp only[bY] at h⊢;split at h<;>try(cases h;done)
   rename_i z a1;have qD:look (X.add m ob).aK F c=some z:=a1;simp only[qD];split at h
   ·rename_i X1 ag;rw[xC (m:=m) (ob:=ob) ag];exact nG c2 ae aa h9 x _ _ _ _ _ (an.keeps (rD ag)) h
   ·rename_i X1 ag;rw[xC (m:=m) (ob:=ob) ag];exact nG c2 ae aa h9 y _ _ _ _ _ (an.keeps (rD ag)) h
   ·cases h
 | .block id c,F,X,ex,F',af,an,h=>by
   simp only[bY] at h⊢;split at h
   ·rename_i gF aM X1 ar;rw[nG c2 ae aa h9 c _ _ _ _ _ an ar];simp only[];cases ag:Nat.beq gF id<;>simp only[ag,cond_true,cond_false,Option.some.injEq,Prod.mk.injEq] at h⊢ <;>(obtain⟨rfl,rfl,rfl⟩:=h;exact⟨rfl,rfl,rfl⟩)
   ·rename_i b4;rw[nG c2 ae aa h9 c _ _ _ _ _ an h];cases ex with
    |ex gF=>exact absurd h (b4 gF F' af)
    |_=>rfl
 | .loop c,F,X,ex,F',af,an,h=>by
   simp only[bY] at h⊢
   have key:∀(k:Nat) (F:ax J) (X:ah),c3 X m->iQ (bY P callf ord me rd N fuel jump c) k F X=some (ex,F',af)->iQ (bY P callf ord me rd N fuel jump c) k F (X.add m ob)=some (ex,F',af.add m ob):=by
    intro k
    induction k with
    |zero=>intro F X _ h;simp[iQ] at h
    |succ k bc=>
     intro F X an h;have h':(match bY P callf ord me rd N fuel jump c F X with|some (.cz,F,X)=>iQ (bY P callf ord me rd N fuel jump c) k F X|r=>r)=some (ex,F',af):=h;show(match bY P callf ord me rd N fuel jump c F (X.add m ob) with|some (.cz,F,X)=>iQ (bY P callf ord me rd N fuel jump c) k F X|r=>r)=some (ex,F',af.add m ob);split at h'
     ·rename_i aM X1 ag;rw[nG c2 ae aa h9 c _ _ _ _ _ an ag];exact bc _ _ (an.qF (lF ae h9 c _ _ _ _ _ ag)) h'
     ·rename_i b4;rw[nG c2 ae aa h9 c _ _ _ _ _ an h'];cases ex with
      |cz=>exact absurd h' (b4 F' af)
      |_=>rfl
   exact key fuel F X an h
 | .exit id,F,X,ex,F',af,_,h=>by simp only[bY,Option.some.injEq,Prod.mk.injEq] at h⊢;obtain⟨rfl,rfl,rfl⟩:=h;exact⟨rfl,rfl,rfl⟩
 | .label l,F,X,ex,F',af,_,h=>by simp only[bY,Option.some.injEq,Prod.mk.injEq] at h⊢;obtain⟨rfl,rfl,rfl⟩:=h;exact⟨rfl,rfl,rfl⟩
 | .ret,F,X,ex,F',af,_,h=>by simp only[bY,Option.some.injEq,Prod.mk.injEq] at h⊢;obtain⟨rfl,rfl,rfl⟩:=h;exact⟨rfl,rfl,rfl⟩
 | .goto _,F,X,ex,F',af,_,h=>by simp only[bY,Option.some.injEq,Prod.mk.injEq] at h⊢;obtain⟨rfl,rfl,rfl⟩:=h;exact⟨rfl,rfl,rfl⟩
 | .scope c,F,X,ex,F',af,an,h=>by
   simp only[bY] at h⊢;split at h
   ·rename_i l aM X1 ar;rw[nG c2 ae aa h9 c _ _ _ _ _ an ar];have oI:=an.qF (lF ae h9 c _ _ _ _ _ ar);simp only[];split at h
    ·rename_i rest aL;exact aa _ _ _ _ _ _ _ _ _ oI h
    ·simp only[Option.some.injEq,Prod.mk.injEq] at h⊢;obtain⟨rfl,rfl,rfl⟩:=h;exact⟨rfl,rfl,rfl⟩
   ·rename_i b4;rw[nG c2 ae aa h9 c _ _ _ _ _ an h];cases ex with
    |gt l=>exact absurd h (b4 l F' af)
    |_=>rfl
 | .rangeFunc g _ _ _,F,X,ex,F',af,an,h=>by
   simp only[bY] at h⊢;split at h<;>try(cases h;done)
   rename_i z a1;have qD:look (X.add m ob).aK F g=some z:=a1;simp only[qD];exact azN c2 ae an h
 | .refuse _,_,_,_,_,_,_,h=>by simp[bY] at h
end
theorem QI{callf:bL}(c2:kT callf)(ae:fM callf){ord:Nat->Hint}{me:FuncId}{rd:Option Nat}{N fuel:Nat}:∀n,XP (fR P callf ord me rd N fuel n)
 |0,_,_,_,_,_,_,_,_,_,_,h=>by simp[fR] at h
 |n+1,m,ob,c,rest,F,X,ex,F',af,an,h=>by
  have bc:=QI c2 ae (ord:=ord) (me:=me) (rd:=rd) (N:=N) (fuel:=fuel) n;have QD:F9 (fR P callf ord me rd N fuel n):=AZ ae n
  have h':(match bY P callf ord me rd N fuel (fR P callf ord me rd N fuel n) rest F X with
   |some (.gt l,F,X)=>(match findLabel c l with
    |some rest=>fR P callf ord me rd N fuel n c rest F X
    |none=>some (.gt l,F,X))
   |r=>r)=some (ex,F',af):=h
  show(match bY P callf ord me rd N fuel (fR P callf ord me rd N fuel n) rest F (X.add m ob) with
   |some (.gt l,F,X)=>(match findLabel c l with
    |some rest=>fR P callf ord me rd N fuel n c rest F X
    |none=>some (.gt l,F,X))
   |r=>r)=some (ex,F',af.add m ob)
  split at h'
  ·rename_i l aM X1 ar;rw[nG c2 ae bc QD rest _ _ _ _ _ an ar];have oI:=an.qF (lF ae QD rest _ _ _ _ _ ar);simp only[];split at h'
   ·exact bc _ _ _ _ _ _ _ _ _ oI h'
   ·simp only[Option.some.injEq,Prod.mk.injEq] at h'⊢;obtain⟨rfl,rfl,rfl⟩:=h';exact⟨rfl,rfl,rfl⟩
  ·rename_i b4;rw[nG c2 ae bc QD rest _ _ _ _ _ an h'];cases ex with
   |gt l=>exact absurd h' (b4 l F' af)
   |_=>rfl
end
section
variable{P:Program}{B:Nat}{aY w:World}{E:Env}{bh:List Deferred}{X:ah}
def Fe(a:Act):ResultVar->Sem Value
 | .tmp t=>Pure.pure (a.tmps.getD t undef)
 | .cell b t=>do loadVar t (<- asAddr (a.tmps.getD b undef))
theorem aAf(fn:Func)(a:Act):results fn a.tmps=(do let vs <- fn.results.mapM (Fe a);Pure.pure (if h:vs.size=1 then vs[0] else .tuple vs)):=by
 unfold results;congr 1
theorem aAe{N:Nat}{F:ax J}{a:Act}(aB:bP P B aY X E w)(aT:e7 bh N E F a){r:ResultVar}{y:J}(h:tP P F X r=some y):
 ∃v,(Fe a r).run P w= .ok v w/\Den E y v:=by
 cases r with
 |tmp t=>
  obtain⟨_,v,h1,h2⟩:=aT.2.2 t y h;exact⟨v,by simp[Fe,h1],h2⟩
 |cell b t=>
  simp only[tP] at h;split at h<;>try(cases h;done)
  rename_i k off ag;obtain⟨_,v,h1,id,c,ai,h2⟩:=aT.2.2 b _ ag;obtain⟨u,aI,aH⟩:=aee aB h ai;exact⟨u,by simp[Fe,h1,h2,asAddr,aI],aH⟩
theorem agM{N:Nat}{F:ax J}{a:Act}(aB:bP P B aY X E w)(aT:e7 bh N E F a):∀{rs:List ResultVar} {ys:List J},oP P F X rs=some ys->
 ∃vs,(rs.mapM (Fe a)).run P w= .ok vs w/\cg E ys vs
 | [],ys,h=>by simp[oP] at h;subst h;exact⟨[],rfl,rfl⟩
 |r::rs,ys,h=>by
  simp only[oP] at h;split at h<;>try(cases h;done)
  rename_i y bf;split at h<;>try(cases h;done)
  rename_i vk ft;cases h;obtain⟨v,h1,h2⟩:=aAe aB aT bf;obtain⟨vs,h3,aW⟩:=agM aB aT ft;refine⟨v::vs,?_,v,vs,h2,aW,rfl⟩;rw[List.mapM_cons,Sem.run_bind,h1];simp only[Result.andThen_ok,Sem.run_bind,h3,Sem.run_pure]
theorem aAc{ys:List J}{vs:List Value}(h:cg E ys vs):Den E (zl ys) (if h:vs.toArray.size=1 then vs.toArray[0] else .tuple vs.toArray):=by
 match ys,vs,h with
 | [],vs,h=>cases h;exact⟨[],rfl,rfl⟩
 | [y],_,⟨v,vs,hv,r1,e⟩=>cases r1;subst e;exact hv
 |y::z::ys,_,⟨v,vs,hv,⟨u,us,hu,yE,bg⟩,e⟩=>
  subst bg;subst e;rw[dif_neg (by simp)];exact⟨_,⟨v,_,hv,⟨u,us,hu,yE,rfl⟩,rfl⟩,rfl⟩
theorem agN{N:Nat}{F:ax J}{a:Act}{fn:Func}(aB:bP P B aY X E w)(aT:e7 bh N E F a){ys:List J}(h:oP P F X fn.results.toList=some ys):
 ∃v,(results fn a.tmps).run P w= .ok v w/\Den E (zl ys) v:=by
 obtain⟨vs,h1,h2⟩:=agM aB aT h;refine⟨_,?_,aAc h2⟩;rw[aAf,Sem.run_bind,Array.mapM_eq_mapM_toList];simp only[Sem.run_map];rw[h1];simp
theorem ah7{args:List J}{argv:List Value}{n:Nat}(h:cg E args argv)(aO:args.length<=n):
 oj n E (ha .nil 0 args) (argv.toArray++Array.replicate (n-argv.toArray.size) undef):=by
 have aL:=h.length;refine⟨by simp;omega,λj y aa=>?_⟩;rcases Pq _ _ _ _ _ aa with⟨_,h2⟩|⟨_,h2⟩
 ·simp only[Nat.sub_zero] at h2;obtain⟨v,h3,aW⟩:=h.get _ _ h2
  have:=(List.getElem?_eq_some_iff.1 h3).1
  refine⟨by omega,v,?_,aW⟩;rw[Array.getElem?_append_left (by simpa using this)];simpa using h3
 ·cases h2
theorem arT{N:Nat}{F:ax J}{tmps:Array Value}(h:oj N E F tmps){d:Nat}{y:J}{v:Value}(aH:Den E y v):oj N E (put N F (some d) y) (tmps.setIfInBounds d v):=by
 have aT:e7 [] N E F {tmps,defers:=[]}:=⟨rfl,h⟩;exact(aT.put (d:=some d) aH).2
theorem afi{N:Nat}:∀{ps:List Tmp} {F:ax J} {tmps:Array Value} {args:List J} {argv:List Value},oj N E F tmps->cg E args argv->args.length=ps.length->
 oj N E (wH N F ps args) ((ps.zip argv).foldl (λtmps (t,a)=>tmps.setIfInBounds t a) tmps)
 | [],_,_,[],_,h,h',_=>by cases h';exact h
 | [],_,_,_::_,_,_,_,aL=>by simp at aL
 |_::_,_,_,[],_,_,_,aL=>by simp at aL
 |p::ps,F,tmps,x::xs,_,h,⟨v,vs,hv,r1,e⟩,aL=>by
  subst e;simp only[wH,List.zip_cons_cons,List.foldl_cons];exact afi (arT h hv) r1 (by simpa using aL)
theorem ahi{o o':bH}{st:LoopState}{p:Option Jump}(h:Fp o st p=some o'):∃u3 q ord me N G ps a c b,o.sp= .loop u3 q ord me N G ps a c b/\o'={o with cn:=o.cn+1,sp:= .loop st (Em p q) ord me N G ps a c b}:=by
 unfold Fp at h;split at h<;>cases h
 rename_i al;exact⟨_,_,_,_,_,_,_,_,_,_,al,rfl⟩
def El(p:Option Jump)(q:Option Code):Option Code:=match p with
 |some p=>tw p
 |none=>q
theorem ahh(aB:bP P B aY X E w){k id c:Nat}{st:LoopState}{p:Option Jump}{af:ah}(ai:E k=some (id,c))(h:p1 X k st p=some af):
 ∃(r:Loop) (w':World),w.heap[id]?=some (.loop r)/\(setObj id (.loop {r with state:=st,pending:=El p r.pending})).run P w= .ok () w'/\bP P B aY af E w':=by
 unfold p1 at h;split at h<;>try(cases h;done)
 rename_i o aq;split at h<;>try(cases h;done)
 rename_i o' al;cases h;obtain⟨u3,q,ord,me,N,G,ps,a,cS,b,wi,rfl⟩:=ahi al;have b4:o.sp≠ .cells:=by rw[wi];simp
 obtain⟨gF,a3,cP,fs,_⟩:=aB.zt aq b4;rw[ai] at cP;cases cP;rw[wi] at fs;obtain⟨g0,fm,g1,g2,g3,g4,g5,g6,g7,g8⟩:=fs
 obtain⟨ia,DR,Py⟩:=aB.WK (s:= .loop st (Em p q) ord me N G ps a cS b) (obj':= .loop {fm with state:=st,pending:=El p fm.pending}) aq b4 ai
  ⟨g0,_,rfl,rfl,by cases p<;>simp[g3,Em,El],g4,g5,g6,g7,g8⟩ P
 exact⟨fm,ia,g1,DR,Py⟩
theorem ahg{k:Nat}{st:LoopState}{p:Option Jump}{af:ah}(h:p1 X k st p=some af):af.pc=X.pc/\af.bs=X.bs:=by
 unfold p1 at h;split at h<;>try(cases h;done)
 split at h<;>cases h
 exact⟨rfl,rfl⟩
theorem apM{o:bH}(h:isReady o=true):∃q ord me N G ps a c b,o.sp= .loop .ready q ord me N G ps a c b:=by
 unfold isReady at h;split at h
 ·exact⟨_,_,_,_,_,_,_,_,_,rfl⟩
 ·cases h
theorem amo(aB:bP P B aY X E w){k id c:Nat}{D:List eO}{st:LoopState}{j:Jump}{b:Bool}{y:Out}{af:ah}(ai:E k=some (id,c))(h:endRound D X k st j b=some (y,af))(dv:st=if(tw j).isNone then .ready else .done)(ag:b=(tw j).isNone):
 y= .ret (.bool b)/\∃w',(Instr.endRound id (tw j)).run P w= .ok (.bool b) w'/\bP P B aY af E w':=by
 unfold endRound at h;split at h<;>try(cases h;done)
 rename_i X1 al;cases h;obtain⟨r,w',h1,h2,h3⟩:=ahh aB ai al;refine⟨rfl,w',?_,h3.gY _⟩;subst dv;subst ag;cases j<;>simp[El,tw] at h2<;>simp[Instr.endRound,Da h1,tw,h2]
theorem amn{k:Nat}{D:List eO}{st:LoopState}{j:Jump}{b:Bool}{y:Out}{af:ah}(h:endRound D X k st j b=some (y,af))(aC:cG af):cG X:=by
 unfold endRound at h;split at h<;>try(cases h;done)
 rename_i X1 al;cases h
 have:=(ahg al).1
 intro p Qh;exact aC p (by show p∈X1.pc;rw[this];exact Qh)
theorem aAv{ord:Nat->Hint}{k N:Nat}{cO:Code->ax J->ah->R}{ps:Array Tmp}{eW body:Code}{F:ax J}
 (ju:∀c F X ex F' af,gn P ord true c=true->cO c F X=some (ex,F',af)->cG af->vm P (some k) N c F X ex F' af)(k6:∀c F X ex F' af,cO c F X=some (ex,F',af)->eV X af)
 {o:bH}{st:LoopState}{ir:Jump}{me:FuncId}{jI:Nat}(aq:X.aV.get k=some o)(al:o.sp= .loop st ir ord me N F ps eW body jI){args:List J}{y:Out}{af:ah}(h:lU cO k N F ps eW body args X=some (y,af))(aC:cG af):
 cG X/\∀B aY E w argv,bP P B aY X E w->cg E args argv->rl P E (.fw k) argv w (sI P B aY E y af):=by
 unfold lU at h;cases hlen:Nat.beq args.length ps.size with
 |false=>simp[hlen] at h
 |true=>
 have AN:=Nat.eq_of_beq_eq_true hlen;simp only[hlen,cond_true] at h;split at h<;>try(cases h;done)
 rename_i aM X1 b1;split at h<;>try(cases h;done)
 rename_i dN jf;cases aI:isReady dN with
 |false=>simp[aI] at h
 |true=>
 simp only[aI,cond_true] at h;split at h<;>try(cases h;done)
 rename_i c4 ag;obtain⟨ej,aFA,aFu,pd,sy,aFB,ak,aS,bX,kr⟩:=apM aI;have adm:=ahg ag
 have main:∀(j:Jump) (ex:hq) (dd:ax J) (m0:ah) (oW:LoopState) (hf:Bool),cO body aM c4=some (ex,dd,m0)->endRound X.bs m0 k oW j hf=some (y,af)->(ex=I2 j)->(oW=if(tw j).isNone then .ready else .done)->(hf=(tw j).isNone)->
  cG X/\∀B aY E w argv,bP P B aY X E w->cg E args argv->rl P E (.fw k) argv w (sI P B aY E y af):=by
  intro j ex dd m0 oW hf gr rS hex apd yc;have adl:cG m0:=amn rS aC;have yB:cG c4:=(k6 _ _ _ _ _ _ gr).pc adl;have jg:cG X1:=λp Qh=>yB p (by rw[adm.1];exact Qh)
  refine⟨(eV.BL (l:=[]) (k6 _ _ _ _ _ _ b1)).pc jg,λB aY E w argv aB Dm=>?_⟩;have b4:o.sp≠ .cells:=by rw[al];simp
  obtain⟨id,c,ai,fs,_⟩:=aB.zt aq b4;rw[al] at fs;obtain⟨⟨arn,aro⟩,r,g1,g2,g3,g4,g5,g6,g7,g8⟩:=fs;have dR:argv.toArray.size=r.params.size:=by rw[g4];have:=Dm.length;simp;omega
  refine⟨id,c,r.fn,(r.params.zip argv.toArray).foldl (λtmps (t,a)=>tmps.setIfInBounds t a) r.tmps,r.assign,r.body,ai,?_,?_⟩
  ·simp only[Instr.yield,Sem.run_bind,Da g1,Result.andThen_ok];rw[if_neg (by simpa using dR)];rfl
  ·refine roundIn_of_wpIn (F:=fH none) trivial ?_;show Code.wpIn (fH (some id)) 0 P r.assign _ _ w;rw[g5,g6];obtain⟨_,jh⟩:=ju eW _ _ _ _ _ arn b1 jg
   have aor:(r.params.zip argv.toArray).foldl (λtmps (t,a)=>tmps.setIfInBounds t a) r.tmps=(ps.toList.zip argv).foldl (λtmps (t,a)=>tmps.setIfInBounds t a) r.tmps:=by
    rw[<- Array.foldl_toList,Array.toList_zip,g4]
   have PA:e7 [] N E (wH N F ps.toList args) {tmps:=(r.params.zip argv.toArray).foldl (λtmps (t,a)=>tmps.setIfInBounds t a) r.tmps,defers:=[]}:=by
    refine⟨rfl,?_⟩;rw[aor];exact afi g8 Dm (by simpa using AN)
   refine jh (some id) B aY E [] _ w _ (aB.gY []) PA rfl ⟨id,c,ai,rfl⟩ ?_;intro fK ZA ajB cN az cb cV lQ Jc Ea;cases Ea;obtain⟨dc,cy,t1,t2,t3⟩:=ahh Jc (cb.sub _ _ ai) ag
   have IW:dc.state= .ready:=by
    obtain⟨i2,a2,AL,ado,_⟩:=Jc.zt jf (by rw[kr];simp);rw[cb.sub _ _ ai] at AL;cases AL;rw[kr] at ado;obtain⟨_,du,iv,sm,_⟩:=ado;rw[t1] at iv;cases iv;exact sm
   refine⟨cy,?_,?_⟩
   ·simp only[El] at t2;simp[Instr.beginRound,Da t1,t2,IW]
   ·obtain⟨_,bR⟩:=ju body _ _ _ _ _ aro gr adl;refine bR (some id) B aY fK ZA ajB cy _ t3 cV (by rw[adm.2];exact lQ) ⟨id,c,cb.sub _ _ ai,rfl⟩ ?_;intro xe ama aD fp aA hP e0 Bl oO sa;obtain⟨rfl,ia,cH,cA⟩:=amo oO (hP.sub _ _ (cb.sub _ _ ai)) rS apd yc;have post:sI P B aY E (.ret (.bool hf)) af (.returned (.bool hf)) ia:=⟨xe,cb.trans hP,cA,_,rfl,rfl⟩;subst hex;cases j with
    |none=>cases sa;exact⟨_,ia,cH,post⟩
    |ret=>cases sa;exact⟨_,ia,cH,post⟩
    |ex gF=>cases sa;exact⟨_,ia,cH,post⟩
 split at h
 ·rename_i dd m0 gr;exact main .none .cz dd m0 _ _ gr h rfl rfl rfl
 ·rename_i dd m0 gr;exact main .ret .ret dd m0 _ _ gr h rfl rfl rfl
 ·rename_i id dd m0 gr;exact main (.ex id) (.ex id) dd m0 _ _ gr h rfl rfl rfl
 ·cases h
def kD(E:Env):Mode->FrameMode->Prop
 | .ret,m=>m= .returning
 | .cD bj,m=>∃l,lu E bj l/\m= .panicking l
theorem kD.sub{E aQ:Env}(aB:Sub E aQ){u:Mode}{m:FrameMode}(h:kD E u m):kD aQ u m:=by
 cases u with
 |ret=>exact h
 |cD bj=>obtain⟨l,a,b⟩:=h;exact⟨l,a.sub aB,b⟩
def Gf(E:Env):Out->Ending->Prop
 | .ret y,e=>∃v,e= .returned v/\Den E y v
 | .cD bj,e=>∃l,e= .panicked l/\lu E bj l
theorem kD.ne{u:Mode}{m:FrameMode}(h:kD E u m):m≠ .run:=by
 cases u with
 |ret=>cases h;simp
 |cD bj=>obtain⟨l,_,rfl⟩:=h;simp
theorem Zq:∀{bj:gL} {l:List PanicEntry},lu E bj l->l.dropWhile (!·.goexit)=[]
 | [],_,h=>by cases h;rfl
 |(_,_)::bj,_,⟨v,dD,_,h2,e⟩=>by subst e;simp[Zq h2]
theorem aBn{u:Mode}{m:FrameMode}(h:kD E u m):kD E (ahl u) (settle m):=by
 cases u with
 |ret=>cases h;rfl
 |cD bj=>
  obtain⟨l,h1,rfl⟩:=h;cases bj with
  |nil=>cases h1;exact⟨[],rfl,rfl⟩
  |cons p bj=>
   obtain⟨v,r⟩:=p;have jY:=h1;obtain⟨u,dD,a,b,rfl⟩:=jY;cases r with
   |false=>exact⟨_,h1,rfl⟩
   |true=>
    show settle (.panicking ({v:=u,recovered:=true}::dD))= .returning;simp[settle,Zq b]
theorem azD{u:Mode}{m:FrameMode}{bj:gL}{l:List PanicEntry}(h:kD E u m)(ae:lu E bj l):kD E (agB u bj) (raised m l):=by
 cases u with
 |ret=>cases h;exact⟨l,ae,rfl⟩
 |cD gz=>obtain⟨dD,h1,rfl⟩:=h;exact⟨l++dD,ae.append h1,rfl⟩
def XF(P:Program)(dcall:nu):Prop:=∀f args u X y dz af,dcall f args u X=some (y,dz,af)->cG af->
 (∃fn,P.funcs[f]?=some fn/\fn.body.isSome=true/\fn.name≠"runtime.NumGoroutine")/\∀B aY E w argv m,bP P B aY X E w->cg E args argv->kD E u m->
   CallsDIn (fH none) 0 P f argv.toArray m w λe gx w'=>∃aQ,cM E aQ/\bP P B aY af aQ w'/\kD aQ dz gx/\Gf aQ y e
def F0(dcall:nu):Prop:=∀f args u X y dz af,dcall f args u X=some (y,dz,af)->dh X af
theorem yS{dcall:nu}(ai:F0 dcall){fn:Func}{F:ax J}:∀{D:List eO} {u:Mode} {X af:ah} {y:Out},fS P dcall fn F D u X=some (y,af)->dh X af
 | [],.ret,X,af,y,h=>by
   simp only[fS] at h;split at h<;>cases h
   exact dh.refl _
 | [],.cD bj,X,af,y,h=>by simp only[fS,Option.some.injEq,Prod.mk.injEq] at h;obtain⟨_,rfl⟩:=h;exact dh.refl _
 | .sU k::D,u,X,af,y,h=>by
   simp only[fS] at h;split at h<;>try(cases h;done)
   rename_i o aq;split at h<;>try(cases h;done)
   exact(dh.store aq (Nat.lt_succ_self _)).trans (yS ai h)
 | .call f xs ys::D,u,X,af,y,h=>by
   simp only[fS] at h;split at h
   ·rename_i aH;exact(ai _ _ _ _ _ _ _ aH).trans (yS ai h)
   ·rename_i aH;exact(ai _ _ _ _ _ _ _ aH).trans (yS ai h)
   ·cases h
theorem Jg{dcall:nu}(aH:XF P dcall)(ai:F0 dcall){fn:Func}{F:ax J}{N:Nat}{R:Ending->World->Prop}{af:ah}{y:Out}(aC:cG af):
 ∀(D:List eO) (u:Mode) (X:ah) (E:Env) (bh ux:List Deferred) (a:Act) (w:World) (m:FrameMode),fS P dcall fn F D u X=some (y,af)->bP P B aY X E w->e7 ux N E F a->jR E D bh->kD E u m->
  (∀aQ e w',cM E aQ->bP P B aY af aQ w'->Gf aQ y e->R e w')->LeavesInM (fH none) 0 P fn a.tmps R bh m w
 | [],.ret,X,E,bh,ux,a,w,m,h,aB,aT,da,gq,dI=>by
   cases da;cases gq;simp only[fS] at h;split at h<;>cases h
   rename_i ys ft;obtain⟨v,aI,hv⟩:=agN (fn:=fn) aB aT ft;exact⟨v,aI,dI E _ w (cM.refl _) aB ⟨v,rfl,hv⟩⟩
 | [],.cD bj,X,E,bh,ux,a,w,m,h,aB,aT,da,gq,dI=>by
   cases da;obtain⟨l,PM,rfl⟩:=gq;simp only[fS,Option.some.injEq,Prod.mk.injEq] at h;obtain⟨rfl,rfl⟩:=h;exact dI E _ w (cM.refl _) aB ⟨l,rfl,PM⟩
 | .sU k::D,u,X,E,bh,ux,a,w,m,h,aB,aT,da,gq,dI=>by
   obtain⟨d,dM,⟨id,c,tj,rfl⟩,Iu,rfl⟩:=da;simp only[fS] at h;split at h<;>try(cases h;done)
   rename_i o aq;split at h<;>try(cases h;done)
   rename_i al;have b4:o.sp≠ .cells:=by rw[al];simp
   obtain⟨gF,a3,cP,fs,_⟩:=aB.zt aq b4;rw[tj] at cP;cases cP;rw[al] at fs;have nU:w.heap[id]?=some (.deferred (some [])):=fs;obtain⟨w',DR,eu⟩:=aB.WK (s:= .jI true) (obj':= .deferred none) aq b4 tj rfl P;refine⟨gq.ne,.inl ⟨id,w',rfl,?_,Jg aH ai aC D u _ E dM ux a w' m h eu aT Iu gq dI⟩⟩;have bd:(getObj id).run P w= .ok (.deferred (some [])) w:=anp nU (nU▸fs);simp[Instr.takeDeferred,bd,DR]
 | .call f xs ys::D,u,X,E,bh,ux,a,w,m,h,aB,aT,da,gq,dI=>by
   obtain⟨d,dM,⟨o5,LS,apw,apx,rfl⟩,Iu,rfl⟩:=da;simp only[fS] at h
   have core:∀{y1:Out} {iv:Mode} {X1:ah},dcall f (xs++ys) u X=some (y1,iv,X1)->cG X1->
    (∀fK e hP cN,cM E fK->bP P B aY X1 fK cN->kD fK iv hP->Gf fK y1 e->(match e with
      | .returned _=>LeavesInM (fH none) 0 P fn a.tmps R dM (settle hP) cN
      | .panicked chain=>LeavesInM (fH none) 0 P fn a.tmps R dM (raised hP chain) cN
      | .outgrown=>R .outgrown cN))->LeavesInM (fH none) 0 P fn a.tmps R ({target:= .fn (.func f) LS.toArray,args:=o5.toArray}::dM) m w:=by
    intro y1 iv X1 fE jg tq;obtain⟨⟨am1,yk,gr,DH⟩,ae⟩:=aH _ _ _ _ _ _ _ fE jg;have Dr:am1.body≠none:=λe=>by rw[e] at gr;cases gr
    refine⟨gq.ne,.inr ⟨(λh=>by cases h),.func f,LS.toArray,f,(o5++LS).toArray,rfl,?_,λ_ _=>trivial,?_⟩⟩
    ·simp[invoke,callFunc,yk,DH,Dr]
    ·refine(ae B aY E w (o5++LS) m aB (apw.append apx) gq).mono ?_
     rintro e hP cN ⟨fK,h1,h2,h3,aW⟩
     have:=tq fK e hP cN h1 h2 h3 aW
     cases e<;>exact this
   split at h
   ·rename_i z iv X1 fE;refine core fE ((yS ai h).pc aC) ?_
    rintro fK e hP cN h1 h2 h3 ⟨v,rfl,_⟩
    exact Jg aH ai aC D _ X1 fK dM ux a cN _ h h2 (aT.mono h1) (Iu.sub h1.sub) (aBn h3) (λaQ e w' cb=>dI aQ e w' (h1.trans cb))
   ·rename_i bj iv X1 fE;refine core fE ((yS ai h).pc aC) ?_
    rintro fK e hP cN h1 h2 h3 ⟨l,rfl,aL⟩
    exact Jg aH ai aC D _ X1 fK dM ux a cN _ h h2 (aT.mono h1) (Iu.sub h1.sub) (azD h3 aL) (λaQ e w' cb=>dI aQ e w' (h1.trans cb))
   ·cases h
end
section
variable{P:Program}{B:Nat}{aY w:World}{E:Env}{bh:List Deferred}{X:ah}
def Gh(P:Program)(B:Nat)(aY:World)(N:Nat)(E:Env)(ex:hq)(F':ax J)(af:ah)(dz:Mode)(Q:Exit->Act->FrameMode->World->Prop):Prop:=
 ∀aQ dM a' w' e gx,cM E aQ->e7 dM N aQ F' a'->jR aQ af.bs dM->bP P B aY af aQ w'->kD aQ dz gx->L8 aQ ex e->Q e a' gx w'
theorem Gh.le{N:Nat}{E fK:Env}{ex:hq}{F':ax J}{af:ah}{dz:Mode}{Q:Exit->Act->FrameMode->World->Prop}(h:Gh P B aY N E ex F' af dz Q)(hle:cM E fK):Gh P B aY N fK ex F' af dz Q:=
 λaQ dM a' w' e gx h1=>h aQ dM a' w' e gx (hle.trans h1)
def zT(c0:Frame)(cs:List Frame)(Q:Exit->Act->FrameMode->World->Prop)(e:Exit)(a:Act)(m3:List Frame)(w:World):Prop:=∃gx,m3={c0 with mode:=gx}::cs/\Q e a gx w
def XB(P:Program)(N:Nat)(c:Code)(F:ax J)(X:ah)(u:Mode)(ex:hq)(F':ax J)(af:ah)(dz:Mode):Prop:=
 ∀B aY E bh a w m (c0:Frame) (cs:List Frame) (Q:Exit->Act->FrameMode->World->Prop),bP P B aY X E w->e7 bh N E F a->jR E X.bs bh->kD E u m->Gh P B aY N E ex F' af dz Q->
  c.wpSIn (fH none) 0 P (zT c0 cs Q) a ({c0 with mode:=m}::cs) w
theorem az0{u:Mode}{m:FrameMode}{c0:Frame}{cs:List Frame}(h:kD E u m):
 (∃v gx,recoverD ({c0 with mode:=m}::cs)=some (v,{c0 with mode:=gx}::cs)/\Den E (BM u).1 v/\kD E (BM u).2 gx)\/
 (recoverD ({c0 with mode:=m}::cs)=none/\(BM u).1= .val .nilIface/\(BM u).2=u):=by
 cases u with
 |ret=>cases h;exact .inr ⟨rfl,rfl,rfl⟩
 |cD bj=>
  obtain⟨l,h1,rfl⟩:=h;cases bj with
  |nil=>cases h1;exact .inr ⟨rfl,rfl,rfl⟩
  |cons p bj=>
   obtain⟨y,r⟩:=p;obtain⟨v,dD,a,b,rfl⟩:=h1;cases r with
   |false=>exact .inl ⟨v,.panicking ({v,recovered:=true}::dD),rfl,a,_,⟨v,dD,a,b,rfl⟩,rfl⟩
   |true=>exact .inr ⟨rfl,rfl,rfl⟩
theorem CH{N:Nat}:∀{l:List Oper} {F F':ax J} {X af:ah} {u dz:Mode},py P N l F X u=some (F',af,dz)->dh X af
 | [],_,_,_,_,_,_,h=>by simp only[py,Option.some.injEq,Prod.mk.injEq] at h;obtain⟨_,rfl,_⟩:=h;exact dh.refl _
 |o::l,F,F',X,af,u,dz,h=>by
  simp only[py] at h;split at h<;>try(cases h;done)
  cases aI:isRec o.op with
  |true=>rw[aI] at h;exact CH h
  |false=>
   rw[aI] at h;simp only[cond_false] at h;split at h<;>try(cases h;done)
   split at h<;>try(cases h;done)
   rename_i al;exact(K3 al).trans (CH h)
theorem CI{N:Nat}{ops:Array Oper}{c0:Frame}{cs:List Frame}{Q:Exit->Act->FrameMode->World->Prop}{F':ax J}{af:ah}{dz:Mode}(aC:cG af):
 ∀(n k:Nat) (F:ax J) (X:ah) (u:Mode) (E:Env) (a:Act) (w:World) (m:FrameMode),k+n=ops.size->py P N (ops.toList.drop k) F X u=some (F',af,dz)->bP P B aY X E w->e7 bh N E F a->kD E u m->
  (∀aQ a' w' gx,cM E aQ->e7 bh N aQ F' a'->bP P B aY af aQ w'->kD aQ dz gx->Q .normal a' gx w')->wpOpsSIn (fH none) 0 P ops (zT c0 cs Q) (List.range' k n) a ({c0 with mode:=m}::cs) w
 |0,k,F,X,u,E,a,w,m,ai,h,aB,aT,gq,cB=>by
  rw[List.drop_of_length_le (by simp;omega)] at h;simp only[py,Option.some.injEq,Prod.mk.injEq] at h;obtain⟨rfl,rfl,rfl⟩:=h;exact⟨m,rfl,cB E a w m (cM.refl _) aT aB gq⟩
 |n+1,k,F,X,u,E,a,w,m,ai,h,aB,aT,gq,cB=>by
  have ba:k<ops.toList.length:=by simp;omega
  rw[List.drop_eq_getElem_cons ba] at h;have aq:ops[k]?=some ops.toList[k]:=by simp[Array.getElem?_eq_getElem (show k<ops.size by omega)]
  generalize ops.toList[k]=o at h aq;rw[List.range'_succ];simp only[wpOpsSIn,aq];refine⟨λ_ _=>trivial,?_⟩;simp only[py] at h;split at h<;>try(cases h;done)
  rename_i bd;have hw:Region.wanted o (yielded ops a.tmps)=true:=by simp[Region.wanted,bd]
  rw[if_pos hw];cases aI:isRec o.op with
  |true=>
   rw[aI] at h;simp only[cond_true] at h
   have fx:(execOp a.eval o).run P w= .ok .recover w:=by
    unfold isRec at aI;split at aI<;>try(cases aI;done)
    rename_i c ae;split at aI<;>try(cases aI;done)
    rename_i ag;simp[execOp,ae,resolve,ag,invoke,builtin]
   simp only[fx];rcases az0 (c0:=c0) (cs:=cs) gq with⟨v,gx,h1,h2,h3⟩|⟨h1,h2,h3⟩
   ·simp only[h1];exact CI aC n (k+1) _ X _ E _ w gx (by omega) h aB (aT.put h2) h3 cB
   ·simp only[h1];rw[h2,h3] at h;exact CI aC n (k+1) _ X _ E _ w m (by omega) h aB (aT.put (d:=o.dst) (v:= .nilIface) rfl) gq cB
  |false=>
   rw[aI] at h;simp only[cond_false] at h;split at h<;>try(cases h;done)
   rename_i bA aL;split at h<;>try(cases h;done)
   rename_i y X1 al;have jg:cG X1:=(CH h).pc aC;obtain⟨fK,v,cN,ak,aD,a7,cw⟩:=WH aB (Ee aB aT aL) jg al;rcases aD with aD|⟨aD,rfl⟩
   ·simp only[aD];exact CI aC n (k+1) _ X1 _ fK _ cN m (by omega) h cw ((aT.mono ak).put a7) (gq.sub ak.sub) (λaQ a' w' gx bX=>cB aQ a' w' gx (ak.trans bX))
   ·simp only[aD];exact CI aC n (k+1) _ X1 _ fK _ cN m (by omega) h cw ((aT.mono ak).put a7) (gq.sub ak.sub) (λaQ a' w' gx bX=>cB aQ a' w' gx (ak.trans bX))
theorem Ab{N:Nat}{cO:Code->ax J->ah->R}(k6:∀c F X ex F' af,cO c F X=some (ex,F',af)->eV X af):∀(c:Code) (F:ax J) (X:ah) (u:Mode) (ex:hq) (F':ax J) (af:ah) (dz:Mode),hU P N cO c F X u=some (ex,F',af,dz)->eV X af:=by
 have plain:∀(c:Code) (F:ax J) (X:ah) (u:Mode) (ex:hq) (F':ax J) (af:ah) (dz:Mode),(match cO c F X with|some (ex,F,X)=>some (ex,F,X,u)|none=>none)=some (ex,F',af,dz)->eV X af:=by
  intro c F X u ex F' af dz h;split at h<;>cases h
  rename_i he;exact k6 _ _ _ _ _ _ he
 intro c
 induction c with
 |seq a b fQ gG=>
  intro F X u ex F' af dz h;simp only[hU] at h;split at h
  ·rename_i h1;exact(fQ _ _ _ _ _ _ _ h1).trans (gG _ _ _ _ _ _ _ h)
  ·exact fQ _ _ _ _ _ _ _ h
 |cond c a b fQ gG=>
  intro F X u ex F' af dz h;simp only[hU] at h;split at h<;>try(cases h;done)
  split at h
  ·rename_i ag;exact(rD ag).p5.trans (fQ _ _ _ _ _ _ _ h)
  ·rename_i ag;exact(rD ag).p5.trans (gG _ _ _ _ _ _ _ h)
  ·cases h
 |region id ops d=>
  intro F X u ex F' af dz h;cases d with
  |true=>exact plain _ _ _ _ _ _ _ _ h
  |false=>
   simp only[hU] at h;cases aI:AF ops.toList with
   |true=>
    rw[aI] at h;simp only[cond_true] at h;split at h<;>cases h
    rename_i he;exact(CH he).p5
   |false=>rw[aI] at h;exact plain _ _ _ _ _ _ _ _ h
 |_=>intro F X u ex F' af dz h;exact plain _ _ _ _ _ _ _ _ h
theorem alw{N:Nat}{ord:Nat->Hint}{cO:Code->ax J->ah->R}(ju:∀c F X ex F' af,gn P ord false c=true->cO c F X=some (ex,F',af)->cG af->vm P none N c F X ex F' af)
 (k6:∀c F X ex F' af,cO c F X=some (ex,F',af)->eV X af):∀(c:Code) (F:ax J) (X:ah) (u:Mode) (ex:hq) (F':ax J) (af:ah) (dz:Mode),gn P ord false c=true->hU P N cO c F X u=some (ex,F',af,dz)->cG af->XB P N c F X u ex F' af dz:=by
 have plain:∀(c:Code) (F:ax J) (X:ah) (u:Mode) (ex:hq) (F':ax J) (af:ah) (dz:Mode),gn P ord false c=true->(match cO c F X with|some (ex,F,X)=>some (ex,F,X,u)|none=>none)=some (ex,F',af,dz)->cG af->XB P N c F X u ex F' af dz:=by
  intro c F X u ex F' af dz dq h aC;split at h<;>cases h
  rename_i he;obtain⟨_,k⟩:=ju _ _ _ _ _ _ dq he aC;intro B aY E bh a w m c0 cs Q aB aT da gq cB;refine wpSIn_of_wpIn rfl (k none B aY E bh a w _ aB aT da rfl ?_);intro aQ dM a' w' e h1 h2 h3 aW bz;exact⟨m,rfl,cB aQ dM a' w' e m h1 h2 h3 aW (gq.sub h1.sub) bz⟩
 intro c
 induction c with
 |seq a b fQ gG=>
  intro F X u ex F' af dz dq h aC;simp only[gn,Bool.and_eq_true] at dq;simp only[hU] at h;split at h
  ·rename_i aM X1 iv h1;have jg:cG X1:=(Ab k6 _ _ _ _ _ _ _ _ h).pc aC;have k1:=fQ _ _ _ _ _ _ _ dq.1 h1 jg;have k2:=gG _ _ _ _ _ _ _ dq.2 h aC;intro B aY E bh a' w m c0 cs Q aB aT da gq cB;refine wpSIn_seq ?_
   have:=k1 B aY E bh a' w m c0 cs (λe aD e0 cy=>Exit.thenS (b.wpSIn (fH none) 0 P (zT c0 cs Q)) (zT c0 cs Q) e aD ({c0 with mode:=e0}::cs) cy) aB aT da gq ?_
   ·intro dA k x1 x2 x3 bC;obtain⟨e,aD,Zk,cy,l,⟨e0,rfl,q⟩,r⟩:=this dA k x1 x2 x3 bC;exact⟨e,aD,_,cy,l,q,r⟩
   ·intro aQ dM aD cy e e0 g1 g2 g3 g4 g5 g6;cases g6;exact k2 B aY aQ dM aD cy e0 c0 cs Q g4 g2 g3 g5 (cB.le g1)
  ·rename_i r b4;have k1:=fQ _ _ _ _ _ _ _ dq.1 h aC;intro B aY E bh a' w m c0 cs Q aB aT da gq cB;refine wpSIn_seq ?_
   have:=k1 B aY E bh a' w m c0 cs (λe aD e0 cy=>Exit.thenS (b.wpSIn (fH none) 0 P (zT c0 cs Q)) (zT c0 cs Q) e aD ({c0 with mode:=e0}::cs) cy) aB aT da gq ?_
   ·intro dA k x1 x2 x3 bC;obtain⟨e,aD,Zk,cy,l,⟨e0,rfl,q⟩,r⟩:=this dA k x1 x2 x3 bC;exact⟨e,aD,_,cy,l,q,r⟩
   ·intro aQ dM aD cy e e0 g1 g2 g3 g4 g5 g6;have a0:=cB aQ dM aD cy e e0 g1 g2 g3 g4 g5 g6;cases ex with
    |cz=>exact absurd h (b4 F' af dz)
    |ex id=>cases g6;exact⟨e0,rfl,a0⟩
    |ret=>cases g6;exact⟨e0,rfl,a0⟩
    |gt l=>cases g6;exact⟨e0,rfl,a0⟩
    |cD bj=>obtain⟨p,_,rfl⟩:=g6;exact⟨e0,rfl,a0⟩
 |cond c a b fQ gG=>
  intro F X u ex F' af dz dq h aC;simp only[gn,Bool.and_eq_true] at dq;simp only[hU] at h;split at h<;>try(cases h;done)
  rename_i z a1;split at h
  ·rename_i X1 ag;have k1:=fQ _ _ _ _ _ _ _ dq.1 h aC;have jg:cG X1:=(Ab k6 _ _ _ _ _ _ _ _ h).pc aC;obtain⟨h1,h2,h3,aW⟩:=rE ag;intro B aY E bh a' w m c0 cs Q aB aT da gq cB;exact wpSIn_cond ((h1 jg).2 _ _ (Bk aB aT a1)) (k1 B aY E bh a' w m c0 cs Q (aB.same h2 h3 aW) aT (by rw[Cq ag];exact da) gq cB)
  ·rename_i X1 ag;have k1:=gG _ _ _ _ _ _ _ dq.2 h aC;have jg:cG X1:=(Ab k6 _ _ _ _ _ _ _ _ h).pc aC;obtain⟨h1,h2,h3,aW⟩:=rE ag;intro B aY E bh a' w m c0 cs Q aB aT da gq cB;exact wpSIn_cond ((h1 jg).2 _ _ (Bk aB aT a1)) (k1 B aY E bh a' w m c0 cs Q (aB.same h2 h3 aW) aT (by rw[Cq ag];exact da) gq cB)
  ·cases h
 |region id ops d=>
  intro F X u ex F' af dz dq h aC;cases d with
  |true=>exact plain _ _ _ _ _ _ _ _ dq h aC
  |false=>
   simp only[hU] at h;cases aI:AF ops.toList with
   |true=>
    rw[aI] at h;simp only[cond_true] at h;split at h<;>cases h
    rename_i he;intro B aY E bh a' w m c0 cs Q aB aT da gq cB;refine wpSIn_region ?_;rw[List.range_eq_range'];refine CI (c0:=c0) (cs:=cs) aC ops.size 0 F X u E a' w m (by omega) (by simpa using he) aB aT gq ?_;intro aQ aD cy e0 g1 g2 g3 g4;exact cB aQ bh aD cy .normal e0 g1 g2 (by rw[(CH he).bs];exact da.sub g1.sub) g3 g4 rfl
   |false=>rw[aI] at h;exact plain _ _ _ _ _ _ _ _ dq h aC
 |_=>intro F X u ex F' af dz dq h aC;exact plain _ _ _ _ _ _ _ _ dq h aC
end
end Go.Xe
