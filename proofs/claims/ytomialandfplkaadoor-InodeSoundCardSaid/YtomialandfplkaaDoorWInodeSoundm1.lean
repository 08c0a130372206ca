import Derived.RangeFuncIn
import Derived.RangeFuncLeaves
import Derived.RecoverIn
import Derived.Test.YtomialandfplkaaDoorWInodeSoundm0
set_option linter.unusedSimpArgs false
set_option linter.unusedVariables false
namespace Go.Xe
section
variable{P:Program}{B:Nat}{aV w:World}{X:ah}{E:Env}{bg:List Deferred}
def e3(bg:List Deferred)(N:Nat)(E:Env)(F:av J)(a:Act):Prop:=
 a.defers=bg/\N<=a.tmps.size/\∀j y,F.get j=some y->j<N/\∃v,a.tmps[j]?=some v/\Den E y v
theorem e3.mono{N:Nat}{E aP:Env}{F:av J}{a:Act}(h:e3 bg N E F a)(ay:cJ E aP):e3 bg N aP F a:=
 ⟨h.1,h.2.1,λj y aa=>let ⟨l,v,h1,h2⟩:=h.2.2 j y aa;⟨l,v,h1,h2.mono ay⟩⟩
theorem e3.put{N:Nat}{F:av J}{a:Act}(h:e3 bg N E F a){d:Option Tmp}{y:J}{v:Value}(aF:Den E y v):e3 bg N E (Xe.put N F d y) (a.put d v):=by
 cases d with
 |none=>exact h
 |some d=>
  simp only[Xe.put,Act.put];cases ag:Nat.blt d N with
  |false=>
   refine⟨h.1,by simpa using h.2.1,λj z aa=>?_⟩;obtain⟨aJ,u,h1,h2⟩:=h.2.2 j z aa
   have bY:d≠j:=λe=>by subst e;have:Nat.blt d N=true:=by rw[Nat.blt_eq];exact aJ
                       rw[ag] at this;cases this
   exact⟨aJ,u,by simpa[Array.getElem?_setIfInBounds_ne bY] using h1,h2⟩
  |true=>
   have a8:d<N:=by rw[Nat.blt_eq] at ag;exact ag
   refine⟨h.1,by simpa using h.2.1,λj z aa=>?_⟩;rcases ix aa with⟨e,aw⟩|⟨e,a1⟩
   ·subst e;subst aw;have dV:=h.2.1;exact⟨a8,v,Array.getElem?_setIfInBounds_self_of_lt (Nat.lt_of_lt_of_le a8 dV),aF⟩
   ·obtain⟨aJ,u,h1,h2⟩:=h.2.2 j z a1;exact⟨aJ,u,by simpa[Array.getElem?_setIfInBounds_ne (λh=>e h.symm)] using h1,h2⟩
theorem AZ{N:Nat}{F:av J}{a:Act}(ay:bK P B aV X E w)(aR:e3 bg N E F a){x:Operand}{y:J}(h:look X.aH F x=some y):Den E y (a.eval x):=by
 cases x with
 |tmp t=>
  obtain⟨_,v,h1,h2⟩:=aR.2.2 t y h;simpa[Act.eval,h1] using h2
 |const v=>simp only[look,Option.some.injEq] at h;subst h;exact YD E v
 |global g=>
  simp only[look] at h;cases ag:Nat.blt g X.aH with
  |false=>simp[ag] at h
  |true=>
   simp only[ag,cond_true,Option.some.injEq] at h;subst h;obtain⟨c,ae⟩:=ay.m7 g (by rw[Nat.blt_eq] at ag;exact ag);exact⟨g,c,ae,rfl⟩
 |func f=>simp only[look,Option.some.injEq] at h;subst h;exact⟨[],[],rfl,rfl,rfl⟩
theorem D2{N:Nat}{F:av J}{a:Act}(ay:bK P B aV X E w)(aR:e3 bg N E F a):∀{xs:List Operand} {ys:List J},looks X.aH F xs=some ys->cc E ys (xs.map a.eval)
 | [],ys,h=>by simp[looks] at h;subst h;rfl
 |x::xs,ys,h=>by
  simp only[looks] at h;split at h<;>try(cases h;done)
  rename_i y bb;split at h<;>try(cases h;done)
  rename_i u2 fk;cases h;exact⟨_,_,AZ ay aR bb,D2 ay aR fk,rfl⟩
def fx(ro:Option Nat):Fence:={fn:=λ_=>True,depth:=none,alive:=false,round:=ro}
def sw(P:Program)(B:Nat)(aV:World)(E:Env)(y:Out)(af:ah)(e:Ending)(w':World):Prop:=
 ∃aP,cJ E aP/\bK P B aV af aP w'/\match y with
  | .ret z=>∃v,e= .returned v/\Den aP z v
  | .cy bj=>∃l,e= .panicked l/\ly aP bj l
def ra(P:Program)(E:Env)(c:wX)(argv:List Value)(w:World)(R:Ending->World->Prop):Prop:=match c with
 | .fn f=>(∃fn,P.funcs[f]?=some fn/\fn.body.isSome=true/\fn.name≠"runtime.NumGoroutine"/\CallsIn (fx none) 0 P f argv.toArray w R)\/(∃v w',(callFunc f argv.toArray).run P w= .ok (.value v) w'/\R (.returned v) w')
 | .iu f=>∃fn,P.funcs[f]?=some fn/\fn.body.isSome=true/\fn.name≠"runtime.NumGoroutine"/\CallsIn (fx none) 0 P f argv.toArray w R
 | .fm k=>∃l c fn tmps assign body,E k=some (l,c)/\(Instr.yield l argv.toArray).run P w= .ok (.round l fn tmps assign body) w/\RoundIn (fx none) 0 P l fn tmps assign body w R
def jz(P:Program)(callf:bH):Prop:=∀c args X y af,callf c args X=some (y,af)->cC af->
 cC X/\∀B aV E w argv,bK P B aV X E w->cc E args argv->ra P E c argv w (sw P B aV E y af)
theorem CallsIn.Gy{f:FuncId}{args:Array Value}{R:Ending->World->Prop}(ro:Option Nat)(h:CallsIn (fx none) 0 P f args w R):CallsIn (fx ro) 0 P f args w R:=h
theorem RoundIn.Gy{l:Nat}{f:FuncId}{tmps:Array Value}{a c:Code}{R:Ending->World->Prop}(ro:Option Nat)(h:RoundIn (fx none) 0 P l f tmps a c w R):RoundIn (fx ro) 0 P l f tmps a c w R:=h
theorem ajJ{c:Call}{type:TypeId}{bz args:List J}{xn:wX}{lq:Operand->Value}(ay:bK P B aV X E w)(hv:cc E bz (c.operands.toList.map lq))(h:po P c bz X=some (xn,args)):
 ∃argv,cc E args argv/\(match xn with
  | .fn f=>(do let d <- resolve lq c type;invoke d.target d.args:Sem Next).run P w=(callFunc f argv.toArray).run P w
  | .iu _=>False
  | .fm k=>∃l da,E k=some (l,da)/\(do let d <- resolve lq c type;invoke d.target d.args:Sem Next).run P w=(Instr.yield l argv.toArray).run P w):=by
 unfold po at h;split at h
 ·rename_i Np hI;have jX:c.operands.toList=Np::c.args.toList:=by simp[Call.operands,hI]
  rw[jX] at hv;split at h<;>try(cases h;done)
  ·rename_i f b5 qg eU;obtain⟨u,us,⟨sg,sh,DO,DP,hu⟩,ym,e⟩:=hv;simp only[List.map_cons,List.cons.injEq] at e;obtain⟨az,aw⟩:=e;cases h;refine⟨sg++us++sh,(DO.append ym).append DP,?_⟩;have vO:Array.map lq c.args=us.toArray:=by rw[<- aw, <- Array.toList_inj];simp
   simp[resolve,hI,az,hu,Deferred.ofValue,vO,invoke]
  ·rename_i k eU;obtain⟨u,us,⟨l,da,ai,hu⟩,ym,e⟩:=hv;simp only[List.map_cons,List.cons.injEq] at e;obtain⟨az,aw⟩:=e;cases h;refine⟨us,ym,l,da,ai,?_⟩;have vO:Array.map lq c.args=us.toArray:=by rw[<- aw, <- Array.toList_inj];simp
   simp[resolve,hI,az,hu,Deferred.ofValue,vO,invoke]
 ·rename_i rc name hI;have jX:c.operands.toList=rc::c.args.toList:=by simp[Call.operands,hI]
  rw[jX] at hv;split at h<;>try(cases h;done)
 ·cases h
theorem QN{callf:bH}(cD:jz P callf){N:Nat}{F:av J}{a:Act}{o:Oper}{y:Out}{af:ah}(ay:bK P B aV X E w)(aR:e3 bg N E F a)(jY:pK o.op=true)
 (h:jR P callf o F X=some (y,af))(aA:cC af)(ro:Option Nat){K:Act->World->Prop}{Q:Exit->Act->World->Prop}
 (m8:∀z,y= .ret z->∀aP v w',cJ E aP->Den aP z v->bK P B aV af aP w'->K (a.put o.dst v) w')
 (cx:∀bj,y= .cy bj->∀aP l w',cJ E aP->ly aP bj l->bK P B aV af aP w'->Q (.panic l) a w'):o.wpIn (fx ro) 0 P a w K Q:=by
 refine⟨λ_ _=>trivial,?_⟩
 have DE:o.semAt (fx ro).round a.eval=execOp a.eval o:=by
  cases ro with
  |none=>rfl
  |some l=>exact Oper.semAt_some l _ o (λc ae=>by rw[ae] at jY;simp[pK] at jY)
 rw[DE];unfold jR at h;split at h<;>try(cases h;done)
 rename_i bz hv;have eE:=D2 ay aR hv
 have plain:∀z,y= .ret z->FW P B aV E w (execOp a.eval o) z af->o.uponIn (fx ro) 0 P a K Q ((execOp a.eval o).run P w):=by
  rintro z a1 ⟨aP,v,w',h1,h2,h3,aU⟩
  rcases h2 with h2|⟨h2,rfl⟩
  ·rw[h2];exact m8 z a1 aP v w' h1 h3 aU
  ·rw[h2];exact m8 z a1 aP undef w' h1 h3 aU
 have afE:∀{r:Option (J×ah)},gm r=some (y,af)->∃z,y= .ret z/\r=some (z,af):=by
  intro r aI;unfold gm at aI;split at aI<;>cases aI
  exact⟨_,rfl,rfl⟩
 have cy:∀{u:Value},kI bz X=some (y,af)->cc E bz [u]->(execOp a.eval o).run P w=((Instr.panic u).run P w).andThen (λv w'=>Result.ok (Next.value v) w')->o.uponIn (fx ro) 0 P a K Q ((execOp a.eval o).run P w):=by
  intro u Im aF fp;unfold kI at Im;split at Im<;>try(cases Im;done)
  rename_i V6 aEc;cases Im;obtain⟨dt,gK,oD⟩:=lM aF;cases gK;have oE:=oD;obtain⟨x,ao,rfl⟩:=oE;rw[fp];have anK:(Instr.panic (.iface V6 x):Sem Value).run P w= .halt (.panic (.iface V6 x)) w:=rfl;rw[anK];exact cx _ rfl E _ w (cJ.refl _) ⟨_,[],oD,rfl,rfl⟩ ay
 split at h
 ·rename_i c ae;have jX:o.op.operands.toList=c.operands.toList:=by rw[ae];rfl
  rw[jX] at eE;have hex:execOp a.eval o=(do let d <- resolve a.eval c o.type;invoke d.target d.args):=by simp only[execOp,ae]
  split at h
  ·rename_i b hI;have anG:c.operands.toList=c.args.toList:=by simp[Call.operands,hI]
   rw[anG] at eE;have vO:Array.map a.eval c.args=(c.args.toList.map a.eval).toArray:=by rw[<- Array.toList_inj];simp
   cases Ax:pF b with
   |true=>
    rw[Ax] at h;simp only[cond_true] at h;have ag:b= .panic:=by cases b<;>first|rfl|cases Ax
    subst ag;have hlen:=eE.length;unfold kI at h;split at h<;>try(cases h;done)
    rename_i t x;obtain⟨u,hu,aF⟩:=lM eE;refine cy (u:=u) (by unfold kI;exact h) ⟨u,[],aF,rfl,rfl⟩ ?_;rw[hex];simp only[resolve,hI,vO,hu,invoke,Sem.run_bind,Sem.run_pure,Result.andThen_ok,builtin];rfl
   |false=>
    rw[Ax] at h;simp only[cond_false] at h;obtain⟨z,rfl,h3⟩:=afE h;obtain⟨aP,v,w',g1,g2,g3,g4⟩:=ajo (ty:=o.type) (consts:=c.args.map λ| .const _=>true|_=>false) ay eE h3;refine plain z rfl ⟨aP,v,w',g1,.inl ?_,g3,g4⟩;rw[hex];simp only[resolve,hI,vO,invoke,Sem.run_bind,Sem.run_pure,Result.andThen_ok];exact g2
  ·split at h<;>try(cases h;done)
   rename_i xn args hI;obtain⟨argv,C8,fp⟩:=ajJ (type:=o.type) ay eE hI;obtain⟨_,ft⟩:=cD _ _ _ _ _ h aA;have abG:=ft B aV E w argv ay C8
   have post:∀{e w'},sw P B aV E y af e w'->(∀v,e= .returned v->K (a.put o.dst v) w')/\(∀bj,e= .panicked bj->Q (.panic bj) a w')/\e≠ .outgrown:=by
    rintro e w' ⟨aP,h1,h2,h3⟩
    cases y with
    |ret z=>
     obtain⟨v,rfl,aF⟩:=h3;exact⟨λKY e=>(by cases e;exact m8 z rfl aP v w' h1 aF h2),λbj e=>(by cases e),by simp⟩
    |cy bj=>
     obtain⟨l,rfl,aF⟩:=h3;exact⟨λKY e=>(by cases e),λX7 e=>(by cases e;exact cx bj rfl aP l w' h1 aF h2),by simp⟩
   rw[hex];cases xn with
   |fn f=>
    rw[fp];rcases abG with⟨fn,xZ,gd,Dv,rI⟩|⟨v,w',aI,tc⟩
    ·have Dc:fn.body≠none:=λe=>by rw[e] at gd;cases gd
     have:(callFunc f argv.toArray).run P w= .ok (.enter f argv.toArray) w:=by simp[callFunc,xZ,Dv,Dc]
     rw[this,Oper.uponIn_enter];refine⟨(λh=>by cases h),?_⟩;refine CallsIn.mono (CallsIn.Gy ro rI) ?_;intro e w' tc;obtain⟨bQ,cn,fl⟩:=post tc;cases e with
     |returned v=>exact bQ v rfl
     |panicked bj=>exact cn bj rfl
     |outgrown=>exact absurd rfl fl
    ·rw[aI];exact(post tc).1 v rfl
   |iu f=>exact fp.elim
   |fm k=>
    obtain⟨l,da,ai,fp⟩:=fp;obtain⟨dw,aDf,fn,tmps,assign,body,cN,bb,nW⟩:=abG;rw[ai] at cN;cases cN;rw[fp,bb,Oper.uponIn_round];refine⟨(λh=>by cases h),?_⟩;refine RoundIn.mono (RoundIn.Gy ro nW) ?_;intro e w' tc;obtain⟨bQ,cn,fl⟩:=post tc;cases e with
    |returned v=>exact bQ v rfl
    |panicked bj=>exact cn bj rfl
    |outgrown=>exact absurd rfl fl
 ·rename_i x ao;have jX:o.op.operands.toList=[x]:=by rw[ao];rfl
  rw[jX] at eE;refine cy (u:=a.eval x) h eE ?_;simp only[execOp,ao,Sem.run_bind];rfl
 ·rename_i op aDA aDB;obtain⟨z,rfl,h3⟩:=afE h;exact plain z rfl (VN ay eE aA h3)
theorem Ni{callf:bH}{F:av J}{o:Oper}{y:J}{af:ah}(h:ka P callf o F X=some (y,af)):jR P callf o F X=some (.ret y,af):=by
 unfold ka at h;unfold jR;split at h<;>try(cases h;done)
 rename_i bz hv;split at h
 ·rename_i c ae;unfold xx at h;split at h
  ·rename_i b hI
   have ag:pF b=false:=by
    cases b<;>first|rfl|(unfold iq at h;split at h<;>first|cases h|contradiction)
   simp only[ae,hI,ag,cond_false,h,gm]
  ·rename_i hI;split at h<;>try(cases h;done)
   rename_i xn args mF;unfold zQ at h;split at h<;>try(cases h;done)
   rename_i z X1 a1;cases h;split
   ·rename_i a2 fi;rw[ae] at fi;cases fi;split
    ·rename_i b ag;exact absurd ag (hI b)
    ·simp only[mF,a1]
   ·rename_i ao;rw[ae] at ao;cases ao
   ·rename_i ao _;exact absurd ae (ao c)
 ·rename_i op bY;split
  ·rename_i c ae;exact absurd ae (bY c)
  ·rename_i x ao;rw[ao] at h;simp[dK] at h
  ·rw[h];rfl
theorem ap8{callf:bH}(cD:jz P callf){N:Nat}{F:av J}{a:Act}{o:Oper}{y:J}{af:ah}(ay:bK P B aV X E w)(aR:e3 bg N E F a)(jY:pK o.op=true)
 (h:ka P callf o F X=some (y,af))(aA:cC af)(ro:Option Nat){K:Act->World->Prop}{Q:Exit->Act->World->Prop}
 (m8:∀aP v w',cJ E aP->Den aP y v->bK P B aV af aP w'->K (a.put o.dst v) w'):o.wpIn (fx ro) 0 P a w K Q:=
 QN cD ay aR jY (Ni h) aA ro (λz a1=>by cases a1;exact m8) (λbj a1=>by cases a1)
theorem Ct{callf:bH}(cD:jz P callf){F:av J}{o:Oper}{y:Out}{af:ah}(h:jR P callf o F X=some (y,af))(aA:cC af):cC X:=by
 have ad2:∀{bz:List J},kI bz X=some (y,af)->cC X:=by
  intro bz h;unfold kI at h;split at h<;>cases h
  exact aA
 have afF:∀{r:Option (J×ah)},gm r=some (y,af)->∃z,r=some (z,af):=by
  intro r aI;unfold gm at aI;split at aI<;>cases aI
  exact⟨_,rfl⟩
 unfold jR at h;split at h<;>try(cases h;done)
 split at h
 ·split at h
  ·rename_i b _;cases ag:pF b with
   |true=>rw[ag] at h;exact ad2 h
   |false=>
    rw[ag] at h;obtain⟨z,h⟩:=afF h;unfold cC;rw[<- (MH h).pc];exact aA
  ·split at h<;>try(cases h;done)
   exact(cD _ _ _ _ _ h aA).1
 ·exact ad2 h
 ·obtain⟨z,h⟩:=afF h;exact azC h aA
theorem adP{callf:bH}(cD:jz P callf){F:av J}{o:Oper}{y:J}{af:ah}(h:ka P callf o F X=some (y,af))(aA:cC af):cC X:=Ct cD (Ni h) aA
theorem KZ{N:Nat}{F:av J}{a:Act}{ops:Array Oper}{o:Oper}{b:Bool}{af:ah}(aR:e3 bg N E F a)(h:hb ops.toList F X o.guard=some (b,af)):
 (cC af->cC X/\Region.wanted o (yielded ops a.tmps)=b)/\af.aS=X.aS/\af.next=X.next/\af.aH=X.aH:=by
 unfold hb at h;unfold Region.wanted;split at h
 ·rename_i bd;cases h;simp[bd]
 ·rename_i j want bd;split at h<;>try(cases h;done)
  rename_i o' fS;split at h<;>try(cases h;done)
  rename_i d aF;split at h<;>try(cases h;done)
  rename_i y bb;obtain⟨h1,h2,h3,aU⟩:=XH h;refine⟨λaA=>⟨(h1 aA).1,?_⟩,h2,h3,aU⟩;obtain⟨_,v,hv,amZ⟩:=aR.2.2 d y bb;have ab8:ops[j]?=some o':=by simpa using fS
  rcases(h1 aA).2 _ _ amZ with⟨c,rfl,ae⟩|⟨a,rfl,rfl⟩
  ·rw[<- ae];simp[bd,yielded,ab8,aF,hv]
  ·simp[bd,yielded,ab8,aF,hv]
theorem BE{F:av J}{ops:List Oper}{g:Option (Nat×Bool)}{b:Bool}{af:ah}(h:hb ops F X g=some (b,af))(aA:cC af):cC X:=by
 unfold hb at h;split at h
 ·cases h;exact aA
 ·split at h<;>try(cases h;done)
  split at h<;>try(cases h;done)
  split at h<;>try(cases h;done)
  exact((XH h).1 aA).1
theorem VY{callf:bH}(cD:jz P callf){N:Nat}{F F':av J}{ops:List Oper}{o:Oper}{af:ah}(h:j4 P callf N ops o F X=some (F',af))(aA:cC af):cC X:=by
 unfold j4 at h;split at h
 ·rename_i X1 hw;split at h<;>try(cases h;done)
  rename_i y cU aq;cases h;exact BE hw (adP cD aq aA)
 ·rename_i X1 hw;cases h;exact BE hw aA
 ·cases h
theorem agw{callf:bH}(cD:jz P callf){N:Nat}{F F':av J}{a:Act}{ops:Array Oper}{o:Oper}{af:ah}(ay:bK P B aV X E w)(aR:e3 bg N E F a)(jY:pK o.op=true)
 (h:j4 P callf N ops.toList o F X=some (F',af))(aA:cC af)(ro:Option Nat){K:Act->World->Prop}{Q:Exit->Act->World->Prop}
 (m8:∀aP a' w',cJ E aP->e3 bg N aP F' a'->bK P B aV af aP w'->K a' w'):
 if Region.wanted o (yielded ops a.tmps) then o.wpIn (fx ro) 0 P a w K Q
 else(∀f,o.about P w a.eval=some f->(fx ro).fn f)/\K (a.put o.dst undef) w:=by
 unfold j4 at h;split at h
 ·rename_i X1 hw;split at h<;>try(cases h;done)
  rename_i y cU aq;cases h;have iX:=adP cD aq aA;obtain⟨h1,h2,h3,aU⟩:=KZ aR hw;rw[(h1 iX).2,if_pos rfl];exact ap8 cD (ay.same h2 h3 aU) aR jY aq aA ro (λaP v w' an aD a7=>m8 aP _ w' an ((aR.mono an).put aD) a7)
 ·rename_i X1 hw;cases h;obtain⟨h1,h2,h3,aU⟩:=KZ aR hw;rw[(h1 aA).2,if_neg (by simp)];exact⟨λ_ _=>trivial,m8 E _ w (cJ.refl _) (aR.put rfl) (ay.same h2 h3 aU)⟩
 ·cases h
end
section
variable{P:Program}{B:Nat}{aV w:World}{E:Env}{bg:List Deferred}
def ht(F F':av J):Prop:=∀k,F.get k=F'.get k
theorem ht.refl(F:av J):ht F F:=λ_=>rfl
theorem ht.symm{F F':av J}(h:ht F F'):ht F' F:=λk=>(h k).symm
theorem ht.trans{F F' sl:av J}(h:ht F F')(h':ht F' sl):ht F sl:=λk=>(h k).trans (h' k)
theorem e3.eqv{N:Nat}{F F':av J}{a:Act}(h:e3 bg N E F a)(he:ht F F'):e3 bg N E F' a:=
 ⟨h.1,h.2.1,λj y aa=>h.2.2 j y (by rw[he j];exact aa)⟩
theorem ada{aH:Nat}{F F':av J}:∀{xs:List Operand},(∀x∈xs,look aH F x=look aH F' x)->looks aH F xs=looks aH F' xs
 | [],_=>rfl
 |x::xs,h=>by simp only[looks,h x (List.mem_cons_self ..),ada (λy bb=>h y (List.mem_cons_of_mem _ bb))]
def jL(P:Program)(callf:bH)(ops:List Oper)(o:Oper)(F:av J)(X:ah):Option (J×ah):=
 match hb ops F X o.guard with
 |some (true,X)=>ka P callf o F X
 |some (false,X)=>some (.val undef,X)
 |none=>none
theorem lk{callf:bH}{N:Nat}{ops:List Oper}{o:Oper}{F F':av J}{X af:ah}:
 j4 P callf N ops o F X=some (F',af)↔∃y,jL P callf ops o F X=some (y,af)/\F'=put N F o.dst y:=by
 unfold j4 jL;cases hw:hb ops F X o.guard with
 |none=>simp
 |some r=>
  obtain⟨b,X1⟩:=r;cases b with
  |false=>
   simp only[Option.some.injEq,Prod.mk.injEq];constructor
   ·rintro ⟨rfl,rfl⟩;exact⟨_,⟨rfl,rfl⟩,rfl⟩
   ·rintro ⟨zh,⟨rfl,rfl⟩,rfl⟩;exact⟨rfl,rfl⟩
  |true=>
   simp only[];cases aq:ka P callf o F X1 with
   |none=>simp
   |some r=>
    obtain⟨y,cU⟩:=r;simp only[Option.some.injEq,Prod.mk.injEq];constructor
    ·rintro ⟨rfl,rfl⟩;exact⟨y,⟨rfl,rfl⟩,rfl⟩
    ·rintro ⟨zh,⟨rfl,rfl⟩,rfl⟩;exact⟨rfl,rfl⟩
theorem Qv{ops:Array Oper}{o:Oper}{F F':av J}{X:ah}(h:∀t∈o.looksAt ops,F.get t=F'.get t):
 hb ops.toList F X o.guard=hb ops.toList F' X o.guard/\∀aH,looks aH F o.op.operands.toList=looks aH F' o.op.operands.toList:=by
 refine⟨?_,λaH=>ada λx ao=>?_⟩
 ·unfold hb;cases bd:o.guard with
  |none=>rfl
  |some amd=>
   obtain⟨j,want⟩:=amd;simp only[];cases aq:ops.toList[j]? with
   |none=>rfl
   |some o'=>
    simp only[];cases aF:o'.dst with
    |none=>rfl
    |some d=>
     have fS:ops[j]?=some o':=by simpa using aq
     have hm:d∈o.looksAt ops:=by simp[Oper.looksAt,bd,fS,aF]
     simp only[h d hm]
 ·cases x with
  |tmp t=>exact h t (List.mem_append_left _ (List.mem_filterMap.2 ⟨.tmp t,ao,rfl⟩))
  |_=>rfl
theorem KG{callf:bH}{ops:Array Oper}{o:Oper}{F F':av J}{X:ah}(h:∀t∈o.looksAt ops,F.get t=F'.get t):
 jL P callf ops.toList o F X=jL P callf ops.toList o F' X:=by
 obtain⟨hw,aJ⟩:=Qv (X:=X) h;unfold jL;rw[hw];unfold ka;simp only[aJ]
theorem pO{N:Nat}{F:av J}{d:Option Tmp}{y:J}(k:Nat)(h:d≠some k):(put N F d y).get k=F.get k:=by
 cases d with
 |none=>rfl
 |some t=>
  simp only[put];cases ag:Nat.blt t N with
  |false=>rfl
  |true=>
   have a8:t<N:=by rw[Nat.blt_eq] at ag;exact ag
   simp only[cond_true];rw[kA,if_neg (λe=>h (by rw[e]))]
theorem Q0{N:Nat}{F F':av J}{d:Option Tmp}{y:J}{k:Nat}(h:d=some k)(aR:F.get k=F'.get k):(put N F d y).get k=(put N F' d y).get k:=by
 subst h;simp only[put];cases ag:Nat.blt k N with
 |false=>exact aR
 |true=>
  simp only[cond_true];rw[kA,kA];simp
theorem aef{N:Nat}{F F':av J}(he:ht F F')(d:Option Tmp)(y:J):ht (put N F d y) (put N F' d y):=λk=>by
 by_cases h:d=some k
 ·exact Q0 h (he k)
 ·rw[pO k h,pO k h];exact he k
theorem put_comm{N:Nat}{F:av J}{d e:Option Tmp}{y z:J}(h:∀t,d=some t->e≠some t):ht (put N (put N F d y) e z) (put N (put N F e z) d y):=λk=>by
 by_cases aF:d=some k
 ·have he:=h k aF;rw[pO k he];exact Q0 aF (pO k he).symm
 ·rw[pO (d:=d) k aF];by_cases he:e=some k
  ·exact Q0 he (pO k aF)
  ·rw[pO k he,pO k he,pO k aF]
theorem azZ{callf:bH}{N:Nat}{ops:Array Oper}{o:Oper}{F F' G:av J}{X af:ah}(he:ht F F')(h:j4 P callf N ops.toList o F X=some (G,af)):
 ∃tP,j4 P callf N ops.toList o F' X=some (tP,af)/\ht G tP:=by
 obtain⟨y,bb,rfl⟩:=lk.1 h;exact⟨_,lk.2 ⟨y,by rw[<- KG (λt _=>he t)];exact bb,rfl⟩,aef he _ _⟩
theorem Gz{X af:ah}{y:J}{b:Bool}(aq:X.cG=[])(h:fN X y=some (b,af)):af=X/\∀X1,fN X1 y=some (b,X1):=by
 cases y with
 |bool c=>simp only[fN,Option.some.injEq,Prod.mk.injEq] at h;obtain⟨rfl,rfl⟩:=h;exact⟨rfl,λ_=>rfl⟩
 |val x=>cases x<;>simp[fN,ah.ask,aq] at h
 |_=>simp[fN] at h
theorem aiY{X af:ah}{y:J}{b want:Bool}(aq:X.cG=[])(h:lG X want y=some (b,af)):af=X/\∀X1,lG X1 want y=some (b,X1):=by
 unfold lG at h⊢;cases aK:th y with
 |true=>
  simp only[aK,cond_true,Option.some.injEq,Prod.mk.injEq] at h;obtain⟨rfl,rfl⟩:=h;exact⟨rfl,λ_=>rfl⟩
 |false=>
  simp only[aK,cond_false] at h;split at h<;>try(cases h;done)
  rename_i ag;cases h;obtain⟨h1,h2⟩:=Gz aq ag;exact⟨h1,λX1=>by simp[h2 X1]⟩
theorem BD{ops:List Oper}{F:av J}{X af:ah}{g:Option (Nat×Bool)}{b:Bool}(aq:X.cG=[])(h:hb ops F X g=some (b,af)):af=X/\∀X1,hb ops F X1 g=some (b,X1):=by
 unfold hb at h⊢;split at h
 ·cases h;exact⟨rfl,λ_=>rfl⟩
 ·split at h<;>try(cases h;done)
  split at h<;>try(cases h;done)
  split at h<;>try(cases h;done)
  obtain⟨h1,h2⟩:=aiY aq h;exact⟨h1,λX1=>by simp[*]⟩
theorem akj{s d:TypeId}{x y:J}{X af:ah}(h:jG P s d x X=some (y,af)):E6 P s d=true:=by
 unfold jG at h;unfold E6
 split at h<;>first
  |(cases h;done)
  |(rename_i h1 h2;simp only[h1,h2])
  |(rename_i h1 h2;simp[h1,h2])
theorem aqw{op:Op}{bz:List J}{X af:ah}{y:J}(aA:mb P op=true)(aq:X.cG=[])(h:dK P op bz X=some (y,af)):af=X/\∀X1,dK P op bz X1=some (y,X1):=by
 unfold dK at h;split at h
 all_goals first
  |(simp[mb] at aA;done)
  |(cases h;done)
  |(cases h;exact⟨rfl,λ_=>rfl⟩)
  |(obtain⟨h',eH⟩:=gz h;subst eH;exact⟨rfl,λX1=>by simp only[dK,ds,h']⟩)
  |(unfold tE at h
    split at h
    ·rename_i ag;cases h;obtain⟨h1,h2⟩:=Gz aq ag;exact⟨h1,λX1=>by simp only[dK,tE,h2]⟩
    ·rename_i ag;cases h;obtain⟨h1,h2⟩:=Gz aq ag;exact⟨h1,λX1=>by simp only[dK,tE,h2]⟩
    ·cases h)
  |(split at h
    ·rename_i ae;cases h;exact⟨rfl,λX1=>by simp only[dK,ae]⟩
    ·have:=akj h;simp[mb,this] at aA)
structure c7 (X af:ah):Prop where
 cG:X.cG=[]->af.cG=[]
 aH:af.aH=X.aH
 next:X.next<=af.next
 ck:∀k o o',k<X.next->X.aS.get k=some o->af.aS.get k=some o'->o.ck<=o'.ck/\(o'.ck=o.ck->o'=o)
 dead:∀k,k<X.next->X.aS.get k=none->af.aS.get k=none
 bs:af.bs=X.bs
 pc:cC af->cC X
theorem c7.refl(X:ah):c7 X X:=⟨λh=>h,rfl,Nat.le_refl _,λk o o' _ h h'=>by rw[h] at h';cases h';exact⟨Nat.le_refl _,λ_=>rfl⟩,λ_ _ h=>h,rfl,λh=>h⟩
theorem c7.trans{X Y Z:ah}(h:c7 X Y)(h':c7 Y Z):c7 X Z:=by
 refine⟨λaq=>h'.cG (h.cG aq),h'.aH.trans h.aH,Nat.le_trans h.next h'.next,λk o o' ai aq fS=>?_,λk ai aF=>h'.dead k (Nat.lt_of_lt_of_le ai h.next) (h.dead k ai aF),h'.bs.trans h.bs,λp=>h.pc (h'.pc p)⟩;cases bb:Y.aS.get k with
 |none=>have:=h'.dead k (Nat.lt_of_lt_of_le ai h.next) bb;rw[fS] at this;cases this
 |some oy=>
  obtain⟨an,aD⟩:=h.ck k o oy ai aq bb;obtain⟨bR,b2⟩:=h'.ck k oy o' (Nat.lt_of_lt_of_le ai h.next) bb fS;exact⟨Nat.le_trans an bR,λe=>by rw[b2 (by omega),aD (by omega)]⟩
theorem c7.same{X af:ah}(aq:X.cG=[]->af.cG=[])(aO:af.aH=X.aH)(ao:af.next=X.next)(nU:af.aS=X.aS)(aF:af.bs=X.bs)(ta:cC af->cC X):c7 X af:=
 ⟨aq,aO,by rw[ao];exact Nat.le_refl _,λk o o' _ h h'=>by rw[nU,h] at h';cases h';exact⟨Nat.le_refl _,λ_=>rfl⟩,λk _ h=>by rw[nU];exact h,aF,ta⟩
theorem c7.new(X:ah)(o:bD):c7 X (X.new o).2:=by
 refine⟨λh=>h,rfl,Nat.le_succ _,λk a b ai h h'=>?_,λk ai h=>?_,rfl,λh=>h⟩
 ·rcases cz.ix h' with⟨e,_⟩|⟨_,h2⟩
  ·omega
  ·rw[h] at h2;cases h2;exact⟨Nat.le_refl _,λ_=>rfl⟩
 ·cases h':(X.new o).2.aS.get k with
  |none=>rfl
  |some b=>
   rcases cz.ix h' with⟨e,_⟩|⟨_,h2⟩
   ·omega
   ·rw[h] at h2;cases h2
theorem c7.store{X:ah}{k:Nat}{o o':bD}(ai:X.aS.get k=some o)(hv:o.ck<o'.ck):c7 X {X with aS:=X.aS.put k o'}:=by
 refine⟨λh=>h,rfl,Nat.le_refl _,λj a b _ h h'=>?_,λj _ h=>?_,rfl,λh=>h⟩
 ·rcases cz.ix h' with⟨rfl,rfl⟩|⟨_,h2⟩
  ·rw[ai] at h;cases h;exact⟨by omega,λe=>by omega⟩
  ·rw[h] at h2;cases h2;exact⟨Nat.le_refl _,λ_=>rfl⟩
 ·cases h':(X.aS.put k o').get j with
  |none=>rfl
  |some b=>
   rcases cz.ix h' with⟨rfl,_⟩|⟨_,h2⟩
   ·rw[ai] at h;cases h
   ·rw[h] at h2;cases h2
theorem c7.name{X:ah}{k:Nat}{o:bD}:c7 X {X with next:=X.next+1,aS:=(X.aS.del k).put X.next o}:=by
 refine⟨λh=>h,rfl,Nat.le_succ _,λj a b aa h h'=>?_,λj aa h=>?_,rfl,λh=>h⟩
 ·rcases cz.ix h' with⟨e,_⟩|⟨_,h2⟩
  ·omega
  ·have:=(cz.sV h2).2;rw[h] at this;cases this;exact⟨Nat.le_refl _,λ_=>rfl⟩
 ·show((X.aS.del k).put X.next o).get j=none;cases h':((X.aS.del k).put X.next o).get j with
  |none=>rfl
  |some b=>
   rcases cz.ix h' with⟨e,_⟩|⟨_,h2⟩
   ·omega
   ·have:=(cz.sV h2).2;rw[h] at this;cases this
theorem jj.keeps{X af:ah}(h:jj X af):c7 X af:=by
 cases h with
 |same=>exact c7.refl _
 |new o=>exact c7.new _ _
 |set k o o' h1 h2=>exact c7.store h1 h2
 |name k o=>exact c7.name
theorem Cc{X af:ah}{y:J}{b:Bool}(h:fN X y=some (b,af)):af.bs=X.bs:=by
 cases y with
 |bool c=>simp only[fN,Option.some.injEq,Prod.mk.injEq] at h;obtain⟨rfl,rfl⟩:=h;rfl
 |val x=>
  cases x with
  |bool s=>
   simp only[fN,ah.ask] at h;split at h<;>cases h
   rfl
  |_=>simp[fN] at h
 |_=>simp[fN] at h
theorem rp{X af:ah}{y:J}{b:Bool}(h:fN X y=some (b,af)):c7 X af:=by
 obtain⟨_,h2,h3,aU⟩:=rq h;exact c7.same (λaq=>by rw[(Gz aq h).1];exact aq) aU h3 h2 (Cc h) (λaA=>((rq h).1 aA).1)
def fA(callf:bH):Prop:=∀c args X y af,callf c args X=some (y,af)->c7 X af
theorem Kw{op:Op}{bz:List J}{X af:ah}{y:J}(h:dK P op bz X=some (y,af)):c7 X af:=by
 unfold dK at h;split at h
 case h_3=>
  unfold tE at h;split at h
  ·rename_i ag;cases h;exact rp ag
  ·rename_i ag;cases h;exact rp ag
  ·cases h
 case h_4=>unfold pR newRow at h;split at h<;>(try simp only[force_eq] at h)<;>cases h;exact c7.new _ _
 case h_5=>
  unfold pT newRow at h;rename_i x;cases ao:x.flat<;>simp only[ao,cond_false,cond_true,force_eq] at h<;>cases h
  exact c7.new _ _
 case h_7=>
  unfold oU newRow at h;split at h<;>try(cases h;done)
  split at h<;>try(cases h;done)
  rename_i s z _ _;generalize ae:(Nat.ble _ _&&Nat.ble 1 s&&_)=b at h;cases b<;>simp only[cond_true,cond_false,force_eq] at h
  ·cases h
  ·split at h<;>cases h;exact c7.new _ _
 case h_9=>
  split at h<;>cases h
  rename_i X1 aj;unfold n6 at aj;split at aj<;>try(cases aj;done)
  rename_i o n aq _;generalize ae:(Nat.beq _ _&&_&&_&&_)=b at aj;cases b<;>simp only[cond_true,cond_false] at aj<;>cases aj
  exact c7.store aq (Nat.lt_succ_self _)
 case h_16=>
  unfold pU mM at h;split at h<;>try(cases h;done)
  split at h<;>try(cases h;done)
  split at h<;>try(cases h;done)
  rename_i s z b _ _ _;generalize ae:(Nat.ble _ _&&_&&_&&_&&_)=b at h;cases b<;>simp only[cond_true,cond_false,force_eq] at h<;>cases h
  exact c7.new _ _
 all_goals first
  |(cases h;exact c7.refl _)
  |(obtain⟨_,rfl⟩:=gz h;exact c7.refl _)
  |(cases h;done)
  |exact(afw h).keeps
  |exact(adz h).keeps
  |(unfold tp at h;cases h;exact c7.new _ _)
  |(split at h<;>cases h;rename_i hu;exact(agW hu).keeps)
  |exact(YS h).keeps
  |(split at h<;>cases h;rename_i hu;exact(YR hu).keeps)
  |(split at h
    ·cases h;exact c7.refl _
    ·exact(Yn h).keeps)
theorem ali{callf:bH}(ae:fA callf){o:Oper}{F:av J}{X af:ah}{y:J}(h:ka P callf o F X=some (y,af)):c7 X af:=by
 unfold ka at h;split at h<;>try(cases h;done)
 split at h
 ·unfold xx at h;split at h
  ·exact(MH h).keeps
  ·split at h<;>try(cases h;done)
   unfold zQ at h;split at h<;>try(cases h;done)
   rename_i a1;cases h;exact ae _ _ _ _ _ a1
 ·exact Kw h
theorem G0{callf:bH}(ae:fA callf){o:Oper}{F:av J}{X af:ah}{y:Out}(h:jR P callf o F X=some (y,af)):c7 X af:=by
 have ad1:∀{bz:List J},kI bz X=some (y,af)->c7 X af:=by
  intro bz h;unfold kI at h;split at h<;>cases h
  exact c7.refl _
 have E5:∀{r:Option (J×ah)},gm r=some (y,af)->∃z,r=some (z,af):=by
  intro r aI;unfold gm at aI;split at aI<;>cases aI
  exact⟨_,rfl⟩
 unfold jR at h;split at h<;>try(cases h;done)
 split at h
 ·split at h
  ·rename_i b _;cases ag:pF b with
   |true=>rw[ag] at h;exact ad1 h
   |false=>
    rw[ag] at h;obtain⟨z,h⟩:=E5 h;exact(MH h).keeps
  ·split at h<;>try(cases h;done)
   exact ae _ _ _ _ _ h
 ·exact ad1 h
 ·obtain⟨z,h⟩:=E5 h;exact Kw h
theorem wM{ops:List Oper}{F:av J}{X af:ah}{g:Option (Nat×Bool)}{b:Bool}(h:hb ops F X g=some (b,af)):c7 X af:=by
 unfold hb at h;split at h
 ·cases h;exact c7.refl _
 ·split at h<;>try(cases h;done)
  split at h<;>try(cases h;done)
  split at h<;>try(cases h;done)
  rename_i y _;unfold lG at h;cases aK:th y with
  |true=>
   simp only[aK,cond_true,Option.some.injEq,Prod.mk.injEq] at h;obtain⟨rfl,rfl⟩:=h;exact c7.refl _
  |false=>
   simp only[aK,cond_false] at h;split at h<;>try(cases h;done)
   rename_i ag;cases h;exact rp ag
theorem uM{callf:bH}(ae:fA callf){ops:List Oper}{o:Oper}{F:av J}{X af:ah}{y:J}(h:jL P callf ops o F X=some (y,af)):c7 X af:=by
 unfold jL at h;split at h
 ·rename_i X1 hw;exact(wM hw).trans (ali ae h)
 ·rename_i X1 hw;cases h;exact wM hw
 ·cases h
theorem VT{callf:bH}(ae:fA callf){N:Nat}{ops:List Oper}{o:Oper}{F F':av J}{X af:ah}(h:j4 P callf N ops o F X=some (F',af)):c7 X af:=by
 obtain⟨y,bb,_⟩:=lk.1 h;exact uM ae bb
theorem aqu{c:Call}{bz:List J}{X af:ah}{y:J}{b:Builtin}(aA:mb P (.call c)=true)(ag:c.callee= .builtin b)(h:iq P b c.argTypes bz X=some (y,af)):
 af=X/\∀X1,iq P b c.argTypes bz X1=some (y,X1):=by
 unfold iq at h;split at h
 ·split at h<;>try(cases h;done)
  rename_i aK;obtain⟨h',eH⟩:=gz h;exact⟨eH.symm,λX1=>by simp only[iq,aK,h',ds]⟩
 ·split at h<;>try(cases h;done)
  rename_i aK;obtain⟨h',eH⟩:=gz h;exact⟨eH.symm,λX1=>by simp only[iq,aK,h',ds]⟩
 ·obtain⟨h',eH⟩:=gz h;exact⟨eH.symm,λX1=>by simp only[iq,h',ds]⟩
 ·obtain⟨h',eH⟩:=gz h;exact⟨eH.symm,λX1=>by simp only[iq,h',ds]⟩
 ·simp[mb,Eg,ag,QY] at aA
 ·simp[mb,Eg,ag,QY] at aA
 ·cases h
theorem aqv{callf:bH}{o:Oper}{F:av J}{X af:ah}{y:J}(aA:mb P o.op=true)(aq:X.cG=[])(h:ka P callf o F X=some (y,af)):
 af=X/\∀X1,X1.aH=X.aH->ka P callf o F X1=some (y,X1):=by
 unfold ka at h⊢;split at h<;>try(cases h;done)
 rename_i bz aJ;split at h
 ·rename_i c ae;unfold xx at h;rw[ae] at aA;split at h
  ·rename_i b hI;obtain⟨h1,h2⟩:=aqu aA hI h;exact⟨h1,λX1 lR=>by simp only[lR,aJ,xx,hI];exact h2 X1⟩
  ·rename_i hI;have pC:Eg c.callee=true:=aA;unfold Eg at pC;split at pC
   ·rename_i b ag;exact absurd ag (hI b)
   ·cases pC
 ·rename_i op bY;obtain⟨h1,h2⟩:=aqw aA aq h;refine⟨h1,λX1 lR=>?_⟩;simp only[lR,aJ];exact h2 X1
theorem KH{callf:bH}{ops:List Oper}{o:Oper}{F:av J}{X af:ah}{y:J}(aA:mb P o.op=true)(aq:X.cG=[])(h:jL P callf ops o F X=some (y,af)):
 af=X/\∀X1,X1.aH=X.aH->jL P callf ops o F X1=some (y,X1):=by
 unfold jL at h⊢;split at h
 ·rename_i cU hw;obtain⟨rfl,ux⟩:=BD aq hw;obtain⟨h1,h2⟩:=aqv aA aq h;refine⟨h1,λX1 lR=>?_⟩;rw[ux X1];exact h2 X1 lR
 ·rename_i cU hw;obtain⟨rfl,ux⟩:=BD aq hw;cases h;exact⟨rfl,λX1 _=>by rw[ux X1]⟩
 ·cases h
def VA:List J->Option Nat
 | [.ptr k _]=>some k
 | [.aY k _ _ _ _]=>some k
 | [.mp k,_]=>some k
 |_=>none
theorem ao6{t:TypeId}{m k y:J}{ok:Bool}{X X1:ah}(ai:∀j,m= .mp j->X1.aS.get j=X.aS.get j)(h:y9 P t m k ok X=some y):y9 P t m k ok X1=some y:=by cases h
theorem ayl{op:Op}{bz:List J}{X af:ah}{y:J}(aA:e5 P op=true)(h:dK P op bz X=some (y,af)):af=X/\∀X1:ah,(∀k,VA bz=some k->X1.aS.get k=X.aS.get k)->dK P op bz X1=some (y,X1):=by
 unfold dK at h;split at h
 case h_8=>
  obtain⟨h',eH⟩:=gz h;refine⟨eH.symm,λX1 ai=>?_⟩;simp only[dK,lW,ai _ rfl,ds] at h'⊢;rw[h']
 case h_13=>
  rename_i s d _ x;have aj:Fi P s d=true:=aA;split at h
  ·rename_i ae;cases h;exact⟨rfl,λX1 _=>by simp only[dK,ae]⟩
  ·rename_i ae
   have:af=X/\∀X1:ah,(∀k,VA [x]=some k->X1.aS.get k=X.aS.get k)->jG P s d x X1=some (y,X1):=by
    unfold Fi at aj;split at aj<;>try(cases aj;done)
    rename_i e h1 h2;unfold jG at h;simp only[h1,h2] at h;split at h
    ·rename_i he _;cases he
    ·rename_i _ he;cases he
    ·rename_i a c he _;cases he;cases aQ:hA P e with
     |false=>simp[aQ] at h
     |true=>
      simp only[aQ,cond_true,Option.some.injEq,Prod.mk.injEq] at h;obtain⟨rfl,rfl⟩:=h;exact⟨rfl,λX1 _=>by simp only[jG,h1,h2,aQ,cond_true]⟩
    ·rename_i a he _;cases he;cases aQ:hA P e with
     |false=>simp[aQ] at h
     |true=>
      simp only[aQ,cond_true,Option.some.injEq,Prod.mk.injEq] at h;obtain⟨rfl,rfl⟩:=h;exact⟨rfl,λX1 _=>by simp only[jG,h1,h2,aQ,cond_true]⟩
    ·rename_i k off n cap lo he _;cases he;cases aQ:hA P e with
     |false=>simp[aQ] at h
     |true=>
      simp only[aQ,cond_true] at h;split at h<;>try(cases h;done)
      rename_i o aq;split at h<;>try(cases h;done)
      rename_i ys fk;split at h<;>try(cases h;done)
      rename_i lh s9;cases h;exact⟨rfl,λX1 ai=>by simp only[jG,h1,h2,aQ,cond_true,ai k rfl,aq,fk,s9]⟩
    ·cases h
   exact⟨this.1,λX1 ai=>by simp only[dK,ae];exact this.2 X1 ai⟩
 all_goals first
  |(simp[e5] at aA;done)
  |(cases h;done)
  |(obtain⟨h',eH⟩:=gz h
    refine⟨eH.symm,λX1 ai=>?_⟩
    simp only[dK,ds,ao6 (λk e=>ai k (by rw[e];rfl)) h'])
theorem afy{callf:bH}{o:Oper}{F:av J}{X:ah}(h:e5 P o.op=true):ka P callf o F X=match looks X.aH F o.op.operands.toList with
 |none=>none
 |some bz=>dK P o.op bz X:=by
 unfold ka;cases looks X.aH F o.op.operands.toList with
 |none=>rfl
 |some bz=>
  simp only[];split
  ·rename_i ae;simp[ae,e5] at h
  ·rfl
theorem wH{callf:bH}{ops:List Oper}{o:Oper}{F:av J}{X af:ah}{y:J}(aA:e5 P o.op=true)(aq:X.cG=[])(h:jL P callf ops o F X=some (y,af)):
 af=X/\∀X1,X1.aH=X.aH->(∀k,addrOf ops o F X=some k->X1.aS.get k=X.aS.get k)->jL P callf ops o F X1=some (y,X1):=by
 unfold jL at h⊢;unfold addrOf;split at h
 ·rename_i cU hw;obtain⟨rfl,ux⟩:=BD aq hw;rw[afy aA] at h;split at h<;>try(cases h;done)
  rename_i bz aJ;obtain⟨e,k7⟩:=ayl aA h;refine⟨e,λX1 lR ai=>?_⟩;rw[ux X1];simp only[];rw[afy aA,lR,aJ];simp only[hw,aJ] at ai;refine k7 X1 λk cN=>ai k ?_
  unfold VA at cN;split at cN<;>first|exact cN|cases cN
 ·rename_i cU hw;obtain⟨rfl,ux⟩:=BD aq hw;cases h;exact⟨rfl,λX1 _ _=>by rw[ux X1]⟩
 ·cases h
theorem xf{ops:Array Oper}{o:Oper}{F F':av J}{X:ah}(h:∀t∈o.looksAt ops,F.get t=F'.get t):addrOf ops.toList o F X=addrOf ops.toList o F' X:=by
 obtain⟨hw,aJ⟩:=Qv (X:=X) h;unfold addrOf;rw[hw];simp only[aJ]
theorem vl{ops:List Oper}{o:Oper}{F:av J}{X X1:ah}(aq:X.cG=[])(iV:X1.cG=[])(lR:X1.aH=X.aH):addrOf ops o F X1=addrOf ops o F X:=by
 unfold addrOf;cases hw:hb ops F X o.guard with
 |none=>
  cases tf:hb ops F X1 o.guard with
  |none=>rfl
  |some r=>obtain⟨b,cU⟩:=r;have:=(BD iV tf).2 X;rw[hw] at this;cases this
 |some r=>
  obtain⟨b,cU⟩:=r;obtain⟨rfl,ux⟩:=BD aq hw;rw[ux X1];cases b with
  |false=>rfl
  |true=>simp only[lR]
structure ji where
 pre:Nat->ah
 post:Nat->ah
 obj:Nat->Option Nat
def zE(P:Program)(callf:bH)(N:Nat)(ops:Array Oper)(S:ji)(i:Nat)(F:av J)(X:ah)(F':av J)(af:ah):Prop:=
 ∃o,ops[i]?=some o/\j4 P callf N ops.toList o F X=some (F',af)/\(nY P o.op=true->X=S.pre i/\af=S.post i)/\(e5 P o.op=true->addrOf ops.toList o F X=S.obj i)
theorem af0{X af:ah}(ai:c7 X af){k:Nat}(h:nm X af k=true):af.aS.get k=X.aS.get k:=by
 unfold nm at h;cases ag:Nat.blt k X.next with
 |false=>rw[ag] at h;cases h
 |true=>
  rw[ag] at h;have a8:k<X.next:=by rw[Nat.blt_eq] at ag;exact ag
  simp only[cond_true,Fo] at h;cases h1:X.aS.get k with
  |none=>simp[h1] at h
  |some o=>
   cases h2:af.aS.get k with
   |none=>simp[h1,h2] at h
   |some o'=>
    simp only[h1,h2] at h;rw[(ai.ck k o o' a8 h1 h2).2 (Nat.eq_of_beq_eq_true h).symm]
theorem aAc{s d:TypeId}(h:E6 P s d=false):Fi P s d=false:=by
 unfold E6 at h;unfold Fi;cases aj:P.underlying s with
 |none=>rfl
 |some t=>cases t<;>first|rfl|(simp[aj] at h)
theorem I5{op:Op}(h:mb P op=true):nY P op=false/\e5 P op=false:=by
 have aI:e5 P op=false:=by
  cases op<;>first
   |rfl
   |(simp[mb] at h;done)
   |(simp only[mb,Bool.not_eq_true'] at h;exact aAc h)
 exact⟨by simp[nY,h],aI⟩
theorem Kq{op:Op}(h:e5 P op=true):nY P op=false:=by simp[nY,h]
theorem ao4{callf:bH}{ops:Array Oper}{dQ cb:Oper}{F:av J}{X jE iL:ah}{je jM:J}(aJ:ac5 dQ.op cb.op=true)(aq:X.cG=[])
 (hi:jL P callf ops.toList dQ F X=some (je,jE))(aa:jL P callf ops.toList cb F jE=some (jM,iL)):
 e5 P dQ.op=true/\nY P cb.op=true/\jL P callf ops.toList dQ F iL=some (je,iL):=by cases aJ
theorem az6{callf:bH}(ae:fA callf){N:Nat}{ops:Array Oper}{S:ji}{bO:List (Nat×List Nat)}{i j:Nat}{dQ cb:Oper}{F jP w0:av J}{X jE iL:ah}(nV:ops[i]?=some dQ)(eM:ops[j]?=some cb)
 (nN:dQ.apart ops cb=true)(Df:Cn P bO i j dQ.op cb.op=true)(rO:nY P cb.op=true->mE (hY bO j) i=true->∀k,S.obj i=some k->nm (S.pre j) (S.post j) k=true)
 (aq:X.cG=[])(h1:zE P callf N ops S i F X jP jE)(h2:zE P callf N ops S j jP jE w0 iL):
 ∃re ph tO,zE P callf N ops S j F X re ph/\ph.cG=[]/\zE P callf N ops S i re ph tO iL/\ht w0 tO:=by
 obtain⟨apZ,Dx,h1,bR,c5⟩:=h1;obtain⟨ap0,Dy,h2,b2,dM⟩:=h2;rw[nV] at Dx;cases Dx;rw[eM] at Dy;cases Dy;obtain⟨an,aD,a7⟩:=Oper.apart_spec nN;obtain⟨je,j0,rfl⟩:=lk.1 h1;obtain⟨jM,PV,rfl⟩:=lk.1 h2;have D0:∀t∈cb.looksAt ops,F.get t=(put N F dQ.dst je).get t:=λt aK=>(pO t λe=>an t e aK).symm
 have li:∀t∈dQ.looksAt ops,F.get t=(put N F cb.dst jM).get t:=λt aK=>(pO t λe=>a7 t e aK).symm
 have aa:jL P callf ops.toList cb F jE=some (jM,iL):=by rw[<- PV];exact KG D0
 have cA:∀X1 cU,jL P callf ops.toList dQ F X1=some (je,cU)->jL P callf ops.toList dQ (put N F cb.dst jM) X1=some (je,cU):=λX1 cU h=>by
  rw[<- h];exact(KG li).symm
 have oQ:∀X1,addrOf ops.toList cb F X1=addrOf ops.toList cb (put N F dQ.dst je) X1:=λX1=>xf D0
 have pQ:∀X1,addrOf ops.toList dQ F X1=addrOf ops.toList dQ (put N F cb.dst jM) X1:=λX1=>xf li
 have cS:=put_comm (N:=N) (F:=F) (y:=je) (z:=jM) aD;have IG:=uM ae j0;have rS:=uM ae aa;have A6:=IG.cG aq;have ts:=rS.cG A6;simp only[Cn,Bool.or_eq_true,Bool.and_eq_true] at Df;rcases Df with(((aA|aA)|⟨qw,DA⟩)|⟨⟨qw,jU⟩,aO⟩)|aJ
 ·obtain⟨rfl,k7⟩:=KH aA aq j0;obtain⟨n2,uD⟩:=I5 aA
  exact⟨_,iL,_,⟨cb,eM,lk.2 ⟨jM,aa,rfl⟩,b2,λh=>by rw[oQ];exact dM h⟩,ts,
   ⟨dQ,nV,lk.2 ⟨je,cA _ _ (k7 iL rS.aH),rfl⟩,λh=>(by rw[n2] at h;cases h),λh=>(by rw[uD] at h;cases h)⟩,cS⟩
 ·obtain⟨rfl,k7⟩:=KH aA A6 aa;obtain⟨n2,uD⟩:=I5 aA
  exact⟨_,X,_,⟨cb,eM,lk.2 ⟨jM,k7 X IG.aH.symm,rfl⟩,λh=>(by rw[n2] at h;cases h),λh=>(by rw[uD] at h;cases h)⟩,aq,
   ⟨dQ,nV,lk.2 ⟨je,cA _ _ j0,rfl⟩,bR,λh=>by rw[<- pQ];exact c5 h⟩,cS⟩
 ·obtain⟨az,_⟩:=wH qw aq j0;subst az;obtain⟨aw,_⟩:=wH DA aq aa;subst aw
  exact⟨_,_,_,⟨cb,eM,lk.2 ⟨jM,aa,rfl⟩,b2,λh=>by rw[oQ];exact dM h⟩,aq,
   ⟨dQ,nV,lk.2 ⟨je,cA _ _ j0,rfl⟩,bR,λh=>by rw[<- pQ];exact c5 h⟩,cS⟩
 ·obtain⟨az,k7⟩:=wH qw aq j0;subst az;have n2:=Kq qw;obtain⟨bQ,cn⟩:=b2 jU
  refine⟨_,iL,_,⟨cb,eM,lk.2 ⟨jM,aa,rfl⟩,b2,λh=>by rw[oQ];exact dM h⟩,ts,
   ⟨dQ,nV,lk.2 ⟨je,cA _ _ (k7 iL rS.aH λk ai=>?_),rfl⟩,λh=>(by rw[n2] at h;cases h),λh=>by rw[<- pQ,vl aq ts rS.aH];exact c5 h⟩,cS⟩
  have:=rO jU aO k (by rw[<- c5 qw];exact ai)
  rw[<- bQ, <- cn] at this;exact af0 rS this
 ·obtain⟨qw,jU,PC⟩:=ao4 aJ aq j0 aa;obtain⟨az,_⟩:=wH qw aq j0;subst az;have n2:=Kq qw
  exact⟨_,iL,_,⟨cb,eM,lk.2 ⟨jM,aa,rfl⟩,b2,λh=>by rw[oQ];exact dM h⟩,ts,
   ⟨dQ,nV,lk.2 ⟨je,cA _ _ PC,rfl⟩,λh=>(by rw[n2] at h;cases h),λh=>by rw[<- pQ,vl aq ts rS.aH];exact c5 h⟩,cS⟩
end
section
variable{P:Program}{B:Nat}{aV w:World}{E:Env}{bg:List Deferred}
def rk(P:Program)(callf:bH)(N:Nat)(ops:Array Oper)(S:ji)(G:av J->ah->Prop):Nat->Array Bool->av J->ah->Prop
 |0,listed,F,X=>Region.ready .any ops listed=[]/\G F X
 |n+1,listed,F,X=>(Region.ready .any ops listed=[]->G F X)/\
  ∀i∈Region.ready .any ops listed,∃F' af,zE P callf N ops S i F X F' af/\rk P callf N ops S G n (listed.setIfInBounds i true) F' af
theorem Xl{callf:bH}{N:Nat}{ops:Array Oper}{S:ji}{G:av J->ah->Prop}(iS:∀F F' X,ht F F'->G F X->G F' X):
 ∀(n:Nat) (listed:Array Bool) (F F':av J) (X:ah),ht F F'->rk P callf N ops S G n listed F X->rk P callf N ops S G n listed F' X
 |0,_,_,_,_,he,h=>⟨h.1,iS _ _ _ he h.2⟩
 |n+1,listed,F,F',X,he,h=>⟨λaI=>iS _ _ _ he (h.1 aI),λi hi=>by
   obtain⟨aL,X1,⟨o,aq,h1,ag,aI⟩,h2⟩:=h.2 i hi;obtain⟨tP,h3,aU⟩:=azZ he h1
   exact⟨tP,X1,⟨o,aq,h3,ag,λh=>by rw[<- xf (λt _=>he t)];exact aI h⟩,Xl iS n _ _ _ _ aU h2⟩⟩
theorem Xo{callf:bH}{N:Nat}{ops:Array Oper}{S e4:ji}{G:av J->ah->Prop}:
 ∀(n:Nat) (listed:Array Bool) (F:av J) (X:ah),(∀i,listed.getD i true=false->e4.pre i=S.pre i/\e4.post i=S.post i/\e4.obj i=S.obj i)->rk P callf N ops S G n listed F X->rk P callf N ops e4 G n listed F X
 |0,_,_,_,_,h=>h
 |n+1,listed,F,X,aj,h=>⟨h.1,λi hi=>by
   obtain⟨aL,X1,⟨o,aq,h1,ag,aI⟩,h2⟩:=h.2 i hi;obtain⟨az,aw,ch⟩:=aj i (mem_ready.1 hi).1;refine⟨aL,X1,⟨o,aq,h1,λh=>by rw[az,aw];exact ag h,λh=>by rw[ch];exact aI h⟩,Xo n _ _ _ (λj aa=>aj j ?_) h2⟩;by_cases e:i=j
   ·subst e;exact(mem_ready.1 hi).1
   ·rw[getD_set_ne true e] at aa;exact aa⟩
structure Inv (ops:Array Oper) (i:Nat) (kG:Array Bool) (r:List Bool) (listed:Array Bool):Prop where
 k9:∀k,listed.getD k false=true->r.getD k false=true
 more:∀k,kG.getD k true=true->listed.getD k true=true
theorem agq{bO:List (Nat×List Nat)}{ops:Array Oper}{kG:Array Bool}{i:Nat}{dQ:Oper}{r:List Bool}(hi:ops[i]?=some dQ)(h:KE P bO ops kG i r=true){j:Nat}{cb:Oper}(aa:ops[j]?=some cb)(bY:j≠i):
 (r.getD j false=true/\(kG.getD j true=true\/(dQ.apart ops cb=true/\Cn P bO i j dQ.op cb.op=true)))\/
 (r.getD j false=false/\kG.getD j true=false/\∃e∈cb.after,Region.binds .any e=true/\r.getD e.on false=false):=by
 unfold KE at h;simp only[hi,List.all_eq_true,List.mem_range] at h;have a8:=(Array.getElem?_eq_some_iff.1 aa).1
 have:=h j a8
 simp only[aa] at this;have ag:(j==i)=false:=by simpa using bY
 simp only[ag,Bool.false_or] at this;cases aI:r.getD j false with
 |true=>
  simp only[aI,cond_true,Bool.or_eq_true,Bool.and_eq_true] at this;exact .inl ⟨rfl,this⟩
 |false=>
  simp only[aI,cond_false,Bool.and_eq_true,Bool.not_eq_true',Array.any_eq_true'] at this;obtain⟨h1,e,he,h2,h3⟩:=this;exact .inr ⟨rfl,h1,e,he,h2,h3⟩
theorem aiC{callf:bH}(ae:fA callf){N:Nat}{ops:Array Oper}{S:ji}{G:av J->ah->Prop}(iS:∀F F' X,ht F F'->G F X->G F' X){i:Nat}{dQ:Oper}(hi:ops[i]?=some dQ)
 {kG:Array Bool}{r:List Bool}{bO:List (Nat×List Nat)}(dg:KE P bO ops kG i r=true)
 (rO:∀j cb,ops[j]?=some cb->kG.getD j true=false->j≠i->nY P cb.op=true->mE (hY bO j) i=true->∀k,S.obj i=some k->nm (S.pre j) (S.post j) k=true):
 ∀(n:Nat) (listed:Array Bool) (F jP:av J) (X jE:ah),Inv ops i kG r listed->i∈Region.ready .any ops listed->X.cG=[]->zE P callf N ops S i F X jP jE->
  rk P callf N ops S G n (listed.setIfInBounds i true) jP jE->rk P callf N ops S G (n+1) listed F X:=by
 intro n
 induction n with
 |zero=>
  intro listed F jP X jE _ aI _ aj H;refine⟨λh=>(by rw[h] at aI;cases aI),λj aa=>?_⟩;by_cases k8:j=i
  ·subst k8;exact⟨jP,jE,aj,H⟩
  ·have:=ready_mono aa k8
   rw[H.1] at this;cases this
 |succ n ba=>
  intro listed F jP X jE inv aI aq aj H;refine⟨λh=>(by rw[h] at aI;cases aI),λj aa=>?_⟩;by_cases k8:j=i
  ·subst k8;exact⟨jP,jE,aj,H⟩
  ·obtain⟨w0,iL,h1,h2⟩:=H.2 j (ready_mono aa k8);obtain⟨Aq,cb,eM,gq⟩:=mem_ready.1 aa
   have kC:kG.getD j true=false:=by
    cases h:kG.getD j true with
    |false=>rfl
    |true=>have:=inv.more j h;rw[Aq] at this;cases this
   have O6:=agq hi dg eM k8
   have xQ:r.getD j false=true/\dQ.apart ops cb=true/\Cn P bO i j dQ.op cb.op=true:=by
    rcases O6 with⟨h3,aU⟩|⟨_,_,e,he,ag,aO⟩
    ·rcases aU with aU|aU
     ·rw[kC] at aU;cases aU
     ·exact⟨h3,aU⟩
    ·have:=inv.k9 _ (gq e he ag);rw[aO] at this;cases this
   obtain⟨re,ph,tO,k1,k2,gN,oL⟩:=az6 ae hi eM xQ.2.1 xQ.2.2 (rO j cb eM kC k8) aq aj h1;refine⟨re,ph,k1,?_⟩;refine ba (listed.setIfInBounds j true) re tO ph iL ⟨λk ai=>?_,λk ai=>?_⟩ (ready_mono aI (Ne.symm k8)) k2 gN ?_
   ·by_cases e:j=k
    ·subst e;exact xQ.1
    ·rw[getD_set_ne false e] at ai;exact inv.k9 k ai
   ·by_cases e:j=k
    ·subst e;have:=inv.more j ai;rw[Aq] at this;cases this
    ·rw[getD_set_ne true e];exact inv.more k ai
   ·rw[Array.setIfInBounds_comm _ _ k8];exact Xl iS n _ _ _ _ oL h2
theorem getD_set_true{l:Array Bool}{k j:Nat}(h:(l.setIfInBounds k true).getD j true=false):l.getD j true=false/\j≠k:=by
 by_cases e:k=j
 ·subst e
  exfalso
  rcases Nat.lt_or_ge k l.size with h'|h'
  ·simp[h'] at h
  ·simp at h
 ·rw[getD_set_ne true e] at h;exact⟨h,λbh=>e bh.symm⟩
theorem IM{bO:List (Nat×List Nat)}{ops:Array Oper}:∀(bJ:List Nat) (listed:Array Bool),yE P bO ops bJ listed=true->(∀j∈bJ,listed.getD j true=false)/\∀j,listed.getD j true=false->j∈bJ
 | [],listed,h=>by
   refine⟨λj aa=>(by cases aa),λj aa=>?_⟩;simp only[yE,Array.all_eq_true_iff_forall_mem] at h;rcases Nat.lt_or_ge j listed.size with h'|h'
   ·have:=h listed[j] (Array.getElem_mem h')
    simp only[id] at this;simp[h',this] at aa
   ·simp[Array.getElem?_eq_none h'] at aa
 |k::bJ,listed,h=>by
  simp only[yE,Bool.and_eq_true] at h;obtain⟨⟨⟨aI,mJ⟩,dk⟩,kD⟩:=h;have lS:k∈Region.ready .any ops listed:=by simpa using aI
  have ai:=(mem_ready.1 lS).1;obtain⟨i1,i2⟩:=IM bJ _ kD;refine⟨λj aa=>?_,λj aa=>?_⟩
  ·rcases List.mem_cons.1 aa with rfl|aa
   ·exact ai
   ·exact(getD_set_true (i1 j aa)).1
  ·by_cases e:j=k
   ·subst e;exact List.mem_cons_self ..
   ·refine List.mem_cons_of_mem _ (i2 j ?_);rw[getD_set_ne true (λbh=>e bh.symm)];exact aa
theorem MO{bL:List (Nat×Option Nat)}{X af:ah}:∀{ls:List Nat},j9 bL X af ls=true->∀l,mE ls l=true->∀k,l5 bL l=some k->nm X af k=true
 | [],_,l,aJ,_,_=>by simp[mE] at aJ
 |dw::ls,h,l,aJ,k,ai=>by
  simp only[j9,Bool.and_eq_true] at h;simp only[mE,Bool.or_eq_true] at aJ;rcases aJ with aJ|aJ
  ·have e:=Nat.eq_of_beq_eq_true aJ;subst e
   have:=h.1
   rw[ai] at this;exact this
  ·exact MO h.2 l aJ k ai
def ji.set(S:ji)(k:Nat)(X af:ah)(a:Option Nat):ji:=
 {pre:=λj=>if j=k then X else S.pre j,post:=λj=>if j=k then af else S.post j,obj:=λj=>if j=k then a else S.obj j}
theorem Xm{callf:bH}(ae:fA callf){N:Nat}{ops:Array Oper}{bO:List (Nat×List Nat)}{F':av J}{af:ah}:∀(bJ:List Nat) (bL:List (Nat×Option Nat)) (listed:Array Bool) (F:av J) (X:ah),listed.size=ops.size->X.cG=[]->
 yE P bO ops bJ listed=true->iv P callf N ops.toList bO bJ bL F X=some (F',af)->∃S:ji,rk P callf N ops S (λaL X1=>ht F' aL/\X1=af) bJ.length listed F X/\
  ∀i,i ∉ bJ->∀k,l5 bL i=some k->∀j cb,j∈bJ->ops[j]?=some cb->nY P cb.op=true->mE (hY bO j) i=true->nm (S.pre j) (S.post j) k=true
 | [],bL,listed,F,X,_,_,aJ,h=>by
   simp only[iv,Option.some.injEq,Prod.mk.injEq] at h;obtain⟨rfl,rfl⟩:=h;refine⟨⟨λ_=>X,λ_=>X,λ_=>none⟩,⟨?_,ht.refl _,rfl⟩,λi _ k _ j cb aa=>by cases aa⟩
   have:=(IM [] listed aJ).2
   cases aI:Region.ready .any ops listed with
   |nil=>rfl
   |cons a eU=>
    have bX:a∈Region.ready .any ops listed:=by rw[aI];exact List.mem_cons_self ..
    have:=this a (mem_ready.1 bX).1
    cases this
 |k::bJ,bL,listed,F,X,dV,aq,aJ,h=>by
  obtain⟨DI,O8⟩:=IM (k::bJ) listed aJ;simp only[iv] at h;split at h<;>try(cases h;done)
  rename_i o dg;split at h<;>try(cases h;done)
  rename_i aL X1 aj;cases jV:j9 bL X X1 (hY bO k) with
  |false=>rw[jV] at h;cases h
  |true=>
   rw[jV] at h;simp only[cond_true] at h;simp only[yE,Bool.and_eq_true] at aJ;obtain⟨⟨⟨aI,mJ⟩,dk⟩,kD⟩:=aJ;have ai:ops[k]?=some o:=by simpa using dg
   have lS:k∈Region.ready .any ops listed:=by simpa using aI
   have iV:X1.cG=[]:=(VT ae aj).cG aq;obtain⟨tS,py,DB⟩:=Xm ae bJ _ _ aL X1 (by simpa using dV) iV kD h;obtain⟨PL,aDp⟩:=IM bJ _ kD;have Dm:k ∉ bJ:=λuo=>(getD_set_true (PL k uo)).2 rfl
   have bY:∀j,j∈bJ->j≠k:=λj aa e=>Dm (e▸aa)
   let S:ji:=tS.set k X X1 (bif e5 P o.op then addrOf ops.toList o F X else none)
   have eu:∀j,j≠k->S.pre j=tS.pre j/\S.post j=tS.post j/\S.obj j=tS.obj j:=λj aa=>⟨if_neg aa,if_neg aa,if_neg aa⟩
   have px:S.pre k=X/\S.post k=X1/\S.obj k=(bif e5 P o.op then addrOf ops.toList o F X else none):=⟨if_pos rfl,if_pos rfl,if_pos rfl⟩;refine⟨S,?_,?_⟩
   ·have O2:rk P callf N ops S (λaL X1=>ht F' aL/\X1=af) bJ.length (listed.setIfInBounds k true) aL X1:=Xo bJ.length _ _ _ (λj aa=>eu j (getD_set_true aa).2) py;refine aiC ae (λF aL X he bd=>⟨bd.1.trans he,bd.2⟩) ai dk ?_ bJ.length listed F aL X X1 ⟨λj aa=>?_,λj aa=>aa⟩ lS aq ⟨o,ai,aj,λ_=>⟨px.1.symm,px.2.1.symm⟩,λpD=>by rw[px.2.2,pD];rfl⟩ O2
    ·intro j cb eM kC hU ag aO b1 cN;rw[px.2.2] at cN
     have Pq:j∈bJ:=by
      rcases List.mem_cons.1 (O8 j kC) with e|e
      ·exact absurd e hU
      ·exact e
     obtain⟨az,aw,_⟩:=eu j hU;rw[az,aw];cases pD:e5 P o.op with
     |true=>
      rw[pD] at cN;simp only[cond_true] at cN;refine DB k Dm b1 ?_ j cb Pq eM ag aO;simp only[pD,cond_true,l5];rw[cN]
      have:Nat.beq k k=true:=by simp
      rw[this];rfl
     |false=>rw[pD] at cN;cases cN
    ·by_cases hU:j=k
     ·subst hU;have DJ:=DI j (List.mem_cons_self ..);rcases Nat.lt_or_ge j listed.size with h'|h'
      ·simp[h'] at DJ aa;rw[DJ] at aa;cases aa
      ·simp[Array.getElem?_eq_none h'] at aa
     ·cases eM:ops[j]? with
      |none=>
       exfalso
       rcases Nat.lt_or_ge j listed.size with h'|h'
       ·rw[dV] at h';rw[Array.getElem?_eq_none_iff] at eM;omega
       ·simp[Array.getElem?_eq_none h'] at aa
      |some cb=>
       rcases agq ai dk eM hU with⟨h1,_⟩|⟨_,h1,_⟩
       ·exact h1
       ·rcases Nat.lt_or_ge j listed.size with h'|h'
        ·simp[h'] at h1 aa;rw[h1] at aa;cases aa
        ·simp[Array.getElem?_eq_none h'] at aa
   ·intro i hi b1 cN j cb aa eM ag aO;have Pn:i≠k:=λe=>hi (by rw[e];exact List.mem_cons_self ..)
    rcases List.mem_cons.1 aa with rfl|aa
    ·rw[px.1,px.2.1];exact MO jV i aO b1 cN
    ·obtain⟨az,aw,_⟩:=eu j (bY j aa);rw[az,aw];refine DB i (λh=>hi (List.mem_cons_of_mem _ h)) b1 ?_ j cb aa eM ag aO;cases e5 P o.op with
     |true=>
      simp only[cond_true,l5]
      have:Nat.beq k i=false:=by
       cases h:Nat.beq k i with
       |false=>rfl
       |true=>exact absurd (Nat.eq_of_beq_eq_true h).symm Pn
      rw[this];exact cN
     |false=>exact cN
theorem Xn{callf:bH}(cD:jz P callf){N:Nat}{ops:Array Oper}{S:ji}{G:av J->ah->Prop}(iS:∀F X,G F X->cC X):∀(n:Nat) (listed:Array Bool) (F:av J) (X:ah),rk P callf N ops S G n listed F X->cC X
 |0,_,_,_,h=>iS _ _ h.2
 |n+1,listed,F,X,h=>by
  cases aI:Region.ready .any ops listed with
  |nil=>exact iS _ _ (h.1 aI)
  |cons i is=>
   obtain⟨aL,X1,⟨o,_,h1,_⟩,h2⟩:=h.2 i (by rw[aI];exact List.mem_cons_self ..);exact VY cD h1 (Xn cD iS n _ _ _ h2)
theorem ag3{callf:bH}(cD:jz P callf){N:Nat}{ops:Array Oper}{S:ji}(jY:∀o∈ops,pK o.op=true){G:av J->ah->Prop}(iS:∀F X,G F X->cC X)(ro:Option Nat)
 {Q:Exit->Act->World->Prop}:∀(n:Nat) (listed:Array Bool) (F:av J) (X:ah) (E:Env) (a:Act) (w:World),rk P callf N ops S G n listed F X->bK P B aV X E w->e3 bg N E F a->
   (∀aL X1 aP a' w',G aL X1->cJ E aP->e3 bg N aP aL a'->bK P B aV X1 aP w'->Q .normal a' w')->wpAnyIn (fx ro) 0 P .any ops Q n listed a w
 |0,_,F,X,E,a,w,h,ay,aR,cx=>⟨h.1,cx F X E a w h.2 (cJ.refl _) aR ay⟩
 |n+1,listed,F,X,E,a,w,h,ay,aR,cx=>by
  refine⟨λaI=>cx F X E a w (h.1 aI) (cJ.refl _) aR ay,λi hi=>?_⟩;obtain⟨aL,X1,⟨o,aq,h1,_⟩,h2⟩:=h.2 i hi;unfold wpOpIn;simp only[aq]
  exact agw cD ay aR (jY o (Array.mem_of_getElem? aq)) h1 (Xn cD iS n _ _ _ h2) ro (λaP a' w' an aD a7=>
   ag3 cD jY iS ro n _ aL X1 aP a' w' h2 a7 aD (λbF cU nt tV uO bR b2=>cx bF cU nt tV uO bR (an.trans b2)))
theorem MW{callf:bH}(ae:fA callf){N:Nat}{ops:List Oper}{bO:List (Nat×List Nat)}:∀{bJ:List Nat} {bL:List (Nat×Option Nat)} {F F':av J} {X af:ah},iv P callf N ops bO bJ bL F X=some (F',af)->c7 X af
 | [],_,_,_,_,_,h=>by simp only[iv,Option.some.injEq,Prod.mk.injEq] at h;obtain⟨rfl,rfl⟩:=h;exact c7.refl _
 |k::bJ,bL,F,F',X,af,h=>by
  simp only[iv] at h;split at h<;>try(cases h;done)
  split at h<;>try(cases h;done)
  rename_i aL X1 aj;generalize j9 bL X X1 (hY bO k)=b at h;cases b with
  |false=>cases h
  |true=>exact(VT ae aj).trans (MW ae h)
theorem Yu{callf:bH}(cD:jz P callf){N:Nat}{ops:List Oper}{bO:List (Nat×List Nat)}:∀{bJ:List Nat} {bL:List (Nat×Option Nat)} {F F':av J} {X af:ah},iv P callf N ops bO bJ bL F X=some (F',af)->cC af->cC X
 | [],_,_,_,_,_,h,aA=>by simp only[iv,Option.some.injEq,Prod.mk.injEq] at h;obtain⟨rfl,rfl⟩:=h;exact aA
 |k::bJ,bL,F,F',X,af,h,aA=>by
  simp only[iv] at h;split at h<;>try(cases h;done)
  split at h<;>try(cases h;done)
  rename_i aL X1 aj;generalize j9 bL X X1 (hY bO k)=b at h;cases b with
  |false=>cases h
  |true=>exact VY cD aj (Yu cD h aA)
end
def ah.add(X:ah)(m:Nat)(ob:bD):ah:={X with aS:=X.aS.put m ob}
structure cT (X:ah) (m:Nat):Prop where
 dead:X.aS.get m=none
 lt:m<X.next
theorem cT.keeps{X af:ah}{m:Nat}(h:cT X m)(k:c7 X af):cT af m:=⟨k.dead m h.lt h.dead,Nat.lt_of_lt_of_le h.lt k.next⟩
section
variable{P:Program}{X af:ah}{m:Nat}{ob:bD}
theorem add_get(h:cT X m){k:Nat}{o:bD}(ai:X.aS.get k=some o):(X.add m ob).aS.get k=some o/\k≠m:=by
 have bY:k≠m:=λe=>by rw[e,h.dead] at ai;cases ai
 refine⟨?_,bY⟩;show(X.aS.put m ob).get k=some o;rw[cz.kA,if_neg bY];exact ai
theorem zI(h:cT X m)(o:bD):((X.add m ob).new o)=((X.new o).1,((X.new o).2).add m ob):=by
 unfold ah.new ah.add;simp only[Prod.mk.injEq,true_and];rw[cz.put_comm _ _ _ (by have:=h.lt;omega)]
theorem Ms(h:cT X m)(ty:TypeId)(cells:List J):newRow (X.add m ob) ty cells=((newRow X ty cells).1,(newRow X ty cells).2.add m ob):=by
 unfold newRow;simp only[force_eq];exact zI h _
theorem aip(h:cT X m)(ty:TypeId)(n:Nat)(cells:List J):mM (X.add m ob) ty n cells=((mM X ty n cells).1,(mM X ty n cells).2.add m ob):=by
 unfold mM;simp only[force_eq];exact zI h _
theorem Xd(h:cT X m)(ty esz:Nat)(cells:List J):mL (X.add m ob) ty esz cells=((mL X ty esz cells).1,(mL X ty esz cells).2.add m ob):=by
 unfold mL;simp only[force_eq];exact zI h _
theorem zJ(h:cT X m){k:Nat}{o o':bD}(ai:X.aS.get k=some o):({X.add m ob with aS:=(X.add m ob).aS.put k o'}:ah)=({X with aS:=X.aS.put k o'}:ah).add m ob:=by
 obtain⟨_,bY⟩:=add_get (ob:=ob) h ai;unfold ah.add;simp only[ah.mk.injEq,true_and,and_true];exact cz.put_comm _ _ _ (λe=>bY e.symm)
theorem xj{y:J}{b:Bool}(h:fN X y=some (b,af)):fN (X.add m ob) y=some (b,af.add m ob):=by
 cases y with
 |bool c=>simp only[fN,Option.some.injEq,Prod.mk.injEq] at h⊢;obtain⟨rfl,rfl⟩:=h;exact⟨rfl,rfl⟩
 |val x=>
  cases x with
  |bool s=>
   simp only[fN,ah.ask] at h;split at h
   ·rename_i o os aq;cases h
    have:(X.add m ob).cG=_::os:=aq
    simp only[fN,ah.ask,this];rfl
   ·cases h
  |_=>simp[fN] at h
 |_=>simp[fN] at h
theorem K1{o:Option J}{y:J}(h:ds X o=some (y,af)):ds (X.add m ob) o=some (y,af.add m ob):=by
 obtain⟨rfl,rfl⟩:=gz h;rfl
theorem ac6(ak:cT X m){t:TypeId}{k off:Nat}{y:J}(h:lW P t X k off=some y):lW P t (X.add m ob) k off=some y:=by
 unfold lW at h⊢;cases ai:X.aS.get k with
 |none=>simp[ai] at h
 |some o=>rw[ai] at h;rw[(add_get ak ai).1];exact h
theorem YO(ak:cT X m){sz n:Nat}{x:J}{ys:List J}(h:kU X sz x=some (n,ys)):kU (X.add m ob) sz x=some (n,ys):=by
 unfold kU at h⊢;split at h
 ·split at h<;>try(cases h;done)
  rename_i o aq;simp only[(add_get ak aq).1];exact h
 ·exact h
 ·exact h
 ·exact h
 ·cases h
theorem az8(ak:cT X m){t:TypeId}{k off:Nat}{y:J}(h:n6 P t X k off y=some af):n6 P t (X.add m ob) k off y=some (af.add m ob):=by
 unfold n6 at h⊢;split at h<;>try(cases h;done)
 rename_i o n aq aO;simp only[(add_get ak aq).1,aO];generalize(Nat.beq _ _&&_&&_&&_)=b at h⊢;cases b<;>simp only[cond_true,cond_false,Option.some.injEq,reduceCtorEq] at h⊢
 subst h;exact zJ ak aq
theorem Xy(ak:cT X m){e sz b eh:Nat}{cells:List J}{y:J}(h:nz e sz b eh cells X=some (y,af)):nz e sz b eh cells (X.add m ob)=some (y,af.add m ob):=by
 unfold nz at h⊢;generalize(Nat.ble _ _&&_)=c at h⊢;cases c<;>simp only[cond_true,cond_false,Option.some.injEq,Prod.mk.injEq,reduceCtorEq] at h⊢
 obtain⟨rfl,rfl⟩:=h;rw[Xd ak];exact⟨rfl,rfl⟩
theorem Xv(ak:cT X m){k off len lo eh sz:Nat}{cap:Option Nat}{o:bD}{e0:List J}{y:J}(aq:X.aS.get k=some o)(h:pk k off len cap lo eh sz o e0 X=some (y,af)):
 pk k off len cap lo eh sz o e0 (X.add m ob)=some (y,af.add m ob):=by
 unfold pk at h⊢;generalize(Nat.ble _ _&&_)=c at h⊢;cases c<;>simp only[cond_true,cond_false,Option.some.injEq,Prod.mk.injEq,reduceCtorEq] at h⊢
 obtain⟨rfl,rfl⟩:=h;exact⟨rfl,zJ ak aq⟩
theorem aiF(ak:cT X m){k len eh sz b:Nat}{o:bD}{e0:List J}{y:J}(aq:X.aS.get k=some o)(h:rm k len eh sz b o e0 X=some (y,af)):
 rm k len eh sz b o e0 (X.add m ob)=some (y,af.add m ob):=by
 unfold rm at h⊢;generalize(Nat.ble _ _&&(_&&_))=c at h⊢;cases c<;>simp only[cond_true,cond_false,force_eq,Option.some.injEq,Prod.mk.injEq,reduceCtorEq] at h⊢
 obtain⟨rfl,rfl⟩:=h;refine⟨rfl,?_⟩;obtain⟨_,bY⟩:=add_get (ob:=ob) ak aq;have a8:=ak.lt;unfold ah.add;simp only[ah.mk.injEq,true_and,and_true];rw[<- cz.akE _ _ bY,cz.put_comm _ _ _ (by omega)]
theorem XC(ak:cT X m){e sz b k off len lo n:Nat}{cap:Option Nat}{news:List J}{y:J}(h:lF e sz b k off len cap lo n news X=some (y,af)):lF e sz b k off len cap lo n news (X.add m ob)=some (y,af.add m ob):=by
 unfold lF at h⊢;split at h<;>try(cases h;done)
 rename_i o aq;simp only[(add_get ak aq).1];rw[force_eq] at h⊢;split at h
 ·try simp only[]
  generalize Nat.ble _ _=bR at h⊢;cases bR<;>simp only[cond_true,cond_false] at h⊢
  ·split at h<;>try(cases h;done)
   exact Xy ak h
  ·exact Xv ak aq h
 ·try simp only[]
  generalize(Nat.beq _ _&&(_&&(_&&(_&&(_&&_)))))=bR at h⊢;cases bR<;>simp only[cond_true,cond_false,reduceCtorEq] at h⊢
  generalize Nat.ble _ _=b2 at h⊢;cases b2<;>simp only[cond_true,cond_false] at h⊢
  ·exact aiF ak aq h
  ·exact Xv ak aq h
theorem aiU(ak:cT X m){t:TypeId}{s x y:J}(h:oT P t s x X=some (y,af)):oT P t s x (X.add m ob)=some (y,af.add m ob):=by
 unfold oT at h⊢;split at h<;>try(cases h;done)
 rename_i e aK;split at h<;>try(cases h;done)
 rename_i sz z b aj a1 ag;split at h<;>try(cases h;done)
 rename_i n e0 nb;simp only[YO ak nb];generalize(Nat.ble _ _&&(_&&(_&&_)))=c at h⊢;cases c<;>simp only[cond_true,cond_false,reduceCtorEq] at h⊢
 split at h
 ·rename_i a c
  try simp only[]
  generalize(Nat.beq a 0&&_)=bR at h⊢;cases bR<;>simp only[cond_true,cond_false,reduceCtorEq] at h⊢
  generalize Nat.beq _ 0=b2 at h⊢;cases b2<;>simp only[cond_true,cond_false] at h⊢
  ·exact Xy ak h
  ·cases h;rfl
 ·try simp only[]
  exact XC ak h
 ·generalize Nat.beq _ 0=bR at h⊢;cases bR<;>simp only[cond_true,cond_false,reduceCtorEq] at h⊢
  cases h;rfl
 ·cases h
theorem aiR(ak:cT X m){t:TypeId}{s x y:J}(h:pS P t s x X=some (y,af)):pS P t s x (X.add m ob)=some (y,af.add m ob):=by
 unfold pS at h⊢;split at h<;>try(cases h;done)
 rename_i hu
 try simp only[hu]
 split at h<;>try(cases h;done)
 rename_i h1 h2 h3
 try simp only[h1,h2,h3]
 split at h<;>try(cases h;done)
 rename_i ae
 try simp only[ae]
 generalize(Nat.beq _ _&&(_&&(_&&_)))=c at h⊢;cases c<;>simp only[cond_true,cond_false,reduceCtorEq] at h⊢
 split at h<;>try(cases h;done)
 exact XC ak h
theorem akm(ak:cT X m){t:TypeId}{s x y:J}(h:q0 P t s x X=some (y,af)):q0 P t s x (X.add m ob)=some (y,af.add m ob):=by
 unfold q0 at h⊢;split at h<;>try(cases h;done)
 rename_i e aK;split at h<;>try(cases h;done)
 rename_i sz aj;split at h<;>try(cases h;done)
 rename_i n e0 nb;simp only[YO ak nb];generalize(Nat.beq _ _&&_)=c at h⊢;cases c<;>simp only[cond_true,cond_false,reduceCtorEq] at h⊢
 split at h
 ·try simp only[]
  generalize Nat.beq _ _=bR at h⊢;cases bR<;>simp only[cond_true,cond_false,reduceCtorEq] at h⊢
  cases h;rfl
 ·try simp only[]
  split at h<;>try(cases h;done)
  rename_i o aq;simp only[(add_get ak aq).1];rw[force_eq] at h⊢;generalize(Nat.ble _ _&&_)=bR at h⊢;cases bR<;>simp only[cond_true,cond_false,Option.some.injEq,Prod.mk.injEq,reduceCtorEq] at h⊢
  obtain⟨rfl,rfl⟩:=h;exact⟨rfl,zJ ak aq⟩
 ·cases h
theorem XS(ak:cT X m){b:Builtin}{cX:Array TypeId}{bz:List J}{y:J}(h:iq P b cX bz X=some (y,af)):iq P b cX bz (X.add m ob)=some (y,af.add m ob):=by
 unfold iq at h⊢;split at h
 ·split at h<;>try(cases h;done)
  rename_i aK;exact K1 h
 ·split at h<;>try(cases h;done)
  rename_i aK;exact K1 h
 ·exact K1 h
 ·exact K1 h
 ·split at h<;>try(cases h;done)
  rename_i aK hu;split at h<;>try(cases h;done)
  rename_i aF;generalize r3 _=bR at h⊢;cases bR<;>simp only[cond_true,cond_false,reduceCtorEq] at h⊢
  ·generalize u0 _=b2 at h⊢;cases b2<;>simp only[cond_true,cond_false,reduceCtorEq] at h⊢
   exact aiR ak h
  ·exact aiU ak h
 ·split at h<;>try(cases h;done)
  rename_i aK;exact akm ak h
 ·cases h
theorem akh(ak:cT X m){s d:TypeId}{x y:J}(h:jG P s d x X=some (y,af)):jG P s d x (X.add m ob)=some (y,af.add m ob):=by
 unfold jG at h⊢;split at h
 ·generalize(hA P _&&_)=b at h⊢;cases b<;>simp only[cond_true,cond_false,Option.some.injEq,Prod.mk.injEq,reduceCtorEq] at h⊢
  obtain⟨rfl,rfl⟩:=h;rw[Xd ak];exact⟨rfl,rfl⟩
 ·generalize(hA P _&&_)=b at h⊢;cases b<;>simp only[cond_true,cond_false,reduceCtorEq] at h⊢
  split at h<;>try(cases h;done)
  rename_i o aq;simp only[(add_get ak aq).1];cases aI:o.ro<;>simp only[aI,cond_true,cond_false,reduceCtorEq] at h⊢
  cases h;rfl
 ·generalize hA P _=b at h⊢;cases b<;>simp only[cond_true,cond_false,reduceCtorEq] at h⊢
  cases h;rfl
 ·generalize hA P _=b at h⊢;cases b<;>simp only[cond_true,cond_false,reduceCtorEq] at h⊢
  cases h;rfl
 ·generalize hA P _=b at h⊢;cases b<;>simp only[cond_true,cond_false,reduceCtorEq] at h⊢
  split at h<;>try(cases h;done)
  rename_i o aq;split at h<;>try(cases h;done)
  rename_i ys fk;split at h<;>try(cases h;done)
  rename_i lh s9;simp only[(add_get ak aq).1,fk,s9];cases h;rfl
 ·cases h
theorem ayb(ak:cT X m){t:TypeId}{x y:J}(h:za P t x X=some (y,af)):za P t x (X.add m ob)=some (y,af.add m ob):=by cases h
theorem apG(ak:cT X m){k:Nat}{y:J}(h:wD k X=some (y,af)):wD k (X.add m ob)=some (y,af.add m ob):=by cases h
def kP(callf:bH):Prop:=∀f args X y af m ob,callf f args X=some (y,af)->cT X m->callf f args (X.add m ob)=some (y,af.add m ob)
theorem apz(ak:cT X m):tp (X.add m ob)=((tp X).1,(tp X).2.add m ob):=zI ak _
theorem ao5(ak:cT X m){t:TypeId}{a k z:J}{ok:Bool}(h:y9 P t a k ok X=some z):y9 P t a k ok (X.add m ob)=some z:=by cases h
theorem aBA(ak:cT X m){t:TypeId}{a k v:J}(h:wE P t a k v X=some af):wE P t a k v (X.add m ob)=some (af.add m ob):=by cases h
theorem ak6(ak:cT X m){t:TypeId}{a k z:J}(h:y6 P t a k X=some (z,af)):y6 P t a k (X.add m ob)=some (z,af.add m ob):=by cases h
theorem ak4(ak:cT X m){a b v:J}(h:wC a b v X=some af):wC a b v (X.add m ob)=some (af.add m ob):=by cases h
theorem XZ(ak:cT X m){c:Call}{bz:List J}{r:wX×List J}(h:po P c bz X=some r):po P c bz (X.add m ob)=some r:=by
 unfold po at h⊢;split at h
 ·exact h
 ·split at h<;>try(cases h;done)
 ·cases h
theorem VM(ak:cT X m){op:Op}{bz:List J}{y:J}(h:dK P op bz X=some (y,af)):dK P op bz (X.add m ob)=some (y,af.add m ob):=by
 unfold dK at h;split at h
 case h_3=>
  unfold tE at h;split at h
  ·rename_i ag;cases h;simp only[dK,tE,xj (m:=m) (ob:=ob) ag]
  ·rename_i ag;cases h;simp only[dK,tE,xj (m:=m) (ob:=ob) ag]
  ·cases h
 case h_4=>
  unfold pR at h;split at h<;>cases h
  rename_i z a1;simp only[dK,pR,a1,Ms ak]
 case h_5=>
  unfold pT at h;rename_i x;cases ao:x.flat<;>simp only[ao,cond_false,cond_true] at h<;>cases h
  simp only[dK,pT,ao,cond_true,Ms ak]
 case h_7=>
  unfold oU at h;split at h<;>try(cases h;done)
  rename_i e hu;split at h<;>try(cases h;done)
  rename_i s z aj a1;generalize ae:(Nat.ble _ _&&Nat.ble 1 s&&_)=b at h;cases b<;>simp only[cond_true,cond_false] at h
  ·cases h
  ·split at h<;>cases h
   rename_i cs ey;simp only[dK,oU,hu,aj,a1,ae,cond_true,ey,Ms ak]
 case h_8=>
  obtain⟨h',rfl⟩:=gz h;simp only[dK,ac6 ak h',ds]
 case h_9=>
  split at h<;>cases h
  rename_i X1 aj;simp only[dK,az8 ak aj]
 case h_13=>
  split at h
  ·rename_i ae;cases h;simp only[dK,ae]
  ·rename_i ae;simp only[dK,ae];exact akh ak h
 case h_16=>
  unfold pU at h;split at h<;>try(cases h;done)
  rename_i e hu;split at h<;>try(cases h;done)
  rename_i l c aJ h6;split at h<;>try(cases h;done)
  rename_i s z b aj a1 ag;generalize ae:(Nat.ble _ _&&_&&_&&_&&_)=b at h;cases b<;>simp only[cond_true,cond_false] at h<;>cases h
  simp only[dK,pU,hu,aJ,h6,aj,a1,ag,ae,cond_true,aip ak]
 all_goals first
  |(cases h;rfl)
  |(obtain⟨h',rfl⟩:=gz h;simp only[dK,ds,h'];done)
  |(obtain⟨h',rfl⟩:=gz h;simp only[dK,ao5 ak h',ds];done)
  |(cases h;simp only[dK,apz ak];done)
  |(split at h<;>cases h;rename_i hu;simp only[dK,aBA ak hu];done)
  |(simp only[dK,ak6 ak h];done)
  |(split at h<;>cases h;rename_i hu;simp only[dK,ak4 ak hu];done)
  |(cases h;done)
  |(simp only[dK];exact ayb ak h)
  |(simp only[dK];exact apG ak h)
theorem alh{callf:bH}(cS:kP callf)(ak:cT X m){o:Oper}{F:av J}{y:J}(h:ka P callf o F X=some (y,af)):ka P callf o F (X.add m ob)=some (y,af.add m ob):=by
 unfold ka at h⊢;split at h<;>try(cases h;done)
 rename_i bz aJ;have x8:looks (X.add m ob).aH F o.op.operands.toList=some bz:=aJ;simp only[x8];split at h
 ·unfold xx at h⊢;split at h
  ·exact XS ak h
  ·split at h<;>try(cases h;done)
   rename_i hI;rw[XZ ak hI];unfold zQ at h⊢;split at h<;>try(cases h;done)
   rename_i a1;cases h;simp only[cS _ _ _ _ _ _ _ a1 ak]
 ·exact VM ak h
theorem Y6{callf:bH}(cS:kP callf)(ak:cT X m){o:Oper}{F:av J}{y:Out}(h:jR P callf o F X=some (y,af)):jR P callf o F (X.add m ob)=some (y,af.add m ob):=by
 have ad0:∀{bz:List J},kI bz X=some (y,af)->kI bz (X.add m ob)=some (y,af.add m ob):=by
  intro bz h;unfold kI at h⊢;split at h<;>cases h
  rfl
 have E5:∀{r:Option (J×ah)},gm r=some (y,af)->∃z,y= .ret z/\r=some (z,af):=by
  intro r aI;unfold gm at aI;split at aI<;>cases aI
  exact⟨_,rfl,rfl⟩
 unfold jR at h⊢;split at h<;>try(cases h;done)
 rename_i bz aJ;have x8:looks (X.add m ob).aH F o.op.operands.toList=some bz:=aJ;simp only[x8];split at h
 ·split at h
  ·rename_i b _;cases ag:pF b with
   |true=>rw[ag] at h;exact ad0 h
   |false=>
    rw[ag] at h;obtain⟨z,rfl,h3⟩:=E5 h;simp only[cond_false,XS ak h3,gm]
  ·split at h<;>try(cases h;done)
   rename_i hI;rw[XZ ak hI];exact cS _ _ _ _ _ _ _ h ak
 ·exact ad0 h
 ·obtain⟨z,rfl,h3⟩:=E5 h;simp only[VM ak h3,gm]
theorem Fp{ops:List Oper}{F:av J}{g:Option (Nat×Bool)}{b:Bool}(h:hb ops F X g=some (b,af)):hb ops F (X.add m ob) g=some (b,af.add m ob):=by
 unfold hb at h⊢;split at h
 ·cases h;rfl
 ·split at h<;>try(cases h;done)
  split at h<;>try(cases h;done)
  split at h<;>try(cases h;done)
  rename_i y _;unfold lG at h;cases aK:th y with
  |true=>
   simp only[aK,cond_true,Option.some.injEq,Prod.mk.injEq] at h;obtain⟨rfl,rfl⟩:=h;simp[*,lG]
  |false=>
   simp only[aK,cond_false] at h;split at h<;>try(cases h;done)
   rename_i ag;cases h;simp[*,lG,xj (m:=m) (ob:=ob) ag]
theorem VX{callf:bH}(cS:kP callf)(ak:cT X m){ops:List Oper}{o:Oper}{F:av J}{y:J}(h:jL P callf ops o F X=some (y,af)):jL P callf ops o F (X.add m ob)=some (y,af.add m ob):=by
 unfold jL at h⊢;split at h
 ·rename_i X1 hw;rw[Fp (m:=m) (ob:=ob) hw];exact alh cS (ak.keeps (wM hw)) h
 ·rename_i X1 hw;rw[Fp (m:=m) (ob:=ob) hw];cases h;rfl
 ·cases h
theorem az0{callf:bH}(cS:kP callf)(ak:cT X m){N:Nat}{ops:List Oper}{o:Oper}{F F':av J}(h:j4 P callf N ops o F X=some (F',af)):j4 P callf N ops o F (X.add m ob)=some (F',af.add m ob):=by
 obtain⟨y,bb,rfl⟩:=lk.1 h;exact lk.2 ⟨y,VX cS ak bb,rfl⟩
end
section
variable{P:Program}{m:Nat}{ob:bD}
theorem VW{callf:bH}(ae:fA callf){N:Nat}{ops:List Oper}{o:Oper}{F F':av J}{X af:ah}{r:Option gB}(h:ko P callf N ops o F X=some (r,F',af)):c7 X {af with bs:=X.bs}:=by
 have q4:∀{X1:ah} {b:Bool},hb ops F X o.guard=some (b,X1)->c7 X X1:=λh=>wM h
 unfold ko at h;split at h
 ·rename_i X1 hw;cases aF:nZ o.op with
  |true=>
   rw[aF] at h;simp only[cond_true] at h;split at h<;>cases h
   have k:=q4 hw;exact⟨k.cG,k.aH,k.next,k.ck,k.dead,rfl,k.pc⟩
  |false=>
   rw[aF] at h;simp only[cond_false] at h;split at h
   ·rename_i y cU aq;cases h;have k:=(q4 hw).trans (G0 ae aq);exact⟨k.cG,k.aH,k.next,k.ck,k.dead,rfl,k.pc⟩
   ·rename_i bj cU aq;cases h;have k:=(q4 hw).trans (G0 ae aq);exact⟨k.cG,k.aH,k.next,k.ck,k.dead,rfl,k.pc⟩
   ·cases h
 ·rename_i X1 hw;cases h;have k:=q4 hw;exact⟨k.cG,k.aH,k.next,k.ck,k.dead,rfl,k.pc⟩
 ·cases h
theorem c7.adA{X Y Z:ah}(h:c7 X {Y with bs:=X.bs})(h':c7 Y {Z with bs:=Y.bs}):c7 X {Z with bs:=X.bs}:=by
 have a:c7 {Y with bs:=X.bs} {Z with bs:=X.bs}:=⟨h'.cG,h'.aH,h'.next,h'.ck,h'.dead,rfl,h'.pc⟩;exact h.trans a
theorem Nl{callf:bH}(ae:fA callf){N:Nat}{ops:List Oper}:∀{l:List Oper} {F F':av J} {X af:ah} {r:Option gB},kb P callf N ops l F X=some (r,F',af)->c7 X {af with bs:=X.bs}
 | [],_,_,_,_,_,h=>by cases h;exact c7.refl _
 |o::l,F,F',X,af,r,h=>by
  simp only[kb] at h;split at h
  ·rename_i aL X1 aj;exact(VW ae aj).adA (Nl ae h)
  ·exact VW ae h
theorem akJ{o:Oper}{F:av J}{X:ah}:GU o F (X.add m ob)=GU o F X:=rfl
theorem agr{callf:bH}(cS:kP callf){X af:ah}(ak:cT X m){N:Nat}{ops:List Oper}{o:Oper}{F F':av J}{r:Option gB}(h:ko P callf N ops o F X=some (r,F',af)):ko P callf N ops o F (X.add m ob)=some (r,F',af.add m ob):=by
 unfold ko at h⊢;split at h
 ·rename_i X1 hw;rw[Fp (m:=m) (ob:=ob) hw];simp only[];cases aF:nZ o.op with
  |true=>
   rw[aF] at h;simp only[cond_true] at h⊢;rw[akJ];split at h<;>cases h
   rfl
  |false=>
   rw[aF] at h;simp only[cond_false] at h⊢;split at h
   ·rename_i y cU aq;cases h;rw[Y6 cS (ak.keeps (wM hw)) aq]
   ·rename_i bj cU aq;cases h;rw[Y6 cS (ak.keeps (wM hw)) aq]
   ·cases h
 ·rename_i X1 hw;rw[Fp (m:=m) (ob:=ob) hw];cases h;rfl
 ·cases h
theorem cT.acW{X af:ah}(h:cT X m)(k:c7 X {af with bs:=X.bs}):cT af m:=⟨k.dead m h.lt h.dead,Nat.lt_of_lt_of_le h.lt k.next⟩
theorem Nk{callf:bH}(cS:kP callf)(ae:fA callf){N:Nat}{ops:List Oper}:∀{l:List Oper} {F F':av J} {X af:ah} {r:Option gB},cT X m->kb P callf N ops l F X=some (r,F',af)->kb P callf N ops l F (X.add m ob)=some (r,F',af.add m ob)
 | [],_,_,_,_,_,_,h=>by cases h;rfl
 |o::l,F,F',X,af,r,ak,h=>by
  simp only[kb] at h⊢;split at h
  ·rename_i aL X1 aj;rw[agr cS ak aj];exact Nk cS ae (ak.acW (VW ae aj)) h
  ·rename_i bY;rw[agr cS ak h];cases r with
   |none=>exact absurd h (bY _ _)
   |some bj=>rfl
theorem Mv{ops:List Oper}{o:Oper}{F:av J}{X:ah}{r:av J×ah}{callf:bH}{N:Nat}(h:j4 P callf N ops o F X=some r):addrOf ops o F (X.add m ob)=addrOf ops o F X:=by
 unfold j4 at h;unfold addrOf;cases hw:hb ops F X o.guard with
 |none=>rw[hw] at h;cases h
 |some q=>
  obtain⟨b,X1⟩:=q;rw[Fp (m:=m) (ob:=ob) hw];cases b<;>rfl
theorem afZ{X af:ah}{k:Nat}(ak:cT X m)(h:nm X af k=true):nm (X.add m ob) (af.add m ob) k=true:=by
 unfold nm at h⊢;cases ag:Nat.blt k X.next with
 |false=>rw[ag] at h;cases h
 |true=>
  rw[ag] at h;have hT:Nat.blt k (X.add m ob).next=true:=ag
  rw[hT];simp only[cond_true,Fo] at h⊢;cases h1:X.aS.get k with
  |none=>simp[h1] at h
  |some o=>
   obtain⟨h3,bY⟩:=add_get (ob:=ob) ak h1
   have aU:(af.add m ob).aS.get k=af.aS.get k:=by
    show(af.aS.put m ob).get k=_;rw[cz.kA,if_neg bY]
   rw[h3,aU];rw[h1] at h;exact h
theorem MN{bL:List (Nat×Option Nat)}{X af:ah}(ak:cT X m):∀{ls:List Nat},j9 bL X af ls=true->j9 bL (X.add m ob) (af.add m ob) ls=true
 | [],_=>rfl
 |l::ls,h=>by
  simp only[j9,Bool.and_eq_true] at h⊢;refine⟨?_,MN ak h.2⟩;cases ai:l5 bL l with
  |none=>rfl
  |some k=>
   have:=h.1
   rw[ai] at this;exact afZ ak this
theorem Nd{callf:bH}(cS:kP callf)(ae:fA callf){N:Nat}{ops:List Oper}{bO:List (Nat×List Nat)}:∀{bJ:List Nat} {bL:List (Nat×Option Nat)} {F F':av J} {X af:ah},cT X m->iv P callf N ops bO bJ bL F X=some (F',af)->
 iv P callf N ops bO bJ bL F (X.add m ob)=some (F',af.add m ob)
 | [],_,_,_,_,_,_,h=>by simp only[iv,Option.some.injEq,Prod.mk.injEq] at h⊢;obtain⟨rfl,rfl⟩:=h;exact⟨rfl,rfl⟩
 |k::bJ,bL,F,F',X,af,ak,h=>by
  simp only[iv] at h⊢;split at h<;>try(cases h;done)
  rename_i o _;split at h<;>try(cases h;done)
  rename_i aL X1 aj;rw[az0 cS ak aj];simp only[];cases jV:j9 bL X X1 (hY bO k) with
  |false=>rw[jV] at h;cases h
  |true=>
   rw[jV] at h;rw[MN ak jV,Mv aj];exact Nd cS ae (ak.keeps (VT ae aj)) h
end
section
variable{P:Program}{B:Nat}{aV w:World}{E:Env}{bg:List Deferred}
theorem ady{op:Op}{bz:List J}{X af:ah}{y:J}(aO:yo op=true)(h:dK P op bz X=some (y,af)):
 ∃o,af=(X.new o).2/\o.ro=false/\∀X1:ah,X1.next=X.next->dK P op bz X1=some (y,(X1.new o).2):=by
 unfold dK at h;split at h
 case h_4=>
  unfold pR newRow ah.new at h;split at h<;>try(cases h;done)
  rename_i z a1;simp only[force_eq] at h;cases h;exact⟨_,rfl,rfl,λX1 h1=>by simp only[dK,pR,newRow,ah.new,a1,force_eq,h1]⟩
 case h_5=>
  unfold pT newRow ah.new at h;rename_i x;cases ao:x.flat<;>simp only[ao,cond_false,cond_true,force_eq] at h<;>cases h
  exact⟨_,rfl,rfl,λX1 h1=>by simp only[dK,pT,newRow,ah.new,ao,cond_true,force_eq,h1]⟩
 case h_7=>
  unfold oU newRow ah.new at h;split at h<;>try(cases h;done)
  rename_i e hu;split at h<;>try(cases h;done)
  rename_i s z aj a1;generalize ae:(Nat.ble _ _&&Nat.ble 1 s&&_)=b at h;cases b<;>simp only[cond_true,cond_false,force_eq] at h
  ·cases h
  ·split at h<;>cases h
   rename_i cs ey;exact⟨_,rfl,rfl,λX1 h1=>by simp only[dK,oU,newRow,ah.new,hu,aj,a1,ae,cond_true,ey,force_eq,h1]⟩
 case h_16=>
  unfold pU mM ah.new at h;split at h<;>try(cases h;done)
  rename_i e hu;split at h<;>try(cases h;done)
  rename_i l c aJ h6;split at h<;>try(cases h;done)
  rename_i s z b aj a1 ag;generalize ae:(Nat.ble _ _&&_&&_&&_&&_)=b at h;cases b<;>simp only[cond_true,cond_false,force_eq] at h<;>cases h
  exact⟨_,rfl,rfl,λX1 h1=>by simp only[dK,pU,mM,ah.new,hu,aJ,h6,aj,a1,ag,ae,cond_true,force_eq,h1]⟩
 all_goals first
  |(simp[yo] at aO;done)
  |(cases h;done)
theorem yM{rs:List Nat}{k:Nat}{o:Op}(h:hk rs k o=true):yo o=true:=by
 simp only[hk,Bool.and_eq_true] at h;exact h.2
def mm(P:Program)(callf:bH)(ops:List Oper)(rs:List Nat)(base k:Nat)(o:Oper)(F:av J)(X:ah):Option (J×ah):=
 bif hk rs k o.op then(match o.guard with
  |some _=>none
  |none=>match looks X.aH F o.op.operands.toList with
   |none=>none
   |some bz=>bif pI base bz then(match dK P o.op bz {X with next:=base+k} with
    |some (y,af)=>some (y,{af with next:=X.next})
    |none=>none) else none) else jL P callf ops o F X
theorem ju{callf:bH}{rs:List Nat}{N base k:Nat}{ops:List Oper}{o:Oper}{F F':av J}{X af:ah}:
 ll P callf N ops rs base k o F X=some (F',af)↔∃y,mm P callf ops rs base k o F X=some (y,af)/\F'=put N F o.dst y:=by
 unfold ll mm;cases aO:hk rs k o.op with
 |false=>simp only[cond_false];exact lk
 |true=>
  simp only[cond_true];cases o.guard with
  |some g=>simp
  |none=>
   simp only[];cases looks X.aH F o.op.operands.toList with
   |none=>simp
   |some bz=>
    simp only[];cases pI base bz with
    |false=>simp
    |true=>
     simp only[cond_true,force_eq];cases aj:dK P o.op bz {X with next:=base+k} with
     |none=>simp
     |some r=>
      obtain⟨y,X1⟩:=r;simp only[Option.some.injEq,Prod.mk.injEq];constructor
      ·rintro ⟨rfl,rfl⟩;exact⟨y,⟨rfl,rfl⟩,rfl⟩
      ·rintro ⟨zh,⟨rfl,rfl⟩,rfl⟩;exact⟨rfl,rfl⟩
theorem VU{callf:bH}{rs:List Nat}{base k:Nat}{ops:Array Oper}{o:Oper}{F F':av J}{X:ah}(h:∀t∈o.looksAt ops,F.get t=F'.get t):
 mm P callf ops.toList rs base k o F X=mm P callf ops.toList rs base k o F' X:=by
 obtain⟨hw,aJ⟩:=Qv (X:=X) h;unfold mm;rw[KG h];simp only[aJ]
theorem tF{callf:bH}{rs:List Nat}{base k:Nat}{ops:List Oper}{o:Oper}{F:av J}{X af:ah}{y:J}(aO:hk rs k o.op=true)(h:mm P callf ops rs base k o F X=some (y,af)):
 ∃ob,af={X with aS:=X.aS.put (base+k) ob}/\∀X1:ah,X1.aH=X.aH->mm P callf ops rs base k o F X1=some (y,{X1 with aS:=X1.aS.put (base+k) ob}):=by
 unfold mm at h⊢;simp only[aO,cond_true] at h⊢;split at h<;>try(cases h;done)
 split at h<;>try(cases h;done)
 rename_i bz aJ;cases nS:pI base bz with
 |false=>simp[nS] at h
 |true=>
  simp only[nS,cond_true] at h;split at h<;>try(cases h;done)
  rename_i zh cU aj;cases h;obtain⟨ob,rfl,_,k7⟩:=ady (yM aO) aj;refine⟨ob,rfl,λX1 lR=>?_⟩
  have:=k7 {X1 with next:=base+k} rfl
  simp only[lR] at this;simp only[lR,aJ,nS,cond_true,this];simp only[ah.new]
def ve(P:Program)(callf:bH)(N:Nat)(ops:Array Oper)(S:ji)(rs:List Nat)(base i:Nat)(F:av J)(X:ah)(F':av J)(af:ah):Prop:=
 ∃o,ops[i]?=some o/\ll P callf N ops.toList rs base i o F X=some (F',af)/\(e5 P o.op=true->∀k,addrOf ops.toList o F X=some k->k<base)/\
  (nY P o.op=true->hk rs i o.op=false->∀k,nm (S.pre i) (S.post i) k=true->nm X af k=true)/\(e5 P o.op=true->addrOf ops.toList o F X=S.obj i)
theorem IU{op:Op}(h:yo op=true):mb P op=false/\e5 P op=false:=by
 cases op<;>first|(simp[yo] at h;done)|exact⟨rfl,rfl⟩
theorem kn{callf:bH}{rs:List Nat}{base k:Nat}{ops:List Oper}{o:Oper}{F:av J}{X:ah}(h:hk rs k o.op=false):mm P callf ops rs base k o F X=jL P callf ops o F X:=by
 unfold mm;rw[h];rfl
theorem KD{callf:bH}(ae:fA callf){rs:List Nat}{base k:Nat}{ops:List Oper}{o:Oper}{F:av J}{X af:ah}{y:J}(h:mm P callf ops rs base k o F X=some (y,af)):(X.cG=[]->af.cG=[])/\af.aH=X.aH:=by
 cases aO:hk rs k o.op with
 |true=>obtain⟨ob,rfl,_⟩:=tF aO h;exact⟨λh=>h,rfl⟩
 |false=>
  rw[kn aO] at h
  have:=uM ae h
  exact⟨this.cG,this.aH⟩
theorem aea{rs:List Nat}{k:Nat}{op:Op}(aA:mb P op=true):hk rs k op=false:=by
 cases aO:hk rs k op with
 |false=>rfl
 |true=>have:=(IU (P:=P) (yM aO)).1;rw[aA] at this;cases this
theorem E3{rs:List Nat}{k:Nat}{op:Op}(aA:e5 P op=true):hk rs k op=false:=by
 cases aO:hk rs k op with
 |false=>rfl
 |true=>have:=(IU (P:=P) (yM aO)).2;rw[aA] at this;cases this
theorem az7{callf:bH}(iz:kP callf)(ae:fA callf){N:Nat}{ops:Array Oper}{S:ji}{bO:List (Nat×List Nat)}{rs:List Nat}{base:Nat}{i j:Nat}{dQ cb:Oper}{F jP w0:av J}{X jE iL:ah}(anb:i≠j)(nV:ops[i]?=some dQ)(eM:ops[j]?=some cb)
 (nN:dQ.apart ops cb=true)(Df:Co P rs bO i j dQ.op cb.op=true)
 (rO:nY P cb.op=true->mE (hY bO j) i=true->∀k,S.obj i=some k->nm (S.pre j) (S.post j) k=true)(xV:hk rs j cb.op=true->cT X (base+j))(aq:X.cG=[])(h1:ve P callf N ops S rs base i F X jP jE)(h2:ve P callf N ops S rs base j jP jE w0 iL):
 ∃re ph tO,ve P callf N ops S rs base j F X re ph/\ph.cG=[]/\ve P callf N ops S rs base i re ph tO iL/\ht w0 tO:=by
 obtain⟨apZ,Dx,h1,c5,bR,s1⟩:=h1;obtain⟨ap0,Dy,h2,dM,b2,s2⟩:=h2;rw[nV] at Dx;cases Dx;rw[eM] at Dy;cases Dy;obtain⟨an,aD,a7⟩:=Oper.apart_spec nN;obtain⟨je,j0,rfl⟩:=ju.1 h1;obtain⟨jM,PV,rfl⟩:=ju.1 h2;have D0:∀t∈cb.looksAt ops,F.get t=(put N F dQ.dst je).get t:=λt aK=>(pO t λe=>an t e aK).symm
 have li:∀t∈dQ.looksAt ops,F.get t=(put N F cb.dst jM).get t:=λt aK=>(pO t λe=>a7 t e aK).symm
 have aa:mm P callf ops.toList rs base j cb F jE=some (jM,iL):=by rw[<- PV];exact VU D0
 have cA:∀X1 cU,mm P callf ops.toList rs base i dQ F X1=some (je,cU)->mm P callf ops.toList rs base i dQ (put N F cb.dst jM) X1=some (je,cU):=λX1 cU h=>by
  rw[<- h];exact(VU li).symm
 have oQ:∀X1,addrOf ops.toList cb F X1=addrOf ops.toList cb (put N F dQ.dst je) X1:=λX1=>xf D0
 have pQ:∀X1,addrOf ops.toList dQ F X1=addrOf ops.toList dQ (put N F cb.dst jM) X1:=λX1=>xf li
 have cS:=put_comm (N:=N) (F:=F) (y:=je) (z:=jM) aD;obtain⟨aoN,acX⟩:=KD ae j0;obtain⟨aoQ,aoR⟩:=KD ae aa;have A6:=aoN aq;have ts:=aoQ A6;have anc:=(Array.getElem?_eq_some_iff.1 nV).1;have Ap:=(Array.getElem?_eq_some_iff.1 eM).1
 have al1:∀(t:cz) (m k:Nat) (ob:bD),m<base+ops.size->k<base->base<=m->(t.put m ob).get k=t.get k:=λt m k ob hm ai abC=>by
  rw[cz.kA,if_neg (by omega)]
 simp only[Co,Bool.or_eq_true,Bool.and_eq_true] at Df;rcases Df with(((aA|aA)|nT)|⟨nW,DC⟩)|⟨⟨⟨nW,abB⟩,nT⟩,jV⟩
 ·have aO:=aea (rs:=rs) (k:=i) aA;rw[kn aO] at j0;obtain⟨rfl,k7⟩:=KH aA aq j0;obtain⟨n2,uD⟩:=I5 aA
  exact⟨_,iL,_,⟨cb,eM,ju.2 ⟨jM,aa,rfl⟩,λh=>(by rw[oQ];exact dM h),b2,λh=>(by rw[oQ];exact s2 h)⟩,ts,
   ⟨dQ,nV,ju.2 ⟨je,cA _ _ (by rw[kn aO];exact k7 iL aoR),rfl⟩,λh=>(by rw[uD] at h;cases h),λh=>(by rw[n2] at h;cases h),λh=>(by rw[uD] at h;cases h)⟩,cS⟩
 ·have aO:=aea (rs:=rs) (k:=j) aA;rw[kn aO] at aa;obtain⟨rfl,k7⟩:=KH aA A6 aa;obtain⟨n2,uD⟩:=I5 aA
  exact⟨_,X,_,⟨cb,eM,ju.2 ⟨jM,by rw[kn aO];exact k7 X acX.symm,rfl⟩,λh=>(by rw[uD] at h;cases h),λh=>(by rw[n2] at h;cases h),λh=>(by rw[uD] at h;cases h)⟩,aq,
   ⟨dQ,nV,ju.2 ⟨je,cA _ _ j0,rfl⟩,λh=>(by rw[<- pQ];exact c5 h),bR,λh=>(by rw[<- pQ];exact s1 h)⟩,cS⟩
 ·
  obtain⟨ob,rfl,Po⟩:=tF nT aa;have mJ:=(IU (P:=P) (yM nT)).2
  refine⟨_,_,_,⟨cb,eM,ju.2 ⟨jM,Po X acX.symm,rfl⟩,λh=>(by rw[mJ] at h;cases h),λ_ h=>(by rw[nT] at h;cases h),λh=>(by rw[mJ] at h;cases h)⟩,aq,
   ⟨dQ,nV,ju.2 ⟨je,cA _ _ ?_,rfl⟩,λh=>(by rw[<- pQ,vl (X:=X) (X1:={X with aS:=X.aS.put (base+j) ob}) aq aq rfl];exact c5 h),λh1 h2 k ai=>afZ (xV nT) (bR h1 h2 k ai),
     λh=>(by rw[<- pQ,vl (X:=X) (X1:={X with aS:=X.aS.put (base+j) ob}) aq aq rfl];exact s1 h)⟩,cS⟩
  cases pA:hk rs i dQ.op with
  |true=>
   obtain⟨apT,rfl,abM⟩:=tF pA j0
   have:=abM {X with aS:=X.aS.put (base+j) ob} rfl
   rw[this];simp only[Option.some.injEq,Prod.mk.injEq,true_and];rw[cz.put_comm _ _ _ (by omega)]
  |false=>
   rw[kn pA] at j0⊢;exact VX (ob:=ob) iz (xV nT) j0
 ·have nT:=E3 (rs:=rs) (k:=j) DC;have adw:=Kq DC;rw[kn nT] at aa;rcases nW with nW|nW
  ·have aO:=E3 (rs:=rs) (k:=i) nW;rw[kn aO] at j0;obtain⟨rfl,k7⟩:=wH nW aq j0;obtain⟨rfl,_⟩:=wH DC aq aa
   exact⟨_,_,_,⟨cb,eM,ju.2 ⟨jM,by rw[kn nT];exact aa,rfl⟩,λh=>(by rw[oQ];exact dM h),λh=>(by rw[adw] at h;cases h),λh=>(by rw[oQ];exact s2 h)⟩,aq,
    ⟨dQ,nV,ju.2 ⟨je,cA _ _ (by rw[kn aO];exact j0),rfl⟩,λh=>(by rw[<- pQ];exact c5 h),bR,λh=>(by rw[<- pQ];exact s1 h)⟩,cS⟩
  ·obtain⟨ob,rfl,abM⟩:=tF nW j0;have mJ:=(IU (P:=P) (yM nW)).2;obtain⟨e,Po⟩:=wH DC A6 aa;subst e
   refine⟨_,X,_,⟨cb,eM,ju.2 ⟨jM,?_,rfl⟩,λh=>(by rw[oQ, <- vl (X:=X) (X1:={X with aS:=X.aS.put (base+i) ob}) aq aq rfl];exact dM h),λh=>(by rw[adw] at h;cases h),λh=>(by rw[oQ, <- vl (X:=X) (X1:={X with aS:=X.aS.put (base+i) ob}) aq aq rfl];exact s2 h)⟩,aq,
    ⟨dQ,nV,ju.2 ⟨je,cA _ _ j0,rfl⟩,λh=>(by rw[mJ] at h;cases h),λ_ h=>(by rw[nW] at h;cases h),λh=>(by rw[mJ] at h;cases h)⟩,cS⟩
   rw[kn nT];exact Po X rfl λk ai=>(al1 _ _ _ _ (by omega) (dM DC k (by rw[<- oQ];exact ai)) (by omega)).symm
 ·have Pz:hk rs j cb.op=false:=by simpa using nT
  have pA:=E3 (rs:=rs) (k:=i) nW;rw[kn Pz] at aa;rw[kn pA] at j0;obtain⟨az,k7⟩:=wH nW aq j0;subst az;have n2:=Kq nW;have rS:=uM ae aa
  have PC:mm P callf ops.toList rs base i dQ F iL=some (je,iL):=by
   rw[kn pA];exact k7 iL rS.aH λk ai=>af0 rS (b2 abB Pz k (rO abB jV k (by rw[<- s1 nW];exact ai)))
  exact⟨_,iL,_,⟨cb,eM,ju.2 ⟨jM,by rw[kn Pz];exact aa,rfl⟩,λh=>(by rw[oQ];exact dM h),b2,λh=>(by rw[oQ];exact s2 h)⟩,ts,
   ⟨dQ,nV,ju.2 ⟨je,cA _ _ PC,rfl⟩,λh=>(by rw[<- pQ,vl aq ts rS.aH];exact c5 h),λh=>(by rw[n2] at h;cases h),λh=>(by rw[<- pQ,vl aq ts rS.aH];exact s1 h)⟩,cS⟩
end
section
variable{P:Program}{B:Nat}{aV w:World}{E:Env}{bg:List Deferred}
def rl(P:Program)(callf:bH)(N:Nat)(ops:Array Oper)(S:ji)(rs:List Nat)(base:Nat)(G:av J->ah->Prop):Nat->Array Bool->av J->ah->Prop
 |0,listed,F,X=>Region.ready .any ops listed=[]/\G F X
 |n+1,listed,F,X=>(Region.ready .any ops listed=[]->G F X)/\
  ∀i∈Region.ready .any ops listed,∃F' af,ve P callf N ops S rs base i F X F' af/\rl P callf N ops S rs base G n (listed.setIfInBounds i true) F' af
theorem az1{callf:bH}{rs:List Nat}{N base k:Nat}{ops:Array Oper}{o:Oper}{F F' G:av J}{X af:ah}(he:ht F F')(h:ll P callf N ops.toList rs base k o F X=some (G,af)):
 ∃tP,ll P callf N ops.toList rs base k o F' X=some (tP,af)/\ht G tP:=by
 obtain⟨y,bb,rfl⟩:=ju.1 h;exact⟨_,ju.2 ⟨y,by rw[<- VU (λt _=>he t)];exact bb,rfl⟩,aef he _ _⟩
theorem Xp{callf:bH}{S:ji}{rs:List Nat}{N base:Nat}{ops:Array Oper}{G:av J->ah->Prop}(iS:∀F F' X,ht F F'->G F X->G F' X):
 ∀(n:Nat) (listed:Array Bool) (F F':av J) (X:ah),ht F F'->rl P callf N ops S rs base G n listed F X->rl P callf N ops S rs base G n listed F' X
 |0,_,_,_,_,he,h=>⟨h.1,iS _ _ _ he h.2⟩
 |n+1,listed,F,F',X,he,h=>⟨λaI=>iS _ _ _ he (h.1 aI),λi hi=>by
   obtain⟨aL,X1,⟨o,aq,h1,aI,ag,aj⟩,h2⟩:=h.2 i hi;obtain⟨tP,h3,aU⟩:=az1 he h1
   exact⟨tP,X1,⟨o,aq,h3,λh=>(by rw[<- xf (λt _=>he t)];exact aI h),ag,λh=>(by rw[<- xf (λt _=>he t)];exact aj h)⟩,Xp iS n _ _ _ _ aU h2⟩⟩
theorem agp{rs:List Nat}{bO:List (Nat×List Nat)}{ops:Array Oper}{kG:Array Bool}{i:Nat}{dQ:Oper}{r:List Bool}(hi:ops[i]?=some dQ)(h:KF P rs bO ops kG i r=true){j:Nat}{cb:Oper}(aa:ops[j]?=some cb)(bY:j≠i):
 (r.getD j false=true/\(kG.getD j true=true\/(dQ.apart ops cb=true/\Co P rs bO i j dQ.op cb.op=true)))\/
 (r.getD j false=false/\kG.getD j true=false/\∃e∈cb.after,Region.binds .any e=true/\r.getD e.on false=false):=by
 unfold KF at h;simp only[hi,List.all_eq_true,List.mem_range] at h;have a8:=(Array.getElem?_eq_some_iff.1 aa).1
 have:=h j a8
 simp only[aa] at this;have ag:(j==i)=false:=by simpa using bY
 simp only[ag,Bool.false_or] at this;cases aI:r.getD j false with
 |true=>
  simp only[aI,cond_true,Bool.or_eq_true,Bool.and_eq_true] at this;exact .inl ⟨rfl,this⟩
 |false=>
  simp only[aI,cond_false,Bool.and_eq_true,Bool.not_eq_true',Array.any_eq_true'] at this;obtain⟨h1,e,he,h2,h3⟩:=this;exact .inr ⟨rfl,h1,e,he,h2,h3⟩
def Kept(ops:Array Oper)(rs:List Nat)(base:Nat)(listed:Array Bool)(X:ah):Prop:=
 ∀j cb,ops[j]?=some cb->listed.getD j true=false->hk rs j cb.op=true->cT X (base+j)
theorem Kept.step{callf:bH}(ae:fA callf){S:ji}{rs:List Nat}{N base:Nat}{ops:Array Oper}{i:Nat}{listed:Array Bool}{F F':av J}{X af:ah}(h:Kept ops rs base listed X)(aj:ve P callf N ops S rs base i F X F' af):
 Kept ops rs base (listed.setIfInBounds i true) af:=by
 intro j cb eM aa aO;have a8:=(Array.getElem?_eq_some_iff.1 eM).1
 have nQ:listed.getD j true=false/\j≠i:=by
  by_cases e:i=j
  ·subst e
   exfalso
   rcases Nat.lt_or_ge i listed.size with h'|h'
   ·simp[h'] at aa
   ·simp at aa
  ·rw[getD_set_ne true e] at aa;exact⟨aa,λbh=>e bh.symm⟩
 have ak:=h j cb eM nQ.1 aO;obtain⟨o,aq,dk,_⟩:=aj;obtain⟨y,bb,_⟩:=ju.1 dk;cases pA:hk rs i o.op with
 |true=>
  obtain⟨ob,rfl,_⟩:=tF pA bb;refine⟨?_,ak.lt⟩;show(X.aS.put (base+i) ob).get (base+j)=none;cases bd:(X.aS.put (base+i) ob).get (base+j) with
  |none=>rfl
  |some b=>
   rcases cz.ix bd with⟨e,_⟩|⟨_,h2⟩
   ·omega
   ·rw[ak.dead] at h2;cases h2
 |false=>
  rw[kn pA] at bb;exact ak.keeps (uM ae bb)
theorem aiD{callf:bH}(iz:kP callf)(ae:fA callf){S:ji}{bO:List (Nat×List Nat)}{rs:List Nat}{N base:Nat}{ops:Array Oper}{G:av J->ah->Prop}(iS:∀F F' X,ht F F'->G F X->G F' X){i:Nat}{dQ:Oper}(hi:ops[i]?=some dQ)
 {kG:Array Bool}{r:List Bool}(dg:KF P rs bO ops kG i r=true)
 (rO:∀j cb,ops[j]?=some cb->kG.getD j true=false->j≠i->nY P cb.op=true->mE (hY bO j) i=true->∀k,S.obj i=some k->nm (S.pre j) (S.post j) k=true):
 ∀(n:Nat) (listed:Array Bool) (F jP:av J) (X jE:ah),Inv ops i kG r listed->Kept ops rs base listed X->i∈Region.ready .any ops listed->X.cG=[]->ve P callf N ops S rs base i F X jP jE->
  rl P callf N ops S rs base G n (listed.setIfInBounds i true) jP jE->rl P callf N ops S rs base G (n+1) listed F X:=by
 intro n
 induction n with
 |zero=>
  intro listed F jP X jE _ _ aI _ aj H;refine⟨λh=>(by rw[h] at aI;cases aI),λj aa=>?_⟩;by_cases k8:j=i
  ·subst k8;exact⟨jP,jE,aj,H⟩
  ·have:=ready_mono aa k8
   rw[H.1] at this;cases this
 |succ n ba=>
  intro listed F jP X jE inv x6 aI aq aj H;refine⟨λh=>(by rw[h] at aI;cases aI),λj aa=>?_⟩;by_cases k8:j=i
  ·subst k8;exact⟨jP,jE,aj,H⟩
  ·obtain⟨w0,iL,h1,h2⟩:=H.2 j (ready_mono aa k8);obtain⟨Aq,cb,eM,gq⟩:=mem_ready.1 aa
   have kC:kG.getD j true=false:=by
    cases h:kG.getD j true with
    |false=>rfl
    |true=>have:=inv.more j h;rw[Aq] at this;cases this
   have O6:=agp hi dg eM k8
   have xQ:r.getD j false=true/\dQ.apart ops cb=true/\Co P rs bO i j dQ.op cb.op=true:=by
    rcases O6 with⟨h3,aU⟩|⟨_,_,e,he,ag,aO⟩
    ·rcases aU with aU|aU
     ·rw[kC] at aU;cases aU
     ·exact⟨h3,aU⟩
    ·have:=inv.k9 _ (gq e he ag);rw[aO] at this;cases this
   obtain⟨re,ph,tO,k1,k2,gN,oL⟩:=az7 iz ae (λe=>k8 e.symm) hi eM xQ.2.1 xQ.2.2 (rO j cb eM kC k8) (x6 j cb eM Aq) aq aj h1;refine⟨re,ph,k1,?_⟩;refine ba (listed.setIfInBounds j true) re tO ph iL ⟨λk ai=>?_,λk ai=>?_⟩ (x6.step ae k1) (ready_mono aI (Ne.symm k8)) k2 gN ?_
   ·by_cases e:j=k
    ·subst e;exact xQ.1
    ·rw[getD_set_ne false e] at ai;exact inv.k9 k ai
   ·by_cases e:j=k
    ·subst e;have:=inv.more j ai;rw[Aq] at this;cases this
    ·rw[getD_set_ne true e];exact inv.more k ai
   ·rw[Array.setIfInBounds_comm _ _ k8];exact Xp iS n _ _ _ _ oL h2
theorem Qo{rs:List Nat}{bO:List (Nat×List Nat)}{ops:Array Oper}:∀(bJ:List Nat) (listed:Array Bool),uz P rs bO ops bJ listed=true->∀j,listed.getD j true=false->j∈bJ
 | [],listed,h,j,aa=>by
   simp only[uz,Array.all_eq_true_iff_forall_mem] at h;rcases Nat.lt_or_ge j listed.size with h'|h'
   ·have:=h listed[j] (Array.getElem_mem h')
    simp only[id] at this;simp[h',this] at aa
   ·simp[Array.getElem?_eq_none h'] at aa
 |k::bJ,listed,h,j,aa=>by
  simp only[uz,Bool.and_eq_true] at h;obtain⟨⟨⟨aI,mJ⟩,dk⟩,kD⟩:=h;by_cases e:j=k
  ·subst e;exact List.mem_cons_self ..
  ·refine List.mem_cons_of_mem _ (Qo bJ _ kD j ?_);rw[getD_set_ne true (λbh=>e bh.symm)];exact aa
theorem Xs{callf:bH}{N:Nat}{ops:Array Oper}{S e4:ji}{rs:List Nat}{base:Nat}{G:av J->ah->Prop}:
 ∀(n:Nat) (listed:Array Bool) (F:av J) (X:ah),(∀i,listed.getD i true=false->e4.pre i=S.pre i/\e4.post i=S.post i/\e4.obj i=S.obj i)->rl P callf N ops S rs base G n listed F X->rl P callf N ops e4 rs base G n listed F X
 |0,_,_,_,_,h=>h
 |n+1,listed,F,X,aj,h=>⟨h.1,λi hi=>by
   obtain⟨aL,X1,⟨o,aq,h1,aI,ag,DD⟩,h2⟩:=h.2 i hi;obtain⟨az,aw,ch⟩:=aj i (mem_ready.1 hi).1;refine⟨aL,X1,⟨o,aq,h1,aI,λh=>by rw[az,aw];exact ag h,λh=>by rw[ch];exact DD h⟩,Xs n _ _ _ (λj aa=>aj j ?_) h2⟩;by_cases e:i=j
   ·subst e;exact(mem_ready.1 hi).1
   ·rw[getD_set_ne true e] at aa;exact aa⟩
theorem Qp{rs:List Nat}{bO:List (Nat×List Nat)}{ops:Array Oper}:∀(bJ:List Nat) (listed:Array Bool),uz P rs bO ops bJ listed=true->(∀j∈bJ,listed.getD j true=false)
 | [],listed,h,j,aa=>by cases aa
 |k::bJ,listed,h,j,aa=>by
  simp only[uz,Bool.and_eq_true] at h;obtain⟨⟨⟨aI,mJ⟩,dk⟩,kD⟩:=h;have lS:k∈Region.ready .any ops listed:=by simpa using aI
  have ai:=(mem_ready.1 lS).1;rcases List.mem_cons.1 aa with rfl|aa
  ·exact ai
  ·exact(getD_set_true (Qp bJ _ kD j aa)).1
theorem Xq{callf:bH}(iz:kP callf)(ae:fA callf){rs:List Nat}{bO:List (Nat×List Nat)}{N base:Nat}{ops:Array Oper}{F':av J}{af:ah}:∀(bJ:List Nat) (bL:List (Nat×Option Nat)) (listed:Array Bool) (F:av J) (X:ah),listed.size=ops.size->Kept ops rs base listed X->X.cG=[]->
 uz P rs bO ops bJ listed=true->iO P callf N ops.toList rs bO base bJ bL F X=some (F',af)->∃S:ji,rl P callf N ops S rs base (λaL X1=>ht F' aL/\X1=af) bJ.length listed F X/\
  ∀i,i ∉ bJ->∀k,l5 bL i=some k->∀j cb,j∈bJ->ops[j]?=some cb->nY P cb.op=true->mE (hY bO j) i=true->nm (S.pre j) (S.post j) k=true
 | [],bL,listed,F,X,_,_,_,aJ,h=>by
   simp only[iO,Option.some.injEq,Prod.mk.injEq] at h;obtain⟨rfl,rfl⟩:=h;refine⟨⟨λ_=>X,λ_=>X,λ_=>none⟩,⟨?_,ht.refl _,rfl⟩,λi _ k _ j cb aa=>by cases aa⟩
   have:=Qo [] listed aJ
   cases aI:Region.ready .any ops listed with
   |nil=>rfl
   |cons a eU=>
    have bX:a∈Region.ready .any ops listed:=by rw[aI];exact List.mem_cons_self ..
    have:=this a (mem_ready.1 bX).1
    cases this
 |k::bJ,bL,listed,F,X,dV,x6,aq,aJ,h=>by
  have DI:=Qp (k::bJ) listed aJ;have O8:=Qo (k::bJ) listed aJ;simp only[iO] at h;split at h<;>try(cases h;done)
  rename_i o dg;cases yc:pJ P ops.toList base o F X with
  |false=>rw[yc] at h;cases h
  |true=>
   rw[yc] at h;simp only[cond_true] at h;split at h<;>try(cases h;done)
   rename_i aL X1 aj;cases jV:j9 bL X X1 (hY bO k) with
   |false=>rw[jV] at h;cases h
   |true=>
   rw[jV] at h;simp only[cond_true] at h;simp only[uz,Bool.and_eq_true] at aJ;obtain⟨⟨⟨aI,mJ⟩,dk⟩,kD⟩:=aJ;have ai:ops[k]?=some o:=by simpa using dg
   have lS:k∈Region.ready .any ops listed:=by simpa using aI
   have iV:X1.cG=[]:=by
    obtain⟨y,bb,_⟩:=ju.1 aj;exact(KD ae bb).1 aq
   have Ir:∀S:ji,S.pre k=X->S.post k=X1->S.obj k=(bif e5 P o.op then addrOf ops.toList o F X else none)->ve P callf N ops S rs base k F X aL X1:=λS az aw ch=>⟨o,ai,aj,λpD j aa=>by
    unfold pJ at yc;rw[pD] at yc;simp only[cond_true,aa] at yc;rw[Nat.blt_eq] at yc
    exact yc,λ_ _ b1 cN=>by rw[az,aw] at cN;exact cN,λpD=>by rw[ch,pD];rfl⟩
   have ann:Kept ops rs base (listed.setIfInBounds k true) X1:=x6.step ae (Ir ⟨λ_=>X,λ_=>X1,λ_=>bif e5 P o.op then addrOf ops.toList o F X else none⟩ rfl rfl rfl);obtain⟨tS,py,DB⟩:=Xq iz ae bJ _ _ aL X1 (by simpa using dV) ann iV kD h;have PL:=Qp bJ _ kD;have Dm:k ∉ bJ:=λuo=>(getD_set_true (PL k uo)).2 rfl
   have bY:∀j,j∈bJ->j≠k:=λj aa e=>Dm (e▸aa)
   let S:ji:=tS.set k X X1 (bif e5 P o.op then addrOf ops.toList o F X else none)
   have eu:∀j,j≠k->S.pre j=tS.pre j/\S.post j=tS.post j/\S.obj j=tS.obj j:=λj aa=>⟨if_neg aa,if_neg aa,if_neg aa⟩
   have px:S.pre k=X/\S.post k=X1/\S.obj k=(bif e5 P o.op then addrOf ops.toList o F X else none):=⟨if_pos rfl,if_pos rfl,if_pos rfl⟩;refine⟨S,?_,?_⟩
   ·have O2:rl P callf N ops S rs base (λaL X1=>ht F' aL/\X1=af) bJ.length (listed.setIfInBounds k true) aL X1:=Xs bJ.length _ _ _ (λj aa=>eu j (getD_set_true aa).2) py;refine aiD iz ae (λF aL X he bd=>⟨bd.1.trans he,bd.2⟩) ai dk ?_ bJ.length listed F aL X X1 ⟨λj aa=>?_,λj aa=>aa⟩ x6 lS aq (Ir S px.1 px.2.1 px.2.2) O2
    ·intro j cb eM kC hU ag aO b1 cN;rw[px.2.2] at cN
     have Pq:j∈bJ:=by
      rcases List.mem_cons.1 (O8 j kC) with e|e
      ·exact absurd e hU
      ·exact e
     obtain⟨az,aw,_⟩:=eu j hU;rw[az,aw];cases pD:e5 P o.op with
     |true=>
      rw[pD] at cN;simp only[cond_true] at cN;refine DB k Dm b1 ?_ j cb Pq eM ag aO;simp only[pD,cond_true,l5];rw[cN]
      have:Nat.beq k k=true:=by simp
      rw[this];rfl
     |false=>rw[pD] at cN;cases cN
    ·have DJ:=(mem_ready.1 lS).1;by_cases hU:j=k
     ·subst hU;rcases Nat.lt_or_ge j listed.size with h'|h'
      ·simp[h'] at DJ aa;rw[DJ] at aa;cases aa
      ·simp[Array.getElem?_eq_none h'] at aa
     ·cases eM:ops[j]? with
      |none=>
       exfalso
       rcases Nat.lt_or_ge j listed.size with h'|h'
       ·rw[dV] at h';rw[Array.getElem?_eq_none_iff] at eM;omega
       ·simp[Array.getElem?_eq_none h'] at aa
      |some cb=>
       rcases agp ai dk eM hU with⟨h1,_⟩|⟨_,h1,_⟩
       ·exact h1
       ·rcases Nat.lt_or_ge j listed.size with h'|h'
        ·simp[h'] at h1 aa;rw[h1] at aa;cases aa
        ·simp[Array.getElem?_eq_none h'] at aa
   ·intro i hi b1 cN j cb aa eM ag aO;have Pn:i≠k:=λe=>hi (by rw[e];exact List.mem_cons_self ..)
    rcases List.mem_cons.1 aa with rfl|aa
    ·rw[px.1,px.2.1];exact MO jV i aO b1 cN
    ·obtain⟨az,aw,_⟩:=eu j (bY j aa);rw[az,aw];refine DB i (λh=>hi (List.mem_cons_of_mem _ h)) b1 ?_ j cb aa eM ag aO;cases e5 P o.op with
     |true=>
      simp only[cond_true,l5]
      have:Nat.beq k i=false:=by
       cases h:Nat.beq k i with
       |false=>rfl
       |true=>exact absurd (Nat.eq_of_beq_eq_true h).symm Pn
      rw[this];exact cN
     |false=>exact cN
theorem VV{callf:bH}(cD:jz P callf){rs:List Nat}{N base k:Nat}{ops:List Oper}{o:Oper}{F F':av J}{X af:ah}(h:ll P callf N ops rs base k o F X=some (F',af))(aA:cC af):cC X:=by
 obtain⟨y,bb,rfl⟩:=ju.1 h;cases aO:hk rs k o.op with
 |true=>obtain⟨ob,rfl,_⟩:=tF aO bb;exact aA
 |false=>
  rw[kn aO] at bb;exact VY (N:=N) cD (lk.2 ⟨y,bb,rfl⟩) aA
theorem Xr{callf:bH}(cD:jz P callf){S:ji}{rs:List Nat}{N base:Nat}{ops:Array Oper}{G:av J->ah->Prop}(iS:∀F X,G F X->cC X):∀(n:Nat) (listed:Array Bool) (F:av J) (X:ah),rl P callf N ops S rs base G n listed F X->cC X
 |0,_,_,_,h=>iS _ _ h.2
 |n+1,listed,F,X,h=>by
  cases aI:Region.ready .any ops listed with
  |nil=>exact iS _ _ (h.1 aI)
  |cons i is=>
   obtain⟨aL,X1,⟨o,_,h1,_⟩,h2⟩:=h.2 i (by rw[aI];exact List.mem_cons_self ..);exact VV cD h1 (Xr cD iS n _ _ _ h2)
def Env.cut(E:Env)(b:Nat):Env:={f:=λk=>if k<b then E k else none,n:=b}
theorem akG{b:Nat}{y:J}{v:Value}(aJ:kj b y=true){m:Nat}(hm:b<=m)(h:Den E y v):Den (E.cut m) y v:=by
 cases y with
 |val x=>exact h
 |int k n=>exact h
 |bool b=>exact h
 |str s=>exact h
 |ptr k off=>
  obtain⟨id,c,ai,rfl⟩:=h
  have:k<b:=by simp only[kj] at aJ;rw[Nat.blt_eq] at aJ;exact aJ
  exact⟨id,c,by show(if k<m then E k else none)=_;rw[if_pos (by omega)];exact ai,rfl⟩
 |aY k off len cap lo=>
  have:k<b:=by simp only[kj] at aJ;rw[Nat.blt_eq] at aJ;exact aJ
  have abH:(E.cut m) k=E k:=if_pos (by omega);cases cap with
  |none=>obtain⟨id,c,⟨ai,ae⟩,rfl⟩:=h;exact⟨id,c,⟨by rw[abH];exact ai,ae⟩,rfl⟩
  |some cap=>obtain⟨id,c,ai,rfl⟩:=h;exact⟨id,c,by rw[abH];exact ai,rfl⟩
 |fn f a b=>simp[kj] at aJ
 |pE t x=>simp[kj] at aJ
 |agg cs=>simp[kj] at aJ
 |bo cs=>simp[kj] at aJ
 |fm k=>simp[kj] at aJ
 |mp k=>simp[kj] at aJ
 |kL k=>simp[kj] at aJ
theorem Yz{b m:Nat}(hm:b<=m):∀{ys:List J} {vs:List Value},pI b ys=true->cc E ys vs->cc (E.cut m) ys vs
 | [],_,_,h=>h
 |y::ys,_,aJ,⟨v,vs,hv,h,e⟩=>by
  simp only[pI,Bool.and_eq_true] at aJ;exact⟨v,vs,akG aJ.1 hm hv,Yz hm aJ.2 h,e⟩
theorem apy{o:Oper}{a:Act}{bz:List J}{X af:ah}{y:J}{base m:Nat}(ay:bK P B aV X E w)(aO:yo o.op=true)(hv:cc E bz (o.op.operands.toList.map a.eval))(nS:pI base bz=true)
 (abC:base<=m)(lR:X.aH<=base)(ab3:m<X.next)(Di:E m=none)(h:dK P o.op bz {X with next:=m}=some (y,af))(aA:cC X):
 ∃id c v w',((execOp a.eval o).run P w= .ok (.value v) w'\/((execOp a.eval o).run P w= .ok .skip w'/\v=undef))/\Den (E.put m id c) y v/\bK P B aV {af with next:=X.next} (E.put m id c) w':=by
 obtain⟨ob,amC,gJ,k7⟩:=ady aO h
 let zH:ah:={X with aS:={iH:= .nil,base:=λ_=>none},next:=m}
 have aI:dK P o.op bz zH=some (y,(zH.new ob).2):=k7 zH rfl
 have ams:bK P w.heap.size w zH (E.cut m) w:=by
  refine⟨rfl,rfl,rfl,Nat.le_refl _,λ_ _=>rfl,λk o ai=>(by cases ai),λk b1 o o' id c a2 ai=>(by cases ai),λk ai=>if_neg (Nat.not_lt.2 ai),λg bd=>?_,Nat.le_refl _⟩;obtain⟨c,ae⟩:=ay.m7 g bd
  have:g<X.aH:=bd
  exact⟨c,by show(if g<m then E g else none)=_;rw[if_pos (by omega)];exact ae⟩
 obtain⟨aP,v,w',hle,fp,aF,et⟩:=VN ams (Yz abC nS hv) (show cC (zH.new ob).2 from aA) aI
 have s4:(zH.new ob).2.aS.get m=some ob:=by
  show(cz.put _ m ob).get m=some ob;rw[cz.kA,if_pos rfl]
 obtain⟨id,c,s6,fj,rH⟩:=et.obj m ob s4
 have jZ:Sub aP (E.put m id c):=λk x ao=>by
  rcases Nat.lt_trichotomy k m with ai|ai|ai
  ·rw[Env.qY E id c (by omega), <- show E.cut m k=E k from if_pos ai, <- hle.2.2 k ai];exact ao
  ·subst ai;rw[Env.lU, <- s6];exact ao
  ·rw[et.fresh k ai] at ao;cases ao
 have PH:Sub E (E.put m id c):=Env.V3 Di
 have yb:∀k o',X.aS.get k=some o'->∀i a2,E k=some (i,a2)->i<w.heap.size:=by
  intro k o' ai i a2 he;obtain⟨i',a3,fu,PD,_⟩:=ay.obj k o' ai;obtain⟨_,nU⟩:=PD.there;rw[he] at fu;cases fu;rcases Nat.lt_or_ge i w.heap.size with h1|h1
  ·exact h1
  ·rw[Array.getElem?_eq_none h1] at nU;cases nU
 have am8:=rH (.inl gJ);subst amC
 refine⟨id,c,v,w',fp,aF.sub jZ,et.os.trans ay.os,et.tape.trans ay.tape,et.output.trans ay.output,Nat.le_trans ay.base et.base,λk ai=>(et.hN k (Nat.lt_of_lt_of_le ai ay.base)).trans (ay.hN k ai),λk o' ai=>?_,
  λk b1 dH dn i aQ a3 ai cN he fu=>?_,λk ai=>?_,λg bd=>let ⟨a2,fi⟩:=ay.m7 g bd;⟨a2,PH _ _ fi⟩,ay.j3⟩
 ·rcases cz.ix ai with⟨e,aw⟩|⟨e,aq⟩
  ·subst aw;rw[e];exact⟨id,c,Env.lU _ _ _ _,fj.sub jZ,λ_=>Nat.le_trans ay.base am8⟩
  ·obtain⟨i,a2,he,DA,ag⟩:=ay.obj k o' aq;exact⟨i,a2,PH _ _ he,by rw[et.hN i (yb k o' aq i a2 he)];exact DA.sub PH,ag⟩
 ·rcases cz.ix ai with⟨e,_⟩|⟨e,aq⟩<;>rcases cz.ix cN with⟨bh,_⟩|⟨bh,fS⟩
  ·have az:k=m:=e;have aw:b1=m:=bh;rw[az,aw]
  ·have az:k=m:=e;rw[az,Env.lU] at he;cases he;have aw:b1≠m:=bh;rw[Env.qY E id c aw] at fu
   have:=yb b1 dn fS _ _ fu
   omega
  ·have az:b1=m:=bh;rw[az,Env.lU] at fu;cases fu;have aw:k≠m:=e;rw[Env.qY E id c aw] at he
   have:=yb k dH aq _ _ he
   omega
  ·have az:k≠m:=e;have aw:b1≠m:=bh;rw[Env.qY E id c az] at he;rw[Env.qY E id c aw] at fu;exact ay.inj k b1 dH dn i aQ a3 aq fS he fu
 ·have Ar:X.next<=k:=ai
  rw[Env.qY E id c (by omega)];exact ay.fresh k Ar
theorem ago{callf:bH}(ae:fA callf){rs:List Nat}{base k:Nat}{ops:List Oper}{o:Oper}{F:av J}{X af:ah}{y:J}(h:mm P callf ops rs base k o F X=some (y,af)):X.next<=af.next:=by
 cases aO:hk rs k o.op with
 |true=>obtain⟨ob,rfl,_⟩:=tF aO h;exact Nat.le_refl _
 |false=>
  rw[kn aO] at h;exact(uM ae h).next
theorem Wf{callf:bH}(ae:fA callf)(cD:jz P callf){S:ji}{rs:List Nat}{N base:Nat}{ops:Array Oper}(jY:∀o∈ops,pK o.op=true){G:av J->ah->Prop}(iS:∀F X,G F X->cC X)(ro:Option Nat)
 {Q:Exit->Act->World->Prop}:∀(n:Nat) (listed:Array Bool) (F:av J) (X:ah) (E:Env) (a:Act) (w:World),rl P callf N ops S rs base G n listed F X->bK P B aV X E w->e3 bg N E F a->X.cG=[]->
   (∀i o,listed.getD i true=false->ops[i]?=some o->hk rs i o.op=true->E (base+i)=none)->E.n=base+ops.size->base+ops.size<=X.next->X.aH<=base->
   (∀aL X1 aP a' w',G aL X1->Sub E aP->(∀k,k<base->aP k=E k)->aP.n=E.n->e3 bg N aP aL a'->bK P B aV X1 aP w'->Q .normal a' w')->wpAnyIn (fx ro) 0 P .any ops Q n listed a w
 |0,_,F,X,E,a,w,h,ay,aR,_,_,_,_,_,cx=>⟨h.1,cx F X E a w h.2 (Sub.refl _) (λ_ _=>rfl) rfl aR ay⟩
 |n+1,listed,F,X,E,a,w,h,ay,aR,acb,Ay,HY,aby,lR,cx=>by
  refine⟨λaI=>cx F X E a w (h.1 aI) (Sub.refl _) (λ_ _=>rfl) rfl aR ay,λi hi=>?_⟩;obtain⟨aL,X1,⟨o,aq,h1,_⟩,h2⟩:=h.2 i hi;have uo:=Array.mem_of_getElem? aq;have anc:=(Array.getElem?_eq_some_iff.1 aq).1;have DI:=(mem_ready.1 hi).1;obtain⟨y,bb,rfl⟩:=ju.1 h1;have ta:=Xr cD iS n _ _ _ h2;have ab5:=ago ae bb;obtain⟨gh,aG⟩:=KD ae bb;unfold wpOpIn;simp only[aq];cases aO:hk rs i o.op with
  |false=>
   rw[kn aO] at bb;refine agw (N:=N) cD ay aR (jY o uo) (lk.2 ⟨y,bb,rfl⟩) ta ro (λaP a' w' an aD a7=>?_);refine Wf ae cD jY iS ro n _ _ X1 aP a' w' h2 a7 aD (gh acb) (λj cb aa eM nT=>?_) (an.1.trans HY) (Nat.le_trans aby ab5) (by rw[aG];exact lR) (λbF cU nt tV uO bR b2 gW ky=>cx bF cU nt tV uO bR (an.sub.trans b2) (λk ai=>(gW k ai).trans (an.2.2 k (by omega))) (ky.trans an.1));have Ap:=(Array.getElem?_eq_some_iff.1 eM).1;rw[an.2.2 (base+j) (by omega)];exact Ay j cb (getD_set_true aa).1 eM nT
  |true=>
   have fe:=bb;unfold mm at fe;simp only[aO,cond_true] at fe;split at fe<;>try(cases fe;done)
   rename_i am6;split at fe<;>try(cases fe;done)
   rename_i bz aJ;cases nS:pI base bz with
   |false=>simp[nS] at fe
   |true=>
   simp only[nS,cond_true] at fe;split at fe<;>try(cases fe;done)
   rename_i tI cU aj;cases fe;have anI:cC X:=VV cD h1 ta;obtain⟨id,c,v,w',fp,aF,OU⟩:=apy (a:=a) ay (yM aO) (D2 ay aR aJ) nS (by omega) lR (by omega) (Ay i o DI aq aO) aj anI;have Di:=Ay i o DI aq aO;have jZ:Sub E (E.put (base+i) id c):=Env.V3 Di;have OZ:e3 bg N (E.put (base+i) id c) F a:=⟨aR.1,aR.2.1,λj z aa=>let ⟨l,u,g1,g2⟩:=aR.2.2 j z aa;⟨l,u,g1,g2.sub jZ⟩⟩
   have m8:wpAnyIn (fx ro) 0 P .any ops Q n (listed.setIfInBounds i true) (a.put o.dst v) w':=by
    refine Wf ae cD jY iS ro n _ _ _ _ _ w' h2 OU (OZ.put aF) (gh acb) (λj cb aa eM nT=>?_) HY (Nat.le_trans aby ab5) (by rw[aG];exact lR) (λbF cU nt tV uO bR b2 gW ky=>cx bF cU nt tV uO bR (jZ.trans b2) (λk ai=>(gW k ai).trans (Env.qY E id c (by omega))) ky);obtain⟨g1,g2⟩:=getD_set_true aa;rw[Env.qY E id c (by omega)];exact Ay j cb g1 eM nT
   have hw:Region.wanted o (yielded ops a.tmps)=true:=by simp[Region.wanted,am6]
   rw[if_pos hw];refine⟨λ_ _=>trivial,?_⟩
   have DE:o.semAt (fx ro).round a.eval=execOp a.eval o:=by
    cases ro with
    |none=>rfl
    |some l=>exact Oper.semAt_some l _ o (λc ae=>by have fv:=yM aO;rw[ae] at fv;cases fv)
   rw[DE];rcases fp with h|⟨h,e⟩
   ·rw[h];exact m8
   ·rw[h];subst e;exact m8
structure zx (b:Nat) (X af:ah):Prop where
 cG:X.cG=[]->af.cG=[]
 aH:af.aH=X.aH
 ck:∀k o o',k<b->X.aS.get k=some o->af.aS.get k=some o'->o.ck<=o'.ck/\(o'.ck=o.ck->o'=o)
 dead:∀k,k<b->X.aS.get k=none->af.aS.get k=none
 pc:cC af->cC X
theorem zx.trans{b:Nat}{X Y Z:ah}(h:zx b X Y)(h':zx b Y Z):zx b X Z:=by
 refine⟨λaq=>h'.cG (h.cG aq),h'.aH.trans h.aH,λk o o' ai aq fS=>?_,λk ai aF=>h'.dead k ai (h.dead k ai aF),λp=>h.pc (h'.pc p)⟩;cases bb:Y.aS.get k with
 |none=>have:=h'.dead k ai bb;rw[fS] at this;cases this
 |some oy=>
  obtain⟨an,aD⟩:=h.ck k o oy ai aq bb;obtain⟨bR,b2⟩:=h'.ck k oy o' ai bb fS;exact⟨Nat.le_trans an bR,λe=>by rw[b2 (by omega),aD (by omega)]⟩
theorem agn{callf:bH}(ae:fA callf){rs:List Nat}{base k:Nat}{ops:List Oper}{o:Oper}{F:av J}{X af:ah}{y:J}(ag:base<=X.next)(h:mm P callf ops rs base k o F X=some (y,af)):zx base X af/\base<=af.next:=by
 cases aO:hk rs k o.op with
 |true=>
  obtain⟨ob,rfl,_⟩:=tF aO h;refine⟨⟨λh=>h,rfl,λj a b aa h h'=>?_,λj aa h=>?_,λh=>h⟩,ag⟩
  ·rcases cz.ix h' with⟨e,_⟩|⟨_,h2⟩
   ·omega
   ·rw[h] at h2;cases h2;exact⟨Nat.le_refl _,λ_=>rfl⟩
  ·show(X.aS.put (base+k) ob).get j=none;cases h':(X.aS.put (base+k) ob).get j with
   |none=>rfl
   |some b=>
    rcases cz.ix h' with⟨e,_⟩|⟨_,h2⟩
    ·omega
    ·rw[h] at h2;cases h2
 |false=>
  rw[kn aO] at h;have k:=uM ae h;exact⟨⟨k.cG,k.aH,λj a b aa=>k.ck j a b (by omega),λj aa=>k.dead j (by omega),k.pc⟩,Nat.le_trans ag k.next⟩
theorem Y2{callf:bH}(ae:fA callf){rs:List Nat}{bO:List (Nat×List Nat)}{N base:Nat}{ops:List Oper}:∀{bJ:List Nat} {bL:List (Nat×Option Nat)} {F F':av J} {X af:ah},base<=X.next->iO P callf N ops rs bO base bJ bL F X=some (F',af)->zx base X af/\base<=af.next
 | [],_,_,_,_,_,ag,h=>by
   simp only[iO,Option.some.injEq,Prod.mk.injEq] at h;obtain⟨rfl,rfl⟩:=h;exact⟨⟨λh=>h,rfl,λk o o' _ h h'=>(by rw[h] at h';cases h';exact⟨Nat.le_refl _,λ_=>rfl⟩),λ_ _ h=>h,λh=>h⟩,ag⟩
 |k::bJ,bL,F,F',X,af,ag,h=>by
  simp only[iO] at h;split at h<;>try(cases h;done)
  rename_i o _;generalize pJ P ops base o F X=b at h;cases b with
  |false=>cases h
  |true=>
   simp only[cond_true] at h;split at h<;>try(cases h;done)
   rename_i aL X1 aj;generalize j9 bL X X1 (hY bO k)=b at h;cases b with
   |false=>cases h
   |true=>
   simp only[cond_true] at h;obtain⟨y,bb,_⟩:=ju.1 aj;obtain⟨k1,k2⟩:=agn ae ag bb;obtain⟨gN,oL⟩:=Y2 ae k2 h;exact⟨k1.trans gN,oL⟩
theorem Y4{callf:bH}(cD:jz P callf){rs:List Nat}{bO:List (Nat×List Nat)}{N base:Nat}{ops:List Oper}:∀{bJ:List Nat} {bL:List (Nat×Option Nat)} {F F':av J} {X af:ah},iO P callf N ops rs bO base bJ bL F X=some (F',af)->cC af->cC X
 | [],_,_,_,_,_,h,aA=>by simp only[iO,Option.some.injEq,Prod.mk.injEq] at h;obtain⟨rfl,rfl⟩:=h;exact aA
 |k::bJ,bL,F,F',X,af,h,aA=>by
  simp only[iO] at h;split at h<;>try(cases h;done)
  rename_i o _;generalize pJ P ops base o F X=b at h;cases b with
  |false=>cases h
  |true=>
   simp only[cond_true] at h;split at h<;>try(cases h;done)
   rename_i aL X1 aj;generalize j9 bL X X1 (hY bO k)=b at h;cases b with
   |false=>cases h
   |true=>
   simp only[cond_true] at h;exact VV cD aj (Y4 cD h aA)
end
section
variable{P:Program}{B:Nat}{aV w:World}{E:Env}{bg:List Deferred}{X:ah}
theorem bK.gQ(h:bK P B aV X E w)(l:List eK):bK P B aV {X with bs:=l} E w:=h.same rfl rfl rfl
theorem agt{callf:bH}(cD:jz P callf)(ae:fA callf){N:Nat}{F F':av J}{a:Act}{ops:Array Oper}{o:Oper}{af:ah}{r:Option gB}(ay:bK P B aV X E w)(aR:e3 bg N E F a)(cY:jO E X.bs bg)
 (jY:A4 o.op=true)(ro:Option Nat)(amW:nZ o.op=true->ro=none)(h:ko P callf N ops.toList o F X=some (r,F',af))(aA:cC af){K:Act->World->Prop}{Q:Exit->Act->World->Prop}
 (m8:r=none->∀aP dG a' w',cJ E aP->e3 dG N aP F' a'->jO aP af.bs dG->bK P B aV af aP w'->K a' w')
 (cx:∀bj,r=some bj->∀aP dG a' w' l,cJ E aP->e3 dG N aP F' a'->jO aP af.bs dG->bK P B aV af aP w'->ly aP bj l->Q (.panic l) a' w'):
 if Region.wanted o (yielded ops a.tmps) then o.wpIn (fx ro) 0 P a w K Q
 else(∀f,o.about P w a.eval=some f->(fx ro).fn f)/\K (a.put o.dst undef) w:=by
 unfold ko at h;split at h
 ·rename_i X1 hw;obtain⟨h1,h2,h3,aU⟩:=KZ aR hw;have s3:X1.bs=X.bs:=(wM hw).bs;cases aF:nZ o.op with
  |true=>
   rw[aF] at h;simp only[cond_true] at h;split at h<;>try(cases h;done)
   rename_i d mH;cases h;rw[(h1 aA).2,if_pos rfl];refine⟨λ_ _=>trivial,?_⟩;have gJ:=amW aF;subst gJ;unfold GU at mH;split at mH<;>try(cases mH;done)
   rename_i c pB;split at mH<;>try(cases mH;done)
   rename_i alP f b5 qg args hI aJ;cases mH;have jX:o.op.operands.toList=alP::c.args.toList:=by rw[pB];simp[Op.operands,Call.operands,hI]
   rw[jX] at aJ;obtain⟨u,us,⟨sg,sh,DO,DP,hu⟩,ym,e⟩:=D2 (ay.same h2 h3 aU) aR aJ;simp only[List.map_cons,List.cons.injEq] at e;obtain⟨az,aw⟩:=e;have vO:Array.map a.eval c.args=us.toArray:=by rw[<- aw, <- Array.toList_inj];simp
   have fp:(o.semAt (fx none).round a.eval).run P w= .ok (.defer {target:= .fn (.func f) sh.toArray,args:=(sg++us).toArray}) w:=by
    have:o.semAt (fx none).round a.eval=execOp a.eval o:=rfl
    rw[this];simp[execOp,pB,resolve,hI,az,hu,Deferred.ofValue,vO]
   rw[fp,Oper.uponIn_defer];refine m8 rfl E ({target:= .fn (.func f) sh.toArray,args:=(sg++us).toArray}::bg) _ w (cJ.refl _) ?_ ?_ ((ay.same h2 h3 aU).gQ _)
   ·have OZ:e3 ({target:= .fn (.func f) sh.toArray,args:=(sg++us).toArray}::bg) N E F {a with defers:={target:= .fn (.func f) sh.toArray,args:=(sg++us).toArray}::a.defers}:=⟨by simp[aR.1],aR.2⟩;exact OZ.put rfl
   ·refine⟨_,bg,⟨sg++us,sh,DO.append ym,DP,rfl⟩,?_,rfl⟩;show jO E X1.bs bg;rw[s3];exact cY
  |false=>
   rw[aF] at h;simp only[cond_false] at h
   have s9:pK o.op=true:=by
    cases aq:o.op<;>first|rfl|(rw[aq] at jY;simp[A4] at jY;done)|(rw[aq] at aF;simp[nZ] at aF)
   split at h
   ·rename_i y cU aq;cases h;have iX:=Ct cD aq aA;rw[(h1 iX).2,if_pos rfl];have oE:af.bs=X.bs:=((G0 ae aq).bs).trans s3
    exact QN cD (ay.same h2 h3 aU) aR s9 aq aA ro (λz a1 aP v w' an aD a7=>by
     cases a1
     exact m8 rfl aP bg _ w' an ((aR.mono an).put aD) (by rw[oE];exact cY.sub an.sub) a7) (λbj a1=>by cases a1)
   ·rename_i bj cU aq;cases h;have iX:=Ct cD aq aA;rw[(h1 iX).2,if_pos rfl];have oE:af.bs=X.bs:=((G0 ae aq).bs).trans s3
    exact QN cD (ay.same h2 h3 aU) aR s9 aq aA ro (λz a1=>by cases a1) (λX7 a1 aP l w' an aD a7=>by
     cases a1
     exact cx _ rfl aP bg a w' l an (aR.mono an) (by rw[oE];exact cY.sub an.sub) a7 aD)
   ·cases h
 ·rename_i X1 hw;cases h;obtain⟨h1,h2,h3,aU⟩:=KZ aR hw;rw[(h1 aA).2,if_neg (by simp)];have s3:af.bs=X.bs:=(wM hw).bs;exact⟨λ_ _=>trivial,m8 rfl E bg _ w (cJ.refl _) (aR.put rfl) (by rw[s3];exact cY) (ay.same h2 h3 aU)⟩
 ·cases h
theorem ags{callf:bH}(cD:jz P callf){N:Nat}{ops:List Oper}{o:Oper}{F F':av J}{af:ah}{r:Option gB}(h:ko P callf N ops o F X=some (r,F',af))(aA:cC af):cC X:=by
 unfold ko at h;split at h
 ·rename_i X1 hw;cases aF:nZ o.op with
  |true=>
   rw[aF] at h;simp only[cond_true] at h;split at h<;>cases h
   exact BE hw aA
  |false=>
   rw[aF] at h;simp only[cond_false] at h;split at h
   ·rename_i aq;cases h;exact BE hw (Ct cD aq aA)
   ·rename_i aq;cases h;exact BE hw (Ct cD aq aA)
   ·cases h
 ·rename_i hw;cases h;exact BE hw aA
 ·cases h
theorem G1{callf:bH}(cD:jz P callf){N:Nat}{ops:List Oper}:∀{l:List Oper} {F F':av J} {X af:ah} {r:Option gB},kb P callf N ops l F X=some (r,F',af)->cC af->cC X
 | [],_,_,_,_,_,h,aA=>by cases h;exact aA
 |o::l,F,F',X,af,r,h,aA=>by
  simp only[kb] at h;split at h
  ·rename_i aL X1 aj;exact ags cD aj (G1 cD h aA)
  ·exact ags cD h aA
theorem Nm{callf:bH}(cD:jz P callf)(ae:fA callf){N:Nat}{ops:Array Oper}(ro:Option Nat){Q:Exit->Act->World->Prop}{F':av J}{af:ah}{r:Option gB}(aA:cC af):
 ∀(l:List Oper) (F:av J) (X:ah) (E:Env) (bg:List Deferred) (a:Act) (w:World),(∀o∈l,A4 o.op=true/\(nZ o.op=true->ro=none))->bK P B aV X E w->e3 bg N E F a->jO E X.bs bg->kb P callf N ops.toList l F X=some (r,F',af)->
  (r=none->∀aP dG a' w',cJ E aP->e3 dG N aP F' a'->jO aP af.bs dG->bK P B aV af aP w'->Q .normal a' w')->
  (∀bj,r=some bj->∀aP dG a' w' p,cJ E aP->e3 dG N aP F' a'->jO aP af.bs dG->bK P B aV af aP w'->ly aP bj p->Q (.panic p) a' w')->wpListIn (fx ro) 0 P ops Q l a w
 | [],F,X,E,bg,a,w,_,ay,aR,cY,h,cx,_=>by cases h;exact cx rfl E bg a w (cJ.refl _) aR cY ay
 |o::l,F,X,E,bg,a,w,aj,ay,aR,cY,h,cx,dC=>by
  simp only[kb] at h;obtain⟨s1,s2⟩:=aj o (List.mem_cons_self ..);unfold wpListIn;split at h
  ·rename_i aL X1 dk
   exact agt cD ae ay aR cY s1 ro s2 dk (G1 cD h aA)
    (λ_ aP dG a' w' h1 h2 h3 aU=>Nm cD ae ro aA l aL X1 aP dG a' w' (λo' fS=>aj o' (List.mem_cons_of_mem _ fS)) aU h2 h3 h
      (λaI nt M0 tV uO k1=>cx aI nt M0 tV uO (h1.trans k1)) (λbj aI nt M0 tV uO p k1=>dC bj aI nt M0 tV uO p (h1.trans k1)))
    (λbj aI=>by cases aI)
  ·rename_i bY;refine agt cD ae ay aR cY s1 ro s2 h aA (λaI=>?_) dC;subst aI;exact absurd h (bY F' af)
def tD(F:Fence)(m:Nat)(P:Program)(c:Code)(Q:Exit->Act->World->Prop):Nat->Exit->Act->World->Prop
 |n,.goto l,a,w=>match findLabel c l with
  |none=>Q (.goto l) a w
  |some rest=>match n with
   |0=>False
   |n+1=>rest.wpIn F m P (tD F m P c Q n) a w
 |_,e,a,w=>Q e a w
theorem az5{b:Frame}{a:Act}{c:Code}{k:List Item}{cs:List Frame}:step P (lone (b.atR a (.code (.scope c)::k)) cs w)= .next (lone (b.atR a (.code c:: .inScope c::k)) cs w):=
 step_lone_go (by simp[stepG,stepG.exec,Frame.atR])
theorem agu{b:Frame}{a:Act}{c:Code}{k:List Item}{cs:List Frame}:step P (lone (b.atR a (.inScope c::k)) cs w)= .next (lone (b.atR a k) cs w):=
 step_lone_go (by simp[stepG,stepG.exec,Frame.atR])
theorem azz{F:Fence}{m:Nat}{c:Code}{Q:Exit->Act->World->Prop}:∀(n:Nat) (x:Code) (a:Act) (w:World),x.wpIn F m P (tD F m P c Q n) a w->∀(b:Frame) (k:List Item) (cs:List Frame),b.roundOf=F.round->F.fn b.fn->F.room (cs.length+1+m)->
 ∃e a' w',Q e a' w'/\ArrivesIn (Machine.fenced P F) P (lone (b.atR a (.code x:: .inScope c::k)) cs w) b k cs e a' w':=by
 intro n
 induction n with
 |zero=>
  intro x a w h b k cs gJ ag aI;obtain⟨e,oh,o1,aZ,k4⟩:=h b (.inScope c::k) cs gJ ag aI;cases e with
  |normal=>exact⟨.normal,oh,o1,aZ,StepsIn.trans k4 (.one (fenced_calm ag aI rfl) agu)⟩
  |exit id=>exact⟨.exit id,oh,o1,aZ,λb1 ai=>k4.1 b1 (by simp[exitTo,ai]),λlS ai=>k4.2 lS (by simp[exitTo,ai])⟩
  |goto l=>
   simp only[tD] at aZ;split at aZ
   ·rename_i ak;have ao:gotoIn l (.inScope c::k)=gotoIn l k:=by simp[gotoIn,ak]
    exact⟨.goto l,oh,o1,aZ,λb1 ai=>k4.1 b1 (by rw[ao];exact ai),λlS ai=>k4.2 lS (by rw[ao];exact ai)⟩
   ·exact aZ.elim
  |ret=>exact⟨_,oh,o1,aZ,k4⟩
  |panic bj=>exact⟨_,oh,o1,aZ,k4⟩
  |outgrown=>exact⟨_,oh,o1,aZ,k4⟩
 |succ n ba=>
  intro x a w h b k cs gJ ag aI;obtain⟨e,oh,o1,aZ,k4⟩:=h b (.inScope c::k) cs gJ ag aI;cases e with
  |normal=>exact⟨.normal,oh,o1,aZ,StepsIn.trans k4 (.one (fenced_calm ag aI rfl) agu)⟩
  |exit id=>exact⟨.exit id,oh,o1,aZ,λb1 ai=>k4.1 b1 (by simp[exitTo,ai]),λlS ai=>k4.2 lS (by simp[exitTo,ai])⟩
  |goto l=>
   simp only[tD] at aZ;split at aZ
   ·rename_i ak;have ao:gotoIn l (.inScope c::k)=gotoIn l k:=by simp[gotoIn,ak]
    exact⟨.goto l,oh,o1,aZ,λb1 ai=>k4.1 b1 (by rw[ao];exact ai),λlS ai=>k4.2 lS (by rw[ao];exact ai)⟩
   ·rename_i rest ak;have ao:gotoIn l (.inScope c::k)=some (.code rest:: .inScope c::k):=by simp[gotoIn,ak]
    obtain⟨alm,ai1,aBY,anN,amF⟩:=ba rest oh o1 aZ b k cs gJ ag aI;exact⟨alm,ai1,aBY,anN,.of_steps (k4.1 _ ao) amF⟩
  |ret=>exact⟨_,oh,o1,aZ,k4⟩
  |panic bj=>exact⟨_,oh,o1,aZ,k4⟩
  |outgrown=>exact⟨_,oh,o1,aZ,k4⟩
theorem Wg{F:Fence}{m n:Nat}{c:Code}{Q:Exit->Act->World->Prop}{a:Act}(h:c.wpIn F m P (tD F m P c Q n) a w):(Code.scope c).wpIn F m P Q a w:=λb k cs gJ ag aI=>by
 obtain⟨e,a',w',aZ,k4⟩:=azz n c a w h b k cs gJ ag aI;exact⟨e,a',w',aZ,.of_steps (.one (fenced_calm ag aI rfl) az5) k4⟩
theorem GM{ord:Nat->Hint}{rd:Bool}:∀(c:Code) (l:Nat) (rest:Code),fZ P ord rd c=true->findLabel c l=some rest->fZ P ord rd rest=true
 | .seq a b,l,rest,h,ak=>by
   simp only[fZ,Bool.and_eq_true] at h;simp only[findLabel] at ak;split at ak
   ·rename_i r aI;cases ak;simp only[fZ,Bool.and_eq_true];exact⟨GM a l r h.1 aI,h.2⟩
   ·exact GM b l rest h.2 ak
 | .label dw,l,rest,_,ak=>by
   simp only[findLabel] at ak;split at ak<;>cases ak
   rfl
 | .skip,_,_,_,ak=>by simp[findLabel] at ak
 | .region _ _ _,_,_,_,ak=>by simp[findLabel] at ak
 | .cond _ _ _,_,_,_,ak=>by simp[findLabel] at ak
 | .block _ _,_,_,_,ak=>by simp[findLabel] at ak
 | .loop _,_,_,_,ak=>by simp[findLabel] at ak
 | .rangeFunc _ _ _ _,_,_,_,ak=>by simp[findLabel] at ak
 | .exit _,_,_,_,ak=>by simp[findLabel] at ak
 | .scope _,_,_,_,ak=>by simp[findLabel] at ak
 | .goto _,_,_,_,ak=>by simp[findLabel] at ak
 | .ret,_,_,_,ak=>by simp[findLabel] at ak
 | .refuse _,_,_,_,ak=>by simp[findLabel] at ak
end
section
variable{P:Program}{B:Nat}{aV w:World}{E:Env}{bg:List Deferred}
def LB(E:Env):hd->Exit->Prop
 | .cu,e=>e= .normal
 | .ex id,e=>e= .exit id
 | .ret,e=>e= .ret
 | .gt l,e=>e= .goto l
 | .cy bj,e=>∃p,ly E bj p/\e= .panic p
def xb(E:Env):Option Nat->Option Nat->Prop
 |none,ro=>ro=none
 |some k,ro=>∃l c,E k=some (l,c)/\ro=some l
theorem xb.sub{E aP:Env}(ay:Sub E aP){rd ro:Option Nat}(h:xb E rd ro):xb aP rd ro:=by
 cases rd with
 |none=>exact h
 |some k=>obtain⟨l,c,h1,h2⟩:=h;exact⟨l,c,ay _ _ h1,h2⟩
def tR(P:Program)(B:Nat)(aV:World)(N:Nat)(E:Env)(ex:hd)(F':av J)(af:ah)(Q:Exit->Act->World->Prop):Prop:=
 ∀aP dG a' w' e,cJ E aP->e3 dG N aP F' a'->jO aP af.bs dG->bK P B aV af aP w'->LB aP ex e->Q e a' w'
theorem tR.le{N:Nat}{E fz:Env}{ex:hd}{F':av J}{af:ah}{Q:Exit->Act->World->Prop}(h:tR P B aV N E ex F' af Q)(hle:cJ E fz):tR P B aV N fz ex F' af Q:=
 λaP dG a' w' e h1=>h aP dG a' w' e (hle.trans h1)
theorem tR.mono{N:Nat}{E:Env}{ex:hd}{F':av J}{af:ah}{Q W6:Exit->Act->World->Prop}(h:tR P B aV N E ex F' af Q)(aZ:∀aP e a w,LB aP ex e->Q e a w->W6 e a w):tR P B aV N E ex F' af W6:=
 λaP dG a' w' e h1 h2 h3 aU bA=>aZ aP e a' w' bA (h aP dG a' w' e h1 h2 h3 aU bA)
def u4(P:Program)(rd:Option Nat)(N:Nat)(c:Code)(F:av J)(X:ah)(ex:hd)(F':av J)(af:ah):Prop:=
 cC X/\∀(ro:Option Nat) B aV E bg a w (Q:Exit->Act->World->Prop),bK P B aV X E w->e3 bg N E F a->jO E X.bs bg->xb E rd ro->tR P B aV N E ex F' af Q->c.wpIn (fx ro) 0 P Q a w
theorem bK.QF{X:ah}(h:bK P B aV X E w)(l:List Bool):bK P B aV {X with cG:=l} E w:=h.same rfl rfl rfl
theorem adg{rd:Option Nat}{N:Nat}{c:Code}{body:av J->ah->R}(gd:∀F X ex F' af,body F X=some (ex,F',af)->cC af->u4 P rd N c F X ex F' af):∀(fuel:Nat) (F:av J) (X:ah) (ex:hd) (F':av J) (af:ah),
 iF body fuel F X=some (ex,F',af)->cC af->cC X/\∀(ro:Option Nat) B aV E bg a w (Q:Exit->Act->World->Prop),bK P B aV X E w->e3 bg N E F a->jO E X.bs bg->xb E rd ro->
  tR P B aV N E ex F' af Q->Code.roundsIn (fx ro) 0 P c Q fuel a w
 |0,F,X,ex,F',af,h,_=>by simp[iF] at h
 |fuel+1,F,X,ex,F',af,h,aA=>by
  have h':(match body F X with|some (.cu,F,X)=>iF body fuel F X|r=>r)=some (ex,F',af):=h;split at h'
  ·rename_i aL X1 ag;obtain⟨bQ,k1⟩:=adg gd fuel aL X1 ex F' af h' aA;obtain⟨cn,k2⟩:=gd F X .cu aL X1 ag bQ;refine⟨cn,λro B aV E bg a w Q ay aR cY dC cx=>?_⟩;rw[roundsIn_succ];refine k2 ro B aV E bg a w _ ay aR cY dC (λaP dG a' w' e an aD a7 cw dO=>?_);cases dO;exact k1 ro B aV aP dG a' w' Q cw aD a7 (dC.sub an.sub) (cx.le an)
  ·rename_i r bY;obtain⟨cn,k2⟩:=gd F X ex F' af h' aA;refine⟨cn,λro B aV E bg a w Q ay aR cY dC cx=>?_⟩;rw[roundsIn_succ];refine k2 ro B aV E bg a w _ ay aR cY dC (cx.mono λaP e a w he aZ=>?_);cases ex with
   |cu=>exact absurd h' (bY F' af)
   |ex id=>cases he;exact aZ
   |ret=>cases he;exact aZ
   |gt l=>cases he;exact aZ
   |cy bj=>obtain⟨p,_,rfl⟩:=he;exact aZ
theorem afz(callf:bH)(cD:jz P callf)(ae:fA callf)(hm:P.follows .mixedOrders=true){rd:Option Nat}{N:Nat}{id:Nat}{ops:Array Oper}{F F':av J}{X af:ah}{is:List Nat}{bO:List (Nat×List Nat)}(dg:GV P bO ops is=true)
 (h:iv P callf N ops.toList bO is [] F {X with cG:=[]}=some (F',af))(ta:cC af):u4 P rd N (.region id ops true) F X .cu F' {af with cG:=X.cG}:=by
 simp only[GV,Bool.and_eq_true,Array.all_eq_true_iff_forall_mem] at dg;obtain⟨⟨jY,hlen⟩,Pt⟩:=dg;have At:=Nat.eq_of_beq_eq_true hlen;have Pc:af.bs=X.bs:=(MW ae h).bs;refine⟨λp pC=>Yu cD h ta p pC,λro B aV E bg a w Q ay aR cY dC cx=>?_⟩;refine wpIn_region_any hm ?_;obtain⟨S,py,_⟩:=Xm ae is [] (Array.replicate ops.size false) F {X with cG:=[]} (by simp) rfl Pt h;rw[At] at py;refine ag3 cD jY (λaL X1 bd=>by rw[bd.2];exact ta) ro ops.size _ F _ E a _ py (ay.QF []).drew aR ?_
 rintro aL X1 aP a' w' ⟨he,rfl⟩ hle C4 et
 exact cx aP bg a' w' .normal hle (C4.eqv he.symm) (by show jO aP X1.bs bg;rw[Pc];exact cY.sub hle.sub) (et.QF _) rfl
theorem Xh{X:ah}{base:Nat}:∀{rs:List Nat},ny X base rs=true->∀{j:Nat},mE rs j=true->X.aS.get (base+j)=none
 | [],_,j,aa=>by simp[mE] at aa
 |k::bJ,h,j,aa=>by
  simp only[ny,Bool.and_eq_true] at h;simp only[mE,Bool.or_eq_true] at aa;rcases aa with aa|aa
  ·have e:=Nat.eq_of_beq_eq_true aa;subst e
   have:=h.1
   cases bd:X.aS.get (base+k) with
   |none=>rfl
   |some o=>rw[bd] at this;cases this
  ·exact Xh h.2 aa
theorem Y0{callf:bH}(ae:fA callf){rs:List Nat}{bO:List (Nat×List Nat)}{N base:Nat}{ops:List Oper}:∀{bJ:List Nat} {bL:List (Nat×Option Nat)} {F F':av J} {X af:ah},iO P callf N ops rs bO base bJ bL F X=some (F',af)->af.bs=X.bs
 | [],_,_,_,_,_,h=>by simp only[iO,Option.some.injEq,Prod.mk.injEq] at h;obtain⟨rfl,rfl⟩:=h;rfl
 |k::bJ,bL,F,F',X,af,h=>by
  simp only[iO] at h;split at h<;>try(cases h;done)
  rename_i o _;generalize pJ P ops base o F X=b at h;cases b with
  |false=>cases h
  |true=>
   simp only[cond_true] at h;split at h<;>try(cases h;done)
   rename_i aL X1 aj;generalize j9 bL X X1 (hY bO k)=b at h;cases b with
   |false=>cases h
   |true=>
   simp only[cond_true] at h;refine(Y0 ae h).trans ?_;obtain⟨y,bb,_⟩:=ju.1 aj;cases aO:hk rs k o.op with
   |true=>obtain⟨ob,rfl,_⟩:=tF aO bb;rfl
   |false=>rw[kn aO] at bb;exact(uM ae bb).bs
theorem apF(callf:bH)(cD:jz P callf)(ae:fA callf)(iz:kP callf)(hm:P.follows .mixedOrders=true){rd:Option Nat}{N:Nat}{id:Nat}{ops:Array Oper}{F F':av J}{X af:ah}{is rs:List Nat}{bO:List (Nat×List Nat)}(dg:QD P rs bO ops is=true)(xV:ny X X.next rs=true)
 (h:iO P callf N ops.toList rs bO X.next is [] F {X with cG:=[],next:=X.next+ops.size}=some (F',af))(ta:cC af):u4 P rd N (.region id ops true) F X .cu F' {af with cG:=X.cG}:=by
 simp only[QD,Bool.and_eq_true,Array.all_eq_true_iff_forall_mem] at dg;obtain⟨⟨jY,hlen⟩,Pt⟩:=dg
 have x6:Kept ops rs X.next (Array.replicate ops.size false) {X with cG:=[],next:=X.next+ops.size}:=by
  intro j cb eM _ aO;have a8:=(Array.getElem?_eq_some_iff.1 eM).1;refine⟨?_,by show X.next+j<X.next+ops.size;omega⟩;have uo:mE rs j=true:=by simp only[hk,Bool.and_eq_true] at aO;exact aO.1
  exact Xh xV uo
 have At:=Nat.eq_of_beq_eq_true hlen;have Pc:af.bs=X.bs:=Y0 (X:={X with cG:=[],next:=X.next+ops.size}) ae h;refine⟨λp pC=>Y4 cD h ta p pC,λro B aV E bg a w Q ay aR cY dC cx=>?_⟩;refine wpIn_region_any hm ?_;obtain⟨S,py,_⟩:=Xq iz ae is [] (Array.replicate ops.size false) F {X with cG:=[],next:=X.next+ops.size} (by simp) x6 rfl Pt h;rw[At] at py
 let fz:Env:={f:=E.f,n:=X.next+ops.size}
 have xP:bK P B aV {X with cG:=[],next:=X.next+ops.size} fz {w with drawn:=w.drawn+1}:=by
  have:=(ay.QF []).drew
  exact⟨this.os,this.tape,this.output,this.base,this.hN,λk o ai=>let ⟨i,c,an,aD,a7⟩:=this.obj k o ai;⟨i,c,an,aD.sub (show Sub E fz from λ_ _ h=>h),a7⟩,this.inj,λk ai=>ay.fresh k (Nat.le_trans (Nat.le_add_right _ _) ai),this.m7,Nat.le_refl _⟩
 have lR:X.aH<=X.next:=by
  rcases Nat.lt_or_ge X.next X.aH with h'|h'
  ·obtain⟨c,fi⟩:=ay.m7 X.next h'
   rw[ay.fresh X.next (Nat.le_refl _)] at fi;cases fi
  ·exact h'
 have OY:e3 bg N fz F a:=⟨aR.1,aR.2.1,λj z aa=>let ⟨l,u,g1,g2⟩:=aR.2.2 j z aa;⟨l,u,g1,g2.sub (show Sub E fz from λ_ _ h=>h)⟩⟩;refine Wf ae cD jY (λaL X1 bd=>by rw[bd.2];exact ta) ro ops.size _ F _ fz a _ py xP OY rfl (λi o _ _ _=>ay.fresh _ (Nat.le_add_right _ _)) rfl (Nat.le_refl _) lR ?_
 rintro aL X1 aP a' w' ⟨he,rfl⟩ jZ nS aO C4 et
 have HY:E.n<=X.next:=ay.j3
 have hle:cJ E {f:=aP.f,n:=E.n}:=⟨rfl,λk x ai=>jZ k x ai,λk ai=>nS k (Nat.lt_of_lt_of_le ai HY)⟩;refine cx {f:=aP.f,n:=E.n} bg a' w' .normal hle ⟨C4.1,C4.2.1,λj z aa=>?_⟩ (by show jO _ X1.bs bg;rw[Pc];exact cY.sub hle.sub) ?_ rfl
 ·obtain⟨l,u,g1,g2⟩:=C4.2.2 j z (by rw[<- he j];exact aa);exact⟨l,u,g1,g2.sub (show Sub aP {f:=aP.f,n:=E.n} from λ_ _ h=>h)⟩
 ·have gg:=et.j3;rw[aO] at gg;have aDC:X.next+ops.size<=X1.next:=gg
  exact⟨et.os,et.tape,et.output,et.base,et.hN,λk o ai=>let ⟨i,c,an,aD,a7⟩:=et.obj k o ai;⟨i,c,an,aD.sub (show Sub aP {f:=aP.f,n:=E.n} from λ_ _ h=>h),a7⟩,et.inj,et.fresh,et.m7,by show E.n<=X1.next;omega⟩
theorem CW{id:Nat}{r:Loop}(h:w.heap[id]?=some (.loop r)):(Instr.getLoop id).run P w= .ok r w:=by
 simp[Instr.getLoop,getObj,Sem.run,h,bind,Sem.bind]
theorem aye(callf:bH)(cD:jz P callf)(ae:fA callf){ord:Nat->Hint}{me:FuncId}{rd:Option Nat}{N:Nat}{g:Operand}{ps:Array Tmp}{eU body:Code}{F F':av J}{X af:ah}{y:J}{ex:hd}(anE:fZ P ord true eU=true)(Dz:fZ P ord true body=true)
 (aJ:look X.aH F g=some y)(h:pP callf ord me rd N ps eU body y F X=some (ex,F',af))(aA:cC af):u4 P rd N (.rangeFunc g ps eU body) F X ex F' af:=by
 unfold pP at h;split at h<;>try(cases h;done)
 rename_i f b5 qg b X1 ag
 have anJ:cC X1->cC X:=by
  intro iX;unfold sE at ag;split at ag
  ·cases ag;exact iX
  ·split at ag<;>try(cases ag;done)
   split at ag<;>cases ag
   exact iX
 have key:∃out cU,callf (.iu f) (b5++[.fm (X1.new (h7 ord me N (h8 (iC ord N body) F.get) ps eU body b)).1]++qg) {(X1.new (h7 ord me N (h8 (iC ord N body) F.get) ps eU body b)).2 with bs:=[]}=some (out,cU)/\cC cU/\
  ((∃bj,out= .cy bj/\ex= .cy bj/\F'=F/\af={cU with bs:=X1.bs})\/∃z,out= .ret z/\sL F (X1.new (h7 ord me N (h8 (iC ord N body) F.get) ps eU body b)).1 {cU with bs:=X1.bs}=some (ex,F',af)):=by
  split at h
  ·rename_i z cU ft;refine⟨_,cU,ft,?_,.inr ⟨z,rfl,h⟩⟩;unfold sL at h;split at h<;>try(cases h;done)
   split at h<;>try(cases h;done)
   split at h<;>cases h
   all_goals exact aA
  ·rename_i bj cU ft;cases h;exact⟨_,cU,ft,aA,.inl ⟨bj,rfl,rfl,rfl,rfl⟩⟩
  ·cases h
 obtain⟨out,cU,ft,yj,rN⟩:=key;obtain⟨bQ,k1⟩:=cD _ _ _ _ _ ft yj;refine⟨anJ bQ,λro B aV E bg a w Q ay aR cY dC cx=>?_⟩;refine wpIn_rangeFunc λfn _=>?_
 have amM:∃fz cQ mark r da,cJ E fz/\bK P B aV X1 fz cQ/\fz b=some (r,da)/\jO fz X1.bs (mark++bg)/\
  (Instr.enterLoop fn a.tmps ps eU body ro).run P w= .ok (cQ.heap.size,mark) (cQ.alloc (.loop {state:= .ready,pending:=none,fn:=fn,tmps:=a.tmps,params:=ps,assign:=eU,body:=body,defers:=r})):=by
  unfold sE at ag;cases rd with
  |none=>
   have gJ:ro=none:=dC;subst gJ;simp only[Option.some.injEq,Prod.mk.injEq] at ag;obtain⟨rfl,rfl⟩:=ag;have hle:cJ E (E.put X.next w.heap.size 0):=Env.rY (ay.fresh _ (Nat.le_refl _)) ay.j3;refine⟨E.put X.next w.heap.size 0,w.alloc (.deferred (some [])),[{target:= .collected w.heap.size,args:= #[]}],w.heap.size,0,hle,(ay.IT r0 (.deferred (some [])) 0 λaP _=> .inr ⟨rfl,rfl,rfl⟩).gQ _,Env.lU _ _ _ _,⟨_,bg,⟨_,_,Env.lU _ _ _ _,rfl⟩,cY.sub hle.sub,rfl⟩,by simp[Instr.enterLoop]⟩
  |some k=>
   obtain⟨l,c,ai,gJ⟩:=dC;subst gJ;simp only at ag;split at ag<;>try(cases ag;done)
   rename_i o aq;split at ag<;>try(cases ag;done)
   rename_i st ia od j2 FU FM I4 Gx GG nB aj;cases ag;obtain⟨gr,a2,cN,fj,_⟩:=ay.zb aq (by rw[aj];simp);rw[ai] at cN;cases cN;rw[aj] at fj;obtain⟨_,r,h1,_,_,_,_,_,⟨da,er⟩,_⟩:=fj;exact⟨E,w,[],r.defers,da,cJ.refl _,ay,er,cY,by simp[Instr.enterLoop,CW h1]⟩
 obtain⟨fz,cQ,mark,r,da,ab0,xP,C9,amr,amN⟩:=amM;have ab1:cJ fz (fz.put X1.next cQ.heap.size 0):=Env.rY (xP.fresh _ (Nat.le_refl _)) xP.j3;have hle:=ab0.trans ab1
 let y2:Loop:={state:= .ready,pending:=none,fn:=fn,tmps:=a.tmps,params:=ps,assign:=eU,body:=body,defers:=r}
 have OU:bK P B aV (X1.new (h7 ord me N (h8 (iC ord N body) F.get) ps eU body b)).2 (fz.put X1.next cQ.heap.size 0) (cQ.alloc (.loop y2)):=
  xP.IT (h7 ord me N (h8 (iC ord N body) F.get) ps eU body b) (.loop y2) 0 λaP abZ=> .inr ⟨⟨⟨anE,Dz⟩,y2,rfl,rfl,rfl,rfl,rfl,rfl,⟨da,abZ.sub _ _ C9⟩,((show og N E F a.tmps from aR.2).sub (ab0.trans abZ).sub).norm⟩,rfl,rfl⟩
 have abV:(fz.put X1.next cQ.heap.size 0) (X1.new (h7 ord me N (h8 (iC ord N body) F.get) ps eU body b)).1=some (cQ.heap.size,0):=Env.lU _ _ _ _;have bd:=AZ ay aR aJ;obtain⟨sg,sh,DO,DP,am7⟩:=bd;have Iw:cc (fz.put X1.next cQ.heap.size 0) [.fm (X1.new (h7 ord me N (h8 (iC ord N body) F.get) ps eU body b)).1] [Value.func (.yield cQ.heap.size) #[] #[]]:=⟨_,_,⟨_,_,abV,rfl⟩,rfl,rfl⟩;have amP:a.eval (.const (.func (.yield cQ.heap.size) #[] #[]))= .func (.yield cQ.heap.size) #[] #[]:=rfl
 obtain⟨alH,xZ,gd,Dv,rI⟩:=k1 B aV (fz.put X1.next cQ.heap.size 0) (cQ.alloc (.loop y2)) (sg++[Value.func (.yield cQ.heap.size) #[] #[]]++sh) (OU.gQ _)
  (((DO.sub hle.sub).append Iw).append (DP.sub hle.sub))
 have Dc:alH.body≠none:=λe=>by rw[e] at gd;cases gd
 refine⟨cQ.heap.size,mark,cQ.alloc (.loop y2),{target:= .fn (.func f) sh.toArray,args:=sg.toArray++ #[.func (.yield cQ.heap.size) #[] #[]]},cQ.alloc (.loop y2),f,(sg++[Value.func (.yield cQ.heap.size) #[] #[]]++sh).toArray,cQ.alloc (.loop y2),?_,?_,λ_ _=>trivial,?_,(λh=>by cases h),?_⟩
 ·exact amN
 ·simp[resolve,am7,Deferred.ofValue,amP]
 ·simp[invoke,callFunc,xZ,Dv,Dc]
 ·refine CallsIn.mono (CallsIn.Gy ro rI) ?_
  rintro e gy ⟨u7,Ps,OV,tc⟩
  have Dn:=hle.trans Ps;have aDu:=ae _ _ _ _ _ ft;have HZ:e3 (mark++bg) N u7 F {a with defers:=mark++a.defers}:=⟨by show mark++a.defers=_;rw[aR.1],(show og N E F a.tmps from aR.2).sub Dn.sub⟩;have HX:jO u7 X1.bs (mark++bg):=amr.sub (ab1.trans Ps).sub;rcases rN with⟨bj,rfl,rfl,rfl,rfl⟩|⟨z,rfl,rJ⟩
  ·obtain⟨p,rfl,O7⟩:=tc;exact cx u7 (mark++bg) {a with defers:=mark++a.defers} gy (.panic p) Dn HZ HX (OV.gQ _) ⟨p,O7,rfl⟩
  ·obtain⟨v,rfl,_⟩:=tc;unfold sL at rJ;split at rJ<;>try(cases rJ;done)
   rename_i o aq;split at rJ<;>try(cases rJ;done)
   rename_i st ia od j2 FU FM I4 Gx GG nB aj;have bY:o.sp≠ .cells:=by rw[aj];simp
   have fS:cU.aS.get (X1.new (h7 ord me N (h8 (iC ord N body) F.get) ps eU body b)).1=some o:=aq;have abT:u7 (X1.new (h7 ord me N (h8 (iC ord N body) F.get) ps eU body b)).1=some (cQ.heap.size,0):=Ps.sub _ _ abV;obtain⟨gr,a2,cN,fj,_⟩:=OV.zb fS bY;rw[abT] at cN;cases cN;rw[aj] at fj;obtain⟨g0,fP,g1,g2,g3,g4,g5,g6,g7,g8⟩:=fj
   have fin:st≠ .busy->some (Ix ia,F,{({cU with bs:=X1.bs}:ah) with aS:=cU.aS.put (X1.new (h7 ord me N (h8 (iC ord N body) F.get) ps eU body b)).1 {o with ck:=o.ck+1,sp:= .loop .exhausted ia od j2 FU FM I4 Gx GG nB}})=some (ex,F',af)->
    rangePost (fx ro) 0 P cQ.heap.size Q {a with defers:=mark++a.defers} (.returned v) gy:=by
    intro dk abx;simp only[Option.some.injEq,Prod.mk.injEq] at abx;obtain⟨rfl,rfl,rfl⟩:=abx;obtain⟨kO,DF,OW⟩:=OV.VQ (s:= .loop .exhausted ia od j2 FU FM I4 Gx GG nB) (obj':= .loop {fP with state:= .exhausted}) fS bY abT ⟨g0,_,rfl,rfl,g3,g4,g5,g6,g7,g8⟩ P;refine⟨ti ia,kO,?_,?_⟩
    ·have xR:¬fP.state=LoopState.busy:=by rw[g2];exact dk
     rw[<- g3];simp[Instr.endLoop,CW g1,xR,DF]
    ·have OX:bK P B aV {({cU with bs:=X1.bs}:ah) with aS:=cU.aS.put (X1.new (h7 ord me N (h8 (iC ord N body) F.get) ps eU body b)).1 {o with ck:=o.ck+1,sp:= .loop .exhausted ia od j2 FU FM I4 Gx GG nB}} u7 kO:=OW.gQ _;cases ia with
     |none=>exact cx u7 (mark++bg) _ kO .normal Dn HZ HX OX rfl
     |ret=>exact wpIn_ret (cx u7 (mark++bg) _ kO .ret Dn HZ HX OX rfl)
     |ex id=>exact wpIn_exit (cx u7 (mark++bg) _ kO (.exit id) Dn HZ HX OX rfl)
   split at rJ
   ·cases rJ
   ·rename_i s8;exact fin s8 rJ
end
section
variable{P:Program}{B:Nat}{aV w:World}{E:Env}{bg:List Deferred}
def WX(P:Program)(ord:Nat->Hint)(rd:Option Nat)(N:Nat)(jump:ik):Prop:=∀c rest F X ex F' af,fZ P ord rd.isSome c=true->fZ P ord rd.isSome rest=true->jump c rest F X=some (ex,F',af)->cC af->
 cC X/\∃n,∀(ro:Option Nat) B aV E bg a w (Q:Exit->Act->World->Prop),bK P B aV X E w->e3 bg N E F a->jO E X.bs bg->xb E rd ro->tR P B aV N E ex F' af Q->rest.wpIn (fx ro) 0 P (tD (fx ro) 0 P c Q n) a w
theorem my(callf:bH)(cD:jz P callf)(ae:fA callf)(iz:kP callf)(hm:P.follows .mixedOrders=true){ord:Nat->Hint}{me:FuncId}{rd:Option Nat}{N fuel:Nat}{jump:ik}(aa:WX P ord rd N jump):∀(c:Code) (F:av J) (X:ah) (ex:hd) (F':av J) (af:ah),fZ P ord rd.isSome c=true->
 bT P callf ord me rd N fuel jump c F X=some (ex,F',af)->cC af->u4 P rd N c F X ex F' af
 | .skip,F,X,ex,F',af,_,h,aA=>by
   simp only[bT,Option.some.injEq,Prod.mk.injEq] at h;obtain⟨rfl,rfl,rfl⟩:=h;exact⟨aA,λro B aV E bg a w Q ay aR cY dC cx=>wpIn_skip (cx E bg a w .normal (cJ.refl _) aR cY ay rfl)⟩
 | .region id ops false,F,X,ex,F',af,dg,h,aA=>by
   simp only[bT] at h
   have jY:∀{E:Env} {ro:Option Nat},xb E rd ro->∀o∈ops.toList,A4 o.op=true/\(nZ o.op=true->ro=none):=by
    intro E ro dC o aq;have Ik:(bif rd.isSome then ops.all (λo=>pK o.op) else ops.all λo=>A4 o.op)=true:=dg;cases rd with
    |none=>
     simp only[Option.isSome_none,cond_false,Array.all_eq_true_iff_forall_mem] at Ik;exact⟨Ik o (by simpa using aq),λ_=>dC⟩
    |some k=>
     simp only[Option.isSome_some,cond_true,Array.all_eq_true_iff_forall_mem] at Ik;have h1:=Ik o (by simpa using aq);refine⟨?_,λaF=>?_⟩
     ·cases pB:o.op<;>first|rfl|(rw[pB] at h1;simp[pK] at h1)
     ·cases pB:o.op<;>first|(rw[pB] at aF;simp[nZ] at aF;done)|(rw[pB] at h1;simp[pK] at h1)
   split at h<;>try(cases h;done)
   ·rename_i aL X1 jX;simp only[Option.some.injEq,Prod.mk.injEq] at h;obtain⟨rfl,rfl,rfl⟩:=h;refine⟨G1 cD jX aA,λro B aV E bg a w Q ay aR cY dC cx=>wpIn_region_list ?_⟩;exact Nm cD ae ro aA ops.toList F X E bg a w (jY dC) ay aR cY jX (λ_ aP dG a' w' h1 h2 h3 aU=>cx aP dG a' w' .normal h1 h2 h3 aU rfl) (λbj aI=>by cases aI)
   ·rename_i bj aL X1 jX;simp only[Option.some.injEq,Prod.mk.injEq] at h;obtain⟨rfl,rfl,rfl⟩:=h;refine⟨G1 cD jX aA,λro B aV E bg a w Q ay aR cY dC cx=>wpIn_region_list ?_⟩;exact Nm cD ae ro aA ops.toList F X E bg a w (jY dC) ay aR cY jX (λaI=>by cases aI) (λX7 aI aP dG a' w' p h1 h2 h3 aU bA=>by cases aI;exact cx aP dG a' w' (.panic p) h1 h2 h3 aU ⟨p,bA,rfl⟩)
 | .region id ops true,F,X,ex,F',af,dg,h,aA=>by
   simp only[bT] at h;simp only[fZ] at dg;split at h<;>try(cases h;done)
   rename_i aL X1 aF;simp only[Option.some.injEq,Prod.mk.injEq] at h;obtain⟨rfl,rfl,rfl⟩:=h;cases aq:ord id with
   |text=>rw[aq] at dg aF;exact afz callf cD ae hm dg aF aA
   |skip=>rw[aq] at aF;cases aF
   |ord is bO=>rw[aq] at dg aF;exact afz callf cD ae hm dg aF aA
   |news is rs=>
    rw[aq] at dg aF;simp only[force_eq] at aF;cases mH:ny X X.next rs with
    |false=>rw[mH] at aF;cases aF
    |true=>
     rw[mH] at aF;exact apF callf cD ae iz hm dg mH aF aA
 | .seq x y,F,X,ex,F',af,dg,h,aA=>by
   simp only[fZ,Bool.and_eq_true] at dg;simp only[bT] at h;split at h
   ·rename_i aL X1 ao;obtain⟨bQ,k1⟩:=my callf cD ae iz hm aa y aL X1 ex F' af dg.2 h aA;obtain⟨cn,k2⟩:=my callf cD ae iz hm aa x F X .cu aL X1 dg.1 ao bQ;refine⟨cn,λro B aV E bg a w Q ay aR cY dC cx=>wpIn_seq (k2 ro B aV E bg a w _ ay aR cY dC (λaP dG a' w' e an aD a7 cw dO=>?_))⟩;cases dO;exact k1 ro B aV aP dG a' w' Q cw aD a7 (dC.sub an.sub) (cx.le an)
   ·rename_i r bY;obtain⟨cn,k2⟩:=my callf cD ae iz hm aa x F X ex F' af dg.1 h aA;refine⟨cn,λro B aV E bg a w Q ay aR cY dC cx=>wpIn_seq (k2 ro B aV E bg a w _ ay aR cY dC (cx.mono λaP e a w he aZ=>?_))⟩;cases ex with
    |cu=>exact absurd h (bY F' af)
    |ex id=>cases he;exact aZ
    |ret=>cases he;exact aZ
    |gt l=>cases he;exact aZ
    |cy bj=>obtain⟨p,_,rfl⟩:=he;exact aZ
 | .cond c x y,F,X,ex,F',af,dg,h,aA=>by
   simp only[fZ,Bool.and_eq_true] at dg;simp only[bT] at h;split at h<;>try(cases h;done)
   rename_i z a1;split at h
   ·rename_i X1 ag;obtain⟨bQ,k1⟩:=my callf cD ae iz hm aa x F X1 ex F' af dg.1 h aA;obtain⟨h1,h2,h3,aU⟩:=rq ag;have aF:=Cc ag;exact⟨(h1 bQ).1,λro B aV E bg a w Q ay aR cY dC cx=>wpIn_cond_true ((h1 bQ).2 _ _ (AZ ay aR a1)) (k1 ro B aV E bg a w Q (ay.same h2 h3 aU) aR (by rw[aF];exact cY) dC cx)⟩
   ·rename_i X1 ag;obtain⟨bQ,k1⟩:=my callf cD ae iz hm aa y F X1 ex F' af dg.2 h aA;obtain⟨h1,h2,h3,aU⟩:=rq ag;have aF:=Cc ag;exact⟨(h1 bQ).1,λro B aV E bg a w Q ay aR cY dC cx=>wpIn_cond_false ((h1 bQ).2 _ _ (AZ ay aR a1)) (k1 ro B aV E bg a w Q (ay.same h2 h3 aU) aR (by rw[aF];exact cY) dC cx)⟩
   ·cases h
 | .block id c,F,X,ex,F',af,dg,h,aA=>by
   simp only[fZ] at dg;simp only[bT] at h;split at h
   ·rename_i gr aL X1 ao;cases ag:Nat.beq gr id with
    |true=>
     have e:=Nat.eq_of_beq_eq_true ag;simp only[ag,cond_true,Option.some.injEq,Prod.mk.injEq] at h;obtain⟨rfl,rfl,rfl⟩:=h;obtain⟨bQ,k1⟩:=my callf cD ae iz hm aa c F X _ _ _ dg ao aA;refine⟨bQ,λro B aV E bg a w Q ay aR cY dC cx=>wpIn_block (k1 ro B aV E bg a w _ ay aR cY dC (λaP dG a' w' zW an aD a7 cw dO=>?_))⟩;cases dO;simp only[Exit.inBlock,e,if_true];exact cx aP dG a' w' .normal an aD a7 cw rfl
    |false=>
     have e:=Nat.ne_of_beq_eq_false ag;simp only[ag,cond_false,Option.some.injEq,Prod.mk.injEq] at h;obtain⟨rfl,rfl,rfl⟩:=h;obtain⟨bQ,k1⟩:=my callf cD ae iz hm aa c F X _ _ _ dg ao aA;refine⟨bQ,λro B aV E bg a w Q ay aR cY dC cx=>wpIn_block (k1 ro B aV E bg a w _ ay aR cY dC (λaP dG a' w' zW an aD a7 cw dO=>?_))⟩;cases dO;simp only[Exit.inBlock,e,if_false];exact cx aP dG a' w' (.exit gr) an aD a7 cw rfl
   ·rename_i r bY;obtain⟨bQ,k1⟩:=my callf cD ae iz hm aa c F X ex F' af dg h aA;refine⟨bQ,λro B aV E bg a w Q ay aR cY dC cx=>wpIn_block (k1 ro B aV E bg a w _ ay aR cY dC (cx.mono λaP e a w he aZ=>?_))⟩;cases ex with
    |cu=>cases he;exact aZ
    |ex id=>exact absurd h (bY id F' af)
    |ret=>cases he;exact aZ
    |gt l=>cases he;exact aZ
    |cy bj=>obtain⟨p,_,rfl⟩:=he;exact aZ
 | .loop c,F,X,ex,F',af,dg,h,aA=>by
   simp only[fZ] at dg;simp only[bT] at h;obtain⟨bQ,k1⟩:=adg (rd:=rd) (λF X ex F' af h aA=>my callf cD ae iz hm aa c F X ex F' af dg h aA) fuel F X ex F' af h aA;exact⟨bQ,λro B aV E bg a w Q ay aR cY dC cx=>wpIn_loop_rounds fuel (k1 ro B aV E bg a w Q ay aR cY dC cx)⟩
 | .exit id,F,X,ex,F',af,_,h,aA=>by
   simp only[bT,Option.some.injEq,Prod.mk.injEq] at h;obtain⟨rfl,rfl,rfl⟩:=h;exact⟨aA,λro B aV E bg a w Q ay aR cY dC cx=>wpIn_exit (cx E bg a w (.exit id) (cJ.refl _) aR cY ay rfl)⟩
 | .label l,F,X,ex,F',af,_,h,aA=>by
   simp only[bT,Option.some.injEq,Prod.mk.injEq] at h;obtain⟨rfl,rfl,rfl⟩:=h;exact⟨aA,λro B aV E bg a w Q ay aR cY dC cx=>wpIn_label (cx E bg a w .normal (cJ.refl _) aR cY ay rfl)⟩
 | .ret,F,X,ex,F',af,_,h,aA=>by
   simp only[bT,Option.some.injEq,Prod.mk.injEq] at h;obtain⟨rfl,rfl,rfl⟩:=h;exact⟨aA,λro B aV E bg a w Q ay aR cY dC cx=>wpIn_ret (cx E bg a w .ret (cJ.refl _) aR cY ay rfl)⟩
 | .goto l,F,X,ex,F',af,_,h,aA=>by
   simp only[bT,Option.some.injEq,Prod.mk.injEq] at h;obtain⟨rfl,rfl,rfl⟩:=h;exact⟨aA,λro B aV E bg a w Q ay aR cY dC cx=>wpIn_goto (cx E bg a w (.goto l) (cJ.refl _) aR cY ay rfl)⟩
 | .scope c,F,X,ex,F',af,dg,h,aA=>by
   simp only[fZ] at dg;simp only[bT] at h;split at h
   ·rename_i l aL X1 ao;split at h
    ·rename_i rest ak;obtain⟨bQ,n,k1⟩:=aa c rest aL X1 ex F' af dg (GM c l rest dg ak) h aA;obtain⟨cn,k2⟩:=my callf cD ae iz hm aa c F X _ aL X1 dg ao bQ;refine⟨cn,λro B aV E bg a w Q ay aR cY dC cx=>Wg (n:=n+1) (k2 ro B aV E bg a w _ ay aR cY dC (λaP dG a' w' zW an aD a7 cw dO=>?_))⟩;cases dO;simp only[tD,ak];exact k1 ro B aV aP dG a' w' Q cw aD a7 (dC.sub an.sub) (cx.le an)
    ·rename_i ak;simp only[Option.some.injEq,Prod.mk.injEq] at h;obtain⟨rfl,rfl,rfl⟩:=h;obtain⟨cn,k2⟩:=my callf cD ae iz hm aa c F X _ _ _ dg ao aA;refine⟨cn,λro B aV E bg a w Q ay aR cY dC cx=>Wg (n:=0) (k2 ro B aV E bg a w _ ay aR cY dC (λaP dG a' w' zW an aD a7 cw dO=>?_))⟩;cases dO;simp only[tD,ak];exact cx aP dG a' w' (.goto l) an aD a7 cw rfl
   ·rename_i r bY;obtain⟨cn,k2⟩:=my callf cD ae iz hm aa c F X ex F' af dg h aA;refine⟨cn,λro B aV E bg a w Q ay aR cY dC cx=>Wg (n:=0) (k2 ro B aV E bg a w _ ay aR cY dC (cx.mono λaP e a w he aZ=>?_))⟩;cases ex with
    |cu=>cases he;exact aZ
    |ex id=>cases he;exact aZ
    |ret=>cases he;exact aZ
    |gt l=>exact absurd h (bY l F' af)
    |cy bj=>obtain⟨p,_,rfl⟩:=he;exact aZ
 | .rangeFunc g ps eU body,F,X,ex,F',af,dg,h,aA=>by
   simp only[fZ,Bool.and_eq_true] at dg;simp only[bT] at h;split at h<;>try(cases h;done)
   rename_i y bb;exact aye callf cD ae dg.1 dg.2 bb h aA
 | .refuse _,_,_,_,_,_,_,h,_=>by simp[bT] at h
theorem P4(callf:bH)(cD:jz P callf)(ae:fA callf)(iz:kP callf)(hm:P.follows .mixedOrders=true){ord:Nat->Hint}{me:FuncId}{rd:Option Nat}{N fuel:Nat}:∀n,WX P ord rd N (fF P callf ord me rd N fuel n)
 |0,_,_,_,_,_,_,_,_,_,h,_=>by simp[fF] at h
 |n+1,c,rest,F,X,ex,F',af,dg,Dz,h,aA=>by
  have ba:=P4 callf cD ae iz hm (ord:=ord) (me:=me) (rd:=rd) (N:=N) (fuel:=fuel) n
  have h':(match bT P callf ord me rd N fuel (fF P callf ord me rd N fuel n) rest F X with
   |some (.gt l,F,X)=>(match findLabel c l with
    |some rest=>fF P callf ord me rd N fuel n c rest F X
    |none=>some (.gt l,F,X))
   |r=>r)=some (ex,F',af):=h
  split at h'
  ·rename_i l aL X1 ao;split at h'
   ·rename_i afB ak;obtain⟨bQ,m,k1⟩:=ba c afB aL X1 ex F' af dg (GM c l afB dg ak) h' aA;obtain⟨cn,k2⟩:=my callf cD ae iz hm ba rest F X _ aL X1 Dz ao bQ;refine⟨cn,m+1,λro B aV E bg a w Q ay aR cY dC cx=>k2 ro B aV E bg a w _ ay aR cY dC (λaP dG a' w' zW an aD a7 cw dO=>?_)⟩;cases dO;simp only[tD,ak];exact k1 ro B aV aP dG a' w' Q cw aD a7 (dC.sub an.sub) (cx.le an)
   ·rename_i ak;simp only[Option.some.injEq,Prod.mk.injEq] at h';obtain⟨rfl,rfl,rfl⟩:=h';obtain⟨cn,k2⟩:=my callf cD ae iz hm ba rest F X _ _ _ Dz ao aA;refine⟨cn,0,λro B aV E bg a w Q ay aR cY dC cx=>k2 ro B aV E bg a w _ ay aR cY dC (λaP dG a' w' zW an aD a7 cw dO=>?_)⟩;cases dO;simp only[tD,ak];exact cx aP dG a' w' (.goto l) an aD a7 cw rfl
  ·rename_i r bY;obtain⟨cn,k2⟩:=my callf cD ae iz hm ba rest F X ex F' af Dz h' aA;refine⟨cn,0,λro B aV E bg a w Q ay aR cY dC cx=>k2 ro B aV E bg a w _ ay aR cY dC (cx.mono λaP e a w he aZ=>?_)⟩;cases ex with
   |cu=>cases he;exact aZ
   |ex id=>cases he;exact aZ
   |ret=>cases he;exact aZ
   |gt l=>exact absurd h' (bY l F' af)
   |cy bj=>obtain⟨p,_,rfl⟩:=he;exact aZ
end
section
variable{P:Program}
def eT(X af:ah):Prop:=c7 X {af with bs:=X.bs}
theorem eT.refl(X:ah):eT X X:=c7.refl X
theorem eT.trans{X Y Z:ah}(h:eT X Y)(h':eT Y Z):eT X Z:=c7.adA h h'
theorem c7.p0{X Y:ah}(h:c7 X Y):eT X Y:=⟨h.cG,h.aH,h.next,h.ck,h.dead,rfl,h.pc⟩
theorem eT.gQ{X Y:ah}(h:eT X Y)(l:List eK):eT X {Y with bs:=l}:=⟨h.cG,h.aH,h.next,h.ck,h.dead,rfl,h.pc⟩
theorem eT.Br{X Y:ah}{l:List eK}(h:eT {X with bs:=l} Y):eT X Y:=⟨h.cG,h.aH,h.next,h.ck,h.dead,rfl,h.pc⟩
theorem eT.to{X Y:ah}(h:eT X Y)(aF:Y.bs=X.bs):c7 X Y:=⟨h.cG,h.aH,h.next,h.ck,h.dead,aF,h.pc⟩
def FR(jump:ik):Prop:=∀c rest F X ex F' af,jump c rest F X=some (ex,F',af)->eT X af
theorem XR{rd:Option Nat}{X X1:ah}{b:Nat}(h:sE rd X=some (b,X1)):eT X X1:=by
 unfold sE at h;split at h
 ·cases h;exact(c7.new X r0).p0.gQ _
 ·split at h<;>try(cases h;done)
  split at h<;>cases h
  exact eT.refl _
theorem ak3{F F':av J}{l:Nat}{X af:ah}{ex:hd}(h:sL F l X=some (ex,F',af)):eT X af:=by
 unfold sL at h;split at h<;>try(cases h;done)
 rename_i o aq;split at h<;>try(cases h;done)
 split at h<;>cases h
 all_goals exact(c7.store aq (Nat.lt_succ_self _)).p0
theorem ayf{callf:bH}(ae:fA callf){ord:Nat->Hint}{me:FuncId}{rd:Option Nat}{N:Nat}{ps:Array Tmp}{eU body:Code}{F F':av J}{X af:ah}{y:J}{ex:hd}(h:pP callf ord me rd N ps eU body y F X=some (ex,F',af)):eT X af:=by
 unfold pP at h;split at h<;>try(cases h;done)
 rename_i f b5 qg b X1 ag;have k1:=(XR ag).trans (c7.new X1 (h7 ord me N (h8 (iC ord N body) F.get) ps eU body b)).p0;split at h
 ·rename_i z cU ft;have k2:=k1.trans (eT.Br (l:=[]) (ae _ _ _ _ _ ft).p0);exact(k2.gQ _).trans (ak3 h)
 ·rename_i bj cU ft;cases h;have k2:=k1.trans (eT.Br (l:=[]) (ae _ _ _ _ _ ft).p0);exact k2.gQ _
 ·cases h
theorem lL{callf:bH}(ae:fA callf){ord:Nat->Hint}{me:FuncId}{rd:Option Nat}{N fuel:Nat}{jump:ik}(aa:FR jump):∀(c:Code) (F:av J) (X:ah) (ex:hd) (F':av J) (af:ah),
 bT P callf ord me rd N fuel jump c F X=some (ex,F',af)->eT X af
 | .skip,F,X,ex,F',af,h=>by simp only[bT,Option.some.injEq,Prod.mk.injEq] at h;obtain⟨rfl,rfl,rfl⟩:=h;exact eT.refl _
 | .region id ops false,F,X,ex,F',af,h=>by
   simp only[bT] at h;split at h<;>try(cases h;done)
   ·rename_i aL X1 jX;simp only[Option.some.injEq,Prod.mk.injEq] at h;obtain⟨rfl,rfl,rfl⟩:=h;exact Nl ae jX
   ·rename_i bj aL X1 jX;simp only[Option.some.injEq,Prod.mk.injEq] at h;obtain⟨rfl,rfl,rfl⟩:=h;exact Nl ae jX
 | .region id ops true,F,X,ex,F',af,h=>by
   simp only[bT] at h;split at h<;>try(cases h;done)
   rename_i aL X1 aF;simp only[Option.some.injEq,Prod.mk.injEq] at h;obtain⟨rfl,rfl,rfl⟩:=h
   have key:∀{is:List Nat} {bO:List (Nat×List Nat)},iv P callf N ops.toList bO is [] F {X with cG:=[]}=some (aL,X1)->eT X {X1 with cG:=X.cG}:=λh=>
    have k:=MW ae h
    ⟨λaq=>aq,k.aH,k.next,k.ck,k.dead,rfl,k.pc⟩
   cases aq:ord id with
   |text=>rw[aq] at aF;exact key aF
   |skip=>rw[aq] at aF;cases aF
   |ord is bO=>rw[aq] at aF;exact key aF
   |news is rs=>
    rw[aq] at aF;simp only[force_eq] at aF;cases mH:ny X X.next rs with
    |false=>rw[mH] at aF;cases aF
    |true=>
     rw[mH] at aF;obtain⟨k,k2⟩:=Y2 ae (Nat.le_add_right _ _) aF;exact⟨λaq=>aq,k.aH,k2,k.ck,k.dead,rfl,k.pc⟩
 | .seq x y,F,X,ex,F',af,h=>by
   simp only[bT] at h;split at h
   ·rename_i aL X1 ao;exact(lL ae aa x _ _ _ _ _ ao).trans (lL ae aa y _ _ _ _ _ h)
   ·exact lL ae aa x _ _ _ _ _ h
 | .cond c x y,F,X,ex,F',af,h=>by
   simp only[bT] at h;split at h<;>try(cases h;done)
   split at h
   ·rename_i X1 ag;exact(rp ag).p0.trans (lL ae aa x _ _ _ _ _ h)
   ·rename_i X1 ag;exact(rp ag).p0.trans (lL ae aa y _ _ _ _ _ h)
   ·cases h
 | .block id c,F,X,ex,F',af,h=>by
   simp only[bT] at h;split at h
   ·rename_i gr aL X1 ao
    have:=lL ae aa c _ _ _ _ _ ao
    cases ag:Nat.beq gr id<;>simp only[ag,cond_true,cond_false,Option.some.injEq,Prod.mk.injEq] at h<;>(obtain⟨rfl,rfl,rfl⟩:=h;exact this)
   ·exact lL ae aa c _ _ _ _ _ h
 | .loop c,F,X,ex,F',af,h=>by
   simp only[bT] at h
   have key:∀(k:Nat) (F:av J) (X:ah),iF (bT P callf ord me rd N fuel jump c) k F X=some (ex,F',af)->eT X af:=by
    intro k
    induction k with
    |zero=>intro F X h;simp[iF] at h
    |succ k ba=>
     intro F X h;have h':(match bT P callf ord me rd N fuel jump c F X with|some (.cu,F,X)=>iF (bT P callf ord me rd N fuel jump c) k F X|r=>r)=some (ex,F',af):=h;split at h'
     ·rename_i aL X1 ag;exact(lL ae aa c _ _ _ _ _ ag).trans (ba _ _ h')
     ·exact lL ae aa c _ _ _ _ _ h'
   exact key fuel F X h
 | .exit id,F,X,ex,F',af,h=>by simp only[bT,Option.some.injEq,Prod.mk.injEq] at h;obtain⟨rfl,rfl,rfl⟩:=h;exact eT.refl _
 | .label l,F,X,ex,F',af,h=>by simp only[bT,Option.some.injEq,Prod.mk.injEq] at h;obtain⟨rfl,rfl,rfl⟩:=h;exact eT.refl _
 | .ret,F,X,ex,F',af,h=>by simp only[bT,Option.some.injEq,Prod.mk.injEq] at h;obtain⟨rfl,rfl,rfl⟩:=h;exact eT.refl _
 | .goto _,F,X,ex,F',af,h=>by simp only[bT,Option.some.injEq,Prod.mk.injEq] at h;obtain⟨rfl,rfl,rfl⟩:=h;exact eT.refl _
 | .scope c,F,X,ex,F',af,h=>by
   simp only[bT] at h;split at h
   ·rename_i l aL X1 ao;have k1:=lL ae aa c _ _ _ _ _ ao;split at h
    ·exact k1.trans (aa _ _ _ _ _ _ _ h)
    ·simp only[Option.some.injEq,Prod.mk.injEq] at h;obtain⟨rfl,rfl,rfl⟩:=h;exact k1
   ·exact lL ae aa c _ _ _ _ _ h
 | .rangeFunc _ _ _ _,F,X,ex,F',af,h=>by
   simp only[bT] at h;split at h<;>try(cases h;done)
   exact ayf ae h
 | .refuse _,_,_,_,_,_,h=>by simp[bT] at h
theorem AE{callf:bH}(ae:fA callf){ord:Nat->Hint}{me:FuncId}{rd:Option Nat}{N fuel:Nat}:∀n,FR (fF P callf ord me rd N fuel n)
 |0,_,_,_,_,_,_,_,h=>by simp[fF] at h
 |n+1,c,rest,F,X,ex,F',af,h=>by
  have ba:=AE ae (ord:=ord) (me:=me) (rd:=rd) (N:=N) (fuel:=fuel) n
  have h':(match bT P callf ord me rd N fuel (fF P callf ord me rd N fuel n) rest F X with
   |some (.gt l,F,X)=>(match findLabel c l with
    |some rest=>fF P callf ord me rd N fuel n c rest F X
    |none=>some (.gt l,F,X))
   |r=>r)=some (ex,F',af):=h
  split at h'
  ·rename_i l aL X1 ao;have k1:=lL ae ba rest _ _ _ _ _ ao;split at h'
   ·exact k1.trans (ba _ _ _ _ _ _ _ h')
   ·simp only[Option.some.injEq,Prod.mk.injEq] at h';obtain⟨rfl,rfl,rfl⟩:=h';exact k1
  ·exact lL ae ba rest _ _ _ _ _ h'
section
variable{m:Nat}{ob:bD}
theorem az2{callf:bH}(cS:kP callf){N base k:Nat}{rs:List Nat}{ops:List Oper}{o:Oper}{F F':av J}{X af:ah}(ak:cT X m)(hm:m<base)(h:ll P callf N ops rs base k o F X=some (F',af)):
 ll P callf N ops rs base k o F (X.add m ob)=some (F',af.add m ob):=by
 obtain⟨y,bb,rfl⟩:=ju.1 h;refine ju.2 ⟨y,?_,rfl⟩;cases aO:hk rs k o.op with
 |true=>
  obtain⟨apT,rfl,k7⟩:=tF aO bb;rw[k7 (X.add m ob) rfl];unfold ah.add;simp only[Option.some.injEq,Prod.mk.injEq,true_and];rw[cz.put_comm _ _ _ (by omega)]
 |false=>
  rw[kn aO] at bb⊢;exact VX cS ak bb
theorem apb{callf:bH}{N base k:Nat}{rs:List Nat}{ops:List Oper}{o:Oper}{F:av J}{X:ah}{r:av J×ah}(h:ll P callf N ops rs base k o F X=some r):pJ P ops base o F (X.add m ob)=pJ P ops base o F X:=by
 unfold pJ;cases aI:e5 P o.op with
 |false=>rfl
 |true=>
  have aO:=E3 (rs:=rs) (k:=k) aI;unfold ll at h;rw[aO] at h;simp only[cond_false] at h;rw[Mv h]
theorem ayp{callf:bH}{N base k:Nat}{rs:List Nat}{bL:List (Nat×Option Nat)}{ops:List Oper}{o:Oper}{F:av J}{X:ah}{r:av J×ah}(h:ll P callf N ops rs base k o F X=some r):
 (bif e5 P o.op then(k,addrOf ops o F (X.add m ob))::bL else bL)=(bif e5 P o.op then(k,addrOf ops o F X)::bL else bL):=by
 cases aI:e5 P o.op with
 |false=>rfl
 |true=>
  have aO:=E3 (rs:=rs) (k:=k) aI;unfold ll at h;rw[aO] at h;simp only[cond_false] at h;rw[Mv h]
theorem Y1{callf:bH}(cS:kP callf)(ae:fA callf){N base:Nat}{rs:List Nat}{bO:List (Nat×List Nat)}{ops:List Oper}(hm:m<base):∀{bJ:List Nat} {bL:List (Nat×Option Nat)} {F F':av J} {X af:ah},base<=X.next->cT X m->iO P callf N ops rs bO base bJ bL F X=some (F',af)->
 iO P callf N ops rs bO base bJ bL F (X.add m ob)=some (F',af.add m ob)
 | [],_,_,_,_,_,_,_,h=>by simp only[iO,Option.some.injEq,Prod.mk.injEq] at h⊢;obtain⟨rfl,rfl⟩:=h;exact⟨rfl,rfl⟩
 |k::bJ,bL,F,F',X,af,ag,ak,h=>by
  simp only[iO] at h⊢;split at h<;>try(cases h;done)
  rename_i o _;cases aJ:pJ P ops base o F X with
  |false=>rw[aJ] at h;cases h
  |true=>
   rw[aJ] at h;simp only[cond_true] at h;split at h<;>try(cases h;done)
   rename_i aL X1 aj;rw[apb aj,aJ];simp only[cond_true];rw[az2 cS ak hm aj];simp only[];cases jV:j9 bL X X1 (hY bO k) with
   |false=>rw[jV] at h;cases h
   |true=>
   rw[jV] at h;simp only[cond_true] at h;rw[MN ak jV,ayp aj];simp only[cond_true];obtain⟨y,bb,_⟩:=ju.1 aj;obtain⟨k1,k2⟩:=agn ae ag bb;have rM:=ago ae bb;exact Y1 cS ae hm k2 ⟨k1.dead m hm ak.dead,Nat.lt_of_lt_of_le ak.lt rM⟩ h
theorem Xg{X:ah}{base:Nat}(hm:m<base):∀{rs:List Nat},ny X base rs=true->ny (X.add m ob) base rs=true
 | [],_=>rfl
 |k::bJ,h=>by
  simp only[ny,Bool.and_eq_true] at h⊢;refine⟨?_,Xg hm h.2⟩
  have:(X.add m ob).aS.get (base+k)=X.aS.get (base+k):=by
   show(X.aS.put m ob).get (base+k)=_;rw[cz.kA,if_neg (by omega)]
  rw[this];exact h.1
def WT(jump:ik):Prop:=∀m ob c rest F X ex F' af,cT X m->jump c rest F X=some (ex,F',af)->jump c rest F (X.add m ob)=some (ex,F',af.add m ob)
theorem cT.qB{X af:ah}(h:cT X m)(k:eT X af):cT af m:=h.acW k
theorem cT.gQ{X:ah}(h:cT X m)(l:List eK):cT {X with bs:=l} m:=⟨h.dead,h.lt⟩
theorem ajn{rd:Option Nat}{X X1:ah}{b:Nat}(ak:cT X m)(h:sE rd X=some (b,X1)):sE rd (X.add m ob)=some (b,X1.add m ob):=by
 unfold sE at h⊢;split at h
 ·cases h;simp only[zI ak];rfl
 ·split at h<;>try(cases h;done)
  rename_i o aq;simp only[(add_get ak aq).1];split at h<;>cases h
  rfl
theorem ak2{F F':av J}{l:Nat}{X af:ah}{ex:hd}(ak:cT X m)(h:sL F l X=some (ex,F',af)):sL F l (X.add m ob)=some (ex,F',af.add m ob):=by
 unfold sL at h⊢;split at h<;>try(cases h;done)
 rename_i o aq;simp only[(add_get ak aq).1];split at h<;>try(cases h;done)
 split at h
 ·cases h
 ·rename_i ag;cases h;rw[zJ ak aq]
theorem ayc{callf:bH}(cS:kP callf)(ae:fA callf){ord:Nat->Hint}{me:FuncId}{rd:Option Nat}{N:Nat}{ps:Array Tmp}{eU body:Code}{F F':av J}{X af:ah}{y:J}{ex:hd}(ak:cT X m)(h:pP callf ord me rd N ps eU body y F X=some (ex,F',af)):
 pP callf ord me rd N ps eU body y F (X.add m ob)=some (ex,F',af.add m ob):=by
 unfold pP at h⊢;split at h<;>try(cases h;done)
 rename_i f b5 qg b X1 ag;have oF:cT X1 m:=ak.qB (XR ag);have k6:cT (X1.new (h7 ord me N (h8 (iC ord N body) F.get) ps eU body b)).2 m:=oF.keeps (c7.new _ _);rw[ajn (ob:=ob) ak ag];simp only[zI oF];split at h
 ·rename_i z cU ft;have e:=cS _ _ _ _ _ m ob ft (k6.gQ _);have am1:cT cU m:=(k6.gQ []).keeps (ae _ _ _ _ _ ft);rw[show({((X1.new (h7 ord me N (h8 (iC ord N body) F.get) ps eU body b)).2).add m ob with bs:=[]}:ah)=({(X1.new (h7 ord me N (h8 (iC ord N body) F.get) ps eU body b)).2 with bs:=[]}:ah).add m ob from rfl,e];exact ak2 (ob:=ob) (am1.gQ _) h
 ·rename_i bj cU ft;cases h;have e:=cS _ _ _ _ _ m ob ft (k6.gQ _);rw[show({((X1.new (h7 ord me N (h8 (iC ord N body) F.get) ps eU body b)).2).add m ob with bs:=[]}:ah)=({(X1.new (h7 ord me N (h8 (iC ord N body) F.get) ps eU body b)).2 with bs:=[]}:ah).add m ob from rfl,e];rfl
 ·cases h
theorem nE{callf:bH}(cS:kP callf)(ae:fA callf){ord:Nat->Hint}{me:FuncId}{rd:Option Nat}{N fuel:Nat}{jump:ik}(aa:WT jump)(hU:FR jump):∀(c:Code) (F:av J) (X:ah) (ex:hd) (F':av J) (af:ah),cT X m->
 bT P callf ord me rd N fuel jump c F X=some (ex,F',af)->bT P callf ord me rd N fuel jump c F (X.add m ob)=some (ex,F',af.add m ob)
 | .skip,F,X,ex,F',af,_,h=>by simp only[bT,Option.some.injEq,Prod.mk.injEq] at h⊢;obtain⟨rfl,rfl,rfl⟩:=h;exact⟨rfl,rfl,rfl⟩
 | .region id ops false,F,X,ex,F',af,ak,h=>by
   simp only[bT] at h⊢;split at h<;>try(cases h;done)
   ·rename_i aL X1 jX;simp only[Option.some.injEq,Prod.mk.injEq] at h;obtain⟨rfl,rfl,rfl⟩:=h;rw[Nk cS ae ak jX]
   ·rename_i bj aL X1 jX;simp only[Option.some.injEq,Prod.mk.injEq] at h;obtain⟨rfl,rfl,rfl⟩:=h;rw[Nk cS ae ak jX]
 | .region id ops true,F,X,ex,F',af,ak,h=>by
   simp only[bT] at h⊢;split at h<;>try(cases h;done)
   rename_i aL X1 aF;simp only[Option.some.injEq,Prod.mk.injEq] at h;obtain⟨rfl,rfl,rfl⟩:=h;have H9:cT {X with cG:=[]} m:=⟨ak.dead,ak.lt⟩;cases aq:ord id with
   |text=>
    rw[aq] at aF
    have:=Nd (ob:=ob) cS ae H9 aF
    simp only[];rw[show({X.add m ob with cG:=[]}:ah)=({X with cG:=[]}:ah).add m ob from rfl,this];rfl
   |skip=>rw[aq] at aF;cases aF
   |ord is bO=>
    rw[aq] at aF
    have:=Nd (ob:=ob) cS ae H9 aF
    simp only[];rw[show({X.add m ob with cG:=[]}:ah)=({X with cG:=[]}:ah).add m ob from rfl,this];rfl
   |news is rs=>
    rw[aq] at aF;simp only[force_eq] at aF⊢;cases mH:ny X X.next rs with
    |false=>rw[mH] at aF;cases aF
    |true=>
     rw[mH] at aF;have h2:ny (X.add m ob) (X.add m ob).next rs=true:=Xg ak.lt mH
     rw[h2];have oF:cT {X with cG:=[],next:=X.next+ops.size} m:=⟨ak.dead,Nat.lt_of_lt_of_le ak.lt (Nat.le_add_right _ _)⟩
     have:=Y1 (ob:=ob) cS ae ak.lt (Nat.le_add_right _ _) oF aF
     simp only[cond_true]
     rw[show({X.add m ob with cG:=[],next:=(X.add m ob).next+ops.size}:ah)=({X with cG:=[],next:=X.next+ops.size}:ah).add m ob from rfl,
      show(X.add m ob).next=X.next from rfl,this]
     rfl
 | .seq x y,F,X,ex,F',af,ak,h=>by
   simp only[bT] at h⊢;split at h
   ·rename_i aL X1 ao;rw[nE cS ae aa hU x _ _ _ _ _ ak ao];exact nE cS ae aa hU y _ _ _ _ _ (ak.qB (lL ae hU x _ _ _ _ _ ao)) h
   ·rename_i bY;rw[nE cS ae aa hU x _ _ _ _ _ ak h];cases ex with
    |cu=>exact absurd h (bY F' af)
    |_=>rfl
 | .cond c x y,F,X,ex,F',af,ak,h=>by
   simp only[bT] at h⊢;split at h<;>try(cases h;done)
   rename_i z a1;have qz:look (X.add m ob).aH F c=some z:=a1;simp only[qz];split at h
   ·rename_i X1 ag;rw[xj (m:=m) (ob:=ob) ag];exact nE cS ae aa hU x _ _ _ _ _ (ak.keeps (rp ag)) h
   ·rename_i X1 ag;rw[xj (m:=m) (ob:=ob) ag];exact nE cS ae aa hU y _ _ _ _ _ (ak.keeps (rp ag)) h
   ·cases h
 | .block id c,F,X,ex,F',af,ak,h=>by
   simp only[bT] at h⊢;split at h
   ·rename_i gr aL X1 ao;rw[nE cS ae aa hU c _ _ _ _ _ ak ao];simp only[];cases ag:Nat.beq gr id<;>simp only[ag,cond_true,cond_false,Option.some.injEq,Prod.mk.injEq] at h⊢ <;>(obtain⟨rfl,rfl,rfl⟩:=h;exact⟨rfl,rfl,rfl⟩)
   ·rename_i bY;rw[nE cS ae aa hU c _ _ _ _ _ ak h];cases ex with
    |ex gr=>exact absurd h (bY gr F' af)
    |_=>rfl
 | .loop c,F,X,ex,F',af,ak,h=>by
   simp only[bT] at h⊢
   have key:∀(k:Nat) (F:av J) (X:ah),cT X m->iF (bT P callf ord me rd N fuel jump c) k F X=some (ex,F',af)->iF (bT P callf ord me rd N fuel jump c) k F (X.add m ob)=some (ex,F',af.add m ob):=by
    intro k
    induction k with
    |zero=>intro F X _ h;simp[iF] at h
    |succ k ba=>
     intro F X ak h;have h':(match bT P callf ord me rd N fuel jump c F X with|some (.cu,F,X)=>iF (bT P callf ord me rd N fuel jump c) k F X|r=>r)=some (ex,F',af):=h;show(match bT P callf ord me rd N fuel jump c F (X.add m ob) with|some (.cu,F,X)=>iF (bT P callf ord me rd N fuel jump c) k F X|r=>r)=some (ex,F',af.add m ob);split at h'
     ·rename_i aL X1 ag;rw[nE cS ae aa hU c _ _ _ _ _ ak ag];exact ba _ _ (ak.qB (lL ae hU c _ _ _ _ _ ag)) h'
     ·rename_i bY;rw[nE cS ae aa hU c _ _ _ _ _ ak h'];cases ex with
      |cu=>exact absurd h' (bY F' af)
      |_=>rfl
   exact key fuel F X ak h
 | .exit id,F,X,ex,F',af,_,h=>by simp only[bT,Option.some.injEq,Prod.mk.injEq] at h⊢;obtain⟨rfl,rfl,rfl⟩:=h;exact⟨rfl,rfl,rfl⟩
 | .label l,F,X,ex,F',af,_,h=>by simp only[bT,Option.some.injEq,Prod.mk.injEq] at h⊢;obtain⟨rfl,rfl,rfl⟩:=h;exact⟨rfl,rfl,rfl⟩
 | .ret,F,X,ex,F',af,_,h=>by simp only[bT,Option.some.injEq,Prod.mk.injEq] at h⊢;obtain⟨rfl,rfl,rfl⟩:=h;exact⟨rfl,rfl,rfl⟩
 | .goto _,F,X,ex,F',af,_,h=>by simp only[bT,Option.some.injEq,Prod.mk.injEq] at h⊢;obtain⟨rfl,rfl,rfl⟩:=h;exact⟨rfl,rfl,rfl⟩
 | .scope c,F,X,ex,F',af,ak,h=>by
   simp only[bT] at h⊢;split at h
   ·rename_i l aL X1 ao;rw[nE cS ae aa hU c _ _ _ _ _ ak ao];have oF:=ak.qB (lL ae hU c _ _ _ _ _ ao);simp only[];split at h
    ·rename_i rest aJ;exact aa _ _ _ _ _ _ _ _ _ oF h
    ·simp only[Option.some.injEq,Prod.mk.injEq] at h⊢;obtain⟨rfl,rfl,rfl⟩:=h;exact⟨rfl,rfl,rfl⟩
   ·rename_i bY;rw[nE cS ae aa hU c _ _ _ _ _ ak h];cases ex with
    |gt l=>exact absurd h (bY l F' af)
    |_=>rfl
 | .rangeFunc g _ _ _,F,X,ex,F',af,ak,h=>by
   simp only[bT] at h⊢;split at h<;>try(cases h;done)
   rename_i z a1;have qz:look (X.add m ob).aH F g=some z:=a1;simp only[qz];exact ayc cS ae ak h
 | .refuse _,_,_,_,_,_,_,h=>by simp[bT] at h
end
theorem P3{callf:bH}(cS:kP callf)(ae:fA callf){ord:Nat->Hint}{me:FuncId}{rd:Option Nat}{N fuel:Nat}:∀n,WT (fF P callf ord me rd N fuel n)
 |0,_,_,_,_,_,_,_,_,_,_,h=>by simp[fF] at h
 |n+1,m,ob,c,rest,F,X,ex,F',af,ak,h=>by
  have ba:=P3 cS ae (ord:=ord) (me:=me) (rd:=rd) (N:=N) (fuel:=fuel) n;have PY:FR (fF P callf ord me rd N fuel n):=AE ae n
  have h':(match bT P callf ord me rd N fuel (fF P callf ord me rd N fuel n) rest F X with
   |some (.gt l,F,X)=>(match findLabel c l with
    |some rest=>fF P callf ord me rd N fuel n c rest F X
    |none=>some (.gt l,F,X))
   |r=>r)=some (ex,F',af):=h
  show(match bT P callf ord me rd N fuel (fF P callf ord me rd N fuel n) rest F (X.add m ob) with
   |some (.gt l,F,X)=>(match findLabel c l with
    |some rest=>fF P callf ord me rd N fuel n c rest F X
    |none=>some (.gt l,F,X))
   |r=>r)=some (ex,F',af.add m ob)
  split at h'
  ·rename_i l aL X1 ao;rw[nE cS ae ba PY rest _ _ _ _ _ ak ao];have oF:=ak.qB (lL ae PY rest _ _ _ _ _ ao);simp only[];split at h'
   ·exact ba _ _ _ _ _ _ _ _ _ oF h'
   ·simp only[Option.some.injEq,Prod.mk.injEq] at h'⊢;obtain⟨rfl,rfl,rfl⟩:=h';exact⟨rfl,rfl,rfl⟩
  ·rename_i bY;rw[nE cS ae ba PY rest _ _ _ _ _ ak h'];cases ex with
   |gt l=>exact absurd h' (bY l F' af)
   |_=>rfl
end
section
variable{P:Program}{B:Nat}{aV w:World}{E:Env}{bg:List Deferred}{X:ah}
def E4(a:Act):ResultVar->Sem Value
 | .tmp t=>Pure.pure (a.tmps.getD t undef)
 | .cell b t=>do loadVar t (<- asAddr (a.tmps.getD b undef))
theorem ayF(fn:Func)(a:Act):results fn a.tmps=(do let vs <- fn.results.mapM (E4 a);Pure.pure (if h:vs.size=1 then vs[0] else .tuple vs)):=by
 unfold results;congr 1
theorem ayE{N:Nat}{F:av J}{a:Act}(ay:bK P B aV X E w)(aR:e3 bg N E F a){r:ResultVar}{y:J}(h:tA P F X r=some y):
 ∃v,(E4 a r).run P w= .ok v w/\Den E y v:=by
 cases r with
 |tmp t=>
  obtain⟨_,v,h1,h2⟩:=aR.2.2 t y h;exact⟨v,by simp[E4,h1],h2⟩
 |cell b t=>
  simp only[tA] at h;split at h<;>try(cases h;done)
  rename_i k off ag;obtain⟨_,v,h1,id,c,ai,h2⟩:=aR.2.2 b _ ag;obtain⟨u,aI,aF⟩:=ac7 ay h ai;exact⟨u,by simp[E4,h1,h2,asAddr,aI],aF⟩
theorem afC{N:Nat}{F:av J}{a:Act}(ay:bK P B aV X E w)(aR:e3 bg N E F a):∀{rs:List ResultVar} {ys:List J},oP P F X rs=some ys->
 ∃vs,(rs.mapM (E4 a)).run P w= .ok vs w/\cc E ys vs
 | [],ys,h=>by simp[oP] at h;subst h;exact⟨[],rfl,rfl⟩
 |r::rs,ys,h=>by
  simp only[oP] at h;split at h<;>try(cases h;done)
  rename_i y bb;split at h<;>try(cases h;done)
  rename_i u2 fk;cases h;obtain⟨v,h1,h2⟩:=ayE ay aR bb;obtain⟨vs,h3,aU⟩:=afC ay aR fk;refine⟨v::vs,?_,v,vs,h2,aU,rfl⟩;rw[List.mapM_cons,Sem.run_bind,h1];simp only[Result.andThen_ok,Sem.run_bind,h3,Sem.run_pure]
theorem ayC{ys:List J}{vs:List Value}(h:cc E ys vs):Den E (y4 ys) (if h:vs.toArray.size=1 then vs.toArray[0] else .tuple vs.toArray):=by
 match ys,vs,h with
 | [],vs,h=>cases h;exact⟨[],rfl,rfl⟩
 | [y],_,⟨v,vs,hv,rQ,e⟩=>cases rQ;subst e;exact hv
 |y::z::ys,_,⟨v,vs,hv,⟨u,us,hu,ym,bh⟩,e⟩=>
  subst bh;subst e;rw[dif_neg (by simp)];exact⟨_,⟨v,_,hv,⟨u,us,hu,ym,rfl⟩,rfl⟩,rfl⟩
theorem afD{N:Nat}{F:av J}{a:Act}{fn:Func}(ay:bK P B aV X E w)(aR:e3 bg N E F a){ys:List J}(h:oP P F X fn.results.toList=some ys):
 ∃v,(results fn a.tmps).run P w= .ok v w/\Den E (y4 ys) v:=by
 obtain⟨vs,h1,h2⟩:=afC ay aR h;refine⟨_,?_,ayC h2⟩;rw[ayF,Sem.run_bind,Array.mapM_eq_mapM_toList];simp only[Sem.run_map];rw[h1];simp
theorem agP{args:List J}{argv:List Value}{n:Nat}(h:cc E args argv)(aO:args.length<=n):
 og n E (gS .nil 0 args) (argv.toArray++Array.replicate (n-argv.toArray.size) undef):=by
 have aJ:=h.length;refine⟨by simp;omega,λj y aa=>?_⟩;rcases OO _ _ _ _ _ aa with⟨_,h2⟩|⟨_,h2⟩
 ·simp only[Nat.sub_zero] at h2;obtain⟨v,h3,aU⟩:=h.get _ _ h2
  have:=(List.getElem?_eq_some_iff.1 h3).1
  refine⟨by omega,v,?_,aU⟩;rw[Array.getElem?_append_left (by simpa using this)];simpa using h3
 ·cases h2
theorem aqz{N:Nat}{F:av J}{tmps:Array Value}(h:og N E F tmps){d:Nat}{y:J}{v:Value}(aF:Den E y v):og N E (put N F (some d) y) (tmps.setIfInBounds d v):=by
 have aR:e3 [] N E F {tmps,defers:=[]}:=⟨rfl,h⟩;exact(aR.put (d:=some d) aF).2
theorem aeg{N:Nat}:∀{ps:List Tmp} {F:av J} {tmps:Array Value} {args:List J} {argv:List Value},og N E F tmps->cc E args argv->args.length=ps.length->
 og N E (wq N F ps args) ((ps.zip argv).foldl (λtmps (t,a)=>tmps.setIfInBounds t a) tmps)
 | [],_,_,[],_,h,h',_=>by cases h';exact h
 | [],_,_,_::_,_,_,_,aJ=>by simp at aJ
 |_::_,_,_,[],_,_,_,aJ=>by simp at aJ
 |p::ps,F,tmps,x::xs,_,h,⟨v,vs,hv,rQ,e⟩,aJ=>by
  subst e;simp only[wq,List.zip_cons_cons,List.foldl_cons];exact aeg (aqz h hv) rQ (by simpa using aJ)
theorem af6{o o':bD}{st:LoopState}{p:Option Jump}(h:Fe o st p=some o'):∃uL q ord me N G ps a c b,o.sp= .loop uL q ord me N G ps a c b/\o'={o with ck:=o.ck+1,sp:= .loop st (Ee p q) ord me N G ps a c b}:=by
 unfold Fe at h;split at h<;>cases h
 rename_i aj;exact⟨_,_,_,_,_,_,_,_,_,_,aj,rfl⟩
def Ed(p:Option Jump)(q:Option Code):Option Code:=match p with
 |some p=>ti p
 |none=>q
theorem af5(ay:bK P B aV X E w){k id c:Nat}{st:LoopState}{p:Option Jump}{af:ah}(ai:E k=some (id,c))(h:pV X k st p=some af):
 ∃(r:Loop) (w':World),w.heap[id]?=some (.loop r)/\(setObj id (.loop {r with state:=st,pending:=Ed p r.pending})).run P w= .ok () w'/\bK P B aV af E w':=by
 unfold pV at h;split at h<;>try(cases h;done)
 rename_i o aq;split at h<;>try(cases h;done)
 rename_i o' aj;cases h;obtain⟨uL,q,ord,me,N,G,ps,a,da,b,vU,rfl⟩:=af6 aj;have bY:o.sp≠ .cells:=by rw[vU];simp
 obtain⟨gr,a2,cN,fj,_⟩:=ay.zb aq bY;rw[ai] at cN;cases cN;rw[vU] at fj;obtain⟨g0,fP,g1,g2,g3,g4,g5,g6,g7,g8⟩:=fj
 obtain⟨kO,DF,OW⟩:=ay.VQ (s:= .loop st (Ee p q) ord me N G ps a da b) (obj':= .loop {fP with state:=st,pending:=Ed p fP.pending}) aq bY ai
  ⟨g0,_,rfl,rfl,by cases p<;>simp[g3,Ee,Ed],g4,g5,g6,g7,g8⟩ P
 exact⟨fP,kO,g1,DF,OW⟩
theorem af4{k:Nat}{st:LoopState}{p:Option Jump}{af:ah}(h:pV X k st p=some af):af.pc=X.pc/\af.bs=X.bs:=by
 unfold pV at h;split at h<;>try(cases h;done)
 split at h<;>cases h
 exact⟨rfl,rfl⟩
theorem aos{o:bD}(h:isReady o=true):∃q ord me N G ps a c b,o.sp= .loop .ready q ord me N G ps a c b:=by
 unfold isReady at h;split at h
 ·exact⟨_,_,_,_,_,_,_,_,_,rfl⟩
 ·cases h
theorem ak1(ay:bK P B aV X E w){k id c:Nat}{D:List eK}{st:LoopState}{j:Jump}{b:Bool}{y:Out}{af:ah}(ai:E k=some (id,c))(h:endRound D X k st j b=some (y,af))(dk:st=if(ti j).isNone then .ready else .done)(ag:b=(ti j).isNone):
 y= .ret (.bool b)/\∃w',(Instr.endRound id (ti j)).run P w= .ok (.bool b) w'/\bK P B aV af E w':=by
 unfold endRound at h;split at h<;>try(cases h;done)
 rename_i X1 aj;cases h;obtain⟨r,w',h1,h2,h3⟩:=af5 ay ai aj;refine⟨rfl,w',?_,h3.gQ _⟩;subst dk;subst ag;cases j<;>simp[Ed,ti] at h2<;>simp[Instr.endRound,CW h1,ti,h2]
theorem ak0{k:Nat}{D:List eK}{st:LoopState}{j:Jump}{b:Bool}{y:Out}{af:ah}(h:endRound D X k st j b=some (y,af))(aA:cC af):cC X:=by
 unfold endRound at h;split at h<;>try(cases h;done)
 rename_i X1 aj;cases h
 have:=(af4 aj).1
 intro p PB;exact aA p (by show p∈X1.pc;rw[this];exact PB)
theorem ayV{ord:Nat->Hint}{k N:Nat}{cM:Code->av J->ah->R}{ps:Array Tmp}{eU body:Code}{F:av J}
 (jm:∀c F X ex F' af,fZ P ord true c=true->cM c F X=some (ex,F',af)->cC af->u4 P (some k) N c F X ex F' af)(k5:∀c F X ex F' af,cM c F X=some (ex,F',af)->eT X af)
 {o:bD}{st:LoopState}{ia:Jump}{me:FuncId}{jF:Nat}(aq:X.aS.get k=some o)(aj:o.sp= .loop st ia ord me N F ps eU body jF){args:List J}{y:Out}{af:ah}(h:lV cM k N F ps eU body args X=some (y,af))(aA:cC af):
 cC X/\∀B aV E w argv,bK P B aV X E w->cc E args argv->ra P E (.fm k) argv w (sw P B aV E y af):=by
 unfold lV at h;cases hlen:Nat.beq args.length ps.size with
 |false=>simp[hlen] at h
 |true=>
 have At:=Nat.eq_of_beq_eq_true hlen;simp only[hlen,cond_true] at h;split at h<;>try(cases h;done)
 rename_i aL X1 bX;split at h<;>try(cases h;done)
 rename_i dH iV;cases aI:isReady dH with
 |false=>simp[aI] at h
 |true=>
 simp only[aI,cond_true] at h;split at h<;>try(cases h;done)
 rename_i cU ag;obtain⟨ei,aDY,aDS,o9,sm,aD0,an,aQ,bR,ki⟩:=aos aI;have ace:=af4 ag
 have main:∀(j:Jump) (ex:hd) (dp:av J) (m0:ah) (Bz:LoopState) (gW:Bool),cM body aL cU=some (ex,dp,m0)->endRound X.bs m0 k Bz j gW=some (y,af)->(ex=Ix j)->(Bz=if(ti j).isNone then .ready else .done)->(gW=(ti j).isNone)->
  cC X/\∀B aV E w argv,bK P B aV X E w->cc E args argv->ra P E (.fm k) argv w (sw P B aV E y af):=by
  intro j ex dp m0 Bz gW gd rJ hex anT xR;have acd:cC m0:=ak0 rJ aA;have yj:cC cU:=(k5 _ _ _ _ _ _ gd).pc acd;have iX:cC X1:=λp PB=>yj p (by rw[ace.1];exact PB)
  refine⟨(eT.Br (l:=[]) (k5 _ _ _ _ _ _ bX)).pc iX,λB aV E w argv ay C8=>?_⟩;have bY:o.sp≠ .cells:=by rw[aj];simp
  obtain⟨id,c,ai,fj,_⟩:=ay.zb aq bY;rw[aj] at fj;obtain⟨⟨ap1,ap2⟩,r,g1,g2,g3,g4,g5,g6,g7,g8⟩:=fj;have dV:argv.toArray.size=r.params.size:=by rw[g4];have:=C8.length;simp;omega
  refine⟨id,c,r.fn,(r.params.zip argv.toArray).foldl (λtmps (t,a)=>tmps.setIfInBounds t a) r.tmps,r.assign,r.body,ai,?_,?_⟩
  ·simp only[Instr.yield,Sem.run_bind,CW g1,Result.andThen_ok];rw[if_neg (by simpa using dV)];rfl
  ·refine roundIn_of_wpIn (F:=fx none) trivial ?_;show Code.wpIn (fx (some id)) 0 P r.assign _ _ w;rw[g5,g6];obtain⟨_,iY⟩:=jm eU _ _ _ _ _ ap1 bX iX
   have am4:(r.params.zip argv.toArray).foldl (λtmps (t,a)=>tmps.setIfInBounds t a) r.tmps=(ps.toList.zip argv).foldl (λtmps (t,a)=>tmps.setIfInBounds t a) r.tmps:=by
    rw[<- Array.foldl_toList,Array.toList_zip,g4]
   have OY:e3 [] N E (wq N F ps.toList args) {tmps:=(r.params.zip argv.toArray).foldl (λtmps (t,a)=>tmps.setIfInBounds t a) r.tmps,defers:=[]}:=by
    refine⟨rfl,?_⟩;rw[am4];exact aeg g8 C8 (by simpa using At)
   refine iY (some id) B aV E [] _ w _ (ay.gQ []) OY rfl ⟨id,c,ai,rfl⟩ ?_;intro fz YG aij cQ az cd c1 n1 IH DY;cases DY;obtain⟨c5,cL,t1,t2,t3⟩:=af5 IH (cd.sub _ _ ai) ag
   have Ir:c5.state= .ready:=by
    obtain⟨i2,a3,Ar,acg,_⟩:=IH.zb iV (by rw[ki];simp);rw[cd.sub _ _ ai] at Ar;cases Ar;rw[ki] at acg;obtain⟨_,dM,ic,sd,_⟩:=acg;rw[t1] at ic;cases ic;exact sd
   refine⟨cL,?_,?_⟩
   ·simp only[Ed] at t2;simp[Instr.beginRound,CW t1,t2,Ir]
   ·obtain⟨_,bM⟩:=jm body _ _ _ _ _ ap2 gd acd;refine bM (some id) B aV fz YG aij cL _ t3 c1 (by rw[ace.2];exact n1) ⟨id,c,cd.sub _ _ ai,rfl⟩ ?_;intro wY akN aD gy aw hC e6 A0 wb rZ;obtain⟨rfl,kO,cI,cF⟩:=ak1 wb (hC.sub _ _ (cd.sub _ _ ai)) rJ anT xR;have post:sw P B aV E (.ret (.bool gW)) af (.returned (.bool gW)) kO:=⟨wY,cd.trans hC,cF,_,rfl,rfl⟩;subst hex;cases j with
    |none=>cases rZ;exact⟨_,kO,cI,post⟩
    |ret=>cases rZ;exact⟨_,kO,cI,post⟩
    |ex gr=>cases rZ;exact⟨_,kO,cI,post⟩
 split at h
 ·rename_i dp m0 gd;exact main .none .cu dp m0 _ _ gd h rfl rfl rfl
 ·rename_i dp m0 gd;exact main .ret .ret dp m0 _ _ gd h rfl rfl rfl
 ·rename_i id dp m0 gd;exact main (.ex id) (.ex id) dp m0 _ _ gd h rfl rfl rfl
 ·cases h
def ks(E:Env):Mode->FrameMode->Prop
 | .ret,m=>m= .returning
 | .cy bj,m=>∃l,ly E bj l/\m= .panicking l
theorem ks.sub{E aP:Env}(ay:Sub E aP){u:Mode}{m:FrameMode}(h:ks E u m):ks aP u m:=by
 cases u with
 |ret=>exact h
 |cy bj=>obtain⟨l,a,b⟩:=h;exact⟨l,a.sub ay,b⟩
def FX(E:Env):Out->Ending->Prop
 | .ret y,e=>∃v,e= .returned v/\Den E y v
 | .cy bj,e=>∃l,e= .panicked l/\ly E bj l
theorem ks.ne{u:Mode}{m:FrameMode}(h:ks E u m):m≠ .run:=by
 cases u with
 |ret=>cases h;simp
 |cy bj=>obtain⟨l,_,rfl⟩:=h;simp
theorem Yw:∀{bj:gB} {l:List PanicEntry},ly E bj l->l.dropWhile (!·.goexit)=[]
 | [],_,h=>by cases h;rfl
 |(_,_)::bj,_,⟨v,dw,_,h2,e⟩=>by subst e;simp[Yw h2]
theorem azH{u:Mode}{m:FrameMode}(h:ks E u m):ks E (af9 u) (settle m):=by
 cases u with
 |ret=>cases h;rfl
 |cy bj=>
  obtain⟨l,h1,rfl⟩:=h;cases bj with
  |nil=>cases h1;exact⟨[],rfl,rfl⟩
  |cons p bj=>
   obtain⟨v,r⟩:=p;have jT:=h1;obtain⟨u,dw,a,b,rfl⟩:=jT;cases r with
   |false=>exact⟨_,h1,rfl⟩
   |true=>
    show settle (.panicking ({v:=u,recovered:=true}::dw))= .returning;simp[settle,Yw b]
theorem ax2{u:Mode}{m:FrameMode}{bj:gB}{l:List PanicEntry}(h:ks E u m)(ae:ly E bj l):ks E (aft u bj) (raised m l):=by
 cases u with
 |ret=>cases h;exact⟨l,ae,rfl⟩
 |cy hN=>obtain⟨dw,h1,rfl⟩:=h;exact⟨l++dw,ae.append h1,rfl⟩
def WK(P:Program)(dcall:ns):Prop:=∀f args u X y dt af,dcall f args u X=some (y,dt,af)->cC af->
 (∃fn,P.funcs[f]?=some fn/\fn.body.isSome=true/\fn.name≠"runtime.NumGoroutine")/\∀B aV E w argv m,bK P B aV X E w->cc E args argv->ks E u m->
   CallsDIn (fx none) 0 P f argv.toArray m w λe gk w'=>∃aP,cJ E aP/\bK P B aV af aP w'/\ks aP dt gk/\FX aP y e
def FJ(dcall:ns):Prop:=∀f args u X y dt af,dcall f args u X=some (y,dt,af)->c7 X af
theorem yC{dcall:ns}(ai:FJ dcall){fn:Func}{F:av J}:∀{D:List eK} {u:Mode} {X af:ah} {y:Out},fG P dcall fn F D u X=some (y,af)->c7 X af
 | [],.ret,X,af,y,h=>by
   simp only[fG] at h;split at h<;>cases h
   exact c7.refl _
 | [],.cy bj,X,af,y,h=>by simp only[fG,Option.some.injEq,Prod.mk.injEq] at h;obtain⟨_,rfl⟩:=h;exact c7.refl _
 | .sI k::D,u,X,af,y,h=>by
   simp only[fG] at h;split at h<;>try(cases h;done)
   rename_i o aq;split at h<;>try(cases h;done)
   exact(c7.store aq (Nat.lt_succ_self _)).trans (yC ai h)
 | .call f xs ys::D,u,X,af,y,h=>by
   simp only[fG] at h;split at h
   ·rename_i aF;exact(ai _ _ _ _ _ _ _ aF).trans (yC ai h)
   ·rename_i aF;exact(ai _ _ _ _ _ _ _ aF).trans (yC ai h)
   ·cases h
theorem IL{dcall:ns}(aF:WK P dcall)(ai:FJ dcall){fn:Func}{F:av J}{N:Nat}{R:Ending->World->Prop}{af:ah}{y:Out}(aA:cC af):
 ∀(D:List eK) (u:Mode) (X:ah) (E:Env) (bg ua:List Deferred) (a:Act) (w:World) (m:FrameMode),fG P dcall fn F D u X=some (y,af)->bK P B aV X E w->e3 ua N E F a->jO E D bg->ks E u m->
  (∀aP e w',cJ E aP->bK P B aV af aP w'->FX aP y e->R e w')->LeavesInM (fx none) 0 P fn a.tmps R bg m w
 | [],.ret,X,E,bg,ua,a,w,m,h,ay,aR,cY,gb,dC=>by
   cases cY;cases gb;simp only[fG] at h;split at h<;>cases h
   rename_i ys fk;obtain⟨v,aI,hv⟩:=afD (fn:=fn) ay aR fk;exact⟨v,aI,dC E _ w (cJ.refl _) ay ⟨v,rfl,hv⟩⟩
 | [],.cy bj,X,E,bg,ua,a,w,m,h,ay,aR,cY,gb,dC=>by
   cases cY;obtain⟨l,O7,rfl⟩:=gb;simp only[fG,Option.some.injEq,Prod.mk.injEq] at h;obtain⟨rfl,rfl⟩:=h;exact dC E _ w (cJ.refl _) ay ⟨l,rfl,O7⟩
 | .sI k::D,u,X,E,bg,ua,a,w,m,h,ay,aR,cY,gb,dC=>by
   obtain⟨d,dG,⟨id,c,s6,rfl⟩,HW,rfl⟩:=cY;simp only[fG] at h;split at h<;>try(cases h;done)
   rename_i o aq;split at h<;>try(cases h;done)
   rename_i aj;have bY:o.sp≠ .cells:=by rw[aj];simp
   obtain⟨gr,a2,cN,fj,_⟩:=ay.zb aq bY;rw[s6] at cN;cases cN;rw[aj] at fj;have nU:w.heap[id]?=some (.deferred (some [])):=fj;obtain⟨w',DF,et⟩:=ay.VQ (s:= .jF true) (obj':= .deferred none) aq bY s6 rfl P;refine⟨gb.ne,.inl ⟨id,w',rfl,?_,IL aF ai aA D u _ E dG ua a w' m h et aR HW gb dC⟩⟩;have bd:(getObj id).run P w= .ok (.deferred (some [])) w:=al2 nU (nU▸fj);simp[Instr.takeDeferred,bd,DF]
 | .call f xs ys::D,u,X,E,bg,ua,a,w,m,h,ay,aR,cY,gb,dC=>by
   obtain⟨d,dG,⟨o3,Ll,aoc,aod,rfl⟩,HW,rfl⟩:=cY;simp only[fG] at h
   have core:∀{y1:Out} {ic:Mode} {X1:ah},dcall f (xs++ys) u X=some (y1,ic,X1)->cC X1->
    (∀fz e hC cQ,cJ E fz->bK P B aV X1 fz cQ->ks fz ic hC->FX fz y1 e->(match e with
      | .returned _=>LeavesInM (fx none) 0 P fn a.tmps R dG (settle hC) cQ
      | .panicked chain=>LeavesInM (fx none) 0 P fn a.tmps R dG (raised hC chain) cQ
      | .outgrown=>R .outgrown cQ))->LeavesInM (fx none) 0 P fn a.tmps R ({target:= .fn (.func f) Ll.toArray,args:=o3.toArray}::dG) m w:=by
    intro y1 ic X1 ft iX tc;obtain⟨⟨alF,xZ,gd,Dv⟩,ae⟩:=aF _ _ _ _ _ _ _ ft iX;have Dc:alF.body≠none:=λe=>by rw[e] at gd;cases gd
    refine⟨gb.ne,.inr ⟨(λh=>by cases h),.func f,Ll.toArray,f,(o3++Ll).toArray,rfl,?_,λ_ _=>trivial,?_⟩⟩
    ·simp[invoke,callFunc,xZ,Dv,Dc]
    ·refine(ae B aV E w (o3++Ll) m ay (aoc.append aod) gb).mono ?_
     rintro e hC cQ ⟨fz,h1,h2,h3,aU⟩
     have:=tc fz e hC cQ h1 h2 h3 aU
     cases e<;>exact this
   split at h
   ·rename_i z ic X1 ft;refine core ft ((yC ai h).pc aA) ?_
    rintro fz e hC cQ h1 h2 h3 ⟨v,rfl,_⟩
    exact IL aF ai aA D _ X1 fz dG ua a cQ _ h h2 (aR.mono h1) (HW.sub h1.sub) (azH h3) (λaP e w' cd=>dC aP e w' (h1.trans cd))
   ·rename_i bj ic X1 ft;refine core ft ((yC ai h).pc aA) ?_
    rintro fz e hC cQ h1 h2 h3 ⟨l,rfl,aJ⟩
    exact IL aF ai aA D _ X1 fz dG ua a cQ _ h h2 (aR.mono h1) (HW.sub h1.sub) (ax2 h3 aJ) (λaP e w' cd=>dC aP e w' (h1.trans cd))
   ·cases h
end
section
variable{P:Program}{B:Nat}{aV w:World}{E:Env}{bg:List Deferred}{X:ah}
def FY(P:Program)(B:Nat)(aV:World)(N:Nat)(E:Env)(ex:hd)(F':av J)(af:ah)(dt:Mode)(Q:Exit->Act->FrameMode->World->Prop):Prop:=
 ∀aP dG a' w' e gk,cJ E aP->e3 dG N aP F' a'->jO aP af.bs dG->bK P B aV af aP w'->ks aP dt gk->LB aP ex e->Q e a' gk w'
theorem FY.le{N:Nat}{E fz:Env}{ex:hd}{F':av J}{af:ah}{dt:Mode}{Q:Exit->Act->FrameMode->World->Prop}(h:FY P B aV N E ex F' af dt Q)(hle:cJ E fz):FY P B aV N fz ex F' af dt Q:=
 λaP dG a' w' e gk h1=>h aP dG a' w' e gk (hle.trans h1)
def zA(c0:Frame)(cs:List Frame)(Q:Exit->Act->FrameMode->World->Prop)(e:Exit)(a:Act)(m2:List Frame)(w:World):Prop:=∃gk,m2={c0 with mode:=gk}::cs/\Q e a gk w
def WG(P:Program)(N:Nat)(c:Code)(F:av J)(X:ah)(u:Mode)(ex:hd)(F':av J)(af:ah)(dt:Mode):Prop:=
 ∀B aV E bg a w m (c0:Frame) (cs:List Frame) (Q:Exit->Act->FrameMode->World->Prop),bK P B aV X E w->e3 bg N E F a->jO E X.bs bg->ks E u m->FY P B aV N E ex F' af dt Q->
  c.wpSIn (fx none) 0 P (zA c0 cs Q) a ({c0 with mode:=m}::cs) w
theorem ayo{u:Mode}{m:FrameMode}{c0:Frame}{cs:List Frame}(h:ks E u m):
 (∃v gk,recoverD ({c0 with mode:=m}::cs)=some (v,{c0 with mode:=gk}::cs)/\Den E (Bs u).1 v/\ks E (Bs u).2 gk)\/
 (recoverD ({c0 with mode:=m}::cs)=none/\(Bs u).1= .val .nilIface/\(Bs u).2=u):=by
 cases u with
 |ret=>cases h;exact .inr ⟨rfl,rfl,rfl⟩
 |cy bj=>
  obtain⟨l,h1,rfl⟩:=h;cases bj with
  |nil=>cases h1;exact .inr ⟨rfl,rfl,rfl⟩
  |cons p bj=>
   obtain⟨y,r⟩:=p;obtain⟨v,dw,a,b,rfl⟩:=h1;cases r with
   |false=>exact .inl ⟨v,.panicking ({v,recovered:=true}::dw),rfl,a,_,⟨v,dw,a,b,rfl⟩,rfl⟩
   |true=>exact .inr ⟨rfl,rfl,rfl⟩
theorem Cu{N:Nat}:∀{l:List Oper} {F F':av J} {X af:ah} {u dt:Mode},pr P N l F X u=some (F',af,dt)->c7 X af
 | [],_,_,_,_,_,_,h=>by simp only[pr,Option.some.injEq,Prod.mk.injEq] at h;obtain⟨_,rfl,_⟩:=h;exact c7.refl _
 |o::l,F,F',X,af,u,dt,h=>by
  simp only[pr] at h;split at h<;>try(cases h;done)
  cases aI:isRec o.op with
  |true=>rw[aI] at h;exact Cu h
  |false=>
   rw[aI] at h;simp only[cond_false] at h;split at h<;>try(cases h;done)
   split at h<;>try(cases h;done)
   rename_i aj;exact(Kw aj).trans (Cu h)
theorem Cv{N:Nat}{ops:Array Oper}{c0:Frame}{cs:List Frame}{Q:Exit->Act->FrameMode->World->Prop}{F':av J}{af:ah}{dt:Mode}(aA:cC af):
 ∀(n k:Nat) (F:av J) (X:ah) (u:Mode) (E:Env) (a:Act) (w:World) (m:FrameMode),k+n=ops.size->pr P N (ops.toList.drop k) F X u=some (F',af,dt)->bK P B aV X E w->e3 bg N E F a->ks E u m->
  (∀aP a' w' gk,cJ E aP->e3 bg N aP F' a'->bK P B aV af aP w'->ks aP dt gk->Q .normal a' gk w')->wpOpsSIn (fx none) 0 P ops (zA c0 cs Q) (List.range' k n) a ({c0 with mode:=m}::cs) w
 |0,k,F,X,u,E,a,w,m,ai,h,ay,aR,gb,cx=>by
  rw[List.drop_of_length_le (by simp;omega)] at h;simp only[pr,Option.some.injEq,Prod.mk.injEq] at h;obtain⟨rfl,rfl,rfl⟩:=h;exact⟨m,rfl,cx E a w m (cJ.refl _) aR ay gb⟩
 |n+1,k,F,X,u,E,a,w,m,ai,h,ay,aR,gb,cx=>by
  have a8:k<ops.toList.length:=by simp;omega
  rw[List.drop_eq_getElem_cons a8] at h;have aq:ops[k]?=some ops.toList[k]:=by simp[Array.getElem?_eq_getElem (show k<ops.size by omega)]
  generalize ops.toList[k]=o at h aq;rw[List.range'_succ];simp only[wpOpsSIn,aq];refine⟨λ_ _=>trivial,?_⟩;simp only[pr] at h;split at h<;>try(cases h;done)
  rename_i bd;have hw:Region.wanted o (yielded ops a.tmps)=true:=by simp[Region.wanted,bd]
  rw[if_pos hw];cases aI:isRec o.op with
  |true=>
   rw[aI] at h;simp only[cond_true] at h
   have fp:(execOp a.eval o).run P w= .ok .recover w:=by
    unfold isRec at aI;split at aI<;>try(cases aI;done)
    rename_i c ae;split at aI<;>try(cases aI;done)
    rename_i ag;simp[execOp,ae,resolve,ag,invoke,builtin]
   simp only[fp];rcases ayo (c0:=c0) (cs:=cs) gb with⟨v,gk,h1,h2,h3⟩|⟨h1,h2,h3⟩
   ·simp only[h1];exact Cv aA n (k+1) _ X _ E _ w gk (by omega) h ay (aR.put h2) h3 cx
   ·simp only[h1];rw[h2,h3] at h;exact Cv aA n (k+1) _ X _ E _ w m (by omega) h ay (aR.put (d:=o.dst) (v:= .nilIface) rfl) gb cx
  |false=>
   rw[aI] at h;simp only[cond_false] at h;split at h<;>try(cases h;done)
   rename_i bz aJ;split at h<;>try(cases h;done)
   rename_i y X1 aj;have iX:cC X1:=(Cu h).pc aA;obtain⟨fz,v,cQ,an,aD,a7,cw⟩:=VN ay (D2 ay aR aJ) iX aj;rcases aD with aD|⟨aD,rfl⟩
   ·simp only[aD];exact Cv aA n (k+1) _ X1 _ fz _ cQ m (by omega) h cw ((aR.mono an).put a7) (gb.sub an.sub) (λaP a' w' gk bR=>cx aP a' w' gk (an.trans bR))
   ·simp only[aD];exact Cv aA n (k+1) _ X1 _ fz _ cQ m (by omega) h cw ((aR.mono an).put a7) (gb.sub an.sub) (λaP a' w' gk bR=>cx aP a' w' gk (an.trans bR))
theorem zR{N:Nat}{cM:Code->av J->ah->R}(k5:∀c F X ex F' af,cM c F X=some (ex,F',af)->eT X af):∀(c:Code) (F:av J) (X:ah) (u:Mode) (ex:hd) (F':av J) (af:ah) (dt:Mode),hG P N cM c F X u=some (ex,F',af,dt)->eT X af:=by
 have plain:∀(c:Code) (F:av J) (X:ah) (u:Mode) (ex:hd) (F':av J) (af:ah) (dt:Mode),(match cM c F X with|some (ex,F,X)=>some (ex,F,X,u)|none=>none)=some (ex,F',af,dt)->eT X af:=by
  intro c F X u ex F' af dt h;split at h<;>cases h
  rename_i he;exact k5 _ _ _ _ _ _ he
 intro c
 induction c with
 |seq a b fE gu=>
  intro F X u ex F' af dt h;simp only[hG] at h;split at h
  ·rename_i h1;exact(fE _ _ _ _ _ _ _ h1).trans (gu _ _ _ _ _ _ _ h)
  ·exact fE _ _ _ _ _ _ _ h
 |cond c a b fE gu=>
  intro F X u ex F' af dt h;simp only[hG] at h;split at h<;>try(cases h;done)
  split at h
  ·rename_i ag;exact(rp ag).p0.trans (fE _ _ _ _ _ _ _ h)
  ·rename_i ag;exact(rp ag).p0.trans (gu _ _ _ _ _ _ _ h)
  ·cases h
 |region id ops d=>
  intro F X u ex F' af dt h;cases d with
  |true=>exact plain _ _ _ _ _ _ _ _ h
  |false=>
   simp only[hG] at h;cases aI:Al ops.toList with
   |true=>
    rw[aI] at h;simp only[cond_true] at h;split at h<;>cases h
    rename_i he;exact(Cu he).p0
   |false=>rw[aI] at h;exact plain _ _ _ _ _ _ _ _ h
 |_=>intro F X u ex F' af dt h;exact plain _ _ _ _ _ _ _ _ h
theorem aj9{N:Nat}{ord:Nat->Hint}{cM:Code->av J->ah->R}(jm:∀c F X ex F' af,fZ P ord false c=true->cM c F X=some (ex,F',af)->cC af->u4 P none N c F X ex F' af)
 (k5:∀c F X ex F' af,cM c F X=some (ex,F',af)->eT X af):∀(c:Code) (F:av J) (X:ah) (u:Mode) (ex:hd) (F':av J) (af:ah) (dt:Mode),fZ P ord false c=true->hG P N cM c F X u=some (ex,F',af,dt)->cC af->WG P N c F X u ex F' af dt:=by
 have plain:∀(c:Code) (F:av J) (X:ah) (u:Mode) (ex:hd) (F':av J) (af:ah) (dt:Mode),fZ P ord false c=true->(match cM c F X with|some (ex,F,X)=>some (ex,F,X,u)|none=>none)=some (ex,F',af,dt)->cC af->WG P N c F X u ex F' af dt:=by
  intro c F X u ex F' af dt dg h aA;split at h<;>cases h
  rename_i he;obtain⟨_,k⟩:=jm _ _ _ _ _ _ dg he aA;intro B aV E bg a w m c0 cs Q ay aR cY gb cx;refine wpSIn_of_wpIn rfl (k none B aV E bg a w _ ay aR cY rfl ?_);intro aP dG a' w' e h1 h2 h3 aU bA;exact⟨m,rfl,cx aP dG a' w' e m h1 h2 h3 aU (gb.sub h1.sub) bA⟩
 intro c
 induction c with
 |seq a b fE gu=>
  intro F X u ex F' af dt dg h aA;simp only[fZ,Bool.and_eq_true] at dg;simp only[hG] at h;split at h
  ·rename_i aL X1 ic h1;have iX:cC X1:=(zR k5 _ _ _ _ _ _ _ _ h).pc aA;have k1:=fE _ _ _ _ _ _ _ dg.1 h1 iX;have k2:=gu _ _ _ _ _ _ _ dg.2 h aA;intro B aV E bg a' w m c0 cs Q ay aR cY gb cx;refine wpSIn_seq ?_
   have:=k1 B aV E bg a' w m c0 cs (λe aD e6 cL=>Exit.thenS (b.wpSIn (fx none) 0 P (zA c0 cs Q)) (zA c0 cs Q) e aD ({c0 with mode:=e6}::cs) cL) ay aR cY gb ?_
   ·intro dx k x1 x2 x3 bV;obtain⟨e,aD,Yq,cL,l,⟨e6,rfl,q⟩,r⟩:=this dx k x1 x2 x3 bV;exact⟨e,aD,_,cL,l,q,r⟩
   ·intro aP dG aD cL e e6 g1 g2 g3 g4 g5 g6;cases g6;exact k2 B aV aP dG aD cL e6 c0 cs Q g4 g2 g3 g5 (cx.le g1)
  ·rename_i r bY;have k1:=fE _ _ _ _ _ _ _ dg.1 h aA;intro B aV E bg a' w m c0 cs Q ay aR cY gb cx;refine wpSIn_seq ?_
   have:=k1 B aV E bg a' w m c0 cs (λe aD e6 cL=>Exit.thenS (b.wpSIn (fx none) 0 P (zA c0 cs Q)) (zA c0 cs Q) e aD ({c0 with mode:=e6}::cs) cL) ay aR cY gb ?_
   ·intro dx k x1 x2 x3 bV;obtain⟨e,aD,Yq,cL,l,⟨e6,rfl,q⟩,r⟩:=this dx k x1 x2 x3 bV;exact⟨e,aD,_,cL,l,q,r⟩
   ·intro aP dG aD cL e e6 g1 g2 g3 g4 g5 g6;have aZ:=cx aP dG aD cL e e6 g1 g2 g3 g4 g5 g6;cases ex with
    |cu=>exact absurd h (bY F' af dt)
    |ex id=>cases g6;exact⟨e6,rfl,aZ⟩
    |ret=>cases g6;exact⟨e6,rfl,aZ⟩
    |gt l=>cases g6;exact⟨e6,rfl,aZ⟩
    |cy bj=>obtain⟨p,_,rfl⟩:=g6;exact⟨e6,rfl,aZ⟩
 |cond c a b fE gu=>
  intro F X u ex F' af dt dg h aA;simp only[fZ,Bool.and_eq_true] at dg;simp only[hG] at h;split at h<;>try(cases h;done)
  rename_i z a1;split at h
  ·rename_i X1 ag;have k1:=fE _ _ _ _ _ _ _ dg.1 h aA;have iX:cC X1:=(zR k5 _ _ _ _ _ _ _ _ h).pc aA;obtain⟨h1,h2,h3,aU⟩:=rq ag;intro B aV E bg a' w m c0 cs Q ay aR cY gb cx;exact wpSIn_cond ((h1 iX).2 _ _ (AZ ay aR a1)) (k1 B aV E bg a' w m c0 cs Q (ay.same h2 h3 aU) aR (by rw[Cc ag];exact cY) gb cx)
  ·rename_i X1 ag;have k1:=gu _ _ _ _ _ _ _ dg.2 h aA;have iX:cC X1:=(zR k5 _ _ _ _ _ _ _ _ h).pc aA;obtain⟨h1,h2,h3,aU⟩:=rq ag;intro B aV E bg a' w m c0 cs Q ay aR cY gb cx;exact wpSIn_cond ((h1 iX).2 _ _ (AZ ay aR a1)) (k1 B aV E bg a' w m c0 cs Q (ay.same h2 h3 aU) aR (by rw[Cc ag];exact cY) gb cx)
  ·cases h
 |region id ops d=>
  intro F X u ex F' af dt dg h aA;cases d with
  |true=>exact plain _ _ _ _ _ _ _ _ dg h aA
  |false=>
   simp only[hG] at h;cases aI:Al ops.toList with
   |true=>
    rw[aI] at h;simp only[cond_true] at h;split at h<;>cases h
    rename_i he;intro B aV E bg a' w m c0 cs Q ay aR cY gb cx;refine wpSIn_region ?_;rw[List.range_eq_range'];refine Cv (c0:=c0) (cs:=cs) aA ops.size 0 F X u E a' w m (by omega) (by simpa using he) ay aR gb ?_;intro aP aD cL e6 g1 g2 g3 g4;exact cx aP bg aD cL .normal e6 g1 g2 (by rw[(Cu he).bs];exact cY.sub g1.sub) g3 g4 rfl
   |false=>rw[aI] at h;exact plain _ _ _ _ _ _ _ _ dg h aA
 |_=>intro F X u ex F' af dt dg h aA;exact plain _ _ _ _ _ _ _ _ dg h aA
end
end Go.Xe
