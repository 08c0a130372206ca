import Derived.ProofKit
import Derived.OpenShut
import Derived.Carry
import Derived.ChangeOld
import Derived.Deep.DeepHandedRow
import Derived.Lib.LaidTab
import Derived.Test.YtomialandfplkaaDoorCards
import Derived.Test.YtomialandfplkaaDoorWInodeRunsm1
set_option linter.unusedSimpArgs false
set_option linter.unusedVariables false
set_option maxRecDepth 100000
set_option maxHeartbeats 400000
namespace Go.Xe
section
variable{P:Program}{B:Nat}{aY w:World}{E:Env}{bh:List Deferred}
def XG(dcall:nu):Prop:=∀f args u X y dz af m ob,dcall f args u X=some (y,dz,af)->c3 X m->dcall f args u (X.add m ob)=some (y,dz,af.add m ob)
section
variable{m:Nat}{ob:bH}{X af:ah}
theorem aAd{F:ax J}(an:c3 X m){r:ResultVar}{y:J}(h:tP P F X r=some y):tP P F (X.add m ob) r=some y:=by
 cases r with
 |tmp t=>exact h
 |cell b t=>
  simp only[tP] at h⊢;split at h<;>try(cases h;done)
  exact aed an h
theorem KY{F:ax J}(an:c3 X m):∀{rs:List ResultVar} {ys:List J},oP P F X rs=some ys->oP P F (X.add m ob) rs=some ys
 | [],ys,h=>h
 |r::rs,ys,h=>by
  simp only[oP] at h⊢;split at h<;>try(cases h;done)
  rename_i y bf;split at h<;>try(cases h;done)
  rename_i vk ft;rw[aAd an bf,KY an ft];exact h
theorem Jf{dcall:nu}(ai:F0 dcall)(c2:XG dcall){fn:Func}{F:ax J}:∀{D:List eO} {u:Mode} {X af:ah} {y:Out},c3 X m->fS P dcall fn F D u X=some (y,af)->fS P dcall fn F D u (X.add m ob)=some (y,af.add m ob)
 | [],.ret,X,af,y,an,h=>by
   simp only[fS] at h⊢;split at h<;>cases h
   rename_i ys ft;rw[KY an ft]
 | [],.cD bj,X,af,y,an,h=>by simp only[fS,Option.some.injEq,Prod.mk.injEq] at h⊢;obtain⟨rfl,rfl⟩:=h;exact⟨rfl,rfl⟩
 | .sU k::D,u,X,af,y,an,h=>by
   simp only[fS] at h⊢;split at h<;>try(cases h;done)
   rename_i o aq;simp only[(add_get an aq).1];split at h<;>try(cases h;done)
   rw[z2 an aq];exact Jf ai c2 (an.keeps (dh.store aq (Nat.lt_succ_self _))) h
 | .call f xs ys::D,u,X,af,y,an,h=>by
   simp only[fS] at h⊢;split at h
   ·rename_i aH;rw[c2 _ _ _ _ _ _ _ m ob aH an];exact Jf ai c2 (an.keeps (ai _ _ _ _ _ _ _ aH)) h
   ·rename_i aH;rw[c2 _ _ _ _ _ _ _ m ob aH an];exact Jf ai c2 (an.keeps (ai _ _ _ _ _ _ _ aH)) h
   ·cases h
theorem ahf{k:Nat}{st:LoopState}{p:Option Jump}(an:c3 X m)(h:p1 X k st p=some af):p1 (X.add m ob) k st p=some (af.add m ob):=by
 unfold p1 at h⊢;split at h<;>try(cases h;done)
 rename_i o aq;simp only[(add_get an aq).1];split at h<;>cases h
 rw[z2 an aq]
theorem WI{k:Nat}{st:LoopState}{p:Option Jump}(h:p1 X k st p=some af):dh X af:=by
 unfold p1 at h;split at h<;>try(cases h;done)
 rename_i o aq;split at h<;>cases h
 rename_i al;obtain⟨_,_,_,_,_,_,_,_,_,_,_,rfl⟩:=ahi al;exact dh.store aq (Nat.lt_succ_self _)
theorem NF{k:Nat}{D:List eO}{st:LoopState}{j:Jump}{b:Bool}{y:Out}(h:endRound D X k st j b=some (y,af)):eV X af/\af.bs=D:=by
 unfold endRound at h;split at h<;>cases h
 rename_i al;exact⟨(WI al).p5.gY _,rfl⟩
theorem ND{k:Nat}{D:List eO}{st:LoopState}{j:Jump}{b:Bool}{y:Out}(an:c3 X m)(h:endRound D X k st j b=some (y,af)):endRound D (X.add m ob) k st j b=some (y,af.add m ob):=by
 unfold endRound at h⊢;split at h<;>cases h
 rename_i al;rw[ahf an al];rfl
theorem aAw{cO:Code->ax J->ah->R}(k6:∀c F X ex F' af,cO c F X=some (ex,F',af)->eV X af){k N:Nat}{F:ax J}{ps:Array Tmp}{eW body:Code}{args:List J}{y:Out}(h:lU cO k N F ps eW body args X=some (y,af)):dh X af:=by
 unfold lU at h;cases hlen:Nat.beq args.length ps.size with
 |false=>simp[hlen] at h
 |true=>
 simp only[hlen,cond_true] at h;split at h<;>try(cases h;done)
 rename_i aM X1 b1;split at h<;>try(cases h;done)
 rename_i dN jf;cases aI:isReady dN with
 |false=>simp[aI] at h
 |true=>
 simp only[aI,cond_true] at h;split at h<;>try(cases h;done)
 rename_i c4 ag;have k1:=((eV.BL (l:=[]) (k6 _ _ _ _ _ _ b1)).trans (WI ag).p5);split at h
 ·rename_i gr;obtain⟨k2,hx⟩:=NF h;exact((k1.trans (k6 _ _ _ _ _ _ gr)).trans k2).to hx
 ·rename_i gr;obtain⟨k2,hx⟩:=NF h;exact((k1.trans (k6 _ _ _ _ _ _ gr)).trans k2).to hx
 ·rename_i gr;obtain⟨k2,hx⟩:=NF h;exact((k1.trans (k6 _ _ _ _ _ _ gr)).trans k2).to hx
 ·cases h
theorem aAu{cO:Code->ax J->ah->R}(k6:∀c F X ex F' af,cO c F X=some (ex,F',af)->eV X af)(AH:∀c F X ex F' af,c3 X m->cO c F X=some (ex,F',af)->cO c F (X.add m ob)=some (ex,F',af.add m ob))
 {k N:Nat}{F:ax J}{ps:Array Tmp}{eW body:Code}{args:List J}{y:Out}(an:c3 X m)(h:lU cO k N F ps eW body args X=some (y,af)):lU cO k N F ps eW body args (X.add m ob)=some (y,af.add m ob):=by
 unfold lU at h⊢;cases hlen:Nat.beq args.length ps.size with
 |false=>simp[hlen] at h
 |true=>
 simp only[hlen,cond_true] at h⊢;split at h<;>try(cases h;done)
 rename_i aM X1 b1;have az:cO eW (wH N F ps.toList args) {X.add m ob with bs:=[]}=some (.cz,aM,X1.add m ob):=AH eW _ {X with bs:=[]} _ _ _ (an.gY []) b1;have oI:c3 X1 m:=(an.gY []).qF (k6 _ _ _ _ _ _ b1);simp only[az];split at h<;>try(cases h;done)
 rename_i dN jf;simp only[(add_get oI jf).1];cases aI:isReady dN with
 |false=>simp[aI] at h
 |true=>
 simp only[aI,cond_true] at h⊢;split at h<;>try(cases h;done)
 rename_i c4 ag;have k7:c3 c4 m:=oI.keeps (WI ag);simp only[ahf oI ag];split at h
 ·rename_i gr;simp only[AH _ _ _ _ _ _ k7 gr];exact ND (k7.qF (k6 _ _ _ _ _ _ gr)) h
 ·rename_i gr;simp only[AH _ _ _ _ _ _ k7 gr];exact ND (k7.qF (k6 _ _ _ _ _ _ gr)) h
 ·rename_i gr;simp only[AH _ _ _ _ _ _ k7 gr];exact ND (k7.qF (k6 _ _ _ _ _ _ gr)) h
 ·cases h
theorem NO{N:Nat}:∀{l:List Oper} {F F':ax J} {X af:ah} {u dz:Mode},c3 X m->py P N l F X u=some (F',af,dz)->py P N l F (X.add m ob) u=some (F',af.add m ob,dz)
 | [],_,_,_,_,_,_,_,h=>by simp only[py,Option.some.injEq,Prod.mk.injEq] at h⊢;obtain⟨rfl,rfl,rfl⟩:=h;exact⟨rfl,rfl,rfl⟩
 |o::l,F,F',X,af,u,dz,an,h=>by
  simp only[py] at h⊢;split at h<;>try(cases h;done)
  rename_i bd
  try simp only[bd]
  cases aI:isRec o.op with
  |true=>rw[aI] at h;exact NO an h
  |false=>
   rw[aI] at h;simp only[cond_false] at h⊢;split at h<;>try(cases h;done)
   rename_i bA aL;have yp:looks (X.add m ob).aK F o.op.operands.toList=some bA:=aL;rw[yp];split at h<;>try(cases h;done)
   rename_i al;simp only[WG an al];exact NO (an.keeps (K3 al)) h
theorem alv{N:Nat}{cO:Code->ax J->ah->R}(k6:∀c F X ex F' af,cO c F X=some (ex,F',af)->eV X af)(AH:∀c F X ex F' af,c3 X m->cO c F X=some (ex,F',af)->cO c F (X.add m ob)=some (ex,F',af.add m ob)):
 ∀(c:Code) (F:ax J) (X:ah) (u:Mode) (ex:hq) (F':ax J) (af:ah) (dz:Mode),c3 X m->hU P N cO c F X u=some (ex,F',af,dz)->hU P N cO c F (X.add m ob) u=some (ex,F',af.add m ob,dz):=by
 have plain:∀(c:Code) (F:ax J) (X:ah) (u:Mode) (ex:hq) (F':ax J) (af:ah) (dz:Mode),c3 X m->(match cO c F X with|some (ex,F,X)=>some (ex,F,X,u)|none=>none)=some (ex,F',af,dz)->
  (match cO c F (X.add m ob) with|some (ex,F,X)=>some (ex,F,X,u)|none=>none)=some (ex,F',af.add m ob,dz):=by
  intro c F X u ex F' af dz an h;split at h<;>cases h
  rename_i he;rw[AH _ _ _ _ _ _ an he]
 intro c
 induction c with
 |seq a b fQ gG=>
  intro F X u ex F' af dz an h;simp only[hU] at h⊢;split at h
  ·rename_i h1;rw[fQ _ _ _ _ _ _ _ an h1];exact gG _ _ _ _ _ _ _ (an.qF (Ab k6 _ _ _ _ _ _ _ _ h1)) h
  ·rename_i b4;rw[fQ _ _ _ _ _ _ _ an h];cases ex with
   |cz=>exact absurd h (b4 F' af dz)
   |_=>rfl
 |cond c a b fQ gG=>
  intro F X u ex F' af dz an h;simp only[hU] at h⊢;split at h<;>try(cases h;done)
  rename_i z a1;have qD:look (X.add m ob).aK F c=some z:=a1;simp only[qD];split at h
  ·rename_i ag;rw[xC (m:=m) (ob:=ob) ag];exact fQ _ _ _ _ _ _ _ (an.keeps (rD ag)) h
  ·rename_i ag;rw[xC (m:=m) (ob:=ob) ag];exact gG _ _ _ _ _ _ _ (an.keeps (rD ag)) h
  ·cases h
 |region id ops d=>
  intro F X u ex F' af dz an h;cases d with
  |true=>exact plain _ _ _ _ _ _ _ _ an h
  |false=>
   simp only[hU] at h⊢;cases aI:AF ops.toList with
   |true=>
    rw[aI] at h;simp only[cond_true] at h⊢;split at h<;>cases h
    rename_i he;rw[NO an he]
   |false=>rw[aI] at h;exact plain _ _ _ _ _ _ _ _ an h
 |_=>intro F X u ex F' af dz an h;exact plain _ _ _ _ _ _ _ _ an h
end
theorem aqK{m:Nat}{ob:bH}{X:ah}(an:c3 X m){k:zQ}{args:List J}{z:J}(h:tD k args X=some z):tD k args (X.add m ob)=some z:=by cases h
theorem Ri{X:ah}(h:sd X=true):X.bs=[]:=by
 unfold sd at h;split at h
 ·assumption
 ·cases h
structure aiZ (P:Program) (a6:ca P) (callf:bL) (lf:Nat):Prop where
 AA:∀c F X ex F' af,gn P a6.ord false c=true->mA a6 callf lf c F X=some (ex,F',af)->cG af->vm P none a6.fn.ntmps c F X ex F' af
 keeps:∀c F X ex F' af,mA a6 callf lf c F X=some (ex,F',af)->eV X af
 frame:∀m ob c F X ex F' af,c3 X m->mA a6 callf lf c F X=some (ex,F',af)->mA a6 callf lf c F (X.add m ob)=some (ex,F',af.add m ob)
theorem Aj(hm:P.follows .mixedOrders=true)(a6:ca P){callf:bL}(lf:Nat)(cI:jD P callf)(ae:fM callf)(c2:kT callf):aiZ P a6 callf lf:=
 ⟨λc F X ex F' af dq h aC=>mB callf cI ae c2 hm (rd:=none) (QJ callf cI ae c2 hm lf) c F X ex F' af dq h aC,
  λc F X ex F' af h=>lF ae (AZ ae lf) c F X ex F' af h,
  λ_ _ c F X ex F' af an h=>nG c2 ae (QI c2 ae lf) (AZ ae lf) c F X ex F' af an h⟩
structure xf (P:Program) (e:l2):Prop where
 call:jD P e.call
 keeps:fM e.call
 frame:kT e.call
 dcall:XF P e.dcall
 CE:F0 e.dcall
 Zz:XG e.dcall
theorem OY{dcall:nu}{fn:Func}{r:R}{y:Out}{af:ah}(h:rN P dcall fn r=some (y,af)):∃ex F X u,r=some (ex,F,X)/\fS P dcall fn F X.bs u {X with bs:=[]}=some (y,af)/\
 ((ex= .cz/\u= .ret)\/(ex= .ret/\u= .ret)\/∃bj,ex= .cD bj/\u= .cD bj):=by
 unfold rN at h;split at h
 ·exact⟨_,_,_,_,rfl,h,.inl ⟨rfl,rfl⟩⟩
 ·exact⟨_,_,_,_,rfl,h,.inr (.inl ⟨rfl,rfl⟩)⟩
 ·exact⟨_,_,_,_,rfl,h,.inr (.inr ⟨_,rfl,rfl⟩)⟩
 ·cases h
theorem OX{fn:Func}{D:List eO}{r:Ms}{y:Out}{dz:Mode}{af:ah}(h:rM P fn D r=some (y,dz,af)):∃ex F X,r=some (ex,F,X,dz)/\X.bs=[]/\af={X with bs:=D}/\
 (((ex= .cz\/ex= .ret)/\∃ys,oP P F X fn.results.toList=some ys/\y= .ret (zl ys))\/∃bj,ex= .cD bj/\y= .cD bj):=by
 unfold rM at h;split at h
 ·rename_i F X u;cases aH:sd X with
  |false=>simp[aH] at h
  |true=>
   simp only[aH,cond_true] at h;split at h<;>cases h
   exact⟨_,_,_,rfl,Ri aH,rfl,.inl ⟨.inl rfl,_,by assumption,rfl⟩⟩
 ·rename_i F X u;cases aH:sd X with
  |false=>simp[aH] at h
  |true=>
   simp only[aH,cond_true] at h;split at h<;>cases h
   exact⟨_,_,_,rfl,Ri aH,rfl,.inl ⟨.inr rfl,_,by assumption,rfl⟩⟩
 ·rename_i bj F X u;cases aH:sd X with
  |false=>simp[aH] at h
  |true=>
   simp only[aH,cond_true] at h;cases h;exact⟨_,_,_,rfl,Ri aH,rfl,.inr ⟨_,rfl,rfl⟩⟩
 ·cases h
theorem adE(a6:ca P){f:FuncId}(an:a6.f=f):P.funcs[f]?=some a6.fn/\a6.fn.body.isSome=true/\a6.fn.name≠"runtime.NumGoroutine"/\a6.fn.body=some (a6.fn.body.getD .skip):=by
 refine⟨by rw[<- an];exact a6.QF,a6.adD,by simpa using a6.QG,?_⟩
 have:=a6.adD
 cases ag:a6.fn.body with
 |none=>rw[ag] at this;cases this
 |some c=>rfl
theorem Pr{e:l2}{a6:ca P}{lf:Nat}{f:FuncId}{args:List J}{X af:ah}{y:Out}(h:ih e a6 lf f args X=some (y,af)):a6.f=f/\args.length<=a6.fn.ntmps/\
 ∃X1,rN P e.dcall a6.fn (mA a6 e.call lf (a6.fn.body.getD .skip) (ha .nil 0 args) {X with bs:=[]})=some (y,X1)/\af={X1 with bs:=X.bs}:=by
 unfold ih at h;cases h1:Nat.beq a6.f f with
 |false=>simp[h1] at h
 |true=>
  cases h2:Nat.ble args.length a6.fn.ntmps with
  |false=>simp[h1,h2] at h
  |true=>
   simp only[h1,h2,Bool.and_self,cond_true] at h;unfold w2 at h;split at h<;>cases h
   exact⟨Nat.eq_of_beq_eq_true h1,Nat.le_of_ble_eq_true h2,_,by assumption,rfl⟩
theorem aco{e:l2}(he:xf P e)(hm:P.follows .mixedOrders=true){a6:ca P}{lf:Nat}{f:FuncId}{args:List J}{X af:ah}{y:Out}(h:ih e a6 lf f args X=some (y,af)):dh X af:=by
 obtain⟨_,_,X1,mK,rfl⟩:=Pr h;obtain⟨ex,F,c4,u,ju,AO,_⟩:=OY mK;have ok:=Aj hm a6 lf he.call he.keeps he.frame;have k1:=eV.BL (l:=[]) (ok.keeps _ _ _ _ _ _ ju);have k2:=(k1.gY []).trans (yS he.CE AO).p5;exact(k2.gY _).to rfl
theorem Pt{e:l2}(he:xf P e)(hm:P.follows .mixedOrders=true){a6:ca P}{lf:Nat}{f:FuncId}{args:List J}{X af:ah}{y:Out}(h:ih e a6 lf f args X=some (y,af))(aC:cG af):
 ∀B aY E w argv,bP P B aY X E w->cg E args argv->rl P E (.iF f) argv w (sI P B aY E y af):=by
 obtain⟨an,hlen,X1,mK,rfl⟩:=Pr h;obtain⟨ex,F,c4,u,ju,AO,hex⟩:=OY mK;have ok:=Aj hm a6 lf he.call he.keeps he.frame;obtain⟨h1,h2,h3,aW⟩:=adE a6 an;have jg:cG X1:=aC;have yB:cG c4:=(yS he.CE AO).pc jg;obtain⟨_,k⟩:=ok.AA _ _ _ _ _ _ a6.adF ju yB;intro B aY E w argv aB aH;refine⟨a6.fn,h1,h2,h3,callsIn_of_wp_marks h1 aW trivial ?_⟩;refine k none B aY E [] _ w _ (aB.gY []) ⟨rfl,ah7 aH hlen⟩ rfl rfl ?_;intro aQ dM a' w' Af ak aD a7 cw dB
 have fin:∀Ls,kD aQ u Ls->LeavesInM (fH none) 0 P a6.fn a'.tmps (sI P B aY E y {X1 with bs:=X.bs}) a'.defers Ls w':=λLs apj=>by
  rw[aD.1];refine Jg he.dcall he.CE (N:=a6.fn.ntmps) jg _ u _ aQ dM dM a' w' Ls AO (cw.gY _) aD a7 apj ?_;intro xe aA cy bX b2 hf;refine⟨xe,ak.trans bX,b2.gY _,?_⟩;cases y with
  |ret z=>exact hf
  |cD bj=>exact hf
 rcases hex with⟨rfl,rfl⟩|⟨rfl,rfl⟩|⟨bj,rfl,rfl⟩
 ·cases dB;exact fin .returning rfl
 ·cases dB;exact fin .returning rfl
 ·obtain⟨p,mN,rfl⟩:=dB;exact fin (.panicking p) ⟨p,mN,rfl⟩
theorem acn{e:l2}(he:xf P e)(hm:P.follows .mixedOrders=true){a6:ca P}{lf:Nat}{f:FuncId}{args:List J}{X af:ah}{y:Out}{m:Nat}{ob:bH}(an:c3 X m)(h:ih e a6 lf f args X=some (y,af)):ih e a6 lf f args (X.add m ob)=some (y,af.add m ob):=by
 have h0:=h;obtain⟨qw,hlen,X1,mK,rfl⟩:=Pr h;obtain⟨ex,F,c4,u,ju,AO,hex⟩:=OY mK;have ok:=Aj hm a6 lf he.call he.keeps he.frame;have az:=ok.frame m ob _ _ _ _ _ _ (an.gY []) ju;have k7:c3 c4 m:=(an.gY []).qF (ok.keeps _ _ _ _ _ _ ju);have aA:=Jf (ob:=ob) he.CE he.Zz (k7.gY []) AO;unfold ih;have bX:Nat.beq a6.f f=true:=by simp[qw]
 have b2:Nat.ble args.length a6.fn.ntmps=true:=by rw[Nat.ble_eq];exact hlen
 rw[bX,b2];simp only[Bool.and_self,cond_true];rw[show({X.add m ob with bs:=[]}:ah)=({X with bs:=[]}:ah).add m ob from rfl,az]
 have cj:rN P e.dcall a6.fn (some (ex,F,c4.add m ob))=some (y,X1.add m ob):=by
  rcases hex with⟨rfl,rfl⟩|⟨rfl,rfl⟩|⟨bj,rfl,rfl⟩<;>exact aA
 rw[cj];rfl
theorem NL(tab:ax (MR P))(lf:Nat)(hm:P.follows .mixedOrders=true):∀fuel,xf P (iZ P tab lf fuel)
 |0=>⟨λ_ _ _ _ _ h=>by simp[iZ] at h,λ_ _ _ _ _ h=>by simp[iZ] at h,λ_ _ _ _ _ _ _ h=>by simp[iZ] at h,λ_ _ _ _ _ _ _ h=>by simp[iZ] at h,λ_ _ _ _ _ _ _ h=>by simp[iZ] at h,λ_ _ _ _ _ _ _ _ _ h=>by simp[iZ] at h⟩
 |fuel+1=>by
  have he:=NL tab lf hm fuel;generalize acV:iZ P tab lf fuel=bc at he
  have cI:∀c args X,(iZ P tab lf (fuel+1)).call c args X=match c with
   | .fn f=>(match tab.get f with
     |some (.fn a6)=>ih bc a6 lf f args X
     |some (.nat l0)=>bif Nat.beq l0.f f then(match tD l0.k args X with|some y=>some (.ret y,X)|none=>none) else none
     |none=>none)
   | .iF f=>(match tab.get f with
     |some (.fn a6)=>ih bc a6 lf f args X
     |_=>none)
   | .fw k=>(match X.aV.get k with
     |some o=>match o.sp with
      | .loop _ _ ord me N F ps a c _=>lU (bY P bc.call ord me (some k) N lf (fR P bc.call ord me (some k) N lf lf)) k N F ps a c args X
      |_=>none
     |none=>none):=λc args X=>by rw[<- acV];cases c<;>rfl
  have acS:∀f args u X,(iZ P tab lf (fuel+1)).dcall f args u X=match tab.get f with
   |some (.fn a6)=>bif Nat.beq a6.f f&&Nat.ble args.length a6.fn.ntmps then rM P a6.fn X.bs (hU P a6.fn.ntmps (mA a6 bc.call lf) (a6.fn.body.getD .skip) (ha .nil 0 args) {X with bs:=[]} u) else none
   |_=>none:=λf args u X=>by rw[<- acV];rfl
  have Ws:∀{ord:Nat->Hint} {me:FuncId} {k N:Nat},∀c F X ex F' af,bY P bc.call ord me (some k) N lf (fR P bc.call ord me (some k) N lf lf) c F X=some (ex,F',af)->eV X af:=λc F X ex F' af h=>lF he.keeps (AZ he.keeps lf) c F X ex F' af h
  have Nw:∀{f args u X y dz af},(iZ P tab lf (fuel+1)).dcall f args u X=some (y,dz,af)->∃a6:ca P,tab.get f=some (.fn a6)/\a6.f=f/\args.length<=a6.fn.ntmps/\
   rM P a6.fn X.bs (hU P a6.fn.ntmps (mA a6 bc.call lf) (a6.fn.body.getD .skip) (ha .nil 0 args) {X with bs:=[]} u)=some (y,dz,af):=by
   intro f args u X y dz af h;rw[acS] at h;split at h<;>try(cases h;done)
   rename_i a6 D3;cases h1:Nat.beq a6.f f with
   |false=>simp[h1] at h
   |true=>
    cases h2:Nat.ble args.length a6.fn.ntmps with
    |false=>simp[h1,h2] at h
    |true=>
     simp only[h1,h2,Bool.and_self,cond_true] at h;exact⟨a6,D3,Nat.eq_of_beq_eq_true h1,Nat.le_of_ble_eq_true h2,h⟩
  have keeps:fM (iZ P tab lf (fuel+1)).call:=by
   intro c args X y af h;rw[cI] at h;cases c with
   |fn f=>
    simp only at h;split at h
    ·exact aco he hm h
    ·rename_i l0 _;cases ag:Nat.beq l0.f f with
     |false=>simp[ag] at h
     |true=>
      simp only[ag,cond_true] at h;split at h<;>cases h
      exact dh.refl _
    ·cases h
   |iF f=>
    simp only at h;split at h
    ·exact aco he hm h
    ·cases h
   |fw k=>
    simp only at h;split at h<;>try(cases h;done)
    split at h<;>try(cases h;done)
    exact aAw Ws h
  refine⟨λc args X y af h aC=>?_,keeps,λc args X y af m ob h an=>?_,λf args u X y dz af h aC=>?_,λf args u X y dz af h=>?_,λf args u X y dz af m ob h an=>?_⟩
  ·refine⟨(keeps _ _ _ _ _ h).pc aC,?_⟩;rw[cI] at h;cases c with
   |fn f=>
    simp only at h;split at h
    ·intro B aY E w argv aB aH;exact .inl (Pt he hm h aC B aY E w argv aB aH)
    ·rename_i l0 _;cases ag:Nat.beq l0.f f with
     |false=>simp[ag] at h
     |true=>
      simp only[ag,cond_true] at h;split at h<;>cases h
      rename_i z a1;intro B aY E w argv aB aH;obtain⟨v,aI,hv⟩:=aqL aB aH a1;have aop:=Nat.eq_of_beq_eq_true ag;refine .inr ⟨v,w,?_,E,cM.refl _,aB,v,rfl,hv⟩;rw[run_callFunc_extern (by rw[<- aop];exact l0.QF) l0.QG l0.aq4 l0.aq5 l0.apL,aI];rfl
    ·cases h
   |iF f=>
    simp only at h;split at h
    ·exact Pt he hm h aC
    ·cases h
   |fw k=>
    simp only at h;split at h<;>try(cases h;done)
    rename_i o aq;split at h<;>try(cases h;done)
    rename_i al;refine(aAv (λc F X ex F' af dq h aC=>mB bc.call he.call he.keeps he.frame hm (rd:=some k) (QJ bc.call he.call he.keeps he.frame hm lf) c F X ex F' af dq h aC) Ws aq al h aC).2
  ·rw[cI] at h⊢;cases c with
   |fn f=>
    simp only at h⊢;split at h
    ·exact acn he hm an h
    ·rename_i l0 _;cases ag:Nat.beq l0.f f with
     |false=>simp[ag] at h
     |true=>
      simp only[ag,cond_true] at h⊢;split at h<;>cases h
      rename_i z a1;rw[aqK an a1]
    ·cases h
   |iF f=>
    simp only at h⊢;split at h
    ·exact acn he hm an h
    ·cases h
   |fw k=>
    simp only at h⊢;split at h<;>try(cases h;done)
    rename_i o aq;simp only[(add_get an aq).1];split at h<;>try(cases h;done)
    exact aAu Ws (λc F X ex F' af an h=>nG he.frame he.keeps (QI he.frame he.keeps lf) (AZ he.keeps lf) c F X ex F' af an h) an h
  ·obtain⟨a6,D3,qw,hlen,mK⟩:=Nw h;obtain⟨ex,F,c4,ju,oH,rfl,hex⟩:=OX mK;have ok:=Aj hm a6 lf he.call he.keeps he.frame;obtain⟨h1,h2,h3,aW⟩:=adE a6 qw;refine⟨⟨a6.fn,h1,h2,h3⟩,λB aY E w argv m aB aH gq=>?_⟩;have yB:cG c4:=aC;have kd:=alw ok.AA ok.keeps _ _ _ _ _ _ _ _ a6.adF ju yB;refine callsDIn_of_wpSIn h1 aW trivial λc0 cs mf=>?_
   have aoc:c0={c0 with mode:=m}:=by subst mf;rfl
   have key:=kd B aY E [] {tmps:=argv.toArray++Array.replicate (a6.fn.ntmps-argv.toArray.size) undef,defers:=[]} w m c0 cs
    (λe a' gx w'=>bodyPostS P a6.fn c0 cs (λe gx w'=>∃aQ,cM E aQ/\bP P B aY {c4 with bs:=X.bs} aQ w'/\kD aQ dz gx/\Gf aQ y e) e a' ({c0 with mode:=gx}::cs) w') (aB.gY []) ⟨rfl,ah7 aH hlen⟩ rfl gq ?_
   ·rw[<- aoc] at key;intro dA k x1 x2 x3 bC;obtain⟨e,aD,Zk,cy,l,⟨e0,rfl,q⟩,r⟩:=key dA k x1 x2 x3 bC;exact⟨e,aD,_,cy,l,q,r⟩
   ·intro aQ dM a' w' e gx g1 g2 g3 g4 g5 g6;rw[oH] at g3;have PU:a'.defers=[]:=by rw[g2.1];exact g3
    rcases hex with⟨hex,ys,ft,rfl⟩|⟨bj,rfl,rfl⟩
    ·obtain⟨v,aI,hv⟩:=agN (fn:=a6.fn) g4 g2 ft;rcases hex with rfl|rfl
     ·cases g6;exact⟨PU,gx,rfl,v,aI,aQ,g1,g4.gY _,g5,v,rfl,hv⟩
     ·cases g6;exact⟨PU,gx,rfl,v,aI,aQ,g1,g4.gY _,g5,v,rfl,hv⟩
    ·obtain⟨p,mN,rfl⟩:=g6;exact⟨PU,gx,rfl,aQ,g1,g4.gY _,g5,p,rfl,mN⟩
  ·obtain⟨a6,D3,qw,hlen,mK⟩:=Nw h;obtain⟨ex,F,c4,ju,oH,rfl,hex⟩:=OX mK;have ok:=Aj hm a6 lf he.call he.keeps he.frame;have k1:=eV.BL (l:=[]) (Ab ok.keeps _ _ _ _ _ _ _ _ ju);exact(k1.gY _).to rfl
  ·obtain⟨a6,D3,qw,hlen,mK⟩:=Nw h;obtain⟨ex,F,c4,ju,oH,rfl,hex⟩:=OX mK;have ok:=Aj hm a6 lf he.call he.keeps he.frame;have az:=alv ok.keeps (ok.frame m ob) _ _ _ _ _ _ _ _ (an.gY []) ju;have k7:c3 c4 m:=(an.gY []).qF (Ab ok.keeps _ _ _ _ _ _ _ _ ju);rw[acS,D3];have bX:Nat.beq a6.f f=true:=by simp[qw]
   have b2:Nat.ble args.length a6.fn.ntmps=true:=by rw[Nat.ble_eq];exact hlen
   simp only[bX,b2,Bool.and_self,cond_true];rw[show({X.add m ob with bs:=[]}:ah)=({X with bs:=[]}:ah).add m ob from rfl,az];have aO:sd (c4.add m ob)=true:=by show sd c4=true;unfold sd;rw[oH]
   rcases hex with⟨hex,ys,ft,rfl⟩|⟨bj,rfl,rfl⟩
   ·rcases hex with rfl|rfl
    ·simp only[rM,aO,cond_true,KY k7 ft];rfl
    ·simp only[rM,aO,cond_true,KY k7 ft];rfl
   ·simp only[rM,aO,cond_true];rfl
def Start(aK:Nat)(aV:cE)(w:World):Prop:=
 aK<=w.heap.size/\∀k o,aV.get k=some o->k<aK/\o.ro=true/\o.sp= .cells/\∀P E,lz P E o w.heap[k]? 0
theorem amk{aK:Nat}{aV:cE}{cK:List Bool}{w:World}(h:Start aK aV w):
 bP P w.heap.size w {aK,next:=aK,aV,cK,pc:=[],bs:=[]} {f:=λk=>if k<aK then some (k,0) else none,n:=0} w:=by
 refine⟨rfl,rfl,rfl,Nat.le_refl _,λ_ _=>rfl,λk o ai=>?_,λk b5 o o' id c a3 ai cP he fF=>?_,λk ai=>?_,λg bd=>⟨0,if_pos bd⟩,Nat.zero_le _⟩
 ·obtain⟨h1,h2,aW,h3⟩:=h.2 k o ai
  exact⟨k,0,if_pos h1,h3 _ _,λh=>by
   rcases h with h|h
   ·rw[h2] at h;cases h
   ·exact absurd aW h⟩
 ·obtain⟨h1,_⟩:=h.2 k o ai;obtain⟨jY,_⟩:=h.2 b5 o' cP;have he:=(if_pos h1).symm.trans he;have fF:=(if_pos jY).symm.trans fF;cases he;cases fF;rfl
 ·have cP:aK<=k:=ai;exact if_neg (by omega)
theorem bP.below{X:ah}(h:bP P aY.heap.size aY X E w):RowKit.Below aY.heap.size aY w:=⟨h.os,h.tape,h.output,h.base,h.gz⟩
end
section
open Go.ChangeShapes Go.WideShapes Go.ChangeAt Go.RowKit
section
variable{H:Type}{enc:TypeId×Value->H}{P:Program}{W W':World}
theorem aia(aL:laidOutB P=true)(ag:Below W.heap.size W W'):∀{c9:List TypeId} {vs:List Value} {bh:List (DataW H)} {ps:List MemPlace},(∀t∈c9,P.readableRec t=true/\t<P.types.size)->
 DataW.TrodAll enc P W 0 (λ_=>true) true c9 vs bh ps->(∀x∈ps,x.block<W.heap.size)->DataW.TrodAll enc P W' 0 (λb=>decide (b<W.heap.size)) true c9 vs bh ps
 | [],vs,bh,ps,_,h,_=>by
   obtain⟨rfl,rfl,rfl⟩:=trodAll_nil h;exact trodAll_mk0
 |t::c9,vs,bh,ps,aN,h,ba=>by
  obtain⟨v,BV,d,dM,p,q,rfl,rfl,rfl,h0,h1⟩:=trodAll_cons h
  have:=aN t (List.mem_cons_self ..)
  exact trodAll_cons_mk (Below.trod aL this.1 this.2 h0 ag λx ar=>ba x (List.mem_append_left _ ar))
   (aia aL ag (λt apf=>aN t (List.mem_cons_of_mem _ apf)) h1 λx ar=>ba x (List.mem_append_right _ ar))
theorem aqd{s:ChangeSpec}{f:Func}{args:Array Value}{bh gs:List (DataW H)}{before:List MemPlace}{t:TypeId}(oE:DataW.Whole enc P f.params.toList s.vars false W args.toList bh gs before)
 (adu:s.vars=[])(AS:f.resultTypes= #[t])(aN:P.underlying t=some .bool)(Ql:s.fn H (bh++[])={results:=[.lit (.bool true)],args:=bh})
 (ag:Below W.heap.size W W')(aL:laidOutB P=true)(aI:∀t∈f.params.toList,P.readableRec t=true/\t<P.types.size):
 s.post enc P f false true false false W args (.bool true) W':=by
 have ba:=oE.lt;have uF:=oE;obtain⟨p,q,tb,AE,rfl,oJ,rU⟩:=oE;rw[adu] at AE;obtain⟨rfl,rfl⟩:=trodVars_none AE;refine⟨bh,[],p++[],[],p,[],uF,?_,?_,?_,ag.frame _,λh=>by cases h⟩
 ·rw[Ql,AS];exact trodAll_cons_mk (shut_bool aN _) trodAll_mk0
 ·rw[Ql];exact aia aL ag aI tb λx ar=>ba x (List.mem_append_left _ ar)
 ·rw[Ql,adu];rfl
def W1(ty n:Nat)(l:List J):bH:={cn:=0,ty,n,loose:=false,esz:=1,ro:=true,mz:=λ_=>none,fy:=p6 l,sp:= .cells}
theorem aCT{g ty n:Nat}{k:IntKind}{zs:List Int}(h:∀i,i<zs.length->W.cell? ⟨g,i,none⟩=some (.int k (zs.getD i 0)))(h0:0<zs.length)(P:Program)(E:Env):
 lz P E (W1 ty n (zs.map (.int k))) W.heap[g]? 0:=by
 have ck:=h 0 h0;unfold World.cell? at ck;split at ck<;>try(cases ck;done)
 rename_i c e f ag;refine .inl ⟨rfl,c,e,f.1,f.2,ag,λj y aa=>?_,λh=>by cases h⟩;have ba:=bH.x4 aa;unfold bH.get at aa;have nP:Nat.blt j n=true:=by rw[Nat.blt_eq];exact ba
 simp only[W1,nP,cond_true] at aa;cases aq:(p6 (zs.map (J.int k))).get j with
 |none=>simp[aq] at aa
 |some z=>
  simp only[aq,Option.some.injEq] at aa;subst aa;have h1:=Iq _ _ _ aq;simp only[List.getElem?_map,Option.map_eq_some_iff] at h1;obtain⟨x,ar,rfl⟩:=h1;have hs:=(List.getElem?_eq_some_iff.1 ar).1;have h2:=h j hs;simp only[World.cell?,ag] at h2;exact⟨_,h2,by simp[List.getD,ar,Den]⟩
end
end
section
variable{P:Program}{W:World}
def Lj(g ty n:Nat)(l:List J):cE:=cE.put {iS:= .nil,base:=λ_=>none} g (W1 ty n l)
theorem aBB{g ty n:Nat}{k:IntKind}{zs:List Int}(h:∀i,i<zs.length->W.cell? ⟨g,i,none⟩=some (.int k (zs.getD i 0)))(h0:0<zs.length):
 Start (g+1) (Lj g ty n (zs.map (.int k))) W:=by
 refine⟨?_,λj o bd=>?_⟩
 ·have ck:=h 0 h0;unfold World.cell? at ck;split at ck<;>try(cases ck;done)
  rename_i ag
  have:=(Array.getElem?_eq_some_iff.1 ag).1
  simp only at this;omega
 ·rcases cE.iI bd with⟨rfl,rfl⟩|⟨_,h2⟩
  ·exact⟨by omega,rfl,rfl,λP E=>aCT h h0 P E⟩
  ·simp[cE.get,ax.get] at h2
end
noncomputable section
def za:Nat->Nat->List Bool
 |0,_=>[]
 |f+1,i=>bif Nat.beq i 0 then[] else bif Nat.beq (i%2) 1 then true::za f (i/2) else false::za f (i/2-1)
def path(i:Nat):List Bool:=za (i+1) i
def m7{α:Type}:List Bool->ax α->Option α:=λp=>List.rec (motive:=λ_=>ax α->Option α)
 (λt=>ax.rec (motive:=λ_=>Option α) none (λv _ _ _ _=>v) t)
 (λb _ bc t=>ax.rec (motive:=λ_=>Option α) none (λ_ l r _ _=>Bool.rec (motive:=λ_=>Option α) (bc r) (bc l) b) t) p
def Er{α:Type}(x:α):List Bool->ax α->ax α:=λp=>List.rec (motive:=λ_=>ax α->ax α)
 (λt=>ax.rec (motive:=λ_=>ax α) (.node (some x) .nil .nil) (λ_ l r _ _=> .node (some x) l r) t)
 (λb _ bc t=>Bool.rec (motive:=λ_=>ax α) (ax.rec (motive:=λ_=>ax α) (.node none .nil (bc .nil)) (λv l r _ _=> .node v l (bc r)) t)
   (ax.rec (motive:=λ_=>ax α) (.node none (bc .nil) .nil) (λv l r _ _=> .node v (bc l) r) t) b) p
theorem Po{α:Type}:∀(f i:Nat) (t:ax α),i<f->m7 (za f i) t=t.get i
 |0,_,_,h=>by omega
 |f+1,i,t,h=>by
  simp only[za];cases h0:Nat.beq i 0 with
  |true=>
   simp only[cond_true];cases t with
   |nil=>rfl
   |node v l r=>simp[m7,ax.get,h0]
  |false=>
   have hi:=Nat.ne_of_beq_eq_false h0;simp only[cond_false];cases h1:Nat.beq (i%2) 1 with
   |true=>
    simp only[cond_true];cases t with
    |nil=>rfl
    |node v l r=>
     have:=Po f (i/2) l (by omega)
     simp only[ax.get,h0,h1,cond_true,cond_false, <- this];rfl
   |false=>
    simp only[cond_false];cases t with
    |nil=>rfl
    |node v l r=>
     have:=Po f (i/2-1) r (by omega)
     simp only[ax.get,h0,h1,cond_false, <- this];rfl
theorem Fq{α:Type}(x:α):∀(f g i:Nat) (t:ax α),i<f->i<g->Er x (za f i) t=ax.set g t i x
 |0,_,_,_,h,_=>by omega
 |f+1,0,i,t,h,h'=>by omega
 |f+1,g+1,i,t,h,h'=>by
  simp only[za];cases h0:Nat.beq i 0 with
  |true=>
   simp only[cond_true];cases t with
   |nil=>simp[Er,ax.set,h0]
   |node v l r=>simp[Er,ax.set,h0]
  |false=>
   have hi:=Nat.ne_of_beq_eq_false h0;simp only[cond_false];cases h1:Nat.beq (i%2) 1 with
   |true=>
    simp only[cond_true];cases t with
    |nil=>
     have:=Fq x f g (i/2) .nil (by omega) (by omega)
     simp only[ax.set,h0,h1,cond_true,cond_false, <- this];rfl
    |node v l r=>
     have:=Fq x f g (i/2) l (by omega) (by omega)
     simp only[ax.set,h0,h1,cond_true,cond_false, <- this];rfl
   |false=>
    simp only[cond_false];cases t with
    |nil=>
     have:=Fq x f g (i/2-1) .nil (by omega) (by omega)
     simp only[ax.set,h0,h1,cond_false, <- this];rfl
    |node v l r=>
     have:=Fq x f g (i/2-1) r (by omega) (by omega)
     simp only[ax.set,h0,h1,cond_false, <- this];rfl
theorem Db{α:Type}(i:Nat)(t:ax α):m7 (path i) t=t.get i:=Po _ _ _ (Nat.lt_succ_self i)
theorem arR{α:Type}(i:Nat)(t:ax α)(x:α):Er x (path i) t=t.put i x:=Fq x _ _ _ _ (Nat.lt_succ_self i) (Nat.lt_succ_self i)
structure ai8 where
 run:Nat->ax J->Option J
def yK:Operand->ai8
 | .tmp t=>⟨λ_ F=>m7 (path t) F⟩
 | .const v=>⟨λ_ _=>some (db v)⟩
 | .global g=>⟨λaK _=>bif Nat.blt g aK then some (.ptr g 0) else none⟩
 | .func f=>⟨λ_ _=>some (.fn (.func f) [] [])⟩
theorem adS(x:Operand)(aK:Nat)(F:ax J):(yK x).run aK F=look aK F x:=by
 cases x with
 |tmp t=>exact Db t F
 |const v=>rfl
 |global g=>rfl
 |func f=>rfl
def A0(l:List Operand):Nat->ax J->Option (List J):=List.rec (motive:=λ_=>Nat->ax J->Option (List J)) (λ_ _=>some [])
 (λx _ bc aK F=>Option.rec (motive:=λ_=>Option (List J)) none (λy=>Option.rec (motive:=λ_=>Option (List J)) none (λys=>some (y::ys)) (bc aK F)) ((yK x).run aK F)) l
theorem adT(aK:Nat)(F:ax J):∀l:List Operand,A0 l aK F=looks aK F l
 | []=>rfl
 |x::xs=>by
  have bc:=adT aK F xs;simp only[looks, <- adS, <- bc];show Option.rec (motive:=λ_=>Option (List J)) none (λy=>Option.rec (motive:=λ_=>Option (List J)) none (λys=>some (y::ys)) (A0 xs aK F)) ((yK x).run aK F)=_;cases(yK x).run aK F with
  |none=>rfl
  |some y=>cases A0 xs aK F<;>rfl
end
noncomputable section
structure ai9 where
 run:List J->ah->Option (J×ah)
def adU:List J->ah->Option (J×ah)
 | [x],X=>some (x,X)
 |_,_=>none
def A1(f:J->ah->Option (J×ah)):List J->ah->Option (J×ah)
 | [x],X=>f x X
 |_,_=>none
def I8(f:J->J->ah->Option (J×ah)):List J->ah->Option (J×ah)
 | [x,y],X=>f x y X
 |_,_=>none
def QU(f:Nat->Nat->ah->Option (J×ah))(x:J)(X:ah):Option (J×ah):=match x with
 | .ptr k off=>f k off X
 |_=>none
def QS(k off:Nat)(X:ah):Option (J×ah):=match X.aV.get k with
 |some o=>dx X (o.get off)
 |none=>none
def QT(n k off:Nat)(X:ah):Option (J×ah):=match X.aV.get k with
 |some o=>(match j4 o off n with|some ys=>some (.agg ys,X)|none=>none)
 |none=>none
def wC(o:bH)(off:Nat)(cells:List J):bH:=match o with
 |⟨cn,ty,n,loose,esz,ro,mz,fy,sp⟩=>force (cn+1) λv=>⟨v,ty,n,loose,esz,ro,mz,ha fy off cells,sp⟩
def aiw(X:ah)(k:Nat)(o:bH):ah:=match X with
 |⟨aK,next,⟨iS,base⟩,cK,pc,bs⟩=>⟨aK,next,⟨iS.put k (some o),base⟩,cK,pc,bs⟩
def adZ(n k off:Nat)(y:J)(X:ah)(o:bH):Option (J×ah):=
 bif Nat.beq y.cells.length n&&Nat.ble (off+n) o.n&&!o.ro&&dZ y.cells then some (.val undef,aiw X k (wC o off y.cells)) else none
def QX(n k off:Nat)(y:J)(X:ah):Option (J×ah):=match X.aV.get k with
 |some o=>adZ n k off y X o
 |none=>none
def ap4(n:Nat)(x y:J)(X:ah):Option (J×ah):=match x with
 | .ptr k off=>QX n k off y X
 |_=>none
def QM(ov k off:Nat)(X:ah):Option (J×ah):=force (off+ov) λo=>some (.ptr k o,X)
def apZ(x:J)(X:ah):Option (J×ah):=match x with
 | .ptr k off=>some (.ptr k off,X)
 | .fn f a b=>dx X (ew (.fn f a b))
 |_=>none
def I4(n s i k off:Nat)(X:ah):Option (J×ah):=bif Nat.blt i n then(force (off+i*s) λo=>some (.ptr k o,X)) else none
def QP(n s:Nat)(x gi:J)(X:ah):Option (J×ah):=match hX gi with
 |some i=>(match x with| .ptr k off=>I4 n s i k off X|_=>none)
 |none=>none
def QQ(s:Nat)(x gi:J)(X:ah):Option (J×ah):=match hX gi with
 |some i=>(match x with| .aZ k off len _ _=>I4 len s i k off X|_=>none)
 |none=>none
def apW(i:Nat)(x:J)(X:ah):Option (J×ah):=match x with
 | .bm vs=>dx X vs[i]?
 |_=>none
structure Md where
 run:IntKind->Int->IntKind->Int->Option J
def nh(k b5:IntKind):Bool:=Nat.beq k.ctorIdx b5.ctorIdx
theorem apV(k b5:IntKind):nh k b5=(k==b5):=by cases k<;>cases b5<;>rfl
def yI:BinOp->Md
 | .add=>⟨λk a b5 b=>bif nh k b5 then some (jX (k.wrap (a+b)) λr=> .int k r) else none⟩
 | .sub=>⟨λk a b5 b=>bif nh k b5 then some (jX (k.wrap (a-b)) λr=> .int k r) else none⟩
 | .mul=>⟨λk a b5 b=>bif nh k b5 then some (jX (k.wrap (a*b)) λr=> .int k r) else none⟩
 | .quo=>⟨λk a b5 b=>bif nh k b5 then arith .quo k a b else none⟩
 | .rem=>⟨λk a b5 b=>bif nh k b5 then arith .rem k a b else none⟩
 | .and=>⟨λk a b5 b=>bif nh k b5 then arith .and k a b else none⟩
 | .or=>⟨λk a b5 b=>bif nh k b5 then arith .or k a b else none⟩
 | .xor=>⟨λk a b5 b=>bif nh k b5 then arith .xor k a b else none⟩
 | .andNot=>⟨λk a b5 b=>bif nh k b5 then arith .andNot k a b else none⟩
 | .eql=>⟨λk a b5 b=>bif nh k b5 then some (.bool (a==b)) else none⟩
 | .neq=>⟨λk a b5 b=>bif nh k b5 then some (.bool (a != b)) else none⟩
 | .lss=>⟨λk a b5 b=>bif nh k b5 then some (.bool (decide (a<b))) else none⟩
 | .leq=>⟨λk a b5 b=>bif nh k b5 then some (.bool (decide (a<=b))) else none⟩
 | .gtr=>⟨λk a b5 b=>bif nh k b5 then some (.bool (decide (a>b))) else none⟩
 | .geq=>⟨λk a b5 b=>bif nh k b5 then some (.bool (decide (a>=b))) else none⟩
 |op=>⟨λk a b5 b=>AX op k a b5 b⟩
theorem adL(op:BinOp)(k:IntKind)(a:Int)(b5:IntKind)(b:Int):(yI op).run k a b5 b=AX op k a b5 b:=by
 cases op<;>simp only[yI,apV]<;>rfl
section
variable(P:Program)
def adO(A:Md)(op:BinOp)(t:TypeId)(k:IntKind)(a:Int)(y:J):Option J:=match y with
 | .int b5 b=>A.run k a b5 b
 |y=>vG P op t (.int k a) y
def adN(A:Md)(op:BinOp)(t:TypeId)(x y:J)(X:ah):Option (J×ah):=match x with
 | .int k a=>dx X (adO P A op t k a y)
 |x=>dx X (vG P op t x y)
def ap0(x:J)(X:ah):Option (J×ah):=match x with
 | .bool b=>some (.bool (!b),X)
 |x=>dx X (h4 .not x)
def QW(op:Op):ai9:=match op with
 | .move _=>⟨adU⟩
 | .assign _=>⟨adU⟩
 | .load t _=>(match oZ P t,dP P t with
   |some true,some n=>⟨A1 (QU (QT n))⟩
   |some false,some _=>⟨A1 (QU QS)⟩
   |_,_=>⟨λ_ _=>none⟩)
 | .store t _ _=>(match dP P t with
   |some n=>⟨I8 (ap4 n)⟩
   |none=>⟨λ_ _=>none⟩)
 | .nilCheck _=>⟨A1 apZ⟩
 | .binOp op t _ _ _=>⟨I8 (adN P (yI op) op t)⟩
 | .unOp .not _ _=>⟨A1 ap0⟩
 | .fieldAddr s _ f=>(match xS P s f with
   |some fd=>(match dP P fd.type with
    |some (_+1)=>⟨A1 (QU (QM fd.offset))⟩
    |_=>⟨λ_ _=>none⟩)
   |none=>⟨λ_ _=>none⟩)
 | .indexAddr t _ _=>(match P.underlying t with
   |some (.array n e)=>(match dP P e with|some s=>⟨I8 (QP n s)⟩|none=>⟨λ_ _=>none⟩)
   |some (.slice e)=>(match dP P e with|some s=>⟨I8 (QQ s)⟩|none=>⟨λ_ _=>none⟩)
   |_=>⟨λ_ _=>none⟩)
 | .extract _ i=>⟨A1 (apW i)⟩
 |op=>⟨λbA X=>dO P op bA X⟩
end
theorem Ek(o:bH)(off:Nat)(cells:List J):wC o off cells={o with cn:=o.cn+1,fy:=ha o.fy off cells}:=by
 cases o;simp[wC,force_eq]
theorem aDF(X:ah)(k:Nat)(o:bH):aiw X k o={X with aV:=X.aV.put k o}:=by
 cases X;rename_i aV _ _ _;cases aV;rfl
theorem ap3(P:Program)(op:Op)(bA:List J)(X:ah):(QW P op).run bA X=dO P op bA X:=by
 unfold QW;split
 ·rcases bA with _|⟨x,_|⟨y,r⟩⟩<;>rfl
 ·rcases bA with _|⟨x,_|⟨y,r⟩⟩<;>rfl
 ·
  rename_i t a
  have aO:∀(h:∀k off,lV P t X k off=none),none=dO P (.load t a) bA X:=by
   intro h;rcases bA with _|⟨x,_|⟨y,r⟩⟩<;>first|rfl|(cases x<;>first|rfl|skip)
   rename_i k off;show none=dx X (lV P t X k off);rw[h];rfl
  split
  ·rename_i n h1 h2;rcases bA with _|⟨x,_|⟨y,r⟩⟩<;>first|rfl|(cases x<;>first|rfl|skip)
   rename_i k off;show QT n k off X=dx X (lV P t X k off);unfold QT lV;rw[h1,h2];cases X.aV.get k with
   |none=>rfl
   |some o=>simp only[];cases j4 o off n<;>rfl
  ·rename_i n h1 h2;rcases bA with _|⟨x,_|⟨y,r⟩⟩<;>first|rfl|(cases x<;>first|rfl|skip)
   rename_i k off;show QS k off X=dx X (lV P t X k off);unfold QS lV;rw[h1,h2];cases X.aV.get k<;>rfl
  ·rename_i h1 h2;refine aO λk off=>?_
   unfold lV;cases X.aV.get k with
   |none=>rfl
   |some o=>
    cases b1:oZ P t with
    |none=>rfl
    |some b=>
     cases al:dP P t with
     |none=>cases b<;>rfl
     |some n=>cases b with
      |true=>exact absurd al (h1 n b1)
      |false=>exact absurd al (h2 n b1)
 ·
  rename_i t a b;split
  ·rename_i n h1;rcases bA with _|⟨x,_|⟨y,_|⟨z,r⟩⟩⟩<;>first|rfl|(cases x<;>first|rfl|skip)
   rename_i k off;show QX n k off y X=(match n7 P t X k off y with|some X=>some (.val undef,X)|none=>none);unfold QX n7;rw[h1];cases X.aV.get k with
   |none=>rfl
   |some o=>
    simp only[adZ,Ek,aDF];cases(Nat.beq y.cells.length n&&Nat.ble (off+n) o.n&&!o.ro&&dZ y.cells)<;>rfl
  ·rename_i h1;rcases bA with _|⟨x,_|⟨y,_|⟨z,r⟩⟩⟩<;>first|rfl|(cases x<;>first|rfl|skip)
   rename_i k off;show none=(match n7 P t X k off y with|some X=>some (J.val undef,X)|none=>none);unfold n7;rw[h1];cases X.aV.get k<;>rfl
 ·rcases bA with _|⟨x,_|⟨y,r⟩⟩<;>first|rfl|(cases x<;>rfl)
 ·rename_i op t a b c;rcases bA with _|⟨x,_|⟨y,_|⟨z,r⟩⟩⟩<;>try rfl
  show adN P (yI op) op t x y X=dx X (vG P op t x y);cases x<;>try rfl
  cases y<;>try rfl
  show dx X ((yI op).run _ _ _ _)=_;rw[adL];rfl
 ·rcases bA with _|⟨x,_|⟨y,r⟩⟩<;>first|rfl|(cases x<;>rfl)
 ·rename_i s a f;split
  ·rename_i fd an;split
   ·rename_i m al;rcases bA with _|⟨x,_|⟨y,r⟩⟩<;>first|rfl|(cases x<;>first|rfl|skip)
    rename_i k off;show QM fd.offset k off X=dx X (q7 P s f k off);simp only[QM,q7,an,al,force_eq];rfl
   ·rename_i al;rcases bA with _|⟨x,_|⟨y,r⟩⟩<;>first|rfl|(cases x<;>first|rfl|skip)
    rename_i k off;show none=dx X (q7 P s f k off)
    have:q7 P s f k off=none:=by
     unfold q7;simp only[an]
    rw[this];rfl
  ·rename_i an;rcases bA with _|⟨x,_|⟨y,r⟩⟩<;>first|rfl|(cases x<;>first|rfl|skip)
   rename_i k off;show none=dx X (q7 P s f k off);simp only[q7,an];rfl
 ·rename_i t a b;split
  ·rename_i n e hu;split
   ·rename_i s al;rcases bA with _|⟨x,_|⟨y,_|⟨z,r⟩⟩⟩<;>try rfl
    show QP n s x y X=dx X (mT P t x y);unfold QP mT;cases hX y with
    |none=>rfl
    |some i=>
     simp only[hu];cases x<;>try rfl
     simp only[al,I4,force_eq];cases Nat.blt i n<;>rfl
   ·rename_i al;rcases bA with _|⟨x,_|⟨y,_|⟨z,r⟩⟩⟩<;>try rfl
    show none=dx X (mT P t x y);unfold mT;cases hX y with
    |none=>rfl
    |some i=>
     simp only[hu];cases x<;>try rfl
     simp only[al];rfl
  ·rename_i e hu;split
   ·rename_i s al;rcases bA with _|⟨x,_|⟨y,_|⟨z,r⟩⟩⟩<;>try rfl
    show QQ s x y X=dx X (mT P t x y);unfold QQ mT;cases hX y with
    |none=>rfl
    |some i=>
     simp only[hu];cases x<;>try rfl
     simp only[al,I4,force_eq];rename_i len _ _;cases Nat.blt i len<;>rfl
   ·rename_i al;rcases bA with _|⟨x,_|⟨y,_|⟨z,r⟩⟩⟩<;>try rfl
    show none=dx X (mT P t x y);unfold mT;cases hX y with
    |none=>rfl
    |some i=>
     simp only[hu];cases x<;>try rfl
     simp only[al];rfl
  ·rename_i h1 h2;rcases bA with _|⟨x,_|⟨y,_|⟨z,r⟩⟩⟩<;>try rfl
   show none=dx X (mT P t x y);unfold mT;cases hX y with
   |none=>rfl
   |some i=>
    simp only[];split
    ·rename_i n e k off hu;exact absurd hu (h1 n e)
    ·rename_i e k off len c l hu;exact absurd hu (h2 e)
    ·rfl
 ·rcases bA with _|⟨x,_|⟨y,r⟩⟩<;>first|rfl|(cases x<;>rfl)
 ·rfl
end
noncomputable section
structure XU where
 run:bL->ax J->ah->Option (Option gL×ax J×ah)
structure Cc where
 run:ax J->J->ax J
structure XV where
 run:bL->List J->ah->Option (Out×ah)
structure XT where
 run:ax J->ah->Option (Bool×ah)
structure ai7 where
 run:bL->iA->ax J->ah->R
def A2(N:Nat):Option Tmp->Cc
 |some d=>bif Nat.blt d N then⟨λF y=>Er y (path d) F⟩ else⟨λF _=>F⟩
 |none=>⟨λF _=>F⟩
theorem adW(N:Nat)(d:Option Tmp)(F:ax J)(y:J):(A2 N d).run F y=put N F d y:=by
 cases d with
 |none=>rfl
 |some d=>
  simp only[A2,put];cases Nat.blt d N with
  |true=>exact arR d F y
  |false=>rfl
def adR(callf:bL)(X:ah):List J->Option (Out×ah)
 | .fn (.func f) a b::args=>callf (.fn f) (a++args++b) X
 | .fw k::args=>callf (.fw k) args X
 |_=>none
def apU(P:Program)(c:Call)(callf:bL)(bA:List J)(X:ah):Option (Out×ah):=match pv P c bA X with
 |some (f,args)=>callf f args X
 |none=>none
def yL(P:Program)(op:Op):XV:=match op with
 | .call c=>(match c.callee with
   | .builtin b=>bif pL b then⟨λ_ bA X=>kO bA X⟩ else⟨λ_ bA X=>gA (iD P b c.argTypes bA X)⟩
   | .value _=>⟨λcallf bA X=>adR callf X bA⟩
   | .invoke _ _=>⟨apU P c⟩)
 | .panic _=>⟨λ_ bA X=>kO bA X⟩
 |op=>⟨λ_ bA X=>gA ((QW P op).run bA X)⟩
theorem ap2(P:Program)(callf:bL)(o:Oper)(F:ax J)(X:ah):
 jW P callf o F X=match A0 o.op.operands.toList X.aK F with|none=>none|some bA=>(yL P o.op).run callf bA X:=by
 unfold jW;rw[adT];cases looks X.aK F o.op.operands.toList with
 |none=>rfl
 |some bA=>
  simp only[];generalize o.op=op;cases op with
  |call c=>
   cases ae:c.callee with
   |builtin b=>
    simp only[yL,ae];cases pL b<;>rfl
   |value f=>
    simp only[yL,ae,pv];unfold adR;split<;>rename_i h
    ·split at h<;>cases h<;>rfl
    ·split at h
     ·cases h
     ·cases h
     ·rename_i h1 h2;split
      ·exact absurd rfl (h1 _ _ _ _)
      ·exact absurd rfl (h2 _ _)
      ·rfl
   |invoke r m=>
    simp only[yL,ae];rfl
  |panic x=>rfl
  |_=>exact congrArg gA (ap3 P _ bA X).symm
def adK(kX:Cc)(F:ax J):Option (Out×ah)->Option (Option gL×ax J×ah)
 |some (.ret y,X)=>some (none,kX.run F y,X)
 |some (.cD bj,X)=>some (some bj,F,X)
 |none=>none
def I6(W:XV)(L:List Operand)(kX:Cc)(callf:bL)(F:ax J)(X:ah):Option (Option gL×ax J×ah):=match A0 L X.aK F with
 |none=>none
 |some bA=>adK kX F (W.run callf bA X)
def adM(want:Bool)(y:J)(X:ah):Option (Bool×ah):=match y with
 | .bool b=>some (bif want then b else !b,X)
 |y=>lB X want y
def apR(want:Bool)(X:ah):Option J->Option (Bool×ah)
 |some y=>adM want y X
 |none=>none
def Ja(ops:List Oper)(j:Nat)(want:Bool):XT:=match ops[j]? with
 |some o=>(match o.dst with
  |some d=>⟨λF X=>apR want X (m7 (path d) F)⟩
  |none=>⟨λ_ _=>none⟩)
 |none=>⟨λ_ _=>none⟩
theorem apS(want:Bool)(y:J)(X:ah):adM want y X=lB X want y:=by
 cases y<;>try rfl
 rename_i b;cases b<;>cases want<;>rfl
theorem ap5(ops:List Oper)(j:Nat)(want:Bool)(F:ax J)(X:ah):(Ja ops j want).run F X=hp ops F X (some (j,want)):=by
 unfold Ja hp;simp only[];cases aq:ops[j]? with
 |none=>rfl
 |some o=>
  cases h:o.dst with
  |none=>simp only[h]
  |some d=>
   simp only[h,Db];cases F.get d with
   |none=>rfl
   |some y=>exact apS want y X
def QO(D:bL->ax J->ah->Option (Option gL×ax J×ah))(kX:Cc)(callf:bL)(F:ax J):Option (Bool×ah)->Option (Option gL×ax J×ah)
 |some (true,X)=>D callf F X
 |some (false,X)=>some (none,kX.run F (.val undef),X)
 |none=>none
def apX(G:XT)(D:bL->ax J->ah->Option (Option gL×ax J×ah))(kX:Cc)(callf:bL)(F:ax J)(X:ah):Option (Option gL×ax J×ah):=QO D kX callf F (G.run F X)
def I7(P:Program)(N:Nat)(ops:List Oper)(o:Oper):XU:=bif nZ o.op then⟨λcallf F X=>kz P callf N ops o F X⟩ else(match o.guard with
 |none=>⟨I6 (yL P o.op) o.op.operands.toList (A2 N o.dst)⟩
 |some (j,want)=>⟨apX (Ja ops j want) (I6 (yL P o.op) o.op.operands.toList (A2 N o.dst)) (A2 N o.dst)⟩)
theorem ap1(P:Program)(callf:bL)(N:Nat)(ops:List Oper)(o:Oper)(F:ax J)(X:ah):(I7 P N ops o).run callf F X=kz P callf N ops o F X:=by
 unfold I7;cases aH:nZ o.op with
 |true=>rfl
 |false=>
  have acT:∀X,I6 (yL P o.op) o.op.operands.toList (A2 N o.dst) callf F X=(match jW P callf o F X with
   |some (.ret y,X)=>some (none,put N F o.dst y,X)
   |some (.cD bj,X)=>some (some bj,F,X)
   |none=>none):=by
   intro X;rw[ap2];unfold I6;cases A0 o.op.operands.toList X.aK F with
   |none=>rfl
   |some bA=>
    simp only[];unfold adK;split<;>simp only[*,adW]
  simp only[cond_false];unfold kz;simp only[aH,cond_false];cases bd:o.guard with
  |none=>
   simp only[hp];exact acT X
  |some g=>
   obtain⟨j,want⟩:=g;show QO _ _ callf F ((Ja ops j want).run F X)=_;rw[ap5];cases hp ops F X (some (j,want)) with
   |none=>rfl
   |some r=>
    obtain⟨b,X1⟩:=r;cases b with
    |true=>exact acT X1
    |false=>simp only[QO,adW]
def QY(B:bL->ax J->ah->Option (Option gL×ax J×ah))(callf:bL):Option (Option gL×ax J×ah)->Option (Option gL×ax J×ah)
 |some (none,F,X)=>B callf F X
 |r=>r
def I9(P:Program)(N:Nat)(ops:List Oper):List Oper->XU
 | []=>⟨λ_ F X=>some (none,F,X)⟩
 |o::rest=>⟨λcallf F X=>QY (I9 P N ops rest).run callf ((I7 P N ops o).run callf F X)⟩
theorem adV(P:Program)(callf:bL)(N:Nat)(ops:List Oper):∀(l:List Oper) (F:ax J) (X:ah),(I9 P N ops l).run callf F X=km P callf N ops l F X
 | [],_,_=>rfl
 |o::rest,F,X=>by
  show QY (I9 P N ops rest).run callf ((I7 P N ops o).run callf F X)=_;rw[ap1];unfold km QY;split
  ·rename_i aM X1 h;rw[h];exact adV P callf N ops rest aM X1
  ·rename_i r h;split
   ·rename_i aM X1 h';exact absurd h' (h aM X1)
   ·rfl
end
noncomputable section
def QV(O:bL->ax J->ah->Option (Option gL×ax J×ah))(callf:bL)(_:iA)(F:ax J)(X:ah):R:=match O callf F X with
 |some (none,F,X)=>some (.cz,F,X)
 |some (some bj,F,X)=>some (.cD bj,F,X)
 |none=>none
def adY(B:bL->iA->ax J->ah->R)(callf:bL)(jump:iA):R->R
 |some (.cz,F,X)=>B callf jump F X
 |r=>r
def I5(A B:bL->iA->ax J->ah->R)(callf:bL)(jump:iA)(F:ax J):Option (Bool×ah)->R
 |some (true,X)=>A callf jump F X
 |some (false,X)=>B callf jump F X
 |none=>none
def I3(X:ah):Option J->Option (Bool×ah)
 |some (.bool b)=>some (b,X)
 |some y=>fZ X y
 |none=>none
def adP(id:Nat):R->R
 |some (.ex gF,F,X)=>bif Nat.beq gF id then some (.cz,F,X) else some (.ex gF,F,X)
 |r=>r
def adX(c:Code)(jump:iA):R->R
 |some (.gt l,F,X)=>(match findLabel c l with
  |some rest=>jump c rest F X
  |none=>some (.gt l,F,X))
 |r=>r
def ng(P:Program)(ord:Nat->Hint)(me:FuncId)(rd:Option Nat)(N fuel:Nat):Code->ai7
 | .skip=>⟨λ_ _ F X=>some (.cz,F,X)⟩
 | .region _ ops false=>⟨QV (I9 P N ops.toList ops.toList).run⟩
 | .seq a b=>⟨λcallf jump F X=>adY (ng P ord me rd N fuel b).run callf jump ((ng P ord me rd N fuel a).run callf jump F X)⟩
 | .cond c a b=>⟨λcallf jump F X=>I5 (ng P ord me rd N fuel a).run (ng P ord me rd N fuel b).run callf jump F (I3 X ((yK c).run X.aK F))⟩
 | .block id c=>⟨λcallf jump F X=>adP id ((ng P ord me rd N fuel c).run callf jump F X)⟩
 | .loop c=>⟨λcallf jump F X=>iQ ((ng P ord me rd N fuel c).run callf jump) fuel F X⟩
 | .exit id=>⟨λ_ _ F X=>some (.ex id,F,X)⟩
 | .label _=>⟨λ_ _ F X=>some (.cz,F,X)⟩
 | .ret=>⟨λ_ _ F X=>some (.ret,F,X)⟩
 | .goto l=>⟨λ_ _ F X=>some (.gt l,F,X)⟩
 | .scope c=>⟨λcallf jump F X=>adX c jump ((ng P ord me rd N fuel c).run callf jump F X)⟩
 |c=>⟨λcallf jump F X=>bY P callf ord me rd N fuel jump c F X⟩
theorem apQ(X:ah)(F:ax J)(c:Operand)(A B:bL->iA->ax J->ah->R)(callf:bL)(jump:iA):
 I5 A B callf jump F (I3 X ((yK c).run X.aK F))=(match look X.aK F c with
  |some y=>match fZ X y with
   |some (true,X)=>A callf jump F X
   |some (false,X)=>B callf jump F X
   |none=>none
  |none=>none):=by
 rw[adS];cases look X.aK F c with
 |none=>rfl
 |some y=>
  have:I3 X (some y)=fZ X y:=by cases y<;>rfl
  rw[this];simp only[];unfold I5;cases fZ X y with
  |none=>rfl
  |some r=>obtain⟨b,X1⟩:=r;cases b<;>rfl
theorem adQ(P:Program)(callf:bL)(ord:Nat->Hint)(me:FuncId)(rd:Option Nat)(N fuel:Nat)(jump:iA):∀(c:Code) (F:ax J) (X:ah),
 (ng P ord me rd N fuel c).run callf jump F X=bY P callf ord me rd N fuel jump c F X:=by
 intro c
 induction c with
 |region id ops d=>
  intro F X;cases d with
  |false=>
   show QV _ callf jump F X=_;unfold QV;rw[adV];rfl
  |true=>rfl
 |seq a b fQ gG=>
  intro F X
  show adY _ callf jump ((ng P ord me rd N fuel a).run callf jump F X)=(match bY P callf ord me rd N fuel jump a F X with
   |some (.cz,F,X)=>bY P callf ord me rd N fuel jump b F X
   |r=>r)
  rw[fQ];generalize bY P callf ord me rd N fuel jump a F X=r;rcases r with _|⟨ex,aM,X1⟩
  ·rfl
  ·cases ex<;>first|exact gG aM X1|rfl
 |cond c a b fQ gG=>
  intro F X;show I5 _ _ callf jump F (I3 X ((yK c).run X.aK F))=_;rw[apQ];simp only[fQ,gG];rfl
 |block id c bc=>
  intro F X
  show adP id ((ng P ord me rd N fuel c).run callf jump F X)=(match bY P callf ord me rd N fuel jump c F X with
   |some (.ex gF,F,X)=>bif Nat.beq gF id then some (.cz,F,X) else some (.ex gF,F,X)
   |r=>r)
  rw[bc];generalize bY P callf ord me rd N fuel jump c F X=r;rcases r with _|⟨ex,aM,X1⟩
  ·rfl
  ·cases ex<;>rfl
 |loop c bc=>
  intro F X;show iQ ((ng P ord me rd N fuel c).run callf jump) fuel F X=_
  have:(ng P ord me rd N fuel c).run callf jump=bY P callf ord me rd N fuel jump c:=by
   funext F X;exact bc F X
  rw[this];rfl
 |scope c bc=>
  intro F X
  show adX c jump ((ng P ord me rd N fuel c).run callf jump F X)=(match bY P callf ord me rd N fuel jump c F X with
   |some (.gt l,F,X)=>(match findLabel c l with
    |some rest=>jump c rest F X
    |none=>some (.gt l,F,X))
   |r=>r)
  rw[bc];generalize bY P callf ord me rd N fuel jump c F X=r;rcases r with _|⟨ex,aM,X1⟩
  ·rfl
  ·cases ex<;>rfl
 |_=>intro F X;rfl
theorem apT(P:Program)(callf:bL)(ord:Nat->Hint)(me:FuncId)(rd:Option Nat)(N fuel:Nat)(jump:iA):
 (λc=>(ng P ord me rd N fuel c).run callf jump)=bY P callf ord me rd N fuel jump:=by
 funext c F X;exact adQ P callf ord me rd N fuel jump c F X
def QR(P:Program)(callf:bL)(ord:Nat->Hint)(me:FuncId)(rd:Option Nat)(N fuel:Nat)(n:Nat):iA:=
 Nat.rec (motive:=λ_=>iA) (λ_ _ _ _=>none) (λ_ bc c rest F X=>match (ng P ord me rd N fuel rest).run callf bc F X with
  |some (.gt l,F,X)=>(match findLabel c l with
   |some rest=>bc c rest F X
   |none=>some (.gt l,F,X))
  |r=>r) n
theorem apY(P:Program)(callf:bL)(ord:Nat->Hint)(me:FuncId)(rd:Option Nat)(N fuel:Nat):∀n,QR P callf ord me rd N fuel n=fR P callf ord me rd N fuel n:=by
 intro n;unfold QR fR;congr 1
 funext _ bc c rest F X
 rw[adQ];rfl
def yJ(P:Program)(callf:bL)(ord:Nat->Hint)(me:FuncId)(rd:Option Nat)(N lf:Nat):Code->ax J->ah->R:=
 λc=>(ng P ord me rd N lf c).run callf (QR P callf ord me rd N lf lf)
theorem QL(P:Program)(callf:bL)(ord:Nat->Hint)(me:FuncId)(rd:Option Nat)(N lf:Nat):
 yJ P callf ord me rd N lf=bY P callf ord me rd N lf (fR P callf ord me rd N lf lf):=by
 unfold yJ;rw[apY];exact apT P callf ord me rd N lf _
def QN{P:Program}(bc:l2)(a6:ca P)(lf:Nat)(f:FuncId)(args:List J)(X:ah):Option (Out×ah):=
 bif Nat.beq a6.f f&&Nat.ble args.length a6.fn.ntmps then w2 X.bs (rN P bc.dcall a6.fn (yJ P bc.call a6.ord a6.f none a6.fn.ntmps lf (a6.fn.body.getD .skip) (ha .nil 0 args) {X with bs:=[]})) else none
end
noncomputable section
structure U where
 aK:Nat
 next:Nat
 aV:cE
def U.x(h:U)(O:List Bool)(p:List Prop)(D:List eO):ah:={aK:=h.aK,next:=h.next,aV:=h.aV,cK:=O,pc:=p,bs:=D}
def U.x0(h:U):ah:=h.x [] [] []
def ah.h(X:ah):U:=⟨X.aK,X.next,X.aV⟩
def ar(r:Option (J×ah)):Option (J×U):=match r with
 |some (y,X)=>some (y,X.h)
 |none=>none
def al(r:Option ah):Option U:=match r with
 |some X=>some X.h
 |none=>none
abbrev ab:=Option (Out×U)
abbrev ad:=xd->List J->U->ab
abbrev Fr:=Nat->Option J
theorem e1{α:Type _}{a b:α}(h:a=b):a=b:=h
def ob{α:Type}(x:Option α)(k:α->ab):ab:=Option.rec (motive:=λ_=>ab) none k x
def b2(x:Option (J×U))(k:J->U->ab):ab:=Option.rec (motive:=λ_=>ab) none (λp=>Prod.rec (motive:=λ_=>ab) k p) x
def akq(k:J->U->ab)(o:Out)(h:U):ab:=Out.rec (motive:=λ_=>ab) (λy=>k y h) (λbj=>some (.cD bj,h)) o
def dV(x:ab)(k:J->U->ab):ab:=Option.rec (motive:=λ_=>ab) none (λp=>Prod.rec (motive:=λ_=>ab) (akq k) p) x
def akr(k:J->U->ab)(o:Out)(h:U):ab:=Out.rec (motive:=λ_=>ab) (λy=>k y h) (λ_=>none) o
def cR(x:ab)(k:J->U->ab):ab:=Option.rec (motive:=λ_=>ab) none (λp=>Prod.rec (motive:=λ_=>ab) (akr k) p) x
def rG(eP:Bool)(x:ab)(k:J->U->ab):ab:=match eP with
 |true=>cR x k
 |false=>dV x k
@[simp] theorem cd{α:Type}(x:α)(k:α->ab):ob (some x) k=k x:=e1 rfl
@[simp] theorem aFz{α:Type}(k:α->ab):ob none k=none:=e1 rfl
@[simp] theorem rF(y:J)(h:U)(k:J->U->ab):b2 (some (y,h)) k=k y h:=e1 rfl
@[simp] theorem aEJ(k:J->U->ab):b2 none k=none:=e1 rfl
@[simp] theorem kh(y:J)(h:U)(k:J->U->ab):dV (some (.ret y,h)) k=k y h:=e1 rfl
@[simp] theorem aEL(bj:gL)(h:U)(k:J->U->ab):dV (some (.cD bj,h)) k=some (.cD bj,h):=e1 rfl
@[simp] theorem aEK(k:J->U->ab):dV none k=none:=e1 rfl
@[simp] theorem YH(y:J)(h:U)(k:J->U->ab):cR (some (.ret y,h)) k=k y h:=e1 rfl
@[simp] theorem aEN(bj:gL)(h:U)(k:J->U->ab):cR (some (.cD bj,h)) k=none:=e1 rfl
@[simp] theorem aEM(k:J->U->ab):cR none k=none:=e1 rfl
def fY(y:J)(a b:ab):ab:=match y with
 | .bool c=>Bool.rec (motive:=λ_=>ab) b a c
 |_=>none
@[simp] theorem rh(a b:ab):fY (.bool true) a b=a:=e1 rfl
@[simp] theorem o6(a b:ab):fY (.bool false) a b=b:=e1 rfl
def De(aK g:Nat)(k:J->ab):ab:=bif Nat.blt g aK then k (.ptr g 0) else none
def vj(aK:Nat)(F:Fr)(x:Operand)(k:J->ab):ab:=match x with
 | .tmp t=>ob (F t) k
 | .const v=>k (db v)
 | .global g=>De aK g k
 | .func f=>k (.fn (.func f) [] [])
def BZ(aK:Nat)(F:Fr):List Operand->(List J->ab)->ab
 | [],k=>k []
 |x::xs,k=>vj aK F x λa=>BZ aK F xs λeW=>k (a::eW)
def hn(v:List J)(k:J->ab):ab:=match v with
 | [a]=>k a
 |_=>none
def kN(v:List J)(k:J->J->ab):ab:=match v with
 | [a,b]=>k a b
 |_=>none
def wE(v:List J)(k:J->J->J->ab):ab:=match v with
 | [a,b,c]=>k a b c
 |_=>none
def Q2(k off:Nat)(h:U):Option J:=match h.aV.get k with
 |some o=>o.get off
 |none=>none
def bZ(a:J)(h:U):Option J:=match a with
 | .ptr k off=>Q2 k off h
 |_=>none
def Je(n k off:Nat)(h:U):Option J:=match h.aV.get k with
 |some o=>(match j4 o off n with|some ys=>some (.agg ys)|none=>none)
 |none=>none
def fu(n:Nat)(a:J)(h:U):Option J:=match a with
 | .ptr k off=>Je n k off h
 |_=>none
def DZ(h:U)(k:Nat)(o:bH):U:=match h with
 |⟨aK,next,⟨iS,base⟩⟩=>⟨aK,next,⟨iS.put k (some o),base⟩⟩
def WM(n k off:Nat)(y:J)(h:U)(o:bH):Option U:=bif Nat.beq y.cells.length n&&Nat.ble (off+n) o.n&&!o.ro&&dZ y.cells then some (DZ h k (wC o off y.cells)) else none
def La(n k off:Nat)(y:J)(h:U):Option U:=match h.aV.get k with
 |some o=>WM n k off y h o
 |none=>none
def st(n:Nat)(a y:J)(h:U):Option U:=match a with
 | .ptr k off=>La n k off y h
 |_=>none
def b6(ov:Nat)(a:J):Option J:=match a with
 | .ptr k off=>force (off+ov) λo=>some (.ptr k o)
 |_=>none
def z4(n s i k off:Nat):Option J:=bif Nat.blt i n then(force (off+i*s) λo=>some (.ptr k o)) else none
def ev(n s:Nat)(x gi:J):Option J:=match hX gi with
 |some i=>(match x with| .ptr k off=>z4 n s i k off|_=>none)
 |none=>none
def dS(s:Nat)(x gi:J):Option J:=match hX gi with
 |some i=>(match x with| .aZ k off len _ _=>z4 len s i k off|_=>none)
 |none=>none
def Hn(ov:Nat)(a:J):Option J:=match a with
 | .agg cs=>cs[ov]?
 |_=>none
def Z8(ov n:Nat)(a:J):Option J:=match a with
 | .agg cs=>bif Nat.ble (ov+n) cs.length then some (.agg ((cs.drop ov).take n)) else none
 |_=>none
def ext(i:Nat)(x:J):Option J:=match x with
 | .bm vs=>vs[i]?
 |_=>none
def xH(k:IntKind)(a:J):Option J:=match a with
 | .int _ n=>some (jX (k.wrap n) λr=> .int k r)
 | .val (.int _ n)=>some (.val (.int k (k.wrap n)))
 |_=>none
def jB(c a b:J):Option J:=match c with
 | .bool t=>Bool.rec (motive:=λ_=>Option J) (some b) (some a) t
 |_=>none
section
variable(P:Program)
def bin(op:BinOp)(t:TypeId)(x y:J):Option J:=match x with
 | .int k a=>adO P (yI op) op t k a y
 |x=>vG P op t x y
def l1(e:TypeId)(h:U):Option (J×U):=ar (pX P e h.x0)
def ri(e:TypeId)(x:J)(h:U):Option (J×U):=ar (pZ e x h.x0)
def ib(t:TypeId)(len:Nat)(gi:List Nat)(vs:List J)(h:U):Option (J×U):=ar (oV P t len gi vs h.x0)
def nq(t:TypeId)(l c:J)(h:U):Option (J×U):=ar (p0 P t l c h.x0)
def rj(s d:TypeId)(x:J)(h:U):Option (J×U):=match n6 P s d x with
 |some y=>some (y,h)
 |none=>ar (jJ P s d x h.x0)
def aEv(t:TypeId)(x:J)(h:U):Option (J×U):=ar (zr P t x h.x0)
def aiJ(x:J)(h:U):Option (J×U):=match x with
 | .ptr k 0=>ar (wS k h.x0)
 |_=>none
def aEw(t:TypeId)(x:J):Option J:=match x with
 | .aZ k off len _ _=>WD P t k off len
 |_=>none
def aEt(h:U):Option (J×U):=some (.mp (tE h.x0).1,(tE h.x0).2.h)
def aiI(t:TypeId)(ok:Bool)(m k:J)(h:U):Option J:=zq P t m k ok h.x0
def aEx(t:TypeId)(m k v:J)(h:U):Option U:=al (wT P t m k v h.x0)
def aEs(t:TypeId)(m k:J)(h:U):Option (J×U):=ar (zn P t m k h.x0)
def yes(m b v:J)(h:U):Option U:=al (wR m b v h.x0)
def gk(b:Builtin)(c9:Array TypeId)(vs:List J)(h:U):Option (J×U):=ar (iD P b c9 vs h.x0)
def adG(C:ad)(name:String)(x:J)(args:List J)(h:U):ab:=match Ji P x name h.x0 with
 |some (f,r)=>C (.fn f) (r::args) h
 |none=>none
def fi(eP:Bool)(C:ad)(f:J)(args:List J)(h:U)(k:J->U->ab):ab:=match f with
 | .fn (.func g) a b=>rG eP (C (.fn g) (a++args++b) h) k
 | .fw j=>rG eP (C (.fw j) args h) k
 |_=>none
def LM(eP:Bool)(bA:List J)(h:U):ab:=match eP,bA with
 |false,[.pK t x]=>some (.cD [(.pK t x,false)],h)
 |_,_=>none
def aiA(eP:Bool)(b:Builtin)(c9:Array TypeId)(v:List J)(h:U)(k:J->U->ab):ab:=match b with
 | .panic=>LM eP v h
 | .len=>hn v λx=>match c9[0]? with|some t=>ob (eE P t x) λy=>k y h|none=>none
 |b=>b2 (gk P b c9 v h) k
def Xm(eP:Bool)(C:ad)(c:Call)(v:List J)(h:U)(k:J->U->ab):ab:=match c.callee with
 | .builtin b=>aiA P eP b c.argTypes v h k
 | .value _=>(match v with
   |f::args=>fi eP C f args h k
   | []=>none)
 | .invoke _ name=>(match v with
   |x::args=>rG eP (adG P C name x args h) k
   | []=>none)
def FQ(eP:Bool)(C:ad)(op:Op)(v:List J)(h:U)(k:J->U->ab):ab:=match op with
 | .move _=>hn v λa=>k a h
 | .assign _=>hn v λa=>k a h
 | .pick _ _ _=>wE v λc a b=>ob (jB c a b) λy=>k y h
 | .alloc e=>(match v with| []=>b2 (l1 P e h) k|_=>none)
 | .box e _=>hn v λa=>b2 (ri e a h) k
 | .build t ps=>ob (hZ P t (ps.toList.map (·.1)) v) λy=>k y h
 | .buildSlice t len ps=>b2 (ib P t len (ps.toList.map (·.1)) v h) k
 | .load t _=>hn v λa=>(match oZ P t,dP P t with
   |some true,some n=>ob (fu n a h) λy=>k y h
   |some false,some _=>ob (bZ a h) λy=>k y h
   |_,_=>none)
 | .store t _ _=>kN v λa y=>(match dP P t with
   |some n=>ob (st n a y h) λh=>k (.val undef) h
   |none=>none)
 | .nilCheck _=>hn v λa=>ob (ew a) λy=>k y h
 | .binOp op t _ _ _=>kN v λa b=>ob (bin P op t a b) λy=>k y h
 | .unOp op _ _=>hn v λa=>ob (h4 op a) λy=>k y h
 | .convert s d _=>hn v λa=>(match P.underlying s,P.underlying d with
   |some (.int _),some (.int kd)=>ob (xH kd a) λy=>k y h
   |_,_=>b2 (rj P s d a h) k)
 | .makeInterface t _=>hn v λa=>(match P.underlying t with
   |some (.interface _)=>none
   |some _=>k (.pK t a) h
   |none=>none)
 | .makeFunc fn a _=>k (.fn fn (v.take a.size) (v.drop a.size)) h
 | .makeSlice t _ _=>kN v λl c=>b2 (nq P t l c h) k
 | .fieldAddr s _ f=>hn v λa=>(match xS P s f with
   |some fd=>(match dP P fd.type with
    |some (_+1)=>ob (b6 fd.offset a) λy=>k y h
    |_=>none)
   |none=>none)
 | .field s _ f=>hn v λa=>(match xS P s f with
   |some fd=>(match oZ P fd.type,dP P fd.type with
    |some true,some n=>ob (Z8 fd.offset n a) λy=>k y h
    |some false,some _=>ob (Hn fd.offset a) λy=>k y h
    |_,_=>none)
   |none=>none)
 | .indexAddr t _ _=>kN v λa i=>(match P.underlying t with
   |some (.array n e)=>(match dP P e with|some s=>ob (ev n s a i) λy=>k y h|none=>none)
   |some (.slice e)=>(match dP P e with|some s=>ob (dS s a i) λy=>k y h|none=>none)
   |_=>none)
 | .index t _ _=>kN v λa i=>ob (zp P t a i) λy=>k y h
 | .extract _ i=>hn v λa=>ob (ext i a) λy=>k y h
 | .range t _=>hn v λa=>b2 (aEv P t a h) k
 | .next _ true=>hn v λa=>b2 (aiJ a h) k
 | .sliceToArrayPointer t _=>hn v λa=>ob (aEw P t a) λy=>k y h
 | .makeMap _ none=>(match v with| []=>b2 (aEt h) k|_=>none)
 | .lookup t _ _ ok=>kN v λm q=>ob (aiI P t ok m q h) λy=>k y h
 | .mapUpdate t _ _ _=>wE v λm q x=>ob (aEx P t m q x h) λh=>k (.val undef) h
 | .mapEntry t _ _=>kN v λm q=>b2 (aEs P t m q h) k
 | .entryStore _ _ _ _=>wE v λm q x=>ob (yes m q x h) λh=>k (.val undef) h
 | .typeAssert _ _ a ok=>hn v λx=>ob (WE P x a ok) λy=>k y h
 | .slice t _ none none none=>hn v λx=>ob (fX P t x none none) λy=>k y h
 | .slice t _ (some _) none none=>kN v λx l=>ob (fX P t x (some l) none) λy=>k y h
 | .slice t _ none (some _) none=>kN v λx r=>ob (fX P t x none (some r)) λy=>k y h
 | .slice t _ (some _) (some _) none=>wE v λx l r=>ob (fX P t x (some l) (some r)) λy=>k y h
 | .call c=>Xm P eP C c v h k
 | .panic _=>LM eP v h
 |_=>none
end
def cX(want:Bool)(x:Option J)(r:ab)(h:U):ab:=match x with
 |some y=>bif tv y then some (.ret (.val undef),h) else(match y with
  | .bool b=>bif b==want then r else some (.ret (.val undef),h)
  |_=>none)
 |none=>none
def wG(N:Nat)(F:Fr)(d:Option Tmp)(y:J):Fr:=match d with
 |some d=>bif Nat.blt d N then(λt=>bif Nat.beq t d then some y else F t) else F
 |none=>F
end
noncomputable section
def eX(b:Bool)(k:ab):ab:=Bool.rec (motive:=λ_=>ab) none k b
@[simp] theorem Cx(k:ab):eX true k=k:=e1 rfl
@[simp] theorem aEQ(k:ab):eX false k=none:=e1 rfl
def kg(y:J):Option Nat:=match y with
 | .ptr k _=>some k
 | .aZ k _ _ _ _=>some k
 |_=>none
def cq(x:Option J):Option Nat:=match x with
 |some y=>kg y
 |none=>none
def acm(aK g:Nat):Option J:=bif Nat.blt g aK then some (.ptr g 0) else none
def n9(aK:Nat)(F:Fr)(x:Operand):Option J:=match x with
 | .tmp t=>F t
 | .const v=>some (db v)
 | .global g=>acm aK g
 | .func f=>some (.fn (.func f) [] [])
def Pm(want:Bool)(x:Option J)(r:Option Nat):Option Nat:=match x with
 |some y=>bif tv y then none else(match y with
  | .bool b=>bif b==want then r else none
  |_=>none)
 |none=>none
def MY(x y:Option J):Option Nat:=match x with
 |some (.mp k)=>(match y with|some _=>some k|none=>none)
 |_=>none
def LI(ops:List Oper)(o:Oper)(F:Fr)(aK:Nat):Option Nat:=match o.guard with
 |none=>(match o.op.operands.toList with| [x]=>cq (n9 aK F x)| [x,y]=>MY (n9 aK F x) (n9 aK F y)|_=>none)
 |some (j,want)=>(match ops[j]? with
  |some cf=>(match cf.dst with
   |some d=>Pm want (F d) (match o.op.operands.toList with| [x]=>cq (n9 aK F x)| [x,y]=>MY (n9 aK F x) (n9 aK F y)|_=>none)
   |none=>none)
  |none=>none)
def Fl(h h':U)(k:Nat):Bool:=bif Nat.blt k h.next then(match h.aV.get k with
 |some o=>(match h'.aV.get k with|some o'=>Nat.beq o.cn o'.cn|none=>false)
 |none=>false) else false
def fC(bK:List (Nat×Option Nat))(h h':U):List Nat->Bool
 | []=>true
 |l::ls=>(match l7 bK l with|some k=>Fl h h' k|none=>true)&&fC bK h h' ls
section
variable(P:Program)(C:ad)(N:Nat)
def B0(eP:Bool)(ops:List Oper)(o:Oper)(F:Fr)(h:U)(k:Fr->U->ab):ab:=match o.guard with
 |none=>BZ h.aK F o.op.operands.toList λv=>FQ P eP C o.op v h λy h=>k (wG N F o.dst y) h
 |some (j,want)=>(match ops[j]? with
  |some cf=>(match cf.dst with
   |some d=>rG eP (cX want (F d) (BZ h.aK F o.op.operands.toList λv=>FQ P eP C o.op v h λy h=>some (.ret y,h)) h) λy h=>k (wG N F o.dst y) h
   |none=>none)
  |none=>none)
def FP(eP:Bool)(ops:List Oper):List Oper->Fr->U->(Fr->U->ab)->ab
 | [],F,h,k=>k F h
 |o::rest,F,h,k=>B0 P C N eP ops o F h λF h=>FP eP ops rest F h k
def zB(bK:List (Nat×Option Nat))(h h':U)(ls:List Nat)(k:ab):ab:=match ls with
 | []=>k
 |ls=>eX (fC bK h h' ls) k
def zk(ops:List Oper)(i:Nat)(o:Oper)(F:Fr)(aK:Nat)(bK:List (Nat×Option Nat)):List (Nat×Option Nat):=bif fb P o.op then(i,LI ops o F aK)::bK else bK
def LJ(ops:List Oper)(bU:List (Nat×List Nat)):List Nat->List (Nat×Option Nat)->Fr->U->(Fr->U->ab)->ab
 | [],_,F,h,k=>k F h
 |i::is,bK,F,h,k=>match ops[i]? with
  |none=>none
  |some o=>B0 P C N true ops o F h λF' h'=>zB bK h h' (ig bU i) (LJ ops bU is (zk P ops i o F h.aK bK) F' h' k)
def ss(f:U->Option (J×U))(base i:Nat)(h:U):Option (J×U):=match f ⟨h.aK,base+i,h.aV⟩ with
 |some (y,h')=>some (y,⟨h'.aK,h.next,h'.aV⟩)
 |none=>none
def zD(op:Op)(v:List J)(base i:Nat)(h:U)(k:J->U->ab):ab:=match op with
 | .alloc e=>(match v with| []=>b2 (ss (l1 P e) base i h) k|_=>none)
 | .box e _=>hn v λa=>eX (kt base a) (b2 (ss (ri e a) base i h) k)
 | .buildSlice t len ps=>eX (pO base v) (b2 (ss (ib P t len (ps.toList.map (·.1)) v) base i h) k)
 | .makeSlice t _ _=>kN v λl c=>eX (kt base l&&kt base c) (b2 (ss (nq P t l c) base i h) k)
 |_=>none
def aep(base:Nat)(a:Option Nat):Bool:=match a with
 |some j=>Nat.blt j base
 |none=>true
def FO(ops:List Oper)(base:Nat)(o:Oper)(F:Fr)(aK:Nat)(k:ab):ab:=bif fb P o.op then eX (aep base (LI ops o F aK)) k else k
def zE(ops:List Oper)(rs:List Nat)(bU:List (Nat×List Nat))(base:Nat):List Nat->List (Nat×Option Nat)->Fr->U->(Fr->U->ab)->ab
 | [],_,F,h,k=>k F h
 |i::is,bK,F,h,k=>match ops[i]? with
  |none=>none
  |some o=>FO P ops base o F h.aK (bif hy rs i o.op then(match o.guard with
   |some _=>none
   |none=>BZ h.aK F o.op.operands.toList λv=>zD P o.op v base i h λy h'=>zB bK h h' (ig bU i) (zE ops rs bU base is (zk P ops i o F h.aK bK) (wG N F o.dst y) h' k)) else
   B0 P C N true ops o F h λF' h'=>zB bK h h' (ig bU i) (zE ops rs bU base is (zk P ops i o F h.aK bK) F' h' k))
def Ad(h:U)(base:Nat):List Nat->Bool
 | []=>true
 |k::bO=>(match h.aV.get (base+k) with|none=>true|some _=>false)&&Ad h base bO
def Bq(rs:List Nat)(n:Nat)(h:U)(k:Nat->U->ab):ab:=force (h.next+n) λm=>eX (Ad h h.next rs) (k h.next ⟨h.aK,m,h.aV⟩)
def vh(body:Fr->U->(Fr->U->ab)->ab)(n:Nat):Fr->U->ab:=Nat.rec (motive:=λ_=>Fr->U->ab) (λ_ _=>none) (λ_ bc F h=>body F h bc) n
def fN(ord:Nat->Hint)(lf:Nat):Code->Fr->U->(Fr->U->ab)->(Fr->U->ab)->(Nat->Fr->U->ab)->ab
 | .skip,F,h,aJ,_,_=>aJ F h
 | .region _ ops false,F,h,aJ,_,_=>FP P C N false ops.toList ops.toList F h aJ
 | .region id ops true,F,h,aJ,_,_=>(match ord id with
   | .text=>FP P C N true ops.toList ops.toList F h aJ
   | .skip=>none
   | .ord is bU=>LJ P C N ops.toList bU is [] F h aJ
   | .news is rs bU=>Bq rs ops.size h λbase h=>zE P C N ops.toList rs bU base is [] F h aJ)
 | .seq a b,F,h,aJ,bS,ke=>fN ord lf a F h (λF h=>fN ord lf b F h aJ bS ke) bS ke
 | .cond c a b,F,h,aJ,bS,ke=>vj h.aK F c λy=>fY y (fN ord lf a F h aJ bS ke) (fN ord lf b F h aJ bS ke)
 | .block id c,F,h,aJ,bS,ke=>fN ord lf c F h aJ bS (λi F h=>bif Nat.beq i id then aJ F h else ke i F h)
 | .loop c,F,h,_,bS,ke=>vh (λF h k=>fN ord lf c F h k bS ke) lf F h
 | .exit id,F,h,_,_,ke=>ke id F h
 | .label _,F,h,aJ,_,_=>aJ F h
 | .ret,F,h,_,bS,_=>bS F h
 |_,_,_,_,_,_=>none
end
section
variable(P:Program)
def Xp(F:Fr)(h:U)(k:J->ab):ResultVar->ab
 | .tmp t=>ob (F t) k
 | .cell a t=>ob (F a) λp=>(match oZ P t,dP P t with
   |some true,some n=>ob (fu n p h) k
   |some false,some _=>ob (bZ p h) k
   |_,_=>none)
def Xq(F:Fr)(h:U):List ResultVar->(List J->ab)->ab
 | [],k=>k []
 |r::rs,k=>Xp P F h (λy=>Xq F h rs λys=>k (y::ys)) r
def FN(fn:Func)(F:Fr)(h:U):ab:=Xq P F h fn.results.toList λys=>some (.ret (zl ys),h)
def Ao(args:List J):Fr:=λt=>args[t]?
def tX(a6:ca P)(C:ad)(lf:Nat)(args:List J)(h:U):ab:=
 fN P C a6.fn.ntmps a6.ord lf (a6.fn.body.getD .skip) (Ao args) h (FN P a6.fn) (FN P a6.fn) (λ_ _ _=>none)
end
end
section
variable{P:Program}
@[simp] theorem U.LA(h:U)(O:List Bool)(p:List Prop)(D:List eO):(h.x O p D).aV=h.aV:=e1 rfl
@[simp] theorem U.aFK(h:U)(O:List Bool)(p:List Prop)(D:List eO):(h.x O p D).next=h.next:=e1 rfl
@[simp] theorem U.aFL(h:U)(O:List Bool)(p:List Prop)(D:List eO):(h.x O p D).aK=h.aK:=e1 rfl
@[simp] theorem U.so(h:U):h.x0.aV=h.aV:=e1 rfl
@[simp] theorem U.aFI(h:U):h.x0.next=h.next:=e1 rfl
@[simp] theorem U.aFH(h:U):h.x0.h=h:=e1 rfl
@[simp] theorem U.aFJ(h:U)(O:List Bool)(p:List Prop)(D:List eO):(h.x O p D).h=h:=e1 rfl
def U.b3(h:U)(D:List eO):ah:=h.x [] [] D
@[simp] theorem U.vg(h:U)(D:List eO):(h.b3 D).aV=h.aV:=e1 rfl
@[simp] theorem U.aiu(h:U)(D:List eO):(h.b3 D).next=h.next:=e1 rfl
@[simp] theorem U.vf(h:U)(D:List eO):(h.b3 D).aK=h.aK:=e1 rfl
def jE(f:ah->Option (J×ah)):Prop:=∀(h:U) (y:J) (g:U),ar (f h.x0)=some (y,g)->∀O p D,f (h.x O p D)=some (y,g.x O p D)
def XC(f:ah->Option ah):Prop:=∀(h:U) (g:U),al (f h.x0)=some g->∀O p D,f (h.x O p D)=some (g.x O p D)
theorem ou:jE λ_=>none:=λh y g e=>by cases e
theorem Nn(y:Nat->J)(o:bH):jE λX=>some (y (X.new o).1,(X.new o).2):=λh z g e O p D=>by
 simp only[ar,Option.some.injEq,Prod.mk.injEq] at e;obtain⟨rfl,rfl⟩:=e;rfl
theorem No(y:Nat->J)(t:TypeId)(cs:List J):jE λX=>some (y (newRow X t cs).1,(newRow X t cs).2):=by
 simp only[newRow,force_eq];exact Nn y _
theorem Zb(y:Nat->J)(t e:Nat)(cs:List J):jE λX=>some (y (mP X t e cs).1,(mP X t e cs).2):=by
 simp only[mP,force_eq];exact Nn y _
theorem alr(y:Nat->J)(t n:Nat)(cs:List J):jE λX=>some (y (mQ X t n cs).1,(mQ X t n cs).2):=by
 simp only[mQ,force_eq];exact Nn y _
theorem Y5(e:TypeId):jE (pX P e):=by
 unfold pX;cases hb P e with
 |none=>exact ou
 |some z=>exact No (λk=> .ptr k 0) _ _
theorem Y9(e:TypeId)(x:J):jE (pZ e x):=by
 unfold pZ;cases x.flat with
 |false=>exact ou
 |true=>exact No (λk=> .ptr k 0) _ _
theorem Za(t:TypeId)(len:Nat)(gi:List Nat)(vs:List J):jE (oV P t len gi vs):=by
 unfold oV;split
 ·rename_i e _;split
  ·rename_i s z _ _;cases(Nat.ble (len*s) 65536&&Nat.ble 1 s&&Nat.beq (db z).cells.length s) with
   |false=>exact ou
   |true=>
    simp only[cond_true];cases pB (λi=>some (i*s,s)) (si (db z).cells len) (gi.zip vs) with
    |none=>exact ou
    |some cs=>exact No (λk=> .aZ k 0 len (some len) 0) _ _
  ·exact ou
 ·exact ou
theorem Zc(t:TypeId)(l c:J):jE (p0 P t l c):=by
 unfold p0;split
 ·rename_i e _;split
  ·rename_i l c _ _;split
   ·rename_i s z b _ _ _;cases(Nat.ble l c&&Nat.ble (c*b) 140737488355328&&Nat.ble c 140737488355328&&Nat.beq (db z).cells.length s&&Nat.ble 1 s) with
    |false=>exact ou
    |true=>exact alr (λk=> .aZ k 0 l (some c) 0) _ _ _
   ·exact ou
  ·exact ou
 ·exact ou
theorem aln(s d:TypeId)(x:J):jE (jJ P s d x):=by
 intro h y g e O p D;unfold jJ at e⊢;split at e
 ·rename_i av b h1 h2;cases ae:(hN P av&&Nat.ble b.size 140737488355328) with
  |false=>simp[ae,ar] at e
  |true=>simp only[ae,cond_true] at e⊢;exact Zb (λk=> .aZ k 0 b.size none 0) _ _ _ h y g e O p D
 ·rename_i av k off n cap lo h1 h2;simp only[U.so,U.LA] at e⊢;cases ae:(hN P av&&Nat.beq s d) with
  |false=>simp[ae,ar] at e
  |true=>
   simp only[ae,cond_true] at e⊢;cases aq:h.aV.get k with
   |none=>simp[aq,ar] at e
   |some o=>
    simp only[aq] at e⊢;cases aI:o.ro with
    |true=>simp[aI,ar] at e
    |false=>simp only[aI,cond_false,ar,Option.some.injEq,Prod.mk.injEq] at e⊢;obtain⟨rfl,rfl⟩:=e;exact⟨rfl,rfl⟩
 ·rename_i av _ _ h1 h2;cases ae:hN P av with
  |false=>simp[ae,ar] at e
  |true=>simp only[ae,cond_true,ar,Option.some.injEq,Prod.mk.injEq] at e⊢;obtain⟨rfl,rfl⟩:=e;exact⟨rfl,rfl⟩
 ·rename_i av _ h1 h2;cases ae:hN P av with
  |false=>simp[ae,ar] at e
  |true=>simp only[ae,cond_true,ar,Option.some.injEq,Prod.mk.injEq] at e⊢;obtain⟨rfl,rfl⟩:=e;exact⟨rfl,rfl⟩
 ·rename_i av k off n _ _ h1 h2;simp only[U.so,U.LA] at e⊢;cases ae:hN P av with
  |false=>simp[ae,ar] at e
  |true=>
   simp only[ae,cond_true] at e⊢;cases aq:h.aV.get k with
   |none=>simp[aq,ar] at e
   |some o=>
    simp only[aq] at e⊢;cases aL:j4 o off n with
    |none=>simp[aL,ar] at e
    |some ys=>
     simp only[aL] at e⊢;cases ag:bytesOf ys with
     |none=>simp[ag,ar] at e
     |some lh=>simp only[ag,ar,Option.some.injEq,Prod.mk.injEq] at e⊢;obtain⟨rfl,rfl⟩:=e;exact⟨rfl,rfl⟩
 ·cases e
theorem als(t:TypeId)(x:J):jE (zr P t x):=ou
theorem alq(k:Nat):jE (wS k):=ou
theorem aqB(x:J)(name:String)(h:U)(O:List Bool)(p:List Prop)(D:List eO):Ji P x name (h.x O p D)=Ji P x name h.x0:=rfl
theorem alQ(t:TypeId)(m k v:J):XC (wT P t m k v):=λ_ _ e=>by cases e
theorem alp(t:TypeId)(m k:J):jE (zn P t m k):=ou
theorem alP(m b v:J):XC (wR m b v):=λ_ _ e=>by cases e
theorem ZK(sz:Nat)(x:J)(h:U)(O:List Bool)(p:List Prop)(D:List eO):kY (h.x O p D) sz x=kY h.x0 sz x:=rfl
theorem Y6(k off len:Nat)(cap:Option Nat)(lo ep sz:Nat)(o:bH)(news:List J):jE (pq k off len cap lo ep sz o news):=by
 intro h y g e O p D;unfold pq at e⊢;cases ae:(Nat.ble (off+ep*sz) o.n&&!o.ro) with
 |false=>simp[ae,ar] at e
 |true=>simp only[ae,cond_true,ar,Option.some.injEq,Prod.mk.injEq] at e⊢;obtain⟨rfl,rfl⟩:=e;exact⟨rfl,rfl⟩
theorem Y7(e sz b ep:Nat)(cells:List J):jE (nC e sz b ep cells):=by
 unfold nC;cases(Nat.ble ep 140737488355328&&Nat.ble (ep*b) 140737488355328) with
 |false=>exact ou
 |true=>exact Zb (λk=> .aZ k 0 ep none 0) _ _ _
theorem ali(k len ep sz b:Nat)(o:bH)(news:List J):jE (rB k len ep sz b o news):=by
 intro h y g e O p D;unfold rB at e⊢;cases ae:(Nat.ble (len*sz) o.n&&(Nat.ble ep 140737488355328&&Nat.ble (ep*b) 140737488355328)) with
 |false=>simp[ae,ar] at e
 |true=>simp only[ae,cond_true,force_eq,ar,Option.some.injEq,Prod.mk.injEq] at e⊢;obtain⟨rfl,rfl⟩:=e;exact⟨rfl,rfl⟩
theorem Y8(e sz b k off len:Nat)(cap:Option Nat)(lo n:Nat)(news:List J):jE (lA e sz b k off len cap lo n news):=by
 intro h y g he O p D;unfold lA at he⊢;simp only[U.so,U.LA,force_eq] at he⊢;cases aq:h.aV.get k with
 |none=>simp[aq,ar] at he
 |some o=>
  simp only[aq] at he⊢;cases cap with
  |some c=>
   simp only at he⊢;cases ae:Nat.ble (len+n) c with
   |true=>simp only[ae,cond_true] at he⊢;exact Y6 _ _ _ _ _ _ _ _ _ h y g he O p D
   |false=>
    simp only[ae,cond_false] at he⊢;cases aL:j4 o off (len*sz) with
    |none=>simp[aL,ar] at he
    |some olds=>simp only[aL] at he⊢;exact Y7 _ _ _ _ _ h y g he O p D
  |none=>
   simp only at he⊢;cases ae:(Nat.beq off 0&&(Nat.beq lo 0&&(Nat.beq o.esz sz&&(o.loose&&(!o.ro&&Nat.beq o.ty e))))) with
   |false=>simp[ae,ar] at he
   |true=>
    simp only[ae,cond_true] at he⊢;cases aH:Nat.ble ((len+n)*sz) o.n with
    |true=>simp only[aH,cond_true] at he⊢;exact Y6 _ _ _ _ _ _ _ _ _ h y g he O p D
    |false=>simp only[aH,cond_false] at he⊢;exact ali _ _ _ _ _ _ _ h y g he O p D
theorem alj(t:TypeId)(s x:J):jE (oU P t s x):=by
 intro h y g he O p D;unfold oU at he⊢;simp only[ZK];split at he<;>try(cases he;done)
 rename_i e _;split at he<;>try(cases he;done)
 rename_i sz z b h1 h2 h3
 try simp only[]
 split at he<;>try(cases he;done)
 rename_i n news aW;cases ae:(Nat.ble 1 sz&&(Nat.beq news.length (n*sz)&&(dZ news&&Nat.beq (db z).cells.length sz))) with
 |false=>simp[ae,ar] at he
 |true=>
  simp only[ae,cond_true] at he⊢;split at he
  ·rename_i a c;cases b1:(Nat.beq a 0&&Nat.beq c 0) with
   |false=>simp[b1,ar] at he
   |true=>
    simp only[b1,cond_true] at he⊢;cases aO:Nat.beq n 0 with
    |true=>simp only[aO,cond_true,ar,Option.some.injEq,Prod.mk.injEq] at he⊢;obtain⟨rfl,rfl⟩:=he;exact⟨rfl,rfl⟩
    |false=>simp only[aO,cond_false] at he⊢;exact Y7 _ _ _ _ _ h y g he O p D
  ·exact Y8 _ _ _ _ _ _ _ _ _ _ h y g he O p D
  ·rename_i k;cases aO:Nat.beq n 0 with
   |true=>simp only[aO,cond_true,ar,Option.some.injEq,Prod.mk.injEq] at he⊢;obtain⟨rfl,rfl⟩:=he;exact⟨rfl,rfl⟩
   |false=>simp[aO,ar] at he
  ·cases he
theorem alk(t:TypeId)(s x:J):jE (pY P t s x):=by
 intro h y g he O p D;unfold pY at he⊢;split at he<;>try(cases he;done)
 rename_i hu
 try simp only[hu]
 split at he<;>try(cases he;done)
 rename_i sz z b h1 h2 h3
 try simp only[h1,h2,h3]
 split at he<;>try(cases he;done)
 rename_i c ga
 try simp only[ga]
 generalize(Nat.beq sz 1&&(_&&(_&&_)))=aS at he⊢;cases aS with
 |false=>simp[ar] at he
 |true=>
  simp only[cond_true] at he⊢;split at he<;>try(cases he;done)
  exact Y8 _ _ _ _ _ _ _ _ _ _ h y g he O p D
theorem alo(t:TypeId)(d x:J):jE (q6 P t d x):=by
 intro h y g he O p D;unfold q6 at he⊢;simp only[ZK];split at he<;>try(cases he;done)
 rename_i e _;split at he<;>try(cases he;done)
 rename_i sz h1
 try simp only[]
 split at he<;>try(cases he;done)
 rename_i n news aW;cases ae:(Nat.beq news.length (n*sz)&&dZ news) with
 |false=>simp[ae,ar] at he
 |true=>
  simp only[ae,cond_true] at he⊢;split at he
  ·rename_i a c;cases b1:Nat.beq a 0 with
   |false=>simp[b1,ar] at he
   |true=>simp only[b1,cond_true,ar,Option.some.injEq,Prod.mk.injEq] at he⊢;obtain⟨rfl,rfl⟩:=he;exact⟨rfl,rfl⟩
  ·rename_i k off len _ _;simp only[U.so,U.LA,force_eq] at he⊢;cases aq:h.aV.get k with
   |none=>simp[aq,ar] at he
   |some o=>
    simp only[aq] at he⊢;cases aH:(Nat.ble (off+len*sz) o.n&&!o.ro) with
    |false=>simp[aH,ar] at he
    |true=>simp only[aH,cond_true,ar,Option.some.injEq,Prod.mk.injEq] at he⊢;obtain⟨rfl,rfl⟩:=he;exact⟨rfl,rfl⟩
  ·cases he
theorem CA(r:Option J):jE λX=>dx X r:=by
 intro h y g e O p D;cases r with
 |none=>cases e
 |some z=>simp only[dx,ar,Option.some.injEq,Prod.mk.injEq] at e⊢;obtain⟨rfl,rfl⟩:=e;exact⟨rfl,rfl⟩
theorem alm(b:Builtin)(c9:Array TypeId)(vs:List J):jE (iD P b c9 vs):=by
 intro h y g e O p D;unfold iD at e⊢;split at e
 ·split at e
  ·rename_i t aN;try simp only[aN]
   exact CA _ h y g e O p D
  ·cases e
 ·split at e
  ·rename_i t aN;try simp only[aN]
   exact CA _ h y g e O p D
  ·cases e
 ·exact CA _ h y g e O p D
 ·exact CA _ h y g e O p D
 ·split at e
  ·rename_i t u h1 h2
   try simp only[h1,h2]
   split at e
   ·rename_i d aH;cases aO:se d with
    |false=>
     simp only[aO,cond_false] at e⊢;cases bf:vi d with
     |false=>simp[bf,ar] at e
     |true=>simp only[bf,cond_true] at e⊢;exact alk _ _ _ h y g e O p D
    |true=>simp only[aO,cond_true] at e⊢;exact alj _ _ _ h y g e O p D
   ·cases e
  ·cases e
 ·split at e
  ·rename_i t aN;try simp only[aN]
   exact alo _ _ _ h y g e O p D
  ·cases e
 ·cases e
end
section
variable{P:Program}{C:ad}{callf:bL}
def qi(P:Program)(callf:bL)(op:Op)(bA:List J)(X:ah):Option (Out×ah):=match op with
 | .call c=>(match c.callee with
   | .builtin b=>bif pL b then kO bA X else gA (iD P b c.argTypes bA X)
   |_=>match pv P c bA X with
    |some (f,args)=>callf f args X
    |none=>none)
 | .panic _=>kO bA X
 |op=>gA (dO P op bA X)
theorem ZZ{o:Oper}{F:ax J}{X:ah}:jW P callf o F X=match looks X.aK F o.op.operands.toList with|none=>none|some bA=>qi P callf o.op bA X:=by
 unfold jW;cases looks X.aK F o.op.operands.toList with
 |none=>rfl
 |some bA=>simp only[];cases o.op<;>rfl
def ly(C:ad)(callf:bL):Prop:=∀c args h o h',C c args h=some (o,h')->∀D,callf c args (h.b3 D)=some (o,h'.b3 D)
def gP(P:Program)(callf:bL)(op:Op)(v:List J)(h:U)(out:Out)(h':U):Prop:=∀D,qi P callf op v (h.b3 D)=some (out,h'.b3 D)
def LX(eP:Bool)(k:J->U->ab)(r:Out×U)(out:Out)(h':U):Prop:=match out with
 | .ret y=>k y h'=some r
 | .cD bj=>eP=false/\r=(.cD bj,h')
def B9(P:Program)(callf:bL)(eP:Bool)(op:Op)(v:List J)(h:U)(k:J->U->ab)(r:Out×U):Prop:=∃out h',gP P callf op v h out h'/\LX eP k r out h'
theorem qU{α:Type}{x:Option α}{k:α->ab}{r:Out×U}(e:ob x k=some r):∃y,x=some y/\k y=some r:=by
 cases x with
 |none=>cases e
 |some y=>exact⟨y,rfl,e⟩
theorem z5{x:Option (J×U)}{k:J->U->ab}{r:Out×U}(e:b2 x k=some r):∃y h,x=some (y,h)/\k y h=some r:=by
 rcases x with _|⟨y,h⟩
 ·cases e
 ·exact⟨y,h,rfl,e⟩
theorem GU{eP:Bool}{x:ab}{k:J->U->ab}{r:Out×U}(e:rG eP x k=some r):∃out h,x=some (out,h)/\LX eP k r out h:=by
 rcases x with _|⟨out,h⟩
 ·cases eP<;>cases e
 ·refine⟨out,h,rfl,?_⟩;cases out with
  |ret y=>cases eP<;>exact e
  |cD bj=>
   cases eP with
   |true=>cases e
   |false=>exact⟨rfl,(Option.some.inj e).symm⟩
theorem mj{v:List J}{k:J->ab}{r:Out×U}(e:hn v k=some r):∃a,v=[a]/\k a=some r:=by
 unfold hn at e;split at e
 ·exact⟨_,rfl,e⟩
 ·cases e
theorem tJ{v:List J}{k:J->J->ab}{r:Out×U}(e:kN v k=some r):∃a b,v=[a,b]/\k a b=some r:=by
 unfold kN at e;split at e
 ·exact⟨_,_,rfl,e⟩
 ·cases e
theorem Jr{v:List J}{k:J->J->J->ab}{r:Out×U}(e:wE v k=some r):∃a b c,v=[a,b,c]/\k a b c=some r:=by
 unfold wE at e;split at e
 ·exact⟨_,_,_,rfl,e⟩
 ·cases e
variable{eP:Bool}{op:Op}{v:List J}{h:U}{k:J->U->ab}{r:Out×U}
theorem lI{x:Option J}(al:∀X,qi P callf op v X=gA (dx X x))(e:ob x (λy=>k y h)=some r):B9 P callf eP op v h k r:=by
 obtain⟨y,rfl,e⟩:=qU e;exact⟨.ret y,h,λD=>by rw[al];rfl,e⟩
theorem vX{f:ah->Option (J×ah)}(an:jE f)(al:∀X,qi P callf op v X=gA (f X))(e:b2 (ar (f h.x0)) k=some r):B9 P callf eP op v h k r:=by
 obtain⟨y,g,h1,e⟩:=z5 e;exact⟨.ret y,g,λD=>by rw[al];unfold U.b3;rw[an h y g h1];rfl,e⟩
theorem Ps{f:U->Option J}(al:∀D,qi P callf op v (h.b3 D)=gA (dx (h.b3 D) (f h)))(e:ob (f h) (λy=>k y h)=some r):B9 P callf eP op v h k r:=by
 obtain⟨y,h1,e⟩:=qU e;exact⟨.ret y,h,λD=>by rw[al,h1];rfl,e⟩
theorem ur(op:BinOp)(t:TypeId)(x y:J):bin P op t x y=vG P op t x y:=by
 cases x<;>try rfl
 cases y<;>try rfl
 show(yI op).run _ _ _ _=_;rw[adL];rfl
theorem aef{t:TypeId}{b:Bool}{n:Nat}(b1:oZ P t=some b)(aO:dP P t=some n){x:Operand}(a:J)(h:U)(D:List eO):
 qi P callf (.load t x) [a] (h.b3 D)=gA (dx (h.b3 D) (bif b then fu n a h else bZ a h)):=by
 cases a<;>try(cases b<;>rfl)
 rename_i j off;show gA (dx _ (lV P t (h.b3 D) j off))=_;unfold lV;rw[b1,aO];simp only[U.vg];cases b with
 |true=>
  simp only[cond_true,fu,Je];cases h.aV.get j with
  |none=>rfl
  |some o=>simp only[];rfl
 |false=>
  simp only[cond_false,bZ,Q2];cases h.aV.get j<;>rfl
theorem aBz{n j off:Nat}{y:J}{h g:U}{t:TypeId}(aO:dP P t=some n)(e:La n j off y h=some g)(D:List eO):n7 P t (h.b3 D) j off y=some (g.b3 D):=by
 unfold La at e;unfold n7;rw[aO];simp only[U.vg];cases aq:h.aV.get j with
 |none=>simp[aq] at e
 |some o=>
  simp only[aq,WM] at e⊢;cases ae:(Nat.beq y.cells.length n&&Nat.ble (off+n) o.n&&!o.ro&&dZ y.cells) with
  |false=>simp[ae] at e
  |true=>
   simp only[ae,cond_true,Option.some.injEq,Ek] at e⊢;subst e;obtain⟨aK,next,⟨iS,base⟩⟩:=h;rfl
theorem ae1{bA:List J}{h:U}{r:Out×U}{eP:Bool}(e:LM eP bA h=some r):eP=false/\∃bj,r=(.cD bj,h)/\∀X,kO bA X=some (.cD bj,X):=by
 unfold LM at e;split at e
 ·simp only[Option.some.injEq] at e;subst e;exact⟨rfl,_,rfl,λX=>rfl⟩
 ·cases e
theorem aEk(fj:ly C callf){c:Call}(e:Xm P eP C c v h k=some r):B9 P callf eP (.call c) v h k r:=by
 unfold Xm at e;cases ae:c.callee with
 |builtin b=>
  have ju:∀X,qi P callf (.call c) v X=bif pL b then kO v X else gA (iD P b c.argTypes v X):=λX=>by simp only[qi,ae]
  simp only[ae] at e;unfold aiA at e;split at e
  ·obtain⟨rfl,bj,rfl,aC⟩:=ae1 e;exact⟨.cD bj,h,λD=>by rw[ju];exact aC _,rfl,rfl⟩
  ·obtain⟨x,hv,bg⟩:=mj e;clear e;subst hv;revert bg;intro e;split at e
   ·rename_i t aN;refine lI (λX=>?_) e;rw[ju];simp only[pL,cond_false,iD,aN]
   ·cases e
  ·rename_i h1 h2;refine vX (alm _ c.argTypes v) (λX=>?_) e;rw[ju]
   have:pL b=false:=by cases b<;>first|rfl|exact absurd rfl h1
   rw[this];rfl
 |value f=>
  simp only[ae] at e;split at e<;>try(cases e;done)
  rename_i f args;unfold fi at e;split at e
  ·rename_i g a b;obtain⟨out,h',h1,h2⟩:=GU e;exact⟨out,h',λD=>by simp only[qi,ae,pv];exact fj _ _ _ _ _ h1 D,h2⟩
  ·rename_i j;obtain⟨out,h',h1,h2⟩:=GU e;exact⟨out,h',λD=>by simp only[qi,ae,pv];exact fj _ _ _ _ _ h1 D,h2⟩
  ·cases e
 |invoke rc name=>
  simp only[ae] at e;split at e<;>try(cases e;done)
  rename_i x args;obtain⟨out,h',h1,h2⟩:=GU e;unfold adG at h1;split at h1<;>try(cases h1;done)
  rename_i f K2 hm;exact⟨out,h',λD=>by simp only[qi,ae,pv];unfold U.b3;simp only[aqB,hm];exact fj _ _ _ _ _ h1 D,h2⟩
theorem aiH(fj:ly C callf)(e:FQ P eP C op v h k=some r):B9 P callf eP op v h k r:=by
 unfold FQ at e;split at e
 ·obtain⟨a,hv,bg⟩:=mj e;clear e;subst hv;revert bg;intro e;exact⟨.ret a,h,λD=>rfl,e⟩
 ·obtain⟨a,hv,bg⟩:=mj e;clear e;subst hv;revert bg;intro e;exact⟨.ret a,h,λD=>rfl,e⟩
 ·obtain⟨c,a,b,hv,bg⟩:=Jr e;clear e;subst hv;revert bg;intro e;obtain⟨y,h1,e⟩:=qU e;refine⟨.ret y,h,λD=>?_,e⟩;unfold jB at h1;split at h1
  ·rename_i t;cases t<;>(cases h1;rfl)
  ·cases h1
 ·split at e
  ·exact vX (Y5 _) (λX=>rfl) e
  ·cases e
 ·obtain⟨a,hv,bg⟩:=mj e;clear e;subst hv;revert bg;intro e;exact vX (Y9 _ _) (λX=>rfl) e
 ·exact lI (λX=>rfl) e
 ·exact vX (Za _ _ _ _) (λX=>rfl) e
 ·obtain⟨a,hv,bg⟩:=mj e;clear e;subst hv;revert bg;intro e;split at e
  ·rename_i n b1 aO;exact Ps (f:=λh=>fu n a h) (λD=>aef b1 aO a h D) e
  ·rename_i n b1 aO;exact Ps (f:=λh=>bZ a h) (λD=>aef b1 aO a h D) e
  ·cases e
 ·obtain⟨a,y,hv,bg⟩:=tJ e;clear e;subst hv;revert bg;intro e;rename_i t _ _;split at e
  ·rename_i n aO;obtain⟨g,h1,aA⟩:=qU e;unfold st at h1;split at h1<;>try(cases h1;done)
   rename_i j off;refine⟨.ret (.val undef),g,λD=>?_,aA⟩;show gA (match n7 P t (h.b3 D) j off y with|some X=>some (J.val undef,X)|none=>none)=_;rw[aBz aO h1];rfl
  ·cases e
 ·obtain⟨a,hv,bg⟩:=mj e;clear e;subst hv;revert bg;intro e;exact lI (λX=>rfl) e
 ·obtain⟨a,b,hv,bg⟩:=tJ e;clear e;subst hv;revert bg;intro e;rw[ur] at e;exact lI (λX=>rfl) e
 ·obtain⟨a,hv,bg⟩:=mj e;clear e;subst hv;revert bg;intro e;exact lI (λX=>rfl) e
 ·obtain⟨a,hv,bg⟩:=mj e;clear e;subst hv;revert bg;intro e;rename_i s d _;split at e
  ·rename_i k1 kd al aH;refine lI (λX=>?_) e;show gA (match n6 P s d a with|some y=>some (y,X)|none=>jJ P s d a X)=_;unfold n6 jJ;simp only[al,aH];cases a<;>try rfl
   rename_i x;cases x<;>rfl
  ·refine vX (f:=λX=>match n6 P s d a with|some y=>some (y,X)|none=>jJ P s d a X) ?_ (λX=>rfl) (by
    revert e;unfold rj;cases n6 P s d a<;>exact id)
   cases n6 P s d a with
   |none=>exact aln _ _ _
   |some y=>exact CA (some y)
 ·obtain⟨a,hv,bg⟩:=mj e;clear e;subst hv;revert bg;intro e;rename_i t _;split at e
  ·cases e
  ·rename_i d b4 aH;refine⟨.ret (.pK t a),h,λD=>?_,e⟩;show gA (dx _ (Fm P t a))=_;unfold Fm;simp only[aH];cases d<;>first|rfl|(exact absurd rfl (b4 _))
  ·cases e
 ·exact⟨.ret _,h,λD=>rfl,e⟩
 ·obtain⟨a,b,hv,bg⟩:=tJ e;clear e;subst hv;revert bg;intro e;exact vX (Zc _ _ _) (λX=>rfl) e
 ·obtain⟨a,hv,bg⟩:=mj e;clear e;subst hv;revert bg;intro e;rename_i s _ f;split at e
  ·rename_i fd an;split at e
   ·rename_i m hm;refine lI (λX=>?_) e;cases a<;>try rfl
    rename_i j off;show gA (dx X (q7 P s f j off))=_;simp only[q7,an,hm,b6,force_eq]
   ·cases e
  ·cases e
 ·obtain⟨a,hv,bg⟩:=mj e;clear e;subst hv;revert bg;intro e;rename_i s _ f;split at e
  ·rename_i fd an;split at e
   ·rename_i n b1 aO;refine lI (λX=>?_) e;cases a<;>try rfl
    rename_i cs;show gA (dx X (zo P s f cs))=_;simp only[zo,an,pT,b1,aO,Z8]
   ·rename_i n b1 aO;refine lI (λX=>?_) e;cases a<;>try rfl
    rename_i cs;show gA (dx X (zo P s f cs))=_;simp only[zo,an,pT,b1,aO,Hn]
   ·cases e
  ·cases e
 ·obtain⟨a,i,hv,bg⟩:=tJ e;clear e;subst hv;revert bg;intro e;rename_i t _ _;split at e
  ·rename_i n el hu;split at e
   ·rename_i s al;refine lI (λX=>?_) e;show gA (dx X (mT P t a i))=_;unfold mT ev;cases hX i with
    |none=>rfl
    |some m=>
     simp only[hu];cases a<;>try rfl
     simp only[al,z4,force_eq]
   ·cases e
  ·rename_i el hu;split at e
   ·rename_i s al;refine lI (λX=>?_) e;show gA (dx X (mT P t a i))=_;unfold mT dS;cases hX i with
    |none=>rfl
    |some m=>
     simp only[hu];cases a<;>try rfl
     simp only[al,z4,force_eq]
   ·cases e
  ·cases e
 ·obtain⟨a,i,hv,bg⟩:=tJ e;clear e;subst hv;revert bg;intro e;exact lI (λX=>rfl) e
 ·obtain⟨a,hv,bg⟩:=mj e;clear e;subst hv;revert bg;intro e;refine lI (λX=>?_) e;cases a<;>rfl
 ·obtain⟨a,hv,bg⟩:=mj e;clear e;subst hv;revert bg;intro e;exact vX (als _ _) (λX=>rfl) e
 ·obtain⟨a,hv,bg⟩:=mj e;clear e;subst hv;revert bg;intro e;obtain⟨y,g,h1,aA⟩:=z5 e;unfold aiJ at h1;split at h1
  ·rename_i j
   exact⟨.ret y,g,λD=>by
    show gA (wS j (h.b3 D))=_
    unfold U.b3;rw[alq j h y g h1];rfl,aA⟩
  ·cases h1
 ·obtain⟨a,hv,bg⟩:=mj e;clear e;subst hv;revert bg;intro e;refine lI (λX=>?_) e;cases a<;>rfl
 ·split at e
  ·exact⟨.ret _,_,λD=>rfl,e⟩
  ·cases e
 ·obtain⟨m,q,hv,bg⟩:=tJ e;clear e;subst hv;revert bg;intro e;rename_i t _ _ ok;exact Ps (f:=λh=>aiI P t ok m q h) (λD=>rfl) e
 ·obtain⟨m,q,x,hv,bg⟩:=Jr e;clear e;subst hv;revert bg;intro e;rename_i t _ _ _;obtain⟨g,h1,e⟩:=qU e;refine⟨.ret (.val undef),g,λD=>?_,e⟩;show gA (match wT P t m q x (h.b3 D) with|some X=>some (J.val undef,X)|none=>none)=_;unfold U.b3;rw[alQ t m q x h g h1];rfl
 ·obtain⟨m,q,hv,bg⟩:=tJ e;clear e;subst hv;revert bg;intro e;exact vX (alp _ _ _) (λX=>rfl) e
 ·obtain⟨m,q,x,hv,bg⟩:=Jr e;clear e;subst hv;revert bg;intro e;obtain⟨g,h1,e⟩:=qU e;refine⟨.ret (.val undef),g,λD=>?_,e⟩;show gA (match wR m q x (h.b3 D) with|some X=>some (J.val undef,X)|none=>none)=_;unfold U.b3;rw[alP m q x h g h1];rfl
 ·obtain⟨x,hv,bg⟩:=mj e;clear e;subst hv;revert bg;intro e;exact lI (λX=>rfl) e
 ·obtain⟨x,hv,bg⟩:=mj e;clear e;subst hv;revert bg;intro e;exact lI (λX=>rfl) e
 ·obtain⟨x,l,hv,bg⟩:=tJ e;clear e;subst hv;revert bg;intro e;exact lI (λX=>rfl) e
 ·obtain⟨x,l,hv,bg⟩:=tJ e;clear e;subst hv;revert bg;intro e;exact lI (λX=>rfl) e
 ·obtain⟨x,l,m,hv,bg⟩:=Jr e;clear e;subst hv;revert bg;intro e;exact lI (λX=>rfl) e
 ·exact aEk fj e
 ·obtain⟨rfl,bj,rfl,aC⟩:=ae1 e;exact⟨.cD bj,h,λD=>aC _,rfl,rfl⟩
 ·cases e
end
section
variable{P:Program}{C:ad}{callf:bL}{N:Nat}
def fB(Ft:ax J)(F:Fr):Prop:=∀t,Ft.get t=F t
theorem fB.put{Ft:ax J}{F:Fr}(aT:fB Ft F)(d:Option Tmp)(y:J):fB (put N Ft d y) (wG N F d y):=λt=>by
 cases d with
 |none=>exact aT t
 |some d=>
  simp only[Xe.put,wG];cases Nat.blt d N with
  |false=>exact aT t
  |true=>
   simp only[cond_true];rw[kG];cases ag:Nat.beq t d with
   |true=>rw[if_pos (Nat.eq_of_beq_eq_true ag)];rfl
   |false=>rw[if_neg (Nat.ne_of_beq_eq_false ag)];exact aT t
theorem w8{Ft:ax J}{F:Fr}(aT:fB Ft F)(aK:Nat)(x:Operand):look aK Ft x=n9 aK F x:=by
 cases x with
 |tmp t=>exact aT t
 |_=>rfl
theorem LR{aK:Nat}{F:Fr}{x:Operand}{k:J->ab}{r:Out×U}(e:vj aK F x k=some r):∃a,n9 aK F x=some a/\k a=some r:=by
 cases x with
 |tmp t=>exact qU e
 |const v=>exact⟨_,rfl,e⟩
 |func f=>exact⟨_,rfl,e⟩
 |global g=>
  simp only[vj,De,n9,acm] at e⊢;cases ag:Nat.blt g aK with
  |false=>simp[ag] at e
  |true=>simp only[ag,cond_true] at e⊢;exact⟨_,rfl,e⟩
theorem LK{aK:Nat}{F:Fr}:∀{l:List Operand} {k:List J->ab} {r:Out×U},BZ aK F l k=some r->∃v,(∀Ft,fB Ft F->looks aK Ft l=some v)/\k v=some r
 | [],k,r,e=>⟨[],λ_ _=>rfl,e⟩
 |x::xs,k,r,e=>by
  obtain⟨a,h1,e⟩:=LR e;obtain⟨v,h2,e⟩:=LK e;exact⟨a::v,λFt aT=>by simp only[looks,w8 aT,h1,h2 Ft aT],e⟩
theorem Z2{o:Oper}{F:ax J}{X af:ah}{y:J}(h:jW P callf o F X=some (.ret y,af)):kl P callf o F X=some (y,af):=by
 unfold jW at h;unfold kl;split at h<;>try(cases h;done)
 rename_i bA hv
 try simp only[hv]
 have aC:∀vs,kO vs X≠some (.ret y,af):=λvs ck=>by unfold kO at ck;split at ck<;>cases ck
 have aI:∀z,gA z=some (.ret y,af)->z=some (y,af):=λz a1=>by
  rcases z with _|⟨a,b⟩
  ·cases a1
  ·cases a1;rfl
 split at h
 ·rename_i c ae;simp only[ae];unfold xM;split at h
  ·rename_i b ag
   try simp only[ag]
   cases AR:pL b with
   |true=>simp only[AR,cond_true] at h;exact absurd h (aC _)
   |false=>simp only[AR,cond_false] at h;exact aI _ h
  ·rename_i ag;split at h<;>try(cases h;done)
   rename_i xE args hW
   try simp only[hW]
   first
    |(split
      ·rename_i b iL;exact absurd iL (ag b)
      ·simp only[hW,Aa,h])
    |simp only[Aa,h]
 ·exact absurd h (aC _)
 ·rename_i h1 h2;split
  ·rename_i c ae;exact absurd ae (h1 c)
  ·exact aI _ h
theorem anl{want:Bool}{x:Option J}{fW:ab}{h h':U}{out:Out}(e:cX want x fW h=some (out,h')):
 ∃y,x=some y/\(((∀X,lB X want y=some (false,X))/\out= .ret (.val undef)/\h'=h)\/((∀X,lB X want y=some (true,X))/\fW=some (out,h'))):=by
 cases x with
 |none=>cases e
 |some y=>
  refine⟨y,rfl,?_⟩;simp only[cX] at e;cases aN:tv y with
  |true=>
   simp only[aN,cond_true,Option.some.injEq,Prod.mk.injEq] at e;obtain⟨rfl,rfl⟩:=e;exact .inl ⟨λX=>by simp only[lB,aN,cond_true],rfl,rfl⟩
  |false=>
   simp only[aN,cond_false] at e;split at e
   ·rename_i b;cases ag:(b==want) with
    |true=>
     simp only[ag,cond_true] at e;exact .inr ⟨λX=>by simp only[lB,aN,cond_false,fZ,ag],e⟩
    |false=>
     simp only[ag,cond_false,Option.some.injEq,Prod.mk.injEq] at e;obtain⟨rfl,rfl⟩:=e;exact .inl ⟨λX=>by simp only[lB,aN,cond_false,fZ,ag],rfl,rfl⟩
   ·cases e
theorem aiG{eP:Bool}{op:Op}{v:List J}{h:U}{k:J->U->ab}{r:Out×U}(e:FQ P eP C op v h k=some r):nZ op=false:=by
 cases op<;>first|rfl|cases e
def X5(P:Program)(callf:bL)(N:Nat)(ops:List Oper)(o:Oper)(Ft:ax J)(h:U)(out:Out)(h':U):Prop:=∀D,match out with
 | .ret y=>kz P callf N ops o Ft (h.b3 D)=some (none,put N Ft o.dst y,h'.b3 D)/\j9 P callf N ops o Ft (h.b3 D)=some (put N Ft o.dst y,h'.b3 D)
 | .cD bj=>kz P callf N ops o Ft (h.b3 D)=some (some bj,Ft,h'.b3 D)
theorem ahD{ops:List Oper}{o:Oper}{Ft:ax J}{h h':U}{out:Out}{v:List J}(hw:∀D,hp ops Ft (h.b3 D) o.guard=some (true,h.b3 D))(aH:nZ o.op=false)
 (aL:looks h.aK Ft o.op.operands.toList=some v)(aq:gP P callf o.op v h out h'):X5 P callf N ops o Ft h out h':=by
 intro D;have h1:jW P callf o Ft (h.b3 D)=some (out,h'.b3 D):=by rw[ZZ,U.vf,aL];exact aq D
 cases out with
 |ret y=>
  refine⟨?_,?_⟩
  ·simp only[kz,hw,aH,cond_false,h1]
  ·simp only[j9,hw,Z2 h1]
 |cD bj=>simp only[kz,hw,aH,cond_false,h1]
theorem LL(fj:ly C callf){eP:Bool}{ops:List Oper}{o:Oper}{F:Fr}{h:U}{k:Fr->U->ab}{r:Out×U}(e:B0 P C N eP ops o F h k=some r):
 ∃out h',LX eP (λy h=>k (wG N F o.dst y) h) r out h'/\∀Ft,fB Ft F->X5 P callf N ops o Ft h out h':=by
 unfold B0 at e;split at e
 ·rename_i bd;obtain⟨v,h1,e⟩:=LK e;have aH:=aiG e;obtain⟨out,h',h2,h3⟩:=aiH fj e;exact⟨out,h',h3,λFt aT=>ahD (λD=>by rw[bd];rfl) aH (h1 Ft aT) h2⟩
 ·rename_i j want bd;split at e<;>try(cases e;done)
  rename_i cf aa;split at e<;>try(cases e;done)
  rename_i d aol;obtain⟨out,h',h1,h3⟩:=GU e;refine⟨out,h',h3,λFt aT=>?_⟩;obtain⟨y,bf,aW⟩:=anl h1;have Qx:∀X,hp ops Ft X o.guard=lB X want y:=λX=>by simp only[hp,bd,aa,aol,aT d,bf]
  rcases aW with⟨aO,rfl,rfl⟩|⟨aO,bz⟩
  ·intro D;exact⟨by simp only[kz,Qx,aO],by simp only[j9,Qx,aO]⟩
  ·obtain⟨v,bB,dW⟩:=LK bz;have aH:=aiG dW;obtain⟨aeW,gE,pD,oD⟩:=aiH fj dW
   have he:aeW=out/\gE=h':=by
    cases aeW with
    |ret z=>cases oD;exact⟨rfl,rfl⟩
    |cD bj=>obtain⟨_,oD⟩:=oD;cases oD;exact⟨rfl,rfl⟩
   obtain⟨rfl,rfl⟩:=he;exact ahD (λD=>by rw[Qx,aO]) aH (bB Ft aT) pD
theorem aiF(fj:ly C callf){ops:List Oper}:∀{l:List Oper} {F:Fr} {h:U} {k:Fr->U->ab} {r:Out×U},FP P C N false ops l F h k=some r->
 (∃F' h',k F' h'=some r/\∀Ft,fB Ft F->∃b9,fB b9 F'/\∀D,km P callf N ops l Ft (h.b3 D)=some (none,b9,h'.b3 D))\/
 (∃bj h',r=(.cD bj,h')/\∀Ft,fB Ft F->∃b9,∀D,km P callf N ops l Ft (h.b3 D)=some (some bj,b9,h'.b3 D))
 | [],F,h,k,r,e=> .inl ⟨F,h,e,λFt aT=>⟨Ft,aT,λ_=>rfl⟩⟩
 |o::rest,F,h,k,r,e=>by
  obtain⟨out,h',h1,h2⟩:=LL fj e;cases out with
  |ret y=>
   rcases aiF fj h1 with⟨F',fq,h3,aW⟩|⟨bj,fq,rfl,aW⟩
   ·refine .inl ⟨F',fq,h3,λFt aT=>?_⟩;obtain⟨b9,bz,bB⟩:=aW _ (aT.put o.dst y);exact⟨b9,bz,λD=>by simp only[km,(h2 Ft aT D).1,bB]⟩
   ·refine .inr ⟨bj,fq,rfl,λFt aT=>?_⟩;obtain⟨b9,bB⟩:=aW _ (aT.put o.dst y);exact⟨b9,λD=>by simp only[km,(h2 Ft aT D).1,bB]⟩
  |cD bj=>
   obtain⟨_,rfl⟩:=h1
   exact .inr ⟨bj,h',rfl,λFt aT=>⟨Ft,λD=>by
    have:=h2 Ft aT D
    simp only at this
    simp only[km,this]⟩⟩
theorem aiE(fj:ly C callf){ops:List Oper}:∀{l:List Oper} {i:Nat} {F:Fr} {h:U} {k:Fr->U->ab} {r:Out×U},ops.drop i=l->FP P C N true ops l F h k=some r->
 ∃F' h',k F' h'=some r/\∀Ft,fB Ft F->∃b9,fB b9 F'/\∀D bK,iG P callf N ops [] (List.range' i l.length) bK Ft (h.b3 D)=some (b9,h'.b3 D)
 | [],i,F,h,k,r,_,e=>⟨F,h,e,λFt aT=>⟨Ft,aT,λ_ _=>rfl⟩⟩
 |o::rest,i,F,h,k,r,aL,e=>by
  obtain⟨out,h',h1,h2⟩:=LL fj e;cases out with
  |cD bj=>obtain⟨h1,_⟩:=h1;cases h1
  |ret y=>
   have hi:ops[i]?=some o:=by
    have:(ops.drop i)[0]?=some o:=by rw[aL];rfl
    simpa using this
   have aI:ops.drop (i+1)=rest:=by
    have:(ops.drop i).drop 1=rest:=by rw[aL];rfl
    rw[List.drop_drop] at this;exact this
   obtain⟨F',fq,h3,aW⟩:=aiE fj aI h1;refine⟨F',fq,h3,λFt aT=>?_⟩;obtain⟨b9,bz,bB⟩:=aW _ (aT.put o.dst y);refine⟨b9,bz,λD bK=>?_⟩;simp only[List.length_cons,List.range'_succ,iG,hi,(h2 Ft aT D).2,ig,ki,cond_true,bB]
theorem Ya{ops:List Oper}{o:Oper}{Ft:ax J}{F:Fr}(aT:fB Ft F)(h:U)(D:List eO):addrOf ops o Ft (h.b3 D)=LI ops o F h.aK:=by
 have ar:(match looks h.aK Ft o.op.operands.toList with
  |some [.ptr k _]=>some k
  |some [.aZ k _ _ _ _]=>some k
  |some [.mp k,_]=>some k
  |_=>none)=(match o.op.operands.toList with| [x]=>cq (n9 h.aK F x)| [x,y]=>MY (n9 h.aK F x) (n9 h.aK F y)|_=>none):=by
  generalize o.op.operands.toList=l;rcases l with _|⟨x,_|⟨y,_|⟨z,l⟩⟩⟩
  ·rfl
  ·simp only[looks,w8 aT];cases n9 h.aK F x with
   |none=>rfl
   |some z=>cases z<;>rfl
  ·simp only[looks,w8 aT];cases n9 h.aK F x with
   |none=>rfl
   |some a=>
    cases n9 h.aK F y with
    |none=>cases a<;>rfl
    |some b=>cases a<;>rfl
  ·simp only[looks];cases look h.aK Ft x with
   |none=>rfl
   |some a=>
    cases look h.aK Ft y with
    |none=>rfl
    |some b=>
     cases look h.aK Ft z with
     |none=>rfl
     |some c=>cases looks h.aK Ft l<;>(cases a<;>rfl)
 unfold addrOf LI;cases bd:o.guard with
 |none=>simp only[hp,U.vf];exact ar
 |some g=>
  obtain⟨j,want⟩:=g;simp only[hp];cases ops[j]? with
  |none=>rfl
  |some cf=>
   simp only[];cases cf.dst with
   |none=>rfl
   |some d=>
    simp only[aT d];cases F d with
    |none=>rfl
    |some y=>
     simp only[Pm,lB];cases aN:tv y with
     |true=>rfl
     |false=>
      simp only[cond_false];cases y with
      |bool b=>
       simp only[fZ];cases(b==want) with
       |true=>simp only[cond_true,U.vf];exact ar
       |false=>rfl
      |val v=>cases v<;>rfl
      |_=>rfl
theorem G1{bK:List (Nat×Option Nat)}{h h':U}{D:List eO}:∀ls:List Nat,ki bK (h.b3 D) (h'.b3 D) ls=fC bK h h' ls
 | []=>rfl
 |l::ls=>by
  simp only[ki,fC,G1 ls];congr 1;cases l7 bK l with
  |none=>rfl
  |some k=>
   simp only[nm,Fl,FD,U.vg,U.aiu];cases Nat.blt k h.next with
   |false=>rfl
   |true=>
    simp only[cond_true];cases h.aV.get k with
    |none=>rfl
    |some o=>cases h'.aV.get k<;>rfl
theorem vK{b:Bool}{k:ab}{r:Out×U}(e:eX b k=some r):b=true/\k=some r:=by
 cases b with
 |false=>cases e
 |true=>exact⟨rfl,e⟩
theorem Xn{bK:List (Nat×Option Nat)}{h h':U}{ls:List Nat}{k:ab}{r:Out×U}(e:zB bK h h' ls k=some r):fC bK h h' ls=true/\k=some r:=by
 unfold zB at e;split at e
 ·exact⟨rfl,e⟩
 ·exact vK e
theorem rec_eq{ops:List Oper}{i:Nat}{o:Oper}{Ft:ax J}{F:Fr}(aT:fB Ft F)(h:U)(D:List eO)(bK:List (Nat×Option Nat)):
 (bif fb P o.op then(i,addrOf ops o Ft (h.b3 D))::bK else bK)=zk P ops i o F h.aK bK:=by
 unfold zk;rw[Ya aT]
theorem aiB(fj:ly C callf){ops:List Oper}{bU:List (Nat×List Nat)}:∀{is:List Nat} {bK:List (Nat×Option Nat)} {F:Fr} {h:U} {k:Fr->U->ab} {r:Out×U},LJ P C N ops bU is bK F h k=some r->
 ∃F' h',k F' h'=some r/\∀Ft,fB Ft F->∃b9,fB b9 F'/\∀D,iG P callf N ops bU is bK Ft (h.b3 D)=some (b9,h'.b3 D)
 | [],bK,F,h,k,r,e=>⟨F,h,e,λFt aT=>⟨Ft,aT,λ_=>rfl⟩⟩
 |i::is,bK,F,h,k,r,e=>by
  unfold LJ at e;split at e<;>try(cases e;done)
  rename_i o aq;obtain⟨out,h',h1,h2⟩:=LL fj e;cases out with
  |cD bj=>obtain⟨h1,_⟩:=h1;cases h1
  |ret y=>
   obtain⟨ae,h1⟩:=Xn h1;obtain⟨F',fq,h3,aW⟩:=aiB fj h1;refine⟨F',fq,h3,λFt aT=>?_⟩;obtain⟨b9,bz,bB⟩:=aW _ (aT.put o.dst y);refine⟨b9,bz,λD=>?_⟩;simp only[iG,aq,(h2 Ft aT D).2,G1,ae,cond_true,rec_eq aT,bB]
theorem aEn{op:Op}{v:List J}{base i:Nat}{h:U}{k:J->U->ab}{r:Out×U}(e:zD P op v base i h k=some r):
 ∃y g,pO base v=true/\k y g=some r/\∀D,∃af,dO P op v {h.b3 D with next:=base+i}=some (y,af)/\{af with next:=h.next}=g.b3 D:=by
 have key:∀(f:ah->Option (J×ah)),jE f->∀{y g},ss (λh=>ar (f h.x0)) base i h=some (y,g)->∀D,∃af,f {h.b3 D with next:=base+i}=some (y,af)/\{af with next:=h.next}=g.b3 D:=by
  intro f an y g he D;unfold ss at he;split at he<;>try(cases he;done)
  rename_i zz h' fF;cases he;exact⟨_,an ⟨h.aK,base+i,h.aV⟩ y h' fF [] [] D,rfl⟩
 cases op<;>try(cases e;done)
 ·simp only[zD] at e;split at e
  ·obtain⟨y,g,h1,e⟩:=z5 e;exact⟨y,g,rfl,e,key _ (Y5 _) h1⟩
  ·cases e
 ·simp only[zD] at e;obtain⟨a,rfl,e⟩:=mj e;obtain⟨aL,e⟩:=vK e;obtain⟨y,g,h1,e⟩:=z5 e;exact⟨y,g,by simp only[pO,aL,Bool.and_true],e,key _ (Y9 _ _) h1⟩
 ·simp only[zD] at e;obtain⟨aL,e⟩:=vK e;obtain⟨y,g,h1,e⟩:=z5 e;exact⟨y,g,aL,e,key _ (Za _ _ _ _) h1⟩
 ·simp only[zD] at e;obtain⟨a,b,rfl,e⟩:=tJ e;obtain⟨aL,e⟩:=vK e;obtain⟨y,g,h1,e⟩:=z5 e;exact⟨y,g,by simpa only[pO,Bool.and_true] using aL,e,key _ (Zc _ _ _) h1⟩
theorem aiD{ops:List Oper}{base:Nat}{o:Oper}{Ft:ax J}{F:Fr}(aT:fB Ft F){h:U}{k:ab}{r:Out×U}(e:FO P ops base o F h.aK k=some r):k=some r/\∀D,pP P ops base o Ft (h.b3 D)=true:=by
 unfold FO at e;unfold pP;cases aI:fb P o.op with
 |false=>simp only[aI,cond_false] at e⊢;exact⟨e,λ_=>trivial⟩
 |true=>
  simp only[aI,cond_true] at e⊢;obtain⟨h1,e⟩:=vK e;refine⟨e,λD=>?_⟩;rw[Ya aT];unfold aep at h1;exact h1
theorem Xo(fj:ly C callf){ops:List Oper}{rs:List Nat}{bU:List (Nat×List Nat)}{base:Nat}:∀{is:List Nat} {bK:List (Nat×Option Nat)} {F:Fr} {h:U} {k:Fr->U->ab} {r:Out×U},zE P C N ops rs bU base is bK F h k=some r->
 ∃F' h',k F' h'=some r/\∀Ft,fB Ft F->∃b9,fB b9 F'/\∀D,ja P callf N ops rs bU base is bK Ft (h.b3 D)=some (b9,h'.b3 D)
 | [],bK,F,h,k,r,e=>⟨F,h,e,λFt aT=>⟨Ft,aT,λ_=>rfl⟩⟩
 |i::is,bK,F,h,k,r,e=>by
  unfold zE at e;split at e<;>try(cases e;done)
  rename_i o aq;cases aO:hy rs i o.op with
  |false=>
   simp only[aO,cond_false] at e
   have bg:B0 P C N true ops o F h (λF' h'=>zB bK h h' (ig bU i) (zE P C N ops rs bU base is (zk P ops i o F h.aK bK) F' h' k))=some r:=by
    unfold FO at e;cases aI:fb P o.op with
    |false=>simp only[aI,cond_false] at e;exact e
    |true=>simp only[aI,cond_true] at e;exact(vK e).2
   obtain⟨out,h',h1,h2⟩:=LL fj bg;cases out with
   |cD bj=>obtain⟨h1,_⟩:=h1;cases h1
   |ret y=>
    obtain⟨ae,h1⟩:=Xn h1;obtain⟨F',fq,h3,aW⟩:=Xo fj h1;refine⟨F',fq,h3,λFt aT=>?_⟩;obtain⟨b9,bz,bB⟩:=aW _ (aT.put o.dst y);refine⟨b9,bz,λD=>?_⟩;simp only[ja,aq,(aiD aT e).2 D,cond_true,ll,aO,cond_false,(h2 Ft aT D).2,G1,ae,rec_eq aT,bB]
  |true=>
   simp only[aO,cond_true] at e
   have bg:(match o.guard with
    |some _=>none
    |none=>BZ h.aK F o.op.operands.toList λv=>zD P o.op v base i h λy h'=>zB bK h h' (ig bU i) (zE P C N ops rs bU base is (zk P ops i o F h.aK bK) (wG N F o.dst y) h' k))=some r:=by
    unfold FO at e;cases aI:fb P o.op with
    |false=>simp only[aI,cond_false] at e;exact e
    |true=>simp only[aI,cond_true] at e;exact(vK e).2
   split at bg<;>try(cases bg;done)
   rename_i bd;obtain⟨v,hv,bg⟩:=LK bg;obtain⟨y,g,nS,bg,DQ⟩:=aEn bg;obtain⟨ae,bg⟩:=Xn bg;obtain⟨F',fq,h3,aW⟩:=Xo fj bg;refine⟨F',fq,h3,λFt aT=>?_⟩;obtain⟨b9,bz,bB⟩:=aW _ (aT.put o.dst y);refine⟨b9,bz,λD=>?_⟩;obtain⟨af,kr,qB⟩:=DQ D
   have ape:ll P callf N ops rs base i o Ft (h.b3 D)=some (put N Ft o.dst y,g.b3 D):=by
    simp only[ll,aO,cond_true,bd,U.vf,hv Ft aT,nS,force_eq]
    erw [kr]
    exact congrArg (λz=>some (put N Ft o.dst y,z)) qB
   simp only[ja,aq,(aiD aT e).2 D,cond_true,ape,G1,ae,rec_eq aT,bB]
theorem Zp{h:U}{D:List eO}{base:Nat}:∀rs:List Nat,nB (h.b3 D) base rs=Ad h base rs
 | []=>rfl
 |k::bO=>by simp only[nB,Ad,Zp bO];rfl
end
section
variable{P:Program}{C:ad}{callf:bL}{N:Nat}
def Mp(aJ bS:Fr->U->ab)(ke:Nat->Fr->U->ab)(r:Out×U)(ex:hq)(F:Fr)(h:U):Prop:=match ex with
 | .cz=>aJ F h=some r
 | .ret=>bS F h=some r
 | .ex i=>ke i F h=some r
 | .cD bj=>r=(.cD bj,h)
 | .gt _=>False
def B4(cO:ax J->ah->R)(F:Fr)(h:U)(aJ bS:Fr->U->ab)(ke:Nat->Fr->U->ab)(r:Out×U):Prop:=
 ∃ex F' h',Mp aJ bS ke r ex F' h'/\∀Ft,fB Ft F->∃b9,(fB b9 F'\/∃bj,ex= .cD bj)/\∀D,cO Ft (h.b3 D)=some (ex,b9,h'.b3 D)
theorem aej{cO:ax J->ah->R}{body:Fr->U->(Fr->U->ab)->ab}{bS:Fr->U->ab}{ke:Nat->Fr->U->ab}{r:Out×U}(ag:∀F h k,body F h k=some r->B4 cO F h k bS ke r):
 ∀(n:Nat) (F:Fr) (h:U) (aJ:Fr->U->ab),vh body n F h=some r->B4 (iQ cO n) F h aJ bS ke r
 |0,F,h,aJ,e=>by cases e
 |n+1,F,h,aJ,e=>by
  have bg:body F h (vh body n)=some r:=e;obtain⟨ex,F',h',h1,h2⟩:=ag _ _ _ bg;cases ex with
  |cz=>
   obtain⟨ex,sw,fq,h3,aW⟩:=aej ag n F' h' aJ h1;refine⟨ex,sw,fq,h3,λFt aT=>?_⟩;obtain⟨b9,bz,bB⟩:=h2 Ft aT
   have bz:fB b9 F':=by
    rcases bz with bz|⟨bj,ck⟩
    ·exact bz
    ·cases ck
   obtain⟨xj,dW,gE⟩:=aW b9 bz;refine⟨xj,dW,λD=>?_⟩;show(match cO Ft (h.b3 D) with|some (.cz,F,X)=>iQ cO n F X|r=>r)=_;rw[bB];exact gE D
  |gt l=>exact h1.elim
  |ret=>
   refine⟨.ret,F',h',h1,λFt aT=>?_⟩;obtain⟨b9,bz,bB⟩:=h2 Ft aT;refine⟨b9,bz,λD=>?_⟩;show(match cO Ft (h.b3 D) with|some (.cz,F,X)=>iQ cO n F X|r=>r)=_;rw[bB]
  |ex i=>
   refine⟨.ex i,F',h',h1,λFt aT=>?_⟩;obtain⟨b9,bz,bB⟩:=h2 Ft aT;refine⟨b9,bz,λD=>?_⟩;show(match cO Ft (h.b3 D) with|some (.cz,F,X)=>iQ cO n F X|r=>r)=_;rw[bB]
  |cD bj=>
   refine⟨.cD bj,F',h',h1,λFt aT=>?_⟩;obtain⟨b9,bz,bB⟩:=h2 Ft aT;refine⟨b9,bz,λD=>?_⟩;show(match cO Ft (h.b3 D) with|some (.cz,F,X)=>iQ cO n F X|r=>r)=_;rw[bB]
theorem Ac{cO:ax J->ah->R}{F:Fr}{h:U}{aJ bS:Fr->U->ab}{ke:Nat->Fr->U->ab}{r:Out×U}{F':Fr}{h':U}(h1:aJ F' h'=some r)
 (h2:∀Ft,fB Ft F->∃b9,fB b9 F'/\∀D,cO Ft (h.b3 D)=some (.cz,b9,h'.b3 D)):B4 cO F h aJ bS ke r:=
 ⟨.cz,F',h',h1,λFt aT=>let ⟨b9,h3,aW⟩:=h2 Ft aT;⟨b9,.inl h3,aW⟩⟩
theorem Z4(fj:ly C callf){ord:Nat->Hint}{me:FuncId}{rd:Option Nat}{lf:Nat}{jump:iA}:∀(c:Code) {F:Fr} {h:U} {aJ bS:Fr->U->ab} {ke:Nat->Fr->U->ab} {r:Out×U},
 fN P C N ord lf c F h aJ bS ke=some r->B4 (bY P callf ord me rd N lf jump c) F h aJ bS ke r:=by
 intro c
 induction c with
 |skip=>intro F h aJ bS ke r e;exact Ac (F':=F) (h':=h) e λFt aT=>⟨Ft,aT,λ_=>rfl⟩
 |region id ops d=>
  intro F h aJ bS ke r e;cases d with
  |false=>
   rcases aiF fj e with⟨F',h',h1,h2⟩|⟨bj,h',rfl,h2⟩
   ·refine Ac h1 λFt aT=>?_
    obtain⟨b9,h3,aW⟩:=h2 Ft aT;exact⟨b9,h3,λD=>by simp only[bY,aW]⟩
   ·refine⟨.cD bj,F,h',rfl,λFt aT=>?_⟩;obtain⟨b9,aW⟩:=h2 Ft aT;exact⟨b9,.inr ⟨bj,rfl⟩,λD=>by simp only[bY,aW]⟩
  |true=>
   simp only[fN] at e;cases aq:ord id with
   |text=>
    simp only[aq] at e;obtain⟨F',h',h1,h2⟩:=aiE (i:=0) fj rfl e;refine Ac h1 λFt aT=>?_
    obtain⟨b9,h3,aW⟩:=h2 Ft aT;refine⟨b9,h3,λD=>?_⟩
    have:=aW D []
    rw[Array.length_toList, <- List.range_eq_range'] at this;simp only[bY,aq]
    erw [this]
    rfl
   |skip=>simp only[aq] at e;cases e
   |ord is bU=>
    simp only[aq] at e;obtain⟨F',h',h1,h2⟩:=aiB fj e;refine Ac h1 λFt aT=>?_
    obtain⟨b9,h3,aW⟩:=h2 Ft aT;refine⟨b9,h3,λD=>?_⟩;simp only[bY,aq]
    erw [aW D]
    rfl
   |news is rs bU=>
    simp only[aq,Bq,force_eq] at e;obtain⟨aH,e⟩:=vK e;obtain⟨F',h',h1,h2⟩:=Xo fj e;refine Ac h1 λFt aT=>?_
    obtain⟨b9,h3,aW⟩:=h2 Ft aT;refine⟨b9,h3,λD=>?_⟩;have bz:=aW D;simp only[bY,aq,force_eq,U.aiu,Zp,aH,cond_true]
    erw [bz]
    rfl
 |seq a b fQ gG=>
  intro F h aJ bS ke r e;obtain⟨ex,F',h',h1,h2⟩:=fQ e;cases ex with
  |cz=>
   obtain⟨ex,sw,fq,h3,aW⟩:=gG h1;refine⟨ex,sw,fq,h3,λFt aT=>?_⟩;obtain⟨b9,bz,bB⟩:=h2 Ft aT
   have bz:fB b9 F':=by
    rcases bz with bz|⟨bj,ck⟩
    ·exact bz
    ·cases ck
   obtain⟨xj,dW,gE⟩:=aW b9 bz;exact⟨xj,dW,λD=>by simp only[bY,bB,gE]⟩
  |gt l=>exact h1.elim
  |ret=>
   refine⟨.ret,F',h',h1,λFt aT=>?_⟩;obtain⟨b9,bz,bB⟩:=h2 Ft aT;exact⟨b9,bz,λD=>by simp only[bY,bB]⟩
  |ex i=>
   refine⟨.ex i,F',h',h1,λFt aT=>?_⟩;obtain⟨b9,bz,bB⟩:=h2 Ft aT;exact⟨b9,bz,λD=>by simp only[bY,bB]⟩
  |cD bj=>
   refine⟨.cD bj,F',h',h1,λFt aT=>?_⟩;obtain⟨b9,bz,bB⟩:=h2 Ft aT;exact⟨b9,bz,λD=>by simp only[bY,bB]⟩
 |cond c a b fQ gG=>
  intro F h aJ bS ke r e;simp only[fN] at e;obtain⟨y,bf,e⟩:=LR e;unfold fY at e;split at e<;>try(cases e;done)
  rename_i t;cases t with
  |true=>
   obtain⟨ex,F',h',h1,h2⟩:=fQ e;refine⟨ex,F',h',h1,λFt aT=>?_⟩;obtain⟨b9,bz,bB⟩:=h2 Ft aT;exact⟨b9,bz,λD=>by simp only[bY,U.vf,w8 aT,bf,fZ,bB]⟩
  |false=>
   obtain⟨ex,F',h',h1,h2⟩:=gG e;refine⟨ex,F',h',h1,λFt aT=>?_⟩;obtain⟨b9,bz,bB⟩:=h2 Ft aT;exact⟨b9,bz,λD=>by simp only[bY,U.vf,w8 aT,bf,fZ,bB]⟩
 |block id c bc=>
  intro F h aJ bS ke r e;obtain⟨ex,F',h',h1,h2⟩:=bc e;cases ex with
  |ex i=>
   cases ag:Nat.beq i id with
   |true=>
    have h1:aJ F' h'=some r:=by simpa only[Mp,ag,cond_true] using h1
    refine⟨.cz,F',h',h1,λFt aT=>?_⟩;obtain⟨b9,bz,bB⟩:=h2 Ft aT
    have bz:fB b9 F':=by
     rcases bz with bz|⟨bj,ck⟩
     ·exact bz
     ·cases ck
    exact⟨b9,.inl bz,λD=>by simp only[bY,bB,ag,cond_true]⟩
   |false=>
    have h1:ke i F' h'=some r:=by simpa only[Mp,ag,cond_false] using h1
    refine⟨.ex i,F',h',h1,λFt aT=>?_⟩;obtain⟨b9,bz,bB⟩:=h2 Ft aT;exact⟨b9,bz,λD=>by simp only[bY,bB,ag,cond_false]⟩
  |gt l=>exact h1.elim
  |cz=>
   refine⟨.cz,F',h',h1,λFt aT=>?_⟩;obtain⟨b9,bz,bB⟩:=h2 Ft aT;exact⟨b9,bz,λD=>by simp only[bY,bB]⟩
  |ret=>
   refine⟨.ret,F',h',h1,λFt aT=>?_⟩;obtain⟨b9,bz,bB⟩:=h2 Ft aT;exact⟨b9,bz,λD=>by simp only[bY,bB]⟩
  |cD bj=>
   refine⟨.cD bj,F',h',h1,λFt aT=>?_⟩;obtain⟨b9,bz,bB⟩:=h2 Ft aT;exact⟨b9,bz,λD=>by simp only[bY,bB]⟩
 |loop c bc=>
  intro F h aJ bS ke r e;exact aej (λF h k e=>bc e) lf F h aJ e
 |exit id=>intro F h aJ bS ke r e;exact⟨.ex id,F,h,e,λFt aT=>⟨Ft,.inl aT,λ_=>rfl⟩⟩
 |label l=>intro F h aJ bS ke r e;exact Ac (F':=F) (h':=h) e λFt aT=>⟨Ft,aT,λ_=>rfl⟩
 |ret=>intro F h aJ bS ke r e;exact⟨.ret,F,h,e,λFt aT=>⟨Ft,.inl aT,λ_=>rfl⟩⟩
 |_=>intro F h aJ bS ke r e;cases e
theorem aEo{F:Fr}{h:U}{k:J->ab}{K2:ResultVar}{r:Out×U}(e:Xp P F h k K2=some r):∃y,k y=some r/\∀Ft,fB Ft F->∀D,tP P Ft (h.b3 D) K2=some y:=by
 cases K2 with
 |tmp t=>
  obtain⟨y,h1,e⟩:=qU e;exact⟨y,e,λFt aT D=>by simp only[tP,aT t,h1]⟩
 |cell a t=>
  simp only[Xp] at e;obtain⟨q,h1,e⟩:=qU e;split at e
  ·rename_i n b1 aO;obtain⟨y,h2,e⟩:=qU e;refine⟨y,e,λFt aT D=>?_⟩;simp only[tP,aT a,h1];unfold fu at h2;split at h2<;>try(cases h2;done)
   rename_i k off;simp only[lV,b1,aO,U.vg];unfold Je at h2;cases aq:h.aV.get k with
   |none=>simp[aq] at h2
   |some o=>simp only[aq] at h2⊢;exact h2
  ·rename_i n b1 aO;obtain⟨y,h2,e⟩:=qU e;refine⟨y,e,λFt aT D=>?_⟩;simp only[tP,aT a,h1];unfold bZ at h2;split at h2<;>try(cases h2;done)
   rename_i k off;simp only[lV,b1,aO,U.vg];unfold Q2 at h2;cases aq:h.aV.get k with
   |none=>simp[aq] at h2
   |some o=>simp only[aq] at h2⊢;exact h2
  ·cases e
theorem Xr{F:Fr}{h:U}:∀{rs:List ResultVar} {k:List J->ab} {r:Out×U},Xq P F h rs k=some r->∃ys,k ys=some r/\∀Ft,fB Ft F->∀D,oP P Ft (h.b3 D) rs=some ys
 | [],k,r,e=>⟨[],e,λ_ _ _=>rfl⟩
 |x::rs,k,r,e=>by
  obtain⟨y,e,h1⟩:=aEo e;obtain⟨ys,e,h2⟩:=Xr e;exact⟨y::ys,e,λFt aT D=>by simp only[oP,h1 Ft aT D,h2 Ft aT D]⟩
theorem Z9(args:List J):fB (ha .nil 0 args) (Ao args):=λt=>by
 rw[x5];unfold Ao;by_cases aN:t<args.length
 ·rw[if_pos ⟨Nat.zero_le _,by omega⟩];simp
 ·rw[if_neg (by omega),List.getElem?_eq_none (by omega)];rfl
theorem aEm{e:l2}(fj:ly C e.call)(a6:ca P){lf:Nat}{args:List J}{h h':U}{out:Out}(aL:Nat.ble args.length a6.fn.ntmps=true)(bf:tX P a6 C lf args h=some (out,h')):
 ∀D,ih e a6 lf a6.f args (h.b3 D)=some (out,h'.b3 D):=by
 intro D;obtain⟨ex,F',h2,h3,aW⟩:=Z4 (rd:=none) (me:=a6.f) (jump:=fR P e.call a6.ord a6.f none a6.fn.ntmps lf lf) fj _ bf;obtain⟨b9,bz,bB⟩:=aW _ (Z9 args);have dW:=bB []
 have mK:FN P a6.fn F' h2=some (out,h')->fB b9 F'->fS P e.dcall a6.fn b9 [] .ret (h2.b3 [])=some (out,h'.b3 []):=by
  intro an a0;obtain⟨ys,gE,pD⟩:=Xr an;cases gE;simp only[fS,pD b9 a0]
 have a0:(∃bj,ex= .cD bj)\/fB b9 F':=bz.symm;unfold ih mA;have PG:Nat.beq a6.f a6.f=true:=Nat.beq_refl _;simp only[PG,aL,Bool.and_self,cond_true];have ag:bY P e.call a6.ord a6.f none a6.fn.ntmps lf (fR P e.call a6.ord a6.f none a6.fn.ntmps lf lf) (a6.fn.body.getD .skip) (ha .nil 0 args) {h.b3 D with bs:=[]}=some (ex,b9,h2.b3 []):=dW;rw[ag];cases ex with
 |cz=>
  have a0:fB b9 F':=by
   rcases a0 with⟨bj,ck⟩|a0
   ·cases ck
   ·exact a0
  show w2 D (fS P e.dcall a6.fn b9 [] .ret (h2.b3 []))=_;rw[mK h3 a0];rfl
 |ret=>
  have a0:fB b9 F':=by
   rcases a0 with⟨bj,ck⟩|a0
   ·cases ck
   ·exact a0
  show w2 D (fS P e.dcall a6.fn b9 [] .ret (h2.b3 []))=_;rw[mK h3 a0];rfl
 |ex i=>cases h3
 |cD bj=>cases h3;rfl
 |gt l=>exact h3.elim
end
noncomputable section
abbrev gM:=List Nat->Fr->U->ab
def Na(rd:Option Nat)(L:List Nat)(h:U):Option (Nat×List Nat×U):=match rd with
 |none=>some (h.next,h.next::L,⟨h.aK,h.next+1,h.aV.put h.next sb⟩)
 |some k=>match h.aV.get k with
  |some o=>match o.sp with
   | .loop _ _ _ _ _ _ _ _ _ b=>some (b,L,h)
   |_=>none
  |none=>none
def Ae(o:bH):bH:=match o.sp with
 | .loop _ ir ord me N G ps a c b=>{o with cn:=o.cn+1,sp:= .loop .exhausted ir ord me N G ps a c b}
 |_=>o
def tQ:Code->Bool
 | .ret=>true
 | .seq a b=>tQ a||tQ b
 | .cond _ a b=>tQ a||tQ b
 | .block _ c=>tQ c
 | .loop c=>tQ c
 | .rangeFunc _ _ a c=>tQ a||tQ c
 |_=>false
def sZ:Code->List Nat
 | .exit id=>[id]
 | .seq a b=>sZ a++sZ b
 | .cond _ a b=>sZ a++sZ b
 | .block id c=>(sZ c).filter λi=>!Nat.beq i id
 | .loop c=>sZ c
 | .rangeFunc _ _ a c=>sZ a++sZ c
 |_=>[]
abbrev sC:=List Nat->U->ab
def Hm:List (Nat×sC)->Nat->sC
 | [],_=>λ_ _=>none
 |(i,k)::l,j=>λL h=>bif Nat.beq j i then k L h else Hm l j L h
def adH(p:Jump)(L:List Nat)(h:U)(aJ bS:sC)(ke:List (Nat×sC)):ab:=match p with
 | .none=>aJ L h
 | .ret=>bS L h
 | .ex id=>Hm ke id L h
def CF(L:List Nat)(l:Nat)(h:U)(aJ bS:sC)(ke:List (Nat×sC)):ab:=match h.aV.get l with
 |some o=>(match o.sp with
  | .loop st ir _ _ _ _ _ _ _ _=>(match st with
    | .busy=>none
    |_=>adH ir L ⟨h.aK,h.next,h.aV.put l (Ae o)⟩ aJ bS ke)
  |_=>none)
 |none=>none
def q5(C:ad)(ord:Nat->Hint)(me:FuncId)(rd:Option Nat)(N:Nat)(ps:Array Tmp)(a c:Code)(g:J)(L:List Nat)(T:ax J)(h:U)(aJ bS:sC)(ke:List (Nat×sC)):ab:=match g,Na rd L h with
 | .fn (.func f) b6 qj,some (b,lx,h1)=>cR (C (.iF f) (b6++[.fw h1.next]++qj) ⟨h1.aK,h1.next+1,h1.aV.put h1.next (il ord me N T ps a c b)⟩) λ_ h2=>CF lx h1.next h2 aJ bS ke
 |_,_=>none
def qS:sC:=λ_ _=>none
def FR(body:List Nat->Fr->U->gM->ab)(n:Nat):gM:=Nat.rec (motive:=λ_=>gM) (λ_ _ _=>none) (λ_ bc L F h=>body L F h bc) n
section
variable(P:Program)(C:ad)(N:Nat)
def hV(ord:Nat->Hint)(me:FuncId)(rd:Option Nat)(lf:Nat):Code->List Nat->Fr->U->gM->gM->(Nat->gM)->ab
 | .seq a b,L,F,h,aJ,bS,ke=>hV ord me rd lf a L F h (λL F h=>hV ord me rd lf b L F h aJ bS ke) bS ke
 | .cond c a b,L,F,h,aJ,bS,ke=>vj h.aK F c λy=>fY y (hV ord me rd lf a L F h aJ bS ke) (hV ord me rd lf b L F h aJ bS ke)
 | .block id c,L,F,h,aJ,bS,ke=>hV ord me rd lf c L F h aJ bS (λi L F h=>bif Nat.beq i id then aJ L F h else ke i L F h)
 | .loop c,L,F,h,_,bS,ke=>FR (λL F h k=>hV ord me rd lf c L F h k bS ke) lf L F h
 | .rangeFunc g ps a c,L,F,h,aJ,bS,ke=>vj h.aK F g λy=>q5 C ord me rd N ps a c y L (iq (iO ord N c) F) h (λL h=>aJ L F h) (bif tQ c then(λL h=>bS L F h) else qS) ((sZ c).map λi=>(i,λL h=>ke i L F h))
 |c,L,F,h,aJ,bS,ke=>fN P C N ord lf c F h (aJ L) (bS L) (λi=>ke i L)
end
def qY:Code->Bool
 | .seq a b=>qY a&&qY b
 | .cond _ a b=>qY a&&qY b
 | .block _ c=>qY c
 | .loop c=>qY c
 | .rangeFunc _ _ _ _=>false
 |_=>true
def BP(h:U)(k:Nat)(st:LoopState)(p:Option Jump):Option U:=match h.aV.get k with
 |some o=>match Fp o st p with
  |some o'=>some ⟨h.aK,h.next,h.aV.put k o'⟩
  |none=>none
 |none=>none
def lH(h:U)(k:Nat)(st:LoopState)(p:Jump)(b:Bool):ab:=match BP h k st (some p) with
 |some h=>some (.ret (.bool b),h)
 |none=>none
def Es(N:Nat)(F:Fr):List Tmp->List J->Fr
 |p::ps,x::xs=>Es N (wG N F (some p) x) ps xs
 |_,_=>F
def tO(h:U)(k:Nat)(K:U->ab):ab:=match h.aV.get k with
 |some o=>bif isReady o then ob (BP h k .busy none) K else none
 |none=>none
def BN(P:Program)(C:ad)(ord:Nat->Hint)(me:FuncId)(k N lf:Nat)(F:Fr)(ps:Array Tmp)(a c:Code)(args:List J)(h:U):ab:=
 bif Nat.beq args.length ps.size then hV P C N ord me (some k) lf a [] (Es N F ps.toList args) h
  (λ_ aM h1=>tO h1 k λh2=>hV P C N ord me (some k) lf c [] aM h2 (λ_ _ h3=>lH h3 k .ready .none true) (λ_ _ h3=>lH h3 k .done .ret false) (λid _ _ h3=>lH h3 k .done (.ex id) false))
  (λ_ _ _=>none) (λ_ _ _ _=>none) else none
def yV:List Nat->U->(U->ab)->ab
 | [],h,k=>k h
 |b::L,h,k=>match h.aV.get b with
  |some o=>match o.sp with
   | .jI false=>yV L ⟨h.aK,h.next,h.aV.put b {o with cn:=o.cn+1,sp:= .jI true}⟩ k
   |_=>none
  |none=>none
def y4(r:ab):ab:=match r with
 |some (.ret y,h)=>some (.ret y,h)
 |_=>none
@[simp] theorem aq6(y:J)(h:U):y4 (some (.ret y,h))=some (.ret y,h):=e1 rfl
def LU(P:Program)(fn:Func):gM:=λL F h=>yV L h λh=>FN P fn F h
def zC(P:Program)(a6:ca P)(C:ad)(lf:Nat)(args:List J)(h:U):ab:=
 y4 (hV P C a6.fn.ntmps a6.ord a6.f none lf (a6.fn.body.getD .skip) [] (Ao args) h (LU P a6.fn) (LU P a6.fn) (λ_ _ _ _=>none))
end
section
variable{P:Program}{C:ad}{callf:bL}{N:Nat}
theorem NS{ord:Nat->Hint}{me:FuncId}{rd:Option Nat}{lf:Nat}:∀{c:Code} (_:qY c=true) {L:List Nat} {F:Fr} {h:U} {aJ bS:gM} {ke:Nat->gM},
 hV P C N ord me rd lf c L F h aJ bS ke=fN P C N ord lf c F h (aJ L) (bS L) (λi=>ke i L):=by
 intro c
 induction c with
 |seq a b fQ gG=>
  intro ae L F h aJ bS ke;simp only[qY,Bool.and_eq_true] at ae;simp only[hV,fN];rw[fQ ae.1];congr 1
  funext F h
  exact gG ae.2
 |cond x a b fQ gG=>
  intro ae L F h aJ bS ke;simp only[qY,Bool.and_eq_true] at ae;simp only[hV,fN,fQ ae.1,gG ae.2]
 |block id c bc=>
  intro ae L F h aJ bS ke;simp only[hV,fN];rw[bc ae]
 |loop c bc=>
  intro ae L F h aJ bS ke;simp only[hV,fN]
  have:∀n F h,FR (λL F h k=>hV P C N ord me rd lf c L F h k bS ke) n L F h=vh (λF h k=>fN P C N ord lf c F h k (bS L) (λi=>ke i L)) n F h:=by
   intro n
   induction n with
   |zero=>intro F h;rfl
   |succ n apD=>
    intro F h;show hV P C N ord me rd lf c L F h (FR _ n) bS ke=fN P C N ord lf c F h (vh _ n) (bS L) (λi=>ke i L);rw[bc ae];congr 1
    funext F h
    exact apD F h
  exact this lf F h
 |rangeFunc g ps a c=>intro ae;cases ae
 |_=>intro ae L F h aJ bS ke;rfl
def mC(L:List Nat):List eO:=L.map .sU
def Mq(aJ bS:gM)(ke:Nat->gM)(r:Out×U)(ex:hq)(L:List Nat)(F:Fr)(h:U):Prop:=match ex with
 | .cz=>aJ L F h=some r
 | .ret=>bS L F h=some r
 | .ex i=>ke i L F h=some r
 | .cD _=>∃bj h,r=(.cD bj,h)
 | .gt _=>False
def nt(cO:ax J->ah->R)(L:List Nat)(F:Fr)(h:U)(aJ bS:gM)(ke:Nat->gM)(r:Out×U):Prop:=
 ∃ex iB F' h',Mq aJ bS ke r ex iB F' h'/\∀Ft,fB Ft F->∃b9,(fB b9 F'\/∃bj,ex= .cD bj)/\∀D,cO Ft (h.b3 (mC L++D))=some (ex,b9,h'.b3 (mC iB++D))
theorem nt.ari{cO:ax J->ah->R}{L:List Nat}{F:Fr}{h:U}{aJ bS:gM}{ke:Nat->gM}{r:Out×U}(H:B4 cO F h (aJ L) (bS L) (λi=>ke i L) r):nt cO L F h aJ bS ke r:=by
 obtain⟨ex,F',h',h1,h2⟩:=H;refine⟨ex,L,F',h',?_,λFt aT=>?_⟩
 ·cases ex with
  |cD bj=>exact⟨bj,h',h1⟩
  |_=>exact h1
 ·obtain⟨b9,h3,aW⟩:=h2 Ft aT;exact⟨b9,h3,λD=>aW _⟩
theorem nt.xN{b9:ax J}{F':Fr}{ex:hq}(h:fB b9 F'\/∃bj,ex= .cD bj)(aO:∀bj,ex≠ .cD bj):fB b9 F':=by
 rcases h with h|⟨bj,h⟩
 ·exact h
 ·exact absurd h (aO bj)
theorem aek{cO:ax J->ah->R}{body:List Nat->Fr->U->gM->ab}{bS:gM}{ke:Nat->gM}{r:Out×U}(ag:∀L F h k,body L F h k=some r->nt cO L F h k bS ke r):
 ∀(n:Nat) (L:List Nat) (F:Fr) (h:U) (aJ:gM),FR body n L F h=some r->nt (iQ cO n) L F h aJ bS ke r
 |0,L,F,h,aJ,e=>by cases e
 |n+1,L,F,h,aJ,e=>by
  have bg:body L F h (FR body n)=some r:=e;obtain⟨ex,iB,F',h',h1,h2⟩:=ag _ _ _ _ bg
  have stop:(∀Ft X,ex≠ .cz->(match some (ex,Ft,X) with|some (.cz,F,X)=>iQ cO n F X|r=>r)=some (ex,Ft,X)):=by
   intro Ft X b4;cases ex<;>first|rfl|exact absurd rfl b4
  by_cases yx:ex= .cz
  ·subst yx;obtain⟨ex,Mf,sw,fq,h3,aW⟩:=aek ag n iB F' h' aJ h1;refine⟨ex,Mf,sw,fq,h3,λFt aT=>?_⟩;obtain⟨b9,bz,bB⟩:=h2 Ft aT;have bz:=nt.xN bz (λbj e=>by cases e);obtain⟨xj,dW,gE⟩:=aW b9 bz;refine⟨xj,dW,λD=>?_⟩;show(match cO Ft (h.b3 _) with|some (.cz,F,X)=>iQ cO n F X|r=>r)=_;rw[bB];exact gE D
  ·refine⟨ex,iB,F',h',?_,λFt aT=>?_⟩
   ·cases ex<;>first|exact absurd rfl yx|exact h1
   ·obtain⟨b9,bz,bB⟩:=h2 Ft aT;refine⟨b9,bz,λD=>?_⟩;show(match cO Ft (h.b3 _) with|some (.cz,F,X)=>iQ cO n F X|r=>r)=_;rw[bB];exact stop _ _ yx
theorem akG{rd:Option Nat}{L lx:List Nat}{h h1:U}{b:Nat}(e:Na rd L h=some (b,lx,h1))(D:List eO):sQ rd (h.b3 (mC L++D))=some (b,h1.b3 (mC lx++D)):=by
 unfold Na at e;unfold sQ;cases rd with
 |none=>simp only[Option.some.injEq,Prod.mk.injEq] at e;obtain⟨rfl,rfl,rfl⟩:=e;rfl
 |some k=>
  simp only at e⊢;split at e<;>try(cases e;done)
  rename_i o aq;split at e<;>try(cases e;done)
  rename_i al;simp only[Option.some.injEq,Prod.mk.injEq] at e;obtain⟨rfl,rfl,rfl⟩:=e;simp only[U.vg,aq,al]
theorem Z7{ke:Nat->sC}:∀{es:List Nat} {i:Nat} {L:List Nat} {h:U} {r:Out×U},Hm (es.map λi=>(i,ke i)) i L h=some r->ke i L h=some r
 | [],i,L,h,r,e=>by cases e
 |j::es,i,L,h,r,e=>by
  have e:(bif Nat.beq i j then ke j L h else Hm (es.map λi=>(i,ke i)) i L h)=some r:=e;cases ag:Nat.beq i j with
  |true=>rw[ag,cond_true] at e;rw[Nat.eq_of_beq_eq_true ag];exact e
  |false=>rw[ag,cond_false] at e;exact Z7 e
theorem azK(fj:ly C callf){ord:Nat->Hint}{me:FuncId}{rd:Option Nat}{ps:Array Tmp}{a c:Code}{g:J}{L:List Nat}{F:Fr}{h:U}{aJ bS:gM}{ke:Nat->gM}{r:Out×U}{rb:Bool}{es:List Nat}
 (e:q5 C ord me rd N ps a c g L (iq (iO ord N c) F) h (λL h=>aJ L F h) (bif rb then(λL h=>bS L F h) else qS) (es.map λi=>(i,λL h=>ke i L F h))=some r):nt (λFt X=>pV callf ord me rd N ps a c g Ft X) L F h aJ bS ke r:=by
 unfold q5 at e;split at e<;>try(cases e;done)
 rename_i f b6 qj b lx h1 ag;generalize fE:C (.iF f) (b6++[.fw h1.next]++qj) ⟨h1.aK,h1.next+1,h1.aV.put h1.next (il ord me N (iq (iO ord N c) F) ps a c b)⟩=x at e;rcases x with _|⟨out,h2⟩
 ·cases e
 ·cases out with
  |cD bj=>cases e
  |ret z=>
   have e:CF lx h1.next h2 (λL h=>aJ L F h) (bif rb then(λL h=>bS L F h) else qS) (es.map λi=>(i,λL h=>ke i L F h))=some r:=e
   unfold CF at e;split at e<;>try(cases e;done)
   rename_i o aq;split at e<;>try(cases e;done)
   rename_i st ir _ _ _ _ _ _ _ _ al;have b4:st≠ .busy:=λck=>by subst ck;cases e
   have e:adH ir lx ⟨h2.aK,h2.next,h2.aV.put h1.next (Ae o)⟩ (λL h=>aJ L F h) (bif rb then(λL h=>bS L F h) else qS) (es.map λi=>(i,λL h=>ke i L F h))=some r:=by
    cases st<;>first|exact absurd rfl b4|exact e
   refine⟨I2 ir,lx,F,⟨h2.aK,h2.next,h2.aV.put h1.next (Ae o)⟩,?_,λFt aT=>⟨Ft,.inl aT,λD=>?_⟩⟩
   ·cases ir with
    |none=>exact e
    |ret=>cases rb with
     |true=>exact e
     |false=>cases e
    |ex id=>exact Z7 (ke:=λi L h=>ke i L F h) e
   ·have anR:Ft.get=F:=funext aT;have mH:=fj _ _ _ _ _ fE [];simp only[pV,akG ag D,anR];have aA:({((h1.b3 (mC lx++D)).new (il ord me N (iq (iO ord N c) F) ps a c b)).2 with bs:=[]}:ah)=(U.b3 ⟨h1.aK,h1.next+1,h1.aV.put h1.next (il ord me N (iq (iO ord N c) F) ps a c b)⟩ []):=rfl;rw[aA];have cj:((h1.b3 (mC lx++D)).new (il ord me N (iq (iO ord N c) F) ps a c b)).1=h1.next:=rfl
    rw[cj,mH];have gh:(h2.b3 []).aV.get h1.next=some o:=aq
    simp only[sX,gh,al];unfold Ae;cases st<;>first|exact absurd rfl b4|(simp only[al];rfl)
theorem NT(fj:ly C callf){ord:Nat->Hint}{me:FuncId}{rd:Option Nat}{lf:Nat}{jump:iA}:∀(c:Code) {L:List Nat} {F:Fr} {h:U} {aJ bS:gM} {ke:Nat->gM} {r:Out×U},
 hV P C N ord me rd lf c L F h aJ bS ke=some r->nt (bY P callf ord me rd N lf jump c) L F h aJ bS ke r:=by
 intro c
 induction c with
 |seq a b fQ gG=>
  intro L F h aJ bS ke r e;obtain⟨ex,iB,F',h',h1,h2⟩:=fQ e;by_cases yx:ex= .cz
  ·subst yx;obtain⟨ex,Mf,sw,fq,h3,aW⟩:=gG h1;refine⟨ex,Mf,sw,fq,h3,λFt aT=>?_⟩;obtain⟨b9,bz,bB⟩:=h2 Ft aT;obtain⟨xj,dW,gE⟩:=aW b9 (nt.xN bz (λbj e=>by cases e));exact⟨xj,dW,λD=>by simp only[bY,bB,gE]⟩
  ·refine⟨ex,iB,F',h',?_,λFt aT=>?_⟩
   ·cases ex<;>first|exact absurd rfl yx|exact h1
   ·obtain⟨b9,bz,bB⟩:=h2 Ft aT;refine⟨b9,bz,λD=>?_⟩;simp only[bY,bB];cases ex<;>first|exact absurd rfl yx|rfl
 |cond c a b fQ gG=>
  intro L F h aJ bS ke r e;simp only[hV] at e;obtain⟨y,bf,e⟩:=LR e;unfold fY at e;split at e<;>try(cases e;done)
  rename_i t;cases t with
  |true=>
   obtain⟨ex,iB,F',h',h1,h2⟩:=fQ e;refine⟨ex,iB,F',h',h1,λFt aT=>?_⟩;obtain⟨b9,bz,bB⟩:=h2 Ft aT;exact⟨b9,bz,λD=>by simp only[bY,U.vf,w8 aT,bf,fZ,bB]⟩
  |false=>
   obtain⟨ex,iB,F',h',h1,h2⟩:=gG e;refine⟨ex,iB,F',h',h1,λFt aT=>?_⟩;obtain⟨b9,bz,bB⟩:=h2 Ft aT;exact⟨b9,bz,λD=>by simp only[bY,U.vf,w8 aT,bf,fZ,bB]⟩
 |block id c bc=>
  intro L F h aJ bS ke r e;obtain⟨ex,iB,F',h',h1,h2⟩:=bc e;cases ex with
  |ex i=>
   cases ag:Nat.beq i id with
   |true=>
    have h1:aJ iB F' h'=some r:=by simpa only[Mq,ag,cond_true] using h1
    refine⟨.cz,iB,F',h',h1,λFt aT=>?_⟩;obtain⟨b9,bz,bB⟩:=h2 Ft aT;exact⟨b9,.inl (nt.xN bz (λbj e=>by cases e)),λD=>by simp only[bY,bB,ag,cond_true]⟩
   |false=>
    have h1:ke i iB F' h'=some r:=by simpa only[Mq,ag,cond_false] using h1
    refine⟨.ex i,iB,F',h',h1,λFt aT=>?_⟩;obtain⟨b9,bz,bB⟩:=h2 Ft aT;exact⟨b9,.inl (nt.xN bz (λbj e=>by cases e)),λD=>by simp only[bY,bB,ag,cond_false]⟩
  |gt l=>exact h1.elim
  |cz=>
   refine⟨.cz,iB,F',h',h1,λFt aT=>?_⟩;obtain⟨b9,bz,bB⟩:=h2 Ft aT;exact⟨b9,bz,λD=>by simp only[bY,bB]⟩
  |ret=>
   refine⟨.ret,iB,F',h',h1,λFt aT=>?_⟩;obtain⟨b9,bz,bB⟩:=h2 Ft aT;exact⟨b9,bz,λD=>by simp only[bY,bB]⟩
  |cD bj=>
   refine⟨.cD bj,iB,F',h',h1,λFt aT=>?_⟩;obtain⟨b9,bz,bB⟩:=h2 Ft aT;exact⟨b9,bz,λD=>by simp only[bY,bB]⟩
 |loop c bc=>
  intro L F h aJ bS ke r e;exact aek (λL F h k e=>bc e) lf L F h aJ e
 |rangeFunc g ps a c=>
  intro L F h aJ bS ke r e;simp only[hV] at e;obtain⟨y,bf,e⟩:=LR e;obtain⟨ex,iB,F',h',h1,h2⟩:=azK fj e;refine⟨ex,iB,F',h',h1,λFt aT=>?_⟩;obtain⟨b9,bz,bB⟩:=h2 Ft aT;exact⟨b9,bz,λD=>by simp only[bY,U.vf,w8 aT,bf];exact bB D⟩
 |_=>intro L F h aJ bS ke r e;exact nt.ari (Z4 fj _ e)
theorem aaa{N:Nat}:∀{ps:List Tmp} {args:List J} {Ft:ax J} {F:Fr},fB Ft F->fB (wH N Ft ps args) (Es N F ps args)
 | [],args,_,_,h=>by cases args<;>exact h
 |_::_,[],_,_,h=>h
 |p::ps,x::xs,_,_,h=>aaa (ps:=ps) (args:=xs) (h.put (some p) x)
theorem ahe{h h':U}{k:Nat}{st:LoopState}{p:Option Jump}(e:BP h k st p=some h')(D:List eO):p1 (h.b3 D) k st p=some (h'.b3 D):=by
 unfold BP at e;unfold p1;split at e<;>try(cases e;done)
 rename_i o aq;split at e<;>try(cases e;done)
 rename_i o' al;cases e;simp only[U.vg,aq,al];rfl
theorem NC{h h':U}{k:Nat}{st:LoopState}{p:Jump}{b:Bool}{o:Out}(e:lH h k st p b=some (o,h'))(D XD:List eO):endRound XD (h.b3 D) k st p b=some (o,h'.b3 XD):=by
 unfold lH at e;split at e<;>try(cases e;done)
 rename_i h1 al;cases e;unfold endRound;rw[ahe al D];rfl
theorem aAs(fj:ly C callf){ord:Nat->Hint}{me:FuncId}{k lf:Nat}{jump:iA}{F:Fr}{Ft:ax J}(aT:fB Ft F){ps:Array Tmp}{a c:Code}{args:List J}{h h':U}{y:J}
 (e:BN P C ord me k N lf F ps a c args h=some (.ret y,h'))(D:List eO):lU (bY P callf ord me (some k) N lf jump) k N Ft ps a c args (h.b3 D)=some (.ret y,h'.b3 D):=by
 unfold BN at e;unfold lU;cases aL:Nat.beq args.length ps.size with
 |false=>simp[aL] at e
 |true=>
  simp only[aL,cond_true] at e⊢;obtain⟨ex,lx,aM,h1,bT,cm⟩:=NT (callf:=callf) (jump:=jump) fj _ e;obtain⟨XQ,ej,fV⟩:=cm _ (aaa (args:=args) aT);have fV:=fV [];cases ex with
  |cz=>
   have ej:=nt.xN ej (λbj e=>by cases e);have bT:tO h1 k _=some (Out.ret y,h'):=bT;unfold tO at bT;split at bT<;>try(cases bT;done)
   rename_i o aq;cases aI:isReady o with
   |false=>simp[aI] at bT
   |true=>
    simp only[aI,cond_true] at bT;obtain⟨h2,al,bT⟩:=qU bT;have av:({h.b3 D with bs:=[]}:ah)=h.b3 []:=rfl;have az:bY P callf ord me (some k) N lf jump a (wH N Ft ps.toList args) (h.b3 [])=some (.cz,XQ,h1.b3 (mC lx++[])):=fV;rw[av,az];simp only[U.vg,aq,aI,cond_true,ahe al];obtain⟨Z6,ajb,dd,h3,dc,du⟩:=NT (callf:=callf) (jump:=jump) fj _ bT;obtain⟨ai2,s1,s2⟩:=du _ ej;have s2:=s2 (mC lx++[]);have s2:bY P callf ord me (some k) N lf jump c XQ (h2.b3 (mC lx++[]))=some (Z6,ai2,h3.b3 (mC ajb++(mC lx++[]))):=s2;rw[s2];cases Z6 with
    |cz=>exact NC dc _ _
    |ret=>exact NC dc _ _
    |ex id=>exact NC dc _ _
    |cD bj=>obtain⟨_,_,ck⟩:=dc;cases ck
    |gt l=>exact dc.elim
  |ret=>cases bT
  |ex id=>cases bT
  |cD bj=>obtain⟨_,_,ck⟩:=bT;cases ck
  |gt l=>exact bT.elim
theorem aes{dcall:nu}{fn:Func}{Ft:ax J}{D:List eO}:∀{L:List Nat} {h:U} {k:U->ab} {r:Out×U},yV L h k=some r->
 ∃h',k h'=some r/\fS P dcall fn Ft (mC L) .ret (h.b3 D)=fS P dcall fn Ft [] .ret (h'.b3 D)
 | [],h,k,r,e=>⟨h,e,rfl⟩
 |b::L,h,k,r,e=>by
  unfold yV at e;split at e<;>try(cases e;done)
  rename_i o aq;split at e<;>try(cases e;done)
  rename_i al;obtain⟨h',h1,h2⟩:=aes (dcall:=dcall) (fn:=fn) (Ft:=Ft) (D:=D) (L:=L) e;refine⟨h',h1,?_⟩;rw[<- h2];show fS P dcall fn Ft (.sU b::mC L) .ret (h.b3 D)=_;simp only[fS,U.vg,aq,al];rfl
theorem aEl{e:l2}(fj:ly C e.call)(a6:ca P){lf:Nat}{args:List J}{h h':U}{out:Out}(aL:Nat.ble args.length a6.fn.ntmps=true)(bf:zC P a6 C lf args h=some (out,h')):
 ∀D,ih e a6 lf a6.f args (h.b3 D)=some (out,h'.b3 D):=by
 intro D;unfold zC y4 at bf;split at bf<;>try(cases bf;done)
 rename_i y g fk;cases bf;obtain⟨ex,iB,F',h2,h3,aW⟩:=NT (rd:=none) (me:=a6.f) (jump:=fR P e.call a6.ord a6.f none a6.fn.ntmps lf lf) fj _ fk;obtain⟨b9,bz,bB⟩:=aW _ (Z9 args);have dW:=bB []
 have mK:LU P a6.fn iB F' h2=some (.ret y,h')->fB b9 F'->fS P e.dcall a6.fn b9 (mC iB) .ret (h2.b3 [])=some (.ret y,h'.b3 []):=by
  intro an a0;obtain⟨gE,pD,oD⟩:=aes (dcall:=e.dcall) (fn:=a6.fn) (Ft:=b9) (D:=[]) an;rw[oD];obtain⟨ys,k4,dG⟩:=Xr pD;cases k4;simp only[fS,dG b9 a0]
 unfold ih mA;have PG:Nat.beq a6.f a6.f=true:=Nat.beq_refl _;simp only[PG,aL,Bool.and_self,cond_true];have ag:bY P e.call a6.ord a6.f none a6.fn.ntmps lf (fR P e.call a6.ord a6.f none a6.fn.ntmps lf lf) (a6.fn.body.getD .skip) (ha .nil 0 args) {h.b3 D with bs:=[]}=some (ex,b9,h2.b3 (mC iB++[])):=dW;rw[ag,List.append_nil];cases ex with
 |cz=>
  show w2 D (fS P e.dcall a6.fn b9 (mC iB) .ret (h2.b3 []))=_;rw[mK h3 (nt.xN bz (λbj e=>by cases e))];rfl
 |ret=>
  show w2 D (fS P e.dcall a6.fn b9 (mC iB) .ret (h2.b3 []))=_;rw[mK h3 (nt.xN bz (λbj e=>by cases e))];rfl
 |ex i=>cases h3
 |cD bj=>obtain⟨_,_,ck⟩:=h3;cases ck
 |gt l=>exact h3.elim
theorem aiC{e:l2}(fj:ly C e.call)(a6:ca P){lf:Nat}{args:List J}{h h':U}{out:Out}(aL:Nat.ble args.length a6.fn.ntmps=true)(bf:tX P a6 C lf args h=some (out,h')\/zC P a6 C lf args h=some (out,h')):
 ∀D,ih e a6 lf a6.f args (h.b3 D)=some (out,h'.b3 D):=by
 rcases bf with bf|bf
 ·exact aEm fj a6 aL bf
 ·exact aEl fj a6 aL bf
end
noncomputable section
abbrev O:=Option J
abbrev hc:=Fr->U->ab
abbrev kU:=Nat->Fr->U->ab
abbrev cu:=U->ab
abbrev ay:=O->cu
abbrev aU:=O->ay
abbrev bI:=O->aU
abbrev bt:=O->bI
abbrev cY:=O->bt
abbrev dy:=O->cY
abbrev kb:=O->dy
abbrev xo:=O->kb
abbrev F8:=O->xo
abbrev ai6:=O->F8
abbrev F7:=O->ai6
abbrev Mc:=O->F7
def sub(c:Code):List Nat->Code
 | []=>c
 |i::p=>match c with
  | .seq a b=>sub (bif Nat.beq i 0 then a else b) p
  | .cond _ a b=>sub (bif Nat.beq i 0 then a else b) p
  | .block _ a=>sub a p
  | .loop a=>sub a p
  | .rangeFunc _ _ a c=>sub (bif Nat.beq i 0 then a else c) p
  |c=>c
def bM(id:Nat)(aJ:Fr->U->ab)(ke:Nat->Fr->U->ab):Nat->Fr->U->ab:=λi F h=>bif Nat.beq i id then aJ F h else ke i F h
def bq{α:Type}(body:(α->U->ab)->α->U->ab)(n:Nat):α->U->ab:=Nat.rec (motive:=λ_=>α->U->ab) (λ_ _=>none) (λ_ bc s h=>body bc s h) n
theorem dr{α:Type}(body:(α->U->ab)->α->U->ab)(n:Nat)(s:α)(h:U):bq body (n+1) s h=body (bq body n) s h:=rfl
def YP(l:List Nat):ByteArray:=⟨(l.map λn=>UInt8.ofNat n).toArray⟩
section
variable{P:Program}{C:ad}{N:Nat}{ord:Nat->Hint}{lf:Nat}{c a b:Code}{bb a5:Fr->U->ab}{ao:Nat->Fr->U->ab}
theorem bn(ae:c= .seq a b){A B:Fr->U->ab}(ag:∀F h,fN P C N ord lf b F h bb a5 ao=B F h)(b1:∀F h,fN P C N ord lf a F h B a5 ao=A F h)(F:Fr)(h:U):fN P C N ord lf c F h bb a5 ao=A F h:=by
 subst ae
 have:(λF h=>fN P C N ord lf b F h bb a5 ao)=B:=funext λF=>funext λh=>ag F h
 show fN P C N ord lf a F h (λF h=>fN P C N ord lf b F h bb a5 ao) a5 ao=A F h;rw[this];exact b1 F h
theorem gm{id:Nat}(ae:c= .block id a){A:Fr->U->ab}(b1:∀F h,fN P C N ord lf a F h bb a5 (bM id bb ao)=A F h)(F:Fr)(h:U):fN P C N ord lf c F h bb a5 ao=A F h:=by
 subst ae;exact b1 F h
theorem ak3{x:Operand}(ae:c= .cond x a b){A B:Fr->U->ab}(b1:∀F h,fN P C N ord lf a F h bb a5 ao=A F h)(ag:∀F h,fN P C N ord lf b F h bb a5 ao=B F h)(F:Fr)(h:U):
 fN P C N ord lf c F h bb a5 ao=vj h.aK F x λy=>fY y (A F h) (B F h):=by
 subst ae;show(vj h.aK F x λy=>fY y (fN P C N ord lf a F h bb a5 ao) (fN P C N ord lf b F h bb a5 ao))=_;rw[b1,ag]
theorem hg{α:Type}{g:Fr->α}{body:(α->U->ab)->α->U->ab}(ae:c= .loop a)(ag:∀(k:α->U->ab) F h,fN P C N ord lf a F h (λF h=>k (g F) h) a5 ao=body k (g F) h)(F:Fr)(h:U):
 fN P C N ord lf c F h bb a5 ao=bq body lf (g F) h:=by
 subst ae;show vh (λF h k=>fN P C N ord lf a F h k a5 ao) lf F h=bq body lf (g F) h
 have:∀n F h,vh (λF h k=>fN P C N ord lf a F h k a5 ao) n F h=bq body n (g F) h:=by
  intro n
  induction n with
  |zero=>intro F h;rfl
  |succ n bc=>
   intro F h;show fN P C N ord lf a F h (vh (λF h k=>fN P C N ord lf a F h k a5 ao) n) a5 ao=body (bq body n) (g F) h;have e:vh (λF h k=>fN P C N ord lf a F h k a5 ao) n=λF h=>bq body n (g F) h:=funext λF=>funext λh=>bc F h
   rw[e];exact ag _ F h
 exact this lf F h
abbrev cc(x:ca P)(p:List Nat):Code:=sub (x.fn.body.getD .skip) p
abbrev au(x:ca P)(C:ad)(lf:Nat)(p:List Nat):=fN P C x.fn.ntmps x.ord lf (cc x p)
theorem cZ{x:ca P}{args:List J}{h:U}{K:Fr->U->ab}{R:ab}(ai:FN P x.fn=K)(e:au x C lf [] (Ao args) h K K (λ_ _ _=>none)=R):tX P x C lf args h=R:=by
 subst ai;exact e
abbrev Z5(x:ca P)(C:ad)(lf:Nat)(p:List Nat):=hV P C x.fn.ntmps x.ord x.f none lf (cc x p)
def akF(id:Nat)(aJ:gM)(ke:Nat->gM):Nat->gM:=λi L F h=>bif Nat.beq i id then aJ L F h else ke i L F h
theorem LV{x:ca P}{p:List Nat}(ae:qY (cc x p)=true){aJ bS:gM}{ke:Nat->gM}{A:gM}(e:∀L F h,au x C lf p F h (aJ L) (bS L) (λi=>ke i L)=A L F h)(L:List Nat)(F:Fr)(h:U):Z5 x C lf p L F h aJ bS ke=A L F h:=
 (NS ae).trans (e L F h)
section
variable{me:FuncId}{ui sM:gM}{sL:Nat->gM}
theorem LW(ae:c= .seq a b){A B:gM}(ag:∀L F h,hV P C N ord me none lf b L F h ui sM sL=B L F h)(b1:∀L F h,hV P C N ord me none lf a L F h B sM sL=A L F h)(L:List Nat)(F:Fr)(h:U):hV P C N ord me none lf c L F h ui sM sL=A L F h:=by
 subst ae
 have:(λL F h=>hV P C N ord me none lf b L F h ui sM sL)=B:=funext λL=>funext λF=>funext λh=>ag L F h
 show hV P C N ord me none lf a L F h (λL F h=>hV P C N ord me none lf b L F h ui sM sL) sM sL=A L F h;rw[this];exact b1 L F h
theorem aEz{id:Nat}(ae:c= .block id a){A:gM}(b1:∀L F h,hV P C N ord me none lf a L F h ui sM (akF id ui sL)=A L F h)(L:List Nat)(F:Fr)(h:U):hV P C N ord me none lf c L F h ui sM sL=A L F h:=by
 subst ae;exact b1 L F h
theorem aEA{g:Operand}{ps:Array Tmp}{us es:List Nat}{rb:Bool}(ae:c= .rangeFunc g ps a b)(hu:iO ord N b=us)(aI:tQ b=rb)(he:sZ b=es)(L:List Nat)(F:Fr)(h:U):
 hV P C N ord me none lf c L F h ui sM sL=vj h.aK F g λy=>q5 C ord me none N ps a b y L (ji (us.map λt=>(t,F t))) h (λL h=>ui L F h) (bif rb then(λL h=>sM L F h) else qS) (es.map λi=>(i,λL h=>sL i L F h)):=by
 subst ae hu aI he;rfl
end
theorem am2{x:ca P}{args:List J}{h:U}{K:gM}{R:ab}(ai:LU P x.fn=K)(e:Z5 x C lf [] [] (Ao args) h K K (λ_ _ _ _=>none)=R):zC P x C lf args h=y4 R:=by
 subst ai;unfold zC;exact congrArg y4 e
theorem aEB{x:ca P}{pa pc:List Nat}(b1:qY (cc x pa)=true)(ag:qY (cc x pc)=true){A B:hc}{k:Nat}{F:Fr}{ps:Array Tmp}{args:List J}{h:U}(aL:Nat.beq args.length ps.size=true)
 (NB:∀F h,au x C lf pc F h (λ_ h=>lH h k .ready .none true) (λ_ h=>lH h k .done .ret false) (λi _ h=>lH h k .done (.ex i) false)=B F h)
 (Nz:∀F h,au x C lf pa F h (λF h=>tO h k λh=>B F h) (λ_ _=>none) (λ_ _ _=>none)=A F h):
 BN P C x.ord x.f k x.fn.ntmps lf F ps (cc x pa) (cc x pc) args h=A (Es x.fn.ntmps F ps.toList args) h:=by
 unfold BN;rw[aL,cond_true,NS b1]
 have:(λaM h1=>tO h1 k λh2=>hV P C x.fn.ntmps x.ord x.f (some k) lf (cc x pc) [] aM h2 (λ_ _ h3=>lH h3 k .ready .none true) (λ_ _ h3=>lH h3 k .done .ret false) (λid _ _ h3=>lH h3 k .done (.ex id) false))=(λF h=>tO h k λh=>B F h):=by
  funext aM h1
  congr 1
  funext h2
  exact(NS ag).trans (NB aM h2)
 exact(congrArg (λK=>au x C lf pa (Es x.fn.ntmps F ps.toList args) h K (λ_ _=>none) (λ_ _ _=>none)) this).trans (Nz _ _)
end
structure cx (P:Program) where
 x:ca P
 s:ad->Nat->List J->U->ab
 eq:∀C lf args h r,s C lf args h=some r->Nat.ble args.length x.fn.ntmps=true/\(tX P x C lf args h=some r\/zC P x C lf args h=some r)
def ajz{P:Program}(x:ca P)(s:ad->Nat->U->ab)(e:∀C lf h,tX P x C lf [] h=s C lf h)(aO:Nat.ble 0 x.fn.ntmps=true):cx P:=⟨x,λC lf args h=>match args with
 | []=>s C lf h
 |_=>none,λC lf args h r he=>by
 rcases args with _|⟨_,_⟩<;>first|(cases he;done)|exact⟨aO,.inl ((e ..).trans he)⟩⟩
def iX{P:Program}(x:ca P)(s:ad->Nat->J->U->ab)(e:∀C lf aj h,tX P x C lf [aj] h=s C lf aj h)(aO:Nat.ble 1 x.fn.ntmps=true):cx P:=⟨x,λC lf args h=>match args with
 | [aj]=>s C lf aj h
 |_=>none,λC lf args h r he=>by
 rcases args with _|⟨aj,_|⟨_,_⟩⟩<;>first|(cases he;done)|exact⟨aO,.inl ((e ..).trans he)⟩⟩
def hd{P:Program}(x:ca P)(s:ad->Nat->J->J->U->ab)(e:∀C lf aj ak h,tX P x C lf [aj,ak] h=s C lf aj ak h)(aO:Nat.ble 2 x.fn.ntmps=true):cx P:=⟨x,λC lf args h=>match args with
 | [aj,ak]=>s C lf aj ak h
 |_=>none,λC lf args h r he=>by
 rcases args with _|⟨aj,_|⟨ak,_|⟨_,_⟩⟩⟩<;>first|(cases he;done)|exact⟨aO,.inl ((e ..).trans he)⟩⟩
def nA{P:Program}(x:ca P)(s:ad->Nat->J->J->J->U->ab)(e:∀C lf aj ak aD h,tX P x C lf [aj,ak,aD] h=s C lf aj ak aD h)(aO:Nat.ble 3 x.fn.ntmps=true):cx P:=⟨x,λC lf args h=>match args with
 | [aj,ak,aD]=>s C lf aj ak aD h
 |_=>none,λC lf args h r he=>by
 rcases args with _|⟨aj,_|⟨ak,_|⟨aD,_|⟨_,_⟩⟩⟩⟩<;>first|(cases he;done)|exact⟨aO,.inl ((e ..).trans he)⟩⟩
def ry{P:Program}(x:ca P)(s:ad->Nat->J->J->J->J->U->ab)(e:∀C lf aj ak aD a7 h,tX P x C lf [aj,ak,aD,a7] h=s C lf aj ak aD a7 h)(aO:Nat.ble 4 x.fn.ntmps=true):cx P:=⟨x,λC lf args h=>match args with
 | [aj,ak,aD,a7]=>s C lf aj ak aD a7 h
 |_=>none,λC lf args h r he=>by
 rcases args with _|⟨aj,_|⟨ak,_|⟨aD,_|⟨a7,_|⟨_,_⟩⟩⟩⟩⟩<;>first|(cases he;done)|exact⟨aO,.inl ((e ..).trans he)⟩⟩
def ajA{P:Program}(x:ca P)(s:ad->Nat->J->U->ab)(e:∀C lf aj h,zC P x C lf [aj] h=s C lf aj h)(aO:Nat.ble 1 x.fn.ntmps=true):cx P:=⟨x,λC lf args h=>match args with
 | [aj]=>s C lf aj h
 |_=>none,λC lf args h r he=>by
 rcases args with _|⟨aj,_|⟨_,_⟩⟩<;>first|(cases he;done)|exact⟨aO,.inr ((e ..).trans he)⟩⟩
end
end Go.Xe
namespace Go.Proofs.YtomialandfplkaaDoor.Eva
open Go.Xe
noncomputable section
set_option linter.unusedVariables false
noncomputable abbrev aw:Program:=Tryd.prog
abbrev I(n:Int):J:= .int .i64 n
noncomputable def dn{P:Program}(f:FuncId)(fn:Func)(an:P.funcs[f]?=some fn)(ok:(fn.body.isSome&&!(fn.name=="runtime.NumGoroutine")&&Nat.ble fn.ntmps 60000&&gn P (λ_=> .text) false (fn.body.getD .skip))=true):ca P:=
 ⟨f,fn,λ_=> .text,an,by simp only[Bool.and_eq_true] at ok;exact ok.1.1.1,by simp only[Bool.and_eq_true] at ok;simpa using ok.1.1.2,by simp only[Bool.and_eq_true] at ok;exact ok.1.2,by simp only[Bool.and_eq_true] at ok;exact ok.2⟩
abbrev ee(n:cu):hc:=λF h=>n h
abbrev aR(n:ay)(aj:Nat):hc:=λF h=>n (F aj) h
abbrev a8(n:aU)(aj ak:Nat):hc:=λF h=>n (F aj) (F ak) h
abbrev bE(n:bI)(aj ak aD:Nat):hc:=λF h=>n (F aj) (F ak) (F aD) h
abbrev bp(n:bt)(aj ak aD a7:Nat):hc:=λF h=>n (F aj) (F ak) (F aD) (F a7) h
abbrev dj(n:cY)(aj ak aD a7 cw:Nat):hc:=λF h=>n (F aj) (F ak) (F aD) (F a7) (F cw) h
abbrev dY(n:dy)(aj ak aD a7 cw dB:Nat):hc:=λF h=>n (F aj) (F ak) (F aD) (F a7) (F cw) (F dB) h
abbrev og(n:kb)(aj ak aD a7 cw dB dU:Nat):hc:=λF h=>n (F aj) (F ak) (F aD) (F a7) (F cw) (F dB) (F dU) h
abbrev MF(n:xo)(aj ak aD a7 cw dB dU gg:Nat):hc:=λF h=>n (F aj) (F ak) (F aD) (F a7) (F cw) (F dB) (F dU) (F gg) h
abbrev MG(n:F8)(aj ak aD a7 cw dB dU gg ie:Nat):hc:=λF h=>n (F aj) (F ak) (F aD) (F a7) (F cw) (F dB) (F dU) (F gg) (F ie) h
abbrev MD(n:F7)(aj ak aD a7 cw dB dU gg ie sN MS:Nat):hc:=λF h=>n (F aj) (F ak) (F aD) (F a7) (F cw) (F dB) (F dU) (F gg) (F ie) (F sN) (F MS) h
abbrev ME(n:Mc)(aj ak aD a7 cw dB dU gg ie sN MS ajF:Nat):hc:=λF h=>n (F aj) (F ak) (F aD) (F a7) (F cw) (F dB) (F dU) (F gg) (F ie) (F sN) (F MS) (F ajF) h
abbrev mZ:=J->ab
abbrev rq:=J->U->ab
noncomputable def bG(n:Int):O:=some (.int .i64 n)
noncomputable def eJ(i:Nat)(x:J)(h:U)(k:mZ):ab:=ob (b6 i x) λc=>ob (bZ c h) k
noncomputable def fU(i:Nat)(x:O)(k:mZ):ab:=ob x λa=>ob (ew a) λb=>ob (b6 i b) k
noncomputable def dE(i:Nat)(x:O)(h:U)(k:mZ):ab:=ob x λa=>ob (ew a) λb=>ob (b6 i b) λc=>ob (bZ c h) k
noncomputable def arc(i:Nat)(x:O)(v:J)(h:U)(k:U->ab):ab:=ob x λa=>ob (ew a) λb=>ob (b6 i b) λc=>ob (st 1 c v h) k
noncomputable def cl(o:BinOp)(t:TypeId)(x y:J)(k:mZ):ab:=ob (bin Tryd.prog o t x y) k
noncomputable def cC(o:BinOp)(t:TypeId)(x:O)(v:J)(k:mZ):ab:=ob x λa=>ob (bin Tryd.prog o t a v) k
noncomputable def n5(o:BinOp)(t:TypeId)(x y:O)(k:mZ):ab:=ob x λa=>ob y λb=>ob (bin Tryd.prog o t a b) k
noncomputable def eF(o:BinOp)(t:TypeId)(x y:J)(p q:ab):ab:=ob (bin Tryd.prog o t x y) λz=>fY z p q
noncomputable def gJ(o:BinOp)(t:TypeId)(x:O)(v:J)(p q:ab):ab:=ob x λa=>ob (bin Tryd.prog o t a v) λz=>fY z p q
noncomputable def mr(o:BinOp)(t:TypeId)(x y:O)(p q:ab):ab:=ob x λa=>ob y λb=>ob (bin Tryd.prog o t a b) λz=>fY z p q
noncomputable def gj(y:J)(p q:ab):ab:=ob (h4 .not y) λz=>fY z p q
noncomputable def lR(s:Nat)(v:J)(x:O)(k:mZ):ab:=ob x λa=>ob (dS s v a) k
noncomputable def Jq(s i:Nat)(v:J)(x:O)(h:U)(k:mZ):ab:=ob x λa=>ob (dS s v a) λb=>ob (b6 i b) λc=>ob (bZ c h) k
noncomputable def tH(s:Nat)(v:J)(x:O)(h:U)(k:mZ):ab:=ob x λa=>ob (dS s v a) λb=>ob (bZ b h) k
noncomputable def ni(t:TypeId)(x:O)(k:mZ):ab:=ob x λa=>ob (eE Tryd.prog t a) k
noncomputable def df(y:J)(k:J->J->ab):ab:=ob (ext 0 y) λa=>ob (ext 1 y) λb=>k a b
noncomputable def b8(y:J)(e:O)(h:U)(k:rq):ab:=dV (cX true (some y) (ob e λa=>some (.ret a,h)) h) k
noncomputable def dQ(y:J)(e:O)(h:U)(k:rq):ab:=dV (cX false (some y) (ob e λa=>some (.ret a,h)) h) k
noncomputable def jc(o:BinOp)(t:TypeId)(y:J)(x:O)(v:J)(h:U)(k:rq):ab:=b8 y x h λa h=>b8 y (bin Tryd.prog o t a v) h k
noncomputable def jr(o:BinOp)(t:TypeId)(y:J)(x:O)(v:J)(h:U)(k:rq):ab:=dQ y x h λa h=>dQ y (bin Tryd.prog o t a v) h k
noncomputable def uD(i:Nat)(y:J)(x:O)(h:U)(k:rq):ab:=b8 y x h λa h=>b8 y (ew a) h λb h=>b8 y (b6 i b) h λc h=>b8 y (bZ c h) h k
noncomputable def aci(i:Nat)(y:J)(x:O)(h:U)(k:rq):ab:=dQ y x h λa h=>dQ y (ew a) h λb h=>dQ y (b6 i b) h λc h=>dQ y (bZ c h) h k
noncomputable def hz(y z:J)(k:mZ):ab:=ob (jB y z (.bool false)) k
noncomputable def ml(y z:J)(k:mZ):ab:=ob (jB y (.bool true) z) k
noncomputable def p4(y z:J)(p q:ab):ab:=ob (jB y z (.bool false)) λc=>fY c p q
noncomputable def nn(y z:J)(p q:ab):ab:=ob (jB y (.bool true) z) λc=>fY c p q
noncomputable def eg(i:Nat)(a:J)(k:mZ):ab:=ob (ew a) λb=>ob (b6 i b) k
noncomputable def tG(i:Nat)(a:J)(h:U)(k:mZ):ab:=ob (ew a) λb=>ob (b6 i b) λc=>ob (bZ c h) k
noncomputable def uX(i:Nat)(a v:J)(h:U)(k:U->ab):ab:=ob (ew a) λb=>ob (b6 i b) λc=>ob (st 1 c v h) k
noncomputable def kM(t:TypeId)(a:J)(k:mZ):ab:=ob (eE Tryd.prog t a) k
noncomputable def y6(o:BinOp)(t:TypeId)(v:J)(x:O)(k:mZ):ab:=ob x λa=>ob (bin Tryd.prog o t v a) k
noncomputable def ahI(o:BinOp)(t:TypeId)(v:J)(x:O)(p q:ab):ab:=ob x λa=>ob (bin Tryd.prog o t v a) λz=>fY z p q
noncomputable def cS(C:ad)(n:FuncId)(l:List J)(h:U)(k:rq):ab:=dV (C (.fn n) l h) k
noncomputable def aS(C:ad)(n:FuncId)(x:O)(h:U)(k:rq):ab:=ob x λa=>dV (C (.fn n) [a] h) k
noncomputable def a2(C:ad)(n:FuncId)(x y:O)(h:U)(k:rq):ab:=ob x λa=>ob y λb=>dV (C (.fn n) [a,b] h) k
noncomputable def cr(C:ad)(n:FuncId)(x y z:O)(h:U)(k:rq):ab:=ob x λa=>ob y λb=>ob z λc=>dV (C (.fn n) [a,b,c] h) k
noncomputable def ct(C:ad)(n:FuncId)(x y z u:O)(h:U)(k:rq):ab:=ob x λa=>ob y λb=>ob z λc=>ob u λd=>dV (C (.fn n) [a,b,c,d] h) k
end
noncomputable section
variable{C:ad}{lf:Nat}{bb a5 eB fl jM kK qJ qK qL qM qN qO qG qH qI:hc}{ao:kU}
def aaO:ca aw:=dn 62 Tryd.f62 Tryd.func62 (by kernel_rfl)
noncomputable def Ou(bC:O)(h:U):ab:=
 ob bC λa=>some (.ret a,h)
def Uj(C:ad)(lf:Nat)(r:ay)(x0 x1:O)(h:U):ab:=
 aS C 73 x0 h λa k=>jc .geq 3 a x1 (I 1) k λb k=>hz a b λa=>b8 a x1 k λb k=>uD 1 a x0 k λc k=>b8 a (eE aw 100 c) k λc k=>b8 a (bin aw .leq 3 b c) k λb k=>hz a b λa=>uD 1 a x0 k λb k=>jc .sub 3 a x1 (I 1) k λc k=>b8 a (dS 308 b c) k λb k=>b8 a (b6 0 b) k λb k=>b8 a (bZ b k) k λb k=>hz a b λa=>r (some a) k
theorem av7{r:ay}:∀F h,au aaO C lf [] F h bb (aR r 4) ao=a8 (Uj C lf r) 0 1 F h:=by
 intro F h;kernel_rfl
def HY(C:ad)(lf:Nat)(aj ak:J)(h:U):ab:=Uj C lf Ou (some aj) (some ak) h
def Pc:cx aw:=hd aaO HY (λC lf aj ak h=>cZ (K:=(aR Ou 4)) (by kernel_rfl) (Eq.trans (av7 _ h) (by kernel_rfl))) (by kernel_rfl)
def aaw:ca aw:=dn 36 Tryd.f36 Tryd.func36 (by kernel_rfl)
noncomputable def Oa(bC eC:O)(h:U):ab:=
 ob bC λa=>ob eC λb=>some (.ret (.bm [a,b]),h)
def Ti(C:ad)(lf:Nat)(r:aU)(x0 x1:O)(h:U):ab:=
 aS C 16 x0 h λa k=>df a λa b=>eF .neq 26 b (I 0) (r (some (.val (.pointer none))) (bG 22) k) (cC .lss 3 x1 (I 1) λb=>jr .gtr 3 b x1 (I 4096) k λc k=>nn b c (r (some (.val (.pointer none))) (bG 22) k) (ob x1 λb=>b2 (nq aw 100 b b k) λb k=>ob (hZ aw 102 [0,1] [a,b]) λa=>b2 (ri 102 a k) λa=>r (some a) (bG 0)))
theorem aul{r:aU}:∀F h,au aaw C lf [] F h bb (a8 r 4 5) ao=a8 (Ti C lf r) 0 1 F h:=by
 intro F h;kernel_rfl
def CV(C:ad)(lf:Nat)(aj ak:J)(h:U):ab:=Ti C lf Oa (some aj) (some ak) h
def O8:cx aw:=hd aaw CV (λC lf aj ak h=>cZ (K:=(a8 Oa 4 5)) (by kernel_rfl) (Eq.trans (aul _ h) (by kernel_rfl))) (by kernel_rfl)
def m5:ca aw:=dn 37 Tryd.f37 Tryd.func37 (by kernel_rfl)
noncomputable def s0(aP x9:O)(h:U):ab:=
 ob aP λa=>ob x9 λb=>some (.ret (.bm [a,b]),h)
def JV(C:ad)(lf:Nat)(r:aU)(h:U):ab:=
 r (bG 0) (bG 28) h
theorem aum{r:aU}:∀F h,au m5 C lf [1,1,1,1,1] F h bb (a8 r 8 9) ao=ee (JV C lf r) F h:=by
 intro F h;kernel_rfl
def Bx(C:ad)(lf:Nat)(n:dy)(r:aU)(av:cu)(x0 x1 x2 x3 w7 ve:O)(h:U):ab:=
 mr .lss 3 ve w7 (ob ve λa=>dE 1 x0 h λb=>ob (dS 308 b a) λb=>eJ 0 b h λb=>gj b (dE 1 x0 h λb=>cl .add 3 a (I 1) λc=>ob x2 λd=>ob x3 λg=>ob x1 λi=>dE 2 x0 h λj=>dE 2 x0 h λm=>dE 2 x0 h λo=>ob (hZ aw 78 [0,2,3,6,7,8,9] [c,d,g,i,j,m,o]) λc=>ob (hZ aw 125 [0,1] [.bool true,c]) λc=>ob (dS 308 b a) λb=>ob (st 308 b c h) λk=>cl .add 3 a (I 1) λa=>r (some a) (bG 0) k) (cC .add 3 ve (I 1) λa=>n x0 x1 x2 x3 w7 (some a) h)) (av h)
theorem aun{n:dy}{r:aU}{av:cu}:∀F h,au m5 C lf [1,1,1,1,0,1,0,0] F h (dY n 0 1 2 3 44 45) (a8 r 8 9) (bM 0 (ee av) ao)=dY (Bx C lf n r av) 0 1 2 3 44 45 F h:=by
 intro F h;kernel_rfl
def r6(C:ad)(lf:Nat)(r:aU)(av:cu)(k:O×O×O×O×O×O->U->ab)(s:O×O×O×O×O×O)(h:U):ab:=
 Bx C lf (λa b c d g i=>k (a,b,c,d,g,i)) r av s.1 s.2.1 s.2.2.1 s.2.2.2.1 s.2.2.2.2.1 s.2.2.2.2.2 h
def Tj(C:ad)(lf:Nat)(n:dy)(x0 x1 x2 x3:O)(h:U):ab:=
 dE 1 x0 h λa=>kM 100 a λa=>n x0 x1 x2 x3 (some a) (bG 0) h
theorem auo{n:dy}:∀F h,au m5 C lf [1,1,1,1,0,0] F h (dY n 0 1 2 3 44 45) a5 ao=bp (Tj C lf n) 0 1 2 3 F h:=by
 intro F h;kernel_rfl
def Tk(C:ad)(lf:Nat)(n:cu)(r:aU)(x0 x1 x2 x3:O)(h:U):ab:=
 Tj C lf (λa b c d g i=>bq (r6 C lf r n) lf (a,b,c,d,g,i)) x0 x1 x2 x3 h
theorem aup{n:cu}{r:aU}:∀F h,au m5 C lf [1,1,1,1,0] F h (ee n) (a8 r 8 9) ao=bp (Tk C lf n r) 0 1 2 3 F h:=bn (b:=cc m5 [1,1,1,1,0,1]) (by kernel_rfl) (gm (id:=0) (a:=cc m5 [1,1,1,1,0,1,0]) (by kernel_rfl) (hg (g:=λF=>(F 0,F 1,F 2,F 3,F 44,F 45)) (body:=r6 C lf r n) (by kernel_rfl) (λk=>(aun (n:=λx0 x1 x2 x3 w7 ve h=>k (x0,x1,x2,x3,w7,ve) h))))) (auo (n:=λx0 x1 x2 x3 w7 ve h=>bq (r6 C lf r n) lf (x0,x1,x2,x3,w7,ve) h))
def By(C:ad)(lf:Nat)(r:aU)(x0 x1 x2 x3:O)(h:U):ab:=
 Tk C lf (JV C lf r) r x0 x1 x2 x3 h
theorem auq{r:aU}:∀F h,au m5 C lf [1,1,1,1] F h bb (a8 r 8 9) ao=bp (By C lf r) 0 1 2 3 F h:=bn (by kernel_rfl) aum aup
def Tl(C:ad)(lf:Nat)(n:bt)(r:aU)(x0 x1 x2 x3 aX:O)(h:U):ab:=
 cC .andNot 68 x1 (I 65535) λa=>cl .neq 68 a (I 0) λa=>jr .neq 68 a aX (I 32768) h λb k=>dQ a (some b) k λb k=>jc .neq 68 b aX (I 16384) k λc k=>dQ a (jB b c (.bool false)) k λb k=>dQ a (some b) k λb k=>jc .neq 68 b aX (I 40960) k λc k=>dQ a (jB b c (.bool false)) k λb k=>ml a b λa=>jr .lss 3 a x2 (I 0) k λb k=>ml a b λa=>jr .lss 3 a x3 (I 0) k λb k=>nn a b (r (bG 0) (bG 22) k) (n x0 x1 x2 x3 k)
theorem aur{n:bt}{r:aU}:∀F h,au m5 C lf [1,1,1,0] F h (bp n 0 1 2 3) (a8 r 8 9) ao=dj (Tl C lf n r) 0 1 2 3 10 F h:=by
 intro F h;kernel_rfl
def Tm(C:ad)(lf:Nat)(r:aU)(x0 x1 x2 x3 aX:O)(h:U):ab:=
 Tl C lf (By C lf r) r x0 x1 x2 x3 aX h
theorem aus{r:aU}:∀F h,au m5 C lf [1,1,1] F h bb (a8 r 8 9) ao=dj (Tm C lf r) 0 1 2 3 10 F h:=bn (by kernel_rfl) auq aur
def Tn(C:ad)(lf:Nat)(n:cY)(x0 x1 x2 x3:O)(h:U):ab:=
 cC .and 68 x1 (I 61440) λa=>n x0 x1 x2 x3 (some a) h
theorem aut{n:cY}:∀F h,au m5 C lf [1,1,0] F h (dj n 0 1 2 3 10) a5 ao=bp (Tn C lf n) 0 1 2 3 F h:=by
 intro F h;kernel_rfl
def To(C:ad)(lf:Nat)(r:aU)(x0 x1 x2 x3:O)(h:U):ab:=
 Tn C lf (Tm C lf r) x0 x1 x2 x3 h
theorem auu{r:aU}:∀F h,au m5 C lf [1,1] F h bb (a8 r 8 9) ao=bp (To C lf r) 0 1 2 3 F h:=bn (by kernel_rfl) aus aut
def Tp(C:ad)(lf:Nat)(n:bt)(r:aU)(x0 x1 x2 x3:O)(h:U):ab:=
 aS C 73 x0 h λa k=>gj a (r (bG 0) (bG 14) k) (n x0 x1 x2 x3 k)
theorem auv{n:bt}{r:aU}:∀F h,au m5 C lf [1,0] F h (bp n 0 1 2 3) (a8 r 8 9) ao=bp (Tp C lf n r) 0 1 2 3 F h:=by
 intro F h;kernel_rfl
def Tq(C:ad)(lf:Nat)(r:aU)(x0 x1 x2 x3:O)(h:U):ab:=
 Tp C lf (To C lf r) r x0 x1 x2 x3 h
theorem auw{r:aU}:∀F h,au m5 C lf [1] F h bb (a8 r 8 9) ao=bp (Tq C lf r) 0 1 2 3 F h:=bn (by kernel_rfl) auu auv
noncomputable def Tr(C:ad)(lf:Nat)(n:bt)(x0 x1 x2 x3:O)(h:U):ab:=
 n x0 x1 x2 x3 h
theorem auy{n:bt}:∀F h,au m5 C lf [0] F h (bp n 0 1 2 3) a5 ao=bp (Tr C lf n) 0 1 2 3 F h:=by
 intro F h;kernel_rfl
def Ts(C:ad)(lf:Nat)(r:aU)(x0 x1 x2 x3:O)(h:U):ab:=
 Tr C lf (Tq C lf r) x0 x1 x2 x3 h
theorem auz{r:aU}:∀F h,au m5 C lf [] F h bb (a8 r 8 9) ao=bp (Ts C lf r) 0 1 2 3 F h:=bn (by kernel_rfl) auw auy
def vR(C:ad)(lf:Nat)(aj ak aD a7:J)(h:U):ab:=Ts C lf s0 (some aj) (some ak) (some aD) (some a7) h
def O9:cx aw:=ry m5 vR (λC lf aj ak aD a7 h=>cZ (K:=(a8 s0 8 9)) (by kernel_rfl) (Eq.trans (auz _ h) (by kernel_rfl))) (by kernel_rfl)
def aaW:ca aw:=dn 74 Tryd.f74 Tryd.func74 (by kernel_rfl)
noncomputable def OC(bC eC:O)(h:U):ab:=
 ob bC λa=>ob eC λb=>some (.ret (.bm [a,b]),h)
def UF(C:ad)(lf:Nat)(r:aU)(x0 x1:O)(h:U):ab:=
 aS C 73 x0 h λa k=>gj a (r (some (.val (.pointer none))) (bG 14) k) (a2 C 62 x0 x1 k λa k=>gj a (r (some (.val (.pointer none))) (bG 2) k) (dE 1 x0 k λa=>cC .sub 3 x1 (I 1) λb=>ob (dS 308 a b) λa=>r (some a) (bG 0) k))
theorem awx{r:aU}:∀F h,au aaW C lf [] F h bb (a8 r 4 5) ao=a8 (UF C lf r) 0 1 F h:=by
 intro F h;kernel_rfl
def H7(C:ad)(lf:Nat)(aj ak:J)(h:U):ab:=UF C lf OC (some aj) (some ak) h
def Pg:cx aw:=hd aaW H7 (λC lf aj ak h=>cZ (K:=(a8 OC 4 5)) (by kernel_rfl) (Eq.trans (awx _ h) (by kernel_rfl))) (by kernel_rfl)
def kp:ca aw:=dn 79 Tryd.f79 Tryd.func79 (by kernel_rfl)
noncomputable def Hu(x2:O)(h:U):ab:=
 ob x2 λa=>some (.ret a,h)
noncomputable def Kt(C:ad)(lf:Nat)(r:ay)(x3:O)(h:U):ab:=
 ob x3 λa=>ob (bZ a h) λa=>r (some a) h
theorem aw6{r:ay}:∀F h,au kp C lf [1,1,1,1,1,1,1,1] F h bb (aR r 2) ao=aR (Kt C lf r) 3 F h:=by
 intro F h;kernel_rfl
def EX(C:ad)(lf:Nat)(n:bt)(av:ay)(x3 bC mV vd:O)(h:U):ab:=
 gJ .lss 3 vd (I 16) (ob mV λa=>ob vd λb=>ob (zp aw 123 a b) λa=>b2 (l1 aw 122 h) λb k=>ob (st 17 b a k) λk=>ob bC λa=>eJ 0 b k λc=>b2 (ib aw 33 1 [0] [c] k) λc k=>fi false C a [c] k λa k=>ob bC λa=>ob (b6 1 b) λb=>ob (fX aw 120 b none none) λb=>fi false C a [b] k λa k=>cC .add 3 vd (I 1) λa=>n x3 bC mV (some a) k) (av x3 h)
theorem aw0{n:bt}{av:ay}:∀F h,au kp C lf [1,1,1,1,1,1,1,0,1,0,0] F h (bp n 3 4 39 40) a5 (bM 0 (aR av 3) ao)=bp (EX C lf n av) 3 4 39 40 F h:=by
 intro F h;kernel_rfl
def Bd(C:ad)(lf:Nat)(av:ay)(k:O×O×O×O->U->ab)(s:O×O×O×O)(h:U):ab:=
 EX C lf (λa b c d=>k (a,b,c,d)) av s.1 s.2.1 s.2.2.1 s.2.2.2 h
def UY(C:ad)(lf:Nat)(n:bt)(x0 x3 bC:O)(h:U):ab:=
 fU 36 x0 λa=>ob (fu 272 a h) λa=>n x3 bC (some a) (bG 0) h
theorem aw1{n:bt}:∀F h,au kp C lf [1,1,1,1,1,1,1,0,0] F h (bp n 3 4 39 40) a5 ao=bE (UY C lf n) 0 3 4 F h:=by
 intro F h;kernel_rfl
def UZ(C:ad)(lf:Nat)(n:ay)(x0 x3 bC:O)(h:U):ab:=
 UY C lf (λa b c d=>bq (Bd C lf n) lf (a,b,c,d)) x0 x3 bC h
theorem aw2{n:ay}:∀F h,au kp C lf [1,1,1,1,1,1,1,0] F h (aR n 3) a5 ao=bE (UZ C lf n) 0 3 4 F h:=bn (b:=cc kp [1,1,1,1,1,1,1,0,1]) (by kernel_rfl) (gm (id:=0) (a:=cc kp [1,1,1,1,1,1,1,0,1,0]) (by kernel_rfl) (hg (g:=λF=>(F 3,F 4,F 39,F 40)) (body:=Bd C lf n) (by kernel_rfl) (λk=>(aw0 (n:=λx3 bC mV vd h=>k (x3,bC,mV,vd) h))))) (aw1 (n:=λx3 bC mV vd h=>bq (Bd C lf n) lf (x3,bC,mV,vd) h))
def U0(C:ad)(lf:Nat)(r:ay)(x0 x3 bC:O)(h:U):ab:=
 UZ C lf (Kt C lf r) x0 x3 bC h
theorem aw3{r:ay}:∀F h,au kp C lf [1,1,1,1,1,1,1] F h bb (aR r 2) ao=bE (U0 C lf r) 0 3 4 F h:=bn (by kernel_rfl) aw6 aw2
def U1(C:ad)(lf:Nat)(n:bI)(x0 x3 bC:O)(h:U):ab:=
 ob bC λa=>dE 35 x0 h λb=>b2 (ib aw 33 1 [0] [b] h) λb k=>fi false C a [b] k λa=>n x0 x3 bC
theorem aw4{n:bI}:∀F h,au kp C lf [1,1,1,1,1,1,0] F h (bE n 0 3 4) a5 ao=bE (U1 C lf n) 0 3 4 F h:=by
 intro F h;kernel_rfl
def U2(C:ad)(lf:Nat)(r:ay)(x0 x3 bC:O)(h:U):ab:=
 U1 C lf (U0 C lf r) x0 x3 bC h
theorem aw5{r:ay}:∀F h,au kp C lf [1,1,1,1,1,1] F h bb (aR r 2) ao=bE (U2 C lf r) 0 3 4 F h:=bn (by kernel_rfl) aw3 aw4
def U3(C:ad)(lf:Nat)(n:bI)(x0 x3 bC:O)(h:U):ab:=
 ob bC λa=>fU 18 x0 λb=>ob (b6 1 b) λb=>ob (fX aw 120 b none none) λb=>fi false C a [b] h λa=>n x0 x3 bC
theorem aw7{n:bI}:∀F h,au kp C lf [1,1,1,1,1,0] F h (bE n 0 3 4) a5 ao=bE (U3 C lf n) 0 3 4 F h:=by
 intro F h;kernel_rfl
def U4(C:ad)(lf:Nat)(r:ay)(x0 x3 bC:O)(h:U):ab:=
 U3 C lf (U2 C lf r) x0 x3 bC h
theorem aw8{r:ay}:∀F h,au kp C lf [1,1,1,1,1] F h bb (aR r 2) ao=bE (U4 C lf r) 0 3 4 F h:=bn (by kernel_rfl) aw5 aw7
def U5(C:ad)(lf:Nat)(n:bI)(x0 x3 bC:O)(h:U):ab:=
 ob bC λa=>fU 18 x0 λb=>eJ 0 b h λb=>b2 (ib aw 33 1 [0] [b] h) λb k=>fi false C a [b] k λa=>n x0 x3 bC
theorem aw9{n:bI}:∀F h,au kp C lf [1,1,1,1,0] F h (bE n 0 3 4) a5 ao=bE (U5 C lf n) 0 3 4 F h:=by
 intro F h;kernel_rfl
def U6(C:ad)(lf:Nat)(r:ay)(x0 x3 bC:O)(h:U):ab:=
 U5 C lf (U4 C lf r) x0 x3 bC h
theorem axa{r:ay}:∀F h,au kp C lf [1,1,1,1] F h bb (aR r 2) ao=bE (U6 C lf r) 0 3 4 F h:=bn (by kernel_rfl) aw8 aw9
def U7(C:ad)(lf:Nat)(n:bI)(x0 x3 bC:O)(h:U):ab:=
 ob bC λa=>fU 12 x0 λb=>ob (fX aw 119 b none none) λb=>fi false C a [b] h λa=>n x0 x3 bC
theorem axb{n:bI}:∀F h,au kp C lf [1,1,1,0] F h (bE n 0 3 4) a5 ao=bE (U7 C lf n) 0 3 4 F h:=by
 intro F h;kernel_rfl
def U8(C:ad)(lf:Nat)(r:ay)(x0 x3 bC:O)(h:U):ab:=
 U7 C lf (U6 C lf r) x0 x3 bC h
theorem axc{r:ay}:∀F h,au kp C lf [1,1,1] F h bb (aR r 2) ao=bE (U8 C lf r) 0 3 4 F h:=bn (by kernel_rfl) axa axb
noncomputable def U9(C:ad)(lf:Nat)(n:bI)(x0 x3:O)(h:U):ab:=
 ob x3 λa=>n x0 x3 (some (.fn (.func 93) [] [a])) h
theorem axd{n:bI}:∀F h,au kp C lf [1,1,0] F h (bE n 0 3 4) a5 ao=a8 (U9 C lf n) 0 3 F h:=by
 intro F h;kernel_rfl
def Va(C:ad)(lf:Nat)(r:ay)(x0 x3:O)(h:U):ab:=
 U9 C lf (U8 C lf r) x0 x3 h
theorem axe{r:ay}:∀F h,au kp C lf [1,1] F h bb (aR r 2) ao=a8 (Va C lf r) 0 3 F h:=bn (by kernel_rfl) axc axd
noncomputable def Vb(C:ad)(lf:Nat)(n:aU)(x0:O)(h:U):ab:=
 b2 (l1 aw 33 h) λa=>n x0 (some a)
theorem axf{n:aU}:∀F h,au kp C lf [1,0] F h (a8 n 0 3) a5 ao=aR (Vb C lf n) 0 F h:=by
 intro F h;kernel_rfl
def Vc(C:ad)(lf:Nat)(r:ay)(x0:O)(h:U):ab:=
 Vb C lf (Va C lf r) x0 h
theorem axg{r:ay}:∀F h,au kp C lf [1] F h bb (aR r 2) ao=aR (Vc C lf r) 0 F h:=bn (by kernel_rfl) axe axf
noncomputable def Vd(C:ad)(lf:Nat)(n:ay)(x0:O)(h:U):ab:=
 n x0 h
theorem axh{n:ay}:∀F h,au kp C lf [0] F h (aR n 0) a5 ao=aR (Vd C lf n) 0 F h:=by
 intro F h;kernel_rfl
def Ve(C:ad)(lf:Nat)(r:ay)(x0:O)(h:U):ab:=
 Vd C lf (Vc C lf r) x0 h
theorem axi{r:ay}:∀F h,au kp C lf [] F h bb (aR r 2) ao=aR (Ve C lf r) 0 F h:=bn (by kernel_rfl) axg axh
def Ib(C:ad)(lf:Nat)(aj:J)(h:U):ab:=Ve C lf Hu (some aj) h
def abU:cx aw:=iX kp Ib (λC lf aj h=>cZ (K:=(aR Hu 2)) (by kernel_rfl) (Eq.trans (axi _ h) (by kernel_rfl))) (by kernel_rfl)
def aaV:ca aw:=dn 73 Tryd.f73 Tryd.func73 (by kernel_rfl)
noncomputable def OB(x2:O)(h:U):ab:=
 ob x2 λa=>some (.ret a,h)
def UE(C:ad)(lf:Nat)(r:ay)(x0:O)(h:U):ab:=
 cC .neq 64 x0 (.val (.pointer none)) λa=>b8 a x0 h λb k=>b8 a (ew b) k λb k=>b8 a (b6 0 b) k λb k=>jc .neq 25 a (bZ b k) (.val (.pointer none)) k λb k=>hz a b λa=>r (some a) k
theorem aww{r:ay}:∀F h,au aaV C lf [] F h bb (aR r 2) ao=aR (UE C lf r) 0 F h:=by
 intro F h;kernel_rfl
def H6(C:ad)(lf:Nat)(aj:J)(h:U):ab:=UE C lf OB (some aj) h
def Pf:cx aw:=iX aaV H6 (λC lf aj h=>cZ (K:=(aR OB 2)) (by kernel_rfl) (Eq.trans (aww _ h) (by kernel_rfl))) (by kernel_rfl)
def aaX:ca aw:=dn 76 Tryd.f76 Tryd.func76 (by kernel_rfl)
noncomputable def OD(bC:O)(h:U):ab:=
 ob bC λa=>some (.ret a,h)
def UO(C:ad)(lf:Nat)(r:ay)(x0 x1:O)(h:U):ab:=
 gJ .lss 3 x1 (I 6) (ob x0 λa=>ob x1 λb=>eg 12 a λa=>ob (ev 6 1 a b) λa=>r (some a) h) (gJ .lss 3 x1 (I 22) (ob x0 λa=>cC .sub 3 x1 (I 6) λb=>eg 18 a λa=>ob (b6 1 a) λa=>ob (ev 16 1 a b) λa=>r (some a) h) (cC .sub 3 x1 (I 22) λa=>ob x0 λb=>cl .quo 3 a (I 16) λc=>cl .rem 3 a (I 16) λa=>eg 36 b λb=>ob (ev 16 17 b c) λb=>ob (b6 1 b) λb=>ob (ev 16 1 b a) λa=>r (some a) h))
theorem awN{r:ay}:∀F h,au aaX C lf [] F h bb (aR r 4) ao=a8 (UO C lf r) 0 1 F h:=by
 intro F h;kernel_rfl
def H8(C:ad)(lf:Nat)(aj ak:J)(h:U):ab:=UO C lf OD (some aj) (some ak) h
def Pj:cx aw:=hd aaX H8 (λC lf aj ak h=>cZ (K:=(aR OD 4)) (by kernel_rfl) (Eq.trans (awN _ h) (by kernel_rfl))) (by kernel_rfl)
def aaY:ca aw:=dn 77 Tryd.f77 Tryd.func77 (by kernel_rfl)
noncomputable def OE(h:U):ab:=
 some (.ret (.bm []),h)
def UP(C:ad)(lf:Nat)(n:cu)(x0 x1:O)(h:U):ab:=
 ob x1 λa=>ob x1 λb=>dE 2 x0 h λc=>dE 2 x0 h λd=>eg 1 a λa=>ob (b6 8 a) λa=>ob (st 1 a c h) λk=>eg 1 b λa=>ob (b6 9 a) λa=>ob (st 1 a d k) n
theorem awO{n:cu}:∀F h,au aaY C lf [] F h (ee n) a5 ao=a8 (UP C lf n) 0 1 F h:=by
 intro F h;kernel_rfl
def H9(C:ad)(lf:Nat)(aj ak:J)(h:U):ab:=UP C lf OE (some aj) (some ak) h
def Pk:cx aw:=hd aaY H9 (λC lf aj ak h=>cZ (K:=(ee OE)) (by kernel_rfl) (Eq.trans (awO _ h) (by kernel_rfl))) (by kernel_rfl)
def aay:ca aw:=dn 42 Tryd.f42 Tryd.func42 (by kernel_rfl)
noncomputable def Oc(bC eC:O)(h:U):ab:=
 ob bC λa=>ob (fu 10 a h) λa=>ob eC λb=>some (.ret (.bm [a,b]),h)
def TG(C:ad)(lf:Nat)(r:aU)(x0 x1:O)(h:U):ab:=
 b2 (l1 aw 78 h) λa k=>a2 C 74 x0 x1 k λb k=>df b λb c=>eF .neq 26 c (I 0) (ob (hZ aw 78 [] []) λb=>ob (st 10 a b k) (r (some a) (some c))) (eg 1 b λc=>ob (fu 10 c k) λc=>b2 (l1 aw 78 k) λd k=>ob (st 10 d c k) λk=>cS C 79 [b] k λb k=>kM 33 b λb=>ob (b6 5 d) λc=>ob (st 1 c b k) λk=>ob (fu 10 d k) λb=>ob (st 10 a b k) (r (some a) (bG 0)))
theorem avk{r:aU}:∀F h,au aay C lf [] F h bb (a8 r 4 5) ao=a8 (TG C lf r) 0 1 F h:=by
 intro F h;kernel_rfl
def HP(C:ad)(lf:Nat)(aj ak:J)(h:U):ab:=TG C lf Oc (some aj) (some ak) h
def abv:cx aw:=hd aay HP (λC lf aj ak h=>cZ (K:=(a8 Oc 4 5)) (by kernel_rfl) (Eq.trans (avk _ h) (by kernel_rfl))) (by kernel_rfl)
def aaL:ca aw:=dn 59 Tryd.f59 Tryd.func59 (by kernel_rfl)
noncomputable def Oo(aF:O)(h:U):ab:=
 ob aF λa=>some (.ret a,h)
def Ug(C:ad)(lf:Nat)(r:ay)(x0 x1 x2:O)(h:U):ab:=
 a2 C 74 x0 x1 h λa k=>df a λa b=>eF .neq 26 b (I 0) (r (some b) k) (ob x2 λb=>eg 1 a λc=>eJ 1 c k λc=>ob (h4 .neg c) λc=>eF .lss 3 b c (r (bG 22) k) (ob x2 λb=>eg 1 a λc=>eJ 1 c k λc=>cl .sub 3 (I 16) c λc=>eF .gtr 3 b c (r (bG 31) k) (eg 1 a λb=>eJ 1 b k λb=>y6 .add 3 b x2 λb=>eg 1 a λc=>ob (b6 1 c) λc=>ob (st 1 c b k) λk=>dE 2 x0 k λb=>eg 1 a λc=>ob (b6 9 c) λc=>ob (st 1 c b k) λk=>ob x0 λb=>cS C 89 [b,a] k λa=>r (bG 0))))
theorem av4{r:ay}:∀F h,au aaL C lf [] F h bb (aR r 6) ao=bE (Ug C lf r) 0 1 2 F h:=by
 intro F h;kernel_rfl
def xX(C:ad)(lf:Nat)(aj ak aD:J)(h:U):ab:=Ug C lf Oo (some aj) (some ak) (some aD) h
def abK:cx aw:=nA aaL xX (λC lf aj ak aD h=>cZ (K:=(aR Oo 6)) (by kernel_rfl) (Eq.trans (av4 _ h) (by kernel_rfl))) (by kernel_rfl)
def aa4:ca aw:=dn 89 Tryd.f89 Tryd.func89 (by kernel_rfl)
noncomputable def OK(h:U):ab:=
 some (.ret (.bm []),h)
def VS(C:ad)(lf:Nat)(n:cu)(x0 x1:O)(h:U):ab:=
 fU 1 x1 λa=>eJ 1 a h λa=>cl .eql 3 a (I 0) λa=>b8 a x1 h λb k=>b8 a (ew b) k λb k=>b8 a (b6 11 b) k λb k=>jc .eql 3 a (bZ b k) (I 0) k λb k=>p4 a b (ob x0 λa=>ob x1 λb=>cS C 78 [a,b,I 0] k λa k=>ob x1 λa=>ob (hZ aw 125 [] []) λb=>ob (ew a) λa=>ob (st 308 a b k) n) (n k)
theorem ayv{n:cu}:∀F h,au aa4 C lf [] F h (ee n) a5 ao=a8 (VS C lf n) 0 1 F h:=by
 intro F h;kernel_rfl
def C6(C:ad)(lf:Nat)(aj ak:J)(h:U):ab:=VS C lf OK (some aj) (some ak) h
def ab4:cx aw:=hd aa4 C6 (λC lf aj ak h=>cZ (K:=(ee OK)) (by kernel_rfl) (Eq.trans (ayv _ h) (by kernel_rfl))) (by kernel_rfl)
def aa5:ca aw:=dn 91 Tryd.f91 Tryd.func91 (by kernel_rfl)
noncomputable def OM(h:U):ab:=
 some (.ret (.bm []),h)
def VV(C:ad)(lf:Nat)(n:cu)(x0 x1:O)(h:U):ab:=
 ob x1 λa=>ob (ew a) λa=>ob (bZ a h) λa=>eF .gtr 3 a (I 0) (dE 0 x0 h λa=>ob x1 λb=>ob (ew b) λb=>ob (bZ b h) λb=>cl .sub 3 b (I 1) λb=>cR (C (.fn 23) [a,b] h) λa k=>ob x1 λa=>ob (ew a) λa=>ob (st 1 a (I 0) k) n) (n h)
theorem ayz{n:cu}:∀F h,au aa5 C lf [] F h (ee n) a5 ao=a8 (VV C lf n) 0 1 F h:=by
 intro F h;kernel_rfl
def C7(C:ad)(lf:Nat)(aj ak:J)(h:U):ab:=VV C lf OM (some aj) (some ak) h
def ab6:cx aw:=hd aa5 C7 (λC lf aj ak h=>cZ (K:=(ee OM)) (by kernel_rfl) (Eq.trans (ayz _ h) (by kernel_rfl))) (by kernel_rfl)
def aa6:ca aw:=dn 92 Tryd.f92 Tryd.func92 (by kernel_rfl)
noncomputable def ON(x2:O)(h:U):ab:=
 ob x2 λa=>some (.ret a,h)
def VW(C:ad)(lf:Nat)(r:ay)(x0:O)(h:U):ab:=
 ob x0 λa=>b2 (ri 122 a h) λa k=>ob (b6 1 a) λa=>ob (fu 16 a k) λa=>ob (hZ aw 120 [] []) λb=>cl .eql 120 a b λa=>r (some a) k
theorem ayA{r:ay}:∀F h,au aa6 C lf [] F h bb (aR r 2) ao=aR (VW C lf r) 0 F h:=by
 intro F h;kernel_rfl
def Il(C:ad)(lf:Nat)(aj:J)(h:U):ab:=VW C lf ON (some aj) h
def ab7:cx aw:=iX aa6 Il (λC lf aj h=>cZ (K:=(aR ON 2)) (by kernel_rfl) (Eq.trans (ayA _ h) (by kernel_rfl))) (by kernel_rfl)
end
noncomputable section
variable{C:ad}{lf:Nat}{bb a5 eB fl jM kK qJ qK qL qM qN qO qG qH qI:hc}{ao:kU}
def aao:ca aw:=dn 16 Tryd.f16 Tryd.func16 (by kernel_rfl)
noncomputable def N2(x2 x3:O)(h:U):ab:=
 ob x2 λa=>ob x3 λb=>some (.ret (.bm [a,b]),h)
def Ss(C:ad)(lf:Nat)(r:aU)(x0:O)(h:U):ab:=
 cC .lss 3 x0 (I 1) λa=>jr .gtr 3 a x0 (I 4096) h λb k=>nn a b (r (some (.val (.pointer none))) (bG 22) k) (ob x0 λa=>ob x0 λb=>b2 (nq aw 57 b b k) λb k=>ob (hZ aw 59 [0,2] [a,b]) λa=>b2 (ri 59 a k) λa=>r (some a) (bG 0))
theorem atd{r:aU}:∀F h,au aao C lf [] F h bb (a8 r 2 3) ao=aR (Ss C lf r) 0 F h:=by
 intro F h;kernel_rfl
def CR(C:ad)(lf:Nat)(aj:J)(h:U):ab:=Ss C lf N2 (some aj) h
def O2:cx aw:=iX aao CR (λC lf aj h=>cZ (K:=(a8 N2 2 3)) (by kernel_rfl) (Eq.trans (atd _ h) (by kernel_rfl))) (by kernel_rfl)
def aap:ca aw:=dn 18 Tryd.f18 Tryd.func18 (by kernel_rfl)
noncomputable def N3(aP:O)(h:U):ab:=
 ob aP λa=>some (.ret a,h)
def Sx(C:ad)(lf:Nat)(r:ay)(x0 x1 x2 x3:O)(h:U):ab:=
 aS C 63 x0 h λa k=>gj a (r (bG 14) k) (a2 C 33 x0 x1 k λa k=>ob (h4 .not a) λa=>jr .lss 3 a x2 (I 0) k λb k=>ml a b λa=>jr .gtr 3 a x2 (I 64) k λb k=>ml a b λa=>dQ a x3 k λb k=>dQ a (eE aw 24 b) k λb k=>dQ a x2 k λc k=>dQ a (bin aw .sub 3 (I 64) c) k λc k=>dQ a (bin aw .gtr 3 b c) k λb k=>nn a b (r (bG 22) k) (dE 65 x0 k λa=>lR 64 a x1 λa=>ob x2 λb=>ob (fX aw 110 a (some b) none) λa=>ob x3 λb=>b2 (gk aw .copy #[24,24] [a,b] k) λa=>r (bG 0)))
theorem atn{r:ay}:∀F h,au aap C lf [] F h bb (aR r 8) ao=bp (Sx C lf r) 0 1 2 3 F h:=by
 intro F h;kernel_rfl
def CS(C:ad)(lf:Nat)(aj ak aD a7:J)(h:U):ab:=Sx C lf N3 (some aj) (some ak) (some aD) (some a7) h
def O4:cx aw:=ry aap CS (λC lf aj ak aD a7 h=>cZ (K:=(aR N3 8)) (by kernel_rfl) (Eq.trans (atn _ h) (by kernel_rfl))) (by kernel_rfl)
def aaq:ca aw:=dn 21 Tryd.f21 Tryd.func21 (by kernel_rfl)
noncomputable def N4(bC eC:O)(h:U):ab:=
 ob bC λa=>ob eC λb=>some (.ret (.bm [a,b]),h)
def SQ(C:ad)(lf:Nat)(r:aU)(x0 x1:O)(h:U):ab:=
 aS C 63 x0 h λa k=>gj a (r (some (.val (.slice none 0 0))) (bG 14) k) (a2 C 33 x0 x1 k λa k=>gj a (r (some (.val (.slice none 0 0))) (bG 22) k) (dE 65 x0 k λa=>lR 64 a x1 λa=>ob (fu 64 a k) λa=>b2 (l1 aw 110 k) λb k=>ob (st 64 b a k) λk=>ob (fX aw 110 b none none) λa=>r (some a) (bG 0) k))
theorem atK{r:aU}:∀F h,au aaq C lf [] F h bb (a8 r 4 5) ao=a8 (SQ C lf r) 0 1 F h:=by
 intro F h;kernel_rfl
def CT(C:ad)(lf:Nat)(aj ak:J)(h:U):ab:=SQ C lf N4 (some aj) (some ak) h
def O5:cx aw:=hd aaq CT (λC lf aj ak h=>cZ (K:=(a8 N4 4 5)) (by kernel_rfl) (Eq.trans (atK _ h) (by kernel_rfl))) (by kernel_rfl)
def aar:ca aw:=dn 23 Tryd.f23 Tryd.func23 (by kernel_rfl)
noncomputable def N5(bC:O)(h:U):ab:=
 ob bC λa=>some (.ret a,h)
def SR(C:ad)(lf:Nat)(r:ay)(x0 x1:O)(h:U):ab:=
 aS C 63 x0 h λa k=>gj a (r (bG 14) k) (a2 C 33 x0 x1 k λa k=>gj a (r (bG 22) k) (ob x0 λa=>cC .quo 3 x1 (I 64) λb=>eg 1 a λc=>ob (ev 64 1 c b) λc=>ob (bZ c k) λc=>cC .rem 3 x1 (I 64) λd=>cl .shl 55 (.int .u64 1) d λd=>cl .andNot 55 c d λc=>eg 1 a λa=>ob (ev 64 1 a b) λa=>ob (st 1 a c k) (r (bG 0))))
theorem atL{r:ay}:∀F h,au aar C lf [] F h bb (aR r 4) ao=a8 (SR C lf r) 0 1 F h:=by
 intro F h;kernel_rfl
def CU(C:ad)(lf:Nat)(aj ak:J)(h:U):ab:=SR C lf N5 (some aj) (some ak) h
def abm:cx aw:=hd aar CU (λC lf aj ak h=>cZ (K:=(aR N5 4)) (by kernel_rfl) (Eq.trans (atL _ h) (by kernel_rfl))) (by kernel_rfl)
def qn:ca aw:=dn 17 Tryd.f17 Tryd.func17 (by kernel_rfl)
noncomputable def Al(x2 x3:O)(h:U):ab:=
 ob x2 λa=>ob x3 λb=>some (.ret (.bm [a,b]),h)
def JP(C:ad)(lf:Nat)(r:aU)(h:U):ab:=
 r (bG 0) (bG 28) h
theorem ate{r:aU}:∀F h,au qn C lf [1,1,1] F h bb (a8 r 2 3) ao=ee (JP C lf r) F h:=by
 intro F h;kernel_rfl
def wI(C:ad)(lf:Nat)(n:aU)(r:aU)(av:cu)(x0 x9:O)(h:U):ab:=
 gJ .lss 3 x9 (I 64) (ob x9 λa=>cl .mul 3 a (I 64) λb=>fU 1 x0 λc=>ob (ev 64 1 c a) λc=>ob (bZ c h) λc=>ob (h4 .xor c) λc=>cS C 64 [c] h λc k=>cl .add 3 b c λb=>fU 1 x0 λc=>ob (ev 64 1 c a) λc=>ob (bZ c k) λc=>cl .eql 55 c (.int .u64 18446744073709551615) λc=>dQ c (some b) k λd k=>aci 0 c x0 k λg k=>dQ c (bin aw .geq 3 d g) k λd k=>nn c d (cC .add 3 x9 (I 1) λa=>n x0 (some a) k) (ob x0 λc=>eg 1 c λd=>ob (ev 64 1 d a) λd=>ob (bZ d k) λd=>cl .rem 3 b (I 64) λg=>cl .shl 55 (.int .u64 1) g λg=>cl .or 55 d g λd=>eg 1 c λc=>ob (ev 64 1 c a) λa=>ob (st 1 a d k) λk=>dE 65 x0 k λa=>ob (hZ aw 110 [] []) λc=>ob (dS 64 a b) λa=>ob (st 64 a c k) (r (some b) (bG 0)))) (av h)
theorem atf{n:aU}{r:aU}{av:cu}:∀F h,au qn C lf [1,1,0,1,0,0] F h (a8 n 0 9) (a8 r 2 3) (bM 0 (ee av) ao)=a8 (wI C lf n r av) 0 9 F h:=by
 intro F h;kernel_rfl
def r5(C:ad)(lf:Nat)(r:aU)(av:cu)(k:O×O->U->ab)(s:O×O)(h:U):ab:=
 wI C lf (λa b=>k (a,b)) r av s.1 s.2 h
def afA(C:ad)(lf:Nat)(n:aU)(x0:O)(h:U):ab:=
 n x0 (bG 0) h
theorem atg{n:aU}:∀F h,au qn C lf [1,1,0,0] F h (a8 n 0 9) a5 ao=aR (afA C lf n) 0 F h:=by
 intro F h;kernel_rfl
def afB(C:ad)(lf:Nat)(n:cu)(r:aU)(x0:O)(h:U):ab:=
 afA C lf (λa b=>bq (r5 C lf r n) lf (a,b)) x0 h
theorem ath{n:cu}{r:aU}:∀F h,au qn C lf [1,1,0] F h (ee n) (a8 r 2 3) ao=aR (afB C lf n r) 0 F h:=bn (b:=cc qn [1,1,0,1]) (by kernel_rfl) (gm (id:=0) (a:=cc qn [1,1,0,1,0]) (by kernel_rfl) (hg (g:=λF=>(F 0,F 9)) (body:=r5 C lf r n) (by kernel_rfl) (λk=>(atf (n:=λx0 x9 h=>k (x0,x9) h))))) (atg (n:=λx0 x9 h=>bq (r5 C lf r n) lf (x0,x9) h))
def afC(C:ad)(lf:Nat)(r:aU)(x0:O)(h:U):ab:=
 afB C lf (JP C lf r) r x0 h
theorem ati{r:aU}:∀F h,au qn C lf [1,1] F h bb (a8 r 2 3) ao=aR (afC C lf r) 0 F h:=bn (by kernel_rfl) ate ath
def St(C:ad)(lf:Nat)(n:ay)(r:aU)(x0:O)(h:U):ab:=
 aS C 63 x0 h λa k=>gj a (r (bG 0) (bG 14) k) (n x0 k)
theorem atj{n:ay}{r:aU}:∀F h,au qn C lf [1,0] F h (aR n 0) (a8 r 2 3) ao=aR (St C lf n r) 0 F h:=by
 intro F h;kernel_rfl
def Su(C:ad)(lf:Nat)(r:aU)(x0:O)(h:U):ab:=
 St C lf (afC C lf r) r x0 h
theorem atk{r:aU}:∀F h,au qn C lf [1] F h bb (a8 r 2 3) ao=aR (Su C lf r) 0 F h:=bn (by kernel_rfl) ati atj
noncomputable def Sv(C:ad)(lf:Nat)(n:ay)(x0:O)(h:U):ab:=
 n x0 h
theorem atl{n:ay}:∀F h,au qn C lf [0] F h (aR n 0) a5 ao=aR (Sv C lf n) 0 F h:=by
 intro F h;kernel_rfl
def Sw(C:ad)(lf:Nat)(r:aU)(x0:O)(h:U):ab:=
 Sv C lf (Su C lf r) x0 h
theorem atm{r:aU}:∀F h,au qn C lf [] F h bb (a8 r 2 3) ao=aR (Sw C lf r) 0 F h:=bn (by kernel_rfl) atk atl
def As(C:ad)(lf:Nat)(aj:J)(h:U):ab:=Sw C lf Al (some aj) h
def O3:cx aw:=iX qn As (λC lf aj h=>cZ (K:=(a8 Al 2 3)) (by kernel_rfl) (Eq.trans (atm _ h) (by kernel_rfl))) (by kernel_rfl)
def aaP:ca aw:=dn 63 Tryd.f63 Tryd.func63 (by kernel_rfl)
noncomputable def Ov(x2:O)(h:U):ab:=
 ob x2 λa=>some (.ret a,h)
def Uk(C:ad)(lf:Nat)(r:ay)(x0:O)(h:U):ab:=
 cC .neq 25 x0 (.val (.pointer none)) λa=>b8 a x0 h λb k=>b8 a (ew b) k λb k=>b8 a (b6 0 b) k λb k=>jc .gtr 3 a (bZ b k) (I 0) k λb k=>hz a b λa=>r (some a) k
theorem av8{r:ay}:∀F h,au aaP C lf [] F h bb (aR r 2) ao=aR (Uk C lf r) 0 F h:=by
 intro F h;kernel_rfl
def HZ(C:ad)(lf:Nat)(aj:J)(h:U):ab:=Uk C lf Ov (some aj) h
def Pd:cx aw:=iX aaP HZ (λC lf aj h=>cZ (K:=(aR Ov 2)) (by kernel_rfl) (Eq.trans (av8 _ h) (by kernel_rfl))) (by kernel_rfl)
def aau:ca aw:=dn 33 Tryd.f33 Tryd.func33 (by kernel_rfl)
noncomputable def N8(bC:O)(h:U):ab:=
 ob bC λa=>some (.ret a,h)
def Tg(C:ad)(lf:Nat)(r:ay)(x0 x1:O)(h:U):ab:=
 aS C 63 x0 h λa k=>jc .geq 3 a x1 (I 0) k λb k=>hz a b λa=>b8 a x1 k λb k=>uD 0 a x0 k λc k=>b8 a (bin aw .lss 3 b c) k λb k=>hz a b λa=>b8 a x0 k λb k=>jc .quo 3 a x1 (I 64) k λc k=>b8 a (ew b) k λb k=>b8 a (b6 1 b) k λb k=>b8 a (ev 64 1 b c) k λb k=>b8 a (bZ b k) k λb k=>jc .rem 3 a x1 (I 64) k λc k=>b8 a (bin aw .shr 55 b c) k λb k=>jc .eql 55 a (bin aw .and 55 b (.int .u64 1)) (.int .u64 1) k λb k=>hz a b λa=>r (some a) k
theorem aui{r:ay}:∀F h,au aau C lf [] F h bb (aR r 4) ao=a8 (Tg C lf r) 0 1 F h:=by
 intro F h;kernel_rfl
def HM(C:ad)(lf:Nat)(aj ak:J)(h:U):ab:=Tg C lf N8 (some aj) (some ak) h
def O6:cx aw:=hd aau HM (λC lf aj ak h=>cZ (K:=(aR N8 4)) (by kernel_rfl) (Eq.trans (aui _ h) (by kernel_rfl))) (by kernel_rfl)
def aaQ:ca aw:=dn 64 Tryd.f64 Tryd.func64 (by kernel_rfl)
noncomputable def Ow(x2:O)(h:U):ab:=
 ob x2 λa=>some (.ret a,h)
def Ul(C:ad)(lf:Nat)(r:ay)(x0:O)(h:U):ab:=
 gJ .eql 55 x0 (.int .u64 0) (r (bG 64) h) (ob x0 λa=>ob x0 λb=>ob (h4 .neg b) λb=>cl .and 55 a b λa=>cl .mul 55 a (.int .u64 285870213051353865) λa=>cl .shr 55 a (.int .u64 58) λa=>De h.aK 0 λb=>ob (ev 64 1 b a) λa=>ob (bZ a h) λa=>ob (xH .i64 a) λa=>r (some a) h)
theorem av9{r:ay}:∀F h,au aaQ C lf [] F h bb (aR r 2) ao=aR (Ul C lf r) 0 F h:=by
 intro F h;kernel_rfl
def H0(C:ad)(lf:Nat)(aj:J)(h:U):ab:=Ul C lf Ow (some aj) h
def Pe:cx aw:=iX aaQ H0 (λC lf aj h=>cZ (K:=(aR Ow 2)) (by kernel_rfl) (Eq.trans (av9 _ h) (by kernel_rfl))) (by kernel_rfl)
end
end Go.Proofs.YtomialandfplkaaDoor.Eva
namespace Go.Xe
def Ext(f g:bL):Prop:=∀c args X r,f c args X=some r->g c args X=some r
def FZ(f g:nu):Prop:=∀i args u X r,f i args u X=some r->g i args u X=some r
def L7(f g:ax J->ah->R):Prop:=∀F X r,f F X=some r->g F X=some r
def XR(f g:iA):Prop:=∀c d F X r,f c d F X=some r->g c d F X=some r
def B3(f g:Code->ax J->ah->R):Prop:=∀c F X r,f c F X=some r->g c F X=some r
section
variable{P:Program}{f g:bL}{N:Nat}
theorem Z1(ar:Ext f g){o:Oper}{F:ax J}{X:ah}{r:Out×ah}(h:jW P f o F X=some r):jW P g o F X=some r:=by
 rw[ZZ] at h⊢;cases aL:looks X.aK F o.op.operands.toList with
 |none=>rw[aL] at h;cases h
 |some bA=>
  rw[aL] at h;simp only[] at h⊢;generalize o.op=op at h;cases op<;>try exact h
  rename_i c;simp only[qi] at h⊢;split at h
  ·exact h
  ·rename_i ag;split at h<;>try(cases h;done)
   rename_i xE args ae;exact ar _ _ _ _ h
theorem amH(ar:Ext f g){o:Oper}{F:ax J}{X:ah}{r:J×ah}(h:kl P f o F X=some r):kl P g o F X=some r:=by
 obtain⟨y,af⟩:=r;exact Z2 (Z1 ar (NN h))
theorem ahu(ar:Ext f g){ops:List Oper}{o:Oper}{F:ax J}{X:ah}{r:ax J×ah}(h:j9 P f N ops o F X=some r):j9 P g N ops o F X=some r:=by
 unfold j9 at h⊢;split at h
 ·rename_i X1 hw;split at h<;>try(cases h;done)
  rename_i y c4 he;simp only[amH ar he];exact h
 ·exact h
 ·cases h
theorem aBL(ar:Ext f g){ops:List Oper}{o:Oper}{F:ax J}{X:ah}{r:Option gL×ax J×ah}(h:kz P f N ops o F X=some r):kz P g N ops o F X=some r:=by
 unfold kz at h⊢;split at h
 ·rename_i X1 hw;cases aH:nZ o.op with
  |true=>simp only[aH,cond_true] at h⊢;exact h
  |false=>
   simp only[aH,cond_false] at h⊢;cases he:jW P f o F X1 with
   |none=>simp[he] at h
   |some BK=>rw[he] at h;rw[Z1 ar he];exact h
 ·exact h
 ·cases h
theorem Z3(ar:Ext f g){ops:List Oper}:∀{l:List Oper} {F:ax J} {X:ah} {r:Option gL×ax J×ah},km P f N ops l F X=some r->km P g N ops l F X=some r
 | [],F,X,r,h=>h
 |o::rest,F,X,r,h=>by
  simp only[km] at h⊢;cases al:kz P f N ops o F X with
  |none=>simp[al] at h
  |some BK=>
   rw[al] at h;rw[aBL ar al];obtain⟨bj,aM,X1⟩:=BK;cases bj with
   |none=>exact Z3 ar h
   |some bj=>exact h
theorem NK(ar:Ext f g){ops:List Oper}{bU:List (Nat×List Nat)}:∀{is:List Nat} {bK:List (Nat×Option Nat)} {F:ax J} {X:ah} {r:ax J×ah},iG P f N ops bU is bK F X=some r->iG P g N ops bU is bK F X=some r
 | [],bK,F,X,r,h=>h
 |k::bO,bK,F,X,r,h=>by
  simp only[iG] at h⊢;split at h<;>try(cases h;done)
  rename_i o aq;cases al:j9 P f N ops o F X with
  |none=>simp[al] at h
  |some BK=>
   rw[al] at h;rw[ahu ar al];obtain⟨aM,X1⟩:=BK;simp only[] at h⊢;cases ae:ki bK X X1 (ig bU k) with
   |false=>simp[ae] at h
   |true=>simp only[ae,cond_true] at h⊢;exact NK ar h
theorem aBK(ar:Ext f g){ops:List Oper}{rs:List Nat}{base k:Nat}{o:Oper}{F:ax J}{X:ah}{r:ax J×ah}(h:ll P f N ops rs base k o F X=some r):ll P g N ops rs base k o F X=some r:=by
 unfold ll at h⊢;cases aO:hy rs k o.op with
 |true=>simp only[aO,cond_true] at h⊢;exact h
 |false=>simp only[aO,cond_false] at h⊢;exact ahu ar h
theorem ZX(ar:Ext f g){ops:List Oper}{rs:List Nat}{bU:List (Nat×List Nat)}{base:Nat}:∀{is:List Nat} {bK:List (Nat×Option Nat)} {F:ax J} {X:ah} {r:ax J×ah},ja P f N ops rs bU base is bK F X=some r->ja P g N ops rs bU base is bK F X=some r
 | [],bK,F,X,r,h=>h
 |k::bO,bK,F,X,r,h=>by
  simp only[ja] at h⊢;split at h<;>try(cases h;done)
  rename_i o aq;cases aL:pP P ops base o F X with
  |false=>simp[aL] at h
  |true=>
   simp only[aL,cond_true] at h⊢;cases al:ll P f N ops rs base k o F X with
   |none=>simp[al] at h
   |some BK=>
    rw[al] at h;rw[aBK ar al];obtain⟨aM,X1⟩:=BK;simp only[] at h⊢;cases ae:ki bK X X1 (ig bU k) with
    |false=>simp[ae] at h
    |true=>simp only[ae,cond_true] at h⊢;exact ZX ar h
theorem aei{b b':ax J->ah->R}(ag:L7 b b'):∀n,L7 (iQ b n) (iQ b' n)
 |0=>λF X r h=>h
 |n+1=>λF X r h=>by
  have h:(match b F X with|some (.cz,F,X)=>iQ b n F X|r=>r)=some r:=h;show(match b' F X with|some (.cz,F,X)=>iQ b' n F X|r=>r)=some r;cases he:b F X with
  |none=>rw[he] at h;cases h
  |some q=>
   rw[he] at h;rw[ag _ _ _ he];obtain⟨ex,aM,X1⟩:=q;cases ex with
   |cz=>exact aei ag n aM X1 r h
   |_=>exact h
theorem azJ(ar:Ext f g){ord:Nat->Hint}{me:FuncId}{rd:Option Nat}{ps:Array Tmp}{a c:Code}{y:J}:L7 (pV f ord me rd N ps a c y) (pV g ord me rd N ps a c y):=by
 intro F X r h;unfold pV at h⊢;split at h
 ·rename_i aER b6 qj b X1 ag;split at h
  ·rename_i zz c4 he;rw[ar _ _ _ _ he];exact h
  ·rename_i bj c4 he;rw[ar _ _ _ _ he];exact h
  ·cases h
 ·cases h
theorem ZS(ar:Ext f g){ord:Nat->Hint}{me:FuncId}{rd:Option Nat}{lf:Nat}{j gW:iA}(aa:XR j gW):B3 (bY P f ord me rd N lf j) (bY P g ord me rd N lf gW):=by
 intro c
 induction c with
 |region id ops d=>
  intro F X r h;cases d with
  |false=>
   simp only[bY] at h⊢;cases he:km P f N ops.toList ops.toList F X with
   |none=>simp[he] at h
   |some q=>rw[he] at h;rw[Z3 ar he];exact h
  |true=>
   simp only[bY] at h⊢;cases aq:ord id with
   |text=>
    simp only[aq] at h⊢;cases he:iG P f N ops.toList [] (List.range ops.size) [] F {X with cK:=[]} with
    |none=>simp[he] at h
    |some q=>rw[he] at h;rw[NK ar he];exact h
   |skip=>simp[aq] at h
   |ord is bU=>
    simp only[aq] at h⊢;cases he:iG P f N ops.toList bU is [] F {X with cK:=[]} with
    |none=>simp[he] at h
    |some q=>rw[he] at h;rw[NK ar he];exact h
   |news is rs bU=>
    simp only[aq,force_eq] at h⊢;cases aH:nB X X.next rs with
    |false=>simp[aH] at h
    |true=>
     simp only[aH,cond_true] at h⊢;cases he:ja P f N ops.toList rs bU X.next is [] F {X with cK:=[],next:=X.next+ops.size} with
     |none=>simp[he] at h
     |some q=>rw[he] at h;rw[ZX ar he];exact h
 |seq a b fQ gG=>
  intro F X r h;simp only[bY] at h⊢;cases he:bY P f ord me rd N lf j a F X with
  |none=>simp[he] at h
  |some q=>
   rw[he] at h;rw[fQ _ _ _ he];obtain⟨ex,aM,X1⟩:=q;cases ex with
   |cz=>exact gG _ _ _ h
   |_=>exact h
 |cond x a b fQ gG=>
  intro F X r h;simp only[bY] at h⊢;split at h<;>try(cases h;done)
  rename_i y bf;split at h
  ·exact fQ _ _ _ h
  ·exact gG _ _ _ h
  ·cases h
 |block id c bc=>
  intro F X r h;simp only[bY] at h⊢;cases he:bY P f ord me rd N lf j c F X with
  |none=>simp[he] at h
  |some q=>rw[he] at h;rw[bc _ _ _ he];exact h
 |loop c bc=>
  intro F X r h;exact aei (λF X r h=>bc F X r h) lf F X r h
 |scope c bc=>
  intro F X r h;simp only[bY] at h⊢;cases he:bY P f ord me rd N lf j c F X with
  |none=>simp[he] at h
  |some q=>
   rw[he] at h;rw[bc _ _ _ he];obtain⟨ex,aM,X1⟩:=q;cases ex with
   |gt l=>
    simp only[] at h⊢;split at h
    ·exact aa _ _ _ _ _ h
    ·exact h
   |_=>exact h
 |rangeFunc x ps a c fQ aFp=>
  intro F X r h;simp only[bY] at h⊢;split at h<;>try(cases h;done)
  exact azJ ar _ _ _ h
 |_=>intro F X r h;exact h
theorem QH(ar:Ext f g){ord:Nat->Hint}{me:FuncId}{rd:Option Nat}{lf:Nat}:∀n,XR (fR P f ord me rd N lf n) (fR P g ord me rd N lf n)
 |0=>λ_ _ _ _ _ h=>h
 |n+1=>λc d F X r h=>by
  have h:(match bY P f ord me rd N lf (fR P f ord me rd N lf n) d F X with
   |some (.gt l,F,X)=>(match findLabel c l with
    |some rest=>fR P f ord me rd N lf n c rest F X
    |none=>some (.gt l,F,X))
   |r=>r)=some r:=h
  show(match bY P g ord me rd N lf (fR P g ord me rd N lf n) d F X with
   |some (.gt l,F,X)=>(match findLabel c l with
    |some rest=>fR P g ord me rd N lf n c rest F X
    |none=>some (.gt l,F,X))
   |r=>r)=some r
  cases he:bY P f ord me rd N lf (fR P f ord me rd N lf n) d F X with
  |none=>rw[he] at h;cases h
  |some q=>
   rw[he] at h;rw[ZS ar (QH ar n) _ _ _ _ he];obtain⟨ex,aM,X1⟩:=q;cases ex with
   |gt l=>
    simp only[] at h⊢;split at h
    ·exact QH ar n _ _ _ _ _ h
    ·exact h
   |_=>exact h
theorem ZT(ar:Ext f g){ord:Nat->Hint}{me:FuncId}{rd:Option Nat}{lf:Nat}:B3 (bY P f ord me rd N lf (fR P f ord me rd N lf lf)) (bY P g ord me rd N lf (fR P g ord me rd N lf lf)):=
 ZS ar (QH ar lf)
theorem amE{cO Ai:Code->ax J->ah->R}(he:B3 cO Ai):∀(c:Code) {F:ax J} {X:ah} {u:Mode} {r:hq×ax J×ah×Mode},hU P N cO c F X u=some r->hU P N Ai c F X u=some r:=by
 intro c
 have base:∀(c:Code) {F:ax J} {X:ah} {u:Mode} {r:hq×ax J×ah×Mode},(match cO c F X with|some (ex,F,X)=>some (ex,F,X,u)|none=>none)=some r->(match Ai c F X with|some (ex,F,X)=>some (ex,F,X,u)|none=>none)=some r:=by
  intro c F X u r h;cases ae:cO c F X with
  |none=>simp[ae] at h
  |some q=>rw[ae] at h;rw[he _ _ _ _ ae];exact h
 induction c with
 |seq a b fQ gG=>
  intro F X u r h;simp only[hU] at h⊢;cases ae:hU P N cO a F X u with
  |none=>simp[ae] at h
  |some q=>
   rw[ae] at h;rw[fQ ae];obtain⟨ex,aM,X1,iv⟩:=q;cases ex with
   |cz=>exact gG h
   |_=>exact h
 |cond x a b fQ gG=>
  intro F X u r h;simp only[hU] at h⊢;split at h<;>try(cases h;done)
  split at h
  ·exact fQ h
  ·exact gG h
  ·cases h
 |region id ops d=>
  intro F X u r h;cases d with
  |true=>exact base _ h
  |false=>
   simp only[hU] at h⊢;cases aI:AF ops.toList with
   |true=>simp only[aI,cond_true] at h⊢;exact h
   |false=>simp only[aI,cond_false] at h⊢;exact base _ h
 |_=>intro F X u r h;exact base _ h
theorem aAx{cO Ai:Code->ax J->ah->R}(he:B3 cO Ai){k:Nat}{F:ax J}{ps:Array Tmp}{a c:Code}{args:List J}{X:ah}{r:Out×ah}(h:lU cO k N F ps a c args X=some r):lU Ai k N F ps a c args X=some r:=by
 unfold lU at h⊢;cases ag:Nat.beq args.length ps.size with
 |false=>simp[ag] at h
 |true=>
  simp only[ag,cond_true] at h⊢;split at h<;>try(cases h;done)
  rename_i aM X1 h1;rw[he _ _ _ _ h1];simp only[] at h⊢;split at h<;>try(cases h;done)
  rename_i o aq;cases aI:isReady o with
  |false=>simp[aI] at h
  |true=>
   simp only[aI,cond_true] at h⊢;split at h<;>try(cases h;done)
   rename_i c4 h2
   try simp only[h2] at h⊢
   cases ae:cO c aM c4 with
   |none=>simp[ae] at h
   |some q=>rw[ae] at h;rw[he _ _ _ _ ae];exact h
theorem Eb{d hJ:nu}(aH:FZ d hJ){fn:Func}{F:ax J}:∀{D:List eO} {u:Mode} {X:ah} {r:Out×ah},fS P d fn F D u X=some r->fS P hJ fn F D u X=some r
 | [],u,X,r,h=>by cases u<;>exact h
 | .sU k::bh,u,X,r,h=>by
   simp only[fS] at h⊢;split at h<;>try(cases h;done)
   split at h<;>try(cases h;done)
   exact Eb aH h
 | .call i xs ys::bh,u,X,r,h=>by
   simp only[fS] at h⊢;cases ae:d i (xs++ys) u X with
   |none=>simp[ae] at h
   |some q=>
    rw[ae] at h;rw[aH _ _ _ _ _ ae];obtain⟨o,iv,X1⟩:=q;cases o<;>exact Eb aH h
theorem amW{d hJ:nu}(aH:FZ d hJ){fn:Func}{r:R}{q:Out×ah}(h:rN P d fn r=some q):rN P hJ fn r=some q:=by
 unfold rN at h⊢;split at h
 ·exact Eb aH h
 ·exact Eb aH h
 ·exact Eb aH h
 ·cases h
theorem anu{e bg:l2}(ae:Ext e.call bg.call)(aH:FZ e.dcall bg.dcall){a6:ca P}{lf:Nat}{i:FuncId}{args:List J}{X:ah}{r:Out×ah}(h:ih e a6 lf i args X=some r):ih bg a6 lf i args X=some r:=by
 unfold ih mA at h⊢;cases ag:(Nat.beq a6.f i&&Nat.ble args.length a6.fn.ntmps) with
 |false=>simp[ag] at h
 |true=>
  simp only[ag,cond_true] at h⊢;cases he:bY P e.call a6.ord a6.f none a6.fn.ntmps lf (fR P e.call a6.ord a6.f none a6.fn.ntmps lf lf) (a6.fn.body.getD .skip) (ha .nil 0 args) {X with bs:=[]} with
  |none=>rw[he] at h;cases h
  |some q=>
   rw[he] at h;rw[ZT ae _ _ _ _ he];cases an:rN P e.dcall a6.fn (some q) with
   |none=>rw[an] at h;cases h
   |some z=>rw[an] at h;rw[amW aH an];exact h
end
end Go.Xe
