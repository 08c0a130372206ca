import Derived.Test.YtomialandfplkaaDoorCards
import Derived.Deep.DeepHandedRow
import Derived.Test.YtomialandfplkaaDoorWInodeSoundm4
import Derived.Test.YtomialandfplkaaDoorWInodeSoundm2
set_option linter.unusedSimpArgs false
set_option linter.unusedVariables false
set_option maxRecDepth 100000
set_option maxHeartbeats 400000
namespace Go.Proofs.YtomialandfplkaaDoor.Eva
open Go.Xe
section
variable{P:Program}{h:U}{t:TypeId}
theorem Lh{cX:Array TypeId}{a b:Int}{k:IntKind}:gA P .min cX [.int k a,.int k b] h=some (.int k (min a b),h):=by
 have e:(bif decide (b<a) then b else a)=min a b:=by
  by_cases c:b<a
  ·rw[bw c,cond_true];omega
  ·rw[bq c,cond_false];omega
 show ao (ds h.x0 (D6 (.int k a) (.int k b)))=_;simp only[D6,e];rfl
theorem aCP{cX:Array TypeId}{a b:Int}{k:IntKind}:gA P .max cX [.int k a,.int k b] h=some (.int k (max a b),h):=by
 have e:(bif decide (b>a) then b else a)=max a b:=by
  by_cases c:b>a
  ·rw[bw c,cond_true];omega
  ·rw[bq c,cond_false];omega
 show ao (ds h.x0 (D4 (.int k a) (.int k b)))=_;simp only[D4,e];rfl
theorem XX{e s lo hi:Nat}{k1 k2:IntKind}{x:J}{l:List Nat}(hu:P.underlying t=some (.slice e))(aj:dN P e=some s)(h1:s=1)(B:Bytes h x l)(ae:mn x)(aJ:lo<hi)(cj:hi<=l.length):
 ∃bW,fK P t x (some (.int k1 (lo:Int))) (some (.int k2 (hi:Int)))=some bW/\Bytes h bW ((l.drop lo).take (hi-lo))/\rowOf bW=rowOf x:=by
 subst h1;rcases B.2 with⟨_,rfl⟩|⟨bM,ob,cap,iE,m,rfl,hm,ey⟩
 ·simp at cj;omega
 ·have ei:hL (.int k1 (lo:Int))=some lo:=rfl;have fJ:hL (.int k2 (hi:Int))=some hi:=rfl;have hlen:((l.drop lo).take (hi-lo)).length=hi-lo:=by simp;omega
  have ag:∀r5,r5=ob+lo->∀MJ Qs,Bytes h (.aY bM r5 (hi-lo) MJ Qs) ((l.drop lo).take (hi-lo)):=λr5 e MJ Qs=>by
   subst e;refine⟨λc ae=>B.1 c (List.mem_of_mem_drop (List.mem_of_mem_take ae)),.inr ⟨bM,ob+lo,MJ,Qs,m,by rw[hlen],hm,λj aa=>?_⟩⟩;rw[hlen] at aa;rw[Nat.add_assoc,ey (lo+j) (by omega)];congr 3;simp[List.getD,List.getElem?_take,aa,List.getElem?_drop]
  unfold fK;cases cap with
  |none=>
   have h3:sliceB l.length l.length (some (.int k1 (lo:Int))) (some (.int k2 (hi:Int)))=some (lo,hi):=by
    simp only[sliceB,ei,fJ]
    have:(Nat.ble hi l.length&&Nat.ble lo hi)=true:=by simp[Nat.ble_eq_true_of_le cj,Nat.ble_eq_true_of_le (Nat.le_of_lt aJ)]
    simp only[this,cond_true]
   have bR:Nat.blt lo l.length=true:=by rw[Nat.blt_eq];omega
   simp only[hu,aj,h3,pX,force_eq,Nat.ble_eq_true_of_le cj,cond_true,bR,Nat.mul_one];exact⟨_,rfl,ag _ rfl _ _,rfl⟩
  |some c=>
   have ae:l.length<=c:=ae
   have h3:sliceB l.length c (some (.int k1 (lo:Int))) (some (.int k2 (hi:Int)))=some (lo,hi):=by
    simp only[sliceB,ei,fJ]
    have:(Nat.ble hi c&&Nat.ble lo hi)=true:=by simp[Nat.ble_eq_true_of_le (Nat.le_trans cj ae),Nat.ble_eq_true_of_le (Nat.le_of_lt aJ)]
    simp only[this,cond_true]
   have bR:Nat.beq (c-lo) 0=false:=by
    cases ag:Nat.beq (c-lo) 0 with
    |false=>rfl
    |true=>exact absurd (Nat.eq_of_beq_eq_true ag) (by omega)
   simp only[hu,aj,h3,pX,force_eq,bR,cond_false,Nat.mul_one];exact⟨_,rfl,ag _ rfl _ _,rfl⟩
end
def jw(n i off:Nat)(l:List Nat):Nat->Nat->dF->dF×Nat
 |0,done,s=>(s,done)
 |f+1,done,s=>if done<l.length then
   (if(bI n i ((off+done)/64) s).2=true then
     jw n i off l f (done+min (64-(off+done)%64) (l.length-done)) ⟨(bI n i ((off+done)/64) s).1.wd,
      over (bI n i ((off+done)/64) s).1.b (((bI n i ((off+done)/64) s).1.bl i (a4 ((off+done)/64))-1)*64+(off+done)%64) ((l.drop done).take (min (64-(off+done)%64) (l.length-done))),
      (bI n i ((off+done)/64) s).1.nd,(bI n i ((off+done)/64) s).1.bl⟩
   else((bI n i ((off+done)/64) s).1,done)) else(s,done)
theorem nv.mono{h h':U}{T:dU}(O:nv h T)(aO:h.next<=h'.next):nv h' T:=⟨Nat.lt_of_lt_of_le O.t aO,Nat.lt_of_lt_of_le O.s aO,Nat.lt_of_lt_of_le O.d aO,Nat.lt_of_lt_of_le O.n aO,Nat.lt_of_lt_of_le O.g aO,O.aH⟩
def Ca(T:dU)(x:J):Prop:=∀j,rowOf x=some j->j≠T.a9/\j≠T.bJ/\j≠T.kd/\j≠T.aG
theorem Oi{n i k:Nat}{s:dF}(aA:(bI n i k s).2=true):0<(bI n i k s).1.bl i (a4 k):=by
 unfold bI at aA⊢;by_cases h1:0<s.bl i (a4 k)
 ·rw[if_pos h1];exact h1
 ·rw[if_neg h1] at aA⊢;by_cases h2:(df n i (dr k) s []).2.2=true
  ·rw[if_pos h2];exact(Ha (dr k) s [] h2).2 _ (by rw[adx];simp)
  ·rw[if_neg h2] at aA;cases aA
section
variable{lf:Nat}{h:U}{T:dU}{n N:Nat}{now:Int}{us:Nat->Bool}{s:dF}{i:Nat}
theorem aBV{C:ad}(nw:su C)(jP:FN C)(xd:B8 C)(hi:i<N){off:Nat}{x:J}{l:List Nat}(xT:mn x)(nN:Ca T x)(jH:off+l.length<=17792)(az:br):
 ∀(g done:Nat),l.length-done<=g->done<=l.length->∀f,g<f->∀h s,bx h T n N s.wd s.b now us s.nd->cR n N s.wd s.nd s.bl->hg h->nv h T->Bytes h x l->(∀j,rowOf x=some j->j<h.next)->
 ∃h',bp (DW C lf az) f (some (.ptr T.a9 0),some (I (off:Int)),some x,some (.ptr T.aG (i*308)),some (I (done:Int))) h=
    az (some (.ptr T.a9 0)) (some (I (off:Int))) (some (.ptr T.aG (i*308))) (some (I ((jw n i off l g done s).2:Int))) h'/\
  bx h' T n N (jw n i off l g done s).1.wd (jw n i off l g done s).1.b now us (jw n i off l g done s).1.nd/\cR n N (jw n i off l g done s).1.wd (jw n i off l g done s).1.nd (jw n i off l g done s).1.bl/\
  hg h'/\aN h h' (λj=>j=T.bJ\/j=T.kd\/j=T.aG):=by
 intro g
 induction g with
 |zero=>
  intro done bd aF f ak h s A M jC O B ao;obtain⟨f,rfl⟩:=dE f (by omega);have hlen:=qM (P:=ax) Tryd.underlying24 B;have a8:decide ((done:Int)<(l.length:Int))=false:=bq (by omega);refine⟨h,?_,A,M,jC,aN.refl _ _⟩;rw[dh];unfold DW EC;simp only[aE,hlen,a8];rfl
 |succ g ba=>
  intro done bd aF f ak h s A M jC O B ao;obtain⟨f,rfl⟩:=dE f (by omega);have hlen:=λ(h:U) (B:Bytes h x l)=>qM (P:=ax) Tryd.underlying24 B
  rw[dh];show ∃h',EC C lf (λx0 x2 x3 aW x12 h=>bp (DW C lf az) f (x0,x2,x3,aW,x12) h) az (some (.ptr T.a9 0)) (some (I (off:Int))) (some x) (some (.ptr T.aG (i*308))) (some (I (done:Int))) h=_/\_;unfold EC;by_cases Pd:done<l.length
  ·have a8:decide ((done:Int)<(l.length:Int))=true:=bw (by omega);have jl:IntKind.i64.wrap ((off:Int)+(done:Int))=((off+done:Nat):Int):=cH (by omega)
   have aZ:IntKind.i64.wrap (((off+done:Nat):Int).tdiv 64)=(((off+done)/64:Nat):Int):=by
    rw[Int.tdiv_eq_ediv_of_nonneg (by omega),wrap_i64 (by omega) (by omega)];rfl
   have aI:((off+done:Nat):Int).tmod 64=(((off+done)%64:Nat):Int):=by
    rw[Int.tmod_eq_emod_of_nonneg (by omega)];rfl
   have ai:(off+done)/64<278:=by omega
   obtain⟨h1,aQ,b7,hO,xc,aL⟩:=jP h T n N now us s i ((off+done)/64) A M jC O hi ai
   have hw:jw n i off l (g+1) done s=if(bI n i ((off+done)/64) s).2=true then
    jw n i off l g (done+min (64-(off+done)%64) (l.length-done)) ⟨(bI n i ((off+done)/64) s).1.wd,
     over (bI n i ((off+done)/64) s).1.b (((bI n i ((off+done)/64) s).1.bl i (a4 ((off+done)/64))-1)*64+(off+done)%64) ((l.drop done).take (min (64-(off+done)%64) (l.length-done))),
     (bI n i ((off+done)/64) s).1.nd,(bI n i ((off+done)/64) s).1.bl⟩
    else((bI n i ((off+done)/64) s).1,done):=by
    show(if done<l.length then _ else _)=_;rw[if_pos Pd]
   rw[hw];have tb:=Oi (n:=n) (i:=i) (k:=(off+done)/64) (s:=s);generalize cS:bI n i ((off+done)/64) s=dx at *;generalize qt:(off+done)/64=k at *;generalize aDm:(off+done)%64=a at *;have bX:a<64:=by omega
   by_cases ag:dx.2=true
   ·rw[ag] at aQ;rw[if_pos ag];have tb:=tb ag;obtain⟨bQ,cn⟩:=yR ai;generalize hm:min (64-a) (l.length-done)=m at *;have Dr:1<=m:=by omega
    have Ds:m<=64-a:=by omega
    have yd:done+m<=l.length:=by omega
    have jN:Bytes h1 x l:=B.frame λbM ob len cap lo e=>aL.same bM (ao bM (by rw[e];rfl)) (λaw=>by have:=nN bM (by rw[e];rfl);omega)
    have Iq:IntKind.i64.wrap (64-(a:Int))=((64-a:Nat):Int):=cH (by omega);have oK:IntKind.i64.wrap ((l.length:Int)-(done:Int))=((l.length-done:Nat):Int):=cH (by omega);have vP:min ((64-a:Nat):Int) ((l.length-done:Nat):Int)=(m:Int):=by omega
    have H8:IntKind.i64.wrap ((done:Int)+(m:Int))=((done+m:Nat):Int):=cH (by omega);obtain⟨bW,ei,fJ,oO⟩:=XX (P:=ax) (t:=24) (lo:=done) (hi:=done+m) (k1:= .i64) (k2:= .i64) Tryd.underlying24 (s:=1) (by kernel_rfl) rfl jN xT (by omega) yd;rw[Nat.add_sub_cancel_left] at fJ;have iA:C (.fn 76) [.ptr T.aG (i*308),I (k:Int)] h1=some (.ret (.ptr T.aG (i*308+a4 k)),h1):=nw h1 T.aG (i*308) k ai;have eB:=b7.ec i (a4 k) hi cn;rw[hO.cell i _ hi bQ cn] at eB;have hle:=hO.le i (a4 k);have fv:=b7.st.cF;have ki:IntKind.i64.wrap ((dx.1.bl i (a4 k):Int)-1)=((dx.1.bl i (a4 k)-1:Nat):Int):=cH (by omega);have eW:=hO.on i (a4 k) hi bQ cn tb;have ya:((l.drop done).take m).length=m:=by simp;omega
    have s8:¬tX n dx.1.wd ((dx.1.bl i (a4 k)-1:Nat):Int) (a:Int) ((l.drop done).take m):=by
     have iU:gv n dx.1.wd ((dx.1.bl i (a4 k)-1:Nat):Int)=true:=by
      simp only[gv,Int.toNat_natCast,eW,Bool.and_true,Bool.and_eq_true,decide_eq_true_eq];omega
     unfold tX;rw[iU,ya];simp only[Bool.true_eq_false,false_or];omega
    obtain⟨h2,a3,p8,cF,bF⟩:=(xd h1 T.bJ T.kd n dx.1.wd dx.1.b ((dx.1.bl i (a4 k)-1:Nat):Int) (a:Int) bW ((l.drop done).take m) b7.st fJ (by omega) (by omega) (by omega) (by omega) (by omega)).2 s8;rw[Int.toNat_natCast,Int.toNat_natCast] at p8;have c9:=b7.store p8 bF.next (bF.same _ b7.lt (λe=>b7.d2 e)) (bF.same _ b7.la (λe=>b7.d5 e))
    have nu:aN h h2 (λj=>j=T.bJ\/j=T.kd\/j=T.aG):=aL.trans (bF.eb λ_ e=> .inr (.inl e));have jV:∀r,fg (fY [(3,cv (some (J.ptr T.a9 0)))] h1 h1 [3]) r=r:=λr=>MP rfl b7.lt (Wj b7.wt) rfl
    obtain⟨h3,c5,dM,fP,lj,r8⟩:=ba (done+m) (by omega) yd f (by omega) h2 ⟨dx.1.wd,over dx.1.b ((dx.1.bl i (a4 k)-1)*64+a) ((l.drop done).take m),dx.1.nd,dx.1.bl⟩ c9 hO (xc.dx bF (Nat.lt_of_lt_of_le O.g aL.next) (λe=>O.aH.d e)) (O.mono nu.next)
     (jN.frame λbM ob len cap lo e=>bF.same bM (Nat.lt_of_lt_of_le (ao bM (by rw[e];rfl)) aL.next) (λaw=>by have:=nN bM (by rw[e];rfl);omega)) (λj aa=>Nat.lt_of_lt_of_le (ao j aa) nu.next)
    refine⟨h3,?_,dM,fP,lj,nu.trans r8⟩;simp only[aE,hlen h B,a8,jl,lJ (show(64:Int)≠0 by omega),aZ,hQ (show(64:Int)≠0 by omega),aI,aQ,Bool.not_true,Iq,hlen h1 jN,oK,Lh,vP,H8,ei,b7.c0,iA,jV,eB,ki,a3];exact c5
   ·have hT:dx.2=false:=by simpa using ag
    rw[hT] at aQ;rw[if_neg ag];refine⟨h1,?_,b7,hO,xc,aL⟩;simp only[aE,hlen h B,a8,jl,lJ (show(64:Int)≠0 by omega),aZ,hQ (show(64:Int)≠0 by omega),aI,aQ,Bool.not_false]
  ·have a8:decide ((done:Int)<(l.length:Int))=false:=bq (by omega)
   have hw:jw n i off l (g+1) done s=(s,done):=by
    show(if done<l.length then _ else _)=_;rw[if_neg Pd]
   rw[hw];refine⟨h,?_,A,M,jC,aN.refl _ _⟩;simp only[aE,hlen h B,a8]
end
def ew(off:Nat)(l:List Nat):List Nat:=l.take (min l.length (17792-off))
def dT(n i off:Nat)(l:List Nat)(s:dF):dF×Nat:=jw n i off (ew off l) (ew off l).length 0 s
def grown(nd:Nat->Nat->J)(i sz:Nat)(now:Int):Nat->Nat->J:=cO (cO (cO nd i 5 (I (sz:Int))) i 9 (I now)) i 10 (I now)
theorem cR.grown{n N:Nat}{wd:Nat->Nat}{nd:Nat->Nat->J}{bl:Nat->Nat->Nat}(M:cR n N wd nd bl)(i sz:Nat)(now:Int):cR n N wd (grown nd i sz now) bl:=
 ((M.kW (by omega)).kW (by omega)).kW (by omega)
section
variable{lf:Nat}{h:U}{T:dU}{n N:Nat}{now:Int}{us:Nat->Bool}{s:dF}{i:Nat}
theorem DU(hi:i<N)(hu:us i=true):db N us ((i+1:Nat):Int)=true:=by
 have h1:decide ((1:Int)<=((i+1:Nat):Int))=true:=bw (by omega);have h2:decide (((i+1:Nat):Int)<=(N:Int))=true:=bw (by omega);have e:((i+1:Nat):Int).toNat-1=i:=by omega
 simp only[db,h1,h2,Bool.true_and,e,hu]
theorem alu{k i' c:Nat}(hi:i<N)(M:cR n N s.wd s.nd s.bl)(hw:∀j,s.wd j<2 ^ 64)(ai:k<278)(ae:c<12):(bI n i k s).1.nd i' c=s.nd i' c:=by
 unfold bI;by_cases h1:0<s.bl i (a4 k)
 ·rw[if_pos h1]
 ·rw[if_neg h1];by_cases h2:(df n i (dr k) s []).2.2=true
  ·rw[if_pos h2];have t:oe n i s (df n i (dr k) s []).2.1 (df n i (dr k) s []).1:=xE (dr k) s [] .nil (A2 ai);have P:=t.props hi M hw;exact P.QQ i' c (.inr λe=>by have:=(P.oZ c e).2.1;omega)
  ·rw[if_neg h2]
structure pg (n N:Nat) (s:dF):Prop where
 M:cR n N s.wd s.nd s.bl
 w:∀j,s.wd j<2 ^ 64
theorem Oj{k:Nat}(W:pg n N s)(hi:i<N)(ai:k<278):pg n N (bI n i k s).1:=by
 unfold bI;by_cases h1:0<s.bl i (a4 k)
 ·rw[if_pos h1];exact W
 ·rw[if_neg h1];by_cases h2:(df n i (dr k) s []).2.2=true
  ·rw[if_pos h2];have t:oe n i s (df n i (dr k) s []).2.1 (df n i (dr k) s []).1:=xE (dr k) s [] .nil (A2 ai);have P:=t.props hi W.M W.w;exact⟨P.M,P.iI⟩
  ·rw[if_neg h2];exact⟨W.M,W.w⟩
theorem Fv{off:Nat}{l:List Nat}(jH:off+l.length<=17792){i' c:Nat}(hi:i<N)(ae:c<12):∀(g done:Nat) (s:dF),done<=l.length->pg n N s->(jw n i off l g done s).1.nd i' c=s.nd i' c/\done<=(jw n i off l g done s).2/\(jw n i off l g done s).2<=l.length/\pg n N (jw n i off l g done s).1
 |0,done,s,aF,W=>⟨rfl,Nat.le_refl _,aF,W⟩
 |g+1,done,s,aF,W=>by
  unfold jw;by_cases h1:done<l.length
  ·rw[if_pos h1];have ai:(off+done)/64<278:=by omega
   have az:=alu (i:=i) (i':=i') (c:=c) hi W.M W.w ai ae;have jD:=Oj (i:=i) W hi ai;by_cases h2:(bI n i ((off+done)/64) s).2=true
   ·rw[if_pos h2]
    obtain⟨an,aD,a7,cw⟩:=Fv jH (i':=i') hi ae g (done+min (64-(off+done)%64) (l.length-done)) ⟨(bI n i ((off+done)/64) s).1.wd,
     over (bI n i ((off+done)/64) s).1.b (((bI n i ((off+done)/64) s).1.bl i (a4 ((off+done)/64))-1)*64+(off+done)%64) ((l.drop done).take (min (64-(off+done)%64) (l.length-done))),
     (bI n i ((off+done)/64) s).1.nd,(bI n i ((off+done)/64) s).1.bl⟩ (by omega) ⟨jD.M,jD.w⟩
    exact⟨an.trans az,by omega,a7,cw⟩
   ·rw[if_neg h2];exact⟨az,Nat.le_refl _,aF,jD⟩
  ·rw[if_neg h1];exact⟨rfl,Nat.le_refl _,aF,W⟩
def Gp(C:ad):Prop:=∀h T n N now us s i (off:Int) x l (sz:Nat),bx h T n N s.wd s.b now us s.nd->cR n N s.wd s.nd s.bl->hg h->nv h T->i<N->us i=true->s.nd i 5=I (sz:Int)->sz<=17792->Bytes h x l->mn x->Ca T x->
 (∀j,rowOf x=some j->j<h.next)->l.length<=140737488351232-> -9223372036854775808<=off->off<9223372036854775808->
 (off<0->C (.fn 38) [.ptr T.a9 0,I ((i+1:Nat):Int),I off,x] h=some (.ret (.bo [I 0,I 22]),h))/\
 (0<=off->l=[]->C (.fn 38) [.ptr T.a9 0,I ((i+1:Nat):Int),I off,x] h=some (.ret (.bo [I 0,I 0]),h))/\
 (l≠[]->17792<=off->C (.fn 38) [.ptr T.a9 0,I ((i+1:Nat):Int),I off,x] h=some (.ret (.bo [I 0,I 27]),h))/\
 (l≠[]->0<=off->off<17792->∃h',aN h h' (λj=>j=T.bJ\/j=T.kd\/j=T.aG)/\hg h'/\
   ((dT n i off.toNat l s).2=0->C (.fn 38) [.ptr T.a9 0,I ((i+1:Nat):Int),I off,x] h=some (.ret (.bo [I 0,I 28]),h')/\
     bx h' T n N (dT n i off.toNat l s).1.wd (dT n i off.toNat l s).1.b now us (dT n i off.toNat l s).1.nd/\cR n N (dT n i off.toNat l s).1.wd (dT n i off.toNat l s).1.nd (dT n i off.toNat l s).1.bl)/\
   ((dT n i off.toNat l s).2≠0->C (.fn 38) [.ptr T.a9 0,I ((i+1:Nat):Int),I off,x] h=some (.ret (.bo [I ((dT n i off.toNat l s).2:Int),I 0]),h')/\
     bx h' T n N (dT n i off.toNat l s).1.wd (dT n i off.toNat l s).1.b now us (grown (dT n i off.toNat l s).1.nd i (max sz (off.toNat+(dT n i off.toNat l s).2)) now)/\
     cR n N (dT n i off.toNat l s).1.wd (grown (dT n i off.toNat l s).1.nd i (max sz (off.toNat+(dT n i off.toNat l s).2)) now) (dT n i off.toNat l s).1.bl))
theorem aBr{C:ad}(gf:20000<=lf)(fo:mq C)(nw:su C)(jP:FN C)(xd:B8 C)(Ml:Gq C){off:Int}{x:J}{l:List Nat}{sz:Nat}(A:bx h T n N s.wd s.b now us s.nd)(M:cR n N s.wd s.nd s.bl)(jC:hg h)(O:nv h T)(hi:i<N)(hu:us i=true)(dV:s.nd i 5=I (sz:Int))(td:sz<=17792)(B:Bytes h x l)(xT:mn x)(nN:Ca T x)
 (ao:∀j,rowOf x=some j->j<h.next)(kE:l.length<=140737488351232)(dH: -9223372036854775808<=off)(dn:off<9223372036854775808):
 (off<0->rF C lf (.ptr T.a9 0) (I ((i+1:Nat):Int)) (I off) x h=some (.ret (.bo [I 0,I 22]),h))/\
 (0<=off->l=[]->rF C lf (.ptr T.a9 0) (I ((i+1:Nat):Int)) (I off) x h=some (.ret (.bo [I 0,I 0]),h))/\
 (l≠[]->17792<=off->rF C lf (.ptr T.a9 0) (I ((i+1:Nat):Int)) (I off) x h=some (.ret (.bo [I 0,I 27]),h))/\
 (l≠[]->0<=off->off<17792->∃h',aN h h' (λj=>j=T.bJ\/j=T.kd\/j=T.aG)/\hg h'/\
   ((dT n i off.toNat l s).2=0->rF C lf (.ptr T.a9 0) (I ((i+1:Nat):Int)) (I off) x h=some (.ret (.bo [I 0,I 28]),h')/\
     bx h' T n N (dT n i off.toNat l s).1.wd (dT n i off.toNat l s).1.b now us (dT n i off.toNat l s).1.nd/\cR n N (dT n i off.toNat l s).1.wd (dT n i off.toNat l s).1.nd (dT n i off.toNat l s).1.bl)/\
   ((dT n i off.toNat l s).2≠0->rF C lf (.ptr T.a9 0) (I ((i+1:Nat):Int)) (I off) x h=some (.ret (.bo [I ((dT n i off.toNat l s).2:Int),I 0]),h')/\
     bx h' T n N (dT n i off.toNat l s).1.wd (dT n i off.toNat l s).1.b now us (grown (dT n i off.toNat l s).1.nd i (max sz (off.toNat+(dT n i off.toNat l s).2)) now)/\
     cR n N (dT n i off.toNat l s).1.wd (grown (dT n i off.toNat l s).1.nd i (max sz (off.toNat+(dT n i off.toNat l s).2)) now) (dT n i off.toNat l s).1.bl)):=by
 have k3:=A.hW;have bd:=fo h T n N s.wd s.b now us s.nd ((i+1:Nat):Int) A (by omega) (by omega);rw[DU hi hu,if_pos rfl,show((i+1:Nat):Int).toNat-1=i by omega] at bd;have bY:decide ((0:Int)≠0)=false:=rfl;have hlen:=λ(h:U) (x:J) (l:List Nat) (B:Bytes h x l)=>qM (P:=ax) Tryd.underlying24 B
 have pre:rF C lf (.ptr T.a9 0) (I ((i+1:Nat):Int)) (I off) x h=wv C lf qi (some (.ptr T.a9 0)) (some (I off)) (some x) (some (.ptr T.aG (i*308))) h:=by
  unfold rF JD JC JB JA;simp only[cg,cf,kV,bd,sO,List.getElem?_cons_zero,List.getElem?_cons_succ];unfold Jz Jy;simp only[cg,cf,Cf,bY,o4]
 rw[pre];refine⟨λag=>?_,λag aJ=>?_,λaJ ag=>?_,λaJ bR b2=>?_⟩
 ·unfold wv Be qi;simp only[aE,bw ag]
 ·have d1:decide (off<0)=false:=bq (by omega);have d2:decide ((l.length:Int)=0)=true:=bw (by rw[aJ];rfl);unfold wv Be qi;simp only[aE,d1,hlen h x l B,d2]
 ·have d1:decide (off<0)=false:=bq (by omega);have Dp:0<l.length:=List.length_pos_iff.2 aJ;have d2:decide ((l.length:Int)=0)=false:=bq (by omega);unfold wv Be qi;simp only[aE,d1,hlen h x l B,d2,bw ag]
 ·obtain⟨o,rfl⟩:∃o:Nat,off=o:=⟨off.toNat,by omega⟩;rw[Int.toNat_natCast];have d1:decide ((o:Int)<0)=false:=bq (by omega);have Dp:0<l.length:=List.length_pos_iff.2 aJ;have d2:decide ((l.length:Int)=0)=false:=bq (by omega);have d3:decide ((17792:Int)<=(o:Int))=false:=bq (by omega);have aj:IntKind.i64.wrap (17792-(o:Int))=((17792-o:Nat):Int):=cH (by omega);have vP:min (l.length:Int) ((17792-o:Nat):Int)=((min l.length (17792-o):Nat):Int):=by omega
  obtain⟨bW,ei,fJ,oO⟩:=ajy (P:=ax) (t:=24) (q:=min l.length (17792-o)) (kd:= .i64) Tryd.underlying24 (s:=1) (by kernel_rfl) B xT (by omega)
  have vT:rowOf bW=rowOf x:=by
   rcases B.2 with⟨_,rfl⟩|⟨k1,ob,cap,lo,m,rfl,_,_⟩
   ·simp at Dp
   ·obtain⟨sG,iE,ic,_⟩:=age (P:=ax) (t:=24) (q:=min l.length (17792-o)) (kd:= .i64) Tryd.underlying24 (s:=1) (by kernel_rfl) xT (by omega);rw[ic] at ei;cases ei;rfl
  have ft:(ew o l).length=min l.length (17792-o):=by simp[ew]
  obtain⟨h1,c5,b7,hO,xc,aL⟩:=aBV (lf:=lf) (N:=N) (now:=now) (us:=us) nw jP xd hi (off:=o) (x:=bW) (l:=ew o l) oO (λj aa=>nN j (by rw[<- vT];exact aa)) (by omega) (λx0 x2 aW x12 h=>yT C lf qi x0 x2 aW x12 h)
   (ew o l).length 0 (by omega) (by omega) lf (by omega) h s A M jC O fJ (λj aa=>ao j (by rw[<- vT];exact aa))
  have hw:jw n i o (ew o l) (ew o l).length 0 s=dT n i o l s:=rfl;rw[hw] at c5 b7 hO
  have mid:wv C lf qi (some (.ptr T.a9 0)) (some (I (o:Int))) (some x) (some (.ptr T.aG (i*308))) h=yT C lf qi (some (.ptr T.a9 0)) (some (I (o:Int))) (some (.ptr T.aG (i*308))) (some (I ((dT n i o l s).2:Int))) h1:=by
   unfold wv Be;simp only[aE,d1,hlen h x l B,d2,d3];unfold S9 S8;simp only[aE,hlen h x l B,aj,Lh,vP,ei];unfold S7 S6 S5;exact c5
  rw[mid];obtain⟨cQ,cL,gy,kO⟩:=Fv (n:=n) (N:=N) (i:=i) (off:=o) (l:=ew o l) (by omega) (i':=i) (c:=5) hi (by omega) (ew o l).length 0 s (by omega) ⟨M,A.st.iI⟩;rw[hw] at cQ cL gy kO;by_cases a1:(dT n i o l s).2=0
  ·refine⟨h1,aL,xc,λ_=>⟨?_,b7,hO⟩,λe=>absurd a1 e⟩;have d4:decide (((dT n i o l s).2:Int)=0)=true:=bw (by omega);unfold yT qi;simp only[aE,d4]
  ·have d4:decide (((dT n i o l s).2:Int)=0)=false:=bq (by omega);have mG:=b7.ec i 5 hi (by omega);rw[cQ,dV] at mG;have jl:IntKind.i64.wrap ((o:Int)+((dT n i o l s).2:Int))=((o+(dT n i o l s).2:Nat):Int):=cH (by omega);have anu:max (sz:Int) ((o+(dT n i o l s).2:Nat):Int)=((max sz (o+(dT n i o l s).2):Nat):Int):=by omega
   generalize yl:max sz (o+(dT n i o l s).2)=KI at *;have By:=wG b7 (i:=i) (c:=5) (y:=I (KI:Int)) hi (by omega) rfl rfl;have c9:=b7.setNode (i:=i) (c:=5) (y:=I (KI:Int)) hi (by omega) (by omega);have bF:aN h1 (h1.set T.aG (i*308+5) [I (KI:Int)]) (· =T.aG):=fO rfl;generalize iT:h1.set T.aG (i*308+5) [I (KI:Int)]=h2 at *;obtain⟨h3,cl,e9,gl,dp⟩:=Ml h2 T n N _ _ now us _ i c9 hi;have WO:aN h1 h3 (· =T.aG):=bF.trans dp;refine⟨h3,aL.trans (WO.eb λ_ e=> .inr (.inr e)),xc.dx WO (Nat.lt_of_lt_of_le O.g aL.next) (λe=>O.aH.n e),λe=>absurd e a1,λ_=>⟨?_,e9,hO.grown _ _ _⟩⟩;have az:i*308+1+4=i*308+5:=Nat.add_assoc _ 1 4;unfold yT qi;simp only[aE,d4,az,mG,jl,aCP,anu,By,cl]
end
noncomputable section
variable{C:ad}{lf:Nat}{bc a6 gi hJ gj hK qF qG qH qI qJ qK qC qD qE:gD}{ar:kR}
noncomputable def qn:ca ax:=⟨40,Tryd.f40,λr=>bif Nat.beq r 13 then .ord [0,1,2,4,5,6,7,8,3,9,10] [(9,[3])] else .text,Tryd.func40,by kernel_rfl,by kernel_rfl,by kernel_rfl,by kernel_rfl⟩
noncomputable def nI(aM:O)(h:U):ab:=
 ob aM λa=>some (.ret a,h)
def Bg(C:ad)(lf:Nat)(r:aC)(x0 x2 x7:O)(h:U):ab:=
 ob x7 λa=>ob x2 λb=>ed 1 a λa=>ob (b5 4 a) λa=>ob (st 1 a b h) λk=>a3 C 77 x0 x7 k λa=>r (bE 0)
theorem atQ{r:aC}:∀F h,au qn C lf [1,1,1,1,1] F h bc (aX r 6) ar=bB (Bg C lf r) 0 2 7 F h:=by
 intro F h;kernel_rfl
def ED(C:ad)(lf:Nat)(n:bG)(x0 x2 x7:O)(h:U):ab:=
 cB .rem 3 x2 (I 64) λa=>eF .gtr 3 a (I 0) (ob x7 λb=>cB .quo 3 x2 (I 64) λc=>da C 76 [b,c] h λb k=>ob (eC b) λb=>ob (b0 b k) λb=>eF .gtr 3 b (I 0) (gO 0 x0 λc=>cm .sub 3 b (I 1) λb=>cm .sub 3 (I 64) a λd=>ob (b0 c k) λg=>b2 (mU ax 24 d d k) λd l=>fg (fY [(3,cv (some c))] k l [3]) (dP (C (.fn 18) [g,b,a,d] l) λa=>n x0 x2 x7)) (n x0 x2 x7 k)) (n x0 x2 x7 h)
theorem atS{n:bG}:∀F h,au qn C lf [1,1,1,1,0] F h (bB n 0 2 7) a6 ar=bB (ED C lf n) 0 2 7 F h:=by
 intro F h;kernel_rfl
def aeC(C:ad)(lf:Nat)(r:aC)(x0 x2 x7:O)(h:U):ab:=
 ED C lf (Bg C lf r) x0 x2 x7 h
theorem atT{r:aC}:∀F h,au qn C lf [1,1,1,1] F h bc (aX r 6) ar=bB (aeC C lf r) 0 2 7 F h:=bn (by kernel_rfl) atQ atS
def Tb(C:ad)(lf:Nat)(n:bG)(x0 x2 x7:O)(h:U):ab:=
 ob x0 λa=>ob x7 λb=>cB .add 3 x2 (I 64) λc=>cm .sub 3 c (I 1) λc=>cm .quo 3 c (I 64) λc=>da C 78 [a,b,c] h λa=>n x0 x2 x7
theorem atU{n:bG}:∀F h,au qn C lf [1,1,1,0] F h (bB n 0 2 7) a6 ar=bB (Tb C lf n) 0 2 7 F h:=by
 intro F h;kernel_rfl
def Bh(C:ad)(lf:Nat)(r:aC)(x0 x2 x7:O)(h:U):ab:=
 Tb C lf (aeC C lf r) x0 x2 x7 h
theorem atV{r:aC}:∀F h,au qn C lf [1,1,1] F h bc (aX r 6) ar=bB (Bh C lf r) 0 2 7 F h:=bn (by kernel_rfl) atT atU
def wx(C:ad)(lf:Nat)(n:bG)(r:aC)(x0 x2 x7 aT:O)(h:U):ab:=
 gT .neq 26 aT (I 0) (ob aT λa=>r (some a) h) (gT .lss 3 x2 (I 0) (r (bE 22) h) (gT .gtr 3 x2 (I 17792) (r (bE 27) h) (n x0 x2 x7 h)))
theorem atW{n:bG}{r:aC}:∀F h,au qn C lf [1,1,0] F h (bB n 0 2 7) (aX r 6) ar=bm (wx C lf n r) 0 2 7 8 F h:=by
 intro F h;kernel_rfl
def aeD(C:ad)(lf:Nat)(r:aC)(x0 x2 x7 aT:O)(h:U):ab:=
 wx C lf (Bh C lf r) r x0 x2 x7 aT h
theorem atX{r:aC}:∀F h,au qn C lf [1,1] F h bc (aX r 6) ar=bm (aeD C lf r) 0 2 7 8 F h:=bn (by kernel_rfl) atV atW
def JE(C:ad)(lf:Nat)(n:br)(x0 x1 x2:O)(h:U):ab:=
 a3 C 74 x0 x1 h λa k=>dn a λa b=>n x0 x2 (some a) (some b) k
theorem atY{n:br}:∀F h,au qn C lf [1,0] F h (bm n 0 2 7 8) a6 ar=bB (JE C lf n) 0 1 2 F h:=by
 intro F h;kernel_rfl
def JF(C:ad)(lf:Nat)(r:aC)(x0 x1 x2:O)(h:U):ab:=
 JE C lf (aeD C lf r) x0 x1 x2 h
theorem atZ{r:aC}:∀F h,au qn C lf [1] F h bc (aX r 6) ar=bB (JF C lf r) 0 1 2 F h:=bn (by kernel_rfl) atX atY
noncomputable def JG(C:ad)(lf:Nat)(n:bG)(x0 x1 x2:O)(h:U):ab:=
 n x0 x1 x2 h
theorem at0{n:bG}:∀F h,au qn C lf [0] F h (bB n 0 1 2) a6 ar=bB (JG C lf n) 0 1 2 F h:=by
 intro F h;kernel_rfl
def JH(C:ad)(lf:Nat)(r:aC)(x0 x1 x2:O)(h:U):ab:=
 JG C lf (JF C lf r) x0 x1 x2 h
theorem at1{r:aC}:∀F h,au qn C lf [] F h bc (aX r 6) ar=bB (JH C lf r) 0 1 2 F h:=bn (by kernel_rfl) atZ at0
def sS(C:ad)(lf:Nat)(al an aD:J)(h:U):ab:=JH C lf nI (some al) (some an) (some aD) h
def aat:cK ax:=nx qn sS (λC lf al an aD h=>c8 (K:=(aX nI 6)) (by kernel_rfl) (Eq.trans (at1 _ h) (by kernel_rfl))) (by kernel_rfl)
def ZK:ca ax:=dv 51 Tryd.f51 Tryd.func51 (by kernel_rfl)
noncomputable def NO(bV e2:O)(h:U):ab:=
 ob bV λa=>ob e2 λb=>some (.ret (.bo [a,b]),h)
def Tq(C:ad)(lf:Nat)(r:a0)(x0 x1:O)(h:U):ab:=
 a3 C 74 x0 x1 h λa k=>dn a λa b=>eF .neq 26 b (I 0) (r (some (.val (.slice none 0 0))) (some b) k) (da C 79 [a] k λa=>r (some a) (bE 0))
theorem auA{r:a0}:∀F h,au ZK C lf [] F h bc (bf r 4 5) ar=bf (Tq C lf r) 0 1 F h:=by
 intro F h;kernel_rfl
def CK(C:ad)(lf:Nat)(al an:J)(h:U):ab:=Tq C lf NO (some al) (some an) h
def aaB:cK ax:=hP ZK CK (λC lf al an h=>c8 (K:=(bf NO 4 5)) (by kernel_rfl) (Eq.trans (auA _ h) (by kernel_rfl))) (by kernel_rfl)
def Af:ca ax:=dv 93 Tryd.f93 Tryd.func93 (by kernel_rfl)
noncomputable def Oc(h:U):ab:=
 some (.ret (.bo []),h)
def EX(C:ad)(lf:Nat)(n:br)(aB:cq)(x1 e2 aM x7:O)(h:U):ab:=
 lX .lss 3 x7 aM (ob e2 λa=>r4 1 a x7 h λa=>eF .gtr 3 a (I 0) (ob x1 λb=>ob (b0 b h) λb=>cm .sub 3 a (I 1) λa=>b2 (iJ ax 33 1 [0] [a] h) λa k=>b2 (gA ax .append #[33,33] [b,a] k) λa k=>ob x1 λb=>ob (st 1 b a k) λk=>cB .add 3 x7 (I 1) λa=>n x1 e2 aM (some a) k) (cB .add 3 x7 (I 1) λa=>n x1 e2 aM (some a) h)) (aB h)
theorem aw0{n:br}{aB:cq}:∀F h,au Af C lf [1,0,0] F h (bm n 1 5 6 7) a6 (bS 0 (dZ aB) ar)=bm (EX C lf n aB) 1 5 6 7 F h:=by
 intro F h;kernel_rfl
def AW(C:ad)(lf:Nat)(aB:cq)(k:O×O×O×O->U->ab)(s:O×O×O×O)(h:U):ab:=
 EX C lf (λa b c d=>k (a,b,c,d)) aB s.1 s.2.1 s.2.2.1 s.2.2.2 h
def U6(C:ad)(lf:Nat)(n:br)(x0 x1:O)(h:U):ab:=
 ob x0 λa=>mg 33 a λb=>n x1 (some a) (some b) (bE 0) h
theorem aw1{n:br}:∀F h,au Af C lf [0] F h (bm n 1 5 6 7) a6 ar=bf (U6 C lf n) 0 1 F h:=by
 intro F h;kernel_rfl
def U7(C:ad)(lf:Nat)(n:cq)(x0 x1:O)(h:U):ab:=
 U6 C lf (λa b c d=>bp (AW C lf n) lf (a,b,c,d)) x0 x1 h
theorem aw2{n:cq}:∀F h,au Af C lf [] F h (dZ n) a6 ar=bf (U7 C lf n) 0 1 F h:=bn (b:=b9 Af [1]) (by kernel_rfl) (fX (id:=0) (a:=b9 Af [1,0]) (by kernel_rfl) (gX (g:=λF=>(F 1,F 5,F 6,F 7)) (body:=AW C lf n) (by kernel_rfl) (λk=>(aw0 (n:=λx1 e2 aM x7 h=>k (x1,e2,aM,x7) h))))) (aw1 (n:=λx1 e2 aM x7 h=>bp (AW C lf n) lf (x1,e2,aM,x7) h))
def HP(C:ad)(lf:Nat)(al an:J)(h:U):ab:=U7 C lf Oc (some al) (some an) h
def aa0:cK ax:=hP Af HP (λC lf al an h=>c8 (K:=(dZ Oc)) (by kernel_rfl) (Eq.trans (aw2 _ h) (by kernel_rfl))) (by kernel_rfl)
end
section
variable{lf:Nat}{n N i:Nat}{s:dF}
theorem Zj{n:Nat}{f:Nat->Bool}(h:∀j,j<n->f j=true):((List.range n).filter f).length=n:=by
 rw[List.filter_eq_self.2 λj aa=>h j (List.mem_range.1 aa)];simp
def yL:Nat->Nat->J:=ie (λ_=>fr) 0 (mc ((0+1:Nat):Int) 0 0 33152 0)
def aBC:Nat->Bool:=c3 (λ_=>false) 0 true
def s1:dF:=⟨λ_=>0,λ_=>0,yL,λ_ _=>0⟩
end
end Go.Proofs.YtomialandfplkaaDoor.Eva
namespace Go.Xe
section
variable{H:Type}{enc:TypeId×Value->H}
end
section
open Go.ChangeShapes Go.WideShapes Go.ChangeAt Go.RowKit
section
variable{P:Program}{H:Type}{enc:TypeId×Value->H}{w:World}
theorem ag2{e:TypeId}:∀{l:List (DataW H)} {d:DataW H},d∈l->∀n∈d.weights P e,n∈DataW.weightsAll P e l
 |hy::r,d,aF,n,aO=>by
  simp only[DataW.weightsAll,List.mem_append];rcases List.mem_cons.1 aF with rfl|h
  ·exact Or.inl aO
  ·exact Or.inr (ag2 h n aO)
def mv(P:Program)(t:TypeId)(d:DataW H):Prop:=∀n∈d.weights P t,n<=140737488351232
theorem aBX{cX:List TypeId}{bg:List (DataW H)}{j:Nat}{t:TypeId}{d:DataW H}(h:(DataW.weightsEach P cX bg).all (· <=reachBytes)=true)(aK:cX[j]?=some t)(aF:bg[j]?=some d):mv P t d:=λn aO=>by
 have:=List.all_eq_true.1 h _ (DataW.weights_mem_each aK aF n aO)
 have aI:reachBytes=140737488351232:=rfl;rw[aI] at this;simpa using this
theorem mv.len{t e:TypeId}{el sp:List (DataW H)}(h:mv P t (.slice el sp))(hu:P.underlying t=some (.slice e)):(el.length+sp.length)*P.bytesOf e<=140737488351232:=
 h _ (by simp[DataW.weights,hu])
theorem mv.elem{t e:TypeId}{el sp:List (DataW H)}(h:mv P t (.slice el sp))(hu:P.underlying t=some (.slice e)){x:DataW H}(ao:x∈el):mv P e x:=λn aO=>
 h n (by
   simp only[DataW.weights,hu,List.mem_cons,List.mem_append]
   exact .inr (.inl (ag2 ao n aO)))
theorem mv.field{t:TypeId}{fD:Array Field}{bg:List (DataW H)}(h:mv P t (.agg bg))(hu:P.underlying t=some (.struct fD)){i:Nat}{f:Field}{d:DataW H}(ak:fD[i]?=some f)(aF:bg[i]?=some d):mv P f.type d:=λn aO=>
 h n (by
   simp only[DataW.weights,hu]
   exact DataW.weights_mem_each (j:=i) (by simp[ak]) aF n aO)
theorem mv.str{t:TypeId}{bytes:List UInt8}(h:mv P t (.lit (.string bytes):DataW H)):bytes.length<=140737488351232:=h _ (by simp[DataW.weights])
theorem azQ{t e s fuel:Nat}{v:Value}{d:DataW H}{ps:List MemPlace}(aK:P.underlying t=some (.slice e))(aj:P.cellsOf e=s)(h1:1<=s)
 (ak:DataW.trod enc P w 0 (λ_=>true) true fuel t [v]=some (d,ps)):
 uA w.heap.size v=lift w.heap.size v/\((lift w.heap.size v= .val (.slice none 0 0)/\d= .nil)\/(lift w.heap.size v= .kL 0/\d= .slice [] [])\/
  ∃(id off len cap:Nat) (m:o8) (el sp:List (DataW H)),lift w.heap.size v= .aY id off len (some cap) 0/\len<=cap/\(hj w).mt id=some m/\d= .slice el sp/\el.length=len/\
   ∀i,i<len->∃(cs:List Value) (sT:Nat) (hy:DataW H) (qW:List MemPlace),cs.length=s/\el[i]?=some hy/\(∀j,j<s->(hj w).cell id (off+i*s+j)=(cs[j]?).map (lift w.heap.size))/\
    DataW.trod enc P w 0 (λ_=>true) true sT e cs=some (hy,qW)):=by
 subst aj;rcases DataW.trod_slice aK ak with⟨ey,ao⟩|⟨a,len,cap,elems,rest,n,_,ey,ao,_,aJ,hm,hlen,nb,vU,_⟩
 ·simp only[List.cons.injEq,and_true] at ey;subst ey;exact⟨rfl,.inl ⟨rfl,(Prod.mk.inj ao).1⟩⟩
 ·simp only[List.cons.injEq,and_true] at ey;subst ey;refine⟨rfl,.inr ?_⟩;have aF:=(Prod.mk.inj ao).1;obtain⟨qw,DA⟩:=vU rfl;by_cases h0:len=0/\cap=0
  ·obtain⟨rfl,rfl⟩:=h0;have az:elems=[]:=List.length_eq_zero_iff.1 hlen;have aw:rest=[]:=List.length_eq_zero_iff.1 (by simpa using qw);rw[az,aw] at aF;exact .inl ⟨rfl,aF⟩
  ·have aA:0<cap:=by omega
   obtain⟨id,off,spot⟩:=a
   have first:∃cs,w.cells? 0 (Addr.add ⟨id,off,spot⟩ 0) (P.cellsOf e)=some cs:=by
    by_cases um:0<len
    ·have h2:=nb 0 um;have h3:0<elems.length:=by omega
     rw[List.getElem?_eq_getElem h3] at h2;obtain⟨cs,g1,_⟩:=Option.bind_eq_some_iff.1 h2;exact⟨cs,by simpa using g1⟩
    ·have um:len=0:=by omega
     have h2:=DA 0 (by omega);have h3:0<rest.length:=by omega
     rw[List.getElem?_eq_getElem h3] at h2;obtain⟨cs,g1,_⟩:=Option.bind_eq_some_iff.1 h2;rw[um] at g1;exact⟨cs,by simpa using g1⟩
   obtain⟨c0,ma⟩:=first
   obtain⟨_,abY,h6⟩:=World.cells?_some ma;have De:=h6 0 (by omega);have anr:0<c0.length:=by omega
   rw[List.getElem?_eq_getElem anr] at De;have aj:spot=none:=Mu (Mu (World.cell?_spot De));subst aj;rw[xh,xh] at De;have s6:id<w.heap.size:=X3 De;obtain⟨m,Px⟩:=acq De;refine .inr ⟨id,off,len,cap,m,_,_,ac4 (off:=off) s6 h0,aJ,Px,aF,by simpa using hlen,λi hi=>?_⟩;have h2:=nb i hi;have h3:i<elems.length:=by omega
   rw[List.getElem?_eq_getElem h3] at h2;obtain⟨cs,g1,g2⟩:=Option.bind_eq_some_iff.1 h2;obtain⟨_,k1,k2⟩:=World.cells?_some g1;refine⟨cs,n,elems[i].1,elems[i].2,k1,by simp[List.getElem?_eq_getElem h3],λj aa=>?_,g2⟩
   have:=k2 j aa
   rw[xh,xh] at this;rw[PO,this]
theorem alr{t fuel i:Nat}{fD:Array Field}{cs:List Value}{d:DataW H}{ps:List MemPlace}{f:Field}(aK:P.underlying t=some (.struct fD))(h:DataW.trod enc P w 0 (λ_=>true) true fuel t cs=some (d,ps))(ak:fD[i]?=some f):
 ∃(sT:Nat) (bg:List (DataW H)) (hy:DataW H) (qW:List MemPlace),d= .agg bg/\bg[i]?=some hy/\DataW.trod enc P w 0 (λ_=>true) true sT f.type ((cs.drop f.offset).take (P.cellsOf f.type))=some (hy,qW):=by
 obtain⟨xs,n,_,ao,_,aJ,gq⟩:=DataW.trod_struct aK h;have h1:=gq i f ak
 have hi:i<xs.length:=by
  rw[aJ];exact(Array.getElem?_eq_some_iff.1 ak).1
 rw[List.getElem?_eq_getElem hi] at h1;exact⟨n,_,xs[i].1,xs[i].2,(Prod.mk.inj ao).1,by simp[List.getElem?_eq_getElem hi],h1⟩
theorem ap3{t fuel o:Nat}{cs:List Value}{d:DataW H}{ps:List MemPlace}(aJ:o<cs.length)(h:DataW.trod enc P w 0 (λ_=>true) true fuel t ((cs.drop o).take 1)=some (d,ps)):
 ∃v,cs[o]?=some v/\DataW.trod enc P w 0 (λ_=>true) true fuel t [v]=some (d,ps):=by
 have:(cs.drop o).take 1=[cs[o]]:=by
  rw[List.drop_eq_getElem_cons aJ];rfl
 rw[this] at h;exact⟨cs[o],List.getElem?_eq_getElem aJ,h⟩
theorem sR{t ty fuel i o:Nat}{fD:Array Field}{cs:List Value}{d:DataW H}{ps:List MemPlace}{f:Field}(aK:P.underlying t=some (.struct fD))(h:DataW.trod enc P w 0 (λ_=>true) true fuel t cs=some (d,ps))(ak:fD[i]?=some f)
 (te:f.type=ty)(aq:f.offset=o)(ae:P.cellsOf ty=1)(aJ:o<cs.length):
 ∃(v:Value) (sT:Nat) (bg:List (DataW H)) (hy:DataW H) (qW:List MemPlace),cs[o]?=some v/\d= .agg bg/\bg[i]?=some hy/\DataW.trod enc P w 0 (λ_=>true) true sT ty [v]=some (hy,qW):=by
 obtain⟨Np,bg,hy,qW,h1,h2,h3⟩:=alr aK h ak;rw[te,aq,ae] at h3;obtain⟨v,aU,bA⟩:=ap3 aJ h3;exact⟨v,Np,bg,hy,qW,aU,h1,h2,bA⟩
theorem mv.sR{t ty i:Nat}{fD:Array Field}{f:Field}{bg:List (DataW H)}{d:DataW H}(h:mv P t (.agg bg))(hu:P.underlying t=some (.struct fD))(ak:fD[i]?=some f)(te:f.type=ty)(aF:bg[i]?=some d):mv P ty d:=by
 rw[<- te];exact h.field hu ak aF
theorem yn{t fuel:Nat}{k:IntKind}{v:Value}{d:DataW H}{ps:List MemPlace}(aK:P.underlying t=some (.int k))(h:DataW.trod enc P w 0 (λ_=>true) true fuel t [v]=some (d,ps)):
 ∃n,v= .int k n/\k.min<=n/\n<=k.max:=by
 obtain⟨n,h1,_,hw⟩:=DataW.trod_int aK h;simp only[List.cons.injEq,and_true] at h1;exact⟨n,h1,by simpa[Lit.wf] using hw⟩
theorem azN{t e s j:Nat}{v:Value}{d:DataW H}{ps:List MemPlace}{r:Reach}{qb:Nat}{cX:List TypeId}{bg:List (DataW H)}(aK:P.underlying t=some (.slice e))(aj:P.cellsOf e=s)(h1:1<=s)
 (rP:Value.okWide P w r qb t v)(h:DataW.Trod enc P w 0 (λ_=>true) true t v d ps)(PK:cX[j]?=some t)(Pg:bg[j]?=some d)(a1:(DataW.weightsEach P cX bg).all (· <=reachBytes)=true):
 FL (uA w.heap.size v)\/
  ∃(id off len cap:Nat) (m:o8),uA w.heap.size v= .aY id off len (some cap) 0/\len<=cap/\(hj w).mt id=some m/\len*P.bytesOf e<=140737488351232/\
   ∀i,i<len->∃(cs:List Value) (sT:Nat) (hy:DataW H) (qW:List MemPlace),cs.length=s/\mv P e hy/\(∀j,j<s->(hj w).cell id (off+i*s+j)=(cs[j]?).map (lift w.heap.size))/\
    DataW.trod enc P w 0 (λ_=>true) true sT e cs=some (hy,qW):=by
 have acs:=aBX a1 PK Pg;obtain⟨fuel,ak⟩:=h;obtain⟨al,aoX,rz,rfl⟩:=okWide_slice aK rP;have ak:DataW.trod enc P w 0 (λ_=>true) true fuel t [.slice al aoX rz]=some (d,ps):=ak;obtain⟨aB,az⟩:=azQ aK aj h1 ak;rw[aB];rcases az with⟨az,rfl⟩|⟨az,rfl⟩|⟨id,off,len,cap,m,el,sp,az,abY,hm,rfl,hlen,gq⟩
 ·exact .inl (.inl az)
 ·exact .inl (.inr ⟨_,az⟩)
 ·have h3:=acs.len aK;have aU:len*P.bytesOf e<=(el.length+sp.length)*P.bytesOf e:=Nat.mul_le_mul_right _ (by omega);refine .inr ⟨id,off,len,cap,m,az,abY,hm,by omega,λi hi=>?_⟩;obtain⟨cs,sT,hy,qW,g1,g2,g3,g4⟩:=gq i hi;exact⟨cs,sT,hy,qW,g1,acs.elem aK (List.mem_of_getElem? g2),g3,g4⟩
theorem ajB{t e fuel:Nat}{v:Value}{d:DataW H}{ps:List MemPlace}(aK:P.underlying t=some (.slice e))(he:P.underlying e=some (.int .u8))(ae:P.cellsOf e=1)(ag:P.bytesOf e=1)
 (ak:DataW.trod enc P w 0 (λ_=>true) true fuel t [v]=some (d,ps))(hw:mv P t d):
 ∃l:List Nat,Bytes (hj w) (lift w.heap.size v) l/\mn (lift w.heap.size v)/\l.length<=140737488351232:=by
 obtain⟨l,B,C,_,aF⟩:=ajA aK he ae ak;refine⟨l,B,C,?_⟩;rcases aF with⟨_,rfl⟩|⟨el,sp,rfl,aJ⟩
 ·simp
 ·have:=hw.len aK
  rw[ag] at this;omega
end
theorem X8{α:Type}{p:Nat->α->Prop}:∀{n:Nat},(∀i,i<n->∃a,p i a)->∃L:List α,L.length=n/\∀i (hi:i<L.length),p i L[i]
 |0,_=>⟨[],rfl,λi hi=>by simp at hi⟩
 |n+1,h=>by
  obtain⟨L,h1,h2⟩:=X8 (p:=p) (n:=n) λi hi=>h i (by omega)
  obtain⟨a,bX⟩:=h n (by omega);refine⟨L++[a],by simp[h1],λi hi=>?_⟩;by_cases aO:i<L.length
  ·rw[List.getElem_append_left aO];exact h2 i aO
  ·have:i=n:=by simp at hi;omega
   subst this;rw[List.getElem_append_right (by omega)];simpa[h1] using bX
end
section
variable{P:Program}{t u e b:Nat}{h:U}{c:J}{n k off len lo:Nat}{cap:Option Nat}
structure Lq (P:Program) (t u e b:Nat) (c:J):Prop where
 hu:P.underlying t=some (.slice e)
 aj:dN P e=some 1
 a1:∃z,hE P e=some z/\(c2 z).cells=[c]
 ag:n8 P e=some b
 hi:∃k,P.underlying u=some (.int k)
 h1:c.one=true
theorem aCO{kd:IntKind}(T:Lq P t u e b c)(h1:n<=140737488355328)(h2:n*b<=140737488355328):
 gA P .append #[t,u] [.aY k off len cap lo,.int kd (n:Int)] h=ao (lF e 1 b k off len cap lo n (List.replicate n c) h.x0):=by
 obtain⟨hu,aj,⟨z,a1,qA⟩,ag,⟨n0,hi⟩,kB⟩:=T
 have aB:iq P .append #[t,u] [.aY k off len cap lo,.int kd (n:Int)] h.x0=pS P t (.aY k off len cap lo) (.int kd (n:Int)) h.x0:=by
  show(match P.underlying u with|some d=>bif r3 d then oT P t _ _ h.x0 else(bif u0 d then pS P t _ _ h.x0 else none)|none=>none)=_;simp only[hi,r3,u0,cond_false,cond_true]
 have aQ:(Nat.beq 1 1&&(c.one&&(Nat.ble n 140737488355328&&Nat.ble (n*b) 140737488355328)))=true:=by
  rw[kB,Nat.ble_eq_true_of_le h1,Nat.ble_eq_true_of_le h2];rfl
 unfold gA;rw[aB]
 show ao (match P.underlying t,J.int kd (Int.ofNat n) with
  |some (.slice e),.int _ (.ofNat n)=>match dN P e,hE P e,n8 P e with
   |some sz,some z,some b=>match (c2 z).cells with
    | [c]=>bif Nat.beq sz 1&&(c.one&&(Nat.ble n 140737488355328&&Nat.ble (n*b) 140737488355328)) then lF e 1 b k off len cap lo n (List.replicate n c) h.x0 else none
    |_=>none
   |_,_,_=>none
  |_,_=>none)=_
 simp only[hu,aj,a1,ag,qA,aQ,cond_true]
theorem XB{sz cp N:Nat}{news:List J}(hw:h.wr k N)(k3:off+(len+n)*sz<=N)(ae:len+n<=cp):
 ao (lF e sz b k off len (some cp) lo n news h.x0)=some (.aY k off (len+n) (some cp) lo,h.set k (off+len*sz) news):=by
 obtain⟨m,hm,aI,aO⟩:=hw;unfold U.mt at hm;cases aq:h.aS.get k with
 |none=>simp[aq] at hm
 |some o=>
  simp only[aq,Option.some.injEq] at hm;subst hm;simp only[bD.mt] at aI aO;have bR:Nat.ble (len+n) cp=true:=Nat.ble_eq_true_of_le ae;have b2:(Nat.ble (off+(len+n)*sz) o.n&&!o.ro)=true:=by rw[Nat.ble_eq_true_of_le (by omega),aI];rfl
  simp only[lF,U.sf,aq,force_eq,bR,cond_true,pk,b2];unfold U.set;simp only[aq,Eb,aI];rfl
theorem aiN{sz cp N d:Nat}{y:J}{news:List J}(T:sk P t u e sz d)(he:kU h.x0 sz y=some (n,news))(gg:news.length=n*sz)(iW:eA news=true)(hw:h.wr k N)(k3:off+(len+n)*sz<=N)(ae:len+n<=cp):
 gA P .append #[t,u] [.aY k off len (some cp) lo,y] h=some (.aY k off (len+n) (some cp) lo,h.set k (off+len*sz) news):=
 (Lg T he gg iW).trans (XB hw k3 ae)
theorem aiM{kd:IntKind}{cp N:Nat}(T:Lq P t u e b c)(h1:n<=140737488355328)(h2:n*b<=140737488355328)(hw:h.wr k N)(k3:off+(len+n)<=N)(ae:len+n<=cp):
 gA P .append #[t,u] [.aY k off len (some cp) lo,.int kd (n:Int)] h=some (.aY k off (len+n) (some cp) lo,h.set k (off+len) (List.replicate n c)):=by
 have:=(aCO (h:=h) (k:=k) (off:=off) (len:=len) (cap:=some cp) (lo:=lo) (kd:=kd) T h1 h2).trans (XB hw (by omega) ae)
 rwa[Nat.mul_one] at this
end
end Go.Xe
namespace Go.Proofs.YtomialandfplkaaDoor.Eva
open Go.Xe
def oi(s:dF)(i p:Nat):Nat:=if s.bl i (a4 (p/64))=0 then 0 else s.b ((s.bl i (a4 (p/64))-1)*64+p%64)
def qe(s:dF)(i off n:Nat):List Nat:=(List.range n).map λj=>oi s i (off+j)
theorem Ym(s:dF)(i off n:Nat):(qe s i off n).length=n:=by simp[qe]
theorem akf(s:dF)(i off:Nat){n j:Nat}(aa:j<n):(qe s i off n).getD j 0=oi s i (off+j):=by simp[qe,List.getD,aa]
theorem aiI:sk ax 24 24 5 1 1:=
 ⟨Tryd.underlying24,by kernel_rfl,⟨.int .u8 0,by kernel_rfl,rfl⟩,by kernel_rfl,⟨_,Tryd.underlying24,rfl⟩,Nat.le_refl 1⟩
theorem aiL:Lq ax 24 3 5 1 (.int .u8 0):=
 ⟨Tryd.underlying24,by kernel_rfl,⟨.int .u8 0,by kernel_rfl,rfl⟩,by kernel_rfl,⟨_,Tryd.underlying3⟩,rfl⟩
theorem aC4{n j:Nat}(aa:j<n):(List.replicate n (J.int .u8 0))[j]?=some (.int .u8 0):=by simp[aa]
section
variable{lf:Nat}{h:U}{T:dU}{n N:Nat}{now:Int}{us:Nat->Bool}{s:dF}{i:Nat}
theorem aN.hN{h h1 h2:U}{k:Nat}(a:aN h h1 (λ_=>False))(b:aN h1 h2 (· =k))(ai:h.next<=k):aN h h2 (λ_=>False):=
 ⟨b.aH.trans a.aH,Nat.le_trans a.next b.next,λj aa _=>(b.same j (Nat.lt_of_lt_of_le aa a.next) (by omega)).trans (a.same j aa (λe=>e)),λak=>b.dx (a.dx ak)⟩
theorem bx.jI{wd b:Nat->Nat}{nd:Nat->Nat->J}{h':U}(A:bx h T n N wd b now us nd)(F:aN h h' (λ_=>False)):bx h' T n N wd b now us nd:=
 A.frame F.next λj aa=>F.same j (by
  rcases aa with rfl|rfl|rfl|rfl
  ·exact A.lt
  ·exact A.st.wa
  ·exact A.st.v8
  ·exact A.la) (λe=>e)
theorem ayj{C:ad}(nw:su C)(B5:Gg C)(hi:i<N){h0:U}{off cap:Nat}(A:bx h0 T n N s.wd s.b now us s.nd)(M:cR n N s.wd s.nd s.bl)(jH:off+cap<=17792){k:Nat}(vN:h0.next<=k)(aB:aC):
 ∀(g d:Nat),cap-d<=g->d<=cap->∀f,g<f->∀h,aN h0 h (λ_=>False)->k<h.next->h.wr k cap->(∀j,j<d->h.cell k j=some (.int .u8 ((oi s i (off+j):Nat):Int)))->
 ∃h',bp (DX C lf aB) f (some (.ptr T.a9 0),some (I ((off+d:Nat):Int)),some (.ptr T.aG (i*308)),some (I ((off+cap:Nat):Int)),some (.aY k 0 d (some cap) 0)) h=
    aB (some (.aY k 0 cap (some cap) 0)) h'/\aN h0 h' (λ_=>False)/\k<h'.next/\h'.wr k cap/\(∀j,j<cap->h'.cell k j=some (.int .u8 ((oi s i (off+j):Nat):Int))):=by
 intro g
 induction g with
 |zero=>
  intro d bd aF f ak h F ai hw ae;obtain⟨f,rfl⟩:=dE f (by omega);have Pb:d=cap:=by omega
  subst Pb;have a8:decide (((off+d:Nat):Int)<((off+d:Nat):Int))=false:=bq (by omega);refine⟨h,?_,F,ai,hw,ae⟩;rw[dh];unfold DX EF;simp only[aE,a8]
 |succ g ba=>
  intro d bd aF f ak h F ai hw ae;obtain⟨f,rfl⟩:=dE f (by omega);rw[dh];show ∃h',EF C lf (λx0 x2 aW x12 eS h=>bp (DX C lf aB) f (x0,x2,aW,x12,eS) h) aB (some (.ptr T.a9 0)) (some (I ((off+d:Nat):Int))) (some (.ptr T.aG (i*308))) (some (I ((off+cap:Nat):Int))) (some (.aY k 0 d (some cap) 0)) h=_/\_;unfold EF;by_cases Pd:d<cap
  ·have a8:decide (((off+d:Nat):Int)<((off+cap:Nat):Int))=true:=bw (by omega)
   have aZ:IntKind.i64.wrap (((off+d:Nat):Int).tdiv 64)=(((off+d)/64:Nat):Int):=by
    rw[Int.tdiv_eq_ediv_of_nonneg (by omega),wrap_i64 (by omega) (by omega)];rfl
   have aI:((off+d:Nat):Int).tmod 64=(((off+d)%64:Nat):Int):=by
    rw[Int.tmod_eq_emod_of_nonneg (by omega)];rfl
   have qt:(off+d)/64<278:=by omega
   have abD:∀j,j<min (64-(off+d)%64) (cap-d)->oi s i (off+(d+j))=if s.bl i (a4 ((off+d)/64))=0 then 0 else s.b ((s.bl i (a4 ((off+d)/64))-1)*64+((off+d)%64+j)):=λj aa=>by
    unfold oi;rw[show(off+(d+j))/64=(off+d)/64 by omega,show(off+(d+j))%64=(off+d)%64+j by omega]
   generalize aDv:(off+d)/64=kk at *;generalize aDn:(off+d)%64=a at *;have bX:a<64:=by omega
   obtain⟨bQ,cn⟩:=yR qt;generalize aDy:min (64-a) (cap-d)=m at *;have Dr:1<=m:=by omega
   have Ds:m<=64-a:=by omega
   have yd:d+m<=cap:=by omega
   have Iq:IntKind.i64.wrap (64-(a:Int))=((64-a:Nat):Int):=cH (by omega);have oK:IntKind.i64.wrap (((off+cap:Nat):Int)-((off+d:Nat):Int))=((cap-d:Nat):Int):=cH (by omega);have vP:min ((64-a:Nat):Int) ((cap-d:Nat):Int)=(m:Int):=by omega
   have H8:IntKind.i64.wrap (((off+d:Nat):Int)+(m:Int))=((off+(d+m):Nat):Int):=cH (by omega);have amD:IntKind.i64.wrap ((a:Int)+(m:Int))=((a+m:Nat):Int):=cH (by omega);have lu:=A.jI F;have iA:C (.fn 76) [.ptr T.aG (i*308),I (kk:Int)] h=some (.ret (.ptr T.aG (i*308+a4 kk)),h):=nw h T.aG (i*308) kk qt;have eB:=lu.ec i (a4 kk) hi cn;rw[M.cell i _ hi bQ cn] at eB;have hle:=M.le i (a4 kk);have fv:=A.st.cF;by_cases a1:s.bl i (a4 kk)=0
   ·have nP:decide ((0:Int)<((s.bl i (a4 kk):Nat):Int))=false:=bq (by omega);have nN:=aiM (h:=h) (k:=k) (off:=0) (len:=d) (lo:=0) (kd:= .i64) (n:=m) (cp:=cap) aiL (by omega) (by omega) hw (by omega) yd;have aL:aN h (h.set k (0+d) (List.replicate m (.int .u8 0))) (· =k):=fO rfl
    obtain⟨h3,c5,dM⟩:=ba (d+m) (by omega) yd f (by omega) (h.set k (0+d) (List.replicate m (.int .u8 0))) (F.hN aL vN) (by rw[dW];exact ai) (e1 hw) (λj aa=>by
     by_cases Pp:j<d
     ·rw[eG (.inr (.inl (by omega)))];exact ae j Pp
     ·rw[ir hw (by simp;omega) (by omega) (by simp;omega),aC4 (by omega)]
      have:=abD (j-d) (by omega)
      rw[show d+(j-d)=j by omega,if_pos a1] at this
      rw[this];rfl)
    refine⟨h3,?_,dM⟩;simp only[aE,a8,lJ (show(64:Int)≠0 by omega),aZ,hQ (show(64:Int)≠0 by omega),aI,Iq,oK,Lh,vP,iA,eB,nP,nN,H8];rw[Nat.zero_add] at c5;exact c5
   ·have nP:decide ((0:Int)<((s.bl i (a4 kk):Nat):Int))=true:=bw (by omega);have eW:=M.on i (a4 kk) hi bQ cn (by omega);have ki:IntKind.i64.wrap ((s.bl i (a4 kk):Int)-1)=((s.bl i (a4 kk)-1:Nat):Int):=cH (by omega)
    have iU:gv n s.wd ((s.bl i (a4 kk)-1:Nat):Int)=true:=by
     simp only[gv,Int.toNat_natCast,eW,Bool.and_true,Bool.and_eq_true,decide_eq_true_eq];omega
    obtain⟨h1,aQ,cI,cQ,g1,aL⟩:=(B5 h T.bJ T.kd n s.wd s.b ((s.bl i (a4 kk)-1:Nat):Int) lu.st (by omega) (by omega)).2 iU;rw[Int.toNat_natCast] at g1;generalize hv:s.bl i (a4 kk)-1=v at *;have O5:=A.st.blt;generalize na:(List.range 64).map (λj=>s.b (v*64+j))=bS;have Am:bS.length=64:=by rw[<- na];simp
    have abA:∀j,j<64->bS.getD j 0=s.b (v*64+j):=λj aa=>by rw[<- na];simp[List.getD,aa]
    have amI:∀c∈bS,c<256:=λc ae=>by
     rw[<- na] at ae;obtain⟨j,_,rfl⟩:=List.mem_map.1 ae;exact O5 _
    obtain⟨j2,uq,_⟩:=cQ;have jN:Bytes h1 (.aY h.next 0 64 (some 64) 0) bS:=⟨amI,.inr ⟨h.next,0,some 64,0,j2,by rw[Am],uq,λj aa=>by rw[Am] at aa;rw[Nat.zero_add,g1 j aa,abA j aa]⟩⟩;obtain⟨bW,ei,fJ,oO⟩:=XX (P:=ax) (t:=24) (lo:=a) (hi:=a+m) (k1:= .i64) (k2:= .i64) Tryd.underlying24 (s:=1) (by kernel_rfl) rfl jN (Nat.le_refl 64) (by omega) (by omega);rw[Nat.add_sub_cancel_left] at fJ;have ya:((bS.drop a).take m).length=m:=by simp;omega
    have tf:h1.wr k cap:=by
     obtain⟨e6,an,aD,a7⟩:=hw;exact⟨e6,by rw[(aL.same k ai (λe=>e)).mt];exact an,aD,a7⟩
    have kB:∀j,j<d->h1.cell k j=some (.int .u8 ((oi s i (off+j):Nat):Int)):=λj aa=>by rw[(aL.same k ai (λe=>e)).cell];exact ae j aa
    have nb:=YN fJ;rw[ya] at nb;have nN:=aiN (h:=h1) (k:=k) (off:=0) (len:=d) (lo:=0) (n:=m) (cp:=cap) (N:=cap) aiI nb (by rw[zd,ya,Nat.mul_one]) (agT _) tf (by omega) yd;rw[Nat.mul_one] at nN;generalize ab7:jd ((bS.drop a).take m)=D7 at *;have gg:D7.length=m:=by rw[<- ab7,zd,ya]
    have bF:aN h1 (h1.set k (0+d) D7) (· =k):=fO rfl;have ahG:aN h0 h1 (λ_=>False):=F.trans aL
    obtain⟨h3,c5,dM⟩:=ba (d+m) (by omega) yd f (by omega) (h1.set k (0+d) D7) (ahG.hN bF vN) (by rw[dW,cI];omega) (e1 tf) (λj aa=>by
     by_cases Pp:j<d
     ·rw[eG (.inr (.inl (by omega)))];exact kB j Pp
     ·rw[ir tf (by omega) (by omega) (by omega), <- ab7,KT _ (by omega)]
      have:=abD (j-d) (by omega)
      rw[show d+(j-d)=j by omega,if_neg a1] at this;rw[this]
      have az:((bS.drop a).take m).getD (j-(0+d)) 0=bS.getD (a+(j-d)) 0:=by
       rw[Nat.zero_add];simp[List.getD,List.getElem?_take,show j-d<m by omega,List.getElem?_drop]
      rw[az,abA _ (by omega)])
    refine⟨h3,?_,dM⟩;have ma:=lu.c0;simp only[aE,a8,lJ (show(64:Int)≠0 by omega),aZ,hQ (show(64:Int)≠0 by omega),aI,Iq,oK,Lh,vP,iA,eB,nP,ma,ki,aQ,List.getElem?_cons_zero,List.getElem?_cons_succ,amD,ei,nN,H8];rw[Nat.zero_add] at c5;exact c5
  ·have Pb:d=cap:=by omega
   subst Pb;have a8:decide (((off+d:Nat):Int)<((off+d:Nat):Int))=false:=bq (by omega);refine⟨h,?_,F,ai,hw,ae⟩;simp only[aE,a8]
def Gn(C:ad):Prop:=∀h T n N now us s i (off m:Int) (sz:Nat),bx h T n N s.wd s.b now us s.nd->cR n N s.wd s.nd s.bl->i<N->us i=true->s.nd i 5=I (sz:Int)->sz<=17792->
 -9223372036854775808<=off->off<9223372036854775808-> -9223372036854775808<=m->m<9223372036854775808->
 ((off<0\/m<0)->C (.fn 41) [.ptr T.a9 0,I ((i+1:Nat):Int),I off,I m] h=some (.ret (.bo [.val (.slice none 0 0),I 22]),h))/\
 (0<=off->0<=m->(sz:Int)<=off->C (.fn 41) [.ptr T.a9 0,I ((i+1:Nat):Int),I off,I m] h=some (.ret (.bo [.val (.slice none 0 0),I 0]),h))/\
 (0<=off->0<=m->off<sz->∃h',C (.fn 41) [.ptr T.a9 0,I ((i+1:Nat):Int),I off,I m] h=
     some (.ret (.bo [.aY h.next 0 (min m.toNat (sz-off.toNat)) (some (min m.toNat (sz-off.toNat))) 0,I 0]),h')/\aN h h' (λ_=>False)/\h.next<h'.next/\h'.wr h.next (min m.toNat (sz-off.toNat))/\
     Bytes h' (.aY h.next 0 (min m.toNat (sz-off.toNat)) (some (min m.toNat (sz-off.toNat))) 0) (qe s i off.toNat (min m.toNat (sz-off.toNat))))
theorem aBn{C:ad}(gf:20000<=lf)(fo:mq C)(nw:su C)(B5:Gg C){off m:Int}{sz:Nat}(A:bx h T n N s.wd s.b now us s.nd)(M:cR n N s.wd s.nd s.bl)(hi:i<N)(hu:us i=true)(dV:s.nd i 5=I (sz:Int))(td:sz<=17792)
 (dH: -9223372036854775808<=off)(dn:off<9223372036854775808)(hC: -9223372036854775808<=m)(e6:m<9223372036854775808):
 ((off<0\/m<0)->uf C lf (.ptr T.a9 0) (I ((i+1:Nat):Int)) (I off) (I m) h=some (.ret (.bo [.val (.slice none 0 0),I 22]),h))/\
 (0<=off->0<=m->(sz:Int)<=off->uf C lf (.ptr T.a9 0) (I ((i+1:Nat):Int)) (I off) (I m) h=some (.ret (.bo [.val (.slice none 0 0),I 0]),h))/\
 (0<=off->0<=m->off<sz->∃h',uf C lf (.ptr T.a9 0) (I ((i+1:Nat):Int)) (I off) (I m) h=
     some (.ret (.bo [.aY h.next 0 (min m.toNat (sz-off.toNat)) (some (min m.toNat (sz-off.toNat))) 0,I 0]),h')/\aN h h' (λ_=>False)/\h.next<h'.next/\h'.wr h.next (min m.toNat (sz-off.toNat))/\
     Bytes h' (.aY h.next 0 (min m.toNat (sz-off.toNat)) (some (min m.toNat (sz-off.toNat))) 0) (qe s i off.toNat (min m.toNat (sz-off.toNat)))):=by
 have k3:=A.hW;have bd:=fo h T n N s.wd s.b now us s.nd ((i+1:Nat):Int) A (by omega) (by omega);rw[DU hi hu,if_pos rfl,show((i+1:Nat):Int).toNat-1=i by omega] at bd;have bY:decide ((0:Int)≠0)=false:=rfl
 have pre:uf C lf (.ptr T.a9 0) (I ((i+1:Nat):Int)) (I off) (I m) h=yU C lf sQ (some (.ptr T.a9 0)) (some (I off)) (some (I m)) (some (.ptr T.aG (i*308))) h:=by
  unfold uf JQ JP JO JN;simp only[cg,cf,kV,bd,sO,List.getElem?_cons_zero,List.getElem?_cons_succ];unfold JM JL;simp only[cg,cf,Cf,bY,o4]
 rw[pre];refine⟨λag=>?_,λbR b2 ag=>?_,λbR b2 ag=>?_⟩
 ·unfold yU EG sQ;by_cases d1:off<0
  ·simp only[aE,bw d1]
  ·have d2:m<0:=by omega
   simp only[aE,bq d1,bw d2]
 ·have d1:decide (off<0)=false:=bq (by omega);have d2:decide (m<0)=false:=bq (by omega);have mG:=A.ec i 5 hi (by omega);rw[dV] at mG;have az:i*308+1+4=i*308+5:=Nat.add_assoc _ 1 4;unfold yU EG;simp only[aE,d1,d2];unfold JK JJ sQ;simp only[aE,az,mG,bw ag]
 ·obtain⟨o,rfl⟩:∃o:Nat,off=o:=⟨off.toNat,by omega⟩;obtain⟨q,rfl⟩:∃q:Nat,m=q:=⟨m.toNat,by omega⟩;rw[Int.toNat_natCast,Int.toNat_natCast];have d1:decide ((o:Int)<0)=false:=bq (by omega);have d2:decide ((q:Int)<0)=false:=bq (by omega);have d3:decide (((sz:Nat):Int)<=(o:Int))=false:=bq (by omega);have mG:=A.ec i 5 hi (by omega);rw[dV] at mG;have az:i*308+1+4=i*308+5:=Nat.add_assoc _ 1 4;have ki:IntKind.i64.wrap (((sz:Nat):Int)-(o:Int))=((sz-o:Nat):Int):=cH (by omega);generalize vI:min q (sz-o)=cap at *
  have mid:yU C lf sQ (some (.ptr T.a9 0)) (some (I (o:Int))) (some (I (q:Int))) (some (.ptr T.aG (i*308))) h=
   JI C lf sQ (some (.ptr T.a9 0)) (some (I (o:Int))) (some (.ptr T.aG (i*308))) (some (I ((o+cap:Nat):Int))) h:=by
   unfold yU EG;simp only[aE,d1,d2];unfold JK JJ;simp only[aE,az,mG,d3];unfold Th Tg;simp only[aE,az,mG];unfold Tf Te;by_cases d4:((q:Nat):Int)<((sz-o:Nat):Int)
   ·have ch:IntKind.i64.wrap ((o:Int)+(q:Int))=((o+cap:Nat):Int):=cH (by omega);simp only[aE,ki,bw d4,ch]
   ·have ch:((sz:Nat):Int)=((o+cap:Nat):Int):=by omega
    simp only[aE,ki,bq d4];rw[ch]
  rw[mid];have ef:IntKind.i64.wrap (((o+cap:Nat):Int)-(o:Int))=((cap:Nat):Int):=cH (by omega)
  have kF:=wT (P:=ax) (t:=24) (e:=5) (s:=1) (b:=1) (z:= .int .u8 0) (k1:= .i64) (k2:= .i64) (l:=0) (c:=cap) (h:=h)
   Tryd.underlying24 (by kernel_rfl) (by kernel_rfl) (by kernel_rfl) (Nat.zero_le _) (by omega) (by omega) rfl (by omega)
  generalize aq:gZ 5 (cap*1) (c2 (.int .u8 0)).cells=ob at *
  have hw:(h.new ob).wr h.next cap:=by
   have:=mT (h:=h) (o:=ob) (by rw[<- aq];rfl)
   rw[show ob.n=cap by rw[<- aq];exact Nat.mul_one _] at this;exact this
  obtain⟨h',c5,dM,fP,lj,r8⟩:=ayj (lf:=lf) (C:=C) nw B5 hi (h0:=h) (off:=o) (cap:=cap) A M (by omega) (k:=h.next) (Nat.le_refl _) (λeS h=>EE C lf sQ eS h) cap 0 (by omega) (by omega) lf (by omega)
   (h.new ob) (aN.new _ _ _) (by simp) hw (λj aa=>by omega)
  obtain⟨j2,uq,aDx⟩:=id lj;refine⟨h',?_,dM,fP,lj,⟨λc ae=>?_,.inr ⟨h.next,0,some cap,0,j2,by rw[Ym],uq,λj aa=>?_⟩⟩⟩
  ·unfold JI Td;have Pw:mU ax 24 (I 0) (I (cap:Int)) h=some (.aY h.next 0 0 (some cap) 0,h.new ob):=kF;simp only[aE,ef,Pw];unfold Tc;refine Eq.trans c5 ?_;unfold EE sQ;simp only[aE]
  ·obtain⟨j,_,rfl⟩:=List.mem_map.1 ae;unfold oi;split
   ·omega
   ·exact A.st.blt _
  ·rw[Ym] at aa;rw[Nat.zero_add,r8 j aa,akf _ _ _ aa]
end
def lY(b:Nat->Nat)(bl:Nat->Nat->Nat)(i sz:Nat):Nat->Nat:=
 if 0<sz%64/\0<bl i (a4 (sz/64)) then over b ((bl i (a4 (sz/64))-1)*64+sz%64) (List.replicate (64-sz%64) 0) else b
structure FH (i sz:Nat) (s e7:dF):Prop where
 nd:e7.nd=kY s.nd i (gn s.bl i ((sz+63)/64))
 bl:e7.bl=dA s.bl i (gn s.bl i ((sz+63)/64))
 b:e7.b=lY s.b e7.bl i sz
 on:∀j,bU e7.wd j=true↔(bU s.wd j=true/\∀c,12<=c->c<308->gn s.bl i ((sz+63)/64) c->s.bl i c≠j+1)
section
variable{lf:Nat}{h:U}{T:dU}{n N:Nat}{now:Int}{us:Nat->Bool}{s:dF}{i:Nat}
def Gs(C:ad):Prop:=∀h T n N now us s i (sz:Int),bx h T n N s.wd s.b now us s.nd->cR n N s.wd s.nd s.bl->i<N->us i=true->
 -9223372036854775808<=sz->sz<9223372036854775808->
 (sz<0->C (.fn 40) [.ptr T.a9 0,I ((i+1:Nat):Int),I sz] h=some (.ret (I 22),h))/\
 (17792<sz->C (.fn 40) [.ptr T.a9 0,I ((i+1:Nat):Int),I sz] h=some (.ret (I 27),h))/\
 (0<=sz->sz<=17792->∃h' e7,C (.fn 40) [.ptr T.a9 0,I ((i+1:Nat):Int),I sz] h=some (.ret (I 0),h')/\
   bx h' T n N e7.wd e7.b now us (grown e7.nd i sz.toNat now)/\cR n N e7.wd (grown e7.nd i sz.toNat now) e7.bl/\aN h h' (λj=>j=T.bJ\/j=T.kd\/j=T.aG)/\FH i sz.toNat s e7)
theorem aBp{C:ad}(fo:mq C)(nw:su C)(Ly:FG C)(xd:B8 C)(Ml:Gq C){sz:Int}(A:bx h T n N s.wd s.b now us s.nd)(M:cR n N s.wd s.nd s.bl)(hi:i<N)(hu:us i=true)(dH: -9223372036854775808<=sz)(dn:sz<9223372036854775808):
 (sz<0->sS C lf (.ptr T.a9 0) (I ((i+1:Nat):Int)) (I sz) h=some (.ret (I 22),h))/\
 (17792<sz->sS C lf (.ptr T.a9 0) (I ((i+1:Nat):Int)) (I sz) h=some (.ret (I 27),h))/\
 (0<=sz->sz<=17792->∃h' e7,sS C lf (.ptr T.a9 0) (I ((i+1:Nat):Int)) (I sz) h=some (.ret (I 0),h')/\
   bx h' T n N e7.wd e7.b now us (grown e7.nd i sz.toNat now)/\cR n N e7.wd (grown e7.nd i sz.toNat now) e7.bl/\aN h h' (λj=>j=T.bJ\/j=T.kd\/j=T.aG)/\FH i sz.toNat s e7):=by
 have k3:=A.hW;have bd:=fo h T n N s.wd s.b now us s.nd ((i+1:Nat):Int) A (by omega) (by omega);rw[DU hi hu,if_pos rfl,show((i+1:Nat):Int).toNat-1=i by omega] at bd;have bY:decide ((0:Int)≠0)=false:=rfl
 have pre:sS C lf (.ptr T.a9 0) (I ((i+1:Nat):Int)) (I sz) h=wx C lf (λx0 x2 x7 h=>Bh C lf nI x0 x2 x7 h) nI (some (.ptr T.a9 0)) (some (I sz)) (some (.ptr T.aG (i*308))) (some (I 0)) h:=by
  unfold sS JH JG JF JE;simp only[cg,cf,kV,bd,sO,List.getElem?_cons_zero,List.getElem?_cons_succ];rfl
 rw[pre];unfold wx;refine⟨λag=>?_,λag=>?_,λbR b2=>?_⟩
 ·unfold nI;simp only[aE,bY,bw ag]
 ·have d1:decide (sz<0)=false:=bq (by omega);unfold nI;simp only[aE,bY,d1,bw ag]
 ·obtain⟨z,rfl⟩:∃z:Nat,sz=z:=⟨sz.toNat,by omega⟩;rw[Int.toNat_natCast];have d1:decide ((z:Int)<0)=false:=bq (by omega);have d2:decide ((17792:Int)<(z:Int))=false:=bq (by omega);have az:IntKind.i64.wrap ((z:Int)+64)=((z+64:Nat):Int):=cH (by omega);have aw:IntKind.i64.wrap (((z+64:Nat):Int)-1)=((z+63:Nat):Int):=cH (by omega)
  have ch:IntKind.i64.wrap (((z+63:Nat):Int).tdiv 64)=(((z+63)/64:Nat):Int):=by
   rw[Int.tdiv_eq_ediv_of_nonneg (by omega),wrap_i64 (by omega) (by omega)];rfl
  obtain⟨h1,o0,aQ,D⟩:=Ly h T n N s.wd s.b now us s.nd s.bl i ((z+63)/64) A M hi (by omega)
  have aZ:IntKind.i64.wrap ((z:Int).tdiv 64)=((z/64:Nat):Int):=by
   rw[Int.tdiv_eq_ediv_of_nonneg (by omega),wrap_i64 (by omega) (by omega)];rfl
  have aI:(z:Int).tmod 64=((z%64:Nat):Int):=by
   rw[Int.tmod_eq_emod_of_nonneg (by omega)];rfl
  generalize eu:gn s.bl i ((z+63)/64)=S at *;have aL:aN h h1 (λj=>j=T.bJ\/j=T.kd\/j=T.aG):=D.F.eb λ_ e=>by rcases e with e|e;exact .inl e;exact .inr (.inr e)
  have fin:∀h2 b2,bx h2 T n N o0 b2 now us (kY s.nd i S)->aN h1 h2 (λj=>j=T.bJ\/j=T.kd\/j=T.aG)->
   ∃h',Bg C lf nI (some (.ptr T.a9 0)) (some (I (z:Int))) (some (.ptr T.aG (i*308))) h2=some (.ret (I 0),h')/\
    bx h' T n N o0 b2 now us (grown (kY s.nd i S) i z now)/\aN h h' (λj=>j=T.bJ\/j=T.kd\/j=T.aG):=λh2 b2 c9 bF=>by
   have By:=wG c9 (i:=i) (c:=5) (y:=I (z:Int)) hi (by omega) rfl rfl;have e9:=c9.setNode (i:=i) (c:=5) (y:=I (z:Int)) hi (by omega) (by omega);have dp:aN h2 (h2.set T.aG (i*308+5) [I (z:Int)]) (· =T.aG):=fO rfl;generalize iT:h2.set T.aG (i*308+5) [I (z:Int)]=h3 at *;obtain⟨aU,ct,kr,lg,gC⟩:=Ml h3 T n N _ _ now us _ i e9 hi;refine⟨aU,?_,kr,(aL.trans bF).trans ((dp.trans gC).eb λ_ e=> .inr (.inr e))⟩;have az:i*308+1+4=i*308+5:=Nat.add_assoc _ 1 4;unfold Bg nI;simp only[aE,az,By,ct]
  have mid:∀c5:ab,ED C lf (λx0 x2 x7 h=>Bg C lf nI x0 x2 x7 h) (some (.ptr T.a9 0)) (some (I (z:Int))) (some (.ptr T.aG (i*308))) h1=c5->
   wx C lf (λx0 x2 x7 h=>Bh C lf nI x0 x2 x7 h) nI (some (.ptr T.a9 0)) (some (I (z:Int))) (some (.ptr T.aG (i*308))) (some (I 0)) h=c5:=λc5 qw=>by
   unfold wx;simp only[aE,bY,d1,d2];unfold Bh Tb;simp only[aE,az,aw,lJ (show(64:Int)≠0 by omega),ch,aQ];exact qw
  have H7:(∃h' b2,ED C lf (λx0 x2 x7 h=>Bg C lf nI x0 x2 x7 h) (some (.ptr T.a9 0)) (some (I (z:Int))) (some (.ptr T.aG (i*308))) h1=some (.ret (I 0),h')/\
   b2=lY s.b (dA s.bl i S) i z/\bx h' T n N o0 b2 now us (grown (kY s.nd i S) i z now)/\aN h h' (λj=>j=T.bJ\/j=T.kd\/j=T.aG)):=by
   unfold ED;by_cases bX:0<z%64
   ·have nP:decide ((0:Int)<((z%64:Nat):Int))=true:=bw (by omega);have qt:z/64<278:=by omega
    obtain⟨bQ,cn⟩:=yR qt;have iA:C (.fn 76) [.ptr T.aG (i*308),I ((z/64:Nat):Int)] h1=some (.ret (.ptr T.aG (i*308+a4 (z/64))),h1):=nw h1 T.aG (i*308) (z/64) qt;have eB:=D.A.ec i (a4 (z/64)) hi cn;rw[D.M.cell i _ hi bQ cn] at eB;have hle:=D.M.le i (a4 (z/64));have eW:=D.M.on i (a4 (z/64)) hi bQ cn;have fv:=A.st.cF;by_cases aDJ:dA s.bl i S i (a4 (z/64))=0
    ·have DH:lY s.b (dA s.bl i S) i z=s.b:=by
      unfold lY;rw[if_neg (by omega)]
     generalize hv:dA s.bl i S i (a4 (z/64))=v at *;have iT:decide ((0:Int)<((v:Nat):Int))=false:=bq (by omega);obtain⟨h',c5,dM,fP⟩:=fin h1 s.b D.A (aN.refl _ _);refine⟨h',s.b,?_,DH.symm,dM,fP⟩;simp only[aE,hQ (show(64:Int)≠0 by omega),aI,nP,lJ (show(64:Int)≠0 by omega),aZ,iA,eB,iT];exact c5
    ·have DH:lY s.b (dA s.bl i S) i z=over s.b ((dA s.bl i S i (a4 (z/64))-1)*64+z%64) (List.replicate (64-z%64) 0):=by
      unfold lY;rw[if_pos (by omega)]
     have eW:=eW (by omega);generalize hv:dA s.bl i S i (a4 (z/64))=v at *;have iT:decide ((0:Int)<((v:Nat):Int))=true:=bw (by omega);have ki:IntKind.i64.wrap ((v:Int)-1)=((v-1:Nat):Int):=cH (by omega);have qx:IntKind.i64.wrap (64-((z%64:Nat):Int))=((64-z%64:Nat):Int):=cH (by omega)
     have kF:=wT (P:=ax) (t:=24) (e:=5) (s:=1) (b:=1) (z:= .int .u8 0) (k1:= .i64) (k2:= .i64) (l:=64-z%64) (c:=64-z%64) (h:=h1)
      Tryd.underlying24 (by kernel_rfl) (by kernel_rfl) (by kernel_rfl) (Nat.le_refl _) (by omega) (by omega) rfl (by omega)
     generalize aq:gZ 5 ((64-z%64)*1) (c2 (.int .u8 0)).cells=ob at *
     have iU:gv n o0 ((v-1:Nat):Int)=true:=by
      simp only[gv,Int.toNat_natCast,eW,Bool.and_true,Bool.and_eq_true,decide_eq_true_eq];omega
     have s8:¬tX n o0 ((v-1:Nat):Int) ((z%64:Nat):Int) (List.replicate (64-z%64) 0):=by
      unfold tX;rw[iU,List.length_replicate];simp only[Bool.true_eq_false,false_or];omega
     have jN:Bytes (h1.new ob) (.aY h1.next 0 (64-z%64) (some (64-z%64)) 0) (List.replicate (64-z%64) 0):=by
      refine⟨λc ae=>by rw[List.eq_of_mem_replicate ae];omega,.inr ⟨h1.next,0,some (64-z%64),0,ob.mt,by rw[List.length_replicate],by rw[yI,if_pos rfl],λj aa=>?_⟩⟩;rw[List.length_replicate] at aa;rw[Nat.zero_add,lK, <- aq];have jk:(List.replicate (64-z%64) 0).getD j 0=0:=by simp[List.getD,aa]
      have anv:(c2 (.int .u8 0)).cells=[.int .u8 0]:=rfl;rw[jk,wk _ _ (by omega),anv];simp[Nat.mod_one]
     have c9:=D.A.jI (aN.new h1 ob (λ_=>False));obtain⟨h2,a3,p8,cF,bF⟩:=(xd (h1.new ob) T.bJ T.kd n o0 s.b ((v-1:Nat):Int) ((z%64:Nat):Int) _ (List.replicate (64-z%64) 0) c9.st jN (by rw[List.length_replicate];omega) (by omega) (by omega) (by omega) (by omega)).2 s8;rw[Int.toNat_natCast,Int.toNat_natCast] at p8;have e9:=c9.store p8 bF.next (bF.same _ c9.lt (λe=>A.d2 e)) (bF.same _ c9.la (λe=>A.d5 e))
     have jV:∀r,fg (fY [(3,cv (some (J.ptr T.a9 0)))] h1 (h1.new ob) [3]) r=r:=λr=>MP rfl D.A.lt (Wj D.A.wt) (n3 h1 ob (Nat.ne_of_lt D.A.lt))
     obtain⟨h',c5,dM,fP⟩:=fin h2 _ e9 ((aN.new h1 ob _).trans (bF.eb λ_ e=> .inr (.inl e)));refine⟨h',_,?_,DH.symm,dM,fP⟩;have ma:=D.A.c0;simp only[aE,hQ (show(64:Int)≠0 by omega),aI,nP,lJ (show(64:Int)≠0 by omega),aZ,iA,eB,iT,ki,qx,ma,kF,jV,a3];exact c5
   ·have nP:decide ((0:Int)<((z%64:Nat):Int))=false:=bq (by omega)
    have DH:lY s.b (dA s.bl i S) i z=s.b:=by
     unfold lY;rw[if_neg (by omega)]
    obtain⟨h',c5,dM,fP⟩:=fin h1 s.b D.A (aN.refl _ _);refine⟨h',s.b,?_,DH.symm,dM,fP⟩;simp only[aE,hQ (show(64:Int)≠0 by omega),aI,nP];exact c5
  obtain⟨h',b2,c5,rfl,fP,lj⟩:=H7;exact⟨h',⟨o0,lY s.b (dA s.bl i S) i z,kY s.nd i S,dA s.bl i S⟩,mid _ c5,fP,D.M.grown _ _ _,lj,⟨by rw[eu],by rw[eu],rfl,by rw[eu];exact D.O⟩⟩
end
def zB(N:Nat)(s:dF):Prop:=∀j,bU s.wd j=true->∃i c,i<N/\12<=c/\c<308/\s.bl i c=j+1
theorem QG{α:Type} [DecidableEq α]:∀{l m:List α},l.Nodup->(∀x∈l,x∈m)->l.length<=m.length
 | [],_,_,_=>Nat.zero_le _
 |a::l,m,aO,aj=>by
  obtain⟨h1,h2⟩:=List.nodup_cons.1 aO
  have:=QG (l:=l) (m:=m.erase a) h2 λx ao=>(List.mem_erase_of_ne (λe=>h1 (by rw[<- e];exact ao))).2 (aj x (List.mem_cons_of_mem _ ao))
  have h3:=List.length_erase_of_mem (aj a (List.mem_cons_self ..));have aU:=List.length_pos_of_mem (aj a (List.mem_cons_self ..));simp only[List.length_cons];omega
section
variable{n N i z:Nat}{s e7:dF}
theorem alw{k:Nat}(hi:i<N)(W:pg n N s)(ai:k<278)(ag:(bI n i k s).2=true):
 (∀i' p,i'<N->p<17792->oi (bI n i k s).1 i' p=oi s i' p)/\(zB N s->zB N (bI n i k s).1):=by
 unfold bI at ag⊢;by_cases h1:0<s.bl i (a4 k)
 ·rw[if_pos h1];exact⟨λ_ _ _ _=>rfl,λO=>O⟩
 ·rw[if_neg h1] at ag⊢;by_cases h2:(df n i (dr k) s []).2.2=true
  ·rw[if_pos h2];have t:oe n i s (df n i (dr k) s []).2.1 (df n i (dr k) s []).1:=xE (dr k) s [] .nil (A2 ai);have P:=t.props hi W.M W.w;generalize(df n i (dr k) s []).1=e7 at *;generalize(df n i (dr k) s []).2.1=bk at *;refine⟨λi' p cA aA=>?_,λO j aa=>?_⟩
   ·unfold oi;obtain⟨bQ,cn⟩:=yR (k:=p/64) (by omega);by_cases aK:i'=i/\a4 (p/64)∈bk
    ·obtain⟨rfl,aK⟩:=aK;obtain⟨cQ,_,_,kO,_⟩:=P.oZ _ aK;rw[if_neg (by omega),if_pos cQ];exact P.z _ aK _ (by omega)
    ·have e:=P.out i' (a4 (p/64)) (by
      by_cases e:i'=i
      ·exact .inr λaw=>aK ⟨e,aw⟩
      ·exact .inl e)
     rw[e];by_cases a1:s.bl i' (a4 (p/64))=0
     ·rw[if_pos a1,if_pos a1]
     ·rw[if_neg a1,if_neg a1];refine P.Ch _ ?_;rw[show((s.bl i' (a4 (p/64))-1)*64+p%64)/64=s.bl i' (a4 (p/64))-1 by omega];exact W.M.on i' _ cA bQ cn (by omega)
   ·rcases(P.on j).1 aa with h3|⟨c,h3,aU⟩
    ·obtain⟨i',c,c0,aQ,a3,e⟩:=O j h3;refine⟨i',c,c0,aQ,a3,?_⟩
     rw[P.out i' c (by
      by_cases aw:i'=i
      ·refine .inr λch=>?_
       subst aw
       have:=(P.oZ c ch).1
       omega
      ·exact .inl aw)]
     exact e
    ·obtain⟨_,cL,gy,_⟩:=P.oZ c h3;exact⟨i,c,hi,cL,gy,aU⟩
  ·rw[if_neg h2] at ag;cases ag
theorem akv(C:FH i z s e7)(O:zB N s):zB N e7:=λj aa=>by
 obtain⟨h1,h2⟩:=(C.on j).1 aa;obtain⟨i',c,c0,aQ,a3,e⟩:=O j h1;refine⟨i',c,c0,aQ,a3,?_⟩;rw[C.bl,iM λaw=>?_]
 ·exact e
 ·obtain⟨rfl,ch⟩:=aw;exact h2 c aQ a3 ch e
end
def hl(vs:List Nat):List Nat:=(vs.filter λv=>decide (0<v)).map (· -1)
theorem QR(a b:List Nat):hl (a++b)=hl a++hl b:=by simp[hl]
theorem I1(vs:List Nat):(hl vs).length<=vs.length:=by
 unfold hl;rw[List.length_map];exact List.length_filter_le _ _
def eO(f:Nat->Nat)(a n:Nat):List Nat:=(List.range n).map λj=>f (a+j)
theorem uI(f:Nat->Nat)(a n:Nat):(eO f a n).length=n:=by simp[eO]
theorem azA(f:Nat->Nat)(a:Nat){n j:Nat}(aa:j<n):(eO f a n).getD j 0=f (a+j):=by simp[eO,List.getD,aa]
theorem VH(f:Nat->Nat)(a n m:Nat):eO f a (n+m)=eO f a n++eO f (a+n) m:=by
 unfold eO;rw[List.range_add,List.map_append,List.map_map];congr 1;apply List.map_congr_left;intro j _;show f (a+(n+j))=f (a+n+j);rw[Nat.add_assoc]
theorem VI(f:Nat->Nat)(a:Nat):eO f a 1=[f a]:=rfl
def jJ(bl:Nat->Nat->Nat)(i:Nat):List Nat:=hl (eO (bl i) 12 296)
def q9(h:U)(cE j:Nat):Prop:=j<h.next/\j≠cE/\∀x,h.cell cE 0=some x->rowOf x≠some j
structure oc (h h':U) (cE:Nat):Prop where
 n:h.next<=h'.next
 a:∀j,q9 h cE j->q9 h' cE j/\cW h h' j
theorem oc.refl(h:U)(cE:Nat):oc h h cE:=⟨Nat.le_refl _,λ_ a=>⟨a,rfl⟩⟩
theorem oc.trans{h h' fh:U}{cE:Nat}(a:oc h h' cE)(b:oc h' fh cE):oc h fh cE:=
 ⟨Nat.le_trans a.n b.n,λj aa=>⟨(b.a j (a.a j aa).1).1,(b.a j (a.a j aa).1).2.trans (a.a j aa).2⟩⟩
structure ku (h0 h:U) (cE:Nat) (l:List Nat):Prop where
 c:∃x,h.cell cE 0=some x/\fM h0 h x l/\rowOf x≠some cE
 w:h.wr cE 1
 n:h0.next<=cE
 lt:cE<h.next
 F:aN h0 h (λ_=>False)
section
variable{lf:Nat}{h h0:U}{cE:Nat}{l:List Nat}
theorem ku.new(O:ku h0 h cE l)(o:bD):ku h0 (h.new o) cE l/\oc h (h.new o) cE/\q9 (h.new o) cE h.next:=by
 obtain⟨x,aQ,a3,cl⟩:=O.c;have aj:cW h (h.new o) cE:=n3 h o (Nat.ne_of_lt O.lt);have ae:(h.new o).cell cE 0=some x:=by rw[aj.cell];exact aQ
 have ach:∀j,rowOf x=some j->j<h.next:=λj aa=>a3.aY.kK aa
 refine⟨⟨⟨x,ae,⟨a3.aY.frame (by simp) λk ai=>n3 h o (Nat.ne_of_lt (ach k ai)),a3.new⟩,cl⟩,hc O.w aj,O.n,by simp;have:=O.lt;omega,O.F.trans (aN.new _ _ _)⟩,⟨by simp,λj aa=>⟨⟨by simp;have:=aa.1;omega,aa.2.1,λy bb=>aa.2.2 y (by rw[<- aj.cell];exact bb)⟩,n3 h o (Nat.ne_of_lt aa.1)⟩⟩,
  ⟨by simp,λe=>by have:=O.lt;omega,λy bb e=>?_⟩⟩
 rw[ae] at bb;cases bb
 have:=ach _ e
 omega
theorem ku.set(O:ku h0 h cE l){k off:Nat}{ys:List J}(ai:q9 h cE k)(aO:h0.next<=k):ku h0 (h.set k off ys) cE l/\(∀j,q9 h cE j->q9 (h.set k off ys) cE j):=by
 obtain⟨x,aQ,a3,cl⟩:=O.c;have aj:cW h (h.set k off ys) cE:=jb _ _ _ (Ne.symm ai.2.1);have ae:(h.set k off ys).cell cE 0=some x:=by rw[aj.cell];exact aQ
 refine⟨⟨⟨x,ae,⟨a3.aY.frame (by rw[dW];exact Nat.le_refl _) λj aa=>jb _ _ _ λe=>ai.2.2 x aQ (by rw[aa,e]),a3.new⟩,cl⟩,hc O.w aj,O.n,by rw[dW];exact O.lt,O.F.hN (fO rfl) aO⟩,λj aa=>⟨by rw[dW];exact aa.1,aa.2.1,λy bb=>aa.2.2 y (by rw[<- aj.cell];exact bb)⟩⟩
theorem Mr{C:ad}{bM ob:Nat}{cap:Option Nat}{lo:Nat}{vs:List Nat}(hv:∀v∈vs,v<=4096)(aB:cq):∀(d t:Nat),t+d=vs.length->∀f,d<f->∀h l,ku h0 h cE l->q9 h cE bM->
 (∀j,j<vs.length->h.cell bM (ob+j)=some (I ((vs.getD j 0:Nat):Int)))->vs.length<=300->l.length+d<=100000->
 ∃h',bp (AW C lf aB) f (some (.ptr cE 0),some (.aY bM ob vs.length cap lo),some (I (vs.length:Int)),some (I (t:Int))) h=aB h'/\ku h0 h' cE (l++hl (vs.drop t))/\oc h h' cE
 |0,t,aF,f,ak,h,l,O,W,ae,aJ,kE=>by
  obtain⟨f,rfl⟩:=dE f (by omega);have e:t=vs.length:=by omega
  subst e;refine⟨h,?_,by simpa[hl] using O,oc.refl _ _⟩;rw[dh];unfold AW EX;have a8:decide ((vs.length:Int)<(vs.length:Int))=false:=by simp
  simp only[aE,a8]
 |d+1,t,aF,f,ak,h,l,O,W,ae,aJ,kE=>by
  obtain⟨f,rfl⟩:=dE f (by omega);have aK:t<vs.length:=by omega
  have a8:decide ((t:Int)<(vs.length:Int))=true:=bw (by omega);have dy:IntKind.i64.wrap ((t:Int)+1)=((t+1:Nat):Int):=cH (by omega);have b3:=gL (s:=1) (k:=bM) (off:=ob) (len:=vs.length) (lo:=lo) (cap:=cap) (kd:= .i64) (i:=(t:Int)) (by omega) (by omega);rw[Int.toNat_natCast,Nat.mul_one] at b3;have Dg:=ae t aK
  have aDK:vs.getD t 0<=4096:=by
   rw[List.getD,List.getElem?_eq_getElem aK];exact hv _ (List.getElem_mem aK)
  have amX:vs.drop t=vs.getD t 0::vs.drop (t+1):=by
   rw[List.drop_eq_getElem_cons aK,List.getD,List.getElem?_eq_getElem aK];rfl
  rw[dh];show ∃h',EX C lf (λx1 e2 aM x7 h=>bp (AW C lf aB) f (x1,e2,aM,x7) h) aB (some (.ptr cE 0)) (some (.aY bM ob vs.length cap lo)) (some (I (vs.length:Int))) (some (I (t:Int))) h=aB h'/\_;unfold EX;rw[amX];generalize eE:vs.getD t 0=v at *;by_cases a1:v=0
  ·have nP:decide ((0:Int)<(v:Int))=false:=bq (by omega);obtain⟨h',c5,dM,fP⟩:=Mr (C:=C) (lo:=lo) (cap:=cap) hv aB d (t+1) (by omega) f (by omega) h l O W ae aJ (by omega);refine⟨h',?_,?_,fP⟩
   ·simp only[aE,a8,b3,Dg,nP,dy];exact c5
   ·have e:hl (v::vs.drop (t+1))=hl (vs.drop (t+1)):=by simp[hl,a1]
    rw[e];exact dM
  ·have nP:decide ((0:Int)<(v:Int))=true:=bw (by omega);have ki:IntKind.i64.wrap ((v:Int)-1)=((v-1:Nat):Int):=cH (by omega);obtain⟨x,aQ,a3,cl⟩:=O.c;obtain⟨bW,h1,an,aD,a7,cw,dO,ek,hF,kv⟩:=xi (y:=I ((v-1:Nat):Int)) vm rfl rfl rfl a3.aY (by omega) (by omega)
   have iW:bW.cells=[bW]/\eA [bW]=true:=by
    rcases a7.2 with⟨rfl,_⟩|⟨k,rfl,_⟩<;>exact⟨rfl,rfl⟩
   have PE:cW h h1 cE:=ek cE O.lt cl;have dk:=jt (n:=1) (off:=0) (y:=bW) (hc O.w PE) (by rw[iW.1];rfl) (by omega) (by rw[iW.1];exact iW.2);rw[iW.1] at dk;generalize iT:h1.set cE 0 [bW]=h2 at *;have cF:h2.next=h1.next:=by rw[<- iT,dW]
   have mF:h2.cell cE 0=some bW:=by
    rw[<- iT,ir (hc O.w PE) (by simp) (Nat.le_refl _) (by simp)];rfl
   have qx:∀j,j≠cE->cW h1 h2 j:=λj aa=>by rw[<- iT];exact jb _ _ _ aa
   have aI:∀j,rowOf bW=some j->j≠cE:=λj aa e=>by
    rcases hF j aa with er|er
    ·exact cl (by rw[er,e])
    ·have:=O.lt;omega
   have ch:ints (l++[v-1])=ints l++[I ((v-1:Nat):Int)]:=by simp[ints]
   have lD:ku h0 h2 cE (l++[v-1]):=by
    refine⟨⟨bW,mF,⟨?_,λj aa=>?_⟩,λe=>aI cE e rfl⟩,?_,O.n,by rw[cF];exact Nat.lt_of_lt_of_le O.lt cw,?_⟩
    ·rw[ch,List.length_append];exact a7.frame (by rw[cF];exact Nat.le_refl _) λj aa=>qx j (aI j aa)
    ·rcases hF j aa with er|er
     ·exact a3.new j er
     ·have:=O.F.next;omega
    ·rw[<- iT];exact e1 (hc O.w PE)
    ·refine⟨by rw[<- iT,Kx,dO];exact O.F.aH,by rw[cF];exact Nat.le_trans O.F.next cw,λj aa _=>?_,λak=>?_⟩
     ·have aO:=O.n;have abR:=Nat.lt_of_lt_of_le aa O.F.next
      exact(qx j (by omega)).trans ((ek j abR (λe=>absurd (a3.new j e) (by omega))).trans (O.F.same j aa (λe=>e)))
     ·rw[<- iT];exact z6 (kv (O.F.dx ak)) _ _ _
   have Mi:oc h h2 cE:=⟨by rw[cF];exact cw,λj aa=>⟨⟨by rw[cF];exact Nat.lt_of_lt_of_le aa.1 cw,aa.2.1,λy bb e=>by
    rw[mF] at bb;cases bb;rcases hF j e with er|er
    ·exact aa.2.2 x aQ er
    ·have:=aa.1;omega⟩,(qx j aa.2.1).trans (ek j aa.1 (aa.2.2 x aQ))⟩⟩
   obtain⟨h',c5,dM,fP⟩:=Mr (C:=C) (lo:=lo) (cap:=cap) hv aB d (t+1) (by omega) f (by omega) h2 (l++[v-1]) lD (Mi.a bM W).1 (λj aa=>by rw[(Mi.a bM W).2.cell];exact ae j aa) aJ (by simp;omega);refine⟨h',?_,?_,Mi.trans fP⟩
   ·simp only[aE,a8,b3,Dg,nP,aQ,ki,an,aD,dk,dy];exact c5
   ·have e:hl (v::vs.drop (t+1))=(v-1)::hl (vs.drop (t+1)):=by simp[hl,show 0<v by omega]
    rw[e];simpa using dM
def zp(C:ad):Prop:=∀h0 h cE l bM ob cap lo vs,ku h0 h cE l->q9 h cE bM->(∀j,j<vs.length->h.cell bM (ob+j)=some (I ((vs.getD j 0:Nat):Int)))->(∀v∈vs,v<=4096)->vs.length<=300->l.length<=90000->
 ∃h',C (.fn 93) [.aY bM ob vs.length cap lo,.ptr cE 0] h=some (.ret (.bo []),h')/\ku h0 h' cE (l++hl vs)/\oc h h' cE
theorem aiq{C:ad}(gf:1000<=lf){bM ob:Nat}{cap:Option Nat}{lo:Nat}{vs:List Nat}(O:ku h0 h cE l)(W:q9 h cE bM)(ae:∀j,j<vs.length->h.cell bM (ob+j)=some (I ((vs.getD j 0:Nat):Int)))(hv:∀v∈vs,v<=4096)(aJ:vs.length<=300)(kE:l.length<=90000):
 ∃h',HP C lf (.aY bM ob vs.length cap lo) (.ptr cE 0) h=some (.ret (.bo []),h')/\ku h0 h' cE (l++hl vs)/\oc h h' cE:=by
 obtain⟨h',c5,dM,fP⟩:=Mr (lf:=lf) (C:=C) (cap:=cap) (lo:=lo) hv Oc vs.length 0 (by omega) lf (by omega) h l O W ae aJ (by omega);refine⟨h',?_,dM,fP⟩
 have hlen:eN ax 33 (.aY bM ob vs.length cap lo)=some (I (vs.length:Int)):=by
  simp[eN,Tryd.underlying33]
 unfold HP U7 U6;simp only[cg,cf,hlen];exact c5
theorem VR{P:Program}{t e s n k off:Nat}(hu:P.underlying t=some (.array n e))(aj:dN P e=some s)(aO:1<=n):fK P t (.ptr k off) none none=some (.aY k off n (some n) 0):=by
 have h1:sliceB n n none none=some (0,n):=by
  simp only[sliceB]
  have:(Nat.ble n n&&Nat.ble 0 n)=true:=by rw[Nat.ble_eq_true_of_le (Nat.le_refl n),Nat.ble_eq_true_of_le (Nat.zero_le n)];rfl
  simp only[this,cond_true]
 unfold fK;simp only[hu,aj,h1,pX,force_eq,Nat.sub_zero,Nat.zero_mul,Nat.add_zero]
 have bR:Nat.beq n 0=false:=by
  cases ag:Nat.beq n 0 with
  |false=>rfl
  |true=>exact absurd (Nat.eq_of_beq_eq_true ag) (by omega)
 simp only[bR,cond_false]
theorem add_one{C:ad}(o5:zp C)(O:ku h0 h cE l){v:Nat}(hv:v<=4096)(kE:l.length<=90000):
 ∃x h1 h',iJ ax 33 1 [0] [I (v:Int)] h=some (x,h1)/\C (.fn 93) [x,.ptr cE 0] h1=some (.ret (.bo []),h')/\ku h0 h' cE (l++hl [v])/\oc h h' cE:=by
 obtain⟨z,a1,iB⟩:=vm.a1;have ag:=Li (h:=h) (y:=I (v:Int)) vm.hu vm.aj a1 iB rfl rfl;obtain⟨gF,s1,cQ⟩:=O.new (dR 3 [I (v:Int)])
 obtain⟨h',aQ,lD,s2⟩:=o5 h0 _ cE l h.next 0 (some 1) 0 [v] gF cQ (λj aa=>by
  have:j=0:=by simpa using aa
  subst this
  rw[Nat.zero_add,lK,oR];rfl) (λu hu=>by simp at hu;omega) (by simp) kE
 exact⟨_,_,h',ag,aQ,lD,s1.trans s2⟩
theorem azB{f:Nat->Nat}{b:Nat}(ak:∀c,f c<=b)(a n:Nat):∀v∈eO f a n,v<=b:=λv hv=>by
 obtain⟨j,_,rfl⟩:=List.mem_map.1 hv;exact ak _
theorem Mt{C:ad}(o5:zp C)(O:ku h0 h cE l){k off:Nat}{f:Nat->Nat}{a n:Nat}(W:q9 h cE k)(ae:∀j,j<n->h.cell k (off+j)=some (I ((f (a+j):Nat):Int)))(ak:∀c,f c<=4096)(aO:n<=300)(kE:l.length<=90000):
 ∃h',C (.fn 93) [.aY k off n (some n) 0,.ptr cE 0] h=some (.ret (.bo []),h')/\ku h0 h' cE (l++hl (eO f a n))/\oc h h' cE:=by
 have:=o5 h0 h cE l k off (some n) 0 (eO f a n) O W (λj aa=>by rw[uI] at aa;rw[azA _ _ aa];exact ae j aa) (azB ak a n) (by rw[uI];exact aO) kE
 rwa[uI] at this
end
theorem aoo{f:Nat->Nat}{q:Nat}(aZ:q<16):((ints (eO f 36 272)).drop (q*17)).take 17=ints (eO f (36+17*q) 17):=by
 unfold ints eO;rw[List.map_map,List.map_map, <- List.map_drop, <- List.map_take];apply List.ext_getElem
 ·simp;omega
 ·intro j h1 h2;simp at h1 h2;simp;congr 2;omega
theorem aio(q j:Nat):36+17*q+(1+j)=37+17*q+j:=by omega
theorem aqm(f:Nat->Nat)(q:Nat):hl (eO f 12 (24+17*q))++hl [f (36+17*q)]++hl (eO f (37+17*q) 16)=hl (eO f 12 (24+17*(q+1))):=by
 have az:24+17*(q+1)=24+17*q+1+16:=by omega
 have aw:12+(24+17*q)=36+17*q:=by omega
 have ch:12+(24+17*q+1)=37+17*q:=by omega
 rw[az,VH f 12 (24+17*q+1) 16,VH f 12 (24+17*q) 1,aw,ch,QR,QR,VI]
theorem I2{f:Nat->Nat}{m a k:Nat}(e:a=12+m):hl (eO f 12 m)++hl (eO f a k)=hl (eO f 12 (m+k)):=by rw[e, <- QR,VH]
theorem ahs{o:Option Value}{n:Nat}(h:o.map (λz=>(c2 z).cells.length)=some n):∃z,o=some z/\(c2 z).cells.length=n:=by
 cases o with
 |none=>cases h
 |some z=>exact⟨z,rfl,by simpa using h⟩
section
variable{lf:Nat}{h:U}{T:dU}{n N:Nat}{wd b:Nat->Nat}{now:Int}{us:Nat->Bool}{nd:Nat->Nat->J}{bl:Nat->Nat->Nat}{i:Nat}
theorem VJ(A:bx h T n N wd b now us nd)(M:cR n N wd nd bl)(hi:i<N){a m:Nat}(dB:12<=a)(hm:a+m<=308):∀j,j<m->h.cell T.aG (i*308+a+j)=some (I ((bl i (a+j):Nat):Int)):=λj aa=>by
 rw[Nat.add_assoc,A.ec i (a+j) hi (by omega),M.cell i (a+j) hi (by omega) (by omega)]
theorem bx.ni{h0:U}{cE:Nat}{l:List Nat}(A:bx h0 T n N wd b now us nd)(O:ku h0 h cE l):bx h T n N wd b now us nd/\q9 h cE T.aG:=by
 refine⟨A.jI O.F,Nat.lt_of_lt_of_le A.la O.F.next,λe=>by have:=O.n;have:=A.la;omega,λx ao e=>?_⟩;obtain⟨bW,aQ,a3,_⟩:=O.c;rw[aQ] at ao;cases ao
 have:=a3.new _ e
 have:=A.la
 omega
theorem adY{C:ad}(o5:zp C){h0:U}{cE:Nat}(A:bx h0 T n N wd b now us nd)(M:cR n N wd nd bl)(hi:i<N)(aB:aC):∀(d q:Nat),q+d=16->∀f,d<f->∀h,ku h0 h cE (hl (eO (bl i) 12 (24+17*q)))->
 ∃h',bp (AT C lf aB) f (some (.ptr cE 0),some (.fn (.func 93) [] [.ptr cE 0]),some (.agg (ints (eO (bl i) 36 272))),some (I (q:Int))) h=aB (some (.ptr cE 0)) h'/\ku h0 h' cE (jJ bl i)
 |0,q,aF,f,ak,h,O=>by
  obtain⟨f,rfl⟩:=dE f (by omega);have e:q=16:=by omega
  subst e;refine⟨h,?_,O⟩;rw[dh];unfold AT EO;have a8:decide (((16:Nat):Int)<(16:Int))=false:=by simp
  simp only[aE,a8]
 |d+1,q,aF,f,ak,h,O=>by
  obtain⟨f,rfl⟩:=dE f (by omega);have a8:decide ((q:Int)<(16:Int))=true:=bw (by omega);have dy:IntKind.i64.wrap ((q:Int)+1)=((q+1:Nat):Int):=cH (by omega);have fv:=A.st.cF;have hle:∀c,bl i c<=4096:=λc=>Nat.le_trans (M.le i c) fv
  have b3:y8 ax 123 (.agg (ints (eO (bl i) 36 272))) (I (q:Int))=some (.agg (ints (eO (bl i) (36+17*q) 17))):=by
   have hu:ax.underlying 123=some (.array 16 122):=Tryd.underlying123;have aj:dN ax 122=some 17:=by kernel_rfl
   have bX:oW ax 122=some true:=by kernel_rfl
   have ag:Nat.blt q 16=true:=by rw[Nat.blt_eq];omega
   have ae:Nat.ble (q*17+17) (ints (eO (bl i) 36 272)).length=true:=by rw[ints,List.length_map,uI];exact Nat.ble_eq_true_of_le (by omega)
   have anx:hL (I (q:Int))=some q:=rfl;unfold y8;simp only[anx,hu,aj,ag,cond_true,pN,bX,ae];rw[aoo (by omega)]
  obtain⟨z,a1,iB⟩:∃z,hE ax 122=some z/\(c2 z).cells.length=17:=ahs (by kernel_rfl);have sB:=zj (P:=ax) (e:=122) (h:=h) a1;generalize jW:dR 122 (c2 z).cells=ob at *
  have tf:(h.new ob).wr h.next 17:=by
   have:=mT (h:=h) (o:=ob) (by rw[<- jW];rfl)
   rw[show ob.n=17 by rw[<- jW];exact iB] at this;exact this
  obtain⟨gF,s1,cQ⟩:=O.new ob
  have Iw:(J.agg (ints (eO (bl i) (36+17*q) 17))).cells.length=17:=by
   show(ints (eO (bl i) (36+17*q) 17)).length=17;rw[ints,List.length_map,uI]
  have iW:eA (J.agg (ints (eO (bl i) (36+17*q) 17))).cells=true:=Xi .i64 (λ(i:Nat)=>(i:Int)) _;have dk:=jt (n:=17) (off:=0) (y:= .agg (ints (eO (bl i) (36+17*q) 17))) tf Iw (by omega) iW;have h6:(J.agg (ints (eO (bl i) (36+17*q) 17))).cells=ints (eO (bl i) (36+17*q) 17):=rfl;rw[h6] at dk Iw;have lQ:h0.next<=h.next:=O.F.next
  obtain⟨lD,cL⟩:=gF.set (off:=0) (ys:=ints (eO (bl i) (36+17*q) 17)) cQ lQ
  have eB:∀j,j<17->((h.new ob).set h.next 0 (ints (eO (bl i) (36+17*q) 17))).cell h.next j=some (I ((bl i (36+17*q+j):Nat):Int)):=λj aa=>by
   rw[ir tf (by omega) (Nat.zero_le _) (by omega),Nat.sub_zero];simp[ints,eO,aa]
  generalize bd:(h.new ob).set h.next 0 (ints (eO (bl i) (36+17*q) 17))=g at *
  have c0:=eB 0 (by omega);rw[Nat.add_zero] at c0;have K0:=cL h.next cQ
  have hB:=I1 (eO (bl i) 12 (24+17*q));rw[uI] at hB;obtain⟨x3,g3,g4,an,aD,w8,ff⟩:=add_one o5 lD (v:=bl i (36+17*q)) (hle _) (by omega);have oK:=VR (P:=ax) (t:=120) (n:=16) (s:=1) (k:=h.next) (off:=1) Tryd.underlying120 (by kernel_rfl) (by omega);have cd:=I1 [bl i (36+17*q)];simp only[List.length_cons,List.length_nil] at cd
  obtain⟨g5,bR,vc,oS⟩:=Mt o5 w8 (k:=h.next) (off:=1) (f:=bl i) (a:=37+17*q) (n:=16) (ff.a _ K0).1 (λj aa=>by
   rw[(ff.a _ K0).2.cell,eB (1+j) (by omega),aio]) hle (by omega) (by rw[List.length_append];omega)
  have jk:=aqm (bl i) q;rw[jk] at vc;obtain⟨h',c5,dM⟩:=adY o5 A M hi aB d (q+1) (by omega) f (by omega) g5 vc;refine⟨h',?_,dM⟩;rw[dh];show EO C lf (λx3 bV jx uT h=>bp (AT C lf aB) f (x3,bV,jx,uT) h) aB (some (.ptr cE 0)) (some (.fn (.func 93) [] [.ptr cE 0])) (some (.agg (ints (eO (bl i) 36 272)))) (some (I (q:Int))) h=_;unfold EO;simp only[aE,a8,b3,sB,dk,c0,an,fb,rr,List.nil_append,List.cons_append,aD,oK,bR,dy];exact c5
def LV(C:ad):Prop:=∀h T n N wd b now us nd bl i,bx h T n N wd b now us nd->cR n N wd nd bl->i<N->∃x h',C (.fn 79) [.ptr T.aG (i*308)] h=some (.ret x,h')/\fM h h' x (jJ bl i)/\aN h h' (λ_=>False)
theorem aqn{C:ad}(gf:1000<=lf)(o5:zp C)(A:bx h T n N wd b now us nd)(M:cR n N wd nd bl)(hi:i<N):
 ∃x h',HK C lf (.ptr T.aG (i*308)) h=some (.ret x,h')/\fM h h' x (jJ bl i)/\aN h h' (λ_=>False):=by
 have fv:=A.st.cF;have hle:∀c,bl i c<=4096:=λc=>Nat.le_trans (M.le i c) fv
 have a1:hE ax 33=some (.slice none 0 0):=by kernel_rfl
 have sB:=zj (P:=ax) (e:=33) (h:=h) a1;have qA:(c2 (.slice none 0 0)).cells=[.val (.slice none 0 0)]:=rfl;rw[qA] at sB;generalize iV:dR 33 [.val (.slice none 0 0)]=dH at *
 have cQ:(h.new dH).wr h.next 1:=by
  have:=mT (h:=h) (o:=dH) (by rw[<- iV];rfl)
  rw[show dH.n=1 by rw[<- iV];rfl] at this;exact this
 have aQ:(h.new dH).cell h.next 0=some (.val (.slice none 0 0)):=by rw[lK, <- iV,oR];rfl
 have gF:ku h (h.new dH) h.next (hl (eO (bl i) 12 0)):=⟨⟨_,aQ,⟨hX.nil _ _ _,λj aa=>by cases aa⟩,λe=>by cases e⟩,cQ,Nat.le_refl _,by simp,aN.new _ _ _⟩
 generalize nO:h.new dH=g1 at *;have hB:∀m,m<=300->(hl (eO (bl i) 12 m)).length<=300:=λm hm=>by have:=I1 (eO (bl i) 12 m);rw[uI] at this;omega
 obtain⟨b7,y1⟩:=A.ni gF;have azK:=VR (P:=ax) (t:=119) (n:=6) (s:=1) (k:=T.aG) (off:=i*308+12) Tryd.underlying119 (by kernel_rfl) (by omega);obtain⟨g2,d1,lD,_⟩:=Mt o5 gF (k:=T.aG) (off:=i*308+12) (f:=bl i) (a:=12) (n:=6) y1 (VJ b7 M hi (by omega) (by omega)) hle (by omega) (Nat.le_trans (hB 0 (by omega)) (by omega));rw[I2 rfl] at lD;obtain⟨c9,tI⟩:=A.ni lD;have abE:=c9.ec i 18 hi (by omega);rw[M.cell i 18 hi (by omega) (by omega)] at abE;obtain⟨x3,g3,g4,an,aD,w8,ff⟩:=add_one o5 lD (v:=bl i 18) (hle _) (Nat.le_trans (hB _ (by omega)) (by omega));rw[<- VI (bl i) 18,I2 rfl] at w8;obtain⟨kr,zi⟩:=A.ni w8;have azL:=VR (P:=ax) (t:=120) (n:=16) (s:=1) (k:=T.aG) (off:=i*308+19) Tryd.underlying120 (by kernel_rfl) (by omega);obtain⟨g5,d5,vc,_⟩:=Mt o5 w8 (k:=T.aG) (off:=i*308+19) (f:=bl i) (a:=19) (n:=16) zi (VJ kr M hi (by omega) (by omega)) hle (by omega) (Nat.le_trans (hB _ (by omega)) (by omega));rw[I2 rfl] at vc;obtain⟨ahv,La⟩:=A.ni vc;have abF:=ahv.ec i 35 hi (by omega);rw[M.cell i 35 hi (by omega) (by omega)] at abF;obtain⟨aM,g6,g7,ek,hF,LU,afW⟩:=add_one o5 vc (v:=bl i 35) (hle _) (Nat.le_trans (hB _ (by omega)) (by omega));rw[<- VI (bl i) 35,I2 rfl] at LU;obtain⟨WB,ahf⟩:=A.ni LU;obtain⟨md,qv,_,_⟩:=WB.wn
 have nR:iD 272 (.ptr T.aG (i*308+36)) g7=some (.agg (ints (eO (bl i) 36 272))):=by
  rw[v7 qv,qd (ys:=ints (eO (bl i) 36 272)) (by rw[ints,List.length_map,uI]) λj aa=>?_]
  ·rfl
  ·rw[VJ WB M hi (by omega) (by omega) j aa];simp[ints,eO,aa]
 obtain⟨h',c5,dM⟩:=adY (lf:=lf) (C:=C) o5 A M hi (λx3 h=>JX C lf G9 x3 h) 16 0 (by omega) lf (by omega) g7 LU;obtain⟨x,bQ,cn,fl⟩:=dM.c;refine⟨x,h',?_,cn,dM.F⟩;unfold HK Uw Uv Uu Ut;simp only[aE,sB];unfold Us Ur;simp only[aE];unfold Uq Up;simp only[aE,azK,fb,rr,List.nil_append,List.cons_append,d1];unfold Uo Un;have aCX:i*308+18+0=i*308+18:=rfl;simp only[aE,aCX,abE,an,fb,rr,List.nil_append,List.cons_append,aD];unfold Um Ul;have GX:i*308+18+1=i*308+19:=rfl;simp only[aE,GX,azL,fb,rr,List.nil_append,List.cons_append,d5];unfold Uk Uj;simp only[aE,abF,ek,fb,rr,List.nil_append,List.cons_append,hF];unfold Ui Uh Ug;simp only[aE,nR];refine Eq.trans c5 ?_;unfold JX G9;simp only[aE,bQ]
end
section
variable{lf:Nat}{h:U}{T:dU}{n N:Nat}{wd b:Nat->Nat}{now:Int}{us:Nat->Bool}{nd:Nat->Nat->J}{bl:Nat->Nat->Nat}{i:Nat}
end
noncomputable section
variable{C:ad}{lf:Nat}{bc a6 gi hJ gj hK qF qG qH qI qJ qK qC qD qE:gD}{ar:kR}
def ZL:ca ax:=dv 55 Tryd.f55 Tryd.func55 (by kernel_rfl)
noncomputable def NP(h:U):ab:=
 some (.ret (.bo []),h)
def Tr(C:ad)(lf:Nat)(n:cq)(x0 x1:O)(h:U):ab:=
 aQ C 73 x0 h λa k=>fV a (ob x0 λa=>ob x1 λb=>ed 2 a λa=>ob (st 1 a b k) n) (n k)
theorem auB{n:cq}:∀F h,au ZL C lf [] F h (dZ n) a6 ar=bf (Tr C lf n) 0 1 F h:=by
 intro F h;kernel_rfl
def Hx(C:ad)(lf:Nat)(al an:J)(h:U):ab:=Tr C lf NP (some al) (some an) h
def aaC:cK ax:=hP ZL Hx (λC lf al an h=>c8 (K:=(dZ NP)) (by kernel_rfl) (Eq.trans (auB _ h) (by kernel_rfl))) (by kernel_rfl)
def ZM:ca ax:=dv 56 Tryd.f56 Tryd.func56 (by kernel_rfl)
noncomputable def NQ(aM:O)(h:U):ab:=
 ob aM λa=>some (.ret a,h)
def Ts(C:ad)(lf:Nat)(r:aC)(x0 x1 x2:O)(h:U):ab:=
 a3 C 74 x0 x1 h λa k=>dn a λa b=>eF .neq 26 b (I 0) (r (some b) k) (ed 1 a λb=>eR 6 b k λb=>cm .and 68 b (I 61440) λb=>cB .and 68 x2 (I 4095) λc=>cm .or 68 b c λb=>ed 1 a λc=>ob (b5 6 c) λc=>ob (st 1 c b k) λk=>dI 2 x0 k λb=>ed 1 a λa=>ob (b5 9 a) λa=>ob (st 1 a b k) (r (bE 0)))
theorem auC{r:aC}:∀F h,au ZM C lf [] F h bc (aX r 6) ar=bB (Ts C lf r) 0 1 2 F h:=by
 intro F h;kernel_rfl
def CL(C:ad)(lf:Nat)(al an aD:J)(h:U):ab:=Ts C lf NQ (some al) (some an) (some aD) h
def aaD:cK ax:=nx ZM CL (λC lf al an aD h=>c8 (K:=(aX NQ 6)) (by kernel_rfl) (Eq.trans (auC _ h) (by kernel_rfl))) (by kernel_rfl)
def ZN:ca ax:=dv 57 Tryd.f57 Tryd.func57 (by kernel_rfl)
noncomputable def xB(aT:O)(h:U):ab:=
 ob aT λa=>some (.ret a,h)
def Tt(C:ad)(lf:Nat)(r:aC)(x0 x9:O)(h:U):ab:=
 ob x9 λa=>dI 2 x0 h λb=>ed 1 a λa=>ob (b5 9 a) λa=>ob (st 1 a b h) (r (bE 0))
def aeE(C:ad)(lf:Nat)(n:a0)(x0 x3 x9:O)(h:U):ab:=
 gT .geq 3 x3 (I 0) (ob x9 λa=>ob x3 λb=>ed 1 a λa=>ob (b5 3 a) λa=>ob (st 1 a b h) (n x0 x9)) (n x0 x9 h)
def Tu(C:ad)(lf:Nat)(r:aC)(x0 x3 x9:O)(h:U):ab:=
 aeE C lf (Tt C lf r) x0 x3 x9 h
def aeF(C:ad)(lf:Nat)(n:bG)(x0 x2 x3 x9:O)(h:U):ab:=
 gT .geq 3 x2 (I 0) (ob x9 λa=>ob x2 λb=>ed 1 a λa=>ob (b5 2 a) λa=>ob (st 1 a b h) (n x0 x3 x9)) (n x0 x3 x9 h)
def aeG(C:ad)(lf:Nat)(r:aC)(x0 x2 x3 x9:O)(h:U):ab:=
 aeF C lf (Tu C lf r) x0 x2 x3 x9 h
def aeH(C:ad)(lf:Nat)(n:br)(r:aC)(x0 x2 x3 x9:O)(h:U):ab:=
 cB .lss 3 x2 (I (-1)) λa=>h4 .lss 3 a x3 (I (-1)) h λb k=>n7 a b (r (bE 22) k) (n x0 x2 x3 x9 k)
def aeI(C:ad)(lf:Nat)(r:aC)(x0 x2 x3 x9:O)(h:U):ab:=
 aeH C lf (aeG C lf r) r x0 x2 x3 x9 h
def Tv(C:ad)(lf:Nat)(n:br)(r:aC)(x0 x2 x3 x9 aW:O)(h:U):ab:=
 gT .neq 26 aW (I 0) (ob aW λa=>r (some a) h) (n x0 x2 x3 x9 h)
def Tw(C:ad)(lf:Nat)(r:aC)(x0 x2 x3 x9 aW:O)(h:U):ab:=
 Tv C lf (aeI C lf r) r x0 x2 x3 x9 aW h
def aeJ(C:ad)(lf:Nat)(n:dq)(x0 x1 x2 x3:O)(h:U):ab:=
 a3 C 74 x0 x1 h λa k=>dn a λa b=>n x0 x2 x3 (some a) (some b) k
def aeK(C:ad)(lf:Nat)(r:aC)(x0 x1 x2 x3:O)(h:U):ab:=
 aeJ C lf (Tw C lf r) x0 x1 x2 x3 h
noncomputable def aeL(C:ad)(lf:Nat)(n:br)(x0 x1 x2 x3:O)(h:U):ab:=
 n x0 x1 x2 x3 h
def Tx(C:ad)(lf:Nat)(r:aC)(x0 x1 x2 x3:O)(h:U):ab:=
 aeL C lf (aeK C lf r) x0 x1 x2 x3 h
theorem auD{r:aC}:∀F h,au ZN C lf [] F h bc (aX r 8) ar=bm (Tx C lf r) 0 1 2 3 F h:=by
 intro F h;kernel_rfl
def Aa(C:ad)(lf:Nat)(al an aD a7:J)(h:U):ab:=Tx C lf xB (some al) (some an) (some aD) (some a7) h
def aaE:cK ax:=rj ZN Aa (λC lf al an aD a7 h=>c8 (K:=(aX xB 8)) (by kernel_rfl) (Eq.trans (auD _ h) (by kernel_rfl))) (by kernel_rfl)
def ZO:ca ax:=dv 58 Tryd.f58 Tryd.func58 (by kernel_rfl)
noncomputable def NR(aT:O)(h:U):ab:=
 ob aT λa=>some (.ret a,h)
def Ty(C:ad)(lf:Nat)(r:aC)(x0 x1 x2 x3:O)(h:U):ab:=
 a3 C 74 x0 x1 h λa k=>dn a λa b=>eF .neq 26 b (I 0) (r (some b) k) (ob x2 λb=>ob x3 λc=>dI 2 x0 k λd=>ed 1 a λg=>ob (b5 7 g) λg=>ob (st 1 g b k) λk=>ed 1 a λb=>ob (b5 8 b) λb=>ob (st 1 b c k) λk=>ed 1 a λa=>ob (b5 9 a) λa=>ob (st 1 a d k) (r (bE 0)))
theorem auE{r:aC}:∀F h,au ZO C lf [] F h bc (aX r 8) ar=bm (Ty C lf r) 0 1 2 3 F h:=by
 intro F h;kernel_rfl
def CM(C:ad)(lf:Nat)(al an aD a7:J)(h:U):ab:=Ty C lf NR (some al) (some an) (some aD) (some a7) h
def aaF:cK ax:=rj ZO CM (λC lf al an aD a7 h=>c8 (K:=(aX NR 8)) (by kernel_rfl) (Eq.trans (auE _ h) (by kernel_rfl))) (by kernel_rfl)
def ZQ:ca ax:=dv 60 Tryd.f60 Tryd.func60 (by kernel_rfl)
noncomputable def NT(bV:O)(h:U):ab:=
 ob bV λa=>some (.ret a,h)
def TA(C:ad)(lf:Nat)(r:aC)(x0 x1:O)(h:U):ab:=
 a3 C 74 x0 x1 h λa k=>dn a λa b=>eF .neq 26 b (I 0) (r (some b) k) (tr 11 a k λb=>cm .add 3 b (I 1) λb=>ed 11 a λa=>ob (st 1 a b k) (r (bE 0)))
theorem auG{r:aC}:∀F h,au ZQ C lf [] F h bc (aX r 4) ar=bf (TA C lf r) 0 1 F h:=by
 intro F h;kernel_rfl
def CN(C:ad)(lf:Nat)(al an:J)(h:U):ab:=TA C lf NT (some al) (some an) h
def aaH:cK ax:=hP ZQ CN (λC lf al an h=>c8 (K:=(aX NT 4)) (by kernel_rfl) (Eq.trans (auG _ h) (by kernel_rfl))) (by kernel_rfl)
def ZR:ca ax:=dv 61 Tryd.f61 Tryd.func61 (by kernel_rfl)
noncomputable def NU(bV:O)(h:U):ab:=
 ob bV λa=>some (.ret a,h)
def TB(C:ad)(lf:Nat)(r:aC)(x0 x1:O)(h:U):ab:=
 a3 C 74 x0 x1 h λa k=>dn a λa b=>eF .neq 26 b (I 0) (r (some b) k) (tr 11 a k λb=>eF .eql 3 b (I 0) (r (bE 22) k) (tr 11 a k λb=>cm .sub 3 b (I 1) λb=>uE 11 a b k λk=>ob x0 λb=>da C 89 [b,a] k λa=>r (bE 0)))
theorem auH{r:aC}:∀F h,au ZR C lf [] F h bc (aX r 4) ar=bf (TB C lf r) 0 1 F h:=by
 intro F h;kernel_rfl
def Ab(C:ad)(lf:Nat)(al an:J)(h:U):ab:=TB C lf NU (some al) (some an) h
def aaI:cK ax:=hP ZR Ab (λC lf al an h=>c8 (K:=(aX NU 4)) (by kernel_rfl) (Eq.trans (auH _ h) (by kernel_rfl))) (by kernel_rfl)
end
theorem XO{P:Program}{t:TypeId}{a b:Int}:bin P .or t (I a) (I b)=some (I (IntKind.i64.wrap ((BitVec.ofInt 64 a|||BitVec.ofInt 64 b).toNat:Int))):=by
 rw[xl _ (.inr (.inl rfl))];simp only[arith,fC];rfl
theorem BB{a:Int}:kM .neg (I a)=some (I (IntKind.i64.wrap (-a))):=by
 show arith .sub .i64 0 a=_;simp only[arith,fC,Int.zero_sub]
def we(m mo:Int):Int:=IntKind.i64.wrap ((BitVec.ofInt 64 (lb m)|||BitVec.ofInt 64 (IntKind.i64.wrap ((BitVec.ofInt 64 mo&&& BitVec.ofInt 64 4095).toNat:Int))).toNat:Int)
section
variable{lf:Nat}{h:U}{T:dU}{n N:Nat}{wd b:Nat->Nat}{now:Int}{us:Nat->Bool}{nd:Nat->Nat->J}{i:Nat}{ino:Int}
theorem sW{C:ad}(fo:mq C)(A:bx h T n N wd b now us nd)(cd: -9223372036854775808<=ino)(c1:ino<9223372036854775808)(ag:db N us ino=false):C (.fn 74) [.ptr T.a9 0,I ino] h=some (.ret (.bo [.val (.pointer none),I 2]),h):=by
 have:=fo h T n N wd b now us nd ino A cd c1
 rwa[ag,if_neg (by simp)] at this
theorem sX{C:ad}(fo:mq C)(A:bx h T n N wd b now us nd)(hi:i<N)(hu:us i=true):C (.fn 74) [.ptr T.a9 0,I ((i+1:Nat):Int)] h=some (.ret (.bo [.ptr T.aG (i*308),I 0]),h):=by
 have k3:=A.hW
 have:=fo h T n N wd b now us nd ((i+1:Nat):Int) A (by omega) (by omega)
 rwa[DU hi hu,if_pos rfl,show((i+1:Nat):Int).toNat-1=i by omega] at this
theorem q2(A:bx h T n N wd b now us nd)(hi:i<N){c:Nat}(h0:c≠0)(ae:c<308)(y:Int):
 ∃h',st 1 (.ptr T.aG (i*308+c)) (I y) h=some h'/\bx h' T n N wd b now us (cO nd i c (I y))/\h'.next=h.next/\aN h h' (· =T.aG):=
 ⟨_,wG A hi ae rfl rfl,A.setNode hi ae h0,dW ..,fO rfl⟩
def Lx(C:ad):Prop:=∀h T n N wd b now us nd (at_:Int),bx h T n N wd b now us nd->∃h',C (.fn 55) [.ptr T.a9 0,I at_] h=some (.ret (.bo []),h')/\bx h' T n N wd b at_ us nd/\h'.next=h.next/\aN h h' (· =T.a9)
theorem bx.VP(A:bx h T n N wd b now us nd)(at_:Int):bx (h.set T.a9 2 [I at_]) T n N wd b at_ us nd:=by
 have aj:∀j,j≠T.a9->cW h (h.set T.a9 2 [I at_]) j:=λj aa=>jb _ _ _ aa
 have d1:=A.d1;have d2:=A.d2;have d3:=A.d3
 exact⟨A.o9,A.hW,A.st.frame (by rw[dW];exact Nat.le_refl _) (aj _ (Ne.symm d1)) (aj _ (Ne.symm d2)),by rw[eG (.inr (by simp))];exact A.c0,by rw[eG (.inr (by simp))];exact A.aQ,
  by rw[ir A.wt (by simp) (Nat.le_refl _) (by simp)];rfl,e1 A.wt,e1 A.wn,λi c hi ae=>by rw[eG (.inl (Ne.symm d3))];exact A.ec i c hi ae,A.mR,A.d1,A.d2,A.d3,A.d4,A.d5,by rw[dW];exact A.lt,by rw[dW];exact A.la⟩
theorem ajR{C:ad}(BX:p5 C)(A:bx h T n N wd b now us nd){at_:Int}:∃h',Hx C lf (.ptr T.a9 0) (I at_) h=some (.ret (.bo []),h')/\bx h' T n N wd b at_ us nd/\h'.next=h.next/\aN h h' (· =T.a9):=by
 have e:=BX h T n N wd b now us nd A;have By:=jt (n:=1) (off:=2) (y:=I at_) A.wt rfl (by omega) rfl;have ae:(J.int .i64 at_).cells=[I at_]:=rfl;rw[ae] at By;refine⟨_,?_,A.VP at_,dW ..,fO rfl⟩;unfold Hx Tr NP;simp only[aE,e,By]
def Gj(C:ad):Prop:=∀h T n N wd b now us nd (ino mo:Int),bx h T n N wd b now us nd-> -9223372036854775808<=ino->ino<9223372036854775808->
 (db N us ino=false->C (.fn 56) [.ptr T.a9 0,I ino,I mo] h=some (.ret (I 2),h))/\
 (∀i m,i<N->us i=true->ino=((i+1:Nat):Int)->nd i 7=I m->∃h',C (.fn 56) [.ptr T.a9 0,I ino,I mo] h=some (.ret (I 0),h')/\
   bx h' T n N wd b now us (cO (cO nd i 7 (I (we m mo))) i 10 (I now))/\h'.next=h.next/\aN h h' (· =T.aG))
theorem azD{C:ad}(fo:mq C)(A:bx h T n N wd b now us nd){mo:Int}(cd: -9223372036854775808<=ino)(c1:ino<9223372036854775808):
 (db N us ino=false->CL C lf (.ptr T.a9 0) (I ino) (I mo) h=some (.ret (I 2),h))/\
 (∀i m,i<N->us i=true->ino=((i+1:Nat):Int)->nd i 7=I m->∃h',CL C lf (.ptr T.a9 0) (I ino) (I mo) h=some (.ret (I 0),h')/\
   bx h' T n N wd b now us (cO (cO nd i 7 (I (we m mo))) i 10 (I now))/\h'.next=h.next/\aN h h' (· =T.aG)):=by
 have d2:decide ((2:Int)≠0)=true:=rfl;have d0:decide ((0:Int)≠0)=false:=rfl;unfold CL Ts NQ;refine⟨λag=>?_,λi m hi hu e hm=>?_⟩
 ·simp only[aE,sW fo A cd c1 ag,List.getElem?_cons_zero,List.getElem?_cons_succ,d2]
 ·subst e;have Dd:=A.ec i 7 hi (by omega);rw[hm] at Dd;obtain⟨h1,s1,b7,cI,aL⟩:=q2 A hi (c:=7) (by omega) (by omega) (we m mo);obtain⟨h2,s2,c9,cF,bF⟩:=q2 b7 hi (c:=10) (by omega) (by omega) now;have Cr:i*308+1+6=i*308+7:=rfl;have kz:i*308+1+9=i*308+10:=rfl;have Dr:IntKind.i64.wrap ((BitVec.ofInt 64 m&&& BitVec.ofInt 64 61440).toNat:Int)=lb m:=rfl;have Ds:IntKind.i64.wrap ((BitVec.ofInt 64 (lb m)|||BitVec.ofInt 64 (IntKind.i64.wrap ((BitVec.ofInt 64 mo&&& BitVec.ofInt 64 4095).toNat:Int))).toNat:Int)=we m mo:=rfl;refine⟨h2,?_,c9,cF.trans cI,aL.trans bF⟩;simp only[aE,sX fo A hi hu,List.getElem?_cons_zero,List.getElem?_cons_succ,d0,Cr,kz,Dd,Cd,XO,Dr,Ds,s1,b7.a3,s2]
def Gl(C:ad):Prop:=∀h T n N wd b now us nd (ino a m:Int),bx h T n N wd b now us nd-> -9223372036854775808<=ino->ino<9223372036854775808->
 (db N us ino=false->C (.fn 58) [.ptr T.a9 0,I ino,I a,I m] h=some (.ret (I 2),h))/\
 (∀i,i<N->us i=true->ino=((i+1:Nat):Int)->∃h',C (.fn 58) [.ptr T.a9 0,I ino,I a,I m] h=some (.ret (I 0),h')/\
   bx h' T n N wd b now us (cO (cO (cO nd i 8 (I a)) i 9 (I m)) i 10 (I now))/\h'.next=h.next/\aN h h' (· =T.aG))
theorem azG{C:ad}(fo:mq C)(A:bx h T n N wd b now us nd){a m:Int}(cd: -9223372036854775808<=ino)(c1:ino<9223372036854775808):
 (db N us ino=false->CM C lf (.ptr T.a9 0) (I ino) (I a) (I m) h=some (.ret (I 2),h))/\
 (∀i,i<N->us i=true->ino=((i+1:Nat):Int)->∃h',CM C lf (.ptr T.a9 0) (I ino) (I a) (I m) h=some (.ret (I 0),h')/\
   bx h' T n N wd b now us (cO (cO (cO nd i 8 (I a)) i 9 (I m)) i 10 (I now))/\h'.next=h.next/\aN h h' (· =T.aG)):=by
 have d2:decide ((2:Int)≠0)=true:=rfl;have d0:decide ((0:Int)≠0)=false:=rfl;unfold CM Ty NR;refine⟨λag=>?_,λi hi hu e=>?_⟩
 ·simp only[aE,sW fo A cd c1 ag,List.getElem?_cons_zero,List.getElem?_cons_succ,d2]
 ·subst e;obtain⟨h1,s1,b7,cI,aL⟩:=q2 A hi (c:=8) (by omega) (by omega) a;obtain⟨h2,s2,c9,cF,bF⟩:=q2 b7 hi (c:=9) (by omega) (by omega) m;obtain⟨h3,eZ,e9,gl,dp⟩:=q2 c9 hi (c:=10) (by omega) (by omega) now;have zV:i*308+1+7=i*308+8:=rfl;have rB:i*308+1+8=i*308+9:=rfl;have kz:i*308+1+9=i*308+10:=rfl;refine⟨h3,?_,e9,by omega,(aL.trans bF).trans dp⟩;simp only[aE,sX fo A hi hu,List.getElem?_cons_zero,List.getElem?_cons_succ,d0,zV,rB,kz,A.a3,s1,s2,eZ]
def qS(nd:Nat->Nat->J)(i:Nat)(u g now:Int):Nat->Nat->J:=cO (if 0<=g then cO (if 0<=u then cO nd i 3 (I u) else nd) i 4 (I g) else if 0<=u then cO nd i 3 (I u) else nd) i 10 (I now)
def Gk(C:ad):Prop:=∀h T n N wd b now us nd (ino u g:Int),bx h T n N wd b now us nd-> -9223372036854775808<=ino->ino<9223372036854775808->
 (db N us ino=false->C (.fn 57) [.ptr T.a9 0,I ino,I u,I g] h=some (.ret (I 2),h))/\
 (∀i,i<N->us i=true->ino=((i+1:Nat):Int)->((u < -1\/g < -1)->C (.fn 57) [.ptr T.a9 0,I ino,I u,I g] h=some (.ret (I 22),h))/\
   (¬(u < -1\/g < -1)->∃h',C (.fn 57) [.ptr T.a9 0,I ino,I u,I g] h=some (.ret (I 0),h')/\
     bx h' T n N wd b now us (qS nd i u g now)/\h'.next=h.next/\aN h h' (· =T.aG)))
theorem azF{C:ad}(fo:mq C)(A:bx h T n N wd b now us nd){u g:Int}(cd: -9223372036854775808<=ino)(c1:ino<9223372036854775808):
 (db N us ino=false->Aa C lf (.ptr T.a9 0) (I ino) (I u) (I g) h=some (.ret (I 2),h))/\
 (∀i,i<N->us i=true->ino=((i+1:Nat):Int)->((u < -1\/g < -1)->Aa C lf (.ptr T.a9 0) (I ino) (I u) (I g) h=some (.ret (I 22),h))/\
   (¬(u < -1\/g < -1)->∃h',Aa C lf (.ptr T.a9 0) (I ino) (I u) (I g) h=some (.ret (I 0),h')/\
     bx h' T n N wd b now us (qS nd i u g now)/\h'.next=h.next/\aN h h' (· =T.aG))):=by
 have d2:decide ((2:Int)≠0)=true:=rfl;have d0:decide ((0:Int)≠0)=false:=rfl;unfold Aa Tx aeL aeK aeJ;refine⟨λag=>?_,λi hi hu e=>?_⟩
 ·simp only[aE,sW fo A cd c1 ag,List.getElem?_cons_zero,List.getElem?_cons_succ];unfold Tw Tv xB;simp only[aE,d2]
 ·subst e;simp only[aE,sX fo A hi hu,List.getElem?_cons_zero,List.getElem?_cons_succ];unfold Tw Tv;simp only[aE,d0];unfold aeI aeH;refine⟨λag=>?_,λag=>?_⟩
  ·unfold xB;by_cases h1:u < -1
   ·simp only[aE,bw h1]
   ·have h2:g < -1:=by omega
    simp only[aE,bq h1,bw h2]
  ·have h1:decide (u < -1)=false:=bq (by omega);have h2:decide (g < -1)=false:=bq (by omega);have ch:i*308+1+2=i*308+3:=rfl;have ef:i*308+1+3=i*308+4:=rfl;have kz:i*308+1+9=i*308+10:=rfl;simp only[aE,h1,h2];unfold aeG aeF
   have fin:∀h2 wg,bx h2 T n N wd b now us wg->∃h',Tt C lf xB (some (.ptr T.a9 0)) (some (.ptr T.aG (i*308))) h2=some (.ret (I 0),h')/\bx h' T n N wd b now us (cO wg i 10 (I now))/\h'.next=h2.next/\aN h2 h' (· =T.aG):=λh2 wg c9=>by
    obtain⟨h3,eZ,e9,gl,dp⟩:=q2 c9 hi (c:=10) (by omega) (by omega) now;refine⟨h3,?_,e9,gl,dp⟩;unfold Tt xB;simp only[aE,c9.a3,kz,eZ]
   have C2:∀h2 wg,bx h2 T n N wd b now us wg->∃h',Tu C lf xB (some (.ptr T.a9 0)) (some (I g)) (some (.ptr T.aG (i*308))) h2=some (.ret (I 0),h')/\
    bx h' T n N wd b now us (cO (if 0<=g then cO wg i 4 (I g) else wg) i 10 (I now))/\h'.next=h2.next/\aN h2 h' (· =T.aG):=λh2 wg c9=>by
    unfold Tu aeE;by_cases bd:0<=g
    ·obtain⟨h3,eZ,e9,gl,dp⟩:=q2 c9 hi (c:=4) (by omega) (by omega) g;obtain⟨aU,ff,kr,lg,gC⟩:=fin h3 _ e9;rw[if_pos bd];refine⟨aU,?_,kr,by omega,dp.trans gC⟩;simp only[aE,bw bd,ef,eZ];exact ff
    ·obtain⟨aU,ff,kr,lg,gC⟩:=fin h2 _ c9;rw[if_neg bd];refine⟨aU,?_,kr,lg,gC⟩;simp only[aE,bq bd];exact ff
   by_cases uw:0<=u
   ·obtain⟨h3,eZ,e9,gl,dp⟩:=q2 A hi (c:=3) (by omega) (by omega) u;obtain⟨aU,ff,kr,lg,gC⟩:=C2 h3 _ e9;refine⟨aU,?_,by unfold qS;rw[if_pos uw];exact kr,by omega,dp.trans gC⟩;simp only[aE,bw uw,ch,eZ];exact ff
   ·obtain⟨aU,ff,kr,lg,gC⟩:=C2 h _ A;refine⟨aU,?_,by unfold qS;rw[if_neg uw];exact kr,lg,gC⟩;simp only[aE,bq uw];exact ff
end
def zu(i:Nat)(L H:Int)(wd c6:Nat->Nat)(us eD:Nat->Bool)(nd eQ:Nat->Nat->J)(bl bl':Nat->Nat->Nat):Prop:=
 ((L≠0\/H≠0)/\c6=wd/\eD=us/\eQ=nd/\bl'=bl)\/
 (L=0/\H=0/\eD=c3 us i false/\eQ=ie nd i fr/\bl'=m1 bl i/\∀j,bU c6 j=true↔(bU wd j=true/\∀c,12<=c->c<308->bl i c≠j+1))
section
variable{lf:Nat}{h:U}{T:dU}{n N:Nat}{wd b:Nat->Nat}{now:Int}{us:Nat->Bool}{nd:Nat->Nat->J}{bl:Nat->Nat->Nat}{i:Nat}{ino:Int}
theorem Zl{C:ad}(Fr:BU C)(A:bx h T n N wd b now us nd)(M:cR n N wd nd bl)(hi:i<N){L H:Int}(hS:nd i 2=I L)(iy:nd i 11=I H):
 ∃h' c6 eD eQ bl',C (.fn 89) [.ptr T.a9 0,.ptr T.aG (i*308)] h=some (.ret (.bo []),h')/\bx h' T n N c6 b now eD eQ/\cR n N c6 eQ bl'/\zu i L H wd c6 us eD nd eQ bl bl'/\aN h h' (λj=>j=T.bJ\/j=T.aG):=by
 obtain⟨f1,f2⟩:=Fr h T n N wd b now us nd bl i L H A M hi hS iy;by_cases a1:L≠0\/H≠0
 ·exact⟨h,wd,us,nd,bl,f1 a1,A,M,.inl ⟨a1,rfl,rfl,rfl,rfl⟩,aN.refl _ _⟩
 ·have h1:L=0:=by omega
  have h2:H=0:=by omega
  obtain⟨h',c6,az,aw,ch,ef,jk⟩:=f2 h1 h2;exact⟨h',c6,_,_,_,az,aw,ch,.inr ⟨h1,h2,rfl,rfl,rfl,ef⟩,jk⟩
def FO(C:ad):Prop:=∀h T n N wd b now us nd (ino:Int),bx h T n N wd b now us nd-> -9223372036854775808<=ino->ino<9223372036854775808->
 (db N us ino=false->C (.fn 60) [.ptr T.a9 0,I ino] h=some (.ret (I 2),h))/\
 (∀i H,i<N->us i=true->ino=((i+1:Nat):Int)->nd i 11=I H->∃h',C (.fn 60) [.ptr T.a9 0,I ino] h=some (.ret (I 0),h')/\
   bx h' T n N wd b now us (cO nd i 11 (I (IntKind.i64.wrap (H+1))))/\h'.next=h.next/\aN h h' (· =T.aG))
theorem anF{C:ad}(fo:mq C)(A:bx h T n N wd b now us nd)(cd: -9223372036854775808<=ino)(c1:ino<9223372036854775808):
 (db N us ino=false->CN C lf (.ptr T.a9 0) (I ino) h=some (.ret (I 2),h))/\
 (∀i H,i<N->us i=true->ino=((i+1:Nat):Int)->nd i 11=I H->∃h',CN C lf (.ptr T.a9 0) (I ino) h=some (.ret (I 0),h')/\
   bx h' T n N wd b now us (cO nd i 11 (I (IntKind.i64.wrap (H+1))))/\h'.next=h.next/\aN h h' (· =T.aG)):=by
 have d2:decide ((2:Int)≠0)=true:=rfl;have d0:decide ((0:Int)≠0)=false:=rfl;unfold CN TA NT;refine⟨λag=>?_,λi H hi hu e iy=>?_⟩
 ·simp only[aE,sW fo A cd c1 ag,List.getElem?_cons_zero,List.getElem?_cons_succ,d2]
 ·subst e;have ae:=A.ec i 11 hi (by omega);rw[iy] at ae;obtain⟨h1,s1,b7,cI,aL⟩:=q2 A hi (c:=11) (by omega) (by omega) (IntKind.i64.wrap (H+1));refine⟨h1,?_,b7,cI,aL⟩;simp only[aE,sX fo A hi hu,List.getElem?_cons_zero,List.getElem?_cons_succ,d0,ae,s1]
def Gi(C:ad):Prop:=∀h T n N wd b now us nd bl (ino:Int),bx h T n N wd b now us nd->cR n N wd nd bl-> -9223372036854775808<=ino->ino<9223372036854775808->
 (db N us ino=false->C (.fn 61) [.ptr T.a9 0,I ino] h=some (.ret (I 2),h))/\
 (∀i L H,i<N->us i=true->ino=((i+1:Nat):Int)->nd i 2=I L->nd i 11=I H->(H=0->C (.fn 61) [.ptr T.a9 0,I ino] h=some (.ret (I 22),h))/\
   (H≠0->∃h' c6 eD eQ bl',C (.fn 61) [.ptr T.a9 0,I ino] h=some (.ret (I 0),h')/\bx h' T n N c6 b now eD eQ/\cR n N c6 eQ bl'/\
     zu i L (IntKind.i64.wrap (H-1)) wd c6 us eD (cO nd i 11 (I (IntKind.i64.wrap (H-1)))) eQ bl bl'/\aN h h' (λj=>j=T.bJ\/j=T.aG)))
theorem ayB{C:ad}(fo:mq C)(Fr:BU C)(A:bx h T n N wd b now us nd)(M:cR n N wd nd bl)(cd: -9223372036854775808<=ino)(c1:ino<9223372036854775808):
 (db N us ino=false->Ab C lf (.ptr T.a9 0) (I ino) h=some (.ret (I 2),h))/\
 (∀i L H,i<N->us i=true->ino=((i+1:Nat):Int)->nd i 2=I L->nd i 11=I H->(H=0->Ab C lf (.ptr T.a9 0) (I ino) h=some (.ret (I 22),h))/\
   (H≠0->∃h' c6 eD eQ bl',Ab C lf (.ptr T.a9 0) (I ino) h=some (.ret (I 0),h')/\bx h' T n N c6 b now eD eQ/\cR n N c6 eQ bl'/\
     zu i L (IntKind.i64.wrap (H-1)) wd c6 us eD (cO nd i 11 (I (IntKind.i64.wrap (H-1)))) eQ bl bl'/\aN h h' (λj=>j=T.bJ\/j=T.aG))):=by
 have d2:decide ((2:Int)≠0)=true:=rfl;have d0:decide ((0:Int)≠0)=false:=rfl;unfold Ab TB NU;refine⟨λag=>?_,λi L H hi hu e hS iy=>⟨λa1=>?_,λa1=>?_⟩⟩
 ·simp only[aE,sW fo A cd c1 ag,List.getElem?_cons_zero,List.getElem?_cons_succ,d2]
 ·subst e;have ae:=A.ec i 11 hi (by omega);rw[iy] at ae;simp only[aE,sX fo A hi hu,List.getElem?_cons_zero,List.getElem?_cons_succ,d0,ae,bw a1]
 ·subst e;have ae:=A.ec i 11 hi (by omega);rw[iy] at ae;obtain⟨h1,s1,b7,cI,aL⟩:=q2 A hi (c:=11) (by omega) (by omega) (IntKind.i64.wrap (H-1));obtain⟨h2,c6,eD,eQ,bl',a3,c9,M2,mV,bF⟩:=Zl Fr b7 (M.kW (by omega)) hi (L:=L) (H:=IntKind.i64.wrap (H-1)) (by rw[ha _ _ (by omega)];exact hS) (mS ..);refine⟨h2,c6,eD,eQ,bl',?_,c9,M2,mV,(aL.eb λ_ e=> .inr e).trans bF⟩;simp only[aE,sX fo A hi hu,List.getElem?_cons_zero,List.getElem?_cons_succ,d0,ae,bq a1,s1,a3]
def FT(C:ad):Prop:=∀h T n N wd b now us nd bl (ino by_:Int),bx h T n N wd b now us nd->cR n N wd nd bl-> -9223372036854775808<=ino->ino<9223372036854775808->
 (db N us ino=false->C (.fn 59) [.ptr T.a9 0,I ino,I by_] h=some (.ret (I 2),h))/\
 (∀i L H,i<N->us i=true->ino=((i+1:Nat):Int)->nd i 2=I L->0<=L->L<=16->nd i 11=I H->(by_ < -L->C (.fn 59) [.ptr T.a9 0,I ino,I by_] h=some (.ret (I 22),h))/\
   (16-L<by_->C (.fn 59) [.ptr T.a9 0,I ino,I by_] h=some (.ret (I 31),h))/\
   (-L<=by_->by_<=16-L->∃h' c6 eD eQ bl',C (.fn 59) [.ptr T.a9 0,I ino,I by_] h=some (.ret (I 0),h')/\bx h' T n N c6 b now eD eQ/\cR n N c6 eQ bl'/\
     zu i (L+by_) H wd c6 us eD (cO (cO nd i 2 (I (L+by_))) i 10 (I now)) eQ bl bl'/\aN h h' (λj=>j=T.bJ\/j=T.aG)))
theorem ao2{C:ad}(fo:mq C)(Fr:BU C){by_:Int}(A:bx h T n N wd b now us nd)(M:cR n N wd nd bl)(cd: -9223372036854775808<=ino)(c1:ino<9223372036854775808):
 (db N us ino=false->xI C lf (.ptr T.a9 0) (I ino) (I by_) h=some (.ret (I 2),h))/\
 (∀i L H,i<N->us i=true->ino=((i+1:Nat):Int)->nd i 2=I L->0<=L->L<=16->nd i 11=I H->(by_ < -L->xI C lf (.ptr T.a9 0) (I ino) (I by_) h=some (.ret (I 22),h))/\
   (16-L<by_->xI C lf (.ptr T.a9 0) (I ino) (I by_) h=some (.ret (I 31),h))/\
   (-L<=by_->by_<=16-L->∃h' c6 eD eQ bl',xI C lf (.ptr T.a9 0) (I ino) (I by_) h=some (.ret (I 0),h')/\bx h' T n N c6 b now eD eQ/\cR n N c6 eQ bl'/\
     zu i (L+by_) H wd c6 us eD (cO (cO nd i 2 (I (L+by_))) i 10 (I now)) eQ bl bl'/\aN h h' (λj=>j=T.bJ\/j=T.aG))):=by
 have d2:decide ((2:Int)≠0)=true:=rfl;have d0:decide ((0:Int)≠0)=false:=rfl;unfold xI Tz NS;refine⟨λag=>?_,λi L H hi hu e hS amw amx iy=>?_⟩
 ·simp only[aE,sW fo A cd c1 ag,List.getElem?_cons_zero,List.getElem?_cons_succ,d2]
 ·subst e;have ae:=A.ec i 2 hi (by omega);rw[hS] at ae;have aw:i*308+1+1=i*308+2:=rfl;have kz:i*308+1+9=i*308+10:=rfl;have cQ:IntKind.i64.wrap (-L)= -L:=by rw[wrap_i64 (by omega) (by omega)]
  have cL:IntKind.i64.wrap (16-L)=16-L:=by rw[wrap_i64 (by omega) (by omega)]
  refine⟨λh1=>?_,λh1=>?_,λh1 h2=>?_⟩
  ·simp only[aE,sX fo A hi hu,List.getElem?_cons_zero,List.getElem?_cons_succ,d0,aw,ae,BB,cQ,bw h1]
  ·have h0:decide (by_ < -L)=false:=bq (by omega);simp only[aE,sX fo A hi hu,List.getElem?_cons_zero,List.getElem?_cons_succ,d0,aw,ae,BB,cQ,cL,h0,bw h1]
  ·have h0:decide (by_ < -L)=false:=bq (by omega);have h3:decide (16-L<by_)=false:=bq (by omega);have gy:IntKind.i64.wrap (L+by_)=L+by_:=by rw[wrap_i64 (by omega) (by omega)]
   obtain⟨g1,s1,b7,cI,aL⟩:=q2 A hi (c:=2) (by omega) (by omega) (L+by_);obtain⟨g2,s2,c9,cF,bF⟩:=q2 b7 hi (c:=10) (by omega) (by omega) now;obtain⟨g3,c6,eD,eQ,bl',cl,e9,LO,LF,dp⟩:=Zl Fr c9 ((M.kW (by omega)).kW (by omega)) hi (L:=L+by_) (H:=H) (by rw[ha _ _ (by omega),mS]) (by rw[ha _ _ (by omega),ha _ _ (by omega)];exact iy);refine⟨g3,c6,eD,eQ,bl',?_,e9,LO,LF,((aL.trans bF).eb λ_ e=> .inr e).trans dp⟩;simp only[aE,sX fo A hi hu,List.getElem?_cons_zero,List.getElem?_cons_succ,d0,aw,kz,ae,BB,cQ,cL,gy,h0,h3,s1,b7.a3,s2,cl]
def vf(C:ad):Prop:=∀h T n N wd b now us nd bl (ino:Int),bx h T n N wd b now us nd->cR n N wd nd bl-> -9223372036854775808<=ino->ino<9223372036854775808->
 (db N us ino=false->C (.fn 51) [.ptr T.a9 0,I ino] h=some (.ret (.bo [.val (.slice none 0 0),I 2]),h))/\
 (∀i,i<N->us i=true->ino=((i+1:Nat):Int)->∃x h',C (.fn 51) [.ptr T.a9 0,I ino] h=some (.ret (.bo [x,I 0]),h')/\fM h h' x (jJ bl i)/\aN h h' (λ_=>False))
theorem aBm{C:ad}(fo:mq C)(ss:LV C)(A:bx h T n N wd b now us nd)(M:cR n N wd nd bl)(cd: -9223372036854775808<=ino)(c1:ino<9223372036854775808):
 (db N us ino=false->CK C lf (.ptr T.a9 0) (I ino) h=some (.ret (.bo [.val (.slice none 0 0),I 2]),h))/\
 (∀i,i<N->us i=true->ino=((i+1:Nat):Int)->∃x h',CK C lf (.ptr T.a9 0) (I ino) h=some (.ret (.bo [x,I 0]),h')/\fM h h' x (jJ bl i)/\aN h h' (λ_=>False)):=by
 have d2:decide ((2:Int)≠0)=true:=rfl;have d0:decide ((0:Int)≠0)=false:=rfl;unfold CK Tq NO;refine⟨λag=>?_,λi hi hu e=>?_⟩
 ·simp only[aE,sW fo A cd c1 ag,List.getElem?_cons_zero,List.getElem?_cons_succ,d2]
 ·subst e;obtain⟨x,h1,aQ,p4,aL⟩:=ss h T n N wd b now us nd bl i A M hi;refine⟨x,h1,?_,p4,aL⟩;simp only[aE,sX fo A hi hu,List.getElem?_cons_zero,List.getElem?_cons_succ,d0,aQ]
end
noncomputable section
variable{C:ad}{lf:Nat}{bc a6 gi hJ gj hK qF qG qH qI qJ qK qC qD qE:gD}{ar:kR}
def l8:ca ax:=dv 88 Tryd.f88 Tryd.func88 (by kernel_rfl)
noncomputable def z3(aT x9:O)(h:U):ab:=
 ob aT λa=>ob x9 λb=>some (.ret (.bo [a,b]),h)
def Ka(C:ad)(lf:Nat)(r:a0)(aW:O)(h:U):ab:=
 ob aW λa=>r (some a) (bE 0) h
theorem awF{r:a0}:∀F h,au l8 C lf [1,1,1,1,1,1] F h bc (bf r 8 9) ar=aX (Ka C lf r) 10 F h:=by
 intro F h;kernel_rfl
def UW(C:ad)(lf:Nat)(n:dz)(x0 x1 x3 aW x11 x12:O)(h:U):ab:=
 cB .add 3 x12 (I 1) λa=>n x0 x1 x3 aW x11 (some a) h
noncomputable def UO(C:ad)(lf:Nat)(n:dz)(x0 x1 x3 aW x11 x12 Fw:O)(h:U):ab:=
 ob aW λa=>ob Fw λb=>b2 (iJ ax 24 1 [0] [b] h) λb k=>b2 (gA ax .append #[24,24] [a,b] k) λa=>n x0 x1 x3 (some a) x11 x12
def ae7(C:ad)(lf:Nat)(n:kQ)(x0 x1 x3 aW x11 x12 eS Fw:O)(h:U):ab:=
 gT .gtr 3 eS (I 0) (gO 0 x0 λa=>eR 1 a h λa=>cB .sub 3 eS (I 1) λb=>ob (dD 1 a b) λa=>ob (b0 a h) λa=>cB .rem 3 x12 (I 64) λb=>ob (dD 1 a b) λa=>ob (b0 a h) λa=>n x0 x1 x3 aW x11 x12 (some a) h) (n x0 x1 x3 aW x11 x12 Fw h)
def UP(C:ad)(lf:Nat)(n:dz)(x0 x1 x3 aW x11 x12 eS Fw:O)(h:U):ab:=
 ae7 C lf (UO C lf n) x0 x1 x3 aW x11 x12 eS Fw h
noncomputable def awE(C:ad)(lf:Nat)(n:hf)(x0 x1 x3 aW x11 x12 eS:O)(h:U):ab:=
 n x0 x1 x3 aW x11 x12 eS (some (.int .u8 0)) h
def ae8(C:ad)(lf:Nat)(n:dz)(x0 x1 x3 aW x11 x12 eS:O)(h:U):ab:=
 awE C lf (UP C lf n) x0 x1 x3 aW x11 x12 eS h
def ae9(C:ad)(lf:Nat)(n:kQ)(x0 x1 x3 aW x11 x12:O)(h:U):ab:=
 dI 4 x0 h λa=>ob x1 λb=>cB .quo 3 x12 (I 64) λc=>ob (dD 308 a b) λa=>ob (b5 12 a) λa=>ob (ev 278 1 a c) λa=>ob (b0 a h) λa=>n x0 x1 x3 aW x11 x12 (some a) h
def afa(C:ad)(lf:Nat)(n:dz)(x0 x1 x3 aW x11 x12:O)(h:U):ab:=
 ae9 C lf (ae8 C lf n) x0 x1 x3 aW x11 x12 h
def UQ(C:ad)(lf:Nat)(n:dz)(x0 x1 x3 aW x11 x12:O)(h:U):ab:=
 afa C lf (UW C lf n) x0 x1 x3 aW x11 x12 h
def UR(C:ad)(lf:Nat)(n:dz)(aB:aC)(x0 x1 x3 aW x11 x12:O)(h:U):ab:=
 n4 .lss 3 x12 x11 λa=>b8 a aW h λb k=>b8 a (eN ax 24 b) k λb k=>b8 a x3 k λc k=>b8 a (bin ax .lss 3 b c) k λb k=>pY a b (n x0 x1 x3 aW x11 x12 k) (aB aW k)
def EV(C:ad)(lf:Nat)(n:dz)(aB:aC)(x0 x1 x3 aW x11 x12:O)(h:U):ab:=
 UR C lf (UQ C lf n) aB x0 x1 x3 aW x11 x12 h
theorem awG{n:dz}{aB:aC}:∀F h,au l8 C lf [1,1,1,1,1,0,1,0,0] F h (ej n 0 1 3 10 11 12) a6 (bS 0 (aX aB 10) ar)=ej (EV C lf n aB) 0 1 3 10 11 12 F h:=by
 intro F h;kernel_rfl
def yz(C:ad)(lf:Nat)(aB:aC)(k:O×O×O×O×O×O->U->ab)(s:O×O×O×O×O×O)(h:U):ab:=
 EV C lf (λa b c d g i=>k (a,b,c,d,g,i)) aB s.1 s.2.1 s.2.2.1 s.2.2.2.1 s.2.2.2.2.1 s.2.2.2.2.2 h
noncomputable def US(C:ad)(lf:Nat)(n:dz)(x0 x1 x2 x3 aW x11:O)(h:U):ab:=
 ob x2 λa=>n x0 x1 x3 aW x11 (some a) h
theorem awH{n:dz}:∀F h,au l8 C lf [1,1,1,1,1,0,0] F h (ej n 0 1 3 10 11 12) a6 ar=ej (US C lf n) 0 1 2 3 10 11 F h:=by
 intro F h;kernel_rfl
def UT(C:ad)(lf:Nat)(n:aC)(x0 x1 x2 x3 aW x11:O)(h:U):ab:=
 US C lf (λa b c d g i=>bp (yz C lf n) lf (a,b,c,d,g,i)) x0 x1 x2 x3 aW x11 h
theorem awI{n:aC}:∀F h,au l8 C lf [1,1,1,1,1,0] F h (aX n 10) a6 ar=ej (UT C lf n) 0 1 2 3 10 11 F h:=bn (b:=b9 l8 [1,1,1,1,1,0,1]) (by kernel_rfl) (fX (id:=0) (a:=b9 l8 [1,1,1,1,1,0,1,0]) (by kernel_rfl) (gX (g:=λF=>(F 0,F 1,F 3,F 10,F 11,F 12)) (body:=yz C lf n) (by kernel_rfl) (λk=>(awG (n:=λx0 x1 x3 aW x11 x12 h=>k (x0,x1,x3,aW,x11,x12) h))))) (awH (n:=λx0 x1 x3 aW x11 x12 h=>bp (yz C lf n) lf (x0,x1,x3,aW,x11,x12) h))
def UU(C:ad)(lf:Nat)(r:a0)(x0 x1 x2 x3 aW x11:O)(h:U):ab:=
 UT C lf (Ka C lf r) x0 x1 x2 x3 aW x11 h
theorem awJ{r:a0}:∀F h,au l8 C lf [1,1,1,1,1] F h bc (bf r 8 9) ar=ej (UU C lf r) 0 1 2 3 10 11 F h:=bn (by kernel_rfl) awF awI
def UX(C:ad)(lf:Nat)(n:dz)(x0 x1 x2 x3 aW:O)(h:U):ab:=
 dI 4 x0 h λa=>mh 308 a x1 λa=>ob (b5 1 a) λa=>eR 4 a h λa=>n x0 x1 x2 x3 aW (some a) h
theorem awK{n:dz}:∀F h,au l8 C lf [1,1,1,1,0] F h (ej n 0 1 2 3 10 11) a6 ar=dj (UX C lf n) 0 1 2 3 10 F h:=by
 intro F h;kernel_rfl
def Kb(C:ad)(lf:Nat)(r:a0)(x0 x1 x2 x3 aW:O)(h:U):ab:=
 UX C lf (UU C lf r) x0 x1 x2 x3 aW h
theorem awL{r:a0}:∀F h,au l8 C lf [1,1,1,1] F h bc (bf r 8 9) ar=dj (Kb C lf r) 0 1 2 3 10 F h:=bn (by kernel_rfl) awJ awK
noncomputable def afb(C:ad)(lf:Nat)(n:dq)(x0 x1 x2 x3:O)(h:U):ab:=
 n x0 x1 x2 x3 (some (.val (.slice none 0 0))) h
theorem awM{n:dq}:∀F h,au l8 C lf [1,1,1,0] F h (dj n 0 1 2 3 10) a6 ar=bm (afb C lf n) 0 1 2 3 F h:=by
 intro F h;kernel_rfl
def UY(C:ad)(lf:Nat)(r:a0)(x0 x1 x2 x3:O)(h:U):ab:=
 afb C lf (Kb C lf r) x0 x1 x2 x3 h
theorem awN{r:a0}:∀F h,au l8 C lf [1,1,1] F h bc (bf r 8 9) ar=bm (UY C lf r) 0 1 2 3 F h:=bn (by kernel_rfl) awL awM
def UZ(C:ad)(lf:Nat)(n:br)(r:a0)(x0 x1 x2 x3:O)(h:U):ab:=
 cB .lss 3 x2 (I 0) λa=>h4 .lss 3 a x3 (I 0) h λb k=>n7 a b (r (some (.val (.slice none 0 0))) (bE 22) k) (n x0 x1 x2 x3 k)
theorem awO{n:br}{r:a0}:∀F h,au l8 C lf [1,1,0] F h (bm n 0 1 2 3) (bf r 8 9) ar=bm (UZ C lf n r) 0 1 2 3 F h:=by
 intro F h;kernel_rfl
def Kc(C:ad)(lf:Nat)(r:a0)(x0 x1 x2 x3:O)(h:U):ab:=
 UZ C lf (UY C lf r) r x0 x1 x2 x3 h
theorem awP{r:a0}:∀F h,au l8 C lf [1,1] F h bc (bf r 8 9) ar=bm (Kc C lf r) 0 1 2 3 F h:=bn (by kernel_rfl) awN awO
def Kd(C:ad)(lf:Nat)(n:br)(r:a0)(x0 x1 x2 x3:O)(h:U):ab:=
 a3 C 104 x0 x1 h λa k=>gx a (r (some (.val (.slice none 0 0))) (bE 2) k) (n x0 x1 x2 x3 k)
theorem awQ{n:br}{r:a0}:∀F h,au l8 C lf [1,0] F h (bm n 0 1 2 3) (bf r 8 9) ar=bm (Kd C lf n r) 0 1 2 3 F h:=by
 intro F h;kernel_rfl
def afc(C:ad)(lf:Nat)(r:a0)(x0 x1 x2 x3:O)(h:U):ab:=
 Kd C lf (Kc C lf r) r x0 x1 x2 x3 h
theorem awR{r:a0}:∀F h,au l8 C lf [1] F h bc (bf r 8 9) ar=bm (afc C lf r) 0 1 2 3 F h:=bn (by kernel_rfl) awP awQ
noncomputable def afd(C:ad)(lf:Nat)(n:br)(x0 x1 x2 x3:O)(h:U):ab:=
 n x0 x1 x2 x3 h
theorem awS{n:br}:∀F h,au l8 C lf [0] F h (bm n 0 1 2 3) a6 ar=bm (afd C lf n) 0 1 2 3 F h:=by
 intro F h;kernel_rfl
def U0(C:ad)(lf:Nat)(r:a0)(x0 x1 x2 x3:O)(h:U):ab:=
 afd C lf (afc C lf r) x0 x1 x2 x3 h
theorem awT{r:a0}:∀F h,au l8 C lf [] F h bc (bf r 8 9) ar=bm (U0 C lf r) 0 1 2 3 F h:=bn (by kernel_rfl) awR awS
def Ad(C:ad)(lf:Nat)(al an aD a7:J)(h:U):ab:=U0 C lf z3 (some al) (some an) (some aD) (some a7) h
def aaV:cK ax:=rj l8 Ad (λC lf al an aD a7 h=>c8 (K:=(bf z3 8 9)) (by kernel_rfl) (Eq.trans (awT _ h) (by kernel_rfl))) (by kernel_rfl)
def kZ:ca ax:=dv 94 Tryd.f94 Tryd.func94 (by kernel_rfl)
noncomputable def pt(aT x9:O)(h:U):ab:=
 ob aT λa=>ob x9 λb=>some (.ret (.bo [a,b]),h)
def Vb(C:ad)(lf:Nat)(r:a0)(x0 aW x11:O)(h:U):ab:=
 ob aW λa=>ob aW λb=>dI 3 x0 h λc=>dI 3 x0 h λd=>ed 1 a λa=>ob (b5 8 a) λa=>ob (st 1 a c h) λk=>ed 1 b λa=>ob (b5 9 a) λa=>ob (st 1 a d k) λk=>ob x11 λa=>r (some a) (bE 0) k
def afg(C:ad)(lf:Nat)(n:bG)(x0 x2 aW x11:O)(h:U):ab:=
 n4 .add 3 x2 x11 λa=>gO 1 aW λb=>eR 4 b h λb=>eF .gtr 3 a b (ob aW λa=>n4 .add 3 x2 x11 λb=>ed 1 a λa=>ob (b5 4 a) λa=>ob (st 1 a b h) (n x0 aW x11)) (n x0 aW x11 h)
def afh(C:ad)(lf:Nat)(r:a0)(x0 x2 aW x11:O)(h:U):ab:=
 afg C lf (Vb C lf r) x0 x2 aW x11 h
def Vc(C:ad)(lf:Nat)(n:br)(r:a0)(x0 x2 aW x11:O)(h:U):ab:=
 gT .eql 3 x11 (I 0) (r (bE 0) (bE 28) h) (n x0 x2 aW x11 h)
def wA(C:ad)(lf:Nat)(r:a0)(x0 x2 aW x11:O)(h:U):ab:=
 Vc C lf (afh C lf r) r x0 x2 aW x11 h
theorem axf{r:a0}:∀F h,au kZ C lf [1,1,1,1,1,1,1,1] F h bc (bf r 8 9) ar=bm (wA C lf r) 0 2 10 11 F h:=by
 intro F h;kernel_rfl
def uG(C:ad)(lf:Nat)(n:dz)(aB:br)(x0 x1 x2 x3 aW x11:O)(h:U):ab:=
 ob x11 λa=>mO 24 x3 λb=>cm .lss 3 a b λa=>b8 a x2 h λb k=>b8 a x11 k λc k=>iR .lss 3 a (bin ax .add 3 b c) (I 17792) k λb k=>pY a b (ob x0 λa=>ob x1 λb=>n4 .add 3 x2 x11 λc=>cm .quo 3 c (I 64) λc=>da C 106 [a,b,c] k λa k=>gx a (aB x0 x2 aW x11 k) (ob aW λa=>n4 .add 3 x2 x11 λb=>cm .quo 3 b (I 64) λb=>ed 12 a λa=>ob (ev 278 1 a b) λa=>ob (b0 a k) λa=>cm .sub 3 a (I 1) λa=>gO 0 x0 λb=>eR 1 b k λb=>ob (dD 1 b a) λa=>ob (b0 a k) λa=>n4 .add 3 x2 x11 λb=>cm .rem 3 b (I 64) λb=>ob x3 λc=>r4 1 c x11 k λc=>ob (dD 1 a b) λa=>ob (st 1 a c k) λk=>cB .add 3 x11 (I 1) λa=>n x0 x1 x2 x3 aW (some a) k)) (aB x0 x2 aW x11 k)
theorem axg{n:dz}{aB:br}:∀F h,au kZ C lf [1,1,1,1,1,1,1,0,0,0] F h (ej n 0 1 2 3 10 11) a6 (bS 0 (bm aB 0 2 10 11) ar)=ej (uG C lf n aB) 0 1 2 3 10 11 F h:=by
 intro F h;kernel_rfl
def yA(C:ad)(lf:Nat)(aB:br)(k:O×O×O×O×O×O->U->ab)(s:O×O×O×O×O×O)(h:U):ab:=
 uG C lf (λa b c d g i=>k (a,b,c,d,g,i)) aB s.1 s.2.1 s.2.2.1 s.2.2.2.1 s.2.2.2.2.1 s.2.2.2.2.2 h
def Ki(C:ad)(lf:Nat)(r:a0)(x0 x1 x2 x3 aW x11:O)(h:U):ab:=
 bp (yA C lf (wA C lf r)) lf (x0,x1,x2,x3,aW,x11) h
theorem axh{r:a0}:∀F h,au kZ C lf [1,1,1,1,1,1,1] F h bc (bf r 8 9) ar=ej (Ki C lf r) 0 1 2 3 10 11 F h:=bn (a:=b9 kZ [1,1,1,1,1,1,1,0]) (by kernel_rfl) axf (fX (id:=0) (a:=b9 kZ [1,1,1,1,1,1,1,0,0]) (by kernel_rfl) (gX (g:=λF=>(F 0,F 1,F 2,F 3,F 10,F 11)) (body:=yA C lf (λx0 x2 aW x11 h=>wA C lf r x0 x2 aW x11 h)) (by kernel_rfl) (λk=>(axg (n:=λx0 x1 x2 x3 aW x11 h=>k (x0,x1,x2,x3,aW,x11) h)))))
def afi(C:ad)(lf:Nat)(n:dz)(x0 x1 x2 x3 aW:O)(h:U):ab:=
 n x0 x1 x2 x3 aW (bE 0) h
theorem axi{n:dz}:∀F h,au kZ C lf [1,1,1,1,1,1,0] F h (ej n 0 1 2 3 10 11) a6 ar=dj (afi C lf n) 0 1 2 3 10 F h:=by
 intro F h;kernel_rfl
def Vd(C:ad)(lf:Nat)(r:a0)(x0 x1 x2 x3 aW:O)(h:U):ab:=
 afi C lf (Ki C lf r) x0 x1 x2 x3 aW h
theorem axj{r:a0}:∀F h,au kZ C lf [1,1,1,1,1,1] F h bc (bf r 8 9) ar=dj (Vd C lf r) 0 1 2 3 10 F h:=bn (by kernel_rfl) axh axi
def U8(C:ad)(lf:Nat)(n:dq)(x0 x1 x2 x3:O)(h:U):ab:=
 dI 4 x0 h λa=>mh 308 a x1 λa=>n x0 x1 x2 x3 (some a) h
theorem aw3{n:dq}:∀F h,au kZ C lf [1,1,1,1,1,0] F h (dj n 0 1 2 3 10) a6 ar=bm (U8 C lf n) 0 1 2 3 F h:=by
 intro F h;kernel_rfl
def U9(C:ad)(lf:Nat)(r:a0)(x0 x1 x2 x3:O)(h:U):ab:=
 U8 C lf (Vd C lf r) x0 x1 x2 x3 h
theorem aw4{r:a0}:∀F h,au kZ C lf [1,1,1,1,1] F h bc (bf r 8 9) ar=bm (U9 C lf r) 0 1 2 3 F h:=bn (by kernel_rfl) axj aw3
def Ke(C:ad)(lf:Nat)(n:br)(r:a0)(x0 x1 x2 x3:O)(h:U):ab:=
 gT .geq 3 x2 (I 17792) (r (bE 0) (bE 27) h) (n x0 x1 x2 x3 h)
theorem aw5{n:br}{r:a0}:∀F h,au kZ C lf [1,1,1,1,0] F h (bm n 0 1 2 3) (bf r 8 9) ar=bm (Ke C lf n r) 0 1 2 3 F h:=by
 intro F h;kernel_rfl
def Kf(C:ad)(lf:Nat)(r:a0)(x0 x1 x2 x3:O)(h:U):ab:=
 Ke C lf (U9 C lf r) r x0 x1 x2 x3 h
theorem aw6{r:a0}:∀F h,au kZ C lf [1,1,1,1] F h bc (bf r 8 9) ar=bm (Kf C lf r) 0 1 2 3 F h:=bn (by kernel_rfl) aw4 aw5
def EY(C:ad)(lf:Nat)(n:br)(r:a0)(x0 x1 x2 x3:O)(h:U):ab:=
 mO 24 x3 λa=>eF .eql 3 a (I 0) (r (bE 0) (bE 0) h) (n x0 x1 x2 x3 h)
theorem aw7{n:br}{r:a0}:∀F h,au kZ C lf [1,1,1,0] F h (bm n 0 1 2 3) (bf r 8 9) ar=bm (EY C lf n r) 0 1 2 3 F h:=by
 intro F h;kernel_rfl
def Bk(C:ad)(lf:Nat)(r:a0)(x0 x1 x2 x3:O)(h:U):ab:=
 EY C lf (Kf C lf r) r x0 x1 x2 x3 h
theorem aw8{r:a0}:∀F h,au kZ C lf [1,1,1] F h bc (bf r 8 9) ar=bm (Bk C lf r) 0 1 2 3 F h:=bn (by kernel_rfl) aw6 aw7
def Bl(C:ad)(lf:Nat)(n:br)(r:a0)(x0 x1 x2 x3:O)(h:U):ab:=
 gT .lss 3 x2 (I 0) (r (bE 0) (bE 22) h) (n x0 x1 x2 x3 h)
theorem aw9{n:br}{r:a0}:∀F h,au kZ C lf [1,1,0] F h (bm n 0 1 2 3) (bf r 8 9) ar=bm (Bl C lf n r) 0 1 2 3 F h:=by
 intro F h;kernel_rfl
def Kg(C:ad)(lf:Nat)(r:a0)(x0 x1 x2 x3:O)(h:U):ab:=
 Bl C lf (Bk C lf r) r x0 x1 x2 x3 h
theorem axa{r:a0}:∀F h,au kZ C lf [1,1] F h bc (bf r 8 9) ar=bm (Kg C lf r) 0 1 2 3 F h:=bn (by kernel_rfl) aw8 aw9
def Kh(C:ad)(lf:Nat)(n:br)(r:a0)(x0 x1 x2 x3:O)(h:U):ab:=
 a3 C 104 x0 x1 h λa k=>gx a (r (bE 0) (bE 2) k) (n x0 x1 x2 x3 k)
theorem axb{n:br}{r:a0}:∀F h,au kZ C lf [1,0] F h (bm n 0 1 2 3) (bf r 8 9) ar=bm (Kh C lf n r) 0 1 2 3 F h:=by
 intro F h;kernel_rfl
def afe(C:ad)(lf:Nat)(r:a0)(x0 x1 x2 x3:O)(h:U):ab:=
 Kh C lf (Kg C lf r) r x0 x1 x2 x3 h
theorem axc{r:a0}:∀F h,au kZ C lf [1] F h bc (bf r 8 9) ar=bm (afe C lf r) 0 1 2 3 F h:=bn (by kernel_rfl) axa axb
noncomputable def aff(C:ad)(lf:Nat)(n:br)(x0 x1 x2 x3:O)(h:U):ab:=
 n x0 x1 x2 x3 h
theorem axd{n:br}:∀F h,au kZ C lf [0] F h (bm n 0 1 2 3) a6 ar=bm (aff C lf n) 0 1 2 3 F h:=by
 intro F h;kernel_rfl
def Va(C:ad)(lf:Nat)(r:a0)(x0 x1 x2 x3:O)(h:U):ab:=
 aff C lf (afe C lf r) x0 x1 x2 x3 h
theorem axe{r:a0}:∀F h,au kZ C lf [] F h bc (bf r 8 9) ar=bm (Va C lf r) 0 1 2 3 F h:=bn (by kernel_rfl) axc axd
def vA(C:ad)(lf:Nat)(al an aD a7:J)(h:U):ab:=Va C lf pt (some al) (some an) (some aD) (some a7) h
def aa1:cK ax:=rj kZ vA (λC lf al an aD a7 h=>c8 (K:=(bf pt 8 9)) (by kernel_rfl) (Eq.trans (axe _ h) (by kernel_rfl))) (by kernel_rfl)
def Ag:ca ax:=dv 95 Tryd.f95 Tryd.func95 (by kernel_rfl)
noncomputable def Cz(h:U):ab:=
 some (.ret (.bo []),h)
def Bm(C:ad)(lf:Nat)(n:bG)(aB:cq)(x0 bV e2:O)(h:U):ab:=
 lX .lss 3 e2 bV (ob e2 λa=>ob x0 λb=>ob (dD 1 b a) λa=>ob (st 1 a (.int .u8 99) h) λk=>cB .add 3 e2 (I 1) λa=>n x0 bV (some a) k) (aB h)
theorem axk{n:bG}{aB:cq}:∀F h,au Ag C lf [1,0,0] F h (bB n 0 4 5) a6 (bS 0 (dZ aB) ar)=bB (Bm C lf n aB) 0 4 5 F h:=by
 intro F h;kernel_rfl
def yB(C:ad)(lf:Nat)(aB:cq)(k:O×O×O->U->ab)(s:O×O×O)(h:U):ab:=
 Bm C lf (λa b c=>k (a,b,c)) aB s.1 s.2.1 s.2.2 h
def Ve(C:ad)(lf:Nat)(n:bG)(x0:O)(h:U):ab:=
 mO 24 x0 λa=>n x0 (some a) (bE 0) h
theorem axl{n:bG}:∀F h,au Ag C lf [0] F h (bB n 0 4 5) a6 ar=aX (Ve C lf n) 0 F h:=by
 intro F h;kernel_rfl
def Vf(C:ad)(lf:Nat)(n:cq)(x0:O)(h:U):ab:=
 Ve C lf (λa b c=>bp (yB C lf n) lf (a,b,c)) x0 h
theorem axm{n:cq}:∀F h,au Ag C lf [] F h (dZ n) a6 ar=aX (Vf C lf n) 0 F h:=bn (b:=b9 Ag [1]) (by kernel_rfl) (fX (id:=0) (a:=b9 Ag [1,0]) (by kernel_rfl) (gX (g:=λF=>(F 0,F 4,F 5)) (body:=yB C lf n) (by kernel_rfl) (λk=>(axk (n:=λx0 bV e2 h=>k (x0,bV,e2) h))))) (axl (n:=λx0 bV e2 h=>bp (yB C lf n) lf (x0,bV,e2) h))
def HQ(C:ad)(lf:Nat)(al:J)(h:U):ab:=Vf C lf Cz (some al) h
def aa2:cK ax:=j8 Ag HQ (λC lf al h=>c8 (K:=(dZ Cz)) (by kernel_rfl) (Eq.trans (axm _ h) (by kernel_rfl))) (by kernel_rfl)
def iQ:ca ax:=dv 96 Tryd.f96 Tryd.func96 (by kernel_rfl)
noncomputable def qj(aM:O)(h:U):ab:=
 ob aM λa=>some (.ret a,h)
def yY(C:ad)(lf:Nat)(r:aC)(x0 x2 x7:O)(h:U):ab:=
 ob x7 λa=>ob x2 λb=>ed 1 a λa=>ob (b5 4 a) λa=>ob (st 1 a b h) λk=>ob x7 λa=>ob x7 λb=>dI 3 x0 k λc=>dI 3 x0 k λd=>ed 1 a λa=>ob (b5 8 a) λa=>ob (st 1 a c k) λk=>ed 1 b λa=>ob (b5 9 a) λa=>ob (st 1 a d k) (r (bE 0))
theorem axv{r:aC}:∀F h,au iQ C lf [1,1,1,1,1,1,1] F h bc (aX r 6) ar=bB (yY C lf r) 0 2 7 F h:=by
 intro F h;kernel_rfl
def E0(C:ad)(lf:Nat)(n:dq)(aB:bG)(x0 x2 x7 aT x9:O)(h:U):ab:=
 gT .lss 3 x9 (I 64) (ob aT λa=>mh 1 a x9 λa=>ob (st 1 a (.int .u8 0) h) λk=>cB .add 3 x9 (I 1) λa=>n x0 x2 x7 aT (some a) k) (aB x0 x2 x7 h)
theorem axw{n:dq}{aB:bG}:∀F h,au iQ C lf [1,1,1,1,1,1,0,1,0,1,1,0,0] F h (dj n 0 2 7 8 9) a6 (bS 0 (bB aB 0 2 7) ar)=dj (E0 C lf n aB) 0 2 7 8 9 F h:=by
 intro F h;kernel_rfl
def AX(C:ad)(lf:Nat)(aB:bG)(k:O×O×O×O×O->U->ab)(s:O×O×O×O×O)(h:U):ab:=
 E0 C lf (λa b c d g=>k (a,b,c,d,g)) aB s.1 s.2.1 s.2.2.1 s.2.2.2.1 s.2.2.2.2 h
def Vi(C:ad)(lf:Nat)(n:dq)(x0 x2 x7 aT:O)(h:U):ab:=
 cB .rem 3 x2 (I 64) λa=>n x0 x2 x7 aT (some a) h
theorem axx{n:dq}:∀F h,au iQ C lf [1,1,1,1,1,1,0,1,0,1,0] F h (dj n 0 2 7 8 9) a6 ar=bm (Vi C lf n) 0 2 7 8 F h:=by
 intro F h;kernel_rfl
def Vj(C:ad)(lf:Nat)(n:bG)(x0 x2 x7 aT:O)(h:U):ab:=
 Vi C lf (λa b c d g=>bp (AX C lf n) lf (a,b,c,d,g)) x0 x2 x7 aT h
theorem axy{n:bG}:∀F h,au iQ C lf [1,1,1,1,1,1,0,1,0,1] F h (bB n 0 2 7) a6 ar=bm (Vj C lf n) 0 2 7 8 F h:=bn (b:=b9 iQ [1,1,1,1,1,1,0,1,0,1,1]) (by kernel_rfl) (fX (id:=0) (a:=b9 iQ [1,1,1,1,1,1,0,1,0,1,1,0]) (by kernel_rfl) (gX (g:=λF=>(F 0,F 2,F 7,F 8,F 9)) (body:=AX C lf n) (by kernel_rfl) (λk=>(axw (n:=λx0 x2 x7 aT x9 h=>k (x0,x2,x7,aT,x9) h))))) (axx (n:=λx0 x2 x7 aT x9 h=>bp (AX C lf n) lf (x0,x2,x7,aT,x9) h))
def Vk(C:ad)(lf:Nat)(n:br)(x0 x2 x7:O)(h:U):ab:=
 gO 0 x0 λa=>eR 1 a h λa=>ob x7 λb=>cB .quo 3 x2 (I 64) λc=>ed 12 b λb=>ob (ev 278 1 b c) λb=>ob (b0 b h) λb=>cm .sub 3 b (I 1) λb=>ob (dD 1 a b) λa=>ob (b0 a h) λa=>n x0 x2 x7 (some a) h
theorem axz{n:br}:∀F h,au iQ C lf [1,1,1,1,1,1,0,1,0,0] F h (bm n 0 2 7 8) a6 ar=bB (Vk C lf n) 0 2 7 F h:=by
 intro F h;kernel_rfl
def Vl(C:ad)(lf:Nat)(n:bG)(x0 x2 x7:O)(h:U):ab:=
 Vk C lf (Vj C lf n) x0 x2 x7 h
theorem axA{n:bG}:∀F h,au iQ C lf [1,1,1,1,1,1,0,1,0] F h (bB n 0 2 7) a6 ar=bB (Vl C lf n) 0 2 7 F h:=bn (by kernel_rfl) axy axz
noncomputable def Vm(C:ad)(lf:Nat)(n:bG)(x0 x2 x7:O)(h:U):ab:=
 n x0 x2 x7 h
theorem axB{n:bG}:∀F h,au iQ C lf [1,1,1,1,1,1,0,1,1] F h (bB n 0 2 7) a6 ar=bB (Vm C lf n) 0 2 7 F h:=by
 intro F h;kernel_rfl
def Bn(C:ad)(lf:Nat)(n:bG)(x0 x2 x7 Wl:O)(h:U):ab:=
 ob Wl λa=>fV a (Vl C lf n x0 x2 x7 h) (Vm C lf n x0 x2 x7 h)
theorem axC{n:bG}:∀F h,au iQ C lf [1,1,1,1,1,1,0,1] F h (bB n 0 2 7) a6 ar=bm (Bn C lf n) 0 2 7 43 F h:=ajI (x:= .tmp 43) (by kernel_rfl) axA axB
def Km(C:ad)(lf:Nat)(n:br)(x0 x2 x7:O)(h:U):ab:=
 cB .rem 3 x2 (I 64) λa=>cm .gtr 3 a (I 0) λa=>b8 a x7 h λb k=>iR .quo 3 a x2 (I 64) k λc k=>b8 a (eC b) k λb k=>b8 a (b5 12 b) k λb k=>b8 a (ev 278 1 b c) k λb k=>iR .gtr 3 a (b0 b k) (I 0) k λb k=>h9 a b λa=>n x0 x2 x7 (some a) k
theorem axD{n:br}:∀F h,au iQ C lf [1,1,1,1,1,1,0,0] F h (bm n 0 2 7 43) a6 ar=bB (Km C lf n) 0 2 7 F h:=by
 intro F h;kernel_rfl
def Vn(C:ad)(lf:Nat)(n:bG)(x0 x2 x7:O)(h:U):ab:=
 Km C lf (Bn C lf n) x0 x2 x7 h
theorem axE{n:bG}:∀F h,au iQ C lf [1,1,1,1,1,1,0] F h (bB n 0 2 7) a6 ar=bB (Vn C lf n) 0 2 7 F h:=bn (by kernel_rfl) axC axD
def Vo(C:ad)(lf:Nat)(r:aC)(x0 x2 x7:O)(h:U):ab:=
 Vn C lf (yY C lf r) x0 x2 x7 h
theorem axF{r:aC}:∀F h,au iQ C lf [1,1,1,1,1,1] F h bc (aX r 6) ar=bB (Vo C lf r) 0 2 7 F h:=bn (by kernel_rfl) axv axE
def Vp(C:ad)(lf:Nat)(n:bG)(x0 x1 x2 x7:O)(h:U):ab:=
 ob x0 λa=>ob x1 λb=>cB .add 3 x2 (I 64) λc=>cm .sub 3 c (I 1) λc=>cm .quo 3 c (I 64) λc=>da C 107 [a,b,c] h λa=>n x0 x2 x7
theorem axG{n:bG}:∀F h,au iQ C lf [1,1,1,1,1,0] F h (bB n 0 2 7) a6 ar=bm (Vp C lf n) 0 1 2 7 F h:=by
 intro F h;kernel_rfl
def Vq(C:ad)(lf:Nat)(r:aC)(x0 x1 x2 x7:O)(h:U):ab:=
 Vp C lf (Vo C lf r) x0 x1 x2 x7 h
theorem axH{r:aC}:∀F h,au iQ C lf [1,1,1,1,1] F h bc (aX r 6) ar=bm (Vq C lf r) 0 1 2 7 F h:=bn (by kernel_rfl) axF axG
def Vr(C:ad)(lf:Nat)(n:br)(x0 x1 x2:O)(h:U):ab:=
 dI 4 x0 h λa=>mh 308 a x1 λa=>n x0 x1 x2 (some a) h
theorem axI{n:br}:∀F h,au iQ C lf [1,1,1,1,0] F h (bm n 0 1 2 7) a6 ar=bB (Vr C lf n) 0 1 2 F h:=by
 intro F h;kernel_rfl
def Vs(C:ad)(lf:Nat)(r:aC)(x0 x1 x2:O)(h:U):ab:=
 Vr C lf (Vq C lf r) x0 x1 x2 h
theorem axJ{r:aC}:∀F h,au iQ C lf [1,1,1,1] F h bc (aX r 6) ar=bB (Vs C lf r) 0 1 2 F h:=bn (by kernel_rfl) axH axI
def Kj(C:ad)(lf:Nat)(n:bG)(r:aC)(x0 x1 x2:O)(h:U):ab:=
 gT .gtr 3 x2 (I 17792) (r (bE 27) h) (n x0 x1 x2 h)
theorem axn{n:bG}{r:aC}:∀F h,au iQ C lf [1,1,1,0] F h (bB n 0 1 2) (aX r 6) ar=bB (Kj C lf n r) 0 1 2 F h:=by
 intro F h;kernel_rfl
def EZ(C:ad)(lf:Nat)(r:aC)(x0 x1 x2:O)(h:U):ab:=
 Kj C lf (Vs C lf r) r x0 x1 x2 h
theorem axo{r:aC}:∀F h,au iQ C lf [1,1,1] F h bc (aX r 6) ar=bB (EZ C lf r) 0 1 2 F h:=bn (by kernel_rfl) axJ axn
def Vg(C:ad)(lf:Nat)(n:bG)(r:aC)(x0 x1 x2:O)(h:U):ab:=
 gT .lss 3 x2 (I 0) (r (bE 22) h) (n x0 x1 x2 h)
theorem axp{n:bG}{r:aC}:∀F h,au iQ C lf [1,1,0] F h (bB n 0 1 2) (aX r 6) ar=bB (Vg C lf n r) 0 1 2 F h:=by
 intro F h;kernel_rfl
def Kk(C:ad)(lf:Nat)(r:aC)(x0 x1 x2:O)(h:U):ab:=
 Vg C lf (EZ C lf r) r x0 x1 x2 h
theorem axq{r:aC}:∀F h,au iQ C lf [1,1] F h bc (aX r 6) ar=bB (Kk C lf r) 0 1 2 F h:=bn (by kernel_rfl) axo axp
def Kl(C:ad)(lf:Nat)(n:bG)(r:aC)(x0 x1 x2:O)(h:U):ab:=
 a3 C 104 x0 x1 h λa k=>gx a (r (bE 2) k) (n x0 x1 x2 k)
theorem axr{n:bG}{r:aC}:∀F h,au iQ C lf [1,0] F h (bB n 0 1 2) (aX r 6) ar=bB (Kl C lf n r) 0 1 2 F h:=by
 intro F h;kernel_rfl
def afj(C:ad)(lf:Nat)(r:aC)(x0 x1 x2:O)(h:U):ab:=
 Kl C lf (Kk C lf r) r x0 x1 x2 h
theorem axs{r:aC}:∀F h,au iQ C lf [1] F h bc (aX r 6) ar=bB (afj C lf r) 0 1 2 F h:=bn (by kernel_rfl) axq axr
noncomputable def afk(C:ad)(lf:Nat)(n:bG)(x0 x1 x2:O)(h:U):ab:=
 n x0 x1 x2 h
theorem axt{n:bG}:∀F h,au iQ C lf [0] F h (bB n 0 1 2) a6 ar=bB (afk C lf n) 0 1 2 F h:=by
 intro F h;kernel_rfl
def Vh(C:ad)(lf:Nat)(r:aC)(x0 x1 x2:O)(h:U):ab:=
 afk C lf (afj C lf r) x0 x1 x2 h
theorem axu{r:aC}:∀F h,au iQ C lf [] F h bc (aX r 6) ar=bB (Vh C lf r) 0 1 2 F h:=bn (by kernel_rfl) axs axt
def xJ(C:ad)(lf:Nat)(al an aD:J)(h:U):ab:=Vh C lf qj (some al) (some an) (some aD) h
def aa3:cK ax:=nx iQ xJ (λC lf al an aD h=>c8 (K:=(aX qj 6)) (by kernel_rfl) (Eq.trans (axu _ h) (by kernel_rfl))) (by kernel_rfl)
def oz:ca ax:=dv 97 Tryd.f97 Tryd.func97 (by kernel_rfl)
noncomputable def xC(aT x9:O)(h:U):ab:=
 ob aT λa=>ob x9 λb=>some (.ret (.bo [a,b]),h)
def Kn(C:ad)(lf:Nat)(r:a0)(h:U):ab:=
 r (bE 0) (bE 28) h
theorem axK{r:a0}:∀F h,au oz C lf [1,1,1,1] F h bc (bf r 8 9) ar=dZ (Kn C lf r) F h:=by
 intro F h;kernel_rfl
def Bo(C:ad)(lf:Nat)(n:dq)(r:a0)(aB:cq)(x0 x1 x2 x3 x11:O)(h:U):ab:=
 ob x11 λa=>dI 2 x0 h λb=>eF .leq 3 a b (dI 4 x0 h λa=>QI 308 0 a x11 h λa=>gx a (dI 4 x0 h λa=>ob x11 λb=>ob x11 λc=>ob x2 λd=>ob x3 λg=>ob x1 λi=>dI 3 x0 h λj=>dI 3 x0 h λm=>dI 3 x0 h λo=>ob (ib ax 78 [0,2,3,6,7,8,9] [c,d,g,i,j,m,o]) λc=>ob (ib ax 156 [0,1] [.bool true,c]) λc=>ob (dD 308 a b) λa=>ob (st 308 a c h) λk=>ob x11 λa=>r (some a) (bE 0) k) (cB .add 3 x11 (I 1) λa=>n x0 x1 x2 x3 (some a) h)) (aB h)
theorem axL{n:dq}{r:a0}{aB:cq}:∀F h,au oz C lf [1,1,1,0,1,0,0] F h (dj n 0 1 2 3 11) (bf r 8 9) (bS 0 (dZ aB) ar)=dj (Bo C lf n r aB) 0 1 2 3 11 F h:=by
 intro F h;kernel_rfl
def rX(C:ad)(lf:Nat)(r:a0)(aB:cq)(k:O×O×O×O×O->U->ab)(s:O×O×O×O×O)(h:U):ab:=
 Bo C lf (λa b c d g=>k (a,b,c,d,g)) r aB s.1 s.2.1 s.2.2.1 s.2.2.2.1 s.2.2.2.2 h
def afl(C:ad)(lf:Nat)(n:dq)(x0 x1 x2 x3:O)(h:U):ab:=
 n x0 x1 x2 x3 (bE 1) h
theorem axM{n:dq}:∀F h,au oz C lf [1,1,1,0,0] F h (dj n 0 1 2 3 11) a6 ar=bm (afl C lf n) 0 1 2 3 F h:=by
 intro F h;kernel_rfl
def afm(C:ad)(lf:Nat)(n:cq)(r:a0)(x0 x1 x2 x3:O)(h:U):ab:=
 afl C lf (λa b c d g=>bp (rX C lf r n) lf (a,b,c,d,g)) x0 x1 x2 x3 h
theorem axN{n:cq}{r:a0}:∀F h,au oz C lf [1,1,1,0] F h (dZ n) (bf r 8 9) ar=bm (afm C lf n r) 0 1 2 3 F h:=bn (b:=b9 oz [1,1,1,0,1]) (by kernel_rfl) (fX (id:=0) (a:=b9 oz [1,1,1,0,1,0]) (by kernel_rfl) (gX (g:=λF=>(F 0,F 1,F 2,F 3,F 11)) (body:=rX C lf r n) (by kernel_rfl) (λk=>(axL (n:=λx0 x1 x2 x3 x11 h=>k (x0,x1,x2,x3,x11) h))))) (axM (n:=λx0 x1 x2 x3 x11 h=>bp (rX C lf r n) lf (x0,x1,x2,x3,x11) h))
def E1(C:ad)(lf:Nat)(r:a0)(x0 x1 x2 x3:O)(h:U):ab:=
 afm C lf (Kn C lf r) r x0 x1 x2 x3 h
theorem axO{r:a0}:∀F h,au oz C lf [1,1,1] F h bc (bf r 8 9) ar=bm (E1 C lf r) 0 1 2 3 F h:=bn (by kernel_rfl) axK axN
def Vt(C:ad)(lf:Nat)(n:br)(r:a0)(x0 x1 x2 x3 aW:O)(h:U):ab:=
 cB .neq 68 aW (I 32768) λa=>iR .neq 68 a aW (I 16384) h λb k=>h9 a b λa=>iR .neq 68 a aW (I 40960) k λb k=>h9 a b λa=>dJ a x1 k λb k=>h4 .and 68 a x1 (I 65535) k λc k=>dJ a (bin ax .neq 68 b c) k λb k=>nk a b λa=>h4 .lss 68 a x1 (I 0) k λb k=>nk a b λa=>h4 .lss 3 a x2 (I 0) k λb k=>nk a b λa=>h4 .lss 3 a x3 (I 0) k λb k=>n7 a b (r (bE 0) (bE 22) k) (n x0 x1 x2 x3 k)
theorem axP{n:br}{r:a0}:∀F h,au oz C lf [1,1,0] F h (bm n 0 1 2 3) (bf r 8 9) ar=dj (Vt C lf n r) 0 1 2 3 10 F h:=by
 intro F h;kernel_rfl
def Ko(C:ad)(lf:Nat)(r:a0)(x0 x1 x2 x3 aW:O)(h:U):ab:=
 Vt C lf (E1 C lf r) r x0 x1 x2 x3 aW h
theorem axQ{r:a0}:∀F h,au oz C lf [1,1] F h bc (bf r 8 9) ar=dj (Ko C lf r) 0 1 2 3 10 F h:=bn (by kernel_rfl) axO axP
def Kp(C:ad)(lf:Nat)(n:dq)(x0 x1 x2 x3:O)(h:U):ab:=
 aQ C 108 x1 h λa=>n x0 x1 x2 x3 (some a)
theorem axR{n:dq}:∀F h,au oz C lf [1,0] F h (dj n 0 1 2 3 10) a6 ar=bm (Kp C lf n) 0 1 2 3 F h:=by
 intro F h;kernel_rfl
def afn(C:ad)(lf:Nat)(r:a0)(x0 x1 x2 x3:O)(h:U):ab:=
 Kp C lf (Ko C lf r) x0 x1 x2 x3 h
theorem axS{r:a0}:∀F h,au oz C lf [1] F h bc (bf r 8 9) ar=bm (afn C lf r) 0 1 2 3 F h:=bn (by kernel_rfl) axQ axR
noncomputable def afo(C:ad)(lf:Nat)(n:br)(x0 x1 x2 x3:O)(h:U):ab:=
 n x0 x1 x2 x3 h
theorem axT{n:br}:∀F h,au oz C lf [0] F h (bm n 0 1 2 3) a6 ar=bm (afo C lf n) 0 1 2 3 F h:=by
 intro F h;kernel_rfl
def Vu(C:ad)(lf:Nat)(r:a0)(x0 x1 x2 x3:O)(h:U):ab:=
 afo C lf (afn C lf r) x0 x1 x2 x3 h
theorem axU{r:a0}:∀F h,au oz C lf [] F h bc (bf r 8 9) ar=bm (Vu C lf r) 0 1 2 3 F h:=bn (by kernel_rfl) axS axT
def vB(C:ad)(lf:Nat)(al an aD a7:J)(h:U):ab:=Vu C lf xC (some al) (some an) (some aD) (some a7) h
def aa4:cK ax:=rj oz vB (λC lf al an aD a7 h=>c8 (K:=(bf xC 8 9)) (by kernel_rfl) (Eq.trans (axU _ h) (by kernel_rfl))) (by kernel_rfl)
def Z8:ca ax:=dv 98 Tryd.f98 Tryd.func98 (by kernel_rfl)
noncomputable def Od(aM:O)(h:U):ab:=
 ob aM λa=>some (.ret a,h)
def Vv(C:ad)(lf:Nat)(r:aC)(x0 x1 x2:O)(h:U):ab:=
 a3 C 104 x0 x1 h λa k=>gx a (r (bE 2) k) (dI 4 x0 k λa=>mh 308 a x1 λa=>ob (b5 1 a) λa=>ob x2 λb=>tr 1 a k λc=>ob (kM .neg c) λc=>eF .lss 3 b c (r (bE 22) k) (ob x2 λb=>tr 1 a k λc=>cm .sub 3 (I 16) c λc=>eF .gtr 3 b c (r (bE 31) k) (tr 1 a k λb=>Ea .add 3 b x2 λb=>uE 1 a b k λk=>dI 3 x0 k λb=>uE 9 a b k λk=>a3 C 109 x0 x1 k λa=>r (bE 0))))
theorem axV{r:aC}:∀F h,au Z8 C lf [] F h bc (aX r 6) ar=bB (Vv C lf r) 0 1 2 F h:=by
 intro F h;kernel_rfl
def xK(C:ad)(lf:Nat)(al an aD:J)(h:U):ab:=Vv C lf Od (some al) (some an) (some aD) h
def aa5:cK ax:=nx Z8 xK (λC lf al an aD h=>c8 (K:=(aX Od 6)) (by kernel_rfl) (Eq.trans (axV _ h) (by kernel_rfl))) (by kernel_rfl)
def Z9:ca ax:=dv 99 Tryd.f99 Tryd.func99 (by kernel_rfl)
noncomputable def Oe(bV:O)(h:U):ab:=
 ob bV λa=>some (.ret a,h)
def Vw(C:ad)(lf:Nat)(r:aC)(x0 x1:O)(h:U):ab:=
 a3 C 104 x0 x1 h λa k=>gx a (r (bE 2) k) (dI 4 x0 k λa=>ob x1 λb=>ob (dD 308 a b) λc=>eR 11 c k λc=>cm .add 3 c (I 1) λc=>ob (dD 308 a b) λa=>ob (b5 11 a) λa=>ob (st 1 a c k) (r (bE 0)))
theorem axW{r:aC}:∀F h,au Z9 C lf [] F h bc (aX r 4) ar=bf (Vw C lf r) 0 1 F h:=by
 intro F h;kernel_rfl
def CU(C:ad)(lf:Nat)(al an:J)(h:U):ab:=Vw C lf Oe (some al) (some an) h
def aa6:cK ax:=hP Z9 CU (λC lf al an h=>c8 (K:=(aX Oe 4)) (by kernel_rfl) (Eq.trans (axW _ h) (by kernel_rfl))) (by kernel_rfl)
def Zn:ca ax:=dv 100 Tryd.f100 Tryd.func100 (by kernel_rfl)
noncomputable def Nq(bV:O)(h:U):ab:=
 ob bV λa=>some (.ret a,h)
def Q1(C:ad)(lf:Nat)(r:aC)(x0 x1:O)(h:U):ab:=
 a3 C 104 x0 x1 h λa k=>gx a (r (bE 2) k) (dI 4 x0 k λa=>QI 308 11 a x1 k λa=>eF .eql 3 a (I 0) (r (bE 22) k) (dI 4 x0 k λa=>ob x1 λb=>ob (dD 308 a b) λc=>eR 11 c k λc=>cm .sub 3 c (I 1) λc=>ob (dD 308 a b) λa=>ob (b5 11 a) λa=>ob (st 1 a c k) λk=>a3 C 109 x0 x1 k λa=>r (bE 0)))
theorem aqA{r:aC}:∀F h,au Zn C lf [] F h bc (aX r 4) ar=bf (Q1 C lf r) 0 1 F h:=by
 intro F h;kernel_rfl
def z7(C:ad)(lf:Nat)(al an:J)(h:U):ab:=Q1 C lf Nq (some al) (some an) h
def aaa:cK ax:=hP Zn z7 (λC lf al an h=>c8 (K:=(aX Nq 4)) (by kernel_rfl) (Eq.trans (aqA _ h) (by kernel_rfl))) (by kernel_rfl)
end
noncomputable section
variable{C:ad}{lf:Nat}{bc a6 gi hJ gj hK qF qG qH qI qJ qK qC qD qE:gD}{ar:kR}
def Zo:ca ax:=dv 101 Tryd.f101 Tryd.func101 (by kernel_rfl)
noncomputable def Nr(aM:O)(h:U):ab:=
 ob aM λa=>some (.ret a,h)
def Q2(C:ad)(lf:Nat)(r:aC)(x0 x1 x2:O)(h:U):ab:=
 a3 C 104 x0 x1 h λa k=>gx a (r (bE 2) k) (dI 4 x0 k λa=>mh 308 a x1 λa=>ob (b5 1 a) λa=>tr 6 a k λb=>da C 108 [b] k λb k=>cB .and 68 x2 (I 4095) λc=>cm .or 68 b c λb=>uE 6 a b k λk=>dI 3 x0 k λb=>ed 9 a λa=>ob (st 1 a b k) (r (bE 0)))
theorem aqB{r:aC}:∀F h,au Zo C lf [] F h bc (aX r 6) ar=bB (Q2 C lf r) 0 1 2 F h:=by
 intro F h;kernel_rfl
def CA(C:ad)(lf:Nat)(al an aD:J)(h:U):ab:=Q2 C lf Nr (some al) (some an) (some aD) h
def aab:cK ax:=nx Zo CA (λC lf al an aD h=>c8 (K:=(aX Nr 6)) (by kernel_rfl) (Eq.trans (aqB _ h) (by kernel_rfl))) (by kernel_rfl)
def vC:ca ax:=dv 102 Tryd.f102 Tryd.func102 (by kernel_rfl)
noncomputable def xz(aT:O)(h:U):ab:=
 ob aT λa=>some (.ret a,h)
def Rb(C:ad)(lf:Nat)(r:aC)(x0 x9:O)(h:U):ab:=
 ob x9 λa=>dI 3 x0 h λb=>ed 9 a λa=>ob (st 1 a b h) (r (bE 0))
def aeh(C:ad)(lf:Nat)(n:a0)(x0 x3 x9:O)(h:U):ab:=
 gT .geq 3 x3 (I 0) (ob x9 λa=>ob x3 λb=>ed 3 a λa=>ob (st 1 a b h) (n x0 x9)) (n x0 x9 h)
def Q3(C:ad)(lf:Nat)(r:aC)(x0 x3 x9:O)(h:U):ab:=
 aeh C lf (Rb C lf r) x0 x3 x9 h
def aei(C:ad)(lf:Nat)(n:bG)(x0 x2 x3 x9:O)(h:U):ab:=
 gT .geq 3 x2 (I 0) (ob x9 λa=>ob x2 λb=>ed 2 a λa=>ob (st 1 a b h) (n x0 x3 x9)) (n x0 x3 x9 h)
def aej(C:ad)(lf:Nat)(r:aC)(x0 x2 x3 x9:O)(h:U):ab:=
 aei C lf (Q3 C lf r) x0 x2 x3 x9 h
def aek(C:ad)(lf:Nat)(n:br)(x0 x1 x2 x3:O)(h:U):ab:=
 dI 4 x0 h λa=>mh 308 a x1 λa=>ob (b5 1 a) λa=>n x0 x2 x3 (some a) h
def Q4(C:ad)(lf:Nat)(r:aC)(x0 x1 x2 x3:O)(h:U):ab:=
 aek C lf (aej C lf r) x0 x1 x2 x3 h
theorem aqC{r:aC}:∀F h,au vC C lf [1,1,1] F h bc (aX r 8) ar=bm (Q4 C lf r) 0 1 2 3 F h:=by
 intro F h;kernel_rfl
def Q5(C:ad)(lf:Nat)(n:br)(r:aC)(x0 x1 x2 x3:O)(h:U):ab:=
 cB .lss 3 x2 (I (-1)) λa=>h4 .lss 3 a x3 (I (-1)) h λb k=>n7 a b (r (bE 22) k) (n x0 x1 x2 x3 k)
theorem aqD{n:br}{r:aC}:∀F h,au vC C lf [1,1,0] F h (bm n 0 1 2 3) (aX r 8) ar=bm (Q5 C lf n r) 0 1 2 3 F h:=by
 intro F h;kernel_rfl
def Q6(C:ad)(lf:Nat)(r:aC)(x0 x1 x2 x3:O)(h:U):ab:=
 Q5 C lf (Q4 C lf r) r x0 x1 x2 x3 h
theorem aqE{r:aC}:∀F h,au vC C lf [1,1] F h bc (aX r 8) ar=bm (Q6 C lf r) 0 1 2 3 F h:=bn (by kernel_rfl) aqC aqD
def Q7(C:ad)(lf:Nat)(n:br)(r:aC)(x0 x1 x2 x3:O)(h:U):ab:=
 a3 C 104 x0 x1 h λa k=>gx a (r (bE 2) k) (n x0 x1 x2 x3 k)
theorem aqF{n:br}{r:aC}:∀F h,au vC C lf [1,0] F h (bm n 0 1 2 3) (aX r 8) ar=bm (Q7 C lf n r) 0 1 2 3 F h:=by
 intro F h;kernel_rfl
def Q8(C:ad)(lf:Nat)(r:aC)(x0 x1 x2 x3:O)(h:U):ab:=
 Q7 C lf (Q6 C lf r) r x0 x1 x2 x3 h
theorem aqG{r:aC}:∀F h,au vC C lf [1] F h bc (aX r 8) ar=bm (Q8 C lf r) 0 1 2 3 F h:=bn (by kernel_rfl) aqE aqF
noncomputable def Q9(C:ad)(lf:Nat)(n:br)(x0 x1 x2 x3:O)(h:U):ab:=
 n x0 x1 x2 x3 h
theorem aqH{n:br}:∀F h,au vC C lf [0] F h (bm n 0 1 2 3) a6 ar=bm (Q9 C lf n) 0 1 2 3 F h:=by
 intro F h;kernel_rfl
def Ra(C:ad)(lf:Nat)(r:aC)(x0 x1 x2 x3:O)(h:U):ab:=
 Q9 C lf (Q8 C lf r) x0 x1 x2 x3 h
theorem aqI{r:aC}:∀F h,au vC C lf [] F h bc (aX r 8) ar=bm (Ra C lf r) 0 1 2 3 F h:=bn (by kernel_rfl) aqG aqH
def z8(C:ad)(lf:Nat)(al an aD a7:J)(h:U):ab:=Ra C lf xz (some al) (some an) (some aD) (some a7) h
def aac:cK ax:=rj vC z8 (λC lf al an aD a7 h=>c8 (K:=(aX xz 8)) (by kernel_rfl) (Eq.trans (aqI _ h) (by kernel_rfl))) (by kernel_rfl)
def Zp:ca ax:=dv 103 Tryd.f103 Tryd.func103 (by kernel_rfl)
noncomputable def Ns(aT:O)(h:U):ab:=
 ob aT λa=>some (.ret a,h)
def Rc(C:ad)(lf:Nat)(r:aC)(x0 x1 x2 x3:O)(h:U):ab:=
 a3 C 104 x0 x1 h λa k=>gx a (r (bE 2) k) (dI 4 x0 k λa=>mh 308 a x1 λa=>ob (b5 1 a) λa=>ob x2 λb=>ob x3 λc=>dI 3 x0 k λd=>uE 7 a b k λk=>uE 8 a c k λk=>ed 9 a λa=>ob (st 1 a d k) (r (bE 0)))
theorem aqJ{r:aC}:∀F h,au Zp C lf [] F h bc (aX r 8) ar=bm (Rc C lf r) 0 1 2 3 F h:=by
 intro F h;kernel_rfl
def CB(C:ad)(lf:Nat)(al an aD a7:J)(h:U):ab:=Rc C lf Ns (some al) (some an) (some aD) (some a7) h
def aad:cK ax:=rj Zp CB (λC lf al an aD a7 h=>c8 (K:=(aX Ns 8)) (by kernel_rfl) (Eq.trans (aqJ _ h) (by kernel_rfl))) (by kernel_rfl)
def Zq:ca ax:=dv 104 Tryd.f104 Tryd.func104 (by kernel_rfl)
noncomputable def Nt(bV:O)(h:U):ab:=
 ob bV λa=>some (.ret a,h)
def Rd(C:ad)(lf:Nat)(r:aC)(x0 x1:O)(h:U):ab:=
 cB .gtr 3 x1 (I 0) λa=>b8 a x1 h λb k=>ug 2 a x0 k λc k=>b8 a (bin ax .leq 3 b c) k λb k=>h9 a b λa=>ug 4 a x0 k λb k=>b8 a x1 k λc k=>b8 a (dD 308 b c) k λb k=>b8 a (b5 0 b) k λb k=>b8 a (b0 b k) k λb k=>h9 a b λa=>r (some a) k
theorem aqK{r:aC}:∀F h,au Zq C lf [] F h bc (aX r 4) ar=bf (Rd C lf r) 0 1 F h:=by
 intro F h;kernel_rfl
def Hd(C:ad)(lf:Nat)(al an:J)(h:U):ab:=Rd C lf Nt (some al) (some an) h
def aae:cK ax:=hP Zq Hd (λC lf al an h=>c8 (K:=(aX Nt 4)) (by kernel_rfl) (Eq.trans (aqK _ h) (by kernel_rfl))) (by kernel_rfl)
def Zr:ca ax:=dv 105 Tryd.f105 Tryd.func105 (by kernel_rfl)
noncomputable def Nu(x2:O)(h:U):ab:=
 ob x2 λa=>some (.ret a,h)
def Re(C:ad)(lf:Nat)(r:aC)(x0:O)(h:U):ab:=
 gT .lss 3 x0 (I 6) (r (bE (-1)) h) (cB .sub 3 x0 (I 6) λa=>cm .quo 3 a (I 16) λa=>r (some a) h)
theorem aqL{r:aC}:∀F h,au Zr C lf [] F h bc (aX r 2) ar=aX (Re C lf r) 0 F h:=by
 intro F h;kernel_rfl
def He(C:ad)(lf:Nat)(al:J)(h:U):ab:=Re C lf Nu (some al) h
def aaf:cK ax:=j8 Zr He (λC lf al h=>c8 (K:=(aX Nu 2)) (by kernel_rfl) (Eq.trans (aqL _ h) (by kernel_rfl))) (by kernel_rfl)
def kc:ca ax:=dv 106 Tryd.f106 Tryd.func106 (by kernel_rfl)
noncomputable def qh(aM:O)(h:U):ab:=
 ob aM λa=>some (.ret a,h)
def I6(C:ad)(lf:Nat)(r:aC)(x2 x7 x9:O)(h:U):ab:=
 ob x7 λa=>ob x2 λb=>ob x9 λc=>ob (dD 1 c (I 0)) λc=>ob (b0 c h) λc=>ed 12 a λa=>ob (ev 278 1 a b) λa=>ob (st 1 a c h) (r (some (.bool true)))
def Ek(C:ad)(lf:Nat)(n:bG)(x2 x7 aT x9:O)(h:U):ab:=
 cB .geq 3 aT (I 0) λa=>b8 a x7 h λb k=>b8 a aT k λc k=>b8 a (eC b) k λb k=>b8 a (b5 290 b) k λb k=>b8 a (ev 17 1 b c) k λb k=>iR .eql 3 a (b0 b k) (I 0) k λb k=>pY a b (ob x7 λa=>ob aT λb=>ob x9 λc=>ob (dD 1 c (I 0)) λc=>ob (b0 c k) λc=>ed 290 a λa=>ob (ev 17 1 a b) λa=>ob (st 1 a c k) λk=>ob x9 λa=>ob (fK ax 33 a (bE 1) none) λa=>n x2 x7 (some a) k) (n x2 x7 x9 k)
def Ja(C:ad)(lf:Nat)(r:aC)(x2 x7 aT x9:O)(h:U):ab:=
 Ek C lf (I6 C lf r) x2 x7 aT x9 h
def El(C:ad)(lf:Nat)(n:br)(x2 x7 aT x9:O)(h:U):ab:=
 cB .gtr 3 aT (I 0) λa=>b8 a x7 h λb k=>b8 a (eC b) k λb k=>b8 a (b5 307 b) k λb k=>iR .eql 3 a (b0 b k) (I 0) k λb k=>pY a b (ob x7 λa=>ob x9 λb=>ob (dD 1 b (I 0)) λb=>ob (b0 b k) λb=>uE 307 a b k λk=>ob x9 λa=>ob (fK ax 33 a (bE 1) none) λa=>n x2 x7 aT (some a) k) (n x2 x7 aT x9 k)
def Em(C:ad)(lf:Nat)(r:aC)(x2 x7 aT x9:O)(h:U):ab:=
 El C lf (Ja C lf r) x2 x7 aT x9 h
theorem aqW{r:aC}:∀F h,au kc C lf [1,1,1,1,1,1,1,1] F h bc (aX r 6) ar=bm (Em C lf r) 2 7 8 9 F h:=by
 intro F h;kernel_rfl
def En(C:ad)(lf:Nat)(n:kQ)(aB:br)(x0 x2 x7 aT x9 n9 jx:O)(h:U):ab:=
 lX .lss 3 jx n9 (gO 0 x0 λa=>da C 66 [a] h λa k=>dn a λa b=>ob x9 λb=>cm .add 3 a (I 1) λa=>b2 (iJ ax 33 1 [0] [a] k) λa k=>b2 (gA ax .append #[33,33] [b,a] k) λa k=>cB .add 3 jx (I 1) λb=>n x0 x2 x7 aT (some a) n9 (some b) k) (aB x2 x7 aT x9 h)
theorem aqX{n:kQ}{aB:br}:∀F h,au kc C lf [1,1,1,1,1,1,1,0,1,0,0] F h (p9 n 0 2 7 8 9 38 39) a6 (bS 0 (bm aB 2 7 8 9) ar)=p9 (En C lf n aB) 0 2 7 8 9 38 39 F h:=by
 intro F h;kernel_rfl
def AJ(C:ad)(lf:Nat)(aB:br)(k:O×O×O×O×O×O×O->U->ab)(s:O×O×O×O×O×O×O)(h:U):ab:=
 En C lf (λa b c d g i j=>k (a,b,c,d,g,i,j)) aB s.1 s.2.1 s.2.2.1 s.2.2.2.1 s.2.2.2.2.1 s.2.2.2.2.2.1 s.2.2.2.2.2.2 h
def Ri(C:ad)(lf:Nat)(n:kQ)(x0 x2 x7 aT x9 aW:O)(h:U):ab:=
 ob aW λa=>n x0 x2 x7 aT x9 (some a) (bE 0) h
theorem aqY{n:kQ}:∀F h,au kc C lf [1,1,1,1,1,1,1,0,0] F h (p9 n 0 2 7 8 9 38 39) a6 ar=ej (Ri C lf n) 0 2 7 8 9 10 F h:=by
 intro F h;kernel_rfl
def Rj(C:ad)(lf:Nat)(n:br)(x0 x2 x7 aT x9 aW:O)(h:U):ab:=
 Ri C lf (λa b c d g i j=>bp (AJ C lf n) lf (a,b,c,d,g,i,j)) x0 x2 x7 aT x9 aW h
theorem aqZ{n:br}:∀F h,au kc C lf [1,1,1,1,1,1,1,0] F h (bm n 2 7 8 9) a6 ar=ej (Rj C lf n) 0 2 7 8 9 10 F h:=bn (b:=b9 kc [1,1,1,1,1,1,1,0,1]) (by kernel_rfl) (fX (id:=0) (a:=b9 kc [1,1,1,1,1,1,1,0,1,0]) (by kernel_rfl) (gX (g:=λF=>(F 0,F 2,F 7,F 8,F 9,F 38,F 39)) (body:=AJ C lf n) (by kernel_rfl) (λk=>(aqX (n:=λx0 x2 x7 aT x9 n9 jx h=>k (x0,x2,x7,aT,x9,n9,jx) h))))) (aqY (n:=λx0 x2 x7 aT x9 n9 jx h=>bp (AJ C lf n) lf (x0,x2,x7,aT,x9,n9,jx) h))
def Jb(C:ad)(lf:Nat)(r:aC)(x0 x2 x7 aT x9 aW:O)(h:U):ab:=
 Rj C lf (Em C lf r) x0 x2 x7 aT x9 aW h
theorem aq0{r:aC}:∀F h,au kc C lf [1,1,1,1,1,1,1] F h bc (aX r 6) ar=ej (Jb C lf r) 0 2 7 8 9 10 F h:=bn (by kernel_rfl) aqW aqZ
def Eo(C:ad)(lf:Nat)(n:dz)(r:aC)(x0 x2 x7 aT x9 aW:O)(h:U):ab:=
 gO 0 x0 λa=>da C 30 [a] h λa k=>agA .lss 3 a aW (r (some (.bool false)) k) (n x0 x2 x7 aT x9 aW k)
theorem aq1{n:dz}{r:aC}:∀F h,au kc C lf [1,1,1,1,1,1,0] F h (ej n 0 2 7 8 9 10) (aX r 6) ar=ej (Eo C lf n r) 0 2 7 8 9 10 F h:=by
 intro F h;kernel_rfl
def Jc(C:ad)(lf:Nat)(r:aC)(x0 x2 x7 aT x9 aW:O)(h:U):ab:=
 Eo C lf (Jb C lf r) r x0 x2 x7 aT x9 aW h
theorem aq2{r:aC}:∀F h,au kc C lf [1,1,1,1,1,1] F h bc (aX r 6) ar=ej (Jc C lf r) 0 2 7 8 9 10 F h:=bn (by kernel_rfl) aq0 aq1
def Jd(C:ad)(lf:Nat)(n:dz)(x0 x1 x2 x7 aT x9:O)(h:U):ab:=
 cl C 110 x0 x1 x2 h λa=>n x0 x2 x7 aT x9 (some a)
theorem aq3{n:dz}:∀F h,au kc C lf [1,1,1,1,1,0] F h (ej n 0 2 7 8 9 10) a6 ar=ej (Jd C lf n) 0 1 2 7 8 9 F h:=by
 intro F h;kernel_rfl
def aeo(C:ad)(lf:Nat)(r:aC)(x0 x1 x2 x7 aT x9:O)(h:U):ab:=
 Jd C lf (Jc C lf r) x0 x1 x2 x7 aT x9 h
theorem aq4{r:aC}:∀F h,au kc C lf [1,1,1,1,1] F h bc (aX r 6) ar=ej (aeo C lf r) 0 1 2 7 8 9 F h:=bn (by kernel_rfl) aq2 aq3
noncomputable def ael(C:ad)(lf:Nat)(n:dz)(x0 x1 x2 x7 aT:O)(h:U):ab:=
 n x0 x1 x2 x7 aT (some (.val (.slice none 0 0))) h
theorem aqM{n:dz}:∀F h,au kc C lf [1,1,1,1,0] F h (ej n 0 1 2 7 8 9) a6 ar=dj (ael C lf n) 0 1 2 7 8 F h:=by
 intro F h;kernel_rfl
def Rf(C:ad)(lf:Nat)(r:aC)(x0 x1 x2 x7 aT:O)(h:U):ab:=
 ael C lf (aeo C lf r) x0 x1 x2 x7 aT h
theorem aqN{r:aC}:∀F h,au kc C lf [1,1,1,1] F h bc (aX r 6) ar=dj (Rf C lf r) 0 1 2 7 8 F h:=bn (by kernel_rfl) aq4 aqM
def Rg(C:ad)(lf:Nat)(n:dq)(x0 x1 x2 x7:O)(h:U):ab:=
 aQ C 105 x2 h λa=>n x0 x1 x2 x7 (some a)
theorem aqO{n:dq}:∀F h,au kc C lf [1,1,1,0] F h (dj n 0 1 2 7 8) a6 ar=bm (Rg C lf n) 0 1 2 7 F h:=by
 intro F h;kernel_rfl
def Ej(C:ad)(lf:Nat)(r:aC)(x0 x1 x2 x7:O)(h:U):ab:=
 Rg C lf (Rf C lf r) x0 x1 x2 x7 h
theorem aqP{r:aC}:∀F h,au kc C lf [1,1,1] F h bc (aX r 6) ar=bm (Ej C lf r) 0 1 2 7 F h:=bn (by kernel_rfl) aqN aqO
def I7(C:ad)(lf:Nat)(n:br)(r:aC)(x0 x1 x2 x7:O)(h:U):ab:=
 ob x7 λa=>ob x2 λb=>ed 12 a λa=>ob (ev 278 1 a b) λa=>ob (b0 a h) λa=>eF .gtr 3 a (I 0) (r (some (.bool true)) h) (n x0 x1 x2 x7 h)
theorem aqQ{n:br}{r:aC}:∀F h,au kc C lf [1,1,0] F h (bm n 0 1 2 7) (aX r 6) ar=bm (I7 C lf n r) 0 1 2 7 F h:=by
 intro F h;kernel_rfl
def I8(C:ad)(lf:Nat)(r:aC)(x0 x1 x2 x7:O)(h:U):ab:=
 I7 C lf (Ej C lf r) r x0 x1 x2 x7 h
theorem aqR{r:aC}:∀F h,au kc C lf [1,1] F h bc (aX r 6) ar=bm (I8 C lf r) 0 1 2 7 F h:=bn (by kernel_rfl) aqP aqQ
def I9(C:ad)(lf:Nat)(n:br)(x0 x1 x2:O)(h:U):ab:=
 dI 4 x0 h λa=>mh 308 a x1 λa=>n x0 x1 x2 (some a) h
theorem aqS{n:br}:∀F h,au kc C lf [1,0] F h (bm n 0 1 2 7) a6 ar=bB (I9 C lf n) 0 1 2 F h:=by
 intro F h;kernel_rfl
def aem(C:ad)(lf:Nat)(r:aC)(x0 x1 x2:O)(h:U):ab:=
 I9 C lf (I8 C lf r) x0 x1 x2 h
theorem aqT{r:aC}:∀F h,au kc C lf [1] F h bc (aX r 6) ar=bB (aem C lf r) 0 1 2 F h:=bn (by kernel_rfl) aqR aqS
noncomputable def aen(C:ad)(lf:Nat)(n:bG)(x0 x1 x2:O)(h:U):ab:=
 n x0 x1 x2 h
theorem aqU{n:bG}:∀F h,au kc C lf [0] F h (bB n 0 1 2) a6 ar=bB (aen C lf n) 0 1 2 F h:=by
 intro F h;kernel_rfl
def Rh(C:ad)(lf:Nat)(r:aC)(x0 x1 x2:O)(h:U):ab:=
 aen C lf (aem C lf r) x0 x1 x2 h
theorem aqV{r:aC}:∀F h,au kc C lf [] F h bc (aX r 6) ar=bB (Rh C lf r) 0 1 2 F h:=bn (by kernel_rfl) aqT aqU
def xH(C:ad)(lf:Nat)(al an aD:J)(h:U):ab:=Rh C lf qh (some al) (some an) (some aD) h
def aag:cK ax:=nx kc xH (λC lf al an aD h=>c8 (K:=(aX qh 6)) (by kernel_rfl) (Eq.trans (aqV _ h) (by kernel_rfl))) (by kernel_rfl)
def gp:ca ax:=dv 107 Tryd.f107 Tryd.func107 (by kernel_rfl)
noncomputable def z1(h:U):ab:=
 some (.ret (.bo []),h)
def Et(C:ad)(lf:Nat)(n:cq)(x0 aM aT:O)(h:U):ab:=
 ob aT λa=>ob (kM .not a) λa=>b8 a aM h λb k=>b8 a (eC b) k λb k=>b8 a (b5 307 b) k λb k=>iR .gtr 3 a (b0 b k) (I 0) k λb k=>pY a b (gO 0 x0 λa=>dI 307 aM k λb=>cm .sub 3 b (I 1) λb=>dP (C (.fn 67) [a,b] k) λa k=>gO 307 aM λa=>ob (st 1 a (I 0) k) n) (n k)
theorem arw{n:cq}:∀F h,au gp C lf [1,1,1,1] F h (dZ n) a6 ar=bB (Et C lf n) 0 6 8 F h:=by
 intro F h;kernel_rfl
def Eu(C:ad)(lf:Nat)(n:br)(x0 aM aT dY:O)(h:U):ab:=
 cB .add 3 dY (I 1) λa=>n x0 aM aT (some a) h
theorem arx{n:br}:∀F h,au gp C lf [1,1,1,0,1,0,0,1,1,1] F h (bm n 0 6 8 46) a6 (bS 2 gj ar)=bm (Eu C lf n) 0 6 8 46 F h:=by
 intro F h;kernel_rfl
def RB(C:ad)(lf:Nat)(n:br)(x0 aM aT x9 aW dY:O)(h:U):ab:=
 ob aT λa=>h4 .gtr 3 a x9 (I 0) h λb k=>dJ a (some b) k λb k=>b8 b aW k λc k=>dJ a (jf b c (.bool false)) k λb k=>nk a b λa=>n x0 aM (some a) dY k
def RC(C:ad)(lf:Nat)(n:dz)(x0 aM aT x9 aW dY:O)(h:U):ab:=
 ob aW λa=>ob (kM .not a) λa=>b8 a aM h λb k=>b8 a x9 k λc k=>b8 a (eC b) k λb k=>b8 a (b5 290 b) k λb k=>b8 a (ev 17 1 b c) k λb k=>iR .gtr 3 a (b0 b k) (I 0) k λb k=>pY a b (gO 0 x0 λa=>ob aM λb=>ob x9 λc=>ed 290 b λb=>ob (ev 17 1 b c) λb=>ob (b0 b k) λb=>cm .sub 3 b (I 1) λb=>dP (C (.fn 67) [a,b] k) λa k=>ob aM λa=>ob x9 λb=>ed 290 a λa=>ob (ev 17 1 a b) λa=>ob (st 1 a (I 0) k) (n x0 aM aT x9 aW dY)) (n x0 aM aT x9 aW dY k)
def RD(C:ad)(lf:Nat)(n:br)(x0 aM aT x9 aW dY:O)(h:U):ab:=
 RC C lf (RB C lf n) x0 aM aT x9 aW dY h
theorem ary{n:br}:∀F h,au gp C lf [1,1,1,0,1,0,0,1,1,0,0,1,1,1] F h (bm n 0 6 8 46) a6 (bS 3 hK (bS 2 gj ar))=ej (RD C lf n) 0 6 8 9 10 46 F h:=by
 intro F h;kernel_rfl
def Ep(C:ad)(lf:Nat)(n:kQ)(ef:dz)(x0 aM aT x9 aW x11 dY:O)(h:U):ab:=
 ob x11 λa=>cB .add 3 x9 (I 1) λb=>cm .mul 3 b (I 16) λb=>cm .add 3 (I 6) b λb=>eF .lss 3 a b (ob aW λa=>dJ a aM h λb k=>dJ a x11 k λc k=>dJ a (eC b) k λb k=>dJ a (b5 12 b) k λb k=>dJ a (ev 278 1 b c) k λb k=>h4 .gtr 3 a (b0 b k) (I 0) k λb k=>nk a b λa=>cB .add 3 x11 (I 1) λb=>n x0 aM aT x9 (some a) (some b) dY k) (ef x0 aM aT x9 aW dY h)
theorem aq5{n:kQ}{ef:dz}:∀F h,au gp C lf [1,1,1,0,1,0,0,1,1,0,0,1,1,0,1,0,0] F h (p9 n 0 6 8 9 10 11 46) a6 (bS 4 (ej ef 0 6 8 9 10 46) (bS 3 hK (bS 2 gj ar)))=p9 (Ep C lf n ef) 0 6 8 9 10 11 46 F h:=by
 intro F h;kernel_rfl
def AL(C:ad)(lf:Nat)(ef:dz)(k:O×O×O×O×O×O×O->U->ab)(s:O×O×O×O×O×O×O)(h:U):ab:=
 Ep C lf (λa b c d g i j=>k (a,b,c,d,g,i,j)) ef s.1 s.2.1 s.2.2.1 s.2.2.2.1 s.2.2.2.2.1 s.2.2.2.2.2.1 s.2.2.2.2.2.2 h
def Rk(C:ad)(lf:Nat)(n:kQ)(x0 aM aT x9 aW dY:O)(h:U):ab:=
 cB .mul 3 x9 (I 16) λa=>cm .add 3 (I 6) a λa=>n x0 aM aT x9 aW (some a) dY h
theorem aq6{n:kQ}:∀F h,au gp C lf [1,1,1,0,1,0,0,1,1,0,0,1,1,0,0] F h (p9 n 0 6 8 9 10 11 46) a6 (bS 3 hK (bS 2 gj ar))=ej (Rk C lf n) 0 6 8 9 10 46 F h:=by
 intro F h;kernel_rfl
def Rl(C:ad)(lf:Nat)(n:dz)(x0 aM aT x9 aW dY:O)(h:U):ab:=
 Rk C lf (λa b c d g i j=>bp (AL C lf n) lf (a,b,c,d,g,i,j)) x0 aM aT x9 aW dY h
theorem aq7{n:dz}:∀F h,au gp C lf [1,1,1,0,1,0,0,1,1,0,0,1,1,0] F h (ej n 0 6 8 9 10 46) a6 (bS 3 hK (bS 2 gj ar))=ej (Rl C lf n) 0 6 8 9 10 46 F h:=bn (b:=b9 gp [1,1,1,0,1,0,0,1,1,0,0,1,1,0,1]) (by kernel_rfl) (fX (id:=4) (a:=b9 gp [1,1,1,0,1,0,0,1,1,0,0,1,1,0,1,0]) (by kernel_rfl) (gX (g:=λF=>(F 0,F 6,F 8,F 9,F 10,F 11,F 46)) (body:=AL C lf n) (by kernel_rfl) (λk=>(aq5 (n:=λx0 aM aT x9 aW x11 dY h=>k (x0,aM,aT,x9,aW,x11,dY) h))))) (aq6 (n:=λx0 aM aT x9 aW x11 dY h=>bp (AL C lf n) lf (x0,aM,aT,x9,aW,x11,dY) h))
def Rm(C:ad)(lf:Nat)(n:br)(x0 aM aT x9 aW dY:O)(h:U):ab:=
 Rl C lf (RD C lf n) x0 aM aT x9 aW dY h
theorem aq8{n:br}:∀F h,au gp C lf [1,1,1,0,1,0,0,1,1,0,0,1,1] F h (bm n 0 6 8 46) a6 (bS 3 hK (bS 2 gj ar))=ej (Rm C lf n) 0 6 8 9 10 46 F h:=bn (by kernel_rfl) ary aq7
noncomputable def Rn(C:ad)(lf:Nat)(n:dz)(x0 aM aT x9 dY:O)(h:U):ab:=
 n x0 aM aT x9 (some (.bool false)) dY h
theorem aq9{n:dz}:∀F h,au gp C lf [1,1,1,0,1,0,0,1,1,0,0,1,0] F h (ej n 0 6 8 9 10 46) a6 (bS 3 hK (bS 2 gj ar))=dj (Rn C lf n) 0 6 8 9 46 F h:=by
 intro F h;kernel_rfl
def Ro(C:ad)(lf:Nat)(n:br)(x0 aM aT x9 dY:O)(h:U):ab:=
 Rn C lf (Rm C lf n) x0 aM aT x9 dY h
theorem ara{n:br}:∀F h,au gp C lf [1,1,1,0,1,0,0,1,1,0,0,1] F h (bm n 0 6 8 46) a6 (bS 3 hK (bS 2 gj ar))=dj (Ro C lf n) 0 6 8 9 46 F h:=bn (by kernel_rfl) aq8 aq9
noncomputable def Rp(C:ad)(lf:Nat)(n:dq)(x0 aM aT dY:O)(h:U):ab:=
 ob dY λa=>n x0 aM aT (some a) dY h
theorem arb{n:dq}:∀F h,au gp C lf [1,1,1,0,1,0,0,1,1,0,0,0] F h (dj n 0 6 8 9 46) a6 (bS 3 hK (bS 2 gj ar))=bm (Rp C lf n) 0 6 8 46 F h:=by
 intro F h;kernel_rfl
def Rq(C:ad)(lf:Nat)(n:br)(x0 aM aT dY:O)(h:U):ab:=
 Rp C lf (Ro C lf n) x0 aM aT dY h
theorem arc{n:br}:∀F h,au gp C lf [1,1,1,0,1,0,0,1,1,0,0] F h (bm n 0 6 8 46) a6 (bS 3 hK (bS 2 gj ar))=bm (Rq C lf n) 0 6 8 46 F h:=bn (by kernel_rfl) ara arb
def Rr(C:ad)(lf:Nat)(n:br)(x0 aM aT dY:O)(h:U):ab:=
 Rq C lf (Eu C lf n) x0 aM aT dY h
theorem ard{n:br}:∀F h,au gp C lf [1,1,1,0,1,0,0,1,1] F h (bm n 0 6 8 46) a6 (bS 2 gj ar)=bm (Rr C lf n) 0 6 8 46 F h:=bn (a:=b9 gp [1,1,1,0,1,0,0,1,1,0]) (by kernel_rfl) arx (fX (id:=3) (by kernel_rfl) arc)
noncomputable def Je(C:ad)(lf:Nat)(n:br)(aw:bG)(x0 aM aT dY Wm:O)(h:U):ab:=
 ob Wm λa=>fV a (n x0 aM aT dY h) (aw x0 aM aT h)
theorem are{n:br}{aw:bG}:∀F h,au gp C lf [1,1,1,0,1,0,0,1,0] F h (bm n 0 6 8 46) a6 (bS 2 (bB aw 0 6 8) ar)=dj (Je C lf n aw) 0 6 8 46 47 F h:=by
 intro F h;kernel_rfl
def Jf(C:ad)(lf:Nat)(n:br)(aw:bG)(x0 aM aT dY Wm:O)(h:U):ab:=
 Je C lf (Rr C lf n) aw x0 aM aT dY Wm h
theorem arf{n:br}{aw:bG}:∀F h,au gp C lf [1,1,1,0,1,0,0,1] F h (bm n 0 6 8 46) a6 (bS 2 (bB aw 0 6 8) ar)=dj (Jf C lf n aw) 0 6 8 46 47 F h:=bn (by kernel_rfl) ard are
def Jg(C:ad)(lf:Nat)(n:dq)(x0 aM aT dY:O)(h:U):ab:=
 cB .lss 3 dY (I 17) λa=>n x0 aM aT dY (some a) h
theorem arh{n:dq}:∀F h,au gp C lf [1,1,1,0,1,0,0,0] F h (dj n 0 6 8 46 47) a6 (bS 2 gj ar)=bm (Jg C lf n) 0 6 8 46 F h:=by
 intro F h;kernel_rfl
def Er(C:ad)(lf:Nat)(n:br)(aw:bG)(x0 aM aT dY:O)(h:U):ab:=
 Jg C lf (Jf C lf n aw) x0 aM aT dY h
theorem ari{n:br}{aw:bG}:∀F h,au gp C lf [1,1,1,0,1,0,0] F h (bm n 0 6 8 46) a6 (bS 2 (bB aw 0 6 8) ar)=bm (Er C lf n aw) 0 6 8 46 F h:=bn (by kernel_rfl) arf arh
def vY(C:ad)(lf:Nat)(aw:bG)(k:O×O×O×O->U->ab)(s:O×O×O×O)(h:U):ab:=
 Er C lf (λa b c d=>k (a,b,c,d)) aw s.1 s.2.1 s.2.2.1 s.2.2.2 h
def Rs(C:ad)(lf:Nat)(n:br)(x0 aM aT:O)(h:U):ab:=
 n x0 aM aT (bE 0) h
theorem arj{n:br}:∀F h,au gp C lf [1,1,1,0,0] F h (bm n 0 6 8 46) a6 ar=bB (Rs C lf n) 0 6 8 F h:=by
 intro F h;kernel_rfl
def Rt(C:ad)(lf:Nat)(n:bG)(x0 aM aT:O)(h:U):ab:=
 Rs C lf (λa b c d=>bp (vY C lf n) lf (a,b,c,d)) x0 aM aT h
theorem ark{n:bG}:∀F h,au gp C lf [1,1,1,0] F h (bB n 0 6 8) a6 ar=bB (Rt C lf n) 0 6 8 F h:=bn (b:=b9 gp [1,1,1,0,1]) (by kernel_rfl) (fX (id:=2) (a:=b9 gp [1,1,1,0,1,0]) (by kernel_rfl) (gX (g:=λF=>(F 0,F 6,F 8,F 46)) (body:=vY C lf n) (by kernel_rfl) (λk=>(ari (n:=λx0 aM aT dY h=>k (x0,aM,aT,dY) h))))) (arj (n:=λx0 aM aT dY h=>bp (vY C lf n) lf (x0,aM,aT,dY) h))
def Ru(C:ad)(lf:Nat)(n:cq)(x0 aM aT:O)(h:U):ab:=
 Rt C lf (Et C lf n) x0 aM aT h
theorem arl{n:cq}:∀F h,au gp C lf [1,1,1] F h (dZ n) a6 ar=bB (Ru C lf n) 0 6 8 F h:=bn (by kernel_rfl) arw ark
noncomputable def Rv(C:ad)(lf:Nat)(n:bG)(x0 aM:O)(h:U):ab:=
 n x0 aM (some (.bool false)) h
theorem arn{n:bG}:∀F h,au gp C lf [1,1,0] F h (bB n 0 6 8) a6 ar=bf (Rv C lf n) 0 6 F h:=by
 intro F h;kernel_rfl
def Jh(C:ad)(lf:Nat)(n:cq)(x0 aM:O)(h:U):ab:=
 Rv C lf (Ru C lf n) x0 aM h
theorem aro{n:cq}:∀F h,au gp C lf [1,1] F h (dZ n) a6 ar=bf (Jh C lf n) 0 6 F h:=bn (by kernel_rfl) arl arn
def Es(C:ad)(lf:Nat)(n:bG)(aB:a0)(x0 aM x7:O)(h:U):ab:=
 gT .lss 3 x7 (I 278) (ob aM λa=>ob x7 λb=>ed 12 a λa=>ob (ev 278 1 a b) λa=>ob (b0 a h) λa=>eF .gtr 3 a (I 0) (gO 0 x0 λa=>ob aM λb=>ob x7 λc=>ed 12 b λb=>ob (ev 278 1 b c) λb=>ob (b0 b h) λb=>cm .sub 3 b (I 1) λb=>dP (C (.fn 67) [a,b] h) λa k=>ob aM λa=>ob x7 λb=>ed 12 a λa=>ob (ev 278 1 a b) λa=>ob (st 1 a (I 0) k) λk=>cB .add 3 x7 (I 1) λa=>n x0 aM (some a) k) (cB .add 3 x7 (I 1) λa=>n x0 aM (some a) h)) (aB x0 aM h)
theorem arp{n:bG}{aB:a0}:∀F h,au gp C lf [1,0,1,0,0] F h (bB n 0 6 7) a6 (bS 0 (bf aB 0 6) ar)=bB (Es C lf n aB) 0 6 7 F h:=by
 intro F h;kernel_rfl
def AK(C:ad)(lf:Nat)(aB:a0)(k:O×O×O->U->ab)(s:O×O×O)(h:U):ab:=
 Es C lf (λa b c=>k (a,b,c)) aB s.1 s.2.1 s.2.2 h
noncomputable def Rw(C:ad)(lf:Nat)(n:bG)(x0 x2 aM:O)(h:U):ab:=
 ob x2 λa=>n x0 aM (some a) h
theorem arq{n:bG}:∀F h,au gp C lf [1,0,0] F h (bB n 0 6 7) a6 ar=bB (Rw C lf n) 0 2 6 F h:=by
 intro F h;kernel_rfl
def Rx(C:ad)(lf:Nat)(n:a0)(x0 x2 aM:O)(h:U):ab:=
 Rw C lf (λa b c=>bp (AK C lf n) lf (a,b,c)) x0 x2 aM h
theorem ars{n:a0}:∀F h,au gp C lf [1,0] F h (bf n 0 6) a6 ar=bB (Rx C lf n) 0 2 6 F h:=bn (b:=b9 gp [1,0,1]) (by kernel_rfl) (fX (id:=0) (a:=b9 gp [1,0,1,0]) (by kernel_rfl) (gX (g:=λF=>(F 0,F 6,F 7)) (body:=AK C lf n) (by kernel_rfl) (λk=>(arp (n:=λx0 aM x7 h=>k (x0,aM,x7) h))))) (arq (n:=λx0 aM x7 h=>bp (AK C lf n) lf (x0,aM,x7) h))
def Ry(C:ad)(lf:Nat)(n:cq)(x0 x2 aM:O)(h:U):ab:=
 Rx C lf (Jh C lf n) x0 x2 aM h
theorem art{n:cq}:∀F h,au gp C lf [1] F h (dZ n) a6 ar=bB (Ry C lf n) 0 2 6 F h:=bn (by kernel_rfl) aro ars
def Rz(C:ad)(lf:Nat)(n:bG)(x0 x1 x2:O)(h:U):ab:=
 dI 4 x0 h λa=>mh 308 a x1 λa=>n x0 x2 (some a) h
theorem aru{n:bG}:∀F h,au gp C lf [0] F h (bB n 0 2 6) a6 ar=bB (Rz C lf n) 0 1 2 F h:=by
 intro F h;kernel_rfl
def RA(C:ad)(lf:Nat)(n:cq)(x0 x1 x2:O)(h:U):ab:=
 Rz C lf (Ry C lf n) x0 x1 x2 h
theorem arv{n:cq}:∀F h,au gp C lf [] F h (dZ n) a6 ar=bB (RA C lf n) 0 1 2 F h:=bn (by kernel_rfl) art aru
def CC(C:ad)(lf:Nat)(al an aD:J)(h:U):ab:=RA C lf z1 (some al) (some an) (some aD) h
def aah:cK ax:=nx gp CC (λC lf al an aD h=>c8 (K:=(dZ z1)) (by kernel_rfl) (Eq.trans (arv _ h) (by kernel_rfl))) (by kernel_rfl)
def Zs:ca ax:=dv 108 Tryd.f108 Tryd.func108 (by kernel_rfl)
noncomputable def Nv(x2:O)(h:U):ab:=
 ob x2 λa=>some (.ret a,h)
def RE(C:ad)(lf:Nat)(r:aC)(x0:O)(h:U):ab:=
 cB .and 68 x0 (I 61440) λa=>r (some a) h
theorem arz{r:aC}:∀F h,au Zs C lf [] F h bc (aX r 2) ar=aX (RE C lf r) 0 F h:=by
 intro F h;kernel_rfl
def Hf(C:ad)(lf:Nat)(al:J)(h:U):ab:=RE C lf Nv (some al) h
def aai:cK ax:=j8 Zs Hf (λC lf al h=>c8 (K:=(aX Nv 2)) (by kernel_rfl) (Eq.trans (arz _ h) (by kernel_rfl))) (by kernel_rfl)
def Zt:ca ax:=dv 109 Tryd.f109 Tryd.func109 (by kernel_rfl)
noncomputable def Nw(h:U):ab:=
 some (.ret (.bo []),h)
def RF(C:ad)(lf:Nat)(n:cq)(x0 x1:O)(h:U):ab:=
 dI 4 x0 h λa=>mh 308 a x1 λa=>ob (b5 1 a) λa=>eR 1 a h λa=>cm .eql 3 a (I 0) λa=>ug 4 a x0 h λb k=>b8 a x1 k λc k=>b8 a (dD 308 b c) k λb k=>b8 a (b5 11 b) k λb k=>iR .eql 3 a (b0 b k) (I 0) k λb k=>pY a b (ob x0 λa=>ob x1 λb=>da C 107 [a,b,I 0] k λa k=>dI 4 x0 k λa=>ob x1 λb=>ob (ib ax 156 [] []) λc=>ob (dD 308 a b) λa=>ob (st 308 a c k) n) (n k)
theorem arA{n:cq}:∀F h,au Zt C lf [] F h (dZ n) a6 ar=bf (RF C lf n) 0 1 F h:=by
 intro F h;kernel_rfl
def Hg(C:ad)(lf:Nat)(al an:J)(h:U):ab:=RF C lf Nw (some al) (some an) h
def aaj:cK ax:=hP Zt Hg (λC lf al an h=>c8 (K:=(dZ Nw)) (by kernel_rfl) (Eq.trans (arA _ h) (by kernel_rfl))) (by kernel_rfl)
def vD:ca ax:=dv 110 Tryd.f110 Tryd.func110 (by kernel_rfl)
noncomputable def Cw(aM:O)(h:U):ab:=
 ob aM λa=>some (.ret a,h)
def RG(C:ad)(lf:Nat)(r:aC)(x7 aT x9:O)(h:U):ab:=
 cB .gtr 3 aT (I 0) λa=>b8 a x7 h λb k=>b8 a (eC b) k λb k=>b8 a (b5 307 b) k λb k=>iR .eql 3 a (b0 b k) (I 0) k λb k=>pY a b (cB .add 3 x9 (I 1) λa=>r (some a) k) (ob x9 λa=>r (some a) k)
def aep(C:ad)(lf:Nat)(n:bG)(x7 aT x9:O)(h:U):ab:=
 cB .geq 3 aT (I 0) λa=>b8 a x7 h λb k=>b8 a aT k λc k=>b8 a (eC b) k λb k=>b8 a (b5 290 b) k λb k=>b8 a (ev 17 1 b c) k λb k=>iR .eql 3 a (b0 b k) (I 0) k λb k=>pY a b (cB .add 3 x9 (I 1) λa=>n x7 aT (some a) k) (n x7 aT x9 k)
def aeq(C:ad)(lf:Nat)(r:aC)(x7 aT x9:O)(h:U):ab:=
 aep C lf (RG C lf r) x7 aT x9 h
def aer(C:ad)(lf:Nat)(n:bG)(x7 aT:O)(h:U):ab:=
 n x7 aT (bE 1) h
def aes(C:ad)(lf:Nat)(r:aC)(x7 aT:O)(h:U):ab:=
 aer C lf (aeq C lf r) x7 aT h
def aet(C:ad)(lf:Nat)(n:a0)(x2 x7:O)(h:U):ab:=
 aQ C 105 x2 h λa=>n x7 (some a)
def RH(C:ad)(lf:Nat)(r:aC)(x2 x7:O)(h:U):ab:=
 aet C lf (aes C lf r) x2 x7 h
theorem arB{r:aC}:∀F h,au vD C lf [1,1,1] F h bc (aX r 6) ar=bf (RH C lf r) 2 7 F h:=by
 intro F h;kernel_rfl
def RI(C:ad)(lf:Nat)(n:a0)(r:aC)(x2 x7:O)(h:U):ab:=
 ob x7 λa=>ob x2 λb=>ed 12 a λa=>ob (ev 278 1 a b) λa=>ob (b0 a h) λa=>eF .gtr 3 a (I 0) (r (bE 0) h) (n x2 x7 h)
theorem arC{n:a0}{r:aC}:∀F h,au vD C lf [1,1,0] F h (bf n 2 7) (aX r 6) ar=bf (RI C lf n r) 2 7 F h:=by
 intro F h;kernel_rfl
def Ji(C:ad)(lf:Nat)(r:aC)(x2 x7:O)(h:U):ab:=
 RI C lf (RH C lf r) r x2 x7 h
theorem arD{r:aC}:∀F h,au vD C lf [1,1] F h bc (aX r 6) ar=bf (Ji C lf r) 2 7 F h:=bn (by kernel_rfl) arB arC
def Jj(C:ad)(lf:Nat)(n:a0)(x0 x1 x2:O)(h:U):ab:=
 dI 4 x0 h λa=>mh 308 a x1 λa=>n x2 (some a) h
theorem arE{n:a0}:∀F h,au vD C lf [1,0] F h (bf n 2 7) a6 ar=bB (Jj C lf n) 0 1 2 F h:=by
 intro F h;kernel_rfl
def aeu(C:ad)(lf:Nat)(r:aC)(x0 x1 x2:O)(h:U):ab:=
 Jj C lf (Ji C lf r) x0 x1 x2 h
theorem arF{r:aC}:∀F h,au vD C lf [1] F h bc (aX r 6) ar=bB (aeu C lf r) 0 1 2 F h:=bn (by kernel_rfl) arD arE
noncomputable def aev(C:ad)(lf:Nat)(n:bG)(x0 x1 x2:O)(h:U):ab:=
 n x0 x1 x2 h
theorem arG{n:bG}:∀F h,au vD C lf [0] F h (bB n 0 1 2) a6 ar=bB (aev C lf n) 0 1 2 F h:=by
 intro F h;kernel_rfl
def RJ(C:ad)(lf:Nat)(r:aC)(x0 x1 x2:O)(h:U):ab:=
 aev C lf (aeu C lf r) x0 x1 x2 h
theorem arH{r:aC}:∀F h,au vD C lf [] F h bc (aX r 6) ar=bB (RJ C lf r) 0 1 2 F h:=bn (by kernel_rfl) arF arG
def Hi(C:ad)(lf:Nat)(al an aD:J)(h:U):ab:=RJ C lf Cw (some al) (some an) (some aD) h
def aak:cK ax:=nx vD Hi (λC lf al an aD h=>c8 (K:=(aX Cw 6)) (by kernel_rfl) (Eq.trans (arH _ h) (by kernel_rfl))) (by kernel_rfl)
end
section
variable{lf:Nat}{h:U}{R:ez}{n N:Nat}{on:Nat->Bool}{q:Nat->Option Nat}{b:Nat->Nat}{now:Int}{us:Nat->Bool}{rd:Nat->Nat->J}{i:Nat}{ino:Int}
theorem bP.setCell(A:bP h R n N on q b now us rd){c:Nat}{y:J}(hi:i<N+1)(ae:c<308)(h0:c≠0):bP (h.set R.bu (i*308+c) [y]) R n N on q b now us (cO rd i c y):=by
 have F:aN h (h.set R.bu (i*308+c) [y]) (· =R.bu):=fO rfl;have ag:i*308+c+[y].length<=(N+1)*308:=by simp only[List.length_cons,List.length_nil];omega
 have st:cW h (h.set R.bu (i*308+c) [y]) R.rt:=F.same _ A.ref.lt (λe=>A.d1 e.symm);refine⟨A.o9,A.hW,A.ref.iP F λj aa=>?_,by rw[st.cell];exact A.a3,by rw[st.cell];exact A.cl,let ⟨cap,lo,e⟩:=A.ct;⟨cap,lo,by rw[st.cell];exact e⟩,hc A.wt st,e1 A.wl,λi' a2 cA fi=>?_,λi' cA=>?_,A.d1,A.d2,A.d3,A.d4,by rw[dW];exact A.hB⟩
 ·rcases aa with rfl|rfl|rfl|⟨t,aK,e⟩
  ·exact λe=>A.d1 e.symm
  ·exact λe=>A.d2 e.symm
  ·exact λe=>A.d3 e.symm
  ·exact A.d4 t _ aK e
 ·by_cases e:i'=i/\a2=c
  ·obtain⟨rfl,rfl⟩:=e;rw[mS,ir A.wl ag (Nat.le_refl _) (by simp),Nat.sub_self];rfl
  ·rw[ha _ _ (by omega),eG (.inr (by simp only[List.length_cons,List.length_nil];omega))];exact A.kX i' a2 cA fi
 ·rw[ha _ _ (by omega)];exact A.mR i' cA
theorem km(A:bP h R n N on q b now us rd)(hi:i<N+1){c:Nat}(h0:c≠0)(ae:c<308)(y:Int):
 ∃h',st 1 (.ptr R.bu (i*308+c)) (I y) h=some h'/\bP h' R n N on q b now us (cO rd i c (I y))/\h'.next=h.next/\aN h h' (· =R.bu):=
 ⟨_,jt (n:=1) (y:=I y) A.wl rfl (by omega) rfl,A.setCell hi ae h0,dW ..,fO rfl⟩
theorem mj(hi:i<N+1){cap:Option Nat}{lo:Nat}:dD 308 (.aY R.bu 0 (N+1) cap lo) (I (i:Int))=some (.ptr R.bu (i*308)):=by
 have:=gL (s:=308) (k:=R.bu) (off:=0) (len:=N+1) (lo:=lo) (cap:=cap) (kd:= .i64) (i:=(i:Int)) (by omega) (by omega)
 rwa[Int.toNat_natCast,Nat.zero_add] at this
def p7(C:ad):Prop:=∀h R n N on q b now us rd (ino:Int),bP h R n N on q b now us rd->C (.fn 104) [.ptr R.rt 0,I ino] h=some (.ret (.bool (db N us ino)),h)
theorem ayJ{C:ad}(A:bP h R n N on q b now us rd):Hd C lf (.ptr R.rt 0) (I ino) h=some (.ret (.bool (db N us ino)),h):=by
 obtain⟨cap,lo,ct⟩:=A.ct;unfold Hd Rd Nt;by_cases h1:0<ino
 ·by_cases h2:ino<=(N:Int)
  ·obtain⟨i,rfl⟩:∃i:Nat,ino=((i+1:Nat):Int):=⟨ino.toNat-1,by omega⟩;have ae:=A.kX (i+1) 0 (by omega) (by omega);rw[A.mR i (by omega),Nat.add_zero] at ae
   have e:db N us ((i+1:Nat):Int)=us i:=by
    have ei:decide ((1:Int)<=((i+1:Nat):Int))=true:=bw (by omega);have e:((i+1:Nat):Int).toNat-1=i:=by omega
    simp only[db,ei,bw h2,Bool.true_and,e]
   rw[e];simp only[aE,bw h1,A.a3,bw h2,ct,mj (R:=R) (N:=N) (i:=i+1) (cap:=cap) (lo:=lo) (by omega),Nat.add_zero,ae]
  ·have e:db N us ino=false:=by simp[db,h2]
   rw[e];simp only[aE,bw h1,A.a3,bq h2,iw]
 ·have e:db N us ino=false:=by
   have:¬(1<=ino):=by omega
   simp[db,this]
  rw[e];simp only[aE,bq h1,iw]
def B1(C:ad):Prop:=∀h (m:Int),C (.fn 108) [I m] h=some (.ret (I (lb m)),h)
theorem aoP{C:ad}{m:Int}:Hf C lf (I m) h=some (.ret (I (lb m)),h):=by
 have Dr:IntKind.i64.wrap ((BitVec.ofInt 64 m&&& BitVec.ofInt 64 61440).toNat:Int)=lb m:=rfl;unfold Hf RE Nv;simp only[aE,Cd,Dr]
def jg(N:Nat)(us:Nat->Bool)(ino:Int)(i:Nat):Prop:=i<N/\us i=true/\ino=((i+1:Nat):Int)
theorem jg.yes(h:jg N us ino i):db N us ino=true:=by
 obtain⟨h1,h2,rfl⟩:=h;exact DU h1 h2
def F8(C:ad):Prop:=∀h R n N on q b now us rd (ino mo:Int),bP h R n N on q b now us rd->
 (db N us ino=false->C (.fn 101) [.ptr R.rt 0,I ino,I mo] h=some (.ret (I 2),h))/\
 (∀i m,jg N us ino i->rd (i+1) 7=I m->∃h',C (.fn 101) [.ptr R.rt 0,I ino,I mo] h=some (.ret (I 0),h')/\
   bP h' R n N on q b now us (cO (cO rd (i+1) 7 (I (we m mo))) (i+1) 10 (I now))/\h'.next=h.next/\aN h h' (· =R.bu))
theorem azc{C:ad}(lz:p7 C)(B0:B1 C)(A:bP h R n N on q b now us rd){mo:Int}:
 (db N us ino=false->CA C lf (.ptr R.rt 0) (I ino) (I mo) h=some (.ret (I 2),h))/\
 (∀i m,jg N us ino i->rd (i+1) 7=I m->∃h',CA C lf (.ptr R.rt 0) (I ino) (I mo) h=some (.ret (I 0),h')/\
   bP h' R n N on q b now us (cO (cO rd (i+1) 7 (I (we m mo))) (i+1) 10 (I now))/\h'.next=h.next/\aN h h' (· =R.bu)):=by
 have dS:=lz h R n N on q b now us rd ino A;obtain⟨cap,lo,ct⟩:=A.ct;unfold CA Q2 Nr;refine⟨λag=>?_,λi m b6 hm=>?_⟩
 ·rw[ag] at dS;simp only[aE,dS,Bool.not_false]
 ·rw[b6.yes] at dS;obtain⟨hi,hu,rfl⟩:=b6;have Dd:=A.kX (i+1) 7 (by omega) (by omega);rw[hm] at Dd;obtain⟨h1,s1,b7,cI,aL⟩:=km A (i:=i+1) (c:=7) (by omega) (by omega) (by omega) (we m mo);obtain⟨h2,s2,c9,cF,bF⟩:=km b7 (i:=i+1) (c:=10) (by omega) (by omega) (by omega) now;have Cr:(i+1)*308+1+6=(i+1)*308+7:=rfl;have kz:(i+1)*308+1+9=(i+1)*308+10:=rfl;have Ds:IntKind.i64.wrap ((BitVec.ofInt 64 (lb m)|||BitVec.ofInt 64 (IntKind.i64.wrap ((BitVec.ofInt 64 mo&&& BitVec.ofInt 64 4095).toNat:Int))).toNat:Int)=we m mo:=rfl;have ai:=B0 h m;refine⟨h2,?_,c9,cF.trans cI,aL.trans bF⟩;simp only[aE,dS,Bool.not_true,ct,mj (R:=R) (N:=N) (i:=i+1) (cap:=cap) (lo:=lo) (by omega),Cr,kz,Dd,ai,Cd,XO,Ds,s1,b7.cl,s2]
def Ga(C:ad):Prop:=∀h R n N on q b now us rd (ino a m:Int),bP h R n N on q b now us rd->
 (db N us ino=false->C (.fn 103) [.ptr R.rt 0,I ino,I a,I m] h=some (.ret (I 2),h))/\
 (∀i,jg N us ino i->∃h',C (.fn 103) [.ptr R.rt 0,I ino,I a,I m] h=some (.ret (I 0),h')/\
   bP h' R n N on q b now us (cO (cO (cO rd (i+1) 8 (I a)) (i+1) 9 (I m)) (i+1) 10 (I now))/\h'.next=h.next/\aN h h' (· =R.bu))
theorem aze{C:ad}(lz:p7 C)(A:bP h R n N on q b now us rd){a m:Int}:
 (db N us ino=false->CB C lf (.ptr R.rt 0) (I ino) (I a) (I m) h=some (.ret (I 2),h))/\
 (∀i,jg N us ino i->∃h',CB C lf (.ptr R.rt 0) (I ino) (I a) (I m) h=some (.ret (I 0),h')/\
   bP h' R n N on q b now us (cO (cO (cO rd (i+1) 8 (I a)) (i+1) 9 (I m)) (i+1) 10 (I now))/\h'.next=h.next/\aN h h' (· =R.bu)):=by
 have dS:=lz h R n N on q b now us rd ino A;obtain⟨cap,lo,ct⟩:=A.ct;unfold CB Rc Ns;refine⟨λag=>?_,λi b6=>?_⟩
 ·rw[ag] at dS;simp only[aE,dS,Bool.not_false]
 ·rw[b6.yes] at dS;obtain⟨hi,hu,rfl⟩:=b6;obtain⟨h1,s1,b7,cI,aL⟩:=km A (i:=i+1) (c:=8) (by omega) (by omega) (by omega) a;obtain⟨h2,s2,c9,cF,bF⟩:=km b7 (i:=i+1) (c:=9) (by omega) (by omega) (by omega) m;obtain⟨h3,eZ,e9,gl,dp⟩:=km c9 (i:=i+1) (c:=10) (by omega) (by omega) (by omega) now;have zV:(i+1)*308+1+7=(i+1)*308+8:=rfl;have rB:(i+1)*308+1+8=(i+1)*308+9:=rfl;have kz:(i+1)*308+1+9=(i+1)*308+10:=rfl;refine⟨h3,?_,e9,by omega,(aL.trans bF).trans dp⟩;simp only[aE,dS,Bool.not_true,ct,mj (R:=R) (N:=N) (i:=i+1) (cap:=cap) (lo:=lo) (by omega),A.cl,zV,rB,kz,s1,s2,eZ]
def F4(C:ad):Prop:=∀h R n N on q b now us rd (ino:Int),bP h R n N on q b now us rd->
 (db N us ino=false->C (.fn 99) [.ptr R.rt 0,I ino] h=some (.ret (I 2),h))/\
 (∀i H,jg N us ino i->rd (i+1) 11=I H->∃h',C (.fn 99) [.ptr R.rt 0,I ino] h=some (.ret (I 0),h')/\
   bP h' R n N on q b now us (cO rd (i+1) 11 (I (IntKind.i64.wrap (H+1))))/\h'.next=h.next/\aN h h' (· =R.bu))
theorem ayI{C:ad}(lz:p7 C)(A:bP h R n N on q b now us rd):
 (db N us ino=false->CU C lf (.ptr R.rt 0) (I ino) h=some (.ret (I 2),h))/\
 (∀i H,jg N us ino i->rd (i+1) 11=I H->∃h',CU C lf (.ptr R.rt 0) (I ino) h=some (.ret (I 0),h')/\
   bP h' R n N on q b now us (cO rd (i+1) 11 (I (IntKind.i64.wrap (H+1))))/\h'.next=h.next/\aN h h' (· =R.bu)):=by
 have dS:=lz h R n N on q b now us rd ino A;obtain⟨cap,lo,ct⟩:=A.ct;unfold CU Vw Oe;refine⟨λag=>?_,λi H b6 iy=>?_⟩
 ·rw[ag] at dS;simp only[aE,dS,Bool.not_false]
 ·rw[b6.yes] at dS;obtain⟨hi,hu,rfl⟩:=b6;have ae:=A.kX (i+1) 11 (by omega) (by omega);rw[iy] at ae;obtain⟨h1,s1,b7,cI,aL⟩:=km A (i:=i+1) (c:=11) (by omega) (by omega) (by omega) (IntKind.i64.wrap (H+1));refine⟨h1,?_,b7,cI,aL⟩;simp only[aE,dS,Bool.not_true,ct,mj (R:=R) (N:=N) (i:=i+1) (cap:=cap) (lo:=lo) (by omega),ae,s1]
end
section
variable{lf:Nat}{h:U}{R:ez}{n N:Nat}{on:Nat->Bool}{q:Nat->Option Nat}{b:Nat->Nat}{now:Int}{us:Nat->Bool}{rd:Nat->Nat->J}{i:Nat}{ino:Int}
def F9(C:ad):Prop:=∀h R n N on q b now us rd (ino u g:Int),bP h R n N on q b now us rd->
 (db N us ino=false->C (.fn 102) [.ptr R.rt 0,I ino,I u,I g] h=some (.ret (I 2),h))/\
 (∀i,jg N us ino i->((u < -1\/g < -1)->C (.fn 102) [.ptr R.rt 0,I ino,I u,I g] h=some (.ret (I 22),h))/\
   (¬(u < -1\/g < -1)->∃h',C (.fn 102) [.ptr R.rt 0,I ino,I u,I g] h=some (.ret (I 0),h')/\
     bP h' R n N on q b now us (qS rd (i+1) u g now)/\h'.next=h.next/\aN h h' (· =R.bu)))
theorem azd{C:ad}(lz:p7 C)(A:bP h R n N on q b now us rd){u g:Int}:
 (db N us ino=false->z8 C lf (.ptr R.rt 0) (I ino) (I u) (I g) h=some (.ret (I 2),h))/\
 (∀i,jg N us ino i->((u < -1\/g < -1)->z8 C lf (.ptr R.rt 0) (I ino) (I u) (I g) h=some (.ret (I 22),h))/\
   (¬(u < -1\/g < -1)->∃h',z8 C lf (.ptr R.rt 0) (I ino) (I u) (I g) h=some (.ret (I 0),h')/\
     bP h' R n N on q b now us (qS rd (i+1) u g now)/\h'.next=h.next/\aN h h' (· =R.bu))):=by
 have dS:=lz h R n N on q b now us rd ino A;obtain⟨cap,lo,ct⟩:=A.ct;unfold z8 Ra Q9 Q8 Q7;refine⟨λag=>?_,λi b6=>?_⟩
 ·rw[ag] at dS;unfold xz;simp only[aE,dS,Bool.not_false]
 ·rw[b6.yes] at dS;obtain⟨hi,hu,rfl⟩:=b6;simp only[aE,dS,Bool.not_true];unfold Q6 Q5;refine⟨λag=>?_,λag=>?_⟩
  ·unfold xz;by_cases h1:u < -1
   ·simp only[aE,bw h1,iw]
   ·have h2:g < -1:=by omega
    simp only[aE,bq h1,bw h2]
  ·have h1:decide (u < -1)=false:=bq (by omega);have h2:decide (g < -1)=false:=bq (by omega);have ch:(i+1)*308+1+2=(i+1)*308+3:=rfl;have ef:(i+1)*308+1+3=(i+1)*308+4:=rfl;have kz:(i+1)*308+1+9=(i+1)*308+10:=rfl;simp only[aE,h1,h2];unfold Q4 aek;simp only[aE,ct,mj (R:=R) (N:=N) (i:=i+1) (cap:=cap) (lo:=lo) (by omega)];unfold aej aei
   have fin:∀h2 kJ,bP h2 R n N on q b now us kJ->∃h',Rb C lf xz (some (.ptr R.rt 0)) (some (.ptr R.bu ((i+1)*308+1))) h2=some (.ret (I 0),h')/\bP h' R n N on q b now us (cO kJ (i+1) 10 (I now))/\h'.next=h2.next/\aN h2 h' (· =R.bu):=λh2 kJ c9=>by
    obtain⟨h3,eZ,e9,gl,dp⟩:=km c9 (i:=i+1) (c:=10) (by omega) (by omega) (by omega) now;refine⟨h3,?_,e9,gl,dp⟩;unfold Rb xz;simp only[aE,c9.cl,kz,eZ]
   have C2:∀h2 kJ,bP h2 R n N on q b now us kJ->∃h',Q3 C lf xz (some (.ptr R.rt 0)) (some (I g)) (some (.ptr R.bu ((i+1)*308+1))) h2=some (.ret (I 0),h')/\
    bP h' R n N on q b now us (cO (if 0<=g then cO kJ (i+1) 4 (I g) else kJ) (i+1) 10 (I now))/\h'.next=h2.next/\aN h2 h' (· =R.bu):=λh2 kJ c9=>by
    unfold Q3 aeh;by_cases bd:0<=g
    ·obtain⟨h3,eZ,e9,gl,dp⟩:=km c9 (i:=i+1) (c:=4) (by omega) (by omega) (by omega) g;obtain⟨aU,ff,kr,lg,gC⟩:=fin h3 _ e9;rw[if_pos bd];refine⟨aU,?_,kr,by omega,dp.trans gC⟩;simp only[aE,bw bd,ef,eZ];exact ff
    ·obtain⟨aU,ff,kr,lg,gC⟩:=fin h2 _ c9;rw[if_neg bd];refine⟨aU,?_,kr,lg,gC⟩;simp only[aE,bq bd];exact ff
   by_cases uw:0<=u
   ·obtain⟨h3,eZ,e9,gl,dp⟩:=km A (i:=i+1) (c:=3) (by omega) (by omega) (by omega) u;obtain⟨aU,ff,kr,lg,gC⟩:=C2 h3 _ e9;refine⟨aU,?_,by unfold qS;rw[if_pos uw];exact kr,by omega,dp.trans gC⟩;simp only[aE,bw uw,ch,eZ];exact ff
   ·obtain⟨aU,ff,kr,lg,gC⟩:=C2 h _ A;refine⟨aU,?_,by unfold qS;rw[if_neg uw];exact kr,lg,gC⟩;simp only[aE,bq uw];exact ff
def eg(k:Nat):Int:=if k<6 then -1 else(((k-6)/16:Nat):Int)
def vb(C:ad):Prop:=∀h (k:Nat),k<278->C (.fn 105) [I (k:Int)] h=some (.ret (I (eg k)),h)
theorem al9{C:ad}{k:Nat}(ai:k<278):He C lf (I (k:Int)) h=some (.ret (I (eg k)),h):=by
 unfold He Re Nu eg;by_cases bC:k<6
 ·have d:decide ((k:Int)<6)=true:=bw (by omega);simp only[aE,d,if_pos bC]
 ·have d:decide ((k:Int)<6)=false:=bq (by omega);have az:IntKind.i64.wrap ((k:Int)-6)=((k-6:Nat):Int):=cH (by omega)
  have aw:IntKind.i64.wrap (((k-6:Nat):Int).tdiv 16)=(((k-6)/16:Nat):Int):=by
   rw[Int.tdiv_eq_ediv_of_nonneg (by omega),wrap_i64 (by omega) (by omega)];rfl
  simp only[aE,d,if_neg bC,az,lJ (show(16:Int)≠0 by omega),aw]
def pm(c:Nat):Nat:=if c<290 then a4 (c-12) else if c=290 then 18 else if c=307 then 35 else 36+17*(c-291)
def dc(N:Nat)(rd:Nat->Nat->J)(bl:Nat->Nat->Nat):Prop:=∀i c,i<N->12<=c->c<308->rd (i+1) c=I (bl i (pm c):Int)
theorem qV{k:Nat}(ai:k<278):pm (12+k)=a4 k:=by
 unfold pm;rw[if_pos (by omega),Nat.add_sub_cancel_left]
theorem yS:pm 307=35:=rfl
theorem ad4{g:Nat}(h1:1<=g)(h2:g<=16):pm (290+g)=36+17*(g-1):=by
 unfold pm;rw[if_neg (by omega),if_neg (by omega),if_neg (by omega),show 290+g-291=g-1 by omega]
theorem ad6{c a2:Nat}(h1:12<=c)(h2:c<308)(h3:12<=a2)(aU:a2<308)(h:pm c=pm a2):c=a2:=by
 unfold pm at h;by_cases a:c<290
 ·rw[if_pos a] at h;have n:=tu (m:=c-12) (by omega);by_cases a':a2<290
  ·rw[if_pos a'] at h
   have:=QV h (by omega) (by omega)
   omega
  ·rw[if_neg a'] at h;by_cases b':a2=290
   ·rw[if_pos b'] at h;exact absurd h n.1
   ·rw[if_neg b'] at h;by_cases hy:a2=307
    ·rw[if_pos hy] at h;exact absurd h n.2.1
    ·rw[if_neg hy] at h;exact absurd h (n.2.2 _ (by omega))
 ·rw[if_neg a] at h;by_cases a':a2<290
  ·rw[if_pos a'] at h;have n:=tu (m:=a2-12) (by omega);by_cases b':c=290
   ·rw[if_pos b'] at h;exact absurd h.symm n.1
   ·rw[if_neg b'] at h;by_cases hy:c=307
    ·rw[if_pos hy] at h;exact absurd h.symm n.2.1
    ·rw[if_neg hy] at h;exact absurd h.symm (n.2.2 _ (by omega))
  ·rw[if_neg a'] at h;by_cases bR:c=290<;>by_cases b2:a2=290<;>by_cases d1:c=307<;>by_cases d2:a2=307<;>simp only[bR,b2,d1,d2,if_true,if_false] at h⊢ <;>first|omega|(simp at h;done)|(simp at h;omega)
end
def mK(k:Nat):Nat:=if k<22 then 18 else 36+17*((k-22)/16)
def fH(bl:Nat->Nat->Nat)(i k:Nat):Nat:=if 0<bl i (a4 k) then 0 else 1+(if 6<=k/\bl i (mK k)=0 then 1 else 0)+(if 22<=k/\bl i 35=0 then 1 else 0)
theorem QX{k:Nat}(bC:6<=k)(ai:k<278):pm (290+(k-6)/16)=mK k:=by
 unfold mK;by_cases mC:k<22
 ·rw[if_pos mC,show(k-6)/16=0 by omega];rfl
 ·rw[if_neg mC,ad4 (by omega) (by omega),show(k-6)/16-1=(k-22)/16 by omega]
theorem apw{C:ad}{lf:Nat}{r:aC}{x0 x1 x2:O}{h:U}:RJ C lf r x0 x1 x2 h=Jj C lf (λx2 x7 h=>Ji C lf r x2 x7 h) x0 x1 x2 h:=rfl
section
variable{lf:Nat}{h:U}{R:ez}{n N:Nat}{on:Nat->Bool}{q:Nat->Option Nat}{b:Nat->Nat}{now:Int}{us:Nat->Bool}{rd:Nat->Nat->J}{bl:Nat->Nat->Nat}{i:Nat}
theorem mP(A:bP h R n N on q b now us rd)(M:dc N rd bl)(hi:i<N){c:Nat}(dB:12<=c)(ae:c<308):h.cell R.bu ((i+1)*308+c)=some (I (bl i (pm c):Int)):=by
 rw[A.kX (i+1) c (by omega) ae,M i c hi dB ae]
def L2(C:ad):Prop:=∀h R n N on q b now us rd bl i (k:Nat),bP h R n N on q b now us rd->dc N rd bl->i<N->k<278->
 C (.fn 110) [.ptr R.rt 0,I ((i+1:Nat):Int),I (k:Int)] h=some (.ret (I (fH bl i k:Int)),h)
theorem ayN{C:ad}(mW:vb C)(A:bP h R n N on q b now us rd)(M:dc N rd bl)(hi:i<N){k:Nat}(ai:k<278):
 Hi C lf (.ptr R.rt 0) (I ((i+1:Nat):Int)) (I (k:Int)) h=some (.ret (I (fH bl i k:Int)),h):=by
 obtain⟨cap,lo,ct⟩:=A.ct;have ao:=mj (R:=R) (N:=N) (i:=i+1) (cap:=cap) (lo:=lo) (by omega)
 have uk:ev 278 1 (.ptr R.bu ((i+1)*308+12)) (I (k:Int))=some (.ptr R.bu ((i+1)*308+(12+k))):=by
  have:=lT (n:=278) (s:=1) (k:=R.bu) (off:=(i+1)*308+12) (kd:= .i64) (i:=(k:Int)) (by omega) (by omega)
  rwa[Int.toNat_natCast,Nat.mul_one,Nat.add_assoc] at this
 have eI:=mP A M hi (c:=12+k) (by omega) (by omega);rw[qV ai] at eI;have qp:=mP A M hi (c:=307) (by omega) (by omega);rw[yS] at qp;unfold Hi;rw[apw];unfold Jj;simp only[cg,cf,uJ,ud,Nat.zero_add,qL,ct,ao];unfold Ji RI;by_cases aA:0<bl i (a4 k)
 ·have d:decide ((0:Int)<(bl i (a4 k):Int))=true:=bw (by omega);unfold fH Cw;rw[if_pos aA];simp only[cg,cf,uJ,ud,uk,qL,eI,zN,d,q6];rfl
 have d:decide ((0:Int)<(bl i (a4 k):Int))=false:=bq (by omega);have bd:=mW h k ai;simp only[cg,cf,uJ,ud,uk,qL,eI,zN,d,o4];unfold RH aet;simp only[cg,cf,kV,bd];unfold aes aer aeq aep;have cL:IntKind.i64.wrap ((1:Int)+1)=((2:Nat):Int):=cH (by omega);unfold fH;rw[if_neg aA]
 have MX:∀(m:Nat) (x:Int),x=(m:Int)->m<=2->RG C lf Cw (some (.ptr R.bu ((i+1)*308))) (some (I (eg k))) (some (I x)) h=some (.ret (I ((m+(if 22<=k/\bl i 35=0 then 1 else 0):Nat):Int)),h):=λm x ao hm=>by
  subst ao;have aBR:IntKind.i64.wrap ((m:Int)+1)=((m+1:Nat):Int):=cH (by omega);unfold RG Cw;by_cases mC:22<=k
  ·have g1:decide ((0:Int)<eg k)=true:=bw (by unfold eg;rw[if_neg (by omega)];omega);by_cases h0:bl i 35=0
   ·have g2:decide ((bl i 35:Int)=0)=true:=bw (by omega);rw[if_pos ⟨mC,h0⟩];simp only[aE,g1,qp,g2,aBR]
   ·have g2:decide ((bl i 35:Int)=0)=false:=bq (by omega);rw[if_neg (λe=>h0 e.2)];simp only[aE,g1,qp,g2,Nat.add_zero]
  ·have g1:decide ((0:Int)<eg k)=false:=bq (by unfold eg;split<;>omega);rw[if_neg (λe=>mC e.1)];simp only[aE,g1,iw,Nat.add_zero]
 by_cases bC:6<=k
 ·have nH:eg k=(((k-6)/16:Nat):Int):=if_neg (by omega);have g0:decide ((0:Int)<=eg k)=true:=bw (by rw[nH];omega)
  have Dk:ev 17 1 (.ptr R.bu ((i+1)*308+290)) (I (eg k))=some (.ptr R.bu ((i+1)*308+(290+(k-6)/16))):=by
   rw[nH]
   have:=lT (n:=17) (s:=1) (k:=R.bu) (off:=(i+1)*308+290) (kd:= .i64) (i:=(((k-6)/16:Nat):Int)) (by omega) (by omega)
   rwa[Int.toNat_natCast,Nat.mul_one,Nat.add_assoc] at this
  have rI:=mP A M hi (c:=290+(k-6)/16) (by omega) (by omega);rw[QX bC ai] at rI;by_cases h0:bl i (mK k)=0
  ·have g2:decide ((bl i (mK k):Int)=0)=true:=bw (by omega);rw[if_pos ⟨bC,h0⟩];simp only[aE,g0,Dk,rI,g2,cL];exact MX 2 _ rfl (Nat.le_refl _)
  ·have g2:decide ((bl i (mK k):Int)=0)=false:=bq (by omega);rw[if_neg (λe=>h0 e.2)];simp only[aE,g0,Dk,rI,g2];exact MX 1 _ rfl (by omega)
 ·have g0:decide ((0:Int)<=eg k)=false:=bq (by unfold eg;rw[if_pos (by omega)];omega);rw[if_neg (λe=>bC e.1)];simp only[aE,g0,iw];exact MX 1 _ rfl (by omega)
end
def oM(n:Nat)(on:Nat->Bool):Option Nat:=(List.range n).find? λj=>!on j
theorem Qw{n:Nat}{on:Nat->Bool}(h:oM n on=none):∀j,j<n->on j=true:=λj aa=>by
 have:=List.find?_eq_none.1 h j (List.mem_range.2 aa)
 simpa using this
theorem Qx{n j:Nat}{on:Nat->Bool}(h:oM n on=some j):j<n/\on j=false/\∀t,t<j->on t=true:=by
 obtain⟨h1,cd,c1,e,h2⟩:=List.find?_eq_some_iff_append.1 h;have hlen:cd.length<(List.range n).length:=by rw[e];simp
 rw[List.length_range] at hlen
 have aa:j=cd.length:=by
  have:(List.range n)[cd.length]?=some j:=by rw[e];simp
  rw[List.getElem?_range hlen] at this;exact(Option.some.inj this).symm
 have nQ:j<n:=by omega
 refine⟨nQ,by simpa using h1,λt aK=>?_⟩;have h3:(List.range n)[t]?=some t:=List.getElem?_range (by omega);rw[e,List.getElem?_append_left (by omega)] at h3
 have:=h2 t (List.mem_of_getElem? h3)
 simpa using this
def ga(n:Nat):Nat->(Nat->Bool)->(Nat->Nat)->List Nat×(Nat->Bool)×(Nat->Nat)
 |0,on,b=>([],on,b)
 |m+1,on,b=>match oM n on with
  |none=>([],on,b)
  |some j=>(j::(ga n m (c3 on j true) (fW b j)).1,(ga n m (c3 on j true) (fW b j)).2)
section
variable{lf:Nat}{h h0:U}{R:ez}{n N:Nat}{on:Nat->Bool}{q:Nat->Option Nat}{b:Nat->Nat}{now:Int}{us:Nat->Bool}{rd:Nat->Nat->J}
theorem bP.store(A:bP h R n N on q b now us rd){h':U}{di:Nat->Bool}{hn:Nat->Option Nat}{b':Nat->Nat}(V:gV h' R.rt R.ro R.rb n di hn b')(F:aN h h' (λj=>j=R.ro\/j=R.rb))(aZ:∀i k,i<n->hn i=some k->k≠R.bu):
 bP h' R n N di hn b' now us rd:=by
 have st:cW h h' R.rt:=F.same _ A.ref.lt (λe=>by rcases e with e|e;exact A.ref.tq e;exact A.ref.pL e);have aY:cW h h' R.bu:=F.same _ A.hB (λe=>by rcases e with e|e;exact A.d2 e;exact A.d3 e);exact⟨A.o9,A.hW,V,by rw[st.cell];exact A.a3,by rw[st.cell];exact A.cl,let ⟨cap,lo,e⟩:=A.ct;⟨cap,lo,by rw[st.cell];exact e⟩,hc A.wt st,hc A.wl aY,λi c hi ae=>by rw[aY.cell];exact A.kX i c hi ae,A.mR,A.d1,A.d2,A.d3,aZ,Nat.lt_of_lt_of_le A.hB F.next⟩
theorem agZ{n j:Nat}(aa:j<n)(aq:on j=false):(hp (c3 on j true) n).length=(hp on n).length+1:=
 Yo aa aq λk=>by
  by_cases e:k=j
  ·subst e;simp[kN]
  ·simp[ig _ _ e,e]
structure zv (h0 h:U) (R:ez) (n:Nat) (q:Nat->Option Nat) (x:J) (l:List Nat):Prop where
 i:fM h0 h x (l.map (· +1))
 a:∀j,rowOf x=some j->¬sa R n q j
theorem agN{C:ad}(nq:FZ C){m:Nat}(hm:m<=1000){xk xr xg:O}(aB:br):∀(d t:Nat),t+d=m->∀f,d<f->∀h on q b x pw,bP h R n N on q b now us rd->zv h0 h R n q x pw->d+(hp on n).length<=n->pw.length+d<=1000->h0.next<=h.next->
 ∃h' hn bW,bp (AJ C lf aB) f (some (.ptr R.rt 0),xk,xr,xg,some x,some (I (m:Int)),some (I (t:Int))) h=aB xk xr xg (some bW) h'/\
  bP h' R n N (ga n d on b).2.1 hn (ga n d on b).2.2 now us rd/\zv h0 h' R n hn bW (pw++(ga n d on b).1)/\(ga n d on b).1.length=d/\(∀t k,hn t=some k->q t=some k\/h.next<=k)/\aN h h' (λj=>j=R.ro\/j=R.rb\/h0.next<=j)
 |0,t,aK,f,ak,h,on,q,b,x,pw,A,G,_,_,_=>by
  obtain⟨f,rfl⟩:=dE f (by omega);have e:t=m:=by omega
  subst e;refine⟨h,q,x,?_,A,by simpa[ga] using G,rfl,λ_ _ e=> .inl e,aN.refl _ _⟩;rw[dh];unfold AJ En;have a8:decide ((t:Int)<(t:Int))=false:=by simp
  simp only[aE,a8]
 |d+1,t,aK,f,ak,h,on,q,b,x,pw,A,G,nX,hlen,lQ=>by
  obtain⟨f,rfl⟩:=dE f (by omega);have fv:n<=4096:=A.ref.v.choose_spec.choose_spec.2.2.cF;have a8:decide ((t:Int)<(m:Int))=true:=bw (by omega)
  obtain⟨j,aa⟩:∃j,oM n on=some j:=by
   cases aJ:oM n on with
   |some j=>exact⟨j,rfl⟩
   |none=>
    have:=Zj (Qw aJ)
    have e:(hp on n).length=n:=this;omega
  obtain⟨vX,yp,aov⟩:=Qx aa;obtain⟨h1,aQ,Gt,aL,cI⟩:=(nq h R.rt R.ro R.rb n on q b A.ref).2 j vX yp aov
  have b7:=A.store Gt aL (λi k hi e=>by
   by_cases aw:i=j
   ·subst aw;rw[kN] at e;cases e
    have:=A.hB;omega
   ·rw[ig _ _ aw] at e
    exact A.d4 i k hi e)
  have acu:∀k,rowOf x=some k->k<h.next:=λk ai=>G.i.aY.kK ai
  have ahK:hX h1 3 1 x (pw.map (· +1)).length (ints (pw.map (· +1))):=G.i.aY.frame aL.next λk ai=>aL.same k (acu k ai) (λe=>G.a k ai (by rcases e with rfl|rfl;exact .inr (.inr (.inl rfl));exact .inr (.inr (.inr (.inl rfl)))))
  obtain⟨bW,h2,an,aD,a7,cw,dO,ek,hF,kv⟩:=xi (y:=I ((j+1:Nat):Int)) vm rfl rfl rfl ahK (by simp;omega) (by simp;omega)
  have rR:∀k,rowOf x=some k->¬sa R n (c3 q j (some h.next)) k:=λk ai e=>by
   rcases e with rfl|rfl|rfl|rfl|⟨i,hi,e⟩
   ·exact G.a _ ai (.inl rfl)
   ·exact G.a _ ai (.inr (.inl rfl))
   ·exact G.a _ ai (.inr (.inr (.inl rfl)))
   ·exact G.a _ ai (.inr (.inr (.inr (.inl rfl))))
   ·by_cases aw:i=j
    ·subst aw;rw[kN] at e;cases e
     have:=acu _ ai;omega
    ·rw[ig _ _ aw] at e;exact G.a _ ai (.inr (.inr (.inr (.inr ⟨i,hi,e⟩))))
  have bF:aN h1 h2 (λk=>rowOf x=some k):=⟨dO,cw,λk ai e=>ek k ai e,kv⟩;have c9:=b7.iP bF λk ai e=>rR k e ai
  have mV:zv h0 h2 R n (c3 q j (some h.next)) bW (pw++[j]):=by
   refine⟨⟨?_,λk ai=>?_⟩,λk ai e=>?_⟩
   ·have az:ints ((pw++[j]).map (· +1))=ints (pw.map (· +1))++[I ((j+1:Nat):Int)]:=by simp[ints]
    have aw:((pw++[j]).map (· +1)).length=(pw.map (· +1)).length+1:=by simp
    rw[az,aw];exact a7
   ·rcases hF k ai with e|e
    ·exact G.i.new k e
    ·omega
   ·rcases hF k ai with aw|aw
    ·exact rR k aw e
    ·have:=b7.kK e;omega
  have dy:IntKind.i64.wrap ((t:Int)+1)=((t+1:Nat):Int):=cH (by omega);have anj:IntKind.i64.wrap ((j:Int)+1)=((j+1:Nat):Int):=cH (by omega);obtain⟨h3,oO,x3,c5,dM,fP,lj,Bq,r8⟩:=agN nq hm aB d (t+1) (by omega) f (by omega) h2 (c3 on j true) (c3 q j (some h.next)) (fW b j) bW (pw++[j]) c9 mV (by rw[agZ vX yp];omega) (by simp;omega) (by omega)
  have nH:ga n (d+1) on b=(j::(ga n d (c3 on j true) (fW b j)).1,(ga n d (c3 on j true) (fW b j)).2):=by
   show(match oM n on with|none=>_|some j=>_)=_;rw[aa]
  rw[nH];refine⟨h3,oO,x3,?_,dM,by simpa using fP,by simp[lj],λt k e=>?_,((aL.eb λk e=>?_).trans (bF.eb λk e=>?_)).trans r8⟩
  ·rw[dh];show En C lf (λx0 x2 x7 aT x9 n9 jx h=>bp (AJ C lf aB) f (x0,x2,x7,aT,x9,n9,jx) h) aB (some (.ptr R.rt 0)) xk xr xg (some x) (some (I (m:Int))) (some (I (t:Int))) h=_;unfold En;simp only[aE,a8,aQ,List.getElem?_cons_zero,List.getElem?_cons_succ,anj,an,aD,dy];exact c5
  ·rcases Bq t k e with aw|aw
   ·by_cases ch:t=j
    ·subst ch;rw[kN] at aw;cases aw;exact .inr (Nat.le_refl _)
    ·rw[ig _ _ ch] at aw;exact .inl aw
   ·exact .inr (by have:=aL.next;omega)
  ·rcases e with e|e
   ·exact .inl e
   ·exact .inr (.inl e)
  ·exact .inr (.inr (G.i.new k e))
end
end Go.Proofs.YtomialandfplkaaDoor.Eva
