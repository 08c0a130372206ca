import Derived.Test.YtomialandfplkaaDoorCards
import Derived.Test.YtomialandfplkaaDoorTie
import Derived.WalkKit
import Derived.ProofKit
import Derived.OpenShut
import Derived.Deep.DeepHandedRow
import Derived.Lib.LaidTab
import Derived.Test.YtomialandfplkaaDoorWInodeCopiesm6
import Derived.Test.YtomialandfplkaaDoorWInodeCopiesm2
import Derived.Test.YtomialandfplkaaDoorWInodeCopiesm5
import Derived.Test.YtomialandfplkaaDoorWInodeCopiesm4
import Derived.Test.YtomialandfplkaaDoorWInodeCopiesm3
set_option linter.unusedSimpArgs false
set_option linter.unusedVariables false
set_option maxRecDepth 100000
set_option maxHeartbeats 400000
namespace Go.Proofs.YtomialandfplkaaDoor.Eva
open Go.Xe
section
variable{lf:Nat}{h:J}{R:eE}{n N:Nat}{on:Nat->Bool}{q:Nat->Option Nat}{b:Nat->Nat}{now:Int}{us:Nat->Bool}{rd:Nat->Nat->U}{bl:Nat->Nat->Nat}{i:Nat}{ino:Int}
def Ni(C:ad):Prop:=∀h R n N on q b now us rd,bE h R n N on q b now us rd->∃x h',C (.fn 85) [.ptr R.rt 0] h=some (.ret x,h')/\eQ h h' x (eW on n)/\aD h h' (λ_=>False)
theorem aBg{C:ad}(hu:Nr C)(A:bE h R n N on q b now us rd):∃x h',I2 C lf (.ptr R.rt 0) h=some (.ret x,h')/\eQ h h' x (eW on n)/\aD h h' (λ_=>False):=by
 obtain⟨x,h',e,a,f⟩:=hu _ _ _ _ _ _ _ _ A.ref;refine⟨x,h',?_,a,f⟩;unfold I2 Wt PC;simp only[aA,e]
def CM(C:ad):Prop:=∀h R n N on q b now us rd bl (ino:Int) i,bE h R n N on q b now us rd->dg N rd bl->hX n N on bl->iv N us ino i->lp bl i->(∀c,c<12->(rd (i+1) c).one=true)->
 ∃h',C (.fn 86) [.ptr R.rt 0,I ino] h=some (.ret (.bm [.agg (fI rd (i+1) (lK bl i).length),I 0]),h')/\aD h h' (λ_=>False)
theorem aCh{C:ad}(hO:pJ C)(oN:v5 C)(A:bE h R n N on q b now us rd)(M:dg N rd bl)(K:hX n N on bl)(bT:iv N us ino i)(S:lp bl i)(fm:∀c,c<12->(rd (i+1) c).one=true):
 ∃h',I3 C lf (.ptr R.rt 0) (I ino) h=some (.ret (.bm [.agg (fI rd (i+1) (lK bl i).length),I 0]),h')/\aD h h' (λ_=>False):=by
 have jQ:=A.gH;have aGD:=bT.1;obtain⟨z,aX,ff⟩:∃z,gC ao 78=some z/\(c1 z).cells.length=10:=Aj (by kernel_rfl);have qy:=oI (P:=ao) (e:=78) (h:=h) aX;generalize hS:cI 78 (c1 z).cells=ob at *
 have EA:∀h:J,(h.new ob).wr h.next 10:=λh=>by
  have:=hW (h:=h) (o:=ob) (by rw[<- hS];rfl)
  rw[show ob.n=10 by rw[<- hS];exact ff] at this;exact this
 have cP:=EA h;have cA:(h.new ob).next=h.next+1:=by simp
 have aL:aD h (h.new ob) (λ_=>False):=aD.new _ _ _;generalize kV:h.new ob=g1 at *;have bX:=A.gQ aL λ_ _ e=>e
 have dA:=hO g1 R n N on q b now us rd ino bX;rw[bT.yes] at dA;have yZ:ino=((i+1:Nat):Int):=bT.2.2;obtain⟨cap,lo,cb⟩:=bX.cb;have ax:=l6 (R:=R) (N:=N) (i:=i+1) (cap:=cap) (lo:=lo) (by omega);rw[<- yZ] at ax;obtain⟨md,mA,_,_⟩:=bX.wl
 have kf:eB 10 (.ptr R.bs ((i+1)*308+1)) g1=some (.agg ((List.range 10).map λj=>rd (i+1) (1+j))):=by
  rw[mE mA,jy (ys:=(List.range 10).map λj=>rd (i+1) (1+j)) (by simp) λj aa=>?_]
  ·rfl
  ·rw[Nat.add_assoc,bX.j6 (i+1) (1+j) (by omega) (by omega)];simp[aa]
 have CS:=oI (P:=ao) (e:=78) (h:=g1) aX;rw[hS] at CS;have cV:=EA g1;have fQ:(U.agg ((List.range 10).map λj=>rd (i+1) (1+j))).cells=(List.range 10).map λj=>rd (i+1) (1+j):=rfl
 have gd:dB ((List.range 10).map λj=>rd (i+1) (1+j))=true:=yk λj aa=>fm _ (by have:=List.mem_range.1 aa;omega)
 have rF:=gN (n:=10) (off:=0) (y:= .agg ((List.range 10).map λj=>rd (i+1) (1+j))) cV (by rw[fQ];simp) (by omega) (by rw[fQ];exact gd);rw[fQ] at rF
 have QF:∀j,j<10->((g1.new ob).set g1.next 0 ((List.range 10).map λj=>rd (i+1) (1+j))).cell g1.next j=some (rd (i+1) (1+j)):=λj aa=>by
  rw[fZ cV (by simp) (Nat.zero_le _) (by simpa using aa),Nat.sub_zero];simp[aa]
 have Gh:((g1.new ob).set g1.next 0 ((List.range 10).map λj=>rd (i+1) (1+j))).wr g1.next 10:=dY cV
 have bw:aD g1 ((g1.new ob).set g1.next 0 ((List.range 10).map λj=>rd (i+1) (1+j))) (λ_=>False):=(aD.new g1 ob _).gB (fj rfl) (Nat.le_refl _);have ck:((g1.new ob).set g1.next 0 ((List.range 10).map λj=>rd (i+1) (1+j))).next=g1.next+1:=by simp
 generalize gf:(g1.new ob).set g1.next 0 ((List.range 10).map λj=>rd (i+1) (1+j))=g2 at *
 obtain⟨x,g3,cm,xZ,c2⟩:=(oN g2 R n N on q b now us rd bl ino (bX.gQ bw λ_ _ e=>e) M K).2 i bT S;have hlen:=ae2 (P:=ao) Tryd.underlying33 xZ.aF;generalize ai:(lK bl i).length=k at *;have ea:∀j,j<g2.next->ct g2 g3 j:=λj aa=>c2.same j aa (λe=>e)
 have fh:g3.wr g1.next 10:=eP Gh (ea _ (by omega))
 have pq:=gN (n:=1) (off:=5) (y:=I (k:Int)) fh rfl (by omega) rfl;have fl:(U.int .i64 (k:Int)).cells=[I (k:Int)]:=rfl;rw[fl] at pq
 have QG:∀j,j<10->(g3.set g1.next 5 [I (k:Int)]).cell g1.next (0+j)=(fI rd (i+1) k)[j]?:=λj aa=>by
  rw[Nat.zero_add];by_cases e:j=5
  ·subst e;rw[fZ fh (by simp) (Nat.le_refl _) (by simp)];simp[fI]
  ·rw[ep (.inr (by simp;omega)),(ea _ (by omega)).cell,QF j aa];simp[fI,aa,e]
 have jm:(g3.set g1.next 5 [I (k:Int)]).next=g3.next:=by simp
 have gD:(g3.set g1.next 5 [I (k:Int)]).wr g1.next 10:=dY fh
 have z8:(g3.set g1.next 5 [I (k:Int)]).wr h.next 10:=by
  have az:ct g1 g2 h.next:=bw.same _ (by omega) (λe=>e)
  have ay:ct g3 (g3.set g1.next 5 [I (k:Int)]) h.next:=gr _ _ _ (by omega)
  exact eP (eP (eP cP az) (ea _ (by have:=bw.next;omega))) ay
 have fK:aD g1 (g3.set g1.next 5 [I (k:Int)]) (λ_=>False):=(bw.trans c2).gB (fj rfl) (Nat.le_refl _);generalize kc:g3.set g1.next 5 [I (k:Int)]=g4 at *
 have kE:(fI rd (i+1) k).length=10:=by simp[fI]
 have QY:eB 10 (.ptr g1.next 0) g4=some (.agg (fI rd (i+1) k)):=by
  obtain⟨oA,vc,_⟩:=gD;rw[mE vc,jy kE QG];rfl
 have Qz:dB (fI rd (i+1) k)=true:=yk λj aa=>by
  have:=List.mem_range.1 aa
  split
  ·rfl
  ·exact fm _ (by omega)
 have F6:=gN (n:=10) (off:=0) (y:= .agg (fI rd (i+1) k)) z8 kE (by omega) Qz;have QE:(U.agg (fI rd (i+1) k)).cells=fI rd (i+1) k:=rfl;rw[QE] at F6
 have QZ:eB 10 (.ptr h.next 0) (g4.set h.next 0 (fI rd (i+1) k))=some (.agg (fI rd (i+1) k)):=by
  obtain⟨oA,vc,_⟩:=dY (off:=0) (k:=h.next) (ys:=fI rd (i+1) k) z8;rw[mE vc,jy kE λj aa=>?_]
  ·rfl
  ·rw[Nat.zero_add,fZ z8 (by omega) (Nat.zero_le _) (by omega),Nat.sub_zero]
 refine⟨g4.set h.next 0 (fI rd (i+1) k),?_,(aL.trans fK).gB (fj rfl) (Nat.le_refl _)⟩;unfold I3 Wu PD;simp only[aA,qy,dA,Bool.not_true,cb,ax,kf,CS,rF,cm,List.getElem?_cons_zero,List.getElem?_cons_succ,hlen,pq,QY,F6,QZ]
end
section
open Classical
structure rS (N:Nat) (us:Nat->Bool) (s:dC):Prop where
 S:∀i,i<N->lp s.bl i
 Z:∀i,i<N->us i=false->∀c,12<=c->c<308->s.bl i c=0
 O:Au N s
section
variable{n N i:Nat}{s fs:dC}{us:Nat->Bool}
theorem lp.PU{bl:Nat->Nat->Nat}{i:Nat}(S:lp bl i):rO bl i:=λu hu e=>(S.yD u hu).1 e
theorem aiH{bl:Nat->Nat->Nat}{i:Nat}(h:∀c,12<=c->c<308->bl i c=0):lp bl i:=
 ⟨⟨λ_=>pd.2 λj aa=>h _ (by omega) (by omega),λ_=>h _ (by omega) (by omega)⟩,λq a2=>⟨λ_=>pd.2 λj aa=>h _ (by omega) (by omega),λ_=>h _ (by omega) (by omega)⟩,
   ⟨λ_ q a2=>h _ (by omega) (by omega),λ_=>h _ (by omega) (by omega)⟩⟩
theorem X0{bl bl':Nat->Nat->Nat}{i:Nat}(S:lp bl i)(h:∀c,12<=c->c<308->bl' i c=bl i c):lp bl' i:=by
 have cj:∀c,12<=c->c+17<=308->hole bl' i c=hole bl i c:=λc h1 h2=>vf λt aN=>h _ (by omega) (by omega)
 refine⟨?_,λq a2=>?_,?_⟩
 ·rw[h _ (by omega) (by omega),cj _ (by omega) (by omega)];exact S.one
 ·rw[h _ (by omega) (by omega),cj _ (by omega) (by omega)];exact S.yD q a2
 ·rw[h _ (by omega) (by omega)];exact S.two.trans ⟨λe q a2=>by rw[h _ (by omega) (by omega)];exact e q a2,λe q a2=>by rw[<- h _ (by omega) (by omega)];exact e q a2⟩
theorem PN:∀(cs:List Nat) (s:dC) (bf:List Nat) (i' c:Nat),(i'≠i\/c ∉ cs)->(dq n i cs s bf).1.bl i' c=s.bl i' c
 | [],_,_,_,_,_=>rfl
 |a::cs,s,bf,i',c,h=>by
  have h':i'≠i\/c ∉ cs:=h.imp id λx y=>x (List.mem_cons_of_mem _ y)
  unfold dq;by_cases h1:0<s.bl i a
  ·rw[if_pos h1];exact PN cs s bf i' c h'
  ·rw[if_neg h1];cases aJ:low n s.wd with
   |none=>rfl
   |some j=>
    show(dq n i cs (s.take i a j) (bf++[a])).1.bl i' c=_;rw[PN cs _ _ i' c h'];refine nM _ _ ?_;rcases h with h|h
    ·exact .inl h
    ·exact .inr λe=>h (by rw[e];exact List.mem_cons_self ..)
theorem aDj{bl bl':Nat->Nat->Nat}{k:Nat}(ai:k<278)(S:lp bl i)(aB:∀c,c∈du k->0<bl' i c)(aq:∀c,c ∉ du k->bl' i c=bl i c):lp bl' i:=by
 have ca:=ur ai
 have gz:∀c,c≠a5 k->(22<=k->c≠35/\c≠36+17*((k-22)/16))->(6<=k->k<22->c≠18)->bl' i c=bl i c:=λc h1 h2 h3=>aq c λhm=>by
  unfold du at hm;by_cases az:k<6
  ·rw[if_pos az] at hm;exact h1 (List.mem_singleton.1 hm)
  ·rw[if_neg az] at hm;by_cases ay:k<22
   ·rw[if_pos ay] at hm;simp only[List.mem_cons,List.not_mem_nil,or_false] at hm;exact hm.elim (h3 (by omega) ay) h1
   ·rw[if_neg ay] at hm;simp only[List.mem_cons,List.not_mem_nil,or_false] at hm;exact hm.elim (h2 (by omega)).1 λhm=>hm.elim (h2 (by omega)).2 h1
 have iQ:0<bl' i (a5 k):=aB _ (by unfold du;split<;>(try split)<;>simp);have aGP:∀c,c<36+17*16->a5 k=c->c=a5 k:=λc _ e=>e.symm
 by_cases az:k<6
 ·have HV:a5 k=12+k:=by unfold a5;rw[if_pos az]
  have ag:∀c,18<=c->bl' i c=bl i c:=λc ae=>gz c (by omega) (λh=>by omega) (λh=>by omega)
  refine⟨?_,λq a2=>?_,?_⟩
  ·rw[ag 18 (by omega),vf (bl':=bl') (bl:=bl) λt aN=>ag _ (by omega)];exact S.one
  ·rw[ag _ (by omega),vf (bl':=bl') (bl:=bl) λt aN=>ag _ (by omega)];exact S.yD q a2
  ·rw[ag 35 (by omega)];exact S.two.trans ⟨λe q a2=>by rw[ag _ (by omega)];exact e q a2,λe q a2=>by rw[<- ag _ (by omega)];exact e q a2⟩
 ·by_cases ay:k<22
  ·have HV:a5 k=19+(k-6):=by unfold a5;rw[if_neg az,if_pos ay]
   have DN:0<bl' i 18:=aB _ (by unfold du;rw[if_neg az,if_pos ay];simp);have ag:∀c,35<=c->bl' i c=bl i c:=λc ae=>gz c (by omega) (λh=>by omega) (λ_ _=>by omega)
   refine⟨⟨λe=>by omega,λe=>?_⟩,λq a2=>?_,?_⟩
   ·have:=pd.1 e (k-6) (by omega)
    rw[show 18+(1+(k-6))=a5 k by omega] at this;omega
   ·rw[ag _ (by omega),vf (bl':=bl') (bl:=bl) λt aN=>ag _ (by omega)];exact S.yD q a2
   ·rw[ag 35 (by omega)];exact S.two.trans ⟨λe q a2=>by rw[ag _ (by omega)];exact e q a2,λe q a2=>by rw[<- ag _ (by omega)];exact e q a2⟩
  ·have HV:a5 k=37+17*((k-22)/16)+(k-22)%16:=by unfold a5;rw[if_neg az,if_neg ay]
   have wN:0<bl' i 35:=aB _ (by unfold du;rw[if_neg az,if_neg ay];simp);have Qp:0<bl' i (36+17*((k-22)/16)):=aB _ (by unfold du;rw[if_neg az,if_neg ay];simp);have ag:∀c,c≠a5 k->c≠35->c≠36+17*((k-22)/16)->bl' i c=bl i c:=λc aj aC a8=>gz c aj (λ_=>⟨aC,a8⟩) (λh h'=>by omega)
   refine⟨?_,λq a2=>?_,⟨λe=>by omega,λe=>?_⟩⟩
   ·rw[ag 18 (by omega) (by omega) (by omega),vf (bl':=bl') (bl:=bl) λt aN=>ag _ (by omega) (by omega) (by omega)];exact S.one
   ·by_cases eq:q=(k-22)/16
    ·subst eq;refine⟨λe=>by omega,λe=>?_⟩
     have:=pd.1 e ((k-22)%16) (by omega)
     rw[show 36+17*((k-22)/16)+(1+(k-22)%16)=a5 k by omega] at this;omega
    ·rw[ag _ (by omega) (by omega) (by omega),vf (bl':=bl') (bl:=bl) λt aN=>ag _ (by omega) (by omega) (by omega)];exact S.yD q a2
   ·have:=e ((k-22)/16) (by omega);omega
theorem an5{k:Nat}(hi:i<N)(hu:us i=true)(W:pN n N s)(ai:k<278)(T:rS N us s):rS N us (bN n i k s).1:=by
 by_cases h1:0<s.bl i (a5 k)
 ·have e:bN n i k s=(s,true):=by unfold bN;rw[if_pos h1]
  rw[e];exact T
 ·by_cases h2:(dq n i (du k) s []).2.2=true
  ·have e:bN n i k s=((dq n i (du k) s []).1,true):=by unfold bN;rw[if_neg h1,if_pos h2]
   have Jj:=(an6 hi W ai (by rw[e])).2 T.O;rw[e] at Jj⊢;have aB:=(Ia (du k) s [] h2).2;have sk:∀i' c,i'≠i\/c ∉ du k->(dq n i (du k) s []).1.bl i' c=s.bl i' c:=PN (du k) s [];refine⟨λi' cH=>?_,λi' cH hd c aP a1=>?_,Jj⟩
   ·by_cases aaL:i'=i
    ·subst aaL;exact aDj ai (T.S i' cH) aB (λc ae=>sk _ c (.inr ae))
    ·exact X0 (T.S i' cH) λc _ _=>sk i' c (.inl aaL)
   ·rw[sk i' c (.inl λe=>by subst e;rw[hu] at hd;cases hd)];exact T.Z i' cH hd c aP a1
  ·have e:bN n i k s=(⟨s.wd,(dq n i (du k) s []).1.b,s.nd,s.bl⟩,false):=by unfold bN;rw[if_neg h1,if_neg h2]
   rw[e];exact⟨T.S,T.Z,T.O⟩
theorem ajs{off:Nat}{l:List Nat}(jT:off+l.length<=17792)(hi:i<N)(hu:us i=true):∀(g done:Nat) (s:dC),done<=l.length->pN n N s->rS N us s->rS N us (jG n i off l g done s).1
 |0,done,s,aI,W,T=>T
 |g+1,done,s,aI,W,T=>by
  unfold jG;by_cases h1:done<l.length
  ·rw[if_pos h1];have Hi:=an5 (k:=(off+done)/64) hi hu W (by omega) T;have jL:=PQ (k:=(off+done)/64) W hi (by omega);by_cases h2:(bN n i ((off+done)/64) s).2=true
   ·rw[if_pos h2];exact ajs jT hi hu g _ _ (by omega) ⟨jL.M,jL.w⟩ ⟨Hi.S,Hi.Z,Hi.O⟩
   ·rw[if_neg h2];exact Hi
  ·rw[if_neg h1];exact T
theorem aDi{bl:Nat->Nat->Nat}{k:Nat}(S:lp bl i):lp (dE bl i (gP bl i k)) i:=by
 have aB:∀c,(∃m,m<278/\c=a5 m)->(gP bl i k c↔hh k 278 c):=λc ⟨m,hm,e⟩=>by
  rw[e,lp.am9 hm];exact⟨λh=>⟨m,h,hm,rfl⟩,λ⟨j,a,aC,a8⟩=>by rw[Sg a8 hm aC];exact a⟩
 have ae:∀g,g<17->hole (dE bl i (gP bl i k)) i (dt g)=hc bl i k (dt g):=λg bc=>by
  unfold hc;refine vf λt aN=>?_
  have:=aB (dt g+(1+t)) ⟨6+g*16+t,by omega,(I8 aN).symm⟩
  unfold dE;by_cases e:hh k 278 (dt g+(1+t))
  ·rw[if_pos ⟨rfl,this.2 e⟩,if_pos ⟨rfl,e⟩]
  ·rw[if_neg λx=>e (this.1 x.2),if_neg λx=>e x.2]
 have hm:∀c,hole bl i c=true->hc bl i k c=true:=λc h=>by
  unfold hc;rw[pd] at h⊢;intro j aa;unfold dE;split
  ·rfl
  ·exact h j aa
 have afp:¬hh k 278 18:=λ⟨j,_,aC,e⟩=>(ur aC).1 e.symm
 have arR:¬hh k 278 35:=λ⟨j,_,aC,e⟩=>(ur aC).2.1 e.symm
 have arS:∀q,q<16->¬hh k 278 (36+17*q):=λq a2 ⟨j,_,aC,e⟩=>(ur aC).2.2 q a2 e.symm
 have ZU:gP bl i k 18↔hc bl i k 18=true:=by
  unfold gP;exact⟨λx=>by rcases x with e|⟨_,e⟩|⟨j,_,e,_⟩|⟨e,_⟩<;>first|exact e|exact absurd e afp|omega,λe=> .inr (.inl ⟨rfl,e⟩)⟩
 have HC:∀q,q<16->(gP bl i k (36+17*q)↔hc bl i k (36+17*q)=true):=λq a2=>by
  unfold gP;refine⟨λx=>?_,λe=> .inr (.inr (.inl ⟨q,a2,rfl,e⟩))⟩;rcases x with e|⟨e,_⟩|⟨j,_,e,bd⟩|⟨e,_⟩
  ·exact absurd e (arS q a2)
  ·omega
  ·rw[e];exact bd
  ·omega
 have N6:gP bl i k 35↔∀j,j<16->bl i (36+17*j)=0\/hc bl i k (36+17*j)=true:=by
  unfold gP;refine⟨λx=>?_,λe=> .inr (.inr (.inr ⟨rfl,e⟩))⟩;rcases x with e|⟨e,_⟩|⟨j,_,e,bd⟩|⟨_,e⟩
  ·exact absurd e arR
  ·omega
  ·omega
  ·exact e
 have g0:dt 0=18:=rfl;have tG:∀q,dt (q+1)=36+17*q:=λq=>by unfold dt;rw[if_neg (by omega),Nat.add_sub_cancel]
 refine⟨?_,λq a2=>?_,?_⟩
 ·have h0:=ae 0 (by omega);rw[g0] at h0;rw[h0];by_cases e:hc bl i k 18=true
  ·exact⟨λ_=>e,λ_=>oV (ZU.2 e)⟩
  ·rw[jb λx=>e (ZU.1 x.2)];exact⟨λx=>absurd (hm _ (S.one.1 x)) e,λx=>absurd x e⟩
 ·have h0:=ae (q+1) (by omega);rw[tG] at h0;rw[h0];by_cases e:hc bl i k (36+17*q)=true
  ·exact⟨λ_=>e,λ_=>oV ((HC q a2).2 e)⟩
  ·rw[jb λx=>e ((HC q a2).1 x.2)];exact⟨λx=>absurd (hm _ ((S.yD q a2).1 x)) e,λx=>absurd x e⟩
 ·by_cases e:gP bl i k 35
  ·refine⟨λ_ q a2=>?_,λ_=>oV e⟩;rcases N6.1 e q a2 with h|h
   ·unfold dE;split
    ·rfl
    ·exact h
   ·exact oV ((HC q a2).2 h)
  ·rw[jb λx=>e x.2];refine⟨λx=>absurd (N6.2 λj aa=> .inl (S.two.1 x j aa)) e,λx=>?_⟩;refine absurd (N6.2 λj aa=>?_) e
   have:=x j aa
   by_cases h:hc bl i k (36+17*j)=true
   ·exact .inr h
   ·rw[jb λx=>h ((HC j aa).1 x.2)] at this;exact .inl this
theorem am6{sz:Nat}(C:GA i sz s fs)(hu:us i=true)(T:rS N us s):rS N us fs:=by
 refine⟨λi' cH=>?_,λi' cH hd c aP a1=>?_,am5 C T.O⟩
 ·rw[C.bl];by_cases e:i'=i
  ·subst e;exact aDi (T.S i' cH)
  ·exact X0 (T.S i' cH) λc _ _=>jb λx=>e x.1
 ·rw[C.bl,jb λx=>by have:=x.1;subst this;rw[hu] at hd;cases hd];exact T.Z i' cH hd c aP a1
theorem aoK{de:Nat->Nat}{b':Nat->Nat}{e1:Nat->Nat->U}(Jj:∀j,bP de j=true↔(bP s.wd j=true/\∀c,12<=c->c<308->s.bl i c≠j+1))(T:rS N us s):rS N (da us i false) ⟨de,b',e1,nu s.bl i⟩:=by
 refine⟨λi' cH=>?_,λi' cH hd c aP a1=>?_,λj aa=>?_⟩
 ·by_cases e:i'=i
  ·exact aiH λc _ _=>if_pos e
  ·exact X0 (T.S i' cH) λc _ _=>if_neg e
 ·by_cases e:i'=i
  ·exact if_pos e
  ·rw[ho _ _ e] at hd;show nu s.bl i i' c=0;unfold nu;rw[if_neg e];exact T.Z i' cH hd c aP a1
 ·obtain⟨h1,h2⟩:=(Jj j).1 aa;obtain⟨i',c,aj,aC,a8,cF⟩:=T.O j h1;refine⟨i',c,aj,aC,a8,?_⟩;have e:i'≠i:=λe=>h2 c aC a8 (by rw[<- e];exact cF)
  show nu s.bl i i' c=j+1;unfold nu;rw[if_neg e];exact cF
end
end
structure mc where
 s:dC
 now:Int
 us:Nat->Bool
 q:Nat->Option Nat
 b2:Nat->Nat
 rd:Nat->Nat->U
structure ll (g:Nat->U):Prop where
 l:∃L:Int,g 2=I L/\0<=L/\L<=16
 z:∃sz:Nat,g 5=I (sz:Int)/\sz<=17792
 i:∀c,1<=c->c<12->∃v:Int,g c=I v
def fC(T:dS)(j:Nat):Prop:=j=T.a3\/j=T.bL\/j=T.kd\/j=T.aK
def hJ(R:eE)(q:Nat->Option Nat)(j:Nat):Prop:=j=R.rt\/j=R.ro\/j=R.rb\/j=R.bs\/∃u,q u=some j
def mR(N:Nat)(nd rd:Nat->Nat->U):Prop:=∀i c,i<N->c<12->rd (i+1) c=nd i c
structure Rel (h:J) (T:dS) (R:eE) (n N:Nat) (a:mc):Prop where
 A:bt h T n N a.s.wd a.s.b a.now a.us a.s.nd
 M:c3 n N a.s.wd a.s.nd a.s.bl
 B:bE h R n N (bP a.s.wd) a.q a.b2 a.now a.us a.rd
 gI:dg N a.rd a.s.bl
 jq:iX (bP a.s.wd) a.s.b a.b2
 lo:mR N a.s.nd a.rd
 gU:∀i,i<N->ll (a.s.nd i)
 jK:rS N a.us a.s
 jt:hE h
 O:nV h T
 sep:∀j,fC T j->¬hJ R a.q j
 Jb:¬fC T mw
 tG:¬hJ R a.q mw
 qd:∀u k,a.q u=some k->u<n
structure mm (h h1 h2:J) (T:dS) (R:eE) (n N:Nat) (a a':mc):Prop where
 r:Rel h2 T R n N a'
 f1:aD h h1 (fC T)
 f2:aD h1 h2 (hJ R a.q)
 a2:∀u k,a'.q u=some k->a.q u=some k\/h.next<=k
section
variable{h h1 h2:J}{T:dS}{R:eE}{n N:Nat}{a a':mc}{i:Nat}{ino:Int}
theorem Rel.Aa(r:Rel h T R n N a):pN n N a.s:=⟨r.M,r.A.st.iF⟩
theorem Rel.xc(r:Rel h T R n N a){j:Nat}(aa:fC T j):j<h.next:=by
 rcases aa with rfl|rfl|rfl|rfl
 ·exact r.O.t
 ·exact r.O.s
 ·exact r.O.d
 ·exact r.O.n
theorem Xy{q:Nat->Option Nat}{j:Nat}(aa:sJ R n q j):hJ R q j:=by
 rcases aa with rfl|rfl|rfl|rfl|⟨u,_,e⟩
 ·exact .inr (.inr (.inr (.inl rfl)))
 ·exact .inl rfl
 ·exact .inr (.inl rfl)
 ·exact .inr (.inr (.inl rfl))
 ·exact .inr (.inr (.inr (.inr ⟨u,e⟩)))
theorem Rel.bY(r:Rel h T R n N a)(aL:aD h h1 (fC T)):bE h1 R n N (bP a.s.wd) a.q a.b2 a.now a.us a.rd:=
 r.B.gQ aL λj aa e=>r.sep j e (Xy aa)
theorem Rel.next(r:Rel h T R n N a)(aL:aD h h1 (fC T))(bw:aD h1 h2 (hJ R a.q))(bX:bt h1 T n N a'.s.wd a'.s.b a'.now a'.us a'.s.nd)(M:c3 n N a'.s.wd a'.s.nd a'.s.bl)
 (eY:bE h2 R n N (bP a'.s.wd) a'.q a'.b2 a'.now a'.us a'.rd)(gI:dg N a'.rd a'.s.bl)(jq:iX (bP a'.s.wd) a'.s.b a'.b2)(lo:mR N a'.s.nd a'.rd)(gU:∀i,i<N->ll (a'.s.nd i))(jK:rS N a'.us a'.s)
 (qd:∀u k,a'.q u=some k->u<n)(a2:∀u k,a'.q u=some k->a.q u=some k\/h.next<=k):mm h h1 h2 T R n N a a':=by
 have bc:mw<h.next:=r.O.g
 refine⟨⟨bX.frame bw.next λj aa=>bw.same j ?_ (r.sep j aa),M,eY,gI,jq,lo,gU,jK,(r.jt.dm aL bc r.Jb).dm bw (Nat.lt_of_lt_of_le bc aL.next) r.tG,(r.O.mono aL.next).mono bw.next,λj aa e=>?_,r.Jb,λe=>?_,qd⟩,aL,bw,a2⟩
 ·exact Nat.lt_of_lt_of_le (r.xc aa) aL.next
 ·rcases e with e|e|e|e|⟨u,e⟩
  ·exact r.sep j aa (.inl e)
  ·exact r.sep j aa (.inr (.inl e))
  ·exact r.sep j aa (.inr (.inr (.inl e)))
  ·exact r.sep j aa (.inr (.inr (.inr (.inl e))))
  ·rcases a2 u j e with e|e
   ·exact r.sep j aa (.inr (.inr (.inr (.inr ⟨u,e⟩))))
   ·have:=r.xc aa;omega
 ·rcases e with e|e|e|e|⟨u,e⟩
  ·exact r.tG (.inl e)
  ·exact r.tG (.inr (.inl e))
  ·exact r.tG (.inr (.inr (.inl e)))
  ·exact r.tG (.inr (.inr (.inr (.inl e))))
  ·rcases a2 u _ e with e|e
   ·exact r.tG (.inr (.inr (.inr (.inr ⟨u,e⟩))))
   ·omega
theorem Rel.same(r:Rel h T R n N a)(aL:aD h h1 (λ_=>False))(bw:aD h1 h2 (λ_=>False)):mm h h1 h2 T R n N a a:=by
 have gu:aD h h1 (fC T):=aL.ei λ_ e=>e.elim
 have vW:aD h1 h2 (hJ R a.q):=bw.ei λ_ e=>e.elim
 exact r.next gu vW (r.A.fU aL) r.M ((r.B.gQ aL λ_ _ e=>e).gQ bw λ_ _ e=>e) r.gI r.jq r.lo r.gU r.jK r.qd λ_ _ e=> .inl e
theorem Rel.refl(r:Rel h T R n N a):mm h h h T R n N a a:=r.same (aD.refl _ _) (aD.refl _ _)
theorem Rel.LI(r:Rel h T R n N a){j:Nat}(aa:hJ R a.q j):j<h.next:=by
 rcases aa with rfl|rfl|rfl|rfl|⟨u,e⟩
 ·exact r.B.ref.lt
 ·exact r.B.iq (.inr (.inr (.inl rfl)))
 ·exact r.B.iq (.inr (.inr (.inr (.inl rfl))))
 ·exact r.B.hg
 ·exact r.B.iq (.inr (.inr (.inr (.inr ⟨u,r.qd u j e,e⟩))))
theorem tZ{us:Nat->Bool}(h:c7 N us ino=true):∃i,iv N us ino i:=by
 simp only[c7,Bool.and_eq_true,decide_eq_true_eq] at h;exact⟨ino.toNat-1,by omega,h.2.2,by omega⟩
theorem mR.da{nd rd:Nat->Nat->U}(H:mR N nd rd)(i c:Nat)(y:U):mR N (cU nd i c y) (cU rd (i+1) c y):=λi' a4 hi ae=>by
 by_cases e:i'=i/\a4=c
 ·rw[e.1,e.2,mO,mO]
 ·rw[hn _ _ (by omega),hn _ _ (by omega)];exact H i' a4 hi ae
theorem mG{nd:Nat->Nat->U}(H:∀i,i<N->ll (nd i))(i:Nat){c:Nat}(ae:c≠2)(m7:c≠5)(v:Int):∀i',i'<N->ll (cU nd i c (I v) i'):=λi' hi=>by
 obtain⟨⟨L,b4,cv⟩,⟨sz,vP,uK⟩,h3⟩:=H i' hi;refine⟨⟨L,by rw[hn _ _ (by omega)];exact b4,cv⟩,⟨sz,by rw[hn _ _ (by omega)];exact vP,uK⟩,λa4 aj aC=>?_⟩;by_cases e:i'=i/\a4=c
 ·rw[e.1,e.2,mO];exact⟨v,rfl⟩
 ·rw[hn _ _ (by omega)];exact h3 a4 aj aC
theorem asj{nd:Nat->Nat->U}(H:∀i,i<N->ll (nd i))(i:Nat){v:Int}(h0:0<=v)(h1:v<=16):∀i',i'<N->ll (cU nd i 2 (I v) i'):=λi' hi=>by
 obtain⟨⟨L,b4,cv⟩,⟨sz,vP,uK⟩,h3⟩:=H i' hi;refine⟨?_,⟨sz,by rw[hn _ _ (by omega)];exact vP,uK⟩,λa4 aj aC=>?_⟩
 ·by_cases e:i'=i
  ·rw[e,mO];exact⟨v,rfl,h0,h1⟩
  ·rw[hn _ _ (by omega)];exact⟨L,b4,cv⟩
 ·by_cases e:i'=i/\a4=2
  ·rw[e.1,e.2,mO];exact⟨v,rfl⟩
  ·rw[hn _ _ (by omega)];exact h3 a4 aj aC
theorem asl{nd:Nat->Nat->U}(H:∀i,i<N->ll (nd i))(i:Nat){v:Nat}(h1:v<=17792):∀i',i'<N->ll (cU nd i 5 (I (v:Int)) i'):=λi' hi=>by
 obtain⟨⟨L,b4,cv⟩,⟨sz,vP,uK⟩,h3⟩:=H i' hi;refine⟨⟨L,by rw[hn _ _ (by omega)];exact b4,cv⟩,?_,λa4 aj aC=>?_⟩
 ·by_cases e:i'=i
  ·rw[e,mO];exact⟨v,rfl,h1⟩
  ·rw[hn _ _ (by omega)];exact⟨sz,vP,uK⟩
 ·by_cases e:i'=i/\a4=5
  ·rw[e.1,e.2,mO];exact⟨v,rfl⟩
  ·rw[hn _ _ (by omega)];exact h3 a4 aj aC
theorem Rel.low(r:Rel h T R n N a)(aL:aD h h1 (fC T))(bw:aD h1 h2 (hJ R a.q)){e1 cw:Nat->Nat->U}(bX:bt h1 T n N a.s.wd a.s.b a.now a.us e1)(kU:c3 n N a.s.wd e1 a.s.bl)
 (eY:bE h2 R n N (bP a.s.wd) a.q a.b2 a.now a.us cw)(eF:dg N cw a.s.bl)(lo:mR N e1 cw)(gU:∀i,i<N->ll (e1 i)):mm h h1 h2 T R n N a ⟨⟨a.s.wd,a.s.b,e1,a.s.bl⟩,a.now,a.us,a.q,a.b2,cw⟩:=
 r.next (a':=⟨⟨a.s.wd,a.s.b,e1,a.s.bl⟩,a.now,a.us,a.q,a.b2,cw⟩) aL bw bX kU eY eF r.jq lo gU ⟨r.jK.S,r.jK.Z,r.jK.O⟩ r.qd λ_ _ e=> .inl e
theorem aBx{C:ad}(P:Hf C)(Q:G5 C)(r:Rel h T R n N a){mo:Int}(b4: -9223372036854775808<=ino)(cv:ino<9223372036854775808):
 ∃e h1 h2 a',C (.fn 56) [.ptr T.a3 0,I ino,I mo] h=some (.ret (I e),h1)/\C (.fn 101) [.ptr R.rt 0,I ino,I mo] h1=some (.ret (I e),h2)/\mm h h1 h2 T R n N a a':=by
 obtain⟨bM,cz⟩:=P h T n N a.s.wd a.s.b a.now a.us a.s.nd ino mo r.A b4 cv;cases ag:c7 N a.us ino with
 |false=>exact⟨2,h,h,a,bM ag,(Q h R n N _ a.q a.b2 a.now a.us a.rd ino mo r.B).1 ag,r.refl⟩
 |true=>
  obtain⟨i,bT⟩:=tZ ag;obtain⟨m,hm⟩:=(r.gU i bT.1).i 7 (by omega) (by omega);obtain⟨h1,aP,bX,cA,aL⟩:=cz i m bT.1 bT.2.1 bT.2.2 hm;have gu:aD h h1 (fC T):=aL.ei λ_ e=> .inr (.inr (.inr e))
  obtain⟨h2,a1,eY,ck,bw⟩:=(Q h1 R n N _ a.q a.b2 a.now a.us a.rd ino mo (r.bY gu)).2 i m bT (by rw[r.lo i 7 bT.1 (by omega)];exact hm);exact⟨0,h1,h2,_,aP,a1,r.low gu (bw.ei λ_ e=> .inr (.inr (.inr (.inl e)))) bX ((r.M.lu (by omega)).lu (by omega)) eY ((r.gI.off (by omega)).off (by omega)) ((r.lo.da i 7 _).da i 10 _) (mG (mG r.gU i (by omega) (by omega) _) i (by omega) (by omega) _)⟩
theorem aBz{C:ad}(P:Hh C)(Q:G7 C)(r:Rel h T R n N a){at_ m:Int}(b4: -9223372036854775808<=ino)(cv:ino<9223372036854775808):
 ∃e h1 h2 a',C (.fn 58) [.ptr T.a3 0,I ino,I at_,I m] h=some (.ret (I e),h1)/\C (.fn 103) [.ptr R.rt 0,I ino,I at_,I m] h1=some (.ret (I e),h2)/\mm h h1 h2 T R n N a a':=by
 obtain⟨bM,cz⟩:=P h T n N a.s.wd a.s.b a.now a.us a.s.nd ino at_ m r.A b4 cv;cases ag:c7 N a.us ino with
 |false=>exact⟨2,h,h,a,bM ag,(Q h R n N _ a.q a.b2 a.now a.us a.rd ino at_ m r.B).1 ag,r.refl⟩
 |true=>
  obtain⟨i,bT⟩:=tZ ag;obtain⟨h1,aP,bX,cA,aL⟩:=cz i bT.1 bT.2.1 bT.2.2;have gu:aD h h1 (fC T):=aL.ei λ_ e=> .inr (.inr (.inr e))
  obtain⟨h2,a1,eY,ck,bw⟩:=(Q h1 R n N _ a.q a.b2 a.now a.us a.rd ino at_ m (r.bY gu)).2 i bT
  exact⟨0,h1,h2,_,aP,a1,r.low gu (bw.ei λ_ e=> .inr (.inr (.inr (.inl e)))) bX (((r.M.lu (by omega)).lu (by omega)).lu (by omega)) eY (((r.gI.off (by omega)).off (by omega)).off (by omega)) (((r.lo.da i 8 _).da i 9 _).da i 10 _)
   (mG (mG (mG r.gU i (by omega) (by omega) _) i (by omega) (by omega) _) i (by omega) (by omega) _)⟩
theorem aBu{C:ad}(P:GI C)(Q:G1 C)(r:Rel h T R n N a)(b4: -9223372036854775808<=ino)(cv:ino<9223372036854775808):
 ∃e h1 h2 a',C (.fn 60) [.ptr T.a3 0,I ino] h=some (.ret (I e),h1)/\C (.fn 99) [.ptr R.rt 0,I ino] h1=some (.ret (I e),h2)/\mm h h1 h2 T R n N a a':=by
 obtain⟨bM,cz⟩:=P h T n N a.s.wd a.s.b a.now a.us a.s.nd ino r.A b4 cv;cases ag:c7 N a.us ino with
 |false=>exact⟨2,h,h,a,bM ag,(Q h R n N _ a.q a.b2 a.now a.us a.rd ino r.B).1 ag,r.refl⟩
 |true=>
  obtain⟨i,bT⟩:=tZ ag;obtain⟨H,iN⟩:=(r.gU i bT.1).i 11 (by omega) (by omega);obtain⟨h1,aP,bX,cA,aL⟩:=cz i H bT.1 bT.2.1 bT.2.2 iN;have gu:aD h h1 (fC T):=aL.ei λ_ e=> .inr (.inr (.inr e))
  obtain⟨h2,a1,eY,ck,bw⟩:=(Q h1 R n N _ a.q a.b2 a.now a.us a.rd ino (r.bY gu)).2 i H bT (by rw[r.lo i 11 bT.1 (by omega)];exact iN);exact⟨0,h1,h2,_,aP,a1,r.low gu (bw.ei λ_ e=> .inr (.inr (.inr (.inl e)))) bX (r.M.lu (by omega)) eY (r.gI.off (by omega)) (r.lo.da i 11 _) (mG r.gU i (by omega) (by omega) _)⟩
theorem aBy{C:ad}(P:Hg C)(Q:G6 C)(r:Rel h T R n N a){u g:Int}(b4: -9223372036854775808<=ino)(cv:ino<9223372036854775808):
 ∃e h1 h2 a',C (.fn 57) [.ptr T.a3 0,I ino,I u,I g] h=some (.ret (I e),h1)/\C (.fn 102) [.ptr R.rt 0,I ino,I u,I g] h1=some (.ret (I e),h2)/\mm h h1 h2 T R n N a a':=by
 obtain⟨bM,cz⟩:=P h T n N a.s.wd a.s.b a.now a.us a.s.nd ino u g r.A b4 cv;cases ag:c7 N a.us ino with
 |false=>exact⟨2,h,h,a,bM ag,(Q h R n N _ a.q a.b2 a.now a.us a.rd ino u g r.B).1 ag,r.refl⟩
 |true=>
  obtain⟨i,bT⟩:=tZ ag;obtain⟨fr,nI⟩:=cz i bT.1 bT.2.1 bT.2.2;by_cases he:u < -1\/g < -1
  ·exact⟨22,h,h,a,fr he,((Q h R n N _ a.q a.b2 a.now a.us a.rd ino u g r.B).2 i bT).1 he,r.refl⟩
  ·obtain⟨h1,aP,bX,cA,aL⟩:=nI he;have gu:aD h h1 (fC T):=aL.ei λ_ e=> .inr (.inr (.inr e))
   obtain⟨h2,a1,eY,ck,bw⟩:=((Q h1 R n N _ a.q a.b2 a.now a.us a.rd ino u g (r.bY gu)).2 i bT).2 he;refine⟨0,h1,h2,_,aP,a1,r.low gu (bw.ei λ_ e=> .inr (.inr (.inr (.inl e)))) bX ?_ eY ?_ ?_ ?_⟩
   ·unfold rm;split<;>split
    ·exact((r.M.lu (by omega)).lu (by omega)).lu (by omega)
    ·exact(r.M.lu (by omega)).lu (by omega)
    ·exact(r.M.lu (by omega)).lu (by omega)
    ·exact r.M.lu (by omega)
   ·unfold rm;split<;>split
    ·exact((r.gI.off (by omega)).off (by omega)).off (by omega)
    ·exact(r.gI.off (by omega)).off (by omega)
    ·exact(r.gI.off (by omega)).off (by omega)
    ·exact r.gI.off (by omega)
   ·unfold rm;split<;>split
    ·exact((r.lo.da i 3 _).da i 4 _).da i 10 _
    ·exact(r.lo.da i 4 _).da i 10 _
    ·exact(r.lo.da i 3 _).da i 10 _
    ·exact r.lo.da i 10 _
   ·unfold rm;split<;>split
    ·exact mG (mG (mG r.gU i (by omega) (by omega) _) i (by omega) (by omega) _) i (by omega) (by omega) _
    ·exact mG (mG r.gU i (by omega) (by omega) _) i (by omega) (by omega) _
    ·exact mG (mG r.gU i (by omega) (by omega) _) i (by omega) (by omega) _
    ·exact mG r.gU i (by omega) (by omega) _
end
section
variable{h h1 h2:J}{T:dS}{R:eE}{n N:Nat}{a a':mc}{i:Nat}{ino:Int}
theorem mR.row{nd rd:Nat->Nat->U}(H:mR N nd rd)(i:Nat)(g:Nat->U):mR N (iE nd i g) (iE rd (i+1) g):=λi' c hi ae=>by
 by_cases e:i'=i
 ·rw[e,pv,pv]
 ·rw[oH _ _ _ (by omega),oH _ _ _ e];exact H i' c hi ae
theorem afG{nd:Nat->Nat->U}(H:∀i,i<N->ll (nd i))(i:Nat){g:Nat->U}(bc:ll g):∀i',i'<N->ll (iE nd i g i'):=λi' hi=>by
 by_cases e:i'=i
 ·subst e
  have:iE nd i' g i'=g:=funext λc=>pv ..
  rw[this];exact bc
 ·have:iE nd i g i'=nd i':=funext λc=>oH _ _ _ e
  rw[this];exact H i' hi
theorem afD:ll fJ:=⟨⟨0,rfl,by omega,by omega⟩,⟨0,rfl,by omega⟩,λc h1 _=>⟨0,if_neg (by omega)⟩⟩
theorem asi{v uid gid mo now:Int}:ll (mF v uid gid mo now):=by
 refine⟨⟨0,rfl,by omega,by omega⟩,⟨0,rfl,by omega⟩,λc h1 _=>?_⟩;unfold mF;rw[if_neg (by omega)];split
 ·exact⟨_,rfl⟩
 ·split
  ·exact⟨_,rfl⟩
  ·split
   ·exact⟨_,rfl⟩
   ·split
    ·exact⟨_,rfl⟩
    ·split
     ·exact⟨_,rfl⟩
     ·exact⟨_,rfl⟩
theorem dg.row{rd:Nat->Nat->U}{bl:Nat->Nat->Nat}(M:dg N rd bl){g:Nat->U}(bc:∀c,12<=c->c<308->g c=I 0)(h0:∀c,12<=c->c<308->bl i c=0):dg N (iE rd (i+1) g) bl:=λi' c cH dF ae=>by
 by_cases e:i'=i
 ·obtain⟨bM,cz⟩:=Kc dF ae;rw[e,pv,bc c dF ae,h0 _ bM cz];rfl
 ·rw[oH _ _ _ (by omega)];exact M i' c cH dF ae
theorem ar3{v uid gid mo now:Int}{c:Nat}(h:12<=c):mF v uid gid mo now c=I 0:=by
 unfold mF;rw[if_neg (by omega),if_neg (by omega),if_neg (by omega),if_neg (by omega),if_neg (by omega),if_neg (by omega)]
theorem aBs{C:ad}(P:Gy C)(Q:GX C)(r:Rel h T R n N a){mo uid gid:Int}(b4: -9223372036854775808<=mo)(cv:mo<9223372036854775808):
 ∃v e h1 h2 a',C (.fn 37) [.ptr T.a3 0,I mo,I uid,I gid] h=some (.ret (.bm [I v,I e]),h1)/\C (.fn 97) [.ptr R.rt 0,I mo,I uid,I gid] h1=some (.ret (.bm [I v,I e]),h2)/\mm h h1 h2 T R n N a a':=by
 obtain⟨bM,cz,fr⟩:=P h T n N a.s.wd a.s.b a.now a.us a.s.nd mo uid gid r.A;obtain⟨dT,fA,_⟩:=Q h R n N _ a.q a.b2 a.now a.us a.rd mo uid gid r.B b4 cv;by_cases ag:lU mo uid gid
 ·exact⟨0,22,h,h,a,bM ag,dT ag,r.refl⟩
 ·by_cases gd:∀j,j<N->a.us j=true
  ·exact⟨0,28,h,h,a,cz ag gd,fA ag gd,r.refl⟩
  ·obtain⟨i,hi,hu,wO⟩:∃i,i<N/\a.us i=false/\∀j,j<i->a.us j=true:=by
    cases aJ:pg N a.us with
    |none=>exact absurd (RN aJ) gd
    |some j=>exact⟨j,RO aJ⟩
   obtain⟨h1,aP,bX,cA,aL⟩:=fr ag i hi hu wO;have gu:aD h h1 (fC T):=aL.ei λ_ e=> .inr (.inr (.inr e))
   obtain⟨h2,a1,eY,ck,bw⟩:=(Q h1 R n N _ a.q a.b2 a.now a.us a.rd mo uid gid (r.bY gu) b4 cv).2.2 ag i hi hu wO;have aX:=r.jK.Z i hi hu;have aR:∀c,12<=c->c<308->mF ((i+1:Nat):Int) uid gid mo a.now c=I 0:=λc h1 _=>ar3 h1
   refine⟨_,0,h1,h2,⟨⟨a.s.wd,a.s.b,iE a.s.nd i (mF ((i+1:Nat):Int) uid gid mo a.now),a.s.bl⟩,a.now,da a.us i true,a.q,a.b2,iE a.rd (i+1) (mF ((i+1:Nat):Int) uid gid mo a.now)⟩,aP,a1,r.next gu (bw.ei λ_ e=> .inr (.inr (.inr (.inl e)))) bX (r.M.row aR aX) eY (r.gI.row aR aX) r.jq (r.lo.row i _) (afG r.gU i asi) ⟨r.jK.S,λi' cH hd=>?_,r.jK.O⟩ r.qd λ_ _ e=> .inl e⟩;by_cases e:i'=i
   ·rw[e];exact aX
   ·have hd:da a.us i true i'=false:=hd;rw[ho _ _ e] at hd;exact r.jK.Z i' cH hd
theorem ahD{zC jB e1 cw:Nat->Nat->U}{de:Nat->Nat}{eh Mh:Nat->Bool}{bl' Hz:Nat->Nat->Nat}{ds:Nat->Bool}{L H:Int}(r:Rel h T R n N a)(aL:aD h h1 (fC T))(bw:aD h1 h2 (hJ R a.q))(lo:mR N zC jB)(gU:∀i,i<N->ll (zC i))
 (bX:bt h1 T n N de a.s.b a.now eh e1)(ie:c3 n N de e1 bl')(G:An i L H a.s.wd de a.us eh zC e1 a.s.bl bl')(eY:bE h2 R n N ds a.q a.b2 a.now Mh cw)(M2:dg N cw Hz)(K:ya i L H (bP a.s.wd) ds a.us Mh jB cw a.s.bl Hz):
 ∃a',mm h h1 h2 T R n N a a':=by
 rcases G with⟨g1,rfl,rfl,rfl,rfl⟩|⟨g1,g2,rfl,rfl,rfl,g3⟩
 ·rcases K with⟨_,rfl,rfl,rfl,rfl⟩|⟨k1,k2,_⟩
  ·exact⟨⟨⟨a.s.wd,a.s.b,e1,a.s.bl⟩,a.now,a.us,a.q,a.b2,cw⟩,r.next aL bw bX ie eY M2 r.jq lo gU ⟨r.jK.S,r.jK.Z,r.jK.O⟩ r.qd λ_ _ e=> .inl e⟩
  ·exact absurd k1 (by omega)
 ·rcases K with⟨k1,_⟩|⟨_,_,rfl,hG,rfl,ow⟩
  ·exact absurd k1 (by omega)
  ·have OA:ds=bP de:=funext λj=>Bool.eq_iff_iff.2 ((ow j).trans (g3 j).symm)
   rw[OA] at eY
   have iz:mR N (iE zC i fJ) cw:=λi' c hi ae=>by
    rw[hG _ _ ae];exact lo.row i fJ i' c hi ae
   refine⟨⟨⟨de,a.s.b,iE zC i fJ,nu a.s.bl i⟩,a.now,da a.us i false,a.q,a.b2,cw⟩,r.next aL bw bX ie eY M2 (λp aB=>r.jq p ((g3 _).1 aB).1) iz (afG gU i afD) (aoK g3 r.jK) r.qd λ_ _ e=> .inl e⟩
theorem aBw{C:ad}(P:He C)(Q:G4 C)(r:Rel h T R n N a)(b4: -9223372036854775808<=ino)(cv:ino<9223372036854775808):
 ∃e h1 h2 a',C (.fn 61) [.ptr T.a3 0,I ino] h=some (.ret (I e),h1)/\C (.fn 100) [.ptr R.rt 0,I ino] h1=some (.ret (I e),h2)/\mm h h1 h2 T R n N a a':=by
 obtain⟨bM,cz⟩:=P h T n N a.s.wd a.s.b a.now a.us a.s.nd a.s.bl ino r.A r.M b4 cv;cases ag:c7 N a.us ino with
 |false=>exact⟨2,h,h,a,bM ag,(Q h R n N _ a.q a.b2 a.now a.us a.rd a.s.bl ino r.B r.gI r.M.nt).1 ag,r.refl⟩
 |true=>
  obtain⟨i,bT⟩:=tZ ag;obtain⟨H,iN⟩:=(r.gU i bT.1).i 11 (by omega) (by omega);obtain⟨L,hx,_⟩:=(r.gU i bT.1).l;have DQ:a.rd (i+1) 11=I H:=by rw[r.lo i 11 bT.1 (by omega)];exact iN
  have DR:a.rd (i+1) 2=I L:=by rw[r.lo i 2 bT.1 (by omega)];exact hx
  have aX:=(r.jK.S i bT.1).PU;obtain⟨fr,nI⟩:=cz i L H bT.1 bT.2.1 bT.2.2 hx iN;by_cases he:H=0
  ·exact⟨22,h,h,a,fr he,((Q h R n N _ a.q a.b2 a.now a.us a.rd a.s.bl ino r.B r.gI r.M.nt).2 i L H bT aX DR DQ).1 he,r.refl⟩
  ·obtain⟨h1,de,eh,e1,bl',aP,bX,ie,s4,aL⟩:=nI he;have gu:aD h h1 (fC T):=aL.ei λ_ e=>e.elim (λe=> .inr (.inl e)) λe=> .inr (.inr (.inr e))
   obtain⟨h2,ds,Mh,cw,Hz,a1,eY,M2,nm,bw⟩:=((Q h1 R n N _ a.q a.b2 a.now a.us a.rd a.s.bl ino (r.bY gu) r.gI r.M.nt).2 i L H bT aX DR DQ).2 he;obtain⟨a',st⟩:=ahD r gu (bw.ei λ_ e=>e.elim (λe=> .inr (.inl e)) λe=> .inr (.inr (.inr (.inl e)))) (r.lo.da i 11 _) (mG r.gU i (by omega) (by omega) _) bX ie s4 eY M2 nm;exact⟨0,h1,h2,a',aP,a1,st⟩
theorem aBv{C:ad}(P:GN C)(Q:G3 C)(r:Rel h T R n N a){by_:Int}(b4: -9223372036854775808<=ino)(cv:ino<9223372036854775808):
 ∃e h1 h2 a',C (.fn 59) [.ptr T.a3 0,I ino,I by_] h=some (.ret (I e),h1)/\C (.fn 98) [.ptr R.rt 0,I ino,I by_] h1=some (.ret (I e),h2)/\mm h h1 h2 T R n N a a':=by
 obtain⟨bM,cz⟩:=P h T n N a.s.wd a.s.b a.now a.us a.s.nd a.s.bl ino by_ r.A r.M b4 cv;cases ag:c7 N a.us ino with
 |false=>exact⟨2,h,h,a,bM ag,(Q h R n N _ a.q a.b2 a.now a.us a.rd a.s.bl ino by_ r.B r.gI r.M.nt).1 ag,r.refl⟩
 |true=>
  obtain⟨i,bT⟩:=tZ ag;obtain⟨H,iN⟩:=(r.gU i bT.1).i 11 (by omega) (by omega);obtain⟨L,hx,GM,lk⟩:=(r.gU i bT.1).l;have DQ:a.rd (i+1) 11=I H:=by rw[r.lo i 11 bT.1 (by omega)];exact iN
  have DR:a.rd (i+1) 2=I L:=by rw[r.lo i 2 bT.1 (by omega)];exact hx
  have aX:=(r.jK.S i bT.1).PU;obtain⟨fr,nI,zK⟩:=cz i L H bT.1 bT.2.1 bT.2.2 hx GM lk iN;obtain⟨nJ,B3,_⟩:=(Q h R n N _ a.q a.b2 a.now a.us a.rd a.s.bl ino by_ r.B r.gI r.M.nt).2 i L H bT aX DR GM lk DQ;by_cases he:by_ < -L
  ·exact⟨22,h,h,a,fr he,nJ he,r.refl⟩
  ·by_cases yT:16-L<by_
   ·exact⟨31,h,h,a,nI yT,B3 yT,r.refl⟩
   ·obtain⟨h1,de,eh,e1,bl',aP,bX,ie,s4,aL⟩:=zK (by omega) (by omega);have gu:aD h h1 (fC T):=aL.ei λ_ e=>e.elim (λe=> .inr (.inl e)) λe=> .inr (.inr (.inr e))
    obtain⟨h2,ds,Mh,cw,Hz,a1,eY,M2,nm,bw⟩:=((Q h1 R n N _ a.q a.b2 a.now a.us a.rd a.s.bl ino by_ (r.bY gu) r.gI r.M.nt).2 i L H bT aX DR GM lk DQ).2.2 (by omega) (by omega);obtain⟨a',st⟩:=ahD r gu (bw.ei λ_ e=>e.elim (λe=> .inr (.inl e)) λe=> .inr (.inr (.inr (.inl e)))) ((r.lo.da i 2 _).da i 10 _) (mG (asj r.gU i (v:=L+by_) (by omega) (by omega)) i (by omega) (by omega) _) bX ie s4 eY M2 nm;exact⟨0,h1,h2,a',aP,a1,st⟩
theorem afF{nd:Nat->Nat->U}(H:∀i,i<N->ll (nd i))(i:Nat){v:Nat}(h1:v<=17792)(now:Int):∀i',i'<N->ll (grown nd i v now i'):=
 mG (mG (asl H i h1) i (by omega) (by omega) now) i (by omega) (by omega) now
theorem mR.grown{nd rd:Nat->Nat->U}(H:mR N nd rd)(i v:Nat)(now:Int):mR N (Eva.grown nd i v now) (Eva.grown rd (i+1) v now):=((H.da i 5 _).da i 9 _).da i 10 _
theorem dg.grown{rd:Nat->Nat->U}{bl:Nat->Nat->Nat}(M:dg N rd bl)(i v:Nat)(now:Int):dg N (Eva.grown rd i v now) bl:=((M.off (by omega)).off (by omega)).off (by omega)
theorem iX.tail{on ds:Nat->Bool}{b b':Nat->Nat}(h:iX on b b')(aq:∀j,ds j=true->on j=true)(bl:Nat->Nat->Nat)(i sz:Nat):iX ds (l9 b bl i sz) (l9 b' bl i sz):=by
 have h':iX ds b b':=λp aB=>h p (aq _ aB)
 unfold l9;split
 ·exact h'.over _ _
 ·exact h'
theorem aaq{bl:Nat->Nat->Nat}{i k c:Nat}(h:gP bl i k c):12<=c:=by
 rcases h with⟨j,_,_,e⟩|⟨e,_⟩|⟨j,_,e,_⟩|⟨e,_⟩
 ·rw[e];exact rn
 ·omega
 ·omega
 ·omega
def Hl(C:ad):Prop:=∀h T n N wd b now us nd (ino sz:Int),bt h T n N wd b now us nd-> -9223372036854775808<=ino->ino<9223372036854775808->c7 N us ino=false->C (.fn 40) [.ptr T.a3 0,I ino,I sz] h=some (.ret (I 2),h)
theorem aBA{C:ad}(fu:Hl C)(P:Hm C)(Q:G9 C)(r:Rel h T R n N a){sz:Int}(b4: -9223372036854775808<=ino)(cv:ino<9223372036854775808)(hU: -9223372036854775808<=sz)(hH:sz<9223372036854775808):
 ∃e h1 h2 a',C (.fn 40) [.ptr T.a3 0,I ino,I sz] h=some (.ret (I e),h1)/\C (.fn 96) [.ptr R.rt 0,I ino,I sz] h1=some (.ret (I e),h2)/\mm h h1 h2 T R n N a a':=by
 cases ag:c7 N a.us ino with
 |false=>exact⟨2,h,h,a,fu h T n N a.s.wd a.s.b a.now a.us a.s.nd ino sz r.A b4 cv ag,(Q h R n N _ a.q a.b2 a.now a.us a.rd a.s.bl ino sz r.B r.gI r.M.nt hU hH).1 ag,r.refl⟩
 |true=>
  obtain⟨i,bT⟩:=tZ ag;have aX:=(r.jK.S i bT.1).PU;have yZ:=bT.2.2;subst yZ;obtain⟨bM,cz,fr⟩:=P h T n N a.now a.us a.s i sz r.A r.M bT.1 bT.2.1 hU hH;obtain⟨dT,fA,_⟩:=(Q h R n N _ a.q a.b2 a.now a.us a.rd a.s.bl _ sz r.B r.gI r.M.nt hU hH).2 i bT aX;by_cases he:sz<0
  ·exact⟨22,h,h,a,bM he,dT he,r.refl⟩
  ·by_cases yT:17792<sz
   ·exact⟨27,h,h,a,cz yT,fA yT,r.refl⟩
   ·obtain⟨h1,fs,aP,bX,ie,aL,xP⟩:=fr (by omega) (by omega);have gu:aD h h1 (fC T):=aL.ei λ_ e=> .inr e
    obtain⟨h2,ds,cw,a1,uR⟩:=((Q h1 R n N _ a.q a.b2 a.now a.us a.rd a.s.bl _ sz (r.bY gu) r.gI r.M.nt hU hH).2 i bT aX).2.2 (by omega) (by omega);have OA:ds=bP fs.wd:=funext λj=>Bool.eq_iff_iff.2 ((uR.O j).trans (xP.on j).symm)
    have eY:=uR.A;rw[OA] at eY
    have vW:aD h1 h2 (hJ R a.q):=uR.F.ei λ_ e=>by
     rcases e with e|e|e
     ·exact .inr (.inl e)
     ·exact .inr (.inr (.inr (.inl e)))
     ·exact .inr (.inr (.inr (.inr e)))
    have NF:=am6 xP bT.2.1 r.jK;have M2:=uR.M;rw[<- xP.bl] at M2 eY
    have iz:mR N fs.nd cw:=λi' c hi ae=>by
     rw[uR.L _ _ ae,r.lo i' c hi ae,xP.nd,HF λx=>by have:=aaq x.2;omega]
    have J4:∀i',i'<N->ll (fs.nd i'):=λi' hi=>by
     have e:∀c,c<12->fs.nd i' c=a.s.nd i' c:=λc ae=>by rw[xP.nd,HF λx=>by have:=aaq x.2;omega]
     obtain⟨l,z,k⟩:=r.gU i' hi;exact⟨by rw[e 2 (by omega)];exact l,by rw[e 5 (by omega)];exact z,λc k1 k2=>by rw[e c k2];exact k c k1 k2⟩
    refine⟨0,h1,h2,⟨⟨fs.wd,fs.b,Eva.grown fs.nd i sz.toNat a.now,fs.bl⟩,a.now,a.us,a.q,l9 a.b2 fs.bl i sz.toNat,Eva.grown cw (i+1) sz.toNat a.now⟩,aP,a1,r.next gu vW bX ie eY (M2.grown _ _ _) ?_ (iz.grown i _ _) (afF J4 i (by omega) _) ⟨NF.S,NF.Z,NF.O⟩ r.qd λ_ _ e=> .inl e⟩;show iX (bP fs.wd) fs.b (l9 a.b2 fs.bl i sz.toNat);rw[xP.b];exact r.jq.tail (λj aa=>((xP.on j).1 aa).1) _ _ _
end
section
variable{lf:Nat}{h h1 h2:J}{T:dS}{R:eE}{n N:Nat}{a a':mc}{i:Nat}{ino:Int}
def Hb(C:ad):Prop:=∀h R n N now us s q b2 rd (ino off:Int) x l,pN n N s->bE h R n N (bP s.wd) q b2 now us rd->dg N rd s.bl->iX (bP s.wd) s.b b2->Bytes h x l->l.length<=140737488351232->(∀j,rowOf x=some j->j<h.next/\¬sJ R n q j/\∀u,q u≠some j)->
 (c7 N us ino=false->C (.fn 94) [.ptr R.rt 0,I ino,I off,x] h=some (.ret (.bm [I 0,I 2]),h))/\
 (∀i (sz:Nat),iv N us ino i->rd (i+1) 5=I (sz:Int)->(off<0->C (.fn 94) [.ptr R.rt 0,I ino,I off,x] h=some (.ret (.bm [I 0,I 22]),h))/\
   (0<=off->l=[]->C (.fn 94) [.ptr R.rt 0,I ino,I off,x] h=some (.ret (.bm [I 0,I 0]),h))/\
   (l≠[]->17792<=off->C (.fn 94) [.ptr R.rt 0,I ino,I off,x] h=some (.ret (.bm [I 0,I 27]),h))/\
   (l≠[]->0<=off->off<17792->∃h',C (.fn 94) [.ptr R.rt 0,I ino,I off,x] h=some (.ret (.bm [I ((dU n i off.toNat l s).2:Int),I (if(dU n i off.toNat l s).2=0 then 28 else 0)]),h')/\
     Y0 h h' R n N now us i (dU n i off.toNat l s) sz off.toNat rd q))
def Hq(C:ad):Prop:=∀h T n N wd b now us nd (ino off:Int) x,bt h T n N wd b now us nd-> -9223372036854775808<=ino->ino<9223372036854775808->c7 N us ino=false->C (.fn 38) [.ptr T.a3 0,I ino,I off,x] h=some (.ret (.bm [I 0,I 2]),h)
def yc(C:ad):Prop:=∀h T n N wd b now us nd (ino off m:Int),bt h T n N wd b now us nd-> -9223372036854775808<=ino->ino<9223372036854775808->c7 N us ino=false->C (.fn 41) [.ptr T.a3 0,I ino,I off,I m] h=some (.ret (.bm [.val (.slice none 0 0),I 2]),h)
def vu(n:Nat)(q:Nat->Option Nat)(u:Nat):Option Nat:=if u<n then q u else none
theorem LJ{q:Nat->Option Nat}{u k:Nat}(h:vu n q u=some k):u<n/\q u=some k:=by
 unfold vu at h;by_cases e:u<n
 ·rw[if_pos e] at h;exact⟨e,h⟩
 ·rw[if_neg e] at h;cases h
theorem bE.Xr{on:Nat->Bool}{q:Nat->Option Nat}{b:Nat->Nat}{now:Int}{us:Nat->Bool}{rd:Nat->Nat->U}(A:bE h R n N on q b now us rd):bE h R n N on (vu n q) b now us rd:=by
 obtain⟨x0,x1,cG,aP,V⟩:=A.ref.v;have a2:∀i,i<n->vu n q i=q i:=λi hi=>if_pos hi
 refine⟨A.nU,A.gH,⟨⟨x0,x1,cG,aP,⟨V.cA,V.ck,V.av,V.az,V.uG,V.Cr,V.tq,λi hi e=>V.off i hi (by rw[<- a2 i hi];exact e),λi k hi e=>V.has i k hi (by rw[<- a2 i hi];exact e),λi j k hi aa e bd=>V.inj i j k hi aa (by rw[<- a2 i hi];exact e) (by rw[<- a2 j aa];exact bd),V.ne,V.ug,V.uf,V.blt⟩⟩,
  A.ref.wr,A.ref.uk,A.ref.qa,λi k hi e=>A.ref.rj i k hi (by rw[<- a2 i hi];exact e),A.ref.lt⟩,A.a1,A.cm,A.cb,A.wt,A.wl,A.j6,A.kN,A.d1,A.d2,A.d3,λi k hi e=>A.d4 i k hi (by rw[<- a2 i hi];exact e),A.hg,A.sY⟩
theorem aBB{C:ad}(Nf:Hq C)(P:Hj C)(Q:Hb C)(r:Rel h T R n N a){off:Int}{x1 x2:U}{l:List Nat}(b4: -9223372036854775808<=ino)(cv:ino<9223372036854775808)(dv: -9223372036854775808<=off)(cy:off<9223372036854775808)
 (ic:Bytes h x1 l)(yR:mQ x1)(p3:∀j,rowOf x1=some j->j<h.next/\¬fC T j)(kY:l.length<=140737488351232)(eY:Bytes h x2 l)(tW:∀j,rowOf x2=some j->j<h.next/\¬fC T j/\¬hJ R a.q j):
 ∃v e h1 h2 a',C (.fn 38) [.ptr T.a3 0,I ino,I off,x1] h=some (.ret (.bm [I v,I e]),h1)/\C (.fn 94) [.ptr R.rt 0,I ino,I off,x2] h1=some (.ret (.bm [I v,I e]),h2)/\mm h h1 h2 T R n N a a':=by
 have q0:∀h':J,h.next<=h'.next->∀j,rowOf x2=some j->j<h'.next/\¬sJ R n a.q j/\∀u,a.q u≠some j:=λh' aR j aa=>
  ⟨Nat.lt_of_lt_of_le (tW j aa).1 aR,λe=>(tW j aa).2.2 (Xy e),λu e=>(tW j aa).2.2 (.inr (.inr (.inr (.inr ⟨u,e⟩))))⟩
 cases ag:c7 N a.us ino with
 |false=>exact⟨0,2,h,h,a,Nf h T n N a.s.wd a.s.b a.now a.us a.s.nd ino off x1 r.A b4 cv ag,(Q h R n N a.now a.us a.s a.q a.b2 a.rd ino off x2 l r.Aa r.B r.gI r.jq eY kY (q0 h (Nat.le_refl _))).1 ag,r.refl⟩
 |true=>
  obtain⟨i,bT⟩:=tZ ag;have hi:=bT.1;obtain⟨sz,dP,so⟩:=(r.gU i hi).z;have zi:a.rd (i+1) 5=I (sz:Int):=by rw[r.lo i 5 hi (by omega)];exact dP
  have yZ:=bT.2.2;subst yZ
  have ji:CU T x1:=λj aa=>by
   have:=(p3 j aa).2
   exact⟨λe=>this (.inl e),λe=>this (.inr (.inl e)),λe=>this (.inr (.inr (.inl e))),λe=>this (.inr (.inr (.inr e)))⟩
  obtain⟨bM,cz,fr,nI⟩:=P h T n N a.now a.us a.s i off x1 l sz r.A r.M r.jt r.O hi bT.2.1 dP so ic yR ji (λj aa=>(p3 j aa).1) kY dv cy;obtain⟨dT,fA,nJ,_⟩:=(Q h R n N a.now a.us a.s a.q a.b2 a.rd _ off x2 l r.Aa r.B r.gI r.jq eY kY (q0 h (Nat.le_refl _))).2 i sz bT zi;by_cases az:off<0
  ·exact⟨0,22,h,h,a,bM az,dT az,r.refl⟩
  ·by_cases ay:l=[]
   ·exact⟨0,0,h,h,a,cz (by omega) ay,fA (by omega) ay,r.refl⟩
   ·by_cases b9:17792<=off
    ·exact⟨0,27,h,h,a,fr ay b9,nJ ay b9,r.refl⟩
    ·obtain⟨h1,aL,_,vP,uK⟩:=nI ay (by omega) (by omega);have gu:aD h h1 (fC T):=aL.ei λ_ e=> .inr e
     have MO:Bytes h1 x2 l:=eY.frame λbB ob len cap lo e=>gu.same bB (tW bB (by rw[e];rfl)).1 (tW bB (by rw[e];rfl)).2.1
     obtain⟨h2,a1,cw,eV,n0,qt,M2,nm,YU,a2,bw⟩:=((Q h1 R n N a.now a.us a.s a.q a.b2 a.rd _ off x2 l r.Aa (r.bY gu) r.gI r.jq MO kY (q0 h1 aL.next)).2 i sz bT zi).2.2.2 ay (by omega) (by omega);have vW:aD h1 h2 (hJ R a.q):=bw.ei λ_ e=> .inr e
     obtain⟨o,rfl⟩:∃o:Nat,off=o:=⟨off.toNat,by omega⟩;rw[Int.toNat_natCast] at *
     have fR:o+(ez o l).length<=17792:=by
      have:(ez o l).length<=17792-o:=by simp[ez];omega
      omega
     have Jx:∀i' c,i'<N->c<12->(dU n i o l a.s).1.nd i' c=a.s.nd i' c:=λi' c cH ae=>
      (Gm (n:=n) (N:=N) (i:=i) (off:=o) (l:=ez o l) fR (i':=i') (c:=c) hi ae (ez o l).length 0 a.s (by omega) r.Aa).1
     have aqJ:(dU n i o l a.s).2<=(ez o l).length:=(Gm (n:=n) (N:=N) (i:=i) (off:=o) (l:=ez o l) fR (i':=i) (c:=0) hi (by omega) (ez o l).length 0 a.s (by omega) r.Aa).2.2.1;have Jl:rS N a.us (dU n i o l a.s).1:=ajs fR hi bT.2.1 (ez o l).length 0 a.s (by omega) r.Aa r.jK;generalize dU n i o l a.s=w at *;have iz:mR N w.1.nd cw:=λi' c cH ae=>by rw[YU _ _ ae,Jx i' c cH ae];exact r.lo i' c cH ae
     have J4:∀i',i'<N->ll (w.1.nd i'):=λi' cH=>by
      obtain⟨l,z,k⟩:=r.gU i' cH;exact⟨by rw[Jx i' 2 cH (by omega)];exact l,by rw[Jx i' 5 cH (by omega)];exact z,λc k1 k2=>by rw[Jx i' c cH k2];exact k c k1 k2⟩
     have nD:∀u k,vu n eV u=some k->a.q u=some k\/h.next<=k:=λu k e=>(a2 u k (LJ e).2).imp id λx=>Nat.le_trans aL.next x
     have wY:∀u k,vu n eV u=some k->u<n:=λu k e=>(LJ e).1
     by_cases aX:w.2=0
     ·obtain⟨aP,bX,ie⟩:=vP aX;rw[if_pos aX] at a1 qt;have av:((w.2:Nat):Int)=0:=by omega
      rw[av] at a1;exact⟨0,28,h1,h2,⟨w.1,a.now,a.us,vu n eV,n0,cw⟩,aP,a1,r.next gu vW bX ie qt.Xr M2 nm iz J4 Jl wY nD⟩
     ·obtain⟨aP,bX,ie⟩:=uK aX;rw[if_neg aX] at a1 qt
      exact⟨_,0,h1,h2,⟨⟨w.1.wd,w.1.b,grown w.1.nd i (max sz (o+w.2)) a.now,w.1.bl⟩,a.now,a.us,vu n eV,n0,grown cw (i+1) (max sz (o+w.2)) a.now⟩,aP,a1,
       r.next gu vW bX ie qt.Xr (M2.grown _ _ _) nm (iz.grown i _ _) (afF J4 i (by omega) _) ⟨Jl.S,Jl.Z,Jl.O⟩ wY nD⟩
def Nz(h:J)(x:U)(m:Nat):Prop:=(x= .val (.slice none 0 0)/\m=0)\/∃k off cap lo M,x= .aF k off m cap lo/\h.wr k M/\off+m<=M
theorem Rel.byte(r:Rel h T R n N a)(hi:i<N){p:Nat}(aB:p<17792):pR a.s.bl a.b2 i p=oT a.s i p:=by
 have ai:p/64<278:=by omega
 unfold pR oT;by_cases e:a.s.bl i (a5 (p/64))=0
 ·rw[if_pos e,if_pos e]
 ·rw[if_neg e,if_neg e];refine(r.jq _ ?_).symm;rw[show((a.s.bl i (a5 (p/64))-1)*64+p%64)/64=a.s.bl i (a5 (p/64))-1 by omega];exact r.M.on i _ hi rn (sI ai) (by omega)
theorem Rel.cont(r:Rel h T R n N a)(hi:i<N){off m:Nat}(hm:off+m<=17792):n3 a.s.bl a.b2 i off m=qA a.s i off m:=by
 unfold n3 qA;refine List.map_congr_left λj aa=>r.byte hi ?_
 have:=List.mem_range.1 aa
 omega
theorem ahF{C:ad}(Nf:yc C)(P:yf C)(Q:yb C)(r:Rel h T R n N a){off m:Int}(b4: -9223372036854775808<=ino)(cv:ino<9223372036854775808)(dv: -9223372036854775808<=off)(cy:off<9223372036854775808)(hU: -9223372036854775808<=m)(hH:m<9223372036854775808):
 ∃x1 x2 l e h1 h2,C (.fn 41) [.ptr T.a3 0,I ino,I off,I m] h=some (.ret (.bm [x1,I e]),h1)/\C (.fn 88) [.ptr R.rt 0,I ino,I off,I m] h1=some (.ret (.bm [x2,I e]),h2)/\
  Bytes h2 x1 l/\Bytes h2 x2 l/\l.length<=17792/\Nz h2 x1 l.length/\(∀j,rowOf x1=some j->h.next<=j)/\(c7 N a.us ino=true->0<=off->0<=m->e=0)/\aD h h1 (λ_=>False)/\aD h1 h2 (λ_=>False):=by
 have zc:∀h:J,Bytes h (.val (.slice none 0 0)) []:=λh=>⟨λc ae=>(by cases ae),.inl ⟨.inl rfl,rfl⟩⟩
 cases ag:c7 N a.us ino with
 |false=>exact⟨_,_,[],2,h,h,Nf h T n N a.s.wd a.s.b a.now a.us a.s.nd ino off m r.A b4 cv ag,(Q h R n N _ a.q a.b2 a.now a.us a.rd a.s.bl ino off m r.B r.gI r.M.nt cy hH).1 ag,zc _,zc _,by simp,.inl ⟨rfl,rfl⟩,λj aa=>(by cases aa),λe=>(by cases e),aD.refl _ _,aD.refl _ _⟩
 |true=>
  obtain⟨i,bT⟩:=tZ ag;have hi:=bT.1;obtain⟨sz,dP,so⟩:=(r.gU i hi).z;have zi:a.rd (i+1) 5=I (sz:Int):=by rw[r.lo i 5 hi (by omega)];exact dP
  have yZ:=bT.2.2;subst yZ;obtain⟨bM,cz,fr⟩:=P h T n N a.now a.us a.s i off m sz r.A r.M hi bT.2.1 dP so dv cy hU hH;by_cases az:off<0\/m<0
  ·exact⟨_,_,[],22,h,h,bM az,((Q h R n N _ a.q a.b2 a.now a.us a.rd a.s.bl _ off m r.B r.gI r.M.nt cy hH).2 i sz bT zi so).1 az,zc _,zc _,by simp,.inl ⟨rfl,rfl⟩,λj aa=>(by cases aa),λ_ _ _=>by omega,aD.refl _ _,aD.refl _ _⟩
  ·by_cases ay:(sz:Int)<=off
   ·obtain⟨x2,h2,a1,eY,bw⟩:=((Q h R n N _ a.q a.b2 a.now a.us a.rd a.s.bl _ off m r.B r.gI r.M.nt cy hH).2 i sz bT zi so).2 (by omega) (by omega);have av:min m.toNat (sz-off.toNat)=0:=by omega
    rw[av] at eY;exact⟨_,x2,[],0,h,h2,cz (by omega) (by omega) ay,a1,zc _,eY.bytes,by simp,.inl ⟨rfl,rfl⟩,λj aa=>(by cases aa),λ_ _ _=>rfl,aD.refl _ _,bw⟩
   ·obtain⟨h1,aP,aL,cA,cP,ic⟩:=fr (by omega) (by omega) (by omega);have gu:aD h h1 (fC T):=aL.ei λ_ e=>e.elim
    obtain⟨x2,h2,a1,eY,bw⟩:=((Q h1 R n N _ a.q a.b2 a.now a.us a.rd a.s.bl _ off m (r.bY gu) r.gI r.M.nt cy hH).2 i sz bT zi so).2 (by omega) (by omega);rw[r.cont hi (by omega)] at eY;have ak:=bw.same h.next cA (λe=>e)
    refine⟨_,x2,_,0,h1,h2,aP,a1,ic.frame λbB ob len cap lo e=>?_,eY.bytes,by simp[qA];omega,.inr ⟨h.next,0,some (min m.toNat (sz-off.toNat)),0,min m.toNat (sz-off.toNat),?_,eP cP ak,?_⟩,λj aa=>?_,λ_ _ _=>rfl,aL,bw⟩
    ·cases e;exact ak
    ·rw[show(qA a.s i off.toNat (min m.toNat (sz-off.toNat))).length=min m.toNat (sz-off.toNat) by simp[qA]]
    ·simp[qA]
    ·cases aa;exact Nat.le_refl _
theorem asH(f:Nat->Nat)(W:Nat->Bool):(kJ f W).length<=296:=by
 unfold kJ;rw[List.length_map]
 have:=List.length_filter_le W (List.range' 12 296)
 rwa[List.length_range'] at this
theorem eQ.nil(h:J):eQ h h (.val (.slice none 0 0)) []:=⟨ha.nil _ _ _,λj aa=>(by cases aa)⟩
theorem ahE{C:ad}(P:ye C)(Q:v5 C)(r:Rel h T R n N a)(b4: -9223372036854775808<=ino)(cv:ino<9223372036854775808):
 ∃x1 x2 l e h1 h2,C (.fn 51) [.ptr T.a3 0,I ino] h=some (.ret (.bm [x1,I e]),h1)/\C (.fn 87) [.ptr R.rt 0,I ino] h1=some (.ret (.bm [x2,I e]),h2)/\
  eQ h h1 x1 l/\eQ h1 h2 x2 l/\(∀i,iv N a.us ino i->l=lK a.s.bl i/\e=0)/\l.length<=4096/\aD h h1 (λ_=>False)/\aD h1 h2 (λ_=>False):=by
 obtain⟨bM,cz⟩:=P h T n N a.s.wd a.s.b a.now a.us a.s.nd a.s.bl ino r.A r.M b4 cv;cases ag:c7 N a.us ino with
 |false=>exact⟨_,_,[],2,h,h,bM ag,(Q h R n N _ a.q a.b2 a.now a.us a.rd a.s.bl ino r.B r.gI r.M.nt).1 ag,eQ.nil _,eQ.nil _,λi bT=>absurd (ag.symm.trans bT.yes) (by decide),by simp,aD.refl _ _,aD.refl _ _⟩
 |true=>
  obtain⟨i,bT⟩:=tZ ag;obtain⟨x1,h1,aP,qu,aL⟩:=cz i bT.1 bT.2.1 bT.2.2;have gu:aD h h1 (fC T):=aL.ei λ_ e=>e.elim
  obtain⟨x2,h2,a1,s5,bw⟩:=(Q h1 R n N _ a.q a.b2 a.now a.us a.rd a.s.bl ino (r.bY gu) r.gI r.M.nt).2 i bT (r.jK.S i bT.1);refine⟨x1,x2,_,0,h1,h2,aP,a1,qu,s5,λi' ao6=>⟨?_,rfl⟩,?_,aL,bw⟩
  rotate_left
  ·rw[afW];exact Nat.le_trans (asH _ _) (by omega)
  have:i'=i:=by have:=ao6.2.2;have:=bT.2.2;omega
  rw[this]
theorem bE.XN{on:Nat->Bool}{q:Nat->Option Nat}{b:Nat->Nat}{now:Int}{us:Nat->Bool}{rd:Nat->Nat->U}(A:bE h R n N on q b now us rd)(at_:Int):bE (h.set R.rt 3 [I at_]) R n N on q b at_ us rd:=by
 have F:aD h (h.set R.rt 3 [I at_]) (· =R.rt):=fj rfl;have aF:ct h (h.set R.rt 3 [I at_]) R.bs:=F.same _ A.hg A.d1;obtain⟨x0,x1,cG,aP,V⟩:=A.ref.v
 refine⟨A.nU,A.gH,⟨⟨x0,x1,by rw[ep (.inr (by simp))];exact cG,by rw[ep (.inr (by simp))];exact aP,V.frame (Nat.le_of_eq (dz ..).symm) λj aa=>F.same j (V.iq aa) λe=>?_⟩,⟨5,by omega,dY A.wt⟩,A.ref.uk,A.ref.qa,A.ref.rj,by rw[dz];exact A.ref.lt⟩,
  by rw[ep (.inr (by simp))];exact A.a1,by rw[fZ A.wt (by simp) (Nat.le_refl _) (by simp)];rfl,let ⟨cap,lo,e⟩:=A.cb;⟨cap,lo,by rw[ep (.inr (by simp))];exact e⟩,dY A.wt,eP A.wl aF,λi c hi ae=>by rw[aF.cell];exact A.j6 i c hi ae,A.kN,A.d1,A.d2,A.d3,A.d4,by rw[dz];exact A.hg,A.sY⟩
 rcases aa with ay|ay|⟨u,hu,ay⟩
 ·exact A.ref.uk (e.symm.trans ay)
 ·exact A.ref.qa (e.symm.trans ay)
 ·exact A.ref.rj u j hu ay e
end
noncomputable section
variable{C:ad}{lf:Nat}{ba a0 eA fz jU k3 q4 q5 q6 q7 q8 q9 q1 q2 q3:hp}{an:lj}
noncomputable def ab7:b1 ao:=⟨82,Tryd.f82,λr=>bif Nat.beq r 16 then .ord [0,1,3,7,8,10,2,4,9,11,5,6,12,13,14] [(6,[11,9]),(5,[11,9])] else .text,Tryd.func82,by kernel_rfl,by kernel_rfl,by kernel_rfl,by kernel_rfl⟩
noncomputable def PA(aG:O)(h:J):ab:=
 ob aG λa=>some (.ret a,h)
def Wk(C:ad)(lf:Nat)(r:aw)(x0 x1 x2:O)(h:J):ab:=
 ob x2 λa=>b2 (pB 92 a h) λa k=>eK 0 a k λb=>cn .rem 5 b (.int .u8 4) λb=>eH .eql 5 b (.int .u8 0) (eK 5 a k λb=>cJ C 69 [b] k λb k=>cy b λb c=>ob x0 λd=>eK 1 a k λg=>eK 2 a k λi=>cJ C 38 [d,g,i,c] k λd k=>cy d λd g=>ob x1 λi=>eK 1 a k λj=>eK 2 a k λm=>eK 5 a k λo=>cJ C 94 [i,j,m,o] k λi k=>cy i λi j=>eK 5 a k λa=>cJ C 71 [b,a] k λa k=>cJ C 95 [c] k λb k=>cn .eql 3 d i λb=>b3 b (some g) k λc k=>dL (cT true (some b) (cJ C 34 [c] k λa k=>some (.ret a,k)) k) λc k=>b3 b (some j) k λd k=>b3 b (bin ao .eql 3 c d) k λc k=>hA b c λb=>b3 b (some a) k λa k=>hA b a λa=>r (some a) k) (eH .eql 5 b (.int .u8 1) (ob x0 λb=>eK 1 a k λc=>eK 2 a k λd=>eK 3 a k λg=>cJ C 41 [b,c,d,g] k λb k=>cy b λb c=>ob x1 λd=>eK 1 a k λg=>eK 2 a k λi=>eK 3 a k λa=>cJ C 88 [d,g,i,a] k λa k=>cy a λa d=>cJ C 43 [b,a] k λa k=>b3 a (some c) k λc k=>dL (cT true (some a) (cJ C 34 [c] k λa k=>some (.ret a,k)) k) λc k=>b3 a (some d) k λd k=>b3 a (bin ao .eql 3 c d) k λc k=>hA a c λa=>cJ C 95 [b] k λb=>r (some a)) (eH .eql 5 b (.int .u8 2) (ob x0 λb=>ob (bZ 1 a) λc=>ob (bZ 2 a) λd=>ob x1 λg=>ob (bZ 1 a) λi=>ob (bZ 2 a) λa=>ob (bO c k) λj=>ob (bO d k) λm=>ob (bO i k) λo=>ob (bO a k) λp=>cM (C (.fn 40) [b,j,m] k) λb l=>dM (ey [(11,bU (some a)),(9,bU (some i)),(4,bU (some d)),(2,bU (some c))] k l [11,9]) (cM (C (.fn 34) [b] l) λb k=>dM (ey [(11,bU (some a)),(9,bU (some i)),(4,bU (some d)),(2,bU (some c))] l k [11,9]) (cM (C (.fn 96) [g,o,p] k) λa k=>cn .eql 3 b a λa=>r (some a) k))) (ob x0 λb=>eK 1 a k λc=>cJ C 51 [b,c] k λb k=>cy b λb c=>ob x1 λd=>eK 1 a k λa=>cJ C 87 [d,a] k λa k=>cy a λa d=>cJ C 31 [b,a] k λa k=>b3 a (some c) k λb k=>dL (cT true (some a) (cJ C 34 [b] k λa k=>some (.ret a,k)) k) λb k=>b3 a (some d) k λc k=>b3 a (bin ao .eql 3 b c) k λb k=>hA a b λa=>r (some a) k)))
theorem ayN{r:aw}:∀F h,ar ab7 C lf [] F h ba (aM r 6) an=bG (Wk C lf r) 0 1 2 F h:=by
 intro F h;kernel_rfl
def IZ(C:ad)(lf:Nat)(ah aj aC:U)(h:J):ab:=Wk C lf PA (some ah) (some aj) (some aC) h
def ada:cx ao:=nX ab7 IZ (λC lf ah aj aC h=>cS (K:=(aM PA 6)) (by kernel_rfl) (Eq.trans (ayN _ h) (by kernel_rfl))) (by kernel_rfl)
noncomputable def ab8:b1 ao:=⟨83,Tryd.f83,λr=>bif Nat.beq r 7 then .ord [0,1,3,7,8,10,2,4,9,11,5,6,12,13,14] [(6,[11,9]),(5,[11,9])] else bif Nat.beq r 9 then .ord [0,1,5,6,2,7,3,4,8,9,10] [(4,[7]),(3,[7])] else bif Nat.beq r 11 then .ord [0,1,5,6,2,7,3,4,8,9,10] [(4,[7]),(3,[7])] else bif Nat.beq r 13 then .ord [0,1,3,7,8,10,2,4,9,11,5,6,12,13,14] [(6,[11,9]),(5,[11,9])] else bif Nat.beq r 15 then .ord [0,1,3,5,9,10,12,14,2,4,6,11,13,15,7,8,16,17,18] [(8,[15,13,11]),(7,[15,13,11])] else bif Nat.beq r 17 then .ord [0,1,3,5,9,10,12,14,2,4,6,11,13,15,7,8,16,17,18] [(8,[15,13,11]),(7,[15,13,11])] else bif Nat.beq r 20 then .ord [0,2,3,1,4,5] [(1,[3])] else .text,Tryd.func83,by kernel_rfl,by kernel_rfl,by kernel_rfl,by kernel_rfl⟩
noncomputable def PB(aG:O)(h:J):ab:=
 ob aG λa=>some (.ret a,h)
def Wl(C:ad)(lf:Nat)(r:aw)(x0 x1 x2:O)(h:J):ab:=
 ob x2 λa=>b2 (pB 92 a h) λa k=>eK 0 a k λb=>cn .rem 5 b (.int .u8 8) λb=>eH .eql 5 b (.int .u8 0) (ob x0 λb=>eK 4 a k λc=>eK 2 a k λd=>eK 3 a k λg=>cJ C 37 [b,c,d,g] k λb k=>cy b λb c=>ob x1 λd=>eK 4 a k λg=>eK 2 a k λi=>eK 3 a k λa=>cJ C 97 [d,g,i,a] k λa k=>cy a λa d=>cn .eql 3 b a λa=>b3 a (some c) k λb k=>dL (cT true (some a) (cJ C 34 [b] k λa k=>some (.ret a,k)) k) λb k=>b3 a (some d) k λc k=>b3 a (bin ao .eql 3 b c) k λb k=>hA a b λa=>r (some a) k) (eH .eql 5 b (.int .u8 1) (ob x0 λb=>ob (bZ 1 a) λc=>ob (bZ 2 a) λd=>ob x1 λg=>ob (bZ 1 a) λi=>ob (bZ 2 a) λa=>ob (bO c k) λj=>ob (bO d k) λm=>ob (bO i k) λo=>ob (bO a k) λp=>cM (C (.fn 59) [b,j,m] k) λb l=>dM (ey [(11,bU (some a)),(9,bU (some i)),(4,bU (some d)),(2,bU (some c))] k l [11,9]) (cM (C (.fn 34) [b] l) λb k=>dM (ey [(11,bU (some a)),(9,bU (some i)),(4,bU (some d)),(2,bU (some c))] l k [11,9]) (cM (C (.fn 98) [g,o,p] k) λa k=>cn .eql 3 b a λa=>r (some a) k))) (eH .eql 5 b (.int .u8 2) (ob x0 λb=>ob (bZ 1 a) λc=>ob x1 λd=>ob (bZ 1 a) λa=>ob (bO c k) λg=>ob (bO a k) λi=>cM (C (.fn 60) [b,g] k) λb l=>dM (ey [(7,bU (some a)),(2,bU (some c))] k l [7]) (cM (C (.fn 34) [b] l) λb k=>dM (ey [(7,bU (some a)),(2,bU (some c))] l k [7]) (cM (C (.fn 99) [d,i] k) λa k=>cn .eql 3 b a λa=>r (some a) k))) (eH .eql 5 b (.int .u8 3) (ob x0 λb=>ob (bZ 1 a) λc=>ob x1 λd=>ob (bZ 1 a) λa=>ob (bO c k) λg=>ob (bO a k) λi=>cM (C (.fn 61) [b,g] k) λb l=>dM (ey [(7,bU (some a)),(2,bU (some c))] k l [7]) (cM (C (.fn 34) [b] l) λb k=>dM (ey [(7,bU (some a)),(2,bU (some c))] l k [7]) (cM (C (.fn 100) [d,i] k) λa k=>cn .eql 3 b a λa=>r (some a) k))) (eH .eql 5 b (.int .u8 4) (ob x0 λb=>ob (bZ 1 a) λc=>ob (bZ 4 a) λd=>ob x1 λg=>ob (bZ 1 a) λi=>ob (bZ 4 a) λa=>ob (bO c k) λj=>ob (bO d k) λm=>ob (bO i k) λo=>ob (bO a k) λp=>cM (C (.fn 56) [b,j,m] k) λb l=>dM (ey [(11,bU (some a)),(9,bU (some i)),(4,bU (some d)),(2,bU (some c))] k l [11,9]) (cM (C (.fn 34) [b] l) λb k=>dM (ey [(11,bU (some a)),(9,bU (some i)),(4,bU (some d)),(2,bU (some c))] l k [11,9]) (cM (C (.fn 101) [g,o,p] k) λa k=>cn .eql 3 b a λa=>r (some a) k))) (eH .eql 5 b (.int .u8 5) (ob x0 λb=>ob (bZ 1 a) λc=>ob (bZ 2 a) λd=>ob (bZ 3 a) λg=>ob x1 λi=>ob (bZ 1 a) λj=>ob (bZ 2 a) λm=>ob (bZ 3 a) λa=>ob (bO c k) λo=>ob (bO d k) λp=>ob (bO g k) λq=>ob (bO j k) λt=>ob (bO m k) λu=>ob (bO a k) λv=>cM (C (.fn 57) [b,o,p,q] k) λb l=>dM (ey [(15,bU (some a)),(13,bU (some m)),(11,bU (some j)),(6,bU (some g)),(4,bU (some d)),(2,bU (some c))] k l [15,13,11]) (cM (C (.fn 34) [b] l) λb k=>dM (ey [(15,bU (some a)),(13,bU (some m)),(11,bU (some j)),(6,bU (some g)),(4,bU (some d)),(2,bU (some c))] l k [15,13,11]) (cM (C (.fn 102) [i,t,u,v] k) λa k=>cn .eql 3 b a λa=>r (some a) k))) (eH .eql 5 b (.int .u8 6) (ob x0 λb=>ob (bZ 1 a) λc=>ob (bZ 6 a) λd=>ob (bZ 7 a) λg=>ob x1 λi=>ob (bZ 1 a) λj=>ob (bZ 6 a) λm=>ob (bZ 7 a) λa=>ob (bO c k) λo=>ob (bO d k) λp=>ob (bO g k) λq=>ob (bO j k) λt=>ob (bO m k) λu=>ob (bO a k) λv=>cM (C (.fn 58) [b,o,p,q] k) λb l=>dM (ey [(15,bU (some a)),(13,bU (some m)),(11,bU (some j)),(6,bU (some g)),(4,bU (some d)),(2,bU (some c))] k l [15,13,11]) (cM (C (.fn 34) [b] l) λb k=>dM (ey [(15,bU (some a)),(13,bU (some m)),(11,bU (some j)),(6,bU (some g)),(4,bU (some d)),(2,bU (some c))] l k [15,13,11]) (cM (C (.fn 103) [i,t,u,v] k) λa k=>cn .eql 3 b a λa=>r (some a) k))) (ob x0 λb=>eK 6 a k λc=>cJ C 55 [b,c] k λb k=>ob x1 λb=>eK 6 a k λc=>vq 3 b c k λk=>ob x0 λb=>ob (bZ 6 a) λa=>ob (bO a k) λc=>cM (C (.fn 46) [b] k) λb l=>dM (ey [(3,bU (some a))] k l [3]) (cn .eql 2 b c λa=>r (some a) l))))))))
theorem ayO{r:aw}:∀F h,ar ab8 C lf [] F h ba (aM r 6) an=bG (Wl C lf r) 0 1 2 F h:=by
 intro F h;kernel_rfl
def I0(C:ad)(lf:Nat)(ah aj aC:U)(h:J):ab:=Wl C lf PB (some ah) (some aj) (some aC) h
def adb:cx ao:=nX ab8 I0 (λC lf ah aj aC h=>cS (K:=(aM PB 6)) (by kernel_rfl) (Eq.trans (ayO _ h) (by kernel_rfl))) (by kernel_rfl)
def abK:b1 ao:=dk 50 Tryd.f50 Tryd.func50 (by kernel_rfl)
noncomputable def Pd(aG:O)(h:J):ab:=
 ob aG λa=>some (.ret a,h)
def UN(C:ad)(lf:Nat)(r:aw)(x0 x1 x2:O)(h:J):ab:=
 ob x2 λa=>b2 (pB 92 a h) λa k=>eK 0 a k λb=>eH .lss 5 b (.int .u8 128) (ob x0 λb=>ob x1 λc=>ob (eB 8 a k) λa=>cJ C 82 [b,c,a] k λa=>r (some a)) (ob x0 λb=>ob x1 λc=>ob (eB 8 a k) λa=>cJ C 83 [b,c,a] k λa=>r (some a))
theorem awT{r:aw}:∀F h,ar abK C lf [] F h ba (aM r 6) an=bG (UN C lf r) 0 1 2 F h:=by
 intro F h;kernel_rfl
def IE(C:ad)(lf:Nat)(ah aj aC:U)(h:J):ab:=UN C lf Pd (some ah) (some aj) (some aC) h
def acO:cx ao:=nX abK IE (λC lf ah aj aC h=>cS (K:=(aM Pd 6)) (by kernel_rfl) (Eq.trans (awT _ h) (by kernel_rfl))) (by kernel_rfl)
noncomputable def hR:b1 ao:=⟨52,Tryd.f52,λr=>bif Nat.beq r 1 then .ord [0,1,2,3,4,5,7,6,8,9,10,11,12,13,15,14,16,17,18,19,20,21,23,24,25,26,22,27,28] [(22,[26])] else .text,Tryd.func52,by kernel_rfl,by kernel_rfl,by kernel_rfl,by kernel_rfl⟩
noncomputable def Dg(bC:O)(h:J):ab:=
 ob bC λa=>some (.ret a,h)
def K5(C:ad)(lf:Nat)(r:aw)(x0 x1:O)(h:J):ab:=
 ob x0 λa=>cJ C 62 [a,I 0] h λa k=>ob (ib .not a) λa=>b3 a x0 k λb k=>dL (cT true (some a) (cJ C 62 [b,I (-1)] k λa k=>some (.ret a,k)) k) λb k=>b3 a (ib .not b) k λb k=>hA a b λa=>b3 a x0 k λb k=>b3 a x1 k λc k=>b3 a (ev c) k λc k=>b3 a (bZ 2 c) k λc k=>jf .add 3 a (bO c k) (I 1) k λc k=>dL (cT true (some a) (cJ C 62 [b,c] k λa k=>some (.ret a,k)) k) λb k=>b3 a (ib .not b) k λb k=>hA a b λa=>r (some a) k
theorem axj{r:aw}:∀F h,ar hR C lf [1,1,1] F h ba (aM r 4) an=a7 (K5 C lf r) 0 1 F h:=by
 intro F h;kernel_rfl
def K6(C:ad)(lf:Nat)(n:cC)(x0 x1 x50 x51 x52:O)(h:J):ab:=
 cB .add 3 x52 (I 1) λa=>n x0 x1 x50 x51 (some a) h
theorem axk{n:cC}:∀F h,ar hR C lf [1,1,0,1,0,0,1,1,1] F h (cR n 0 1 50 51 52) a0 (bI 0 eA an)=cR (K6 C lf n) 0 1 50 51 52 F h:=by
 intro F h;kernel_rfl
def U5(C:ad)(lf:Nat)(n:cC)(r:aw)(x0 x1 aG x9 vG x50 x51 x52:O)(h:J):ab:=
 ob x0 λa=>ob aG λb=>ob x9 λc=>eK 4 c h λc=>zH .sub 3 c vG λc=>ob vG λd=>cJ C 41 [a,b,c,d] h λa k=>cy a λa b=>ob x1 λc=>ob aG λd=>ob x9 λg=>eK 4 g k λg=>zH .sub 3 g vG λg=>ob vG λi=>cJ C 88 [c,d,g,i] k λc k=>cy c λc d=>cJ C 43 [a,c] k λa k=>ob (ib .not a) λa=>dI a (some b) k λb k=>dL (cT false (some a) (cJ C 34 [b] k λa k=>some (.ret a,k)) k) λb k=>dI a (bin ao .neq 3 b (I 0)) k λb k=>mN a b (r (some (.bool false)) k) (n x0 x1 x50 x51 x52 k)
def agH(C:ad)(lf:Nat)(n:rQ)(x0 x1 aG x9 vG x50 x51 x52:O)(h:J):ab:=
 hC .gtr 3 vG (I 4000) (n x0 x1 aG x9 (bD 4000) x50 x51 x52 h) (n x0 x1 aG x9 vG x50 x51 x52 h)
def agI(C:ad)(lf:Nat)(n:cC)(r:aw)(x0 x1 aG x9 vG x50 x51 x52:O)(h:J):ab:=
 agH C lf (U5 C lf n r) x0 x1 aG x9 vG x50 x51 x52 h
def agJ(C:ad)(lf:Nat)(n:rQ)(x0 x1 aG x9 x50 x51 x52:O)(h:J):ab:=
 ob x9 λa=>eK 4 a h λa=>n x0 x1 aG x9 (some a) x50 x51 x52 h
def U6(C:ad)(lf:Nat)(n:cC)(r:aw)(x0 x1 aG x9 x50 x51 x52:O)(h:J):ab:=
 agJ C lf (agI C lf n r) x0 x1 aG x9 x50 x51 x52 h
theorem axl{n:cC}{r:aw}:∀F h,ar hR C lf [1,1,0,1,0,0,1,1,0,0,1,1,1,1,1,1] F h (cR n 0 1 50 51 52) (aM r 4) (bI 1 fz (bI 0 eA an))=ln (U6 C lf n r) 0 1 6 9 50 51 52 F h:=by
 intro F h;kernel_rfl
def UP(C:ad)(lf:Nat)(n:hY)(r:aw)(x0 x1 aG x7 x8 x9 x11 x12 ew x50 x51 x52:O)(h:J):ab:=
 ob x7 λa=>ob (eB 10 a h) λa=>ob x9 λb=>ob (eB 10 b h) λb=>cn .neq 78 a b λa=>dI a x8 h λb k=>dL (cT false (some a) (cJ C 34 [b] k λa k=>some (.ret a,k)) k) λb k=>dI a (bin ao .neq 3 b (I 0)) k λb k=>mI a b λa=>dI a x12 k λb k=>dL (cT false (some a) (cJ C 34 [b] k λa k=>some (.ret a,k)) k) λb k=>dI a (bin ao .neq 3 b (I 0)) k λb k=>mI a b λa=>dI a x11 k λb k=>dI a ew k λc k=>dL (cT false (some a) (cJ C 31 [b,c] k λa k=>some (.ret a,k)) k) λb k=>dI a (ib .not b) k λb k=>mI a b λa=>dI a x0 k λb k=>dI a aG k λc k=>dL (cT false (some a) (cJ C 62 [b,c] k λa k=>some (.ret a,k)) k) λb k=>dI a (ib .not b) k λb k=>mN a b (r (some (.bool false)) k) (n x0 x1 aG x9 x50 x51 x52 k)
theorem awV{n:hY}{r:aw}:∀F h,ar hR C lf [1,1,0,1,0,0,1,1,0,0,1,1,1,1,1,0] F h (ln n 0 1 6 9 50 51 52) (aM r 4) (bI 1 fz (bI 0 eA an))=Nw (UP C lf n r) 0 1 6 7 8 9 11 12 13 50 51 52 F h:=by
 intro F h;kernel_rfl
def UQ(C:ad)(lf:Nat)(n:cC)(r:aw)(x0 x1 aG x7 x8 x9 x11 x12 ew x50 x51 x52:O)(h:J):ab:=
 UP C lf (U6 C lf n r) r x0 x1 aG x7 x8 x9 x11 x12 ew x50 x51 x52 h
theorem awW{n:cC}{r:aw}:∀F h,ar hR C lf [1,1,0,1,0,0,1,1,0,0,1,1,1,1,1] F h (cR n 0 1 50 51 52) (aM r 4) (bI 1 fz (bI 0 eA an))=Nw (UQ C lf n r) 0 1 6 7 8 9 11 12 13 50 51 52 F h:=bg (by kernel_rfl) axl awV
def UR(C:ad)(lf:Nat)(n:M3)(x0 x1 aG x7 x8 x9 x11 x12 x50 x51 x52:O)(h:J):ab:=
 a1 C 87 x1 aG h λa k=>cy a λa b=>n x0 x1 aG x7 x8 x9 x11 x12 (some a) x50 x51 x52 k
theorem awX{n:M3}:∀F h,ar hR C lf [1,1,0,1,0,0,1,1,0,0,1,1,1,1,0] F h (Nw n 0 1 6 7 8 9 11 12 13 50 51 52) a0 (bI 1 fz (bI 0 eA an))=Nv (UR C lf n) 0 1 6 7 8 9 11 12 50 51 52 F h:=by
 intro F h;kernel_rfl
def US(C:ad)(lf:Nat)(n:cC)(r:aw)(x0 x1 aG x7 x8 x9 x11 x12 x50 x51 x52:O)(h:J):ab:=
 UR C lf (UQ C lf n r) x0 x1 aG x7 x8 x9 x11 x12 x50 x51 x52 h
theorem awY{n:cC}{r:aw}:∀F h,ar hR C lf [1,1,0,1,0,0,1,1,0,0,1,1,1,1] F h (cR n 0 1 50 51 52) (aM r 4) (bI 1 fz (bI 0 eA an))=Nv (US C lf n r) 0 1 6 7 8 9 11 12 50 51 52 F h:=bg (by kernel_rfl) awW awX
def UT(C:ad)(lf:Nat)(n:GK)(x0 x1 aG x7 x8 x9 x50 x51 x52:O)(h:J):ab:=
 a1 C 51 x0 aG h λa k=>cy a λa b=>n x0 x1 aG x7 x8 x9 (some a) (some b) x50 x51 x52 k
theorem awZ{n:GK}:∀F h,ar hR C lf [1,1,0,1,0,0,1,1,0,0,1,1,1,0] F h (Nv n 0 1 6 7 8 9 11 12 50 51 52) a0 (bI 1 fz (bI 0 eA an))=Nx (UT C lf n) 0 1 6 7 8 9 50 51 52 F h:=by
 intro F h;kernel_rfl
def UU(C:ad)(lf:Nat)(n:cC)(r:aw)(x0 x1 aG x7 x8 x9 x50 x51 x52:O)(h:J):ab:=
 UT C lf (US C lf n r) x0 x1 aG x7 x8 x9 x50 x51 x52 h
theorem aw0{n:cC}{r:aw}:∀F h,ar hR C lf [1,1,0,1,0,0,1,1,0,0,1,1,1] F h (cR n 0 1 50 51 52) (aM r 4) (bI 1 fz (bI 0 eA an))=Nx (UU C lf n r) 0 1 6 7 8 9 50 51 52 F h:=bg (by kernel_rfl) awY awZ
def UW(C:ad)(lf:Nat)(n:GL)(x0 x1 aG x7 x8 x50 x51 x52:O)(h:J):ab:=
 a1 C 86 x1 aG h λa k=>cy a λa b=>b2 (j0 ao 78 k) λb k=>ob (st 10 b a k) (n x0 x1 aG x7 x8 (some b) x50 x51 x52)
theorem aw1{n:GL}:∀F h,ar hR C lf [1,1,0,1,0,0,1,1,0,0,1,1,0] F h (Nx n 0 1 6 7 8 9 50 51 52) a0 (bI 1 fz (bI 0 eA an))=Ax (UW C lf n) 0 1 6 7 8 50 51 52 F h:=by
 intro F h;kernel_rfl
def UX(C:ad)(lf:Nat)(n:cC)(r:aw)(x0 x1 aG x7 x8 x50 x51 x52:O)(h:J):ab:=
 UW C lf (UU C lf n r) x0 x1 aG x7 x8 x50 x51 x52 h
theorem aw2{n:cC}{r:aw}:∀F h,ar hR C lf [1,1,0,1,0,0,1,1,0,0,1,1] F h (cR n 0 1 50 51 52) (aM r 4) (bI 1 fz (bI 0 eA an))=Ax (UX C lf n r) 0 1 6 7 8 50 51 52 F h:=bg (by kernel_rfl) aw0 aw1
def UY(C:ad)(lf:Nat)(n:rQ)(x0 x1 aG x50 x51 x52:O)(h:J):ab:=
 a1 C 42 x0 aG h λa k=>cy a λa b=>b2 (j0 ao 78 k) λc k=>ob (st 10 c a k) (n x0 x1 aG (some c) (some b) x50 x51 x52)
theorem aw3{n:rQ}:∀F h,ar hR C lf [1,1,0,1,0,0,1,1,0,0,1,0] F h (Ax n 0 1 6 7 8 50 51 52) a0 (bI 1 fz (bI 0 eA an))=dD (UY C lf n) 0 1 6 50 51 52 F h:=by
 intro F h;kernel_rfl
def KZ(C:ad)(lf:Nat)(n:cC)(r:aw)(x0 x1 aG x50 x51 x52:O)(h:J):ab:=
 UY C lf (UX C lf n r) x0 x1 aG x50 x51 x52 h
theorem aw4{n:cC}{r:aw}:∀F h,ar hR C lf [1,1,0,1,0,0,1,1,0,0,1] F h (cR n 0 1 50 51 52) (aM r 4) (bI 1 fz (bI 0 eA an))=dD (KZ C lf n r) 0 1 6 50 51 52 F h:=bg (by kernel_rfl) aw2 aw3
def UZ(C:ad)(lf:Nat)(n:dp)(x0 x1 x50 x51 x52:O)(h:J):ab:=
 ob x50 λa=>sG 1 a x52 h λa=>n x0 x1 (some a) x50 x51 x52 h
theorem aw5{n:dp}:∀F h,ar hR C lf [1,1,0,1,0,0,1,1,0,0,0] F h (dD n 0 1 6 50 51 52) a0 (bI 1 fz (bI 0 eA an))=cR (UZ C lf n) 0 1 50 51 52 F h:=by
 intro F h;kernel_rfl
def U0(C:ad)(lf:Nat)(n:cC)(r:aw)(x0 x1 x50 x51 x52:O)(h:J):ab:=
 UZ C lf (KZ C lf n r) x0 x1 x50 x51 x52 h
theorem aw6{n:cC}{r:aw}:∀F h,ar hR C lf [1,1,0,1,0,0,1,1,0,0] F h (cR n 0 1 50 51 52) (aM r 4) (bI 1 fz (bI 0 eA an))=cR (U0 C lf n r) 0 1 50 51 52 F h:=bg (by kernel_rfl) aw4 aw5
def U1(C:ad)(lf:Nat)(n:cC)(r:aw)(x0 x1 x50 x51 x52:O)(h:J):ab:=
 U0 C lf (K6 C lf n) r x0 x1 x50 x51 x52 h
theorem aw7{n:cC}{r:aw}:∀F h,ar hR C lf [1,1,0,1,0,0,1,1] F h (cR n 0 1 50 51 52) (aM r 4) (bI 0 eA an)=cR (U1 C lf n r) 0 1 50 51 52 F h:=bg (a:=b7 hR [1,1,0,1,0,0,1,1,0]) (by kernel_rfl) axk (fY (id:=1) (by kernel_rfl) aw6)
noncomputable def K0(C:ad)(lf:Nat)(n:cC)(av:aS)(x0 x1 x50 x51 x52 sT:O)(h:J):ab:=
 ob sT λa=>gn a (n x0 x1 x50 x51 x52 h) (av x0 x1 h)
theorem aw8{n:cC}{av:aS}:∀F h,ar hR C lf [1,1,0,1,0,0,1,0] F h (cR n 0 1 50 51 52) a0 (bI 0 (a7 av 0 1) an)=dD (K0 C lf n av) 0 1 50 51 52 53 F h:=by
 intro F h;kernel_rfl
def K1(C:ad)(lf:Nat)(n:cC)(r:aw)(av:aS)(x0 x1 x50 x51 x52 sT:O)(h:J):ab:=
 K0 C lf (U1 C lf n r) av x0 x1 x50 x51 x52 sT h
theorem aw9{n:cC}{r:aw}{av:aS}:∀F h,ar hR C lf [1,1,0,1,0,0,1] F h (cR n 0 1 50 51 52) (aM r 4) (bI 0 (a7 av 0 1) an)=dD (K1 C lf n r av) 0 1 50 51 52 53 F h:=bg (by kernel_rfl) aw7 aw8
def K2(C:ad)(lf:Nat)(n:dp)(x0 x1 x50 x51 x52:O)(h:J):ab:=
 oC .lss 3 x52 x51 λa=>n x0 x1 x50 x51 x52 (some a) h
theorem axa{n:dp}:∀F h,ar hR C lf [1,1,0,1,0,0,0] F h (dD n 0 1 50 51 52 53) a0 (bI 0 eA an)=cR (K2 C lf n) 0 1 50 51 52 F h:=by
 intro F h;kernel_rfl
def Fv(C:ad)(lf:Nat)(n:cC)(r:aw)(av:aS)(x0 x1 x50 x51 x52:O)(h:J):ab:=
 K2 C lf (K1 C lf n r av) x0 x1 x50 x51 x52 h
theorem axb{n:cC}{r:aw}{av:aS}:∀F h,ar hR C lf [1,1,0,1,0,0] F h (cR n 0 1 50 51 52) (aM r 4) (bI 0 (a7 av 0 1) an)=cR (Fv C lf n r av) 0 1 50 51 52 F h:=bg (by kernel_rfl) aw9 axa
def w3(C:ad)(lf:Nat)(r:aw)(av:aS)(k:O×O×O×O×O->J->ab)(s:O×O×O×O×O)(h:J):ab:=
 Fv C lf (λa b c d g=>k (a,b,c,d,g)) r av s.1 s.2.1 s.2.2.1 s.2.2.2.1 s.2.2.2.2 h
def U2(C:ad)(lf:Nat)(n:cC)(x0 x1:O)(h:J):ab:=
 aP C 84 x1 h λa k=>jX 33 a λb=>n x0 x1 (some a) (some b) (bD 0) k
theorem axc{n:cC}:∀F h,ar hR C lf [1,1,0,0] F h (cR n 0 1 50 51 52) a0 an=a7 (U2 C lf n) 0 1 F h:=by
 intro F h;kernel_rfl
def U3(C:ad)(lf:Nat)(n:aS)(r:aw)(x0 x1:O)(h:J):ab:=
 U2 C lf (λa b c d g=>bk (w3 C lf r n) lf (a,b,c,d,g)) x0 x1 h
theorem axd{n:aS}{r:aw}:∀F h,ar hR C lf [1,1,0] F h (a7 n 0 1) (aM r 4) an=a7 (U3 C lf n r) 0 1 F h:=bg (b:=b7 hR [1,1,0,1]) (by kernel_rfl) (fY (id:=0) (a:=b7 hR [1,1,0,1,0]) (by kernel_rfl) (gJ (g:=λF=>(F 0,F 1,F 50,F 51,F 52)) (body:=w3 C lf r n) (by kernel_rfl) (λk=>(axb (n:=λx0 x1 x50 x51 x52 h=>k (x0,x1,x50,x51,x52) h))))) (axc (n:=λx0 x1 x50 x51 x52 h=>bk (w3 C lf r n) lf (x0,x1,x50,x51,x52) h))
def K3(C:ad)(lf:Nat)(r:aw)(x0 x1:O)(h:J):ab:=
 U3 C lf (K5 C lf r) r x0 x1 h
theorem axe{r:aw}:∀F h,ar hR C lf [1,1] F h ba (aM r 4) an=a7 (K3 C lf r) 0 1 F h:=bg (by kernel_rfl) axj axd
def K4(C:ad)(lf:Nat)(n:aS)(r:aw)(x0 x1:O)(h:J):ab:=
 ob x0 λa=>ob x1 λb=>cM (C (.fn 45) [a,b] h) λa k=>ob (ib .not a) λa=>cM (cT false (some a) (ob x0 λa=>some (.ret a,k)) k) λb k=>cM (cT false (some a) (ob x1 λa=>some (.ret a,k)) k) λc k=>cM (cT false (some a) (cM (C (.fn 47) [b] k) λa k=>some (.ret a,k)) k) λb k=>cM (cT false (some a) (cM (C (.fn 84) [c] k) λa k=>some (.ret a,k)) k) λc k=>cM (cT false (some a) (cM (C (.fn 31) [b,c] k) λa k=>some (.ret a,k)) k) λb k=>cM (cT false (some a) (ob (ib .not b) λa=>some (.ret a,k)) k) λb k=>mI a b λa=>cM (cT false (some a) (ob x0 λa=>some (.ret a,k)) k) λb k=>cM (cT false (some a) (ob x1 λa=>some (.ret a,k)) k) λc k=>cM (cT false (some a) (cM (C (.fn 48) [b] k) λa k=>some (.ret a,k)) k) λb k=>cM (cT false (some a) (cM (C (.fn 85) [c] k) λa k=>some (.ret a,k)) k) λc k=>cM (cT false (some a) (cM (C (.fn 31) [b,c] k) λa k=>some (.ret a,k)) k) λb k=>cM (cT false (some a) (ob (ib .not b) λa=>some (.ret a,k)) k) λb k=>mI a b λa=>cM (cT false (some a) (ob x0 λa=>some (.ret a,k)) k) λb k=>cM (cT false (some a) (ob x1 λa=>some (.ret a,k)) k) λc k=>cM (cT false (some a) (ob (ev c) λa=>some (.ret a,k)) k) λc k=>cM (cT false (some a) (ob (bZ 3 c) λa=>some (.ret a,k)) k) λc k=>cM (cT false (some a) (ob (bO c k) λa=>some (.ret a,k)) k) λd k=>cM (cT false (some a) (cM (C (.fn 46) [b] k) λa k=>some (.ret a,k)) k) λb l=>dM (ey [(26,Qg false (some a) (bU (some c)))] k l [26]) (cM (cT false (some a) (cn .neq 2 b d λa=>some (.ret a,l)) l) λb k=>mN a b (r (some (.bool false)) k) (n x0 x1 k))
theorem axf{n:aS}{r:aw}:∀F h,ar hR C lf [1,0] F h (a7 n 0 1) (aM r 4) an=a7 (K4 C lf n r) 0 1 F h:=by
 intro F h;kernel_rfl
def agF(C:ad)(lf:Nat)(r:aw)(x0 x1:O)(h:J):ab:=
 K4 C lf (K3 C lf r) r x0 x1 h
theorem axg{r:aw}:∀F h,ar hR C lf [1] F h ba (aM r 4) an=a7 (agF C lf r) 0 1 F h:=bg (by kernel_rfl) axe axf
noncomputable def agG(C:ad)(lf:Nat)(n:aS)(x0 x1:O)(h:J):ab:=
 n x0 x1 h
theorem axh{n:aS}:∀F h,ar hR C lf [0] F h (a7 n 0 1) a0 an=a7 (agG C lf n) 0 1 F h:=by
 intro F h;kernel_rfl
def U4(C:ad)(lf:Nat)(r:aw)(x0 x1:O)(h:J):ab:=
 agG C lf (agF C lf r) x0 x1 h
theorem axi{r:aw}:∀F h,ar hR C lf [] F h ba (aM r 4) an=a7 (U4 C lf r) 0 1 F h:=bg (by kernel_rfl) axg axh
def IF(C:ad)(lf:Nat)(ah aj:U)(h:J):ab:=U4 C lf Dg (some ah) (some aj) h
def acQ:cx ao:=hr hR IF (λC lf ah aj h=>cS (K:=(aM Dg 4)) (by kernel_rfl) (Eq.trans (axi _ h) (by kernel_rfl))) (by kernel_rfl)
def abJ:b1 ao:=dk 49 Tryd.f49 Tryd.func49 (by kernel_rfl)
noncomputable def Pc(bC eD:O)(h:J):ab:=
 ob bC λa=>ob eD λb=>some (.ret (.bm [a,b]),h)
def UM(C:ad)(lf:Nat)(r:aS)(x0 x1:O)(h:J):ab:=
 cB .gtr 3 x0 (I 1048576) λa=>jg .gtr 3 a x1 (I 1048576) h λb k=>mN a b (r (some (.val (.pointer none))) (some (.val (.pointer none))) k) (a1 C 44 x0 x1 k λa k=>cy a λa b=>eH .neq 3 b (I 0) (r (some (.val (.pointer none))) (some (.val (.pointer none))) k) (a1 C 36 x0 x1 k λb k=>cy b λb c=>cJ C 34 [c] k λc k=>eH .neq 3 c (I 0) (r (some (.val (.pointer none))) (some a) k) (r (some b) (some a) k)))
theorem awS{r:aS}:∀F h,ar abJ C lf [] F h ba (a7 r 4 5) an=a7 (UM C lf r) 0 1 F h:=by
 intro F h;kernel_rfl
def Du(C:ad)(lf:Nat)(ah aj:U)(h:J):ab:=UM C lf Pc (some ah) (some aj) h
def acN:cx ao:=hr abJ Du (λC lf ah aj h=>cS (K:=(a7 Pc 4 5)) (by kernel_rfl) (Eq.trans (awS _ h) (by kernel_rfl))) (by kernel_rfl)
end
section
variable{lf:Nat}{h:J}{T:dS}{n N:Nat}{wd b:Nat->Nat}{now:Int}{us:Nat->Bool}{nd:Nat->Nat->U}{ino:Int}
theorem aEy{C:ad}(fu:mh C){sz:Int}(A:bt h T n N wd b now us nd)(b4: -9223372036854775808<=ino)(cv:ino<9223372036854775808)(ag:c7 N us ino=false):
 tA C lf (.ptr T.a3 0) (I ino) (I sz) h=some (.ret (I 2),h):=by
 have bc:=tE fu A b4 cv ag;have d2:decide ((2:Int)≠0)=true:=rfl
 have pre:tA C lf (.ptr T.a3 0) (I ino) (I sz) h=xj C lf (λx0 x2 x7 h=>B5 C lf n6 x0 x2 x7 h) n6 (some (.ptr T.a3 0)) (some (I sz)) (some (.val (.pointer none))) (some (I 2)) h:=by
  unfold tA KP KO KN KM;simp only[cf,b8,ks,bc,qC,List.getElem?_cons_zero,List.getElem?_cons_succ];rfl
 rw[pre];unfold xj n6;simp only[aA,d2]
theorem aE5{C:ad}(fu:mh C){off:Int}{x:U}(A:bt h T n N wd b now us nd)(b4: -9223372036854775808<=ino)(cv:ino<9223372036854775808)(ag:c7 N us ino=false):
 sa C lf (.ptr T.a3 0) (I ino) (I off) x h=some (.ret (.bm [I 0,I 2]),h):=by
 have bc:=tE fu A b4 cv ag;have d2:decide ((2:Int)≠0)=true:=rfl;unfold sa KL KK KJ KI;simp only[cf,b8,ks,bc,qC,List.getElem?_cons_zero,List.getElem?_cons_succ];unfold KH KG qF;simp only[aA,d2]
theorem aBl{C:ad}(fu:mh C){off m:Int}(A:bt h T n N wd b now us nd)(b4: -9223372036854775808<=ino)(cv:ino<9223372036854775808)(ag:c7 N us ino=false):
 u3 C lf (.ptr T.a3 0) (I ino) (I off) (I m) h=some (.ret (.bm [.val (.slice none 0 0),I 2]),h):=by
 have bc:=tE fu A b4 cv ag;have d2:decide ((2:Int)≠0)=true:=rfl;unfold u3 KY KX KW KV;simp only[cf,b8,ks,bc,qC,List.getElem?_cons_zero,List.getElem?_cons_succ];unfold KU KT tx;simp only[aA,d2]
def NA(C:ad):Prop:=∀h x m,Nz h x m->m<=140737488351232->∃h',C (.fn 95) [x] h=some (.ret (.bm []),h')/\h'.next=h.next/\aD h h' (λj=>rowOf x=some j)
theorem ait{C:ad}{k off m M:Nat}{cap:Option Nat}{lo:Nat}(hm:m<=140737488351232)(kU:off+m<=M)(av:cu):∀(d t:Nat),t+d=m->∀f,d<f->∀h:J,h.wr k M->
 ∃h',bk (zt C lf av) f (some (.aF k off m cap lo),some (I (m:Int)),some (I (t:Int))) h=av h'/\h'.next=h.next/\aD h h' (· =k)
 |0,t,aN,f,au,h,w=>by
  obtain⟨f,rfl⟩:=dx f (by omega);have a9:decide ((t:Int)<(m:Int))=false:=br (by omega);refine⟨h,?_,rfl,aD.refl _ _⟩;rw[df];unfold zt Ca;simp only[aA,a9]
 |d+1,t,aN,f,au,h,w=>by
  obtain⟨f,rfl⟩:=dx f (by omega);have a9:decide ((t:Int)<(m:Int))=true:=bu (by omega);have dr:IntKind.i64.wrap ((t:Int)+1)=((t+1:Nat):Int):=cD (by omega);have bW:=gA (s:=1) (k:=k) (off:=off) (len:=m) (lo:=lo) (cap:=cap) (kd:= .i64) (i:=(t:Int)) (by omega) (by omega);rw[Int.toNat_natCast,Nat.mul_one] at bW;have dc:=gN (n:=1) (off:=off+t) (y:= .int .u8 99) w rfl (by omega) rfl;have ae:(U.int .u8 99).cells=[.int .u8 99]:=rfl;rw[ae] at dc;obtain⟨h2,ay,ck,bw⟩:=ait (C:=C) (cap:=cap) (lo:=lo) hm kU av d (t+1) (by omega) f (by omega) (h.set k (off+t) [.int .u8 99]) (dY w);refine⟨h2,?_,ck.trans (dz ..),(fj (S:=(· =k)) rfl).trans bw⟩;rw[df];show Ca C lf (λx0 bC eD h=>bk (zt C lf av) f (x0,bC,eD) h) av _ _ _ h=_;unfold Ca;simp only[aA,a9,bW,dc,dr];exact ay
theorem aCY{C:ad}{x:U}{m:Nat}(gy:140737488351233<=lf)(S:Nz h x m)(hm:m<=140737488351232):∃h',I7 C lf x h=some (.ret (.bm []),h')/\h'.next=h.next/\aD h h' (λj=>rowOf x=some j):=by
 unfold I7 W8 W7;rcases S with⟨rfl,rfl⟩|⟨k,off,cap,lo,M,rfl,w,kU⟩
 ·have aJ:eG ao 24 (.val (.slice none 0 0))=some (I 0):=by simp[eG,Tryd.underlying24,fP]
  refine⟨h,?_,rfl,aD.refl _ _⟩;obtain⟨f,rfl⟩:∃g,lf=g+1:=⟨lf-1,by omega⟩;have a9:decide ((0:Int)<0)=false:=rfl;simp only[cf,b8,aJ];rw[df];unfold zt Ca Dj;simp only[aA,a9]
 ·have aJ:=ue (k:=k) (off:=off) (len:=m) (cap:=cap) (lo:=lo) Tryd.underlying24;obtain⟨h',az,cA,aL⟩:=ait (C:=C) (lf:=lf) (cap:=cap) (lo:=lo) hm kU Dj m 0 (by omega) lf (by omega) h w;refine⟨h',?_,cA,aL.ei λj e=>by rw[e];rfl⟩;simp only[cf,b8,aJ];refine Eq.trans az ?_;unfold Dj;rfl
end
structure Hp (h0 h:J) (T:dS) (x:U) (l:List Nat):Prop where
 b:Bytes h x l
 c:mQ x
 w:x= .val (.slice none 0 0)\/∃k cap,x= .aF k 0 l.length cap 0/\(∃N,h.wr k N/\l.length<=N)
 n:∀j,rowOf x=some j->h0.next<=j/\j<h.next
 t:CU T x
section
variable{h:J}{y:U}{l:List Nat}{d:Nat}
end
structure Y5 (h0 h:J) (T:dS) (s:dC) (want:List Nat) (x:U):Prop where
 A:bt h T 1000 1 s.wd s.b 0 aEL s.nd
 M:c3 1000 1 s.wd s.nd s.bl
 O:Au 1 s
 sz:s.nd 0 5=I (want.length:Int)
 le:want.length<=17792
 one:∀c,c<12->(s.nd 0 c).one=true
 C1:∀p,p<17792->oT s 0 p=want.getD p 0
 W:Hp h0 h T x want
 jt:hE h
 aGh:nV h T
 t0:h0.next<=T.a3/\h0.next<=T.bL/\h0.next<=T.kd/\h0.next<=T.aK
 F:aD h0 h (λ_=>False)
 g:mw<h0.next
theorem Y5.Aa{h0 h:J}{T:dS}{s:dC}{want:List Nat}{x:U}(A:Y5 h0 h T s want x):pN 1000 1 s:=⟨A.M,A.A.st.iF⟩
theorem Hp.gQ{h0 h h':J}{T:dS}{x:U}{l:List Nat}(W:Hp h0 h T x l){Q:Nat->Prop}(F:aD h h' Q)(a2:∀j,rowOf x=some j->¬Q j):Hp h0 h' T x l:=by
 have ak:∀j,rowOf x=some j->ct h h' j:=λj aa=>F.same j (W.n j aa).2 (a2 j aa)
 refine⟨W.b.frame λbB ob len cap lo e=>ak bB (by rw[e];rfl),W.c,?_,λj aa=>⟨(W.n j aa).1,Nat.lt_of_lt_of_le (W.n j aa).2 F.next⟩,W.t⟩;rcases W.w with e|⟨k,cap,rfl,N,h1,h2⟩
 ·exact .inl e
 ·exact .inr ⟨k,cap,rfl,N,eP h1 (ak k rfl),h2⟩
section
variable{lf:Nat}{h h0:J}{T:dS}{s:dC}{want:List Nat}{x:U}{aE9 aFa aFb:O}
end
section
variable{lf:Nat}{h h0:J}{T:dS}{s:dC}{want:List Nat}{x:U}{aE9 aFa aFb:O}
end
structure Av where
 at_:Int
 kM:U
 l:List Nat
 cut:Bool
def Av.cells(a:Av):List U:=[I a.at_,a.kM,.bool a.cut]
structure Av.np (h:J) (a:Av):Prop where
 aj: -9223372036854775808<=a.at_
 aC:a.at_<9223372036854775808
 b:Bytes h a.kM a.l
 c:mQ a.kM
 l:a.l.length<=140737488351232
 z:∀j,rowOf a.kM=some j->j<h.next
def YX(h:J)(x:U)(L:List Av):Prop:=(GF x/\L=[])\/∃h9 l3 cap lo m,x= .aF h9 l3 L.length cap lo/\h.mt h9=some m/\h9<h.next/\
 ∀t (aN:t<L.length),(∀c,c<3->h.cell h9 (l3+t*3+c)=L[t].cells[c]?)/\L[t].np h
theorem YX.len{h:J}{x:U}{L:List Av}(A:YX h x L):eG ao 72 x=some (I (L.length:Int)):=by
 rcases A with⟨rfl|⟨_,rfl⟩,rfl⟩|⟨h9,l3,cap,lo,m,rfl,_⟩
 ·simp[eG,Tryd.underlying72,fP]
 ·simp[eG,Tryd.underlying72,fP]
 ·exact ue Tryd.underlying72
section
variable{lf:Nat}{h h0:J}{T:dS}{s:dC}{want:List Nat}{x:U}
def Az(C:ad):Prop:=∀h x y l dJ,Bytes h x l->Bytes h y dJ->C (.fn 43) [x,y] h=some (.ret (.bool (decide (l=dJ))),h)
theorem aCE{C:ad}{x y:U}{l dJ:List Nat}(B:Bytes h x l)(lQ:Bytes h y dJ):Iz C lf x y h=some (.ret (.bool (decide (l=dJ))),h):=by
 have az:=ME (P:=ao) (s:=24) (d:=9) Tryd.underlying24 Tryd.underlying9 (by kernel_rfl) B;have ay:=ME (P:=ao) (s:=24) (d:=9) Tryd.underlying24 Tryd.underlying9 (by kernel_rfl) lQ
 have b9:decide (vB l=vB dJ)=decide (l=dJ):=by
  have:=aEF B.1 lQ.1
  by_cases e:l=dJ
  ·simp[e]
  ·simp[e,this]
 unfold Iz UF O7;simp only[cf,b8,ns,az,ay,ZI,b9]
end
structure hq where
 k:Nat
 ino:Int
 x:Int
 y:Int
 mo:Int
 kM:U
 at_:Int
 N3:Int
 l:List Nat
def hq.cells(o:hq):List U:=[.int .u8 (o.k:Int),I o.ino,I o.x,I o.y,I o.mo,o.kM,I o.at_,I o.N3]
def vY(v:Int):Prop:= -9223372036854775808<=v/\v<9223372036854775808
structure hq.np (h:J) (o:hq):Prop where
 k:o.k<256
 ino:vY o.ino
 x:vY o.x
 y:vY o.y
 mo:vY o.mo
 t:Bytes h o.kM o.l
 Ck:o.l.length<=140737488351232
 jD:∀j,rowOf o.kM=some j->j<h.next
structure s7 (h:J) (K:Nat) (o:hq):Prop where
 cG:h.cell K 0=some (.int .u8 (o.k:Int))
 aP:h.cell K 1=some (I o.ino)
 a1:h.cell K 2=some (I o.x)
 cm:h.cell K 3=some (I o.y)
 cb:h.cell K 4=some (I o.mo)
 n1:h.cell K 5=some o.kM
 lq:h.cell K 6=some (I o.at_)
 r2:h.cell K 7=some (I o.N3)
 mt:∃m,h.mt K=some m
 lt:K<h.next
section
variable{h h1 h2 h':J}{T:dS}{R:eE}{n N:Nat}{a a':mc}{o:hq}{K:Nat}
theorem s7.frame(O:s7 h K o)(ak:ct h h' K)(aR:h.next<=h'.next):s7 h' K o:=
 ⟨by rw[ak.cell];exact O.cG,by rw[ak.cell];exact O.aP,by rw[ak.cell];exact O.a1,by rw[ak.cell];exact O.cm,by rw[ak.cell];exact O.cb,by rw[ak.cell];exact O.n1,by rw[ak.cell];exact O.lq,by rw[ak.cell];exact O.r2,by rw[ak.mt];exact O.mt,Nat.lt_of_lt_of_le O.lt aR⟩
theorem R2{ty:TypeId}:s7 (h.new (cI ty o.cells)) h.next o:=by
 have ae:∀j,(h.new (cI ty o.cells)).cell h.next j=o.cells[j]?:=λj=>by rw[jx,nK]
 exact⟨by rw[ae];rfl,by rw[ae];rfl,by rw[ae];rfl,by rw[ae];rfl,by rw[ae];rfl,by rw[ae];rfl,by rw[ae];rfl,by rw[ae];rfl,⟨_,by rw[rh,if_pos rfl]⟩,by rw[e7];exact Nat.lt_succ_self _⟩
theorem s7.ld(O:s7 h K o):eB 8 (.ptr K 0) h=some (.agg o.cells):=by
 obtain⟨m,hm⟩:=O.mt;rw[mE hm,jy (n:=8) (ys:=o.cells) rfl λj aa=>?_]
 ·rfl
 ·rw[Nat.zero_add]
  have:j=0\/j=1\/j=2\/j=3\/j=4\/j=5\/j=6\/j=7:=by omega
  rcases this with rfl|rfl|rfl|rfl|rfl|rfl|rfl|rfl
  ·exact O.cG
  ·exact O.aP
  ·exact O.a1
  ·exact O.cm
  ·exact O.cb
  ·exact O.n1
  ·exact O.lq
  ·exact O.r2
theorem Rel.gQ(r:Rel h T R n N a){S:Nat->Prop}(F:aD h h' S)(aB:∀j,fC T j->¬S j)(a2:∀j,hJ R a.q j->¬S j)(bc:¬S mw):Rel h' T R n N a:=
 ⟨r.A.frame F.next λj aa=>F.same j (r.xc aa) (aB j aa),r.M,r.B.gQ F λj aa=>a2 j (Xy aa),r.gI,r.jq,r.lo,r.gU,r.jK,r.jt.dm F r.O.g bc,r.O.mono F.next,r.sep,r.Jb,r.tG,r.qd⟩
theorem Rel.fU(r:Rel h T R n N a)(F:aD h h' (λ_=>False)):Rel h' T R n N a:=r.gQ F (λ_ _ e=>e) (λ_ _ e=>e) λe=>e
theorem aD.R0{S fi:Nat->Prop}(F:aD h h1 S)(F':aD h1 h2 fi)(ak:∀j,fi j->h.next<=j):aD h h2 S:=
 ⟨F'.aO.trans F.aO,Nat.le_trans F.next F'.next,λj aa e=>(F'.same j (Nat.lt_of_lt_of_le aa F.next) λx=>by have:=ak j x;omega).trans (F.same j aa e),λau=>F'.dm (F.dm au)⟩
structure td (h h':J) (T:dS) (R:eE) (n N:Nat) (a a':mc):Prop where
 r:Rel h' T R n N a'
 f:aD h h' (λj=>fC T j\/hJ R a.q j)
 a2:∀u k,a'.q u=some k->a.q u=some k\/h.next<=k
theorem mm.sM(s:mm h1 h2 h' T R n N a a')(F:aD h h1 (λ_=>False)):td h h' T R n N a a':=
 ⟨s.r,((F.ei λ_ e=>e.elim).trans (s.f1.ei λ_ e=> .inl e)).trans (s.f2.ei λ_ e=> .inr e),λu k e=>(s.a2 u k e).imp id λx=>Nat.le_trans F.next x⟩
theorem mm.new(s:mm h1 h2 h' T R n N a a')(r:Rel h T R n N a){K:Nat}(kB:h.next<=K)(adO:K<h1.next):¬fC T K/\¬hJ R a.q K/\¬hJ R a'.q K/\ct h1 h' K:=by
 have p:¬fC T K:=λe=>by have:=r.xc e;omega
 have q:¬hJ R a.q K:=λe=>by have:=r.LI e;omega
 refine⟨p,q,λe=>?_,(s.f2.same K (Nat.lt_of_lt_of_le adO s.f1.next) q).trans (s.f1.same K adO p)⟩;rcases e with e|e|e|e|⟨u,e⟩
 ·exact q (.inl e)
 ·exact q (.inr (.inl e))
 ·exact q (.inr (.inr (.inl e)))
 ·exact q (.inr (.inr (.inr (.inl e))))
 ·rcases s.a2 u K e with e|e
  ·exact q (.inr (.inr (.inr (.inr ⟨u,e⟩))))
  ·omega
theorem n2{bJ:List (Nat×Option Nat)}{ls:List Nat}{r:ab}(O:s7 h K o)(ak:ct h h' K)(H:∀p∈bJ,p.2=some K):dM (ey bJ h h' ls) r=r:=AO λp aB k e=>by
 have:=H p aB
 rw[this] at e;cases e;exact⟨O.lt,O.mt,ak⟩
end
section
variable{lf:Nat}{h:J}{T:dS}{R:eE}{n N:Nat}{a:mc}{o:hq}
def MQ(C:ad):Prop:=∀h T R n N a o,Rel h T R n N a->hq.np h o->(∀j,rowOf o.kM=some j->¬fC T j/\¬hJ R a.q j)->∃h' a',C (.fn 82) [.ptr T.a3 0,.ptr R.rt 0,.agg o.cells] h=some (.ret (.bool true),h')/\td h h' T R n N a a'
theorem al0{C:ad}(akb:M8 C)(aj7:M5 C)(pK:NA C)(kq:vZ C)(v8:Az C)(tc:Ay C)(akB:Hq C)(yh:Hj C)(akn:Hb C)(v7:yc C)(qx:yf C)(ta:yb C)(akt:Hl C)(aH:Hm C)(Nq:G9 C)(oN:ye C)(s9:v5 C)
 (r:Rel h T R n N a)(O:hq.np h o)(ax:∀j,rowOf o.kM=some j->¬fC T j/\¬hJ R a.q j):∃h' a',IZ C lf (.ptr T.a3 0) (.ptr R.rt 0) (.agg o.cells) h=some (.ret (.bool true),h')/\td h h' T R n N a a':=by
 have fx:=uJ (e:=92) (x:= .agg o.cells) (h:=h) rfl;have fQ:(U.agg o.cells).cells=o.cells:=rfl;rw[fQ] at fx;have gX:aD h (h.new (cI 92 o.cells)) (λ_=>False):=lA _ _ _;have cW:s7 (h.new (cI 92 o.cells)) h.next o:=R2
 have uh:(h.new (cI 92 o.cells)).next=h.next+1:=e7 ..
 generalize h.new (cI 92 o.cells)=g at *;have gj:=r.fU gX;have sm:∀j,rowOf o.kM=some j->ct h g j:=λj aa=>gX.same j (O.jD j aa) (λe=>e)
 have Cz:Bytes g o.kM o.l:=O.t.frame λbB ob len cap lo e=>sm bB (by rw[e];rfl)
 have p0:(o.k:Int).tmod 4=((o.k%4:Nat):Int):=by rw[Int.tmod_eq_emod_of_nonneg (by omega)];rfl
 have apV:o.k%4=0\/o.k%4=1\/o.k%4=2\/o.k%4=3:=by omega
 unfold IZ Wk PA;rcases apV with ai|ai|ai|ai
 ·
  have d0:decide (((o.k%4:Nat):Int)=0)=true:=bu (by omega);obtain⟨nz,N7,wc,rM,aG8⟩:=akb g o.kM o.l Cz O.Ck (λj aa=>by have:=O.jD j aa;omega);have aA0:=gj.fU rM;have At:=cW.frame (rM.same _ cW.lt (λe=>e)) rM.next
  obtain⟨v,e,aGt,yL,a',al5,al6,st⟩:=aBB akB yh akn aA0 (x1:=w5 g.next o.l.length) (x2:=o.kM) (l:=o.l) O.ino.1 O.ino.2 O.x.1 O.x.2 (wc.bytes O.t.1) (by show o.l.length<=o.l.length+1;omega)
   (λj aa=>by cases aa;exact⟨wc.lt,λe=>by have:=gj.xc e;omega⟩) O.Ck (Cz.frame λbB ob len cap lo e=>rM.same bB (by have:=O.jD bB (by rw[e];rfl);omega) (λe=>e)) (λj aa=>⟨by have:=O.jD j aa;have:=rM.next;omega,ax j aa⟩)
  obtain⟨bM,cz,fr,s1⟩:=st.new r (K:=h.next) (Nat.le_refl _) At.lt;obtain⟨k1,k2,hG,s2⟩:=st.new r (K:=g.next) (by omega) wc.lt;have Nc:=At.frame (st.f1.same _ At.lt bM) st.f1.next
  have akg:=At.frame s1 (Nat.le_trans st.f1.next st.f2.next);have Y4:Whole yL g.next o.l:=⟨eP wc.w s2,by rw[s2.cell];exact wc.cG,by rw[s2.cell];exact wc.aP,λj aa=>by rw[s2.cell];exact wc.cs j aa,Nat.lt_of_lt_of_le wc.lt (Nat.le_trans st.f1.next st.f2.next)⟩
  have ajQ:Bytes yL o.kM o.l:=Cz.frame λbB ob len cap lo e=>by
   have ai:=O.jD bB (by rw[e];rfl);have fT:=ax bB (by rw[e];rfl);exact((st.f2.same bB (by have:=rM.next;have:=st.f1.next;omega) fT.2).trans (st.f1.same bB (by have:=rM.next;omega) fT.1)).trans (rM.same bB (by omega) (λe=>e))
  have dM:=aj7 yL g.next o.kM o.l Y4 ajQ O.Ck
  obtain⟨Be,al8,aG7,YM⟩:=pK yL (w5 g.next o.l.length) o.l.length (.inr ⟨g.next,1,_,_,o.l.length+2,rfl,Y4.w,by omega⟩) O.Ck;have dW:∀j,rowOf (w5 g.next o.l.length)=some j->j=g.next:=λj aa=>by cases aa;rfl
  have aAZ:Rel Be T R n N a':=st.r.gQ YM (λj aa e=>k1 (by rw[<- dW j e];exact aa)) (λj aa e=>hG (by rw[<- dW j e];exact aa)) (λe=>by have:=dW _ e;have:=gj.O.g;omega);have aiu:=st.sM (gX.trans rM);refine⟨Be,a',?_,⟨aAZ,aiu.f.R0 YM λj aa=>by rw[dW j aa];omega,aiu.a2⟩⟩;have c4:=kq Be e;simp only[aA,fx,cW.cG,ih (show(4:Int)≠0 by omega),p0,d0,cW.n1,N7,List.getElem?_cons_zero,List.getElem?_cons_succ,At.aP,At.a1,al5,Nc.aP,Nc.a1,Nc.n1,al6,akg.n1,dM,al8,c4,decide_true]
 ·
  have d0:decide (((o.k%4:Nat):Int)=0)=false:=br (by omega);have d1:decide (((o.k%4:Nat):Int)=1)=true:=bu (by omega);obtain⟨x1,x2,l,e,h1,h2,aP,a1,ic,eY,va,ig,cA,_,aL,bw⟩:=ahF v7 qx ta gj O.ino.1 O.ino.2 O.x.1 O.x.2 O.y.1 O.y.2;have gZ:=cW.frame (aL.same _ cW.lt (λe=>e)) aL.next
  have FY:=v8 h2 x1 x2 l l ic eY;rw[bu rfl] at FY;have aJ:l.length<=140737488351232:=by omega
  obtain⟨h3,cm,e6,c2⟩:=pK h2 x1 l.length ig aJ;have nS:=aL.trans bw;have fB:Rel h3 T R n N a:=(gj.fU nS).gQ c2 (λj aa e=>by have:=gj.xc aa;have:=cA j e;omega) (λj aa e=>by have:=gj.LI aa;have:=cA j e;omega) (λe=>by have:=gj.O.g;have:=cA _ e;omega);refine⟨h3,a,?_,⟨fB,((gX.trans nS).ei λ_ e=>e.elim).R0 c2 λj aa=>by have:=cA j aa;omega,λ_ _ e=> .inl e⟩⟩;have c4:=kq h2 e;simp only[aA,fx,cW.cG,ih (show(4:Int)≠0 by omega),p0,d0,d1,cW.aP,cW.a1,cW.cm,aP,List.getElem?_cons_zero,List.getElem?_cons_succ,gZ.aP,gZ.a1,gZ.cm,a1,FY,c4,decide_true,cm]
 ·
  have d0:decide (((o.k%4:Nat):Int)=0)=false:=br (by omega);have d1:decide (((o.k%4:Nat):Int)=1)=false:=br (by omega);have d2:decide (((o.k%4:Nat):Int)=2)=true:=bu (by omega);obtain⟨e,h1,h2,a',aP,a1,st⟩:=aBA akt aH Nq gj O.ino.1 O.ino.2 O.x.1 O.x.2;obtain⟨bM,cz,fr,s1⟩:=st.new r (K:=h.next) (Nat.le_refl _) cW.lt;have gZ:=cW.frame (st.f1.same _ cW.lt bM) st.f1.next
  refine⟨h2,a',?_,st.sM gX⟩;have c4:=kq h1 e;simp only[aA,fx,cW.cG,ih (show(4:Int)≠0 by omega),p0,d0,d1,d2,cW.aP,cW.a1,aP];rw[n2 cW (st.f1.same _ cW.lt bM) (by simp[bU,jN])];simp only[aA,c4];rw[n2 gZ rfl (by simp[bU,jN])];simp only[aA,a1,decide_true]
 ·
  have d0:decide (((o.k%4:Nat):Int)=0)=false:=br (by omega);have d1:decide (((o.k%4:Nat):Int)=1)=false:=br (by omega);have d2:decide (((o.k%4:Nat):Int)=2)=false:=br (by omega);obtain⟨x1,x2,l,e,h1,h2,aP,a1,qu,s5,_,aJ,aL,bw⟩:=ahE oN s9 gj O.ino.1 O.ino.2;have gZ:=cW.frame (aL.same _ cW.lt (λe=>e)) aL.next
  have F4:=tc h2 x1 x2 l l ((qu.tY aJ).frame λk ai=>bw.same k (qu.aF.iq ai) (λe=>e)) (s5.tY aJ);rw[bu rfl] at F4;refine⟨h2,a,?_,(gj.same aL bw).sM gX⟩;have c4:=kq h2 e;simp only[aA,fx,cW.cG,ih (show(4:Int)≠0 by omega),p0,d0,d1,d2,cW.aP,aP,List.getElem?_cons_zero,List.getElem?_cons_succ,gZ.aP,a1,F4,c4,decide_true]
end
section
variable{lf:Nat}{h:J}{T:dS}{R:eE}{n N:Nat}{a:mc}{o:hq}
def MM(C:ad):Prop:=∀h T R n N a o,Rel h T R n N a->hq.np h o->∃h' a',C (.fn 83) [.ptr T.a3 0,.ptr R.rt 0,.agg o.cells] h=some (.ret (.bool true),h')/\td h h' T R n N a a'
theorem als{C:ad}(kq:vZ C)(nO:Gy C)(aki:GX C)(aka:GN C)(akl:G3 C)(aj5:GI C)(akk:G1 C)(Ns:He C)(ta:G4 C)(akd:Hf C)(gI:G5 C)(akq:Hg C)(s9:G6 C)(aks:Hh C)(Nq:G7 C)(ajW:MS C)(uP:GP C)
 (r:Rel h T R n N a)(O:hq.np h o):∃h' a',I0 C lf (.ptr T.a3 0) (.ptr R.rt 0) (.agg o.cells) h=some (.ret (.bool true),h')/\td h h' T R n N a a':=by
 have fx:=uJ (e:=92) (x:= .agg o.cells) (h:=h) rfl;have fQ:(U.agg o.cells).cells=o.cells:=rfl;rw[fQ] at fx;have gX:aD h (h.new (cI 92 o.cells)) (λ_=>False):=lA _ _ _;have cW:s7 (h.new (cI 92 o.cells)) h.next o:=R2
 generalize h.new (cI 92 o.cells)=g at *;have gj:=r.fU gX;have p0:(o.k:Int).tmod 8=((o.k%8:Nat):Int):=by rw[Int.tmod_eq_emod_of_nonneg (by omega)];rfl
 have h5:∀m:Nat,o.k%8≠m->decide (((o.k%8:Nat):Int)=(m:Int))=false:=λm hm=>br (by omega)
 have yt:∀m:Nat,o.k%8=m->decide (((o.k%8:Nat):Int)=(m:Int))=true:=λm hm=>bu (by omega)
 have apW:o.k%8=0\/o.k%8=1\/o.k%8=2\/o.k%8=3\/o.k%8=4\/o.k%8=5\/o.k%8=6\/o.k%8=7:=by omega
 unfold I0 Wl PB;rcases apW with ai|ai|ai|ai|ai|ai|ai|ai
 ·
  have d0:decide (((o.k%8:Nat):Int)=0)=true:=yt 0 (by omega);obtain⟨v,e,h1,h2,a',aP,a1,st⟩:=aBs nO aki gj (uid:=o.x) (gid:=o.y) O.mo.1 O.mo.2;obtain⟨bM,cz,fr,s1⟩:=st.new r (K:=h.next) (Nat.le_refl _) cW.lt;have gZ:=cW.frame (st.f1.same _ cW.lt bM) st.f1.next
  refine⟨h2,a',?_,st.sM gX⟩;have c4:=kq h2 e;simp only[aA,fx,cW.cG,ih (show(8:Int)≠0 by omega),p0,d0,cW.a1,cW.cm,cW.cb,aP,List.getElem?_cons_zero,List.getElem?_cons_succ,gZ.a1,gZ.cm,gZ.cb,a1,c4,decide_true]
 ·
  have d0:decide (((o.k%8:Nat):Int)=0)=false:=h5 0 (by omega);have d1:decide (((o.k%8:Nat):Int)=1)=true:=yt 1 (by omega);obtain⟨e,h1,h2,a',aP,a1,st⟩:=aBv aka akl gj (by_:=o.x) O.ino.1 O.ino.2;obtain⟨bM,cz,fr,s1⟩:=st.new r (K:=h.next) (Nat.le_refl _) cW.lt;have gZ:=cW.frame (st.f1.same _ cW.lt bM) st.f1.next
  refine⟨h2,a',?_,st.sM gX⟩;have c4:=kq h1 e;simp only[aA,fx,cW.cG,ih (show(8:Int)≠0 by omega),p0,d0,d1,cW.aP,cW.a1,aP];rw[n2 cW (st.f1.same _ cW.lt bM) (by simp[bU,jN])];simp only[aA,c4];rw[n2 gZ rfl (by simp[bU,jN])];simp only[aA,a1,decide_true]
 ·
  have d0:decide (((o.k%8:Nat):Int)=0)=false:=h5 0 (by omega);have d1:decide (((o.k%8:Nat):Int)=1)=false:=h5 1 (by omega);have d2:decide (((o.k%8:Nat):Int)=2)=true:=yt 2 (by omega);obtain⟨e,h1,h2,a',aP,a1,st⟩:=aBu aj5 akk gj O.ino.1 O.ino.2;obtain⟨bM,cz,fr,s1⟩:=st.new r (K:=h.next) (Nat.le_refl _) cW.lt;have gZ:=cW.frame (st.f1.same _ cW.lt bM) st.f1.next
  refine⟨h2,a',?_,st.sM gX⟩;have c4:=kq h1 e;simp only[aA,fx,cW.cG,ih (show(8:Int)≠0 by omega),p0,d0,d1,d2,cW.aP,aP];rw[n2 cW (st.f1.same _ cW.lt bM) (by simp[bU,jN])];simp only[aA,c4];rw[n2 gZ rfl (by simp[bU,jN])];simp only[aA,a1,decide_true]
 ·
  have d0:decide (((o.k%8:Nat):Int)=0)=false:=h5 0 (by omega);have d1:decide (((o.k%8:Nat):Int)=1)=false:=h5 1 (by omega);have d2:decide (((o.k%8:Nat):Int)=2)=false:=h5 2 (by omega);have d3:decide (((o.k%8:Nat):Int)=3)=true:=yt 3 (by omega);obtain⟨e,h1,h2,a',aP,a1,st⟩:=aBw Ns ta gj O.ino.1 O.ino.2;obtain⟨bM,cz,fr,s1⟩:=st.new r (K:=h.next) (Nat.le_refl _) cW.lt;have gZ:=cW.frame (st.f1.same _ cW.lt bM) st.f1.next
  refine⟨h2,a',?_,st.sM gX⟩;have c4:=kq h1 e;simp only[aA,fx,cW.cG,ih (show(8:Int)≠0 by omega),p0,d0,d1,d2,d3,cW.aP,aP];rw[n2 cW (st.f1.same _ cW.lt bM) (by simp[bU,jN])];simp only[aA,c4];rw[n2 gZ rfl (by simp[bU,jN])];simp only[aA,a1,decide_true]
 ·
  have d0:decide (((o.k%8:Nat):Int)=0)=false:=h5 0 (by omega);have d1:decide (((o.k%8:Nat):Int)=1)=false:=h5 1 (by omega);have d2:decide (((o.k%8:Nat):Int)=2)=false:=h5 2 (by omega);have d3:decide (((o.k%8:Nat):Int)=3)=false:=h5 3 (by omega);have d4:decide (((o.k%8:Nat):Int)=4)=true:=yt 4 (by omega);obtain⟨e,h1,h2,a',aP,a1,st⟩:=aBx akd gI gj (mo:=o.mo) O.ino.1 O.ino.2;obtain⟨bM,cz,fr,s1⟩:=st.new r (K:=h.next) (Nat.le_refl _) cW.lt;have gZ:=cW.frame (st.f1.same _ cW.lt bM) st.f1.next
  refine⟨h2,a',?_,st.sM gX⟩;have c4:=kq h1 e;simp only[aA,fx,cW.cG,ih (show(8:Int)≠0 by omega),p0,d0,d1,d2,d3,d4,cW.aP,cW.cb,aP];rw[n2 cW (st.f1.same _ cW.lt bM) (by simp[bU,jN])];simp only[aA,c4];rw[n2 gZ rfl (by simp[bU,jN])];simp only[aA,a1,decide_true]
 ·
  have d0:decide (((o.k%8:Nat):Int)=0)=false:=h5 0 (by omega);have d1:decide (((o.k%8:Nat):Int)=1)=false:=h5 1 (by omega);have d2:decide (((o.k%8:Nat):Int)=2)=false:=h5 2 (by omega);have d3:decide (((o.k%8:Nat):Int)=3)=false:=h5 3 (by omega);have d4:decide (((o.k%8:Nat):Int)=4)=false:=h5 4 (by omega);have d5:decide (((o.k%8:Nat):Int)=5)=true:=yt 5 (by omega);obtain⟨e,h1,h2,a',aP,a1,st⟩:=aBy akq s9 gj (u:=o.x) (g:=o.y) O.ino.1 O.ino.2;obtain⟨bM,cz,fr,s1⟩:=st.new r (K:=h.next) (Nat.le_refl _) cW.lt;have gZ:=cW.frame (st.f1.same _ cW.lt bM) st.f1.next
  refine⟨h2,a',?_,st.sM gX⟩;have c4:=kq h1 e;simp only[aA,fx,cW.cG,ih (show(8:Int)≠0 by omega),p0,d0,d1,d2,d3,d4,d5,cW.aP,cW.a1,cW.cm,aP];rw[n2 cW (st.f1.same _ cW.lt bM) (by simp[bU,jN])];simp only[aA,c4];rw[n2 gZ rfl (by simp[bU,jN])];simp only[aA,a1,decide_true]
 ·
  have d0:decide (((o.k%8:Nat):Int)=0)=false:=h5 0 (by omega);have d1:decide (((o.k%8:Nat):Int)=1)=false:=h5 1 (by omega);have d2:decide (((o.k%8:Nat):Int)=2)=false:=h5 2 (by omega);have d3:decide (((o.k%8:Nat):Int)=3)=false:=h5 3 (by omega);have d4:decide (((o.k%8:Nat):Int)=4)=false:=h5 4 (by omega);have d5:decide (((o.k%8:Nat):Int)=5)=false:=h5 5 (by omega);have d6:decide (((o.k%8:Nat):Int)=6)=true:=yt 6 (by omega);obtain⟨e,h1,h2,a',aP,a1,st⟩:=aBz aks Nq gj (at_:=o.at_) (m:=o.N3) O.ino.1 O.ino.2;obtain⟨bM,cz,fr,s1⟩:=st.new r (K:=h.next) (Nat.le_refl _) cW.lt;have gZ:=cW.frame (st.f1.same _ cW.lt bM) st.f1.next
  refine⟨h2,a',?_,st.sM gX⟩;have c4:=kq h1 e;simp only[aA,fx,cW.cG,ih (show(8:Int)≠0 by omega),p0,d0,d1,d2,d3,d4,d5,d6,cW.aP,cW.lq,cW.r2,aP];rw[n2 cW (st.f1.same _ cW.lt bM) (by simp[bU,jN])];simp only[aA,c4];rw[n2 gZ rfl (by simp[bU,jN])];simp only[aA,a1,decide_true]
 ·
  have d0:decide (((o.k%8:Nat):Int)=0)=false:=h5 0 (by omega);have d1:decide (((o.k%8:Nat):Int)=1)=false:=h5 1 (by omega);have d2:decide (((o.k%8:Nat):Int)=2)=false:=h5 2 (by omega);have d3:decide (((o.k%8:Nat):Int)=3)=false:=h5 3 (by omega);have d4:decide (((o.k%8:Nat):Int)=4)=false:=h5 4 (by omega);have d5:decide (((o.k%8:Nat):Int)=5)=false:=h5 5 (by omega);have d6:decide (((o.k%8:Nat):Int)=6)=false:=h5 6 (by omega);obtain⟨h1,aP,bX,cA,aL⟩:=ajW g T n N a.s.wd a.s.b a.now a.us a.s.nd o.at_ gj.A;have gu:aD g h1 (fC T):=aL.ei λ_ e=> .inl e
  have ic:=gj.bY gu;have dc:=gN (n:=1) (off:=3) (y:=I o.at_) ic.wt rfl (by omega) rfl;have en:(U.int .i64 o.at_).cells=[I o.at_]:=rfl;rw[en] at dc;have vW:aD h1 (h1.set R.rt 3 [I o.at_]) (hJ R a.q):=fj (.inl rfl);have st:=gj.next (a':=⟨a.s,o.at_,a.us,a.q,a.b2,a.rd⟩) gu vW bX gj.M (ic.XN o.at_) gj.gI gj.jq gj.lo gj.gU gj.jK gj.qd λ_ _ e=> .inl e
  obtain⟨bM,cz,fr,s1⟩:=st.new r (K:=h.next) (Nat.le_refl _) cW.lt;have gZ:=cW.frame (st.f1.same _ cW.lt bM) st.f1.next
  have qw:=cW.frame s1 (Nat.le_trans st.f1.next st.f2.next);have zF:=uP _ T n N _ _ _ _ _ st.r.A;refine⟨_,_,?_,st.sM gX⟩;simp only[aA,fx,cW.cG,ih (show(8:Int)≠0 by omega),p0,d0,d1,d2,d3,d4,d5,d6,cW.lq,aP,gZ.lq,dc,qw.lq,zF];rw[n2 qw rfl (by simp[bU,jN])];simp only[aA,decide_true]
def vT(C:ad):Prop:=∀h T R n N a o,Rel h T R n N a->hq.np h o->(∀j,rowOf o.kM=some j->¬fC T j/\¬hJ R a.q j)->∃h' a',C (.fn 50) [.ptr T.a3 0,.ptr R.rt 0,.agg o.cells] h=some (.ret (.bool true),h')/\td h h' T R n N a a'
theorem anl{C:ad}(ajV:MQ C)(ajP:MM C)(r:Rel h T R n N a)(O:hq.np h o)(ax:∀j,rowOf o.kM=some j->¬fC T j/\¬hJ R a.q j):∃h' a',IE C lf (.ptr T.a3 0) (.ptr R.rt 0) (.agg o.cells) h=some (.ret (.bool true),h')/\td h h' T R n N a a':=by
 have fx:=uJ (e:=92) (x:= .agg o.cells) (h:=h) rfl;have fQ:(U.agg o.cells).cells=o.cells:=rfl;rw[fQ] at fx;have gX:aD h (h.new (cI 92 o.cells)) (λ_=>False):=lA _ _ _;have cW:s7 (h.new (cI 92 o.cells)) h.next o:=R2
 generalize h.new (cI 92 o.cells)=g at *;have gj:=r.fU gX;have Cz:Bytes g o.kM o.l:=O.t.frame λbB ob len cap lo e=>gX.same bB (O.jD bB (by rw[e];rfl)) (λe=>e)
 have YW:hq.np g o:=⟨O.k,O.ino,O.x,O.y,O.mo,Cz,O.Ck,λj aa=>Nat.lt_of_lt_of_le (O.jD j aa) gX.next⟩;have up:∀h' a',td g h' T R n N a a'->td h h' T R n N a a':=λh' a' s=>⟨s.r,(gX.ei λ_ e=>e.elim).trans s.f,λu k e=>(s.a2 u k e).imp id λx=>Nat.le_trans gX.next x⟩
 unfold IE UN Pd;by_cases ai:o.k<128
 ·have d0:decide ((o.k:Int)<128)=true:=bu (by omega);obtain⟨h',a',aP,s1⟩:=ajV g T R n N a o gj YW ax;refine⟨h',a',?_,up _ _ s1⟩;simp only[aA,fx,cW.cG,d0,cW.ld,aP]
 ·have d0:decide ((o.k:Int)<128)=false:=br (by omega);obtain⟨h',a',aP,s1⟩:=ajP g T R n N a o gj YW;refine⟨h',a',?_,up _ _ s1⟩;simp only[aA,fx,cW.cG,d0,cW.ld,aP]
end
theorem aC4(ah aj aC a8 cF dK dH fE h4 tg:Int):bin ao .neq 78 (.agg [I ah,I aj,I aC,I a8,I cF,I dK,I dH,I fE,I h4,I tg]) (.agg [I ah,I aj,I aC,I a8,I cF,I dK,I dH,I fE,I h4,I tg])=
 some (.bool (!(ah==ah&&(aj==aj&&(aC==aC&&(a8==a8&&(cF==cF&&(dK==dK&&(dH==dH&&(fE==fE&&(h4==h4&&(tg==tg&&true)))))))))))):=by kernel_rfl
theorem aC3{nd:Nat->Nat->U}{i k:Nat}(H:ll (nd i)):bin ao .neq 78 (.agg (fI nd i k)) (.agg (fI nd i k))=some (.bool false):=by
 obtain⟨v1,az⟩:=H.i 1 (by omega) (by omega);obtain⟨v2,ay⟩:=H.i 2 (by omega) (by omega);obtain⟨hL,b9⟩:=H.i 3 (by omega) (by omega);obtain⟨v4,ee⟩:=H.i 4 (by omega) (by omega);obtain⟨X9,iI⟩:=H.i 5 (by omega) (by omega);obtain⟨ajk,yu⟩:=H.i 7 (by omega) (by omega);obtain⟨fN,wz⟩:=H.i 8 (by omega) (by omega);obtain⟨aEP,pT⟩:=H.i 9 (by omega) (by omega);obtain⟨v10,j7⟩:=H.i 10 (by omega) (by omega)
 have e:fI nd i k=[I v1,I v2,I hL,I v4,I X9,I (k:Int),I ajk,I fN,I aEP,I v10]:=by
  have:fI nd i k=[nd i 1,nd i 2,nd i 3,nd i 4,nd i 5,I (k:Int),nd i 7,nd i 8,nd i 9,nd i 10]:=rfl
  rw[this,az,ay,b9,ee,iI,yu,wz,pT,j7]
 rw[e,aC4];simp
theorem aC2{N:Nat}{nd rd:Nat->Nat->U}(lo:mR N nd rd){i:Nat}(hi:i<N)(k:Nat):fI rd (i+1) k=fI nd i k:=by
 unfold fI;refine List.map_congr_left λj aa=>?_
 have:=List.mem_range.1 aa
 rw[lo i (1+j) hi (by omega)]
section
variable{lf:Nat}{h:J}{T:dS}{R:eE}{n N:Nat}{a:mc}{i:Nat}{ino:Int}
theorem Za{h:J}{S:List U}(aJ:S.length=10)(aq:dB S=true):∃g h',j0 ao 78 h=some (.ptr h.next 0,g)/\st 10 (.ptr h.next 0) (.agg S) g=some h'/\h'.next=h.next+1/\aD h h' (λ_=>False)/\(∀j,j<10->h'.cell h.next j=S[j]?)/\∃m,h'.mt h.next=some m:=by
 obtain⟨z,aX,ff⟩:∃z,gC ao 78=some z/\(c1 z).cells.length=10:=Aj (by kernel_rfl);have qy:=oI (P:=ao) (e:=78) (h:=h) aX;have w:=hW (h:=h) (o:=cI 78 (c1 z).cells) rfl;have aR:(cI 78 (c1 z).cells).n=10:=ff;rw[aR] at w;have fQ:(U.agg S).cells=S:=rfl;have s1:=gN (n:=10) (off:=0) (y:= .agg S) w aJ (by omega) aq;rw[fQ] at s1;refine⟨_,_,qy,s1,by rw[dz,e7],(aD.new h _ _).gB (fj rfl) (Nat.le_refl _),λj aa=>?_,?_⟩
 ·rw[fZ w (by omega) (Nat.zero_le _) (by omega),Nat.sub_zero]
 ·obtain⟨m,hm,_⟩:=dY (off:=0) (k:=h.next) (ys:=S) w;exact⟨m,hm⟩
theorem akQ{C:ad}(pM:CP C)(Aw:CM C)(oN:ye C)(s9:v5 C)(kq:vZ C)(tc:Ay C)(hO:Ap C)(v7:yc C)(qx:yf C)(ta:yb C)(v8:Az C)(r:Rel h T R n N a)(bT:iv N a.us ino i)(fq:cC)(hk:aw){x50 x51 x52:O}:
 ∃h',KZ C lf fq hk (some (.ptr T.a3 0)) (some (.ptr R.rt 0)) (some (I ino)) x50 x51 x52 h=fq (some (.ptr T.a3 0)) (some (.ptr R.rt 0)) x50 x51 x52 h'/\aD h h' (λ_=>False):=by
 have hi:=bT.1;have hu:=bT.2.1;have jQ:=r.A.gH;have b4: -9223372036854775808<=ino:=by have:=bT.2.2;omega
 have cv:ino<9223372036854775808:=by have:=bT.2.2;omega
 have fm:∀c,c<12->(a.s.nd i c).one=true:=λc ae=>by
  by_cases e:c=0
  ·rw[e,r.A.kN i hi];rfl
  ·obtain⟨v,e⟩:=(r.gU i hi).i c (by omega) ae;rw[e];rfl
 obtain⟨h1,aP,aL⟩:=pM h T n N _ _ _ _ _ _ i r.A r.M hi hu fm;rw[<- bT.2.2] at aP;generalize dW:fI a.s.nd i (lK a.s.bl i).length=S at *;have Qx:S.length=10:=by rw[<- dW];simp[fI]
 have adP:dB S=true:=by
  rw[<- dW]
  exact yk λj aa=>by
   have:=List.mem_range.1 aa
   split
   ·rfl
   ·exact fm _ (by omega)
 obtain⟨sz,dP,so⟩:=(r.gU i hi).z
 have apd:S[4]?=some (I (sz:Int)):=by
  rw[<- dW, <- dP];simp[fI]
 obtain⟨g1,h2,qy,LU,ck,bw,k2,hH⟩:=Za (h:=h1) Qx adP;have xT:=aL.trans bw;have dy:=r.fU xT;obtain⟨h3,cm,c2⟩:=Aw h2 R n N _ _ _ _ _ _ _ ino i dy.B dy.gI dy.M.nt bT (dy.jK.S i hi) (λc ae=>by rw[dy.lo i c hi ae];exact fm c ae);rw[aC2 dy.lo hi,dW] at cm;obtain⟨g3,aT,akN,pq,jm,fK,ow,oA⟩:=Za (h:=h3) Qx adP;have s3:=(xT.trans c2).trans fK;obtain⟨x11,ew,l,e,bz,bA,n1,lq,GJ,CH,hle,aJ,pF,oL⟩:=ahE oN s9 (r.fU s3) (ino:=ino) b4 cv;obtain⟨_,he⟩:=hle i bT;subst he;have YJ:=(s3.trans pF).trans oL;have F4:=tc bA x11 ew l l ((GJ.tY aJ).frame λk ai=>oL.same k (GJ.aF.iq ai) (λe=>e)) (CH.tY aJ);rw[bu rfl] at F4
 have ld:∀K,K<aT.next->(∃m,aT.mt K=some m)->(∀j,j<10->aT.cell K j=S[j]?)->eB 10 (.ptr K 0) bA=some (.agg S):=λK kB hm ae=>by
  have s:=(pF.trans oL).same K kB (λe=>e);obtain⟨m,hm⟩:=hm;rw[mE (m:=m) (by rw[s.mt];exact hm),jy Qx λj aa=>by rw[Nat.zero_add,s.cell];exact ae j aa];rfl
 have ah5:ct h2 aT h1.next:=(c2.trans fK).same _ (by omega) (λe=>e)
 have dT:=ld h1.next (by have:=c2.next;omega) (by rw[ah5.mt];exact hH) (λj aa=>by rw[ah5.cell];exact k2 j aa)
 have nJ:=ld h3.next (by omega) oA ow
 have aen:=aC3 (k:=(lK a.s.bl i).length) (r.gU i hi);rw[dW] at aen;have asd:=kq bA 0;have HL:decide ((0:Int)≠0)=false:=rfl;have ry:=r.fU YJ;have dA:=hO bA T n N _ _ _ _ _ ino ry.A b4 cv;rw[bT.yes] at dA;have gD:bA.cell h3.next 4=some (I (sz:Int)):=by rw[((pF.trans oL).same h3.next (by omega) (λe=>e)).cell,ow 4 (by omega)];exact apd
 have fin:∀m:Nat,m<=sz->∃h',U5 C lf fq hk (some (.ptr T.a3 0)) (some (.ptr R.rt 0)) (some (I ino)) (some (.ptr h3.next 0)) (some (I (m:Int))) x50 x51 x52 bA=fq (some (.ptr T.a3 0)) (some (.ptr R.rt 0)) x50 x51 x52 h'/\aD h h' (λ_=>False):=λm hm=>by
  have jz:IntKind.i64.wrap ((sz:Int)-(m:Int))=((sz-m:Nat):Int):=cD (by omega);obtain⟨x1,x2,l,e,dN,e0,r2,mn,ic,eY,_,_,_,he,CD,lg⟩:=ahF v7 qx ta ry (ino:=ino) (off:=((sz-m:Nat):Int)) (m:=(m:Int)) b4 cv (by omega) (by omega) (by omega) (by omega);have av:=he bT.yes (by omega) (by omega);subst av;have FY:=v8 e0 x1 x2 l l ic eY;rw[bu rfl] at FY;have ase:=kq e0 0;have Yd:dN.cell h3.next 4=some (I (sz:Int)):=by rw[(CD.same h3.next (by have:=(pF.trans oL).next;omega) (λe=>e)).cell];exact gD
  refine⟨e0,?_,(YJ.trans CD).trans lg⟩;unfold U5;simp only[aA,gD,jz,r2,List.getElem?_cons_zero,List.getElem?_cons_succ,Yd,mn,FY,Bool.not_true,ase,HL]
 obtain⟨h',bd,F'⟩:=fin (min sz 4000) (by omega);refine⟨h',?_,F'⟩;unfold KZ UY;simp only[cf,b8,ks,ns,qC,List.getElem?_cons_zero,List.getElem?_cons_succ,aP,qy,LU];unfold UX UW;simp only[cf,b8,ks,ns,qC,List.getElem?_cons_zero,List.getElem?_cons_succ,cm,akN,pq];unfold UU UT;simp only[cf,b8,ks,qC,List.getElem?_cons_zero,List.getElem?_cons_succ,n1];unfold US UR;simp only[cf,b8,ks,qC,List.getElem?_cons_zero,List.getElem?_cons_succ,lq];unfold UQ UP;simp only[aA,dT,nJ,aen,asd,HL,F4,dA,Bool.not_true];unfold U6 agJ;simp only[aA,gD];unfold agI agH;by_cases ag:4000<sz
 ·have d1:decide ((4000:Int)<(sz:Int))=true:=bu (by omega);have em:((min sz 4000:Nat):Int)=4000:=by omega
  rw[em] at bd;simp only[aA,d1];exact bd
 ·have d1:decide ((4000:Int)<(sz:Int))=false:=br (by omega);have em:min sz 4000=sz:=by omega
  rw[em] at bd;simp only[aA,d1];exact bd
end
theorem akP{C:ad}{lf:Nat}{r:aw}{x0 x1:O}{h:J}:U4 C lf r x0 x1 h=K4 C lf (λx0 x1 h=>K3 C lf r x0 x1 h) r x0 x1 h:=rfl
section
variable{lf:Nat}{h h0:J}{T:dS}{R:eE}{n N:Nat}{a:mc}{i:Nat}{ino:Int}
theorem aEN{us:Nat->Bool}{t:Nat}(aN:t<(fc us N).length):∃i,iv N us (((fc us N).getD t 0:Nat):Int) i:=by
 have hm:(fc us N).getD t 0∈fc us N:=by
  rw[List.getD,List.getElem?_eq_getElem aN];exact List.getElem_mem aN
 obtain⟨i,h1,h2⟩:=List.mem_map.1 hm;obtain⟨h3,aT⟩:=List.mem_filter.1 h1;exact⟨i,List.mem_range.1 h3,aT,by rw[<- h2]⟩
theorem Zb{C:ad}(pM:CP C)(Aw:CM C)(oN:ye C)(s9:v5 C)(kq:vZ C)(tc:Ay C)(hO:Ap C)(v7:yc C)(qx:yf C)(ta:yb C)(v8:Az C)(r:Rel h0 T R n N a){x:U}(c6:nT h0 x (fc a.us N))(ax:∀j,rowOf x=some j->j<h0.next)(hk:aw)(av:aS):
 ∀(d t:Nat),t+d=(fc a.us N).length->∀f,d<f->∀h,aD h0 h (λ_=>False)->∃h',bk (w3 C lf hk av) f (some (.ptr T.a3 0),some (.ptr R.rt 0),some x,some (I ((fc a.us N).length:Int)),some (I (t:Int))) h=av (some (.ptr T.a3 0)) (some (.ptr R.rt 0)) h'/\aD h0 h' (λ_=>False)
 |0,t,aN,f,au,h,F=>by
  obtain⟨f,rfl⟩:=dx f (by omega);have a9:decide ((t:Int)<((fc a.us N).length:Int))=false:=br (by omega);refine⟨h,?_,F⟩;rw[df];unfold w3 Fv K2;simp only[cf,b8,r0,a9];unfold K1 K0;simp only[cf,b8,qs]
 |d+1,t,aN,f,au,h,F=>by
  obtain⟨f,rfl⟩:=dx f (by omega);have jQ:=r.A.gH;have hle:=Cm a.us N;have a9:decide ((t:Int)<((fc a.us N).length:Int))=true:=bu (by omega);have dr:IntKind.i64.wrap ((t:Int)+1)=((t+1:Nat):Int):=cD (by omega);obtain⟨mX,i1,i2⟩:=(c6.frame λj aa=>F.same j (ax j aa) (λe=>e)).at (i:=t) (by omega);obtain⟨i,bT⟩:=aEN (us:=a.us) (N:=N) (t:=t) (by omega);generalize ai:(λx0 x1 x50 x51 x52 h=>bk (w3 C lf hk av) f (x0,x1,x50,x51,x52) h:cC)=kk;have pZ:∀x0 x1 x50 x51 x52 h,kk x0 x1 x50 x51 x52 h=bk (w3 C lf hk av) f (x0,x1,x50,x51,x52) h:=λ_ _ _ _ _ _=>by rw[<- ai]
  obtain⟨h1,aP,aL⟩:=akQ (lf:=lf) pM Aw oN s9 kq tc hO v7 qx ta v8 (r.fU F) bT (λx0 x1 x50 x51 x52 h=>K6 C lf kk x0 x1 x50 x51 x52 h) hk (x50:=some x) (x51:=some (I ((fc a.us N).length:Int))) (x52:=some (I (t:Int)));obtain⟨h2,a1,bw⟩:=Zb pM Aw oN s9 kq tc hO v7 qx ta v8 r c6 ax hk av d (t+1) (by omega) f (by omega) h1 (F.trans aL);refine⟨h2,?_,bw⟩;rw[df];show Fv C lf (λx0 x1 x50 x51 x52 h=>bk (w3 C lf hk av) f (x0,x1,x50,x51,x52) h) hk av _ _ _ _ _ h=_;rw[ai];unfold Fv K2;simp only[cf,b8,r0,a9];unfold K1 K0;simp only[cf,b8,sX];unfold U1 U0 UZ;simp only[cf,b8,i1,i2];rw[aP];unfold K6;simp only[cf,b8,rZ,dr,pZ];exact a1
def Gx(C:ad):Prop:=∀h T R n N a,Rel h T R n N a->∃h',C (.fn 52) [.ptr T.a3 0,.ptr R.rt 0] h=some (.ret (.bool true),h')/\aD h h' (λ_=>False)
theorem akO{C:ad}(gy:4100<=lf)(ako:Nu C)(aku:Hn C)(YZ:Ha C)(ajU:NC C)(akj:Ni C)(uP:GP C)(pM:CP C)(Aw:CM C)(oN:ye C)(s9:v5 C)(kq:vZ C)(tc:Ay C)(hO:Ap C)(v7:yc C)(qx:yf C)(ta:yb C)(v8:Az C)(r:Rel h T R n N a):
 ∃h',IF C lf (.ptr T.a3 0) (.ptr R.rt 0) h=some (.ret (.bool true),h')/\aD h h' (λ_=>False):=by
 have jQ:=r.A.gH;have fG:n<=4096:=r.B.ref.v.choose_spec.choose_spec.2.2.ck;have hle:=Cm a.us N;obtain⟨h1,aP,aL⟩:=ako h T R n N _ _ _ _ _ _ _ _ _ _ r.A r.B rfl;have dd:=r.fU aL;obtain⟨x2,h2,a1,s5,bw⟩:=aku h1 T n N _ _ _ _ _ dd.A;have dy:=dd.fU bw;obtain⟨x3,h3,cm,xZ,c2⟩:=YZ h2 R n N _ _ _ _ _ _ dy.B;have nj:=tc h3 x2 x3 _ _ ((s5.tY (by omega)).frame λk ai=>c2.same k (s5.aF.iq ai) (λe=>e)) (xZ.tY (by omega));rw[bu rfl] at nj;have fB:=dy.fU c2;obtain⟨bC,aT,cb,M1,fK⟩:=ajU h3 T n N _ _ _ _ _ fB.A;have k8:=fB.fU fK;obtain⟨eD,bz,n1,GJ,pF⟩:=akj aT R n N _ _ _ _ _ _ k8.B;have aGU:=Cn (bP a.s.wd) n;have anR:iV a.s.wd n=eW (bP a.s.wd) n:=rfl;rw[anR] at M1;have ah3:=tc bz bC eD _ _ ((M1.tY (by omega)).frame λk ai=>pF.same k (M1.aF.iq ai) (λe=>e)) (GJ.tY (by omega));rw[bu rfl] at ah3;have mJ:=k8.fU pF;have zF:=uP bz T n N _ _ _ _ _ mJ.A;obtain⟨aG,bA,lq,CH,oL⟩:=YZ bz R n N _ _ _ _ _ _ mJ.B;have ry:=mJ.fU oL;have hlen:=(CH.tY (by omega)).len;obtain⟨dN,r2,CD⟩:=Zb (lf:=lf) pM Aw oN s9 kq tc hO v7 qx ta v8 ry (CH.tY (by omega)) (λj aa=>CH.aF.iq aa) Dg (λx0 x1 h=>K5 C lf Dg x0 x1 h) (fc a.us N).length 0 (by omega) lf (by omega) bA (aD.refl _ _);have rz:=ry.fU CD;have i0:=hO dN T n N _ _ _ _ _ 0 rz.A (by omega) (by omega);have i1:=hO dN T n N _ _ _ _ _ (-1) rz.A (by omega) (by omega);have i2:=hO dN T n N _ _ _ _ _ ((N+1:Nat):Int) rz.A (by omega) (by omega);have av:c7 N a.us 0=false:=by simp[c7]
 have az:c7 N a.us (-1)=false:=by simp[c7]
 have ay:c7 N a.us ((N+1:Nat):Int)=false:=by
  have:¬(((N+1:Nat):Int)<=(N:Int)):=by omega
  simp only[c7,br this,Bool.false_and,Bool.and_false]
 rw[av] at i0;rw[az] at i1;rw[ay] at i2;have h5:decide (a.now≠a.now)=false:=br λx=>x rfl
 have iO:IntKind.i64.wrap ((N:Int)+1)=((N+1:Nat):Int):=cD (by omega);refine⟨dN,?_,(((((aL.trans bw).trans c2).trans fK).trans pF).trans oL).trans CD⟩;unfold IF;rw[akP];unfold K4;simp only[aA,aP,Bool.not_true,a1,cm,nj,cb,n1,ah3,mJ.B.cm,zF]
 rw[AO λp aB k e=>by
  have nc:p=(26,some R.rt):=List.mem_singleton.1 aB;rw[nc] at e;cases e
  exact⟨mJ.B.ref.lt,vF mJ.B.wt,rfl⟩]
 simp only[aA,h5];unfold K3 U3 U2;simp only[cf,b8,ks,lq,hlen];refine Eq.trans r2 ?_;unfold K5 Dg;simp only[aA,i0,Bool.not_false,i1,rz.B.a1,iO,i2]
end
noncomputable section
variable{C:ad}{lf:Nat}{ba a0 eA fz jU k3 q4 q5 q6 q7 q8 q9 q1 q2 q3:hp}{an:lj}
def h7:b1 ao:=dk 13 Tryd.f13 Tryd.func13 (by kernel_rfl)
noncomputable def u1(aG:O)(h:J):ab:=
 ob aG λa=>some (.ret a,h)
def Kv(C:ad)(lf:Nat)(r:aw)(x7 x8 x11 x12:O)(h:J):ab:=
 a1 C 52 x7 x8 h λa k=>b3 a x11 k λb k=>b3 a x12 k λc k=>dL (cT true (some a) (cJ C 52 [b,c] k λa k=>some (.ret a,k)) k) λb k=>hA a b λa=>dL (cT true (some a) (cJ C 35 [] k λa k=>some (.ret a,k)) k) λb k=>hA a b λa=>r (some a) k
theorem aue{r:aw}:∀F h,ar h7 C lf [1,1,1,1,1,1,1,1] F h ba (aM r 6) an=bj (Kv C lf r) 7 8 11 12 F h:=by
 intro F h;kernel_rfl
def Fc(C:ad)(lf:Nat)(n:hY)(r:aw)(ee:bo)(x7 x8 x11 x12 Ct Cu Ab:O)(h:J):ab:=
 lb .lss 3 Ab Cu (ob Ct λa=>k6 8 a Ab λa=>ob (eB 8 a h) λa=>b2 (j0 ao 92 h) λb k=>ob (st 8 b a k) λk=>ob x11 λa=>ob x12 λc=>ob (eB 8 b k) λb=>cJ C 50 [a,c,b] k λa k=>fM a (r (some (.bool false)) k) (cB .add 3 Ab (I 1) λa=>n x7 x8 x11 x12 Ct Cu (some a) k)) (ee x7 x8 x11 x12 h)
theorem auf{n:hY}{r:aw}{ee:bo}:∀F h,ar h7 C lf [1,1,1,1,1,1,1,0,1,0,0] F h (ln n 7 8 11 12 63 64 65) (aM r 6) (bI 4 (bj ee 7 8 11 12) an)=ln (Fc C lf n r ee) 7 8 11 12 63 64 65 F h:=by
 intro F h;kernel_rfl
def BC(C:ad)(lf:Nat)(r:aw)(ee:bo)(k:O×O×O×O×O×O×O->J->ab)(s:O×O×O×O×O×O×O)(h:J):ab:=
 Fc C lf (λa b c d g i j=>k (a,b,c,d,g,i,j)) r ee s.1 s.2.1 s.2.2.1 s.2.2.2.1 s.2.2.2.2.1 s.2.2.2.2.2.1 s.2.2.2.2.2.2 h
def Tb(C:ad)(lf:Nat)(n:hY)(x2 x7 x8 x11 x12:O)(h:J):ab:=
 ob x2 λa=>jX 88 a λb=>n x7 x8 x11 x12 (some a) (some b) (bD 0) h
theorem aug{n:hY}:∀F h,ar h7 C lf [1,1,1,1,1,1,1,0,0] F h (ln n 7 8 11 12 63 64 65) a0 an=cR (Tb C lf n) 2 7 8 11 12 F h:=by
 intro F h;kernel_rfl
def Tc(C:ad)(lf:Nat)(n:bo)(r:aw)(x2 x7 x8 x11 x12:O)(h:J):ab:=
 Tb C lf (λa b c d g i j=>bk (BC C lf r n) lf (a,b,c,d,g,i,j)) x2 x7 x8 x11 x12 h
theorem auh{n:bo}{r:aw}:∀F h,ar h7 C lf [1,1,1,1,1,1,1,0] F h (bj n 7 8 11 12) (aM r 6) an=cR (Tc C lf n r) 2 7 8 11 12 F h:=bg (b:=b7 h7 [1,1,1,1,1,1,1,0,1]) (by kernel_rfl) (fY (id:=4) (a:=b7 h7 [1,1,1,1,1,1,1,0,1,0]) (by kernel_rfl) (gJ (g:=λF=>(F 7,F 8,F 11,F 12,F 63,F 64,F 65)) (body:=BC C lf r n) (by kernel_rfl) (λk=>(auf (n:=λx7 x8 x11 x12 Ct Cu Ab h=>k (x7,x8,x11,x12,Ct,Cu,Ab) h))))) (aug (n:=λx7 x8 x11 x12 Ct Cu Ab h=>bk (BC C lf r n) lf (x7,x8,x11,x12,Ct,Cu,Ab) h))
def Kw(C:ad)(lf:Nat)(r:aw)(x2 x7 x8 x11 x12:O)(h:J):ab:=
 Tc C lf (Kv C lf r) r x2 x7 x8 x11 x12 h
theorem aui{r:aw}:∀F h,ar h7 C lf [1,1,1,1,1,1,1] F h ba (aM r 6) an=cR (Kw C lf r) 2 7 8 11 12 F h:=bg (by kernel_rfl) aue auh
def Fe(C:ad)(lf:Nat)(n:rQ)(r:aw)(ay:cC)(x2 x7 x8 x11 x12 x51 x52 sT:O)(h:J):ab:=
 lb .lss 3 sT x52 (ob x51 λa=>k6 8 a sT λa=>ob (eB 8 a h) λa=>b2 (j0 ao 92 h) λb k=>ob (st 8 b a k) λk=>ob x7 λa=>ob x8 λc=>ob (eB 8 b k) λb=>cJ C 50 [a,c,b] k λa k=>fM a (r (some (.bool false)) k) (cB .add 3 sT (I 1) λa=>n x2 x7 x8 x11 x12 x51 x52 (some a) k)) (ay x2 x7 x8 x11 x12 h)
theorem auj{n:rQ}{r:aw}{ay:cC}:∀F h,ar h7 C lf [1,1,1,1,1,1,0,1,0,0] F h (Ax n 2 7 8 11 12 51 52 53) (aM r 6) (bI 2 (cR ay 2 7 8 11 12) an)=Ax (Fe C lf n r ay) 2 7 8 11 12 51 52 53 F h:=by
 intro F h;kernel_rfl
def BD(C:ad)(lf:Nat)(r:aw)(ay:cC)(k:O×O×O×O×O×O×O×O->J->ab)(s:O×O×O×O×O×O×O×O)(h:J):ab:=
 Fe C lf (λa b c d g i j m=>k (a,b,c,d,g,i,j,m)) r ay s.1 s.2.1 s.2.2.1 s.2.2.2.1 s.2.2.2.2.1 s.2.2.2.2.2.1 s.2.2.2.2.2.2.1 s.2.2.2.2.2.2.2 h
def Td(C:ad)(lf:Nat)(n:rQ)(x1 x2 x7 x8 x11 x12:O)(h:J):ab:=
 ob x1 λa=>jX 88 a λb=>n x2 x7 x8 x11 x12 (some a) (some b) (bD 0) h
theorem auk{n:rQ}:∀F h,ar h7 C lf [1,1,1,1,1,1,0,0] F h (Ax n 2 7 8 11 12 51 52 53) a0 an=dD (Td C lf n) 1 2 7 8 11 12 F h:=by
 intro F h;kernel_rfl
def Te(C:ad)(lf:Nat)(n:cC)(r:aw)(x1 x2 x7 x8 x11 x12:O)(h:J):ab:=
 Td C lf (λa b c d g i j m=>bk (BD C lf r n) lf (a,b,c,d,g,i,j,m)) x1 x2 x7 x8 x11 x12 h
theorem aul{n:cC}{r:aw}:∀F h,ar h7 C lf [1,1,1,1,1,1,0] F h (cR n 2 7 8 11 12) (aM r 6) an=dD (Te C lf n r) 1 2 7 8 11 12 F h:=bg (b:=b7 h7 [1,1,1,1,1,1,0,1]) (by kernel_rfl) (fY (id:=2) (a:=b7 h7 [1,1,1,1,1,1,0,1,0]) (by kernel_rfl) (gJ (g:=λF=>(F 2,F 7,F 8,F 11,F 12,F 51,F 52,F 53)) (body:=BD C lf r n) (by kernel_rfl) (λk=>(auj (n:=λx2 x7 x8 x11 x12 x51 x52 sT h=>k (x2,x7,x8,x11,x12,x51,x52,sT) h))))) (auk (n:=λx2 x7 x8 x11 x12 x51 x52 sT h=>bk (BD C lf r n) lf (x2,x7,x8,x11,x12,x51,x52,sT) h))
def Tf(C:ad)(lf:Nat)(r:aw)(x1 x2 x7 x8 x11 x12:O)(h:J):ab:=
 Te C lf (Kw C lf r) r x1 x2 x7 x8 x11 x12 h
theorem aum{r:aw}:∀F h,ar h7 C lf [1,1,1,1,1,1] F h ba (aM r 6) an=dD (Tf C lf r) 1 2 7 8 11 12 F h:=bg (by kernel_rfl) aui aul
def Tg(C:ad)(lf:Nat)(n:dp)(r:aw)(x1 x2 x7 x8 x11 x12:O)(h:J):ab:=
 cB .eql 64 x11 (.val (.pointer none)) λa=>dI a x11 h λb k=>dI a x12 k λc k=>dL (cT false (some a) (cJ C 52 [b,c] k λa k=>some (.ret a,k)) k) λb k=>dI a (ib .not b) k λb k=>mN a b (r (some (.bool false)) k) (n x1 x2 x7 x8 x11 x12 k)
theorem aun{n:dp}{r:aw}:∀F h,ar h7 C lf [1,1,1,1,1,0] F h (dD n 1 2 7 8 11 12) (aM r 6) an=dD (Tg C lf n r) 1 2 7 8 11 12 F h:=by
 intro F h;kernel_rfl
def Th(C:ad)(lf:Nat)(r:aw)(x1 x2 x7 x8 x11 x12:O)(h:J):ab:=
 Tg C lf (Tf C lf r) r x1 x2 x7 x8 x11 x12 h
theorem auo{r:aw}:∀F h,ar h7 C lf [1,1,1,1,1] F h ba (aM r 6) an=dD (Th C lf r) 1 2 7 8 11 12 F h:=bg (by kernel_rfl) aum aun
def Ti(C:ad)(lf:Nat)(n:dp)(x1 x2 x7 x8:O)(h:J):ab:=
 aP C 53 x7 h λa k=>aP C 54 x8 k λb=>n x1 x2 x7 x8 (some a) (some b)
theorem aup{n:dp}:∀F h,ar h7 C lf [1,1,1,1,0] F h (dD n 1 2 7 8 11 12) a0 an=bj (Ti C lf n) 1 2 7 8 F h:=by
 intro F h;kernel_rfl
def Kx(C:ad)(lf:Nat)(r:aw)(x1 x2 x7 x8:O)(h:J):ab:=
 Ti C lf (Th C lf r) x1 x2 x7 x8 h
theorem auq{r:aw}:∀F h,ar h7 C lf [1,1,1,1] F h ba (aM r 6) an=bj (Kx C lf r) 1 2 7 8 F h:=bg (by kernel_rfl) auo aup
def Ff(C:ad)(lf:Nat)(n:hY)(r:aw)(av:bo)(x1 x2 x7 x8 Cs gm sS:O)(h:J):ab:=
 lb .lss 3 sS gm (ob Cs λa=>k6 8 a sS λa=>ob (eB 8 a h) λa=>b2 (j0 ao 92 h) λb k=>ob (st 8 b a k) λk=>ob x7 λa=>ob x8 λc=>ob (eB 8 b k) λb=>cJ C 50 [a,c,b] k λa k=>fM a (r (some (.bool false)) k) (cB .add 3 sS (I 1) λa=>n x1 x2 x7 x8 Cs gm (some a) k)) (av x1 x2 x7 x8 h)
theorem aur{n:hY}{r:aw}{av:bo}:∀F h,ar h7 C lf [1,1,1,0,1,0,0] F h (ln n 1 2 7 8 27 28 29) (aM r 6) (bI 0 (bj av 1 2 7 8) an)=ln (Ff C lf n r av) 1 2 7 8 27 28 29 F h:=by
 intro F h;kernel_rfl
def BE(C:ad)(lf:Nat)(r:aw)(av:bo)(k:O×O×O×O×O×O×O->J->ab)(s:O×O×O×O×O×O×O)(h:J):ab:=
 Ff C lf (λa b c d g i j=>k (a,b,c,d,g,i,j)) r av s.1 s.2.1 s.2.2.1 s.2.2.2.1 s.2.2.2.2.1 s.2.2.2.2.2.1 s.2.2.2.2.2.2 h
def S6(C:ad)(lf:Nat)(n:hY)(x0 x1 x2 x7 x8:O)(h:J):ab:=
 ob x0 λa=>jX 88 a λb=>n x1 x2 x7 x8 (some a) (some b) (bD 0) h
theorem at3{n:hY}:∀F h,ar h7 C lf [1,1,1,0,0] F h (ln n 1 2 7 8 27 28 29) a0 an=cR (S6 C lf n) 0 1 2 7 8 F h:=by
 intro F h;kernel_rfl
def S7(C:ad)(lf:Nat)(n:bo)(r:aw)(x0 x1 x2 x7 x8:O)(h:J):ab:=
 S6 C lf (λa b c d g i j=>bk (BE C lf r n) lf (a,b,c,d,g,i,j)) x0 x1 x2 x7 x8 h
theorem at4{n:bo}{r:aw}:∀F h,ar h7 C lf [1,1,1,0] F h (bj n 1 2 7 8) (aM r 6) an=cR (S7 C lf n r) 0 1 2 7 8 F h:=bg (b:=b7 h7 [1,1,1,0,1]) (by kernel_rfl) (fY (id:=0) (a:=b7 h7 [1,1,1,0,1,0]) (by kernel_rfl) (gJ (g:=λF=>(F 1,F 2,F 7,F 8,F 27,F 28,F 29)) (body:=BE C lf r n) (by kernel_rfl) (λk=>(aur (n:=λx1 x2 x7 x8 Cs gm sS h=>k (x1,x2,x7,x8,Cs,gm,sS) h))))) (at3 (n:=λx1 x2 x7 x8 Cs gm sS h=>bk (BE C lf r n) lf (x1,x2,x7,x8,Cs,gm,sS) h))
def S8(C:ad)(lf:Nat)(r:aw)(x0 x1 x2 x7 x8:O)(h:J):ab:=
 S7 C lf (Kx C lf r) r x0 x1 x2 x7 x8 h
theorem at5{r:aw}:∀F h,ar h7 C lf [1,1,1] F h ba (aM r 6) an=cR (S8 C lf r) 0 1 2 7 8 F h:=bg (by kernel_rfl) auq at4
def S9(C:ad)(lf:Nat)(n:cC)(r:aw)(x0 x1 x2 x7 x8:O)(h:J):ab:=
 cB .eql 64 x7 (.val (.pointer none)) λa=>jg .eql 82 a x8 (.val (.pointer none)) h λb k=>mN a b (r (some (.bool false)) k) (n x0 x1 x2 x7 x8 k)
theorem at6{n:cC}{r:aw}:∀F h,ar h7 C lf [1,1,0] F h (cR n 0 1 2 7 8) (aM r 6) an=cR (S9 C lf n r) 0 1 2 7 8 F h:=by
 intro F h;kernel_rfl
def Kt(C:ad)(lf:Nat)(r:aw)(x0 x1 x2 x7 x8:O)(h:J):ab:=
 S9 C lf (S8 C lf r) r x0 x1 x2 x7 x8 h
theorem at7{r:aw}:∀F h,ar h7 C lf [1,1] F h ba (aM r 6) an=cR (Kt C lf r) 0 1 2 7 8 F h:=bg (by kernel_rfl) at5 at6
def Ku(C:ad)(lf:Nat)(n:cC)(x0 x1 x2:O)(h:J):ab:=
 cJ C 49 [I 40,I 6] h λa k=>cy a λa b=>n x0 x1 x2 (some a) (some b) k
theorem aua{n:cC}:∀F h,ar h7 C lf [1,0] F h (cR n 0 1 2 7 8) a0 an=bG (Ku C lf n) 0 1 2 F h:=by
 intro F h;kernel_rfl
def agx(C:ad)(lf:Nat)(r:aw)(x0 x1 x2:O)(h:J):ab:=
 Ku C lf (Kt C lf r) x0 x1 x2 h
theorem aub{r:aw}:∀F h,ar h7 C lf [1] F h ba (aM r 6) an=bG (agx C lf r) 0 1 2 F h:=bg (by kernel_rfl) at7 aua
noncomputable def agy(C:ad)(lf:Nat)(n:bK)(x0 x1 x2:O)(h:J):ab:=
 n x0 x1 x2 h
theorem auc{n:bK}:∀F h,ar h7 C lf [0] F h (bG n 0 1 2) a0 an=bG (agy C lf n) 0 1 2 F h:=by
 intro F h;kernel_rfl
def Ta(C:ad)(lf:Nat)(r:aw)(x0 x1 x2:O)(h:J):ab:=
 agy C lf (agx C lf r) x0 x1 x2 h
theorem aud{r:aw}:∀F h,ar h7 C lf [] F h ba (aM r 6) an=bG (Ta C lf r) 0 1 2 F h:=bg (by kernel_rfl) aub auc
def Ik(C:ad)(lf:Nat)(ah aj aC:U)(h:J):ab:=Ta C lf u1 (some ah) (some aj) (some aC) h
def PW:cx ao:=nX h7 Ik (λC lf ah aj aC h=>cS (K:=(aM u1 6)) (by kernel_rfl) (Eq.trans (aud _ h) (by kernel_rfl))) (by kernel_rfl)
end
def oM(h:J)(x:U)(L:List hq):Prop:=(GF x/\L=[])\/∃h9 l3 cap lo m,x= .aF h9 l3 L.length cap lo/\h.mt h9=some m/\h9<h.next/\
 ∀t (aN:t<L.length),(∀c,c<8->h.cell h9 (l3+t*8+c)=L[t].cells[c]?)/\hq.np h L[t]
theorem oM.len{h:J}{x:U}{L:List hq}(A:oM h x L):eG ao 88 x=some (I (L.length:Int)):=by
 rcases A with⟨rfl|⟨_,rfl⟩,rfl⟩|⟨h9,l3,cap,lo,m,rfl,_⟩
 ·simp[eG,Tryd.underlying88,fP]
 ·simp[eG,Tryd.underlying88,fP]
 ·exact ue Tryd.underlying88
structure ml (h0 h:J) (T:dS) (R:eE) (n N:Nat) (a:mc):Prop where
 r:Rel h T R n N a
 F:aD h0 h (λ_=>False)
 p:∀j,fC T j->h0.next<=j
 q:∀j,hJ R a.q j->h0.next<=j
section
variable{lf:Nat}{h h0 h':J}{T:dS}{R:eE}{n N:Nat}{a a':mc}{o:hq}
theorem ml.step(S:ml h0 h T R n N a)(s:td h h' T R n N a a'):ml h0 h' T R n N a':=by
 refine⟨s.r,S.F.R0 s.f λj aa=>aa.elim (S.p j) (S.q j),S.p,λj aa=>?_⟩;rcases aa with e|e|e|e|⟨u,e⟩
 ·exact S.q j (.inl e)
 ·exact S.q j (.inr (.inl e))
 ·exact S.q j (.inr (.inr (.inl e)))
 ·exact S.q j (.inr (.inr (.inr (.inl e))))
 ·rcases s.a2 u j e with e|e
  ·exact S.q j (.inr (.inr (.inr (.inr ⟨u,e⟩))))
  ·exact Nat.le_trans S.F.next e
theorem ml.fU(S:ml h0 h T R n N a)(F:aD h h' (λ_=>False)):ml h0 h' T R n N a:=⟨S.r.fU F,S.F.trans F,S.p,S.q⟩
theorem hq.one(O:hq.np h o):dB o.cells=true:=by
 have:o.kM.one=true:=by
  rcases O.t.2 with⟨e|⟨k,e⟩,_⟩|⟨bB,ob,cap,lo,m,e,_⟩<;>rw[e]<;>rfl
 show(true&&(true&&(true&&(true&&(true&&(o.kM.one&&(true&&(true&&true))))))))=true;rw[this];rfl
theorem R4{C:ad}(oK:vT C)(S:ml h0 h T R n N a)(O:hq.np h0 o){h9 off:Nat}{m:qv}(hm:h0.mt h9=some m)(y2:h9<h0.next)(ae:∀c,c<8->h0.cell h9 (off+c)=o.cells[c]?):
 ∃g h1 h2 a',eB 8 (.ptr h9 off) h=some (.agg o.cells)/\j0 ao 92 h=some (.ptr h.next 0,g)/\st 8 (.ptr h.next 0) (.agg o.cells) g=some h1/\eB 8 (.ptr h.next 0) h1=some (.agg o.cells)/\
  C (.fn 50) [.ptr T.a3 0,.ptr R.rt 0,.agg o.cells] h1=some (.ret (.bool true),h2)/\ml h0 h2 T R n N a'/\aD h h2 (λj=>fC T j\/hJ R a.q j)/\(∀u k,a'.q u=some k->a.q u=some k\/h.next<=k):=by
 have ak:=S.F.same h9 y2 (λe=>e);have aJ:o.cells.length=8:=rfl;obtain⟨z,aX,ff⟩:∃z,gC ao 92=some z/\(c1 z).cells.length=8:=Aj (by kernel_rfl);have qy:=oI (P:=ao) (e:=92) (h:=h) aX;have w:=hW (h:=h) (o:=cI 92 (c1 z).cells) rfl;have aR:(cI 92 (c1 z).cells).n=8:=ff;rw[aR] at w;have s1:=gN (n:=8) (off:=0) (y:= .agg o.cells) w aJ (by omega) (hq.one O);have fQ:(U.agg o.cells).cells=o.cells:=rfl;rw[fQ] at s1;have aL:aD h ((h.new (cI 92 (c1 z).cells)).set h.next 0 o.cells) (λ_=>False):=(aD.new h _ _).gB (fj rfl) (Nat.le_refl _)
 have bO:eB 8 (.ptr h.next 0) ((h.new (cI 92 (c1 z).cells)).set h.next 0 o.cells)=some (.agg o.cells):=by
  obtain⟨oA,vc,_⟩:=dY (off:=0) (k:=h.next) (ys:=o.cells) w;rw[mE vc,jy aJ λj aa=>?_]
  ·rfl
  ·rw[Nat.zero_add,fZ w (by omega) (Nat.zero_le _) (by omega),Nat.sub_zero]
 generalize(h.new (cI 92 (c1 z).cells)).set h.next 0 o.cells=h1 at *
 have ig:=S.fU aL;have gZ:hq.np h1 o:=⟨O.k,O.ino,O.x,O.y,O.mo,O.t.frame λbB ob len cap lo e=>ig.F.same bB (O.jD bB (by rw[e];rfl)) (λe=>e),O.Ck,λj aa=>Nat.lt_of_lt_of_le (O.jD j aa) ig.F.next⟩;obtain⟨h2,a',a1,s2⟩:=oK h1 T R n N a o ig.r gZ λj aa=>⟨λe=>by have:=O.jD j aa;have:=S.p j e;omega,λe=>by have:=O.jD j aa;have:=S.q j e;omega⟩
 refine⟨_,h1,h2,a',?_,qy,s1,bO,a1,ig.step s2,(aL.ei λ_ e=>e.elim).trans s2.f,λu k e=>(s2.a2 u k e).imp id λx=>Nat.le_trans aL.next x⟩;rw[mE (m:=m) (by rw[ak.mt];exact hm),jy aJ λj aa=>by rw[ak.cell];exact ae j aa];rfl
def ah:mc:=⟨⟨λ_=>0,λ_=>0,λ_=>fJ,λ_ _=>0⟩,0,λ_=>false,λ_=>none,λ_=>0,λ_=>fJ⟩
theorem afP:bP (λ_=>0)=λ_=>false:=funext λj=>by simp[bP]
def Hd(C:ad):Prop:=∀h (m k:Int),iY h->hE h->mw<h.next->vY m->vY k->
 ((m<1\/4096<m\/k<1\/4096<k)->C (.fn 49) [I m,I k] h=some (.ret (.bm [.val (.pointer none),.val (.pointer none)]),h))/\
 (1<=m->m<=4096->1<=k->k<=4096->∃h' T R,C (.fn 49) [I m,I k] h=some (.ret (.bm [.ptr T.a3 0,.ptr R.rt 0]),h')/\ml h h' T R m.toNat k.toNat ah)
theorem aBq{C:ad}(akm:No C)(uP:Nb C)(kq:vZ C){m k:Int}(au:iY h)(jt:hE h)(bc:mw<h.next)(hm:vY m)(ai:vY k):
 ((m<1\/4096<m\/k<1\/4096<k)->Du C lf (I m) (I k) h=some (.ret (.bm [.val (.pointer none),.val (.pointer none)]),h))/\
 (1<=m->m<=4096->1<=k->k<=4096->∃h' T R,Du C lf (I m) (I k) h=some (.ret (.bm [.ptr T.a3 0,.ptr R.rt 0]),h')/\ml h h' T R m.toNat k.toNat ah):=by
 obtain⟨dd,dy⟩:=akm h m k au hm.1 hm.2 ai.1 ai.2;have d22:decide ((22:Int)≠0)=true:=rfl;have HL:decide ((0:Int)≠0)=false:=rfl;unfold Du UM Pc;refine⟨λag=>?_,λbY b2 ht kS=>?_⟩
 ·by_cases az:1048576<m
  ·simp only[aA,bu az,iL]
  ·by_cases ay:1048576<k
   ·simp only[aA,br az,bu ay]
   ·simp only[aA,br az,br ay,dd ag,List.getElem?_cons_zero,List.getElem?_cons_succ,d22]
 ·have az:decide (1048576<m)=false:=br (by omega);have ay:decide (1048576<k)=false:=br (by omega);obtain⟨h1,R,aP,ic,dT,aL⟩:=dy bY b2 ht kS;obtain⟨h2,a1,ck,dh,bw⟩:=(uP h1 m k hm.1 hm.2 ai.1 ai.2).2 bY b2 ht kS;have eY:=ic.gQ bw λ_ _ e=>e
  have c4:=kq h2 0;generalize nA:(⟨h1.next+3,h1.next+1,h1.next,h1.next+2⟩:dS)=T at *;have ape:h1.next+3=T.a3:=by rw[<- nA]
  rw[ape] at a1
  have tI:∀j,fC T j->h1.next<=j:=λj aa=>by
   rw[<- nA] at aa;rcases aa with rfl|rfl|rfl|rfl
   ·exact Nat.le_add_right _ _
   ·exact Nat.le_add_right _ _
   ·exact Nat.le_refl _
   ·exact Nat.le_add_right _ _
  have Jk:∀j,fC T j->j<h2.next:=λj aa=>by
   rw[<- nA] at aa;rcases aa with rfl|rfl|rfl|rfl
   ·show h1.next+3<_;omega
   ·show h1.next+1<_;omega
   ·show h1.next<_;omega
   ·show h1.next+2<_;omega
  have dG:∀j,hJ R (λ_=>none) j->sJ R m.toNat (λ_=>none) j:=λj aa=>by
   rcases aa with e|e|e|e|⟨u,e⟩
   ·exact .inr (.inl e)
   ·exact .inr (.inr (.inl e))
   ·exact .inr (.inr (.inr (.inl e)))
   ·exact .inl e
   ·cases e
  have kV:mw<h1.next:=Nat.lt_of_lt_of_le bc aL.next
  have nS:=aL.trans bw;have MO:bE h2 R m.toNat k.toNat (bP (λ_=>0)) (λ_=>none) (λ_=>0) 0 (λ_=>false) (λ_=>fJ):=by rw[afP];exact eY
  refine⟨h2,T,R,?_,⟨⟨dh,⟨λi c _ h1 _=>?_,λ_ _=>Nat.zero_le _,λ_ _ _ _ _ h=>absurd h (Nat.lt_irrefl _),λ_ _ _ _ _ _ _ _ _ _ h=>absurd h (Nat.lt_irrefl _)⟩,MO,λi c _ h1 _=>?_,λ_ _=>rfl,λ_ _ _ _=>rfl,λ_ _=>afD,⟨λ_ _=>aiH λ_ _ _=>rfl,λ_ _ _ _ _ _=>rfl,λj aa=>?_⟩,jt.dm nS bc (λe=>e),?_,λj aa e=>?_,λe=>?_,λe=>?_,λu k e=>(by cases e)⟩,nS,λj aa=>Nat.le_trans aL.next (tI j aa),λj aa=>dT j (dG j aa)⟩⟩
  ·simp only[aA,az,ay,aP,List.getElem?_cons_zero,List.getElem?_cons_succ,HL,a1,c4]
  ·exact if_neg (by omega)
  ·exact if_neg (by omega)
  ·have hb:bP (λ_=>0) j=true:=aa;rw[afP] at hb;cases hb
  ·refine⟨Jk _ (.inl rfl),Jk _ (.inr (.inl rfl)),Jk _ (.inr (.inr (.inl rfl))),Jk _ (.inr (.inr (.inr rfl))),by omega,⟨λe=>?_,λe=>?_,λe=>?_⟩⟩
   ·have:=tI T.bL (.inr (.inl rfl));omega
   ·have:=tI T.kd (.inr (.inr (.inl rfl)));omega
   ·have:=tI T.aK (.inr (.inr (.inr rfl)));omega
  ·have:=tI j aa
   have:=ic.iq (dG j e)
   omega
  ·have:=tI _ e;omega
  ·have:=dT _ (dG _ e);omega
end
def ph(nd:Nat->Nat->U)(M:Nat):List U:=(List.range (M*308)).map λt=>nd (t/308) (t%308)
theorem RW(nd:Nat->Nat->U){M i c:Nat}(hi:i<M)(ae:c<308):(ph nd M)[i*308+c]?=some (nd i c):=by
 have h1:i*308+c<M*308:=by omega
 have h2:(i*308+c)/308=i:=by omega
 have h3:(i*308+c)%308=c:=by omega
 simp[ph,h1,h2,h3]
theorem afE{nd:Nat->Nat->U}{M:Nat}(fm:∀i c,i<M->c<308->(nd i c).one=true):dB (ph nd M)=true:=by
 unfold ph;exact yk λj aa=>fm _ _ (by have:=List.mem_range.1 aa;omega) (by omega)
theorem ak9:mf ao 100 100 125 308 2464:=
 ⟨Tryd.underlying100,by kernel_rfl,Aj (by kernel_rfl),by kernel_rfl,⟨_,Tryd.underlying100,rfl⟩,by omega⟩
section
variable{lf:Nat}{h:J}{T:dS}{n N:Nat}{wd b:Nat->Nat}{now:Int}{us:Nat->Bool}{nd:Nat->Nat->U}
theorem Z1{h1:J}{k M:Nat}(dO:∀i c,i<M->c<308->h1.cell k (i*308+c)=some (nd i c)):h1.cells k 0 (M*308)=some (ph nd M):=jy (by simp[ph]) λj aa=>by
 have e:j=j/308*308+j%308:=by omega
 rw[Nat.zero_add,e,dO _ _ (by omega) (by omega),RW _ (by omega) (by omega)]
def CQ(C:ad):Prop:=∀h T n N wd b now us nd,bt h T n N wd b now us nd->(∀i c,i<N->c<308->(nd i c).one=true)->∃h' gO,C (.fn 53) [.ptr T.a3 0] h=some (.ret (.ptr gO.a3 0),h')/\bt h' gO n N wd b now us nd/\aD h h' (λ_=>False)/\∀j,fC gO j->h.next<=j/\j<h'.next
theorem aEs{C:ad}(x5:pH C)(MT:MU C)(A:bt h T n N wd b now us nd)(fm:∀i c,i<N->c<308->(nd i c).one=true):
 ∃h' gO,IG C lf (.ptr T.a3 0) h=some (.ret (.ptr gO.a3 0),h')/\bt h' gO n N wd b now us nd/\aD h h' (λ_=>False)/\∀j,fC gO j->h.next<=j/\j<h'.next:=by
 obtain⟨cap,fl⟩:=A.aP;have dA:=x5 h T n N wd b now us nd A;obtain⟨h1,aP,ig,aL,cA⟩:=MT h T.bL T.kd n wd b A.st;have Ji:=A.nU;have Qw:=A.gH;have z5:=aL.same T.aK A.k5 (λe=>e);have LQ:=aL.same T.a3 A.lt (λe=>e);obtain⟨m,hm,_⟩:=eP A.wn z5;have jR:=Db (cap:=cap) (lo:=0) ⟨m,hm⟩ (Z1 (nd:=nd) (M:=N) λi c hi ae=>by rw[z5.cell];exact A.dO i c hi ae);have ji:=NT (h:=h1) ak9 jR (by simp[ph]) (afE fm) Ji (by omega) (by omega);generalize mB:kH 125 308 (ph nd N)=cy at *;have fG:cy.n=N*308:=by rw[<- mB];simp[kH,ph]
 have vh:cy.ro=false:=by rw[<- mB];rfl
 have g2:∀i,cy.get i=(ph nd N)[i]?:=λi=>by rw[<- mB,zx]
 have my:gM ao 102 [0,1,2] [.ptr h.next 0,.aF h1.next 0 N none 0,I now]=some (.agg [.ptr h.next 0,.aF h1.next 0 N none 0,I now]):=by kernel_rfl
 have fx:=uJ (e:=102) (x:= .agg [.ptr h.next 0,.aF h1.next 0 N none 0,I now]) (h:=h1.new cy) rfl;have fQ:(U.agg [.ptr h.next 0,.aF h1.next 0 N none 0,I now]).cells=[.ptr h.next 0,.aF h1.next 0 N none 0,I now]:=rfl;rw[fQ] at fx;have b9:(h1.new cy).next=h1.next+1:=e7 ..
 rw[b9] at fx;have bw:aD h1 (h1.new cy) (λ_=>False):=aD.new _ _ _;have c2:aD (h1.new cy) ((h1.new cy).new (cI 102 [.ptr h.next 0,.aF h1.next 0 N none 0,I now])) (λ_=>False):=aD.new _ _ _
 have ek:∀i,((h1.new cy).new (cI 102 [.ptr h.next 0,.aF h1.next 0 N none 0,I now])).cell (h1.next+1) i=([.ptr h.next 0,.aF h1.next 0 N none 0,I now]:List U)[i]?:=λi=>by
  rw[<- b9,jx,nK]
 have ai:∀{g g1:J} (ls:List Nat) (r:ab),T.a3<g.next->(∃m,g.mt T.a3=some m)->ct g g1 T.a3->dM (ey [(13,bU (some (.ptr T.a3 (0+2)))),(8,bU (some (.ptr T.a3 (0+1)))),(3,bU (some (.ptr T.a3 (0+0))))] g g1 ls) r=r:=λls r h1 h2 ak=>AO λp aB k e=>by
  have:k=T.a3:=by
   simp[bU,jN] at aB;rcases aB with rfl|rfl|rfl<;>simp at e<;>exact e.symm
  subst this;exact⟨h1,h2,ak⟩
 refine⟨_,⟨h1.next+1,h.next,h.next+1,h1.next⟩,?_,⟨Ji,Qw,ig.gQ (bw.trans c2) (λe=>e) (λe=>e),by rw[ek];rfl,⟨none,by rw[ek];rfl⟩,by rw[ek];rfl,?_,?_,λi c hi ae=>?_,A.kN,?_,?_,?_,?_,?_,?_,?_⟩,(aL.trans bw).trans c2,λj aa=>?_⟩
 ·unfold IG U7 Pf;simp only[cf,b8,ks,CX,ns,dA,aje,Bool.not_true,qs,sK,r7,pf];rw[show h.cell T.a3 (0+0)=some (.ptr T.bL 0) from A.cG,show h.cell T.a3 (0+1)=some (.aF T.aK 0 N cap 0) by rw[Nat.zero_add];exact fl,show h.cell T.a3 (0+2)=some (I now) by rw[Nat.zero_add];exact A.a1];simp only[b8,aP,CX];rw[ai _ _ A.lt (vF A.wt) LQ,ji,ns,ai _ _ (Nat.lt_of_lt_of_le A.lt aL.next) (by rw[LQ.mt];exact vF A.wt) (bw.same _ (Nat.lt_of_lt_of_le A.lt aL.next) (λe=>e)),my,b8,fx];simp only[ns,b8]
 ·have:=hW (h:=h1.new cy) (o:=cI 102 [.ptr h.next 0,.aF h1.next 0 N none 0,I now]) rfl
  rw[b9] at this;exact this
 ·have:=hW (h:=h1) vh
  rw[fG] at this;exact uF this (by rw[b9];show h1.next≠h1.next+1;omega)
 ·rw[yo (by rw[b9];show h1.next≠h1.next+1;omega)];show(h1.new cy).cell h1.next _=_
  rw[jx,g2,RW _ hi ae]
 ·show h1.next+1≠h.next;omega
 ·show h1.next+1≠h.next+1;omega
 ·show h1.next+1≠h1.next;omega
 ·show h1.next≠h.next;omega
 ·show h1.next≠h.next+1;omega
 ·show h1.next+1<_
  rw[e7,e7];omega
 ·show h1.next<_
  rw[e7,e7];omega
 ·rw[e7,e7];rcases aa with rfl|rfl|rfl|rfl
  ·show h.next<=h1.next+1/\h1.next+1<_;omega
  ·show h.next<=h.next/\h.next<_;omega
  ·show h.next<=h.next+1/\h.next+1<_;omega
  ·show h.next<=h1.next/\h1.next<_;omega
end
theorem Zy:mf ao 134 134 156 308 2464:=
 ⟨Tryd.underlying134,by kernel_rfl,Aj (by kernel_rfl),by kernel_rfl,⟨_,Tryd.underlying134,rfl⟩,by omega⟩
section
variable{lf:Nat}{h:J}{R:eE}{n N:Nat}{on:Nat->Bool}{q:Nat->Option Nat}{b:Nat->Nat}{now:Int}{us:Nat->Bool}{rd:Nat->Nat->U}
theorem aF2{t u e sz mY base i:Nat}(T:mf ao t u e sz mY):pC (gp ao t 0 [] []) base i h=some (.aF (base+i) 0 0 (some 0) 0,h.at (base+i) (cI e [])):=by
 obtain⟨z,aX,ff⟩:=T.aX;unfold pC;rw[MC T.hu T.ak aX ff T.h1];rfl
def CN(C:ad):Prop:=∀h R n N on q b now us rd,bE h R n N on q b now us rd->iY h->(∀i c,i<N+1->c<308->(rd i c).one=true)->
 ∃h' gv eV,C (.fn 54) [.ptr R.rt 0] h=some (.ret (.ptr gv.rt 0),h')/\bE h' gv n N on eV b now us rd/\aD h h' (λ_=>False)/\(∀j,hJ gv eV j->h.next<=j/\j<h'.next)/\∀u k,eV u=some k->u<n
theorem aCk{C:ad}(MT:Nj C)(A:bE h R n N on q b now us rd)(au:iY h)(fm:∀i c,i<N+1->c<308->(rd i c).one=true):
 ∃h' gv eV,IH C lf (.ptr R.rt 0) h=some (.ret (.ptr gv.rt 0),h')/\bE h' gv n N on eV b now us rd/\aD h h' (λ_=>False)/\(∀j,hJ gv eV j->h.next<=j/\j<h'.next)/\∀u k,eV u=some k->u<n:=by
 obtain⟨cap,lo,aps⟩:=A.cb;have Ji:=A.nU;have Qw:=A.gH;have lt:=A.ref.lt;have hg:=A.hg;generalize yX:(⟨h.aO,h.next+21,h.aV⟩:J)=g0;have uh:g0.next=h.next+21:=by rw[<- yX]
 have gX:aD h g0 (λ_=>False):=by rw[<- yX];exact⟨rfl,Nat.le_add_right _ _,λ_ _ _=>rfl,λau j aa=>au j (by have:h.next+21<=j:=aa;omega)⟩
 obtain⟨g1,y0,y1,ro,rb,dT,aP,V,aL,aCs⟩:=MT g0 R.rt R.ro R.rb n on q b (A.ref.gQ gX λ_ _ e=>e);have cA:=aL.next
 have gk:=gX.same R.rt lt (λe=>e);have s1:=aL.same R.rt (by omega) (λe=>e);have aF:=(gX.trans aL).same R.bs hg (λe=>e);obtain⟨jw,kj,rfl⟩:=V.av;obtain⟨lr,kF,rfl⟩:=V.az;have aqP:=aF2 (h:=g1) (base:=h.next) (i:=12) Zy;generalize aqf:cI 156 []=afL at *;have aBk:afL.ro=false:=by rw[<- aqf];rfl
 generalize gf:g1.at (h.next+12) afL=g2 at *;have ck:g2.next=g1.next:=by rw[<- gf];rfl
 have uA:∀j,j≠h.next+12->ct g1 g2 j:=λj aa=>by rw[<- gf];exact pQ _ _ aa
 have cV:∃m,g2.mt (h.next+12)=some m:=by rw[<- gf];exact vF (Mn aBk)
 have aEZ:=eP (eP A.wl aF) (uA R.bs (by omega));obtain⟨m,hm,_⟩:=aEZ;have jR:=Db (cap:=cap) (lo:=lo) ⟨m,hm⟩ (Z1 (nd:=rd) (M:=N+1) λi c hi ae=>by rw[(uA R.bs (by omega)).cell,aF.cell];exact A.j6 i c hi ae);have ji:=Hw (h:=g2) Zy cV jR (by simp[ph]) (afE fm) (by omega) (by omega) (by omega);generalize mB:kH 156 308 (ph rd (N+1))=cy at *;have fG:cy.n=(N+1)*308:=by rw[<- mB];simp[kH,ph]
 have vh:cy.ro=false:=by rw[<- mB];rfl
 have aoH:∀i,cy.get i=(ph rd (N+1))[i]?:=λi=>by rw[<- mB,zx]
 rw[ck] at ji;generalize hF:g2.new cy=g3 at *;have e6:g3.next=g1.next+1:=by rw[<- hF,e7,ck]
 have nj:∀j,j≠g1.next->ct g2 g3 j:=λj aa=>by rw[<- hF];exact iT _ _ (by rw[ck];exact aa)
 have my:gM ao 136 [0,1,2,3] [.agg [.aF ro 0 n jw kj,.aF rb 0 n lr kF],I (N:Int),I now,.aF g1.next 0 (N+1) none 0]=
  some (.agg [.aF ro 0 n jw kj,.aF rb 0 n lr kF,I (N:Int),I now,.aF g1.next 0 (N+1) none 0]):=by kernel_rfl
 have fx:=uJ (e:=136) (x:= .agg [.aF ro 0 n jw kj,.aF rb 0 n lr kF,I (N:Int),I now,.aF g1.next 0 (N+1) none 0]) (h:=g3) rfl;have o5:(U.agg [.aF ro 0 n jw kj,.aF rb 0 n lr kF,I (N:Int),I now,.aF g1.next 0 (N+1) none 0]).cells=[.aF ro 0 n jw kj,.aF rb 0 n lr kF,I (N:Int),I now,.aF g1.next 0 (N+1) none 0]:=rfl;rw[o5] at fx;generalize tR:cI _ [.aF ro 0 n jw kj,.aF rb 0 n lr kF,I (N:Int),I now,.aF g1.next 0 (N+1) none 0]=or at fx;have R6:or.n=5:=by rw[<- tR];rfl
 have R7:or.ro=false:=by rw[<- tR];rfl
 have R8:∀i,or.get i=([.aF ro 0 n jw kj,.aF rb 0 n lr kF,I (N:Int),I now,.aF g1.next 0 (N+1) none 0]:List U)[i]?:=λi=>by rw[<- tR,nK]
 rw[e6] at fx;generalize kc:g3.new or=g4 at *;have jm:g4.next=g1.next+2:=by rw[<- kc,e7,e6]
 have Ch:∀j,j≠g1.next+1->ct g3 g4 j:=λj aa=>by rw[<- kc];exact iT _ _ (by rw[e6];exact aa)
 have cb:∀i,g4.cell (g1.next+1) i=([.aF ro 0 n jw kj,.aF rb 0 n lr kF,I (N:Int),I now,.aF g1.next 0 (N+1) none 0]:List U)[i]?:=λi=>by rw[<- kc, <- e6,jx,R8]
 have gD:g4.wr (g1.next+1) 5:=by
  have:=hW (h:=g3) (o:=or) R7
  rw[R6,e6,kc] at this;exact this
 have vC:∀j,xp ro rb n dT j->h.next+21<=j/\j<g1.next:=λj aa=>⟨by rw[<- uh];exact aCs j aa,V.iq aa⟩
 have ahY:∀j,j≠h.next+12->j<g1.next->ct g1 g4 j:=λj h1 h2=>((Ch j (by omega)).trans (nj j (by omega))).trans (uA j h1)
 have akw:=V.frame (h':=g4) (by omega) λj aa=>by have:=vC j aa;exact ahY j (by omega) (by omega)
 have aE0:g4.wr g1.next ((N+1)*308):=by
  have:=hW (h:=g2) vh
  rw[fG,ck,hF] at this;exact eP this (Ch _ (by omega))
 have aHg:=vC ro (.inl rfl);have aHf:=vC rb (.inr (.inl rfl))
 have yM:bE g4 ⟨g1.next+1,ro,rb,g1.next⟩ n N on dT b now us rd:=by
  refine⟨Ji,Qw,⟨⟨_,_,by rw[cb];rfl,by rw[cb];rfl,akw⟩,⟨5,by omega,gD⟩,by show g1.next+1≠ro;omega,by show g1.next+1≠rb;omega,λi k hi e=>?_,by show g1.next+1<_;omega⟩,by rw[cb];rfl,by rw[cb];rfl,⟨none,0,by rw[cb];rfl⟩,gD,aE0,λi c hi ae=>?_,A.kN,by show g1.next≠g1.next+1;omega,by show g1.next≠ro;omega,by show g1.next≠rb;omega,λi k hi e=>?_,by show g1.next<_;omega,A.sY⟩
  ·have:=vC k (.inr (.inr ⟨i,hi,e⟩))
   show k≠g1.next+1;omega
  ·show g4.cell g1.next _=_
   rw[(Ch _ (by omega)).cell, <- hF, <- ck,jx,aoH,RW _ hi ae]
  ·have:=vC k (.inr (.inr ⟨i,hi,e⟩))
   show k≠g1.next;omega
 have ai:∀{x y:J} (ls:List Nat) (r:ab),R.rt<x.next->(∃m,x.mt R.rt=some m)->ct x y R.rt->dM (ey [(16,bU (some (.ptr R.rt (0+4)))),(11,bU (some (.ptr R.rt (0+3)))),(7,bU (some (.ptr R.rt (0+2))))] x y ls) r=r:=λls r h1 h2 ak=>AO λp aB k e=>by
  have:k=R.rt:=by
   simp[bU,jN] at aB;rcases aB with rfl|rfl|rfl<;>simp at e<;>exact e.symm
  subst this;exact⟨h1,h2,ak⟩
 have Q5:∀o,BS h.next (bU (some (.ptr R.rt o)))=true:=λo=>by
  show Nat.blt R.rt h.next=true
  rw[Nat.blt_eq];exact lt
 have afj:∃m,g0.mt R.rt=some m:=by rw[gk.mt];exact vF A.wt
 have zY:=(uA R.rt (by omega));have hH:∃m,g2.mt R.rt=some m:=by rw[zY.mt,s1.mt];exact afj
 refine⟨g4,⟨g1.next+1,ro,rb,g1.next⟩,vu n dT,?_,yM.Xr,⟨?_,by omega,λj aa _=>?_,λau=>?_⟩,λj aa=>?_,λu k e=>?_⟩
 ·unfold IH U8 Pg;rw[RY au,yX];simp only[cf,b8,sK,r7,pf,Q5,wx];rw[show g0.cell R.rt (0+2)=some (I (N:Int)) by rw[gk.cell,Nat.zero_add];exact A.a1,show g0.cell R.rt (0+3)=some (I now) by rw[gk.cell,Nat.zero_add];exact A.cm,show g0.cell R.rt (0+4)=some (.aF R.bs 0 (N+1) cap lo) by rw[gk.cell,Nat.zero_add];exact aps];simp only[b8,wx,Nat.add_zero,aP,CX];rw[ai _ _ (by omega) afj s1];simp only[oz,wx,aqP,ns,ji];rw[ai _ _ (by omega) hH (nj _ (by omega)),my,b8,fx];simp only[ns,b8]
 ·rw[<- kc, <- hF, <- gf];exact aL.aO.trans gX.aO
 ·exact(ahY j (by omega) (by omega)).trans ((gX.trans aL).same j aa (λe=>e))
 ·have h1:=aL.dm (gX.dm au);rw[<- kc, <- hF];refine qI (qI (λj aa=>?_) _) _;rw[<- gf,uY,if_neg (by omega)];exact h1 j (by omega)
 ·rcases aa with e|e|e|e|⟨u,e⟩
  ·have e:j=g1.next+1:=e
   omega
  ·have e:j=ro:=e;omega
  ·have e:j=rb:=e;omega
  ·have e:j=g1.next:=e
   omega
  ·obtain⟨hu,e⟩:=LJ e
   have:=vC j (.inr (.inr ⟨u,hu,e⟩))
   omega
 ·exact(LJ e).1
end
section
variable{lf:Nat}{h h0:J}{T:dS}{R:eE}{n N:Nat}{a:mc}
end
section
variable{lf:Nat}{h h0 h1 h2:J}{T gO:dS}{R gv:eE}{n N:Nat}{a a' aC:mc}
theorem Rel.afx(r:Rel h T R n N a){i c:Nat}(hi:i<N)(ae:c<308):(a.s.nd i c).one=true:=by
 by_cases e:c=0
 ·rw[e,r.A.kN i hi];rfl
 ·by_cases ay:c<12
  ·obtain⟨v,e⟩:=(r.gU i hi).i c (by omega) ay;rw[e];rfl
  ·rw[r.M.cell i c hi (by omega) ae];rfl
theorem Rel.aBi(r:Rel h T R n N a){i c:Nat}(hi:i<N+1)(ae:c<308):(a.rd i c).one=true:=by
 by_cases e:i=0
 ·rw[e];exact r.B.sY c ae
 ·obtain⟨i,rfl⟩:∃g,i=g+1:=⟨i-1,by omega⟩;by_cases ay:c<12
  ·rw[r.lo i c (by omega) ay];exact r.afx (by omega) ae
  ·rw[r.gI i c (by omega) (by omega) ae];rfl
theorem aBt{C:ad}(ND:CQ C)(uR:CN C)(S:ml h0 h T R n N a)(au:iY h):
 ∃h1 h2 gO gv a',C (.fn 53) [.ptr T.a3 0] h=some (.ret (.ptr gO.a3 0),h1)/\C (.fn 54) [.ptr R.rt 0] h1=some (.ret (.ptr gv.rt 0),h2)/\
  ml h0 h2 T R n N a/\ml h0 h2 gO gv n N a'/\∀j,(fC T j\/hJ R a.q j)->¬(fC gO j\/hJ gv a'.q j):=by
 have r:=S.r;obtain⟨h1,gO,aP,bX,aL,bM⟩:=ND h T n N _ _ _ _ _ r.A λi c hi ae=>r.afx hi ae
 have ig:=S.fU aL;obtain⟨h2,gv,eV,a1,eY,bw,cz,qd⟩:=uR h1 R n N _ _ _ _ _ _ ig.r.B (aL.dm au) λi c hi ae=>r.aBi hi ae
 have j5:=ig.fU bw;have cA:=aL.next
 have ck:=bw.next
 have bc:=r.O.g;have Jt:∀j,fC gO j->j≠mw:=λj aa e=>by have:=(bM j aa).1;omega
 refine⟨h1,h2,gO,gv,⟨a.s,a.now,a.us,eV,a.b2,a.rd⟩,aP,a1,j5,⟨⟨bX.gQ bw (λ_ e=>e.elim),r.M,eY,r.gI,r.jq,r.lo,r.gU,r.jK,j5.r.jt,⟨?_,?_,?_,?_,by omega,⟨λe=>Jt _ (.inr (.inl rfl)) e.symm,λe=>Jt _ (.inr (.inr (.inl rfl))) e.symm,λe=>Jt _ (.inr (.inr (.inr rfl))) e.symm⟩⟩,λj aa e=>?_,λe=>Jt _ e rfl,λe=>?_,qd⟩,j5.F,λj aa=>?_,λj aa=>?_⟩,λj aa e=>?_⟩
 ·have:=(bM _ (.inl rfl)).2;omega
 ·have:=(bM _ (.inr (.inl rfl))).2;omega
 ·have:=(bM _ (.inr (.inr (.inl rfl)))).2;omega
 ·have:=(bM _ (.inr (.inr (.inr rfl)))).2;omega
 ·have:=(bM j aa).2
  have:=(cz j e).1
  omega
 ·have:=(cz _ e).1;omega
 ·have:=(bM j aa).1
  exact Nat.le_trans S.F.next this
 ·have:=(cz j aa).1
  exact Nat.le_trans S.F.next (by omega)
 ·have h3:j<h.next:=aa.elim (λx=>r.xc x) λx=>r.LI x
  rcases e with e|e
  ·have:=(bM j e).1;omega
  ·have:=(cz j e).1;omega
structure oR (h0 h:J) (T:dS) (R:eE) (a:mc) (gO:dS) (gv:eE) (a':mc) (n N:Nat):Prop where
 s1:ml h0 h T R n N a
 s2:ml h0 h gO gv n N a'
 d:∀j,(fC T j\/hJ R a.q j)->¬(fC gO j\/hJ gv a'.q j)
theorem oR.swap(S:oR h0 h T R a gO gv a' n N):oR h0 h gO gv a' T R a n N:=⟨S.s2,S.s1,λj h1 h2=>S.d j h2 h1⟩
theorem oR.fU(S:oR h0 h T R a gO gv a' n N)(F:aD h h1 (λ_=>False)):oR h0 h1 T R a gO gv a' n N:=⟨S.s1.fU F,S.s2.fU F,S.d⟩
theorem oR.step(S:oR h0 h T R a gO gv a' n N)(j5:ml h0 h2 T R n N aC)(F:aD h h2 (λj=>fC T j\/hJ R a.q j))(a2:∀u k,aC.q u=some k->a.q u=some k\/h.next<=k):oR h0 h2 T R aC gO gv a' n N:=by
 refine⟨j5,⟨S.s2.r.gQ F (λj aa e=>S.d j e (.inl aa)) (λj aa e=>S.d j e (.inr aa)) λe=>e.elim S.s1.r.Jb S.s1.r.tG,j5.F,S.s2.p,S.s2.q⟩,λj aa e=>?_⟩;have a9:j<h.next:=e.elim (λx=>S.s2.r.xc x) λx=>S.s2.r.LI x
 rcases aa with aa|aa|aa|aa|aa|⟨u,hu⟩
 ·exact S.d j (.inl aa) e
 ·exact S.d j (.inr (.inl aa)) e
 ·exact S.d j (.inr (.inr (.inl aa))) e
 ·exact S.d j (.inr (.inr (.inr (.inl aa)))) e
 ·exact S.d j (.inr (.inr (.inr (.inr (.inl aa))))) e
 ·rcases a2 u j hu with h3|h3
  ·exact S.d j (.inr (.inr (.inr (.inr (.inr ⟨u,h3⟩))))) e
  ·omega
variable{x:U}{L:List hq}
theorem oM.some(P:oM h0 x L)(aJ:0<L.length):∃h9 l3 cap lo m,x= .aF h9 l3 L.length cap lo/\h0.mt h9=some m/\h9<h0.next/\∀t (aN:t<L.length),(∀c,c<8->h0.cell h9 (l3+t*8+c)=L[t].cells[c]?)/\hq.np h0 L[t]:=by
 rcases P with⟨_,rfl⟩|P
 ·cases aJ
 ·exact P
theorem aaj{C:ad}(oK:vT C)(hx:L.length<=140737488355328)(P:oM h0 x L)(hk:aw)(av:bo){x1 x2:O}:
 ∀(d t:Nat),t+d=L.length->∀f,d<f->∀h a,ml h0 h T R n N a->∃h' a',bk (BE C lf hk av) f (x1,x2,some (.ptr T.a3 0),some (.ptr R.rt 0),some x,some (I (L.length:Int)),some (I (t:Int))) h=av x1 x2 (some (.ptr T.a3 0)) (some (.ptr R.rt 0)) h'/\ml h0 h' T R n N a'
 |0,t,aN,f,au,h,a,S=>by
  obtain⟨f,rfl⟩:=dx f (by omega);have a9:decide ((t:Int)<(L.length:Int))=false:=br (by omega);refine⟨h,a,?_,S⟩;rw[df];unfold BE Ff;simp only[aA,a9]
 |d+1,t,aN,f,au,h,a,S=>by
  obtain⟨h9,l3,cap,lo,m,ax,hm,y2,ae⟩:=P.some (by omega);obtain⟨f,rfl⟩:=dx f (by omega);have a9:decide ((t:Int)<(L.length:Int))=true:=bu (by omega);have dr:IntKind.i64.wrap ((t:Int)+1)=((t+1:Nat):Int):=cD (by omega);have bW:=gA (s:=8) (k:=h9) (off:=l3) (len:=L.length) (lo:=lo) (cap:=cap) (kd:= .i64) (i:=(t:Int)) (by omega) (by omega);rw[Int.toNat_natCast] at bW;obtain⟨k1,k2⟩:=ae t (by omega);obtain⟨g,h1,h2,a',s1,s2,ea,e2,mK,j5,_⟩:=R4 oK S k2 (off:=l3+t*8) hm y2 k1;obtain⟨h3,a8,pn,CO⟩:=aaj oK hx P hk av (x1:=x1) (x2:=x2) d (t+1) (by omega) f (by omega) h2 a' j5;subst ax;refine⟨h3,a8,?_,CO⟩;rw[df];show Ff C lf (λa b c d g i j=>bk (BE C lf hk av) f (a,b,c,d,g,i,j)) hk av _ _ _ _ _ _ _ h=_;unfold Ff;simp only[aA,a9,bW,s1,s2,ea,e2,mK,Bool.not_true,dr];exact pn
theorem aak{C:ad}(oK:vT C)(hx:L.length<=140737488355328)(P:oM h0 x L)(hk:aw)(ay:cC){x2 x11 x12:O}:
 ∀(d t:Nat),t+d=L.length->∀f,d<f->∀h a,oR h0 h T R a gO gv a' n N->∃h' aC,bk (BD C lf hk ay) f (x2,some (.ptr T.a3 0),some (.ptr R.rt 0),x11,x12,some x,some (I (L.length:Int)),some (I (t:Int))) h=ay x2 (some (.ptr T.a3 0)) (some (.ptr R.rt 0)) x11 x12 h'/\oR h0 h' T R aC gO gv a' n N
 |0,t,aN,f,au,h,a,S=>by
  obtain⟨f,rfl⟩:=dx f (by omega);have a9:decide ((t:Int)<(L.length:Int))=false:=br (by omega);refine⟨h,a,?_,S⟩;rw[df];unfold BD Fe;simp only[aA,a9]
 |d+1,t,aN,f,au,h,a,S=>by
  obtain⟨h9,l3,cap,lo,m,ax,hm,y2,ae⟩:=P.some (by omega);obtain⟨f,rfl⟩:=dx f (by omega);have a9:decide ((t:Int)<(L.length:Int))=true:=bu (by omega);have dr:IntKind.i64.wrap ((t:Int)+1)=((t+1:Nat):Int):=cD (by omega);have bW:=gA (s:=8) (k:=h9) (off:=l3) (len:=L.length) (lo:=lo) (cap:=cap) (kd:= .i64) (i:=(t:Int)) (by omega) (by omega);rw[Int.toNat_natCast] at bW;obtain⟨k1,k2⟩:=ae t (by omega);obtain⟨g,h1,h2,b',s1,s2,ea,e2,mK,j5,bw,fA⟩:=R4 oK S.s1 k2 (off:=l3+t*8) hm y2 k1;obtain⟨h3,a8,pn,CO⟩:=aak oK hx P hk ay (x2:=x2) (x11:=x11) (x12:=x12) d (t+1) (by omega) f (by omega) h2 b' (S.step j5 bw fA);subst ax;refine⟨h3,a8,?_,CO⟩;rw[df];show Fe C lf (λa b c d g i j m=>bk (BD C lf hk ay) f (a,b,c,d,g,i,j,m)) hk ay _ _ _ _ _ _ _ _ h=_;unfold Fe;simp only[aA,a9,bW,s1,s2,ea,e2,mK,Bool.not_true,dr];exact pn
theorem aal{C:ad}(oK:vT C)(hx:L.length<=140737488355328)(P:oM h0 x L)(hk:aw)(ee:bo){x7 x8:O}:
 ∀(d t:Nat),t+d=L.length->∀f,d<f->∀h a',oR h0 h T R a gO gv a' n N->∃h' aC,bk (BC C lf hk ee) f (x7,x8,some (.ptr gO.a3 0),some (.ptr gv.rt 0),some x,some (I (L.length:Int)),some (I (t:Int))) h=ee x7 x8 (some (.ptr gO.a3 0)) (some (.ptr gv.rt 0)) h'/\oR h0 h' T R a gO gv aC n N
 |0,t,aN,f,au,h,a',S=>by
  obtain⟨f,rfl⟩:=dx f (by omega);have a9:decide ((t:Int)<(L.length:Int))=false:=br (by omega);refine⟨h,a',?_,S⟩;rw[df];unfold BC Fc;simp only[aA,a9]
 |d+1,t,aN,f,au,h,a',S=>by
  obtain⟨h9,l3,cap,lo,m,ax,hm,y2,ae⟩:=P.some (by omega);obtain⟨f,rfl⟩:=dx f (by omega);have a9:decide ((t:Int)<(L.length:Int))=true:=bu (by omega);have dr:IntKind.i64.wrap ((t:Int)+1)=((t+1:Nat):Int):=cD (by omega);have bW:=gA (s:=8) (k:=h9) (off:=l3) (len:=L.length) (lo:=lo) (cap:=cap) (kd:= .i64) (i:=(t:Int)) (by omega) (by omega);rw[Int.toNat_natCast] at bW;obtain⟨k1,k2⟩:=ae t (by omega);obtain⟨g,h1,h2,b',s1,s2,ea,e2,mK,j5,bw,fA⟩:=R4 oK S.s2 k2 (off:=l3+t*8) hm y2 k1;obtain⟨h3,a8,pn,CO⟩:=aal oK hx P hk ee (x7:=x7) (x8:=x8) d (t+1) (by omega) f (by omega) h2 b' (S.swap.step j5 bw fA).swap;subst ax;refine⟨h3,a8,?_,CO⟩;rw[df];show Fc C lf (λa b c d g i j=>bk (BC C lf hk ee) f (a,b,c,d,g,i,j)) hk ee _ _ _ _ _ _ _ h=_;unfold Fc;simp only[aA,a9,bW,s1,s2,ea,e2,mK,Bool.not_true,dr];exact pn
end
theorem amR{C:ad}{lf:Nat}{r:aw}{x0 x1 x2:O}{h:J}:Ta C lf r x0 x1 x2 h=Ku C lf (λx0 x1 x2 x7 x8 h=>Kt C lf r x0 x1 x2 x7 x8 h) x0 x1 x2 h:=rfl
section
variable{lf:Nat}{h0:J}{x y z:U}{L M K:List hq}
theorem amQ{C:ad}(gy:140737488355329<=lf)(au:iY h0)(Ju:mw<h0.next)(jt:hE h0)(Ns:Hd C)(oK:vT C)(xM:Gx C)(ND:CQ C)(uR:CN C)(apb:∀h,aD h0 h (λ_=>False)->C (.fn 35) [] h=some (.ret (.bool true),h))
 (P:oM h0 x L)(hx:L.length<=140737488355328)(Q:oM h0 y M)(kU:M.length<=140737488355328)(mT:oM h0 z K)(kB:K.length<=140737488355328):∃h',Ik C lf x y z h0=some (.ret (.bool true),h'):=by
 obtain⟨h1,T,R,aP,ig⟩:=(Ns h0 40 6 au jt Ju ⟨by omega,by omega⟩ ⟨by omega,by omega⟩).2 (by omega) (by omega) (by omega) (by omega);have vb:=P.len;have ap3:=Q.len;have ap4:=mT.len;have ap9:∀k,bin ao .eql 82 (.ptr k 0) (.val (.pointer none))=some (.bool false):=λk=>aaV Tryd.underlying82
 have aem:∀k,bin ao .eql 64 (.ptr k 0) (.val (.pointer none))=some (.bool false):=λk=>aaV Tryd.underlying64
 obtain⟨h2,aC,a1,j5⟩:=aaj (lf:=lf) oK hx P u1 (λx1 x2 x7 x8 h=>Kx C lf u1 x1 x2 x7 x8 h) (x1:=some y) (x2:=some z) L.length 0 (by omega) lf (by omega) h1 _ ig;obtain⟨h3,aT,gO,gv,a',cm,cb,dC,Y1,d4⟩:=aBt ND uR j5 (j5.F.dm au);have akz:oR h0 aT T R aC gO gv a' _ _:=⟨dC,Y1,d4⟩;obtain⟨bz,n1,pF⟩:=xM aT gO gv _ _ a' Y1.r;obtain⟨bA,dH,lq,akA⟩:=aak (lf:=lf) oK kU Q u1 (λx2 x7 x8 x11 x12 h=>Kw C lf u1 x2 x7 x8 x11 x12 h) (x2:=some z) (x11:=some (.ptr gO.a3 0)) (x12:=some (.ptr gv.rt 0)) M.length 0 (by omega) lf (by omega) bz _ (akz.fU pF);obtain⟨dN,fE,r2,NK⟩:=aal (lf:=lf) oK kB mT u1 (λx7 x8 x11 x12 h=>Kv C lf u1 x7 x8 x11 x12 h) (x7:=some (.ptr T.a3 0)) (x8:=some (.ptr R.rt 0)) K.length 0 (by omega) lf (by omega) bA _ akA;obtain⟨e0,mn,lg⟩:=xM dN T R _ _ _ NK.s1.r;obtain⟨nz,N7,rM⟩:=xM e0 gO gv _ _ _ (NK.fU lg).s2.r;have lv:=apb nz ((NK.s1.F.trans lg).trans rM);refine⟨nz,?_⟩;unfold Ik;rw[amR];unfold Ku;simp only[cf,b8,ks,aP,qC,List.getElem?_cons_zero,List.getElem?_cons_succ];unfold Kt S9;simp only[aA,aem,ap9];unfold S8 S7 S6;simp only[cf,b8,vb];refine Eq.trans a1 ?_;unfold Kx Ti;simp only[cf,b8,ks,cm,cb];unfold Th Tg;simp only[aA,aem,n1,Bool.not_true];unfold Tf Te Td;simp only[cf,b8,ap3];refine Eq.trans lq ?_;unfold Kw Tc Tb;simp only[cf,b8,ap4];refine Eq.trans r2 ?_;unfold Kv u1;simp only[aA,mn,N7,lv]
end
@[irreducible] def bh:Nat:=2 ^ 64
theorem im{n:Nat}(h:n<=2 ^ 64):n<=bh:=by unfold bh;exact h
theorem amc{P:Program}{tab:aH (gx P)}{lf n k:Nat}{y:cx P}{f:FuncId}{args:List U}{h:J}(ai:k=n+1)(bb:y.x.f=f)(bc:o2 (path f) tab=some (.fn y)):(hK tab lf k).call (.fn f) args h=y.s (hK tab lf n).call lf args h:=by
 subst ai
 have:(hK tab lf (n+1)).call (.fn f) args h=zX (hK tab lf n) lf f args h (o2 (path f) tab):=rfl
 rw[this,bc];simp only[zX,bb,Nat.beq_refl,cond_true]
noncomputable def ai6{P:Program}:List (FuncId×gx P)->aH (gx P)
 | []=> .nil
 |(f,x)::xs=>(ai6 xs).put f x
noncomputable def PV:b1 Tryd.prog:=⟨35,Tryd.f35,λ_=> .text,Tryd.func35,by kernel_rfl,by kernel_rfl,by kernel_rfl,by kernel_rfl⟩
noncomputable def H6(x0:O)(h:J):ab:=
 ob x0 λah=>
 some (.ret ah,h)
noncomputable def agC(C:ad)(lf:Nat)(r:aw)(h:J):ab:=
 dL (C (.fn 36) [(.int .i64 4),(.int .i64 2)] h) λy1 h1=>
 ob (ext 0 y1) λrI=>
 ob (ext 1 y1) λGq=>
 ob (bin Tryd.prog .eql 64 rI (.val (.pointer none))) λAd=>
 dL (cT false (some Ad) (some (.ret Gq,h1)) h1) λMv bz=>
 dL (cT false (some Ad) (dL (C (.fn 34) [Mv] bz) λaFP bA=>
 some (.ret aFP,bA)) bz) λajy dN=>
 dL (cT false (some Ad) (ob (bin Tryd.prog .neq 3 ajy (.int .i64 0)) λaFQ=>
 some (.ret aFQ,dN)) dN) λaFR nz=>
 ob (jH Ad (.bool true) aFR) λYl=>
 gn Yl
 (r (some (.bool false)) nz)
 (dL (C (.fn 37) [rI,(.int .i64 33188),(.int .i64 0),(.int .i64 0)] nz) λMq lC=>
 ob (ext 0 Mq) λGp=>
 ob (ext 1 Mq) λaFk=>
 b2 (gp Tryd.prog 24 2 [0,1] [(.int .u8 97),(.int .u8 98)] lC) λaFl aoQ=>
 b2 (rJ Tryd.prog 24 24 aFl aoQ) λaFm aoR=>
 dL (C (.fn 38) [rI,Gp,(.int .i64 100),aFm] aoR) λajw aoS=>
 ob (ext 0 ajw) λaFn=>
 ob (ext 1 ajw) λaFo=>
 dL (C (.fn 41) [rI,Gp,(.int .i64 98),(.int .i64 10)] aoS) λajx qR=>
 ob (ext 0 ajx) λaFp=>
 ob (ext 1 ajx) λaFq=>
 ob (bin Tryd.prog .eql 3 Gp (.int .i64 1)) λMr=>
 dL (cT true (some Mr) (some (.ret aFk,qR)) qR) λaFr adE=>
 dL (cT true (some Mr) (dL (C (.fn 34) [aFr] adE) λaFs aoT=>
 some (.ret aFs,aoT)) adE) λaFt Jc=>
 dL (cT true (some Mr) (ob (bin Tryd.prog .eql 3 aFt (.int .i64 0)) λaFu=>
 some (.ret aFu,Jc)) Jc) λaFv yL=>
 ob (jH Mr aFv (.bool false)) λYm=>
 dL (cT true (some Ym) (some (.ret aFn,yL)) yL) λaFw adF=>
 dL (cT true (some Ym) (ob (bin Tryd.prog .eql 3 aFw (.int .i64 2)) λaFx=>
 some (.ret aFx,adF)) adF) λaFy adG=>
 ob (jH Ym aFy (.bool false)) λMs=>
 dL (cT true (some Ms) (some (.ret aFo,adG)) adG) λaFz Be=>
 dL (cT true (some Ms) (dL (C (.fn 34) [aFz] Be) λaFA aoU=>
 some (.ret aFA,aoU)) Be) λaFB wN=>
 dL (cT true (some Ms) (ob (bin Tryd.prog .eql 3 aFB (.int .i64 0)) λaFC=>
 some (.ret aFC,wN)) wN) λaFD adH=>
 ob (jH Ms aFD (.bool false)) λMt=>
 dL (cT true (some Mt) (some (.ret aFq,adH)) adH) λaFE adI=>
 dL (cT true (some Mt) (dL (C (.fn 34) [aFE] adI) λaFF aoW=>
 some (.ret aFF,aoW)) adI) λaFG adJ=>
 dL (cT true (some Mt) (ob (bin Tryd.prog .eql 3 aFG (.int .i64 0)) λaFH=>
 some (.ret aFH,adJ)) adJ) λaFI adK=>
 ob (jH Mt aFI (.bool false)) λMu=>
 dL (cT true (some Mu) (some (.ret aFp,adK)) adK) λaFJ adL=>
 dL (cT true (some Mu) (b2 (rJ Tryd.prog 24 9 aFJ adL) λaFK aoX=>
 some (.ret aFK,aoX)) adL) λaFL adM=>
 dL (cT true (some Mu) (ob (bin Tryd.prog .eql 9 aFL (.str (ZP [0,0,97,98]))) λaFM=>
 some (.ret aFM,adM)) adM) λaFN aoY=>
 ob (jH Mu aFN (.bool false)) λaFO=>
 r (some aFO) aoY)
theorem avH(C:ad)(lf:Nat)(r:aw)(ba:hp)(an:lj):∀F h,ar PV C lf [] F h ba (λF h=>r (F 0) h) an=agC C lf r h:=by
 intro F h;kernel_rfl
noncomputable def abj(C:ad)(lf:Nat)(h:J):ab:=agC C lf H6 h
theorem aop(C:ad)(lf:Nat)(h:J):uI Tryd.prog PV C lf [] h=abj C lf h:=cS (K:=(λF h=>H6 (F 0) h)) (by kernel_rfl) (((avH C lf H6 (λF h=>H6 (F 0) h) (λ_ _ _=>none)) _ h).trans (by kernel_rfl))
noncomputable def aor:cx Tryd.prog:=akD PV abj aop (by kernel_rfl)
end Go.Proofs.YtomialandfplkaaDoor.Eva
namespace Go.Proofs.YtomialandfplkaaDoor.Eva
section
open Go.ChangeShapes Go.WideShapes Go.ChangeAt Go.RowKit Go.Xe
noncomputable def ai5{P:Program}:List (FuncId×gx P)->aH (gx P)
 | []=> .nil
 |(f,x)::xs=>(ai5 xs).put f x
noncomputable def tab:aH (gx Tryd.prog):=ai5 [(16,.fn PX),(17,.fn PY),(18,.fn PZ),(21,.fn P0),(33,.fn P1),(34,.fn P2),(36,.fn P3),(37,.fn P4),(38,.fn P5),(41,.fn P6),(62,.fn P7),(63,.fn P8),(64,.fn P9),(73,.fn Qa),(74,.fn Qb),(75,.fn Qc),(76,.fn Qd),(77,.fn Qe),(35,.fn aor)]
def zs:List Int:=[0,1,56,2,57,49,28,3,61,58,42,50,38,29,17,4,62,47,59,36,45,43,51,22,53,39,33,30,24,18,12,5,63,55,48,27,60,41,37,16,46,35,44,21,52,32,23,11,54,26,40,15,34,20,31,10,25,14,19,9,13,8,7,6]
theorem mixed:Tryd.prog.follows .mixedOrders=true:=by kernel_rfl
theorem laidOut:laidOutB Tryd.prog=true:=by kernel_rfl
theorem own:ownKnob Tryd.prog.godebug=none:=by kernel_rfl
theorem adx:Tryd.prog.globalNamed "math/bits.deBruijn64tab"=some 0:=by kernel_rfl
theorem aow:(Tryd.prog.globals[0]?).map (·.type)=some 110:=by kernel_rfl
theorem amh:Tryd.prog.cellsOf 110=64:=by kernel_rfl
theorem Z0:Tryd.prog.cellsOf 5=1:=by kernel_rfl
theorem table{W:World}(h:laidMetH Tryd.prog [("math/bits.deBruijn64tab",Rows.laid_math_bits_deBruijn64tab)] W):Lib.TabIs Tryd.prog W "math/bits.deBruijn64tab" .u8 zs:=
 Lib.tabIs_of_head (rest:=[]) adx aow Tryd.underlying110 Tryd.underlying5 Z0 amh h
noncomputable def aV:cE:=L6 0 110 64 (zs.map (.int .u8))
noncomputable def RD(os:Os):World:=
 {World.holding Tryd.prog os ⟨#[], #[],[]⟩ with heap:=(World.holding Tryd.prog os ⟨#[], #[],[]⟩).heap.modify 0 λ
   | .cells _ t frozen=> .cells #[.int .u8 0,.int .u8 1,.int .u8 56,.int .u8 2,.int .u8 57,.int .u8 49,.int .u8 28,.int .u8 3,.int .u8 61,.int .u8 58,.int .u8 42,.int .u8 50,.int .u8 38,.int .u8 29,.int .u8 17,.int .u8 4,.int .u8 62,.int .u8 47,.int .u8 59,.int .u8 36,.int .u8 45,.int .u8 43,.int .u8 51,.int .u8 22,.int .u8 53,.int .u8 39,.int .u8 33,.int .u8 30,.int .u8 24,.int .u8 18,.int .u8 12,.int .u8 5,.int .u8 63,.int .u8 55,.int .u8 48,.int .u8 27,.int .u8 60,.int .u8 41,.int .u8 37,.int .u8 16,.int .u8 46,.int .u8 35,.int .u8 44,.int .u8 21,.int .u8 52,.int .u8 32,.int .u8 23,.int .u8 11,.int .u8 54,.int .u8 26,.int .u8 40,.int .u8 15,.int .u8 34,.int .u8 20,.int .u8 31,.int .u8 10,.int .u8 25,.int .u8 14,.int .u8 19,.int .u8 9,.int .u8 13,.int .u8 8,.int .u8 7,.int .u8 6] t frozen
   |o=>o}
end
end Go.Proofs.YtomialandfplkaaDoor.Eva
namespace Go.Proofs.YtomialandfplkaaDoor.Eva
open Go.Xe
set_option maxRecDepth 100000 in
theorem arx:XG ((hK tab 100000 1000).call (.iJ 35) [] ⟨1,1,aV⟩)=true:=by kernel_rfl
theorem aCF{r:ab}(h:XG r=true):∃h',r=some (.ret (.bool true),h'):=by
 unfold XG at h;split at h
 ·exact⟨_,rfl⟩
 ·cases h
noncomputable def aaf:List U->Option U
 | []=>some (.bool true)
 |_=>none
noncomputable def HI:pE Tryd.prog:=amG (tab:=tab) (lf:=100000) (fuel:=1000) mixed 0 110 64 .u8 zs (by decide) 35 aaf
 (λargs y h=>by
   cases args with
   |nil=>cases h;exact⟨rfl,rfl⟩
   |cons a l=>cases h)
 (λargs y h=>by
   cases args with
   |nil=>
    cases h;exact aCF arx
   |cons a l=>cases h)
noncomputable def cons:List (pE Tryd.prog):=[HI]
theorem amJ{C:ad}{h:J}(aN:mx 0 .u8 zs h=true):tr cons C (.fn 35) [] h=some (.ret (.bool true),h):=by
 have h1:yp cons 35=some HI:=rfl
 have h2:HI.g [] h=some (.bool true):=by
  show(bif mx 0 .u8 zs h then aaf [] else none)=_;rw[aN];rfl
 simp only[tr,h1,h2]
theorem C8{C:ad}{f:Nat}(au:Nat.beq 35 f=false)(args:List U)(h:J):tr cons C (.fn f) args h=C (.fn f) args h:=by
 have h1:yp cons f=none:=by
  show(bif Nat.beq 35 f then some HI else none)=none;rw[au];rfl
 simp only[tr,h1]
end Go.Proofs.YtomialandfplkaaDoor.Eva
namespace Go.Proofs.YtomialandfplkaaDoor.Eva
section
open Go.Xe Go.ChangeShapes Go.WideShapes Go.ChangeAt Go.RowKit
section
variable{H:Type}{enc:TypeId×Value->H}{w:World}
abbrev Md:TypeId:=92
abbrev X7:TypeId:=88
theorem ami:ao.cellsOf Md=8:=by kernel_rfl
theorem alY:ao.bytesOf Md=80:=by kernel_rfl
theorem cellsIn:∀t∈ [5,3,68,24,2],ao.cellsOf t=1:=by
 intro t aN;simp only[List.mem_cons,List.not_mem_nil,or_false] at aN;rcases aN with rfl|rfl|rfl|rfl|rfl<;>kernel_rfl
theorem alX:ao.bytesOf 5=1:=by kernel_rfl
theorem aqE{x:U}{l:List Nat}(B:Bytes (hf w) x l){j:Nat}(e:rowOf x=some j):j<(hf w).next:=by
 rcases B.2 with⟨rfl|⟨_,rfl⟩,_⟩|⟨k1,ob,cap,lo,m,rfl,hm,_⟩
 ·cases e
 ·cases e
 ·cases e;exact Rn hm
theorem asE{fuel:Nat}{cs:List Value}{d:DataW H}{ps:List MemPlace}(aJ:cs.length=8)(au:DataW.trod enc ao w 0 (λ_=>true) true fuel Md cs=some (d,ps))(hw:mV ao Md d):
 ∃a:hq,(∀j,j<8->(cs[j]?).map (lift w.heap.size)=a.cells[j]?)/\a.np (hf w):=by
 have hu:=Tryd.underlying92;have mn:ao.cellsOf 5=1:=cellsIn _ (by simp);have ci:ao.cellsOf 3=1:=cellsIn _ (by simp);have amq:ao.cellsOf 68=1:=cellsIn _ (by simp);have wu:ao.cellsOf 24=1:=cellsIn _ (by simp);have aap:ao.cellsOf 2=1:=cellsIn _ (by simp);obtain⟨v0,_,_,_,_,cG,_,_,t0⟩:=tz (i:=0) (o:=0) hu au rfl rfl rfl mn (by omega);obtain⟨v1,_,_,_,_,aP,_,_,t1⟩:=tz (i:=1) (o:=1) hu au rfl rfl rfl ci (by omega);obtain⟨v2,_,_,_,_,a1,_,_,t2⟩:=tz (i:=2) (o:=2) hu au rfl rfl rfl ci (by omega);obtain⟨hL,_,_,_,_,cm,_,_,t3⟩:=tz (i:=3) (o:=3) hu au rfl rfl rfl ci (by omega);obtain⟨v4,_,_,_,_,cb,_,_,t4⟩:=tz (i:=4) (o:=4) hu au rfl rfl rfl amq (by omega);obtain⟨X9,_,_,_,_,n1,rfl,iI,t5⟩:=tz (i:=5) (o:=5) hu au rfl rfl rfl wu (by omega);obtain⟨v6,_,_,_,_,lq,_,_,t6⟩:=tz (i:=6) (o:=6) hu au rfl rfl rfl aap (by omega);obtain⟨ajk,_,_,_,_,r2,_,_,t7⟩:=tz (i:=7) (o:=7) hu au rfl rfl rfl aap (by omega);obtain⟨uh,rfl,g0⟩:=zk Tryd.underlying5 t0
 obtain⟨cA,rfl,g1⟩:=zk Tryd.underlying3 t1;obtain⟨ck,rfl,g2⟩:=zk Tryd.underlying3 t2;obtain⟨e6,rfl,g3⟩:=zk Tryd.underlying3 t3;obtain⟨jm,rfl,g4⟩:=zk Tryd.underlying68 t4;obtain⟨l,B,yR,apY⟩:=al2 Tryd.underlying24 Tryd.underlying5 Z0 alX t5 (hw.tz hu rfl rfl iI);obtain⟨BT,rfl,g6⟩:=zk Tryd.underlying2 t6;obtain⟨afs,rfl,g7⟩:=zk Tryd.underlying2 t7;have hU:IntKind.i64.min= -9223372036854775808:=rfl;have hH:IntKind.i64.max=9223372036854775807:=rfl;have zy:IntKind.u8.min=0:=rfl;have oA:IntKind.u8.max=255:=rfl;have ai:uh=((uh.toNat:Nat):Int):=by omega
 refine⟨⟨uh.toNat,cA,ck,e6,jm,lift w.heap.size X9,BT,afs,l⟩,λj aa=>?_,⟨by show uh.toNat<256;omega,⟨by show _<=cA;omega,by show cA<_;omega⟩,⟨by show _<=ck;omega,by show ck<_;omega⟩,⟨by show _<=e6;omega,by show e6<_;omega⟩,⟨by show _<=jm;omega,by show jm<_;omega⟩,B,apY,λj aa=>aqE B aa⟩⟩
 match j,aa with
 |0,_=>rw[cG];show some (U.int .u8 uh)=some (U.int .u8 ((uh.toNat:Nat):Int));rw[<- ai]
 |1,_=>rw[aP];rfl
 |2,_=>rw[a1];rfl
 |3,_=>rw[cm];rfl
 |4,_=>rw[cb];rfl
 |5,_=>rw[n1];rfl
 |6,_=>rw[lq];rfl
 |7,_=>rw[r2];rfl
set_option maxRecDepth 100000 in
theorem R5{v:Value}{d:DataW H}{ps:List MemPlace}{r:Reach}{wi j:Nat}{c8:List TypeId}{bq:List (DataW H)}(vj:Value.okWide ao w r wi X7 v)
 (h:DataW.Trod enc ao w 0 (λ_=>true) true X7 v d ps)(Ri:c8[j]?=some X7)(QP:bq[j]?=some d)(aX:(DataW.weightsEach ao c8 bq).all (· <=reachBytes)=true):
 ∃L,oM (hf w) (vo w.heap.size v) L/\L.length<=140737488355328:=by
 rcases aCS Tryd.underlying88 ami (by omega) vj h Ri QP aX with az|⟨id,off,len,cap,m,az,_,hm,h3,gd⟩
 ·exact⟨[],.inl ⟨az,rfl⟩,Nat.zero_le _⟩
 ·have each:∀i,i<len->∃a:hq,(∀j,j<8->(hf w).cell id (off+i*8+j)=a.cells[j]?)/\a.np (hf w):=λi hi=>by
   obtain⟨cs,tB,hQ,rr,g1,g2,g3,g4⟩:=gd i hi;obtain⟨a,k1,k2⟩:=asE g1 g4 g2;exact⟨a,λj aa=>(g3 j aa).trans (k1 j aa),k2⟩
  obtain⟨L,h1,h2⟩:=Z3 each;rw[alY] at h3;exact⟨L,.inr ⟨id,off,some cap,0,m,by rw[az,h1],hm,Rn hm,λt aN=>h2 t aN⟩,by omega⟩
end
end
end Go.Proofs.YtomialandfplkaaDoor.Eva
namespace Go.Proofs.YtomialandfplkaaDoor.Eva
open Go.Xe
noncomputable def xC:aH (gx ao):=ai6 [(64,.fn P9),(63,.fn P8),(33,.fn P1),(23,.fn acw),(16,.fn PX),(17,.fn PY),(21,.fn P0),(18,.fn PZ),(65,.fn ac0),(19,.fn acu),(20,.fn acv),(29,.fn acA),(72,.fn ac5),(30,.fn acB),(32,.fn acD),(31,.fn acC),(66,.fn ac1),(67,.fn ac2),(24,.fn acx),(69,.fn ac3),(71,.fn ac4),(73,.fn Qa),(62,.fn P7),(74,.fn Qb),(76,.fn Qd),(77,.fn Qe),(36,.fn P3),(37,.fn P4),(90,.fn adk),(75,.fn Qc),(38,.fn P5),(41,.fn P6),(91,.fn adl),(92,.fn adm),(78,.fn ac6),(40,.fn acF),(93,.fn adn),(79,.fn ac7),(42,.fn acG),(51,.fn acP),(89,.fn adj),(55,.fn acT),(56,.fn acU),(58,.fn acW),(57,.fn acV),(60,.fn acY),(61,.fn acZ),(59,.fn acX),(81,.fn ac9),(47,.fn acL),(46,.fn acK),(48,.fn acM),(39,.fn acE),(44,.fn acI),(104,.fn acm),(108,.fn acq),(101,.fn aci),(103,.fn ack),(99,.fn adt),(102,.fn acj),(105,.fn acn),(110,.fn acs),(106,.fn aco),(94,.fn ado),(107,.fn acp),(96,.fn adq),(109,.fn acr),(100,.fn ach),(98,.fn ads),(97,.fn adr),(88,.fn adi),(87,.fn adh),(86,.fn adg),(85,.fn adf),(84,.fn ade),(80,.fn ac8),(34,.fn P2),(45,.fn acJ),(43,.fn acH),(95,.fn adp),(82,.fn ada),(83,.fn adb),(50,.fn acO),(52,.fn acQ),(49,.fn acN),(27,.fn acz),(26,.fn acy),(53,.fn acR),(54,.fn acS)]
noncomputable abbrev H(lf n:Nat):ad:=(hK xC lf n).call
theorem cZ{lf n:Nat}{f:FuncId}{args:List U}{h:J}{R:ab}(y:cx ao)(bc:o2 (path f) xC=some (.fn y))(bb:y.x.f=f)(ak:y.s (H lf n) lf args h=R):H lf (n+1) (.fn f) args h=R:=(amc rfl bb bc).trans ak
theorem aEt{lf n:Nat}{f:FuncId}{args:List U}{h:J}{R:ab}(y:cx ao)(bc:o2 (path f) xC=some (.fn y))(bb:y.x.f=f)(ak:y.s (H lf n) lf args h=R):H lf (n+1) (.iJ f) args h=R:=by
 have:H lf (n+1) (.iJ f) args h=Go.Xe.runN (hK xC lf n) lf f args h (o2 (path f) xC):=rfl
 rw[this,bc];simp only[Go.Xe.runN,bb,Nat.beq_refl,cond_true];exact ak
theorem cL{lf:Nat}:(∀n ah h,H lf (n+1) (.fn 64) [ah] h=IL (H lf n) lf ah h)/\(∀n ah h,H lf (n+1) (.fn 63) [ah] h=IK (H lf n) lf ah h)/\(∀n ah aj h,H lf (n+1) (.fn 33) [ah,aj] h=Iv (H lf n) lf ah aj h)/\(∀n ah aj h,H lf (n+1) (.fn 23) [ah,aj] h=Dr (H lf n) lf ah aj h)/\(∀n ah h,H lf (n+1) (.fn 16) [ah] h=Dn (H lf n) lf ah h)/\(∀n ah h,H lf (n+1) (.fn 17) [ah] h=A4 (H lf n) lf ah h)/\(∀n ah aj h,H lf (n+1) (.fn 21) [ah,aj] h=Dq (H lf n) lf ah aj h)/\(∀n ah aj aC a8 h,H lf (n+1) (.fn 18) [ah,aj,aC,a8] h=Dp (H lf n) lf ah aj aC a8 h)/\(∀n ah h,H lf (n+1) (.fn 65) [ah] h=IM (H lf n) lf ah h)/\(∀n ah h,H lf (n+1) (.fn 19) [ah] h=Il (H lf n) lf ah h)/\(∀n ah h,H lf (n+1) (.fn 20) [ah] h=Im (H lf n) lf ah h)/\(∀n ah h,H lf (n+1) (.fn 29) [ah] h=Ir (H lf n) lf ah h)/\(∀n ah aj h,H lf (n+1) (.fn 72) [ah,aj] h=IQ (H lf n) lf ah aj h)/\(∀n ah h,H lf (n+1) (.fn 30) [ah] h=Is (H lf n) lf ah h)/\(∀n ah h,H lf (n+1) (.fn 32) [ah] h=Iu (H lf n) lf ah h)/\(∀n ah aj h,H lf (n+1) (.fn 31) [ah,aj] h=It (H lf n) lf ah aj h)/\(∀n ah h,H lf (n+1) (.fn 66) [ah] h=A7 (H lf n) lf ah h)/\(∀n ah aj h,H lf (n+1) (.fn 67) [ah,aj] h=Dz (H lf n) lf ah aj h)/\(∀n ah h,H lf (n+1) (.fn 24) [ah] h=Io (H lf n) lf ah h)/\(∀n ah h,H lf (n+1) (.fn 69) [ah] h=IN (H lf n) lf ah h)/\(∀n ah aj h,H lf (n+1) (.fn 71) [ah,aj] h=IP (H lf n) lf ah aj h)/\(∀n ah h,H lf (n+1) (.fn 73) [ah] h=IS (H lf n) lf ah h)/\(∀n ah aj h,H lf (n+1) (.fn 62) [ah,aj] h=IJ (H lf n) lf ah aj h)/\(∀n ah aj h,H lf (n+1) (.fn 74) [ah,aj] h=IT (H lf n) lf ah aj h)/\(∀n ah aj h,H lf (n+1) (.fn 76) [ah,aj] h=IU (H lf n) lf ah aj h)/\(∀n ah aj h,H lf (n+1) (.fn 77) [ah,aj] h=IV (H lf n) lf ah aj h)/\(∀n ah aj h,H lf (n+1) (.fn 36) [ah,aj] h=Ds (H lf n) lf ah aj h)/\(∀n ah aj aC a8 h,H lf (n+1) (.fn 37) [ah,aj,aC,a8] h=wG (H lf n) lf ah aj aC a8 h)/\(∀n ah aj h,H lf (n+1) (.fn 90) [ah,aj] h=I4 (H lf n) lf ah aj h)/\(∀n ah aj aC h,H lf (n+1) (.fn 75) [ah,aj,aC] h=DA (H lf n) lf ah aj aC h)/\(∀n ah aj aC a8 h,H lf (n+1) (.fn 38) [ah,aj,aC,a8] h=sa (H lf n) lf ah aj aC a8 h)/\(∀n ah aj aC a8 h,H lf (n+1) (.fn 41) [ah,aj,aC,a8] h=u3 (H lf n) lf ah aj aC a8 h)/\(∀n ah aj h,H lf (n+1) (.fn 91) [ah,aj] h=DE (H lf n) lf ah aj h)/\(∀n ah h,H lf (n+1) (.fn 92) [ah] h=I5 (H lf n) lf ah h)/\(∀n ah aj aC h,H lf (n+1) (.fn 78) [ah,aj,aC] h=IW (H lf n) lf ah aj aC h)/\(∀n ah aj aC h,H lf (n+1) (.fn 40) [ah,aj,aC] h=tA (H lf n) lf ah aj aC h)/\(∀n ah aj h,H lf (n+1) (.fn 93) [ah,aj] h=I6 (H lf n) lf ah aj h)/\(∀n ah h,H lf (n+1) (.fn 79) [ah] h=IX (H lf n) lf ah h)/\(∀n ah aj h,H lf (n+1) (.fn 42) [ah,aj] h=Iy (H lf n) lf ah aj h)/\(∀n ah aj h,H lf (n+1) (.fn 51) [ah,aj] h=Dv (H lf n) lf ah aj h)/\(∀n ah aj h,H lf (n+1) (.fn 89) [ah,aj] h=DD (H lf n) lf ah aj h)/\(∀n ah aj h,H lf (n+1) (.fn 55) [ah,aj] h=II (H lf n) lf ah aj h)/\(∀n ah aj aC h,H lf (n+1) (.fn 56) [ah,aj,aC] h=Dw (H lf n) lf ah aj aC h)/\(∀n ah aj aC a8 h,H lf (n+1) (.fn 58) [ah,aj,aC,a8] h=Dx (H lf n) lf ah aj aC a8 h)/\(∀n ah aj aC a8 h,H lf (n+1) (.fn 57) [ah,aj,aC,a8] h=A5 (H lf n) lf ah aj aC a8 h)/\(∀n ah aj h,H lf (n+1) (.fn 60) [ah,aj] h=Dy (H lf n) lf ah aj h)/\(∀n ah aj h,H lf (n+1) (.fn 61) [ah,aj] h=A6 (H lf n) lf ah aj h)/\(∀n ah aj aC h,H lf (n+1) (.fn 59) [ah,aj,aC] h=yF (H lf n) lf ah aj aC h)/\(∀n ah aj h,H lf (n+1) (.iJ 81) [ah,aj] h=DB (H lf n) lf ah aj h)/\(∀n ah h,H lf (n+1) (.fn 47) [ah] h=IC (H lf n) lf ah h)/\(∀n ah h,H lf (n+1) (.fn 46) [ah] h=IB (H lf n) lf ah h)/\(∀n ah h,H lf (n+1) (.fn 48) [ah] h=ID (H lf n) lf ah h)/\(∀n ah h,H lf (n+1) (.fn 39) [ah] h=Ix (H lf n) lf ah h)/\(∀n ah aj h,H lf (n+1) (.fn 44) [ah,aj] h=Dt (H lf n) lf ah aj h)/\(∀n ah aj h,H lf (n+1) (.fn 104) [ah,aj] h=Ie (H lf n) lf ah aj h)/\(∀n ah h,H lf (n+1) (.fn 108) [ah] h=Ih (H lf n) lf ah h)/\(∀n ah aj aC h,H lf (n+1) (.fn 101) [ah,aj,aC] h=Dk (H lf n) lf ah aj aC h)/\(∀n ah aj aC a8 h,H lf (n+1) (.fn 103) [ah,aj,aC,a8] h=Dl (H lf n) lf ah aj aC a8 h)/\(∀n ah aj h,H lf (n+1) (.fn 99) [ah,aj] h=DF (H lf n) lf ah aj h)/\(∀n ah aj aC a8 h,H lf (n+1) (.fn 102) [ah,aj,aC,a8] h=A3 (H lf n) lf ah aj aC a8 h)/\(∀n ah h,H lf (n+1) (.fn 105) [ah] h=Ig (H lf n) lf ah h)/\(∀n ah aj aC h,H lf (n+1) (.fn 110) [ah,aj,aC] h=Ij (H lf n) lf ah aj aC h)/\(∀n ah aj aC h,H lf (n+1) (.fn 106) [ah,aj,aC] h=yE (H lf n) lf ah aj aC h)/\(∀n ah aj aC a8 h,H lf (n+1) (.fn 94) [ah,aj,aC,a8] h=wH (H lf n) lf ah aj aC a8 h)/\(∀n ah aj aC h,H lf (n+1) (.fn 107) [ah,aj,aC] h=Dm (H lf n) lf ah aj aC h)/\(∀n ah aj aC h,H lf (n+1) (.fn 96) [ah,aj,aC] h=yG (H lf n) lf ah aj aC h)/\(∀n ah aj h,H lf (n+1) (.fn 109) [ah,aj] h=Ii (H lf n) lf ah aj h)/\(∀n ah aj h,H lf (n+1) (.fn 100) [ah,aj] h=A2 (H lf n) lf ah aj h)/\(∀n ah aj aC h,H lf (n+1) (.fn 98) [ah,aj,aC] h=yH (H lf n) lf ah aj aC h)/\(∀n ah aj aC a8 h,H lf (n+1) (.fn 97) [ah,aj,aC,a8] h=wI (H lf n) lf ah aj aC a8 h)/\(∀n ah aj aC a8 h,H lf (n+1) (.fn 88) [ah,aj,aC,a8] h=A8 (H lf n) lf ah aj aC a8 h)/\(∀n ah aj h,H lf (n+1) (.fn 87) [ah,aj] h=DC (H lf n) lf ah aj h)/\(∀n ah aj h,H lf (n+1) (.fn 86) [ah,aj] h=I3 (H lf n) lf ah aj h)/\(∀n ah h,H lf (n+1) (.fn 85) [ah] h=I2 (H lf n) lf ah h)/\(∀n ah h,H lf (n+1) (.fn 84) [ah] h=I1 (H lf n) lf ah h)/\(∀n ah h,H lf (n+1) (.fn 80) [ah] h=IY (H lf n) lf ah h)/\(∀n ah h,H lf (n+1) (.fn 34) [ah] h=Iw (H lf n) lf ah h)/\(∀n ah aj h,H lf (n+1) (.fn 45) [ah,aj] h=IA (H lf n) lf ah aj h)/\(∀n ah aj h,H lf (n+1) (.fn 43) [ah,aj] h=Iz (H lf n) lf ah aj h)/\(∀n ah h,H lf (n+1) (.fn 95) [ah] h=I7 (H lf n) lf ah h)/\(∀n ah aj aC h,H lf (n+1) (.fn 82) [ah,aj,aC] h=IZ (H lf n) lf ah aj aC h)/\(∀n ah aj aC h,H lf (n+1) (.fn 83) [ah,aj,aC] h=I0 (H lf n) lf ah aj aC h)/\(∀n ah aj aC h,H lf (n+1) (.fn 50) [ah,aj,aC] h=IE (H lf n) lf ah aj aC h)/\(∀n ah aj h,H lf (n+1) (.fn 52) [ah,aj] h=IF (H lf n) lf ah aj h)/\(∀n ah aj h,H lf (n+1) (.fn 49) [ah,aj] h=Du (H lf n) lf ah aj h)/\(∀n ah h,H lf (n+1) (.fn 27) [ah] h=Iq (H lf n) lf ah h)/\(∀n ah h,H lf (n+1) (.fn 26) [ah] h=Ip (H lf n) lf ah h)/\(∀n ah h,H lf (n+1) (.fn 53) [ah] h=IG (H lf n) lf ah h)/\(∀n ah h,H lf (n+1) (.fn 54) [ah] h=IH (H lf n) lf ah h):=
 ⟨λ_ _ _=>cZ P9 (by kernel_rfl) rfl (by kernel_rfl),λ_ _ _=>cZ P8 (by kernel_rfl) rfl (by kernel_rfl),λ_ _ _ _=>cZ P1 (by kernel_rfl) rfl (by kernel_rfl),λ_ _ _ _=>cZ acw (by kernel_rfl) rfl (by kernel_rfl),λ_ _ _=>cZ PX (by kernel_rfl) rfl (by kernel_rfl),λ_ _ _=>cZ PY (by kernel_rfl) rfl (by kernel_rfl),λ_ _ _ _=>cZ P0 (by kernel_rfl) rfl (by kernel_rfl),λ_ _ _ _ _ _=>cZ PZ (by kernel_rfl) rfl (by kernel_rfl),λ_ _ _=>cZ ac0 (by kernel_rfl) rfl (by kernel_rfl),λ_ _ _=>cZ acu (by kernel_rfl) rfl (by kernel_rfl),λ_ _ _=>cZ acv (by kernel_rfl) rfl (by kernel_rfl),λ_ _ _=>cZ acA (by kernel_rfl) rfl (by kernel_rfl),λ_ _ _ _=>cZ ac5 (by kernel_rfl) rfl (by kernel_rfl),λ_ _ _=>cZ acB (by kernel_rfl) rfl (by kernel_rfl),λ_ _ _=>cZ acD (by kernel_rfl) rfl (by kernel_rfl),λ_ _ _ _=>cZ acC (by kernel_rfl) rfl (by kernel_rfl),λ_ _ _=>cZ ac1 (by kernel_rfl) rfl (by kernel_rfl),λ_ _ _ _=>cZ ac2 (by kernel_rfl) rfl (by kernel_rfl),λ_ _ _=>cZ acx (by kernel_rfl) rfl (by kernel_rfl),λ_ _ _=>cZ ac3 (by kernel_rfl) rfl (by kernel_rfl),λ_ _ _ _=>cZ ac4 (by kernel_rfl) rfl (by kernel_rfl),λ_ _ _=>cZ Qa (by kernel_rfl) rfl (by kernel_rfl),λ_ _ _ _=>cZ P7 (by kernel_rfl) rfl (by kernel_rfl),λ_ _ _ _=>cZ Qb (by kernel_rfl) rfl (by kernel_rfl),λ_ _ _ _=>cZ Qd (by kernel_rfl) rfl (by kernel_rfl),λ_ _ _ _=>cZ Qe (by kernel_rfl) rfl (by kernel_rfl),λ_ _ _ _=>cZ P3 (by kernel_rfl) rfl (by kernel_rfl),λ_ _ _ _ _ _=>cZ P4 (by kernel_rfl) rfl (by kernel_rfl),λ_ _ _ _=>cZ adk (by kernel_rfl) rfl (by kernel_rfl),λ_ _ _ _ _=>cZ Qc (by kernel_rfl) rfl (by kernel_rfl),λ_ _ _ _ _ _=>cZ P5 (by kernel_rfl) rfl (by kernel_rfl),λ_ _ _ _ _ _=>cZ P6 (by kernel_rfl) rfl (by kernel_rfl),λ_ _ _ _=>cZ adl (by kernel_rfl) rfl (by kernel_rfl),λ_ _ _=>cZ adm (by kernel_rfl) rfl (by kernel_rfl),λ_ _ _ _ _=>cZ ac6 (by kernel_rfl) rfl (by kernel_rfl),λ_ _ _ _ _=>cZ acF (by kernel_rfl) rfl (by kernel_rfl),λ_ _ _ _=>cZ adn (by kernel_rfl) rfl (by kernel_rfl),λ_ _ _=>cZ ac7 (by kernel_rfl) rfl (by kernel_rfl),λ_ _ _ _=>cZ acG (by kernel_rfl) rfl (by kernel_rfl),λ_ _ _ _=>cZ acP (by kernel_rfl) rfl (by kernel_rfl),λ_ _ _ _=>cZ adj (by kernel_rfl) rfl (by kernel_rfl),λ_ _ _ _=>cZ acT (by kernel_rfl) rfl (by kernel_rfl),λ_ _ _ _ _=>cZ acU (by kernel_rfl) rfl (by kernel_rfl),λ_ _ _ _ _ _=>cZ acW (by kernel_rfl) rfl (by kernel_rfl),λ_ _ _ _ _ _=>cZ acV (by kernel_rfl) rfl (by kernel_rfl),λ_ _ _ _=>cZ acY (by kernel_rfl) rfl (by kernel_rfl),λ_ _ _ _=>cZ acZ (by kernel_rfl) rfl (by kernel_rfl),λ_ _ _ _ _=>cZ acX (by kernel_rfl) rfl (by kernel_rfl),λ_ _ _ _=>aEt ac9 (by kernel_rfl) rfl (by kernel_rfl),λ_ _ _=>cZ acL (by kernel_rfl) rfl (by kernel_rfl),λ_ _ _=>cZ acK (by kernel_rfl) rfl (by kernel_rfl),λ_ _ _=>cZ acM (by kernel_rfl) rfl (by kernel_rfl),λ_ _ _=>cZ acE (by kernel_rfl) rfl (by kernel_rfl),λ_ _ _ _=>cZ acI (by kernel_rfl) rfl (by kernel_rfl),λ_ _ _ _=>cZ acm (by kernel_rfl) rfl (by kernel_rfl),λ_ _ _=>cZ acq (by kernel_rfl) rfl (by kernel_rfl),λ_ _ _ _ _=>cZ aci (by kernel_rfl) rfl (by kernel_rfl),λ_ _ _ _ _ _=>cZ ack (by kernel_rfl) rfl (by kernel_rfl),λ_ _ _ _=>cZ adt (by kernel_rfl) rfl (by kernel_rfl),λ_ _ _ _ _ _=>cZ acj (by kernel_rfl) rfl (by kernel_rfl),λ_ _ _=>cZ acn (by kernel_rfl) rfl (by kernel_rfl),λ_ _ _ _ _=>cZ acs (by kernel_rfl) rfl (by kernel_rfl),λ_ _ _ _ _=>cZ aco (by kernel_rfl) rfl (by kernel_rfl),λ_ _ _ _ _ _=>cZ ado (by kernel_rfl) rfl (by kernel_rfl),λ_ _ _ _ _=>cZ acp (by kernel_rfl) rfl (by kernel_rfl),λ_ _ _ _ _=>cZ adq (by kernel_rfl) rfl (by kernel_rfl),λ_ _ _ _=>cZ acr (by kernel_rfl) rfl (by kernel_rfl),λ_ _ _ _=>cZ ach (by kernel_rfl) rfl (by kernel_rfl),λ_ _ _ _ _=>cZ ads (by kernel_rfl) rfl (by kernel_rfl),λ_ _ _ _ _ _=>cZ adr (by kernel_rfl) rfl (by kernel_rfl),λ_ _ _ _ _ _=>cZ adi (by kernel_rfl) rfl (by kernel_rfl),λ_ _ _ _=>cZ adh (by kernel_rfl) rfl (by kernel_rfl),λ_ _ _ _=>cZ adg (by kernel_rfl) rfl (by kernel_rfl),λ_ _ _=>cZ adf (by kernel_rfl) rfl (by kernel_rfl),λ_ _ _=>cZ ade (by kernel_rfl) rfl (by kernel_rfl),λ_ _ _=>cZ ac8 (by kernel_rfl) rfl (by kernel_rfl),λ_ _ _=>cZ P2 (by kernel_rfl) rfl (by kernel_rfl),λ_ _ _ _=>cZ acJ (by kernel_rfl) rfl (by kernel_rfl),λ_ _ _ _=>cZ acH (by kernel_rfl) rfl (by kernel_rfl),λ_ _ _=>cZ adp (by kernel_rfl) rfl (by kernel_rfl),λ_ _ _ _ _=>cZ ada (by kernel_rfl) rfl (by kernel_rfl),λ_ _ _ _ _=>cZ adb (by kernel_rfl) rfl (by kernel_rfl),λ_ _ _ _ _=>cZ acO (by kernel_rfl) rfl (by kernel_rfl),λ_ _ _ _=>cZ acQ (by kernel_rfl) rfl (by kernel_rfl),λ_ _ _ _=>cZ acN (by kernel_rfl) rfl (by kernel_rfl),λ_ _ _=>cZ acz (by kernel_rfl) rfl (by kernel_rfl),λ_ _ _=>cZ acy (by kernel_rfl) rfl (by kernel_rfl),λ_ _ _=>cZ acR (by kernel_rfl) rfl (by kernel_rfl),λ_ _ _=>cZ acS (by kernel_rfl) rfl (by kernel_rfl)⟩
theorem aEl(m:Nat):AB (H bh (m+1)):=by
 unfold AB;intros;simp only[cL];apply aEC (C:=H bh (m+0))<;>assumption
theorem vA(m:Nat):rR (H bh (m+1)):=by
 unfold rR;intros;simp only[cL];apply arH (C:=H bh (m+0))<;>assumption
theorem L4(m:Nat):x4 (H bh (m+2)):=by
 unfold x4;intros;simp only[cL];apply aq8 (C:=H bh (m+1)) (vA _)<;>assumption
theorem aiM(m:Nat):CE (H bh (m+3)):=by
 unfold CE;intros;simp only[cL];apply aol (C:=H bh (m+2)) (vA _) (L4 _)<;>assumption
theorem aDG(m:Nat):Na (H bh (m+1)):=by
 unfold Na;intros;simp only[cL];apply ar7 (C:=H bh (m+0))<;>assumption
theorem aDp(m:Nat):Cy (H bh (m+2)):=by
 unfold Cy;intros;simp only[cL];apply akY (C:=H bh (m+1)) (im (by omega)) (vA _) (aEl _)<;>assumption
theorem aD5(m:Nat):Hc (H bh (m+3)):=by
 unfold Hc;intros;simp only[cL];apply aBn (C:=H bh (m+2)) (vA _) (L4 _)<;>assumption
theorem ai4(m:Nat):CR (H bh (m+3)):=by
 unfold CR;intros;simp only[cL];apply aE7 (C:=H bh (m+2)) (vA _) (L4 _)<;>assumption
theorem aDI(m:Nat):GQ (H bh (m+1)):=by
 unfold GQ;intros;simp only[cL];apply asA (C:=H bh (m+0))<;>assumption
theorem aDD(m:Nat):M7 (H bh (m+2)):=by
 unfold M7;intros;simp only[cL];apply arq (C:=H bh (m+1)) (im (by omega)) (vA _) (aDI _)<;>assumption
theorem aEm(m:Nat):NJ (H bh (m+3)):=by
 unfold NJ;intros;simp only[cL];apply aEO (C:=H bh (m+2)) (im (by omega)) (vA _) (L4 _)<;>assumption
theorem aEi(m:Nat):NI (H bh (m+2)):=by
 unfold NI;intros;simp only[cL];apply aEu (C:=H bh (m+1)) (vA _)<;>assumption
theorem aDP(m:Nat):Nl (H bh (m+1)):=by
 unfold Nl;intros;simp only[cL];apply aBL (C:=H bh (m+0))<;>assumption
theorem aiU(m:Nat):G2 (H bh (m+1)):=by
 unfold G2;intros;simp only[cL];apply aBM (C:=H bh (m+0)) (im (by omega))<;>assumption
theorem aD3(m:Nat):Nr (H bh (m+1)):=by
 unfold Nr;intros;simp only[cL];apply aCr (C:=H bh (m+0)) (im (by omega))<;>assumption
theorem aiY(m:Nat):Ay (H bh (m+1)):=by
 unfold Ay;intros;simp only[cL];apply aq3 (C:=H bh (m+0)) (im (by omega))<;>assumption
theorem aDJ(m:Nat):GW (H bh (m+1)):=by
 unfold GW;intros;simp only[cL];apply aA4 (C:=H bh (m+0)) (im (by omega))<;>assumption
theorem aDN(m:Nat):x6 (H bh (m+2)):=by
 unfold x6;intros;simp only[cL];apply aBH (C:=H bh (m+1)) (aDP _)<;>assumption
theorem aDS(m:Nat):Nn (H bh (m+1)):=by
 unfold Nn;intros;simp only[cL];apply aBQ (C:=H bh (m+0))<;>assumption
theorem aDE(m:Nat):M8 (H bh (m+1)):=by
 unfold M8;intros;simp only[cL];apply aru (C:=H bh (m+0)) (im (by omega))<;>assumption
theorem aDC(m:Nat):M5 (H bh (m+1)):=by
 unfold M5;intros;simp only[cL];apply are (C:=H bh (m+0))<;>assumption
theorem vz(m:Nat):pH (H bh (m+1)):=by
 unfold pH;intros;simp only[cL];apply aq7 (C:=H bh (m+0))<;>assumption
theorem aiO(m:Nat):Ap (H bh (m+2)):=by
 unfold Ap;intros;simp only[cL];apply aq4 (C:=H bh (m+1)) (vz _)<;>assumption
theorem pt(m:Nat):mh (H bh (m+3)):=by
 unfold mh;intros;simp only[cL];apply aoF (C:=H bh (m+2)) (vz _) (aiO _)<;>assumption
theorem Ga(m:Nat):s8 (H bh (m+1)):=by
 unfold s8;intros;simp only[cL];apply asP (C:=H bh (m+0))<;>assumption
theorem ai2(m:Nat):Hk (H bh (m+1)):=by
 unfold Hk;intros;simp only[cL];apply aEv (C:=H bh (m+0))<;>assumption
theorem aDH(m:Nat):Nb (H bh (m+2)):=by
 unfold Nb;intros;simp only[cL];apply ar5 (C:=H bh (m+1)) (aDG _)<;>assumption
theorem aDq(m:Nat):Gy (H bh (m+2)):=by
 unfold Gy;intros;simp only[cL];apply akS (C:=H bh (m+1)) (im (by omega)) (vz _)<;>assumption
theorem aDs(m:Nat):MP (H bh (m+4)):=by
 unfold MP;intros;simp only[cL];apply alw (C:=H bh (m+3)) (im (by omega)) (aiM _)<;>assumption
theorem aDA(m:Nat):GH (H bh (m+5)):=by
 unfold GH;intros;simp only[cL];apply an7 (C:=H bh (m+4)) (im (by omega)) (Ga _) (aDp _) (aDs _)<;>assumption
theorem aEh(m:Nat):Hj (H bh (m+6)):=by
 unfold Hj;intros;simp only[cL];apply aEB (C:=H bh (m+5)) (im (by omega)) (pt _) (Ga _) (aDA _) (ai4 _) (ai2 _)<;>assumption
theorem aEn(m:Nat):Hq (H bh (m+4)):=by
 unfold Hq;intros;simp only[cL];apply aE5 (C:=H bh (m+3)) (pt _)<;>assumption
theorem ai1(m:Nat):yf (H bh (m+4)):=by
 unfold yf;intros;simp only[cL];apply aEx (C:=H bh (m+3)) (im (by omega)) (pt _) (Ga _) (aD5 _)<;>assumption
theorem aiX(m:Nat):yc (H bh (m+4)):=by
 unfold yc;intros;simp only[cL];apply aBl (C:=H bh (m+3)) (pt _)<;>assumption
theorem aDx(m:Nat):vU (H bh (m+4)):=by
 unfold vU;intros;simp only[cL];apply ann (C:=H bh (m+3)) (aiM _)<;>assumption
theorem aDz(m:Nat):CC (H bh (m+1)):=by
 unfold CC;intros;simp only[cL];apply anA (C:=H bh (m+0))<;>assumption
theorem aiL(m:Nat):Gz (H bh (m+5)):=by
 unfold Gz;intros;simp only[cL];apply am8 (C:=H bh (m+4)) (im (by omega)) (aDx _) (Ga _) (aDz _)<;>assumption
theorem aEk(m:Nat):Hm (H bh (m+6)):=by
 unfold Hm;intros;simp only[cL];apply aEz (C:=H bh (m+5)) (pt _) (Ga _) (aiL _) (ai4 _) (ai2 _)<;>assumption
theorem aEj(m:Nat):Hl (H bh (m+4)):=by
 unfold Hl;intros;simp only[cL];apply aEy (C:=H bh (m+3)) (pt _)<;>assumption
theorem aDn(m:Nat):Ak (H bh (m+1)):=by
 unfold Ak;intros;simp only[cL];apply akM (C:=H bh (m+0)) (im (by omega))<;>assumption
theorem aiR(m:Nat):GU (H bh (m+2)):=by
 unfold GU;intros;simp only[cL];apply asL (C:=H bh (m+1)) (im (by omega)) (aDn _)<;>assumption
theorem aEe(m:Nat):CP (H bh (m+4)):=by
 unfold CP;intros;simp only[cL];apply aC5 (C:=H bh (m+3)) (pt _) (aiR _)<;>assumption
theorem ai0(m:Nat):ye (H bh (m+4)):=by
 unfold ye;intros;simp only[cL];apply aEw (C:=H bh (m+3)) (pt _) (aiR _)<;>assumption
theorem aiN(m:Nat):CF (H bh (m+6)):=by
 unfold CF;intros;simp only[cL];apply aok (C:=H bh (m+5)) (aiL _)<;>assumption
theorem aDu(m:Nat):MS (H bh (m+2)):=by
 unfold MS;intros;simp only[cL];apply aml (C:=H bh (m+1)) (vz _)<;>assumption
theorem aEa(m:Nat):Hf (H bh (m+4)):=by
 unfold Hf;intros;simp only[cL];apply aCJ (C:=H bh (m+3)) (pt _)<;>assumption
theorem aEc(m:Nat):Hh (H bh (m+4)):=by
 unfold Hh;intros;simp only[cL];apply aCM (C:=H bh (m+3)) (pt _)<;>assumption
theorem aEb(m:Nat):Hg (H bh (m+4)):=by
 unfold Hg;intros;simp only[cL];apply aCL (C:=H bh (m+3)) (pt _)<;>assumption
theorem aDB(m:Nat):GI (H bh (m+4)):=by
 unfold GI;intros;simp only[cL];apply aqi (C:=H bh (m+3)) (pt _)<;>assumption
theorem aD7(m:Nat):He (H bh (m+7)):=by
 unfold He;intros;simp only[cL];apply aBC (C:=H bh (m+6)) (pt _) (aiN _)<;>assumption
theorem aDF(m:Nat):GN (H bh (m+7)):=by
 unfold GN;intros;simp only[cL];apply arw (C:=H bh (m+6)) (pt _) (aiN _)<;>assumption
theorem arp(t:Nat)(y:U):(jl [(t,some y)]).get t=some y:=by
 show(aH.put .nil t y).get t=_;rw[kT,if_pos rfl]
theorem aDy(m:Nat):YI (H bh (m+2)):=by
 intro h0 h T n N wd b now us nd bB eO p A mT;simp only[cL];refine ant (C:=H bh (m+1)) (C':=H bh m) (lf:=bh) (im (by omega)) (vz m) (λeO p bB v h y h' L e=>?_) A mT;obtain⟨o,aq,ak⟩:=L.ol;refine aCp aq ak ?_;rw[<- e,aCi,arp]
theorem ai3(m:Nat):Hn (H bh (m+3)):=by
 unfold Hn;intros;simp only[cL];apply aEM (C:=H bh (m+2)) (aDy m)<;>assumption
theorem aiQ(m:Nat):GP (H bh (m+2)):=by
 unfold GP;intros;simp only[cL];apply asm (C:=H bh (m+1)) (vz _)<;>assumption
theorem aEf(m:Nat):NC (H bh (m+4)):=by
 unfold NC;intros;simp only[cL];apply aEr (C:=H bh (m+3)) (vz _) (aEm _)<;>assumption
theorem aD8(m:Nat):Nt (H bh (m+4)):=by
 unfold Nt;intros;simp only[cL];apply aBR (C:=H bh (m+3)) (vz _) (aEi _) (aDD _) (ai3 _)<;>assumption
theorem aDT(m:Nat):No (H bh (m+2)):=by
 unfold No;intros;simp only[cL];apply aBP (C:=H bh (m+1)) (aDS _)<;>assumption
theorem sN(m:Nat):pJ (H bh (m+1)):=by
 unfold pJ;intros;simp only[cL];apply aBK (C:=H bh (m+0))<;>assumption
theorem aiP(m:Nat):CJ (H bh (m+1)):=by
 unfold CJ;intros;simp only[cL];apply ari (C:=H bh (m+0))<;>assumption
theorem aDW(m:Nat):G5 (H bh (m+2)):=by
 unfold G5;intros;simp only[cL];apply aCe (C:=H bh (m+1)) (sN _) (aiP _)<;>assumption
theorem aDY(m:Nat):G7 (H bh (m+2)):=by
 unfold G7;intros;simp only[cL];apply aCg (C:=H bh (m+1)) (sN _)<;>assumption
theorem aDO(m:Nat):G1 (H bh (m+2)):=by
 unfold G1;intros;simp only[cL];apply aBJ (C:=H bh (m+1)) (sN _)<;>assumption
theorem aDX(m:Nat):G6 (H bh (m+2)):=by
 unfold G6;intros;simp only[cL];apply aCf (C:=H bh (m+1)) (sN _)<;>assumption
theorem X3(m:Nat):vX (H bh (m+1)):=by
 unfold vX;intros;simp only[cL];apply aoL (C:=H bh (m+0))<;>assumption
theorem aDR(m:Nat):Nm (H bh (m+2)):=by
 unfold Nm;intros;simp only[cL];apply aBO (C:=H bh (m+1)) (X3 _)<;>assumption
theorem aD1(m:Nat):G8 (H bh (m+3)):=by
 unfold G8;intros;simp only[cL];apply aCj (C:=H bh (m+2)) (im (by omega)) (X3 _) (aDR _) (aiU _) (aDJ _)<;>assumption
theorem aD4(m:Nat):Hb (H bh (m+4)):=by
 unfold Hb;intros;simp only[cL];apply aCu (C:=H bh (m+3)) (im (by omega)) (sN _) (aD1 _)<;>assumption
theorem aiS(m:Nat):GZ (H bh (m+3)):=by
 unfold GZ;intros;simp only[cL];apply aBj (C:=H bh (m+2)) (im (by omega)) (aDN _)<;>assumption
theorem aD2(m:Nat):G9 (H bh (m+4)):=by
 unfold G9;intros;simp only[cL];apply aCn (C:=H bh (m+3)) (im (by omega)) (sN _) (aiS _)<;>assumption
theorem aiT(m:Nat):G0 (H bh (m+4)):=by
 unfold G0;intros;simp only[cL];apply aBI (C:=H bh (m+3)) (aiS _)<;>assumption
theorem aDU(m:Nat):G4 (H bh (m+5)):=by
 unfold G4;intros;simp only[cL];apply aCc (C:=H bh (m+4)) (sN _) (aiT _)<;>assumption
theorem aDQ(m:Nat):G3 (H bh (m+5)):=by
 unfold G3;intros;simp only[cL];apply aBN (C:=H bh (m+4)) (sN _) (aiT _)<;>assumption
theorem aDK(m:Nat):GX (H bh (m+2)):=by
 unfold GX;intros;simp only[cL];apply aA3 (C:=H bh (m+1)) (im (by omega)) (aiP _)<;>assumption
theorem aiV(m:Nat):yb (H bh (m+2)):=by
 unfold yb;intros;simp only[cL];apply aCl (C:=H bh (m+1)) (im (by omega)) (sN _)<;>assumption
theorem X4(m:Nat):v5 (H bh (m+2)):=by
 unfold v5;intros;simp only[cL];apply aB7 (C:=H bh (m+1)) (im (by omega)) (sN _) (X3 _)<;>assumption
theorem aDZ(m:Nat):CM (H bh (m+3)):=by
 unfold CM;intros;simp only[cL];apply aCh (C:=H bh (m+2)) (sN _) (X4 _)<;>assumption
theorem aDL(m:Nat):Ni (H bh (m+2)):=by
 unfold Ni;intros;simp only[cL];apply aBg (C:=H bh (m+1)) (aD3 _)<;>assumption
theorem aiW(m:Nat):Ha (H bh (m+1)):=by
 unfold Ha;intros;simp only[cL];apply aCq (C:=H bh (m+0)) (im (by omega))<;>assumption
theorem aDV(m:Nat):Np (H bh (m+2)):=by
 unfold Np;intros;simp only[cL];apply aCd (C:=H bh (m+1)) (aiU _) (aiW _)<;>assumption
theorem L5(m:Nat):vZ (H bh (m+1)):=by
 unfold vZ;intros;simp only[cL];apply asn (C:=H bh (m+0))<;>assumption
theorem aD9(m:Nat):Nu (H bh (m+5)):=by
 unfold Nu;intros;simp only[cL];apply aBS (C:=H bh (m+4)) (aD8 _) (aDV _)<;>assumption
theorem aiZ(m:Nat):Az (H bh (m+1)):=by
 unfold Az;intros;simp only[cL];apply aCE (C:=H bh (m+0))<;>assumption
theorem aEd(m:Nat):NA (H bh (m+1)):=by
 unfold NA;intros;simp only[cL];apply aCY (C:=H bh (m+0)) (im (by omega))<;>assumption
theorem aDt(m:Nat):MQ (H bh (m+7)):=by
 unfold MQ;intros;simp only[cL];apply al0 (C:=H bh (m+6)) (aDE _) (aDC _) (aEd _) (L5 _) (aiZ _) (aiY _) (aEn _) (aEh _) (aD4 _) (aiX _) (ai1 _) (aiV _) (aEj _) (aEk _) (aD2 _) (ai0 _) (X4 _)<;>assumption
theorem aDr(m:Nat):MM (H bh (m+8)):=by
 unfold MM;intros;simp only[cL];apply als (C:=H bh (m+7)) (L5 _) (aDq _) (aDK _) (aDF _) (aDQ _) (aDB _) (aDO _) (aD7 _) (aDU _) (aEa _) (aDW _) (aEb _) (aDX _) (aEc _) (aDY _) (aDu _) (aiQ _)<;>assumption
theorem aDw(m:Nat):vT (H bh (m+9)):=by
 unfold vT;intros;simp only[cL];apply anl (C:=H bh (m+8)) (aDt _) (aDr _)<;>assumption
theorem aDo(m:Nat):Gx (H bh (m+6)):=by
 unfold Gx;intros;simp only[cL];apply akO (C:=H bh (m+5)) (im (by omega)) (aD9 _) (ai3 _) (aiW _) (aEf _) (aDL _) (aiQ _) (aEe _) (aDZ _) (ai0 _) (X4 _) (L5 _) (aiY _) (aiO _) (aiX _) (ai1 _) (aiV _) (aiZ _)<;>assumption
theorem aD6(m:Nat):Hd (H bh (m+3)):=by
 unfold Hd;intros;simp only[cL];apply aBq (C:=H bh (m+2)) (aDT _) (aDH _) (L5 _)<;>assumption
theorem aDM(m:Nat):Nj (H bh (m+1)):=by
 unfold Nj;intros;simp only[cL];apply aBh (C:=H bh (m+0)) (im (by omega))<;>assumption
theorem aDv(m:Nat):MU (H bh (m+2)):=by
 unfold MU;intros;simp only[cL];apply amV (C:=H bh (m+1)) (vA _)<;>assumption
theorem aEg(m:Nat):CQ (H bh (m+3)):=by
 unfold CQ;intros;simp only[cL];apply aEs (C:=H bh (m+2)) (vz _) (aDv _)<;>assumption
theorem aD0(m:Nat):CN (H bh (m+2)):=by
 unfold CN;intros;simp only[cL];apply aCk (C:=H bh (m+1)) (aDM _)<;>assumption
theorem aDm{h:J}(aN:mx 0 .u8 zs h=true):hE h:=by
 obtain⟨h1,_,h2⟩:=adT aN;refine⟨h1,λi hi=>?_⟩;have e:∀i,i<64->zs.getD i 0=((Lib.deBruijn64tab.getD i 0:Nat):Int):=by decide
 rw[h2 i hi,e i hi]
theorem arJ{C:ad}{lf:Nat}{ah aj aC:U}{h:J}:PW.s C lf [ah,aj,aC] h=Ik C lf ah aj aC h:=by kernel_rfl
section
variable{w:World}
def YO:Nat:=10
theorem arI(aN:mx 0 .u8 zs (hf w)=true){x y z:U}{L M K:List hq}(P:oM (hf w) x L)(hx:L.length<=140737488355328)(Q:oM (hf w) y M)(kU:M.length<=140737488355328)(mT:oM (hf w) z K)(kB:K.length<=140737488355328):
 ∃h',PW.s (tr cons (hK xC bh YO).call) bh [x,y,z] (hf w)=some (.ret (.bool true),h'):=by
 have Ju:0<(hf w).next:=by
  obtain⟨_,⟨m,hm⟩,_⟩:=adT aN;exact Rn hm
 have aP:=aD6 7;have a1:=aDw 1;have cm:=aDo 4;have cb:=aEg 7;have n1:=aD0 8;simp only[arJ];have gy:140737488355329<=bh:=im (n:=140737488355329) (by omega);refine amQ (lf:=bh) (C:=tr cons (hK xC bh 10).call) gy (aoo w) Ju (aDm aN) ?_ ?_ ?_ ?_ ?_ (λh F=>amJ ?_) P hx Q kU mT kB
 ·unfold Hd at *;simpa only[C8 (f:=49) rfl] using aP
 ·unfold vT at *;simpa only[C8 (f:=50) rfl] using a1
 ·unfold Gx at *;simpa only[C8 (f:=52) rfl] using cm
 ·unfold CQ at *;simpa only[C8 (f:=53) rfl] using cb
 ·unfold CN at *;simpa only[C8 (f:=54) rfl] using n1
 ·rw[apj F.aO (F.same _ Ju (λe=>e))];exact aN
end
end Go.Proofs.YtomialandfplkaaDoor.Eva
