import Derived.Test.YtomialandfplkaaDoorCards
import Derived.Test.YtomialandfplkaaDoorTie
import Derived.WalkKit
import Derived.ProofKit
import Derived.OpenShut
import Derived.Deep.DeepHandedRow
import Derived.Lib.LaidTab
import Derived.Test.YtomialandfplkaaDoorWInodeRunsm6
import Derived.Test.YtomialandfplkaaDoorWInodeRunsm2
import Derived.Test.YtomialandfplkaaDoorWInodeRunsm5
import Derived.Test.YtomialandfplkaaDoorWInodeRunsm4
import Derived.Test.YtomialandfplkaaDoorWInodeRunsm3
set_option linter.unusedSimpArgs false
set_option linter.unusedVariables false
set_option maxRecDepth 100000
set_option maxHeartbeats 400000
namespace Go.Proofs.YtomialandfplkaaDoor.Eva
open Go.Xe
section
variable{lf:Nat}{h:U}{R:eS}{n N:Nat}{on:Nat->Bool}{q:Nat->Option Nat}{b:Nat->Nat}{now:Int}{us:Nat->Bool}{rd:Nat->Nat->J}{bl:Nat->Nat->Nat}{i:Nat}{ino:Int}
def Mr(C:ad):Prop:=∀h R n N on q b now us rd,bJ h R n N on q b now us rd->∃x h',C (.fn 85) [.ptr R.rt 0] h=some (.ret x,h')/\eN h h' x (eR on n)/\aG h h' (λ_=>False)
theorem azS{C:ad}(hu:Mz C)(A:bJ h R n N on q b now us rd):∃x h',Ii C lf (.ptr R.rt 0) h=some (.ret x,h')/\eN h h' x (eR on n)/\aG h h' (λ_=>False):=by
 obtain⟨x,h',e,a,f⟩:=hu _ _ _ _ _ _ _ _ A.ref;refine⟨x,h',?_,a,f⟩;unfold Ii Vt OI;simp only[aE,e]
def Cj(C:ad):Prop:=∀h R n N on q b now us rd bl (ino:Int) i,bJ h R n N on q b now us rd->di N rd bl->hS n N on bl->ic N us ino i->kW bl i->(∀c,c<12->(rd (i+1) c).one=true)->
 ∃h',C (.fn 86) [.ptr R.rt 0,I ino] h=some (.ret (.bm [.agg (fv rd (i+1) (lj bl i).length),I 0]),h')/\aG h h' (λ_=>False)
theorem aAQ{C:ad}(hG:pe C)(oc:vv C)(A:bJ h R n N on q b now us rd)(M:di N rd bl)(K:hS n N on bl)(bV:ic N us ino i)(S:kW bl i)(gw:∀c,c<12->(rd (i+1) c).one=true):
 ∃h',Ij C lf (.ptr R.rt 0) (I ino) h=some (.ret (.bm [.agg (fv rd (i+1) (lj bl i).length),I 0]),h')/\aG h h' (λ_=>False):=by
 have jK:=A.gN;have aE3:=bV.1;obtain⟨z,a1,hj⟩:∃z,hb aw 78=some z/\(db z).cells.length=10:=FU (by kernel_rfl);have um:=rf (P:=aw) (e:=78) (h:=h) a1;generalize hM:dJ 78 (db z).cells=ob at *
 have D0:∀h:U,(h.new ob).wr h.next 10:=λh=>by
  have:=lZ (h:=h) (o:=ob) (by rw[<- hM];rfl)
  rw[show ob.n=10 by rw[<- hM];exact hj] at this;exact this
 have cN:=D0 h;have cH:(h.new ob).next=h.next+1:=by simp
 have aM:aG h (h.new ob) (λ_=>False):=aG.new _ _ _;generalize mL:h.new ob=g1 at *;have b0:=A.hK aM λ_ _ e=>e
 have dH:=hG g1 R n N on q b now us rd ino b0;rw[bV.yes] at dH;have yn:ino=((i+1:Nat):Int):=bV.2.2;obtain⟨cap,lo,ct⟩:=b0.ct;have ar:=lT (R:=R) (N:=N) (i:=i+1) (cap:=cap) (lo:=lo) (by omega);rw[<- yn] at ar;obtain⟨md,nf,_,_⟩:=b0.wl
 have lK:fu 10 (.ptr R.bw ((i+1)*308+1)) g1=some (.agg ((List.range 10).map λj=>rd (i+1) (1+j))):=by
  rw[n2 nf,lE (ys:=(List.range 10).map λj=>rd (i+1) (1+j)) (by simp) λj aa=>?_]
  ·rfl
  ·rw[Nat.add_assoc,b0.kj (i+1) (1+j) (by omega) (by omega)];simp[aa]
 have Cm:=rf (P:=aw) (e:=78) (h:=g1) a1;rw[hM] at Cm;have cy:=D0 g1;have ga:(J.agg ((List.range 10).map λj=>rd (i+1) (1+j))).cells=(List.range 10).map λj=>rd (i+1) (1+j):=rfl
 have fP:dZ ((List.range 10).map λj=>rd (i+1) (1+j))=true:=z3 λj aa=>gw _ (by have:=List.mem_range.1 aa;omega)
 have q9:=hR (n:=10) (off:=0) (y:= .agg ((List.range 10).map λj=>rd (i+1) (1+j))) cy (by rw[ga];simp) (by omega) (by rw[ga];exact fP);rw[ga] at q9
 have PK:∀j,j<10->((g1.new ob).set g1.next 0 ((List.range 10).map λj=>rd (i+1) (1+j))).cell g1.next j=some (rd (i+1) (1+j)):=λj aa=>by
  rw[hh cy (by simp) (Nat.zero_le _) (by simpa using aa),Nat.sub_zero];simp[aa]
 have FE:((g1.new ob).set g1.next 0 ((List.range 10).map λj=>rd (i+1) (1+j))).wr g1.next 10:=eG cy
 have bD:aG g1 ((g1.new ob).set g1.next 0 ((List.range 10).map λj=>rd (i+1) (1+j))) (λ_=>False):=(aG.new g1 ob _).gz (fa rfl) (Nat.le_refl _);have cA:((g1.new ob).set g1.next 0 ((List.range 10).map λj=>rd (i+1) (1+j))).next=g1.next+1:=by simp
 generalize ij:(g1.new ob).set g1.next 0 ((List.range 10).map λj=>rd (i+1) (1+j))=g2 at *
 obtain⟨x,g3,cr,xm,dd⟩:=(oc g2 R n N on q b now us rd bl ino (b0.hK bD λ_ _ e=>e) M K).2 i bV S;have hlen:=ad8 (P:=aw) Tryd.underlying33 xm.aZ;generalize ai:(lj bl i).length=k at *;have er:∀j,j<g2.next->cQ g2 g3 j:=λj aa=>dd.same j aa (λe=>e)
 have fp:g3.wr g1.next 10:=fI FE (er _ (by omega))
 have oW:=hR (n:=1) (off:=5) (y:=I (k:Int)) fp rfl (by omega) rfl;have jt:(J.int .i64 (k:Int)).cells=[I (k:Int)]:=rfl;rw[jt] at oW
 have PL:∀j,j<10->(g3.set g1.next 5 [I (k:Int)]).cell g1.next (0+j)=(fv rd (i+1) k)[j]?:=λj aa=>by
  rw[Nat.zero_add];by_cases e:j=5
  ·subst e;rw[hh fp (by simp) (Nat.le_refl _) (by simp)];simp[fv]
  ·rw[eH (.inr (by simp;omega)),(er _ (by omega)).cell,PK j aa];simp[fv,aa,e]
 have j6:(g3.set g1.next 5 [I (k:Int)]).next=g3.next:=by simp
 have ia:(g3.set g1.next 5 [I (k:Int)]).wr g1.next 10:=eG fp
 have zw:(g3.set g1.next 5 [I (k:Int)]).wr h.next 10:=by
  have az:cQ g1 g2 h.next:=bD.same _ (by omega) (λe=>e)
  have aA:cQ g3 (g3.set g1.next 5 [I (k:Int)]) h.next:=iu _ _ _ (by omega)
  exact fI (fI (fI cN az) (er _ (by have:=bD.next;omega))) aA
 have fL:aG g1 (g3.set g1.next 5 [I (k:Int)]) (λ_=>False):=(bD.trans dd).gz (fa rfl) (Nat.le_refl _);generalize tg:g3.set g1.next 5 [I (k:Int)]=g4 at *
 have ks:(fv rd (i+1) k).length=10:=by simp[fv]
 have P5:fu 10 (.ptr g1.next 0) g4=some (.agg (fv rd (i+1) k)):=by
  obtain⟨oO,uJ,_⟩:=ia;rw[n2 uJ,lE ks PL];rfl
 have PE:dZ (fv rd (i+1) k)=true:=z3 λj aa=>by
  have:=List.mem_range.1 aa
  split
  ·rfl
  ·exact gw _ (by omega)
 have Fv:=hR (n:=10) (off:=0) (y:= .agg (fv rd (i+1) k)) zw ks (by omega) PE;have PJ:(J.agg (fv rd (i+1) k)).cells=fv rd (i+1) k:=rfl;rw[PJ] at Fv
 have P6:fu 10 (.ptr h.next 0) (g4.set h.next 0 (fv rd (i+1) k))=some (.agg (fv rd (i+1) k)):=by
  obtain⟨oO,uJ,_⟩:=eG (off:=0) (k:=h.next) (ys:=fv rd (i+1) k) zw;rw[n2 uJ,lE ks λj aa=>?_]
  ·rfl
  ·rw[Nat.zero_add,hh zw (by omega) (Nat.zero_le _) (by omega),Nat.sub_zero]
 refine⟨g4.set h.next 0 (fv rd (i+1) k),?_,(aM.trans fL).gz (fa rfl) (Nat.le_refl _)⟩;unfold Ij Vu OJ;simp only[aE,um,dH,Bool.not_true,ct,ar,lK,Cm,q9,cr,List.getElem?_cons_zero,List.getElem?_cons_succ,hlen,oW,P5,Fv,P6]
end
section
open Classical
structure rv (N:Nat) (us:Nat->Bool) (s:dL):Prop where
 S:∀i,i<N->kW s.bl i
 Z:∀i,i<N->us i=false->∀c,12<=c->c<308->s.bl i c=0
 O:zU N s
section
variable{n N i:Nat}{s ff:dL}{us:Nat->Bool}
theorem kW.OZ{bl:Nat->Nat->Nat}{i:Nat}(S:kW bl i):rp bl i:=λu hu e=>(S.xU u hu).1 e
theorem ahF{bl:Nat->Nat->Nat}{i:Nat}(h:∀c,12<=c->c<308->bl i c=0):kW bl i:=
 ⟨⟨λ_=>oL.2 λj aa=>h _ (by omega) (by omega),λ_=>h _ (by omega) (by omega)⟩,λq a0=>⟨λ_=>oL.2 λj aa=>h _ (by omega) (by omega),λ_=>h _ (by omega) (by omega)⟩,
   ⟨λ_ q a0=>h _ (by omega) (by omega),λ_=>h _ (by omega) (by omega)⟩⟩
theorem WX{bl bl':Nat->Nat->Nat}{i:Nat}(S:kW bl i)(h:∀c,12<=c->c<308->bl' i c=bl i c):kW bl' i:=by
 have ck:∀c,12<=c->c+17<=308->hole bl' i c=hole bl i c:=λc h1 h2=>uN λt aN=>h _ (by omega) (by omega)
 refine⟨?_,λq a0=>?_,?_⟩
 ·rw[h _ (by omega) (by omega),ck _ (by omega) (by omega)];exact S.one
 ·rw[h _ (by omega) (by omega),ck _ (by omega) (by omega)];exact S.xU q a0
 ·rw[h _ (by omega) (by omega)];exact S.two.trans ⟨λe q a0=>by rw[h _ (by omega) (by omega)];exact e q a0,λe q a0=>by rw[<- h _ (by omega) (by omega)];exact e q a0⟩
theorem OT:∀(cs:List Nat) (s:dL) (bk:List Nat) (i' c:Nat),(i'≠i\/c ∉ cs)->(dp n i cs s bk).1.bl i' c=s.bl i' c
 | [],_,_,_,_,_=>rfl
 |a::cs,s,bk,i',c,h=>by
  have h':i'≠i\/c ∉ cs:=h.imp id λx y=>x (List.mem_cons_of_mem _ y)
  unfold dp;by_cases h1:0<s.bl i a
  ·rw[if_pos h1];exact OT cs s bk i' c h'
  ·rw[if_neg h1];cases aL:low n s.wd with
   |none=>rfl
   |some j=>
    show(dp n i cs (s.take i a j) (bk++[a])).1.bl i' c=_;rw[OT cs _ _ i' c h'];refine np _ _ ?_;rcases h with h|h
    ·exact .inl h
    ·exact .inr λe=>h (by rw[e];exact List.mem_cons_self ..)
theorem aBS{bl bl':Nat->Nat->Nat}{k:Nat}(ai:k<278)(S:kW bl i)(aC:∀c,c∈dw k->0<bl' i c)(aq:∀c,c ∉ dw k->bl' i c=bl i c):kW bl' i:=by
 have b4:=tK ai
 have gh:∀c,c≠a4 k->(22<=k->c≠35/\c≠36+17*((k-22)/16))->(6<=k->k<22->c≠18)->bl' i c=bl i c:=λc h1 h2 h3=>aq c λhm=>by
  unfold dw at hm;by_cases az:k<6
  ·rw[if_pos az] at hm;exact h1 (List.mem_singleton.1 hm)
  ·rw[if_neg az] at hm;by_cases aA:k<22
   ·rw[if_pos aA] at hm;simp only[List.mem_cons,List.not_mem_nil,or_false] at hm;exact hm.elim (h3 (by omega) aA) h1
   ·rw[if_neg aA] at hm;simp only[List.mem_cons,List.not_mem_nil,or_false] at hm;exact hm.elim (h2 (by omega)).1 λhm=>hm.elim (h2 (by omega)).2 h1
 have iN:0<bl' i (a4 k):=aC _ (by unfold dw;split<;>(try split)<;>simp);have aFe:∀c,c<36+17*16->a4 k=c->c=a4 k:=λc _ e=>e.symm
 by_cases az:k<6
 ·have Hj:a4 k=12+k:=by unfold a4;rw[if_pos az]
  have ag:∀c,18<=c->bl' i c=bl i c:=λc ae=>gh c (by omega) (λh=>by omega) (λh=>by omega)
  refine⟨?_,λq a0=>?_,?_⟩
  ·rw[ag 18 (by omega),uN (bl':=bl') (bl:=bl) λt aN=>ag _ (by omega)];exact S.one
  ·rw[ag _ (by omega),uN (bl':=bl') (bl:=bl) λt aN=>ag _ (by omega)];exact S.xU q a0
  ·rw[ag 35 (by omega)];exact S.two.trans ⟨λe q a0=>by rw[ag _ (by omega)];exact e q a0,λe q a0=>by rw[<- ag _ (by omega)];exact e q a0⟩
 ·by_cases aA:k<22
  ·have Hj:a4 k=19+(k-6):=by unfold a4;rw[if_neg az,if_pos aA]
   have acr:0<bl' i 18:=aC _ (by unfold dw;rw[if_neg az,if_pos aA];simp);have ag:∀c,35<=c->bl' i c=bl i c:=λc ae=>gh c (by omega) (λh=>by omega) (λ_ _=>by omega)
   refine⟨⟨λe=>by omega,λe=>?_⟩,λq a0=>?_,?_⟩
   ·have:=oL.1 e (k-6) (by omega)
    rw[show 18+(1+(k-6))=a4 k by omega] at this;omega
   ·rw[ag _ (by omega),uN (bl':=bl') (bl:=bl) λt aN=>ag _ (by omega)];exact S.xU q a0
   ·rw[ag 35 (by omega)];exact S.two.trans ⟨λe q a0=>by rw[ag _ (by omega)];exact e q a0,λe q a0=>by rw[<- ag _ (by omega)];exact e q a0⟩
  ·have Hj:a4 k=37+17*((k-22)/16)+(k-22)%16:=by unfold a4;rw[if_neg az,if_neg aA]
   have vY:0<bl' i 35:=aC _ (by unfold dw;rw[if_neg az,if_neg aA];simp);have Pv:0<bl' i (36+17*((k-22)/16)):=aC _ (by unfold dw;rw[if_neg az,if_neg aA];simp);have ag:∀c,c≠a4 k->c≠35->c≠36+17*((k-22)/16)->bl' i c=bl i c:=λc ak aD a7=>gh c ak (λ_=>⟨aD,a7⟩) (λh h'=>by omega)
   refine⟨?_,λq a0=>?_,⟨λe=>by omega,λe=>?_⟩⟩
   ·rw[ag 18 (by omega) (by omega) (by omega),uN (bl':=bl') (bl:=bl) λt aN=>ag _ (by omega) (by omega) (by omega)];exact S.one
   ·by_cases eq:q=(k-22)/16
    ·subst eq;refine⟨λe=>by omega,λe=>?_⟩
     have:=oL.1 e ((k-22)%16) (by omega)
     rw[show 36+17*((k-22)/16)+(1+(k-22)%16)=a4 k by omega] at this;omega
    ·rw[ag _ (by omega) (by omega) (by omega),uN (bl':=bl') (bl:=bl) λt aN=>ag _ (by omega) (by omega) (by omega)];exact S.xU q a0
   ·have:=e ((k-22)/16) (by omega);omega
theorem amR{k:Nat}(hi:i<N)(hu:us i=true)(W:pk n N s)(ai:k<278)(T:rv N us s):rv N us (bN n i k s).1:=by
 by_cases h1:0<s.bl i (a4 k)
 ·have e:bN n i k s=(s,true):=by unfold bN;rw[if_pos h1]
  rw[e];exact T
 ·by_cases h2:(dp n i (dw k) s []).2.2=true
  ·have e:bN n i k s=((dp n i (dw k) s []).1,true):=by unfold bN;rw[if_neg h1,if_pos h2]
   have Iy:=(amS hi W ai (by rw[e])).2 T.O;rw[e] at Iy⊢;have aC:=(Hw (dw k) s [] h2).2;have rX:∀i' c,i'≠i\/c ∉ dw k->(dp n i (dw k) s []).1.bl i' c=s.bl i' c:=OT (dw k) s [];refine⟨λi' cF=>?_,λi' cF gU c aS a2=>?_,Iy⟩
   ·by_cases ZG:i'=i
    ·subst ZG;exact aBS ai (T.S i' cF) aC (λc ae=>rX _ c (.inr ae))
    ·exact WX (T.S i' cF) λc _ _=>rX i' c (.inl ZG)
   ·rw[rX i' c (.inl λe=>by subst e;rw[hu] at gU;cases gU)];exact T.Z i' cF gU c aS a2
  ·have e:bN n i k s=(⟨s.wd,(dp n i (dw k) s []).1.b,s.nd,s.bl⟩,false):=by unfold bN;rw[if_neg h1,if_neg h2]
   rw[e];exact⟨T.S,T.Z,T.O⟩
theorem ais{off:Nat}{l:List Nat}(jL:off+l.length<=17792)(hi:i<N)(hu:us i=true):∀(g done:Nat) (s:dL),done<=l.length->pk n N s->rv N us s->rv N us (jA n i off l g done s).1
 |0,done,s,aH,W,T=>T
 |g+1,done,s,aH,W,T=>by
  unfold jA;by_cases h1:done<l.length
  ·rw[if_pos h1];have GG:=amR (k:=(off+done)/64) hi hu W (by omega) T;have jG:=OV (k:=(off+done)/64) W hi (by omega);by_cases h2:(bN n i ((off+done)/64) s).2=true
   ·rw[if_pos h2];exact ais jL hi hu g _ _ (by omega) ⟨jG.M,jG.w⟩ ⟨GG.S,GG.Z,GG.O⟩
   ·rw[if_neg h2];exact GG
  ·rw[if_neg h1];exact T
theorem aBR{bl:Nat->Nat->Nat}{k:Nat}(S:kW bl i):kW (dF bl i (gC bl i k)) i:=by
 have aC:∀c,(∃m,m<278/\c=a4 m)->(gC bl i k c↔gX k 278 c):=λc ⟨m,hm,e⟩=>by
  rw[e,kW.alW hm];exact⟨λh=>⟨m,h,hm,rfl⟩,λ⟨j,a,aD,a7⟩=>by rw[Rx a7 hm aD];exact a⟩
 have ae:∀g,g<17->hole (dF bl i (gC bl i k)) i (dt g)=gS bl i k (dt g):=λg bd=>by
  unfold gS;refine uN λt aN=>?_
  have:=aC (dt g+(1+t)) ⟨6+g*16+t,by omega,(Ip aN).symm⟩
  unfold dF;by_cases e:gX k 278 (dt g+(1+t))
  ·rw[if_pos ⟨rfl,this.2 e⟩,if_pos ⟨rfl,e⟩]
  ·rw[if_neg λx=>e (this.1 x.2),if_neg λx=>e x.2]
 have hm:∀c,hole bl i c=true->gS bl i k c=true:=λc h=>by
  unfold gS;rw[oL] at h⊢;intro j aa;unfold dF;split
  ·rfl
  ·exact h j aa
 have aqF:¬gX k 278 18:=λ⟨j,_,aD,e⟩=>(tK aD).1 e.symm
 have aqG:¬gX k 278 35:=λ⟨j,_,aD,e⟩=>(tK aD).2.1 e.symm
 have aqH:∀q,q<16->¬gX k 278 (36+17*q):=λq a0 ⟨j,_,aD,e⟩=>(tK aD).2.2 q a0 e.symm
 have YU:gC bl i k 18↔gS bl i k 18=true:=by
  unfold gC;exact⟨λx=>by rcases x with e|⟨_,e⟩|⟨j,_,e,_⟩|⟨e,_⟩<;>first|exact e|exact absurd e aqF|omega,λe=> .inr (.inl ⟨rfl,e⟩)⟩
 have GY:∀q,q<16->(gC bl i k (36+17*q)↔gS bl i k (36+17*q)=true):=λq a0=>by
  unfold gC;refine⟨λx=>?_,λe=> .inr (.inr (.inl ⟨q,a0,rfl,e⟩))⟩;rcases x with e|⟨e,_⟩|⟨j,_,e,bg⟩|⟨e,_⟩
  ·exact absurd e (aqH q a0)
  ·omega
  ·rw[e];exact bg
  ·omega
 have Nc:gC bl i k 35↔∀j,j<16->bl i (36+17*j)=0\/gS bl i k (36+17*j)=true:=by
  unfold gC;refine⟨λx=>?_,λe=> .inr (.inr (.inr ⟨rfl,e⟩))⟩;rcases x with e|⟨e,_⟩|⟨j,_,e,bg⟩|⟨_,e⟩
  ·exact absurd e aqG
  ·omega
  ·omega
  ·exact e
 have g0:dt 0=18:=rfl;have uE:∀q,dt (q+1)=36+17*q:=λq=>by unfold dt;rw[if_neg (by omega),Nat.add_sub_cancel]
 refine⟨?_,λq a0=>?_,?_⟩
 ·have h0:=ae 0 (by omega);rw[g0] at h0;rw[h0];by_cases e:gS bl i k 18=true
  ·exact⟨λ_=>e,λ_=>ot (YU.2 e)⟩
  ·rw[iY λx=>e (YU.1 x.2)];exact⟨λx=>absurd (hm _ (S.one.1 x)) e,λx=>absurd x e⟩
 ·have h0:=ae (q+1) (by omega);rw[uE] at h0;rw[h0];by_cases e:gS bl i k (36+17*q)=true
  ·exact⟨λ_=>e,λ_=>ot ((GY q a0).2 e)⟩
  ·rw[iY λx=>e ((GY q a0).1 x.2)];exact⟨λx=>absurd (hm _ ((S.xU q a0).1 x)) e,λx=>absurd x e⟩
 ·by_cases e:gC bl i k 35
  ·refine⟨λ_ q a0=>?_,λ_=>ot e⟩;rcases Nc.1 e q a0 with h|h
   ·unfold dF;split
    ·rfl
    ·exact h
   ·exact ot ((GY q a0).2 h)
  ·rw[iY λx=>e x.2];refine⟨λx=>absurd (Nc.2 λj aa=> .inl (S.two.1 x j aa)) e,λx=>?_⟩;refine absurd (Nc.2 λj aa=>?_) e
   have:=x j aa
   by_cases h:gS bl i k (36+17*j)=true
   ·exact .inr h
   ·rw[iY λx=>h ((GY j aa).1 x.2)] at this;exact .inl this
theorem alT{sz:Nat}(C:FY i sz s ff)(hu:us i=true)(T:rv N us s):rv N us ff:=by
 refine⟨λi' cF=>?_,λi' cF gU c aS a2=>?_,alS C T.O⟩
 ·rw[C.bl];by_cases e:i'=i
  ·subst e;exact aBR (T.S i' cF)
  ·exact WX (T.S i' cF) λc _ _=>iY λx=>e x.1
 ·rw[C.bl,iY λx=>by have:=x.1;subst this;rw[hu] at gU;cases gU];exact T.Z i' cF gU c aS a2
theorem anv{dg:Nat->Nat}{b':Nat->Nat}{eU:Nat->Nat->J}(Iy:∀j,bQ dg j=true↔(bQ s.wd j=true/\∀c,12<=c->c<308->s.bl i c≠j+1))(T:rv N us s):rv N (de us i false) ⟨dg,b',eU,m2 s.bl i⟩:=by
 refine⟨λi' cF=>?_,λi' cF gU c aS a2=>?_,λj aa=>?_⟩
 ·by_cases e:i'=i
  ·exact ahF λc _ _=>if_pos e
  ·exact WX (T.S i' cF) λc _ _=>if_neg e
 ·by_cases e:i'=i
  ·exact if_pos e
  ·rw[ix _ _ e] at gU;show m2 s.bl i i' c=0;unfold m2;rw[if_neg e];exact T.Z i' cF gU c aS a2
 ·obtain⟨h1,h2⟩:=(Iy j).1 aa;obtain⟨i',c,ak,aD,a7,cw⟩:=T.O j h1;refine⟨i',c,ak,aD,a7,?_⟩;have e:i'≠i:=λe=>h2 c aD a7 (by rw[<- e];exact cw)
  show m2 s.bl i i' c=j+1;unfold m2;rw[if_neg e];exact cw
end
end
structure nr where
 s:dL
 now:Int
 us:Nat->Bool
 q:Nat->Option Nat
 b2:Nat->Nat
 rd:Nat->Nat->J
structure kV (g:Nat->J):Prop where
 l:∃L:Int,g 2=I L/\0<=L/\L<=16
 z:∃sz:Nat,g 5=I (sz:Int)/\sz<=17792
 i:∀c,1<=c->c<12->∃v:Int,g c=I v
def gI(T:ei)(j:Nat):Prop:=j=T.a9\/j=T.bO\/j=T.kd\/j=T.aJ
def jw(R:eS)(q:Nat->Option Nat)(j:Nat):Prop:=j=R.rt\/j=R.ro\/j=R.rb\/j=R.bw\/∃u,q u=some j
def mv(N:Nat)(nd rd:Nat->Nat->J):Prop:=∀i c,i<N->c<12->rd (i+1) c=nd i c
structure Rel (h:U) (T:ei) (R:eS) (n N:Nat) (a:nr):Prop where
 A:bx h T n N a.s.wd a.s.b a.now a.us a.s.nd
 M:c1 n N a.s.wd a.s.nd a.s.bl
 B:bJ h R n N (bQ a.s.wd) a.q a.b2 a.now a.us a.rd
 gQ:di N a.rd a.s.bl
 jC:iV (bQ a.s.wd) a.s.b a.b2
 lo:mv N a.s.nd a.rd
 hl:∀i,i<N->kV (a.s.nd i)
 jU:rv N a.us a.s
 jF:hr h
 O:ny h T
 sep:∀j,gI T j->¬jw R a.q j
 Pu:¬gI T mE
 uE:¬jw R a.q mE
 sh:∀u k,a.q u=some k->u<n
structure l4 (h h1 h2:U) (T:ei) (R:eS) (n N:Nat) (a a':nr):Prop where
 r:Rel h2 T R n N a'
 f1:aG h h1 (gI T)
 f2:aG h1 h2 (jw R a.q)
 a0:∀u k,a'.q u=some k->a.q u=some k\/h.next<=k
section
variable{h h1 h2:U}{T:ei}{R:eS}{n N:Nat}{a a':nr}{i:Nat}{ino:Int}
theorem Rel.zy(r:Rel h T R n N a):pk n N a.s:=⟨r.M,r.A.st.iU⟩
theorem Rel.Bs(r:Rel h T R n N a){j:Nat}(aa:gI T j):j<h.next:=by
 rcases aa with rfl|rfl|rfl|rfl
 ·exact r.O.t
 ·exact r.O.s
 ·exact r.O.d
 ·exact r.O.n
theorem Wt{q:Nat->Option Nat}{j:Nat}(aa:sj R n q j):jw R q j:=by
 rcases aa with rfl|rfl|rfl|rfl|⟨u,_,e⟩
 ·exact .inr (.inr (.inr (.inl rfl)))
 ·exact .inl rfl
 ·exact .inr (.inl rfl)
 ·exact .inr (.inr (.inl rfl))
 ·exact .inr (.inr (.inr (.inr ⟨u,e⟩)))
theorem Rel.bX(r:Rel h T R n N a)(aM:aG h h1 (gI T)):bJ h1 R n N (bQ a.s.wd) a.q a.b2 a.now a.us a.rd:=
 r.B.hK aM λj aa e=>r.sep j e (Wt aa)
theorem Rel.next(r:Rel h T R n N a)(aM:aG h h1 (gI T))(bD:aG h1 h2 (jw R a.q))(b0:bx h1 T n N a'.s.wd a'.s.b a'.now a'.us a'.s.nd)(M:c1 n N a'.s.wd a'.s.nd a'.s.bl)
 (e5:bJ h2 R n N (bQ a'.s.wd) a'.q a'.b2 a'.now a'.us a'.rd)(gQ:di N a'.rd a'.s.bl)(jC:iV (bQ a'.s.wd) a'.s.b a'.b2)(lo:mv N a'.s.nd a'.rd)(hl:∀i,i<N->kV (a'.s.nd i))(jU:rv N a'.us a'.s)
 (sh:∀u k,a'.q u=some k->u<n)(a0:∀u k,a'.q u=some k->a.q u=some k\/h.next<=k):l4 h h1 h2 T R n N a a':=by
 have bd:mE<h.next:=r.O.g
 refine⟨⟨b0.frame bD.next λj aa=>bD.same j ?_ (r.sep j aa),M,e5,gQ,jC,lo,hl,jU,(r.jF.dA aM bd r.Pu).dA bD (Nat.lt_of_lt_of_le bd aM.next) r.uE,(r.O.mono aM.next).mono bD.next,λj aa e=>?_,r.Pu,λe=>?_,sh⟩,aM,bD,a0⟩
 ·exact Nat.lt_of_lt_of_le (r.Bs aa) aM.next
 ·rcases e with e|e|e|e|⟨u,e⟩
  ·exact r.sep j aa (.inl e)
  ·exact r.sep j aa (.inr (.inl e))
  ·exact r.sep j aa (.inr (.inr (.inl e)))
  ·exact r.sep j aa (.inr (.inr (.inr (.inl e))))
  ·rcases a0 u j e with e|e
   ·exact r.sep j aa (.inr (.inr (.inr (.inr ⟨u,e⟩))))
   ·have:=r.Bs aa;omega
 ·rcases e with e|e|e|e|⟨u,e⟩
  ·exact r.uE (.inl e)
  ·exact r.uE (.inr (.inl e))
  ·exact r.uE (.inr (.inr (.inl e)))
  ·exact r.uE (.inr (.inr (.inr (.inl e))))
  ·rcases a0 u _ e with e|e
   ·exact r.uE (.inr (.inr (.inr (.inr ⟨u,e⟩))))
   ·omega
theorem Rel.same(r:Rel h T R n N a)(aM:aG h h1 (λ_=>False))(bD:aG h1 h2 (λ_=>False)):l4 h h1 h2 T R n N a a:=by
 have gd:aG h h1 (gI T):=aM.ek λ_ e=>e.elim
 have vq:aG h1 h2 (jw R a.q):=bD.ek λ_ e=>e.elim
 exact r.next gd vq (r.A.hk aM) r.M ((r.B.hK aM λ_ _ e=>e).hK bD λ_ _ e=>e) r.gQ r.jC r.lo r.hl r.jU r.sh λ_ _ e=> .inl e
theorem Rel.refl(r:Rel h T R n N a):l4 h h h T R n N a a:=r.same (aG.refl _ _) (aG.refl _ _)
theorem Rel.agx(r:Rel h T R n N a){j:Nat}(aa:jw R a.q j):j<h.next:=by
 rcases aa with rfl|rfl|rfl|rfl|⟨u,e⟩
 ·exact r.B.ref.lt
 ·exact r.B.j8 (.inr (.inr (.inl rfl)))
 ·exact r.B.j8 (.inr (.inr (.inr (.inl rfl))))
 ·exact r.B.hO
 ·exact r.B.j8 (.inr (.inr (.inr (.inr ⟨u,r.sh u j e,e⟩))))
theorem tu{us:Nat->Bool}(h:c8 N us ino=true):∃i,ic N us ino i:=by
 simp only[c8,Bool.and_eq_true,decide_eq_true_eq] at h;exact⟨ino.toNat-1,by omega,h.2.2,by omega⟩
theorem mv.de{nd rd:Nat->Nat->J}(H:mv N nd rd)(i c:Nat)(y:J):mv N (cT nd i c y) (cT rd (i+1) c y):=λi' a3 hi ae=>by
 by_cases e:i'=i/\a3=c
 ·rw[e.1,e.2,mU,mU]
 ·rw[ho _ _ (by omega),ho _ _ (by omega)];exact H i' a3 hi ae
theorem mi{nd:Nat->Nat->J}(H:∀i,i<N->kV (nd i))(i:Nat){c:Nat}(ae:c≠2)(mI:c≠5)(v:Int):∀i',i'<N->kV (cT nd i c (I v) i'):=λi' hi=>by
 obtain⟨⟨L,cb,cV⟩,⟨sz,zG,tY⟩,h3⟩:=H i' hi;refine⟨⟨L,by rw[ho _ _ (by omega)];exact cb,cV⟩,⟨sz,by rw[ho _ _ (by omega)];exact zG,tY⟩,λa3 ak aD=>?_⟩;by_cases e:i'=i/\a3=c
 ·rw[e.1,e.2,mU];exact⟨v,rfl⟩
 ·rw[ho _ _ (by omega)];exact h3 a3 ak aD
theorem aq8{nd:Nat->Nat->J}(H:∀i,i<N->kV (nd i))(i:Nat){v:Int}(h0:0<=v)(h1:v<=16):∀i',i'<N->kV (cT nd i 2 (I v) i'):=λi' hi=>by
 obtain⟨⟨L,cb,cV⟩,⟨sz,zG,tY⟩,h3⟩:=H i' hi;refine⟨?_,⟨sz,by rw[ho _ _ (by omega)];exact zG,tY⟩,λa3 ak aD=>?_⟩
 ·by_cases e:i'=i
  ·rw[e,mU];exact⟨v,rfl,h0,h1⟩
  ·rw[ho _ _ (by omega)];exact⟨L,cb,cV⟩
 ·by_cases e:i'=i/\a3=2
  ·rw[e.1,e.2,mU];exact⟨v,rfl⟩
  ·rw[ho _ _ (by omega)];exact h3 a3 ak aD
theorem aq9{nd:Nat->Nat->J}(H:∀i,i<N->kV (nd i))(i:Nat){v:Nat}(h1:v<=17792):∀i',i'<N->kV (cT nd i 5 (I (v:Int)) i'):=λi' hi=>by
 obtain⟨⟨L,cb,cV⟩,⟨sz,zG,tY⟩,h3⟩:=H i' hi;refine⟨⟨L,by rw[ho _ _ (by omega)];exact cb,cV⟩,?_,λa3 ak aD=>?_⟩
 ·by_cases e:i'=i
  ·rw[e,mU];exact⟨v,rfl,h1⟩
  ·rw[ho _ _ (by omega)];exact⟨sz,zG,tY⟩
 ·by_cases e:i'=i/\a3=5
  ·rw[e.1,e.2,mU];exact⟨v,rfl⟩
  ·rw[ho _ _ (by omega)];exact h3 a3 ak aD
theorem Rel.low(r:Rel h T R n N a)(aM:aG h h1 (gI T))(bD:aG h1 h2 (jw R a.q)){eU cv:Nat->Nat->J}(b0:bx h1 T n N a.s.wd a.s.b a.now a.us eU)(gq:c1 n N a.s.wd eU a.s.bl)
 (e5:bJ h2 R n N (bQ a.s.wd) a.q a.b2 a.now a.us cv)(dI:di N cv a.s.bl)(lo:mv N eU cv)(hl:∀i,i<N->kV (eU i)):l4 h h1 h2 T R n N a ⟨⟨a.s.wd,a.s.b,eU,a.s.bl⟩,a.now,a.us,a.q,a.b2,cv⟩:=
 r.next (a':=⟨⟨a.s.wd,a.s.b,eU,a.s.bl⟩,a.now,a.us,a.q,a.b2,cv⟩) aM bD b0 gq e5 dI r.jC lo hl ⟨r.jU.S,r.jU.Z,r.jU.O⟩ r.sh λ_ _ e=> .inl e
theorem az6{C:ad}(P:GC C)(Q:Gs C)(r:Rel h T R n N a){mo:Int}(cb: -9223372036854775808<=ino)(cV:ino<9223372036854775808):
 ∃e h1 h2 a',C (.fn 56) [.ptr T.a9 0,I ino,I mo] h=some (.ret (I e),h1)/\C (.fn 101) [.ptr R.rt 0,I ino,I mo] h1=some (.ret (I e),h2)/\l4 h h1 h2 T R n N a a':=by
 obtain⟨bT,cm⟩:=P h T n N a.s.wd a.s.b a.now a.us a.s.nd ino mo r.A cb cV;cases ag:c8 N a.us ino with
 |false=>exact⟨2,h,h,a,bT ag,(Q h R n N _ a.q a.b2 a.now a.us a.rd ino mo r.B).1 ag,r.refl⟩
 |true=>
  obtain⟨i,bV⟩:=tu ag;obtain⟨m,hm⟩:=(r.hl i bV.1).i 7 (by omega) (by omega);obtain⟨h1,aS,b0,cH,aM⟩:=cm i m bV.1 bV.2.1 bV.2.2 hm;have gd:aG h h1 (gI T):=aM.ek λ_ e=> .inr (.inr (.inr e))
  obtain⟨h2,a2,e5,cA,bD⟩:=(Q h1 R n N _ a.q a.b2 a.now a.us a.rd ino mo (r.bX gd)).2 i m bV (by rw[r.lo i 7 bV.1 (by omega)];exact hm);exact⟨0,h1,h2,_,aS,a2,r.low gd (bD.ek λ_ e=> .inr (.inr (.inr (.inl e)))) b0 ((r.M.kZ (by omega)).kZ (by omega)) e5 ((r.gQ.off (by omega)).off (by omega)) ((r.lo.de i 7 _).de i 10 _) (mi (mi r.hl i (by omega) (by omega) _) i (by omega) (by omega) _)⟩
theorem az8{C:ad}(P:GF C)(Q:Gu C)(r:Rel h T R n N a){at_ m:Int}(cb: -9223372036854775808<=ino)(cV:ino<9223372036854775808):
 ∃e h1 h2 a',C (.fn 58) [.ptr T.a9 0,I ino,I at_,I m] h=some (.ret (I e),h1)/\C (.fn 103) [.ptr R.rt 0,I ino,I at_,I m] h1=some (.ret (I e),h2)/\l4 h h1 h2 T R n N a a':=by
 obtain⟨bT,cm⟩:=P h T n N a.s.wd a.s.b a.now a.us a.s.nd ino at_ m r.A cb cV;cases ag:c8 N a.us ino with
 |false=>exact⟨2,h,h,a,bT ag,(Q h R n N _ a.q a.b2 a.now a.us a.rd ino at_ m r.B).1 ag,r.refl⟩
 |true=>
  obtain⟨i,bV⟩:=tu ag;obtain⟨h1,aS,b0,cH,aM⟩:=cm i bV.1 bV.2.1 bV.2.2;have gd:aG h h1 (gI T):=aM.ek λ_ e=> .inr (.inr (.inr e))
  obtain⟨h2,a2,e5,cA,bD⟩:=(Q h1 R n N _ a.q a.b2 a.now a.us a.rd ino at_ m (r.bX gd)).2 i bV
  exact⟨0,h1,h2,_,aS,a2,r.low gd (bD.ek λ_ e=> .inr (.inr (.inr (.inl e)))) b0 (((r.M.kZ (by omega)).kZ (by omega)).kZ (by omega)) e5 (((r.gQ.off (by omega)).off (by omega)).off (by omega)) (((r.lo.de i 8 _).de i 9 _).de i 10 _)
   (mi (mi (mi r.hl i (by omega) (by omega) _) i (by omega) (by omega) _) i (by omega) (by omega) _)⟩
theorem az3{C:ad}(P:F5 C)(Q:Gn C)(r:Rel h T R n N a)(cb: -9223372036854775808<=ino)(cV:ino<9223372036854775808):
 ∃e h1 h2 a',C (.fn 60) [.ptr T.a9 0,I ino] h=some (.ret (I e),h1)/\C (.fn 99) [.ptr R.rt 0,I ino] h1=some (.ret (I e),h2)/\l4 h h1 h2 T R n N a a':=by
 obtain⟨bT,cm⟩:=P h T n N a.s.wd a.s.b a.now a.us a.s.nd ino r.A cb cV;cases ag:c8 N a.us ino with
 |false=>exact⟨2,h,h,a,bT ag,(Q h R n N _ a.q a.b2 a.now a.us a.rd ino r.B).1 ag,r.refl⟩
 |true=>
  obtain⟨i,bV⟩:=tu ag;obtain⟨H,iJ⟩:=(r.hl i bV.1).i 11 (by omega) (by omega);obtain⟨h1,aS,b0,cH,aM⟩:=cm i H bV.1 bV.2.1 bV.2.2 iJ;have gd:aG h h1 (gI T):=aM.ek λ_ e=> .inr (.inr (.inr e))
  obtain⟨h2,a2,e5,cA,bD⟩:=(Q h1 R n N _ a.q a.b2 a.now a.us a.rd ino (r.bX gd)).2 i H bV (by rw[r.lo i 11 bV.1 (by omega)];exact iJ);exact⟨0,h1,h2,_,aS,a2,r.low gd (bD.ek λ_ e=> .inr (.inr (.inr (.inl e)))) b0 (r.M.kZ (by omega)) e5 (r.gQ.off (by omega)) (r.lo.de i 11 _) (mi r.hl i (by omega) (by omega) _)⟩
theorem az7{C:ad}(P:GD C)(Q:Gt C)(r:Rel h T R n N a){u g:Int}(cb: -9223372036854775808<=ino)(cV:ino<9223372036854775808):
 ∃e h1 h2 a',C (.fn 57) [.ptr T.a9 0,I ino,I u,I g] h=some (.ret (I e),h1)/\C (.fn 102) [.ptr R.rt 0,I ino,I u,I g] h1=some (.ret (I e),h2)/\l4 h h1 h2 T R n N a a':=by
 obtain⟨bT,cm⟩:=P h T n N a.s.wd a.s.b a.now a.us a.s.nd ino u g r.A cb cV;cases ag:c8 N a.us ino with
 |false=>exact⟨2,h,h,a,bT ag,(Q h R n N _ a.q a.b2 a.now a.us a.rd ino u g r.B).1 ag,r.refl⟩
 |true=>
  obtain⟨i,bV⟩:=tu ag;obtain⟨fe,nj⟩:=cm i bV.1 bV.2.1 bV.2.2;by_cases he:u < -1\/g < -1
  ·exact⟨22,h,h,a,fe he,((Q h R n N _ a.q a.b2 a.now a.us a.rd ino u g r.B).2 i bV).1 he,r.refl⟩
  ·obtain⟨h1,aS,b0,cH,aM⟩:=nj he;have gd:aG h h1 (gI T):=aM.ek λ_ e=> .inr (.inr (.inr e))
   obtain⟨h2,a2,e5,cA,bD⟩:=((Q h1 R n N _ a.q a.b2 a.now a.us a.rd ino u g (r.bX gd)).2 i bV).2 he;refine⟨0,h1,h2,_,aS,a2,r.low gd (bD.ek λ_ e=> .inr (.inr (.inr (.inl e)))) b0 ?_ e5 ?_ ?_ ?_⟩
   ·unfold qW;split<;>split
    ·exact((r.M.kZ (by omega)).kZ (by omega)).kZ (by omega)
    ·exact(r.M.kZ (by omega)).kZ (by omega)
    ·exact(r.M.kZ (by omega)).kZ (by omega)
    ·exact r.M.kZ (by omega)
   ·unfold qW;split<;>split
    ·exact((r.gQ.off (by omega)).off (by omega)).off (by omega)
    ·exact(r.gQ.off (by omega)).off (by omega)
    ·exact(r.gQ.off (by omega)).off (by omega)
    ·exact r.gQ.off (by omega)
   ·unfold qW;split<;>split
    ·exact((r.lo.de i 3 _).de i 4 _).de i 10 _
    ·exact(r.lo.de i 4 _).de i 10 _
    ·exact(r.lo.de i 3 _).de i 10 _
    ·exact r.lo.de i 10 _
   ·unfold qW;split<;>split
    ·exact mi (mi (mi r.hl i (by omega) (by omega) _) i (by omega) (by omega) _) i (by omega) (by omega) _
    ·exact mi (mi r.hl i (by omega) (by omega) _) i (by omega) (by omega) _
    ·exact mi (mi r.hl i (by omega) (by omega) _) i (by omega) (by omega) _
    ·exact mi r.hl i (by omega) (by omega) _
end
section
variable{h h1 h2:U}{T:ei}{R:eS}{n N:Nat}{a a':nr}{i:Nat}{ino:Int}
theorem mv.row{nd rd:Nat->Nat->J}(H:mv N nd rd)(i:Nat)(g:Nat->J):mv N (iw nd i g) (iw rd (i+1) g):=λi' c hi ae=>by
 by_cases e:i'=i
 ·rw[e,o1,o1]
 ·rw[o0 _ _ _ (by omega),o0 _ _ _ e];exact H i' c hi ae
theorem aeJ{nd:Nat->Nat->J}(H:∀i,i<N->kV (nd i))(i:Nat){g:Nat->J}(bd:kV g):∀i',i'<N->kV (iw nd i g i'):=λi' hi=>by
 by_cases e:i'=i
 ·subst e
  have:iw nd i' g i'=g:=funext λc=>o1 ..
  rw[this];exact bd
 ·have:iw nd i g i'=nd i':=funext λc=>o0 _ _ _ e
  rw[this];exact H i' hi
theorem aeH:kV fA:=⟨⟨0,rfl,by omega,by omega⟩,⟨0,rfl,by omega⟩,λc h1 _=>⟨0,if_neg (by omega)⟩⟩
theorem aq7{v uid gid mo now:Int}:kV (mh v uid gid mo now):=by
 refine⟨⟨0,rfl,by omega,by omega⟩,⟨0,rfl,by omega⟩,λc h1 _=>?_⟩;unfold mh;rw[if_neg (by omega)];split
 ·exact⟨_,rfl⟩
 ·split
  ·exact⟨_,rfl⟩
  ·split
   ·exact⟨_,rfl⟩
   ·split
    ·exact⟨_,rfl⟩
    ·split
     ·exact⟨_,rfl⟩
     ·exact⟨_,rfl⟩
theorem di.row{rd:Nat->Nat->J}{bl:Nat->Nat->Nat}(M:di N rd bl){g:Nat->J}(bd:∀c,12<=c->c<308->g c=I 0)(h0:∀c,12<=c->c<308->bl i c=0):di N (iw rd (i+1) g) bl:=λi' c cF dG ae=>by
 by_cases e:i'=i
 ·obtain⟨bT,cm⟩:=Jw dG ae;rw[e,o1,bd c dG ae,h0 _ bT cm];rfl
 ·rw[o0 _ _ _ (by omega)];exact M i' c cF dG ae
theorem aqT{v uid gid mo now:Int}{c:Nat}(h:12<=c):mh v uid gid mo now c=I 0:=by
 unfold mh;rw[if_neg (by omega),if_neg (by omega),if_neg (by omega),if_neg (by omega),if_neg (by omega),if_neg (by omega)]
theorem az2{C:ad}(P:FW C)(Q:Gj C)(r:Rel h T R n N a){mo uid gid:Int}(cb: -9223372036854775808<=mo)(cV:mo<9223372036854775808):
 ∃v e h1 h2 a',C (.fn 37) [.ptr T.a9 0,I mo,I uid,I gid] h=some (.ret (.bm [I v,I e]),h1)/\C (.fn 97) [.ptr R.rt 0,I mo,I uid,I gid] h1=some (.ret (.bm [I v,I e]),h2)/\l4 h h1 h2 T R n N a a':=by
 obtain⟨bT,cm,fe⟩:=P h T n N a.s.wd a.s.b a.now a.us a.s.nd mo uid gid r.A;obtain⟨ej,fV,_⟩:=Q h R n N _ a.q a.b2 a.now a.us a.rd mo uid gid r.B cb cV;by_cases ag:lC mo uid gid
 ·exact⟨0,22,h,h,a,bT ag,ej ag,r.refl⟩
 ·by_cases fP:∀j,j<N->a.us j=true
  ·exact⟨0,28,h,h,a,cm ag fP,fV ag fP,r.refl⟩
  ·obtain⟨i,hi,hu,vZ⟩:∃i,i<N/\a.us i=false/\∀j,j<i->a.us j=true:=by
    cases aL:oN N a.us with
    |none=>exact absurd (Rb aL) fP
    |some j=>exact⟨j,Rc aL⟩
   obtain⟨h1,aS,b0,cH,aM⟩:=fe ag i hi hu vZ;have gd:aG h h1 (gI T):=aM.ek λ_ e=> .inr (.inr (.inr e))
   obtain⟨h2,a2,e5,cA,bD⟩:=(Q h1 R n N _ a.q a.b2 a.now a.us a.rd mo uid gid (r.bX gd) cb cV).2.2 ag i hi hu vZ;have a1:=r.jU.Z i hi hu;have aO:∀c,12<=c->c<308->mh ((i+1:Nat):Int) uid gid mo a.now c=I 0:=λc h1 _=>aqT h1
   refine⟨_,0,h1,h2,⟨⟨a.s.wd,a.s.b,iw a.s.nd i (mh ((i+1:Nat):Int) uid gid mo a.now),a.s.bl⟩,a.now,de a.us i true,a.q,a.b2,iw a.rd (i+1) (mh ((i+1:Nat):Int) uid gid mo a.now)⟩,aS,a2,r.next gd (bD.ek λ_ e=> .inr (.inr (.inr (.inl e)))) b0 (r.M.row aO a1) e5 (r.gQ.row aO a1) r.jC (r.lo.row i _) (aeJ r.hl i aq7) ⟨r.jU.S,λi' cF gU=>?_,r.jU.O⟩ r.sh λ_ _ e=> .inl e⟩;by_cases e:i'=i
   ·rw[e];exact a1
   ·have gU:de a.us i true i'=false:=gU;rw[ix _ _ e] at gU;exact r.jU.Z i' cF gU
theorem agI{y2 jx eU cv:Nat->Nat->J}{dg:Nat->Nat}{eh Lt:Nat->Bool}{bl' GV:Nat->Nat->Nat}{ds:Nat->Bool}{L H:Int}(r:Rel h T R n N a)(aM:aG h h1 (gI T))(bD:aG h1 h2 (jw R a.q))(lo:mv N y2 jx)(hl:∀i,i<N->kV (y2 i))
 (b0:bx h1 T n N dg a.s.b a.now eh eU)(h5:c1 n N dg eU bl')(G:zM i L H a.s.wd dg a.us eh y2 eU a.s.bl bl')(e5:bJ h2 R n N ds a.q a.b2 a.now Lt cv)(M2:di N cv GV)(K:xq i L H (bQ a.s.wd) ds a.us Lt jx cv a.s.bl GV):
 ∃a',l4 h h1 h2 T R n N a a':=by
 rcases G with⟨g1,rfl,rfl,rfl,rfl⟩|⟨g1,g2,rfl,rfl,rfl,g3⟩
 ·rcases K with⟨_,rfl,rfl,rfl,rfl⟩|⟨k1,k2,_⟩
  ·exact⟨⟨⟨a.s.wd,a.s.b,eU,a.s.bl⟩,a.now,a.us,a.q,a.b2,cv⟩,r.next aM bD b0 h5 e5 M2 r.jC lo hl ⟨r.jU.S,r.jU.Z,r.jU.O⟩ r.sh λ_ _ e=> .inl e⟩
  ·exact absurd k1 (by omega)
 ·rcases K with⟨k1,_⟩|⟨_,_,rfl,hx,rfl,n1⟩
  ·exact absurd k1 (by omega)
  ·have NG:ds=bQ dg:=funext λj=>Bool.eq_iff_iff.2 ((n1 j).trans (g3 j).symm)
   rw[NG] at e5
   have iP:mv N (iw y2 i fA) cv:=λi' c hi ae=>by
    rw[hx _ _ ae];exact lo.row i fA i' c hi ae
   refine⟨⟨⟨dg,a.s.b,iw y2 i fA,m2 a.s.bl i⟩,a.now,de a.us i false,a.q,a.b2,cv⟩,r.next aM bD b0 h5 e5 M2 (λp aC=>r.jC p ((g3 _).1 aC).1) iP (aeJ hl i aeH) (anv g3 r.jU) r.sh λ_ _ e=> .inl e⟩
theorem az5{C:ad}(P:GB C)(Q:Gr C)(r:Rel h T R n N a)(cb: -9223372036854775808<=ino)(cV:ino<9223372036854775808):
 ∃e h1 h2 a',C (.fn 61) [.ptr T.a9 0,I ino] h=some (.ret (I e),h1)/\C (.fn 100) [.ptr R.rt 0,I ino] h1=some (.ret (I e),h2)/\l4 h h1 h2 T R n N a a':=by
 obtain⟨bT,cm⟩:=P h T n N a.s.wd a.s.b a.now a.us a.s.nd a.s.bl ino r.A r.M cb cV;cases ag:c8 N a.us ino with
 |false=>exact⟨2,h,h,a,bT ag,(Q h R n N _ a.q a.b2 a.now a.us a.rd a.s.bl ino r.B r.gQ r.M.m1).1 ag,r.refl⟩
 |true=>
  obtain⟨i,bV⟩:=tu ag;obtain⟨H,iJ⟩:=(r.hl i bV.1).i 11 (by omega) (by omega);obtain⟨L,h8,_⟩:=(r.hl i bV.1).l;have Dj:a.rd (i+1) 11=I H:=by rw[r.lo i 11 bV.1 (by omega)];exact iJ
  have Dk:a.rd (i+1) 2=I L:=by rw[r.lo i 2 bV.1 (by omega)];exact h8
  have a1:=(r.jU.S i bV.1).OZ;obtain⟨fe,nj⟩:=cm i L H bV.1 bV.2.1 bV.2.2 h8 iJ;by_cases he:H=0
  ·exact⟨22,h,h,a,fe he,((Q h R n N _ a.q a.b2 a.now a.us a.rd a.s.bl ino r.B r.gQ r.M.m1).2 i L H bV a1 Dk Dj).1 he,r.refl⟩
  ·obtain⟨h1,dg,eh,eU,bl',aS,b0,h5,sy,aM⟩:=nj he;have gd:aG h h1 (gI T):=aM.ek λ_ e=>e.elim (λe=> .inr (.inl e)) λe=> .inr (.inr (.inr e))
   obtain⟨h2,ds,Lt,cv,GV,a2,e5,M2,mW,bD⟩:=((Q h1 R n N _ a.q a.b2 a.now a.us a.rd a.s.bl ino (r.bX gd) r.gQ r.M.m1).2 i L H bV a1 Dk Dj).2 he;obtain⟨a',st⟩:=agI r gd (bD.ek λ_ e=>e.elim (λe=> .inr (.inl e)) λe=> .inr (.inr (.inr (.inl e)))) (r.lo.de i 11 _) (mi r.hl i (by omega) (by omega) _) b0 h5 sy e5 M2 mW;exact⟨0,h1,h2,a',aS,a2,st⟩
theorem az4{C:ad}(P:Ga C)(Q:Gq C)(r:Rel h T R n N a){by_:Int}(cb: -9223372036854775808<=ino)(cV:ino<9223372036854775808):
 ∃e h1 h2 a',C (.fn 59) [.ptr T.a9 0,I ino,I by_] h=some (.ret (I e),h1)/\C (.fn 98) [.ptr R.rt 0,I ino,I by_] h1=some (.ret (I e),h2)/\l4 h h1 h2 T R n N a a':=by
 obtain⟨bT,cm⟩:=P h T n N a.s.wd a.s.b a.now a.us a.s.nd a.s.bl ino by_ r.A r.M cb cV;cases ag:c8 N a.us ino with
 |false=>exact⟨2,h,h,a,bT ag,(Q h R n N _ a.q a.b2 a.now a.us a.rd a.s.bl ino by_ r.B r.gQ r.M.m1).1 ag,r.refl⟩
 |true=>
  obtain⟨i,bV⟩:=tu ag;obtain⟨H,iJ⟩:=(r.hl i bV.1).i 11 (by omega) (by omega);obtain⟨L,h8,Mg,lx⟩:=(r.hl i bV.1).l;have Dj:a.rd (i+1) 11=I H:=by rw[r.lo i 11 bV.1 (by omega)];exact iJ
  have Dk:a.rd (i+1) 2=I L:=by rw[r.lo i 2 bV.1 (by omega)];exact h8
  have a1:=(r.jU.S i bV.1).OZ;obtain⟨fe,nj,y8⟩:=cm i L H bV.1 bV.2.1 bV.2.2 h8 Mg lx iJ;obtain⟨nk,BA,_⟩:=(Q h R n N _ a.q a.b2 a.now a.us a.rd a.s.bl ino by_ r.B r.gQ r.M.m1).2 i L H bV a1 Dk Mg lx Dj;by_cases he:by_ < -L
  ·exact⟨22,h,h,a,fe he,nk he,r.refl⟩
  ·by_cases yh:16-L<by_
   ·exact⟨31,h,h,a,nj yh,BA yh,r.refl⟩
   ·obtain⟨h1,dg,eh,eU,bl',aS,b0,h5,sy,aM⟩:=y8 (by omega) (by omega);have gd:aG h h1 (gI T):=aM.ek λ_ e=>e.elim (λe=> .inr (.inl e)) λe=> .inr (.inr (.inr e))
    obtain⟨h2,ds,Lt,cv,GV,a2,e5,M2,mW,bD⟩:=((Q h1 R n N _ a.q a.b2 a.now a.us a.rd a.s.bl ino by_ (r.bX gd) r.gQ r.M.m1).2 i L H bV a1 Dk Mg lx Dj).2.2 (by omega) (by omega);obtain⟨a',st⟩:=agI r gd (bD.ek λ_ e=>e.elim (λe=> .inr (.inl e)) λe=> .inr (.inr (.inr (.inl e)))) ((r.lo.de i 2 _).de i 10 _) (mi (aq8 r.hl i (v:=L+by_) (by omega) (by omega)) i (by omega) (by omega) _) b0 h5 sy e5 M2 mW;exact⟨0,h1,h2,a',aS,a2,st⟩
theorem aeI{nd:Nat->Nat->J}(H:∀i,i<N->kV (nd i))(i:Nat){v:Nat}(h1:v<=17792)(now:Int):∀i',i'<N->kV (grown nd i v now i'):=
 mi (mi (aq9 H i h1) i (by omega) (by omega) now) i (by omega) (by omega) now
theorem mv.grown{nd rd:Nat->Nat->J}(H:mv N nd rd)(i v:Nat)(now:Int):mv N (Eva.grown nd i v now) (Eva.grown rd (i+1) v now):=((H.de i 5 _).de i 9 _).de i 10 _
theorem di.grown{rd:Nat->Nat->J}{bl:Nat->Nat->Nat}(M:di N rd bl)(i v:Nat)(now:Int):di N (Eva.grown rd i v now) bl:=((M.off (by omega)).off (by omega)).off (by omega)
theorem iV.tail{on ds:Nat->Bool}{b b':Nat->Nat}(h:iV on b b')(aq:∀j,ds j=true->on j=true)(bl:Nat->Nat->Nat)(i sz:Nat):iV ds (lW b bl i sz) (lW b' bl i sz):=by
 have h':iV ds b b':=λp aC=>h p (aq _ aC)
 unfold lW;split
 ·exact h'.over _ _
 ·exact h'
theorem Zm{bl:Nat->Nat->Nat}{i k c:Nat}(h:gC bl i k c):12<=c:=by
 rcases h with⟨j,_,_,e⟩|⟨e,_⟩|⟨j,_,e,_⟩|⟨e,_⟩
 ·rw[e];exact qX
 ·omega
 ·omega
 ·omega
def GJ(C:ad):Prop:=∀h T n N wd b now us nd (ino sz:Int),bx h T n N wd b now us nd-> -9223372036854775808<=ino->ino<9223372036854775808->c8 N us ino=false->C (.fn 40) [.ptr T.a9 0,I ino,I sz] h=some (.ret (I 2),h)
theorem az9{C:ad}(fh:GJ C)(P:GK C)(Q:Gw C)(r:Rel h T R n N a){sz:Int}(cb: -9223372036854775808<=ino)(cV:ino<9223372036854775808)(hP: -9223372036854775808<=sz)(e0:sz<9223372036854775808):
 ∃e h1 h2 a',C (.fn 40) [.ptr T.a9 0,I ino,I sz] h=some (.ret (I e),h1)/\C (.fn 96) [.ptr R.rt 0,I ino,I sz] h1=some (.ret (I e),h2)/\l4 h h1 h2 T R n N a a':=by
 cases ag:c8 N a.us ino with
 |false=>exact⟨2,h,h,a,fh h T n N a.s.wd a.s.b a.now a.us a.s.nd ino sz r.A cb cV ag,(Q h R n N _ a.q a.b2 a.now a.us a.rd a.s.bl ino sz r.B r.gQ r.M.m1 hP e0).1 ag,r.refl⟩
 |true=>
  obtain⟨i,bV⟩:=tu ag;have a1:=(r.jU.S i bV.1).OZ;have yn:=bV.2.2;subst yn;obtain⟨bT,cm,fe⟩:=P h T n N a.now a.us a.s i sz r.A r.M bV.1 bV.2.1 hP e0;obtain⟨ej,fV,_⟩:=(Q h R n N _ a.q a.b2 a.now a.us a.rd a.s.bl _ sz r.B r.gQ r.M.m1 hP e0).2 i bV a1;by_cases he:sz<0
  ·exact⟨22,h,h,a,bT he,ej he,r.refl⟩
  ·by_cases yh:17792<sz
   ·exact⟨27,h,h,a,cm yh,fV yh,r.refl⟩
   ·obtain⟨h1,ff,aS,b0,h5,aM,xc⟩:=fe (by omega) (by omega);have gd:aG h h1 (gI T):=aM.ek λ_ e=> .inr e
    obtain⟨h2,ds,cv,a2,Ci⟩:=((Q h1 R n N _ a.q a.b2 a.now a.us a.rd a.s.bl _ sz (r.bX gd) r.gQ r.M.m1 hP e0).2 i bV a1).2.2 (by omega) (by omega);have NG:ds=bQ ff.wd:=funext λj=>Bool.eq_iff_iff.2 ((Ci.O j).trans (xc.on j).symm)
    have e5:=Ci.A;rw[NG] at e5
    have vq:aG h1 h2 (jw R a.q):=Ci.F.ek λ_ e=>by
     rcases e with e|e|e
     ·exact .inr (.inl e)
     ·exact .inr (.inr (.inr (.inl e)))
     ·exact .inr (.inr (.inr (.inr e)))
    have MM:=alT xc bV.2.1 r.jU;have M2:=Ci.M;rw[<- xc.bl] at M2 e5
    have iP:mv N ff.nd cv:=λi' c hi ae=>by
     rw[Ci.L _ _ ae,r.lo i' c hi ae,xc.nd,G3 λx=>by have:=Zm x.2;omega]
    have Jo:∀i',i'<N->kV (ff.nd i'):=λi' hi=>by
     have e:∀c,c<12->ff.nd i' c=a.s.nd i' c:=λc ae=>by rw[xc.nd,G3 λx=>by have:=Zm x.2;omega]
     obtain⟨l,z,k⟩:=r.hl i' hi;exact⟨by rw[e 2 (by omega)];exact l,by rw[e 5 (by omega)];exact z,λc k1 k2=>by rw[e c k2];exact k c k1 k2⟩
    refine⟨0,h1,h2,⟨⟨ff.wd,ff.b,Eva.grown ff.nd i sz.toNat a.now,ff.bl⟩,a.now,a.us,a.q,lW a.b2 ff.bl i sz.toNat,Eva.grown cv (i+1) sz.toNat a.now⟩,aS,a2,r.next gd vq b0 h5 e5 (M2.grown _ _ _) ?_ (iP.grown i _ _) (aeI Jo i (by omega) _) ⟨MM.S,MM.Z,MM.O⟩ r.sh λ_ _ e=> .inl e⟩;show iV (bQ ff.wd) ff.b (lW a.b2 ff.bl i sz.toNat);rw[xc.b];exact r.jC.tail (λj aa=>((xc.on j).1 aa).1) _ _ _
end
section
variable{lf:Nat}{h h1 h2:U}{T:ei}{R:eS}{n N:Nat}{a a':nr}{i:Nat}{ino:Int}
def Gy(C:ad):Prop:=∀h R n N now us s q b2 rd (ino off:Int) x l,pk n N s->bJ h R n N (bQ s.wd) q b2 now us rd->di N rd s.bl->iV (bQ s.wd) s.b b2->Bytes h x l->l.length<=140737488351232->(∀j,rowOf x=some j->j<h.next/\¬sj R n q j/\∀u,q u≠some j)->
 (c8 N us ino=false->C (.fn 94) [.ptr R.rt 0,I ino,I off,x] h=some (.ret (.bm [I 0,I 2]),h))/\
 (∀i (sz:Nat),ic N us ino i->rd (i+1) 5=I (sz:Int)->(off<0->C (.fn 94) [.ptr R.rt 0,I ino,I off,x] h=some (.ret (.bm [I 0,I 22]),h))/\
   (0<=off->l=[]->C (.fn 94) [.ptr R.rt 0,I ino,I off,x] h=some (.ret (.bm [I 0,I 0]),h))/\
   (l≠[]->17792<=off->C (.fn 94) [.ptr R.rt 0,I ino,I off,x] h=some (.ret (.bm [I 0,I 27]),h))/\
   (l≠[]->0<=off->off<17792->∃h',C (.fn 94) [.ptr R.rt 0,I ino,I off,x] h=some (.ret (.bm [I ((dX n i off.toNat l s).2:Int),I (if(dX n i off.toNat l s).2=0 then 28 else 0)]),h')/\
     X4 h h' R n N now us i (dX n i off.toNat l s) sz off.toNat rd q))
def GO(C:ad):Prop:=∀h T n N wd b now us nd (ino off:Int) x,bx h T n N wd b now us nd-> -9223372036854775808<=ino->ino<9223372036854775808->c8 N us ino=false->C (.fn 38) [.ptr T.a9 0,I ino,I off,x] h=some (.ret (.bm [I 0,I 2]),h)
def xu(C:ad):Prop:=∀h T n N wd b now us nd (ino off m:Int),bx h T n N wd b now us nd-> -9223372036854775808<=ino->ino<9223372036854775808->c8 N us ino=false->C (.fn 41) [.ptr T.a9 0,I ino,I off,I m] h=some (.ret (.bm [.val (.slice none 0 0),I 2]),h)
def wO(n:Nat)(q:Nat->Option Nat)(u:Nat):Option Nat:=if u<n then q u else none
theorem agy{q:Nat->Option Nat}{u k:Nat}(h:wO n q u=some k):u<n/\q u=some k:=by
 unfold wO at h;by_cases e:u<n
 ·rw[if_pos e] at h;exact⟨e,h⟩
 ·rw[if_neg e] at h;cases h
theorem bJ.agz{on:Nat->Bool}{q:Nat->Option Nat}{b:Nat->Nat}{now:Int}{us:Nat->Bool}{rd:Nat->Nat->J}(A:bJ h R n N on q b now us rd):bJ h R n N on (wO n q) b now us rd:=by
 obtain⟨x0,x1,c0,aS,V⟩:=A.ref.v;have a0:∀i,i<n->wO n q i=q i:=λi hi=>if_pos hi
 refine⟨A.pd,A.gN,⟨⟨x0,x1,c0,aS,⟨V.cH,V.cA,V.av,V.az,V.vb,V.BY,V.uv,λi hi e=>V.off i hi (by rw[<- a0 i hi];exact e),λi k hi e=>V.has i k hi (by rw[<- a0 i hi];exact e),λi j k hi aa e bg=>V.inj i j k hi aa (by rw[<- a0 i hi];exact e) (by rw[<- a0 j aa];exact bg),V.ne,V.tB,V.tA,V.blt⟩⟩,
  A.ref.wr,A.ref.tF,A.ref.pR,λi k hi e=>A.ref.qT i k hi (by rw[<- a0 i hi];exact e),A.ref.lt⟩,A.a2,A.cr,A.ct,A.wt,A.wl,A.kj,A.lX,A.d1,A.d2,A.d3,λi k hi e=>A.d4 i k hi (by rw[<- a0 i hi];exact e),A.hO⟩
theorem aAa{C:ad}(Mo:GO C)(P:GH C)(Q:Gy C)(r:Rel h T R n N a){off:Int}{x1 x2:J}{l:List Nat}(cb: -9223372036854775808<=ino)(cV:ino<9223372036854775808)(dN: -9223372036854775808<=off)(df:off<9223372036854775808)
 (jm:Bytes h x1 l)(ye:mu x1)(r2:∀j,rowOf x1=some j->j<h.next/\¬gI T j)(kJ:l.length<=140737488351232)(e5:Bytes h x2 l)(wj:∀j,rowOf x2=some j->j<h.next/\¬gI T j/\¬jw R a.q j):
 ∃v e h1 h2 a',C (.fn 38) [.ptr T.a9 0,I ino,I off,x1] h=some (.ret (.bm [I v,I e]),h1)/\C (.fn 94) [.ptr R.rt 0,I ino,I off,x2] h1=some (.ret (.bm [I v,I e]),h2)/\l4 h h1 h2 T R n N a a':=by
 have qC:∀h':U,h.next<=h'.next->∀j,rowOf x2=some j->j<h'.next/\¬sj R n a.q j/\∀u,a.q u≠some j:=λh' aO j aa=>
  ⟨Nat.lt_of_lt_of_le (wj j aa).1 aO,λe=>(wj j aa).2.2 (Wt e),λu e=>(wj j aa).2.2 (.inr (.inr (.inr (.inr ⟨u,e⟩))))⟩
 cases ag:c8 N a.us ino with
 |false=>exact⟨0,2,h,h,a,Mo h T n N a.s.wd a.s.b a.now a.us a.s.nd ino off x1 r.A cb cV ag,(Q h R n N a.now a.us a.s a.q a.b2 a.rd ino off x2 l r.zy r.B r.gQ r.jC e5 kJ (qC h (Nat.le_refl _))).1 ag,r.refl⟩
 |true=>
  obtain⟨i,bV⟩:=tu ag;have hi:=bV.1;obtain⟨sz,dR,rZ⟩:=(r.hl i hi).z;have yD:a.rd (i+1) 5=I (sz:Int):=by rw[r.lo i 5 hi (by omega)];exact dR
  have yn:=bV.2.2;subst yn
  have nO:Co T x1:=λj aa=>by
   have:=(r2 j aa).2
   exact⟨λe=>this (.inl e),λe=>this (.inr (.inl e)),λe=>this (.inr (.inr (.inl e))),λe=>this (.inr (.inr (.inr e)))⟩
  obtain⟨bT,cm,fe,nj⟩:=P h T n N a.now a.us a.s i off x1 l sz r.A r.M r.jF r.O hi bV.2.1 dR rZ jm ye nO (λj aa=>(r2 j aa).1) kJ dN df;obtain⟨ej,fV,nk,_⟩:=(Q h R n N a.now a.us a.s a.q a.b2 a.rd _ off x2 l r.zy r.B r.gQ r.jC e5 kJ (qC h (Nat.le_refl _))).2 i sz bV yD;by_cases az:off<0
  ·exact⟨0,22,h,h,a,bT az,ej az,r.refl⟩
  ·by_cases aA:l=[]
   ·exact⟨0,0,h,h,a,cm (by omega) aA,fV (by omega) aA,r.refl⟩
   ·by_cases cj:17792<=off
    ·exact⟨0,27,h,h,a,fe aA cj,nk aA cj,r.refl⟩
    ·obtain⟨h1,aM,_,zG,tY⟩:=nj aA (by omega) (by omega);have gd:aG h h1 (gI T):=aM.ek λ_ e=> .inr e
     have L0:Bytes h1 x2 l:=e5.frame λbR ob len cap lo e=>gd.same bR (wj bR (by rw[e];rfl)).1 (wj bR (by rw[e];rfl)).2.1
     obtain⟨h2,a2,cv,hA,nD,p9,M2,mW,XW,a0,bD⟩:=((Q h1 R n N a.now a.us a.s a.q a.b2 a.rd _ off x2 l r.zy (r.bX gd) r.gQ r.jC L0 kJ (qC h1 aM.next)).2 i sz bV yD).2.2.2 aA (by omega) (by omega);have vq:aG h1 h2 (jw R a.q):=bD.ek λ_ e=> .inr e
     obtain⟨o,rfl⟩:∃o:Nat,off=o:=⟨off.toNat,by omega⟩;rw[Int.toNat_natCast] at *
     have fE:o+(ez o l).length<=17792:=by
      have:(ez o l).length<=17792-o:=by simp[ez];omega
      omega
     have IM:∀i' c,i'<N->c<12->(dX n i o l a.s).1.nd i' c=a.s.nd i' c:=λi' c cF ae=>
      (FK (n:=n) (N:=N) (i:=i) (off:=o) (l:=ez o l) fE (i':=i') (c:=c) hi ae (ez o l).length 0 a.s (by omega) r.zy).1
     have apr:(dX n i o l a.s).2<=(ez o l).length:=(FK (n:=n) (N:=N) (i:=i) (off:=o) (l:=ez o l) fE (i':=i) (c:=0) hi (by omega) (ez o l).length 0 a.s (by omega) r.zy).2.2.1;have IA:rv N a.us (dX n i o l a.s).1:=ais fE hi bV.2.1 (ez o l).length 0 a.s (by omega) r.zy r.jU;generalize dX n i o l a.s=w at *;have iP:mv N w.1.nd cv:=λi' c cF ae=>by rw[XW _ _ ae,IM i' c cF ae];exact r.lo i' c cF ae
     have Jo:∀i',i'<N->kV (w.1.nd i'):=λi' cF=>by
      obtain⟨l,z,k⟩:=r.hl i' cF;exact⟨by rw[IM i' 2 cF (by omega)];exact l,by rw[IM i' 5 cF (by omega)];exact z,λc k1 k2=>by rw[IM i' c cF k2];exact k c k1 k2⟩
     have oM:∀u k,wO n hA u=some k->a.q u=some k\/h.next<=k:=λu k e=>(a0 u k (agy e).2).imp id λx=>Nat.le_trans aM.next x
     have wg:∀u k,wO n hA u=some k->u<n:=λu k e=>(agy e).1
     by_cases a1:w.2=0
     ·obtain⟨aS,b0,h5⟩:=zG a1;rw[if_pos a1] at a2 p9;have av:((w.2:Nat):Int)=0:=by omega
      rw[av] at a2;exact⟨0,28,h1,h2,⟨w.1,a.now,a.us,wO n hA,nD,cv⟩,aS,a2,r.next gd vq b0 h5 p9.agz M2 mW iP Jo IA wg oM⟩
     ·obtain⟨aS,b0,h5⟩:=tY a1;rw[if_neg a1] at a2 p9
      exact⟨_,0,h1,h2,⟨⟨w.1.wd,w.1.b,grown w.1.nd i (max sz (o+w.2)) a.now,w.1.bl⟩,a.now,a.us,wO n hA,nD,grown cv (i+1) (max sz (o+w.2)) a.now⟩,aS,a2,
       r.next gd vq b0 h5 p9.agz (M2.grown _ _ _) mW (iP.grown i _ _) (aeI Jo i (by omega) _) ⟨IA.S,IA.Z,IA.O⟩ wg oM⟩
def MI(h:U)(x:J)(m:Nat):Prop:=(x= .val (.slice none 0 0)/\m=0)\/∃k off cap lo M,x= .aZ k off m cap lo/\h.wr k M/\off+m<=M
theorem Rel.byte(r:Rel h T R n N a)(hi:i<N){p:Nat}(aC:p<17792):pr a.s.bl a.b2 i p=oo a.s i p:=by
 have ai:p/64<278:=by omega
 unfold pr oo;by_cases e:a.s.bl i (a4 (p/64))=0
 ·rw[if_pos e,if_pos e]
 ·rw[if_neg e,if_neg e];refine(r.jC _ ?_).symm;rw[show((a.s.bl i (a4 (p/64))-1)*64+p%64)/64=a.s.bl i (a4 (p/64))-1 by omega];exact r.M.on i _ hi qX (sg ai) (by omega)
theorem Rel.cont(r:Rel h T R n N a)(hi:i<N){off m:Nat}(hm:off+m<=17792):nH a.s.bl a.b2 i off m=qh a.s i off m:=by
 unfold nH qh;refine List.map_congr_left λj aa=>r.byte hi ?_
 have:=List.mem_range.1 aa
 omega
theorem agK{C:ad}(Mo:xu C)(P:xx C)(Q:xt C)(r:Rel h T R n N a){off m:Int}(cb: -9223372036854775808<=ino)(cV:ino<9223372036854775808)(dN: -9223372036854775808<=off)(df:off<9223372036854775808)(hP: -9223372036854775808<=m)(e0:m<9223372036854775808):
 ∃x1 x2 l e h1 h2,C (.fn 41) [.ptr T.a9 0,I ino,I off,I m] h=some (.ret (.bm [x1,I e]),h1)/\C (.fn 88) [.ptr R.rt 0,I ino,I off,I m] h1=some (.ret (.bm [x2,I e]),h2)/\
  Bytes h2 x1 l/\Bytes h2 x2 l/\l.length<=17792/\MI h2 x1 l.length/\(∀j,rowOf x1=some j->h.next<=j)/\(c8 N a.us ino=true->0<=off->0<=m->e=0)/\aG h h1 (λ_=>False)/\aG h1 h2 (λ_=>False):=by
 have yw:∀h:U,Bytes h (.val (.slice none 0 0)) []:=λh=>⟨λc ae=>(by cases ae),.inl ⟨.inl rfl,rfl⟩⟩
 cases ag:c8 N a.us ino with
 |false=>exact⟨_,_,[],2,h,h,Mo h T n N a.s.wd a.s.b a.now a.us a.s.nd ino off m r.A cb cV ag,(Q h R n N _ a.q a.b2 a.now a.us a.rd a.s.bl ino off m r.B r.gQ r.M.m1 df e0).1 ag,yw _,yw _,by simp,.inl ⟨rfl,rfl⟩,λj aa=>(by cases aa),λe=>(by cases e),aG.refl _ _,aG.refl _ _⟩
 |true=>
  obtain⟨i,bV⟩:=tu ag;have hi:=bV.1;obtain⟨sz,dR,rZ⟩:=(r.hl i hi).z;have yD:a.rd (i+1) 5=I (sz:Int):=by rw[r.lo i 5 hi (by omega)];exact dR
  have yn:=bV.2.2;subst yn;obtain⟨bT,cm,fe⟩:=P h T n N a.now a.us a.s i off m sz r.A r.M hi bV.2.1 dR rZ dN df hP e0;by_cases az:off<0\/m<0
  ·exact⟨_,_,[],22,h,h,bT az,((Q h R n N _ a.q a.b2 a.now a.us a.rd a.s.bl _ off m r.B r.gQ r.M.m1 df e0).2 i sz bV yD rZ).1 az,yw _,yw _,by simp,.inl ⟨rfl,rfl⟩,λj aa=>(by cases aa),λ_ _ _=>by omega,aG.refl _ _,aG.refl _ _⟩
  ·by_cases aA:(sz:Int)<=off
   ·obtain⟨x2,h2,a2,e5,bD⟩:=((Q h R n N _ a.q a.b2 a.now a.us a.rd a.s.bl _ off m r.B r.gQ r.M.m1 df e0).2 i sz bV yD rZ).2 (by omega) (by omega);have av:min m.toNat (sz-off.toNat)=0:=by omega
    rw[av] at e5;exact⟨_,x2,[],0,h,h2,cm (by omega) (by omega) aA,a2,yw _,e5.bytes,by simp,.inl ⟨rfl,rfl⟩,λj aa=>(by cases aa),λ_ _ _=>rfl,aG.refl _ _,bD⟩
   ·obtain⟨h1,aS,aM,cH,cN,jm⟩:=fe (by omega) (by omega) (by omega);have gd:aG h h1 (gI T):=aM.ek λ_ e=>e.elim
    obtain⟨x2,h2,a2,e5,bD⟩:=((Q h1 R n N _ a.q a.b2 a.now a.us a.rd a.s.bl _ off m (r.bX gd) r.gQ r.M.m1 df e0).2 i sz bV yD rZ).2 (by omega) (by omega);rw[r.cont hi (by omega)] at e5;have al:=bD.same h.next cH (λe=>e)
    refine⟨_,x2,_,0,h1,h2,aS,a2,jm.frame λbR ob len cap lo e=>?_,e5.bytes,by simp[qh];omega,.inr ⟨h.next,0,some (min m.toNat (sz-off.toNat)),0,min m.toNat (sz-off.toNat),?_,fI cN al,?_⟩,λj aa=>?_,λ_ _ _=>rfl,aM,bD⟩
    ·cases e;exact al
    ·rw[show(qh a.s i off.toNat (min m.toNat (sz-off.toNat))).length=min m.toNat (sz-off.toNat) by simp[qh]]
    ·simp[qh]
    ·cases aa;exact Nat.le_refl _
theorem arD(f:Nat->Nat)(W:Nat->Bool):(ku f W).length<=296:=by
 unfold ku;rw[List.length_map]
 have:=List.length_filter_le W (List.range' 12 296)
 rwa[List.length_range'] at this
theorem eN.nil(h:U):eN h h (.val (.slice none 0 0)) []:=⟨hH.nil _ _ _,λj aa=>(by cases aa)⟩
theorem agJ{C:ad}(P:xw C)(Q:vv C)(r:Rel h T R n N a)(cb: -9223372036854775808<=ino)(cV:ino<9223372036854775808):
 ∃x1 x2 l e h1 h2,C (.fn 51) [.ptr T.a9 0,I ino] h=some (.ret (.bm [x1,I e]),h1)/\C (.fn 87) [.ptr R.rt 0,I ino] h1=some (.ret (.bm [x2,I e]),h2)/\
  eN h h1 x1 l/\eN h1 h2 x2 l/\(∀i,ic N a.us ino i->l=lj a.s.bl i/\e=0)/\l.length<=4096/\aG h h1 (λ_=>False)/\aG h1 h2 (λ_=>False):=by
 obtain⟨bT,cm⟩:=P h T n N a.s.wd a.s.b a.now a.us a.s.nd a.s.bl ino r.A r.M cb cV;cases ag:c8 N a.us ino with
 |false=>exact⟨_,_,[],2,h,h,bT ag,(Q h R n N _ a.q a.b2 a.now a.us a.rd a.s.bl ino r.B r.gQ r.M.m1).1 ag,eN.nil _,eN.nil _,λi bV=>absurd (ag.symm.trans bV.yes) (by decide),by simp,aG.refl _ _,aG.refl _ _⟩
 |true=>
  obtain⟨i,bV⟩:=tu ag;obtain⟨x1,h1,aS,qa,aM⟩:=cm i bV.1 bV.2.1 bV.2.2;have gd:aG h h1 (gI T):=aM.ek λ_ e=>e.elim
  obtain⟨x2,h2,a2,sA,bD⟩:=(Q h1 R n N _ a.q a.b2 a.now a.us a.rd a.s.bl ino (r.bX gd) r.gQ r.M.m1).2 i bV (r.jU.S i bV.1);refine⟨x1,x2,_,0,h1,h2,aS,a2,qa,sA,λi' anS=>⟨?_,rfl⟩,?_,aM,bD⟩
  rotate_left
  ·rw[aeY];exact Nat.le_trans (arD _ _) (by omega)
  have:i'=i:=by have:=anS.2.2;have:=bV.2.2;omega
  rw[this]
theorem bJ.WJ{on:Nat->Bool}{q:Nat->Option Nat}{b:Nat->Nat}{now:Int}{us:Nat->Bool}{rd:Nat->Nat->J}(A:bJ h R n N on q b now us rd)(at_:Int):bJ (h.set R.rt 3 [I at_]) R n N on q b at_ us rd:=by
 have F:aG h (h.set R.rt 3 [I at_]) (· =R.rt):=fa rfl;have aZ:cQ h (h.set R.rt 3 [I at_]) R.bw:=F.same _ A.hO A.d1;obtain⟨x0,x1,c0,aS,V⟩:=A.ref.v
 refine⟨A.pd,A.gN,⟨⟨x0,x1,by rw[eH (.inr (by simp))];exact c0,by rw[eH (.inr (by simp))];exact aS,V.frame (Nat.le_of_eq (eb ..).symm) λj aa=>F.same j (V.j8 aa) λe=>?_⟩,⟨5,by omega,eG A.wt⟩,A.ref.tF,A.ref.pR,A.ref.qT,by rw[eb];exact A.ref.lt⟩,
  by rw[eH (.inr (by simp))];exact A.a2,by rw[hh A.wt (by simp) (Nat.le_refl _) (by simp)];rfl,let ⟨cap,lo,e⟩:=A.ct;⟨cap,lo,by rw[eH (.inr (by simp))];exact e⟩,eG A.wt,fI A.wl aZ,λi c hi ae=>by rw[aZ.cell];exact A.kj i c hi ae,A.lX,A.d1,A.d2,A.d3,A.d4,by rw[eb];exact A.hO⟩
 rcases aa with aA|aA|⟨u,hu,aA⟩
 ·exact A.ref.tF (e.symm.trans aA)
 ·exact A.ref.pR (e.symm.trans aA)
 ·exact A.ref.qT u j hu aA e
end
noncomputable section
variable{C:ad}{lf:Nat}{bb a5 eB fl jM kK qJ qK qL qM qN qO qG qH qI:hc}{ao:kU}
noncomputable def aa0:ca aw:=⟨82,Tryd.f82,λr=>bif Nat.beq r 16 then .ord [0,1,3,7,8,10,2,4,9,11,5,6,12,13,14] [(6,[11,9]),(5,[11,9])] else .text,Tryd.func82,by kernel_rfl,by kernel_rfl,by kernel_rfl,by kernel_rfl⟩
noncomputable def OG(aF:O)(h:U):ab:=
 ob aF λa=>some (.ret a,h)
def Vk(C:ad)(lf:Nat)(r:ay)(x0 x1 x2:O)(h:U):ab:=
 ob x2 λa=>b2 (ri 92 a h) λa k=>eJ 0 a k λb=>cl .rem 5 b (.int .u8 4) λb=>eF .eql 5 b (.int .u8 0) (eJ 5 a k λb=>cS C 69 [b] k λb k=>df b λb c=>ob x0 λd=>eJ 1 a k λg=>eJ 2 a k λi=>cS C 38 [d,g,i,c] k λd k=>df d λd g=>ob x1 λi=>eJ 1 a k λj=>eJ 2 a k λm=>eJ 5 a k λo=>cS C 94 [i,j,m,o] k λi k=>df i λi j=>eJ 5 a k λa=>cS C 71 [b,a] k λa k=>cS C 95 [c] k λb k=>cl .eql 3 d i λb=>b8 b (some g) k λc k=>dV (cX true (some b) (cS C 34 [c] k λa k=>some (.ret a,k)) k) λc k=>b8 b (some j) k λd k=>b8 b (bin aw .eql 3 c d) k λc k=>hz b c λb=>b8 b (some a) k λa k=>hz b a λa=>r (some a) k) (eF .eql 5 b (.int .u8 1) (ob x0 λb=>eJ 1 a k λc=>eJ 2 a k λd=>eJ 3 a k λg=>cS C 41 [b,c,d,g] k λb k=>df b λb c=>ob x1 λd=>eJ 1 a k λg=>eJ 2 a k λi=>eJ 3 a k λa=>cS C 88 [d,g,i,a] k λa k=>df a λa d=>cS C 43 [b,a] k λa k=>b8 a (some c) k λc k=>dV (cX true (some a) (cS C 34 [c] k λa k=>some (.ret a,k)) k) λc k=>b8 a (some d) k λd k=>b8 a (bin aw .eql 3 c d) k λc k=>hz a c λa=>cS C 95 [b] k λb=>r (some a)) (eF .eql 5 b (.int .u8 2) (ob x0 λb=>ob (b6 1 a) λc=>ob (b6 2 a) λd=>ob x1 λg=>ob (b6 1 a) λi=>ob (b6 2 a) λa=>ob (bZ c k) λj=>ob (bZ d k) λm=>ob (bZ i k) λo=>ob (bZ a k) λp=>cR (C (.fn 40) [b,j,m] k) λb l=>eX (fC [(11,cq (some a)),(9,cq (some i)),(4,cq (some d)),(2,cq (some c))] k l [11,9]) (cR (C (.fn 34) [b] l) λb k=>eX (fC [(11,cq (some a)),(9,cq (some i)),(4,cq (some d)),(2,cq (some c))] l k [11,9]) (cR (C (.fn 96) [g,o,p] k) λa k=>cl .eql 3 b a λa=>r (some a) k))) (ob x0 λb=>eJ 1 a k λc=>cS C 51 [b,c] k λb k=>df b λb c=>ob x1 λd=>eJ 1 a k λa=>cS C 87 [d,a] k λa k=>df a λa d=>cS C 31 [b,a] k λa k=>b8 a (some c) k λb k=>dV (cX true (some a) (cS C 34 [b] k λa k=>some (.ret a,k)) k) λb k=>b8 a (some d) k λc k=>b8 a (bin aw .eql 3 b c) k λb k=>hz a b λa=>r (some a) k)))
theorem axp{r:ay}:∀F h,au aa0 C lf [] F h bb (aR r 6) ao=bE (Vk C lf r) 0 1 2 F h:=by
 intro F h;kernel_rfl
def Ie(C:ad)(lf:Nat)(aj ak aD:J)(h:U):ab:=Vk C lf OG (some aj) (some ak) (some aD) h
def abX:cx aw:=nA aa0 Ie (λC lf aj ak aD h=>cZ (K:=(aR OG 6)) (by kernel_rfl) (Eq.trans (axp _ h) (by kernel_rfl))) (by kernel_rfl)
noncomputable def aa1:ca aw:=⟨83,Tryd.f83,λr=>bif Nat.beq r 7 then .ord [0,1,3,7,8,10,2,4,9,11,5,6,12,13,14] [(6,[11,9]),(5,[11,9])] else bif Nat.beq r 9 then .ord [0,1,5,6,2,7,3,4,8,9,10] [(4,[7]),(3,[7])] else bif Nat.beq r 11 then .ord [0,1,5,6,2,7,3,4,8,9,10] [(4,[7]),(3,[7])] else bif Nat.beq r 13 then .ord [0,1,3,7,8,10,2,4,9,11,5,6,12,13,14] [(6,[11,9]),(5,[11,9])] else bif Nat.beq r 15 then .ord [0,1,3,5,9,10,12,14,2,4,6,11,13,15,7,8,16,17,18] [(8,[15,13,11]),(7,[15,13,11])] else bif Nat.beq r 17 then .ord [0,1,3,5,9,10,12,14,2,4,6,11,13,15,7,8,16,17,18] [(8,[15,13,11]),(7,[15,13,11])] else bif Nat.beq r 20 then .ord [0,2,3,1,4,5] [(1,[3])] else .text,Tryd.func83,by kernel_rfl,by kernel_rfl,by kernel_rfl,by kernel_rfl⟩
noncomputable def OH(aF:O)(h:U):ab:=
 ob aF λa=>some (.ret a,h)
def Vl(C:ad)(lf:Nat)(r:ay)(x0 x1 x2:O)(h:U):ab:=
 ob x2 λa=>b2 (ri 92 a h) λa k=>eJ 0 a k λb=>cl .rem 5 b (.int .u8 8) λb=>eF .eql 5 b (.int .u8 0) (ob x0 λb=>eJ 4 a k λc=>eJ 2 a k λd=>eJ 3 a k λg=>cS C 37 [b,c,d,g] k λb k=>df b λb c=>ob x1 λd=>eJ 4 a k λg=>eJ 2 a k λi=>eJ 3 a k λa=>cS C 97 [d,g,i,a] k λa k=>df a λa d=>cl .eql 3 b a λa=>b8 a (some c) k λb k=>dV (cX true (some a) (cS C 34 [b] k λa k=>some (.ret a,k)) k) λb k=>b8 a (some d) k λc k=>b8 a (bin aw .eql 3 b c) k λb k=>hz a b λa=>r (some a) k) (eF .eql 5 b (.int .u8 1) (ob x0 λb=>ob (b6 1 a) λc=>ob (b6 2 a) λd=>ob x1 λg=>ob (b6 1 a) λi=>ob (b6 2 a) λa=>ob (bZ c k) λj=>ob (bZ d k) λm=>ob (bZ i k) λo=>ob (bZ a k) λp=>cR (C (.fn 59) [b,j,m] k) λb l=>eX (fC [(11,cq (some a)),(9,cq (some i)),(4,cq (some d)),(2,cq (some c))] k l [11,9]) (cR (C (.fn 34) [b] l) λb k=>eX (fC [(11,cq (some a)),(9,cq (some i)),(4,cq (some d)),(2,cq (some c))] l k [11,9]) (cR (C (.fn 98) [g,o,p] k) λa k=>cl .eql 3 b a λa=>r (some a) k))) (eF .eql 5 b (.int .u8 2) (ob x0 λb=>ob (b6 1 a) λc=>ob x1 λd=>ob (b6 1 a) λa=>ob (bZ c k) λg=>ob (bZ a k) λi=>cR (C (.fn 60) [b,g] k) λb l=>eX (fC [(7,cq (some a)),(2,cq (some c))] k l [7]) (cR (C (.fn 34) [b] l) λb k=>eX (fC [(7,cq (some a)),(2,cq (some c))] l k [7]) (cR (C (.fn 99) [d,i] k) λa k=>cl .eql 3 b a λa=>r (some a) k))) (eF .eql 5 b (.int .u8 3) (ob x0 λb=>ob (b6 1 a) λc=>ob x1 λd=>ob (b6 1 a) λa=>ob (bZ c k) λg=>ob (bZ a k) λi=>cR (C (.fn 61) [b,g] k) λb l=>eX (fC [(7,cq (some a)),(2,cq (some c))] k l [7]) (cR (C (.fn 34) [b] l) λb k=>eX (fC [(7,cq (some a)),(2,cq (some c))] l k [7]) (cR (C (.fn 100) [d,i] k) λa k=>cl .eql 3 b a λa=>r (some a) k))) (eF .eql 5 b (.int .u8 4) (ob x0 λb=>ob (b6 1 a) λc=>ob (b6 4 a) λd=>ob x1 λg=>ob (b6 1 a) λi=>ob (b6 4 a) λa=>ob (bZ c k) λj=>ob (bZ d k) λm=>ob (bZ i k) λo=>ob (bZ a k) λp=>cR (C (.fn 56) [b,j,m] k) λb l=>eX (fC [(11,cq (some a)),(9,cq (some i)),(4,cq (some d)),(2,cq (some c))] k l [11,9]) (cR (C (.fn 34) [b] l) λb k=>eX (fC [(11,cq (some a)),(9,cq (some i)),(4,cq (some d)),(2,cq (some c))] l k [11,9]) (cR (C (.fn 101) [g,o,p] k) λa k=>cl .eql 3 b a λa=>r (some a) k))) (eF .eql 5 b (.int .u8 5) (ob x0 λb=>ob (b6 1 a) λc=>ob (b6 2 a) λd=>ob (b6 3 a) λg=>ob x1 λi=>ob (b6 1 a) λj=>ob (b6 2 a) λm=>ob (b6 3 a) λa=>ob (bZ c k) λo=>ob (bZ d k) λp=>ob (bZ g k) λq=>ob (bZ j k) λt=>ob (bZ m k) λu=>ob (bZ a k) λv=>cR (C (.fn 57) [b,o,p,q] k) λb l=>eX (fC [(15,cq (some a)),(13,cq (some m)),(11,cq (some j)),(6,cq (some g)),(4,cq (some d)),(2,cq (some c))] k l [15,13,11]) (cR (C (.fn 34) [b] l) λb k=>eX (fC [(15,cq (some a)),(13,cq (some m)),(11,cq (some j)),(6,cq (some g)),(4,cq (some d)),(2,cq (some c))] l k [15,13,11]) (cR (C (.fn 102) [i,t,u,v] k) λa k=>cl .eql 3 b a λa=>r (some a) k))) (eF .eql 5 b (.int .u8 6) (ob x0 λb=>ob (b6 1 a) λc=>ob (b6 6 a) λd=>ob (b6 7 a) λg=>ob x1 λi=>ob (b6 1 a) λj=>ob (b6 6 a) λm=>ob (b6 7 a) λa=>ob (bZ c k) λo=>ob (bZ d k) λp=>ob (bZ g k) λq=>ob (bZ j k) λt=>ob (bZ m k) λu=>ob (bZ a k) λv=>cR (C (.fn 58) [b,o,p,q] k) λb l=>eX (fC [(15,cq (some a)),(13,cq (some m)),(11,cq (some j)),(6,cq (some g)),(4,cq (some d)),(2,cq (some c))] k l [15,13,11]) (cR (C (.fn 34) [b] l) λb k=>eX (fC [(15,cq (some a)),(13,cq (some m)),(11,cq (some j)),(6,cq (some g)),(4,cq (some d)),(2,cq (some c))] l k [15,13,11]) (cR (C (.fn 103) [i,t,u,v] k) λa k=>cl .eql 3 b a λa=>r (some a) k))) (ob x0 λb=>eJ 6 a k λc=>cS C 55 [b,c] k λb k=>ob x1 λb=>eJ 6 a k λc=>uX 3 b c k λk=>ob x0 λb=>ob (b6 6 a) λa=>ob (bZ a k) λc=>cR (C (.fn 46) [b] k) λb l=>eX (fC [(3,cq (some a))] k l [3]) (cl .eql 2 b c λa=>r (some a) l))))))))
theorem axq{r:ay}:∀F h,au aa1 C lf [] F h bb (aR r 6) ao=bE (Vl C lf r) 0 1 2 F h:=by
 intro F h;kernel_rfl
def Ig(C:ad)(lf:Nat)(aj ak aD:J)(h:U):ab:=Vl C lf OH (some aj) (some ak) (some aD) h
def abY:cx aw:=nA aa1 Ig (λC lf aj ak aD h=>cZ (K:=(aR OH 6)) (by kernel_rfl) (Eq.trans (axq _ h) (by kernel_rfl))) (by kernel_rfl)
def aaF:ca aw:=dn 50 Tryd.f50 Tryd.func50 (by kernel_rfl)
noncomputable def Oj(aF:O)(h:U):ab:=
 ob aF λa=>some (.ret a,h)
def TP(C:ad)(lf:Nat)(r:ay)(x0 x1 x2:O)(h:U):ab:=
 ob x2 λa=>b2 (ri 92 a h) λa k=>eJ 0 a k λb=>eF .lss 5 b (.int .u8 128) (ob x0 λb=>ob x1 λc=>ob (fu 8 a k) λa=>cS C 82 [b,c,a] k λa=>r (some a)) (ob x0 λb=>ob x1 λc=>ob (fu 8 a k) λa=>cS C 83 [b,c,a] k λa=>r (some a))
theorem avx{r:ay}:∀F h,au aaF C lf [] F h bb (aR r 6) ao=bE (TP C lf r) 0 1 2 F h:=by
 intro F h;kernel_rfl
def HV(C:ad)(lf:Nat)(aj ak aD:J)(h:U):ab:=TP C lf Oj (some aj) (some ak) (some aD) h
def abD:cx aw:=nA aaF HV (λC lf aj ak aD h=>cZ (K:=(aR Oj 6)) (by kernel_rfl) (Eq.trans (avx _ h) (by kernel_rfl))) (by kernel_rfl)
noncomputable def hL:ca aw:=⟨52,Tryd.f52,λr=>bif Nat.beq r 1 then .ord [0,1,2,3,4,5,7,6,8,9,10,11,12,13,15,14,16,17,18,19,20,21,23,24,25,26,22,27,28] [(22,[26])] else .text,Tryd.func52,by kernel_rfl,by kernel_rfl,by kernel_rfl,by kernel_rfl⟩
noncomputable def CK(bC:O)(h:U):ab:=
 ob bC λa=>some (.ret a,h)
def Kl(C:ad)(lf:Nat)(r:ay)(x0 x1:O)(h:U):ab:=
 ob x0 λa=>cS C 62 [a,I 0] h λa k=>ob (h4 .not a) λa=>b8 a x0 k λb k=>dV (cX true (some a) (cS C 62 [b,I (-1)] k λa k=>some (.ret a,k)) k) λb k=>b8 a (h4 .not b) k λb k=>hz a b λa=>b8 a x0 k λb k=>b8 a x1 k λc k=>b8 a (ew c) k λc k=>b8 a (b6 2 c) k λc k=>jc .add 3 a (bZ c k) (I 1) k λc k=>dV (cX true (some a) (cS C 62 [b,c] k λa k=>some (.ret a,k)) k) λb k=>b8 a (h4 .not b) k λb k=>hz a b λa=>r (some a) k
theorem avX{r:ay}:∀F h,au hL C lf [1,1,1] F h bb (aR r 4) ao=a8 (Kl C lf r) 0 1 F h:=by
 intro F h;kernel_rfl
def Km(C:ad)(lf:Nat)(n:cY)(x0 x1 x50 x51 x52:O)(h:U):ab:=
 cC .add 3 x52 (I 1) λa=>n x0 x1 x50 x51 (some a) h
theorem avY{n:cY}:∀F h,au hL C lf [1,1,0,1,0,0,1,1,1] F h (dj n 0 1 50 51 52) a5 (bM 0 eB ao)=dj (Km C lf n) 0 1 50 51 52 F h:=by
 intro F h;kernel_rfl
def T6(C:ad)(lf:Nat)(n:cY)(r:ay)(x0 x1 aF x9 vc x50 x51 x52:O)(h:U):ab:=
 ob x0 λa=>ob aF λb=>ob x9 λc=>eJ 4 c h λc=>y6 .sub 3 c vc λc=>ob vc λd=>cS C 41 [a,b,c,d] h λa k=>df a λa b=>ob x1 λc=>ob aF λd=>ob x9 λg=>eJ 4 g k λg=>y6 .sub 3 g vc λg=>ob vc λi=>cS C 88 [c,d,g,i] k λc k=>df c λc d=>cS C 43 [a,c] k λa k=>ob (h4 .not a) λa=>dQ a (some b) k λb k=>dV (cX false (some a) (cS C 34 [b] k λa k=>some (.ret a,k)) k) λb k=>dQ a (bin aw .neq 3 b (I 0)) k λb k=>nn a b (r (some (.bool false)) k) (n x0 x1 x50 x51 x52 k)
def afI(C:ad)(lf:Nat)(n:xo)(x0 x1 aF x9 vc x50 x51 x52:O)(h:U):ab:=
 gJ .gtr 3 vc (I 4000) (n x0 x1 aF x9 (bG 4000) x50 x51 x52 h) (n x0 x1 aF x9 vc x50 x51 x52 h)
def afJ(C:ad)(lf:Nat)(n:cY)(r:ay)(x0 x1 aF x9 vc x50 x51 x52:O)(h:U):ab:=
 afI C lf (T6 C lf n r) x0 x1 aF x9 vc x50 x51 x52 h
def afK(C:ad)(lf:Nat)(n:xo)(x0 x1 aF x9 x50 x51 x52:O)(h:U):ab:=
 ob x9 λa=>eJ 4 a h λa=>n x0 x1 aF x9 (some a) x50 x51 x52 h
def T7(C:ad)(lf:Nat)(n:cY)(r:ay)(x0 x1 aF x9 x50 x51 x52:O)(h:U):ab:=
 afK C lf (afJ C lf n r) x0 x1 aF x9 x50 x51 x52 h
theorem avZ{n:cY}{r:ay}:∀F h,au hL C lf [1,1,0,1,0,0,1,1,0,0,1,1,1,1,1,1] F h (dj n 0 1 50 51 52) (aR r 4) (bM 1 fl (bM 0 eB ao))=og (T7 C lf n r) 0 1 6 9 50 51 52 F h:=by
 intro F h;kernel_rfl
def TR(C:ad)(lf:Nat)(n:kb)(r:ay)(x0 x1 aF x7 aP x9 x11 bW ey x50 x51 x52:O)(h:U):ab:=
 ob x7 λa=>ob (fu 10 a h) λa=>ob x9 λb=>ob (fu 10 b h) λb=>cl .neq 78 a b λa=>dQ a aP h λb k=>dV (cX false (some a) (cS C 34 [b] k λa k=>some (.ret a,k)) k) λb k=>dQ a (bin aw .neq 3 b (I 0)) k λb k=>ml a b λa=>dQ a bW k λb k=>dV (cX false (some a) (cS C 34 [b] k λa k=>some (.ret a,k)) k) λb k=>dQ a (bin aw .neq 3 b (I 0)) k λb k=>ml a b λa=>dQ a x11 k λb k=>dQ a ey k λc k=>dV (cX false (some a) (cS C 31 [b,c] k λa k=>some (.ret a,k)) k) λb k=>dQ a (h4 .not b) k λb k=>ml a b λa=>dQ a x0 k λb k=>dQ a aF k λc k=>dV (cX false (some a) (cS C 62 [b,c] k λa k=>some (.ret a,k)) k) λb k=>dQ a (h4 .not b) k λb k=>nn a b (r (some (.bool false)) k) (n x0 x1 aF x9 x50 x51 x52 k)
theorem avz{n:kb}{r:ay}:∀F h,au hL C lf [1,1,0,1,0,0,1,1,0,0,1,1,1,1,1,0] F h (og n 0 1 6 9 50 51 52) (aR r 4) (bM 1 fl (bM 0 eB ao))=ME (TR C lf n r) 0 1 6 7 8 9 11 12 13 50 51 52 F h:=by
 intro F h;kernel_rfl
def TS(C:ad)(lf:Nat)(n:cY)(r:ay)(x0 x1 aF x7 aP x9 x11 bW ey x50 x51 x52:O)(h:U):ab:=
 TR C lf (T7 C lf n r) r x0 x1 aF x7 aP x9 x11 bW ey x50 x51 x52 h
theorem avA{n:cY}{r:ay}:∀F h,au hL C lf [1,1,0,1,0,0,1,1,0,0,1,1,1,1,1] F h (dj n 0 1 50 51 52) (aR r 4) (bM 1 fl (bM 0 eB ao))=ME (TS C lf n r) 0 1 6 7 8 9 11 12 13 50 51 52 F h:=bn (by kernel_rfl) avZ avz
def TT(C:ad)(lf:Nat)(n:Mc)(x0 x1 aF x7 aP x9 x11 bW x50 x51 x52:O)(h:U):ab:=
 a2 C 87 x1 aF h λa k=>df a λa b=>n x0 x1 aF x7 aP x9 x11 bW (some a) x50 x51 x52 k
theorem avB{n:Mc}:∀F h,au hL C lf [1,1,0,1,0,0,1,1,0,0,1,1,1,1,0] F h (ME n 0 1 6 7 8 9 11 12 13 50 51 52) a5 (bM 1 fl (bM 0 eB ao))=MD (TT C lf n) 0 1 6 7 8 9 11 12 50 51 52 F h:=by
 intro F h;kernel_rfl
def TU(C:ad)(lf:Nat)(n:cY)(r:ay)(x0 x1 aF x7 aP x9 x11 bW x50 x51 x52:O)(h:U):ab:=
 TT C lf (TS C lf n r) x0 x1 aF x7 aP x9 x11 bW x50 x51 x52 h
theorem avC{n:cY}{r:ay}:∀F h,au hL C lf [1,1,0,1,0,0,1,1,0,0,1,1,1,1] F h (dj n 0 1 50 51 52) (aR r 4) (bM 1 fl (bM 0 eB ao))=MD (TU C lf n r) 0 1 6 7 8 9 11 12 50 51 52 F h:=bn (by kernel_rfl) avA avB
def TV(C:ad)(lf:Nat)(n:F7)(x0 x1 aF x7 aP x9 x50 x51 x52:O)(h:U):ab:=
 a2 C 51 x0 aF h λa k=>df a λa b=>n x0 x1 aF x7 aP x9 (some a) (some b) x50 x51 x52 k
theorem avD{n:F7}:∀F h,au hL C lf [1,1,0,1,0,0,1,1,0,0,1,1,1,0] F h (MD n 0 1 6 7 8 9 11 12 50 51 52) a5 (bM 1 fl (bM 0 eB ao))=MG (TV C lf n) 0 1 6 7 8 9 50 51 52 F h:=by
 intro F h;kernel_rfl
def TW(C:ad)(lf:Nat)(n:cY)(r:ay)(x0 x1 aF x7 aP x9 x50 x51 x52:O)(h:U):ab:=
 TV C lf (TU C lf n r) x0 x1 aF x7 aP x9 x50 x51 x52 h
theorem avE{n:cY}{r:ay}:∀F h,au hL C lf [1,1,0,1,0,0,1,1,0,0,1,1,1] F h (dj n 0 1 50 51 52) (aR r 4) (bM 1 fl (bM 0 eB ao))=MG (TW C lf n r) 0 1 6 7 8 9 50 51 52 F h:=bn (by kernel_rfl) avC avD
def TX(C:ad)(lf:Nat)(n:F8)(x0 x1 aF x7 aP x50 x51 x52:O)(h:U):ab:=
 a2 C 86 x1 aF h λa k=>df a λa b=>b2 (l1 aw 78 k) λb k=>ob (st 10 b a k) (n x0 x1 aF x7 aP (some b) x50 x51 x52)
theorem avF{n:F8}:∀F h,au hL C lf [1,1,0,1,0,0,1,1,0,0,1,1,0] F h (MG n 0 1 6 7 8 9 50 51 52) a5 (bM 1 fl (bM 0 eB ao))=MF (TX C lf n) 0 1 6 7 8 50 51 52 F h:=by
 intro F h;kernel_rfl
def TY(C:ad)(lf:Nat)(n:cY)(r:ay)(x0 x1 aF x7 aP x50 x51 x52:O)(h:U):ab:=
 TX C lf (TW C lf n r) x0 x1 aF x7 aP x50 x51 x52 h
theorem avG{n:cY}{r:ay}:∀F h,au hL C lf [1,1,0,1,0,0,1,1,0,0,1,1] F h (dj n 0 1 50 51 52) (aR r 4) (bM 1 fl (bM 0 eB ao))=MF (TY C lf n r) 0 1 6 7 8 50 51 52 F h:=bn (by kernel_rfl) avE avF
def TZ(C:ad)(lf:Nat)(n:xo)(x0 x1 aF x50 x51 x52:O)(h:U):ab:=
 a2 C 42 x0 aF h λa k=>df a λa b=>b2 (l1 aw 78 k) λc k=>ob (st 10 c a k) (n x0 x1 aF (some c) (some b) x50 x51 x52)
theorem avH{n:xo}:∀F h,au hL C lf [1,1,0,1,0,0,1,1,0,0,1,0] F h (MF n 0 1 6 7 8 50 51 52) a5 (bM 1 fl (bM 0 eB ao))=dY (TZ C lf n) 0 1 6 50 51 52 F h:=by
 intro F h;kernel_rfl
def Kf(C:ad)(lf:Nat)(n:cY)(r:ay)(x0 x1 aF x50 x51 x52:O)(h:U):ab:=
 TZ C lf (TY C lf n r) x0 x1 aF x50 x51 x52 h
theorem avI{n:cY}{r:ay}:∀F h,au hL C lf [1,1,0,1,0,0,1,1,0,0,1] F h (dj n 0 1 50 51 52) (aR r 4) (bM 1 fl (bM 0 eB ao))=dY (Kf C lf n r) 0 1 6 50 51 52 F h:=bn (by kernel_rfl) avG avH
def T0(C:ad)(lf:Nat)(n:dy)(x0 x1 x50 x51 x52:O)(h:U):ab:=
 ob x50 λa=>tH 1 a x52 h λa=>n x0 x1 (some a) x50 x51 x52 h
theorem avJ{n:dy}:∀F h,au hL C lf [1,1,0,1,0,0,1,1,0,0,0] F h (dY n 0 1 6 50 51 52) a5 (bM 1 fl (bM 0 eB ao))=dj (T0 C lf n) 0 1 50 51 52 F h:=by
 intro F h;kernel_rfl
def T1(C:ad)(lf:Nat)(n:cY)(r:ay)(x0 x1 x50 x51 x52:O)(h:U):ab:=
 T0 C lf (Kf C lf n r) x0 x1 x50 x51 x52 h
theorem avK{n:cY}{r:ay}:∀F h,au hL C lf [1,1,0,1,0,0,1,1,0,0] F h (dj n 0 1 50 51 52) (aR r 4) (bM 1 fl (bM 0 eB ao))=dj (T1 C lf n r) 0 1 50 51 52 F h:=bn (by kernel_rfl) avI avJ
def T2(C:ad)(lf:Nat)(n:cY)(r:ay)(x0 x1 x50 x51 x52:O)(h:U):ab:=
 T1 C lf (Km C lf n) r x0 x1 x50 x51 x52 h
theorem avL{n:cY}{r:ay}:∀F h,au hL C lf [1,1,0,1,0,0,1,1] F h (dj n 0 1 50 51 52) (aR r 4) (bM 0 eB ao)=dj (T2 C lf n r) 0 1 50 51 52 F h:=bn (a:=cc hL [1,1,0,1,0,0,1,1,0]) (by kernel_rfl) avY (gm (id:=1) (by kernel_rfl) avK)
noncomputable def Kg(C:ad)(lf:Nat)(n:cY)(av:aU)(x0 x1 x50 x51 x52 Xi:O)(h:U):ab:=
 ob Xi λa=>fY a (n x0 x1 x50 x51 x52 h) (av x0 x1 h)
theorem avM{n:cY}{av:aU}:∀F h,au hL C lf [1,1,0,1,0,0,1,0] F h (dj n 0 1 50 51 52) a5 (bM 0 (a8 av 0 1) ao)=dY (Kg C lf n av) 0 1 50 51 52 53 F h:=by
 intro F h;kernel_rfl
def Kh(C:ad)(lf:Nat)(n:cY)(r:ay)(av:aU)(x0 x1 x50 x51 x52 Xi:O)(h:U):ab:=
 Kg C lf (T2 C lf n r) av x0 x1 x50 x51 x52 Xi h
theorem avN{n:cY}{r:ay}{av:aU}:∀F h,au hL C lf [1,1,0,1,0,0,1] F h (dj n 0 1 50 51 52) (aR r 4) (bM 0 (a8 av 0 1) ao)=dY (Kh C lf n r av) 0 1 50 51 52 53 F h:=bn (by kernel_rfl) avL avM
def Ki(C:ad)(lf:Nat)(n:dy)(x0 x1 x50 x51 x52:O)(h:U):ab:=
 n5 .lss 3 x52 x51 λa=>n x0 x1 x50 x51 x52 (some a) h
theorem avO{n:dy}:∀F h,au hL C lf [1,1,0,1,0,0,0] F h (dY n 0 1 50 51 52 53) a5 (bM 0 eB ao)=dj (Ki C lf n) 0 1 50 51 52 F h:=by
 intro F h;kernel_rfl
def ER(C:ad)(lf:Nat)(n:cY)(r:ay)(av:aU)(x0 x1 x50 x51 x52:O)(h:U):ab:=
 Ki C lf (Kh C lf n r av) x0 x1 x50 x51 x52 h
theorem avP{n:cY}{r:ay}{av:aU}:∀F h,au hL C lf [1,1,0,1,0,0] F h (dj n 0 1 50 51 52) (aR r 4) (bM 0 (a8 av 0 1) ao)=dj (ER C lf n r av) 0 1 50 51 52 F h:=bn (by kernel_rfl) avN avO
def wq(C:ad)(lf:Nat)(r:ay)(av:aU)(k:O×O×O×O×O->U->ab)(s:O×O×O×O×O)(h:U):ab:=
 ER C lf (λa b c d g=>k (a,b,c,d,g)) r av s.1 s.2.1 s.2.2.1 s.2.2.2.1 s.2.2.2.2 h
def T3(C:ad)(lf:Nat)(n:cY)(x0 x1:O)(h:U):ab:=
 aS C 84 x1 h λa k=>kM 33 a λb=>n x0 x1 (some a) (some b) (bG 0) k
theorem avQ{n:cY}:∀F h,au hL C lf [1,1,0,0] F h (dj n 0 1 50 51 52) a5 ao=a8 (T3 C lf n) 0 1 F h:=by
 intro F h;kernel_rfl
def T4(C:ad)(lf:Nat)(n:aU)(r:ay)(x0 x1:O)(h:U):ab:=
 T3 C lf (λa b c d g=>bq (wq C lf r n) lf (a,b,c,d,g)) x0 x1 h
theorem avR{n:aU}{r:ay}:∀F h,au hL C lf [1,1,0] F h (a8 n 0 1) (aR r 4) ao=a8 (T4 C lf n r) 0 1 F h:=bn (b:=cc hL [1,1,0,1]) (by kernel_rfl) (gm (id:=0) (a:=cc hL [1,1,0,1,0]) (by kernel_rfl) (hg (g:=λF=>(F 0,F 1,F 50,F 51,F 52)) (body:=wq C lf r n) (by kernel_rfl) (λk=>(avP (n:=λx0 x1 x50 x51 x52 h=>k (x0,x1,x50,x51,x52) h))))) (avQ (n:=λx0 x1 x50 x51 x52 h=>bq (wq C lf r n) lf (x0,x1,x50,x51,x52) h))
def Kj(C:ad)(lf:Nat)(r:ay)(x0 x1:O)(h:U):ab:=
 T4 C lf (Kl C lf r) r x0 x1 h
theorem avS{r:ay}:∀F h,au hL C lf [1,1] F h bb (aR r 4) ao=a8 (Kj C lf r) 0 1 F h:=bn (by kernel_rfl) avX avR
def Kk(C:ad)(lf:Nat)(n:aU)(r:ay)(x0 x1:O)(h:U):ab:=
 ob x0 λa=>ob x1 λb=>cR (C (.fn 45) [a,b] h) λa k=>ob (h4 .not a) λa=>cR (cX false (some a) (ob x0 λa=>some (.ret a,k)) k) λb k=>cR (cX false (some a) (ob x1 λa=>some (.ret a,k)) k) λc k=>cR (cX false (some a) (cR (C (.fn 47) [b] k) λa k=>some (.ret a,k)) k) λb k=>cR (cX false (some a) (cR (C (.fn 84) [c] k) λa k=>some (.ret a,k)) k) λc k=>cR (cX false (some a) (cR (C (.fn 31) [b,c] k) λa k=>some (.ret a,k)) k) λb k=>cR (cX false (some a) (ob (h4 .not b) λa=>some (.ret a,k)) k) λb k=>ml a b λa=>cR (cX false (some a) (ob x0 λa=>some (.ret a,k)) k) λb k=>cR (cX false (some a) (ob x1 λa=>some (.ret a,k)) k) λc k=>cR (cX false (some a) (cR (C (.fn 48) [b] k) λa k=>some (.ret a,k)) k) λb k=>cR (cX false (some a) (cR (C (.fn 85) [c] k) λa k=>some (.ret a,k)) k) λc k=>cR (cX false (some a) (cR (C (.fn 31) [b,c] k) λa k=>some (.ret a,k)) k) λb k=>cR (cX false (some a) (ob (h4 .not b) λa=>some (.ret a,k)) k) λb k=>ml a b λa=>cR (cX false (some a) (ob x0 λa=>some (.ret a,k)) k) λb k=>cR (cX false (some a) (ob x1 λa=>some (.ret a,k)) k) λc k=>cR (cX false (some a) (ob (ew c) λa=>some (.ret a,k)) k) λc k=>cR (cX false (some a) (ob (b6 3 c) λa=>some (.ret a,k)) k) λc k=>cR (cX false (some a) (ob (bZ c k) λa=>some (.ret a,k)) k) λd k=>cR (cX false (some a) (cR (C (.fn 46) [b] k) λa k=>some (.ret a,k)) k) λb l=>eX (fC [(26,Pm false (some a) (cq (some c)))] k l [26]) (cR (cX false (some a) (cl .neq 2 b d λa=>some (.ret a,l)) l) λb k=>nn a b (r (some (.bool false)) k) (n x0 x1 k))
theorem avT{n:aU}{r:ay}:∀F h,au hL C lf [1,0] F h (a8 n 0 1) (aR r 4) ao=a8 (Kk C lf n r) 0 1 F h:=by
 intro F h;kernel_rfl
def afG(C:ad)(lf:Nat)(r:ay)(x0 x1:O)(h:U):ab:=
 Kk C lf (Kj C lf r) r x0 x1 h
theorem avU{r:ay}:∀F h,au hL C lf [1] F h bb (aR r 4) ao=a8 (afG C lf r) 0 1 F h:=bn (by kernel_rfl) avS avT
noncomputable def afH(C:ad)(lf:Nat)(n:aU)(x0 x1:O)(h:U):ab:=
 n x0 x1 h
theorem avV{n:aU}:∀F h,au hL C lf [0] F h (a8 n 0 1) a5 ao=a8 (afH C lf n) 0 1 F h:=by
 intro F h;kernel_rfl
def T5(C:ad)(lf:Nat)(r:ay)(x0 x1:O)(h:U):ab:=
 afH C lf (afG C lf r) x0 x1 h
theorem avW{r:ay}:∀F h,au hL C lf [] F h bb (aR r 4) ao=a8 (T5 C lf r) 0 1 F h:=bn (by kernel_rfl) avU avV
def HW(C:ad)(lf:Nat)(aj ak:J)(h:U):ab:=T5 C lf CK (some aj) (some ak) h
def abF:cx aw:=hd hL HW (λC lf aj ak h=>cZ (K:=(aR CK 4)) (by kernel_rfl) (Eq.trans (avW _ h) (by kernel_rfl))) (by kernel_rfl)
def aaE:ca aw:=dn 49 Tryd.f49 Tryd.func49 (by kernel_rfl)
noncomputable def Oi(bC eC:O)(h:U):ab:=
 ob bC λa=>ob eC λb=>some (.ret (.bm [a,b]),h)
def TO(C:ad)(lf:Nat)(r:aU)(x0 x1:O)(h:U):ab:=
 cC .gtr 3 x0 (I 1048576) λa=>jr .gtr 3 a x1 (I 1048576) h λb k=>nn a b (r (some (.val (.pointer none))) (some (.val (.pointer none))) k) (a2 C 44 x0 x1 k λa k=>df a λa b=>eF .neq 3 b (I 0) (r (some (.val (.pointer none))) (some (.val (.pointer none))) k) (a2 C 36 x0 x1 k λb k=>df b λb c=>cS C 34 [c] k λc k=>eF .neq 3 c (I 0) (r (some (.val (.pointer none))) (some a) k) (r (some b) (some a) k)))
theorem avw{r:aU}:∀F h,au aaE C lf [] F h bb (a8 r 4 5) ao=a8 (TO C lf r) 0 1 F h:=by
 intro F h;kernel_rfl
def CX(C:ad)(lf:Nat)(aj ak:J)(h:U):ab:=TO C lf Oi (some aj) (some ak) h
def abC:cx aw:=hd aaE CX (λC lf aj ak h=>cZ (K:=(a8 Oi 4 5)) (by kernel_rfl) (Eq.trans (avw _ h) (by kernel_rfl))) (by kernel_rfl)
end
section
variable{lf:Nat}{h:U}{T:ei}{n N:Nat}{wd b:Nat->Nat}{now:Int}{us:Nat->Bool}{nd:Nat->Nat->J}{ino:Int}
theorem aC2{C:ad}(fh:l3 C){sz:Int}(A:bx h T n N wd b now us nd)(cb: -9223372036854775808<=ino)(cV:ino<9223372036854775808)(ag:c8 N us ino=false):
 s5 C lf (.ptr T.a9 0) (I ino) (I sz) h=some (.ret (I 2),h):=by
 have bd:=s9 fh A cb cV ag;have d2:decide ((2:Int)≠0)=true:=rfl
 have pre:s5 C lf (.ptr T.a9 0) (I ino) (I sz) h=wK C lf (λx0 x2 x7 h=>BC C lf nK x0 x2 x7 h) nK (some (.ptr T.a9 0)) (some (I sz)) (some (.val (.pointer none))) (some (I 2)) h:=by
  unfold s5 J5 J4 J3 J2;simp only[ch,cd,kh,bd,pz,List.getElem?_cons_zero,List.getElem?_cons_succ];rfl
 rw[pre];unfold wK nK;simp only[aE,d2]
theorem aDv{C:ad}(fh:l3 C){off:Int}{x:J}(A:bx h T n N wd b now us nd)(cb: -9223372036854775808<=ino)(cV:ino<9223372036854775808)(ag:c8 N us ino=false):
 rO C lf (.ptr T.a9 0) (I ino) (I off) x h=some (.ret (.bm [I 0,I 2]),h):=by
 have bd:=s9 fh A cb cV ag;have d2:decide ((2:Int)≠0)=true:=rfl;unfold rO J1 J0 JZ JY;simp only[ch,cd,kh,bd,pz,List.getElem?_cons_zero,List.getElem?_cons_succ];unfold JX JW ql;simp only[aE,d2]
theorem azU{C:ad}(fh:l3 C){off m:Int}(A:bx h T n N wd b now us nd)(cb: -9223372036854775808<=ino)(cV:ino<9223372036854775808)(ag:c8 N us ino=false):
 uC C lf (.ptr T.a9 0) (I ino) (I off) (I m) h=some (.ret (.bm [.val (.slice none 0 0),I 2]),h):=by
 have bd:=s9 fh A cb cV ag;have d2:decide ((2:Int)≠0)=true:=rfl;unfold uC Ke Kd Kc Kb;simp only[ch,cd,kh,bd,pz,List.getElem?_cons_zero,List.getElem?_cons_succ];unfold Ka J9 s3;simp only[aE,d2]
def MJ(C:ad):Prop:=∀h x m,MI h x m->m<=140737488351232->∃h',C (.fn 95) [x] h=some (.ret (.bm []),h')/\h'.next=h.next/\aG h h' (λj=>rowOf x=some j)
theorem ahr{C:ad}{k off m M:Nat}{cap:Option Nat}{lo:Nat}(hm:m<=140737488351232)(gq:off+m<=M)(av:cu):∀(d t:Nat),t+d=m->∀f,d<f->∀h:U,h.wr k M->
 ∃h',bq (yR C lf av) f (some (.aZ k off m cap lo),some (I (m:Int)),some (I (t:Int))) h=av h'/\h'.next=h.next/\aG h h' (· =k)
 |0,t,aN,f,an,h,w=>by
  obtain⟨f,rfl⟩:=dK f (by omega);have ba:decide ((t:Int)<(m:Int))=false:=br (by omega);refine⟨h,?_,rfl,aG.refl _ _⟩;rw[dr];unfold yR BH;simp only[aE,ba]
 |d+1,t,aN,f,an,h,w=>by
  obtain⟨f,rfl⟩:=dK f (by omega);have ba:decide ((t:Int)<(m:Int))=true:=bu (by omega);have dC:IntKind.i64.wrap ((t:Int)+1)=((t+1:Nat):Int):=cL (by omega);have b7:=gV (s:=1) (k:=k) (off:=off) (len:=m) (lo:=lo) (cap:=cap) (kd:= .i64) (i:=(t:Int)) (by omega) (by omega);rw[Int.toNat_natCast,Nat.mul_one] at b7;have dv:=hR (n:=1) (off:=off+t) (y:= .int .u8 99) w rfl (by omega) rfl;have ae:(J.int .u8 99).cells=[.int .u8 99]:=rfl;rw[ae] at dv;obtain⟨h2,aA,cA,bD⟩:=ahr (C:=C) (cap:=cap) (lo:=lo) hm gq av d (t+1) (by omega) f (by omega) (h.set k (off+t) [.int .u8 99]) (eG w);refine⟨h2,?_,cA.trans (eb ..),(fa (S:=(· =k)) rfl).trans bD⟩;rw[dr];show BH C lf (λx0 bC eC h=>bq (yR C lf av) f (x0,bC,eC) h) av _ _ _ h=_;unfold BH;simp only[aE,ba,b7,dv,dC];exact aA
theorem aBy{C:ad}{x:J}{m:Nat}(gu:140737488351233<=lf)(S:MI h x m)(hm:m<=140737488351232):∃h',Io C lf x h=some (.ret (.bm []),h')/\h'.next=h.next/\aG h h' (λj=>rowOf x=some j):=by
 unfold Io V6 V5;rcases S with⟨rfl,rfl⟩|⟨k,off,cap,lo,M,rfl,w,gq⟩
 ·have aL:eE aw 24 (.val (.slice none 0 0))=some (I 0):=by simp[eE,Tryd.underlying24,fD]
  refine⟨h,?_,rfl,aG.refl _ _⟩;obtain⟨f,rfl⟩:∃g,lf=g+1:=⟨lf-1,by omega⟩;have ba:decide ((0:Int)<0)=false:=rfl;simp only[ch,cd,aL];rw[dr];unfold yR BH CN;simp only[aE,ba]
 ·have aL:=uS (k:=k) (off:=off) (len:=m) (cap:=cap) (lo:=lo) Tryd.underlying24;obtain⟨h',az,cH,aM⟩:=ahr (C:=C) (lf:=lf) (cap:=cap) (lo:=lo) hm gq CN m 0 (by omega) lf (by omega) h w;refine⟨h',?_,cH,aM.ek λj e=>by rw[e];rfl⟩;simp only[ch,cd,aL];refine Eq.trans az ?_;unfold CN;rfl
end
structure GN (h0 h:U) (T:ei) (x:J) (l:List Nat):Prop where
 b:Bytes h x l
 c:mu x
 w:x= .val (.slice none 0 0)\/∃k cap,x= .aZ k 0 l.length cap 0/\(∃N,h.wr k N/\l.length<=N)
 n:∀j,rowOf x=some j->h0.next<=j/\j<h.next
 t:Co T x
section
variable{h:U}{y:J}{l:List Nat}{d:Nat}
end
structure X7 (h0 h:U) (T:ei) (s:dL) (want:List Nat) (x:J):Prop where
 A:bx h T 1000 1 s.wd s.b 0 aDg s.nd
 M:c1 1000 1 s.wd s.nd s.bl
 O:zU 1 s
 sz:s.nd 0 5=I (want.length:Int)
 le:want.length<=17792
 one:∀c,c<12->(s.nd 0 c).one=true
 Cv:∀p,p<17792->oo s 0 p=want.getD p 0
 W:GN h0 h T x want
 jF:hr h
 aEI:ny h T
 t0:h0.next<=T.a9/\h0.next<=T.bO/\h0.next<=T.kd/\h0.next<=T.aJ
 F:aG h0 h (λ_=>False)
 g:mE<h0.next
theorem X7.zy{h0 h:U}{T:ei}{s:dL}{want:List Nat}{x:J}(A:X7 h0 h T s want x):pk 1000 1 s:=⟨A.M,A.A.st.iU⟩
theorem GN.hK{h0 h h':U}{T:ei}{x:J}{l:List Nat}(W:GN h0 h T x l){Q:Nat->Prop}(F:aG h h' Q)(a0:∀j,rowOf x=some j->¬Q j):GN h0 h' T x l:=by
 have al:∀j,rowOf x=some j->cQ h h' j:=λj aa=>F.same j (W.n j aa).2 (a0 j aa)
 refine⟨W.b.frame λbR ob len cap lo e=>al bR (by rw[e];rfl),W.c,?_,λj aa=>⟨(W.n j aa).1,Nat.lt_of_lt_of_le (W.n j aa).2 F.next⟩,W.t⟩;rcases W.w with e|⟨k,cap,rfl,N,h1,h2⟩
 ·exact .inl e
 ·exact .inr ⟨k,cap,rfl,N,fI h1 (al k rfl),h2⟩
section
variable{lf:Nat}{h h0:U}{T:ei}{s:dL}{want:List Nat}{x:J}{aDA aDB aDC:O}
end
section
variable{lf:Nat}{h h0:U}{T:ei}{s:dL}{want:List Nat}{x:J}{aDA aDB aDC:O}
end
structure zV where
 at_:Int
 kA:J
 l:List Nat
 cut:Bool
def zV.cells(a:zV):List J:=[I a.at_,a.kA,.bool a.cut]
structure zV.mY (h:U) (a:zV):Prop where
 ak: -9223372036854775808<=a.at_
 aD:a.at_<9223372036854775808
 b:Bytes h a.kA a.l
 c:mu a.kA
 l:a.l.length<=140737488351232
 z:∀j,rowOf a.kA=some j->j<h.next
def XZ(h:U)(x:J)(L:List zV):Prop:=(F2 x/\L=[])\/∃jh pS cap lo m,x= .aZ jh pS L.length cap lo/\h.mt jh=some m/\jh<h.next/\
 ∀t (aN:t<L.length),(∀c,c<3->h.cell jh (pS+t*3+c)=L[t].cells[c]?)/\L[t].mY h
theorem XZ.len{h:U}{x:J}{L:List zV}(A:XZ h x L):eE aw 72 x=some (I (L.length:Int)):=by
 rcases A with⟨rfl|⟨_,rfl⟩,rfl⟩|⟨jh,pS,cap,lo,m,rfl,_⟩
 ·simp[eE,Tryd.underlying72,fD]
 ·simp[eE,Tryd.underlying72,fD]
 ·exact uS Tryd.underlying72
section
variable{lf:Nat}{h h0:U}{T:ei}{s:dL}{want:List Nat}{x:J}
def zY(C:ad):Prop:=∀h x y l dD,Bytes h x l->Bytes h y dD->C (.fn 43) [x,y] h=some (.ret (.bool (decide (l=dD))),h)
theorem aBd{C:ad}{x y:J}{l dD:List Nat}(B:Bytes h x l)(lr:Bytes h y dD):HQ C lf x y h=some (.ret (.bool (decide (l=dD))),h):=by
 have az:=LQ (P:=aw) (s:=24) (d:=9) Tryd.underlying24 Tryd.underlying9 (by kernel_rfl) B;have aA:=LQ (P:=aw) (s:=24) (d:=9) Tryd.underlying24 Tryd.underlying9 (by kernel_rfl) lr
 have cj:decide (u5 l=u5 dD)=decide (l=dD):=by
  have:=aC9 B.1 lr.1
  by_cases e:l=dD
  ·simp[e]
  ·simp[e,this]
 unfold HQ TH Od;simp only[ch,cd,rF,az,aA,YI,cj]
end
structure gP where
 k:Nat
 ino:Int
 x:Int
 y:Int
 mo:Int
 kA:J
 at_:Int
 M9:Int
 l:List Nat
def gP.cells(o:gP):List J:=[.int .u8 (o.k:Int),I o.ino,I o.x,I o.y,I o.mo,o.kA,I o.at_,I o.M9]
def sB(v:Int):Prop:= -9223372036854775808<=v/\v<9223372036854775808
structure gP.mY (h:U) (o:gP):Prop where
 k:o.k<256
 ino:sB o.ino
 x:sB o.x
 y:sB o.y
 mo:sB o.mo
 t:Bytes h o.kA o.l
 BR:o.l.length<=140737488351232
 iS:∀j,rowOf o.kA=some j->j<h.next
structure sE (h:U) (K:Nat) (o:gP):Prop where
 c0:h.cell K 0=some (.int .u8 (o.k:Int))
 aS:h.cell K 1=some (I o.ino)
 a2:h.cell K 2=some (I o.x)
 cr:h.cell K 3=some (I o.y)
 ct:h.cell K 4=some (I o.mo)
 rJ:h.cell K 5=some o.kA
 l5:h.cell K 6=some (I o.at_)
 uu:h.cell K 7=some (I o.M9)
 mt:∃m,h.mt K=some m
 lt:K<h.next
section
variable{h h1 h2 h':U}{T:ei}{R:eS}{n N:Nat}{a a':nr}{o:gP}{K:Nat}
theorem sE.frame(O:sE h K o)(al:cQ h h' K)(aO:h.next<=h'.next):sE h' K o:=
 ⟨by rw[al.cell];exact O.c0,by rw[al.cell];exact O.aS,by rw[al.cell];exact O.a2,by rw[al.cell];exact O.cr,by rw[al.cell];exact O.ct,by rw[al.cell];exact O.rJ,by rw[al.cell];exact O.l5,by rw[al.cell];exact O.uu,by rw[al.mt];exact O.mt,Nat.lt_of_lt_of_le O.lt aO⟩
theorem Ro{ty:TypeId}:sE (h.new (dJ ty o.cells)) h.next o:=by
 have ae:∀j,(h.new (dJ ty o.cells)).cell h.next j=o.cells[j]?:=λj=>by rw[l6,oR]
 exact⟨by rw[ae];rfl,by rw[ae];rfl,by rw[ae];rfl,by rw[ae];rfl,by rw[ae];rfl,by rw[ae];rfl,by rw[ae];rfl,by rw[ae];rfl,⟨_,by rw[yX,if_pos rfl]⟩,by rw[im];exact Nat.lt_succ_self _⟩
theorem sE.ld(O:sE h K o):fu 8 (.ptr K 0) h=some (.agg o.cells):=by
 obtain⟨m,hm⟩:=O.mt;rw[n2 hm,lE (n:=8) (ys:=o.cells) rfl λj aa=>?_]
 ·rfl
 ·rw[Nat.zero_add]
  have:j=0\/j=1\/j=2\/j=3\/j=4\/j=5\/j=6\/j=7:=by omega
  rcases this with rfl|rfl|rfl|rfl|rfl|rfl|rfl|rfl
  ·exact O.c0
  ·exact O.aS
  ·exact O.a2
  ·exact O.cr
  ·exact O.ct
  ·exact O.rJ
  ·exact O.l5
  ·exact O.uu
theorem Rel.hK(r:Rel h T R n N a){S:Nat->Prop}(F:aG h h' S)(aC:∀j,gI T j->¬S j)(a0:∀j,jw R a.q j->¬S j)(bd:¬S mE):Rel h' T R n N a:=
 ⟨r.A.frame F.next λj aa=>F.same j (r.Bs aa) (aC j aa),r.M,r.B.hK F λj aa=>a0 j (Wt aa),r.gQ,r.jC,r.lo,r.hl,r.jU,r.jF.dA F r.O.g bd,r.O.mono F.next,r.sep,r.Pu,r.uE,r.sh⟩
theorem Rel.hk(r:Rel h T R n N a)(F:aG h h' (λ_=>False)):Rel h' T R n N a:=r.hK F (λ_ _ e=>e) (λ_ _ e=>e) λe=>e
theorem aG.Rm{S e8:Nat->Prop}(F:aG h h1 S)(F':aG h1 h2 e8)(al:∀j,e8 j->h.next<=j):aG h h2 S:=
 ⟨F'.aK.trans F.aK,Nat.le_trans F.next F'.next,λj aa e=>(F'.same j (Nat.lt_of_lt_of_le aa F.next) λx=>by have:=al j x;omega).trans (F.same j aa e),λan=>F'.dA (F.dA an)⟩
structure sK (h h':U) (T:ei) (R:eS) (n N:Nat) (a a':nr):Prop where
 r:Rel h' T R n N a'
 f:aG h h' (λj=>gI T j\/jw R a.q j)
 a0:∀u k,a'.q u=some k->a.q u=some k\/h.next<=k
theorem l4.sk(s:l4 h1 h2 h' T R n N a a')(F:aG h h1 (λ_=>False)):sK h h' T R n N a a':=
 ⟨s.r,((F.ek λ_ e=>e.elim).trans (s.f1.ek λ_ e=> .inl e)).trans (s.f2.ek λ_ e=> .inr e),λu k e=>(s.a0 u k e).imp id λx=>Nat.le_trans F.next x⟩
theorem l4.new(s:l4 h1 h2 h' T R n N a a')(r:Rel h T R n N a){K:Nat}(mb:h.next<=K)(acE:K<h1.next):¬gI T K/\¬jw R a.q K/\¬jw R a'.q K/\cQ h1 h' K:=by
 have p:¬gI T K:=λe=>by have:=r.Bs e;omega
 have q:¬jw R a.q K:=λe=>by have:=r.agx e;omega
 refine⟨p,q,λe=>?_,(s.f2.same K (Nat.lt_of_lt_of_le acE s.f1.next) q).trans (s.f1.same K acE p)⟩;rcases e with e|e|e|e|⟨u,e⟩
 ·exact q (.inl e)
 ·exact q (.inr (.inl e))
 ·exact q (.inr (.inr (.inl e)))
 ·exact q (.inr (.inr (.inr (.inl e))))
 ·rcases s.a0 u K e with e|e
  ·exact q (.inr (.inr (.inr (.inr ⟨u,e⟩))))
  ·omega
theorem nF{bK:List (Nat×Option Nat)}{ls:List Nat}{r:ab}(O:sE h K o)(al:cQ h h' K)(H:∀p∈bK,p.2=some K):eX (fC bK h h' ls) r=r:=G2 λp aC k e=>by
 have:=H p aC
 rw[this] at e;cases e;exact⟨O.lt,O.mt,al⟩
end
section
variable{lf:Nat}{h:U}{T:ei}{R:eS}{n N:Nat}{a:nr}{o:gP}
def L2(C:ad):Prop:=∀h T R n N a o,Rel h T R n N a->gP.mY h o->(∀j,rowOf o.kA=some j->¬gI T j/\¬jw R a.q j)->∃h' a',C (.fn 82) [.ptr T.a9 0,.ptr R.rt 0,.agg o.cells] h=some (.ret (.bool true),h')/\sK h h' T R n N a a'
theorem akU{C:ad}(aje:Mi C)(aja:Me C)(pg:MJ C)(kc:vt C)(vx:zY C)(sJ:zX C)(ajx:GO C)(xz:GH C)(ajo:Gy C)(vw:xu C)(qd:xx C)(sH:xt C)(aju:GJ C)(ax:GK C)(My:Gw C)(oc:xw C)(sG:vv C)
 (r:Rel h T R n N a)(O:gP.mY h o)(ar:∀j,rowOf o.kA=some j->¬gI T j/\¬jw R a.q j):∃h' a',Ie C lf (.ptr T.a9 0) (.ptr R.rt 0) (.agg o.cells) h=some (.ret (.bool true),h')/\sK h h' T R n N a a':=by
 have gR:=w9 (e:=92) (x:= .agg o.cells) (h:=h) rfl;have ga:(J.agg o.cells).cells=o.cells:=rfl;rw[ga] at gR;have iz:aG h (h.new (dJ 92 o.cells)) (λ_=>False):=ow _ _ _;have cU:sE (h.new (dJ 92 o.cells)) h.next o:=Ro
 have tC:(h.new (dJ 92 o.cells)).next=h.next+1:=im ..
 generalize h.new (dJ 92 o.cells)=g at *;have fW:=r.hk iz;have wh:∀j,rowOf o.kA=some j->cQ h g j:=λj aa=>iz.same j (O.iS j aa) (λe=>e)
 have B2:Bytes g o.kA o.l:=O.t.frame λbR ob len cap lo e=>wh bR (by rw[e];rfl)
 have pG:(o.k:Int).tmod 4=((o.k%4:Nat):Int):=by rw[Int.tmod_eq_emod_of_nonneg (by omega)];rfl
 have aoG:o.k%4=0\/o.k%4=1\/o.k%4=2\/o.k%4=3:=by omega
 unfold Ie Vk OG;rcases aoG with ai|ai|ai|ai
 ·
  have d0:decide (((o.k%4:Nat):Int)=0)=true:=bu (by omega);obtain⟨pD,ak2,vB,ub,aFw⟩:=aje g o.kA o.l B2 O.BR (λj aa=>by have:=O.iS j aa;omega);have azC:=fW.hk ub;have zS:=cU.frame (ub.same _ cU.lt (λe=>e)) ub.next
  obtain⟨v,e,aET,x8,a',akX,akY,st⟩:=aAa ajx xz ajo azC (x1:=wx g.next o.l.length) (x2:=o.kA) (l:=o.l) O.ino.1 O.ino.2 O.x.1 O.x.2 (vB.bytes O.t.1) (by show o.l.length<=o.l.length+1;omega)
   (λj aa=>by cases aa;exact⟨vB.lt,λe=>by have:=fW.Bs e;omega⟩) O.BR (B2.frame λbR ob len cap lo e=>ub.same bR (by have:=O.iS bR (by rw[e];rfl);omega) (λe=>e)) (λj aa=>⟨by have:=O.iS j aa;have:=ub.next;omega,ar j aa⟩)
  obtain⟨bT,cm,fe,s1⟩:=st.new r (K:=h.next) (Nat.le_refl _) zS.lt;obtain⟨k1,k2,hx,s2⟩:=st.new r (K:=g.next) (by omega) vB.lt;have Mm:=zS.frame (st.f1.same _ zS.lt bT) st.f1.next
  have aji:=zS.frame s1 (Nat.le_trans st.f1.next st.f2.next);have X6:Whole x8 g.next o.l:=⟨fI vB.w s2,by rw[s2.cell];exact vB.c0,by rw[s2.cell];exact vB.aS,λj aa=>by rw[s2.cell];exact vB.cs j aa,Nat.lt_of_lt_of_le vB.lt (Nat.le_trans st.f1.next st.f2.next)⟩
  have aiS:Bytes x8 o.kA o.l:=B2.frame λbR ob len cap lo e=>by
   have ai:=O.iS bR (by rw[e];rfl);have fG:=ar bR (by rw[e];rfl);exact((st.f2.same bR (by have:=ub.next;have:=st.f1.next;omega) fG.2).trans (st.f1.same bR (by have:=ub.next;omega) fG.1)).trans (ub.same bR (by omega) (λe=>e))
  have eX:=aja x8 g.next o.kA o.l X6 aiS O.BR
  obtain⟨AD,ak0,aFv,XM⟩:=pg x8 (wx g.next o.l.length) o.l.length (.inr ⟨g.next,1,_,_,o.l.length+2,rfl,X6.w,by omega⟩) O.BR;have ea:∀j,rowOf (wx g.next o.l.length)=some j->j=g.next:=λj aa=>by cases aa;rfl
  have azB:Rel AD T R n N a':=st.r.hK XM (λj aa e=>k1 (by rw[<- ea j e];exact aa)) (λj aa e=>hx (by rw[<- ea j e];exact aa)) (λe=>by have:=ea _ e;have:=fW.O.g;omega);have ahs:=st.sk (iz.trans ub);refine⟨AD,a',?_,⟨azB,ahs.f.Rm XM λj aa=>by rw[ea j aa];omega,ahs.a0⟩⟩;have cz:=kc AD e;simp only[aE,gR,cU.c0,h6 (show(4:Int)≠0 by omega),pG,d0,cU.rJ,ak2,List.getElem?_cons_zero,List.getElem?_cons_succ,zS.aS,zS.a2,akX,Mm.aS,Mm.a2,Mm.rJ,akY,aji.rJ,eX,ak0,cz,decide_true]
 ·
  have d0:decide (((o.k%4:Nat):Int)=0)=false:=br (by omega);have d1:decide (((o.k%4:Nat):Int)=1)=true:=bu (by omega);obtain⟨x1,x2,l,e,h1,h2,aS,a2,jm,e5,uI,jn,cH,_,aM,bD⟩:=agK vw qd sH fW O.ino.1 O.ino.2 O.x.1 O.x.2 O.y.1 O.y.2;have gO:=cU.frame (aM.same _ cU.lt (λe=>e)) aM.next
  have Fk:=vx h2 x1 x2 l l jm e5;rw[bu rfl] at Fk;have aL:l.length<=140737488351232:=by omega
  obtain⟨h3,cr,gy,dd⟩:=pg h2 x1 l.length jn aL;have nw:=aM.trans bD;have fm:Rel h3 T R n N a:=(fW.hk nw).hK dd (λj aa e=>by have:=fW.Bs aa;have:=cH j e;omega) (λj aa e=>by have:=fW.agx aa;have:=cH j e;omega) (λe=>by have:=fW.O.g;have:=cH _ e;omega);refine⟨h3,a,?_,⟨fm,((iz.trans nw).ek λ_ e=>e.elim).Rm dd λj aa=>by have:=cH j aa;omega,λ_ _ e=> .inl e⟩⟩;have cz:=kc h2 e;simp only[aE,gR,cU.c0,h6 (show(4:Int)≠0 by omega),pG,d0,d1,cU.aS,cU.a2,cU.cr,aS,List.getElem?_cons_zero,List.getElem?_cons_succ,gO.aS,gO.a2,gO.cr,a2,Fk,cz,decide_true,cr]
 ·
  have d0:decide (((o.k%4:Nat):Int)=0)=false:=br (by omega);have d1:decide (((o.k%4:Nat):Int)=1)=false:=br (by omega);have d2:decide (((o.k%4:Nat):Int)=2)=true:=bu (by omega);obtain⟨e,h1,h2,a',aS,a2,st⟩:=az9 aju ax My fW O.ino.1 O.ino.2 O.x.1 O.x.2;obtain⟨bT,cm,fe,s1⟩:=st.new r (K:=h.next) (Nat.le_refl _) cU.lt;have gO:=cU.frame (st.f1.same _ cU.lt bT) st.f1.next
  refine⟨h2,a',?_,st.sk iz⟩;have cz:=kc h1 e;simp only[aE,gR,cU.c0,h6 (show(4:Int)≠0 by omega),pG,d0,d1,d2,cU.aS,cU.a2,aS];rw[nF cU (st.f1.same _ cU.lt bT) (by simp[cq,kg])];simp only[aE,cz];rw[nF gO rfl (by simp[cq,kg])];simp only[aE,a2,decide_true]
 ·
  have d0:decide (((o.k%4:Nat):Int)=0)=false:=br (by omega);have d1:decide (((o.k%4:Nat):Int)=1)=false:=br (by omega);have d2:decide (((o.k%4:Nat):Int)=2)=false:=br (by omega);obtain⟨x1,x2,l,e,h1,h2,aS,a2,qa,sA,_,aL,aM,bD⟩:=agJ oc sG fW O.ino.1 O.ino.2;have gO:=cU.frame (aM.same _ cU.lt (λe=>e)) aM.next
  have Fs:=sJ h2 x1 x2 l l ((qa.tt aL).frame λk ai=>bD.same k (qa.aZ.j8 ai) (λe=>e)) (sA.tt aL);rw[bu rfl] at Fs;refine⟨h2,a,?_,(fW.same aM bD).sk iz⟩;have cz:=kc h2 e;simp only[aE,gR,cU.c0,h6 (show(4:Int)≠0 by omega),pG,d0,d1,d2,cU.aS,aS,List.getElem?_cons_zero,List.getElem?_cons_succ,gO.aS,a2,Fs,cz,decide_true]
end
section
variable{lf:Nat}{h:U}{T:ei}{R:eS}{n N:Nat}{a:nr}{o:gP}
def LZ(C:ad):Prop:=∀h T R n N a o,Rel h T R n N a->gP.mY h o->∃h' a',C (.fn 83) [.ptr T.a9 0,.ptr R.rt 0,.agg o.cells] h=some (.ret (.bool true),h')/\sK h h' T R n N a a'
theorem akl{C:ad}(kc:vt C)(ns:FW C)(ajj:Gj C)(ajd:Ga C)(ajm:Gq C)(ai5:F5 C)(ajl:Gn C)(MA:GB C)(sH:Gr C)(ajg:GC C)(gQ:Gs C)(ajr:GD C)(sG:Gt C)(ajt:GF C)(My:Gu C)(aiY:L4 C)(ue:Gc C)
 (r:Rel h T R n N a)(O:gP.mY h o):∃h' a',Ig C lf (.ptr T.a9 0) (.ptr R.rt 0) (.agg o.cells) h=some (.ret (.bool true),h')/\sK h h' T R n N a a':=by
 have gR:=w9 (e:=92) (x:= .agg o.cells) (h:=h) rfl;have ga:(J.agg o.cells).cells=o.cells:=rfl;rw[ga] at gR;have iz:aG h (h.new (dJ 92 o.cells)) (λ_=>False):=ow _ _ _;have cU:sE (h.new (dJ 92 o.cells)) h.next o:=Ro
 generalize h.new (dJ 92 o.cells)=g at *;have fW:=r.hk iz;have pG:(o.k:Int).tmod 8=((o.k%8:Nat):Int):=by rw[Int.tmod_eq_emod_of_nonneg (by omega)];rfl
 have hT:∀m:Nat,o.k%8≠m->decide (((o.k%8:Nat):Int)=(m:Int))=false:=λm hm=>br (by omega)
 have xJ:∀m:Nat,o.k%8=m->decide (((o.k%8:Nat):Int)=(m:Int))=true:=λm hm=>bu (by omega)
 have aoH:o.k%8=0\/o.k%8=1\/o.k%8=2\/o.k%8=3\/o.k%8=4\/o.k%8=5\/o.k%8=6\/o.k%8=7:=by omega
 unfold Ig Vl OH;rcases aoH with ai|ai|ai|ai|ai|ai|ai|ai
 ·
  have d0:decide (((o.k%8:Nat):Int)=0)=true:=xJ 0 (by omega);obtain⟨v,e,h1,h2,a',aS,a2,st⟩:=az2 ns ajj fW (uid:=o.x) (gid:=o.y) O.mo.1 O.mo.2;obtain⟨bT,cm,fe,s1⟩:=st.new r (K:=h.next) (Nat.le_refl _) cU.lt;have gO:=cU.frame (st.f1.same _ cU.lt bT) st.f1.next
  refine⟨h2,a',?_,st.sk iz⟩;have cz:=kc h2 e;simp only[aE,gR,cU.c0,h6 (show(8:Int)≠0 by omega),pG,d0,cU.a2,cU.cr,cU.ct,aS,List.getElem?_cons_zero,List.getElem?_cons_succ,gO.a2,gO.cr,gO.ct,a2,cz,decide_true]
 ·
  have d0:decide (((o.k%8:Nat):Int)=0)=false:=hT 0 (by omega);have d1:decide (((o.k%8:Nat):Int)=1)=true:=xJ 1 (by omega);obtain⟨e,h1,h2,a',aS,a2,st⟩:=az4 ajd ajm fW (by_:=o.x) O.ino.1 O.ino.2;obtain⟨bT,cm,fe,s1⟩:=st.new r (K:=h.next) (Nat.le_refl _) cU.lt;have gO:=cU.frame (st.f1.same _ cU.lt bT) st.f1.next
  refine⟨h2,a',?_,st.sk iz⟩;have cz:=kc h1 e;simp only[aE,gR,cU.c0,h6 (show(8:Int)≠0 by omega),pG,d0,d1,cU.aS,cU.a2,aS];rw[nF cU (st.f1.same _ cU.lt bT) (by simp[cq,kg])];simp only[aE,cz];rw[nF gO rfl (by simp[cq,kg])];simp only[aE,a2,decide_true]
 ·
  have d0:decide (((o.k%8:Nat):Int)=0)=false:=hT 0 (by omega);have d1:decide (((o.k%8:Nat):Int)=1)=false:=hT 1 (by omega);have d2:decide (((o.k%8:Nat):Int)=2)=true:=xJ 2 (by omega);obtain⟨e,h1,h2,a',aS,a2,st⟩:=az3 ai5 ajl fW O.ino.1 O.ino.2;obtain⟨bT,cm,fe,s1⟩:=st.new r (K:=h.next) (Nat.le_refl _) cU.lt;have gO:=cU.frame (st.f1.same _ cU.lt bT) st.f1.next
  refine⟨h2,a',?_,st.sk iz⟩;have cz:=kc h1 e;simp only[aE,gR,cU.c0,h6 (show(8:Int)≠0 by omega),pG,d0,d1,d2,cU.aS,aS];rw[nF cU (st.f1.same _ cU.lt bT) (by simp[cq,kg])];simp only[aE,cz];rw[nF gO rfl (by simp[cq,kg])];simp only[aE,a2,decide_true]
 ·
  have d0:decide (((o.k%8:Nat):Int)=0)=false:=hT 0 (by omega);have d1:decide (((o.k%8:Nat):Int)=1)=false:=hT 1 (by omega);have d2:decide (((o.k%8:Nat):Int)=2)=false:=hT 2 (by omega);have d3:decide (((o.k%8:Nat):Int)=3)=true:=xJ 3 (by omega);obtain⟨e,h1,h2,a',aS,a2,st⟩:=az5 MA sH fW O.ino.1 O.ino.2;obtain⟨bT,cm,fe,s1⟩:=st.new r (K:=h.next) (Nat.le_refl _) cU.lt;have gO:=cU.frame (st.f1.same _ cU.lt bT) st.f1.next
  refine⟨h2,a',?_,st.sk iz⟩;have cz:=kc h1 e;simp only[aE,gR,cU.c0,h6 (show(8:Int)≠0 by omega),pG,d0,d1,d2,d3,cU.aS,aS];rw[nF cU (st.f1.same _ cU.lt bT) (by simp[cq,kg])];simp only[aE,cz];rw[nF gO rfl (by simp[cq,kg])];simp only[aE,a2,decide_true]
 ·
  have d0:decide (((o.k%8:Nat):Int)=0)=false:=hT 0 (by omega);have d1:decide (((o.k%8:Nat):Int)=1)=false:=hT 1 (by omega);have d2:decide (((o.k%8:Nat):Int)=2)=false:=hT 2 (by omega);have d3:decide (((o.k%8:Nat):Int)=3)=false:=hT 3 (by omega);have d4:decide (((o.k%8:Nat):Int)=4)=true:=xJ 4 (by omega);obtain⟨e,h1,h2,a',aS,a2,st⟩:=az6 ajg gQ fW (mo:=o.mo) O.ino.1 O.ino.2;obtain⟨bT,cm,fe,s1⟩:=st.new r (K:=h.next) (Nat.le_refl _) cU.lt;have gO:=cU.frame (st.f1.same _ cU.lt bT) st.f1.next
  refine⟨h2,a',?_,st.sk iz⟩;have cz:=kc h1 e;simp only[aE,gR,cU.c0,h6 (show(8:Int)≠0 by omega),pG,d0,d1,d2,d3,d4,cU.aS,cU.ct,aS];rw[nF cU (st.f1.same _ cU.lt bT) (by simp[cq,kg])];simp only[aE,cz];rw[nF gO rfl (by simp[cq,kg])];simp only[aE,a2,decide_true]
 ·
  have d0:decide (((o.k%8:Nat):Int)=0)=false:=hT 0 (by omega);have d1:decide (((o.k%8:Nat):Int)=1)=false:=hT 1 (by omega);have d2:decide (((o.k%8:Nat):Int)=2)=false:=hT 2 (by omega);have d3:decide (((o.k%8:Nat):Int)=3)=false:=hT 3 (by omega);have d4:decide (((o.k%8:Nat):Int)=4)=false:=hT 4 (by omega);have d5:decide (((o.k%8:Nat):Int)=5)=true:=xJ 5 (by omega);obtain⟨e,h1,h2,a',aS,a2,st⟩:=az7 ajr sG fW (u:=o.x) (g:=o.y) O.ino.1 O.ino.2;obtain⟨bT,cm,fe,s1⟩:=st.new r (K:=h.next) (Nat.le_refl _) cU.lt;have gO:=cU.frame (st.f1.same _ cU.lt bT) st.f1.next
  refine⟨h2,a',?_,st.sk iz⟩;have cz:=kc h1 e;simp only[aE,gR,cU.c0,h6 (show(8:Int)≠0 by omega),pG,d0,d1,d2,d3,d4,d5,cU.aS,cU.a2,cU.cr,aS];rw[nF cU (st.f1.same _ cU.lt bT) (by simp[cq,kg])];simp only[aE,cz];rw[nF gO rfl (by simp[cq,kg])];simp only[aE,a2,decide_true]
 ·
  have d0:decide (((o.k%8:Nat):Int)=0)=false:=hT 0 (by omega);have d1:decide (((o.k%8:Nat):Int)=1)=false:=hT 1 (by omega);have d2:decide (((o.k%8:Nat):Int)=2)=false:=hT 2 (by omega);have d3:decide (((o.k%8:Nat):Int)=3)=false:=hT 3 (by omega);have d4:decide (((o.k%8:Nat):Int)=4)=false:=hT 4 (by omega);have d5:decide (((o.k%8:Nat):Int)=5)=false:=hT 5 (by omega);have d6:decide (((o.k%8:Nat):Int)=6)=true:=xJ 6 (by omega);obtain⟨e,h1,h2,a',aS,a2,st⟩:=az8 ajt My fW (at_:=o.at_) (m:=o.M9) O.ino.1 O.ino.2;obtain⟨bT,cm,fe,s1⟩:=st.new r (K:=h.next) (Nat.le_refl _) cU.lt;have gO:=cU.frame (st.f1.same _ cU.lt bT) st.f1.next
  refine⟨h2,a',?_,st.sk iz⟩;have cz:=kc h1 e;simp only[aE,gR,cU.c0,h6 (show(8:Int)≠0 by omega),pG,d0,d1,d2,d3,d4,d5,d6,cU.aS,cU.l5,cU.uu,aS];rw[nF cU (st.f1.same _ cU.lt bT) (by simp[cq,kg])];simp only[aE,cz];rw[nF gO rfl (by simp[cq,kg])];simp only[aE,a2,decide_true]
 ·
  have d0:decide (((o.k%8:Nat):Int)=0)=false:=hT 0 (by omega);have d1:decide (((o.k%8:Nat):Int)=1)=false:=hT 1 (by omega);have d2:decide (((o.k%8:Nat):Int)=2)=false:=hT 2 (by omega);have d3:decide (((o.k%8:Nat):Int)=3)=false:=hT 3 (by omega);have d4:decide (((o.k%8:Nat):Int)=4)=false:=hT 4 (by omega);have d5:decide (((o.k%8:Nat):Int)=5)=false:=hT 5 (by omega);have d6:decide (((o.k%8:Nat):Int)=6)=false:=hT 6 (by omega);obtain⟨h1,aS,b0,cH,aM⟩:=aiY g T n N a.s.wd a.s.b a.now a.us a.s.nd o.at_ fW.A;have gd:aG g h1 (gI T):=aM.ek λ_ e=> .inl e
  have jm:=fW.bX gd;have dv:=hR (n:=1) (off:=3) (y:=I o.at_) jm.wt rfl (by omega) rfl;have eA:(J.int .i64 o.at_).cells=[I o.at_]:=rfl;rw[eA] at dv;have vq:aG h1 (h1.set R.rt 3 [I o.at_]) (jw R a.q):=fa (.inl rfl);have st:=fW.next (a':=⟨a.s,o.at_,a.us,a.q,a.b2,a.rd⟩) gd vq b0 fW.M (jm.WJ o.at_) fW.gQ fW.jC fW.lo fW.hl fW.jU fW.sh λ_ _ e=> .inl e
  obtain⟨bT,cm,fe,s1⟩:=st.new r (K:=h.next) (Nat.le_refl _) cU.lt;have gO:=cU.frame (st.f1.same _ cU.lt bT) st.f1.next
  have qc:=cU.frame s1 (Nat.le_trans st.f1.next st.f2.next);have y5:=ue _ T n N _ _ _ _ _ st.r.A;refine⟨_,_,?_,st.sk iz⟩;simp only[aE,gR,cU.c0,h6 (show(8:Int)≠0 by omega),pG,d0,d1,d2,d3,d4,d5,d6,cU.l5,aS,gO.l5,dv,qc.l5,y5];rw[nF qc rfl (by simp[cq,kg])];simp only[aE,decide_true]
def zI(C:ad):Prop:=∀h T R n N a o,Rel h T R n N a->gP.mY h o->(∀j,rowOf o.kA=some j->¬gI T j/\¬jw R a.q j)->∃h' a',C (.fn 50) [.ptr T.a9 0,.ptr R.rt 0,.agg o.cells] h=some (.ret (.bool true),h')/\sK h h' T R n N a a'
theorem al7{C:ad}(aiX:L2 C)(aiQ:LZ C)(r:Rel h T R n N a)(O:gP.mY h o)(ar:∀j,rowOf o.kA=some j->¬gI T j/\¬jw R a.q j):∃h' a',HV C lf (.ptr T.a9 0) (.ptr R.rt 0) (.agg o.cells) h=some (.ret (.bool true),h')/\sK h h' T R n N a a':=by
 have gR:=w9 (e:=92) (x:= .agg o.cells) (h:=h) rfl;have ga:(J.agg o.cells).cells=o.cells:=rfl;rw[ga] at gR;have iz:aG h (h.new (dJ 92 o.cells)) (λ_=>False):=ow _ _ _;have cU:sE (h.new (dJ 92 o.cells)) h.next o:=Ro
 generalize h.new (dJ 92 o.cells)=g at *;have fW:=r.hk iz;have B2:Bytes g o.kA o.l:=O.t.frame λbR ob len cap lo e=>iz.same bR (O.iS bR (by rw[e];rfl)) (λe=>e)
 have XY:gP.mY g o:=⟨O.k,O.ino,O.x,O.y,O.mo,B2,O.BR,λj aa=>Nat.lt_of_lt_of_le (O.iS j aa) iz.next⟩;have up:∀h' a',sK g h' T R n N a a'->sK h h' T R n N a a':=λh' a' s=>⟨s.r,(iz.ek λ_ e=>e.elim).trans s.f,λu k e=>(s.a0 u k e).imp id λx=>Nat.le_trans iz.next x⟩
 unfold HV TP Oj;by_cases ai:o.k<128
 ·have d0:decide ((o.k:Int)<128)=true:=bu (by omega);obtain⟨h',a',aS,s1⟩:=aiX g T R n N a o fW XY ar;refine⟨h',a',?_,up _ _ s1⟩;simp only[aE,gR,cU.c0,d0,cU.ld,aS]
 ·have d0:decide ((o.k:Int)<128)=false:=br (by omega);obtain⟨h',a',aS,s1⟩:=aiQ g T R n N a o fW XY;refine⟨h',a',?_,up _ _ s1⟩;simp only[aE,gR,cU.c0,d0,cU.ld,aS]
end
theorem aBE(aj ak aD a7 cw dB dU gg ie sN:Int):bin aw .neq 78 (.agg [I aj,I ak,I aD,I a7,I cw,I dB,I dU,I gg,I ie,I sN]) (.agg [I aj,I ak,I aD,I a7,I cw,I dB,I dU,I gg,I ie,I sN])=
 some (.bool (!(aj==aj&&(ak==ak&&(aD==aD&&(a7==a7&&(cw==cw&&(dB==dB&&(dU==dU&&(gg==gg&&(ie==ie&&(sN==sN&&true)))))))))))):=by kernel_rfl
theorem aBD{nd:Nat->Nat->J}{i k:Nat}(H:kV (nd i)):bin aw .neq 78 (.agg (fv nd i k)) (.agg (fv nd i k))=some (.bool false):=by
 obtain⟨v1,az⟩:=H.i 1 (by omega) (by omega);obtain⟨v2,aA⟩:=H.i 2 (by omega) (by omega);obtain⟨hC,cj⟩:=H.i 3 (by omega) (by omega);obtain⟨v4,e9⟩:=H.i 4 (by omega) (by omega);obtain⟨W7,iE⟩:=H.i 5 (by omega) (by omega);obtain⟨aij,xK⟩:=H.i 7 (by omega) (by omega);obtain⟨fz,vM⟩:=H.i 8 (by omega) (by omega);obtain⟨aDk,pw⟩:=H.i 9 (by omega) (by omega);obtain⟨v10,jV⟩:=H.i 10 (by omega) (by omega)
 have e:fv nd i k=[I v1,I v2,I hC,I v4,I W7,I (k:Int),I aij,I fz,I aDk,I v10]:=by
  have:fv nd i k=[nd i 1,nd i 2,nd i 3,nd i 4,nd i 5,I (k:Int),nd i 7,nd i 8,nd i 9,nd i 10]:=rfl
  rw[this,az,aA,cj,e9,iE,xK,vM,pw,jV]
 rw[e,aBE];simp
theorem aBC{N:Nat}{nd rd:Nat->Nat->J}(lo:mv N nd rd){i:Nat}(hi:i<N)(k:Nat):fv rd (i+1) k=fv nd i k:=by
 unfold fv;refine List.map_congr_left λj aa=>?_
 have:=List.mem_range.1 aa
 rw[lo i (1+j) hi (by omega)]
section
variable{lf:Nat}{h:U}{T:ei}{R:eS}{n N:Nat}{a:nr}{i:Nat}{ino:Int}
theorem Yb{h:U}{S:List J}(aL:S.length=10)(aq:dZ S=true):∃g h',l1 aw 78 h=some (.ptr h.next 0,g)/\st 10 (.ptr h.next 0) (.agg S) g=some h'/\h'.next=h.next+1/\aG h h' (λ_=>False)/\(∀j,j<10->h'.cell h.next j=S[j]?)/\∃m,h'.mt h.next=some m:=by
 obtain⟨z,a1,hj⟩:∃z,hb aw 78=some z/\(db z).cells.length=10:=FU (by kernel_rfl);have um:=rf (P:=aw) (e:=78) (h:=h) a1;have w:=lZ (h:=h) (o:=dJ 78 (db z).cells) rfl;have aO:(dJ 78 (db z).cells).n=10:=hj;rw[aO] at w;have ga:(J.agg S).cells=S:=rfl;have s1:=hR (n:=10) (off:=0) (y:= .agg S) w aL (by omega) aq;rw[ga] at s1;refine⟨_,_,um,s1,by rw[eb,im],(aG.new h _ _).gz (fa rfl) (Nat.le_refl _),λj aa=>?_,?_⟩
 ·rw[hh w (by omega) (Nat.zero_le _) (by omega),Nat.sub_zero]
 ·obtain⟨m,hm,_⟩:=eG (off:=0) (k:=h.next) (ys:=S) w;exact⟨m,hm⟩
theorem ajM{C:ad}(pj:Ck C)(zW:Cj C)(oc:xw C)(sG:vv C)(kc:vt C)(sJ:zX C)(hG:zO C)(vw:xu C)(qd:xx C)(sH:xt C)(vx:zY C)(r:Rel h T R n N a)(bV:ic N a.us ino i)(fc:cY)(jO:ay){x50 x51 x52:O}:
 ∃h',Kf C lf fc jO (some (.ptr T.a9 0)) (some (.ptr R.rt 0)) (some (I ino)) x50 x51 x52 h=fc (some (.ptr T.a9 0)) (some (.ptr R.rt 0)) x50 x51 x52 h'/\aG h h' (λ_=>False):=by
 have hi:=bV.1;have hu:=bV.2.1;have jK:=r.A.gN;have cb: -9223372036854775808<=ino:=by have:=bV.2.2;omega
 have cV:ino<9223372036854775808:=by have:=bV.2.2;omega
 have gw:∀c,c<12->(a.s.nd i c).one=true:=λc ae=>by
  by_cases e:c=0
  ·rw[e,r.A.lX i hi];rfl
  ·obtain⟨v,e⟩:=(r.hl i hi).i c (by omega) ae;rw[e];rfl
 obtain⟨h1,aS,aM⟩:=pj h T n N _ _ _ _ _ _ i r.A r.M hi hu gw;rw[<- bV.2.2] at aS;generalize ea:fv a.s.nd i (lj a.s.bl i).length=S at *;have PC:S.length=10:=by rw[<- ea];simp[fv]
 have acG:dZ S=true:=by
  rw[<- ea]
  exact z3 λj aa=>by
   have:=List.mem_range.1 aa
   split
   ·rfl
   ·exact gw _ (by omega)
 obtain⟨sz,dR,rZ⟩:=(r.hl i hi).z
 have anY:S[4]?=some (I (sz:Int)):=by
  rw[<- ea, <- dR];simp[fv]
 obtain⟨g1,h2,um,K8,cA,bD,k2,e0⟩:=Yb (h:=h1) PC acG;have XI:=aM.trans bD;have du:=r.hk XI;obtain⟨h3,cr,dd⟩:=zW h2 R n N _ _ _ _ _ _ _ ino i du.B du.gQ du.M.m1 bV (du.jU.S i hi) (λc ae=>by rw[du.lo i c hi ae];exact gw c ae);rw[aBC du.lo hi,ea] at cr;obtain⟨g3,aW,ajJ,oW,j6,fL,n1,oO⟩:=Yb (h:=h3) PC acG;have zL:=(XI.trans dd).trans fL;obtain⟨x11,ey,l,e,bz,bB,rJ,l5,F6,Ca,hle,aL,rm,oa⟩:=agJ oc sG (r.hk zL) (ino:=ino) cb cV;obtain⟨_,he⟩:=hle i bV;subst he;have XJ:=(zL.trans rm).trans oa;have Fs:=sJ bB x11 ey l l ((F6.tt aL).frame λk ai=>oa.same k (F6.aZ.j8 ai) (λe=>e)) (Ca.tt aL);rw[bu rfl] at Fs
 have ld:∀K,K<aW.next->(∃m,aW.mt K=some m)->(∀j,j<10->aW.cell K j=S[j]?)->fu 10 (.ptr K 0) bB=some (.agg S):=λK mb hm ae=>by
  have s:=(rm.trans oa).same K mb (λe=>e);obtain⟨m,hm⟩:=hm;rw[n2 (m:=m) (by rw[s.mt];exact hm),lE PC λj aa=>by rw[Nat.zero_add,s.cell];exact ae j aa];rfl
 have ag9:cQ h2 aW h1.next:=(dd.trans fL).same _ (by omega) (λe=>e)
 have ej:=ld h1.next (by have:=dd.next;omega) (by rw[ag9.mt];exact e0) (λj aa=>by rw[ag9.cell];exact k2 j aa)
 have nk:=ld h3.next (by omega) oO n1
 have adb:=aBD (k:=(lj a.s.bl i).length) (r.hl i hi);rw[ea] at adb;have aq2:=kc bB 0;have Ha:decide ((0:Int)≠0)=false:=rfl;have q3:=r.hk XJ;have dH:=hG bB T n N _ _ _ _ _ ino q3.A cb cV;rw[bV.yes] at dH;have ia:bB.cell h3.next 4=some (I (sz:Int)):=by rw[((rm.trans oa).same h3.next (by omega) (λe=>e)).cell,n1 4 (by omega)];exact anY
 have fin:∀m:Nat,m<=sz->∃h',T6 C lf fc jO (some (.ptr T.a9 0)) (some (.ptr R.rt 0)) (some (I ino)) (some (.ptr h3.next 0)) (some (I (m:Int))) x50 x51 x52 bB=fc (some (.ptr T.a9 0)) (some (.ptr R.rt 0)) x50 x51 x52 h'/\aG h h' (λ_=>False):=λm hm=>by
  have jv:IntKind.i64.wrap ((sz:Int)-(m:Int))=((sz-m:Nat):Int):=cL (by omega);obtain⟨x1,x2,l,e,dW,gE,uu,pt,jm,e5,_,_,_,he,B6,sx⟩:=agK vw qd sH q3 (ino:=ino) (off:=((sz-m:Nat):Int)) (m:=(m:Int)) cb cV (by omega) (by omega) (by omega) (by omega);have av:=he bV.yes (by omega) (by omega);subst av;have Fk:=vx gE x1 x2 l l jm e5;rw[bu rfl] at Fk;have aq3:=kc gE 0;have aDo:dW.cell h3.next 4=some (I (sz:Int)):=by rw[(B6.same h3.next (by have:=(rm.trans oa).next;omega) (λe=>e)).cell];exact ia
  refine⟨gE,?_,(XJ.trans B6).trans sx⟩;unfold T6;simp only[aE,ia,jv,uu,List.getElem?_cons_zero,List.getElem?_cons_succ,aDo,pt,Fk,Bool.not_true,aq3,Ha]
 obtain⟨h',bg,F'⟩:=fin (min sz 4000) (by omega);refine⟨h',?_,F'⟩;unfold Kf TZ;simp only[ch,cd,kh,rF,pz,List.getElem?_cons_zero,List.getElem?_cons_succ,aS,um,K8];unfold TY TX;simp only[ch,cd,kh,rF,pz,List.getElem?_cons_zero,List.getElem?_cons_succ,cr,ajJ,oW];unfold TW TV;simp only[ch,cd,kh,pz,List.getElem?_cons_zero,List.getElem?_cons_succ,rJ];unfold TU TT;simp only[ch,cd,kh,pz,List.getElem?_cons_zero,List.getElem?_cons_succ,l5];unfold TS TR;simp only[aE,ej,nk,adb,aq2,Ha,Fs,dH,Bool.not_true];unfold T7 afK;simp only[aE,ia];unfold afJ afI;by_cases ag:4000<sz
 ·have d1:decide ((4000:Int)<(sz:Int))=true:=bu (by omega);have em:((min sz 4000:Nat):Int)=4000:=by omega
  rw[em] at bg;simp only[aE,d1];exact bg
 ·have d1:decide ((4000:Int)<(sz:Int))=false:=br (by omega);have em:min sz 4000=sz:=by omega
  rw[em] at bg;simp only[aE,d1];exact bg
end
theorem ajL{C:ad}{lf:Nat}{r:ay}{x0 x1:O}{h:U}:T5 C lf r x0 x1 h=Kk C lf (λx0 x1 h=>Kj C lf r x0 x1 h) r x0 x1 h:=rfl
section
variable{lf:Nat}{h h0:U}{T:ei}{R:eS}{n N:Nat}{a:nr}{i:Nat}{ino:Int}
theorem aDi{us:Nat->Bool}{t:Nat}(aN:t<(e4 us N).length):∃i,ic N us (((e4 us N).getD t 0:Nat):Int) i:=by
 have hm:(e4 us N).getD t 0∈e4 us N:=by
  rw[List.getD,List.getElem?_eq_getElem aN];exact List.getElem_mem aN
 obtain⟨i,h1,h2⟩:=List.mem_map.1 hm;obtain⟨h3,aW⟩:=List.mem_filter.1 h1;exact⟨i,List.mem_range.1 h3,aW,by rw[<- h2]⟩
theorem Yc{C:ad}(pj:Ck C)(zW:Cj C)(oc:xw C)(sG:vv C)(kc:vt C)(sJ:zX C)(hG:zO C)(vw:xu C)(qd:xx C)(sH:xt C)(vx:zY C)(r:Rel h0 T R n N a){x:J}(c7:nx h0 x (e4 a.us N))(ar:∀j,rowOf x=some j->j<h0.next)(jO:ay)(av:aU):
 ∀(d t:Nat),t+d=(e4 a.us N).length->∀f,d<f->∀h,aG h0 h (λ_=>False)->∃h',bq (wq C lf jO av) f (some (.ptr T.a9 0),some (.ptr R.rt 0),some x,some (I ((e4 a.us N).length:Int)),some (I (t:Int))) h=av (some (.ptr T.a9 0)) (some (.ptr R.rt 0)) h'/\aG h0 h' (λ_=>False)
 |0,t,aN,f,an,h,F=>by
  obtain⟨f,rfl⟩:=dK f (by omega);have ba:decide ((t:Int)<((e4 a.us N).length:Int))=false:=br (by omega);refine⟨h,?_,F⟩;rw[dr];unfold wq ER Ki;simp only[ch,cd,rI,ba];unfold Kh Kg;simp only[ch,cd,o6]
 |d+1,t,aN,f,an,h,F=>by
  obtain⟨f,rfl⟩:=dK f (by omega);have jK:=r.A.gN;have hle:=BT a.us N;have ba:decide ((t:Int)<((e4 a.us N).length:Int))=true:=bu (by omega);have dC:IntKind.i64.wrap ((t:Int)+1)=((t+1:Nat):Int):=cL (by omega);obtain⟨my,i1,i2⟩:=(c7.frame λj aa=>F.same j (ar j aa) (λe=>e)).at (i:=t) (by omega);obtain⟨i,bV⟩:=aDi (us:=a.us) (N:=N) (t:=t) (by omega);generalize ai:(λx0 x1 x50 x51 x52 h=>bq (wq C lf jO av) f (x0,x1,x50,x51,x52) h:cY)=kk;have qy:∀x0 x1 x50 x51 x52 h,kk x0 x1 x50 x51 x52 h=bq (wq C lf jO av) f (x0,x1,x50,x51,x52) h:=λ_ _ _ _ _ _=>by rw[<- ai]
  obtain⟨h1,aS,aM⟩:=ajM (lf:=lf) pj zW oc sG kc sJ hG vw qd sH vx (r.hk F) bV (λx0 x1 x50 x51 x52 h=>Km C lf kk x0 x1 x50 x51 x52 h) jO (x50:=some x) (x51:=some (I ((e4 a.us N).length:Int))) (x52:=some (I (t:Int)));obtain⟨h2,a2,bD⟩:=Yc pj zW oc sG kc sJ hG vw qd sH vx r c7 ar jO av d (t+1) (by omega) f (by omega) h1 (F.trans aM);refine⟨h2,?_,bD⟩;rw[dr];show ER C lf (λx0 x1 x50 x51 x52 h=>bq (wq C lf jO av) f (x0,x1,x50,x51,x52) h) jO av _ _ _ _ _ h=_;rw[ai];unfold ER Ki;simp only[ch,cd,rI,ba];unfold Kh Kg;simp only[ch,cd,rh];unfold T2 T1 T0;simp only[ch,cd,i1,i2];rw[aS];unfold Km;simp only[ch,cd,rH,dC,qy];exact a2
def FV(C:ad):Prop:=∀h T R n N a,Rel h T R n N a->∃h',C (.fn 52) [.ptr T.a9 0,.ptr R.rt 0] h=some (.ret (.bool true),h')/\aG h h' (λ_=>False)
theorem ajK{C:ad}(gu:4100<=lf)(ajp:MC C)(ajv:GL C)(X3:Gx C)(aiW:ML C)(ajk:Mr C)(ue:Gc C)(pj:Ck C)(zW:Cj C)(oc:xw C)(sG:vv C)(kc:vt C)(sJ:zX C)(hG:zO C)(vw:xu C)(qd:xx C)(sH:xt C)(vx:zY C)(r:Rel h T R n N a):
 ∃h',HW C lf (.ptr T.a9 0) (.ptr R.rt 0) h=some (.ret (.bool true),h')/\aG h h' (λ_=>False):=by
 have jK:=r.A.gN;have gb:n<=4096:=r.B.ref.v.choose_spec.choose_spec.2.2.cA;have hle:=BT a.us N;obtain⟨h1,aS,aM⟩:=ajp h T R n N _ _ _ _ _ _ _ _ _ _ r.A r.B rfl;have dc:=r.hk aM;obtain⟨x2,h2,a2,sA,bD⟩:=ajv h1 T n N _ _ _ _ _ dc.A;have du:=dc.hk bD;obtain⟨x3,h3,cr,xm,dd⟩:=X3 h2 R n N _ _ _ _ _ _ du.B;have oS:=sJ h3 x2 x3 _ _ ((sA.tt (by omega)).frame λk ai=>dd.same k (sA.aZ.j8 ai) (λe=>e)) (xm.tt (by omega));rw[bu rfl] at oS;have fm:=du.hk dd;obtain⟨bC,aW,ct,Mb,fL⟩:=aiW h3 T n N _ _ _ _ _ fm.A;have kP:=fm.hk fL;obtain⟨eC,bz,rJ,F6,rm⟩:=ajk aW R n N _ _ _ _ _ _ kP.B;have aFj:=BU (bQ a.s.wd) n;have amD:iT a.s.wd n=eR (bQ a.s.wd) n:=rfl;rw[amD] at Mb;have ag6:=sJ bz bC eC _ _ ((Mb.tt (by omega)).frame λk ai=>rm.same k (Mb.aZ.j8 ai) (λe=>e)) (F6.tt (by omega));rw[bu rfl] at ag6;have mm:=kP.hk rm;have y5:=ue bz T n N _ _ _ _ _ mm.A;obtain⟨aF,bB,l5,Ca,oa⟩:=X3 bz R n N _ _ _ _ _ _ mm.B;have q3:=mm.hk oa;have hlen:=(Ca.tt (by omega)).len;obtain⟨dW,uu,B6⟩:=Yc (lf:=lf) pj zW oc sG kc sJ hG vw qd sH vx q3 (Ca.tt (by omega)) (λj aa=>Ca.aZ.j8 aa) CK (λx0 x1 h=>Kl C lf CK x0 x1 h) (e4 a.us N).length 0 (by omega) lf (by omega) bB (aG.refl _ _);have q4:=q3.hk B6;have i0:=hG dW T n N _ _ _ _ _ 0 q4.A (by omega) (by omega);have i1:=hG dW T n N _ _ _ _ _ (-1) q4.A (by omega) (by omega);have i2:=hG dW T n N _ _ _ _ _ ((N+1:Nat):Int) q4.A (by omega) (by omega);have av:c8 N a.us 0=false:=by simp[c8]
 have az:c8 N a.us (-1)=false:=by simp[c8]
 have aA:c8 N a.us ((N+1:Nat):Int)=false:=by
  have:¬(((N+1:Nat):Int)<=(N:Int)):=by omega
  simp only[c8,br this,Bool.false_and,Bool.and_false]
 rw[av] at i0;rw[az] at i1;rw[aA] at i2;have hT:decide (a.now≠a.now)=false:=br λx=>x rfl
 have iK:IntKind.i64.wrap ((N:Int)+1)=((N+1:Nat):Int):=cL (by omega);refine⟨dW,?_,(((((aM.trans bD).trans dd).trans fL).trans rm).trans oa).trans B6⟩;unfold HW;rw[ajL];unfold Kk;simp only[aE,aS,Bool.not_true,a2,cr,oS,ct,rJ,ag6,mm.B.cr,y5]
 rw[G2 λp aC k e=>by
  have mN:p=(26,some R.rt):=List.mem_singleton.1 aC;rw[mN] at e;cases e
  exact⟨mm.B.ref.lt,FH mm.B.wt,rfl⟩]
 simp only[aE,hT];unfold Kj T4 T3;simp only[ch,cd,kh,l5,hlen];refine Eq.trans uu ?_;unfold Kl CK;simp only[aE,i0,Bool.not_false,i1,q4.B.a2,iK,i2]
end
noncomputable section
variable{C:ad}{lf:Nat}{bb a5 eB fl jM kK qJ qK qL qM qN qO qG qH qI:hc}{ao:kU}
def m4:ca aw:=dn 12 Tryd.f12 Tryd.func12 (by kernel_rfl)
noncomputable def vP(aF:O)(h:U):ab:=
 ob aF λa=>some (.ret a,h)
def Bv(C:ad)(lf:Nat)(r:ay)(x7 aP:O)(h:U):ab:=
 a2 C 52 x7 aP h λa k=>dV (cX true (some a) (cS C 35 [] k λa k=>some (.ret a,k)) k) λb k=>hz a b λa=>r (some a) k
theorem atc{r:ay}:∀F h,au m4 C lf [1,1,1,1,1] F h bb (aR r 6) ao=a8 (Bv C lf r) 7 8 F h:=by
 intro F h;kernel_rfl
def Bu(C:ad)(lf:Nat)(n:cY)(r:ay)(av:aU)(x7 aP w5 x23 p8:O)(h:U):ab:=
 mr .lss 3 p8 x23 (ob w5 λa=>lR 8 a p8 λa=>ob (fu 8 a h) λa=>b2 (l1 aw 92 h) λb k=>ob (st 8 b a k) λk=>ob x7 λa=>ob aP λc=>ob (fu 8 b k) λb=>cS C 50 [a,c,b] k λa k=>gj a (r (some (.bool false)) k) (cC .add 3 p8 (I 1) λa=>n x7 aP w5 x23 (some a) k)) (av x7 aP h)
theorem as0{n:cY}{r:ay}{av:aU}:∀F h,au m4 C lf [1,1,1,1,0,1,0,0] F h (dj n 7 8 22 23 24) (aR r 6) (bM 0 (a8 av 7 8) ao)=dj (Bu C lf n r av) 7 8 22 23 24 F h:=by
 intro F h;kernel_rfl
def wo(C:ad)(lf:Nat)(r:ay)(av:aU)(k:O×O×O×O×O->U->ab)(s:O×O×O×O×O)(h:U):ab:=
 Bu C lf (λa b c d g=>k (a,b,c,d,g)) r av s.1 s.2.1 s.2.2.1 s.2.2.2.1 s.2.2.2.2 h
def Sm(C:ad)(lf:Nat)(n:cY)(x2 x7 aP:O)(h:U):ab:=
 ob x2 λa=>kM 88 a λb=>n x7 aP (some a) (some b) (bG 0) h
theorem as1{n:cY}:∀F h,au m4 C lf [1,1,1,1,0,0] F h (dj n 7 8 22 23 24) a5 ao=bE (Sm C lf n) 2 7 8 F h:=by
 intro F h;kernel_rfl
def Sn(C:ad)(lf:Nat)(n:aU)(r:ay)(x2 x7 aP:O)(h:U):ab:=
 Sm C lf (λa b c d g=>bq (wo C lf r n) lf (a,b,c,d,g)) x2 x7 aP h
theorem as2{n:aU}{r:ay}:∀F h,au m4 C lf [1,1,1,1,0] F h (a8 n 7 8) (aR r 6) ao=bE (Sn C lf n r) 2 7 8 F h:=bn (b:=cc m4 [1,1,1,1,0,1]) (by kernel_rfl) (gm (id:=0) (a:=cc m4 [1,1,1,1,0,1,0]) (by kernel_rfl) (hg (g:=λF=>(F 7,F 8,F 22,F 23,F 24)) (body:=wo C lf r n) (by kernel_rfl) (λk=>(as0 (n:=λx7 aP w5 x23 p8 h=>k (x7,aP,w5,x23,p8) h))))) (as1 (n:=λx7 aP w5 x23 p8 h=>bq (wo C lf r n) lf (x7,aP,w5,x23,p8) h))
def So(C:ad)(lf:Nat)(r:ay)(x2 x7 aP:O)(h:U):ab:=
 Sn C lf (Bv C lf r) r x2 x7 aP h
theorem as3{r:ay}:∀F h,au m4 C lf [1,1,1,1] F h bb (aR r 6) ao=bE (So C lf r) 2 7 8 F h:=bn (by kernel_rfl) atc as2
def Sp(C:ad)(lf:Nat)(n:bI)(r:ay)(x2 x7 aP:O)(h:U):ab:=
 gJ .eql 64 x7 (.val (.pointer none)) (r (some (.bool false)) h) (n x2 x7 aP h)
theorem as4{n:bI}{r:ay}:∀F h,au m4 C lf [1,1,1,0] F h (bE n 2 7 8) (aR r 6) ao=bE (Sp C lf n r) 2 7 8 F h:=by
 intro F h;kernel_rfl
def Sq(C:ad)(lf:Nat)(r:ay)(x2 x7 aP:O)(h:U):ab:=
 Sp C lf (So C lf r) r x2 x7 aP h
theorem as5{r:ay}:∀F h,au m4 C lf [1,1,1] F h bb (aR r 6) ao=bE (Sq C lf r) 2 7 8 F h:=bn (by kernel_rfl) as3 as4
def JN(C:ad)(lf:Nat)(n:bI)(r:ay)(x2 x7 aP:O)(h:U):ab:=
 gJ .eql 82 aP (.val (.pointer none)) (cS C 35 [] h λa=>r (some a)) (n x2 x7 aP h)
theorem as6{n:bI}{r:ay}:∀F h,au m4 C lf [1,1,0] F h (bE n 2 7 8) (aR r 6) ao=bE (JN C lf n r) 2 7 8 F h:=by
 intro F h;kernel_rfl
def EE(C:ad)(lf:Nat)(r:ay)(x2 x7 aP:O)(h:U):ab:=
 JN C lf (Sq C lf r) r x2 x7 aP h
theorem as7{r:ay}:∀F h,au m4 C lf [1,1] F h bb (aR r 6) ao=bE (EE C lf r) 2 7 8 F h:=bn (by kernel_rfl) as5 as6
def JO(C:ad)(lf:Nat)(n:bI)(x0 x1 x2:O)(h:U):ab:=
 a2 C 49 x0 x1 h λa k=>df a λa b=>n x2 (some a) (some b) k
theorem as8{n:bI}:∀F h,au m4 C lf [1,0] F h (bE n 2 7 8) a5 ao=bE (JO C lf n) 0 1 2 F h:=by
 intro F h;kernel_rfl
def afy(C:ad)(lf:Nat)(r:ay)(x0 x1 x2:O)(h:U):ab:=
 JO C lf (EE C lf r) x0 x1 x2 h
theorem as9{r:ay}:∀F h,au m4 C lf [1] F h bb (aR r 6) ao=bE (afy C lf r) 0 1 2 F h:=bn (by kernel_rfl) as7 as8
noncomputable def afz(C:ad)(lf:Nat)(n:bI)(x0 x1 x2:O)(h:U):ab:=
 n x0 x1 x2 h
theorem ata{n:bI}:∀F h,au m4 C lf [0] F h (bE n 0 1 2) a5 ao=bE (afz C lf n) 0 1 2 F h:=by
 intro F h;kernel_rfl
def Sr(C:ad)(lf:Nat)(r:ay)(x0 x1 x2:O)(h:U):ab:=
 afz C lf (afy C lf r) x0 x1 x2 h
theorem atb{r:ay}:∀F h,au m4 C lf [] F h bb (aR r 6) ao=bE (Sr C lf r) 0 1 2 F h:=bn (by kernel_rfl) as9 ata
def HE(C:ad)(lf:Nat)(aj ak aD:J)(h:U):ab:=Sr C lf vP (some aj) (some ak) (some aD) h
def O1:cx aw:=nA m4 HE (λC lf aj ak aD h=>cZ (K:=(aR vP 6)) (by kernel_rfl) (Eq.trans (atb _ h) (by kernel_rfl))) (by kernel_rfl)
end
def Ch(h:U)(x:J)(L:List gP):Prop:=(F2 x/\L=[])\/∃jh pS cap lo m,x= .aZ jh pS L.length cap lo/\h.mt jh=some m/\jh<h.next/\
 ∀t (aN:t<L.length),(∀c,c<8->h.cell jh (pS+t*8+c)=L[t].cells[c]?)/\gP.mY h L[t]
theorem Ch.len{h:U}{x:J}{L:List gP}(A:Ch h x L):eE aw 88 x=some (I (L.length:Int)):=by
 rcases A with⟨rfl|⟨_,rfl⟩,rfl⟩|⟨jh,pS,cap,lo,m,rfl,_⟩
 ·simp[eE,Tryd.underlying88,fD]
 ·simp[eE,Tryd.underlying88,fD]
 ·exact uS Tryd.underlying88
structure oe (h0 h:U) (T:ei) (R:eS) (n N:Nat) (a:nr):Prop where
 r:Rel h T R n N a
 F:aG h0 h (λ_=>False)
 p:∀j,gI T j->h0.next<=j
 q:∀j,jw R a.q j->h0.next<=j
section
variable{lf:Nat}{h h0 h':U}{T:ei}{R:eS}{n N:Nat}{a a':nr}{o:gP}
theorem oe.step(S:oe h0 h T R n N a)(s:sK h h' T R n N a a'):oe h0 h' T R n N a':=by
 refine⟨s.r,S.F.Rm s.f λj aa=>aa.elim (S.p j) (S.q j),S.p,λj aa=>?_⟩;rcases aa with e|e|e|e|⟨u,e⟩
 ·exact S.q j (.inl e)
 ·exact S.q j (.inr (.inl e))
 ·exact S.q j (.inr (.inr (.inl e)))
 ·exact S.q j (.inr (.inr (.inr (.inl e))))
 ·rcases s.a0 u j e with e|e
  ·exact S.q j (.inr (.inr (.inr (.inr ⟨u,e⟩))))
  ·exact Nat.le_trans S.F.next e
theorem oe.hk(S:oe h0 h T R n N a)(F:aG h h' (λ_=>False)):oe h0 h' T R n N a:=⟨S.r.hk F,S.F.trans F,S.p,S.q⟩
theorem gP.one(O:gP.mY h o):dZ o.cells=true:=by
 have:o.kA.one=true:=by
  rcases O.t.2 with⟨e|⟨k,e⟩,_⟩|⟨bR,ob,cap,lo,m,e,_⟩<;>rw[e]<;>rfl
 show(true&&(true&&(true&&(true&&(true&&(o.kA.one&&(true&&(true&&true))))))))=true;rw[this];rfl
theorem aru{C:ad}(zJ:zI C)(S:oe h0 h T R n N a)(O:gP.mY h0 o){jh off:Nat}{m:pb}(hm:h0.mt jh=some m)(AM:jh<h0.next)(ae:∀c,c<8->h0.cell jh (off+c)=o.cells[c]?):
 ∃g h1 h2 a',fu 8 (.ptr jh off) h=some (.agg o.cells)/\l1 aw 92 h=some (.ptr h.next 0,g)/\st 8 (.ptr h.next 0) (.agg o.cells) g=some h1/\fu 8 (.ptr h.next 0) h1=some (.agg o.cells)/\
  C (.fn 50) [.ptr T.a9 0,.ptr R.rt 0,.agg o.cells] h1=some (.ret (.bool true),h2)/\oe h0 h2 T R n N a'/\aG h h2 (λj=>gI T j\/jw R a.q j)/\(∀u k,a'.q u=some k->a.q u=some k\/h.next<=k):=by
 have al:=S.F.same jh AM (λe=>e);have aL:o.cells.length=8:=rfl;obtain⟨z,a1,hj⟩:∃z,hb aw 92=some z/\(db z).cells.length=8:=FU (by kernel_rfl);have um:=rf (P:=aw) (e:=92) (h:=h) a1;have w:=lZ (h:=h) (o:=dJ 92 (db z).cells) rfl;have aO:(dJ 92 (db z).cells).n=8:=hj;rw[aO] at w;have s1:=hR (n:=8) (off:=0) (y:= .agg o.cells) w aL (by omega) (gP.one O);have ga:(J.agg o.cells).cells=o.cells:=rfl;rw[ga] at s1;have aM:aG h ((h.new (dJ 92 (db z).cells)).set h.next 0 o.cells) (λ_=>False):=(aG.new h _ _).gz (fa rfl) (Nat.le_refl _)
 have bZ:fu 8 (.ptr h.next 0) ((h.new (dJ 92 (db z).cells)).set h.next 0 o.cells)=some (.agg o.cells):=by
  obtain⟨oO,uJ,_⟩:=eG (off:=0) (k:=h.next) (ys:=o.cells) w;rw[n2 uJ,lE aL λj aa=>?_]
  ·rfl
  ·rw[Nat.zero_add,hh w (by omega) (Nat.zero_le _) (by omega),Nat.sub_zero]
 generalize(h.new (dJ 92 (db z).cells)).set h.next 0 o.cells=h1 at *
 have jn:=S.hk aM;have gO:gP.mY h1 o:=⟨O.k,O.ino,O.x,O.y,O.mo,O.t.frame λbR ob len cap lo e=>jn.F.same bR (O.iS bR (by rw[e];rfl)) (λe=>e),O.BR,λj aa=>Nat.lt_of_lt_of_le (O.iS j aa) jn.F.next⟩;obtain⟨h2,a',a2,s2⟩:=zJ h1 T R n N a o jn.r gO λj aa=>⟨λe=>by have:=O.iS j aa;have:=S.p j e;omega,λe=>by have:=O.iS j aa;have:=S.q j e;omega⟩
 refine⟨_,h1,h2,a',?_,um,s1,bZ,a2,jn.step s2,(aM.ek λ_ e=>e.elim).trans s2.f,λu k e=>(s2.a0 u k e).imp id λx=>Nat.le_trans aM.next x⟩;rw[n2 (m:=m) (by rw[al.mt];exact hm),lE aL λj aa=>by rw[al.cell];exact ae j aa];rfl
def aj:nr:=⟨⟨λ_=>0,λ_=>0,λ_=>fA,λ_ _=>0⟩,0,λ_=>false,λ_=>none,λ_=>0,λ_=>fA⟩
theorem aeR:bQ (λ_=>0)=λ_=>false:=funext λj=>by simp[bQ]
def GA(C:ad):Prop:=∀h (m k:Int),jT h->hr h->mE<h.next->sB m->sB k->
 ((m<1\/4096<m\/k<1\/4096<k)->C (.fn 49) [I m,I k] h=some (.ret (.bm [.val (.pointer none),.val (.pointer none)]),h))/\
 (1<=m->m<=4096->1<=k->k<=4096->∃h' T R,C (.fn 49) [I m,I k] h=some (.ret (.bm [.ptr T.a9 0,.ptr R.rt 0]),h')/\oe h h' T R m.toNat k.toNat aj)
theorem azZ{C:ad}(ajn:Mw C)(ue:Ml C)(kc:vt C){m k:Int}(an:jT h)(jF:hr h)(bd:mE<h.next)(hm:sB m)(ai:sB k):
 ((m<1\/4096<m\/k<1\/4096<k)->CX C lf (I m) (I k) h=some (.ret (.bm [.val (.pointer none),.val (.pointer none)]),h))/\
 (1<=m->m<=4096->1<=k->k<=4096->∃h' T R,CX C lf (I m) (I k) h=some (.ret (.bm [.ptr T.a9 0,.ptr R.rt 0]),h')/\oe h h' T R m.toNat k.toNat aj):=by
 obtain⟨dc,du⟩:=ajn h m k an hm.1 hm.2 ai.1 ai.2;have d22:decide ((22:Int)≠0)=true:=rfl;have Ha:decide ((0:Int)≠0)=false:=rfl;unfold CX TO Oi;refine⟨λag=>?_,λbX b2 hf kF=>?_⟩
 ·by_cases az:1048576<m
  ·simp only[aE,bu az,iH]
  ·by_cases aA:1048576<k
   ·simp only[aE,br az,bu aA]
   ·simp only[aE,br az,br aA,dc ag,List.getElem?_cons_zero,List.getElem?_cons_succ,d22]
 ·have az:decide (1048576<m)=false:=br (by omega);have aA:decide (1048576<k)=false:=br (by omega);obtain⟨h1,R,aS,jm,ej,aM⟩:=du bX b2 hf kF;obtain⟨h2,a2,cA,dk,bD⟩:=(ue h1 m k hm.1 hm.2 ai.1 ai.2).2 bX b2 hf kF;have e5:=jm.hK bD λ_ _ e=>e
  have cz:=kc h2 0;generalize m9:(⟨h1.next+3,h1.next+1,h1.next,h1.next+2⟩:ei)=T at *;have anZ:h1.next+3=T.a9:=by rw[<- m9]
  rw[anZ] at a2
  have tc:∀j,gI T j->h1.next<=j:=λj aa=>by
   rw[<- m9] at aa;rcases aa with rfl|rfl|rfl|rfl
   ·exact Nat.le_add_right _ _
   ·exact Nat.le_add_right _ _
   ·exact Nat.le_refl _
   ·exact Nat.le_add_right _ _
  have Iz:∀j,gI T j->j<h2.next:=λj aa=>by
   rw[<- m9] at aa;rcases aa with rfl|rfl|rfl|rfl
   ·show h1.next+3<_;omega
   ·show h1.next+1<_;omega
   ·show h1.next<_;omega
   ·show h1.next+2<_;omega
  have cB:∀j,jw R (λ_=>none) j->sj R m.toNat (λ_=>none) j:=λj aa=>by
   rcases aa with e|e|e|e|⟨u,e⟩
   ·exact .inr (.inl e)
   ·exact .inr (.inr (.inl e))
   ·exact .inr (.inr (.inr (.inl e)))
   ·exact .inl e
   ·cases e
  have mL:mE<h1.next:=Nat.lt_of_lt_of_le bd aM.next
  have nw:=aM.trans bD;have L0:bJ h2 R m.toNat k.toNat (bQ (λ_=>0)) (λ_=>none) (λ_=>0) 0 (λ_=>false) (λ_=>fA):=by rw[aeR];exact e5
  refine⟨h2,T,R,?_,⟨⟨dk,⟨λi c _ h1 _=>?_,λ_ _=>Nat.zero_le _,λ_ _ _ _ _ h=>absurd h (Nat.lt_irrefl _),λ_ _ _ _ _ _ _ _ _ _ h=>absurd h (Nat.lt_irrefl _)⟩,L0,λi c _ h1 _=>?_,λ_ _=>rfl,λ_ _ _ _=>rfl,λ_ _=>aeH,⟨λ_ _=>ahF λ_ _ _=>rfl,λ_ _ _ _ _ _=>rfl,λj aa=>?_⟩,jF.dA nw bd (λe=>e),?_,λj aa e=>?_,λe=>?_,λe=>?_,λu k e=>(by cases e)⟩,nw,λj aa=>Nat.le_trans aM.next (tc j aa),λj aa=>ej j (cB j aa)⟩⟩
  ·simp only[aE,az,aA,aS,List.getElem?_cons_zero,List.getElem?_cons_succ,Ha,a2,cz]
  ·exact if_neg (by omega)
  ·exact if_neg (by omega)
  ·have hs:bQ (λ_=>0) j=true:=aa;rw[aeR] at hs;cases hs
  ·refine⟨Iz _ (.inl rfl),Iz _ (.inr (.inl rfl)),Iz _ (.inr (.inr (.inl rfl))),Iz _ (.inr (.inr (.inr rfl))),by omega,⟨λe=>?_,λe=>?_,λe=>?_⟩⟩
   ·have:=tc T.bO (.inr (.inl rfl));omega
   ·have:=tc T.kd (.inr (.inr (.inl rfl)));omega
   ·have:=tc T.aJ (.inr (.inr (.inr rfl)));omega
  ·have:=tc j aa
   have:=jm.j8 (cB j e)
   omega
  ·have:=tc _ e;omega
  ·have:=ej _ (cB _ e);omega
end
theorem aAZ{C:ad}{lf:Nat}{r:ay}{x0 x1 x2:O}{h:U}:Sr C lf r x0 x1 x2 h=JO C lf (λx2 x7 aP h=>EE C lf r x2 x7 aP h) x0 x1 x2 h:=rfl
section
variable{lf:Nat}{h h0:U}{T:ei}{R:eS}{n N:Nat}{a:nr}
theorem ag1{C:ad}(zJ:zI C){jh pS:Nat}{cap:Option Nat}{lo:Nat}{m:pb}{L:List gP}(h8:L.length<=140737488355328)(hm:h0.mt jh=some m)(AM:jh<h0.next)(ae:∀t (aN:t<L.length),(∀c,c<8->h0.cell jh (pS+t*8+c)=L[t].cells[c]?)/\gP.mY h0 L[t])(jO:ay)(av:aU):
 ∀(d t:Nat),t+d=L.length->∀f,d<f->∀h a,oe h0 h T R n N a->∃h' a',bq (wo C lf jO av) f (some (.ptr T.a9 0),some (.ptr R.rt 0),some (.aZ jh pS L.length cap lo),some (I (L.length:Int)),some (I (t:Int))) h=av (some (.ptr T.a9 0)) (some (.ptr R.rt 0)) h'/\oe h0 h' T R n N a'
 |0,t,aN,f,an,h,a,S=>by
  obtain⟨f,rfl⟩:=dK f (by omega);have ba:decide ((t:Int)<(L.length:Int))=false:=br (by omega);refine⟨h,a,?_,S⟩;rw[dr];unfold wo Bu;simp only[aE,ba]
 |d+1,t,aN,f,an,h,a,S=>by
  obtain⟨f,rfl⟩:=dK f (by omega);have ba:decide ((t:Int)<(L.length:Int))=true:=bu (by omega);have dC:IntKind.i64.wrap ((t:Int)+1)=((t+1:Nat):Int):=cL (by omega);have b7:=gV (s:=8) (k:=jh) (off:=pS) (len:=L.length) (lo:=lo) (cap:=cap) (kd:= .i64) (i:=(t:Int)) (by omega) (by omega);rw[Int.toNat_natCast] at b7;obtain⟨k1,k2⟩:=ae t (by omega);obtain⟨g,h1,h2,a',s1,s2,er,fo,oT,ru,_⟩:=aru zJ S k2 (off:=pS+t*8) hm AM k1;obtain⟨h3,a7,tR,ajq⟩:=ag1 zJ h8 hm AM ae jO av d (t+1) (by omega) f (by omega) h2 a' ru;refine⟨h3,a7,?_,ajq⟩;rw[dr];show Bu C lf (λx7 aP w5 x23 p8 h=>bq (wo C lf jO av) f (x7,aP,w5,x23,p8) h) jO av _ _ _ _ _ h=_;unfold Bu;simp only[aE,ba,b7,s1,s2,er,fo,oT,Bool.not_true,dC];exact tR
theorem aAY{C:ad}(gu:140737488355329<=lf)(an:jT h0)(IJ:mE<h0.next)(jF:hr h0)(MA:GA C)(zJ:zI C)(aiP:FV C)(acF:∀h,aG h0 h (λ_=>False)->C (.fn 35) [] h=some (.ret (.bool true),h))
 {m k:Int}(hm:sB m)(ai:sB k){x:J}{L:List gP}(P:Ch h0 x L)(h8:L.length<=140737488355328):∃h',HE C lf (I m) (I k) x h0=some (.ret (.bool true),h'):=by
 obtain⟨dc,du⟩:=MA h0 m k an jF IJ hm ai;have hlen:=P.len;unfold HE;rw[aAZ];unfold JO;by_cases ag:m<1\/4096<m\/k<1\/4096<k
 ·have aO:=amB Tryd.underlying82;refine⟨h0,?_⟩;simp only[ch,cd,kh,dc ag,pz,List.getElem?_cons_zero,List.getElem?_cons_succ];unfold EE JN vP;simp only[ch,cd,aO,rh,acF h0 (aG.refl _ _),kh]
 ·obtain⟨h1,T,R,aS,jn⟩:=du (by omega) (by omega) (by omega) (by omega);have aO:=ZR (k:=R.rt) (off:=0) Tryd.underlying82;have gb:=ZR (k:=T.a9) (off:=0) Tryd.underlying64
  have fin:∀h a,oe h0 h T R m.toNat k.toNat a->∃h',Bv C lf vP (some (.ptr T.a9 0)) (some (.ptr R.rt 0)) h=some (.ret (.bool true),h'):=λh a S=>by
   obtain⟨h',c,F⟩:=aiP h T R _ _ a S.r;refine⟨h',?_⟩;unfold Bv vP;simp only[aE,c,acF h' (S.F.trans F)]
  have loop:∃h' a',bq (wo C lf vP (λx7 aP h=>Bv C lf vP x7 aP h)) lf (some (.ptr T.a9 0),some (.ptr R.rt 0),some x,some (I (L.length:Int)),some (I 0)) h1=Bv C lf vP (some (.ptr T.a9 0)) (some (.ptr R.rt 0)) h'/\oe h0 h' T R m.toNat k.toNat a':=by
   rcases P with⟨_,rfl⟩|⟨jh,pS,cap,lo,j5,rfl,uL,AM,ae⟩
   ·obtain⟨f,rfl⟩:∃g,lf=g+1:=⟨lf-1,by omega⟩;have ba:decide ((0:Int)<(([]:List gP).length:Int))=false:=rfl;refine⟨h1,_,?_,jn⟩;rw[dr];unfold wo Bu;simp only[aE,ba]
   ·exact ag1 (lf:=lf) zJ h8 uL AM ae _ _ L.length 0 (by omega) lf (by omega) h1 _ jn
  obtain⟨h2,aD,a2,ru⟩:=loop;obtain⟨h3,cr⟩:=fin h2 aD ru;refine⟨h3,?_⟩;simp only[ch,cd,kh,aS,pz,List.getElem?_cons_zero,List.getElem?_cons_succ];unfold EE JN;simp only[ch,cd,aO,o6];unfold Sq Sp;simp only[ch,cd,gb,o6];unfold So Sn Sm;simp only[ch,cd,hlen];rw[a2];exact cr
end
noncomputable def O0:ca Tryd.prog:=⟨35,Tryd.f35,λ_=> .text,Tryd.func35,by kernel_rfl,by kernel_rfl,by kernel_rfl,by kernel_rfl⟩
noncomputable def Hs(x0:O)(h:U):ab:=
 ob x0 λaj=>
 some (.ret aj,h)
noncomputable def afD(C:ad)(lf:Nat)(r:ay)(h:U):ab:=
 dV (C (.fn 36) [(.int .i64 4),(.int .i64 2)] h) λy1 h1=>
 ob (ext 0 y1) λtW=>
 ob (ext 1 y1) λXl=>
 ob (bin Tryd.prog .eql 64 tW (.val (.pointer none))) λzA=>
 dV (cX false (some zA) (some (.ret Xl,h1)) h1) λLH bz=>
 dV (cX false (some zA) (dV (C (.fn 34) [LH] bz) λaEh bB=>
 some (.ret aEh,bB)) bz) λaiz dW=>
 dV (cX false (some zA) (ob (bin Tryd.prog .neq 3 aiz (.int .i64 0)) λaEi=>
 some (.ret aEi,dW)) dW) λaEj pD=>
 ob (jB zA (.bool true) aEj) λXj=>
 fY Xj
 (r (some (.bool false)) pD)
 (dV (C (.fn 37) [tW,(.int .i64 33188),(.int .i64 0),(.int .i64 0)] pD) λLB k4=>
 ob (ext 0 LB) λFM=>
 ob (ext 1 LB) λaDM=>
 b2 (ib Tryd.prog 24 2 [0,1] [(.int .u8 97),(.int .u8 98)] k4) λaDN anC=>
 b2 (rj Tryd.prog 24 24 aDN anC) λaDO anD=>
 dV (C (.fn 38) [tW,FM,(.int .i64 100),aDO] anD) λaix anE=>
 ob (ext 0 aix) λaDP=>
 ob (ext 1 aix) λaDQ=>
 dV (C (.fn 41) [tW,FM,(.int .i64 98),(.int .i64 10)] anE) λaiy acs=>
 ob (ext 0 aiy) λaDR=>
 ob (ext 1 aiy) λaDS=>
 ob (bin Tryd.prog .eql 3 FM (.int .i64 1)) λLC=>
 dV (cX true (some LC) (some (.ret aDM,acs)) acs) λaDT acu=>
 dV (cX true (some LC) (dV (C (.fn 34) [aDT] acu) λaDU anF=>
 some (.ret aDU,anF)) acu) λaDV Is=>
 dV (cX true (some LC) (ob (bin Tryd.prog .eql 3 aDV (.int .i64 0)) λaDW=>
 some (.ret aDW,Is)) Is) λaDX x8=>
 ob (jB LC aDX (.bool false)) λXk=>
 dV (cX true (some Xk) (some (.ret aDP,x8)) x8) λaDY acv=>
 dV (cX true (some Xk) (ob (bin Tryd.prog .eql 3 aDY (.int .i64 2)) λaDZ=>
 some (.ret aDZ,acv)) acv) λaD0 acw=>
 ob (jB Xk aD0 (.bool false)) λLD=>
 dV (cX true (some LD) (some (.ret aDQ,acw)) acw) λaD1 AD=>
 dV (cX true (some LD) (dV (C (.fn 34) [aD1] AD) λaD2 anG=>
 some (.ret aD2,anG)) AD) λaD3 vY=>
 dV (cX true (some LD) (ob (bin Tryd.prog .eql 3 aD3 (.int .i64 0)) λaD4=>
 some (.ret aD4,vY)) vY) λaD5 acx=>
 ob (jB LD aD5 (.bool false)) λLF=>
 dV (cX true (some LF) (some (.ret aDS,acx)) acx) λaD6 acy=>
 dV (cX true (some LF) (dV (C (.fn 34) [aD6] acy) λaD7 anI=>
 some (.ret aD7,anI)) acy) λaD8 acz=>
 dV (cX true (some LF) (ob (bin Tryd.prog .eql 3 aD8 (.int .i64 0)) λaD9=>
 some (.ret aD9,acz)) acz) λaEa acA=>
 ob (jB LF aEa (.bool false)) λLG=>
 dV (cX true (some LG) (some (.ret aDR,acA)) acA) λaEb acB=>
 dV (cX true (some LG) (b2 (rj Tryd.prog 24 9 aEb acB) λaEc anJ=>
 some (.ret aEc,anJ)) acB) λaEd acC=>
 dV (cX true (some LG) (ob (bin Tryd.prog .eql 9 aEd (.str (YP [0,0,97,98]))) λaEe=>
 some (.ret aEe,acC)) acC) λaEf anK=>
 ob (jB LG aEf (.bool false)) λaEg=>
 r (some aEg) anK)
theorem auk(C:ad)(lf:Nat)(r:ay)(bb:hc)(ao:kU):∀F h,au O0 C lf [] F h bb (λF h=>r (F 0) h) ao=afD C lf r h:=by
 intro F h;kernel_rfl
noncomputable def aag(C:ad)(lf:Nat)(h:U):ab:=afD C lf Hs h
theorem ana(C:ad)(lf:Nat)(h:U):tX Tryd.prog O0 C lf [] h=aag C lf h:=cZ (K:=(λF h=>Hs (F 0) h)) (by kernel_rfl) (((auk C lf Hs (λF h=>Hs (F 0) h) (λ_ _ _=>none)) _ h).trans (by kernel_rfl))
noncomputable def anc:cx Tryd.prog:=ajz O0 aag ana (by kernel_rfl)
end Go.Proofs.YtomialandfplkaaDoor.Eva
namespace Go.Proofs.YtomialandfplkaaDoor.Eva
section
open Go.ChangeShapes Go.WideShapes Go.ChangeAt Go.RowKit Go.Xe
noncomputable def ah3{P:Program}:List (FuncId×gf P)->ax (gf P)
 | []=> .nil
 |(f,x)::xs=>(ah3 xs).put f x
noncomputable def tab:ax (gf Tryd.prog):=ah3 [(16,.fn O2),(17,.fn O3),(18,.fn O4),(21,.fn O5),(33,.fn O6),(34,.fn O7),(36,.fn O8),(37,.fn O9),(38,.fn Pa),(41,.fn Pb),(62,.fn Pc),(63,.fn Pd),(64,.fn Pe),(73,.fn Pf),(74,.fn Pg),(75,.fn Ph),(76,.fn Pj),(77,.fn Pk),(35,.fn anc)]
def zs:List Int:=[0,1,56,2,57,49,28,3,61,58,42,50,38,29,17,4,62,47,59,36,45,43,51,22,53,39,33,30,24,18,12,5,63,55,48,27,60,41,37,16,46,35,44,21,52,32,23,11,54,26,40,15,34,20,31,10,25,14,19,9,13,8,7,6]
theorem mixed:Tryd.prog.follows .mixedOrders=true:=by kernel_rfl
theorem laidOut:laidOutB Tryd.prog=true:=by kernel_rfl
theorem own:ownKnob Tryd.prog.godebug=none:=by kernel_rfl
theorem acj:Tryd.prog.globalNamed "math/bits.deBruijn64tab"=some 0:=by kernel_rfl
theorem ani:(Tryd.prog.globals[0]?).map (·.type)=some 110:=by kernel_rfl
theorem ak8:Tryd.prog.cellsOf 110=64:=by kernel_rfl
theorem Y1:Tryd.prog.cellsOf 5=1:=by kernel_rfl
theorem table{W:World}(h:laidMetH Tryd.prog [("math/bits.deBruijn64tab",Rows.laid_math_bits_deBruijn64tab)] W):Lib.TabIs Tryd.prog W "math/bits.deBruijn64tab" .u8 zs:=
 Lib.tabIs_of_head (rest:=[]) acj ani Tryd.underlying110 Tryd.underlying5 Y1 ak8 h
noncomputable def aV:cE:=Lj 0 110 64 (zs.map (.int .u8))
noncomputable def Q1(os:Os):World:=
 {World.holding Tryd.prog os ⟨#[], #[],[]⟩ with heap:=(World.holding Tryd.prog os ⟨#[], #[],[]⟩).heap.modify 0 λ
   | .cells _ t frozen=> .cells #[.int .u8 0,.int .u8 1,.int .u8 56,.int .u8 2,.int .u8 57,.int .u8 49,.int .u8 28,.int .u8 3,.int .u8 61,.int .u8 58,.int .u8 42,.int .u8 50,.int .u8 38,.int .u8 29,.int .u8 17,.int .u8 4,.int .u8 62,.int .u8 47,.int .u8 59,.int .u8 36,.int .u8 45,.int .u8 43,.int .u8 51,.int .u8 22,.int .u8 53,.int .u8 39,.int .u8 33,.int .u8 30,.int .u8 24,.int .u8 18,.int .u8 12,.int .u8 5,.int .u8 63,.int .u8 55,.int .u8 48,.int .u8 27,.int .u8 60,.int .u8 41,.int .u8 37,.int .u8 16,.int .u8 46,.int .u8 35,.int .u8 44,.int .u8 21,.int .u8 52,.int .u8 32,.int .u8 23,.int .u8 11,.int .u8 54,.int .u8 26,.int .u8 40,.int .u8 15,.int .u8 34,.int .u8 20,.int .u8 31,.int .u8 10,.int .u8 25,.int .u8 14,.int .u8 19,.int .u8 9,.int .u8 13,.int .u8 8,.int .u8 7,.int .u8 6] t frozen
   |o=>o}
end
section
open Go.Xe Go.ChangeShapes Go.WideShapes Go.ChangeAt Go.RowKit
section
variable{H:Type}{enc:TypeId×Value->H}{w:World}
abbrev Lq:TypeId:=92
abbrev W3:TypeId:=88
theorem ak9:aw.cellsOf Lq=8:=by kernel_rfl
theorem akS:aw.bytesOf Lq=80:=by kernel_rfl
theorem cellsIn:∀t∈ [5,3,68,24,2],aw.cellsOf t=1:=by
 intro t aN;simp only[List.mem_cons,List.not_mem_nil,or_false] at aN;rcases aN with rfl|rfl|rfl|rfl|rfl<;>kernel_rfl
theorem akR:aw.bytesOf 5=1:=by kernel_rfl
theorem apl{x:J}{l:List Nat}(B:Bytes (ht w) x l){j:Nat}(e:rowOf x=some j):j<(ht w).next:=by
 rcases B.2 with⟨rfl|⟨_,rfl⟩,_⟩|⟨k1,ob,cap,lo,m,rfl,hm,_⟩
 ·cases e
 ·cases e
 ·cases e;exact Qv hm
theorem arw{fuel:Nat}{cs:List Value}{d:DataW H}{ps:List MemPlace}(aL:cs.length=8)(an:DataW.trod enc aw w 0 (λ_=>true) true fuel Lq cs=some (d,ps))(hw:mx aw Lq d):
 ∃a:gP,(∀j,j<8->(cs[j]?).map (lift w.heap.size)=a.cells[j]?)/\a.mY (ht w):=by
 have hu:=Tryd.underlying92;have pt:aw.cellsOf 5=1:=cellsIn _ (by simp);have ci:aw.cellsOf 3=1:=cellsIn _ (by simp);have alh:aw.cellsOf 68=1:=cellsIn _ (by simp);have xF:aw.cellsOf 24=1:=cellsIn _ (by simp);have Zl:aw.cellsOf 2=1:=cellsIn _ (by simp);obtain⟨v0,_,_,_,_,c0,_,_,t0⟩:=s4 (i:=0) (o:=0) hu an rfl rfl rfl pt (by omega);obtain⟨v1,_,_,_,_,aS,_,_,t1⟩:=s4 (i:=1) (o:=1) hu an rfl rfl rfl ci (by omega);obtain⟨v2,_,_,_,_,a2,_,_,t2⟩:=s4 (i:=2) (o:=2) hu an rfl rfl rfl ci (by omega);obtain⟨hC,_,_,_,_,cr,_,_,t3⟩:=s4 (i:=3) (o:=3) hu an rfl rfl rfl ci (by omega);obtain⟨v4,_,_,_,_,ct,_,_,t4⟩:=s4 (i:=4) (o:=4) hu an rfl rfl rfl alh (by omega);obtain⟨W7,_,_,_,_,rJ,rfl,iE,t5⟩:=s4 (i:=5) (o:=5) hu an rfl rfl rfl xF (by omega);obtain⟨v6,_,_,_,_,l5,_,_,t6⟩:=s4 (i:=6) (o:=6) hu an rfl rfl rfl Zl (by omega);obtain⟨aij,_,_,_,_,uu,_,_,t7⟩:=s4 (i:=7) (o:=7) hu an rfl rfl rfl Zl (by omega);obtain⟨tC,rfl,g0⟩:=yF Tryd.underlying5 t0
 obtain⟨cH,rfl,g1⟩:=yF Tryd.underlying3 t1;obtain⟨cA,rfl,g2⟩:=yF Tryd.underlying3 t2;obtain⟨gy,rfl,g3⟩:=yF Tryd.underlying3 t3;obtain⟨j6,rfl,g4⟩:=yF Tryd.underlying68 t4;obtain⟨l,B,ye,aoK⟩:=akW Tryd.underlying24 Tryd.underlying5 Y1 akR t5 (hw.s4 hu rfl rfl iE);obtain⟨Bm,rfl,g6⟩:=yF Tryd.underlying2 t6;obtain⟨aqJ,rfl,g7⟩:=yF Tryd.underlying2 t7;have hP:IntKind.i64.min= -9223372036854775808:=rfl;have e0:IntKind.i64.max=9223372036854775807:=rfl;have Bl:IntKind.u8.min=0:=rfl;have oO:IntKind.u8.max=255:=rfl;have ai:tC=((tC.toNat:Nat):Int):=by omega
 refine⟨⟨tC.toNat,cH,cA,gy,j6,lift w.heap.size W7,Bm,aqJ,l⟩,λj aa=>?_,⟨by show tC.toNat<256;omega,⟨by show _<=cH;omega,by show cH<_;omega⟩,⟨by show _<=cA;omega,by show cA<_;omega⟩,⟨by show _<=gy;omega,by show gy<_;omega⟩,⟨by show _<=j6;omega,by show j6<_;omega⟩,B,aoK,λj aa=>apl B aa⟩⟩
 match j,aa with
 |0,_=>rw[c0];show some (J.int .u8 tC)=some (J.int .u8 ((tC.toNat:Nat):Int));rw[<- ai]
 |1,_=>rw[aS];rfl
 |2,_=>rw[a2];rfl
 |3,_=>rw[cr];rfl
 |4,_=>rw[ct];rfl
 |5,_=>rw[rJ];rfl
 |6,_=>rw[l5];rfl
 |7,_=>rw[uu];rfl
set_option maxRecDepth 100000 in
theorem arx{v:Value}{d:DataW H}{ps:List MemPlace}{r:Reach}{qf j:Nat}{c9:List TypeId}{bh:List (DataW H)}(r0:Value.okWide aw w r qf W3 v)
 (h:DataW.Trod enc aw w 0 (λ_=>true) true W3 v d ps)(Qq:c9[j]?=some W3)(PV:bh[j]?=some d)(a1:(DataW.weightsEach aw c9 bh).all (· <=reachBytes)=true):
 ∃L,Ch (ht w) (uU w.heap.size v) L/\L.length<=140737488355328:=by
 rcases aBt Tryd.underlying88 ak9 (by omega) r0 h Qq PV a1 with az|⟨id,off,len,cap,m,az,_,hm,h3,fP⟩
 ·exact⟨[],.inl ⟨az,rfl⟩,Nat.zero_le _⟩
 ·have each:∀i,i<len->∃a:gP,(∀j,j<8->(ht w).cell id (off+i*8+j)=a.cells[j]?)/\a.mY (ht w):=λi hi=>by
   obtain⟨cs,s6,hJ,q0,g1,g2,g3,g4⟩:=fP i hi;obtain⟨a,k1,k2⟩:=arw g1 g4 g2;exact⟨a,λj aa=>(g3 j aa).trans (k1 j aa),k2⟩
  obtain⟨L,h1,h2⟩:=Y3 each;rw[akS] at h3;exact⟨L,.inr ⟨id,off,some cap,0,m,by rw[az,h1],hm,Qv hm,λt aN=>h2 t aN⟩,by omega⟩
end
end
end Go.Proofs.YtomialandfplkaaDoor.Eva
namespace Go.Proofs.YtomialandfplkaaDoor.Eva
open Go.Xe
@[irreducible] def bo:Nat:=2 ^ 64
theorem ik{n:Nat}(h:n<=2 ^ 64):n<=bo:=by unfold bo;exact h
theorem ak5{P:Program}{tab:ax (gf P)}{lf n k:Nat}{y:cx P}{f:FuncId}{args:List J}{h:U}(ai:k=n+1)(bf:y.x.f=f)(bd:m7 (path f) tab=some (.fn y)):(hB tab lf k).call (.fn f) args h=y.s (hB tab lf n).call lf args h:=by
 subst ai
 have:(hB tab lf (n+1)).call (.fn f) args h=zm (hB tab lf n) lf f args h (m7 (path f) tab):=rfl
 rw[this,bd];simp only[zm,bf,Nat.beq_refl,cond_true]
noncomputable def ah4{P:Program}:List (FuncId×gf P)->ax (gf P)
 | []=> .nil
 |(f,x)::xs=>(ah4 xs).put f x
set_option maxRecDepth 100000 in
theorem aqm:Wz ((hB tab 100000 1000).call (.iF 35) [] ⟨1,1,aV⟩)=true:=by kernel_rfl
theorem aBe{r:ab}(h:Wz r=true):∃h',r=some (.ret (.bool true),h'):=by
 unfold Wz at h;split at h
 ·exact⟨_,rfl⟩
 ·cases h
noncomputable def Ze:List J->Option J
 | []=>some (.bool true)
 |_=>none
noncomputable def G7:o8 Tryd.prog:=aly (tab:=tab) (lf:=100000) (fuel:=1000) mixed 0 110 64 .u8 zs (by decide) 35 Ze
 (λargs y h=>by
   cases args with
   |nil=>cases h;exact⟨rfl,rfl⟩
   |cons a l=>cases h)
 (λargs y h=>by
   cases args with
   |nil=>
    cases h;exact aBe aqm
   |cons a l=>cases h)
noncomputable def cons:List (o8 Tryd.prog):=[G7]
theorem alB{C:ad}{h:U}(aN:mc 0 .u8 zs h=true):sV cons C (.fn 35) [] h=some (.ret (.bool true),h):=by
 have h1:xG cons 35=some G7:=rfl
 have h2:G7.g [] h=some (.bool true):=by
  show(bif mc 0 .u8 zs h then Ze [] else none)=_;rw[aN];rfl
 simp only[sV,h1,h2]
theorem Np{C:ad}{f:Nat}(an:Nat.beq 35 f=false)(args:List J)(h:U):sV cons C (.fn f) args h=C (.fn f) args h:=by
 have h1:xG cons f=none:=by
  show(bif Nat.beq 35 f then some G7 else none)=none;rw[an];rfl
 simp only[sV,h1]
noncomputable def wY:ax (gf aw):=ah4 [(64,.fn Pe),(63,.fn Pd),(33,.fn O6),(23,.fn abm),(16,.fn O2),(17,.fn O3),(21,.fn O5),(18,.fn O4),(65,.fn abN),(19,.fn abk),(20,.fn abl),(29,.fn abo),(72,.fn abS),(30,.fn abp),(32,.fn abr),(31,.fn abq),(66,.fn abO),(67,.fn abP),(24,.fn abn),(69,.fn abQ),(71,.fn abR),(73,.fn Pf),(62,.fn Pc),(74,.fn Pg),(76,.fn Pj),(77,.fn Pk),(36,.fn O8),(37,.fn O9),(90,.fn ab5),(75,.fn Ph),(38,.fn Pa),(41,.fn Pb),(91,.fn ab6),(92,.fn ab7),(78,.fn abT),(40,.fn abu),(93,.fn ab8),(79,.fn abU),(42,.fn abv),(51,.fn abE),(89,.fn ab4),(55,.fn abG),(56,.fn abH),(58,.fn abJ),(57,.fn abI),(60,.fn abL),(61,.fn abM),(59,.fn abK),(81,.fn abW),(47,.fn abA),(46,.fn abz),(48,.fn abB),(39,.fn abt),(44,.fn abx),(104,.fn abd),(108,.fn abh),(101,.fn aba),(103,.fn abc),(99,.fn acf),(102,.fn abb),(105,.fn abe),(110,.fn abj),(106,.fn abf),(94,.fn ab9),(107,.fn abg),(96,.fn acb),(109,.fn abi),(100,.fn aa9),(98,.fn ace),(97,.fn acd),(88,.fn ab3),(87,.fn ab2),(86,.fn ab1),(85,.fn ab0),(84,.fn abZ),(80,.fn abV),(34,.fn O7),(45,.fn aby),(43,.fn abw),(95,.fn aca),(82,.fn abX),(83,.fn abY),(50,.fn abD),(52,.fn abF),(49,.fn abC)]
noncomputable abbrev H(lf n:Nat):ad:=(hB wY lf n).call
theorem c6{lf n:Nat}{f:FuncId}{args:List J}{h:U}{R:ab}(y:cx aw)(bd:m7 (path f) wY=some (.fn y))(bf:y.x.f=f)(al:y.s (H lf n) lf args h=R):H lf (n+1) (.fn f) args h=R:=(ak5 rfl bf bd).trans al
theorem aCX{lf n:Nat}{f:FuncId}{args:List J}{h:U}{R:ab}(y:cx aw)(bd:m7 (path f) wY=some (.fn y))(bf:y.x.f=f)(al:y.s (H lf n) lf args h=R):H lf (n+1) (.iF f) args h=R:=by
 have:H lf (n+1) (.iF f) args h=Go.Xe.runN (hB wY lf n) lf f args h (m7 (path f) wY):=rfl
 rw[this,bd];simp only[Go.Xe.runN,bf,Nat.beq_refl,cond_true];exact al
theorem cW{lf:Nat}:(∀n aj h,H lf (n+1) (.fn 64) [aj] h=H0 (H lf n) lf aj h)/\(∀n aj h,H lf (n+1) (.fn 63) [aj] h=HZ (H lf n) lf aj h)/\(∀n aj ak h,H lf (n+1) (.fn 33) [aj,ak] h=HM (H lf n) lf aj ak h)/\(∀n aj ak h,H lf (n+1) (.fn 23) [aj,ak] h=CU (H lf n) lf aj ak h)/\(∀n aj h,H lf (n+1) (.fn 16) [aj] h=CR (H lf n) lf aj h)/\(∀n aj h,H lf (n+1) (.fn 17) [aj] h=As (H lf n) lf aj h)/\(∀n aj ak h,H lf (n+1) (.fn 21) [aj,ak] h=CT (H lf n) lf aj ak h)/\(∀n aj ak aD a7 h,H lf (n+1) (.fn 18) [aj,ak,aD,a7] h=CS (H lf n) lf aj ak aD a7 h)/\(∀n aj h,H lf (n+1) (.fn 65) [aj] h=H2 (H lf n) lf aj h)/\(∀n aj h,H lf (n+1) (.fn 19) [aj] h=HF (H lf n) lf aj h)/\(∀n aj h,H lf (n+1) (.fn 20) [aj] h=HG (H lf n) lf aj h)/\(∀n aj h,H lf (n+1) (.fn 29) [aj] h=HI (H lf n) lf aj h)/\(∀n aj ak h,H lf (n+1) (.fn 72) [aj,ak] h=H5 (H lf n) lf aj ak h)/\(∀n aj h,H lf (n+1) (.fn 30) [aj] h=HJ (H lf n) lf aj h)/\(∀n aj h,H lf (n+1) (.fn 32) [aj] h=HL (H lf n) lf aj h)/\(∀n aj ak h,H lf (n+1) (.fn 31) [aj,ak] h=HK (H lf n) lf aj ak h)/\(∀n aj h,H lf (n+1) (.fn 66) [aj] h=Av (H lf n) lf aj h)/\(∀n aj ak h,H lf (n+1) (.fn 67) [aj,ak] h=C2 (H lf n) lf aj ak h)/\(∀n aj h,H lf (n+1) (.fn 24) [aj] h=HH (H lf n) lf aj h)/\(∀n aj h,H lf (n+1) (.fn 69) [aj] h=H3 (H lf n) lf aj h)/\(∀n aj ak h,H lf (n+1) (.fn 71) [aj,ak] h=H4 (H lf n) lf aj ak h)/\(∀n aj h,H lf (n+1) (.fn 73) [aj] h=H6 (H lf n) lf aj h)/\(∀n aj ak h,H lf (n+1) (.fn 62) [aj,ak] h=HY (H lf n) lf aj ak h)/\(∀n aj ak h,H lf (n+1) (.fn 74) [aj,ak] h=H7 (H lf n) lf aj ak h)/\(∀n aj ak h,H lf (n+1) (.fn 76) [aj,ak] h=H8 (H lf n) lf aj ak h)/\(∀n aj ak h,H lf (n+1) (.fn 77) [aj,ak] h=H9 (H lf n) lf aj ak h)/\(∀n aj ak h,H lf (n+1) (.fn 36) [aj,ak] h=CV (H lf n) lf aj ak h)/\(∀n aj ak aD a7 h,H lf (n+1) (.fn 37) [aj,ak,aD,a7] h=vR (H lf n) lf aj ak aD a7 h)/\(∀n aj ak h,H lf (n+1) (.fn 90) [aj,ak] h=Ik (H lf n) lf aj ak h)/\(∀n aj ak aD h,H lf (n+1) (.fn 75) [aj,ak,aD] h=C3 (H lf n) lf aj ak aD h)/\(∀n aj ak aD a7 h,H lf (n+1) (.fn 38) [aj,ak,aD,a7] h=rO (H lf n) lf aj ak aD a7 h)/\(∀n aj ak aD a7 h,H lf (n+1) (.fn 41) [aj,ak,aD,a7] h=uC (H lf n) lf aj ak aD a7 h)/\(∀n aj ak h,H lf (n+1) (.fn 91) [aj,ak] h=C7 (H lf n) lf aj ak h)/\(∀n aj h,H lf (n+1) (.fn 92) [aj] h=Il (H lf n) lf aj h)/\(∀n aj ak aD h,H lf (n+1) (.fn 78) [aj,ak,aD] h=Ia (H lf n) lf aj ak aD h)/\(∀n aj ak aD h,H lf (n+1) (.fn 40) [aj,ak,aD] h=s5 (H lf n) lf aj ak aD h)/\(∀n aj ak h,H lf (n+1) (.fn 93) [aj,ak] h=Im (H lf n) lf aj ak h)/\(∀n aj h,H lf (n+1) (.fn 79) [aj] h=Ib (H lf n) lf aj h)/\(∀n aj ak h,H lf (n+1) (.fn 42) [aj,ak] h=HP (H lf n) lf aj ak h)/\(∀n aj ak h,H lf (n+1) (.fn 51) [aj,ak] h=CY (H lf n) lf aj ak h)/\(∀n aj ak h,H lf (n+1) (.fn 89) [aj,ak] h=C6 (H lf n) lf aj ak h)/\(∀n aj ak h,H lf (n+1) (.fn 55) [aj,ak] h=HX (H lf n) lf aj ak h)/\(∀n aj ak aD h,H lf (n+1) (.fn 56) [aj,ak,aD] h=CZ (H lf n) lf aj ak aD h)/\(∀n aj ak aD a7 h,H lf (n+1) (.fn 58) [aj,ak,aD,a7] h=C0 (H lf n) lf aj ak aD a7 h)/\(∀n aj ak aD a7 h,H lf (n+1) (.fn 57) [aj,ak,aD,a7] h=At (H lf n) lf aj ak aD a7 h)/\(∀n aj ak h,H lf (n+1) (.fn 60) [aj,ak] h=C1 (H lf n) lf aj ak h)/\(∀n aj ak h,H lf (n+1) (.fn 61) [aj,ak] h=Au (H lf n) lf aj ak h)/\(∀n aj ak aD h,H lf (n+1) (.fn 59) [aj,ak,aD] h=xX (H lf n) lf aj ak aD h)/\(∀n aj ak h,H lf (n+1) (.iF 81) [aj,ak] h=C4 (H lf n) lf aj ak h)/\(∀n aj h,H lf (n+1) (.fn 47) [aj] h=HT (H lf n) lf aj h)/\(∀n aj h,H lf (n+1) (.fn 46) [aj] h=HS (H lf n) lf aj h)/\(∀n aj h,H lf (n+1) (.fn 48) [aj] h=HU (H lf n) lf aj h)/\(∀n aj h,H lf (n+1) (.fn 39) [aj] h=HO (H lf n) lf aj h)/\(∀n aj ak h,H lf (n+1) (.fn 44) [aj,ak] h=CW (H lf n) lf aj ak h)/\(∀n aj ak h,H lf (n+1) (.fn 104) [aj,ak] h=Hz (H lf n) lf aj ak h)/\(∀n aj h,H lf (n+1) (.fn 108) [aj] h=HB (H lf n) lf aj h)/\(∀n aj ak aD h,H lf (n+1) (.fn 101) [aj,ak,aD] h=CO (H lf n) lf aj ak aD h)/\(∀n aj ak aD a7 h,H lf (n+1) (.fn 103) [aj,ak,aD,a7] h=CP (H lf n) lf aj ak aD a7 h)/\(∀n aj ak h,H lf (n+1) (.fn 99) [aj,ak] h=C8 (H lf n) lf aj ak h)/\(∀n aj ak aD a7 h,H lf (n+1) (.fn 102) [aj,ak,aD,a7] h=Ar (H lf n) lf aj ak aD a7 h)/\(∀n aj h,H lf (n+1) (.fn 105) [aj] h=HA (H lf n) lf aj h)/\(∀n aj ak aD h,H lf (n+1) (.fn 110) [aj,ak,aD] h=HD (H lf n) lf aj ak aD h)/\(∀n aj ak aD h,H lf (n+1) (.fn 106) [aj,ak,aD] h=xW (H lf n) lf aj ak aD h)/\(∀n aj ak aD a7 h,H lf (n+1) (.fn 94) [aj,ak,aD,a7] h=vS (H lf n) lf aj ak aD a7 h)/\(∀n aj ak aD h,H lf (n+1) (.fn 107) [aj,ak,aD] h=CQ (H lf n) lf aj ak aD h)/\(∀n aj ak aD h,H lf (n+1) (.fn 96) [aj,ak,aD] h=xY (H lf n) lf aj ak aD h)/\(∀n aj ak h,H lf (n+1) (.fn 109) [aj,ak] h=HC (H lf n) lf aj ak h)/\(∀n aj ak h,H lf (n+1) (.fn 100) [aj,ak] h=Aq (H lf n) lf aj ak h)/\(∀n aj ak aD h,H lf (n+1) (.fn 98) [aj,ak,aD] h=xZ (H lf n) lf aj ak aD h)/\(∀n aj ak aD a7 h,H lf (n+1) (.fn 97) [aj,ak,aD,a7] h=vT (H lf n) lf aj ak aD a7 h)/\(∀n aj ak aD a7 h,H lf (n+1) (.fn 88) [aj,ak,aD,a7] h=Aw (H lf n) lf aj ak aD a7 h)/\(∀n aj ak h,H lf (n+1) (.fn 87) [aj,ak] h=C5 (H lf n) lf aj ak h)/\(∀n aj ak h,H lf (n+1) (.fn 86) [aj,ak] h=Ij (H lf n) lf aj ak h)/\(∀n aj h,H lf (n+1) (.fn 85) [aj] h=Ii (H lf n) lf aj h)/\(∀n aj h,H lf (n+1) (.fn 84) [aj] h=Ih (H lf n) lf aj h)/\(∀n aj h,H lf (n+1) (.fn 80) [aj] h=Ic (H lf n) lf aj h)/\(∀n aj h,H lf (n+1) (.fn 34) [aj] h=HN (H lf n) lf aj h)/\(∀n aj ak h,H lf (n+1) (.fn 45) [aj,ak] h=HR (H lf n) lf aj ak h)/\(∀n aj ak h,H lf (n+1) (.fn 43) [aj,ak] h=HQ (H lf n) lf aj ak h)/\(∀n aj h,H lf (n+1) (.fn 95) [aj] h=Io (H lf n) lf aj h)/\(∀n aj ak aD h,H lf (n+1) (.fn 82) [aj,ak,aD] h=Ie (H lf n) lf aj ak aD h)/\(∀n aj ak aD h,H lf (n+1) (.fn 83) [aj,ak,aD] h=Ig (H lf n) lf aj ak aD h)/\(∀n aj ak aD h,H lf (n+1) (.fn 50) [aj,ak,aD] h=HV (H lf n) lf aj ak aD h)/\(∀n aj ak h,H lf (n+1) (.fn 52) [aj,ak] h=HW (H lf n) lf aj ak h)/\(∀n aj ak h,H lf (n+1) (.fn 49) [aj,ak] h=CX (H lf n) lf aj ak h):=
 ⟨λ_ _ _=>c6 Pe (by kernel_rfl) rfl (by kernel_rfl),λ_ _ _=>c6 Pd (by kernel_rfl) rfl (by kernel_rfl),λ_ _ _ _=>c6 O6 (by kernel_rfl) rfl (by kernel_rfl),λ_ _ _ _=>c6 abm (by kernel_rfl) rfl (by kernel_rfl),λ_ _ _=>c6 O2 (by kernel_rfl) rfl (by kernel_rfl),λ_ _ _=>c6 O3 (by kernel_rfl) rfl (by kernel_rfl),λ_ _ _ _=>c6 O5 (by kernel_rfl) rfl (by kernel_rfl),λ_ _ _ _ _ _=>c6 O4 (by kernel_rfl) rfl (by kernel_rfl),λ_ _ _=>c6 abN (by kernel_rfl) rfl (by kernel_rfl),λ_ _ _=>c6 abk (by kernel_rfl) rfl (by kernel_rfl),λ_ _ _=>c6 abl (by kernel_rfl) rfl (by kernel_rfl),λ_ _ _=>c6 abo (by kernel_rfl) rfl (by kernel_rfl),λ_ _ _ _=>c6 abS (by kernel_rfl) rfl (by kernel_rfl),λ_ _ _=>c6 abp (by kernel_rfl) rfl (by kernel_rfl),λ_ _ _=>c6 abr (by kernel_rfl) rfl (by kernel_rfl),λ_ _ _ _=>c6 abq (by kernel_rfl) rfl (by kernel_rfl),λ_ _ _=>c6 abO (by kernel_rfl) rfl (by kernel_rfl),λ_ _ _ _=>c6 abP (by kernel_rfl) rfl (by kernel_rfl),λ_ _ _=>c6 abn (by kernel_rfl) rfl (by kernel_rfl),λ_ _ _=>c6 abQ (by kernel_rfl) rfl (by kernel_rfl),λ_ _ _ _=>c6 abR (by kernel_rfl) rfl (by kernel_rfl),λ_ _ _=>c6 Pf (by kernel_rfl) rfl (by kernel_rfl),λ_ _ _ _=>c6 Pc (by kernel_rfl) rfl (by kernel_rfl),λ_ _ _ _=>c6 Pg (by kernel_rfl) rfl (by kernel_rfl),λ_ _ _ _=>c6 Pj (by kernel_rfl) rfl (by kernel_rfl),λ_ _ _ _=>c6 Pk (by kernel_rfl) rfl (by kernel_rfl),λ_ _ _ _=>c6 O8 (by kernel_rfl) rfl (by kernel_rfl),λ_ _ _ _ _ _=>c6 O9 (by kernel_rfl) rfl (by kernel_rfl),λ_ _ _ _=>c6 ab5 (by kernel_rfl) rfl (by kernel_rfl),λ_ _ _ _ _=>c6 Ph (by kernel_rfl) rfl (by kernel_rfl),λ_ _ _ _ _ _=>c6 Pa (by kernel_rfl) rfl (by kernel_rfl),λ_ _ _ _ _ _=>c6 Pb (by kernel_rfl) rfl (by kernel_rfl),λ_ _ _ _=>c6 ab6 (by kernel_rfl) rfl (by kernel_rfl),λ_ _ _=>c6 ab7 (by kernel_rfl) rfl (by kernel_rfl),λ_ _ _ _ _=>c6 abT (by kernel_rfl) rfl (by kernel_rfl),λ_ _ _ _ _=>c6 abu (by kernel_rfl) rfl (by kernel_rfl),λ_ _ _ _=>c6 ab8 (by kernel_rfl) rfl (by kernel_rfl),λ_ _ _=>c6 abU (by kernel_rfl) rfl (by kernel_rfl),λ_ _ _ _=>c6 abv (by kernel_rfl) rfl (by kernel_rfl),λ_ _ _ _=>c6 abE (by kernel_rfl) rfl (by kernel_rfl),λ_ _ _ _=>c6 ab4 (by kernel_rfl) rfl (by kernel_rfl),λ_ _ _ _=>c6 abG (by kernel_rfl) rfl (by kernel_rfl),λ_ _ _ _ _=>c6 abH (by kernel_rfl) rfl (by kernel_rfl),λ_ _ _ _ _ _=>c6 abJ (by kernel_rfl) rfl (by kernel_rfl),λ_ _ _ _ _ _=>c6 abI (by kernel_rfl) rfl (by kernel_rfl),λ_ _ _ _=>c6 abL (by kernel_rfl) rfl (by kernel_rfl),λ_ _ _ _=>c6 abM (by kernel_rfl) rfl (by kernel_rfl),λ_ _ _ _ _=>c6 abK (by kernel_rfl) rfl (by kernel_rfl),λ_ _ _ _=>aCX abW (by kernel_rfl) rfl (by kernel_rfl),λ_ _ _=>c6 abA (by kernel_rfl) rfl (by kernel_rfl),λ_ _ _=>c6 abz (by kernel_rfl) rfl (by kernel_rfl),λ_ _ _=>c6 abB (by kernel_rfl) rfl (by kernel_rfl),λ_ _ _=>c6 abt (by kernel_rfl) rfl (by kernel_rfl),λ_ _ _ _=>c6 abx (by kernel_rfl) rfl (by kernel_rfl),λ_ _ _ _=>c6 abd (by kernel_rfl) rfl (by kernel_rfl),λ_ _ _=>c6 abh (by kernel_rfl) rfl (by kernel_rfl),λ_ _ _ _ _=>c6 aba (by kernel_rfl) rfl (by kernel_rfl),λ_ _ _ _ _ _=>c6 abc (by kernel_rfl) rfl (by kernel_rfl),λ_ _ _ _=>c6 acf (by kernel_rfl) rfl (by kernel_rfl),λ_ _ _ _ _ _=>c6 abb (by kernel_rfl) rfl (by kernel_rfl),λ_ _ _=>c6 abe (by kernel_rfl) rfl (by kernel_rfl),λ_ _ _ _ _=>c6 abj (by kernel_rfl) rfl (by kernel_rfl),λ_ _ _ _ _=>c6 abf (by kernel_rfl) rfl (by kernel_rfl),λ_ _ _ _ _ _=>c6 ab9 (by kernel_rfl) rfl (by kernel_rfl),λ_ _ _ _ _=>c6 abg (by kernel_rfl) rfl (by kernel_rfl),λ_ _ _ _ _=>c6 acb (by kernel_rfl) rfl (by kernel_rfl),λ_ _ _ _=>c6 abi (by kernel_rfl) rfl (by kernel_rfl),λ_ _ _ _=>c6 aa9 (by kernel_rfl) rfl (by kernel_rfl),λ_ _ _ _ _=>c6 ace (by kernel_rfl) rfl (by kernel_rfl),λ_ _ _ _ _ _=>c6 acd (by kernel_rfl) rfl (by kernel_rfl),λ_ _ _ _ _ _=>c6 ab3 (by kernel_rfl) rfl (by kernel_rfl),λ_ _ _ _=>c6 ab2 (by kernel_rfl) rfl (by kernel_rfl),λ_ _ _ _=>c6 ab1 (by kernel_rfl) rfl (by kernel_rfl),λ_ _ _=>c6 ab0 (by kernel_rfl) rfl (by kernel_rfl),λ_ _ _=>c6 abZ (by kernel_rfl) rfl (by kernel_rfl),λ_ _ _=>c6 abV (by kernel_rfl) rfl (by kernel_rfl),λ_ _ _=>c6 O7 (by kernel_rfl) rfl (by kernel_rfl),λ_ _ _ _=>c6 aby (by kernel_rfl) rfl (by kernel_rfl),λ_ _ _ _=>c6 abw (by kernel_rfl) rfl (by kernel_rfl),λ_ _ _=>c6 aca (by kernel_rfl) rfl (by kernel_rfl),λ_ _ _ _ _=>c6 abX (by kernel_rfl) rfl (by kernel_rfl),λ_ _ _ _ _=>c6 abY (by kernel_rfl) rfl (by kernel_rfl),λ_ _ _ _ _=>c6 abD (by kernel_rfl) rfl (by kernel_rfl),λ_ _ _ _=>c6 abF (by kernel_rfl) rfl (by kernel_rfl),λ_ _ _ _=>c6 abC (by kernel_rfl) rfl (by kernel_rfl)⟩
theorem aCQ(m:Nat):zZ (H bo (m+1)):=by
 unfold zZ;intros;simp only[cW];apply aC6 (C:=H bo (m+0))<;>assumption
theorem w0(m:Nat):sD (H bo (m+1)):=by
 unfold sD;intros;simp only[cW];apply aqw (C:=H bo (m+0))<;>assumption
theorem Lh(m:Nat):xn (H bo (m+2)):=by
 unfold xn;intros;simp only[cW];apply apO (C:=H bo (m+1)) (w0 _)<;>assumption
theorem ahK(m:Nat):B7 (H bo (m+3)):=by
 unfold B7;intros;simp only[cW];apply am7 (C:=H bo (m+2)) (w0 _) (Lh _)<;>assumption
theorem aCe(m:Nat):Mk (H bo (m+1)):=by
 unfold Mk;intros;simp only[cW];apply aqW (C:=H bo (m+0))<;>assumption
theorem aBY(m:Nat):B1 (H bo (m+2)):=by
 unfold B1;intros;simp only[cW];apply ajU (C:=H bo (m+1)) (ik (by omega)) (w0 _) (aCQ _)<;>assumption
theorem aCB(m:Nat):Gz (H bo (m+3)):=by
 unfold Gz;intros;simp only[cW];apply azW (C:=H bo (m+2)) (w0 _) (Lh _)<;>assumption
theorem ah2(m:Nat):Cl (H bo (m+3)):=by
 unfold Cl;intros;simp only[cW];apply aDx (C:=H bo (m+2)) (w0 _) (Lh _)<;>assumption
theorem aCg(m:Nat):Gd (H bo (m+1)):=by
 unfold Gd;intros;simp only[cW];apply arq (C:=H bo (m+0))<;>assumption
theorem aCb(m:Nat):Mh (H bo (m+2)):=by
 unfold Mh;intros;simp only[cW];apply aqg (C:=H bo (m+1)) (ik (by omega)) (w0 _) (aCg _)<;>assumption
theorem aCR(m:Nat):MQ (H bo (m+3)):=by
 unfold MQ;intros;simp only[cW];apply aDj (C:=H bo (m+2)) (ik (by omega)) (w0 _) (Lh _)<;>assumption
theorem aCN(m:Nat):MP (H bo (m+2)):=by
 unfold MP;intros;simp only[cW];apply aCY (C:=H bo (m+1)) (w0 _)<;>assumption
theorem aCm(m:Nat):Mt (H bo (m+1)):=by
 unfold Mt;intros;simp only[cW];apply aAk (C:=H bo (m+0))<;>assumption
theorem ahS(m:Nat):Gp (H bo (m+1)):=by
 unfold Gp;intros;simp only[cW];apply aAl (C:=H bo (m+0)) (ik (by omega))<;>assumption
theorem aCz(m:Nat):Mz (H bo (m+1)):=by
 unfold Mz;intros;simp only[cW];apply aA1 (C:=H bo (m+0)) (ik (by omega))<;>assumption
theorem ahW(m:Nat):zX (H bo (m+1)):=by
 unfold zX;intros;simp only[cW];apply apJ (C:=H bo (m+0)) (ik (by omega))<;>assumption
theorem aCh(m:Nat):Gi (H bo (m+1)):=by
 unfold Gi;intros;simp only[cW];apply azG (C:=H bo (m+0)) (ik (by omega))<;>assumption
theorem aCk(m:Nat):xp (H bo (m+2)):=by
 unfold xp;intros;simp only[cW];apply aAg (C:=H bo (m+1)) (aCm _)<;>assumption
theorem aCp(m:Nat):Mv (H bo (m+1)):=by
 unfold Mv;intros;simp only[cW];apply aAp (C:=H bo (m+0))<;>assumption
theorem aCc(m:Nat):Mi (H bo (m+1)):=by
 unfold Mi;intros;simp only[cW];apply aqj (C:=H bo (m+0)) (ik (by omega))<;>assumption
theorem aCa(m:Nat):Me (H bo (m+1)):=by
 unfold Me;intros;simp only[cW];apply ap6 (C:=H bo (m+0))<;>assumption
theorem wZ(m:Nat):qb (H bo (m+1)):=by
 unfold qb;intros;simp only[cW];apply apN (C:=H bo (m+0))<;>assumption
theorem ahM(m:Nat):zO (H bo (m+2)):=by
 unfold zO;intros;simp only[cW];apply apK (C:=H bo (m+1)) (wZ _)<;>assumption
theorem oY(m:Nat):l3 (H bo (m+3)):=by
 unfold l3;intros;simp only[cW];apply anr (C:=H bo (m+2)) (wZ _) (ahM _)<;>assumption
theorem Fz(m:Nat):sF (H bo (m+1)):=by
 unfold sF;intros;simp only[cW];apply arL (C:=H bo (m+0))<;>assumption
theorem ah0(m:Nat):GI (H bo (m+1)):=by
 unfold GI;intros;simp only[cW];apply aCZ (C:=H bo (m+0))<;>assumption
theorem aCf(m:Nat):Ml (H bo (m+2)):=by
 unfold Ml;intros;simp only[cW];apply aqV (C:=H bo (m+1)) (aCe _)<;>assumption
theorem aBZ(m:Nat):FW (H bo (m+2)):=by
 unfold FW;intros;simp only[cW];apply ajO (C:=H bo (m+1)) (ik (by omega)) (wZ _)<;>assumption
theorem aB1(m:Nat):L1 (H bo (m+4)):=by
 unfold L1;intros;simp only[cW];apply akp (C:=H bo (m+3)) (ik (by omega)) (ahK _)<;>assumption
theorem aB8(m:Nat):F4 (H bo (m+5)):=by
 unfold F4;intros;simp only[cW];apply amT (C:=H bo (m+4)) (ik (by omega)) (Fz _) (aBY _) (aB1 _)<;>assumption
theorem aCM(m:Nat):GH (H bo (m+6)):=by
 unfold GH;intros;simp only[cW];apply aC5 (C:=H bo (m+5)) (ik (by omega)) (oY _) (Fz _) (aB8 _) (ah2 _) (ah0 _)<;>assumption
theorem aCS(m:Nat):GO (H bo (m+4)):=by
 unfold GO;intros;simp only[cW];apply aDv (C:=H bo (m+3)) (oY _)<;>assumption
theorem ahZ(m:Nat):xx (H bo (m+4)):=by
 unfold xx;intros;simp only[cW];apply aC1 (C:=H bo (m+3)) (ik (by omega)) (oY _) (Fz _) (aCB _)<;>assumption
theorem ahV(m:Nat):xu (H bo (m+4)):=by
 unfold xu;intros;simp only[cW];apply azU (C:=H bo (m+3)) (oY _)<;>assumption
theorem aB5(m:Nat):vo (H bo (m+4)):=by
 unfold vo;intros;simp only[cW];apply al9 (C:=H bo (m+3)) (ahK _)<;>assumption
theorem aB7(m:Nat):B5 (H bo (m+1)):=by
 unfold B5;intros;simp only[cW];apply aml (C:=H bo (m+0))<;>assumption
theorem ahJ(m:Nat):FX (H bo (m+5)):=by
 unfold FX;intros;simp only[cW];apply alV (C:=H bo (m+4)) (ik (by omega)) (aB5 _) (Fz _) (aB7 _)<;>assumption
theorem aCP(m:Nat):GK (H bo (m+6)):=by
 unfold GK;intros;simp only[cW];apply aC3 (C:=H bo (m+5)) (oY _) (Fz _) (ahJ _) (ah2 _) (ah0 _)<;>assumption
theorem aCO(m:Nat):GJ (H bo (m+4)):=by
 unfold GJ;intros;simp only[cW];apply aC2 (C:=H bo (m+3)) (oY _)<;>assumption
theorem aBW(m:Nat):zH (H bo (m+1)):=by
 unfold zH;intros;simp only[cW];apply ajI (C:=H bo (m+0)) (ik (by omega))<;>assumption
theorem ahP(m:Nat):Gg (H bo (m+2)):=by
 unfold Gg;intros;simp only[cW];apply arH (C:=H bo (m+1)) (ik (by omega)) (aBW _)<;>assumption
theorem aCK(m:Nat):Ck (H bo (m+4)):=by
 unfold Ck;intros;simp only[cW];apply aBF (C:=H bo (m+3)) (oY _) (ahP _)<;>assumption
theorem ahY(m:Nat):xw (H bo (m+4)):=by
 unfold xw;intros;simp only[cW];apply aC0 (C:=H bo (m+3)) (oY _) (ahP _)<;>assumption
theorem ahL(m:Nat):B8 (H bo (m+6)):=by
 unfold B8;intros;simp only[cW];apply am6 (C:=H bo (m+5)) (ahJ _)<;>assumption
theorem aB3(m:Nat):L4 (H bo (m+2)):=by
 unfold L4;intros;simp only[cW];apply alc (C:=H bo (m+1)) (wZ _)<;>assumption
theorem aCG(m:Nat):GC (H bo (m+4)):=by
 unfold GC;intros;simp only[cW];apply aBj (C:=H bo (m+3)) (oY _)<;>assumption
theorem aCI(m:Nat):GF (H bo (m+4)):=by
 unfold GF;intros;simp only[cW];apply aBm (C:=H bo (m+3)) (oY _)<;>assumption
theorem aCH(m:Nat):GD (H bo (m+4)):=by
 unfold GD;intros;simp only[cW];apply aBl (C:=H bo (m+3)) (oY _)<;>assumption
theorem aB9(m:Nat):F5 (H bo (m+4)):=by
 unfold F5;intros;simp only[cW];apply aoY (C:=H bo (m+3)) (oY _)<;>assumption
theorem aCD(m:Nat):GB (H bo (m+7)):=by
 unfold GB;intros;simp only[cW];apply aAb (C:=H bo (m+6)) (oY _) (ahL _)<;>assumption
theorem aCd(m:Nat):Ga (H bo (m+7)):=by
 unfold Ga;intros;simp only[cW];apply aql (C:=H bo (m+6)) (oY _) (ahL _)<;>assumption
theorem aqf(t:Nat)(y:J):(ji [(t,some y)]).get t=some y:=by
 show(ax.put .nil t y).get t=_;rw[kG,if_pos rfl]
theorem aB6(m:Nat):XH (H bo (m+2)):=by
 intro h0 h T n N wd b now us nd bR eM p A kX;simp only[cW];refine amf (C:=H bo (m+1)) (C':=H bo m) (lf:=bo) (ik (by omega)) (wZ m) (λeM p bR v h y h' L e=>?_) A kX;obtain⟨o,aq,al⟩:=L.ol;refine aAX aq al ?_;rw[<- e,aAR,aqf]
theorem ah1(m:Nat):GL (H bo (m+3)):=by
 unfold GL;intros;simp only[cW];apply aDh (C:=H bo (m+2)) (aB6 m)<;>assumption
theorem ahO(m:Nat):Gc (H bo (m+2)):=by
 unfold Gc;intros;simp only[cW];apply ara (C:=H bo (m+1)) (wZ _)<;>assumption
theorem aCL(m:Nat):ML (H bo (m+4)):=by
 unfold ML;intros;simp only[cW];apply aCW (C:=H bo (m+3)) (wZ _) (aCR _)<;>assumption
theorem aCE(m:Nat):MB (H bo (m+4)):=by
 unfold MB;intros;simp only[cW];apply aAq (C:=H bo (m+3)) (wZ _) (aCN _) (aCb _) (ah1 _)<;>assumption
theorem aCq(m:Nat):Mw (H bo (m+2)):=by
 unfold Mw;intros;simp only[cW];apply aAo (C:=H bo (m+1)) (aCp _)<;>assumption
theorem sl(m:Nat):pe (H bo (m+1)):=by
 unfold pe;intros;simp only[cW];apply aAj (C:=H bo (m+0))<;>assumption
theorem ahN(m:Nat):Ce (H bo (m+1)):=by
 unfold Ce;intros;simp only[cW];apply ap9 (C:=H bo (m+0))<;>assumption
theorem aCt(m:Nat):Gs (H bo (m+2)):=by
 unfold Gs;intros;simp only[cW];apply aAN (C:=H bo (m+1)) (sl _) (ahN _)<;>assumption
theorem aCv(m:Nat):Gu (H bo (m+2)):=by
 unfold Gu;intros;simp only[cW];apply aAP (C:=H bo (m+1)) (sl _)<;>assumption
theorem aCl(m:Nat):Gn (H bo (m+2)):=by
 unfold Gn;intros;simp only[cW];apply aAi (C:=H bo (m+1)) (sl _)<;>assumption
theorem aCu(m:Nat):Gt (H bo (m+2)):=by
 unfold Gt;intros;simp only[cW];apply aAO (C:=H bo (m+1)) (sl _)<;>assumption
theorem WZ(m:Nat):vr (H bo (m+1)):=by
 unfold vr;intros;simp only[cW];apply anw (C:=H bo (m+0))<;>assumption
theorem aCo(m:Nat):Mu (H bo (m+2)):=by
 unfold Mu;intros;simp only[cW];apply aAn (C:=H bo (m+1)) (WZ _)<;>assumption
theorem aCx(m:Nat):Gv (H bo (m+3)):=by
 unfold Gv;intros;simp only[cW];apply aAS (C:=H bo (m+2)) (ik (by omega)) (WZ _) (aCo _) (ahS _) (aCh _)<;>assumption
theorem aCA(m:Nat):Gy (H bo (m+4)):=by
 unfold Gy;intros;simp only[cW];apply aA3 (C:=H bo (m+3)) (ik (by omega)) (sl _) (aCx _)<;>assumption
theorem ahQ(m:Nat):Gl (H bo (m+3)):=by
 unfold Gl;intros;simp only[cW];apply azT (C:=H bo (m+2)) (ik (by omega)) (aCk _)<;>assumption
theorem aCy(m:Nat):Gw (H bo (m+4)):=by
 unfold Gw;intros;simp only[cW];apply aAV (C:=H bo (m+3)) (ik (by omega)) (sl _) (ahQ _)<;>assumption
theorem ahR(m:Nat):Gm (H bo (m+4)):=by
 unfold Gm;intros;simp only[cW];apply aAh (C:=H bo (m+3)) (ahQ _)<;>assumption
theorem aCr(m:Nat):Gr (H bo (m+5)):=by
 unfold Gr;intros;simp only[cW];apply aAL (C:=H bo (m+4)) (sl _) (ahR _)<;>assumption
theorem aCn(m:Nat):Gq (H bo (m+5)):=by
 unfold Gq;intros;simp only[cW];apply aAm (C:=H bo (m+4)) (sl _) (ahR _)<;>assumption
theorem aCi(m:Nat):Gj (H bo (m+2)):=by
 unfold Gj;intros;simp only[cW];apply azF (C:=H bo (m+1)) (ik (by omega)) (ahN _)<;>assumption
theorem ahT(m:Nat):xt (H bo (m+2)):=by
 unfold xt;intros;simp only[cW];apply aAT (C:=H bo (m+1)) (ik (by omega)) (sl _)<;>assumption
theorem W0(m:Nat):vv (H bo (m+2)):=by
 unfold vv;intros;simp only[cW];apply aAG (C:=H bo (m+1)) (ik (by omega)) (sl _) (WZ _)<;>assumption
theorem aCw(m:Nat):Cj (H bo (m+3)):=by
 unfold Cj;intros;simp only[cW];apply aAQ (C:=H bo (m+2)) (sl _) (W0 _)<;>assumption
theorem aCj(m:Nat):Mr (H bo (m+2)):=by
 unfold Mr;intros;simp only[cW];apply azS (C:=H bo (m+1)) (aCz _)<;>assumption
theorem ahU(m:Nat):Gx (H bo (m+1)):=by
 unfold Gx;intros;simp only[cW];apply aA0 (C:=H bo (m+0)) (ik (by omega))<;>assumption
theorem aCs(m:Nat):Mx (H bo (m+2)):=by
 unfold Mx;intros;simp only[cW];apply aAM (C:=H bo (m+1)) (ahS _) (ahU _)<;>assumption
theorem Li(m:Nat):vt (H bo (m+1)):=by
 unfold vt;intros;simp only[cW];apply arb (C:=H bo (m+0))<;>assumption
theorem aCF(m:Nat):MC (H bo (m+5)):=by
 unfold MC;intros;simp only[cW];apply aAr (C:=H bo (m+4)) (aCE _) (aCs _)<;>assumption
theorem ahX(m:Nat):zY (H bo (m+1)):=by
 unfold zY;intros;simp only[cW];apply aBd (C:=H bo (m+0))<;>assumption
theorem aCJ(m:Nat):MJ (H bo (m+1)):=by
 unfold MJ;intros;simp only[cW];apply aBy (C:=H bo (m+0)) (ik (by omega))<;>assumption
theorem aB2(m:Nat):L2 (H bo (m+7)):=by
 unfold L2;intros;simp only[cW];apply akU (C:=H bo (m+6)) (aCc _) (aCa _) (aCJ _) (Li _) (ahX _) (ahW _) (aCS _) (aCM _) (aCA _) (ahV _) (ahZ _) (ahT _) (aCO _) (aCP _) (aCy _) (ahY _) (W0 _)<;>assumption
theorem aB0(m:Nat):LZ (H bo (m+8)):=by
 unfold LZ;intros;simp only[cW];apply akl (C:=H bo (m+7)) (Li _) (aBZ _) (aCi _) (aCd _) (aCn _) (aB9 _) (aCl _) (aCD _) (aCr _) (aCG _) (aCt _) (aCH _) (aCu _) (aCI _) (aCv _) (aB3 _) (ahO _)<;>assumption
theorem aB4(m:Nat):zI (H bo (m+9)):=by
 unfold zI;intros;simp only[cW];apply al7 (C:=H bo (m+8)) (aB2 _) (aB0 _)<;>assumption
theorem aBX(m:Nat):FV (H bo (m+6)):=by
 unfold FV;intros;simp only[cW];apply ajK (C:=H bo (m+5)) (ik (by omega)) (aCF _) (ah1 _) (ahU _) (aCL _) (aCj _) (ahO _) (aCK _) (aCw _) (ahY _) (W0 _) (Li _) (ahW _) (ahM _) (ahV _) (ahZ _) (ahT _) (ahX _)<;>assumption
theorem aCC(m:Nat):GA (H bo (m+3)):=by
 unfold GA;intros;simp only[cW];apply azZ (C:=H bo (m+2)) (aCq _) (aCf _) (Li _)<;>assumption
theorem aBV{h:U}(aN:mc 0 .u8 zs h=true):hr h:=by
 obtain⟨h1,_,h2⟩:=acJ aN;refine⟨h1,λi hi=>?_⟩;have e:∀i,i<64->zs.getD i 0=((Lib.deBruijn64tab.getD i 0:Nat):Int):=by decide
 rw[h2 i hi,e i hi]
theorem aqy{C:ad}{lf:Nat}{aj ak aD:J}{h:U}:O1.s C lf [aj,ak,aD] h=HE C lf aj ak aD h:=by kernel_rfl
section
variable{w:World}
def XO:Nat:=10
theorem aqx(aN:mc 0 .u8 zs (ht w)=true){n m:Int}(aO:IntKind.i64.min<=n/\n<=IntKind.i64.max)(hm:IntKind.i64.min<=m/\m<=IntKind.i64.max){x:J}{L:List gP}(P:Ch (ht w) x L)(h8:L.length<=140737488355328):
 ∃h',O1.s (sV cons (hB wY bo XO).call) bo [I n,I m,x] (ht w)=some (.ret (.bool true),h'):=by
 have hP:IntKind.i64.min= -9223372036854775808:=rfl;have e0:IntKind.i64.max=9223372036854775807:=rfl
 have IJ:0<(ht w).next:=by
  obtain⟨_,⟨m,hm⟩,_⟩:=acJ aN;exact Qv hm
 have aS:=aCC 7;have a2:=aB4 1;have cr:=aBX 4;simp only[aqy];have gu:140737488355329<=bo:=ik (n:=140737488355329) (by omega);refine aAY (lf:=bo) (C:=sV cons (hB wY bo 10).call) gu (am9 w) IJ (aBV aN) ?_ ?_ ?_ (λh F=>alB ?_) ⟨by omega,by omega⟩ ⟨by omega,by omega⟩ P h8
 ·unfold GA at *;simpa only[Np (f:=49) rfl] using aS
 ·unfold zI at *;simpa only[Np (f:=50) rfl] using a2
 ·unfold FV at *;simpa only[Np (f:=52) rfl] using cr
 ·rw[an5 F.aK (F.same _ IJ (λe=>e))];exact aN
end
end Go.Proofs.YtomialandfplkaaDoor.Eva
