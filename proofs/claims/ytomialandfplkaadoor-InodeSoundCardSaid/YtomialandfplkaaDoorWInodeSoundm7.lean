import Derived.Test.YtomialandfplkaaDoorCards
import Derived.Test.YtomialandfplkaaDoorTie
import Derived.WalkKit
import Derived.ProofKit
import Derived.OpenShut
import Derived.Deep.DeepHandedRow
import Derived.Lib.LaidTab
import Derived.Test.YtomialandfplkaaDoorWInodeSoundm6
import Derived.Test.YtomialandfplkaaDoorWInodeSoundm2
import Derived.Test.YtomialandfplkaaDoorWInodeSoundm5
import Derived.Test.YtomialandfplkaaDoorWInodeSoundm4
import Derived.Test.YtomialandfplkaaDoorWInodeSoundm3
set_option linter.unusedSimpArgs false
set_option linter.unusedVariables false
set_option maxRecDepth 100000
set_option maxHeartbeats 400000
namespace Go.Proofs.YtomialandfplkaaDoor.Eva
open Go.Xe
section
variable{h h1 h2:U}{T:dU}{R:ez}{n N:Nat}{a a':lr}{i:Nat}{ino:Int}
theorem mX.row{nd rd:Nat->Nat->J}(H:mX N nd rd)(i:Nat)(g:Nat->J):mX N (ie nd i g) (ie rd (i+1) g):=λi' c hi ae=>by
 by_cases e:i'=i
 ·rw[e,oY,oY]
 ·rw[oX _ _ _ (by omega),oX _ _ _ e];exact H i' c hi ae
theorem adE{nd:Nat->Nat->J}(H:∀i,i<N->lC (nd i))(i:Nat){g:Nat->J}(bd:lC g):∀i',i'<N->lC (ie nd i g i'):=λi' hi=>by
 by_cases e:i'=i
 ·subst e
  have:ie nd i' g i'=g:=funext λc=>oY ..
  rw[this];exact bd
 ·have:ie nd i g i'=nd i':=funext λc=>oX _ _ _ e
  rw[this];exact H i' hi
theorem adC:lC fr:=⟨⟨0,rfl,by omega,by omega⟩,⟨0,rfl,by omega⟩,λc h1 _=>⟨0,if_neg (by omega)⟩⟩
theorem apN{v uid gid mo now:Int}:lC (mc v uid gid mo now):=by
 refine⟨⟨0,rfl,by omega,by omega⟩,⟨0,rfl,by omega⟩,λc h1 _=>?_⟩;unfold mc;rw[if_neg (by omega)];split
 ·exact⟨_,rfl⟩
 ·split
  ·exact⟨_,rfl⟩
  ·split
   ·exact⟨_,rfl⟩
   ·split
    ·exact⟨_,rfl⟩
    ·split
     ·exact⟨_,rfl⟩
     ·exact⟨_,rfl⟩
theorem dc.row{rd:Nat->Nat->J}{bl:Nat->Nat->Nat}(M:dc N rd bl){g:Nat->J}(bd:∀c,12<=c->c<308->g c=I 0)(h0:∀c,12<=c->c<308->bl i c=0):dc N (ie rd (i+1) g) bl:=λi' c cA dB ae=>by
 by_cases e:i'=i
 ·obtain⟨bQ,cn⟩:=I3 dB ae;rw[e,oY,bd c dB ae,h0 _ bQ cn];rfl
 ·rw[oX _ _ _ (by omega)];exact M i' c cA dB ae
theorem apB{v uid gid mo now:Int}{c:Nat}(h:12<=c):mc v uid gid mo now c=I 0:=by
 unfold mc;rw[if_neg (by omega),if_neg (by omega),if_neg (by omega),if_neg (by omega),if_neg (by omega),if_neg (by omega)]
theorem ayq{C:ad}(P:FF C)(Q:F0 C)(r:Rel h T R n N a){mo uid gid:Int}(cd: -9223372036854775808<=mo)(c1:mo<9223372036854775808):
 ∃v e h1 h2 a',C (.fn 37) [.ptr T.a9 0,I mo,I uid,I gid] h=some (.ret (.bo [I v,I e]),h1)/\C (.fn 97) [.ptr R.rt 0,I mo,I uid,I gid] h1=some (.ret (.bo [I v,I e]),h2)/\l2 h h1 h2 T R n N a a':=by
 obtain⟨bQ,cn,fl⟩:=P h T n N a.s.wd a.s.b a.now a.us a.s.nd mo uid gid r.A;obtain⟨ei,fJ,_⟩:=Q h R n N _ a.q a.b2 a.now a.us a.rd mo uid gid r.B cd c1;by_cases ag:lI mo uid gid
 ·exact⟨0,22,h,h,a,bQ ag,ei ag,r.refl⟩
 ·by_cases gq:∀j,j<N->a.us j=true
  ·exact⟨0,28,h,h,a,cn ag gq,fJ ag gq,r.refl⟩
  ·obtain⟨i,hi,hu,vH⟩:∃i,i<N/\a.us i=false/\∀j,j<i->a.us j=true:=by
    cases aJ:oM N a.us with
    |none=>exact absurd (Qw aJ) gq
    |some j=>exact⟨j,Qx aJ⟩
   obtain⟨h1,aQ,b7,cI,aL⟩:=fl ag i hi hu vH;have fQ:aN h h1 (gw T):=aL.eb λ_ e=> .inr (.inr (.inr e))
   obtain⟨h2,a3,fa,cF,bF⟩:=(Q h1 R n N _ a.q a.b2 a.now a.us a.rd mo uid gid (r.bR fQ) cd c1).2.2 ag i hi hu vH;have a1:=r.jB.Z i hi hu;have aO:∀c,12<=c->c<308->mc ((i+1:Nat):Int) uid gid mo a.now c=I 0:=λc h1 _=>apB h1
   refine⟨_,0,h1,h2,⟨⟨a.s.wd,a.s.b,ie a.s.nd i (mc ((i+1:Nat):Int) uid gid mo a.now),a.s.bl⟩,a.now,c3 a.us i true,a.q,a.b2,ie a.rd (i+1) (mc ((i+1:Nat):Int) uid gid mo a.now)⟩,aQ,a3,r.next fQ (bF.eb λ_ e=> .inr (.inr (.inr (.inl e)))) b7 (r.M.row aO a1) fa (r.gU.row aO a1) r.jy (r.lo.row i _) (adE r.hM i apN) ⟨r.jB.S,λi' cA gK=>?_,r.jB.O⟩ r.r7 λ_ _ e=> .inl e⟩;by_cases e:i'=i
   ·rw[e];exact a1
   ·have gK:c3 a.us i true i'=false:=gK;rw[ig _ _ e] at gK;exact r.jB.Z i' cA gK
theorem afA{yL jr eQ cr:Nat->Nat->J}{c6:Nat->Nat}{eD KV:Nat->Bool}{bl' GB:Nat->Nat->Nat}{di:Nat->Bool}{L H:Int}(r:Rel h T R n N a)(aL:aN h h1 (gw T))(bF:aN h1 h2 (jq R a.q))(lo:mX N yL jr)(hM:∀i,i<N->lC (yL i))
 (b7:bx h1 T n N c6 a.s.b a.now eD eQ)(hO:cR n N c6 eQ bl')(G:zu i L H a.s.wd c6 a.us eD yL eQ a.s.bl bl')(fa:bP h2 R n N di a.q a.b2 a.now KV cr)(M2:dc N cr GB)(K:xa i L H (bU a.s.wd) di a.us KV jr cr a.s.bl GB):
 ∃a',l2 h h1 h2 T R n N a a':=by
 rcases G with⟨g1,rfl,rfl,rfl,rfl⟩|⟨g1,g2,rfl,rfl,rfl,g3⟩
 ·rcases K with⟨_,rfl,rfl,rfl,rfl⟩|⟨k1,k2,_⟩
  ·exact⟨⟨⟨a.s.wd,a.s.b,eQ,a.s.bl⟩,a.now,a.us,a.q,a.b2,cr⟩,r.next aL bF b7 hO fa M2 r.jy lo hM ⟨r.jB.S,r.jB.Z,r.jB.O⟩ r.r7 λ_ _ e=> .inl e⟩
  ·exact absurd k1 (by omega)
 ·rcases K with⟨k1,_⟩|⟨_,_,rfl,gN,rfl,oL⟩
  ·exact absurd k1 (by omega)
  ·have Na:di=bU c6:=funext λj=>Bool.eq_iff_iff.2 ((oL j).trans (g3 j).symm)
   rw[Na] at fa
   have iE:mX N (ie yL i fr) cr:=λi' c hi ae=>by
    rw[gN _ _ ae];exact lo.row i fr i' c hi ae
   refine⟨⟨⟨c6,a.s.b,ie yL i fr,m1 a.s.bl i⟩,a.now,c3 a.us i false,a.q,a.b2,cr⟩,r.next aL bF b7 hO fa M2 (λp aA=>r.jy p ((g3 _).1 aA).1) iE (adE hM i adC) (al8 g3 r.jB) r.r7 λ_ _ e=> .inl e⟩
theorem ayv{C:ad}(P:Gi C)(Q:F7 C)(r:Rel h T R n N a)(cd: -9223372036854775808<=ino)(c1:ino<9223372036854775808):
 ∃e h1 h2 a',C (.fn 61) [.ptr T.a9 0,I ino] h=some (.ret (I e),h1)/\C (.fn 100) [.ptr R.rt 0,I ino] h1=some (.ret (I e),h2)/\l2 h h1 h2 T R n N a a':=by
 obtain⟨bQ,cn⟩:=P h T n N a.s.wd a.s.b a.now a.us a.s.nd a.s.bl ino r.A r.M cd c1;cases ag:db N a.us ino with
 |false=>exact⟨2,h,h,a,bQ ag,(Q h R n N _ a.q a.b2 a.now a.us a.rd a.s.bl ino r.B r.gU r.M.nC).1 ag,r.refl⟩
 |true=>
  obtain⟨i,b6⟩:=tg ag;obtain⟨H,iy⟩:=(r.hM i b6.1).i 11 (by omega) (by omega);obtain⟨L,hS,_⟩:=(r.hM i b6.1).l;have C5:a.rd (i+1) 11=I H:=by rw[r.lo i 11 b6.1 (by omega)];exact iy
  have C6:a.rd (i+1) 2=I L:=by rw[r.lo i 2 b6.1 (by omega)];exact hS
  have a1:=(r.jB.S i b6.1).On;obtain⟨fl,nj⟩:=cn i L H b6.1 b6.2.1 b6.2.2 hS iy;by_cases he:H=0
  ·exact⟨22,h,h,a,fl he,((Q h R n N _ a.q a.b2 a.now a.us a.rd a.s.bl ino r.B r.gU r.M.nC).2 i L H b6 a1 C6 C5).1 he,r.refl⟩
  ·obtain⟨h1,c6,eD,eQ,bl',aQ,b7,hO,sm,aL⟩:=nj he;have fQ:aN h h1 (gw T):=aL.eb λ_ e=>e.elim (λe=> .inr (.inl e)) λe=> .inr (.inr (.inr e))
   obtain⟨h2,di,KV,cr,GB,a3,fa,M2,mV,bF⟩:=((Q h1 R n N _ a.q a.b2 a.now a.us a.rd a.s.bl ino (r.bR fQ) r.gU r.M.nC).2 i L H b6 a1 C6 C5).2 he;obtain⟨a',st⟩:=afA r fQ (bF.eb λ_ e=>e.elim (λe=> .inr (.inl e)) λe=> .inr (.inr (.inr (.inl e)))) (r.lo.c3 i 11 _) (mf r.hM i (by omega) (by omega) _) b7 hO sm fa M2 mV;exact⟨0,h1,h2,a',aQ,a3,st⟩
theorem ays{C:ad}(P:FT C)(Q:F5 C)(r:Rel h T R n N a){by_:Int}(cd: -9223372036854775808<=ino)(c1:ino<9223372036854775808):
 ∃e h1 h2 a',C (.fn 59) [.ptr T.a9 0,I ino,I by_] h=some (.ret (I e),h1)/\C (.fn 98) [.ptr R.rt 0,I ino,I by_] h1=some (.ret (I e),h2)/\l2 h h1 h2 T R n N a a':=by
 obtain⟨bQ,cn⟩:=P h T n N a.s.wd a.s.b a.now a.us a.s.nd a.s.bl ino by_ r.A r.M cd c1;cases ag:db N a.us ino with
 |false=>exact⟨2,h,h,a,bQ ag,(Q h R n N _ a.q a.b2 a.now a.us a.rd a.s.bl ino by_ r.B r.gU r.M.nC).1 ag,r.refl⟩
 |true=>
  obtain⟨i,b6⟩:=tg ag;obtain⟨H,iy⟩:=(r.hM i b6.1).i 11 (by omega) (by omega);obtain⟨L,hS,LL,lA⟩:=(r.hM i b6.1).l;have C5:a.rd (i+1) 11=I H:=by rw[r.lo i 11 b6.1 (by omega)];exact iy
  have C6:a.rd (i+1) 2=I L:=by rw[r.lo i 2 b6.1 (by omega)];exact hS
  have a1:=(r.jB.S i b6.1).On;obtain⟨fl,nj,yP⟩:=cn i L H b6.1 b6.2.1 b6.2.2 hS LL lA iy;obtain⟨oO,Bf,_⟩:=(Q h R n N _ a.q a.b2 a.now a.us a.rd a.s.bl ino by_ r.B r.gU r.M.nC).2 i L H b6 a1 C6 LL lA C5;by_cases he:by_ < -L
  ·exact⟨22,h,h,a,fl he,oO he,r.refl⟩
  ·by_cases xW:16-L<by_
   ·exact⟨31,h,h,a,nj xW,Bf xW,r.refl⟩
   ·obtain⟨h1,c6,eD,eQ,bl',aQ,b7,hO,sm,aL⟩:=yP (by omega) (by omega);have fQ:aN h h1 (gw T):=aL.eb λ_ e=>e.elim (λe=> .inr (.inl e)) λe=> .inr (.inr (.inr e))
    obtain⟨h2,di,KV,cr,GB,a3,fa,M2,mV,bF⟩:=((Q h1 R n N _ a.q a.b2 a.now a.us a.rd a.s.bl ino by_ (r.bR fQ) r.gU r.M.nC).2 i L H b6 a1 C6 LL lA C5).2.2 (by omega) (by omega);obtain⟨a',st⟩:=afA r fQ (bF.eb λ_ e=>e.elim (λe=> .inr (.inl e)) λe=> .inr (.inr (.inr (.inl e)))) ((r.lo.c3 i 2 _).c3 i 10 _) (mf (apO r.hM i (v:=L+by_) (by omega) (by omega)) i (by omega) (by omega) _) b7 hO sm fa M2 mV;exact⟨0,h1,h2,a',aQ,a3,st⟩
theorem adD{nd:Nat->Nat->J}(H:∀i,i<N->lC (nd i))(i:Nat){v:Nat}(h1:v<=17792)(now:Int):∀i',i'<N->lC (grown nd i v now i'):=
 mf (mf (apP H i h1) i (by omega) (by omega) now) i (by omega) (by omega) now
theorem mX.grown{nd rd:Nat->Nat->J}(H:mX N nd rd)(i v:Nat)(now:Int):mX N (Eva.grown nd i v now) (Eva.grown rd (i+1) v now):=((H.c3 i 5 _).c3 i 9 _).c3 i 10 _
theorem dc.grown{rd:Nat->Nat->J}{bl:Nat->Nat->Nat}(M:dc N rd bl)(i v:Nat)(now:Int):dc N (Eva.grown rd i v now) bl:=((M.off (by omega)).off (by omega)).off (by omega)
theorem iK.tail{on di:Nat->Bool}{b b':Nat->Nat}(h:iK on b b')(aq:∀j,di j=true->on j=true)(bl:Nat->Nat->Nat)(i sz:Nat):iK di (lY b bl i sz) (lY b' bl i sz):=by
 have h':iK di b b':=λp aA=>h p (aq _ aA)
 unfold lY;split
 ·exact h'.over _ _
 ·exact h'
theorem Ys{bl:Nat->Nat->Nat}{i k c:Nat}(h:gn bl i k c):12<=c:=by
 rcases h with⟨j,_,_,e⟩|⟨e,_⟩|⟨j,_,e,_⟩|⟨e,_⟩
 ·rw[e];exact qT
 ·omega
 ·omega
 ·omega
def Gr(C:ad):Prop:=∀h T n N wd b now us nd (ino sz:Int),bx h T n N wd b now us nd-> -9223372036854775808<=ino->ino<9223372036854775808->db N us ino=false->C (.fn 40) [.ptr T.a9 0,I ino,I sz] h=some (.ret (I 2),h)
theorem ayz{C:ad}(fo:Gr C)(P:Gs C)(Q:Gd C)(r:Rel h T R n N a){sz:Int}(cd: -9223372036854775808<=ino)(c1:ino<9223372036854775808)(hC: -9223372036854775808<=sz)(e6:sz<9223372036854775808):
 ∃e h1 h2 a',C (.fn 40) [.ptr T.a9 0,I ino,I sz] h=some (.ret (I e),h1)/\C (.fn 96) [.ptr R.rt 0,I ino,I sz] h1=some (.ret (I e),h2)/\l2 h h1 h2 T R n N a a':=by
 cases ag:db N a.us ino with
 |false=>exact⟨2,h,h,a,fo h T n N a.s.wd a.s.b a.now a.us a.s.nd ino sz r.A cd c1 ag,(Q h R n N _ a.q a.b2 a.now a.us a.rd a.s.bl ino sz r.B r.gU r.M.nC hC e6).1 ag,r.refl⟩
 |true=>
  obtain⟨i,b6⟩:=tg ag;have a1:=(r.jB.S i b6.1).On;have Dl:=b6.2.2;subst Dl;obtain⟨bQ,cn,fl⟩:=P h T n N a.now a.us a.s i sz r.A r.M b6.1 b6.2.1 hC e6;obtain⟨ei,fJ,_⟩:=(Q h R n N _ a.q a.b2 a.now a.us a.rd a.s.bl _ sz r.B r.gU r.M.nC hC e6).2 i b6 a1;by_cases he:sz<0
  ·exact⟨22,h,h,a,bQ he,ei he,r.refl⟩
  ·by_cases xW:17792<sz
   ·exact⟨27,h,h,a,cn xW,fJ xW,r.refl⟩
   ·obtain⟨h1,e7,aQ,b7,hO,aL,wW⟩:=fl (by omega) (by omega);have fQ:aN h h1 (gw T):=aL.eb λ_ e=> .inr e
    obtain⟨h2,di,cr,a3,B4⟩:=((Q h1 R n N _ a.q a.b2 a.now a.us a.rd a.s.bl _ sz (r.bR fQ) r.gU r.M.nC hC e6).2 i b6 a1).2.2 (by omega) (by omega);have Na:di=bU e7.wd:=funext λj=>Bool.eq_iff_iff.2 ((B4.O j).trans (wW.on j).symm)
    have fa:=B4.A;rw[Na] at fa
    have u9:aN h1 h2 (jq R a.q):=B4.F.eb λ_ e=>by
     rcases e with e|e|e
     ·exact .inr (.inl e)
     ·exact .inr (.inr (.inr (.inl e)))
     ·exact .inr (.inr (.inr (.inr e)))
    have Mj:=akw wW b6.2.1 r.jB;have M2:=B4.M;rw[<- wW.bl] at M2 fa
    have iE:mX N e7.nd cr:=λi' c hi ae=>by
     rw[B4.L _ _ ae,r.lo i' c hi ae,wW.nd,GJ λx=>by have:=Ys x.2;omega]
    have IV:∀i',i'<N->lC (e7.nd i'):=λi' hi=>by
     have e:∀c,c<12->e7.nd i' c=a.s.nd i' c:=λc ae=>by rw[wW.nd,GJ λx=>by have:=Ys x.2;omega]
     obtain⟨l,z,k⟩:=r.hM i' hi;exact⟨by rw[e 2 (by omega)];exact l,by rw[e 5 (by omega)];exact z,λc k1 k2=>by rw[e c k2];exact k c k1 k2⟩
    refine⟨0,h1,h2,⟨⟨e7.wd,e7.b,Eva.grown e7.nd i sz.toNat a.now,e7.bl⟩,a.now,a.us,a.q,lY a.b2 e7.bl i sz.toNat,Eva.grown cr (i+1) sz.toNat a.now⟩,aQ,a3,r.next fQ u9 b7 hO fa (M2.grown _ _ _) ?_ (iE.grown i _ _) (adD IV i (by omega) _) ⟨Mj.S,Mj.Z,Mj.O⟩ r.r7 λ_ _ e=> .inl e⟩;show iK (bU e7.wd) e7.b (lY a.b2 e7.bl i sz.toNat);rw[wW.b];exact r.jy.tail (λj aa=>((wW.on j).1 aa).1) _ _ _
end
section
variable{lf:Nat}{h h1 h2:U}{T:dU}{R:ez}{n N:Nat}{a a':lr}{i:Nat}{ino:Int}
def Ge(C:ad):Prop:=∀h R n N now us s q b2 rd (ino off:Int) x l,pg n N s->bP h R n N (bU s.wd) q b2 now us rd->dc N rd s.bl->iK (bU s.wd) s.b b2->Bytes h x l->l.length<=140737488351232->(∀j,rowOf x=some j->j<h.next/\¬sa R n q j/\∀u,q u≠some j)->
 (db N us ino=false->C (.fn 94) [.ptr R.rt 0,I ino,I off,x] h=some (.ret (.bo [I 0,I 2]),h))/\
 (∀i (sz:Nat),jg N us ino i->rd (i+1) 5=I (sz:Int)->(off<0->C (.fn 94) [.ptr R.rt 0,I ino,I off,x] h=some (.ret (.bo [I 0,I 22]),h))/\
   (0<=off->l=[]->C (.fn 94) [.ptr R.rt 0,I ino,I off,x] h=some (.ret (.bo [I 0,I 0]),h))/\
   (l≠[]->17792<=off->C (.fn 94) [.ptr R.rt 0,I ino,I off,x] h=some (.ret (.bo [I 0,I 27]),h))/\
   (l≠[]->0<=off->off<17792->∃h',C (.fn 94) [.ptr R.rt 0,I ino,I off,x] h=some (.ret (.bo [I ((dT n i off.toNat l s).2:Int),I (if(dT n i off.toNat l s).2=0 then 28 else 0)]),h')/\
     W8 h h' R n N now us i (dT n i off.toNat l s) sz off.toNat rd q))
def Gv(C:ad):Prop:=∀h T n N wd b now us nd (ino off:Int) x,bx h T n N wd b now us nd-> -9223372036854775808<=ino->ino<9223372036854775808->db N us ino=false->C (.fn 38) [.ptr T.a9 0,I ino,I off,x] h=some (.ret (.bo [I 0,I 2]),h)
def Gf(C:ad):Prop:=∀h T n N wd b now us nd (ino off m:Int),bx h T n N wd b now us nd-> -9223372036854775808<=ino->ino<9223372036854775808->db N us ino=false->C (.fn 41) [.ptr T.a9 0,I ino,I off,I m] h=some (.ret (.bo [.val (.slice none 0 0),I 2]),h)
def wB(n:Nat)(q:Nat->Option Nat)(u:Nat):Option Nat:=if u<n then q u else none
theorem afq{q:Nat->Option Nat}{u k:Nat}(h:wB n q u=some k):u<n/\q u=some k:=by
 unfold wB at h;by_cases e:u<n
 ·rw[if_pos e] at h;exact⟨e,h⟩
 ·rw[if_neg e] at h;cases h
theorem bP.afr{on:Nat->Bool}{q:Nat->Option Nat}{b:Nat->Nat}{now:Int}{us:Nat->Bool}{rd:Nat->Nat->J}(A:bP h R n N on q b now us rd):bP h R n N on (wB n q) b now us rd:=by
 obtain⟨x0,x1,c0,aQ,V⟩:=A.ref.v;have aZ:∀i,i<n->wB n q i=q i:=λi hi=>if_pos hi
 refine⟨A.o9,A.hW,⟨⟨x0,x1,c0,aQ,⟨V.cI,V.cF,V.aB,V.az,V.uS,V.BF,V.vu,λi hi e=>V.off i hi (by rw[<- aZ i hi];exact e),λi k hi e=>V.has i k hi (by rw[<- aZ i hi];exact e),λi j k hi aa e bh=>V.inj i j k hi aa (by rw[<- aZ i hi];exact e) (by rw[<- aZ j aa];exact bh),V.ne,V.uC,V.tl,V.blt⟩⟩,
  A.ref.wr,A.ref.tq,A.ref.pL,λi k hi e=>A.ref.qP i k hi (by rw[<- aZ i hi];exact e),A.ref.lt⟩,A.a3,A.cl,A.ct,A.wt,A.wl,A.kX,A.mR,A.d1,A.d2,A.d3,λi k hi e=>A.d4 i k hi (by rw[<- aZ i hi];exact e),A.hB⟩
theorem ayA{C:ad}(LW:Gv C)(P:Gp C)(Q:Ge C)(r:Rel h T R n N a){off:Int}{x1 x2:J}{l:List Nat}(cd: -9223372036854775808<=ino)(c1:ino<9223372036854775808)(dH: -9223372036854775808<=off)(dn:off<9223372036854775808)
 (jN:Bytes h x1 l)(xT:mn x1)(rR:∀j,rowOf x1=some j->j<h.next/\¬gw T j)(kE:l.length<=140737488351232)(fa:Bytes h x2 l)(vV:∀j,rowOf x2=some j->j<h.next/\¬gw T j/\¬jq R a.q j):
 ∃v e h1 h2 a',C (.fn 38) [.ptr T.a9 0,I ino,I off,x1] h=some (.ret (.bo [I v,I e]),h1)/\C (.fn 94) [.ptr R.rt 0,I ino,I off,x2] h1=some (.ret (.bo [I v,I e]),h2)/\l2 h h1 h2 T R n N a a':=by
 have qy:∀h':U,h.next<=h'.next->∀j,rowOf x2=some j->j<h'.next/\¬sa R n a.q j/\∀u,a.q u≠some j:=λh' aO j aa=>
  ⟨Nat.lt_of_lt_of_le (vV j aa).1 aO,λe=>(vV j aa).2.2 (VC e),λu e=>(vV j aa).2.2 (.inr (.inr (.inr (.inr ⟨u,e⟩))))⟩
 cases ag:db N a.us ino with
 |false=>exact⟨0,2,h,h,a,LW h T n N a.s.wd a.s.b a.now a.us a.s.nd ino off x1 r.A cd c1 ag,(Q h R n N a.now a.us a.s a.q a.b2 a.rd ino off x2 l r.zf r.B r.gU r.jy fa kE (qy h (Nat.le_refl _))).1 ag,r.refl⟩
 |true=>
  obtain⟨i,b6⟩:=tg ag;have hi:=b6.1;obtain⟨sz,dV,td⟩:=(r.hM i hi).z;have yl:a.rd (i+1) 5=I (sz:Int):=by rw[r.lo i 5 hi (by omega)];exact dV
  have Dl:=b6.2.2;subst Dl
  have nN:Ca T x1:=λj aa=>by
   have:=(rR j aa).2
   exact⟨λe=>this (.inl e),λe=>this (.inr (.inl e)),λe=>this (.inr (.inr (.inl e))),λe=>this (.inr (.inr (.inr e)))⟩
  obtain⟨bQ,cn,fl,nj⟩:=P h T n N a.now a.us a.s i off x1 l sz r.A r.M r.jC r.O hi b6.2.1 dV td jN xT nN (λj aa=>(rR j aa).1) kE dH dn;obtain⟨ei,fJ,oO,_⟩:=(Q h R n N a.now a.us a.s a.q a.b2 a.rd _ off x2 l r.zf r.B r.gU r.jy fa kE (qy h (Nat.le_refl _))).2 i sz b6 yl;by_cases az:off<0
  ·exact⟨0,22,h,h,a,bQ az,ei az,r.refl⟩
  ·by_cases aw:l=[]
   ·exact⟨0,0,h,h,a,cn (by omega) aw,fJ (by omega) aw,r.refl⟩
   ·by_cases ch:17792<=off
    ·exact⟨0,27,h,h,a,fl aw ch,oO aw ch,r.refl⟩
    ·obtain⟨h1,aL,_,zo,tK⟩:=nj aw (by omega) (by omega);have fQ:aN h h1 (gw T):=aL.eb λ_ e=> .inr e
     have Ls:Bytes h1 x2 l:=fa.frame λbM ob len cap lo e=>fQ.same bM (vV bM (by rw[e];rfl)).1 (vV bM (by rw[e];rfl)).2.1
     obtain⟨h2,a3,cr,hn,nA,p3,M2,mV,W1,aZ,bF⟩:=((Q h1 R n N a.now a.us a.s a.q a.b2 a.rd _ off x2 l r.zf (r.bR fQ) r.gU r.jy Ls kE (qy h1 aL.next)).2 i sz b6 yl).2.2.2 aw (by omega) (by omega);have u9:aN h1 h2 (jq R a.q):=bF.eb λ_ e=> .inr e
     obtain⟨o,rfl⟩:∃o:Nat,off=o:=⟨off.toNat,by omega⟩;rw[Int.toNat_natCast] at *
     have ft:o+(ew o l).length<=17792:=by
      have:(ew o l).length<=17792-o:=by simp[ew];omega
      omega
     have Ii:∀i' c,i'<N->c<12->(dT n i o l a.s).1.nd i' c=a.s.nd i' c:=λi' c cA ae=>
      (Fv (n:=n) (N:=N) (i:=i) (off:=o) (l:=ew o l) ft (i':=i') (c:=c) hi ae (ew o l).length 0 a.s (by omega) r.zf).1
     have an7:(dT n i o l a.s).2<=(ew o l).length:=(Fv (n:=n) (N:=N) (i:=i) (off:=o) (l:=ew o l) ft (i':=i) (c:=0) hi (by omega) (ew o l).length 0 a.s (by omega) r.zf).2.2.1;have H4:ri N a.us (dT n i o l a.s).1:=ag8 ft hi b6.2.1 (ew o l).length 0 a.s (by omega) r.zf r.jB;generalize dT n i o l a.s=w at *;have iE:mX N w.1.nd cr:=λi' c cA ae=>by rw[W1 _ _ ae,Ii i' c cA ae];exact r.lo i' c cA ae
     have IV:∀i',i'<N->lC (w.1.nd i'):=λi' cA=>by
      obtain⟨l,z,k⟩:=r.hM i' cA;exact⟨by rw[Ii i' 2 cA (by omega)];exact l,by rw[Ii i' 5 cA (by omega)];exact z,λc k1 k2=>by rw[Ii i' c cA k2];exact k c k1 k2⟩
     have oJ:∀u k,wB n hn u=some k->a.q u=some k\/h.next<=k:=λu k e=>(aZ u k (afq e).2).imp id λx=>Nat.le_trans aL.next x
     have vS:∀u k,wB n hn u=some k->u<n:=λu k e=>(afq e).1
     by_cases a1:w.2=0
     ·obtain⟨aQ,b7,hO⟩:=zo a1;rw[if_pos a1] at a3 p3;have aB:((w.2:Nat):Int)=0:=by omega
      rw[aB] at a3;exact⟨0,28,h1,h2,⟨w.1,a.now,a.us,wB n hn,nA,cr⟩,aQ,a3,r.next fQ u9 b7 hO p3.afr M2 mV iE IV H4 vS oJ⟩
     ·obtain⟨aQ,b7,hO⟩:=tK a1;rw[if_neg a1] at a3 p3
      exact⟨_,0,h1,h2,⟨⟨w.1.wd,w.1.b,grown w.1.nd i (max sz (o+w.2)) a.now,w.1.bl⟩,a.now,a.us,wB n hn,nA,grown cr (i+1) (max sz (o+w.2)) a.now⟩,aQ,a3,
       r.next fQ u9 b7 hO p3.afr (M2.grown _ _ _) mV (iE.grown i _ _) (adD IV i (by omega) _) ⟨H4.S,H4.Z,H4.O⟩ vS oJ⟩
def Mg(h:U)(x:J)(m:Nat):Prop:=(x= .val (.slice none 0 0)/\m=0)\/∃k off cap lo M,x= .aY k off m cap lo/\h.wr k M/\off+m<=M
theorem Rel.byte(r:Rel h T R n N a)(hi:i<N){p:Nat}(aA:p<17792):pn a.s.bl a.b2 i p=oi a.s i p:=by
 have ai:p/64<278:=by omega
 unfold pn oi;by_cases e:a.s.bl i (a4 (p/64))=0
 ·rw[if_pos e,if_pos e]
 ·rw[if_neg e,if_neg e];refine(r.jy _ ?_).symm;rw[show((a.s.bl i (a4 (p/64))-1)*64+p%64)/64=a.s.bl i (a4 (p/64))-1 by omega];exact r.M.on i _ hi qT (r6 ai) (by omega)
theorem Rel.cont(r:Rel h T R n N a)(hi:i<N){off m:Nat}(hm:off+m<=17792):nF a.s.bl a.b2 i off m=qe a.s i off m:=by
 unfold nF qe;refine List.map_congr_left λj aa=>r.byte hi ?_
 have:=List.mem_range.1 aa
 omega
theorem ayu{C:ad}(LW:Gf C)(P:Gn C)(Q:Gb C)(r:Rel h T R n N a){off m:Int}(cd: -9223372036854775808<=ino)(c1:ino<9223372036854775808)(dH: -9223372036854775808<=off)(dn:off<9223372036854775808)(hC: -9223372036854775808<=m)(e6:m<9223372036854775808):
 ∃x1 x2 l e h1 h2,C (.fn 41) [.ptr T.a9 0,I ino,I off,I m] h=some (.ret (.bo [x1,I e]),h1)/\C (.fn 88) [.ptr R.rt 0,I ino,I off,I m] h1=some (.ret (.bo [x2,I e]),h2)/\
  Bytes h2 x1 l/\Bytes h2 x2 l/\l.length<=17792/\Mg h2 x1 l.length/\(∀j,rowOf x1=some j->h.next<=j)/\(db N a.us ino=true->0<=off->0<=m->e=0)/\aN h h1 (λ_=>False)/\aN h1 h2 (λ_=>False):=by
 have ye:∀h:U,Bytes h (.val (.slice none 0 0)) []:=λh=>⟨λc ae=>(by cases ae),.inl ⟨.inl rfl,rfl⟩⟩
 cases ag:db N a.us ino with
 |false=>exact⟨_,_,[],2,h,h,LW h T n N a.s.wd a.s.b a.now a.us a.s.nd ino off m r.A cd c1 ag,(Q h R n N _ a.q a.b2 a.now a.us a.rd a.s.bl ino off m r.B r.gU r.M.nC dn e6).1 ag,ye _,ye _,by simp,.inl ⟨rfl,rfl⟩,λj aa=>(by cases aa),λe=>(by cases e),aN.refl _ _,aN.refl _ _⟩
 |true=>
  obtain⟨i,b6⟩:=tg ag;have hi:=b6.1;obtain⟨sz,dV,td⟩:=(r.hM i hi).z;have yl:a.rd (i+1) 5=I (sz:Int):=by rw[r.lo i 5 hi (by omega)];exact dV
  have Dl:=b6.2.2;subst Dl;obtain⟨bQ,cn,fl⟩:=P h T n N a.now a.us a.s i off m sz r.A r.M hi b6.2.1 dV td dH dn hC e6;by_cases az:off<0\/m<0
  ·exact⟨_,_,[],22,h,h,bQ az,((Q h R n N _ a.q a.b2 a.now a.us a.rd a.s.bl _ off m r.B r.gU r.M.nC dn e6).2 i sz b6 yl td).1 az,ye _,ye _,by simp,.inl ⟨rfl,rfl⟩,λj aa=>(by cases aa),λ_ _ _=>by omega,aN.refl _ _,aN.refl _ _⟩
  ·by_cases aw:(sz:Int)<=off
   ·obtain⟨x2,h2,a3,fa,bF⟩:=((Q h R n N _ a.q a.b2 a.now a.us a.rd a.s.bl _ off m r.B r.gU r.M.nC dn e6).2 i sz b6 yl td).2 (by omega) (by omega);have aB:min m.toNat (sz-off.toNat)=0:=by omega
    rw[aB] at fa;exact⟨_,x2,[],0,h,h2,cn (by omega) (by omega) aw,a3,ye _,fa.bytes,by simp,.inl ⟨rfl,rfl⟩,λj aa=>(by cases aa),λ_ _ _=>rfl,aN.refl _ _,bF⟩
   ·obtain⟨h1,aQ,aL,cI,cQ,jN⟩:=fl (by omega) (by omega) (by omega);have fQ:aN h h1 (gw T):=aL.eb λ_ e=>e.elim
    obtain⟨x2,h2,a3,fa,bF⟩:=((Q h1 R n N _ a.q a.b2 a.now a.us a.rd a.s.bl _ off m (r.bR fQ) r.gU r.M.nC dn e6).2 i sz b6 yl td).2 (by omega) (by omega);rw[r.cont hi (by omega)] at fa;have aj:=bF.same h.next cI (λe=>e)
    refine⟨_,x2,_,0,h1,h2,aQ,a3,jN.frame λbM ob len cap lo e=>?_,fa.bytes,by simp[qe];omega,.inr ⟨h.next,0,some (min m.toNat (sz-off.toNat)),0,min m.toNat (sz-off.toNat),?_,hc cQ aj,?_⟩,λj aa=>?_,λ_ _ _=>rfl,aL,bF⟩
    ·cases e;exact aj
    ·rw[show(qe a.s i off.toNat (min m.toNat (sz-off.toNat))).length=min m.toNat (sz-off.toNat) by simp[qe]]
    ·simp[qe]
    ·cases aa;exact Nat.le_refl _
theorem aqg(f:Nat->Nat)(W:Nat->Bool):(kl f W).length<=296:=by
 unfold kl;rw[List.length_map]
 have:=List.length_filter_le W (List.range' 12 296)
 rwa[List.length_range'] at this
theorem fM.nil(h:U):fM h h (.val (.slice none 0 0)) []:=⟨hX.nil _ _ _,λj aa=>(by cases aa)⟩
theorem ayt{C:ad}(P:vf C)(Q:F6 C)(r:Rel h T R n N a)(cd: -9223372036854775808<=ino)(c1:ino<9223372036854775808):
 ∃x1 x2 l e h1 h2,C (.fn 51) [.ptr T.a9 0,I ino] h=some (.ret (.bo [x1,I e]),h1)/\C (.fn 87) [.ptr R.rt 0,I ino] h1=some (.ret (.bo [x2,I e]),h2)/\
  fM h h1 x1 l/\fM h1 h2 x2 l/\(∀i,jg N a.us ino i->l=jJ a.s.bl i/\e=0)/\l.length<=4096/\aN h h1 (λ_=>False)/\aN h1 h2 (λ_=>False):=by
 obtain⟨bQ,cn⟩:=P h T n N a.s.wd a.s.b a.now a.us a.s.nd a.s.bl ino r.A r.M cd c1;cases ag:db N a.us ino with
 |false=>exact⟨_,_,[],2,h,h,bQ ag,(Q h R n N _ a.q a.b2 a.now a.us a.rd a.s.bl ino r.B r.gU r.M.nC).1 ag,fM.nil _,fM.nil _,λi b6=>absurd (ag.symm.trans b6.yes) (by decide),by simp,aN.refl _ _,aN.refl _ _⟩
 |true=>
  obtain⟨i,b6⟩:=tg ag;obtain⟨x1,h1,aQ,p4,aL⟩:=cn i b6.1 b6.2.1 b6.2.2;have fQ:aN h h1 (gw T):=aL.eb λ_ e=>e.elim
  obtain⟨x2,h2,a3,w4,bF⟩:=(Q h1 R n N _ a.q a.b2 a.now a.us a.rd a.s.bl ino (r.bR fQ) r.gU r.M.nC).2 i b6 (r.jB.S i b6.1);refine⟨x1,x2,_,0,h1,h2,aQ,a3,p4,w4,λi' amu=>⟨?_,rfl⟩,?_,aL,bF⟩
  rotate_left
  ·rw[adU];exact Nat.le_trans (aqg _ _) (by omega)
  have:i'=i:=by have:=amu.2.2;have:=b6.2.2;omega
  rw[this]
theorem bP.VP{on:Nat->Bool}{q:Nat->Option Nat}{b:Nat->Nat}{now:Int}{us:Nat->Bool}{rd:Nat->Nat->J}(A:bP h R n N on q b now us rd)(at_:Int):bP (h.set R.rt 3 [I at_]) R n N on q b at_ us rd:=by
 have F:aN h (h.set R.rt 3 [I at_]) (· =R.rt):=fO rfl;have aY:cW h (h.set R.rt 3 [I at_]) R.bu:=F.same _ A.hB A.d1;obtain⟨x0,x1,c0,aQ,V⟩:=A.ref.v
 refine⟨A.o9,A.hW,⟨⟨x0,x1,by rw[eG (.inr (by simp))];exact c0,by rw[eG (.inr (by simp))];exact aQ,V.frame (Nat.le_of_eq (dW ..).symm) λj aa=>F.same j (V.kK aa) λe=>?_⟩,⟨5,by omega,e1 A.wt⟩,A.ref.tq,A.ref.pL,A.ref.qP,by rw[dW];exact A.ref.lt⟩,
  by rw[eG (.inr (by simp))];exact A.a3,by rw[ir A.wt (by simp) (Nat.le_refl _) (by simp)];rfl,let ⟨cap,lo,e⟩:=A.ct;⟨cap,lo,by rw[eG (.inr (by simp))];exact e⟩,e1 A.wt,hc A.wl aY,λi c hi ae=>by rw[aY.cell];exact A.kX i c hi ae,A.mR,A.d1,A.d2,A.d3,A.d4,by rw[dW];exact A.hB⟩
 rcases aa with aw|aw|⟨u,hu,aw⟩
 ·exact A.ref.tq (e.symm.trans aw)
 ·exact A.ref.pL (e.symm.trans aw)
 ·exact A.ref.qP u j hu aw e
end
noncomputable section
variable{C:ad}{lf:Nat}{bc a6 gi hJ gj hK qF qG qH qI qJ qK qC qD qE:gD}{ar:kR}
noncomputable def Z3:ca ax:=⟨82,Tryd.f82,λr=>bif Nat.beq r 16 then .ord [0,1,3,7,8,10,2,4,9,11,5,6,12,13,14] [(6,[11,9]),(5,[11,9])] else .text,Tryd.func82,by kernel_rfl,by kernel_rfl,by kernel_rfl,by kernel_rfl⟩
noncomputable def N6(aM:O)(h:U):ab:=
 ob aM λa=>some (.ret a,h)
def UB(C:ad)(lf:Nat)(r:aC)(x0 x1 x2:O)(h:U):ab:=
 ob x2 λa=>b2 (q7 92 a h) λa k=>eR 0 a k λb=>cm .rem 5 b (.int .u8 4) λb=>eF .eql 5 b (.int .u8 0) (eR 5 a k λb=>da C 69 [b] k λb k=>dn b λb c=>ob x0 λd=>eR 1 a k λg=>eR 2 a k λi=>da C 38 [d,g,i,c] k λd k=>dn d λd g=>ob x1 λi=>eR 1 a k λj=>eR 2 a k λm=>eR 5 a k λo=>da C 94 [i,j,m,o] k λi k=>dn i λi j=>eR 5 a k λa=>da C 71 [b,a] k λa k=>da C 95 [c] k λb k=>cm .eql 3 d i λb=>b8 b (some g) k λc k=>eo (dL true (some b) (da C 34 [c] k λa k=>some (.ret a,k)) k) λc k=>b8 b (some j) k λd k=>b8 b (bin ax .eql 3 c d) k λc k=>h9 b c λb=>b8 b (some a) k λa k=>h9 b a λa=>r (some a) k) (eF .eql 5 b (.int .u8 1) (ob x0 λb=>eR 1 a k λc=>eR 2 a k λd=>eR 3 a k λg=>da C 41 [b,c,d,g] k λb k=>dn b λb c=>ob x1 λd=>eR 1 a k λg=>eR 2 a k λi=>eR 3 a k λa=>da C 88 [d,g,i,a] k λa k=>dn a λa d=>da C 43 [b,a] k λa k=>b8 a (some c) k λc k=>eo (dL true (some a) (da C 34 [c] k λa k=>some (.ret a,k)) k) λc k=>b8 a (some d) k λd k=>b8 a (bin ax .eql 3 c d) k λc k=>h9 a c λa=>da C 95 [b] k λb=>r (some a)) (eF .eql 5 b (.int .u8 2) (ob x0 λb=>ob (b5 1 a) λc=>ob (b5 2 a) λd=>ob x1 λg=>ob (b5 1 a) λi=>ob (b5 2 a) λa=>ob (b0 c k) λj=>ob (b0 d k) λm=>ob (b0 i k) λo=>ob (b0 a k) λp=>dP (C (.fn 40) [b,j,m] k) λb l=>fg (fY [(11,cv (some a)),(9,cv (some i)),(4,cv (some d)),(2,cv (some c))] k l [11,9]) (dP (C (.fn 34) [b] l) λb k=>fg (fY [(11,cv (some a)),(9,cv (some i)),(4,cv (some d)),(2,cv (some c))] l k [11,9]) (dP (C (.fn 96) [g,o,p] k) λa k=>cm .eql 3 b a λa=>r (some a) k))) (ob x0 λb=>eR 1 a k λc=>da C 51 [b,c] k λb k=>dn b λb c=>ob x1 λd=>eR 1 a k λa=>da C 87 [d,a] k λa k=>dn a λa d=>da C 31 [b,a] k λa k=>b8 a (some c) k λb k=>eo (dL true (some a) (da C 34 [b] k λa k=>some (.ret a,k)) k) λb k=>b8 a (some d) k λc k=>b8 a (bin ax .eql 3 b c) k λb k=>h9 a b λa=>r (some a) k)))
theorem avZ{r:aC}:∀F h,au Z3 C lf [] F h bc (aX r 6) ar=bB (UB C lf r) 0 1 2 F h:=by
 intro F h;kernel_rfl
def HL(C:ad)(lf:Nat)(al an aD:J)(h:U):ab:=UB C lf N6 (some al) (some an) (some aD) h
def aaS:cK ax:=nx Z3 HL (λC lf al an aD h=>c8 (K:=(aX N6 6)) (by kernel_rfl) (Eq.trans (avZ _ h) (by kernel_rfl))) (by kernel_rfl)
noncomputable def Z4:ca ax:=⟨83,Tryd.f83,λr=>bif Nat.beq r 7 then .ord [0,1,3,7,8,10,2,4,9,11,5,6,12,13,14] [(6,[11,9]),(5,[11,9])] else bif Nat.beq r 9 then .ord [0,1,5,6,2,7,3,4,8,9,10] [(4,[7]),(3,[7])] else bif Nat.beq r 11 then .ord [0,1,5,6,2,7,3,4,8,9,10] [(4,[7]),(3,[7])] else bif Nat.beq r 13 then .ord [0,1,3,7,8,10,2,4,9,11,5,6,12,13,14] [(6,[11,9]),(5,[11,9])] else bif Nat.beq r 15 then .ord [0,1,3,5,9,10,12,14,2,4,6,11,13,15,7,8,16,17,18] [(8,[15,13,11]),(7,[15,13,11])] else bif Nat.beq r 17 then .ord [0,1,3,5,9,10,12,14,2,4,6,11,13,15,7,8,16,17,18] [(8,[15,13,11]),(7,[15,13,11])] else bif Nat.beq r 20 then .ord [0,2,3,1,4,5] [(1,[3])] else .text,Tryd.func83,by kernel_rfl,by kernel_rfl,by kernel_rfl,by kernel_rfl⟩
noncomputable def N7(aM:O)(h:U):ab:=
 ob aM λa=>some (.ret a,h)
def UC(C:ad)(lf:Nat)(r:aC)(x0 x1 x2:O)(h:U):ab:=
 ob x2 λa=>b2 (q7 92 a h) λa k=>eR 0 a k λb=>cm .rem 5 b (.int .u8 8) λb=>eF .eql 5 b (.int .u8 0) (ob x0 λb=>eR 4 a k λc=>eR 2 a k λd=>eR 3 a k λg=>da C 37 [b,c,d,g] k λb k=>dn b λb c=>ob x1 λd=>eR 4 a k λg=>eR 2 a k λi=>eR 3 a k λa=>da C 97 [d,g,i,a] k λa k=>dn a λa d=>cm .eql 3 b a λa=>b8 a (some c) k λb k=>eo (dL true (some a) (da C 34 [b] k λa k=>some (.ret a,k)) k) λb k=>b8 a (some d) k λc k=>b8 a (bin ax .eql 3 b c) k λb k=>h9 a b λa=>r (some a) k) (eF .eql 5 b (.int .u8 1) (ob x0 λb=>ob (b5 1 a) λc=>ob (b5 2 a) λd=>ob x1 λg=>ob (b5 1 a) λi=>ob (b5 2 a) λa=>ob (b0 c k) λj=>ob (b0 d k) λm=>ob (b0 i k) λo=>ob (b0 a k) λp=>dP (C (.fn 59) [b,j,m] k) λb l=>fg (fY [(11,cv (some a)),(9,cv (some i)),(4,cv (some d)),(2,cv (some c))] k l [11,9]) (dP (C (.fn 34) [b] l) λb k=>fg (fY [(11,cv (some a)),(9,cv (some i)),(4,cv (some d)),(2,cv (some c))] l k [11,9]) (dP (C (.fn 98) [g,o,p] k) λa k=>cm .eql 3 b a λa=>r (some a) k))) (eF .eql 5 b (.int .u8 2) (ob x0 λb=>ob (b5 1 a) λc=>ob x1 λd=>ob (b5 1 a) λa=>ob (b0 c k) λg=>ob (b0 a k) λi=>dP (C (.fn 60) [b,g] k) λb l=>fg (fY [(7,cv (some a)),(2,cv (some c))] k l [7]) (dP (C (.fn 34) [b] l) λb k=>fg (fY [(7,cv (some a)),(2,cv (some c))] l k [7]) (dP (C (.fn 99) [d,i] k) λa k=>cm .eql 3 b a λa=>r (some a) k))) (eF .eql 5 b (.int .u8 3) (ob x0 λb=>ob (b5 1 a) λc=>ob x1 λd=>ob (b5 1 a) λa=>ob (b0 c k) λg=>ob (b0 a k) λi=>dP (C (.fn 61) [b,g] k) λb l=>fg (fY [(7,cv (some a)),(2,cv (some c))] k l [7]) (dP (C (.fn 34) [b] l) λb k=>fg (fY [(7,cv (some a)),(2,cv (some c))] l k [7]) (dP (C (.fn 100) [d,i] k) λa k=>cm .eql 3 b a λa=>r (some a) k))) (eF .eql 5 b (.int .u8 4) (ob x0 λb=>ob (b5 1 a) λc=>ob (b5 4 a) λd=>ob x1 λg=>ob (b5 1 a) λi=>ob (b5 4 a) λa=>ob (b0 c k) λj=>ob (b0 d k) λm=>ob (b0 i k) λo=>ob (b0 a k) λp=>dP (C (.fn 56) [b,j,m] k) λb l=>fg (fY [(11,cv (some a)),(9,cv (some i)),(4,cv (some d)),(2,cv (some c))] k l [11,9]) (dP (C (.fn 34) [b] l) λb k=>fg (fY [(11,cv (some a)),(9,cv (some i)),(4,cv (some d)),(2,cv (some c))] l k [11,9]) (dP (C (.fn 101) [g,o,p] k) λa k=>cm .eql 3 b a λa=>r (some a) k))) (eF .eql 5 b (.int .u8 5) (ob x0 λb=>ob (b5 1 a) λc=>ob (b5 2 a) λd=>ob (b5 3 a) λg=>ob x1 λi=>ob (b5 1 a) λj=>ob (b5 2 a) λm=>ob (b5 3 a) λa=>ob (b0 c k) λo=>ob (b0 d k) λp=>ob (b0 g k) λq=>ob (b0 j k) λt=>ob (b0 m k) λu=>ob (b0 a k) λv=>dP (C (.fn 57) [b,o,p,q] k) λb l=>fg (fY [(15,cv (some a)),(13,cv (some m)),(11,cv (some j)),(6,cv (some g)),(4,cv (some d)),(2,cv (some c))] k l [15,13,11]) (dP (C (.fn 34) [b] l) λb k=>fg (fY [(15,cv (some a)),(13,cv (some m)),(11,cv (some j)),(6,cv (some g)),(4,cv (some d)),(2,cv (some c))] l k [15,13,11]) (dP (C (.fn 102) [i,t,u,v] k) λa k=>cm .eql 3 b a λa=>r (some a) k))) (eF .eql 5 b (.int .u8 6) (ob x0 λb=>ob (b5 1 a) λc=>ob (b5 6 a) λd=>ob (b5 7 a) λg=>ob x1 λi=>ob (b5 1 a) λj=>ob (b5 6 a) λm=>ob (b5 7 a) λa=>ob (b0 c k) λo=>ob (b0 d k) λp=>ob (b0 g k) λq=>ob (b0 j k) λt=>ob (b0 m k) λu=>ob (b0 a k) λv=>dP (C (.fn 58) [b,o,p,q] k) λb l=>fg (fY [(15,cv (some a)),(13,cv (some m)),(11,cv (some j)),(6,cv (some g)),(4,cv (some d)),(2,cv (some c))] k l [15,13,11]) (dP (C (.fn 34) [b] l) λb k=>fg (fY [(15,cv (some a)),(13,cv (some m)),(11,cv (some j)),(6,cv (some g)),(4,cv (some d)),(2,cv (some c))] l k [15,13,11]) (dP (C (.fn 103) [i,t,u,v] k) λa k=>cm .eql 3 b a λa=>r (some a) k))) (ob x0 λb=>eR 6 a k λc=>da C 55 [b,c] k λb k=>ob x1 λb=>eR 6 a k λc=>uE 3 b c k λk=>ob x0 λb=>ob (b5 6 a) λa=>ob (b0 a k) λc=>dP (C (.fn 46) [b] k) λb l=>fg (fY [(3,cv (some a))] k l [3]) (cm .eql 2 b c λa=>r (some a) l))))))))
theorem av0{r:aC}:∀F h,au Z4 C lf [] F h bc (aX r 6) ar=bB (UC C lf r) 0 1 2 F h:=by
 intro F h;kernel_rfl
def HM(C:ad)(lf:Nat)(al an aD:J)(h:U):ab:=UC C lf N7 (some al) (some an) (some aD) h
def aaT:cK ax:=nx Z4 HM (λC lf al an aD h=>c8 (K:=(aX N7 6)) (by kernel_rfl) (Eq.trans (av0 _ h) (by kernel_rfl))) (by kernel_rfl)
def ZJ:ca ax:=dv 50 Tryd.f50 Tryd.func50 (by kernel_rfl)
noncomputable def NN(aM:O)(h:U):ab:=
 ob aM λa=>some (.ret a,h)
def Tp(C:ad)(lf:Nat)(r:aC)(x0 x1 x2:O)(h:U):ab:=
 ob x2 λa=>b2 (q7 92 a h) λa k=>eR 0 a k λb=>eF .lss 5 b (.int .u8 128) (ob x0 λb=>ob x1 λc=>ob (iD 8 a k) λa=>da C 82 [b,c,a] k λa=>r (some a)) (ob x0 λb=>ob x1 λc=>ob (iD 8 a k) λa=>da C 83 [b,c,a] k λa=>r (some a))
theorem auz{r:aC}:∀F h,au ZJ C lf [] F h bc (aX r 6) ar=bB (Tp C lf r) 0 1 2 F h:=by
 intro F h;kernel_rfl
def Hw(C:ad)(lf:Nat)(al an aD:J)(h:U):ab:=Tp C lf NN (some al) (some an) (some aD) h
def aaA:cK ax:=nx ZJ Hw (λC lf al an aD h=>c8 (K:=(aX NN 6)) (by kernel_rfl) (Eq.trans (auz _ h) (by kernel_rfl))) (by kernel_rfl)
def ZI:ca ax:=dv 49 Tryd.f49 Tryd.func49 (by kernel_rfl)
noncomputable def NM(bV e2:O)(h:U):ab:=
 ob bV λa=>ob e2 λb=>some (.ret (.bo [a,b]),h)
def To(C:ad)(lf:Nat)(r:a0)(x0 x1:O)(h:U):ab:=
 cB .gtr 3 x0 (I 1048576) λa=>h4 .gtr 3 a x1 (I 1048576) h λb k=>n7 a b (r (some (.val (.pointer none))) (some (.val (.pointer none))) k) (a3 C 44 x0 x1 k λa k=>dn a λa b=>eF .neq 3 b (I 0) (r (some (.val (.pointer none))) (some (.val (.pointer none))) k) (a3 C 36 x0 x1 k λb k=>dn b λb c=>da C 34 [c] k λc k=>eF .neq 3 c (I 0) (r (some (.val (.pointer none))) (some a) k) (r (some b) (some a) k)))
theorem auy{r:a0}:∀F h,au ZI C lf [] F h bc (bf r 4 5) ar=bf (To C lf r) 0 1 F h:=by
 intro F h;kernel_rfl
def CJ(C:ad)(lf:Nat)(al an:J)(h:U):ab:=To C lf NM (some al) (some an) h
def aaz:cK ax:=hP ZI CJ (λC lf al an h=>c8 (K:=(bf NM 4 5)) (by kernel_rfl) (Eq.trans (auy _ h) (by kernel_rfl))) (by kernel_rfl)
end
section
variable{lf:Nat}{h:U}{T:dU}{n N:Nat}{wd b:Nat->Nat}{now:Int}{us:Nat->Bool}{nd:Nat->Nat->J}{ino:Int}
theorem aBo{C:ad}(fo:mq C){sz:Int}(A:bx h T n N wd b now us nd)(cd: -9223372036854775808<=ino)(c1:ino<9223372036854775808)(ag:db N us ino=false):
 sS C lf (.ptr T.a9 0) (I ino) (I sz) h=some (.ret (I 2),h):=by
 have bd:=sW fo A cd c1 ag;have d2:decide ((2:Int)≠0)=true:=rfl
 have pre:sS C lf (.ptr T.a9 0) (I ino) (I sz) h=wx C lf (λx0 x2 x7 h=>Bh C lf nI x0 x2 x7 h) nI (some (.ptr T.a9 0)) (some (I sz)) (some (.val (.pointer none))) (some (I 2)) h:=by
  unfold sS JH JG JF JE;simp only[cg,cf,kV,bd,sO,List.getElem?_cons_zero,List.getElem?_cons_succ];rfl
 rw[pre];unfold wx nI;simp only[aE,d2]
theorem aBU{C:ad}(fo:mq C){off:Int}{x:J}(A:bx h T n N wd b now us nd)(cd: -9223372036854775808<=ino)(c1:ino<9223372036854775808)(ag:db N us ino=false):
 rF C lf (.ptr T.a9 0) (I ino) (I off) x h=some (.ret (.bo [I 0,I 2]),h):=by
 have bd:=sW fo A cd c1 ag;have d2:decide ((2:Int)≠0)=true:=rfl;unfold rF JD JC JB JA;simp only[cg,cf,kV,bd,sO,List.getElem?_cons_zero,List.getElem?_cons_succ];unfold Jz Jy qi;simp only[aE,d2]
theorem ayi{C:ad}(fo:mq C){off m:Int}(A:bx h T n N wd b now us nd)(cd: -9223372036854775808<=ino)(c1:ino<9223372036854775808)(ag:db N us ino=false):
 uf C lf (.ptr T.a9 0) (I ino) (I off) (I m) h=some (.ret (.bo [.val (.slice none 0 0),I 2]),h):=by
 have bd:=sW fo A cd c1 ag;have d2:decide ((2:Int)≠0)=true:=rfl;unfold uf JQ JP JO JN;simp only[cg,cf,kV,bd,sO,List.getElem?_cons_zero,List.getElem?_cons_succ];unfold JM JL sQ;simp only[aE,d2]
def Mh(C:ad):Prop:=∀h x m,Mg h x m->m<=140737488351232->∃h',C (.fn 95) [x] h=some (.ret (.bo []),h')/\h'.next=h.next/\aN h h' (λj=>rowOf x=some j)
theorem agi{C:ad}{k off m M:Nat}{cap:Option Nat}{lo:Nat}(hm:m<=140737488351232)(gb:off+m<=M)(aB:cq):∀(d t:Nat),t+d=m->∀f,d<f->∀h:U,h.wr k M->
 ∃h',bp (yB C lf aB) f (some (.aY k off m cap lo),some (I (m:Int)),some (I (t:Int))) h=aB h'/\h'.next=h.next/\aN h h' (· =k)
 |0,t,aK,f,ak,h,w=>by
  obtain⟨f,rfl⟩:=dE f (by omega);have a8:decide ((t:Int)<(m:Int))=false:=bq (by omega);refine⟨h,?_,rfl,aN.refl _ _⟩;rw[dh];unfold yB Bm;simp only[aE,a8]
 |d+1,t,aK,f,ak,h,w=>by
  obtain⟨f,rfl⟩:=dE f (by omega);have a8:decide ((t:Int)<(m:Int))=true:=bw (by omega);have dy:IntKind.i64.wrap ((t:Int)+1)=((t+1:Nat):Int):=cH (by omega);have b3:=gL (s:=1) (k:=k) (off:=off) (len:=m) (lo:=lo) (cap:=cap) (kd:= .i64) (i:=(t:Int)) (by omega) (by omega);rw[Int.toNat_natCast,Nat.mul_one] at b3;have dk:=jt (n:=1) (off:=off+t) (y:= .int .u8 99) w rfl (by omega) rfl;have ae:(J.int .u8 99).cells=[.int .u8 99]:=rfl;rw[ae] at dk;obtain⟨h2,aw,cF,bF⟩:=agi (C:=C) (cap:=cap) (lo:=lo) hm gb aB d (t+1) (by omega) f (by omega) (h.set k (off+t) [.int .u8 99]) (e1 w);refine⟨h2,?_,cF.trans (dW ..),(fO (S:=(· =k)) rfl).trans bF⟩;rw[dh];show Bm C lf (λx0 bV e2 h=>bp (yB C lf aB) f (x0,bV,e2) h) aB _ _ _ h=_;unfold Bm;simp only[aE,a8,b3,dk,dy];exact aw
theorem azV{C:ad}{x:J}{m:Nat}(gf:140737488351233<=lf)(S:Mg h x m)(hm:m<=140737488351232):∃h',HQ C lf x h=some (.ret (.bo []),h')/\h'.next=h.next/\aN h h' (λj=>rowOf x=some j):=by
 unfold HQ Vf Ve;rcases S with⟨rfl,rfl⟩|⟨k,off,cap,lo,M,rfl,w,gb⟩
 ·have aJ:eN ax 24 (.val (.slice none 0 0))=some (I 0):=by simp[eN,Tryd.underlying24,fC]
  refine⟨h,?_,rfl,aN.refl _ _⟩;obtain⟨f,rfl⟩:∃g,lf=g+1:=⟨lf-1,by omega⟩;have a8:decide ((0:Int)<0)=false:=rfl;simp only[cg,cf,aJ];rw[dh];unfold yB Bm Cz;simp only[aE,a8]
 ·have aJ:=yD (k:=k) (off:=off) (len:=m) (cap:=cap) (lo:=lo) Tryd.underlying24;obtain⟨h',az,cI,aL⟩:=agi (C:=C) (lf:=lf) (cap:=cap) (lo:=lo) hm gb Cz m 0 (by omega) lf (by omega) h w;refine⟨h',?_,cI,aL.eb λj e=>by rw[e];rfl⟩;simp only[cg,cf,aJ];refine Eq.trans az ?_;unfold Cz;rfl
end
structure Gu (h0 h:U) (T:dU) (x:J) (l:List Nat):Prop where
 b:Bytes h x l
 c:mn x
 w:x= .val (.slice none 0 0)\/∃k cap,x= .aY k 0 l.length cap 0/\(∃N,h.wr k N/\l.length<=N)
 n:∀j,rowOf x=some j->h0.next<=j/\j<h.next
 t:Ca T x
section
variable{h:U}{y:J}{l:List Nat}{d:Nat}
end
structure Xb (h0 h:U) (T:dU) (s:dF) (want:List Nat) (x:J):Prop where
 A:bx h T 1000 1 s.wd s.b 0 aBC s.nd
 M:cR 1000 1 s.wd s.nd s.bl
 O:zB 1 s
 sz:s.nd 0 5=I (want.length:Int)
 le:want.length<=17792
 one:∀c,c<12->(s.nd 0 c).one=true
 Ch:∀p,p<17792->oi s 0 p=want.getD p 0
 W:Gu h0 h T x want
 jC:hg h
 aC7:nv h T
 t0:h0.next<=T.a9/\h0.next<=T.bJ/\h0.next<=T.kd/\h0.next<=T.aG
 F:aN h0 h (λ_=>False)
 g:mB<h0.next
theorem Xb.zf{h0 h:U}{T:dU}{s:dF}{want:List Nat}{x:J}(A:Xb h0 h T s want x):pg 1000 1 s:=⟨A.M,A.A.st.iI⟩
theorem Gu.iP{h0 h h':U}{T:dU}{x:J}{l:List Nat}(W:Gu h0 h T x l){Q:Nat->Prop}(F:aN h h' Q)(aZ:∀j,rowOf x=some j->¬Q j):Gu h0 h' T x l:=by
 have aj:∀j,rowOf x=some j->cW h h' j:=λj aa=>F.same j (W.n j aa).2 (aZ j aa)
 refine⟨W.b.frame λbM ob len cap lo e=>aj bM (by rw[e];rfl),W.c,?_,λj aa=>⟨(W.n j aa).1,Nat.lt_of_lt_of_le (W.n j aa).2 F.next⟩,W.t⟩;rcases W.w with e|⟨k,cap,rfl,N,h1,h2⟩
 ·exact .inl e
 ·exact .inr ⟨k,cap,rfl,N,hc h1 (aj k rfl),h2⟩
section
variable{lf:Nat}{h h0:U}{T:dU}{s:dF}{want:List Nat}{x:J}{aB0 aB1 wP:O}
end
section
variable{lf:Nat}{h h0:U}{T:dU}{s:dF}{want:List Nat}{x:J}{aB0 aB1 wP:O}
end
structure zC where
 at_:Int
 kp:J
 l:List Nat
 cut:Bool
def zC.cells(a:zC):List J:=[I a.at_,a.kp,.bool a.cut]
structure zC.mY (h:U) (a:zC):Prop where
 an: -9223372036854775808<=a.at_
 aD:a.at_<9223372036854775808
 b:Bytes h a.kp a.l
 c:mn a.kp
 l:a.l.length<=140737488351232
 z:∀j,rowOf a.kp=some j->j<h.next
def W5(h:U)(x:J)(L:List zC):Prop:=(FL x/\L=[])\/∃iY pM cap lo m,x= .aY iY pM L.length cap lo/\h.mt iY=some m/\iY<h.next/\
 ∀t (aK:t<L.length),(∀c,c<3->h.cell iY (pM+t*3+c)=L[t].cells[c]?)/\L[t].mY h
theorem W5.len{h:U}{x:J}{L:List zC}(A:W5 h x L):eN ax 72 x=some (I (L.length:Int)):=by
 rcases A with⟨rfl|⟨_,rfl⟩,rfl⟩|⟨iY,pM,cap,lo,m,rfl,_⟩
 ·simp[eN,Tryd.underlying72,fC]
 ·simp[eN,Tryd.underlying72,fC]
 ·exact yD Tryd.underlying72
section
variable{lf:Nat}{h h0:U}{T:dU}{s:dF}{want:List Nat}{x:J}
def Me(C:ad):Prop:=∀h x y l dw,Bytes h x l->Bytes h y dw->C (.fn 43) [x,y] h=some (.ret (.bool (decide (l=dw))),h)
theorem azx{C:ad}{x y:J}{l dw:List Nat}(B:Bytes h x l)(lx:Bytes h y dw):Hs C lf x y h=some (.ret (.bool (decide (l=dw))),h):=by
 have az:=Lj (P:=ax) (s:=24) (d:=9) Tryd.underlying24 Tryd.underlying9 (by kernel_rfl) B;have aw:=Lj (P:=ax) (s:=24) (d:=9) Tryd.underlying24 Tryd.underlying9 (by kernel_rfl) lx
 have ch:decide (uN l=uN dw)=decide (l=dw):=by
  have:=aBv B.1 lx.1
  by_cases e:l=dw
  ·simp[e]
  ·simp[e,this]
 unfold Hs Ti NI;simp only[cg,cf,sC,az,aw,XM,ch]
end
structure gG where
 k:Nat
 ino:Int
 x:Int
 y:Int
 mo:Int
 kp:J
 at_:Int
 MF:Int
 l:List Nat
def gG.cells(o:gG):List J:=[.int .u8 (o.k:Int),I o.ino,I o.x,I o.y,I o.mo,o.kp,I o.at_,I o.MF]
def sn(v:Int):Prop:= -9223372036854775808<=v/\v<9223372036854775808
structure gG.mY (h:U) (o:gG):Prop where
 k:o.k<256
 ino:sn o.ino
 x:sn o.x
 y:sn o.y
 mo:sn o.mo
 t:Bytes h o.kp o.l
 BA:o.l.length<=140737488351232
 iH:∀j,rowOf o.kp=some j->j<h.next
structure sr (h:U) (K:Nat) (o:gG):Prop where
 c0:h.cell K 0=some (.int .u8 (o.k:Int))
 aQ:h.cell K 1=some (I o.ino)
 a3:h.cell K 2=some (I o.x)
 cl:h.cell K 3=some (I o.y)
 ct:h.cell K 4=some (I o.mo)
 rv:h.cell K 5=some o.kp
 l4:h.cell K 6=some (I o.at_)
 xm:h.cell K 7=some (I o.MF)
 mt:∃m,h.mt K=some m
 lt:K<h.next
section
variable{h h1 h2 h':U}{T:dU}{R:ez}{n N:Nat}{a a':lr}{o:gG}{K:Nat}
theorem sr.frame(O:sr h K o)(aj:cW h h' K)(aO:h.next<=h'.next):sr h' K o:=
 ⟨by rw[aj.cell];exact O.c0,by rw[aj.cell];exact O.aQ,by rw[aj.cell];exact O.a3,by rw[aj.cell];exact O.cl,by rw[aj.cell];exact O.ct,by rw[aj.cell];exact O.rv,by rw[aj.cell];exact O.l4,by rw[aj.cell];exact O.xm,by rw[aj.mt];exact O.mt,Nat.lt_of_lt_of_le O.lt aO⟩
theorem QM{ty:TypeId}:sr (h.new (dR ty o.cells)) h.next o:=by
 have ae:∀j,(h.new (dR ty o.cells)).cell h.next j=o.cells[j]?:=λj=>by rw[lK,oR]
 exact⟨by rw[ae];rfl,by rw[ae];rfl,by rw[ae];rfl,by rw[ae];rfl,by rw[ae];rfl,by rw[ae];rfl,by rw[ae];rfl,by rw[ae];rfl,⟨_,by rw[yI,if_pos rfl]⟩,by rw[iG];exact Nat.lt_succ_self _⟩
theorem sr.ld(O:sr h K o):iD 8 (.ptr K 0) h=some (.agg o.cells):=by
 obtain⟨m,hm⟩:=O.mt;rw[v7 hm,qd (n:=8) (ys:=o.cells) rfl λj aa=>?_]
 ·rfl
 ·rw[Nat.zero_add]
  have:j=0\/j=1\/j=2\/j=3\/j=4\/j=5\/j=6\/j=7:=by omega
  rcases this with rfl|rfl|rfl|rfl|rfl|rfl|rfl|rfl
  ·exact O.c0
  ·exact O.aQ
  ·exact O.a3
  ·exact O.cl
  ·exact O.ct
  ·exact O.rv
  ·exact O.l4
  ·exact O.xm
theorem Rel.iP(r:Rel h T R n N a){S:Nat->Prop}(F:aN h h' S)(aA:∀j,gw T j->¬S j)(aZ:∀j,jq R a.q j->¬S j)(bd:¬S mB):Rel h' T R n N a:=
 ⟨r.A.frame F.next λj aa=>F.same j (r.A7 aa) (aA j aa),r.M,r.B.iP F λj aa=>aZ j (VC aa),r.gU,r.jy,r.lo,r.hM,r.jB,r.jC.dx F r.O.g bd,r.O.mono F.next,r.sep,r.OS,r.uh,r.r7⟩
theorem Rel.jI(r:Rel h T R n N a)(F:aN h h' (λ_=>False)):Rel h' T R n N a:=r.iP F (λ_ _ e=>e) (λ_ _ e=>e) λe=>e
theorem aN.QK{S e4:Nat->Prop}(F:aN h h1 S)(F':aN h1 h2 e4)(aj:∀j,e4 j->h.next<=j):aN h h2 S:=
 ⟨F'.aH.trans F.aH,Nat.le_trans F.next F'.next,λj aa e=>(F'.same j (Nat.lt_of_lt_of_le aa F.next) λx=>by have:=aj j x;omega).trans (F.same j aa e),λak=>F'.dx (F.dx ak)⟩
structure sx (h h':U) (T:dU) (R:ez) (n N:Nat) (a a':lr):Prop where
 r:Rel h' T R n N a'
 f:aN h h' (λj=>gw T j\/jq R a.q j)
 aZ:∀u k,a'.q u=some k->a.q u=some k\/h.next<=k
theorem l2.sc(s:l2 h1 h2 h' T R n N a a')(F:aN h h1 (λ_=>False)):sx h h' T R n N a a':=
 ⟨s.r,((F.eb λ_ e=>e.elim).trans (s.f1.eb λ_ e=> .inl e)).trans (s.f2.eb λ_ e=> .inr e),λu k e=>(s.aZ u k e).imp id λx=>Nat.le_trans F.next x⟩
theorem l2.new(s:l2 h1 h2 h' T R n N a a')(r:Rel h T R n N a){K:Nat}(m8:h.next<=K)(abw:K<h1.next):¬gw T K/\¬jq R a.q K/\¬jq R a'.q K/\cW h1 h' K:=by
 have p:¬gw T K:=λe=>by have:=r.A7 e;omega
 have q:¬jq R a.q K:=λe=>by have:=r.afp e;omega
 refine⟨p,q,λe=>?_,(s.f2.same K (Nat.lt_of_lt_of_le abw s.f1.next) q).trans (s.f1.same K abw p)⟩;rcases e with e|e|e|e|⟨u,e⟩
 ·exact q (.inl e)
 ·exact q (.inr (.inl e))
 ·exact q (.inr (.inr (.inl e)))
 ·exact q (.inr (.inr (.inr (.inl e))))
 ·rcases s.aZ u K e with e|e
  ·exact q (.inr (.inr (.inr (.inr ⟨u,e⟩))))
  ·omega
theorem nD{bL:List (Nat×Option Nat)}{ls:List Nat}{r:ab}(O:sr h K o)(aj:cW h h' K)(H:∀p∈bL,p.2=some K):fg (fY bL h h' ls) r=r:=X9 λp aA k e=>by
 have:=H p aA
 rw[this] at e;cases e;exact⟨O.lt,O.mt,aj⟩
end
section
variable{lf:Nat}{h:U}{T:dU}{R:ez}{n N:Nat}{a:lr}{o:gG}
def Lv(C:ad):Prop:=∀h T R n N a o,Rel h T R n N a->gG.mY h o->(∀j,rowOf o.kp=some j->¬gw T j/\¬jq R a.q j)->∃h' a',C (.fn 82) [.ptr T.a9 0,.ptr R.rt 0,.agg o.cells] h=some (.ret (.bool true),h')/\sx h h' T R n N a a'
theorem ajz{C:ad}(ahU:LN C)(ahQ:LJ C)(pe:Mh C)(kt:tQ C)(ah7:Me C)(ah8:Md C)(aie:Gv C)(xd:Gp C)(ah4:Ge C)(ah5:Gf C)(B5:Gn C)(L6:Gb C)(aic:Gr C)(av:Gs C)(L7:Gd C)(ss:vf C)(L5:F6 C)
 (r:Rel h T R n N a)(O:gG.mY h o)(ao:∀j,rowOf o.kp=some j->¬gw T j/\¬jq R a.q j):∃h' a',HL C lf (.ptr T.a9 0) (.ptr R.rt 0) (.agg o.cells) h=some (.ret (.bool true),h')/\sx h h' T R n N a a':=by
 have gH:=wS (e:=92) (x:= .agg o.cells) (h:=h) rfl;have h6:(J.agg o.cells).cells=o.cells:=rfl;rw[h6] at gH;have ij:aN h (h.new (dR 92 o.cells)) (λ_=>False):=ot _ _ _;have cP:sr (h.new (dR 92 o.cells)) h.next o:=QM
 have tm:(h.new (dR 92 o.cells)).next=h.next+1:=iG ..
 generalize h.new (dR 92 o.cells)=g at *;have fU:=r.jI ij;have vT:∀j,rowOf o.kp=some j->cW h g j:=λj aa=>ij.same j (O.iH j aa) (λe=>e)
 have BN:Bytes g o.kp o.l:=O.t.frame λbM ob len cap lo e=>vT bM (by rw[e];rfl)
 have pz:(o.k:Int).tmod 4=((o.k%4:Nat):Int):=by rw[Int.tmod_eq_emod_of_nonneg (by omega)];rfl
 have anl:o.k%4=0\/o.k%4=1\/o.k%4=2\/o.k%4=3:=by omega
 unfold HL UB N6;rcases anl with ai|ai|ai|ai
 ·
  have d0:decide (((o.k%4:Nat):Int)=0)=true:=bw (by omega);obtain⟨oB,ajH,vi,tN,aDU⟩:=ahU g o.kp o.l BN O.BA (λj aa=>by have:=O.iH j aa;omega);have ax1:=fU.jI tN;have zz:=cP.frame (tN.same _ cP.lt (λe=>e)) tN.next
  obtain⟨v,e,aDj,xO,a',ajC,ajD,st⟩:=ayA aie xd ah4 ax1 (x1:=v9 g.next o.l.length) (x2:=o.kp) (l:=o.l) O.ino.1 O.ino.2 O.x.1 O.x.2 (vi.bytes O.t.1) (by show o.l.length<=o.l.length+1;omega)
   (λj aa=>by cases aa;exact⟨vi.lt,λe=>by have:=fU.A7 e;omega⟩) O.BA (BN.frame λbM ob len cap lo e=>tN.same bM (by have:=O.iH bM (by rw[e];rfl);omega) (λe=>e)) (λj aa=>⟨by have:=O.iH j aa;have:=tN.next;omega,ao j aa⟩)
  obtain⟨bQ,cn,fl,s1⟩:=st.new r (K:=h.next) (Nat.le_refl _) zz.lt;obtain⟨k1,k2,gN,s2⟩:=st.new r (K:=g.next) (by omega) vi.lt;have LS:=zz.frame (st.f1.same _ zz.lt bQ) st.f1.next
  have ahY:=zz.frame s1 (Nat.le_trans st.f1.next st.f2.next);have Xa:Whole xO g.next o.l:=⟨hc vi.w s2,by rw[s2.cell];exact vi.c0,by rw[s2.cell];exact vi.aQ,λj aa=>by rw[s2.cell];exact vi.cs j aa,Nat.lt_of_lt_of_le vi.lt (Nat.le_trans st.f1.next st.f2.next)⟩
  have ahz:Bytes xO o.kp o.l:=BN.frame λbM ob len cap lo e=>by
   have ai:=O.iH bM (by rw[e];rfl);have fw:=ao bM (by rw[e];rfl);exact((st.f2.same bM (by have:=tN.next;have:=st.f1.next;omega) fw.2).trans (st.f1.same bM (by have:=tN.next;omega) fw.1)).trans (tN.same bM (by omega) (λe=>e))
  have fg:=ahQ xO g.next o.kp o.l Xa ahz O.BA
  obtain⟨Aj,ajF,aDT,WQ⟩:=pe xO (v9 g.next o.l.length) o.l.length (.inr ⟨g.next,1,_,_,o.l.length+2,rfl,Xa.w,by omega⟩) O.BA;have eu:∀j,rowOf (v9 g.next o.l.length)=some j->j=g.next:=λj aa=>by cases aa;rfl
  have ax0:Rel Aj T R n N a':=st.r.iP WQ (λj aa e=>k1 (by rw[<- eu j e];exact aa)) (λj aa e=>gN (by rw[<- eu j e];exact aa)) (λe=>by have:=eu _ e;have:=fU.O.g;omega);have agj:=st.sc (ij.trans tN);refine⟨Aj,a',?_,⟨ax0,agj.f.QK WQ λj aa=>by rw[eu j aa];omega,agj.aZ⟩⟩;have cu:=kt Aj e;simp only[aE,gH,cP.c0,hQ (show(4:Int)≠0 by omega),pz,d0,cP.rv,ajH,List.getElem?_cons_zero,List.getElem?_cons_succ,zz.aQ,zz.a3,ajC,LS.aQ,LS.a3,LS.rv,ajD,ahY.rv,fg,ajF,cu,decide_true]
 ·
  have d0:decide (((o.k%4:Nat):Int)=0)=false:=bq (by omega);have d1:decide (((o.k%4:Nat):Int)=1)=true:=bw (by omega);obtain⟨x1,x2,l,e,h1,h2,aQ,a3,jN,fa,um,jh,cI,_,aL,bF⟩:=ayu ah5 B5 L6 fU O.ino.1 O.ino.2 O.x.1 O.x.2 O.y.1 O.y.2;have gF:=cP.frame (aL.same _ cP.lt (λe=>e)) aL.next
  have afX:=ah7 h2 x1 x2 l l jN fa;rw[bw rfl] at afX;have aJ:l.length<=140737488351232:=by omega
  obtain⟨h3,cl,gl,dp⟩:=pe h2 x1 l.length jh aJ;have nu:=aL.trans bF;have fP:Rel h3 T R n N a:=(fU.jI nu).iP dp (λj aa e=>by have:=fU.A7 aa;have:=cI j e;omega) (λj aa e=>by have:=fU.afp aa;have:=cI j e;omega) (λe=>by have:=fU.O.g;have:=cI _ e;omega);refine⟨h3,a,?_,⟨fP,((ij.trans nu).eb λ_ e=>e.elim).QK dp λj aa=>by have:=cI j aa;omega,λ_ _ e=> .inl e⟩⟩;have cu:=kt h2 e;simp only[aE,gH,cP.c0,hQ (show(4:Int)≠0 by omega),pz,d0,d1,cP.aQ,cP.a3,cP.cl,aQ,List.getElem?_cons_zero,List.getElem?_cons_succ,gF.aQ,gF.a3,gF.cl,a3,afX,cu,decide_true,cl]
 ·
  have d0:decide (((o.k%4:Nat):Int)=0)=false:=bq (by omega);have d1:decide (((o.k%4:Nat):Int)=1)=false:=bq (by omega);have d2:decide (((o.k%4:Nat):Int)=2)=true:=bw (by omega);obtain⟨e,h1,h2,a',aQ,a3,st⟩:=ayz aic av L7 fU O.ino.1 O.ino.2 O.x.1 O.x.2;obtain⟨bQ,cn,fl,s1⟩:=st.new r (K:=h.next) (Nat.le_refl _) cP.lt;have gF:=cP.frame (st.f1.same _ cP.lt bQ) st.f1.next
  refine⟨h2,a',?_,st.sc ij⟩;have cu:=kt h1 e;simp only[aE,gH,cP.c0,hQ (show(4:Int)≠0 by omega),pz,d0,d1,d2,cP.aQ,cP.a3,aQ];rw[nD cP (st.f1.same _ cP.lt bQ) (by simp[cv,kT])];simp only[aE,cu];rw[nD gF rfl (by simp[cv,kT])];simp only[aE,a3,decide_true]
 ·
  have d0:decide (((o.k%4:Nat):Int)=0)=false:=bq (by omega);have d1:decide (((o.k%4:Nat):Int)=1)=false:=bq (by omega);have d2:decide (((o.k%4:Nat):Int)=2)=false:=bq (by omega);obtain⟨x1,x2,l,e,h1,h2,aQ,a3,p4,w4,_,aJ,aL,bF⟩:=ayt ss L5 fU O.ino.1 O.ino.2;have gF:=cP.frame (aL.same _ cP.lt (λe=>e)) aL.next
  have agb:=ah8 h2 x1 x2 l l ((p4.DT aJ).frame λk ai=>bF.same k (p4.aY.kK ai) (λe=>e)) (w4.DT aJ);rw[bw rfl] at agb;refine⟨h2,a,?_,(fU.same aL bF).sc ij⟩;have cu:=kt h2 e;simp only[aE,gH,cP.c0,hQ (show(4:Int)≠0 by omega),pz,d0,d1,d2,cP.aQ,aQ,List.getElem?_cons_zero,List.getElem?_cons_succ,gF.aQ,a3,agb,cu,decide_true]
end
section
variable{lf:Nat}{h:U}{T:dU}{R:ez}{n N:Nat}{a:lr}{o:gG}
def Lr(C:ad):Prop:=∀h T R n N a o,Rel h T R n N a->gG.mY h o->∃h' a',C (.fn 83) [.ptr T.a9 0,.ptr R.rt 0,.agg o.cells] h=some (.ret (.bool true),h')/\sx h h' T R n N a a'
theorem ai0{C:ad}(kt:tQ C)(nq:FF C)(ah0:F0 C)(ahT:FT C)(ah2:F5 C)(ahL:FO C)(ah1:F4 C)(L8:Gi C)(L6:F7 C)(ahW:Gj C)(gU:F8 C)(ah9:Gk C)(L5:F9 C)(aib:Gl C)(L7:Ga C)(ahE:Lx C)(w7:LR C)
 (r:Rel h T R n N a)(O:gG.mY h o):∃h' a',HM C lf (.ptr T.a9 0) (.ptr R.rt 0) (.agg o.cells) h=some (.ret (.bool true),h')/\sx h h' T R n N a a':=by
 have gH:=wS (e:=92) (x:= .agg o.cells) (h:=h) rfl;have h6:(J.agg o.cells).cells=o.cells:=rfl;rw[h6] at gH;have ij:aN h (h.new (dR 92 o.cells)) (λ_=>False):=ot _ _ _;have cP:sr (h.new (dR 92 o.cells)) h.next o:=QM
 generalize h.new (dR 92 o.cells)=g at *;have fU:=r.jI ij;have pz:(o.k:Int).tmod 8=((o.k%8:Nat):Int):=by rw[Int.tmod_eq_emod_of_nonneg (by omega)];rfl
 have hZ:∀m:Nat,o.k%8≠m->decide (((o.k%8:Nat):Int)=(m:Int))=false:=λm hm=>bq (by omega)
 have xv:∀m:Nat,o.k%8=m->decide (((o.k%8:Nat):Int)=(m:Int))=true:=λm hm=>bw (by omega)
 have anm:o.k%8=0\/o.k%8=1\/o.k%8=2\/o.k%8=3\/o.k%8=4\/o.k%8=5\/o.k%8=6\/o.k%8=7:=by omega
 unfold HM UC N7;rcases anm with ai|ai|ai|ai|ai|ai|ai|ai
 ·
  have d0:decide (((o.k%8:Nat):Int)=0)=true:=xv 0 (by omega);obtain⟨v,e,h1,h2,a',aQ,a3,st⟩:=ayq nq ah0 fU (uid:=o.x) (gid:=o.y) O.mo.1 O.mo.2;obtain⟨bQ,cn,fl,s1⟩:=st.new r (K:=h.next) (Nat.le_refl _) cP.lt;have gF:=cP.frame (st.f1.same _ cP.lt bQ) st.f1.next
  refine⟨h2,a',?_,st.sc ij⟩;have cu:=kt h2 e;simp only[aE,gH,cP.c0,hQ (show(8:Int)≠0 by omega),pz,d0,cP.a3,cP.cl,cP.ct,aQ,List.getElem?_cons_zero,List.getElem?_cons_succ,gF.a3,gF.cl,gF.ct,a3,cu,decide_true]
 ·
  have d0:decide (((o.k%8:Nat):Int)=0)=false:=hZ 0 (by omega);have d1:decide (((o.k%8:Nat):Int)=1)=true:=xv 1 (by omega);obtain⟨e,h1,h2,a',aQ,a3,st⟩:=ays ahT ah2 fU (by_:=o.x) O.ino.1 O.ino.2;obtain⟨bQ,cn,fl,s1⟩:=st.new r (K:=h.next) (Nat.le_refl _) cP.lt;have gF:=cP.frame (st.f1.same _ cP.lt bQ) st.f1.next
  refine⟨h2,a',?_,st.sc ij⟩;have cu:=kt h1 e;simp only[aE,gH,cP.c0,hQ (show(8:Int)≠0 by omega),pz,d0,d1,cP.aQ,cP.a3,aQ];rw[nD cP (st.f1.same _ cP.lt bQ) (by simp[cv,kT])];simp only[aE,cu];rw[nD gF rfl (by simp[cv,kT])];simp only[aE,a3,decide_true]
 ·
  have d0:decide (((o.k%8:Nat):Int)=0)=false:=hZ 0 (by omega);have d1:decide (((o.k%8:Nat):Int)=1)=false:=hZ 1 (by omega);have d2:decide (((o.k%8:Nat):Int)=2)=true:=xv 2 (by omega);obtain⟨e,h1,h2,a',aQ,a3,st⟩:=ayr ahL ah1 fU O.ino.1 O.ino.2;obtain⟨bQ,cn,fl,s1⟩:=st.new r (K:=h.next) (Nat.le_refl _) cP.lt;have gF:=cP.frame (st.f1.same _ cP.lt bQ) st.f1.next
  refine⟨h2,a',?_,st.sc ij⟩;have cu:=kt h1 e;simp only[aE,gH,cP.c0,hQ (show(8:Int)≠0 by omega),pz,d0,d1,d2,cP.aQ,aQ];rw[nD cP (st.f1.same _ cP.lt bQ) (by simp[cv,kT])];simp only[aE,cu];rw[nD gF rfl (by simp[cv,kT])];simp only[aE,a3,decide_true]
 ·
  have d0:decide (((o.k%8:Nat):Int)=0)=false:=hZ 0 (by omega);have d1:decide (((o.k%8:Nat):Int)=1)=false:=hZ 1 (by omega);have d2:decide (((o.k%8:Nat):Int)=2)=false:=hZ 2 (by omega);have d3:decide (((o.k%8:Nat):Int)=3)=true:=xv 3 (by omega);obtain⟨e,h1,h2,a',aQ,a3,st⟩:=ayv L8 L6 fU O.ino.1 O.ino.2;obtain⟨bQ,cn,fl,s1⟩:=st.new r (K:=h.next) (Nat.le_refl _) cP.lt;have gF:=cP.frame (st.f1.same _ cP.lt bQ) st.f1.next
  refine⟨h2,a',?_,st.sc ij⟩;have cu:=kt h1 e;simp only[aE,gH,cP.c0,hQ (show(8:Int)≠0 by omega),pz,d0,d1,d2,d3,cP.aQ,aQ];rw[nD cP (st.f1.same _ cP.lt bQ) (by simp[cv,kT])];simp only[aE,cu];rw[nD gF rfl (by simp[cv,kT])];simp only[aE,a3,decide_true]
 ·
  have d0:decide (((o.k%8:Nat):Int)=0)=false:=hZ 0 (by omega);have d1:decide (((o.k%8:Nat):Int)=1)=false:=hZ 1 (by omega);have d2:decide (((o.k%8:Nat):Int)=2)=false:=hZ 2 (by omega);have d3:decide (((o.k%8:Nat):Int)=3)=false:=hZ 3 (by omega);have d4:decide (((o.k%8:Nat):Int)=4)=true:=xv 4 (by omega);obtain⟨e,h1,h2,a',aQ,a3,st⟩:=ayw ahW gU fU (mo:=o.mo) O.ino.1 O.ino.2;obtain⟨bQ,cn,fl,s1⟩:=st.new r (K:=h.next) (Nat.le_refl _) cP.lt;have gF:=cP.frame (st.f1.same _ cP.lt bQ) st.f1.next
  refine⟨h2,a',?_,st.sc ij⟩;have cu:=kt h1 e;simp only[aE,gH,cP.c0,hQ (show(8:Int)≠0 by omega),pz,d0,d1,d2,d3,d4,cP.aQ,cP.ct,aQ];rw[nD cP (st.f1.same _ cP.lt bQ) (by simp[cv,kT])];simp only[aE,cu];rw[nD gF rfl (by simp[cv,kT])];simp only[aE,a3,decide_true]
 ·
  have d0:decide (((o.k%8:Nat):Int)=0)=false:=hZ 0 (by omega);have d1:decide (((o.k%8:Nat):Int)=1)=false:=hZ 1 (by omega);have d2:decide (((o.k%8:Nat):Int)=2)=false:=hZ 2 (by omega);have d3:decide (((o.k%8:Nat):Int)=3)=false:=hZ 3 (by omega);have d4:decide (((o.k%8:Nat):Int)=4)=false:=hZ 4 (by omega);have d5:decide (((o.k%8:Nat):Int)=5)=true:=xv 5 (by omega);obtain⟨e,h1,h2,a',aQ,a3,st⟩:=ayx ah9 L5 fU (u:=o.x) (g:=o.y) O.ino.1 O.ino.2;obtain⟨bQ,cn,fl,s1⟩:=st.new r (K:=h.next) (Nat.le_refl _) cP.lt;have gF:=cP.frame (st.f1.same _ cP.lt bQ) st.f1.next
  refine⟨h2,a',?_,st.sc ij⟩;have cu:=kt h1 e;simp only[aE,gH,cP.c0,hQ (show(8:Int)≠0 by omega),pz,d0,d1,d2,d3,d4,d5,cP.aQ,cP.a3,cP.cl,aQ];rw[nD cP (st.f1.same _ cP.lt bQ) (by simp[cv,kT])];simp only[aE,cu];rw[nD gF rfl (by simp[cv,kT])];simp only[aE,a3,decide_true]
 ·
  have d0:decide (((o.k%8:Nat):Int)=0)=false:=hZ 0 (by omega);have d1:decide (((o.k%8:Nat):Int)=1)=false:=hZ 1 (by omega);have d2:decide (((o.k%8:Nat):Int)=2)=false:=hZ 2 (by omega);have d3:decide (((o.k%8:Nat):Int)=3)=false:=hZ 3 (by omega);have d4:decide (((o.k%8:Nat):Int)=4)=false:=hZ 4 (by omega);have d5:decide (((o.k%8:Nat):Int)=5)=false:=hZ 5 (by omega);have d6:decide (((o.k%8:Nat):Int)=6)=true:=xv 6 (by omega);obtain⟨e,h1,h2,a',aQ,a3,st⟩:=ayy aib L7 fU (at_:=o.at_) (m:=o.MF) O.ino.1 O.ino.2;obtain⟨bQ,cn,fl,s1⟩:=st.new r (K:=h.next) (Nat.le_refl _) cP.lt;have gF:=cP.frame (st.f1.same _ cP.lt bQ) st.f1.next
  refine⟨h2,a',?_,st.sc ij⟩;have cu:=kt h1 e;simp only[aE,gH,cP.c0,hQ (show(8:Int)≠0 by omega),pz,d0,d1,d2,d3,d4,d5,d6,cP.aQ,cP.l4,cP.xm,aQ];rw[nD cP (st.f1.same _ cP.lt bQ) (by simp[cv,kT])];simp only[aE,cu];rw[nD gF rfl (by simp[cv,kT])];simp only[aE,a3,decide_true]
 ·
  have d0:decide (((o.k%8:Nat):Int)=0)=false:=hZ 0 (by omega);have d1:decide (((o.k%8:Nat):Int)=1)=false:=hZ 1 (by omega);have d2:decide (((o.k%8:Nat):Int)=2)=false:=hZ 2 (by omega);have d3:decide (((o.k%8:Nat):Int)=3)=false:=hZ 3 (by omega);have d4:decide (((o.k%8:Nat):Int)=4)=false:=hZ 4 (by omega);have d5:decide (((o.k%8:Nat):Int)=5)=false:=hZ 5 (by omega);have d6:decide (((o.k%8:Nat):Int)=6)=false:=hZ 6 (by omega);obtain⟨h1,aQ,b7,cI,aL⟩:=ahE g T n N a.s.wd a.s.b a.now a.us a.s.nd o.at_ fU.A;have fQ:aN g h1 (gw T):=aL.eb λ_ e=> .inl e
  have jN:=fU.bR fQ;have dk:=jt (n:=1) (off:=3) (y:=I o.at_) jN.wt rfl (by omega) rfl;have ey:(J.int .i64 o.at_).cells=[I o.at_]:=rfl;rw[ey] at dk;have u9:aN h1 (h1.set R.rt 3 [I o.at_]) (jq R a.q):=fO (.inl rfl);have st:=fU.next (a':=⟨a.s,o.at_,a.us,a.q,a.b2,a.rd⟩) fQ u9 b7 fU.M (jN.VP o.at_) fU.gU fU.jy fU.lo fU.hM fU.jB fU.r7 λ_ _ e=> .inl e
  obtain⟨bQ,cn,fl,s1⟩:=st.new r (K:=h.next) (Nat.le_refl _) cP.lt;have gF:=cP.frame (st.f1.same _ cP.lt bQ) st.f1.next
  have lD:=cP.frame s1 (Nat.le_trans st.f1.next st.f2.next);have D7:=w7 _ T n N _ _ _ _ _ st.r.A;refine⟨_,_,?_,st.sc ij⟩;simp only[aE,gH,cP.c0,hQ (show(8:Int)≠0 by omega),pz,d0,d1,d2,d3,d4,d5,d6,cP.l4,aQ,gF.l4,dk,lD.l4,D7];rw[nD lD rfl (by simp[cv,kT])];simp only[aE,decide_true]
def zq(C:ad):Prop:=∀h T R n N a o,Rel h T R n N a->gG.mY h o->(∀j,rowOf o.kp=some j->¬gw T j/\¬jq R a.q j)->∃h' a',C (.fn 50) [.ptr T.a9 0,.ptr R.rt 0,.agg o.cells] h=some (.ret (.bool true),h')/\sx h h' T R n N a a'
theorem akK{C:ad}(ahD:Lv C)(ahx:Lr C)(r:Rel h T R n N a)(O:gG.mY h o)(ao:∀j,rowOf o.kp=some j->¬gw T j/\¬jq R a.q j):∃h' a',Hw C lf (.ptr T.a9 0) (.ptr R.rt 0) (.agg o.cells) h=some (.ret (.bool true),h')/\sx h h' T R n N a a':=by
 have gH:=wS (e:=92) (x:= .agg o.cells) (h:=h) rfl;have h6:(J.agg o.cells).cells=o.cells:=rfl;rw[h6] at gH;have ij:aN h (h.new (dR 92 o.cells)) (λ_=>False):=ot _ _ _;have cP:sr (h.new (dR 92 o.cells)) h.next o:=QM
 generalize h.new (dR 92 o.cells)=g at *;have fU:=r.jI ij;have BN:Bytes g o.kp o.l:=O.t.frame λbM ob len cap lo e=>ij.same bM (O.iH bM (by rw[e];rfl)) (λe=>e)
 have W4:gG.mY g o:=⟨O.k,O.ino,O.x,O.y,O.mo,BN,O.BA,λj aa=>Nat.lt_of_lt_of_le (O.iH j aa) ij.next⟩;have up:∀h' a',sx g h' T R n N a a'->sx h h' T R n N a a':=λh' a' s=>⟨s.r,(ij.eb λ_ e=>e.elim).trans s.f,λu k e=>(s.aZ u k e).imp id λx=>Nat.le_trans ij.next x⟩
 unfold Hw Tp NN;by_cases ai:o.k<128
 ·have d0:decide ((o.k:Int)<128)=true:=bw (by omega);obtain⟨h',a',aQ,s1⟩:=ahD g T R n N a o fU W4 ao;refine⟨h',a',?_,up _ _ s1⟩;simp only[aE,gH,cP.c0,d0,cP.ld,aQ]
 ·have d0:decide ((o.k:Int)<128)=false:=bq (by omega);obtain⟨h',a',aQ,s1⟩:=ahx g T R n N a o fU W4;refine⟨h',a',?_,up _ _ s1⟩;simp only[aE,gH,cP.c0,d0,cP.ld,aQ]
end
section
variable{lf:Nat}{h:U}{T:dU}{R:ez}{n N:Nat}{a:lr}{i:Nat}{ino:Int}
end
section
variable{lf:Nat}{h h0:U}{T:dU}{R:ez}{n N:Nat}{a:lr}{i:Nat}{ino:Int}
theorem aBH{us:Nat->Bool}{t:Nat}(aK:t<(e8 us N).length):∃i,jg N us (((e8 us N).getD t 0:Nat):Int) i:=by
 have hm:(e8 us N).getD t 0∈e8 us N:=by
  rw[List.getD,List.getElem?_eq_getElem aK];exact List.getElem_mem aK
 obtain⟨i,h1,h2⟩:=List.mem_map.1 hm;obtain⟨h3,aU⟩:=List.mem_filter.1 h1;exact⟨i,List.mem_range.1 h3,aU,by rw[<- h2]⟩
end
noncomputable section
variable{C:ad}{lf:Nat}{bc a6 gi hJ gj hK qF qG qH qI qJ qK qC qD qE:gD}{ar:kR}
def ep:ca ax:=dv 11 Tryd.f11 Tryd.func11 (by kernel_rfl)
noncomputable def rC(aM:O)(h:U):ab:=
 ob aM λa=>some (.ret a,h)
def Jn(C:ad)(lf:Nat)(r:aC)(x11 x12 x16 x23:O)(h:U):ab:=
 ob x16 λa=>mO 33 x23 λb=>cm .eql 3 a b λa=>b8 a x16 h λb k=>b8 a x12 k λc k=>b8 a (bin ax .add 3 b c) k λb k=>b8 a x11 k λc k=>b8 a (bin ax .eql 3 b c) k λb k=>h9 a b λa=>eo (dL true (some a) (da C 35 [] k λa k=>some (.ret a,k)) k) λb k=>h9 a b λa=>r (some a) k
theorem asd{r:aC}:∀F h,au ep C lf [1,1,1,1,1,1,1,1,1,1,1] F h bc (aX r 6) ar=bm (Jn C lf r) 11 12 16 23 F h:=by
 intro F h;kernel_rfl
def Ey(C:ad)(lf:Nat)(n:hf)(r:aC)(m3:br)(x11 x12 du x16 x23 BG BH wO:O)(h:U):ab:=
 lX .lss 3 wO BH (ob wO λa=>ob BG λb=>r4 1 b wO h λb=>cm .lss 3 b (I 0) λc=>dJ c (some b) h λd k=>dJ c x11 k λg k=>dJ c (bin ax .geq 3 d g) k λd k=>nk c d λc=>dJ c du k λd k=>dJ c (some b) k λg k=>dJ c (dD 1 d g) k λd k=>h4 .eql 3 c (b0 d k) (I 0) k λd k=>nk c d λc=>h4 .gtr 3 c (some a) (I 0) k λd k=>dJ c (some d) k λd k=>b8 d x23 k λg k=>iR .sub 3 d (some a) (I 1) k λa k=>b8 d (dD 1 g a) k λa k=>b8 d (b0 a k) k λa k=>b8 d (some b) k λb k=>b8 d (bin ax .geq 3 a b) k λa k=>dJ c (jf d a (.bool false)) k λa k=>n7 c a (r (some (.bool false)) k) (cB .add 3 wO (I 1) λa=>n x11 x12 du x16 x23 BG BH (some a) k)) (m3 x11 x12 x16 x23 h)
theorem asi{n:hf}{r:aC}{m3:br}:∀F h,au ep C lf [1,1,1,1,1,1,1,1,1,1,0,1,0,0] F h (kS n 11 12 15 16 23 103 104 105) (aX r 6) (bS 6 (bm m3 11 12 16 23) ar)=kS (Ey C lf n r m3) 11 12 15 16 23 103 104 105 F h:=by
 intro F h;kernel_rfl
def AM(C:ad)(lf:Nat)(r:aC)(m3:br)(k:O×O×O×O×O×O×O×O->U->ab)(s:O×O×O×O×O×O×O×O)(h:U):ab:=
 Ey C lf (λa b c d g i j m=>k (a,b,c,d,g,i,j,m)) r m3 s.1 s.2.1 s.2.2.1 s.2.2.2.1 s.2.2.2.2.1 s.2.2.2.2.2.1 s.2.2.2.2.2.2.1 s.2.2.2.2.2.2.2 h
def R7(C:ad)(lf:Nat)(n:hf)(x11 x12 du x16 x23:O)(h:U):ab:=
 ob x23 λa=>mg 33 a λb=>n x11 x12 du x16 x23 (some a) (some b) (bE 0) h
theorem asj{n:hf}:∀F h,au ep C lf [1,1,1,1,1,1,1,1,1,1,0,0] F h (kS n 11 12 15 16 23 103 104 105) a6 ar=dj (R7 C lf n) 11 12 15 16 23 F h:=by
 intro F h;kernel_rfl
def R8(C:ad)(lf:Nat)(n:br)(r:aC)(x11 x12 du x16 x23:O)(h:U):ab:=
 R7 C lf (λa b c d g i j m=>bp (AM C lf r n) lf (a,b,c,d,g,i,j,m)) x11 x12 du x16 x23 h
theorem asl{n:br}{r:aC}:∀F h,au ep C lf [1,1,1,1,1,1,1,1,1,1,0] F h (bm n 11 12 16 23) (aX r 6) ar=dj (R8 C lf n r) 11 12 15 16 23 F h:=bn (b:=b9 ep [1,1,1,1,1,1,1,1,1,1,0,1]) (by kernel_rfl) (fX (id:=6) (a:=b9 ep [1,1,1,1,1,1,1,1,1,1,0,1,0]) (by kernel_rfl) (gX (g:=λF=>(F 11,F 12,F 15,F 16,F 23,F 103,F 104,F 105)) (body:=AM C lf r n) (by kernel_rfl) (λk=>(asi (n:=λx11 x12 du x16 x23 BG BH wO h=>k (x11,x12,du,x16,x23,BG,BH,wO) h))))) (asj (n:=λx11 x12 du x16 x23 BG BH wO h=>bp (AM C lf r n) lf (x11,x12,du,x16,x23,BG,BH,wO) h))
def R9(C:ad)(lf:Nat)(r:aC)(x11 x12 du x16 x23:O)(h:U):ab:=
 R8 C lf (Jn C lf r) r x11 x12 du x16 x23 h
theorem asm{r:aC}:∀F h,au ep C lf [1,1,1,1,1,1,1,1,1,1] F h bc (aX r 6) ar=dj (R9 C lf r) 11 12 15 16 23 F h:=bn (by kernel_rfl) asd asl
def Sa(C:ad)(lf:Nat)(n:dq)(x7 x11 x12 du x16:O)(h:U):ab:=
 aQ C 48 x7 h λa=>n x11 x12 du x16 (some a)
theorem asn{n:dq}:∀F h,au ep C lf [1,1,1,1,1,1,1,1,1,0] F h (dj n 11 12 15 16 23) a6 ar=dj (Sa C lf n) 7 11 12 15 16 F h:=by
 intro F h;kernel_rfl
def Jq(C:ad)(lf:Nat)(r:aC)(x7 x11 x12 du x16:O)(h:U):ab:=
 Sa C lf (R9 C lf r) x7 x11 x12 du x16 h
theorem aso{r:aC}:∀F h,au ep C lf [1,1,1,1,1,1,1,1,1] F h bc (aX r 6) ar=dj (Jq C lf r) 7 11 12 15 16 F h:=bn (by kernel_rfl) asm asn
def Jr(C:ad)(lf:Nat)(n:hf)(x7 x11 x12 du x16 x58 x59 x60:O)(h:U):ab:=
 cB .add 3 x60 (I 1) λa=>n x7 x11 x12 du x16 x58 x59 (some a) h
theorem asp{n:hf}:∀F h,au ep C lf [1,1,1,1,1,1,1,1,0,1,0,0,1,1,1] F h (kS n 7 11 12 15 16 58 59 60) a6 (bS 2 gj ar)=kS (Jr C lf n) 7 11 12 15 16 58 59 60 F h:=by
 intro F h;kernel_rfl
def Ev(C:ad)(lf:Nat)(n:BY)(r:aC)(ef:hf)(x7 x11 x12 du x16 ih x58 x59 x60 BI BJ zg:O)(h:U):ab:=
 lX .lss 3 zg BJ (ob BI λa=>r4 1 a zg h λa=>cm .lss 3 a (I 0) λb=>dJ b (some a) h λc k=>dJ b x11 k λd k=>dJ b (bin ax .geq 3 c d) k λc k=>nk b c λb=>dJ b du k λc k=>dJ b (some a) k λd k=>dJ b (dD 1 c d) k λc k=>h4 .neq 3 b (b0 c k) (I 0) k λc k=>n7 b c (r (some (.bool false)) k) (ob du λb=>ob ih λc=>ob (dD 1 b a) λa=>ob (st 1 a c k) λk=>cB .add 3 x16 (I 1) λa=>cB .add 3 zg (I 1) λb=>n x7 x11 x12 du (some a) ih x58 x59 x60 BI BJ (some b) k)) (ef x7 x11 x12 du x16 x58 x59 x60 h)
theorem arI{n:BY}{r:aC}{ef:hf}:∀F h,au ep C lf [1,1,1,1,1,1,1,1,0,1,0,0,1,1,0,0,1,1,1,1,0,0] F h (Mc n 7 11 12 15 16 18 58 59 60 73 74 75) (aX r 6) (bS 4 (kS ef 7 11 12 15 16 58 59 60) (bS 3 hK (bS 2 gj ar)))=Mc (Ev C lf n r ef) 7 11 12 15 16 18 58 59 60 73 74 75 F h:=by
 intro F h;kernel_rfl
def AN(C:ad)(lf:Nat)(r:aC)(ef:hf)(k:O×O×O×O×O×O×O×O×O×O×O×O->U->ab)(s:O×O×O×O×O×O×O×O×O×O×O×O)(h:U):ab:=
 Ev C lf (λa b c d g i j m o p q t=>k (a,b,c,d,g,i,j,m,o,p,q,t)) r ef s.1 s.2.1 s.2.2.1 s.2.2.2.1 s.2.2.2.2.1 s.2.2.2.2.2.1 s.2.2.2.2.2.2.1 s.2.2.2.2.2.2.2.1 s.2.2.2.2.2.2.2.2.1 s.2.2.2.2.2.2.2.2.2.1 s.2.2.2.2.2.2.2.2.2.2.1 s.2.2.2.2.2.2.2.2.2.2.2 h
def RK(C:ad)(lf:Nat)(n:BY)(x7 x11 x12 du x16 ih np x58 x59 x60:O)(h:U):ab:=
 ob np λa=>mg 33 a λb=>n x7 x11 x12 du x16 ih x58 x59 x60 (some a) (some b) (bE 0) h
theorem arJ{n:BY}:∀F h,au ep C lf [1,1,1,1,1,1,1,1,0,1,0,0,1,1,0,0,1,1,1,0] F h (Mc n 7 11 12 15 16 18 58 59 60 73 74 75) a6 (bS 3 hK (bS 2 gj ar))=Ma (RK C lf n) 7 11 12 15 16 18 19 58 59 60 F h:=by
 intro F h;kernel_rfl
def RL(C:ad)(lf:Nat)(n:hf)(r:aC)(x7 x11 x12 du x16 ih np x58 x59 x60:O)(h:U):ab:=
 RK C lf (λa b c d g i j m o p q t=>bp (AN C lf r n) lf (a,b,c,d,g,i,j,m,o,p,q,t)) x7 x11 x12 du x16 ih np x58 x59 x60 h
theorem arK{n:hf}{r:aC}:∀F h,au ep C lf [1,1,1,1,1,1,1,1,0,1,0,0,1,1,0,0,1,1,1] F h (kS n 7 11 12 15 16 58 59 60) (aX r 6) (bS 3 hK (bS 2 gj ar))=Ma (RL C lf n r) 7 11 12 15 16 18 19 58 59 60 F h:=bn (b:=b9 ep [1,1,1,1,1,1,1,1,0,1,0,0,1,1,0,0,1,1,1,1]) (by kernel_rfl) (fX (id:=4) (a:=b9 ep [1,1,1,1,1,1,1,1,0,1,0,0,1,1,0,0,1,1,1,1,0]) (by kernel_rfl) (gX (g:=λF=>(F 7,F 11,F 12,F 15,F 16,F 18,F 58,F 59,F 60,F 73,F 74,F 75)) (body:=AN C lf r n) (by kernel_rfl) (λk=>(arI (n:=λx7 x11 x12 du x16 ih x58 x59 x60 BI BJ zg h=>k (x7,x11,x12,du,x16,ih,x58,x59,x60,BI,BJ,zg) h))))) (arJ (n:=λx7 x11 x12 du x16 ih x58 x59 x60 BI BJ zg h=>bp (AN C lf r n) lf (x7,x11,x12,du,x16,ih,x58,x59,x60,BI,BJ,zg) h))
def RM(C:ad)(lf:Nat)(n:FP)(r:aC)(x7 x11 x12 du x16 ih np o2 x58 x59 x60:O)(h:U):ab:=
 aQ C 34 o2 h λa k=>eF .neq 3 a (I 0) (r (some (.bool false)) k) (n x7 x11 x12 du x16 ih np x58 x59 x60 k)
theorem arL{n:FP}{r:aC}:∀F h,au ep C lf [1,1,1,1,1,1,1,1,0,1,0,0,1,1,0,0,1,1,0] F h (Ma n 7 11 12 15 16 18 19 58 59 60) (aX r 6) (bS 3 hK (bS 2 gj ar))=Mb (RM C lf n r) 7 11 12 15 16 18 19 20 58 59 60 F h:=by
 intro F h;kernel_rfl
def RN(C:ad)(lf:Nat)(n:hf)(r:aC)(x7 x11 x12 du x16 ih np o2 x58 x59 x60:O)(h:U):ab:=
 RM C lf (RL C lf n r) r x7 x11 x12 du x16 ih np o2 x58 x59 x60 h
theorem arM{n:hf}{r:aC}:∀F h,au ep C lf [1,1,1,1,1,1,1,1,0,1,0,0,1,1,0,0,1,1] F h (kS n 7 11 12 15 16 58 59 60) (aX r 6) (bS 3 hK (bS 2 gj ar))=Mb (RN C lf n r) 7 11 12 15 16 18 19 20 58 59 60 F h:=bn (by kernel_rfl) arK arL
def RO(C:ad)(lf:Nat)(n:FQ)(x7 x11 x12 du x16 ih x58 x59 x60:O)(h:U):ab:=
 a3 C 51 x7 ih h λa k=>dn a λa b=>n x7 x11 x12 du x16 ih (some a) (some b) x58 x59 x60 k
theorem arN{n:FQ}:∀F h,au ep C lf [1,1,1,1,1,1,1,1,0,1,0,0,1,1,0,0,1,0] F h (Mb n 7 11 12 15 16 18 19 20 58 59 60) a6 (bS 3 hK (bS 2 gj ar))=zD (RO C lf n) 7 11 12 15 16 18 58 59 60 F h:=by
 intro F h;kernel_rfl
def RP(C:ad)(lf:Nat)(n:hf)(r:aC)(x7 x11 x12 du x16 ih x58 x59 x60:O)(h:U):ab:=
 RO C lf (RN C lf n r) x7 x11 x12 du x16 ih x58 x59 x60 h
theorem arO{n:hf}{r:aC}:∀F h,au ep C lf [1,1,1,1,1,1,1,1,0,1,0,0,1,1,0,0,1] F h (kS n 7 11 12 15 16 58 59 60) (aX r 6) (bS 3 hK (bS 2 gj ar))=zD (RP C lf n r) 7 11 12 15 16 18 58 59 60 F h:=bn (by kernel_rfl) arM arN
def RQ(C:ad)(lf:Nat)(n:zw)(x7 x11 x12 du x16 x58 x59 x60:O)(h:U):ab:=
 ob x58 λa=>r4 1 a x60 h λa=>n x7 x11 x12 du x16 (some a) x58 x59 x60 h
theorem arP{n:zw}:∀F h,au ep C lf [1,1,1,1,1,1,1,1,0,1,0,0,1,1,0,0,0] F h (zD n 7 11 12 15 16 18 58 59 60) a6 (bS 3 hK (bS 2 gj ar))=kS (RQ C lf n) 7 11 12 15 16 58 59 60 F h:=by
 intro F h;kernel_rfl
def RR(C:ad)(lf:Nat)(n:hf)(r:aC)(x7 x11 x12 du x16 x58 x59 x60:O)(h:U):ab:=
 RQ C lf (RP C lf n r) x7 x11 x12 du x16 x58 x59 x60 h
theorem arQ{n:hf}{r:aC}:∀F h,au ep C lf [1,1,1,1,1,1,1,1,0,1,0,0,1,1,0,0] F h (kS n 7 11 12 15 16 58 59 60) (aX r 6) (bS 3 hK (bS 2 gj ar))=kS (RR C lf n r) 7 11 12 15 16 58 59 60 F h:=bn (by kernel_rfl) arO arP
def RS(C:ad)(lf:Nat)(n:hf)(r:aC)(x7 x11 x12 du x16 x58 x59 x60:O)(h:U):ab:=
 RR C lf (Jr C lf n) r x7 x11 x12 du x16 x58 x59 x60 h
theorem arR{n:hf}{r:aC}:∀F h,au ep C lf [1,1,1,1,1,1,1,1,0,1,0,0,1,1] F h (kS n 7 11 12 15 16 58 59 60) (aX r 6) (bS 2 gj ar)=kS (RS C lf n r) 7 11 12 15 16 58 59 60 F h:=bn (a:=b9 ep [1,1,1,1,1,1,1,1,0,1,0,0,1,1,0]) (by kernel_rfl) asp (fX (id:=3) (by kernel_rfl) arQ)
noncomputable def Jk(C:ad)(lf:Nat)(n:hf)(aw:dq)(x7 x11 x12 du x16 x58 x59 x60 Wn:O)(h:U):ab:=
 ob Wn λa=>fV a (n x7 x11 x12 du x16 x58 x59 x60 h) (aw x7 x11 x12 du x16 h)
theorem arS{n:hf}{aw:dq}:∀F h,au ep C lf [1,1,1,1,1,1,1,1,0,1,0,0,1,0] F h (kS n 7 11 12 15 16 58 59 60) a6 (bS 2 (dj aw 7 11 12 15 16) ar)=zD (Jk C lf n aw) 7 11 12 15 16 58 59 60 61 F h:=by
 intro F h;kernel_rfl
def Jl(C:ad)(lf:Nat)(n:hf)(r:aC)(aw:dq)(x7 x11 x12 du x16 x58 x59 x60 Wn:O)(h:U):ab:=
 Jk C lf (RS C lf n r) aw x7 x11 x12 du x16 x58 x59 x60 Wn h
theorem arT{n:hf}{r:aC}{aw:dq}:∀F h,au ep C lf [1,1,1,1,1,1,1,1,0,1,0,0,1] F h (kS n 7 11 12 15 16 58 59 60) (aX r 6) (bS 2 (dj aw 7 11 12 15 16) ar)=zD (Jl C lf n r aw) 7 11 12 15 16 58 59 60 61 F h:=bn (by kernel_rfl) arR arS
def Jm(C:ad)(lf:Nat)(n:zw)(x7 x11 x12 du x16 x58 x59 x60:O)(h:U):ab:=
 n4 .lss 3 x60 x59 λa=>n x7 x11 x12 du x16 x58 x59 x60 (some a) h
theorem arU{n:zw}:∀F h,au ep C lf [1,1,1,1,1,1,1,1,0,1,0,0,0] F h (zD n 7 11 12 15 16 58 59 60 61) a6 (bS 2 gj ar)=kS (Jm C lf n) 7 11 12 15 16 58 59 60 F h:=by
 intro F h;kernel_rfl
def Ew(C:ad)(lf:Nat)(n:hf)(r:aC)(aw:dq)(x7 x11 x12 du x16 x58 x59 x60:O)(h:U):ab:=
 Jm C lf (Jl C lf n r aw) x7 x11 x12 du x16 x58 x59 x60 h
theorem arV{n:hf}{r:aC}{aw:dq}:∀F h,au ep C lf [1,1,1,1,1,1,1,1,0,1,0,0] F h (kS n 7 11 12 15 16 58 59 60) (aX r 6) (bS 2 (dj aw 7 11 12 15 16) ar)=kS (Ew C lf n r aw) 7 11 12 15 16 58 59 60 F h:=bn (by kernel_rfl) arT arU
def v3(C:ad)(lf:Nat)(r:aC)(aw:dq)(k:O×O×O×O×O×O×O×O->U->ab)(s:O×O×O×O×O×O×O×O)(h:U):ab:=
 Ew C lf (λa b c d g i j m=>k (a,b,c,d,g,i,j,m)) r aw s.1 s.2.1 s.2.2.1 s.2.2.2.1 s.2.2.2.2.1 s.2.2.2.2.2.1 s.2.2.2.2.2.2.1 s.2.2.2.2.2.2.2 h
def RT(C:ad)(lf:Nat)(n:hf)(x7 x11 x12 du x16:O)(h:U):ab:=
 aQ C 47 x7 h λa k=>mg 33 a λb=>n x7 x11 x12 du x16 (some a) (some b) (bE 0) k
theorem arW{n:hf}:∀F h,au ep C lf [1,1,1,1,1,1,1,1,0,0] F h (kS n 7 11 12 15 16 58 59 60) a6 ar=dj (RT C lf n) 7 11 12 15 16 F h:=by
 intro F h;kernel_rfl
def RU(C:ad)(lf:Nat)(n:dq)(r:aC)(x7 x11 x12 du x16:O)(h:U):ab:=
 RT C lf (λa b c d g i j m=>bp (v3 C lf r n) lf (a,b,c,d,g,i,j,m)) x7 x11 x12 du x16 h
theorem arX{n:dq}{r:aC}:∀F h,au ep C lf [1,1,1,1,1,1,1,1,0] F h (dj n 7 11 12 15 16) (aX r 6) ar=dj (RU C lf n r) 7 11 12 15 16 F h:=bn (b:=b9 ep [1,1,1,1,1,1,1,1,0,1]) (by kernel_rfl) (fX (id:=2) (a:=b9 ep [1,1,1,1,1,1,1,1,0,1,0]) (by kernel_rfl) (gX (g:=λF=>(F 7,F 11,F 12,F 15,F 16,F 58,F 59,F 60)) (body:=v3 C lf r n) (by kernel_rfl) (λk=>(arV (n:=λx7 x11 x12 du x16 x58 x59 x60 h=>k (x7,x11,x12,du,x16,x58,x59,x60) h))))) (arW (n:=λx7 x11 x12 du x16 x58 x59 x60 h=>bp (v3 C lf r n) lf (x7,x11,x12,du,x16,x58,x59,x60) h))
def RV(C:ad)(lf:Nat)(r:aC)(x7 x11 x12 du x16:O)(h:U):ab:=
 RU C lf (Jq C lf r) r x7 x11 x12 du x16 h
theorem arY{r:aC}:∀F h,au ep C lf [1,1,1,1,1,1,1,1] F h bc (aX r 6) ar=dj (RV C lf r) 7 11 12 15 16 F h:=bn (by kernel_rfl) aso arX
def RW(C:ad)(lf:Nat)(n:dq)(x7 x11 x12 du:O)(h:U):ab:=
 n x7 x11 x12 du (bE 0) h
theorem arZ{n:dq}:∀F h,au ep C lf [1,1,1,1,1,1,1,0] F h (dj n 7 11 12 15 16) a6 ar=bm (RW C lf n) 7 11 12 15 F h:=by
 intro F h;kernel_rfl
def RX(C:ad)(lf:Nat)(r:aC)(x7 x11 x12 du:O)(h:U):ab:=
 RW C lf (RV C lf r) x7 x11 x12 du h
theorem ar0{r:aC}:∀F h,au ep C lf [1,1,1,1,1,1,1] F h bc (aX r 6) ar=bm (RX C lf r) 7 11 12 15 F h:=bn (by kernel_rfl) arY arZ
noncomputable def RY(C:ad)(lf:Nat)(n:br)(x7 x11 x12:O)(h:U):ab:=
 ob x11 λa=>b2 (mU ax 33 a a h) λa=>n x7 x11 x12 (some a)
theorem ar1{n:br}:∀F h,au ep C lf [1,1,1,1,1,1,0] F h (bm n 7 11 12 15) a6 ar=bB (RY C lf n) 7 11 12 F h:=by
 intro F h;kernel_rfl
def RZ(C:ad)(lf:Nat)(r:aC)(x7 x11 x12:O)(h:U):ab:=
 RY C lf (RX C lf r) x7 x11 x12 h
theorem ar2{r:aC}:∀F h,au ep C lf [1,1,1,1,1,1] F h bc (aX r 6) ar=bB (RZ C lf r) 7 11 12 F h:=bn (by kernel_rfl) ar0 ar1
def R0(C:ad)(lf:Nat)(n:bG)(x7:O)(h:U):ab:=
 aQ C 39 x7 h λa k=>dn a λb c=>ob (ext 2 a) λd=>ob (ext 3 a) λa=>n x7 (some b) (some c) k
theorem ar3{n:bG}:∀F h,au ep C lf [1,1,1,1,1,0] F h (bB n 7 11 12) a6 ar=aX (R0 C lf n) 7 F h:=by
 intro F h;kernel_rfl
def A9(C:ad)(lf:Nat)(r:aC)(x7:O)(h:U):ab:=
 R0 C lf (RZ C lf r) x7 h
theorem ar4{r:aC}:∀F h,au ep C lf [1,1,1,1,1] F h bc (aX r 6) ar=aX (A9 C lf r) 7 F h:=bn (by kernel_rfl) ar2 ar3
def Ba(C:ad)(lf:Nat)(n:dq)(aB:aC)(x7 aT wP n9 jx:O)(h:U):ab:=
 lX .lss 3 jx n9 (ob wP λa=>mh 8 a jx λa=>ob (iD 8 a h) λa=>b2 (q5 ax 92 h) λb k=>ob (st 8 b a k) λk=>ob x7 λa=>ob aT λc=>ob (iD 8 b k) λb=>da C 50 [a,c,b] k λa k=>cB .add 3 jx (I 1) λa=>n x7 aT wP n9 (some a) k) (aB x7 h)
theorem ar5{n:dq}{aB:aC}:∀F h,au ep C lf [1,1,1,1,0,1,0,0] F h (dj n 7 8 37 38 39) a6 (bS 0 (aX aB 7) ar)=dj (Ba C lf n aB) 7 8 37 38 39 F h:=by
 intro F h;kernel_rfl
def vZ(C:ad)(lf:Nat)(aB:aC)(k:O×O×O×O×O->U->ab)(s:O×O×O×O×O)(h:U):ab:=
 Ba C lf (λa b c d g=>k (a,b,c,d,g)) aB s.1 s.2.1 s.2.2.1 s.2.2.2.1 s.2.2.2.2 h
def R1(C:ad)(lf:Nat)(n:dq)(x2 x7 aT:O)(h:U):ab:=
 ob x2 λa=>mg 88 a λb=>n x7 aT (some a) (some b) (bE 0) h
theorem ar6{n:dq}:∀F h,au ep C lf [1,1,1,1,0,0] F h (dj n 7 8 37 38 39) a6 ar=bB (R1 C lf n) 2 7 8 F h:=by
 intro F h;kernel_rfl
def R2(C:ad)(lf:Nat)(n:aC)(x2 x7 aT:O)(h:U):ab:=
 R1 C lf (λa b c d g=>bp (vZ C lf n) lf (a,b,c,d,g)) x2 x7 aT h
theorem ar7{n:aC}:∀F h,au ep C lf [1,1,1,1,0] F h (aX n 7) a6 ar=bB (R2 C lf n) 2 7 8 F h:=bn (b:=b9 ep [1,1,1,1,0,1]) (by kernel_rfl) (fX (id:=0) (a:=b9 ep [1,1,1,1,0,1,0]) (by kernel_rfl) (gX (g:=λF=>(F 7,F 8,F 37,F 38,F 39)) (body:=vZ C lf n) (by kernel_rfl) (λk=>(ar5 (n:=λx7 aT wP n9 jx h=>k (x7,aT,wP,n9,jx) h))))) (ar6 (n:=λx7 aT wP n9 jx h=>bp (vZ C lf n) lf (x7,aT,wP,n9,jx) h))
def R3(C:ad)(lf:Nat)(r:aC)(x2 x7 aT:O)(h:U):ab:=
 R2 C lf (A9 C lf r) x2 x7 aT h
theorem ar8{r:aC}:∀F h,au ep C lf [1,1,1,1] F h bc (aX r 6) ar=bB (R3 C lf r) 2 7 8 F h:=bn (by kernel_rfl) ar4 ar7
def R4(C:ad)(lf:Nat)(n:bG)(r:aC)(x2 x7 aT:O)(h:U):ab:=
 gT .eql 64 x7 (.val (.pointer none)) (r (some (.bool false)) h) (n x2 x7 aT h)
theorem ar9{n:bG}{r:aC}:∀F h,au ep C lf [1,1,1,0] F h (bB n 2 7 8) (aX r 6) ar=bB (R4 C lf n r) 2 7 8 F h:=by
 intro F h;kernel_rfl
def R5(C:ad)(lf:Nat)(r:aC)(x2 x7 aT:O)(h:U):ab:=
 R4 C lf (R3 C lf r) r x2 x7 aT h
theorem asa{r:aC}:∀F h,au ep C lf [1,1,1] F h bc (aX r 6) ar=bB (R5 C lf r) 2 7 8 F h:=bn (by kernel_rfl) ar8 ar9
def Jo(C:ad)(lf:Nat)(n:bG)(r:aC)(x2 x7 aT:O)(h:U):ab:=
 gT .eql 82 aT (.val (.pointer none)) (da C 35 [] h λa=>r (some a)) (n x2 x7 aT h)
theorem asb{n:bG}{r:aC}:∀F h,au ep C lf [1,1,0] F h (bB n 2 7 8) (aX r 6) ar=bB (Jo C lf n r) 2 7 8 F h:=by
 intro F h;kernel_rfl
def Ex(C:ad)(lf:Nat)(r:aC)(x2 x7 aT:O)(h:U):ab:=
 Jo C lf (R5 C lf r) r x2 x7 aT h
theorem asc{r:aC}:∀F h,au ep C lf [1,1] F h bc (aX r 6) ar=bB (Ex C lf r) 2 7 8 F h:=bn (by kernel_rfl) asa asb
def Jp(C:ad)(lf:Nat)(n:bG)(x0 x1 x2:O)(h:U):ab:=
 a3 C 49 x0 x1 h λa k=>dn a λa b=>n x2 (some a) (some b) k
theorem ase{n:bG}:∀F h,au ep C lf [1,0] F h (bB n 2 7 8) a6 ar=bB (Jp C lf n) 0 1 2 F h:=by
 intro F h;kernel_rfl
def aew(C:ad)(lf:Nat)(r:aC)(x0 x1 x2:O)(h:U):ab:=
 Jp C lf (Ex C lf r) x0 x1 x2 h
theorem asf{r:aC}:∀F h,au ep C lf [1] F h bc (aX r 6) ar=bB (aew C lf r) 0 1 2 F h:=bn (by kernel_rfl) asc ase
noncomputable def aex(C:ad)(lf:Nat)(n:bG)(x0 x1 x2:O)(h:U):ab:=
 n x0 x1 x2 h
theorem asg{n:bG}:∀F h,au ep C lf [0] F h (bB n 0 1 2) a6 ar=bB (aex C lf n) 0 1 2 F h:=by
 intro F h;kernel_rfl
def R6(C:ad)(lf:Nat)(r:aC)(x0 x1 x2:O)(h:U):ab:=
 aex C lf (aew C lf r) x0 x1 x2 h
theorem ash{r:aC}:∀F h,au ep C lf [] F h bc (aX r 6) ar=bB (R6 C lf r) 0 1 2 F h:=bn (by kernel_rfl) asf asg
def Hh(C:ad)(lf:Nat)(al an aD:J)(h:U):ab:=R6 C lf rC (some al) (some an) (some aD) h
def Oq:cK ax:=nx ep Hh (λC lf al an aD h=>c8 (K:=(aX rC 6)) (by kernel_rfl) (Eq.trans (ash _ h) (by kernel_rfl))) (by kernel_rfl)
end
def B3(h:U)(x:J)(L:List gG):Prop:=(FL x/\L=[])\/∃iY pM cap lo m,x= .aY iY pM L.length cap lo/\h.mt iY=some m/\iY<h.next/\
 ∀t (aK:t<L.length),(∀c,c<8->h.cell iY (pM+t*8+c)=L[t].cells[c]?)/\gG.mY h L[t]
theorem B3.len{h:U}{x:J}{L:List gG}(A:B3 h x L):eN ax 88 x=some (I (L.length:Int)):=by
 rcases A with⟨rfl|⟨_,rfl⟩,rfl⟩|⟨iY,pM,cap,lo,m,rfl,_⟩
 ·simp[eN,Tryd.underlying88,fC]
 ·simp[eN,Tryd.underlying88,fC]
 ·exact yD Tryd.underlying88
structure pd (h0 h:U) (T:dU) (R:ez) (n N:Nat) (a:lr):Prop where
 r:Rel h T R n N a
 F:aN h0 h (λ_=>False)
 p:∀j,gw T j->h0.next<=j
 q:∀j,jq R a.q j->h0.next<=j
section
variable{lf:Nat}{h h0 h':U}{T:dU}{R:ez}{n N:Nat}{a a':lr}{o:gG}
theorem pd.step(S:pd h0 h T R n N a)(s:sx h h' T R n N a a'):pd h0 h' T R n N a':=by
 refine⟨s.r,S.F.QK s.f λj aa=>aa.elim (S.p j) (S.q j),S.p,λj aa=>?_⟩;rcases aa with e|e|e|e|⟨u,e⟩
 ·exact S.q j (.inl e)
 ·exact S.q j (.inr (.inl e))
 ·exact S.q j (.inr (.inr (.inl e)))
 ·exact S.q j (.inr (.inr (.inr (.inl e))))
 ·rcases s.aZ u j e with e|e
  ·exact S.q j (.inr (.inr (.inr (.inr ⟨u,e⟩))))
  ·exact Nat.le_trans S.F.next e
theorem pd.jI(S:pd h0 h T R n N a)(F:aN h h' (λ_=>False)):pd h0 h' T R n N a:=⟨S.r.jI F,S.F.trans F,S.p,S.q⟩
theorem gG.one(O:gG.mY h o):eA o.cells=true:=by
 have:o.kp.one=true:=by
  rcases O.t.2 with⟨e|⟨k,e⟩,_⟩|⟨bM,ob,cap,lo,m,e,_⟩<;>rw[e]<;>rfl
 show(true&&(true&&(true&&(true&&(true&&(o.kp.one&&(true&&(true&&true))))))))=true;rw[this];rfl
theorem ap7{C:ad}(zr:zq C)(S:pd h0 h T R n N a)(O:gG.mY h0 o){iY off:Nat}{m:o8}(hm:h0.mt iY=some m)(As:iY<h0.next)(ae:∀c,c<8->h0.cell iY (off+c)=o.cells[c]?):
 ∃g h1 h2 a',iD 8 (.ptr iY off) h=some (.agg o.cells)/\q5 ax 92 h=some (.ptr h.next 0,g)/\st 8 (.ptr h.next 0) (.agg o.cells) g=some h1/\iD 8 (.ptr h.next 0) h1=some (.agg o.cells)/\
  C (.fn 50) [.ptr T.a9 0,.ptr R.rt 0,.agg o.cells] h1=some (.ret (.bool true),h2)/\pd h0 h2 T R n N a'/\aN h h2 (λj=>gw T j\/jq R a.q j)/\(∀u k,a'.q u=some k->a.q u=some k\/h.next<=k):=by
 have aj:=S.F.same iY As (λe=>e);have aJ:o.cells.length=8:=rfl;obtain⟨z,a1,iB⟩:∃z,hE ax 92=some z/\(c2 z).cells.length=8:=ahs (by kernel_rfl);have air:=zj (P:=ax) (e:=92) (h:=h) a1;have w:=mT (h:=h) (o:=dR 92 (c2 z).cells) rfl;have aO:(dR 92 (c2 z).cells).n=8:=iB;rw[aO] at w;have s1:=jt (n:=8) (off:=0) (y:= .agg o.cells) w aJ (by omega) (gG.one O);have h6:(J.agg o.cells).cells=o.cells:=rfl;rw[h6] at s1;have aL:aN h ((h.new (dR 92 (c2 z).cells)).set h.next 0 o.cells) (λ_=>False):=(aN.new h _ _).hN (fO rfl) (Nat.le_refl _)
 have b0:iD 8 (.ptr h.next 0) ((h.new (dR 92 (c2 z).cells)).set h.next 0 o.cells)=some (.agg o.cells):=by
  obtain⟨wb,ant,_⟩:=e1 (off:=0) (k:=h.next) (ys:=o.cells) w;rw[v7 ant,qd aJ λj aa=>?_]
  ·rfl
  ·rw[Nat.zero_add,ir w (by omega) (Nat.zero_le _) (by omega),Nat.sub_zero]
 generalize(h.new (dR 92 (c2 z).cells)).set h.next 0 o.cells=h1 at *
 have jh:=S.jI aL;have gF:gG.mY h1 o:=⟨O.k,O.ino,O.x,O.y,O.mo,O.t.frame λbM ob len cap lo e=>jh.F.same bM (O.iH bM (by rw[e];rfl)) (λe=>e),O.BA,λj aa=>Nat.lt_of_lt_of_le (O.iH j aa) jh.F.next⟩;obtain⟨h2,a',a3,s2⟩:=zr h1 T R n N a o jh.r gF λj aa=>⟨λe=>by have:=O.iH j aa;have:=S.p j e;omega,λe=>by have:=O.iH j aa;have:=S.q j e;omega⟩
 refine⟨_,h1,h2,a',?_,air,s1,b0,a3,jh.step s2,(aL.eb λ_ e=>e.elim).trans s2.f,λu k e=>(s2.aZ u k e).imp id λx=>Nat.le_trans aL.next x⟩;rw[v7 (m:=m) (by rw[aj.mt];exact hm),qd aJ λj aa=>by rw[aj.cell];exact ae j aa];rfl
def al:lr:=⟨⟨λ_=>0,λ_=>0,λ_=>fr,λ_ _=>0⟩,0,λ_=>false,λ_=>none,λ_=>0,λ_=>fr⟩
theorem adM:bU (λ_=>0)=λ_=>false:=funext λj=>by simp[bU]
def Gh(C:ad):Prop:=∀h (m k:Int),jQ h->hg h->mB<h.next->sn m->sn k->
 ((m<1\/4096<m\/k<1\/4096<k)->C (.fn 49) [I m,I k] h=some (.ret (.bo [.val (.pointer none),.val (.pointer none)]),h))/\
 (1<=m->m<=4096->1<=k->k<=4096->∃h' T R,C (.fn 49) [I m,I k] h=some (.ret (.bo [.ptr T.a9 0,.ptr R.rt 0]),h')/\pd h h' T R m.toNat k.toNat al)
theorem ayn{C:ad}(ah3:L4 C)(w7:LQ C)(kt:tQ C){m k:Int}(ak:jQ h)(jC:hg h)(bd:mB<h.next)(hm:sn m)(ai:sn k):
 ((m<1\/4096<m\/k<1\/4096<k)->CJ C lf (I m) (I k) h=some (.ret (.bo [.val (.pointer none),.val (.pointer none)]),h))/\
 (1<=m->m<=4096->1<=k->k<=4096->∃h' T R,CJ C lf (I m) (I k) h=some (.ret (.bo [.ptr T.a9 0,.ptr R.rt 0]),h')/\pd h h' T R m.toNat k.toNat al):=by
 obtain⟨c5,dM⟩:=ah3 h m k ak hm.1 hm.2 ai.1 ai.2;have d22:decide ((22:Int)≠0)=true:=rfl;have MV:decide ((0:Int)≠0)=false:=rfl;unfold CJ To NM;refine⟨λag=>?_,λbR b2 gW ky=>?_⟩
 ·by_cases az:1048576<m
  ·simp only[aE,bw az,iw]
  ·by_cases aw:1048576<k
   ·simp only[aE,bq az,bw aw]
   ·simp only[aE,bq az,bq aw,c5 ag,List.getElem?_cons_zero,List.getElem?_cons_succ,d22]
 ·have az:decide (1048576<m)=false:=bq (by omega);have aw:decide (1048576<k)=false:=bq (by omega);obtain⟨h1,R,aQ,jN,ei,aL⟩:=dM bR b2 gW ky;obtain⟨h2,a3,cF,c9,bF⟩:=(w7 h1 m k hm.1 hm.2 ai.1 ai.2).2 bR b2 gW ky;have fa:=jN.iP bF λ_ _ e=>e
  have cu:=kt h2 0;generalize m9:(⟨h1.next+3,h1.next+1,h1.next,h1.next+2⟩:dU)=T at *;have amA:h1.next+3=T.a9:=by rw[<- m9]
  rw[amA] at a3
  have nM:∀j,gw T j->h1.next<=j:=λj aa=>by
   rw[<- m9] at aa;rcases aa with rfl|rfl|rfl|rfl
   ·exact Nat.le_add_right _ _
   ·exact Nat.le_add_right _ _
   ·exact Nat.le_refl _
   ·exact Nat.le_add_right _ _
  have H3:∀j,gw T j->j<h2.next:=λj aa=>by
   rw[<- m9] at aa;rcases aa with rfl|rfl|rfl|rfl
   ·show h1.next+3<_;omega
   ·show h1.next+1<_;omega
   ·show h1.next<_;omega
   ·show h1.next+2<_;omega
  have cx:∀j,jq R (λ_=>none) j->sa R m.toNat (λ_=>none) j:=λj aa=>by
   rcases aa with e|e|e|e|⟨u,e⟩
   ·exact .inr (.inl e)
   ·exact .inr (.inr (.inl e))
   ·exact .inr (.inr (.inr (.inl e)))
   ·exact .inl e
   ·cases e
  have nO:mB<h1.next:=Nat.lt_of_lt_of_le bd aL.next
  have nu:=aL.trans bF;have Ls:bP h2 R m.toNat k.toNat (bU (λ_=>0)) (λ_=>none) (λ_=>0) 0 (λ_=>false) (λ_=>fr):=by rw[adM];exact fa
  refine⟨h2,T,R,?_,⟨⟨c9,⟨λi c _ h1 _=>?_,λ_ _=>Nat.zero_le _,λ_ _ _ _ _ h=>absurd h (Nat.lt_irrefl _),λ_ _ _ _ _ _ _ _ _ _ h=>absurd h (Nat.lt_irrefl _)⟩,Ls,λi c _ h1 _=>?_,λ_ _=>rfl,λ_ _ _ _=>rfl,λ_ _=>adC,⟨λ_ _=>agx λ_ _ _=>rfl,λ_ _ _ _ _ _=>rfl,λj aa=>?_⟩,jC.dx nu bd (λe=>e),?_,λj aa e=>?_,λe=>?_,λe=>?_,λu k e=>(by cases e)⟩,nu,λj aa=>Nat.le_trans aL.next (nM j aa),λj aa=>ei j (cx j aa)⟩⟩
  ·simp only[aE,az,aw,aQ,List.getElem?_cons_zero,List.getElem?_cons_succ,MV,a3,cu]
  ·exact if_neg (by omega)
  ·exact if_neg (by omega)
  ·have hh:bU (λ_=>0) j=true:=aa;rw[adM] at hh;cases hh
  ·refine⟨H3 _ (.inl rfl),H3 _ (.inr (.inl rfl)),H3 _ (.inr (.inr (.inl rfl))),H3 _ (.inr (.inr (.inr rfl))),by omega,⟨λe=>?_,λe=>?_,λe=>?_⟩⟩
   ·have:=nM T.bJ (.inr (.inl rfl));omega
   ·have:=nM T.kd (.inr (.inr (.inl rfl)));omega
   ·have:=nM T.aG (.inr (.inr (.inr rfl)));omega
  ·have:=nM j aa
   have:=jN.kK (cx j e)
   omega
  ·have:=nM _ e;omega
  ·have:=ei _ (cx _ e);omega
end
theorem D5{bl:Nat->Nat->Nat}{i b:Nat}:b∈jJ bl i↔∃c,12<=c/\c<308/\bl i c=b+1:=by
 unfold jJ hl eO;simp only[List.mem_map,List.mem_filter,List.mem_range,decide_eq_true_eq];constructor
 ·rintro ⟨v,⟨⟨j,aa,rfl⟩,hv⟩,rfl⟩
  exact⟨12+j,by omega,by omega,by omega⟩
 ·rintro ⟨c,h1,h2,h3⟩
  exact⟨bl i c,⟨⟨c-12,by omega,by rw[show 12+(c-12)=c by omega]⟩,by omega⟩,by omega⟩
def oN(bl:Nat->Nat->Nat)(j7:List Nat):List Nat:=(j7.map λu=>jJ bl (u-1)).flatten
section
variable{n N:Nat}{a:lr}{h:U}{T:dU}{R:ez}
theorem aql(M:cR n N a.s.wd a.s.nd a.s.bl){i:Nat}(hi:i<N):(jJ a.s.bl i).Nodup:=by
 unfold jJ hl eO List.Nodup;rw[List.pairwise_map,List.pairwise_filter,List.pairwise_map];refine(List.nodup_range (n:=296)).imp_of_mem λ{x y} ao bb bY h1 h2 e=>?_
 have ao:=List.mem_range.1 ao;have bb:=List.mem_range.1 bb;simp only[decide_eq_true_eq] at h1 h2
 have:=M.inj i (12+x) i (12+y) hi (by omega) (by omega) hi (by omega) (by omega) h1 (by omega)
 exact bY (by omega)
theorem adT(M:cR n N a.s.wd a.s.nd a.s.bl):(oN a.s.bl (e8 a.us N)).Nodup:=by
 unfold oN e8 List.Nodup;rw[List.map_map];refine List.pairwise_flatten.2 ⟨λl aJ=>?_,?_⟩
 ·obtain⟨i,hi,rfl⟩:=List.mem_map.1 aJ;have hi:=List.mem_range.1 (List.mem_filter.1 hi).1;exact aql M hi
 ·rw[List.pairwise_map];have hu:(hp a.us N).Nodup:=List.Pairwise.filter _ (List.nodup_range (n:=N));refine hu.imp_of_mem λ{x y} ao bb bY b ag b' hT e=>?_
  have ao:=List.mem_range.1 (List.mem_filter.1 ao).1;have bb:=List.mem_range.1 (List.mem_filter.1 bb).1;obtain⟨c,aQ,a3,cl⟩:=D5.1 ag;obtain⟨d,d1,d2,d3⟩:=D5.1 hT;rw[Nat.add_sub_cancel] at cl d3;exact bY (M.inj x c y d ao aQ a3 bb d1 d2 (by omega) (by omega)).1
theorem QA(r:Rel h T R n N a){b:Nat}:b∈oN a.s.bl (e8 a.us N)↔b∈ea a.s.wd n:=by
 unfold oN e8;rw[List.map_map];simp only[List.mem_flatten,List.mem_map];constructor
 ·rintro ⟨l,⟨i,hi,rfl⟩,ag⟩
  have hi:=List.mem_range.1 (List.mem_filter.1 hi).1;obtain⟨c,aQ,a3,cl⟩:=D5.1 ag;rw[Nat.add_sub_cancel] at cl;have h1:=r.M.on i c hi aQ a3 (by omega);have h2:=r.M.le i c;rw[cl,Nat.add_sub_cancel] at h1;exact List.mem_filter.2 ⟨List.mem_range.2 (by omega),h1⟩
 ·intro ag;obtain⟨i,c,hi,aQ,a3,cl⟩:=r.jB.O b (List.mem_filter.1 ag).2
  have hu:a.us i=true:=by
   cases hu:a.us i with
   |true=>rfl
   |false=>have:=r.jB.Z i hi hu c aQ a3;omega
  refine⟨_,⟨i,List.mem_filter.2 ⟨List.mem_range.2 hi,hu⟩,rfl⟩,D5.2 ⟨c,aQ,a3,?_⟩⟩;rw[Nat.add_sub_cancel];exact cl
theorem aBF(wd:Nat->Nat):(ea wd n).Nodup:=List.Pairwise.filter _ (List.nodup_range (n:=n))
theorem aqk(r:Rel h T R n N a):(oN a.s.bl (e8 a.us N)).length=(ea a.s.wd n).length:=
 Nat.le_antisymm (QG (adT r.M) λ_ ag=>(QA r).1 ag) (QG (aBF _) λ_ ag=>(QA r).2 ag)
theorem aBD(wd:Nat->Nat){t:Nat}(h0:0<t)(aK:t<(ea wd n).length):(ea wd n).getD (t-1) 0<(ea wd n).getD t 0:=by
 have aA:(ea wd n).Pairwise (· < ·):=List.Pairwise.filter _ List.pairwise_lt_range
 have:=List.pairwise_iff_getElem.1 aA (t-1) t (by omega) aK (by omega)
 simpa[List.getD,aK,show t-1<(ea wd n).length by omega] using this
theorem aBE(wd:Nat->Nat){t:Nat}(aK:t<(ea wd n).length):(ea wd n).getD t 0∈ea wd n:=by
 rw[List.getD,List.getElem?_eq_getElem aK];exact List.getElem_mem aK
end
structure p6 (h:U) (gh n:Nat) (P:List Nat):Prop where
 w:h.wr gh n
 c:∃ni:Nat->Nat,(∀j,j<n->h.cell gh j=some (I (ni j:Int)))/\∀j,ni j=0↔j ∉ P
section
variable{lf:Nat}{h h0 h1:U}{T:dU}{R:ez}{n N gh:Nat}{a:lr}{P W:List Nat}
theorem p6.same(O:p6 h gh n P)(s:cW h h1 gh):p6 h1 gh n P:=by
 obtain⟨ni,c,z⟩:=O.c;exact⟨hc O.w s,ni,λj aa=>by rw[s.cell];exact c j aa,z⟩
theorem p6.add(O:p6 h gh n P){b u:Nat}(ag:b<n)(hu:0<u):p6 (h.set gh b [I (u:Int)]) gh n (P++[b]):=by
 obtain⟨ni,c,z⟩:=O.c;refine⟨e1 O.w,λj=>if j=b then u else ni j,λj aa=>?_,λj=>?_⟩
 ·dsimp only;by_cases e:j=b
  ·subst e;rw[if_pos rfl,ir O.w (by simp;omega) (Nat.le_refl _) (by simp),Nat.sub_self];rfl
  ·rw[if_neg e,eG (.inr (by simp;omega))];exact c j aa
 ·dsimp only;by_cases e:j=b
  ·subst e;rw[if_pos rfl];simp;omega
  ·rw[if_neg e];simp[e,z]
theorem adV{C:ad}(aO:n<=4096){K4:J}(w6:mr h0 K4 W)(ao:∀j,rowOf K4=some j->j<h0.next/\j≠gh){u:Nat}(hu:0<u)(mD:∀b∈W,b<n){x7 x12 x58 x59 x60:O}(ja:aC)(ef:hf):
 ∀(d t:Nat),t+d=W.length->∀f,d<f->∀h P,p6 h gh n P->P.length+d<=140737488351232->(P++W.drop t).Nodup->aN h0 h (· =gh)->
 ∃h',bp (AN C lf ja ef) f (x7,some (I (n:Int)),x12,some (.aY gh 0 n (some n) 0),some (I (P.length:Int)),some (I (u:Int)),x58,x59,x60,some K4,some (I (W.length:Int)),some (I (t:Int))) h=
  ef x7 (some (I (n:Int))) x12 (some (.aY gh 0 n (some n) 0)) (some (I ((P++W.drop t).length:Int))) x58 x59 x60 h'/\p6 h' gh n (P++W.drop t)/\aN h0 h' (· =gh)
 |0,t,aK,f,ak,h,P,O,nM,jn,F=>by
  obtain⟨f,rfl⟩:=dE f (by omega);have a8:decide ((t:Int)<(W.length:Int))=false:=bq (by omega);have aF:W.drop t=[]:=List.drop_eq_nil_of_le (by omega);rw[aF,List.append_nil];refine⟨h,?_,O,F⟩;rw[dh];unfold AN Ev;simp only[aE,a8]
 |d+1,t,aK,f,ak,h,P,O,nM,jn,F=>by
  obtain⟨f,rfl⟩:=dE f (by omega);have amB:=w6.1;have a8:decide ((t:Int)<(W.length:Int))=true:=bw (by omega);have dy:IntKind.i64.wrap ((t:Int)+1)=((t+1:Nat):Int):=cH (by omega);have ane:IntKind.i64.wrap ((P.length:Int)+1)=((P.length+1:Nat):Int):=cH (by omega);obtain⟨lH,i1,i2⟩:=(w6.frame λj aa=>F.same j (ao j aa).1 (ao j aa).2).at (i:=t) (by omega)
  have Pf:W.drop t=W.getD t 0::W.drop (t+1):=by
   rw[List.drop_eq_getElem_cons (by omega)];simp[List.getD,show t<W.length by omega]
  have ag:W.getD t 0<n:=mD _ (by
   rw[List.getD,List.getElem?_eq_getElem (by omega)];exact List.getElem_mem (by omega))
  rw[Pf] at jn⊢;generalize W.getD t 0=b at *;have O3:b ∉ P:=λe=>(List.nodup_append.1 jn).2.2 b e b (List.mem_cons_self ..) rfl
  obtain⟨ni,QJ,QS⟩:=O.c;have Ec:=QJ b ag;rw[(QS b).2 O3] at Ec;have d1:decide ((b:Int)<0)=false:=bq (by omega);have d2:decide ((n:Int)<=(b:Int))=false:=bq (by omega);have d3:decide (((0:Nat):Int)≠0)=false:=rfl;have b3:=gL (s:=1) (k:=gh) (off:=0) (len:=n) (lo:=0) (cap:=some n) (kd:= .i64) (i:=(b:Int)) (by omega) (by omega);rw[Int.toNat_natCast] at b3;have dk:st 1 (.ptr gh b) (I (u:Int)) h=some (h.set gh b [I (u:Int)]):=jt O.w rfl (by omega) rfl;have e:P++b::W.drop (t+1)=(P++[b])++W.drop (t+1):=by simp
  rw[e] at jn⊢;have aJ:(P++[b]).length=P.length+1:=by simp
  obtain⟨h2,a3,lD,bF⟩:=adV (C:=C) aO w6 ao hu mD (x7:=x7) (x12:=x12) (x58:=x58) (x59:=x59) (x60:=x60) ja ef d (t+1) (by omega) f (by omega) _ (P++[b]) (O.add ag hu) (by omega) jn (F.trans (fO rfl));refine⟨h2,?_,lD,bF⟩;rw[aJ] at a3;rw[dh];show Ev C lf (λa b c d g i j m o p q t=>bp (AN C lf ja ef) f (a,b,c,d,g,i,j,m,o,p,q,t)) ja ef _ _ _ _ _ _ _ _ _ _ _ _ h=_;unfold Ev;simp only[aE,a8,i1,i2,d1,d2,b3,Ec,d3,dk,dy,ane];exact a3
end
section
variable{lf:Nat}{h h0 g0 O0:U}{T:dU}{R:ez}{n N gh:Nat}{a:lr}{P W:List Nat}
theorem aqj(bl:Nat->Nat->Nat)(u:Nat)(l:List Nat):oN bl (u::l)=jJ bl (u-1)++oN bl l:=rfl
theorem adX{C:ad}(ss:vf C)(kt:tQ C)(gf:400<=lf)(aO:n<=4096)(r:Rel g0 T R n N a){x:J}(cZ:mr O0 x (e8 a.us N))(ao:∀j,rowOf x=some j->j<O0.next/\j≠gh)(abW:g0.next<=gh){x12:O}(ja:aC)(aw:dq):
 ∀(d t:Nat),t+d=(e8 a.us N).length->∀f,d<f->∀h P,p6 h gh n P->gh<h.next->(P++oN a.s.bl ((e8 a.us N).drop t)).Nodup->(P++oN a.s.bl ((e8 a.us N).drop t)).length<=4096->aN g0 h (λ_=>False)->aN O0 h (· =gh)->
 ∃h',bp (v3 C lf ja aw) f (some (.ptr T.a9 0),some (I (n:Int)),x12,some (.aY gh 0 n (some n) 0),some (I (P.length:Int)),some x,some (I ((e8 a.us N).length:Int)),some (I (t:Int))) h=
  aw (some (.ptr T.a9 0)) (some (I (n:Int))) x12 (some (.aY gh 0 n (some n) 0)) (some (I ((P++oN a.s.bl ((e8 a.us N).drop t)).length:Int))) h'/\p6 h' gh n (P++oN a.s.bl ((e8 a.us N).drop t))/\aN g0 h' (λ_=>False)/\gh<h'.next
 |0,t,aK,f,ak,h,P,O,ai,jn,hle,F,LD=>by
  obtain⟨f,rfl⟩:=dE f (by omega);have a8:decide ((t:Int)<((e8 a.us N).length:Int))=false:=bq (by omega);have aF:oN a.s.bl ((e8 a.us N).drop t)=[]:=by rw[List.drop_eq_nil_of_le (by omega)];rfl
  rw[aF,List.append_nil];refine⟨h,?_,O,F,ai⟩;rw[dh];unfold v3 Ew Jm;simp only[cg,cf,ru,a8];unfold Jl Jk;simp only[cg,cf,o4]
 |d+1,t,aK,f,ak,h,P,O,ai,jn,hle,F,LD=>by
  obtain⟨f,rfl⟩:=dE f (by omega);have k3:=r.A.hW;have aco:=KW a.us N;have a8:decide ((t:Int)<((e8 a.us N).length:Int))=true:=bw (by omega);have dy:IntKind.i64.wrap ((t:Int)+1)=((t+1:Nat):Int):=cH (by omega);obtain⟨lH,i1,i2⟩:=(cZ.frame λj aa=>LD.same j (ao j aa).1 (ao j aa).2).at (i:=t) (by omega);obtain⟨i,b6⟩:=aBH (us:=a.us) (N:=N) (t:=t) (by omega)
  have Pf:(e8 a.us N).drop t=(e8 a.us N).getD t 0::(e8 a.us N).drop (t+1):=by
   rw[List.drop_eq_getElem_cons (by omega)];simp[List.getD,show t<(e8 a.us N).length by omega]
  rw[Pf,aqj] at jn hle⊢;generalize(e8 a.us N).getD t 0=u at *;obtain⟨hi,hu,acn⟩:=b6;have acn:u=i+1:=by omega
  subst acn;rw[Nat.add_sub_cancel, <- List.append_assoc] at jn hle⊢;have afH:=r.jI F;obtain⟨K4,h1,aQ,w6,aL⟩:=(ss h T n N _ _ _ _ _ _ ((i+1:Nat):Int) afH.A afH.M (by omega) (by omega)).2 i hi hu rfl;have amB:(jJ a.s.bl i).length<=296:=Nat.le_trans (I1 _) (by rw[uI];omega);have WV:=w6.DT (by omega);have cu:=kt h1 0;have MV:decide ((0:Int)≠0)=false:=rfl;have hlen:=WV.len;generalize abU:(λa b c d g i j m=>bp (v3 C lf ja aw) f (a,b,c,d,g,i,j,m):hf)=kk;have qt:∀a b c d g i j m h,kk a b c d g i j m h=bp (v3 C lf ja aw) f (a,b,c,d,g,i,j,m) h:=λ_ _ _ _ _ _ _ _ _=>by rw[<- abU]
  rw[List.length_append] at hle;have anz:(P++(jJ a.s.bl i).drop 0).Nodup:=(List.nodup_append.1 jn).1
  obtain⟨h2,a3,lD,bF⟩:=adV (C:=C) (lf:=lf) aO WV (λj aa=>⟨w6.aY.kK aa,λe=>by have:=w6.new j aa;omega⟩) (u:=i+1) (by omega) (λb ag=>by
   obtain⟨c,aQ,a3,cl⟩:=D5.1 ag
   have:=r.M.le i c
   omega) (x7:=some (.ptr T.a9 0)) (x12:=x12) (x58:=some x) (x59:=some (I ((e8 a.us N).length:Int))) (x60:=some (I (t:Int))) ja (Jr C lf kk) (jJ a.s.bl i).length 0 (by omega) lf (by omega) h1 P (O.same (aL.same gh ai (λe=>e))) (by have oB:(P++jJ a.s.bl i).length=P.length+(jJ a.s.bl i).length:=List.length_append;omega) anz (aN.refl _ _)
  rw[List.drop_zero] at a3 lD;obtain⟨h3,cl,ahZ,gC,gN⟩:=adX ss kt gf aO r cZ ao abW (x12:=x12) ja aw d (t+1) (by omega) f (by omega) h2 (P++jJ a.s.bl i) lD (Nat.lt_of_lt_of_le ai (Nat.le_trans aL.next bF.next)) jn (by rw[List.length_append];exact hle) ((F.trans aL).hN bF abW) ((LD.trans (aL.eb λ_ e=>e.elim)).trans bF);refine⟨h3,?_,ahZ,gC,gN⟩;rw[dh];show Ew C lf (λa b c d g i j m=>bp (v3 C lf ja aw) f (a,b,c,d,g,i,j,m)) ja aw _ _ _ _ _ _ _ _ h=_;rw[abU];unfold Ew Jm;simp only[cg,cf,ru,a8];unfold Jl Jk;simp only[cg,cf,q6];unfold RS RR RQ;simp only[cg,cf,i1,i2];unfold RP RO;simp only[cg,cf,kV,sO,List.getElem?_cons_zero,List.getElem?_cons_succ,aQ];unfold RN RM;simp only[aE,cu,MV];unfold RL RK;simp only[cg,cf,hlen];refine Eq.trans a3 ?_;unfold Jr;simp only[aE,dy,qt];exact cl
theorem adW{C:ad}{wd:Nat->Nat}(aO:n<=4096)(W3:p6 h gh n P)(nM:∀b∈ea wd n,b∈P){x:J}(cZ:mr h x (ea wd n)){x12 x16:O}(ja:aC)(m3:br):
 ∀(d t:Nat),t+d=(ea wd n).length->∀f,d<f->bp (AM C lf ja m3) f (some (I (n:Int)),x12,some (.aY gh 0 n (some n) 0),x16,some x,some x,some (I ((ea wd n).length:Int)),some (I (t:Int))) h=m3 (some (I (n:Int))) x12 x16 (some x) h
 |0,t,aK,f,ak=>by
  obtain⟨f,rfl⟩:=dE f (by omega);have a8:decide ((t:Int)<((ea wd n).length:Int))=false:=bq (by omega);rw[dh];unfold AM Ey;simp only[aE,a8]
 |d+1,t,aK,f,ak=>by
  obtain⟨f,rfl⟩:=dE f (by omega);have aJ:=cZ.1;have a8:decide ((t:Int)<((ea wd n).length:Int))=true:=bw (by omega);have dy:IntKind.i64.wrap ((t:Int)+1)=((t+1:Nat):Int):=cH (by omega);obtain⟨lH,i1,i2⟩:=cZ.at (i:=t) (by omega);have hm:=aBE wd (n:=n) (t:=t) (by omega);have ag:(ea wd n).getD t 0<n:=List.mem_range.1 (List.mem_filter.1 hm).1;have O3:=nM _ hm;have ba:=adW (C:=C) aO W3 nM cZ (x12:=x12) (x16:=x16) ja m3 d (t+1) (by omega) f (by omega);obtain⟨ni,QJ,QS⟩:=W3.c;have Ec:=QJ _ ag;have a1:ni ((ea wd n).getD t 0)≠0:=λe=>(QS _).1 e O3
  have d1:decide ((((ea wd n).getD t 0:Nat):Int)<0)=false:=bq (by omega);have d2:decide ((n:Int)<=(((ea wd n).getD t 0:Nat):Int))=false:=bq (by omega);have d3:decide ((ni ((ea wd n).getD t 0):Int)=0)=false:=bq (by omega);have b3:=gL (s:=1) (k:=gh) (off:=0) (len:=n) (lo:=0) (cap:=some n) (kd:= .i64) (i:=(((ea wd n).getD t 0:Nat):Int)) (by omega) (by omega);rw[Int.toNat_natCast] at b3;rw[dh];show Ey C lf (λa b c d g i j m=>bp (AM C lf ja m3) f (a,b,c,d,g,i,j,m)) ja m3 _ _ _ _ _ _ _ _ h=_;unfold Ey;by_cases h0:t=0
  ·subst h0;have d4:decide ((0:Int)<((0:Nat):Int))=false:=rfl;simp only[aE,a8,i1,i2,d1,d2,b3,Ec,d3,d4,dy];exact ba
  ·have d4:decide ((0:Int)<(t:Int))=true:=bw (by omega);have amV:IntKind.i64.wrap ((t:Int)-1)=((t-1:Nat):Int):=cH (by omega);obtain⟨aC8,vX,yp⟩:=cZ.at (i:=t-1) (by omega);have aDw:=aBD wd (n:=n) (t:=t) (by omega) (by omega);have d5:decide ((((ea wd n).getD t 0:Nat):Int)<=(((ea wd n).getD (t-1) 0:Nat):Int))=false:=bq (by omega);simp only[aE,a8,i1,i2,d1,d2,b3,Ec,d3,d4,amV,vX,yp,d5,dy];exact ba
end
theorem azT{C:ad}{lf:Nat}{r:aC}{x0 x1 x2:O}{h:U}:R6 C lf r x0 x1 x2 h=Jp C lf (λx2 x7 aT h=>Ex C lf r x2 x7 aT h) x0 x1 x2 h:=rfl
section
variable{lf:Nat}{h h0:U}{T:dU}{R:ez}{n N:Nat}{a:lr}
theorem agh{C:ad}(zr:zq C){iY pM:Nat}{cap:Option Nat}{lo:Nat}{m:o8}{L:List gG}(hS:L.length<=140737488355328)(hm:h0.mt iY=some m)(As:iY<h0.next)(ae:∀t (aK:t<L.length),(∀c,c<8->h0.cell iY (pM+t*8+c)=L[t].cells[c]?)/\gG.mY h0 L[t])(aB:aC):
 ∀(d t:Nat),t+d=L.length->∀f,d<f->∀h a,pd h0 h T R n N a->∃h' a',bp (vZ C lf aB) f (some (.ptr T.a9 0),some (.ptr R.rt 0),some (.aY iY pM L.length cap lo),some (I (L.length:Int)),some (I (t:Int))) h=aB (some (.ptr T.a9 0)) h'/\pd h0 h' T R n N a'
 |0,t,aK,f,ak,h,a,S=>by
  obtain⟨f,rfl⟩:=dE f (by omega);have a8:decide ((t:Int)<(L.length:Int))=false:=bq (by omega);refine⟨h,a,?_,S⟩;rw[dh];unfold vZ Ba;simp only[aE,a8]
 |d+1,t,aK,f,ak,h,a,S=>by
  obtain⟨f,rfl⟩:=dE f (by omega);have a8:decide ((t:Int)<(L.length:Int))=true:=bw (by omega);have dy:IntKind.i64.wrap ((t:Int)+1)=((t+1:Nat):Int):=cH (by omega);have b3:=gL (s:=8) (k:=iY) (off:=pM) (len:=L.length) (lo:=lo) (cap:=cap) (kd:= .i64) (i:=(t:Int)) (by omega) (by omega);rw[Int.toNat_natCast] at b3;obtain⟨k1,k2⟩:=ae t (by omega);obtain⟨g,h1,h2,a',s1,s2,eZ,ff,oS,p8,_⟩:=ap7 zr S k2 (off:=pM+t*8) hm As k1;obtain⟨h3,a7,tC,ah6⟩:=agh zr hS hm As ae aB d (t+1) (by omega) f (by omega) h2 a' p8;refine⟨h3,a7,?_,ah6⟩;rw[dh];show Ba C lf (λx7 aT aBZ x23 Fx h=>bp (vZ C lf aB) f (x7,aT,aBZ,x23,Fx) h) aB _ _ _ _ _ h=_;unfold Ba;simp only[aE,a8,b3,s1,s2,eZ,ff,oS,dy];exact tC
theorem azR{C:ad}(gf:5000<=lf)(L9:B6 C)(Mn:zG C)(ss:vf C)(Lu:B7 C)(kt:tQ C)(r:Rel h T R n N a)(H0:∀h',aN h h' (λ_=>False)->C (.fn 35) [] h'=some (.ret (.bool true),h')):
 ∃h',A9 C lf rC (some (.ptr T.a9 0)) h=some (.ret (.bool true),h'):=by
 have fv:n<=4096:=r.B.ref.v.choose_spec.choose_spec.2.2.cF;have k3:=r.A.hW;have aco:=KW a.us N;have na:=Wa a.s.wd n;obtain⟨h1,aQ,aL⟩:=L9 h T n N _ _ _ _ _ r.A;obtain⟨v0,v1,v2,hq⟩:=ayR n (n-(ea a.s.wd n).length) N (N-(e8 a.us N).length)
 have kF:=wT (P:=ax) (t:=33) (e:=3) (s:=1) (b:=8) (z:= .int .i64 0) (k1:= .i64) (k2:= .i64) (l:=n) (c:=n) (h:=h1)
  Tryd.underlying33 (by kernel_rfl) (by kernel_rfl) (by kernel_rfl) (Nat.le_refl _) (by omega) (by omega) rfl (by omega)
 have lD:p6 (h1.new (gZ 3 (n*1) (c2 (.int .i64 0)).cells)) h1.next n []:=by
  refine⟨?_,λ_=>0,λj aa=>?_,λj=>by simp⟩
  ·have:=mT (h:=h1) (o:=gZ 3 (n*1) (c2 (.int .i64 0)).cells) rfl
   have e:(gZ 3 (n*1) (c2 (.int .i64 0)).cells).n=n:=Nat.mul_one n;rw[e] at this;exact this
  ·rw[lK,wk _ _ (by omega)];show[I 0][j%1]?=_;rw[Nat.mod_one];rfl
 have bF:aN h1 (h1.new (gZ 3 (n*1) (c2 (.int .i64 0)).cells)) (λ_=>False):=aN.new _ _ _;have cF:(h1.new (gZ 3 (n*1) (c2 (.int .i64 0)).cells)).next=h1.next+1:=rfl
 generalize h1.new (gZ 3 (n*1) (c2 (.int .i64 0)).cells)=h2 at *;have c5:=r.jI aL;have dM:=c5.jI bF;obtain⟨x3,h3,cl,BW,dp⟩:=Mn h2 T n N _ _ _ _ _ dM.A;have i3:=BW.DT (by omega);have Pr:=i3.len;have jn:([]++oN a.s.bl ((e8 a.us N).drop 0)).Nodup:=adT r.M;have hlen:([]++oN a.s.bl ((e8 a.us N).drop 0)).length=(ea a.s.wd n).length:=aqk r;obtain⟨aU,ct,w8,gC,oL⟩:=adX (lf:=lf) ss kt (by omega) fv c5 i3 (λj aa=>⟨BW.aY.kK aa,λe=>by have:=BW.new j aa;omega⟩) (Nat.le_refl _) (x12:=some (I ((n-(ea a.s.wd n).length:Nat):Int))) rC (λx7 x11 x12 du x16 h=>Jq C lf rC x7 x11 x12 du x16 h) (e8 a.us N).length 0 (by omega) lf (by omega) h3 [] (lD.same (dp.same _ (by omega) (λe=>e))) (by have:=dp.next;omega) jn (by omega) (bF.trans dp) (aN.refl _ _);rw[hlen] at ct;have lj:=c5.jI gC;obtain⟨e2,bA,rv,ahM,BR⟩:=Lu aU T n N _ _ _ _ _ lj.A;have i5:=ahM.DT (by omega);have abX:=i5.len;have vc:=w8.same (BR.same _ oL (λe=>e));have l4:=adW (C:=C) (lf:=lf) fv vc (λb ag=>(QA r).2 ag) i5 (x12:=some (I ((n-(ea a.s.wd n).length:Nat):Int))) (x16:=some (I ((ea a.s.wd n).length:Int))) rC (λx11 x12 x16 x23 h=>Jn C lf rC x11 x12 x16 x23 h) (ea a.s.wd n).length 0 (by omega) lf (by omega);have anV:IntKind.i64.wrap (((ea a.s.wd n).length:Int)+((n-(ea a.s.wd n).length:Nat):Int))=(n:Int):=cH (by omega);refine⟨bA,?_⟩;unfold A9 R0;simp only[cg,cf,kV,aQ,v0,v1,v2,hq];unfold RZ RY;simp only[cg,cf,sC,kF];unfold RX RW RV RU RT;simp only[cg,cf,kV,cl,Pr];refine Eq.trans ct ?_;unfold Jq Sa;simp only[cg,cf,kV,rv];unfold R9 R8 R7;simp only[cg,cf,abX];refine Eq.trans l4 ?_;unfold Jn rC;simp only[aE,abX,decide_true,anV,H0 bA (aL.trans (gC.trans BR))]
theorem azS{C:ad}(gf:140737488355329<=lf)(ak:jQ h0)(Ie:mB<h0.next)(jC:hg h0)(L8:Gh C)(zr:zq C)(L9:B6 C)(Mn:zG C)(ss:vf C)(Lu:B7 C)(kt:tQ C)(H0:∀h,aN h0 h (λ_=>False)->C (.fn 35) [] h=some (.ret (.bool true),h))
 {m k:Int}(hm:sn m)(ai:sn k){x:J}{L:List gG}(P:B3 h0 x L)(hS:L.length<=140737488355328):∃h',Hh C lf (I m) (I k) x h0=some (.ret (.bool true),h'):=by
 obtain⟨c5,dM⟩:=L8 h0 m k ak jC Ie hm ai;have hlen:=P.len;unfold Hh;rw[azT];unfold Jp;by_cases ag:m<1\/4096<m\/k<1\/4096<k
 ·have aO:=ale Tryd.underlying82;refine⟨h0,?_⟩;simp only[cg,cf,kV,c5 ag,sO,List.getElem?_cons_zero,List.getElem?_cons_succ];unfold Ex Jo rC;simp only[cg,cf,aO,q6,H0 h0 (aN.refl _ _),kV]
 ·obtain⟨h1,T,R,aQ,jh⟩:=dM (by omega) (by omega) (by omega) (by omega);have aO:=YX (k:=R.rt) (off:=0) Tryd.underlying82;have fv:=YX (k:=T.a9) (off:=0) Tryd.underlying64
  have loop:∃h' a',bp (vZ C lf (λx7 h=>A9 C lf rC x7 h)) lf (some (.ptr T.a9 0),some (.ptr R.rt 0),some x,some (I (L.length:Int)),some (I 0)) h1=A9 C lf rC (some (.ptr T.a9 0)) h'/\pd h0 h' T R m.toNat k.toNat a':=by
   rcases P with⟨_,rfl⟩|⟨iY,pM,cap,lo,j2,rfl,uq,As,ae⟩
   ·obtain⟨f,rfl⟩:∃g,lf=g+1:=⟨lf-1,by omega⟩;have a8:decide ((0:Int)<(([]:List gG).length:Int))=false:=rfl;refine⟨h1,_,?_,jh⟩;rw[dh];unfold vZ Ba;simp only[aE,a8]
   ·exact agh (lf:=lf) zr hS uq As ae _ L.length 0 (by omega) lf (by omega) h1 _ jh
  obtain⟨h2,aD,a3,p8⟩:=loop;obtain⟨h3,cl⟩:=azR (lf:=lf) (by omega) L9 Mn ss Lu kt p8.r λh' F'=>H0 h' (p8.F.trans F')
  refine⟨h3,?_⟩;simp only[cg,cf,kV,aQ,sO,List.getElem?_cons_zero,List.getElem?_cons_succ];unfold Ex Jo;simp only[cg,cf,aO,o4];unfold R5 R4;simp only[cg,cf,fv,o4];unfold R3 R2 R1;simp only[cg,cf,hlen];rw[a3];exact cl
end
@[irreducible] def bt:Nat:=2 ^ 64
theorem jo{n:Nat}(h:n<=2 ^ 64):n<=bt:=by unfold bt;exact h
theorem ajK{P:Program}{tab:av (fR P)}{lf n k:Nat}{y:cK P}{f:FuncId}{args:List J}{h:U}(ai:k=n+1)(bb:y.x.f=f)(bd:m6 (path f) tab=some (.fn y)):(ho tab lf k).call (.fn f) args h=y.s (ho tab lf n).call lf args h:=by
 subst ai
 have:(ho tab lf (n+1)).call (.fn f) args h=y5 (ho tab lf n) lf f args h (m6 (path f) tab):=rfl
 rw[this,bd];simp only[y5,bb,Nat.beq_refl,cond_true]
noncomputable def agM{P:Program}:List (FuncId×fR P)->av (fR P)
 | []=> .nil
 |(f,x)::xs=>(agM xs).put f x
noncomputable def Oo:ca Tryd.prog:=⟨35,Tryd.f35,λ_=> .text,Tryd.func35,by kernel_rfl,by kernel_rfl,by kernel_rfl,by kernel_rfl⟩
noncomputable def G7(x0:O)(h:U):ab:=
 ob x0 λal=>
 some (.ret al,h)
noncomputable def aeB(C:ad)(lf:Nat)(r:aC)(h:U):ab:=
 eo (C (.fn 36) [(.int .i64 4),(.int .i64 2)] h) λy1 h1=>
 ob (ext 0 y1) λtI=>
 ob (ext 1 y1) λWq=>
 ob (bin Tryd.prog .eql 64 tI (.val (.pointer none))) λzi=>
 eo (dL false (some zi) (some (.ret Wq,h1)) h1) λLa bA=>
 eo (dL false (some zi) (eo (C (.fn 34) [La] bA) λaCG bC=>
 some (.ret aCG,bC)) bA) λahf er=>
 eo (dL false (some zi) (ob (bin Tryd.prog .neq 3 ahf (.int .i64 0)) λaCH=>
 some (.ret aCH,er)) er) λaCI oB=>
 ob (jf zi (.bool true) aCI) λWo=>
 fV Wo
 (r (some (.bool false)) oB)
 (eo (C (.fn 37) [tI,(.int .i64 33188),(.int .i64 0),(.int .i64 0)] oB) λK5 k0=>
 ob (ext 0 K5) λFy=>
 ob (ext 1 K5) λaCb=>
 b2 (iJ Tryd.prog 24 2 [0,1] [(.int .u8 97),(.int .u8 98)] k0) λaCc ame=>
 b2 (q8 Tryd.prog 24 24 aCc ame) λaCd amf=>
 eo (C (.fn 38) [tI,Fy,(.int .i64 100),aCd] amf) λahd amg=>
 ob (ext 0 ahd) λaCe=>
 ob (ext 1 ahd) λaCf=>
 eo (C (.fn 41) [tI,Fy,(.int .i64 98),(.int .i64 10)] amg) λahe abk=>
 ob (ext 0 ahe) λaCg=>
 ob (ext 1 ahe) λaCh=>
 ob (bin Tryd.prog .eql 3 Fy (.int .i64 1)) λK6=>
 eo (dL true (some K6) (some (.ret aCb,abk)) abk) λaCi abl=>
 eo (dL true (some K6) (eo (C (.fn 34) [aCi] abl) λaCj amh=>
 some (.ret aCj,amh)) abl) λaCk HU=>
 eo (dL true (some K6) (ob (bin Tryd.prog .eql 3 aCk (.int .i64 0)) λaCl=>
 some (.ret aCl,HU)) HU) λaCm xO=>
 ob (jf K6 aCm (.bool false)) λWp=>
 eo (dL true (some Wp) (some (.ret aCe,xO)) xO) λaCn abm=>
 eo (dL true (some Wp) (ob (bin Tryd.prog .eql 3 aCn (.int .i64 2)) λaCo=>
 some (.ret aCo,abm)) abm) λaCp abn=>
 ob (jf Wp aCp (.bool false)) λK7=>
 eo (dL true (some K7) (some (.ret aCf,abn)) abn) λaCq Aj=>
 eo (dL true (some K7) (eo (C (.fn 34) [aCq] Aj) λaCr ami=>
 some (.ret aCr,ami)) Aj) λaCs vG=>
 eo (dL true (some K7) (ob (bin Tryd.prog .eql 3 aCs (.int .i64 0)) λaCt=>
 some (.ret aCt,vG)) vG) λaCu abo=>
 ob (jf K7 aCu (.bool false)) λK8=>
 eo (dL true (some K8) (some (.ret aCh,abo)) abo) λaCv abp=>
 eo (dL true (some K8) (eo (C (.fn 34) [aCv] abp) λaCw amk=>
 some (.ret aCw,amk)) abp) λaCx abq=>
 eo (dL true (some K8) (ob (bin Tryd.prog .eql 3 aCx (.int .i64 0)) λaCy=>
 some (.ret aCy,abq)) abq) λaCz abr=>
 ob (jf K8 aCz (.bool false)) λK9=>
 eo (dL true (some K9) (some (.ret aCg,abr)) abr) λaCA abt=>
 eo (dL true (some K9) (b2 (q8 Tryd.prog 24 9 aCA abt) λaCB aml=>
 some (.ret aCB,aml)) abt) λaCC abu=>
 eo (dL true (some K9) (ob (bin Tryd.prog .eql 9 aCC (.str (XT [0,0,97,98]))) λaCD=>
 some (.ret aCD,abu)) abu) λaCE amm=>
 ob (jf K9 aCE (.bool false)) λaCF=>
 r (some aCF) amm)
theorem atl(C:ad)(lf:Nat)(r:aC)(bc:gD)(ar:kR):∀F h,au Oo C lf [] F h bc (λF h=>r (F 0) h) ar=aeB C lf r h:=by
 intro F h;kernel_rfl
noncomputable def Zm(C:ad)(lf:Nat)(h:U):ab:=aeB C lf G7 h
theorem alO(C:ad)(lf:Nat)(h:U):tJ Tryd.prog Oo C lf [] h=Zm C lf h:=c8 (K:=(λF h=>G7 (F 0) h)) (by kernel_rfl) (((atl C lf G7 (λF h=>G7 (F 0) h) (λ_ _ _=>none)) _ h).trans (by kernel_rfl))
noncomputable def alQ:cK Tryd.prog:=aih Oo Zm alO (by kernel_rfl)
end Go.Proofs.YtomialandfplkaaDoor.Eva
namespace Go.Proofs.YtomialandfplkaaDoor.Eva
section
open Go.ChangeShapes Go.WideShapes Go.ChangeAt Go.RowKit Go.Xe
noncomputable def agL{P:Program}:List (FuncId×fR P)->av (fR P)
 | []=> .nil
 |(f,x)::xs=>(agL xs).put f x
noncomputable def tab:av (fR Tryd.prog):=agL [(16,.fn Ot),(17,.fn Ou),(18,.fn Ov),(21,.fn Ow),(33,.fn Ox),(34,.fn Oy),(36,.fn Oz),(37,.fn OA),(38,.fn OB),(41,.fn OC),(62,.fn OD),(63,.fn OE),(64,.fn OF),(73,.fn OG),(74,.fn OH),(75,.fn OI),(76,.fn OJ),(77,.fn OK),(35,.fn alQ)]
def zs:List Int:=[0,1,56,2,57,49,28,3,61,58,42,50,38,29,17,4,62,47,59,36,45,43,51,22,53,39,33,30,24,18,12,5,63,55,48,27,60,41,37,16,46,35,44,21,52,32,23,11,54,26,40,15,34,20,31,10,25,14,19,9,13,8,7,6]
theorem mixed:Tryd.prog.follows .mixedOrders=true:=by kernel_rfl
theorem laidOut:laidOutB Tryd.prog=true:=by kernel_rfl
theorem own:ownKnob Tryd.prog.godebug=none:=by kernel_rfl
theorem aba:Tryd.prog.globalNamed "math/bits.deBruijn64tab"=some 0:=by kernel_rfl
theorem alV:(Tryd.prog.globals[0]?).map (·.type)=some 110:=by kernel_rfl
theorem ajN:Tryd.prog.cellsOf 110=64:=by kernel_rfl
theorem X6:Tryd.prog.cellsOf 5=1:=by kernel_rfl
theorem table{W:World}(h:laidMetH Tryd.prog [("math/bits.deBruijn64tab",Rows.laid_math_bits_deBruijn64tab)] W):Lib.TabIs Tryd.prog W "math/bits.deBruijn64tab" .u8 zs:=
 Lib.tabIs_of_head (rest:=[]) aba alV Tryd.underlying110 Tryd.underlying5 X6 ajN h
noncomputable def aS:cz:=KL 0 110 64 (zs.map (.int .u8))
noncomputable def Qm(os:Os):World:=
 {World.holding Tryd.prog os ⟨#[], #[],[]⟩ with heap:=(World.holding Tryd.prog os ⟨#[], #[],[]⟩).heap.modify 0 λ
   | .cells _ t frozen=> .cells #[.int .u8 0,.int .u8 1,.int .u8 56,.int .u8 2,.int .u8 57,.int .u8 49,.int .u8 28,.int .u8 3,.int .u8 61,.int .u8 58,.int .u8 42,.int .u8 50,.int .u8 38,.int .u8 29,.int .u8 17,.int .u8 4,.int .u8 62,.int .u8 47,.int .u8 59,.int .u8 36,.int .u8 45,.int .u8 43,.int .u8 51,.int .u8 22,.int .u8 53,.int .u8 39,.int .u8 33,.int .u8 30,.int .u8 24,.int .u8 18,.int .u8 12,.int .u8 5,.int .u8 63,.int .u8 55,.int .u8 48,.int .u8 27,.int .u8 60,.int .u8 41,.int .u8 37,.int .u8 16,.int .u8 46,.int .u8 35,.int .u8 44,.int .u8 21,.int .u8 52,.int .u8 32,.int .u8 23,.int .u8 11,.int .u8 54,.int .u8 26,.int .u8 40,.int .u8 15,.int .u8 34,.int .u8 20,.int .u8 31,.int .u8 10,.int .u8 25,.int .u8 14,.int .u8 19,.int .u8 9,.int .u8 13,.int .u8 8,.int .u8 7,.int .u8 6] t frozen
   |o=>o}
end
end Go.Proofs.YtomialandfplkaaDoor.Eva
namespace Go.Proofs.YtomialandfplkaaDoor.Eva
open Go.Xe
set_option maxRecDepth 100000 in
theorem ao3:VG ((ho tab 100000 1000).call (.iu 35) [] ⟨1,1,aS⟩)=true:=by kernel_rfl
theorem azy{r:ab}(h:VG r=true):∃h',r=some (.ret (.bool true),h'):=by
 unfold VG at h;split at h
 ·exact⟨_,rfl⟩
 ·cases h
noncomputable def Yk:List J->Option J
 | []=>some (.bool true)
 |_=>none
noncomputable def GN:o6 Tryd.prog:=akb (tab:=tab) (lf:=100000) (fuel:=1000) mixed 0 110 64 .u8 zs (by decide) 35 Yk
 (λargs y h=>by
   cases args with
   |nil=>cases h;exact⟨rfl,rfl⟩
   |cons a l=>cases h)
 (λargs y h=>by
   cases args with
   |nil=>
    cases h;exact azy ao3
   |cons a l=>cases h)
noncomputable def cons:List (o6 Tryd.prog):=[GN]
theorem ake{C:ad}{h:U}(aK:l9 0 .u8 zs h=true):sJ cons C (.fn 35) [] h=some (.ret (.bool true),h):=by
 have h1:xp cons 35=some GN:=rfl
 have h2:GN.g [] h=some (.bool true):=by
  show(bif l9 0 .u8 zs h then Yk [] else none)=_;rw[aK];rfl
 simp only[sJ,h1,h2]
theorem xq{C:ad}{f:Nat}(ak:Nat.beq 35 f=false)(args:List J)(h:U):sJ cons C (.fn f) args h=C (.fn f) args h:=by
 have h1:xp cons f=none:=by
  show(bif Nat.beq 35 f then some GN else none)=none;rw[ak];rfl
 simp only[sJ,h1]
section
variable{lf:Nat}{h h0:U}{T:dU}{R:ez}{n N:Nat}{a:lr}
end
end Go.Proofs.YtomialandfplkaaDoor.Eva
namespace Go.Proofs.YtomialandfplkaaDoor.Eva
section
open Go.Xe Go.ChangeShapes Go.WideShapes Go.ChangeAt Go.RowKit
section
variable{H:Type}{enc:TypeId×Value->H}{w:World}
abbrev KS:TypeId:=92
abbrev V7:TypeId:=88
theorem ajO:ax.cellsOf KS=8:=by kernel_rfl
theorem ajx:ax.bytesOf KS=80:=by kernel_rfl
theorem cellsIn:∀t∈ [5,3,68,24,2],ax.cellsOf t=1:=by
 intro t aK;simp only[List.mem_cons,List.not_mem_nil,or_false] at aK;rcases aK with rfl|rfl|rfl|rfl|rfl<;>kernel_rfl
theorem ajw:ax.bytesOf 5=1:=by kernel_rfl
theorem an2{x:J}{l:List Nat}(B:Bytes (hj w) x l){j:Nat}(e:rowOf x=some j):j<(hj w).next:=by
 rcases B.2 with⟨rfl|⟨_,rfl⟩,_⟩|⟨k1,ob,cap,lo,m,rfl,hm,_⟩
 ·cases e
 ·cases e
 ·cases e;exact PQ hm
theorem ap9{fuel:Nat}{cs:List Value}{d:DataW H}{ps:List MemPlace}(aJ:cs.length=8)(ak:DataW.trod enc ax w 0 (λ_=>true) true fuel KS cs=some (d,ps))(hw:mv ax KS d):
 ∃a:gG,(∀j,j<8->(cs[j]?).map (lift w.heap.size)=a.cells[j]?)/\a.mY (hj w):=by
 have hu:=Tryd.underlying92;have ry:ax.cellsOf 5=1:=cellsIn _ (by simp);have ci:ax.cellsOf 3=1:=cellsIn _ (by simp);have ajW:ax.cellsOf 68=1:=cellsIn _ (by simp);have xo:ax.cellsOf 24=1:=cellsIn _ (by simp);have Yr:ax.cellsOf 2=1:=cellsIn _ (by simp);obtain⟨v0,_,_,_,_,c0,_,_,t0⟩:=sR (i:=0) (o:=0) hu ak rfl rfl rfl ry (by omega);obtain⟨v1,_,_,_,_,aQ,_,_,t1⟩:=sR (i:=1) (o:=1) hu ak rfl rfl rfl ci (by omega);obtain⟨v2,_,_,_,_,a3,_,_,t2⟩:=sR (i:=2) (o:=2) hu ak rfl rfl rfl ci (by omega);obtain⟨hq,_,_,_,_,cl,_,_,t3⟩:=sR (i:=3) (o:=3) hu ak rfl rfl rfl ci (by omega);obtain⟨v4,_,_,_,_,ct,_,_,t4⟩:=sR (i:=4) (o:=4) hu ak rfl rfl rfl ajW (by omega);obtain⟨aBJ,_,_,_,_,rv,rfl,jk,t5⟩:=sR (i:=5) (o:=5) hu ak rfl rfl rfl xo (by omega);obtain⟨v6,_,_,_,_,l4,_,_,t6⟩:=sR (i:=6) (o:=6) hu ak rfl rfl rfl Yr (by omega);obtain⟨aD3,_,_,_,_,xm,_,_,t7⟩:=sR (i:=7) (o:=7) hu ak rfl rfl rfl Yr (by omega);obtain⟨tm,rfl,g0⟩:=yn Tryd.underlying5 t0
 obtain⟨cI,rfl,g1⟩:=yn Tryd.underlying3 t1;obtain⟨cF,rfl,g2⟩:=yn Tryd.underlying3 t2;obtain⟨gl,rfl,g3⟩:=yn Tryd.underlying3 t3;obtain⟨lg,rfl,g4⟩:=yn Tryd.underlying68 t4;obtain⟨l,B,xT,Pr⟩:=ajB Tryd.underlying24 Tryd.underlying5 X6 ajw t5 (hw.sR hu rfl rfl jk);obtain⟨A1,rfl,g6⟩:=yn Tryd.underlying2 t6;obtain⟨apr,rfl,g7⟩:=yn Tryd.underlying2 t7;have hC:IntKind.i64.min= -9223372036854775808:=rfl;have e6:IntKind.i64.max=9223372036854775807:=rfl;have A0:IntKind.u8.min=0:=rfl;have wb:IntKind.u8.max=255:=rfl;have ai:tm=((tm.toNat:Nat):Int):=by omega
 refine⟨⟨tm.toNat,cI,cF,gl,lg,lift w.heap.size aBJ,A1,apr,l⟩,λj aa=>?_,⟨by show tm.toNat<256;omega,⟨by show _<=cI;omega,by show cI<_;omega⟩,⟨by show _<=cF;omega,by show cF<_;omega⟩,⟨by show _<=gl;omega,by show gl<_;omega⟩,⟨by show _<=lg;omega,by show lg<_;omega⟩,B,Pr,λj aa=>an2 B aa⟩⟩
 match j,aa with
 |0,_=>rw[c0];show some (J.int .u8 tm)=some (J.int .u8 ((tm.toNat:Nat):Int));rw[<- ai]
 |1,_=>rw[aQ];rfl
 |2,_=>rw[a3];rfl
 |3,_=>rw[cl];rfl
 |4,_=>rw[ct];rfl
 |5,_=>rw[rv];rfl
 |6,_=>rw[l4];rfl
 |7,_=>rw[xm];rfl
set_option maxRecDepth 100000 in
theorem aqa{v:Value}{d:DataW H}{ps:List MemPlace}{r:Reach}{qb j:Nat}{cX:List TypeId}{bg:List (DataW H)}(rP:Value.okWide ax w r qb V7 v)
 (h:DataW.Trod enc ax w 0 (λ_=>true) true V7 v d ps)(PK:cX[j]?=some V7)(Pg:bg[j]?=some d)(a1:(DataW.weightsEach ax cX bg).all (· <=reachBytes)=true):
 ∃L,B3 (hj w) (uA w.heap.size v) L/\L.length<=140737488355328:=by
 rcases azN Tryd.underlying88 ajO (by omega) rP h PK Pg a1 with az|⟨id,off,len,cap,m,az,_,hm,h3,gq⟩
 ·exact⟨[],.inl ⟨az,rfl⟩,Nat.zero_le _⟩
 ·have each:∀i,i<len->∃a:gG,(∀j,j<8->(hj w).cell id (off+i*8+j)=a.cells[j]?)/\a.mY (hj w):=λi hi=>by
   obtain⟨cs,sT,hy,qW,g1,g2,g3,g4⟩:=gq i hi;obtain⟨a,k1,k2⟩:=ap9 g1 g4 g2;exact⟨a,λj aa=>(g3 j aa).trans (k1 j aa),k2⟩
  obtain⟨L,h1,h2⟩:=X8 each;rw[ajx] at h3;exact⟨L,.inr ⟨id,off,some cap,0,m,by rw[az,h1],hm,PQ hm,λt aK=>h2 t aK⟩,by omega⟩
end
end
end Go.Proofs.YtomialandfplkaaDoor.Eva
namespace Go.Proofs.YtomialandfplkaaDoor.Eva
open Go.Xe
noncomputable def wJ:av (fR ax):=agM [(64,.fn OF),(63,.fn OE),(33,.fn Ox),(23,.fn aan),(16,.fn Ot),(17,.fn Ou),(21,.fn Ow),(18,.fn Ov),(65,.fn aaJ),(19,.fn aal),(20,.fn aam),(29,.fn aap),(72,.fn aaO),(30,.fn aaq),(31,.fn aar),(66,.fn aaK),(67,.fn aaL),(24,.fn aao),(69,.fn aaM),(71,.fn aaN),(73,.fn OG),(62,.fn OD),(74,.fn OH),(76,.fn OJ),(77,.fn OK),(36,.fn Oz),(37,.fn OA),(90,.fn aaX),(75,.fn OI),(38,.fn OB),(41,.fn OC),(91,.fn aaY),(92,.fn aaZ),(78,.fn aaP),(40,.fn aat),(93,.fn aa0),(79,.fn aaQ),(51,.fn aaB),(89,.fn aaW),(55,.fn aaC),(56,.fn aaD),(58,.fn aaF),(57,.fn aaE),(60,.fn aaH),(61,.fn aaI),(59,.fn aaG),(81,.fn aaR),(47,.fn aax),(46,.fn aaw),(48,.fn aay),(39,.fn aas),(44,.fn aav),(104,.fn aae),(108,.fn aai),(101,.fn aab),(103,.fn aad),(99,.fn aa6),(102,.fn aac),(105,.fn aaf),(110,.fn aak),(106,.fn aag),(94,.fn aa1),(107,.fn aah),(96,.fn aa3),(109,.fn aaj),(100,.fn aaa),(98,.fn aa5),(97,.fn aa4),(88,.fn aaV),(87,.fn aaU),(34,.fn Oy),(43,.fn aau),(95,.fn aa2),(82,.fn aaS),(83,.fn aaT),(50,.fn aaA),(49,.fn aaz)]
noncomputable abbrev H(lf n:Nat):ad:=(ho wJ lf n).call
theorem dd{lf n:Nat}{f:FuncId}{args:List J}{h:U}{R:ab}(y:cK ax)(bd:m6 (path f) wJ=some (.fn y))(bb:y.x.f=f)(aj:y.s (H lf n) lf args h=R):H lf (n+1) (.fn f) args h=R:=(ajK rfl bb bd).trans aj
theorem aBj{lf n:Nat}{f:FuncId}{args:List J}{h:U}{R:ab}(y:cK ax)(bd:m6 (path f) wJ=some (.fn y))(bb:y.x.f=f)(aj:y.s (H lf n) lf args h=R):H lf (n+1) (.iu f) args h=R:=by
 have:H lf (n+1) (.iu f) args h=Go.Xe.runN (ho wJ lf n) lf f args h (m6 (path f) wJ):=rfl
 rw[this,bd];simp only[Go.Xe.runN,bb,Nat.beq_refl,cond_true];exact aj
theorem c4{lf:Nat}:(∀n al h,H lf (n+1) (.fn 64) [al] h=HA (H lf n) lf al h)/\(∀n al h,H lf (n+1) (.fn 63) [al] h=Hz (H lf n) lf al h)/\(∀n al an h,H lf (n+1) (.fn 33) [al,an] h=Hp (H lf n) lf al an h)/\(∀n al an h,H lf (n+1) (.fn 23) [al,an] h=CG (H lf n) lf al an h)/\(∀n al h,H lf (n+1) (.fn 16) [al] h=CD (H lf n) lf al h)/\(∀n al h,H lf (n+1) (.fn 17) [al] h=z9 (H lf n) lf al h)/\(∀n al an h,H lf (n+1) (.fn 21) [al,an] h=CF (H lf n) lf al an h)/\(∀n al an aD a7 h,H lf (n+1) (.fn 18) [al,an,aD,a7] h=CE (H lf n) lf al an aD a7 h)/\(∀n al h,H lf (n+1) (.fn 65) [al] h=HB (H lf n) lf al h)/\(∀n al h,H lf (n+1) (.fn 19) [al] h=Hj (H lf n) lf al h)/\(∀n al h,H lf (n+1) (.fn 20) [al] h=Hk (H lf n) lf al h)/\(∀n al h,H lf (n+1) (.fn 29) [al] h=Hm (H lf n) lf al h)/\(∀n al an h,H lf (n+1) (.fn 72) [al,an] h=HE (H lf n) lf al an h)/\(∀n al h,H lf (n+1) (.fn 30) [al] h=Hn (H lf n) lf al h)/\(∀n al an h,H lf (n+1) (.fn 31) [al,an] h=Ho (H lf n) lf al an h)/\(∀n al h,H lf (n+1) (.fn 66) [al] h=Ac (H lf n) lf al h)/\(∀n al an h,H lf (n+1) (.fn 67) [al,an] h=CO (H lf n) lf al an h)/\(∀n al h,H lf (n+1) (.fn 24) [al] h=Hl (H lf n) lf al h)/\(∀n al h,H lf (n+1) (.fn 69) [al] h=HC (H lf n) lf al h)/\(∀n al an h,H lf (n+1) (.fn 71) [al,an] h=HD (H lf n) lf al an h)/\(∀n al h,H lf (n+1) (.fn 73) [al] h=HF (H lf n) lf al h)/\(∀n al an h,H lf (n+1) (.fn 62) [al,an] h=Hy (H lf n) lf al an h)/\(∀n al an h,H lf (n+1) (.fn 74) [al,an] h=HG (H lf n) lf al an h)/\(∀n al an h,H lf (n+1) (.fn 76) [al,an] h=HH (H lf n) lf al an h)/\(∀n al an h,H lf (n+1) (.fn 77) [al,an] h=HI (H lf n) lf al an h)/\(∀n al an h,H lf (n+1) (.fn 36) [al,an] h=CH (H lf n) lf al an h)/\(∀n al an aD a7 h,H lf (n+1) (.fn 37) [al,an,aD,a7] h=vz (H lf n) lf al an aD a7 h)/\(∀n al an h,H lf (n+1) (.fn 90) [al,an] h=HN (H lf n) lf al an h)/\(∀n al an aD h,H lf (n+1) (.fn 75) [al,an,aD] h=CP (H lf n) lf al an aD h)/\(∀n al an aD a7 h,H lf (n+1) (.fn 38) [al,an,aD,a7] h=rF (H lf n) lf al an aD a7 h)/\(∀n al an aD a7 h,H lf (n+1) (.fn 41) [al,an,aD,a7] h=uf (H lf n) lf al an aD a7 h)/\(∀n al an h,H lf (n+1) (.fn 91) [al,an] h=CT (H lf n) lf al an h)/\(∀n al h,H lf (n+1) (.fn 92) [al] h=HO (H lf n) lf al h)/\(∀n al an aD h,H lf (n+1) (.fn 78) [al,an,aD] h=HJ (H lf n) lf al an aD h)/\(∀n al an aD h,H lf (n+1) (.fn 40) [al,an,aD] h=sS (H lf n) lf al an aD h)/\(∀n al an h,H lf (n+1) (.fn 93) [al,an] h=HP (H lf n) lf al an h)/\(∀n al h,H lf (n+1) (.fn 79) [al] h=HK (H lf n) lf al h)/\(∀n al an h,H lf (n+1) (.fn 51) [al,an] h=CK (H lf n) lf al an h)/\(∀n al an h,H lf (n+1) (.fn 89) [al,an] h=CS (H lf n) lf al an h)/\(∀n al an h,H lf (n+1) (.fn 55) [al,an] h=Hx (H lf n) lf al an h)/\(∀n al an aD h,H lf (n+1) (.fn 56) [al,an,aD] h=CL (H lf n) lf al an aD h)/\(∀n al an aD a7 h,H lf (n+1) (.fn 58) [al,an,aD,a7] h=CM (H lf n) lf al an aD a7 h)/\(∀n al an aD a7 h,H lf (n+1) (.fn 57) [al,an,aD,a7] h=Aa (H lf n) lf al an aD a7 h)/\(∀n al an h,H lf (n+1) (.fn 60) [al,an] h=CN (H lf n) lf al an h)/\(∀n al an h,H lf (n+1) (.fn 61) [al,an] h=Ab (H lf n) lf al an h)/\(∀n al an aD h,H lf (n+1) (.fn 59) [al,an,aD] h=xI (H lf n) lf al an aD h)/\(∀n al an h,H lf (n+1) (.iu 81) [al,an] h=CQ (H lf n) lf al an h)/\(∀n al h,H lf (n+1) (.fn 47) [al] h=Hu (H lf n) lf al h)/\(∀n al h,H lf (n+1) (.fn 46) [al] h=Ht (H lf n) lf al h)/\(∀n al h,H lf (n+1) (.fn 48) [al] h=Hv (H lf n) lf al h)/\(∀n al h,H lf (n+1) (.fn 39) [al] h=Hr (H lf n) lf al h)/\(∀n al an h,H lf (n+1) (.fn 44) [al,an] h=CI (H lf n) lf al an h)/\(∀n al an h,H lf (n+1) (.fn 104) [al,an] h=Hd (H lf n) lf al an h)/\(∀n al h,H lf (n+1) (.fn 108) [al] h=Hf (H lf n) lf al h)/\(∀n al an aD h,H lf (n+1) (.fn 101) [al,an,aD] h=CA (H lf n) lf al an aD h)/\(∀n al an aD a7 h,H lf (n+1) (.fn 103) [al,an,aD,a7] h=CB (H lf n) lf al an aD a7 h)/\(∀n al an h,H lf (n+1) (.fn 99) [al,an] h=CU (H lf n) lf al an h)/\(∀n al an aD a7 h,H lf (n+1) (.fn 102) [al,an,aD,a7] h=z8 (H lf n) lf al an aD a7 h)/\(∀n al h,H lf (n+1) (.fn 105) [al] h=He (H lf n) lf al h)/\(∀n al an aD h,H lf (n+1) (.fn 110) [al,an,aD] h=Hi (H lf n) lf al an aD h)/\(∀n al an aD h,H lf (n+1) (.fn 106) [al,an,aD] h=xH (H lf n) lf al an aD h)/\(∀n al an aD a7 h,H lf (n+1) (.fn 94) [al,an,aD,a7] h=vA (H lf n) lf al an aD a7 h)/\(∀n al an aD h,H lf (n+1) (.fn 107) [al,an,aD] h=CC (H lf n) lf al an aD h)/\(∀n al an aD h,H lf (n+1) (.fn 96) [al,an,aD] h=xJ (H lf n) lf al an aD h)/\(∀n al an h,H lf (n+1) (.fn 109) [al,an] h=Hg (H lf n) lf al an h)/\(∀n al an h,H lf (n+1) (.fn 100) [al,an] h=z7 (H lf n) lf al an h)/\(∀n al an aD h,H lf (n+1) (.fn 98) [al,an,aD] h=xK (H lf n) lf al an aD h)/\(∀n al an aD a7 h,H lf (n+1) (.fn 97) [al,an,aD,a7] h=vB (H lf n) lf al an aD a7 h)/\(∀n al an aD a7 h,H lf (n+1) (.fn 88) [al,an,aD,a7] h=Ad (H lf n) lf al an aD a7 h)/\(∀n al an h,H lf (n+1) (.fn 87) [al,an] h=CR (H lf n) lf al an h)/\(∀n al h,H lf (n+1) (.fn 34) [al] h=Hq (H lf n) lf al h)/\(∀n al an h,H lf (n+1) (.fn 43) [al,an] h=Hs (H lf n) lf al an h)/\(∀n al h,H lf (n+1) (.fn 95) [al] h=HQ (H lf n) lf al h)/\(∀n al an aD h,H lf (n+1) (.fn 82) [al,an,aD] h=HL (H lf n) lf al an aD h)/\(∀n al an aD h,H lf (n+1) (.fn 83) [al,an,aD] h=HM (H lf n) lf al an aD h)/\(∀n al an aD h,H lf (n+1) (.fn 50) [al,an,aD] h=Hw (H lf n) lf al an aD h)/\(∀n al an h,H lf (n+1) (.fn 49) [al,an] h=CJ (H lf n) lf al an h):=
 ⟨λ_ _ _=>dd OF (by kernel_rfl) rfl (by kernel_rfl),λ_ _ _=>dd OE (by kernel_rfl) rfl (by kernel_rfl),λ_ _ _ _=>dd Ox (by kernel_rfl) rfl (by kernel_rfl),λ_ _ _ _=>dd aan (by kernel_rfl) rfl (by kernel_rfl),λ_ _ _=>dd Ot (by kernel_rfl) rfl (by kernel_rfl),λ_ _ _=>dd Ou (by kernel_rfl) rfl (by kernel_rfl),λ_ _ _ _=>dd Ow (by kernel_rfl) rfl (by kernel_rfl),λ_ _ _ _ _ _=>dd Ov (by kernel_rfl) rfl (by kernel_rfl),λ_ _ _=>dd aaJ (by kernel_rfl) rfl (by kernel_rfl),λ_ _ _=>dd aal (by kernel_rfl) rfl (by kernel_rfl),λ_ _ _=>dd aam (by kernel_rfl) rfl (by kernel_rfl),λ_ _ _=>dd aap (by kernel_rfl) rfl (by kernel_rfl),λ_ _ _ _=>dd aaO (by kernel_rfl) rfl (by kernel_rfl),λ_ _ _=>dd aaq (by kernel_rfl) rfl (by kernel_rfl),λ_ _ _ _=>dd aar (by kernel_rfl) rfl (by kernel_rfl),λ_ _ _=>dd aaK (by kernel_rfl) rfl (by kernel_rfl),λ_ _ _ _=>dd aaL (by kernel_rfl) rfl (by kernel_rfl),λ_ _ _=>dd aao (by kernel_rfl) rfl (by kernel_rfl),λ_ _ _=>dd aaM (by kernel_rfl) rfl (by kernel_rfl),λ_ _ _ _=>dd aaN (by kernel_rfl) rfl (by kernel_rfl),λ_ _ _=>dd OG (by kernel_rfl) rfl (by kernel_rfl),λ_ _ _ _=>dd OD (by kernel_rfl) rfl (by kernel_rfl),λ_ _ _ _=>dd OH (by kernel_rfl) rfl (by kernel_rfl),λ_ _ _ _=>dd OJ (by kernel_rfl) rfl (by kernel_rfl),λ_ _ _ _=>dd OK (by kernel_rfl) rfl (by kernel_rfl),λ_ _ _ _=>dd Oz (by kernel_rfl) rfl (by kernel_rfl),λ_ _ _ _ _ _=>dd OA (by kernel_rfl) rfl (by kernel_rfl),λ_ _ _ _=>dd aaX (by kernel_rfl) rfl (by kernel_rfl),λ_ _ _ _ _=>dd OI (by kernel_rfl) rfl (by kernel_rfl),λ_ _ _ _ _ _=>dd OB (by kernel_rfl) rfl (by kernel_rfl),λ_ _ _ _ _ _=>dd OC (by kernel_rfl) rfl (by kernel_rfl),λ_ _ _ _=>dd aaY (by kernel_rfl) rfl (by kernel_rfl),λ_ _ _=>dd aaZ (by kernel_rfl) rfl (by kernel_rfl),λ_ _ _ _ _=>dd aaP (by kernel_rfl) rfl (by kernel_rfl),λ_ _ _ _ _=>dd aat (by kernel_rfl) rfl (by kernel_rfl),λ_ _ _ _=>dd aa0 (by kernel_rfl) rfl (by kernel_rfl),λ_ _ _=>dd aaQ (by kernel_rfl) rfl (by kernel_rfl),λ_ _ _ _=>dd aaB (by kernel_rfl) rfl (by kernel_rfl),λ_ _ _ _=>dd aaW (by kernel_rfl) rfl (by kernel_rfl),λ_ _ _ _=>dd aaC (by kernel_rfl) rfl (by kernel_rfl),λ_ _ _ _ _=>dd aaD (by kernel_rfl) rfl (by kernel_rfl),λ_ _ _ _ _ _=>dd aaF (by kernel_rfl) rfl (by kernel_rfl),λ_ _ _ _ _ _=>dd aaE (by kernel_rfl) rfl (by kernel_rfl),λ_ _ _ _=>dd aaH (by kernel_rfl) rfl (by kernel_rfl),λ_ _ _ _=>dd aaI (by kernel_rfl) rfl (by kernel_rfl),λ_ _ _ _ _=>dd aaG (by kernel_rfl) rfl (by kernel_rfl),λ_ _ _ _=>aBj aaR (by kernel_rfl) rfl (by kernel_rfl),λ_ _ _=>dd aax (by kernel_rfl) rfl (by kernel_rfl),λ_ _ _=>dd aaw (by kernel_rfl) rfl (by kernel_rfl),λ_ _ _=>dd aay (by kernel_rfl) rfl (by kernel_rfl),λ_ _ _=>dd aas (by kernel_rfl) rfl (by kernel_rfl),λ_ _ _ _=>dd aav (by kernel_rfl) rfl (by kernel_rfl),λ_ _ _ _=>dd aae (by kernel_rfl) rfl (by kernel_rfl),λ_ _ _=>dd aai (by kernel_rfl) rfl (by kernel_rfl),λ_ _ _ _ _=>dd aab (by kernel_rfl) rfl (by kernel_rfl),λ_ _ _ _ _ _=>dd aad (by kernel_rfl) rfl (by kernel_rfl),λ_ _ _ _=>dd aa6 (by kernel_rfl) rfl (by kernel_rfl),λ_ _ _ _ _ _=>dd aac (by kernel_rfl) rfl (by kernel_rfl),λ_ _ _=>dd aaf (by kernel_rfl) rfl (by kernel_rfl),λ_ _ _ _ _=>dd aak (by kernel_rfl) rfl (by kernel_rfl),λ_ _ _ _ _=>dd aag (by kernel_rfl) rfl (by kernel_rfl),λ_ _ _ _ _ _=>dd aa1 (by kernel_rfl) rfl (by kernel_rfl),λ_ _ _ _ _=>dd aah (by kernel_rfl) rfl (by kernel_rfl),λ_ _ _ _ _=>dd aa3 (by kernel_rfl) rfl (by kernel_rfl),λ_ _ _ _=>dd aaj (by kernel_rfl) rfl (by kernel_rfl),λ_ _ _ _=>dd aaa (by kernel_rfl) rfl (by kernel_rfl),λ_ _ _ _ _=>dd aa5 (by kernel_rfl) rfl (by kernel_rfl),λ_ _ _ _ _ _=>dd aa4 (by kernel_rfl) rfl (by kernel_rfl),λ_ _ _ _ _ _=>dd aaV (by kernel_rfl) rfl (by kernel_rfl),λ_ _ _ _=>dd aaU (by kernel_rfl) rfl (by kernel_rfl),λ_ _ _=>dd Oy (by kernel_rfl) rfl (by kernel_rfl),λ_ _ _ _=>dd aau (by kernel_rfl) rfl (by kernel_rfl),λ_ _ _=>dd aa2 (by kernel_rfl) rfl (by kernel_rfl),λ_ _ _ _ _=>dd aaS (by kernel_rfl) rfl (by kernel_rfl),λ_ _ _ _ _=>dd aaT (by kernel_rfl) rfl (by kernel_rfl),λ_ _ _ _ _=>dd aaA (by kernel_rfl) rfl (by kernel_rfl),λ_ _ _ _=>dd aaz (by kernel_rfl) rfl (by kernel_rfl)⟩
theorem aBc(m:Nat):zF (H bt (m+1)):=by
 unfold zF;intros;simp only[c4];apply aBs (C:=H bt (m+0))<;>assumption
theorem wL(m:Nat):sq (H bt (m+1)):=by
 unfold sq;intros;simp only[c4];apply apd (C:=H bt (m+0))<;>assumption
theorem KJ(m:Nat):w5 (H bt (m+2)):=by
 unfold w5;intros;simp only[c4];apply aou (C:=H bt (m+1)) (wL _)<;>assumption
theorem agC(m:Nat):BT (H bt (m+3)):=by
 unfold BT;intros;simp only[c4];apply alL (C:=H bt (m+2)) (wL _) (KJ _)<;>assumption
theorem aAx(m:Nat):LP (H bt (m+1)):=by
 unfold LP;intros;simp only[c4];apply apE (C:=H bt (m+0))<;>assumption
theorem aAg(m:Nat):BM (H bt (m+2)):=by
 unfold BM;intros;simp only[c4];apply aiz (C:=H bt (m+1)) (jo (by omega)) (wL _) (aBc _)<;>assumption
theorem aAW(m:Nat):Gg (H bt (m+3)):=by
 unfold Gg;intros;simp only[c4];apply ayk (C:=H bt (m+2)) (wL _) (KJ _)<;>assumption
theorem agK(m:Nat):B8 (H bt (m+3)):=by
 unfold B8;intros;simp only[c4];apply aBW (C:=H bt (m+2)) (wL _) (KJ _)<;>assumption
theorem aAA(m:Nat):FV (H bt (m+1)):=by
 unfold FV;intros;simp only[c4];apply ap4 (C:=H bt (m+0))<;>assumption
theorem aAu(m:Nat):LM (H bt (m+2)):=by
 unfold LM;intros;simp only[c4];apply aoW (C:=H bt (m+1)) (jo (by omega)) (wL _) (aAA _)<;>assumption
theorem aBd(m:Nat):Mo (H bt (m+3)):=by
 unfold Mo;intros;simp only[c4];apply aBI (C:=H bt (m+2)) (jo (by omega)) (wL _) (KJ _)<;>assumption
theorem aA9(m:Nat):Mm (H bt (m+2)):=by
 unfold Mm;intros;simp only[c4];apply aBk (C:=H bt (m+1)) (wL _)<;>assumption
theorem aAG(m:Nat):L0 (H bt (m+1)):=by
 unfold L0;intros;simp only[c4];apply ayK (C:=H bt (m+0))<;>assumption
theorem aAH(m:Nat):L1 (H bt (m+1)):=by
 unfold L1;intros;simp only[c4];apply ayL (C:=H bt (m+0)) (jo (by omega))<;>assumption
theorem aA0(m:Nat):Md (H bt (m+1)):=by
 unfold Md;intros;simp only[c4];apply aop (C:=H bt (m+0)) (jo (by omega))<;>assumption
theorem aAC(m:Nat):FZ (H bt (m+1)):=by
 unfold FZ;intros;simp only[c4];apply ax5 (C:=H bt (m+0)) (jo (by omega))<;>assumption
theorem aAE(m:Nat):w9 (H bt (m+2)):=by
 unfold w9;intros;simp only[c4];apply ayG (C:=H bt (m+1)) (aAG _)<;>assumption
theorem aAK(m:Nat):L3 (H bt (m+1)):=by
 unfold L3;intros;simp only[c4];apply ayP (C:=H bt (m+0))<;>assumption
theorem aAv(m:Nat):LN (H bt (m+1)):=by
 unfold LN;intros;simp only[c4];apply ao0 (C:=H bt (m+0)) (jo (by omega))<;>assumption
theorem aAt(m:Nat):LJ (H bt (m+1)):=by
 unfold LJ;intros;simp only[c4];apply aoM (C:=H bt (m+0))<;>assumption
theorem wK(m:Nat):p5 (H bt (m+1)):=by
 unfold p5;intros;simp only[c4];apply aot (C:=H bt (m+0))<;>assumption
theorem aAs(m:Nat):LH (H bt (m+2)):=by
 unfold LH;intros;simp only[c4];apply aoq (C:=H bt (m+1)) (wK _)<;>assumption
theorem pZ(m:Nat):mq (H bt (m+3)):=by
 unfold mq;intros;simp only[c4];apply al4 (C:=H bt (m+2)) (wK _) (aAs _)<;>assumption
theorem Fk(m:Nat):su (H bt (m+1)):=by
 unfold su;intros;simp only[c4];apply aqr (C:=H bt (m+0))<;>assumption
theorem agI(m:Nat):Gq (H bt (m+1)):=by
 unfold Gq;intros;simp only[c4];apply aBl (C:=H bt (m+0))<;>assumption
theorem aAy(m:Nat):LQ (H bt (m+2)):=by
 unfold LQ;intros;simp only[c4];apply apD (C:=H bt (m+1)) (aAx _)<;>assumption
theorem aAh(m:Nat):FF (H bt (m+2)):=by
 unfold FF;intros;simp only[c4];apply ait (C:=H bt (m+1)) (jo (by omega)) (wK _)<;>assumption
theorem aAj(m:Nat):Lt (H bt (m+4)):=by
 unfold Lt;intros;simp only[c4];apply ai4 (C:=H bt (m+3)) (jo (by omega)) (agC _)<;>assumption
theorem aAq(m:Nat):FN (H bt (m+5)):=by
 unfold FN;intros;simp only[c4];apply alx (C:=H bt (m+4)) (jo (by omega)) (Fk _) (aAg _) (aAj _)<;>assumption
theorem aA8(m:Nat):Gp (H bt (m+6)):=by
 unfold Gp;intros;simp only[c4];apply aBr (C:=H bt (m+5)) (jo (by omega)) (pZ _) (Fk _) (aAq _) (agK _) (agI _)<;>assumption
theorem aBe(m:Nat):Gv (H bt (m+4)):=by
 unfold Gv;intros;simp only[c4];apply aBU (C:=H bt (m+3)) (pZ _)<;>assumption
theorem aA7(m:Nat):Gn (H bt (m+4)):=by
 unfold Gn;intros;simp only[c4];apply aBn (C:=H bt (m+3)) (jo (by omega)) (pZ _) (Fk _) (aAW _)<;>assumption
theorem aAV(m:Nat):Gf (H bt (m+4)):=by
 unfold Gf;intros;simp only[c4];apply ayi (C:=H bt (m+3)) (pZ _)<;>assumption
theorem aAn(m:Nat):u6 (H bt (m+4)):=by
 unfold u6;intros;simp only[c4];apply akM (C:=H bt (m+3)) (agC _)<;>assumption
theorem aAp(m:Nat):BQ (H bt (m+1)):=by
 unfold BQ;intros;simp only[c4];apply akY (C:=H bt (m+0))<;>assumption
theorem agB(m:Nat):FG (H bt (m+5)):=by
 unfold FG;intros;simp only[c4];apply aky (C:=H bt (m+4)) (jo (by omega)) (aAn _) (Fk _) (aAp _)<;>assumption
theorem aBb(m:Nat):Gs (H bt (m+6)):=by
 unfold Gs;intros;simp only[c4];apply aBp (C:=H bt (m+5)) (pZ _) (Fk _) (agB _) (agK _) (agI _)<;>assumption
theorem aBa(m:Nat):Gr (H bt (m+4)):=by
 unfold Gr;intros;simp only[c4];apply aBo (C:=H bt (m+3)) (pZ _)<;>assumption
theorem aAf(m:Nat):zp (H bt (m+1)):=by
 unfold zp;intros;simp only[c4];apply aiq (C:=H bt (m+0)) (jo (by omega))<;>assumption
theorem aAB(m:Nat):LV (H bt (m+2)):=by
 unfold LV;intros;simp only[c4];apply aqn (C:=H bt (m+1)) (jo (by omega)) (aAf _)<;>assumption
theorem agH(m:Nat):vf (H bt (m+4)):=by
 unfold vf;intros;simp only[c4];apply aBm (C:=H bt (m+3)) (pZ _) (aAB _)<;>assumption
theorem agD(m:Nat):BU (H bt (m+6)):=by
 unfold BU;intros;simp only[c4];apply alK (C:=H bt (m+5)) (agB _)<;>assumption
theorem aAl(m:Nat):Lx (H bt (m+2)):=by
 unfold Lx;intros;simp only[c4];apply ajR (C:=H bt (m+1)) (wK _)<;>assumption
theorem aA2(m:Nat):Gj (H bt (m+4)):=by
 unfold Gj;intros;simp only[c4];apply azD (C:=H bt (m+3)) (pZ _)<;>assumption
theorem aA4(m:Nat):Gl (H bt (m+4)):=by
 unfold Gl;intros;simp only[c4];apply azG (C:=H bt (m+3)) (pZ _)<;>assumption
theorem aA3(m:Nat):Gk (H bt (m+4)):=by
 unfold Gk;intros;simp only[c4];apply azF (C:=H bt (m+3)) (pZ _)<;>assumption
theorem aAr(m:Nat):FO (H bt (m+4)):=by
 unfold FO;intros;simp only[c4];apply anF (C:=H bt (m+3)) (pZ _)<;>assumption
theorem aAY(m:Nat):Gi (H bt (m+7)):=by
 unfold Gi;intros;simp only[c4];apply ayB (C:=H bt (m+6)) (pZ _) (agD _)<;>assumption
theorem aAw(m:Nat):FT (H bt (m+7)):=by
 unfold FT;intros;simp only[c4];apply ao2 (C:=H bt (m+6)) (pZ _) (agD _)<;>assumption
theorem aoV(t:Nat)(y:J):(iZ [(t,some y)]).get t=some y:=by
 show(av.put .nil t y).get t=_;rw[kA,if_pos rfl]
theorem aAo(m:Nat):WM (H bt (m+2)):=by
 intro h0 h T n N wd b now us nd bM eJ p A j7;simp only[c4];refine akS (C:=H bt (m+1)) (C':=H bt m) (lf:=bt) (jo (by omega)) (wK m) (λeJ p bM v h y h' L e=>?_) A j7;obtain⟨o,aq,aj⟩:=L.ol;refine azl aq aj ?_;rw[<- e,azf,aoV]
theorem agJ(m:Nat):zG (H bt (m+3)):=by
 unfold zG;intros;simp only[c4];apply aBG (C:=H bt (m+2)) (aAo m)<;>assumption
theorem aAz(m:Nat):LR (H bt (m+2)):=by
 unfold LR;intros;simp only[c4];apply apQ (C:=H bt (m+1)) (wK _)<;>assumption
theorem aA6(m:Nat):B7 (H bt (m+4)):=by
 unfold B7;intros;simp only[c4];apply aBi (C:=H bt (m+3)) (wK _) (aBd _)<;>assumption
theorem aAZ(m:Nat):B6 (H bt (m+4)):=by
 unfold B6;intros;simp only[c4];apply ayQ (C:=H bt (m+3)) (wK _) (aA9 _) (aAu _) (agJ _)<;>assumption
theorem aAL(m:Nat):L4 (H bt (m+2)):=by
 unfold L4;intros;simp only[c4];apply ayO (C:=H bt (m+1)) (aAK _)<;>assumption
theorem tG(m:Nat):p7 (H bt (m+1)):=by
 unfold p7;intros;simp only[c4];apply ayJ (C:=H bt (m+0))<;>assumption
theorem agE(m:Nat):B1 (H bt (m+1)):=by
 unfold B1;intros;simp only[c4];apply aoP (C:=H bt (m+0))<;>assumption
theorem aAO(m:Nat):F8 (H bt (m+2)):=by
 unfold F8;intros;simp only[c4];apply azc (C:=H bt (m+1)) (tG _) (agE _)<;>assumption
theorem aAQ(m:Nat):Ga (H bt (m+2)):=by
 unfold Ga;intros;simp only[c4];apply aze (C:=H bt (m+1)) (tG _)<;>assumption
theorem aAF(m:Nat):F4 (H bt (m+2)):=by
 unfold F4;intros;simp only[c4];apply ayI (C:=H bt (m+1)) (tG _)<;>assumption
theorem aAP(m:Nat):F9 (H bt (m+2)):=by
 unfold F9;intros;simp only[c4];apply azd (C:=H bt (m+1)) (tG _)<;>assumption
theorem V4(m:Nat):vb (H bt (m+1)):=by
 unfold vb;intros;simp only[c4];apply al9 (C:=H bt (m+0))<;>assumption
theorem aAJ(m:Nat):L2 (H bt (m+2)):=by
 unfold L2;intros;simp only[c4];apply ayN (C:=H bt (m+1)) (V4 _)<;>assumption
theorem aAS(m:Nat):Gc (H bt (m+3)):=by
 unfold Gc;intros;simp only[c4];apply azg (C:=H bt (m+2)) (jo (by omega)) (V4 _) (aAJ _) (aAH _) (aAC _)<;>assumption
theorem aAU(m:Nat):Ge (H bt (m+4)):=by
 unfold Ge;intros;simp only[c4];apply azn (C:=H bt (m+3)) (jo (by omega)) (tG _) (aAS _)<;>assumption
theorem agF(m:Nat):F2 (H bt (m+3)):=by
 unfold F2;intros;simp only[c4];apply ayh (C:=H bt (m+2)) (jo (by omega)) (aAE _)<;>assumption
theorem aAT(m:Nat):Gd (H bt (m+4)):=by
 unfold Gd;intros;simp only[c4];apply azj (C:=H bt (m+3)) (jo (by omega)) (tG _) (agF _)<;>assumption
theorem agG(m:Nat):F3 (H bt (m+4)):=by
 unfold F3;intros;simp only[c4];apply ayH (C:=H bt (m+3)) (agF _)<;>assumption
theorem aAN(m:Nat):F7 (H bt (m+5)):=by
 unfold F7;intros;simp only[c4];apply azb (C:=H bt (m+4)) (tG _) (agG _)<;>assumption
theorem aAI(m:Nat):F5 (H bt (m+5)):=by
 unfold F5;intros;simp only[c4];apply ayM (C:=H bt (m+4)) (tG _) (agG _)<;>assumption
theorem aAD(m:Nat):F0 (H bt (m+2)):=by
 unfold F0;intros;simp only[c4];apply ax4 (C:=H bt (m+1)) (jo (by omega)) (agE _)<;>assumption
theorem aAR(m:Nat):Gb (H bt (m+2)):=by
 unfold Gb;intros;simp only[c4];apply azh (C:=H bt (m+1)) (jo (by omega)) (tG _)<;>assumption
theorem aAM(m:Nat):F6 (H bt (m+2)):=by
 unfold F6;intros;simp only[c4];apply ay6 (C:=H bt (m+1)) (jo (by omega)) (tG _) (V4 _)<;>assumption
theorem KK(m:Nat):tQ (H bt (m+1)):=by
 unfold tQ;intros;simp only[c4];apply apR (C:=H bt (m+0))<;>assumption
theorem aA1(m:Nat):Me (H bt (m+1)):=by
 unfold Me;intros;simp only[c4];apply azx (C:=H bt (m+0))<;>assumption
theorem aA5(m:Nat):Mh (H bt (m+1)):=by
 unfold Mh;intros;simp only[c4];apply azV (C:=H bt (m+0)) (jo (by omega))<;>assumption
theorem aAk(m:Nat):Lv (H bt (m+7)):=by
 unfold Lv;intros;simp only[c4];apply ajz (C:=H bt (m+6)) (aAv _) (aAt _) (aA5 _) (KK _) (aA1 _) (aA0 _) (aBe _) (aA8 _) (aAU _) (aAV _) (aA7 _) (aAR _) (aBa _) (aBb _) (aAT _) (agH _) (aAM _)<;>assumption
theorem aAi(m:Nat):Lr (H bt (m+8)):=by
 unfold Lr;intros;simp only[c4];apply ai0 (C:=H bt (m+7)) (KK _) (aAh _) (aAD _) (aAw _) (aAI _) (aAr _) (aAF _) (aAY _) (aAN _) (aA2 _) (aAO _) (aA3 _) (aAP _) (aA4 _) (aAQ _) (aAl _) (aAz _)<;>assumption
theorem aAm(m:Nat):zq (H bt (m+9)):=by
 unfold zq;intros;simp only[c4];apply akK (C:=H bt (m+8)) (aAk _) (aAi _)<;>assumption
theorem aAX(m:Nat):Gh (H bt (m+3)):=by
 unfold Gh;intros;simp only[c4];apply ayn (C:=H bt (m+2)) (aAL _) (aAy _) (KK _)<;>assumption
theorem aAe{h:U}(aK:l9 0 .u8 zs h=true):hg h:=by
 obtain⟨h1,_,h2⟩:=abz aK;refine⟨h1,λi hi=>?_⟩;have e:∀i,i<64->zs.getD i 0=((Lib.deBruijn64tab.getD i 0:Nat):Int):=by decide
 rw[h2 i hi,e i hi]
theorem apf{C:ad}{lf:Nat}{al an aD:J}{h:U}:Oq.s C lf [al,an,aD] h=Hh C lf al an aD h:=by kernel_rfl
section
variable{w:World}
def WS:Nat:=10
theorem ape(aK:l9 0 .u8 zs (hj w)=true){n m:Int}(aO:IntKind.i64.min<=n/\n<=IntKind.i64.max)(hm:IntKind.i64.min<=m/\m<=IntKind.i64.max){x:J}{L:List gG}(P:B3 (hj w) x L)(hS:L.length<=140737488355328):
 ∃h',Oq.s (sJ cons (ho wJ bt WS).call) bt [.int .i64 n,.int .i64 m,x] (hj w)=some (.ret (.bool true),h'):=by
 have hC:IntKind.i64.min= -9223372036854775808:=rfl;have e6:IntKind.i64.max=9223372036854775807:=rfl
 have Ie:0<(hj w).next:=by
  obtain⟨_,⟨m,hm⟩,_⟩:=abz aK;exact PQ hm
 have aQ:=aAX 7;have a3:=aAm 1;have cl:=aAZ 6;have ct:=agJ 7;have rv:=agH 6;have l4:=aA6 6;have xm:=KK 9;simp only[apf];have gf:140737488355329<=bt:=jo (n:=140737488355329) (by omega);refine azS (lf:=bt) (C:=sJ cons (ho wJ bt 10).call) gf (alN w) Ie (aAe aK) ?_ ?_ ?_ ?_ ?_ ?_ ?_ (λh F=>ake ?_) ⟨by omega,by omega⟩ ⟨by omega,by omega⟩ P hS
 ·unfold Gh at *;simpa only[xq (f:=49) rfl] using aQ
 ·unfold zq at *;simpa only[xq (f:=50) rfl] using a3
 ·unfold B6 at *;simpa only[xq (f:=39) rfl] using cl
 ·unfold zG at *;simpa only[xq (f:=47) rfl] using ct
 ·unfold vf at *;simpa only[xq (f:=51) rfl] using rv
 ·unfold B7 at *;simpa only[xq (f:=48) rfl] using l4
 ·unfold tQ at *;simpa only[xq (f:=34) rfl] using xm
 ·rw[amH F.aH (F.same _ Ie (λe=>e))];exact aK
end
end Go.Proofs.YtomialandfplkaaDoor.Eva
