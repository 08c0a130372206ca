import Derived.Test.YtomialandfplkaaDoorCards
import Derived.Test.YtomialandfplkaaDoorWInodeCopiesm5
import Derived.Test.YtomialandfplkaaDoorWInodeCopiesm4
import Derived.Test.YtomialandfplkaaDoorWInodeCopiesm2
set_option linter.unusedSimpArgs false
set_option linter.unusedVariables false
set_option maxRecDepth 100000
set_option maxHeartbeats 400000
namespace Go.Proofs.YtomialandfplkaaDoor.Eva
open Go.Xe
section
variable{lf:Nat}{h:J}{R:eE}{n N:Nat}{on:Nat->Bool}{q:Nat->Option Nat}{b:Nat->Nat}{now:Int}{us:Nat->Bool}{rd:Nat->Nat->U}{i:Nat}{ino:Int}
theorem bE.setCell(A:bE h R n N on q b now us rd){c:Nat}{y:U}(hi:i<N+1)(ae:c<308)(h0:c≠0)(bb:y.one=true):bE (h.set R.bs (i*308+c) [y]) R n N on q b now us (cU rd i c y):=by
 have F:aD h (h.set R.bs (i*308+c) [y]) (· =R.bs):=fj rfl;have ag:i*308+c+[y].length<=(N+1)*308:=by simp only[List.length_cons,List.length_nil];omega
 have st:ct h (h.set R.bs (i*308+c) [y]) R.rt:=F.same _ A.ref.lt (λe=>A.d1 e.symm);refine⟨A.nU,A.gH,A.ref.gQ F λj aa=>?_,by rw[st.cell];exact A.a1,by rw[st.cell];exact A.cm,let ⟨cap,lo,e⟩:=A.cb;⟨cap,lo,by rw[st.cell];exact e⟩,eP A.wt st,dY A.wl,λi' a4 cH fk=>?_,λi' cH=>?_,A.d1,A.d2,A.d3,A.d4,by rw[dz];exact A.hg,λa4 fk=>?_⟩
 ·rcases aa with rfl|rfl|rfl|⟨t,aN,e⟩
  ·exact λe=>A.d1 e.symm
  ·exact λe=>A.d2 e.symm
  ·exact λe=>A.d3 e.symm
  ·exact A.d4 t _ aN e
 ·by_cases e:i'=i/\a4=c
  ·obtain⟨rfl,rfl⟩:=e;rw[mO,fZ A.wl ag (Nat.le_refl _) (by simp),Nat.sub_self];rfl
  ·rw[hn _ _ (by omega),ep (.inr (by simp only[List.length_cons,List.length_nil];omega))];exact A.j6 i' a4 cH fk
 ·rw[hn _ _ (by omega)];exact A.kN i' cH
 ·by_cases e:0=i/\a4=c
  ·obtain⟨rfl,rfl⟩:=e;rw[mO];exact bb
  ·rw[hn _ _ (by omega)];exact A.sY a4 fk
theorem kK(A:bE h R n N on q b now us rd)(hi:i<N+1){c:Nat}(h0:c≠0)(ae:c<308)(y:Int):
 ∃h',st 1 (.ptr R.bs (i*308+c)) (I y) h=some h'/\bE h' R n N on q b now us (cU rd i c (I y))/\h'.next=h.next/\aD h h' (· =R.bs):=
 ⟨_,gN (n:=1) (y:=I y) A.wl rfl (by omega) rfl,A.setCell hi ae h0 rfl,dz ..,fj rfl⟩
theorem l6(hi:i<N+1){cap:Option Nat}{lo:Nat}:dQ 308 (.aF R.bs 0 (N+1) cap lo) (I (i:Int))=some (.ptr R.bs (i*308)):=by
 have:=gA (s:=308) (k:=R.bs) (off:=0) (len:=N+1) (lo:=lo) (cap:=cap) (kd:= .i64) (i:=(i:Int)) (by omega) (by omega)
 rwa[Int.toNat_natCast,Nat.zero_add] at this
def pJ(C:ad):Prop:=∀h R n N on q b now us rd (ino:Int),bE h R n N on q b now us rd->C (.fn 104) [.ptr R.rt 0,I ino] h=some (.ret (.bool (c7 N us ino)),h)
theorem aBK{C:ad}(A:bE h R n N on q b now us rd):Ie C lf (.ptr R.rt 0) (I ino) h=some (.ret (.bool (c7 N us ino)),h):=by
 obtain⟨cap,lo,cb⟩:=A.cb;unfold Ie Sy OR;by_cases h1:0<ino
 ·by_cases h2:ino<=(N:Int)
  ·obtain⟨i,rfl⟩:∃i:Nat,ino=((i+1:Nat):Int):=⟨ino.toNat-1,by omega⟩;have ae:=A.j6 (i+1) 0 (by omega) (by omega);rw[A.kN i (by omega),Nat.add_zero] at ae
   have e:c7 N us ((i+1:Nat):Int)=us i:=by
    have dT:decide ((1:Int)<=((i+1:Nat):Int))=true:=bu (by omega);have e:((i+1:Nat):Int).toNat-1=i:=by omega
    simp only[c7,dT,bu h2,Bool.true_and,e]
   rw[e];simp only[aA,bu h1,A.a1,bu h2,cb,l6 (R:=R) (N:=N) (i:=i+1) (cap:=cap) (lo:=lo) (by omega),Nat.add_zero,ae]
  ·have e:c7 N us ino=false:=by simp[c7,h2]
   rw[e];simp only[aA,bu h1,A.a1,br h2,iL]
 ·have e:c7 N us ino=false:=by
   have:¬(1<=ino):=by omega
   simp[c7,this]
  rw[e];simp only[aA,br h1,iL]
def CJ(C:ad):Prop:=∀h (m:Int),C (.fn 108) [I m] h=some (.ret (I (lI m)),h)
theorem ari{C:ad}{m:Int}:Ih C lf (I m) h=some (.ret (I (lI m)),h):=by
 have Eg:IntKind.i64.wrap ((BitVec.ofInt 64 m&&& BitVec.ofInt 64 61440).toNat:Int)=lI m:=rfl;unfold Ih S0 OT;simp only[aA,CY,Eg]
def iv(N:Nat)(us:Nat->Bool)(ino:Int)(i:Nat):Prop:=i<N/\us i=true/\ino=((i+1:Nat):Int)
theorem iv.yes(h:iv N us ino i):c7 N us ino=true:=by
 obtain⟨h1,h2,rfl⟩:=h;exact Bu h1 h2
def G5(C:ad):Prop:=∀h R n N on q b now us rd (ino mo:Int),bE h R n N on q b now us rd->
 (c7 N us ino=false->C (.fn 101) [.ptr R.rt 0,I ino,I mo] h=some (.ret (I 2),h))/\
 (∀i m,iv N us ino i->rd (i+1) 7=I m->∃h',C (.fn 101) [.ptr R.rt 0,I ino,I mo] h=some (.ret (I 0),h')/\
   bE h' R n N on q b now us (cU (cU rd (i+1) 7 (I (w8 m mo))) (i+1) 10 (I now))/\h'.next=h.next/\aD h h' (· =R.bs))
theorem aCe{C:ad}(hO:pJ C)(CI:CJ C)(A:bE h R n N on q b now us rd){mo:Int}:
 (c7 N us ino=false->Dk C lf (.ptr R.rt 0) (I ino) (I mo) h=some (.ret (I 2),h))/\
 (∀i m,iv N us ino i->rd (i+1) 7=I m->∃h',Dk C lf (.ptr R.rt 0) (I ino) (I mo) h=some (.ret (I 0),h')/\
   bE h' R n N on q b now us (cU (cU rd (i+1) 7 (I (w8 m mo))) (i+1) 10 (I now))/\h'.next=h.next/\aD h h' (· =R.bs)):=by
 have dA:=hO h R n N on q b now us rd ino A;obtain⟨cap,lo,cb⟩:=A.cb;unfold Dk Sn OP;refine⟨λag=>?_,λi m bT hm=>?_⟩
 ·rw[ag] at dA;simp only[aA,dA,Bool.not_false]
 ·rw[bT.yes] at dA;obtain⟨hi,hu,rfl⟩:=bT;have DY:=A.j6 (i+1) 7 (by omega) (by omega);rw[hm] at DY;obtain⟨h1,s1,bX,cA,aL⟩:=kK A (i:=i+1) (c:=7) (by omega) (by omega) (by omega) (w8 m mo);obtain⟨h2,s2,dh,ck,bw⟩:=kK bX (i:=i+1) (c:=10) (by omega) (by omega) (by omega) now;have yu:(i+1)*308+1+6=(i+1)*308+7:=rfl;have j7:(i+1)*308+1+9=(i+1)*308+10:=rfl;have y7:IntKind.i64.wrap ((BitVec.ofInt 64 (lI m)|||BitVec.ofInt 64 (IntKind.i64.wrap ((BitVec.ofInt 64 mo&&& BitVec.ofInt 64 4095).toNat:Int))).toNat:Int)=w8 m mo:=rfl;have ai:=CI h m;refine⟨h2,?_,dh,ck.trans cA,aL.trans bw⟩;simp only[aA,dA,Bool.not_true,cb,l6 (R:=R) (N:=N) (i:=i+1) (cap:=cap) (lo:=lo) (by omega),yu,j7,DY,ai,CY,ZK,y7,s1,bX.cm,s2]
def G7(C:ad):Prop:=∀h R n N on q b now us rd (ino a m:Int),bE h R n N on q b now us rd->
 (c7 N us ino=false->C (.fn 103) [.ptr R.rt 0,I ino,I a,I m] h=some (.ret (I 2),h))/\
 (∀i,iv N us ino i->∃h',C (.fn 103) [.ptr R.rt 0,I ino,I a,I m] h=some (.ret (I 0),h')/\
   bE h' R n N on q b now us (cU (cU (cU rd (i+1) 8 (I a)) (i+1) 9 (I m)) (i+1) 10 (I now))/\h'.next=h.next/\aD h h' (· =R.bs))
theorem aCg{C:ad}(hO:pJ C)(A:bE h R n N on q b now us rd){a m:Int}:
 (c7 N us ino=false->Dl C lf (.ptr R.rt 0) (I ino) (I a) (I m) h=some (.ret (I 2),h))/\
 (∀i,iv N us ino i->∃h',Dl C lf (.ptr R.rt 0) (I ino) (I a) (I m) h=some (.ret (I 0),h')/\
   bE h' R n N on q b now us (cU (cU (cU rd (i+1) 8 (I a)) (i+1) 9 (I m)) (i+1) 10 (I now))/\h'.next=h.next/\aD h h' (· =R.bs)):=by
 have dA:=hO h R n N on q b now us rd ino A;obtain⟨cap,lo,cb⟩:=A.cb;unfold Dl Sx OQ;refine⟨λag=>?_,λi bT=>?_⟩
 ·rw[ag] at dA;simp only[aA,dA,Bool.not_false]
 ·rw[bT.yes] at dA;obtain⟨hi,hu,rfl⟩:=bT;obtain⟨h1,s1,bX,cA,aL⟩:=kK A (i:=i+1) (c:=8) (by omega) (by omega) (by omega) a;obtain⟨h2,s2,dh,ck,bw⟩:=kK bX (i:=i+1) (c:=9) (by omega) (by omega) (by omega) m;obtain⟨h3,ea,ft,e6,c2⟩:=kK dh (i:=i+1) (c:=10) (by omega) (by omega) (by omega) now;have wz:(i+1)*308+1+7=(i+1)*308+8:=rfl;have pT:(i+1)*308+1+8=(i+1)*308+9:=rfl;have j7:(i+1)*308+1+9=(i+1)*308+10:=rfl;refine⟨h3,?_,ft,by omega,(aL.trans bw).trans c2⟩;simp only[aA,dA,Bool.not_true,cb,l6 (R:=R) (N:=N) (i:=i+1) (cap:=cap) (lo:=lo) (by omega),A.cm,wz,pT,j7,s1,s2,ea]
def G1(C:ad):Prop:=∀h R n N on q b now us rd (ino:Int),bE h R n N on q b now us rd->
 (c7 N us ino=false->C (.fn 99) [.ptr R.rt 0,I ino] h=some (.ret (I 2),h))/\
 (∀i H,iv N us ino i->rd (i+1) 11=I H->∃h',C (.fn 99) [.ptr R.rt 0,I ino] h=some (.ret (I 0),h')/\
   bE h' R n N on q b now us (cU rd (i+1) 11 (I (IntKind.i64.wrap (H+1))))/\h'.next=h.next/\aD h h' (· =R.bs))
theorem aBJ{C:ad}(hO:pJ C)(A:bE h R n N on q b now us rd):
 (c7 N us ino=false->DF C lf (.ptr R.rt 0) (I ino) h=some (.ret (I 2),h))/\
 (∀i H,iv N us ino i->rd (i+1) 11=I H->∃h',DF C lf (.ptr R.rt 0) (I ino) h=some (.ret (I 0),h')/\
   bE h' R n N on q b now us (cU rd (i+1) 11 (I (IntKind.i64.wrap (H+1))))/\h'.next=h.next/\aD h h' (· =R.bs)):=by
 have dA:=hO h R n N on q b now us rd ino A;obtain⟨cap,lo,cb⟩:=A.cb;unfold DF Xq PK;refine⟨λag=>?_,λi H bT iN=>?_⟩
 ·rw[ag] at dA;simp only[aA,dA,Bool.not_false]
 ·rw[bT.yes] at dA;obtain⟨hi,hu,rfl⟩:=bT;have ae:=A.j6 (i+1) 11 (by omega) (by omega);rw[iN] at ae;obtain⟨h1,s1,bX,cA,aL⟩:=kK A (i:=i+1) (c:=11) (by omega) (by omega) (by omega) (IntKind.i64.wrap (H+1));refine⟨h1,?_,bX,cA,aL⟩;simp only[aA,dA,Bool.not_true,cb,l6 (R:=R) (N:=N) (i:=i+1) (cap:=cap) (lo:=lo) (by omega),ae,s1]
end
section
variable{lf:Nat}{h:J}{R:eE}{n N:Nat}{on:Nat->Bool}{q:Nat->Option Nat}{b:Nat->Nat}{now:Int}{us:Nat->Bool}{rd:Nat->Nat->U}{i:Nat}{ino:Int}
def G6(C:ad):Prop:=∀h R n N on q b now us rd (ino u g:Int),bE h R n N on q b now us rd->
 (c7 N us ino=false->C (.fn 102) [.ptr R.rt 0,I ino,I u,I g] h=some (.ret (I 2),h))/\
 (∀i,iv N us ino i->((u < -1\/g < -1)->C (.fn 102) [.ptr R.rt 0,I ino,I u,I g] h=some (.ret (I 22),h))/\
   (¬(u < -1\/g < -1)->∃h',C (.fn 102) [.ptr R.rt 0,I ino,I u,I g] h=some (.ret (I 0),h')/\
     bE h' R n N on q b now us (rm rd (i+1) u g now)/\h'.next=h.next/\aD h h' (· =R.bs)))
theorem aCf{C:ad}(hO:pJ C)(A:bE h R n N on q b now us rd){u g:Int}:
 (c7 N us ino=false->A3 C lf (.ptr R.rt 0) (I ino) (I u) (I g) h=some (.ret (I 2),h))/\
 (∀i,iv N us ino i->((u < -1\/g < -1)->A3 C lf (.ptr R.rt 0) (I ino) (I u) (I g) h=some (.ret (I 22),h))/\
   (¬(u < -1\/g < -1)->∃h',A3 C lf (.ptr R.rt 0) (I ino) (I u) (I g) h=some (.ret (I 0),h')/\
     bE h' R n N on q b now us (rm rd (i+1) u g now)/\h'.next=h.next/\aD h h' (· =R.bs))):=by
 have dA:=hO h R n N on q b now us rd ino A;obtain⟨cap,lo,cb⟩:=A.cb;unfold A3 Sv Su St Ss;refine⟨λag=>?_,λi bT=>?_⟩
 ·rw[ag] at dA;unfold yy;simp only[aA,dA,Bool.not_false]
 ·rw[bT.yes] at dA;obtain⟨hi,hu,rfl⟩:=bT;simp only[aA,dA,Bool.not_true];unfold Sr Sq;refine⟨λag=>?_,λag=>?_⟩
  ·unfold yy;by_cases h1:u < -1
   ·simp only[aA,bu h1,iL]
   ·have h2:g < -1:=by omega
    simp only[aA,br h1,bu h2]
  ·have h1:decide (u < -1)=false:=br (by omega);have h2:decide (g < -1)=false:=br (by omega);have b9:(i+1)*308+1+2=(i+1)*308+3:=rfl;have ee:(i+1)*308+1+3=(i+1)*308+4:=rfl;have j7:(i+1)*308+1+9=(i+1)*308+10:=rfl;simp only[aA,h1,h2];unfold Sp agl;simp only[aA,cb,l6 (R:=R) (N:=N) (i:=i+1) (cap:=cap) (lo:=lo) (by omega)];unfold agk agj
   have fin:∀h2 k9,bE h2 R n N on q b now us k9->∃h',Sw C lf yy (some (.ptr R.rt 0)) (some (.ptr R.bs ((i+1)*308+1))) h2=some (.ret (I 0),h')/\bE h' R n N on q b now us (cU k9 (i+1) 10 (I now))/\h'.next=h2.next/\aD h2 h' (· =R.bs):=λh2 k9 dh=>by
    obtain⟨h3,ea,ft,e6,c2⟩:=kK dh (i:=i+1) (c:=10) (by omega) (by omega) (by omega) now;refine⟨h3,?_,ft,e6,c2⟩;unfold Sw yy;simp only[aA,dh.cm,j7,ea]
   have DM:∀h2 k9,bE h2 R n N on q b now us k9->∃h',So C lf yy (some (.ptr R.rt 0)) (some (I g)) (some (.ptr R.bs ((i+1)*308+1))) h2=some (.ret (I 0),h')/\
    bE h' R n N on q b now us (cU (if 0<=g then cU k9 (i+1) 4 (I g) else k9) (i+1) 10 (I now))/\h'.next=h2.next/\aD h2 h' (· =R.bs):=λh2 k9 dh=>by
    unfold So agi;by_cases bc:0<=g
    ·obtain⟨h3,ea,ft,e6,c2⟩:=kK dh (i:=i+1) (c:=4) (by omega) (by omega) (by omega) g;obtain⟨aT,e2,kP,jm,fK⟩:=fin h3 _ ft;rw[if_pos bc];refine⟨aT,?_,kP,by omega,c2.trans fK⟩;simp only[aA,bu bc,ee,ea];exact e2
    ·obtain⟨aT,e2,kP,jm,fK⟩:=fin h2 _ dh;rw[if_neg bc];refine⟨aT,?_,kP,jm,fK⟩;simp only[aA,br bc];exact e2
   by_cases vi:0<=u
   ·obtain⟨h3,ea,ft,e6,c2⟩:=kK A (i:=i+1) (c:=3) (by omega) (by omega) (by omega) u;obtain⟨aT,e2,kP,jm,fK⟩:=DM h3 _ ft;refine⟨aT,?_,by unfold rm;rw[if_pos vi];exact kP,by omega,c2.trans fK⟩;simp only[aA,bu vi,b9,ea];exact e2
   ·obtain⟨aT,e2,kP,jm,fK⟩:=DM h _ A;refine⟨aT,?_,by unfold rm;rw[if_neg vi];exact kP,jm,fK⟩;simp only[aA,br vi];exact e2
def ej(k:Nat):Int:=if k<6 then -1 else(((k-6)/16:Nat):Int)
def vX(C:ad):Prop:=∀h (k:Nat),k<278->C (.fn 105) [I (k:Int)] h=some (.ret (I (ej k)),h)
theorem aoL{C:ad}{k:Nat}(ai:k<278):Ig C lf (I (k:Int)) h=some (.ret (I (ej k)),h):=by
 unfold Ig Sz OS ej;by_cases bA:k<6
 ·have d:decide ((k:Int)<6)=true:=bu (by omega);simp only[aA,d,if_pos bA]
 ·have d:decide ((k:Int)<6)=false:=br (by omega);have az:IntKind.i64.wrap ((k:Int)-6)=((k-6:Nat):Int):=cD (by omega)
  have ay:IntKind.i64.wrap (((k-6:Nat):Int).tdiv 16)=(((k-6)/16:Nat):Int):=by
   rw[Int.tdiv_eq_ediv_of_nonneg (by omega),wrap_i64 (by omega) (by omega)];rfl
  simp only[aA,d,if_neg bA,az,lV (show(16:Int)≠0 by omega),ay]
def pm(c:Nat):Nat:=if c<290 then a5 (c-12) else if c=290 then 18 else if c=307 then 35 else 36+17*(c-291)
def dg(N:Nat)(rd:Nat->Nat->U)(bl:Nat->Nat->Nat):Prop:=∀i c,i<N->12<=c->c<308->rd (i+1) c=I (bl i (pm c):Int)
theorem rq{k:Nat}(ai:k<278):pm (12+k)=a5 k:=by
 unfold pm;rw[if_pos (by omega),Nat.add_sub_cancel_left]
theorem zN:pm 307=35:=rfl
theorem af4{g:Nat}(h1:1<=g)(h2:g<=16):pm (290+g)=36+17*(g-1):=by
 unfold pm;rw[if_neg (by omega),if_neg (by omega),if_neg (by omega),show 290+g-291=g-1 by omega]
theorem af6{c a4:Nat}(h1:12<=c)(h2:c<308)(h3:12<=a4)(aT:a4<308)(h:pm c=pm a4):c=a4:=by
 unfold pm at h;by_cases a:c<290
 ·rw[if_pos a] at h;have n:=ur (m:=c-12) (by omega);by_cases a':a4<290
  ·rw[if_pos a'] at h
   have:=Sg h (by omega) (by omega)
   omega
  ·rw[if_neg a'] at h;by_cases b':a4=290
   ·rw[if_pos b'] at h;exact absurd h n.1
   ·rw[if_neg b'] at h;by_cases hQ:a4=307
    ·rw[if_pos hQ] at h;exact absurd h n.2.1
    ·rw[if_neg hQ] at h;exact absurd h (n.2.2 _ (by omega))
 ·rw[if_neg a] at h;by_cases a':a4<290
  ·rw[if_pos a'] at h;have n:=ur (m:=a4-12) (by omega);by_cases b':c=290
   ·rw[if_pos b'] at h;exact absurd h.symm n.1
   ·rw[if_neg b'] at h;by_cases hQ:c=307
    ·rw[if_pos hQ] at h;exact absurd h.symm n.2.1
    ·rw[if_neg hQ] at h;exact absurd h.symm (n.2.2 _ (by omega))
  ·rw[if_neg a'] at h;by_cases bY:c=290<;>by_cases b2:a4=290<;>by_cases d1:c=307<;>by_cases d2:a4=307<;>simp only[bY,b2,d1,d2,if_true,if_false] at h⊢ <;>first|omega|(simp at h;done)|(simp at h;omega)
end
def nf(k:Nat):Nat:=if k<22 then 18 else 36+17*((k-22)/16)
def gi(bl:Nat->Nat->Nat)(i k:Nat):Nat:=if 0<bl i (a5 k) then 0 else 1+(if 6<=k/\bl i (nf k)=0 then 1 else 0)+(if 22<=k/\bl i 35=0 then 1 else 0)
theorem Si{k:Nat}(bA:6<=k)(ai:k<278):pm (290+(k-6)/16)=nf k:=by
 unfold nf;by_cases m4:k<22
 ·rw[if_pos m4,show(k-6)/16=0 by omega];rfl
 ·rw[if_neg m4,af4 (by omega) (by omega),show(k-6)/16-1=(k-22)/16 by omega]
theorem arX{C:ad}{lf:Nat}{r:aw}{x0 x1 x2:O}{h:J}:S5 C lf r x0 x1 x2 h=Ks C lf (λx2 x7 h=>Kr C lf r x2 x7 h) x0 x1 x2 h:=rfl
section
variable{lf:Nat}{h:J}{R:eE}{n N:Nat}{on:Nat->Bool}{q:Nat->Option Nat}{b:Nat->Nat}{now:Int}{us:Nat->Bool}{rd:Nat->Nat->U}{bl:Nat->Nat->Nat}{i:Nat}
theorem ni(A:bE h R n N on q b now us rd)(M:dg N rd bl)(hi:i<N){c:Nat}(dF:12<=c)(ae:c<308):h.cell R.bs ((i+1)*308+c)=some (I (bl i (pm c):Int)):=by
 rw[A.j6 (i+1) c (by omega) ae,M i c hi dF ae]
def Nm(C:ad):Prop:=∀h R n N on q b now us rd bl i (k:Nat),bE h R n N on q b now us rd->dg N rd bl->i<N->k<278->
 C (.fn 110) [.ptr R.rt 0,I ((i+1:Nat):Int),I (k:Int)] h=some (.ret (I (gi bl i k:Int)),h)
theorem aBO{C:ad}(nn:vX C)(A:bE h R n N on q b now us rd)(M:dg N rd bl)(hi:i<N){k:Nat}(ai:k<278):
 Ij C lf (.ptr R.rt 0) (I ((i+1:Nat):Int)) (I (k:Int)) h=some (.ret (I (gi bl i k:Int)),h):=by
 obtain⟨cap,lo,cb⟩:=A.cb;have ax:=l6 (R:=R) (N:=N) (i:=i+1) (cap:=cap) (lo:=lo) (by omega)
 have u9:eu 278 1 (.ptr R.bs ((i+1)*308+12)) (I (k:Int))=some (.ptr R.bs ((i+1)*308+(12+k))):=by
  have:=l1 (n:=278) (s:=1) (k:=R.bs) (off:=(i+1)*308+12) (kd:= .i64) (i:=(k:Int)) (by omega) (by omega)
  rwa[Int.toNat_natCast,Nat.mul_one,Nat.add_assoc] at this
 have eM:=ni A M hi (c:=12+k) (by omega) (by omega);rw[rq ai] at eM;have qU:=ni A M hi (c:=307) (by omega) (by omega);rw[zN] at qU;unfold Ij;rw[arX];unfold Ks;simp only[cf,b8,sK,r7,Nat.zero_add,pf,cb,ax];unfold Kr S4;by_cases aB:0<bl i (a5 k)
 ·have d:decide ((0:Int)<(bl i (a5 k):Int))=true:=bu (by omega);unfold gi Df;rw[if_pos aB];simp only[cf,b8,sK,r7,u9,pf,eM,AK,d,sX];rfl
 have d:decide ((0:Int)<(bl i (a5 k):Int))=false:=br (by omega);have bc:=nn h k ai;simp only[cf,b8,sK,r7,u9,pf,eM,AK,d,qs];unfold S3 agu;simp only[cf,b8,ks,bc];unfold agt ags agr agq;have cV:IntKind.i64.wrap ((1:Int)+1)=((2:Nat):Int):=cD (by omega);unfold gi;rw[if_neg aB]
 have Ok:∀(m:Nat) (x:Int),x=(m:Int)->m<=2->S2 C lf Df (some (.ptr R.bs ((i+1)*308))) (some (I (ej k))) (some (I x)) h=some (.ret (I ((m+(if 22<=k/\bl i 35=0 then 1 else 0):Nat):Int)),h):=λm x ax hm=>by
  subst ax;have aE1:IntKind.i64.wrap ((m:Int)+1)=((m+1:Nat):Int):=cD (by omega);unfold S2 Df;by_cases m4:22<=k
  ·have g1:decide ((0:Int)<ej k)=true:=bu (by unfold ej;rw[if_neg (by omega)];omega);by_cases h0:bl i 35=0
   ·have g2:decide ((bl i 35:Int)=0)=true:=bu (by omega);rw[if_pos ⟨m4,h0⟩];simp only[aA,g1,qU,g2,aE1]
   ·have g2:decide ((bl i 35:Int)=0)=false:=br (by omega);rw[if_neg (λe=>h0 e.2)];simp only[aA,g1,qU,g2,Nat.add_zero]
  ·have g1:decide ((0:Int)<ej k)=false:=br (by unfold ej;split<;>omega);rw[if_neg (λe=>m4 e.1)];simp only[aA,g1,iL,Nat.add_zero]
 by_cases bA:6<=k
 ·have n5:ej k=(((k-6)/16:Nat):Int):=if_neg (by omega);have g0:decide ((0:Int)<=ej k)=true:=bu (by rw[n5];omega)
  have D8:eu 17 1 (.ptr R.bs ((i+1)*308+290)) (I (ej k))=some (.ptr R.bs ((i+1)*308+(290+(k-6)/16))):=by
   rw[n5]
   have:=l1 (n:=17) (s:=1) (k:=R.bs) (off:=(i+1)*308+290) (kd:= .i64) (i:=(((k-6)/16:Nat):Int)) (by omega) (by omega)
   rwa[Int.toNat_natCast,Nat.mul_one,Nat.add_assoc] at this
  have sd:=ni A M hi (c:=290+(k-6)/16) (by omega) (by omega);rw[Si bA ai] at sd;by_cases h0:bl i (nf k)=0
  ·have g2:decide ((bl i (nf k):Int)=0)=true:=bu (by omega);rw[if_pos ⟨bA,h0⟩];simp only[aA,g0,D8,sd,g2,cV];exact Ok 2 _ rfl (Nat.le_refl _)
  ·have g2:decide ((bl i (nf k):Int)=0)=false:=br (by omega);rw[if_neg (λe=>h0 e.2)];simp only[aA,g0,D8,sd,g2];exact Ok 1 _ rfl (by omega)
 ·have g0:decide ((0:Int)<=ej k)=false:=br (by unfold ej;rw[if_pos (by omega)];omega);rw[if_neg (λe=>bA e.1)];simp only[aA,g0,iL];exact Ok 1 _ rfl (by omega)
end
def pg(n:Nat)(on:Nat->Bool):Option Nat:=(List.range n).find? λj=>!on j
theorem RN{n:Nat}{on:Nat->Bool}(h:pg n on=none):∀j,j<n->on j=true:=λj aa=>by
 have:=List.find?_eq_none.1 h j (List.mem_range.2 aa)
 simpa using this
theorem RO{n j:Nat}{on:Nat->Bool}(h:pg n on=some j):j<n/\on j=false/\∀t,t<j->on t=true:=by
 obtain⟨h1,b4,cv,e,h2⟩:=List.find?_eq_some_iff_append.1 h;have hlen:b4.length<(List.range n).length:=by rw[e];simp
 rw[List.length_range] at hlen
 have aa:j=b4.length:=by
  have:(List.range n)[b4.length]?=some j:=by rw[e];simp
  rw[List.getElem?_range hlen] at this;exact(Option.some.inj this).symm
 have kC:j<n:=by omega
 refine⟨kC,by simpa using h1,λt aN=>?_⟩;have h3:(List.range n)[t]?=some t:=List.getElem?_range (by omega);rw[e,List.getElem?_append_left (by omega)] at h3
 have:=h2 t (List.mem_of_getElem? h3)
 simpa using this
def gK(n:Nat):Nat->(Nat->Bool)->(Nat->Nat)->List Nat×(Nat->Bool)×(Nat->Nat)
 |0,on,b=>([],on,b)
 |m+1,on,b=>match pg n on with
  |none=>([],on,b)
  |some j=>(j::(gK n m (da on j true) (gF b j)).1,(gK n m (da on j true) (gF b j)).2)
section
variable{lf:Nat}{h h0:J}{R:eE}{n N:Nat}{on:Nat->Bool}{q:Nat->Option Nat}{b:Nat->Nat}{now:Int}{us:Nat->Bool}{rd:Nat->Nat->U}
theorem bE.store(A:bE h R n N on q b now us rd){h':J}{ds:Nat->Bool}{eV:Nat->Option Nat}{b':Nat->Nat}(V:gw h' R.rt R.ro R.rb n ds eV b')(F:aD h h' (λj=>j=R.ro\/j=R.rb))(a2:∀i k,i<n->eV i=some k->k≠R.bs):
 bE h' R n N ds eV b' now us rd:=by
 have st:ct h h' R.rt:=F.same _ A.ref.lt (λe=>by rcases e with e|e;exact A.ref.uk e;exact A.ref.qa e);have aF:ct h h' R.bs:=F.same _ A.hg (λe=>by rcases e with e|e;exact A.d2 e;exact A.d3 e);exact⟨A.nU,A.gH,V,by rw[st.cell];exact A.a1,by rw[st.cell];exact A.cm,let ⟨cap,lo,e⟩:=A.cb;⟨cap,lo,by rw[st.cell];exact e⟩,eP A.wt st,eP A.wl aF,λi c hi ae=>by rw[aF.cell];exact A.j6 i c hi ae,A.kN,A.d1,A.d2,A.d3,a2,Nat.lt_of_lt_of_le A.hg F.next,A.sY⟩
theorem ajj{n j:Nat}(aa:j<n)(aq:on j=false):(eW (da on j true) n).length=(eW on n).length+1:=
 aam aa aq λk=>by
  by_cases e:k=j
  ·subst e;simp[jE]
  ·simp[ho _ _ e,e]
structure Ao (h0 h:J) (R:eE) (n:Nat) (q:Nat->Option Nat) (x:U) (l:List Nat):Prop where
 i:eQ h0 h x (l.map (· +1))
 a:∀j,rowOf x=some j->¬sJ R n q j
theorem ai7{C:ad}(nO:GW C){m:Nat}(hm:m<=1000){xk xr xg:O}(av:bo):∀(d t:Nat),t+d=m->∀f,d<f->∀h on q b x pW,bE h R n N on q b now us rd->Ao h0 h R n q x pW->d+(eW on n).length<=n->pW.length+d<=1000->h0.next<=h.next->
 ∃h' eV bF,bk (Bz C lf av) f (some (.ptr R.rt 0),xk,xr,xg,some x,some (I (m:Int)),some (I (t:Int))) h=av xk xr xg (some bF) h'/\
  bE h' R n N (gK n d on b).2.1 eV (gK n d on b).2.2 now us rd/\Ao h0 h' R n eV bF (pW++(gK n d on b).1)/\(gK n d on b).1.length=d/\(∀t k,eV t=some k->q t=some k\/h.next<=k)/\aD h h' (λj=>j=R.ro\/j=R.rb\/h0.next<=j)
 |0,t,aN,f,au,h,on,q,b,x,pW,A,G,_,_,_=>by
  obtain⟨f,rfl⟩:=dx f (by omega);have e:t=m:=by omega
  subst e;refine⟨h,q,x,?_,A,by simpa[gK] using G,rfl,λ_ _ e=> .inl e,aD.refl _ _⟩;rw[df];unfold Bz E5;have a9:decide ((t:Int)<(t:Int))=false:=by simp
  simp only[aA,a9]
 |d+1,t,aN,f,au,h,on,q,b,x,pW,A,G,oo,hlen,lZ=>by
  obtain⟨f,rfl⟩:=dx f (by omega);have fG:n<=4096:=A.ref.v.choose_spec.choose_spec.2.2.ck;have a9:decide ((t:Int)<(m:Int))=true:=bu (by omega)
  obtain⟨j,aa⟩:∃j,pg n on=some j:=by
   cases aJ:pg n on with
   |some j=>exact⟨j,rfl⟩
   |none=>
    have:=abg (RN aJ)
    have e:(eW on n).length=n:=this;omega
  obtain⟨Bw,EH,aq9⟩:=RO aa;obtain⟨h1,aP,Ho,aL,cA⟩:=(nO h R.rt R.ro R.rb n on q b A.ref).2 j Bw EH aq9
  have bX:=A.store Ho aL (λi k hi e=>by
   by_cases ay:i=j
   ·subst ay;rw[jE] at e;cases e
    have:=A.hg;omega
   ·rw[ho _ _ ay] at e
    exact A.d4 i k hi e)
  have aeI:∀k,rowOf x=some k->k<h.next:=λk ai=>G.i.aF.iq ai
  have aj4:ha h1 3 1 x (pW.map (· +1)).length (ints (pW.map (· +1))):=G.i.aF.frame aL.next λk ai=>aL.same k (aeI k ai) (λe=>G.a k ai (by rcases e with rfl|rfl;exact .inr (.inr (.inl rfl));exact .inr (.inr (.inr (.inl rfl)))))
  obtain⟨bF,h2,aj,aC,a8,cF,dK,dH,fE,h4⟩:=tk (y:=I ((j+1:Nat):Int)) ti rfl rfl rfl aj4 (by simp;omega) (by simp;omega)
  have p3:∀k,rowOf x=some k->¬sJ R n (da q j (some h.next)) k:=λk ai e=>by
   rcases e with rfl|rfl|rfl|rfl|⟨i,hi,e⟩
   ·exact G.a _ ai (.inl rfl)
   ·exact G.a _ ai (.inr (.inl rfl))
   ·exact G.a _ ai (.inr (.inr (.inl rfl)))
   ·exact G.a _ ai (.inr (.inr (.inr (.inl rfl))))
   ·by_cases ay:i=j
    ·subst ay;rw[jE] at e;cases e
     have:=aeI _ ai;omega
    ·rw[ho _ _ ay] at e;exact G.a _ ai (.inr (.inr (.inr (.inr ⟨i,hi,e⟩))))
  have bw:aD h1 h2 (λk=>rowOf x=some k):=⟨dK,cF,λk ai e=>dH k ai e,h4⟩;have dh:=bX.gQ bw λk ai e=>p3 k e ai
  have nm:Ao h0 h2 R n (da q j (some h.next)) bF (pW++[j]):=by
   refine⟨⟨?_,λk ai=>?_⟩,λk ai e=>?_⟩
   ·have az:ints ((pW++[j]).map (· +1))=ints (pW.map (· +1))++[I ((j+1:Nat):Int)]:=by simp[ints]
    have ay:((pW++[j]).map (· +1)).length=(pW.map (· +1)).length+1:=by simp
    rw[az,ay];exact a8
   ·rcases fE k ai with e|e
    ·exact G.i.new k e
    ·omega
   ·rcases fE k ai with ay|ay
    ·exact p3 k ay e
    ·have:=bX.iq e;omega
  have dr:IntKind.i64.wrap ((t:Int)+1)=((t+1:Nat):Int):=cD (by omega);have D9:IntKind.i64.wrap ((j:Int)+1)=((j+1:Nat):Int):=cD (by omega);obtain⟨h3,nJ,x3,dd,dy,fB,k8,ry,mJ⟩:=ai7 nO hm av d (t+1) (by omega) f (by omega) h2 (da on j true) (da q j (some h.next)) (gF b j) bF (pW++[j]) dh nm (by rw[ajj Bw EH];omega) (by simp;omega) (by omega)
  have n5:gK n (d+1) on b=(j::(gK n d (da on j true) (gF b j)).1,(gK n d (da on j true) (gF b j)).2):=by
   show(match pg n on with|none=>_|some j=>_)=_;rw[aa]
  rw[n5];refine⟨h3,nJ,x3,?_,dy,by simpa using fB,by simp[k8],λt k e=>?_,((aL.ei λk e=>?_).trans (bw.ei λk e=>?_)).trans mJ⟩
  ·rw[df];show E5 C lf (λx0 x2 x7 x8 x9 xI nk h=>bk (Bz C lf av) f (x0,x2,x7,x8,x9,xI,nk) h) av (some (.ptr R.rt 0)) xk xr xg (some x) (some (I (m:Int))) (some (I (t:Int))) h=_;unfold E5;simp only[aA,a9,aP,List.getElem?_cons_zero,List.getElem?_cons_succ,D9,aj,aC,dr];exact dd
  ·rcases ry t k e with ay|ay
   ·by_cases b9:t=j
    ·subst b9;rw[jE] at ay;cases ay;exact .inr (Nat.le_refl _)
    ·rw[ho _ _ b9] at ay;exact .inl ay
   ·exact .inr (by have:=aL.next;omega)
  ·rcases e with e|e
   ·exact .inl e
   ·exact .inr (.inl e)
  ·exact .inr (.inr (G.i.new k e))
end
theorem aCU{P:Program}{t e k off n lo:Nat}{cap:Option Nat}(hu:P.underlying t=some (.slice e))(ak:eg P e=some 1)(ae:mQ (.aF k off n cap lo))(aR:2<=n):
 ∃r4 iz,gl P t (.aF k off n cap lo) (some (I 1)) none=some (.aF k (off+1) (n-1) r4 iz)/\mQ (.aF k (off+1) (n-1) r4 iz):=by
 have dT:kl (I 1)=some 1:=rfl;unfold gl;cases cap with
 |none=>
  have h3:sliceB n n (some (I 1)) none=some (1,n):=by
   simp only[sliceB,dT]
   have:(Nat.ble n n&&Nat.ble 1 n)=true:=by simp[Nat.ble_eq_true_of_le (show 1<=n by omega)]
   simp only[this,cond_true]
  have bY:Nat.blt 1 n=true:=by rw[Nat.blt_eq];omega
  simp only[hu,ak,h3,qm,force_eq,Nat.ble_eq_true_of_le (Nat.le_refl n),cond_true,bY,Nat.mul_one];exact⟨_,_,rfl,trivial⟩
 |some c=>
  have ae:n<=c:=ae
  have h3:sliceB n c (some (I 1)) none=some (1,n):=by
   simp only[sliceB,dT]
   have:(Nat.ble n c&&Nat.ble 1 n)=true:=by simp[Nat.ble_eq_true_of_le (show 1<=n by omega),Nat.ble_eq_true_of_le ae]
   simp only[this,cond_true]
  have bY:Nat.beq (c-1) 0=false:=by
   cases ag:Nat.beq (c-1) 0 with
   |false=>rfl
   |true=>exact absurd (Nat.eq_of_beq_eq_true ag) (by omega)
  simp only[hu,ak,h3,qm,force_eq,bY,cond_false,Nat.mul_one];exact⟨_,_,rfl,by show n-1<=c-1;omega⟩
structure pG (h:J) (bs:Nat) (x:U) (l:List Nat):Prop where
 s:∃k off cap lo,x= .aF k off l.length cap lo/\mQ x/\k≠bs/\∀j,j<l.length->h.cell k (off+j)=some (I ((l.getD j 0:Nat):Int))
def ql(rd:Nat->Nat->U)(i:Nat):List Nat->List Nat->Nat->Nat->U
 |c::cs,j::js=>ql (cU rd i c (I ((j+1:Nat):Int))) i cs js
 |_,_=>rd
def sZ(bl:Nat->Nat->Nat)(i k:Nat):List Nat:=(if 22<=k/\bl i 35=0 then[307] else[])++((if 6<=k/\bl i (nf k)=0 then[290+(k-6)/16] else[])++[12+k])
section
variable{lf:Nat}{h h0:J}{R:eE}{n N:Nat}{on:Nat->Bool}{q:Nat->Option Nat}{b:Nat->Nat}{now:Int}{us:Nat->Bool}{rd:Nat->Nat->U}{i k:Nat}
theorem pG.step{x:U}{v:Nat}{l:List Nat}(G:pG h R.bs x (v::l))(aJ:l≠[]){h':J}(F:aD h h' (· =R.bs))(ai:∀k,rowOf x=some k->k<h.next):
 ∃bF,dQ 1 x (I 0)=some (.ptr ((rowOf x).getD 0) (match x with| .aF _ off _ _ _=>off|_=>0))/\gl ao 33 x (some (I 1)) none=some bF/\pG h' R.bs bF l/\rowOf bF=rowOf x:=by
 obtain⟨k,off,cap,lo,rfl,ae,ca,en⟩:=G.s;have Ef:=List.length_pos_iff.2 aJ;obtain⟨r4,iz,dT,fA⟩:=aCU (P:=ao) (t:=33) Tryd.underlying33 (by kernel_rfl) ae (by simp;omega);have bW:=gA (s:=1) (k:=k) (off:=off) (len:=(v::l).length) (lo:=lo) (cap:=cap) (kd:= .i64) (i:=0) (by omega) (by simp);have av:off+(0:Int).toNat*1=off:=by simp
 rw[av] at bW;have ak:=F.same k (ai k rfl) ca;refine⟨_,bW,dT,⟨⟨k,off+1,r4,iz,rfl,fA,ca,λj aa=>?_⟩⟩,rfl⟩;rw[ak.cell,Nat.add_assoc,Nat.add_comm 1 j,en (j+1) (by simp;omega)];rfl
theorem pG.head{x:U}{v:Nat}{l:List Nat}(G:pG h R.bs x (v::l)):∃k off,dQ 1 x (I 0)=some (.ptr k off)/\h.cell k off=some (I (v:Int)):=by
 obtain⟨k,off,cap,lo,rfl,ae,ca,en⟩:=G.s;have bW:=gA (s:=1) (k:=k) (off:=off) (len:=(v::l).length) (lo:=lo) (cap:=cap) (kd:= .i64) (i:=0) (by omega) (by simp);have av:off+(0:Int).toNat*1=off:=by simp
 rw[av] at bW;exact⟨k,off,bW,by have:=en 0 (by simp);rwa[Nat.add_zero] at this⟩
theorem yK(bA:6<=k):ej k=(((k-6)/16:Nat):Int):=if_neg (by omega)
theorem af3{C:ad}(A:bE h R n N on q b now us rd)(hi:i<N)(ai:k<278){x:U}{v:Nat}(G:pG h R.bs x [v])(r:aw):
 ∃h',Kf C lf r (some (I (k:Int))) (some (.ptr R.bs ((i+1)*308))) (some x) h=r (some (.bool true)) h'/\bE h' R n N on q b now us (cU rd (i+1) (12+k) (I (v:Int)))/\h'.next=h.next/\aD h h' (· =R.bs):=by
 obtain⟨kx,off,x1,x2⟩:=G.head;obtain⟨h1,s1,bX,cA,aL⟩:=kK A (i:=i+1) (c:=12+k) (by omega) (by omega) (by omega) (v:Int)
 have u9:eu 278 1 (.ptr R.bs ((i+1)*308+12)) (I (k:Int))=some (.ptr R.bs ((i+1)*308+(12+k))):=by
  have:=l1 (n:=278) (s:=1) (k:=R.bs) (off:=(i+1)*308+12) (kd:= .i64) (i:=(k:Int)) (by omega) (by omega)
  rwa[Int.toNat_natCast,Nat.mul_one,Nat.add_assoc] at this
 refine⟨h1,?_,bX,cA,aL⟩;unfold Kf;simp only[cf,b8,x1,pf,x2,sK,r7,u9,s1]
theorem aqY{C:ad}(A:bE h R n N on q b now us rd)(hi:i<N)(ai:k<278){w:Nat}(hw:6<=k->rd (i+1) (290+(k-6)/16)=I (w:Int)){x:U}{l:List Nat}(G:pG h R.bs x l)(ax:∀k,rowOf x=some k->k<h.next)(fq:bK):
 (6<=k/\w=0->∀v dJ,l=v::dJ->dJ≠[]->∃h' bF,E2 C lf fq (some (I (k:Int))) (some (.ptr R.bs ((i+1)*308))) (some (I (ej k))) (some x) h=fq (some (I (k:Int))) (some (.ptr R.bs ((i+1)*308))) (some bF) h'/\
   bE h' R n N on q b now us (cU rd (i+1) (290+(k-6)/16) (I (v:Int)))/\pG h' R.bs bF dJ/\(∀k,rowOf bF=some k->k<h'.next)/\h'.next=h.next/\aD h h' (· =R.bs))/\
 (¬(6<=k/\w=0)->E2 C lf fq (some (I (k:Int))) (some (.ptr R.bs ((i+1)*308))) (some (I (ej k))) (some x) h=fq (some (I (k:Int))) (some (.ptr R.bs ((i+1)*308))) (some x) h):=by
 have D8:6<=k->eu 17 1 (.ptr R.bs ((i+1)*308+290)) (I (ej k))=some (.ptr R.bs ((i+1)*308+(290+(k-6)/16))):=λbA=>by
  rw[yK bA]
  have:=l1 (n:=17) (s:=1) (k:=R.bs) (off:=(i+1)*308+290) (kd:= .i64) (i:=(((k-6)/16:Nat):Int)) (by omega) (by omega)
  rwa[Int.toNat_natCast,Nat.mul_one,Nat.add_assoc] at this
 have fQ:6<=k->h.cell R.bs ((i+1)*308+(290+(k-6)/16))=some (I (w:Int)):=λbA=>by
  rw[A.j6 (i+1) _ (by omega) (by omega),hw bA]
 have g0:6<=k->decide ((0:Int)<=ej k)=true:=λbA=>bu (by rw[yK bA];omega)
 refine⟨λ⟨bA,h0⟩ v dJ e aJ=>?_,λag=>?_⟩
 ·subst e;obtain⟨kx,off,x1,x2⟩:=G.head;obtain⟨h1,s1,bX,cA,aL⟩:=kK A (i:=i+1) (c:=290+(k-6)/16) (by omega) (by omega) (by omega) (v:Int);obtain⟨bF,_,t2,t3,t4⟩:=G.step aJ aL ax;have g2:decide ((w:Int)=0)=true:=bu (by omega);refine⟨h1,bF,?_,bX,t3,λk ai=>by rw[cA];exact ax k (by rw[<- t4];exact ai),cA,aL⟩;unfold E2;simp only[aA,g0 bA,D8 bA,fQ bA,g2,x1,x2,s1,t2]
 ·unfold E2;by_cases bA:6<=k
  ·have g2:decide ((w:Int)=0)=false:=br (by omega);simp only[aA,g0 bA,D8 bA,fQ bA,g2]
  ·have g1:decide ((0:Int)<=ej k)=false:=br (by unfold ej;rw[if_pos (by omega)];omega);simp only[aA,g1,iL]
theorem ane{C:ad}(A:bE h R n N on q b now us rd)(hi:i<N){w:Nat}(hw:rd (i+1) 307=I (w:Int)){x:U}{l:List Nat}(G:pG h R.bs x l)(ax:∀k,rowOf x=some k->k<h.next)(fq:bo):
 (22<=k/\w=0->∀v dJ,l=v::dJ->dJ≠[]->∃h' bF,E3 C lf fq (some (I (k:Int))) (some (.ptr R.bs ((i+1)*308))) (some (I (ej k))) (some x) h=fq (some (I (k:Int))) (some (.ptr R.bs ((i+1)*308))) (some (I (ej k))) (some bF) h'/\
   bE h' R n N on q b now us (cU rd (i+1) 307 (I (v:Int)))/\pG h' R.bs bF dJ/\(∀k,rowOf bF=some k->k<h'.next)/\h'.next=h.next/\aD h h' (· =R.bs))/\
 (¬(22<=k/\w=0)->E3 C lf fq (some (I (k:Int))) (some (.ptr R.bs ((i+1)*308))) (some (I (ej k))) (some x) h=fq (some (I (k:Int))) (some (.ptr R.bs ((i+1)*308))) (some (I (ej k))) (some x) h):=by
 have fQ:h.cell R.bs ((i+1)*308+307)=some (I (w:Int)):=by rw[A.j6 (i+1) _ (by omega) (by omega),hw]
 have g0:22<=k->decide ((0:Int)<ej k)=true:=λbA=>bu (by rw[yK (by omega)];omega)
 refine⟨λ⟨bA,h0⟩ v dJ e aJ=>?_,λag=>?_⟩
 ·subst e;obtain⟨kx,off,x1,x2⟩:=G.head;obtain⟨h1,s1,bX,cA,aL⟩:=kK A (i:=i+1) (c:=307) (by omega) (by omega) (by omega) (v:Int);obtain⟨bF,_,t2,t3,t4⟩:=G.step aJ aL ax;have g2:decide ((w:Int)=0)=true:=bu (by omega);refine⟨h1,bF,?_,bX,t3,λk ai=>by rw[cA];exact ax k (by rw[<- t4];exact ai),cA,aL⟩;unfold E3;simp only[aA,g0 bA,fQ,g2,x1,x2,s1,t2]
 ·unfold E3;by_cases bA:22<=k
  ·have g2:decide ((w:Int)=0)=false:=br (by omega);simp only[aA,g0 bA,fQ,g2]
  ·have g1:decide ((0:Int)<ej k)=false:=br (by unfold ej;split<;>omega);simp only[aA,g1,iL]
end
theorem aEq{C:ad}{lf:Nat}{r:aw}{x0 x1 x2:O}{h:J}:SC C lf r x0 x1 x2 h=Ki C lf (λx0 x1 x2 x7 h=>Kh C lf r x0 x1 x2 x7 h) x0 x1 x2 h:=rfl
theorem aEp{C:ad}{lf:Nat}{r:aw}{x0 x1 x2 x7 x8:O}{h:J}:SA C lf r x0 x1 x2 x7 x8 h=Km C lf (λx0 x2 x7 x8 x9 aU h=>Kl C lf r x0 x2 x7 x8 x9 aU h) x0 x1 x2 x7 x8 (some (.val (.slice none 0 0))) h:=rfl
theorem aGf{bl:Nat->Nat->Nat}{i k:Nat}(h:bl i (a5 k)=0):(sZ bl i k).length=gi bl i k:=by
 unfold sZ gi;rw[if_neg (show ¬0<bl i (a5 k) by omega)];by_cases a:22<=k/\bl i 35=0<;>by_cases c:6<=k/\bl i (nf k)=0<;>simp[a,c]
section
variable{lf:Nat}{h h0:J}{R:eE}{n N:Nat}{on:Nat->Bool}{q:Nat->Option Nat}{b:Nat->Nat}{now:Int}{us:Nat->Bool}{rd:Nat->Nat->U}{bl:Nat->Nat->Nat}{i k:Nat}
theorem Ao.s{x:U}{l:List Nat}(G:Ao h0 h R n q x l)(aJ:l≠[]):pG h R.bs x (l.map (· +1))/\(∀k,rowOf x=some k->k<h.next):=by
 refine⟨⟨?_⟩,λk ai=>G.i.aF.iq ai⟩;rcases G.i.aF.2 with⟨_,e⟩|⟨kx,e,A⟩
 ·exact absurd (List.eq_nil_of_length_eq_zero (by simpa using e)) aJ
 ·refine⟨kx,0,none,0,e,by rw[e];trivial,λay=>G.a kx (by rw[e];rfl) (.inl ay),λj aa=>?_⟩;rw[Nat.zero_add,A.cs j (by omega)];simp only[List.length_map] at aa;simp[ints,List.getD,aa]
theorem asV{C:ad}(A:bE h R n N on q b now us rd)(M:dg N rd bl)(hi:i<N)(ai:k<278)(h0:bl i (a5 k)=0){x:U}{l:List Nat}(aJ:l.length=gi bl i k)(G:pG h R.bs x (l.map (· +1)))(ax:∀k,rowOf x=some k->k<h.next)(r:aw):
 ∃h',E4 C lf r (some (I (k:Int))) (some (.ptr R.bs ((i+1)*308))) (some (I (ej k))) (some x) h=r (some (.bool true)) h'/\bE h' R n N on q b now us (ql rd (i+1) (sZ bl i k) l)/\aD h h' (· =R.bs):=by
 have aI:rd (i+1) 307=I (bl i 35:Int):=M i 307 hi (by omega) (by omega);have bT:6<=k->rd (i+1) (290+(k-6)/16)=I (bl i (nf k):Int):=λbA=>by rw[M i _ hi (by omega) (by omega),Si bA ai]
 have sg:gi bl i k=1+(if 6<=k/\bl i (nf k)=0 then 1 else 0)+(if 22<=k/\bl i 35=0 then 1 else 0):=by
  unfold gi;rw[if_neg (show ¬0<bl i (a5 k) by omega)]
 unfold E4
 have rest:∀(h1:J) (jB:Nat->Nat->U) (x1:U) (b4:List Nat),bE h1 R n N on q b now us jB->(6<=k->jB (i+1) (290+(k-6)/16)=I (bl i (nf k):Int))->pG h1 R.bs x1 (b4.map (· +1))->(∀k,rowOf x1=some k->k<h1.next)->
  b4.length=1+(if 6<=k/\bl i (nf k)=0 then 1 else 0)->
  ∃h',Kj C lf r (some (I (k:Int))) (some (.ptr R.bs ((i+1)*308))) (some (I (ej k))) (some x1) h1=r (some (.bool true)) h'/\
   bE h' R n N on q b now us (ql jB (i+1) ((if 6<=k/\bl i (nf k)=0 then[290+(k-6)/16] else[])++[12+k]) b4)/\aD h1 h' (· =R.bs):=λh1 jB x1 b4 bX ao7 s4 p3 o9=>by
  unfold Kj;obtain⟨s1,s2⟩:=aqY (lf:=lf) (C:=C) bX hi ai ao7 s4 p3 (λx2 x7 x9 h=>Kf C lf r x2 x7 x9 h);by_cases ae:6<=k/\bl i (nf k)=0
  ·rw[if_pos ae] at o9
   obtain⟨a,c,rfl⟩:∃a c,b4=[a,c]:=by
    match b4,o9 with
    | [a,c],_=>exact⟨a,c,rfl⟩
   obtain⟨h2,x2,ay,dh,nm,tW,ck,bw⟩:=s1 ae (a+1) [c+1] rfl (by simp);obtain⟨h3,b9,ft,e6,c2⟩:=af3 (lf:=lf) (C:=C) dh hi ai nm r;rw[if_pos ae];exact⟨h3,ay.trans b9,ft,bw.trans c2⟩
  ·rw[if_neg ae] at o9
   obtain⟨a,rfl⟩:∃a,b4=[a]:=by
    match b4,o9 with
    | [a],_=>exact⟨a,rfl⟩
   obtain⟨h3,b9,ft,e6,c2⟩:=af3 (lf:=lf) (C:=C) bX hi ai s4 r;rw[if_neg ae];exact⟨h3,(s2 ae).trans b9,ft,c2⟩
 obtain⟨s1,s2⟩:=ane (lf:=lf) (C:=C) (k:=k) A hi aI G ax (λx2 x7 x8 x9 h=>Kj C lf r x2 x7 x8 x9 h);unfold sZ;by_cases ae:22<=k/\bl i 35=0
 ·rw[sg,if_pos ae] at aJ
  obtain⟨a,b4,rfl⟩:∃a b4,l=a::b4:=by
   match l,aJ with
   |a::b4,_=>exact⟨a,b4,rfl⟩
  have o9:b4.length=1+(if 6<=k/\bl i (nf k)=0 then 1 else 0):=by simp only[List.length_cons] at aJ;omega
  have ca:b4≠[]:=λe=>by rw[e] at o9;simp at o9;omega
  obtain⟨h2,x2,ay,dh,nm,tW,ck,bw⟩:=s1 ae (a+1) (b4.map (· +1)) rfl (by simpa using ca);obtain⟨h3,b9,ft,c2⟩:=rest h2 _ x2 b4 dh (λbA=>by rw[hn _ _ (by omega)];exact bT bA) nm tW o9;rw[if_pos ae];exact⟨h3,ay.trans b9,ft,bw.trans c2⟩
 ·rw[sg,if_neg ae,Nat.add_zero] at aJ;obtain⟨h3,b9,ft,c2⟩:=rest h rd x l A bT G ax aJ;rw[if_neg ae];exact⟨h3,(s2 ae).trans b9,ft,c2⟩
def G8(C:ad):Prop:=∀h R n N on q b now us rd bl i (k:Nat),bE h R n N on q b now us rd->dg N rd bl->i<N->k<278->
 (0<bl i (a5 k)->C (.fn 106) [.ptr R.rt 0,I ((i+1:Nat):Int),I (k:Int)] h=some (.ret (.bool true),h))/\
 (bl i (a5 k)=0->n<gi bl i k+(eW on n).length->C (.fn 106) [.ptr R.rt 0,I ((i+1:Nat):Int),I (k:Int)] h=some (.ret (.bool false),h))/\
 (bl i (a5 k)=0->gi bl i k+(eW on n).length<=n->∃h' eV,C (.fn 106) [.ptr R.rt 0,I ((i+1:Nat):Int),I (k:Int)] h=some (.ret (.bool true),h')/\
   bE h' R n N (gK n (gi bl i k) on b).2.1 eV (gK n (gi bl i k) on b).2.2 now us (ql rd (i+1) (sZ bl i k) (gK n (gi bl i k) on b).1)/\(gK n (gi bl i k) on b).1.length=gi bl i k/\(∀t k,eV t=some k->q t=some k\/h.next<=k)/\aD h h' (λj=>j=R.ro\/j=R.rb\/j=R.bs))
theorem aCj{C:ad}(gy:1000<=lf)(nn:vX C)(Ne:Nm C)(aj9:G2 C)(nO:GW C)(A:bE h R n N on q b now us rd)(M:dg N rd bl)(hi:i<N)(ai:k<278):
 (0<bl i (a5 k)->yE C lf (.ptr R.rt 0) (I ((i+1:Nat):Int)) (I (k:Int)) h=some (.ret (.bool true),h))/\
 (bl i (a5 k)=0->n<gi bl i k+(eW on n).length->yE C lf (.ptr R.rt 0) (I ((i+1:Nat):Int)) (I (k:Int)) h=some (.ret (.bool false),h))/\
 (bl i (a5 k)=0->gi bl i k+(eW on n).length<=n->∃h' eV,yE C lf (.ptr R.rt 0) (I ((i+1:Nat):Int)) (I (k:Int)) h=some (.ret (.bool true),h')/\
   bE h' R n N (gK n (gi bl i k) on b).2.1 eV (gK n (gi bl i k) on b).2.2 now us (ql rd (i+1) (sZ bl i k) (gK n (gi bl i k) on b).1)/\(gK n (gi bl i k) on b).1.length=gi bl i k/\(∀t k,eV t=some k->q t=some k\/h.next<=k)/\aD h h' (λj=>j=R.ro\/j=R.rb\/j=R.bs)):=by
 obtain⟨cap,lo,cb⟩:=A.cb;have ax:=l6 (R:=R) (N:=N) (i:=i+1) (cap:=cap) (lo:=lo) (by omega)
 have u9:eu 278 1 (.ptr R.bs ((i+1)*308+12)) (I (k:Int))=some (.ptr R.bs ((i+1)*308+(12+k))):=by
  have:=l1 (n:=278) (s:=1) (k:=R.bs) (off:=(i+1)*308+12) (kd:= .i64) (i:=(k:Int)) (by omega) (by omega)
  rwa[Int.toNat_natCast,Nat.mul_one,Nat.add_assoc] at this
 have eM:=ni A M hi (c:=12+k) (by omega) (by omega);rw[rq ai] at eM;have bc:=nn h k ai;have aR:=Ne h R n N on q b now us rd bl i k A M hi ai;have hle:=aj9 h R.rt R.ro R.rb n on q b A.ref;have aGV:=Cn on n
 have aGK:gi bl i k<=3:=by
  unfold gi;split
  ·omega
  ·split<;>split<;>omega
 have pre:yE C lf (.ptr R.rt 0) (I ((i+1:Nat):Int)) (I (k:Int)) h=Kg C lf (λx0 x1 x2 x7 h=>E1 C lf qE x0 x1 x2 x7 h) qE (some (.ptr R.rt 0)) (some (I ((i+1:Nat):Int))) (some (I (k:Int))) (some (.ptr R.bs ((i+1)*308))) h:=by
  unfold yE;rw[aEq];unfold Ki;simp only[cf,b8,sK,r7,Nat.zero_add,pf,cb,ax];unfold Kh;rfl
 rw[pre];unfold Kg
 have mid:bl i (a5 k)=0->∀P:ab->Prop,P (E6 C lf (λx0 x2 x7 x8 x9 aU h=>Kk C lf qE x0 x2 x7 x8 x9 aU h) qE (some (.ptr R.rt 0)) (some (I (k:Int))) (some (.ptr R.bs ((i+1)*308))) (some (I (ej k))) (some (.val (.slice none 0 0))) (some (I (gi bl i k:Int))) h)->
  P (ob (some (U.ptr R.bs ((i+1)*308))) λakH=>ob (some (U.int .i64 (k:Int))) λakI=>ob (ev akH) λaFf=>ob (bZ 12 aFf) λaFg=>ob (eu 278 1 aFg akI) λaFh=>ob (bO aFh h) λaFi=>ob (bin ao .gtr 3 aFi (I 0)) λaFj=>
    gn aFj (qE (some (.bool true)) h) (E1 C lf qE (some (.ptr R.rt 0)) (some (I ((i+1:Nat):Int))) (some (I (k:Int))) (some (.ptr R.bs ((i+1)*308))) h)):=λaB P tI=>by
  have d:decide ((0:Int)<(bl i (a5 k):Int))=false:=br (by omega);simp only[cf,b8,sK,r7,u9,pf,eM,AK,d,qs];unfold E1 SB;simp only[cf,b8,ks,bc];rw[aEp];unfold Km;simp only[cf,b8,ks,aR];unfold Kl;exact tI
 refine⟨λaB=>?_,λaB au=>?_,λaB au=>?_⟩
 ·have d:decide ((0:Int)<(bl i (a5 k):Int))=true:=bu (by omega);unfold qE;simp only[cf,b8,sK,r7,u9,pf,eM,AK,d,sX]
 ·refine mid aB (λr=>r=_) ?_;have d2:decide (((n-(eW on n).length:Nat):Int)<(gi bl i k:Int))=true:=bu (by omega);unfold E6 qE;simp only[aA,hle,d2]
 ·have d2:decide (((n-(eW on n).length:Nat):Int)<(gi bl i k:Int))=false:=br (by omega);have aj3:Ao h h R n q (.val (.slice none 0 0)) []:=⟨⟨ha.nil _ _ _,λj aa=>(by cases aa)⟩,λj aa=>(by cases aa)⟩;obtain⟨h1,dT,x1,dd,bX,s4,az,v3,aL⟩:=ai7 (lf:=lf) (C:=C) nO (m:=gi bl i k) (by omega) (xk:=some (I (k:Int))) (xr:=some (.ptr R.bs ((i+1)*308))) (xg:=some (I (ej k))) (λx2 x7 x8 x9 h=>E4 C lf qE x2 x7 x8 x9 h) (gi bl i k) 0 (by omega) lf (by omega) h on q b _ [] A aj3 au (by simp;omega) (Nat.le_refl _);rw[List.nil_append] at s4;generalize aGB:gK n (gi bl i k) on b=aoG at *;have tT:1<=gi bl i k:=by unfold gi;rw[if_neg (show ¬0<bl i (a5 k) by omega)];omega
  have ca:aoG.1≠[]:=λe=>by rw[e] at az;simp at az;omega
  obtain⟨g1,g2⟩:=s4.s ca;obtain⟨h2,bM,cz,fr⟩:=asV (lf:=lf) (C:=C) bX M hi ai aB az g1 g2 qE;refine⟨h2,dT,mid aB (λr=>r=_) ?_,cz,az,v3,⟨fr.aO.trans aL.aO,Nat.le_trans aL.next fr.next,λj aa ak=>(fr.same j (Nat.lt_of_lt_of_le aa aL.next) (λe=>ak (.inr (.inr e)))).trans (aL.same j aa (λe=>by rcases e with e|e|e;exact ak (.inl e);exact ak (.inr (.inl e));omega)),λau=>fr.dm (aL.dm au)⟩⟩;unfold E6;simp only[aA,hle,d2];unfold Kk SE SD;simp only[cf,b8];exact dd.trans bM
end
def F2(bl:Nat->Nat->Nat)(i:Nat):List Nat->List Nat->Nat->Nat->Nat
 |c::cs,j::js=>F2 (kp bl i c (j+1)) i cs js
 |_,_=>bl
def kO(bl:Nat->Nat->Nat)(i:Nat)(cs:List Nat):List Nat:=cs.filter λc=>decide (bl i c=0)
theorem aGc{bl:Nat->Nat->Nat}{i c v:Nat}{cs:List Nat}(h:c ∉ cs):kO (kp bl i c v) i cs=kO bl i cs:=by
 unfold kO;apply List.filter_congr;intro x ax;rw[nM _ _ (.inr λe=>h (by rw[<- e];exact ax))]
def iX(on:Nat->Bool)(b b':Nat->Nat):Prop:=∀p,on (p/64)=true->b p=b' p
theorem iX.Qy{on:Nat->Bool}{b b':Nat->Nat}(h:iX on b b')(j:Nat):iX (da on j true) (gF b j) (gF b' j):=λp aB=>by
 unfold gF;by_cases ae:64*j<=p/\p<64*j+64
 ·rw[if_pos ae,if_pos ae]
 ·rw[if_neg ae,if_neg ae];refine h p ?_;rwa[ho _ _ (by omega)] at aB
section
variable{n N i:Nat}
theorem afR{wd:Nat->Nat}(hw:∀j,wd j<2 ^ 64)(j:Nat):bP (rl wd j)=da (bP wd) j true:=by
 funext fp
 rw[J8 hw];by_cases e:fp=j
 ·subst e;rw[jE];simp
 ·rw[ho _ _ e];simp[e]
theorem PM:∀(cs:List Nat) (s:dC) (bf:List Nat) (b2:Nat->Nat),cs.Nodup->(∀j,s.wd j<2 ^ 64)->iX (bP s.wd) s.b b2->
 ((dq n i cs s bf).2.2=true↔(gK n (kO s.bl i cs).length (bP s.wd) b2).1.length=(kO s.bl i cs).length)/\
 ((dq n i cs s bf).2.2=true->bP (dq n i cs s bf).1.wd=(gK n (kO s.bl i cs).length (bP s.wd) b2).2.1/\(dq n i cs s bf).1.bl=F2 s.bl i (kO s.bl i cs) (gK n (kO s.bl i cs).length (bP s.wd) b2).1/\
   iX (bP (dq n i cs s bf).1.wd) (dq n i cs s bf).1.b (gK n (kO s.bl i cs).length (bP s.wd) b2).2.2)
 | [],s,bf,b2,_,_,ag=>⟨⟨λ_=>rfl,λ_=>rfl⟩,λ_=>⟨rfl,rfl,ag⟩⟩
 |c::cs,s,bf,b2,aR,hw,ag=>by
  obtain⟨ae,ve⟩:=List.nodup_cons.1 aR;by_cases h0:0<s.bl i c
  ·have az:dq n i (c::cs) s bf=dq n i cs s bf:=by
    show(if 0<s.bl i c then _ else _)=_;rw[if_pos h0]
   have ay:kO s.bl i (c::cs)=kO s.bl i cs:=by
    unfold kO;rw[List.filter_cons_of_neg (by simp;omega)]
   rw[az,ay];exact PM cs s bf b2 ve hw ag
  ·have ay:kO s.bl i (c::cs)=c::kO s.bl i cs:=by
    unfold kO;rw[List.filter_cons_of_pos (by simp;omega)]
   rw[ay];have el:low n s.wd=pg n (bP s.wd):=rfl;cases aJ:pg n (bP s.wd) with
   |none=>
    have az:dq n i (c::cs) s bf=(s,bf,false):=by
     show(if 0<s.bl i c then _ else match low n s.wd with|none=>_|some j=>_)=_;rw[if_neg h0,el,aJ]
    have b9:gK n (c::kO s.bl i cs).length (bP s.wd) b2=([],bP s.wd,b2):=by
     show(match pg n (bP s.wd) with|none=>_|some j=>_)=_;rw[aJ]
    rw[az,b9];exact⟨by simp,λe=>by cases e⟩
   |some j=>
    have az:dq n i (c::cs) s bf=dq n i cs (s.take i c j) (bf++[c]):=by
     show(if 0<s.bl i c then _ else match low n s.wd with|none=>_|some j=>_)=_;rw[if_neg h0,el,aJ]
    have b9:gK n (c::kO s.bl i cs).length (bP s.wd) b2=(j::(gK n (kO s.bl i cs).length (da (bP s.wd) j true) (gF b2 j)).1,(gK n (kO s.bl i cs).length (da (bP s.wd) j true) (gF b2 j)).2):=by
     show(match pg n (bP s.wd) with|none=>_|some j=>_)=_;rw[aJ]
    have bp:=PM cs (s.take i c j) (bf++[c]) (gF b2 j) ve (afQ hw j) (by
     show iX (bP (rl s.wd j)) (gF s.b j) (gF b2 j);rw[afR hw]
     exact ag.Qy j)
    have ee:(s.take i c j).bl=kp s.bl i c (j+1):=rfl;have iI:bP (s.take i c j).wd=da (bP s.wd) j true:=afR hw j;rw[ee,aGc ae,iI] at bp;rw[az,b9];obtain⟨i1,i2⟩:=bp;refine⟨i1.trans (by simp),λe=>?_⟩;exact i2 e
theorem dg.put{rd:Nat->Nat->U}{bl:Nat->Nat->Nat}(M:dg N rd bl){c v:Nat}(dF:12<=c)(ae:c<308):dg N (cU rd (i+1) c (I (v:Int))) (kp bl i (pm c) v):=λi' a4 cH n9 fk=>by
 by_cases e:i'=i/\a4=c
 ·obtain⟨rfl,rfl⟩:=e;rw[mO,sQ]
 ·rw[hn _ _ (by omega),nM _ _ ?_]
  ·exact M i' a4 cH n9 fk
  ·by_cases az:i'=i
   ·exact .inr λay=>e ⟨az,af6 n9 fk dF ae ay⟩
   ·exact .inl az
theorem dg.agd:∀{zs js:List Nat} {rd:Nat->Nat->U} {bl:Nat->Nat->Nat},dg N rd bl->(∀c∈zs,12<=c/\c<308)->dg N (ql rd (i+1) zs js) (F2 bl i (zs.map pm) js)
 | [],_,_,_,M,_=>by simpa[ql,F2] using M
 |_::_,[],_,_,M,_=>by simpa[ql,F2] using M
 |c::zs,j::js,rd,bl,M,h=>by
  have h1:=h c (List.mem_cons_self ..)
  have:=dg.agd (zs:=zs) (js:=js) (dg.put (i:=i) (v:=j+1) M h1.1 h1.2) λx ax=>h x (List.mem_cons_of_mem _ ax)
  exact this
theorem aGg{bl:Nat->Nat->Nat}{k:Nat}(ai:k<278)(h0:bl i (a5 k)=0):(sZ bl i k).map pm=kO bl i (du k):=by
 have aB:pm (12+k)=a5 k:=rq ai;unfold sZ kO du;by_cases bA:k<6
 ·rw[if_pos bA,if_neg (by omega),if_neg (by omega)];simp[aB,h0]
 ·have bc:=Si (k:=k) (by omega) ai;by_cases m4:k<22
  ·have az:nf k=18:=if_pos m4;rw[if_neg bA,if_pos m4,if_neg (by omega)];rw[az] at bc⊢;by_cases aP:bl i 18=0
   ·rw[if_pos ⟨by omega,aP⟩];simp[aB,h0,bc,aP]
   ·rw[if_neg (λe=>aP e.2)];simp[aB,h0,aP]
  ·have az:nf k=36+17*((k-22)/16):=if_neg m4;rw[if_neg bA,if_neg m4];rw[az] at bc⊢;by_cases aP:bl i (36+17*((k-22)/16))=0<;>by_cases a1:bl i 35=0<;>simp[aB,h0,bc,aP,a1,zN,show 22<=k by omega,show 6<=k by omega]
theorem ajL{bl:Nat->Nat->Nat}{k:Nat}(ai:k<278):∀c∈sZ bl i k,12<=c/\c<308:=λc ae=>by
 unfold sZ at ae;simp only[List.mem_append] at ae;rcases ae with ae|ae|ae
 ·split at ae
  ·simp at ae;omega
  ·cases ae
 ·split at ae
  ·simp at ae;omega
  ·cases ae
 ·simp at ae;omega
end
theorem adC{n:Nat}:∀(m:Nat) (on:Nat->Bool) (b:Nat->Nat),(gK n m on b).1.length=m↔m+(eW on n).length<=n
 |0,on,b=>by
  have:=Cn on n
  exact⟨λ_=>by omega,λ_=>rfl⟩
 |m+1,on,b=>by
  cases aJ:pg n on with
  |none=>
   have e:gK n (m+1) on b=([],on,b):=by
    show(match pg n on with|none=>_|some j=>_)=_;rw[aJ]
   have hu:(eW on n).length=n:=abg (RN aJ);rw[e];exact⟨λh=>by simp at h,λh=>by omega⟩
  |some j=>
   have e:gK n (m+1) on b=(j::(gK n m (da on j true) (gF b j)).1,(gK n m (da on j true) (gF b j)).2):=by
    show(match pg n on with|none=>_|some j=>_)=_;rw[aJ]
   obtain⟨Bw,EH,_⟩:=RO aJ;have bp:=adC (n:=n) m (da on j true) (gF b j);rw[ajj Bw EH] at bp;rw[e];show(gK n m (da on j true) (gF b j)).1.length+1=m+1↔_;constructor
   ·intro h
    have:=bp.1 (by omega)
    omega
   ·intro h
    have:=bp.2 (by omega)
    omega
theorem arW{k:Nat}(ai:k<278):(du k).Nodup:=by
 have aR:=ur ai;unfold du;by_cases bA:k<6
 ·rw[if_pos bA];simp
 ·rw[if_neg bA];by_cases m4:k<22
  ·rw[if_pos m4];have h1:¬(18=a5 k):=λe=>aR.1 e.symm
   simp[h1]
  ·rw[if_neg m4];have h1:¬(36+17*((k-22)/16)=a5 k):=λe=>aR.2.2 _ (by omega) e.symm
   have h2:¬(35=a5 k):=λe=>aR.2.1 e.symm
   have h3:¬(35=36+17*((k-22)/16)):=by omega
   simp only[List.nodup_cons,List.mem_cons,List.not_mem_nil,or_false,not_or,not_false_eq_true,List.nodup_nil,and_true];exact⟨⟨h3,h2⟩,h1⟩
theorem an8{n N i k:Nat}{s:dC}{rd:Nat->Nat->U}{b2:Nat->Nat}(hi:i<N)(W:pN n N s)(ai:k<278)(M:dg N rd s.bl)(ag:iX (bP s.wd) s.b b2)(h0:s.bl i (a5 k)=0):
 ((bN n i k s).2=true↔gi s.bl i k+(eW (bP s.wd) n).length<=n)/\
 ((bN n i k s).2=true->bP (bN n i k s).1.wd=(gK n (gi s.bl i k) (bP s.wd) b2).2.1/\dg N (ql rd (i+1) (sZ s.bl i k) (gK n (gi s.bl i k) (bP s.wd) b2).1) (bN n i k s).1.bl/\
   iX (bP (bN n i k s).1.wd) (bN n i k s).1.b (gK n (gi s.bl i k) (bP s.wd) b2).2.2)/\
 ((bN n i k s).2=false->(bN n i k s).1.wd=s.wd/\(bN n i k s).1.nd=s.nd/\(bN n i k s).1.bl=s.bl/\iX (bP s.wd) (bN n i k s).1.b b2):=by
 obtain⟨f1,f2⟩:=PM (n:=n) (i:=i) (du k) s [] b2 (arW ai) W.w ag;have aX:=aGg (i:=i) (bl:=s.bl) ai h0;have aJ:(kO s.bl i (du k)).length=gi s.bl i k:=by rw[<- aX,List.length_map,aGf h0]
 rw[aJ] at f1 f2;rw[<- aX] at f2;have bc:=adC (n:=n) (gi s.bl i k) (bP s.wd) b2
 have az:bN n i k s=if(dq n i (du k) s []).2.2=true then((dq n i (du k) s []).1,true) else(⟨s.wd,(dq n i (du k) s []).1.b,s.nd,s.bl⟩,false):=by
  unfold bN;rw[if_neg (show ¬0<s.bl i (a5 k) by omega)]
 have t:oP n i s (dq n i (du k) s []).2.1 (dq n i (du k) s []).1:=yC (du k) s [] .nil (BU ai);have P:=t.props hi W.M W.w;rw[az];by_cases ae:(dq n i (du k) s []).2.2=true
 ·rw[if_pos ae];obtain⟨g1,g2,g3⟩:=f2 ae;refine⟨⟨λ_=>bc.1 (f1.1 ae),λ_=>rfl⟩,λ_=>⟨g1,?_,g3⟩,λe=>by cases e⟩;show dg N _ (dq n i (du k) s []).1.bl;rw[g2];exact dg.agd M (ajL ai)
 ·rw[if_neg ae];refine⟨⟨λe=>(by cases e),λh=>absurd (f1.2 (bc.2 h)) ae⟩,λe=>(by cases e),λ_=>⟨rfl,rfl,rfl,λp aB=>?_⟩⟩;show(dq n i (du k) s []).1.b p=b2 p;rw[P.C1 p aB];exact ag p aB
section
variable{lf:Nat}{h:J}{R:eE}{n N:Nat}{on:Nat->Bool}{q:Nat->Option Nat}{b:Nat->Nat}{now:Int}{us:Nat->Bool}{rd:Nat->Nat->U}
theorem bE.Sk(A:bE h R n N on q b now us rd){j p v:Nat}(aa:j<n)(e5:on j=true)(aB:p<64)(hv:v<256):
 ∃x1 x bR,h.cell R.rt 1=some x1/\dQ 1 x1 (I (j:Int))=some (.ptr R.rb j)/\h.cell R.rb j=some x/\q j=some bR/\dQ 1 x (I (p:Int))=some (.ptr bR p)/\
  st 1 (.ptr bR p) (.int .u8 (v:Int)) h=some (h.set bR p [.int .u8 (v:Int)])/\bE (h.set bR p [.int .u8 (v:Int)]) R n N on q (over b (j*64+p) [v]) now us rd:=by
 obtain⟨x0,x1,cG,aP,V⟩:=A.ref.v;obtain⟨cap,lo,rfl⟩:=V.az;have fG:=V.ck;cases a2:q j with
 |none=>
  have:=(V.off j aa a2).1
  rw[e5] at this;cases this
 |some bR=>
  obtain⟨h1,h2,x,h3,aT⟩:=V.has j bR aa a2;have B:=aT.jO e5;obtain⟨N9,RK,rfl⟩:=B.aF;have nB:=gA (s:=1) (k:=R.rb) (off:=0) (len:=n) (lo:=lo) (cap:=cap) (kd:= .i64) (i:=(j:Int)) (by omega) (by omega);rw[Int.toNat_natCast,Nat.mul_one,Nat.zero_add] at nB;have nC:=gA (s:=1) (k:=bR) (off:=0) (len:=64) (lo:=RK) (cap:=N9) (kd:= .i64) (i:=(p:Int)) (by omega) (by omega);rw[Int.toNat_natCast,Nat.mul_one,Nat.zero_add] at nC;have dc:=gN (n:=1) (off:=p) (y:= .int .u8 (v:Int)) B.w rfl (by omega) rfl
  have aqo:=A.ref.put (i:=j) (k:=bR) (p:=p) (v:=v) aa e5 a2 aB hv (b':=over b (j*64+p) [v]) (λt=>by
   unfold over;by_cases e:t=j*64+p
   ·subst e;rw[if_pos rfl,if_pos ⟨Nat.le_refl _,by simp⟩,Nat.sub_self];rfl
   ·rw[if_neg e,if_neg (by simp only[List.length_cons,List.length_nil];omega)])
  have F:aD h (h.set bR p [.int .u8 (v:Int)]) (· =bR):=fj rfl;have cA:bR≠R.rt:=A.ref.rj j bR aa a2;have ck:bR≠R.bs:=A.d4 j bR aa a2;have st:ct h (h.set bR p [.int .u8 (v:Int)]) R.rt:=F.same _ A.ref.lt (λe=>cA e.symm);have aF:ct h (h.set bR p [.int .u8 (v:Int)]) R.bs:=F.same _ A.hg (λe=>ck e.symm);exact⟨_,_,bR,aP,nB,h3,rfl,nC,dc,⟨A.nU,A.gH,aqo,by rw[st.cell];exact A.a1,by rw[st.cell];exact A.cm,let ⟨cap,lo,e⟩:=A.cb;⟨cap,lo,by rw[st.cell];exact e⟩,eP A.wt st,eP A.wl aF,λi c hi ae=>by rw[aF.cell];exact A.j6 i c hi ae,A.kN,A.d1,A.d2,A.d3,A.d4,by rw[dz];exact A.hg,A.sY⟩⟩
end
section
variable{lf:Nat}{h:J}{R:eE}{n N:Nat}{on:Nat->Bool}{q:Nat->Option Nat}{b:Nat->Nat}{now:Int}{us:Nat->Bool}{rd:Nat->Nat->U}{bl:Nat->Nat->Nat}{i:Nat}
theorem alV(A:bE h R n N on q b now us rd)(M:dg N rd bl)(hi:i<N){off t:Nat}{x:U}{l:List Nat}(aN:t<l.length)(aB:off+t<17792)(B:Bytes h x l)(hv:0<bl i (a5 ((off+t)/64)))(Rk:bl i (a5 ((off+t)/64))<=n)(e5:on (bl i (a5 ((off+t)/64))-1)=true):
 ∃x1 xr bR mX,eu 278 1 (.ptr R.bs ((i+1)*308+12)) (I (((off+t)/64:Nat):Int))=some (.ptr R.bs ((i+1)*308+(12+(off+t)/64)))/\
  h.cell R.bs ((i+1)*308+(12+(off+t)/64))=some (I (bl i (a5 ((off+t)/64)):Int))/\h.cell R.rt 1=some x1/\dQ 1 x1 (I ((bl i (a5 ((off+t)/64))-1:Nat):Int))=some (.ptr R.rb (bl i (a5 ((off+t)/64))-1))/\
  h.cell R.rb (bl i (a5 ((off+t)/64))-1)=some xr/\q (bl i (a5 ((off+t)/64))-1)=some bR/\dQ 1 xr (I (((off+t)%64:Nat):Int))=some (.ptr bR ((off+t)%64))/\
  dQ 1 x (I (t:Int))=some mX/\bO mX h=some (.int .u8 ((l.getD t 0:Nat):Int))/\
  st 1 (.ptr bR ((off+t)%64)) (.int .u8 ((l.getD t 0:Nat):Int)) h=some (h.set bR ((off+t)%64) [.int .u8 ((l.getD t 0:Nat):Int)])/\
  bE (h.set bR ((off+t)%64) [.int .u8 ((l.getD t 0:Nat):Int)]) R n N on q (over b ((bl i (a5 ((off+t)/64))-1)*64+(off+t)%64) [l.getD t 0]) now us rd:=by
 have ai:(off+t)/64<278:=by omega
 have u9:eu 278 1 (.ptr R.bs ((i+1)*308+12)) (I (((off+t)/64:Nat):Int))=some (.ptr R.bs ((i+1)*308+(12+(off+t)/64))):=by
  have:=l1 (n:=278) (s:=1) (k:=R.bs) (off:=(i+1)*308+12) (kd:= .i64) (i:=(((off+t)/64:Nat):Int)) (by omega) (by omega)
  rwa[Int.toNat_natCast,Nat.mul_one,Nat.add_assoc] at this
 have eM:=ni A M hi (c:=12+(off+t)/64) (by omega) (by omega);rw[rq ai] at eM
 have ae:l.getD t 0<256:=by
  rw[List.getD,List.getElem?_eq_getElem aN];exact B.1 _ (List.getElem_mem aN)
 obtain⟨mX,aj,aC⟩:∃mX,dQ 1 x (I (t:Int))=some mX/\bO mX h=some (.int .u8 ((l.getD t 0:Nat):Int)):=by
  rcases B.2 with⟨_,rfl⟩|⟨bB,ob,cap,lo,gT,rfl,_,en⟩
  ·simp at aN
  ·have bW:=gA (s:=1) (k:=bB) (off:=ob) (len:=l.length) (lo:=lo) (cap:=cap) (kd:= .i64) (i:=(t:Int)) (by omega) (by omega);rw[Int.toNat_natCast,Nat.mul_one] at bW;exact⟨_,bW,en t aN⟩
 obtain⟨x1,xr,bR,bM,cz,fr,nI,zK,Se,Sf⟩:=A.Sk (j:=bl i (a5 ((off+t)/64))-1) (p:=(off+t)%64) (v:=l.getD t 0) (by omega) e5 (by omega) ae;exact⟨x1,xr,bR,mX,u9,eM,bM,cz,fr,nI,zK,aj,aC,Se,Sf⟩
theorem alW{C:ad}(A:bE h R n N on q b now us rd)(M:dg N rd bl)(hi:i<N){off t:Nat}{x:U}{l:List Nat}(aN:t<l.length)(aB:off+t<17792)(B:Bytes h x l)(hv:0<bl i (a5 ((off+t)/64)))(Rk:bl i (a5 ((off+t)/64))<=n)(e5:on (bl i (a5 ((off+t)/64))-1)=true){h0:J}(MN:Bytes h0 x l)
 (hlen:l.length<=140737488351232)(nA:C (.fn 106) [.ptr R.rt 0,I ((i+1:Nat):Int),I (((off+t)/64:Nat):Int)] h0=some (.ret (.bool true),h))(fq:dp)(av:bo):
 ∃h' bR,vt C lf fq av (some (.ptr R.rt 0)) (some (I ((i+1:Nat):Int))) (some (I (off:Int))) (some x) (some (.ptr R.bs ((i+1)*308))) (some (I (t:Int))) h0=
   fq (some (.ptr R.rt 0)) (some (I ((i+1:Nat):Int))) (some (I (off:Int))) (some x) (some (.ptr R.bs ((i+1)*308))) (some (I ((t+1:Nat):Int))) h'/\
  bE h' R n N on q (over b ((bl i (a5 ((off+t)/64))-1)*64+(off+t)%64) [l.getD t 0]) now us rd/\q (bl i (a5 ((off+t)/64))-1)=some bR/\aD h h' (· =bR):=by
 obtain⟨x1,xr,bR,mX,s1,s2,ea,e2,mK,pn,xq,aCC,aCD,aCy,aCz⟩:=alV A M hi aN aB B hv Rk e5;have aJ:=re (P:=ao) Tryd.underlying24 MN;have fG:n<=4096:=A.ref.v.choose_spec.choose_spec.2.2.ck;have d1:decide ((t:Int)<(l.length:Int))=true:=bu (by omega);have iO:IntKind.i64.wrap ((off:Int)+(t:Int))=((off+t:Nat):Int):=cD (by omega);have d2:decide (((off+t:Nat):Int)<17792)=true:=bu (by omega)
 have a2:IntKind.i64.wrap (((off+t:Nat):Int).tdiv 64)=(((off+t)/64:Nat):Int):=by
  rw[Int.tdiv_eq_ediv_of_nonneg (by omega),wrap_i64 (by omega) (by omega)];rfl
 have aQ:((off+t:Nat):Int).tmod 64=(((off+t)%64:Nat):Int):=by
  rw[Int.tmod_eq_emod_of_nonneg (by omega)];rfl
 have kD:IntKind.i64.wrap ((bl i (a5 ((off+t)/64)):Int)-1)=((bl i (a5 ((off+t)/64))-1:Nat):Int):=cD (by omega);have dr:IntKind.i64.wrap ((t:Int)+1)=((t+1:Nat):Int):=cD (by omega);refine⟨_,bR,?_,aCz,pn,fj rfl⟩;unfold vt;simp only[aA,aJ,d1,iO,d2,lV (show(64:Int)≠0 by omega),a2,nA,Bool.not_true,s1,s2,kD,ea,e2,mK,ih (show(64:Int)≠0 by omega),aQ,aCC,aCD,xq,aCy,dr]
end
def jF(n i off:Nat)(l:List Nat):Nat->Nat->dC->dC×Nat
 |0,t,s=>(s,t)
 |g+1,t,s=>if t<l.length/\off+t<17792 then
   (if(bN n i ((off+t)/64) s).2=true then
     jF n i off l g (t+1) ⟨(bN n i ((off+t)/64) s).1.wd,
      over (bN n i ((off+t)/64) s).1.b (((bN n i ((off+t)/64) s).1.bl i (a5 ((off+t)/64))-1)*64+(off+t)%64) [l.getD t 0],
      (bN n i ((off+t)/64) s).1.nd,(bN n i ((off+t)/64) s).1.bl⟩
   else((bN n i ((off+t)/64) s).1,t)) else(s,t)
theorem ail{i' c i:Nat}(ae:c<12):∀{zs js:List Nat} {rd:Nat->Nat->U},(∀z∈zs,12<=z/\z<308)->ql rd i zs js i' c=rd i' c
 | [],_,_,_=>by simp[ql]
 |_::_,[],_,_=>by simp[ql]
 |z::zs,j::js,rd,h=>by
  show ql (cU rd i z _) i zs js i' c=_;rw[ail ae λx ax=>h x (List.mem_cons_of_mem _ ax),hn _ _ (.inr (by have:=(h z (List.mem_cons_self ..)).1;omega))]
theorem iX.over{on:Nat->Bool}{b b':Nat->Nat}(h:iX on b b')(p:Nat)(l:List Nat):iX on (Eva.over b p l) (Eva.over b' p l):=λj aa=>by
 unfold Eva.over;split
 ·rfl
 ·exact h j aa
section
variable{lf:Nat}{h:J}{R:eE}{n N:Nat}{now:Int}{us:Nat->Bool}{i:Nat}
theorem aCt{C:ad}(NG:G8 C)(hi:i<N){off:Nat}(jT:off<17792){x:U}{l:List Nat}(hlen:l.length<=140737488351232)(ax:∀j,rowOf x=some j->j≠R.ro/\j≠R.rb/\j≠R.bs)(av:bo):
 ∀(g t:Nat),min l.length (17792-off)-t<=g->t<=min l.length (17792-off)->∀f,g<f->∀h s rd q b2,pN n N s->bE h R n N (bP s.wd) q b2 now us rd->dg N rd s.bl->iX (bP s.wd) s.b b2->Bytes h x l->(∀j,rowOf x=some j->j<h.next/\∀u,q u≠some j)->
 ∃h' cw eV n0,bk (zr C lf av) f (some (.ptr R.rt 0),some (I ((i+1:Nat):Int)),some (I (off:Int)),some x,some (.ptr R.bs ((i+1)*308)),some (I (t:Int))) h=
   av (some (.ptr R.rt 0)) (some (I (off:Int))) (some (.ptr R.bs ((i+1)*308))) (some (I ((jF n i off l g t s).2:Int))) h'/\
  bE h' R n N (bP (jF n i off l g t s).1.wd) eV n0 now us cw/\dg N cw (jF n i off l g t s).1.bl/\iX (bP (jF n i off l g t s).1.wd) (jF n i off l g t s).1.b n0/\(∀i' c,c<12->cw i' c=rd i' c)/\
  (∀u k,eV u=some k->q u=some k\/h.next<=k)/\aD h h' (λj=>j=R.ro\/j=R.rb\/j=R.bs\/∃u,q u=some j):=by
 intro g
 induction g with
 |zero=>
  intro t bc aN f au h s rd q b2 W A M jq B q0;obtain⟨f,rfl⟩:=dx f (by omega);have aJ:=re (P:=ao) Tryd.underlying24 B;refine⟨h,rd,q,b2,?_,A,M,jq,λ_ _ _=>rfl,λ_ _ e=> .inl e,aD.refl _ _⟩;rw[df];unfold zr vt;by_cases h1:(t:Int)<(l.length:Int)
  ·have iO:IntKind.i64.wrap ((off:Int)+(t:Int))=((off+t:Nat):Int):=cD (by omega);have d2:decide (((off+t:Nat):Int)<17792)=false:=br (by omega);simp only[aA,aJ,bu h1,iO,d2];rfl
  ·simp only[aA,aJ,br h1,iL];rfl
 |succ g bp=>
  intro t bc aN f au h s rd q b2 W A M jq B q0;obtain⟨f,rfl⟩:=dx f (by omega);have aJ:=re (P:=ao) Tryd.underlying24 B;rw[df];show ∃h' cw eV n0,vt C lf (λx0 x1 x2 x3 aU x11 h=>bk (zr C lf av) f (x0,x1,x2,x3,aU,x11) h) av (some (.ptr R.rt 0)) (some (I ((i+1:Nat):Int))) (some (I (off:Int))) (some x) (some (.ptr R.bs ((i+1)*308))) (some (I (t:Int))) h=_/\_;by_cases ae:t<l.length/\off+t<17792
  ·obtain⟨aP,a1⟩:=ae;have ai:(off+t)/64<278:=by omega
   have hw:jF n i off l (g+1) t s=if(bN n i ((off+t)/64) s).2=true then
    jF n i off l g (t+1) ⟨(bN n i ((off+t)/64) s).1.wd,
     over (bN n i ((off+t)/64) s).1.b (((bN n i ((off+t)/64) s).1.bl i (a5 ((off+t)/64))-1)*64+(off+t)%64) [l.getD t 0],
     (bN n i ((off+t)/64) s).1.nd,(bN n i ((off+t)/64) s).1.bl⟩
    else((bN n i ((off+t)/64) s).1,t):=by
    show(if t<l.length/\off+t<17792 then _ else _)=_;rw[if_pos ⟨aP,a1⟩]
   rw[hw];obtain⟨bM,cz⟩:=zM ai;obtain⟨k1,k2,hG⟩:=NG h R n N (bP s.wd) q b2 now us rd s.bl i ((off+t)/64) A M hi ai;have jL:=PQ (i:=i) W hi ai
   have rest:∀h1 jB dT ht,C (.fn 106) [.ptr R.rt 0,I ((i+1:Nat):Int),I (((off+t)/64:Nat):Int)] h=some (.ret (.bool true),h1)->(bN n i ((off+t)/64) s).2=true->
    bE h1 R n N (bP (bN n i ((off+t)/64) s).1.wd) dT ht now us jB->dg N jB (bN n i ((off+t)/64) s).1.bl->iX (bP (bN n i ((off+t)/64) s).1.wd) (bN n i ((off+t)/64) s).1.b ht->(∀i' c,c<12->jB i' c=rd i' c)->
    (∀u k,dT u=some k->q u=some k\/h.next<=k)->aD h h1 (λj=>j=R.ro\/j=R.rb\/j=R.bs)->
    ∃h' cw eV n0,vt C lf (λx0 x1 x2 x3 aU x11 h=>bk (zr C lf av) f (x0,x1,x2,x3,aU,x11) h) av (some (.ptr R.rt 0)) (some (I ((i+1:Nat):Int))) (some (I (off:Int))) (some x) (some (.ptr R.bs ((i+1)*308))) (some (I (t:Int))) h=
      av (some (.ptr R.rt 0)) (some (I (off:Int))) (some (.ptr R.bs ((i+1)*308))) (some (I ((jF n i off l g (t+1) ⟨(bN n i ((off+t)/64) s).1.wd,
       over (bN n i ((off+t)/64) s).1.b (((bN n i ((off+t)/64) s).1.bl i (a5 ((off+t)/64))-1)*64+(off+t)%64) [l.getD t 0],(bN n i ((off+t)/64) s).1.nd,(bN n i ((off+t)/64) s).1.bl⟩).2:Int))) h'/\
     bE h' R n N (bP (jF n i off l g (t+1) ⟨(bN n i ((off+t)/64) s).1.wd,over (bN n i ((off+t)/64) s).1.b (((bN n i ((off+t)/64) s).1.bl i (a5 ((off+t)/64))-1)*64+(off+t)%64) [l.getD t 0],(bN n i ((off+t)/64) s).1.nd,(bN n i ((off+t)/64) s).1.bl⟩).1.wd) eV n0 now us cw/\
     dg N cw (jF n i off l g (t+1) ⟨(bN n i ((off+t)/64) s).1.wd,over (bN n i ((off+t)/64) s).1.b (((bN n i ((off+t)/64) s).1.bl i (a5 ((off+t)/64))-1)*64+(off+t)%64) [l.getD t 0],(bN n i ((off+t)/64) s).1.nd,(bN n i ((off+t)/64) s).1.bl⟩).1.bl/\
     iX (bP (jF n i off l g (t+1) ⟨(bN n i ((off+t)/64) s).1.wd,over (bN n i ((off+t)/64) s).1.b (((bN n i ((off+t)/64) s).1.bl i (a5 ((off+t)/64))-1)*64+(off+t)%64) [l.getD t 0],(bN n i ((off+t)/64) s).1.nd,(bN n i ((off+t)/64) s).1.bl⟩).1.wd) (jF n i off l g (t+1) ⟨(bN n i ((off+t)/64) s).1.wd,over (bN n i ((off+t)/64) s).1.b (((bN n i ((off+t)/64) s).1.bl i (a5 ((off+t)/64))-1)*64+(off+t)%64) [l.getD t 0],(bN n i ((off+t)/64) s).1.nd,(bN n i ((off+t)/64) s).1.bl⟩).1.b n0/\
     (∀i' c,c<12->cw i' c=rd i' c)/\(∀u k,eV u=some k->q u=some k\/h.next<=k)/\aD h h' (λj=>j=R.ro\/j=R.rb\/j=R.bs\/∃u,q u=some j):=λh1 jB dT ht nA ag bX ie ajR kF v3 aL=>by
    have tT:=PO ag;generalize(bN n i ((off+t)/64) s).1=s1 at *;have adN:Bytes h1 x l:=B.frame λbB ob len cap lo e=>aL.same bB (q0 bB (by rw[e];rfl)).1 (λay=>by have:=ax bB (by rw[e];rfl);omega)
    obtain⟨h2,bR,ay,dh,fA,bw⟩:=alW (lf:=lf) (C:=C) bX ie hi aP a1 adN tT (jL.M.le i _) (jL.M.on i _ hi bM cz tT) B hlen nA (λx0 x1 x2 x3 aU x11 h=>bk (zr C lf av) f (x0,x1,x2,x3,aU,x11) h) av
    have Ec:∀j,rowOf x=some j->j≠bR:=λj aa e=>by
     rcases v3 _ _ fA with b9|b9
     ·exact(q0 j aa).2 _ (by rw[e];exact b9)
     ·have:=(q0 j aa).1;omega
    have ao2:Bytes h2 x l:=adN.frame λbB ob len cap lo e=>bw.same bB (Nat.lt_of_lt_of_le (q0 bB (by rw[e];rfl)).1 aL.next) (Ec bB (by rw[e];rfl))
    obtain⟨h3,Xs,nJ,kS,dd,dy,fB,k8,mJ,ry,rz⟩:=bp (t+1) (by omega) (by omega) f (by omega) h2 ⟨s1.wd,over s1.b ((s1.bl i (a5 ((off+t)/64))-1)*64+(off+t)%64) [l.getD t 0],s1.nd,s1.bl⟩ jB dT _ ⟨jL.M,jL.w⟩ dh ie (ajR.over _ _) ao2
     (λj aa=>⟨Nat.lt_of_lt_of_le (q0 j aa).1 (Nat.le_trans aL.next bw.next),λu e=>by
       rcases v3 _ _ e with b9|b9
       ·exact(q0 j aa).2 _ b9
       ·have:=(q0 j aa).1;omega⟩)
    refine⟨h3,Xs,nJ,kS,ay.trans dd,dy,fB,k8,λi' c ae=>(mJ i' c ae).trans (kF i' c ae),λu k e=>?_,⟨rz.aO.trans (bw.aO.trans aL.aO),Nat.le_trans aL.next (Nat.le_trans bw.next rz.next),λj aa aR=>?_,λau=>rz.dm (bw.dm (aL.dm au))⟩⟩
    ·rcases ry u k e with b9|b9
     ·exact v3 u k b9
     ·exact .inr (by have:=aL.next;have:=bw.next;omega)
    ·have a2:∀u,dT u≠some j:=λu e=>by
      rcases v3 u j e with b9|b9
      ·exact aR (.inr (.inr (.inr ⟨u,b9⟩)))
      ·omega
     exact(rz.same j (Nat.lt_of_lt_of_le aa (Nat.le_trans aL.next bw.next)) (λe=>by
      rcases e with e|e|e|⟨u,e⟩
      ·exact aR (.inl e)
      ·exact aR (.inr (.inl e))
      ·exact aR (.inr (.inr (.inl e)))
      ·exact a2 u e)).trans ((bw.same j (Nat.lt_of_lt_of_le aa aL.next) (λe=>a2 _ (by rw[e];exact fA))).trans (aL.same j aa (λe=>by
      rcases e with e|e|e
      ·exact aR (.inl e)
      ·exact aR (.inr (.inl e))
      ·exact aR (.inr (.inr (.inl e))))))
   by_cases aB:0<s.bl i (a5 ((off+t)/64))
   ·have db:bN n i ((off+t)/64) s=(s,true):=by unfold bN;rw[if_pos aB]
    have ag:(bN n i ((off+t)/64) s).2=true:=by rw[db]
    rw[if_pos ag];exact rest h rd q b2 (k1 aB) ag (by rw[db];exact A) (by rw[db];exact M) (by rw[db];exact jq) (λ_ _ _=>rfl) (λ_ _ e=> .inl e) (aD.refl _ _)
   ·have h0:s.bl i (a5 ((off+t)/64))=0:=by omega
    obtain⟨t1,t2,t3⟩:=an8 (b2:=b2) hi W ai M jq h0;by_cases ag:(bN n i ((off+t)/64) s).2=true
    ·rw[if_pos ag];obtain⟨h1,dT,cm,bX,_,v3,aL⟩:=hG h0 (t1.1 ag);obtain⟨g1,g2,g3⟩:=t2 ag;exact rest h1 _ dT _ cm ag (by rw[g1];exact bX) g2 g3 (λi' c ae=>ail ae (ajL ai)) v3 aL
    ·have iP:(bN n i ((off+t)/64) s).2=false:=by simpa using ag
     rw[if_neg ag];obtain⟨g1,g2,g3,g4⟩:=t3 iP;have cm:=k2 h0 (Nat.lt_of_not_le λh=>ag (t1.2 h));refine⟨h,rd,q,b2,?_,by rw[g1];exact A,by rw[g3];exact M,by rw[g1];exact g4,λ_ _ _=>rfl,λ_ _ e=> .inl e,aD.refl _ _⟩;have d1:decide ((t:Int)<(l.length:Int))=true:=bu (by omega);have iO:IntKind.i64.wrap ((off:Int)+(t:Int))=((off+t:Nat):Int):=cD (by omega);have d2:decide (((off+t:Nat):Int)<17792)=true:=bu (by omega)
     have a2:IntKind.i64.wrap (((off+t:Nat):Int).tdiv 64)=(((off+t)/64:Nat):Int):=by
      rw[Int.tdiv_eq_ediv_of_nonneg (by omega),wrap_i64 (by omega) (by omega)];rfl
     unfold vt;simp only[aA,aJ,d1,iO,d2,lV (show(64:Int)≠0 by omega),a2,cm,Bool.not_false]
  ·have hw:jF n i off l (g+1) t s=(s,t):=by
    show(if t<l.length/\off+t<17792 then _ else _)=_;rw[if_neg ae]
   rw[hw];refine⟨h,rd,q,b2,?_,A,M,jq,λ_ _ _=>rfl,λ_ _ e=> .inl e,aD.refl _ _⟩;unfold vt;by_cases h1:(t:Int)<(l.length:Int)
   ·have iO:IntKind.i64.wrap ((off:Int)+(t:Int))=((off+t:Nat):Int):=cD (by omega);have d2:decide (((off+t:Nat):Int)<17792)=false:=br (by omega);simp only[aA,aJ,bu h1,iO,d2]
   ·simp only[aA,aJ,br h1,iL]
end
theorem asI(b:Nat->Nat)(p c:Nat)(l:List Nat):over (over b p [c]) (p+1) l=over b p (c::l):=by
 funext j
 unfold over;simp only[List.length_cons,List.length_nil];by_cases h1:j=p
 ·subst h1;rw[if_neg (by omega),if_pos (by omega),if_pos (by omega),Nat.sub_self];rfl
 ·by_cases h2:p+1<=j/\j<p+1+l.length
  ·rw[if_pos h2,if_pos (by omega),show j-p=(j-(p+1))+1 by omega];rfl
  ·rw[if_neg h2,if_neg (by omega),if_neg (by omega)]
theorem afV(b:Nat->Nat)(p:Nat):over b p []=b:=by
 funext j
 unfold over;simp only[List.length_nil];rw[if_neg (by omega)]
section
variable{n i off:Nat}{l:List Nat}
theorem aar{t:Nat}(h:t<l.length)(h2:off+t<17792):(ez off l).drop t=l.getD t 0::(ez off l).drop (t+1):=by
 have aJ:t<(ez off l).length:=by simp[ez];omega
 rw[List.drop_eq_getElem_cons aJ];congr 1;simp[ez,List.getD,h]
theorem ajp{k:Nat}(g:Nat):∀(m t:Nat) (s:dC),0<s.bl i (a5 k)->(∀u,u<m->(off+(t+u))/64=k)->t+m<=l.length->off+(t+m)<=17792->
 jF n i off l (m+g) t s=jF n i off l g (t+m) ⟨s.wd,over s.b ((s.bl i (a5 k)-1)*64+(off+t)%64) (((ez off l).drop t).take m),s.nd,s.bl⟩
 |0,t,s,_,_,_,_=>by
  rw[Nat.zero_add,Nat.add_zero,List.take_zero,afV]
 |m+1,t,s,aB,ai,h1,h2=>by
  have wT:=ai 0 (by omega);rw[Nat.add_zero] at wT
  have db:bN n i ((off+t)/64) s=(s,true):=by
   unfold bN;rw[wT,if_pos aB]
  have az:jF n i off l (m+1+g) t s=jF n i off l (m+g) (t+1) ⟨s.wd,over s.b ((s.bl i (a5 k)-1)*64+(off+t)%64) [l.getD t 0],s.nd,s.bl⟩:=by
   rw[show m+1+g=(m+g)+1 by omega];show(if t<l.length/\off+t<17792 then _ else _)=_;rw[if_pos ⟨by omega,by omega⟩,db,if_pos rfl,wT]
  rw[az,ajp g m (t+1) ⟨s.wd,over s.b ((s.bl i (a5 k)-1)*64+(off+t)%64) [l.getD t 0],s.nd,s.bl⟩ aB (λu hu=>by have:=ai (u+1) (by omega);rwa[show t+(u+1)=t+1+u by omega] at this) (by omega) (by omega)];rw[show t+1+m=t+(m+1) by omega];cases m with
  |zero=>
   rw[List.take_zero,afV,aar (by omega) (by omega)];rfl
  |succ m=>
   have aeb:=ai 1 (by omega);have ay:(s.bl i (a5 k)-1)*64+(off+(t+1))%64=(s.bl i (a5 k)-1)*64+(off+t)%64+1:=by omega
   show jF n i off l g (t+(m+1+1)) ⟨s.wd,over (over s.b ((s.bl i (a5 k)-1)*64+(off+t)%64) [l.getD t 0]) ((s.bl i (a5 k)-1)*64+(off+(t+1))%64) _,s.nd,s.bl⟩=_;rw[ay,asI,aar (t:=t) (by omega) (by omega)];rfl
theorem ajq:∀(g t:Nat) (s:dC),(ez off l).length-t<=g->t<=(ez off l).length->∀e4,(ez off l).length-t<=e4->jF n i off l e4 t s=jG n i off (ez off l) g t s
 |0,t,s,bc,aN,e4,apH=>by
  have aJ:(ez off l).length=min l.length (17792-off):=by simp[ez]
  have e:jG n i off (ez off l) 0 t s=(s,t):=rfl;rw[e];cases e4 with
  |zero=>rfl
  |succ e4=>
   show(if t<l.length/\off+t<17792 then _ else _)=_;rw[if_neg (by omega)]
 |g+1,t,s,bc,aN,e4,apH=>by
  have aJ:(ez off l).length=min l.length (17792-off):=by simp[ez]
  by_cases ae:t<(ez off l).length
  ·obtain⟨e4,rfl⟩:∃x,e4=x+1:=⟨e4-1,by omega⟩
   have az:jF n i off l (e4+1) t s=if(bN n i ((off+t)/64) s).2=true then
    jF n i off l e4 (t+1) ⟨(bN n i ((off+t)/64) s).1.wd,over (bN n i ((off+t)/64) s).1.b (((bN n i ((off+t)/64) s).1.bl i (a5 ((off+t)/64))-1)*64+(off+t)%64) [l.getD t 0],(bN n i ((off+t)/64) s).1.nd,(bN n i ((off+t)/64) s).1.bl⟩
    else((bN n i ((off+t)/64) s).1,t):=by
    show(if t<l.length/\off+t<17792 then _ else _)=_;rw[if_pos ⟨by omega,by omega⟩]
   have ay:jG n i off (ez off l) (g+1) t s=if(bN n i ((off+t)/64) s).2=true then
    jG n i off (ez off l) g (t+min (64-(off+t)%64) ((ez off l).length-t)) ⟨(bN n i ((off+t)/64) s).1.wd,over (bN n i ((off+t)/64) s).1.b (((bN n i ((off+t)/64) s).1.bl i (a5 ((off+t)/64))-1)*64+(off+t)%64) (((ez off l).drop t).take (min (64-(off+t)%64) ((ez off l).length-t))),(bN n i ((off+t)/64) s).1.nd,(bN n i ((off+t)/64) s).1.bl⟩
    else((bN n i ((off+t)/64) s).1,t):=by
    show(if t<(ez off l).length then _ else _)=_;rw[if_pos ae]
   rw[az,ay];by_cases ag:(bN n i ((off+t)/64) s).2=true
   ·rw[if_pos ag,if_pos ag];have tT:=PO ag;generalize(bN n i ((off+t)/64) s).1=s1 at *;generalize hm:min (64-(off+t)%64) ((ez off l).length-t)=m at *;obtain⟨m,rfl⟩:∃x,m=x+1:=⟨m-1,by omega⟩;have bn:=ajp (n:=n) (i:=i) (off:=off) (l:=l) (k:=(off+t)/64) (e4-m) (m+1) t s1 tT (λu hu=>by omega) (by omega) (by omega)
    have db:bN n i ((off+t)/64) s1=(s1,true):=by
     unfold bN;rw[if_pos tT]
    have b9:jF n i off l (m+1+(e4-m)) t s1=jF n i off l e4 (t+1) ⟨s1.wd,over s1.b ((s1.bl i (a5 ((off+t)/64))-1)*64+(off+t)%64) [l.getD t 0],s1.nd,s1.bl⟩:=by
     rw[show m+1+(e4-m)=e4+1 by omega];show(if t<l.length/\off+t<17792 then _ else _)=_;rw[if_pos ⟨by omega,by omega⟩,db,if_pos rfl]
    rw[<- b9,bn];exact ajq g (t+(m+1)) _ (by omega) (by omega) (e4-m) (by omega)
   ·rw[if_neg ag,if_neg ag]
  ·have az:jG n i off (ez off l) (g+1) t s=(s,t):=by
    show(if t<(ez off l).length then _ else _)=_;rw[if_neg ae]
   rw[az];cases e4 with
   |zero=>rfl
   |succ e4=>
    show(if t<l.length/\off+t<17792 then _ else _)=_;rw[if_neg (by omega)]
end
theorem aCx{C:ad}{lf:Nat}{r:aS}{x0 x1 x2 x3:O}{h:J}:W3 C lf r x0 x1 x2 x3 h=Ly C lf (λx0 x1 x2 x3 h=>Lx C lf r x0 x1 x2 x3 h) r x0 x1 x2 x3 h:=rfl
theorem aCw{C:ad}{lf:Nat}{r:aS}{x0 x1 x2 x3 aU:O}{h:J}:W6 C lf r x0 x1 x2 x3 aU h=Lz C lf r x0 x1 x2 x3 aU (some (I 0)) h:=rfl
section
variable{lf:Nat}{h:J}{R:eE}{n N:Nat}{now:Int}{us:Nat->Bool}{i:Nat}
theorem aCv{C:ad}{on:Nat->Bool}{q:Nat->Option Nat}{b:Nat->Nat}{rd:Nat->Nat->U}(A:bE h R n N on q b now us rd)(hi:i<N){sz off m:Nat}(dP:rd (i+1) 5=I (sz:Int))(hm:m≠0)(aGO:off+m<=140737488355328)(r:aS):
 ∃h',xn C lf r (some (.ptr R.rt 0)) (some (I (off:Int))) (some (.ptr R.bs ((i+1)*308))) (some (I (m:Int))) h=r (some (I (m:Int))) (some (I 0)) h'/\
  bE h' R n N on q b now us (grown rd (i+1) (max sz (off+m)) now)/\aD h h' (· =R.bs):=by
 have m7:=A.j6 (i+1) 5 (by omega) (by omega);rw[dP] at m7;have d0:decide ((m:Int)=0)=false:=br (by omega);have iO:IntKind.i64.wrap ((off:Int)+(m:Int))=((off+m:Nat):Int):=cD (by omega);have iI:(i+1)*308+1+4=(i+1)*308+5:=rfl;have pT:(i+1)*308+1+8=(i+1)*308+9:=rfl;have j7:(i+1)*308+1+9=(i+1)*308+10:=rfl
 have fin:∀h2 k9,bE h2 R n N on q b now us k9->∃h',W4 C lf r (some (.ptr R.rt 0)) (some (.ptr R.bs ((i+1)*308))) (some (I (m:Int))) h2=r (some (I (m:Int))) (some (I 0)) h'/\
  bE h' R n N on q b now us (cU (cU k9 (i+1) 9 (I now)) (i+1) 10 (I now))/\aD h2 h' (· =R.bs):=λh2 k9 dh=>by
  obtain⟨h3,ea,ft,e6,c2⟩:=kK dh (i:=i+1) (c:=9) (by omega) (by omega) (by omega) now;obtain⟨aT,e2,kP,jm,fK⟩:=kK ft (i:=i+1) (c:=10) (by omega) (by omega) (by omega) now;refine⟨aT,?_,kP,c2.trans fK⟩;unfold W4;simp only[aA,dh.cm,pT,j7,ea,e2]
 unfold xn W5;simp only[aA,d0];unfold ahn ahm;by_cases bc:sz<off+m
 ·have d1:decide ((sz:Int)<((off+m:Nat):Int))=true:=bu (by omega);obtain⟨h2,s2,dh,ck,bw⟩:=kK A (i:=i+1) (c:=5) (by omega) (by omega) (by omega) ((off+m:Nat):Int);obtain⟨h3,ea,ft,c2⟩:=fin h2 _ dh;refine⟨h3,?_,?_,bw.trans c2⟩
  ·simp only[aA,iO,iI,m7,d1,s2];exact ea
  ·rw[show max sz (off+m)=off+m by omega];exact ft
 ·have d1:decide ((sz:Int)<((off+m:Nat):Int))=false:=br (by omega);obtain⟨h3,ea,ft,c2⟩:=fin h _ A;refine⟨h3,?_,?_,c2⟩
  ·simp only[aA,iO,iI,m7,d1];exact ea
  ·rw[show max sz (off+m)=sz by omega];unfold grown;rw[ajf dP];exact ft
end
section
variable{lf:Nat}{h:J}{R:eE}{n N:Nat}{now:Int}{us:Nat->Bool}{ino:Int}
def Y0(h h':J)(R:eE)(n N:Nat)(now:Int)(us:Nat->Bool)(i:Nat)(w:dC×Nat)(sz off:Nat)(rd:Nat->Nat->U)(q:Nat->Option Nat):Prop:=
 ∃cw eV n0,bE h' R n N (bP w.1.wd) eV n0 now us (if w.2=0 then cw else grown cw (i+1) (max sz (off+w.2)) now)/\dg N cw w.1.bl/\iX (bP w.1.wd) w.1.b n0/\(∀i' c,c<12->cw i' c=rd i' c)/\
  (∀u k,eV u=some k->q u=some k\/h.next<=k)/\aD h h' (λj=>j=R.ro\/j=R.rb\/j=R.bs\/∃u,q u=some j)
theorem aCu{C:ad}(gy:20000<=lf)(hO:pJ C)(NG:G8 C){s:dC}{q:Nat->Option Nat}{b2:Nat->Nat}{rd:Nat->Nat->U}{off:Int}{x:U}{l:List Nat}(W:pN n N s)(A:bE h R n N (bP s.wd) q b2 now us rd)(M:dg N rd s.bl)(jq:iX (bP s.wd) s.b b2)(B:Bytes h x l)
 (kY:l.length<=140737488351232)(ax:∀j,rowOf x=some j->j<h.next/\¬sJ R n q j/\∀u,q u≠some j):
 (c7 N us ino=false->wH C lf (.ptr R.rt 0) (I ino) (I off) x h=some (.ret (.bm [I 0,I 2]),h))/\
 (∀i (sz:Nat),iv N us ino i->rd (i+1) 5=I (sz:Int)->(off<0->wH C lf (.ptr R.rt 0) (I ino) (I off) x h=some (.ret (.bm [I 0,I 22]),h))/\
   (0<=off->l=[]->wH C lf (.ptr R.rt 0) (I ino) (I off) x h=some (.ret (.bm [I 0,I 0]),h))/\
   (l≠[]->17792<=off->wH C lf (.ptr R.rt 0) (I ino) (I off) x h=some (.ret (.bm [I 0,I 27]),h))/\
   (l≠[]->0<=off->off<17792->∃h',wH C lf (.ptr R.rt 0) (I ino) (I off) x h=some (.ret (.bm [I ((dU n i off.toNat l s).2:Int),I (if(dU n i off.toNat l s).2=0 then 28 else 0)]),h')/\
     Y0 h h' R n N now us i (dU n i off.toNat l s) sz off.toNat rd q)):=by
 have dA:=hO h R n N _ q b2 now us rd ino A;obtain⟨cap,lo,cb⟩:=A.cb;have hlen:=re (P:=ao) Tryd.underlying24 B;unfold wH;rw[aCx];unfold Ly;refine⟨λag=>?_,λi sz bT dP=>?_⟩
 ·rw[ag] at dA;unfold pV;simp only[aA,dA,Bool.not_false]
 ·rw[bT.yes] at dA;obtain⟨hi,hu,rfl⟩:=bT;simp only[aA,dA,Bool.not_true];unfold Lx B9;refine⟨λh1=>?_,λh1 h2=>?_,λh1 h2=>?_,λh1 h2 h3=>?_⟩
  ·unfold pV;simp only[aA,bu h1]
  ·have d1:decide (off<0)=false:=br (by omega);have d2:decide ((l.length:Int)=0)=true:=bu (by rw[h2];rfl);simp only[aA,d1];unfold B8 FL pV;simp only[aA,hlen,d2]
  ·have Ef:=List.length_pos_iff.2 h1;have d1:decide (off<0)=false:=br (by omega);have d2:decide ((l.length:Int)=0)=false:=br (by omega);simp only[aA,d1];unfold B8 FL;simp only[aA,hlen,d2];unfold Lw Lv pV;simp only[aA,bu h2]
  ·obtain⟨o,rfl⟩:∃o:Nat,off=o:=⟨off.toNat,by omega⟩;rw[Int.toNat_natCast];have Ef:=List.length_pos_iff.2 h1;have d1:decide ((o:Int)<0)=false:=br (by omega);have d2:decide ((l.length:Int)=0)=false:=br (by omega);have d3:decide ((17792:Int)<=(o:Int))=false:=br (by omega);have fR:(ez o l).length=min l.length (17792-o):=by simp[ez]
   have aqG:jF n i o l (ez o l).length 0 s=dU n i o l s:=ajq (ez o l).length 0 s (by omega) (by omega) _ (by omega)
   obtain⟨h',cw,eV,n0,dd,dy,fB,k8,mJ,ry,rz⟩:=aCt (lf:=lf) (C:=C) (R:=R) (now:=now) (us:=us) NG hi (off:=o) (by omega) (x:=x) (l:=l) kY (λj aa=>by
    have aT:=(ax j aa).2.1
    exact⟨λe=>aT (.inr (.inr (.inl e))),λe=>aT (.inr (.inr (.inr (.inl e)))),λe=>aT (.inl e)⟩) (λx0 x2 aU x11 h=>xn C lf pV x0 x2 aU x11 h)
    (ez o l).length 0 (by omega) (by omega) lf (by omega) h s rd q b2 W A M jq B (λj aa=>⟨(ax j aa).1,(ax j aa).2.2⟩)
   rw[aqG] at dd dy fB k8;have aqJ:(dU n i o l s).2<=(ez o l).length:=(Gm (n:=n) (N:=N) (i:=i) (off:=o) (l:=ez o l) (by omega) (i':=i) (c:=0) hi (by omega) (ez o l).length 0 s (by omega) W).2.2.1
   have pre:B9 C lf (λx0 x1 x2 x3 h=>B8 C lf pV x0 x1 x2 x3 h) pV (some (.ptr R.rt 0)) (some (I ((i+1:Nat):Int))) (some (I (o:Int))) (some x) h=
    xn C lf pV (some (.ptr R.rt 0)) (some (I (o:Int))) (some (.ptr R.bs ((i+1)*308))) (some (I ((dU n i o l s).2:Int))) h':=by
    unfold B9;simp only[aA,d1];unfold B8 FL;simp only[aA,hlen,d2];unfold Lw Lv;simp only[aA,d3];unfold W2 W1;simp only[aA,cb,l6 (R:=R) (N:=N) (i:=i+1) (cap:=cap) (lo:=lo) (by omega)];rw[aCw];unfold Lz;exact dd
   unfold B9 at pre;rw[pre];by_cases aX:(dU n i o l s).2=0
   ·refine⟨h',?_,cw,eV,n0,by rw[if_pos aX];exact dy,fB,k8,mJ,ry,rz⟩;have d4:decide (((dU n i o l s).2:Int)=0)=true:=bu (by omega);unfold xn W5 pV;rw[if_pos aX];simp only[aA,d4];rw[aX];rfl
   ·obtain⟨h2,ay,dh,bw⟩:=aCv (lf:=lf) (C:=C) dy hi (sz:=sz) (off:=o) (m:=(dU n i o l s).2) (by rw[mJ _ _ (by omega)];exact dP) aX (by omega) pV;refine⟨h2,?_,cw,eV,n0,by rw[if_neg aX];exact dh,fB,k8,mJ,ry,rz.trans (bw.ei λ_ e=> .inr (.inr (.inl e)))⟩;rw[ay,if_neg aX];unfold pV;simp only[cf,b8]
end
def pR(bl:Nat->Nat->Nat)(b:Nat->Nat)(i p:Nat):Nat:=if bl i (a5 (p/64))=0 then 0 else b ((bl i (a5 (p/64))-1)*64+p%64)
def n3(bl:Nat->Nat->Nat)(b:Nat->Nat)(i off n:Nat):List Nat:=(List.range n).map λj=>pR bl b i (off+j)
theorem aag(bl:Nat->Nat->Nat)(b:Nat->Nat)(i off n:Nat):n3 bl b i off (n+1)=n3 bl b i off n++[pR bl b i (off+n)]:=by
 simp[n3,List.range_succ]
theorem HJ(bl:Nat->Nat->Nat)(b:Nat->Nat)(i off n:Nat):(n3 bl b i off n).length=n:=by simp[n3]
section
variable{lf:Nat}{h h0:J}{R:eE}{n N:Nat}{on:Nat->Bool}{q:Nat->Option Nat}{b:Nat->Nat}{now:Int}{us:Nat->Bool}{rd:Nat->Nat->U}{bl:Nat->Nat->Nat}{i:Nat}
theorem bE.aoB(A:bE h R n N on q b now us rd){j p:Nat}(aa:j<n)(e5:on j=true)(aB:p<64):
 ∃x1 x mX,h.cell R.rt 1=some x1/\dQ 1 x1 (I (j:Int))=some (.ptr R.rb j)/\h.cell R.rb j=some x/\dQ 1 x (I (p:Int))=some mX/\bO mX h=some (.int .u8 (b (j*64+p):Int)):=by
 obtain⟨x0,x1,cG,aP,V⟩:=A.ref.v;obtain⟨cap,lo,rfl⟩:=V.az;have fG:=V.ck;cases a2:q j with
 |none=>
  have:=(V.off j aa a2).1
  rw[e5] at this;cases this
 |some bR=>
  obtain⟨h1,h2,x,h3,aT⟩:=V.has j bR aa a2;have B:=aT.jO e5;obtain⟨N9,RK,rfl⟩:=B.aF;have nB:=gA (s:=1) (k:=R.rb) (off:=0) (len:=n) (lo:=lo) (cap:=cap) (kd:= .i64) (i:=(j:Int)) (by omega) (by omega);rw[Int.toNat_natCast,Nat.mul_one,Nat.zero_add] at nB;have nC:=gA (s:=1) (k:=bR) (off:=0) (len:=64) (lo:=RK) (cap:=N9) (kd:= .i64) (i:=(p:Int)) (by omega) (by omega);rw[Int.toNat_natCast,Nat.mul_one,Nat.zero_add] at nC;exact⟨_,_,_,aP,nB,h3,nC,B.cs p aB⟩
end
section
open Classical
structure hX (n N:Nat) (on:Nat->Bool) (bl:Nat->Nat->Nat):Prop where
 le:∀i c,i<N->12<=c->c<308->bl i c<=n
 on:∀i c,i<N->12<=c->c<308->0<bl i c->on (bl i c-1)=true
 inj:∀i c i' a4,i<N->12<=c->c<308->i'<N->12<=a4->a4<308->0<bl i c->bl i c=bl i' a4->i=i'/\c=a4
theorem c3.nt{n N:Nat}{wd:Nat->Nat}{nd:Nat->Nat->U}{bl:Nat->Nat->Nat}(M:c3 n N wd nd bl):hX n N (bP wd) bl:=⟨λi c _ _ _=>M.le i c,M.on,M.inj⟩
theorem Kc{c:Nat}(h1:12<=c)(h2:c<308):12<=pm c/\pm c<308:=by
 unfold pm;by_cases a:c<290
 ·rw[if_pos a];exact⟨rn,sI (by omega)⟩
 ·rw[if_neg a];by_cases b:c=290
  ·rw[if_pos b];omega
  ·rw[if_neg b];by_cases d:c=307
   ·rw[if_pos d];omega
   ·rw[if_neg d];omega
structure kr (h h':J) (R:eE) (n N:Nat) (on ds:Nat->Bool) (q:Nat->Option Nat) (b:Nat->Nat) (now:Int) (us:Nat->Bool) (rd cw:Nat->Nat->U) (bl:Nat->Nat->Nat) (i:Nat) (S:Nat->Prop):Prop where
 A:bE h' R n N ds q b now us cw
 M:dg N cw (dE bl i S)
 L:∀i' c,c<12->cw i' c=rd i' c
 K:hX n N ds (dE bl i S)
 O:∀j,ds j=true↔(on j=true/\∀c,12<=c->c<308->S c->bl i c≠j+1)
 F:aD h h' (λj=>j=R.ro\/j=R.bs)
section
variable{lf:Nat}{h h' fF:J}{R:eE}{n N:Nat}{on ds afN:Nat->Bool}{q:Nat->Option Nat}{b:Nat->Nat}{now:Int}{us:Nat->Bool}{rd cw ahA:Nat->Nat->U}{bl:Nat->Nat->Nat}{i:Nat}{S fi:Nat->Prop}
theorem kr.refl(A:bE h R n N on q b now us rd)(M:dg N rd bl)(K:hX n N on bl)(dW:∀c,¬S c):kr h h R n N on on q b now us rd rd bl i S:=
 ⟨A,by rw[Oe bl i dW];exact M,λ_ _ _=>rfl,by rw[Oe bl i dW];exact K,λj=>⟨λe=>⟨e,λc _ _ ae=>absurd ae (dW c)⟩,λe=>e.1⟩,aD.refl _ _⟩
theorem kr.trans(a:kr h h' R n N on ds q b now us rd cw bl i S)(c:kr h' fF R n N ds afN q b now us cw ahA (dE bl i S) i fi):kr h fF R n N on afN q b now us rd ahA bl i (λc=>S c\/fi c):=by
 refine⟨c.A,by rw[<- C4];exact c.M,λi' t aN=>(c.L i' t aN).trans (a.L i' t aN),by rw[<- C4];exact c.K,λj=>?_,a.F.trans c.F⟩;rw[c.O,a.O];constructor
 ·rintro ⟨⟨h1,h2⟩,h3⟩
  refine⟨h1,λc dF ae dW=>?_⟩;by_cases e:S c
  ·exact h2 c dF ae e
  ·have:=h3 c dF ae (dW.resolve_left e)
   rw[jb (λx=>e x.2)] at this;exact this
 ·rintro ⟨h1,h2⟩
  refine⟨⟨h1,λc dF ae dW=>h2 c dF ae (.inl dW)⟩,λc dF ae dW=>?_⟩;by_cases e:S c
  ·rw[oV e];omega
  ·rw[jb (λx=>e x.2)];exact h2 c dF ae (.inr dW)
theorem kr.wide(a:kr h h' R n N on ds q b now us rd cw bl i S)(h1:∀c,12<=c->c<308->S c->fi c)(h2:∀c,12<=c->c<308->fi c->S c\/bl i c=0):kr h h' R n N on ds q b now us rd cw bl i fi:=by
 have e:∀i' c,12<=c->c<308->dE bl i fi i' c=dE bl i S i' c:=λi' c k1 k2=>by
  by_cases e:i'=i/\S c
  ·rw[e.1,oV e.2,oV (h1 c k1 k2 e.2)]
  ·rw[jb e];by_cases bd:i'=i/\fi c
   ·rw[bd.1,oV bd.2];rcases h2 c k1 k2 bd.2 with x|x
    ·exact absurd ⟨bd.1,x⟩ e
    ·exact x.symm
   ·rw[jb bd]
 refine⟨a.A,λi' c hi k1 k2=>?_,a.L,⟨λi' c hi k1 k2=>?_,λi' c hi k1 k2=>?_,λi1 aP i2 a1 nB aj aC nC bY b2=>?_⟩,λj=>?_,a.F⟩
 ·obtain⟨bM,cz⟩:=Kc k1 k2;rw[e _ _ bM cz];exact a.M i' c hi k1 k2
 ·rw[e _ _ k1 k2];exact a.K.le i' c hi k1 k2
 ·rw[e _ _ k1 k2];exact a.K.on i' c hi k1 k2
 ·rw[e _ _ aj aC,e _ _ bY b2];exact a.K.inj i1 aP i2 a1 nB aj aC nC bY b2
 ·rw[a.O]
  exact⟨λx=>⟨x.1,λc k1 k2 ae=>by
   rcases h2 c k1 k2 ae with y|y
   ·exact x.2 c k1 k2 y
   ·omega⟩,λx=>⟨x.1,λc k1 k2 ae=>x.2 c k1 k2 (h1 c k1 k2 ae)⟩⟩
theorem kr.ext(a:kr h h' R n N on ds q b now us rd cw bl i S)(dW:∀c,12<=c->c<308->(S c↔fi c)):kr h h' R n N on ds q b now us rd cw bl i fi:=
 a.wide (λc h1 h2=>(dW c h1 h2).1) (λc h1 h2 x=> .inl ((dW c h1 h2).2 x))
theorem Xu{C:ad}(Fr:x6 C)(A:bE h R n N on q b now us rd)(M:dg N rd bl)(K:hX n N on bl)(hi:i<N){c:Nat}(dF:12<=c)(ae:c<308)(hv:0<bl i (pm c)):
 ∃h1 h2 ds cw,C (.fn 67) [.ptr R.rt 0,I ((bl i (pm c)-1:Nat):Int)] h=some (.ret (I 0),h1)/\st 1 (.ptr R.bs ((i+1)*308+c)) (I 0) h1=some h2/\kr h h2 R n N on ds q b now us rd cw bl i (· =pm c):=by
 obtain⟨bM,cz⟩:=Kc dF ae;have hle:=K.le i _ hi bM cz;have e5:=K.on i _ hi bM cz hv
 have jj:lH n on ((bl i (pm c)-1:Nat):Int)=true:=by
  have d1:decide ((0:Int)<=((bl i (pm c)-1:Nat):Int))=true:=bu (by omega);have d2:decide (((bl i (pm c)-1:Nat):Int)<(n:Int))=true:=bu (by omega);simp only[lH,d1,d2,Int.toNat_natCast,e5,Bool.and_self]
 obtain⟨h1,aP,Ho,aL,cA⟩:=(Fr h R.rt R.ro R.rb n on q b _ A.ref).2 jj;rw[Int.toNat_natCast] at Ho;have bX:=A.store Ho (aL.ei λ_ e=> .inl e) A.d4;obtain⟨h2,s2,dh,ck,bw⟩:=kK bX (i:=i+1) (c:=c) (by omega) (by omega) ae 0
 have aet:∀j,da on (bl i (pm c)-1) false j=true↔(on j=true/\bl i (pm c)≠j+1):=λj=>by
  by_cases e:j=bl i (pm c)-1
  ·subst e;rw[jE];exact⟨λx=>(by cases x),λx=>absurd x.2 (by omega)⟩
  ·rw[ho _ _ e];exact⟨λx=>⟨x,by omega⟩,λx=>x.1⟩
 have fR:∀i' a4,¬(i'=i/\a4=pm c)->dE bl i (· =pm c) i' a4=bl i' a4:=λi' a4 e=>jb e
 have aX:∀a4,a4=pm c->dE bl i (· =pm c) i a4=0:=λa4 e=>oV (S:=(· =pm c)) e
 refine⟨h1,h2,_,_,aP,s2,dh,λi' a4 cH aj aC=>?_,λi' a4 fk=>hn _ _ (by omega),⟨λi' a4 cH aj aC=>?_,λi' a4 cH aj aC a8=>?_,λi1 aP i2 a1 nB aj aC nC bY b2 az ay=>?_⟩,λj=>?_,(aL.ei λ_ e=> .inl e).trans (bw.ei λ_ e=> .inr e)⟩
 ·by_cases e:i'=i/\a4=c
  ·rw[e.1,e.2,mO,aX _ rfl];rfl
  ·rw[hn _ _ (by omega),fR _ _ (λx=>e ⟨x.1,af6 aj aC dF ae x.2⟩)];exact M i' a4 cH aj aC
 ·by_cases e:i'=i/\a4=pm c
  ·rw[e.1,aX _ e.2];exact Nat.zero_le _
  ·rw[fR _ _ e];exact K.le i' a4 cH aj aC
 ·by_cases e:i'=i/\a4=pm c
  ·rw[e.1,aX _ e.2] at a8;exact absurd a8 (Nat.lt_irrefl _)
  ·rw[fR _ _ e] at a8⊢;refine(aet _).2 ⟨K.on i' a4 cH aj aC a8,λx=>e ?_⟩
   have:=K.inj i (pm c) i' a4 hi bM cz cH aj aC hv (by omega)
   exact⟨this.1.symm,this.2.symm⟩
 ·by_cases e:i1=i/\aP=pm c
  ·rw[e.1,aX _ e.2] at az;exact absurd az (Nat.lt_irrefl _)
  ·rw[fR _ _ e] at az ay;by_cases bd:i2=i/\a1=pm c
   ·rw[bd.1,aX _ bd.2] at ay;omega
   ·rw[fR _ _ bd] at ay;exact K.inj i1 aP i2 a1 nB aj aC nC bY b2 az ay
 ·rw[aet];exact⟨λx=>⟨x.1,λa4 _ _ e=>by rw[e];exact x.2⟩,λx=>⟨x.1,x.2 _ bM cz rfl⟩⟩
end
end
section
open Classical
section
variable{lf:Nat}{R:eE}{n N:Nat}{q:Nat->Option Nat}{b:Nat->Nat}{now:Int}{us:Nat->Bool}{i:Nat}
theorem uw{k m o:Nat}(ai:k<m):eu m 1 (.ptr R.bs ((i+1)*308+o)) (I (k:Int))=some (.ptr R.bs ((i+1)*308+(o+k))):=by
 have:=l1 (n:=m) (s:=1) (k:=R.bs) (off:=(i+1)*308+o) (kd:= .i64) (i:=(k:Int)) (by omega) (by omega)
 rwa[Int.toNat_natCast,Nat.mul_one,Nat.add_assoc] at this
theorem Xt{C:ad}(Fr:x6 C)(av:aS)(hi:i<N):∀(d m:Nat) (h:J) (on:Nat->Bool) (rd:Nat->Nat->U) (bl:Nat->Nat->Nat),m+d=278->∀f,d<f->bE h R n N on q b now us rd->dg N rd bl->hX n N on bl->
 ∃h' ds cw,bk (BA C lf av) f (some (.ptr R.rt 0),some (.ptr R.bs ((i+1)*308)),some (I (m:Int))) h=av (some (.ptr R.rt 0)) (some (.ptr R.bs ((i+1)*308))) h'/\
  kr h h' R n N on ds q b now us rd cw bl i (hh m 278)
 |0,m,h,on,rd,bl,hm,f,au,A,M,K=>by
  obtain⟨f,rfl⟩:=dx f (by omega);have a9:decide ((m:Int)<278)=false:=br (by omega);refine⟨h,on,rd,?_,kr.refl A M K λc ⟨j,a,aC,_⟩=>by omega⟩;rw[df];unfold BA E9;simp only[aA,a9]
 |d+1,m,h,on,rd,bl,hm,f,au,A,M,K=>by
  obtain⟨f,rfl⟩:=dx f (by omega);have a9:decide ((m:Int)<278)=true:=bu (by omega);have dr:IntKind.i64.wrap ((m:Int)+1)=((m+1:Nat):Int):=cD (by omega);have bW:=uw (R:=R) (i:=i) (k:=m) (m:=278) (o:=12) (by omega);have eM:=ni A M hi (c:=12+m) (by omega) (by omega);have wX:=rq (k:=m) (by omega)
  have dW:∀c,12<=c->c<308->((c=a5 m\/hh (m+1) 278 c)↔hh m 278 c):=λc _ _=>by
   constructor
   ·rintro (e|⟨j,a,aC,e⟩)
    ·exact⟨m,Nat.le_refl _,by omega,e⟩
    ·exact⟨j,by omega,aC,e⟩
   ·rintro ⟨j,a,aC,e⟩
    by_cases anv:j=m
    ·exact .inl (by rw[e,anv])
    ·exact .inr ⟨j,by omega,aC,e⟩
  rw[df];show ∃h' ds cw,E9 C lf (λx0 aG x7 h=>bk (BA C lf av) f (x0,aG,x7) h) av (some (.ptr R.rt 0)) (some (.ptr R.bs ((i+1)*308))) (some (I (m:Int))) h=_/\_;unfold E9;by_cases hv:0<bl i (a5 m)
  ·rw[wX] at eM;obtain⟨h1,h2,hz,jB,aP,s1,fW⟩:=Xu Fr A M K hi (c:=12+m) (by omega) (by omega) (by rw[wX];exact hv);rw[wX] at aP fW;obtain⟨h3,k7,k9,ay,qt⟩:=Xt Fr av hi d (m+1) h2 hz jB _ (by omega) f (by omega) fW.A fW.M fW.K;have d1:decide ((0:Int)<(bl i (a5 m):Int))=true:=bu (by omega)
   have jz:IntKind.i64.wrap ((bl i (a5 m):Int)-1)=((bl i (a5 m)-1:Nat):Int):=by
    have:=K.le i (a5 m) hi rn (sI (by omega))
    have fG:n<=4096:=A.ref.v.choose_spec.choose_spec.2.2.ck;rw[wrap_i64 (by omega) (by omega)];omega
   refine⟨h3,k7,k9,?_,(fW.trans qt).ext dW⟩;simp only[aA,a9,bW,eM,d1,jz,aP,s1,dr];exact ay
  ·rw[wX] at eM;have d1:decide ((0:Int)<(bl i (a5 m):Int))=false:=br (by omega);obtain⟨h3,k7,k9,ay,qt⟩:=Xt Fr av hi d (m+1) h on rd bl (by omega) f (by omega) A M K;refine⟨h3,k7,k9,?_,?_⟩
   ·simp only[aA,a9,bW,eM,d1,dr];exact ay
   ·exact qt.wide (λc h1 h2 e=>(dW c h1 h2).1 (.inr e)) (λc h1 h2 e=>by
     rcases(dW c h1 h2).2 e with e|e
     ·subst e;exact .inr (by omega)
     ·exact .inl e)
end
end
section
open Classical
def dt(g:Nat):Nat:=if g=0 then 18 else 36+17*(g-1)
theorem af5{g:Nat}(bc:g<17):pm (290+g)=dt g:=by
 unfold dt;by_cases h:g=0
 ·rw[if_pos h,h];rfl
 ·rw[if_neg h,af4 (by omega) (by omega)]
theorem I8{g j:Nat}(aa:j<16):a5 (6+g*16+j)=dt g+(1+j):=by
 unfold dt a5;by_cases h:g=0
 ·subst h;rw[if_pos rfl,if_neg (by omega),if_pos (by omega)];omega
 ·rw[if_neg h,if_neg (by omega),if_neg (by omega)];have h1:(6+g*16+j-22)/16=g-1:=by omega
  have h2:(6+g*16+j-22)%16=j:=by omega
  rw[h1,h2];omega
theorem adv{g:Nat}(bc:g<17):12<=dt g/\dt g+17<=308:=by
 unfold dt;split<;>omega
theorem aov{g e4 j:Nat}(aa:j<16):dt g≠dt e4+(1+j):=by
 unfold dt;split<;>split<;>omega
def DL(bl:Nat->Nat->Nat)(i p:Nat)(c:Nat):Prop:=∃g,p<=g/\g<17/\c=dt g/\hole bl i (dt g)=true
section
variable{lf:Nat}{R:eE}{n N:Nat}{q:Nat->Option Nat}{b:Nat->Nat}{now:Int}{us:Nat->Bool}{i:Nat}
theorem aeZ{C:ad}{h:J}{on:Nat->Bool}{rd:Nat->Nat->U}{bl:Nat->Nat->Nat}{xs:O}(A:bE h R n N on q b now us rd)(M:dg N rd bl)(hi:i<N){g:Nat}(bc:g<17)(ee:dp):∀(d t:Nat) (v:Bool),t+d=16->(v=true↔∃j,j<t/\0<bl i (dt g+(1+j)))->∀f,d<f->
 bk (BB C lf ee) f (some (.ptr R.rt 0),some (.ptr R.bs ((i+1)*308)),xs,some (I (g:Int)),some (.bool v),some (I ((6+g*16+t:Nat):Int)),some (I (g:Int))) h=
  ee (some (.ptr R.rt 0)) (some (.ptr R.bs ((i+1)*308))) xs (some (I (g:Int))) (some (.bool (!hole bl i (dt g)))) (some (I (g:Int))) h
 |0,t,v,aI,hv,f,au=>by
  obtain⟨f,rfl⟩:=dx f (by omega);have cP:IntKind.i64.wrap ((g:Int)+1)=((g+1:Nat):Int):=cD (by omega);have cV:IntKind.i64.wrap (((g+1:Nat):Int)*16)=(((g+1)*16:Nat):Int):=cD (by omega);have fh:IntKind.i64.wrap ((6:Int)+(((g+1)*16:Nat):Int))=((6+(g+1)*16:Nat):Int):=cD (by omega);have a9:decide (((6+g*16+t:Nat):Int)<((6+(g+1)*16:Nat):Int))=false:=br (by omega)
  have cj:v=!hole bl i (dt g):=by
   rw[Bool.eq_iff_iff,hv,Bool.not_eq_true',Bool.eq_false_iff,Ne,pd];constructor
   ·rintro ⟨j,h1,h2⟩ h3
    have:=h3 j (by omega);omega
   ·intro h3;by_cases aT:∃j,j<t/\0<bl i (dt g+(1+j))
    ·exact aT
    ·exact absurd (λj aa=>by
      by_cases bz:0<bl i (dt g+(1+j))
      ·exact absurd ⟨j,by omega,bz⟩ aT
      ·omega) h3
  rw[df];unfold BB E7;simp only[aA,cP,cV,fh,a9];rw[cj]
 |d+1,t,v,aI,hv,f,au=>by
  obtain⟨f,rfl⟩:=dx f (by omega);have cP:IntKind.i64.wrap ((g:Int)+1)=((g+1:Nat):Int):=cD (by omega);have cV:IntKind.i64.wrap (((g+1:Nat):Int)*16)=(((g+1)*16:Nat):Int):=cD (by omega);have fh:IntKind.i64.wrap ((6:Int)+(((g+1)*16:Nat):Int))=((6+(g+1)*16:Nat):Int):=cD (by omega);have a9:decide (((6+g*16+t:Nat):Int)<((6+(g+1)*16:Nat):Int))=true:=bu (by omega);have dr:IntKind.i64.wrap (((6+g*16+t:Nat):Int)+1)=((6+g*16+(t+1):Nat):Int):=cD (by omega);have bW:=uw (R:=R) (i:=i) (k:=6+g*16+t) (m:=278) (o:=12) (by omega);have eM:=ni A M hi (c:=12+(6+g*16+t)) (by omega) (by omega);rw[rq (by omega),I8 (by omega)] at eM
  have bp:=aeZ (C:=C) (xs:=xs) A M hi bc ee d (t+1) (v||decide ((0:Int)<(bl i (dt g+(1+t)):Int))) (by omega) (by
   rw[Bool.or_eq_true,hv,decide_eq_true_eq];constructor
   ·rintro (⟨j,h1,h2⟩|h1)
    ·exact⟨j,by omega,h2⟩
    ·exact⟨t,by omega,by omega⟩
   ·rintro ⟨j,h1,h2⟩
    by_cases e:j=t
    ·subst e;exact .inr (by omega)
    ·exact .inl ⟨j,by omega,h2⟩) f (by omega)
  rw[df];show E7 C lf (λx0 aG x8 x9 aU x11 ec h=>bk (BB C lf ee) f (x0,aG,x8,x9,aU,x11,ec) h) ee _ _ _ _ _ _ _ h=_;unfold E7;cases v with
  |true=>
   rw[Bool.true_or] at bp;simp only[aA,cP,cV,fh,a9,dr,iL];exact bp
  |false=>
   rw[Bool.false_or] at bp;simp only[aA,cP,cV,fh,a9,dr,bW,eM];exact bp
end
end
section
open Classical
section
variable{lf:Nat}{R:eE}{n N:Nat}{q:Nat->Option Nat}{b:Nat->Nat}{now:Int}{us:Nat->Bool}{i:Nat}
theorem Cg{n N:Nat}{on:Nat->Bool}{bl:Nat->Nat->Nat}(K:hX n N on bl)(fG:n<=4096)(hi:i<N){c:Nat}(h1:12<=c)(h2:c<308)(hv:0<bl i c):IntKind.i64.wrap ((bl i c:Int)-1)=((bl i c-1:Nat):Int):=by
 have:=K.le i c hi h1 h2
 rw[wrap_i64 (by omega) (by omega)];omega
theorem aoO{C:ad}{h:J}{on:Nat->Bool}{rd:Nat->Nat->U}{bl:Nat->Nat->Nat}{xs xg:O}(Fr:x6 C)(A:bE h R n N on q b now us rd)(M:dg N rd bl)(K:hX n N on bl)(hi:i<N){g:Nat}(bc:g<17)(fq:dp):
 ∃h' ds cw,SY C lf fq (some (.ptr R.rt 0)) (some (.ptr R.bs ((i+1)*308))) xs (some (I (g:Int))) (some (.bool (!hole bl i (dt g)))) xg h=
  fq (some (.ptr R.rt 0)) (some (.ptr R.bs ((i+1)*308))) xs (some (I (g:Int))) (some (.bool (!hole bl i (dt g)))) xg h'/\kr h h' R n N on ds q b now us rd cw bl i (λc=>c=dt g/\hole bl i (dt g)=true):=by
 have fG:n<=4096:=A.ref.v.choose_spec.choose_spec.2.2.ck;have bW:=uw (R:=R) (i:=i) (k:=g) (m:=17) (o:=290) bc;have eM:=ni A M hi (c:=290+g) (by omega) (by omega);have wX:=af5 bc;obtain⟨g1,g2⟩:=adv bc;rw[wX] at eM;unfold SY;cases cj:hole bl i (dt g) with
 |false=>
  refine⟨h,on,rd,?_,kr.refl A M K λc e=>by cases e.2⟩;simp only[aA,Bool.not_false,Bool.not_true,iL]
 |true=>
  by_cases hv:0<bl i (dt g)
  ·obtain⟨h1,h2,hz,jB,aP,s1,fW⟩:=Xu Fr A M K hi (c:=290+g) (by omega) (by omega) (by rw[wX];exact hv);rw[wX] at aP fW;have d1:decide ((0:Int)<(bl i (dt g):Int))=true:=bu (by omega);have jz:=Cg K fG hi g1 (by omega) hv;refine⟨h2,hz,jB,?_,fW.ext λc _ _=>⟨λe=>⟨e,rfl⟩,λe=>e.1⟩⟩;simp only[aA,Bool.not_false,Bool.not_true,bW,eM,d1,jz,aP,s1]
  ·have d1:decide ((0:Int)<(bl i (dt g):Int))=false:=br (by omega);refine⟨h,on,rd,?_,(kr.refl (S:=λ_=>False) A M K λ_ e=>e).wide (λ_ _ _ e=>e.elim) λc _ _ e=> .inr (by rw[e.1];omega)⟩;simp only[aA,Bool.not_false,Bool.not_true,bW,eM,d1]
theorem adD{C:ad}(gy:20<=lf)(Fr:x6 C)(hi:i<N)(ay:bK):∀(d g:Nat) (h:J) (on:Nat->Bool) (rd:Nat->Nat->U) (bl:Nat->Nat->Nat) (s:Bool),g+d=17->∀f,d<f->bE h R n N on q b now us rd->dg N rd bl->hX n N on bl->
 ∃h' ds cw fs,bk (w2 C lf ay) f (some (.ptr R.rt 0),some (.ptr R.bs ((i+1)*308)),some (.bool s),some (I (g:Int))) h=ay (some (.ptr R.rt 0)) (some (.ptr R.bs ((i+1)*308))) (some (.bool fs)) h'/\
  kr h h' R n N on ds q b now us rd cw bl i (DL bl i g)/\(fs=true↔(s=true\/∃e4,g<=e4/\e4<17/\0<e4/\hole bl i (dt e4)=false))
 |0,g,h,on,rd,bl,s,aI,f,au,A,M,K=>by
  obtain⟨f,rfl⟩:=dx f (by omega);have a9:decide ((g:Int)<17)=false:=br (by omega);refine⟨h,on,rd,s,?_,kr.refl A M K λc ⟨j,a,aC,_⟩=>by omega,⟨λe=> .inl e,λe=>e.elim id λ⟨j,a,aC,_⟩=>by omega⟩⟩;rw[df];unfold w2 E8 Kp;simp only[cf,b8,r0,a9];unfold Ko Kn;simp only[cf,b8,qs]
 |d+1,g,h,on,rd,bl,s,aI,f,au,A,M,K=>by
  obtain⟨f,rfl⟩:=dx f (by omega);have a9:decide ((g:Int)<17)=true:=bu (by omega);have cV:IntKind.i64.wrap ((g:Int)*16)=((g*16:Nat):Int):=cD (by omega);have fh:IntKind.i64.wrap ((6:Int)+((g*16:Nat):Int))=((6+g*16+0:Nat):Int):=cD (by omega);have dr:IntKind.i64.wrap ((g:Int)+1)=((g+1:Nat):Int):=cD (by omega);generalize ai:(λx0 aG x8 ec h=>bk (w2 C lf ay) f (x0,aG,x8,ec) h:bo)=kk;have pZ:∀x0 aG x8 ec h,kk x0 aG x8 ec h=bk (w2 C lf ay) f (x0,aG,x8,ec) h:=λ_ _ _ _ _=>by rw[<- ai]
  obtain⟨h1,hz,jB,aP,fW⟩:=aoO (lf:=lf) (C:=C) (xs:=some (.bool s)) (xg:=some (I (g:Int))) Fr A M K hi (g:=g) (by omega) (λx0 aG x8 x9 aU ec h=>SX C lf (λx0 aG x8 ec h=>Fb C lf kk x0 aG x8 ec h) x0 aG x8 x9 aU ec h);have ak:∀e4,hole (dE bl i λc=>c=dt g/\hole bl i (dt g)=true) i (dt e4)=hole bl i (dt e4):=λe4=>vf λt aN=>jb λe=>aov aN e.2.1.symm
  obtain⟨h2,k7,k9,s2,a1,qt,xR⟩:=adD gy Fr hi ay d (g+1) h1 hz jB _ (s||(decide (0<g)&&!hole bl i (dt g))) (by omega) f (by omega) fW.A fW.M fW.K;refine⟨h2,k7,k9,s2,?_,(fW.trans qt).ext λc _ _=>?_,?_⟩
  ·rw[df];show E8 C lf (λx0 aG x8 ec h=>bk (w2 C lf ay) f (x0,aG,x8,ec) h) ay _ _ _ _ h=_;rw[ai];unfold E8 Kp;simp only[cf,b8,r0,a9];unfold Ko Kn;simp only[cf,b8,sX];unfold SM SL SK;simp only[cf,b8];unfold SJ SI SH SG SF;simp only[cf,b8,N0,rZ,cV,fh];rw[aeZ A M hi (by omega) _ 16 0 false rfl ⟨λe=>(by cases e),λ⟨j,a,_⟩=>(by omega)⟩ lf (by omega)];unfold SZ;rw[aP];unfold SX
   have oe:decide ((0:Int)<(g:Int))=decide (0<g):=by
    by_cases e:0<g
    ·rw[bu e,bu (by omega)]
    ·rw[br e,br (by omega)]
   have fin:∀v:Bool,v=(s||(decide (0<g)&&!hole bl i (dt g)))->Fb C lf kk (some (.ptr R.rt 0)) (some (.ptr R.bs ((i+1)*308))) (some (.bool v)) (some (I (g:Int))) h1=ay (some (.ptr R.rt 0)) (some (.ptr R.bs ((i+1)*308))) (some (.bool s2)) h2:=λv e=>by
    subst e;unfold Fb;simp only[cf,b8,rZ,dr,pZ];exact a1
   cases s with
   |true=>
    simp only[aA,iL];exact fin true (by simp)
   |false=>
    by_cases e:0<g
    ·simp only[aA,oe,bu e];exact fin _ (by rw[bu e];simp)
    ·simp only[aA,oe,br e,iL];exact fin _ (by rw[br e];simp)
  ·unfold DL;constructor
   ·rintro (⟨e,bd⟩|⟨e4,aj,aC,a8,cF⟩)
    ·exact⟨g,Nat.le_refl _,by omega,e,bd⟩
    ·rw[ak] at cF;exact⟨e4,by omega,aC,a8,cF⟩
   ·rintro ⟨e4,aj,aC,a8,cF⟩
    by_cases e:e4=g
    ·subst e;exact .inl ⟨a8,cF⟩
    ·exact .inr ⟨e4,by omega,aC,a8,by rw[ak];exact cF⟩
  ·rw[xR,Bool.or_eq_true,Bool.and_eq_true,decide_eq_true_eq,Bool.not_eq_true'];simp only[ak];constructor
   ·rintro ((e|⟨e,bd⟩)|⟨e4,aj,aC,a8,cF⟩)
    ·exact .inl e
    ·exact .inr ⟨g,Nat.le_refl _,by omega,e,bd⟩
    ·exact .inr ⟨e4,by omega,aC,a8,cF⟩
   ·rintro (e|⟨e4,aj,aC,a8,cF⟩)
    ·exact .inl (.inl e)
    ·by_cases e:e4=g
     ·subst e;exact .inl (.inr ⟨a8,cF⟩)
     ·exact .inr ⟨e4,by omega,aC,a8,cF⟩
def rO(bl:Nat->Nat->Nat)(i:Nat):Prop:=∀u,u<16->bl i (36+17*u)=0->hole bl i (36+17*u)=true
def GZ(C:ad):Prop:=∀h R n N on q b now us rd bl i (k:Nat),bE h R n N on q b now us rd->dg N rd bl->hX n N on bl->i<N->k<=278->rO bl i->
 ∃h' ds cw,C (.fn 107) [.ptr R.rt 0,I ((i+1:Nat):Int),I (k:Int)] h=some (.ret (.bm []),h')/\kr h h' R n N on ds q b now us rd cw bl i (gP bl i k)
theorem aBj{C:ad}(gy:300<=lf)(Fr:x6 C){h:J}{on:Nat->Bool}{rd:Nat->Nat->U}{bl:Nat->Nat->Nat}{k:Nat}(A:bE h R n N on q b now us rd)(M:dg N rd bl)(K:hX n N on bl)(hi:i<N)(ai:k<=278)(aX:rO bl i):
 ∃h' ds cw,Dm C lf (.ptr R.rt 0) (I ((i+1:Nat):Int)) (I (k:Int)) h=some (.ret (.bm []),h')/\kr h h' R n N on ds q b now us rd cw bl i (gP bl i k):=by
 have fG:n<=4096:=A.ref.v.choose_spec.choose_spec.2.2.ck;obtain⟨cap,lo,cb⟩:=A.cb;obtain⟨h1,hz,jB,az,fW⟩:=Xt (lf:=lf) (C:=C) (R:=R) (n:=n) (N:=N) (q:=q) (b:=b) (now:=now) (us:=us) Fr (λx0 aG h=>Kq C lf AW x0 aG h) hi (278-k) k h on rd bl (by omega) lf (by omega) A M K;obtain⟨h2,k7,k9,s2,ay,qt,xR⟩:=adD (C:=C) (lf:=lf) (R:=R) (n:=n) (N:=N) (q:=q) (b:=b) (now:=now) (us:=us) (by omega) Fr hi (λx0 aG x8 h=>Fa C lf AW x0 aG x8 h) 17 0 h1 hz jB _ false (by omega) lf (by omega) fW.A fW.M fW.K;have vS:=fW.trans qt;have eM:=ni vS.A vS.M hi (c:=307) (by omega) (by omega);rw[zN] at eM
 have wN:dE bl i (λc=>hh k 278 c\/DL (dE bl i (hh k 278)) i 0 c) i 35=bl i 35:=jb λe=>by
  rcases e.2 with⟨j,_,aC,e⟩|⟨g,_,aC,e,_⟩
  ·exact(ur aC).2.1 e.symm
  ·unfold dt at e;split at e<;>omega
 have dW:∀c,12<=c->c<308->(((hh k 278 c\/DL (dE bl i (hh k 278)) i 0 c)\/(c=35/\s2=false))↔gP bl i k c):=λc _ _=>by
  have qZ:s2=false↔∀j,j<16->bl i (36+17*j)=0\/hc bl i k (36+17*j)=true:=by
   rw[<- Bool.not_eq_true,xR];constructor
   ·intro h j aa;refine .inr ?_;cases cj:hc bl i k (36+17*j) with
    |true=>rfl
    |false=>exact absurd (.inr ⟨j+1,by omega,by omega,by omega,by unfold dt;rw[if_neg (by omega),Nat.add_sub_cancel];exact cj⟩) h
   ·rintro h (e|⟨e4,_,aC,a8,cF⟩)
    ·cases e
    ·have n5:dt e4=36+17*(e4-1):=if_neg (by omega);rw[n5] at cF;rcases h (e4-1) (by omega) with e|e
     ·have h0:=pd.1 (aX _ (by omega) e)
      have h1:hole (dE bl i (hh k 278)) i (36+17*(e4-1))=true:=pd.2 λj aa=>by
       have:=h0 j aa
       unfold dE;split
       ·rfl
       ·exact this
      rw[h1] at cF;cases cF
     ·have h1:hole (dE bl i (hh k 278)) i (36+17*(e4-1))=true:=e;rw[h1] at cF;cases cF
  rw[qZ];unfold gP DL;constructor
  ·rintro ((e|⟨g,_,aC,a8,cF⟩)|⟨e,bd⟩)
   ·exact .inl e
   ·by_cases av:g=0
    ·subst av;exact .inr (.inl ⟨a8,cF⟩)
    ·have n5:dt g=36+17*(g-1):=if_neg av;rw[n5] at a8 cF;exact .inr (.inr (.inl ⟨g-1,by omega,a8,cF⟩))
   ·exact .inr (.inr (.inr ⟨e,bd⟩))
  ·rintro (e|⟨e,bd⟩|⟨j,aj,aC,a8⟩|⟨e,bd⟩)
   ·exact .inl (.inl e)
   ·exact .inl (.inr ⟨0,by omega,by omega,e,bd⟩)
   ·have n5:dt (j+1)=36+17*j:=by unfold dt;rw[if_neg (by omega),Nat.add_sub_cancel]
    exact .inl (.inr ⟨j+1,by omega,by omega,by rw[n5];exact aC,by rw[n5];exact a8⟩)
   ·exact .inr ⟨e,bd⟩
 have pre:Dm C lf (.ptr R.rt 0) (I ((i+1:Nat):Int)) (I (k:Int)) h=Fa C lf AW (some (.ptr R.rt 0)) (some (.ptr R.bs ((i+1)*308))) (some (.bool s2)) h2:=by
  unfold Dm SW SV;simp only[aA,cb,l6 (R:=R) (N:=N) (i:=i+1) (cap:=cap) (lo:=lo) (by omega)];unfold SU SS SR;simp only[cf,b8];rw[az];unfold Kq SQ SP SO SN;exact ay
 rw[pre];unfold Fa AW;cases s2 with
 |true=>
  refine⟨h2,k7,k9,?_,vS.ext λc h1 h2=>?_⟩
  ·simp only[aA,Bool.not_true,iL]
  ·rw[<- dW c h1 h2];exact⟨λe=> .inl e,λe=>e.elim id λx=>by cases x.2⟩
 |false=>
  by_cases hv:0<bl i 35
  ·obtain⟨h3,aT,xb,Xs,cm,ea,YF⟩:=Xu Fr vS.A vS.M vS.K hi (c:=307) (by omega) (by omega) (by rw[zN,wN];exact hv);have d1:decide ((0:Int)<(bl i 35:Int))=true:=bu (by omega);have jz:=Cg K fG hi (c:=35) (by omega) (by omega) hv;rw[wN] at eM;rw[zN,wN] at cm;rw[zN] at YF;refine⟨aT,xb,Xs,?_,(vS.trans YF).ext λc h1 h2=>?_⟩
   ·simp only[aA,Bool.not_false,eM,d1,jz,cm,ea]
   ·rw[<- dW c h1 h2];exact⟨λe=>e.elim .inl λx=> .inr ⟨x,rfl⟩,λe=>e.elim .inl λx=> .inr x.1⟩
  ·have d1:decide ((0:Int)<(bl i 35:Int))=false:=br (by omega);rw[wN] at eM;refine⟨h2,k7,k9,?_,vS.wide (λc h1 h2 e=>(dW c h1 h2).1 (.inl e)) λc h1 h2 e=>?_⟩
   ·simp only[aA,Bool.not_false,eM,d1]
   ·rcases(dW c h1 h2).2 e with e|⟨e,_⟩
    ·exact .inl e
    ·subst e;exact .inr (by omega)
end
end
section
open Classical
theorem Ka(b:Nat->Nat)(a m:Nat):over b a (List.replicate m 0)=λt=>if a<=t/\t<a+m then 0 else b t:=by
 funext t
 unfold over;rw[List.length_replicate];by_cases e:a<=t/\t<a+m
 ·rw[if_pos e,if_pos e];simp[List.getD,List.getElem?_replicate];split<;>rfl
 ·rw[if_neg e,if_neg e]
theorem asJ(b:Nat->Nat)(a m:Nat):over (over b a [0]) (a+1) (List.replicate m 0)=over b a (List.replicate (m+1) 0):=by
 have h1:([0]:List Nat)=List.replicate 1 0:=rfl;rw[h1,Ka,Ka,Ka]
 funext t
 by_cases az:a+1<=t/\t<a+1+m
 ·rw[if_pos az,if_pos (by omega)]
 ·rw[if_neg az];show(if a<=t/\t<a+1 then 0 else b t)=_;by_cases ay:a<=t/\t<a+1
  ·rw[if_pos ay,if_pos (by omega)]
  ·rw[if_neg ay,if_neg (by omega)]
theorem aCo{C:ad}{lf:Nat}{r:aw}{x0 x1 x2:O}{h:J}:Xa C lf r x0 x1 x2 h=LC C lf (λx0 x1 x2 h=>LB C lf r x0 x1 x2 h) r x0 x1 x2 h:=rfl
theorem ahV{C:ad}{lf:Nat}{fq:bK}{x0 x2 x7:O}{h:J}:Xg C lf fq x0 x2 x7 h=fq x0 x2 x7 h:=rfl
section
variable{lf:Nat}{R:eE}{n N:Nat}{on:Nat->Bool}{q:Nat->Option Nat}{now:Int}{us:Nat->Bool}{rd:Nat->Nat->U}{i:Nat}
theorem ahU{C:ad}{x0 x2 x7:O}{j bR:Nat}{xr:U}(aa:j<n)(e5:on j=true)(a2:q j=some bR)(av:bK):∀(d p:Nat),p+d=64->∀f,d<f->∀h b,bE h R n N on q b now us rd->h.cell R.rb j=some xr->
 ∃h',bk (BR C lf av) f (x0,x2,x7,some xr,some (I (p:Int))) h=av x0 x2 x7 h'/\bE h' R n N on q (over b (j*64+p) (List.replicate d 0)) now us rd/\aD h h' (· =bR)
 |0,p,aB,f,au,h,b,A,ae=>by
  obtain⟨f,rfl⟩:=dx f (by omega);have a9:decide ((p:Int)<64)=false:=br (by omega);refine⟨h,?_,?_,aD.refl _ _⟩
  ·rw[df];unfold BR FN;simp only[aA,a9]
  ·have e:over b (j*64+p) (List.replicate 0 0)=b:=by
    rw[Ka];funext t;exact if_neg (by omega)
   rw[e];exact A
 |d+1,p,aB,f,au,h,b,A,ae=>by
  obtain⟨f,rfl⟩:=dx f (by omega);have a9:decide ((p:Int)<64)=true:=bu (by omega);have dr:IntKind.i64.wrap ((p:Int)+1)=((p+1:Nat):Int):=cD (by omega);obtain⟨x1,ajv,By,bM,cz,fr,nI,zK,Se,Sf⟩:=A.Sk (j:=j) (p:=p) (v:=0) aa e5 (by omega) (by omega);have anX:ajv=xr:=Option.some.inj (fr.symm.trans ae);have anw:By=bR:=Option.some.inj (nI.symm.trans a2);subst anX anw
  have Ea:By≠R.rb:=by
   obtain⟨y0,y1,_,_,V⟩:=A.ref.v;exact(V.has j By aa a2).2.1
  obtain⟨h2,ay,dh,bw⟩:=ahU (C:=C) (x0:=x0) (x2:=x2) (x7:=x7) aa e5 a2 av d (p+1) (by omega) f (by omega) _ _ Sf (by rw[ep (.inl (Ne.symm Ea))];exact ae);refine⟨h2,?_,?_,(fj (S:=(· =By)) rfl).trans bw⟩
  ·rw[df];show FN C lf (λx0 x2 x7 x8 x9 h=>bk (BR C lf av) f (x0,x2,x7,x8,x9) h) av x0 x2 x7 (some ajv) (some (I (p:Int))) h=_;unfold FN;have asM:st 1 (.ptr By p) (.int .u8 0) h=some (h.set By p [.int .u8 0]):=Se;simp only[cf,b8,r0,a9,sX,zK,asM,rZ,dr];exact ay
  ·rw[<- Nat.add_assoc,asJ] at dh;exact dh
structure GY (h h':J) (R:eE) (n N:Nat) (on:Nat->Bool) (q:Nat->Option Nat) (b:Nat->Nat) (now:Int) (us:Nat->Bool) (rd:Nat->Nat->U) (bl:Nat->Nat->Nat) (i sz:Nat) (ds:Nat->Bool) (cw:Nat->Nat->U):Prop where
 A:bE h' R n N ds q (l9 b (dE bl i (gP bl i ((sz+63)/64))) i sz) now us (grown cw (i+1) sz now)
 M:dg N cw (dE bl i (gP bl i ((sz+63)/64)))
 L:∀i' c,c<12->cw i' c=rd i' c
 O:∀j,ds j=true↔(on j=true/\∀c,12<=c->c<308->gP bl i ((sz+63)/64) c->bl i c≠j+1)
 F:aD h h' (λj=>j=R.ro\/j=R.bs\/∃u,q u=some j)
def G9(C:ad):Prop:=∀h R n N on q b now us rd bl (ino sz:Int),bE h R n N on q b now us rd->dg N rd bl->hX n N on bl-> -9223372036854775808<=sz->sz<9223372036854775808->
 (c7 N us ino=false->C (.fn 96) [.ptr R.rt 0,I ino,I sz] h=some (.ret (I 2),h))/\
 (∀i,iv N us ino i->rO bl i->(sz<0->C (.fn 96) [.ptr R.rt 0,I ino,I sz] h=some (.ret (I 22),h))/\
   (17792<sz->C (.fn 96) [.ptr R.rt 0,I ino,I sz] h=some (.ret (I 27),h))/\
   (0<=sz->sz<=17792->∃h' ds cw,C (.fn 96) [.ptr R.rt 0,I ino,I sz] h=some (.ret (I 0),h')/\GY h h' R n N on q b now us rd bl i sz.toNat ds cw))
theorem aCm{C:ad}{h:J}{b:Nat->Nat}(A:bE h R n N on q b now us rd)(hi:i<N){sz:Nat}(r:aw):
 ∃h',zT C lf r (some (.ptr R.rt 0)) (some (I (sz:Int))) (some (.ptr R.bs ((i+1)*308))) h=r (some (I 0)) h'/\bE h' R n N on q b now us (grown rd (i+1) sz now)/\aD h h' (· =R.bs):=by
 obtain⟨h1,s1,bX,cA,aL⟩:=kK A (i:=i+1) (c:=5) (by omega) (by omega) (by omega) (sz:Int);obtain⟨h2,s2,dh,ck,bw⟩:=kK bX (i:=i+1) (c:=9) (by omega) (by omega) (by omega) now;obtain⟨h3,ea,ft,e6,c2⟩:=kK dh (i:=i+1) (c:=10) (by omega) (by omega) (by omega) now;have iI:(i+1)*308+1+4=(i+1)*308+5:=rfl;have pT:(i+1)*308+1+8=(i+1)*308+9:=rfl;have j7:(i+1)*308+1+9=(i+1)*308+10:=rfl;refine⟨h3,?_,ft,(aL.trans bw).trans c2⟩;unfold zT;simp only[aA,bX.cm,iI,pT,j7,s1,s2,ea]
theorem aCn{C:ad}(gy:300<=lf)(hO:pJ C)(MW:GZ C){h:J}{b:Nat->Nat}{bl:Nat->Nat->Nat}{ino sz:Int}(A:bE h R n N on q b now us rd)(M:dg N rd bl)(K:hX n N on bl)(dv: -9223372036854775808<=sz)(cy:sz<9223372036854775808):
 (c7 N us ino=false->yG C lf (.ptr R.rt 0) (I ino) (I sz) h=some (.ret (I 2),h))/\
 (∀i,iv N us ino i->rO bl i->(sz<0->yG C lf (.ptr R.rt 0) (I ino) (I sz) h=some (.ret (I 22),h))/\
   (17792<sz->yG C lf (.ptr R.rt 0) (I ino) (I sz) h=some (.ret (I 27),h))/\
   (0<=sz->sz<=17792->∃h' ds cw,yG C lf (.ptr R.rt 0) (I ino) (I sz) h=some (.ret (I 0),h')/\GY h h' R n N on q b now us rd bl i sz.toNat ds cw)):=by
 have dA:=hO h R n N on q b now us rd ino A;have fG:n<=4096:=A.ref.v.choose_spec.choose_spec.2.2.ck;obtain⟨cap,lo,cb⟩:=A.cb;unfold yG;rw[aCo];unfold LC;refine⟨λag=>?_,λi bT aX=>?_⟩
 ·rw[ag] at dA;unfold qG;simp only[aA,dA,Bool.not_false]
 ·rw[bT.yes] at dA;obtain⟨hi,hu,rfl⟩:=bT;simp only[aA,dA,Bool.not_true];unfold LB W9;refine⟨λh1=>?_,λh1=>?_,λh1 h2=>?_⟩
  ·unfold qG;simp only[aA,bu h1]
  ·have d1:decide (sz<0)=false:=br (by omega);simp only[aA,d1];unfold FM LA qG;simp only[aA,bu h1]
  ·obtain⟨z,rfl⟩:∃z:Nat,sz=z:=⟨sz.toNat,by omega⟩;rw[Int.toNat_natCast];have d1:decide ((z:Int)<0)=false:=br (by omega);have d2:decide ((17792:Int)<(z:Int))=false:=br (by omega);have cP:IntKind.i64.wrap ((z:Int)+64)=((z+64:Nat):Int):=cD (by omega);have cV:IntKind.i64.wrap (((z+64:Nat):Int)-1)=((z+63:Nat):Int):=cD (by omega)
   have fh:IntKind.i64.wrap (((z+63:Nat):Int).tdiv 64)=(((z+63)/64:Nat):Int):=by
    rw[Int.tdiv_eq_ediv_of_nonneg (by omega),wrap_i64 (by omega) (by omega)];rfl
   have aQ:(z:Int).tmod 64=((z%64:Nat):Int):=by
    rw[Int.tmod_eq_emod_of_nonneg (by omega)];rfl
   have a2:IntKind.i64.wrap ((z:Int).tdiv 64)=((z/64:Nat):Int):=by
    rw[Int.tdiv_eq_ediv_of_nonneg (by omega),wrap_i64 (by omega) (by omega)];rfl
   obtain⟨h1,hz,jB,aP,fW⟩:=MW h R n N on q b now us rd bl i ((z+63)/64) A M K hi (by omega) aX
   have pre:∀P:ab->Prop,P (LD C lf (λx0 x2 x7 Yi h=>Cb C lf (λx0 x2 x7 h=>zT C lf qG x0 x2 x7 h) x0 x2 x7 Yi h) (some (.ptr R.rt 0)) (some (I (z:Int))) (some (.ptr R.bs ((i+1)*308))) h1)->
    P (ob (some (U.int .i64 (z:Int))) λakG=>ob (bin ao .lss 3 akG (I 0)) λaFe=>gn aFe (qG (some (I 22)) h) (FM C lf qG (some (.ptr R.rt 0)) (some (I ((i+1:Nat):Int))) (some (I (z:Int))) h)):=λP tI=>by
    simp only[aA,d1];unfold FM LA;simp only[aA,d2];unfold Xm Xl;simp only[aA,cb,l6 (R:=R) (N:=N) (i:=i+1) (cap:=cap) (lo:=lo) (by omega)];unfold Xk Xj;simp only[aA,cP,cV,lV (show(64:Int)≠0 by omega),fh,aP];unfold Xi Xh;exact tI
   have fin:∀h2 b2,bE h2 R n N hz q b2 now us jB->b2=l9 b (dE bl i (gP bl i ((z+63)/64))) i z->aD h1 h2 (λj=>∃u,q u=some j)->∃h' ds cw,zT C lf qG (some (.ptr R.rt 0)) (some (I (z:Int))) (some (.ptr R.bs ((i+1)*308))) h2=some (.ret (I 0),h')/\GY h h' R n N on q b now us rd bl i z ds cw:=λh2 b2 dh Ow bw=>by
    subst Ow;obtain⟨h3,b9,ft,c2⟩:=aCm (lf:=lf) (C:=C) dh hi (sz:=z) qG;refine⟨h3,hz,jB,?_,ft,fW.M,fW.L,fW.O,((fW.F.ei λj e=>?_).trans (bw.ei λj e=> .inr (.inr e))).trans (c2.ei λj e=> .inr (.inl e))⟩
    ·rw[b9];unfold qG;simp only[cf,b8]
    ·rcases e with e|e
     ·exact .inl e
     ·exact .inr (.inl e)
   refine pre (λr=>∃h' ds cw,r=some (.ret (I 0),h')/\GY h h' R n N on q b now us rd bl i z ds cw) ?_;unfold LD;by_cases aeJ:0<z%64
   ·have d3:decide ((0:Int)<((z%64:Nat):Int))=true:=bu (by omega);have ai:z/64<278:=by omega
    have bW:=uw (R:=R) (i:=i) (k:=z/64) (m:=278) (o:=12) ai;have eM:=ni fW.A fW.M hi (c:=12+z/64) (by omega) (by omega);rw[rq ai] at eM;by_cases hv:0<dE bl i (gP bl i ((z+63)/64)) i (a5 (z/64))
    ·generalize Rl:dE bl i (gP bl i ((z+63)/64)) i (a5 (z/64))=v at *;have d4:decide ((0:Int)<(v:Int))=true:=bu (by omega);have hle:=fW.K.le i (a5 (z/64)) hi rn (sI ai);have e5:=fW.K.on i (a5 (z/64)) hi rn (sI ai) (by rw[Rl];exact hv);rw[Rl] at hle e5;have ak:IntKind.i64.wrap ((v:Int)-1)=((v-1:Nat):Int):=cD (by omega);obtain⟨x1,xr,bR,bM,cz,fr,nI,_⟩:=fW.A.Sk (j:=v-1) (p:=0) (v:=0) (by omega) e5 (by omega) (by omega);obtain⟨h2,ay,dh,bw⟩:=ahU (C:=C) (lf:=lf) (x0:=some (.ptr R.rt 0)) (x2:=some (I (z:Int))) (x7:=some (.ptr R.bs ((i+1)*308))) (by omega) e5 nI (λx0 x2 x7 h=>zT C lf qG x0 x2 x7 h) (64-z%64) (z%64) (by omega) lf (by omega) h1 b fW.A fr;simp only[aA,ih (show(64:Int)≠0 by omega),aQ,d3,lV (show(64:Int)≠0 by omega),a2,bW,eM,d4];unfold Cb;simp only[cf,b8,sX];unfold Xf Xd;simp only[aA,bM,lV (show(64:Int)≠0 by omega),a2,bW,eM,ak,cz,fr];unfold Xc Xb;simp only[cf,b8,ih (show(64:Int)≠0 by omega),aQ];rw[ay];refine fin h2 _ dh ?_ (bw.ei λj e=>⟨v-1,by rw[e];exact nI⟩);unfold l9;rw[Rl,if_pos ⟨aeJ,hv⟩]
    ·have d4:decide ((0:Int)<(dE bl i (gP bl i ((z+63)/64)) i (a5 (z/64)):Int))=false:=br (by omega);simp only[aA,ih (show(64:Int)≠0 by omega),aQ,d3,lV (show(64:Int)≠0 by omega),a2,bW,eM,d4];unfold Cb;simp only[cf,b8,qs];rw[ahV];refine fin h1 _ fW.A ?_ (aD.refl _ _);unfold l9;rw[if_neg λe=>hv e.2]
   ·have d3:decide ((0:Int)<((z%64:Nat):Int))=false:=br (by omega);simp only[aA,ih (show(64:Int)≠0 by omega),aQ,d3,iL];unfold Cb;simp only[cf,b8,qs];rw[ahV];refine fin h1 _ fW.A ?_ (aD.refl _ _);unfold l9;rw[if_neg λe=>aeJ e.1]
end
end
section
open Classical
def ya(i:Nat)(L H:Int)(on ds:Nat->Bool)(us eh:Nat->Bool)(rd cw:Nat->Nat->U)(bl bl':Nat->Nat->Nat):Prop:=
 ((L≠0\/H≠0)/\ds=on/\eh=us/\cw=rd/\bl'=bl)\/
 (L=0/\H=0/\eh=da us i false/\(∀i' c,c<12->cw i' c=iE rd (i+1) fJ i' c)/\bl'=nu bl i/\∀j,ds j=true↔(on j=true/\∀c,12<=c->c<308->bl i c≠j+1))
section
variable{lf:Nat}{h:J}{R:eE}{n N:Nat}{on:Nat->Bool}{q:Nat->Option Nat}{b:Nat->Nat}{now:Int}{us:Nat->Bool}{rd:Nat->Nat->U}{bl:Nat->Nat->Nat}{i:Nat}{ino:Int}
theorem bE.setRow(A:bE h R n N on q b now us rd)(hi:i<N){g:Nat->U}{v:Bool}(h0:g 0= .bool v):bE (h.set R.bs ((i+1)*308) (fa g)) R n N on q b now (da us i v) (iE rd (i+1) g):=by
 have aJ:(fa g).length=308:=by rw[fa,List.length_map,List.length_range]
 have ag:(i+1)*308+(fa g).length<=(N+1)*308:=by rw[aJ];omega
 have F:aD h (h.set R.bs ((i+1)*308) (fa g)) (· =R.bs):=fj rfl;have st:ct h (h.set R.bs ((i+1)*308) (fa g)) R.rt:=F.same _ A.ref.lt (λe=>A.d1 e.symm);refine⟨A.nU,A.gH,A.ref.gQ F λj aa=>?_,by rw[st.cell];exact A.a1,by rw[st.cell];exact A.cm,let ⟨cap,lo,e⟩:=A.cb;⟨cap,lo,by rw[st.cell];exact e⟩,eP A.wt st,dY A.wl,λi' a4 cH fk=>?_,λi' cH=>?_,A.d1,A.d2,A.d3,A.d4,by rw[dz];exact A.hg,λc ae=>by rw[oH _ _ _ (by omega)];exact A.sY c ae⟩
 ·rcases aa with rfl|rfl|rfl|⟨t,aN,e⟩
  ·exact λe=>A.d1 e.symm
  ·exact λe=>A.d2 e.symm
  ·exact λe=>A.d3 e.symm
  ·exact A.d4 t _ aN e
 ·by_cases e:i'=i+1
  ·subst e;rw[fZ A.wl ag (Nat.le_add_right _ _) (by rw[aJ];exact Nat.add_lt_add_left fk _),pv,Nat.add_sub_cancel_left];simp[fa,fk]
  ·rw[ep (.inr (by rw[aJ];omega)),oH _ _ _ e];exact A.j6 i' a4 cH fk
 ·by_cases e:i'=i
  ·subst e;rw[pv,jE,h0]
  ·rw[oH _ _ _ (by omega),ho _ _ e];exact A.kN i' cH
theorem ahT(A:bE h R n N on q b now us rd)(hi:i<N){g:Nat->U}(bc:dB (fa g)=true):st 308 (.ptr R.bs ((i+1)*308)) (.agg (fa g)) h=some (h.set R.bs ((i+1)*308) (fa g)):=by
 have aJ:(fa g).length=308:=by rw[fa,List.length_map,List.length_range]
 exact gN (n:=308) (off:=(i+1)*308) (y:= .agg (fa g)) A.wl aJ (by omega) bc
def G0(C:ad):Prop:=∀h R n N on q b now us rd bl i (L H:Int),bE h R n N on q b now us rd->dg N rd bl->hX n N on bl->i<N->rO bl i->rd (i+1) 2=I L->rd (i+1) 11=I H->
 ∃h' ds eh cw bl',C (.fn 109) [.ptr R.rt 0,I ((i+1:Nat):Int)] h=some (.ret (.bm []),h')/\bE h' R n N ds q b now eh cw/\dg N cw bl'/\ya i L H on ds us eh rd cw bl bl'/\aD h h' (λj=>j=R.ro\/j=R.bs)
theorem aBI{C:ad}(MW:GZ C)(A:bE h R n N on q b now us rd)(M:dg N rd bl)(K:hX n N on bl)(hi:i<N)(aX:rO bl i){L H:Int}(hx:rd (i+1) 2=I L)(iN:rd (i+1) 11=I H):
 ∃h' ds eh cw bl',Ii C lf (.ptr R.rt 0) (I ((i+1:Nat):Int)) h=some (.ret (.bm []),h')/\bE h' R n N ds q b now eh cw/\dg N cw bl'/\ya i L H on ds us eh rd cw bl bl'/\aD h h' (λj=>j=R.ro\/j=R.bs):=by
 obtain⟨cap,lo,cb⟩:=A.cb;have ax:=l6 (R:=R) (N:=N) (i:=i+1) (cap:=cap) (lo:=lo) (by omega);have k2:=A.j6 (i+1) 2 (by omega) (by omega);have zm:=A.j6 (i+1) 11 (by omega) (by omega);rw[hx] at k2;rw[iN] at zm;have ay:(i+1)*308+1+1=(i+1)*308+2:=rfl;unfold Ii S1 OU;by_cases apa:L=0/\H=0
 ·obtain⟨ss,ov⟩:=apa;obtain⟨h1,hz,jB,aP,fW⟩:=MW h R n N on q b now us rd bl i 0 A M K hi (by omega) aX;have wo:C (.fn 107) [.ptr R.rt 0,I ((i+1:Nat):Int),I 0] h=some (.ret (.bm []),h1):=aP;obtain⟨lr,kF,al9⟩:=fW.A.cb;have p3:=l6 (R:=R) (N:=N) (i:=i+1) (cap:=lr) (lo:=kF) (by omega);have my:gM ao 156 [] []=some (.agg (fa fJ)):=by kernel_rfl
  have dc:=ahT fW.A hi (g:=fJ) (by kernel_rfl);refine⟨_,hz,_,_,_,?_,fW.A.setRow hi (g:=fJ) (v:=false) rfl,λi' c cH dF ae=>?_,.inr ⟨ss,ov,rfl,λi' c ae=>?_,rfl,λj=>?_⟩,fW.F.trans (fj (.inr rfl))⟩
  ·simp only[aA,cb,ax,ay,k2,bu ss,zm,bu ov,wo,al9,p3,my,dc]
  ·obtain⟨bM,cz⟩:=Kc dF ae;by_cases e:i'=i
   ·subst e;have av:fJ c=I 0:=if_neg (by omega);rw[pv,av];unfold nu;rw[if_pos rfl];rfl
   ·rw[oH _ _ _ (by omega),fW.M i' c cH dF ae,jb (λx=>e x.1)];unfold nu;rw[if_neg e]
  ·by_cases e:i'=i+1
   ·subst e;rw[pv,pv]
   ·rw[oH _ _ _ e,oH _ _ _ e,fW.L i' c ae]
  ·rw[fW.O];exact⟨λx=>⟨x.1,λc h1 h2=>x.2 c h1 h2 (Oi h1 h2)⟩,λx=>⟨x.1,λc h1 h2 _=>x.2 c h1 h2⟩⟩
 ·have ca:L≠0\/H≠0:=by omega
  refine⟨h,on,us,rd,bl,?_,A,M,.inl ⟨ca,rfl,rfl,rfl,rfl⟩,aD.refl _ _⟩;by_cases ss:L=0
  ·have ov:decide (H=0)=false:=br (by omega);simp only[aA,cb,ax,ay,k2,bu ss,zm,ov]
  ·simp only[aA,cb,ax,ay,k2,br ss,iL]
def G4(C:ad):Prop:=∀h R n N on q b now us rd bl (ino:Int),bE h R n N on q b now us rd->dg N rd bl->hX n N on bl->
 (c7 N us ino=false->C (.fn 100) [.ptr R.rt 0,I ino] h=some (.ret (I 2),h))/\
 (∀i L H,iv N us ino i->rO bl i->rd (i+1) 2=I L->rd (i+1) 11=I H->(H=0->C (.fn 100) [.ptr R.rt 0,I ino] h=some (.ret (I 22),h))/\
   (H≠0->∃h' ds eh cw bl',C (.fn 100) [.ptr R.rt 0,I ino] h=some (.ret (I 0),h')/\bE h' R n N ds q b now eh cw/\dg N cw bl'/\
     ya i L (IntKind.i64.wrap (H-1)) on ds us eh (cU rd (i+1) 11 (I (IntKind.i64.wrap (H-1)))) cw bl bl'/\aD h h' (λj=>j=R.ro\/j=R.bs)))
theorem dg.off(M:dg N rd bl){i c:Nat}{y:U}(ae:c<12):dg N (cU rd i c y) bl:=λi' a4 cH n9 fk=>by
 rw[hn _ _ (by omega)];exact M i' a4 cH n9 fk
theorem aCc{C:ad}(hO:pJ C)(Go:G0 C)(A:bE h R n N on q b now us rd)(M:dg N rd bl)(K:hX n N on bl):
 (c7 N us ino=false->A2 C lf (.ptr R.rt 0) (I ino) h=some (.ret (I 2),h))/\
 (∀i L H,iv N us ino i->rO bl i->rd (i+1) 2=I L->rd (i+1) 11=I H->(H=0->A2 C lf (.ptr R.rt 0) (I ino) h=some (.ret (I 22),h))/\
   (H≠0->∃h' ds eh cw bl',A2 C lf (.ptr R.rt 0) (I ino) h=some (.ret (I 0),h')/\bE h' R n N ds q b now eh cw/\dg N cw bl'/\
     ya i L (IntKind.i64.wrap (H-1)) on ds us eh (cU rd (i+1) 11 (I (IntKind.i64.wrap (H-1)))) cw bl bl'/\aD h h' (λj=>j=R.ro\/j=R.bs))):=by
 have dA:=hO h R n N on q b now us rd ino A;obtain⟨cap,lo,cb⟩:=A.cb;unfold A2 Sm OO;refine⟨λag=>?_,λi L H bT aX hx iN=>?_⟩
 ·rw[ag] at dA;simp only[aA,dA,Bool.not_false]
 ·rw[bT.yes] at dA;obtain⟨hi,hu,rfl⟩:=bT;have ax:=l6 (R:=R) (N:=N) (i:=i+1) (cap:=cap) (lo:=lo) (by omega);have zm:=A.j6 (i+1) 11 (by omega) (by omega);rw[iN] at zm;refine⟨λh0=>?_,λh0=>?_⟩
  ·simp only[aA,dA,Bool.not_true,cb,ax,zm,bu h0]
  ·obtain⟨h1,s1,bX,cA,aL⟩:=kK A (i:=i+1) (c:=11) (by omega) (by omega) (by omega) (IntKind.i64.wrap (H-1));obtain⟨h2,ds,eh,cw,bl',a1,dh,M2,nm,bw⟩:=Go h1 R n N on q b now us _ bl i L (IntKind.i64.wrap (H-1)) bX (M.off (by omega)) K hi aX (by rw[hn _ _ (by omega)];exact hx) (mO ..);refine⟨h2,ds,eh,cw,bl',?_,dh,M2,nm,(aL.ei λ_ e=> .inr e).trans bw⟩;simp only[aA,dA,Bool.not_true,cb,ax,zm,br h0,s1,a1]
def G3(C:ad):Prop:=∀h R n N on q b now us rd bl (ino by_:Int),bE h R n N on q b now us rd->dg N rd bl->hX n N on bl->
 (c7 N us ino=false->C (.fn 98) [.ptr R.rt 0,I ino,I by_] h=some (.ret (I 2),h))/\
 (∀i L H,iv N us ino i->rO bl i->rd (i+1) 2=I L->0<=L->L<=16->rd (i+1) 11=I H->(by_ < -L->C (.fn 98) [.ptr R.rt 0,I ino,I by_] h=some (.ret (I 22),h))/\
   (16-L<by_->C (.fn 98) [.ptr R.rt 0,I ino,I by_] h=some (.ret (I 31),h))/\
   (-L<=by_->by_<=16-L->∃h' ds eh cw bl',C (.fn 98) [.ptr R.rt 0,I ino,I by_] h=some (.ret (I 0),h')/\bE h' R n N ds q b now eh cw/\dg N cw bl'/\
     ya i (L+by_) H on ds us eh (cU (cU rd (i+1) 2 (I (L+by_))) (i+1) 10 (I now)) cw bl bl'/\aD h h' (λj=>j=R.ro\/j=R.bs)))
theorem aBN{C:ad}(hO:pJ C)(Go:G0 C){by_:Int}(A:bE h R n N on q b now us rd)(M:dg N rd bl)(K:hX n N on bl):
 (c7 N us ino=false->yH C lf (.ptr R.rt 0) (I ino) (I by_) h=some (.ret (I 2),h))/\
 (∀i L H,iv N us ino i->rO bl i->rd (i+1) 2=I L->0<=L->L<=16->rd (i+1) 11=I H->(by_ < -L->yH C lf (.ptr R.rt 0) (I ino) (I by_) h=some (.ret (I 22),h))/\
   (16-L<by_->yH C lf (.ptr R.rt 0) (I ino) (I by_) h=some (.ret (I 31),h))/\
   (-L<=by_->by_<=16-L->∃h' ds eh cw bl',yH C lf (.ptr R.rt 0) (I ino) (I by_) h=some (.ret (I 0),h')/\bE h' R n N ds q b now eh cw/\dg N cw bl'/\
     ya i (L+by_) H on ds us eh (cU (cU rd (i+1) 2 (I (L+by_))) (i+1) 10 (I now)) cw bl bl'/\aD h h' (λj=>j=R.ro\/j=R.bs))):=by
 have dA:=hO h R n N on q b now us rd ino A;obtain⟨cap,lo,cb⟩:=A.cb;unfold yH Xp PJ;refine⟨λag=>?_,λi L H bT aX hx ao8 ao9 iN=>?_⟩
 ·rw[ag] at dA;simp only[aA,dA,Bool.not_false]
 ·rw[bT.yes] at dA;obtain⟨hi,hu,rfl⟩:=bT;have ax:=l6 (R:=R) (N:=N) (i:=i+1) (cap:=cap) (lo:=lo) (by omega);have k2:=A.j6 (i+1) 2 (by omega) (by omega);rw[hx] at k2;have ay:(i+1)*308+1+1=(i+1)*308+2:=rfl;have j7:(i+1)*308+1+9=(i+1)*308+10:=rfl;have cP:IntKind.i64.wrap (-L)= -L:=by rw[wrap_i64 (by omega) (by omega)]
  have cV:IntKind.i64.wrap (16-L)=16-L:=by rw[wrap_i64 (by omega) (by omega)]
  refine⟨λh1=>?_,λh1=>?_,λh1 h2=>?_⟩
  ·simp only[aA,dA,Bool.not_true,cb,ax,ay,k2,Cl,cP,bu h1]
  ·have h0:decide (by_ < -L)=false:=br (by omega);simp only[aA,dA,Bool.not_true,cb,ax,ay,k2,Cl,cP,cV,h0,bu h1]
  ·have h0:decide (by_ < -L)=false:=br (by omega);have h3:decide (16-L<by_)=false:=br (by omega);have fh:IntKind.i64.wrap (L+by_)=L+by_:=by rw[wrap_i64 (by omega) (by omega)]
   obtain⟨g1,s1,bX,cA,aL⟩:=kK A (i:=i+1) (c:=2) (by omega) (by omega) (by omega) (L+by_);obtain⟨g2,s2,dh,ck,bw⟩:=kK bX (i:=i+1) (c:=10) (by omega) (by omega) (by omega) now;obtain⟨g3,ds,eh,cw,bl',cm,ft,M9,MZ,c2⟩:=Go g2 R n N on q b now us _ bl i (L+by_) H dh ((M.off (by omega)).off (by omega)) K hi aX (by rw[hn _ _ (by omega),mO]) (by rw[hn _ _ (by omega),hn _ _ (by omega)];exact iN);refine⟨g3,ds,eh,cw,bl',?_,ft,M9,MZ,((aL.trans bw).ei λ_ e=> .inr e).trans c2⟩;simp only[aA,dA,Bool.not_true,cb,ax,ay,j7,k2,Cl,cP,cV,fh,h0,h3,s1,bX.cm,s2,cm]
end
end
theorem alT{x m:BitVec 64}:(x&&& ~~~m)=0#64↔x&&& m=x:=by
 constructor
 ·intro h;apply BitVec.eq_of_getLsbD_eq;intro i hi;have h1:(x&&& ~~~m).getLsbD i=false:=by rw[h];simp
  rw[BitVec.getLsbD_and,BitVec.getLsbD_not] at h1;rw[BitVec.getLsbD_and];cases ax:x.getLsbD i<;>cases hm:m.getLsbD i<;>simp_all
 ·intro h;apply BitVec.eq_of_getLsbD_eq;intro i hi;have h1:(x&&& m).getLsbD i=x.getLsbD i:=by rw[h]
  rw[BitVec.getLsbD_and] at h1;rw[BitVec.getLsbD_and,BitVec.getLsbD_not];cases ax:x.getLsbD i<;>cases hm:m.getLsbD i<;>simp_all
theorem arP{mo:Int}(h1: -9223372036854775808<=mo)(h2:mo<9223372036854775808):
 (mo≠IntKind.i64.wrap ((BitVec.ofInt 64 mo&&& BitVec.ofInt 64 65535).toNat:Int)\/mo<0)↔zA mo≠0:=by
 have ax:((BitVec.ofInt 64 mo).toNat:Int)=mo%18446744073709551616:=by
  rw[BitVec.toNat_ofInt];show((mo%((18446744073709551616:Nat):Int)).toNat:Int)=_;omega
 have hm:(BitVec.ofInt 64 65535).toNat=2 ^ 16-1:=rfl
 have bV:(BitVec.ofInt 64 mo&&& BitVec.ofInt 64 65535).toNat=(BitVec.ofInt 64 mo).toNat%65536:=by
  rw[BitVec.toNat_and,hm,Nat.and_two_pow_sub_one_eq_mod]
 have aX:zA mo=0↔(BitVec.ofInt 64 mo).toNat<65536:=by
  have az:zA mo=0↔(BitVec.ofInt 64 mo&&& ~~~BitVec.ofInt 64 65535)=0#64:=by
   unfold zA;generalize(BitVec.ofInt 64 mo&&& ~~~BitVec.ofInt 64 65535)=y;have bb:=y.isLt;constructor
   ·intro h;apply BitVec.eq_of_toNat_eq
    have h3:y.toNat=0:=by
     simp[IntKind.wrap,IntKind.signed,IntKind.bits] at h;omega
    rw[h3];rfl
   ·intro h;rw[h];rfl
  rw[az,alT];constructor
  ·intro h
   have:=congrArg BitVec.toNat h
   rw[bV] at this;omega
  ·intro h;apply BitVec.eq_of_toNat_eq;rw[bV];omega
 rw[bV,wrap_i64 (by omega) (by omega),Ne,Ne,aX];omega
section
variable{lf:Nat}{h:J}{R:eE}{n N:Nat}{on:Nat->Bool}{q:Nat->Option Nat}{b:Nat->Nat}{now:Int}{us:Nat->Bool}{rd:Nat->Nat->U}{mo uid gid:Int}
theorem aA2{C:ad}(r:aS)(av:cu)(A:bE h R n N on q b now us rd):∀(d t:Nat),t+d=N->∀f,d<f->
 ((∀j,t<=j->j<N->us j=true)->bk (sx C lf r av) f (some (.ptr R.rt 0),some (I mo),some (I uid),some (I gid),some (I ((t+1:Nat):Int))) h=av h)/\
 (∀i,t<=i->i<N->us i=false->(∀j,t<=j->j<i->us j=true)->bk (sx C lf r av) f (some (.ptr R.rt 0),some (I mo),some (I uid),some (I gid),some (I ((t+1:Nat):Int))) h=
   r (some (I ((i+1:Nat):Int))) (some (I 0)) (h.set R.bs ((i+1)*308) (fa (mF ((i+1:Nat):Int) uid gid mo now)))):=by
 intro d
 induction d with
 |zero=>
  intro t aN f au;obtain⟨f,rfl⟩:=dx f (by omega);refine⟨λ_=>?_,λi h1 h2=>by omega⟩;rw[df];unfold sx Cc;have a9:decide (((t+1:Nat):Int)<=(N:Int))=false:=br (by omega);simp only[aA,A.a1,a9]
 |succ d bp=>
  intro t aN f au;obtain⟨f,rfl⟩:=dx f (by omega);obtain⟨EE,EF⟩:=bp (t+1) (by omega) f (by omega);have jQ:=A.gH;have Rh:t<N:=by omega
  obtain⟨cap,lo,cb⟩:=A.cb;have ax:=l6 (R:=R) (N:=N) (i:=t+1) (cap:=cap) (lo:=lo) (by omega);have a9:decide (((t+1:Nat):Int)<=(N:Int))=true:=bu (by omega);have ak:IntKind.i64.wrap (((t+1:Nat):Int)+1)=((t+1+1:Nat):Int):=cD (by omega);have ae:=A.j6 (t+1) 0 (by omega) (by omega);rw[A.kN t Rh,Nat.add_zero] at ae
  have step:us t=true->bk (sx C lf r av) (f+1) (some (.ptr R.rt 0),some (I mo),some (I uid),some (I gid),some (I ((t+1:Nat):Int))) h=
   bk (sx C lf r av) f (some (.ptr R.rt 0),some (I mo),some (I uid),some (I gid),some (I ((t+1+1:Nat):Int))) h:=by
   intro hu;rw[hu] at ae;rw[df];show Cc C lf (λx0 x1 x2 x3 x11 h=>bk (sx C lf r av) f (x0,x1,x2,x3,x11) h) r av (some (.ptr R.rt 0)) (some (I mo)) (some (I uid)) (some (I gid)) (some (I ((t+1:Nat):Int))) h=_;unfold Cc;simp only[aA,A.a1,a9,cb,ax,Nat.add_zero,ae,Bool.not_true,ak]
  refine⟨λgd=>?_,λi h1 h2 hu wO=>?_⟩
  ·rw[step (gd t (Nat.le_refl _) Rh)];exact EE λj aa hb=>gd j (by omega) hb
  ·by_cases e:i=t
   ·subst e;rw[hu] at ae
    have DU:gM ao 78 [0,2,3,6,7,8,9] [I ((i+1:Nat):Int),I uid,I gid,I mo,I now,I now,I now]=
     some (.agg [I ((i+1:Nat):Int),I 0,I uid,I gid,I 0,I 0,I mo,I now,I now,I now]):=by kernel_rfl
    have ka:gM ao 156 [0,1] [.bool true,.agg [I ((i+1:Nat):Int),I 0,I uid,I gid,I 0,I 0,I mo,I now,I now,I now]]=
     some (.agg (fa (mF ((i+1:Nat):Int) uid gid mo now))):=by kernel_rfl
    have dc:=ahT A Rh (g:=mF ((i+1:Nat):Int) uid gid mo now) (by kernel_rfl);rw[df];unfold sx Cc;simp only[aA,A.a1,A.cm,a9,cb,ax,Nat.add_zero,ae,Bool.not_false,ak,DU,ka,dc]
   ·rw[step (wO t (Nat.le_refl _) (by omega))];exact EF i (by omega) h2 hu λj aa hb=>wO j (by omega) hb
def GX(C:ad):Prop:=∀h R n N on q b now us rd (mo uid gid:Int),bE h R n N on q b now us rd-> -9223372036854775808<=mo->mo<9223372036854775808->
 (lU mo uid gid->C (.fn 97) [.ptr R.rt 0,I mo,I uid,I gid] h=some (.ret (.bm [I 0,I 22]),h))/\
 (¬lU mo uid gid->(∀j,j<N->us j=true)->C (.fn 97) [.ptr R.rt 0,I mo,I uid,I gid] h=some (.ret (.bm [I 0,I 28]),h))/\
 (¬lU mo uid gid->∀i,i<N->us i=false->(∀j,j<i->us j=true)->∃h',C (.fn 97) [.ptr R.rt 0,I mo,I uid,I gid] h=some (.ret (.bm [I ((i+1:Nat):Int),I 0]),h')/\
   bE h' R n N on q b now (da us i true) (iE rd (i+1) (mF ((i+1:Nat):Int) uid gid mo now))/\h'.next=h.next/\aD h h' (· =R.bs))
theorem ahK{a c:U}:yB (some a) (some c) h=some (.ret (.bm [a,c]),h):=e8 rfl
theorem aA5{C:ad}{lf:Nat}{r:aS}{x0 x1 x2 x3:O}{h:J}:Xo C lf r x0 x1 x2 x3 h=LH C lf (λx0 x1 x2 x3 aU h=>LG C lf r x0 x1 x2 x3 aU h) x0 x1 x2 x3 h:=rfl
theorem ahy{C:ad}{lf:Nat}{r:aS}{x0 x1 x2 x3:O}{h:J}:FO C lf r x0 x1 x2 x3 h=bk (sx C lf r (λh=>LF C lf r h)) lf (x0,x1,x2,x3,some (I 1)) h:=rfl
theorem aA6{C:ad}(CI:CJ C)(hU: -9223372036854775808<=mo)(hH:mo<9223372036854775808){R:eE}:
 (lU mo uid gid->wI C lf (.ptr R.rt 0) (I mo) (I uid) (I gid) h=some (.ret (.bm [I 0,I 22]),h))/\
 (¬lU mo uid gid->wI C lf (.ptr R.rt 0) (I mo) (I uid) (I gid) h=FO C lf yB (some (.ptr R.rt 0)) (some (I mo)) (some (I uid)) (some (I gid)) h):=by
 have ag:=arP hU hH;have ai:=CI h mo;obtain⟨gT,hm⟩:∃gT,IntKind.i64.wrap ((BitVec.ofInt 64 mo&&& BitVec.ofInt 64 65535).toNat:Int)=gT:=⟨_,rfl⟩;rw[hm] at ag;have hand:∀t,bin ao .and t (I mo) (I 65535)=some (I gT):=λt=>by rw[CY,hm]
 clear hm;unfold wI;rw[aA5];unfold LH;simp only[aA,ai];unfold LG Xn;generalize a2:FO C lf yB (some (.ptr R.rt 0)) (some (I mo)) (some (I uid)) (some (I gid)) h=Q;simp only[aA,hand,a2];unfold lU;rw[<- ag];by_cases ah:mo=gT
 ·subst ah
  by_cases aj:mo<0<;>by_cases aC:lI mo=32768<;>by_cases a8:lI mo=16384<;>by_cases cF:lI mo=40960<;>by_cases dK:uid<0<;>by_cases dH:gid<0<;>
   simp[aj,aC,a8,cF,dK,dH,a2,ahK,iL,aA,hand]
 ·by_cases aC:lI mo=32768<;>by_cases a8:lI mo=16384<;>by_cases cF:lI mo=40960<;>simp[ah,aC,a8,cF,a2,ahK,iL,aA,hand]
theorem aA3{C:ad}(gy:4097<=lf)(CI:CJ C)(hU: -9223372036854775808<=mo)(hH:mo<9223372036854775808)(A:bE h R n N on q b now us rd):
 (lU mo uid gid->wI C lf (.ptr R.rt 0) (I mo) (I uid) (I gid) h=some (.ret (.bm [I 0,I 22]),h))/\
 (¬lU mo uid gid->(∀j,j<N->us j=true)->wI C lf (.ptr R.rt 0) (I mo) (I uid) (I gid) h=some (.ret (.bm [I 0,I 28]),h))/\
 (¬lU mo uid gid->∀i,i<N->us i=false->(∀j,j<i->us j=true)->∃h',wI C lf (.ptr R.rt 0) (I mo) (I uid) (I gid) h=some (.ret (.bm [I ((i+1:Nat):Int),I 0]),h')/\
   bE h' R n N on q b now (da us i true) (iE rd (i+1) (mF ((i+1:Nat):Int) uid gid mo now))/\h'.next=h.next/\aD h h' (· =R.bs)):=by
 have jQ:=A.gH;obtain⟨bM,cz⟩:=aA6 (lf:=lf) (mo:=mo) (uid:=uid) (gid:=gid) (h:=h) CI hU hH (R:=R);obtain⟨b4,cv⟩:=aA2 (lf:=lf) (mo:=mo) (uid:=uid) (gid:=gid) (C:=C) yB (λh=>LF C lf yB h) A N 0 (by omega) lf (by omega);have az:((0+1:Nat):Int)=1:=rfl;rw[az] at b4 cv;refine⟨bM,λbc gd=>?_,λbc i hi hu ag=>⟨_,?_,A.setRow hi rfl,dz ..,fj rfl⟩⟩
 ·rw[cz bc,ahy,b4 λj _ aa=>gd j aa];rfl
 ·rw[cz bc,ahy,cv i (Nat.zero_le _) hi hu λj _ aa=>ag j aa];rfl
end
theorem aB8{C:ad}{lf:Nat}{r:aS}{x0 x1 x2 x3:O}{h:J}:WT C lf r x0 x1 x2 x3 h=Lu C lf (λx0 x1 x2 x3 h=>Lt C lf r x0 x1 x2 x3 h) r x0 x1 x2 x3 h:=rfl
theorem aB9{C:ad}{lf:Nat}{r:aS}{x0 x1 x2 x3:O}{h:J}:WR C lf r x0 x1 x2 x3 h=Ls C lf r x0 x1 x2 x3 (some (.val (.slice none 0 0))) h:=rfl
theorem aCa{C:ad}{lf:Nat}{fq:dp}{x0 x1 x3 aU x11 x12 ew:O}{h:J}:ahe C lf fq x0 x1 x3 aU x11 x12 ew h=WI C lf fq x0 x1 x3 aU x11 x12 ew (some (.int .u8 0)) h:=rfl
structure vQ (h0 h:J) (x:U) (l:List Nat):Prop where
 aF:ha h 5 1 x l.length (hD l)
 new:∀j,rowOf x=some j->h0.next<=j
 lt:∀c∈l,c<256
theorem vQ.bytes{h0 h:J}{x:U}{l:List Nat}(S:vQ h0 h x l):Bytes h x l:=by
 refine⟨S.lt,?_⟩;rcases S.aF.2 with⟨e,av⟩|⟨k,e,A⟩
 ·exact .inl ⟨by rw[e];exact .inl rfl,List.eq_nil_of_length_eq_zero av⟩
 ·obtain⟨m,hm,_⟩:=A.mt;refine .inr ⟨k,0,none,0,m,e,hm,λj aa=>?_⟩;rw[Nat.zero_add,A.cs j (by omega),Ge l aa]
section
variable{lf:Nat}{h h0:J}{R:eE}{n N:Nat}{on:Nat->Bool}{q:Nat->Option Nat}{b:Nat->Nat}{now:Int}{us:Nat->Bool}{rd:Nat->Nat->U}{bl:Nat->Nat->Nat}{i:Nat}{ino:Int}
theorem alU(ag:∀j,b j<256)(p:Nat):pR bl b i p<256:=by
 unfold pR;split
 ·omega
 ·exact ag _
theorem aCb{C:ad}(A:bE h R n N on q b now us rd)(M:dg N rd bl)(K:hX n N on bl)(hi:i<N){x3 x11:O}{off t:Nat}{x:U}(aB:off+t<17792)(B:vQ h0 h x (n3 bl b i off t))(lZ:h0.next<=h.next)(fq:dp):
 ∃bF h',WJ C lf fq (some (.ptr R.rt 0)) (some (I ((i+1:Nat):Int))) x3 (some x) x11 (some (I ((off+t:Nat):Int))) h=
   fq (some (.ptr R.rt 0)) (some (I ((i+1:Nat):Int))) x3 (some bF) x11 (some (I ((off+(t+1):Nat):Int))) h'/\
  vQ h0 h' bF (n3 bl b i off (t+1))/\h0.next<=h'.next/\(aD h0 h (λ_=>False)->aD h0 h' (λ_=>False)):=by
 have fG:n<=4096:=A.ref.v.choose_spec.choose_spec.2.2.ck;have QC:∀j,b j<256:=A.ref.v.choose_spec.choose_spec.2.2.blt;obtain⟨cap,lo,cb⟩:=A.cb;have ax:=l6 (R:=R) (N:=N) (i:=i+1) (cap:=cap) (lo:=lo) (by omega);have ai:(off+t)/64<278:=by omega
 have bW:=uw (R:=R) (i:=i) (k:=(off+t)/64) (m:=278) (o:=12) ai;have eM:=ni A M hi (c:=12+(off+t)/64) (by omega) (by omega);rw[rq ai] at eM
 have a2:IntKind.i64.wrap (((off+t:Nat):Int).tdiv 64)=(((off+t)/64:Nat):Int):=by
  rw[Int.tdiv_eq_ediv_of_nonneg (by omega),wrap_i64 (by omega) (by omega)];rfl
 have aQ:((off+t:Nat):Int).tmod 64=(((off+t)%64:Nat):Int):=by
  rw[Int.tmod_eq_emod_of_nonneg (by omega)];rfl
 have dr:IntKind.i64.wrap (((off+t:Nat):Int)+1)=((off+(t+1):Nat):Int):=cD (by omega);have YA:=B.aF;rw[HJ] at YA;obtain⟨bF,h',aj,aC,a8,cF,dK,dH,fE,h4⟩:=tk (h:=h) (y:= .int .u8 ((pR bl b i (off+t):Nat):Int)) tj rfl rfl rfl YA (by omega) (by omega);refine⟨bF,h',?_,⟨?_,λj aa=>?_,λc ae=>?_⟩,Nat.le_trans lZ cF,λF=>⟨dK.trans F.aO,Nat.le_trans F.next cF,λj aa _=>(dH j (Nat.lt_of_lt_of_le aa F.next) (λaQ=>absurd (B.new j aQ) (by omega))).trans (F.same j aa (λe=>e)),λau=>h4 (F.dm au)⟩⟩
 ·unfold WJ ahg ahf;simp only[aA,cb,lV (show(64:Int)≠0 by omega),a2,ax,bW,eM];rw[aCa];unfold WI ahd;by_cases hv:0<bl i (a5 ((off+t)/64))
  ·have d1:decide ((0:Int)<(bl i (a5 ((off+t)/64)):Int))=true:=bu (by omega);have hle:=K.le i _ hi rn (sI ai);have jz:=Cg K fG hi rn (sI ai) hv
   have ag:pR bl b i (off+t)=b ((bl i (a5 ((off+t)/64))-1)*64+(off+t)%64):=by
    unfold pR;rw[if_neg (by omega)]
   rw[ag] at aj aC;obtain⟨x1,xr,mX,bM,cz,fr,nI,zK⟩:=A.aoB (j:=bl i (a5 ((off+t)/64))-1) (p:=(off+t)%64) (by omega) (K.on i _ hi rn (sI ai) hv) (by omega);simp only[aA,d1,bM,jz,cz,fr,ih (show(64:Int)≠0 by omega),aQ,nI,zK];unfold WH;simp only[cf,b8,ns,aj,aC];unfold WO;simp only[cf,b8,rZ,dr]
  ·have d1:decide ((0:Int)<(bl i (a5 ((off+t)/64)):Int))=false:=br (by omega)
   have ag:pR bl b i (off+t)=0:=by
    unfold pR;rw[if_pos (by omega)]
   rw[ag] at aj aC;have av:((0:Nat):Int)=0:=rfl;rw[av] at aj aC;simp only[aA,d1];unfold WH;simp only[cf,b8,ns,aj,aC];unfold WO;simp only[cf,b8,rZ,dr]
 ·rw[aag];have az:hD (n3 bl b i off t++[pR bl b i (off+t)])=hD (n3 bl b i off t)++[.int .u8 ((pR bl b i (off+t):Nat):Int)]:=by simp[hD]
  rw[az,List.length_append,HJ];exact a8
 ·rcases fE j aa with e|e
  ·exact B.new j e
  ·omega
 ·rw[aag] at ae;rcases List.mem_append.1 ae with e|e
  ·exact B.lt c e
  ·rw[List.mem_singleton.1 e];exact alU QC _
theorem ahS{C:ad}{off sz m:Nat}(dP:sz<=17792)(A:bE h0 R n N on q b now us rd)(M:dg N rd bl)(K:hX n N on bl)(hi:i<N)(av:aw):∀(d t:Nat),t+d=min m (sz-off)->∀f,d<f->∀h x,vQ h0 h x (n3 bl b i off t)->aD h0 h (λ_=>False)->
 ∃bF h',bk (zq C lf av) f (some (.ptr R.rt 0),some (I ((i+1:Nat):Int)),some (I (m:Int)),some x,some (I (sz:Int)),some (I ((off+t:Nat):Int))) h=av (some bF) h'/\
  vQ h0 h' bF (n3 bl b i off (min m (sz-off)))/\aD h0 h' (λ_=>False)
 |0,t,aN,f,au,h,x,B,F=>by
  obtain⟨f,rfl⟩:=dx f (by omega);have aJ:=re (P:=ao) Tryd.underlying24 B.bytes;rw[HJ] at aJ;have anQ:t=min m (sz-off):=by omega
  refine⟨x,h,?_,by rw[<- anQ];exact B,F⟩;rw[df];unfold zq FI WK;by_cases h1:off+t<sz
  ·have d1:decide (((off+t:Nat):Int)<(sz:Int))=true:=bu (by omega);have d2:decide ((t:Int)<(m:Int))=false:=br (by omega);simp only[aA,d1,aJ,d2]
  ·have d1:decide (((off+t:Nat):Int)<(sz:Int))=false:=br (by omega);simp only[aA,d1,iL]
 |d+1,t,aN,f,au,h,x,B,F=>by
  obtain⟨f,rfl⟩:=dx f (by omega);have aJ:=re (P:=ao) Tryd.underlying24 B.bytes;rw[HJ] at aJ;have d1:decide (((off+t:Nat):Int)<(sz:Int))=true:=bu (by omega);have d2:decide ((t:Int)<(m:Int))=true:=bu (by omega);have iW:=A.gQ F λ_ _ e=>e
  obtain⟨x1,h1,s1,ic,cA,aL⟩:=aCb (C:=C) (lf:=lf) (x3:=some (I (m:Int))) (x11:=some (I (sz:Int))) iW M K hi (off:=off) (t:=t) (by omega) B F.next (λx0 x1 x3 aU x11 x12 h=>bk (zq C lf av) f (x0,x1,x3,aU,x11,x12) h)
  obtain⟨x2,h2,s2,eY,bw⟩:=ahS (off:=off) (sz:=sz) (m:=m) dP A M K hi av d (t+1) (by omega) f (by omega) h1 x1 ic (aL F);refine⟨x2,h2,?_,eY,bw⟩;rw[df];show FI C lf (λx0 x1 x3 aU x11 x12 h=>bk (zq C lf av) f (x0,x1,x3,aU,x11,x12) h) av _ _ _ _ _ _ h=_;unfold FI WK;simp only[aA,d1,aJ,d2];rw[s1];exact s2
def yb(C:ad):Prop:=∀h R n N on q b now us rd bl (ino off m:Int),bE h R n N on q b now us rd->dg N rd bl->hX n N on bl->off<9223372036854775808->m<9223372036854775808->
 (c7 N us ino=false->C (.fn 88) [.ptr R.rt 0,I ino,I off,I m] h=some (.ret (.bm [.val (.slice none 0 0),I 2]),h))/\
 (∀i (sz:Nat),iv N us ino i->rd (i+1) 5=I (sz:Int)->sz<=17792->
   ((off<0\/m<0)->C (.fn 88) [.ptr R.rt 0,I ino,I off,I m] h=some (.ret (.bm [.val (.slice none 0 0),I 22]),h))/\
   (0<=off->0<=m->∃x h',C (.fn 88) [.ptr R.rt 0,I ino,I off,I m] h=some (.ret (.bm [x,I 0]),h')/\
     vQ h h' x (n3 bl b i off.toNat (min m.toNat (sz-off.toNat)))/\aD h h' (λ_=>False)))
theorem aCl{C:ad}(gy:20000<=lf)(hO:pJ C){off m:Int}(A:bE h R n N on q b now us rd)(M:dg N rd bl)(K:hX n N on bl)(cy:off<9223372036854775808)(hH:m<9223372036854775808):
 (c7 N us ino=false->A8 C lf (.ptr R.rt 0) (I ino) (I off) (I m) h=some (.ret (.bm [.val (.slice none 0 0),I 2]),h))/\
 (∀i (sz:Nat),iv N us ino i->rd (i+1) 5=I (sz:Int)->sz<=17792->
   ((off<0\/m<0)->A8 C lf (.ptr R.rt 0) (I ino) (I off) (I m) h=some (.ret (.bm [.val (.slice none 0 0),I 22]),h))/\
   (0<=off->0<=m->∃x h',A8 C lf (.ptr R.rt 0) (I ino) (I off) (I m) h=some (.ret (.bm [x,I 0]),h')/\
     vQ h h' x (n3 bl b i off.toNat (min m.toNat (sz-off.toNat)))/\aD h h' (λ_=>False))):=by
 have dA:=hO h R n N on q b now us rd ino A;obtain⟨cap,lo,cb⟩:=A.cb;unfold A8;rw[aB8];unfold Lu;refine⟨λag=>?_,λi sz bT dP so=>?_⟩
 ·rw[ag] at dA;unfold AY;simp only[aA,dA,Bool.not_false]
 ·rw[bT.yes] at dA;obtain⟨hi,hu,rfl⟩:=bT;simp only[aA,dA,Bool.not_true];unfold Lt WS;refine⟨λh1=>?_,λh1 h2=>?_⟩
  ·unfold AY;by_cases h3:off<0
   ·simp only[aA,bu h3,iL]
   ·have aT:m<0:=by omega
    simp only[aA,br h3,bu aT]
  ·obtain⟨o,rfl⟩:∃o:Nat,off=o:=⟨off.toNat,by omega⟩;obtain⟨m,rfl⟩:∃o:Nat,m=o:=⟨m.toNat,by omega⟩;have d1:decide ((o:Int)<0)=false:=br (by omega);have d2:decide ((m:Int)<0)=false:=br (by omega);have ax:=l6 (R:=R) (N:=N) (i:=i+1) (cap:=cap) (lo:=lo) (by omega);have m7:=A.j6 (i+1) 5 (by omega) (by omega);rw[dP] at m7;have iI:(i+1)*308+1+4=(i+1)*308+5:=rfl;obtain⟨bF,h',s1,ic,aL⟩:=ahS (C:=C) (lf:=lf) (off:=o) (m:=m) so A M K hi (λaU h=>Lr C lf AY aU h) (min m (sz-o)) 0 (by omega) lf (by omega) h (.val (.slice none 0 0)) ⟨ha.nil _ _ _,λj aa=>(by cases aa),λc ae=>(by cases ae)⟩ (aD.refl _ _);simp only[Nat.add_zero] at s1;simp only[Int.toNat_natCast];refine⟨bF,h',?_,ic,aL⟩;simp only[aA,d1,d2];rw[aB9];unfold Ls WQ;simp only[aA,cb,ax,iI,m7];unfold WN WM WL;simp only[cf,b8];rw[s1];unfold Lr AY;simp only[cf,b8]
end
section
open Classical
theorem an9{W W':Nat->Bool}{a:Nat}(h1:12<=a)(h2:a<308)(o4:∀c,W c=true->c<a)(u5:∀c,W' c=true↔(W c=true\/c=a)):(List.range' 12 296).filter W'=(List.range' 12 296).filter W++[a]:=by
 have e:List.range' 12 296=List.range' 12 (a-12)++a::List.range' (a+1) (307-a):=by
  have az:=List.range'_append (s:=12) (m:=a-12) (n:=307-a+1) (step:=1);rw[show 12+1*(a-12)=a by omega,show a-12+(307-a+1)=296 by omega,List.range'_succ] at az;exact az.symm
 have DS:W' a=true:=(u5 a).2 (.inr rfl)
 have bV:W a=false:=by
  cases hw:W a with
  |false=>rfl
  |true=>exact absurd (o4 a hw) (Nat.lt_irrefl _)
 have aQ:∀V:Nat->Bool,(∀c,V c=true->c<=a)->(List.range' (a+1) (307-a)).filter V=[]:=λV Bf=>by
  rw[List.filter_eq_nil_iff];intro c ae hv
  have:=Bf c hv
  rw[List.mem_range'_1] at ae;omega
 have aJ:(List.range' 12 (a-12)).filter W'=(List.range' 12 (a-12)).filter W:=List.filter_congr λc ae=>by
  rw[List.mem_range'_1] at ae;rw[Bool.eq_iff_iff,u5];exact⟨λx=>x.elim id λx=>by omega,.inl⟩
 rw[e,List.filter_append,List.filter_append,List.filter_cons,List.filter_cons,bV,DS,aJ,aQ W (λc h=>Nat.le_of_lt (o4 c h)),aQ W' (λc h=>by
  rcases(u5 c).1 h with h|h
  ·exact Nat.le_of_lt (o4 c h)
  ·exact Nat.le_of_eq h)]
 simp
def kJ(f:Nat->Nat)(W:Nat->Bool):List Nat:=((List.range' 12 296).filter W).map λc=>f c-1
theorem R9{f:Nat->Nat}{W W':Nat->Bool}{a:Nat}(h1:12<=a)(h2:a<308)(o4:∀c,W c=true->c<a)(u5:∀c,W' c=true↔(W c=true\/c=a)):kJ f W'=kJ f W++[f a-1]:=by
 unfold kJ;rw[an9 h1 h2 o4 u5,List.map_append];rfl
theorem EW{f:Nat->Nat}{W W':Nat->Bool}(h:∀c,12<=c->c<308->(W' c=true↔W c=true)):kJ f W'=kJ f W:=by
 unfold kJ
 have e:(List.range' 12 296).filter W'=(List.range' 12 296).filter W:=List.filter_congr λc ae=>by
  rw[List.mem_range'_1] at ae;exact Bool.eq_iff_iff.2 (h c ae.1 (by omega))
 rw[e]
theorem afW(bl:Nat->Nat->Nat)(i:Nat):lK bl i=kJ (bl i) (λc=>decide (0<bl i c)):=by
 unfold lK ia fb kJ;rw[List.range'_eq_map_range,List.filter_map,List.filter_map,List.map_map,List.map_map];rfl
def WP(f:Nat->Nat)(p c:Nat):Prop:=(∃k,k<p/\c=a5 k/\0<f (a5 k))\/(∃k,k<p/\6<=k/\c=dt ((k-6)/16)/\0<f (a5 k))\/(c=35/\∃k,k<p/\22<=k/\0<f (a5 k))
noncomputable def mU(f:Nat->Nat)(p c:Nat):Bool:=decide (WP f p c)
theorem Sh{k p:Nat}(h:k<p)(aB:p<278):a5 k<a5 p:=by
 unfold a5;split<;>split<;>(try split)<;>(try split)<;>omega
theorem Qf{k:Nat}(bA:6<=k):dt ((k-6)/16)<a5 k:=by
 unfold dt a5;split<;>split<;>(try split)<;>omega
theorem Gc{k:Nat}(h:22<=k):35<dt ((k-6)/16)/\dt ((k-6)/16)<a5 k:=by
 refine⟨?_,Qf (by omega)⟩;unfold dt;rw[if_neg (by omega)];omega
section
variable{f:Nat->Nat}{p:Nat}
theorem WP.lt(aB:p<278){c:Nat}(h:WP f p c):c<a5 p:=by
 rcases h with⟨k,a,rfl,_⟩|⟨k,a,dH,rfl,_⟩|⟨rfl,k,a,Hr,_⟩
 ·exact Sh a aB
 ·exact Nat.lt_trans (Qf dH) (Sh a aB)
 ·have:=Gc Hr
  have:=Sh a aB
  omega
theorem WP.skip(h0:f (a5 p)=0){c:Nat}:WP f (p+1) c↔WP f p c:=by
 unfold WP;constructor
 ·rintro (⟨k,a,aC,a8⟩|⟨k,a,dH,aC,a8⟩|⟨e,k,a,aC,a8⟩)
  ·by_cases e:k=p
   ·subst e;omega
   ·exact .inl ⟨k,by omega,aC,a8⟩
  ·by_cases e:k=p
   ·subst e;omega
   ·exact .inr (.inl ⟨k,by omega,dH,aC,a8⟩)
  ·by_cases bd:k=p
   ·subst bd;omega
   ·exact .inr (.inr ⟨e,k,by omega,aC,a8⟩)
 ·rintro (⟨k,a,aC,a8⟩|⟨k,a,dH,aC,a8⟩|⟨e,k,a,aC,a8⟩)
  ·exact .inl ⟨k,by omega,aC,a8⟩
  ·exact .inr (.inl ⟨k,by omega,dH,aC,a8⟩)
  ·exact .inr (.inr ⟨e,k,by omega,aC,a8⟩)
theorem WP.next(h0:0<f (a5 p)){c:Nat}:WP f (p+1) c↔(((WP f p c\/(22<=p/\c=35))\/(6<=p/\c=dt ((p-6)/16)))\/c=a5 p):=by
 unfold WP;constructor
 ·rintro (⟨k,a,aC,a8⟩|⟨k,a,dH,aC,a8⟩|⟨e,k,a,aC,a8⟩)
  ·by_cases e:k=p
   ·subst e;exact .inr aC
   ·exact .inl (.inl (.inl (.inl ⟨k,by omega,aC,a8⟩)))
  ·by_cases e:k=p
   ·subst e;exact .inl (.inr ⟨dH,aC⟩)
   ·exact .inl (.inl (.inl (.inr (.inl ⟨k,by omega,dH,aC,a8⟩))))
  ·by_cases bd:k=p
   ·subst bd;exact .inl (.inl (.inr ⟨aC,e⟩))
   ·exact .inl (.inl (.inl (.inr (.inr ⟨e,k,by omega,aC,a8⟩))))
 ·rintro ((((⟨k,a,aC,a8⟩|⟨k,a,dH,aC,a8⟩|⟨e,k,a,aC,a8⟩)|⟨a,e⟩)|⟨a,e⟩)|e)
  ·exact .inl ⟨k,by omega,aC,a8⟩
  ·exact .inr (.inl ⟨k,by omega,dH,aC,a8⟩)
  ·exact .inr (.inr ⟨e,k,by omega,aC,a8⟩)
  ·exact .inr (.inr ⟨e,p,by omega,a,h0⟩)
  ·exact .inr (.inl ⟨p,by omega,a,e,h0⟩)
  ·exact .inl ⟨p,by omega,e,h0⟩
theorem WP.aEA(aR:∀k,k<p->22<=k->f (a5 k)=0){c:Nat}(h:WP f p c):c<35:=by
 rcases h with⟨k,a,rfl,h⟩|⟨k,a,dH,rfl,h⟩|⟨rfl,k,a,Hr,h⟩
 ·have:k<22:=by
   by_cases e:22<=k
   ·have:=aR k a e;omega
   ·omega
  unfold a5;split
  ·omega
  ·first|omega|(rw[if_pos this];omega)
 ·have:k<22:=by
   by_cases e:22<=k
   ·have:=aR k a e;omega
   ·omega
  unfold dt;rw[if_pos (by omega)];omega
 ·have:=aR k a Hr;omega
theorem WP.aoN(bA:6<=p)(aB:p<278)(aR:∀k,k<p->6<=k->(k-6)/16=(p-6)/16->f (a5 k)=0){c:Nat}(h:WP f p c\/(22<=p/\c=35)):c<dt ((p-6)/16):=by
 rcases h with(⟨k,a,rfl,h⟩|⟨k,a,dH,rfl,h⟩|⟨rfl,k,a,Hr,h⟩)|⟨a,rfl⟩
 ·have ai:k<6+16*((p-6)/16):=by
   by_cases e:6<=k
   ·by_cases ay:(k-6)/16=(p-6)/16
    ·have:=aR k a e ay;omega
    ·omega
   ·omega
  unfold dt a5;split<;>split<;>(try split)<;>omega
 ·have ai:(k-6)/16<(p-6)/16:=by
   by_cases ay:(k-6)/16=(p-6)/16
   ·have:=aR k a dH ay;omega
   ·omega
  unfold dt;split<;>split<;>omega
 ·exact(Gc (by omega:22<=p)).1
 ·exact(Gc a).1
theorem WP.all{bl:Nat->Nat->Nat}{i:Nat}(S:lp bl i){c:Nat}(h1:12<=c)(h2:c<308):WP (bl i) 278 c↔0<bl i c:=by
 have cj:∀g,g<17->(hole bl i (dt g)=false↔∃k,k<278/\6<=k/\g=(k-6)/16/\0<bl i (a5 k)):=λg bc=>by
  rw[Bool.eq_false_iff,Ne,pd];constructor
  ·intro h;obtain⟨j,aa⟩:=Classical.not_forall.1 h;obtain⟨Bw,EH⟩:=Classical.not_imp.1 aa;exact⟨6+g*16+j,by omega,by omega,by omega,by rw[I8 Bw];omega⟩
  ·rintro ⟨k,aj,aC,a8,cF⟩ h
   have e:k=6+g*16+(k-6)%16:=by omega
   have:=h ((k-6)%16) (by omega)
   rw[<- I8 (by omega), <- e] at this;omega
 have ak:∀g,g<17->(0<bl i (dt g)↔hole bl i (dt g)=false):=λg bc=>by
  unfold dt;by_cases e:g=0
  ·rw[if_pos e]
   have:=S.one
   cases ag:hole bl i 18<;>simp[ag] at this⊢ <;>omega
  ·rw[if_neg e]
   have:=S.yD (g-1) (by omega)
   cases ag:hole bl i (36+17*(g-1))<;>simp[ag] at this⊢ <;>omega
 unfold WP;constructor
 ·rintro (⟨k,a,e,a8⟩|⟨k,a,dH,e,a8⟩|⟨e,k,a,aC,a8⟩)
  ·rw[e];exact a8
  ·rw[e];exact(ak _ (by omega)).2 ((cj _ (by omega)).2 ⟨k,a,dH,rfl,a8⟩)
  ·rw[e];have h3:0<bl i (dt ((k-6)/16)):=(ak _ (by omega)).2 ((cj _ (by omega)).2 ⟨k,a,by omega,rfl,a8⟩);have ay:dt ((k-6)/16)=36+17*((k-6)/16-1):=if_neg (by omega);rw[ay] at h3;by_cases aT:bl i 35=0
   ·have:=S.two.1 aT ((k-6)/16-1) (by omega);omega
   ·omega
 ·intro h
  have ind:∀g,g<17->c=dt g->∃k,k<278/\6<=k/\c=dt ((k-6)/16)/\0<bl i (a5 k):=λg bc e=>by
   rw[e] at h;obtain⟨k,aj,aC,a8,cF⟩:=(cj g bc).1 ((ak g bc).1 h);exact⟨k,aj,aC,by rw[<- a8];exact e,cF⟩
  by_cases dT:c<18
  ·have e:c=a5 (c-12):=by unfold a5;rw[if_pos (by omega)];omega
   exact .inl ⟨c-12,by omega,e,by rw[<- e];exact h⟩
  ·by_cases fA:c=18
   ·exact .inr (.inl (ind 0 (by omega) fA))
   ·by_cases nJ:c<35
    ·have e:c=a5 (c-13):=by unfold a5;rw[if_neg (by omega),if_pos (by omega)];omega
     exact .inl ⟨c-13,by omega,e,by rw[<- e];exact h⟩
    ·by_cases B3:c=35
     ·refine .inr (.inr ⟨B3,?_⟩);rw[B3] at h;by_cases bz:∃t,t<16/\0<bl i (36+17*t)
      ·obtain⟨t,t1,t2⟩:=bz;have ay:dt (t+1)=36+17*t:=by unfold dt;rw[if_neg (by omega),Nat.add_sub_cancel]
       rw[<- ay] at t2;obtain⟨k,aj,aC,a8,cF⟩:=(cj _ (by omega)).1 ((ak _ (by omega)).1 t2);exact⟨k,aj,by omega,cF⟩
      ·have:=S.two.2 λt aN=>by
        by_cases bA:0<bl i (36+17*t)
        ·exact absurd ⟨t,aN,bA⟩ bz
        ·omega
       omega
     ·by_cases aHe:(c-36)%17=0
      ·refine .inr (.inl (ind ((c-36)/17+1) (by omega) ?_));unfold dt;rw[if_neg (by omega)];omega
      ·have e:c=a5 (22+16*((c-36)/17)+((c-36)%17-1)):=by
        unfold a5;rw[if_neg (by omega),if_neg (by omega)];omega
       exact .inl ⟨_,by omega,e,by rw[<- e];exact h⟩
end
end
noncomputable section
variable{C:ad}{lf:Nat}{ba a0 eA fz jU k3 q4 q5 q6 q7 q8 q9 q1 q2 q3:hp}{an:lj}
noncomputable def abN:b1 ao:=⟨54,Tryd.f54,λr=>bif Nat.beq r 1 then .news [0,1,2,4,5,6,8,9,10,13,14,15,7,11,16,3,12,17,18,19,20] [12] [(3,[16,11,7]),(17,[11,7])] else .text,Tryd.func54,by kernel_rfl,by kernel_rfl,by kernel_rfl,by kernel_rfl⟩
noncomputable def Pg(x2:O)(h:J):ab:=
 ob x2 λa=>some (.ret a,h)
def U8(C:ad)(lf:Nat)(r:aw)(x0:O)(h:J):ab:=
 zG [12] 21 h λa k=>e9 0 x0 λb=>e9 2 x0 λc=>e9 3 x0 λd=>e9 4 x0 λg=>dM (BS a (bU (some c))) (ob (bO c k) λi=>dM (BS a (bU (some d))) (ob (bO d k) λj=>dM (BS a (bU (some g))) (ob (bO g k) λm=>cM (C (.fn 27) [b] k) λb l=>dM (ey [(16,bU (some g)),(11,bU (some d)),(7,bU (some c))] k l [16,11,7]) (dM (oz a []) (b2 (pC (gp ao 134 0 [] []) a 12 l) λa k=>b2 (eX ao .append #[134,134] [a,m] k) λa l=>dM (ey [(16,bU (some g)),(11,bU (some d)),(7,bU (some c))] k l [11,7]) (ob (gM ao 136 [0,1,2,3] [b,i,j,a]) λa=>b2 (pB 136 a l) λa=>r (some a)))))))
theorem axn{r:aw}:∀F h,ar abN C lf [] F h ba (aM r 2) an=aM (U8 C lf r) 0 F h:=by
 intro F h;kernel_rfl
def IH(C:ad)(lf:Nat)(ah:U)(h:J):ab:=U8 C lf Pg (some ah) h
def acS:cx ao:=hZ abN IH (λC lf ah h=>cS (K:=(aM Pg 2)) (by kernel_rfl) (Eq.trans (axn _ h) (by kernel_rfl))) (by kernel_rfl)
def aca:b1 ao:=dk 86 Tryd.f86 Tryd.func86 (by kernel_rfl)
noncomputable def PD(bC eD:O)(h:J):ab:=
 ob bC λa=>ob (eB 10 a h) λa=>ob eD λb=>some (.ret (.bm [a,b]),h)
def Wu(C:ad)(lf:Nat)(r:aS)(x0 x1:O)(h:J):ab:=
 b2 (j0 ao 78 h) λa k=>a1 C 104 x0 x1 k λb k=>fM b (ob (gM ao 78 [] []) λb=>ob (st 10 a b k) (r (some a) (bD 2))) (dw 4 x0 k λb=>k6 308 b x1 λb=>ob (bZ 1 b) λb=>ob (eB 10 b k) λb=>b2 (j0 ao 78 k) λc k=>ob (st 10 c b k) λk=>a1 C 87 x0 x1 k λb k=>cy b λb d=>jX 33 b λb=>ob (bZ 5 c) λd=>ob (st 1 d b k) λk=>ob (eB 10 c k) λb=>ob (st 10 a b k) (r (some a) (bD 0)))
theorem ayZ{r:aS}:∀F h,ar aca C lf [] F h ba (a7 r 4 5) an=a7 (Wu C lf r) 0 1 F h:=by
 intro F h;kernel_rfl
def I3(C:ad)(lf:Nat)(ah aj:U)(h:J):ab:=Wu C lf PD (some ah) (some aj) h
def adg:cx ao:=hr aca I3 (λC lf ah aj h=>cS (K:=(a7 PD 4 5)) (by kernel_rfl) (Eq.trans (ayZ _ h) (by kernel_rfl))) (by kernel_rfl)
def eZ:b1 ao:=dk 87 Tryd.f87 Tryd.func87 (by kernel_rfl)
noncomputable def Di(bC eD:O)(h:J):ab:=
 ob bC λa=>ob eD λb=>some (.ret (.bm [a,b]),h)
def FG(C:ad)(lf:Nat)(r:aS)(x7:O)(h:J):ab:=
 ob x7 λa=>r (some a) (bD 0) h
theorem azt{r:aS}:∀F h,ar eZ C lf [1,1,1,1,1] F h ba (a7 r 4 5) an=aM (FG C lf r) 7 F h:=by
 intro F h;kernel_rfl
def uv(C:ad)(lf:Nat)(n:bK)(aG x7 x23:O)(h:J):ab:=
 cB .add 3 x23 (I 1) λa=>n aG x7 (some a) h
theorem azA{n:bK}:∀F h,ar eZ C lf [1,1,1,1,0,1,0,0,1,1,1] F h (bG n 6 7 23) a0 (bI 0 eA an)=bG (uv C lf n) 6 7 23 F h:=by
 intro F h;kernel_rfl
def Lm(C:ad)(lf:Nat)(n:bK)(aG x7 x8 x23:O)(h:J):ab:=
 ob x7 λa=>ob aG λb=>ob x8 λc=>ef 12 b λb=>ob (eu 278 1 b c) λb=>ob (bO b h) λb=>cn .sub 3 b (I 1) λb=>b2 (gp ao 33 1 [0] [b] h) λb k=>b2 (eX ao .append #[33,33] [a,b] k) λa=>n aG (some a) x23
def WD(C:ad)(lf:Nat)(n:bo)(aG x7 x8 x9 aU x23:O)(h:J):ab:=
 ob aU λa=>gn a (ob x7 λa=>ob aG λb=>ob x9 λc=>ef 290 b λb=>ob (eu 17 1 b c) λb=>ob (bO b h) λb=>cn .sub 3 b (I 1) λb=>b2 (gp ao 33 1 [0] [b] h) λb k=>b2 (eX ao .append #[33,33] [a,b] k) λa=>n aG (some a) x8 x23) (n aG x7 x8 x23 h)
def Ln(C:ad)(lf:Nat)(n:bK)(aG x7 x8 x9 aU x23:O)(h:J):ab:=
 WD C lf (Lm C lf n) aG x7 x8 x9 aU x23 h
theorem azs{n:bK}:∀F h,ar eZ C lf [1,1,1,1,0,1,0,0,1,1,0,0,1,1,1,1,1,1,1,1] F h (bG n 6 7 23) a0 (bI 1 fz (bI 0 eA an))=dD (Ln C lf n) 6 7 8 9 10 23 F h:=by
 intro F h;kernel_rfl
def FH(C:ad)(lf:Nat)(n:hY)(ee:dp)(aG x7 x8 x9 aU x12 x23:O)(h:J):ab:=
 lb .lss 3 x12 x8 (ob aU λa=>b3 a x12 h λb k=>dL (cT true (some a) (cJ C 105 [b] k λa k=>some (.ret a,k)) k) λb k=>b3 a x9 k λc k=>b3 a (bin ao .neq 3 b c) k λb k=>b3 a (some b) k λb k=>dI b aG k λc k=>dI b x12 k λd k=>dI b (ev c) k λc k=>dI b (bZ 12 c) k λc k=>dI b (eu 278 1 c d) k λc k=>jg .eql 3 b (bO c k) (I 0) k λc k=>b3 a (jH b (.bool true) c) k λb k=>hA a b λa=>cB .add 3 x12 (I 1) λb=>n aG x7 x8 x9 (some a) (some b) x23 k) (ee aG x7 x8 x9 aU x23 h)
theorem azu{n:hY}{ee:dp}:∀F h,ar eZ C lf [1,1,1,1,0,1,0,0,1,1,0,0,1,1,1,1,1,1,1,0,1,0,0] F h (ln n 6 7 8 9 10 12 23) a0 (bI 4 (dD ee 6 7 8 9 10 23) (bI 1 fz (bI 0 eA an)))=ln (FH C lf n ee) 6 7 8 9 10 12 23 F h:=by
 intro F h;kernel_rfl
def zo(C:ad)(lf:Nat)(ee:dp)(k:O×O×O×O×O×O×O->J->ab)(s:O×O×O×O×O×O×O)(h:J):ab:=
 FH C lf (λa b c d g i j=>k (a,b,c,d,g,i,j)) ee s.1 s.2.1 s.2.2.1 s.2.2.2.1 s.2.2.2.2.1 s.2.2.2.2.2.1 s.2.2.2.2.2.2 h
def ahb(C:ad)(lf:Nat)(n:hY)(aG x7 x8 x9 aU x23:O)(h:J):ab:=
 n aG x7 x8 x9 aU (bD 6) x23 h
theorem azv{n:hY}:∀F h,ar eZ C lf [1,1,1,1,0,1,0,0,1,1,0,0,1,1,1,1,1,1,1,0,0] F h (ln n 6 7 8 9 10 12 23) a0 (bI 1 fz (bI 0 eA an))=dD (ahb C lf n) 6 7 8 9 10 23 F h:=by
 intro F h;kernel_rfl
def ahc(C:ad)(lf:Nat)(n:dp)(aG x7 x8 x9 aU x23:O)(h:J):ab:=
 ahb C lf (λa b c d g i j=>bk (zo C lf n) lf (a,b,c,d,g,i,j)) aG x7 x8 x9 aU x23 h
theorem azw{n:dp}:∀F h,ar eZ C lf [1,1,1,1,0,1,0,0,1,1,0,0,1,1,1,1,1,1,1,0] F h (dD n 6 7 8 9 10 23) a0 (bI 1 fz (bI 0 eA an))=dD (ahc C lf n) 6 7 8 9 10 23 F h:=bg (b:=b7 eZ [1,1,1,1,0,1,0,0,1,1,0,0,1,1,1,1,1,1,1,0,1]) (by kernel_rfl) (fY (id:=4) (a:=b7 eZ [1,1,1,1,0,1,0,0,1,1,0,0,1,1,1,1,1,1,1,0,1,0]) (by kernel_rfl) (gJ (g:=λF=>(F 6,F 7,F 8,F 9,F 10,F 12,F 23)) (body:=zo C lf n) (by kernel_rfl) (λk=>(azu (n:=λaG x7 x8 x9 aU x12 x23 h=>k (aG,x7,x8,x9,aU,x12,x23) h))))) (azv (n:=λaG x7 x8 x9 aU x12 x23 h=>bk (zo C lf n) lf (aG,x7,x8,x9,aU,x12,x23) h))
def WE(C:ad)(lf:Nat)(n:bK)(aG x7 x8 x9 aU x23:O)(h:J):ab:=
 ahc C lf (Ln C lf n) aG x7 x8 x9 aU x23 h
theorem azx{n:bK}:∀F h,ar eZ C lf [1,1,1,1,0,1,0,0,1,1,0,0,1,1,1,1,1,1,1] F h (bG n 6 7 23) a0 (bI 1 fz (bI 0 eA an))=dD (WE C lf n) 6 7 8 9 10 23 F h:=bg (by kernel_rfl) azs azw
def WG(C:ad)(lf:Nat)(n:dp)(aG x7 x8 x9 x23:O)(h:J):ab:=
 cB .geq 3 x9 (I 0) λa=>n aG x7 x8 x9 (some a) x23 h
theorem azy{n:dp}:∀F h,ar eZ C lf [1,1,1,1,0,1,0,0,1,1,0,0,1,1,1,1,1,1,0] F h (dD n 6 7 8 9 10 23) a0 (bI 1 fz (bI 0 eA an))=cR (WG C lf n) 6 7 8 9 23 F h:=by
 intro F h;kernel_rfl
def Lo(C:ad)(lf:Nat)(n:bK)(aG x7 x8 x9 x23:O)(h:J):ab:=
 WG C lf (WE C lf n) aG x7 x8 x9 x23 h
theorem azz{n:bK}:∀F h,ar eZ C lf [1,1,1,1,0,1,0,0,1,1,0,0,1,1,1,1,1,1] F h (bG n 6 7 23) a0 (bI 1 fz (bI 0 eA an))=cR (Lo C lf n) 6 7 8 9 23 F h:=bg (by kernel_rfl) azx azy
def Lp(C:ad)(lf:Nat)(n:cC)(aG x7 x8 x9 aU x23:O)(h:J):ab:=
 cB .gtr 3 x9 (I 0) λa=>b3 a aU h λb k=>qn a b (ob x7 λa=>dw 307 aG k λb=>cn .sub 3 b (I 1) λb=>b2 (gp ao 33 1 [0] [b] k) λb k=>b2 (eX ao .append #[33,33] [a,b] k) λa=>n aG (some a) x8 x9 x23) (n aG x7 x8 x9 x23 k)
theorem azB{n:cC}:∀F h,ar eZ C lf [1,1,1,1,0,1,0,0,1,1,0,0,1,1,1,1,1,0] F h (cR n 6 7 8 9 23) a0 (bI 1 fz (bI 0 eA an))=dD (Lp C lf n) 6 7 8 9 10 23 F h:=by
 intro F h;kernel_rfl
def Lq(C:ad)(lf:Nat)(n:bK)(aG x7 x8 x9 aU x23:O)(h:J):ab:=
 Lp C lf (Lo C lf n) aG x7 x8 x9 aU x23 h
theorem azC{n:bK}:∀F h,ar eZ C lf [1,1,1,1,0,1,0,0,1,1,0,0,1,1,1,1,1] F h (bG n 6 7 23) a0 (bI 1 fz (bI 0 eA an))=dD (Lq C lf n) 6 7 8 9 10 23 F h:=bg (by kernel_rfl) azz azB
def FE(C:ad)(lf:Nat)(n:hY)(ay:dp)(aG x7 x8 x9 aU x11 x23:O)(h:J):ab:=
 lb .lss 3 x11 x8 (ob aU λa=>b3 a x11 h λb k=>dL (cT true (some a) (cJ C 105 [b] k λa k=>some (.ret a,k)) k) λb k=>b3 a (bin ao .lss 3 b (I 1)) k λb k=>b3 a (some b) k λb k=>dI b aG k λc k=>dI b x11 k λd k=>dI b (ev c) k λc k=>dI b (bZ 12 c) k λc k=>dI b (eu 278 1 c d) k λc k=>jg .eql 3 b (bO c k) (I 0) k λc k=>b3 a (jH b (.bool true) c) k λb k=>hA a b λa=>cB .add 3 x11 (I 1) λb=>n aG x7 x8 x9 (some a) (some b) x23 k) (ay aG x7 x8 x9 aU x23 h)
theorem ay0{n:hY}{ay:dp}:∀F h,ar eZ C lf [1,1,1,1,0,1,0,0,1,1,0,0,1,1,1,1,0,1,0,0] F h (ln n 6 7 8 9 10 11 23) a0 (bI 2 (dD ay 6 7 8 9 10 23) (bI 1 fz (bI 0 eA an)))=ln (FE C lf n ay) 6 7 8 9 10 11 23 F h:=by
 intro F h;kernel_rfl
def zp(C:ad)(lf:Nat)(ay:dp)(k:O×O×O×O×O×O×O->J->ab)(s:O×O×O×O×O×O×O)(h:J):ab:=
 FE C lf (λa b c d g i j=>k (a,b,c,d,g,i,j)) ay s.1 s.2.1 s.2.2.1 s.2.2.2.1 s.2.2.2.2.1 s.2.2.2.2.2.1 s.2.2.2.2.2.2 h
def ag0(C:ad)(lf:Nat)(n:hY)(aG x7 x8 x9 aU x23:O)(h:J):ab:=
 n aG x7 x8 x9 aU (bD 6) x23 h
theorem ay1{n:hY}:∀F h,ar eZ C lf [1,1,1,1,0,1,0,0,1,1,0,0,1,1,1,1,0,0] F h (ln n 6 7 8 9 10 11 23) a0 (bI 1 fz (bI 0 eA an))=dD (ag0 C lf n) 6 7 8 9 10 23 F h:=by
 intro F h;kernel_rfl
def ag1(C:ad)(lf:Nat)(n:dp)(aG x7 x8 x9 aU x23:O)(h:J):ab:=
 ag0 C lf (λa b c d g i j=>bk (zp C lf n) lf (a,b,c,d,g,i,j)) aG x7 x8 x9 aU x23 h
theorem ay2{n:dp}:∀F h,ar eZ C lf [1,1,1,1,0,1,0,0,1,1,0,0,1,1,1,1,0] F h (dD n 6 7 8 9 10 23) a0 (bI 1 fz (bI 0 eA an))=dD (ag1 C lf n) 6 7 8 9 10 23 F h:=bg (b:=b7 eZ [1,1,1,1,0,1,0,0,1,1,0,0,1,1,1,1,0,1]) (by kernel_rfl) (fY (id:=2) (a:=b7 eZ [1,1,1,1,0,1,0,0,1,1,0,0,1,1,1,1,0,1,0]) (by kernel_rfl) (gJ (g:=λF=>(F 6,F 7,F 8,F 9,F 10,F 11,F 23)) (body:=zp C lf n) (by kernel_rfl) (λk=>(ay0 (n:=λaG x7 x8 x9 aU x11 x23 h=>k (aG,x7,x8,x9,aU,x11,x23) h))))) (ay1 (n:=λaG x7 x8 x9 aU x11 x23 h=>bk (zp C lf n) lf (aG,x7,x8,x9,aU,x11,x23) h))
def ag2(C:ad)(lf:Nat)(n:bK)(aG x7 x8 x9 aU x23:O)(h:J):ab:=
 ag1 C lf (Lq C lf n) aG x7 x8 x9 aU x23 h
theorem ay3{n:bK}:∀F h,ar eZ C lf [1,1,1,1,0,1,0,0,1,1,0,0,1,1,1,1] F h (bG n 6 7 23) a0 (bI 1 fz (bI 0 eA an))=dD (ag2 C lf n) 6 7 8 9 10 23 F h:=bg (by kernel_rfl) azC ay2
noncomputable def ag3(C:ad)(lf:Nat)(n:dp)(aG x7 x8 x9 x23:O)(h:J):ab:=
 n aG x7 x8 x9 (some (.bool true)) x23 h
theorem ay4{n:dp}:∀F h,ar eZ C lf [1,1,1,1,0,1,0,0,1,1,0,0,1,1,1,0] F h (dD n 6 7 8 9 10 23) a0 (bI 1 fz (bI 0 eA an))=cR (ag3 C lf n) 6 7 8 9 23 F h:=by
 intro F h;kernel_rfl
def Wv(C:ad)(lf:Nat)(n:bK)(aG x7 x8 x9 x23:O)(h:J):ab:=
 ag3 C lf (ag2 C lf n) aG x7 x8 x9 x23 h
theorem ay5{n:bK}:∀F h,ar eZ C lf [1,1,1,1,0,1,0,0,1,1,0,0,1,1,1] F h (bG n 6 7 23) a0 (bI 1 fz (bI 0 eA an))=cR (Wv C lf n) 6 7 8 9 23 F h:=bg (by kernel_rfl) ay3 ay4
def Ww(C:ad)(lf:Nat)(n:cC)(aG x7 x8 x23:O)(h:J):ab:=
 aP C 105 x8 h λa=>n aG x7 x8 (some a) x23
theorem ay6{n:cC}:∀F h,ar eZ C lf [1,1,1,1,0,1,0,0,1,1,0,0,1,1,0] F h (cR n 6 7 8 9 23) a0 (bI 1 fz (bI 0 eA an))=bj (Ww C lf n) 6 7 8 23 F h:=by
 intro F h;kernel_rfl
def Lf(C:ad)(lf:Nat)(n:bK)(aG x7 x8 x23:O)(h:J):ab:=
 Ww C lf (Wv C lf n) aG x7 x8 x23 h
theorem ay7{n:bK}:∀F h,ar eZ C lf [1,1,1,1,0,1,0,0,1,1,0,0,1,1] F h (bG n 6 7 23) a0 (bI 1 fz (bI 0 eA an))=bj (Lf C lf n) 6 7 8 23 F h:=bg (by kernel_rfl) ay5 ay6
def Lg(C:ad)(lf:Nat)(n:bo)(az:bK)(aG x7 x8 x23:O)(h:J):ab:=
 ob aG λa=>ob x8 λb=>ef 12 a λa=>ob (eu 278 1 a b) λa=>ob (bO a h) λa=>eH .eql 3 a (I 0) (az aG x7 x23 h) (n aG x7 x8 x23 h)
theorem ay8{n:bo}{az:bK}:∀F h,ar eZ C lf [1,1,1,1,0,1,0,0,1,1,0,0,1,0] F h (bj n 6 7 8 23) a0 (bI 1 (bG az 6 7 23) (bI 0 eA an))=bj (Lg C lf n az) 6 7 8 23 F h:=by
 intro F h;kernel_rfl
def ag4(C:ad)(lf:Nat)(n:bK)(az:bK)(aG x7 x8 x23:O)(h:J):ab:=
 Lg C lf (Lf C lf n) az aG x7 x8 x23 h
theorem ay9{n:bK}{az:bK}:∀F h,ar eZ C lf [1,1,1,1,0,1,0,0,1,1,0,0,1] F h (bG n 6 7 23) a0 (bI 1 (bG az 6 7 23) (bI 0 eA an))=bj (ag4 C lf n az) 6 7 8 23 F h:=bg (by kernel_rfl) ay7 ay8
noncomputable def Wx(C:ad)(lf:Nat)(n:bo)(aG x7 x23:O)(h:J):ab:=
 ob x23 λa=>n aG x7 (some a) x23 h
theorem aza{n:bo}:∀F h,ar eZ C lf [1,1,1,1,0,1,0,0,1,1,0,0,0] F h (bj n 6 7 8 23) a0 (bI 1 fz (bI 0 eA an))=bG (Wx C lf n) 6 7 23 F h:=by
 intro F h;kernel_rfl
def Wy(C:ad)(lf:Nat)(n:bK)(az:bK)(aG x7 x23:O)(h:J):ab:=
 Wx C lf (ag4 C lf n az) aG x7 x23 h
theorem azb{n:bK}{az:bK}:∀F h,ar eZ C lf [1,1,1,1,0,1,0,0,1,1,0,0] F h (bG n 6 7 23) a0 (bI 1 (bG az 6 7 23) (bI 0 eA an))=bG (Wy C lf n az) 6 7 23 F h:=bg (by kernel_rfl) ay9 aza
def Wz(C:ad)(lf:Nat)(n:bK)(aG x7 x23:O)(h:J):ab:=
 Wy C lf (uv C lf n) (uv C lf n) aG x7 x23 h
theorem azc{n:bK}:∀F h,ar eZ C lf [1,1,1,1,0,1,0,0,1,1] F h (bG n 6 7 23) a0 (bI 0 eA an)=bG (Wz C lf n) 6 7 23 F h:=bg (a:=b7 eZ [1,1,1,1,0,1,0,0,1,1,0]) (by kernel_rfl) azA (fY (id:=1) (by kernel_rfl) azb)
noncomputable def Lh(C:ad)(lf:Nat)(n:bK)(av:aw)(aG x7 x23 Yh:O)(h:J):ab:=
 ob Yh λa=>gn a (n aG x7 x23 h) (av x7 h)
theorem azd{n:bK}{av:aw}:∀F h,ar eZ C lf [1,1,1,1,0,1,0,0,1,0] F h (bG n 6 7 23) a0 (bI 0 (aM av 7) an)=bj (Lh C lf n av) 6 7 23 24 F h:=by
 intro F h;kernel_rfl
def Li(C:ad)(lf:Nat)(n:bK)(av:aw)(aG x7 x23 Yh:O)(h:J):ab:=
 Lh C lf (Wz C lf n) av aG x7 x23 Yh h
theorem aze{n:bK}{av:aw}:∀F h,ar eZ C lf [1,1,1,1,0,1,0,0,1] F h (bG n 6 7 23) a0 (bI 0 (aM av 7) an)=bj (Li C lf n av) 6 7 23 24 F h:=bg (by kernel_rfl) azc azd
def Lj(C:ad)(lf:Nat)(n:bo)(aG x7 x23:O)(h:J):ab:=
 cB .lss 3 x23 (I 278) λa=>n aG x7 x23 (some a) h
theorem azf{n:bo}:∀F h,ar eZ C lf [1,1,1,1,0,1,0,0,0] F h (bj n 6 7 23 24) a0 (bI 0 eA an)=bG (Lj C lf n) 6 7 23 F h:=by
 intro F h;kernel_rfl
def FF(C:ad)(lf:Nat)(n:bK)(av:aw)(aG x7 x23:O)(h:J):ab:=
 Lj C lf (Li C lf n av) aG x7 x23 h
theorem azg{n:bK}{av:aw}:∀F h,ar eZ C lf [1,1,1,1,0,1,0,0] F h (bG n 6 7 23) a0 (bI 0 (aM av 7) an)=bG (FF C lf n av) 6 7 23 F h:=bg (by kernel_rfl) aze azf
def ud(C:ad)(lf:Nat)(av:aw)(k:O×O×O->J->ab)(s:O×O×O)(h:J):ab:=
 FF C lf (λa b c=>k (a,b,c)) av s.1 s.2.1 s.2.2 h
def ag5(C:ad)(lf:Nat)(n:bK)(aG x7:O)(h:J):ab:=
 n aG x7 (bD 0) h
theorem azh{n:bK}:∀F h,ar eZ C lf [1,1,1,1,0,0] F h (bG n 6 7 23) a0 an=a7 (ag5 C lf n) 6 7 F h:=by
 intro F h;kernel_rfl
def ag6(C:ad)(lf:Nat)(n:aw)(aG x7:O)(h:J):ab:=
 ag5 C lf (λa b c=>bk (ud C lf n) lf (a,b,c)) aG x7 h
theorem azi{n:aw}:∀F h,ar eZ C lf [1,1,1,1,0] F h (aM n 7) a0 an=a7 (ag6 C lf n) 6 7 F h:=bg (b:=b7 eZ [1,1,1,1,0,1]) (by kernel_rfl) (fY (id:=0) (a:=b7 eZ [1,1,1,1,0,1,0]) (by kernel_rfl) (gJ (g:=λF=>(F 6,F 7,F 23)) (body:=ud C lf n) (by kernel_rfl) (λk=>(azg (n:=λaG x7 x23 h=>k (aG,x7,x23) h))))) (azh (n:=λaG x7 x23 h=>bk (ud C lf n) lf (aG,x7,x23) h))
def ag7(C:ad)(lf:Nat)(r:aS)(aG x7:O)(h:J):ab:=
 ag6 C lf (FG C lf r) aG x7 h
theorem azj{r:aS}:∀F h,ar eZ C lf [1,1,1,1] F h ba (a7 r 4 5) an=a7 (ag7 C lf r) 6 7 F h:=bg (by kernel_rfl) azt azi
noncomputable def ag8(C:ad)(lf:Nat)(n:aS)(aG:O)(h:J):ab:=
 n aG (some (.val (.slice none 0 0))) h
theorem azk{n:aS}:∀F h,ar eZ C lf [1,1,1,0] F h (a7 n 6 7) a0 an=aM (ag8 C lf n) 6 F h:=by
 intro F h;kernel_rfl
def WA(C:ad)(lf:Nat)(r:aS)(aG:O)(h:J):ab:=
 ag8 C lf (ag7 C lf r) aG h
theorem azl{r:aS}:∀F h,ar eZ C lf [1,1,1] F h ba (a7 r 4 5) an=aM (WA C lf r) 6 F h:=bg (by kernel_rfl) azj azk
def WB(C:ad)(lf:Nat)(n:aw)(x0 x1:O)(h:J):ab:=
 dw 4 x0 h λa=>k6 308 a x1 λa=>n (some a) h
theorem azm{n:aw}:∀F h,ar eZ C lf [1,1,0] F h (aM n 6) a0 an=a7 (WB C lf n) 0 1 F h:=by
 intro F h;kernel_rfl
def Lk(C:ad)(lf:Nat)(r:aS)(x0 x1:O)(h:J):ab:=
 WB C lf (WA C lf r) x0 x1 h
theorem azn{r:aS}:∀F h,ar eZ C lf [1,1] F h ba (a7 r 4 5) an=a7 (Lk C lf r) 0 1 F h:=bg (by kernel_rfl) azl azm
def Ll(C:ad)(lf:Nat)(n:aS)(r:aS)(x0 x1:O)(h:J):ab:=
 a1 C 104 x0 x1 h λa k=>fM a (r (some (.val (.slice none 0 0))) (bD 2) k) (n x0 x1 k)
theorem azo{n:aS}{r:aS}:∀F h,ar eZ C lf [1,0] F h (a7 n 0 1) (a7 r 4 5) an=a7 (Ll C lf n r) 0 1 F h:=by
 intro F h;kernel_rfl
def ag9(C:ad)(lf:Nat)(r:aS)(x0 x1:O)(h:J):ab:=
 Ll C lf (Lk C lf r) r x0 x1 h
theorem azp{r:aS}:∀F h,ar eZ C lf [1] F h ba (a7 r 4 5) an=a7 (ag9 C lf r) 0 1 F h:=bg (by kernel_rfl) azn azo
noncomputable def aha(C:ad)(lf:Nat)(n:aS)(x0 x1:O)(h:J):ab:=
 n x0 x1 h
theorem azq{n:aS}:∀F h,ar eZ C lf [0] F h (a7 n 0 1) a0 an=a7 (aha C lf n) 0 1 F h:=by
 intro F h;kernel_rfl
def WC(C:ad)(lf:Nat)(r:aS)(x0 x1:O)(h:J):ab:=
 aha C lf (ag9 C lf r) x0 x1 h
theorem azr{r:aS}:∀F h,ar eZ C lf [] F h ba (a7 r 4 5) an=a7 (WC C lf r) 0 1 F h:=bg (by kernel_rfl) azp azq
def DC(C:ad)(lf:Nat)(ah aj:U)(h:J):ab:=WC C lf Di (some ah) (some aj) h
def adh:cx ao:=hr eZ DC (λC lf ah aj h=>cS (K:=(a7 Di 4 5)) (by kernel_rfl) (Eq.trans (azr _ h) (by kernel_rfl))) (by kernel_rfl)
end
section
open Classical
theorem aB0{C:ad}{lf:Nat}{fq:bK}{aG x7 x8 x9 x23:O}{h:J}:Wv C lf fq aG x7 x8 x9 x23 h=bk (zp C lf (λaG x7 x8 x9 aU x23 h=>Lq C lf fq aG x7 x8 x9 aU x23 h)) lf (aG,x7,x8,x9,some (.bool true),some (I 6),x23) h:=rfl
theorem aB1{C:ad}{lf:Nat}{fq:bK}{aG x7 x8 x9 aU x23:O}{h:J}:WE C lf fq aG x7 x8 x9 aU x23 h=bk (zo C lf (λaG x7 x8 x9 aU x23 h=>Ln C lf fq aG x7 x8 x9 aU x23 h)) lf (aG,x7,x8,x9,aU,some (I 6),x23) h:=rfl
theorem aB2{C:ad}{lf:Nat}{r:aS}{aG:O}{h:J}:WA C lf r aG h=bk (ud C lf (λx7 h=>FG C lf r x7 h)) lf (aG,some (.val (.slice none 0 0)),some (I 0)) h:=rfl
theorem aB3{C:ad}{lf:Nat}{r:aS}{x0 x1:O}{h:J}:WC C lf r x0 x1 h=Ll C lf (λx0 x1 h=>Lk C lf r x0 x1 h) r x0 x1 h:=rfl
section
variable{lf:Nat}{h h0:J}{R:eE}{n N:Nat}{on:Nat->Bool}{q:Nat->Option Nat}{b:Nat->Nat}{now:Int}{us:Nat->Bool}{rd:Nat->Nat->U}{bl:Nat->Nat->Nat}{i p:Nat}{ino:Int}
theorem Rv{x:U}{l:List Nat}(c6:eQ h0 h x l)(F:aD h0 h (λ_=>False))(aJ:l.length<=10000)(j:Nat):∃bF h',gp ao 33 1 [0] [I (j:Int)] h=some (.aF h.next 0 1 (some 1) 0,h.new (cI 3 [I (j:Int)]))/\
 eX ao .append #[33,33] [x,.aF h.next 0 1 (some 1) 0] (h.new (cI 3 [I (j:Int)]))=some (bF,h')/\eQ h0 h' bF (l++[j])/\aD h0 h' (λ_=>False):=by
 obtain⟨bF,h',aj,aC,a8,cF,dK,dH,fE,h4⟩:=tk (h:=h) (y:=I (j:Int)) ti rfl rfl rfl c6.aF (by omega) (by omega);refine⟨bF,h',aj,aC,⟨?_,λk ai=>?_⟩,⟨dK.trans F.aO,Nat.le_trans F.next cF,λk ai _=>(dH k (Nat.lt_of_lt_of_le ai F.next) (λaQ=>absurd (c6.new k aQ) (by omega))).trans (F.same k ai (λe=>e)),λau=>h4 (F.dm au)⟩⟩
 ·have e:ints (l++[j])=ints l++[I (j:Int)]:=by simp[ints]
  rw[e,List.length_append];exact a8
 ·rcases fE k ai with aQ|aQ
  ·exact c6.new k aQ
  ·exact Nat.le_trans F.next aQ
theorem Sa(f:Nat->Nat)(W:Nat->Bool):(kJ f W).length<=10000:=by
 unfold kJ;rw[List.length_map]
 have:=List.length_filter_le W (List.range' 12 296)
 rw[List.length_range'] at this;omega
theorem ahP{C:ad}(nn:vX C)(A:bE h R n N on q b now us rd)(M:dg N rd bl)(hi:i<N)(aB:p<278){x7 x9 x23:O}(ay:dp):∀(d t:Nat) (v:Bool),p-t=d->6<=t->(t<=p\/t=6)->(v=true↔∀k,k<t->22<=k->bl i (a5 k)=0)->∀f,d<f->
 bk (zp C lf ay) f (some (.ptr R.bs ((i+1)*308)),x7,some (I (p:Int)),x9,some (.bool v),some (I (t:Int)),x23) h=
  ay (some (.ptr R.bs ((i+1)*308))) x7 (some (I (p:Int))) x9 (some (.bool (decide (∀k,k<p->22<=k->bl i (a5 k)=0)))) x23 h
 |0,t,v,aI,aN,Rg,hv,f,au=>by
  obtain⟨f,rfl⟩:=dx f (by omega);have a9:decide ((t:Int)<(p:Int))=false:=br (by omega)
  have e:decide (∀k,k<p->22<=k->bl i (a5 k)=0)=v:=by
   rw[Bool.eq_iff_iff,decide_eq_true_eq,hv];exact⟨λh k k1 k2=>h k (by omega) k2,λh k k1 k2=>h k (by omega) k2⟩
  rw[df,e];unfold zp FE;simp only[aA,a9]
 |d+1,t,v,aI,aN,Rg,hv,f,au=>by
  obtain⟨f,rfl⟩:=dx f (by omega);have a9:decide ((t:Int)<(p:Int))=true:=bu (by omega);have dr:IntKind.i64.wrap ((t:Int)+1)=((t+1:Nat):Int):=cD (by omega);have bW:=uw (R:=R) (i:=i) (k:=t) (m:=278) (o:=12) (by omega);have eM:=ni A M hi (c:=12+t) (by omega) (by omega);rw[rq (by omega)] at eM;have bc:=nn h t (by omega)
  have bp:=ahP (C:=C) (x7:=x7) (x9:=x9) (x23:=x23) nn A M hi aB ay d (t+1) (v&&(decide (t<22)||decide (bl i (a5 t)=0))) (by omega) (by omega) (.inl (by omega)) (by
   rw[Bool.and_eq_true,Bool.or_eq_true,decide_eq_true_eq,decide_eq_true_eq,hv];constructor
   ·rintro ⟨h1,h2⟩ k k1 k2
    by_cases e:k=t
    ·subst e;exact h2.resolve_left (by omega)
    ·exact h1 k (by omega) k2
   ·intro h1;refine⟨λk k1 k2=>h1 k (by omega) k2,?_⟩;by_cases e:t<22
    ·exact .inl e
    ·exact .inr (h1 t (by omega) (by omega))) f (by omega)
  rw[df];show FE C lf (λaG x7 x8 x9 aU x11 x23 h=>bk (zp C lf ay) f (aG,x7,x8,x9,aU,x11,x23) h) ay _ _ _ _ _ _ _ h=_;unfold FE;cases v with
  |false=>
   rw[Bool.false_and] at bp;simp only[aA,a9,dr,iL];exact bp
  |true=>
   rw[Bool.true_and] at bp;by_cases e:t<22
   ·have d1:decide (ej t<1)=true:=bu (by unfold ej;rw[if_neg (by omega)];omega);rw[bu e,Bool.true_or] at bp;simp only[aA,a9,dr,bc,d1,iL];exact bp
   ·have d1:decide (ej t<1)=false:=br (by unfold ej;rw[if_neg (by omega)];omega)
    have d2:decide ((bl i (a5 t):Int)=0)=decide (bl i (a5 t)=0):=by
     rw[Bool.eq_iff_iff,decide_eq_true_eq,decide_eq_true_eq];omega
    rw[br e,Bool.false_or] at bp;simp only[aA,a9,dr,bc,d1,bW,eM,d2];exact bp
theorem ahQ{C:ad}(nn:vX C)(A:bE h R n N on q b now us rd)(M:dg N rd bl)(hi:i<N)(aB:p<278){x7 x23:O}(ay:dp):∀(d t:Nat) (v:Bool),p-t=d->6<=t->(t<=p\/t=6)->(v=true↔(6<=p/\∀k,k<t->6<=k->(k-6)/16=(p-6)/16->bl i (a5 k)=0))->∀f,d<f->
 bk (zo C lf ay) f (some (.ptr R.bs ((i+1)*308)),x7,some (I (p:Int)),some (I (ej p)),some (.bool v),some (I (t:Int)),x23) h=
  ay (some (.ptr R.bs ((i+1)*308))) x7 (some (I (p:Int))) (some (I (ej p))) (some (.bool (decide (6<=p/\∀k,k<p->6<=k->(k-6)/16=(p-6)/16->bl i (a5 k)=0)))) x23 h
 |0,t,v,aI,aN,Rg,hv,f,au=>by
  obtain⟨f,rfl⟩:=dx f (by omega);have a9:decide ((t:Int)<(p:Int))=false:=br (by omega)
  have e:decide (6<=p/\∀k,k<p->6<=k->(k-6)/16=(p-6)/16->bl i (a5 k)=0)=v:=by
   rw[Bool.eq_iff_iff,decide_eq_true_eq,hv];exact⟨λh=>⟨h.1,λk k1 k2=>h.2 k (by omega) k2⟩,λh=>⟨h.1,λk k1 k2=>h.2 k (by omega) k2⟩⟩
  rw[df,e];unfold zo FH;simp only[aA,a9]
 |d+1,t,v,aI,aN,Rg,hv,f,au=>by
  obtain⟨f,rfl⟩:=dx f (by omega);have a9:decide ((t:Int)<(p:Int))=true:=bu (by omega);have dr:IntKind.i64.wrap ((t:Int)+1)=((t+1:Nat):Int):=cD (by omega);have bW:=uw (R:=R) (i:=i) (k:=t) (m:=278) (o:=12) (by omega);have eM:=ni A M hi (c:=12+t) (by omega) (by omega);rw[rq (by omega)] at eM;have bc:=nn h t (by omega)
  have bp:=ahQ (C:=C) (x7:=x7) (x23:=x23) nn A M hi aB ay d (t+1) (v&&(decide (ej t≠ej p)||decide (bl i (a5 t)=0))) (by omega) (by omega) (.inl (by omega)) (by
   have n5:ej t≠ej p↔(t-6)/16≠(p-6)/16:=by
    rw[yK (by omega),yK (by omega)];omega
   rw[Bool.and_eq_true,Bool.or_eq_true,decide_eq_true_eq,decide_eq_true_eq,hv,n5];constructor
   ·rintro ⟨⟨h0,h1⟩,h2⟩
    refine⟨h0,λk k1 k2 hG=>?_⟩;by_cases e:k=t
    ·subst e;exact h2.resolve_left (λx=>x hG)
    ·exact h1 k (by omega) k2 hG
   ·rintro ⟨h0,h1⟩
    refine⟨⟨h0,λk k1 k2 hG=>h1 k (by omega) k2 hG⟩,?_⟩;by_cases e:(t-6)/16=(p-6)/16
    ·exact .inr (h1 t (by omega) (by omega) e)
    ·exact .inl e) f (by omega)
  rw[df];show FH C lf (λaG x7 x8 x9 aU x12 x23 h=>bk (zo C lf ay) f (aG,x7,x8,x9,aU,x12,x23) h) ay _ _ _ _ _ _ _ h=_;unfold FH;cases v with
  |false=>
   rw[Bool.false_and] at bp;simp only[aA,a9,dr,iL];exact bp
  |true=>
   rw[Bool.true_and] at bp;by_cases e:ej t=ej p
   ·have d1:decide (ej t≠ej p)=false:=br (λx=>x e)
    have d2:decide ((bl i (a5 t):Int)=0)=decide (bl i (a5 t)=0):=by
     rw[Bool.eq_iff_iff,decide_eq_true_eq,decide_eq_true_eq];omega
    rw[d1,Bool.false_or] at bp;simp only[aA,a9,dr,bc,d1,bW,eM,d2];exact bp
   ·have d1:decide (ej t≠ej p)=true:=bu e;rw[d1,Bool.true_or] at bp;simp only[aA,a9,dr,bc,d1,iL];exact bp
end
end
section
open Classical
section
variable{lf:Nat}{h h0:J}{R:eE}{n N:Nat}{on:Nat->Bool}{q:Nat->Option Nat}{b:Nat->Nat}{now:Int}{us:Nat->Bool}{rd:Nat->Nat->U}{bl:Nat->Nat->Nat}{i p:Nat}{ino:Int}
noncomputable def jL(f:Nat->Nat)(p c:Nat):Bool:=decide (WP f p c\/(22<=p/\c=35))
noncomputable def wb(f:Nat->Nat)(p c:Nat):Bool:=decide ((WP f p c\/(22<=p/\c=35))\/(6<=p/\c=dt ((p-6)/16)))
theorem aB4{C:ad}(A:bE h R n N on q b now us rd)(M:dg N rd bl)(K:hX n N on bl)(S:lp bl i)(hi:i<N)(aB:p<278)(iQ:0<bl i (a5 p)){x x23:_}(c6:eQ h0 h x (kJ (bl i) (mU (bl i) p)))(F:aD h0 h (λ_=>False))(fq:cC):
 ∃bF h',Lp C lf fq (some (.ptr R.bs ((i+1)*308))) (some x) (some (I (p:Int))) (some (I (ej p))) (some (.bool (decide (∀k,k<p->22<=k->bl i (a5 k)=0)))) x23 h=
  fq (some (.ptr R.bs ((i+1)*308))) (some bF) (some (I (p:Int))) (some (I (ej p))) x23 h'/\eQ h0 h' bF (kJ (bl i) (jL (bl i) p))/\aD h0 h' (λ_=>False):=by
 have fG:n<=4096:=A.ref.v.choose_spec.choose_spec.2.2.ck;unfold Lp;by_cases m4:22<=p
 ·have d1:decide ((0:Int)<ej p)=true:=bu (by rw[yK (by omega)];omega);by_cases aR:∀k,k<p->22<=k->bl i (a5 k)=0
  ·have hv:0<bl i 35:=(WP.all S (by omega) (by omega)).1 (.inr (.inr ⟨rfl,p,aB,m4,iQ⟩));have qU:=ni A M hi (c:=307) (by omega) (by omega);rw[zN] at qU;have jz:=Cg K fG hi (c:=35) (by omega) (by omega) hv;obtain⟨bF,h',aj,aC,xY,F'⟩:=Rv c6 F (Sa _ _) (bl i 35-1);refine⟨bF,h',?_,?_,F'⟩
   ·simp only[aA,d1,bu aR,qU,jz,aj,aC]
   ·rw[R9 (f:=bl i) (W:=mU (bl i) p) (W':=jL (bl i) p) (a:=35) (by omega) (by omega) (λc ae=>WP.aEA aR (of_decide_eq_true ae)) (λc=>by
     unfold jL mU;rw[decide_eq_true_eq,decide_eq_true_eq]
     exact⟨λe=>e.elim .inl λe=> .inr e.2,λe=>e.elim .inl λe=> .inr ⟨m4,e⟩⟩)]
    exact xY
  ·refine⟨x,h,?_,?_,F⟩
   ·simp only[aA,d1,br aR]
   ·rw[EW (f:=bl i) (W:=mU (bl i) p) (W':=jL (bl i) p) λc _ _=>?_]
    ·exact c6
    ·unfold jL mU;rw[decide_eq_true_eq,decide_eq_true_eq];refine⟨λe=>e.elim id λe=>?_,.inl⟩;obtain⟨k,ai⟩:=Classical.not_forall.1 aR;obtain⟨k1,ai⟩:=Classical.not_imp.1 ai;obtain⟨k2,ai⟩:=Classical.not_imp.1 ai;exact .inr (.inr ⟨e.2,k,k1,k2,by omega⟩)
 ·have d1:decide ((0:Int)<ej p)=false:=br (by unfold ej;split<;>omega);refine⟨x,h,?_,?_,F⟩
  ·simp only[aA,d1,iL]
  ·rw[EW (f:=bl i) (W:=mU (bl i) p) (W':=jL (bl i) p) λc _ _=>?_]
   ·exact c6
   ·unfold jL mU;rw[decide_eq_true_eq,decide_eq_true_eq];exact⟨λe=>e.elim id λe=>absurd e.1 m4,.inl⟩
theorem aB5{C:ad}(A:bE h R n N on q b now us rd)(M:dg N rd bl)(K:hX n N on bl)(S:lp bl i)(hi:i<N)(aB:p<278)(iQ:0<bl i (a5 p)){x x23:_}(c6:eQ h0 h x (kJ (bl i) (jL (bl i) p)))(F:aD h0 h (λ_=>False))(fq:bo):
 ∃bF h',WD C lf fq (some (.ptr R.bs ((i+1)*308))) (some x) (some (I (p:Int))) (some (I (ej p))) (some (.bool (decide (6<=p/\∀k,k<p->6<=k->(k-6)/16=(p-6)/16->bl i (a5 k)=0)))) x23 h=
  fq (some (.ptr R.bs ((i+1)*308))) (some bF) (some (I (p:Int))) x23 h'/\eQ h0 h' bF (kJ (bl i) (wb (bl i) p))/\aD h0 h' (λ_=>False):=by
 have fG:n<=4096:=A.ref.v.choose_spec.choose_spec.2.2.ck;unfold WD;by_cases aR:6<=p/\∀k,k<p->6<=k->(k-6)/16=(p-6)/16->bl i (a5 k)=0
 ·obtain⟨bA,ve⟩:=aR;have bc:(p-6)/16<17:=by omega
  obtain⟨g1,g2⟩:=adv bc;have hv:0<bl i (dt ((p-6)/16)):=(WP.all S g1 (by omega)).1 (.inr (.inl ⟨p,aB,bA,rfl,iQ⟩));have qU:=ni A M hi (c:=290+(p-6)/16) (by omega) (by omega);rw[af5 bc] at qU;have bW:=uw (R:=R) (i:=i) (k:=(p-6)/16) (m:=17) (o:=290) bc;have jz:=Cg K fG hi g1 (by omega) hv;obtain⟨bF,h',aj,aC,xY,F'⟩:=Rv c6 F (Sa _ _) (bl i (dt ((p-6)/16))-1);refine⟨bF,h',?_,?_,F'⟩
  ·simp only[aA,bu (show 6<=p/\∀k,k<p->6<=k->(k-6)/16=(p-6)/16->bl i (a5 k)=0 from⟨bA,ve⟩),yK bA,bW,qU,jz,aj,aC]
  ·rw[R9 (f:=bl i) (W:=jL (bl i) p) (W':=wb (bl i) p) (a:=dt ((p-6)/16)) g1 (by omega) (λc ae=>WP.aoN bA aB ve (of_decide_eq_true ae)) (λc=>by
    unfold jL wb;rw[decide_eq_true_eq,decide_eq_true_eq]
    exact⟨λe=>e.elim .inl λe=> .inr e.2,λe=>e.elim .inl λe=> .inr ⟨bA,e⟩⟩)]
   exact xY
 ·refine⟨x,h,?_,?_,F⟩
  ·simp only[aA,br aR]
  ·rw[EW (f:=bl i) (W:=jL (bl i) p) (W':=wb (bl i) p) λc _ _=>?_]
   ·exact c6
   ·unfold jL wb;rw[decide_eq_true_eq,decide_eq_true_eq];refine⟨λe=>e.elim id λe=>?_,.inl⟩;obtain⟨k,ai⟩:=Classical.not_forall.1 λx=>aR ⟨e.1,x⟩
    obtain⟨k1,ai⟩:=Classical.not_imp.1 ai;obtain⟨k2,ai⟩:=Classical.not_imp.1 ai;obtain⟨hG,ai⟩:=Classical.not_imp.1 ai;exact .inl (.inr (.inl ⟨k,k1,k2,by rw[hG];exact e.2,by omega⟩))
theorem aB6{C:ad}(A:bE h R n N on q b now us rd)(M:dg N rd bl)(K:hX n N on bl)(hi:i<N)(aB:p<278)(iQ:0<bl i (a5 p)){x x23:_}(c6:eQ h0 h x (kJ (bl i) (wb (bl i) p)))(F:aD h0 h (λ_=>False))(fq:bK):
 ∃bF h',Lm C lf fq (some (.ptr R.bs ((i+1)*308))) (some x) (some (I (p:Int))) x23 h=
  fq (some (.ptr R.bs ((i+1)*308))) (some bF) x23 h'/\eQ h0 h' bF (kJ (bl i) (mU (bl i) (p+1)))/\aD h0 h' (λ_=>False):=by
 have fG:n<=4096:=A.ref.v.choose_spec.choose_spec.2.2.ck;have qU:=ni A M hi (c:=12+p) (by omega) (by omega);rw[rq aB] at qU;have bW:=uw (R:=R) (i:=i) (k:=p) (m:=278) (o:=12) aB;have jz:=Cg K fG hi (c:=a5 p) rn (sI aB) iQ;obtain⟨bF,h',aj,aC,xY,F'⟩:=Rv c6 F (Sa _ _) (bl i (a5 p)-1);refine⟨bF,h',?_,?_,F'⟩
 ·unfold Lm;simp only[aA,bW,qU,jz,aj,aC]
 ·rw[R9 (f:=bl i) (W:=wb (bl i) p) (W':=mU (bl i) (p+1)) (a:=a5 p) rn (sI aB) (λc ae=>?_) (λc=>by
   unfold wb mU;rw[decide_eq_true_eq,decide_eq_true_eq]
   exact WP.next iQ)]
  ·exact xY
  ·rcases of_decide_eq_true ae with(e|⟨e,bd⟩)|⟨e,bd⟩
   ·exact WP.lt aB e
   ·rw[bd];exact Nat.lt_trans (Gc e).1 (Gc e).2
   ·rw[bd];exact Qf e
theorem ahR{C:ad}(gy:300<=lf)(nn:vX C)(A:bE h0 R n N on q b now us rd)(M:dg N rd bl)(K:hX n N on bl)(S:lp bl i)(hi:i<N)(av:aw):∀(d p:Nat),p+d=278->∀f,d<f->∀h x,eQ h0 h x (kJ (bl i) (mU (bl i) p))->aD h0 h (λ_=>False)->
 ∃bF h',bk (ud C lf av) f (some (.ptr R.bs ((i+1)*308)),some x,some (I (p:Int))) h=av (some bF) h'/\eQ h0 h' bF (lK bl i)/\aD h0 h' (λ_=>False)
 |0,p,aB,f,au,h,x,c6,F=>by
  obtain⟨f,rfl⟩:=dx f (by omega);have HV:p=278:=by omega
  subst HV;refine⟨x,h,?_,?_,F⟩
  ·rw[df];unfold ud FF Lj;have a9:decide (((278:Nat):Int)<278)=false:=br (by omega);simp only[cf,b8,r0,a9];unfold Li Lh;simp only[cf,b8,qs]
  ·rw[afW,EW (W:=mU (bl i) 278) λc h1 h2=>by
    unfold mU
    rw[decide_eq_true_eq,decide_eq_true_eq,WP.all S h1 h2]]
   exact c6
 |d+1,p,aB,f,au,h,x,c6,F=>by
  obtain⟨f,rfl⟩:=dx f (by omega);have a9:decide ((p:Int)<278)=true:=bu (by omega);have dr:IntKind.i64.wrap ((p:Int)+1)=((p+1:Nat):Int):=cD (by omega);have iW:=A.gQ F λ_ _ e=>e
  have bW:=uw (R:=R) (i:=i) (k:=p) (m:=278) (o:=12) (by omega);have eM:=ni iW M hi (c:=12+p) (by omega) (by omega);rw[rq (by omega)] at eM;have bc:=nn h p (by omega);generalize ai:(λaG x7 x23 h=>bk (ud C lf av) f (aG,x7,x23) h:bK)=kk;have pZ:∀aG x7 x23 h,kk aG x7 x23 h=bk (ud C lf av) f (aG,x7,x23) h:=λ_ _ _ _=>by rw[<- ai]
  have pre:bk (ud C lf av) (f+1) (some (.ptr R.bs ((i+1)*308)),some x,some (I (p:Int))) h=
   Lg C lf (λaG x7 x8 x23 h=>Lf C lf (λaG x7 x23 h=>uv C lf kk aG x7 x23 h) aG x7 x8 x23 h) (λaG x7 x23 h=>uv C lf kk aG x7 x23 h) (some (.ptr R.bs ((i+1)*308))) (some x) (some (I (p:Int))) (some (I (p:Int))) h:=by
   rw[df];show FF C lf (λaG x7 x23 h=>bk (ud C lf av) f (aG,x7,x23) h) av _ _ _ h=_;rw[ai];unfold FF Lj;simp only[cf,b8,r0,a9];unfold Li Lh;simp only[cf,b8,sX];unfold Wz Wy Wx;simp only[cf,b8];rfl
  have last:∀bF h',eQ h0 h' bF (kJ (bl i) (mU (bl i) (p+1)))->aD h0 h' (λ_=>False)->∃ajt fF,uv C lf kk (some (.ptr R.bs ((i+1)*308))) (some bF) (some (I (p:Int))) h'=av (some ajt) fF/\eQ h0 fF ajt (lK bl i)/\aD h0 fF (λ_=>False):=λbF h' xY F'=>by
   obtain⟨x2,h2,s2,s5,bw⟩:=ahR gy nn A M K S hi av d (p+1) (by omega) f (by omega) h' bF xY F';refine⟨x2,h2,?_,s5,bw⟩;unfold uv;simp only[cf,b8,rZ,dr,pZ];exact s2
  rw[pre];unfold Lg;by_cases iQ:bl i (a5 p)=0
  ·have d1:decide ((bl i (a5 p):Int)=0)=true:=bu (by omega);simp only[aA,bW,eM,d1];refine last x h ?_ F
   rw[EW (W:=mU (bl i) p) λc _ _=>by
    unfold mU
    rw[decide_eq_true_eq,decide_eq_true_eq,WP.skip iQ]]
   exact c6
  ·have d1:decide ((bl i (a5 p):Int)=0)=false:=br (by omega);simp only[aA,bW,eM,d1];unfold Lf Ww;simp only[aA,bc];have f1:=λ(ay:dp) (x7 x9 x23:O)=>ahP (C:=C) (lf:=lf) (x7:=x7) (x9:=x9) (x23:=x23) nn iW M hi (p:=p) (by omega) ay (p-6) 6 true rfl (Nat.le_refl _) (.inr rfl) ⟨λ_ k k1 k2=>(by omega),λ_=>rfl⟩ lf (by omega)
   simp only[show((6:Nat):Int)=6 from rfl] at f1;rw[aB0,f1];obtain⟨x1,h1,s1,qu,aL⟩:=aB4 (C:=C) (lf:=lf) (x23:=some (I (p:Int))) iW M K S hi (by omega) (by omega) c6 F (λaG x7 x8 x9 x23 h=>Lo C lf (λaG x7 x23 h=>uv C lf kk aG x7 x23 h) aG x7 x8 x9 x23 h);unfold Lq;rw[s1];unfold Lo WG;have Yz:=A.gQ aL λ_ _ e=>e
   have d2:decide ((0:Int)<=ej p)=decide (6<=p):=by
    rw[Bool.eq_iff_iff,decide_eq_true_eq,decide_eq_true_eq];unfold ej;split<;>omega
   simp only[cf,b8,ZJ,d2]
   have f2:=λ(ay:dp) (x7 x23:O)=>ahQ (C:=C) (lf:=lf) (x7:=x7) (x23:=x23) nn Yz M hi (p:=p) (by omega) ay (p-6) 6 (decide (6<=p)) rfl (Nat.le_refl _) (.inr rfl) (by
    rw[decide_eq_true_eq]
    exact⟨λe=>⟨e,λk k1 k2=>(by omega)⟩,λe=>e.1⟩) lf (by omega)
   simp only[show((6:Nat):Int)=6 from rfl] at f2;rw[aB1,f2];obtain⟨x2,h2,s2,s5,bw⟩:=aB5 (C:=C) (lf:=lf) (x23:=some (I (p:Int))) Yz M K S hi (by omega) (by omega) qu aL (λaG x7 x8 x23 h=>Lm C lf (λaG x7 x23 h=>uv C lf kk aG x7 x23 h) aG x7 x8 x23 h);unfold Ln;rw[s2];have ajO:=A.gQ bw λ_ _ e=>e
   obtain⟨x3,h3,ea,xZ,c2⟩:=aB6 (C:=C) (lf:=lf) (x23:=some (I (p:Int))) ajO M K hi (by omega) (by omega) s5 bw (λaG x7 x23 h=>uv C lf kk aG x7 x23 h);rw[ea];exact last x3 h3 xZ c2
def v5(C:ad):Prop:=∀h R n N on q b now us rd bl (ino:Int),bE h R n N on q b now us rd->dg N rd bl->hX n N on bl->
 (c7 N us ino=false->C (.fn 87) [.ptr R.rt 0,I ino] h=some (.ret (.bm [.val (.slice none 0 0),I 2]),h))/\
 (∀i,iv N us ino i->lp bl i->∃x h',C (.fn 87) [.ptr R.rt 0,I ino] h=some (.ret (.bm [x,I 0]),h')/\eQ h h' x (lK bl i)/\aD h h' (λ_=>False))
theorem aB7{C:ad}(gy:300<=lf)(hO:pJ C)(nn:vX C)(A:bE h R n N on q b now us rd)(M:dg N rd bl)(K:hX n N on bl):
 (c7 N us ino=false->DC C lf (.ptr R.rt 0) (I ino) h=some (.ret (.bm [.val (.slice none 0 0),I 2]),h))/\
 (∀i,iv N us ino i->lp bl i->∃x h',DC C lf (.ptr R.rt 0) (I ino) h=some (.ret (.bm [x,I 0]),h')/\eQ h h' x (lK bl i)/\aD h h' (λ_=>False)):=by
 have dA:=hO h R n N on q b now us rd ino A;obtain⟨cap,lo,cb⟩:=A.cb;unfold DC;rw[aB3];unfold Ll;refine⟨λag=>?_,λi bT S=>?_⟩
 ·rw[ag] at dA;unfold Di;simp only[aA,dA,Bool.not_false]
 ·rw[bT.yes] at dA;obtain⟨hi,hu,rfl⟩:=bT;have ax:=l6 (R:=R) (N:=N) (i:=i+1) (cap:=cap) (lo:=lo) (by omega)
  have av:kJ (bl i) (mU (bl i) 0)=[]:=by
   unfold kJ;rw[List.filter_eq_nil_iff.2 λc _ e=>?_]
   ·rfl
   ·rcases of_decide_eq_true e with⟨k,k1,_⟩|⟨k,k1,_⟩|⟨_,k,k1,_⟩<;>omega
  obtain⟨bF,h',s1,qu,aL⟩:=ahR (C:=C) (lf:=lf) gy nn A M K S hi (λx7 h=>FG C lf Di x7 h) 278 0 rfl lf (by omega) h (.val (.slice none 0 0)) ⟨by rw[av];exact ha.nil _ _ _,λj aa=>(by cases aa)⟩ (aD.refl _ _);refine⟨bF,h',?_,qu,aL⟩;simp only[aA,dA,Bool.not_true];unfold Lk WB;simp only[aA,cb,ax];rw[aB2];refine Eq.trans s1 ?_;unfold FG Di;simp only[cf,b8]
end
end
end Go.Proofs.YtomialandfplkaaDoor.Eva
