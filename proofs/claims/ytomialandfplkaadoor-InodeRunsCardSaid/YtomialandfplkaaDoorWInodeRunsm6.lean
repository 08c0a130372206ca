import Derived.Test.YtomialandfplkaaDoorCards
import Derived.Test.YtomialandfplkaaDoorWInodeRunsm5
import Derived.Test.YtomialandfplkaaDoorWInodeRunsm4
import Derived.Test.YtomialandfplkaaDoorWInodeRunsm2
set_option linter.unusedSimpArgs false
set_option linter.unusedVariables false
set_option maxRecDepth 100000
set_option maxHeartbeats 400000
namespace Go.Proofs.YtomialandfplkaaDoor.Eva
open Go.Xe
section
variable{lf:Nat}{h:U}{R:eS}{n N:Nat}{on:Nat->Bool}{q:Nat->Option Nat}{b:Nat->Nat}{now:Int}{us:Nat->Bool}{rd:Nat->Nat->J}{i:Nat}{ino:Int}
theorem bJ.setCell(A:bJ h R n N on q b now us rd){c:Nat}{y:J}(hi:i<N+1)(ae:c<308)(h0:c≠0):bJ (h.set R.bw (i*308+c) [y]) R n N on q b now us (cT rd i c y):=by
 have F:aG h (h.set R.bw (i*308+c) [y]) (· =R.bw):=fa rfl;have ag:i*308+c+[y].length<=(N+1)*308:=by simp only[List.length_cons,List.length_nil];omega
 have st:cQ h (h.set R.bw (i*308+c) [y]) R.rt:=F.same _ A.ref.lt (λe=>A.d1 e.symm);refine⟨A.pd,A.gN,A.ref.hK F λj aa=>?_,by rw[st.cell];exact A.a2,by rw[st.cell];exact A.cr,let ⟨cap,lo,e⟩:=A.ct;⟨cap,lo,by rw[st.cell];exact e⟩,fI A.wt st,eG A.wl,λi' a3 cF fr=>?_,λi' cF=>?_,A.d1,A.d2,A.d3,A.d4,by rw[eb];exact A.hO⟩
 ·rcases aa with rfl|rfl|rfl|⟨t,aN,e⟩
  ·exact λe=>A.d1 e.symm
  ·exact λe=>A.d2 e.symm
  ·exact λe=>A.d3 e.symm
  ·exact A.d4 t _ aN e
 ·by_cases e:i'=i/\a3=c
  ·obtain⟨rfl,rfl⟩:=e;rw[mU,hh A.wl ag (Nat.le_refl _) (by simp),Nat.sub_self];rfl
  ·rw[ho _ _ (by omega),eH (.inr (by simp only[List.length_cons,List.length_nil];omega))];exact A.kj i' a3 cF fr
 ·rw[ho _ _ (by omega)];exact A.lX i' cF
theorem kv(A:bJ h R n N on q b now us rd)(hi:i<N+1){c:Nat}(h0:c≠0)(ae:c<308)(y:Int):
 ∃h',st 1 (.ptr R.bw (i*308+c)) (I y) h=some h'/\bJ h' R n N on q b now us (cT rd i c (I y))/\h'.next=h.next/\aG h h' (· =R.bw):=
 ⟨_,hR (n:=1) (y:=I y) A.wl rfl (by omega) rfl,A.setCell hi ae h0,eb ..,fa rfl⟩
theorem lT(hi:i<N+1){cap:Option Nat}{lo:Nat}:dS 308 (.aZ R.bw 0 (N+1) cap lo) (I (i:Int))=some (.ptr R.bw (i*308)):=by
 have:=gV (s:=308) (k:=R.bw) (off:=0) (len:=N+1) (lo:=lo) (cap:=cap) (kd:= .i64) (i:=(i:Int)) (by omega) (by omega)
 rwa[Int.toNat_natCast,Nat.zero_add] at this
def pe(C:ad):Prop:=∀h R n N on q b now us rd (ino:Int),bJ h R n N on q b now us rd->C (.fn 104) [.ptr R.rt 0,I ino] h=some (.ret (.bool (c8 N us ino)),h)
theorem aAj{C:ad}(A:bJ h R n N on q b now us rd):Hz C lf (.ptr R.rt 0) (I ino) h=some (.ret (.bool (c8 N us ino)),h):=by
 obtain⟨cap,lo,ct⟩:=A.ct;unfold Hz RP NY;by_cases h1:0<ino
 ·by_cases h2:ino<=(N:Int)
  ·obtain⟨i,rfl⟩:∃i:Nat,ino=((i+1:Nat):Int):=⟨ino.toNat-1,by omega⟩;have ae:=A.kj (i+1) 0 (by omega) (by omega);rw[A.lX i (by omega),Nat.add_zero] at ae
   have e:c8 N us ((i+1:Nat):Int)=us i:=by
    have ej:decide ((1:Int)<=((i+1:Nat):Int))=true:=bu (by omega);have e:((i+1:Nat):Int).toNat-1=i:=by omega
    simp only[c8,ej,bu h2,Bool.true_and,e]
   rw[e];simp only[aE,bu h1,A.a2,bu h2,ct,lT (R:=R) (N:=N) (i:=i+1) (cap:=cap) (lo:=lo) (by omega),Nat.add_zero,ae]
  ·have e:c8 N us ino=false:=by simp[c8,h2]
   rw[e];simp only[aE,bu h1,A.a2,br h2,iH]
 ·have e:c8 N us ino=false:=by
   have:¬(1<=ino):=by omega
   simp[c8,this]
  rw[e];simp only[aE,br h1,iH]
def Ce(C:ad):Prop:=∀h (m:Int),C (.fn 108) [I m] h=some (.ret (I (lg m)),h)
theorem ap9{C:ad}{m:Int}:HB C lf (I m) h=some (.ret (I (lg m)),h):=by
 have DD:IntKind.i64.wrap ((BitVec.ofInt 64 m&&& BitVec.ofInt 64 61440).toNat:Int)=lg m:=rfl;unfold HB Sg N0;simp only[aE,Cr,DD]
def ic(N:Nat)(us:Nat->Bool)(ino:Int)(i:Nat):Prop:=i<N/\us i=true/\ino=((i+1:Nat):Int)
theorem ic.yes(h:ic N us ino i):c8 N us ino=true:=by
 obtain⟨h1,h2,rfl⟩:=h;exact AW h1 h2
def Gs(C:ad):Prop:=∀h R n N on q b now us rd (ino mo:Int),bJ h R n N on q b now us rd->
 (c8 N us ino=false->C (.fn 101) [.ptr R.rt 0,I ino,I mo] h=some (.ret (I 2),h))/\
 (∀i m,ic N us ino i->rd (i+1) 7=I m->∃h',C (.fn 101) [.ptr R.rt 0,I ino,I mo] h=some (.ret (I 0),h')/\
   bJ h' R n N on q b now us (cT (cT rd (i+1) 7 (I (wA m mo))) (i+1) 10 (I now))/\h'.next=h.next/\aG h h' (· =R.bw))
theorem aAN{C:ad}(hG:pe C)(Cd:Ce C)(A:bJ h R n N on q b now us rd){mo:Int}:
 (c8 N us ino=false->CO C lf (.ptr R.rt 0) (I ino) (I mo) h=some (.ret (I 2),h))/\
 (∀i m,ic N us ino i->rd (i+1) 7=I m->∃h',CO C lf (.ptr R.rt 0) (I ino) (I mo) h=some (.ret (I 0),h')/\
   bJ h' R n N on q b now us (cT (cT rd (i+1) 7 (I (wA m mo))) (i+1) 10 (I now))/\h'.next=h.next/\aG h h' (· =R.bw)):=by
 have dH:=hG h R n N on q b now us rd ino A;obtain⟨cap,lo,ct⟩:=A.ct;unfold CO RE NW;refine⟨λag=>?_,λi m bV hm=>?_⟩
 ·rw[ag] at dH;simp only[aE,dH,Bool.not_false]
 ·rw[bV.yes] at dH;obtain⟨hi,hu,rfl⟩:=bV;have Ds:=A.kj (i+1) 7 (by omega) (by omega);rw[hm] at Ds;obtain⟨h1,s1,b0,cH,aM⟩:=kv A (i:=i+1) (c:=7) (by omega) (by omega) (by omega) (wA m mo);obtain⟨h2,s2,dk,cA,bD⟩:=kv b0 (i:=i+1) (c:=10) (by omega) (by omega) (by omega) now;have xK:(i+1)*308+1+6=(i+1)*308+7:=rfl;have jV:(i+1)*308+1+9=(i+1)*308+10:=rfl;have DE:IntKind.i64.wrap ((BitVec.ofInt 64 (lg m)|||BitVec.ofInt 64 (IntKind.i64.wrap ((BitVec.ofInt 64 mo&&& BitVec.ofInt 64 4095).toNat:Int))).toNat:Int)=wA m mo:=rfl;have ai:=Cd h m;refine⟨h2,?_,dk,cA.trans cH,aM.trans bD⟩;simp only[aE,dH,Bool.not_true,ct,lT (R:=R) (N:=N) (i:=i+1) (cap:=cap) (lo:=lo) (by omega),xK,jV,Ds,ai,Cr,YK,DE,s1,b0.cr,s2]
def Gu(C:ad):Prop:=∀h R n N on q b now us rd (ino a m:Int),bJ h R n N on q b now us rd->
 (c8 N us ino=false->C (.fn 103) [.ptr R.rt 0,I ino,I a,I m] h=some (.ret (I 2),h))/\
 (∀i,ic N us ino i->∃h',C (.fn 103) [.ptr R.rt 0,I ino,I a,I m] h=some (.ret (I 0),h')/\
   bJ h' R n N on q b now us (cT (cT (cT rd (i+1) 8 (I a)) (i+1) 9 (I m)) (i+1) 10 (I now))/\h'.next=h.next/\aG h h' (· =R.bw))
theorem aAP{C:ad}(hG:pe C)(A:bJ h R n N on q b now us rd){a m:Int}:
 (c8 N us ino=false->CP C lf (.ptr R.rt 0) (I ino) (I a) (I m) h=some (.ret (I 2),h))/\
 (∀i,ic N us ino i->∃h',CP C lf (.ptr R.rt 0) (I ino) (I a) (I m) h=some (.ret (I 0),h')/\
   bJ h' R n N on q b now us (cT (cT (cT rd (i+1) 8 (I a)) (i+1) 9 (I m)) (i+1) 10 (I now))/\h'.next=h.next/\aG h h' (· =R.bw)):=by
 have dH:=hG h R n N on q b now us rd ino A;obtain⟨cap,lo,ct⟩:=A.ct;unfold CP RO NX;refine⟨λag=>?_,λi bV=>?_⟩
 ·rw[ag] at dH;simp only[aE,dH,Bool.not_false]
 ·rw[bV.yes] at dH;obtain⟨hi,hu,rfl⟩:=bV;obtain⟨h1,s1,b0,cH,aM⟩:=kv A (i:=i+1) (c:=8) (by omega) (by omega) (by omega) a;obtain⟨h2,s2,dk,cA,bD⟩:=kv b0 (i:=i+1) (c:=9) (by omega) (by omega) (by omega) m;obtain⟨h3,er,fg,gy,dd⟩:=kv dk (i:=i+1) (c:=10) (by omega) (by omega) (by omega) now;have vM:(i+1)*308+1+7=(i+1)*308+8:=rfl;have pw:(i+1)*308+1+8=(i+1)*308+9:=rfl;have jV:(i+1)*308+1+9=(i+1)*308+10:=rfl;refine⟨h3,?_,fg,by omega,(aM.trans bD).trans dd⟩;simp only[aE,dH,Bool.not_true,ct,lT (R:=R) (N:=N) (i:=i+1) (cap:=cap) (lo:=lo) (by omega),A.cr,vM,pw,jV,s1,s2,er]
def Gn(C:ad):Prop:=∀h R n N on q b now us rd (ino:Int),bJ h R n N on q b now us rd->
 (c8 N us ino=false->C (.fn 99) [.ptr R.rt 0,I ino] h=some (.ret (I 2),h))/\
 (∀i H,ic N us ino i->rd (i+1) 11=I H->∃h',C (.fn 99) [.ptr R.rt 0,I ino] h=some (.ret (I 0),h')/\
   bJ h' R n N on q b now us (cT rd (i+1) 11 (I (IntKind.i64.wrap (H+1))))/\h'.next=h.next/\aG h h' (· =R.bw))
theorem aAi{C:ad}(hG:pe C)(A:bJ h R n N on q b now us rd):
 (c8 N us ino=false->C8 C lf (.ptr R.rt 0) (I ino) h=some (.ret (I 2),h))/\
 (∀i H,ic N us ino i->rd (i+1) 11=I H->∃h',C8 C lf (.ptr R.rt 0) (I ino) h=some (.ret (I 0),h')/\
   bJ h' R n N on q b now us (cT rd (i+1) 11 (I (IntKind.i64.wrap (H+1))))/\h'.next=h.next/\aG h h' (· =R.bw)):=by
 have dH:=hG h R n N on q b now us rd ino A;obtain⟨cap,lo,ct⟩:=A.ct;unfold C8 Wn OQ;refine⟨λag=>?_,λi H bV iJ=>?_⟩
 ·rw[ag] at dH;simp only[aE,dH,Bool.not_false]
 ·rw[bV.yes] at dH;obtain⟨hi,hu,rfl⟩:=bV;have ae:=A.kj (i+1) 11 (by omega) (by omega);rw[iJ] at ae;obtain⟨h1,s1,b0,cH,aM⟩:=kv A (i:=i+1) (c:=11) (by omega) (by omega) (by omega) (IntKind.i64.wrap (H+1));refine⟨h1,?_,b0,cH,aM⟩;simp only[aE,dH,Bool.not_true,ct,lT (R:=R) (N:=N) (i:=i+1) (cap:=cap) (lo:=lo) (by omega),ae,s1]
end
section
variable{lf:Nat}{h:U}{R:eS}{n N:Nat}{on:Nat->Bool}{q:Nat->Option Nat}{b:Nat->Nat}{now:Int}{us:Nat->Bool}{rd:Nat->Nat->J}{i:Nat}{ino:Int}
def Gt(C:ad):Prop:=∀h R n N on q b now us rd (ino u g:Int),bJ h R n N on q b now us rd->
 (c8 N us ino=false->C (.fn 102) [.ptr R.rt 0,I ino,I u,I g] h=some (.ret (I 2),h))/\
 (∀i,ic N us ino i->((u < -1\/g < -1)->C (.fn 102) [.ptr R.rt 0,I ino,I u,I g] h=some (.ret (I 22),h))/\
   (¬(u < -1\/g < -1)->∃h',C (.fn 102) [.ptr R.rt 0,I ino,I u,I g] h=some (.ret (I 0),h')/\
     bJ h' R n N on q b now us (qW rd (i+1) u g now)/\h'.next=h.next/\aG h h' (· =R.bw)))
theorem aAO{C:ad}(hG:pe C)(A:bJ h R n N on q b now us rd){u g:Int}:
 (c8 N us ino=false->Ar C lf (.ptr R.rt 0) (I ino) (I u) (I g) h=some (.ret (I 2),h))/\
 (∀i,ic N us ino i->((u < -1\/g < -1)->Ar C lf (.ptr R.rt 0) (I ino) (I u) (I g) h=some (.ret (I 22),h))/\
   (¬(u < -1\/g < -1)->∃h',Ar C lf (.ptr R.rt 0) (I ino) (I u) (I g) h=some (.ret (I 0),h')/\
     bJ h' R n N on q b now us (qW rd (i+1) u g now)/\h'.next=h.next/\aG h h' (· =R.bw))):=by
 have dH:=hG h R n N on q b now us rd ino A;obtain⟨cap,lo,ct⟩:=A.ct;unfold Ar RM RL RK RJ;refine⟨λag=>?_,λi bV=>?_⟩
 ·rw[ag] at dH;unfold xO;simp only[aE,dH,Bool.not_false]
 ·rw[bV.yes] at dH;obtain⟨hi,hu,rfl⟩:=bV;simp only[aE,dH,Bool.not_true];unfold RI RH;refine⟨λag=>?_,λag=>?_⟩
  ·unfold xO;by_cases h1:u < -1
   ·simp only[aE,bu h1,iH]
   ·have h2:g < -1:=by omega
    simp only[aE,br h1,bu h2]
  ·have h1:decide (u < -1)=false:=br (by omega);have h2:decide (g < -1)=false:=br (by omega);have cj:(i+1)*308+1+2=(i+1)*308+3:=rfl;have e9:(i+1)*308+1+3=(i+1)*308+4:=rfl;have jV:(i+1)*308+1+9=(i+1)*308+10:=rfl;simp only[aE,h1,h2];unfold RG afm;simp only[aE,ct,lT (R:=R) (N:=N) (i:=i+1) (cap:=cap) (lo:=lo) (by omega)];unfold afl afk
   have fin:∀h2 kQ,bJ h2 R n N on q b now us kQ->∃h',RN C lf xO (some (.ptr R.rt 0)) (some (.ptr R.bw ((i+1)*308+1))) h2=some (.ret (I 0),h')/\bJ h' R n N on q b now us (cT kQ (i+1) 10 (I now))/\h'.next=h2.next/\aG h2 h' (· =R.bw):=λh2 kQ dk=>by
    obtain⟨h3,er,fg,gy,dd⟩:=kv dk (i:=i+1) (c:=10) (by omega) (by omega) (by omega) now;refine⟨h3,?_,fg,gy,dd⟩;unfold RN xO;simp only[aE,dk.cr,jV,er]
   have Dg:∀h2 kQ,bJ h2 R n N on q b now us kQ->∃h',RF C lf xO (some (.ptr R.rt 0)) (some (I g)) (some (.ptr R.bw ((i+1)*308+1))) h2=some (.ret (I 0),h')/\
    bJ h' R n N on q b now us (cT (if 0<=g then cT kQ (i+1) 4 (I g) else kQ) (i+1) 10 (I now))/\h'.next=h2.next/\aG h2 h' (· =R.bw):=λh2 kQ dk=>by
    unfold RF afj;by_cases bd:0<=g
    ·obtain⟨h3,er,fg,gy,dd⟩:=kv dk (i:=i+1) (c:=4) (by omega) (by omega) (by omega) g;obtain⟨aW,fo,kC,j6,fL⟩:=fin h3 _ fg;rw[if_pos bd];refine⟨aW,?_,kC,by omega,dd.trans fL⟩;simp only[aE,bu bd,e9,er];exact fo
    ·obtain⟨aW,fo,kC,j6,fL⟩:=fin h2 _ dk;rw[if_neg bd];refine⟨aW,?_,kC,j6,fL⟩;simp only[aE,br bd];exact fo
   by_cases uP:0<=u
   ·obtain⟨h3,er,fg,gy,dd⟩:=kv A (i:=i+1) (c:=3) (by omega) (by omega) (by omega) u;obtain⟨aW,fo,kC,j6,fL⟩:=Dg h3 _ fg;refine⟨aW,?_,by unfold qW;rw[if_pos uP];exact kC,by omega,dd.trans fL⟩;simp only[aE,bu uP,cj,er];exact fo
   ·obtain⟨aW,fo,kC,j6,fL⟩:=Dg h _ A;refine⟨aW,?_,by unfold qW;rw[if_neg uP];exact kC,j6,fL⟩;simp only[aE,br uP];exact fo
def eo(k:Nat):Int:=if k<6 then -1 else(((k-6)/16:Nat):Int)
def vr(C:ad):Prop:=∀h (k:Nat),k<278->C (.fn 105) [I (k:Int)] h=some (.ret (I (eo k)),h)
theorem anw{C:ad}{k:Nat}(ai:k<278):HA C lf (I (k:Int)) h=some (.ret (I (eo k)),h):=by
 unfold HA RQ NZ eo;by_cases bB:k<6
 ·have d:decide ((k:Int)<6)=true:=bu (by omega);simp only[aE,d,if_pos bB]
 ·have d:decide ((k:Int)<6)=false:=br (by omega);have az:IntKind.i64.wrap ((k:Int)-6)=((k-6:Nat):Int):=cL (by omega)
  have aA:IntKind.i64.wrap (((k-6:Nat):Int).tdiv 16)=(((k-6)/16:Nat):Int):=by
   rw[Int.tdiv_eq_ediv_of_nonneg (by omega),wrap_i64 (by omega) (by omega)];rfl
  simp only[aE,d,if_neg bB,az,lD (show(16:Int)≠0 by omega),aA]
def pm(c:Nat):Nat:=if c<290 then a4 (c-12) else if c=290 then 18 else if c=307 then 35 else 36+17*(c-291)
def di(N:Nat)(rd:Nat->Nat->J)(bl:Nat->Nat->Nat):Prop:=∀i c,i<N->12<=c->c<308->rd (i+1) c=I (bl i (pm c):Int)
theorem qZ{k:Nat}(ai:k<278):pm (12+k)=a4 k:=by
 unfold pm;rw[if_pos (by omega),Nat.add_sub_cancel_left]
theorem zc:pm 307=35:=rfl
theorem ae6{g:Nat}(h1:1<=g)(h2:g<=16):pm (290+g)=36+17*(g-1):=by
 unfold pm;rw[if_neg (by omega),if_neg (by omega),if_neg (by omega),show 290+g-291=g-1 by omega]
theorem ae8{c a3:Nat}(h1:12<=c)(h2:c<308)(h3:12<=a3)(aW:a3<308)(h:pm c=pm a3):c=a3:=by
 unfold pm at h;by_cases a:c<290
 ·rw[if_pos a] at h;have n:=tK (m:=c-12) (by omega);by_cases a':a3<290
  ·rw[if_pos a'] at h
   have:=Rx h (by omega) (by omega)
   omega
  ·rw[if_neg a'] at h;by_cases b':a3=290
   ·rw[if_pos b'] at h;exact absurd h n.1
   ·rw[if_neg b'] at h;by_cases hJ:a3=307
    ·rw[if_pos hJ] at h;exact absurd h n.2.1
    ·rw[if_neg hJ] at h;exact absurd h (n.2.2 _ (by omega))
 ·rw[if_neg a] at h;by_cases a':a3<290
  ·rw[if_pos a'] at h;have n:=tK (m:=a3-12) (by omega);by_cases b':c=290
   ·rw[if_pos b'] at h;exact absurd h.symm n.1
   ·rw[if_neg b'] at h;by_cases hJ:c=307
    ·rw[if_pos hJ] at h;exact absurd h.symm n.2.1
    ·rw[if_neg hJ] at h;exact absurd h.symm (n.2.2 _ (by omega))
  ·rw[if_neg a'] at h;by_cases bX:c=290<;>by_cases b2:a3=290<;>by_cases d1:c=307<;>by_cases d2:a3=307<;>simp only[bX,b2,d1,d2,if_true,if_false] at h⊢ <;>first|omega|(simp at h;done)|(simp at h;omega)
end
def mO(k:Nat):Nat:=if k<22 then 18 else 36+17*((k-22)/16)
def fT(bl:Nat->Nat->Nat)(i k:Nat):Nat:=if 0<bl i (a4 k) then 0 else 1+(if 6<=k/\bl i (mO k)=0 then 1 else 0)+(if 22<=k/\bl i 35=0 then 1 else 0)
theorem Rz{k:Nat}(bB:6<=k)(ai:k<278):pm (290+(k-6)/16)=mO k:=by
 unfold mO;by_cases mF:k<22
 ·rw[if_pos mF,show(k-6)/16=0 by omega];rfl
 ·rw[if_neg mF,ae6 (by omega) (by omega),show(k-6)/16-1=(k-22)/16 by omega]
theorem aqO{C:ad}{lf:Nat}{r:ay}{x0 x1 x2:O}{h:U}:Sl C lf r x0 x1 x2 h=JM C lf (λx2 x7 h=>JL C lf r x2 x7 h) x0 x1 x2 h:=rfl
section
variable{lf:Nat}{h:U}{R:eS}{n N:Nat}{on:Nat->Bool}{q:Nat->Option Nat}{b:Nat->Nat}{now:Int}{us:Nat->Bool}{rd:Nat->Nat->J}{bl:Nat->Nat->Nat}{i:Nat}
theorem mS(A:bJ h R n N on q b now us rd)(M:di N rd bl)(hi:i<N){c:Nat}(dG:12<=c)(ae:c<308):h.cell R.bw ((i+1)*308+c)=some (I (bl i (pm c):Int)):=by
 rw[A.kj (i+1) c (by omega) ae,M i c hi dG ae]
def Mu(C:ad):Prop:=∀h R n N on q b now us rd bl i (k:Nat),bJ h R n N on q b now us rd->di N rd bl->i<N->k<278->
 C (.fn 110) [.ptr R.rt 0,I ((i+1:Nat):Int),I (k:Int)] h=some (.ret (I (fT bl i k:Int)),h)
theorem aAn{C:ad}(mX:vr C)(A:bJ h R n N on q b now us rd)(M:di N rd bl)(hi:i<N){k:Nat}(ai:k<278):
 HD C lf (.ptr R.rt 0) (I ((i+1:Nat):Int)) (I (k:Int)) h=some (.ret (I (fT bl i k:Int)),h):=by
 obtain⟨cap,lo,ct⟩:=A.ct;have ar:=lT (R:=R) (N:=N) (i:=i+1) (cap:=cap) (lo:=lo) (by omega)
 have uH:ev 278 1 (.ptr R.bw ((i+1)*308+12)) (I (k:Int))=some (.ptr R.bw ((i+1)*308+(12+k))):=by
  have:=lP (n:=278) (s:=1) (k:=R.bw) (off:=(i+1)*308+12) (kd:= .i64) (i:=(k:Int)) (by omega) (by omega)
  rwa[Int.toNat_natCast,Nat.mul_one,Nat.add_assoc] at this
 have eL:=mS A M hi (c:=12+k) (by omega) (by omega);rw[qZ ai] at eL;have qv:=mS A M hi (c:=307) (by omega) (by omega);rw[zc] at qv;unfold HD;rw[aqO];unfold JM;simp only[ch,cd,u1,uA,Nat.zero_add,qP,ct,ar];unfold JL Sk;by_cases aC:0<bl i (a4 k)
 ·have d:decide ((0:Int)<(bl i (a4 k):Int))=true:=bu (by omega);unfold fT CJ;rw[if_pos aC];simp only[ch,cd,u1,uA,uH,qP,eL,z7,d,rh];rfl
 have d:decide ((0:Int)<(bl i (a4 k):Int))=false:=br (by omega);have bd:=mX h k ai;simp only[ch,cd,u1,uA,uH,qP,eL,z7,d,o6];unfold Sj afv;simp only[ch,cd,kh,bd];unfold afu aft afs afr;have cy:IntKind.i64.wrap ((1:Int)+1)=((2:Nat):Int):=cL (by omega);unfold fT;rw[if_neg aC]
 have Ns:∀(m:Nat) (x:Int),x=(m:Int)->m<=2->Si C lf CJ (some (.ptr R.bw ((i+1)*308))) (some (I (eo k))) (some (I x)) h=some (.ret (I ((m+(if 22<=k/\bl i 35=0 then 1 else 0):Nat):Int)),h):=λm x ar hm=>by
  subst ar;have aDs:IntKind.i64.wrap ((m:Int)+1)=((m+1:Nat):Int):=cL (by omega);unfold Si CJ;by_cases mF:22<=k
  ·have g1:decide ((0:Int)<eo k)=true:=bu (by unfold eo;rw[if_neg (by omega)];omega);by_cases h0:bl i 35=0
   ·have g2:decide ((bl i 35:Int)=0)=true:=bu (by omega);rw[if_pos ⟨mF,h0⟩];simp only[aE,g1,qv,g2,aDs]
   ·have g2:decide ((bl i 35:Int)=0)=false:=br (by omega);rw[if_neg (λe=>h0 e.2)];simp only[aE,g1,qv,g2,Nat.add_zero]
  ·have g1:decide ((0:Int)<eo k)=false:=br (by unfold eo;split<;>omega);rw[if_neg (λe=>mF e.1)];simp only[aE,g1,iH,Nat.add_zero]
 by_cases bB:6<=k
 ·have nJ:eo k=(((k-6)/16:Nat):Int):=if_neg (by omega);have g0:decide ((0:Int)<=eo k)=true:=bu (by rw[nJ];omega)
  have Dz:ev 17 1 (.ptr R.bw ((i+1)*308+290)) (I (eo k))=some (.ptr R.bw ((i+1)*308+(290+(k-6)/16))):=by
   rw[nJ]
   have:=lP (n:=17) (s:=1) (k:=R.bw) (off:=(i+1)*308+290) (kd:= .i64) (i:=(((k-6)/16:Nat):Int)) (by omega) (by omega)
   rwa[Int.toNat_natCast,Nat.mul_one,Nat.add_assoc] at this
  have rR:=mS A M hi (c:=290+(k-6)/16) (by omega) (by omega);rw[Rz bB ai] at rR;by_cases h0:bl i (mO k)=0
  ·have g2:decide ((bl i (mO k):Int)=0)=true:=bu (by omega);rw[if_pos ⟨bB,h0⟩];simp only[aE,g0,Dz,rR,g2,cy];exact Ns 2 _ rfl (Nat.le_refl _)
  ·have g2:decide ((bl i (mO k):Int)=0)=false:=br (by omega);rw[if_neg (λe=>h0 e.2)];simp only[aE,g0,Dz,rR,g2];exact Ns 1 _ rfl (by omega)
 ·have g0:decide ((0:Int)<=eo k)=false:=br (by unfold eo;rw[if_pos (by omega)];omega);rw[if_neg (λe=>bB e.1)];simp only[aE,g0,iH];exact Ns 1 _ rfl (by omega)
end
def oN(n:Nat)(on:Nat->Bool):Option Nat:=(List.range n).find? λj=>!on j
theorem Rb{n:Nat}{on:Nat->Bool}(h:oN n on=none):∀j,j<n->on j=true:=λj aa=>by
 have:=List.find?_eq_none.1 h j (List.mem_range.2 aa)
 simpa using this
theorem Rc{n j:Nat}{on:Nat->Bool}(h:oN n on=some j):j<n/\on j=false/\∀t,t<j->on t=true:=by
 obtain⟨h1,cb,cV,e,h2⟩:=List.find?_eq_some_iff_append.1 h;have hlen:cb.length<(List.range n).length:=by rw[e];simp
 rw[List.length_range] at hlen
 have aa:j=cb.length:=by
  have:(List.range n)[cb.length]?=some j:=by rw[e];simp
  rw[List.getElem?_range hlen] at this;exact(Option.some.inj this).symm
 have nR:j<n:=by omega
 refine⟨nR,by simpa using h1,λt aN=>?_⟩;have h3:(List.range n)[t]?=some t:=List.getElem?_range (by omega);rw[e,List.getElem?_append_left (by omega)] at h3
 have:=h2 t (List.mem_of_getElem? h3)
 simpa using this
def gp(n:Nat):Nat->(Nat->Bool)->(Nat->Nat)->List Nat×(Nat->Bool)×(Nat->Nat)
 |0,on,b=>([],on,b)
 |m+1,on,b=>match oN n on with
  |none=>([],on,b)
  |some j=>(j::(gp n m (de on j true) (gl b j)).1,(gp n m (de on j true) (gl b j)).2)
section
variable{lf:Nat}{h h0:U}{R:eS}{n N:Nat}{on:Nat->Bool}{q:Nat->Option Nat}{b:Nat->Nat}{now:Int}{us:Nat->Bool}{rd:Nat->Nat->J}
theorem bJ.store(A:bJ h R n N on q b now us rd){h':U}{ds:Nat->Bool}{hA:Nat->Option Nat}{b':Nat->Nat}(V:gB h' R.rt R.ro R.rb n ds hA b')(F:aG h h' (λj=>j=R.ro\/j=R.rb))(a0:∀i k,i<n->hA i=some k->k≠R.bw):
 bJ h' R n N ds hA b' now us rd:=by
 have st:cQ h h' R.rt:=F.same _ A.ref.lt (λe=>by rcases e with e|e;exact A.ref.tF e;exact A.ref.pR e);have aZ:cQ h h' R.bw:=F.same _ A.hO (λe=>by rcases e with e|e;exact A.d2 e;exact A.d3 e);exact⟨A.pd,A.gN,V,by rw[st.cell];exact A.a2,by rw[st.cell];exact A.cr,let ⟨cap,lo,e⟩:=A.ct;⟨cap,lo,by rw[st.cell];exact e⟩,fI A.wt st,fI A.wl aZ,λi c hi ae=>by rw[aZ.cell];exact A.kj i c hi ae,A.lX,A.d1,A.d2,A.d3,a0,Nat.lt_of_lt_of_le A.hO F.next⟩
theorem aii{n j:Nat}(aa:j<n)(aq:on j=false):(eR (de on j true) n).length=(eR on n).length+1:=
 Zi aa aq λk=>by
  by_cases e:k=j
  ·subst e;simp[kS]
  ·simp[ix _ _ e,e]
structure zN (h0 h:U) (R:eS) (n:Nat) (q:Nat->Option Nat) (x:J) (l:List Nat):Prop where
 i:eN h0 h x (l.map (· +1))
 a:∀j,rowOf x=some j->¬sj R n q j
theorem ah5{C:ad}(ns:Gi C){m:Nat}(hm:m<=1000){xk xr xg:O}(av:bt):∀(d t:Nat),t+d=m->∀f,d<f->∀h on q b x pC,bJ h R n N on q b now us rd->zN h0 h R n q x pC->d+(eR on n).length<=n->pC.length+d<=1000->h0.next<=h.next->
 ∃h' hA bF,bq (A4 C lf av) f (some (.ptr R.rt 0),xk,xr,xg,some x,some (I (m:Int)),some (I (t:Int))) h=av xk xr xg (some bF) h'/\
  bJ h' R n N (gp n d on b).2.1 hA (gp n d on b).2.2 now us rd/\zN h0 h' R n hA bF (pC++(gp n d on b).1)/\(gp n d on b).1.length=d/\(∀t k,hA t=some k->q t=some k\/h.next<=k)/\aG h h' (λj=>j=R.ro\/j=R.rb\/h0.next<=j)
 |0,t,aN,f,an,h,on,q,b,x,pC,A,G,_,_,_=>by
  obtain⟨f,rfl⟩:=dK f (by omega);have e:t=m:=by omega
  subst e;refine⟨h,q,x,?_,A,by simpa[gp] using G,rfl,λ_ _ e=> .inl e,aG.refl _ _⟩;rw[dr];unfold A4 Ex;have ba:decide ((t:Int)<(t:Int))=false:=by simp
  simp only[aE,ba]
 |d+1,t,aN,f,an,h,on,q,b,x,pC,A,G,nX,hlen,lM=>by
  obtain⟨f,rfl⟩:=dK f (by omega);have gb:n<=4096:=A.ref.v.choose_spec.choose_spec.2.2.cA;have ba:decide ((t:Int)<(m:Int))=true:=bu (by omega)
  obtain⟨j,aa⟩:∃j,oN n on=some j:=by
   cases aL:oN n on with
   |some j=>exact⟨j,rfl⟩
   |none=>
    have:=aad (Rb aL)
    have e:(eR on n).length=n:=this;omega
  obtain⟨AY,D7,apP⟩:=Rc aa;obtain⟨h1,aS,GM,aM,cH⟩:=(ns h R.rt R.ro R.rb n on q b A.ref).2 j AY D7 apP
  have b0:=A.store GM aM (λi k hi e=>by
   by_cases aA:i=j
   ·subst aA;rw[kS] at e;cases e
    have:=A.hO;omega
   ·rw[ix _ _ aA] at e
    exact A.d4 i k hi e)
  have ady:∀k,rowOf x=some k->k<h.next:=λk ai=>G.i.aZ.j8 ai
  have ai4:hH h1 3 1 x (pC.map (· +1)).length (ints (pC.map (· +1))):=G.i.aZ.frame aM.next λk ai=>aM.same k (ady k ai) (λe=>G.a k ai (by rcases e with rfl|rfl;exact .inr (.inr (.inl rfl));exact .inr (.inr (.inr (.inl rfl)))))
  obtain⟨bF,h2,ak,aD,a7,cw,dB,dU,gg,ie⟩:=uo (y:=I ((j+1:Nat):Int)) sP rfl rfl rfl ai4 (by simp;omega) (by simp;omega)
  have r2:∀k,rowOf x=some k->¬sj R n (de q j (some h.next)) k:=λk ai e=>by
   rcases e with rfl|rfl|rfl|rfl|⟨i,hi,e⟩
   ·exact G.a _ ai (.inl rfl)
   ·exact G.a _ ai (.inr (.inl rfl))
   ·exact G.a _ ai (.inr (.inr (.inl rfl)))
   ·exact G.a _ ai (.inr (.inr (.inr (.inl rfl))))
   ·by_cases aA:i=j
    ·subst aA;rw[kS] at e;cases e
     have:=ady _ ai;omega
    ·rw[ix _ _ aA] at e;exact G.a _ ai (.inr (.inr (.inr (.inr ⟨i,hi,e⟩))))
  have bD:aG h1 h2 (λk=>rowOf x=some k):=⟨dB,cw,λk ai e=>dU k ai e,ie⟩;have dk:=b0.hK bD λk ai e=>r2 k e ai
  have mW:zN h0 h2 R n (de q j (some h.next)) bF (pC++[j]):=by
   refine⟨⟨?_,λk ai=>?_⟩,λk ai e=>?_⟩
   ·have az:ints ((pC++[j]).map (· +1))=ints (pC.map (· +1))++[I ((j+1:Nat):Int)]:=by simp[ints]
    have aA:((pC++[j]).map (· +1)).length=(pC.map (· +1)).length+1:=by simp
    rw[az,aA];exact a7
   ·rcases gg k ai with e|e
    ·exact G.i.new k e
    ·omega
   ·rcases gg k ai with aA|aA
    ·exact r2 k aA e
    ·have:=b0.j8 e;omega
  have dC:IntKind.i64.wrap ((t:Int)+1)=((t+1:Nat):Int):=cL (by omega);have aoE:IntKind.i64.wrap ((j:Int)+1)=((j+1:Nat):Int):=cL (by omega);obtain⟨h3,nk,x3,dc,du,fm,kP,q3,mm⟩:=ah5 ns hm av d (t+1) (by omega) f (by omega) h2 (de on j true) (de q j (some h.next)) (gl b j) bF (pC++[j]) dk mW (by rw[aii AY D7];omega) (by simp;omega) (by omega)
  have nJ:gp n (d+1) on b=(j::(gp n d (de on j true) (gl b j)).1,(gp n d (de on j true) (gl b j)).2):=by
   show(match oN n on with|none=>_|some j=>_)=_;rw[aa]
  rw[nJ];refine⟨h3,nk,x3,?_,du,by simpa using fm,by simp[kP],λt k e=>?_,((aM.ek λk e=>?_).trans (bD.ek λk e=>?_)).trans mm⟩
  ·rw[dr];show Ex C lf (λx0 x2 x7 aP x9 w6 mV h=>bq (A4 C lf av) f (x0,x2,x7,aP,x9,w6,mV) h) av (some (.ptr R.rt 0)) xk xr xg (some x) (some (I (m:Int))) (some (I (t:Int))) h=_;unfold Ex;simp only[aE,ba,aS,List.getElem?_cons_zero,List.getElem?_cons_succ,aoE,ak,aD,dC];exact dc
  ·rcases q3 t k e with aA|aA
   ·by_cases cj:t=j
    ·subst cj;rw[kS] at aA;cases aA;exact .inr (Nat.le_refl _)
    ·rw[ix _ _ cj] at aA;exact .inl aA
   ·exact .inr (by have:=aM.next;omega)
  ·rcases e with e|e
   ·exact .inl e
   ·exact .inr (.inl e)
  ·exact .inr (.inr (G.i.new k e))
end
theorem aBv{P:Program}{t e k off n lo:Nat}{cap:Option Nat}(hu:P.underlying t=some (.slice e))(al:dP P e=some 1)(ae:mu (.aZ k off n cap lo))(aO:2<=n):
 ∃sS iP,fX P t (.aZ k off n cap lo) (some (I 1)) none=some (.aZ k (off+1) (n-1) sS iP)/\mu (.aZ k (off+1) (n-1) sS iP):=by
 have ej:hX (I 1)=some 1:=rfl;unfold fX;cases cap with
 |none=>
  have h3:sliceB n n (some (I 1)) none=some (1,n):=by
   simp only[sliceB,ej]
   have:(Nat.ble n n&&Nat.ble 1 n)=true:=by simp[Nat.ble_eq_true_of_le (show 1<=n by omega)]
   simp only[this,cond_true]
  have bX:Nat.blt 1 n=true:=by rw[Nat.blt_eq];omega
  simp only[hu,al,h3,p3,force_eq,Nat.ble_eq_true_of_le (Nat.le_refl n),cond_true,bX,Nat.mul_one];exact⟨_,_,rfl,trivial⟩
 |some c=>
  have ae:n<=c:=ae
  have h3:sliceB n c (some (I 1)) none=some (1,n):=by
   simp only[sliceB,ej]
   have:(Nat.ble n c&&Nat.ble 1 n)=true:=by simp[Nat.ble_eq_true_of_le (show 1<=n by omega),Nat.ble_eq_true_of_le ae]
   simp only[this,cond_true]
  have bX:Nat.beq (c-1) 0=false:=by
   cases ag:Nat.beq (c-1) 0 with
   |false=>rfl
   |true=>exact absurd (Nat.eq_of_beq_eq_true ag) (by omega)
  simp only[hu,al,h3,p3,force_eq,bX,cond_false,Nat.mul_one];exact⟨_,_,rfl,by show n-1<=c-1;omega⟩
structure o9 (h:U) (bw:Nat) (x:J) (l:List Nat):Prop where
 s:∃k off cap lo,x= .aZ k off l.length cap lo/\mu x/\k≠bw/\∀j,j<l.length->h.cell k (off+j)=some (I ((l.getD j 0:Nat):Int))
def p2(rd:Nat->Nat->J)(i:Nat):List Nat->List Nat->Nat->Nat->J
 |c::cs,j::js=>p2 (cT rd i c (I ((j+1:Nat):Int))) i cs js
 |_,_=>rd
def su(bl:Nat->Nat->Nat)(i k:Nat):List Nat:=(if 22<=k/\bl i 35=0 then[307] else[])++((if 6<=k/\bl i (mO k)=0 then[290+(k-6)/16] else[])++[12+k])
section
variable{lf:Nat}{h h0:U}{R:eS}{n N:Nat}{on:Nat->Bool}{q:Nat->Option Nat}{b:Nat->Nat}{now:Int}{us:Nat->Bool}{rd:Nat->Nat->J}{i k:Nat}
theorem o9.step{x:J}{v:Nat}{l:List Nat}(G:o9 h R.bw x (v::l))(aL:l≠[]){h':U}(F:aG h h' (· =R.bw))(ai:∀k,rowOf x=some k->k<h.next):
 ∃bF,dS 1 x (I 0)=some (.ptr ((rowOf x).getD 0) (match x with| .aZ _ off _ _ _=>off|_=>0))/\fX aw 33 x (some (I 1)) none=some bF/\o9 h' R.bw bF l/\rowOf bF=rowOf x:=by
 obtain⟨k,off,cap,lo,rfl,ae,b4,eA⟩:=G.s;have DC:=List.length_pos_iff.2 aL;obtain⟨sS,iP,ej,fV⟩:=aBv (P:=aw) (t:=33) Tryd.underlying33 (by kernel_rfl) ae (by simp;omega);have b7:=gV (s:=1) (k:=k) (off:=off) (len:=(v::l).length) (lo:=lo) (cap:=cap) (kd:= .i64) (i:=0) (by omega) (by simp);have av:off+(0:Int).toNat*1=off:=by simp
 rw[av] at b7;have al:=F.same k (ai k rfl) b4;refine⟨_,b7,ej,⟨⟨k,off+1,sS,iP,rfl,fV,b4,λj aa=>?_⟩⟩,rfl⟩;rw[al.cell,Nat.add_assoc,Nat.add_comm 1 j,eA (j+1) (by simp;omega)];rfl
theorem o9.head{x:J}{v:Nat}{l:List Nat}(G:o9 h R.bw x (v::l)):∃k off,dS 1 x (I 0)=some (.ptr k off)/\h.cell k off=some (I (v:Int)):=by
 obtain⟨k,off,cap,lo,rfl,ae,b4,eA⟩:=G.s;have b7:=gV (s:=1) (k:=k) (off:=off) (len:=(v::l).length) (lo:=lo) (cap:=cap) (kd:= .i64) (i:=0) (by omega) (by simp);have av:off+(0:Int).toNat*1=off:=by simp
 rw[av] at b7;exact⟨k,off,b7,by have:=eA 0 (by simp);rwa[Nat.add_zero] at this⟩
theorem x6(bB:6<=k):eo k=(((k-6)/16:Nat):Int):=if_neg (by omega)
theorem ae5{C:ad}(A:bJ h R n N on q b now us rd)(hi:i<N)(ai:k<278){x:J}{v:Nat}(G:o9 h R.bw x [v])(r:ay):
 ∃h',Jz C lf r (some (I (k:Int))) (some (.ptr R.bw ((i+1)*308))) (some x) h=r (some (.bool true)) h'/\bJ h' R n N on q b now us (cT rd (i+1) (12+k) (I (v:Int)))/\h'.next=h.next/\aG h h' (· =R.bw):=by
 obtain⟨kx,off,x1,x2⟩:=G.head;obtain⟨h1,s1,b0,cH,aM⟩:=kv A (i:=i+1) (c:=12+k) (by omega) (by omega) (by omega) (v:Int)
 have uH:ev 278 1 (.ptr R.bw ((i+1)*308+12)) (I (k:Int))=some (.ptr R.bw ((i+1)*308+(12+k))):=by
  have:=lP (n:=278) (s:=1) (k:=R.bw) (off:=(i+1)*308+12) (kd:= .i64) (i:=(k:Int)) (by omega) (by omega)
  rwa[Int.toNat_natCast,Nat.mul_one,Nat.add_assoc] at this
 refine⟨h1,?_,b0,cH,aM⟩;unfold Jz;simp only[ch,cd,x1,qP,x2,u1,uA,uH,s1]
theorem apE{C:ad}(A:bJ h R n N on q b now us rd)(hi:i<N)(ai:k<278){w:Nat}(hw:6<=k->rd (i+1) (290+(k-6)/16)=I (w:Int)){x:J}{l:List Nat}(G:o9 h R.bw x l)(ar:∀k,rowOf x=some k->k<h.next)(fc:bI):
 (6<=k/\w=0->∀v dD,l=v::dD->dD≠[]->∃h' bF,Eu C lf fc (some (I (k:Int))) (some (.ptr R.bw ((i+1)*308))) (some (I (eo k))) (some x) h=fc (some (I (k:Int))) (some (.ptr R.bw ((i+1)*308))) (some bF) h'/\
   bJ h' R n N on q b now us (cT rd (i+1) (290+(k-6)/16) (I (v:Int)))/\o9 h' R.bw bF dD/\(∀k,rowOf bF=some k->k<h'.next)/\h'.next=h.next/\aG h h' (· =R.bw))/\
 (¬(6<=k/\w=0)->Eu C lf fc (some (I (k:Int))) (some (.ptr R.bw ((i+1)*308))) (some (I (eo k))) (some x) h=fc (some (I (k:Int))) (some (.ptr R.bw ((i+1)*308))) (some x) h):=by
 have Dz:6<=k->ev 17 1 (.ptr R.bw ((i+1)*308+290)) (I (eo k))=some (.ptr R.bw ((i+1)*308+(290+(k-6)/16))):=λbB=>by
  rw[x6 bB]
  have:=lP (n:=17) (s:=1) (k:=R.bw) (off:=(i+1)*308+290) (kd:= .i64) (i:=(((k-6)/16:Nat):Int)) (by omega) (by omega)
  rwa[Int.toNat_natCast,Nat.mul_one,Nat.add_assoc] at this
 have ga:6<=k->h.cell R.bw ((i+1)*308+(290+(k-6)/16))=some (I (w:Int)):=λbB=>by
  rw[A.kj (i+1) _ (by omega) (by omega),hw bB]
 have g0:6<=k->decide ((0:Int)<=eo k)=true:=λbB=>bu (by rw[x6 bB];omega)
 refine⟨λ⟨bB,h0⟩ v dD e aL=>?_,λag=>?_⟩
 ·subst e;obtain⟨kx,off,x1,x2⟩:=G.head;obtain⟨h1,s1,b0,cH,aM⟩:=kv A (i:=i+1) (c:=290+(k-6)/16) (by omega) (by omega) (by omega) (v:Int);obtain⟨bF,_,t2,t3,t4⟩:=G.step aL aM ar;have g2:decide ((w:Int)=0)=true:=bu (by omega);refine⟨h1,bF,?_,b0,t3,λk ai=>by rw[cH];exact ar k (by rw[<- t4];exact ai),cH,aM⟩;unfold Eu;simp only[aE,g0 bB,Dz bB,ga bB,g2,x1,x2,s1,t2]
 ·unfold Eu;by_cases bB:6<=k
  ·have g2:decide ((w:Int)=0)=false:=br (by omega);simp only[aE,g0 bB,Dz bB,ga bB,g2]
  ·have g1:decide ((0:Int)<=eo k)=false:=br (by unfold eo;rw[if_pos (by omega)];omega);simp only[aE,g1,iH]
theorem al0{C:ad}(A:bJ h R n N on q b now us rd)(hi:i<N){w:Nat}(hw:rd (i+1) 307=I (w:Int)){x:J}{l:List Nat}(G:o9 h R.bw x l)(ar:∀k,rowOf x=some k->k<h.next)(fc:bt):
 (22<=k/\w=0->∀v dD,l=v::dD->dD≠[]->∃h' bF,Ev C lf fc (some (I (k:Int))) (some (.ptr R.bw ((i+1)*308))) (some (I (eo k))) (some x) h=fc (some (I (k:Int))) (some (.ptr R.bw ((i+1)*308))) (some (I (eo k))) (some bF) h'/\
   bJ h' R n N on q b now us (cT rd (i+1) 307 (I (v:Int)))/\o9 h' R.bw bF dD/\(∀k,rowOf bF=some k->k<h'.next)/\h'.next=h.next/\aG h h' (· =R.bw))/\
 (¬(22<=k/\w=0)->Ev C lf fc (some (I (k:Int))) (some (.ptr R.bw ((i+1)*308))) (some (I (eo k))) (some x) h=fc (some (I (k:Int))) (some (.ptr R.bw ((i+1)*308))) (some (I (eo k))) (some x) h):=by
 have ga:h.cell R.bw ((i+1)*308+307)=some (I (w:Int)):=by rw[A.kj (i+1) _ (by omega) (by omega),hw]
 have g0:22<=k->decide ((0:Int)<eo k)=true:=λbB=>bu (by rw[x6 (by omega)];omega)
 refine⟨λ⟨bB,h0⟩ v dD e aL=>?_,λag=>?_⟩
 ·subst e;obtain⟨kx,off,x1,x2⟩:=G.head;obtain⟨h1,s1,b0,cH,aM⟩:=kv A (i:=i+1) (c:=307) (by omega) (by omega) (by omega) (v:Int);obtain⟨bF,_,t2,t3,t4⟩:=G.step aL aM ar;have g2:decide ((w:Int)=0)=true:=bu (by omega);refine⟨h1,bF,?_,b0,t3,λk ai=>by rw[cH];exact ar k (by rw[<- t4];exact ai),cH,aM⟩;unfold Ev;simp only[aE,g0 bB,ga,g2,x1,x2,s1,t2]
 ·unfold Ev;by_cases bB:22<=k
  ·have g2:decide ((w:Int)=0)=false:=br (by omega);simp only[aE,g0 bB,ga,g2]
  ·have g1:decide ((0:Int)<eo k)=false:=br (by unfold eo;split<;>omega);simp only[aE,g1,iH]
end
theorem aCV{C:ad}{lf:Nat}{r:ay}{x0 x1 x2:O}{h:U}:RT C lf r x0 x1 x2 h=JC C lf (λx0 x1 x2 x7 h=>JB C lf r x0 x1 x2 x7 h) x0 x1 x2 h:=rfl
theorem aCU{C:ad}{lf:Nat}{r:ay}{x0 x1 x2 x7 aP:O}{h:U}:RR C lf r x0 x1 x2 x7 aP h=JG C lf (λx0 x2 x7 aP x9 aX h=>JF C lf r x0 x2 x7 aP x9 aX h) x0 x1 x2 x7 aP (some (.val (.slice none 0 0))) h:=rfl
theorem aEG{bl:Nat->Nat->Nat}{i k:Nat}(h:bl i (a4 k)=0):(su bl i k).length=fT bl i k:=by
 unfold su fT;rw[if_neg (show ¬0<bl i (a4 k) by omega)];by_cases a:22<=k/\bl i 35=0<;>by_cases c:6<=k/\bl i (mO k)=0<;>simp[a,c]
section
variable{lf:Nat}{h h0:U}{R:eS}{n N:Nat}{on:Nat->Bool}{q:Nat->Option Nat}{b:Nat->Nat}{now:Int}{us:Nat->Bool}{rd:Nat->Nat->J}{bl:Nat->Nat->Nat}{i k:Nat}
theorem zN.s{x:J}{l:List Nat}(G:zN h0 h R n q x l)(aL:l≠[]):o9 h R.bw x (l.map (· +1))/\(∀k,rowOf x=some k->k<h.next):=by
 refine⟨⟨?_⟩,λk ai=>G.i.aZ.j8 ai⟩;rcases G.i.aZ.2 with⟨_,e⟩|⟨kx,e,A⟩
 ·exact absurd (List.eq_nil_of_length_eq_zero (by simpa using e)) aL
 ·refine⟨kx,0,none,0,e,by rw[e];trivial,λaA=>G.a kx (by rw[e];rfl) (.inl aA),λj aa=>?_⟩;rw[Nat.zero_add,A.cs j (by omega)];simp only[List.length_map] at aa;simp[ints,List.getD,aa]
theorem arS{C:ad}(A:bJ h R n N on q b now us rd)(M:di N rd bl)(hi:i<N)(ai:k<278)(h0:bl i (a4 k)=0){x:J}{l:List Nat}(aL:l.length=fT bl i k)(G:o9 h R.bw x (l.map (· +1)))(ar:∀k,rowOf x=some k->k<h.next)(r:ay):
 ∃h',Ew C lf r (some (I (k:Int))) (some (.ptr R.bw ((i+1)*308))) (some (I (eo k))) (some x) h=r (some (.bool true)) h'/\bJ h' R n N on q b now us (p2 rd (i+1) (su bl i k) l)/\aG h h' (· =R.bw):=by
 have aH:rd (i+1) 307=I (bl i 35:Int):=M i 307 hi (by omega) (by omega);have bV:6<=k->rd (i+1) (290+(k-6)/16)=I (bl i (mO k):Int):=λbB=>by rw[M i _ hi (by omega) (by omega),Rz bB ai]
 have rU:fT bl i k=1+(if 6<=k/\bl i (mO k)=0 then 1 else 0)+(if 22<=k/\bl i 35=0 then 1 else 0):=by
  unfold fT;rw[if_neg (show ¬0<bl i (a4 k) by omega)]
 unfold Ew
 have rest:∀(h1:U) (jx:Nat->Nat->J) (x1:J) (cb:List Nat),bJ h1 R n N on q b now us jx->(6<=k->jx (i+1) (290+(k-6)/16)=I (bl i (mO k):Int))->o9 h1 R.bw x1 (cb.map (· +1))->(∀k,rowOf x1=some k->k<h1.next)->
  cb.length=1+(if 6<=k/\bl i (mO k)=0 then 1 else 0)->
  ∃h',JD C lf r (some (I (k:Int))) (some (.ptr R.bw ((i+1)*308))) (some (I (eo k))) (some x1) h1=r (some (.bool true)) h'/\
   bJ h' R n N on q b now us (p2 jx (i+1) ((if 6<=k/\bl i (mO k)=0 then[290+(k-6)/16] else[])++[12+k]) cb)/\aG h1 h' (· =R.bw):=λh1 jx x1 cb b0 anT sy r2 oK=>by
  unfold JD;obtain⟨s1,s2⟩:=apE (lf:=lf) (C:=C) b0 hi ai anT sy r2 (λx2 x7 x9 h=>Jz C lf r x2 x7 x9 h);by_cases ae:6<=k/\bl i (mO k)=0
  ·rw[if_pos ae] at oK
   obtain⟨a,c,rfl⟩:∃a c,cb=[a,c]:=by
    match cb,oK with
    | [a,c],_=>exact⟨a,c,rfl⟩
   obtain⟨h2,x2,aA,dk,mW,wj,cA,bD⟩:=s1 ae (a+1) [c+1] rfl (by simp);obtain⟨h3,cj,fg,gy,dd⟩:=ae5 (lf:=lf) (C:=C) dk hi ai mW r;rw[if_pos ae];exact⟨h3,aA.trans cj,fg,bD.trans dd⟩
  ·rw[if_neg ae] at oK
   obtain⟨a,rfl⟩:∃a,cb=[a]:=by
    match cb,oK with
    | [a],_=>exact⟨a,rfl⟩
   obtain⟨h3,cj,fg,gy,dd⟩:=ae5 (lf:=lf) (C:=C) b0 hi ai sy r;rw[if_neg ae];exact⟨h3,(s2 ae).trans cj,fg,dd⟩
 obtain⟨s1,s2⟩:=al0 (lf:=lf) (C:=C) (k:=k) A hi aH G ar (λx2 x7 aP x9 h=>JD C lf r x2 x7 aP x9 h);unfold su;by_cases ae:22<=k/\bl i 35=0
 ·rw[rU,if_pos ae] at aL
  obtain⟨a,cb,rfl⟩:∃a cb,l=a::cb:=by
   match l,aL with
   |a::cb,_=>exact⟨a,cb,rfl⟩
  have oK:cb.length=1+(if 6<=k/\bl i (mO k)=0 then 1 else 0):=by simp only[List.length_cons] at aL;omega
  have b4:cb≠[]:=λe=>by rw[e] at oK;simp at oK;omega
  obtain⟨h2,x2,aA,dk,mW,wj,cA,bD⟩:=s1 ae (a+1) (cb.map (· +1)) rfl (by simpa using b4);obtain⟨h3,cj,fg,dd⟩:=rest h2 _ x2 cb dk (λbB=>by rw[ho _ _ (by omega)];exact bV bB) mW wj oK;rw[if_pos ae];exact⟨h3,aA.trans cj,fg,bD.trans dd⟩
 ·rw[rU,if_neg ae,Nat.add_zero] at aL;obtain⟨h3,cj,fg,dd⟩:=rest h rd x l A bV G ar aL;rw[if_neg ae];exact⟨h3,(s2 ae).trans cj,fg,dd⟩
def Gv(C:ad):Prop:=∀h R n N on q b now us rd bl i (k:Nat),bJ h R n N on q b now us rd->di N rd bl->i<N->k<278->
 (0<bl i (a4 k)->C (.fn 106) [.ptr R.rt 0,I ((i+1:Nat):Int),I (k:Int)] h=some (.ret (.bool true),h))/\
 (bl i (a4 k)=0->n<fT bl i k+(eR on n).length->C (.fn 106) [.ptr R.rt 0,I ((i+1:Nat):Int),I (k:Int)] h=some (.ret (.bool false),h))/\
 (bl i (a4 k)=0->fT bl i k+(eR on n).length<=n->∃h' hA,C (.fn 106) [.ptr R.rt 0,I ((i+1:Nat):Int),I (k:Int)] h=some (.ret (.bool true),h')/\
   bJ h' R n N (gp n (fT bl i k) on b).2.1 hA (gp n (fT bl i k) on b).2.2 now us (p2 rd (i+1) (su bl i k) (gp n (fT bl i k) on b).1)/\(gp n (fT bl i k) on b).1.length=fT bl i k/\(∀t k,hA t=some k->q t=some k\/h.next<=k)/\aG h h' (λj=>j=R.ro\/j=R.rb\/j=R.bw))
theorem aAS{C:ad}(gu:1000<=lf)(mX:vr C)(Ne:Mu C)(ajc:Gp C)(ns:Gi C)(A:bJ h R n N on q b now us rd)(M:di N rd bl)(hi:i<N)(ai:k<278):
 (0<bl i (a4 k)->xW C lf (.ptr R.rt 0) (I ((i+1:Nat):Int)) (I (k:Int)) h=some (.ret (.bool true),h))/\
 (bl i (a4 k)=0->n<fT bl i k+(eR on n).length->xW C lf (.ptr R.rt 0) (I ((i+1:Nat):Int)) (I (k:Int)) h=some (.ret (.bool false),h))/\
 (bl i (a4 k)=0->fT bl i k+(eR on n).length<=n->∃h' hA,xW C lf (.ptr R.rt 0) (I ((i+1:Nat):Int)) (I (k:Int)) h=some (.ret (.bool true),h')/\
   bJ h' R n N (gp n (fT bl i k) on b).2.1 hA (gp n (fT bl i k) on b).2.2 now us (p2 rd (i+1) (su bl i k) (gp n (fT bl i k) on b).1)/\(gp n (fT bl i k) on b).1.length=fT bl i k/\(∀t k,hA t=some k->q t=some k\/h.next<=k)/\aG h h' (λj=>j=R.ro\/j=R.rb\/j=R.bw)):=by
 obtain⟨cap,lo,ct⟩:=A.ct;have ar:=lT (R:=R) (N:=N) (i:=i+1) (cap:=cap) (lo:=lo) (by omega)
 have uH:ev 278 1 (.ptr R.bw ((i+1)*308+12)) (I (k:Int))=some (.ptr R.bw ((i+1)*308+(12+k))):=by
  have:=lP (n:=278) (s:=1) (k:=R.bw) (off:=(i+1)*308+12) (kd:= .i64) (i:=(k:Int)) (by omega) (by omega)
  rwa[Int.toNat_natCast,Nat.mul_one,Nat.add_assoc] at this
 have eL:=mS A M hi (c:=12+k) (by omega) (by omega);rw[qZ ai] at eL;have bd:=mX h k ai;have aO:=Ne h R n N on q b now us rd bl i k A M hi ai;have hle:=ajc h R.rt R.ro R.rb n on q b A.ref;have aFk:=BU on n
 have aE9:fT bl i k<=3:=by
  unfold fT;split
  ·omega
  ·split<;>split<;>omega
 have pre:xW C lf (.ptr R.rt 0) (I ((i+1:Nat):Int)) (I (k:Int)) h=JA C lf (λx0 x1 x2 x7 h=>Et C lf qk x0 x1 x2 x7 h) qk (some (.ptr R.rt 0)) (some (I ((i+1:Nat):Int))) (some (I (k:Int))) (some (.ptr R.bw ((i+1)*308))) h:=by
  unfold xW;rw[aCV];unfold JC;simp only[ch,cd,u1,uA,Nat.zero_add,qP,ct,ar];unfold JB;rfl
 rw[pre];unfold JA
 have mid:bl i (a4 k)=0->∀P:ab->Prop,P (Ey C lf (λx0 x2 x7 aP x9 aX h=>JE C lf qk x0 x2 x7 aP x9 aX h) qk (some (.ptr R.rt 0)) (some (I (k:Int))) (some (.ptr R.bw ((i+1)*308))) (some (I (eo k))) (some (.val (.slice none 0 0))) (some (I (fT bl i k:Int))) h)->
  P (ob (some (J.ptr R.bw ((i+1)*308))) λajD=>ob (some (J.int .i64 (k:Int))) λajE=>ob (ew ajD) λaDH=>ob (b6 12 aDH) λaDI=>ob (ev 278 1 aDI ajE) λaDJ=>ob (bZ aDJ h) λaDK=>ob (bin aw .gtr 3 aDK (I 0)) λaDL=>
    fY aDL (qk (some (.bool true)) h) (Et C lf qk (some (.ptr R.rt 0)) (some (I ((i+1:Nat):Int))) (some (I (k:Int))) (some (.ptr R.bw ((i+1)*308))) h)):=λaC P tc=>by
  have d:decide ((0:Int)<(bl i (a4 k):Int))=false:=br (by omega);simp only[ch,cd,u1,uA,uH,qP,eL,z7,d,o6];unfold Et RS;simp only[ch,cd,kh,bd];rw[aCU];unfold JG;simp only[ch,cd,kh,aO];unfold JF;exact tc
 refine⟨λaC=>?_,λaC an=>?_,λaC an=>?_⟩
 ·have d:decide ((0:Int)<(bl i (a4 k):Int))=true:=bu (by omega);unfold qk;simp only[ch,cd,u1,uA,uH,qP,eL,z7,d,rh]
 ·refine mid aC (λr=>r=_) ?_;have d2:decide (((n-(eR on n).length:Nat):Int)<(fT bl i k:Int))=true:=bu (by omega);unfold Ey qk;simp only[aE,hle,d2]
 ·have d2:decide (((n-(eR on n).length:Nat):Int)<(fT bl i k:Int))=false:=br (by omega);have ai3:zN h h R n q (.val (.slice none 0 0)) []:=⟨⟨hH.nil _ _ _,λj aa=>(by cases aa)⟩,λj aa=>(by cases aa)⟩;obtain⟨h1,ej,x1,dc,b0,sy,az,vu,aM⟩:=ah5 (lf:=lf) (C:=C) ns (m:=fT bl i k) (by omega) (xk:=some (I (k:Int))) (xr:=some (.ptr R.bw ((i+1)*308))) (xg:=some (I (eo k))) (λx2 x7 aP x9 h=>Ew C lf qk x2 x7 aP x9 h) (fT bl i k) 0 (by omega) lf (by omega) h on q b _ [] A ai3 an (by simp;omega) (Nat.le_refl _);rw[List.nil_append] at sy;generalize aE1:gp n (fT bl i k) on b=ans at *;have tp:1<=fT bl i k:=by unfold fT;rw[if_neg (show ¬0<bl i (a4 k) by omega)];omega
  have b4:ans.1≠[]:=λe=>by rw[e] at az;simp at az;omega
  obtain⟨g1,g2⟩:=sy.s b4;obtain⟨h2,bT,cm,fe⟩:=arS (lf:=lf) (C:=C) b0 M hi ai aC az g1 g2 qk;refine⟨h2,ej,mid aC (λr=>r=_) ?_,cm,az,vu,⟨fe.aK.trans aM.aK,Nat.le_trans aM.next fe.next,λj aa al=>(fe.same j (Nat.lt_of_lt_of_le aa aM.next) (λe=>al (.inr (.inr e)))).trans (aM.same j aa (λe=>by rcases e with e|e|e;exact al (.inl e);exact al (.inr (.inl e));omega)),λan=>fe.dA (aM.dA an)⟩⟩;unfold Ey;simp only[aE,hle,d2];unfold JE RV RU;simp only[ch,cd];exact dc.trans bT
end
def Fo(bl:Nat->Nat->Nat)(i:Nat):List Nat->List Nat->Nat->Nat->Nat
 |c::cs,j::js=>Fo (ka bl i c (j+1)) i cs js
 |_,_=>bl
def kB(bl:Nat->Nat->Nat)(i:Nat)(cs:List Nat):List Nat:=cs.filter λc=>decide (bl i c=0)
theorem aED{bl:Nat->Nat->Nat}{i c v:Nat}{cs:List Nat}(h:c ∉ cs):kB (ka bl i c v) i cs=kB bl i cs:=by
 unfold kB;apply List.filter_congr;intro x ar;rw[np _ _ (.inr λe=>h (by rw[<- e];exact ar))]
def iV(on:Nat->Bool)(b b':Nat->Nat):Prop:=∀p,on (p/64)=true->b p=b' p
theorem iV.PD{on:Nat->Bool}{b b':Nat->Nat}(h:iV on b b')(j:Nat):iV (de on j true) (gl b j) (gl b' j):=λp aC=>by
 unfold gl;by_cases ae:64*j<=p/\p<64*j+64
 ·rw[if_pos ae,if_pos ae]
 ·rw[if_neg ae,if_neg ae];refine h p ?_;rwa[ix _ _ (by omega)] at aC
section
variable{n N i:Nat}
theorem aeT{wd:Nat->Nat}(hw:∀j,wd j<2 ^ 64)(j:Nat):bQ (qV wd j)=de (bQ wd) j true:=by
 funext gW
 rw[Js hw];by_cases e:gW=j
 ·subst e;rw[kS];simp
 ·rw[ix _ _ e];simp[e]
theorem OS:∀(cs:List Nat) (s:dL) (bk:List Nat) (b2:Nat->Nat),cs.Nodup->(∀j,s.wd j<2 ^ 64)->iV (bQ s.wd) s.b b2->
 ((dp n i cs s bk).2.2=true↔(gp n (kB s.bl i cs).length (bQ s.wd) b2).1.length=(kB s.bl i cs).length)/\
 ((dp n i cs s bk).2.2=true->bQ (dp n i cs s bk).1.wd=(gp n (kB s.bl i cs).length (bQ s.wd) b2).2.1/\(dp n i cs s bk).1.bl=Fo s.bl i (kB s.bl i cs) (gp n (kB s.bl i cs).length (bQ s.wd) b2).1/\
   iV (bQ (dp n i cs s bk).1.wd) (dp n i cs s bk).1.b (gp n (kB s.bl i cs).length (bQ s.wd) b2).2.2)
 | [],s,bk,b2,_,_,ag=>⟨⟨λ_=>rfl,λ_=>rfl⟩,λ_=>⟨rfl,rfl,ag⟩⟩
 |c::cs,s,bk,b2,aO,hw,ag=>by
  obtain⟨ae,uM⟩:=List.nodup_cons.1 aO;by_cases h0:0<s.bl i c
  ·have az:dp n i (c::cs) s bk=dp n i cs s bk:=by
    show(if 0<s.bl i c then _ else _)=_;rw[if_pos h0]
   have aA:kB s.bl i (c::cs)=kB s.bl i cs:=by
    unfold kB;rw[List.filter_cons_of_neg (by simp;omega)]
   rw[az,aA];exact OS cs s bk b2 uM hw ag
  ·have aA:kB s.bl i (c::cs)=c::kB s.bl i cs:=by
    unfold kB;rw[List.filter_cons_of_pos (by simp;omega)]
   rw[aA];have el:low n s.wd=oN n (bQ s.wd):=rfl;cases aL:oN n (bQ s.wd) with
   |none=>
    have az:dp n i (c::cs) s bk=(s,bk,false):=by
     show(if 0<s.bl i c then _ else match low n s.wd with|none=>_|some j=>_)=_;rw[if_neg h0,el,aL]
    have cj:gp n (c::kB s.bl i cs).length (bQ s.wd) b2=([],bQ s.wd,b2):=by
     show(match oN n (bQ s.wd) with|none=>_|some j=>_)=_;rw[aL]
    rw[az,cj];exact⟨by simp,λe=>by cases e⟩
   |some j=>
    have az:dp n i (c::cs) s bk=dp n i cs (s.take i c j) (bk++[c]):=by
     show(if 0<s.bl i c then _ else match low n s.wd with|none=>_|some j=>_)=_;rw[if_neg h0,el,aL]
    have cj:gp n (c::kB s.bl i cs).length (bQ s.wd) b2=(j::(gp n (kB s.bl i cs).length (de (bQ s.wd) j true) (gl b2 j)).1,(gp n (kB s.bl i cs).length (de (bQ s.wd) j true) (gl b2 j)).2):=by
     show(match oN n (bQ s.wd) with|none=>_|some j=>_)=_;rw[aL]
    have bc:=OS cs (s.take i c j) (bk++[c]) (gl b2 j) uM (aeS hw j) (by
     show iV (bQ (qV s.wd j)) (gl s.b j) (gl b2 j);rw[aeT hw]
     exact ag.PD j)
    have e9:(s.take i c j).bl=ka s.bl i c (j+1):=rfl;have iE:bQ (s.take i c j).wd=de (bQ s.wd) j true:=aeT hw j;rw[e9,aED ae,iE] at bc;rw[az,cj];obtain⟨i1,i2⟩:=bc;refine⟨i1.trans (by simp),λe=>?_⟩;exact i2 e
theorem di.put{rd:Nat->Nat->J}{bl:Nat->Nat->Nat}(M:di N rd bl){c v:Nat}(dG:12<=c)(ae:c<308):di N (cT rd (i+1) c (I (v:Int))) (ka bl i (pm c) v):=λi' a3 cF nN fr=>by
 by_cases e:i'=i/\a3=c
 ·obtain⟨rfl,rfl⟩:=e;rw[mU,sn]
 ·rw[ho _ _ (by omega),np _ _ ?_]
  ·exact M i' a3 cF nN fr
  ·by_cases az:i'=i
   ·exact .inr λaA=>e ⟨az,ae8 nN fr dG ae aA⟩
   ·exact .inl az
theorem di.aff:∀{zs js:List Nat} {rd:Nat->Nat->J} {bl:Nat->Nat->Nat},di N rd bl->(∀c∈zs,12<=c/\c<308)->di N (p2 rd (i+1) zs js) (Fo bl i (zs.map pm) js)
 | [],_,_,_,M,_=>by simpa[p2,Fo] using M
 |_::_,[],_,_,M,_=>by simpa[p2,Fo] using M
 |c::zs,j::js,rd,bl,M,h=>by
  have h1:=h c (List.mem_cons_self ..)
  have:=di.aff (zs:=zs) (js:=js) (di.put (i:=i) (v:=j+1) M h1.1 h1.2) λx ar=>h x (List.mem_cons_of_mem _ ar)
  exact this
theorem aEH{bl:Nat->Nat->Nat}{k:Nat}(ai:k<278)(h0:bl i (a4 k)=0):(su bl i k).map pm=kB bl i (dw k):=by
 have aC:pm (12+k)=a4 k:=qZ ai;unfold su kB dw;by_cases bB:k<6
 ·rw[if_pos bB,if_neg (by omega),if_neg (by omega)];simp[aC,h0]
 ·have bd:=Rz (k:=k) (by omega) ai;by_cases mF:k<22
  ·have az:mO k=18:=if_pos mF;rw[if_neg bB,if_pos mF,if_neg (by omega)];rw[az] at bd⊢;by_cases aS:bl i 18=0
   ·rw[if_pos ⟨by omega,aS⟩];simp[aC,h0,bd,aS]
   ·rw[if_neg (λe=>aS e.2)];simp[aC,h0,aS]
  ·have az:mO k=36+17*((k-22)/16):=if_neg mF;rw[if_neg bB,if_neg mF];rw[az] at bd⊢;by_cases aS:bl i (36+17*((k-22)/16))=0<;>by_cases a2:bl i 35=0<;>simp[aC,h0,bd,aS,a2,zc,show 22<=k by omega,show 6<=k by omega]
theorem aiL{bl:Nat->Nat->Nat}{k:Nat}(ai:k<278):∀c∈su bl i k,12<=c/\c<308:=λc ae=>by
 unfold su at ae;simp only[List.mem_append] at ae;rcases ae with ae|ae|ae
 ·split at ae
  ·simp at ae;omega
  ·cases ae
 ·split at ae
  ·simp at ae;omega
  ·cases ae
 ·simp at ae;omega
end
theorem acp{n:Nat}:∀(m:Nat) (on:Nat->Bool) (b:Nat->Nat),(gp n m on b).1.length=m↔m+(eR on n).length<=n
 |0,on,b=>by
  have:=BU on n
  exact⟨λ_=>by omega,λ_=>rfl⟩
 |m+1,on,b=>by
  cases aL:oN n on with
  |none=>
   have e:gp n (m+1) on b=([],on,b):=by
    show(match oN n on with|none=>_|some j=>_)=_;rw[aL]
   have hu:(eR on n).length=n:=aad (Rb aL);rw[e];exact⟨λh=>by simp at h,λh=>by omega⟩
  |some j=>
   have e:gp n (m+1) on b=(j::(gp n m (de on j true) (gl b j)).1,(gp n m (de on j true) (gl b j)).2):=by
    show(match oN n on with|none=>_|some j=>_)=_;rw[aL]
   obtain⟨AY,D7,_⟩:=Rc aL;have bc:=acp (n:=n) m (de on j true) (gl b j);rw[aii AY D7] at bc;rw[e];show(gp n m (de on j true) (gl b j)).1.length+1=m+1↔_;constructor
   ·intro h
    have:=bc.1 (by omega)
    omega
   ·intro h
    have:=bc.2 (by omega)
    omega
theorem aqN{k:Nat}(ai:k<278):(dw k).Nodup:=by
 have aO:=tK ai;unfold dw;by_cases bB:k<6
 ·rw[if_pos bB];simp
 ·rw[if_neg bB];by_cases mF:k<22
  ·rw[if_pos mF];have h1:¬(18=a4 k):=λe=>aO.1 e.symm
   simp[h1]
  ·rw[if_neg mF];have h1:¬(36+17*((k-22)/16)=a4 k):=λe=>aO.2.2 _ (by omega) e.symm
   have h2:¬(35=a4 k):=λe=>aO.2.1 e.symm
   have h3:¬(35=36+17*((k-22)/16)):=by omega
   simp only[List.nodup_cons,List.mem_cons,List.not_mem_nil,or_false,not_or,not_false_eq_true,List.nodup_nil,and_true];exact⟨⟨h3,h2⟩,h1⟩
theorem amU{n N i k:Nat}{s:dL}{rd:Nat->Nat->J}{b2:Nat->Nat}(hi:i<N)(W:pk n N s)(ai:k<278)(M:di N rd s.bl)(ag:iV (bQ s.wd) s.b b2)(h0:s.bl i (a4 k)=0):
 ((bN n i k s).2=true↔fT s.bl i k+(eR (bQ s.wd) n).length<=n)/\
 ((bN n i k s).2=true->bQ (bN n i k s).1.wd=(gp n (fT s.bl i k) (bQ s.wd) b2).2.1/\di N (p2 rd (i+1) (su s.bl i k) (gp n (fT s.bl i k) (bQ s.wd) b2).1) (bN n i k s).1.bl/\
   iV (bQ (bN n i k s).1.wd) (bN n i k s).1.b (gp n (fT s.bl i k) (bQ s.wd) b2).2.2)/\
 ((bN n i k s).2=false->(bN n i k s).1.wd=s.wd/\(bN n i k s).1.nd=s.nd/\(bN n i k s).1.bl=s.bl/\iV (bQ s.wd) (bN n i k s).1.b b2):=by
 obtain⟨f1,f2⟩:=OS (n:=n) (i:=i) (dw k) s [] b2 (aqN ai) W.w ag;have a1:=aEH (i:=i) (bl:=s.bl) ai h0;have aL:(kB s.bl i (dw k)).length=fT s.bl i k:=by rw[<- a1,List.length_map,aEG h0]
 rw[aL] at f1 f2;rw[<- a1] at f2;have bd:=acp (n:=n) (fT s.bl i k) (bQ s.wd) b2
 have az:bN n i k s=if(dp n i (dw k) s []).2.2=true then((dp n i (dw k) s []).1,true) else(⟨s.wd,(dp n i (dw k) s []).1.b,s.nd,s.bl⟩,false):=by
  unfold bN;rw[if_neg (show ¬0<s.bl i (a4 k) by omega)]
 have t:oi n i s (dp n i (dw k) s []).2.1 (dp n i (dw k) s []).1:=xT (dw k) s [] .nil (Bn ai);have P:=t.props hi W.M W.w;rw[az];by_cases ae:(dp n i (dw k) s []).2.2=true
 ·rw[if_pos ae];obtain⟨g1,g2,g3⟩:=f2 ae;refine⟨⟨λ_=>bd.1 (f1.1 ae),λ_=>rfl⟩,λ_=>⟨g1,?_,g3⟩,λe=>by cases e⟩;show di N _ (dp n i (dw k) s []).1.bl;rw[g2];exact di.aff M (aiL ai)
 ·rw[if_neg ae];refine⟨⟨λe=>(by cases e),λh=>absurd (f1.2 (bd.2 h)) ae⟩,λe=>(by cases e),λ_=>⟨rfl,rfl,rfl,λp aC=>?_⟩⟩;show(dp n i (dw k) s []).1.b p=b2 p;rw[P.Cv p aC];exact ag p aC
section
variable{lf:Nat}{h:U}{R:eS}{n N:Nat}{on:Nat->Bool}{q:Nat->Option Nat}{b:Nat->Nat}{now:Int}{us:Nat->Bool}{rd:Nat->Nat->J}
theorem bJ.RB(A:bJ h R n N on q b now us rd){j p v:Nat}(aa:j<n)(eZ:on j=true)(aC:p<64)(hv:v<256):
 ∃x1 x bS,h.cell R.rt 1=some x1/\dS 1 x1 (I (j:Int))=some (.ptr R.rb j)/\h.cell R.rb j=some x/\q j=some bS/\dS 1 x (I (p:Int))=some (.ptr bS p)/\
  st 1 (.ptr bS p) (.int .u8 (v:Int)) h=some (h.set bS p [.int .u8 (v:Int)])/\bJ (h.set bS p [.int .u8 (v:Int)]) R n N on q (over b (j*64+p) [v]) now us rd:=by
 obtain⟨x0,x1,c0,aS,V⟩:=A.ref.v;obtain⟨cap,lo,rfl⟩:=V.az;have gb:=V.cA;cases a0:q j with
 |none=>
  have:=(V.off j aa a0).1
  rw[eZ] at this;cases this
 |some bS=>
  obtain⟨h1,h2,x,h3,aW⟩:=V.has j bS aa a0;have B:=aW.jI eZ;obtain⟨Nf,Q8,rfl⟩:=B.aZ;have nb:=gV (s:=1) (k:=R.rb) (off:=0) (len:=n) (lo:=lo) (cap:=cap) (kd:= .i64) (i:=(j:Int)) (by omega) (by omega);rw[Int.toNat_natCast,Nat.mul_one,Nat.zero_add] at nb;have nc:=gV (s:=1) (k:=bS) (off:=0) (len:=64) (lo:=Q8) (cap:=Nf) (kd:= .i64) (i:=(p:Int)) (by omega) (by omega);rw[Int.toNat_natCast,Nat.mul_one,Nat.zero_add] at nc;have dv:=hR (n:=1) (off:=p) (y:= .int .u8 (v:Int)) B.w rfl (by omega) rfl
  have ao4:=A.ref.put (i:=j) (k:=bS) (p:=p) (v:=v) aa eZ a0 aC hv (b':=over b (j*64+p) [v]) (λt=>by
   unfold over;by_cases e:t=j*64+p
   ·subst e;rw[if_pos rfl,if_pos ⟨Nat.le_refl _,by simp⟩,Nat.sub_self];rfl
   ·rw[if_neg e,if_neg (by simp only[List.length_cons,List.length_nil];omega)])
  have F:aG h (h.set bS p [.int .u8 (v:Int)]) (· =bS):=fa rfl;have cH:bS≠R.rt:=A.ref.qT j bS aa a0;have cA:bS≠R.bw:=A.d4 j bS aa a0;have st:cQ h (h.set bS p [.int .u8 (v:Int)]) R.rt:=F.same _ A.ref.lt (λe=>cH e.symm);have aZ:cQ h (h.set bS p [.int .u8 (v:Int)]) R.bw:=F.same _ A.hO (λe=>cA e.symm);exact⟨_,_,bS,aS,nb,h3,rfl,nc,dv,⟨A.pd,A.gN,ao4,by rw[st.cell];exact A.a2,by rw[st.cell];exact A.cr,let ⟨cap,lo,e⟩:=A.ct;⟨cap,lo,by rw[st.cell];exact e⟩,fI A.wt st,fI A.wl aZ,λi c hi ae=>by rw[aZ.cell];exact A.kj i c hi ae,A.lX,A.d1,A.d2,A.d3,A.d4,by rw[eb];exact A.hO⟩⟩
end
section
variable{lf:Nat}{h:U}{R:eS}{n N:Nat}{on:Nat->Bool}{q:Nat->Option Nat}{b:Nat->Nat}{now:Int}{us:Nat->Bool}{rd:Nat->Nat->J}{bl:Nat->Nat->Nat}{i:Nat}
theorem akP(A:bJ h R n N on q b now us rd)(M:di N rd bl)(hi:i<N){off t:Nat}{x:J}{l:List Nat}(aN:t<l.length)(aC:off+t<17792)(B:Bytes h x l)(hv:0<bl i (a4 ((off+t)/64)))(Qs:bl i (a4 ((off+t)/64))<=n)(eZ:on (bl i (a4 ((off+t)/64))-1)=true):
 ∃x1 xr bS my,ev 278 1 (.ptr R.bw ((i+1)*308+12)) (I (((off+t)/64:Nat):Int))=some (.ptr R.bw ((i+1)*308+(12+(off+t)/64)))/\
  h.cell R.bw ((i+1)*308+(12+(off+t)/64))=some (I (bl i (a4 ((off+t)/64)):Int))/\h.cell R.rt 1=some x1/\dS 1 x1 (I ((bl i (a4 ((off+t)/64))-1:Nat):Int))=some (.ptr R.rb (bl i (a4 ((off+t)/64))-1))/\
  h.cell R.rb (bl i (a4 ((off+t)/64))-1)=some xr/\q (bl i (a4 ((off+t)/64))-1)=some bS/\dS 1 xr (I (((off+t)%64:Nat):Int))=some (.ptr bS ((off+t)%64))/\
  dS 1 x (I (t:Int))=some my/\bZ my h=some (.int .u8 ((l.getD t 0:Nat):Int))/\
  st 1 (.ptr bS ((off+t)%64)) (.int .u8 ((l.getD t 0:Nat):Int)) h=some (h.set bS ((off+t)%64) [.int .u8 ((l.getD t 0:Nat):Int)])/\
  bJ (h.set bS ((off+t)%64) [.int .u8 ((l.getD t 0:Nat):Int)]) R n N on q (over b ((bl i (a4 ((off+t)/64))-1)*64+(off+t)%64) [l.getD t 0]) now us rd:=by
 have ai:(off+t)/64<278:=by omega
 have uH:ev 278 1 (.ptr R.bw ((i+1)*308+12)) (I (((off+t)/64:Nat):Int))=some (.ptr R.bw ((i+1)*308+(12+(off+t)/64))):=by
  have:=lP (n:=278) (s:=1) (k:=R.bw) (off:=(i+1)*308+12) (kd:= .i64) (i:=(((off+t)/64:Nat):Int)) (by omega) (by omega)
  rwa[Int.toNat_natCast,Nat.mul_one,Nat.add_assoc] at this
 have eL:=mS A M hi (c:=12+(off+t)/64) (by omega) (by omega);rw[qZ ai] at eL
 have ae:l.getD t 0<256:=by
  rw[List.getD,List.getElem?_eq_getElem aN];exact B.1 _ (List.getElem_mem aN)
 obtain⟨my,ak,aD⟩:∃my,dS 1 x (I (t:Int))=some my/\bZ my h=some (.int .u8 ((l.getD t 0:Nat):Int)):=by
  rcases B.2 with⟨_,rfl⟩|⟨bR,ob,cap,lo,j5,rfl,_,eA⟩
  ·simp at aN
  ·have b7:=gV (s:=1) (k:=bR) (off:=ob) (len:=l.length) (lo:=lo) (cap:=cap) (kd:= .i64) (i:=(t:Int)) (by omega) (by omega);rw[Int.toNat_natCast,Nat.mul_one] at b7;exact⟨_,b7,eA t aN⟩
 obtain⟨x1,xr,bS,bT,cm,fe,nj,y8,Rv,Rw⟩:=A.RB (j:=bl i (a4 ((off+t)/64))-1) (p:=(off+t)%64) (v:=l.getD t 0) (by omega) eZ (by omega) ae;exact⟨x1,xr,bS,my,uH,eL,bT,cm,fe,nj,y8,ak,aD,Rv,Rw⟩
theorem akQ{C:ad}(A:bJ h R n N on q b now us rd)(M:di N rd bl)(hi:i<N){off t:Nat}{x:J}{l:List Nat}(aN:t<l.length)(aC:off+t<17792)(B:Bytes h x l)(hv:0<bl i (a4 ((off+t)/64)))(Qs:bl i (a4 ((off+t)/64))<=n)(eZ:on (bl i (a4 ((off+t)/64))-1)=true){h0:U}(aiR:Bytes h0 x l)
 (hlen:l.length<=140737488351232)(m9:C (.fn 106) [.ptr R.rt 0,I ((i+1:Nat):Int),I (((off+t)/64:Nat):Int)] h0=some (.ret (.bool true),h))(fc:dy)(av:bt):
 ∃h' bS,uZ C lf fc av (some (.ptr R.rt 0)) (some (I ((i+1:Nat):Int))) (some (I (off:Int))) (some x) (some (.ptr R.bw ((i+1)*308))) (some (I (t:Int))) h0=
   fc (some (.ptr R.rt 0)) (some (I ((i+1:Nat):Int))) (some (I (off:Int))) (some x) (some (.ptr R.bw ((i+1)*308))) (some (I ((t+1:Nat):Int))) h'/\
  bJ h' R n N on q (over b ((bl i (a4 ((off+t)/64))-1)*64+(off+t)%64) [l.getD t 0]) now us rd/\q (bl i (a4 ((off+t)/64))-1)=some bS/\aG h h' (· =bS):=by
 obtain⟨x1,xr,bS,my,s1,s2,er,fo,oT,tR,ag8,aBb,aBc,aA7,aA8⟩:=akP A M hi aN aC B hv Qs eZ;have aL:=qQ (P:=aw) Tryd.underlying24 aiR;have gb:n<=4096:=A.ref.v.choose_spec.choose_spec.2.2.cA;have d1:decide ((t:Int)<(l.length:Int))=true:=bu (by omega);have iK:IntKind.i64.wrap ((off:Int)+(t:Int))=((off+t:Nat):Int):=cL (by omega);have d2:decide (((off+t:Nat):Int)<17792)=true:=bu (by omega)
 have a0:IntKind.i64.wrap (((off+t:Nat):Int).tdiv 64)=(((off+t)/64:Nat):Int):=by
  rw[Int.tdiv_eq_ediv_of_nonneg (by omega),wrap_i64 (by omega) (by omega)];rfl
 have aI:((off+t:Nat):Int).tmod 64=(((off+t)%64:Nat):Int):=by
  rw[Int.tmod_eq_emod_of_nonneg (by omega)];rfl
 have kr:IntKind.i64.wrap ((bl i (a4 ((off+t)/64)):Int)-1)=((bl i (a4 ((off+t)/64))-1:Nat):Int):=cL (by omega);have dC:IntKind.i64.wrap ((t:Int)+1)=((t+1:Nat):Int):=cL (by omega);refine⟨_,bS,?_,aA8,tR,fa rfl⟩;unfold uZ;simp only[aE,aL,d1,iK,d2,lD (show(64:Int)≠0 by omega),a0,m9,Bool.not_true,s1,s2,kr,er,fo,oT,h6 (show(64:Int)≠0 by omega),aI,aBb,aBc,ag8,aA7,dC]
end
def jz(n i off:Nat)(l:List Nat):Nat->Nat->dL->dL×Nat
 |0,t,s=>(s,t)
 |g+1,t,s=>if t<l.length/\off+t<17792 then
   (if(bN n i ((off+t)/64) s).2=true then
     jz n i off l g (t+1) ⟨(bN n i ((off+t)/64) s).1.wd,
      over (bN n i ((off+t)/64) s).1.b (((bN n i ((off+t)/64) s).1.bl i (a4 ((off+t)/64))-1)*64+(off+t)%64) [l.getD t 0],
      (bN n i ((off+t)/64) s).1.nd,(bN n i ((off+t)/64) s).1.bl⟩
   else((bN n i ((off+t)/64) s).1,t)) else(s,t)
theorem ahk{i' c i:Nat}(ae:c<12):∀{zs js:List Nat} {rd:Nat->Nat->J},(∀z∈zs,12<=z/\z<308)->p2 rd i zs js i' c=rd i' c
 | [],_,_,_=>by simp[p2]
 |_::_,[],_,_=>by simp[p2]
 |z::zs,j::js,rd,h=>by
  show p2 (cT rd i z _) i zs js i' c=_;rw[ahk ae λx ar=>h x (List.mem_cons_of_mem _ ar),ho _ _ (.inr (by have:=(h z (List.mem_cons_self ..)).1;omega))]
theorem iV.over{on:Nat->Bool}{b b':Nat->Nat}(h:iV on b b')(p:Nat)(l:List Nat):iV on (Eva.over b p l) (Eva.over b' p l):=λj aa=>by
 unfold Eva.over;split
 ·rfl
 ·exact h j aa
section
variable{lf:Nat}{h:U}{R:eS}{n N:Nat}{now:Int}{us:Nat->Bool}{i:Nat}
theorem aA2{C:ad}(MN:Gv C)(hi:i<N){off:Nat}(jL:off<17792){x:J}{l:List Nat}(hlen:l.length<=140737488351232)(ar:∀j,rowOf x=some j->j≠R.ro/\j≠R.rb/\j≠R.bw)(av:bt):
 ∀(g t:Nat),min l.length (17792-off)-t<=g->t<=min l.length (17792-off)->∀f,g<f->∀h s rd q b2,pk n N s->bJ h R n N (bQ s.wd) q b2 now us rd->di N rd s.bl->iV (bQ s.wd) s.b b2->Bytes h x l->(∀j,rowOf x=some j->j<h.next/\∀u,q u≠some j)->
 ∃h' cv hA nD,bq (yQ C lf av) f (some (.ptr R.rt 0),some (I ((i+1:Nat):Int)),some (I (off:Int)),some x,some (.ptr R.bw ((i+1)*308)),some (I (t:Int))) h=
   av (some (.ptr R.rt 0)) (some (I (off:Int))) (some (.ptr R.bw ((i+1)*308))) (some (I ((jz n i off l g t s).2:Int))) h'/\
  bJ h' R n N (bQ (jz n i off l g t s).1.wd) hA nD now us cv/\di N cv (jz n i off l g t s).1.bl/\iV (bQ (jz n i off l g t s).1.wd) (jz n i off l g t s).1.b nD/\(∀i' c,c<12->cv i' c=rd i' c)/\
  (∀u k,hA u=some k->q u=some k\/h.next<=k)/\aG h h' (λj=>j=R.ro\/j=R.rb\/j=R.bw\/∃u,q u=some j):=by
 intro g
 induction g with
 |zero=>
  intro t bd aN f an h s rd q b2 W A M jC B qC;obtain⟨f,rfl⟩:=dK f (by omega);have aL:=qQ (P:=aw) Tryd.underlying24 B;refine⟨h,rd,q,b2,?_,A,M,jC,λ_ _ _=>rfl,λ_ _ e=> .inl e,aG.refl _ _⟩;rw[dr];unfold yQ uZ;by_cases h1:(t:Int)<(l.length:Int)
  ·have iK:IntKind.i64.wrap ((off:Int)+(t:Int))=((off+t:Nat):Int):=cL (by omega);have d2:decide (((off+t:Nat):Int)<17792)=false:=br (by omega);simp only[aE,aL,bu h1,iK,d2];rfl
  ·simp only[aE,aL,br h1,iH];rfl
 |succ g bc=>
  intro t bd aN f an h s rd q b2 W A M jC B qC;obtain⟨f,rfl⟩:=dK f (by omega);have aL:=qQ (P:=aw) Tryd.underlying24 B;rw[dr];show ∃h' cv hA nD,uZ C lf (λx0 x1 x2 x3 aX x11 h=>bq (yQ C lf av) f (x0,x1,x2,x3,aX,x11) h) av (some (.ptr R.rt 0)) (some (I ((i+1:Nat):Int))) (some (I (off:Int))) (some x) (some (.ptr R.bw ((i+1)*308))) (some (I (t:Int))) h=_/\_;by_cases ae:t<l.length/\off+t<17792
  ·obtain⟨aS,a2⟩:=ae;have ai:(off+t)/64<278:=by omega
   have hw:jz n i off l (g+1) t s=if(bN n i ((off+t)/64) s).2=true then
    jz n i off l g (t+1) ⟨(bN n i ((off+t)/64) s).1.wd,
     over (bN n i ((off+t)/64) s).1.b (((bN n i ((off+t)/64) s).1.bl i (a4 ((off+t)/64))-1)*64+(off+t)%64) [l.getD t 0],
     (bN n i ((off+t)/64) s).1.nd,(bN n i ((off+t)/64) s).1.bl⟩
    else((bN n i ((off+t)/64) s).1,t):=by
    show(if t<l.length/\off+t<17792 then _ else _)=_;rw[if_pos ⟨aS,a2⟩]
   rw[hw];obtain⟨bT,cm⟩:=zb ai;obtain⟨k1,k2,hx⟩:=MN h R n N (bQ s.wd) q b2 now us rd s.bl i ((off+t)/64) A M hi ai;have jG:=OV (i:=i) W hi ai
   have rest:∀h1 jx ej hf,C (.fn 106) [.ptr R.rt 0,I ((i+1:Nat):Int),I (((off+t)/64:Nat):Int)] h=some (.ret (.bool true),h1)->(bN n i ((off+t)/64) s).2=true->
    bJ h1 R n N (bQ (bN n i ((off+t)/64) s).1.wd) ej hf now us jx->di N jx (bN n i ((off+t)/64) s).1.bl->iV (bQ (bN n i ((off+t)/64) s).1.wd) (bN n i ((off+t)/64) s).1.b hf->(∀i' c,c<12->jx i' c=rd i' c)->
    (∀u k,ej u=some k->q u=some k\/h.next<=k)->aG h h1 (λj=>j=R.ro\/j=R.rb\/j=R.bw)->
    ∃h' cv hA nD,uZ C lf (λx0 x1 x2 x3 aX x11 h=>bq (yQ C lf av) f (x0,x1,x2,x3,aX,x11) h) av (some (.ptr R.rt 0)) (some (I ((i+1:Nat):Int))) (some (I (off:Int))) (some x) (some (.ptr R.bw ((i+1)*308))) (some (I (t:Int))) h=
      av (some (.ptr R.rt 0)) (some (I (off:Int))) (some (.ptr R.bw ((i+1)*308))) (some (I ((jz n i off l g (t+1) ⟨(bN n i ((off+t)/64) s).1.wd,
       over (bN n i ((off+t)/64) s).1.b (((bN n i ((off+t)/64) s).1.bl i (a4 ((off+t)/64))-1)*64+(off+t)%64) [l.getD t 0],(bN n i ((off+t)/64) s).1.nd,(bN n i ((off+t)/64) s).1.bl⟩).2:Int))) h'/\
     bJ h' R n N (bQ (jz n i off l g (t+1) ⟨(bN n i ((off+t)/64) s).1.wd,over (bN n i ((off+t)/64) s).1.b (((bN n i ((off+t)/64) s).1.bl i (a4 ((off+t)/64))-1)*64+(off+t)%64) [l.getD t 0],(bN n i ((off+t)/64) s).1.nd,(bN n i ((off+t)/64) s).1.bl⟩).1.wd) hA nD now us cv/\
     di N cv (jz n i off l g (t+1) ⟨(bN n i ((off+t)/64) s).1.wd,over (bN n i ((off+t)/64) s).1.b (((bN n i ((off+t)/64) s).1.bl i (a4 ((off+t)/64))-1)*64+(off+t)%64) [l.getD t 0],(bN n i ((off+t)/64) s).1.nd,(bN n i ((off+t)/64) s).1.bl⟩).1.bl/\
     iV (bQ (jz n i off l g (t+1) ⟨(bN n i ((off+t)/64) s).1.wd,over (bN n i ((off+t)/64) s).1.b (((bN n i ((off+t)/64) s).1.bl i (a4 ((off+t)/64))-1)*64+(off+t)%64) [l.getD t 0],(bN n i ((off+t)/64) s).1.nd,(bN n i ((off+t)/64) s).1.bl⟩).1.wd) (jz n i off l g (t+1) ⟨(bN n i ((off+t)/64) s).1.wd,over (bN n i ((off+t)/64) s).1.b (((bN n i ((off+t)/64) s).1.bl i (a4 ((off+t)/64))-1)*64+(off+t)%64) [l.getD t 0],(bN n i ((off+t)/64) s).1.nd,(bN n i ((off+t)/64) s).1.bl⟩).1.b nD/\
     (∀i' c,c<12->cv i' c=rd i' c)/\(∀u k,hA u=some k->q u=some k\/h.next<=k)/\aG h h' (λj=>j=R.ro\/j=R.rb\/j=R.bw\/∃u,q u=some j):=λh1 jx ej hf m9 ag b0 h5 aiT pN vu aM=>by
    have tp:=OU ag;generalize(bN n i ((off+t)/64) s).1=s1 at *;have acD:Bytes h1 x l:=B.frame λbR ob len cap lo e=>aM.same bR (qC bR (by rw[e];rfl)).1 (λaA=>by have:=ar bR (by rw[e];rfl);omega)
    obtain⟨h2,bS,aA,dk,fV,bD⟩:=akQ (lf:=lf) (C:=C) b0 h5 hi aS a2 acD tp (jG.M.le i _) (jG.M.on i _ hi bT cm tp) B hlen m9 (λx0 x1 x2 x3 aX x11 h=>bq (yQ C lf av) f (x0,x1,x2,x3,aX,x11) h) av
    have aoJ:∀j,rowOf x=some j->j≠bS:=λj aa e=>by
     rcases vu _ _ fV with cj|cj
     ·exact(qC j aa).2 _ (by rw[e];exact cj)
     ·have:=(qC j aa).1;omega
    have anO:Bytes h2 x l:=acD.frame λbR ob len cap lo e=>bD.same bR (Nat.lt_of_lt_of_le (qC bR (by rw[e];rfl)).1 aM.next) (aoJ bR (by rw[e];rfl))
    obtain⟨h3,Wo,nk,kF,dc,du,fm,kP,mm,q3,q4⟩:=bc (t+1) (by omega) (by omega) f (by omega) h2 ⟨s1.wd,over s1.b ((s1.bl i (a4 ((off+t)/64))-1)*64+(off+t)%64) [l.getD t 0],s1.nd,s1.bl⟩ jx ej _ ⟨jG.M,jG.w⟩ dk h5 (aiT.over _ _) anO
     (λj aa=>⟨Nat.lt_of_lt_of_le (qC j aa).1 (Nat.le_trans aM.next bD.next),λu e=>by
       rcases vu _ _ e with cj|cj
       ·exact(qC j aa).2 _ cj
       ·have:=(qC j aa).1;omega⟩)
    refine⟨h3,Wo,nk,kF,aA.trans dc,du,fm,kP,λi' c ae=>(mm i' c ae).trans (pN i' c ae),λu k e=>?_,⟨q4.aK.trans (bD.aK.trans aM.aK),Nat.le_trans aM.next (Nat.le_trans bD.next q4.next),λj aa aO=>?_,λan=>q4.dA (bD.dA (aM.dA an))⟩⟩
    ·rcases q3 u k e with cj|cj
     ·exact vu u k cj
     ·exact .inr (by have:=aM.next;have:=bD.next;omega)
    ·have a0:∀u,ej u≠some j:=λu e=>by
      rcases vu u j e with cj|cj
      ·exact aO (.inr (.inr (.inr ⟨u,cj⟩)))
      ·omega
     exact(q4.same j (Nat.lt_of_lt_of_le aa (Nat.le_trans aM.next bD.next)) (λe=>by
      rcases e with e|e|e|⟨u,e⟩
      ·exact aO (.inl e)
      ·exact aO (.inr (.inl e))
      ·exact aO (.inr (.inr (.inl e)))
      ·exact a0 u e)).trans ((bD.same j (Nat.lt_of_lt_of_le aa aM.next) (λe=>a0 _ (by rw[e];exact fV))).trans (aM.same j aa (λe=>by
      rcases e with e|e|e
      ·exact aO (.inl e)
      ·exact aO (.inr (.inl e))
      ·exact aO (.inr (.inr (.inl e))))))
   by_cases aC:0<s.bl i (a4 ((off+t)/64))
   ·have c2:bN n i ((off+t)/64) s=(s,true):=by unfold bN;rw[if_pos aC]
    have ag:(bN n i ((off+t)/64) s).2=true:=by rw[c2]
    rw[if_pos ag];exact rest h rd q b2 (k1 aC) ag (by rw[c2];exact A) (by rw[c2];exact M) (by rw[c2];exact jC) (λ_ _ _=>rfl) (λ_ _ e=> .inl e) (aG.refl _ _)
   ·have h0:s.bl i (a4 ((off+t)/64))=0:=by omega
    obtain⟨t1,t2,t3⟩:=amU (b2:=b2) hi W ai M jC h0;by_cases ag:(bN n i ((off+t)/64) s).2=true
    ·rw[if_pos ag];obtain⟨h1,ej,cr,b0,_,vu,aM⟩:=hx h0 (t1.1 ag);obtain⟨g1,g2,g3⟩:=t2 ag;exact rest h1 _ ej _ cr ag (by rw[g1];exact b0) g2 g3 (λi' c ae=>ahk ae (aiL ai)) vu aM
    ·have iL:(bN n i ((off+t)/64) s).2=false:=by simpa using ag
     rw[if_neg ag];obtain⟨g1,g2,g3,g4⟩:=t3 iL;have cr:=k2 h0 (Nat.lt_of_not_le λh=>ag (t1.2 h));refine⟨h,rd,q,b2,?_,by rw[g1];exact A,by rw[g3];exact M,by rw[g1];exact g4,λ_ _ _=>rfl,λ_ _ e=> .inl e,aG.refl _ _⟩;have d1:decide ((t:Int)<(l.length:Int))=true:=bu (by omega);have iK:IntKind.i64.wrap ((off:Int)+(t:Int))=((off+t:Nat):Int):=cL (by omega);have d2:decide (((off+t:Nat):Int)<17792)=true:=bu (by omega)
     have a0:IntKind.i64.wrap (((off+t:Nat):Int).tdiv 64)=(((off+t)/64:Nat):Int):=by
      rw[Int.tdiv_eq_ediv_of_nonneg (by omega),wrap_i64 (by omega) (by omega)];rfl
     unfold uZ;simp only[aE,aL,d1,iK,d2,lD (show(64:Int)≠0 by omega),a0,cr,Bool.not_false]
  ·have hw:jz n i off l (g+1) t s=(s,t):=by
    show(if t<l.length/\off+t<17792 then _ else _)=_;rw[if_neg ae]
   rw[hw];refine⟨h,rd,q,b2,?_,A,M,jC,λ_ _ _=>rfl,λ_ _ e=> .inl e,aG.refl _ _⟩;unfold uZ;by_cases h1:(t:Int)<(l.length:Int)
   ·have iK:IntKind.i64.wrap ((off:Int)+(t:Int))=((off+t:Nat):Int):=cL (by omega);have d2:decide (((off+t:Nat):Int)<17792)=false:=br (by omega);simp only[aE,aL,bu h1,iK,d2]
   ·simp only[aE,aL,br h1,iH]
end
theorem arE(b:Nat->Nat)(p c:Nat)(l:List Nat):over (over b p [c]) (p+1) l=over b p (c::l):=by
 funext j
 unfold over;simp only[List.length_cons,List.length_nil];by_cases h1:j=p
 ·subst h1;rw[if_neg (by omega),if_pos (by omega),if_pos (by omega),Nat.sub_self];rfl
 ·by_cases h2:p+1<=j/\j<p+1+l.length
  ·rw[if_pos h2,if_pos (by omega),show j-p=(j-(p+1))+1 by omega];rfl
  ·rw[if_neg h2,if_neg (by omega),if_neg (by omega)]
theorem aeX(b:Nat->Nat)(p:Nat):over b p []=b:=by
 funext j
 unfold over;simp only[List.length_nil];rw[if_neg (by omega)]
section
variable{n i off:Nat}{l:List Nat}
theorem Zn{t:Nat}(h:t<l.length)(h2:off+t<17792):(ez off l).drop t=l.getD t 0::(ez off l).drop (t+1):=by
 have aL:t<(ez off l).length:=by simp[ez];omega
 rw[List.drop_eq_getElem_cons aL];congr 1;simp[ez,List.getD,h]
theorem aip{k:Nat}(g:Nat):∀(m t:Nat) (s:dL),0<s.bl i (a4 k)->(∀u,u<m->(off+(t+u))/64=k)->t+m<=l.length->off+(t+m)<=17792->
 jz n i off l (m+g) t s=jz n i off l g (t+m) ⟨s.wd,over s.b ((s.bl i (a4 k)-1)*64+(off+t)%64) (((ez off l).drop t).take m),s.nd,s.bl⟩
 |0,t,s,_,_,_,_=>by
  rw[Nat.zero_add,Nat.add_zero,List.take_zero,aeX]
 |m+1,t,s,aC,ai,h1,h2=>by
  have v9:=ai 0 (by omega);rw[Nat.add_zero] at v9
  have c2:bN n i ((off+t)/64) s=(s,true):=by
   unfold bN;rw[v9,if_pos aC]
  have az:jz n i off l (m+1+g) t s=jz n i off l (m+g) (t+1) ⟨s.wd,over s.b ((s.bl i (a4 k)-1)*64+(off+t)%64) [l.getD t 0],s.nd,s.bl⟩:=by
   rw[show m+1+g=(m+g)+1 by omega];show(if t<l.length/\off+t<17792 then _ else _)=_;rw[if_pos ⟨by omega,by omega⟩,c2,if_pos rfl,v9]
  rw[az,aip g m (t+1) ⟨s.wd,over s.b ((s.bl i (a4 k)-1)*64+(off+t)%64) [l.getD t 0],s.nd,s.bl⟩ aC (λu hu=>by have:=ai (u+1) (by omega);rwa[show t+(u+1)=t+1+u by omega] at this) (by omega) (by omega)];rw[show t+1+m=t+(m+1) by omega];cases m with
  |zero=>
   rw[List.take_zero,aeX,Zn (by omega) (by omega)];rfl
  |succ m=>
   have ac2:=ai 1 (by omega);have aA:(s.bl i (a4 k)-1)*64+(off+(t+1))%64=(s.bl i (a4 k)-1)*64+(off+t)%64+1:=by omega
   show jz n i off l g (t+(m+1+1)) ⟨s.wd,over (over s.b ((s.bl i (a4 k)-1)*64+(off+t)%64) [l.getD t 0]) ((s.bl i (a4 k)-1)*64+(off+(t+1))%64) _,s.nd,s.bl⟩=_;rw[aA,arE,Zn (t:=t) (by omega) (by omega)];rfl
theorem aiq:∀(g t:Nat) (s:dL),(ez off l).length-t<=g->t<=(ez off l).length->∀eY,(ez off l).length-t<=eY->jz n i off l eY t s=jA n i off (ez off l) g t s
 |0,t,s,bd,aN,eY,aos=>by
  have aL:(ez off l).length=min l.length (17792-off):=by simp[ez]
  have e:jA n i off (ez off l) 0 t s=(s,t):=rfl;rw[e];cases eY with
  |zero=>rfl
  |succ eY=>
   show(if t<l.length/\off+t<17792 then _ else _)=_;rw[if_neg (by omega)]
 |g+1,t,s,bd,aN,eY,aos=>by
  have aL:(ez off l).length=min l.length (17792-off):=by simp[ez]
  by_cases ae:t<(ez off l).length
  ·obtain⟨eY,rfl⟩:∃x,eY=x+1:=⟨eY-1,by omega⟩
   have az:jz n i off l (eY+1) t s=if(bN n i ((off+t)/64) s).2=true then
    jz n i off l eY (t+1) ⟨(bN n i ((off+t)/64) s).1.wd,over (bN n i ((off+t)/64) s).1.b (((bN n i ((off+t)/64) s).1.bl i (a4 ((off+t)/64))-1)*64+(off+t)%64) [l.getD t 0],(bN n i ((off+t)/64) s).1.nd,(bN n i ((off+t)/64) s).1.bl⟩
    else((bN n i ((off+t)/64) s).1,t):=by
    show(if t<l.length/\off+t<17792 then _ else _)=_;rw[if_pos ⟨by omega,by omega⟩]
   have aA:jA n i off (ez off l) (g+1) t s=if(bN n i ((off+t)/64) s).2=true then
    jA n i off (ez off l) g (t+min (64-(off+t)%64) ((ez off l).length-t)) ⟨(bN n i ((off+t)/64) s).1.wd,over (bN n i ((off+t)/64) s).1.b (((bN n i ((off+t)/64) s).1.bl i (a4 ((off+t)/64))-1)*64+(off+t)%64) (((ez off l).drop t).take (min (64-(off+t)%64) ((ez off l).length-t))),(bN n i ((off+t)/64) s).1.nd,(bN n i ((off+t)/64) s).1.bl⟩
    else((bN n i ((off+t)/64) s).1,t):=by
    show(if t<(ez off l).length then _ else _)=_;rw[if_pos ae]
   rw[az,aA];by_cases ag:(bN n i ((off+t)/64) s).2=true
   ·rw[if_pos ag,if_pos ag];have tp:=OU ag;generalize(bN n i ((off+t)/64) s).1=s1 at *;generalize hm:min (64-(off+t)%64) ((ez off l).length-t)=m at *;obtain⟨m,rfl⟩:∃x,m=x+1:=⟨m-1,by omega⟩;have bj:=aip (n:=n) (i:=i) (off:=off) (l:=l) (k:=(off+t)/64) (eY-m) (m+1) t s1 tp (λu hu=>by omega) (by omega) (by omega)
    have c2:bN n i ((off+t)/64) s1=(s1,true):=by
     unfold bN;rw[if_pos tp]
    have cj:jz n i off l (m+1+(eY-m)) t s1=jz n i off l eY (t+1) ⟨s1.wd,over s1.b ((s1.bl i (a4 ((off+t)/64))-1)*64+(off+t)%64) [l.getD t 0],s1.nd,s1.bl⟩:=by
     rw[show m+1+(eY-m)=eY+1 by omega];show(if t<l.length/\off+t<17792 then _ else _)=_;rw[if_pos ⟨by omega,by omega⟩,c2,if_pos rfl]
    rw[<- cj,bj];exact aiq g (t+(m+1)) _ (by omega) (by omega) (eY-m) (by omega)
   ·rw[if_neg ag,if_neg ag]
  ·have az:jA n i off (ez off l) (g+1) t s=(s,t):=by
    show(if t<(ez off l).length then _ else _)=_;rw[if_neg ae]
   rw[az];cases eY with
   |zero=>rfl
   |succ eY=>
    show(if t<l.length/\off+t<17792 then _ else _)=_;rw[if_neg (by omega)]
end
theorem aA6{C:ad}{lf:Nat}{r:aU}{x0 x1 x2 x3:O}{h:U}:V1 C lf r x0 x1 x2 x3 h=KO C lf (λx0 x1 x2 x3 h=>KN C lf r x0 x1 x2 x3 h) r x0 x1 x2 x3 h:=rfl
theorem aA5{C:ad}{lf:Nat}{r:aU}{x0 x1 x2 x3 aX:O}{h:U}:V4 C lf r x0 x1 x2 x3 aX h=KP C lf r x0 x1 x2 x3 aX (some (I 0)) h:=rfl
section
variable{lf:Nat}{h:U}{R:eS}{n N:Nat}{now:Int}{us:Nat->Bool}{i:Nat}
theorem aA4{C:ad}{on:Nat->Bool}{q:Nat->Option Nat}{b:Nat->Nat}{rd:Nat->Nat->J}(A:bJ h R n N on q b now us rd)(hi:i<N){sz off m:Nat}(dR:rd (i+1) 5=I (sz:Int))(hm:m≠0)(aFd:off+m<=140737488355328)(r:aU):
 ∃h',wN C lf r (some (.ptr R.rt 0)) (some (I (off:Int))) (some (.ptr R.bw ((i+1)*308))) (some (I (m:Int))) h=r (some (I (m:Int))) (some (I 0)) h'/\
  bJ h' R n N on q b now us (grown rd (i+1) (max sz (off+m)) now)/\aG h h' (· =R.bw):=by
 have mI:=A.kj (i+1) 5 (by omega) (by omega);rw[dR] at mI;have d0:decide ((m:Int)=0)=false:=br (by omega);have iK:IntKind.i64.wrap ((off:Int)+(m:Int))=((off+m:Nat):Int):=cL (by omega);have iE:(i+1)*308+1+4=(i+1)*308+5:=rfl;have pw:(i+1)*308+1+8=(i+1)*308+9:=rfl;have jV:(i+1)*308+1+9=(i+1)*308+10:=rfl
 have fin:∀h2 kQ,bJ h2 R n N on q b now us kQ->∃h',V2 C lf r (some (.ptr R.rt 0)) (some (.ptr R.bw ((i+1)*308))) (some (I (m:Int))) h2=r (some (I (m:Int))) (some (I 0)) h'/\
  bJ h' R n N on q b now us (cT (cT kQ (i+1) 9 (I now)) (i+1) 10 (I now))/\aG h2 h' (· =R.bw):=λh2 kQ dk=>by
  obtain⟨h3,er,fg,gy,dd⟩:=kv dk (i:=i+1) (c:=9) (by omega) (by omega) (by omega) now;obtain⟨aW,fo,kC,j6,fL⟩:=kv fg (i:=i+1) (c:=10) (by omega) (by omega) (by omega) now;refine⟨aW,?_,kC,dd.trans fL⟩;unfold V2;simp only[aE,dk.cr,pw,jV,er,fo]
 unfold wN V3;simp only[aE,d0];unfold agp ago;by_cases bd:sz<off+m
 ·have d1:decide ((sz:Int)<((off+m:Nat):Int))=true:=bu (by omega);obtain⟨h2,s2,dk,cA,bD⟩:=kv A (i:=i+1) (c:=5) (by omega) (by omega) (by omega) ((off+m:Nat):Int);obtain⟨h3,er,fg,dd⟩:=fin h2 _ dk;refine⟨h3,?_,?_,bD.trans dd⟩
  ·simp only[aE,iK,iE,mI,d1,s2];exact er
  ·rw[show max sz (off+m)=off+m by omega];exact fg
 ·have d1:decide ((sz:Int)<((off+m:Nat):Int))=false:=br (by omega);obtain⟨h3,er,fg,dd⟩:=fin h _ A;refine⟨h3,?_,?_,dd⟩
  ·simp only[aE,iK,iE,mI,d1];exact er
  ·rw[show max sz (off+m)=sz by omega];unfold grown;rw[aid dR];exact fg
end
section
variable{lf:Nat}{h:U}{R:eS}{n N:Nat}{now:Int}{us:Nat->Bool}{ino:Int}
def X4(h h':U)(R:eS)(n N:Nat)(now:Int)(us:Nat->Bool)(i:Nat)(w:dL×Nat)(sz off:Nat)(rd:Nat->Nat->J)(q:Nat->Option Nat):Prop:=
 ∃cv hA nD,bJ h' R n N (bQ w.1.wd) hA nD now us (if w.2=0 then cv else grown cv (i+1) (max sz (off+w.2)) now)/\di N cv w.1.bl/\iV (bQ w.1.wd) w.1.b nD/\(∀i' c,c<12->cv i' c=rd i' c)/\
  (∀u k,hA u=some k->q u=some k\/h.next<=k)/\aG h h' (λj=>j=R.ro\/j=R.rb\/j=R.bw\/∃u,q u=some j)
theorem aA3{C:ad}(gu:20000<=lf)(hG:pe C)(MN:Gv C){s:dL}{q:Nat->Option Nat}{b2:Nat->Nat}{rd:Nat->Nat->J}{off:Int}{x:J}{l:List Nat}(W:pk n N s)(A:bJ h R n N (bQ s.wd) q b2 now us rd)(M:di N rd s.bl)(jC:iV (bQ s.wd) s.b b2)(B:Bytes h x l)
 (kJ:l.length<=140737488351232)(ar:∀j,rowOf x=some j->j<h.next/\¬sj R n q j/\∀u,q u≠some j):
 (c8 N us ino=false->vS C lf (.ptr R.rt 0) (I ino) (I off) x h=some (.ret (.bm [I 0,I 2]),h))/\
 (∀i (sz:Nat),ic N us ino i->rd (i+1) 5=I (sz:Int)->(off<0->vS C lf (.ptr R.rt 0) (I ino) (I off) x h=some (.ret (.bm [I 0,I 22]),h))/\
   (0<=off->l=[]->vS C lf (.ptr R.rt 0) (I ino) (I off) x h=some (.ret (.bm [I 0,I 0]),h))/\
   (l≠[]->17792<=off->vS C lf (.ptr R.rt 0) (I ino) (I off) x h=some (.ret (.bm [I 0,I 27]),h))/\
   (l≠[]->0<=off->off<17792->∃h',vS C lf (.ptr R.rt 0) (I ino) (I off) x h=some (.ret (.bm [I ((dX n i off.toNat l s).2:Int),I (if(dX n i off.toNat l s).2=0 then 28 else 0)]),h')/\
     X4 h h' R n N now us i (dX n i off.toNat l s) sz off.toNat rd q)):=by
 have dH:=hG h R n N _ q b2 now us rd ino A;obtain⟨cap,lo,ct⟩:=A.ct;have hlen:=qQ (P:=aw) Tryd.underlying24 B;unfold vS;rw[aA6];unfold KO;refine⟨λag=>?_,λi sz bV dR=>?_⟩
 ·rw[ag] at dH;unfold pA;simp only[aE,dH,Bool.not_false]
 ·rw[bV.yes] at dH;obtain⟨hi,hu,rfl⟩:=bV;simp only[aE,dH,Bool.not_true];unfold KN BG;refine⟨λh1=>?_,λh1 h2=>?_,λh1 h2=>?_,λh1 h2 h3=>?_⟩
  ·unfold pA;simp only[aE,bu h1]
  ·have d1:decide (off<0)=false:=br (by omega);have d2:decide ((l.length:Int)=0)=true:=bu (by rw[h2];rfl);simp only[aE,d1];unfold BF E7 pA;simp only[aE,hlen,d2]
  ·have DC:=List.length_pos_iff.2 h1;have d1:decide (off<0)=false:=br (by omega);have d2:decide ((l.length:Int)=0)=false:=br (by omega);simp only[aE,d1];unfold BF E7;simp only[aE,hlen,d2];unfold KM KL pA;simp only[aE,bu h2]
  ·obtain⟨o,rfl⟩:∃o:Nat,off=o:=⟨off.toNat,by omega⟩;rw[Int.toNat_natCast];have DC:=List.length_pos_iff.2 h1;have d1:decide ((o:Int)<0)=false:=br (by omega);have d2:decide ((l.length:Int)=0)=false:=br (by omega);have d3:decide ((17792:Int)<=(o:Int))=false:=br (by omega);have fE:(ez o l).length=min l.length (17792-o):=by simp[ez]
   have apn:jz n i o l (ez o l).length 0 s=dX n i o l s:=aiq (ez o l).length 0 s (by omega) (by omega) _ (by omega)
   obtain⟨h',cv,hA,nD,dc,du,fm,kP,mm,q3,q4⟩:=aA2 (lf:=lf) (C:=C) (R:=R) (now:=now) (us:=us) MN hi (off:=o) (by omega) (x:=x) (l:=l) kJ (λj aa=>by
    have aW:=(ar j aa).2.1
    exact⟨λe=>aW (.inr (.inr (.inl e))),λe=>aW (.inr (.inr (.inr (.inl e)))),λe=>aW (.inl e)⟩) (λx0 x2 aX x11 h=>wN C lf pA x0 x2 aX x11 h)
    (ez o l).length 0 (by omega) (by omega) lf (by omega) h s rd q b2 W A M jC B (λj aa=>⟨(ar j aa).1,(ar j aa).2.2⟩)
   rw[apn] at dc du fm kP;have apr:(dX n i o l s).2<=(ez o l).length:=(FK (n:=n) (N:=N) (i:=i) (off:=o) (l:=ez o l) (by omega) (i':=i) (c:=0) hi (by omega) (ez o l).length 0 s (by omega) W).2.2.1
   have pre:BG C lf (λx0 x1 x2 x3 h=>BF C lf pA x0 x1 x2 x3 h) pA (some (.ptr R.rt 0)) (some (I ((i+1:Nat):Int))) (some (I (o:Int))) (some x) h=
    wN C lf pA (some (.ptr R.rt 0)) (some (I (o:Int))) (some (.ptr R.bw ((i+1)*308))) (some (I ((dX n i o l s).2:Int))) h':=by
    unfold BG;simp only[aE,d1];unfold BF E7;simp only[aE,hlen,d2];unfold KM KL;simp only[aE,d3];unfold V0 VZ;simp only[aE,ct,lT (R:=R) (N:=N) (i:=i+1) (cap:=cap) (lo:=lo) (by omega)];rw[aA5];unfold KP;exact dc
   unfold BG at pre;rw[pre];by_cases a1:(dX n i o l s).2=0
   ·refine⟨h',?_,cv,hA,nD,by rw[if_pos a1];exact du,fm,kP,mm,q3,q4⟩;have d4:decide (((dX n i o l s).2:Int)=0)=true:=bu (by omega);unfold wN V3 pA;rw[if_pos a1];simp only[aE,d4];rw[a1];rfl
   ·obtain⟨h2,aA,dk,bD⟩:=aA4 (lf:=lf) (C:=C) du hi (sz:=sz) (off:=o) (m:=(dX n i o l s).2) (by rw[mm _ _ (by omega)];exact dR) a1 (by omega) pA;refine⟨h2,?_,cv,hA,nD,by rw[if_neg a1];exact dk,fm,kP,mm,q3,q4.trans (bD.ek λ_ e=> .inr (.inr (.inl e)))⟩;rw[aA,if_neg a1];unfold pA;simp only[ch,cd]
end
def pr(bl:Nat->Nat->Nat)(b:Nat->Nat)(i p:Nat):Nat:=if bl i (a4 (p/64))=0 then 0 else b ((bl i (a4 (p/64))-1)*64+p%64)
def nH(bl:Nat->Nat->Nat)(b:Nat->Nat)(i off n:Nat):List Nat:=(List.range n).map λj=>pr bl b i (off+j)
theorem Zf(bl:Nat->Nat->Nat)(b:Nat->Nat)(i off n:Nat):nH bl b i off (n+1)=nH bl b i off n++[pr bl b i (off+n)]:=by
 simp[nH,List.range_succ]
theorem G8(bl:Nat->Nat->Nat)(b:Nat->Nat)(i off n:Nat):(nH bl b i off n).length=n:=by simp[nH]
section
variable{lf:Nat}{h h0:U}{R:eS}{n N:Nat}{on:Nat->Bool}{q:Nat->Option Nat}{b:Nat->Nat}{now:Int}{us:Nat->Bool}{rd:Nat->Nat->J}{bl:Nat->Nat->Nat}{i:Nat}
theorem bJ.ann(A:bJ h R n N on q b now us rd){j p:Nat}(aa:j<n)(eZ:on j=true)(aC:p<64):
 ∃x1 x my,h.cell R.rt 1=some x1/\dS 1 x1 (I (j:Int))=some (.ptr R.rb j)/\h.cell R.rb j=some x/\dS 1 x (I (p:Int))=some my/\bZ my h=some (.int .u8 (b (j*64+p):Int)):=by
 obtain⟨x0,x1,c0,aS,V⟩:=A.ref.v;obtain⟨cap,lo,rfl⟩:=V.az;have gb:=V.cA;cases a0:q j with
 |none=>
  have:=(V.off j aa a0).1
  rw[eZ] at this;cases this
 |some bS=>
  obtain⟨h1,h2,x,h3,aW⟩:=V.has j bS aa a0;have B:=aW.jI eZ;obtain⟨Nf,Q8,rfl⟩:=B.aZ;have nb:=gV (s:=1) (k:=R.rb) (off:=0) (len:=n) (lo:=lo) (cap:=cap) (kd:= .i64) (i:=(j:Int)) (by omega) (by omega);rw[Int.toNat_natCast,Nat.mul_one,Nat.zero_add] at nb;have nc:=gV (s:=1) (k:=bS) (off:=0) (len:=64) (lo:=Q8) (cap:=Nf) (kd:= .i64) (i:=(p:Int)) (by omega) (by omega);rw[Int.toNat_natCast,Nat.mul_one,Nat.zero_add] at nc;exact⟨_,_,_,aS,nb,h3,nc,B.cs p aC⟩
end
section
open Classical
structure hS (n N:Nat) (on:Nat->Bool) (bl:Nat->Nat->Nat):Prop where
 le:∀i c,i<N->12<=c->c<308->bl i c<=n
 on:∀i c,i<N->12<=c->c<308->0<bl i c->on (bl i c-1)=true
 inj:∀i c i' a3,i<N->12<=c->c<308->i'<N->12<=a3->a3<308->0<bl i c->bl i c=bl i' a3->i=i'/\c=a3
theorem c1.m1{n N:Nat}{wd:Nat->Nat}{nd:Nat->Nat->J}{bl:Nat->Nat->Nat}(M:c1 n N wd nd bl):hS n N (bQ wd) bl:=⟨λi c _ _ _=>M.le i c,M.on,M.inj⟩
theorem Jw{c:Nat}(h1:12<=c)(h2:c<308):12<=pm c/\pm c<308:=by
 unfold pm;by_cases a:c<290
 ·rw[if_pos a];exact⟨qX,sg (by omega)⟩
 ·rw[if_neg a];by_cases b:c=290
  ·rw[if_pos b];omega
  ·rw[if_neg b];by_cases d:c=307
   ·rw[if_pos d];omega
   ·rw[if_neg d];omega
structure kf (h h':U) (R:eS) (n N:Nat) (on ds:Nat->Bool) (q:Nat->Option Nat) (b:Nat->Nat) (now:Int) (us:Nat->Bool) (rd cv:Nat->Nat->J) (bl:Nat->Nat->Nat) (i:Nat) (S:Nat->Prop):Prop where
 A:bJ h' R n N ds q b now us cv
 M:di N cv (dF bl i S)
 L:∀i' c,c<12->cv i' c=rd i' c
 K:hS n N ds (dF bl i S)
 O:∀j,ds j=true↔(on j=true/\∀c,12<=c->c<308->S c->bl i c≠j+1)
 F:aG h h' (λj=>j=R.ro\/j=R.bw)
section
variable{lf:Nat}{h h' fq:U}{R:eS}{n N:Nat}{on ds aeP:Nat->Bool}{q:Nat->Option Nat}{b:Nat->Nat}{now:Int}{us:Nat->Bool}{rd cv agF:Nat->Nat->J}{bl:Nat->Nat->Nat}{i:Nat}{S e8:Nat->Prop}
theorem kf.refl(A:bJ h R n N on q b now us rd)(M:di N rd bl)(K:hS n N on bl)(ea:∀c,¬S c):kf h h R n N on on q b now us rd rd bl i S:=
 ⟨A,by rw[Nl bl i ea];exact M,λ_ _ _=>rfl,by rw[Nl bl i ea];exact K,λj=>⟨λe=>⟨e,λc _ _ ae=>absurd ae (ea c)⟩,λe=>e.1⟩,aG.refl _ _⟩
theorem kf.trans(a:kf h h' R n N on ds q b now us rd cv bl i S)(c:kf h' fq R n N ds aeP q b now us cv agF (dF bl i S) i e8):kf h fq R n N on aeP q b now us rd agF bl i (λc=>S c\/e8 c):=by
 refine⟨c.A,by rw[<- Cz];exact c.M,λi' t aN=>(c.L i' t aN).trans (a.L i' t aN),by rw[<- Cz];exact c.K,λj=>?_,a.F.trans c.F⟩;rw[c.O,a.O];constructor
 ·rintro ⟨⟨h1,h2⟩,h3⟩
  refine⟨h1,λc dG ae ea=>?_⟩;by_cases e:S c
  ·exact h2 c dG ae e
  ·have:=h3 c dG ae (ea.resolve_left e)
   rw[iY (λx=>e x.2)] at this;exact this
 ·rintro ⟨h1,h2⟩
  refine⟨⟨h1,λc dG ae ea=>h2 c dG ae (.inl ea)⟩,λc dG ae ea=>?_⟩;by_cases e:S c
  ·rw[ot e];omega
  ·rw[iY (λx=>e x.2)];exact h2 c dG ae (.inr ea)
theorem kf.wide(a:kf h h' R n N on ds q b now us rd cv bl i S)(h1:∀c,12<=c->c<308->S c->e8 c)(h2:∀c,12<=c->c<308->e8 c->S c\/bl i c=0):kf h h' R n N on ds q b now us rd cv bl i e8:=by
 have e:∀i' c,12<=c->c<308->dF bl i e8 i' c=dF bl i S i' c:=λi' c k1 k2=>by
  by_cases e:i'=i/\S c
  ·rw[e.1,ot e.2,ot (h1 c k1 k2 e.2)]
  ·rw[iY e];by_cases bg:i'=i/\e8 c
   ·rw[bg.1,ot bg.2];rcases h2 c k1 k2 bg.2 with x|x
    ·exact absurd ⟨bg.1,x⟩ e
    ·exact x.symm
   ·rw[iY bg]
 refine⟨a.A,λi' c hi k1 k2=>?_,a.L,⟨λi' c hi k1 k2=>?_,λi' c hi k1 k2=>?_,λi1 aS i2 a2 nb ak aD nc bX b2=>?_⟩,λj=>?_,a.F⟩
 ·obtain⟨bT,cm⟩:=Jw k1 k2;rw[e _ _ bT cm];exact a.M i' c hi k1 k2
 ·rw[e _ _ k1 k2];exact a.K.le i' c hi k1 k2
 ·rw[e _ _ k1 k2];exact a.K.on i' c hi k1 k2
 ·rw[e _ _ ak aD,e _ _ bX b2];exact a.K.inj i1 aS i2 a2 nb ak aD nc bX b2
 ·rw[a.O]
  exact⟨λx=>⟨x.1,λc k1 k2 ae=>by
   rcases h2 c k1 k2 ae with y|y
   ·exact x.2 c k1 k2 y
   ·omega⟩,λx=>⟨x.1,λc k1 k2 ae=>x.2 c k1 k2 (h1 c k1 k2 ae)⟩⟩
theorem kf.ext(a:kf h h' R n N on ds q b now us rd cv bl i S)(ea:∀c,12<=c->c<308->(S c↔e8 c)):kf h h' R n N on ds q b now us rd cv bl i e8:=
 a.wide (λc h1 h2=>(ea c h1 h2).1) (λc h1 h2 x=> .inl ((ea c h1 h2).2 x))
theorem Wq{C:ad}(Fr:xp C)(A:bJ h R n N on q b now us rd)(M:di N rd bl)(K:hS n N on bl)(hi:i<N){c:Nat}(dG:12<=c)(ae:c<308)(hv:0<bl i (pm c)):
 ∃h1 h2 ds cv,C (.fn 67) [.ptr R.rt 0,I ((bl i (pm c)-1:Nat):Int)] h=some (.ret (I 0),h1)/\st 1 (.ptr R.bw ((i+1)*308+c)) (I 0) h1=some h2/\kf h h2 R n N on ds q b now us rd cv bl i (· =pm c):=by
 obtain⟨bT,cm⟩:=Jw dG ae;have hle:=K.le i _ hi bT cm;have eZ:=K.on i _ hi bT cm hv
 have je:la n on ((bl i (pm c)-1:Nat):Int)=true:=by
  have d1:decide ((0:Int)<=((bl i (pm c)-1:Nat):Int))=true:=bu (by omega);have d2:decide (((bl i (pm c)-1:Nat):Int)<(n:Int))=true:=bu (by omega);simp only[la,d1,d2,Int.toNat_natCast,eZ,Bool.and_self]
 obtain⟨h1,aS,GM,aM,cH⟩:=(Fr h R.rt R.ro R.rb n on q b _ A.ref).2 je;rw[Int.toNat_natCast] at GM;have b0:=A.store GM (aM.ek λ_ e=> .inl e) A.d4;obtain⟨h2,s2,dk,cA,bD⟩:=kv b0 (i:=i+1) (c:=c) (by omega) (by omega) ae 0
 have adj:∀j,de on (bl i (pm c)-1) false j=true↔(on j=true/\bl i (pm c)≠j+1):=λj=>by
  by_cases e:j=bl i (pm c)-1
  ·subst e;rw[kS];exact⟨λx=>(by cases x),λx=>absurd x.2 (by omega)⟩
  ·rw[ix _ _ e];exact⟨λx=>⟨x,by omega⟩,λx=>x.1⟩
 have fE:∀i' a3,¬(i'=i/\a3=pm c)->dF bl i (· =pm c) i' a3=bl i' a3:=λi' a3 e=>iY e
 have a1:∀a3,a3=pm c->dF bl i (· =pm c) i a3=0:=λa3 e=>ot (S:=(· =pm c)) e
 refine⟨h1,h2,_,_,aS,s2,dk,λi' a3 cF ak aD=>?_,λi' a3 fr=>ho _ _ (by omega),⟨λi' a3 cF ak aD=>?_,λi' a3 cF ak aD a7=>?_,λi1 aS i2 a2 nb ak aD nc bX b2 az aA=>?_⟩,λj=>?_,(aM.ek λ_ e=> .inl e).trans (bD.ek λ_ e=> .inr e)⟩
 ·by_cases e:i'=i/\a3=c
  ·rw[e.1,e.2,mU,a1 _ rfl];rfl
  ·rw[ho _ _ (by omega),fE _ _ (λx=>e ⟨x.1,ae8 ak aD dG ae x.2⟩)];exact M i' a3 cF ak aD
 ·by_cases e:i'=i/\a3=pm c
  ·rw[e.1,a1 _ e.2];exact Nat.zero_le _
  ·rw[fE _ _ e];exact K.le i' a3 cF ak aD
 ·by_cases e:i'=i/\a3=pm c
  ·rw[e.1,a1 _ e.2] at a7;exact absurd a7 (Nat.lt_irrefl _)
  ·rw[fE _ _ e] at a7⊢;refine(adj _).2 ⟨K.on i' a3 cF ak aD a7,λx=>e ?_⟩
   have:=K.inj i (pm c) i' a3 hi bT cm cF ak aD hv (by omega)
   exact⟨this.1.symm,this.2.symm⟩
 ·by_cases e:i1=i/\aS=pm c
  ·rw[e.1,a1 _ e.2] at az;exact absurd az (Nat.lt_irrefl _)
  ·rw[fE _ _ e] at az aA;by_cases bg:i2=i/\a2=pm c
   ·rw[bg.1,a1 _ bg.2] at aA;omega
   ·rw[fE _ _ bg] at aA;exact K.inj i1 aS i2 a2 nb ak aD nc bX b2 az aA
 ·rw[adj];exact⟨λx=>⟨x.1,λa3 _ _ e=>by rw[e];exact x.2⟩,λx=>⟨x.1,x.2 _ bT cm rfl⟩⟩
end
end
section
open Classical
section
variable{lf:Nat}{R:eS}{n N:Nat}{q:Nat->Option Nat}{b:Nat->Nat}{now:Int}{us:Nat->Bool}{i:Nat}
theorem tN{k m o:Nat}(ai:k<m):ev m 1 (.ptr R.bw ((i+1)*308+o)) (I (k:Int))=some (.ptr R.bw ((i+1)*308+(o+k))):=by
 have:=lP (n:=m) (s:=1) (k:=R.bw) (off:=(i+1)*308+o) (kd:= .i64) (i:=(k:Int)) (by omega) (by omega)
 rwa[Int.toNat_natCast,Nat.mul_one,Nat.add_assoc] at this
theorem Wp{C:ad}(Fr:xp C)(av:aU)(hi:i<N):∀(d m:Nat) (h:U) (on:Nat->Bool) (rd:Nat->Nat->J) (bl:Nat->Nat->Nat),m+d=278->∀f,d<f->bJ h R n N on q b now us rd->di N rd bl->hS n N on bl->
 ∃h' ds cv,bq (A5 C lf av) f (some (.ptr R.rt 0),some (.ptr R.bw ((i+1)*308)),some (I (m:Int))) h=av (some (.ptr R.rt 0)) (some (.ptr R.bw ((i+1)*308))) h'/\
  kf h h' R n N on ds q b now us rd cv bl i (gX m 278)
 |0,m,h,on,rd,bl,hm,f,an,A,M,K=>by
  obtain⟨f,rfl⟩:=dK f (by omega);have ba:decide ((m:Int)<278)=false:=br (by omega);refine⟨h,on,rd,?_,kf.refl A M K λc ⟨j,a,aD,_⟩=>by omega⟩;rw[dr];unfold A5 EB;simp only[aE,ba]
 |d+1,m,h,on,rd,bl,hm,f,an,A,M,K=>by
  obtain⟨f,rfl⟩:=dK f (by omega);have ba:decide ((m:Int)<278)=true:=bu (by omega);have dC:IntKind.i64.wrap ((m:Int)+1)=((m+1:Nat):Int):=cL (by omega);have b7:=tN (R:=R) (i:=i) (k:=m) (m:=278) (o:=12) (by omega);have eL:=mS A M hi (c:=12+m) (by omega) (by omega);have we:=qZ (k:=m) (by omega)
  have ea:∀c,12<=c->c<308->((c=a4 m\/gX (m+1) 278 c)↔gX m 278 c):=λc _ _=>by
   constructor
   ·rintro (e|⟨j,a,aD,e⟩)
    ·exact⟨m,Nat.le_refl _,by omega,e⟩
    ·exact⟨j,by omega,aD,e⟩
   ·rintro ⟨j,a,aD,e⟩
    by_cases amh:j=m
    ·exact .inl (by rw[e,amh])
    ·exact .inr ⟨j,by omega,aD,e⟩
  rw[dr];show ∃h' ds cv,EB C lf (λx0 aF x7 h=>bq (A5 C lf av) f (x0,aF,x7) h) av (some (.ptr R.rt 0)) (some (.ptr R.bw ((i+1)*308))) (some (I (m:Int))) h=_/\_;unfold EB;by_cases hv:0<bl i (a4 m)
  ·rw[we] at eL;obtain⟨h1,h2,hn,jx,aS,s1,fJ⟩:=Wq Fr A M K hi (c:=12+m) (by omega) (by omega) (by rw[we];exact hv);rw[we] at aS fJ;obtain⟨h3,kN,kQ,aA,p9⟩:=Wp Fr av hi d (m+1) h2 hn jx _ (by omega) f (by omega) fJ.A fJ.M fJ.K;have d1:decide ((0:Int)<(bl i (a4 m):Int))=true:=bu (by omega)
   have jv:IntKind.i64.wrap ((bl i (a4 m):Int)-1)=((bl i (a4 m)-1:Nat):Int):=by
    have:=K.le i (a4 m) hi qX (sg (by omega))
    have gb:n<=4096:=A.ref.v.choose_spec.choose_spec.2.2.cA;rw[wrap_i64 (by omega) (by omega)];omega
   refine⟨h3,kN,kQ,?_,(fJ.trans p9).ext ea⟩;simp only[aE,ba,b7,eL,d1,jv,aS,s1,dC];exact aA
  ·rw[we] at eL;have d1:decide ((0:Int)<(bl i (a4 m):Int))=false:=br (by omega);obtain⟨h3,kN,kQ,aA,p9⟩:=Wp Fr av hi d (m+1) h on rd bl (by omega) f (by omega) A M K;refine⟨h3,kN,kQ,?_,?_⟩
   ·simp only[aE,ba,b7,eL,d1,dC];exact aA
   ·exact p9.wide (λc h1 h2 e=>(ea c h1 h2).1 (.inr e)) (λc h1 h2 e=>by
     rcases(ea c h1 h2).2 e with e|e
     ·subst e;exact .inr (by omega)
     ·exact .inl e)
end
end
section
open Classical
def dt(g:Nat):Nat:=if g=0 then 18 else 36+17*(g-1)
theorem ae7{g:Nat}(bd:g<17):pm (290+g)=dt g:=by
 unfold dt;by_cases h:g=0
 ·rw[if_pos h,h];rfl
 ·rw[if_neg h,ae6 (by omega) (by omega)]
theorem Ip{g j:Nat}(aa:j<16):a4 (6+g*16+j)=dt g+(1+j):=by
 unfold dt a4;by_cases h:g=0
 ·subst h;rw[if_pos rfl,if_neg (by omega),if_pos (by omega)];omega
 ·rw[if_neg h,if_neg (by omega),if_neg (by omega)];have h1:(6+g*16+j-22)/16=g-1:=by omega
  have h2:(6+g*16+j-22)%16=j:=by omega
  rw[h1,h2];omega
theorem ach{g:Nat}(bd:g<17):12<=dt g/\dt g+17<=308:=by
 unfold dt;split<;>omega
theorem anh{g eY j:Nat}(aa:j<16):dt g≠dt eY+(1+j):=by
 unfold dt;split<;>split<;>omega
def Df(bl:Nat->Nat->Nat)(i p:Nat)(c:Nat):Prop:=∃g,p<=g/\g<17/\c=dt g/\hole bl i (dt g)=true
section
variable{lf:Nat}{R:eS}{n N:Nat}{q:Nat->Option Nat}{b:Nat->Nat}{now:Int}{us:Nat->Bool}{i:Nat}
theorem ad5{C:ad}{h:U}{on:Nat->Bool}{rd:Nat->Nat->J}{bl:Nat->Nat->Nat}{xs:O}(A:bJ h R n N on q b now us rd)(M:di N rd bl)(hi:i<N){g:Nat}(bd:g<17)(e9:dy):∀(d t:Nat) (v:Bool),t+d=16->(v=true↔∃j,j<t/\0<bl i (dt g+(1+j)))->∀f,d<f->
 bq (A6 C lf e9) f (some (.ptr R.rt 0),some (.ptr R.bw ((i+1)*308)),xs,some (I (g:Int)),some (.bool v),some (I ((6+g*16+t:Nat):Int)),some (I (g:Int))) h=
  e9 (some (.ptr R.rt 0)) (some (.ptr R.bw ((i+1)*308))) xs (some (I (g:Int))) (some (.bool (!hole bl i (dt g)))) (some (I (g:Int))) h
 |0,t,v,aH,hv,f,an=>by
  obtain⟨f,rfl⟩:=dK f (by omega);have cN:IntKind.i64.wrap ((g:Int)+1)=((g+1:Nat):Int):=cL (by omega);have cy:IntKind.i64.wrap (((g+1:Nat):Int)*16)=(((g+1)*16:Nat):Int):=cL (by omega);have fp:IntKind.i64.wrap ((6:Int)+(((g+1)*16:Nat):Int))=((6+(g+1)*16:Nat):Int):=cL (by omega);have ba:decide (((6+g*16+t:Nat):Int)<((6+(g+1)*16:Nat):Int))=false:=br (by omega)
  have ck:v=!hole bl i (dt g):=by
   rw[Bool.eq_iff_iff,hv,Bool.not_eq_true',Bool.eq_false_iff,Ne,oL];constructor
   ·rintro ⟨j,h1,h2⟩ h3
    have:=h3 j (by omega);omega
   ·intro h3;by_cases aW:∃j,j<t/\0<bl i (dt g+(1+j))
    ·exact aW
    ·exact absurd (λj aa=>by
      by_cases bz:0<bl i (dt g+(1+j))
      ·exact absurd ⟨j,by omega,bz⟩ aW
      ·omega) h3
  rw[dr];unfold A6 Ez;simp only[aE,cN,cy,fp,ba];rw[ck]
 |d+1,t,v,aH,hv,f,an=>by
  obtain⟨f,rfl⟩:=dK f (by omega);have cN:IntKind.i64.wrap ((g:Int)+1)=((g+1:Nat):Int):=cL (by omega);have cy:IntKind.i64.wrap (((g+1:Nat):Int)*16)=(((g+1)*16:Nat):Int):=cL (by omega);have fp:IntKind.i64.wrap ((6:Int)+(((g+1)*16:Nat):Int))=((6+(g+1)*16:Nat):Int):=cL (by omega);have ba:decide (((6+g*16+t:Nat):Int)<((6+(g+1)*16:Nat):Int))=true:=bu (by omega);have dC:IntKind.i64.wrap (((6+g*16+t:Nat):Int)+1)=((6+g*16+(t+1):Nat):Int):=cL (by omega);have b7:=tN (R:=R) (i:=i) (k:=6+g*16+t) (m:=278) (o:=12) (by omega);have eL:=mS A M hi (c:=12+(6+g*16+t)) (by omega) (by omega);rw[qZ (by omega),Ip (by omega)] at eL
  have bc:=ad5 (C:=C) (xs:=xs) A M hi bd e9 d (t+1) (v||decide ((0:Int)<(bl i (dt g+(1+t)):Int))) (by omega) (by
   rw[Bool.or_eq_true,hv,decide_eq_true_eq];constructor
   ·rintro (⟨j,h1,h2⟩|h1)
    ·exact⟨j,by omega,h2⟩
    ·exact⟨t,by omega,by omega⟩
   ·rintro ⟨j,h1,h2⟩
    by_cases e:j=t
    ·subst e;exact .inr (by omega)
    ·exact .inl ⟨j,by omega,h2⟩) f (by omega)
  rw[dr];show Ez C lf (λx0 aF aP x9 aX x11 ed h=>bq (A6 C lf e9) f (x0,aF,aP,x9,aX,x11,ed) h) e9 _ _ _ _ _ _ _ h=_;unfold Ez;cases v with
  |true=>
   rw[Bool.true_or] at bc;simp only[aE,cN,cy,fp,ba,dC,iH];exact bc
  |false=>
   rw[Bool.false_or] at bc;simp only[aE,cN,cy,fp,ba,dC,b7,eL];exact bc
end
end
section
open Classical
section
variable{lf:Nat}{R:eS}{n N:Nat}{q:Nat->Option Nat}{b:Nat->Nat}{now:Int}{us:Nat->Bool}{i:Nat}
theorem BO{n N:Nat}{on:Nat->Bool}{bl:Nat->Nat->Nat}(K:hS n N on bl)(gb:n<=4096)(hi:i<N){c:Nat}(h1:12<=c)(h2:c<308)(hv:0<bl i c):IntKind.i64.wrap ((bl i c:Int)-1)=((bl i c-1:Nat):Int):=by
 have:=K.le i c hi h1 h2
 rw[wrap_i64 (by omega) (by omega)];omega
theorem anA{C:ad}{h:U}{on:Nat->Bool}{rd:Nat->Nat->J}{bl:Nat->Nat->Nat}{xs xg:O}(Fr:xp C)(A:bJ h R n N on q b now us rd)(M:di N rd bl)(K:hS n N on bl)(hi:i<N){g:Nat}(bd:g<17)(fc:dy):
 ∃h' ds cv,Se C lf fc (some (.ptr R.rt 0)) (some (.ptr R.bw ((i+1)*308))) xs (some (I (g:Int))) (some (.bool (!hole bl i (dt g)))) xg h=
  fc (some (.ptr R.rt 0)) (some (.ptr R.bw ((i+1)*308))) xs (some (I (g:Int))) (some (.bool (!hole bl i (dt g)))) xg h'/\kf h h' R n N on ds q b now us rd cv bl i (λc=>c=dt g/\hole bl i (dt g)=true):=by
 have gb:n<=4096:=A.ref.v.choose_spec.choose_spec.2.2.cA;have b7:=tN (R:=R) (i:=i) (k:=g) (m:=17) (o:=290) bd;have eL:=mS A M hi (c:=290+g) (by omega) (by omega);have we:=ae7 bd;obtain⟨g1,g2⟩:=ach bd;rw[we] at eL;unfold Se;cases ck:hole bl i (dt g) with
 |false=>
  refine⟨h,on,rd,?_,kf.refl A M K λc e=>by cases e.2⟩;simp only[aE,Bool.not_false,Bool.not_true,iH]
 |true=>
  by_cases hv:0<bl i (dt g)
  ·obtain⟨h1,h2,hn,jx,aS,s1,fJ⟩:=Wq Fr A M K hi (c:=290+g) (by omega) (by omega) (by rw[we];exact hv);rw[we] at aS fJ;have d1:decide ((0:Int)<(bl i (dt g):Int))=true:=bu (by omega);have jv:=BO K gb hi g1 (by omega) hv;refine⟨h2,hn,jx,?_,fJ.ext λc _ _=>⟨λe=>⟨e,rfl⟩,λe=>e.1⟩⟩;simp only[aE,Bool.not_false,Bool.not_true,b7,eL,d1,jv,aS,s1]
  ·have d1:decide ((0:Int)<(bl i (dt g):Int))=false:=br (by omega);refine⟨h,on,rd,?_,(kf.refl (S:=λ_=>False) A M K λ_ e=>e).wide (λ_ _ _ e=>e.elim) λc _ _ e=> .inr (by rw[e.1];omega)⟩;simp only[aE,Bool.not_false,Bool.not_true,b7,eL,d1]
theorem acq{C:ad}(gu:20<=lf)(Fr:xp C)(hi:i<N)(aA:bI):∀(d g:Nat) (h:U) (on:Nat->Bool) (rd:Nat->Nat->J) (bl:Nat->Nat->Nat) (s:Bool),g+d=17->∀f,d<f->bJ h R n N on q b now us rd->di N rd bl->hS n N on bl->
 ∃h' ds cv ff,bq (wm C lf aA) f (some (.ptr R.rt 0),some (.ptr R.bw ((i+1)*308)),some (.bool s),some (I (g:Int))) h=aA (some (.ptr R.rt 0)) (some (.ptr R.bw ((i+1)*308))) (some (.bool ff)) h'/\
  kf h h' R n N on ds q b now us rd cv bl i (Df bl i g)/\(ff=true↔(s=true\/∃eY,g<=eY/\eY<17/\0<eY/\hole bl i (dt eY)=false))
 |0,g,h,on,rd,bl,s,aH,f,an,A,M,K=>by
  obtain⟨f,rfl⟩:=dK f (by omega);have ba:decide ((g:Int)<17)=false:=br (by omega);refine⟨h,on,rd,s,?_,kf.refl A M K λc ⟨j,a,aD,_⟩=>by omega,⟨λe=> .inl e,λe=>e.elim id λ⟨j,a,aD,_⟩=>by omega⟩⟩;rw[dr];unfold wm EA JJ;simp only[ch,cd,rI,ba];unfold JI JH;simp only[ch,cd,o6]
 |d+1,g,h,on,rd,bl,s,aH,f,an,A,M,K=>by
  obtain⟨f,rfl⟩:=dK f (by omega);have ba:decide ((g:Int)<17)=true:=bu (by omega);have cy:IntKind.i64.wrap ((g:Int)*16)=((g*16:Nat):Int):=cL (by omega);have fp:IntKind.i64.wrap ((6:Int)+((g*16:Nat):Int))=((6+g*16+0:Nat):Int):=cL (by omega);have dC:IntKind.i64.wrap ((g:Int)+1)=((g+1:Nat):Int):=cL (by omega);generalize ai:(λx0 aF aP ed h=>bq (wm C lf aA) f (x0,aF,aP,ed) h:bt)=kk;have qy:∀x0 aF aP ed h,kk x0 aF aP ed h=bq (wm C lf aA) f (x0,aF,aP,ed) h:=λ_ _ _ _ _=>by rw[<- ai]
  obtain⟨h1,hn,jx,aS,fJ⟩:=anA (lf:=lf) (C:=C) (xs:=some (.bool s)) (xg:=some (I (g:Int))) Fr A M K hi (g:=g) (by omega) (λx0 aF aP x9 aX ed h=>Sd C lf (λx0 aF aP ed h=>ED C lf kk x0 aF aP ed h) x0 aF aP x9 aX ed h);have al:∀eY,hole (dF bl i λc=>c=dt g/\hole bl i (dt g)=true) i (dt eY)=hole bl i (dt eY):=λeY=>uN λt aN=>iY λe=>anh aN e.2.1.symm
  obtain⟨h2,kN,kQ,s2,a2,p9,xe⟩:=acq gu Fr hi aA d (g+1) h1 hn jx _ (s||(decide (0<g)&&!hole bl i (dt g))) (by omega) f (by omega) fJ.A fJ.M fJ.K;refine⟨h2,kN,kQ,s2,?_,(fJ.trans p9).ext λc _ _=>?_,?_⟩
  ·rw[dr];show EA C lf (λx0 aF aP ed h=>bq (wm C lf aA) f (x0,aF,aP,ed) h) aA _ _ _ _ h=_;rw[ai];unfold EA JJ;simp only[ch,cd,rI,ba];unfold JI JH;simp only[ch,cd,rh];unfold R3 R2 R1;simp only[ch,cd];unfold R0 RZ RY RX RW;simp only[ch,cd,M6,rH,cy,fp];rw[ad5 A M hi (by omega) _ 16 0 false rfl ⟨λe=>(by cases e),λ⟨j,a,_⟩=>(by omega)⟩ lf (by omega)];unfold Sf;rw[aS];unfold Sd
   have nQ:decide ((0:Int)<(g:Int))=decide (0<g):=by
    by_cases e:0<g
    ·rw[bu e,bu (by omega)]
    ·rw[br e,br (by omega)]
   have fin:∀v:Bool,v=(s||(decide (0<g)&&!hole bl i (dt g)))->ED C lf kk (some (.ptr R.rt 0)) (some (.ptr R.bw ((i+1)*308))) (some (.bool v)) (some (I (g:Int))) h1=aA (some (.ptr R.rt 0)) (some (.ptr R.bw ((i+1)*308))) (some (.bool s2)) h2:=λv e=>by
    subst e;unfold ED;simp only[ch,cd,rH,dC,qy];exact a2
   cases s with
   |true=>
    simp only[aE,iH];exact fin true (by simp)
   |false=>
    by_cases e:0<g
    ·simp only[aE,nQ,bu e];exact fin _ (by rw[bu e];simp)
    ·simp only[aE,nQ,br e,iH];exact fin _ (by rw[br e];simp)
  ·unfold Df;constructor
   ·rintro (⟨e,bg⟩|⟨eY,ak,aD,a7,cw⟩)
    ·exact⟨g,Nat.le_refl _,by omega,e,bg⟩
    ·rw[al] at cw;exact⟨eY,by omega,aD,a7,cw⟩
   ·rintro ⟨eY,ak,aD,a7,cw⟩
    by_cases e:eY=g
    ·subst e;exact .inl ⟨a7,cw⟩
    ·exact .inr ⟨eY,by omega,aD,a7,by rw[al];exact cw⟩
  ·rw[xe,Bool.or_eq_true,Bool.and_eq_true,decide_eq_true_eq,Bool.not_eq_true'];simp only[al];constructor
   ·rintro ((e|⟨e,bg⟩)|⟨eY,ak,aD,a7,cw⟩)
    ·exact .inl e
    ·exact .inr ⟨g,Nat.le_refl _,by omega,e,bg⟩
    ·exact .inr ⟨eY,by omega,aD,a7,cw⟩
   ·rintro (e|⟨eY,ak,aD,a7,cw⟩)
    ·exact .inl (.inl e)
    ·by_cases e:eY=g
     ·subst e;exact .inl (.inr ⟨a7,cw⟩)
     ·exact .inr ⟨eY,by omega,aD,a7,cw⟩
def rp(bl:Nat->Nat->Nat)(i:Nat):Prop:=∀u,u<16->bl i (36+17*u)=0->hole bl i (36+17*u)=true
def Gl(C:ad):Prop:=∀h R n N on q b now us rd bl i (k:Nat),bJ h R n N on q b now us rd->di N rd bl->hS n N on bl->i<N->k<=278->rp bl i->
 ∃h' ds cv,C (.fn 107) [.ptr R.rt 0,I ((i+1:Nat):Int),I (k:Int)] h=some (.ret (.bm []),h')/\kf h h' R n N on ds q b now us rd cv bl i (gC bl i k)
theorem azT{C:ad}(gu:300<=lf)(Fr:xp C){h:U}{on:Nat->Bool}{rd:Nat->Nat->J}{bl:Nat->Nat->Nat}{k:Nat}(A:bJ h R n N on q b now us rd)(M:di N rd bl)(K:hS n N on bl)(hi:i<N)(ai:k<=278)(a1:rp bl i):
 ∃h' ds cv,CQ C lf (.ptr R.rt 0) (I ((i+1:Nat):Int)) (I (k:Int)) h=some (.ret (.bm []),h')/\kf h h' R n N on ds q b now us rd cv bl i (gC bl i k):=by
 have gb:n<=4096:=A.ref.v.choose_spec.choose_spec.2.2.cA;obtain⟨cap,lo,ct⟩:=A.ct;obtain⟨h1,hn,jx,az,fJ⟩:=Wp (lf:=lf) (C:=C) (R:=R) (n:=n) (N:=N) (q:=q) (b:=b) (now:=now) (us:=us) Fr (λx0 aF h=>JK C lf Ak x0 aF h) hi (278-k) k h on rd bl (by omega) lf (by omega) A M K;obtain⟨h2,kN,kQ,s2,aA,p9,xe⟩:=acq (C:=C) (lf:=lf) (R:=R) (n:=n) (N:=N) (q:=q) (b:=b) (now:=now) (us:=us) (by omega) Fr hi (λx0 aF aP h=>EC C lf Ak x0 aF aP h) 17 0 h1 hn jx _ false (by omega) lf (by omega) fJ.A fJ.M fJ.K;have vn:=fJ.trans p9;have eL:=mS vn.A vn.M hi (c:=307) (by omega) (by omega);rw[zc] at eL
 have vY:dF bl i (λc=>gX k 278 c\/Df (dF bl i (gX k 278)) i 0 c) i 35=bl i 35:=iY λe=>by
  rcases e.2 with⟨j,_,aD,e⟩|⟨g,_,aD,e,_⟩
  ·exact(tK aD).2.1 e.symm
  ·unfold dt at e;split at e<;>omega
 have ea:∀c,12<=c->c<308->(((gX k 278 c\/Df (dF bl i (gX k 278)) i 0 c)\/(c=35/\s2=false))↔gC bl i k c):=λc _ _=>by
  have qB:s2=false↔∀j,j<16->bl i (36+17*j)=0\/gS bl i k (36+17*j)=true:=by
   rw[<- Bool.not_eq_true,xe];constructor
   ·intro h j aa;refine .inr ?_;cases ck:gS bl i k (36+17*j) with
    |true=>rfl
    |false=>exact absurd (.inr ⟨j+1,by omega,by omega,by omega,by unfold dt;rw[if_neg (by omega),Nat.add_sub_cancel];exact ck⟩) h
   ·rintro h (e|⟨eY,_,aD,a7,cw⟩)
    ·cases e
    ·have nJ:dt eY=36+17*(eY-1):=if_neg (by omega);rw[nJ] at cw;rcases h (eY-1) (by omega) with e|e
     ·have h0:=oL.1 (a1 _ (by omega) e)
      have h1:hole (dF bl i (gX k 278)) i (36+17*(eY-1))=true:=oL.2 λj aa=>by
       have:=h0 j aa
       unfold dF;split
       ·rfl
       ·exact this
      rw[h1] at cw;cases cw
     ·have h1:hole (dF bl i (gX k 278)) i (36+17*(eY-1))=true:=e;rw[h1] at cw;cases cw
  rw[qB];unfold gC Df;constructor
  ·rintro ((e|⟨g,_,aD,a7,cw⟩)|⟨e,bg⟩)
   ·exact .inl e
   ·by_cases av:g=0
    ·subst av;exact .inr (.inl ⟨a7,cw⟩)
    ·have nJ:dt g=36+17*(g-1):=if_neg av;rw[nJ] at a7 cw;exact .inr (.inr (.inl ⟨g-1,by omega,a7,cw⟩))
   ·exact .inr (.inr (.inr ⟨e,bg⟩))
  ·rintro (e|⟨e,bg⟩|⟨j,ak,aD,a7⟩|⟨e,bg⟩)
   ·exact .inl (.inl e)
   ·exact .inl (.inr ⟨0,by omega,by omega,e,bg⟩)
   ·have nJ:dt (j+1)=36+17*j:=by unfold dt;rw[if_neg (by omega),Nat.add_sub_cancel]
    exact .inl (.inr ⟨j+1,by omega,by omega,by rw[nJ];exact aD,by rw[nJ];exact a7⟩)
   ·exact .inr ⟨e,bg⟩
 have pre:CQ C lf (.ptr R.rt 0) (I ((i+1:Nat):Int)) (I (k:Int)) h=EC C lf Ak (some (.ptr R.rt 0)) (some (.ptr R.bw ((i+1)*308))) (some (.bool s2)) h2:=by
  unfold CQ Sc Sb;simp only[aE,ct,lT (R:=R) (N:=N) (i:=i+1) (cap:=cap) (lo:=lo) (by omega)];unfold Sa R9 R8;simp only[ch,cd];rw[az];unfold JK R7 R6 R5 R4;exact aA
 rw[pre];unfold EC Ak;cases s2 with
 |true=>
  refine⟨h2,kN,kQ,?_,vn.ext λc h1 h2=>?_⟩
  ·simp only[aE,Bool.not_true,iH]
  ·rw[<- ea c h1 h2];exact⟨λe=> .inl e,λe=>e.elim id λx=>by cases x.2⟩
 |false=>
  by_cases hv:0<bl i 35
  ·obtain⟨h3,aW,wE,Wo,cr,er,XE⟩:=Wq Fr vn.A vn.M vn.K hi (c:=307) (by omega) (by omega) (by rw[zc,vY];exact hv);have d1:decide ((0:Int)<(bl i 35:Int))=true:=bu (by omega);have jv:=BO K gb hi (c:=35) (by omega) (by omega) hv;rw[vY] at eL;rw[zc,vY] at cr;rw[zc] at XE;refine⟨aW,wE,Wo,?_,(vn.trans XE).ext λc h1 h2=>?_⟩
   ·simp only[aE,Bool.not_false,eL,d1,jv,cr,er]
   ·rw[<- ea c h1 h2];exact⟨λe=>e.elim .inl λx=> .inr ⟨x,rfl⟩,λe=>e.elim .inl λx=> .inr x.1⟩
  ·have d1:decide ((0:Int)<(bl i 35:Int))=false:=br (by omega);rw[vY] at eL;refine⟨h2,kN,kQ,?_,vn.wide (λc h1 h2 e=>(ea c h1 h2).1 (.inl e)) λc h1 h2 e=>?_⟩
   ·simp only[aE,Bool.not_false,eL,d1]
   ·rcases(ea c h1 h2).2 e with e|⟨e,_⟩
    ·exact .inl e
    ·subst e;exact .inr (by omega)
end
end
section
open Classical
theorem Ju(b:Nat->Nat)(a m:Nat):over b a (List.replicate m 0)=λt=>if a<=t/\t<a+m then 0 else b t:=by
 funext t
 unfold over;rw[List.length_replicate];by_cases e:a<=t/\t<a+m
 ·rw[if_pos e,if_pos e];simp[List.getD,List.getElem?_replicate];split<;>rfl
 ·rw[if_neg e,if_neg e]
theorem arF(b:Nat->Nat)(a m:Nat):over (over b a [0]) (a+1) (List.replicate m 0)=over b a (List.replicate (m+1) 0):=by
 have h1:([0]:List Nat)=List.replicate 1 0:=rfl;rw[h1,Ju,Ju,Ju]
 funext t
 by_cases az:a+1<=t/\t<a+1+m
 ·rw[if_pos az,if_pos (by omega)]
 ·rw[if_neg az];show(if a<=t/\t<a+1 then 0 else b t)=_;by_cases aA:a<=t/\t<a+1
  ·rw[if_pos aA,if_pos (by omega)]
  ·rw[if_neg aA,if_neg (by omega)]
theorem aAW{C:ad}{lf:Nat}{r:ay}{x0 x1 x2:O}{h:U}:V8 C lf r x0 x1 x2 h=KS C lf (λx0 x1 x2 h=>KR C lf r x0 x1 x2 h) r x0 x1 x2 h:=rfl
theorem agZ{C:ad}{lf:Nat}{fc:bI}{x0 x2 x7:O}{h:U}:Wd C lf fc x0 x2 x7 h=fc x0 x2 x7 h:=rfl
section
variable{lf:Nat}{R:eS}{n N:Nat}{on:Nat->Bool}{q:Nat->Option Nat}{now:Int}{us:Nat->Bool}{rd:Nat->Nat->J}{i:Nat}
theorem agY{C:ad}{x0 x2 x7:O}{j bS:Nat}{xr:J}(aa:j<n)(eZ:on j=true)(a0:q j=some bS)(av:bI):∀(d p:Nat),p+d=64->∀f,d<f->∀h b,bJ h R n N on q b now us rd->h.cell R.rb j=some xr->
 ∃h',bq (Bi C lf av) f (x0,x2,x7,some xr,some (I (p:Int))) h=av x0 x2 x7 h'/\bJ h' R n N on q (over b (j*64+p) (List.replicate d 0)) now us rd/\aG h h' (· =bS)
 |0,p,aC,f,an,h,b,A,ae=>by
  obtain⟨f,rfl⟩:=dK f (by omega);have ba:decide ((p:Int)<64)=false:=br (by omega);refine⟨h,?_,?_,aG.refl _ _⟩
  ·rw[dr];unfold Bi E9;simp only[aE,ba]
  ·have e:over b (j*64+p) (List.replicate 0 0)=b:=by
    rw[Ju];funext t;exact if_neg (by omega)
   rw[e];exact A
 |d+1,p,aC,f,an,h,b,A,ae=>by
  obtain⟨f,rfl⟩:=dK f (by omega);have ba:decide ((p:Int)<64)=true:=bu (by omega);have dC:IntKind.i64.wrap ((p:Int)+1)=((p+1:Nat):Int):=cL (by omega);obtain⟨x1,aiv,A3,bT,cm,fe,nj,y8,Rv,Rw⟩:=A.RB (j:=j) (p:=p) (v:=0) aa eZ (by omega) (by omega);have amI:aiv=xr:=Option.some.inj (fe.symm.trans ae);have ami:A3=bS:=Option.some.inj (nj.symm.trans a0);subst amI ami
  have IK:A3≠R.rb:=by
   obtain⟨y0,y1,_,_,V⟩:=A.ref.v;exact(V.has j A3 aa a0).2.1
  obtain⟨h2,aA,dk,bD⟩:=agY (C:=C) (x0:=x0) (x2:=x2) (x7:=x7) aa eZ a0 av d (p+1) (by omega) f (by omega) _ _ Rw (by rw[eH (.inl (Ne.symm IK))];exact ae);refine⟨h2,?_,?_,(fa (S:=(· =A3)) rfl).trans bD⟩
  ·rw[dr];show E9 C lf (λx0 x2 x7 aP x9 h=>bq (Bi C lf av) f (x0,x2,x7,aP,x9) h) av x0 x2 x7 (some aiv) (some (I (p:Int))) h=_;unfold E9;have arI:st 1 (.ptr A3 p) (.int .u8 0) h=some (h.set A3 p [.int .u8 0]):=Rv;simp only[ch,cd,rI,ba,rh,y8,arI,rH,dC];exact aA
  ·rw[<- Nat.add_assoc,arF] at dk;exact dk
structure Gk (h h':U) (R:eS) (n N:Nat) (on:Nat->Bool) (q:Nat->Option Nat) (b:Nat->Nat) (now:Int) (us:Nat->Bool) (rd:Nat->Nat->J) (bl:Nat->Nat->Nat) (i sz:Nat) (ds:Nat->Bool) (cv:Nat->Nat->J):Prop where
 A:bJ h' R n N ds q (lW b (dF bl i (gC bl i ((sz+63)/64))) i sz) now us (grown cv (i+1) sz now)
 M:di N cv (dF bl i (gC bl i ((sz+63)/64)))
 L:∀i' c,c<12->cv i' c=rd i' c
 O:∀j,ds j=true↔(on j=true/\∀c,12<=c->c<308->gC bl i ((sz+63)/64) c->bl i c≠j+1)
 F:aG h h' (λj=>j=R.ro\/j=R.bw\/∃u,q u=some j)
def Gw(C:ad):Prop:=∀h R n N on q b now us rd bl (ino sz:Int),bJ h R n N on q b now us rd->di N rd bl->hS n N on bl-> -9223372036854775808<=sz->sz<9223372036854775808->
 (c8 N us ino=false->C (.fn 96) [.ptr R.rt 0,I ino,I sz] h=some (.ret (I 2),h))/\
 (∀i,ic N us ino i->rp bl i->(sz<0->C (.fn 96) [.ptr R.rt 0,I ino,I sz] h=some (.ret (I 22),h))/\
   (17792<sz->C (.fn 96) [.ptr R.rt 0,I ino,I sz] h=some (.ret (I 27),h))/\
   (0<=sz->sz<=17792->∃h' ds cv,C (.fn 96) [.ptr R.rt 0,I ino,I sz] h=some (.ret (I 0),h')/\Gk h h' R n N on q b now us rd bl i sz.toNat ds cv))
theorem aAU{C:ad}{h:U}{b:Nat->Nat}(A:bJ h R n N on q b now us rd)(hi:i<N){sz:Nat}(r:ay):
 ∃h',zi C lf r (some (.ptr R.rt 0)) (some (I (sz:Int))) (some (.ptr R.bw ((i+1)*308))) h=r (some (I 0)) h'/\bJ h' R n N on q b now us (grown rd (i+1) sz now)/\aG h h' (· =R.bw):=by
 obtain⟨h1,s1,b0,cH,aM⟩:=kv A (i:=i+1) (c:=5) (by omega) (by omega) (by omega) (sz:Int);obtain⟨h2,s2,dk,cA,bD⟩:=kv b0 (i:=i+1) (c:=9) (by omega) (by omega) (by omega) now;obtain⟨h3,er,fg,gy,dd⟩:=kv dk (i:=i+1) (c:=10) (by omega) (by omega) (by omega) now;have iE:(i+1)*308+1+4=(i+1)*308+5:=rfl;have pw:(i+1)*308+1+8=(i+1)*308+9:=rfl;have jV:(i+1)*308+1+9=(i+1)*308+10:=rfl;refine⟨h3,?_,fg,(aM.trans bD).trans dd⟩;unfold zi;simp only[aE,b0.cr,iE,pw,jV,s1,s2,er]
theorem aAV{C:ad}(gu:300<=lf)(hG:pe C)(L6:Gl C){h:U}{b:Nat->Nat}{bl:Nat->Nat->Nat}{ino sz:Int}(A:bJ h R n N on q b now us rd)(M:di N rd bl)(K:hS n N on bl)(dN: -9223372036854775808<=sz)(df:sz<9223372036854775808):
 (c8 N us ino=false->xY C lf (.ptr R.rt 0) (I ino) (I sz) h=some (.ret (I 2),h))/\
 (∀i,ic N us ino i->rp bl i->(sz<0->xY C lf (.ptr R.rt 0) (I ino) (I sz) h=some (.ret (I 22),h))/\
   (17792<sz->xY C lf (.ptr R.rt 0) (I ino) (I sz) h=some (.ret (I 27),h))/\
   (0<=sz->sz<=17792->∃h' ds cv,xY C lf (.ptr R.rt 0) (I ino) (I sz) h=some (.ret (I 0),h')/\Gk h h' R n N on q b now us rd bl i sz.toNat ds cv)):=by
 have dH:=hG h R n N on q b now us rd ino A;have gb:n<=4096:=A.ref.v.choose_spec.choose_spec.2.2.cA;obtain⟨cap,lo,ct⟩:=A.ct;unfold xY;rw[aAW];unfold KS;refine⟨λag=>?_,λi bV a1=>?_⟩
 ·rw[ag] at dH;unfold qm;simp only[aE,dH,Bool.not_false]
 ·rw[bV.yes] at dH;obtain⟨hi,hu,rfl⟩:=bV;simp only[aE,dH,Bool.not_true];unfold KR V7;refine⟨λh1=>?_,λh1=>?_,λh1 h2=>?_⟩
  ·unfold qm;simp only[aE,bu h1]
  ·have d1:decide (sz<0)=false:=br (by omega);simp only[aE,d1];unfold E8 KQ qm;simp only[aE,bu h1]
  ·obtain⟨z,rfl⟩:∃z:Nat,sz=z:=⟨sz.toNat,by omega⟩;rw[Int.toNat_natCast];have d1:decide ((z:Int)<0)=false:=br (by omega);have d2:decide ((17792:Int)<(z:Int))=false:=br (by omega);have cN:IntKind.i64.wrap ((z:Int)+64)=((z+64:Nat):Int):=cL (by omega);have cy:IntKind.i64.wrap (((z+64:Nat):Int)-1)=((z+63:Nat):Int):=cL (by omega)
   have fp:IntKind.i64.wrap (((z+63:Nat):Int).tdiv 64)=(((z+63)/64:Nat):Int):=by
    rw[Int.tdiv_eq_ediv_of_nonneg (by omega),wrap_i64 (by omega) (by omega)];rfl
   have aI:(z:Int).tmod 64=((z%64:Nat):Int):=by
    rw[Int.tmod_eq_emod_of_nonneg (by omega)];rfl
   have a0:IntKind.i64.wrap ((z:Int).tdiv 64)=((z/64:Nat):Int):=by
    rw[Int.tdiv_eq_ediv_of_nonneg (by omega),wrap_i64 (by omega) (by omega)];rfl
   obtain⟨h1,hn,jx,aS,fJ⟩:=L6 h R n N on q b now us rd bl i ((z+63)/64) A M K hi (by omega) a1
   have pre:∀P:ab->Prop,P (KT C lf (λx0 x2 x7 Xg h=>BI C lf (λx0 x2 x7 h=>zi C lf qm x0 x2 x7 h) x0 x2 x7 Xg h) (some (.ptr R.rt 0)) (some (I (z:Int))) (some (.ptr R.bw ((i+1)*308))) h1)->
    P (ob (some (J.int .i64 (z:Int))) λajC=>ob (bin aw .lss 3 ajC (I 0)) λaDG=>fY aDG (qm (some (I 22)) h) (E8 C lf qm (some (.ptr R.rt 0)) (some (I ((i+1:Nat):Int))) (some (I (z:Int))) h)):=λP tc=>by
    simp only[aE,d1];unfold E8 KQ;simp only[aE,d2];unfold Wj Wi;simp only[aE,ct,lT (R:=R) (N:=N) (i:=i+1) (cap:=cap) (lo:=lo) (by omega)];unfold Wh Wg;simp only[aE,cN,cy,lD (show(64:Int)≠0 by omega),fp,aS];unfold Wf We;exact tc
   have fin:∀h2 b2,bJ h2 R n N hn q b2 now us jx->b2=lW b (dF bl i (gC bl i ((z+63)/64))) i z->aG h1 h2 (λj=>∃u,q u=some j)->∃h' ds cv,zi C lf qm (some (.ptr R.rt 0)) (some (I (z:Int))) (some (.ptr R.bw ((i+1)*308))) h2=some (.ret (I 0),h')/\Gk h h' R n N on q b now us rd bl i z ds cv:=λh2 b2 dk NB bD=>by
    subst NB;obtain⟨h3,cj,fg,dd⟩:=aAU (lf:=lf) (C:=C) dk hi (sz:=z) qm;refine⟨h3,hn,jx,?_,fg,fJ.M,fJ.L,fJ.O,((fJ.F.ek λj e=>?_).trans (bD.ek λj e=> .inr (.inr e))).trans (dd.ek λj e=> .inr (.inl e))⟩
    ·rw[cj];unfold qm;simp only[ch,cd]
    ·rcases e with e|e
     ·exact .inl e
     ·exact .inr (.inl e)
   refine pre (λr=>∃h' ds cv,r=some (.ret (I 0),h')/\Gk h h' R n N on q b now us rd bl i z ds cv) ?_;unfold KT;by_cases adz:0<z%64
   ·have d3:decide ((0:Int)<((z%64:Nat):Int))=true:=bu (by omega);have ai:z/64<278:=by omega
    have b7:=tN (R:=R) (i:=i) (k:=z/64) (m:=278) (o:=12) ai;have eL:=mS fJ.A fJ.M hi (c:=12+z/64) (by omega) (by omega);rw[qZ ai] at eL;by_cases hv:0<dF bl i (gC bl i ((z+63)/64)) i (a4 (z/64))
    ·generalize Qt:dF bl i (gC bl i ((z+63)/64)) i (a4 (z/64))=v at *;have d4:decide ((0:Int)<(v:Int))=true:=bu (by omega);have hle:=fJ.K.le i (a4 (z/64)) hi qX (sg ai);have eZ:=fJ.K.on i (a4 (z/64)) hi qX (sg ai) (by rw[Qt];exact hv);rw[Qt] at hle eZ;have al:IntKind.i64.wrap ((v:Int)-1)=((v-1:Nat):Int):=cL (by omega);obtain⟨x1,xr,bS,bT,cm,fe,nj,_⟩:=fJ.A.RB (j:=v-1) (p:=0) (v:=0) (by omega) eZ (by omega) (by omega);obtain⟨h2,aA,dk,bD⟩:=agY (C:=C) (lf:=lf) (x0:=some (.ptr R.rt 0)) (x2:=some (I (z:Int))) (x7:=some (.ptr R.bw ((i+1)*308))) (by omega) eZ nj (λx0 x2 x7 h=>zi C lf qm x0 x2 x7 h) (64-z%64) (z%64) (by omega) lf (by omega) h1 b fJ.A fe;simp only[aE,h6 (show(64:Int)≠0 by omega),aI,d3,lD (show(64:Int)≠0 by omega),a0,b7,eL,d4];unfold BI;simp only[ch,cd,rh];unfold Wc Wb;simp only[aE,bT,lD (show(64:Int)≠0 by omega),a0,b7,eL,al,cm,fe];unfold Wa V9;simp only[ch,cd,h6 (show(64:Int)≠0 by omega),aI];rw[aA];refine fin h2 _ dk ?_ (bD.ek λj e=>⟨v-1,by rw[e];exact nj⟩);unfold lW;rw[Qt,if_pos ⟨adz,hv⟩]
    ·have d4:decide ((0:Int)<(dF bl i (gC bl i ((z+63)/64)) i (a4 (z/64)):Int))=false:=br (by omega);simp only[aE,h6 (show(64:Int)≠0 by omega),aI,d3,lD (show(64:Int)≠0 by omega),a0,b7,eL,d4];unfold BI;simp only[ch,cd,o6];rw[agZ];refine fin h1 _ fJ.A ?_ (aG.refl _ _);unfold lW;rw[if_neg λe=>hv e.2]
   ·have d3:decide ((0:Int)<((z%64:Nat):Int))=false:=br (by omega);simp only[aE,h6 (show(64:Int)≠0 by omega),aI,d3,iH];unfold BI;simp only[ch,cd,o6];rw[agZ];refine fin h1 _ fJ.A ?_ (aG.refl _ _);unfold lW;rw[if_neg λe=>adz e.1]
end
end
section
open Classical
def xq(i:Nat)(L H:Int)(on ds:Nat->Bool)(us eh:Nat->Bool)(rd cv:Nat->Nat->J)(bl bl':Nat->Nat->Nat):Prop:=
 ((L≠0\/H≠0)/\ds=on/\eh=us/\cv=rd/\bl'=bl)\/
 (L=0/\H=0/\eh=de us i false/\(∀i' c,c<12->cv i' c=iw rd (i+1) fA i' c)/\bl'=m2 bl i/\∀j,ds j=true↔(on j=true/\∀c,12<=c->c<308->bl i c≠j+1))
section
variable{lf:Nat}{h:U}{R:eS}{n N:Nat}{on:Nat->Bool}{q:Nat->Option Nat}{b:Nat->Nat}{now:Int}{us:Nat->Bool}{rd:Nat->Nat->J}{bl:Nat->Nat->Nat}{i:Nat}{ino:Int}
theorem bJ.setRow(A:bJ h R n N on q b now us rd)(hi:i<N){g:Nat->J}{v:Bool}(h0:g 0= .bool v):bJ (h.set R.bw ((i+1)*308) (e2 g)) R n N on q b now (de us i v) (iw rd (i+1) g):=by
 have aL:(e2 g).length=308:=by rw[e2,List.length_map,List.length_range]
 have ag:(i+1)*308+(e2 g).length<=(N+1)*308:=by rw[aL];omega
 have F:aG h (h.set R.bw ((i+1)*308) (e2 g)) (· =R.bw):=fa rfl;have st:cQ h (h.set R.bw ((i+1)*308) (e2 g)) R.rt:=F.same _ A.ref.lt (λe=>A.d1 e.symm);refine⟨A.pd,A.gN,A.ref.hK F λj aa=>?_,by rw[st.cell];exact A.a2,by rw[st.cell];exact A.cr,let ⟨cap,lo,e⟩:=A.ct;⟨cap,lo,by rw[st.cell];exact e⟩,fI A.wt st,eG A.wl,λi' a3 cF fr=>?_,λi' cF=>?_,A.d1,A.d2,A.d3,A.d4,by rw[eb];exact A.hO⟩
 ·rcases aa with rfl|rfl|rfl|⟨t,aN,e⟩
  ·exact λe=>A.d1 e.symm
  ·exact λe=>A.d2 e.symm
  ·exact λe=>A.d3 e.symm
  ·exact A.d4 t _ aN e
 ·by_cases e:i'=i+1
  ·subst e;rw[hh A.wl ag (Nat.le_add_right _ _) (by rw[aL];exact Nat.add_lt_add_left fr _),o1,Nat.add_sub_cancel_left];simp[e2,fr]
  ·rw[eH (.inr (by rw[aL];omega)),o0 _ _ _ e];exact A.kj i' a3 cF fr
 ·by_cases e:i'=i
  ·subst e;rw[o1,kS,h0]
  ·rw[o0 _ _ _ (by omega),ix _ _ e];exact A.lX i' cF
theorem agX(A:bJ h R n N on q b now us rd)(hi:i<N){g:Nat->J}(bd:dZ (e2 g)=true):st 308 (.ptr R.bw ((i+1)*308)) (.agg (e2 g)) h=some (h.set R.bw ((i+1)*308) (e2 g)):=by
 have aL:(e2 g).length=308:=by rw[e2,List.length_map,List.length_range]
 exact hR (n:=308) (off:=(i+1)*308) (y:= .agg (e2 g)) A.wl aL (by omega) bd
def Gm(C:ad):Prop:=∀h R n N on q b now us rd bl i (L H:Int),bJ h R n N on q b now us rd->di N rd bl->hS n N on bl->i<N->rp bl i->rd (i+1) 2=I L->rd (i+1) 11=I H->
 ∃h' ds eh cv bl',C (.fn 109) [.ptr R.rt 0,I ((i+1:Nat):Int)] h=some (.ret (.bm []),h')/\bJ h' R n N ds q b now eh cv/\di N cv bl'/\xq i L H on ds us eh rd cv bl bl'/\aG h h' (λj=>j=R.ro\/j=R.bw)
theorem aAh{C:ad}(L6:Gl C)(A:bJ h R n N on q b now us rd)(M:di N rd bl)(K:hS n N on bl)(hi:i<N)(a1:rp bl i){L H:Int}(h8:rd (i+1) 2=I L)(iJ:rd (i+1) 11=I H):
 ∃h' ds eh cv bl',HC C lf (.ptr R.rt 0) (I ((i+1:Nat):Int)) h=some (.ret (.bm []),h')/\bJ h' R n N ds q b now eh cv/\di N cv bl'/\xq i L H on ds us eh rd cv bl bl'/\aG h h' (λj=>j=R.ro\/j=R.bw):=by
 obtain⟨cap,lo,ct⟩:=A.ct;have ar:=lT (R:=R) (N:=N) (i:=i+1) (cap:=cap) (lo:=lo) (by omega);have k2:=A.kj (i+1) 2 (by omega) (by omega);have yH:=A.kj (i+1) 11 (by omega) (by omega);rw[h8] at k2;rw[iJ] at yH;have aA:(i+1)*308+1+1=(i+1)*308+2:=rfl;unfold HC Sh N1;by_cases anW:L=0/\H=0
 ·obtain⟨r4,n0⟩:=anW;obtain⟨h1,hn,jx,aS,fJ⟩:=L6 h R n N on q b now us rd bl i 0 A M K hi (by omega) a1;have vI:C (.fn 107) [.ptr R.rt 0,I ((i+1:Nat):Int),I 0] h=some (.ret (.bm []),h1):=aS;obtain⟨rL,pN,ak1⟩:=fJ.A.ct;have r2:=lT (R:=R) (N:=N) (i:=i+1) (cap:=rL) (lo:=pN) (by omega);have oF:hZ aw 156 [] []=some (.agg (e2 fA)):=by kernel_rfl
  have dv:=agX fJ.A hi (g:=fA) (by kernel_rfl);refine⟨_,hn,_,_,_,?_,fJ.A.setRow hi (g:=fA) (v:=false) rfl,λi' c cF dG ae=>?_,.inr ⟨r4,n0,rfl,λi' c ae=>?_,rfl,λj=>?_⟩,fJ.F.trans (fa (.inr rfl))⟩
  ·simp only[aE,ct,ar,aA,k2,bu r4,yH,bu n0,vI,ak1,r2,oF,dv]
  ·obtain⟨bT,cm⟩:=Jw dG ae;by_cases e:i'=i
   ·subst e;have av:fA c=I 0:=if_neg (by omega);rw[o1,av];unfold m2;rw[if_pos rfl];rfl
   ·rw[o0 _ _ _ (by omega),fJ.M i' c cF dG ae,iY (λx=>e x.1)];unfold m2;rw[if_neg e]
  ·by_cases e:i'=i+1
   ·subst e;rw[o1,o1]
   ·rw[o0 _ _ _ e,o0 _ _ _ e,fJ.L i' c ae]
  ·rw[fJ.O];exact⟨λx=>⟨x.1,λc h1 h2=>x.2 c h1 h2 (Nq h1 h2)⟩,λx=>⟨x.1,λc h1 h2 _=>x.2 c h1 h2⟩⟩
 ·have b4:L≠0\/H≠0:=by omega
  refine⟨h,on,us,rd,bl,?_,A,M,.inl ⟨b4,rfl,rfl,rfl,rfl⟩,aG.refl _ _⟩;by_cases r4:L=0
  ·have n0:decide (H=0)=false:=br (by omega);simp only[aE,ct,ar,aA,k2,bu r4,yH,n0]
  ·simp only[aE,ct,ar,aA,k2,br r4,iH]
def Gr(C:ad):Prop:=∀h R n N on q b now us rd bl (ino:Int),bJ h R n N on q b now us rd->di N rd bl->hS n N on bl->
 (c8 N us ino=false->C (.fn 100) [.ptr R.rt 0,I ino] h=some (.ret (I 2),h))/\
 (∀i L H,ic N us ino i->rp bl i->rd (i+1) 2=I L->rd (i+1) 11=I H->(H=0->C (.fn 100) [.ptr R.rt 0,I ino] h=some (.ret (I 22),h))/\
   (H≠0->∃h' ds eh cv bl',C (.fn 100) [.ptr R.rt 0,I ino] h=some (.ret (I 0),h')/\bJ h' R n N ds q b now eh cv/\di N cv bl'/\
     xq i L (IntKind.i64.wrap (H-1)) on ds us eh (cT rd (i+1) 11 (I (IntKind.i64.wrap (H-1)))) cv bl bl'/\aG h h' (λj=>j=R.ro\/j=R.bw)))
theorem di.off(M:di N rd bl){i c:Nat}{y:J}(ae:c<12):di N (cT rd i c y) bl:=λi' a3 cF nN fr=>by
 rw[ho _ _ (by omega)];exact M i' a3 cF nN fr
theorem aAL{C:ad}(hG:pe C)(Go:Gm C)(A:bJ h R n N on q b now us rd)(M:di N rd bl)(K:hS n N on bl):
 (c8 N us ino=false->Aq C lf (.ptr R.rt 0) (I ino) h=some (.ret (I 2),h))/\
 (∀i L H,ic N us ino i->rp bl i->rd (i+1) 2=I L->rd (i+1) 11=I H->(H=0->Aq C lf (.ptr R.rt 0) (I ino) h=some (.ret (I 22),h))/\
   (H≠0->∃h' ds eh cv bl',Aq C lf (.ptr R.rt 0) (I ino) h=some (.ret (I 0),h')/\bJ h' R n N ds q b now eh cv/\di N cv bl'/\
     xq i L (IntKind.i64.wrap (H-1)) on ds us eh (cT rd (i+1) 11 (I (IntKind.i64.wrap (H-1)))) cv bl bl'/\aG h h' (λj=>j=R.ro\/j=R.bw))):=by
 have dH:=hG h R n N on q b now us rd ino A;obtain⟨cap,lo,ct⟩:=A.ct;unfold Aq RD NV;refine⟨λag=>?_,λi L H bV a1 h8 iJ=>?_⟩
 ·rw[ag] at dH;simp only[aE,dH,Bool.not_false]
 ·rw[bV.yes] at dH;obtain⟨hi,hu,rfl⟩:=bV;have ar:=lT (R:=R) (N:=N) (i:=i+1) (cap:=cap) (lo:=lo) (by omega);have yH:=A.kj (i+1) 11 (by omega) (by omega);rw[iJ] at yH;refine⟨λh0=>?_,λh0=>?_⟩
  ·simp only[aE,dH,Bool.not_true,ct,ar,yH,bu h0]
  ·obtain⟨h1,s1,b0,cH,aM⟩:=kv A (i:=i+1) (c:=11) (by omega) (by omega) (by omega) (IntKind.i64.wrap (H-1));obtain⟨h2,ds,eh,cv,bl',a2,dk,M2,mW,bD⟩:=Go h1 R n N on q b now us _ bl i L (IntKind.i64.wrap (H-1)) b0 (M.off (by omega)) K hi a1 (by rw[ho _ _ (by omega)];exact h8) (mU ..);refine⟨h2,ds,eh,cv,bl',?_,dk,M2,mW,(aM.ek λ_ e=> .inr e).trans bD⟩;simp only[aE,dH,Bool.not_true,ct,ar,yH,br h0,s1,a2]
def Gq(C:ad):Prop:=∀h R n N on q b now us rd bl (ino by_:Int),bJ h R n N on q b now us rd->di N rd bl->hS n N on bl->
 (c8 N us ino=false->C (.fn 98) [.ptr R.rt 0,I ino,I by_] h=some (.ret (I 2),h))/\
 (∀i L H,ic N us ino i->rp bl i->rd (i+1) 2=I L->0<=L->L<=16->rd (i+1) 11=I H->(by_ < -L->C (.fn 98) [.ptr R.rt 0,I ino,I by_] h=some (.ret (I 22),h))/\
   (16-L<by_->C (.fn 98) [.ptr R.rt 0,I ino,I by_] h=some (.ret (I 31),h))/\
   (-L<=by_->by_<=16-L->∃h' ds eh cv bl',C (.fn 98) [.ptr R.rt 0,I ino,I by_] h=some (.ret (I 0),h')/\bJ h' R n N ds q b now eh cv/\di N cv bl'/\
     xq i (L+by_) H on ds us eh (cT (cT rd (i+1) 2 (I (L+by_))) (i+1) 10 (I now)) cv bl bl'/\aG h h' (λj=>j=R.ro\/j=R.bw)))
theorem aAm{C:ad}(hG:pe C)(Go:Gm C){by_:Int}(A:bJ h R n N on q b now us rd)(M:di N rd bl)(K:hS n N on bl):
 (c8 N us ino=false->xZ C lf (.ptr R.rt 0) (I ino) (I by_) h=some (.ret (I 2),h))/\
 (∀i L H,ic N us ino i->rp bl i->rd (i+1) 2=I L->0<=L->L<=16->rd (i+1) 11=I H->(by_ < -L->xZ C lf (.ptr R.rt 0) (I ino) (I by_) h=some (.ret (I 22),h))/\
   (16-L<by_->xZ C lf (.ptr R.rt 0) (I ino) (I by_) h=some (.ret (I 31),h))/\
   (-L<=by_->by_<=16-L->∃h' ds eh cv bl',xZ C lf (.ptr R.rt 0) (I ino) (I by_) h=some (.ret (I 0),h')/\bJ h' R n N ds q b now eh cv/\di N cv bl'/\
     xq i (L+by_) H on ds us eh (cT (cT rd (i+1) 2 (I (L+by_))) (i+1) 10 (I now)) cv bl bl'/\aG h h' (λj=>j=R.ro\/j=R.bw))):=by
 have dH:=hG h R n N on q b now us rd ino A;obtain⟨cap,lo,ct⟩:=A.ct;unfold xZ Wm OP;refine⟨λag=>?_,λi L H bV a1 h8 anU anV iJ=>?_⟩
 ·rw[ag] at dH;simp only[aE,dH,Bool.not_false]
 ·rw[bV.yes] at dH;obtain⟨hi,hu,rfl⟩:=bV;have ar:=lT (R:=R) (N:=N) (i:=i+1) (cap:=cap) (lo:=lo) (by omega);have k2:=A.kj (i+1) 2 (by omega) (by omega);rw[h8] at k2;have aA:(i+1)*308+1+1=(i+1)*308+2:=rfl;have jV:(i+1)*308+1+9=(i+1)*308+10:=rfl;have cN:IntKind.i64.wrap (-L)= -L:=by rw[wrap_i64 (by omega) (by omega)]
  have cy:IntKind.i64.wrap (16-L)=16-L:=by rw[wrap_i64 (by omega) (by omega)]
  refine⟨λh1=>?_,λh1=>?_,λh1 h2=>?_⟩
  ·simp only[aE,dH,Bool.not_true,ct,ar,aA,k2,BS,cN,bu h1]
  ·have h0:decide (by_ < -L)=false:=br (by omega);simp only[aE,dH,Bool.not_true,ct,ar,aA,k2,BS,cN,cy,h0,bu h1]
  ·have h0:decide (by_ < -L)=false:=br (by omega);have h3:decide (16-L<by_)=false:=br (by omega);have fp:IntKind.i64.wrap (L+by_)=L+by_:=by rw[wrap_i64 (by omega) (by omega)]
   obtain⟨g1,s1,b0,cH,aM⟩:=kv A (i:=i+1) (c:=2) (by omega) (by omega) (by omega) (L+by_);obtain⟨g2,s2,dk,cA,bD⟩:=kv b0 (i:=i+1) (c:=10) (by omega) (by omega) (by omega) now;obtain⟨g3,ds,eh,cv,bl',cr,fg,Mj,L9,dd⟩:=Go g2 R n N on q b now us _ bl i (L+by_) H dk ((M.off (by omega)).off (by omega)) K hi a1 (by rw[ho _ _ (by omega),mU]) (by rw[ho _ _ (by omega),ho _ _ (by omega)];exact iJ);refine⟨g3,ds,eh,cv,bl',?_,fg,Mj,L9,((aM.trans bD).ek λ_ e=> .inr e).trans dd⟩;simp only[aE,dH,Bool.not_true,ct,ar,aA,jV,k2,BS,cN,cy,fp,h0,h3,s1,b0.cr,s2,cr]
end
end
theorem akN{x m:BitVec 64}:(x&&& ~~~m)=0#64↔x&&& m=x:=by
 constructor
 ·intro h;apply BitVec.eq_of_getLsbD_eq;intro i hi;have h1:(x&&& ~~~m).getLsbD i=false:=by rw[h];simp
  rw[BitVec.getLsbD_and,BitVec.getLsbD_not] at h1;rw[BitVec.getLsbD_and];cases ar:x.getLsbD i<;>cases hm:m.getLsbD i<;>simp_all
 ·intro h;apply BitVec.eq_of_getLsbD_eq;intro i hi;have h1:(x&&& m).getLsbD i=x.getLsbD i:=by rw[h]
  rw[BitVec.getLsbD_and] at h1;rw[BitVec.getLsbD_and,BitVec.getLsbD_not];cases ar:x.getLsbD i<;>cases hm:m.getLsbD i<;>simp_all
theorem aqD{mo:Int}(h1: -9223372036854775808<=mo)(h2:mo<9223372036854775808):
 (mo≠IntKind.i64.wrap ((BitVec.ofInt 64 mo&&& BitVec.ofInt 64 65535).toNat:Int)\/mo<0)↔yW mo≠0:=by
 have ar:((BitVec.ofInt 64 mo).toNat:Int)=mo%18446744073709551616:=by
  rw[BitVec.toNat_ofInt];show((mo%((18446744073709551616:Nat):Int)).toNat:Int)=_;omega
 have hm:(BitVec.ofInt 64 65535).toNat=2 ^ 16-1:=rfl
 have b1:(BitVec.ofInt 64 mo&&& BitVec.ofInt 64 65535).toNat=(BitVec.ofInt 64 mo).toNat%65536:=by
  rw[BitVec.toNat_and,hm,Nat.and_two_pow_sub_one_eq_mod]
 have a1:yW mo=0↔(BitVec.ofInt 64 mo).toNat<65536:=by
  have az:yW mo=0↔(BitVec.ofInt 64 mo&&& ~~~BitVec.ofInt 64 65535)=0#64:=by
   unfold yW;generalize(BitVec.ofInt 64 mo&&& ~~~BitVec.ofInt 64 65535)=y;have bf:=y.isLt;constructor
   ·intro h;apply BitVec.eq_of_toNat_eq
    have h3:y.toNat=0:=by
     simp[IntKind.wrap,IntKind.signed,IntKind.bits] at h;omega
    rw[h3];rfl
   ·intro h;rw[h];rfl
  rw[az,akN];constructor
  ·intro h
   have:=congrArg BitVec.toNat h
   rw[b1] at this;omega
  ·intro h;apply BitVec.eq_of_toNat_eq;rw[b1];omega
 rw[b1,wrap_i64 (by omega) (by omega),Ne,Ne,a1];omega
section
variable{lf:Nat}{h:U}{R:eS}{n N:Nat}{on:Nat->Bool}{q:Nat->Option Nat}{b:Nat->Nat}{now:Int}{us:Nat->Bool}{rd:Nat->Nat->J}{mo uid gid:Int}
theorem azE{C:ad}(r:aU)(av:cu)(A:bJ h R n N on q b now us rd):∀(d t:Nat),t+d=N->∀f,d<f->
 ((∀j,t<=j->j<N->us j=true)->bq (r8 C lf r av) f (some (.ptr R.rt 0),some (I mo),some (I uid),some (I gid),some (I ((t+1:Nat):Int))) h=av h)/\
 (∀i,t<=i->i<N->us i=false->(∀j,t<=j->j<i->us j=true)->bq (r8 C lf r av) f (some (.ptr R.rt 0),some (I mo),some (I uid),some (I gid),some (I ((t+1:Nat):Int))) h=
   r (some (I ((i+1:Nat):Int))) (some (I 0)) (h.set R.bw ((i+1)*308) (e2 (mh ((i+1:Nat):Int) uid gid mo now)))):=by
 intro d
 induction d with
 |zero=>
  intro t aN f an;obtain⟨f,rfl⟩:=dK f (by omega);refine⟨λ_=>?_,λi h1 h2=>by omega⟩;rw[dr];unfold r8 BJ;have ba:decide (((t+1:Nat):Int)<=(N:Int))=false:=br (by omega);simp only[aE,A.a2,ba]
 |succ d bc=>
  intro t aN f an;obtain⟨f,rfl⟩:=dK f (by omega);obtain⟨D4,D5⟩:=bc (t+1) (by omega) f (by omega);have jK:=A.gN;have Qp:t<N:=by omega
  obtain⟨cap,lo,ct⟩:=A.ct;have ar:=lT (R:=R) (N:=N) (i:=t+1) (cap:=cap) (lo:=lo) (by omega);have ba:decide (((t+1:Nat):Int)<=(N:Int))=true:=bu (by omega);have al:IntKind.i64.wrap (((t+1:Nat):Int)+1)=((t+1+1:Nat):Int):=cL (by omega);have ae:=A.kj (t+1) 0 (by omega) (by omega);rw[A.lX t Qp,Nat.add_zero] at ae
  have step:us t=true->bq (r8 C lf r av) (f+1) (some (.ptr R.rt 0),some (I mo),some (I uid),some (I gid),some (I ((t+1:Nat):Int))) h=
   bq (r8 C lf r av) f (some (.ptr R.rt 0),some (I mo),some (I uid),some (I gid),some (I ((t+1+1:Nat):Int))) h:=by
   intro hu;rw[hu] at ae;rw[dr];show BJ C lf (λx0 x1 x2 x3 x11 h=>bq (r8 C lf r av) f (x0,x1,x2,x3,x11) h) r av (some (.ptr R.rt 0)) (some (I mo)) (some (I uid)) (some (I gid)) (some (I ((t+1:Nat):Int))) h=_;unfold BJ;simp only[aE,A.a2,ba,ct,ar,Nat.add_zero,ae,Bool.not_true,al]
  refine⟨λfP=>?_,λi h1 h2 hu vZ=>?_⟩
  ·rw[step (fP t (Nat.le_refl _) Qp)];exact D4 λj aa hs=>fP j (by omega) hs
  ·by_cases e:i=t
   ·subst e;rw[hu] at ae
    have Dn:hZ aw 78 [0,2,3,6,7,8,9] [I ((i+1:Nat):Int),I uid,I gid,I mo,I now,I now,I now]=
     some (.agg [I ((i+1:Nat):Int),I 0,I uid,I gid,I 0,I 0,I mo,I now,I now,I now]):=by kernel_rfl
    have jZ:hZ aw 156 [0,1] [.bool true,.agg [I ((i+1:Nat):Int),I 0,I uid,I gid,I 0,I 0,I mo,I now,I now,I now]]=
     some (.agg (e2 (mh ((i+1:Nat):Int) uid gid mo now))):=by kernel_rfl
    have dv:=agX A Qp (g:=mh ((i+1:Nat):Int) uid gid mo now) (by kernel_rfl);rw[dr];unfold r8 BJ;simp only[aE,A.a2,A.cr,ba,ct,ar,Nat.add_zero,ae,Bool.not_false,al,Dn,jZ,dv]
   ·rw[step (vZ t (Nat.le_refl _) (by omega))];exact D5 i (by omega) h2 hu λj aa hs=>vZ j (by omega) hs
def Gj(C:ad):Prop:=∀h R n N on q b now us rd (mo uid gid:Int),bJ h R n N on q b now us rd-> -9223372036854775808<=mo->mo<9223372036854775808->
 (lC mo uid gid->C (.fn 97) [.ptr R.rt 0,I mo,I uid,I gid] h=some (.ret (.bm [I 0,I 22]),h))/\
 (¬lC mo uid gid->(∀j,j<N->us j=true)->C (.fn 97) [.ptr R.rt 0,I mo,I uid,I gid] h=some (.ret (.bm [I 0,I 28]),h))/\
 (¬lC mo uid gid->∀i,i<N->us i=false->(∀j,j<i->us j=true)->∃h',C (.fn 97) [.ptr R.rt 0,I mo,I uid,I gid] h=some (.ret (.bm [I ((i+1:Nat):Int),I 0]),h')/\
   bJ h' R n N on q b now (de us i true) (iw rd (i+1) (mh ((i+1:Nat):Int) uid gid mo now))/\h'.next=h.next/\aG h h' (· =R.bw))
theorem agQ{a c:J}:xR (some a) (some c) h=some (.ret (.bm [a,c]),h):=e1 rfl
theorem azH{C:ad}{lf:Nat}{r:aU}{x0 x1 x2 x3:O}{h:U}:Wl C lf r x0 x1 x2 x3 h=KW C lf (λx0 x1 x2 x3 aX h=>KV C lf r x0 x1 x2 x3 aX h) x0 x1 x2 x3 h:=rfl
theorem agD{C:ad}{lf:Nat}{r:aU}{x0 x1 x2 x3:O}{h:U}:Fa C lf r x0 x1 x2 x3 h=bq (r8 C lf r (λh=>KU C lf r h)) lf (x0,x1,x2,x3,some (I 1)) h:=rfl
theorem azI{C:ad}(Cd:Ce C)(hP: -9223372036854775808<=mo)(e0:mo<9223372036854775808){R:eS}:
 (lC mo uid gid->vT C lf (.ptr R.rt 0) (I mo) (I uid) (I gid) h=some (.ret (.bm [I 0,I 22]),h))/\
 (¬lC mo uid gid->vT C lf (.ptr R.rt 0) (I mo) (I uid) (I gid) h=Fa C lf xR (some (.ptr R.rt 0)) (some (I mo)) (some (I uid)) (some (I gid)) h):=by
 have ag:=aqD hP e0;have ai:=Cd h mo;obtain⟨j5,hm⟩:∃j5,IntKind.i64.wrap ((BitVec.ofInt 64 mo&&& BitVec.ofInt 64 65535).toNat:Int)=j5:=⟨_,rfl⟩;rw[hm] at ag;have hand:∀t,bin aw .and t (I mo) (I 65535)=some (I j5):=λt=>by rw[Cr,hm]
 clear hm;unfold vT;rw[azH];unfold KW;simp only[aE,ai];unfold KV Wk;generalize a0:Fa C lf xR (some (.ptr R.rt 0)) (some (I mo)) (some (I uid)) (some (I gid)) h=Q;simp only[aE,hand,a0];unfold lC;rw[<- ag];by_cases aj:mo=j5
 ·subst aj
  by_cases ak:mo<0<;>by_cases aD:lg mo=32768<;>by_cases a7:lg mo=16384<;>by_cases cw:lg mo=40960<;>by_cases dB:uid<0<;>by_cases dU:gid<0<;>
   simp[ak,aD,a7,cw,dB,dU,a0,agQ,iH,aE,hand]
 ·by_cases aD:lg mo=32768<;>by_cases a7:lg mo=16384<;>by_cases cw:lg mo=40960<;>simp[aj,aD,a7,cw,a0,agQ,iH,aE,hand]
theorem azF{C:ad}(gu:4097<=lf)(Cd:Ce C)(hP: -9223372036854775808<=mo)(e0:mo<9223372036854775808)(A:bJ h R n N on q b now us rd):
 (lC mo uid gid->vT C lf (.ptr R.rt 0) (I mo) (I uid) (I gid) h=some (.ret (.bm [I 0,I 22]),h))/\
 (¬lC mo uid gid->(∀j,j<N->us j=true)->vT C lf (.ptr R.rt 0) (I mo) (I uid) (I gid) h=some (.ret (.bm [I 0,I 28]),h))/\
 (¬lC mo uid gid->∀i,i<N->us i=false->(∀j,j<i->us j=true)->∃h',vT C lf (.ptr R.rt 0) (I mo) (I uid) (I gid) h=some (.ret (.bm [I ((i+1:Nat):Int),I 0]),h')/\
   bJ h' R n N on q b now (de us i true) (iw rd (i+1) (mh ((i+1:Nat):Int) uid gid mo now))/\h'.next=h.next/\aG h h' (· =R.bw)):=by
 have jK:=A.gN;obtain⟨bT,cm⟩:=azI (lf:=lf) (mo:=mo) (uid:=uid) (gid:=gid) (h:=h) Cd hP e0 (R:=R);obtain⟨cb,cV⟩:=azE (lf:=lf) (mo:=mo) (uid:=uid) (gid:=gid) (C:=C) xR (λh=>KU C lf xR h) A N 0 (by omega) lf (by omega);have az:((0+1:Nat):Int)=1:=rfl;rw[az] at cb cV;refine⟨bT,λbd fP=>?_,λbd i hi hu ag=>⟨_,?_,A.setRow hi rfl,eb ..,fa rfl⟩⟩
 ·rw[cm bd,agD,cb λj _ aa=>fP j aa];rfl
 ·rw[cm bd,agD,cV i (Nat.zero_le _) hi hu λj _ aa=>ag j aa];rfl
end
theorem aAH{C:ad}{lf:Nat}{r:aU}{x0 x1 x2 x3:O}{h:U}:VR C lf r x0 x1 x2 x3 h=KK C lf (λx0 x1 x2 x3 h=>KJ C lf r x0 x1 x2 x3 h) r x0 x1 x2 x3 h:=rfl
theorem aAI{C:ad}{lf:Nat}{r:aU}{x0 x1 x2 x3:O}{h:U}:VP C lf r x0 x1 x2 x3 h=KI C lf r x0 x1 x2 x3 (some (.val (.slice none 0 0))) h:=rfl
theorem aAJ{C:ad}{lf:Nat}{fc:dy}{x0 x1 x3 aX x11 bW ey:O}{h:U}:agf C lf fc x0 x1 x3 aX x11 bW ey h=VH C lf fc x0 x1 x3 aX x11 bW ey (some (.int .u8 0)) h:=rfl
structure vl (h0 h:U) (x:J) (l:List Nat):Prop where
 aZ:hH h 5 1 x l.length (jk l)
 new:∀j,rowOf x=some j->h0.next<=j
 lt:∀c∈l,c<256
theorem vl.bytes{h0 h:U}{x:J}{l:List Nat}(S:vl h0 h x l):Bytes h x l:=by
 refine⟨S.lt,?_⟩;rcases S.aZ.2 with⟨e,av⟩|⟨k,e,A⟩
 ·exact .inl ⟨by rw[e];exact .inl rfl,List.eq_nil_of_length_eq_zero av⟩
 ·obtain⟨m,hm,_⟩:=A.mt;refine .inr ⟨k,0,none,0,m,e,hm,λj aa=>?_⟩;rw[Nat.zero_add,A.cs j (by omega),Lr l aa]
section
variable{lf:Nat}{h h0:U}{R:eS}{n N:Nat}{on:Nat->Bool}{q:Nat->Option Nat}{b:Nat->Nat}{now:Int}{us:Nat->Bool}{rd:Nat->Nat->J}{bl:Nat->Nat->Nat}{i:Nat}{ino:Int}
theorem akO(ag:∀j,b j<256)(p:Nat):pr bl b i p<256:=by
 unfold pr;split
 ·omega
 ·exact ag _
theorem aAK{C:ad}(A:bJ h R n N on q b now us rd)(M:di N rd bl)(K:hS n N on bl)(hi:i<N){x3 x11:O}{off t:Nat}{x:J}(aC:off+t<17792)(B:vl h0 h x (nH bl b i off t))(lM:h0.next<=h.next)(fc:dy):
 ∃bF h',VI C lf fc (some (.ptr R.rt 0)) (some (I ((i+1:Nat):Int))) x3 (some x) x11 (some (I ((off+t:Nat):Int))) h=
   fc (some (.ptr R.rt 0)) (some (I ((i+1:Nat):Int))) x3 (some bF) x11 (some (I ((off+(t+1):Nat):Int))) h'/\
  vl h0 h' bF (nH bl b i off (t+1))/\h0.next<=h'.next/\(aG h0 h (λ_=>False)->aG h0 h' (λ_=>False)):=by
 have gb:n<=4096:=A.ref.v.choose_spec.choose_spec.2.2.cA;have PH:∀j,b j<256:=A.ref.v.choose_spec.choose_spec.2.2.blt;obtain⟨cap,lo,ct⟩:=A.ct;have ar:=lT (R:=R) (N:=N) (i:=i+1) (cap:=cap) (lo:=lo) (by omega);have ai:(off+t)/64<278:=by omega
 have b7:=tN (R:=R) (i:=i) (k:=(off+t)/64) (m:=278) (o:=12) ai;have eL:=mS A M hi (c:=12+(off+t)/64) (by omega) (by omega);rw[qZ ai] at eL
 have a0:IntKind.i64.wrap (((off+t:Nat):Int).tdiv 64)=(((off+t)/64:Nat):Int):=by
  rw[Int.tdiv_eq_ediv_of_nonneg (by omega),wrap_i64 (by omega) (by omega)];rfl
 have aI:((off+t:Nat):Int).tmod 64=(((off+t)%64:Nat):Int):=by
  rw[Int.tmod_eq_emod_of_nonneg (by omega)];rfl
 have dC:IntKind.i64.wrap (((off+t:Nat):Int)+1)=((off+(t+1):Nat):Int):=cL (by omega);have Xz:=B.aZ;rw[G8] at Xz;obtain⟨bF,h',ak,aD,a7,cw,dB,dU,gg,ie⟩:=uo (h:=h) (y:= .int .u8 ((pr bl b i (off+t):Nat):Int)) aj4 rfl rfl rfl Xz (by omega) (by omega);refine⟨bF,h',?_,⟨?_,λj aa=>?_,λc ae=>?_⟩,Nat.le_trans lM cw,λF=>⟨dB.trans F.aK,Nat.le_trans F.next cw,λj aa _=>(dU j (Nat.lt_of_lt_of_le aa F.next) (λaI=>absurd (B.new j aI) (by omega))).trans (F.same j aa (λe=>e)),λan=>ie (F.dA an)⟩⟩
 ·unfold VI agi agh;simp only[aE,ct,lD (show(64:Int)≠0 by omega),a0,ar,b7,eL];rw[aAJ];unfold VH age;by_cases hv:0<bl i (a4 ((off+t)/64))
  ·have d1:decide ((0:Int)<(bl i (a4 ((off+t)/64)):Int))=true:=bu (by omega);have hle:=K.le i _ hi qX (sg ai);have jv:=BO K gb hi qX (sg ai) hv
   have ag:pr bl b i (off+t)=b ((bl i (a4 ((off+t)/64))-1)*64+(off+t)%64):=by
    unfold pr;rw[if_neg (by omega)]
   rw[ag] at ak aD;obtain⟨x1,xr,my,bT,cm,fe,nj,y8⟩:=A.ann (j:=bl i (a4 ((off+t)/64))-1) (p:=(off+t)%64) (by omega) (K.on i _ hi qX (sg ai) hv) (by omega);simp only[aE,d1,bT,jv,cm,fe,h6 (show(64:Int)≠0 by omega),aI,nj,y8];unfold VG;simp only[ch,cd,rF,ak,aD];unfold VN;simp only[ch,cd,rH,dC]
  ·have d1:decide ((0:Int)<(bl i (a4 ((off+t)/64)):Int))=false:=br (by omega)
   have ag:pr bl b i (off+t)=0:=by
    unfold pr;rw[if_pos (by omega)]
   rw[ag] at ak aD;have av:((0:Nat):Int)=0:=rfl;rw[av] at ak aD;simp only[aE,d1];unfold VG;simp only[ch,cd,rF,ak,aD];unfold VN;simp only[ch,cd,rH,dC]
 ·rw[Zf];have az:jk (nH bl b i off t++[pr bl b i (off+t)])=jk (nH bl b i off t)++[.int .u8 ((pr bl b i (off+t):Nat):Int)]:=by simp[jk]
  rw[az,List.length_append,G8];exact a7
 ·rcases gg j aa with e|e
  ·exact B.new j e
  ·omega
 ·rw[Zf] at ae;rcases List.mem_append.1 ae with e|e
  ·exact B.lt c e
  ·rw[List.mem_singleton.1 e];exact akO PH _
theorem agW{C:ad}{off sz m:Nat}(dR:sz<=17792)(A:bJ h0 R n N on q b now us rd)(M:di N rd bl)(K:hS n N on bl)(hi:i<N)(av:ay):∀(d t:Nat),t+d=min m (sz-off)->∀f,d<f->∀h x,vl h0 h x (nH bl b i off t)->aG h0 h (λ_=>False)->
 ∃bF h',bq (yP C lf av) f (some (.ptr R.rt 0),some (I ((i+1:Nat):Int)),some (I (m:Int)),some x,some (I (sz:Int)),some (I ((off+t:Nat):Int))) h=av (some bF) h'/\
  vl h0 h' bF (nH bl b i off (min m (sz-off)))/\aG h0 h' (λ_=>False)
 |0,t,aN,f,an,h,x,B,F=>by
  obtain⟨f,rfl⟩:=dK f (by omega);have aL:=qQ (P:=aw) Tryd.underlying24 B.bytes;rw[G8] at aL;have amC:t=min m (sz-off):=by omega
  refine⟨x,h,?_,by rw[<- amC];exact B,F⟩;rw[dr];unfold yP E4 VJ;by_cases h1:off+t<sz
  ·have d1:decide (((off+t:Nat):Int)<(sz:Int))=true:=bu (by omega);have d2:decide ((t:Int)<(m:Int))=false:=br (by omega);simp only[aE,d1,aL,d2]
  ·have d1:decide (((off+t:Nat):Int)<(sz:Int))=false:=br (by omega);simp only[aE,d1,iH]
 |d+1,t,aN,f,an,h,x,B,F=>by
  obtain⟨f,rfl⟩:=dK f (by omega);have aL:=qQ (P:=aw) Tryd.underlying24 B.bytes;rw[G8] at aL;have d1:decide (((off+t:Nat):Int)<(sz:Int))=true:=bu (by omega);have d2:decide ((t:Int)<(m:Int))=true:=bu (by omega);have iy:=A.hK F λ_ _ e=>e
  obtain⟨x1,h1,s1,jm,cH,aM⟩:=aAK (C:=C) (lf:=lf) (x3:=some (I (m:Int))) (x11:=some (I (sz:Int))) iy M K hi (off:=off) (t:=t) (by omega) B F.next (λx0 x1 x3 aX x11 bW h=>bq (yP C lf av) f (x0,x1,x3,aX,x11,bW) h)
  obtain⟨x2,h2,s2,e5,bD⟩:=agW (off:=off) (sz:=sz) (m:=m) dR A M K hi av d (t+1) (by omega) f (by omega) h1 x1 jm (aM F);refine⟨x2,h2,?_,e5,bD⟩;rw[dr];show E4 C lf (λx0 x1 x3 aX x11 bW h=>bq (yP C lf av) f (x0,x1,x3,aX,x11,bW) h) av _ _ _ _ _ _ h=_;unfold E4 VJ;simp only[aE,d1,aL,d2];rw[s1];exact s2
def xt(C:ad):Prop:=∀h R n N on q b now us rd bl (ino off m:Int),bJ h R n N on q b now us rd->di N rd bl->hS n N on bl->off<9223372036854775808->m<9223372036854775808->
 (c8 N us ino=false->C (.fn 88) [.ptr R.rt 0,I ino,I off,I m] h=some (.ret (.bm [.val (.slice none 0 0),I 2]),h))/\
 (∀i (sz:Nat),ic N us ino i->rd (i+1) 5=I (sz:Int)->sz<=17792->
   ((off<0\/m<0)->C (.fn 88) [.ptr R.rt 0,I ino,I off,I m] h=some (.ret (.bm [.val (.slice none 0 0),I 22]),h))/\
   (0<=off->0<=m->∃x h',C (.fn 88) [.ptr R.rt 0,I ino,I off,I m] h=some (.ret (.bm [x,I 0]),h')/\
     vl h h' x (nH bl b i off.toNat (min m.toNat (sz-off.toNat)))/\aG h h' (λ_=>False)))
theorem aAT{C:ad}(gu:20000<=lf)(hG:pe C){off m:Int}(A:bJ h R n N on q b now us rd)(M:di N rd bl)(K:hS n N on bl)(df:off<9223372036854775808)(e0:m<9223372036854775808):
 (c8 N us ino=false->Aw C lf (.ptr R.rt 0) (I ino) (I off) (I m) h=some (.ret (.bm [.val (.slice none 0 0),I 2]),h))/\
 (∀i (sz:Nat),ic N us ino i->rd (i+1) 5=I (sz:Int)->sz<=17792->
   ((off<0\/m<0)->Aw C lf (.ptr R.rt 0) (I ino) (I off) (I m) h=some (.ret (.bm [.val (.slice none 0 0),I 22]),h))/\
   (0<=off->0<=m->∃x h',Aw C lf (.ptr R.rt 0) (I ino) (I off) (I m) h=some (.ret (.bm [x,I 0]),h')/\
     vl h h' x (nH bl b i off.toNat (min m.toNat (sz-off.toNat)))/\aG h h' (λ_=>False))):=by
 have dH:=hG h R n N on q b now us rd ino A;obtain⟨cap,lo,ct⟩:=A.ct;unfold Aw;rw[aAH];unfold KK;refine⟨λag=>?_,λi sz bV dR rZ=>?_⟩
 ·rw[ag] at dH;unfold Am;simp only[aE,dH,Bool.not_false]
 ·rw[bV.yes] at dH;obtain⟨hi,hu,rfl⟩:=bV;simp only[aE,dH,Bool.not_true];unfold KJ VQ;refine⟨λh1=>?_,λh1 h2=>?_⟩
  ·unfold Am;by_cases h3:off<0
   ·simp only[aE,bu h3,iH]
   ·have aW:m<0:=by omega
    simp only[aE,br h3,bu aW]
  ·obtain⟨o,rfl⟩:∃o:Nat,off=o:=⟨off.toNat,by omega⟩;obtain⟨m,rfl⟩:∃o:Nat,m=o:=⟨m.toNat,by omega⟩;have d1:decide ((o:Int)<0)=false:=br (by omega);have d2:decide ((m:Int)<0)=false:=br (by omega);have ar:=lT (R:=R) (N:=N) (i:=i+1) (cap:=cap) (lo:=lo) (by omega);have mI:=A.kj (i+1) 5 (by omega) (by omega);rw[dR] at mI;have iE:(i+1)*308+1+4=(i+1)*308+5:=rfl;obtain⟨bF,h',s1,jm,aM⟩:=agW (C:=C) (lf:=lf) (off:=o) (m:=m) rZ A M K hi (λaX h=>KH C lf Am aX h) (min m (sz-o)) 0 (by omega) lf (by omega) h (.val (.slice none 0 0)) ⟨hH.nil _ _ _,λj aa=>(by cases aa),λc ae=>(by cases ae)⟩ (aG.refl _ _);simp only[Nat.add_zero] at s1;simp only[Int.toNat_natCast];refine⟨bF,h',?_,jm,aM⟩;simp only[aE,d1,d2];rw[aAI];unfold KI VO;simp only[aE,ct,ar,iE,mI];unfold VM VL VK;simp only[ch,cd];rw[s1];unfold KH Am;simp only[ch,cd]
end
section
open Classical
theorem amV{W W':Nat->Bool}{a:Nat}(h1:12<=a)(h2:a<308)(oE:∀c,W c=true->c<a)(uF:∀c,W' c=true↔(W c=true\/c=a)):(List.range' 12 296).filter W'=(List.range' 12 296).filter W++[a]:=by
 have e:List.range' 12 296=List.range' 12 (a-12)++a::List.range' (a+1) (307-a):=by
  have az:=List.range'_append (s:=12) (m:=a-12) (n:=307-a+1) (step:=1);rw[show 12+1*(a-12)=a by omega,show a-12+(307-a+1)=296 by omega,List.range'_succ] at az;exact az.symm
 have Dl:W' a=true:=(uF a).2 (.inr rfl)
 have b1:W a=false:=by
  cases hw:W a with
  |false=>rfl
  |true=>exact absurd (oE a hw) (Nat.lt_irrefl _)
 have aI:∀V:Nat->Bool,(∀c,V c=true->c<=a)->(List.range' (a+1) (307-a)).filter V=[]:=λV AE=>by
  rw[List.filter_eq_nil_iff];intro c ae hv
  have:=AE c hv
  rw[List.mem_range'_1] at ae;omega
 have aL:(List.range' 12 (a-12)).filter W'=(List.range' 12 (a-12)).filter W:=List.filter_congr λc ae=>by
  rw[List.mem_range'_1] at ae;rw[Bool.eq_iff_iff,uF];exact⟨λx=>x.elim id λx=>by omega,.inl⟩
 rw[e,List.filter_append,List.filter_append,List.filter_cons,List.filter_cons,b1,Dl,aL,aI W (λc h=>Nat.le_of_lt (oE c h)),aI W' (λc h=>by
  rcases(uF c).1 h with h|h
  ·exact Nat.le_of_lt (oE c h)
  ·exact Nat.le_of_eq h)]
 simp
def ku(f:Nat->Nat)(W:Nat->Bool):List Nat:=((List.range' 12 296).filter W).map λc=>f c-1
theorem Rq{f:Nat->Nat}{W W':Nat->Bool}{a:Nat}(h1:12<=a)(h2:a<308)(oE:∀c,W c=true->c<a)(uF:∀c,W' c=true↔(W c=true\/c=a)):ku f W'=ku f W++[f a-1]:=by
 unfold ku;rw[amV h1 h2 oE uF,List.map_append];rfl
theorem En{f:Nat->Nat}{W W':Nat->Bool}(h:∀c,12<=c->c<308->(W' c=true↔W c=true)):ku f W'=ku f W:=by
 unfold ku
 have e:(List.range' 12 296).filter W'=(List.range' 12 296).filter W:=List.filter_congr λc ae=>by
  rw[List.mem_range'_1] at ae;exact Bool.eq_iff_iff.2 (h c ae.1 (by omega))
 rw[e]
theorem aeY(bl:Nat->Nat->Nat)(i:Nat):lj bl i=ku (bl i) (λc=>decide (0<bl i c)):=by
 unfold lj hY e3 ku;rw[List.range'_eq_map_range,List.filter_map,List.filter_map,List.map_map,List.map_map];rfl
def WP(f:Nat->Nat)(p c:Nat):Prop:=(∃k,k<p/\c=a4 k/\0<f (a4 k))\/(∃k,k<p/\6<=k/\c=dt ((k-6)/16)/\0<f (a4 k))\/(c=35/\∃k,k<p/\22<=k/\0<f (a4 k))
noncomputable def mw(f:Nat->Nat)(p c:Nat):Bool:=decide (WP f p c)
theorem Ry{k p:Nat}(h:k<p)(aC:p<278):a4 k<a4 p:=by
 unfold a4;split<;>split<;>(try split)<;>(try split)<;>omega
theorem Pl{k:Nat}(bB:6<=k):dt ((k-6)/16)<a4 k:=by
 unfold dt a4;split<;>split<;>(try split)<;>omega
theorem FB{k:Nat}(h:22<=k):35<dt ((k-6)/16)/\dt ((k-6)/16)<a4 k:=by
 refine⟨?_,Pl (by omega)⟩;unfold dt;rw[if_neg (by omega)];omega
section
variable{f:Nat->Nat}{p:Nat}
theorem WP.lt(aC:p<278){c:Nat}(h:WP f p c):c<a4 p:=by
 rcases h with⟨k,a,rfl,_⟩|⟨k,a,dU,rfl,_⟩|⟨rfl,k,a,GP,_⟩
 ·exact Ry a aC
 ·exact Nat.lt_trans (Pl dU) (Ry a aC)
 ·have:=FB GP
  have:=Ry a aC
  omega
theorem WP.skip(h0:f (a4 p)=0){c:Nat}:WP f (p+1) c↔WP f p c:=by
 unfold WP;constructor
 ·rintro (⟨k,a,aD,a7⟩|⟨k,a,dU,aD,a7⟩|⟨e,k,a,aD,a7⟩)
  ·by_cases e:k=p
   ·subst e;omega
   ·exact .inl ⟨k,by omega,aD,a7⟩
  ·by_cases e:k=p
   ·subst e;omega
   ·exact .inr (.inl ⟨k,by omega,dU,aD,a7⟩)
  ·by_cases bg:k=p
   ·subst bg;omega
   ·exact .inr (.inr ⟨e,k,by omega,aD,a7⟩)
 ·rintro (⟨k,a,aD,a7⟩|⟨k,a,dU,aD,a7⟩|⟨e,k,a,aD,a7⟩)
  ·exact .inl ⟨k,by omega,aD,a7⟩
  ·exact .inr (.inl ⟨k,by omega,dU,aD,a7⟩)
  ·exact .inr (.inr ⟨e,k,by omega,aD,a7⟩)
theorem WP.next(h0:0<f (a4 p)){c:Nat}:WP f (p+1) c↔(((WP f p c\/(22<=p/\c=35))\/(6<=p/\c=dt ((p-6)/16)))\/c=a4 p):=by
 unfold WP;constructor
 ·rintro (⟨k,a,aD,a7⟩|⟨k,a,dU,aD,a7⟩|⟨e,k,a,aD,a7⟩)
  ·by_cases e:k=p
   ·subst e;exact .inr aD
   ·exact .inl (.inl (.inl (.inl ⟨k,by omega,aD,a7⟩)))
  ·by_cases e:k=p
   ·subst e;exact .inl (.inr ⟨dU,aD⟩)
   ·exact .inl (.inl (.inl (.inr (.inl ⟨k,by omega,dU,aD,a7⟩))))
  ·by_cases bg:k=p
   ·subst bg;exact .inl (.inl (.inr ⟨aD,e⟩))
   ·exact .inl (.inl (.inl (.inr (.inr ⟨e,k,by omega,aD,a7⟩))))
 ·rintro ((((⟨k,a,aD,a7⟩|⟨k,a,dU,aD,a7⟩|⟨e,k,a,aD,a7⟩)|⟨a,e⟩)|⟨a,e⟩)|e)
  ·exact .inl ⟨k,by omega,aD,a7⟩
  ·exact .inr (.inl ⟨k,by omega,dU,aD,a7⟩)
  ·exact .inr (.inr ⟨e,k,by omega,aD,a7⟩)
  ·exact .inr (.inr ⟨e,p,by omega,a,h0⟩)
  ·exact .inr (.inl ⟨p,by omega,a,e,h0⟩)
  ·exact .inl ⟨p,by omega,e,h0⟩
theorem WP.aC4(aO:∀k,k<p->22<=k->f (a4 k)=0){c:Nat}(h:WP f p c):c<35:=by
 rcases h with⟨k,a,rfl,h⟩|⟨k,a,dU,rfl,h⟩|⟨rfl,k,a,GP,h⟩
 ·have:k<22:=by
   by_cases e:22<=k
   ·have:=aO k a e;omega
   ·omega
  unfold a4;split
  ·omega
  ·first|omega|(rw[if_pos this];omega)
 ·have:k<22:=by
   by_cases e:22<=k
   ·have:=aO k a e;omega
   ·omega
  unfold dt;rw[if_pos (by omega)];omega
 ·have:=aO k a GP;omega
theorem WP.anz(bB:6<=p)(aC:p<278)(aO:∀k,k<p->6<=k->(k-6)/16=(p-6)/16->f (a4 k)=0){c:Nat}(h:WP f p c\/(22<=p/\c=35)):c<dt ((p-6)/16):=by
 rcases h with(⟨k,a,rfl,h⟩|⟨k,a,dU,rfl,h⟩|⟨rfl,k,a,GP,h⟩)|⟨a,rfl⟩
 ·have ai:k<6+16*((p-6)/16):=by
   by_cases e:6<=k
   ·by_cases aA:(k-6)/16=(p-6)/16
    ·have:=aO k a e aA;omega
    ·omega
   ·omega
  unfold dt a4;split<;>split<;>(try split)<;>omega
 ·have ai:(k-6)/16<(p-6)/16:=by
   by_cases aA:(k-6)/16=(p-6)/16
   ·have:=aO k a dU aA;omega
   ·omega
  unfold dt;split<;>split<;>omega
 ·exact(FB (by omega:22<=p)).1
 ·exact(FB a).1
theorem WP.all{bl:Nat->Nat->Nat}{i:Nat}(S:kW bl i){c:Nat}(h1:12<=c)(h2:c<308):WP (bl i) 278 c↔0<bl i c:=by
 have ck:∀g,g<17->(hole bl i (dt g)=false↔∃k,k<278/\6<=k/\g=(k-6)/16/\0<bl i (a4 k)):=λg bd=>by
  rw[Bool.eq_false_iff,Ne,oL];constructor
  ·intro h;obtain⟨j,aa⟩:=Classical.not_forall.1 h;obtain⟨AY,D7⟩:=Classical.not_imp.1 aa;exact⟨6+g*16+j,by omega,by omega,by omega,by rw[Ip AY];omega⟩
  ·rintro ⟨k,ak,aD,a7,cw⟩ h
   have e:k=6+g*16+(k-6)%16:=by omega
   have:=h ((k-6)%16) (by omega)
   rw[<- Ip (by omega), <- e] at this;omega
 have al:∀g,g<17->(0<bl i (dt g)↔hole bl i (dt g)=false):=λg bd=>by
  unfold dt;by_cases e:g=0
  ·rw[if_pos e]
   have:=S.one
   cases ag:hole bl i 18<;>simp[ag] at this⊢ <;>omega
  ·rw[if_neg e]
   have:=S.xU (g-1) (by omega)
   cases ag:hole bl i (36+17*(g-1))<;>simp[ag] at this⊢ <;>omega
 unfold WP;constructor
 ·rintro (⟨k,a,e,a7⟩|⟨k,a,dU,e,a7⟩|⟨e,k,a,aD,a7⟩)
  ·rw[e];exact a7
  ·rw[e];exact(al _ (by omega)).2 ((ck _ (by omega)).2 ⟨k,a,dU,rfl,a7⟩)
  ·rw[e];have h3:0<bl i (dt ((k-6)/16)):=(al _ (by omega)).2 ((ck _ (by omega)).2 ⟨k,a,by omega,rfl,a7⟩);have aA:dt ((k-6)/16)=36+17*((k-6)/16-1):=if_neg (by omega);rw[aA] at h3;by_cases aW:bl i 35=0
   ·have:=S.two.1 aW ((k-6)/16-1) (by omega);omega
   ·omega
 ·intro h
  have ind:∀g,g<17->c=dt g->∃k,k<278/\6<=k/\c=dt ((k-6)/16)/\0<bl i (a4 k):=λg bd e=>by
   rw[e] at h;obtain⟨k,ak,aD,a7,cw⟩:=(ck g bd).1 ((al g bd).1 h);exact⟨k,ak,aD,by rw[<- a7];exact e,cw⟩
  by_cases ej:c<18
  ·have e:c=a4 (c-12):=by unfold a4;rw[if_pos (by omega)];omega
   exact .inl ⟨c-12,by omega,e,by rw[<- e];exact h⟩
  ·by_cases fV:c=18
   ·exact .inr (.inl (ind 0 (by omega) fV))
   ·by_cases nk:c<35
    ·have e:c=a4 (c-13):=by unfold a4;rw[if_neg (by omega),if_pos (by omega)];omega
     exact .inl ⟨c-13,by omega,e,by rw[<- e];exact h⟩
    ·by_cases BA:c=35
     ·refine .inr (.inr ⟨BA,?_⟩);rw[BA] at h;by_cases bz:∃t,t<16/\0<bl i (36+17*t)
      ·obtain⟨t,t1,t2⟩:=bz;have aA:dt (t+1)=36+17*t:=by unfold dt;rw[if_neg (by omega),Nat.add_sub_cancel]
       rw[<- aA] at t2;obtain⟨k,ak,aD,a7,cw⟩:=(ck _ (by omega)).1 ((al _ (by omega)).1 t2);exact⟨k,ak,by omega,cw⟩
      ·have:=S.two.2 λt aN=>by
        by_cases bB:0<bl i (36+17*t)
        ·exact absurd ⟨t,aN,bB⟩ bz
        ·omega
       omega
     ·by_cases aFD:(c-36)%17=0
      ·refine .inr (.inl (ind ((c-36)/17+1) (by omega) ?_));unfold dt;rw[if_neg (by omega)];omega
      ·have e:c=a4 (22+16*((c-36)/17)+((c-36)%17-1)):=by
        unfold a4;rw[if_neg (by omega),if_neg (by omega)];omega
       exact .inl ⟨_,by omega,e,by rw[<- e];exact h⟩
end
end
noncomputable section
variable{C:ad}{lf:Nat}{bb a5 eB fl jM kK qJ qK qL qM qN qO qG qH qI:hc}{ao:kU}
def aa3:ca aw:=dn 86 Tryd.f86 Tryd.func86 (by kernel_rfl)
noncomputable def OJ(bC eC:O)(h:U):ab:=
 ob bC λa=>ob (fu 10 a h) λa=>ob eC λb=>some (.ret (.bm [a,b]),h)
def Vu(C:ad)(lf:Nat)(r:aU)(x0 x1:O)(h:U):ab:=
 b2 (l1 aw 78 h) λa k=>a2 C 104 x0 x1 k λb k=>gj b (ob (hZ aw 78 [] []) λb=>ob (st 10 a b k) (r (some a) (bG 2))) (dE 4 x0 k λb=>lR 308 b x1 λb=>ob (b6 1 b) λb=>ob (fu 10 b k) λb=>b2 (l1 aw 78 k) λc k=>ob (st 10 c b k) λk=>a2 C 87 x0 x1 k λb k=>df b λb d=>kM 33 b λb=>ob (b6 5 c) λd=>ob (st 1 d b k) λk=>ob (fu 10 c k) λb=>ob (st 10 a b k) (r (some a) (bG 0)))
theorem axB{r:aU}:∀F h,au aa3 C lf [] F h bb (a8 r 4 5) ao=a8 (Vu C lf r) 0 1 F h:=by
 intro F h;kernel_rfl
def Ij(C:ad)(lf:Nat)(aj ak:J)(h:U):ab:=Vu C lf OJ (some aj) (some ak) h
def ab1:cx aw:=hd aa3 Ij (λC lf aj ak h=>cZ (K:=(a8 OJ 4 5)) (by kernel_rfl) (Eq.trans (axB _ h) (by kernel_rfl))) (by kernel_rfl)
def eT:ca aw:=dn 87 Tryd.f87 Tryd.func87 (by kernel_rfl)
noncomputable def CM(bC eC:O)(h:U):ab:=
 ob bC λa=>ob eC λb=>some (.ret (.bm [a,b]),h)
def E2(C:ad)(lf:Nat)(r:aU)(x7:O)(h:U):ab:=
 ob x7 λa=>r (some a) (bG 0) h
theorem ax5{r:aU}:∀F h,au eT C lf [1,1,1,1,1] F h bb (a8 r 4 5) ao=aR (E2 C lf r) 7 F h:=by
 intro F h;kernel_rfl
def tM(C:ad)(lf:Nat)(n:bI)(aF x7 x23:O)(h:U):ab:=
 cC .add 3 x23 (I 1) λa=>n aF x7 (some a) h
theorem ayc{n:bI}:∀F h,au eT C lf [1,1,1,1,0,1,0,0,1,1,1] F h (bE n 6 7 23) a5 (bM 0 eB ao)=bE (tM C lf n) 6 7 23 F h:=by
 intro F h;kernel_rfl
def KC(C:ad)(lf:Nat)(n:bI)(aF x7 aP x23:O)(h:U):ab:=
 ob x7 λa=>ob aF λb=>ob aP λc=>eg 12 b λb=>ob (ev 278 1 b c) λb=>ob (bZ b h) λb=>cl .sub 3 b (I 1) λb=>b2 (ib aw 33 1 [0] [b] h) λb k=>b2 (gk aw .append #[33,33] [a,b] k) λa=>n aF (some a) x23
def VD(C:ad)(lf:Nat)(n:bt)(aF x7 aP x9 aX x23:O)(h:U):ab:=
 ob aX λa=>fY a (ob x7 λa=>ob aF λb=>ob x9 λc=>eg 290 b λb=>ob (ev 17 1 b c) λb=>ob (bZ b h) λb=>cl .sub 3 b (I 1) λb=>b2 (ib aw 33 1 [0] [b] h) λb k=>b2 (gk aw .append #[33,33] [a,b] k) λa=>n aF (some a) aP x23) (n aF x7 aP x23 h)
def KD(C:ad)(lf:Nat)(n:bI)(aF x7 aP x9 aX x23:O)(h:U):ab:=
 VD C lf (KC C lf n) aF x7 aP x9 aX x23 h
theorem ax4{n:bI}:∀F h,au eT C lf [1,1,1,1,0,1,0,0,1,1,0,0,1,1,1,1,1,1,1,1] F h (bE n 6 7 23) a5 (bM 1 fl (bM 0 eB ao))=dY (KD C lf n) 6 7 8 9 10 23 F h:=by
 intro F h;kernel_rfl
def E3(C:ad)(lf:Nat)(n:kb)(e9:dy)(aF x7 aP x9 aX bW x23:O)(h:U):ab:=
 mr .lss 3 bW aP (ob aX λa=>b8 a bW h λb k=>dV (cX true (some a) (cS C 105 [b] k λa k=>some (.ret a,k)) k) λb k=>b8 a x9 k λc k=>b8 a (bin aw .neq 3 b c) k λb k=>b8 a (some b) k λb k=>dQ b aF k λc k=>dQ b bW k λd k=>dQ b (ew c) k λc k=>dQ b (b6 12 c) k λc k=>dQ b (ev 278 1 c d) k λc k=>jr .eql 3 b (bZ c k) (I 0) k λc k=>b8 a (jB b (.bool true) c) k λb k=>hz a b λa=>cC .add 3 bW (I 1) λb=>n aF x7 aP x9 (some a) (some b) x23 k) (e9 aF x7 aP x9 aX x23 h)
theorem ax6{n:kb}{e9:dy}:∀F h,au eT C lf [1,1,1,1,0,1,0,0,1,1,0,0,1,1,1,1,1,1,1,0,1,0,0] F h (og n 6 7 8 9 10 12 23) a5 (bM 4 (dY e9 6 7 8 9 10 23) (bM 1 fl (bM 0 eB ao)))=og (E3 C lf n e9) 6 7 8 9 10 12 23 F h:=by
 intro F h;kernel_rfl
def yN(C:ad)(lf:Nat)(e9:dy)(k:O×O×O×O×O×O×O->U->ab)(s:O×O×O×O×O×O×O)(h:U):ab:=
 E3 C lf (λa b c d g i j=>k (a,b,c,d,g,i,j)) e9 s.1 s.2.1 s.2.2.1 s.2.2.2.1 s.2.2.2.2.1 s.2.2.2.2.2.1 s.2.2.2.2.2.2 h
def agc(C:ad)(lf:Nat)(n:kb)(aF x7 aP x9 aX x23:O)(h:U):ab:=
 n aF x7 aP x9 aX (bG 6) x23 h
theorem ax7{n:kb}:∀F h,au eT C lf [1,1,1,1,0,1,0,0,1,1,0,0,1,1,1,1,1,1,1,0,0] F h (og n 6 7 8 9 10 12 23) a5 (bM 1 fl (bM 0 eB ao))=dY (agc C lf n) 6 7 8 9 10 23 F h:=by
 intro F h;kernel_rfl
def agd(C:ad)(lf:Nat)(n:dy)(aF x7 aP x9 aX x23:O)(h:U):ab:=
 agc C lf (λa b c d g i j=>bq (yN C lf n) lf (a,b,c,d,g,i,j)) aF x7 aP x9 aX x23 h
theorem ax8{n:dy}:∀F h,au eT C lf [1,1,1,1,0,1,0,0,1,1,0,0,1,1,1,1,1,1,1,0] F h (dY n 6 7 8 9 10 23) a5 (bM 1 fl (bM 0 eB ao))=dY (agd C lf n) 6 7 8 9 10 23 F h:=bn (b:=cc eT [1,1,1,1,0,1,0,0,1,1,0,0,1,1,1,1,1,1,1,0,1]) (by kernel_rfl) (gm (id:=4) (a:=cc eT [1,1,1,1,0,1,0,0,1,1,0,0,1,1,1,1,1,1,1,0,1,0]) (by kernel_rfl) (hg (g:=λF=>(F 6,F 7,F 8,F 9,F 10,F 12,F 23)) (body:=yN C lf n) (by kernel_rfl) (λk=>(ax6 (n:=λaF x7 aP x9 aX bW x23 h=>k (aF,x7,aP,x9,aX,bW,x23) h))))) (ax7 (n:=λaF x7 aP x9 aX bW x23 h=>bq (yN C lf n) lf (aF,x7,aP,x9,aX,bW,x23) h))
def VE(C:ad)(lf:Nat)(n:bI)(aF x7 aP x9 aX x23:O)(h:U):ab:=
 agd C lf (KD C lf n) aF x7 aP x9 aX x23 h
theorem ax9{n:bI}:∀F h,au eT C lf [1,1,1,1,0,1,0,0,1,1,0,0,1,1,1,1,1,1,1] F h (bE n 6 7 23) a5 (bM 1 fl (bM 0 eB ao))=dY (VE C lf n) 6 7 8 9 10 23 F h:=bn (by kernel_rfl) ax4 ax8
def VF(C:ad)(lf:Nat)(n:dy)(aF x7 aP x9 x23:O)(h:U):ab:=
 cC .geq 3 x9 (I 0) λa=>n aF x7 aP x9 (some a) x23 h
theorem aya{n:dy}:∀F h,au eT C lf [1,1,1,1,0,1,0,0,1,1,0,0,1,1,1,1,1,1,0] F h (dY n 6 7 8 9 10 23) a5 (bM 1 fl (bM 0 eB ao))=dj (VF C lf n) 6 7 8 9 23 F h:=by
 intro F h;kernel_rfl
def KE(C:ad)(lf:Nat)(n:bI)(aF x7 aP x9 x23:O)(h:U):ab:=
 VF C lf (VE C lf n) aF x7 aP x9 x23 h
theorem ayb{n:bI}:∀F h,au eT C lf [1,1,1,1,0,1,0,0,1,1,0,0,1,1,1,1,1,1] F h (bE n 6 7 23) a5 (bM 1 fl (bM 0 eB ao))=dj (KE C lf n) 6 7 8 9 23 F h:=bn (by kernel_rfl) ax9 aya
def KF(C:ad)(lf:Nat)(n:cY)(aF x7 aP x9 aX x23:O)(h:U):ab:=
 cC .gtr 3 x9 (I 0) λa=>b8 a aX h λb k=>p4 a b (ob x7 λa=>dE 307 aF k λb=>cl .sub 3 b (I 1) λb=>b2 (ib aw 33 1 [0] [b] k) λb k=>b2 (gk aw .append #[33,33] [a,b] k) λa=>n aF (some a) aP x9 x23) (n aF x7 aP x9 x23 k)
theorem ayd{n:cY}:∀F h,au eT C lf [1,1,1,1,0,1,0,0,1,1,0,0,1,1,1,1,1,0] F h (dj n 6 7 8 9 23) a5 (bM 1 fl (bM 0 eB ao))=dY (KF C lf n) 6 7 8 9 10 23 F h:=by
 intro F h;kernel_rfl
def KG(C:ad)(lf:Nat)(n:bI)(aF x7 aP x9 aX x23:O)(h:U):ab:=
 KF C lf (KE C lf n) aF x7 aP x9 aX x23 h
theorem aye{n:bI}:∀F h,au eT C lf [1,1,1,1,0,1,0,0,1,1,0,0,1,1,1,1,1] F h (bE n 6 7 23) a5 (bM 1 fl (bM 0 eB ao))=dY (KG C lf n) 6 7 8 9 10 23 F h:=bn (by kernel_rfl) ayb ayd
def E0(C:ad)(lf:Nat)(n:kb)(aA:dy)(aF x7 aP x9 aX x11 x23:O)(h:U):ab:=
 mr .lss 3 x11 aP (ob aX λa=>b8 a x11 h λb k=>dV (cX true (some a) (cS C 105 [b] k λa k=>some (.ret a,k)) k) λb k=>b8 a (bin aw .lss 3 b (I 1)) k λb k=>b8 a (some b) k λb k=>dQ b aF k λc k=>dQ b x11 k λd k=>dQ b (ew c) k λc k=>dQ b (b6 12 c) k λc k=>dQ b (ev 278 1 c d) k λc k=>jr .eql 3 b (bZ c k) (I 0) k λc k=>b8 a (jB b (.bool true) c) k λb k=>hz a b λa=>cC .add 3 x11 (I 1) λb=>n aF x7 aP x9 (some a) (some b) x23 k) (aA aF x7 aP x9 aX x23 h)
theorem axC{n:kb}{aA:dy}:∀F h,au eT C lf [1,1,1,1,0,1,0,0,1,1,0,0,1,1,1,1,0,1,0,0] F h (og n 6 7 8 9 10 11 23) a5 (bM 2 (dY aA 6 7 8 9 10 23) (bM 1 fl (bM 0 eB ao)))=og (E0 C lf n aA) 6 7 8 9 10 11 23 F h:=by
 intro F h;kernel_rfl
def yO(C:ad)(lf:Nat)(aA:dy)(k:O×O×O×O×O×O×O->U->ab)(s:O×O×O×O×O×O×O)(h:U):ab:=
 E0 C lf (λa b c d g i j=>k (a,b,c,d,g,i,j)) aA s.1 s.2.1 s.2.2.1 s.2.2.2.1 s.2.2.2.2.1 s.2.2.2.2.2.1 s.2.2.2.2.2.2 h
def af1(C:ad)(lf:Nat)(n:kb)(aF x7 aP x9 aX x23:O)(h:U):ab:=
 n aF x7 aP x9 aX (bG 6) x23 h
theorem axD{n:kb}:∀F h,au eT C lf [1,1,1,1,0,1,0,0,1,1,0,0,1,1,1,1,0,0] F h (og n 6 7 8 9 10 11 23) a5 (bM 1 fl (bM 0 eB ao))=dY (af1 C lf n) 6 7 8 9 10 23 F h:=by
 intro F h;kernel_rfl
def af2(C:ad)(lf:Nat)(n:dy)(aF x7 aP x9 aX x23:O)(h:U):ab:=
 af1 C lf (λa b c d g i j=>bq (yO C lf n) lf (a,b,c,d,g,i,j)) aF x7 aP x9 aX x23 h
theorem axE{n:dy}:∀F h,au eT C lf [1,1,1,1,0,1,0,0,1,1,0,0,1,1,1,1,0] F h (dY n 6 7 8 9 10 23) a5 (bM 1 fl (bM 0 eB ao))=dY (af2 C lf n) 6 7 8 9 10 23 F h:=bn (b:=cc eT [1,1,1,1,0,1,0,0,1,1,0,0,1,1,1,1,0,1]) (by kernel_rfl) (gm (id:=2) (a:=cc eT [1,1,1,1,0,1,0,0,1,1,0,0,1,1,1,1,0,1,0]) (by kernel_rfl) (hg (g:=λF=>(F 6,F 7,F 8,F 9,F 10,F 11,F 23)) (body:=yO C lf n) (by kernel_rfl) (λk=>(axC (n:=λaF x7 aP x9 aX x11 x23 h=>k (aF,x7,aP,x9,aX,x11,x23) h))))) (axD (n:=λaF x7 aP x9 aX x11 x23 h=>bq (yO C lf n) lf (aF,x7,aP,x9,aX,x11,x23) h))
def af3(C:ad)(lf:Nat)(n:bI)(aF x7 aP x9 aX x23:O)(h:U):ab:=
 af2 C lf (KG C lf n) aF x7 aP x9 aX x23 h
theorem axF{n:bI}:∀F h,au eT C lf [1,1,1,1,0,1,0,0,1,1,0,0,1,1,1,1] F h (bE n 6 7 23) a5 (bM 1 fl (bM 0 eB ao))=dY (af3 C lf n) 6 7 8 9 10 23 F h:=bn (by kernel_rfl) aye axE
noncomputable def af4(C:ad)(lf:Nat)(n:dy)(aF x7 aP x9 x23:O)(h:U):ab:=
 n aF x7 aP x9 (some (.bool true)) x23 h
theorem axG{n:dy}:∀F h,au eT C lf [1,1,1,1,0,1,0,0,1,1,0,0,1,1,1,0] F h (dY n 6 7 8 9 10 23) a5 (bM 1 fl (bM 0 eB ao))=dj (af4 C lf n) 6 7 8 9 23 F h:=by
 intro F h;kernel_rfl
def Vv(C:ad)(lf:Nat)(n:bI)(aF x7 aP x9 x23:O)(h:U):ab:=
 af4 C lf (af3 C lf n) aF x7 aP x9 x23 h
theorem axH{n:bI}:∀F h,au eT C lf [1,1,1,1,0,1,0,0,1,1,0,0,1,1,1] F h (bE n 6 7 23) a5 (bM 1 fl (bM 0 eB ao))=dj (Vv C lf n) 6 7 8 9 23 F h:=bn (by kernel_rfl) axF axG
def Vw(C:ad)(lf:Nat)(n:cY)(aF x7 aP x23:O)(h:U):ab:=
 aS C 105 aP h λa=>n aF x7 aP (some a) x23
theorem axI{n:cY}:∀F h,au eT C lf [1,1,1,1,0,1,0,0,1,1,0,0,1,1,0] F h (dj n 6 7 8 9 23) a5 (bM 1 fl (bM 0 eB ao))=bp (Vw C lf n) 6 7 8 23 F h:=by
 intro F h;kernel_rfl
def Kv(C:ad)(lf:Nat)(n:bI)(aF x7 aP x23:O)(h:U):ab:=
 Vw C lf (Vv C lf n) aF x7 aP x23 h
theorem axJ{n:bI}:∀F h,au eT C lf [1,1,1,1,0,1,0,0,1,1,0,0,1,1] F h (bE n 6 7 23) a5 (bM 1 fl (bM 0 eB ao))=bp (Kv C lf n) 6 7 8 23 F h:=bn (by kernel_rfl) axH axI
def Kw(C:ad)(lf:Nat)(n:bt)(az:bI)(aF x7 aP x23:O)(h:U):ab:=
 ob aF λa=>ob aP λb=>eg 12 a λa=>ob (ev 278 1 a b) λa=>ob (bZ a h) λa=>eF .eql 3 a (I 0) (az aF x7 x23 h) (n aF x7 aP x23 h)
theorem axK{n:bt}{az:bI}:∀F h,au eT C lf [1,1,1,1,0,1,0,0,1,1,0,0,1,0] F h (bp n 6 7 8 23) a5 (bM 1 (bE az 6 7 23) (bM 0 eB ao))=bp (Kw C lf n az) 6 7 8 23 F h:=by
 intro F h;kernel_rfl
def af5(C:ad)(lf:Nat)(n:bI)(az:bI)(aF x7 aP x23:O)(h:U):ab:=
 Kw C lf (Kv C lf n) az aF x7 aP x23 h
theorem axL{n:bI}{az:bI}:∀F h,au eT C lf [1,1,1,1,0,1,0,0,1,1,0,0,1] F h (bE n 6 7 23) a5 (bM 1 (bE az 6 7 23) (bM 0 eB ao))=bp (af5 C lf n az) 6 7 8 23 F h:=bn (by kernel_rfl) axJ axK
noncomputable def Vx(C:ad)(lf:Nat)(n:bt)(aF x7 x23:O)(h:U):ab:=
 ob x23 λa=>n aF x7 (some a) x23 h
theorem axM{n:bt}:∀F h,au eT C lf [1,1,1,1,0,1,0,0,1,1,0,0,0] F h (bp n 6 7 8 23) a5 (bM 1 fl (bM 0 eB ao))=bE (Vx C lf n) 6 7 23 F h:=by
 intro F h;kernel_rfl
def Vy(C:ad)(lf:Nat)(n:bI)(az:bI)(aF x7 x23:O)(h:U):ab:=
 Vx C lf (af5 C lf n az) aF x7 x23 h
theorem axN{n:bI}{az:bI}:∀F h,au eT C lf [1,1,1,1,0,1,0,0,1,1,0,0] F h (bE n 6 7 23) a5 (bM 1 (bE az 6 7 23) (bM 0 eB ao))=bE (Vy C lf n az) 6 7 23 F h:=bn (by kernel_rfl) axL axM
def Vz(C:ad)(lf:Nat)(n:bI)(aF x7 x23:O)(h:U):ab:=
 Vy C lf (tM C lf n) (tM C lf n) aF x7 x23 h
theorem axO{n:bI}:∀F h,au eT C lf [1,1,1,1,0,1,0,0,1,1] F h (bE n 6 7 23) a5 (bM 0 eB ao)=bE (Vz C lf n) 6 7 23 F h:=bn (a:=cc eT [1,1,1,1,0,1,0,0,1,1,0]) (by kernel_rfl) ayc (gm (id:=1) (by kernel_rfl) axN)
noncomputable def Kx(C:ad)(lf:Nat)(n:bI)(av:ay)(aF x7 x23 p8:O)(h:U):ab:=
 ob p8 λa=>fY a (n aF x7 x23 h) (av x7 h)
theorem axP{n:bI}{av:ay}:∀F h,au eT C lf [1,1,1,1,0,1,0,0,1,0] F h (bE n 6 7 23) a5 (bM 0 (aR av 7) ao)=bp (Kx C lf n av) 6 7 23 24 F h:=by
 intro F h;kernel_rfl
def Ky(C:ad)(lf:Nat)(n:bI)(av:ay)(aF x7 x23 p8:O)(h:U):ab:=
 Kx C lf (Vz C lf n) av aF x7 x23 p8 h
theorem axQ{n:bI}{av:ay}:∀F h,au eT C lf [1,1,1,1,0,1,0,0,1] F h (bE n 6 7 23) a5 (bM 0 (aR av 7) ao)=bp (Ky C lf n av) 6 7 23 24 F h:=bn (by kernel_rfl) axO axP
def Kz(C:ad)(lf:Nat)(n:bt)(aF x7 x23:O)(h:U):ab:=
 cC .lss 3 x23 (I 278) λa=>n aF x7 x23 (some a) h
theorem axR{n:bt}:∀F h,au eT C lf [1,1,1,1,0,1,0,0,0] F h (bp n 6 7 23 24) a5 (bM 0 eB ao)=bE (Kz C lf n) 6 7 23 F h:=by
 intro F h;kernel_rfl
def E1(C:ad)(lf:Nat)(n:bI)(av:ay)(aF x7 x23:O)(h:U):ab:=
 Kz C lf (Ky C lf n av) aF x7 x23 h
theorem axS{n:bI}{av:ay}:∀F h,au eT C lf [1,1,1,1,0,1,0,0] F h (bE n 6 7 23) a5 (bM 0 (aR av 7) ao)=bE (E1 C lf n av) 6 7 23 F h:=bn (by kernel_rfl) axQ axR
def tz(C:ad)(lf:Nat)(av:ay)(k:O×O×O->U->ab)(s:O×O×O)(h:U):ab:=
 E1 C lf (λa b c=>k (a,b,c)) av s.1 s.2.1 s.2.2 h
def af6(C:ad)(lf:Nat)(n:bI)(aF x7:O)(h:U):ab:=
 n aF x7 (bG 0) h
theorem axT{n:bI}:∀F h,au eT C lf [1,1,1,1,0,0] F h (bE n 6 7 23) a5 ao=a8 (af6 C lf n) 6 7 F h:=by
 intro F h;kernel_rfl
def af7(C:ad)(lf:Nat)(n:ay)(aF x7:O)(h:U):ab:=
 af6 C lf (λa b c=>bq (tz C lf n) lf (a,b,c)) aF x7 h
theorem axU{n:ay}:∀F h,au eT C lf [1,1,1,1,0] F h (aR n 7) a5 ao=a8 (af7 C lf n) 6 7 F h:=bn (b:=cc eT [1,1,1,1,0,1]) (by kernel_rfl) (gm (id:=0) (a:=cc eT [1,1,1,1,0,1,0]) (by kernel_rfl) (hg (g:=λF=>(F 6,F 7,F 23)) (body:=tz C lf n) (by kernel_rfl) (λk=>(axS (n:=λaF x7 x23 h=>k (aF,x7,x23) h))))) (axT (n:=λaF x7 x23 h=>bq (tz C lf n) lf (aF,x7,x23) h))
def af8(C:ad)(lf:Nat)(r:aU)(aF x7:O)(h:U):ab:=
 af7 C lf (E2 C lf r) aF x7 h
theorem axV{r:aU}:∀F h,au eT C lf [1,1,1,1] F h bb (a8 r 4 5) ao=a8 (af8 C lf r) 6 7 F h:=bn (by kernel_rfl) ax5 axU
noncomputable def af9(C:ad)(lf:Nat)(n:aU)(aF:O)(h:U):ab:=
 n aF (some (.val (.slice none 0 0))) h
theorem axW{n:aU}:∀F h,au eT C lf [1,1,1,0] F h (a8 n 6 7) a5 ao=aR (af9 C lf n) 6 F h:=by
 intro F h;kernel_rfl
def VA(C:ad)(lf:Nat)(r:aU)(aF:O)(h:U):ab:=
 af9 C lf (af8 C lf r) aF h
theorem axX{r:aU}:∀F h,au eT C lf [1,1,1] F h bb (a8 r 4 5) ao=aR (VA C lf r) 6 F h:=bn (by kernel_rfl) axV axW
def VB(C:ad)(lf:Nat)(n:ay)(x0 x1:O)(h:U):ab:=
 dE 4 x0 h λa=>lR 308 a x1 λa=>n (some a) h
theorem axY{n:ay}:∀F h,au eT C lf [1,1,0] F h (aR n 6) a5 ao=a8 (VB C lf n) 0 1 F h:=by
 intro F h;kernel_rfl
def KA(C:ad)(lf:Nat)(r:aU)(x0 x1:O)(h:U):ab:=
 VB C lf (VA C lf r) x0 x1 h
theorem axZ{r:aU}:∀F h,au eT C lf [1,1] F h bb (a8 r 4 5) ao=a8 (KA C lf r) 0 1 F h:=bn (by kernel_rfl) axX axY
def KB(C:ad)(lf:Nat)(n:aU)(r:aU)(x0 x1:O)(h:U):ab:=
 a2 C 104 x0 x1 h λa k=>gj a (r (some (.val (.slice none 0 0))) (bG 2) k) (n x0 x1 k)
theorem ax0{n:aU}{r:aU}:∀F h,au eT C lf [1,0] F h (a8 n 0 1) (a8 r 4 5) ao=a8 (KB C lf n r) 0 1 F h:=by
 intro F h;kernel_rfl
def aga(C:ad)(lf:Nat)(r:aU)(x0 x1:O)(h:U):ab:=
 KB C lf (KA C lf r) r x0 x1 h
theorem ax1{r:aU}:∀F h,au eT C lf [1] F h bb (a8 r 4 5) ao=a8 (aga C lf r) 0 1 F h:=bn (by kernel_rfl) axZ ax0
noncomputable def agb(C:ad)(lf:Nat)(n:aU)(x0 x1:O)(h:U):ab:=
 n x0 x1 h
theorem ax2{n:aU}:∀F h,au eT C lf [0] F h (a8 n 0 1) a5 ao=a8 (agb C lf n) 0 1 F h:=by
 intro F h;kernel_rfl
def VC(C:ad)(lf:Nat)(r:aU)(x0 x1:O)(h:U):ab:=
 agb C lf (aga C lf r) x0 x1 h
theorem ax3{r:aU}:∀F h,au eT C lf [] F h bb (a8 r 4 5) ao=a8 (VC C lf r) 0 1 F h:=bn (by kernel_rfl) ax1 ax2
def C5(C:ad)(lf:Nat)(aj ak:J)(h:U):ab:=VC C lf CM (some aj) (some ak) h
def ab2:cx aw:=hd eT C5 (λC lf aj ak h=>cZ (K:=(a8 CM 4 5)) (by kernel_rfl) (Eq.trans (ax3 _ h) (by kernel_rfl))) (by kernel_rfl)
end
section
open Classical
theorem aAz{C:ad}{lf:Nat}{fc:bI}{aF x7 aP x9 x23:O}{h:U}:Vv C lf fc aF x7 aP x9 x23 h=bq (yO C lf (λaF x7 aP x9 aX x23 h=>KG C lf fc aF x7 aP x9 aX x23 h)) lf (aF,x7,aP,x9,some (.bool true),some (I 6),x23) h:=rfl
theorem aAA{C:ad}{lf:Nat}{fc:bI}{aF x7 aP x9 aX x23:O}{h:U}:VE C lf fc aF x7 aP x9 aX x23 h=bq (yN C lf (λaF x7 aP x9 aX x23 h=>KD C lf fc aF x7 aP x9 aX x23 h)) lf (aF,x7,aP,x9,aX,some (I 6),x23) h:=rfl
theorem aAB{C:ad}{lf:Nat}{r:aU}{aF:O}{h:U}:VA C lf r aF h=bq (tz C lf (λx7 h=>E2 C lf r x7 h)) lf (aF,some (.val (.slice none 0 0)),some (I 0)) h:=rfl
theorem aAC{C:ad}{lf:Nat}{r:aU}{x0 x1:O}{h:U}:VC C lf r x0 x1 h=KB C lf (λx0 x1 h=>KA C lf r x0 x1 h) r x0 x1 h:=rfl
section
variable{lf:Nat}{h h0:U}{R:eS}{n N:Nat}{on:Nat->Bool}{q:Nat->Option Nat}{b:Nat->Nat}{now:Int}{us:Nat->Bool}{rd:Nat->Nat->J}{bl:Nat->Nat->Nat}{i p:Nat}{ino:Int}
theorem QE{x:J}{l:List Nat}(c7:eN h0 h x l)(F:aG h0 h (λ_=>False))(aL:l.length<=10000)(j:Nat):∃bF h',ib aw 33 1 [0] [I (j:Int)] h=some (.aZ h.next 0 1 (some 1) 0,h.new (dJ 3 [I (j:Int)]))/\
 gk aw .append #[33,33] [x,.aZ h.next 0 1 (some 1) 0] (h.new (dJ 3 [I (j:Int)]))=some (bF,h')/\eN h0 h' bF (l++[j])/\aG h0 h' (λ_=>False):=by
 obtain⟨bF,h',ak,aD,a7,cw,dB,dU,gg,ie⟩:=uo (h:=h) (y:=I (j:Int)) sP rfl rfl rfl c7.aZ (by omega) (by omega);refine⟨bF,h',ak,aD,⟨?_,λk ai=>?_⟩,⟨dB.trans F.aK,Nat.le_trans F.next cw,λk ai _=>(dU k (Nat.lt_of_lt_of_le ai F.next) (λaI=>absurd (c7.new k aI) (by omega))).trans (F.same k ai (λe=>e)),λan=>ie (F.dA an)⟩⟩
 ·have e:ints (l++[j])=ints l++[I (j:Int)]:=by simp[ints]
  rw[e,List.length_append];exact a7
 ·rcases gg k ai with aI|aI
  ·exact c7.new k aI
  ·exact Nat.le_trans F.next aI
theorem Rr(f:Nat->Nat)(W:Nat->Bool):(ku f W).length<=10000:=by
 unfold ku;rw[List.length_map]
 have:=List.length_filter_le W (List.range' 12 296)
 rw[List.length_range'] at this;omega
theorem agT{C:ad}(mX:vr C)(A:bJ h R n N on q b now us rd)(M:di N rd bl)(hi:i<N)(aC:p<278){x7 x9 x23:O}(aA:dy):∀(d t:Nat) (v:Bool),p-t=d->6<=t->(t<=p\/t=6)->(v=true↔∀k,k<t->22<=k->bl i (a4 k)=0)->∀f,d<f->
 bq (yO C lf aA) f (some (.ptr R.bw ((i+1)*308)),x7,some (I (p:Int)),x9,some (.bool v),some (I (t:Int)),x23) h=
  aA (some (.ptr R.bw ((i+1)*308))) x7 (some (I (p:Int))) x9 (some (.bool (decide (∀k,k<p->22<=k->bl i (a4 k)=0)))) x23 h
 |0,t,v,aH,aN,Qo,hv,f,an=>by
  obtain⟨f,rfl⟩:=dK f (by omega);have ba:decide ((t:Int)<(p:Int))=false:=br (by omega)
  have e:decide (∀k,k<p->22<=k->bl i (a4 k)=0)=v:=by
   rw[Bool.eq_iff_iff,decide_eq_true_eq,hv];exact⟨λh k k1 k2=>h k (by omega) k2,λh k k1 k2=>h k (by omega) k2⟩
  rw[dr,e];unfold yO E0;simp only[aE,ba]
 |d+1,t,v,aH,aN,Qo,hv,f,an=>by
  obtain⟨f,rfl⟩:=dK f (by omega);have ba:decide ((t:Int)<(p:Int))=true:=bu (by omega);have dC:IntKind.i64.wrap ((t:Int)+1)=((t+1:Nat):Int):=cL (by omega);have b7:=tN (R:=R) (i:=i) (k:=t) (m:=278) (o:=12) (by omega);have eL:=mS A M hi (c:=12+t) (by omega) (by omega);rw[qZ (by omega)] at eL;have bd:=mX h t (by omega)
  have bc:=agT (C:=C) (x7:=x7) (x9:=x9) (x23:=x23) mX A M hi aC aA d (t+1) (v&&(decide (t<22)||decide (bl i (a4 t)=0))) (by omega) (by omega) (.inl (by omega)) (by
   rw[Bool.and_eq_true,Bool.or_eq_true,decide_eq_true_eq,decide_eq_true_eq,hv];constructor
   ·rintro ⟨h1,h2⟩ k k1 k2
    by_cases e:k=t
    ·subst e;exact h2.resolve_left (by omega)
    ·exact h1 k (by omega) k2
   ·intro h1;refine⟨λk k1 k2=>h1 k (by omega) k2,?_⟩;by_cases e:t<22
    ·exact .inl e
    ·exact .inr (h1 t (by omega) (by omega))) f (by omega)
  rw[dr];show E0 C lf (λaF x7 aP x9 aX x11 x23 h=>bq (yO C lf aA) f (aF,x7,aP,x9,aX,x11,x23) h) aA _ _ _ _ _ _ _ h=_;unfold E0;cases v with
  |false=>
   rw[Bool.false_and] at bc;simp only[aE,ba,dC,iH];exact bc
  |true=>
   rw[Bool.true_and] at bc;by_cases e:t<22
   ·have d1:decide (eo t<1)=true:=bu (by unfold eo;rw[if_neg (by omega)];omega);rw[bu e,Bool.true_or] at bc;simp only[aE,ba,dC,bd,d1,iH];exact bc
   ·have d1:decide (eo t<1)=false:=br (by unfold eo;rw[if_neg (by omega)];omega)
    have d2:decide ((bl i (a4 t):Int)=0)=decide (bl i (a4 t)=0):=by
     rw[Bool.eq_iff_iff,decide_eq_true_eq,decide_eq_true_eq];omega
    rw[br e,Bool.false_or] at bc;simp only[aE,ba,dC,bd,d1,b7,eL,d2];exact bc
theorem agU{C:ad}(mX:vr C)(A:bJ h R n N on q b now us rd)(M:di N rd bl)(hi:i<N)(aC:p<278){x7 x23:O}(aA:dy):∀(d t:Nat) (v:Bool),p-t=d->6<=t->(t<=p\/t=6)->(v=true↔(6<=p/\∀k,k<t->6<=k->(k-6)/16=(p-6)/16->bl i (a4 k)=0))->∀f,d<f->
 bq (yN C lf aA) f (some (.ptr R.bw ((i+1)*308)),x7,some (I (p:Int)),some (I (eo p)),some (.bool v),some (I (t:Int)),x23) h=
  aA (some (.ptr R.bw ((i+1)*308))) x7 (some (I (p:Int))) (some (I (eo p))) (some (.bool (decide (6<=p/\∀k,k<p->6<=k->(k-6)/16=(p-6)/16->bl i (a4 k)=0)))) x23 h
 |0,t,v,aH,aN,Qo,hv,f,an=>by
  obtain⟨f,rfl⟩:=dK f (by omega);have ba:decide ((t:Int)<(p:Int))=false:=br (by omega)
  have e:decide (6<=p/\∀k,k<p->6<=k->(k-6)/16=(p-6)/16->bl i (a4 k)=0)=v:=by
   rw[Bool.eq_iff_iff,decide_eq_true_eq,hv];exact⟨λh=>⟨h.1,λk k1 k2=>h.2 k (by omega) k2⟩,λh=>⟨h.1,λk k1 k2=>h.2 k (by omega) k2⟩⟩
  rw[dr,e];unfold yN E3;simp only[aE,ba]
 |d+1,t,v,aH,aN,Qo,hv,f,an=>by
  obtain⟨f,rfl⟩:=dK f (by omega);have ba:decide ((t:Int)<(p:Int))=true:=bu (by omega);have dC:IntKind.i64.wrap ((t:Int)+1)=((t+1:Nat):Int):=cL (by omega);have b7:=tN (R:=R) (i:=i) (k:=t) (m:=278) (o:=12) (by omega);have eL:=mS A M hi (c:=12+t) (by omega) (by omega);rw[qZ (by omega)] at eL;have bd:=mX h t (by omega)
  have bc:=agU (C:=C) (x7:=x7) (x23:=x23) mX A M hi aC aA d (t+1) (v&&(decide (eo t≠eo p)||decide (bl i (a4 t)=0))) (by omega) (by omega) (.inl (by omega)) (by
   have nJ:eo t≠eo p↔(t-6)/16≠(p-6)/16:=by
    rw[x6 (by omega),x6 (by omega)];omega
   rw[Bool.and_eq_true,Bool.or_eq_true,decide_eq_true_eq,decide_eq_true_eq,hv,nJ];constructor
   ·rintro ⟨⟨h0,h1⟩,h2⟩
    refine⟨h0,λk k1 k2 hx=>?_⟩;by_cases e:k=t
    ·subst e;exact h2.resolve_left (λx=>x hx)
    ·exact h1 k (by omega) k2 hx
   ·rintro ⟨h0,h1⟩
    refine⟨⟨h0,λk k1 k2 hx=>h1 k (by omega) k2 hx⟩,?_⟩;by_cases e:(t-6)/16=(p-6)/16
    ·exact .inr (h1 t (by omega) (by omega) e)
    ·exact .inl e) f (by omega)
  rw[dr];show E3 C lf (λaF x7 aP x9 aX bW x23 h=>bq (yN C lf aA) f (aF,x7,aP,x9,aX,bW,x23) h) aA _ _ _ _ _ _ _ h=_;unfold E3;cases v with
  |false=>
   rw[Bool.false_and] at bc;simp only[aE,ba,dC,iH];exact bc
  |true=>
   rw[Bool.true_and] at bc;by_cases e:eo t=eo p
   ·have d1:decide (eo t≠eo p)=false:=br (λx=>x e)
    have d2:decide ((bl i (a4 t):Int)=0)=decide (bl i (a4 t)=0):=by
     rw[Bool.eq_iff_iff,decide_eq_true_eq,decide_eq_true_eq];omega
    rw[d1,Bool.false_or] at bc;simp only[aE,ba,dC,bd,d1,b7,eL,d2];exact bc
   ·have d1:decide (eo t≠eo p)=true:=bu e;rw[d1,Bool.true_or] at bc;simp only[aE,ba,dC,bd,d1,iH];exact bc
end
end
section
open Classical
section
variable{lf:Nat}{h h0:U}{R:eS}{n N:Nat}{on:Nat->Bool}{q:Nat->Option Nat}{b:Nat->Nat}{now:Int}{us:Nat->Bool}{rd:Nat->Nat->J}{bl:Nat->Nat->Nat}{i p:Nat}{ino:Int}
noncomputable def jG(f:Nat->Nat)(p c:Nat):Bool:=decide (WP f p c\/(22<=p/\c=35))
noncomputable def vA(f:Nat->Nat)(p c:Nat):Bool:=decide ((WP f p c\/(22<=p/\c=35))\/(6<=p/\c=dt ((p-6)/16)))
theorem aAD{C:ad}(A:bJ h R n N on q b now us rd)(M:di N rd bl)(K:hS n N on bl)(S:kW bl i)(hi:i<N)(aC:p<278)(iN:0<bl i (a4 p)){x x23:_}(c7:eN h0 h x (ku (bl i) (mw (bl i) p)))(F:aG h0 h (λ_=>False))(fc:cY):
 ∃bF h',KF C lf fc (some (.ptr R.bw ((i+1)*308))) (some x) (some (I (p:Int))) (some (I (eo p))) (some (.bool (decide (∀k,k<p->22<=k->bl i (a4 k)=0)))) x23 h=
  fc (some (.ptr R.bw ((i+1)*308))) (some bF) (some (I (p:Int))) (some (I (eo p))) x23 h'/\eN h0 h' bF (ku (bl i) (jG (bl i) p))/\aG h0 h' (λ_=>False):=by
 have gb:n<=4096:=A.ref.v.choose_spec.choose_spec.2.2.cA;unfold KF;by_cases mF:22<=p
 ·have d1:decide ((0:Int)<eo p)=true:=bu (by rw[x6 (by omega)];omega);by_cases aO:∀k,k<p->22<=k->bl i (a4 k)=0
  ·have hv:0<bl i 35:=(WP.all S (by omega) (by omega)).1 (.inr (.inr ⟨rfl,p,aC,mF,iN⟩));have qv:=mS A M hi (c:=307) (by omega) (by omega);rw[zc] at qv;have jv:=BO K gb hi (c:=35) (by omega) (by omega) hv;obtain⟨bF,h',ak,aD,xl,F'⟩:=QE c7 F (Rr _ _) (bl i 35-1);refine⟨bF,h',?_,?_,F'⟩
   ·simp only[aE,d1,bu aO,qv,jv,ak,aD]
   ·rw[Rq (f:=bl i) (W:=mw (bl i) p) (W':=jG (bl i) p) (a:=35) (by omega) (by omega) (λc ae=>WP.aC4 aO (of_decide_eq_true ae)) (λc=>by
     unfold jG mw;rw[decide_eq_true_eq,decide_eq_true_eq]
     exact⟨λe=>e.elim .inl λe=> .inr e.2,λe=>e.elim .inl λe=> .inr ⟨mF,e⟩⟩)]
    exact xl
  ·refine⟨x,h,?_,?_,F⟩
   ·simp only[aE,d1,br aO]
   ·rw[En (f:=bl i) (W:=mw (bl i) p) (W':=jG (bl i) p) λc _ _=>?_]
    ·exact c7
    ·unfold jG mw;rw[decide_eq_true_eq,decide_eq_true_eq];refine⟨λe=>e.elim id λe=>?_,.inl⟩;obtain⟨k,ai⟩:=Classical.not_forall.1 aO;obtain⟨k1,ai⟩:=Classical.not_imp.1 ai;obtain⟨k2,ai⟩:=Classical.not_imp.1 ai;exact .inr (.inr ⟨e.2,k,k1,k2,by omega⟩)
 ·have d1:decide ((0:Int)<eo p)=false:=br (by unfold eo;split<;>omega);refine⟨x,h,?_,?_,F⟩
  ·simp only[aE,d1,iH]
  ·rw[En (f:=bl i) (W:=mw (bl i) p) (W':=jG (bl i) p) λc _ _=>?_]
   ·exact c7
   ·unfold jG mw;rw[decide_eq_true_eq,decide_eq_true_eq];exact⟨λe=>e.elim id λe=>absurd e.1 mF,.inl⟩
theorem aAE{C:ad}(A:bJ h R n N on q b now us rd)(M:di N rd bl)(K:hS n N on bl)(S:kW bl i)(hi:i<N)(aC:p<278)(iN:0<bl i (a4 p)){x x23:_}(c7:eN h0 h x (ku (bl i) (jG (bl i) p)))(F:aG h0 h (λ_=>False))(fc:bt):
 ∃bF h',VD C lf fc (some (.ptr R.bw ((i+1)*308))) (some x) (some (I (p:Int))) (some (I (eo p))) (some (.bool (decide (6<=p/\∀k,k<p->6<=k->(k-6)/16=(p-6)/16->bl i (a4 k)=0)))) x23 h=
  fc (some (.ptr R.bw ((i+1)*308))) (some bF) (some (I (p:Int))) x23 h'/\eN h0 h' bF (ku (bl i) (vA (bl i) p))/\aG h0 h' (λ_=>False):=by
 have gb:n<=4096:=A.ref.v.choose_spec.choose_spec.2.2.cA;unfold VD;by_cases aO:6<=p/\∀k,k<p->6<=k->(k-6)/16=(p-6)/16->bl i (a4 k)=0
 ·obtain⟨bB,uM⟩:=aO;have bd:(p-6)/16<17:=by omega
  obtain⟨g1,g2⟩:=ach bd;have hv:0<bl i (dt ((p-6)/16)):=(WP.all S g1 (by omega)).1 (.inr (.inl ⟨p,aC,bB,rfl,iN⟩));have qv:=mS A M hi (c:=290+(p-6)/16) (by omega) (by omega);rw[ae7 bd] at qv;have b7:=tN (R:=R) (i:=i) (k:=(p-6)/16) (m:=17) (o:=290) bd;have jv:=BO K gb hi g1 (by omega) hv;obtain⟨bF,h',ak,aD,xl,F'⟩:=QE c7 F (Rr _ _) (bl i (dt ((p-6)/16))-1);refine⟨bF,h',?_,?_,F'⟩
  ·simp only[aE,bu (show 6<=p/\∀k,k<p->6<=k->(k-6)/16=(p-6)/16->bl i (a4 k)=0 from⟨bB,uM⟩),x6 bB,b7,qv,jv,ak,aD]
  ·rw[Rq (f:=bl i) (W:=jG (bl i) p) (W':=vA (bl i) p) (a:=dt ((p-6)/16)) g1 (by omega) (λc ae=>WP.anz bB aC uM (of_decide_eq_true ae)) (λc=>by
    unfold jG vA;rw[decide_eq_true_eq,decide_eq_true_eq]
    exact⟨λe=>e.elim .inl λe=> .inr e.2,λe=>e.elim .inl λe=> .inr ⟨bB,e⟩⟩)]
   exact xl
 ·refine⟨x,h,?_,?_,F⟩
  ·simp only[aE,br aO]
  ·rw[En (f:=bl i) (W:=jG (bl i) p) (W':=vA (bl i) p) λc _ _=>?_]
   ·exact c7
   ·unfold jG vA;rw[decide_eq_true_eq,decide_eq_true_eq];refine⟨λe=>e.elim id λe=>?_,.inl⟩;obtain⟨k,ai⟩:=Classical.not_forall.1 λx=>aO ⟨e.1,x⟩
    obtain⟨k1,ai⟩:=Classical.not_imp.1 ai;obtain⟨k2,ai⟩:=Classical.not_imp.1 ai;obtain⟨hx,ai⟩:=Classical.not_imp.1 ai;exact .inl (.inr (.inl ⟨k,k1,k2,by rw[hx];exact e.2,by omega⟩))
theorem aAF{C:ad}(A:bJ h R n N on q b now us rd)(M:di N rd bl)(K:hS n N on bl)(hi:i<N)(aC:p<278)(iN:0<bl i (a4 p)){x x23:_}(c7:eN h0 h x (ku (bl i) (vA (bl i) p)))(F:aG h0 h (λ_=>False))(fc:bI):
 ∃bF h',KC C lf fc (some (.ptr R.bw ((i+1)*308))) (some x) (some (I (p:Int))) x23 h=
  fc (some (.ptr R.bw ((i+1)*308))) (some bF) x23 h'/\eN h0 h' bF (ku (bl i) (mw (bl i) (p+1)))/\aG h0 h' (λ_=>False):=by
 have gb:n<=4096:=A.ref.v.choose_spec.choose_spec.2.2.cA;have qv:=mS A M hi (c:=12+p) (by omega) (by omega);rw[qZ aC] at qv;have b7:=tN (R:=R) (i:=i) (k:=p) (m:=278) (o:=12) aC;have jv:=BO K gb hi (c:=a4 p) qX (sg aC) iN;obtain⟨bF,h',ak,aD,xl,F'⟩:=QE c7 F (Rr _ _) (bl i (a4 p)-1);refine⟨bF,h',?_,?_,F'⟩
 ·unfold KC;simp only[aE,b7,qv,jv,ak,aD]
 ·rw[Rq (f:=bl i) (W:=vA (bl i) p) (W':=mw (bl i) (p+1)) (a:=a4 p) qX (sg aC) (λc ae=>?_) (λc=>by
   unfold vA mw;rw[decide_eq_true_eq,decide_eq_true_eq]
   exact WP.next iN)]
  ·exact xl
  ·rcases of_decide_eq_true ae with(e|⟨e,bg⟩)|⟨e,bg⟩
   ·exact WP.lt aC e
   ·rw[bg];exact Nat.lt_trans (FB e).1 (FB e).2
   ·rw[bg];exact Pl e
theorem agV{C:ad}(gu:300<=lf)(mX:vr C)(A:bJ h0 R n N on q b now us rd)(M:di N rd bl)(K:hS n N on bl)(S:kW bl i)(hi:i<N)(av:ay):∀(d p:Nat),p+d=278->∀f,d<f->∀h x,eN h0 h x (ku (bl i) (mw (bl i) p))->aG h0 h (λ_=>False)->
 ∃bF h',bq (tz C lf av) f (some (.ptr R.bw ((i+1)*308)),some x,some (I (p:Int))) h=av (some bF) h'/\eN h0 h' bF (lj bl i)/\aG h0 h' (λ_=>False)
 |0,p,aC,f,an,h,x,c7,F=>by
  obtain⟨f,rfl⟩:=dK f (by omega);have Hj:p=278:=by omega
  subst Hj;refine⟨x,h,?_,?_,F⟩
  ·rw[dr];unfold tz E1 Kz;have ba:decide (((278:Nat):Int)<278)=false:=br (by omega);simp only[ch,cd,rI,ba];unfold Ky Kx;simp only[ch,cd,o6]
  ·rw[aeY,En (W:=mw (bl i) 278) λc h1 h2=>by
    unfold mw
    rw[decide_eq_true_eq,decide_eq_true_eq,WP.all S h1 h2]]
   exact c7
 |d+1,p,aC,f,an,h,x,c7,F=>by
  obtain⟨f,rfl⟩:=dK f (by omega);have ba:decide ((p:Int)<278)=true:=bu (by omega);have dC:IntKind.i64.wrap ((p:Int)+1)=((p+1:Nat):Int):=cL (by omega);have iy:=A.hK F λ_ _ e=>e
  have b7:=tN (R:=R) (i:=i) (k:=p) (m:=278) (o:=12) (by omega);have eL:=mS iy M hi (c:=12+p) (by omega) (by omega);rw[qZ (by omega)] at eL;have bd:=mX h p (by omega);generalize ai:(λaF x7 x23 h=>bq (tz C lf av) f (aF,x7,x23) h:bI)=kk;have qy:∀aF x7 x23 h,kk aF x7 x23 h=bq (tz C lf av) f (aF,x7,x23) h:=λ_ _ _ _=>by rw[<- ai]
  have pre:bq (tz C lf av) (f+1) (some (.ptr R.bw ((i+1)*308)),some x,some (I (p:Int))) h=
   Kw C lf (λaF x7 aP x23 h=>Kv C lf (λaF x7 x23 h=>tM C lf kk aF x7 x23 h) aF x7 aP x23 h) (λaF x7 x23 h=>tM C lf kk aF x7 x23 h) (some (.ptr R.bw ((i+1)*308))) (some x) (some (I (p:Int))) (some (I (p:Int))) h:=by
   rw[dr];show E1 C lf (λaF x7 x23 h=>bq (tz C lf av) f (aF,x7,x23) h) av _ _ _ h=_;rw[ai];unfold E1 Kz;simp only[ch,cd,rI,ba];unfold Ky Kx;simp only[ch,cd,rh];unfold Vz Vy Vx;simp only[ch,cd];rfl
  have last:∀bF h',eN h0 h' bF (ku (bl i) (mw (bl i) (p+1)))->aG h0 h' (λ_=>False)->∃ait fq,tM C lf kk (some (.ptr R.bw ((i+1)*308))) (some bF) (some (I (p:Int))) h'=av (some ait) fq/\eN h0 fq ait (lj bl i)/\aG h0 fq (λ_=>False):=λbF h' xl F'=>by
   obtain⟨x2,h2,s2,sA,bD⟩:=agV gu mX A M K S hi av d (p+1) (by omega) f (by omega) h' bF xl F';refine⟨x2,h2,?_,sA,bD⟩;unfold tM;simp only[ch,cd,rH,dC,qy];exact s2
  rw[pre];unfold Kw;by_cases iN:bl i (a4 p)=0
  ·have d1:decide ((bl i (a4 p):Int)=0)=true:=bu (by omega);simp only[aE,b7,eL,d1];refine last x h ?_ F
   rw[En (W:=mw (bl i) p) λc _ _=>by
    unfold mw
    rw[decide_eq_true_eq,decide_eq_true_eq,WP.skip iN]]
   exact c7
  ·have d1:decide ((bl i (a4 p):Int)=0)=false:=br (by omega);simp only[aE,b7,eL,d1];unfold Kv Vw;simp only[aE,bd];have f1:=λ(aA:dy) (x7 x9 x23:O)=>agT (C:=C) (lf:=lf) (x7:=x7) (x9:=x9) (x23:=x23) mX iy M hi (p:=p) (by omega) aA (p-6) 6 true rfl (Nat.le_refl _) (.inr rfl) ⟨λ_ k k1 k2=>(by omega),λ_=>rfl⟩ lf (by omega)
   simp only[show((6:Nat):Int)=6 from rfl] at f1;rw[aAz,f1];obtain⟨x1,h1,s1,qa,aM⟩:=aAD (C:=C) (lf:=lf) (x23:=some (I (p:Int))) iy M K S hi (by omega) (by omega) c7 F (λaF x7 aP x9 x23 h=>KE C lf (λaF x7 x23 h=>tM C lf kk aF x7 x23 h) aF x7 aP x9 x23 h);unfold KG;rw[s1];unfold KE VF;have Xy:=A.hK aM λ_ _ e=>e
   have d2:decide ((0:Int)<=eo p)=decide (6<=p):=by
    rw[Bool.eq_iff_iff,decide_eq_true_eq,decide_eq_true_eq];unfold eo;split<;>omega
   simp only[ch,cd,YJ,d2]
   have f2:=λ(aA:dy) (x7 x23:O)=>agU (C:=C) (lf:=lf) (x7:=x7) (x23:=x23) mX Xy M hi (p:=p) (by omega) aA (p-6) 6 (decide (6<=p)) rfl (Nat.le_refl _) (.inr rfl) (by
    rw[decide_eq_true_eq]
    exact⟨λe=>⟨e,λk k1 k2=>(by omega)⟩,λe=>e.1⟩) lf (by omega)
   simp only[show((6:Nat):Int)=6 from rfl] at f2;rw[aAA,f2];obtain⟨x2,h2,s2,sA,bD⟩:=aAE (C:=C) (lf:=lf) (x23:=some (I (p:Int))) Xy M K S hi (by omega) (by omega) qa aM (λaF x7 aP x23 h=>KC C lf (λaF x7 x23 h=>tM C lf kk aF x7 x23 h) aF x7 aP x23 h);unfold KD;rw[s2];have aiO:=A.hK bD λ_ _ e=>e
   obtain⟨x3,h3,er,xm,dd⟩:=aAF (C:=C) (lf:=lf) (x23:=some (I (p:Int))) aiO M K hi (by omega) (by omega) sA bD (λaF x7 x23 h=>tM C lf kk aF x7 x23 h);rw[er];exact last x3 h3 xm dd
def vv(C:ad):Prop:=∀h R n N on q b now us rd bl (ino:Int),bJ h R n N on q b now us rd->di N rd bl->hS n N on bl->
 (c8 N us ino=false->C (.fn 87) [.ptr R.rt 0,I ino] h=some (.ret (.bm [.val (.slice none 0 0),I 2]),h))/\
 (∀i,ic N us ino i->kW bl i->∃x h',C (.fn 87) [.ptr R.rt 0,I ino] h=some (.ret (.bm [x,I 0]),h')/\eN h h' x (lj bl i)/\aG h h' (λ_=>False))
theorem aAG{C:ad}(gu:300<=lf)(hG:pe C)(mX:vr C)(A:bJ h R n N on q b now us rd)(M:di N rd bl)(K:hS n N on bl):
 (c8 N us ino=false->C5 C lf (.ptr R.rt 0) (I ino) h=some (.ret (.bm [.val (.slice none 0 0),I 2]),h))/\
 (∀i,ic N us ino i->kW bl i->∃x h',C5 C lf (.ptr R.rt 0) (I ino) h=some (.ret (.bm [x,I 0]),h')/\eN h h' x (lj bl i)/\aG h h' (λ_=>False)):=by
 have dH:=hG h R n N on q b now us rd ino A;obtain⟨cap,lo,ct⟩:=A.ct;unfold C5;rw[aAC];unfold KB;refine⟨λag=>?_,λi bV S=>?_⟩
 ·rw[ag] at dH;unfold CM;simp only[aE,dH,Bool.not_false]
 ·rw[bV.yes] at dH;obtain⟨hi,hu,rfl⟩:=bV;have ar:=lT (R:=R) (N:=N) (i:=i+1) (cap:=cap) (lo:=lo) (by omega)
  have av:ku (bl i) (mw (bl i) 0)=[]:=by
   unfold ku;rw[List.filter_eq_nil_iff.2 λc _ e=>?_]
   ·rfl
   ·rcases of_decide_eq_true e with⟨k,k1,_⟩|⟨k,k1,_⟩|⟨_,k,k1,_⟩<;>omega
  obtain⟨bF,h',s1,qa,aM⟩:=agV (C:=C) (lf:=lf) gu mX A M K S hi (λx7 h=>E2 C lf CM x7 h) 278 0 rfl lf (by omega) h (.val (.slice none 0 0)) ⟨by rw[av];exact hH.nil _ _ _,λj aa=>(by cases aa)⟩ (aG.refl _ _);refine⟨bF,h',?_,qa,aM⟩;simp only[aE,dH,Bool.not_true];unfold KA VB;simp only[aE,ct,ar];rw[aAB];refine Eq.trans s1 ?_;unfold E2 CM;simp only[ch,cd]
end
end
end Go.Proofs.YtomialandfplkaaDoor.Eva
