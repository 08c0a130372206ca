import Derived.Test.YtomialandfplkaaDoorCards
import Derived.Test.YtomialandfplkaaDoorWInodeSoundm5
import Derived.Test.YtomialandfplkaaDoorWInodeSoundm4
import Derived.Test.YtomialandfplkaaDoorWInodeSoundm2
set_option linter.unusedSimpArgs false
set_option linter.unusedVariables false
set_option maxRecDepth 100000
set_option maxHeartbeats 400000
namespace Go.Proofs.YtomialandfplkaaDoor.Eva
open Go.Xe
theorem azP{P:Program}{t e k off n lo:Nat}{cap:Option Nat}(hu:P.underlying t=some (.slice e))(aj:dN P e=some 1)(ae:mn (.aY k off n cap lo))(aO:2<=n):
 ∃sG iE,fK P t (.aY k off n cap lo) (some (I 1)) none=some (.aY k (off+1) (n-1) sG iE)/\mn (.aY k (off+1) (n-1) sG iE):=by
 have ei:hL (I 1)=some 1:=rfl;unfold fK;cases cap with
 |none=>
  have h3:sliceB n n (some (I 1)) none=some (1,n):=by
   simp only[sliceB,ei]
   have:(Nat.ble n n&&Nat.ble 1 n)=true:=by simp[Nat.ble_eq_true_of_le (show 1<=n by omega)]
   simp only[this,cond_true]
  have bR:Nat.blt 1 n=true:=by rw[Nat.blt_eq];omega
  simp only[hu,aj,h3,pX,force_eq,Nat.ble_eq_true_of_le (Nat.le_refl n),cond_true,bR,Nat.mul_one];exact⟨_,_,rfl,trivial⟩
 |some c=>
  have ae:n<=c:=ae
  have h3:sliceB n c (some (I 1)) none=some (1,n):=by
   simp only[sliceB,ei]
   have:(Nat.ble n c&&Nat.ble 1 n)=true:=by simp[Nat.ble_eq_true_of_le (show 1<=n by omega),Nat.ble_eq_true_of_le ae]
   simp only[this,cond_true]
  have bR:Nat.beq (c-1) 0=false:=by
   cases ag:Nat.beq (c-1) 0 with
   |false=>rfl
   |true=>exact absurd (Nat.eq_of_beq_eq_true ag) (by omega)
  simp only[hu,aj,h3,pX,force_eq,bR,cond_false,Nat.mul_one];exact⟨_,_,rfl,by show n-1<=c-1;omega⟩
structure o7 (h:U) (bu:Nat) (x:J) (l:List Nat):Prop where
 s:∃k off cap lo,x= .aY k off l.length cap lo/\mn x/\k≠bu/\∀j,j<l.length->h.cell k (off+j)=some (I ((l.getD j 0:Nat):Int))
def pW(rd:Nat->Nat->J)(i:Nat):List Nat->List Nat->Nat->Nat->J
 |c::cs,j::js=>pW (cO rd i c (I ((j+1:Nat):Int))) i cs js
 |_,_=>rd
def sj(bl:Nat->Nat->Nat)(i k:Nat):List Nat:=(if 22<=k/\bl i 35=0 then[307] else[])++((if 6<=k/\bl i (mK k)=0 then[290+(k-6)/16] else[])++[12+k])
section
variable{lf:Nat}{h h0:U}{R:ez}{n N:Nat}{on:Nat->Bool}{q:Nat->Option Nat}{b:Nat->Nat}{now:Int}{us:Nat->Bool}{rd:Nat->Nat->J}{i k:Nat}
theorem o7.step{x:J}{v:Nat}{l:List Nat}(G:o7 h R.bu x (v::l))(aJ:l≠[]){h':U}(F:aN h h' (· =R.bu))(ai:∀k,rowOf x=some k->k<h.next):
 ∃bW,dD 1 x (I 0)=some (.ptr ((rowOf x).getD 0) (match x with| .aY _ off _ _ _=>off|_=>0))/\fK ax 33 x (some (I 1)) none=some bW/\o7 h' R.bu bW l/\rowOf bW=rowOf x:=by
 obtain⟨k,off,cap,lo,rfl,ae,bY,ey⟩:=G.s;have Dp:=List.length_pos_iff.2 aJ;obtain⟨sG,iE,ei,fJ⟩:=azP (P:=ax) (t:=33) Tryd.underlying33 (by kernel_rfl) ae (by simp;omega);have b3:=gL (s:=1) (k:=k) (off:=off) (len:=(v::l).length) (lo:=lo) (cap:=cap) (kd:= .i64) (i:=0) (by omega) (by simp);have aB:off+(0:Int).toNat*1=off:=by simp
 rw[aB] at b3;have aj:=F.same k (ai k rfl) bY;refine⟨_,b3,ei,⟨⟨k,off+1,sG,iE,rfl,fJ,bY,λj aa=>?_⟩⟩,rfl⟩;rw[aj.cell,Nat.add_assoc,Nat.add_comm 1 j,ey (j+1) (by simp;omega)];rfl
theorem o7.head{x:J}{v:Nat}{l:List Nat}(G:o7 h R.bu x (v::l)):∃k off,dD 1 x (I 0)=some (.ptr k off)/\h.cell k off=some (I (v:Int)):=by
 obtain⟨k,off,cap,lo,rfl,ae,bY,ey⟩:=G.s;have b3:=gL (s:=1) (k:=k) (off:=off) (len:=(v::l).length) (lo:=lo) (cap:=cap) (kd:= .i64) (i:=0) (by omega) (by simp);have aB:off+(0:Int).toNat*1=off:=by simp
 rw[aB] at b3;exact⟨k,off,b3,by have:=ey 0 (by simp);rwa[Nat.add_zero] at this⟩
theorem xN(bC:6<=k):eg k=(((k-6)/16:Nat):Int):=if_neg (by omega)
theorem ad3{C:ad}(A:bP h R n N on q b now us rd)(hi:i<N)(ai:k<278){x:J}{v:Nat}(G:o7 h R.bu x [v])(r:aC):
 ∃h',I6 C lf r (some (I (k:Int))) (some (.ptr R.bu ((i+1)*308))) (some x) h=r (some (.bool true)) h'/\bP h' R n N on q b now us (cO rd (i+1) (12+k) (I (v:Int)))/\h'.next=h.next/\aN h h' (· =R.bu):=by
 obtain⟨kx,off,x1,x2⟩:=G.head;obtain⟨h1,s1,b7,cI,aL⟩:=km A (i:=i+1) (c:=12+k) (by omega) (by omega) (by omega) (v:Int)
 have uk:ev 278 1 (.ptr R.bu ((i+1)*308+12)) (I (k:Int))=some (.ptr R.bu ((i+1)*308+(12+k))):=by
  have:=lT (n:=278) (s:=1) (k:=R.bu) (off:=(i+1)*308+12) (kd:= .i64) (i:=(k:Int)) (by omega) (by omega)
  rwa[Int.toNat_natCast,Nat.mul_one,Nat.add_assoc] at this
 refine⟨h1,?_,b7,cI,aL⟩;unfold I6;simp only[cg,cf,x1,qL,x2,uJ,ud,uk,s1]
theorem aok{C:ad}(A:bP h R n N on q b now us rd)(hi:i<N)(ai:k<278){w:Nat}(hw:6<=k->rd (i+1) (290+(k-6)/16)=I (w:Int)){x:J}{l:List Nat}(G:o7 h R.bu x l)(ao:∀k,rowOf x=some k->k<h.next)(fI:bG):
 (6<=k/\w=0->∀v dw,l=v::dw->dw≠[]->∃h' bW,Ek C lf fI (some (I (k:Int))) (some (.ptr R.bu ((i+1)*308))) (some (I (eg k))) (some x) h=fI (some (I (k:Int))) (some (.ptr R.bu ((i+1)*308))) (some bW) h'/\
   bP h' R n N on q b now us (cO rd (i+1) (290+(k-6)/16) (I (v:Int)))/\o7 h' R.bu bW dw/\(∀k,rowOf bW=some k->k<h'.next)/\h'.next=h.next/\aN h h' (· =R.bu))/\
 (¬(6<=k/\w=0)->Ek C lf fI (some (I (k:Int))) (some (.ptr R.bu ((i+1)*308))) (some (I (eg k))) (some x) h=fI (some (I (k:Int))) (some (.ptr R.bu ((i+1)*308))) (some x) h):=by
 have Dk:6<=k->ev 17 1 (.ptr R.bu ((i+1)*308+290)) (I (eg k))=some (.ptr R.bu ((i+1)*308+(290+(k-6)/16))):=λbC=>by
  rw[xN bC]
  have:=lT (n:=17) (s:=1) (k:=R.bu) (off:=(i+1)*308+290) (kd:= .i64) (i:=(((k-6)/16:Nat):Int)) (by omega) (by omega)
  rwa[Int.toNat_natCast,Nat.mul_one,Nat.add_assoc] at this
 have h6:6<=k->h.cell R.bu ((i+1)*308+(290+(k-6)/16))=some (I (w:Int)):=λbC=>by
  rw[A.kX (i+1) _ (by omega) (by omega),hw bC]
 have g0:6<=k->decide ((0:Int)<=eg k)=true:=λbC=>bw (by rw[xN bC];omega)
 refine⟨λ⟨bC,h0⟩ v dw e aJ=>?_,λag=>?_⟩
 ·subst e;obtain⟨kx,off,x1,x2⟩:=G.head;obtain⟨h1,s1,b7,cI,aL⟩:=km A (i:=i+1) (c:=290+(k-6)/16) (by omega) (by omega) (by omega) (v:Int);obtain⟨bW,_,t2,t3,t4⟩:=G.step aJ aL ao;have g2:decide ((w:Int)=0)=true:=bw (by omega);refine⟨h1,bW,?_,b7,t3,λk ai=>by rw[cI];exact ao k (by rw[<- t4];exact ai),cI,aL⟩;unfold Ek;simp only[aE,g0 bC,Dk bC,h6 bC,g2,x1,x2,s1,t2]
 ·unfold Ek;by_cases bC:6<=k
  ·have g2:decide ((w:Int)=0)=false:=bq (by omega);simp only[aE,g0 bC,Dk bC,h6 bC,g2]
  ·have g1:decide ((0:Int)<=eg k)=false:=bq (by unfold eg;rw[if_pos (by omega)];omega);simp only[aE,g1,iw]
theorem akD{C:ad}(A:bP h R n N on q b now us rd)(hi:i<N){w:Nat}(hw:rd (i+1) 307=I (w:Int)){x:J}{l:List Nat}(G:o7 h R.bu x l)(ao:∀k,rowOf x=some k->k<h.next)(fI:br):
 (22<=k/\w=0->∀v dw,l=v::dw->dw≠[]->∃h' bW,El C lf fI (some (I (k:Int))) (some (.ptr R.bu ((i+1)*308))) (some (I (eg k))) (some x) h=fI (some (I (k:Int))) (some (.ptr R.bu ((i+1)*308))) (some (I (eg k))) (some bW) h'/\
   bP h' R n N on q b now us (cO rd (i+1) 307 (I (v:Int)))/\o7 h' R.bu bW dw/\(∀k,rowOf bW=some k->k<h'.next)/\h'.next=h.next/\aN h h' (· =R.bu))/\
 (¬(22<=k/\w=0)->El C lf fI (some (I (k:Int))) (some (.ptr R.bu ((i+1)*308))) (some (I (eg k))) (some x) h=fI (some (I (k:Int))) (some (.ptr R.bu ((i+1)*308))) (some (I (eg k))) (some x) h):=by
 have h6:h.cell R.bu ((i+1)*308+307)=some (I (w:Int)):=by rw[A.kX (i+1) _ (by omega) (by omega),hw]
 have g0:22<=k->decide ((0:Int)<eg k)=true:=λbC=>bw (by rw[xN (by omega)];omega)
 refine⟨λ⟨bC,h0⟩ v dw e aJ=>?_,λag=>?_⟩
 ·subst e;obtain⟨kx,off,x1,x2⟩:=G.head;obtain⟨h1,s1,b7,cI,aL⟩:=km A (i:=i+1) (c:=307) (by omega) (by omega) (by omega) (v:Int);obtain⟨bW,_,t2,t3,t4⟩:=G.step aJ aL ao;have g2:decide ((w:Int)=0)=true:=bw (by omega);refine⟨h1,bW,?_,b7,t3,λk ai=>by rw[cI];exact ao k (by rw[<- t4];exact ai),cI,aL⟩;unfold El;simp only[aE,g0 bC,h6,g2,x1,x2,s1,t2]
 ·unfold El;by_cases bC:22<=k
  ·have g2:decide ((w:Int)=0)=false:=bq (by omega);simp only[aE,g0 bC,h6,g2]
  ·have g1:decide ((0:Int)<eg k)=false:=bq (by unfold eg;split<;>omega);simp only[aE,g1,iw]
end
theorem aBh{C:ad}{lf:Nat}{r:aC}{x0 x1 x2:O}{h:U}:Rh C lf r x0 x1 x2 h=I9 C lf (λx0 x1 x2 x7 h=>I8 C lf r x0 x1 x2 x7 h) x0 x1 x2 h:=rfl
theorem aBg{C:ad}{lf:Nat}{r:aC}{x0 x1 x2 x7 aT:O}{h:U}:Rf C lf r x0 x1 x2 x7 aT h=Jd C lf (λx0 x2 x7 aT x9 aW h=>Jc C lf r x0 x2 x7 aT x9 aW h) x0 x1 x2 x7 aT (some (.val (.slice none 0 0))) h:=rfl
theorem aC5{bl:Nat->Nat->Nat}{i k:Nat}(h:bl i (a4 k)=0):(sj bl i k).length=fH bl i k:=by
 unfold sj fH;rw[if_neg (show ¬0<bl i (a4 k) by omega)];by_cases a:22<=k/\bl i 35=0<;>by_cases c:6<=k/\bl i (mK k)=0<;>simp[a,c]
section
variable{lf:Nat}{h h0:U}{R:ez}{n N:Nat}{on:Nat->Bool}{q:Nat->Option Nat}{b:Nat->Nat}{now:Int}{us:Nat->Bool}{rd:Nat->Nat->J}{bl:Nat->Nat->Nat}{i k:Nat}
theorem zv.s{x:J}{l:List Nat}(G:zv h0 h R n q x l)(aJ:l≠[]):o7 h R.bu x (l.map (· +1))/\(∀k,rowOf x=some k->k<h.next):=by
 refine⟨⟨?_⟩,λk ai=>G.i.aY.kK ai⟩;rcases G.i.aY.2 with⟨_,e⟩|⟨kx,e,A⟩
 ·exact absurd (List.eq_nil_of_length_eq_zero (by simpa using e)) aJ
 ·refine⟨kx,0,none,0,e,by rw[e];trivial,λaw=>G.a kx (by rw[e];rfl) (.inl aw),λj aa=>?_⟩;rw[Nat.zero_add,A.cs j (by omega)];simp only[List.length_map] at aa;simp[ints,List.getD,aa]
theorem aqy{C:ad}(A:bP h R n N on q b now us rd)(M:dc N rd bl)(hi:i<N)(ai:k<278)(h0:bl i (a4 k)=0){x:J}{l:List Nat}(aJ:l.length=fH bl i k)(G:o7 h R.bu x (l.map (· +1)))(ao:∀k,rowOf x=some k->k<h.next)(r:aC):
 ∃h',Em C lf r (some (I (k:Int))) (some (.ptr R.bu ((i+1)*308))) (some (I (eg k))) (some x) h=r (some (.bool true)) h'/\bP h' R n N on q b now us (pW rd (i+1) (sj bl i k) l)/\aN h h' (· =R.bu):=by
 have aF:rd (i+1) 307=I (bl i 35:Int):=M i 307 hi (by omega) (by omega);have b6:6<=k->rd (i+1) (290+(k-6)/16)=I (bl i (mK k):Int):=λbC=>by rw[M i _ hi (by omega) (by omega),QX bC ai]
 have jn:fH bl i k=1+(if 6<=k/\bl i (mK k)=0 then 1 else 0)+(if 22<=k/\bl i 35=0 then 1 else 0):=by
  unfold fH;rw[if_neg (show ¬0<bl i (a4 k) by omega)]
 unfold Em
 have rest:∀(h1:U) (jr:Nat->Nat->J) (x1:J) (cd:List Nat),bP h1 R n N on q b now us jr->(6<=k->jr (i+1) (290+(k-6)/16)=I (bl i (mK k):Int))->o7 h1 R.bu x1 (cd.map (· +1))->(∀k,rowOf x1=some k->k<h1.next)->
  cd.length=1+(if 6<=k/\bl i (mK k)=0 then 1 else 0)->
  ∃h',Ja C lf r (some (I (k:Int))) (some (.ptr R.bu ((i+1)*308))) (some (I (eg k))) (some x1) h1=r (some (.bool true)) h'/\
   bP h' R n N on q b now us (pW jr (i+1) ((if 6<=k/\bl i (mK k)=0 then[290+(k-6)/16] else[])++[12+k]) cd)/\aN h1 h' (· =R.bu):=λh1 jr x1 cd b7 amv sm rR oH=>by
  unfold Ja;obtain⟨s1,s2⟩:=aok (lf:=lf) (C:=C) b7 hi ai amv sm rR (λx2 x7 x9 h=>I6 C lf r x2 x7 x9 h);by_cases ae:6<=k/\bl i (mK k)=0
  ·rw[if_pos ae] at oH
   obtain⟨a,c,rfl⟩:∃a c,cd=[a,c]:=by
    match cd,oH with
    | [a,c],_=>exact⟨a,c,rfl⟩
   obtain⟨h2,x2,aw,c9,mV,vV,cF,bF⟩:=s1 ae (a+1) [c+1] rfl (by simp);obtain⟨h3,ch,e9,gl,dp⟩:=ad3 (lf:=lf) (C:=C) c9 hi ai mV r;rw[if_pos ae];exact⟨h3,aw.trans ch,e9,bF.trans dp⟩
  ·rw[if_neg ae] at oH
   obtain⟨a,rfl⟩:∃a,cd=[a]:=by
    match cd,oH with
    | [a],_=>exact⟨a,rfl⟩
   obtain⟨h3,ch,e9,gl,dp⟩:=ad3 (lf:=lf) (C:=C) b7 hi ai sm r;rw[if_neg ae];exact⟨h3,(s2 ae).trans ch,e9,dp⟩
 obtain⟨s1,s2⟩:=akD (lf:=lf) (C:=C) (k:=k) A hi aF G ao (λx2 x7 aT x9 h=>Ja C lf r x2 x7 aT x9 h);unfold sj;by_cases ae:22<=k/\bl i 35=0
 ·rw[jn,if_pos ae] at aJ
  obtain⟨a,cd,rfl⟩:∃a cd,l=a::cd:=by
   match l,aJ with
   |a::cd,_=>exact⟨a,cd,rfl⟩
  have oH:cd.length=1+(if 6<=k/\bl i (mK k)=0 then 1 else 0):=by simp only[List.length_cons] at aJ;omega
  have bY:cd≠[]:=λe=>by rw[e] at oH;simp at oH;omega
  obtain⟨h2,x2,aw,c9,mV,vV,cF,bF⟩:=s1 ae (a+1) (cd.map (· +1)) rfl (by simpa using bY);obtain⟨h3,ch,e9,dp⟩:=rest h2 _ x2 cd c9 (λbC=>by rw[ha _ _ (by omega)];exact b6 bC) mV vV oH;rw[if_pos ae];exact⟨h3,aw.trans ch,e9,bF.trans dp⟩
 ·rw[jn,if_neg ae,Nat.add_zero] at aJ;obtain⟨h3,ch,e9,dp⟩:=rest h rd x l A b6 G ao aJ;rw[if_neg ae];exact⟨h3,(s2 ae).trans ch,e9,dp⟩
def Gc(C:ad):Prop:=∀h R n N on q b now us rd bl i (k:Nat),bP h R n N on q b now us rd->dc N rd bl->i<N->k<278->
 (0<bl i (a4 k)->C (.fn 106) [.ptr R.rt 0,I ((i+1:Nat):Int),I (k:Int)] h=some (.ret (.bool true),h))/\
 (bl i (a4 k)=0->n<fH bl i k+(hp on n).length->C (.fn 106) [.ptr R.rt 0,I ((i+1:Nat):Int),I (k:Int)] h=some (.ret (.bool false),h))/\
 (bl i (a4 k)=0->fH bl i k+(hp on n).length<=n->∃h' hn,C (.fn 106) [.ptr R.rt 0,I ((i+1:Nat):Int),I (k:Int)] h=some (.ret (.bool true),h')/\
   bP h' R n N (ga n (fH bl i k) on b).2.1 hn (ga n (fH bl i k) on b).2.2 now us (pW rd (i+1) (sj bl i k) (ga n (fH bl i k) on b).1)/\(ga n (fH bl i k) on b).1.length=fH bl i k/\(∀t k,hn t=some k->q t=some k\/h.next<=k)/\aN h h' (λj=>j=R.ro\/j=R.rb\/j=R.bu))
theorem azg{C:ad}(gf:1000<=lf)(mW:vb C)(Ne:L2 C)(ahS:L1 C)(nq:FZ C)(A:bP h R n N on q b now us rd)(M:dc N rd bl)(hi:i<N)(ai:k<278):
 (0<bl i (a4 k)->xH C lf (.ptr R.rt 0) (I ((i+1:Nat):Int)) (I (k:Int)) h=some (.ret (.bool true),h))/\
 (bl i (a4 k)=0->n<fH bl i k+(hp on n).length->xH C lf (.ptr R.rt 0) (I ((i+1:Nat):Int)) (I (k:Int)) h=some (.ret (.bool false),h))/\
 (bl i (a4 k)=0->fH bl i k+(hp on n).length<=n->∃h' hn,xH C lf (.ptr R.rt 0) (I ((i+1:Nat):Int)) (I (k:Int)) h=some (.ret (.bool true),h')/\
   bP h' R n N (ga n (fH bl i k) on b).2.1 hn (ga n (fH bl i k) on b).2.2 now us (pW rd (i+1) (sj bl i k) (ga n (fH bl i k) on b).1)/\(ga n (fH bl i k) on b).1.length=fH bl i k/\(∀t k,hn t=some k->q t=some k\/h.next<=k)/\aN h h' (λj=>j=R.ro\/j=R.rb\/j=R.bu)):=by
 obtain⟨cap,lo,ct⟩:=A.ct;have ao:=mj (R:=R) (N:=N) (i:=i+1) (cap:=cap) (lo:=lo) (by omega)
 have uk:ev 278 1 (.ptr R.bu ((i+1)*308+12)) (I (k:Int))=some (.ptr R.bu ((i+1)*308+(12+k))):=by
  have:=lT (n:=278) (s:=1) (k:=R.bu) (off:=(i+1)*308+12) (kd:= .i64) (i:=(k:Int)) (by omega) (by omega)
  rwa[Int.toNat_natCast,Nat.mul_one,Nat.add_assoc] at this
 have eI:=mP A M hi (c:=12+k) (by omega) (by omega);rw[qV ai] at eI;have bd:=mW h k ai;have aO:=Ne h R n N on q b now us rd bl i k A M hi ai;have hle:=ahS h R.rt R.ro R.rb n on q b A.ref;have aco:=KX on n
 have aDz:fH bl i k<=3:=by
  unfold fH;split
  ·omega
  ·split<;>split<;>omega
 have pre:xH C lf (.ptr R.rt 0) (I ((i+1:Nat):Int)) (I (k:Int)) h=I7 C lf (λx0 x1 x2 x7 h=>Ej C lf qh x0 x1 x2 x7 h) qh (some (.ptr R.rt 0)) (some (I ((i+1:Nat):Int))) (some (I (k:Int))) (some (.ptr R.bu ((i+1)*308))) h:=by
  unfold xH;rw[aBh];unfold I9;simp only[cg,cf,uJ,ud,Nat.zero_add,qL,ct,ao];unfold I8;rfl
 rw[pre];unfold I7
 have mid:bl i (a4 k)=0->∀P:ab->Prop,P (Eo C lf (λx0 x2 x7 aT x9 aW h=>Jb C lf qh x0 x2 x7 aT x9 aW h) qh (some (.ptr R.rt 0)) (some (I (k:Int))) (some (.ptr R.bu ((i+1)*308))) (some (I (eg k))) (some (.val (.slice none 0 0))) (some (I (fH bl i k:Int))) h)->
  P (ob (some (J.ptr R.bu ((i+1)*308))) λail=>ob (some (J.int .i64 (k:Int))) λaim=>ob (eC ail) λaB6=>ob (b5 12 aB6) λaB7=>ob (ev 278 1 aB7 aim) λaB8=>ob (b0 aB8 h) λaB9=>ob (bin ax .gtr 3 aB9 (I 0)) λaCa=>
    fV aCa (qh (some (.bool true)) h) (Ej C lf qh (some (.ptr R.rt 0)) (some (I ((i+1:Nat):Int))) (some (I (k:Int))) (some (.ptr R.bu ((i+1)*308))) h)):=λaA P nM=>by
  have d:decide ((0:Int)<(bl i (a4 k):Int))=false:=bq (by omega);simp only[cg,cf,uJ,ud,uk,qL,eI,zN,d,o4];unfold Ej Rg;simp only[cg,cf,kV,bd];rw[aBg];unfold Jd;simp only[cg,cf,kV,aO];unfold Jc;exact nM
 refine⟨λaA=>?_,λaA ak=>?_,λaA ak=>?_⟩
 ·have d:decide ((0:Int)<(bl i (a4 k):Int))=true:=bw (by omega);unfold qh;simp only[cg,cf,uJ,ud,uk,qL,eI,zN,d,q6]
 ·refine mid aA (λr=>r=_) ?_;have d2:decide (((n-(hp on n).length:Nat):Int)<(fH bl i k:Int))=true:=bw (by omega);unfold Eo qh;simp only[aE,hle,d2]
 ·have d2:decide (((n-(hp on n).length:Nat):Int)<(fH bl i k:Int))=false:=bq (by omega);have ahJ:zv h h R n q (.val (.slice none 0 0)) []:=⟨⟨hX.nil _ _ _,λj aa=>(by cases aa)⟩,λj aa=>(by cases aa)⟩;obtain⟨h1,ei,x1,c5,b7,sm,az,vd,aL⟩:=agN (lf:=lf) (C:=C) nq (m:=fH bl i k) (by omega) (xk:=some (I (k:Int))) (xr:=some (.ptr R.bu ((i+1)*308))) (xg:=some (I (eg k))) (λx2 x7 aT x9 h=>Em C lf qh x2 x7 aT x9 h) (fH bl i k) 0 (by omega) lf (by omega) h on q b _ [] A ahJ ak (by simp;omega) (Nat.le_refl _);rw[List.nil_append] at sm;generalize aDr:ga n (fH bl i k) on b=al5 at *;have tb:1<=fH bl i k:=by unfold fH;rw[if_neg (show ¬0<bl i (a4 k) by omega)];omega
  have bY:al5.1≠[]:=λe=>by rw[e] at az;simp at az;omega
  obtain⟨g1,g2⟩:=sm.s bY;obtain⟨h2,bQ,cn,fl⟩:=aqy (lf:=lf) (C:=C) b7 M hi ai aA az g1 g2 qh;refine⟨h2,ei,mid aA (λr=>r=_) ?_,cn,az,vd,⟨fl.aH.trans aL.aH,Nat.le_trans aL.next fl.next,λj aa aj=>(fl.same j (Nat.lt_of_lt_of_le aa aL.next) (λe=>aj (.inr (.inr e)))).trans (aL.same j aa (λe=>by rcases e with e|e|e;exact aj (.inl e);exact aj (.inr (.inl e));omega)),λak=>fl.dx (aL.dx ak)⟩⟩;unfold Eo;simp only[aE,hle,d2];unfold Jb Rj Ri;simp only[cg,cf];exact c5.trans bQ
end
def Fc(bl:Nat->Nat->Nat)(i:Nat):List Nat->List Nat->Nat->Nat->Nat
 |c::cs,j::js=>Fc (j5 bl i c (j+1)) i cs js
 |_,_=>bl
def kq(bl:Nat->Nat->Nat)(i:Nat)(cs:List Nat):List Nat:=cs.filter λc=>decide (bl i c=0)
theorem aC2{bl:Nat->Nat->Nat}{i c v:Nat}{cs:List Nat}(h:c ∉ cs):kq (j5 bl i c v) i cs=kq bl i cs:=by
 unfold kq;apply List.filter_congr;intro x ao;rw[nn _ _ (.inr λe=>h (by rw[<- e];exact ao))]
def iK(on:Nat->Bool)(b b':Nat->Nat):Prop:=∀p,on (p/64)=true->b p=b' p
theorem iK.O1{on:Nat->Bool}{b b':Nat->Nat}(h:iK on b b')(j:Nat):iK (c3 on j true) (fW b j) (fW b' j):=λp aA=>by
 unfold fW;by_cases ae:64*j<=p/\p<64*j+64
 ·rw[if_pos ae,if_pos ae]
 ·rw[if_neg ae,if_neg ae];refine h p ?_;rwa[ig _ _ (by omega)] at aA
section
variable{n N i:Nat}
theorem adO{wd:Nat->Nat}(hw:∀j,wd j<2 ^ 64)(j:Nat):bU (qR wd j)=c3 (bU wd) j true:=by
 funext gM
 rw[IY hw];by_cases e:gM=j
 ·subst e;rw[kN];simp
 ·rw[ig _ _ e];simp[e]
theorem Og:∀(cs:List Nat) (s:dF) (bk:List Nat) (b2:Nat->Nat),cs.Nodup->(∀j,s.wd j<2 ^ 64)->iK (bU s.wd) s.b b2->
 ((df n i cs s bk).2.2=true↔(ga n (kq s.bl i cs).length (bU s.wd) b2).1.length=(kq s.bl i cs).length)/\
 ((df n i cs s bk).2.2=true->bU (df n i cs s bk).1.wd=(ga n (kq s.bl i cs).length (bU s.wd) b2).2.1/\(df n i cs s bk).1.bl=Fc s.bl i (kq s.bl i cs) (ga n (kq s.bl i cs).length (bU s.wd) b2).1/\
   iK (bU (df n i cs s bk).1.wd) (df n i cs s bk).1.b (ga n (kq s.bl i cs).length (bU s.wd) b2).2.2)
 | [],s,bk,b2,_,_,ag=>⟨⟨λ_=>rfl,λ_=>rfl⟩,λ_=>⟨rfl,rfl,ag⟩⟩
 |c::cs,s,bk,b2,aO,hw,ag=>by
  obtain⟨ae,ur⟩:=List.nodup_cons.1 aO;by_cases h0:0<s.bl i c
  ·have az:df n i (c::cs) s bk=df n i cs s bk:=by
    show(if 0<s.bl i c then _ else _)=_;rw[if_pos h0]
   have aw:kq s.bl i (c::cs)=kq s.bl i cs:=by
    unfold kq;rw[List.filter_cons_of_neg (by simp;omega)]
   rw[az,aw];exact Og cs s bk b2 ur hw ag
  ·have aw:kq s.bl i (c::cs)=c::kq s.bl i cs:=by
    unfold kq;rw[List.filter_cons_of_pos (by simp;omega)]
   rw[aw];have el:low n s.wd=oM n (bU s.wd):=rfl;cases aJ:oM n (bU s.wd) with
   |none=>
    have az:df n i (c::cs) s bk=(s,bk,false):=by
     show(if 0<s.bl i c then _ else match low n s.wd with|none=>_|some j=>_)=_;rw[if_neg h0,el,aJ]
    have ch:ga n (c::kq s.bl i cs).length (bU s.wd) b2=([],bU s.wd,b2):=by
     show(match oM n (bU s.wd) with|none=>_|some j=>_)=_;rw[aJ]
    rw[az,ch];exact⟨by simp,λe=>by cases e⟩
   |some j=>
    have az:df n i (c::cs) s bk=df n i cs (s.take i c j) (bk++[c]):=by
     show(if 0<s.bl i c then _ else match low n s.wd with|none=>_|some j=>_)=_;rw[if_neg h0,el,aJ]
    have ch:ga n (c::kq s.bl i cs).length (bU s.wd) b2=(j::(ga n (kq s.bl i cs).length (c3 (bU s.wd) j true) (fW b2 j)).1,(ga n (kq s.bl i cs).length (c3 (bU s.wd) j true) (fW b2 j)).2):=by
     show(match oM n (bU s.wd) with|none=>_|some j=>_)=_;rw[aJ]
    have ba:=Og cs (s.take i c j) (bk++[c]) (fW b2 j) ur (adN hw j) (by
     show iK (bU (qR s.wd j)) (fW s.b j) (fW b2 j);rw[adO hw]
     exact ag.O1 j)
    have ef:(s.take i c j).bl=j5 s.bl i c (j+1):=rfl;have jk:bU (s.take i c j).wd=c3 (bU s.wd) j true:=adO hw j;rw[ef,aC2 ae,jk] at ba;rw[az,ch];obtain⟨i1,i2⟩:=ba;refine⟨i1.trans (by simp),λe=>?_⟩;exact i2 e
theorem dc.put{rd:Nat->Nat->J}{bl:Nat->Nat->Nat}(M:dc N rd bl){c v:Nat}(dB:12<=c)(ae:c<308):dc N (cO rd (i+1) c (I (v:Int))) (j5 bl i (pm c) v):=λi' a2 cA nL fi=>by
 by_cases e:i'=i/\a2=c
 ·obtain⟨rfl,rfl⟩:=e;rw[mS,se]
 ·rw[ha _ _ (by omega),nn _ _ ?_]
  ·exact M i' a2 cA nL fi
  ·by_cases az:i'=i
   ·exact .inr λaw=>e ⟨az,ad6 nL fi dB ae aw⟩
   ·exact .inl az
theorem dc.aed:∀{zs js:List Nat} {rd:Nat->Nat->J} {bl:Nat->Nat->Nat},dc N rd bl->(∀c∈zs,12<=c/\c<308)->dc N (pW rd (i+1) zs js) (Fc bl i (zs.map pm) js)
 | [],_,_,_,M,_=>by simpa[pW,Fc] using M
 |_::_,[],_,_,M,_=>by simpa[pW,Fc] using M
 |c::zs,j::js,rd,bl,M,h=>by
  have h1:=h c (List.mem_cons_self ..)
  have:=dc.aed (zs:=zs) (js:=js) (dc.put (i:=i) (v:=j+1) M h1.1 h1.2) λx ao=>h x (List.mem_cons_of_mem _ ao)
  exact this
theorem aC6{bl:Nat->Nat->Nat}{k:Nat}(ai:k<278)(h0:bl i (a4 k)=0):(sj bl i k).map pm=kq bl i (dr k):=by
 have aA:pm (12+k)=a4 k:=qV ai;unfold sj kq dr;by_cases bC:k<6
 ·rw[if_pos bC,if_neg (by omega),if_neg (by omega)];simp[aA,h0]
 ·have bd:=QX (k:=k) (by omega) ai;by_cases mC:k<22
  ·have az:mK k=18:=if_pos mC;rw[if_neg bC,if_pos mC,if_neg (by omega)];rw[az] at bd⊢;by_cases aQ:bl i 18=0
   ·rw[if_pos ⟨by omega,aQ⟩];simp[aA,h0,bd,aQ]
   ·rw[if_neg (λe=>aQ e.2)];simp[aA,h0,aQ]
  ·have az:mK k=36+17*((k-22)/16):=if_neg mC;rw[if_neg bC,if_neg mC];rw[az] at bd⊢;by_cases aQ:bl i (36+17*((k-22)/16))=0<;>by_cases a3:bl i 35=0<;>simp[aA,h0,bd,aQ,a3,yS,show 22<=k by omega,show 6<=k by omega]
theorem aht{bl:Nat->Nat->Nat}{k:Nat}(ai:k<278):∀c∈sj bl i k,12<=c/\c<308:=λc ae=>by
 unfold sj at ae;simp only[List.mem_append] at ae;rcases ae with ae|ae|ae
 ·split at ae
  ·simp at ae;omega
  ·cases ae
 ·split at ae
  ·simp at ae;omega
  ·cases ae
 ·simp at ae;omega
end
theorem abh{n:Nat}:∀(m:Nat) (on:Nat->Bool) (b:Nat->Nat),(ga n m on b).1.length=m↔m+(hp on n).length<=n
 |0,on,b=>by
  have:=KX on n
  exact⟨λ_=>by omega,λ_=>rfl⟩
 |m+1,on,b=>by
  cases aJ:oM n on with
  |none=>
   have e:ga n (m+1) on b=([],on,b):=by
    show(match oM n on with|none=>_|some j=>_)=_;rw[aJ]
   have hu:(hp on n).length=n:=Zj (Qw aJ);rw[e];exact⟨λh=>by simp at h,λh=>by omega⟩
  |some j=>
   have e:ga n (m+1) on b=(j::(ga n m (c3 on j true) (fW b j)).1,(ga n m (c3 on j true) (fW b j)).2):=by
    show(match oM n on with|none=>_|some j=>_)=_;rw[aJ]
   obtain⟨vX,yp,_⟩:=Qx aJ;have ba:=abh (n:=n) m (c3 on j true) (fW b j);rw[agZ vX yp] at ba;rw[e];show(ga n m (c3 on j true) (fW b j)).1.length+1=m+1↔_;constructor
   ·intro h
    have:=ba.1 (by omega)
    omega
   ·intro h
    have:=ba.2 (by omega)
    omega
theorem apv{k:Nat}(ai:k<278):(dr k).Nodup:=by
 have aO:=tu ai;unfold dr;by_cases bC:k<6
 ·rw[if_pos bC];simp
 ·rw[if_neg bC];by_cases mC:k<22
  ·rw[if_pos mC];have h1:¬(18=a4 k):=λe=>aO.1 e.symm
   simp[h1]
  ·rw[if_neg mC];have h1:¬(36+17*((k-22)/16)=a4 k):=λe=>aO.2.2 _ (by omega) e.symm
   have h2:¬(35=a4 k):=λe=>aO.2.1 e.symm
   have h3:¬(35=36+17*((k-22)/16)):=by omega
   simp only[List.nodup_cons,List.mem_cons,List.not_mem_nil,or_false,not_or,not_false_eq_true,List.nodup_nil,and_true];exact⟨⟨h3,h2⟩,h1⟩
theorem aly{n N i k:Nat}{s:dF}{rd:Nat->Nat->J}{b2:Nat->Nat}(hi:i<N)(W:pg n N s)(ai:k<278)(M:dc N rd s.bl)(ag:iK (bU s.wd) s.b b2)(h0:s.bl i (a4 k)=0):
 ((bI n i k s).2=true↔fH s.bl i k+(hp (bU s.wd) n).length<=n)/\
 ((bI n i k s).2=true->bU (bI n i k s).1.wd=(ga n (fH s.bl i k) (bU s.wd) b2).2.1/\dc N (pW rd (i+1) (sj s.bl i k) (ga n (fH s.bl i k) (bU s.wd) b2).1) (bI n i k s).1.bl/\
   iK (bU (bI n i k s).1.wd) (bI n i k s).1.b (ga n (fH s.bl i k) (bU s.wd) b2).2.2)/\
 ((bI n i k s).2=false->(bI n i k s).1.wd=s.wd/\(bI n i k s).1.nd=s.nd/\(bI n i k s).1.bl=s.bl/\iK (bU s.wd) (bI n i k s).1.b b2):=by
 obtain⟨f1,f2⟩:=Og (n:=n) (i:=i) (dr k) s [] b2 (apv ai) W.w ag;have a1:=aC6 (i:=i) (bl:=s.bl) ai h0;have aJ:(kq s.bl i (dr k)).length=fH s.bl i k:=by rw[<- a1,List.length_map,aC5 h0]
 rw[aJ] at f1 f2;rw[<- a1] at f2;have bd:=abh (n:=n) (fH s.bl i k) (bU s.wd) b2
 have az:bI n i k s=if(df n i (dr k) s []).2.2=true then((df n i (dr k) s []).1,true) else(⟨s.wd,(df n i (dr k) s []).1.b,s.nd,s.bl⟩,false):=by
  unfold bI;rw[if_neg (show ¬0<s.bl i (a4 k) by omega)]
 have t:oe n i s (df n i (dr k) s []).2.1 (df n i (dr k) s []).1:=xE (dr k) s [] .nil (A2 ai);have P:=t.props hi W.M W.w;rw[az];by_cases ae:(df n i (dr k) s []).2.2=true
 ·rw[if_pos ae];obtain⟨g1,g2,g3⟩:=f2 ae;refine⟨⟨λ_=>bd.1 (f1.1 ae),λ_=>rfl⟩,λ_=>⟨g1,?_,g3⟩,λe=>by cases e⟩;show dc N _ (df n i (dr k) s []).1.bl;rw[g2];exact dc.aed M (aht ai)
 ·rw[if_neg ae];refine⟨⟨λe=>(by cases e),λh=>absurd (f1.2 (bd.2 h)) ae⟩,λe=>(by cases e),λ_=>⟨rfl,rfl,rfl,λp aA=>?_⟩⟩;show(df n i (dr k) s []).1.b p=b2 p;rw[P.Ch p aA];exact ag p aA
section
variable{lf:Nat}{h:U}{R:ez}{n N:Nat}{on:Nat->Bool}{q:Nat->Option Nat}{b:Nat->Nat}{now:Int}{us:Nat->Bool}{rd:Nat->Nat->J}
theorem bP.QZ(A:bP h R n N on q b now us rd){j p v:Nat}(aa:j<n)(eW:on j=true)(aA:p<64)(hv:v<256):
 ∃x1 x bN,h.cell R.rt 1=some x1/\dD 1 x1 (I (j:Int))=some (.ptr R.rb j)/\h.cell R.rb j=some x/\q j=some bN/\dD 1 x (I (p:Int))=some (.ptr bN p)/\
  st 1 (.ptr bN p) (.int .u8 (v:Int)) h=some (h.set bN p [.int .u8 (v:Int)])/\bP (h.set bN p [.int .u8 (v:Int)]) R n N on q (over b (j*64+p) [v]) now us rd:=by
 obtain⟨x0,x1,c0,aQ,V⟩:=A.ref.v;obtain⟨cap,lo,rfl⟩:=V.az;have fv:=V.cF;cases aZ:q j with
 |none=>
  have:=(V.off j aa aZ).1
  rw[eW] at this;cases this
 |some bN=>
  obtain⟨h1,h2,x,h3,aU⟩:=V.has j bN aa aZ;have B:=aU.jF eW;obtain⟨MK,Qt,rfl⟩:=B.aY;have nc:=gL (s:=1) (k:=R.rb) (off:=0) (len:=n) (lo:=lo) (cap:=cap) (kd:= .i64) (i:=(j:Int)) (by omega) (by omega);rw[Int.toNat_natCast,Nat.mul_one,Nat.zero_add] at nc;have nf:=gL (s:=1) (k:=bN) (off:=0) (len:=64) (lo:=Qt) (cap:=MK) (kd:= .i64) (i:=(p:Int)) (by omega) (by omega);rw[Int.toNat_natCast,Nat.mul_one,Nat.zero_add] at nf;have dk:=jt (n:=1) (off:=p) (y:= .int .u8 (v:Int)) B.w rfl (by omega) rfl
  have anL:=A.ref.put (i:=j) (k:=bN) (p:=p) (v:=v) aa eW aZ aA hv (b':=over b (j*64+p) [v]) (λt=>by
   unfold over;by_cases e:t=j*64+p
   ·subst e;rw[if_pos rfl,if_pos ⟨Nat.le_refl _,by simp⟩,Nat.sub_self];rfl
   ·rw[if_neg e,if_neg (by simp only[List.length_cons,List.length_nil];omega)])
  have F:aN h (h.set bN p [.int .u8 (v:Int)]) (· =bN):=fO rfl;have cI:bN≠R.rt:=A.ref.qP j bN aa aZ;have cF:bN≠R.bu:=A.d4 j bN aa aZ;have st:cW h (h.set bN p [.int .u8 (v:Int)]) R.rt:=F.same _ A.ref.lt (λe=>cI e.symm);have aY:cW h (h.set bN p [.int .u8 (v:Int)]) R.bu:=F.same _ A.hB (λe=>cF e.symm);exact⟨_,_,bN,aQ,nc,h3,rfl,nf,dk,⟨A.o9,A.hW,anL,by rw[st.cell];exact A.a3,by rw[st.cell];exact A.cl,let ⟨cap,lo,e⟩:=A.ct;⟨cap,lo,by rw[st.cell];exact e⟩,hc A.wt st,hc A.wl aY,λi c hi ae=>by rw[aY.cell];exact A.kX i c hi ae,A.mR,A.d1,A.d2,A.d3,A.d4,by rw[dW];exact A.hB⟩⟩
end
section
variable{lf:Nat}{h:U}{R:ez}{n N:Nat}{on:Nat->Bool}{q:Nat->Option Nat}{b:Nat->Nat}{now:Int}{us:Nat->Bool}{rd:Nat->Nat->J}{bl:Nat->Nat->Nat}{i:Nat}
theorem aju(A:bP h R n N on q b now us rd)(M:dc N rd bl)(hi:i<N){off t:Nat}{x:J}{l:List Nat}(aK:t<l.length)(aA:off+t<17792)(B:Bytes h x l)(hv:0<bl i (a4 ((off+t)/64)))(PM:bl i (a4 ((off+t)/64))<=n)(eW:on (bl i (a4 ((off+t)/64))-1)=true):
 ∃x1 xr bN lH,ev 278 1 (.ptr R.bu ((i+1)*308+12)) (I (((off+t)/64:Nat):Int))=some (.ptr R.bu ((i+1)*308+(12+(off+t)/64)))/\
  h.cell R.bu ((i+1)*308+(12+(off+t)/64))=some (I (bl i (a4 ((off+t)/64)):Int))/\h.cell R.rt 1=some x1/\dD 1 x1 (I ((bl i (a4 ((off+t)/64))-1:Nat):Int))=some (.ptr R.rb (bl i (a4 ((off+t)/64))-1))/\
  h.cell R.rb (bl i (a4 ((off+t)/64))-1)=some xr/\q (bl i (a4 ((off+t)/64))-1)=some bN/\dD 1 xr (I (((off+t)%64:Nat):Int))=some (.ptr bN ((off+t)%64))/\
  dD 1 x (I (t:Int))=some lH/\b0 lH h=some (.int .u8 ((l.getD t 0:Nat):Int))/\
  st 1 (.ptr bN ((off+t)%64)) (.int .u8 ((l.getD t 0:Nat):Int)) h=some (h.set bN ((off+t)%64) [.int .u8 ((l.getD t 0:Nat):Int)])/\
  bP (h.set bN ((off+t)%64) [.int .u8 ((l.getD t 0:Nat):Int)]) R n N on q (over b ((bl i (a4 ((off+t)/64))-1)*64+(off+t)%64) [l.getD t 0]) now us rd:=by
 have ai:(off+t)/64<278:=by omega
 have uk:ev 278 1 (.ptr R.bu ((i+1)*308+12)) (I (((off+t)/64:Nat):Int))=some (.ptr R.bu ((i+1)*308+(12+(off+t)/64))):=by
  have:=lT (n:=278) (s:=1) (k:=R.bu) (off:=(i+1)*308+12) (kd:= .i64) (i:=(((off+t)/64:Nat):Int)) (by omega) (by omega)
  rwa[Int.toNat_natCast,Nat.mul_one,Nat.add_assoc] at this
 have eI:=mP A M hi (c:=12+(off+t)/64) (by omega) (by omega);rw[qV ai] at eI
 have ae:l.getD t 0<256:=by
  rw[List.getD,List.getElem?_eq_getElem aK];exact B.1 _ (List.getElem_mem aK)
 obtain⟨lH,an,aD⟩:∃lH,dD 1 x (I (t:Int))=some lH/\b0 lH h=some (.int .u8 ((l.getD t 0:Nat):Int)):=by
  rcases B.2 with⟨_,rfl⟩|⟨bM,ob,cap,lo,j2,rfl,_,ey⟩
  ·simp at aK
  ·have b3:=gL (s:=1) (k:=bM) (off:=ob) (len:=l.length) (lo:=lo) (cap:=cap) (kd:= .i64) (i:=(t:Int)) (by omega) (by omega);rw[Int.toNat_natCast,Nat.mul_one] at b3;exact⟨_,b3,ey t aK⟩
 obtain⟨x1,xr,bN,bQ,cn,fl,nj,yP,QT,QU⟩:=A.QZ (j:=bl i (a4 ((off+t)/64))-1) (p:=(off+t)%64) (v:=l.getD t 0) (by omega) eW (by omega) ae;exact⟨x1,xr,bN,lH,uk,eI,bQ,cn,fl,nj,yP,an,aD,QT,QU⟩
theorem ajv{C:ad}(A:bP h R n N on q b now us rd)(M:dc N rd bl)(hi:i<N){off t:Nat}{x:J}{l:List Nat}(aK:t<l.length)(aA:off+t<17792)(B:Bytes h x l)(hv:0<bl i (a4 ((off+t)/64)))(PM:bl i (a4 ((off+t)/64))<=n)(eW:on (bl i (a4 ((off+t)/64))-1)=true){h0:U}(ahy:Bytes h0 x l)
 (hlen:l.length<=140737488351232)(m9:C (.fn 106) [.ptr R.rt 0,I ((i+1:Nat):Int),I (((off+t)/64:Nat):Int)] h0=some (.ret (.bool true),h))(fI:dz)(aB:br):
 ∃h' bN,uG C lf fI aB (some (.ptr R.rt 0)) (some (I ((i+1:Nat):Int))) (some (I (off:Int))) (some x) (some (.ptr R.bu ((i+1)*308))) (some (I (t:Int))) h0=
   fI (some (.ptr R.rt 0)) (some (I ((i+1:Nat):Int))) (some (I (off:Int))) (some x) (some (.ptr R.bu ((i+1)*308))) (some (I ((t+1:Nat):Int))) h'/\
  bP h' R n N on q (over b ((bl i (a4 ((off+t)/64))-1)*64+(off+t)%64) [l.getD t 0]) now us rd/\q (bl i (a4 ((off+t)/64))-1)=some bN/\aN h h' (· =bN):=by
 obtain⟨x1,xr,bN,lH,s1,s2,eZ,ff,oS,tC,afW,azv,azw,azr,azs⟩:=aju A M hi aK aA B hv PM eW;have aJ:=qM (P:=ax) Tryd.underlying24 ahy;have fv:n<=4096:=A.ref.v.choose_spec.choose_spec.2.2.cF;have d1:decide ((t:Int)<(l.length:Int))=true:=bw (by omega);have jl:IntKind.i64.wrap ((off:Int)+(t:Int))=((off+t:Nat):Int):=cH (by omega);have d2:decide (((off+t:Nat):Int)<17792)=true:=bw (by omega)
 have aZ:IntKind.i64.wrap (((off+t:Nat):Int).tdiv 64)=(((off+t)/64:Nat):Int):=by
  rw[Int.tdiv_eq_ediv_of_nonneg (by omega),wrap_i64 (by omega) (by omega)];rfl
 have aI:((off+t:Nat):Int).tmod 64=(((off+t)%64:Nat):Int):=by
  rw[Int.tmod_eq_emod_of_nonneg (by omega)];rfl
 have ki:IntKind.i64.wrap ((bl i (a4 ((off+t)/64)):Int)-1)=((bl i (a4 ((off+t)/64))-1:Nat):Int):=cH (by omega);have dy:IntKind.i64.wrap ((t:Int)+1)=((t+1:Nat):Int):=cH (by omega);refine⟨_,bN,?_,azs,tC,fO rfl⟩;unfold uG;simp only[aE,aJ,d1,jl,d2,lJ (show(64:Int)≠0 by omega),aZ,m9,Bool.not_true,s1,s2,ki,eZ,ff,oS,hQ (show(64:Int)≠0 by omega),aI,azv,azw,afW,azr,dy]
end
def jv(n i off:Nat)(l:List Nat):Nat->Nat->dF->dF×Nat
 |0,t,s=>(s,t)
 |g+1,t,s=>if t<l.length/\off+t<17792 then
   (if(bI n i ((off+t)/64) s).2=true then
     jv n i off l g (t+1) ⟨(bI n i ((off+t)/64) s).1.wd,
      over (bI n i ((off+t)/64) s).1.b (((bI n i ((off+t)/64) s).1.bl i (a4 ((off+t)/64))-1)*64+(off+t)%64) [l.getD t 0],
      (bI n i ((off+t)/64) s).1.nd,(bI n i ((off+t)/64) s).1.bl⟩
   else((bI n i ((off+t)/64) s).1,t)) else(s,t)
theorem af8{i' c i:Nat}(ae:c<12):∀{zs js:List Nat} {rd:Nat->Nat->J},(∀z∈zs,12<=z/\z<308)->pW rd i zs js i' c=rd i' c
 | [],_,_,_=>by simp[pW]
 |_::_,[],_,_=>by simp[pW]
 |z::zs,j::js,rd,h=>by
  show pW (cO rd i z _) i zs js i' c=_;rw[af8 ae λx ao=>h x (List.mem_cons_of_mem _ ao),ha _ _ (.inr (by have:=(h z (List.mem_cons_self ..)).1;omega))]
theorem iK.over{on:Nat->Bool}{b b':Nat->Nat}(h:iK on b b')(p:Nat)(l:List Nat):iK on (Eva.over b p l) (Eva.over b' p l):=λj aa=>by
 unfold Eva.over;split
 ·rfl
 ·exact h j aa
section
variable{lf:Nat}{h:U}{R:ez}{n N:Nat}{now:Int}{us:Nat->Bool}{i:Nat}
theorem azm{C:ad}(Mk:Gc C)(hi:i<N){off:Nat}(jH:off<17792){x:J}{l:List Nat}(hlen:l.length<=140737488351232)(ao:∀j,rowOf x=some j->j≠R.ro/\j≠R.rb/\j≠R.bu)(aB:br):
 ∀(g t:Nat),min l.length (17792-off)-t<=g->t<=min l.length (17792-off)->∀f,g<f->∀h s rd q b2,pg n N s->bP h R n N (bU s.wd) q b2 now us rd->dc N rd s.bl->iK (bU s.wd) s.b b2->Bytes h x l->(∀j,rowOf x=some j->j<h.next/\∀u,q u≠some j)->
 ∃h' cr hn nA,bp (yA C lf aB) f (some (.ptr R.rt 0),some (I ((i+1:Nat):Int)),some (I (off:Int)),some x,some (.ptr R.bu ((i+1)*308)),some (I (t:Int))) h=
   aB (some (.ptr R.rt 0)) (some (I (off:Int))) (some (.ptr R.bu ((i+1)*308))) (some (I ((jv n i off l g t s).2:Int))) h'/\
  bP h' R n N (bU (jv n i off l g t s).1.wd) hn nA now us cr/\dc N cr (jv n i off l g t s).1.bl/\iK (bU (jv n i off l g t s).1.wd) (jv n i off l g t s).1.b nA/\(∀i' c,c<12->cr i' c=rd i' c)/\
  (∀u k,hn u=some k->q u=some k\/h.next<=k)/\aN h h' (λj=>j=R.ro\/j=R.rb\/j=R.bu\/∃u,q u=some j):=by
 intro g
 induction g with
 |zero=>
  intro t bd aK f ak h s rd q b2 W A M jy B qy;obtain⟨f,rfl⟩:=dE f (by omega);have aJ:=qM (P:=ax) Tryd.underlying24 B;refine⟨h,rd,q,b2,?_,A,M,jy,λ_ _ _=>rfl,λ_ _ e=> .inl e,aN.refl _ _⟩;rw[dh];unfold yA uG;by_cases h1:(t:Int)<(l.length:Int)
  ·have jl:IntKind.i64.wrap ((off:Int)+(t:Int))=((off+t:Nat):Int):=cH (by omega);have d2:decide (((off+t:Nat):Int)<17792)=false:=bq (by omega);simp only[aE,aJ,bw h1,jl,d2];rfl
  ·simp only[aE,aJ,bq h1,iw];rfl
 |succ g ba=>
  intro t bd aK f ak h s rd q b2 W A M jy B qy;obtain⟨f,rfl⟩:=dE f (by omega);have aJ:=qM (P:=ax) Tryd.underlying24 B;rw[dh];show ∃h' cr hn nA,uG C lf (λx0 x1 x2 x3 aW x11 h=>bp (yA C lf aB) f (x0,x1,x2,x3,aW,x11) h) aB (some (.ptr R.rt 0)) (some (I ((i+1:Nat):Int))) (some (I (off:Int))) (some x) (some (.ptr R.bu ((i+1)*308))) (some (I (t:Int))) h=_/\_;by_cases ae:t<l.length/\off+t<17792
  ·obtain⟨aQ,a3⟩:=ae;have ai:(off+t)/64<278:=by omega
   have hw:jv n i off l (g+1) t s=if(bI n i ((off+t)/64) s).2=true then
    jv n i off l g (t+1) ⟨(bI n i ((off+t)/64) s).1.wd,
     over (bI n i ((off+t)/64) s).1.b (((bI n i ((off+t)/64) s).1.bl i (a4 ((off+t)/64))-1)*64+(off+t)%64) [l.getD t 0],
     (bI n i ((off+t)/64) s).1.nd,(bI n i ((off+t)/64) s).1.bl⟩
    else((bI n i ((off+t)/64) s).1,t):=by
    show(if t<l.length/\off+t<17792 then _ else _)=_;rw[if_pos ⟨aQ,a3⟩]
   rw[hw];obtain⟨bQ,cn⟩:=yR ai;obtain⟨k1,k2,gN⟩:=Mk h R n N (bU s.wd) q b2 now us rd s.bl i ((off+t)/64) A M hi ai;have jD:=Oj (i:=i) W hi ai
   have rest:∀h1 jr ei gW,C (.fn 106) [.ptr R.rt 0,I ((i+1:Nat):Int),I (((off+t)/64:Nat):Int)] h=some (.ret (.bool true),h1)->(bI n i ((off+t)/64) s).2=true->
    bP h1 R n N (bU (bI n i ((off+t)/64) s).1.wd) ei gW now us jr->dc N jr (bI n i ((off+t)/64) s).1.bl->iK (bU (bI n i ((off+t)/64) s).1.wd) (bI n i ((off+t)/64) s).1.b gW->(∀i' c,c<12->jr i' c=rd i' c)->
    (∀u k,ei u=some k->q u=some k\/h.next<=k)->aN h h1 (λj=>j=R.ro\/j=R.rb\/j=R.bu)->
    ∃h' cr hn nA,uG C lf (λx0 x1 x2 x3 aW x11 h=>bp (yA C lf aB) f (x0,x1,x2,x3,aW,x11) h) aB (some (.ptr R.rt 0)) (some (I ((i+1:Nat):Int))) (some (I (off:Int))) (some x) (some (.ptr R.bu ((i+1)*308))) (some (I (t:Int))) h=
      aB (some (.ptr R.rt 0)) (some (I (off:Int))) (some (.ptr R.bu ((i+1)*308))) (some (I ((jv n i off l g (t+1) ⟨(bI n i ((off+t)/64) s).1.wd,
       over (bI n i ((off+t)/64) s).1.b (((bI n i ((off+t)/64) s).1.bl i (a4 ((off+t)/64))-1)*64+(off+t)%64) [l.getD t 0],(bI n i ((off+t)/64) s).1.nd,(bI n i ((off+t)/64) s).1.bl⟩).2:Int))) h'/\
     bP h' R n N (bU (jv n i off l g (t+1) ⟨(bI n i ((off+t)/64) s).1.wd,over (bI n i ((off+t)/64) s).1.b (((bI n i ((off+t)/64) s).1.bl i (a4 ((off+t)/64))-1)*64+(off+t)%64) [l.getD t 0],(bI n i ((off+t)/64) s).1.nd,(bI n i ((off+t)/64) s).1.bl⟩).1.wd) hn nA now us cr/\
     dc N cr (jv n i off l g (t+1) ⟨(bI n i ((off+t)/64) s).1.wd,over (bI n i ((off+t)/64) s).1.b (((bI n i ((off+t)/64) s).1.bl i (a4 ((off+t)/64))-1)*64+(off+t)%64) [l.getD t 0],(bI n i ((off+t)/64) s).1.nd,(bI n i ((off+t)/64) s).1.bl⟩).1.bl/\
     iK (bU (jv n i off l g (t+1) ⟨(bI n i ((off+t)/64) s).1.wd,over (bI n i ((off+t)/64) s).1.b (((bI n i ((off+t)/64) s).1.bl i (a4 ((off+t)/64))-1)*64+(off+t)%64) [l.getD t 0],(bI n i ((off+t)/64) s).1.nd,(bI n i ((off+t)/64) s).1.bl⟩).1.wd) (jv n i off l g (t+1) ⟨(bI n i ((off+t)/64) s).1.wd,over (bI n i ((off+t)/64) s).1.b (((bI n i ((off+t)/64) s).1.bl i (a4 ((off+t)/64))-1)*64+(off+t)%64) [l.getD t 0],(bI n i ((off+t)/64) s).1.nd,(bI n i ((off+t)/64) s).1.bl⟩).1.b nA/\
     (∀i' c,c<12->cr i' c=rd i' c)/\(∀u k,hn u=some k->q u=some k\/h.next<=k)/\aN h h' (λj=>j=R.ro\/j=R.rb\/j=R.bu\/∃u,q u=some j):=λh1 jr ei gW m9 ag b7 hO ahA pH vd aL=>by
    have tb:=Oi ag;generalize(bI n i ((off+t)/64) s).1=s1 at *;have abv:Bytes h1 x l:=B.frame λbM ob len cap lo e=>aL.same bM (qy bM (by rw[e];rfl)).1 (λaw=>by have:=ao bM (by rw[e];rfl);omega)
    obtain⟨h2,bN,aw,c9,fJ,bF⟩:=ajv (lf:=lf) (C:=C) b7 hO hi aQ a3 abv tb (jD.M.le i _) (jD.M.on i _ hi bQ cn tb) B hlen m9 (λx0 x1 x2 x3 aW x11 h=>bp (yA C lf aB) f (x0,x1,x2,x3,aW,x11) h) aB
    have ano:∀j,rowOf x=some j->j≠bN:=λj aa e=>by
     rcases vd _ _ fJ with ch|ch
     ·exact(qy j aa).2 _ (by rw[e];exact ch)
     ·have:=(qy j aa).1;omega
    have amq:Bytes h2 x l:=abv.frame λbM ob len cap lo e=>bF.same bM (Nat.lt_of_lt_of_le (qy bM (by rw[e];rfl)).1 aL.next) (ano bM (by rw[e];rfl))
    obtain⟨h3,Vx,oO,ky,c5,dM,fP,lj,r8,Bq,yZ⟩:=ba (t+1) (by omega) (by omega) f (by omega) h2 ⟨s1.wd,over s1.b ((s1.bl i (a4 ((off+t)/64))-1)*64+(off+t)%64) [l.getD t 0],s1.nd,s1.bl⟩ jr ei _ ⟨jD.M,jD.w⟩ c9 hO (ahA.over _ _) amq
     (λj aa=>⟨Nat.lt_of_lt_of_le (qy j aa).1 (Nat.le_trans aL.next bF.next),λu e=>by
       rcases vd _ _ e with ch|ch
       ·exact(qy j aa).2 _ ch
       ·have:=(qy j aa).1;omega⟩)
    refine⟨h3,Vx,oO,ky,aw.trans c5,dM,fP,lj,λi' c ae=>(r8 i' c ae).trans (pH i' c ae),λu k e=>?_,⟨yZ.aH.trans (bF.aH.trans aL.aH),Nat.le_trans aL.next (Nat.le_trans bF.next yZ.next),λj aa aO=>?_,λak=>yZ.dx (bF.dx (aL.dx ak))⟩⟩
    ·rcases Bq u k e with ch|ch
     ·exact vd u k ch
     ·exact .inr (by have:=aL.next;have:=bF.next;omega)
    ·have aZ:∀u,ei u≠some j:=λu e=>by
      rcases vd u j e with ch|ch
      ·exact aO (.inr (.inr (.inr ⟨u,ch⟩)))
      ·omega
     exact(yZ.same j (Nat.lt_of_lt_of_le aa (Nat.le_trans aL.next bF.next)) (λe=>by
      rcases e with e|e|e|⟨u,e⟩
      ·exact aO (.inl e)
      ·exact aO (.inr (.inl e))
      ·exact aO (.inr (.inr (.inl e)))
      ·exact aZ u e)).trans ((bF.same j (Nat.lt_of_lt_of_le aa aL.next) (λe=>aZ _ (by rw[e];exact fJ))).trans (aL.same j aa (λe=>by
      rcases e with e|e|e
      ·exact aO (.inl e)
      ·exact aO (.inr (.inl e))
      ·exact aO (.inr (.inr (.inl e))))))
   by_cases aA:0<s.bl i (a4 ((off+t)/64))
   ·have cS:bI n i ((off+t)/64) s=(s,true):=by unfold bI;rw[if_pos aA]
    have ag:(bI n i ((off+t)/64) s).2=true:=by rw[cS]
    rw[if_pos ag];exact rest h rd q b2 (k1 aA) ag (by rw[cS];exact A) (by rw[cS];exact M) (by rw[cS];exact jy) (λ_ _ _=>rfl) (λ_ _ e=> .inl e) (aN.refl _ _)
   ·have h0:s.bl i (a4 ((off+t)/64))=0:=by omega
    obtain⟨t1,t2,t3⟩:=aly (b2:=b2) hi W ai M jy h0;by_cases ag:(bI n i ((off+t)/64) s).2=true
    ·rw[if_pos ag];obtain⟨h1,ei,cl,b7,_,vd,aL⟩:=gN h0 (t1.1 ag);obtain⟨g1,g2,g3⟩:=t2 ag;exact rest h1 _ ei _ cl ag (by rw[g1];exact b7) g2 g3 (λi' c ae=>af8 ae (aht ai)) vd aL
    ·have hT:(bI n i ((off+t)/64) s).2=false:=by simpa using ag
     rw[if_neg ag];obtain⟨g1,g2,g3,g4⟩:=t3 hT;have cl:=k2 h0 (Nat.lt_of_not_le λh=>ag (t1.2 h));refine⟨h,rd,q,b2,?_,by rw[g1];exact A,by rw[g3];exact M,by rw[g1];exact g4,λ_ _ _=>rfl,λ_ _ e=> .inl e,aN.refl _ _⟩;have d1:decide ((t:Int)<(l.length:Int))=true:=bw (by omega);have jl:IntKind.i64.wrap ((off:Int)+(t:Int))=((off+t:Nat):Int):=cH (by omega);have d2:decide (((off+t:Nat):Int)<17792)=true:=bw (by omega)
     have aZ:IntKind.i64.wrap (((off+t:Nat):Int).tdiv 64)=(((off+t)/64:Nat):Int):=by
      rw[Int.tdiv_eq_ediv_of_nonneg (by omega),wrap_i64 (by omega) (by omega)];rfl
     unfold uG;simp only[aE,aJ,d1,jl,d2,lJ (show(64:Int)≠0 by omega),aZ,cl,Bool.not_false]
  ·have hw:jv n i off l (g+1) t s=(s,t):=by
    show(if t<l.length/\off+t<17792 then _ else _)=_;rw[if_neg ae]
   rw[hw];refine⟨h,rd,q,b2,?_,A,M,jy,λ_ _ _=>rfl,λ_ _ e=> .inl e,aN.refl _ _⟩;unfold uG;by_cases h1:(t:Int)<(l.length:Int)
   ·have jl:IntKind.i64.wrap ((off:Int)+(t:Int))=((off+t:Nat):Int):=cH (by omega);have d2:decide (((off+t:Nat):Int)<17792)=false:=bq (by omega);simp only[aE,aJ,bw h1,jl,d2]
   ·simp only[aE,aJ,bq h1,iw]
end
theorem aqh(b:Nat->Nat)(p c:Nat)(l:List Nat):over (over b p [c]) (p+1) l=over b p (c::l):=by
 funext j
 unfold over;simp only[List.length_cons,List.length_nil];by_cases h1:j=p
 ·subst h1;rw[if_neg (by omega),if_pos (by omega),if_pos (by omega),Nat.sub_self];rfl
 ·by_cases h2:p+1<=j/\j<p+1+l.length
  ·rw[if_pos h2,if_pos (by omega),show j-p=(j-(p+1))+1 by omega];rfl
  ·rw[if_neg h2,if_neg (by omega),if_neg (by omega)]
theorem adS(b:Nat->Nat)(p:Nat):over b p []=b:=by
 funext j
 unfold over;simp only[List.length_nil];rw[if_neg (by omega)]
section
variable{n i off:Nat}{l:List Nat}
theorem Yt{t:Nat}(h:t<l.length)(h2:off+t<17792):(ew off l).drop t=l.getD t 0::(ew off l).drop (t+1):=by
 have aJ:t<(ew off l).length:=by simp[ew];omega
 rw[List.drop_eq_getElem_cons aJ];congr 1;simp[ew,List.getD,h]
theorem ag5{k:Nat}(g:Nat):∀(m t:Nat) (s:dF),0<s.bl i (a4 k)->(∀u,u<m->(off+(t+u))/64=k)->t+m<=l.length->off+(t+m)<=17792->
 jv n i off l (m+g) t s=jv n i off l g (t+m) ⟨s.wd,over s.b ((s.bl i (a4 k)-1)*64+(off+t)%64) (((ew off l).drop t).take m),s.nd,s.bl⟩
 |0,t,s,_,_,_,_=>by
  rw[Nat.zero_add,Nat.add_zero,List.take_zero,adS]
 |m+1,t,s,aA,ai,h1,h2=>by
  have vN:=ai 0 (by omega);rw[Nat.add_zero] at vN
  have cS:bI n i ((off+t)/64) s=(s,true):=by
   unfold bI;rw[vN,if_pos aA]
  have az:jv n i off l (m+1+g) t s=jv n i off l (m+g) (t+1) ⟨s.wd,over s.b ((s.bl i (a4 k)-1)*64+(off+t)%64) [l.getD t 0],s.nd,s.bl⟩:=by
   rw[show m+1+g=(m+g)+1 by omega];show(if t<l.length/\off+t<17792 then _ else _)=_;rw[if_pos ⟨by omega,by omega⟩,cS,if_pos rfl,vN]
  rw[az,ag5 g m (t+1) ⟨s.wd,over s.b ((s.bl i (a4 k)-1)*64+(off+t)%64) [l.getD t 0],s.nd,s.bl⟩ aA (λu hu=>by have:=ai (u+1) (by omega);rwa[show t+(u+1)=t+1+u by omega] at this) (by omega) (by omega)];rw[show t+1+m=t+(m+1) by omega];cases m with
  |zero=>
   rw[List.take_zero,adS,Yt (by omega) (by omega)];rfl
  |succ m=>
   have abS:=ai 1 (by omega);have aw:(s.bl i (a4 k)-1)*64+(off+(t+1))%64=(s.bl i (a4 k)-1)*64+(off+t)%64+1:=by omega
   show jv n i off l g (t+(m+1+1)) ⟨s.wd,over (over s.b ((s.bl i (a4 k)-1)*64+(off+t)%64) [l.getD t 0]) ((s.bl i (a4 k)-1)*64+(off+(t+1))%64) _,s.nd,s.bl⟩=_;rw[aw,aqh,Yt (t:=t) (by omega) (by omega)];rfl
theorem ag6:∀(g t:Nat) (s:dF),(ew off l).length-t<=g->t<=(ew off l).length->∀eV,(ew off l).length-t<=eV->jv n i off l eV t s=jw n i off (ew off l) g t s
 |0,t,s,bd,aK,eV,am5=>by
  have aJ:(ew off l).length=min l.length (17792-off):=by simp[ew]
  have e:jw n i off (ew off l) 0 t s=(s,t):=rfl;rw[e];cases eV with
  |zero=>rfl
  |succ eV=>
   show(if t<l.length/\off+t<17792 then _ else _)=_;rw[if_neg (by omega)]
 |g+1,t,s,bd,aK,eV,am5=>by
  have aJ:(ew off l).length=min l.length (17792-off):=by simp[ew]
  by_cases ae:t<(ew off l).length
  ·obtain⟨eV,rfl⟩:∃x,eV=x+1:=⟨eV-1,by omega⟩
   have az:jv n i off l (eV+1) t s=if(bI n i ((off+t)/64) s).2=true then
    jv n i off l eV (t+1) ⟨(bI n i ((off+t)/64) s).1.wd,over (bI n i ((off+t)/64) s).1.b (((bI n i ((off+t)/64) s).1.bl i (a4 ((off+t)/64))-1)*64+(off+t)%64) [l.getD t 0],(bI n i ((off+t)/64) s).1.nd,(bI n i ((off+t)/64) s).1.bl⟩
    else((bI n i ((off+t)/64) s).1,t):=by
    show(if t<l.length/\off+t<17792 then _ else _)=_;rw[if_pos ⟨by omega,by omega⟩]
   have aw:jw n i off (ew off l) (g+1) t s=if(bI n i ((off+t)/64) s).2=true then
    jw n i off (ew off l) g (t+min (64-(off+t)%64) ((ew off l).length-t)) ⟨(bI n i ((off+t)/64) s).1.wd,over (bI n i ((off+t)/64) s).1.b (((bI n i ((off+t)/64) s).1.bl i (a4 ((off+t)/64))-1)*64+(off+t)%64) (((ew off l).drop t).take (min (64-(off+t)%64) ((ew off l).length-t))),(bI n i ((off+t)/64) s).1.nd,(bI n i ((off+t)/64) s).1.bl⟩
    else((bI n i ((off+t)/64) s).1,t):=by
    show(if t<(ew off l).length then _ else _)=_;rw[if_pos ae]
   rw[az,aw];by_cases ag:(bI n i ((off+t)/64) s).2=true
   ·rw[if_pos ag,if_pos ag];have tb:=Oi ag;generalize(bI n i ((off+t)/64) s).1=s1 at *;generalize hm:min (64-(off+t)%64) ((ew off l).length-t)=m at *;obtain⟨m,rfl⟩:∃x,m=x+1:=⟨m-1,by omega⟩;have bj:=ag5 (n:=n) (i:=i) (off:=off) (l:=l) (k:=(off+t)/64) (eV-m) (m+1) t s1 tb (λu hu=>by omega) (by omega) (by omega)
    have cS:bI n i ((off+t)/64) s1=(s1,true):=by
     unfold bI;rw[if_pos tb]
    have ch:jv n i off l (m+1+(eV-m)) t s1=jv n i off l eV (t+1) ⟨s1.wd,over s1.b ((s1.bl i (a4 ((off+t)/64))-1)*64+(off+t)%64) [l.getD t 0],s1.nd,s1.bl⟩:=by
     rw[show m+1+(eV-m)=eV+1 by omega];show(if t<l.length/\off+t<17792 then _ else _)=_;rw[if_pos ⟨by omega,by omega⟩,cS,if_pos rfl]
    rw[<- ch,bj];exact ag6 g (t+(m+1)) _ (by omega) (by omega) (eV-m) (by omega)
   ·rw[if_neg ag,if_neg ag]
  ·have az:jw n i off (ew off l) (g+1) t s=(s,t):=by
    show(if t<(ew off l).length then _ else _)=_;rw[if_neg ae]
   rw[az];cases eV with
   |zero=>rfl
   |succ eV=>
    show(if t<l.length/\off+t<17792 then _ else _)=_;rw[if_neg (by omega)]
end
theorem azq{C:ad}{lf:Nat}{r:a0}{x0 x1 x2 x3:O}{h:U}:Va C lf r x0 x1 x2 x3 h=Kh C lf (λx0 x1 x2 x3 h=>Kg C lf r x0 x1 x2 x3 h) r x0 x1 x2 x3 h:=rfl
theorem azp{C:ad}{lf:Nat}{r:a0}{x0 x1 x2 x3 aW:O}{h:U}:Vd C lf r x0 x1 x2 x3 aW h=Ki C lf r x0 x1 x2 x3 aW (some (I 0)) h:=rfl
section
variable{lf:Nat}{h:U}{R:ez}{n N:Nat}{now:Int}{us:Nat->Bool}{i:Nat}
theorem azo{C:ad}{on:Nat->Bool}{q:Nat->Option Nat}{b:Nat->Nat}{rd:Nat->Nat->J}(A:bP h R n N on q b now us rd)(hi:i<N){sz off m:Nat}(dV:rd (i+1) 5=I (sz:Int))(hm:m≠0)(aDD:off+m<=140737488355328)(r:a0):
 ∃h',wA C lf r (some (.ptr R.rt 0)) (some (I (off:Int))) (some (.ptr R.bu ((i+1)*308))) (some (I (m:Int))) h=r (some (I (m:Int))) (some (I 0)) h'/\
  bP h' R n N on q b now us (grown rd (i+1) (max sz (off+m)) now)/\aN h h' (· =R.bu):=by
 have mG:=A.kX (i+1) 5 (by omega) (by omega);rw[dV] at mG;have d0:decide ((m:Int)=0)=false:=bq (by omega);have jl:IntKind.i64.wrap ((off:Int)+(m:Int))=((off+m:Nat):Int):=cH (by omega);have jk:(i+1)*308+1+4=(i+1)*308+5:=rfl;have rB:(i+1)*308+1+8=(i+1)*308+9:=rfl;have kz:(i+1)*308+1+9=(i+1)*308+10:=rfl
 have fin:∀h2 kJ,bP h2 R n N on q b now us kJ->∃h',Vb C lf r (some (.ptr R.rt 0)) (some (.ptr R.bu ((i+1)*308))) (some (I (m:Int))) h2=r (some (I (m:Int))) (some (I 0)) h'/\
  bP h' R n N on q b now us (cO (cO kJ (i+1) 9 (I now)) (i+1) 10 (I now))/\aN h2 h' (· =R.bu):=λh2 kJ c9=>by
  obtain⟨h3,eZ,e9,gl,dp⟩:=km c9 (i:=i+1) (c:=9) (by omega) (by omega) (by omega) now;obtain⟨aU,ff,kr,lg,gC⟩:=km e9 (i:=i+1) (c:=10) (by omega) (by omega) (by omega) now;refine⟨aU,?_,kr,dp.trans gC⟩;unfold Vb;simp only[aE,c9.cl,rB,kz,eZ,ff]
 unfold wA Vc;simp only[aE,d0];unfold afh afg;by_cases bd:sz<off+m
 ·have d1:decide ((sz:Int)<((off+m:Nat):Int))=true:=bw (by omega);obtain⟨h2,s2,c9,cF,bF⟩:=km A (i:=i+1) (c:=5) (by omega) (by omega) (by omega) ((off+m:Nat):Int);obtain⟨h3,eZ,e9,dp⟩:=fin h2 _ c9;refine⟨h3,?_,?_,bF.trans dp⟩
  ·simp only[aE,jl,jk,mG,d1,s2];exact eZ
  ·rw[show max sz (off+m)=off+m by omega];exact e9
 ·have d1:decide ((sz:Int)<((off+m:Nat):Int))=false:=bq (by omega);obtain⟨h3,eZ,e9,dp⟩:=fin h _ A;refine⟨h3,?_,?_,dp⟩
  ·simp only[aE,jl,jk,mG,d1];exact eZ
  ·rw[show max sz (off+m)=sz by omega];unfold grown;rw[agV dV];exact e9
end
section
variable{lf:Nat}{h:U}{R:ez}{n N:Nat}{now:Int}{us:Nat->Bool}{ino:Int}
def W8(h h':U)(R:ez)(n N:Nat)(now:Int)(us:Nat->Bool)(i:Nat)(w:dF×Nat)(sz off:Nat)(rd:Nat->Nat->J)(q:Nat->Option Nat):Prop:=
 ∃cr hn nA,bP h' R n N (bU w.1.wd) hn nA now us (if w.2=0 then cr else grown cr (i+1) (max sz (off+w.2)) now)/\dc N cr w.1.bl/\iK (bU w.1.wd) w.1.b nA/\(∀i' c,c<12->cr i' c=rd i' c)/\
  (∀u k,hn u=some k->q u=some k\/h.next<=k)/\aN h h' (λj=>j=R.ro\/j=R.rb\/j=R.bu\/∃u,q u=some j)
theorem azn{C:ad}(gf:20000<=lf)(lz:p7 C)(Mk:Gc C){s:dF}{q:Nat->Option Nat}{b2:Nat->Nat}{rd:Nat->Nat->J}{off:Int}{x:J}{l:List Nat}(W:pg n N s)(A:bP h R n N (bU s.wd) q b2 now us rd)(M:dc N rd s.bl)(jy:iK (bU s.wd) s.b b2)(B:Bytes h x l)
 (kE:l.length<=140737488351232)(ao:∀j,rowOf x=some j->j<h.next/\¬sa R n q j/\∀u,q u≠some j):
 (db N us ino=false->vA C lf (.ptr R.rt 0) (I ino) (I off) x h=some (.ret (.bo [I 0,I 2]),h))/\
 (∀i (sz:Nat),jg N us ino i->rd (i+1) 5=I (sz:Int)->(off<0->vA C lf (.ptr R.rt 0) (I ino) (I off) x h=some (.ret (.bo [I 0,I 22]),h))/\
   (0<=off->l=[]->vA C lf (.ptr R.rt 0) (I ino) (I off) x h=some (.ret (.bo [I 0,I 0]),h))/\
   (l≠[]->17792<=off->vA C lf (.ptr R.rt 0) (I ino) (I off) x h=some (.ret (.bo [I 0,I 27]),h))/\
   (l≠[]->0<=off->off<17792->∃h',vA C lf (.ptr R.rt 0) (I ino) (I off) x h=some (.ret (.bo [I ((dT n i off.toNat l s).2:Int),I (if(dT n i off.toNat l s).2=0 then 28 else 0)]),h')/\
     W8 h h' R n N now us i (dT n i off.toNat l s) sz off.toNat rd q)):=by
 have dS:=lz h R n N _ q b2 now us rd ino A;obtain⟨cap,lo,ct⟩:=A.ct;have hlen:=qM (P:=ax) Tryd.underlying24 B;unfold vA;rw[azq];unfold Kh;refine⟨λag=>?_,λi sz b6 dV=>?_⟩
 ·rw[ag] at dS;unfold pt;simp only[aE,dS,Bool.not_false]
 ·rw[b6.yes] at dS;obtain⟨hi,hu,rfl⟩:=b6;simp only[aE,dS,Bool.not_true];unfold Kg Bl;refine⟨λh1=>?_,λh1 h2=>?_,λh1 h2=>?_,λh1 h2 h3=>?_⟩
  ·unfold pt;simp only[aE,bw h1]
  ·have d1:decide (off<0)=false:=bq (by omega);have d2:decide ((l.length:Int)=0)=true:=bw (by rw[h2];rfl);simp only[aE,d1];unfold Bk EY pt;simp only[aE,hlen,d2]
  ·have Dp:=List.length_pos_iff.2 h1;have d1:decide (off<0)=false:=bq (by omega);have d2:decide ((l.length:Int)=0)=false:=bq (by omega);simp only[aE,d1];unfold Bk EY;simp only[aE,hlen,d2];unfold Kf Ke pt;simp only[aE,bw h2]
  ·obtain⟨o,rfl⟩:∃o:Nat,off=o:=⟨off.toNat,by omega⟩;rw[Int.toNat_natCast];have Dp:=List.length_pos_iff.2 h1;have d1:decide ((o:Int)<0)=false:=bq (by omega);have d2:decide ((l.length:Int)=0)=false:=bq (by omega);have d3:decide ((17792:Int)<=(o:Int))=false:=bq (by omega);have ft:(ew o l).length=min l.length (17792-o):=by simp[ew]
   have an4:jv n i o l (ew o l).length 0 s=dT n i o l s:=ag6 (ew o l).length 0 s (by omega) (by omega) _ (by omega)
   obtain⟨h',cr,hn,nA,c5,dM,fP,lj,r8,Bq,yZ⟩:=azm (lf:=lf) (C:=C) (R:=R) (now:=now) (us:=us) Mk hi (off:=o) (by omega) (x:=x) (l:=l) kE (λj aa=>by
    have aU:=(ao j aa).2.1
    exact⟨λe=>aU (.inr (.inr (.inl e))),λe=>aU (.inr (.inr (.inr (.inl e)))),λe=>aU (.inl e)⟩) (λx0 x2 aW x11 h=>wA C lf pt x0 x2 aW x11 h)
    (ew o l).length 0 (by omega) (by omega) lf (by omega) h s rd q b2 W A M jy B (λj aa=>⟨(ao j aa).1,(ao j aa).2.2⟩)
   rw[an4] at c5 dM fP lj;have an7:(dT n i o l s).2<=(ew o l).length:=(Fv (n:=n) (N:=N) (i:=i) (off:=o) (l:=ew o l) (by omega) (i':=i) (c:=0) hi (by omega) (ew o l).length 0 s (by omega) W).2.2.1
   have pre:Bl C lf (λx0 x1 x2 x3 h=>Bk C lf pt x0 x1 x2 x3 h) pt (some (.ptr R.rt 0)) (some (I ((i+1:Nat):Int))) (some (I (o:Int))) (some x) h=
    wA C lf pt (some (.ptr R.rt 0)) (some (I (o:Int))) (some (.ptr R.bu ((i+1)*308))) (some (I ((dT n i o l s).2:Int))) h':=by
    unfold Bl;simp only[aE,d1];unfold Bk EY;simp only[aE,hlen,d2];unfold Kf Ke;simp only[aE,d3];unfold U9 U8;simp only[aE,ct,mj (R:=R) (N:=N) (i:=i+1) (cap:=cap) (lo:=lo) (by omega)];rw[azp];unfold Ki;exact c5
   unfold Bl at pre;rw[pre];by_cases a1:(dT n i o l s).2=0
   ·refine⟨h',?_,cr,hn,nA,by rw[if_pos a1];exact dM,fP,lj,r8,Bq,yZ⟩;have d4:decide (((dT n i o l s).2:Int)=0)=true:=bw (by omega);unfold wA Vc pt;rw[if_pos a1];simp only[aE,d4];rw[a1];rfl
   ·obtain⟨h2,aw,c9,bF⟩:=azo (lf:=lf) (C:=C) dM hi (sz:=sz) (off:=o) (m:=(dT n i o l s).2) (by rw[r8 _ _ (by omega)];exact dV) a1 (by omega) pt;refine⟨h2,?_,cr,hn,nA,by rw[if_neg a1];exact c9,fP,lj,r8,Bq,yZ.trans (bF.eb λ_ e=> .inr (.inr (.inl e)))⟩;rw[aw,if_neg a1];unfold pt;simp only[cg,cf]
end
def pn(bl:Nat->Nat->Nat)(b:Nat->Nat)(i p:Nat):Nat:=if bl i (a4 (p/64))=0 then 0 else b ((bl i (a4 (p/64))-1)*64+p%64)
def nF(bl:Nat->Nat->Nat)(b:Nat->Nat)(i off n:Nat):List Nat:=(List.range n).map λj=>pn bl b i (off+j)
theorem Yl(bl:Nat->Nat->Nat)(b:Nat->Nat)(i off n:Nat):nF bl b i off (n+1)=nF bl b i off n++[pn bl b i (off+n)]:=by
 simp[nF,List.range_succ]
theorem GO(bl:Nat->Nat->Nat)(b:Nat->Nat)(i off n:Nat):(nF bl b i off n).length=n:=by simp[nF]
section
variable{lf:Nat}{h h0:U}{R:ez}{n N:Nat}{on:Nat->Bool}{q:Nat->Option Nat}{b:Nat->Nat}{now:Int}{us:Nat->Bool}{rd:Nat->Nat->J}{bl:Nat->Nat->Nat}{i:Nat}
theorem bP.al0(A:bP h R n N on q b now us rd){j p:Nat}(aa:j<n)(eW:on j=true)(aA:p<64):
 ∃x1 x lH,h.cell R.rt 1=some x1/\dD 1 x1 (I (j:Int))=some (.ptr R.rb j)/\h.cell R.rb j=some x/\dD 1 x (I (p:Int))=some lH/\b0 lH h=some (.int .u8 (b (j*64+p):Int)):=by
 obtain⟨x0,x1,c0,aQ,V⟩:=A.ref.v;obtain⟨cap,lo,rfl⟩:=V.az;have fv:=V.cF;cases aZ:q j with
 |none=>
  have:=(V.off j aa aZ).1
  rw[eW] at this;cases this
 |some bN=>
  obtain⟨h1,h2,x,h3,aU⟩:=V.has j bN aa aZ;have B:=aU.jF eW;obtain⟨MK,Qt,rfl⟩:=B.aY;have nc:=gL (s:=1) (k:=R.rb) (off:=0) (len:=n) (lo:=lo) (cap:=cap) (kd:= .i64) (i:=(j:Int)) (by omega) (by omega);rw[Int.toNat_natCast,Nat.mul_one,Nat.zero_add] at nc;have nf:=gL (s:=1) (k:=bN) (off:=0) (len:=64) (lo:=Qt) (cap:=MK) (kd:= .i64) (i:=(p:Int)) (by omega) (by omega);rw[Int.toNat_natCast,Nat.mul_one,Nat.zero_add] at nf;exact⟨_,_,_,aQ,nc,h3,nf,B.cs p aA⟩
end
section
open Classical
structure hV (n N:Nat) (on:Nat->Bool) (bl:Nat->Nat->Nat):Prop where
 le:∀i c,i<N->12<=c->c<308->bl i c<=n
 on:∀i c,i<N->12<=c->c<308->0<bl i c->on (bl i c-1)=true
 inj:∀i c i' a2,i<N->12<=c->c<308->i'<N->12<=a2->a2<308->0<bl i c->bl i c=bl i' a2->i=i'/\c=a2
theorem cR.nC{n N:Nat}{wd:Nat->Nat}{nd:Nat->Nat->J}{bl:Nat->Nat->Nat}(M:cR n N wd nd bl):hV n N (bU wd) bl:=⟨λi c _ _ _=>M.le i c,M.on,M.inj⟩
theorem I3{c:Nat}(h1:12<=c)(h2:c<308):12<=pm c/\pm c<308:=by
 unfold pm;by_cases a:c<290
 ·rw[if_pos a];exact⟨qT,r6 (by omega)⟩
 ·rw[if_neg a];by_cases b:c=290
  ·rw[if_pos b];omega
  ·rw[if_neg b];by_cases d:c=307
   ·rw[if_pos d];omega
   ·rw[if_neg d];omega
structure j6 (h h':U) (R:ez) (n N:Nat) (on di:Nat->Bool) (q:Nat->Option Nat) (b:Nat->Nat) (now:Int) (us:Nat->Bool) (rd cr:Nat->Nat->J) (bl:Nat->Nat->Nat) (i:Nat) (S:Nat->Prop):Prop where
 A:bP h' R n N di q b now us cr
 M:dc N cr (dA bl i S)
 L:∀i' c,c<12->cr i' c=rd i' c
 K:hV n N di (dA bl i S)
 O:∀j,di j=true↔(on j=true/\∀c,12<=c->c<308->S c->bl i c≠j+1)
 F:aN h h' (λj=>j=R.ro\/j=R.bu)
section
variable{lf:Nat}{h h' fh:U}{R:ez}{n N:Nat}{on di adK:Nat->Bool}{q:Nat->Option Nat}{b:Nat->Nat}{now:Int}{us:Nat->Bool}{rd cr afx:Nat->Nat->J}{bl:Nat->Nat->Nat}{i:Nat}{S e4:Nat->Prop}
theorem j6.refl(A:bP h R n N on q b now us rd)(M:dc N rd bl)(K:hV n N on bl)(eu:∀c,¬S c):j6 h h R n N on on q b now us rd rd bl i S:=
 ⟨A,by rw[MQ bl i eu];exact M,λ_ _ _=>rfl,by rw[MQ bl i eu];exact K,λj=>⟨λe=>⟨e,λc _ _ ae=>absurd ae (eu c)⟩,λe=>e.1⟩,aN.refl _ _⟩
theorem j6.trans(a:j6 h h' R n N on di q b now us rd cr bl i S)(c:j6 h' fh R n N di adK q b now us cr afx (dA bl i S) i e4):j6 h fh R n N on adK q b now us rd afx bl i (λc=>S c\/e4 c):=by
 refine⟨c.A,by rw[<- Cl];exact c.M,λi' t aK=>(c.L i' t aK).trans (a.L i' t aK),by rw[<- Cl];exact c.K,λj=>?_,a.F.trans c.F⟩;rw[c.O,a.O];constructor
 ·rintro ⟨⟨h1,h2⟩,h3⟩
  refine⟨h1,λc dB ae eu=>?_⟩;by_cases e:S c
  ·exact h2 c dB ae e
  ·have:=h3 c dB ae (eu.resolve_left e)
   rw[iM (λx=>e x.2)] at this;exact this
 ·rintro ⟨h1,h2⟩
  refine⟨⟨h1,λc dB ae eu=>h2 c dB ae (.inl eu)⟩,λc dB ae eu=>?_⟩;by_cases e:S c
  ·rw[om e];omega
  ·rw[iM (λx=>e x.2)];exact h2 c dB ae (.inr eu)
theorem j6.wide(a:j6 h h' R n N on di q b now us rd cr bl i S)(h1:∀c,12<=c->c<308->S c->e4 c)(h2:∀c,12<=c->c<308->e4 c->S c\/bl i c=0):j6 h h' R n N on di q b now us rd cr bl i e4:=by
 have e:∀i' c,12<=c->c<308->dA bl i e4 i' c=dA bl i S i' c:=λi' c k1 k2=>by
  by_cases e:i'=i/\S c
  ·rw[e.1,om e.2,om (h1 c k1 k2 e.2)]
  ·rw[iM e];by_cases bh:i'=i/\e4 c
   ·rw[bh.1,om bh.2];rcases h2 c k1 k2 bh.2 with x|x
    ·exact absurd ⟨bh.1,x⟩ e
    ·exact x.symm
   ·rw[iM bh]
 refine⟨a.A,λi' c hi k1 k2=>?_,a.L,⟨λi' c hi k1 k2=>?_,λi' c hi k1 k2=>?_,λi1 aQ i2 a3 nc an aD nf bR b2=>?_⟩,λj=>?_,a.F⟩
 ·obtain⟨bQ,cn⟩:=I3 k1 k2;rw[e _ _ bQ cn];exact a.M i' c hi k1 k2
 ·rw[e _ _ k1 k2];exact a.K.le i' c hi k1 k2
 ·rw[e _ _ k1 k2];exact a.K.on i' c hi k1 k2
 ·rw[e _ _ an aD,e _ _ bR b2];exact a.K.inj i1 aQ i2 a3 nc an aD nf bR b2
 ·rw[a.O]
  exact⟨λx=>⟨x.1,λc k1 k2 ae=>by
   rcases h2 c k1 k2 ae with y|y
   ·exact x.2 c k1 k2 y
   ·omega⟩,λx=>⟨x.1,λc k1 k2 ae=>x.2 c k1 k2 (h1 c k1 k2 ae)⟩⟩
theorem j6.ext(a:j6 h h' R n N on di q b now us rd cr bl i S)(eu:∀c,12<=c->c<308->(S c↔e4 c)):j6 h h' R n N on di q b now us rd cr bl i e4:=
 a.wide (λc h1 h2=>(eu c h1 h2).1) (λc h1 h2 x=> .inl ((eu c h1 h2).2 x))
theorem Vz{C:ad}(Fr:w9 C)(A:bP h R n N on q b now us rd)(M:dc N rd bl)(K:hV n N on bl)(hi:i<N){c:Nat}(dB:12<=c)(ae:c<308)(hv:0<bl i (pm c)):
 ∃h1 h2 di cr,C (.fn 67) [.ptr R.rt 0,I ((bl i (pm c)-1:Nat):Int)] h=some (.ret (I 0),h1)/\st 1 (.ptr R.bu ((i+1)*308+c)) (I 0) h1=some h2/\j6 h h2 R n N on di q b now us rd cr bl i (· =pm c):=by
 obtain⟨bQ,cn⟩:=I3 dB ae;have hle:=K.le i _ hi bQ cn;have eW:=K.on i _ hi bQ cn hv
 have iU:k9 n on ((bl i (pm c)-1:Nat):Int)=true:=by
  have d1:decide ((0:Int)<=((bl i (pm c)-1:Nat):Int))=true:=bw (by omega);have d2:decide (((bl i (pm c)-1:Nat):Int)<(n:Int))=true:=bw (by omega);simp only[k9,d1,d2,Int.toNat_natCast,eW,Bool.and_self]
 obtain⟨h1,aQ,Gt,aL,cI⟩:=(Fr h R.rt R.ro R.rb n on q b _ A.ref).2 iU;rw[Int.toNat_natCast] at Gt;have b7:=A.store Gt (aL.eb λ_ e=> .inl e) A.d4;obtain⟨h2,s2,c9,cF,bF⟩:=km b7 (i:=i+1) (c:=c) (by omega) (by omega) ae 0
 have aca:∀j,c3 on (bl i (pm c)-1) false j=true↔(on j=true/\bl i (pm c)≠j+1):=λj=>by
  by_cases e:j=bl i (pm c)-1
  ·subst e;rw[kN];exact⟨λx=>(by cases x),λx=>absurd x.2 (by omega)⟩
  ·rw[ig _ _ e];exact⟨λx=>⟨x,by omega⟩,λx=>x.1⟩
 have ft:∀i' a2,¬(i'=i/\a2=pm c)->dA bl i (· =pm c) i' a2=bl i' a2:=λi' a2 e=>iM e
 have a1:∀a2,a2=pm c->dA bl i (· =pm c) i a2=0:=λa2 e=>om (S:=(· =pm c)) e
 refine⟨h1,h2,_,_,aQ,s2,c9,λi' a2 cA an aD=>?_,λi' a2 fi=>ha _ _ (by omega),⟨λi' a2 cA an aD=>?_,λi' a2 cA an aD a7=>?_,λi1 aQ i2 a3 nc an aD nf bR b2 az aw=>?_⟩,λj=>?_,(aL.eb λ_ e=> .inl e).trans (bF.eb λ_ e=> .inr e)⟩
 ·by_cases e:i'=i/\a2=c
  ·rw[e.1,e.2,mS,a1 _ rfl];rfl
  ·rw[ha _ _ (by omega),ft _ _ (λx=>e ⟨x.1,ad6 an aD dB ae x.2⟩)];exact M i' a2 cA an aD
 ·by_cases e:i'=i/\a2=pm c
  ·rw[e.1,a1 _ e.2];exact Nat.zero_le _
  ·rw[ft _ _ e];exact K.le i' a2 cA an aD
 ·by_cases e:i'=i/\a2=pm c
  ·rw[e.1,a1 _ e.2] at a7;exact absurd a7 (Nat.lt_irrefl _)
  ·rw[ft _ _ e] at a7⊢;refine(aca _).2 ⟨K.on i' a2 cA an aD a7,λx=>e ?_⟩
   have:=K.inj i (pm c) i' a2 hi bQ cn cA an aD hv (by omega)
   exact⟨this.1.symm,this.2.symm⟩
 ·by_cases e:i1=i/\aQ=pm c
  ·rw[e.1,a1 _ e.2] at az;exact absurd az (Nat.lt_irrefl _)
  ·rw[ft _ _ e] at az aw;by_cases bh:i2=i/\a3=pm c
   ·rw[bh.1,a1 _ bh.2] at aw;omega
   ·rw[ft _ _ bh] at aw;exact K.inj i1 aQ i2 a3 nc an aD nf bR b2 az aw
 ·rw[aca];exact⟨λx=>⟨x.1,λa2 _ _ e=>by rw[e];exact x.2⟩,λx=>⟨x.1,x.2 _ bQ cn rfl⟩⟩
end
end
section
open Classical
section
variable{lf:Nat}{R:ez}{n N:Nat}{q:Nat->Option Nat}{b:Nat->Nat}{now:Int}{us:Nat->Bool}{i:Nat}
theorem tx{k m o:Nat}(ai:k<m):ev m 1 (.ptr R.bu ((i+1)*308+o)) (I (k:Int))=some (.ptr R.bu ((i+1)*308+(o+k))):=by
 have:=lT (n:=m) (s:=1) (k:=R.bu) (off:=(i+1)*308+o) (kd:= .i64) (i:=(k:Int)) (by omega) (by omega)
 rwa[Int.toNat_natCast,Nat.mul_one,Nat.add_assoc] at this
theorem Vy{C:ad}(Fr:w9 C)(aB:a0)(hi:i<N):∀(d m:Nat) (h:U) (on:Nat->Bool) (rd:Nat->Nat->J) (bl:Nat->Nat->Nat),m+d=278->∀f,d<f->bP h R n N on q b now us rd->dc N rd bl->hV n N on bl->
 ∃h' di cr,bp (AK C lf aB) f (some (.ptr R.rt 0),some (.ptr R.bu ((i+1)*308)),some (I (m:Int))) h=aB (some (.ptr R.rt 0)) (some (.ptr R.bu ((i+1)*308))) h'/\
  j6 h h' R n N on di q b now us rd cr bl i (gP m 278)
 |0,m,h,on,rd,bl,hm,f,ak,A,M,K=>by
  obtain⟨f,rfl⟩:=dE f (by omega);have a8:decide ((m:Int)<278)=false:=bq (by omega);refine⟨h,on,rd,?_,j6.refl A M K λc ⟨j,a,aD,_⟩=>by omega⟩;rw[dh];unfold AK Es;simp only[aE,a8]
 |d+1,m,h,on,rd,bl,hm,f,ak,A,M,K=>by
  obtain⟨f,rfl⟩:=dE f (by omega);have a8:decide ((m:Int)<278)=true:=bw (by omega);have dy:IntKind.i64.wrap ((m:Int)+1)=((m+1:Nat):Int):=cH (by omega);have b3:=tx (R:=R) (i:=i) (k:=m) (m:=278) (o:=12) (by omega);have eI:=mP A M hi (c:=12+m) (by omega) (by omega);have vR:=qV (k:=m) (by omega)
  have eu:∀c,12<=c->c<308->((c=a4 m\/gP (m+1) 278 c)↔gP m 278 c):=λc _ _=>by
   constructor
   ·rintro (e|⟨j,a,aD,e⟩)
    ·exact⟨m,Nat.le_refl _,by omega,e⟩
    ·exact⟨j,by omega,aD,e⟩
   ·rintro ⟨j,a,aD,e⟩
    by_cases akU:j=m
    ·exact .inl (by rw[e,akU])
    ·exact .inr ⟨j,by omega,aD,e⟩
  rw[dh];show ∃h' di cr,Es C lf (λx0 aM x7 h=>bp (AK C lf aB) f (x0,aM,x7) h) aB (some (.ptr R.rt 0)) (some (.ptr R.bu ((i+1)*308))) (some (I (m:Int))) h=_/\_;unfold Es;by_cases hv:0<bl i (a4 m)
  ·rw[vR] at eI;obtain⟨h1,h2,gY,jr,aQ,s1,fy⟩:=Vz Fr A M K hi (c:=12+m) (by omega) (by omega) (by rw[vR];exact hv);rw[vR] at aQ fy;obtain⟨h3,kH,kJ,aw,p3⟩:=Vy Fr aB hi d (m+1) h2 gY jr _ (by omega) f (by omega) fy.A fy.M fy.K;have d1:decide ((0:Int)<(bl i (a4 m):Int))=true:=bw (by omega)
   have jZ:IntKind.i64.wrap ((bl i (a4 m):Int)-1)=((bl i (a4 m)-1:Nat):Int):=by
    have:=K.le i (a4 m) hi qT (r6 (by omega))
    have fv:n<=4096:=A.ref.v.choose_spec.choose_spec.2.2.cF;rw[wrap_i64 (by omega) (by omega)];omega
   refine⟨h3,kH,kJ,?_,(fy.trans p3).ext eu⟩;simp only[aE,a8,b3,eI,d1,jZ,aQ,s1,dy];exact aw
  ·rw[vR] at eI;have d1:decide ((0:Int)<(bl i (a4 m):Int))=false:=bq (by omega);obtain⟨h3,kH,kJ,aw,p3⟩:=Vy Fr aB hi d (m+1) h on rd bl (by omega) f (by omega) A M K;refine⟨h3,kH,kJ,?_,?_⟩
   ·simp only[aE,a8,b3,eI,d1,dy];exact aw
   ·exact p3.wide (λc h1 h2 e=>(eu c h1 h2).1 (.inr e)) (λc h1 h2 e=>by
     rcases(eu c h1 h2).2 e with e|e
     ·subst e;exact .inr (by omega)
     ·exact .inl e)
end
end
section
open Classical
def dm(g:Nat):Nat:=if g=0 then 18 else 36+17*(g-1)
theorem ad5{g:Nat}(bd:g<17):pm (290+g)=dm g:=by
 unfold dm;by_cases h:g=0
 ·rw[if_pos h,h];rfl
 ·rw[if_neg h,ad4 (by omega) (by omega)]
theorem HR{g j:Nat}(aa:j<16):a4 (6+g*16+j)=dm g+(1+j):=by
 unfold dm a4;by_cases h:g=0
 ·subst h;rw[if_pos rfl,if_neg (by omega),if_pos (by omega)];omega
 ·rw[if_neg h,if_neg (by omega),if_neg (by omega)];have h1:(6+g*16+j-22)/16=g-1:=by omega
  have h2:(6+g*16+j-22)%16=j:=by omega
  rw[h1,h2];omega
theorem aa8{g:Nat}(bd:g<17):12<=dm g/\dm g+17<=308:=by
 unfold dm;split<;>omega
theorem alU{g eV j:Nat}(aa:j<16):dm g≠dm eV+(1+j):=by
 unfold dm;split<;>split<;>omega
def C1(bl:Nat->Nat->Nat)(i p:Nat)(c:Nat):Prop:=∃g,p<=g/\g<17/\c=dm g/\hole bl i (dm g)=true
section
variable{lf:Nat}{R:ez}{n N:Nat}{q:Nat->Option Nat}{b:Nat->Nat}{now:Int}{us:Nat->Bool}{i:Nat}
theorem ac0{C:ad}{h:U}{on:Nat->Bool}{rd:Nat->Nat->J}{bl:Nat->Nat->Nat}{xs:O}(A:bP h R n N on q b now us rd)(M:dc N rd bl)(hi:i<N){g:Nat}(bd:g<17)(ef:dz):∀(d t:Nat) (v:Bool),t+d=16->(v=true↔∃j,j<t/\0<bl i (dm g+(1+j)))->∀f,d<f->
 bp (AL C lf ef) f (some (.ptr R.rt 0),some (.ptr R.bu ((i+1)*308)),xs,some (I (g:Int)),some (.bool v),some (I ((6+g*16+t:Nat):Int)),some (I (g:Int))) h=
  ef (some (.ptr R.rt 0)) (some (.ptr R.bu ((i+1)*308))) xs (some (I (g:Int))) (some (.bool (!hole bl i (dm g)))) (some (I (g:Int))) h
 |0,t,v,aF,hv,f,ak=>by
  obtain⟨f,rfl⟩:=dE f (by omega);have cQ:IntKind.i64.wrap ((g:Int)+1)=((g+1:Nat):Int):=cH (by omega);have cL:IntKind.i64.wrap (((g+1:Nat):Int)*16)=(((g+1)*16:Nat):Int):=cH (by omega);have gy:IntKind.i64.wrap ((6:Int)+(((g+1)*16:Nat):Int))=((6+(g+1)*16:Nat):Int):=cH (by omega);have a8:decide (((6+g*16+t:Nat):Int)<((6+(g+1)*16:Nat):Int))=false:=bq (by omega)
  have cj:v=!hole bl i (dm g):=by
   rw[Bool.eq_iff_iff,hv,Bool.not_eq_true',Bool.eq_false_iff,Ne,oI];constructor
   ·rintro ⟨j,h1,h2⟩ h3
    have:=h3 j (by omega);omega
   ·intro h3;by_cases aU:∃j,j<t/\0<bl i (dm g+(1+j))
    ·exact aU
    ·exact absurd (λj aa=>by
      by_cases bA:0<bl i (dm g+(1+j))
      ·exact absurd ⟨j,by omega,bA⟩ aU
      ·omega) h3
  rw[dh];unfold AL Ep;simp only[aE,cQ,cL,gy,a8];rw[cj]
 |d+1,t,v,aF,hv,f,ak=>by
  obtain⟨f,rfl⟩:=dE f (by omega);have cQ:IntKind.i64.wrap ((g:Int)+1)=((g+1:Nat):Int):=cH (by omega);have cL:IntKind.i64.wrap (((g+1:Nat):Int)*16)=(((g+1)*16:Nat):Int):=cH (by omega);have gy:IntKind.i64.wrap ((6:Int)+(((g+1)*16:Nat):Int))=((6+(g+1)*16:Nat):Int):=cH (by omega);have a8:decide (((6+g*16+t:Nat):Int)<((6+(g+1)*16:Nat):Int))=true:=bw (by omega);have dy:IntKind.i64.wrap (((6+g*16+t:Nat):Int)+1)=((6+g*16+(t+1):Nat):Int):=cH (by omega);have b3:=tx (R:=R) (i:=i) (k:=6+g*16+t) (m:=278) (o:=12) (by omega);have eI:=mP A M hi (c:=12+(6+g*16+t)) (by omega) (by omega);rw[qV (by omega),HR (by omega)] at eI
  have ba:=ac0 (C:=C) (xs:=xs) A M hi bd ef d (t+1) (v||decide ((0:Int)<(bl i (dm g+(1+t)):Int))) (by omega) (by
   rw[Bool.or_eq_true,hv,decide_eq_true_eq];constructor
   ·rintro (⟨j,h1,h2⟩|h1)
    ·exact⟨j,by omega,h2⟩
    ·exact⟨t,by omega,by omega⟩
   ·rintro ⟨j,h1,h2⟩
    by_cases e:j=t
    ·subst e;exact .inr (by omega)
    ·exact .inl ⟨j,by omega,h2⟩) f (by omega)
  rw[dh];show Ep C lf (λx0 aM aT x9 aW x11 dY h=>bp (AL C lf ef) f (x0,aM,aT,x9,aW,x11,dY) h) ef _ _ _ _ _ _ _ h=_;unfold Ep;cases v with
  |true=>
   rw[Bool.true_or] at ba;simp only[aE,cQ,cL,gy,a8,dy,iw];exact ba
  |false=>
   rw[Bool.false_or] at ba;simp only[aE,cQ,cL,gy,a8,dy,b3,eI];exact ba
end
end
section
open Classical
section
variable{lf:Nat}{R:ez}{n N:Nat}{q:Nat->Option Nat}{b:Nat->Nat}{now:Int}{us:Nat->Bool}{i:Nat}
theorem Bv{n N:Nat}{on:Nat->Bool}{bl:Nat->Nat->Nat}(K:hV n N on bl)(fv:n<=4096)(hi:i<N){c:Nat}(h1:12<=c)(h2:c<308)(hv:0<bl i c):IntKind.i64.wrap ((bl i c:Int)-1)=((bl i c-1:Nat):Int):=by
 have:=K.le i c hi h1 h2
 rw[wrap_i64 (by omega) (by omega)];omega
theorem amc{C:ad}{h:U}{on:Nat->Bool}{rd:Nat->Nat->J}{bl:Nat->Nat->Nat}{xs xg:O}(Fr:w9 C)(A:bP h R n N on q b now us rd)(M:dc N rd bl)(K:hV n N on bl)(hi:i<N){g:Nat}(bd:g<17)(fI:dz):
 ∃h' di cr,RC C lf fI (some (.ptr R.rt 0)) (some (.ptr R.bu ((i+1)*308))) xs (some (I (g:Int))) (some (.bool (!hole bl i (dm g)))) xg h=
  fI (some (.ptr R.rt 0)) (some (.ptr R.bu ((i+1)*308))) xs (some (I (g:Int))) (some (.bool (!hole bl i (dm g)))) xg h'/\j6 h h' R n N on di q b now us rd cr bl i (λc=>c=dm g/\hole bl i (dm g)=true):=by
 have fv:n<=4096:=A.ref.v.choose_spec.choose_spec.2.2.cF;have b3:=tx (R:=R) (i:=i) (k:=g) (m:=17) (o:=290) bd;have eI:=mP A M hi (c:=290+g) (by omega) (by omega);have vR:=ad5 bd;obtain⟨g1,g2⟩:=aa8 bd;rw[vR] at eI;unfold RC;cases cj:hole bl i (dm g) with
 |false=>
  refine⟨h,on,rd,?_,j6.refl A M K λc e=>by cases e.2⟩;simp only[aE,Bool.not_false,Bool.not_true,iw]
 |true=>
  by_cases hv:0<bl i (dm g)
  ·obtain⟨h1,h2,gY,jr,aQ,s1,fy⟩:=Vz Fr A M K hi (c:=290+g) (by omega) (by omega) (by rw[vR];exact hv);rw[vR] at aQ fy;have d1:decide ((0:Int)<(bl i (dm g):Int))=true:=bw (by omega);have jZ:=Bv K fv hi g1 (by omega) hv;refine⟨h2,gY,jr,?_,fy.ext λc _ _=>⟨λe=>⟨e,rfl⟩,λe=>e.1⟩⟩;simp only[aE,Bool.not_false,Bool.not_true,b3,eI,d1,jZ,aQ,s1]
  ·have d1:decide ((0:Int)<(bl i (dm g):Int))=false:=bq (by omega);refine⟨h,on,rd,?_,(j6.refl (S:=λ_=>False) A M K λ_ e=>e).wide (λ_ _ _ e=>e.elim) λc _ _ e=> .inr (by rw[e.1];omega)⟩;simp only[aE,Bool.not_false,Bool.not_true,b3,eI,d1]
theorem abi{C:ad}(gf:20<=lf)(Fr:w9 C)(hi:i<N)(aw:bG):∀(d g:Nat) (h:U) (on:Nat->Bool) (rd:Nat->Nat->J) (bl:Nat->Nat->Nat) (s:Bool),g+d=17->∀f,d<f->bP h R n N on q b now us rd->dc N rd bl->hV n N on bl->
 ∃h' di cr e7,bp (vY C lf aw) f (some (.ptr R.rt 0),some (.ptr R.bu ((i+1)*308)),some (.bool s),some (I (g:Int))) h=aw (some (.ptr R.rt 0)) (some (.ptr R.bu ((i+1)*308))) (some (.bool e7)) h'/\
  j6 h h' R n N on di q b now us rd cr bl i (C1 bl i g)/\(e7=true↔(s=true\/∃eV,g<=eV/\eV<17/\0<eV/\hole bl i (dm eV)=false))
 |0,g,h,on,rd,bl,s,aF,f,ak,A,M,K=>by
  obtain⟨f,rfl⟩:=dE f (by omega);have a8:decide ((g:Int)<17)=false:=bq (by omega);refine⟨h,on,rd,s,?_,j6.refl A M K λc ⟨j,a,aD,_⟩=>by omega,⟨λe=> .inl e,λe=>e.elim id λ⟨j,a,aD,_⟩=>by omega⟩⟩;rw[dh];unfold vY Er Jg;simp only[cg,cf,ru,a8];unfold Jf Je;simp only[cg,cf,o4]
 |d+1,g,h,on,rd,bl,s,aF,f,ak,A,M,K=>by
  obtain⟨f,rfl⟩:=dE f (by omega);have a8:decide ((g:Int)<17)=true:=bw (by omega);have cL:IntKind.i64.wrap ((g:Int)*16)=((g*16:Nat):Int):=cH (by omega);have gy:IntKind.i64.wrap ((6:Int)+((g*16:Nat):Int))=((6+g*16+0:Nat):Int):=cH (by omega);have dy:IntKind.i64.wrap ((g:Int)+1)=((g+1:Nat):Int):=cH (by omega);generalize ai:(λx0 aM aT dY h=>bp (vY C lf aw) f (x0,aM,aT,dY) h:br)=kk;have qt:∀x0 aM aT dY h,kk x0 aM aT dY h=bp (vY C lf aw) f (x0,aM,aT,dY) h:=λ_ _ _ _ _=>by rw[<- ai]
  obtain⟨h1,gY,jr,aQ,fy⟩:=amc (lf:=lf) (C:=C) (xs:=some (.bool s)) (xg:=some (I (g:Int))) Fr A M K hi (g:=g) (by omega) (λx0 aM aT x9 aW dY h=>RB C lf (λx0 aM aT dY h=>Eu C lf kk x0 aM aT dY h) x0 aM aT x9 aW dY h);have aj:∀eV,hole (dA bl i λc=>c=dm g/\hole bl i (dm g)=true) i (dm eV)=hole bl i (dm eV):=λeV=>uu λt aK=>iM λe=>alU aK e.2.1.symm
  obtain⟨h2,kH,kJ,s2,a3,p3,wY⟩:=abi gf Fr hi aw d (g+1) h1 gY jr _ (s||(decide (0<g)&&!hole bl i (dm g))) (by omega) f (by omega) fy.A fy.M fy.K;refine⟨h2,kH,kJ,s2,?_,(fy.trans p3).ext λc _ _=>?_,?_⟩
  ·rw[dh];show Er C lf (λx0 aM aT dY h=>bp (vY C lf aw) f (x0,aM,aT,dY) h) aw _ _ _ _ h=_;rw[ai];unfold Er Jg;simp only[cg,cf,ru,a8];unfold Jf Je;simp only[cg,cf,q6];unfold Rr Rq Rp;simp only[cg,cf];unfold Ro Rn Rm Rl Rk;simp only[cg,cf,MC,sD,cL,gy];rw[ac0 A M hi (by omega) _ 16 0 false rfl ⟨λe=>(by cases e),λ⟨j,a,_⟩=>(by omega)⟩ lf (by omega)];unfold RD;rw[aQ];unfold RB
   have nP:decide ((0:Int)<(g:Int))=decide (0<g):=by
    by_cases e:0<g
    ·rw[bw e,bw (by omega)]
    ·rw[bq e,bq (by omega)]
   have fin:∀v:Bool,v=(s||(decide (0<g)&&!hole bl i (dm g)))->Eu C lf kk (some (.ptr R.rt 0)) (some (.ptr R.bu ((i+1)*308))) (some (.bool v)) (some (I (g:Int))) h1=aw (some (.ptr R.rt 0)) (some (.ptr R.bu ((i+1)*308))) (some (.bool s2)) h2:=λv e=>by
    subst e;unfold Eu;simp only[cg,cf,sD,dy,qt];exact a3
   cases s with
   |true=>
    simp only[aE,iw];exact fin true (by simp)
   |false=>
    by_cases e:0<g
    ·simp only[aE,nP,bw e];exact fin _ (by rw[bw e];simp)
    ·simp only[aE,nP,bq e,iw];exact fin _ (by rw[bq e];simp)
  ·unfold C1;constructor
   ·rintro (⟨e,bh⟩|⟨eV,an,aD,a7,cw⟩)
    ·exact⟨g,Nat.le_refl _,by omega,e,bh⟩
    ·rw[aj] at cw;exact⟨eV,by omega,aD,a7,cw⟩
   ·rintro ⟨eV,an,aD,a7,cw⟩
    by_cases e:eV=g
    ·subst e;exact .inl ⟨a7,cw⟩
    ·exact .inr ⟨eV,by omega,aD,a7,by rw[aj];exact cw⟩
  ·rw[wY,Bool.or_eq_true,Bool.and_eq_true,decide_eq_true_eq,Bool.not_eq_true'];simp only[aj];constructor
   ·rintro ((e|⟨e,bh⟩)|⟨eV,an,aD,a7,cw⟩)
    ·exact .inl e
    ·exact .inr ⟨g,Nat.le_refl _,by omega,e,bh⟩
    ·exact .inr ⟨eV,by omega,aD,a7,cw⟩
   ·rintro (e|⟨eV,an,aD,a7,cw⟩)
    ·exact .inl (.inl e)
    ·by_cases e:eV=g
     ·subst e;exact .inl (.inr ⟨a7,cw⟩)
     ·exact .inr ⟨eV,by omega,aD,a7,cw⟩
def rf(bl:Nat->Nat->Nat)(i:Nat):Prop:=∀u,u<16->bl i (36+17*u)=0->hole bl i (36+17*u)=true
def F2(C:ad):Prop:=∀h R n N on q b now us rd bl i (k:Nat),bP h R n N on q b now us rd->dc N rd bl->hV n N on bl->i<N->k<=278->rf bl i->
 ∃h' di cr,C (.fn 107) [.ptr R.rt 0,I ((i+1:Nat):Int),I (k:Int)] h=some (.ret (.bo []),h')/\j6 h h' R n N on di q b now us rd cr bl i (gn bl i k)
theorem ayh{C:ad}(gf:300<=lf)(Fr:w9 C){h:U}{on:Nat->Bool}{rd:Nat->Nat->J}{bl:Nat->Nat->Nat}{k:Nat}(A:bP h R n N on q b now us rd)(M:dc N rd bl)(K:hV n N on bl)(hi:i<N)(ai:k<=278)(a1:rf bl i):
 ∃h' di cr,CC C lf (.ptr R.rt 0) (I ((i+1:Nat):Int)) (I (k:Int)) h=some (.ret (.bo []),h')/\j6 h h' R n N on di q b now us rd cr bl i (gn bl i k):=by
 have fv:n<=4096:=A.ref.v.choose_spec.choose_spec.2.2.cF;obtain⟨cap,lo,ct⟩:=A.ct;obtain⟨h1,gY,jr,az,fy⟩:=Vy (lf:=lf) (C:=C) (R:=R) (n:=n) (N:=N) (q:=q) (b:=b) (now:=now) (us:=us) Fr (λx0 aM h=>Jh C lf z1 x0 aM h) hi (278-k) k h on rd bl (by omega) lf (by omega) A M K;obtain⟨h2,kH,kJ,s2,aw,p3,wY⟩:=abi (C:=C) (lf:=lf) (R:=R) (n:=n) (N:=N) (q:=q) (b:=b) (now:=now) (us:=us) (by omega) Fr hi (λx0 aM aT h=>Et C lf z1 x0 aM aT h) 17 0 h1 gY jr _ false (by omega) lf (by omega) fy.A fy.M fy.K;have u5:=fy.trans p3;have eI:=mP u5.A u5.M hi (c:=307) (by omega) (by omega);rw[yS] at eI
 have vG:dA bl i (λc=>gP k 278 c\/C1 (dA bl i (gP k 278)) i 0 c) i 35=bl i 35:=iM λe=>by
  rcases e.2 with⟨j,_,aD,e⟩|⟨g,_,aD,e,_⟩
  ·exact(tu aD).2.1 e.symm
  ·unfold dm at e;split at e<;>omega
 have eu:∀c,12<=c->c<308->(((gP k 278 c\/C1 (dA bl i (gP k 278)) i 0 c)\/(c=35/\s2=false))↔gn bl i k c):=λc _ _=>by
  have qx:s2=false↔∀j,j<16->bl i (36+17*j)=0\/gI bl i k (36+17*j)=true:=by
   rw[<- Bool.not_eq_true,wY];constructor
   ·intro h j aa;refine .inr ?_;cases cj:gI bl i k (36+17*j) with
    |true=>rfl
    |false=>exact absurd (.inr ⟨j+1,by omega,by omega,by omega,by unfold dm;rw[if_neg (by omega),Nat.add_sub_cancel];exact cj⟩) h
   ·rintro h (e|⟨eV,_,aD,a7,cw⟩)
    ·cases e
    ·have nH:dm eV=36+17*(eV-1):=if_neg (by omega);rw[nH] at cw;rcases h (eV-1) (by omega) with e|e
     ·have h0:=oI.1 (a1 _ (by omega) e)
      have h1:hole (dA bl i (gP k 278)) i (36+17*(eV-1))=true:=oI.2 λj aa=>by
       have:=h0 j aa
       unfold dA;split
       ·rfl
       ·exact this
      rw[h1] at cw;cases cw
     ·have h1:hole (dA bl i (gP k 278)) i (36+17*(eV-1))=true:=e;rw[h1] at cw;cases cw
  rw[qx];unfold gn C1;constructor
  ·rintro ((e|⟨g,_,aD,a7,cw⟩)|⟨e,bh⟩)
   ·exact .inl e
   ·by_cases aB:g=0
    ·subst aB;exact .inr (.inl ⟨a7,cw⟩)
    ·have nH:dm g=36+17*(g-1):=if_neg aB;rw[nH] at a7 cw;exact .inr (.inr (.inl ⟨g-1,by omega,a7,cw⟩))
   ·exact .inr (.inr (.inr ⟨e,bh⟩))
  ·rintro (e|⟨e,bh⟩|⟨j,an,aD,a7⟩|⟨e,bh⟩)
   ·exact .inl (.inl e)
   ·exact .inl (.inr ⟨0,by omega,by omega,e,bh⟩)
   ·have nH:dm (j+1)=36+17*j:=by unfold dm;rw[if_neg (by omega),Nat.add_sub_cancel]
    exact .inl (.inr ⟨j+1,by omega,by omega,by rw[nH];exact aD,by rw[nH];exact a7⟩)
   ·exact .inr ⟨e,bh⟩
 have pre:CC C lf (.ptr R.rt 0) (I ((i+1:Nat):Int)) (I (k:Int)) h=Et C lf z1 (some (.ptr R.rt 0)) (some (.ptr R.bu ((i+1)*308))) (some (.bool s2)) h2:=by
  unfold CC RA Rz;simp only[aE,ct,mj (R:=R) (N:=N) (i:=i+1) (cap:=cap) (lo:=lo) (by omega)];unfold Ry Rx Rw;simp only[cg,cf];rw[az];unfold Jh Rv Ru Rt Rs;exact aw
 rw[pre];unfold Et z1;cases s2 with
 |true=>
  refine⟨h2,kH,kJ,?_,u5.ext λc h1 h2=>?_⟩
  ·simp only[aE,Bool.not_true,iw]
  ·rw[<- eu c h1 h2];exact⟨λe=> .inl e,λe=>e.elim id λx=>by cases x.2⟩
 |false=>
  by_cases hv:0<bl i 35
  ·obtain⟨h3,aU,wj,Vx,cl,eZ,WJ⟩:=Vz Fr u5.A u5.M u5.K hi (c:=307) (by omega) (by omega) (by rw[yS,vG];exact hv);have d1:decide ((0:Int)<(bl i 35:Int))=true:=bw (by omega);have jZ:=Bv K fv hi (c:=35) (by omega) (by omega) hv;rw[vG] at eI;rw[yS,vG] at cl;rw[yS] at WJ;refine⟨aU,wj,Vx,?_,(u5.trans WJ).ext λc h1 h2=>?_⟩
   ·simp only[aE,Bool.not_false,eI,d1,jZ,cl,eZ]
   ·rw[<- eu c h1 h2];exact⟨λe=>e.elim .inl λx=> .inr ⟨x,rfl⟩,λe=>e.elim .inl λx=> .inr x.1⟩
  ·have d1:decide ((0:Int)<(bl i 35:Int))=false:=bq (by omega);rw[vG] at eI;refine⟨h2,kH,kJ,?_,u5.wide (λc h1 h2 e=>(eu c h1 h2).1 (.inl e)) λc h1 h2 e=>?_⟩
   ·simp only[aE,Bool.not_false,eI,d1]
   ·rcases(eu c h1 h2).2 e with e|⟨e,_⟩
    ·exact .inl e
    ·subst e;exact .inr (by omega)
end
end
section
open Classical
theorem I0(b:Nat->Nat)(a m:Nat):over b a (List.replicate m 0)=λt=>if a<=t/\t<a+m then 0 else b t:=by
 funext t
 unfold over;rw[List.length_replicate];by_cases e:a<=t/\t<a+m
 ·rw[if_pos e,if_pos e];simp[List.getD,List.getElem?_replicate];split<;>rfl
 ·rw[if_neg e,if_neg e]
theorem aqi(b:Nat->Nat)(a m:Nat):over (over b a [0]) (a+1) (List.replicate m 0)=over b a (List.replicate (m+1) 0):=by
 have h1:([0]:List Nat)=List.replicate 1 0:=rfl;rw[h1,I0,I0,I0]
 funext t
 by_cases az:a+1<=t/\t<a+1+m
 ·rw[if_pos az,if_pos (by omega)]
 ·rw[if_neg az];show(if a<=t/\t<a+1 then 0 else b t)=_;by_cases aw:a<=t/\t<a+1
  ·rw[if_pos aw,if_pos (by omega)]
  ·rw[if_neg aw,if_neg (by omega)]
theorem azk{C:ad}{lf:Nat}{r:aC}{x0 x1 x2:O}{h:U}:Vh C lf r x0 x1 x2 h=Kl C lf (λx0 x1 x2 h=>Kk C lf r x0 x1 x2 h) r x0 x1 x2 h:=rfl
theorem afP{C:ad}{lf:Nat}{fI:bG}{x0 x2 x7:O}{h:U}:Vm C lf fI x0 x2 x7 h=fI x0 x2 x7 h:=rfl
section
variable{lf:Nat}{R:ez}{n N:Nat}{on:Nat->Bool}{q:Nat->Option Nat}{now:Int}{us:Nat->Bool}{rd:Nat->Nat->J}{i:Nat}
theorem afO{C:ad}{x0 x2 x7:O}{j bN:Nat}{xr:J}(aa:j<n)(eW:on j=true)(aZ:q j=some bN)(aB:bG):∀(d p:Nat),p+d=64->∀f,d<f->∀h b,bP h R n N on q b now us rd->h.cell R.rb j=some xr->
 ∃h',bp (AX C lf aB) f (x0,x2,x7,some xr,some (I (p:Int))) h=aB x0 x2 x7 h'/\bP h' R n N on q (over b (j*64+p) (List.replicate d 0)) now us rd/\aN h h' (· =bN)
 |0,p,aA,f,ak,h,b,A,ae=>by
  obtain⟨f,rfl⟩:=dE f (by omega);have a8:decide ((p:Int)<64)=false:=bq (by omega);refine⟨h,?_,?_,aN.refl _ _⟩
  ·rw[dh];unfold AX E0;simp only[aE,a8]
  ·have e:over b (j*64+p) (List.replicate 0 0)=b:=by
    rw[I0];funext t;exact if_neg (by omega)
   rw[e];exact A
 |d+1,p,aA,f,ak,h,b,A,ae=>by
  obtain⟨f,rfl⟩:=dE f (by omega);have a8:decide ((p:Int)<64)=true:=bw (by omega);have dy:IntKind.i64.wrap ((p:Int)+1)=((p+1:Nat):Int):=cH (by omega);obtain⟨x1,ahb,AI,bQ,cn,fl,nj,yP,QT,QU⟩:=A.QZ (j:=j) (p:=p) (v:=0) aa eW (by omega) (by omega);have alk:ahb=xr:=Option.some.inj (fl.symm.trans ae);have akV:AI=bN:=Option.some.inj (nj.symm.trans aZ);subst alk akV
  have Ig:AI≠R.rb:=by
   obtain⟨y0,y1,_,_,V⟩:=A.ref.v;exact(V.has j AI aa aZ).2.1
  obtain⟨h2,aw,c9,bF⟩:=afO (C:=C) (x0:=x0) (x2:=x2) (x7:=x7) aa eW aZ aB d (p+1) (by omega) f (by omega) _ _ QU (by rw[eG (.inl (Ne.symm Ig))];exact ae);refine⟨h2,?_,?_,(fO (S:=(· =AI)) rfl).trans bF⟩
  ·rw[dh];show E0 C lf (λx0 x2 x7 aT x9 h=>bp (AX C lf aB) f (x0,x2,x7,aT,x9) h) aB x0 x2 x7 (some ahb) (some (I (p:Int))) h=_;unfold E0;have aqo:st 1 (.ptr AI p) (.int .u8 0) h=some (h.set AI p [.int .u8 0]):=QT;simp only[cg,cf,ru,a8,q6,yP,aqo,sD,dy];exact aw
  ·rw[<- Nat.add_assoc,aqi] at c9;exact c9
structure F1 (h h':U) (R:ez) (n N:Nat) (on:Nat->Bool) (q:Nat->Option Nat) (b:Nat->Nat) (now:Int) (us:Nat->Bool) (rd:Nat->Nat->J) (bl:Nat->Nat->Nat) (i sz:Nat) (di:Nat->Bool) (cr:Nat->Nat->J):Prop where
 A:bP h' R n N di q (lY b (dA bl i (gn bl i ((sz+63)/64))) i sz) now us (grown cr (i+1) sz now)
 M:dc N cr (dA bl i (gn bl i ((sz+63)/64)))
 L:∀i' c,c<12->cr i' c=rd i' c
 O:∀j,di j=true↔(on j=true/\∀c,12<=c->c<308->gn bl i ((sz+63)/64) c->bl i c≠j+1)
 F:aN h h' (λj=>j=R.ro\/j=R.bu\/∃u,q u=some j)
def Gd(C:ad):Prop:=∀h R n N on q b now us rd bl (ino sz:Int),bP h R n N on q b now us rd->dc N rd bl->hV n N on bl-> -9223372036854775808<=sz->sz<9223372036854775808->
 (db N us ino=false->C (.fn 96) [.ptr R.rt 0,I ino,I sz] h=some (.ret (I 2),h))/\
 (∀i,jg N us ino i->rf bl i->(sz<0->C (.fn 96) [.ptr R.rt 0,I ino,I sz] h=some (.ret (I 22),h))/\
   (17792<sz->C (.fn 96) [.ptr R.rt 0,I ino,I sz] h=some (.ret (I 27),h))/\
   (0<=sz->sz<=17792->∃h' di cr,C (.fn 96) [.ptr R.rt 0,I ino,I sz] h=some (.ret (I 0),h')/\F1 h h' R n N on q b now us rd bl i sz.toNat di cr))
theorem azi{C:ad}{h:U}{b:Nat->Nat}(A:bP h R n N on q b now us rd)(hi:i<N){sz:Nat}(r:aC):
 ∃h',yY C lf r (some (.ptr R.rt 0)) (some (I (sz:Int))) (some (.ptr R.bu ((i+1)*308))) h=r (some (I 0)) h'/\bP h' R n N on q b now us (grown rd (i+1) sz now)/\aN h h' (· =R.bu):=by
 obtain⟨h1,s1,b7,cI,aL⟩:=km A (i:=i+1) (c:=5) (by omega) (by omega) (by omega) (sz:Int);obtain⟨h2,s2,c9,cF,bF⟩:=km b7 (i:=i+1) (c:=9) (by omega) (by omega) (by omega) now;obtain⟨h3,eZ,e9,gl,dp⟩:=km c9 (i:=i+1) (c:=10) (by omega) (by omega) (by omega) now;have jk:(i+1)*308+1+4=(i+1)*308+5:=rfl;have rB:(i+1)*308+1+8=(i+1)*308+9:=rfl;have kz:(i+1)*308+1+9=(i+1)*308+10:=rfl;refine⟨h3,?_,e9,(aL.trans bF).trans dp⟩;unfold yY;simp only[aE,b7.cl,jk,rB,kz,s1,s2,eZ]
theorem azj{C:ad}(gf:300<=lf)(lz:p7 C)(Lz:F2 C){h:U}{b:Nat->Nat}{bl:Nat->Nat->Nat}{ino sz:Int}(A:bP h R n N on q b now us rd)(M:dc N rd bl)(K:hV n N on bl)(dH: -9223372036854775808<=sz)(dn:sz<9223372036854775808):
 (db N us ino=false->xJ C lf (.ptr R.rt 0) (I ino) (I sz) h=some (.ret (I 2),h))/\
 (∀i,jg N us ino i->rf bl i->(sz<0->xJ C lf (.ptr R.rt 0) (I ino) (I sz) h=some (.ret (I 22),h))/\
   (17792<sz->xJ C lf (.ptr R.rt 0) (I ino) (I sz) h=some (.ret (I 27),h))/\
   (0<=sz->sz<=17792->∃h' di cr,xJ C lf (.ptr R.rt 0) (I ino) (I sz) h=some (.ret (I 0),h')/\F1 h h' R n N on q b now us rd bl i sz.toNat di cr)):=by
 have dS:=lz h R n N on q b now us rd ino A;have fv:n<=4096:=A.ref.v.choose_spec.choose_spec.2.2.cF;obtain⟨cap,lo,ct⟩:=A.ct;unfold xJ;rw[azk];unfold Kl;refine⟨λag=>?_,λi b6 a1=>?_⟩
 ·rw[ag] at dS;unfold qj;simp only[aE,dS,Bool.not_false]
 ·rw[b6.yes] at dS;obtain⟨hi,hu,rfl⟩:=b6;simp only[aE,dS,Bool.not_true];unfold Kk Vg;refine⟨λh1=>?_,λh1=>?_,λh1 h2=>?_⟩
  ·unfold qj;simp only[aE,bw h1]
  ·have d1:decide (sz<0)=false:=bq (by omega);simp only[aE,d1];unfold EZ Kj qj;simp only[aE,bw h1]
  ·obtain⟨z,rfl⟩:∃z:Nat,sz=z:=⟨sz.toNat,by omega⟩;rw[Int.toNat_natCast];have d1:decide ((z:Int)<0)=false:=bq (by omega);have d2:decide ((17792:Int)<(z:Int))=false:=bq (by omega);have cQ:IntKind.i64.wrap ((z:Int)+64)=((z+64:Nat):Int):=cH (by omega);have cL:IntKind.i64.wrap (((z+64:Nat):Int)-1)=((z+63:Nat):Int):=cH (by omega)
   have gy:IntKind.i64.wrap (((z+63:Nat):Int).tdiv 64)=(((z+63)/64:Nat):Int):=by
    rw[Int.tdiv_eq_ediv_of_nonneg (by omega),wrap_i64 (by omega) (by omega)];rfl
   have aI:(z:Int).tmod 64=((z%64:Nat):Int):=by
    rw[Int.tmod_eq_emod_of_nonneg (by omega)];rfl
   have aZ:IntKind.i64.wrap ((z:Int).tdiv 64)=((z/64:Nat):Int):=by
    rw[Int.tdiv_eq_ediv_of_nonneg (by omega),wrap_i64 (by omega) (by omega)];rfl
   obtain⟨h1,gY,jr,aQ,fy⟩:=Lz h R n N on q b now us rd bl i ((z+63)/64) A M K hi (by omega) a1
   have pre:∀P:ab->Prop,P (Km C lf (λx0 x2 x7 Wl h=>Bn C lf (λx0 x2 x7 h=>yY C lf qj x0 x2 x7 h) x0 x2 x7 Wl h) (some (.ptr R.rt 0)) (some (I (z:Int))) (some (.ptr R.bu ((i+1)*308))) h1)->
    P (ob (some (J.int .i64 (z:Int))) λaik=>ob (bin ax .lss 3 aik (I 0)) λaB5=>fV aB5 (qj (some (I 22)) h) (EZ C lf qj (some (.ptr R.rt 0)) (some (I ((i+1:Nat):Int))) (some (I (z:Int))) h)):=λP nM=>by
    simp only[aE,d1];unfold EZ Kj;simp only[aE,d2];unfold Vs Vr;simp only[aE,ct,mj (R:=R) (N:=N) (i:=i+1) (cap:=cap) (lo:=lo) (by omega)];unfold Vq Vp;simp only[aE,cQ,cL,lJ (show(64:Int)≠0 by omega),gy,aQ];unfold Vo Vn;exact nM
   have fin:∀h2 b2,bP h2 R n N gY q b2 now us jr->b2=lY b (dA bl i (gn bl i ((z+63)/64))) i z->aN h1 h2 (λj=>∃u,q u=some j)->∃h' di cr,yY C lf qj (some (.ptr R.rt 0)) (some (I (z:Int))) (some (.ptr R.bu ((i+1)*308))) h2=some (.ret (I 0),h')/\F1 h h' R n N on q b now us rd bl i z di cr:=λh2 b2 c9 M6 bF=>by
    subst M6;obtain⟨h3,ch,e9,dp⟩:=azi (lf:=lf) (C:=C) c9 hi (sz:=z) qj;refine⟨h3,gY,jr,?_,e9,fy.M,fy.L,fy.O,((fy.F.eb λj e=>?_).trans (bF.eb λj e=> .inr (.inr e))).trans (dp.eb λj e=> .inr (.inl e))⟩
    ·rw[ch];unfold qj;simp only[cg,cf]
    ·rcases e with e|e
     ·exact .inl e
     ·exact .inr (.inl e)
   refine pre (λr=>∃h' di cr,r=some (.ret (I 0),h')/\F1 h h' R n N on q b now us rd bl i z di cr) ?_;unfold Km;by_cases acv:0<z%64
   ·have d3:decide ((0:Int)<((z%64:Nat):Int))=true:=bw (by omega);have ai:z/64<278:=by omega
    have b3:=tx (R:=R) (i:=i) (k:=z/64) (m:=278) (o:=12) ai;have eI:=mP fy.A fy.M hi (c:=12+z/64) (by omega) (by omega);rw[qV ai] at eI;by_cases hv:0<dA bl i (gn bl i ((z+63)/64)) i (a4 (z/64))
    ·generalize PN:dA bl i (gn bl i ((z+63)/64)) i (a4 (z/64))=v at *;have d4:decide ((0:Int)<(v:Int))=true:=bw (by omega);have hle:=fy.K.le i (a4 (z/64)) hi qT (r6 ai);have eW:=fy.K.on i (a4 (z/64)) hi qT (r6 ai) (by rw[PN];exact hv);rw[PN] at hle eW;have aj:IntKind.i64.wrap ((v:Int)-1)=((v-1:Nat):Int):=cH (by omega);obtain⟨x1,xr,bN,bQ,cn,fl,nj,_⟩:=fy.A.QZ (j:=v-1) (p:=0) (v:=0) (by omega) eW (by omega) (by omega);obtain⟨h2,aw,c9,bF⟩:=afO (C:=C) (lf:=lf) (x0:=some (.ptr R.rt 0)) (x2:=some (I (z:Int))) (x7:=some (.ptr R.bu ((i+1)*308))) (by omega) eW nj (λx0 x2 x7 h=>yY C lf qj x0 x2 x7 h) (64-z%64) (z%64) (by omega) lf (by omega) h1 b fy.A fl;simp only[aE,hQ (show(64:Int)≠0 by omega),aI,d3,lJ (show(64:Int)≠0 by omega),aZ,b3,eI,d4];unfold Bn;simp only[cg,cf,q6];unfold Vl Vk;simp only[aE,bQ,lJ (show(64:Int)≠0 by omega),aZ,b3,eI,aj,cn,fl];unfold Vj Vi;simp only[cg,cf,hQ (show(64:Int)≠0 by omega),aI];rw[aw];refine fin h2 _ c9 ?_ (bF.eb λj e=>⟨v-1,by rw[e];exact nj⟩);unfold lY;rw[PN,if_pos ⟨acv,hv⟩]
    ·have d4:decide ((0:Int)<(dA bl i (gn bl i ((z+63)/64)) i (a4 (z/64)):Int))=false:=bq (by omega);simp only[aE,hQ (show(64:Int)≠0 by omega),aI,d3,lJ (show(64:Int)≠0 by omega),aZ,b3,eI,d4];unfold Bn;simp only[cg,cf,o4];rw[afP];refine fin h1 _ fy.A ?_ (aN.refl _ _);unfold lY;rw[if_neg λe=>hv e.2]
   ·have d3:decide ((0:Int)<((z%64:Nat):Int))=false:=bq (by omega);simp only[aE,hQ (show(64:Int)≠0 by omega),aI,d3,iw];unfold Bn;simp only[cg,cf,o4];rw[afP];refine fin h1 _ fy.A ?_ (aN.refl _ _);unfold lY;rw[if_neg λe=>acv e.1]
end
end
section
open Classical
def xa(i:Nat)(L H:Int)(on di:Nat->Bool)(us eD:Nat->Bool)(rd cr:Nat->Nat->J)(bl bl':Nat->Nat->Nat):Prop:=
 ((L≠0\/H≠0)/\di=on/\eD=us/\cr=rd/\bl'=bl)\/
 (L=0/\H=0/\eD=c3 us i false/\(∀i' c,c<12->cr i' c=ie rd (i+1) fr i' c)/\bl'=m1 bl i/\∀j,di j=true↔(on j=true/\∀c,12<=c->c<308->bl i c≠j+1))
section
variable{lf:Nat}{h:U}{R:ez}{n N:Nat}{on:Nat->Bool}{q:Nat->Option Nat}{b:Nat->Nat}{now:Int}{us:Nat->Bool}{rd:Nat->Nat->J}{bl:Nat->Nat->Nat}{i:Nat}{ino:Int}
theorem bP.setRow(A:bP h R n N on q b now us rd)(hi:i<N){g:Nat->J}{v:Bool}(h0:g 0= .bool v):bP (h.set R.bu ((i+1)*308) (eY g)) R n N on q b now (c3 us i v) (ie rd (i+1) g):=by
 have aJ:(eY g).length=308:=by rw[eY,List.length_map,List.length_range]
 have ag:(i+1)*308+(eY g).length<=(N+1)*308:=by rw[aJ];omega
 have F:aN h (h.set R.bu ((i+1)*308) (eY g)) (· =R.bu):=fO rfl;have st:cW h (h.set R.bu ((i+1)*308) (eY g)) R.rt:=F.same _ A.ref.lt (λe=>A.d1 e.symm);refine⟨A.o9,A.hW,A.ref.iP F λj aa=>?_,by rw[st.cell];exact A.a3,by rw[st.cell];exact A.cl,let ⟨cap,lo,e⟩:=A.ct;⟨cap,lo,by rw[st.cell];exact e⟩,hc A.wt st,e1 A.wl,λi' a2 cA fi=>?_,λi' cA=>?_,A.d1,A.d2,A.d3,A.d4,by rw[dW];exact A.hB⟩
 ·rcases aa with rfl|rfl|rfl|⟨t,aK,e⟩
  ·exact λe=>A.d1 e.symm
  ·exact λe=>A.d2 e.symm
  ·exact λe=>A.d3 e.symm
  ·exact A.d4 t _ aK e
 ·by_cases e:i'=i+1
  ·subst e;rw[ir A.wl ag (Nat.le_add_right _ _) (by rw[aJ];exact Nat.add_lt_add_left fi _),oY,Nat.add_sub_cancel_left];simp[eY,fi]
  ·rw[eG (.inr (by rw[aJ];omega)),oX _ _ _ e];exact A.kX i' a2 cA fi
 ·by_cases e:i'=i
  ·subst e;rw[oY,kN,h0]
  ·rw[oX _ _ _ (by omega),ig _ _ e];exact A.mR i' cA
theorem afN(A:bP h R n N on q b now us rd)(hi:i<N){g:Nat->J}(bd:eA (eY g)=true):st 308 (.ptr R.bu ((i+1)*308)) (.agg (eY g)) h=some (h.set R.bu ((i+1)*308) (eY g)):=by
 have aJ:(eY g).length=308:=by rw[eY,List.length_map,List.length_range]
 exact jt (n:=308) (off:=(i+1)*308) (y:= .agg (eY g)) A.wl aJ (by omega) bd
def F3(C:ad):Prop:=∀h R n N on q b now us rd bl i (L H:Int),bP h R n N on q b now us rd->dc N rd bl->hV n N on bl->i<N->rf bl i->rd (i+1) 2=I L->rd (i+1) 11=I H->
 ∃h' di eD cr bl',C (.fn 109) [.ptr R.rt 0,I ((i+1:Nat):Int)] h=some (.ret (.bo []),h')/\bP h' R n N di q b now eD cr/\dc N cr bl'/\xa i L H on di us eD rd cr bl bl'/\aN h h' (λj=>j=R.ro\/j=R.bu)
theorem ayH{C:ad}(Lz:F2 C)(A:bP h R n N on q b now us rd)(M:dc N rd bl)(K:hV n N on bl)(hi:i<N)(a1:rf bl i){L H:Int}(hS:rd (i+1) 2=I L)(iy:rd (i+1) 11=I H):
 ∃h' di eD cr bl',Hg C lf (.ptr R.rt 0) (I ((i+1:Nat):Int)) h=some (.ret (.bo []),h')/\bP h' R n N di q b now eD cr/\dc N cr bl'/\xa i L H on di us eD rd cr bl bl'/\aN h h' (λj=>j=R.ro\/j=R.bu):=by
 obtain⟨cap,lo,ct⟩:=A.ct;have ao:=mj (R:=R) (N:=N) (i:=i+1) (cap:=cap) (lo:=lo) (by omega);have k2:=A.kX (i+1) 2 (by omega) (by omega);have yq:=A.kX (i+1) 11 (by omega) (by omega);rw[hS] at k2;rw[iy] at yq;have aw:(i+1)*308+1+1=(i+1)*308+2:=rfl;unfold Hg RF Nw;by_cases amy:L=0/\H=0
 ·obtain⟨rT,n0⟩:=amy;obtain⟨h1,gY,jr,aQ,fy⟩:=Lz h R n N on q b now us rd bl i 0 A M K hi (by omega) a1;have vq:C (.fn 107) [.ptr R.rt 0,I ((i+1:Nat):Int),I 0] h=some (.ret (.bo []),h1):=aQ;obtain⟨rA,pH,ajG⟩:=fy.A.ct;have rR:=mj (R:=R) (N:=N) (i:=i+1) (cap:=rA) (lo:=pH) (by omega);have oC:ib ax 156 [] []=some (.agg (eY fr)):=by kernel_rfl
  have dk:=afN fy.A hi (g:=fr) (by kernel_rfl);refine⟨_,gY,_,_,_,?_,fy.A.setRow hi (g:=fr) (v:=false) rfl,λi' c cA dB ae=>?_,.inr ⟨rT,n0,rfl,λi' c ae=>?_,rfl,λj=>?_⟩,fy.F.trans (fO (.inr rfl))⟩
  ·simp only[aE,ct,ao,aw,k2,bw rT,yq,bw n0,vq,ajG,rR,oC,dk]
  ·obtain⟨bQ,cn⟩:=I3 dB ae;by_cases e:i'=i
   ·subst e;have aB:fr c=I 0:=if_neg (by omega);rw[oY,aB];unfold m1;rw[if_pos rfl];rfl
   ·rw[oX _ _ _ (by omega),fy.M i' c cA dB ae,iM (λx=>e x.1)];unfold m1;rw[if_neg e]
  ·by_cases e:i'=i+1
   ·subst e;rw[oY,oY]
   ·rw[oX _ _ _ e,oX _ _ _ e,fy.L i' c ae]
  ·rw[fy.O];exact⟨λx=>⟨x.1,λc h1 h2=>x.2 c h1 h2 (MU h1 h2)⟩,λx=>⟨x.1,λc h1 h2 _=>x.2 c h1 h2⟩⟩
 ·have bY:L≠0\/H≠0:=by omega
  refine⟨h,on,us,rd,bl,?_,A,M,.inl ⟨bY,rfl,rfl,rfl,rfl⟩,aN.refl _ _⟩;by_cases rT:L=0
  ·have n0:decide (H=0)=false:=bq (by omega);simp only[aE,ct,ao,aw,k2,bw rT,yq,n0]
  ·simp only[aE,ct,ao,aw,k2,bq rT,iw]
def F7(C:ad):Prop:=∀h R n N on q b now us rd bl (ino:Int),bP h R n N on q b now us rd->dc N rd bl->hV n N on bl->
 (db N us ino=false->C (.fn 100) [.ptr R.rt 0,I ino] h=some (.ret (I 2),h))/\
 (∀i L H,jg N us ino i->rf bl i->rd (i+1) 2=I L->rd (i+1) 11=I H->(H=0->C (.fn 100) [.ptr R.rt 0,I ino] h=some (.ret (I 22),h))/\
   (H≠0->∃h' di eD cr bl',C (.fn 100) [.ptr R.rt 0,I ino] h=some (.ret (I 0),h')/\bP h' R n N di q b now eD cr/\dc N cr bl'/\
     xa i L (IntKind.i64.wrap (H-1)) on di us eD (cO rd (i+1) 11 (I (IntKind.i64.wrap (H-1)))) cr bl bl'/\aN h h' (λj=>j=R.ro\/j=R.bu)))
theorem dc.off(M:dc N rd bl){i c:Nat}{y:J}(ae:c<12):dc N (cO rd i c y) bl:=λi' a2 cA nL fi=>by
 rw[ha _ _ (by omega)];exact M i' a2 cA nL fi
theorem azb{C:ad}(lz:p7 C)(Go:F3 C)(A:bP h R n N on q b now us rd)(M:dc N rd bl)(K:hV n N on bl):
 (db N us ino=false->z7 C lf (.ptr R.rt 0) (I ino) h=some (.ret (I 2),h))/\
 (∀i L H,jg N us ino i->rf bl i->rd (i+1) 2=I L->rd (i+1) 11=I H->(H=0->z7 C lf (.ptr R.rt 0) (I ino) h=some (.ret (I 22),h))/\
   (H≠0->∃h' di eD cr bl',z7 C lf (.ptr R.rt 0) (I ino) h=some (.ret (I 0),h')/\bP h' R n N di q b now eD cr/\dc N cr bl'/\
     xa i L (IntKind.i64.wrap (H-1)) on di us eD (cO rd (i+1) 11 (I (IntKind.i64.wrap (H-1)))) cr bl bl'/\aN h h' (λj=>j=R.ro\/j=R.bu))):=by
 have dS:=lz h R n N on q b now us rd ino A;obtain⟨cap,lo,ct⟩:=A.ct;unfold z7 Q1 Nq;refine⟨λag=>?_,λi L H b6 a1 hS iy=>?_⟩
 ·rw[ag] at dS;simp only[aE,dS,Bool.not_false]
 ·rw[b6.yes] at dS;obtain⟨hi,hu,rfl⟩:=b6;have ao:=mj (R:=R) (N:=N) (i:=i+1) (cap:=cap) (lo:=lo) (by omega);have yq:=A.kX (i+1) 11 (by omega) (by omega);rw[iy] at yq;refine⟨λh0=>?_,λh0=>?_⟩
  ·simp only[aE,dS,Bool.not_true,ct,ao,yq,bw h0]
  ·obtain⟨h1,s1,b7,cI,aL⟩:=km A (i:=i+1) (c:=11) (by omega) (by omega) (by omega) (IntKind.i64.wrap (H-1));obtain⟨h2,di,eD,cr,bl',a3,c9,M2,mV,bF⟩:=Go h1 R n N on q b now us _ bl i L (IntKind.i64.wrap (H-1)) b7 (M.off (by omega)) K hi a1 (by rw[ha _ _ (by omega)];exact hS) (mS ..);refine⟨h2,di,eD,cr,bl',?_,c9,M2,mV,(aL.eb λ_ e=> .inr e).trans bF⟩;simp only[aE,dS,Bool.not_true,ct,ao,yq,bq h0,s1,a3]
def F5(C:ad):Prop:=∀h R n N on q b now us rd bl (ino by_:Int),bP h R n N on q b now us rd->dc N rd bl->hV n N on bl->
 (db N us ino=false->C (.fn 98) [.ptr R.rt 0,I ino,I by_] h=some (.ret (I 2),h))/\
 (∀i L H,jg N us ino i->rf bl i->rd (i+1) 2=I L->0<=L->L<=16->rd (i+1) 11=I H->(by_ < -L->C (.fn 98) [.ptr R.rt 0,I ino,I by_] h=some (.ret (I 22),h))/\
   (16-L<by_->C (.fn 98) [.ptr R.rt 0,I ino,I by_] h=some (.ret (I 31),h))/\
   (-L<=by_->by_<=16-L->∃h' di eD cr bl',C (.fn 98) [.ptr R.rt 0,I ino,I by_] h=some (.ret (I 0),h')/\bP h' R n N di q b now eD cr/\dc N cr bl'/\
     xa i (L+by_) H on di us eD (cO (cO rd (i+1) 2 (I (L+by_))) (i+1) 10 (I now)) cr bl bl'/\aN h h' (λj=>j=R.ro\/j=R.bu)))
theorem ayM{C:ad}(lz:p7 C)(Go:F3 C){by_:Int}(A:bP h R n N on q b now us rd)(M:dc N rd bl)(K:hV n N on bl):
 (db N us ino=false->xK C lf (.ptr R.rt 0) (I ino) (I by_) h=some (.ret (I 2),h))/\
 (∀i L H,jg N us ino i->rf bl i->rd (i+1) 2=I L->0<=L->L<=16->rd (i+1) 11=I H->(by_ < -L->xK C lf (.ptr R.rt 0) (I ino) (I by_) h=some (.ret (I 22),h))/\
   (16-L<by_->xK C lf (.ptr R.rt 0) (I ino) (I by_) h=some (.ret (I 31),h))/\
   (-L<=by_->by_<=16-L->∃h' di eD cr bl',xK C lf (.ptr R.rt 0) (I ino) (I by_) h=some (.ret (I 0),h')/\bP h' R n N di q b now eD cr/\dc N cr bl'/\
     xa i (L+by_) H on di us eD (cO (cO rd (i+1) 2 (I (L+by_))) (i+1) 10 (I now)) cr bl bl'/\aN h h' (λj=>j=R.ro\/j=R.bu))):=by
 have dS:=lz h R n N on q b now us rd ino A;obtain⟨cap,lo,ct⟩:=A.ct;unfold xK Vv Od;refine⟨λag=>?_,λi L H b6 a1 hS amw amx iy=>?_⟩
 ·rw[ag] at dS;simp only[aE,dS,Bool.not_false]
 ·rw[b6.yes] at dS;obtain⟨hi,hu,rfl⟩:=b6;have ao:=mj (R:=R) (N:=N) (i:=i+1) (cap:=cap) (lo:=lo) (by omega);have k2:=A.kX (i+1) 2 (by omega) (by omega);rw[hS] at k2;have aw:(i+1)*308+1+1=(i+1)*308+2:=rfl;have kz:(i+1)*308+1+9=(i+1)*308+10:=rfl;have cQ:IntKind.i64.wrap (-L)= -L:=by rw[wrap_i64 (by omega) (by omega)]
  have cL:IntKind.i64.wrap (16-L)=16-L:=by rw[wrap_i64 (by omega) (by omega)]
  refine⟨λh1=>?_,λh1=>?_,λh1 h2=>?_⟩
  ·simp only[aE,dS,Bool.not_true,ct,ao,aw,k2,BB,cQ,bw h1]
  ·have h0:decide (by_ < -L)=false:=bq (by omega);simp only[aE,dS,Bool.not_true,ct,ao,aw,k2,BB,cQ,cL,h0,bw h1]
  ·have h0:decide (by_ < -L)=false:=bq (by omega);have h3:decide (16-L<by_)=false:=bq (by omega);have gy:IntKind.i64.wrap (L+by_)=L+by_:=by rw[wrap_i64 (by omega) (by omega)]
   obtain⟨g1,s1,b7,cI,aL⟩:=km A (i:=i+1) (c:=2) (by omega) (by omega) (by omega) (L+by_);obtain⟨g2,s2,c9,cF,bF⟩:=km b7 (i:=i+1) (c:=10) (by omega) (by omega) (by omega) now;obtain⟨g3,di,eD,cr,bl',cl,e9,LO,LF,dp⟩:=Go g2 R n N on q b now us _ bl i (L+by_) H c9 ((M.off (by omega)).off (by omega)) K hi a1 (by rw[ha _ _ (by omega),mS]) (by rw[ha _ _ (by omega),ha _ _ (by omega)];exact iy);refine⟨g3,di,eD,cr,bl',?_,e9,LO,LF,((aL.trans bF).eb λ_ e=> .inr e).trans dp⟩;simp only[aE,dS,Bool.not_true,ct,ao,aw,kz,k2,BB,cQ,cL,gy,h0,h3,s1,b7.cl,s2,cl]
end
end
theorem ajs{x m:BitVec 64}:(x&&& ~~~m)=0#64↔x&&& m=x:=by
 constructor
 ·intro h;apply BitVec.eq_of_getLsbD_eq;intro i hi;have h1:(x&&& ~~~m).getLsbD i=false:=by rw[h];simp
  rw[BitVec.getLsbD_and,BitVec.getLsbD_not] at h1;rw[BitVec.getLsbD_and];cases ao:x.getLsbD i<;>cases hm:m.getLsbD i<;>simp_all
 ·intro h;apply BitVec.eq_of_getLsbD_eq;intro i hi;have h1:(x&&& m).getLsbD i=x.getLsbD i:=by rw[h]
  rw[BitVec.getLsbD_and] at h1;rw[BitVec.getLsbD_and,BitVec.getLsbD_not];cases ao:x.getLsbD i<;>cases hm:m.getLsbD i<;>simp_all
theorem apk{mo:Int}(h1: -9223372036854775808<=mo)(h2:mo<9223372036854775808):
 (mo≠IntKind.i64.wrap ((BitVec.ofInt 64 mo&&& BitVec.ofInt 64 65535).toNat:Int)\/mo<0)↔yH mo≠0:=by
 have ao:((BitVec.ofInt 64 mo).toNat:Int)=mo%18446744073709551616:=by
  rw[BitVec.toNat_ofInt];show((mo%((18446744073709551616:Nat):Int)).toNat:Int)=_;omega
 have hm:(BitVec.ofInt 64 65535).toNat=2 ^ 16-1:=rfl
 have bX:(BitVec.ofInt 64 mo&&& BitVec.ofInt 64 65535).toNat=(BitVec.ofInt 64 mo).toNat%65536:=by
  rw[BitVec.toNat_and,hm,Nat.and_two_pow_sub_one_eq_mod]
 have a1:yH mo=0↔(BitVec.ofInt 64 mo).toNat<65536:=by
  have az:yH mo=0↔(BitVec.ofInt 64 mo&&& ~~~BitVec.ofInt 64 65535)=0#64:=by
   unfold yH;generalize(BitVec.ofInt 64 mo&&& ~~~BitVec.ofInt 64 65535)=y;have bb:=y.isLt;constructor
   ·intro h;apply BitVec.eq_of_toNat_eq
    have h3:y.toNat=0:=by
     simp[IntKind.wrap,IntKind.signed,IntKind.bits] at h;omega
    rw[h3];rfl
   ·intro h;rw[h];rfl
  rw[az,ajs];constructor
  ·intro h
   have:=congrArg BitVec.toNat h
   rw[bX] at this;omega
  ·intro h;apply BitVec.eq_of_toNat_eq;rw[bX];omega
 rw[bX,wrap_i64 (by omega) (by omega),Ne,Ne,a1];omega
section
variable{lf:Nat}{h:U}{R:ez}{n N:Nat}{on:Nat->Bool}{q:Nat->Option Nat}{b:Nat->Nat}{now:Int}{us:Nat->Bool}{rd:Nat->Nat->J}{mo uid gid:Int}
theorem ax3{C:ad}(r:a0)(aB:cq)(A:bP h R n N on q b now us rd):∀(d t:Nat),t+d=N->∀f,d<f->
 ((∀j,t<=j->j<N->us j=true)->bp (rX C lf r aB) f (some (.ptr R.rt 0),some (I mo),some (I uid),some (I gid),some (I ((t+1:Nat):Int))) h=aB h)/\
 (∀i,t<=i->i<N->us i=false->(∀j,t<=j->j<i->us j=true)->bp (rX C lf r aB) f (some (.ptr R.rt 0),some (I mo),some (I uid),some (I gid),some (I ((t+1:Nat):Int))) h=
   r (some (I ((i+1:Nat):Int))) (some (I 0)) (h.set R.bu ((i+1)*308) (eY (mc ((i+1:Nat):Int) uid gid mo now)))):=by
 intro d
 induction d with
 |zero=>
  intro t aK f ak;obtain⟨f,rfl⟩:=dE f (by omega);refine⟨λ_=>?_,λi h1 h2=>by omega⟩;rw[dh];unfold rX Bo;have a8:decide (((t+1:Nat):Int)<=(N:Int))=false:=bq (by omega);simp only[aE,A.a3,a8]
 |succ d ba=>
  intro t aK f ak;obtain⟨f,rfl⟩:=dE f (by omega);obtain⟨DR,DS⟩:=ba (t+1) (by omega) f (by omega);have k3:=A.hW;have PJ:t<N:=by omega
  obtain⟨cap,lo,ct⟩:=A.ct;have ao:=mj (R:=R) (N:=N) (i:=t+1) (cap:=cap) (lo:=lo) (by omega);have a8:decide (((t+1:Nat):Int)<=(N:Int))=true:=bw (by omega);have aj:IntKind.i64.wrap (((t+1:Nat):Int)+1)=((t+1+1:Nat):Int):=cH (by omega);have ae:=A.kX (t+1) 0 (by omega) (by omega);rw[A.mR t PJ,Nat.add_zero] at ae
  have step:us t=true->bp (rX C lf r aB) (f+1) (some (.ptr R.rt 0),some (I mo),some (I uid),some (I gid),some (I ((t+1:Nat):Int))) h=
   bp (rX C lf r aB) f (some (.ptr R.rt 0),some (I mo),some (I uid),some (I gid),some (I ((t+1+1:Nat):Int))) h:=by
   intro hu;rw[hu] at ae;rw[dh];show Bo C lf (λx0 x1 x2 x3 x11 h=>bp (rX C lf r aB) f (x0,x1,x2,x3,x11) h) r aB (some (.ptr R.rt 0)) (some (I mo)) (some (I uid)) (some (I gid)) (some (I ((t+1:Nat):Int))) h=_;unfold Bo;simp only[aE,A.a3,a8,ct,ao,Nat.add_zero,ae,Bool.not_true,aj]
  refine⟨λgq=>?_,λi h1 h2 hu vH=>?_⟩
  ·rw[step (gq t (Nat.le_refl _) PJ)];exact DR λj aa hh=>gq j (by omega) hh
  ·by_cases e:i=t
   ·subst e;rw[hu] at ae
    have C9:ib ax 78 [0,2,3,6,7,8,9] [I ((i+1:Nat):Int),I uid,I gid,I mo,I now,I now,I now]=
     some (.agg [I ((i+1:Nat):Int),I 0,I uid,I gid,I 0,I 0,I mo,I now,I now,I now]):=by kernel_rfl
    have jU:ib ax 156 [0,1] [.bool true,.agg [I ((i+1:Nat):Int),I 0,I uid,I gid,I 0,I 0,I mo,I now,I now,I now]]=
     some (.agg (eY (mc ((i+1:Nat):Int) uid gid mo now))):=by kernel_rfl
    have dk:=afN A PJ (g:=mc ((i+1:Nat):Int) uid gid mo now) (by kernel_rfl);rw[dh];unfold rX Bo;simp only[aE,A.a3,A.cl,a8,ct,ao,Nat.add_zero,ae,Bool.not_false,aj,C9,jU,dk]
   ·rw[step (vH t (Nat.le_refl _) (by omega))];exact DS i (by omega) h2 hu λj aa hh=>vH j (by omega) hh
def F0(C:ad):Prop:=∀h R n N on q b now us rd (mo uid gid:Int),bP h R n N on q b now us rd-> -9223372036854775808<=mo->mo<9223372036854775808->
 (lI mo uid gid->C (.fn 97) [.ptr R.rt 0,I mo,I uid,I gid] h=some (.ret (.bo [I 0,I 22]),h))/\
 (¬lI mo uid gid->(∀j,j<N->us j=true)->C (.fn 97) [.ptr R.rt 0,I mo,I uid,I gid] h=some (.ret (.bo [I 0,I 28]),h))/\
 (¬lI mo uid gid->∀i,i<N->us i=false->(∀j,j<i->us j=true)->∃h',C (.fn 97) [.ptr R.rt 0,I mo,I uid,I gid] h=some (.ret (.bo [I ((i+1:Nat):Int),I 0]),h')/\
   bP h' R n N on q b now (c3 us i true) (ie rd (i+1) (mc ((i+1:Nat):Int) uid gid mo now))/\h'.next=h.next/\aN h h' (· =R.bu))
theorem afG{a c:J}:xC (some a) (some c) h=some (.ret (.bo [a,c]),h):=eX rfl
theorem ax6{C:ad}{lf:Nat}{r:a0}{x0 x1 x2 x3:O}{h:U}:Vu C lf r x0 x1 x2 x3 h=Kp C lf (λx0 x1 x2 x3 aW h=>Ko C lf r x0 x1 x2 x3 aW h) x0 x1 x2 x3 h:=rfl
theorem afv{C:ad}{lf:Nat}{r:a0}{x0 x1 x2 x3:O}{h:U}:E1 C lf r x0 x1 x2 x3 h=bp (rX C lf r (λh=>Kn C lf r h)) lf (x0,x1,x2,x3,some (I 1)) h:=rfl
theorem ax7{C:ad}(B0:B1 C)(hC: -9223372036854775808<=mo)(e6:mo<9223372036854775808){R:ez}:
 (lI mo uid gid->vB C lf (.ptr R.rt 0) (I mo) (I uid) (I gid) h=some (.ret (.bo [I 0,I 22]),h))/\
 (¬lI mo uid gid->vB C lf (.ptr R.rt 0) (I mo) (I uid) (I gid) h=E1 C lf xC (some (.ptr R.rt 0)) (some (I mo)) (some (I uid)) (some (I gid)) h):=by
 have ag:=apk hC e6;have ai:=B0 h mo;obtain⟨j2,hm⟩:∃j2,IntKind.i64.wrap ((BitVec.ofInt 64 mo&&& BitVec.ofInt 64 65535).toNat:Int)=j2:=⟨_,rfl⟩;rw[hm] at ag;have hand:∀t,bin ax .and t (I mo) (I 65535)=some (I j2):=λt=>by rw[Cd,hm]
 clear hm;unfold vB;rw[ax6];unfold Kp;simp only[aE,ai];unfold Ko Vt;generalize aZ:E1 C lf xC (some (.ptr R.rt 0)) (some (I mo)) (some (I uid)) (some (I gid)) h=Q;simp only[aE,hand,aZ];unfold lI;rw[<- ag];by_cases al:mo=j2
 ·subst al
  by_cases an:mo<0<;>by_cases aD:lb mo=32768<;>by_cases a7:lb mo=16384<;>by_cases cw:lb mo=40960<;>by_cases dO:uid<0<;>by_cases ek:gid<0<;>
   simp[an,aD,a7,cw,dO,ek,aZ,afG,iw,aE,hand]
 ·by_cases aD:lb mo=32768<;>by_cases a7:lb mo=16384<;>by_cases cw:lb mo=40960<;>simp[al,aD,a7,cw,aZ,afG,iw,aE,hand]
theorem ax4{C:ad}(gf:4097<=lf)(B0:B1 C)(hC: -9223372036854775808<=mo)(e6:mo<9223372036854775808)(A:bP h R n N on q b now us rd):
 (lI mo uid gid->vB C lf (.ptr R.rt 0) (I mo) (I uid) (I gid) h=some (.ret (.bo [I 0,I 22]),h))/\
 (¬lI mo uid gid->(∀j,j<N->us j=true)->vB C lf (.ptr R.rt 0) (I mo) (I uid) (I gid) h=some (.ret (.bo [I 0,I 28]),h))/\
 (¬lI mo uid gid->∀i,i<N->us i=false->(∀j,j<i->us j=true)->∃h',vB C lf (.ptr R.rt 0) (I mo) (I uid) (I gid) h=some (.ret (.bo [I ((i+1:Nat):Int),I 0]),h')/\
   bP h' R n N on q b now (c3 us i true) (ie rd (i+1) (mc ((i+1:Nat):Int) uid gid mo now))/\h'.next=h.next/\aN h h' (· =R.bu)):=by
 have k3:=A.hW;obtain⟨bQ,cn⟩:=ax7 (lf:=lf) (mo:=mo) (uid:=uid) (gid:=gid) (h:=h) B0 hC e6 (R:=R);obtain⟨cd,c1⟩:=ax3 (lf:=lf) (mo:=mo) (uid:=uid) (gid:=gid) (C:=C) xC (λh=>Kn C lf xC h) A N 0 (by omega) lf (by omega);have az:((0+1:Nat):Int)=1:=rfl;rw[az] at cd c1;refine⟨bQ,λbd gq=>?_,λbd i hi hu ag=>⟨_,?_,A.setRow hi rfl,dW ..,fO rfl⟩⟩
 ·rw[cn bd,afv,cd λj _ aa=>gq j aa];rfl
 ·rw[cn bd,afv,c1 i (Nat.zero_le _) hi hu λj _ aa=>ag j aa];rfl
end
theorem ay7{C:ad}{lf:Nat}{r:a0}{x0 x1 x2 x3:O}{h:U}:U0 C lf r x0 x1 x2 x3 h=Kd C lf (λx0 x1 x2 x3 h=>Kc C lf r x0 x1 x2 x3 h) r x0 x1 x2 x3 h:=rfl
theorem ay8{C:ad}{lf:Nat}{r:a0}{x0 x1 x2 x3:O}{h:U}:UY C lf r x0 x1 x2 x3 h=Kb C lf r x0 x1 x2 x3 (some (.val (.slice none 0 0))) h:=rfl
theorem ay9{C:ad}{lf:Nat}{fI:dz}{x0 x1 x3 aW x11 x12 eS:O}{h:U}:ae8 C lf fI x0 x1 x3 aW x11 x12 eS h=UP C lf fI x0 x1 x3 aW x11 x12 eS (some (.int .u8 0)) h:=rfl
structure u3 (h0 h:U) (x:J) (l:List Nat):Prop where
 aY:hX h 5 1 x l.length (jd l)
 new:∀j,rowOf x=some j->h0.next<=j
 lt:∀c∈l,c<256
theorem u3.bytes{h0 h:U}{x:J}{l:List Nat}(S:u3 h0 h x l):Bytes h x l:=by
 refine⟨S.lt,?_⟩;rcases S.aY.2 with⟨e,aB⟩|⟨k,e,A⟩
 ·exact .inl ⟨by rw[e];exact .inl rfl,List.eq_nil_of_length_eq_zero aB⟩
 ·obtain⟨m,hm,_⟩:=A.mt;refine .inr ⟨k,0,none,0,m,e,hm,λj aa=>?_⟩;rw[Nat.zero_add,A.cs j (by omega),KT l aa]
section
variable{lf:Nat}{h h0:U}{R:ez}{n N:Nat}{on:Nat->Bool}{q:Nat->Option Nat}{b:Nat->Nat}{now:Int}{us:Nat->Bool}{rd:Nat->Nat->J}{bl:Nat->Nat->Nat}{i:Nat}{ino:Int}
theorem ajt(ag:∀j,b j<256)(p:Nat):pn bl b i p<256:=by
 unfold pn;split
 ·omega
 ·exact ag _
theorem aza{C:ad}(A:bP h R n N on q b now us rd)(M:dc N rd bl)(K:hV n N on bl)(hi:i<N){x3 x11:O}{off t:Nat}{x:J}(aA:off+t<17792)(B:u3 h0 h x (nF bl b i off t))(lQ:h0.next<=h.next)(fI:dz):
 ∃bW h',UQ C lf fI (some (.ptr R.rt 0)) (some (I ((i+1:Nat):Int))) x3 (some x) x11 (some (I ((off+t:Nat):Int))) h=
   fI (some (.ptr R.rt 0)) (some (I ((i+1:Nat):Int))) x3 (some bW) x11 (some (I ((off+(t+1):Nat):Int))) h'/\
  u3 h0 h' bW (nF bl b i off (t+1))/\h0.next<=h'.next/\(aN h0 h (λ_=>False)->aN h0 h' (λ_=>False)):=by
 have fv:n<=4096:=A.ref.v.choose_spec.choose_spec.2.2.cF;have O5:∀j,b j<256:=A.ref.v.choose_spec.choose_spec.2.2.blt;obtain⟨cap,lo,ct⟩:=A.ct;have ao:=mj (R:=R) (N:=N) (i:=i+1) (cap:=cap) (lo:=lo) (by omega);have ai:(off+t)/64<278:=by omega
 have b3:=tx (R:=R) (i:=i) (k:=(off+t)/64) (m:=278) (o:=12) ai;have eI:=mP A M hi (c:=12+(off+t)/64) (by omega) (by omega);rw[qV ai] at eI
 have aZ:IntKind.i64.wrap (((off+t:Nat):Int).tdiv 64)=(((off+t)/64:Nat):Int):=by
  rw[Int.tdiv_eq_ediv_of_nonneg (by omega),wrap_i64 (by omega) (by omega)];rfl
 have aI:((off+t:Nat):Int).tmod 64=(((off+t)%64:Nat):Int):=by
  rw[Int.tmod_eq_emod_of_nonneg (by omega)];rfl
 have dy:IntKind.i64.wrap (((off+t:Nat):Int)+1)=((off+(t+1):Nat):Int):=cH (by omega);have WD:=B.aY;rw[GO] at WD;obtain⟨bW,h',an,aD,a7,cw,dO,ek,hF,kv⟩:=xi (h:=h) (y:= .int .u8 ((pn bl b i (off+t):Nat):Int)) aiJ rfl rfl rfl WD (by omega) (by omega);refine⟨bW,h',?_,⟨?_,λj aa=>?_,λc ae=>?_⟩,Nat.le_trans lQ cw,λF=>⟨dO.trans F.aH,Nat.le_trans F.next cw,λj aa _=>(ek j (Nat.lt_of_lt_of_le aa F.next) (λaI=>absurd (B.new j aI) (by omega))).trans (F.same j aa (λe=>e)),λak=>kv (F.dx ak)⟩⟩
 ·unfold UQ afa ae9;simp only[aE,ct,lJ (show(64:Int)≠0 by omega),aZ,ao,b3,eI];rw[ay9];unfold UP ae7;by_cases hv:0<bl i (a4 ((off+t)/64))
  ·have d1:decide ((0:Int)<(bl i (a4 ((off+t)/64)):Int))=true:=bw (by omega);have hle:=K.le i _ hi qT (r6 ai);have jZ:=Bv K fv hi qT (r6 ai) hv
   have ag:pn bl b i (off+t)=b ((bl i (a4 ((off+t)/64))-1)*64+(off+t)%64):=by
    unfold pn;rw[if_neg (by omega)]
   rw[ag] at an aD;obtain⟨x1,xr,lH,bQ,cn,fl,nj,yP⟩:=A.al0 (j:=bl i (a4 ((off+t)/64))-1) (p:=(off+t)%64) (by omega) (K.on i _ hi qT (r6 ai) hv) (by omega);simp only[aE,d1,bQ,jZ,cn,fl,hQ (show(64:Int)≠0 by omega),aI,nj,yP];unfold UO;simp only[cg,cf,sC,an,aD];unfold UW;simp only[cg,cf,sD,dy]
  ·have d1:decide ((0:Int)<(bl i (a4 ((off+t)/64)):Int))=false:=bq (by omega)
   have ag:pn bl b i (off+t)=0:=by
    unfold pn;rw[if_pos (by omega)]
   rw[ag] at an aD;have aB:((0:Nat):Int)=0:=rfl;rw[aB] at an aD;simp only[aE,d1];unfold UO;simp only[cg,cf,sC,an,aD];unfold UW;simp only[cg,cf,sD,dy]
 ·rw[Yl];have az:jd (nF bl b i off t++[pn bl b i (off+t)])=jd (nF bl b i off t)++[.int .u8 ((pn bl b i (off+t):Nat):Int)]:=by simp[jd]
  rw[az,List.length_append,GO];exact a7
 ·rcases hF j aa with e|e
  ·exact B.new j e
  ·omega
 ·rw[Yl] at ae;rcases List.mem_append.1 ae with e|e
  ·exact B.lt c e
  ·rw[List.mem_singleton.1 e];exact ajt O5 _
theorem afM{C:ad}{off sz m:Nat}(dV:sz<=17792)(A:bP h0 R n N on q b now us rd)(M:dc N rd bl)(K:hV n N on bl)(hi:i<N)(aB:aC):∀(d t:Nat),t+d=min m (sz-off)->∀f,d<f->∀h x,u3 h0 h x (nF bl b i off t)->aN h0 h (λ_=>False)->
 ∃bW h',bp (yz C lf aB) f (some (.ptr R.rt 0),some (I ((i+1:Nat):Int)),some (I (m:Int)),some x,some (I (sz:Int)),some (I ((off+t:Nat):Int))) h=aB (some bW) h'/\
  u3 h0 h' bW (nF bl b i off (min m (sz-off)))/\aN h0 h' (λ_=>False)
 |0,t,aK,f,ak,h,x,B,F=>by
  obtain⟨f,rfl⟩:=dE f (by omega);have aJ:=qM (P:=ax) Tryd.underlying24 B.bytes;rw[GO] at aJ;have alf:t=min m (sz-off):=by omega
  refine⟨x,h,?_,by rw[<- alf];exact B,F⟩;rw[dh];unfold yz EV UR;by_cases h1:off+t<sz
  ·have d1:decide (((off+t:Nat):Int)<(sz:Int))=true:=bw (by omega);have d2:decide ((t:Int)<(m:Int))=false:=bq (by omega);simp only[aE,d1,aJ,d2]
  ·have d1:decide (((off+t:Nat):Int)<(sz:Int))=false:=bq (by omega);simp only[aE,d1,iw]
 |d+1,t,aK,f,ak,h,x,B,F=>by
  obtain⟨f,rfl⟩:=dE f (by omega);have aJ:=qM (P:=ax) Tryd.underlying24 B.bytes;rw[GO] at aJ;have d1:decide (((off+t:Nat):Int)<(sz:Int))=true:=bw (by omega);have d2:decide ((t:Int)<(m:Int))=true:=bw (by omega);have lu:=A.iP F λ_ _ e=>e
  obtain⟨x1,h1,s1,jN,cI,aL⟩:=aza (C:=C) (lf:=lf) (x3:=some (I (m:Int))) (x11:=some (I (sz:Int))) lu M K hi (off:=off) (t:=t) (by omega) B F.next (λx0 x1 x3 aW x11 x12 h=>bp (yz C lf aB) f (x0,x1,x3,aW,x11,x12) h)
  obtain⟨x2,h2,s2,fa,bF⟩:=afM (off:=off) (sz:=sz) (m:=m) dV A M K hi aB d (t+1) (by omega) f (by omega) h1 x1 jN (aL F);refine⟨x2,h2,?_,fa,bF⟩;rw[dh];show EV C lf (λx0 x1 x3 aW x11 x12 h=>bp (yz C lf aB) f (x0,x1,x3,aW,x11,x12) h) aB _ _ _ _ _ _ h=_;unfold EV UR;simp only[aE,d1,aJ,d2];rw[s1];exact s2
def Gb(C:ad):Prop:=∀h R n N on q b now us rd bl (ino off m:Int),bP h R n N on q b now us rd->dc N rd bl->hV n N on bl->off<9223372036854775808->m<9223372036854775808->
 (db N us ino=false->C (.fn 88) [.ptr R.rt 0,I ino,I off,I m] h=some (.ret (.bo [.val (.slice none 0 0),I 2]),h))/\
 (∀i (sz:Nat),jg N us ino i->rd (i+1) 5=I (sz:Int)->sz<=17792->
   ((off<0\/m<0)->C (.fn 88) [.ptr R.rt 0,I ino,I off,I m] h=some (.ret (.bo [.val (.slice none 0 0),I 22]),h))/\
   (0<=off->0<=m->∃x h',C (.fn 88) [.ptr R.rt 0,I ino,I off,I m] h=some (.ret (.bo [x,I 0]),h')/\
     u3 h h' x (nF bl b i off.toNat (min m.toNat (sz-off.toNat)))/\aN h h' (λ_=>False)))
theorem azh{C:ad}(gf:20000<=lf)(lz:p7 C){off m:Int}(A:bP h R n N on q b now us rd)(M:dc N rd bl)(K:hV n N on bl)(dn:off<9223372036854775808)(e6:m<9223372036854775808):
 (db N us ino=false->Ad C lf (.ptr R.rt 0) (I ino) (I off) (I m) h=some (.ret (.bo [.val (.slice none 0 0),I 2]),h))/\
 (∀i (sz:Nat),jg N us ino i->rd (i+1) 5=I (sz:Int)->sz<=17792->
   ((off<0\/m<0)->Ad C lf (.ptr R.rt 0) (I ino) (I off) (I m) h=some (.ret (.bo [.val (.slice none 0 0),I 22]),h))/\
   (0<=off->0<=m->∃x h',Ad C lf (.ptr R.rt 0) (I ino) (I off) (I m) h=some (.ret (.bo [x,I 0]),h')/\
     u3 h h' x (nF bl b i off.toNat (min m.toNat (sz-off.toNat)))/\aN h h' (λ_=>False))):=by
 have dS:=lz h R n N on q b now us rd ino A;obtain⟨cap,lo,ct⟩:=A.ct;unfold Ad;rw[ay7];unfold Kd;refine⟨λag=>?_,λi sz b6 dV td=>?_⟩
 ·rw[ag] at dS;unfold z3;simp only[aE,dS,Bool.not_false]
 ·rw[b6.yes] at dS;obtain⟨hi,hu,rfl⟩:=b6;simp only[aE,dS,Bool.not_true];unfold Kc UZ;refine⟨λh1=>?_,λh1 h2=>?_⟩
  ·unfold z3;by_cases h3:off<0
   ·simp only[aE,bw h3,iw]
   ·have aU:m<0:=by omega
    simp only[aE,bq h3,bw aU]
  ·obtain⟨o,rfl⟩:∃o:Nat,off=o:=⟨off.toNat,by omega⟩;obtain⟨m,rfl⟩:∃o:Nat,m=o:=⟨m.toNat,by omega⟩;have d1:decide ((o:Int)<0)=false:=bq (by omega);have d2:decide ((m:Int)<0)=false:=bq (by omega);have ao:=mj (R:=R) (N:=N) (i:=i+1) (cap:=cap) (lo:=lo) (by omega);have mG:=A.kX (i+1) 5 (by omega) (by omega);rw[dV] at mG;have jk:(i+1)*308+1+4=(i+1)*308+5:=rfl;obtain⟨bW,h',s1,jN,aL⟩:=afM (C:=C) (lf:=lf) (off:=o) (m:=m) td A M K hi (λaW h=>Ka C lf z3 aW h) (min m (sz-o)) 0 (by omega) lf (by omega) h (.val (.slice none 0 0)) ⟨hX.nil _ _ _,λj aa=>(by cases aa),λc ae=>(by cases ae)⟩ (aN.refl _ _);simp only[Nat.add_zero] at s1;simp only[Int.toNat_natCast];refine⟨bW,h',?_,jN,aL⟩;simp only[aE,d1,d2];rw[ay8];unfold Kb UX;simp only[aE,ct,ao,jk,mG];unfold UU UT US;simp only[cg,cf];rw[s1];unfold Ka z3;simp only[cg,cf]
end
section
open Classical
theorem alz{W W':Nat->Bool}{a:Nat}(h1:12<=a)(h2:a<308)(mD:∀c,W c=true->c<a)(ui:∀c,W' c=true↔(W c=true\/c=a)):(List.range' 12 296).filter W'=(List.range' 12 296).filter W++[a]:=by
 have e:List.range' 12 296=List.range' 12 (a-12)++a::List.range' (a+1) (307-a):=by
  have az:=List.range'_append (s:=12) (m:=a-12) (n:=307-a+1) (step:=1);rw[show 12+1*(a-12)=a by omega,show a-12+(307-a+1)=296 by omega,List.range'_succ] at az;exact az.symm
 have C7:W' a=true:=(ui a).2 (.inr rfl)
 have bX:W a=false:=by
  cases hw:W a with
  |false=>rfl
  |true=>exact absurd (mD a hw) (Nat.lt_irrefl _)
 have aI:∀V:Nat->Bool,(∀c,V c=true->c<=a)->(List.range' (a+1) (307-a)).filter V=[]:=λV Ak=>by
  rw[List.filter_eq_nil_iff];intro c ae hv
  have:=Ak c hv
  rw[List.mem_range'_1] at ae;omega
 have aJ:(List.range' 12 (a-12)).filter W'=(List.range' 12 (a-12)).filter W:=List.filter_congr λc ae=>by
  rw[List.mem_range'_1] at ae;rw[Bool.eq_iff_iff,ui];exact⟨λx=>x.elim id λx=>by omega,.inl⟩
 rw[e,List.filter_append,List.filter_append,List.filter_cons,List.filter_cons,bX,C7,aJ,aI W (λc h=>Nat.le_of_lt (mD c h)),aI W' (λc h=>by
  rcases(ui c).1 h with h|h
  ·exact Nat.le_of_lt (mD c h)
  ·exact Nat.le_of_eq h)]
 simp
def kl(f:Nat->Nat)(W:Nat->Bool):List Nat:=((List.range' 12 296).filter W).map λc=>f c-1
theorem QO{f:Nat->Nat}{W W':Nat->Bool}{a:Nat}(h1:12<=a)(h2:a<308)(mD:∀c,W c=true->c<a)(ui:∀c,W' c=true↔(W c=true\/c=a)):kl f W'=kl f W++[f a-1]:=by
 unfold kl;rw[alz h1 h2 mD ui,List.map_append];rfl
theorem Ef{f:Nat->Nat}{W W':Nat->Bool}(h:∀c,12<=c->c<308->(W' c=true↔W c=true)):kl f W'=kl f W:=by
 unfold kl
 have e:(List.range' 12 296).filter W'=(List.range' 12 296).filter W:=List.filter_congr λc ae=>by
  rw[List.mem_range'_1] at ae;exact Bool.eq_iff_iff.2 (h c ae.1 (by omega))
 rw[e]
theorem adU(bl:Nat->Nat->Nat)(i:Nat):jJ bl i=kl (bl i) (λc=>decide (0<bl i c)):=by
 unfold jJ hl eO kl;rw[List.range'_eq_map_range,List.filter_map,List.filter_map,List.map_map,List.map_map];rfl
def WP(f:Nat->Nat)(p c:Nat):Prop:=(∃k,k<p/\c=a4 k/\0<f (a4 k))\/(∃k,k<p/\6<=k/\c=dm ((k-6)/16)/\0<f (a4 k))\/(c=35/\∃k,k<p/\22<=k/\0<f (a4 k))
noncomputable def mu(f:Nat->Nat)(p c:Nat):Bool:=decide (WP f p c)
theorem QW{k p:Nat}(h:k<p)(aA:p<278):a4 k<a4 p:=by
 unfold a4;split<;>split<;>(try split)<;>(try split)<;>omega
theorem OL{k:Nat}(bC:6<=k):dm ((k-6)/16)<a4 k:=by
 unfold dm a4;split<;>split<;>(try split)<;>omega
theorem Fm{k:Nat}(h:22<=k):35<dm ((k-6)/16)/\dm ((k-6)/16)<a4 k:=by
 refine⟨?_,OL (by omega)⟩;unfold dm;rw[if_neg (by omega)];omega
section
variable{f:Nat->Nat}{p:Nat}
theorem WP.lt(aA:p<278){c:Nat}(h:WP f p c):c<a4 p:=by
 rcases h with⟨k,a,rfl,_⟩|⟨k,a,ek,rfl,_⟩|⟨rfl,k,a,Gw,_⟩
 ·exact QW a aA
 ·exact Nat.lt_trans (OL ek) (QW a aA)
 ·have:=Fm Gw
  have:=QW a aA
  omega
theorem WP.skip(h0:f (a4 p)=0){c:Nat}:WP f (p+1) c↔WP f p c:=by
 unfold WP;constructor
 ·rintro (⟨k,a,aD,a7⟩|⟨k,a,ek,aD,a7⟩|⟨e,k,a,aD,a7⟩)
  ·by_cases e:k=p
   ·subst e;omega
   ·exact .inl ⟨k,by omega,aD,a7⟩
  ·by_cases e:k=p
   ·subst e;omega
   ·exact .inr (.inl ⟨k,by omega,ek,aD,a7⟩)
  ·by_cases bh:k=p
   ·subst bh;omega
   ·exact .inr (.inr ⟨e,k,by omega,aD,a7⟩)
 ·rintro (⟨k,a,aD,a7⟩|⟨k,a,ek,aD,a7⟩|⟨e,k,a,aD,a7⟩)
  ·exact .inl ⟨k,by omega,aD,a7⟩
  ·exact .inr (.inl ⟨k,by omega,ek,aD,a7⟩)
  ·exact .inr (.inr ⟨e,k,by omega,aD,a7⟩)
theorem WP.next(h0:0<f (a4 p)){c:Nat}:WP f (p+1) c↔(((WP f p c\/(22<=p/\c=35))\/(6<=p/\c=dm ((p-6)/16)))\/c=a4 p):=by
 unfold WP;constructor
 ·rintro (⟨k,a,aD,a7⟩|⟨k,a,ek,aD,a7⟩|⟨e,k,a,aD,a7⟩)
  ·by_cases e:k=p
   ·subst e;exact .inr aD
   ·exact .inl (.inl (.inl (.inl ⟨k,by omega,aD,a7⟩)))
  ·by_cases e:k=p
   ·subst e;exact .inl (.inr ⟨ek,aD⟩)
   ·exact .inl (.inl (.inl (.inr (.inl ⟨k,by omega,ek,aD,a7⟩))))
  ·by_cases bh:k=p
   ·subst bh;exact .inl (.inl (.inr ⟨aD,e⟩))
   ·exact .inl (.inl (.inl (.inr (.inr ⟨e,k,by omega,aD,a7⟩))))
 ·rintro ((((⟨k,a,aD,a7⟩|⟨k,a,ek,aD,a7⟩|⟨e,k,a,aD,a7⟩)|⟨a,e⟩)|⟨a,e⟩)|e)
  ·exact .inl ⟨k,by omega,aD,a7⟩
  ·exact .inr (.inl ⟨k,by omega,ek,aD,a7⟩)
  ·exact .inr (.inr ⟨e,k,by omega,aD,a7⟩)
  ·exact .inr (.inr ⟨e,p,by omega,a,h0⟩)
  ·exact .inr (.inl ⟨p,by omega,a,e,h0⟩)
  ·exact .inl ⟨p,by omega,e,h0⟩
theorem WP.aBq(aO:∀k,k<p->22<=k->f (a4 k)=0){c:Nat}(h:WP f p c):c<35:=by
 rcases h with⟨k,a,rfl,h⟩|⟨k,a,ek,rfl,h⟩|⟨rfl,k,a,Gw,h⟩
 ·have:k<22:=by
   by_cases e:22<=k
   ·have:=aO k a e;omega
   ·omega
  unfold a4;split
  ·omega
  ·first|omega|(rw[if_pos this];omega)
 ·have:k<22:=by
   by_cases e:22<=k
   ·have:=aO k a e;omega
   ·omega
  unfold dm;rw[if_pos (by omega)];omega
 ·have:=aO k a Gw;omega
theorem WP.amb(bC:6<=p)(aA:p<278)(aO:∀k,k<p->6<=k->(k-6)/16=(p-6)/16->f (a4 k)=0){c:Nat}(h:WP f p c\/(22<=p/\c=35)):c<dm ((p-6)/16):=by
 rcases h with(⟨k,a,rfl,h⟩|⟨k,a,ek,rfl,h⟩|⟨rfl,k,a,Gw,h⟩)|⟨a,rfl⟩
 ·have ai:k<6+16*((p-6)/16):=by
   by_cases e:6<=k
   ·by_cases aw:(k-6)/16=(p-6)/16
    ·have:=aO k a e aw;omega
    ·omega
   ·omega
  unfold dm a4;split<;>split<;>(try split)<;>omega
 ·have ai:(k-6)/16<(p-6)/16:=by
   by_cases aw:(k-6)/16=(p-6)/16
   ·have:=aO k a ek aw;omega
   ·omega
  unfold dm;split<;>split<;>omega
 ·exact(Fm (by omega:22<=p)).1
 ·exact(Fm a).1
theorem WP.all{bl:Nat->Nat->Nat}{i:Nat}(S:l3 bl i){c:Nat}(h1:12<=c)(h2:c<308):WP (bl i) 278 c↔0<bl i c:=by
 have cj:∀g,g<17->(hole bl i (dm g)=false↔∃k,k<278/\6<=k/\g=(k-6)/16/\0<bl i (a4 k)):=λg bd=>by
  rw[Bool.eq_false_iff,Ne,oI];constructor
  ·intro h;obtain⟨j,aa⟩:=Classical.not_forall.1 h;obtain⟨vX,yp⟩:=Classical.not_imp.1 aa;exact⟨6+g*16+j,by omega,by omega,by omega,by rw[HR vX];omega⟩
  ·rintro ⟨k,an,aD,a7,cw⟩ h
   have e:k=6+g*16+(k-6)%16:=by omega
   have:=h ((k-6)%16) (by omega)
   rw[<- HR (by omega), <- e] at this;omega
 have aj:∀g,g<17->(0<bl i (dm g)↔hole bl i (dm g)=false):=λg bd=>by
  unfold dm;by_cases e:g=0
  ·rw[if_pos e]
   have:=S.one
   cases ag:hole bl i 18<;>simp[ag] at this⊢ <;>omega
  ·rw[if_neg e]
   have:=S.xF (g-1) (by omega)
   cases ag:hole bl i (36+17*(g-1))<;>simp[ag] at this⊢ <;>omega
 unfold WP;constructor
 ·rintro (⟨k,a,e,a7⟩|⟨k,a,ek,e,a7⟩|⟨e,k,a,aD,a7⟩)
  ·rw[e];exact a7
  ·rw[e];exact(aj _ (by omega)).2 ((cj _ (by omega)).2 ⟨k,a,ek,rfl,a7⟩)
  ·rw[e];have h3:0<bl i (dm ((k-6)/16)):=(aj _ (by omega)).2 ((cj _ (by omega)).2 ⟨k,a,by omega,rfl,a7⟩);have aw:dm ((k-6)/16)=36+17*((k-6)/16-1):=if_neg (by omega);rw[aw] at h3;by_cases aU:bl i 35=0
   ·have:=S.two.1 aU ((k-6)/16-1) (by omega);omega
   ·omega
 ·intro h
  have ind:∀g,g<17->c=dm g->∃k,k<278/\6<=k/\c=dm ((k-6)/16)/\0<bl i (a4 k):=λg bd e=>by
   rw[e] at h;obtain⟨k,an,aD,a7,cw⟩:=(cj g bd).1 ((aj g bd).1 h);exact⟨k,an,aD,by rw[<- a7];exact e,cw⟩
  by_cases ei:c<18
  ·have e:c=a4 (c-12):=by unfold a4;rw[if_pos (by omega)];omega
   exact .inl ⟨c-12,by omega,e,by rw[<- e];exact h⟩
  ·by_cases fJ:c=18
   ·exact .inr (.inl (ind 0 (by omega) fJ))
   ·by_cases oO:c<35
    ·have e:c=a4 (c-13):=by unfold a4;rw[if_neg (by omega),if_pos (by omega)];omega
     exact .inl ⟨c-13,by omega,e,by rw[<- e];exact h⟩
    ·by_cases Bf:c=35
     ·refine .inr (.inr ⟨Bf,?_⟩);rw[Bf] at h;by_cases bA:∃t,t<16/\0<bl i (36+17*t)
      ·obtain⟨t,t1,t2⟩:=bA;have aw:dm (t+1)=36+17*t:=by unfold dm;rw[if_neg (by omega),Nat.add_sub_cancel]
       rw[<- aw] at t2;obtain⟨k,an,aD,a7,cw⟩:=(cj _ (by omega)).1 ((aj _ (by omega)).1 t2);exact⟨k,an,by omega,cw⟩
      ·have:=S.two.2 λt aK=>by
        by_cases bC:0<bl i (36+17*t)
        ·exact absurd ⟨t,aK,bC⟩ bA
        ·omega
       omega
     ·by_cases aD2:(c-36)%17=0
      ·refine .inr (.inl (ind ((c-36)/17+1) (by omega) ?_));unfold dm;rw[if_neg (by omega)];omega
      ·have e:c=a4 (22+16*((c-36)/17)+((c-36)%17-1)):=by
        unfold a4;rw[if_neg (by omega),if_neg (by omega)];omega
       exact .inl ⟨_,by omega,e,by rw[<- e];exact h⟩
end
end
noncomputable section
variable{C:ad}{lf:Nat}{bc a6 gi hJ gj hK qF qG qH qI qJ qK qC qD qE:gD}{ar:kR}
def eP:ca ax:=dv 87 Tryd.f87 Tryd.func87 (by kernel_rfl)
noncomputable def Cy(bV e2:O)(h:U):ab:=
 ob bV λa=>ob e2 λb=>some (.ret (.bo [a,b]),h)
def ET(C:ad)(lf:Nat)(r:a0)(x7:O)(h:U):ab:=
 ob x7 λa=>r (some a) (bE 0) h
theorem awu{r:a0}:∀F h,au eP C lf [1,1,1,1,1] F h bc (bf r 4 5) ar=aX (ET C lf r) 7 F h:=by
 intro F h;kernel_rfl
def tw(C:ad)(lf:Nat)(n:bG)(aM x7 x23:O)(h:U):ab:=
 cB .add 3 x23 (I 1) λa=>n aM x7 (some a) h
theorem awB{n:bG}:∀F h,au eP C lf [1,1,1,1,0,1,0,0,1,1,1] F h (bB n 6 7 23) a6 (bS 0 gi ar)=bB (tw C lf n) 6 7 23 F h:=by
 intro F h;kernel_rfl
def J5(C:ad)(lf:Nat)(n:bG)(aM x7 aT x23:O)(h:U):ab:=
 ob x7 λa=>ob aM λb=>ob aT λc=>ed 12 b λb=>ob (ev 278 1 b c) λb=>ob (b0 b h) λb=>cm .sub 3 b (I 1) λb=>b2 (iJ ax 33 1 [0] [b] h) λb k=>b2 (gA ax .append #[33,33] [a,b] k) λa=>n aM (some a) x23
def UL(C:ad)(lf:Nat)(n:br)(aM x7 aT x9 aW x23:O)(h:U):ab:=
 ob aW λa=>fV a (ob x7 λa=>ob aM λb=>ob x9 λc=>ed 290 b λb=>ob (ev 17 1 b c) λb=>ob (b0 b h) λb=>cm .sub 3 b (I 1) λb=>b2 (iJ ax 33 1 [0] [b] h) λb k=>b2 (gA ax .append #[33,33] [a,b] k) λa=>n aM (some a) aT x23) (n aM x7 aT x23 h)
def J6(C:ad)(lf:Nat)(n:bG)(aM x7 aT x9 aW x23:O)(h:U):ab:=
 UL C lf (J5 C lf n) aM x7 aT x9 aW x23 h
theorem awt{n:bG}:∀F h,au eP C lf [1,1,1,1,0,1,0,0,1,1,0,0,1,1,1,1,1,1,1,1] F h (bB n 6 7 23) a6 (bS 1 hJ (bS 0 gi ar))=ej (J6 C lf n) 6 7 8 9 10 23 F h:=by
 intro F h;kernel_rfl
def EU(C:ad)(lf:Nat)(n:kQ)(ef:dz)(aM x7 aT x9 aW x12 x23:O)(h:U):ab:=
 lX .lss 3 x12 aT (ob aW λa=>b8 a x12 h λb k=>eo (dL true (some a) (da C 105 [b] k λa k=>some (.ret a,k)) k) λb k=>b8 a x9 k λc k=>b8 a (bin ax .neq 3 b c) k λb k=>b8 a (some b) k λb k=>dJ b aM k λc k=>dJ b x12 k λd k=>dJ b (eC c) k λc k=>dJ b (b5 12 c) k λc k=>dJ b (ev 278 1 c d) k λc k=>h4 .eql 3 b (b0 c k) (I 0) k λc k=>b8 a (jf b (.bool true) c) k λb k=>h9 a b λa=>cB .add 3 x12 (I 1) λb=>n aM x7 aT x9 (some a) (some b) x23 k) (ef aM x7 aT x9 aW x23 h)
theorem awv{n:kQ}{ef:dz}:∀F h,au eP C lf [1,1,1,1,0,1,0,0,1,1,0,0,1,1,1,1,1,1,1,0,1,0,0] F h (p9 n 6 7 8 9 10 12 23) a6 (bS 4 (ej ef 6 7 8 9 10 23) (bS 1 hJ (bS 0 gi ar)))=p9 (EU C lf n ef) 6 7 8 9 10 12 23 F h:=by
 intro F h;kernel_rfl
def yx(C:ad)(lf:Nat)(ef:dz)(k:O×O×O×O×O×O×O->U->ab)(s:O×O×O×O×O×O×O)(h:U):ab:=
 EU C lf (λa b c d g i j=>k (a,b,c,d,g,i,j)) ef s.1 s.2.1 s.2.2.1 s.2.2.2.1 s.2.2.2.2.1 s.2.2.2.2.2.1 s.2.2.2.2.2.2 h
def ae5(C:ad)(lf:Nat)(n:kQ)(aM x7 aT x9 aW x23:O)(h:U):ab:=
 n aM x7 aT x9 aW (bE 6) x23 h
theorem aww{n:kQ}:∀F h,au eP C lf [1,1,1,1,0,1,0,0,1,1,0,0,1,1,1,1,1,1,1,0,0] F h (p9 n 6 7 8 9 10 12 23) a6 (bS 1 hJ (bS 0 gi ar))=ej (ae5 C lf n) 6 7 8 9 10 23 F h:=by
 intro F h;kernel_rfl
def ae6(C:ad)(lf:Nat)(n:dz)(aM x7 aT x9 aW x23:O)(h:U):ab:=
 ae5 C lf (λa b c d g i j=>bp (yx C lf n) lf (a,b,c,d,g,i,j)) aM x7 aT x9 aW x23 h
theorem awx{n:dz}:∀F h,au eP C lf [1,1,1,1,0,1,0,0,1,1,0,0,1,1,1,1,1,1,1,0] F h (ej n 6 7 8 9 10 23) a6 (bS 1 hJ (bS 0 gi ar))=ej (ae6 C lf n) 6 7 8 9 10 23 F h:=bn (b:=b9 eP [1,1,1,1,0,1,0,0,1,1,0,0,1,1,1,1,1,1,1,0,1]) (by kernel_rfl) (fX (id:=4) (a:=b9 eP [1,1,1,1,0,1,0,0,1,1,0,0,1,1,1,1,1,1,1,0,1,0]) (by kernel_rfl) (gX (g:=λF=>(F 6,F 7,F 8,F 9,F 10,F 12,F 23)) (body:=yx C lf n) (by kernel_rfl) (λk=>(awv (n:=λaM x7 aT x9 aW x12 x23 h=>k (aM,x7,aT,x9,aW,x12,x23) h))))) (aww (n:=λaM x7 aT x9 aW x12 x23 h=>bp (yx C lf n) lf (aM,x7,aT,x9,aW,x12,x23) h))
def UM(C:ad)(lf:Nat)(n:bG)(aM x7 aT x9 aW x23:O)(h:U):ab:=
 ae6 C lf (J6 C lf n) aM x7 aT x9 aW x23 h
theorem awy{n:bG}:∀F h,au eP C lf [1,1,1,1,0,1,0,0,1,1,0,0,1,1,1,1,1,1,1] F h (bB n 6 7 23) a6 (bS 1 hJ (bS 0 gi ar))=ej (UM C lf n) 6 7 8 9 10 23 F h:=bn (by kernel_rfl) awt awx
def UN(C:ad)(lf:Nat)(n:dz)(aM x7 aT x9 x23:O)(h:U):ab:=
 cB .geq 3 x9 (I 0) λa=>n aM x7 aT x9 (some a) x23 h
theorem awz{n:dz}:∀F h,au eP C lf [1,1,1,1,0,1,0,0,1,1,0,0,1,1,1,1,1,1,0] F h (ej n 6 7 8 9 10 23) a6 (bS 1 hJ (bS 0 gi ar))=dj (UN C lf n) 6 7 8 9 23 F h:=by
 intro F h;kernel_rfl
def J7(C:ad)(lf:Nat)(n:bG)(aM x7 aT x9 x23:O)(h:U):ab:=
 UN C lf (UM C lf n) aM x7 aT x9 x23 h
theorem awA{n:bG}:∀F h,au eP C lf [1,1,1,1,0,1,0,0,1,1,0,0,1,1,1,1,1,1] F h (bB n 6 7 23) a6 (bS 1 hJ (bS 0 gi ar))=dj (J7 C lf n) 6 7 8 9 23 F h:=bn (by kernel_rfl) awy awz
def J8(C:ad)(lf:Nat)(n:dq)(aM x7 aT x9 aW x23:O)(h:U):ab:=
 cB .gtr 3 x9 (I 0) λa=>b8 a aW h λb k=>pY a b (ob x7 λa=>dI 307 aM k λb=>cm .sub 3 b (I 1) λb=>b2 (iJ ax 33 1 [0] [b] k) λb k=>b2 (gA ax .append #[33,33] [a,b] k) λa=>n aM (some a) aT x9 x23) (n aM x7 aT x9 x23 k)
theorem awC{n:dq}:∀F h,au eP C lf [1,1,1,1,0,1,0,0,1,1,0,0,1,1,1,1,1,0] F h (dj n 6 7 8 9 23) a6 (bS 1 hJ (bS 0 gi ar))=ej (J8 C lf n) 6 7 8 9 10 23 F h:=by
 intro F h;kernel_rfl
def J9(C:ad)(lf:Nat)(n:bG)(aM x7 aT x9 aW x23:O)(h:U):ab:=
 J8 C lf (J7 C lf n) aM x7 aT x9 aW x23 h
theorem awD{n:bG}:∀F h,au eP C lf [1,1,1,1,0,1,0,0,1,1,0,0,1,1,1,1,1] F h (bB n 6 7 23) a6 (bS 1 hJ (bS 0 gi ar))=ej (J9 C lf n) 6 7 8 9 10 23 F h:=bn (by kernel_rfl) awA awC
def ER(C:ad)(lf:Nat)(n:kQ)(aw:dz)(aM x7 aT x9 aW x11 x23:O)(h:U):ab:=
 lX .lss 3 x11 aT (ob aW λa=>b8 a x11 h λb k=>eo (dL true (some a) (da C 105 [b] k λa k=>some (.ret a,k)) k) λb k=>b8 a (bin ax .lss 3 b (I 1)) k λb k=>b8 a (some b) k λb k=>dJ b aM k λc k=>dJ b x11 k λd k=>dJ b (eC c) k λc k=>dJ b (b5 12 c) k λc k=>dJ b (ev 278 1 c d) k λc k=>h4 .eql 3 b (b0 c k) (I 0) k λc k=>b8 a (jf b (.bool true) c) k λb k=>h9 a b λa=>cB .add 3 x11 (I 1) λb=>n aM x7 aT x9 (some a) (some b) x23 k) (aw aM x7 aT x9 aW x23 h)
theorem av1{n:kQ}{aw:dz}:∀F h,au eP C lf [1,1,1,1,0,1,0,0,1,1,0,0,1,1,1,1,0,1,0,0] F h (p9 n 6 7 8 9 10 11 23) a6 (bS 2 (ej aw 6 7 8 9 10 23) (bS 1 hJ (bS 0 gi ar)))=p9 (ER C lf n aw) 6 7 8 9 10 11 23 F h:=by
 intro F h;kernel_rfl
def yy(C:ad)(lf:Nat)(aw:dz)(k:O×O×O×O×O×O×O->U->ab)(s:O×O×O×O×O×O×O)(h:U):ab:=
 ER C lf (λa b c d g i j=>k (a,b,c,d,g,i,j)) aw s.1 s.2.1 s.2.2.1 s.2.2.2.1 s.2.2.2.2.1 s.2.2.2.2.2.1 s.2.2.2.2.2.2 h
def aeU(C:ad)(lf:Nat)(n:kQ)(aM x7 aT x9 aW x23:O)(h:U):ab:=
 n aM x7 aT x9 aW (bE 6) x23 h
theorem av2{n:kQ}:∀F h,au eP C lf [1,1,1,1,0,1,0,0,1,1,0,0,1,1,1,1,0,0] F h (p9 n 6 7 8 9 10 11 23) a6 (bS 1 hJ (bS 0 gi ar))=ej (aeU C lf n) 6 7 8 9 10 23 F h:=by
 intro F h;kernel_rfl
def aeV(C:ad)(lf:Nat)(n:dz)(aM x7 aT x9 aW x23:O)(h:U):ab:=
 aeU C lf (λa b c d g i j=>bp (yy C lf n) lf (a,b,c,d,g,i,j)) aM x7 aT x9 aW x23 h
theorem av3{n:dz}:∀F h,au eP C lf [1,1,1,1,0,1,0,0,1,1,0,0,1,1,1,1,0] F h (ej n 6 7 8 9 10 23) a6 (bS 1 hJ (bS 0 gi ar))=ej (aeV C lf n) 6 7 8 9 10 23 F h:=bn (b:=b9 eP [1,1,1,1,0,1,0,0,1,1,0,0,1,1,1,1,0,1]) (by kernel_rfl) (fX (id:=2) (a:=b9 eP [1,1,1,1,0,1,0,0,1,1,0,0,1,1,1,1,0,1,0]) (by kernel_rfl) (gX (g:=λF=>(F 6,F 7,F 8,F 9,F 10,F 11,F 23)) (body:=yy C lf n) (by kernel_rfl) (λk=>(av1 (n:=λaM x7 aT x9 aW x11 x23 h=>k (aM,x7,aT,x9,aW,x11,x23) h))))) (av2 (n:=λaM x7 aT x9 aW x11 x23 h=>bp (yy C lf n) lf (aM,x7,aT,x9,aW,x11,x23) h))
def aeW(C:ad)(lf:Nat)(n:bG)(aM x7 aT x9 aW x23:O)(h:U):ab:=
 aeV C lf (J9 C lf n) aM x7 aT x9 aW x23 h
theorem av4{n:bG}:∀F h,au eP C lf [1,1,1,1,0,1,0,0,1,1,0,0,1,1,1,1] F h (bB n 6 7 23) a6 (bS 1 hJ (bS 0 gi ar))=ej (aeW C lf n) 6 7 8 9 10 23 F h:=bn (by kernel_rfl) awD av3
noncomputable def aeX(C:ad)(lf:Nat)(n:dz)(aM x7 aT x9 x23:O)(h:U):ab:=
 n aM x7 aT x9 (some (.bool true)) x23 h
theorem av5{n:dz}:∀F h,au eP C lf [1,1,1,1,0,1,0,0,1,1,0,0,1,1,1,0] F h (ej n 6 7 8 9 10 23) a6 (bS 1 hJ (bS 0 gi ar))=dj (aeX C lf n) 6 7 8 9 23 F h:=by
 intro F h;kernel_rfl
def UD(C:ad)(lf:Nat)(n:bG)(aM x7 aT x9 x23:O)(h:U):ab:=
 aeX C lf (aeW C lf n) aM x7 aT x9 x23 h
theorem av6{n:bG}:∀F h,au eP C lf [1,1,1,1,0,1,0,0,1,1,0,0,1,1,1] F h (bB n 6 7 23) a6 (bS 1 hJ (bS 0 gi ar))=dj (UD C lf n) 6 7 8 9 23 F h:=bn (by kernel_rfl) av4 av5
def UE(C:ad)(lf:Nat)(n:dq)(aM x7 aT x23:O)(h:U):ab:=
 aQ C 105 aT h λa=>n aM x7 aT (some a) x23
theorem av7{n:dq}:∀F h,au eP C lf [1,1,1,1,0,1,0,0,1,1,0,0,1,1,0] F h (dj n 6 7 8 9 23) a6 (bS 1 hJ (bS 0 gi ar))=bm (UE C lf n) 6 7 8 23 F h:=by
 intro F h;kernel_rfl
def JY(C:ad)(lf:Nat)(n:bG)(aM x7 aT x23:O)(h:U):ab:=
 UE C lf (UD C lf n) aM x7 aT x23 h
theorem av8{n:bG}:∀F h,au eP C lf [1,1,1,1,0,1,0,0,1,1,0,0,1,1] F h (bB n 6 7 23) a6 (bS 1 hJ (bS 0 gi ar))=bm (JY C lf n) 6 7 8 23 F h:=bn (by kernel_rfl) av6 av7
def JZ(C:ad)(lf:Nat)(n:br)(az:bG)(aM x7 aT x23:O)(h:U):ab:=
 ob aM λa=>ob aT λb=>ed 12 a λa=>ob (ev 278 1 a b) λa=>ob (b0 a h) λa=>eF .eql 3 a (I 0) (az aM x7 x23 h) (n aM x7 aT x23 h)
theorem av9{n:br}{az:bG}:∀F h,au eP C lf [1,1,1,1,0,1,0,0,1,1,0,0,1,0] F h (bm n 6 7 8 23) a6 (bS 1 (bB az 6 7 23) (bS 0 gi ar))=bm (JZ C lf n az) 6 7 8 23 F h:=by
 intro F h;kernel_rfl
def aeY(C:ad)(lf:Nat)(n:bG)(az:bG)(aM x7 aT x23:O)(h:U):ab:=
 JZ C lf (JY C lf n) az aM x7 aT x23 h
theorem awa{n:bG}{az:bG}:∀F h,au eP C lf [1,1,1,1,0,1,0,0,1,1,0,0,1] F h (bB n 6 7 23) a6 (bS 1 (bB az 6 7 23) (bS 0 gi ar))=bm (aeY C lf n az) 6 7 8 23 F h:=bn (by kernel_rfl) av8 av9
noncomputable def UF(C:ad)(lf:Nat)(n:br)(aM x7 x23:O)(h:U):ab:=
 ob x23 λa=>n aM x7 (some a) x23 h
theorem awb{n:br}:∀F h,au eP C lf [1,1,1,1,0,1,0,0,1,1,0,0,0] F h (bm n 6 7 8 23) a6 (bS 1 hJ (bS 0 gi ar))=bB (UF C lf n) 6 7 23 F h:=by
 intro F h;kernel_rfl
def UG(C:ad)(lf:Nat)(n:bG)(az:bG)(aM x7 x23:O)(h:U):ab:=
 UF C lf (aeY C lf n az) aM x7 x23 h
theorem awc{n:bG}{az:bG}:∀F h,au eP C lf [1,1,1,1,0,1,0,0,1,1,0,0] F h (bB n 6 7 23) a6 (bS 1 (bB az 6 7 23) (bS 0 gi ar))=bB (UG C lf n az) 6 7 23 F h:=bn (by kernel_rfl) awa awb
def UH(C:ad)(lf:Nat)(n:bG)(aM x7 x23:O)(h:U):ab:=
 UG C lf (tw C lf n) (tw C lf n) aM x7 x23 h
theorem awd{n:bG}:∀F h,au eP C lf [1,1,1,1,0,1,0,0,1,1] F h (bB n 6 7 23) a6 (bS 0 gi ar)=bB (UH C lf n) 6 7 23 F h:=bn (a:=b9 eP [1,1,1,1,0,1,0,0,1,1,0]) (by kernel_rfl) awB (fX (id:=1) (by kernel_rfl) awc)
noncomputable def J0(C:ad)(lf:Nat)(n:bG)(aB:aC)(aM x7 x23 Fx:O)(h:U):ab:=
 ob Fx λa=>fV a (n aM x7 x23 h) (aB x7 h)
theorem awe{n:bG}{aB:aC}:∀F h,au eP C lf [1,1,1,1,0,1,0,0,1,0] F h (bB n 6 7 23) a6 (bS 0 (aX aB 7) ar)=bm (J0 C lf n aB) 6 7 23 24 F h:=by
 intro F h;kernel_rfl
def J1(C:ad)(lf:Nat)(n:bG)(aB:aC)(aM x7 x23 Fx:O)(h:U):ab:=
 J0 C lf (UH C lf n) aB aM x7 x23 Fx h
theorem awf{n:bG}{aB:aC}:∀F h,au eP C lf [1,1,1,1,0,1,0,0,1] F h (bB n 6 7 23) a6 (bS 0 (aX aB 7) ar)=bm (J1 C lf n aB) 6 7 23 24 F h:=bn (by kernel_rfl) awd awe
def J2(C:ad)(lf:Nat)(n:br)(aM x7 x23:O)(h:U):ab:=
 cB .lss 3 x23 (I 278) λa=>n aM x7 x23 (some a) h
theorem awg{n:br}:∀F h,au eP C lf [1,1,1,1,0,1,0,0,0] F h (bm n 6 7 23 24) a6 (bS 0 gi ar)=bB (J2 C lf n) 6 7 23 F h:=by
 intro F h;kernel_rfl
def ES(C:ad)(lf:Nat)(n:bG)(aB:aC)(aM x7 x23:O)(h:U):ab:=
 J2 C lf (J1 C lf n aB) aM x7 x23 h
theorem awh{n:bG}{aB:aC}:∀F h,au eP C lf [1,1,1,1,0,1,0,0] F h (bB n 6 7 23) a6 (bS 0 (aX aB 7) ar)=bB (ES C lf n aB) 6 7 23 F h:=bn (by kernel_rfl) awf awg
def tk(C:ad)(lf:Nat)(aB:aC)(k:O×O×O->U->ab)(s:O×O×O)(h:U):ab:=
 ES C lf (λa b c=>k (a,b,c)) aB s.1 s.2.1 s.2.2 h
def aeZ(C:ad)(lf:Nat)(n:bG)(aM x7:O)(h:U):ab:=
 n aM x7 (bE 0) h
theorem awi{n:bG}:∀F h,au eP C lf [1,1,1,1,0,0] F h (bB n 6 7 23) a6 ar=bf (aeZ C lf n) 6 7 F h:=by
 intro F h;kernel_rfl
def ae0(C:ad)(lf:Nat)(n:aC)(aM x7:O)(h:U):ab:=
 aeZ C lf (λa b c=>bp (tk C lf n) lf (a,b,c)) aM x7 h
theorem awj{n:aC}:∀F h,au eP C lf [1,1,1,1,0] F h (aX n 7) a6 ar=bf (ae0 C lf n) 6 7 F h:=bn (b:=b9 eP [1,1,1,1,0,1]) (by kernel_rfl) (fX (id:=0) (a:=b9 eP [1,1,1,1,0,1,0]) (by kernel_rfl) (gX (g:=λF=>(F 6,F 7,F 23)) (body:=tk C lf n) (by kernel_rfl) (λk=>(awh (n:=λaM x7 x23 h=>k (aM,x7,x23) h))))) (awi (n:=λaM x7 x23 h=>bp (tk C lf n) lf (aM,x7,x23) h))
def ae1(C:ad)(lf:Nat)(r:a0)(aM x7:O)(h:U):ab:=
 ae0 C lf (ET C lf r) aM x7 h
theorem awk{r:a0}:∀F h,au eP C lf [1,1,1,1] F h bc (bf r 4 5) ar=bf (ae1 C lf r) 6 7 F h:=bn (by kernel_rfl) awu awj
noncomputable def ae2(C:ad)(lf:Nat)(n:a0)(aM:O)(h:U):ab:=
 n aM (some (.val (.slice none 0 0))) h
theorem awl{n:a0}:∀F h,au eP C lf [1,1,1,0] F h (bf n 6 7) a6 ar=aX (ae2 C lf n) 6 F h:=by
 intro F h;kernel_rfl
def UI(C:ad)(lf:Nat)(r:a0)(aM:O)(h:U):ab:=
 ae2 C lf (ae1 C lf r) aM h
theorem awm{r:a0}:∀F h,au eP C lf [1,1,1] F h bc (bf r 4 5) ar=aX (UI C lf r) 6 F h:=bn (by kernel_rfl) awk awl
def UJ(C:ad)(lf:Nat)(n:aC)(x0 x1:O)(h:U):ab:=
 dI 4 x0 h λa=>mh 308 a x1 λa=>n (some a) h
theorem awn{n:aC}:∀F h,au eP C lf [1,1,0] F h (aX n 6) a6 ar=bf (UJ C lf n) 0 1 F h:=by
 intro F h;kernel_rfl
def J3(C:ad)(lf:Nat)(r:a0)(x0 x1:O)(h:U):ab:=
 UJ C lf (UI C lf r) x0 x1 h
theorem awo{r:a0}:∀F h,au eP C lf [1,1] F h bc (bf r 4 5) ar=bf (J3 C lf r) 0 1 F h:=bn (by kernel_rfl) awm awn
def J4(C:ad)(lf:Nat)(n:a0)(r:a0)(x0 x1:O)(h:U):ab:=
 a3 C 104 x0 x1 h λa k=>gx a (r (some (.val (.slice none 0 0))) (bE 2) k) (n x0 x1 k)
theorem awp{n:a0}{r:a0}:∀F h,au eP C lf [1,0] F h (bf n 0 1) (bf r 4 5) ar=bf (J4 C lf n r) 0 1 F h:=by
 intro F h;kernel_rfl
def ae3(C:ad)(lf:Nat)(r:a0)(x0 x1:O)(h:U):ab:=
 J4 C lf (J3 C lf r) r x0 x1 h
theorem awq{r:a0}:∀F h,au eP C lf [1] F h bc (bf r 4 5) ar=bf (ae3 C lf r) 0 1 F h:=bn (by kernel_rfl) awo awp
noncomputable def ae4(C:ad)(lf:Nat)(n:a0)(x0 x1:O)(h:U):ab:=
 n x0 x1 h
theorem awr{n:a0}:∀F h,au eP C lf [0] F h (bf n 0 1) a6 ar=bf (ae4 C lf n) 0 1 F h:=by
 intro F h;kernel_rfl
def UK(C:ad)(lf:Nat)(r:a0)(x0 x1:O)(h:U):ab:=
 ae4 C lf (ae3 C lf r) x0 x1 h
theorem aws{r:a0}:∀F h,au eP C lf [] F h bc (bf r 4 5) ar=bf (UK C lf r) 0 1 F h:=bn (by kernel_rfl) awq awr
def CR(C:ad)(lf:Nat)(al an:J)(h:U):ab:=UK C lf Cy (some al) (some an) h
def aaU:cK ax:=hP eP CR (λC lf al an h=>c8 (K:=(bf Cy 4 5)) (by kernel_rfl) (Eq.trans (aws _ h) (by kernel_rfl))) (by kernel_rfl)
end
section
open Classical
theorem ayZ{C:ad}{lf:Nat}{fI:bG}{aM x7 aT x9 x23:O}{h:U}:UD C lf fI aM x7 aT x9 x23 h=bp (yy C lf (λaM x7 aT x9 aW x23 h=>J9 C lf fI aM x7 aT x9 aW x23 h)) lf (aM,x7,aT,x9,some (.bool true),some (I 6),x23) h:=rfl
theorem ay0{C:ad}{lf:Nat}{fI:bG}{aM x7 aT x9 aW x23:O}{h:U}:UM C lf fI aM x7 aT x9 aW x23 h=bp (yx C lf (λaM x7 aT x9 aW x23 h=>J6 C lf fI aM x7 aT x9 aW x23 h)) lf (aM,x7,aT,x9,aW,some (I 6),x23) h:=rfl
theorem ay1{C:ad}{lf:Nat}{r:a0}{aM:O}{h:U}:UI C lf r aM h=bp (tk C lf (λx7 h=>ET C lf r x7 h)) lf (aM,some (.val (.slice none 0 0)),some (I 0)) h:=rfl
theorem ay2{C:ad}{lf:Nat}{r:a0}{x0 x1:O}{h:U}:UK C lf r x0 x1 h=J4 C lf (λx0 x1 h=>J3 C lf r x0 x1 h) r x0 x1 h:=rfl
section
variable{lf:Nat}{h h0:U}{R:ez}{n N:Nat}{on:Nat->Bool}{q:Nat->Option Nat}{b:Nat->Nat}{now:Int}{us:Nat->Bool}{rd:Nat->Nat->J}{bl:Nat->Nat->Nat}{i p:Nat}{ino:Int}
theorem PZ{x:J}{l:List Nat}(cZ:fM h0 h x l)(F:aN h0 h (λ_=>False))(aJ:l.length<=10000)(j:Nat):∃bW h',iJ ax 33 1 [0] [I (j:Int)] h=some (.aY h.next 0 1 (some 1) 0,h.new (dR 3 [I (j:Int)]))/\
 gA ax .append #[33,33] [x,.aY h.next 0 1 (some 1) 0] (h.new (dR 3 [I (j:Int)]))=some (bW,h')/\fM h0 h' bW (l++[j])/\aN h0 h' (λ_=>False):=by
 obtain⟨bW,h',an,aD,a7,cw,dO,ek,hF,kv⟩:=xi (h:=h) (y:=I (j:Int)) vm rfl rfl rfl cZ.aY (by omega) (by omega);refine⟨bW,h',an,aD,⟨?_,λk ai=>?_⟩,⟨dO.trans F.aH,Nat.le_trans F.next cw,λk ai _=>(ek k (Nat.lt_of_lt_of_le ai F.next) (λaI=>absurd (cZ.new k aI) (by omega))).trans (F.same k ai (λe=>e)),λak=>kv (F.dx ak)⟩⟩
 ·have e:ints (l++[j])=ints l++[I (j:Int)]:=by simp[ints]
  rw[e,List.length_append];exact a7
 ·rcases hF k ai with aI|aI
  ·exact cZ.new k aI
  ·exact Nat.le_trans F.next aI
theorem QP(f:Nat->Nat)(W:Nat->Bool):(kl f W).length<=10000:=by
 unfold kl;rw[List.length_map]
 have:=List.length_filter_le W (List.range' 12 296)
 rw[List.length_range'] at this;omega
theorem afJ{C:ad}(mW:vb C)(A:bP h R n N on q b now us rd)(M:dc N rd bl)(hi:i<N)(aA:p<278){x7 x9 x23:O}(aw:dz):∀(d t:Nat) (v:Bool),p-t=d->6<=t->(t<=p\/t=6)->(v=true↔∀k,k<t->22<=k->bl i (a4 k)=0)->∀f,d<f->
 bp (yy C lf aw) f (some (.ptr R.bu ((i+1)*308)),x7,some (I (p:Int)),x9,some (.bool v),some (I (t:Int)),x23) h=
  aw (some (.ptr R.bu ((i+1)*308))) x7 (some (I (p:Int))) x9 (some (.bool (decide (∀k,k<p->22<=k->bl i (a4 k)=0)))) x23 h
 |0,t,v,aF,aK,PI,hv,f,ak=>by
  obtain⟨f,rfl⟩:=dE f (by omega);have a8:decide ((t:Int)<(p:Int))=false:=bq (by omega)
  have e:decide (∀k,k<p->22<=k->bl i (a4 k)=0)=v:=by
   rw[Bool.eq_iff_iff,decide_eq_true_eq,hv];exact⟨λh k k1 k2=>h k (by omega) k2,λh k k1 k2=>h k (by omega) k2⟩
  rw[dh,e];unfold yy ER;simp only[aE,a8]
 |d+1,t,v,aF,aK,PI,hv,f,ak=>by
  obtain⟨f,rfl⟩:=dE f (by omega);have a8:decide ((t:Int)<(p:Int))=true:=bw (by omega);have dy:IntKind.i64.wrap ((t:Int)+1)=((t+1:Nat):Int):=cH (by omega);have b3:=tx (R:=R) (i:=i) (k:=t) (m:=278) (o:=12) (by omega);have eI:=mP A M hi (c:=12+t) (by omega) (by omega);rw[qV (by omega)] at eI;have bd:=mW h t (by omega)
  have ba:=afJ (C:=C) (x7:=x7) (x9:=x9) (x23:=x23) mW A M hi aA aw d (t+1) (v&&(decide (t<22)||decide (bl i (a4 t)=0))) (by omega) (by omega) (.inl (by omega)) (by
   rw[Bool.and_eq_true,Bool.or_eq_true,decide_eq_true_eq,decide_eq_true_eq,hv];constructor
   ·rintro ⟨h1,h2⟩ k k1 k2
    by_cases e:k=t
    ·subst e;exact h2.resolve_left (by omega)
    ·exact h1 k (by omega) k2
   ·intro h1;refine⟨λk k1 k2=>h1 k (by omega) k2,?_⟩;by_cases e:t<22
    ·exact .inl e
    ·exact .inr (h1 t (by omega) (by omega))) f (by omega)
  rw[dh];show ER C lf (λaM x7 aT x9 aW x11 x23 h=>bp (yy C lf aw) f (aM,x7,aT,x9,aW,x11,x23) h) aw _ _ _ _ _ _ _ h=_;unfold ER;cases v with
  |false=>
   rw[Bool.false_and] at ba;simp only[aE,a8,dy,iw];exact ba
  |true=>
   rw[Bool.true_and] at ba;by_cases e:t<22
   ·have d1:decide (eg t<1)=true:=bw (by unfold eg;rw[if_neg (by omega)];omega);rw[bw e,Bool.true_or] at ba;simp only[aE,a8,dy,bd,d1,iw];exact ba
   ·have d1:decide (eg t<1)=false:=bq (by unfold eg;rw[if_neg (by omega)];omega)
    have d2:decide ((bl i (a4 t):Int)=0)=decide (bl i (a4 t)=0):=by
     rw[Bool.eq_iff_iff,decide_eq_true_eq,decide_eq_true_eq];omega
    rw[bq e,Bool.false_or] at ba;simp only[aE,a8,dy,bd,d1,b3,eI,d2];exact ba
theorem afK{C:ad}(mW:vb C)(A:bP h R n N on q b now us rd)(M:dc N rd bl)(hi:i<N)(aA:p<278){x7 x23:O}(aw:dz):∀(d t:Nat) (v:Bool),p-t=d->6<=t->(t<=p\/t=6)->(v=true↔(6<=p/\∀k,k<t->6<=k->(k-6)/16=(p-6)/16->bl i (a4 k)=0))->∀f,d<f->
 bp (yx C lf aw) f (some (.ptr R.bu ((i+1)*308)),x7,some (I (p:Int)),some (I (eg p)),some (.bool v),some (I (t:Int)),x23) h=
  aw (some (.ptr R.bu ((i+1)*308))) x7 (some (I (p:Int))) (some (I (eg p))) (some (.bool (decide (6<=p/\∀k,k<p->6<=k->(k-6)/16=(p-6)/16->bl i (a4 k)=0)))) x23 h
 |0,t,v,aF,aK,PI,hv,f,ak=>by
  obtain⟨f,rfl⟩:=dE f (by omega);have a8:decide ((t:Int)<(p:Int))=false:=bq (by omega)
  have e:decide (6<=p/\∀k,k<p->6<=k->(k-6)/16=(p-6)/16->bl i (a4 k)=0)=v:=by
   rw[Bool.eq_iff_iff,decide_eq_true_eq,hv];exact⟨λh=>⟨h.1,λk k1 k2=>h.2 k (by omega) k2⟩,λh=>⟨h.1,λk k1 k2=>h.2 k (by omega) k2⟩⟩
  rw[dh,e];unfold yx EU;simp only[aE,a8]
 |d+1,t,v,aF,aK,PI,hv,f,ak=>by
  obtain⟨f,rfl⟩:=dE f (by omega);have a8:decide ((t:Int)<(p:Int))=true:=bw (by omega);have dy:IntKind.i64.wrap ((t:Int)+1)=((t+1:Nat):Int):=cH (by omega);have b3:=tx (R:=R) (i:=i) (k:=t) (m:=278) (o:=12) (by omega);have eI:=mP A M hi (c:=12+t) (by omega) (by omega);rw[qV (by omega)] at eI;have bd:=mW h t (by omega)
  have ba:=afK (C:=C) (x7:=x7) (x23:=x23) mW A M hi aA aw d (t+1) (v&&(decide (eg t≠eg p)||decide (bl i (a4 t)=0))) (by omega) (by omega) (.inl (by omega)) (by
   have nH:eg t≠eg p↔(t-6)/16≠(p-6)/16:=by
    rw[xN (by omega),xN (by omega)];omega
   rw[Bool.and_eq_true,Bool.or_eq_true,decide_eq_true_eq,decide_eq_true_eq,hv,nH];constructor
   ·rintro ⟨⟨h0,h1⟩,h2⟩
    refine⟨h0,λk k1 k2 gN=>?_⟩;by_cases e:k=t
    ·subst e;exact h2.resolve_left (λx=>x gN)
    ·exact h1 k (by omega) k2 gN
   ·rintro ⟨h0,h1⟩
    refine⟨⟨h0,λk k1 k2 gN=>h1 k (by omega) k2 gN⟩,?_⟩;by_cases e:(t-6)/16=(p-6)/16
    ·exact .inr (h1 t (by omega) (by omega) e)
    ·exact .inl e) f (by omega)
  rw[dh];show EU C lf (λaM x7 aT x9 aW x12 x23 h=>bp (yx C lf aw) f (aM,x7,aT,x9,aW,x12,x23) h) aw _ _ _ _ _ _ _ h=_;unfold EU;cases v with
  |false=>
   rw[Bool.false_and] at ba;simp only[aE,a8,dy,iw];exact ba
  |true=>
   rw[Bool.true_and] at ba;by_cases e:eg t=eg p
   ·have d1:decide (eg t≠eg p)=false:=bq (λx=>x e)
    have d2:decide ((bl i (a4 t):Int)=0)=decide (bl i (a4 t)=0):=by
     rw[Bool.eq_iff_iff,decide_eq_true_eq,decide_eq_true_eq];omega
    rw[d1,Bool.false_or] at ba;simp only[aE,a8,dy,bd,d1,b3,eI,d2];exact ba
   ·have d1:decide (eg t≠eg p)=true:=bw e;rw[d1,Bool.true_or] at ba;simp only[aE,a8,dy,bd,d1,iw];exact ba
end
end
section
open Classical
section
variable{lf:Nat}{h h0:U}{R:ez}{n N:Nat}{on:Nat->Bool}{q:Nat->Option Nat}{b:Nat->Nat}{now:Int}{us:Nat->Bool}{rd:Nat->Nat->J}{bl:Nat->Nat->Nat}{i p:Nat}{ino:Int}
noncomputable def jD(f:Nat->Nat)(p c:Nat):Bool:=decide (WP f p c\/(22<=p/\c=35))
noncomputable def vh(f:Nat->Nat)(p c:Nat):Bool:=decide ((WP f p c\/(22<=p/\c=35))\/(6<=p/\c=dm ((p-6)/16)))
theorem ay3{C:ad}(A:bP h R n N on q b now us rd)(M:dc N rd bl)(K:hV n N on bl)(S:l3 bl i)(hi:i<N)(aA:p<278)(iA:0<bl i (a4 p)){x x23:_}(cZ:fM h0 h x (kl (bl i) (mu (bl i) p)))(F:aN h0 h (λ_=>False))(fI:dq):
 ∃bW h',J8 C lf fI (some (.ptr R.bu ((i+1)*308))) (some x) (some (I (p:Int))) (some (I (eg p))) (some (.bool (decide (∀k,k<p->22<=k->bl i (a4 k)=0)))) x23 h=
  fI (some (.ptr R.bu ((i+1)*308))) (some bW) (some (I (p:Int))) (some (I (eg p))) x23 h'/\fM h0 h' bW (kl (bl i) (jD (bl i) p))/\aN h0 h' (λ_=>False):=by
 have fv:n<=4096:=A.ref.v.choose_spec.choose_spec.2.2.cF;unfold J8;by_cases mC:22<=p
 ·have d1:decide ((0:Int)<eg p)=true:=bw (by rw[xN (by omega)];omega);by_cases aO:∀k,k<p->22<=k->bl i (a4 k)=0
  ·have hv:0<bl i 35:=(WP.all S (by omega) (by omega)).1 (.inr (.inr ⟨rfl,p,aA,mC,iA⟩));have qp:=mP A M hi (c:=307) (by omega) (by omega);rw[yS] at qp;have jZ:=Bv K fv hi (c:=35) (by omega) (by omega) hv;obtain⟨bW,h',an,aD,w3,F'⟩:=PZ cZ F (QP _ _) (bl i 35-1);refine⟨bW,h',?_,?_,F'⟩
   ·simp only[aE,d1,bw aO,qp,jZ,an,aD]
   ·rw[QO (f:=bl i) (W:=mu (bl i) p) (W':=jD (bl i) p) (a:=35) (by omega) (by omega) (λc ae=>WP.aBq aO (of_decide_eq_true ae)) (λc=>by
     unfold jD mu;rw[decide_eq_true_eq,decide_eq_true_eq]
     exact⟨λe=>e.elim .inl λe=> .inr e.2,λe=>e.elim .inl λe=> .inr ⟨mC,e⟩⟩)]
    exact w3
  ·refine⟨x,h,?_,?_,F⟩
   ·simp only[aE,d1,bq aO]
   ·rw[Ef (f:=bl i) (W:=mu (bl i) p) (W':=jD (bl i) p) λc _ _=>?_]
    ·exact cZ
    ·unfold jD mu;rw[decide_eq_true_eq,decide_eq_true_eq];refine⟨λe=>e.elim id λe=>?_,.inl⟩;obtain⟨k,ai⟩:=Classical.not_forall.1 aO;obtain⟨k1,ai⟩:=Classical.not_imp.1 ai;obtain⟨k2,ai⟩:=Classical.not_imp.1 ai;exact .inr (.inr ⟨e.2,k,k1,k2,by omega⟩)
 ·have d1:decide ((0:Int)<eg p)=false:=bq (by unfold eg;split<;>omega);refine⟨x,h,?_,?_,F⟩
  ·simp only[aE,d1,iw]
  ·rw[Ef (f:=bl i) (W:=mu (bl i) p) (W':=jD (bl i) p) λc _ _=>?_]
   ·exact cZ
   ·unfold jD mu;rw[decide_eq_true_eq,decide_eq_true_eq];exact⟨λe=>e.elim id λe=>absurd e.1 mC,.inl⟩
theorem ay4{C:ad}(A:bP h R n N on q b now us rd)(M:dc N rd bl)(K:hV n N on bl)(S:l3 bl i)(hi:i<N)(aA:p<278)(iA:0<bl i (a4 p)){x x23:_}(cZ:fM h0 h x (kl (bl i) (jD (bl i) p)))(F:aN h0 h (λ_=>False))(fI:br):
 ∃bW h',UL C lf fI (some (.ptr R.bu ((i+1)*308))) (some x) (some (I (p:Int))) (some (I (eg p))) (some (.bool (decide (6<=p/\∀k,k<p->6<=k->(k-6)/16=(p-6)/16->bl i (a4 k)=0)))) x23 h=
  fI (some (.ptr R.bu ((i+1)*308))) (some bW) (some (I (p:Int))) x23 h'/\fM h0 h' bW (kl (bl i) (vh (bl i) p))/\aN h0 h' (λ_=>False):=by
 have fv:n<=4096:=A.ref.v.choose_spec.choose_spec.2.2.cF;unfold UL;by_cases aO:6<=p/\∀k,k<p->6<=k->(k-6)/16=(p-6)/16->bl i (a4 k)=0
 ·obtain⟨bC,ur⟩:=aO;have bd:(p-6)/16<17:=by omega
  obtain⟨g1,g2⟩:=aa8 bd;have hv:0<bl i (dm ((p-6)/16)):=(WP.all S g1 (by omega)).1 (.inr (.inl ⟨p,aA,bC,rfl,iA⟩));have qp:=mP A M hi (c:=290+(p-6)/16) (by omega) (by omega);rw[ad5 bd] at qp;have b3:=tx (R:=R) (i:=i) (k:=(p-6)/16) (m:=17) (o:=290) bd;have jZ:=Bv K fv hi g1 (by omega) hv;obtain⟨bW,h',an,aD,w3,F'⟩:=PZ cZ F (QP _ _) (bl i (dm ((p-6)/16))-1);refine⟨bW,h',?_,?_,F'⟩
  ·simp only[aE,bw (show 6<=p/\∀k,k<p->6<=k->(k-6)/16=(p-6)/16->bl i (a4 k)=0 from⟨bC,ur⟩),xN bC,b3,qp,jZ,an,aD]
  ·rw[QO (f:=bl i) (W:=jD (bl i) p) (W':=vh (bl i) p) (a:=dm ((p-6)/16)) g1 (by omega) (λc ae=>WP.amb bC aA ur (of_decide_eq_true ae)) (λc=>by
    unfold jD vh;rw[decide_eq_true_eq,decide_eq_true_eq]
    exact⟨λe=>e.elim .inl λe=> .inr e.2,λe=>e.elim .inl λe=> .inr ⟨bC,e⟩⟩)]
   exact w3
 ·refine⟨x,h,?_,?_,F⟩
  ·simp only[aE,bq aO]
  ·rw[Ef (f:=bl i) (W:=jD (bl i) p) (W':=vh (bl i) p) λc _ _=>?_]
   ·exact cZ
   ·unfold jD vh;rw[decide_eq_true_eq,decide_eq_true_eq];refine⟨λe=>e.elim id λe=>?_,.inl⟩;obtain⟨k,ai⟩:=Classical.not_forall.1 λx=>aO ⟨e.1,x⟩
    obtain⟨k1,ai⟩:=Classical.not_imp.1 ai;obtain⟨k2,ai⟩:=Classical.not_imp.1 ai;obtain⟨gN,ai⟩:=Classical.not_imp.1 ai;exact .inl (.inr (.inl ⟨k,k1,k2,by rw[gN];exact e.2,by omega⟩))
theorem ay5{C:ad}(A:bP h R n N on q b now us rd)(M:dc N rd bl)(K:hV n N on bl)(hi:i<N)(aA:p<278)(iA:0<bl i (a4 p)){x x23:_}(cZ:fM h0 h x (kl (bl i) (vh (bl i) p)))(F:aN h0 h (λ_=>False))(fI:bG):
 ∃bW h',J5 C lf fI (some (.ptr R.bu ((i+1)*308))) (some x) (some (I (p:Int))) x23 h=
  fI (some (.ptr R.bu ((i+1)*308))) (some bW) x23 h'/\fM h0 h' bW (kl (bl i) (mu (bl i) (p+1)))/\aN h0 h' (λ_=>False):=by
 have fv:n<=4096:=A.ref.v.choose_spec.choose_spec.2.2.cF;have qp:=mP A M hi (c:=12+p) (by omega) (by omega);rw[qV aA] at qp;have b3:=tx (R:=R) (i:=i) (k:=p) (m:=278) (o:=12) aA;have jZ:=Bv K fv hi (c:=a4 p) qT (r6 aA) iA;obtain⟨bW,h',an,aD,w3,F'⟩:=PZ cZ F (QP _ _) (bl i (a4 p)-1);refine⟨bW,h',?_,?_,F'⟩
 ·unfold J5;simp only[aE,b3,qp,jZ,an,aD]
 ·rw[QO (f:=bl i) (W:=vh (bl i) p) (W':=mu (bl i) (p+1)) (a:=a4 p) qT (r6 aA) (λc ae=>?_) (λc=>by
   unfold vh mu;rw[decide_eq_true_eq,decide_eq_true_eq]
   exact WP.next iA)]
  ·exact w3
  ·rcases of_decide_eq_true ae with(e|⟨e,bh⟩)|⟨e,bh⟩
   ·exact WP.lt aA e
   ·rw[bh];exact Nat.lt_trans (Fm e).1 (Fm e).2
   ·rw[bh];exact OL e
theorem afL{C:ad}(gf:300<=lf)(mW:vb C)(A:bP h0 R n N on q b now us rd)(M:dc N rd bl)(K:hV n N on bl)(S:l3 bl i)(hi:i<N)(aB:aC):∀(d p:Nat),p+d=278->∀f,d<f->∀h x,fM h0 h x (kl (bl i) (mu (bl i) p))->aN h0 h (λ_=>False)->
 ∃bW h',bp (tk C lf aB) f (some (.ptr R.bu ((i+1)*308)),some x,some (I (p:Int))) h=aB (some bW) h'/\fM h0 h' bW (jJ bl i)/\aN h0 h' (λ_=>False)
 |0,p,aA,f,ak,h,x,cZ,F=>by
  obtain⟨f,rfl⟩:=dE f (by omega);have GZ:p=278:=by omega
  subst GZ;refine⟨x,h,?_,?_,F⟩
  ·rw[dh];unfold tk ES J2;have a8:decide (((278:Nat):Int)<278)=false:=bq (by omega);simp only[cg,cf,ru,a8];unfold J1 J0;simp only[cg,cf,o4]
  ·rw[adU,Ef (W:=mu (bl i) 278) λc h1 h2=>by
    unfold mu
    rw[decide_eq_true_eq,decide_eq_true_eq,WP.all S h1 h2]]
   exact cZ
 |d+1,p,aA,f,ak,h,x,cZ,F=>by
  obtain⟨f,rfl⟩:=dE f (by omega);have a8:decide ((p:Int)<278)=true:=bw (by omega);have dy:IntKind.i64.wrap ((p:Int)+1)=((p+1:Nat):Int):=cH (by omega);have lu:=A.iP F λ_ _ e=>e
  have b3:=tx (R:=R) (i:=i) (k:=p) (m:=278) (o:=12) (by omega);have eI:=mP lu M hi (c:=12+p) (by omega) (by omega);rw[qV (by omega)] at eI;have bd:=mW h p (by omega);generalize ai:(λaM x7 x23 h=>bp (tk C lf aB) f (aM,x7,x23) h:bG)=kk;have qt:∀aM x7 x23 h,kk aM x7 x23 h=bp (tk C lf aB) f (aM,x7,x23) h:=λ_ _ _ _=>by rw[<- ai]
  have pre:bp (tk C lf aB) (f+1) (some (.ptr R.bu ((i+1)*308)),some x,some (I (p:Int))) h=
   JZ C lf (λaM x7 aT x23 h=>JY C lf (λaM x7 x23 h=>tw C lf kk aM x7 x23 h) aM x7 aT x23 h) (λaM x7 x23 h=>tw C lf kk aM x7 x23 h) (some (.ptr R.bu ((i+1)*308))) (some x) (some (I (p:Int))) (some (I (p:Int))) h:=by
   rw[dh];show ES C lf (λaM x7 x23 h=>bp (tk C lf aB) f (aM,x7,x23) h) aB _ _ _ h=_;rw[ai];unfold ES J2;simp only[cg,cf,ru,a8];unfold J1 J0;simp only[cg,cf,q6];unfold UH UG UF;simp only[cg,cf];rfl
  have last:∀bW h',fM h0 h' bW (kl (bl i) (mu (bl i) (p+1)))->aN h0 h' (λ_=>False)->∃ag9 fh,tw C lf kk (some (.ptr R.bu ((i+1)*308))) (some bW) (some (I (p:Int))) h'=aB (some ag9) fh/\fM h0 fh ag9 (jJ bl i)/\aN h0 fh (λ_=>False):=λbW h' w3 F'=>by
   obtain⟨x2,h2,s2,w4,bF⟩:=afL gf mW A M K S hi aB d (p+1) (by omega) f (by omega) h' bW w3 F';refine⟨x2,h2,?_,w4,bF⟩;unfold tw;simp only[cg,cf,sD,dy,qt];exact s2
  rw[pre];unfold JZ;by_cases iA:bl i (a4 p)=0
  ·have d1:decide ((bl i (a4 p):Int)=0)=true:=bw (by omega);simp only[aE,b3,eI,d1];refine last x h ?_ F
   rw[Ef (W:=mu (bl i) p) λc _ _=>by
    unfold mu
    rw[decide_eq_true_eq,decide_eq_true_eq,WP.skip iA]]
   exact cZ
  ·have d1:decide ((bl i (a4 p):Int)=0)=false:=bq (by omega);simp only[aE,b3,eI,d1];unfold JY UE;simp only[aE,bd];have f1:=λ(aw:dz) (x7 x9 x23:O)=>afJ (C:=C) (lf:=lf) (x7:=x7) (x9:=x9) (x23:=x23) mW lu M hi (p:=p) (by omega) aw (p-6) 6 true rfl (Nat.le_refl _) (.inr rfl) ⟨λ_ k k1 k2=>(by omega),λ_=>rfl⟩ lf (by omega)
   simp only[show((6:Nat):Int)=6 from rfl] at f1;rw[ayZ,f1];obtain⟨x1,h1,s1,p4,aL⟩:=ay3 (C:=C) (lf:=lf) (x23:=some (I (p:Int))) lu M K S hi (by omega) (by omega) cZ F (λaM x7 aT x9 x23 h=>J7 C lf (λaM x7 x23 h=>tw C lf kk aM x7 x23 h) aM x7 aT x9 x23 h);unfold J9;rw[s1];unfold J7 UN;have WC:=A.iP aL λ_ _ e=>e
   have d2:decide ((0:Int)<=eg p)=decide (6<=p):=by
    rw[Bool.eq_iff_iff,decide_eq_true_eq,decide_eq_true_eq];unfold eg;split<;>omega
   simp only[cg,cf,XN,d2]
   have f2:=λ(aw:dz) (x7 x23:O)=>afK (C:=C) (lf:=lf) (x7:=x7) (x23:=x23) mW WC M hi (p:=p) (by omega) aw (p-6) 6 (decide (6<=p)) rfl (Nat.le_refl _) (.inr rfl) (by
    rw[decide_eq_true_eq]
    exact⟨λe=>⟨e,λk k1 k2=>(by omega)⟩,λe=>e.1⟩) lf (by omega)
   simp only[show((6:Nat):Int)=6 from rfl] at f2;rw[ay0,f2];obtain⟨x2,h2,s2,w4,bF⟩:=ay4 (C:=C) (lf:=lf) (x23:=some (I (p:Int))) WC M K S hi (by omega) (by omega) p4 aL (λaM x7 aT x23 h=>J5 C lf (λaM x7 x23 h=>tw C lf kk aM x7 x23 h) aM x7 aT x23 h);unfold J6;rw[s2];have ahw:=A.iP bF λ_ _ e=>e
   obtain⟨x3,h3,eZ,BW,dp⟩:=ay5 (C:=C) (lf:=lf) (x23:=some (I (p:Int))) ahw M K hi (by omega) (by omega) w4 bF (λaM x7 x23 h=>tw C lf kk aM x7 x23 h);rw[eZ];exact last x3 h3 BW dp
def F6(C:ad):Prop:=∀h R n N on q b now us rd bl (ino:Int),bP h R n N on q b now us rd->dc N rd bl->hV n N on bl->
 (db N us ino=false->C (.fn 87) [.ptr R.rt 0,I ino] h=some (.ret (.bo [.val (.slice none 0 0),I 2]),h))/\
 (∀i,jg N us ino i->l3 bl i->∃x h',C (.fn 87) [.ptr R.rt 0,I ino] h=some (.ret (.bo [x,I 0]),h')/\fM h h' x (jJ bl i)/\aN h h' (λ_=>False))
theorem ay6{C:ad}(gf:300<=lf)(lz:p7 C)(mW:vb C)(A:bP h R n N on q b now us rd)(M:dc N rd bl)(K:hV n N on bl):
 (db N us ino=false->CR C lf (.ptr R.rt 0) (I ino) h=some (.ret (.bo [.val (.slice none 0 0),I 2]),h))/\
 (∀i,jg N us ino i->l3 bl i->∃x h',CR C lf (.ptr R.rt 0) (I ino) h=some (.ret (.bo [x,I 0]),h')/\fM h h' x (jJ bl i)/\aN h h' (λ_=>False)):=by
 have dS:=lz h R n N on q b now us rd ino A;obtain⟨cap,lo,ct⟩:=A.ct;unfold CR;rw[ay2];unfold J4;refine⟨λag=>?_,λi b6 S=>?_⟩
 ·rw[ag] at dS;unfold Cy;simp only[aE,dS,Bool.not_false]
 ·rw[b6.yes] at dS;obtain⟨hi,hu,rfl⟩:=b6;have ao:=mj (R:=R) (N:=N) (i:=i+1) (cap:=cap) (lo:=lo) (by omega)
  have aB:kl (bl i) (mu (bl i) 0)=[]:=by
   unfold kl;rw[List.filter_eq_nil_iff.2 λc _ e=>?_]
   ·rfl
   ·rcases of_decide_eq_true e with⟨k,k1,_⟩|⟨k,k1,_⟩|⟨_,k,k1,_⟩<;>omega
  obtain⟨bW,h',s1,p4,aL⟩:=afL (C:=C) (lf:=lf) gf mW A M K S hi (λx7 h=>ET C lf Cy x7 h) 278 0 rfl lf (by omega) h (.val (.slice none 0 0)) ⟨by rw[aB];exact hX.nil _ _ _,λj aa=>(by cases aa)⟩ (aN.refl _ _);refine⟨bW,h',?_,p4,aL⟩;simp only[aE,dS,Bool.not_true];unfold J3 UJ;simp only[aE,ct,ao];rw[ay1];refine Eq.trans s1 ?_;unfold ET Cy;simp only[cg,cf]
end
end
section
variable{lf:Nat}{h:U}{R:ez}{n N:Nat}{on:Nat->Bool}{q:Nat->Option Nat}{b:Nat->Nat}{now:Int}{us:Nat->Bool}{rd:Nat->Nat->J}{bl:Nat->Nat->Nat}{i:Nat}{ino:Int}
end
section
open Classical
structure ri (N:Nat) (us:Nat->Bool) (s:dF):Prop where
 S:∀i,i<N->l3 s.bl i
 Z:∀i,i<N->us i=false->∀c,12<=c->c<308->s.bl i c=0
 O:zB N s
section
variable{n N i:Nat}{s e7:dF}{us:Nat->Bool}
theorem l3.On{bl:Nat->Nat->Nat}{i:Nat}(S:l3 bl i):rf bl i:=λu hu e=>(S.xF u hu).1 e
theorem agx{bl:Nat->Nat->Nat}{i:Nat}(h:∀c,12<=c->c<308->bl i c=0):l3 bl i:=
 ⟨⟨λ_=>oI.2 λj aa=>h _ (by omega) (by omega),λ_=>h _ (by omega) (by omega)⟩,λq aZ=>⟨λ_=>oI.2 λj aa=>h _ (by omega) (by omega),λ_=>h _ (by omega) (by omega)⟩,
   ⟨λ_ q aZ=>h _ (by omega) (by omega),λ_=>h _ (by omega) (by omega)⟩⟩
theorem V2{bl bl':Nat->Nat->Nat}{i:Nat}(S:l3 bl i)(h:∀c,12<=c->c<308->bl' i c=bl i c):l3 bl' i:=by
 have cj:∀c,12<=c->c+17<=308->hole bl' i c=hole bl i c:=λc h1 h2=>uu λt aK=>h _ (by omega) (by omega)
 refine⟨?_,λq aZ=>?_,?_⟩
 ·rw[h _ (by omega) (by omega),cj _ (by omega) (by omega)];exact S.one
 ·rw[h _ (by omega) (by omega),cj _ (by omega) (by omega)];exact S.xF q aZ
 ·rw[h _ (by omega) (by omega)];exact S.two.trans ⟨λe q aZ=>by rw[h _ (by omega) (by omega)];exact e q aZ,λe q aZ=>by rw[<- h _ (by omega) (by omega)];exact e q aZ⟩
theorem Oh:∀(cs:List Nat) (s:dF) (bk:List Nat) (i' c:Nat),(i'≠i\/c ∉ cs)->(df n i cs s bk).1.bl i' c=s.bl i' c
 | [],_,_,_,_,_=>rfl
 |a::cs,s,bk,i',c,h=>by
  have h':i'≠i\/c ∉ cs:=h.imp id λx y=>x (List.mem_cons_of_mem _ y)
  unfold df;by_cases h1:0<s.bl i a
  ·rw[if_pos h1];exact Oh cs s bk i' c h'
  ·rw[if_neg h1];cases aJ:low n s.wd with
   |none=>rfl
   |some j=>
    show(df n i cs (s.take i a j) (bk++[a])).1.bl i' c=_;rw[Oh cs _ _ i' c h'];refine nn _ _ ?_;rcases h with h|h
    ·exact .inl h
    ·exact .inr λe=>h (by rw[e];exact List.mem_cons_self ..)
theorem aAb{bl bl':Nat->Nat->Nat}{k:Nat}(ai:k<278)(S:l3 bl i)(aA:∀c,c∈dr k->0<bl' i c)(aq:∀c,c ∉ dr k->bl' i c=bl i c):l3 bl' i:=by
 have bY:=tu ai
 have fS:∀c,c≠a4 k->(22<=k->c≠35/\c≠36+17*((k-22)/16))->(6<=k->k<22->c≠18)->bl' i c=bl i c:=λc h1 h2 h3=>aq c λhm=>by
  unfold dr at hm;by_cases az:k<6
  ·rw[if_pos az] at hm;exact h1 (List.mem_singleton.1 hm)
  ·rw[if_neg az] at hm;by_cases aw:k<22
   ·rw[if_pos aw] at hm;simp only[List.mem_cons,List.not_mem_nil,or_false] at hm;exact hm.elim (h3 (by omega) aw) h1
   ·rw[if_neg aw] at hm;simp only[List.mem_cons,List.not_mem_nil,or_false] at hm;exact hm.elim (h2 (by omega)).1 λhm=>hm.elim (h2 (by omega)).2 h1
 have iA:0<bl' i (a4 k):=aA _ (by unfold dr;split<;>(try split)<;>simp);have aDE:∀c,c<36+17*16->a4 k=c->c=a4 k:=λc _ e=>e.symm
 by_cases az:k<6
 ·have GZ:a4 k=12+k:=by unfold a4;rw[if_pos az]
  have ag:∀c,18<=c->bl' i c=bl i c:=λc ae=>fS c (by omega) (λh=>by omega) (λh=>by omega)
  refine⟨?_,λq aZ=>?_,?_⟩
  ·rw[ag 18 (by omega),uu (bl':=bl') (bl:=bl) λt aK=>ag _ (by omega)];exact S.one
  ·rw[ag _ (by omega),uu (bl':=bl') (bl:=bl) λt aK=>ag _ (by omega)];exact S.xF q aZ
  ·rw[ag 35 (by omega)];exact S.two.trans ⟨λe q aZ=>by rw[ag _ (by omega)];exact e q aZ,λe q aZ=>by rw[<- ag _ (by omega)];exact e q aZ⟩
 ·by_cases aw:k<22
  ·have GZ:a4 k=19+(k-6):=by unfold a4;rw[if_neg az,if_pos aw]
   have abj:0<bl' i 18:=aA _ (by unfold dr;rw[if_neg az,if_pos aw];simp);have ag:∀c,35<=c->bl' i c=bl i c:=λc ae=>fS c (by omega) (λh=>by omega) (λ_ _=>by omega)
   refine⟨⟨λe=>by omega,λe=>?_⟩,λq aZ=>?_,?_⟩
   ·have:=oI.1 e (k-6) (by omega)
    rw[show 18+(1+(k-6))=a4 k by omega] at this;omega
   ·rw[ag _ (by omega),uu (bl':=bl') (bl:=bl) λt aK=>ag _ (by omega)];exact S.xF q aZ
   ·rw[ag 35 (by omega)];exact S.two.trans ⟨λe q aZ=>by rw[ag _ (by omega)];exact e q aZ,λe q aZ=>by rw[<- ag _ (by omega)];exact e q aZ⟩
  ·have GZ:a4 k=37+17*((k-22)/16)+(k-22)%16:=by unfold a4;rw[if_neg az,if_neg aw]
   have vG:0<bl' i 35:=aA _ (by unfold dr;rw[if_neg az,if_neg aw];simp);have OT:0<bl' i (36+17*((k-22)/16)):=aA _ (by unfold dr;rw[if_neg az,if_neg aw];simp);have ag:∀c,c≠a4 k->c≠35->c≠36+17*((k-22)/16)->bl' i c=bl i c:=λc an aD a7=>fS c an (λ_=>⟨aD,a7⟩) (λh h'=>by omega)
   refine⟨?_,λq aZ=>?_,⟨λe=>by omega,λe=>?_⟩⟩
   ·rw[ag 18 (by omega) (by omega) (by omega),uu (bl':=bl') (bl:=bl) λt aK=>ag _ (by omega) (by omega) (by omega)];exact S.one
   ·by_cases eq:q=(k-22)/16
    ·subst eq;refine⟨λe=>by omega,λe=>?_⟩
     have:=oI.1 e ((k-22)%16) (by omega)
     rw[show 36+17*((k-22)/16)+(1+(k-22)%16)=a4 k by omega] at this;omega
    ·rw[ag _ (by omega) (by omega) (by omega),uu (bl':=bl') (bl:=bl) λt aK=>ag _ (by omega) (by omega) (by omega)];exact S.xF q aZ
   ·have:=e ((k-22)/16) (by omega);omega
theorem alv{k:Nat}(hi:i<N)(hu:us i=true)(W:pg n N s)(ai:k<278)(T:ri N us s):ri N us (bI n i k s).1:=by
 by_cases h1:0<s.bl i (a4 k)
 ·have e:bI n i k s=(s,true):=by unfold bI;rw[if_pos h1]
  rw[e];exact T
 ·by_cases h2:(df n i (dr k) s []).2.2=true
  ·have e:bI n i k s=((df n i (dr k) s []).1,true):=by unfold bI;rw[if_neg h1,if_pos h2]
   have H2:=(alw hi W ai (by rw[e])).2 T.O;rw[e] at H2⊢;have aA:=(Ha (dr k) s [] h2).2;have rN:∀i' c,i'≠i\/c ∉ dr k->(df n i (dr k) s []).1.bl i' c=s.bl i' c:=Oh (dr k) s [];refine⟨λi' cA=>?_,λi' cA gK c aQ a3=>?_,H2⟩
   ·by_cases YM:i'=i
    ·subst YM;exact aAb ai (T.S i' cA) aA (λc ae=>rN _ c (.inr ae))
    ·exact V2 (T.S i' cA) λc _ _=>rN i' c (.inl YM)
   ·rw[rN i' c (.inl λe=>by subst e;rw[hu] at gK;cases gK)];exact T.Z i' cA gK c aQ a3
  ·have e:bI n i k s=(⟨s.wd,(df n i (dr k) s []).1.b,s.nd,s.bl⟩,false):=by unfold bI;rw[if_neg h1,if_neg h2]
   rw[e];exact⟨T.S,T.Z,T.O⟩
theorem ag8{off:Nat}{l:List Nat}(jH:off+l.length<=17792)(hi:i<N)(hu:us i=true):∀(g done:Nat) (s:dF),done<=l.length->pg n N s->ri N us s->ri N us (jw n i off l g done s).1
 |0,done,s,aF,W,T=>T
 |g+1,done,s,aF,W,T=>by
  unfold jw;by_cases h1:done<l.length
  ·rw[if_pos h1];have Gm:=alv (k:=(off+done)/64) hi hu W (by omega) T;have jD:=Oj (k:=(off+done)/64) W hi (by omega);by_cases h2:(bI n i ((off+done)/64) s).2=true
   ·rw[if_pos h2];exact ag8 jH hi hu g _ _ (by omega) ⟨jD.M,jD.w⟩ ⟨Gm.S,Gm.Z,Gm.O⟩
   ·rw[if_neg h2];exact Gm
  ·rw[if_neg h1];exact T
theorem aAa{bl:Nat->Nat->Nat}{k:Nat}(S:l3 bl i):l3 (dA bl i (gn bl i k)) i:=by
 have aA:∀c,(∃m,m<278/\c=a4 m)->(gn bl i k c↔gP k 278 c):=λc ⟨m,hm,e⟩=>by
  rw[e,l3.akz hm];exact⟨λh=>⟨m,h,hm,rfl⟩,λ⟨j,a,aD,a7⟩=>by rw[QV a7 hm aD];exact a⟩
 have ae:∀g,g<17->hole (dA bl i (gn bl i k)) i (dm g)=gI bl i k (dm g):=λg bd=>by
  unfold gI;refine uu λt aK=>?_
  have:=aA (dm g+(1+t)) ⟨6+g*16+t,by omega,(HR aK).symm⟩
  unfold dA;by_cases e:gP k 278 (dm g+(1+t))
  ·rw[if_pos ⟨rfl,this.2 e⟩,if_pos ⟨rfl,e⟩]
  ·rw[if_neg λx=>e (this.1 x.2),if_neg λx=>e x.2]
 have hm:∀c,hole bl i c=true->gI bl i k c=true:=λc h=>by
  unfold gI;rw[oI] at h⊢;intro j aa;unfold dA;split
  ·rfl
  ·exact h j aa
 have apm:¬gP k 278 18:=λ⟨j,_,aD,e⟩=>(tu aD).1 e.symm
 have apn:¬gP k 278 35:=λ⟨j,_,aD,e⟩=>(tu aD).2.1 e.symm
 have apo:∀q,q<16->¬gP k 278 (36+17*q):=λq aZ ⟨j,_,aD,e⟩=>(tu aD).2.2 q aZ e.symm
 have XY:gn bl i k 18↔gI bl i k 18=true:=by
  unfold gn;exact⟨λx=>by rcases x with e|⟨_,e⟩|⟨j,_,e,_⟩|⟨e,_⟩<;>first|exact e|exact absurd e apm|omega,λe=> .inr (.inl ⟨rfl,e⟩)⟩
 have GF:∀q,q<16->(gn bl i k (36+17*q)↔gI bl i k (36+17*q)=true):=λq aZ=>by
  unfold gn;refine⟨λx=>?_,λe=> .inr (.inr (.inl ⟨q,aZ,rfl,e⟩))⟩;rcases x with e|⟨e,_⟩|⟨j,_,e,bh⟩|⟨e,_⟩
  ·exact absurd e (apo q aZ)
  ·omega
  ·rw[e];exact bh
  ·omega
 have MI:gn bl i k 35↔∀j,j<16->bl i (36+17*j)=0\/gI bl i k (36+17*j)=true:=by
  unfold gn;refine⟨λx=>?_,λe=> .inr (.inr (.inr ⟨rfl,e⟩))⟩;rcases x with e|⟨e,_⟩|⟨j,_,e,bh⟩|⟨_,e⟩
  ·exact absurd e apn
  ·omega
  ·omega
  ·exact e
 have g0:dm 0=18:=rfl;have uh:∀q,dm (q+1)=36+17*q:=λq=>by unfold dm;rw[if_neg (by omega),Nat.add_sub_cancel]
 refine⟨?_,λq aZ=>?_,?_⟩
 ·have h0:=ae 0 (by omega);rw[g0] at h0;rw[h0];by_cases e:gI bl i k 18=true
  ·exact⟨λ_=>e,λ_=>om (XY.2 e)⟩
  ·rw[iM λx=>e (XY.1 x.2)];exact⟨λx=>absurd (hm _ (S.one.1 x)) e,λx=>absurd x e⟩
 ·have h0:=ae (q+1) (by omega);rw[uh] at h0;rw[h0];by_cases e:gI bl i k (36+17*q)=true
  ·exact⟨λ_=>e,λ_=>om ((GF q aZ).2 e)⟩
  ·rw[iM λx=>e ((GF q aZ).1 x.2)];exact⟨λx=>absurd (hm _ ((S.xF q aZ).1 x)) e,λx=>absurd x e⟩
 ·by_cases e:gn bl i k 35
  ·refine⟨λ_ q aZ=>?_,λ_=>om e⟩;rcases MI.1 e q aZ with h|h
   ·unfold dA;split
    ·rfl
    ·exact h
   ·exact om ((GF q aZ).2 h)
  ·rw[iM λx=>e x.2];refine⟨λx=>absurd (MI.2 λj aa=> .inl (S.two.1 x j aa)) e,λx=>?_⟩;refine absurd (MI.2 λj aa=>?_) e
   have:=x j aa
   by_cases h:gI bl i k (36+17*j)=true
   ·exact .inr h
   ·rw[iM λx=>h ((GF j aa).1 x.2)] at this;exact .inl this
theorem akw{sz:Nat}(C:FH i sz s e7)(hu:us i=true)(T:ri N us s):ri N us e7:=by
 refine⟨λi' cA=>?_,λi' cA gK c aQ a3=>?_,akv C T.O⟩
 ·rw[C.bl];by_cases e:i'=i
  ·subst e;exact aAa (T.S i' cA)
  ·exact V2 (T.S i' cA) λc _ _=>iM λx=>e x.1
 ·rw[C.bl,iM λx=>by have:=x.1;subst this;rw[hu] at gK;cases gK];exact T.Z i' cA gK c aQ a3
theorem al8{c6:Nat->Nat}{b':Nat->Nat}{eQ:Nat->Nat->J}(H2:∀j,bU c6 j=true↔(bU s.wd j=true/\∀c,12<=c->c<308->s.bl i c≠j+1))(T:ri N us s):ri N (c3 us i false) ⟨c6,b',eQ,m1 s.bl i⟩:=by
 refine⟨λi' cA=>?_,λi' cA gK c aQ a3=>?_,λj aa=>?_⟩
 ·by_cases e:i'=i
  ·exact agx λc _ _=>if_pos e
  ·exact V2 (T.S i' cA) λc _ _=>if_neg e
 ·by_cases e:i'=i
  ·exact if_pos e
  ·rw[ig _ _ e] at gK;show m1 s.bl i i' c=0;unfold m1;rw[if_neg e];exact T.Z i' cA gK c aQ a3
 ·obtain⟨h1,h2⟩:=(H2 j).1 aa;obtain⟨i',c,an,aD,a7,cw⟩:=T.O j h1;refine⟨i',c,an,aD,a7,?_⟩;have e:i'≠i:=λe=>h2 c aD a7 (by rw[<- e];exact cw)
  show m1 s.bl i i' c=j+1;unfold m1;rw[if_neg e];exact cw
end
end
structure lr where
 s:dF
 now:Int
 us:Nat->Bool
 q:Nat->Option Nat
 b2:Nat->Nat
 rd:Nat->Nat->J
structure lC (g:Nat->J):Prop where
 l:∃L:Int,g 2=I L/\0<=L/\L<=16
 z:∃sz:Nat,g 5=I (sz:Int)/\sz<=17792
 i:∀c,1<=c->c<12->∃v:Int,g c=I v
def gw(T:dU)(j:Nat):Prop:=j=T.a9\/j=T.bJ\/j=T.kd\/j=T.aG
def jq(R:ez)(q:Nat->Option Nat)(j:Nat):Prop:=j=R.rt\/j=R.ro\/j=R.rb\/j=R.bu\/∃u,q u=some j
def mX(N:Nat)(nd rd:Nat->Nat->J):Prop:=∀i c,i<N->c<12->rd (i+1) c=nd i c
structure Rel (h:U) (T:dU) (R:ez) (n N:Nat) (a:lr):Prop where
 A:bx h T n N a.s.wd a.s.b a.now a.us a.s.nd
 M:cR n N a.s.wd a.s.nd a.s.bl
 B:bP h R n N (bU a.s.wd) a.q a.b2 a.now a.us a.rd
 gU:dc N a.rd a.s.bl
 jy:iK (bU a.s.wd) a.s.b a.b2
 lo:mX N a.s.nd a.rd
 hM:∀i,i<N->lC (a.s.nd i)
 jB:ri N a.us a.s
 jC:hg h
 O:nv h T
 sep:∀j,gw T j->¬jq R a.q j
 OS:¬gw T mB
 uh:¬jq R a.q mB
 r7:∀u k,a.q u=some k->u<n
structure l2 (h h1 h2:U) (T:dU) (R:ez) (n N:Nat) (a a':lr):Prop where
 r:Rel h2 T R n N a'
 f1:aN h h1 (gw T)
 f2:aN h1 h2 (jq R a.q)
 aZ:∀u k,a'.q u=some k->a.q u=some k\/h.next<=k
section
variable{h h1 h2:U}{T:dU}{R:ez}{n N:Nat}{a a':lr}{i:Nat}{ino:Int}
theorem Rel.zf(r:Rel h T R n N a):pg n N a.s:=⟨r.M,r.A.st.iI⟩
theorem Rel.A7(r:Rel h T R n N a){j:Nat}(aa:gw T j):j<h.next:=by
 rcases aa with rfl|rfl|rfl|rfl
 ·exact r.O.t
 ·exact r.O.s
 ·exact r.O.d
 ·exact r.O.n
theorem VC{q:Nat->Option Nat}{j:Nat}(aa:sa R n q j):jq R q j:=by
 rcases aa with rfl|rfl|rfl|rfl|⟨u,_,e⟩
 ·exact .inr (.inr (.inr (.inl rfl)))
 ·exact .inl rfl
 ·exact .inr (.inl rfl)
 ·exact .inr (.inr (.inl rfl))
 ·exact .inr (.inr (.inr (.inr ⟨u,e⟩)))
theorem Rel.bR(r:Rel h T R n N a)(aL:aN h h1 (gw T)):bP h1 R n N (bU a.s.wd) a.q a.b2 a.now a.us a.rd:=
 r.B.iP aL λj aa e=>r.sep j e (VC aa)
theorem Rel.next(r:Rel h T R n N a)(aL:aN h h1 (gw T))(bF:aN h1 h2 (jq R a.q))(b7:bx h1 T n N a'.s.wd a'.s.b a'.now a'.us a'.s.nd)(M:cR n N a'.s.wd a'.s.nd a'.s.bl)
 (fa:bP h2 R n N (bU a'.s.wd) a'.q a'.b2 a'.now a'.us a'.rd)(gU:dc N a'.rd a'.s.bl)(jy:iK (bU a'.s.wd) a'.s.b a'.b2)(lo:mX N a'.s.nd a'.rd)(hM:∀i,i<N->lC (a'.s.nd i))(jB:ri N a'.us a'.s)
 (r7:∀u k,a'.q u=some k->u<n)(aZ:∀u k,a'.q u=some k->a.q u=some k\/h.next<=k):l2 h h1 h2 T R n N a a':=by
 have bd:mB<h.next:=r.O.g
 refine⟨⟨b7.frame bF.next λj aa=>bF.same j ?_ (r.sep j aa),M,fa,gU,jy,lo,hM,jB,(r.jC.dx aL bd r.OS).dx bF (Nat.lt_of_lt_of_le bd aL.next) r.uh,(r.O.mono aL.next).mono bF.next,λj aa e=>?_,r.OS,λe=>?_,r7⟩,aL,bF,aZ⟩
 ·exact Nat.lt_of_lt_of_le (r.A7 aa) aL.next
 ·rcases e with e|e|e|e|⟨u,e⟩
  ·exact r.sep j aa (.inl e)
  ·exact r.sep j aa (.inr (.inl e))
  ·exact r.sep j aa (.inr (.inr (.inl e)))
  ·exact r.sep j aa (.inr (.inr (.inr (.inl e))))
  ·rcases aZ u j e with e|e
   ·exact r.sep j aa (.inr (.inr (.inr (.inr ⟨u,e⟩))))
   ·have:=r.A7 aa;omega
 ·rcases e with e|e|e|e|⟨u,e⟩
  ·exact r.uh (.inl e)
  ·exact r.uh (.inr (.inl e))
  ·exact r.uh (.inr (.inr (.inl e)))
  ·exact r.uh (.inr (.inr (.inr (.inl e))))
  ·rcases aZ u _ e with e|e
   ·exact r.uh (.inr (.inr (.inr (.inr ⟨u,e⟩))))
   ·omega
theorem Rel.same(r:Rel h T R n N a)(aL:aN h h1 (λ_=>False))(bF:aN h1 h2 (λ_=>False)):l2 h h1 h2 T R n N a a:=by
 have fQ:aN h h1 (gw T):=aL.eb λ_ e=>e.elim
 have u9:aN h1 h2 (jq R a.q):=bF.eb λ_ e=>e.elim
 exact r.next fQ u9 (r.A.jI aL) r.M ((r.B.iP aL λ_ _ e=>e).iP bF λ_ _ e=>e) r.gU r.jy r.lo r.hM r.jB r.r7 λ_ _ e=> .inl e
theorem Rel.refl(r:Rel h T R n N a):l2 h h h T R n N a a:=r.same (aN.refl _ _) (aN.refl _ _)
theorem Rel.afp(r:Rel h T R n N a){j:Nat}(aa:jq R a.q j):j<h.next:=by
 rcases aa with rfl|rfl|rfl|rfl|⟨u,e⟩
 ·exact r.B.ref.lt
 ·exact r.B.kK (.inr (.inr (.inl rfl)))
 ·exact r.B.kK (.inr (.inr (.inr (.inl rfl))))
 ·exact r.B.hB
 ·exact r.B.kK (.inr (.inr (.inr (.inr ⟨u,r.r7 u j e,e⟩))))
theorem tg{us:Nat->Bool}(h:db N us ino=true):∃i,jg N us ino i:=by
 simp only[db,Bool.and_eq_true,decide_eq_true_eq] at h;exact⟨ino.toNat-1,by omega,h.2.2,by omega⟩
theorem mX.c3{nd rd:Nat->Nat->J}(H:mX N nd rd)(i c:Nat)(y:J):mX N (cO nd i c y) (cO rd (i+1) c y):=λi' a2 hi ae=>by
 by_cases e:i'=i/\a2=c
 ·rw[e.1,e.2,mS,mS]
 ·rw[ha _ _ (by omega),ha _ _ (by omega)];exact H i' a2 hi ae
theorem mf{nd:Nat->Nat->J}(H:∀i,i<N->lC (nd i))(i:Nat){c:Nat}(ae:c≠2)(mG:c≠5)(v:Int):∀i',i'<N->lC (cO nd i c (I v) i'):=λi' hi=>by
 obtain⟨⟨L,cd,c1⟩,⟨sz,zo,tK⟩,h3⟩:=H i' hi;refine⟨⟨L,by rw[ha _ _ (by omega)];exact cd,c1⟩,⟨sz,by rw[ha _ _ (by omega)];exact zo,tK⟩,λa2 an aD=>?_⟩;by_cases e:i'=i/\a2=c
 ·rw[e.1,e.2,mS];exact⟨v,rfl⟩
 ·rw[ha _ _ (by omega)];exact h3 a2 an aD
theorem apO{nd:Nat->Nat->J}(H:∀i,i<N->lC (nd i))(i:Nat){v:Int}(h0:0<=v)(h1:v<=16):∀i',i'<N->lC (cO nd i 2 (I v) i'):=λi' hi=>by
 obtain⟨⟨L,cd,c1⟩,⟨sz,zo,tK⟩,h3⟩:=H i' hi;refine⟨?_,⟨sz,by rw[ha _ _ (by omega)];exact zo,tK⟩,λa2 an aD=>?_⟩
 ·by_cases e:i'=i
  ·rw[e,mS];exact⟨v,rfl,h0,h1⟩
  ·rw[ha _ _ (by omega)];exact⟨L,cd,c1⟩
 ·by_cases e:i'=i/\a2=2
  ·rw[e.1,e.2,mS];exact⟨v,rfl⟩
  ·rw[ha _ _ (by omega)];exact h3 a2 an aD
theorem apP{nd:Nat->Nat->J}(H:∀i,i<N->lC (nd i))(i:Nat){v:Nat}(h1:v<=17792):∀i',i'<N->lC (cO nd i 5 (I (v:Int)) i'):=λi' hi=>by
 obtain⟨⟨L,cd,c1⟩,⟨sz,zo,tK⟩,h3⟩:=H i' hi;refine⟨⟨L,by rw[ha _ _ (by omega)];exact cd,c1⟩,?_,λa2 an aD=>?_⟩
 ·by_cases e:i'=i
  ·rw[e,mS];exact⟨v,rfl,h1⟩
  ·rw[ha _ _ (by omega)];exact⟨sz,zo,tK⟩
 ·by_cases e:i'=i/\a2=5
  ·rw[e.1,e.2,mS];exact⟨v,rfl⟩
  ·rw[ha _ _ (by omega)];exact h3 a2 an aD
theorem Rel.low(r:Rel h T R n N a)(aL:aN h h1 (gw T))(bF:aN h1 h2 (jq R a.q)){eQ cr:Nat->Nat->J}(b7:bx h1 T n N a.s.wd a.s.b a.now a.us eQ)(gb:cR n N a.s.wd eQ a.s.bl)
 (fa:bP h2 R n N (bU a.s.wd) a.q a.b2 a.now a.us cr)(dC:dc N cr a.s.bl)(lo:mX N eQ cr)(hM:∀i,i<N->lC (eQ i)):l2 h h1 h2 T R n N a ⟨⟨a.s.wd,a.s.b,eQ,a.s.bl⟩,a.now,a.us,a.q,a.b2,cr⟩:=
 r.next (a':=⟨⟨a.s.wd,a.s.b,eQ,a.s.bl⟩,a.now,a.us,a.q,a.b2,cr⟩) aL bF b7 gb fa dC r.jy lo hM ⟨r.jB.S,r.jB.Z,r.jB.O⟩ r.r7 λ_ _ e=> .inl e
theorem ayw{C:ad}(P:Gj C)(Q:F8 C)(r:Rel h T R n N a){mo:Int}(cd: -9223372036854775808<=ino)(c1:ino<9223372036854775808):
 ∃e h1 h2 a',C (.fn 56) [.ptr T.a9 0,I ino,I mo] h=some (.ret (I e),h1)/\C (.fn 101) [.ptr R.rt 0,I ino,I mo] h1=some (.ret (I e),h2)/\l2 h h1 h2 T R n N a a':=by
 obtain⟨bQ,cn⟩:=P h T n N a.s.wd a.s.b a.now a.us a.s.nd ino mo r.A cd c1;cases ag:db N a.us ino with
 |false=>exact⟨2,h,h,a,bQ ag,(Q h R n N _ a.q a.b2 a.now a.us a.rd ino mo r.B).1 ag,r.refl⟩
 |true=>
  obtain⟨i,b6⟩:=tg ag;obtain⟨m,hm⟩:=(r.hM i b6.1).i 7 (by omega) (by omega);obtain⟨h1,aQ,b7,cI,aL⟩:=cn i m b6.1 b6.2.1 b6.2.2 hm;have fQ:aN h h1 (gw T):=aL.eb λ_ e=> .inr (.inr (.inr e))
  obtain⟨h2,a3,fa,cF,bF⟩:=(Q h1 R n N _ a.q a.b2 a.now a.us a.rd ino mo (r.bR fQ)).2 i m b6 (by rw[r.lo i 7 b6.1 (by omega)];exact hm);exact⟨0,h1,h2,_,aQ,a3,r.low fQ (bF.eb λ_ e=> .inr (.inr (.inr (.inl e)))) b7 ((r.M.kW (by omega)).kW (by omega)) fa ((r.gU.off (by omega)).off (by omega)) ((r.lo.c3 i 7 _).c3 i 10 _) (mf (mf r.hM i (by omega) (by omega) _) i (by omega) (by omega) _)⟩
theorem ayy{C:ad}(P:Gl C)(Q:Ga C)(r:Rel h T R n N a){at_ m:Int}(cd: -9223372036854775808<=ino)(c1:ino<9223372036854775808):
 ∃e h1 h2 a',C (.fn 58) [.ptr T.a9 0,I ino,I at_,I m] h=some (.ret (I e),h1)/\C (.fn 103) [.ptr R.rt 0,I ino,I at_,I m] h1=some (.ret (I e),h2)/\l2 h h1 h2 T R n N a a':=by
 obtain⟨bQ,cn⟩:=P h T n N a.s.wd a.s.b a.now a.us a.s.nd ino at_ m r.A cd c1;cases ag:db N a.us ino with
 |false=>exact⟨2,h,h,a,bQ ag,(Q h R n N _ a.q a.b2 a.now a.us a.rd ino at_ m r.B).1 ag,r.refl⟩
 |true=>
  obtain⟨i,b6⟩:=tg ag;obtain⟨h1,aQ,b7,cI,aL⟩:=cn i b6.1 b6.2.1 b6.2.2;have fQ:aN h h1 (gw T):=aL.eb λ_ e=> .inr (.inr (.inr e))
  obtain⟨h2,a3,fa,cF,bF⟩:=(Q h1 R n N _ a.q a.b2 a.now a.us a.rd ino at_ m (r.bR fQ)).2 i b6
  exact⟨0,h1,h2,_,aQ,a3,r.low fQ (bF.eb λ_ e=> .inr (.inr (.inr (.inl e)))) b7 (((r.M.kW (by omega)).kW (by omega)).kW (by omega)) fa (((r.gU.off (by omega)).off (by omega)).off (by omega)) (((r.lo.c3 i 8 _).c3 i 9 _).c3 i 10 _)
   (mf (mf (mf r.hM i (by omega) (by omega) _) i (by omega) (by omega) _) i (by omega) (by omega) _)⟩
theorem ayr{C:ad}(P:FO C)(Q:F4 C)(r:Rel h T R n N a)(cd: -9223372036854775808<=ino)(c1:ino<9223372036854775808):
 ∃e h1 h2 a',C (.fn 60) [.ptr T.a9 0,I ino] h=some (.ret (I e),h1)/\C (.fn 99) [.ptr R.rt 0,I ino] h1=some (.ret (I e),h2)/\l2 h h1 h2 T R n N a a':=by
 obtain⟨bQ,cn⟩:=P h T n N a.s.wd a.s.b a.now a.us a.s.nd ino r.A cd c1;cases ag:db N a.us ino with
 |false=>exact⟨2,h,h,a,bQ ag,(Q h R n N _ a.q a.b2 a.now a.us a.rd ino r.B).1 ag,r.refl⟩
 |true=>
  obtain⟨i,b6⟩:=tg ag;obtain⟨H,iy⟩:=(r.hM i b6.1).i 11 (by omega) (by omega);obtain⟨h1,aQ,b7,cI,aL⟩:=cn i H b6.1 b6.2.1 b6.2.2 iy;have fQ:aN h h1 (gw T):=aL.eb λ_ e=> .inr (.inr (.inr e))
  obtain⟨h2,a3,fa,cF,bF⟩:=(Q h1 R n N _ a.q a.b2 a.now a.us a.rd ino (r.bR fQ)).2 i H b6 (by rw[r.lo i 11 b6.1 (by omega)];exact iy);exact⟨0,h1,h2,_,aQ,a3,r.low fQ (bF.eb λ_ e=> .inr (.inr (.inr (.inl e)))) b7 (r.M.kW (by omega)) fa (r.gU.off (by omega)) (r.lo.c3 i 11 _) (mf r.hM i (by omega) (by omega) _)⟩
theorem ayx{C:ad}(P:Gk C)(Q:F9 C)(r:Rel h T R n N a){u g:Int}(cd: -9223372036854775808<=ino)(c1:ino<9223372036854775808):
 ∃e h1 h2 a',C (.fn 57) [.ptr T.a9 0,I ino,I u,I g] h=some (.ret (I e),h1)/\C (.fn 102) [.ptr R.rt 0,I ino,I u,I g] h1=some (.ret (I e),h2)/\l2 h h1 h2 T R n N a a':=by
 obtain⟨bQ,cn⟩:=P h T n N a.s.wd a.s.b a.now a.us a.s.nd ino u g r.A cd c1;cases ag:db N a.us ino with
 |false=>exact⟨2,h,h,a,bQ ag,(Q h R n N _ a.q a.b2 a.now a.us a.rd ino u g r.B).1 ag,r.refl⟩
 |true=>
  obtain⟨i,b6⟩:=tg ag;obtain⟨fl,nj⟩:=cn i b6.1 b6.2.1 b6.2.2;by_cases he:u < -1\/g < -1
  ·exact⟨22,h,h,a,fl he,((Q h R n N _ a.q a.b2 a.now a.us a.rd ino u g r.B).2 i b6).1 he,r.refl⟩
  ·obtain⟨h1,aQ,b7,cI,aL⟩:=nj he;have fQ:aN h h1 (gw T):=aL.eb λ_ e=> .inr (.inr (.inr e))
   obtain⟨h2,a3,fa,cF,bF⟩:=((Q h1 R n N _ a.q a.b2 a.now a.us a.rd ino u g (r.bR fQ)).2 i b6).2 he;refine⟨0,h1,h2,_,aQ,a3,r.low fQ (bF.eb λ_ e=> .inr (.inr (.inr (.inl e)))) b7 ?_ fa ?_ ?_ ?_⟩
   ·unfold qS;split<;>split
    ·exact((r.M.kW (by omega)).kW (by omega)).kW (by omega)
    ·exact(r.M.kW (by omega)).kW (by omega)
    ·exact(r.M.kW (by omega)).kW (by omega)
    ·exact r.M.kW (by omega)
   ·unfold qS;split<;>split
    ·exact((r.gU.off (by omega)).off (by omega)).off (by omega)
    ·exact(r.gU.off (by omega)).off (by omega)
    ·exact(r.gU.off (by omega)).off (by omega)
    ·exact r.gU.off (by omega)
   ·unfold qS;split<;>split
    ·exact((r.lo.c3 i 3 _).c3 i 4 _).c3 i 10 _
    ·exact(r.lo.c3 i 4 _).c3 i 10 _
    ·exact(r.lo.c3 i 3 _).c3 i 10 _
    ·exact r.lo.c3 i 10 _
   ·unfold qS;split<;>split
    ·exact mf (mf (mf r.hM i (by omega) (by omega) _) i (by omega) (by omega) _) i (by omega) (by omega) _
    ·exact mf (mf r.hM i (by omega) (by omega) _) i (by omega) (by omega) _
    ·exact mf (mf r.hM i (by omega) (by omega) _) i (by omega) (by omega) _
    ·exact mf r.hM i (by omega) (by omega) _
end
end Go.Proofs.YtomialandfplkaaDoor.Eva
