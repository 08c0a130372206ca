import Derived.Test.YtomialandfplkaaDoorCards
import Derived.Deep.DeepHandedRow
import Derived.Test.YtomialandfplkaaDoorWInodeCopiesm4
import Derived.Test.YtomialandfplkaaDoorWInodeCopiesm2
set_option linter.unusedSimpArgs false
set_option linter.unusedVariables false
set_option maxRecDepth 100000
set_option maxHeartbeats 400000
namespace Go.Proofs.YtomialandfplkaaDoor.Eva
open Go.Xe
def du(k:Nat):List Nat:=if k<6 then[a5 k] else if k<22 then[18,a5 k] else[35,36+17*((k-22)/16),a5 k]
def ma(k:Nat):List Nat:=if k<6 then[] else if k<22 then[18] else[35,36+17*((k-22)/16)]
theorem afy(k:Nat):du k=ma k++[a5 k]:=by
 unfold du ma;split
 ·rfl
 ·split<;>rfl
theorem zM{k:Nat}(h:k<278):12<=a5 k/\a5 k<308:=by
 unfold a5;split
 ·omega
 ·split
  ·omega
  ·have:=Nat.div_add_mod (k-22) 16
   have:=Nat.mod_lt (k-22) (show 16>0 by omega)
   omega
theorem BU{k:Nat}(h:k<278):∀c,c∈du k->12<=c/\c<308:=by
 intro c ae
 have:=zM h
 unfold du at ae;split at ae
 ·simp only[List.mem_cons,List.not_mem_nil,or_false] at ae;subst ae;exact this
 ·split at ae
  ·simp only[List.mem_cons,List.not_mem_nil,or_false] at ae;rcases ae with rfl|rfl
   ·omega
   ·exact this
  ·simp only[List.mem_cons,List.not_mem_nil,or_false] at ae;rcases ae with rfl|rfl|rfl
   ·omega
   ·omega
   ·exact this
theorem arV(k:Nat):(du k).length<=3:=by unfold du;split<;>(try split)<;>simp
def bN(n i k:Nat)(s:dC):dC×Bool:=if 0<s.bl i (a5 k) then(s,true) else
 if(dq n i (du k) s []).2.2=true then((dq n i (du k) s []).1,true) else(⟨s.wd,(dq n i (du k) s []).1.b,s.nd,s.bl⟩,false)
theorem aFZ{P:Program}{h:J}{t e:TypeId}{z:Value}{y0 y1:U}(hu:P.underlying t=some (.slice e))(ak:eg P e=some 1)(aX:gC P e=some z)(ff:(c1 z).cells.length=1)(h0:y0.cells=[y0])(f0:y0.flat=true)(h1:y1.cells=[y1])(f1:y1.flat=true):
 gp P t 2 [0,1] [y0,y1] h=some (.aF h.next 0 2 (some 2) 0,h.new (cI e [y0,y1])):=by
 obtain⟨c,ae⟩:∃c,(c1 z).cells=[c]:=by
  match hm:(c1 z).cells,ff with
  | [c],_=>exact⟨c,rfl⟩
 unfold gp oD;have dT:(Nat.ble (2*1) 65536&&Nat.ble 1 1&&Nat.beq [c].length 1)=true:=rfl
 have fA:oX (λi=>some (i*1,1)) (rB [c] 2) ([0,1].zip [y0,y1])=some [y0,y1]:=by
  simp[rB,oX,F5,h0,f0,h1,f1,show Nat.ble 1 1=true from rfl,show Nat.ble 1 2=true from rfl,show Nat.ble 2 2=true from rfl]
 simp only[hu,ak,aX,ae,dT,cond_true,fA,newRow,force_eq];rfl
section
variable{lf:Nat}{h:J}{T:dS}{n N:Nat}{now:Int}{us:Nat->Bool}{s:dC}{i:Nat}
theorem aEV{x7:U}{aK:Nat}{lO:List Nat}(c:Nat)(hw:(x7= .val (.slice none 0 0)/\lO=[])\/∃kw m,x7= .aF kw 0 lO.length (some lO.length) 0/\h.mt kw=some m/\kw<h.next/\(∀j,j<lO.length->h.cell kw j=(jY aK i lO)[j]?))(aJ:lO.length<=2):
 ∃h',gp ao 143 1 [0] [.ptr aK (i*308+c)] h=some (.aF h.next 0 1 (some 1) 0,h.new (cI n4 [.ptr aK (i*308+c)]))/\
  eX ao .append #[143,143] [x7,.aF h.next 0 1 (some 1) 0] (h.new (cI n4 [.ptr aK (i*308+c)]))=some (.aF (h.next+1) 0 (lO++[c]).length none 0,h')/\h'.next=h.next+2/\
  (∀j,j<(lO++[c]).length->h'.cell (h.next+1) j=(jY aK i (lO++[c]))[j]?)/\aD h h' (λ_=>False):=by
 obtain⟨z,aX,ff⟩:=rX.aX;have ag:=MD (h:=h) (y:= .ptr aK (i*308+c)) rX.hu rX.ak aX ff rfl rfl;have jR:=aaN (h:=h) (y:= .ptr aK (i*308+c)) (e:=n4);generalize aq:cI n4 [.ptr aK (i*308+c)]=o at *;have aL:=lA h o (λ_=>False);have cA:(h.new o).next=h.next+1:=e7 ..
 have az:jY aK i (lO++[c])=jY aK i lO++[.ptr aK (i*308+c)]:=by simp[jY]
 have iQ:(jY aK i lO).length=lO.length:=by simp[jY]
 have fin:∀cells:List U,cells=jY aK i (lO++[c])->∃h',(some (U.aF (h.new o).next 0 (lO.length+1) none 0,(h.new o).new (kH n4 1 cells)):Option (U×J))=some (.aF (h.next+1) 0 (lO++[c]).length none 0,h')/\h'.next=h.next+2/\
  (∀j,j<(lO++[c]).length->h'.cell (h.next+1) j=(jY aK i (lO++[c]))[j]?)/\aD h h' (λ_=>False):=λcells ae=>by
  refine⟨(h.new o).new (kH n4 1 cells),by rw[cA];simp,by rw[e7,cA],λj _=>?_,aL.trans (lA _ _ _)⟩;rw[<- cA,jx,zx,ae]
 rcases hw with⟨rfl,rfl⟩|⟨kw,m,rfl,hm,ai,ae⟩
 ·have:=NT (P:=ao) (h:=h.new o) (y:= .aF h.next 0 1 (some 1) 0) rX jR rfl rfl (Nat.le_refl 1) (by omega) (by omega)
  obtain⟨h',dT,fA⟩:=fin [.ptr aK (i*308+c)] (by simp[jY]);exact⟨h',ag,by rw[this];exact dT,fA⟩
 ·have ak:ct h (h.new o) kw:=iT h o (by omega)
  have en:(h.new o).cells kw 0 (lO.length*1)=some (jY aK i lO):=jy (by rw[iQ,Nat.mul_one]) λj aa=>by
   rw[Nat.zero_add,ak.cell];exact ae j (by omega)
  have:=alg (P:=ao) (h:=h.new o) (y:= .aF h.next 0 1 (some 1) 0) (lo:=0) rX ⟨m,by rw[ak.mt];exact hm⟩ en jR rfl rfl (Nat.le_refl 1) (by omega) (by omega)
  obtain⟨h',dT,fA⟩:=fin _ az.symm;exact⟨h',ag,by rw[this];exact dT,fA⟩
def GH(C:ad):Prop:=∀h T n N now us s i (k:Nat),bt h T n N s.wd s.b now us s.nd->c3 n N s.wd s.nd s.bl->hE h->nV h T->i<N->k<278->
 ∃h',C (.fn 75) [.ptr T.a3 0,.ptr T.aK (i*308),I (k:Int)] h=some (.ret (.bool (bN n i k s).2),h')/\bt h' T n N (bN n i k s).1.wd (bN n i k s).1.b now us (bN n i k s).1.nd/\
  c3 n N (bN n i k s).1.wd (bN n i k s).1.nd (bN n i k s).1.bl/\hE h'/\aD h h' (λj=>j=T.bL\/j=T.kd\/j=T.aK)
theorem an7{C:ad}(gy:1001<=lf)(nW:s8 C)(nO:Cy C)(ajT:MP C)(A:bt h T n N s.wd s.b now us s.nd)(M:c3 n N s.wd s.nd s.bl)(jt:hE h)(O:nV h T)(hi:i<N){k:Nat}(ai:k<278):
 ∃h',DA C lf (.ptr T.a3 0) (.ptr T.aK (i*308)) (I (k:Int)) h=some (.ret (.bool (bN n i k s).2),h')/\bt h' T n N (bN n i k s).1.wd (bN n i k s).1.b now us (bN n i k s).1.nd/\
  c3 n N (bN n i k s).1.wd (bN n i k s).1.nd (bN n i k s).1.bl/\hE h'/\aD h h' (λj=>j=T.bL\/j=T.kd\/j=T.aK):=by
 obtain⟨bM,cz⟩:=zM ai;have fx:=uJ (e:=64) (x:= .ptr T.a3 0) (h:=h) rfl;have fQ:(U.ptr T.a3 0).cells=[.ptr T.a3 0]:=rfl;rw[fQ] at fx;generalize ik:cI 64 [.ptr T.a3 0]=dv at *;generalize kV:h.new dv=h1 at *;have cA:h1.next=h.next+1:=by rw[<- kV,e7]
 have aL:aD h h1 (λ_=>False):=by rw[<- kV];exact lA _ _ _
 have bX:=A.gQ aL λ_ e=>e.elim
 have yg:hE h1:=jt.dm aL O.g (λe=>e);have anb:h1.cell h.next 0=some (.ptr T.a3 0):=by rw[<- kV,jx, <- ik,nK];rfl
 have iQ:∀h,C (.fn 76) [.ptr T.aK (i*308),I (k:Int)] h=some (.ret (.ptr T.aK (i*308+a5 k)),h):=λh=>nW h T.aK (i*308) k ai
 have ek:=bX.dO i (a5 k) hi cz;rw[M.cell i _ hi bM cz] at ek
 have wQ:DA C lf (.ptr T.a3 0) (.ptr T.aK (i*308)) (I (k:Int)) h=xl C lf (λx1 x2 x3 x7 h=>zR C lf n7 x1 x2 x3 x7 h) n7 (some (.ptr T.aK (i*308))) (some (I (k:Int))) (some (.ptr h.next 0)) (some (.val (.slice none 0 0))) h1:=by
  unfold DA VO VN;simp only[cf,b8,ns,fx];rfl
 rw[wQ];by_cases aB:0<s.bl i (a5 k)
 ·have aQ:bN n i k s=(s,true):=by unfold bN;rw[if_pos aB]
  rw[aQ];have aI:decide ((0:Int)<(s.bl i (a5 k):Int))=true:=bu (by omega);refine⟨h1,?_,bX,M,yg,aL.ei λ_ e=>e.elim⟩;unfold xl n7;simp only[aA,iQ,ek,aI]
 have QK:decide ((0:Int)<(s.bl i (a5 k):Int))=false:=br (by omega);obtain⟨z,aX,ff⟩:=rX.aX
 have want:∃x7 h2,xl C lf (λx1 x2 x3 x7 h=>zR C lf n7 x1 x2 x3 x7 h) n7 (some (.ptr T.aK (i*308))) (some (I (k:Int))) (some (.ptr h.next 0)) (some (.val (.slice none 0 0))) h1=
  zR C lf n7 (some (.ptr T.aK (i*308))) (some (I (k:Int))) (some (.ptr h.next 0)) (some x7) h2/\aD h1 h2 (λ_=>False)/\
  ((x7= .val (.slice none 0 0)/\ma k=[])\/∃kw m,x7= .aF kw 0 (ma k).length (some (ma k).length) 0/\h2.mt kw=some m/\kw<h2.next/\(∀j,j<(ma k).length->h2.cell kw j=(jY T.aK i (ma k))[j]?)):=by
  by_cases Ry:k<6
  ·have d1:decide ((22:Int)<=(k:Int))=false:=br (by omega);have d2:decide ((6:Int)<=(k:Int))=false:=br (by omega);refine⟨_,h1,?_,aD.refl _ _,.inl ⟨rfl,by unfold ma;rw[if_pos Ry]⟩⟩;unfold xl;simp only[aA,iQ,ek,QK,d1,d2]
  ·by_cases aeT:k<22
   ·have d1:decide ((22:Int)<=(k:Int))=false:=br (by omega);have d2:decide ((6:Int)<=(k:Int))=true:=bu (by omega);have hw:ma k=[18]:=by unfold ma;rw[if_neg Ry,if_pos aeT]
    have ag:=MD (h:=h1) (y:= .ptr T.aK (i*308+18)) rX.hu rX.ak aX ff rfl rfl;refine⟨.aF h1.next 0 1 (some 1) 0,h1.new (cI n4 [.ptr T.aK (i*308+18)]),?_,lA _ _ _,.inr ⟨h1.next,(cI n4 [.ptr T.aK (i*308+18)]).mt,by rw[hw];rfl,by rw[rh,if_pos rfl],by rw[e7];omega,λj aa=>?_⟩⟩
    ·unfold xl;simp only[aA,iQ,ek,QK,d1,d2,Nat.add_zero,ag]
    ·rw[jx,nK,hw];rfl
   ·have d1:decide ((22:Int)<=(k:Int))=true:=bu (by omega);have hw:ma k=[35,36+17*((k-22)/16)]:=by unfold ma;rw[if_neg Ry,if_neg aeT]
    have ak:IntKind.i64.wrap ((k:Int)-22)=((k-22:Nat):Int):=cD (by omega)
    have a2:IntKind.i64.wrap (((k-22:Nat):Int).tdiv 16)=(((k-22)/16:Nat):Int):=by
     rw[Int.tdiv_eq_ediv_of_nonneg (by omega),wrap_i64 (by omega) (by omega)];rfl
    have bW:=l1 (n:=16) (s:=17) (k:=T.aK) (off:=i*308+36) (kd:= .i64) (i:=(((k-22)/16:Nat):Int)) (by omega) (by omega);rw[Int.toNat_natCast] at bW;have Ou:i*308+36+(k-22)/16*17=i*308+(36+17*((k-22)/16)):=by omega
    rw[Ou] at bW;have ag:=aFZ (h:=h1) (y0:= .ptr T.aK (i*308+35)) (y1:= .ptr T.aK (i*308+(36+17*((k-22)/16)))) rX.hu rX.ak aX ff rfl rfl rfl rfl;refine⟨.aF h1.next 0 2 (some 2) 0,h1.new (cI n4 [.ptr T.aK (i*308+35),.ptr T.aK (i*308+(36+17*((k-22)/16)))]),?_,lA _ _ _,.inr ⟨h1.next,(cI n4 [.ptr T.aK (i*308+35),.ptr T.aK (i*308+(36+17*((k-22)/16)))]).mt,by rw[hw];rfl,by rw[rh,if_pos rfl],by rw[e7];omega,λj aa=>?_⟩⟩
    ·unfold xl;simp only[aA,iQ,ek,QK,d1,ak,lV (show(16:Int)≠0 by omega),a2,bW,Nat.add_zero,ag]
    ·rw[jx,nK,hw];rfl
 obtain⟨x7,h2,dT,bw,hw⟩:=want;rw[dT];have aqI:(ma k).length<=2:=by unfold ma;split<;>(try split)<;>simp
 have aqR:gC ao 143=some (.slice none 0 0):=by kernel_rfl
 have th:=oI (P:=ao) (e:=143) (h:=h2) aqR;have oq:(c1 (.slice none 0 0)).cells=[.val (.slice none 0 0)]:=rfl;rw[oq] at th;generalize sj:cI 143 [.val (.slice none 0 0)]=jW at *;generalize hF:h2.new jW=h3 at *;have e6:h3.next=h2.next+1:=by rw[<- hF,e7]
 have c2:aD h2 h3 (λ_=>False):=by rw[<- hF];exact lA _ _ _
 have Gi:h3.wr h2.next 1:=by
  have:=hW (h:=h2) (o:=jW) (by rw[<- sj];rfl)
  rw[show jW.n=1 by rw[<- sj];rfl,hF] at this;exact this
 have mn:h3.cell h2.next 0=some (.val (.slice none 0 0)):=by rw[<- hF,jx, <- sj,nK];rfl
 have aqF:(x7= .val (.slice none 0 0)/\ma k=[])\/∃kw m,x7= .aF kw 0 (ma k).length (some (ma k).length) 0/\h3.mt kw=some m/\kw<h3.next/\(∀j,j<(ma k).length->h3.cell kw j=(jY T.aK i (ma k))[j]?):=by
  rcases hw with e|⟨kw,m,az,ay,b9,ee⟩
  ·exact .inl e
  ·have z5:=c2.same kw b9 (λe=>e);exact .inr ⟨kw,m,az,by rw[z5.mt];exact ay,by omega,λj aa=>by rw[z5.cell];exact ee j aa⟩
 obtain⟨aT,bY,b2,jm,kS,fK⟩:=aEV (a5 k) aqF aqI;rw[<- afy] at b2 kS;have YK:aD h1 aT (λ_=>False):=(bw.trans c2).trans fK;have s3:aD h aT (λ_=>False):=aL.trans YK;have afK:=bw.next
 have fU:∀j,j<h3.next->ct h3 aT j:=λj aa=>fK.same j aa (λe=>e)
 have X:xW h aT T n N now us s i h.next h2.next []:=
  ⟨A.gQ s3 λ_ e=>e.elim,M,jt.dm s3 O.g (λe=>e),s3.ei λ_ e=>e.elim,by rw[(YK.same h.next (by omega) (λe=>e)).cell];exact anb,by omega,by omega,
    ⟨.val (.slice none 0 0),by rw[(fU h2.next (by omega)).cell];exact mn,ha.nil _ _ _,λj aa=>by cases aa⟩,eP Gi (fU _ (by omega)),by omega,by omega,by omega⟩
 have gq:=arV k
 obtain⟨bz,we,EK⟩:=PR (lf:=lf) (h0:=h) nO O hi (kx:=h3.next+1) (cs0:=du k) (BU ai) (by omega) ⟨by omega,by omega⟩ (.fn (.func 90) [] [.ptr h2.next 0,.ptr h.next 0]) n7 (λh=>Fy C lf n7 h)
  (du k) 0 rfl (by omega) lf (by omega) aT s [] X (by simp) (by omega) kS (λj aa=>by rw[(fU h2.next (by omega)).cell,mn] at aa;cases aa)
 have vb:eG ao 143 (.aF (h3.next+1) 0 (du k).length none 0)=some (I ((du k).length:Int)):=by
  simp[eG,Tryd.underlying143]
 have pre:zR C lf n7 (some (.ptr T.aK (i*308))) (some (I (k:Int))) (some (.ptr h.next 0)) (some x7) h2=
  bk (zn C lf n7 (λh=>Fy C lf n7 h)) lf (some (.ptr h.next 0),some (.ptr h2.next 0),some (.fn (.func 90) [] [.ptr h2.next 0,.ptr h.next 0]),some (.aF (h3.next+1) 0 (du k).length none 0),some (I ((du k).length:Int)),some (I ((0:Nat):Int))) aT:=by
  unfold zR VM;simp only[cf,b8,ns,th];unfold VL VK;simp only[cf,b8];unfold VJ VI VH;simp only[cf,b8,ks,ns,iQ,bY,b2,vb];rfl
 rw[pre,EK];have ai8:oP n i s (dq n i (du k) s []).2.1 (dq n i (du k) s []).1:=yC (du k) s [] .nil (BU ai);by_cases ag:(dq n i (du k) s []).2.2=true
 ·have aQ:bN n i k s=((dq n i (du k) s []).1,true):=by unfold bN;rw[if_neg aB,if_pos ag]
  rw[if_pos ag,aQ];refine⟨bz,?_,we.A,we.M,we.jt,we.F⟩;unfold Fy n7;simp only[cf,b8]
 ·have aQ:bN n i k s=(⟨s.wd,(dq n i (du k) s []).1.b,s.nd,s.bl⟩,false):=by unfold bN;rw[if_neg aB,if_neg ag]
  rw[if_neg ag,aQ];have P:=ai8.props hi M A.st.iF;have apF:=PL (n:=n) (i:=i) (du k) s [] (by simpa using ag);have a9:(dq n i (du k) s []).2.1.length<=1000:=by have:=apF.2;simp at this;omega
  obtain⟨bA,lq,Yx,YV,oL⟩:=ajT h bz T n N now us _ i _ _ _ O hi we P.e1 (λc ae=>⟨(P.pw c ae).2.1,(P.pw c ae).2.2.1,(P.pw c ae).2.2.2.1⟩) a9;obtain⟨iD,sO,Gd,_⟩:=ai8.aEH hi M A.st.iF;have Me:(er i (dq n i (du k) s []).2.1 (dq n i (du k) s []).1).b=(dq n i (du k) s []).1.b:=(NX (i:=i) _ _ P.e1 P.iF λc h=>(P.pw c h).2.2.2.1).2.1;rw[iD,sO,Me] at Yx;rw[iD,sO,Gd] at YV;refine⟨bA,?_,Yx,YV,we.jt.dm oL (Nat.lt_of_lt_of_le O.g we.F.next) (λe=>by rcases e with e|e;exact O.aO.s e;exact O.aO.n e),we.F.trans (oL.ei λ_ e=>by rcases e with e|e;exact .inl e;exact .inr (.inr e))⟩;show dL (C (.fn 90) ([]++[]++[.ptr h2.next 0,.ptr h.next 0]) bz) _=_;simp only[List.nil_append,lq,ks];unfold n7;simp only[cf,b8]
end
section
variable{P:Program}{h:J}{t:TypeId}
theorem MB{c8:Array TypeId}{a b:Int}{k:IntKind}:eX P .min c8 [.int k a,.int k b] h=some (.int k (min a b),h):=by
 have e:(bif decide (b<a) then b else a)=min a b:=by
  by_cases c:b<a
  ·rw[bu c,cond_true];omega
  ·rw[br c,cond_false];omega
 show ax (eC h.x0 (EP (.int k a) (.int k b)))=_;simp only[EP,e];rfl
theorem aFY{c8:Array TypeId}{a b:Int}{k:IntKind}:eX P .max c8 [.int k a,.int k b] h=some (.int k (max a b),h):=by
 have e:(bif decide (b>a) then b else a)=max a b:=by
  by_cases c:b>a
  ·rw[bu c,cond_true];omega
  ·rw[br c,cond_false];omega
 show ax (eC h.x0 (EO (.int k a) (.int k b)))=_;simp only[EO,e];rfl
theorem ZT{e s lo hi:Nat}{k1 k2:IntKind}{x:U}{l:List Nat}(hu:P.underlying t=some (.slice e))(ak:eg P e=some s)(h1:s=1)(B:Bytes h x l)(ae:mQ x)(aJ:lo<hi)(cj:hi<=l.length):
 ∃bF,gl P t x (some (.int k1 (lo:Int))) (some (.int k2 (hi:Int)))=some bF/\Bytes h bF ((l.drop lo).take (hi-lo))/\rowOf bF=rowOf x:=by
 subst h1;rcases B.2 with⟨_,rfl⟩|⟨bB,ob,cap,iz,m,rfl,hm,en⟩
 ·simp at cj;omega
 ·have dT:kl (.int k1 (lo:Int))=some lo:=rfl;have fA:kl (.int k2 (hi:Int))=some hi:=rfl;have hlen:((l.drop lo).take (hi-lo)).length=hi-lo:=by simp;omega
  have ag:∀sH,sH=ob+lo->∀N8 RJ,Bytes h (.aF bB sH (hi-lo) N8 RJ) ((l.drop lo).take (hi-lo)):=λsH e N8 RJ=>by
   subst e;refine⟨λc ae=>B.1 c (List.mem_of_mem_drop (List.mem_of_mem_take ae)),.inr ⟨bB,ob+lo,N8,RJ,m,by rw[hlen],hm,λj aa=>?_⟩⟩;rw[hlen] at aa;rw[Nat.add_assoc,en (lo+j) (by omega)];congr 3;simp[List.getD,List.getElem?_take,aa,List.getElem?_drop]
  unfold gl;cases cap with
  |none=>
   have h3:sliceB l.length l.length (some (.int k1 (lo:Int))) (some (.int k2 (hi:Int)))=some (lo,hi):=by
    simp only[sliceB,dT,fA]
    have:(Nat.ble hi l.length&&Nat.ble lo hi)=true:=by simp[Nat.ble_eq_true_of_le cj,Nat.ble_eq_true_of_le (Nat.le_of_lt aJ)]
    simp only[this,cond_true]
   have bY:Nat.blt lo l.length=true:=by rw[Nat.blt_eq];omega
   simp only[hu,ak,h3,qm,force_eq,Nat.ble_eq_true_of_le cj,cond_true,bY,Nat.mul_one];exact⟨_,rfl,ag _ rfl _ _,rfl⟩
  |some c=>
   have ae:l.length<=c:=ae
   have h3:sliceB l.length c (some (.int k1 (lo:Int))) (some (.int k2 (hi:Int)))=some (lo,hi):=by
    simp only[sliceB,dT,fA]
    have:(Nat.ble hi c&&Nat.ble lo hi)=true:=by simp[Nat.ble_eq_true_of_le (Nat.le_trans cj ae),Nat.ble_eq_true_of_le (Nat.le_of_lt aJ)]
    simp only[this,cond_true]
   have bY:Nat.beq (c-lo) 0=false:=by
    cases ag:Nat.beq (c-lo) 0 with
    |false=>rfl
    |true=>exact absurd (Nat.eq_of_beq_eq_true ag) (by omega)
   simp only[hu,ak,h3,qm,force_eq,bY,cond_false,Nat.mul_one];exact⟨_,rfl,ag _ rfl _ _,rfl⟩
end
def jG(n i off:Nat)(l:List Nat):Nat->Nat->dC->dC×Nat
 |0,done,s=>(s,done)
 |f+1,done,s=>if done<l.length then
   (if(bN n i ((off+done)/64) s).2=true then
     jG n i off l f (done+min (64-(off+done)%64) (l.length-done)) ⟨(bN n i ((off+done)/64) s).1.wd,
      over (bN n i ((off+done)/64) s).1.b (((bN n i ((off+done)/64) s).1.bl i (a5 ((off+done)/64))-1)*64+(off+done)%64) ((l.drop done).take (min (64-(off+done)%64) (l.length-done))),
      (bN n i ((off+done)/64) s).1.nd,(bN n i ((off+done)/64) s).1.bl⟩
   else((bN n i ((off+done)/64) s).1,done)) else(s,done)
theorem nV.mono{h h':J}{T:dS}(O:nV h T)(aR:h.next<=h'.next):nV h' T:=⟨Nat.lt_of_lt_of_le O.t aR,Nat.lt_of_lt_of_le O.s aR,Nat.lt_of_lt_of_le O.d aR,Nat.lt_of_lt_of_le O.n aR,Nat.lt_of_lt_of_le O.g aR,O.aO⟩
def CU(T:dS)(x:U):Prop:=∀j,rowOf x=some j->j≠T.a3/\j≠T.bL/\j≠T.kd/\j≠T.aK
theorem PO{n i k:Nat}{s:dC}(aB:(bN n i k s).2=true):0<(bN n i k s).1.bl i (a5 k):=by
 unfold bN at aB⊢;by_cases h1:0<s.bl i (a5 k)
 ·rw[if_pos h1];exact h1
 ·rw[if_neg h1] at aB⊢;by_cases h2:(dq n i (du k) s []).2.2=true
  ·rw[if_pos h2];exact(Ia (du k) s [] h2).2 _ (by rw[afy];simp)
  ·rw[if_neg h2] at aB;cases aB
section
variable{lf:Nat}{h:J}{T:dS}{n N:Nat}{now:Int}{us:Nat->Bool}{s:dC}{i:Nat}
theorem aE6{C:ad}(nW:s8 C)(j4:GH C)(yh:CR C)(hi:i<N){off:Nat}{x:U}{l:List Nat}(yR:mQ x)(ji:CU T x)(jT:off+l.length<=17792)(az:bo):
 ∀(g done:Nat),l.length-done<=g->done<=l.length->∀f,g<f->∀h s,bt h T n N s.wd s.b now us s.nd->c3 n N s.wd s.nd s.bl->hE h->nV h T->Bytes h x l->(∀j,rowOf x=some j->j<h.next)->
 ∃h',bk (EI C lf az) f (some (.ptr T.a3 0),some (I (off:Int)),some x,some (.ptr T.aK (i*308)),some (I (done:Int))) h=
    az (some (.ptr T.a3 0)) (some (I (off:Int))) (some (.ptr T.aK (i*308))) (some (I ((jG n i off l g done s).2:Int))) h'/\
  bt h' T n N (jG n i off l g done s).1.wd (jG n i off l g done s).1.b now us (jG n i off l g done s).1.nd/\c3 n N (jG n i off l g done s).1.wd (jG n i off l g done s).1.nd (jG n i off l g done s).1.bl/\
  hE h'/\aD h h' (λj=>j=T.bL\/j=T.kd\/j=T.aK):=by
 intro g
 induction g with
 |zero=>
  intro done bc aI f au h s A M jt O B ax;obtain⟨f,rfl⟩:=dx f (by omega);have hlen:=re (P:=ao) Tryd.underlying24 B;have a9:decide ((done:Int)<(l.length:Int))=false:=br (by omega);refine⟨h,?_,A,M,jt,aD.refl _ _⟩;rw[df];unfold EI Fl;simp only[aA,hlen,a9];rfl
 |succ g bp=>
  intro done bc aI f au h s A M jt O B ax;obtain⟨f,rfl⟩:=dx f (by omega);have hlen:=λ(h:J) (B:Bytes h x l)=>re (P:=ao) Tryd.underlying24 B
  rw[df];show ∃h',Fl C lf (λx0 x2 x3 aU x12 h=>bk (EI C lf az) f (x0,x2,x3,aU,x12) h) az (some (.ptr T.a3 0)) (some (I (off:Int))) (some x) (some (.ptr T.aK (i*308))) (some (I (done:Int))) h=_/\_;unfold Fl;by_cases QN:done<l.length
  ·have a9:decide ((done:Int)<(l.length:Int))=true:=bu (by omega);have iO:IntKind.i64.wrap ((off:Int)+(done:Int))=((off+done:Nat):Int):=cD (by omega)
   have a2:IntKind.i64.wrap (((off+done:Nat):Int).tdiv 64)=(((off+done)/64:Nat):Int):=by
    rw[Int.tdiv_eq_ediv_of_nonneg (by omega),wrap_i64 (by omega) (by omega)];rfl
   have aQ:((off+done:Nat):Int).tmod 64=(((off+done)%64:Nat):Int):=by
    rw[Int.tmod_eq_emod_of_nonneg (by omega)];rfl
   have ai:(off+done)/64<278:=by omega
   obtain⟨h1,aP,bX,ie,yg,aL⟩:=j4 h T n N now us s i ((off+done)/64) A M jt O hi ai
   have hw:jG n i off l (g+1) done s=if(bN n i ((off+done)/64) s).2=true then
    jG n i off l g (done+min (64-(off+done)%64) (l.length-done)) ⟨(bN n i ((off+done)/64) s).1.wd,
     over (bN n i ((off+done)/64) s).1.b (((bN n i ((off+done)/64) s).1.bl i (a5 ((off+done)/64))-1)*64+(off+done)%64) ((l.drop done).take (min (64-(off+done)%64) (l.length-done))),
     (bN n i ((off+done)/64) s).1.nd,(bN n i ((off+done)/64) s).1.bl⟩
    else((bN n i ((off+done)/64) s).1,done):=by
    show(if done<l.length then _ else _)=_;rw[if_pos QN]
   rw[hw];have tT:=PO (n:=n) (i:=i) (k:=(off+done)/64) (s:=s);generalize db:bN n i ((off+done)/64) s=dm at *;generalize pZ:(off+done)/64=k at *;generalize aGw:(off+done)%64=a at *;have bV:a<64:=by omega
   by_cases ag:dm.2=true
   ·rw[ag] at aP;rw[if_pos ag];have tT:=tT ag;obtain⟨bM,cz⟩:=zM ai;generalize hm:min (64-a) (l.length-done)=m at *;have Eg:1<=m:=by omega
    have y7:m<=64-a:=by omega
    have y8:done+m<=l.length:=by omega
    have ic:Bytes h1 x l:=B.frame λbB ob len cap lo e=>aL.same bB (ax bB (by rw[e];rfl)) (λay=>by have:=ji bB (by rw[e];rfl);omega)
    have JE:IntKind.i64.wrap (64-(a:Int))=((64-a:Nat):Int):=cD (by omega);have kE:IntKind.i64.wrap ((l.length:Int)-(done:Int))=((l.length-done:Nat):Int):=cD (by omega);have wV:min ((64-a:Nat):Int) ((l.length-done:Nat):Int)=(m:Int):=by omega
    have Jo:IntKind.i64.wrap ((done:Int)+(m:Int))=((done+m:Nat):Int):=cD (by omega);obtain⟨bF,dT,fA,nJ⟩:=ZT (P:=ao) (t:=24) (lo:=done) (hi:=done+m) (k1:= .i64) (k2:= .i64) Tryd.underlying24 (s:=1) (by kernel_rfl) rfl ic yR (by omega) y8;rw[Nat.add_sub_cancel_left] at fA;have iQ:C (.fn 76) [.ptr T.aK (i*308),I (k:Int)] h1=some (.ret (.ptr T.aK (i*308+a5 k)),h1):=nW h1 T.aK (i*308) k ai;have ek:=bX.dO i (a5 k) hi cz;rw[ie.cell i _ hi bM cz] at ek;have hle:=ie.le i (a5 k);have fG:=bX.st.ck;have kD:IntKind.i64.wrap ((dm.1.bl i (a5 k):Int)-1)=((dm.1.bl i (a5 k)-1:Nat):Int):=cD (by omega);have e5:=ie.on i (a5 k) hi bM cz tT;have y4:((l.drop done).take m).length=m:=by simp;omega
    have tP:¬uZ n dm.1.wd ((dm.1.bl i (a5 k)-1:Nat):Int) (a:Int) ((l.drop done).take m):=by
     have jj:gS n dm.1.wd ((dm.1.bl i (a5 k)-1:Nat):Int)=true:=by
      simp only[gS,Int.toNat_natCast,e5,Bool.and_true,Bool.and_eq_true,decide_eq_true_eq];omega
     unfold uZ;rw[jj,y4];simp only[Bool.true_eq_false,false_or];omega
    obtain⟨h2,a1,j5,ck,bw⟩:=(yh h1 T.bL T.kd n dm.1.wd dm.1.b ((dm.1.bl i (a5 k)-1:Nat):Int) (a:Int) bF ((l.drop done).take m) bX.st fA (by omega) (by omega) (by omega) (by omega) (by omega)).2 tP;rw[Int.toNat_natCast,Int.toNat_natCast] at j5;have dh:=bX.store j5 bw.next (bw.same _ bX.lt (λe=>bX.d2 e)) (bw.same _ bX.k5 (λe=>bX.d5 e))
    have nS:aD h h2 (λj=>j=T.bL\/j=T.kd\/j=T.aK):=aL.trans (bw.ei λ_ e=> .inr (.inl e));have kb:∀r,dM (ey [(3,bU (some (U.ptr T.a3 0)))] h1 h1 [3]) r=r:=λr=>AP rfl bX.lt (vF bX.wt) rfl
    obtain⟨h3,dd,dy,fB,k8,mJ⟩:=bp (done+m) (by omega) y8 f (by omega) h2 ⟨dm.1.wd,over dm.1.b ((dm.1.bl i (a5 k)-1)*64+a) ((l.drop done).take m),dm.1.nd,dm.1.bl⟩ dh ie (yg.dm bw (Nat.lt_of_lt_of_le O.g aL.next) (λe=>O.aO.d e)) (O.mono nS.next)
     (ic.frame λbB ob len cap lo e=>bw.same bB (Nat.lt_of_lt_of_le (ax bB (by rw[e];rfl)) aL.next) (λay=>by have:=ji bB (by rw[e];rfl);omega)) (λj aa=>Nat.lt_of_lt_of_le (ax j aa) nS.next)
    refine⟨h3,?_,dy,fB,k8,nS.trans mJ⟩;simp only[aA,hlen h B,a9,iO,lV (show(64:Int)≠0 by omega),a2,ih (show(64:Int)≠0 by omega),aQ,aP,Bool.not_true,JE,hlen h1 ic,kE,MB,wV,Jo,dT,bX.cG,iQ,kb,ek,kD,a1];exact dd
   ·have iP:dm.2=false:=by simpa using ag
    rw[iP] at aP;rw[if_neg ag];refine⟨h1,?_,bX,ie,yg,aL⟩;simp only[aA,hlen h B,a9,iO,lV (show(64:Int)≠0 by omega),a2,ih (show(64:Int)≠0 by omega),aQ,aP,Bool.not_false]
  ·have a9:decide ((done:Int)<(l.length:Int))=false:=br (by omega)
   have hw:jG n i off l (g+1) done s=(s,done):=by
    show(if done<l.length then _ else _)=_;rw[if_neg QN]
   rw[hw];refine⟨h,?_,A,M,jt,aD.refl _ _⟩;simp only[aA,hlen h B,a9]
end
def ez(off:Nat)(l:List Nat):List Nat:=l.take (min l.length (17792-off))
def dU(n i off:Nat)(l:List Nat)(s:dC):dC×Nat:=jG n i off (ez off l) (ez off l).length 0 s
def grown(nd:Nat->Nat->U)(i sz:Nat)(now:Int):Nat->Nat->U:=cU (cU (cU nd i 5 (I (sz:Int))) i 9 (I now)) i 10 (I now)
theorem c3.grown{n N:Nat}{wd:Nat->Nat}{nd:Nat->Nat->U}{bl:Nat->Nat->Nat}(M:c3 n N wd nd bl)(i sz:Nat)(now:Int):c3 n N wd (grown nd i sz now) bl:=
 ((M.lu (by omega)).lu (by omega)).lu (by omega)
section
variable{lf:Nat}{h:J}{T:dS}{n N:Nat}{now:Int}{us:Nat->Bool}{s:dC}{i:Nat}
theorem Bu(hi:i<N)(hu:us i=true):c7 N us ((i+1:Nat):Int)=true:=by
 have h1:decide ((1:Int)<=((i+1:Nat):Int))=true:=bu (by omega);have h2:decide (((i+1:Nat):Int)<=(N:Int))=true:=bu (by omega);have e:((i+1:Nat):Int).toNat-1=i:=by omega
 simp only[c7,h1,h2,Bool.true_and,e,hu]
theorem an4{k i' c:Nat}(hi:i<N)(M:c3 n N s.wd s.nd s.bl)(hw:∀j,s.wd j<2 ^ 64)(ai:k<278)(ae:c<12):(bN n i k s).1.nd i' c=s.nd i' c:=by
 unfold bN;by_cases h1:0<s.bl i (a5 k)
 ·rw[if_pos h1]
 ·rw[if_neg h1];by_cases h2:(dq n i (du k) s []).2.2=true
  ·rw[if_pos h2];have t:oP n i s (dq n i (du k) s []).2.1 (dq n i (du k) s []).1:=yC (du k) s [] .nil (BU ai);have P:=t.props hi M hw;exact P.Sb i' c (.inr λe=>by have:=(P.pw c e).2.1;omega)
  ·rw[if_neg h2]
structure pN (n N:Nat) (s:dC):Prop where
 M:c3 n N s.wd s.nd s.bl
 w:∀j,s.wd j<2 ^ 64
theorem PQ{k:Nat}(W:pN n N s)(hi:i<N)(ai:k<278):pN n N (bN n i k s).1:=by
 unfold bN;by_cases h1:0<s.bl i (a5 k)
 ·rw[if_pos h1];exact W
 ·rw[if_neg h1];by_cases h2:(dq n i (du k) s []).2.2=true
  ·rw[if_pos h2];have t:oP n i s (dq n i (du k) s []).2.1 (dq n i (du k) s []).1:=yC (du k) s [] .nil (BU ai);have P:=t.props hi W.M W.w;exact⟨P.M,P.iF⟩
  ·rw[if_neg h2];exact⟨W.M,W.w⟩
theorem Gm{off:Nat}{l:List Nat}(jT:off+l.length<=17792){i' c:Nat}(hi:i<N)(ae:c<12):∀(g done:Nat) (s:dC),done<=l.length->pN n N s->(jG n i off l g done s).1.nd i' c=s.nd i' c/\done<=(jG n i off l g done s).2/\(jG n i off l g done s).2<=l.length/\pN n N (jG n i off l g done s).1
 |0,done,s,aI,W=>⟨rfl,Nat.le_refl _,aI,W⟩
 |g+1,done,s,aI,W=>by
  unfold jG;by_cases h1:done<l.length
  ·rw[if_pos h1];have ai:(off+done)/64<278:=by omega
   have az:=an4 (i:=i) (i':=i') (c:=c) hi W.M W.w ai ae;have jL:=PQ (i:=i) W hi ai;by_cases h2:(bN n i ((off+done)/64) s).2=true
   ·rw[if_pos h2]
    obtain⟨aj,aC,a8,cF⟩:=Gm jT (i':=i') hi ae g (done+min (64-(off+done)%64) (l.length-done)) ⟨(bN n i ((off+done)/64) s).1.wd,
     over (bN n i ((off+done)/64) s).1.b (((bN n i ((off+done)/64) s).1.bl i (a5 ((off+done)/64))-1)*64+(off+done)%64) ((l.drop done).take (min (64-(off+done)%64) (l.length-done))),
     (bN n i ((off+done)/64) s).1.nd,(bN n i ((off+done)/64) s).1.bl⟩ (by omega) ⟨jL.M,jL.w⟩
    exact⟨aj.trans az,by omega,a8,cF⟩
   ·rw[if_neg h2];exact⟨az,Nat.le_refl _,aI,jL⟩
  ·rw[if_neg h1];exact⟨rfl,Nat.le_refl _,aI,W⟩
def Hj(C:ad):Prop:=∀h T n N now us s i (off:Int) x l (sz:Nat),bt h T n N s.wd s.b now us s.nd->c3 n N s.wd s.nd s.bl->hE h->nV h T->i<N->us i=true->s.nd i 5=I (sz:Int)->sz<=17792->Bytes h x l->mQ x->CU T x->
 (∀j,rowOf x=some j->j<h.next)->l.length<=140737488351232-> -9223372036854775808<=off->off<9223372036854775808->
 (off<0->C (.fn 38) [.ptr T.a3 0,I ((i+1:Nat):Int),I off,x] h=some (.ret (.bm [I 0,I 22]),h))/\
 (0<=off->l=[]->C (.fn 38) [.ptr T.a3 0,I ((i+1:Nat):Int),I off,x] h=some (.ret (.bm [I 0,I 0]),h))/\
 (l≠[]->17792<=off->C (.fn 38) [.ptr T.a3 0,I ((i+1:Nat):Int),I off,x] h=some (.ret (.bm [I 0,I 27]),h))/\
 (l≠[]->0<=off->off<17792->∃h',aD h h' (λj=>j=T.bL\/j=T.kd\/j=T.aK)/\hE h'/\
   ((dU n i off.toNat l s).2=0->C (.fn 38) [.ptr T.a3 0,I ((i+1:Nat):Int),I off,x] h=some (.ret (.bm [I 0,I 28]),h')/\
     bt h' T n N (dU n i off.toNat l s).1.wd (dU n i off.toNat l s).1.b now us (dU n i off.toNat l s).1.nd/\c3 n N (dU n i off.toNat l s).1.wd (dU n i off.toNat l s).1.nd (dU n i off.toNat l s).1.bl)/\
   ((dU n i off.toNat l s).2≠0->C (.fn 38) [.ptr T.a3 0,I ((i+1:Nat):Int),I off,x] h=some (.ret (.bm [I ((dU n i off.toNat l s).2:Int),I 0]),h')/\
     bt h' T n N (dU n i off.toNat l s).1.wd (dU n i off.toNat l s).1.b now us (grown (dU n i off.toNat l s).1.nd i (max sz (off.toNat+(dU n i off.toNat l s).2)) now)/\
     c3 n N (dU n i off.toNat l s).1.wd (grown (dU n i off.toNat l s).1.nd i (max sz (off.toNat+(dU n i off.toNat l s).2)) now) (dU n i off.toNat l s).1.bl))
theorem aEB{C:ad}(gy:20000<=lf)(fu:mh C)(nW:s8 C)(j4:GH C)(yh:CR C)(NH:Hk C){off:Int}{x:U}{l:List Nat}{sz:Nat}(A:bt h T n N s.wd s.b now us s.nd)(M:c3 n N s.wd s.nd s.bl)(jt:hE h)(O:nV h T)(hi:i<N)(hu:us i=true)(dP:s.nd i 5=I (sz:Int))(so:sz<=17792)(B:Bytes h x l)(yR:mQ x)(ji:CU T x)
 (ax:∀j,rowOf x=some j->j<h.next)(kY:l.length<=140737488351232)(dv: -9223372036854775808<=off)(cy:off<9223372036854775808):
 (off<0->sa C lf (.ptr T.a3 0) (I ((i+1:Nat):Int)) (I off) x h=some (.ret (.bm [I 0,I 22]),h))/\
 (0<=off->l=[]->sa C lf (.ptr T.a3 0) (I ((i+1:Nat):Int)) (I off) x h=some (.ret (.bm [I 0,I 0]),h))/\
 (l≠[]->17792<=off->sa C lf (.ptr T.a3 0) (I ((i+1:Nat):Int)) (I off) x h=some (.ret (.bm [I 0,I 27]),h))/\
 (l≠[]->0<=off->off<17792->∃h',aD h h' (λj=>j=T.bL\/j=T.kd\/j=T.aK)/\hE h'/\
   ((dU n i off.toNat l s).2=0->sa C lf (.ptr T.a3 0) (I ((i+1:Nat):Int)) (I off) x h=some (.ret (.bm [I 0,I 28]),h')/\
     bt h' T n N (dU n i off.toNat l s).1.wd (dU n i off.toNat l s).1.b now us (dU n i off.toNat l s).1.nd/\c3 n N (dU n i off.toNat l s).1.wd (dU n i off.toNat l s).1.nd (dU n i off.toNat l s).1.bl)/\
   ((dU n i off.toNat l s).2≠0->sa C lf (.ptr T.a3 0) (I ((i+1:Nat):Int)) (I off) x h=some (.ret (.bm [I ((dU n i off.toNat l s).2:Int),I 0]),h')/\
     bt h' T n N (dU n i off.toNat l s).1.wd (dU n i off.toNat l s).1.b now us (grown (dU n i off.toNat l s).1.nd i (max sz (off.toNat+(dU n i off.toNat l s).2)) now)/\
     c3 n N (dU n i off.toNat l s).1.wd (grown (dU n i off.toNat l s).1.nd i (max sz (off.toNat+(dU n i off.toNat l s).2)) now) (dU n i off.toNat l s).1.bl)):=by
 have jQ:=A.gH;have bc:=fu h T n N s.wd s.b now us s.nd ((i+1:Nat):Int) A (by omega) (by omega);rw[Bu hi hu,if_pos rfl,show((i+1:Nat):Int).toNat-1=i by omega] at bc;have ca:decide ((0:Int)≠0)=false:=rfl;have hlen:=λ(h:J) (x:U) (l:List Nat) (B:Bytes h x l)=>re (P:=ao) Tryd.underlying24 B
 have pre:sa C lf (.ptr T.a3 0) (I ((i+1:Nat):Int)) (I off) x h=xi C lf qF (some (.ptr T.a3 0)) (some (I off)) (some x) (some (.ptr T.aK (i*308))) h:=by
  unfold sa KL KK KJ KI;simp only[cf,b8,ks,bc,qC,List.getElem?_cons_zero,List.getElem?_cons_succ];unfold KH KG;simp only[cf,b8,C0,ca,qs]
 rw[pre];refine⟨λag=>?_,λag aJ=>?_,λaJ ag=>?_,λaJ bY b2=>?_⟩
 ·unfold xi B2 qF;simp only[aA,bu ag]
 ·have d1:decide (off<0)=false:=br (by omega);have d2:decide ((l.length:Int)=0)=true:=bu (by rw[aJ];rfl);unfold xi B2 qF;simp only[aA,d1,hlen h x l B,d2]
 ·have d1:decide (off<0)=false:=br (by omega);have Ef:0<l.length:=List.length_pos_iff.2 aJ;have d2:decide ((l.length:Int)=0)=false:=br (by omega);unfold xi B2 qF;simp only[aA,d1,hlen h x l B,d2,bu ag]
 ·obtain⟨o,rfl⟩:∃o:Nat,off=o:=⟨off.toNat,by omega⟩;rw[Int.toNat_natCast];have d1:decide ((o:Int)<0)=false:=br (by omega);have Ef:0<l.length:=List.length_pos_iff.2 aJ;have d2:decide ((l.length:Int)=0)=false:=br (by omega);have d3:decide ((17792:Int)<=(o:Int))=false:=br (by omega);have ak:IntKind.i64.wrap (17792-(o:Int))=((17792-o:Nat):Int):=cD (by omega);have wV:min (l.length:Int) ((17792-o:Nat):Int)=((min l.length (17792-o):Nat):Int):=by omega
  obtain⟨bF,dT,fA,nJ⟩:=alZ (P:=ao) (t:=24) (q:=min l.length (17792-o)) (kd:= .i64) Tryd.underlying24 (s:=1) (by kernel_rfl) B yR (by omega)
  have sm:rowOf bF=rowOf x:=by
   rcases B.2 with⟨_,rfl⟩|⟨k1,ob,cap,lo,m,rfl,_,_⟩
   ·simp at Ef
   ·obtain⟨r4,iz,iD,_⟩:=aiq (P:=ao) (t:=24) (q:=min l.length (17792-o)) (kd:= .i64) Tryd.underlying24 (s:=1) (by kernel_rfl) yR (by omega);rw[iD] at dT;cases dT;rfl
  have fR:(ez o l).length=min l.length (17792-o):=by simp[ez]
  obtain⟨h1,dd,bX,ie,yg,aL⟩:=aE6 (lf:=lf) (N:=N) (now:=now) (us:=us) nW j4 yh hi (off:=o) (x:=bF) (l:=ez o l) nJ (λj aa=>ji j (by rw[<- sm];exact aa)) (by omega) (λx0 x2 aU x12 h=>zO C lf qF x0 x2 aU x12 h)
   (ez o l).length 0 (by omega) (by omega) lf (by omega) h s A M jt O fA (λj aa=>ax j (by rw[<- sm];exact aa))
  have hw:jG n i o (ez o l) (ez o l).length 0 s=dU n i o l s:=rfl;rw[hw] at dd bX ie
  have mid:xi C lf qF (some (.ptr T.a3 0)) (some (I (o:Int))) (some x) (some (.ptr T.aK (i*308))) h=zO C lf qF (some (.ptr T.a3 0)) (some (I (o:Int))) (some (.ptr T.aK (i*308))) (some (I ((dU n i o l s).2:Int))) h1:=by
   unfold xi B2;simp only[aA,d1,hlen h x l B,d2,d3];unfold Uv Uu;simp only[aA,hlen h x l B,ak,MB,wV,dT];unfold Ut Us Ur;exact dd
  rw[mid];obtain⟨cP,cV,fh,gD⟩:=Gm (n:=n) (N:=N) (i:=i) (off:=o) (l:=ez o l) (by omega) (i':=i) (c:=5) hi (by omega) (ez o l).length 0 s (by omega) ⟨M,A.st.iF⟩;rw[hw] at cP cV fh gD;by_cases aX:(dU n i o l s).2=0
  ·refine⟨h1,aL,yg,λ_=>⟨?_,bX,ie⟩,λe=>absurd aX e⟩;have d4:decide (((dU n i o l s).2:Int)=0)=true:=bu (by omega);unfold zO qF;simp only[aA,d4]
  ·have d4:decide (((dU n i o l s).2:Int)=0)=false:=br (by omega);have m7:=bX.dO i 5 hi (by omega);rw[cP,dP] at m7;have iO:IntKind.i64.wrap ((o:Int)+((dU n i o l s).2:Int))=((o+(dU n i o l s).2:Nat):Int):=cD (by omega);have ap5:max (sz:Int) ((o+(dU n i o l s).2:Nat):Int)=((max sz (o+(dU n i o l s).2):Nat):Int):=by omega
   generalize zi:max sz (o+(dU n i o l s).2)=L3 at *;have rF:=xz bX (i:=i) (c:=5) (y:=I (L3:Int)) hi (by omega) rfl rfl;have dh:=bX.setNode (i:=i) (c:=5) (y:=I (L3:Int)) hi (by omega) (by omega);have bw:aD h1 (h1.set T.aK (i*308+5) [I (L3:Int)]) (· =T.aK):=fj rfl;generalize gf:h1.set T.aK (i*308+5) [I (L3:Int)]=h2 at *;obtain⟨h3,cm,ft,e6,c2⟩:=NH h2 T n N _ _ now us _ i dh hi;have YL:aD h1 h3 (· =T.aK):=bw.trans c2;refine⟨h3,aL.trans (YL.ei λ_ e=> .inr (.inr e)),yg.dm YL (Nat.lt_of_lt_of_le O.g aL.next) (λe=>O.aO.n e),λe=>absurd e aX,λ_=>⟨?_,ft,ie.grown _ _ _⟩⟩;have az:i*308+1+4=i*308+5:=Nat.add_assoc _ 1 4;unfold zO qF;simp only[aA,d4,az,m7,iO,aFY,ap5,rF,cm]
end
noncomputable section
variable{C:ad}{lf:Nat}{ba a0 eA fz jU k3 q4 q5 q6 q7 q8 q9 q1 q2 q3:hp}{an:lj}
noncomputable def qP:b1 ao:=⟨40,Tryd.f40,λr=>bif Nat.beq r 13 then .ord [0,1,2,4,5,6,7,8,3,9,10] [(9,[3])] else .text,Tryd.func40,by kernel_rfl,by kernel_rfl,by kernel_rfl,by kernel_rfl⟩
noncomputable def n6(aG:O)(h:J):ab:=
 ob aG λa=>some (.ret a,h)
def B4(C:ad)(lf:Nat)(r:aw)(x0 x2 x7:O)(h:J):ab:=
 ob x7 λa=>ob x2 λb=>ef 1 a λa=>ob (bZ 4 a) λa=>ob (st 1 a b h) λk=>a1 C 77 x0 x7 k λa=>r (bD 0)
theorem awc{r:aw}:∀F h,ar qP C lf [1,1,1,1,1] F h ba (aM r 6) an=bG (B4 C lf r) 0 2 7 F h:=by
 intro F h;kernel_rfl
def Fm(C:ad)(lf:Nat)(n:bK)(x0 x2 x7:O)(h:J):ab:=
 cB .rem 3 x2 (I 64) λa=>eH .gtr 3 a (I 0) (ob x7 λb=>cB .quo 3 x2 (I 64) λc=>cJ C 76 [b,c] h λb k=>ob (ev b) λb=>ob (bO b k) λb=>eH .gtr 3 b (I 0) (e9 0 x0 λc=>cn .sub 3 b (I 1) λb=>cn .sub 3 (I 64) a λd=>ob (bO c k) λg=>b2 (nN ao 24 d d k) λd l=>dM (ey [(3,bU (some c))] k l [3]) (cM (C (.fn 18) [g,b,a,d] l) λa=>n x0 x2 x7)) (n x0 x2 x7 k)) (n x0 x2 x7 h)
theorem awd{n:bK}:∀F h,ar qP C lf [1,1,1,1,0] F h (bG n 0 2 7) a0 an=bG (Fm C lf n) 0 2 7 F h:=by
 intro F h;kernel_rfl
def agD(C:ad)(lf:Nat)(r:aw)(x0 x2 x7:O)(h:J):ab:=
 Fm C lf (B4 C lf r) x0 x2 x7 h
theorem awe{r:aw}:∀F h,ar qP C lf [1,1,1,1] F h ba (aM r 6) an=bG (agD C lf r) 0 2 7 F h:=bg (by kernel_rfl) awc awd
def Ux(C:ad)(lf:Nat)(n:bK)(x0 x2 x7:O)(h:J):ab:=
 ob x0 λa=>ob x7 λb=>cB .add 3 x2 (I 64) λc=>cn .sub 3 c (I 1) λc=>cn .quo 3 c (I 64) λc=>cJ C 78 [a,b,c] h λa=>n x0 x2 x7
theorem awf{n:bK}:∀F h,ar qP C lf [1,1,1,0] F h (bG n 0 2 7) a0 an=bG (Ux C lf n) 0 2 7 F h:=by
 intro F h;kernel_rfl
def B5(C:ad)(lf:Nat)(r:aw)(x0 x2 x7:O)(h:J):ab:=
 Ux C lf (agD C lf r) x0 x2 x7 h
theorem awg{r:aw}:∀F h,ar qP C lf [1,1,1] F h ba (aM r 6) an=bG (B5 C lf r) 0 2 7 F h:=bg (by kernel_rfl) awe awf
def xj(C:ad)(lf:Nat)(n:bK)(r:aw)(x0 x2 x7 x8:O)(h:J):ab:=
 hC .neq 26 x8 (I 0) (ob x8 λa=>r (some a) h) (hC .lss 3 x2 (I 0) (r (bD 22) h) (hC .gtr 3 x2 (I 17792) (r (bD 27) h) (n x0 x2 x7 h)))
theorem awh{n:bK}{r:aw}:∀F h,ar qP C lf [1,1,0] F h (bG n 0 2 7) (aM r 6) an=bj (xj C lf n r) 0 2 7 8 F h:=by
 intro F h;kernel_rfl
def agE(C:ad)(lf:Nat)(r:aw)(x0 x2 x7 x8:O)(h:J):ab:=
 xj C lf (B5 C lf r) r x0 x2 x7 x8 h
theorem awi{r:aw}:∀F h,ar qP C lf [1,1] F h ba (aM r 6) an=bj (agE C lf r) 0 2 7 8 F h:=bg (by kernel_rfl) awg awh
def KM(C:ad)(lf:Nat)(n:bo)(x0 x1 x2:O)(h:J):ab:=
 a1 C 74 x0 x1 h λa k=>cy a λa b=>n x0 x2 (some a) (some b) k
theorem awj{n:bo}:∀F h,ar qP C lf [1,0] F h (bj n 0 2 7 8) a0 an=bG (KM C lf n) 0 1 2 F h:=by
 intro F h;kernel_rfl
def KN(C:ad)(lf:Nat)(r:aw)(x0 x1 x2:O)(h:J):ab:=
 KM C lf (agE C lf r) x0 x1 x2 h
theorem awk{r:aw}:∀F h,ar qP C lf [1] F h ba (aM r 6) an=bG (KN C lf r) 0 1 2 F h:=bg (by kernel_rfl) awi awj
noncomputable def KO(C:ad)(lf:Nat)(n:bK)(x0 x1 x2:O)(h:J):ab:=
 n x0 x1 x2 h
theorem awl{n:bK}:∀F h,ar qP C lf [0] F h (bG n 0 1 2) a0 an=bG (KO C lf n) 0 1 2 F h:=by
 intro F h;kernel_rfl
def KP(C:ad)(lf:Nat)(r:aw)(x0 x1 x2:O)(h:J):ab:=
 KO C lf (KN C lf r) x0 x1 x2 h
theorem awm{r:aw}:∀F h,ar qP C lf [] F h ba (aM r 6) an=bG (KP C lf r) 0 1 2 F h:=bg (by kernel_rfl) awk awl
def tA(C:ad)(lf:Nat)(ah aj aC:U)(h:J):ab:=KP C lf n6 (some ah) (some aj) (some aC) h
def acF:cx ao:=nX qP tA (λC lf ah aj aC h=>cS (K:=(aM n6 6)) (by kernel_rfl) (Eq.trans (awm _ h) (by kernel_rfl))) (by kernel_rfl)
def abL:b1 ao:=dk 51 Tryd.f51 Tryd.func51 (by kernel_rfl)
noncomputable def Pe(bC eD:O)(h:J):ab:=
 ob bC λa=>ob eD λb=>some (.ret (.bm [a,b]),h)
def UO(C:ad)(lf:Nat)(r:aS)(x0 x1:O)(h:J):ab:=
 a1 C 74 x0 x1 h λa k=>cy a λa b=>eH .neq 26 b (I 0) (r (some (.val (.slice none 0 0))) (some b) k) (cJ C 79 [a] k λa=>r (some a) (bD 0))
theorem awU{r:aS}:∀F h,ar abL C lf [] F h ba (a7 r 4 5) an=a7 (UO C lf r) 0 1 F h:=by
 intro F h;kernel_rfl
def Dv(C:ad)(lf:Nat)(ah aj:U)(h:J):ab:=UO C lf Pe (some ah) (some aj) h
def acP:cx ao:=hr abL Dv (λC lf ah aj h=>cS (K:=(a7 Pe 4 5)) (by kernel_rfl) (Eq.trans (awU _ h) (by kernel_rfl))) (by kernel_rfl)
def Ba:b1 ao:=dk 93 Tryd.f93 Tryd.func93 (by kernel_rfl)
noncomputable def PI(h:J):ab:=
 some (.ret (.bm []),h)
def FK(C:ad)(lf:Nat)(n:bo)(av:cu)(x1 eD aG x7:O)(h:J):ab:=
 lb .lss 3 x7 aG (ob eD λa=>sG 1 a x7 h λa=>eH .gtr 3 a (I 0) (ob x1 λb=>ob (bO b h) λb=>cn .sub 3 a (I 1) λa=>b2 (gp ao 33 1 [0] [a] h) λa k=>b2 (eX ao .append #[33,33] [b,a] k) λa k=>ob x1 λb=>ob (st 1 b a k) λk=>cB .add 3 x7 (I 1) λa=>n x1 eD aG (some a) k) (cB .add 3 x7 (I 1) λa=>n x1 eD aG (some a) h)) (av h)
theorem azZ{n:bo}{av:cu}:∀F h,ar Ba C lf [1,0,0] F h (bj n 1 5 6 7) a0 (bI 0 (ed av) an)=bj (FK C lf n av) 1 5 6 7 F h:=by
 intro F h;kernel_rfl
def BQ(C:ad)(lf:Nat)(av:cu)(k:O×O×O×O->J->ab)(s:O×O×O×O)(h:J):ab:=
 FK C lf (λa b c d=>k (a,b,c,d)) av s.1 s.2.1 s.2.2.1 s.2.2.2 h
def WZ(C:ad)(lf:Nat)(n:bo)(x0 x1:O)(h:J):ab:=
 ob x0 λa=>jX 33 a λb=>n x1 (some a) (some b) (bD 0) h
theorem az0{n:bo}:∀F h,ar Ba C lf [0] F h (bj n 1 5 6 7) a0 an=a7 (WZ C lf n) 0 1 F h:=by
 intro F h;kernel_rfl
def W0(C:ad)(lf:Nat)(n:cu)(x0 x1:O)(h:J):ab:=
 WZ C lf (λa b c d=>bk (BQ C lf n) lf (a,b,c,d)) x0 x1 h
theorem az1{n:cu}:∀F h,ar Ba C lf [] F h (ed n) a0 an=a7 (W0 C lf n) 0 1 F h:=bg (b:=b7 Ba [1]) (by kernel_rfl) (fY (id:=0) (a:=b7 Ba [1,0]) (by kernel_rfl) (gJ (g:=λF=>(F 1,F 5,F 6,F 7)) (body:=BQ C lf n) (by kernel_rfl) (λk=>(azZ (n:=λx1 eD aG x7 h=>k (x1,eD,aG,x7) h))))) (az0 (n:=λx1 eD aG x7 h=>bk (BQ C lf n) lf (x1,eD,aG,x7) h))
def I6(C:ad)(lf:Nat)(ah aj:U)(h:J):ab:=W0 C lf PI (some ah) (some aj) h
def adn:cx ao:=hr Ba I6 (λC lf ah aj h=>cS (K:=(ed PI)) (by kernel_rfl) (Eq.trans (az1 _ h) (by kernel_rfl))) (by kernel_rfl)
end
section
variable{lf:Nat}{n N i:Nat}{s:dC}
theorem abg{n:Nat}{f:Nat->Bool}(h:∀j,j<n->f j=true):((List.range n).filter f).length=n:=by
 rw[List.filter_eq_self.2 λj aa=>h j (List.mem_range.1 aa)];simp
def zC:Nat->Nat->U:=iE (λ_=>fJ) 0 (mF ((0+1:Nat):Int) 0 0 33152 0)
def aEL:Nat->Bool:=da (λ_=>false) 0 true
def s1:dC:=⟨λ_=>0,λ_=>0,zC,λ_ _=>0⟩
end
end Go.Proofs.YtomialandfplkaaDoor.Eva
namespace Go.Xe
section
variable{H:Type}{enc:TypeId×Value->H}
end
section
open Go.ChangeShapes Go.WideShapes Go.ChangeAt Go.RowKit
section
variable{P:Program}{H:Type}{enc:TypeId×Value->H}{w:World}
theorem ajm{e:TypeId}:∀{l:List (DataW H)} {d:DataW H},d∈l->∀n∈d.weights P e,n∈DataW.weightsAll P e l
 |hQ::r,d,aI,n,aR=>by
  simp only[DataW.weightsAll,List.mem_append];rcases List.mem_cons.1 aI with rfl|h
  ·exact Or.inl aR
  ·exact Or.inr (ajm h n aR)
def mV(P:Program)(t:TypeId)(d:DataW H):Prop:=∀n∈d.weights P t,n<=140737488351232
theorem aE8{c8:List TypeId}{bq:List (DataW H)}{j:Nat}{t:TypeId}{d:DataW H}(h:(DataW.weightsEach P c8 bq).all (· <=reachBytes)=true)(aN:c8[j]?=some t)(aI:bq[j]?=some d):mV P t d:=λn aR=>by
 have:=List.all_eq_true.1 h _ (DataW.weights_mem_each aN aI n aR)
 have aQ:reachBytes=140737488351232:=rfl;rw[aQ] at this;simpa using this
theorem mV.len{t e:TypeId}{el sp:List (DataW H)}(h:mV P t (.slice el sp))(hu:P.underlying t=some (.slice e)):(el.length+sp.length)*P.bytesOf e<=140737488351232:=
 h _ (by simp[DataW.weights,hu])
theorem mV.elem{t e:TypeId}{el sp:List (DataW H)}(h:mV P t (.slice el sp))(hu:P.underlying t=some (.slice e)){x:DataW H}(ax:x∈el):mV P e x:=λn aR=>
 h n (by
   simp only[DataW.weights,hu,List.mem_cons,List.mem_append]
   exact .inr (.inl (ajm ax n aR)))
theorem mV.field{t:TypeId}{gb:Array Field}{bq:List (DataW H)}(h:mV P t (.agg bq))(hu:P.underlying t=some (.struct gb)){i:Nat}{f:Field}{d:DataW H}(au:gb[i]?=some f)(aI:bq[i]?=some d):mV P f.type d:=λn aR=>
 h n (by
   simp only[DataW.weights,hu]
   exact DataW.weights_mem_each (j:=i) (by simp[au]) aI n aR)
theorem mV.str{t:TypeId}{bytes:List UInt8}(h:mV P t (.lit (.string bytes):DataW H)):bytes.length<=140737488351232:=h _ (by simp[DataW.weights])
theorem aCV{t e s fuel:Nat}{v:Value}{d:DataW H}{ps:List MemPlace}(aN:P.underlying t=some (.slice e))(ak:P.cellsOf e=s)(h1:1<=s)
 (au:DataW.trod enc P w 0 (λ_=>true) true fuel t [v]=some (d,ps)):
 vo w.heap.size v=lift w.heap.size v/\((lift w.heap.size v= .val (.slice none 0 0)/\d= .nil)\/(lift w.heap.size v= .la 0/\d= .slice [] [])\/
  ∃(id off len cap:Nat) (m:qv) (el sp:List (DataW H)),lift w.heap.size v= .aF id off len (some cap) 0/\len<=cap/\(hf w).mt id=some m/\d= .slice el sp/\el.length=len/\
   ∀i,i<len->∃(cs:List Value) (tB:Nat) (hQ:DataW H) (rr:List MemPlace),cs.length=s/\el[i]?=some hQ/\(∀j,j<s->(hf w).cell id (off+i*s+j)=(cs[j]?).map (lift w.heap.size))/\
    DataW.trod enc P w 0 (λ_=>true) true tB e cs=some (hQ,rr)):=by
 subst ak;rcases DataW.trod_slice aN au with⟨en,ax⟩|⟨a,len,cap,elems,rest,n,_,en,ax,_,aJ,hm,hlen,jR,wZ,_⟩
 ·simp only[List.cons.injEq,and_true] at en;subst en;exact⟨rfl,.inl ⟨rfl,(Prod.mk.inj ax).1⟩⟩
 ·simp only[List.cons.injEq,and_true] at en;subst en;refine⟨rfl,.inr ?_⟩;have aI:=(Prod.mk.inj ax).1;obtain⟨qY,vh⟩:=wZ rfl;by_cases h0:len=0/\cap=0
  ·obtain⟨rfl,rfl⟩:=h0;have az:elems=[]:=List.length_eq_zero_iff.1 hlen;have ay:rest=[]:=List.length_eq_zero_iff.1 (by simpa using qY);rw[az,ay] at aI;exact .inl ⟨rfl,aI⟩
  ·have aB:0<cap:=by omega
   obtain⟨id,off,spot⟩:=a
   have first:∃cs,w.cells? 0 (Addr.add ⟨id,off,spot⟩ 0) (P.cellsOf e)=some cs:=by
    by_cases va:0<len
    ·have h2:=jR 0 va;have h3:0<elems.length:=by omega
     rw[List.getElem?_eq_getElem h3] at h2;obtain⟨cs,g1,_⟩:=Option.bind_eq_some_iff.1 h2;exact⟨cs,by simpa using g1⟩
    ·have va:len=0:=by omega
     have h2:=vh 0 (by omega);have h3:0<rest.length:=by omega
     rw[List.getElem?_eq_getElem h3] at h2;obtain⟨cs,g1,_⟩:=Option.bind_eq_some_iff.1 h2;rw[va] at g1;exact⟨cs,by simpa using g1⟩
   obtain⟨cG,mz⟩:=first
   obtain⟨_,aeg,fQ⟩:=World.cells?_some mz;have D0:=fQ 0 (by omega);have ap2:0<cG.length:=by omega
   rw[List.getElem?_eq_getElem ap2] at D0;have ak:spot=none:=NQ (NQ (World.cell?_spot D0));subst ak;rw[yj,yj] at D0;have tN:id<w.heap.size:=ZX D0;obtain⟨m,za⟩:=aeF D0;refine .inr ⟨id,off,len,cap,m,_,_,ae5 (off:=off) tN h0,aJ,za,aI,by simpa using hlen,λi hi=>?_⟩;have h2:=jR i hi;have h3:i<elems.length:=by omega
   rw[List.getElem?_eq_getElem h3] at h2;obtain⟨cs,g1,g2⟩:=Option.bind_eq_some_iff.1 h2;obtain⟨_,k1,k2⟩:=World.cells?_some g1;refine⟨cs,n,elems[i].1,elems[i].2,k1,by simp[List.getElem?_eq_getElem h3],λj aa=>?_,g2⟩
   have:=k2 j aa
   rw[yj,yj] at this;rw[Rm,this]
theorem an2{t fuel i:Nat}{gb:Array Field}{cs:List Value}{d:DataW H}{ps:List MemPlace}{f:Field}(aN:P.underlying t=some (.struct gb))(h:DataW.trod enc P w 0 (λ_=>true) true fuel t cs=some (d,ps))(au:gb[i]?=some f):
 ∃(tB:Nat) (bq:List (DataW H)) (hQ:DataW H) (rr:List MemPlace),d= .agg bq/\bq[i]?=some hQ/\DataW.trod enc P w 0 (λ_=>true) true tB f.type ((cs.drop f.offset).take (P.cellsOf f.type))=some (hQ,rr):=by
 obtain⟨xs,n,_,ax,_,aJ,gd⟩:=DataW.trod_struct aN h;have h1:=gd i f au
 have hi:i<xs.length:=by
  rw[aJ];exact(Array.getElem?_eq_some_iff.1 au).1
 rw[List.getElem?_eq_getElem hi] at h1;exact⟨n,_,xs[i].1,xs[i].2,(Prod.mk.inj ax).1,by simp[List.getElem?_eq_getElem hi],h1⟩
theorem asz{t fuel o:Nat}{cs:List Value}{d:DataW H}{ps:List MemPlace}(aJ:o<cs.length)(h:DataW.trod enc P w 0 (λ_=>true) true fuel t ((cs.drop o).take 1)=some (d,ps)):
 ∃v,cs[o]?=some v/\DataW.trod enc P w 0 (λ_=>true) true fuel t [v]=some (d,ps):=by
 have:(cs.drop o).take 1=[cs[o]]:=by
  rw[List.drop_eq_getElem_cons aJ];rfl
 rw[this] at h;exact⟨cs[o],List.getElem?_eq_getElem aJ,h⟩
theorem tz{t ty fuel i o:Nat}{gb:Array Field}{cs:List Value}{d:DataW H}{ps:List MemPlace}{f:Field}(aN:P.underlying t=some (.struct gb))(h:DataW.trod enc P w 0 (λ_=>true) true fuel t cs=some (d,ps))(au:gb[i]?=some f)
 (tV:f.type=ty)(aq:f.offset=o)(ae:P.cellsOf ty=1)(aJ:o<cs.length):
 ∃(v:Value) (tB:Nat) (bq:List (DataW H)) (hQ:DataW H) (rr:List MemPlace),cs[o]?=some v/\d= .agg bq/\bq[i]?=some hQ/\DataW.trod enc P w 0 (λ_=>true) true tB ty [v]=some (hQ,rr):=by
 obtain⟨ON,bq,hQ,rr,h1,h2,h3⟩:=an2 aN h au;rw[tV,aq,ae] at h3;obtain⟨v,aT,bz⟩:=asz aJ h3;exact⟨v,ON,bq,hQ,rr,aT,h1,h2,bz⟩
theorem mV.tz{t ty i:Nat}{gb:Array Field}{f:Field}{bq:List (DataW H)}{d:DataW H}(h:mV P t (.agg bq))(hu:P.underlying t=some (.struct gb))(au:gb[i]?=some f)(tV:f.type=ty)(aI:bq[i]?=some d):mV P ty d:=by
 rw[<- tV];exact h.field hu au aI
theorem zk{t fuel:Nat}{k:IntKind}{v:Value}{d:DataW H}{ps:List MemPlace}(aN:P.underlying t=some (.int k))(h:DataW.trod enc P w 0 (λ_=>true) true fuel t [v]=some (d,ps)):
 ∃n,v= .int k n/\k.min<=n/\n<=k.max:=by
 obtain⟨n,h1,_,hw⟩:=DataW.trod_int aN h;simp only[List.cons.injEq,and_true] at h1;exact⟨n,h1,by simpa[Lit.wf] using hw⟩
theorem aCS{t e s j:Nat}{v:Value}{d:DataW H}{ps:List MemPlace}{r:Reach}{wi:Nat}{c8:List TypeId}{bq:List (DataW H)}(aN:P.underlying t=some (.slice e))(ak:P.cellsOf e=s)(h1:1<=s)
 (vj:Value.okWide P w r wi t v)(h:DataW.Trod enc P w 0 (λ_=>true) true t v d ps)(Ri:c8[j]?=some t)(QP:bq[j]?=some d)(aX:(DataW.weightsEach P c8 bq).all (· <=reachBytes)=true):
 GF (vo w.heap.size v)\/
  ∃(id off len cap:Nat) (m:qv),vo w.heap.size v= .aF id off len (some cap) 0/\len<=cap/\(hf w).mt id=some m/\len*P.bytesOf e<=140737488351232/\
   ∀i,i<len->∃(cs:List Value) (tB:Nat) (hQ:DataW H) (rr:List MemPlace),cs.length=s/\mV P e hQ/\(∀j,j<s->(hf w).cell id (off+i*s+j)=(cs[j]?).map (lift w.heap.size))/\
    DataW.trod enc P w 0 (λ_=>true) true tB e cs=some (hQ,rr):=by
 have aeH:=aE8 aX Ri QP;obtain⟨fuel,au⟩:=h;obtain⟨ah,ars,jw,rfl⟩:=okWide_slice aN vj;have au:DataW.trod enc P w 0 (λ_=>true) true fuel t [.slice ah ars jw]=some (d,ps):=au;obtain⟨av,az⟩:=aCV aN ak h1 au;rw[av];rcases az with⟨az,rfl⟩|⟨az,rfl⟩|⟨id,off,len,cap,m,el,sp,az,aeg,hm,rfl,hlen,gd⟩
 ·exact .inl (.inl az)
 ·exact .inl (.inr ⟨_,az⟩)
 ·have h3:=aeH.len aN;have aT:len*P.bytesOf e<=(el.length+sp.length)*P.bytesOf e:=Nat.mul_le_mul_right _ (by omega);refine .inr ⟨id,off,len,cap,m,az,aeg,hm,by omega,λi hi=>?_⟩;obtain⟨cs,tB,hQ,rr,g1,g2,g3,g4⟩:=gd i hi;exact⟨cs,tB,hQ,rr,g1,aeH.elem aN (List.mem_of_getElem? g2),g3,g4⟩
theorem al2{t e fuel:Nat}{v:Value}{d:DataW H}{ps:List MemPlace}(aN:P.underlying t=some (.slice e))(he:P.underlying e=some (.int .u8))(ae:P.cellsOf e=1)(ag:P.bytesOf e=1)
 (au:DataW.trod enc P w 0 (λ_=>true) true fuel t [v]=some (d,ps))(hw:mV P t d):
 ∃l:List Nat,Bytes (hf w) (lift w.heap.size v) l/\mQ (lift w.heap.size v)/\l.length<=140737488351232:=by
 obtain⟨l,B,C,_,aI⟩:=al1 aN he ae au;refine⟨l,B,C,?_⟩;rcases aI with⟨_,rfl⟩|⟨el,sp,rfl,aJ⟩
 ·simp
 ·have:=hw.len aN
  rw[ag] at this;omega
end
theorem Z3{α:Type}{p:Nat->α->Prop}:∀{n:Nat},(∀i,i<n->∃a,p i a)->∃L:List α,L.length=n/\∀i (hi:i<L.length),p i L[i]
 |0,_=>⟨[],rfl,λi hi=>by simp at hi⟩
 |n+1,h=>by
  obtain⟨L,h1,h2⟩:=Z3 (p:=p) (n:=n) λi hi=>h i (by omega)
  obtain⟨a,bV⟩:=h n (by omega);refine⟨L++[a],by simp[h1],λi hi=>?_⟩;by_cases aR:i<L.length
  ·rw[List.getElem_append_left aR];exact h2 i aR
  ·have:i=n:=by simp at hi;omega
   subst this;rw[List.getElem_append_right (by omega)];simpa[h1] using bV
end
section
variable{P:Program}{t u e b:Nat}{h:J}{c:U}{n k off len lo:Nat}{cap:Option Nat}
structure ML (P:Program) (t u e b:Nat) (c:U):Prop where
 hu:P.underlying t=some (.slice e)
 ak:eg P e=some 1
 aX:∃z,gC P e=some z/\(c1 z).cells=[c]
 ag:oG P e=some b
 hi:∃k,P.underlying u=some (.int k)
 h1:c.one=true
theorem aFX{kd:IntKind}(T:ML P t u e b c)(h1:n<=140737488355328)(h2:n*b<=140737488355328):
 eX P .append #[t,u] [.aF k off len cap lo,.int kd (n:Int)] h=ax (kR e 1 b k off len cap lo n (List.replicate n c) h.x0):=by
 obtain⟨hu,ak,⟨z,aX,oq⟩,ag,⟨ov,hi⟩,fl⟩:=T
 have av:ja P .append #[t,u] [.aF k off len cap lo,.int kd (n:Int)] h.x0=qh P t (.aF k off len cap lo) (.int kd (n:Int)) h.x0:=by
  show(match P.underlying u with|some d=>bif sF d then po P t _ _ h.x0 else(bif vM d then qh P t _ _ h.x0 else none)|none=>none)=_;simp only[hi,sF,vM,cond_false,cond_true]
 have aP:(Nat.beq 1 1&&(c.one&&(Nat.ble n 140737488355328&&Nat.ble (n*b) 140737488355328)))=true:=by
  rw[fl,Nat.ble_eq_true_of_le h1,Nat.ble_eq_true_of_le h2];rfl
 unfold eX;rw[av]
 show ax (match P.underlying t,U.int kd (Int.ofNat n) with
  |some (.slice e),.int _ (.ofNat n)=>match eg P e,gC P e,oG P e with
   |some sz,some z,some b=>match (c1 z).cells with
    | [c]=>bif Nat.beq sz 1&&(c.one&&(Nat.ble n 140737488355328&&Nat.ble (n*b) 140737488355328)) then kR e 1 b k off len cap lo n (List.replicate n c) h.x0 else none
    |_=>none
   |_,_,_=>none
  |_,_=>none)=_
 simp only[hu,ak,aX,ag,oq,aP,cond_true]
theorem Zz{sz cp N:Nat}{news:List U}(hw:h.wr k N)(jQ:off+(len+n)*sz<=N)(ae:len+n<=cp):
 ax (kR e sz b k off len (some cp) lo n news h.x0)=some (.aF k off (len+n) (some cp) lo,h.set k (off+len*sz) news):=by
 obtain⟨m,hm,aQ,aR⟩:=hw;unfold J.mt at hm;cases aq:h.aV.get k with
 |none=>simp[aq] at hm
 |some o=>
  simp only[aq,Option.some.injEq] at hm;subst hm;simp only[bH.mt] at aQ aR;have bY:Nat.ble (len+n) cp=true:=Nat.ble_eq_true_of_le ae;have b2:(Nat.ble (off+(len+n)*sz) o.n&&!o.ro)=true:=by rw[Nat.ble_eq_true_of_le (by omega),aQ];rfl
  simp only[kR,J.py,aq,force_eq,bY,cond_true,oS,b2];unfold J.set;simp only[aq,ET,aQ];rfl
theorem ale{sz cp N d:Nat}{y:U}{news:List U}(T:mf P t u e sz d)(he:jv h.x0 sz y=some (n,news))(gq:news.length=n*sz)(fm:dB news=true)(hw:h.wr k N)(jQ:off+(len+n)*sz<=N)(ae:len+n<=cp):
 eX P .append #[t,u] [.aF k off len (some cp) lo,y] h=some (.aF k off (len+n) (some cp) lo,h.set k (off+len*sz) news):=
 (Cx T he gq fm).trans (Zz hw jQ ae)
theorem ald{kd:IntKind}{cp N:Nat}(T:ML P t u e b c)(h1:n<=140737488355328)(h2:n*b<=140737488355328)(hw:h.wr k N)(jQ:off+(len+n)<=N)(ae:len+n<=cp):
 eX P .append #[t,u] [.aF k off len (some cp) lo,.int kd (n:Int)] h=some (.aF k off (len+n) (some cp) lo,h.set k (off+len) (List.replicate n c)):=by
 have:=(aFX (h:=h) (k:=k) (off:=off) (len:=len) (cap:=some cp) (lo:=lo) (kd:=kd) T h1 h2).trans (Zz hw (by omega) ae)
 rwa[Nat.mul_one] at this
end
end Go.Xe
namespace Go.Proofs.YtomialandfplkaaDoor.Eva
open Go.Xe
def oT(s:dC)(i p:Nat):Nat:=if s.bl i (a5 (p/64))=0 then 0 else s.b ((s.bl i (a5 (p/64))-1)*64+p%64)
def qA(s:dC)(i off n:Nat):List Nat:=(List.range n).map λj=>oT s i (off+j)
theorem aah(s:dC)(i off n:Nat):(qA s i off n).length=n:=by simp[qA]
theorem amK(s:dC)(i off:Nat){n j:Nat}(aa:j<n):(qA s i off n).getD j 0=oT s i (off+j):=by simp[qA,List.getD,aa]
theorem ak7:mf ao 24 24 5 1 1:=
 ⟨Tryd.underlying24,by kernel_rfl,⟨.int .u8 0,by kernel_rfl,rfl⟩,by kernel_rfl,⟨_,Tryd.underlying24,rfl⟩,Nat.le_refl 1⟩
theorem alc:ML ao 24 3 5 1 (.int .u8 0):=
 ⟨Tryd.underlying24,by kernel_rfl,⟨.int .u8 0,by kernel_rfl,rfl⟩,by kernel_rfl,⟨_,Tryd.underlying3⟩,rfl⟩
theorem aGe{n j:Nat}(aa:j<n):(List.replicate n (U.int .u8 0))[j]?=some (.int .u8 0):=by simp[aa]
section
variable{lf:Nat}{h:J}{T:dS}{n N:Nat}{now:Int}{us:Nat->Bool}{s:dC}{i:Nat}
theorem aD.gB{h h1 h2:J}{k:Nat}(a:aD h h1 (λ_=>False))(b:aD h1 h2 (· =k))(ai:h.next<=k):aD h h2 (λ_=>False):=
 ⟨b.aO.trans a.aO,Nat.le_trans a.next b.next,λj aa _=>(b.same j (Nat.lt_of_lt_of_le aa a.next) (by omega)).trans (a.same j aa (λe=>e)),λau=>b.dm (a.dm au)⟩
theorem bt.fU{wd b:Nat->Nat}{nd:Nat->Nat->U}{h':J}(A:bt h T n N wd b now us nd)(F:aD h h' (λ_=>False)):bt h' T n N wd b now us nd:=
 A.frame F.next λj aa=>F.same j (by
  rcases aa with rfl|rfl|rfl|rfl
  ·exact A.lt
  ·exact A.st.sA
  ·exact A.st.ra
  ·exact A.k5) (λe=>e)
theorem aBm{C:ad}(nW:s8 C)(qx:Hc C)(hi:i<N){h0:J}{off cap:Nat}(A:bt h0 T n N s.wd s.b now us s.nd)(M:c3 n N s.wd s.nd s.bl)(jT:off+cap<=17792){k:Nat}(wT:h0.next<=k)(av:aw):
 ∀(g d:Nat),cap-d<=g->d<=cap->∀f,g<f->∀h,aD h0 h (λ_=>False)->k<h.next->h.wr k cap->(∀j,j<d->h.cell k j=some (.int .u8 ((oT s i (off+j):Nat):Int)))->
 ∃h',bk (EJ C lf av) f (some (.ptr T.a3 0),some (I ((off+d:Nat):Int)),some (.ptr T.aK (i*308)),some (I ((off+cap:Nat):Int)),some (.aF k 0 d (some cap) 0)) h=
    av (some (.aF k 0 cap (some cap) 0)) h'/\aD h0 h' (λ_=>False)/\k<h'.next/\h'.wr k cap/\(∀j,j<cap->h'.cell k j=some (.int .u8 ((oT s i (off+j):Nat):Int))):=by
 intro g
 induction g with
 |zero=>
  intro d bc aI f au h F ai hw ae;obtain⟨f,rfl⟩:=dx f (by omega);have QL:d=cap:=by omega
  subst QL;have a9:decide (((off+d:Nat):Int)<((off+d:Nat):Int))=false:=br (by omega);refine⟨h,?_,F,ai,hw,ae⟩;rw[df];unfold EJ Fp;simp only[aA,a9]
 |succ g bp=>
  intro d bc aI f au h F ai hw ae;obtain⟨f,rfl⟩:=dx f (by omega);rw[df];show ∃h',Fp C lf (λx0 x2 aU x12 ew h=>bk (EJ C lf av) f (x0,x2,aU,x12,ew) h) av (some (.ptr T.a3 0)) (some (I ((off+d:Nat):Int))) (some (.ptr T.aK (i*308))) (some (I ((off+cap:Nat):Int))) (some (.aF k 0 d (some cap) 0)) h=_/\_;unfold Fp;by_cases QN:d<cap
  ·have a9:decide (((off+d:Nat):Int)<((off+cap:Nat):Int))=true:=bu (by omega)
   have a2:IntKind.i64.wrap (((off+d:Nat):Int).tdiv 64)=(((off+d)/64:Nat):Int):=by
    rw[Int.tdiv_eq_ediv_of_nonneg (by omega),wrap_i64 (by omega) (by omega)];rfl
   have aQ:((off+d:Nat):Int).tmod 64=(((off+d)%64:Nat):Int):=by
    rw[Int.tmod_eq_emod_of_nonneg (by omega)];rfl
   have pZ:(off+d)/64<278:=by omega
   have adX:∀j,j<min (64-(off+d)%64) (cap-d)->oT s i (off+(d+j))=if s.bl i (a5 ((off+d)/64))=0 then 0 else s.b ((s.bl i (a5 ((off+d)/64))-1)*64+((off+d)%64+j)):=λj aa=>by
    unfold oT;rw[show(off+(d+j))/64=(off+d)/64 by omega,show(off+(d+j))%64=(off+d)%64+j by omega]
   generalize aGH:(off+d)/64=kk at *;generalize aGx:(off+d)%64=a at *;have bV:a<64:=by omega
   obtain⟨bM,cz⟩:=zM pZ;generalize aGJ:min (64-a) (cap-d)=m at *;have Eg:1<=m:=by omega
   have y7:m<=64-a:=by omega
   have y8:d+m<=cap:=by omega
   have JE:IntKind.i64.wrap (64-(a:Int))=((64-a:Nat):Int):=cD (by omega);have kE:IntKind.i64.wrap (((off+cap:Nat):Int)-((off+d:Nat):Int))=((cap-d:Nat):Int):=cD (by omega);have wV:min ((64-a:Nat):Int) ((cap-d:Nat):Int)=(m:Int):=by omega
   have Jo:IntKind.i64.wrap (((off+d:Nat):Int)+(m:Int))=((off+(d+m):Nat):Int):=cD (by omega);have apg:IntKind.i64.wrap ((a:Int)+(m:Int))=((a+m:Nat):Int):=cD (by omega);have iW:=A.fU F;have iQ:C (.fn 76) [.ptr T.aK (i*308),I (kk:Int)] h=some (.ret (.ptr T.aK (i*308+a5 kk)),h):=nW h T.aK (i*308) kk pZ;have ek:=iW.dO i (a5 kk) hi cz;rw[M.cell i _ hi bM cz] at ek;have hle:=M.le i (a5 kk);have fG:=A.st.ck;by_cases aX:s.bl i (a5 kk)=0
   ·have oe:decide ((0:Int)<((s.bl i (a5 kk):Nat):Int))=false:=br (by omega);have ji:=ald (h:=h) (k:=k) (off:=0) (len:=d) (lo:=0) (kd:= .i64) (n:=m) (cp:=cap) alc (by omega) (by omega) hw (by omega) y8;have aL:aD h (h.set k (0+d) (List.replicate m (.int .u8 0))) (· =k):=fj rfl
    obtain⟨h3,dd,dy⟩:=bp (d+m) (by omega) y8 f (by omega) (h.set k (0+d) (List.replicate m (.int .u8 0))) (F.gB aL wT) (by rw[dz];exact ai) (dY hw) (λj aa=>by
     by_cases QW:j<d
     ·rw[ep (.inr (.inl (by omega)))];exact ae j QW
     ·rw[fZ hw (by simp;omega) (by omega) (by simp;omega),aGe (by omega)]
      have:=adX (j-d) (by omega)
      rw[show d+(j-d)=j by omega,if_pos aX] at this
      rw[this];rfl)
    refine⟨h3,?_,dy⟩;simp only[aA,a9,lV (show(64:Int)≠0 by omega),a2,ih (show(64:Int)≠0 by omega),aQ,JE,kE,MB,wV,iQ,ek,oe,ji,Jo];rw[Nat.zero_add] at dd;exact dd
   ·have oe:decide ((0:Int)<((s.bl i (a5 kk):Nat):Int))=true:=bu (by omega);have e5:=M.on i (a5 kk) hi bM cz (by omega);have kD:IntKind.i64.wrap ((s.bl i (a5 kk):Int)-1)=((s.bl i (a5 kk)-1:Nat):Int):=cD (by omega)
    have jj:gS n s.wd ((s.bl i (a5 kk)-1:Nat):Int)=true:=by
     simp only[gS,Int.toNat_natCast,e5,Bool.and_true,Bool.and_eq_true,decide_eq_true_eq];omega
    obtain⟨h1,aP,cA,cP,g1,aL⟩:=(qx h T.bL T.kd n s.wd s.b ((s.bl i (a5 kk)-1:Nat):Int) iW.st (by omega) (by omega)).2 jj;rw[Int.toNat_natCast] at g1;generalize hv:s.bl i (a5 kk)-1=v at *;have QC:=A.st.blt;generalize oa:(List.range 64).map (λj=>s.b (v*64+j))=bI;have Bh:bI.length=64:=by rw[<- oa];simp
    have adU:∀j,j<64->bI.getD j 0=s.b (v*64+j):=λj aa=>by rw[<- oa];simp[List.getD,aa]
    have apk:∀c∈bI,c<256:=λc ae=>by
     rw[<- oa] at ae;obtain⟨j,_,rfl⟩:=List.mem_map.1 ae;exact QC _
    obtain⟨gT,y9,_⟩:=cP;have ic:Bytes h1 (.aF h.next 0 64 (some 64) 0) bI:=⟨apk,.inr ⟨h.next,0,some 64,0,gT,by rw[Bh],y9,λj aa=>by rw[Bh] at aa;rw[Nat.zero_add,g1 j aa,adU j aa]⟩⟩;obtain⟨bF,dT,fA,nJ⟩:=ZT (P:=ao) (t:=24) (lo:=a) (hi:=a+m) (k1:= .i64) (k2:= .i64) Tryd.underlying24 (s:=1) (by kernel_rfl) rfl ic (Nat.le_refl 64) (by omega) (by omega);rw[Nat.add_sub_cancel_left] at fA;have y4:((bI.drop a).take m).length=m:=by simp;omega
    have pe:h1.wr k cap:=by
     obtain⟨hH,aj,aC,a8⟩:=hw;exact⟨hH,by rw[(aL.same k ai (λe=>e)).mt];exact aj,aC,a8⟩
    have fl:∀j,j<d->h1.cell k j=some (.int .u8 ((oT s i (off+j):Nat):Int)):=λj aa=>by rw[(aL.same k ai (λe=>e)).cell];exact ae j aa
    have jR:=HU fA;rw[y4] at jR;have ji:=ale (h:=h1) (k:=k) (off:=0) (len:=d) (lo:=0) (n:=m) (cp:=cap) (N:=cap) ak7 jR (by rw[sP,y4,Nat.mul_one]) (Mf _) pe (by omega) y8;rw[Nat.mul_one] at ji;generalize aeq:hD ((bI.drop a).take m)=zF at *;have gq:zF.length=m:=by rw[<- aeq,sP,y4]
    have bw:aD h1 (h1.set k (0+d) zF) (· =k):=fj rfl;have ajZ:aD h0 h1 (λ_=>False):=F.trans aL
    obtain⟨h3,dd,dy⟩:=bp (d+m) (by omega) y8 f (by omega) (h1.set k (0+d) zF) (ajZ.gB bw wT) (by rw[dz,cA];omega) (dY pe) (λj aa=>by
     by_cases QW:j<d
     ·rw[ep (.inr (.inl (by omega)))];exact fl j QW
     ·rw[fZ pe (by omega) (by omega) (by omega), <- aeq,Ge _ (by omega)]
      have:=adX (j-d) (by omega)
      rw[show d+(j-d)=j by omega,if_neg aX] at this;rw[this]
      have az:((bI.drop a).take m).getD (j-(0+d)) 0=bI.getD (a+(j-d)) 0:=by
       rw[Nat.zero_add];simp[List.getD,List.getElem?_take,show j-d<m by omega,List.getElem?_drop]
      rw[az,adU _ (by omega)])
    refine⟨h3,?_,dy⟩;have mz:=iW.cG;simp only[aA,a9,lV (show(64:Int)≠0 by omega),a2,ih (show(64:Int)≠0 by omega),aQ,JE,kE,MB,wV,iQ,ek,oe,mz,kD,aP,List.getElem?_cons_zero,List.getElem?_cons_succ,apg,dT,ji,Jo];rw[Nat.zero_add] at dd;exact dd
  ·have QL:d=cap:=by omega
   subst QL;have a9:decide (((off+d:Nat):Int)<((off+d:Nat):Int))=false:=br (by omega);refine⟨h,?_,F,ai,hw,ae⟩;simp only[aA,a9]
def yf(C:ad):Prop:=∀h T n N now us s i (off m:Int) (sz:Nat),bt h T n N s.wd s.b now us s.nd->c3 n N s.wd s.nd s.bl->i<N->us i=true->s.nd i 5=I (sz:Int)->sz<=17792->
 -9223372036854775808<=off->off<9223372036854775808-> -9223372036854775808<=m->m<9223372036854775808->
 ((off<0\/m<0)->C (.fn 41) [.ptr T.a3 0,I ((i+1:Nat):Int),I off,I m] h=some (.ret (.bm [.val (.slice none 0 0),I 22]),h))/\
 (0<=off->0<=m->(sz:Int)<=off->C (.fn 41) [.ptr T.a3 0,I ((i+1:Nat):Int),I off,I m] h=some (.ret (.bm [.val (.slice none 0 0),I 0]),h))/\
 (0<=off->0<=m->off<sz->∃h',C (.fn 41) [.ptr T.a3 0,I ((i+1:Nat):Int),I off,I m] h=
     some (.ret (.bm [.aF h.next 0 (min m.toNat (sz-off.toNat)) (some (min m.toNat (sz-off.toNat))) 0,I 0]),h')/\aD h h' (λ_=>False)/\h.next<h'.next/\h'.wr h.next (min m.toNat (sz-off.toNat))/\
     Bytes h' (.aF h.next 0 (min m.toNat (sz-off.toNat)) (some (min m.toNat (sz-off.toNat))) 0) (qA s i off.toNat (min m.toNat (sz-off.toNat))))
theorem aEx{C:ad}(gy:20000<=lf)(fu:mh C)(nW:s8 C)(qx:Hc C){off m:Int}{sz:Nat}(A:bt h T n N s.wd s.b now us s.nd)(M:c3 n N s.wd s.nd s.bl)(hi:i<N)(hu:us i=true)(dP:s.nd i 5=I (sz:Int))(so:sz<=17792)
 (dv: -9223372036854775808<=off)(cy:off<9223372036854775808)(hU: -9223372036854775808<=m)(hH:m<9223372036854775808):
 ((off<0\/m<0)->u3 C lf (.ptr T.a3 0) (I ((i+1:Nat):Int)) (I off) (I m) h=some (.ret (.bm [.val (.slice none 0 0),I 22]),h))/\
 (0<=off->0<=m->(sz:Int)<=off->u3 C lf (.ptr T.a3 0) (I ((i+1:Nat):Int)) (I off) (I m) h=some (.ret (.bm [.val (.slice none 0 0),I 0]),h))/\
 (0<=off->0<=m->off<sz->∃h',u3 C lf (.ptr T.a3 0) (I ((i+1:Nat):Int)) (I off) (I m) h=
     some (.ret (.bm [.aF h.next 0 (min m.toNat (sz-off.toNat)) (some (min m.toNat (sz-off.toNat))) 0,I 0]),h')/\aD h h' (λ_=>False)/\h.next<h'.next/\h'.wr h.next (min m.toNat (sz-off.toNat))/\
     Bytes h' (.aF h.next 0 (min m.toNat (sz-off.toNat)) (some (min m.toNat (sz-off.toNat))) 0) (qA s i off.toNat (min m.toNat (sz-off.toNat)))):=by
 have jQ:=A.gH;have bc:=fu h T n N s.wd s.b now us s.nd ((i+1:Nat):Int) A (by omega) (by omega);rw[Bu hi hu,if_pos rfl,show((i+1:Nat):Int).toNat-1=i by omega] at bc;have ca:decide ((0:Int)≠0)=false:=rfl
 have pre:u3 C lf (.ptr T.a3 0) (I ((i+1:Nat):Int)) (I off) (I m) h=zP C lf tx (some (.ptr T.a3 0)) (some (I off)) (some (I m)) (some (.ptr T.aK (i*308))) h:=by
  unfold u3 KY KX KW KV;simp only[cf,b8,ks,bc,qC,List.getElem?_cons_zero,List.getElem?_cons_succ];unfold KU KT;simp only[cf,b8,C0,ca,qs]
 rw[pre];refine⟨λag=>?_,λbY b2 ag=>?_,λbY b2 ag=>?_⟩
 ·unfold zP Fq tx;by_cases d1:off<0
  ·simp only[aA,bu d1]
  ·have d2:m<0:=by omega
   simp only[aA,br d1,bu d2]
 ·have d1:decide (off<0)=false:=br (by omega);have d2:decide (m<0)=false:=br (by omega);have m7:=A.dO i 5 hi (by omega);rw[dP] at m7;have az:i*308+1+4=i*308+5:=Nat.add_assoc _ 1 4;unfold zP Fq;simp only[aA,d1,d2];unfold KS KR tx;simp only[aA,az,m7,bu ag]
 ·obtain⟨o,rfl⟩:∃o:Nat,off=o:=⟨off.toNat,by omega⟩;obtain⟨q,rfl⟩:∃q:Nat,m=q:=⟨m.toNat,by omega⟩;rw[Int.toNat_natCast,Int.toNat_natCast];have d1:decide ((o:Int)<0)=false:=br (by omega);have d2:decide ((q:Int)<0)=false:=br (by omega);have d3:decide (((sz:Nat):Int)<=(o:Int))=false:=br (by omega);have m7:=A.dO i 5 hi (by omega);rw[dP] at m7;have az:i*308+1+4=i*308+5:=Nat.add_assoc _ 1 4;have kD:IntKind.i64.wrap (((sz:Nat):Int)-(o:Int))=((sz-o:Nat):Int):=cD (by omega);generalize wP:min q (sz-o)=cap at *
  have mid:zP C lf tx (some (.ptr T.a3 0)) (some (I (o:Int))) (some (I (q:Int))) (some (.ptr T.aK (i*308))) h=
   KQ C lf tx (some (.ptr T.a3 0)) (some (I (o:Int))) (some (.ptr T.aK (i*308))) (some (I ((o+cap:Nat):Int))) h:=by
   unfold zP Fq;simp only[aA,d1,d2];unfold KS KR;simp only[aA,az,m7,d3];unfold UD UC;simp only[aA,az,m7];unfold UB UA;by_cases d4:((q:Nat):Int)<((sz-o:Nat):Int)
   ·have b9:IntKind.i64.wrap ((o:Int)+(q:Int))=((o+cap:Nat):Int):=cD (by omega);simp only[aA,kD,bu d4,b9]
   ·have b9:((sz:Nat):Int)=((o+cap:Nat):Int):=by omega
    simp only[aA,kD,br d4];rw[b9]
  rw[mid];have ee:IntKind.i64.wrap (((o+cap:Nat):Int)-(o:Int))=((cap:Nat):Int):=cD (by omega)
  have kZ:=Ai (P:=ao) (t:=24) (e:=5) (s:=1) (b:=1) (z:= .int .u8 0) (k1:= .i64) (k2:= .i64) (l:=0) (c:=cap) (h:=h)
   Tryd.underlying24 (by kernel_rfl) (by kernel_rfl) (by kernel_rfl) (Nat.zero_le _) (by omega) (by omega) rfl (by omega)
  generalize aq:iU 5 (cap*1) (c1 (.int .u8 0)).cells=ob at *
  have hw:(h.new ob).wr h.next cap:=by
   have:=hW (h:=h) (o:=ob) (by rw[<- aq];rfl)
   rw[show ob.n=cap by rw[<- aq];exact Nat.mul_one _] at this;exact this
  obtain⟨h',dd,dy,fB,k8,mJ⟩:=aBm (lf:=lf) (C:=C) nW qx hi (h0:=h) (off:=o) (cap:=cap) A M (by omega) (k:=h.next) (Nat.le_refl _) (λew h=>Fo C lf tx ew h) cap 0 (by omega) (by omega) lf (by omega)
   (h.new ob) (aD.new _ _ _) (by simp) hw (λj aa=>by omega)
  obtain⟨gT,y9,aGI⟩:=id k8;refine⟨h',?_,dy,fB,k8,⟨λc ae=>?_,.inr ⟨h.next,0,some cap,0,gT,by rw[aah],y9,λj aa=>?_⟩⟩⟩
  ·unfold KQ Uz;have Q6:nN ao 24 (I 0) (I (cap:Int)) h=some (.aF h.next 0 0 (some cap) 0,h.new ob):=kZ;simp only[aA,ee,Q6];unfold Uy;refine Eq.trans dd ?_;unfold Fo tx;simp only[aA]
  ·obtain⟨j,_,rfl⟩:=List.mem_map.1 ae;unfold oT;split
   ·omega
   ·exact A.st.blt _
  ·rw[aah] at aa;rw[Nat.zero_add,mJ j aa,amK _ _ _ aa]
end
def l9(b:Nat->Nat)(bl:Nat->Nat->Nat)(i sz:Nat):Nat->Nat:=
 if 0<sz%64/\0<bl i (a5 (sz/64)) then over b ((bl i (a5 (sz/64))-1)*64+sz%64) (List.replicate (64-sz%64) 0) else b
structure GA (i sz:Nat) (s fs:dC):Prop where
 nd:fs.nd=lx s.nd i (gP s.bl i ((sz+63)/64))
 bl:fs.bl=dE s.bl i (gP s.bl i ((sz+63)/64))
 b:fs.b=l9 s.b fs.bl i sz
 on:∀j,bP fs.wd j=true↔(bP s.wd j=true/\∀c,12<=c->c<308->gP s.bl i ((sz+63)/64) c->s.bl i c≠j+1)
section
variable{lf:Nat}{h:J}{T:dS}{n N:Nat}{now:Int}{us:Nat->Bool}{s:dC}{i:Nat}
def Hm(C:ad):Prop:=∀h T n N now us s i (sz:Int),bt h T n N s.wd s.b now us s.nd->c3 n N s.wd s.nd s.bl->i<N->us i=true->
 -9223372036854775808<=sz->sz<9223372036854775808->
 (sz<0->C (.fn 40) [.ptr T.a3 0,I ((i+1:Nat):Int),I sz] h=some (.ret (I 22),h))/\
 (17792<sz->C (.fn 40) [.ptr T.a3 0,I ((i+1:Nat):Int),I sz] h=some (.ret (I 27),h))/\
 (0<=sz->sz<=17792->∃h' fs,C (.fn 40) [.ptr T.a3 0,I ((i+1:Nat):Int),I sz] h=some (.ret (I 0),h')/\
   bt h' T n N fs.wd fs.b now us (grown fs.nd i sz.toNat now)/\c3 n N fs.wd (grown fs.nd i sz.toNat now) fs.bl/\aD h h' (λj=>j=T.bL\/j=T.kd\/j=T.aK)/\GA i sz.toNat s fs)
theorem aEz{C:ad}(fu:mh C)(nW:s8 C)(MV:Gz C)(yh:CR C)(NH:Hk C){sz:Int}(A:bt h T n N s.wd s.b now us s.nd)(M:c3 n N s.wd s.nd s.bl)(hi:i<N)(hu:us i=true)(dv: -9223372036854775808<=sz)(cy:sz<9223372036854775808):
 (sz<0->tA C lf (.ptr T.a3 0) (I ((i+1:Nat):Int)) (I sz) h=some (.ret (I 22),h))/\
 (17792<sz->tA C lf (.ptr T.a3 0) (I ((i+1:Nat):Int)) (I sz) h=some (.ret (I 27),h))/\
 (0<=sz->sz<=17792->∃h' fs,tA C lf (.ptr T.a3 0) (I ((i+1:Nat):Int)) (I sz) h=some (.ret (I 0),h')/\
   bt h' T n N fs.wd fs.b now us (grown fs.nd i sz.toNat now)/\c3 n N fs.wd (grown fs.nd i sz.toNat now) fs.bl/\aD h h' (λj=>j=T.bL\/j=T.kd\/j=T.aK)/\GA i sz.toNat s fs):=by
 have jQ:=A.gH;have bc:=fu h T n N s.wd s.b now us s.nd ((i+1:Nat):Int) A (by omega) (by omega);rw[Bu hi hu,if_pos rfl,show((i+1:Nat):Int).toNat-1=i by omega] at bc;have ca:decide ((0:Int)≠0)=false:=rfl
 have pre:tA C lf (.ptr T.a3 0) (I ((i+1:Nat):Int)) (I sz) h=xj C lf (λx0 x2 x7 h=>B5 C lf n6 x0 x2 x7 h) n6 (some (.ptr T.a3 0)) (some (I sz)) (some (.ptr T.aK (i*308))) (some (I 0)) h:=by
  unfold tA KP KO KN KM;simp only[cf,b8,ks,bc,qC,List.getElem?_cons_zero,List.getElem?_cons_succ];rfl
 rw[pre];unfold xj;refine⟨λag=>?_,λag=>?_,λbY b2=>?_⟩
 ·unfold n6;simp only[aA,ca,bu ag]
 ·have d1:decide (sz<0)=false:=br (by omega);unfold n6;simp only[aA,ca,d1,bu ag]
 ·obtain⟨z,rfl⟩:∃z:Nat,sz=z:=⟨sz.toNat,by omega⟩;rw[Int.toNat_natCast];have d1:decide ((z:Int)<0)=false:=br (by omega);have d2:decide ((17792:Int)<(z:Int))=false:=br (by omega);have az:IntKind.i64.wrap ((z:Int)+64)=((z+64:Nat):Int):=cD (by omega);have ay:IntKind.i64.wrap (((z+64:Nat):Int)-1)=((z+63:Nat):Int):=cD (by omega)
  have b9:IntKind.i64.wrap (((z+63:Nat):Int).tdiv 64)=(((z+63)/64:Nat):Int):=by
   rw[Int.tdiv_eq_ediv_of_nonneg (by omega),wrap_i64 (by omega) (by omega)];rfl
  obtain⟨h1,px,aP,D⟩:=MV h T n N s.wd s.b now us s.nd s.bl i ((z+63)/64) A M hi (by omega)
  have a2:IntKind.i64.wrap ((z:Int).tdiv 64)=((z/64:Nat):Int):=by
   rw[Int.tdiv_eq_ediv_of_nonneg (by omega),wrap_i64 (by omega) (by omega)];rfl
  have aQ:(z:Int).tmod 64=((z%64:Nat):Int):=by
   rw[Int.tmod_eq_emod_of_nonneg (by omega)];rfl
  generalize dW:gP s.bl i ((z+63)/64)=S at *;have aL:aD h h1 (λj=>j=T.bL\/j=T.kd\/j=T.aK):=D.F.ei λ_ e=>by rcases e with e|e;exact .inl e;exact .inr (.inr e)
  have fin:∀h2 b2,bt h2 T n N px b2 now us (lx s.nd i S)->aD h1 h2 (λj=>j=T.bL\/j=T.kd\/j=T.aK)->
   ∃h',B4 C lf n6 (some (.ptr T.a3 0)) (some (I (z:Int))) (some (.ptr T.aK (i*308))) h2=some (.ret (I 0),h')/\
    bt h' T n N px b2 now us (grown (lx s.nd i S) i z now)/\aD h h' (λj=>j=T.bL\/j=T.kd\/j=T.aK):=λh2 b2 dh bw=>by
   have rF:=xz dh (i:=i) (c:=5) (y:=I (z:Int)) hi (by omega) rfl rfl;have ft:=dh.setNode (i:=i) (c:=5) (y:=I (z:Int)) hi (by omega) (by omega);have c2:aD h2 (h2.set T.aK (i*308+5) [I (z:Int)]) (· =T.aK):=fj rfl;generalize gf:h2.set T.aK (i*308+5) [I (z:Int)]=h3 at *;obtain⟨aT,cb,kP,jm,fK⟩:=NH h3 T n N _ _ now us _ i ft hi;refine⟨aT,?_,kP,(aL.trans bw).trans ((c2.trans fK).ei λ_ e=> .inr (.inr e))⟩;have az:i*308+1+4=i*308+5:=Nat.add_assoc _ 1 4;unfold B4 n6;simp only[aA,az,rF,cb]
  have mid:∀dd:ab,Fm C lf (λx0 x2 x7 h=>B4 C lf n6 x0 x2 x7 h) (some (.ptr T.a3 0)) (some (I (z:Int))) (some (.ptr T.aK (i*308))) h1=dd->
   xj C lf (λx0 x2 x7 h=>B5 C lf n6 x0 x2 x7 h) n6 (some (.ptr T.a3 0)) (some (I (z:Int))) (some (.ptr T.aK (i*308))) (some (I 0)) h=dd:=λdd qY=>by
   unfold xj;simp only[aA,ca,d1,d2];unfold B5 Ux;simp only[aA,az,ay,lV (show(64:Int)≠0 by omega),b9,aP];exact qY
  have Jn:(∃h' b2,Fm C lf (λx0 x2 x7 h=>B4 C lf n6 x0 x2 x7 h) (some (.ptr T.a3 0)) (some (I (z:Int))) (some (.ptr T.aK (i*308))) h1=some (.ret (I 0),h')/\
   b2=l9 s.b (dE s.bl i S) i z/\bt h' T n N px b2 now us (grown (lx s.nd i S) i z now)/\aD h h' (λj=>j=T.bL\/j=T.kd\/j=T.aK)):=by
   unfold Fm;by_cases bV:0<z%64
   ·have oe:decide ((0:Int)<((z%64:Nat):Int))=true:=bu (by omega);have pZ:z/64<278:=by omega
    obtain⟨bM,cz⟩:=zM pZ;have iQ:C (.fn 76) [.ptr T.aK (i*308),I ((z/64:Nat):Int)] h1=some (.ret (.ptr T.aK (i*308+a5 (z/64))),h1):=nW h1 T.aK (i*308) (z/64) pZ;have ek:=D.A.dO i (a5 (z/64)) hi cz;rw[D.M.cell i _ hi bM cz] at ek;have hle:=D.M.le i (a5 (z/64));have e5:=D.M.on i (a5 (z/64)) hi bM cz;have fG:=A.st.ck;by_cases aGW:dE s.bl i S i (a5 (z/64))=0
    ·have Et:l9 s.b (dE s.bl i S) i z=s.b:=by
      unfold l9;rw[if_neg (by omega)]
     generalize hv:dE s.bl i S i (a5 (z/64))=v at *;have gf:decide ((0:Int)<((v:Nat):Int))=false:=br (by omega);obtain⟨h',dd,dy,fB⟩:=fin h1 s.b D.A (aD.refl _ _);refine⟨h',s.b,?_,Et.symm,dy,fB⟩;simp only[aA,ih (show(64:Int)≠0 by omega),aQ,oe,lV (show(64:Int)≠0 by omega),a2,iQ,ek,gf];exact dd
    ·have Et:l9 s.b (dE s.bl i S) i z=over s.b ((dE s.bl i S i (a5 (z/64))-1)*64+z%64) (List.replicate (64-z%64) 0):=by
      unfold l9;rw[if_pos (by omega)]
     have e5:=e5 (by omega);generalize hv:dE s.bl i S i (a5 (z/64))=v at *;have gf:decide ((0:Int)<((v:Nat):Int))=true:=bu (by omega);have kD:IntKind.i64.wrap ((v:Int)-1)=((v-1:Nat):Int):=cD (by omega);have qZ:IntKind.i64.wrap (64-((z%64:Nat):Int))=((64-z%64:Nat):Int):=cD (by omega)
     have kZ:=Ai (P:=ao) (t:=24) (e:=5) (s:=1) (b:=1) (z:= .int .u8 0) (k1:= .i64) (k2:= .i64) (l:=64-z%64) (c:=64-z%64) (h:=h1)
      Tryd.underlying24 (by kernel_rfl) (by kernel_rfl) (by kernel_rfl) (Nat.le_refl _) (by omega) (by omega) rfl (by omega)
     generalize aq:iU 5 ((64-z%64)*1) (c1 (.int .u8 0)).cells=ob at *
     have jj:gS n px ((v-1:Nat):Int)=true:=by
      simp only[gS,Int.toNat_natCast,e5,Bool.and_true,Bool.and_eq_true,decide_eq_true_eq];omega
     have tP:¬uZ n px ((v-1:Nat):Int) ((z%64:Nat):Int) (List.replicate (64-z%64) 0):=by
      unfold uZ;rw[jj,List.length_replicate];simp only[Bool.true_eq_false,false_or];omega
     have ic:Bytes (h1.new ob) (.aF h1.next 0 (64-z%64) (some (64-z%64)) 0) (List.replicate (64-z%64) 0):=by
      refine⟨λc ae=>by rw[List.eq_of_mem_replicate ae];omega,.inr ⟨h1.next,0,some (64-z%64),0,ob.mt,by rw[List.length_replicate],by rw[rh,if_pos rfl],λj aa=>?_⟩⟩;rw[List.length_replicate] at aa;rw[Nat.zero_add,jx, <- aq];have iI:(List.replicate (64-z%64) 0).getD j 0=0:=by simp[List.getD,aa]
      have ap7:(c1 (.int .u8 0)).cells=[.int .u8 0]:=rfl;rw[iI,zL _ _ (by omega),ap7];simp[Nat.mod_one]
     have dh:=D.A.fU (aD.new h1 ob (λ_=>False));obtain⟨h2,a1,j5,ck,bw⟩:=(yh (h1.new ob) T.bL T.kd n px s.b ((v-1:Nat):Int) ((z%64:Nat):Int) _ (List.replicate (64-z%64) 0) dh.st ic (by rw[List.length_replicate];omega) (by omega) (by omega) (by omega) (by omega)).2 tP;rw[Int.toNat_natCast,Int.toNat_natCast] at j5;have ft:=dh.store j5 bw.next (bw.same _ dh.lt (λe=>A.d2 e)) (bw.same _ dh.k5 (λe=>A.d5 e))
     have kb:∀r,dM (ey [(3,bU (some (U.ptr T.a3 0)))] h1 (h1.new ob) [3]) r=r:=λr=>AP rfl D.A.lt (vF D.A.wt) (iT h1 ob (Nat.ne_of_lt D.A.lt))
     obtain⟨h',dd,dy,fB⟩:=fin h2 _ ft ((aD.new h1 ob _).trans (bw.ei λ_ e=> .inr (.inl e)));refine⟨h',_,?_,Et.symm,dy,fB⟩;have mz:=D.A.cG;simp only[aA,ih (show(64:Int)≠0 by omega),aQ,oe,lV (show(64:Int)≠0 by omega),a2,iQ,ek,gf,kD,qZ,mz,kZ,kb,a1];exact dd
   ·have oe:decide ((0:Int)<((z%64:Nat):Int))=false:=br (by omega)
    have Et:l9 s.b (dE s.bl i S) i z=s.b:=by
     unfold l9;rw[if_neg (by omega)]
    obtain⟨h',dd,dy,fB⟩:=fin h1 s.b D.A (aD.refl _ _);refine⟨h',s.b,?_,Et.symm,dy,fB⟩;simp only[aA,ih (show(64:Int)≠0 by omega),aQ,oe];exact dd
  obtain⟨h',b2,dd,rfl,fB,k8⟩:=Jn;exact⟨h',⟨px,l9 s.b (dE s.bl i S) i z,lx s.nd i S,dE s.bl i S⟩,mid _ dd,fB,D.M.grown _ _ _,k8,⟨by rw[dW],by rw[dW],rfl,by rw[dW];exact D.O⟩⟩
end
def Au(N:Nat)(s:dC):Prop:=∀j,bP s.wd j=true->∃i c,i<N/\12<=c/\c<308/\s.bl i c=j+1
section
variable{n N i z:Nat}{s fs:dC}
theorem an6{k:Nat}(hi:i<N)(W:pN n N s)(ai:k<278)(ag:(bN n i k s).2=true):
 (∀i' p,i'<N->p<17792->oT (bN n i k s).1 i' p=oT s i' p)/\(Au N s->Au N (bN n i k s).1):=by
 unfold bN at ag⊢;by_cases h1:0<s.bl i (a5 k)
 ·rw[if_pos h1];exact⟨λ_ _ _ _=>rfl,λO=>O⟩
 ·rw[if_neg h1] at ag⊢;by_cases h2:(dq n i (du k) s []).2.2=true
  ·rw[if_pos h2];have t:oP n i s (dq n i (du k) s []).2.1 (dq n i (du k) s []).1:=yC (du k) s [] .nil (BU ai);have P:=t.props hi W.M W.w;generalize(dq n i (du k) s []).1=fs at *;generalize(dq n i (du k) s []).2.1=bf at *;refine⟨λi' p cH aB=>?_,λO j aa=>?_⟩
   ·unfold oT;obtain⟨bM,cz⟩:=zM (k:=p/64) (by omega);by_cases aN:i'=i/\a5 (p/64)∈bf
    ·obtain⟨rfl,aN⟩:=aN;obtain⟨cP,_,_,gD,_⟩:=P.pw _ aN;rw[if_neg (by omega),if_pos cP];exact P.z _ aN _ (by omega)
    ·have e:=P.out i' (a5 (p/64)) (by
      by_cases e:i'=i
      ·exact .inr λay=>aN ⟨e,ay⟩
      ·exact .inl e)
     rw[e];by_cases aX:s.bl i' (a5 (p/64))=0
     ·rw[if_pos aX,if_pos aX]
     ·rw[if_neg aX,if_neg aX];refine P.C1 _ ?_;rw[show((s.bl i' (a5 (p/64))-1)*64+p%64)/64=s.bl i' (a5 (p/64))-1 by omega];exact W.M.on i' _ cH bM cz (by omega)
   ·rcases(P.on j).1 aa with h3|⟨c,h3,aT⟩
    ·obtain⟨i',c,cG,aP,a1,e⟩:=O j h3;refine⟨i',c,cG,aP,a1,?_⟩
     rw[P.out i' c (by
      by_cases ay:i'=i
      ·refine .inr λb9=>?_
       subst ay
       have:=(P.pw c b9).1
       omega
      ·exact .inl ay)]
     exact e
    ·obtain⟨_,cV,fh,_⟩:=P.pw c h3;exact⟨i,c,hi,cV,fh,aT⟩
  ·rw[if_neg h2] at ag;cases ag
theorem am5(C:GA i z s fs)(O:Au N s):Au N fs:=λj aa=>by
 obtain⟨h1,h2⟩:=(C.on j).1 aa;obtain⟨i',c,cG,aP,a1,e⟩:=O j h1;refine⟨i',c,cG,aP,a1,?_⟩;rw[C.bl,jb λay=>?_]
 ·exact e
 ·obtain⟨rfl,b9⟩:=ay;exact h2 c aP a1 b9 e
end
def ia(vs:List Nat):List Nat:=(vs.filter λv=>decide (0<v)).map (· -1)
theorem Sc(a b:List Nat):ia (a++b)=ia a++ia b:=by simp[ia]
theorem Sd(vs:List Nat):(ia vs).length<=vs.length:=by
 unfold ia;rw[List.length_map];exact List.length_filter_le _ _
def fb(f:Nat->Nat)(a n:Nat):List Nat:=(List.range n).map λj=>f (a+j)
theorem xt(f:Nat->Nat)(a n:Nat):(fb f a n).length=n:=by simp[fb]
theorem aCG(f:Nat->Nat)(a:Nat){n j:Nat}(aa:j<n):(fb f a n).getD j 0=f (a+j):=by simp[fb,List.getD,aa]
theorem XH(f:Nat->Nat)(a n m:Nat):fb f a (n+m)=fb f a n++fb f (a+n) m:=by
 unfold fb;rw[List.range_add,List.map_append,List.map_map];congr 1;apply List.map_congr_left;intro j _;show f (a+(n+j))=f (a+n+j);rw[Nat.add_assoc]
theorem XI(f:Nat->Nat)(a:Nat):fb f a 1=[f a]:=rfl
def lK(bl:Nat->Nat->Nat)(i:Nat):List Nat:=ia (fb (bl i) 12 296)
def rK(h:J)(cK j:Nat):Prop:=j<h.next/\j≠cK/\∀x,h.cell cK 0=some x->rowOf x≠some j
structure oO (h h':J) (cK:Nat):Prop where
 n:h.next<=h'.next
 a:∀j,rK h cK j->rK h' cK j/\ct h h' j
theorem oO.refl(h:J)(cK:Nat):oO h h cK:=⟨Nat.le_refl _,λ_ a=>⟨a,rfl⟩⟩
theorem oO.trans{h h' fF:J}{cK:Nat}(a:oO h h' cK)(b:oO h' fF cK):oO h fF cK:=
 ⟨Nat.le_trans a.n b.n,λj aa=>⟨(b.a j (a.a j aa).1).1,(b.a j (a.a j aa).1).2.trans (a.a j aa).2⟩⟩
structure kQ (h0 h:J) (cK:Nat) (l:List Nat):Prop where
 c:∃x,h.cell cK 0=some x/\eQ h0 h x l/\rowOf x≠some cK
 w:h.wr cK 1
 n:h0.next<=cK
 lt:cK<h.next
 F:aD h0 h (λ_=>False)
section
variable{lf:Nat}{h h0:J}{cK:Nat}{l:List Nat}
theorem kQ.new(O:kQ h0 h cK l)(o:bH):kQ h0 (h.new o) cK l/\oO h (h.new o) cK/\rK (h.new o) cK h.next:=by
 obtain⟨x,aP,a1,cm⟩:=O.c;have ak:ct h (h.new o) cK:=iT h o (Nat.ne_of_lt O.lt);have ae:(h.new o).cell cK 0=some x:=by rw[ak.cell];exact aP
 have aez:∀j,rowOf x=some j->j<h.next:=λj aa=>a1.aF.iq aa
 refine⟨⟨⟨x,ae,⟨a1.aF.frame (by simp) λk ai=>iT h o (Nat.ne_of_lt (aez k ai)),a1.new⟩,cm⟩,eP O.w ak,O.n,by simp;have:=O.lt;omega,O.F.trans (aD.new _ _ _)⟩,⟨by simp,λj aa=>⟨⟨by simp;have:=aa.1;omega,aa.2.1,λy bb=>aa.2.2 y (by rw[<- ak.cell];exact bb)⟩,iT h o (Nat.ne_of_lt aa.1)⟩⟩,
  ⟨by simp,λe=>by have:=O.lt;omega,λy bb e=>?_⟩⟩
 rw[ae] at bb;cases bb
 have:=aez _ e
 omega
theorem kQ.set(O:kQ h0 h cK l){k off:Nat}{ys:List U}(ai:rK h cK k)(aR:h0.next<=k):kQ h0 (h.set k off ys) cK l/\(∀j,rK h cK j->rK (h.set k off ys) cK j):=by
 obtain⟨x,aP,a1,cm⟩:=O.c;have ak:ct h (h.set k off ys) cK:=gr _ _ _ (Ne.symm ai.2.1);have ae:(h.set k off ys).cell cK 0=some x:=by rw[ak.cell];exact aP
 refine⟨⟨⟨x,ae,⟨a1.aF.frame (by rw[dz];exact Nat.le_refl _) λj aa=>gr _ _ _ λe=>ai.2.2 x aP (by rw[aa,e]),a1.new⟩,cm⟩,eP O.w ak,O.n,by rw[dz];exact O.lt,O.F.gB (fj rfl) aR⟩,λj aa=>⟨by rw[dz];exact aa.1,aa.2.1,λy bb=>aa.2.2 y (by rw[<- ak.cell];exact bb)⟩⟩
theorem NN{C:ad}{bB ob:Nat}{cap:Option Nat}{lo:Nat}{vs:List Nat}(hv:∀v∈vs,v<=4096)(av:cu):∀(d t:Nat),t+d=vs.length->∀f,d<f->∀h l,kQ h0 h cK l->rK h cK bB->
 (∀j,j<vs.length->h.cell bB (ob+j)=some (I ((vs.getD j 0:Nat):Int)))->vs.length<=300->l.length+d<=100000->
 ∃h',bk (BQ C lf av) f (some (.ptr cK 0),some (.aF bB ob vs.length cap lo),some (I (vs.length:Int)),some (I (t:Int))) h=av h'/\kQ h0 h' cK (l++ia (vs.drop t))/\oO h h' cK
 |0,t,aI,f,au,h,l,O,W,ae,aJ,kY=>by
  obtain⟨f,rfl⟩:=dx f (by omega);have e:t=vs.length:=by omega
  subst e;refine⟨h,?_,by simpa[ia] using O,oO.refl _ _⟩;rw[df];unfold BQ FK;have a9:decide ((vs.length:Int)<(vs.length:Int))=false:=by simp
  simp only[aA,a9]
 |d+1,t,aI,f,au,h,l,O,W,ae,aJ,kY=>by
  obtain⟨f,rfl⟩:=dx f (by omega);have aN:t<vs.length:=by omega
  have a9:decide ((t:Int)<(vs.length:Int))=true:=bu (by omega);have dr:IntKind.i64.wrap ((t:Int)+1)=((t+1:Nat):Int):=cD (by omega);have bW:=gA (s:=1) (k:=bB) (off:=ob) (len:=vs.length) (lo:=lo) (cap:=cap) (kd:= .i64) (i:=(t:Int)) (by omega) (by omega);rw[Int.toNat_natCast,Nat.mul_one] at bW;have D2:=ae t aN
  have aGX:vs.getD t 0<=4096:=by
   rw[List.getD,List.getElem?_eq_getElem aN];exact hv _ (List.getElem_mem aN)
  have apz:vs.drop t=vs.getD t 0::vs.drop (t+1):=by
   rw[List.drop_eq_getElem_cons aN,List.getD,List.getElem?_eq_getElem aN];rfl
  rw[df];show ∃h',FK C lf (λx1 eD aG x7 h=>bk (BQ C lf av) f (x1,eD,aG,x7) h) av (some (.ptr cK 0)) (some (.aF bB ob vs.length cap lo)) (some (I (vs.length:Int))) (some (I (t:Int))) h=av h'/\_;unfold FK;rw[apz];generalize eJ:vs.getD t 0=v at *;by_cases aX:v=0
  ·have oe:decide ((0:Int)<(v:Int))=false:=br (by omega);obtain⟨h',dd,dy,fB⟩:=NN (C:=C) (lo:=lo) (cap:=cap) hv av d (t+1) (by omega) f (by omega) h l O W ae aJ (by omega);refine⟨h',?_,?_,fB⟩
   ·simp only[aA,a9,bW,D2,oe,dr];exact dd
   ·have e:ia (v::vs.drop (t+1))=ia (vs.drop (t+1)):=by simp[ia,aX]
    rw[e];exact dy
  ·have oe:decide ((0:Int)<(v:Int))=true:=bu (by omega);have kD:IntKind.i64.wrap ((v:Int)-1)=((v-1:Nat):Int):=cD (by omega);obtain⟨x,aP,a1,cm⟩:=O.c;obtain⟨bF,h1,aj,aC,a8,cF,dK,dH,fE,h4⟩:=tk (y:=I ((v-1:Nat):Int)) ti rfl rfl rfl a1.aF (by omega) (by omega)
   have fm:bF.cells=[bF]/\dB [bF]=true:=by
    rcases a8.2 with⟨rfl,_⟩|⟨k,rfl,_⟩<;>exact⟨rfl,rfl⟩
   have Rd:ct h h1 cK:=dH cK O.lt cm;have dc:=gN (n:=1) (off:=0) (y:=bF) (eP O.w Rd) (by rw[fm.1];rfl) (by omega) (by rw[fm.1];exact fm.2);rw[fm.1] at dc;generalize gf:h1.set cK 0 [bF]=h2 at *;have ck:h2.next=h1.next:=by rw[<- gf,dz]
   have m6:h2.cell cK 0=some bF:=by
    rw[<- gf,fZ (eP O.w Rd) (by simp) (Nat.le_refl _) (by simp)];rfl
   have qZ:∀j,j≠cK->ct h1 h2 j:=λj aa=>by rw[<- gf];exact gr _ _ _ aa
   have aQ:∀j,rowOf bF=some j->j≠cK:=λj aa e=>by
    rcases fE j aa with dN|dN
    ·exact cm (by rw[dN,e])
    ·have:=O.lt;omega
   have b9:ints (l++[v-1])=ints l++[I ((v-1:Nat):Int)]:=by simp[ints]
   have qw:kQ h0 h2 cK (l++[v-1]):=by
    refine⟨⟨bF,m6,⟨?_,λj aa=>?_⟩,λe=>aQ cK e rfl⟩,?_,O.n,by rw[ck];exact Nat.lt_of_lt_of_le O.lt cF,?_⟩
    ·rw[b9,List.length_append];exact a8.frame (by rw[ck];exact Nat.le_refl _) λj aa=>qZ j (aQ j aa)
    ·rcases fE j aa with dN|dN
     ·exact a1.new j dN
     ·have:=O.F.next;omega
    ·rw[<- gf];exact dY (eP O.w Rd)
    ·refine⟨by rw[<- gf,xx,dK];exact O.F.aO,by rw[ck];exact Nat.le_trans O.F.next cF,λj aa _=>?_,λau=>?_⟩
     ·have aR:=O.n;have aea:=Nat.lt_of_lt_of_le aa O.F.next
      exact(qZ j (by omega)).trans ((dH j aea (λe=>absurd (a1.new j e) (by omega))).trans (O.F.same j aa (λe=>e)))
     ·rw[<- gf];exact qJ (h4 (O.F.dm au)) _ _ _
   have NB:oO h h2 cK:=⟨by rw[ck];exact cF,λj aa=>⟨⟨by rw[ck];exact Nat.lt_of_lt_of_le aa.1 cF,aa.2.1,λy bb e=>by
    rw[m6] at bb;cases bb;rcases fE j e with dN|dN
    ·exact aa.2.2 x aP dN
    ·have:=aa.1;omega⟩,(qZ j aa.2.1).trans (dH j aa.1 (aa.2.2 x aP))⟩⟩
   obtain⟨h',dd,dy,fB⟩:=NN (C:=C) (lo:=lo) (cap:=cap) hv av d (t+1) (by omega) f (by omega) h2 (l++[v-1]) qw (NB.a bB W).1 (λj aa=>by rw[(NB.a bB W).2.cell];exact ae j aa) aJ (by simp;omega);refine⟨h',?_,?_,NB.trans fB⟩
   ·simp only[aA,a9,bW,D2,oe,aP,kD,aj,aC,dc,dr];exact dd
   ·have e:ia (v::vs.drop (t+1))=(v-1)::ia (vs.drop (t+1)):=by simp[ia,show 0<v by omega]
    rw[e];simpa using dy
def Ak(C:ad):Prop:=∀h0 h cK l bB ob cap lo vs,kQ h0 h cK l->rK h cK bB->(∀j,j<vs.length->h.cell bB (ob+j)=some (I ((vs.getD j 0:Nat):Int)))->(∀v∈vs,v<=4096)->vs.length<=300->l.length<=90000->
 ∃h',C (.fn 93) [.aF bB ob vs.length cap lo,.ptr cK 0] h=some (.ret (.bm []),h')/\kQ h0 h' cK (l++ia vs)/\oO h h' cK
theorem akM{C:ad}(gy:1000<=lf){bB ob:Nat}{cap:Option Nat}{lo:Nat}{vs:List Nat}(O:kQ h0 h cK l)(W:rK h cK bB)(ae:∀j,j<vs.length->h.cell bB (ob+j)=some (I ((vs.getD j 0:Nat):Int)))(hv:∀v∈vs,v<=4096)(aJ:vs.length<=300)(kY:l.length<=90000):
 ∃h',I6 C lf (.aF bB ob vs.length cap lo) (.ptr cK 0) h=some (.ret (.bm []),h')/\kQ h0 h' cK (l++ia vs)/\oO h h' cK:=by
 obtain⟨h',dd,dy,fB⟩:=NN (lf:=lf) (C:=C) (cap:=cap) (lo:=lo) hv PI vs.length 0 (by omega) lf (by omega) h l O W ae aJ (by omega);refine⟨h',?_,dy,fB⟩
 have hlen:eG ao 33 (.aF bB ob vs.length cap lo)=some (I (vs.length:Int)):=by
  simp[eG,Tryd.underlying33]
 unfold I6 W0 WZ;simp only[cf,b8,hlen];exact dd
theorem XP{P:Program}{t e s n k off:Nat}(hu:P.underlying t=some (.array n e))(ak:eg P e=some s)(aR:1<=n):gl P t (.ptr k off) none none=some (.aF k off n (some n) 0):=by
 have h1:sliceB n n none none=some (0,n):=by
  simp only[sliceB]
  have:(Nat.ble n n&&Nat.ble 0 n)=true:=by rw[Nat.ble_eq_true_of_le (Nat.le_refl n),Nat.ble_eq_true_of_le (Nat.zero_le n)];rfl
  simp only[this,cond_true]
 unfold gl;simp only[hu,ak,h1,qm,force_eq,Nat.sub_zero,Nat.zero_mul,Nat.add_zero]
 have bY:Nat.beq n 0=false:=by
  cases ag:Nat.beq n 0 with
  |false=>rfl
  |true=>exact absurd (Nat.eq_of_beq_eq_true ag) (by omega)
 simp only[bY,cond_false]
theorem add_one{C:ad}(pD:Ak C)(O:kQ h0 h cK l){v:Nat}(hv:v<=4096)(kY:l.length<=90000):
 ∃x h1 h',gp ao 33 1 [0] [I (v:Int)] h=some (x,h1)/\C (.fn 93) [x,.ptr cK 0] h1=some (.ret (.bm []),h')/\kQ h0 h' cK (l++ia [v])/\oO h h' cK:=by
 obtain⟨z,aX,ff⟩:=ti.aX;have ag:=MD (h:=h) (y:=I (v:Int)) ti.hu ti.ak aX ff rfl rfl;obtain⟨gZ,s1,cP⟩:=O.new (cI 3 [I (v:Int)])
 obtain⟨h',aP,qw,s2⟩:=pD h0 _ cK l h.next 0 (some 1) 0 [v] gZ cP (λj aa=>by
  have:j=0:=by simpa using aa
  subst this
  rw[Nat.zero_add,jx,nK];rfl) (λu hu=>by simp at hu;omega) (by simp) kY
 exact⟨_,_,h',ag,aP,qw,s1.trans s2⟩
theorem aCH{f:Nat->Nat}{b:Nat}(au:∀c,f c<=b)(a n:Nat):∀v∈fb f a n,v<=b:=λv hv=>by
 obtain⟨j,_,rfl⟩:=List.mem_map.1 hv;exact au _
theorem NP{C:ad}(pD:Ak C)(O:kQ h0 h cK l){k off:Nat}{f:Nat->Nat}{a n:Nat}(W:rK h cK k)(ae:∀j,j<n->h.cell k (off+j)=some (I ((f (a+j):Nat):Int)))(au:∀c,f c<=4096)(aR:n<=300)(kY:l.length<=90000):
 ∃h',C (.fn 93) [.aF k off n (some n) 0,.ptr cK 0] h=some (.ret (.bm []),h')/\kQ h0 h' cK (l++ia (fb f a n))/\oO h h' cK:=by
 have:=pD h0 h cK l k off (some n) 0 (fb f a n) O W (λj aa=>by rw[xt] at aa;rw[aCG _ _ aa];exact ae j aa) (aCH au a n) (by rw[xt];exact aR) kY
 rwa[xt] at this
end
theorem aq2{f:Nat->Nat}{q:Nat}(a2:q<16):((ints (fb f 36 272)).drop (q*17)).take 17=ints (fb f (36+17*q) 17):=by
 unfold ints fb;rw[List.map_map,List.map_map, <- List.map_drop, <- List.map_take];apply List.ext_getElem
 ·simp;omega
 ·intro j h1 h2;simp at h1 h2;simp;congr 2;omega
theorem akK(q j:Nat):36+17*q+(1+j)=37+17*q+j:=by omega
theorem asK(f:Nat->Nat)(q:Nat):ia (fb f 12 (24+17*q))++ia [f (36+17*q)]++ia (fb f (37+17*q) 16)=ia (fb f 12 (24+17*(q+1))):=by
 have az:24+17*(q+1)=24+17*q+1+16:=by omega
 have ay:12+(24+17*q)=36+17*q:=by omega
 have b9:12+(24+17*q+1)=37+17*q:=by omega
 rw[az,XH f 12 (24+17*q+1) 16,XH f 12 (24+17*q) 1,ay,b9,Sc,Sc,XI]
theorem Kb{f:Nat->Nat}{m a k:Nat}(e:a=12+m):ia (fb f 12 m)++ia (fb f a k)=ia (fb f 12 (m+k)):=by rw[e, <- Sc,XH]
theorem Aj{o:Option Value}{n:Nat}(h:o.map (λz=>(c1 z).cells.length)=some n):∃z,o=some z/\(c1 z).cells.length=n:=by
 cases o with
 |none=>cases h
 |some z=>exact⟨z,rfl,by simpa using h⟩
section
variable{lf:Nat}{h:J}{T:dS}{n N:Nat}{wd b:Nat->Nat}{now:Int}{us:Nat->Bool}{nd:Nat->Nat->U}{bl:Nat->Nat->Nat}{i:Nat}
theorem XJ(A:bt h T n N wd b now us nd)(M:c3 n N wd nd bl)(hi:i<N){a m:Nat}(dF:12<=a)(hm:a+m<=308):∀j,j<m->h.cell T.aK (i*308+a+j)=some (I ((bl i (a+j):Nat):Int)):=λj aa=>by
 rw[Nat.add_assoc,A.dO i (a+j) hi (by omega),M.cell i (a+j) hi (by omega) (by omega)]
theorem bt.EX{h0:J}{cK:Nat}{l:List Nat}(A:bt h0 T n N wd b now us nd)(O:kQ h0 h cK l):bt h T n N wd b now us nd/\rK h cK T.aK:=by
 refine⟨A.fU O.F,Nat.lt_of_lt_of_le A.k5 O.F.next,λe=>by have:=O.n;have:=A.k5;omega,λx ax e=>?_⟩;obtain⟨bF,aP,a1,_⟩:=O.c;rw[aP] at ax;cases ax
 have:=a1.new _ e
 have:=A.k5
 omega
theorem afX{C:ad}(pD:Ak C){h0:J}{cK:Nat}(A:bt h0 T n N wd b now us nd)(M:c3 n N wd nd bl)(hi:i<N)(av:aw):∀(d q:Nat),q+d=16->∀f,d<f->∀h,kQ h0 h cK (ia (fb (bl i) 12 (24+17*q)))->
 ∃h',bk (BM C lf av) f (some (.ptr cK 0),some (.fn (.func 93) [] [.ptr cK 0]),some (.agg (ints (fb (bl i) 36 272))),some (I (q:Int))) h=av (some (.ptr cK 0)) h'/\kQ h0 h' cK (lK bl i)
 |0,q,aI,f,au,h,O=>by
  obtain⟨f,rfl⟩:=dx f (by omega);have e:q=16:=by omega
  subst e;refine⟨h,?_,O⟩;rw[df];unfold BM FB;have a9:decide (((16:Nat):Int)<(16:Int))=false:=by simp
  simp only[aA,a9]
 |d+1,q,aI,f,au,h,O=>by
  obtain⟨f,rfl⟩:=dx f (by omega);have a9:decide ((q:Int)<(16:Int))=true:=bu (by omega);have dr:IntKind.i64.wrap ((q:Int)+1)=((q+1:Nat):Int):=cD (by omega);have fG:=A.st.ck;have hle:∀c,bl i c<=4096:=λc=>Nat.le_trans (M.le i c) fG
  have bW:z1 ao 123 (.agg (ints (fb (bl i) 36 272))) (I (q:Int))=some (.agg (ints (fb (bl i) (36+17*q) 17))):=by
   have hu:ao.underlying 123=some (.array 16 122):=Tryd.underlying123;have ak:eg ao 122=some 17:=by kernel_rfl
   have bV:rG ao 122=some true:=by kernel_rfl
   have ag:Nat.blt q 16=true:=by rw[Nat.blt_eq];omega
   have ae:Nat.ble (q*17+17) (ints (fb (bl i) 36 272)).length=true:=by rw[ints,List.length_map,xt];exact Nat.ble_eq_true_of_le (by omega)
   have aqa:kl (I (q:Int))=some q:=rfl;unfold z1;simp only[aqa,hu,ak,ag,cond_true,qb,bV,ae];rw[aq2 (by omega)]
  obtain⟨z,aX,ff⟩:∃z,gC ao 122=some z/\(c1 z).cells.length=17:=Aj (by kernel_rfl);have th:=oI (P:=ao) (e:=122) (h:=h) aX;generalize hS:cI 122 (c1 z).cells=ob at *
  have pe:(h.new ob).wr h.next 17:=by
   have:=hW (h:=h) (o:=ob) (by rw[<- hS];rfl)
   rw[show ob.n=17 by rw[<- hS];exact ff] at this;exact this
  obtain⟨gZ,s1,cP⟩:=O.new ob
  have JK:(U.agg (ints (fb (bl i) (36+17*q) 17))).cells.length=17:=by
   show(ints (fb (bl i) (36+17*q) 17)).length=17;rw[ints,List.length_map,xt]
  have fm:dB (U.agg (ints (fb (bl i) (36+17*q) 17))).cells=true:=Ze .i64 (λ(i:Nat)=>(i:Int)) _;have dc:=gN (n:=17) (off:=0) (y:= .agg (ints (fb (bl i) (36+17*q) 17))) pe JK (by omega) fm;have fQ:(U.agg (ints (fb (bl i) (36+17*q) 17))).cells=ints (fb (bl i) (36+17*q) 17):=rfl;rw[fQ] at dc JK;have lZ:h0.next<=h.next:=O.F.next
  obtain⟨qw,cV⟩:=gZ.set (off:=0) (ys:=ints (fb (bl i) (36+17*q) 17)) cP lZ
  have ek:∀j,j<17->((h.new ob).set h.next 0 (ints (fb (bl i) (36+17*q) 17))).cell h.next j=some (I ((bl i (36+17*q+j):Nat):Int)):=λj aa=>by
   rw[fZ pe (by omega) (Nat.zero_le _) (by omega),Nat.sub_zero];simp[ints,fb,aa]
  generalize bc:(h.new ob).set h.next 0 (ints (fb (bl i) (36+17*q) 17))=g at *
  have cG:=ek 0 (by omega);rw[Nat.add_zero] at cG;have Ml:=cV h.next cP
  have hg:=Sd (fb (bl i) 12 (24+17*q));rw[xt] at hg;obtain⟨x3,g3,g4,aj,aC,CL,e2⟩:=add_one pD qw (v:=bl i (36+17*q)) (hle _) (by omega);have kE:=XP (P:=ao) (t:=120) (n:=16) (s:=1) (k:=h.next) (off:=1) Tryd.underlying120 (by kernel_rfl) (by omega);have b4:=Sd [bl i (36+17*q)];simp only[List.length_cons,List.length_nil] at b4
  obtain⟨g5,bY,As,mK⟩:=NP pD CL (k:=h.next) (off:=1) (f:=bl i) (a:=37+17*q) (n:=16) (e2.a _ Ml).1 (λj aa=>by
   rw[(e2.a _ Ml).2.cell,ek (1+j) (by omega),akK]) hle (by omega) (by rw[List.length_append];omega)
  have iI:=asK (bl i) q;rw[iI] at As;obtain⟨h',dd,dy⟩:=afX pD A M hi av d (q+1) (by omega) f (by omega) g5 As;refine⟨h',?_,dy⟩;rw[df];show FB C lf (λx3 bC nk vH h=>bk (BM C lf av) f (x3,bC,nk,vH) h) av (some (.ptr cK 0)) (some (.fn (.func 93) [] [.ptr cK 0])) (some (.agg (ints (fb (bl i) 36 272)))) (some (I (q:Int))) h=_;unfold FB;simp only[aA,a9,bW,th,dc,cG,aj,fv,rY,List.nil_append,List.cons_append,aC,kE,bY,dr];exact dd
def GU(C:ad):Prop:=∀h T n N wd b now us nd bl i,bt h T n N wd b now us nd->c3 n N wd nd bl->i<N->∃x h',C (.fn 79) [.ptr T.aK (i*308)] h=some (.ret x,h')/\eQ h h' x (lK bl i)/\aD h h' (λ_=>False)
theorem asL{C:ad}(gy:1000<=lf)(pD:Ak C)(A:bt h T n N wd b now us nd)(M:c3 n N wd nd bl)(hi:i<N):
 ∃x h',IX C lf (.ptr T.aK (i*308)) h=some (.ret x,h')/\eQ h h' x (lK bl i)/\aD h h' (λ_=>False):=by
 have fG:=A.st.ck;have hle:∀c,bl i c<=4096:=λc=>Nat.le_trans (M.le i c) fG
 have aX:gC ao 33=some (.slice none 0 0):=by kernel_rfl
 have th:=oI (P:=ao) (e:=33) (h:=h) aX;have oq:(c1 (.slice none 0 0)).cells=[.val (.slice none 0 0)]:=rfl;rw[oq] at th;generalize ik:cI 33 [.val (.slice none 0 0)]=dv at *
 have cP:(h.new dv).wr h.next 1:=by
  have:=hW (h:=h) (o:=dv) (by rw[<- ik];rfl)
  rw[show dv.n=1 by rw[<- ik];rfl] at this;exact this
 have aP:(h.new dv).cell h.next 0=some (.val (.slice none 0 0)):=by rw[jx, <- ik,nK];rfl
 have gZ:kQ h (h.new dv) h.next (ia (fb (bl i) 12 0)):=⟨⟨_,aP,⟨ha.nil _ _ _,λj aa=>by cases aa⟩,λe=>by cases e⟩,cP,Nat.le_refl _,by simp,aD.new _ _ _⟩
 generalize kV:h.new dv=g1 at *;have hg:∀m,m<=300->(ia (fb (bl i) 12 m)).length<=300:=λm hm=>by have:=Sd (fb (bl i) 12 m);rw[xt] at this;omega
 obtain⟨bX,y1⟩:=A.EX gZ;have aCP:=XP (P:=ao) (t:=119) (n:=6) (s:=1) (k:=T.aK) (off:=i*308+12) Tryd.underlying119 (by kernel_rfl) (by omega);obtain⟨g2,d1,qw,_⟩:=NP pD gZ (k:=T.aK) (off:=i*308+12) (f:=bl i) (a:=12) (n:=6) y1 (XJ bX M hi (by omega) (by omega)) hle (by omega) (Nat.le_trans (hg 0 (by omega)) (by omega));rw[Kb rfl] at qw;obtain⟨dh,rI⟩:=A.EX qw;have adY:=dh.dO i 18 hi (by omega);rw[M.cell i 18 hi (by omega) (by omega)] at adY;obtain⟨x3,g3,g4,aj,aC,CL,e2⟩:=add_one pD qw (v:=bl i 18) (hle _) (Nat.le_trans (hg _ (by omega)) (by omega));rw[<- XI (bl i) 18,Kb rfl] at CL;obtain⟨kP,Ad⟩:=A.EX CL;have aCQ:=XP (P:=ao) (t:=120) (n:=16) (s:=1) (k:=T.aK) (off:=i*308+19) Tryd.underlying120 (by kernel_rfl) (by omega);obtain⟨g5,d5,As,_⟩:=NP pD CL (k:=T.aK) (off:=i*308+19) (f:=bl i) (a:=19) (n:=16) Ad (XJ kP M hi (by omega) (by omega)) hle (by omega) (Nat.le_trans (hg _ (by omega)) (by omega));rw[Kb rfl] at As;obtain⟨ajN,Mv⟩:=A.EX As;have adZ:=ajN.dO i 35 hi (by omega);rw[M.cell i 35 hi (by omega) (by omega)] at adZ;obtain⟨aG,g6,g7,dH,fE,Nd,xq⟩:=add_one pD As (v:=bl i 35) (hle _) (Nat.le_trans (hg _ (by omega)) (by omega));rw[<- XI (bl i) 35,Kb rfl] at Nd;obtain⟨Yy,ajy⟩:=A.EX Nd;obtain⟨md,mA,_,_⟩:=Yy.wn
 have kf:eB 272 (.ptr T.aK (i*308+36)) g7=some (.agg (ints (fb (bl i) 36 272))):=by
  rw[mE mA,jy (ys:=ints (fb (bl i) 36 272)) (by rw[ints,List.length_map,xt]) λj aa=>?_]
  ·rfl
  ·rw[XJ Yy M hi (by omega) (by omega) j aa];simp[ints,fb,aa]
 obtain⟨h',dd,dy⟩:=afX (lf:=lf) (C:=C) pD A M hi (λx3 h=>Ld C lf H8 x3 h) 16 0 (by omega) lf (by omega) g7 Nd;obtain⟨x,bM,cz,fr⟩:=dy.c;refine⟨x,h',?_,cz,dy.F⟩;unfold IX We Wd Wc Wb;simp only[aA,th];unfold Wa V9;simp only[aA];unfold V8 V7;simp only[aA,aCP,fv,rY,List.nil_append,List.cons_append,d1];unfold V6 V5;have aF7:i*308+18+0=i*308+18:=rfl;simp only[aA,aF7,adY,aj,fv,rY,List.nil_append,List.cons_append,aC];unfold V4 V3;have HS:i*308+18+1=i*308+19:=rfl;simp only[aA,HS,aCQ,fv,rY,List.nil_append,List.cons_append,d5];unfold V2 V1;simp only[aA,adZ,dH,fv,rY,List.nil_append,List.cons_append,fE];unfold V0 VZ VY;simp only[aA,kf];refine Eq.trans dd ?_;unfold Ld H8;simp only[aA,bM]
end
def fI(nd:Nat->Nat->U)(i k:Nat):List U:=(List.range 10).map λj=>if j=5 then I (k:Int) else nd i (1+j)
theorem yk{f:Nat->U}:∀{l:List Nat},(∀j∈l,(f j).one=true)->dB (l.map f)=true
 | [],_=>rfl
 |a::l,h=>by
  show((f a).one&&dB (l.map f))=true;rw[h a (List.mem_cons_self ..),yk λj aa=>h j (List.mem_cons_of_mem _ aa)];rfl
theorem ae2{P:Program}{h:J}{t e s:Nat}{x:U}{n:Nat}{ys:List U}(hu:P.underlying t=some (.slice e))(S:ha h e s x n ys):eG P t x=some (I (n:Int)):=by
 rcases S.2 with⟨rfl,rfl⟩|⟨k,rfl,_⟩
 ·simp[eG,hu,fP]
 ·simp[eG,hu]
section
variable{lf:Nat}{h:J}{T:dS}{n N:Nat}{wd b:Nat->Nat}{now:Int}{us:Nat->Bool}{nd:Nat->Nat->U}{bl:Nat->Nat->Nat}{i:Nat}
def CP(C:ad):Prop:=∀h T n N wd b now us nd bl i,bt h T n N wd b now us nd->c3 n N wd nd bl->i<N->us i=true->(∀c,c<12->(nd i c).one=true)->
 ∃h',C (.fn 42) [.ptr T.a3 0,I ((i+1:Nat):Int)] h=some (.ret (.bm [.agg (fI nd i (lK bl i).length),I 0]),h')/\aD h h' (λ_=>False)
theorem aC5{C:ad}(fu:mh C)(oN:GU C)(A:bt h T n N wd b now us nd)(M:c3 n N wd nd bl)(hi:i<N)(hu:us i=true)(fm:∀c,c<12->(nd i c).one=true):
 ∃h',Iy C lf (.ptr T.a3 0) (I ((i+1:Nat):Int)) h=some (.ret (.bm [.agg (fI nd i (lK bl i).length),I 0]),h')/\aD h h' (λ_=>False):=by
 have jQ:=A.gH;obtain⟨z,aX,ff⟩:∃z,gC ao 78=some z/\(c1 z).cells.length=10:=Aj (by kernel_rfl);have qy:=oI (P:=ao) (e:=78) (h:=h) aX;generalize hS:cI 78 (c1 z).cells=ob at *
 have EA:∀h:J,(h.new ob).wr h.next 10:=λh=>by
  have:=hW (h:=h) (o:=ob) (by rw[<- hS];rfl)
  rw[show ob.n=10 by rw[<- hS];exact ff] at this;exact this
 have cP:=EA h;have cA:(h.new ob).next=h.next+1:=by simp
 have aL:aD h (h.new ob) (λ_=>False):=aD.new _ _ _;generalize kV:h.new ob=g1 at *;have bX:=A.fU aL;have bc:=fu g1 T n N wd b now us nd ((i+1:Nat):Int) bX (by omega) (by omega);rw[Bu hi hu,if_pos rfl,show((i+1:Nat):Int).toNat-1=i by omega] at bc;have ca:decide ((0:Int)≠0)=false:=rfl;obtain⟨md,mA,_,_⟩:=bX.wn
 have kf:eB 10 (.ptr T.aK (i*308+1)) g1=some (.agg ((List.range 10).map λj=>nd i (1+j))):=by
  rw[mE mA,jy (ys:=(List.range 10).map λj=>nd i (1+j)) (by simp) λj aa=>?_]
  ·rfl
  ·rw[Nat.add_assoc,bX.dO i (1+j) hi (by omega)];simp[aa]
 have CS:=oI (P:=ao) (e:=78) (h:=g1) aX;rw[hS] at CS;have cV:=EA g1;have fQ:(U.agg ((List.range 10).map λj=>nd i (1+j))).cells=(List.range 10).map λj=>nd i (1+j):=rfl
 have gd:dB ((List.range 10).map λj=>nd i (1+j))=true:=yk λj aa=>fm _ (by have:=List.mem_range.1 aa;omega)
 have rF:=gN (n:=10) (off:=0) (y:= .agg ((List.range 10).map λj=>nd i (1+j))) cV (by rw[fQ];simp) (by omega) (by rw[fQ];exact gd);rw[fQ] at rF
 have QF:∀j,j<10->((g1.new ob).set g1.next 0 ((List.range 10).map λj=>nd i (1+j))).cell g1.next j=some (nd i (1+j)):=λj aa=>by
  rw[fZ cV (by simp) (Nat.zero_le _) (by simpa using aa),Nat.sub_zero];simp[aa]
 have Gh:((g1.new ob).set g1.next 0 ((List.range 10).map λj=>nd i (1+j))).wr g1.next 10:=dY cV
 have bw:aD g1 ((g1.new ob).set g1.next 0 ((List.range 10).map λj=>nd i (1+j))) (λ_=>False):=(aD.new g1 ob _).gB (fj rfl) (Nat.le_refl _);have ck:((g1.new ob).set g1.next 0 ((List.range 10).map λj=>nd i (1+j))).next=g1.next+1:=by simp
 generalize gf:(g1.new ob).set g1.next 0 ((List.range 10).map λj=>nd i (1+j))=g2 at *
 obtain⟨x,g3,cm,xZ,c2⟩:=oN g2 T n N wd b now us nd bl i (bX.fU bw) M hi;have hlen:=ae2 (P:=ao) Tryd.underlying33 xZ.aF;generalize ai:(lK bl i).length=k at *;have ea:∀j,j<g2.next->ct g2 g3 j:=λj aa=>c2.same j aa (λe=>e)
 have fh:g3.wr g1.next 10:=eP Gh (ea _ (by omega))
 have pq:=gN (n:=1) (off:=5) (y:=I (k:Int)) fh rfl (by omega) rfl;have fl:(U.int .i64 (k:Int)).cells=[I (k:Int)]:=rfl;rw[fl] at pq
 have QG:∀j,j<10->(g3.set g1.next 5 [I (k:Int)]).cell g1.next (0+j)=(fI nd i k)[j]?:=λj aa=>by
  rw[Nat.zero_add];by_cases e:j=5
  ·subst e;rw[fZ fh (by simp) (Nat.le_refl _) (by simp)];simp[fI]
  ·rw[ep (.inr (by simp;omega)),(ea _ (by omega)).cell,QF j aa];simp[fI,aa,e]
 have jm:(g3.set g1.next 5 [I (k:Int)]).next=g3.next:=by simp
 have gD:(g3.set g1.next 5 [I (k:Int)]).wr g1.next 10:=dY fh
 have z8:(g3.set g1.next 5 [I (k:Int)]).wr h.next 10:=by
  have az:ct g1 g2 h.next:=bw.same _ (by omega) (λe=>e)
  have ay:ct g3 (g3.set g1.next 5 [I (k:Int)]) h.next:=gr _ _ _ (by omega)
  exact eP (eP (eP cP az) (ea _ (by have:=bw.next;omega))) ay
 have fK:aD g1 (g3.set g1.next 5 [I (k:Int)]) (λ_=>False):=(bw.trans c2).gB (fj rfl) (Nat.le_refl _);generalize kc:g3.set g1.next 5 [I (k:Int)]=g4 at *
 have kE:(fI nd i k).length=10:=by simp[fI]
 have QY:eB 10 (.ptr g1.next 0) g4=some (.agg (fI nd i k)):=by
  obtain⟨oA,vc,_⟩:=gD;rw[mE vc,jy kE QG];rfl
 have Qz:dB (fI nd i k)=true:=yk λj aa=>by
  have:=List.mem_range.1 aa
  split
  ·rfl
  ·exact fm _ (by omega)
 have F6:=gN (n:=10) (off:=0) (y:= .agg (fI nd i k)) z8 kE (by omega) Qz;have QE:(U.agg (fI nd i k)).cells=fI nd i k:=rfl;rw[QE] at F6
 have QZ:eB 10 (.ptr h.next 0) (g4.set h.next 0 (fI nd i k))=some (.agg (fI nd i k)):=by
  obtain⟨oA,vc,_⟩:=dY (off:=0) (k:=h.next) (ys:=fI nd i k) z8;rw[mE vc,jy kE λj aa=>?_]
  ·rfl
  ·rw[Nat.zero_add,fZ z8 (by omega) (Nat.zero_le _) (by omega),Nat.sub_zero]
 refine⟨g4.set h.next 0 (fI nd i k),?_,(aL.trans fK).gB (fj rfl) (Nat.le_refl _)⟩;unfold Iy UE O6;simp only[aA,qy,bc,List.getElem?_cons_zero,List.getElem?_cons_succ,ca,kf,CS,rF,cm,hlen,pq,QY,F6,QZ]
end
noncomputable section
variable{C:ad}{lf:Nat}{ba a0 eA fz jU k3 q4 q5 q6 q7 q8 q9 q1 q2 q3:hp}{an:lj}
def abO:b1 ao:=dk 55 Tryd.f55 Tryd.func55 (by kernel_rfl)
noncomputable def Ph(h:J):ab:=
 some (.ret (.bm []),h)
def U9(C:ad)(lf:Nat)(n:cu)(x0 x1:O)(h:J):ab:=
 aP C 73 x0 h λa k=>gn a (ob x0 λa=>ob x1 λb=>ef 2 a λa=>ob (st 1 a b k) n) (n k)
theorem axo{n:cu}:∀F h,ar abO C lf [] F h (ed n) a0 an=a7 (U9 C lf n) 0 1 F h:=by
 intro F h;kernel_rfl
def II(C:ad)(lf:Nat)(ah aj:U)(h:J):ab:=U9 C lf Ph (some ah) (some aj) h
def acT:cx ao:=hr abO II (λC lf ah aj h=>cS (K:=(ed Ph)) (by kernel_rfl) (Eq.trans (axo _ h) (by kernel_rfl))) (by kernel_rfl)
def abP:b1 ao:=dk 56 Tryd.f56 Tryd.func56 (by kernel_rfl)
noncomputable def Pj(aG:O)(h:J):ab:=
 ob aG λa=>some (.ret a,h)
def Va(C:ad)(lf:Nat)(r:aw)(x0 x1 x2:O)(h:J):ab:=
 a1 C 74 x0 x1 h λa k=>cy a λa b=>eH .neq 26 b (I 0) (r (some b) k) (ef 1 a λb=>eK 6 b k λb=>cn .and 68 b (I 61440) λb=>cB .and 68 x2 (I 4095) λc=>cn .or 68 b c λb=>ef 1 a λc=>ob (bZ 6 c) λc=>ob (st 1 c b k) λk=>dw 2 x0 k λb=>ef 1 a λa=>ob (bZ 9 a) λa=>ob (st 1 a b k) (r (bD 0)))
theorem axp{r:aw}:∀F h,ar abP C lf [] F h ba (aM r 6) an=bG (Va C lf r) 0 1 2 F h:=by
 intro F h;kernel_rfl
def Dw(C:ad)(lf:Nat)(ah aj aC:U)(h:J):ab:=Va C lf Pj (some ah) (some aj) (some aC) h
def acU:cx ao:=nX abP Dw (λC lf ah aj aC h=>cS (K:=(aM Pj 6)) (by kernel_rfl) (Eq.trans (axp _ h) (by kernel_rfl))) (by kernel_rfl)
def abQ:b1 ao:=dk 57 Tryd.f57 Tryd.func57 (by kernel_rfl)
noncomputable def yA(x8:O)(h:J):ab:=
 ob x8 λa=>some (.ret a,h)
def Vb(C:ad)(lf:Nat)(r:aw)(x0 x9:O)(h:J):ab:=
 ob x9 λa=>dw 2 x0 h λb=>ef 1 a λa=>ob (bZ 9 a) λa=>ob (st 1 a b h) (r (bD 0))
def agK(C:ad)(lf:Nat)(n:aS)(x0 x3 x9:O)(h:J):ab:=
 hC .geq 3 x3 (I 0) (ob x9 λa=>ob x3 λb=>ef 1 a λa=>ob (bZ 3 a) λa=>ob (st 1 a b h) (n x0 x9)) (n x0 x9 h)
def Vc(C:ad)(lf:Nat)(r:aw)(x0 x3 x9:O)(h:J):ab:=
 agK C lf (Vb C lf r) x0 x3 x9 h
def agL(C:ad)(lf:Nat)(n:bK)(x0 x2 x3 x9:O)(h:J):ab:=
 hC .geq 3 x2 (I 0) (ob x9 λa=>ob x2 λb=>ef 1 a λa=>ob (bZ 2 a) λa=>ob (st 1 a b h) (n x0 x3 x9)) (n x0 x3 x9 h)
def agM(C:ad)(lf:Nat)(r:aw)(x0 x2 x3 x9:O)(h:J):ab:=
 agL C lf (Vc C lf r) x0 x2 x3 x9 h
def agN(C:ad)(lf:Nat)(n:bo)(r:aw)(x0 x2 x3 x9:O)(h:J):ab:=
 cB .lss 3 x2 (I (-1)) λa=>jg .lss 3 a x3 (I (-1)) h λb k=>mN a b (r (bD 22) k) (n x0 x2 x3 x9 k)
def agO(C:ad)(lf:Nat)(r:aw)(x0 x2 x3 x9:O)(h:J):ab:=
 agN C lf (agM C lf r) r x0 x2 x3 x9 h
def Vd(C:ad)(lf:Nat)(n:bo)(r:aw)(x0 x2 x3 x9 aU:O)(h:J):ab:=
 hC .neq 26 aU (I 0) (ob aU λa=>r (some a) h) (n x0 x2 x3 x9 h)
def Ve(C:ad)(lf:Nat)(r:aw)(x0 x2 x3 x9 aU:O)(h:J):ab:=
 Vd C lf (agO C lf r) r x0 x2 x3 x9 aU h
def agP(C:ad)(lf:Nat)(n:cC)(x0 x1 x2 x3:O)(h:J):ab:=
 a1 C 74 x0 x1 h λa k=>cy a λa b=>n x0 x2 x3 (some a) (some b) k
def agQ(C:ad)(lf:Nat)(r:aw)(x0 x1 x2 x3:O)(h:J):ab:=
 agP C lf (Ve C lf r) x0 x1 x2 x3 h
noncomputable def agR(C:ad)(lf:Nat)(n:bo)(x0 x1 x2 x3:O)(h:J):ab:=
 n x0 x1 x2 x3 h
def Vf(C:ad)(lf:Nat)(r:aw)(x0 x1 x2 x3:O)(h:J):ab:=
 agR C lf (agQ C lf r) x0 x1 x2 x3 h
theorem axq{r:aw}:∀F h,ar abQ C lf [] F h ba (aM r 8) an=bj (Vf C lf r) 0 1 2 3 F h:=by
 intro F h;kernel_rfl
def A5(C:ad)(lf:Nat)(ah aj aC a8:U)(h:J):ab:=Vf C lf yA (some ah) (some aj) (some aC) (some a8) h
def acV:cx ao:=rT abQ A5 (λC lf ah aj aC a8 h=>cS (K:=(aM yA 8)) (by kernel_rfl) (Eq.trans (axq _ h) (by kernel_rfl))) (by kernel_rfl)
def abR:b1 ao:=dk 58 Tryd.f58 Tryd.func58 (by kernel_rfl)
noncomputable def Pk(x8:O)(h:J):ab:=
 ob x8 λa=>some (.ret a,h)
def Vg(C:ad)(lf:Nat)(r:aw)(x0 x1 x2 x3:O)(h:J):ab:=
 a1 C 74 x0 x1 h λa k=>cy a λa b=>eH .neq 26 b (I 0) (r (some b) k) (ob x2 λb=>ob x3 λc=>dw 2 x0 k λd=>ef 1 a λg=>ob (bZ 7 g) λg=>ob (st 1 g b k) λk=>ef 1 a λb=>ob (bZ 8 b) λb=>ob (st 1 b c k) λk=>ef 1 a λa=>ob (bZ 9 a) λa=>ob (st 1 a d k) (r (bD 0)))
theorem axr{r:aw}:∀F h,ar abR C lf [] F h ba (aM r 8) an=bj (Vg C lf r) 0 1 2 3 F h:=by
 intro F h;kernel_rfl
def Dx(C:ad)(lf:Nat)(ah aj aC a8:U)(h:J):ab:=Vg C lf Pk (some ah) (some aj) (some aC) (some a8) h
def acW:cx ao:=rT abR Dx (λC lf ah aj aC a8 h=>cS (K:=(aM Pk 8)) (by kernel_rfl) (Eq.trans (axr _ h) (by kernel_rfl))) (by kernel_rfl)
def abT:b1 ao:=dk 60 Tryd.f60 Tryd.func60 (by kernel_rfl)
noncomputable def Pm(bC:O)(h:J):ab:=
 ob bC λa=>some (.ret a,h)
def Vi(C:ad)(lf:Nat)(r:aw)(x0 x1:O)(h:J):ab:=
 a1 C 74 x0 x1 h λa k=>cy a λa b=>eH .neq 26 b (I 0) (r (some b) k) (um 11 a k λb=>cn .add 3 b (I 1) λb=>ef 11 a λa=>ob (st 1 a b k) (r (bD 0)))
theorem axt{r:aw}:∀F h,ar abT C lf [] F h ba (aM r 4) an=a7 (Vi C lf r) 0 1 F h:=by
 intro F h;kernel_rfl
def Dy(C:ad)(lf:Nat)(ah aj:U)(h:J):ab:=Vi C lf Pm (some ah) (some aj) h
def acY:cx ao:=hr abT Dy (λC lf ah aj h=>cS (K:=(aM Pm 4)) (by kernel_rfl) (Eq.trans (axt _ h) (by kernel_rfl))) (by kernel_rfl)
def abU:b1 ao:=dk 61 Tryd.f61 Tryd.func61 (by kernel_rfl)
noncomputable def Pn(bC:O)(h:J):ab:=
 ob bC λa=>some (.ret a,h)
def Vj(C:ad)(lf:Nat)(r:aw)(x0 x1:O)(h:J):ab:=
 a1 C 74 x0 x1 h λa k=>cy a λa b=>eH .neq 26 b (I 0) (r (some b) k) (um 11 a k λb=>eH .eql 3 b (I 0) (r (bD 22) k) (um 11 a k λb=>cn .sub 3 b (I 1) λb=>vq 11 a b k λk=>ob x0 λb=>cJ C 89 [b,a] k λa=>r (bD 0)))
theorem axu{r:aw}:∀F h,ar abU C lf [] F h ba (aM r 4) an=a7 (Vj C lf r) 0 1 F h:=by
 intro F h;kernel_rfl
def A6(C:ad)(lf:Nat)(ah aj:U)(h:J):ab:=Vj C lf Pn (some ah) (some aj) h
def acZ:cx ao:=hr abU A6 (λC lf ah aj h=>cS (K:=(aM Pn 4)) (by kernel_rfl) (Eq.trans (axu _ h) (by kernel_rfl))) (by kernel_rfl)
noncomputable def abM:b1 ao:=⟨53,Tryd.f53,λr=>bif Nat.beq r 3 then .ord [0,1,2,5,6,7,10,11,12,3,8,13,4,9,14,15,16] [(9,[13]),(4,[13,8])] else .text,Tryd.func53,by kernel_rfl,by kernel_rfl,by kernel_rfl,by kernel_rfl⟩
noncomputable def Pf(x2:O)(h:J):ab:=
 ob x2 λa=>some (.ret a,h)
def U7(C:ad)(lf:Nat)(r:aw)(x0:O)(h:J):ab:=
 aP C 73 x0 h λa k=>fM a (r (some (.val (.pointer none))) k) (e9 0 x0 λa=>e9 1 x0 λb=>e9 2 x0 λc=>ob (bO a k) λd=>ob (bO b k) λg=>ob (bO c k) λi=>cM (C (.fn 26) [d] k) λd l=>dM (ey [(13,bU (some c)),(8,bU (some b)),(3,bU (some a))] k l [13,8]) (b2 (eX ao .append #[100,100] [.val (.slice none 0 0),g] l) λg k=>dM (ey [(13,bU (some c)),(8,bU (some b)),(3,bU (some a))] l k [13]) (ob (gM ao 102 [0,1,2] [d,g,i]) λa=>b2 (pB 102 a k) λa=>r (some a))))
theorem axm{r:aw}:∀F h,ar abM C lf [] F h ba (aM r 2) an=aM (U7 C lf r) 0 F h:=by
 intro F h;kernel_rfl
def IG(C:ad)(lf:Nat)(ah:U)(h:J):ab:=U7 C lf Pf (some ah) h
def acR:cx ao:=hZ abM IG (λC lf ah h=>cS (K:=(aM Pf 2)) (by kernel_rfl) (Eq.trans (axm _ h) (by kernel_rfl))) (by kernel_rfl)
end
theorem ZK{P:Program}{t:TypeId}{a b:Int}:bin P .or t (I a) (I b)=some (I (IntKind.i64.wrap ((BitVec.ofInt 64 a|||BitVec.ofInt 64 b).toNat:Int))):=by
 rw[ym _ (.inr (.inl rfl))];simp only[arith,fP];rfl
theorem Cl{a:Int}:ib .neg (I a)=some (I (IntKind.i64.wrap (-a))):=by
 show arith .sub .i64 0 a=_;simp only[arith,fP,Int.zero_sub]
def w8(m mo:Int):Int:=IntKind.i64.wrap ((BitVec.ofInt 64 (lI m)|||BitVec.ofInt 64 (IntKind.i64.wrap ((BitVec.ofInt 64 mo&&& BitVec.ofInt 64 4095).toNat:Int))).toNat:Int)
section
variable{lf:Nat}{h:J}{T:dS}{n N:Nat}{wd b:Nat->Nat}{now:Int}{us:Nat->Bool}{nd:Nat->Nat->U}{i:Nat}{ino:Int}
theorem tE{C:ad}(fu:mh C)(A:bt h T n N wd b now us nd)(b4: -9223372036854775808<=ino)(cv:ino<9223372036854775808)(ag:c7 N us ino=false):C (.fn 74) [.ptr T.a3 0,I ino] h=some (.ret (.bm [.val (.pointer none),I 2]),h):=by
 have:=fu h T n N wd b now us nd ino A b4 cv
 rwa[ag,if_neg (by simp)] at this
theorem tF{C:ad}(fu:mh C)(A:bt h T n N wd b now us nd)(hi:i<N)(hu:us i=true):C (.fn 74) [.ptr T.a3 0,I ((i+1:Nat):Int)] h=some (.ret (.bm [.ptr T.aK (i*308),I 0]),h):=by
 have jQ:=A.gH
 have:=fu h T n N wd b now us nd ((i+1:Nat):Int) A (by omega) (by omega)
 rwa[Bu hi hu,if_pos rfl,show((i+1:Nat):Int).toNat-1=i by omega] at this
theorem rE(A:bt h T n N wd b now us nd)(hi:i<N){c:Nat}(h0:c≠0)(ae:c<308)(y:Int):
 ∃h',st 1 (.ptr T.aK (i*308+c)) (I y) h=some h'/\bt h' T n N wd b now us (cU nd i c (I y))/\h'.next=h.next/\aD h h' (· =T.aK):=
 ⟨_,xz A hi ae rfl rfl,A.setNode hi ae h0,dz ..,fj rfl⟩
def MS(C:ad):Prop:=∀h T n N wd b now us nd (at_:Int),bt h T n N wd b now us nd->∃h',C (.fn 55) [.ptr T.a3 0,I at_] h=some (.ret (.bm []),h')/\bt h' T n N wd b at_ us nd/\h'.next=h.next/\aD h h' (· =T.a3)
theorem bt.XN(A:bt h T n N wd b now us nd)(at_:Int):bt (h.set T.a3 2 [I at_]) T n N wd b at_ us nd:=by
 have ak:∀j,j≠T.a3->ct h (h.set T.a3 2 [I at_]) j:=λj aa=>gr _ _ _ aa
 have d1:=A.d1;have d2:=A.d2;have d3:=A.d3
 exact⟨A.nU,A.gH,A.st.frame (by rw[dz];exact Nat.le_refl _) (ak _ (Ne.symm d1)) (ak _ (Ne.symm d2)),by rw[ep (.inr (by simp))];exact A.cG,by rw[ep (.inr (by simp))];exact A.aP,
  by rw[fZ A.wt (by simp) (Nat.le_refl _) (by simp)];rfl,dY A.wt,dY A.wn,λi c hi ae=>by rw[ep (.inl (Ne.symm d3))];exact A.dO i c hi ae,A.kN,A.d1,A.d2,A.d3,A.d4,A.d5,by rw[dz];exact A.lt,by rw[dz];exact A.k5⟩
theorem aml{C:ad}(x5:pH C)(A:bt h T n N wd b now us nd){at_:Int}:∃h',II C lf (.ptr T.a3 0) (I at_) h=some (.ret (.bm []),h')/\bt h' T n N wd b at_ us nd/\h'.next=h.next/\aD h h' (· =T.a3):=by
 have e:=x5 h T n N wd b now us nd A;have rF:=gN (n:=1) (off:=2) (y:=I at_) A.wt rfl (by omega) rfl;have ae:(U.int .i64 at_).cells=[I at_]:=rfl;rw[ae] at rF;refine⟨_,?_,A.XN at_,dz ..,fj rfl⟩;unfold II U9 Ph;simp only[aA,e,rF]
def Hf(C:ad):Prop:=∀h T n N wd b now us nd (ino mo:Int),bt h T n N wd b now us nd-> -9223372036854775808<=ino->ino<9223372036854775808->
 (c7 N us ino=false->C (.fn 56) [.ptr T.a3 0,I ino,I mo] h=some (.ret (I 2),h))/\
 (∀i m,i<N->us i=true->ino=((i+1:Nat):Int)->nd i 7=I m->∃h',C (.fn 56) [.ptr T.a3 0,I ino,I mo] h=some (.ret (I 0),h')/\
   bt h' T n N wd b now us (cU (cU nd i 7 (I (w8 m mo))) i 10 (I now))/\h'.next=h.next/\aD h h' (· =T.aK))
theorem aCJ{C:ad}(fu:mh C)(A:bt h T n N wd b now us nd){mo:Int}(b4: -9223372036854775808<=ino)(cv:ino<9223372036854775808):
 (c7 N us ino=false->Dw C lf (.ptr T.a3 0) (I ino) (I mo) h=some (.ret (I 2),h))/\
 (∀i m,i<N->us i=true->ino=((i+1:Nat):Int)->nd i 7=I m->∃h',Dw C lf (.ptr T.a3 0) (I ino) (I mo) h=some (.ret (I 0),h')/\
   bt h' T n N wd b now us (cU (cU nd i 7 (I (w8 m mo))) i 10 (I now))/\h'.next=h.next/\aD h h' (· =T.aK)):=by
 have d2:decide ((2:Int)≠0)=true:=rfl;have d0:decide ((0:Int)≠0)=false:=rfl;unfold Dw Va Pj;refine⟨λag=>?_,λi m hi hu e hm=>?_⟩
 ·simp only[aA,tE fu A b4 cv ag,List.getElem?_cons_zero,List.getElem?_cons_succ,d2]
 ·subst e;have DY:=A.dO i 7 hi (by omega);rw[hm] at DY;obtain⟨h1,s1,bX,cA,aL⟩:=rE A hi (c:=7) (by omega) (by omega) (w8 m mo);obtain⟨h2,s2,dh,ck,bw⟩:=rE bX hi (c:=10) (by omega) (by omega) now;have yu:i*308+1+6=i*308+7:=rfl;have j7:i*308+1+9=i*308+10:=rfl;have Eg:IntKind.i64.wrap ((BitVec.ofInt 64 m&&& BitVec.ofInt 64 61440).toNat:Int)=lI m:=rfl;have y7:IntKind.i64.wrap ((BitVec.ofInt 64 (lI m)|||BitVec.ofInt 64 (IntKind.i64.wrap ((BitVec.ofInt 64 mo&&& BitVec.ofInt 64 4095).toNat:Int))).toNat:Int)=w8 m mo:=rfl;refine⟨h2,?_,dh,ck.trans cA,aL.trans bw⟩;simp only[aA,tF fu A hi hu,List.getElem?_cons_zero,List.getElem?_cons_succ,d0,yu,j7,DY,CY,ZK,Eg,y7,s1,bX.a1,s2]
def Hh(C:ad):Prop:=∀h T n N wd b now us nd (ino a m:Int),bt h T n N wd b now us nd-> -9223372036854775808<=ino->ino<9223372036854775808->
 (c7 N us ino=false->C (.fn 58) [.ptr T.a3 0,I ino,I a,I m] h=some (.ret (I 2),h))/\
 (∀i,i<N->us i=true->ino=((i+1:Nat):Int)->∃h',C (.fn 58) [.ptr T.a3 0,I ino,I a,I m] h=some (.ret (I 0),h')/\
   bt h' T n N wd b now us (cU (cU (cU nd i 8 (I a)) i 9 (I m)) i 10 (I now))/\h'.next=h.next/\aD h h' (· =T.aK))
theorem aCM{C:ad}(fu:mh C)(A:bt h T n N wd b now us nd){a m:Int}(b4: -9223372036854775808<=ino)(cv:ino<9223372036854775808):
 (c7 N us ino=false->Dx C lf (.ptr T.a3 0) (I ino) (I a) (I m) h=some (.ret (I 2),h))/\
 (∀i,i<N->us i=true->ino=((i+1:Nat):Int)->∃h',Dx C lf (.ptr T.a3 0) (I ino) (I a) (I m) h=some (.ret (I 0),h')/\
   bt h' T n N wd b now us (cU (cU (cU nd i 8 (I a)) i 9 (I m)) i 10 (I now))/\h'.next=h.next/\aD h h' (· =T.aK)):=by
 have d2:decide ((2:Int)≠0)=true:=rfl;have d0:decide ((0:Int)≠0)=false:=rfl;unfold Dx Vg Pk;refine⟨λag=>?_,λi hi hu e=>?_⟩
 ·simp only[aA,tE fu A b4 cv ag,List.getElem?_cons_zero,List.getElem?_cons_succ,d2]
 ·subst e;obtain⟨h1,s1,bX,cA,aL⟩:=rE A hi (c:=8) (by omega) (by omega) a;obtain⟨h2,s2,dh,ck,bw⟩:=rE bX hi (c:=9) (by omega) (by omega) m;obtain⟨h3,ea,ft,e6,c2⟩:=rE dh hi (c:=10) (by omega) (by omega) now;have wz:i*308+1+7=i*308+8:=rfl;have pT:i*308+1+8=i*308+9:=rfl;have j7:i*308+1+9=i*308+10:=rfl;refine⟨h3,?_,ft,by omega,(aL.trans bw).trans c2⟩;simp only[aA,tF fu A hi hu,List.getElem?_cons_zero,List.getElem?_cons_succ,d0,wz,pT,j7,A.a1,s1,s2,ea]
def rm(nd:Nat->Nat->U)(i:Nat)(u g now:Int):Nat->Nat->U:=cU (if 0<=g then cU (if 0<=u then cU nd i 3 (I u) else nd) i 4 (I g) else if 0<=u then cU nd i 3 (I u) else nd) i 10 (I now)
def Hg(C:ad):Prop:=∀h T n N wd b now us nd (ino u g:Int),bt h T n N wd b now us nd-> -9223372036854775808<=ino->ino<9223372036854775808->
 (c7 N us ino=false->C (.fn 57) [.ptr T.a3 0,I ino,I u,I g] h=some (.ret (I 2),h))/\
 (∀i,i<N->us i=true->ino=((i+1:Nat):Int)->((u < -1\/g < -1)->C (.fn 57) [.ptr T.a3 0,I ino,I u,I g] h=some (.ret (I 22),h))/\
   (¬(u < -1\/g < -1)->∃h',C (.fn 57) [.ptr T.a3 0,I ino,I u,I g] h=some (.ret (I 0),h')/\
     bt h' T n N wd b now us (rm nd i u g now)/\h'.next=h.next/\aD h h' (· =T.aK)))
theorem aCL{C:ad}(fu:mh C)(A:bt h T n N wd b now us nd){u g:Int}(b4: -9223372036854775808<=ino)(cv:ino<9223372036854775808):
 (c7 N us ino=false->A5 C lf (.ptr T.a3 0) (I ino) (I u) (I g) h=some (.ret (I 2),h))/\
 (∀i,i<N->us i=true->ino=((i+1:Nat):Int)->((u < -1\/g < -1)->A5 C lf (.ptr T.a3 0) (I ino) (I u) (I g) h=some (.ret (I 22),h))/\
   (¬(u < -1\/g < -1)->∃h',A5 C lf (.ptr T.a3 0) (I ino) (I u) (I g) h=some (.ret (I 0),h')/\
     bt h' T n N wd b now us (rm nd i u g now)/\h'.next=h.next/\aD h h' (· =T.aK))):=by
 have d2:decide ((2:Int)≠0)=true:=rfl;have d0:decide ((0:Int)≠0)=false:=rfl;unfold A5 Vf agR agQ agP;refine⟨λag=>?_,λi hi hu e=>?_⟩
 ·simp only[aA,tE fu A b4 cv ag,List.getElem?_cons_zero,List.getElem?_cons_succ];unfold Ve Vd yA;simp only[aA,d2]
 ·subst e;simp only[aA,tF fu A hi hu,List.getElem?_cons_zero,List.getElem?_cons_succ];unfold Ve Vd;simp only[aA,d0];unfold agO agN;refine⟨λag=>?_,λag=>?_⟩
  ·unfold yA;by_cases h1:u < -1
   ·simp only[aA,bu h1]
   ·have h2:g < -1:=by omega
    simp only[aA,br h1,bu h2]
  ·have h1:decide (u < -1)=false:=br (by omega);have h2:decide (g < -1)=false:=br (by omega);have b9:i*308+1+2=i*308+3:=rfl;have ee:i*308+1+3=i*308+4:=rfl;have j7:i*308+1+9=i*308+10:=rfl;simp only[aA,h1,h2];unfold agM agL
   have fin:∀h2 w9,bt h2 T n N wd b now us w9->∃h',Vb C lf yA (some (.ptr T.a3 0)) (some (.ptr T.aK (i*308))) h2=some (.ret (I 0),h')/\bt h' T n N wd b now us (cU w9 i 10 (I now))/\h'.next=h2.next/\aD h2 h' (· =T.aK):=λh2 w9 dh=>by
    obtain⟨h3,ea,ft,e6,c2⟩:=rE dh hi (c:=10) (by omega) (by omega) now;refine⟨h3,?_,ft,e6,c2⟩;unfold Vb yA;simp only[aA,dh.a1,j7,ea]
   have DM:∀h2 w9,bt h2 T n N wd b now us w9->∃h',Vc C lf yA (some (.ptr T.a3 0)) (some (I g)) (some (.ptr T.aK (i*308))) h2=some (.ret (I 0),h')/\
    bt h' T n N wd b now us (cU (if 0<=g then cU w9 i 4 (I g) else w9) i 10 (I now))/\h'.next=h2.next/\aD h2 h' (· =T.aK):=λh2 w9 dh=>by
    unfold Vc agK;by_cases bc:0<=g
    ·obtain⟨h3,ea,ft,e6,c2⟩:=rE dh hi (c:=4) (by omega) (by omega) g;obtain⟨aT,e2,kP,jm,fK⟩:=fin h3 _ ft;rw[if_pos bc];refine⟨aT,?_,kP,by omega,c2.trans fK⟩;simp only[aA,bu bc,ee,ea];exact e2
    ·obtain⟨aT,e2,kP,jm,fK⟩:=fin h2 _ dh;rw[if_neg bc];refine⟨aT,?_,kP,jm,fK⟩;simp only[aA,br bc];exact e2
   by_cases vi:0<=u
   ·obtain⟨h3,ea,ft,e6,c2⟩:=rE A hi (c:=3) (by omega) (by omega) u;obtain⟨aT,e2,kP,jm,fK⟩:=DM h3 _ ft;refine⟨aT,?_,by unfold rm;rw[if_pos vi];exact kP,by omega,c2.trans fK⟩;simp only[aA,bu vi,b9,ea];exact e2
   ·obtain⟨aT,e2,kP,jm,fK⟩:=DM h _ A;refine⟨aT,?_,by unfold rm;rw[if_neg vi];exact kP,jm,fK⟩;simp only[aA,br vi];exact e2
end
def An(i:Nat)(L H:Int)(wd de:Nat->Nat)(us eh:Nat->Bool)(nd e1:Nat->Nat->U)(bl bl':Nat->Nat->Nat):Prop:=
 ((L≠0\/H≠0)/\de=wd/\eh=us/\e1=nd/\bl'=bl)\/
 (L=0/\H=0/\eh=da us i false/\e1=iE nd i fJ/\bl'=nu bl i/\∀j,bP de j=true↔(bP wd j=true/\∀c,12<=c->c<308->bl i c≠j+1))
section
variable{lf:Nat}{h:J}{T:dS}{n N:Nat}{wd b:Nat->Nat}{now:Int}{us:Nat->Bool}{nd:Nat->Nat->U}{bl:Nat->Nat->Nat}{i:Nat}{ino:Int}
theorem abi{C:ad}(Fr:CF C)(A:bt h T n N wd b now us nd)(M:c3 n N wd nd bl)(hi:i<N){L H:Int}(hx:nd i 2=I L)(iN:nd i 11=I H):
 ∃h' de eh e1 bl',C (.fn 89) [.ptr T.a3 0,.ptr T.aK (i*308)] h=some (.ret (.bm []),h')/\bt h' T n N de b now eh e1/\c3 n N de e1 bl'/\An i L H wd de us eh nd e1 bl bl'/\aD h h' (λj=>j=T.bL\/j=T.aK):=by
 obtain⟨f1,f2⟩:=Fr h T n N wd b now us nd bl i L H A M hi hx iN;by_cases aX:L≠0\/H≠0
 ·exact⟨h,wd,us,nd,bl,f1 aX,A,M,.inl ⟨aX,rfl,rfl,rfl,rfl⟩,aD.refl _ _⟩
 ·have h1:L=0:=by omega
  have h2:H=0:=by omega
  obtain⟨h',de,az,ay,b9,ee,iI⟩:=f2 h1 h2;exact⟨h',de,_,_,_,az,ay,b9,.inr ⟨h1,h2,rfl,rfl,rfl,ee⟩,iI⟩
def GI(C:ad):Prop:=∀h T n N wd b now us nd (ino:Int),bt h T n N wd b now us nd-> -9223372036854775808<=ino->ino<9223372036854775808->
 (c7 N us ino=false->C (.fn 60) [.ptr T.a3 0,I ino] h=some (.ret (I 2),h))/\
 (∀i H,i<N->us i=true->ino=((i+1:Nat):Int)->nd i 11=I H->∃h',C (.fn 60) [.ptr T.a3 0,I ino] h=some (.ret (I 0),h')/\
   bt h' T n N wd b now us (cU nd i 11 (I (IntKind.i64.wrap (H+1))))/\h'.next=h.next/\aD h h' (· =T.aK))
theorem aqi{C:ad}(fu:mh C)(A:bt h T n N wd b now us nd)(b4: -9223372036854775808<=ino)(cv:ino<9223372036854775808):
 (c7 N us ino=false->Dy C lf (.ptr T.a3 0) (I ino) h=some (.ret (I 2),h))/\
 (∀i H,i<N->us i=true->ino=((i+1:Nat):Int)->nd i 11=I H->∃h',Dy C lf (.ptr T.a3 0) (I ino) h=some (.ret (I 0),h')/\
   bt h' T n N wd b now us (cU nd i 11 (I (IntKind.i64.wrap (H+1))))/\h'.next=h.next/\aD h h' (· =T.aK)):=by
 have d2:decide ((2:Int)≠0)=true:=rfl;have d0:decide ((0:Int)≠0)=false:=rfl;unfold Dy Vi Pm;refine⟨λag=>?_,λi H hi hu e iN=>?_⟩
 ·simp only[aA,tE fu A b4 cv ag,List.getElem?_cons_zero,List.getElem?_cons_succ,d2]
 ·subst e;have ae:=A.dO i 11 hi (by omega);rw[iN] at ae;obtain⟨h1,s1,bX,cA,aL⟩:=rE A hi (c:=11) (by omega) (by omega) (IntKind.i64.wrap (H+1));refine⟨h1,?_,bX,cA,aL⟩;simp only[aA,tF fu A hi hu,List.getElem?_cons_zero,List.getElem?_cons_succ,d0,ae,s1]
def He(C:ad):Prop:=∀h T n N wd b now us nd bl (ino:Int),bt h T n N wd b now us nd->c3 n N wd nd bl-> -9223372036854775808<=ino->ino<9223372036854775808->
 (c7 N us ino=false->C (.fn 61) [.ptr T.a3 0,I ino] h=some (.ret (I 2),h))/\
 (∀i L H,i<N->us i=true->ino=((i+1:Nat):Int)->nd i 2=I L->nd i 11=I H->(H=0->C (.fn 61) [.ptr T.a3 0,I ino] h=some (.ret (I 22),h))/\
   (H≠0->∃h' de eh e1 bl',C (.fn 61) [.ptr T.a3 0,I ino] h=some (.ret (I 0),h')/\bt h' T n N de b now eh e1/\c3 n N de e1 bl'/\
     An i L (IntKind.i64.wrap (H-1)) wd de us eh (cU nd i 11 (I (IntKind.i64.wrap (H-1)))) e1 bl bl'/\aD h h' (λj=>j=T.bL\/j=T.aK)))
theorem aBC{C:ad}(fu:mh C)(Fr:CF C)(A:bt h T n N wd b now us nd)(M:c3 n N wd nd bl)(b4: -9223372036854775808<=ino)(cv:ino<9223372036854775808):
 (c7 N us ino=false->A6 C lf (.ptr T.a3 0) (I ino) h=some (.ret (I 2),h))/\
 (∀i L H,i<N->us i=true->ino=((i+1:Nat):Int)->nd i 2=I L->nd i 11=I H->(H=0->A6 C lf (.ptr T.a3 0) (I ino) h=some (.ret (I 22),h))/\
   (H≠0->∃h' de eh e1 bl',A6 C lf (.ptr T.a3 0) (I ino) h=some (.ret (I 0),h')/\bt h' T n N de b now eh e1/\c3 n N de e1 bl'/\
     An i L (IntKind.i64.wrap (H-1)) wd de us eh (cU nd i 11 (I (IntKind.i64.wrap (H-1)))) e1 bl bl'/\aD h h' (λj=>j=T.bL\/j=T.aK))):=by
 have d2:decide ((2:Int)≠0)=true:=rfl;have d0:decide ((0:Int)≠0)=false:=rfl;unfold A6 Vj Pn;refine⟨λag=>?_,λi L H hi hu e hx iN=>⟨λaX=>?_,λaX=>?_⟩⟩
 ·simp only[aA,tE fu A b4 cv ag,List.getElem?_cons_zero,List.getElem?_cons_succ,d2]
 ·subst e;have ae:=A.dO i 11 hi (by omega);rw[iN] at ae;simp only[aA,tF fu A hi hu,List.getElem?_cons_zero,List.getElem?_cons_succ,d0,ae,bu aX]
 ·subst e;have ae:=A.dO i 11 hi (by omega);rw[iN] at ae;obtain⟨h1,s1,bX,cA,aL⟩:=rE A hi (c:=11) (by omega) (by omega) (IntKind.i64.wrap (H-1));obtain⟨h2,de,eh,e1,bl',a1,dh,M2,nm,bw⟩:=abi Fr bX (M.lu (by omega)) hi (L:=L) (H:=IntKind.i64.wrap (H-1)) (by rw[hn _ _ (by omega)];exact hx) (mO ..);refine⟨h2,de,eh,e1,bl',?_,dh,M2,nm,(aL.ei λ_ e=> .inr e).trans bw⟩;simp only[aA,tF fu A hi hu,List.getElem?_cons_zero,List.getElem?_cons_succ,d0,ae,br aX,s1,a1]
def GN(C:ad):Prop:=∀h T n N wd b now us nd bl (ino by_:Int),bt h T n N wd b now us nd->c3 n N wd nd bl-> -9223372036854775808<=ino->ino<9223372036854775808->
 (c7 N us ino=false->C (.fn 59) [.ptr T.a3 0,I ino,I by_] h=some (.ret (I 2),h))/\
 (∀i L H,i<N->us i=true->ino=((i+1:Nat):Int)->nd i 2=I L->0<=L->L<=16->nd i 11=I H->(by_ < -L->C (.fn 59) [.ptr T.a3 0,I ino,I by_] h=some (.ret (I 22),h))/\
   (16-L<by_->C (.fn 59) [.ptr T.a3 0,I ino,I by_] h=some (.ret (I 31),h))/\
   (-L<=by_->by_<=16-L->∃h' de eh e1 bl',C (.fn 59) [.ptr T.a3 0,I ino,I by_] h=some (.ret (I 0),h')/\bt h' T n N de b now eh e1/\c3 n N de e1 bl'/\
     An i (L+by_) H wd de us eh (cU (cU nd i 2 (I (L+by_))) i 10 (I now)) e1 bl bl'/\aD h h' (λj=>j=T.bL\/j=T.aK)))
theorem arw{C:ad}(fu:mh C)(Fr:CF C){by_:Int}(A:bt h T n N wd b now us nd)(M:c3 n N wd nd bl)(b4: -9223372036854775808<=ino)(cv:ino<9223372036854775808):
 (c7 N us ino=false->yF C lf (.ptr T.a3 0) (I ino) (I by_) h=some (.ret (I 2),h))/\
 (∀i L H,i<N->us i=true->ino=((i+1:Nat):Int)->nd i 2=I L->0<=L->L<=16->nd i 11=I H->(by_ < -L->yF C lf (.ptr T.a3 0) (I ino) (I by_) h=some (.ret (I 22),h))/\
   (16-L<by_->yF C lf (.ptr T.a3 0) (I ino) (I by_) h=some (.ret (I 31),h))/\
   (-L<=by_->by_<=16-L->∃h' de eh e1 bl',yF C lf (.ptr T.a3 0) (I ino) (I by_) h=some (.ret (I 0),h')/\bt h' T n N de b now eh e1/\c3 n N de e1 bl'/\
     An i (L+by_) H wd de us eh (cU (cU nd i 2 (I (L+by_))) i 10 (I now)) e1 bl bl'/\aD h h' (λj=>j=T.bL\/j=T.aK))):=by
 have d2:decide ((2:Int)≠0)=true:=rfl;have d0:decide ((0:Int)≠0)=false:=rfl;unfold yF Vh Pl;refine⟨λag=>?_,λi L H hi hu e hx ao8 ao9 iN=>?_⟩
 ·simp only[aA,tE fu A b4 cv ag,List.getElem?_cons_zero,List.getElem?_cons_succ,d2]
 ·subst e;have ae:=A.dO i 2 hi (by omega);rw[hx] at ae;have ay:i*308+1+1=i*308+2:=rfl;have j7:i*308+1+9=i*308+10:=rfl;have cP:IntKind.i64.wrap (-L)= -L:=by rw[wrap_i64 (by omega) (by omega)]
  have cV:IntKind.i64.wrap (16-L)=16-L:=by rw[wrap_i64 (by omega) (by omega)]
  refine⟨λh1=>?_,λh1=>?_,λh1 h2=>?_⟩
  ·simp only[aA,tF fu A hi hu,List.getElem?_cons_zero,List.getElem?_cons_succ,d0,ay,ae,Cl,cP,bu h1]
  ·have h0:decide (by_ < -L)=false:=br (by omega);simp only[aA,tF fu A hi hu,List.getElem?_cons_zero,List.getElem?_cons_succ,d0,ay,ae,Cl,cP,cV,h0,bu h1]
  ·have h0:decide (by_ < -L)=false:=br (by omega);have h3:decide (16-L<by_)=false:=br (by omega);have fh:IntKind.i64.wrap (L+by_)=L+by_:=by rw[wrap_i64 (by omega) (by omega)]
   obtain⟨g1,s1,bX,cA,aL⟩:=rE A hi (c:=2) (by omega) (by omega) (L+by_);obtain⟨g2,s2,dh,ck,bw⟩:=rE bX hi (c:=10) (by omega) (by omega) now;obtain⟨g3,de,eh,e1,bl',cm,ft,M9,MZ,c2⟩:=abi Fr dh ((M.lu (by omega)).lu (by omega)) hi (L:=L+by_) (H:=H) (by rw[hn _ _ (by omega),mO]) (by rw[hn _ _ (by omega),hn _ _ (by omega)];exact iN);refine⟨g3,de,eh,e1,bl',?_,ft,M9,MZ,((aL.trans bw).ei λ_ e=> .inr e).trans c2⟩;simp only[aA,tF fu A hi hu,List.getElem?_cons_zero,List.getElem?_cons_succ,d0,ay,j7,ae,Cl,cP,cV,fh,h0,h3,s1,bX.a1,s2,cm]
def ye(C:ad):Prop:=∀h T n N wd b now us nd bl (ino:Int),bt h T n N wd b now us nd->c3 n N wd nd bl-> -9223372036854775808<=ino->ino<9223372036854775808->
 (c7 N us ino=false->C (.fn 51) [.ptr T.a3 0,I ino] h=some (.ret (.bm [.val (.slice none 0 0),I 2]),h))/\
 (∀i,i<N->us i=true->ino=((i+1:Nat):Int)->∃x h',C (.fn 51) [.ptr T.a3 0,I ino] h=some (.ret (.bm [x,I 0]),h')/\eQ h h' x (lK bl i)/\aD h h' (λ_=>False))
theorem aEw{C:ad}(fu:mh C)(oN:GU C)(A:bt h T n N wd b now us nd)(M:c3 n N wd nd bl)(b4: -9223372036854775808<=ino)(cv:ino<9223372036854775808):
 (c7 N us ino=false->Dv C lf (.ptr T.a3 0) (I ino) h=some (.ret (.bm [.val (.slice none 0 0),I 2]),h))/\
 (∀i,i<N->us i=true->ino=((i+1:Nat):Int)->∃x h',Dv C lf (.ptr T.a3 0) (I ino) h=some (.ret (.bm [x,I 0]),h')/\eQ h h' x (lK bl i)/\aD h h' (λ_=>False)):=by
 have d2:decide ((2:Int)≠0)=true:=rfl;have d0:decide ((0:Int)≠0)=false:=rfl;unfold Dv UO Pe;refine⟨λag=>?_,λi hi hu e=>?_⟩
 ·simp only[aA,tE fu A b4 cv ag,List.getElem?_cons_zero,List.getElem?_cons_succ,d2]
 ·subst e;obtain⟨x,h1,aP,qu,aL⟩:=oN h T n N wd b now us nd bl i A M hi;refine⟨x,h1,?_,qu,aL⟩;simp only[aA,tF fu A hi hu,List.getElem?_cons_zero,List.getElem?_cons_succ,d0,aP]
end
noncomputable section
variable{C:ad}{lf:Nat}{ba a0 eA fz jU k3 q4 q5 q6 q7 q8 q9 q1 q2 q3:hp}{an:lj}
def mv:b1 ao:=dk 88 Tryd.f88 Tryd.func88 (by kernel_rfl)
noncomputable def AY(x8 x9:O)(h:J):ab:=
 ob x8 λa=>ob x9 λb=>some (.ret (.bm [a,b]),h)
def Lr(C:ad)(lf:Nat)(r:aS)(aU:O)(h:J):ab:=
 ob aU λa=>r (some a) (bD 0) h
theorem azE{r:aS}:∀F h,ar mv C lf [1,1,1,1,1,1] F h ba (a7 r 8 9) an=aM (Lr C lf r) 10 F h:=by
 intro F h;kernel_rfl
def WO(C:ad)(lf:Nat)(n:dp)(x0 x1 x3 aU x11 x12:O)(h:J):ab:=
 cB .add 3 x12 (I 1) λa=>n x0 x1 x3 aU x11 (some a) h
noncomputable def WH(C:ad)(lf:Nat)(n:dp)(x0 x1 x3 aU x11 x12 Gn:O)(h:J):ab:=
 ob aU λa=>ob Gn λb=>b2 (gp ao 24 1 [0] [b] h) λb k=>b2 (eX ao .append #[24,24] [a,b] k) λa=>n x0 x1 x3 (some a) x11 x12
def ahd(C:ad)(lf:Nat)(n:hY)(x0 x1 x3 aU x11 x12 ew Gn:O)(h:J):ab:=
 hC .gtr 3 ew (I 0) (e9 0 x0 λa=>eK 1 a h λa=>cB .sub 3 ew (I 1) λb=>ob (dQ 1 a b) λa=>ob (bO a h) λa=>cB .rem 3 x12 (I 64) λb=>ob (dQ 1 a b) λa=>ob (bO a h) λa=>n x0 x1 x3 aU x11 x12 (some a) h) (n x0 x1 x3 aU x11 x12 Gn h)
def WI(C:ad)(lf:Nat)(n:dp)(x0 x1 x3 aU x11 x12 ew Gn:O)(h:J):ab:=
 ahd C lf (WH C lf n) x0 x1 x3 aU x11 x12 ew Gn h
noncomputable def azD(C:ad)(lf:Nat)(n:rQ)(x0 x1 x3 aU x11 x12 ew:O)(h:J):ab:=
 n x0 x1 x3 aU x11 x12 ew (some (.int .u8 0)) h
def ahe(C:ad)(lf:Nat)(n:dp)(x0 x1 x3 aU x11 x12 ew:O)(h:J):ab:=
 azD C lf (WI C lf n) x0 x1 x3 aU x11 x12 ew h
def ahf(C:ad)(lf:Nat)(n:hY)(x0 x1 x3 aU x11 x12:O)(h:J):ab:=
 dw 4 x0 h λa=>ob x1 λb=>cB .quo 3 x12 (I 64) λc=>ob (dQ 308 a b) λa=>ob (bZ 12 a) λa=>ob (eu 278 1 a c) λa=>ob (bO a h) λa=>n x0 x1 x3 aU x11 x12 (some a) h
def ahg(C:ad)(lf:Nat)(n:dp)(x0 x1 x3 aU x11 x12:O)(h:J):ab:=
 ahf C lf (ahe C lf n) x0 x1 x3 aU x11 x12 h
def WJ(C:ad)(lf:Nat)(n:dp)(x0 x1 x3 aU x11 x12:O)(h:J):ab:=
 ahg C lf (WO C lf n) x0 x1 x3 aU x11 x12 h
def WK(C:ad)(lf:Nat)(n:dp)(av:aw)(x0 x1 x3 aU x11 x12:O)(h:J):ab:=
 oC .lss 3 x12 x11 λa=>b3 a aU h λb k=>b3 a (eG ao 24 b) k λb k=>b3 a x3 k λc k=>b3 a (bin ao .lss 3 b c) k λb k=>qn a b (n x0 x1 x3 aU x11 x12 k) (av aU k)
def FI(C:ad)(lf:Nat)(n:dp)(av:aw)(x0 x1 x3 aU x11 x12:O)(h:J):ab:=
 WK C lf (WJ C lf n) av x0 x1 x3 aU x11 x12 h
theorem azF{n:dp}{av:aw}:∀F h,ar mv C lf [1,1,1,1,1,0,1,0,0] F h (dD n 0 1 3 10 11 12) a0 (bI 0 (aM av 10) an)=dD (FI C lf n av) 0 1 3 10 11 12 F h:=by
 intro F h;kernel_rfl
def zq(C:ad)(lf:Nat)(av:aw)(k:O×O×O×O×O×O->J->ab)(s:O×O×O×O×O×O)(h:J):ab:=
 FI C lf (λa b c d g i=>k (a,b,c,d,g,i)) av s.1 s.2.1 s.2.2.1 s.2.2.2.1 s.2.2.2.2.1 s.2.2.2.2.2 h
noncomputable def WL(C:ad)(lf:Nat)(n:dp)(x0 x1 x2 x3 aU x11:O)(h:J):ab:=
 ob x2 λa=>n x0 x1 x3 aU x11 (some a) h
theorem azG{n:dp}:∀F h,ar mv C lf [1,1,1,1,1,0,0] F h (dD n 0 1 3 10 11 12) a0 an=dD (WL C lf n) 0 1 2 3 10 11 F h:=by
 intro F h;kernel_rfl
def WM(C:ad)(lf:Nat)(n:aw)(x0 x1 x2 x3 aU x11:O)(h:J):ab:=
 WL C lf (λa b c d g i=>bk (zq C lf n) lf (a,b,c,d,g,i)) x0 x1 x2 x3 aU x11 h
theorem azH{n:aw}:∀F h,ar mv C lf [1,1,1,1,1,0] F h (aM n 10) a0 an=dD (WM C lf n) 0 1 2 3 10 11 F h:=bg (b:=b7 mv [1,1,1,1,1,0,1]) (by kernel_rfl) (fY (id:=0) (a:=b7 mv [1,1,1,1,1,0,1,0]) (by kernel_rfl) (gJ (g:=λF=>(F 0,F 1,F 3,F 10,F 11,F 12)) (body:=zq C lf n) (by kernel_rfl) (λk=>(azF (n:=λx0 x1 x3 aU x11 x12 h=>k (x0,x1,x3,aU,x11,x12) h))))) (azG (n:=λx0 x1 x3 aU x11 x12 h=>bk (zq C lf n) lf (x0,x1,x3,aU,x11,x12) h))
def WN(C:ad)(lf:Nat)(r:aS)(x0 x1 x2 x3 aU x11:O)(h:J):ab:=
 WM C lf (Lr C lf r) x0 x1 x2 x3 aU x11 h
theorem azI{r:aS}:∀F h,ar mv C lf [1,1,1,1,1] F h ba (a7 r 8 9) an=dD (WN C lf r) 0 1 2 3 10 11 F h:=bg (by kernel_rfl) azE azH
def WQ(C:ad)(lf:Nat)(n:dp)(x0 x1 x2 x3 aU:O)(h:J):ab:=
 dw 4 x0 h λa=>k6 308 a x1 λa=>ob (bZ 1 a) λa=>eK 4 a h λa=>n x0 x1 x2 x3 aU (some a) h
theorem azJ{n:dp}:∀F h,ar mv C lf [1,1,1,1,0] F h (dD n 0 1 2 3 10 11) a0 an=cR (WQ C lf n) 0 1 2 3 10 F h:=by
 intro F h;kernel_rfl
def Ls(C:ad)(lf:Nat)(r:aS)(x0 x1 x2 x3 aU:O)(h:J):ab:=
 WQ C lf (WN C lf r) x0 x1 x2 x3 aU h
theorem azK{r:aS}:∀F h,ar mv C lf [1,1,1,1] F h ba (a7 r 8 9) an=cR (Ls C lf r) 0 1 2 3 10 F h:=bg (by kernel_rfl) azI azJ
noncomputable def ahh(C:ad)(lf:Nat)(n:cC)(x0 x1 x2 x3:O)(h:J):ab:=
 n x0 x1 x2 x3 (some (.val (.slice none 0 0))) h
theorem azL{n:cC}:∀F h,ar mv C lf [1,1,1,0] F h (cR n 0 1 2 3 10) a0 an=bj (ahh C lf n) 0 1 2 3 F h:=by
 intro F h;kernel_rfl
def WR(C:ad)(lf:Nat)(r:aS)(x0 x1 x2 x3:O)(h:J):ab:=
 ahh C lf (Ls C lf r) x0 x1 x2 x3 h
theorem azM{r:aS}:∀F h,ar mv C lf [1,1,1] F h ba (a7 r 8 9) an=bj (WR C lf r) 0 1 2 3 F h:=bg (by kernel_rfl) azK azL
def WS(C:ad)(lf:Nat)(n:bo)(r:aS)(x0 x1 x2 x3:O)(h:J):ab:=
 cB .lss 3 x2 (I 0) λa=>jg .lss 3 a x3 (I 0) h λb k=>mN a b (r (some (.val (.slice none 0 0))) (bD 22) k) (n x0 x1 x2 x3 k)
theorem azN{n:bo}{r:aS}:∀F h,ar mv C lf [1,1,0] F h (bj n 0 1 2 3) (a7 r 8 9) an=bj (WS C lf n r) 0 1 2 3 F h:=by
 intro F h;kernel_rfl
def Lt(C:ad)(lf:Nat)(r:aS)(x0 x1 x2 x3:O)(h:J):ab:=
 WS C lf (WR C lf r) r x0 x1 x2 x3 h
theorem azO{r:aS}:∀F h,ar mv C lf [1,1] F h ba (a7 r 8 9) an=bj (Lt C lf r) 0 1 2 3 F h:=bg (by kernel_rfl) azM azN
def Lu(C:ad)(lf:Nat)(n:bo)(r:aS)(x0 x1 x2 x3:O)(h:J):ab:=
 a1 C 104 x0 x1 h λa k=>fM a (r (some (.val (.slice none 0 0))) (bD 2) k) (n x0 x1 x2 x3 k)
theorem azP{n:bo}{r:aS}:∀F h,ar mv C lf [1,0] F h (bj n 0 1 2 3) (a7 r 8 9) an=bj (Lu C lf n r) 0 1 2 3 F h:=by
 intro F h;kernel_rfl
def ahi(C:ad)(lf:Nat)(r:aS)(x0 x1 x2 x3:O)(h:J):ab:=
 Lu C lf (Lt C lf r) r x0 x1 x2 x3 h
theorem azQ{r:aS}:∀F h,ar mv C lf [1] F h ba (a7 r 8 9) an=bj (ahi C lf r) 0 1 2 3 F h:=bg (by kernel_rfl) azO azP
noncomputable def ahj(C:ad)(lf:Nat)(n:bo)(x0 x1 x2 x3:O)(h:J):ab:=
 n x0 x1 x2 x3 h
theorem azR{n:bo}:∀F h,ar mv C lf [0] F h (bj n 0 1 2 3) a0 an=bj (ahj C lf n) 0 1 2 3 F h:=by
 intro F h;kernel_rfl
def WT(C:ad)(lf:Nat)(r:aS)(x0 x1 x2 x3:O)(h:J):ab:=
 ahj C lf (ahi C lf r) x0 x1 x2 x3 h
theorem azS{r:aS}:∀F h,ar mv C lf [] F h ba (a7 r 8 9) an=bj (WT C lf r) 0 1 2 3 F h:=bg (by kernel_rfl) azQ azR
def A8(C:ad)(lf:Nat)(ah aj aC a8:U)(h:J):ab:=WT C lf AY (some ah) (some aj) (some aC) (some a8) h
def adi:cx ao:=rT mv A8 (λC lf ah aj aC a8 h=>cS (K:=(a7 AY 8 9)) (by kernel_rfl) (Eq.trans (azS _ h) (by kernel_rfl))) (by kernel_rfl)
def lB:b1 ao:=dk 94 Tryd.f94 Tryd.func94 (by kernel_rfl)
noncomputable def pV(x8 x9:O)(h:J):ab:=
 ob x8 λa=>ob x9 λb=>some (.ret (.bm [a,b]),h)
def W4(C:ad)(lf:Nat)(r:aS)(x0 aU x11:O)(h:J):ab:=
 ob aU λa=>ob aU λb=>dw 3 x0 h λc=>dw 3 x0 h λd=>ef 1 a λa=>ob (bZ 8 a) λa=>ob (st 1 a c h) λk=>ef 1 b λa=>ob (bZ 9 a) λa=>ob (st 1 a d k) λk=>ob x11 λa=>r (some a) (bD 0) k
def ahm(C:ad)(lf:Nat)(n:bK)(x0 x2 aU x11:O)(h:J):ab:=
 oC .add 3 x2 x11 λa=>e9 1 aU λb=>eK 4 b h λb=>eH .gtr 3 a b (ob aU λa=>oC .add 3 x2 x11 λb=>ef 1 a λa=>ob (bZ 4 a) λa=>ob (st 1 a b h) (n x0 aU x11)) (n x0 aU x11 h)
def ahn(C:ad)(lf:Nat)(r:aS)(x0 x2 aU x11:O)(h:J):ab:=
 ahm C lf (W4 C lf r) x0 x2 aU x11 h
def W5(C:ad)(lf:Nat)(n:bo)(r:aS)(x0 x2 aU x11:O)(h:J):ab:=
 hC .eql 3 x11 (I 0) (r (bD 0) (bD 28) h) (n x0 x2 aU x11 h)
def xn(C:ad)(lf:Nat)(r:aS)(x0 x2 aU x11:O)(h:J):ab:=
 W5 C lf (ahn C lf r) r x0 x2 aU x11 h
theorem aAe{r:aS}:∀F h,ar lB C lf [1,1,1,1,1,1,1,1] F h ba (a7 r 8 9) an=bj (xn C lf r) 0 2 10 11 F h:=by
 intro F h;kernel_rfl
def vt(C:ad)(lf:Nat)(n:dp)(av:bo)(x0 x1 x2 x3 aU x11:O)(h:J):ab:=
 ob x11 λa=>nH 24 x3 λb=>cn .lss 3 a b λa=>b3 a x2 h λb k=>b3 a x11 k λc k=>jf .lss 3 a (bin ao .add 3 b c) (I 17792) k λb k=>qn a b (ob x0 λa=>ob x1 λb=>oC .add 3 x2 x11 λc=>cn .quo 3 c (I 64) λc=>cJ C 106 [a,b,c] k λa k=>fM a (av x0 x2 aU x11 k) (ob aU λa=>oC .add 3 x2 x11 λb=>cn .quo 3 b (I 64) λb=>ef 12 a λa=>ob (eu 278 1 a b) λa=>ob (bO a k) λa=>cn .sub 3 a (I 1) λa=>e9 0 x0 λb=>eK 1 b k λb=>ob (dQ 1 b a) λa=>ob (bO a k) λa=>oC .add 3 x2 x11 λb=>cn .rem 3 b (I 64) λb=>ob x3 λc=>sG 1 c x11 k λc=>ob (dQ 1 a b) λa=>ob (st 1 a c k) λk=>cB .add 3 x11 (I 1) λa=>n x0 x1 x2 x3 aU (some a) k)) (av x0 x2 aU x11 k)
theorem aAf{n:dp}{av:bo}:∀F h,ar lB C lf [1,1,1,1,1,1,1,0,0,0] F h (dD n 0 1 2 3 10 11) a0 (bI 0 (bj av 0 2 10 11) an)=dD (vt C lf n av) 0 1 2 3 10 11 F h:=by
 intro F h;kernel_rfl
def zr(C:ad)(lf:Nat)(av:bo)(k:O×O×O×O×O×O->J->ab)(s:O×O×O×O×O×O)(h:J):ab:=
 vt C lf (λa b c d g i=>k (a,b,c,d,g,i)) av s.1 s.2.1 s.2.2.1 s.2.2.2.1 s.2.2.2.2.1 s.2.2.2.2.2 h
def Lz(C:ad)(lf:Nat)(r:aS)(x0 x1 x2 x3 aU x11:O)(h:J):ab:=
 bk (zr C lf (xn C lf r)) lf (x0,x1,x2,x3,aU,x11) h
theorem aAg{r:aS}:∀F h,ar lB C lf [1,1,1,1,1,1,1] F h ba (a7 r 8 9) an=dD (Lz C lf r) 0 1 2 3 10 11 F h:=bg (a:=b7 lB [1,1,1,1,1,1,1,0]) (by kernel_rfl) aAe (fY (id:=0) (a:=b7 lB [1,1,1,1,1,1,1,0,0]) (by kernel_rfl) (gJ (g:=λF=>(F 0,F 1,F 2,F 3,F 10,F 11)) (body:=zr C lf (λx0 x2 aU x11 h=>xn C lf r x0 x2 aU x11 h)) (by kernel_rfl) (λk=>(aAf (n:=λx0 x1 x2 x3 aU x11 h=>k (x0,x1,x2,x3,aU,x11) h)))))
def aho(C:ad)(lf:Nat)(n:dp)(x0 x1 x2 x3 aU:O)(h:J):ab:=
 n x0 x1 x2 x3 aU (bD 0) h
theorem aAh{n:dp}:∀F h,ar lB C lf [1,1,1,1,1,1,0] F h (dD n 0 1 2 3 10 11) a0 an=cR (aho C lf n) 0 1 2 3 10 F h:=by
 intro F h;kernel_rfl
def W6(C:ad)(lf:Nat)(r:aS)(x0 x1 x2 x3 aU:O)(h:J):ab:=
 aho C lf (Lz C lf r) x0 x1 x2 x3 aU h
theorem aAi{r:aS}:∀F h,ar lB C lf [1,1,1,1,1,1] F h ba (a7 r 8 9) an=cR (W6 C lf r) 0 1 2 3 10 F h:=bg (by kernel_rfl) aAg aAh
def W1(C:ad)(lf:Nat)(n:cC)(x0 x1 x2 x3:O)(h:J):ab:=
 dw 4 x0 h λa=>k6 308 a x1 λa=>n x0 x1 x2 x3 (some a) h
theorem az2{n:cC}:∀F h,ar lB C lf [1,1,1,1,1,0] F h (cR n 0 1 2 3 10) a0 an=bj (W1 C lf n) 0 1 2 3 F h:=by
 intro F h;kernel_rfl
def W2(C:ad)(lf:Nat)(r:aS)(x0 x1 x2 x3:O)(h:J):ab:=
 W1 C lf (W6 C lf r) x0 x1 x2 x3 h
theorem az3{r:aS}:∀F h,ar lB C lf [1,1,1,1,1] F h ba (a7 r 8 9) an=bj (W2 C lf r) 0 1 2 3 F h:=bg (by kernel_rfl) aAi az2
def Lv(C:ad)(lf:Nat)(n:bo)(r:aS)(x0 x1 x2 x3:O)(h:J):ab:=
 hC .geq 3 x2 (I 17792) (r (bD 0) (bD 27) h) (n x0 x1 x2 x3 h)
theorem az4{n:bo}{r:aS}:∀F h,ar lB C lf [1,1,1,1,0] F h (bj n 0 1 2 3) (a7 r 8 9) an=bj (Lv C lf n r) 0 1 2 3 F h:=by
 intro F h;kernel_rfl
def Lw(C:ad)(lf:Nat)(r:aS)(x0 x1 x2 x3:O)(h:J):ab:=
 Lv C lf (W2 C lf r) r x0 x1 x2 x3 h
theorem az5{r:aS}:∀F h,ar lB C lf [1,1,1,1] F h ba (a7 r 8 9) an=bj (Lw C lf r) 0 1 2 3 F h:=bg (by kernel_rfl) az3 az4
def FL(C:ad)(lf:Nat)(n:bo)(r:aS)(x0 x1 x2 x3:O)(h:J):ab:=
 nH 24 x3 λa=>eH .eql 3 a (I 0) (r (bD 0) (bD 0) h) (n x0 x1 x2 x3 h)
theorem az6{n:bo}{r:aS}:∀F h,ar lB C lf [1,1,1,0] F h (bj n 0 1 2 3) (a7 r 8 9) an=bj (FL C lf n r) 0 1 2 3 F h:=by
 intro F h;kernel_rfl
def B8(C:ad)(lf:Nat)(r:aS)(x0 x1 x2 x3:O)(h:J):ab:=
 FL C lf (Lw C lf r) r x0 x1 x2 x3 h
theorem az7{r:aS}:∀F h,ar lB C lf [1,1,1] F h ba (a7 r 8 9) an=bj (B8 C lf r) 0 1 2 3 F h:=bg (by kernel_rfl) az5 az6
def B9(C:ad)(lf:Nat)(n:bo)(r:aS)(x0 x1 x2 x3:O)(h:J):ab:=
 hC .lss 3 x2 (I 0) (r (bD 0) (bD 22) h) (n x0 x1 x2 x3 h)
theorem az8{n:bo}{r:aS}:∀F h,ar lB C lf [1,1,0] F h (bj n 0 1 2 3) (a7 r 8 9) an=bj (B9 C lf n r) 0 1 2 3 F h:=by
 intro F h;kernel_rfl
def Lx(C:ad)(lf:Nat)(r:aS)(x0 x1 x2 x3:O)(h:J):ab:=
 B9 C lf (B8 C lf r) r x0 x1 x2 x3 h
theorem az9{r:aS}:∀F h,ar lB C lf [1,1] F h ba (a7 r 8 9) an=bj (Lx C lf r) 0 1 2 3 F h:=bg (by kernel_rfl) az7 az8
def Ly(C:ad)(lf:Nat)(n:bo)(r:aS)(x0 x1 x2 x3:O)(h:J):ab:=
 a1 C 104 x0 x1 h λa k=>fM a (r (bD 0) (bD 2) k) (n x0 x1 x2 x3 k)
theorem aAa{n:bo}{r:aS}:∀F h,ar lB C lf [1,0] F h (bj n 0 1 2 3) (a7 r 8 9) an=bj (Ly C lf n r) 0 1 2 3 F h:=by
 intro F h;kernel_rfl
def ahk(C:ad)(lf:Nat)(r:aS)(x0 x1 x2 x3:O)(h:J):ab:=
 Ly C lf (Lx C lf r) r x0 x1 x2 x3 h
theorem aAb{r:aS}:∀F h,ar lB C lf [1] F h ba (a7 r 8 9) an=bj (ahk C lf r) 0 1 2 3 F h:=bg (by kernel_rfl) az9 aAa
noncomputable def ahl(C:ad)(lf:Nat)(n:bo)(x0 x1 x2 x3:O)(h:J):ab:=
 n x0 x1 x2 x3 h
theorem aAc{n:bo}:∀F h,ar lB C lf [0] F h (bj n 0 1 2 3) a0 an=bj (ahl C lf n) 0 1 2 3 F h:=by
 intro F h;kernel_rfl
def W3(C:ad)(lf:Nat)(r:aS)(x0 x1 x2 x3:O)(h:J):ab:=
 ahl C lf (ahk C lf r) x0 x1 x2 x3 h
theorem aAd{r:aS}:∀F h,ar lB C lf [] F h ba (a7 r 8 9) an=bj (W3 C lf r) 0 1 2 3 F h:=bg (by kernel_rfl) aAb aAc
def wH(C:ad)(lf:Nat)(ah aj aC a8:U)(h:J):ab:=W3 C lf pV (some ah) (some aj) (some aC) (some a8) h
def ado:cx ao:=rT lB wH (λC lf ah aj aC a8 h=>cS (K:=(a7 pV 8 9)) (by kernel_rfl) (Eq.trans (aAd _ h) (by kernel_rfl))) (by kernel_rfl)
def Bb:b1 ao:=dk 95 Tryd.f95 Tryd.func95 (by kernel_rfl)
noncomputable def Dj(h:J):ab:=
 some (.ret (.bm []),h)
def Ca(C:ad)(lf:Nat)(n:bK)(av:cu)(x0 bC eD:O)(h:J):ab:=
 lb .lss 3 eD bC (ob eD λa=>ob x0 λb=>ob (dQ 1 b a) λa=>ob (st 1 a (.int .u8 99) h) λk=>cB .add 3 eD (I 1) λa=>n x0 bC (some a) k) (av h)
theorem aAj{n:bK}{av:cu}:∀F h,ar Bb C lf [1,0,0] F h (bG n 0 4 5) a0 (bI 0 (ed av) an)=bG (Ca C lf n av) 0 4 5 F h:=by
 intro F h;kernel_rfl
def zt(C:ad)(lf:Nat)(av:cu)(k:O×O×O->J->ab)(s:O×O×O)(h:J):ab:=
 Ca C lf (λa b c=>k (a,b,c)) av s.1 s.2.1 s.2.2 h
def W7(C:ad)(lf:Nat)(n:bK)(x0:O)(h:J):ab:=
 nH 24 x0 λa=>n x0 (some a) (bD 0) h
theorem aAk{n:bK}:∀F h,ar Bb C lf [0] F h (bG n 0 4 5) a0 an=aM (W7 C lf n) 0 F h:=by
 intro F h;kernel_rfl
def W8(C:ad)(lf:Nat)(n:cu)(x0:O)(h:J):ab:=
 W7 C lf (λa b c=>bk (zt C lf n) lf (a,b,c)) x0 h
theorem aAl{n:cu}:∀F h,ar Bb C lf [] F h (ed n) a0 an=aM (W8 C lf n) 0 F h:=bg (b:=b7 Bb [1]) (by kernel_rfl) (fY (id:=0) (a:=b7 Bb [1,0]) (by kernel_rfl) (gJ (g:=λF=>(F 0,F 4,F 5)) (body:=zt C lf n) (by kernel_rfl) (λk=>(aAj (n:=λx0 bC eD h=>k (x0,bC,eD) h))))) (aAk (n:=λx0 bC eD h=>bk (zt C lf n) lf (x0,bC,eD) h))
def I7(C:ad)(lf:Nat)(ah:U)(h:J):ab:=W8 C lf Dj (some ah) h
def adp:cx ao:=hZ Bb I7 (λC lf ah h=>cS (K:=(ed Dj)) (by kernel_rfl) (Eq.trans (aAl _ h) (by kernel_rfl))) (by kernel_rfl)
def je:b1 ao:=dk 96 Tryd.f96 Tryd.func96 (by kernel_rfl)
noncomputable def qG(aG:O)(h:J):ab:=
 ob aG λa=>some (.ret a,h)
def zT(C:ad)(lf:Nat)(r:aw)(x0 x2 x7:O)(h:J):ab:=
 ob x7 λa=>ob x2 λb=>ef 1 a λa=>ob (bZ 4 a) λa=>ob (st 1 a b h) λk=>ob x7 λa=>ob x7 λb=>dw 3 x0 k λc=>dw 3 x0 k λd=>ef 1 a λa=>ob (bZ 8 a) λa=>ob (st 1 a c k) λk=>ef 1 b λa=>ob (bZ 9 a) λa=>ob (st 1 a d k) (r (bD 0))
theorem aAu{r:aw}:∀F h,ar je C lf [1,1,1,1,1,1,1] F h ba (aM r 6) an=bG (zT C lf r) 0 2 7 F h:=by
 intro F h;kernel_rfl
def FN(C:ad)(lf:Nat)(n:cC)(av:bK)(x0 x2 x7 x8 x9:O)(h:J):ab:=
 hC .lss 3 x9 (I 64) (ob x8 λa=>k6 1 a x9 λa=>ob (st 1 a (.int .u8 0) h) λk=>cB .add 3 x9 (I 1) λa=>n x0 x2 x7 x8 (some a) k) (av x0 x2 x7 h)
theorem aAv{n:cC}{av:bK}:∀F h,ar je C lf [1,1,1,1,1,1,0,1,0,1,1,0,0] F h (cR n 0 2 7 8 9) a0 (bI 0 (bG av 0 2 7) an)=cR (FN C lf n av) 0 2 7 8 9 F h:=by
 intro F h;kernel_rfl
def BR(C:ad)(lf:Nat)(av:bK)(k:O×O×O×O×O->J->ab)(s:O×O×O×O×O)(h:J):ab:=
 FN C lf (λa b c d g=>k (a,b,c,d,g)) av s.1 s.2.1 s.2.2.1 s.2.2.2.1 s.2.2.2.2 h
def Xb(C:ad)(lf:Nat)(n:cC)(x0 x2 x7 x8:O)(h:J):ab:=
 cB .rem 3 x2 (I 64) λa=>n x0 x2 x7 x8 (some a) h
theorem aAw{n:cC}:∀F h,ar je C lf [1,1,1,1,1,1,0,1,0,1,0] F h (cR n 0 2 7 8 9) a0 an=bj (Xb C lf n) 0 2 7 8 F h:=by
 intro F h;kernel_rfl
def Xc(C:ad)(lf:Nat)(n:bK)(x0 x2 x7 x8:O)(h:J):ab:=
 Xb C lf (λa b c d g=>bk (BR C lf n) lf (a,b,c,d,g)) x0 x2 x7 x8 h
theorem aAx{n:bK}:∀F h,ar je C lf [1,1,1,1,1,1,0,1,0,1] F h (bG n 0 2 7) a0 an=bj (Xc C lf n) 0 2 7 8 F h:=bg (b:=b7 je [1,1,1,1,1,1,0,1,0,1,1]) (by kernel_rfl) (fY (id:=0) (a:=b7 je [1,1,1,1,1,1,0,1,0,1,1,0]) (by kernel_rfl) (gJ (g:=λF=>(F 0,F 2,F 7,F 8,F 9)) (body:=BR C lf n) (by kernel_rfl) (λk=>(aAv (n:=λx0 x2 x7 x8 x9 h=>k (x0,x2,x7,x8,x9) h))))) (aAw (n:=λx0 x2 x7 x8 x9 h=>bk (BR C lf n) lf (x0,x2,x7,x8,x9) h))
def Xd(C:ad)(lf:Nat)(n:bo)(x0 x2 x7:O)(h:J):ab:=
 e9 0 x0 λa=>eK 1 a h λa=>ob x7 λb=>cB .quo 3 x2 (I 64) λc=>ef 12 b λb=>ob (eu 278 1 b c) λb=>ob (bO b h) λb=>cn .sub 3 b (I 1) λb=>ob (dQ 1 a b) λa=>ob (bO a h) λa=>n x0 x2 x7 (some a) h
theorem aAy{n:bo}:∀F h,ar je C lf [1,1,1,1,1,1,0,1,0,0] F h (bj n 0 2 7 8) a0 an=bG (Xd C lf n) 0 2 7 F h:=by
 intro F h;kernel_rfl
def Xf(C:ad)(lf:Nat)(n:bK)(x0 x2 x7:O)(h:J):ab:=
 Xd C lf (Xc C lf n) x0 x2 x7 h
theorem aAz{n:bK}:∀F h,ar je C lf [1,1,1,1,1,1,0,1,0] F h (bG n 0 2 7) a0 an=bG (Xf C lf n) 0 2 7 F h:=bg (by kernel_rfl) aAx aAy
noncomputable def Xg(C:ad)(lf:Nat)(n:bK)(x0 x2 x7:O)(h:J):ab:=
 n x0 x2 x7 h
theorem aAA{n:bK}:∀F h,ar je C lf [1,1,1,1,1,1,0,1,1] F h (bG n 0 2 7) a0 an=bG (Xg C lf n) 0 2 7 F h:=by
 intro F h;kernel_rfl
def Cb(C:ad)(lf:Nat)(n:bK)(x0 x2 x7 Yi:O)(h:J):ab:=
 ob Yi λa=>gn a (Xf C lf n x0 x2 x7 h) (Xg C lf n x0 x2 x7 h)
theorem aAB{n:bK}:∀F h,ar je C lf [1,1,1,1,1,1,0,1] F h (bG n 0 2 7) a0 an=bj (Cb C lf n) 0 2 7 43 F h:=ama (x:= .tmp 43) (by kernel_rfl) aAz aAA
def LD(C:ad)(lf:Nat)(n:bo)(x0 x2 x7:O)(h:J):ab:=
 cB .rem 3 x2 (I 64) λa=>cn .gtr 3 a (I 0) λa=>b3 a x7 h λb k=>jf .quo 3 a x2 (I 64) k λc k=>b3 a (ev b) k λb k=>b3 a (bZ 12 b) k λb k=>b3 a (eu 278 1 b c) k λb k=>jf .gtr 3 a (bO b k) (I 0) k λb k=>hA a b λa=>n x0 x2 x7 (some a) k
theorem aAC{n:bo}:∀F h,ar je C lf [1,1,1,1,1,1,0,0] F h (bj n 0 2 7 43) a0 an=bG (LD C lf n) 0 2 7 F h:=by
 intro F h;kernel_rfl
def Xh(C:ad)(lf:Nat)(n:bK)(x0 x2 x7:O)(h:J):ab:=
 LD C lf (Cb C lf n) x0 x2 x7 h
theorem aAD{n:bK}:∀F h,ar je C lf [1,1,1,1,1,1,0] F h (bG n 0 2 7) a0 an=bG (Xh C lf n) 0 2 7 F h:=bg (by kernel_rfl) aAB aAC
def Xi(C:ad)(lf:Nat)(r:aw)(x0 x2 x7:O)(h:J):ab:=
 Xh C lf (zT C lf r) x0 x2 x7 h
theorem aAE{r:aw}:∀F h,ar je C lf [1,1,1,1,1,1] F h ba (aM r 6) an=bG (Xi C lf r) 0 2 7 F h:=bg (by kernel_rfl) aAu aAD
def Xj(C:ad)(lf:Nat)(n:bK)(x0 x1 x2 x7:O)(h:J):ab:=
 ob x0 λa=>ob x1 λb=>cB .add 3 x2 (I 64) λc=>cn .sub 3 c (I 1) λc=>cn .quo 3 c (I 64) λc=>cJ C 107 [a,b,c] h λa=>n x0 x2 x7
theorem aAF{n:bK}:∀F h,ar je C lf [1,1,1,1,1,0] F h (bG n 0 2 7) a0 an=bj (Xj C lf n) 0 1 2 7 F h:=by
 intro F h;kernel_rfl
def Xk(C:ad)(lf:Nat)(r:aw)(x0 x1 x2 x7:O)(h:J):ab:=
 Xj C lf (Xi C lf r) x0 x1 x2 x7 h
theorem aAG{r:aw}:∀F h,ar je C lf [1,1,1,1,1] F h ba (aM r 6) an=bj (Xk C lf r) 0 1 2 7 F h:=bg (by kernel_rfl) aAE aAF
def Xl(C:ad)(lf:Nat)(n:bo)(x0 x1 x2:O)(h:J):ab:=
 dw 4 x0 h λa=>k6 308 a x1 λa=>n x0 x1 x2 (some a) h
theorem aAH{n:bo}:∀F h,ar je C lf [1,1,1,1,0] F h (bj n 0 1 2 7) a0 an=bG (Xl C lf n) 0 1 2 F h:=by
 intro F h;kernel_rfl
def Xm(C:ad)(lf:Nat)(r:aw)(x0 x1 x2:O)(h:J):ab:=
 Xl C lf (Xk C lf r) x0 x1 x2 h
theorem aAI{r:aw}:∀F h,ar je C lf [1,1,1,1] F h ba (aM r 6) an=bG (Xm C lf r) 0 1 2 F h:=bg (by kernel_rfl) aAG aAH
def LA(C:ad)(lf:Nat)(n:bK)(r:aw)(x0 x1 x2:O)(h:J):ab:=
 hC .gtr 3 x2 (I 17792) (r (bD 27) h) (n x0 x1 x2 h)
theorem aAm{n:bK}{r:aw}:∀F h,ar je C lf [1,1,1,0] F h (bG n 0 1 2) (aM r 6) an=bG (LA C lf n r) 0 1 2 F h:=by
 intro F h;kernel_rfl
def FM(C:ad)(lf:Nat)(r:aw)(x0 x1 x2:O)(h:J):ab:=
 LA C lf (Xm C lf r) r x0 x1 x2 h
theorem aAn{r:aw}:∀F h,ar je C lf [1,1,1] F h ba (aM r 6) an=bG (FM C lf r) 0 1 2 F h:=bg (by kernel_rfl) aAI aAm
def W9(C:ad)(lf:Nat)(n:bK)(r:aw)(x0 x1 x2:O)(h:J):ab:=
 hC .lss 3 x2 (I 0) (r (bD 22) h) (n x0 x1 x2 h)
theorem aAo{n:bK}{r:aw}:∀F h,ar je C lf [1,1,0] F h (bG n 0 1 2) (aM r 6) an=bG (W9 C lf n r) 0 1 2 F h:=by
 intro F h;kernel_rfl
def LB(C:ad)(lf:Nat)(r:aw)(x0 x1 x2:O)(h:J):ab:=
 W9 C lf (FM C lf r) r x0 x1 x2 h
theorem aAp{r:aw}:∀F h,ar je C lf [1,1] F h ba (aM r 6) an=bG (LB C lf r) 0 1 2 F h:=bg (by kernel_rfl) aAn aAo
def LC(C:ad)(lf:Nat)(n:bK)(r:aw)(x0 x1 x2:O)(h:J):ab:=
 a1 C 104 x0 x1 h λa k=>fM a (r (bD 2) k) (n x0 x1 x2 k)
theorem aAq{n:bK}{r:aw}:∀F h,ar je C lf [1,0] F h (bG n 0 1 2) (aM r 6) an=bG (LC C lf n r) 0 1 2 F h:=by
 intro F h;kernel_rfl
def ahp(C:ad)(lf:Nat)(r:aw)(x0 x1 x2:O)(h:J):ab:=
 LC C lf (LB C lf r) r x0 x1 x2 h
theorem aAr{r:aw}:∀F h,ar je C lf [1] F h ba (aM r 6) an=bG (ahp C lf r) 0 1 2 F h:=bg (by kernel_rfl) aAp aAq
noncomputable def ahq(C:ad)(lf:Nat)(n:bK)(x0 x1 x2:O)(h:J):ab:=
 n x0 x1 x2 h
theorem aAs{n:bK}:∀F h,ar je C lf [0] F h (bG n 0 1 2) a0 an=bG (ahq C lf n) 0 1 2 F h:=by
 intro F h;kernel_rfl
def Xa(C:ad)(lf:Nat)(r:aw)(x0 x1 x2:O)(h:J):ab:=
 ahq C lf (ahp C lf r) x0 x1 x2 h
theorem aAt{r:aw}:∀F h,ar je C lf [] F h ba (aM r 6) an=bG (Xa C lf r) 0 1 2 F h:=bg (by kernel_rfl) aAr aAs
def yG(C:ad)(lf:Nat)(ah aj aC:U)(h:J):ab:=Xa C lf qG (some ah) (some aj) (some aC) h
def adq:cx ao:=nX je yG (λC lf ah aj aC h=>cS (K:=(aM qG 6)) (by kernel_rfl) (Eq.trans (aAt _ h) (by kernel_rfl))) (by kernel_rfl)
def o1:b1 ao:=dk 97 Tryd.f97 Tryd.func97 (by kernel_rfl)
noncomputable def yB(x8 x9:O)(h:J):ab:=
 ob x8 λa=>ob x9 λb=>some (.ret (.bm [a,b]),h)
def LF(C:ad)(lf:Nat)(r:aS)(h:J):ab:=
 r (bD 0) (bD 28) h
theorem aAJ{r:aS}:∀F h,ar o1 C lf [1,1,1,1] F h ba (a7 r 8 9) an=ed (LF C lf r) F h:=by
 intro F h;kernel_rfl
def Cc(C:ad)(lf:Nat)(n:cC)(r:aS)(av:cu)(x0 x1 x2 x3 x11:O)(h:J):ab:=
 ob x11 λa=>dw 2 x0 h λb=>eH .leq 3 a b (dw 4 x0 h λa=>J6 308 0 a x11 h λa=>fM a (dw 4 x0 h λa=>ob x11 λb=>ob x11 λc=>ob x2 λd=>ob x3 λg=>ob x1 λi=>dw 3 x0 h λj=>dw 3 x0 h λm=>dw 3 x0 h λo=>ob (gM ao 78 [0,2,3,6,7,8,9] [c,d,g,i,j,m,o]) λc=>ob (gM ao 156 [0,1] [.bool true,c]) λc=>ob (dQ 308 a b) λa=>ob (st 308 a c h) λk=>ob x11 λa=>r (some a) (bD 0) k) (cB .add 3 x11 (I 1) λa=>n x0 x1 x2 x3 (some a) h)) (av h)
theorem aAK{n:cC}{r:aS}{av:cu}:∀F h,ar o1 C lf [1,1,1,0,1,0,0] F h (cR n 0 1 2 3 11) (a7 r 8 9) (bI 0 (ed av) an)=cR (Cc C lf n r av) 0 1 2 3 11 F h:=by
 intro F h;kernel_rfl
def sx(C:ad)(lf:Nat)(r:aS)(av:cu)(k:O×O×O×O×O->J->ab)(s:O×O×O×O×O)(h:J):ab:=
 Cc C lf (λa b c d g=>k (a,b,c,d,g)) r av s.1 s.2.1 s.2.2.1 s.2.2.2.1 s.2.2.2.2 h
def ahr(C:ad)(lf:Nat)(n:cC)(x0 x1 x2 x3:O)(h:J):ab:=
 n x0 x1 x2 x3 (bD 1) h
theorem aAL{n:cC}:∀F h,ar o1 C lf [1,1,1,0,0] F h (cR n 0 1 2 3 11) a0 an=bj (ahr C lf n) 0 1 2 3 F h:=by
 intro F h;kernel_rfl
def ahs(C:ad)(lf:Nat)(n:cu)(r:aS)(x0 x1 x2 x3:O)(h:J):ab:=
 ahr C lf (λa b c d g=>bk (sx C lf r n) lf (a,b,c,d,g)) x0 x1 x2 x3 h
theorem aAM{n:cu}{r:aS}:∀F h,ar o1 C lf [1,1,1,0] F h (ed n) (a7 r 8 9) an=bj (ahs C lf n r) 0 1 2 3 F h:=bg (b:=b7 o1 [1,1,1,0,1]) (by kernel_rfl) (fY (id:=0) (a:=b7 o1 [1,1,1,0,1,0]) (by kernel_rfl) (gJ (g:=λF=>(F 0,F 1,F 2,F 3,F 11)) (body:=sx C lf r n) (by kernel_rfl) (λk=>(aAK (n:=λx0 x1 x2 x3 x11 h=>k (x0,x1,x2,x3,x11) h))))) (aAL (n:=λx0 x1 x2 x3 x11 h=>bk (sx C lf r n) lf (x0,x1,x2,x3,x11) h))
def FO(C:ad)(lf:Nat)(r:aS)(x0 x1 x2 x3:O)(h:J):ab:=
 ahs C lf (LF C lf r) r x0 x1 x2 x3 h
theorem aAN{r:aS}:∀F h,ar o1 C lf [1,1,1] F h ba (a7 r 8 9) an=bj (FO C lf r) 0 1 2 3 F h:=bg (by kernel_rfl) aAJ aAM
def Xn(C:ad)(lf:Nat)(n:bo)(r:aS)(x0 x1 x2 x3 aU:O)(h:J):ab:=
 cB .neq 68 aU (I 32768) λa=>jf .neq 68 a aU (I 16384) h λb k=>hA a b λa=>jf .neq 68 a aU (I 40960) k λb k=>hA a b λa=>dI a x1 k λb k=>jg .and 68 a x1 (I 65535) k λc k=>dI a (bin ao .neq 68 b c) k λb k=>mI a b λa=>jg .lss 68 a x1 (I 0) k λb k=>mI a b λa=>jg .lss 3 a x2 (I 0) k λb k=>mI a b λa=>jg .lss 3 a x3 (I 0) k λb k=>mN a b (r (bD 0) (bD 22) k) (n x0 x1 x2 x3 k)
theorem aAO{n:bo}{r:aS}:∀F h,ar o1 C lf [1,1,0] F h (bj n 0 1 2 3) (a7 r 8 9) an=cR (Xn C lf n r) 0 1 2 3 10 F h:=by
 intro F h;kernel_rfl
def LG(C:ad)(lf:Nat)(r:aS)(x0 x1 x2 x3 aU:O)(h:J):ab:=
 Xn C lf (FO C lf r) r x0 x1 x2 x3 aU h
theorem aAP{r:aS}:∀F h,ar o1 C lf [1,1] F h ba (a7 r 8 9) an=cR (LG C lf r) 0 1 2 3 10 F h:=bg (by kernel_rfl) aAN aAO
def LH(C:ad)(lf:Nat)(n:cC)(x0 x1 x2 x3:O)(h:J):ab:=
 aP C 108 x1 h λa=>n x0 x1 x2 x3 (some a)
theorem aAQ{n:cC}:∀F h,ar o1 C lf [1,0] F h (cR n 0 1 2 3 10) a0 an=bj (LH C lf n) 0 1 2 3 F h:=by
 intro F h;kernel_rfl
def aht(C:ad)(lf:Nat)(r:aS)(x0 x1 x2 x3:O)(h:J):ab:=
 LH C lf (LG C lf r) x0 x1 x2 x3 h
theorem aAR{r:aS}:∀F h,ar o1 C lf [1] F h ba (a7 r 8 9) an=bj (aht C lf r) 0 1 2 3 F h:=bg (by kernel_rfl) aAP aAQ
noncomputable def ahu(C:ad)(lf:Nat)(n:bo)(x0 x1 x2 x3:O)(h:J):ab:=
 n x0 x1 x2 x3 h
theorem aAS{n:bo}:∀F h,ar o1 C lf [0] F h (bj n 0 1 2 3) a0 an=bj (ahu C lf n) 0 1 2 3 F h:=by
 intro F h;kernel_rfl
def Xo(C:ad)(lf:Nat)(r:aS)(x0 x1 x2 x3:O)(h:J):ab:=
 ahu C lf (aht C lf r) x0 x1 x2 x3 h
theorem aAT{r:aS}:∀F h,ar o1 C lf [] F h ba (a7 r 8 9) an=bj (Xo C lf r) 0 1 2 3 F h:=bg (by kernel_rfl) aAR aAS
def wI(C:ad)(lf:Nat)(ah aj aC a8:U)(h:J):ab:=Xo C lf yB (some ah) (some aj) (some aC) (some a8) h
def adr:cx ao:=rT o1 wI (λC lf ah aj aC a8 h=>cS (K:=(a7 yB 8 9)) (by kernel_rfl) (Eq.trans (aAT _ h) (by kernel_rfl))) (by kernel_rfl)
def acf:b1 ao:=dk 98 Tryd.f98 Tryd.func98 (by kernel_rfl)
noncomputable def PJ(aG:O)(h:J):ab:=
 ob aG λa=>some (.ret a,h)
def Xp(C:ad)(lf:Nat)(r:aw)(x0 x1 x2:O)(h:J):ab:=
 a1 C 104 x0 x1 h λa k=>fM a (r (bD 2) k) (dw 4 x0 k λa=>k6 308 a x1 λa=>ob (bZ 1 a) λa=>ob x2 λb=>um 1 a k λc=>ob (ib .neg c) λc=>eH .lss 3 b c (r (bD 22) k) (ob x2 λb=>um 1 a k λc=>cn .sub 3 (I 16) c λc=>eH .gtr 3 b c (r (bD 31) k) (um 1 a k λb=>zH .add 3 b x2 λb=>vq 1 a b k λk=>dw 3 x0 k λb=>vq 9 a b k λk=>a1 C 109 x0 x1 k λa=>r (bD 0))))
theorem aAU{r:aw}:∀F h,ar acf C lf [] F h ba (aM r 6) an=bG (Xp C lf r) 0 1 2 F h:=by
 intro F h;kernel_rfl
def yH(C:ad)(lf:Nat)(ah aj aC:U)(h:J):ab:=Xp C lf PJ (some ah) (some aj) (some aC) h
def ads:cx ao:=nX acf yH (λC lf ah aj aC h=>cS (K:=(aM PJ 6)) (by kernel_rfl) (Eq.trans (aAU _ h) (by kernel_rfl))) (by kernel_rfl)
def acg:b1 ao:=dk 99 Tryd.f99 Tryd.func99 (by kernel_rfl)
noncomputable def PK(bC:O)(h:J):ab:=
 ob bC λa=>some (.ret a,h)
def Xq(C:ad)(lf:Nat)(r:aw)(x0 x1:O)(h:J):ab:=
 a1 C 104 x0 x1 h λa k=>fM a (r (bD 2) k) (dw 4 x0 k λa=>ob x1 λb=>ob (dQ 308 a b) λc=>eK 11 c k λc=>cn .add 3 c (I 1) λc=>ob (dQ 308 a b) λa=>ob (bZ 11 a) λa=>ob (st 1 a c k) (r (bD 0)))
theorem aAV{r:aw}:∀F h,ar acg C lf [] F h ba (aM r 4) an=a7 (Xq C lf r) 0 1 F h:=by
 intro F h;kernel_rfl
def DF(C:ad)(lf:Nat)(ah aj:U)(h:J):ab:=Xq C lf PK (some ah) (some aj) h
def adt:cx ao:=hr acg DF (λC lf ah aj h=>cS (K:=(aM PK 4)) (by kernel_rfl) (Eq.trans (aAV _ h) (by kernel_rfl))) (by kernel_rfl)
def abk:b1 ao:=dk 100 Tryd.f100 Tryd.func100 (by kernel_rfl)
noncomputable def OO(bC:O)(h:J):ab:=
 ob bC λa=>some (.ret a,h)
def Sm(C:ad)(lf:Nat)(r:aw)(x0 x1:O)(h:J):ab:=
 a1 C 104 x0 x1 h λa k=>fM a (r (bD 2) k) (dw 4 x0 k λa=>J6 308 11 a x1 k λa=>eH .eql 3 a (I 0) (r (bD 22) k) (dw 4 x0 k λa=>ob x1 λb=>ob (dQ 308 a b) λc=>eK 11 c k λc=>cn .sub 3 c (I 1) λc=>ob (dQ 308 a b) λa=>ob (bZ 11 a) λa=>ob (st 1 a c k) λk=>a1 C 109 x0 x1 k λa=>r (bD 0)))
theorem asX{r:aw}:∀F h,ar abk C lf [] F h ba (aM r 4) an=a7 (Sm C lf r) 0 1 F h:=by
 intro F h;kernel_rfl
def A2(C:ad)(lf:Nat)(ah aj:U)(h:J):ab:=Sm C lf OO (some ah) (some aj) h
def ach:cx ao:=hr abk A2 (λC lf ah aj h=>cS (K:=(aM OO 4)) (by kernel_rfl) (Eq.trans (asX _ h) (by kernel_rfl))) (by kernel_rfl)
end
noncomputable section
variable{C:ad}{lf:Nat}{ba a0 eA fz jU k3 q4 q5 q6 q7 q8 q9 q1 q2 q3:hp}{an:lj}
def abl:b1 ao:=dk 101 Tryd.f101 Tryd.func101 (by kernel_rfl)
noncomputable def OP(aG:O)(h:J):ab:=
 ob aG λa=>some (.ret a,h)
def Sn(C:ad)(lf:Nat)(r:aw)(x0 x1 x2:O)(h:J):ab:=
 a1 C 104 x0 x1 h λa k=>fM a (r (bD 2) k) (dw 4 x0 k λa=>k6 308 a x1 λa=>ob (bZ 1 a) λa=>um 6 a k λb=>cJ C 108 [b] k λb k=>cB .and 68 x2 (I 4095) λc=>cn .or 68 b c λb=>vq 6 a b k λk=>dw 3 x0 k λb=>ef 9 a λa=>ob (st 1 a b k) (r (bD 0)))
theorem asY{r:aw}:∀F h,ar abl C lf [] F h ba (aM r 6) an=bG (Sn C lf r) 0 1 2 F h:=by
 intro F h;kernel_rfl
def Dk(C:ad)(lf:Nat)(ah aj aC:U)(h:J):ab:=Sn C lf OP (some ah) (some aj) (some aC) h
def aci:cx ao:=nX abl Dk (λC lf ah aj aC h=>cS (K:=(aM OP 6)) (by kernel_rfl) (Eq.trans (asY _ h) (by kernel_rfl))) (by kernel_rfl)
def wJ:b1 ao:=dk 102 Tryd.f102 Tryd.func102 (by kernel_rfl)
noncomputable def yy(x8:O)(h:J):ab:=
 ob x8 λa=>some (.ret a,h)
def Sw(C:ad)(lf:Nat)(r:aw)(x0 x9:O)(h:J):ab:=
 ob x9 λa=>dw 3 x0 h λb=>ef 9 a λa=>ob (st 1 a b h) (r (bD 0))
def agi(C:ad)(lf:Nat)(n:aS)(x0 x3 x9:O)(h:J):ab:=
 hC .geq 3 x3 (I 0) (ob x9 λa=>ob x3 λb=>ef 3 a λa=>ob (st 1 a b h) (n x0 x9)) (n x0 x9 h)
def So(C:ad)(lf:Nat)(r:aw)(x0 x3 x9:O)(h:J):ab:=
 agi C lf (Sw C lf r) x0 x3 x9 h
def agj(C:ad)(lf:Nat)(n:bK)(x0 x2 x3 x9:O)(h:J):ab:=
 hC .geq 3 x2 (I 0) (ob x9 λa=>ob x2 λb=>ef 2 a λa=>ob (st 1 a b h) (n x0 x3 x9)) (n x0 x3 x9 h)
def agk(C:ad)(lf:Nat)(r:aw)(x0 x2 x3 x9:O)(h:J):ab:=
 agj C lf (So C lf r) x0 x2 x3 x9 h
def agl(C:ad)(lf:Nat)(n:bo)(x0 x1 x2 x3:O)(h:J):ab:=
 dw 4 x0 h λa=>k6 308 a x1 λa=>ob (bZ 1 a) λa=>n x0 x2 x3 (some a) h
def Sp(C:ad)(lf:Nat)(r:aw)(x0 x1 x2 x3:O)(h:J):ab:=
 agl C lf (agk C lf r) x0 x1 x2 x3 h
theorem asZ{r:aw}:∀F h,ar wJ C lf [1,1,1] F h ba (aM r 8) an=bj (Sp C lf r) 0 1 2 3 F h:=by
 intro F h;kernel_rfl
def Sq(C:ad)(lf:Nat)(n:bo)(r:aw)(x0 x1 x2 x3:O)(h:J):ab:=
 cB .lss 3 x2 (I (-1)) λa=>jg .lss 3 a x3 (I (-1)) h λb k=>mN a b (r (bD 22) k) (n x0 x1 x2 x3 k)
theorem as0{n:bo}{r:aw}:∀F h,ar wJ C lf [1,1,0] F h (bj n 0 1 2 3) (aM r 8) an=bj (Sq C lf n r) 0 1 2 3 F h:=by
 intro F h;kernel_rfl
def Sr(C:ad)(lf:Nat)(r:aw)(x0 x1 x2 x3:O)(h:J):ab:=
 Sq C lf (Sp C lf r) r x0 x1 x2 x3 h
theorem as1{r:aw}:∀F h,ar wJ C lf [1,1] F h ba (aM r 8) an=bj (Sr C lf r) 0 1 2 3 F h:=bg (by kernel_rfl) asZ as0
def Ss(C:ad)(lf:Nat)(n:bo)(r:aw)(x0 x1 x2 x3:O)(h:J):ab:=
 a1 C 104 x0 x1 h λa k=>fM a (r (bD 2) k) (n x0 x1 x2 x3 k)
theorem as2{n:bo}{r:aw}:∀F h,ar wJ C lf [1,0] F h (bj n 0 1 2 3) (aM r 8) an=bj (Ss C lf n r) 0 1 2 3 F h:=by
 intro F h;kernel_rfl
def St(C:ad)(lf:Nat)(r:aw)(x0 x1 x2 x3:O)(h:J):ab:=
 Ss C lf (Sr C lf r) r x0 x1 x2 x3 h
theorem as3{r:aw}:∀F h,ar wJ C lf [1] F h ba (aM r 8) an=bj (St C lf r) 0 1 2 3 F h:=bg (by kernel_rfl) as1 as2
noncomputable def Su(C:ad)(lf:Nat)(n:bo)(x0 x1 x2 x3:O)(h:J):ab:=
 n x0 x1 x2 x3 h
theorem as4{n:bo}:∀F h,ar wJ C lf [0] F h (bj n 0 1 2 3) a0 an=bj (Su C lf n) 0 1 2 3 F h:=by
 intro F h;kernel_rfl
def Sv(C:ad)(lf:Nat)(r:aw)(x0 x1 x2 x3:O)(h:J):ab:=
 Su C lf (St C lf r) x0 x1 x2 x3 h
theorem as5{r:aw}:∀F h,ar wJ C lf [] F h ba (aM r 8) an=bj (Sv C lf r) 0 1 2 3 F h:=bg (by kernel_rfl) as3 as4
def A3(C:ad)(lf:Nat)(ah aj aC a8:U)(h:J):ab:=Sv C lf yy (some ah) (some aj) (some aC) (some a8) h
def acj:cx ao:=rT wJ A3 (λC lf ah aj aC a8 h=>cS (K:=(aM yy 8)) (by kernel_rfl) (Eq.trans (as5 _ h) (by kernel_rfl))) (by kernel_rfl)
def abm:b1 ao:=dk 103 Tryd.f103 Tryd.func103 (by kernel_rfl)
noncomputable def OQ(x8:O)(h:J):ab:=
 ob x8 λa=>some (.ret a,h)
def Sx(C:ad)(lf:Nat)(r:aw)(x0 x1 x2 x3:O)(h:J):ab:=
 a1 C 104 x0 x1 h λa k=>fM a (r (bD 2) k) (dw 4 x0 k λa=>k6 308 a x1 λa=>ob (bZ 1 a) λa=>ob x2 λb=>ob x3 λc=>dw 3 x0 k λd=>vq 7 a b k λk=>vq 8 a c k λk=>ef 9 a λa=>ob (st 1 a d k) (r (bD 0)))
theorem as6{r:aw}:∀F h,ar abm C lf [] F h ba (aM r 8) an=bj (Sx C lf r) 0 1 2 3 F h:=by
 intro F h;kernel_rfl
def Dl(C:ad)(lf:Nat)(ah aj aC a8:U)(h:J):ab:=Sx C lf OQ (some ah) (some aj) (some aC) (some a8) h
def ack:cx ao:=rT abm Dl (λC lf ah aj aC a8 h=>cS (K:=(aM OQ 8)) (by kernel_rfl) (Eq.trans (as6 _ h) (by kernel_rfl))) (by kernel_rfl)
def abn:b1 ao:=dk 104 Tryd.f104 Tryd.func104 (by kernel_rfl)
noncomputable def OR(bC:O)(h:J):ab:=
 ob bC λa=>some (.ret a,h)
def Sy(C:ad)(lf:Nat)(r:aw)(x0 x1:O)(h:J):ab:=
 cB .gtr 3 x1 (I 0) λa=>b3 a x1 h λb k=>u4 2 a x0 k λc k=>b3 a (bin ao .leq 3 b c) k λb k=>hA a b λa=>u4 4 a x0 k λb k=>b3 a x1 k λc k=>b3 a (dQ 308 b c) k λb k=>b3 a (bZ 0 b) k λb k=>b3 a (bO b k) k λb k=>hA a b λa=>r (some a) k
theorem as7{r:aw}:∀F h,ar abn C lf [] F h ba (aM r 4) an=a7 (Sy C lf r) 0 1 F h:=by
 intro F h;kernel_rfl
def Ie(C:ad)(lf:Nat)(ah aj:U)(h:J):ab:=Sy C lf OR (some ah) (some aj) h
def acm:cx ao:=hr abn Ie (λC lf ah aj h=>cS (K:=(aM OR 4)) (by kernel_rfl) (Eq.trans (as7 _ h) (by kernel_rfl))) (by kernel_rfl)
def abo:b1 ao:=dk 105 Tryd.f105 Tryd.func105 (by kernel_rfl)
noncomputable def OS(x2:O)(h:J):ab:=
 ob x2 λa=>some (.ret a,h)
def Sz(C:ad)(lf:Nat)(r:aw)(x0:O)(h:J):ab:=
 hC .lss 3 x0 (I 6) (r (bD (-1)) h) (cB .sub 3 x0 (I 6) λa=>cn .quo 3 a (I 16) λa=>r (some a) h)
theorem as8{r:aw}:∀F h,ar abo C lf [] F h ba (aM r 2) an=aM (Sz C lf r) 0 F h:=by
 intro F h;kernel_rfl
def Ig(C:ad)(lf:Nat)(ah:U)(h:J):ab:=Sz C lf OS (some ah) h
def acn:cx ao:=hZ abo Ig (λC lf ah h=>cS (K:=(aM OS 2)) (by kernel_rfl) (Eq.trans (as8 _ h) (by kernel_rfl))) (by kernel_rfl)
def kv:b1 ao:=dk 106 Tryd.f106 Tryd.func106 (by kernel_rfl)
noncomputable def qE(aG:O)(h:J):ab:=
 ob aG λa=>some (.ret a,h)
def Kf(C:ad)(lf:Nat)(r:aw)(x2 x7 x9:O)(h:J):ab:=
 ob x7 λa=>ob x2 λb=>ob x9 λc=>ob (dQ 1 c (I 0)) λc=>ob (bO c h) λc=>ef 12 a λa=>ob (eu 278 1 a b) λa=>ob (st 1 a c h) (r (some (.bool true)))
def E2(C:ad)(lf:Nat)(n:bK)(x2 x7 x8 x9:O)(h:J):ab:=
 cB .geq 3 x8 (I 0) λa=>b3 a x7 h λb k=>b3 a x8 k λc k=>b3 a (ev b) k λb k=>b3 a (bZ 290 b) k λb k=>b3 a (eu 17 1 b c) k λb k=>jf .eql 3 a (bO b k) (I 0) k λb k=>qn a b (ob x7 λa=>ob x8 λb=>ob x9 λc=>ob (dQ 1 c (I 0)) λc=>ob (bO c k) λc=>ef 290 a λa=>ob (eu 17 1 a b) λa=>ob (st 1 a c k) λk=>ob x9 λa=>ob (gl ao 33 a (bD 1) none) λa=>n x2 x7 (some a) k) (n x2 x7 x9 k)
def Kj(C:ad)(lf:Nat)(r:aw)(x2 x7 x8 x9:O)(h:J):ab:=
 E2 C lf (Kf C lf r) x2 x7 x8 x9 h
def E3(C:ad)(lf:Nat)(n:bo)(x2 x7 x8 x9:O)(h:J):ab:=
 cB .gtr 3 x8 (I 0) λa=>b3 a x7 h λb k=>b3 a (ev b) k λb k=>b3 a (bZ 307 b) k λb k=>jf .eql 3 a (bO b k) (I 0) k λb k=>qn a b (ob x7 λa=>ob x9 λb=>ob (dQ 1 b (I 0)) λb=>ob (bO b k) λb=>vq 307 a b k λk=>ob x9 λa=>ob (gl ao 33 a (bD 1) none) λa=>n x2 x7 x8 (some a) k) (n x2 x7 x8 x9 k)
def E4(C:ad)(lf:Nat)(r:aw)(x2 x7 x8 x9:O)(h:J):ab:=
 E3 C lf (Kj C lf r) x2 x7 x8 x9 h
theorem atj{r:aw}:∀F h,ar kv C lf [1,1,1,1,1,1,1,1] F h ba (aM r 6) an=bj (E4 C lf r) 2 7 8 9 F h:=by
 intro F h;kernel_rfl
def E5(C:ad)(lf:Nat)(n:hY)(av:bo)(x0 x2 x7 x8 x9 xI nk:O)(h:J):ab:=
 lb .lss 3 nk xI (e9 0 x0 λa=>cJ C 66 [a] h λa k=>cy a λa b=>ob x9 λb=>cn .add 3 a (I 1) λa=>b2 (gp ao 33 1 [0] [a] k) λa k=>b2 (eX ao .append #[33,33] [b,a] k) λa k=>cB .add 3 nk (I 1) λb=>n x0 x2 x7 x8 (some a) xI (some b) k) (av x2 x7 x8 x9 h)
theorem atk{n:hY}{av:bo}:∀F h,ar kv C lf [1,1,1,1,1,1,1,0,1,0,0] F h (ln n 0 2 7 8 9 38 39) a0 (bI 0 (bj av 2 7 8 9) an)=ln (E5 C lf n av) 0 2 7 8 9 38 39 F h:=by
 intro F h;kernel_rfl
def Bz(C:ad)(lf:Nat)(av:bo)(k:O×O×O×O×O×O×O->J->ab)(s:O×O×O×O×O×O×O)(h:J):ab:=
 E5 C lf (λa b c d g i j=>k (a,b,c,d,g,i,j)) av s.1 s.2.1 s.2.2.1 s.2.2.2.1 s.2.2.2.2.1 s.2.2.2.2.2.1 s.2.2.2.2.2.2 h
def SD(C:ad)(lf:Nat)(n:hY)(x0 x2 x7 x8 x9 aU:O)(h:J):ab:=
 ob aU λa=>n x0 x2 x7 x8 x9 (some a) (bD 0) h
theorem atl{n:hY}:∀F h,ar kv C lf [1,1,1,1,1,1,1,0,0] F h (ln n 0 2 7 8 9 38 39) a0 an=dD (SD C lf n) 0 2 7 8 9 10 F h:=by
 intro F h;kernel_rfl
def SE(C:ad)(lf:Nat)(n:bo)(x0 x2 x7 x8 x9 aU:O)(h:J):ab:=
 SD C lf (λa b c d g i j=>bk (Bz C lf n) lf (a,b,c,d,g,i,j)) x0 x2 x7 x8 x9 aU h
theorem atm{n:bo}:∀F h,ar kv C lf [1,1,1,1,1,1,1,0] F h (bj n 2 7 8 9) a0 an=dD (SE C lf n) 0 2 7 8 9 10 F h:=bg (b:=b7 kv [1,1,1,1,1,1,1,0,1]) (by kernel_rfl) (fY (id:=0) (a:=b7 kv [1,1,1,1,1,1,1,0,1,0]) (by kernel_rfl) (gJ (g:=λF=>(F 0,F 2,F 7,F 8,F 9,F 38,F 39)) (body:=Bz C lf n) (by kernel_rfl) (λk=>(atk (n:=λx0 x2 x7 x8 x9 xI nk h=>k (x0,x2,x7,x8,x9,xI,nk) h))))) (atl (n:=λx0 x2 x7 x8 x9 xI nk h=>bk (Bz C lf n) lf (x0,x2,x7,x8,x9,xI,nk) h))
def Kk(C:ad)(lf:Nat)(r:aw)(x0 x2 x7 x8 x9 aU:O)(h:J):ab:=
 SE C lf (E4 C lf r) x0 x2 x7 x8 x9 aU h
theorem atn{r:aw}:∀F h,ar kv C lf [1,1,1,1,1,1,1] F h ba (aM r 6) an=dD (Kk C lf r) 0 2 7 8 9 10 F h:=bg (by kernel_rfl) atj atm
def E6(C:ad)(lf:Nat)(n:dp)(r:aw)(x0 x2 x7 x8 x9 aU:O)(h:J):ab:=
 e9 0 x0 λa=>cJ C 30 [a] h λa k=>aiK .lss 3 a aU (r (some (.bool false)) k) (n x0 x2 x7 x8 x9 aU k)
theorem ato{n:dp}{r:aw}:∀F h,ar kv C lf [1,1,1,1,1,1,0] F h (dD n 0 2 7 8 9 10) (aM r 6) an=dD (E6 C lf n r) 0 2 7 8 9 10 F h:=by
 intro F h;kernel_rfl
def Kl(C:ad)(lf:Nat)(r:aw)(x0 x2 x7 x8 x9 aU:O)(h:J):ab:=
 E6 C lf (Kk C lf r) r x0 x2 x7 x8 x9 aU h
theorem atp{r:aw}:∀F h,ar kv C lf [1,1,1,1,1,1] F h ba (aM r 6) an=dD (Kl C lf r) 0 2 7 8 9 10 F h:=bg (by kernel_rfl) atn ato
def Km(C:ad)(lf:Nat)(n:dp)(x0 x1 x2 x7 x8 x9:O)(h:J):ab:=
 cm C 110 x0 x1 x2 h λa=>n x0 x2 x7 x8 x9 (some a)
theorem atq{n:dp}:∀F h,ar kv C lf [1,1,1,1,1,0] F h (dD n 0 2 7 8 9 10) a0 an=dD (Km C lf n) 0 1 2 7 8 9 F h:=by
 intro F h;kernel_rfl
def agp(C:ad)(lf:Nat)(r:aw)(x0 x1 x2 x7 x8 x9:O)(h:J):ab:=
 Km C lf (Kl C lf r) x0 x1 x2 x7 x8 x9 h
theorem atr{r:aw}:∀F h,ar kv C lf [1,1,1,1,1] F h ba (aM r 6) an=dD (agp C lf r) 0 1 2 7 8 9 F h:=bg (by kernel_rfl) atp atq
noncomputable def agm(C:ad)(lf:Nat)(n:dp)(x0 x1 x2 x7 x8:O)(h:J):ab:=
 n x0 x1 x2 x7 x8 (some (.val (.slice none 0 0))) h
theorem as9{n:dp}:∀F h,ar kv C lf [1,1,1,1,0] F h (dD n 0 1 2 7 8 9) a0 an=cR (agm C lf n) 0 1 2 7 8 F h:=by
 intro F h;kernel_rfl
def SA(C:ad)(lf:Nat)(r:aw)(x0 x1 x2 x7 x8:O)(h:J):ab:=
 agm C lf (agp C lf r) x0 x1 x2 x7 x8 h
theorem ata{r:aw}:∀F h,ar kv C lf [1,1,1,1] F h ba (aM r 6) an=cR (SA C lf r) 0 1 2 7 8 F h:=bg (by kernel_rfl) atr as9
def SB(C:ad)(lf:Nat)(n:cC)(x0 x1 x2 x7:O)(h:J):ab:=
 aP C 105 x2 h λa=>n x0 x1 x2 x7 (some a)
theorem atb{n:cC}:∀F h,ar kv C lf [1,1,1,0] F h (cR n 0 1 2 7 8) a0 an=bj (SB C lf n) 0 1 2 7 F h:=by
 intro F h;kernel_rfl
def E1(C:ad)(lf:Nat)(r:aw)(x0 x1 x2 x7:O)(h:J):ab:=
 SB C lf (SA C lf r) x0 x1 x2 x7 h
theorem atc{r:aw}:∀F h,ar kv C lf [1,1,1] F h ba (aM r 6) an=bj (E1 C lf r) 0 1 2 7 F h:=bg (by kernel_rfl) ata atb
def Kg(C:ad)(lf:Nat)(n:bo)(r:aw)(x0 x1 x2 x7:O)(h:J):ab:=
 ob x7 λa=>ob x2 λb=>ef 12 a λa=>ob (eu 278 1 a b) λa=>ob (bO a h) λa=>eH .gtr 3 a (I 0) (r (some (.bool true)) h) (n x0 x1 x2 x7 h)
theorem atd{n:bo}{r:aw}:∀F h,ar kv C lf [1,1,0] F h (bj n 0 1 2 7) (aM r 6) an=bj (Kg C lf n r) 0 1 2 7 F h:=by
 intro F h;kernel_rfl
def Kh(C:ad)(lf:Nat)(r:aw)(x0 x1 x2 x7:O)(h:J):ab:=
 Kg C lf (E1 C lf r) r x0 x1 x2 x7 h
theorem ate{r:aw}:∀F h,ar kv C lf [1,1] F h ba (aM r 6) an=bj (Kh C lf r) 0 1 2 7 F h:=bg (by kernel_rfl) atc atd
def Ki(C:ad)(lf:Nat)(n:bo)(x0 x1 x2:O)(h:J):ab:=
 dw 4 x0 h λa=>k6 308 a x1 λa=>n x0 x1 x2 (some a) h
theorem atf{n:bo}:∀F h,ar kv C lf [1,0] F h (bj n 0 1 2 7) a0 an=bG (Ki C lf n) 0 1 2 F h:=by
 intro F h;kernel_rfl
def agn(C:ad)(lf:Nat)(r:aw)(x0 x1 x2:O)(h:J):ab:=
 Ki C lf (Kh C lf r) x0 x1 x2 h
theorem atg{r:aw}:∀F h,ar kv C lf [1] F h ba (aM r 6) an=bG (agn C lf r) 0 1 2 F h:=bg (by kernel_rfl) ate atf
noncomputable def ago(C:ad)(lf:Nat)(n:bK)(x0 x1 x2:O)(h:J):ab:=
 n x0 x1 x2 h
theorem ath{n:bK}:∀F h,ar kv C lf [0] F h (bG n 0 1 2) a0 an=bG (ago C lf n) 0 1 2 F h:=by
 intro F h;kernel_rfl
def SC(C:ad)(lf:Nat)(r:aw)(x0 x1 x2:O)(h:J):ab:=
 ago C lf (agn C lf r) x0 x1 x2 h
theorem ati{r:aw}:∀F h,ar kv C lf [] F h ba (aM r 6) an=bG (SC C lf r) 0 1 2 F h:=bg (by kernel_rfl) atg ath
def yE(C:ad)(lf:Nat)(ah aj aC:U)(h:J):ab:=SC C lf qE (some ah) (some aj) (some aC) h
def aco:cx ao:=nX kv yE (λC lf ah aj aC h=>cS (K:=(aM qE 6)) (by kernel_rfl) (Eq.trans (ati _ h) (by kernel_rfl))) (by kernel_rfl)
def gR:b1 ao:=dk 107 Tryd.f107 Tryd.func107 (by kernel_rfl)
noncomputable def AW(h:J):ab:=
 some (.ret (.bm []),h)
def Fa(C:ad)(lf:Nat)(n:cu)(x0 aG x8:O)(h:J):ab:=
 ob x8 λa=>ob (ib .not a) λa=>b3 a aG h λb k=>b3 a (ev b) k λb k=>b3 a (bZ 307 b) k λb k=>jf .gtr 3 a (bO b k) (I 0) k λb k=>qn a b (e9 0 x0 λa=>dw 307 aG k λb=>cn .sub 3 b (I 1) λb=>cM (C (.fn 67) [a,b] k) λa k=>e9 307 aG λa=>ob (st 1 a (I 0) k) n) (n k)
theorem atQ{n:cu}:∀F h,ar gR C lf [1,1,1,1] F h (ed n) a0 an=bG (Fa C lf n) 0 6 8 F h:=by
 intro F h;kernel_rfl
def Fb(C:ad)(lf:Nat)(n:bo)(x0 aG x8 ec:O)(h:J):ab:=
 cB .add 3 ec (I 1) λa=>n x0 aG x8 (some a) h
theorem atS{n:bo}:∀F h,ar gR C lf [1,1,1,0,1,0,0,1,1,1] F h (bj n 0 6 8 46) a0 (bI 2 jU an)=bj (Fb C lf n) 0 6 8 46 F h:=by
 intro F h;kernel_rfl
def SX(C:ad)(lf:Nat)(n:bo)(x0 aG x8 x9 aU ec:O)(h:J):ab:=
 ob x8 λa=>jg .gtr 3 a x9 (I 0) h λb k=>dI a (some b) k λb k=>b3 b aU k λc k=>dI a (jH b c (.bool false)) k λb k=>mI a b λa=>n x0 aG (some a) ec k
def SY(C:ad)(lf:Nat)(n:dp)(x0 aG x8 x9 aU ec:O)(h:J):ab:=
 ob aU λa=>ob (ib .not a) λa=>b3 a aG h λb k=>b3 a x9 k λc k=>b3 a (ev b) k λb k=>b3 a (bZ 290 b) k λb k=>b3 a (eu 17 1 b c) k λb k=>jf .gtr 3 a (bO b k) (I 0) k λb k=>qn a b (e9 0 x0 λa=>ob aG λb=>ob x9 λc=>ef 290 b λb=>ob (eu 17 1 b c) λb=>ob (bO b k) λb=>cn .sub 3 b (I 1) λb=>cM (C (.fn 67) [a,b] k) λa k=>ob aG λa=>ob x9 λb=>ef 290 a λa=>ob (eu 17 1 a b) λa=>ob (st 1 a (I 0) k) (n x0 aG x8 x9 aU ec)) (n x0 aG x8 x9 aU ec k)
def SZ(C:ad)(lf:Nat)(n:bo)(x0 aG x8 x9 aU ec:O)(h:J):ab:=
 SY C lf (SX C lf n) x0 aG x8 x9 aU ec h
theorem atT{n:bo}:∀F h,ar gR C lf [1,1,1,0,1,0,0,1,1,0,0,1,1,1] F h (bj n 0 6 8 46) a0 (bI 3 k3 (bI 2 jU an))=dD (SZ C lf n) 0 6 8 9 10 46 F h:=by
 intro F h;kernel_rfl
def E7(C:ad)(lf:Nat)(n:hY)(ee:dp)(x0 aG x8 x9 aU x11 ec:O)(h:J):ab:=
 ob x11 λa=>cB .add 3 x9 (I 1) λb=>cn .mul 3 b (I 16) λb=>cn .add 3 (I 6) b λb=>eH .lss 3 a b (ob aU λa=>dI a aG h λb k=>dI a x11 k λc k=>dI a (ev b) k λb k=>dI a (bZ 12 b) k λb k=>dI a (eu 278 1 b c) k λb k=>jg .gtr 3 a (bO b k) (I 0) k λb k=>mI a b λa=>cB .add 3 x11 (I 1) λb=>n x0 aG x8 x9 (some a) (some b) ec k) (ee x0 aG x8 x9 aU ec h)
theorem ats{n:hY}{ee:dp}:∀F h,ar gR C lf [1,1,1,0,1,0,0,1,1,0,0,1,1,0,1,0,0] F h (ln n 0 6 8 9 10 11 46) a0 (bI 4 (dD ee 0 6 8 9 10 46) (bI 3 k3 (bI 2 jU an)))=ln (E7 C lf n ee) 0 6 8 9 10 11 46 F h:=by
 intro F h;kernel_rfl
def BB(C:ad)(lf:Nat)(ee:dp)(k:O×O×O×O×O×O×O->J->ab)(s:O×O×O×O×O×O×O)(h:J):ab:=
 E7 C lf (λa b c d g i j=>k (a,b,c,d,g,i,j)) ee s.1 s.2.1 s.2.2.1 s.2.2.2.1 s.2.2.2.2.1 s.2.2.2.2.2.1 s.2.2.2.2.2.2 h
def SF(C:ad)(lf:Nat)(n:hY)(x0 aG x8 x9 aU ec:O)(h:J):ab:=
 cB .mul 3 x9 (I 16) λa=>cn .add 3 (I 6) a λa=>n x0 aG x8 x9 aU (some a) ec h
theorem att{n:hY}:∀F h,ar gR C lf [1,1,1,0,1,0,0,1,1,0,0,1,1,0,0] F h (ln n 0 6 8 9 10 11 46) a0 (bI 3 k3 (bI 2 jU an))=dD (SF C lf n) 0 6 8 9 10 46 F h:=by
 intro F h;kernel_rfl
def SG(C:ad)(lf:Nat)(n:dp)(x0 aG x8 x9 aU ec:O)(h:J):ab:=
 SF C lf (λa b c d g i j=>bk (BB C lf n) lf (a,b,c,d,g,i,j)) x0 aG x8 x9 aU ec h
theorem atu{n:dp}:∀F h,ar gR C lf [1,1,1,0,1,0,0,1,1,0,0,1,1,0] F h (dD n 0 6 8 9 10 46) a0 (bI 3 k3 (bI 2 jU an))=dD (SG C lf n) 0 6 8 9 10 46 F h:=bg (b:=b7 gR [1,1,1,0,1,0,0,1,1,0,0,1,1,0,1]) (by kernel_rfl) (fY (id:=4) (a:=b7 gR [1,1,1,0,1,0,0,1,1,0,0,1,1,0,1,0]) (by kernel_rfl) (gJ (g:=λF=>(F 0,F 6,F 8,F 9,F 10,F 11,F 46)) (body:=BB C lf n) (by kernel_rfl) (λk=>(ats (n:=λx0 aG x8 x9 aU x11 ec h=>k (x0,aG,x8,x9,aU,x11,ec) h))))) (att (n:=λx0 aG x8 x9 aU x11 ec h=>bk (BB C lf n) lf (x0,aG,x8,x9,aU,x11,ec) h))
def SH(C:ad)(lf:Nat)(n:bo)(x0 aG x8 x9 aU ec:O)(h:J):ab:=
 SG C lf (SZ C lf n) x0 aG x8 x9 aU ec h
theorem atv{n:bo}:∀F h,ar gR C lf [1,1,1,0,1,0,0,1,1,0,0,1,1] F h (bj n 0 6 8 46) a0 (bI 3 k3 (bI 2 jU an))=dD (SH C lf n) 0 6 8 9 10 46 F h:=bg (by kernel_rfl) atT atu
noncomputable def SI(C:ad)(lf:Nat)(n:dp)(x0 aG x8 x9 ec:O)(h:J):ab:=
 n x0 aG x8 x9 (some (.bool false)) ec h
theorem atw{n:dp}:∀F h,ar gR C lf [1,1,1,0,1,0,0,1,1,0,0,1,0] F h (dD n 0 6 8 9 10 46) a0 (bI 3 k3 (bI 2 jU an))=cR (SI C lf n) 0 6 8 9 46 F h:=by
 intro F h;kernel_rfl
def SJ(C:ad)(lf:Nat)(n:bo)(x0 aG x8 x9 ec:O)(h:J):ab:=
 SI C lf (SH C lf n) x0 aG x8 x9 ec h
theorem atx{n:bo}:∀F h,ar gR C lf [1,1,1,0,1,0,0,1,1,0,0,1] F h (bj n 0 6 8 46) a0 (bI 3 k3 (bI 2 jU an))=cR (SJ C lf n) 0 6 8 9 46 F h:=bg (by kernel_rfl) atv atw
noncomputable def SK(C:ad)(lf:Nat)(n:cC)(x0 aG x8 ec:O)(h:J):ab:=
 ob ec λa=>n x0 aG x8 (some a) ec h
theorem aty{n:cC}:∀F h,ar gR C lf [1,1,1,0,1,0,0,1,1,0,0,0] F h (cR n 0 6 8 9 46) a0 (bI 3 k3 (bI 2 jU an))=bj (SK C lf n) 0 6 8 46 F h:=by
 intro F h;kernel_rfl
def SL(C:ad)(lf:Nat)(n:bo)(x0 aG x8 ec:O)(h:J):ab:=
 SK C lf (SJ C lf n) x0 aG x8 ec h
theorem atz{n:bo}:∀F h,ar gR C lf [1,1,1,0,1,0,0,1,1,0,0] F h (bj n 0 6 8 46) a0 (bI 3 k3 (bI 2 jU an))=bj (SL C lf n) 0 6 8 46 F h:=bg (by kernel_rfl) atx aty
def SM(C:ad)(lf:Nat)(n:bo)(x0 aG x8 ec:O)(h:J):ab:=
 SL C lf (Fb C lf n) x0 aG x8 ec h
theorem atA{n:bo}:∀F h,ar gR C lf [1,1,1,0,1,0,0,1,1] F h (bj n 0 6 8 46) a0 (bI 2 jU an)=bj (SM C lf n) 0 6 8 46 F h:=bg (a:=b7 gR [1,1,1,0,1,0,0,1,1,0]) (by kernel_rfl) atS (fY (id:=3) (by kernel_rfl) atz)
noncomputable def Kn(C:ad)(lf:Nat)(n:bo)(ay:bK)(x0 aG x8 ec Yj:O)(h:J):ab:=
 ob Yj λa=>gn a (n x0 aG x8 ec h) (ay x0 aG x8 h)
theorem atB{n:bo}{ay:bK}:∀F h,ar gR C lf [1,1,1,0,1,0,0,1,0] F h (bj n 0 6 8 46) a0 (bI 2 (bG ay 0 6 8) an)=cR (Kn C lf n ay) 0 6 8 46 47 F h:=by
 intro F h;kernel_rfl
def Ko(C:ad)(lf:Nat)(n:bo)(ay:bK)(x0 aG x8 ec Yj:O)(h:J):ab:=
 Kn C lf (SM C lf n) ay x0 aG x8 ec Yj h
theorem atC{n:bo}{ay:bK}:∀F h,ar gR C lf [1,1,1,0,1,0,0,1] F h (bj n 0 6 8 46) a0 (bI 2 (bG ay 0 6 8) an)=cR (Ko C lf n ay) 0 6 8 46 47 F h:=bg (by kernel_rfl) atA atB
def Kp(C:ad)(lf:Nat)(n:cC)(x0 aG x8 ec:O)(h:J):ab:=
 cB .lss 3 ec (I 17) λa=>n x0 aG x8 ec (some a) h
theorem atD{n:cC}:∀F h,ar gR C lf [1,1,1,0,1,0,0,0] F h (cR n 0 6 8 46 47) a0 (bI 2 jU an)=bj (Kp C lf n) 0 6 8 46 F h:=by
 intro F h;kernel_rfl
def E8(C:ad)(lf:Nat)(n:bo)(ay:bK)(x0 aG x8 ec:O)(h:J):ab:=
 Kp C lf (Ko C lf n ay) x0 aG x8 ec h
theorem atE{n:bo}{ay:bK}:∀F h,ar gR C lf [1,1,1,0,1,0,0] F h (bj n 0 6 8 46) a0 (bI 2 (bG ay 0 6 8) an)=bj (E8 C lf n ay) 0 6 8 46 F h:=bg (by kernel_rfl) atC atD
def w2(C:ad)(lf:Nat)(ay:bK)(k:O×O×O×O->J->ab)(s:O×O×O×O)(h:J):ab:=
 E8 C lf (λa b c d=>k (a,b,c,d)) ay s.1 s.2.1 s.2.2.1 s.2.2.2 h
def SN(C:ad)(lf:Nat)(n:bo)(x0 aG x8:O)(h:J):ab:=
 n x0 aG x8 (bD 0) h
theorem atF{n:bo}:∀F h,ar gR C lf [1,1,1,0,0] F h (bj n 0 6 8 46) a0 an=bG (SN C lf n) 0 6 8 F h:=by
 intro F h;kernel_rfl
def SO(C:ad)(lf:Nat)(n:bK)(x0 aG x8:O)(h:J):ab:=
 SN C lf (λa b c d=>bk (w2 C lf n) lf (a,b,c,d)) x0 aG x8 h
theorem atG{n:bK}:∀F h,ar gR C lf [1,1,1,0] F h (bG n 0 6 8) a0 an=bG (SO C lf n) 0 6 8 F h:=bg (b:=b7 gR [1,1,1,0,1]) (by kernel_rfl) (fY (id:=2) (a:=b7 gR [1,1,1,0,1,0]) (by kernel_rfl) (gJ (g:=λF=>(F 0,F 6,F 8,F 46)) (body:=w2 C lf n) (by kernel_rfl) (λk=>(atE (n:=λx0 aG x8 ec h=>k (x0,aG,x8,ec) h))))) (atF (n:=λx0 aG x8 ec h=>bk (w2 C lf n) lf (x0,aG,x8,ec) h))
def SP(C:ad)(lf:Nat)(n:cu)(x0 aG x8:O)(h:J):ab:=
 SO C lf (Fa C lf n) x0 aG x8 h
theorem atH{n:cu}:∀F h,ar gR C lf [1,1,1] F h (ed n) a0 an=bG (SP C lf n) 0 6 8 F h:=bg (by kernel_rfl) atQ atG
noncomputable def SQ(C:ad)(lf:Nat)(n:bK)(x0 aG:O)(h:J):ab:=
 n x0 aG (some (.bool false)) h
theorem atI{n:bK}:∀F h,ar gR C lf [1,1,0] F h (bG n 0 6 8) a0 an=a7 (SQ C lf n) 0 6 F h:=by
 intro F h;kernel_rfl
def Kq(C:ad)(lf:Nat)(n:cu)(x0 aG:O)(h:J):ab:=
 SQ C lf (SP C lf n) x0 aG h
theorem atJ{n:cu}:∀F h,ar gR C lf [1,1] F h (ed n) a0 an=a7 (Kq C lf n) 0 6 F h:=bg (by kernel_rfl) atH atI
def E9(C:ad)(lf:Nat)(n:bK)(av:aS)(x0 aG x7:O)(h:J):ab:=
 hC .lss 3 x7 (I 278) (ob aG λa=>ob x7 λb=>ef 12 a λa=>ob (eu 278 1 a b) λa=>ob (bO a h) λa=>eH .gtr 3 a (I 0) (e9 0 x0 λa=>ob aG λb=>ob x7 λc=>ef 12 b λb=>ob (eu 278 1 b c) λb=>ob (bO b h) λb=>cn .sub 3 b (I 1) λb=>cM (C (.fn 67) [a,b] h) λa k=>ob aG λa=>ob x7 λb=>ef 12 a λa=>ob (eu 278 1 a b) λa=>ob (st 1 a (I 0) k) λk=>cB .add 3 x7 (I 1) λa=>n x0 aG (some a) k) (cB .add 3 x7 (I 1) λa=>n x0 aG (some a) h)) (av x0 aG h)
theorem atK{n:bK}{av:aS}:∀F h,ar gR C lf [1,0,1,0,0] F h (bG n 0 6 7) a0 (bI 0 (a7 av 0 6) an)=bG (E9 C lf n av) 0 6 7 F h:=by
 intro F h;kernel_rfl
def BA(C:ad)(lf:Nat)(av:aS)(k:O×O×O->J->ab)(s:O×O×O)(h:J):ab:=
 E9 C lf (λa b c=>k (a,b,c)) av s.1 s.2.1 s.2.2 h
noncomputable def SR(C:ad)(lf:Nat)(n:bK)(x0 x2 aG:O)(h:J):ab:=
 ob x2 λa=>n x0 aG (some a) h
theorem atL{n:bK}:∀F h,ar gR C lf [1,0,0] F h (bG n 0 6 7) a0 an=bG (SR C lf n) 0 2 6 F h:=by
 intro F h;kernel_rfl
def SS(C:ad)(lf:Nat)(n:aS)(x0 x2 aG:O)(h:J):ab:=
 SR C lf (λa b c=>bk (BA C lf n) lf (a,b,c)) x0 x2 aG h
theorem atM{n:aS}:∀F h,ar gR C lf [1,0] F h (a7 n 0 6) a0 an=bG (SS C lf n) 0 2 6 F h:=bg (b:=b7 gR [1,0,1]) (by kernel_rfl) (fY (id:=0) (a:=b7 gR [1,0,1,0]) (by kernel_rfl) (gJ (g:=λF=>(F 0,F 6,F 7)) (body:=BA C lf n) (by kernel_rfl) (λk=>(atK (n:=λx0 aG x7 h=>k (x0,aG,x7) h))))) (atL (n:=λx0 aG x7 h=>bk (BA C lf n) lf (x0,aG,x7) h))
def SU(C:ad)(lf:Nat)(n:cu)(x0 x2 aG:O)(h:J):ab:=
 SS C lf (Kq C lf n) x0 x2 aG h
theorem atN{n:cu}:∀F h,ar gR C lf [1] F h (ed n) a0 an=bG (SU C lf n) 0 2 6 F h:=bg (by kernel_rfl) atJ atM
def SV(C:ad)(lf:Nat)(n:bK)(x0 x1 x2:O)(h:J):ab:=
 dw 4 x0 h λa=>k6 308 a x1 λa=>n x0 x2 (some a) h
theorem atO{n:bK}:∀F h,ar gR C lf [0] F h (bG n 0 2 6) a0 an=bG (SV C lf n) 0 1 2 F h:=by
 intro F h;kernel_rfl
def SW(C:ad)(lf:Nat)(n:cu)(x0 x1 x2:O)(h:J):ab:=
 SV C lf (SU C lf n) x0 x1 x2 h
theorem atP{n:cu}:∀F h,ar gR C lf [] F h (ed n) a0 an=bG (SW C lf n) 0 1 2 F h:=bg (by kernel_rfl) atN atO
def Dm(C:ad)(lf:Nat)(ah aj aC:U)(h:J):ab:=SW C lf AW (some ah) (some aj) (some aC) h
def acp:cx ao:=nX gR Dm (λC lf ah aj aC h=>cS (K:=(ed AW)) (by kernel_rfl) (Eq.trans (atP _ h) (by kernel_rfl))) (by kernel_rfl)
def abp:b1 ao:=dk 108 Tryd.f108 Tryd.func108 (by kernel_rfl)
noncomputable def OT(x2:O)(h:J):ab:=
 ob x2 λa=>some (.ret a,h)
def S0(C:ad)(lf:Nat)(r:aw)(x0:O)(h:J):ab:=
 cB .and 68 x0 (I 61440) λa=>r (some a) h
theorem atU{r:aw}:∀F h,ar abp C lf [] F h ba (aM r 2) an=aM (S0 C lf r) 0 F h:=by
 intro F h;kernel_rfl
def Ih(C:ad)(lf:Nat)(ah:U)(h:J):ab:=S0 C lf OT (some ah) h
def acq:cx ao:=hZ abp Ih (λC lf ah h=>cS (K:=(aM OT 2)) (by kernel_rfl) (Eq.trans (atU _ h) (by kernel_rfl))) (by kernel_rfl)
def abq:b1 ao:=dk 109 Tryd.f109 Tryd.func109 (by kernel_rfl)
noncomputable def OU(h:J):ab:=
 some (.ret (.bm []),h)
def S1(C:ad)(lf:Nat)(n:cu)(x0 x1:O)(h:J):ab:=
 dw 4 x0 h λa=>k6 308 a x1 λa=>ob (bZ 1 a) λa=>eK 1 a h λa=>cn .eql 3 a (I 0) λa=>u4 4 a x0 h λb k=>b3 a x1 k λc k=>b3 a (dQ 308 b c) k λb k=>b3 a (bZ 11 b) k λb k=>jf .eql 3 a (bO b k) (I 0) k λb k=>qn a b (ob x0 λa=>ob x1 λb=>cJ C 107 [a,b,I 0] k λa k=>dw 4 x0 k λa=>ob x1 λb=>ob (gM ao 156 [] []) λc=>ob (dQ 308 a b) λa=>ob (st 308 a c k) n) (n k)
theorem atV{n:cu}:∀F h,ar abq C lf [] F h (ed n) a0 an=a7 (S1 C lf n) 0 1 F h:=by
 intro F h;kernel_rfl
def Ii(C:ad)(lf:Nat)(ah aj:U)(h:J):ab:=S1 C lf OU (some ah) (some aj) h
def acr:cx ao:=hr abq Ii (λC lf ah aj h=>cS (K:=(ed OU)) (by kernel_rfl) (Eq.trans (atV _ h) (by kernel_rfl))) (by kernel_rfl)
def wK:b1 ao:=dk 110 Tryd.f110 Tryd.func110 (by kernel_rfl)
noncomputable def Df(aG:O)(h:J):ab:=
 ob aG λa=>some (.ret a,h)
def S2(C:ad)(lf:Nat)(r:aw)(x7 x8 x9:O)(h:J):ab:=
 cB .gtr 3 x8 (I 0) λa=>b3 a x7 h λb k=>b3 a (ev b) k λb k=>b3 a (bZ 307 b) k λb k=>jf .eql 3 a (bO b k) (I 0) k λb k=>qn a b (cB .add 3 x9 (I 1) λa=>r (some a) k) (ob x9 λa=>r (some a) k)
def agq(C:ad)(lf:Nat)(n:bK)(x7 x8 x9:O)(h:J):ab:=
 cB .geq 3 x8 (I 0) λa=>b3 a x7 h λb k=>b3 a x8 k λc k=>b3 a (ev b) k λb k=>b3 a (bZ 290 b) k λb k=>b3 a (eu 17 1 b c) k λb k=>jf .eql 3 a (bO b k) (I 0) k λb k=>qn a b (cB .add 3 x9 (I 1) λa=>n x7 x8 (some a) k) (n x7 x8 x9 k)
def agr(C:ad)(lf:Nat)(r:aw)(x7 x8 x9:O)(h:J):ab:=
 agq C lf (S2 C lf r) x7 x8 x9 h
def ags(C:ad)(lf:Nat)(n:bK)(x7 x8:O)(h:J):ab:=
 n x7 x8 (bD 1) h
def agt(C:ad)(lf:Nat)(r:aw)(x7 x8:O)(h:J):ab:=
 ags C lf (agr C lf r) x7 x8 h
def agu(C:ad)(lf:Nat)(n:aS)(x2 x7:O)(h:J):ab:=
 aP C 105 x2 h λa=>n x7 (some a)
def S3(C:ad)(lf:Nat)(r:aw)(x2 x7:O)(h:J):ab:=
 agu C lf (agt C lf r) x2 x7 h
theorem atW{r:aw}:∀F h,ar wK C lf [1,1,1] F h ba (aM r 6) an=a7 (S3 C lf r) 2 7 F h:=by
 intro F h;kernel_rfl
def S4(C:ad)(lf:Nat)(n:aS)(r:aw)(x2 x7:O)(h:J):ab:=
 ob x7 λa=>ob x2 λb=>ef 12 a λa=>ob (eu 278 1 a b) λa=>ob (bO a h) λa=>eH .gtr 3 a (I 0) (r (bD 0) h) (n x2 x7 h)
theorem atX{n:aS}{r:aw}:∀F h,ar wK C lf [1,1,0] F h (a7 n 2 7) (aM r 6) an=a7 (S4 C lf n r) 2 7 F h:=by
 intro F h;kernel_rfl
def Kr(C:ad)(lf:Nat)(r:aw)(x2 x7:O)(h:J):ab:=
 S4 C lf (S3 C lf r) r x2 x7 h
theorem atY{r:aw}:∀F h,ar wK C lf [1,1] F h ba (aM r 6) an=a7 (Kr C lf r) 2 7 F h:=bg (by kernel_rfl) atW atX
def Ks(C:ad)(lf:Nat)(n:aS)(x0 x1 x2:O)(h:J):ab:=
 dw 4 x0 h λa=>k6 308 a x1 λa=>n x2 (some a) h
theorem atZ{n:aS}:∀F h,ar wK C lf [1,0] F h (a7 n 2 7) a0 an=bG (Ks C lf n) 0 1 2 F h:=by
 intro F h;kernel_rfl
def agv(C:ad)(lf:Nat)(r:aw)(x0 x1 x2:O)(h:J):ab:=
 Ks C lf (Kr C lf r) x0 x1 x2 h
theorem at0{r:aw}:∀F h,ar wK C lf [1] F h ba (aM r 6) an=bG (agv C lf r) 0 1 2 F h:=bg (by kernel_rfl) atY atZ
noncomputable def agw(C:ad)(lf:Nat)(n:bK)(x0 x1 x2:O)(h:J):ab:=
 n x0 x1 x2 h
theorem at1{n:bK}:∀F h,ar wK C lf [0] F h (bG n 0 1 2) a0 an=bG (agw C lf n) 0 1 2 F h:=by
 intro F h;kernel_rfl
def S5(C:ad)(lf:Nat)(r:aw)(x0 x1 x2:O)(h:J):ab:=
 agw C lf (agv C lf r) x0 x1 x2 h
theorem at2{r:aw}:∀F h,ar wK C lf [] F h ba (aM r 6) an=bG (S5 C lf r) 0 1 2 F h:=bg (by kernel_rfl) at0 at1
def Ij(C:ad)(lf:Nat)(ah aj aC:U)(h:J):ab:=S5 C lf Df (some ah) (some aj) (some aC) h
def acs:cx ao:=nX wK Ij (λC lf ah aj aC h=>cS (K:=(aM Df 6)) (by kernel_rfl) (Eq.trans (at2 _ h) (by kernel_rfl))) (by kernel_rfl)
end
end Go.Proofs.YtomialandfplkaaDoor.Eva
