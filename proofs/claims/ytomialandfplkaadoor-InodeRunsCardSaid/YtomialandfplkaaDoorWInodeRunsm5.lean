import Derived.Test.YtomialandfplkaaDoorCards
import Derived.Deep.DeepHandedRow
import Derived.Test.YtomialandfplkaaDoorWInodeRunsm4
import Derived.Test.YtomialandfplkaaDoorWInodeRunsm2
set_option linter.unusedSimpArgs false
set_option linter.unusedVariables false
set_option maxRecDepth 100000
set_option maxHeartbeats 400000
namespace Go.Proofs.YtomialandfplkaaDoor.Eva
open Go.Xe
def dw(k:Nat):List Nat:=if k<6 then[a4 k] else if k<22 then[18,a4 k] else[35,36+17*((k-22)/16),a4 k]
def lY(k:Nat):List Nat:=if k<6 then[] else if k<22 then[18] else[35,36+17*((k-22)/16)]
theorem aeC(k:Nat):dw k=lY k++[a4 k]:=by
 unfold dw lY;split
 ·rfl
 ·split<;>rfl
theorem zb{k:Nat}(h:k<278):12<=a4 k/\a4 k<308:=by
 unfold a4;split
 ·omega
 ·split
  ·omega
  ·have:=Nat.div_add_mod (k-22) 16
   have:=Nat.mod_lt (k-22) (show 16>0 by omega)
   omega
theorem Bn{k:Nat}(h:k<278):∀c,c∈dw k->12<=c/\c<308:=by
 intro c ae
 have:=zb h
 unfold dw at ae;split at ae
 ·simp only[List.mem_cons,List.not_mem_nil,or_false] at ae;subst ae;exact this
 ·split at ae
  ·simp only[List.mem_cons,List.not_mem_nil,or_false] at ae;rcases ae with rfl|rfl
   ·omega
   ·exact this
  ·simp only[List.mem_cons,List.not_mem_nil,or_false] at ae;rcases ae with rfl|rfl|rfl
   ·omega
   ·omega
   ·exact this
theorem aqM(k:Nat):(dw k).length<=3:=by unfold dw;split<;>(try split)<;>simp
def bN(n i k:Nat)(s:dL):dL×Bool:=if 0<s.bl i (a4 k) then(s,true) else
 if(dp n i (dw k) s []).2.2=true then((dp n i (dw k) s []).1,true) else(⟨s.wd,(dp n i (dw k) s []).1.b,s.nd,s.bl⟩,false)
theorem aEr{P:Program}{h:U}{t e:TypeId}{z:Value}{y0 y1:J}(hu:P.underlying t=some (.slice e))(al:dP P e=some 1)(a1:hb P e=some z)(hj:(db z).cells.length=1)(h0:y0.cells=[y0])(f0:y0.flat=true)(h1:y1.cells=[y1])(f1:y1.flat=true):
 ib P t 2 [0,1] [y0,y1] h=some (.aZ h.next 0 2 (some 2) 0,h.new (dJ e [y0,y1])):=by
 obtain⟨c,ae⟩:∃c,(db z).cells=[c]:=by
  match hm:(db z).cells,hj with
  | [c],_=>exact⟨c,rfl⟩
 unfold ib oV;have ej:(Nat.ble (2*1) 65536&&Nat.ble 1 1&&Nat.beq [c].length 1)=true:=rfl
 have fV:pB (λi=>some (i*1,1)) (si [c] 2) ([0,1].zip [y0,y1])=some [y0,y1]:=by
  simp[si,pB,Fu,h0,f0,h1,f1,show Nat.ble 1 1=true from rfl,show Nat.ble 1 2=true from rfl,show Nat.ble 2 2=true from rfl]
 simp only[hu,al,a1,ae,ej,cond_true,fV,newRow,force_eq];rfl
section
variable{lf:Nat}{h:U}{T:ei}{n N:Nat}{now:Int}{us:Nat->Bool}{s:dL}{i:Nat}
theorem aDp{x7:J}{aJ:Nat}{lp:List Nat}(c:Nat)(hw:(x7= .val (.slice none 0 0)/\lp=[])\/∃kw m,x7= .aZ kw 0 lp.length (some lp.length) 0/\h.mt kw=some m/\kw<h.next/\(∀j,j<lp.length->h.cell kw j=(jN aJ i lp)[j]?))(aL:lp.length<=2):
 ∃h',ib aw 143 1 [0] [.ptr aJ (i*308+c)] h=some (.aZ h.next 0 1 (some 1) 0,h.new (dJ nI [.ptr aJ (i*308+c)]))/\
  gk aw .append #[143,143] [x7,.aZ h.next 0 1 (some 1) 0] (h.new (dJ nI [.ptr aJ (i*308+c)]))=some (.aZ (h.next+1) 0 (lp++[c]).length none 0,h')/\h'.next=h.next+2/\
  (∀j,j<(lp++[c]).length->h'.cell (h.next+1) j=(jN aJ i (lp++[c]))[j]?)/\aG h h' (λ_=>False):=by
 obtain⟨z,a1,hj⟩:=rC.a1;have ag:=LP (h:=h) (y:= .ptr aJ (i*308+c)) rC.hu rC.al a1 hj rfl rfl;have na:=ZJ (h:=h) (y:= .ptr aJ (i*308+c)) (e:=nI);generalize aq:dJ nI [.ptr aJ (i*308+c)]=o at *;have aM:=ow h o (λ_=>False);have cH:(h.new o).next=h.next+1:=im ..
 have az:jN aJ i (lp++[c])=jN aJ i lp++[.ptr aJ (i*308+c)]:=by simp[jN]
 have iN:(jN aJ i lp).length=lp.length:=by simp[jN]
 have fin:∀cells:List J,cells=jN aJ i (lp++[c])->∃h',(some (J.aZ (h.new o).next 0 (lp.length+1) none 0,(h.new o).new (yU nI 1 cells)):Option (J×U))=some (.aZ (h.next+1) 0 (lp++[c]).length none 0,h')/\h'.next=h.next+2/\
  (∀j,j<(lp++[c]).length->h'.cell (h.next+1) j=(jN aJ i (lp++[c]))[j]?)/\aG h h' (λ_=>False):=λcells ae=>by
  refine⟨(h.new o).new (yU nI 1 cells),by rw[cH];simp,by rw[im,cH],λj _=>?_,aM.trans (ow _ _ _)⟩;rw[<- cH,l6,aem,ae]
 rcases hw with⟨rfl,rfl⟩|⟨kw,m,rfl,hm,ai,ae⟩
 ·have:=aka (P:=aw) (h:=h.new o) (y:= .aZ h.next 0 1 (some 1) 0) rC na rfl rfl (Nat.le_refl 1) (by omega) (by omega)
  obtain⟨h',ej,fV⟩:=fin [.ptr aJ (i*308+c)] (by simp[jN]);exact⟨h',ag,by rw[this];exact ej,fV⟩
 ·have al:cQ h (h.new o) kw:=n4 h o (by omega)
  have eA:(h.new o).cells kw 0 (lp.length*1)=some (jN aJ i lp):=lE (by rw[iN,Nat.mul_one]) λj aa=>by
   rw[Nat.zero_add,al.cell];exact ae j (by omega)
  have:=aj9 (P:=aw) (h:=h.new o) (y:= .aZ h.next 0 1 (some 1) 0) (lo:=0) rC ⟨m,by rw[al.mt];exact hm⟩ eA na rfl rfl (Nat.le_refl 1) (by omega) (by omega)
  obtain⟨h',ej,fV⟩:=fin _ az.symm;exact⟨h',ag,by rw[this];exact ej,fV⟩
def F4(C:ad):Prop:=∀h T n N now us s i (k:Nat),bx h T n N s.wd s.b now us s.nd->c1 n N s.wd s.nd s.bl->hr h->ny h T->i<N->k<278->
 ∃h',C (.fn 75) [.ptr T.a9 0,.ptr T.aJ (i*308),I (k:Int)] h=some (.ret (.bool (bN n i k s).2),h')/\bx h' T n N (bN n i k s).1.wd (bN n i k s).1.b now us (bN n i k s).1.nd/\
  c1 n N (bN n i k s).1.wd (bN n i k s).1.nd (bN n i k s).1.bl/\hr h'/\aG h h' (λj=>j=T.bO\/j=T.kd\/j=T.aJ)
theorem amT{C:ad}(gu:1001<=lf)(nz:sF C)(ns:B1 C)(aiV:L1 C)(A:bx h T n N s.wd s.b now us s.nd)(M:c1 n N s.wd s.nd s.bl)(jF:hr h)(O:ny h T)(hi:i<N){k:Nat}(ai:k<278):
 ∃h',C3 C lf (.ptr T.a9 0) (.ptr T.aJ (i*308)) (I (k:Int)) h=some (.ret (.bool (bN n i k s).2),h')/\bx h' T n N (bN n i k s).1.wd (bN n i k s).1.b now us (bN n i k s).1.nd/\
  c1 n N (bN n i k s).1.wd (bN n i k s).1.nd (bN n i k s).1.bl/\hr h'/\aG h h' (λj=>j=T.bO\/j=T.kd\/j=T.aJ):=by
 obtain⟨bT,cm⟩:=zb ai;have gR:=w9 (e:=64) (x:= .ptr T.a9 0) (h:=h) rfl;have ga:(J.ptr T.a9 0).cells=[.ptr T.a9 0]:=rfl;rw[ga] at gR;generalize jf:dJ 64 [.ptr T.a9 0]=dN at *;generalize mL:h.new dN=h1 at *;have cH:h1.next=h.next+1:=by rw[<- mL,im]
 have aM:aG h h1 (λ_=>False):=by rw[<- mL];exact ow _ _ _
 have b0:=A.hK aM λ_ e=>e.elim
 have xy:hr h1:=jF.dA aM O.g (λe=>e);have alY:h1.cell h.next 0=some (.ptr T.a9 0):=by rw[<- mL,l6, <- jf,oR];rfl
 have iN:∀h,C (.fn 76) [.ptr T.aJ (i*308),I (k:Int)] h=some (.ret (.ptr T.aJ (i*308+a4 k)),h):=λh=>nz h T.aJ (i*308) k ai
 have eD:=b0.ef i (a4 k) hi cm;rw[M.cell i _ hi bT cm] at eD
 have v5:C3 C lf (.ptr T.a9 0) (.ptr T.aJ (i*308)) (I (k:Int)) h=wL C lf (λx1 x2 x3 x7 h=>zg C lf nL x1 x2 x3 x7 h) nL (some (.ptr T.aJ (i*308))) (some (I (k:Int))) (some (.ptr h.next 0)) (some (.val (.slice none 0 0))) h1:=by
  unfold C3 UN UM;simp only[ch,cd,rF,gR];rfl
 rw[v5];by_cases aC:0<s.bl i (a4 k)
 ·have aI:bN n i k s=(s,true):=by unfold bN;rw[if_pos aC]
  rw[aI];have aH:decide ((0:Int)<(s.bl i (a4 k):Int))=true:=bu (by omega);refine⟨h1,?_,b0,M,xy,aM.ek λ_ e=>e.elim⟩;unfold wL nL;simp only[aE,iN,eD,aH]
 have PQ:decide ((0:Int)<(s.bl i (a4 k):Int))=false:=br (by omega);obtain⟨z,a1,hj⟩:=rC.a1
 have want:∃x7 h2,wL C lf (λx1 x2 x3 x7 h=>zg C lf nL x1 x2 x3 x7 h) nL (some (.ptr T.aJ (i*308))) (some (I (k:Int))) (some (.ptr h.next 0)) (some (.val (.slice none 0 0))) h1=
  zg C lf nL (some (.ptr T.aJ (i*308))) (some (I (k:Int))) (some (.ptr h.next 0)) (some x7) h2/\aG h1 h2 (λ_=>False)/\
  ((x7= .val (.slice none 0 0)/\lY k=[])\/∃kw m,x7= .aZ kw 0 (lY k).length (some (lY k).length) 0/\h2.mt kw=some m/\kw<h2.next/\(∀j,j<(lY k).length->h2.cell kw j=(jN T.aJ i (lY k))[j]?)):=by
  by_cases QK:k<6
  ·have d1:decide ((22:Int)<=(k:Int))=false:=br (by omega);have d2:decide ((6:Int)<=(k:Int))=false:=br (by omega);refine⟨_,h1,?_,aG.refl _ _,.inl ⟨rfl,by unfold lY;rw[if_pos QK]⟩⟩;unfold wL;simp only[aE,iN,eD,PQ,d1,d2]
  ·by_cases adI:k<22
   ·have d1:decide ((22:Int)<=(k:Int))=false:=br (by omega);have d2:decide ((6:Int)<=(k:Int))=true:=bu (by omega);have hw:lY k=[18]:=by unfold lY;rw[if_neg QK,if_pos adI]
    have ag:=LP (h:=h1) (y:= .ptr T.aJ (i*308+18)) rC.hu rC.al a1 hj rfl rfl;refine⟨.aZ h1.next 0 1 (some 1) 0,h1.new (dJ nI [.ptr T.aJ (i*308+18)]),?_,ow _ _ _,.inr ⟨h1.next,(dJ nI [.ptr T.aJ (i*308+18)]).mt,by rw[hw];rfl,by rw[yX,if_pos rfl],by rw[im];omega,λj aa=>?_⟩⟩
    ·unfold wL;simp only[aE,iN,eD,PQ,d1,d2,Nat.add_zero,ag]
    ·rw[l6,oR,hw];rfl
   ·have d1:decide ((22:Int)<=(k:Int))=true:=bu (by omega);have hw:lY k=[35,36+17*((k-22)/16)]:=by unfold lY;rw[if_neg QK,if_neg adI]
    have al:IntKind.i64.wrap ((k:Int)-22)=((k-22:Nat):Int):=cL (by omega)
    have a0:IntKind.i64.wrap (((k-22:Nat):Int).tdiv 16)=(((k-22)/16:Nat):Int):=by
     rw[Int.tdiv_eq_ediv_of_nonneg (by omega),wrap_i64 (by omega) (by omega)];rfl
    have b7:=lP (n:=16) (s:=17) (k:=T.aJ) (off:=i*308+36) (kd:= .i64) (i:=(((k-22)/16:Nat):Int)) (by omega) (by omega);rw[Int.toNat_natCast] at b7;have Nz:i*308+36+(k-22)/16*17=i*308+(36+17*((k-22)/16)):=by omega
    rw[Nz] at b7;have ag:=aEr (h:=h1) (y0:= .ptr T.aJ (i*308+35)) (y1:= .ptr T.aJ (i*308+(36+17*((k-22)/16)))) rC.hu rC.al a1 hj rfl rfl rfl rfl;refine⟨.aZ h1.next 0 2 (some 2) 0,h1.new (dJ nI [.ptr T.aJ (i*308+35),.ptr T.aJ (i*308+(36+17*((k-22)/16)))]),?_,ow _ _ _,.inr ⟨h1.next,(dJ nI [.ptr T.aJ (i*308+35),.ptr T.aJ (i*308+(36+17*((k-22)/16)))]).mt,by rw[hw];rfl,by rw[yX,if_pos rfl],by rw[im];omega,λj aa=>?_⟩⟩
    ·unfold wL;simp only[aE,iN,eD,PQ,d1,al,lD (show(16:Int)≠0 by omega),a0,b7,Nat.add_zero,ag]
    ·rw[l6,oR,hw];rfl
 obtain⟨x7,h2,ej,bD,hw⟩:=want;rw[ej];have apq:(lY k).length<=2:=by unfold lY;split<;>(try split)<;>simp
 have apy:hb aw 143=some (.slice none 0 0):=by kernel_rfl
 have sO:=rf (P:=aw) (e:=143) (h:=h2) apy;have qE:(db (.slice none 0 0)).cells=[.val (.slice none 0 0)]:=rfl;rw[qE] at sO;generalize yA:dJ 143 [.val (.slice none 0 0)]=mR at *;generalize lJ:h2.new mR=h3 at *;have gy:h3.next=h2.next+1:=by rw[<- lJ,im]
 have dd:aG h2 h3 (λ_=>False):=by rw[<- lJ];exact ow _ _ _
 have W9:h3.wr h2.next 1:=by
  have:=lZ (h:=h2) (o:=mR) (by rw[<- yA];rfl)
  rw[show mR.n=1 by rw[<- yA];rfl,lJ] at this;exact this
 have pt:h3.cell h2.next 0=some (.val (.slice none 0 0)):=by rw[<- lJ,l6, <- yA,oR];rfl
 have apm:(x7= .val (.slice none 0 0)/\lY k=[])\/∃kw m,x7= .aZ kw 0 (lY k).length (some (lY k).length) 0/\h3.mt kw=some m/\kw<h3.next/\(∀j,j<(lY k).length->h3.cell kw j=(jN T.aJ i (lY k))[j]?):=by
  rcases hw with e|⟨kw,m,az,aA,cj,e9⟩
  ·exact .inl e
  ·have K5:=dd.same kw cj (λe=>e);exact .inr ⟨kw,m,az,by rw[K5.mt];exact aA,by omega,λj aa=>by rw[K5.cell];exact e9 j aa⟩
 obtain⟨aW,bX,b2,j6,kF,fL⟩:=aDp (a4 k) apm apq;rw[<- aeC] at b2 kF;have XK:aG h1 aW (λ_=>False):=(bD.trans dd).trans fL;have zL:aG h aW (λ_=>False):=aM.trans XK;have aeN:=bD.next
 have hk:∀j,j<h3.next->cQ h3 aW j:=λj aa=>fL.same j aa (λe=>e)
 have X:xi h aW T n N now us s i h.next h2.next []:=
  ⟨A.hK zL λ_ e=>e.elim,M,jF.dA zL O.g (λe=>e),zL.ek λ_ e=>e.elim,by rw[(XK.same h.next (by omega) (λe=>e)).cell];exact alY,by omega,by omega,
    ⟨.val (.slice none 0 0),by rw[(hk h2.next (by omega)).cell];exact pt,hH.nil _ _ _,λj aa=>by cases aa⟩,fI W9 (hk _ (by omega)),by omega,by omega,by omega⟩
 have gv:=aqM k
 obtain⟨bz,vC,Ea⟩:=OW (lf:=lf) (h0:=h) ns O hi (kx:=h3.next+1) (cs0:=dw k) (Bn ai) (by omega) ⟨by omega,by omega⟩ (.fn (.func 90) [] [.ptr h2.next 0,.ptr h.next 0]) nL (λh=>EU C lf nL h)
  (dw k) 0 rfl (by omega) lf (by omega) aW s [] X (by simp) (by omega) kF (λj aa=>by rw[(hk h2.next (by omega)).cell,pt] at aa;cases aa)
 have yu:eE aw 143 (.aZ (h3.next+1) 0 (dw k).length none 0)=some (I ((dw k).length:Int)):=by
  simp[eE,Tryd.underlying143]
 have pre:zg C lf nL (some (.ptr T.aJ (i*308))) (some (I (k:Int))) (some (.ptr h.next 0)) (some x7) h2=
  bq (yM C lf nL (λh=>EU C lf nL h)) lf (some (.ptr h.next 0),some (.ptr h2.next 0),some (.fn (.func 90) [] [.ptr h2.next 0,.ptr h.next 0]),some (.aZ (h3.next+1) 0 (dw k).length none 0),some (I ((dw k).length:Int)),some (I ((0:Nat):Int))) aW:=by
  unfold zg UL;simp only[ch,cd,rF,sO];unfold UK UJ;simp only[ch,cd];unfold UI UH UG;simp only[ch,cd,kh,rF,iN,bX,b2,yu];rfl
 rw[pre,Ea];have ah6:oi n i s (dp n i (dw k) s []).2.1 (dp n i (dw k) s []).1:=xT (dw k) s [] .nil (Bn ai);by_cases ag:(dp n i (dw k) s []).2.2=true
 ·have aI:bN n i k s=((dp n i (dw k) s []).1,true):=by unfold bN;rw[if_neg aC,if_pos ag]
  rw[if_pos ag,aI];refine⟨bz,?_,vC.A,vC.M,vC.jF,vC.F⟩;unfold EU nL;simp only[ch,cd]
 ·have aI:bN n i k s=(⟨s.wd,(dp n i (dw k) s []).1.b,s.nd,s.bl⟩,false):=by unfold bN;rw[if_neg aC,if_neg ag]
  rw[if_neg ag,aI];have P:=ah6.props hi M A.st.iU;have aoq:=OR (n:=n) (i:=i) (dw k) s [] (by simpa using ag);have ba:(dp n i (dw k) s []).2.1.length<=1000:=by have:=aoq.2;simp at this;omega
  obtain⟨bB,l5,Xw,XX,oa⟩:=aiV h bz T n N now us _ i _ _ _ O hi vC P.eU (λc ae=>⟨(P.o2 c ae).2.1,(P.o2 c ae).2.2.1,(P.o2 c ae).2.2.2.1⟩) ba;obtain⟨iv,sm,W4,_⟩:=ah6.aDc hi M A.st.iU;have W5:(et i (dp n i (dw k) s []).2.1 (dp n i (dw k) s []).1).b=(dp n i (dw k) s []).1.b:=(M3 (i:=i) _ _ P.eU P.iU λc h=>(P.o2 c h).2.2.2.1).2.1;rw[iv,sm,W5] at Xw;rw[iv,sm,W4] at XX;refine⟨bB,?_,Xw,XX,vC.jF.dA oa (Nat.lt_of_lt_of_le O.g vC.F.next) (λe=>by rcases e with e|e;exact O.aK.s e;exact O.aK.n e),vC.F.trans (oa.ek λ_ e=>by rcases e with e|e;exact .inl e;exact .inr (.inr e))⟩;show dV (C (.fn 90) ([]++[]++[.ptr h2.next 0,.ptr h.next 0]) bz) _=_;simp only[List.nil_append,l5,kh];unfold nL;simp only[ch,cd]
end
section
variable{P:Program}{h:U}{t:TypeId}
theorem LO{c9:Array TypeId}{a b:Int}{k:IntKind}:gk P .min c9 [.int k a,.int k b] h=some (.int k (min a b),h):=by
 have e:(bif decide (b<a) then b else a)=min a b:=by
  by_cases c:b<a
  ·rw[bu c,cond_true];omega
  ·rw[br c,cond_false];omega
 show ar (dx h.x0 (Eh (.int k a) (.int k b)))=_;simp only[Eh,e];rfl
theorem aEq{c9:Array TypeId}{a b:Int}{k:IntKind}:gk P .max c9 [.int k a,.int k b] h=some (.int k (max a b),h):=by
 have e:(bif decide (b>a) then b else a)=max a b:=by
  by_cases c:b>a
  ·rw[bu c,cond_true];omega
  ·rw[br c,cond_false];omega
 show ar (dx h.x0 (Eg (.int k a) (.int k b)))=_;simp only[Eg,e];rfl
theorem YT{e s lo hi:Nat}{k1 k2:IntKind}{x:J}{l:List Nat}(hu:P.underlying t=some (.slice e))(al:dP P e=some s)(h1:s=1)(B:Bytes h x l)(ae:mu x)(aL:lo<hi)(ck:hi<=l.length):
 ∃bF,fX P t x (some (.int k1 (lo:Int))) (some (.int k2 (hi:Int)))=some bF/\Bytes h bF ((l.drop lo).take (hi-lo))/\rowOf bF=rowOf x:=by
 subst h1;rcases B.2 with⟨_,rfl⟩|⟨bR,ob,cap,iP,m,rfl,hm,eA⟩
 ·simp at ck;omega
 ·have ej:hX (.int k1 (lo:Int))=some lo:=rfl;have fV:hX (.int k2 (hi:Int))=some hi:=rfl;have hlen:((l.drop lo).take (hi-lo)).length=hi-lo:=by simp;omega
  have ag:∀sf,sf=ob+lo->∀Nd Q7,Bytes h (.aZ bR sf (hi-lo) Nd Q7) ((l.drop lo).take (hi-lo)):=λsf e Nd Q7=>by
   subst e;refine⟨λc ae=>B.1 c (List.mem_of_mem_drop (List.mem_of_mem_take ae)),.inr ⟨bR,ob+lo,Nd,Q7,m,by rw[hlen],hm,λj aa=>?_⟩⟩;rw[hlen] at aa;rw[Nat.add_assoc,eA (lo+j) (by omega)];congr 3;simp[List.getD,List.getElem?_take,aa,List.getElem?_drop]
  unfold fX;cases cap with
  |none=>
   have h3:sliceB l.length l.length (some (.int k1 (lo:Int))) (some (.int k2 (hi:Int)))=some (lo,hi):=by
    simp only[sliceB,ej,fV]
    have:(Nat.ble hi l.length&&Nat.ble lo hi)=true:=by simp[Nat.ble_eq_true_of_le ck,Nat.ble_eq_true_of_le (Nat.le_of_lt aL)]
    simp only[this,cond_true]
   have bX:Nat.blt lo l.length=true:=by rw[Nat.blt_eq];omega
   simp only[hu,al,h3,p3,force_eq,Nat.ble_eq_true_of_le ck,cond_true,bX,Nat.mul_one];exact⟨_,rfl,ag _ rfl _ _,rfl⟩
  |some c=>
   have ae:l.length<=c:=ae
   have h3:sliceB l.length c (some (.int k1 (lo:Int))) (some (.int k2 (hi:Int)))=some (lo,hi):=by
    simp only[sliceB,ej,fV]
    have:(Nat.ble hi c&&Nat.ble lo hi)=true:=by simp[Nat.ble_eq_true_of_le (Nat.le_trans ck ae),Nat.ble_eq_true_of_le (Nat.le_of_lt aL)]
    simp only[this,cond_true]
   have bX:Nat.beq (c-lo) 0=false:=by
    cases ag:Nat.beq (c-lo) 0 with
    |false=>rfl
    |true=>exact absurd (Nat.eq_of_beq_eq_true ag) (by omega)
   simp only[hu,al,h3,p3,force_eq,bX,cond_false,Nat.mul_one];exact⟨_,rfl,ag _ rfl _ _,rfl⟩
end
def jA(n i off:Nat)(l:List Nat):Nat->Nat->dL->dL×Nat
 |0,done,s=>(s,done)
 |f+1,done,s=>if done<l.length then
   (if(bN n i ((off+done)/64) s).2=true then
     jA n i off l f (done+min (64-(off+done)%64) (l.length-done)) ⟨(bN n i ((off+done)/64) s).1.wd,
      over (bN n i ((off+done)/64) s).1.b (((bN n i ((off+done)/64) s).1.bl i (a4 ((off+done)/64))-1)*64+(off+done)%64) ((l.drop done).take (min (64-(off+done)%64) (l.length-done))),
      (bN n i ((off+done)/64) s).1.nd,(bN n i ((off+done)/64) s).1.bl⟩
   else((bN n i ((off+done)/64) s).1,done)) else(s,done)
theorem ny.mono{h h':U}{T:ei}(O:ny h T)(aO:h.next<=h'.next):ny h' T:=⟨Nat.lt_of_lt_of_le O.t aO,Nat.lt_of_lt_of_le O.s aO,Nat.lt_of_lt_of_le O.d aO,Nat.lt_of_lt_of_le O.n aO,Nat.lt_of_lt_of_le O.g aO,O.aK⟩
def Co(T:ei)(x:J):Prop:=∀j,rowOf x=some j->j≠T.a9/\j≠T.bO/\j≠T.kd/\j≠T.aJ
theorem OU{n i k:Nat}{s:dL}(aC:(bN n i k s).2=true):0<(bN n i k s).1.bl i (a4 k):=by
 unfold bN at aC⊢;by_cases h1:0<s.bl i (a4 k)
 ·rw[if_pos h1];exact h1
 ·rw[if_neg h1] at aC⊢;by_cases h2:(dp n i (dw k) s []).2.2=true
  ·rw[if_pos h2];exact(Hw (dw k) s [] h2).2 _ (by rw[aeC];simp)
  ·rw[if_neg h2] at aC;cases aC
section
variable{lf:Nat}{h:U}{T:ei}{n N:Nat}{now:Int}{us:Nat->Bool}{s:dL}{i:Nat}
theorem aDw{C:ad}(nz:sF C)(jS:F4 C)(xz:Cl C)(hi:i<N){off:Nat}{x:J}{l:List Nat}(ye:mu x)(nO:Co T x)(jL:off+l.length<=17792)(az:bt):
 ∀(g done:Nat),l.length-done<=g->done<=l.length->∀f,g<f->∀h s,bx h T n N s.wd s.b now us s.nd->c1 n N s.wd s.nd s.bl->hr h->ny h T->Bytes h x l->(∀j,rowOf x=some j->j<h.next)->
 ∃h',bq (D8 C lf az) f (some (.ptr T.a9 0),some (I (off:Int)),some x,some (.ptr T.aJ (i*308)),some (I (done:Int))) h=
    az (some (.ptr T.a9 0)) (some (I (off:Int))) (some (.ptr T.aJ (i*308))) (some (I ((jA n i off l g done s).2:Int))) h'/\
  bx h' T n N (jA n i off l g done s).1.wd (jA n i off l g done s).1.b now us (jA n i off l g done s).1.nd/\c1 n N (jA n i off l g done s).1.wd (jA n i off l g done s).1.nd (jA n i off l g done s).1.bl/\
  hr h'/\aG h h' (λj=>j=T.bO\/j=T.kd\/j=T.aJ):=by
 intro g
 induction g with
 |zero=>
  intro done bd aH f an h s A M jF O B ar;obtain⟨f,rfl⟩:=dK f (by omega);have hlen:=qQ (P:=aw) Tryd.underlying24 B;have ba:decide ((done:Int)<(l.length:Int))=false:=br (by omega);refine⟨h,?_,A,M,jF,aG.refl _ _⟩;rw[dr];unfold D8 EJ;simp only[aE,hlen,ba];rfl
 |succ g bc=>
  intro done bd aH f an h s A M jF O B ar;obtain⟨f,rfl⟩:=dK f (by omega);have hlen:=λ(h:U) (B:Bytes h x l)=>qQ (P:=aw) Tryd.underlying24 B
  rw[dr];show ∃h',EJ C lf (λx0 x2 x3 aX bW h=>bq (D8 C lf az) f (x0,x2,x3,aX,bW) h) az (some (.ptr T.a9 0)) (some (I (off:Int))) (some x) (some (.ptr T.aJ (i*308))) (some (I (done:Int))) h=_/\_;unfold EJ;by_cases PT:done<l.length
  ·have ba:decide ((done:Int)<(l.length:Int))=true:=bu (by omega);have iK:IntKind.i64.wrap ((off:Int)+(done:Int))=((off+done:Nat):Int):=cL (by omega)
   have a0:IntKind.i64.wrap (((off+done:Nat):Int).tdiv 64)=(((off+done)/64:Nat):Int):=by
    rw[Int.tdiv_eq_ediv_of_nonneg (by omega),wrap_i64 (by omega) (by omega)];rfl
   have aI:((off+done:Nat):Int).tmod 64=(((off+done)%64:Nat):Int):=by
    rw[Int.tmod_eq_emod_of_nonneg (by omega)];rfl
   have ai:(off+done)/64<278:=by omega
   obtain⟨h1,aS,b0,h5,xy,aM⟩:=jS h T n N now us s i ((off+done)/64) A M jF O hi ai
   have hw:jA n i off l (g+1) done s=if(bN n i ((off+done)/64) s).2=true then
    jA n i off l g (done+min (64-(off+done)%64) (l.length-done)) ⟨(bN n i ((off+done)/64) s).1.wd,
     over (bN n i ((off+done)/64) s).1.b (((bN n i ((off+done)/64) s).1.bl i (a4 ((off+done)/64))-1)*64+(off+done)%64) ((l.drop done).take (min (64-(off+done)%64) (l.length-done))),
     (bN n i ((off+done)/64) s).1.nd,(bN n i ((off+done)/64) s).1.bl⟩
    else((bN n i ((off+done)/64) s).1,done):=by
    show(if done<l.length then _ else _)=_;rw[if_pos PT]
   rw[hw];have tp:=OU (n:=n) (i:=i) (k:=(off+done)/64) (s:=s);generalize c2:bN n i ((off+done)/64) s=dA at *;generalize qy:(off+done)/64=k at *;generalize aEW:(off+done)%64=a at *;have b1:a<64:=by omega
   by_cases ag:dA.2=true
   ·rw[ag] at aS;rw[if_pos ag];have tp:=tp ag;obtain⟨bT,cm⟩:=zb ai;generalize hm:min (64-a) (l.length-done)=m at *;have DD:1<=m:=by omega
    have DE:m<=64-a:=by omega
    have yv:done+m<=l.length:=by omega
    have jm:Bytes h1 x l:=B.frame λbR ob len cap lo e=>aM.same bR (ar bR (by rw[e];rfl)) (λaA=>by have:=nO bR (by rw[e];rfl);omega)
    have IV:IntKind.i64.wrap (64-(a:Int))=((64-a:Nat):Int):=cL (by omega);have ks:IntKind.i64.wrap ((l.length:Int)-(done:Int))=((l.length-done:Nat):Int):=cL (by omega);have wb:min ((64-a:Nat):Int) ((l.length-done:Nat):Int)=(m:Int):=by omega
    have IE:IntKind.i64.wrap ((done:Int)+(m:Int))=((done+m:Nat):Int):=cL (by omega);obtain⟨bF,ej,fV,nk⟩:=YT (P:=aw) (t:=24) (lo:=done) (hi:=done+m) (k1:= .i64) (k2:= .i64) Tryd.underlying24 (s:=1) (by kernel_rfl) rfl jm ye (by omega) yv;rw[Nat.add_sub_cancel_left] at fV;have iN:C (.fn 76) [.ptr T.aJ (i*308),I (k:Int)] h1=some (.ret (.ptr T.aJ (i*308+a4 k)),h1):=nz h1 T.aJ (i*308) k ai;have eD:=b0.ef i (a4 k) hi cm;rw[h5.cell i _ hi bT cm] at eD;have hle:=h5.le i (a4 k);have gb:=b0.st.cA;have kr:IntKind.i64.wrap ((dA.1.bl i (a4 k):Int)-1)=((dA.1.bl i (a4 k)-1:Nat):Int):=cL (by omega);have eZ:=h5.on i (a4 k) hi bT cm tp;have yq:((l.drop done).take m).length=m:=by simp;omega
    have tl:¬uq n dA.1.wd ((dA.1.bl i (a4 k)-1:Nat):Int) (a:Int) ((l.drop done).take m):=by
     have je:gH n dA.1.wd ((dA.1.bl i (a4 k)-1:Nat):Int)=true:=by
      simp only[gH,Int.toNat_natCast,eZ,Bool.and_true,Bool.and_eq_true,decide_eq_true_eq];omega
     unfold uq;rw[je,yq];simp only[Bool.true_eq_false,false_or];omega
    obtain⟨h2,a2,ru,cA,bD⟩:=(xz h1 T.bO T.kd n dA.1.wd dA.1.b ((dA.1.bl i (a4 k)-1:Nat):Int) (a:Int) bF ((l.drop done).take m) b0.st fV (by omega) (by omega) (by omega) (by omega) (by omega)).2 tl;rw[Int.toNat_natCast,Int.toNat_natCast] at ru;have dk:=b0.store ru bD.next (bD.same _ b0.lt (λe=>b0.d2 e)) (bD.same _ b0.lb (λe=>b0.d5 e))
    have nw:aG h h2 (λj=>j=T.bO\/j=T.kd\/j=T.aJ):=aM.trans (bD.ek λ_ e=> .inr (.inl e));have j0:∀r,eX (fC [(3,cq (some (J.ptr T.a9 0)))] h1 h1 [3]) r=r:=λr=>Nk rfl b0.lt (FH b0.wt) rfl
    obtain⟨h3,dc,du,fm,kP,mm⟩:=bc (done+m) (by omega) yv f (by omega) h2 ⟨dA.1.wd,over dA.1.b ((dA.1.bl i (a4 k)-1)*64+a) ((l.drop done).take m),dA.1.nd,dA.1.bl⟩ dk h5 (xy.dA bD (Nat.lt_of_lt_of_le O.g aM.next) (λe=>O.aK.d e)) (O.mono nw.next)
     (jm.frame λbR ob len cap lo e=>bD.same bR (Nat.lt_of_lt_of_le (ar bR (by rw[e];rfl)) aM.next) (λaA=>by have:=nO bR (by rw[e];rfl);omega)) (λj aa=>Nat.lt_of_lt_of_le (ar j aa) nw.next)
    refine⟨h3,?_,du,fm,kP,nw.trans mm⟩;simp only[aE,hlen h B,ba,iK,lD (show(64:Int)≠0 by omega),a0,h6 (show(64:Int)≠0 by omega),aI,aS,Bool.not_true,IV,hlen h1 jm,ks,LO,wb,IE,ej,b0.c0,iN,j0,eD,kr,a2];exact dc
   ·have iL:dA.2=false:=by simpa using ag
    rw[iL] at aS;rw[if_neg ag];refine⟨h1,?_,b0,h5,xy,aM⟩;simp only[aE,hlen h B,ba,iK,lD (show(64:Int)≠0 by omega),a0,h6 (show(64:Int)≠0 by omega),aI,aS,Bool.not_false]
  ·have ba:decide ((done:Int)<(l.length:Int))=false:=br (by omega)
   have hw:jA n i off l (g+1) done s=(s,done):=by
    show(if done<l.length then _ else _)=_;rw[if_neg PT]
   rw[hw];refine⟨h,?_,A,M,jF,aG.refl _ _⟩;simp only[aE,hlen h B,ba]
end
def ez(off:Nat)(l:List Nat):List Nat:=l.take (min l.length (17792-off))
def dX(n i off:Nat)(l:List Nat)(s:dL):dL×Nat:=jA n i off (ez off l) (ez off l).length 0 s
def grown(nd:Nat->Nat->J)(i sz:Nat)(now:Int):Nat->Nat->J:=cT (cT (cT nd i 5 (I (sz:Int))) i 9 (I now)) i 10 (I now)
theorem c1.grown{n N:Nat}{wd:Nat->Nat}{nd:Nat->Nat->J}{bl:Nat->Nat->Nat}(M:c1 n N wd nd bl)(i sz:Nat)(now:Int):c1 n N wd (grown nd i sz now) bl:=
 ((M.kZ (by omega)).kZ (by omega)).kZ (by omega)
section
variable{lf:Nat}{h:U}{T:ei}{n N:Nat}{now:Int}{us:Nat->Bool}{s:dL}{i:Nat}
theorem AW(hi:i<N)(hu:us i=true):c8 N us ((i+1:Nat):Int)=true:=by
 have h1:decide ((1:Int)<=((i+1:Nat):Int))=true:=bu (by omega);have h2:decide (((i+1:Nat):Int)<=(N:Int))=true:=bu (by omega);have e:((i+1:Nat):Int).toNat-1=i:=by omega
 simp only[c8,h1,h2,Bool.true_and,e,hu]
theorem amQ{k i' c:Nat}(hi:i<N)(M:c1 n N s.wd s.nd s.bl)(hw:∀j,s.wd j<2 ^ 64)(ai:k<278)(ae:c<12):(bN n i k s).1.nd i' c=s.nd i' c:=by
 unfold bN;by_cases h1:0<s.bl i (a4 k)
 ·rw[if_pos h1]
 ·rw[if_neg h1];by_cases h2:(dp n i (dw k) s []).2.2=true
  ·rw[if_pos h2];have t:oi n i s (dp n i (dw k) s []).2.1 (dp n i (dw k) s []).1:=xT (dw k) s [] .nil (Bn ai);have P:=t.props hi M hw;exact P.Rs i' c (.inr λe=>by have:=(P.o2 c e).2.1;omega)
  ·rw[if_neg h2]
structure pk (n N:Nat) (s:dL):Prop where
 M:c1 n N s.wd s.nd s.bl
 w:∀j,s.wd j<2 ^ 64
theorem OV{k:Nat}(W:pk n N s)(hi:i<N)(ai:k<278):pk n N (bN n i k s).1:=by
 unfold bN;by_cases h1:0<s.bl i (a4 k)
 ·rw[if_pos h1];exact W
 ·rw[if_neg h1];by_cases h2:(dp n i (dw k) s []).2.2=true
  ·rw[if_pos h2];have t:oi n i s (dp n i (dw k) s []).2.1 (dp n i (dw k) s []).1:=xT (dw k) s [] .nil (Bn ai);have P:=t.props hi W.M W.w;exact⟨P.M,P.iU⟩
  ·rw[if_neg h2];exact⟨W.M,W.w⟩
theorem FK{off:Nat}{l:List Nat}(jL:off+l.length<=17792){i' c:Nat}(hi:i<N)(ae:c<12):∀(g done:Nat) (s:dL),done<=l.length->pk n N s->(jA n i off l g done s).1.nd i' c=s.nd i' c/\done<=(jA n i off l g done s).2/\(jA n i off l g done s).2<=l.length/\pk n N (jA n i off l g done s).1
 |0,done,s,aH,W=>⟨rfl,Nat.le_refl _,aH,W⟩
 |g+1,done,s,aH,W=>by
  unfold jA;by_cases h1:done<l.length
  ·rw[if_pos h1];have ai:(off+done)/64<278:=by omega
   have az:=amQ (i:=i) (i':=i') (c:=c) hi W.M W.w ai ae;have jG:=OV (i:=i) W hi ai;by_cases h2:(bN n i ((off+done)/64) s).2=true
   ·rw[if_pos h2]
    obtain⟨ak,aD,a7,cw⟩:=FK jL (i':=i') hi ae g (done+min (64-(off+done)%64) (l.length-done)) ⟨(bN n i ((off+done)/64) s).1.wd,
     over (bN n i ((off+done)/64) s).1.b (((bN n i ((off+done)/64) s).1.bl i (a4 ((off+done)/64))-1)*64+(off+done)%64) ((l.drop done).take (min (64-(off+done)%64) (l.length-done))),
     (bN n i ((off+done)/64) s).1.nd,(bN n i ((off+done)/64) s).1.bl⟩ (by omega) ⟨jG.M,jG.w⟩
    exact⟨ak.trans az,by omega,a7,cw⟩
   ·rw[if_neg h2];exact⟨az,Nat.le_refl _,aH,jG⟩
  ·rw[if_neg h1];exact⟨rfl,Nat.le_refl _,aH,W⟩
def GH(C:ad):Prop:=∀h T n N now us s i (off:Int) x l (sz:Nat),bx h T n N s.wd s.b now us s.nd->c1 n N s.wd s.nd s.bl->hr h->ny h T->i<N->us i=true->s.nd i 5=I (sz:Int)->sz<=17792->Bytes h x l->mu x->Co T x->
 (∀j,rowOf x=some j->j<h.next)->l.length<=140737488351232-> -9223372036854775808<=off->off<9223372036854775808->
 (off<0->C (.fn 38) [.ptr T.a9 0,I ((i+1:Nat):Int),I off,x] h=some (.ret (.bm [I 0,I 22]),h))/\
 (0<=off->l=[]->C (.fn 38) [.ptr T.a9 0,I ((i+1:Nat):Int),I off,x] h=some (.ret (.bm [I 0,I 0]),h))/\
 (l≠[]->17792<=off->C (.fn 38) [.ptr T.a9 0,I ((i+1:Nat):Int),I off,x] h=some (.ret (.bm [I 0,I 27]),h))/\
 (l≠[]->0<=off->off<17792->∃h',aG h h' (λj=>j=T.bO\/j=T.kd\/j=T.aJ)/\hr h'/\
   ((dX n i off.toNat l s).2=0->C (.fn 38) [.ptr T.a9 0,I ((i+1:Nat):Int),I off,x] h=some (.ret (.bm [I 0,I 28]),h')/\
     bx h' T n N (dX n i off.toNat l s).1.wd (dX n i off.toNat l s).1.b now us (dX n i off.toNat l s).1.nd/\c1 n N (dX n i off.toNat l s).1.wd (dX n i off.toNat l s).1.nd (dX n i off.toNat l s).1.bl)/\
   ((dX n i off.toNat l s).2≠0->C (.fn 38) [.ptr T.a9 0,I ((i+1:Nat):Int),I off,x] h=some (.ret (.bm [I ((dX n i off.toNat l s).2:Int),I 0]),h')/\
     bx h' T n N (dX n i off.toNat l s).1.wd (dX n i off.toNat l s).1.b now us (grown (dX n i off.toNat l s).1.nd i (max sz (off.toNat+(dX n i off.toNat l s).2)) now)/\
     c1 n N (dX n i off.toNat l s).1.wd (grown (dX n i off.toNat l s).1.nd i (max sz (off.toNat+(dX n i off.toNat l s).2)) now) (dX n i off.toNat l s).1.bl))
theorem aC5{C:ad}(gu:20000<=lf)(fh:l3 C)(nz:sF C)(jS:F4 C)(xz:Cl C)(MO:GI C){off:Int}{x:J}{l:List Nat}{sz:Nat}(A:bx h T n N s.wd s.b now us s.nd)(M:c1 n N s.wd s.nd s.bl)(jF:hr h)(O:ny h T)(hi:i<N)(hu:us i=true)(dR:s.nd i 5=I (sz:Int))(rZ:sz<=17792)(B:Bytes h x l)(ye:mu x)(nO:Co T x)
 (ar:∀j,rowOf x=some j->j<h.next)(kJ:l.length<=140737488351232)(dN: -9223372036854775808<=off)(df:off<9223372036854775808):
 (off<0->rO C lf (.ptr T.a9 0) (I ((i+1:Nat):Int)) (I off) x h=some (.ret (.bm [I 0,I 22]),h))/\
 (0<=off->l=[]->rO C lf (.ptr T.a9 0) (I ((i+1:Nat):Int)) (I off) x h=some (.ret (.bm [I 0,I 0]),h))/\
 (l≠[]->17792<=off->rO C lf (.ptr T.a9 0) (I ((i+1:Nat):Int)) (I off) x h=some (.ret (.bm [I 0,I 27]),h))/\
 (l≠[]->0<=off->off<17792->∃h',aG h h' (λj=>j=T.bO\/j=T.kd\/j=T.aJ)/\hr h'/\
   ((dX n i off.toNat l s).2=0->rO C lf (.ptr T.a9 0) (I ((i+1:Nat):Int)) (I off) x h=some (.ret (.bm [I 0,I 28]),h')/\
     bx h' T n N (dX n i off.toNat l s).1.wd (dX n i off.toNat l s).1.b now us (dX n i off.toNat l s).1.nd/\c1 n N (dX n i off.toNat l s).1.wd (dX n i off.toNat l s).1.nd (dX n i off.toNat l s).1.bl)/\
   ((dX n i off.toNat l s).2≠0->rO C lf (.ptr T.a9 0) (I ((i+1:Nat):Int)) (I off) x h=some (.ret (.bm [I ((dX n i off.toNat l s).2:Int),I 0]),h')/\
     bx h' T n N (dX n i off.toNat l s).1.wd (dX n i off.toNat l s).1.b now us (grown (dX n i off.toNat l s).1.nd i (max sz (off.toNat+(dX n i off.toNat l s).2)) now)/\
     c1 n N (dX n i off.toNat l s).1.wd (grown (dX n i off.toNat l s).1.nd i (max sz (off.toNat+(dX n i off.toNat l s).2)) now) (dX n i off.toNat l s).1.bl)):=by
 have jK:=A.gN;have bd:=fh h T n N s.wd s.b now us s.nd ((i+1:Nat):Int) A (by omega) (by omega);rw[AW hi hu,if_pos rfl,show((i+1:Nat):Int).toNat-1=i by omega] at bd;have b4:decide ((0:Int)≠0)=false:=rfl;have hlen:=λ(h:U) (x:J) (l:List Nat) (B:Bytes h x l)=>qQ (P:=aw) Tryd.underlying24 B
 have pre:rO C lf (.ptr T.a9 0) (I ((i+1:Nat):Int)) (I off) x h=wJ C lf ql (some (.ptr T.a9 0)) (some (I off)) (some x) (some (.ptr T.aJ (i*308))) h:=by
  unfold rO J1 J0 JZ JY;simp only[ch,cd,kh,bd,pz,List.getElem?_cons_zero,List.getElem?_cons_succ];unfold JX JW;simp only[ch,cd,Ct,b4,o6]
 rw[pre];refine⟨λag=>?_,λag aL=>?_,λaL ag=>?_,λaL bX b2=>?_⟩
 ·unfold wJ Bz ql;simp only[aE,bu ag]
 ·have d1:decide (off<0)=false:=br (by omega);have d2:decide ((l.length:Int)=0)=true:=bu (by rw[aL];rfl);unfold wJ Bz ql;simp only[aE,d1,hlen h x l B,d2]
 ·have d1:decide (off<0)=false:=br (by omega);have DC:0<l.length:=List.length_pos_iff.2 aL;have d2:decide ((l.length:Int)=0)=false:=br (by omega);unfold wJ Bz ql;simp only[aE,d1,hlen h x l B,d2,bu ag]
 ·obtain⟨o,rfl⟩:∃o:Nat,off=o:=⟨off.toNat,by omega⟩;rw[Int.toNat_natCast];have d1:decide ((o:Int)<0)=false:=br (by omega);have DC:0<l.length:=List.length_pos_iff.2 aL;have d2:decide ((l.length:Int)=0)=false:=br (by omega);have d3:decide ((17792:Int)<=(o:Int))=false:=br (by omega);have al:IntKind.i64.wrap (17792-(o:Int))=((17792-o:Nat):Int):=cL (by omega);have wb:min (l.length:Int) ((17792-o:Nat):Int)=((min l.length (17792-o):Nat):Int):=by omega
  obtain⟨bF,ej,fV,nk⟩:=akT (P:=aw) (t:=24) (q:=min l.length (17792-o)) (kd:= .i64) Tryd.underlying24 (s:=1) (by kernel_rfl) B ye (by omega)
  have wh:rowOf bF=rowOf x:=by
   rcases B.2 with⟨_,rfl⟩|⟨k1,ob,cap,lo,m,rfl,_,_⟩
   ·simp at DC
   ·obtain⟨sS,iP,iv,_⟩:=ahp (P:=aw) (t:=24) (q:=min l.length (17792-o)) (kd:= .i64) Tryd.underlying24 (s:=1) (by kernel_rfl) ye (by omega);rw[iv] at ej;cases ej;rfl
  have fE:(ez o l).length=min l.length (17792-o):=by simp[ez]
  obtain⟨h1,dc,b0,h5,xy,aM⟩:=aDw (lf:=lf) (N:=N) (now:=now) (us:=us) nz jS xz hi (off:=o) (x:=bF) (l:=ez o l) nk (λj aa=>nO j (by rw[<- wh];exact aa)) (by omega) (λx0 x2 aX bW h=>zd C lf ql x0 x2 aX bW h)
   (ez o l).length 0 (by omega) (by omega) lf (by omega) h s A M jF O fV (λj aa=>ar j (by rw[<- wh];exact aa))
  have hw:jA n i o (ez o l) (ez o l).length 0 s=dX n i o l s:=rfl;rw[hw] at dc b0 h5
  have mid:wJ C lf ql (some (.ptr T.a9 0)) (some (I (o:Int))) (some x) (some (.ptr T.aJ (i*308))) h=zd C lf ql (some (.ptr T.a9 0)) (some (I (o:Int))) (some (.ptr T.aJ (i*308))) (some (I ((dX n i o l s).2:Int))) h1:=by
   unfold wJ Bz;simp only[aE,d1,hlen h x l B,d2,d3];unfold Tx Tw;simp only[aE,hlen h x l B,al,LO,wb,ej];unfold Tv Tu Tt;exact dc
  rw[mid];obtain⟨cN,cy,fp,ia⟩:=FK (n:=n) (N:=N) (i:=i) (off:=o) (l:=ez o l) (by omega) (i':=i) (c:=5) hi (by omega) (ez o l).length 0 s (by omega) ⟨M,A.st.iU⟩;rw[hw] at cN cy fp ia;by_cases a1:(dX n i o l s).2=0
  ·refine⟨h1,aM,xy,λ_=>⟨?_,b0,h5⟩,λe=>absurd a1 e⟩;have d4:decide (((dX n i o l s).2:Int)=0)=true:=bu (by omega);unfold zd ql;simp only[aE,d4]
  ·have d4:decide (((dX n i o l s).2:Int)=0)=false:=br (by omega);have mI:=b0.ef i 5 hi (by omega);rw[cN,dR] at mI;have iK:IntKind.i64.wrap ((o:Int)+((dX n i o l s).2:Int))=((o+(dX n i o l s).2:Nat):Int):=cL (by omega);have aoP:max (sz:Int) ((o+(dX n i o l s).2:Nat):Int)=((max sz (o+(dX n i o l s).2):Nat):Int):=by omega
   generalize yD:max sz (o+(dX n i o l s).2)=Lg at *;have q9:=wV b0 (i:=i) (c:=5) (y:=I (Lg:Int)) hi (by omega) rfl rfl;have dk:=b0.setNode (i:=i) (c:=5) (y:=I (Lg:Int)) hi (by omega) (by omega);have bD:aG h1 (h1.set T.aJ (i*308+5) [I (Lg:Int)]) (· =T.aJ):=fa rfl;generalize ij:h1.set T.aJ (i*308+5) [I (Lg:Int)]=h2 at *;obtain⟨h3,cr,fg,gy,dd⟩:=MO h2 T n N _ _ now us _ i dk hi;have XL:aG h1 h3 (· =T.aJ):=bD.trans dd;refine⟨h3,aM.trans (XL.ek λ_ e=> .inr (.inr e)),xy.dA XL (Nat.lt_of_lt_of_le O.g aM.next) (λe=>O.aK.n e),λe=>absurd e a1,λ_=>⟨?_,fg,h5.grown _ _ _⟩⟩;have az:i*308+1+4=i*308+5:=Nat.add_assoc _ 1 4;unfold zd ql;simp only[aE,d4,az,mI,iK,aEq,aoP,q9,cr]
end
noncomputable section
variable{C:ad}{lf:Nat}{bb a5 eB fl jM kK qJ qK qL qM qN qO qG qH qI:hc}{ao:kU}
noncomputable def qs:ca aw:=⟨40,Tryd.f40,λr=>bif Nat.beq r 13 then .ord [0,1,2,4,5,6,7,8,3,9,10] [(9,[3])] else .text,Tryd.func40,by kernel_rfl,by kernel_rfl,by kernel_rfl,by kernel_rfl⟩
noncomputable def nK(aF:O)(h:U):ab:=
 ob aF λa=>some (.ret a,h)
def BB(C:ad)(lf:Nat)(r:ay)(x0 x2 x7:O)(h:U):ab:=
 ob x7 λa=>ob x2 λb=>eg 1 a λa=>ob (b6 4 a) λa=>ob (st 1 a b h) λk=>a2 C 77 x0 x7 k λa=>r (bG 0)
theorem auQ{r:ay}:∀F h,au qs C lf [1,1,1,1,1] F h bb (aR r 6) ao=bE (BB C lf r) 0 2 7 F h:=by
 intro F h;kernel_rfl
def EK(C:ad)(lf:Nat)(n:bI)(x0 x2 x7:O)(h:U):ab:=
 cC .rem 3 x2 (I 64) λa=>eF .gtr 3 a (I 0) (ob x7 λb=>cC .quo 3 x2 (I 64) λc=>cS C 76 [b,c] h λb k=>ob (ew b) λb=>ob (bZ b k) λb=>eF .gtr 3 b (I 0) (fU 0 x0 λc=>cl .sub 3 b (I 1) λb=>cl .sub 3 (I 64) a λd=>ob (bZ c k) λg=>b2 (nq aw 24 d d k) λd l=>eX (fC [(3,cq (some c))] k l [3]) (cR (C (.fn 18) [g,b,a,d] l) λa=>n x0 x2 x7)) (n x0 x2 x7 k)) (n x0 x2 x7 h)
theorem auR{n:bI}:∀F h,au qs C lf [1,1,1,1,0] F h (bE n 0 2 7) a5 ao=bE (EK C lf n) 0 2 7 F h:=by
 intro F h;kernel_rfl
def afE(C:ad)(lf:Nat)(r:ay)(x0 x2 x7:O)(h:U):ab:=
 EK C lf (BB C lf r) x0 x2 x7 h
theorem auS{r:ay}:∀F h,au qs C lf [1,1,1,1] F h bb (aR r 6) ao=bE (afE C lf r) 0 2 7 F h:=bn (by kernel_rfl) auQ auR
def Tz(C:ad)(lf:Nat)(n:bI)(x0 x2 x7:O)(h:U):ab:=
 ob x0 λa=>ob x7 λb=>cC .add 3 x2 (I 64) λc=>cl .sub 3 c (I 1) λc=>cl .quo 3 c (I 64) λc=>cS C 78 [a,b,c] h λa=>n x0 x2 x7
theorem auT{n:bI}:∀F h,au qs C lf [1,1,1,0] F h (bE n 0 2 7) a5 ao=bE (Tz C lf n) 0 2 7 F h:=by
 intro F h;kernel_rfl
def BC(C:ad)(lf:Nat)(r:ay)(x0 x2 x7:O)(h:U):ab:=
 Tz C lf (afE C lf r) x0 x2 x7 h
theorem auU{r:ay}:∀F h,au qs C lf [1,1,1] F h bb (aR r 6) ao=bE (BC C lf r) 0 2 7 F h:=bn (by kernel_rfl) auS auT
def wK(C:ad)(lf:Nat)(n:bI)(r:ay)(x0 x2 x7 aP:O)(h:U):ab:=
 gJ .neq 26 aP (I 0) (ob aP λa=>r (some a) h) (gJ .lss 3 x2 (I 0) (r (bG 22) h) (gJ .gtr 3 x2 (I 17792) (r (bG 27) h) (n x0 x2 x7 h)))
theorem auV{n:bI}{r:ay}:∀F h,au qs C lf [1,1,0] F h (bE n 0 2 7) (aR r 6) ao=bp (wK C lf n r) 0 2 7 8 F h:=by
 intro F h;kernel_rfl
def afF(C:ad)(lf:Nat)(r:ay)(x0 x2 x7 aP:O)(h:U):ab:=
 wK C lf (BC C lf r) r x0 x2 x7 aP h
theorem auW{r:ay}:∀F h,au qs C lf [1,1] F h bb (aR r 6) ao=bp (afF C lf r) 0 2 7 8 F h:=bn (by kernel_rfl) auU auV
def J2(C:ad)(lf:Nat)(n:bt)(x0 x1 x2:O)(h:U):ab:=
 a2 C 74 x0 x1 h λa k=>df a λa b=>n x0 x2 (some a) (some b) k
theorem auX{n:bt}:∀F h,au qs C lf [1,0] F h (bp n 0 2 7 8) a5 ao=bE (J2 C lf n) 0 1 2 F h:=by
 intro F h;kernel_rfl
def J3(C:ad)(lf:Nat)(r:ay)(x0 x1 x2:O)(h:U):ab:=
 J2 C lf (afF C lf r) x0 x1 x2 h
theorem auY{r:ay}:∀F h,au qs C lf [1] F h bb (aR r 6) ao=bE (J3 C lf r) 0 1 2 F h:=bn (by kernel_rfl) auW auX
noncomputable def J4(C:ad)(lf:Nat)(n:bI)(x0 x1 x2:O)(h:U):ab:=
 n x0 x1 x2 h
theorem auZ{n:bI}:∀F h,au qs C lf [0] F h (bE n 0 1 2) a5 ao=bE (J4 C lf n) 0 1 2 F h:=by
 intro F h;kernel_rfl
def J5(C:ad)(lf:Nat)(r:ay)(x0 x1 x2:O)(h:U):ab:=
 J4 C lf (J3 C lf r) x0 x1 x2 h
theorem au0{r:ay}:∀F h,au qs C lf [] F h bb (aR r 6) ao=bE (J5 C lf r) 0 1 2 F h:=bn (by kernel_rfl) auY auZ
def s5(C:ad)(lf:Nat)(aj ak aD:J)(h:U):ab:=J5 C lf nK (some aj) (some ak) (some aD) h
def abu:cx aw:=nA qs s5 (λC lf aj ak aD h=>cZ (K:=(aR nK 6)) (by kernel_rfl) (Eq.trans (au0 _ h) (by kernel_rfl))) (by kernel_rfl)
def aaG:ca aw:=dn 51 Tryd.f51 Tryd.func51 (by kernel_rfl)
noncomputable def Ok(bC eC:O)(h:U):ab:=
 ob bC λa=>ob eC λb=>some (.ret (.bm [a,b]),h)
def TQ(C:ad)(lf:Nat)(r:aU)(x0 x1:O)(h:U):ab:=
 a2 C 74 x0 x1 h λa k=>df a λa b=>eF .neq 26 b (I 0) (r (some (.val (.slice none 0 0))) (some b) k) (cS C 79 [a] k λa=>r (some a) (bG 0))
theorem avy{r:aU}:∀F h,au aaG C lf [] F h bb (a8 r 4 5) ao=a8 (TQ C lf r) 0 1 F h:=by
 intro F h;kernel_rfl
def CY(C:ad)(lf:Nat)(aj ak:J)(h:U):ab:=TQ C lf Ok (some aj) (some ak) h
def abE:cx aw:=hd aaG CY (λC lf aj ak h=>cZ (K:=(a8 Ok 4 5)) (by kernel_rfl) (Eq.trans (avy _ h) (by kernel_rfl))) (by kernel_rfl)
def Ay:ca aw:=dn 93 Tryd.f93 Tryd.func93 (by kernel_rfl)
noncomputable def OO(h:U):ab:=
 some (.ret (.bm []),h)
def E6(C:ad)(lf:Nat)(n:bt)(av:cu)(x1 eC aF x7:O)(h:U):ab:=
 mr .lss 3 x7 aF (ob eC λa=>tH 1 a x7 h λa=>eF .gtr 3 a (I 0) (ob x1 λb=>ob (bZ b h) λb=>cl .sub 3 a (I 1) λa=>b2 (ib aw 33 1 [0] [a] h) λa k=>b2 (gk aw .append #[33,33] [b,a] k) λa k=>ob x1 λb=>ob (st 1 b a k) λk=>cC .add 3 x7 (I 1) λa=>n x1 eC aF (some a) k) (cC .add 3 x7 (I 1) λa=>n x1 eC aF (some a) h)) (av h)
theorem ayB{n:bt}{av:cu}:∀F h,au Ay C lf [1,0,0] F h (bp n 1 5 6 7) a5 (bM 0 (ee av) ao)=bp (E6 C lf n av) 1 5 6 7 F h:=by
 intro F h;kernel_rfl
def Bh(C:ad)(lf:Nat)(av:cu)(k:O×O×O×O->U->ab)(s:O×O×O×O)(h:U):ab:=
 E6 C lf (λa b c d=>k (a,b,c,d)) av s.1 s.2.1 s.2.2.1 s.2.2.2 h
def VX(C:ad)(lf:Nat)(n:bt)(x0 x1:O)(h:U):ab:=
 ob x0 λa=>kM 33 a λb=>n x1 (some a) (some b) (bG 0) h
theorem ayC{n:bt}:∀F h,au Ay C lf [0] F h (bp n 1 5 6 7) a5 ao=a8 (VX C lf n) 0 1 F h:=by
 intro F h;kernel_rfl
def VY(C:ad)(lf:Nat)(n:cu)(x0 x1:O)(h:U):ab:=
 VX C lf (λa b c d=>bq (Bh C lf n) lf (a,b,c,d)) x0 x1 h
theorem ayD{n:cu}:∀F h,au Ay C lf [] F h (ee n) a5 ao=a8 (VY C lf n) 0 1 F h:=bn (b:=cc Ay [1]) (by kernel_rfl) (gm (id:=0) (a:=cc Ay [1,0]) (by kernel_rfl) (hg (g:=λF=>(F 1,F 5,F 6,F 7)) (body:=Bh C lf n) (by kernel_rfl) (λk=>(ayB (n:=λx1 eC aF x7 h=>k (x1,eC,aF,x7) h))))) (ayC (n:=λx1 eC aF x7 h=>bq (Bh C lf n) lf (x1,eC,aF,x7) h))
def Im(C:ad)(lf:Nat)(aj ak:J)(h:U):ab:=VY C lf OO (some aj) (some ak) h
def ab8:cx aw:=hd Ay Im (λC lf aj ak h=>cZ (K:=(ee OO)) (by kernel_rfl) (Eq.trans (ayD _ h) (by kernel_rfl))) (by kernel_rfl)
end
section
variable{lf:Nat}{n N i:Nat}{s:dL}
theorem aad{n:Nat}{f:Nat->Bool}(h:∀j,j<n->f j=true):((List.range n).filter f).length=n:=by
 rw[List.filter_eq_self.2 λj aa=>h j (List.mem_range.1 aa)];simp
def y2:Nat->Nat->J:=iw (λ_=>fA) 0 (mh ((0+1:Nat):Int) 0 0 33152 0)
def aDg:Nat->Bool:=de (λ_=>false) 0 true
def s1:dL:=⟨λ_=>0,λ_=>0,y2,λ_ _=>0⟩
end
end Go.Proofs.YtomialandfplkaaDoor.Eva
namespace Go.Xe
section
variable{H:Type}{enc:TypeId×Value->H}
end
section
open Go.ChangeShapes Go.WideShapes Go.ChangeAt Go.RowKit
section
variable{P:Program}{H:Type}{enc:TypeId×Value->H}{w:World}
theorem aim{e:TypeId}:∀{l:List (DataW H)} {d:DataW H},d∈l->∀n∈d.weights P e,n∈DataW.weightsAll P e l
 |hJ::r,d,aH,n,aO=>by
  simp only[DataW.weightsAll,List.mem_append];rcases List.mem_cons.1 aH with rfl|h
  ·exact Or.inl aO
  ·exact Or.inr (aim h n aO)
def mx(P:Program)(t:TypeId)(d:DataW H):Prop:=∀n∈d.weights P t,n<=140737488351232
theorem aDy{c9:List TypeId}{bh:List (DataW H)}{j:Nat}{t:TypeId}{d:DataW H}(h:(DataW.weightsEach P c9 bh).all (· <=reachBytes)=true)(aN:c9[j]?=some t)(aH:bh[j]?=some d):mx P t d:=λn aO=>by
 have:=List.all_eq_true.1 h _ (DataW.weights_mem_each aN aH n aO)
 have aI:reachBytes=140737488351232:=rfl;rw[aI] at this;simpa using this
theorem mx.len{t e:TypeId}{el sp:List (DataW H)}(h:mx P t (.slice el sp))(hu:P.underlying t=some (.slice e)):(el.length+sp.length)*P.bytesOf e<=140737488351232:=
 h _ (by simp[DataW.weights,hu])
theorem mx.elem{t e:TypeId}{el sp:List (DataW H)}(h:mx P t (.slice el sp))(hu:P.underlying t=some (.slice e)){x:DataW H}(ar:x∈el):mx P e x:=λn aO=>
 h n (by
   simp only[DataW.weights,hu,List.mem_cons,List.mem_append]
   exact .inr (.inl (aim ar n aO)))
theorem mx.field{t:TypeId}{fO:Array Field}{bh:List (DataW H)}(h:mx P t (.agg bh))(hu:P.underlying t=some (.struct fO)){i:Nat}{f:Field}{d:DataW H}(an:fO[i]?=some f)(aH:bh[i]?=some d):mx P f.type d:=λn aO=>
 h n (by
   simp only[DataW.weights,hu]
   exact DataW.weights_mem_each (j:=i) (by simp[an]) aH n aO)
theorem mx.str{t:TypeId}{bytes:List UInt8}(h:mx P t (.lit (.string bytes):DataW H)):bytes.length<=140737488351232:=h _ (by simp[DataW.weights])
theorem aBw{t e s fuel:Nat}{v:Value}{d:DataW H}{ps:List MemPlace}(aN:P.underlying t=some (.slice e))(al:P.cellsOf e=s)(h1:1<=s)
 (an:DataW.trod enc P w 0 (λ_=>true) true fuel t [v]=some (d,ps)):
 uU w.heap.size v=lift w.heap.size v/\((lift w.heap.size v= .val (.slice none 0 0)/\d= .nil)\/(lift w.heap.size v= .kR 0/\d= .slice [] [])\/
  ∃(id off len cap:Nat) (m:pb) (el sp:List (DataW H)),lift w.heap.size v= .aZ id off len (some cap) 0/\len<=cap/\(ht w).mt id=some m/\d= .slice el sp/\el.length=len/\
   ∀i,i<len->∃(cs:List Value) (s6:Nat) (hJ:DataW H) (q0:List MemPlace),cs.length=s/\el[i]?=some hJ/\(∀j,j<s->(ht w).cell id (off+i*s+j)=(cs[j]?).map (lift w.heap.size))/\
    DataW.trod enc P w 0 (λ_=>true) true s6 e cs=some (hJ,q0)):=by
 subst al;rcases DataW.trod_slice aN an with⟨eA,ar⟩|⟨a,len,cap,elems,rest,n,_,eA,ar,_,aL,hm,hlen,na,wi,_⟩
 ·simp only[List.cons.injEq,and_true] at eA;subst eA;exact⟨rfl,.inl ⟨rfl,(Prod.mk.inj ar).1⟩⟩
 ·simp only[List.cons.injEq,and_true] at eA;subst eA;refine⟨rfl,.inr ?_⟩;have aH:=(Prod.mk.inj ar).1;obtain⟨qA,DM⟩:=wi rfl;by_cases h0:len=0/\cap=0
  ·obtain⟨rfl,rfl⟩:=h0;have az:elems=[]:=List.length_eq_zero_iff.1 hlen;have aA:rest=[]:=List.length_eq_zero_iff.1 (by simpa using qA);rw[az,aA] at aH;exact .inl ⟨rfl,aH⟩
  ·have aC:0<cap:=by omega
   obtain⟨id,off,spot⟩:=a
   have first:∃cs,w.cells? 0 (Addr.add ⟨id,off,spot⟩ 0) (P.cellsOf e)=some cs:=by
    by_cases uI:0<len
    ·have h2:=na 0 uI;have h3:0<elems.length:=by omega
     rw[List.getElem?_eq_getElem h3] at h2;obtain⟨cs,g1,_⟩:=Option.bind_eq_some_iff.1 h2;exact⟨cs,by simpa using g1⟩
    ·have uI:len=0:=by omega
     have h2:=DM 0 (by omega);have h3:0<rest.length:=by omega
     rw[List.getElem?_eq_getElem h3] at h2;obtain⟨cs,g1,_⟩:=Option.bind_eq_some_iff.1 h2;rw[uI] at g1;exact⟨cs,by simpa using g1⟩
   obtain⟨c0,mf⟩:=first
   obtain⟨_,ac5,ga⟩:=World.cells?_some mf;have Dt:=ga 0 (by omega);have aoN:0<c0.length:=by omega
   rw[List.getElem?_eq_getElem aoN] at Dt;have al:spot=none:=MW (MW (World.cell?_spot Dt));subst al;rw[xB,xB] at Dt;have tj:id<w.heap.size:=YY Dt;obtain⟨m,Qd⟩:=adv Dt;refine .inr ⟨id,off,len,cap,m,_,_,aeb (off:=off) tj h0,aL,Qd,aH,by simpa using hlen,λi hi=>?_⟩;have h2:=na i hi;have h3:i<elems.length:=by omega
   rw[List.getElem?_eq_getElem h3] at h2;obtain⟨cs,g1,g2⟩:=Option.bind_eq_some_iff.1 h2;obtain⟨_,k1,k2⟩:=World.cells?_some g1;refine⟨cs,n,elems[i].1,elems[i].2,k1,by simp[List.getElem?_eq_getElem h3],λj aa=>?_,g2⟩
   have:=k2 j aa
   rw[xB,xB] at this;rw[Qu,this]
theorem amO{t fuel i:Nat}{fO:Array Field}{cs:List Value}{d:DataW H}{ps:List MemPlace}{f:Field}(aN:P.underlying t=some (.struct fO))(h:DataW.trod enc P w 0 (λ_=>true) true fuel t cs=some (d,ps))(an:fO[i]?=some f):
 ∃(s6:Nat) (bh:List (DataW H)) (hJ:DataW H) (q0:List MemPlace),d= .agg bh/\bh[i]?=some hJ/\DataW.trod enc P w 0 (λ_=>true) true s6 f.type ((cs.drop f.offset).take (P.cellsOf f.type))=some (hJ,q0):=by
 obtain⟨xs,n,_,ar,_,aL,fP⟩:=DataW.trod_struct aN h;have h1:=fP i f an
 have hi:i<xs.length:=by
  rw[aL];exact(Array.getElem?_eq_some_iff.1 an).1
 rw[List.getElem?_eq_getElem hi] at h1;exact⟨n,_,xs[i].1,xs[i].2,(Prod.mk.inj ar).1,by simp[List.getElem?_eq_getElem hi],h1⟩
theorem arp{t fuel o:Nat}{cs:List Value}{d:DataW H}{ps:List MemPlace}(aL:o<cs.length)(h:DataW.trod enc P w 0 (λ_=>true) true fuel t ((cs.drop o).take 1)=some (d,ps)):
 ∃v,cs[o]?=some v/\DataW.trod enc P w 0 (λ_=>true) true fuel t [v]=some (d,ps):=by
 have:(cs.drop o).take 1=[cs[o]]:=by
  rw[List.drop_eq_getElem_cons aL];rfl
 rw[this] at h;exact⟨cs[o],List.getElem?_eq_getElem aL,h⟩
theorem s4{t ty fuel i o:Nat}{fO:Array Field}{cs:List Value}{d:DataW H}{ps:List MemPlace}{f:Field}(aN:P.underlying t=some (.struct fO))(h:DataW.trod enc P w 0 (λ_=>true) true fuel t cs=some (d,ps))(an:fO[i]?=some f)
 (tr:f.type=ty)(aq:f.offset=o)(ae:P.cellsOf ty=1)(aL:o<cs.length):
 ∃(v:Value) (s6:Nat) (bh:List (DataW H)) (hJ:DataW H) (q0:List MemPlace),cs[o]?=some v/\d= .agg bh/\bh[i]?=some hJ/\DataW.trod enc P w 0 (λ_=>true) true s6 ty [v]=some (hJ,q0):=by
 obtain⟨NU,bh,hJ,q0,h1,h2,h3⟩:=amO aN h an;rw[tr,aq,ae] at h3;obtain⟨v,aW,bz⟩:=arp aL h3;exact⟨v,NU,bh,hJ,q0,aW,h1,h2,bz⟩
theorem mx.s4{t ty i:Nat}{fO:Array Field}{f:Field}{bh:List (DataW H)}{d:DataW H}(h:mx P t (.agg bh))(hu:P.underlying t=some (.struct fO))(an:fO[i]?=some f)(tr:f.type=ty)(aH:bh[i]?=some d):mx P ty d:=by
 rw[<- tr];exact h.field hu an aH
theorem yF{t fuel:Nat}{k:IntKind}{v:Value}{d:DataW H}{ps:List MemPlace}(aN:P.underlying t=some (.int k))(h:DataW.trod enc P w 0 (λ_=>true) true fuel t [v]=some (d,ps)):
 ∃n,v= .int k n/\k.min<=n/\n<=k.max:=by
 obtain⟨n,h1,_,hw⟩:=DataW.trod_int aN h;simp only[List.cons.injEq,and_true] at h1;exact⟨n,h1,by simpa[Lit.wf] using hw⟩
theorem aBt{t e s j:Nat}{v:Value}{d:DataW H}{ps:List MemPlace}{r:Reach}{qf:Nat}{c9:List TypeId}{bh:List (DataW H)}(aN:P.underlying t=some (.slice e))(al:P.cellsOf e=s)(h1:1<=s)
 (r0:Value.okWide P w r qf t v)(h:DataW.Trod enc P w 0 (λ_=>true) true t v d ps)(Qq:c9[j]?=some t)(PV:bh[j]?=some d)(a1:(DataW.weightsEach P c9 bh).all (· <=reachBytes)=true):
 F2 (uU w.heap.size v)\/
  ∃(id off len cap:Nat) (m:pb),uU w.heap.size v= .aZ id off len (some cap) 0/\len<=cap/\(ht w).mt id=some m/\len*P.bytesOf e<=140737488351232/\
   ∀i,i<len->∃(cs:List Value) (s6:Nat) (hJ:DataW H) (q0:List MemPlace),cs.length=s/\mx P e hJ/\(∀j,j<s->(ht w).cell id (off+i*s+j)=(cs[j]?).map (lift w.heap.size))/\
    DataW.trod enc P w 0 (λ_=>true) true s6 e cs=some (hJ,q0):=by
 have adx:=aDy a1 Qq PV;obtain⟨fuel,an⟩:=h;obtain⟨aj,aqh,rK,rfl⟩:=okWide_slice aN r0;have an:DataW.trod enc P w 0 (λ_=>true) true fuel t [.slice aj aqh rK]=some (d,ps):=an;obtain⟨av,az⟩:=aBw aN al h1 an;rw[av];rcases az with⟨az,rfl⟩|⟨az,rfl⟩|⟨id,off,len,cap,m,el,sp,az,ac5,hm,rfl,hlen,fP⟩
 ·exact .inl (.inl az)
 ·exact .inl (.inr ⟨_,az⟩)
 ·have h3:=adx.len aN;have aW:len*P.bytesOf e<=(el.length+sp.length)*P.bytesOf e:=Nat.mul_le_mul_right _ (by omega);refine .inr ⟨id,off,len,cap,m,az,ac5,hm,by omega,λi hi=>?_⟩;obtain⟨cs,s6,hJ,q0,g1,g2,g3,g4⟩:=fP i hi;exact⟨cs,s6,hJ,q0,g1,adx.elem aN (List.mem_of_getElem? g2),g3,g4⟩
theorem akW{t e fuel:Nat}{v:Value}{d:DataW H}{ps:List MemPlace}(aN:P.underlying t=some (.slice e))(he:P.underlying e=some (.int .u8))(ae:P.cellsOf e=1)(ag:P.bytesOf e=1)
 (an:DataW.trod enc P w 0 (λ_=>true) true fuel t [v]=some (d,ps))(hw:mx P t d):
 ∃l:List Nat,Bytes (ht w) (lift w.heap.size v) l/\mu (lift w.heap.size v)/\l.length<=140737488351232:=by
 obtain⟨l,B,C,_,aH⟩:=akV aN he ae an;refine⟨l,B,C,?_⟩;rcases aH with⟨_,rfl⟩|⟨el,sp,rfl,aL⟩
 ·simp
 ·have:=hw.len aN
  rw[ag] at this;omega
end
theorem Y3{α:Type}{p:Nat->α->Prop}:∀{n:Nat},(∀i,i<n->∃a,p i a)->∃L:List α,L.length=n/\∀i (hi:i<L.length),p i L[i]
 |0,_=>⟨[],rfl,λi hi=>by simp at hi⟩
 |n+1,h=>by
  obtain⟨L,h1,h2⟩:=Y3 (p:=p) (n:=n) λi hi=>h i (by omega)
  obtain⟨a,b1⟩:=h n (by omega);refine⟨L++[a],by simp[h1],λi hi=>?_⟩;by_cases aO:i<L.length
  ·rw[List.getElem_append_left aO];exact h2 i aO
  ·have:i=n:=by simp at hi;omega
   subst this;rw[List.getElem_append_right (by omega)];simpa[h1] using b1
end
section
variable{P:Program}{t u e b:Nat}{h:U}{c:J}{n k off len lo:Nat}{cap:Option Nat}
structure LY (P:Program) (t u e b:Nat) (c:J):Prop where
 hu:P.underlying t=some (.slice e)
 al:dP P e=some 1
 a1:∃z,hb P e=some z/\(db z).cells=[c]
 ag:n8 P e=some b
 hi:∃k,P.underlying u=some (.int k)
 h1:c.one=true
theorem aEp{kd:IntKind}(T:LY P t u e b c)(h1:n<=140737488355328)(h2:n*b<=140737488355328):
 gk P .append #[t,u] [.aZ k off len cap lo,.int kd (n:Int)] h=ar (lA e 1 b k off len cap lo n (List.replicate n c) h.x0):=by
 obtain⟨hu,al,⟨z,a1,qE⟩,ag,⟨n0,hi⟩,jt⟩:=T
 have av:iD P .append #[t,u] [.aZ k off len cap lo,.int kd (n:Int)] h.x0=pY P t (.aZ k off len cap lo) (.int kd (n:Int)) h.x0:=by
  show(match P.underlying u with|some d=>bif se d then oU P t _ _ h.x0 else(bif vi d then pY P t _ _ h.x0 else none)|none=>none)=_;simp only[hi,se,vi,cond_false,cond_true]
 have aS:(Nat.beq 1 1&&(c.one&&(Nat.ble n 140737488355328&&Nat.ble (n*b) 140737488355328)))=true:=by
  rw[jt,Nat.ble_eq_true_of_le h1,Nat.ble_eq_true_of_le h2];rfl
 unfold gk;rw[av]
 show ar (match P.underlying t,J.int kd (Int.ofNat n) with
  |some (.slice e),.int _ (.ofNat n)=>match dP P e,hb P e,n8 P e with
   |some sz,some z,some b=>match (db z).cells with
    | [c]=>bif Nat.beq sz 1&&(c.one&&(Nat.ble n 140737488355328&&Nat.ble (n*b) 140737488355328)) then lA e 1 b k off len cap lo n (List.replicate n c) h.x0 else none
    |_=>none
   |_,_,_=>none
  |_,_=>none)=_
 simp only[hu,al,a1,ag,qE,aS,cond_true]
theorem Yy{sz cp N:Nat}{news:List J}(hw:h.wr k N)(jK:off+(len+n)*sz<=N)(ae:len+n<=cp):
 ar (lA e sz b k off len (some cp) lo n news h.x0)=some (.aZ k off (len+n) (some cp) lo,h.set k (off+len*sz) news):=by
 obtain⟨m,hm,aI,aO⟩:=hw;unfold U.mt at hm;cases aq:h.aV.get k with
 |none=>simp[aq] at hm
 |some o=>
  simp only[aq,Option.some.injEq] at hm;subst hm;simp only[bH.mt] at aI aO;have bX:Nat.ble (len+n) cp=true:=Nat.ble_eq_true_of_le ae;have b2:(Nat.ble (off+(len+n)*sz) o.n&&!o.ro)=true:=by rw[Nat.ble_eq_true_of_le (by omega),aI];rfl
  simp only[lA,U.so,aq,force_eq,bX,cond_true,pq,b2];unfold U.set;simp only[aq,Ek,aI];rfl
theorem aj8{sz cp N d:Nat}{y:J}{news:List J}(T:sv P t u e sz d)(he:kY h.x0 sz y=some (n,news))(gv:news.length=n*sz)(gw:dZ news=true)(hw:h.wr k N)(jK:off+(len+n)*sz<=N)(ae:len+n<=cp):
 gk P .append #[t,u] [.aZ k off len (some cp) lo,y] h=some (.aZ k off (len+n) (some cp) lo,h.set k (off+len*sz) news):=
 (LN T he gv gw).trans (Yy hw jK ae)
theorem aj7{kd:IntKind}{cp N:Nat}(T:LY P t u e b c)(h1:n<=140737488355328)(h2:n*b<=140737488355328)(hw:h.wr k N)(jK:off+(len+n)<=N)(ae:len+n<=cp):
 gk P .append #[t,u] [.aZ k off len (some cp) lo,.int kd (n:Int)] h=some (.aZ k off (len+n) (some cp) lo,h.set k (off+len) (List.replicate n c)):=by
 have:=(aEp (h:=h) (k:=k) (off:=off) (len:=len) (cap:=some cp) (lo:=lo) (kd:=kd) T h1 h2).trans (Yy hw (by omega) ae)
 rwa[Nat.mul_one] at this
end
end Go.Xe
namespace Go.Proofs.YtomialandfplkaaDoor.Eva
open Go.Xe
def oo(s:dL)(i p:Nat):Nat:=if s.bl i (a4 (p/64))=0 then 0 else s.b ((s.bl i (a4 (p/64))-1)*64+p%64)
def qh(s:dL)(i off n:Nat):List Nat:=(List.range n).map λj=>oo s i (off+j)
theorem Zg(s:dL)(i off n:Nat):(qh s i off n).length=n:=by simp[qh]
theorem alC(s:dL)(i off:Nat){n j:Nat}(aa:j<n):(qh s i off n).getD j 0=oo s i (off+j):=by simp[qh,List.getD,aa]
theorem aj3:sv aw 24 24 5 1 1:=
 ⟨Tryd.underlying24,by kernel_rfl,⟨.int .u8 0,by kernel_rfl,rfl⟩,by kernel_rfl,⟨_,Tryd.underlying24,rfl⟩,Nat.le_refl 1⟩
theorem aj6:LY aw 24 3 5 1 (.int .u8 0):=
 ⟨Tryd.underlying24,by kernel_rfl,⟨.int .u8 0,by kernel_rfl,rfl⟩,by kernel_rfl,⟨_,Tryd.underlying3⟩,rfl⟩
theorem aEF{n j:Nat}(aa:j<n):(List.replicate n (J.int .u8 0))[j]?=some (.int .u8 0):=by simp[aa]
section
variable{lf:Nat}{h:U}{T:ei}{n N:Nat}{now:Int}{us:Nat->Bool}{s:dL}{i:Nat}
theorem aG.gz{h h1 h2:U}{k:Nat}(a:aG h h1 (λ_=>False))(b:aG h1 h2 (· =k))(ai:h.next<=k):aG h h2 (λ_=>False):=
 ⟨b.aK.trans a.aK,Nat.le_trans a.next b.next,λj aa _=>(b.same j (Nat.lt_of_lt_of_le aa a.next) (by omega)).trans (a.same j aa (λe=>e)),λan=>b.dA (a.dA an)⟩
theorem bx.hk{wd b:Nat->Nat}{nd:Nat->Nat->J}{h':U}(A:bx h T n N wd b now us nd)(F:aG h h' (λ_=>False)):bx h' T n N wd b now us nd:=
 A.frame F.next λj aa=>F.same j (by
  rcases aa with rfl|rfl|rfl|rfl
  ·exact A.lt
  ·exact A.st.wy
  ·exact A.st.wv
  ·exact A.lb) (λe=>e)
theorem azV{C:ad}(nz:sF C)(qd:Gz C)(hi:i<N){h0:U}{off cap:Nat}(A:bx h0 T n N s.wd s.b now us s.nd)(M:c1 n N s.wd s.nd s.bl)(jL:off+cap<=17792){k:Nat}(v9:h0.next<=k)(av:ay):
 ∀(g d:Nat),cap-d<=g->d<=cap->∀f,g<f->∀h,aG h0 h (λ_=>False)->k<h.next->h.wr k cap->(∀j,j<d->h.cell k j=some (.int .u8 ((oo s i (off+j):Nat):Int)))->
 ∃h',bq (D9 C lf av) f (some (.ptr T.a9 0),some (I ((off+d:Nat):Int)),some (.ptr T.aJ (i*308)),some (I ((off+cap:Nat):Int)),some (.aZ k 0 d (some cap) 0)) h=
    av (some (.aZ k 0 cap (some cap) 0)) h'/\aG h0 h' (λ_=>False)/\k<h'.next/\h'.wr k cap/\(∀j,j<cap->h'.cell k j=some (.int .u8 ((oo s i (off+j):Nat):Int))):=by
 intro g
 induction g with
 |zero=>
  intro d bd aH f an h F ai hw ae;obtain⟨f,rfl⟩:=dK f (by omega);have PR:d=cap:=by omega
  subst PR;have ba:decide (((off+d:Nat):Int)<((off+d:Nat):Int))=false:=br (by omega);refine⟨h,?_,F,ai,hw,ae⟩;rw[dr];unfold D9 EM;simp only[aE,ba]
 |succ g bc=>
  intro d bd aH f an h F ai hw ae;obtain⟨f,rfl⟩:=dK f (by omega);rw[dr];show ∃h',EM C lf (λx0 x2 aX bW ey h=>bq (D9 C lf av) f (x0,x2,aX,bW,ey) h) av (some (.ptr T.a9 0)) (some (I ((off+d:Nat):Int))) (some (.ptr T.aJ (i*308))) (some (I ((off+cap:Nat):Int))) (some (.aZ k 0 d (some cap) 0)) h=_/\_;unfold EM;by_cases PT:d<cap
  ·have ba:decide (((off+d:Nat):Int)<((off+cap:Nat):Int))=true:=bu (by omega)
   have a0:IntKind.i64.wrap (((off+d:Nat):Int).tdiv 64)=(((off+d)/64:Nat):Int):=by
    rw[Int.tdiv_eq_ediv_of_nonneg (by omega),wrap_i64 (by omega) (by omega)];rfl
   have aI:((off+d:Nat):Int).tmod 64=(((off+d)%64:Nat):Int):=by
    rw[Int.tmod_eq_emod_of_nonneg (by omega)];rfl
   have qy:(off+d)/64<278:=by omega
   have acN:∀j,j<min (64-(off+d)%64) (cap-d)->oo s i (off+(d+j))=if s.bl i (a4 ((off+d)/64))=0 then 0 else s.b ((s.bl i (a4 ((off+d)/64))-1)*64+((off+d)%64+j)):=λj aa=>by
    unfold oo;rw[show(off+(d+j))/64=(off+d)/64 by omega,show(off+(d+j))%64=(off+d)%64+j by omega]
   generalize aE6:(off+d)/64=kk at *;generalize aEX:(off+d)%64=a at *;have b1:a<64:=by omega
   obtain⟨bT,cm⟩:=zb qy;generalize aE8:min (64-a) (cap-d)=m at *;have DD:1<=m:=by omega
   have DE:m<=64-a:=by omega
   have yv:d+m<=cap:=by omega
   have IV:IntKind.i64.wrap (64-(a:Int))=((64-a:Nat):Int):=cL (by omega);have ks:IntKind.i64.wrap (((off+cap:Nat):Int)-((off+d:Nat):Int))=((cap-d:Nat):Int):=cL (by omega);have wb:min ((64-a:Nat):Int) ((cap-d:Nat):Int)=(m:Int):=by omega
   have IE:IntKind.i64.wrap (((off+d:Nat):Int)+(m:Int))=((off+(d+m):Nat):Int):=cL (by omega);have an1:IntKind.i64.wrap ((a:Int)+(m:Int))=((a+m:Nat):Int):=cL (by omega);have iy:=A.hk F;have iN:C (.fn 76) [.ptr T.aJ (i*308),I (kk:Int)] h=some (.ret (.ptr T.aJ (i*308+a4 kk)),h):=nz h T.aJ (i*308) kk qy;have eD:=iy.ef i (a4 kk) hi cm;rw[M.cell i _ hi bT cm] at eD;have hle:=M.le i (a4 kk);have gb:=A.st.cA;by_cases a1:s.bl i (a4 kk)=0
   ·have nQ:decide ((0:Int)<((s.bl i (a4 kk):Nat):Int))=false:=br (by omega);have nO:=aj7 (h:=h) (k:=k) (off:=0) (len:=d) (lo:=0) (kd:= .i64) (n:=m) (cp:=cap) aj6 (by omega) (by omega) hw (by omega) yv;have aM:aG h (h.set k (0+d) (List.replicate m (.int .u8 0))) (· =k):=fa rfl
    obtain⟨h3,dc,du⟩:=bc (d+m) (by omega) yv f (by omega) (h.set k (0+d) (List.replicate m (.int .u8 0))) (F.gz aM v9) (by rw[eb];exact ai) (eG hw) (λj aa=>by
     by_cases P3:j<d
     ·rw[eH (.inr (.inl (by omega)))];exact ae j P3
     ·rw[hh hw (by simp;omega) (by omega) (by simp;omega),aEF (by omega)]
      have:=acN (j-d) (by omega)
      rw[show d+(j-d)=j by omega,if_pos a1] at this
      rw[this];rfl)
    refine⟨h3,?_,du⟩;simp only[aE,ba,lD (show(64:Int)≠0 by omega),a0,h6 (show(64:Int)≠0 by omega),aI,IV,ks,LO,wb,iN,eD,nQ,nO,IE];rw[Nat.zero_add] at dc;exact dc
   ·have nQ:decide ((0:Int)<((s.bl i (a4 kk):Nat):Int))=true:=bu (by omega);have eZ:=M.on i (a4 kk) hi bT cm (by omega);have kr:IntKind.i64.wrap ((s.bl i (a4 kk):Int)-1)=((s.bl i (a4 kk)-1:Nat):Int):=cL (by omega)
    have je:gH n s.wd ((s.bl i (a4 kk)-1:Nat):Int)=true:=by
     simp only[gH,Int.toNat_natCast,eZ,Bool.and_true,Bool.and_eq_true,decide_eq_true_eq];omega
    obtain⟨h1,aS,cH,cN,g1,aM⟩:=(qd h T.bO T.kd n s.wd s.b ((s.bl i (a4 kk)-1:Nat):Int) iy.st (by omega) (by omega)).2 je;rw[Int.toNat_natCast] at g1;generalize hv:s.bl i (a4 kk)-1=v at *;have PH:=A.st.blt;generalize nP:(List.range 64).map (λj=>s.b (v*64+j))=bM;have AG:bM.length=64:=by rw[<- nP];simp
    have acK:∀j,j<64->bM.getD j 0=s.b (v*64+j):=λj aa=>by rw[<- nP];simp[List.getD,aa]
    have an6:∀c∈bM,c<256:=λc ae=>by
     rw[<- nP] at ae;obtain⟨j,_,rfl⟩:=List.mem_map.1 ae;exact PH _
    obtain⟨j5,uL,_⟩:=cN;have jm:Bytes h1 (.aZ h.next 0 64 (some 64) 0) bM:=⟨an6,.inr ⟨h.next,0,some 64,0,j5,by rw[AG],uL,λj aa=>by rw[AG] at aa;rw[Nat.zero_add,g1 j aa,acK j aa]⟩⟩;obtain⟨bF,ej,fV,nk⟩:=YT (P:=aw) (t:=24) (lo:=a) (hi:=a+m) (k1:= .i64) (k2:= .i64) Tryd.underlying24 (s:=1) (by kernel_rfl) rfl jm (Nat.le_refl 64) (by omega) (by omega);rw[Nat.add_sub_cancel_left] at fV;have yq:((bM.drop a).take m).length=m:=by simp;omega
    have ts:h1.wr k cap:=by
     obtain⟨e0,ak,aD,a7⟩:=hw;exact⟨e0,by rw[(aM.same k ai (λe=>e)).mt];exact ak,aD,a7⟩
    have jt:∀j,j<d->h1.cell k j=some (.int .u8 ((oo s i (off+j):Nat):Int)):=λj aa=>by rw[(aM.same k ai (λe=>e)).cell];exact ae j aa
    have na:=ZH fV;rw[yq] at na;have nO:=aj8 (h:=h1) (k:=k) (off:=0) (len:=d) (lo:=0) (n:=m) (cp:=cap) (N:=cap) aj3 na (by rw[zv,yq,Nat.mul_one]) (aib _) ts (by omega) yv;rw[Nat.mul_one] at nO;generalize adg:jk ((bM.drop a).take m)=y5 at *;have gv:y5.length=m:=by rw[<- adg,zv,yq]
    have bD:aG h1 (h1.set k (0+d) y5) (· =k):=fa rfl;have ai0:aG h0 h1 (λ_=>False):=F.trans aM
    obtain⟨h3,dc,du⟩:=bc (d+m) (by omega) yv f (by omega) (h1.set k (0+d) y5) (ai0.gz bD v9) (by rw[eb,cH];omega) (eG ts) (λj aa=>by
     by_cases P3:j<d
     ·rw[eH (.inr (.inl (by omega)))];exact jt j P3
     ·rw[hh ts (by omega) (by omega) (by omega), <- adg,Lr _ (by omega)]
      have:=acN (j-d) (by omega)
      rw[show d+(j-d)=j by omega,if_neg a1] at this;rw[this]
      have az:((bM.drop a).take m).getD (j-(0+d)) 0=bM.getD (a+(j-d)) 0:=by
       rw[Nat.zero_add];simp[List.getD,List.getElem?_take,show j-d<m by omega,List.getElem?_drop]
      rw[az,acK _ (by omega)])
    refine⟨h3,?_,du⟩;have mf:=iy.c0;simp only[aE,ba,lD (show(64:Int)≠0 by omega),a0,h6 (show(64:Int)≠0 by omega),aI,IV,ks,LO,wb,iN,eD,nQ,mf,kr,aS,List.getElem?_cons_zero,List.getElem?_cons_succ,an1,ej,nO,IE];rw[Nat.zero_add] at dc;exact dc
  ·have PR:d=cap:=by omega
   subst PR;have ba:decide (((off+d:Nat):Int)<((off+d:Nat):Int))=false:=br (by omega);refine⟨h,?_,F,ai,hw,ae⟩;simp only[aE,ba]
def xx(C:ad):Prop:=∀h T n N now us s i (off m:Int) (sz:Nat),bx h T n N s.wd s.b now us s.nd->c1 n N s.wd s.nd s.bl->i<N->us i=true->s.nd i 5=I (sz:Int)->sz<=17792->
 -9223372036854775808<=off->off<9223372036854775808-> -9223372036854775808<=m->m<9223372036854775808->
 ((off<0\/m<0)->C (.fn 41) [.ptr T.a9 0,I ((i+1:Nat):Int),I off,I m] h=some (.ret (.bm [.val (.slice none 0 0),I 22]),h))/\
 (0<=off->0<=m->(sz:Int)<=off->C (.fn 41) [.ptr T.a9 0,I ((i+1:Nat):Int),I off,I m] h=some (.ret (.bm [.val (.slice none 0 0),I 0]),h))/\
 (0<=off->0<=m->off<sz->∃h',C (.fn 41) [.ptr T.a9 0,I ((i+1:Nat):Int),I off,I m] h=
     some (.ret (.bm [.aZ h.next 0 (min m.toNat (sz-off.toNat)) (some (min m.toNat (sz-off.toNat))) 0,I 0]),h')/\aG h h' (λ_=>False)/\h.next<h'.next/\h'.wr h.next (min m.toNat (sz-off.toNat))/\
     Bytes h' (.aZ h.next 0 (min m.toNat (sz-off.toNat)) (some (min m.toNat (sz-off.toNat))) 0) (qh s i off.toNat (min m.toNat (sz-off.toNat))))
theorem aC1{C:ad}(gu:20000<=lf)(fh:l3 C)(nz:sF C)(qd:Gz C){off m:Int}{sz:Nat}(A:bx h T n N s.wd s.b now us s.nd)(M:c1 n N s.wd s.nd s.bl)(hi:i<N)(hu:us i=true)(dR:s.nd i 5=I (sz:Int))(rZ:sz<=17792)
 (dN: -9223372036854775808<=off)(df:off<9223372036854775808)(hP: -9223372036854775808<=m)(e0:m<9223372036854775808):
 ((off<0\/m<0)->uC C lf (.ptr T.a9 0) (I ((i+1:Nat):Int)) (I off) (I m) h=some (.ret (.bm [.val (.slice none 0 0),I 22]),h))/\
 (0<=off->0<=m->(sz:Int)<=off->uC C lf (.ptr T.a9 0) (I ((i+1:Nat):Int)) (I off) (I m) h=some (.ret (.bm [.val (.slice none 0 0),I 0]),h))/\
 (0<=off->0<=m->off<sz->∃h',uC C lf (.ptr T.a9 0) (I ((i+1:Nat):Int)) (I off) (I m) h=
     some (.ret (.bm [.aZ h.next 0 (min m.toNat (sz-off.toNat)) (some (min m.toNat (sz-off.toNat))) 0,I 0]),h')/\aG h h' (λ_=>False)/\h.next<h'.next/\h'.wr h.next (min m.toNat (sz-off.toNat))/\
     Bytes h' (.aZ h.next 0 (min m.toNat (sz-off.toNat)) (some (min m.toNat (sz-off.toNat))) 0) (qh s i off.toNat (min m.toNat (sz-off.toNat)))):=by
 have jK:=A.gN;have bd:=fh h T n N s.wd s.b now us s.nd ((i+1:Nat):Int) A (by omega) (by omega);rw[AW hi hu,if_pos rfl,show((i+1:Nat):Int).toNat-1=i by omega] at bd;have b4:decide ((0:Int)≠0)=false:=rfl
 have pre:uC C lf (.ptr T.a9 0) (I ((i+1:Nat):Int)) (I off) (I m) h=ze C lf s3 (some (.ptr T.a9 0)) (some (I off)) (some (I m)) (some (.ptr T.aJ (i*308))) h:=by
  unfold uC Ke Kd Kc Kb;simp only[ch,cd,kh,bd,pz,List.getElem?_cons_zero,List.getElem?_cons_succ];unfold Ka J9;simp only[ch,cd,Ct,b4,o6]
 rw[pre];refine⟨λag=>?_,λbX b2 ag=>?_,λbX b2 ag=>?_⟩
 ·unfold ze EN s3;by_cases d1:off<0
  ·simp only[aE,bu d1]
  ·have d2:m<0:=by omega
   simp only[aE,br d1,bu d2]
 ·have d1:decide (off<0)=false:=br (by omega);have d2:decide (m<0)=false:=br (by omega);have mI:=A.ef i 5 hi (by omega);rw[dR] at mI;have az:i*308+1+4=i*308+5:=Nat.add_assoc _ 1 4;unfold ze EN;simp only[aE,d1,d2];unfold J8 J7 s3;simp only[aE,az,mI,bu ag]
 ·obtain⟨o,rfl⟩:∃o:Nat,off=o:=⟨off.toNat,by omega⟩;obtain⟨q,rfl⟩:∃q:Nat,m=q:=⟨m.toNat,by omega⟩;rw[Int.toNat_natCast,Int.toNat_natCast];have d1:decide ((o:Int)<0)=false:=br (by omega);have d2:decide ((q:Int)<0)=false:=br (by omega);have d3:decide (((sz:Nat):Int)<=(o:Int))=false:=br (by omega);have mI:=A.ef i 5 hi (by omega);rw[dR] at mI;have az:i*308+1+4=i*308+5:=Nat.add_assoc _ 1 4;have kr:IntKind.i64.wrap (((sz:Nat):Int)-(o:Int))=((sz-o:Nat):Int):=cL (by omega);generalize v3:min q (sz-o)=cap at *
  have mid:ze C lf s3 (some (.ptr T.a9 0)) (some (I (o:Int))) (some (I (q:Int))) (some (.ptr T.aJ (i*308))) h=
   J6 C lf s3 (some (.ptr T.a9 0)) (some (I (o:Int))) (some (.ptr T.aJ (i*308))) (some (I ((o+cap:Nat):Int))) h:=by
   unfold ze EN;simp only[aE,d1,d2];unfold J8 J7;simp only[aE,az,mI,d3];unfold TF TE;simp only[aE,az,mI];unfold TD TC;by_cases d4:((q:Nat):Int)<((sz-o:Nat):Int)
   ·have cj:IntKind.i64.wrap ((o:Int)+(q:Int))=((o+cap:Nat):Int):=cL (by omega);simp only[aE,kr,bu d4,cj]
   ·have cj:((sz:Nat):Int)=((o+cap:Nat):Int):=by omega
    simp only[aE,kr,br d4];rw[cj]
  rw[mid];have e9:IntKind.i64.wrap (((o+cap:Nat):Int)-(o:Int))=((cap:Nat):Int):=cL (by omega)
  have lL:=zF (P:=aw) (t:=24) (e:=5) (s:=1) (b:=1) (z:= .int .u8 0) (k1:= .i64) (k2:= .i64) (l:=0) (c:=cap) (h:=h)
   Tryd.underlying24 (by kernel_rfl) (by kernel_rfl) (by kernel_rfl) (Nat.zero_le _) (by omega) (by omega) rfl (by omega)
  generalize aq:iR 5 (cap*1) (db (.int .u8 0)).cells=ob at *
  have hw:(h.new ob).wr h.next cap:=by
   have:=lZ (h:=h) (o:=ob) (by rw[<- aq];rfl)
   rw[show ob.n=cap by rw[<- aq];exact Nat.mul_one _] at this;exact this
  obtain⟨h',dc,du,fm,kP,mm⟩:=azV (lf:=lf) (C:=C) nz qd hi (h0:=h) (off:=o) (cap:=cap) A M (by omega) (k:=h.next) (Nat.le_refl _) (λey h=>EL C lf s3 ey h) cap 0 (by omega) (by omega) lf (by omega)
   (h.new ob) (aG.new _ _ _) (by simp) hw (λj aa=>by omega)
  obtain⟨j5,uL,aE7⟩:=id kP;refine⟨h',?_,du,fm,kP,⟨λc ae=>?_,.inr ⟨h.next,0,some cap,0,j5,by rw[Zg],uL,λj aa=>?_⟩⟩⟩
  ·unfold J6 TB;have Qc:nq aw 24 (I 0) (I (cap:Int)) h=some (.aZ h.next 0 0 (some cap) 0,h.new ob):=lL;simp only[aE,e9,Qc];unfold TA;refine Eq.trans dc ?_;unfold EL s3;simp only[aE]
  ·obtain⟨j,_,rfl⟩:=List.mem_map.1 ae;unfold oo;split
   ·omega
   ·exact A.st.blt _
  ·rw[Zg] at aa;rw[Nat.zero_add,mm j aa,alC _ _ _ aa]
end
def lW(b:Nat->Nat)(bl:Nat->Nat->Nat)(i sz:Nat):Nat->Nat:=
 if 0<sz%64/\0<bl i (a4 (sz/64)) then over b ((bl i (a4 (sz/64))-1)*64+sz%64) (List.replicate (64-sz%64) 0) else b
structure FY (i sz:Nat) (s ff:dL):Prop where
 nd:ff.nd=k0 s.nd i (gC s.bl i ((sz+63)/64))
 bl:ff.bl=dF s.bl i (gC s.bl i ((sz+63)/64))
 b:ff.b=lW s.b ff.bl i sz
 on:∀j,bQ ff.wd j=true↔(bQ s.wd j=true/\∀c,12<=c->c<308->gC s.bl i ((sz+63)/64) c->s.bl i c≠j+1)
section
variable{lf:Nat}{h:U}{T:ei}{n N:Nat}{now:Int}{us:Nat->Bool}{s:dL}{i:Nat}
def GK(C:ad):Prop:=∀h T n N now us s i (sz:Int),bx h T n N s.wd s.b now us s.nd->c1 n N s.wd s.nd s.bl->i<N->us i=true->
 -9223372036854775808<=sz->sz<9223372036854775808->
 (sz<0->C (.fn 40) [.ptr T.a9 0,I ((i+1:Nat):Int),I sz] h=some (.ret (I 22),h))/\
 (17792<sz->C (.fn 40) [.ptr T.a9 0,I ((i+1:Nat):Int),I sz] h=some (.ret (I 27),h))/\
 (0<=sz->sz<=17792->∃h' ff,C (.fn 40) [.ptr T.a9 0,I ((i+1:Nat):Int),I sz] h=some (.ret (I 0),h')/\
   bx h' T n N ff.wd ff.b now us (grown ff.nd i sz.toNat now)/\c1 n N ff.wd (grown ff.nd i sz.toNat now) ff.bl/\aG h h' (λj=>j=T.bO\/j=T.kd\/j=T.aJ)/\FY i sz.toNat s ff)
theorem aC3{C:ad}(fh:l3 C)(nz:sF C)(L5:FX C)(xz:Cl C)(MO:GI C){sz:Int}(A:bx h T n N s.wd s.b now us s.nd)(M:c1 n N s.wd s.nd s.bl)(hi:i<N)(hu:us i=true)(dN: -9223372036854775808<=sz)(df:sz<9223372036854775808):
 (sz<0->s5 C lf (.ptr T.a9 0) (I ((i+1:Nat):Int)) (I sz) h=some (.ret (I 22),h))/\
 (17792<sz->s5 C lf (.ptr T.a9 0) (I ((i+1:Nat):Int)) (I sz) h=some (.ret (I 27),h))/\
 (0<=sz->sz<=17792->∃h' ff,s5 C lf (.ptr T.a9 0) (I ((i+1:Nat):Int)) (I sz) h=some (.ret (I 0),h')/\
   bx h' T n N ff.wd ff.b now us (grown ff.nd i sz.toNat now)/\c1 n N ff.wd (grown ff.nd i sz.toNat now) ff.bl/\aG h h' (λj=>j=T.bO\/j=T.kd\/j=T.aJ)/\FY i sz.toNat s ff):=by
 have jK:=A.gN;have bd:=fh h T n N s.wd s.b now us s.nd ((i+1:Nat):Int) A (by omega) (by omega);rw[AW hi hu,if_pos rfl,show((i+1:Nat):Int).toNat-1=i by omega] at bd;have b4:decide ((0:Int)≠0)=false:=rfl
 have pre:s5 C lf (.ptr T.a9 0) (I ((i+1:Nat):Int)) (I sz) h=wK C lf (λx0 x2 x7 h=>BC C lf nK x0 x2 x7 h) nK (some (.ptr T.a9 0)) (some (I sz)) (some (.ptr T.aJ (i*308))) (some (I 0)) h:=by
  unfold s5 J5 J4 J3 J2;simp only[ch,cd,kh,bd,pz,List.getElem?_cons_zero,List.getElem?_cons_succ];rfl
 rw[pre];unfold wK;refine⟨λag=>?_,λag=>?_,λbX b2=>?_⟩
 ·unfold nK;simp only[aE,b4,bu ag]
 ·have d1:decide (sz<0)=false:=br (by omega);unfold nK;simp only[aE,b4,d1,bu ag]
 ·obtain⟨z,rfl⟩:∃z:Nat,sz=z:=⟨sz.toNat,by omega⟩;rw[Int.toNat_natCast];have d1:decide ((z:Int)<0)=false:=br (by omega);have d2:decide ((17792:Int)<(z:Int))=false:=br (by omega);have az:IntKind.i64.wrap ((z:Int)+64)=((z+64:Nat):Int):=cL (by omega);have aA:IntKind.i64.wrap (((z+64:Nat):Int)-1)=((z+63:Nat):Int):=cL (by omega)
  have cj:IntKind.i64.wrap (((z+63:Nat):Int).tdiv 64)=(((z+63)/64:Nat):Int):=by
   rw[Int.tdiv_eq_ediv_of_nonneg (by omega),wrap_i64 (by omega) (by omega)];rfl
  obtain⟨h1,o3,aS,D⟩:=L5 h T n N s.wd s.b now us s.nd s.bl i ((z+63)/64) A M hi (by omega)
  have a0:IntKind.i64.wrap ((z:Int).tdiv 64)=((z/64:Nat):Int):=by
   rw[Int.tdiv_eq_ediv_of_nonneg (by omega),wrap_i64 (by omega) (by omega)];rfl
  have aI:(z:Int).tmod 64=((z%64:Nat):Int):=by
   rw[Int.tmod_eq_emod_of_nonneg (by omega)];rfl
  generalize ea:gC s.bl i ((z+63)/64)=S at *;have aM:aG h h1 (λj=>j=T.bO\/j=T.kd\/j=T.aJ):=D.F.ek λ_ e=>by rcases e with e|e;exact .inl e;exact .inr (.inr e)
  have fin:∀h2 b2,bx h2 T n N o3 b2 now us (k0 s.nd i S)->aG h1 h2 (λj=>j=T.bO\/j=T.kd\/j=T.aJ)->
   ∃h',BB C lf nK (some (.ptr T.a9 0)) (some (I (z:Int))) (some (.ptr T.aJ (i*308))) h2=some (.ret (I 0),h')/\
    bx h' T n N o3 b2 now us (grown (k0 s.nd i S) i z now)/\aG h h' (λj=>j=T.bO\/j=T.kd\/j=T.aJ):=λh2 b2 dk bD=>by
   have q9:=wV dk (i:=i) (c:=5) (y:=I (z:Int)) hi (by omega) rfl rfl;have fg:=dk.setNode (i:=i) (c:=5) (y:=I (z:Int)) hi (by omega) (by omega);have dd:aG h2 (h2.set T.aJ (i*308+5) [I (z:Int)]) (· =T.aJ):=fa rfl;generalize ij:h2.set T.aJ (i*308+5) [I (z:Int)]=h3 at *;obtain⟨aW,ct,kC,j6,fL⟩:=MO h3 T n N _ _ now us _ i fg hi;refine⟨aW,?_,kC,(aM.trans bD).trans ((dd.trans fL).ek λ_ e=> .inr (.inr e))⟩;have az:i*308+1+4=i*308+5:=Nat.add_assoc _ 1 4;unfold BB nK;simp only[aE,az,q9,ct]
  have mid:∀dc:ab,EK C lf (λx0 x2 x7 h=>BB C lf nK x0 x2 x7 h) (some (.ptr T.a9 0)) (some (I (z:Int))) (some (.ptr T.aJ (i*308))) h1=dc->
   wK C lf (λx0 x2 x7 h=>BC C lf nK x0 x2 x7 h) nK (some (.ptr T.a9 0)) (some (I (z:Int))) (some (.ptr T.aJ (i*308))) (some (I 0)) h=dc:=λdc qA=>by
   unfold wK;simp only[aE,b4,d1,d2];unfold BC Tz;simp only[aE,az,aA,lD (show(64:Int)≠0 by omega),cj,aS];exact qA
  have ID:(∃h' b2,EK C lf (λx0 x2 x7 h=>BB C lf nK x0 x2 x7 h) (some (.ptr T.a9 0)) (some (I (z:Int))) (some (.ptr T.aJ (i*308))) h1=some (.ret (I 0),h')/\
   b2=lW s.b (dF s.bl i S) i z/\bx h' T n N o3 b2 now us (grown (k0 s.nd i S) i z now)/\aG h h' (λj=>j=T.bO\/j=T.kd\/j=T.aJ)):=by
   unfold EK;by_cases b1:0<z%64
   ·have nQ:decide ((0:Int)<((z%64:Nat):Int))=true:=bu (by omega);have qy:z/64<278:=by omega
    obtain⟨bT,cm⟩:=zb qy;have iN:C (.fn 76) [.ptr T.aJ (i*308),I ((z/64:Nat):Int)] h1=some (.ret (.ptr T.aJ (i*308+a4 (z/64))),h1):=nz h1 T.aJ (i*308) (z/64) qy;have eD:=D.A.ef i (a4 (z/64)) hi cm;rw[D.M.cell i _ hi bT cm] at eD;have hle:=D.M.le i (a4 (z/64));have eZ:=D.M.on i (a4 (z/64)) hi bT cm;have gb:=A.st.cA;by_cases aFl:dF s.bl i S i (a4 (z/64))=0
    ·have DT:lW s.b (dF s.bl i S) i z=s.b:=by
      unfold lW;rw[if_neg (by omega)]
     generalize hv:dF s.bl i S i (a4 (z/64))=v at *;have ij:decide ((0:Int)<((v:Nat):Int))=false:=br (by omega);obtain⟨h',dc,du,fm⟩:=fin h1 s.b D.A (aG.refl _ _);refine⟨h',s.b,?_,DT.symm,du,fm⟩;simp only[aE,h6 (show(64:Int)≠0 by omega),aI,nQ,lD (show(64:Int)≠0 by omega),a0,iN,eD,ij];exact dc
    ·have DT:lW s.b (dF s.bl i S) i z=over s.b ((dF s.bl i S i (a4 (z/64))-1)*64+z%64) (List.replicate (64-z%64) 0):=by
      unfold lW;rw[if_pos (by omega)]
     have eZ:=eZ (by omega);generalize hv:dF s.bl i S i (a4 (z/64))=v at *;have ij:decide ((0:Int)<((v:Nat):Int))=true:=bu (by omega);have kr:IntKind.i64.wrap ((v:Int)-1)=((v-1:Nat):Int):=cL (by omega);have qB:IntKind.i64.wrap (64-((z%64:Nat):Int))=((64-z%64:Nat):Int):=cL (by omega)
     have lL:=zF (P:=aw) (t:=24) (e:=5) (s:=1) (b:=1) (z:= .int .u8 0) (k1:= .i64) (k2:= .i64) (l:=64-z%64) (c:=64-z%64) (h:=h1)
      Tryd.underlying24 (by kernel_rfl) (by kernel_rfl) (by kernel_rfl) (Nat.le_refl _) (by omega) (by omega) rfl (by omega)
     generalize aq:iR 5 ((64-z%64)*1) (db (.int .u8 0)).cells=ob at *
     have je:gH n o3 ((v-1:Nat):Int)=true:=by
      simp only[gH,Int.toNat_natCast,eZ,Bool.and_true,Bool.and_eq_true,decide_eq_true_eq];omega
     have tl:¬uq n o3 ((v-1:Nat):Int) ((z%64:Nat):Int) (List.replicate (64-z%64) 0):=by
      unfold uq;rw[je,List.length_replicate];simp only[Bool.true_eq_false,false_or];omega
     have jm:Bytes (h1.new ob) (.aZ h1.next 0 (64-z%64) (some (64-z%64)) 0) (List.replicate (64-z%64) 0):=by
      refine⟨λc ae=>by rw[List.eq_of_mem_replicate ae];omega,.inr ⟨h1.next,0,some (64-z%64),0,ob.mt,by rw[List.length_replicate],by rw[yX,if_pos rfl],λj aa=>?_⟩⟩;rw[List.length_replicate] at aa;rw[Nat.zero_add,l6, <- aq];have iE:(List.replicate (64-z%64) 0).getD j 0=0:=by simp[List.getD,aa]
      have aoQ:(db (.int .u8 0)).cells=[.int .u8 0]:=rfl;rw[iE,y9 _ _ (by omega),aoQ];simp[Nat.mod_one]
     have dk:=D.A.hk (aG.new h1 ob (λ_=>False));obtain⟨h2,a2,ru,cA,bD⟩:=(xz (h1.new ob) T.bO T.kd n o3 s.b ((v-1:Nat):Int) ((z%64:Nat):Int) _ (List.replicate (64-z%64) 0) dk.st jm (by rw[List.length_replicate];omega) (by omega) (by omega) (by omega) (by omega)).2 tl;rw[Int.toNat_natCast,Int.toNat_natCast] at ru;have fg:=dk.store ru bD.next (bD.same _ dk.lt (λe=>A.d2 e)) (bD.same _ dk.lb (λe=>A.d5 e))
     have j0:∀r,eX (fC [(3,cq (some (J.ptr T.a9 0)))] h1 (h1.new ob) [3]) r=r:=λr=>Nk rfl D.A.lt (FH D.A.wt) (n4 h1 ob (Nat.ne_of_lt D.A.lt))
     obtain⟨h',dc,du,fm⟩:=fin h2 _ fg ((aG.new h1 ob _).trans (bD.ek λ_ e=> .inr (.inl e)));refine⟨h',_,?_,DT.symm,du,fm⟩;have mf:=D.A.c0;simp only[aE,h6 (show(64:Int)≠0 by omega),aI,nQ,lD (show(64:Int)≠0 by omega),a0,iN,eD,ij,kr,qB,mf,lL,j0,a2];exact dc
   ·have nQ:decide ((0:Int)<((z%64:Nat):Int))=false:=br (by omega)
    have DT:lW s.b (dF s.bl i S) i z=s.b:=by
     unfold lW;rw[if_neg (by omega)]
    obtain⟨h',dc,du,fm⟩:=fin h1 s.b D.A (aG.refl _ _);refine⟨h',s.b,?_,DT.symm,du,fm⟩;simp only[aE,h6 (show(64:Int)≠0 by omega),aI,nQ];exact dc
  obtain⟨h',b2,dc,rfl,fm,kP⟩:=ID;exact⟨h',⟨o3,lW s.b (dF s.bl i S) i z,k0 s.nd i S,dF s.bl i S⟩,mid _ dc,fm,D.M.grown _ _ _,kP,⟨by rw[ea],by rw[ea],rfl,by rw[ea];exact D.O⟩⟩
end
def zU(N:Nat)(s:dL):Prop:=∀j,bQ s.wd j=true->∃i c,i<N/\12<=c/\c<308/\s.bl i c=j+1
section
variable{n N i z:Nat}{s ff:dL}
theorem amS{k:Nat}(hi:i<N)(W:pk n N s)(ai:k<278)(ag:(bN n i k s).2=true):
 (∀i' p,i'<N->p<17792->oo (bN n i k s).1 i' p=oo s i' p)/\(zU N s->zU N (bN n i k s).1):=by
 unfold bN at ag⊢;by_cases h1:0<s.bl i (a4 k)
 ·rw[if_pos h1];exact⟨λ_ _ _ _=>rfl,λO=>O⟩
 ·rw[if_neg h1] at ag⊢;by_cases h2:(dp n i (dw k) s []).2.2=true
  ·rw[if_pos h2];have t:oi n i s (dp n i (dw k) s []).2.1 (dp n i (dw k) s []).1:=xT (dw k) s [] .nil (Bn ai);have P:=t.props hi W.M W.w;generalize(dp n i (dw k) s []).1=ff at *;generalize(dp n i (dw k) s []).2.1=bk at *;refine⟨λi' p cF aC=>?_,λO j aa=>?_⟩
   ·unfold oo;obtain⟨bT,cm⟩:=zb (k:=p/64) (by omega);by_cases aN:i'=i/\a4 (p/64)∈bk
    ·obtain⟨rfl,aN⟩:=aN;obtain⟨cN,_,_,ia,_⟩:=P.o2 _ aN;rw[if_neg (by omega),if_pos cN];exact P.z _ aN _ (by omega)
    ·have e:=P.out i' (a4 (p/64)) (by
      by_cases e:i'=i
      ·exact .inr λaA=>aN ⟨e,aA⟩
      ·exact .inl e)
     rw[e];by_cases a1:s.bl i' (a4 (p/64))=0
     ·rw[if_pos a1,if_pos a1]
     ·rw[if_neg a1,if_neg a1];refine P.Cv _ ?_;rw[show((s.bl i' (a4 (p/64))-1)*64+p%64)/64=s.bl i' (a4 (p/64))-1 by omega];exact W.M.on i' _ cF bT cm (by omega)
   ·rcases(P.on j).1 aa with h3|⟨c,h3,aW⟩
    ·obtain⟨i',c,c0,aS,a2,e⟩:=O j h3;refine⟨i',c,c0,aS,a2,?_⟩
     rw[P.out i' c (by
      by_cases aA:i'=i
      ·refine .inr λcj=>?_
       subst aA
       have:=(P.o2 c cj).1
       omega
      ·exact .inl aA)]
     exact e
    ·obtain⟨_,cy,fp,_⟩:=P.o2 c h3;exact⟨i,c,hi,cy,fp,aW⟩
  ·rw[if_neg h2] at ag;cases ag
theorem alS(C:FY i z s ff)(O:zU N s):zU N ff:=λj aa=>by
 obtain⟨h1,h2⟩:=(C.on j).1 aa;obtain⟨i',c,c0,aS,a2,e⟩:=O j h1;refine⟨i',c,c0,aS,a2,?_⟩;rw[C.bl,iY λaA=>?_]
 ·exact e
 ·obtain⟨rfl,cj⟩:=aA;exact h2 c aS a2 cj e
end
def hY(vs:List Nat):List Nat:=(vs.filter λv=>decide (0<v)).map (· -1)
theorem Rt(a b:List Nat):hY (a++b)=hY a++hY b:=by simp[hY]
theorem Ru(vs:List Nat):(hY vs).length<=vs.length:=by
 unfold hY;rw[List.length_map];exact List.length_filter_le _ _
def e3(f:Nat->Nat)(a n:Nat):List Nat:=(List.range n).map λj=>f (a+j)
theorem wQ(f:Nat->Nat)(a n:Nat):(e3 f a n).length=n:=by simp[e3]
theorem aBg(f:Nat->Nat)(a:Nat){n j:Nat}(aa:j<n):(e3 f a n).getD j 0=f (a+j):=by simp[e3,List.getD,aa]
theorem WA(f:Nat->Nat)(a n m:Nat):e3 f a (n+m)=e3 f a n++e3 f (a+n) m:=by
 unfold e3;rw[List.range_add,List.map_append,List.map_map];congr 1;apply List.map_congr_left;intro j _;show f (a+(n+j))=f (a+n+j);rw[Nat.add_assoc]
theorem WB(f:Nat->Nat)(a:Nat):e3 f a 1=[f a]:=rfl
def lj(bl:Nat->Nat->Nat)(i:Nat):List Nat:=hY (e3 (bl i) 12 296)
def rk(h:U)(cJ j:Nat):Prop:=j<h.next/\j≠cJ/\∀x,h.cell cJ 0=some x->rowOf x≠some j
structure oh (h h':U) (cJ:Nat):Prop where
 n:h.next<=h'.next
 a:∀j,rk h cJ j->rk h' cJ j/\cQ h h' j
theorem oh.refl(h:U)(cJ:Nat):oh h h cJ:=⟨Nat.le_refl _,λ_ a=>⟨a,rfl⟩⟩
theorem oh.trans{h h' fq:U}{cJ:Nat}(a:oh h h' cJ)(b:oh h' fq cJ):oh h fq cJ:=
 ⟨Nat.le_trans a.n b.n,λj aa=>⟨(b.a j (a.a j aa).1).1,(b.a j (a.a j aa).1).2.trans (a.a j aa).2⟩⟩
structure kE (h0 h:U) (cJ:Nat) (l:List Nat):Prop where
 c:∃x,h.cell cJ 0=some x/\eN h0 h x l/\rowOf x≠some cJ
 w:h.wr cJ 1
 n:h0.next<=cJ
 lt:cJ<h.next
 F:aG h0 h (λ_=>False)
section
variable{lf:Nat}{h h0:U}{cJ:Nat}{l:List Nat}
theorem kE.new(O:kE h0 h cJ l)(o:bH):kE h0 (h.new o) cJ l/\oh h (h.new o) cJ/\rk (h.new o) cJ h.next:=by
 obtain⟨x,aS,a2,cr⟩:=O.c;have al:cQ h (h.new o) cJ:=n4 h o (Nat.ne_of_lt O.lt);have ae:(h.new o).cell cJ 0=some x:=by rw[al.cell];exact aS
 have adp:∀j,rowOf x=some j->j<h.next:=λj aa=>a2.aZ.j8 aa
 refine⟨⟨⟨x,ae,⟨a2.aZ.frame (by simp) λk ai=>n4 h o (Nat.ne_of_lt (adp k ai)),a2.new⟩,cr⟩,fI O.w al,O.n,by simp;have:=O.lt;omega,O.F.trans (aG.new _ _ _)⟩,⟨by simp,λj aa=>⟨⟨by simp;have:=aa.1;omega,aa.2.1,λy bf=>aa.2.2 y (by rw[<- al.cell];exact bf)⟩,n4 h o (Nat.ne_of_lt aa.1)⟩⟩,
  ⟨by simp,λe=>by have:=O.lt;omega,λy bf e=>?_⟩⟩
 rw[ae] at bf;cases bf
 have:=adp _ e
 omega
theorem kE.set(O:kE h0 h cJ l){k off:Nat}{ys:List J}(ai:rk h cJ k)(aO:h0.next<=k):kE h0 (h.set k off ys) cJ l/\(∀j,rk h cJ j->rk (h.set k off ys) cJ j):=by
 obtain⟨x,aS,a2,cr⟩:=O.c;have al:cQ h (h.set k off ys) cJ:=iu _ _ _ (Ne.symm ai.2.1);have ae:(h.set k off ys).cell cJ 0=some x:=by rw[al.cell];exact aS
 refine⟨⟨⟨x,ae,⟨a2.aZ.frame (by rw[eb];exact Nat.le_refl _) λj aa=>iu _ _ _ λe=>ai.2.2 x aS (by rw[aa,e]),a2.new⟩,cr⟩,fI O.w al,O.n,by rw[eb];exact O.lt,O.F.gz (fa rfl) aO⟩,λj aa=>⟨by rw[eb];exact aa.1,aa.2.1,λy bf=>aa.2.2 y (by rw[<- al.cell];exact bf)⟩⟩
theorem MT{C:ad}{bR ob:Nat}{cap:Option Nat}{lo:Nat}{vs:List Nat}(hv:∀v∈vs,v<=4096)(av:cu):∀(d t:Nat),t+d=vs.length->∀f,d<f->∀h l,kE h0 h cJ l->rk h cJ bR->
 (∀j,j<vs.length->h.cell bR (ob+j)=some (I ((vs.getD j 0:Nat):Int)))->vs.length<=300->l.length+d<=100000->
 ∃h',bq (Bh C lf av) f (some (.ptr cJ 0),some (.aZ bR ob vs.length cap lo),some (I (vs.length:Int)),some (I (t:Int))) h=av h'/\kE h0 h' cJ (l++hY (vs.drop t))/\oh h h' cJ
 |0,t,aH,f,an,h,l,O,W,ae,aL,kJ=>by
  obtain⟨f,rfl⟩:=dK f (by omega);have e:t=vs.length:=by omega
  subst e;refine⟨h,?_,by simpa[hY] using O,oh.refl _ _⟩;rw[dr];unfold Bh E6;have ba:decide ((vs.length:Int)<(vs.length:Int))=false:=by simp
  simp only[aE,ba]
 |d+1,t,aH,f,an,h,l,O,W,ae,aL,kJ=>by
  obtain⟨f,rfl⟩:=dK f (by omega);have aN:t<vs.length:=by omega
  have ba:decide ((t:Int)<(vs.length:Int))=true:=bu (by omega);have dC:IntKind.i64.wrap ((t:Int)+1)=((t+1:Nat):Int):=cL (by omega);have b7:=gV (s:=1) (k:=bR) (off:=ob) (len:=vs.length) (lo:=lo) (cap:=cap) (kd:= .i64) (i:=(t:Int)) (by omega) (by omega);rw[Int.toNat_natCast,Nat.mul_one] at b7;have Dv:=ae t aN
  have aFm:vs.getD t 0<=4096:=by
   rw[List.getD,List.getElem?_eq_getElem aN];exact hv _ (List.getElem_mem aN)
  have aok:vs.drop t=vs.getD t 0::vs.drop (t+1):=by
   rw[List.drop_eq_getElem_cons aN,List.getD,List.getElem?_eq_getElem aN];rfl
  rw[dr];show ∃h',E6 C lf (λx1 eC aF x7 h=>bq (Bh C lf av) f (x1,eC,aF,x7) h) av (some (.ptr cJ 0)) (some (.aZ bR ob vs.length cap lo)) (some (I (vs.length:Int))) (some (I (t:Int))) h=av h'/\_;unfold E6;rw[aok];generalize eI:vs.getD t 0=v at *;by_cases a1:v=0
  ·have nQ:decide ((0:Int)<(v:Int))=false:=br (by omega);obtain⟨h',dc,du,fm⟩:=MT (C:=C) (lo:=lo) (cap:=cap) hv av d (t+1) (by omega) f (by omega) h l O W ae aL (by omega);refine⟨h',?_,?_,fm⟩
   ·simp only[aE,ba,b7,Dv,nQ,dC];exact dc
   ·have e:hY (v::vs.drop (t+1))=hY (vs.drop (t+1)):=by simp[hY,a1]
    rw[e];exact du
  ·have nQ:decide ((0:Int)<(v:Int))=true:=bu (by omega);have kr:IntKind.i64.wrap ((v:Int)-1)=((v-1:Nat):Int):=cL (by omega);obtain⟨x,aS,a2,cr⟩:=O.c;obtain⟨bF,h1,ak,aD,a7,cw,dB,dU,gg,ie⟩:=uo (y:=I ((v-1:Nat):Int)) sP rfl rfl rfl a2.aZ (by omega) (by omega)
   have gw:bF.cells=[bF]/\dZ [bF]=true:=by
    rcases a7.2 with⟨rfl,_⟩|⟨k,rfl,_⟩<;>exact⟨rfl,rfl⟩
   have Qk:cQ h h1 cJ:=dU cJ O.lt cr;have dv:=hR (n:=1) (off:=0) (y:=bF) (fI O.w Qk) (by rw[gw.1];rfl) (by omega) (by rw[gw.1];exact gw.2);rw[gw.1] at dv;generalize ij:h1.set cJ 0 [bF]=h2 at *;have cA:h2.next=h1.next:=by rw[<- ij,eb]
   have mH:h2.cell cJ 0=some bF:=by
    rw[<- ij,hh (fI O.w Qk) (by simp) (Nat.le_refl _) (by simp)];rfl
   have qB:∀j,j≠cJ->cQ h1 h2 j:=λj aa=>by rw[<- ij];exact iu _ _ _ aa
   have aI:∀j,rowOf bF=some j->j≠cJ:=λj aa e=>by
    rcases gg j aa with dW|dW
    ·exact cr (by rw[dW,e])
    ·have:=O.lt;omega
   have cj:ints (l++[v-1])=ints l++[I ((v-1:Nat):Int)]:=by simp[ints]
   have qc:kE h0 h2 cJ (l++[v-1]):=by
    refine⟨⟨bF,mH,⟨?_,λj aa=>?_⟩,λe=>aI cJ e rfl⟩,?_,O.n,by rw[cA];exact Nat.lt_of_lt_of_le O.lt cw,?_⟩
    ·rw[cj,List.length_append];exact a7.frame (by rw[cA];exact Nat.le_refl _) λj aa=>qB j (aI j aa)
    ·rcases gg j aa with dW|dW
     ·exact a2.new j dW
     ·have:=O.F.next;omega
    ·rw[<- ij];exact eG (fI O.w Qk)
    ·refine⟨by rw[<- ij,K4,dB];exact O.F.aK,by rw[cA];exact Nat.le_trans O.F.next cw,λj aa _=>?_,λan=>?_⟩
     ·have aO:=O.n;have ac1:=Nat.lt_of_lt_of_le aa O.F.next
      exact(qB j (by omega)).trans ((dU j ac1 (λe=>absurd (a2.new j e) (by omega))).trans (O.F.same j aa (λe=>e)))
     ·rw[<- ij];exact Ap (ie (O.F.dA an)) _ _ _
   have MK:oh h h2 cJ:=⟨by rw[cA];exact cw,λj aa=>⟨⟨by rw[cA];exact Nat.lt_of_lt_of_le aa.1 cw,aa.2.1,λy bf e=>by
    rw[mH] at bf;cases bf;rcases gg j e with dW|dW
    ·exact aa.2.2 x aS dW
    ·have:=aa.1;omega⟩,(qB j aa.2.1).trans (dU j aa.1 (aa.2.2 x aS))⟩⟩
   obtain⟨h',dc,du,fm⟩:=MT (C:=C) (lo:=lo) (cap:=cap) hv av d (t+1) (by omega) f (by omega) h2 (l++[v-1]) qc (MK.a bR W).1 (λj aa=>by rw[(MK.a bR W).2.cell];exact ae j aa) aL (by simp;omega);refine⟨h',?_,?_,MK.trans fm⟩
   ·simp only[aE,ba,b7,Dv,nQ,aS,kr,ak,aD,dv,dC];exact dc
   ·have e:hY (v::vs.drop (t+1))=(v-1)::hY (vs.drop (t+1)):=by simp[hY,show 0<v by omega]
    rw[e];simpa using du
def zH(C:ad):Prop:=∀h0 h cJ l bR ob cap lo vs,kE h0 h cJ l->rk h cJ bR->(∀j,j<vs.length->h.cell bR (ob+j)=some (I ((vs.getD j 0:Nat):Int)))->(∀v∈vs,v<=4096)->vs.length<=300->l.length<=90000->
 ∃h',C (.fn 93) [.aZ bR ob vs.length cap lo,.ptr cJ 0] h=some (.ret (.bm []),h')/\kE h0 h' cJ (l++hY vs)/\oh h h' cJ
theorem ajI{C:ad}(gu:1000<=lf){bR ob:Nat}{cap:Option Nat}{lo:Nat}{vs:List Nat}(O:kE h0 h cJ l)(W:rk h cJ bR)(ae:∀j,j<vs.length->h.cell bR (ob+j)=some (I ((vs.getD j 0:Nat):Int)))(hv:∀v∈vs,v<=4096)(aL:vs.length<=300)(kJ:l.length<=90000):
 ∃h',Im C lf (.aZ bR ob vs.length cap lo) (.ptr cJ 0) h=some (.ret (.bm []),h')/\kE h0 h' cJ (l++hY vs)/\oh h h' cJ:=by
 obtain⟨h',dc,du,fm⟩:=MT (lf:=lf) (C:=C) (cap:=cap) (lo:=lo) hv OO vs.length 0 (by omega) lf (by omega) h l O W ae aL (by omega);refine⟨h',?_,du,fm⟩
 have hlen:eE aw 33 (.aZ bR ob vs.length cap lo)=some (I (vs.length:Int)):=by
  simp[eE,Tryd.underlying33]
 unfold Im VY VX;simp only[ch,cd,hlen];exact dc
theorem WL{P:Program}{t e s n k off:Nat}(hu:P.underlying t=some (.array n e))(al:dP P e=some s)(aO:1<=n):fX P t (.ptr k off) none none=some (.aZ k off n (some n) 0):=by
 have h1:sliceB n n none none=some (0,n):=by
  simp only[sliceB]
  have:(Nat.ble n n&&Nat.ble 0 n)=true:=by rw[Nat.ble_eq_true_of_le (Nat.le_refl n),Nat.ble_eq_true_of_le (Nat.zero_le n)];rfl
  simp only[this,cond_true]
 unfold fX;simp only[hu,al,h1,p3,force_eq,Nat.sub_zero,Nat.zero_mul,Nat.add_zero]
 have bX:Nat.beq n 0=false:=by
  cases ag:Nat.beq n 0 with
  |false=>rfl
  |true=>exact absurd (Nat.eq_of_beq_eq_true ag) (by omega)
 simp only[bX,cond_false]
theorem add_one{C:ad}(o7:zH C)(O:kE h0 h cJ l){v:Nat}(hv:v<=4096)(kJ:l.length<=90000):
 ∃x h1 h',ib aw 33 1 [0] [I (v:Int)] h=some (x,h1)/\C (.fn 93) [x,.ptr cJ 0] h1=some (.ret (.bm []),h')/\kE h0 h' cJ (l++hY [v])/\oh h h' cJ:=by
 obtain⟨z,a1,hj⟩:=sP.a1;have ag:=LP (h:=h) (y:=I (v:Int)) sP.hu sP.al a1 hj rfl rfl;obtain⟨gO,s1,cN⟩:=O.new (dJ 3 [I (v:Int)])
 obtain⟨h',aS,qc,s2⟩:=o7 h0 _ cJ l h.next 0 (some 1) 0 [v] gO cN (λj aa=>by
  have:j=0:=by simpa using aa
  subst this
  rw[Nat.zero_add,l6,oR];rfl) (λu hu=>by simp at hu;omega) (by simp) kJ
 exact⟨_,_,h',ag,aS,qc,s1.trans s2⟩
theorem aBh{f:Nat->Nat}{b:Nat}(an:∀c,f c<=b)(a n:Nat):∀v∈e3 f a n,v<=b:=λv hv=>by
 obtain⟨j,_,rfl⟩:=List.mem_map.1 hv;exact an _
theorem MV{C:ad}(o7:zH C)(O:kE h0 h cJ l){k off:Nat}{f:Nat->Nat}{a n:Nat}(W:rk h cJ k)(ae:∀j,j<n->h.cell k (off+j)=some (I ((f (a+j):Nat):Int)))(an:∀c,f c<=4096)(aO:n<=300)(kJ:l.length<=90000):
 ∃h',C (.fn 93) [.aZ k off n (some n) 0,.ptr cJ 0] h=some (.ret (.bm []),h')/\kE h0 h' cJ (l++hY (e3 f a n))/\oh h h' cJ:=by
 have:=o7 h0 h cJ l k off (some n) 0 (e3 f a n) O W (λj aa=>by rw[wQ] at aa;rw[aBg _ _ aa];exact ae j aa) (aBh an a n) (by rw[wQ];exact aO) kJ
 rwa[wQ] at this
end
theorem apI{f:Nat->Nat}{q:Nat}(a0:q<16):((ints (e3 f 36 272)).drop (q*17)).take 17=ints (e3 f (36+17*q) 17):=by
 unfold ints e3;rw[List.map_map,List.map_map, <- List.map_drop, <- List.map_take];apply List.ext_getElem
 ·simp;omega
 ·intro j h1 h2;simp at h1 h2;simp;congr 2;omega
theorem ajG(q j:Nat):36+17*q+(1+j)=37+17*q+j:=by omega
theorem arG(f:Nat->Nat)(q:Nat):hY (e3 f 12 (24+17*q))++hY [f (36+17*q)]++hY (e3 f (37+17*q) 16)=hY (e3 f 12 (24+17*(q+1))):=by
 have az:24+17*(q+1)=24+17*q+1+16:=by omega
 have aA:12+(24+17*q)=36+17*q:=by omega
 have cj:12+(24+17*q+1)=37+17*q:=by omega
 rw[az,WA f 12 (24+17*q+1) 16,WA f 12 (24+17*q) 1,aA,cj,Rt,Rt,WB]
theorem Jv{f:Nat->Nat}{m a k:Nat}(e:a=12+m):hY (e3 f 12 m)++hY (e3 f a k)=hY (e3 f 12 (m+k)):=by rw[e, <- Rt,WA]
theorem FU{o:Option Value}{n:Nat}(h:o.map (λz=>(db z).cells.length)=some n):∃z,o=some z/\(db z).cells.length=n:=by
 cases o with
 |none=>cases h
 |some z=>exact⟨z,rfl,by simpa using h⟩
section
variable{lf:Nat}{h:U}{T:ei}{n N:Nat}{wd b:Nat->Nat}{now:Int}{us:Nat->Bool}{nd:Nat->Nat->J}{bl:Nat->Nat->Nat}{i:Nat}
theorem WC(A:bx h T n N wd b now us nd)(M:c1 n N wd nd bl)(hi:i<N){a m:Nat}(dG:12<=a)(hm:a+m<=308):∀j,j<m->h.cell T.aJ (i*308+a+j)=some (I ((bl i (a+j):Nat):Int)):=λj aa=>by
 rw[Nat.add_assoc,A.ef i (a+j) hi (by omega),M.cell i (a+j) hi (by omega) (by omega)]
theorem bx.Eo{h0:U}{cJ:Nat}{l:List Nat}(A:bx h0 T n N wd b now us nd)(O:kE h0 h cJ l):bx h T n N wd b now us nd/\rk h cJ T.aJ:=by
 refine⟨A.hk O.F,Nat.lt_of_lt_of_le A.lb O.F.next,λe=>by have:=O.n;have:=A.lb;omega,λx ar e=>?_⟩;obtain⟨bF,aS,a2,_⟩:=O.c;rw[aS] at ar;cases ar
 have:=a2.new _ e
 have:=A.lb
 omega
theorem aeZ{C:ad}(o7:zH C){h0:U}{cJ:Nat}(A:bx h0 T n N wd b now us nd)(M:c1 n N wd nd bl)(hi:i<N)(av:ay):∀(d q:Nat),q+d=16->∀f,d<f->∀h,kE h0 h cJ (hY (e3 (bl i) 12 (24+17*q)))->
 ∃h',bq (Bd C lf av) f (some (.ptr cJ 0),some (.fn (.func 93) [] [.ptr cJ 0]),some (.agg (ints (e3 (bl i) 36 272))),some (I (q:Int))) h=av (some (.ptr cJ 0)) h'/\kE h0 h' cJ (lj bl i)
 |0,q,aH,f,an,h,O=>by
  obtain⟨f,rfl⟩:=dK f (by omega);have e:q=16:=by omega
  subst e;refine⟨h,?_,O⟩;rw[dr];unfold Bd EX;have ba:decide (((16:Nat):Int)<(16:Int))=false:=by simp
  simp only[aE,ba]
 |d+1,q,aH,f,an,h,O=>by
  obtain⟨f,rfl⟩:=dK f (by omega);have ba:decide ((q:Int)<(16:Int))=true:=bu (by omega);have dC:IntKind.i64.wrap ((q:Int)+1)=((q+1:Nat):Int):=cL (by omega);have gb:=A.st.cA;have hle:∀c,bl i c<=4096:=λc=>Nat.le_trans (M.le i c) gb
  have b7:zp aw 123 (.agg (ints (e3 (bl i) 36 272))) (I (q:Int))=some (.agg (ints (e3 (bl i) (36+17*q) 17))):=by
   have hu:aw.underlying 123=some (.array 16 122):=Tryd.underlying123;have al:dP aw 122=some 17:=by kernel_rfl
   have b1:oZ aw 122=some true:=by kernel_rfl
   have ag:Nat.blt q 16=true:=by rw[Nat.blt_eq];omega
   have ae:Nat.ble (q*17+17) (ints (e3 (bl i) 36 272)).length=true:=by rw[ints,List.length_map,wQ];exact Nat.ble_eq_true_of_le (by omega)
   have aoS:hX (I (q:Int))=some q:=rfl;unfold zp;simp only[aoS,hu,al,ag,cond_true,pT,b1,ae];rw[apI (by omega)]
  obtain⟨z,a1,hj⟩:∃z,hb aw 122=some z/\(db z).cells.length=17:=FU (by kernel_rfl);have sO:=rf (P:=aw) (e:=122) (h:=h) a1;generalize hM:dJ 122 (db z).cells=ob at *
  have ts:(h.new ob).wr h.next 17:=by
   have:=lZ (h:=h) (o:=ob) (by rw[<- hM];rfl)
   rw[show ob.n=17 by rw[<- hM];exact hj] at this;exact this
  obtain⟨gO,s1,cN⟩:=O.new ob
  have I1:(J.agg (ints (e3 (bl i) (36+17*q) 17))).cells.length=17:=by
   show(ints (e3 (bl i) (36+17*q) 17)).length=17;rw[ints,List.length_map,wQ]
  have gw:dZ (J.agg (ints (e3 (bl i) (36+17*q) 17))).cells=true:=Yf .i64 (λ(i:Nat)=>(i:Int)) _;have dv:=hR (n:=17) (off:=0) (y:= .agg (ints (e3 (bl i) (36+17*q) 17))) ts I1 (by omega) gw;have ga:(J.agg (ints (e3 (bl i) (36+17*q) 17))).cells=ints (e3 (bl i) (36+17*q) 17):=rfl;rw[ga] at dv I1;have lM:h0.next<=h.next:=O.F.next
  obtain⟨qc,cy⟩:=gO.set (off:=0) (ys:=ints (e3 (bl i) (36+17*q) 17)) cN lM
  have eD:∀j,j<17->((h.new ob).set h.next 0 (ints (e3 (bl i) (36+17*q) 17))).cell h.next j=some (I ((bl i (36+17*q+j):Nat):Int)):=λj aa=>by
   rw[hh ts (by omega) (Nat.zero_le _) (by omega),Nat.sub_zero];simp[ints,e3,aa]
  generalize bd:(h.new ob).set h.next 0 (ints (e3 (bl i) (36+17*q) 17))=g at *
  have c0:=eD 0 (by omega);rw[Nat.add_zero] at c0;have Lx:=cy h.next cN
  have hO:=Ru (e3 (bl i) 12 (24+17*q));rw[wQ] at hO;obtain⟨x3,g3,g4,ak,aD,Cg,fo⟩:=add_one o7 qc (v:=bl i (36+17*q)) (hle _) (by omega);have ks:=WL (P:=aw) (t:=120) (n:=16) (s:=1) (k:=h.next) (off:=1) Tryd.underlying120 (by kernel_rfl) (by omega);have cb:=Ru [bl i (36+17*q)];simp only[List.length_cons,List.length_nil] at cb
  obtain⟨g5,bX,zR,oT⟩:=MV o7 Cg (k:=h.next) (off:=1) (f:=bl i) (a:=37+17*q) (n:=16) (fo.a _ Lx).1 (λj aa=>by
   rw[(fo.a _ Lx).2.cell,eD (1+j) (by omega),ajG]) hle (by omega) (by rw[List.length_append];omega)
  have iE:=arG (bl i) q;rw[iE] at zR;obtain⟨h',dc,du⟩:=aeZ o7 A M hi av d (q+1) (by omega) f (by omega) g5 zR;refine⟨h',?_,du⟩;rw[dr];show EX C lf (λx3 bC mV vd h=>bq (Bd C lf av) f (x3,bC,mV,vd) h) av (some (.ptr cJ 0)) (some (.fn (.func 93) [] [.ptr cJ 0])) (some (.agg (ints (e3 (bl i) 36 272)))) (some (I (q:Int))) h=_;unfold EX;simp only[aE,ba,b7,sO,dv,c0,ak,fi,rG,List.nil_append,List.cons_append,aD,ks,bX,dC];exact dc
def Gg(C:ad):Prop:=∀h T n N wd b now us nd bl i,bx h T n N wd b now us nd->c1 n N wd nd bl->i<N->∃x h',C (.fn 79) [.ptr T.aJ (i*308)] h=some (.ret x,h')/\eN h h' x (lj bl i)/\aG h h' (λ_=>False)
theorem arH{C:ad}(gu:1000<=lf)(o7:zH C)(A:bx h T n N wd b now us nd)(M:c1 n N wd nd bl)(hi:i<N):
 ∃x h',Ib C lf (.ptr T.aJ (i*308)) h=some (.ret x,h')/\eN h h' x (lj bl i)/\aG h h' (λ_=>False):=by
 have gb:=A.st.cA;have hle:∀c,bl i c<=4096:=λc=>Nat.le_trans (M.le i c) gb
 have a1:hb aw 33=some (.slice none 0 0):=by kernel_rfl
 have sO:=rf (P:=aw) (e:=33) (h:=h) a1;have qE:(db (.slice none 0 0)).cells=[.val (.slice none 0 0)]:=rfl;rw[qE] at sO;generalize jf:dJ 33 [.val (.slice none 0 0)]=dN at *
 have cN:(h.new dN).wr h.next 1:=by
  have:=lZ (h:=h) (o:=dN) (by rw[<- jf];rfl)
  rw[show dN.n=1 by rw[<- jf];rfl] at this;exact this
 have aS:(h.new dN).cell h.next 0=some (.val (.slice none 0 0)):=by rw[l6, <- jf,oR];rfl
 have gO:kE h (h.new dN) h.next (hY (e3 (bl i) 12 0)):=⟨⟨_,aS,⟨hH.nil _ _ _,λj aa=>by cases aa⟩,λe=>by cases e⟩,cN,Nat.le_refl _,by simp,aG.new _ _ _⟩
 generalize mL:h.new dN=g1 at *;have hO:∀m,m<=300->(hY (e3 (bl i) 12 m)).length<=300:=λm hm=>by have:=Ru (e3 (bl i) 12 m);rw[wQ] at this;omega
 obtain⟨b0,y1⟩:=A.Eo gO;have aBq:=WL (P:=aw) (t:=119) (n:=6) (s:=1) (k:=T.aJ) (off:=i*308+12) Tryd.underlying119 (by kernel_rfl) (by omega);obtain⟨g2,d1,qc,_⟩:=MV o7 gO (k:=T.aJ) (off:=i*308+12) (f:=bl i) (a:=12) (n:=6) y1 (WC b0 M hi (by omega) (by omega)) hle (by omega) (Nat.le_trans (hO 0 (by omega)) (by omega));rw[Jv rfl] at qc;obtain⟨dk,tW⟩:=A.Eo qc;have acO:=dk.ef i 18 hi (by omega);rw[M.cell i 18 hi (by omega) (by omega)] at acO;obtain⟨x3,g3,g4,ak,aD,Cg,fo⟩:=add_one o7 qc (v:=bl i 18) (hle _) (Nat.le_trans (hO _ (by omega)) (by omega));rw[<- WB (bl i) 18,Jv rfl] at Cg;obtain⟨kC,zA⟩:=A.Eo Cg;have aBr:=WL (P:=aw) (t:=120) (n:=16) (s:=1) (k:=T.aJ) (off:=i*308+19) Tryd.underlying120 (by kernel_rfl) (by omega);obtain⟨g5,d5,zR,_⟩:=MV o7 Cg (k:=T.aJ) (off:=i*308+19) (f:=bl i) (a:=19) (n:=16) zA (WC kC M hi (by omega) (by omega)) hle (by omega) (Nat.le_trans (hO _ (by omega)) (by omega));rw[Jv rfl] at zR;obtain⟨aiN,LH⟩:=A.Eo zR;have acP:=aiN.ef i 35 hi (by omega);rw[M.cell i 35 hi (by omega) (by omega)] at acP;obtain⟨aF,g6,g7,dU,gg,Mn,ag8⟩:=add_one o7 zR (v:=bl i 35) (hle _) (Nat.le_trans (hO _ (by omega)) (by omega));rw[<- WB (bl i) 35,Jv rfl] at Mn;obtain⟨Xx,aiz⟩:=A.Eo Mn;obtain⟨md,nf,_,_⟩:=Xx.wn
 have lK:fu 272 (.ptr T.aJ (i*308+36)) g7=some (.agg (ints (e3 (bl i) 36 272))):=by
  rw[n2 nf,lE (ys:=ints (e3 (bl i) 36 272)) (by rw[ints,List.length_map,wQ]) λj aa=>?_]
  ·rfl
  ·rw[WC Xx M hi (by omega) (by omega) j aa];simp[ints,e3,aa]
 obtain⟨h',dc,du⟩:=aeZ (lf:=lf) (C:=C) o7 A M hi (λx3 h=>Kt C lf Hu x3 h) 16 0 (by omega) lf (by omega) g7 Mn;obtain⟨x,bT,cm,fe⟩:=du.c;refine⟨x,h',?_,cm,du.F⟩;unfold Ib Ve Vd Vc Vb;simp only[aE,sO];unfold Va U9;simp only[aE];unfold U8 U7;simp only[aE,aBq,fi,rG,List.nil_append,List.cons_append,d1];unfold U6 U5;have aEy:i*308+18+0=i*308+18:=rfl;simp only[aE,aEy,acO,ak,fi,rG,List.nil_append,List.cons_append,aD];unfold U4 U3;have Hh:i*308+18+1=i*308+19:=rfl;simp only[aE,Hh,aBr,fi,rG,List.nil_append,List.cons_append,d5];unfold U2 U1;simp only[aE,acP,dU,fi,rG,List.nil_append,List.cons_append,gg];unfold U0 UZ UY;simp only[aE,lK];refine Eq.trans dc ?_;unfold Kt Hu;simp only[aE,bT]
end
def fv(nd:Nat->Nat->J)(i k:Nat):List J:=(List.range 10).map λj=>if j=5 then I (k:Int) else nd i (1+j)
theorem z3{f:Nat->J}:∀{l:List Nat},(∀j∈l,(f j).one=true)->dZ (l.map f)=true
 | [],_=>rfl
 |a::l,h=>by
  show((f a).one&&dZ (l.map f))=true;rw[h a (List.mem_cons_self ..),z3 λj aa=>h j (List.mem_cons_of_mem _ aa)];rfl
theorem ad8{P:Program}{h:U}{t e s:Nat}{x:J}{n:Nat}{ys:List J}(hu:P.underlying t=some (.slice e))(S:hH h e s x n ys):eE P t x=some (I (n:Int)):=by
 rcases S.2 with⟨rfl,rfl⟩|⟨k,rfl,_⟩
 ·simp[eE,hu,fD]
 ·simp[eE,hu]
section
variable{lf:Nat}{h:U}{T:ei}{n N:Nat}{wd b:Nat->Nat}{now:Int}{us:Nat->Bool}{nd:Nat->Nat->J}{bl:Nat->Nat->Nat}{i:Nat}
def Ck(C:ad):Prop:=∀h T n N wd b now us nd bl i,bx h T n N wd b now us nd->c1 n N wd nd bl->i<N->us i=true->(∀c,c<12->(nd i c).one=true)->
 ∃h',C (.fn 42) [.ptr T.a9 0,I ((i+1:Nat):Int)] h=some (.ret (.bm [.agg (fv nd i (lj bl i).length),I 0]),h')/\aG h h' (λ_=>False)
theorem aBF{C:ad}(fh:l3 C)(oc:Gg C)(A:bx h T n N wd b now us nd)(M:c1 n N wd nd bl)(hi:i<N)(hu:us i=true)(gw:∀c,c<12->(nd i c).one=true):
 ∃h',HP C lf (.ptr T.a9 0) (I ((i+1:Nat):Int)) h=some (.ret (.bm [.agg (fv nd i (lj bl i).length),I 0]),h')/\aG h h' (λ_=>False):=by
 have jK:=A.gN;obtain⟨z,a1,hj⟩:∃z,hb aw 78=some z/\(db z).cells.length=10:=FU (by kernel_rfl);have um:=rf (P:=aw) (e:=78) (h:=h) a1;generalize hM:dJ 78 (db z).cells=ob at *
 have D0:∀h:U,(h.new ob).wr h.next 10:=λh=>by
  have:=lZ (h:=h) (o:=ob) (by rw[<- hM];rfl)
  rw[show ob.n=10 by rw[<- hM];exact hj] at this;exact this
 have cN:=D0 h;have cH:(h.new ob).next=h.next+1:=by simp
 have aM:aG h (h.new ob) (λ_=>False):=aG.new _ _ _;generalize mL:h.new ob=g1 at *;have b0:=A.hk aM;have bd:=fh g1 T n N wd b now us nd ((i+1:Nat):Int) b0 (by omega) (by omega);rw[AW hi hu,if_pos rfl,show((i+1:Nat):Int).toNat-1=i by omega] at bd;have b4:decide ((0:Int)≠0)=false:=rfl;obtain⟨md,nf,_,_⟩:=b0.wn
 have lK:fu 10 (.ptr T.aJ (i*308+1)) g1=some (.agg ((List.range 10).map λj=>nd i (1+j))):=by
  rw[n2 nf,lE (ys:=(List.range 10).map λj=>nd i (1+j)) (by simp) λj aa=>?_]
  ·rfl
  ·rw[Nat.add_assoc,b0.ef i (1+j) hi (by omega)];simp[aa]
 have Cm:=rf (P:=aw) (e:=78) (h:=g1) a1;rw[hM] at Cm;have cy:=D0 g1;have ga:(J.agg ((List.range 10).map λj=>nd i (1+j))).cells=(List.range 10).map λj=>nd i (1+j):=rfl
 have fP:dZ ((List.range 10).map λj=>nd i (1+j))=true:=z3 λj aa=>gw _ (by have:=List.mem_range.1 aa;omega)
 have q9:=hR (n:=10) (off:=0) (y:= .agg ((List.range 10).map λj=>nd i (1+j))) cy (by rw[ga];simp) (by omega) (by rw[ga];exact fP);rw[ga] at q9
 have PK:∀j,j<10->((g1.new ob).set g1.next 0 ((List.range 10).map λj=>nd i (1+j))).cell g1.next j=some (nd i (1+j)):=λj aa=>by
  rw[hh cy (by simp) (Nat.zero_le _) (by simpa using aa),Nat.sub_zero];simp[aa]
 have FE:((g1.new ob).set g1.next 0 ((List.range 10).map λj=>nd i (1+j))).wr g1.next 10:=eG cy
 have bD:aG g1 ((g1.new ob).set g1.next 0 ((List.range 10).map λj=>nd i (1+j))) (λ_=>False):=(aG.new g1 ob _).gz (fa rfl) (Nat.le_refl _);have cA:((g1.new ob).set g1.next 0 ((List.range 10).map λj=>nd i (1+j))).next=g1.next+1:=by simp
 generalize ij:(g1.new ob).set g1.next 0 ((List.range 10).map λj=>nd i (1+j))=g2 at *
 obtain⟨x,g3,cr,xm,dd⟩:=oc g2 T n N wd b now us nd bl i (b0.hk bD) M hi;have hlen:=ad8 (P:=aw) Tryd.underlying33 xm.aZ;generalize ai:(lj bl i).length=k at *;have er:∀j,j<g2.next->cQ g2 g3 j:=λj aa=>dd.same j aa (λe=>e)
 have fp:g3.wr g1.next 10:=fI FE (er _ (by omega))
 have oW:=hR (n:=1) (off:=5) (y:=I (k:Int)) fp rfl (by omega) rfl;have jt:(J.int .i64 (k:Int)).cells=[I (k:Int)]:=rfl;rw[jt] at oW
 have PL:∀j,j<10->(g3.set g1.next 5 [I (k:Int)]).cell g1.next (0+j)=(fv nd i k)[j]?:=λj aa=>by
  rw[Nat.zero_add];by_cases e:j=5
  ·subst e;rw[hh fp (by simp) (Nat.le_refl _) (by simp)];simp[fv]
  ·rw[eH (.inr (by simp;omega)),(er _ (by omega)).cell,PK j aa];simp[fv,aa,e]
 have j6:(g3.set g1.next 5 [I (k:Int)]).next=g3.next:=by simp
 have ia:(g3.set g1.next 5 [I (k:Int)]).wr g1.next 10:=eG fp
 have zw:(g3.set g1.next 5 [I (k:Int)]).wr h.next 10:=by
  have az:cQ g1 g2 h.next:=bD.same _ (by omega) (λe=>e)
  have aA:cQ g3 (g3.set g1.next 5 [I (k:Int)]) h.next:=iu _ _ _ (by omega)
  exact fI (fI (fI cN az) (er _ (by have:=bD.next;omega))) aA
 have fL:aG g1 (g3.set g1.next 5 [I (k:Int)]) (λ_=>False):=(bD.trans dd).gz (fa rfl) (Nat.le_refl _);generalize tg:g3.set g1.next 5 [I (k:Int)]=g4 at *
 have ks:(fv nd i k).length=10:=by simp[fv]
 have P5:fu 10 (.ptr g1.next 0) g4=some (.agg (fv nd i k)):=by
  obtain⟨oO,uJ,_⟩:=ia;rw[n2 uJ,lE ks PL];rfl
 have PE:dZ (fv nd i k)=true:=z3 λj aa=>by
  have:=List.mem_range.1 aa
  split
  ·rfl
  ·exact gw _ (by omega)
 have Fv:=hR (n:=10) (off:=0) (y:= .agg (fv nd i k)) zw ks (by omega) PE;have PJ:(J.agg (fv nd i k)).cells=fv nd i k:=rfl;rw[PJ] at Fv
 have P6:fu 10 (.ptr h.next 0) (g4.set h.next 0 (fv nd i k))=some (.agg (fv nd i k)):=by
  obtain⟨oO,uJ,_⟩:=eG (off:=0) (k:=h.next) (ys:=fv nd i k) zw;rw[n2 uJ,lE ks λj aa=>?_]
  ·rfl
  ·rw[Nat.zero_add,hh zw (by omega) (Nat.zero_le _) (by omega),Nat.sub_zero]
 refine⟨g4.set h.next 0 (fv nd i k),?_,(aM.trans fL).gz (fa rfl) (Nat.le_refl _)⟩;unfold HP TG Oc;simp only[aE,um,bd,List.getElem?_cons_zero,List.getElem?_cons_succ,b4,lK,Cm,q9,cr,hlen,oW,P5,Fv,P6]
end
noncomputable section
variable{C:ad}{lf:Nat}{bb a5 eB fl jM kK qJ qK qL qM qN qO qG qH qI:hc}{ao:kU}
def aaH:ca aw:=dn 55 Tryd.f55 Tryd.func55 (by kernel_rfl)
noncomputable def Ol(h:U):ab:=
 some (.ret (.bm []),h)
def T8(C:ad)(lf:Nat)(n:cu)(x0 x1:O)(h:U):ab:=
 aS C 73 x0 h λa k=>fY a (ob x0 λa=>ob x1 λb=>eg 2 a λa=>ob (st 1 a b k) n) (n k)
theorem av0{n:cu}:∀F h,au aaH C lf [] F h (ee n) a5 ao=a8 (T8 C lf n) 0 1 F h:=by
 intro F h;kernel_rfl
def HX(C:ad)(lf:Nat)(aj ak:J)(h:U):ab:=T8 C lf Ol (some aj) (some ak) h
def abG:cx aw:=hd aaH HX (λC lf aj ak h=>cZ (K:=(ee Ol)) (by kernel_rfl) (Eq.trans (av0 _ h) (by kernel_rfl))) (by kernel_rfl)
def aaI:ca aw:=dn 56 Tryd.f56 Tryd.func56 (by kernel_rfl)
noncomputable def Om(aF:O)(h:U):ab:=
 ob aF λa=>some (.ret a,h)
def T9(C:ad)(lf:Nat)(r:ay)(x0 x1 x2:O)(h:U):ab:=
 a2 C 74 x0 x1 h λa k=>df a λa b=>eF .neq 26 b (I 0) (r (some b) k) (eg 1 a λb=>eJ 6 b k λb=>cl .and 68 b (I 61440) λb=>cC .and 68 x2 (I 4095) λc=>cl .or 68 b c λb=>eg 1 a λc=>ob (b6 6 c) λc=>ob (st 1 c b k) λk=>dE 2 x0 k λb=>eg 1 a λa=>ob (b6 9 a) λa=>ob (st 1 a b k) (r (bG 0)))
theorem av1{r:ay}:∀F h,au aaI C lf [] F h bb (aR r 6) ao=bE (T9 C lf r) 0 1 2 F h:=by
 intro F h;kernel_rfl
def CZ(C:ad)(lf:Nat)(aj ak aD:J)(h:U):ab:=T9 C lf Om (some aj) (some ak) (some aD) h
def abH:cx aw:=nA aaI CZ (λC lf aj ak aD h=>cZ (K:=(aR Om 6)) (by kernel_rfl) (Eq.trans (av1 _ h) (by kernel_rfl))) (by kernel_rfl)
def aaJ:ca aw:=dn 57 Tryd.f57 Tryd.func57 (by kernel_rfl)
noncomputable def xQ(aP:O)(h:U):ab:=
 ob aP λa=>some (.ret a,h)
def Ua(C:ad)(lf:Nat)(r:ay)(x0 x9:O)(h:U):ab:=
 ob x9 λa=>dE 2 x0 h λb=>eg 1 a λa=>ob (b6 9 a) λa=>ob (st 1 a b h) (r (bG 0))
def afL(C:ad)(lf:Nat)(n:aU)(x0 x3 x9:O)(h:U):ab:=
 gJ .geq 3 x3 (I 0) (ob x9 λa=>ob x3 λb=>eg 1 a λa=>ob (b6 3 a) λa=>ob (st 1 a b h) (n x0 x9)) (n x0 x9 h)
def Ub(C:ad)(lf:Nat)(r:ay)(x0 x3 x9:O)(h:U):ab:=
 afL C lf (Ua C lf r) x0 x3 x9 h
def afM(C:ad)(lf:Nat)(n:bI)(x0 x2 x3 x9:O)(h:U):ab:=
 gJ .geq 3 x2 (I 0) (ob x9 λa=>ob x2 λb=>eg 1 a λa=>ob (b6 2 a) λa=>ob (st 1 a b h) (n x0 x3 x9)) (n x0 x3 x9 h)
def afN(C:ad)(lf:Nat)(r:ay)(x0 x2 x3 x9:O)(h:U):ab:=
 afM C lf (Ub C lf r) x0 x2 x3 x9 h
def afO(C:ad)(lf:Nat)(n:bt)(r:ay)(x0 x2 x3 x9:O)(h:U):ab:=
 cC .lss 3 x2 (I (-1)) λa=>jr .lss 3 a x3 (I (-1)) h λb k=>nn a b (r (bG 22) k) (n x0 x2 x3 x9 k)
def afP(C:ad)(lf:Nat)(r:ay)(x0 x2 x3 x9:O)(h:U):ab:=
 afO C lf (afN C lf r) r x0 x2 x3 x9 h
def Uc(C:ad)(lf:Nat)(n:bt)(r:ay)(x0 x2 x3 x9 aX:O)(h:U):ab:=
 gJ .neq 26 aX (I 0) (ob aX λa=>r (some a) h) (n x0 x2 x3 x9 h)
def Ud(C:ad)(lf:Nat)(r:ay)(x0 x2 x3 x9 aX:O)(h:U):ab:=
 Uc C lf (afP C lf r) r x0 x2 x3 x9 aX h
def afQ(C:ad)(lf:Nat)(n:cY)(x0 x1 x2 x3:O)(h:U):ab:=
 a2 C 74 x0 x1 h λa k=>df a λa b=>n x0 x2 x3 (some a) (some b) k
def afR(C:ad)(lf:Nat)(r:ay)(x0 x1 x2 x3:O)(h:U):ab:=
 afQ C lf (Ud C lf r) x0 x1 x2 x3 h
noncomputable def afS(C:ad)(lf:Nat)(n:bt)(x0 x1 x2 x3:O)(h:U):ab:=
 n x0 x1 x2 x3 h
def Ue(C:ad)(lf:Nat)(r:ay)(x0 x1 x2 x3:O)(h:U):ab:=
 afS C lf (afR C lf r) x0 x1 x2 x3 h
theorem av2{r:ay}:∀F h,au aaJ C lf [] F h bb (aR r 8) ao=bp (Ue C lf r) 0 1 2 3 F h:=by
 intro F h;kernel_rfl
def At(C:ad)(lf:Nat)(aj ak aD a7:J)(h:U):ab:=Ue C lf xQ (some aj) (some ak) (some aD) (some a7) h
def abI:cx aw:=ry aaJ At (λC lf aj ak aD a7 h=>cZ (K:=(aR xQ 8)) (by kernel_rfl) (Eq.trans (av2 _ h) (by kernel_rfl))) (by kernel_rfl)
def aaK:ca aw:=dn 58 Tryd.f58 Tryd.func58 (by kernel_rfl)
noncomputable def On(aP:O)(h:U):ab:=
 ob aP λa=>some (.ret a,h)
def Uf(C:ad)(lf:Nat)(r:ay)(x0 x1 x2 x3:O)(h:U):ab:=
 a2 C 74 x0 x1 h λa k=>df a λa b=>eF .neq 26 b (I 0) (r (some b) k) (ob x2 λb=>ob x3 λc=>dE 2 x0 k λd=>eg 1 a λg=>ob (b6 7 g) λg=>ob (st 1 g b k) λk=>eg 1 a λb=>ob (b6 8 b) λb=>ob (st 1 b c k) λk=>eg 1 a λa=>ob (b6 9 a) λa=>ob (st 1 a d k) (r (bG 0)))
theorem av3{r:ay}:∀F h,au aaK C lf [] F h bb (aR r 8) ao=bp (Uf C lf r) 0 1 2 3 F h:=by
 intro F h;kernel_rfl
def C0(C:ad)(lf:Nat)(aj ak aD a7:J)(h:U):ab:=Uf C lf On (some aj) (some ak) (some aD) (some a7) h
def abJ:cx aw:=ry aaK C0 (λC lf aj ak aD a7 h=>cZ (K:=(aR On 8)) (by kernel_rfl) (Eq.trans (av3 _ h) (by kernel_rfl))) (by kernel_rfl)
def aaM:ca aw:=dn 60 Tryd.f60 Tryd.func60 (by kernel_rfl)
noncomputable def Oq(bC:O)(h:U):ab:=
 ob bC λa=>some (.ret a,h)
def Uh(C:ad)(lf:Nat)(r:ay)(x0 x1:O)(h:U):ab:=
 a2 C 74 x0 x1 h λa k=>df a λa b=>eF .neq 26 b (I 0) (r (some b) k) (tG 11 a k λb=>cl .add 3 b (I 1) λb=>eg 11 a λa=>ob (st 1 a b k) (r (bG 0)))
theorem av5{r:ay}:∀F h,au aaM C lf [] F h bb (aR r 4) ao=a8 (Uh C lf r) 0 1 F h:=by
 intro F h;kernel_rfl
def C1(C:ad)(lf:Nat)(aj ak:J)(h:U):ab:=Uh C lf Oq (some aj) (some ak) h
def abL:cx aw:=hd aaM C1 (λC lf aj ak h=>cZ (K:=(aR Oq 4)) (by kernel_rfl) (Eq.trans (av5 _ h) (by kernel_rfl))) (by kernel_rfl)
def aaN:ca aw:=dn 61 Tryd.f61 Tryd.func61 (by kernel_rfl)
noncomputable def Ot(bC:O)(h:U):ab:=
 ob bC λa=>some (.ret a,h)
def Ui(C:ad)(lf:Nat)(r:ay)(x0 x1:O)(h:U):ab:=
 a2 C 74 x0 x1 h λa k=>df a λa b=>eF .neq 26 b (I 0) (r (some b) k) (tG 11 a k λb=>eF .eql 3 b (I 0) (r (bG 22) k) (tG 11 a k λb=>cl .sub 3 b (I 1) λb=>uX 11 a b k λk=>ob x0 λb=>cS C 89 [b,a] k λa=>r (bG 0)))
theorem av6{r:ay}:∀F h,au aaN C lf [] F h bb (aR r 4) ao=a8 (Ui C lf r) 0 1 F h:=by
 intro F h;kernel_rfl
def Au(C:ad)(lf:Nat)(aj ak:J)(h:U):ab:=Ui C lf Ot (some aj) (some ak) h
def abM:cx aw:=hd aaN Au (λC lf aj ak h=>cZ (K:=(aR Ot 4)) (by kernel_rfl) (Eq.trans (av6 _ h) (by kernel_rfl))) (by kernel_rfl)
end
theorem YK{P:Program}{t:TypeId}{a b:Int}:bin P .or t (I a) (I b)=some (I (IntKind.i64.wrap ((BitVec.ofInt 64 a|||BitVec.ofInt 64 b).toNat:Int))):=by
 rw[xD _ (.inr (.inl rfl))];simp only[arith,fD];rfl
theorem BS{a:Int}:h4 .neg (I a)=some (I (IntKind.i64.wrap (-a))):=by
 show arith .sub .i64 0 a=_;simp only[arith,fD,Int.zero_sub]
def wA(m mo:Int):Int:=IntKind.i64.wrap ((BitVec.ofInt 64 (lg m)|||BitVec.ofInt 64 (IntKind.i64.wrap ((BitVec.ofInt 64 mo&&& BitVec.ofInt 64 4095).toNat:Int))).toNat:Int)
section
variable{lf:Nat}{h:U}{T:ei}{n N:Nat}{wd b:Nat->Nat}{now:Int}{us:Nat->Bool}{nd:Nat->Nat->J}{i:Nat}{ino:Int}
theorem s9{C:ad}(fh:l3 C)(A:bx h T n N wd b now us nd)(cb: -9223372036854775808<=ino)(cV:ino<9223372036854775808)(ag:c8 N us ino=false):C (.fn 74) [.ptr T.a9 0,I ino] h=some (.ret (.bm [.val (.pointer none),I 2]),h):=by
 have:=fh h T n N wd b now us nd ino A cb cV
 rwa[ag,if_neg (by simp)] at this
theorem ta{C:ad}(fh:l3 C)(A:bx h T n N wd b now us nd)(hi:i<N)(hu:us i=true):C (.fn 74) [.ptr T.a9 0,I ((i+1:Nat):Int)] h=some (.ret (.bm [.ptr T.aJ (i*308),I 0]),h):=by
 have jK:=A.gN
 have:=fh h T n N wd b now us nd ((i+1:Nat):Int) A (by omega) (by omega)
 rwa[AW hi hu,if_pos rfl,show((i+1:Nat):Int).toNat-1=i by omega] at this
theorem q8(A:bx h T n N wd b now us nd)(hi:i<N){c:Nat}(h0:c≠0)(ae:c<308)(y:Int):
 ∃h',st 1 (.ptr T.aJ (i*308+c)) (I y) h=some h'/\bx h' T n N wd b now us (cT nd i c (I y))/\h'.next=h.next/\aG h h' (· =T.aJ):=
 ⟨_,wV A hi ae rfl rfl,A.setNode hi ae h0,eb ..,fa rfl⟩
def L4(C:ad):Prop:=∀h T n N wd b now us nd (at_:Int),bx h T n N wd b now us nd->∃h',C (.fn 55) [.ptr T.a9 0,I at_] h=some (.ret (.bm []),h')/\bx h' T n N wd b at_ us nd/\h'.next=h.next/\aG h h' (· =T.a9)
theorem bx.WJ(A:bx h T n N wd b now us nd)(at_:Int):bx (h.set T.a9 2 [I at_]) T n N wd b at_ us nd:=by
 have al:∀j,j≠T.a9->cQ h (h.set T.a9 2 [I at_]) j:=λj aa=>iu _ _ _ aa
 have d1:=A.d1;have d2:=A.d2;have d3:=A.d3
 exact⟨A.pd,A.gN,A.st.frame (by rw[eb];exact Nat.le_refl _) (al _ (Ne.symm d1)) (al _ (Ne.symm d2)),by rw[eH (.inr (by simp))];exact A.c0,by rw[eH (.inr (by simp))];exact A.aS,
  by rw[hh A.wt (by simp) (Nat.le_refl _) (by simp)];rfl,eG A.wt,eG A.wn,λi c hi ae=>by rw[eH (.inl (Ne.symm d3))];exact A.ef i c hi ae,A.lX,A.d1,A.d2,A.d3,A.d4,A.d5,by rw[eb];exact A.lt,by rw[eb];exact A.lb⟩
theorem alc{C:ad}(Cb:qb C)(A:bx h T n N wd b now us nd){at_:Int}:∃h',HX C lf (.ptr T.a9 0) (I at_) h=some (.ret (.bm []),h')/\bx h' T n N wd b at_ us nd/\h'.next=h.next/\aG h h' (· =T.a9):=by
 have e:=Cb h T n N wd b now us nd A;have q9:=hR (n:=1) (off:=2) (y:=I at_) A.wt rfl (by omega) rfl;have ae:(J.int .i64 at_).cells=[I at_]:=rfl;rw[ae] at q9;refine⟨_,?_,A.WJ at_,eb ..,fa rfl⟩;unfold HX T8 Ol;simp only[aE,e,q9]
def GC(C:ad):Prop:=∀h T n N wd b now us nd (ino mo:Int),bx h T n N wd b now us nd-> -9223372036854775808<=ino->ino<9223372036854775808->
 (c8 N us ino=false->C (.fn 56) [.ptr T.a9 0,I ino,I mo] h=some (.ret (I 2),h))/\
 (∀i m,i<N->us i=true->ino=((i+1:Nat):Int)->nd i 7=I m->∃h',C (.fn 56) [.ptr T.a9 0,I ino,I mo] h=some (.ret (I 0),h')/\
   bx h' T n N wd b now us (cT (cT nd i 7 (I (wA m mo))) i 10 (I now))/\h'.next=h.next/\aG h h' (· =T.aJ))
theorem aBj{C:ad}(fh:l3 C)(A:bx h T n N wd b now us nd){mo:Int}(cb: -9223372036854775808<=ino)(cV:ino<9223372036854775808):
 (c8 N us ino=false->CZ C lf (.ptr T.a9 0) (I ino) (I mo) h=some (.ret (I 2),h))/\
 (∀i m,i<N->us i=true->ino=((i+1:Nat):Int)->nd i 7=I m->∃h',CZ C lf (.ptr T.a9 0) (I ino) (I mo) h=some (.ret (I 0),h')/\
   bx h' T n N wd b now us (cT (cT nd i 7 (I (wA m mo))) i 10 (I now))/\h'.next=h.next/\aG h h' (· =T.aJ)):=by
 have d2:decide ((2:Int)≠0)=true:=rfl;have d0:decide ((0:Int)≠0)=false:=rfl;unfold CZ T9 Om;refine⟨λag=>?_,λi m hi hu e hm=>?_⟩
 ·simp only[aE,s9 fh A cb cV ag,List.getElem?_cons_zero,List.getElem?_cons_succ,d2]
 ·subst e;have Ds:=A.ef i 7 hi (by omega);rw[hm] at Ds;obtain⟨h1,s1,b0,cH,aM⟩:=q8 A hi (c:=7) (by omega) (by omega) (wA m mo);obtain⟨h2,s2,dk,cA,bD⟩:=q8 b0 hi (c:=10) (by omega) (by omega) now;have xK:i*308+1+6=i*308+7:=rfl;have jV:i*308+1+9=i*308+10:=rfl;have DD:IntKind.i64.wrap ((BitVec.ofInt 64 m&&& BitVec.ofInt 64 61440).toNat:Int)=lg m:=rfl;have DE:IntKind.i64.wrap ((BitVec.ofInt 64 (lg m)|||BitVec.ofInt 64 (IntKind.i64.wrap ((BitVec.ofInt 64 mo&&& BitVec.ofInt 64 4095).toNat:Int))).toNat:Int)=wA m mo:=rfl;refine⟨h2,?_,dk,cA.trans cH,aM.trans bD⟩;simp only[aE,ta fh A hi hu,List.getElem?_cons_zero,List.getElem?_cons_succ,d0,xK,jV,Ds,Cr,YK,DD,DE,s1,b0.a2,s2]
def GF(C:ad):Prop:=∀h T n N wd b now us nd (ino a m:Int),bx h T n N wd b now us nd-> -9223372036854775808<=ino->ino<9223372036854775808->
 (c8 N us ino=false->C (.fn 58) [.ptr T.a9 0,I ino,I a,I m] h=some (.ret (I 2),h))/\
 (∀i,i<N->us i=true->ino=((i+1:Nat):Int)->∃h',C (.fn 58) [.ptr T.a9 0,I ino,I a,I m] h=some (.ret (I 0),h')/\
   bx h' T n N wd b now us (cT (cT (cT nd i 8 (I a)) i 9 (I m)) i 10 (I now))/\h'.next=h.next/\aG h h' (· =T.aJ))
theorem aBm{C:ad}(fh:l3 C)(A:bx h T n N wd b now us nd){a m:Int}(cb: -9223372036854775808<=ino)(cV:ino<9223372036854775808):
 (c8 N us ino=false->C0 C lf (.ptr T.a9 0) (I ino) (I a) (I m) h=some (.ret (I 2),h))/\
 (∀i,i<N->us i=true->ino=((i+1:Nat):Int)->∃h',C0 C lf (.ptr T.a9 0) (I ino) (I a) (I m) h=some (.ret (I 0),h')/\
   bx h' T n N wd b now us (cT (cT (cT nd i 8 (I a)) i 9 (I m)) i 10 (I now))/\h'.next=h.next/\aG h h' (· =T.aJ)):=by
 have d2:decide ((2:Int)≠0)=true:=rfl;have d0:decide ((0:Int)≠0)=false:=rfl;unfold C0 Uf On;refine⟨λag=>?_,λi hi hu e=>?_⟩
 ·simp only[aE,s9 fh A cb cV ag,List.getElem?_cons_zero,List.getElem?_cons_succ,d2]
 ·subst e;obtain⟨h1,s1,b0,cH,aM⟩:=q8 A hi (c:=8) (by omega) (by omega) a;obtain⟨h2,s2,dk,cA,bD⟩:=q8 b0 hi (c:=9) (by omega) (by omega) m;obtain⟨h3,er,fg,gy,dd⟩:=q8 dk hi (c:=10) (by omega) (by omega) now;have vM:i*308+1+7=i*308+8:=rfl;have pw:i*308+1+8=i*308+9:=rfl;have jV:i*308+1+9=i*308+10:=rfl;refine⟨h3,?_,fg,by omega,(aM.trans bD).trans dd⟩;simp only[aE,ta fh A hi hu,List.getElem?_cons_zero,List.getElem?_cons_succ,d0,vM,pw,jV,A.a2,s1,s2,er]
def qW(nd:Nat->Nat->J)(i:Nat)(u g now:Int):Nat->Nat->J:=cT (if 0<=g then cT (if 0<=u then cT nd i 3 (I u) else nd) i 4 (I g) else if 0<=u then cT nd i 3 (I u) else nd) i 10 (I now)
def GD(C:ad):Prop:=∀h T n N wd b now us nd (ino u g:Int),bx h T n N wd b now us nd-> -9223372036854775808<=ino->ino<9223372036854775808->
 (c8 N us ino=false->C (.fn 57) [.ptr T.a9 0,I ino,I u,I g] h=some (.ret (I 2),h))/\
 (∀i,i<N->us i=true->ino=((i+1:Nat):Int)->((u < -1\/g < -1)->C (.fn 57) [.ptr T.a9 0,I ino,I u,I g] h=some (.ret (I 22),h))/\
   (¬(u < -1\/g < -1)->∃h',C (.fn 57) [.ptr T.a9 0,I ino,I u,I g] h=some (.ret (I 0),h')/\
     bx h' T n N wd b now us (qW nd i u g now)/\h'.next=h.next/\aG h h' (· =T.aJ)))
theorem aBl{C:ad}(fh:l3 C)(A:bx h T n N wd b now us nd){u g:Int}(cb: -9223372036854775808<=ino)(cV:ino<9223372036854775808):
 (c8 N us ino=false->At C lf (.ptr T.a9 0) (I ino) (I u) (I g) h=some (.ret (I 2),h))/\
 (∀i,i<N->us i=true->ino=((i+1:Nat):Int)->((u < -1\/g < -1)->At C lf (.ptr T.a9 0) (I ino) (I u) (I g) h=some (.ret (I 22),h))/\
   (¬(u < -1\/g < -1)->∃h',At C lf (.ptr T.a9 0) (I ino) (I u) (I g) h=some (.ret (I 0),h')/\
     bx h' T n N wd b now us (qW nd i u g now)/\h'.next=h.next/\aG h h' (· =T.aJ))):=by
 have d2:decide ((2:Int)≠0)=true:=rfl;have d0:decide ((0:Int)≠0)=false:=rfl;unfold At Ue afS afR afQ;refine⟨λag=>?_,λi hi hu e=>?_⟩
 ·simp only[aE,s9 fh A cb cV ag,List.getElem?_cons_zero,List.getElem?_cons_succ];unfold Ud Uc xQ;simp only[aE,d2]
 ·subst e;simp only[aE,ta fh A hi hu,List.getElem?_cons_zero,List.getElem?_cons_succ];unfold Ud Uc;simp only[aE,d0];unfold afP afO;refine⟨λag=>?_,λag=>?_⟩
  ·unfold xQ;by_cases h1:u < -1
   ·simp only[aE,bu h1]
   ·have h2:g < -1:=by omega
    simp only[aE,br h1,bu h2]
  ·have h1:decide (u < -1)=false:=br (by omega);have h2:decide (g < -1)=false:=br (by omega);have cj:i*308+1+2=i*308+3:=rfl;have e9:i*308+1+3=i*308+4:=rfl;have jV:i*308+1+9=i*308+10:=rfl;simp only[aE,h1,h2];unfold afN afM
   have fin:∀h2 wB,bx h2 T n N wd b now us wB->∃h',Ua C lf xQ (some (.ptr T.a9 0)) (some (.ptr T.aJ (i*308))) h2=some (.ret (I 0),h')/\bx h' T n N wd b now us (cT wB i 10 (I now))/\h'.next=h2.next/\aG h2 h' (· =T.aJ):=λh2 wB dk=>by
    obtain⟨h3,er,fg,gy,dd⟩:=q8 dk hi (c:=10) (by omega) (by omega) now;refine⟨h3,?_,fg,gy,dd⟩;unfold Ua xQ;simp only[aE,dk.a2,jV,er]
   have Dg:∀h2 wB,bx h2 T n N wd b now us wB->∃h',Ub C lf xQ (some (.ptr T.a9 0)) (some (I g)) (some (.ptr T.aJ (i*308))) h2=some (.ret (I 0),h')/\
    bx h' T n N wd b now us (cT (if 0<=g then cT wB i 4 (I g) else wB) i 10 (I now))/\h'.next=h2.next/\aG h2 h' (· =T.aJ):=λh2 wB dk=>by
    unfold Ub afL;by_cases bd:0<=g
    ·obtain⟨h3,er,fg,gy,dd⟩:=q8 dk hi (c:=4) (by omega) (by omega) g;obtain⟨aW,fo,kC,j6,fL⟩:=fin h3 _ fg;rw[if_pos bd];refine⟨aW,?_,kC,by omega,dd.trans fL⟩;simp only[aE,bu bd,e9,er];exact fo
    ·obtain⟨aW,fo,kC,j6,fL⟩:=fin h2 _ dk;rw[if_neg bd];refine⟨aW,?_,kC,j6,fL⟩;simp only[aE,br bd];exact fo
   by_cases uP:0<=u
   ·obtain⟨h3,er,fg,gy,dd⟩:=q8 A hi (c:=3) (by omega) (by omega) u;obtain⟨aW,fo,kC,j6,fL⟩:=Dg h3 _ fg;refine⟨aW,?_,by unfold qW;rw[if_pos uP];exact kC,by omega,dd.trans fL⟩;simp only[aE,bu uP,cj,er];exact fo
   ·obtain⟨aW,fo,kC,j6,fL⟩:=Dg h _ A;refine⟨aW,?_,by unfold qW;rw[if_neg uP];exact kC,j6,fL⟩;simp only[aE,br uP];exact fo
end
def zM(i:Nat)(L H:Int)(wd dg:Nat->Nat)(us eh:Nat->Bool)(nd eU:Nat->Nat->J)(bl bl':Nat->Nat->Nat):Prop:=
 ((L≠0\/H≠0)/\dg=wd/\eh=us/\eU=nd/\bl'=bl)\/
 (L=0/\H=0/\eh=de us i false/\eU=iw nd i fA/\bl'=m2 bl i/\∀j,bQ dg j=true↔(bQ wd j=true/\∀c,12<=c->c<308->bl i c≠j+1))
section
variable{lf:Nat}{h:U}{T:ei}{n N:Nat}{wd b:Nat->Nat}{now:Int}{us:Nat->Bool}{nd:Nat->Nat->J}{bl:Nat->Nat->Nat}{i:Nat}{ino:Int}
theorem aaf{C:ad}(Fr:B8 C)(A:bx h T n N wd b now us nd)(M:c1 n N wd nd bl)(hi:i<N){L H:Int}(h8:nd i 2=I L)(iJ:nd i 11=I H):
 ∃h' dg eh eU bl',C (.fn 89) [.ptr T.a9 0,.ptr T.aJ (i*308)] h=some (.ret (.bm []),h')/\bx h' T n N dg b now eh eU/\c1 n N dg eU bl'/\zM i L H wd dg us eh nd eU bl bl'/\aG h h' (λj=>j=T.bO\/j=T.aJ):=by
 obtain⟨f1,f2⟩:=Fr h T n N wd b now us nd bl i L H A M hi h8 iJ;by_cases a1:L≠0\/H≠0
 ·exact⟨h,wd,us,nd,bl,f1 a1,A,M,.inl ⟨a1,rfl,rfl,rfl,rfl⟩,aG.refl _ _⟩
 ·have h1:L=0:=by omega
  have h2:H=0:=by omega
  obtain⟨h',dg,az,aA,cj,e9,iE⟩:=f2 h1 h2;exact⟨h',dg,_,_,_,az,aA,cj,.inr ⟨h1,h2,rfl,rfl,rfl,e9⟩,iE⟩
def F5(C:ad):Prop:=∀h T n N wd b now us nd (ino:Int),bx h T n N wd b now us nd-> -9223372036854775808<=ino->ino<9223372036854775808->
 (c8 N us ino=false->C (.fn 60) [.ptr T.a9 0,I ino] h=some (.ret (I 2),h))/\
 (∀i H,i<N->us i=true->ino=((i+1:Nat):Int)->nd i 11=I H->∃h',C (.fn 60) [.ptr T.a9 0,I ino] h=some (.ret (I 0),h')/\
   bx h' T n N wd b now us (cT nd i 11 (I (IntKind.i64.wrap (H+1))))/\h'.next=h.next/\aG h h' (· =T.aJ))
theorem aoY{C:ad}(fh:l3 C)(A:bx h T n N wd b now us nd)(cb: -9223372036854775808<=ino)(cV:ino<9223372036854775808):
 (c8 N us ino=false->C1 C lf (.ptr T.a9 0) (I ino) h=some (.ret (I 2),h))/\
 (∀i H,i<N->us i=true->ino=((i+1:Nat):Int)->nd i 11=I H->∃h',C1 C lf (.ptr T.a9 0) (I ino) h=some (.ret (I 0),h')/\
   bx h' T n N wd b now us (cT nd i 11 (I (IntKind.i64.wrap (H+1))))/\h'.next=h.next/\aG h h' (· =T.aJ)):=by
 have d2:decide ((2:Int)≠0)=true:=rfl;have d0:decide ((0:Int)≠0)=false:=rfl;unfold C1 Uh Oq;refine⟨λag=>?_,λi H hi hu e iJ=>?_⟩
 ·simp only[aE,s9 fh A cb cV ag,List.getElem?_cons_zero,List.getElem?_cons_succ,d2]
 ·subst e;have ae:=A.ef i 11 hi (by omega);rw[iJ] at ae;obtain⟨h1,s1,b0,cH,aM⟩:=q8 A hi (c:=11) (by omega) (by omega) (IntKind.i64.wrap (H+1));refine⟨h1,?_,b0,cH,aM⟩;simp only[aE,ta fh A hi hu,List.getElem?_cons_zero,List.getElem?_cons_succ,d0,ae,s1]
def GB(C:ad):Prop:=∀h T n N wd b now us nd bl (ino:Int),bx h T n N wd b now us nd->c1 n N wd nd bl-> -9223372036854775808<=ino->ino<9223372036854775808->
 (c8 N us ino=false->C (.fn 61) [.ptr T.a9 0,I ino] h=some (.ret (I 2),h))/\
 (∀i L H,i<N->us i=true->ino=((i+1:Nat):Int)->nd i 2=I L->nd i 11=I H->(H=0->C (.fn 61) [.ptr T.a9 0,I ino] h=some (.ret (I 22),h))/\
   (H≠0->∃h' dg eh eU bl',C (.fn 61) [.ptr T.a9 0,I ino] h=some (.ret (I 0),h')/\bx h' T n N dg b now eh eU/\c1 n N dg eU bl'/\
     zM i L (IntKind.i64.wrap (H-1)) wd dg us eh (cT nd i 11 (I (IntKind.i64.wrap (H-1)))) eU bl bl'/\aG h h' (λj=>j=T.bO\/j=T.aJ)))
theorem aAb{C:ad}(fh:l3 C)(Fr:B8 C)(A:bx h T n N wd b now us nd)(M:c1 n N wd nd bl)(cb: -9223372036854775808<=ino)(cV:ino<9223372036854775808):
 (c8 N us ino=false->Au C lf (.ptr T.a9 0) (I ino) h=some (.ret (I 2),h))/\
 (∀i L H,i<N->us i=true->ino=((i+1:Nat):Int)->nd i 2=I L->nd i 11=I H->(H=0->Au C lf (.ptr T.a9 0) (I ino) h=some (.ret (I 22),h))/\
   (H≠0->∃h' dg eh eU bl',Au C lf (.ptr T.a9 0) (I ino) h=some (.ret (I 0),h')/\bx h' T n N dg b now eh eU/\c1 n N dg eU bl'/\
     zM i L (IntKind.i64.wrap (H-1)) wd dg us eh (cT nd i 11 (I (IntKind.i64.wrap (H-1)))) eU bl bl'/\aG h h' (λj=>j=T.bO\/j=T.aJ))):=by
 have d2:decide ((2:Int)≠0)=true:=rfl;have d0:decide ((0:Int)≠0)=false:=rfl;unfold Au Ui Ot;refine⟨λag=>?_,λi L H hi hu e h8 iJ=>⟨λa1=>?_,λa1=>?_⟩⟩
 ·simp only[aE,s9 fh A cb cV ag,List.getElem?_cons_zero,List.getElem?_cons_succ,d2]
 ·subst e;have ae:=A.ef i 11 hi (by omega);rw[iJ] at ae;simp only[aE,ta fh A hi hu,List.getElem?_cons_zero,List.getElem?_cons_succ,d0,ae,bu a1]
 ·subst e;have ae:=A.ef i 11 hi (by omega);rw[iJ] at ae;obtain⟨h1,s1,b0,cH,aM⟩:=q8 A hi (c:=11) (by omega) (by omega) (IntKind.i64.wrap (H-1));obtain⟨h2,dg,eh,eU,bl',a2,dk,M2,mW,bD⟩:=aaf Fr b0 (M.kZ (by omega)) hi (L:=L) (H:=IntKind.i64.wrap (H-1)) (by rw[ho _ _ (by omega)];exact h8) (mU ..);refine⟨h2,dg,eh,eU,bl',?_,dk,M2,mW,(aM.ek λ_ e=> .inr e).trans bD⟩;simp only[aE,ta fh A hi hu,List.getElem?_cons_zero,List.getElem?_cons_succ,d0,ae,br a1,s1,a2]
def Ga(C:ad):Prop:=∀h T n N wd b now us nd bl (ino by_:Int),bx h T n N wd b now us nd->c1 n N wd nd bl-> -9223372036854775808<=ino->ino<9223372036854775808->
 (c8 N us ino=false->C (.fn 59) [.ptr T.a9 0,I ino,I by_] h=some (.ret (I 2),h))/\
 (∀i L H,i<N->us i=true->ino=((i+1:Nat):Int)->nd i 2=I L->0<=L->L<=16->nd i 11=I H->(by_ < -L->C (.fn 59) [.ptr T.a9 0,I ino,I by_] h=some (.ret (I 22),h))/\
   (16-L<by_->C (.fn 59) [.ptr T.a9 0,I ino,I by_] h=some (.ret (I 31),h))/\
   (-L<=by_->by_<=16-L->∃h' dg eh eU bl',C (.fn 59) [.ptr T.a9 0,I ino,I by_] h=some (.ret (I 0),h')/\bx h' T n N dg b now eh eU/\c1 n N dg eU bl'/\
     zM i (L+by_) H wd dg us eh (cT (cT nd i 2 (I (L+by_))) i 10 (I now)) eU bl bl'/\aG h h' (λj=>j=T.bO\/j=T.aJ)))
theorem aql{C:ad}(fh:l3 C)(Fr:B8 C){by_:Int}(A:bx h T n N wd b now us nd)(M:c1 n N wd nd bl)(cb: -9223372036854775808<=ino)(cV:ino<9223372036854775808):
 (c8 N us ino=false->xX C lf (.ptr T.a9 0) (I ino) (I by_) h=some (.ret (I 2),h))/\
 (∀i L H,i<N->us i=true->ino=((i+1:Nat):Int)->nd i 2=I L->0<=L->L<=16->nd i 11=I H->(by_ < -L->xX C lf (.ptr T.a9 0) (I ino) (I by_) h=some (.ret (I 22),h))/\
   (16-L<by_->xX C lf (.ptr T.a9 0) (I ino) (I by_) h=some (.ret (I 31),h))/\
   (-L<=by_->by_<=16-L->∃h' dg eh eU bl',xX C lf (.ptr T.a9 0) (I ino) (I by_) h=some (.ret (I 0),h')/\bx h' T n N dg b now eh eU/\c1 n N dg eU bl'/\
     zM i (L+by_) H wd dg us eh (cT (cT nd i 2 (I (L+by_))) i 10 (I now)) eU bl bl'/\aG h h' (λj=>j=T.bO\/j=T.aJ))):=by
 have d2:decide ((2:Int)≠0)=true:=rfl;have d0:decide ((0:Int)≠0)=false:=rfl;unfold xX Ug Oo;refine⟨λag=>?_,λi L H hi hu e h8 anU anV iJ=>?_⟩
 ·simp only[aE,s9 fh A cb cV ag,List.getElem?_cons_zero,List.getElem?_cons_succ,d2]
 ·subst e;have ae:=A.ef i 2 hi (by omega);rw[h8] at ae;have aA:i*308+1+1=i*308+2:=rfl;have jV:i*308+1+9=i*308+10:=rfl;have cN:IntKind.i64.wrap (-L)= -L:=by rw[wrap_i64 (by omega) (by omega)]
  have cy:IntKind.i64.wrap (16-L)=16-L:=by rw[wrap_i64 (by omega) (by omega)]
  refine⟨λh1=>?_,λh1=>?_,λh1 h2=>?_⟩
  ·simp only[aE,ta fh A hi hu,List.getElem?_cons_zero,List.getElem?_cons_succ,d0,aA,ae,BS,cN,bu h1]
  ·have h0:decide (by_ < -L)=false:=br (by omega);simp only[aE,ta fh A hi hu,List.getElem?_cons_zero,List.getElem?_cons_succ,d0,aA,ae,BS,cN,cy,h0,bu h1]
  ·have h0:decide (by_ < -L)=false:=br (by omega);have h3:decide (16-L<by_)=false:=br (by omega);have fp:IntKind.i64.wrap (L+by_)=L+by_:=by rw[wrap_i64 (by omega) (by omega)]
   obtain⟨g1,s1,b0,cH,aM⟩:=q8 A hi (c:=2) (by omega) (by omega) (L+by_);obtain⟨g2,s2,dk,cA,bD⟩:=q8 b0 hi (c:=10) (by omega) (by omega) now;obtain⟨g3,dg,eh,eU,bl',cr,fg,Mj,L9,dd⟩:=aaf Fr dk ((M.kZ (by omega)).kZ (by omega)) hi (L:=L+by_) (H:=H) (by rw[ho _ _ (by omega),mU]) (by rw[ho _ _ (by omega),ho _ _ (by omega)];exact iJ);refine⟨g3,dg,eh,eU,bl',?_,fg,Mj,L9,((aM.trans bD).ek λ_ e=> .inr e).trans dd⟩;simp only[aE,ta fh A hi hu,List.getElem?_cons_zero,List.getElem?_cons_succ,d0,aA,jV,ae,BS,cN,cy,fp,h0,h3,s1,b0.a2,s2,cr]
def xw(C:ad):Prop:=∀h T n N wd b now us nd bl (ino:Int),bx h T n N wd b now us nd->c1 n N wd nd bl-> -9223372036854775808<=ino->ino<9223372036854775808->
 (c8 N us ino=false->C (.fn 51) [.ptr T.a9 0,I ino] h=some (.ret (.bm [.val (.slice none 0 0),I 2]),h))/\
 (∀i,i<N->us i=true->ino=((i+1:Nat):Int)->∃x h',C (.fn 51) [.ptr T.a9 0,I ino] h=some (.ret (.bm [x,I 0]),h')/\eN h h' x (lj bl i)/\aG h h' (λ_=>False))
theorem aC0{C:ad}(fh:l3 C)(oc:Gg C)(A:bx h T n N wd b now us nd)(M:c1 n N wd nd bl)(cb: -9223372036854775808<=ino)(cV:ino<9223372036854775808):
 (c8 N us ino=false->CY C lf (.ptr T.a9 0) (I ino) h=some (.ret (.bm [.val (.slice none 0 0),I 2]),h))/\
 (∀i,i<N->us i=true->ino=((i+1:Nat):Int)->∃x h',CY C lf (.ptr T.a9 0) (I ino) h=some (.ret (.bm [x,I 0]),h')/\eN h h' x (lj bl i)/\aG h h' (λ_=>False)):=by
 have d2:decide ((2:Int)≠0)=true:=rfl;have d0:decide ((0:Int)≠0)=false:=rfl;unfold CY TQ Ok;refine⟨λag=>?_,λi hi hu e=>?_⟩
 ·simp only[aE,s9 fh A cb cV ag,List.getElem?_cons_zero,List.getElem?_cons_succ,d2]
 ·subst e;obtain⟨x,h1,aS,qa,aM⟩:=oc h T n N wd b now us nd bl i A M hi;refine⟨x,h1,?_,qa,aM⟩;simp only[aE,ta fh A hi hu,List.getElem?_cons_zero,List.getElem?_cons_succ,d0,aS]
end
noncomputable section
variable{C:ad}{lf:Nat}{bb a5 eB fl jM kK qJ qK qL qM qN qO qG qH qI:hc}{ao:kU}
def ma:ca aw:=dn 88 Tryd.f88 Tryd.func88 (by kernel_rfl)
noncomputable def Am(aP x9:O)(h:U):ab:=
 ob aP λa=>ob x9 λb=>some (.ret (.bm [a,b]),h)
def KH(C:ad)(lf:Nat)(r:aU)(aX:O)(h:U):ab:=
 ob aX λa=>r (some a) (bG 0) h
theorem ayg{r:aU}:∀F h,au ma C lf [1,1,1,1,1,1] F h bb (a8 r 8 9) ao=aR (KH C lf r) 10 F h:=by
 intro F h;kernel_rfl
def VN(C:ad)(lf:Nat)(n:dy)(x0 x1 x3 aX x11 bW:O)(h:U):ab:=
 cC .add 3 bW (I 1) λa=>n x0 x1 x3 aX x11 (some a) h
noncomputable def VG(C:ad)(lf:Nat)(n:dy)(x0 x1 x3 aX x11 bW FL:O)(h:U):ab:=
 ob aX λa=>ob FL λb=>b2 (ib aw 24 1 [0] [b] h) λb k=>b2 (gk aw .append #[24,24] [a,b] k) λa=>n x0 x1 x3 (some a) x11 bW
def age(C:ad)(lf:Nat)(n:kb)(x0 x1 x3 aX x11 bW ey FL:O)(h:U):ab:=
 gJ .gtr 3 ey (I 0) (fU 0 x0 λa=>eJ 1 a h λa=>cC .sub 3 ey (I 1) λb=>ob (dS 1 a b) λa=>ob (bZ a h) λa=>cC .rem 3 bW (I 64) λb=>ob (dS 1 a b) λa=>ob (bZ a h) λa=>n x0 x1 x3 aX x11 bW (some a) h) (n x0 x1 x3 aX x11 bW FL h)
def VH(C:ad)(lf:Nat)(n:dy)(x0 x1 x3 aX x11 bW ey FL:O)(h:U):ab:=
 age C lf (VG C lf n) x0 x1 x3 aX x11 bW ey FL h
noncomputable def ayf(C:ad)(lf:Nat)(n:xo)(x0 x1 x3 aX x11 bW ey:O)(h:U):ab:=
 n x0 x1 x3 aX x11 bW ey (some (.int .u8 0)) h
def agf(C:ad)(lf:Nat)(n:dy)(x0 x1 x3 aX x11 bW ey:O)(h:U):ab:=
 ayf C lf (VH C lf n) x0 x1 x3 aX x11 bW ey h
def agh(C:ad)(lf:Nat)(n:kb)(x0 x1 x3 aX x11 bW:O)(h:U):ab:=
 dE 4 x0 h λa=>ob x1 λb=>cC .quo 3 bW (I 64) λc=>ob (dS 308 a b) λa=>ob (b6 12 a) λa=>ob (ev 278 1 a c) λa=>ob (bZ a h) λa=>n x0 x1 x3 aX x11 bW (some a) h
def agi(C:ad)(lf:Nat)(n:dy)(x0 x1 x3 aX x11 bW:O)(h:U):ab:=
 agh C lf (agf C lf n) x0 x1 x3 aX x11 bW h
def VI(C:ad)(lf:Nat)(n:dy)(x0 x1 x3 aX x11 bW:O)(h:U):ab:=
 agi C lf (VN C lf n) x0 x1 x3 aX x11 bW h
def VJ(C:ad)(lf:Nat)(n:dy)(av:ay)(x0 x1 x3 aX x11 bW:O)(h:U):ab:=
 n5 .lss 3 bW x11 λa=>b8 a aX h λb k=>b8 a (eE aw 24 b) k λb k=>b8 a x3 k λc k=>b8 a (bin aw .lss 3 b c) k λb k=>p4 a b (n x0 x1 x3 aX x11 bW k) (av aX k)
def E4(C:ad)(lf:Nat)(n:dy)(av:ay)(x0 x1 x3 aX x11 bW:O)(h:U):ab:=
 VJ C lf (VI C lf n) av x0 x1 x3 aX x11 bW h
theorem ayh{n:dy}{av:ay}:∀F h,au ma C lf [1,1,1,1,1,0,1,0,0] F h (dY n 0 1 3 10 11 12) a5 (bM 0 (aR av 10) ao)=dY (E4 C lf n av) 0 1 3 10 11 12 F h:=by
 intro F h;kernel_rfl
def yP(C:ad)(lf:Nat)(av:ay)(k:O×O×O×O×O×O->U->ab)(s:O×O×O×O×O×O)(h:U):ab:=
 E4 C lf (λa b c d g i=>k (a,b,c,d,g,i)) av s.1 s.2.1 s.2.2.1 s.2.2.2.1 s.2.2.2.2.1 s.2.2.2.2.2 h
noncomputable def VK(C:ad)(lf:Nat)(n:dy)(x0 x1 x2 x3 aX x11:O)(h:U):ab:=
 ob x2 λa=>n x0 x1 x3 aX x11 (some a) h
theorem ayi{n:dy}:∀F h,au ma C lf [1,1,1,1,1,0,0] F h (dY n 0 1 3 10 11 12) a5 ao=dY (VK C lf n) 0 1 2 3 10 11 F h:=by
 intro F h;kernel_rfl
def VL(C:ad)(lf:Nat)(n:ay)(x0 x1 x2 x3 aX x11:O)(h:U):ab:=
 VK C lf (λa b c d g i=>bq (yP C lf n) lf (a,b,c,d,g,i)) x0 x1 x2 x3 aX x11 h
theorem ayj{n:ay}:∀F h,au ma C lf [1,1,1,1,1,0] F h (aR n 10) a5 ao=dY (VL C lf n) 0 1 2 3 10 11 F h:=bn (b:=cc ma [1,1,1,1,1,0,1]) (by kernel_rfl) (gm (id:=0) (a:=cc ma [1,1,1,1,1,0,1,0]) (by kernel_rfl) (hg (g:=λF=>(F 0,F 1,F 3,F 10,F 11,F 12)) (body:=yP C lf n) (by kernel_rfl) (λk=>(ayh (n:=λx0 x1 x3 aX x11 bW h=>k (x0,x1,x3,aX,x11,bW) h))))) (ayi (n:=λx0 x1 x3 aX x11 bW h=>bq (yP C lf n) lf (x0,x1,x3,aX,x11,bW) h))
def VM(C:ad)(lf:Nat)(r:aU)(x0 x1 x2 x3 aX x11:O)(h:U):ab:=
 VL C lf (KH C lf r) x0 x1 x2 x3 aX x11 h
theorem ayk{r:aU}:∀F h,au ma C lf [1,1,1,1,1] F h bb (a8 r 8 9) ao=dY (VM C lf r) 0 1 2 3 10 11 F h:=bn (by kernel_rfl) ayg ayj
def VO(C:ad)(lf:Nat)(n:dy)(x0 x1 x2 x3 aX:O)(h:U):ab:=
 dE 4 x0 h λa=>lR 308 a x1 λa=>ob (b6 1 a) λa=>eJ 4 a h λa=>n x0 x1 x2 x3 aX (some a) h
theorem ayl{n:dy}:∀F h,au ma C lf [1,1,1,1,0] F h (dY n 0 1 2 3 10 11) a5 ao=dj (VO C lf n) 0 1 2 3 10 F h:=by
 intro F h;kernel_rfl
def KI(C:ad)(lf:Nat)(r:aU)(x0 x1 x2 x3 aX:O)(h:U):ab:=
 VO C lf (VM C lf r) x0 x1 x2 x3 aX h
theorem aym{r:aU}:∀F h,au ma C lf [1,1,1,1] F h bb (a8 r 8 9) ao=dj (KI C lf r) 0 1 2 3 10 F h:=bn (by kernel_rfl) ayk ayl
noncomputable def agj(C:ad)(lf:Nat)(n:cY)(x0 x1 x2 x3:O)(h:U):ab:=
 n x0 x1 x2 x3 (some (.val (.slice none 0 0))) h
theorem ayn{n:cY}:∀F h,au ma C lf [1,1,1,0] F h (dj n 0 1 2 3 10) a5 ao=bp (agj C lf n) 0 1 2 3 F h:=by
 intro F h;kernel_rfl
def VP(C:ad)(lf:Nat)(r:aU)(x0 x1 x2 x3:O)(h:U):ab:=
 agj C lf (KI C lf r) x0 x1 x2 x3 h
theorem ayo{r:aU}:∀F h,au ma C lf [1,1,1] F h bb (a8 r 8 9) ao=bp (VP C lf r) 0 1 2 3 F h:=bn (by kernel_rfl) aym ayn
def VQ(C:ad)(lf:Nat)(n:bt)(r:aU)(x0 x1 x2 x3:O)(h:U):ab:=
 cC .lss 3 x2 (I 0) λa=>jr .lss 3 a x3 (I 0) h λb k=>nn a b (r (some (.val (.slice none 0 0))) (bG 22) k) (n x0 x1 x2 x3 k)
theorem ayp{n:bt}{r:aU}:∀F h,au ma C lf [1,1,0] F h (bp n 0 1 2 3) (a8 r 8 9) ao=bp (VQ C lf n r) 0 1 2 3 F h:=by
 intro F h;kernel_rfl
def KJ(C:ad)(lf:Nat)(r:aU)(x0 x1 x2 x3:O)(h:U):ab:=
 VQ C lf (VP C lf r) r x0 x1 x2 x3 h
theorem ayq{r:aU}:∀F h,au ma C lf [1,1] F h bb (a8 r 8 9) ao=bp (KJ C lf r) 0 1 2 3 F h:=bn (by kernel_rfl) ayo ayp
def KK(C:ad)(lf:Nat)(n:bt)(r:aU)(x0 x1 x2 x3:O)(h:U):ab:=
 a2 C 104 x0 x1 h λa k=>gj a (r (some (.val (.slice none 0 0))) (bG 2) k) (n x0 x1 x2 x3 k)
theorem ayr{n:bt}{r:aU}:∀F h,au ma C lf [1,0] F h (bp n 0 1 2 3) (a8 r 8 9) ao=bp (KK C lf n r) 0 1 2 3 F h:=by
 intro F h;kernel_rfl
def agk(C:ad)(lf:Nat)(r:aU)(x0 x1 x2 x3:O)(h:U):ab:=
 KK C lf (KJ C lf r) r x0 x1 x2 x3 h
theorem ays{r:aU}:∀F h,au ma C lf [1] F h bb (a8 r 8 9) ao=bp (agk C lf r) 0 1 2 3 F h:=bn (by kernel_rfl) ayq ayr
noncomputable def agl(C:ad)(lf:Nat)(n:bt)(x0 x1 x2 x3:O)(h:U):ab:=
 n x0 x1 x2 x3 h
theorem ayt{n:bt}:∀F h,au ma C lf [0] F h (bp n 0 1 2 3) a5 ao=bp (agl C lf n) 0 1 2 3 F h:=by
 intro F h;kernel_rfl
def VR(C:ad)(lf:Nat)(r:aU)(x0 x1 x2 x3:O)(h:U):ab:=
 agl C lf (agk C lf r) x0 x1 x2 x3 h
theorem ayu{r:aU}:∀F h,au ma C lf [] F h bb (a8 r 8 9) ao=bp (VR C lf r) 0 1 2 3 F h:=bn (by kernel_rfl) ays ayt
def Aw(C:ad)(lf:Nat)(aj ak aD a7:J)(h:U):ab:=VR C lf Am (some aj) (some ak) (some aD) (some a7) h
def ab3:cx aw:=ry ma Aw (λC lf aj ak aD a7 h=>cZ (K:=(a8 Am 8 9)) (by kernel_rfl) (Eq.trans (ayu _ h) (by kernel_rfl))) (by kernel_rfl)
def k3:ca aw:=dn 94 Tryd.f94 Tryd.func94 (by kernel_rfl)
noncomputable def pA(aP x9:O)(h:U):ab:=
 ob aP λa=>ob x9 λb=>some (.ret (.bm [a,b]),h)
def V2(C:ad)(lf:Nat)(r:aU)(x0 aX x11:O)(h:U):ab:=
 ob aX λa=>ob aX λb=>dE 3 x0 h λc=>dE 3 x0 h λd=>eg 1 a λa=>ob (b6 8 a) λa=>ob (st 1 a c h) λk=>eg 1 b λa=>ob (b6 9 a) λa=>ob (st 1 a d k) λk=>ob x11 λa=>r (some a) (bG 0) k
def ago(C:ad)(lf:Nat)(n:bI)(x0 x2 aX x11:O)(h:U):ab:=
 n5 .add 3 x2 x11 λa=>fU 1 aX λb=>eJ 4 b h λb=>eF .gtr 3 a b (ob aX λa=>n5 .add 3 x2 x11 λb=>eg 1 a λa=>ob (b6 4 a) λa=>ob (st 1 a b h) (n x0 aX x11)) (n x0 aX x11 h)
def agp(C:ad)(lf:Nat)(r:aU)(x0 x2 aX x11:O)(h:U):ab:=
 ago C lf (V2 C lf r) x0 x2 aX x11 h
def V3(C:ad)(lf:Nat)(n:bt)(r:aU)(x0 x2 aX x11:O)(h:U):ab:=
 gJ .eql 3 x11 (I 0) (r (bG 0) (bG 28) h) (n x0 x2 aX x11 h)
def wN(C:ad)(lf:Nat)(r:aU)(x0 x2 aX x11:O)(h:U):ab:=
 V3 C lf (agp C lf r) r x0 x2 aX x11 h
theorem ayQ{r:aU}:∀F h,au k3 C lf [1,1,1,1,1,1,1,1] F h bb (a8 r 8 9) ao=bp (wN C lf r) 0 2 10 11 F h:=by
 intro F h;kernel_rfl
def uZ(C:ad)(lf:Nat)(n:dy)(av:bt)(x0 x1 x2 x3 aX x11:O)(h:U):ab:=
 ob x11 λa=>ni 24 x3 λb=>cl .lss 3 a b λa=>b8 a x2 h λb k=>b8 a x11 k λc k=>jc .lss 3 a (bin aw .add 3 b c) (I 17792) k λb k=>p4 a b (ob x0 λa=>ob x1 λb=>n5 .add 3 x2 x11 λc=>cl .quo 3 c (I 64) λc=>cS C 106 [a,b,c] k λa k=>gj a (av x0 x2 aX x11 k) (ob aX λa=>n5 .add 3 x2 x11 λb=>cl .quo 3 b (I 64) λb=>eg 12 a λa=>ob (ev 278 1 a b) λa=>ob (bZ a k) λa=>cl .sub 3 a (I 1) λa=>fU 0 x0 λb=>eJ 1 b k λb=>ob (dS 1 b a) λa=>ob (bZ a k) λa=>n5 .add 3 x2 x11 λb=>cl .rem 3 b (I 64) λb=>ob x3 λc=>tH 1 c x11 k λc=>ob (dS 1 a b) λa=>ob (st 1 a c k) λk=>cC .add 3 x11 (I 1) λa=>n x0 x1 x2 x3 aX (some a) k)) (av x0 x2 aX x11 k)
theorem ayR{n:dy}{av:bt}:∀F h,au k3 C lf [1,1,1,1,1,1,1,0,0,0] F h (dY n 0 1 2 3 10 11) a5 (bM 0 (bp av 0 2 10 11) ao)=dY (uZ C lf n av) 0 1 2 3 10 11 F h:=by
 intro F h;kernel_rfl
def yQ(C:ad)(lf:Nat)(av:bt)(k:O×O×O×O×O×O->U->ab)(s:O×O×O×O×O×O)(h:U):ab:=
 uZ C lf (λa b c d g i=>k (a,b,c,d,g,i)) av s.1 s.2.1 s.2.2.1 s.2.2.2.1 s.2.2.2.2.1 s.2.2.2.2.2 h
def KP(C:ad)(lf:Nat)(r:aU)(x0 x1 x2 x3 aX x11:O)(h:U):ab:=
 bq (yQ C lf (wN C lf r)) lf (x0,x1,x2,x3,aX,x11) h
theorem ayS{r:aU}:∀F h,au k3 C lf [1,1,1,1,1,1,1] F h bb (a8 r 8 9) ao=dY (KP C lf r) 0 1 2 3 10 11 F h:=bn (a:=cc k3 [1,1,1,1,1,1,1,0]) (by kernel_rfl) ayQ (gm (id:=0) (a:=cc k3 [1,1,1,1,1,1,1,0,0]) (by kernel_rfl) (hg (g:=λF=>(F 0,F 1,F 2,F 3,F 10,F 11)) (body:=yQ C lf (λx0 x2 aX x11 h=>wN C lf r x0 x2 aX x11 h)) (by kernel_rfl) (λk=>(ayR (n:=λx0 x1 x2 x3 aX x11 h=>k (x0,x1,x2,x3,aX,x11) h)))))
def agq(C:ad)(lf:Nat)(n:dy)(x0 x1 x2 x3 aX:O)(h:U):ab:=
 n x0 x1 x2 x3 aX (bG 0) h
theorem ayT{n:dy}:∀F h,au k3 C lf [1,1,1,1,1,1,0] F h (dY n 0 1 2 3 10 11) a5 ao=dj (agq C lf n) 0 1 2 3 10 F h:=by
 intro F h;kernel_rfl
def V4(C:ad)(lf:Nat)(r:aU)(x0 x1 x2 x3 aX:O)(h:U):ab:=
 agq C lf (KP C lf r) x0 x1 x2 x3 aX h
theorem ayU{r:aU}:∀F h,au k3 C lf [1,1,1,1,1,1] F h bb (a8 r 8 9) ao=dj (V4 C lf r) 0 1 2 3 10 F h:=bn (by kernel_rfl) ayS ayT
def VZ(C:ad)(lf:Nat)(n:cY)(x0 x1 x2 x3:O)(h:U):ab:=
 dE 4 x0 h λa=>lR 308 a x1 λa=>n x0 x1 x2 x3 (some a) h
theorem ayE{n:cY}:∀F h,au k3 C lf [1,1,1,1,1,0] F h (dj n 0 1 2 3 10) a5 ao=bp (VZ C lf n) 0 1 2 3 F h:=by
 intro F h;kernel_rfl
def V0(C:ad)(lf:Nat)(r:aU)(x0 x1 x2 x3:O)(h:U):ab:=
 VZ C lf (V4 C lf r) x0 x1 x2 x3 h
theorem ayF{r:aU}:∀F h,au k3 C lf [1,1,1,1,1] F h bb (a8 r 8 9) ao=bp (V0 C lf r) 0 1 2 3 F h:=bn (by kernel_rfl) ayU ayE
def KL(C:ad)(lf:Nat)(n:bt)(r:aU)(x0 x1 x2 x3:O)(h:U):ab:=
 gJ .geq 3 x2 (I 17792) (r (bG 0) (bG 27) h) (n x0 x1 x2 x3 h)
theorem ayG{n:bt}{r:aU}:∀F h,au k3 C lf [1,1,1,1,0] F h (bp n 0 1 2 3) (a8 r 8 9) ao=bp (KL C lf n r) 0 1 2 3 F h:=by
 intro F h;kernel_rfl
def KM(C:ad)(lf:Nat)(r:aU)(x0 x1 x2 x3:O)(h:U):ab:=
 KL C lf (V0 C lf r) r x0 x1 x2 x3 h
theorem ayH{r:aU}:∀F h,au k3 C lf [1,1,1,1] F h bb (a8 r 8 9) ao=bp (KM C lf r) 0 1 2 3 F h:=bn (by kernel_rfl) ayF ayG
def E7(C:ad)(lf:Nat)(n:bt)(r:aU)(x0 x1 x2 x3:O)(h:U):ab:=
 ni 24 x3 λa=>eF .eql 3 a (I 0) (r (bG 0) (bG 0) h) (n x0 x1 x2 x3 h)
theorem ayI{n:bt}{r:aU}:∀F h,au k3 C lf [1,1,1,0] F h (bp n 0 1 2 3) (a8 r 8 9) ao=bp (E7 C lf n r) 0 1 2 3 F h:=by
 intro F h;kernel_rfl
def BF(C:ad)(lf:Nat)(r:aU)(x0 x1 x2 x3:O)(h:U):ab:=
 E7 C lf (KM C lf r) r x0 x1 x2 x3 h
theorem ayJ{r:aU}:∀F h,au k3 C lf [1,1,1] F h bb (a8 r 8 9) ao=bp (BF C lf r) 0 1 2 3 F h:=bn (by kernel_rfl) ayH ayI
def BG(C:ad)(lf:Nat)(n:bt)(r:aU)(x0 x1 x2 x3:O)(h:U):ab:=
 gJ .lss 3 x2 (I 0) (r (bG 0) (bG 22) h) (n x0 x1 x2 x3 h)
theorem ayK{n:bt}{r:aU}:∀F h,au k3 C lf [1,1,0] F h (bp n 0 1 2 3) (a8 r 8 9) ao=bp (BG C lf n r) 0 1 2 3 F h:=by
 intro F h;kernel_rfl
def KN(C:ad)(lf:Nat)(r:aU)(x0 x1 x2 x3:O)(h:U):ab:=
 BG C lf (BF C lf r) r x0 x1 x2 x3 h
theorem ayL{r:aU}:∀F h,au k3 C lf [1,1] F h bb (a8 r 8 9) ao=bp (KN C lf r) 0 1 2 3 F h:=bn (by kernel_rfl) ayJ ayK
def KO(C:ad)(lf:Nat)(n:bt)(r:aU)(x0 x1 x2 x3:O)(h:U):ab:=
 a2 C 104 x0 x1 h λa k=>gj a (r (bG 0) (bG 2) k) (n x0 x1 x2 x3 k)
theorem ayM{n:bt}{r:aU}:∀F h,au k3 C lf [1,0] F h (bp n 0 1 2 3) (a8 r 8 9) ao=bp (KO C lf n r) 0 1 2 3 F h:=by
 intro F h;kernel_rfl
def agm(C:ad)(lf:Nat)(r:aU)(x0 x1 x2 x3:O)(h:U):ab:=
 KO C lf (KN C lf r) r x0 x1 x2 x3 h
theorem ayN{r:aU}:∀F h,au k3 C lf [1] F h bb (a8 r 8 9) ao=bp (agm C lf r) 0 1 2 3 F h:=bn (by kernel_rfl) ayL ayM
noncomputable def agn(C:ad)(lf:Nat)(n:bt)(x0 x1 x2 x3:O)(h:U):ab:=
 n x0 x1 x2 x3 h
theorem ayO{n:bt}:∀F h,au k3 C lf [0] F h (bp n 0 1 2 3) a5 ao=bp (agn C lf n) 0 1 2 3 F h:=by
 intro F h;kernel_rfl
def V1(C:ad)(lf:Nat)(r:aU)(x0 x1 x2 x3:O)(h:U):ab:=
 agn C lf (agm C lf r) x0 x1 x2 x3 h
theorem ayP{r:aU}:∀F h,au k3 C lf [] F h bb (a8 r 8 9) ao=bp (V1 C lf r) 0 1 2 3 F h:=bn (by kernel_rfl) ayN ayO
def vS(C:ad)(lf:Nat)(aj ak aD a7:J)(h:U):ab:=V1 C lf pA (some aj) (some ak) (some aD) (some a7) h
def ab9:cx aw:=ry k3 vS (λC lf aj ak aD a7 h=>cZ (K:=(a8 pA 8 9)) (by kernel_rfl) (Eq.trans (ayP _ h) (by kernel_rfl))) (by kernel_rfl)
def Az:ca aw:=dn 95 Tryd.f95 Tryd.func95 (by kernel_rfl)
noncomputable def CN(h:U):ab:=
 some (.ret (.bm []),h)
def BH(C:ad)(lf:Nat)(n:bI)(av:cu)(x0 bC eC:O)(h:U):ab:=
 mr .lss 3 eC bC (ob eC λa=>ob x0 λb=>ob (dS 1 b a) λa=>ob (st 1 a (.int .u8 99) h) λk=>cC .add 3 eC (I 1) λa=>n x0 bC (some a) k) (av h)
theorem ayV{n:bI}{av:cu}:∀F h,au Az C lf [1,0,0] F h (bE n 0 4 5) a5 (bM 0 (ee av) ao)=bE (BH C lf n av) 0 4 5 F h:=by
 intro F h;kernel_rfl
def yR(C:ad)(lf:Nat)(av:cu)(k:O×O×O->U->ab)(s:O×O×O)(h:U):ab:=
 BH C lf (λa b c=>k (a,b,c)) av s.1 s.2.1 s.2.2 h
def V5(C:ad)(lf:Nat)(n:bI)(x0:O)(h:U):ab:=
 ni 24 x0 λa=>n x0 (some a) (bG 0) h
theorem ayW{n:bI}:∀F h,au Az C lf [0] F h (bE n 0 4 5) a5 ao=aR (V5 C lf n) 0 F h:=by
 intro F h;kernel_rfl
def V6(C:ad)(lf:Nat)(n:cu)(x0:O)(h:U):ab:=
 V5 C lf (λa b c=>bq (yR C lf n) lf (a,b,c)) x0 h
theorem ayX{n:cu}:∀F h,au Az C lf [] F h (ee n) a5 ao=aR (V6 C lf n) 0 F h:=bn (b:=cc Az [1]) (by kernel_rfl) (gm (id:=0) (a:=cc Az [1,0]) (by kernel_rfl) (hg (g:=λF=>(F 0,F 4,F 5)) (body:=yR C lf n) (by kernel_rfl) (λk=>(ayV (n:=λx0 bC eC h=>k (x0,bC,eC) h))))) (ayW (n:=λx0 bC eC h=>bq (yR C lf n) lf (x0,bC,eC) h))
def Io(C:ad)(lf:Nat)(aj:J)(h:U):ab:=V6 C lf CN (some aj) h
def aca:cx aw:=iX Az Io (λC lf aj h=>cZ (K:=(ee CN)) (by kernel_rfl) (Eq.trans (ayX _ h) (by kernel_rfl))) (by kernel_rfl)
def jb:ca aw:=dn 96 Tryd.f96 Tryd.func96 (by kernel_rfl)
noncomputable def qm(aF:O)(h:U):ab:=
 ob aF λa=>some (.ret a,h)
def zi(C:ad)(lf:Nat)(r:ay)(x0 x2 x7:O)(h:U):ab:=
 ob x7 λa=>ob x2 λb=>eg 1 a λa=>ob (b6 4 a) λa=>ob (st 1 a b h) λk=>ob x7 λa=>ob x7 λb=>dE 3 x0 k λc=>dE 3 x0 k λd=>eg 1 a λa=>ob (b6 8 a) λa=>ob (st 1 a c k) λk=>eg 1 b λa=>ob (b6 9 a) λa=>ob (st 1 a d k) (r (bG 0))
theorem ay6{r:ay}:∀F h,au jb C lf [1,1,1,1,1,1,1] F h bb (aR r 6) ao=bE (zi C lf r) 0 2 7 F h:=by
 intro F h;kernel_rfl
def E9(C:ad)(lf:Nat)(n:cY)(av:bI)(x0 x2 x7 aP x9:O)(h:U):ab:=
 gJ .lss 3 x9 (I 64) (ob aP λa=>lR 1 a x9 λa=>ob (st 1 a (.int .u8 0) h) λk=>cC .add 3 x9 (I 1) λa=>n x0 x2 x7 aP (some a) k) (av x0 x2 x7 h)
theorem ay7{n:cY}{av:bI}:∀F h,au jb C lf [1,1,1,1,1,1,0,1,0,1,1,0,0] F h (dj n 0 2 7 8 9) a5 (bM 0 (bE av 0 2 7) ao)=dj (E9 C lf n av) 0 2 7 8 9 F h:=by
 intro F h;kernel_rfl
def Bi(C:ad)(lf:Nat)(av:bI)(k:O×O×O×O×O->U->ab)(s:O×O×O×O×O)(h:U):ab:=
 E9 C lf (λa b c d g=>k (a,b,c,d,g)) av s.1 s.2.1 s.2.2.1 s.2.2.2.1 s.2.2.2.2 h
def V9(C:ad)(lf:Nat)(n:cY)(x0 x2 x7 aP:O)(h:U):ab:=
 cC .rem 3 x2 (I 64) λa=>n x0 x2 x7 aP (some a) h
theorem ay8{n:cY}:∀F h,au jb C lf [1,1,1,1,1,1,0,1,0,1,0] F h (dj n 0 2 7 8 9) a5 ao=bp (V9 C lf n) 0 2 7 8 F h:=by
 intro F h;kernel_rfl
def Wa(C:ad)(lf:Nat)(n:bI)(x0 x2 x7 aP:O)(h:U):ab:=
 V9 C lf (λa b c d g=>bq (Bi C lf n) lf (a,b,c,d,g)) x0 x2 x7 aP h
theorem ay9{n:bI}:∀F h,au jb C lf [1,1,1,1,1,1,0,1,0,1] F h (bE n 0 2 7) a5 ao=bp (Wa C lf n) 0 2 7 8 F h:=bn (b:=cc jb [1,1,1,1,1,1,0,1,0,1,1]) (by kernel_rfl) (gm (id:=0) (a:=cc jb [1,1,1,1,1,1,0,1,0,1,1,0]) (by kernel_rfl) (hg (g:=λF=>(F 0,F 2,F 7,F 8,F 9)) (body:=Bi C lf n) (by kernel_rfl) (λk=>(ay7 (n:=λx0 x2 x7 aP x9 h=>k (x0,x2,x7,aP,x9) h))))) (ay8 (n:=λx0 x2 x7 aP x9 h=>bq (Bi C lf n) lf (x0,x2,x7,aP,x9) h))
def Wb(C:ad)(lf:Nat)(n:bt)(x0 x2 x7:O)(h:U):ab:=
 fU 0 x0 λa=>eJ 1 a h λa=>ob x7 λb=>cC .quo 3 x2 (I 64) λc=>eg 12 b λb=>ob (ev 278 1 b c) λb=>ob (bZ b h) λb=>cl .sub 3 b (I 1) λb=>ob (dS 1 a b) λa=>ob (bZ a h) λa=>n x0 x2 x7 (some a) h
theorem aza{n:bt}:∀F h,au jb C lf [1,1,1,1,1,1,0,1,0,0] F h (bp n 0 2 7 8) a5 ao=bE (Wb C lf n) 0 2 7 F h:=by
 intro F h;kernel_rfl
def Wc(C:ad)(lf:Nat)(n:bI)(x0 x2 x7:O)(h:U):ab:=
 Wb C lf (Wa C lf n) x0 x2 x7 h
theorem azb{n:bI}:∀F h,au jb C lf [1,1,1,1,1,1,0,1,0] F h (bE n 0 2 7) a5 ao=bE (Wc C lf n) 0 2 7 F h:=bn (by kernel_rfl) ay9 aza
noncomputable def Wd(C:ad)(lf:Nat)(n:bI)(x0 x2 x7:O)(h:U):ab:=
 n x0 x2 x7 h
theorem azc{n:bI}:∀F h,au jb C lf [1,1,1,1,1,1,0,1,1] F h (bE n 0 2 7) a5 ao=bE (Wd C lf n) 0 2 7 F h:=by
 intro F h;kernel_rfl
def BI(C:ad)(lf:Nat)(n:bI)(x0 x2 x7 Xg:O)(h:U):ab:=
 ob Xg λa=>fY a (Wc C lf n x0 x2 x7 h) (Wd C lf n x0 x2 x7 h)
theorem azd{n:bI}:∀F h,au jb C lf [1,1,1,1,1,1,0,1] F h (bE n 0 2 7) a5 ao=bp (BI C lf n) 0 2 7 43 F h:=ak3 (x:= .tmp 43) (by kernel_rfl) azb azc
def KT(C:ad)(lf:Nat)(n:bt)(x0 x2 x7:O)(h:U):ab:=
 cC .rem 3 x2 (I 64) λa=>cl .gtr 3 a (I 0) λa=>b8 a x7 h λb k=>jc .quo 3 a x2 (I 64) k λc k=>b8 a (ew b) k λb k=>b8 a (b6 12 b) k λb k=>b8 a (ev 278 1 b c) k λb k=>jc .gtr 3 a (bZ b k) (I 0) k λb k=>hz a b λa=>n x0 x2 x7 (some a) k
theorem aze{n:bt}:∀F h,au jb C lf [1,1,1,1,1,1,0,0] F h (bp n 0 2 7 43) a5 ao=bE (KT C lf n) 0 2 7 F h:=by
 intro F h;kernel_rfl
def We(C:ad)(lf:Nat)(n:bI)(x0 x2 x7:O)(h:U):ab:=
 KT C lf (BI C lf n) x0 x2 x7 h
theorem azf{n:bI}:∀F h,au jb C lf [1,1,1,1,1,1,0] F h (bE n 0 2 7) a5 ao=bE (We C lf n) 0 2 7 F h:=bn (by kernel_rfl) azd aze
def Wf(C:ad)(lf:Nat)(r:ay)(x0 x2 x7:O)(h:U):ab:=
 We C lf (zi C lf r) x0 x2 x7 h
theorem azg{r:ay}:∀F h,au jb C lf [1,1,1,1,1,1] F h bb (aR r 6) ao=bE (Wf C lf r) 0 2 7 F h:=bn (by kernel_rfl) ay6 azf
def Wg(C:ad)(lf:Nat)(n:bI)(x0 x1 x2 x7:O)(h:U):ab:=
 ob x0 λa=>ob x1 λb=>cC .add 3 x2 (I 64) λc=>cl .sub 3 c (I 1) λc=>cl .quo 3 c (I 64) λc=>cS C 107 [a,b,c] h λa=>n x0 x2 x7
theorem azh{n:bI}:∀F h,au jb C lf [1,1,1,1,1,0] F h (bE n 0 2 7) a5 ao=bp (Wg C lf n) 0 1 2 7 F h:=by
 intro F h;kernel_rfl
def Wh(C:ad)(lf:Nat)(r:ay)(x0 x1 x2 x7:O)(h:U):ab:=
 Wg C lf (Wf C lf r) x0 x1 x2 x7 h
theorem azi{r:ay}:∀F h,au jb C lf [1,1,1,1,1] F h bb (aR r 6) ao=bp (Wh C lf r) 0 1 2 7 F h:=bn (by kernel_rfl) azg azh
def Wi(C:ad)(lf:Nat)(n:bt)(x0 x1 x2:O)(h:U):ab:=
 dE 4 x0 h λa=>lR 308 a x1 λa=>n x0 x1 x2 (some a) h
theorem azj{n:bt}:∀F h,au jb C lf [1,1,1,1,0] F h (bp n 0 1 2 7) a5 ao=bE (Wi C lf n) 0 1 2 F h:=by
 intro F h;kernel_rfl
def Wj(C:ad)(lf:Nat)(r:ay)(x0 x1 x2:O)(h:U):ab:=
 Wi C lf (Wh C lf r) x0 x1 x2 h
theorem azk{r:ay}:∀F h,au jb C lf [1,1,1,1] F h bb (aR r 6) ao=bE (Wj C lf r) 0 1 2 F h:=bn (by kernel_rfl) azi azj
def KQ(C:ad)(lf:Nat)(n:bI)(r:ay)(x0 x1 x2:O)(h:U):ab:=
 gJ .gtr 3 x2 (I 17792) (r (bG 27) h) (n x0 x1 x2 h)
theorem ayY{n:bI}{r:ay}:∀F h,au jb C lf [1,1,1,0] F h (bE n 0 1 2) (aR r 6) ao=bE (KQ C lf n r) 0 1 2 F h:=by
 intro F h;kernel_rfl
def E8(C:ad)(lf:Nat)(r:ay)(x0 x1 x2:O)(h:U):ab:=
 KQ C lf (Wj C lf r) r x0 x1 x2 h
theorem ayZ{r:ay}:∀F h,au jb C lf [1,1,1] F h bb (aR r 6) ao=bE (E8 C lf r) 0 1 2 F h:=bn (by kernel_rfl) azk ayY
def V7(C:ad)(lf:Nat)(n:bI)(r:ay)(x0 x1 x2:O)(h:U):ab:=
 gJ .lss 3 x2 (I 0) (r (bG 22) h) (n x0 x1 x2 h)
theorem ay0{n:bI}{r:ay}:∀F h,au jb C lf [1,1,0] F h (bE n 0 1 2) (aR r 6) ao=bE (V7 C lf n r) 0 1 2 F h:=by
 intro F h;kernel_rfl
def KR(C:ad)(lf:Nat)(r:ay)(x0 x1 x2:O)(h:U):ab:=
 V7 C lf (E8 C lf r) r x0 x1 x2 h
theorem ay1{r:ay}:∀F h,au jb C lf [1,1] F h bb (aR r 6) ao=bE (KR C lf r) 0 1 2 F h:=bn (by kernel_rfl) ayZ ay0
def KS(C:ad)(lf:Nat)(n:bI)(r:ay)(x0 x1 x2:O)(h:U):ab:=
 a2 C 104 x0 x1 h λa k=>gj a (r (bG 2) k) (n x0 x1 x2 k)
theorem ay2{n:bI}{r:ay}:∀F h,au jb C lf [1,0] F h (bE n 0 1 2) (aR r 6) ao=bE (KS C lf n r) 0 1 2 F h:=by
 intro F h;kernel_rfl
def agr(C:ad)(lf:Nat)(r:ay)(x0 x1 x2:O)(h:U):ab:=
 KS C lf (KR C lf r) r x0 x1 x2 h
theorem ay3{r:ay}:∀F h,au jb C lf [1] F h bb (aR r 6) ao=bE (agr C lf r) 0 1 2 F h:=bn (by kernel_rfl) ay1 ay2
noncomputable def ags(C:ad)(lf:Nat)(n:bI)(x0 x1 x2:O)(h:U):ab:=
 n x0 x1 x2 h
theorem ay4{n:bI}:∀F h,au jb C lf [0] F h (bE n 0 1 2) a5 ao=bE (ags C lf n) 0 1 2 F h:=by
 intro F h;kernel_rfl
def V8(C:ad)(lf:Nat)(r:ay)(x0 x1 x2:O)(h:U):ab:=
 ags C lf (agr C lf r) x0 x1 x2 h
theorem ay5{r:ay}:∀F h,au jb C lf [] F h bb (aR r 6) ao=bE (V8 C lf r) 0 1 2 F h:=bn (by kernel_rfl) ay3 ay4
def xY(C:ad)(lf:Nat)(aj ak aD:J)(h:U):ab:=V8 C lf qm (some aj) (some ak) (some aD) h
def acb:cx aw:=nA jb xY (λC lf aj ak aD h=>cZ (K:=(aR qm 6)) (by kernel_rfl) (Eq.trans (ay5 _ h) (by kernel_rfl))) (by kernel_rfl)
def oC:ca aw:=dn 97 Tryd.f97 Tryd.func97 (by kernel_rfl)
noncomputable def xR(aP x9:O)(h:U):ab:=
 ob aP λa=>ob x9 λb=>some (.ret (.bm [a,b]),h)
def KU(C:ad)(lf:Nat)(r:aU)(h:U):ab:=
 r (bG 0) (bG 28) h
theorem azl{r:aU}:∀F h,au oC C lf [1,1,1,1] F h bb (a8 r 8 9) ao=ee (KU C lf r) F h:=by
 intro F h;kernel_rfl
def BJ(C:ad)(lf:Nat)(n:cY)(r:aU)(av:cu)(x0 x1 x2 x3 x11:O)(h:U):ab:=
 ob x11 λa=>dE 2 x0 h λb=>eF .leq 3 a b (dE 4 x0 h λa=>Jq 308 0 a x11 h λa=>gj a (dE 4 x0 h λa=>ob x11 λb=>ob x11 λc=>ob x2 λd=>ob x3 λg=>ob x1 λi=>dE 3 x0 h λj=>dE 3 x0 h λm=>dE 3 x0 h λo=>ob (hZ aw 78 [0,2,3,6,7,8,9] [c,d,g,i,j,m,o]) λc=>ob (hZ aw 156 [0,1] [.bool true,c]) λc=>ob (dS 308 a b) λa=>ob (st 308 a c h) λk=>ob x11 λa=>r (some a) (bG 0) k) (cC .add 3 x11 (I 1) λa=>n x0 x1 x2 x3 (some a) h)) (av h)
theorem azm{n:cY}{r:aU}{av:cu}:∀F h,au oC C lf [1,1,1,0,1,0,0] F h (dj n 0 1 2 3 11) (a8 r 8 9) (bM 0 (ee av) ao)=dj (BJ C lf n r av) 0 1 2 3 11 F h:=by
 intro F h;kernel_rfl
def r8(C:ad)(lf:Nat)(r:aU)(av:cu)(k:O×O×O×O×O->U->ab)(s:O×O×O×O×O)(h:U):ab:=
 BJ C lf (λa b c d g=>k (a,b,c,d,g)) r av s.1 s.2.1 s.2.2.1 s.2.2.2.1 s.2.2.2.2 h
def agt(C:ad)(lf:Nat)(n:cY)(x0 x1 x2 x3:O)(h:U):ab:=
 n x0 x1 x2 x3 (bG 1) h
theorem azn{n:cY}:∀F h,au oC C lf [1,1,1,0,0] F h (dj n 0 1 2 3 11) a5 ao=bp (agt C lf n) 0 1 2 3 F h:=by
 intro F h;kernel_rfl
def agu(C:ad)(lf:Nat)(n:cu)(r:aU)(x0 x1 x2 x3:O)(h:U):ab:=
 agt C lf (λa b c d g=>bq (r8 C lf r n) lf (a,b,c,d,g)) x0 x1 x2 x3 h
theorem azo{n:cu}{r:aU}:∀F h,au oC C lf [1,1,1,0] F h (ee n) (a8 r 8 9) ao=bp (agu C lf n r) 0 1 2 3 F h:=bn (b:=cc oC [1,1,1,0,1]) (by kernel_rfl) (gm (id:=0) (a:=cc oC [1,1,1,0,1,0]) (by kernel_rfl) (hg (g:=λF=>(F 0,F 1,F 2,F 3,F 11)) (body:=r8 C lf r n) (by kernel_rfl) (λk=>(azm (n:=λx0 x1 x2 x3 x11 h=>k (x0,x1,x2,x3,x11) h))))) (azn (n:=λx0 x1 x2 x3 x11 h=>bq (r8 C lf r n) lf (x0,x1,x2,x3,x11) h))
def Fa(C:ad)(lf:Nat)(r:aU)(x0 x1 x2 x3:O)(h:U):ab:=
 agu C lf (KU C lf r) r x0 x1 x2 x3 h
theorem azp{r:aU}:∀F h,au oC C lf [1,1,1] F h bb (a8 r 8 9) ao=bp (Fa C lf r) 0 1 2 3 F h:=bn (by kernel_rfl) azl azo
def Wk(C:ad)(lf:Nat)(n:bt)(r:aU)(x0 x1 x2 x3 aX:O)(h:U):ab:=
 cC .neq 68 aX (I 32768) λa=>jc .neq 68 a aX (I 16384) h λb k=>hz a b λa=>jc .neq 68 a aX (I 40960) k λb k=>hz a b λa=>dQ a x1 k λb k=>jr .and 68 a x1 (I 65535) k λc k=>dQ a (bin aw .neq 68 b c) k λb k=>ml a b λa=>jr .lss 68 a x1 (I 0) k λb k=>ml a b λa=>jr .lss 3 a x2 (I 0) k λb k=>ml a b λa=>jr .lss 3 a x3 (I 0) k λb k=>nn a b (r (bG 0) (bG 22) k) (n x0 x1 x2 x3 k)
theorem azq{n:bt}{r:aU}:∀F h,au oC C lf [1,1,0] F h (bp n 0 1 2 3) (a8 r 8 9) ao=dj (Wk C lf n r) 0 1 2 3 10 F h:=by
 intro F h;kernel_rfl
def KV(C:ad)(lf:Nat)(r:aU)(x0 x1 x2 x3 aX:O)(h:U):ab:=
 Wk C lf (Fa C lf r) r x0 x1 x2 x3 aX h
theorem azr{r:aU}:∀F h,au oC C lf [1,1] F h bb (a8 r 8 9) ao=dj (KV C lf r) 0 1 2 3 10 F h:=bn (by kernel_rfl) azp azq
def KW(C:ad)(lf:Nat)(n:cY)(x0 x1 x2 x3:O)(h:U):ab:=
 aS C 108 x1 h λa=>n x0 x1 x2 x3 (some a)
theorem azs{n:cY}:∀F h,au oC C lf [1,0] F h (dj n 0 1 2 3 10) a5 ao=bp (KW C lf n) 0 1 2 3 F h:=by
 intro F h;kernel_rfl
def agv(C:ad)(lf:Nat)(r:aU)(x0 x1 x2 x3:O)(h:U):ab:=
 KW C lf (KV C lf r) x0 x1 x2 x3 h
theorem azt{r:aU}:∀F h,au oC C lf [1] F h bb (a8 r 8 9) ao=bp (agv C lf r) 0 1 2 3 F h:=bn (by kernel_rfl) azr azs
noncomputable def agw(C:ad)(lf:Nat)(n:bt)(x0 x1 x2 x3:O)(h:U):ab:=
 n x0 x1 x2 x3 h
theorem azu{n:bt}:∀F h,au oC C lf [0] F h (bp n 0 1 2 3) a5 ao=bp (agw C lf n) 0 1 2 3 F h:=by
 intro F h;kernel_rfl
def Wl(C:ad)(lf:Nat)(r:aU)(x0 x1 x2 x3:O)(h:U):ab:=
 agw C lf (agv C lf r) x0 x1 x2 x3 h
theorem azv{r:aU}:∀F h,au oC C lf [] F h bb (a8 r 8 9) ao=bp (Wl C lf r) 0 1 2 3 F h:=bn (by kernel_rfl) azt azu
def vT(C:ad)(lf:Nat)(aj ak aD a7:J)(h:U):ab:=Wl C lf xR (some aj) (some ak) (some aD) (some a7) h
def acd:cx aw:=ry oC vT (λC lf aj ak aD a7 h=>cZ (K:=(a8 xR 8 9)) (by kernel_rfl) (Eq.trans (azv _ h) (by kernel_rfl))) (by kernel_rfl)
def aa7:ca aw:=dn 98 Tryd.f98 Tryd.func98 (by kernel_rfl)
noncomputable def OP(aF:O)(h:U):ab:=
 ob aF λa=>some (.ret a,h)
def Wm(C:ad)(lf:Nat)(r:ay)(x0 x1 x2:O)(h:U):ab:=
 a2 C 104 x0 x1 h λa k=>gj a (r (bG 2) k) (dE 4 x0 k λa=>lR 308 a x1 λa=>ob (b6 1 a) λa=>ob x2 λb=>tG 1 a k λc=>ob (h4 .neg c) λc=>eF .lss 3 b c (r (bG 22) k) (ob x2 λb=>tG 1 a k λc=>cl .sub 3 (I 16) c λc=>eF .gtr 3 b c (r (bG 31) k) (tG 1 a k λb=>y6 .add 3 b x2 λb=>uX 1 a b k λk=>dE 3 x0 k λb=>uX 9 a b k λk=>a2 C 109 x0 x1 k λa=>r (bG 0))))
theorem azw{r:ay}:∀F h,au aa7 C lf [] F h bb (aR r 6) ao=bE (Wm C lf r) 0 1 2 F h:=by
 intro F h;kernel_rfl
def xZ(C:ad)(lf:Nat)(aj ak aD:J)(h:U):ab:=Wm C lf OP (some aj) (some ak) (some aD) h
def ace:cx aw:=nA aa7 xZ (λC lf aj ak aD h=>cZ (K:=(aR OP 6)) (by kernel_rfl) (Eq.trans (azw _ h) (by kernel_rfl))) (by kernel_rfl)
def aa8:ca aw:=dn 99 Tryd.f99 Tryd.func99 (by kernel_rfl)
noncomputable def OQ(bC:O)(h:U):ab:=
 ob bC λa=>some (.ret a,h)
def Wn(C:ad)(lf:Nat)(r:ay)(x0 x1:O)(h:U):ab:=
 a2 C 104 x0 x1 h λa k=>gj a (r (bG 2) k) (dE 4 x0 k λa=>ob x1 λb=>ob (dS 308 a b) λc=>eJ 11 c k λc=>cl .add 3 c (I 1) λc=>ob (dS 308 a b) λa=>ob (b6 11 a) λa=>ob (st 1 a c k) (r (bG 0)))
theorem azx{r:ay}:∀F h,au aa8 C lf [] F h bb (aR r 4) ao=a8 (Wn C lf r) 0 1 F h:=by
 intro F h;kernel_rfl
def C8(C:ad)(lf:Nat)(aj ak:J)(h:U):ab:=Wn C lf OQ (some aj) (some ak) h
def acf:cx aw:=hd aa8 C8 (λC lf aj ak h=>cZ (K:=(aR OQ 4)) (by kernel_rfl) (Eq.trans (azx _ h) (by kernel_rfl))) (by kernel_rfl)
def aah:ca aw:=dn 100 Tryd.f100 Tryd.func100 (by kernel_rfl)
noncomputable def NV(bC:O)(h:U):ab:=
 ob bC λa=>some (.ret a,h)
def RD(C:ad)(lf:Nat)(r:ay)(x0 x1:O)(h:U):ab:=
 a2 C 104 x0 x1 h λa k=>gj a (r (bG 2) k) (dE 4 x0 k λa=>Jq 308 11 a x1 k λa=>eF .eql 3 a (I 0) (r (bG 22) k) (dE 4 x0 k λa=>ob x1 λb=>ob (dS 308 a b) λc=>eJ 11 c k λc=>cl .sub 3 c (I 1) λc=>ob (dS 308 a b) λa=>ob (b6 11 a) λa=>ob (st 1 a c k) λk=>a2 C 109 x0 x1 k λa=>r (bG 0)))
theorem arU{r:ay}:∀F h,au aah C lf [] F h bb (aR r 4) ao=a8 (RD C lf r) 0 1 F h:=by
 intro F h;kernel_rfl
def Aq(C:ad)(lf:Nat)(aj ak:J)(h:U):ab:=RD C lf NV (some aj) (some ak) h
def aa9:cx aw:=hd aah Aq (λC lf aj ak h=>cZ (K:=(aR NV 4)) (by kernel_rfl) (Eq.trans (arU _ h) (by kernel_rfl))) (by kernel_rfl)
end
noncomputable section
variable{C:ad}{lf:Nat}{bb a5 eB fl jM kK qJ qK qL qM qN qO qG qH qI:hc}{ao:kU}
def aai:ca aw:=dn 101 Tryd.f101 Tryd.func101 (by kernel_rfl)
noncomputable def NW(aF:O)(h:U):ab:=
 ob aF λa=>some (.ret a,h)
def RE(C:ad)(lf:Nat)(r:ay)(x0 x1 x2:O)(h:U):ab:=
 a2 C 104 x0 x1 h λa k=>gj a (r (bG 2) k) (dE 4 x0 k λa=>lR 308 a x1 λa=>ob (b6 1 a) λa=>tG 6 a k λb=>cS C 108 [b] k λb k=>cC .and 68 x2 (I 4095) λc=>cl .or 68 b c λb=>uX 6 a b k λk=>dE 3 x0 k λb=>eg 9 a λa=>ob (st 1 a b k) (r (bG 0)))
theorem arV{r:ay}:∀F h,au aai C lf [] F h bb (aR r 6) ao=bE (RE C lf r) 0 1 2 F h:=by
 intro F h;kernel_rfl
def CO(C:ad)(lf:Nat)(aj ak aD:J)(h:U):ab:=RE C lf NW (some aj) (some ak) (some aD) h
def aba:cx aw:=nA aai CO (λC lf aj ak aD h=>cZ (K:=(aR NW 6)) (by kernel_rfl) (Eq.trans (arV _ h) (by kernel_rfl))) (by kernel_rfl)
def vU:ca aw:=dn 102 Tryd.f102 Tryd.func102 (by kernel_rfl)
noncomputable def xO(aP:O)(h:U):ab:=
 ob aP λa=>some (.ret a,h)
def RN(C:ad)(lf:Nat)(r:ay)(x0 x9:O)(h:U):ab:=
 ob x9 λa=>dE 3 x0 h λb=>eg 9 a λa=>ob (st 1 a b h) (r (bG 0))
def afj(C:ad)(lf:Nat)(n:aU)(x0 x3 x9:O)(h:U):ab:=
 gJ .geq 3 x3 (I 0) (ob x9 λa=>ob x3 λb=>eg 3 a λa=>ob (st 1 a b h) (n x0 x9)) (n x0 x9 h)
def RF(C:ad)(lf:Nat)(r:ay)(x0 x3 x9:O)(h:U):ab:=
 afj C lf (RN C lf r) x0 x3 x9 h
def afk(C:ad)(lf:Nat)(n:bI)(x0 x2 x3 x9:O)(h:U):ab:=
 gJ .geq 3 x2 (I 0) (ob x9 λa=>ob x2 λb=>eg 2 a λa=>ob (st 1 a b h) (n x0 x3 x9)) (n x0 x3 x9 h)
def afl(C:ad)(lf:Nat)(r:ay)(x0 x2 x3 x9:O)(h:U):ab:=
 afk C lf (RF C lf r) x0 x2 x3 x9 h
def afm(C:ad)(lf:Nat)(n:bt)(x0 x1 x2 x3:O)(h:U):ab:=
 dE 4 x0 h λa=>lR 308 a x1 λa=>ob (b6 1 a) λa=>n x0 x2 x3 (some a) h
def RG(C:ad)(lf:Nat)(r:ay)(x0 x1 x2 x3:O)(h:U):ab:=
 afm C lf (afl C lf r) x0 x1 x2 x3 h
theorem arW{r:ay}:∀F h,au vU C lf [1,1,1] F h bb (aR r 8) ao=bp (RG C lf r) 0 1 2 3 F h:=by
 intro F h;kernel_rfl
def RH(C:ad)(lf:Nat)(n:bt)(r:ay)(x0 x1 x2 x3:O)(h:U):ab:=
 cC .lss 3 x2 (I (-1)) λa=>jr .lss 3 a x3 (I (-1)) h λb k=>nn a b (r (bG 22) k) (n x0 x1 x2 x3 k)
theorem arX{n:bt}{r:ay}:∀F h,au vU C lf [1,1,0] F h (bp n 0 1 2 3) (aR r 8) ao=bp (RH C lf n r) 0 1 2 3 F h:=by
 intro F h;kernel_rfl
def RI(C:ad)(lf:Nat)(r:ay)(x0 x1 x2 x3:O)(h:U):ab:=
 RH C lf (RG C lf r) r x0 x1 x2 x3 h
theorem arY{r:ay}:∀F h,au vU C lf [1,1] F h bb (aR r 8) ao=bp (RI C lf r) 0 1 2 3 F h:=bn (by kernel_rfl) arW arX
def RJ(C:ad)(lf:Nat)(n:bt)(r:ay)(x0 x1 x2 x3:O)(h:U):ab:=
 a2 C 104 x0 x1 h λa k=>gj a (r (bG 2) k) (n x0 x1 x2 x3 k)
theorem arZ{n:bt}{r:ay}:∀F h,au vU C lf [1,0] F h (bp n 0 1 2 3) (aR r 8) ao=bp (RJ C lf n r) 0 1 2 3 F h:=by
 intro F h;kernel_rfl
def RK(C:ad)(lf:Nat)(r:ay)(x0 x1 x2 x3:O)(h:U):ab:=
 RJ C lf (RI C lf r) r x0 x1 x2 x3 h
theorem ar0{r:ay}:∀F h,au vU C lf [1] F h bb (aR r 8) ao=bp (RK C lf r) 0 1 2 3 F h:=bn (by kernel_rfl) arY arZ
noncomputable def RL(C:ad)(lf:Nat)(n:bt)(x0 x1 x2 x3:O)(h:U):ab:=
 n x0 x1 x2 x3 h
theorem ar1{n:bt}:∀F h,au vU C lf [0] F h (bp n 0 1 2 3) a5 ao=bp (RL C lf n) 0 1 2 3 F h:=by
 intro F h;kernel_rfl
def RM(C:ad)(lf:Nat)(r:ay)(x0 x1 x2 x3:O)(h:U):ab:=
 RL C lf (RK C lf r) x0 x1 x2 x3 h
theorem ar2{r:ay}:∀F h,au vU C lf [] F h bb (aR r 8) ao=bp (RM C lf r) 0 1 2 3 F h:=bn (by kernel_rfl) ar0 ar1
def Ar(C:ad)(lf:Nat)(aj ak aD a7:J)(h:U):ab:=RM C lf xO (some aj) (some ak) (some aD) (some a7) h
def abb:cx aw:=ry vU Ar (λC lf aj ak aD a7 h=>cZ (K:=(aR xO 8)) (by kernel_rfl) (Eq.trans (ar2 _ h) (by kernel_rfl))) (by kernel_rfl)
def aaj:ca aw:=dn 103 Tryd.f103 Tryd.func103 (by kernel_rfl)
noncomputable def NX(aP:O)(h:U):ab:=
 ob aP λa=>some (.ret a,h)
def RO(C:ad)(lf:Nat)(r:ay)(x0 x1 x2 x3:O)(h:U):ab:=
 a2 C 104 x0 x1 h λa k=>gj a (r (bG 2) k) (dE 4 x0 k λa=>lR 308 a x1 λa=>ob (b6 1 a) λa=>ob x2 λb=>ob x3 λc=>dE 3 x0 k λd=>uX 7 a b k λk=>uX 8 a c k λk=>eg 9 a λa=>ob (st 1 a d k) (r (bG 0)))
theorem ar3{r:ay}:∀F h,au aaj C lf [] F h bb (aR r 8) ao=bp (RO C lf r) 0 1 2 3 F h:=by
 intro F h;kernel_rfl
def CP(C:ad)(lf:Nat)(aj ak aD a7:J)(h:U):ab:=RO C lf NX (some aj) (some ak) (some aD) (some a7) h
def abc:cx aw:=ry aaj CP (λC lf aj ak aD a7 h=>cZ (K:=(aR NX 8)) (by kernel_rfl) (Eq.trans (ar3 _ h) (by kernel_rfl))) (by kernel_rfl)
def aak:ca aw:=dn 104 Tryd.f104 Tryd.func104 (by kernel_rfl)
noncomputable def NY(bC:O)(h:U):ab:=
 ob bC λa=>some (.ret a,h)
def RP(C:ad)(lf:Nat)(r:ay)(x0 x1:O)(h:U):ab:=
 cC .gtr 3 x1 (I 0) λa=>b8 a x1 h λb k=>uD 2 a x0 k λc k=>b8 a (bin aw .leq 3 b c) k λb k=>hz a b λa=>uD 4 a x0 k λb k=>b8 a x1 k λc k=>b8 a (dS 308 b c) k λb k=>b8 a (b6 0 b) k λb k=>b8 a (bZ b k) k λb k=>hz a b λa=>r (some a) k
theorem ar4{r:ay}:∀F h,au aak C lf [] F h bb (aR r 4) ao=a8 (RP C lf r) 0 1 F h:=by
 intro F h;kernel_rfl
def Hz(C:ad)(lf:Nat)(aj ak:J)(h:U):ab:=RP C lf NY (some aj) (some ak) h
def abd:cx aw:=hd aak Hz (λC lf aj ak h=>cZ (K:=(aR NY 4)) (by kernel_rfl) (Eq.trans (ar4 _ h) (by kernel_rfl))) (by kernel_rfl)
def aal:ca aw:=dn 105 Tryd.f105 Tryd.func105 (by kernel_rfl)
noncomputable def NZ(x2:O)(h:U):ab:=
 ob x2 λa=>some (.ret a,h)
def RQ(C:ad)(lf:Nat)(r:ay)(x0:O)(h:U):ab:=
 gJ .lss 3 x0 (I 6) (r (bG (-1)) h) (cC .sub 3 x0 (I 6) λa=>cl .quo 3 a (I 16) λa=>r (some a) h)
theorem ar5{r:ay}:∀F h,au aal C lf [] F h bb (aR r 2) ao=aR (RQ C lf r) 0 F h:=by
 intro F h;kernel_rfl
def HA(C:ad)(lf:Nat)(aj:J)(h:U):ab:=RQ C lf NZ (some aj) h
def abe:cx aw:=iX aal HA (λC lf aj h=>cZ (K:=(aR NZ 2)) (by kernel_rfl) (Eq.trans (ar5 _ h) (by kernel_rfl))) (by kernel_rfl)
def kn:ca aw:=dn 106 Tryd.f106 Tryd.func106 (by kernel_rfl)
noncomputable def qk(aF:O)(h:U):ab:=
 ob aF λa=>some (.ret a,h)
def Jz(C:ad)(lf:Nat)(r:ay)(x2 x7 x9:O)(h:U):ab:=
 ob x7 λa=>ob x2 λb=>ob x9 λc=>ob (dS 1 c (I 0)) λc=>ob (bZ c h) λc=>eg 12 a λa=>ob (ev 278 1 a b) λa=>ob (st 1 a c h) (r (some (.bool true)))
def Eu(C:ad)(lf:Nat)(n:bI)(x2 x7 aP x9:O)(h:U):ab:=
 cC .geq 3 aP (I 0) λa=>b8 a x7 h λb k=>b8 a aP k λc k=>b8 a (ew b) k λb k=>b8 a (b6 290 b) k λb k=>b8 a (ev 17 1 b c) k λb k=>jc .eql 3 a (bZ b k) (I 0) k λb k=>p4 a b (ob x7 λa=>ob aP λb=>ob x9 λc=>ob (dS 1 c (I 0)) λc=>ob (bZ c k) λc=>eg 290 a λa=>ob (ev 17 1 a b) λa=>ob (st 1 a c k) λk=>ob x9 λa=>ob (fX aw 33 a (bG 1) none) λa=>n x2 x7 (some a) k) (n x2 x7 x9 k)
def JD(C:ad)(lf:Nat)(r:ay)(x2 x7 aP x9:O)(h:U):ab:=
 Eu C lf (Jz C lf r) x2 x7 aP x9 h
def Ev(C:ad)(lf:Nat)(n:bt)(x2 x7 aP x9:O)(h:U):ab:=
 cC .gtr 3 aP (I 0) λa=>b8 a x7 h λb k=>b8 a (ew b) k λb k=>b8 a (b6 307 b) k λb k=>jc .eql 3 a (bZ b k) (I 0) k λb k=>p4 a b (ob x7 λa=>ob x9 λb=>ob (dS 1 b (I 0)) λb=>ob (bZ b k) λb=>uX 307 a b k λk=>ob x9 λa=>ob (fX aw 33 a (bG 1) none) λa=>n x2 x7 aP (some a) k) (n x2 x7 aP x9 k)
def Ew(C:ad)(lf:Nat)(r:ay)(x2 x7 aP x9:O)(h:U):ab:=
 Ev C lf (JD C lf r) x2 x7 aP x9 h
theorem asg{r:ay}:∀F h,au kn C lf [1,1,1,1,1,1,1,1] F h bb (aR r 6) ao=bp (Ew C lf r) 2 7 8 9 F h:=by
 intro F h;kernel_rfl
def Ex(C:ad)(lf:Nat)(n:kb)(av:bt)(x0 x2 x7 aP x9 w6 mV:O)(h:U):ab:=
 mr .lss 3 mV w6 (fU 0 x0 λa=>cS C 66 [a] h λa k=>df a λa b=>ob x9 λb=>cl .add 3 a (I 1) λa=>b2 (ib aw 33 1 [0] [a] k) λa k=>b2 (gk aw .append #[33,33] [b,a] k) λa k=>cC .add 3 mV (I 1) λb=>n x0 x2 x7 aP (some a) w6 (some b) k) (av x2 x7 aP x9 h)
theorem ash{n:kb}{av:bt}:∀F h,au kn C lf [1,1,1,1,1,1,1,0,1,0,0] F h (og n 0 2 7 8 9 38 39) a5 (bM 0 (bp av 2 7 8 9) ao)=og (Ex C lf n av) 0 2 7 8 9 38 39 F h:=by
 intro F h;kernel_rfl
def A4(C:ad)(lf:Nat)(av:bt)(k:O×O×O×O×O×O×O->U->ab)(s:O×O×O×O×O×O×O)(h:U):ab:=
 Ex C lf (λa b c d g i j=>k (a,b,c,d,g,i,j)) av s.1 s.2.1 s.2.2.1 s.2.2.2.1 s.2.2.2.2.1 s.2.2.2.2.2.1 s.2.2.2.2.2.2 h
def RU(C:ad)(lf:Nat)(n:kb)(x0 x2 x7 aP x9 aX:O)(h:U):ab:=
 ob aX λa=>n x0 x2 x7 aP x9 (some a) (bG 0) h
theorem asi{n:kb}:∀F h,au kn C lf [1,1,1,1,1,1,1,0,0] F h (og n 0 2 7 8 9 38 39) a5 ao=dY (RU C lf n) 0 2 7 8 9 10 F h:=by
 intro F h;kernel_rfl
def RV(C:ad)(lf:Nat)(n:bt)(x0 x2 x7 aP x9 aX:O)(h:U):ab:=
 RU C lf (λa b c d g i j=>bq (A4 C lf n) lf (a,b,c,d,g,i,j)) x0 x2 x7 aP x9 aX h
theorem asj{n:bt}:∀F h,au kn C lf [1,1,1,1,1,1,1,0] F h (bp n 2 7 8 9) a5 ao=dY (RV C lf n) 0 2 7 8 9 10 F h:=bn (b:=cc kn [1,1,1,1,1,1,1,0,1]) (by kernel_rfl) (gm (id:=0) (a:=cc kn [1,1,1,1,1,1,1,0,1,0]) (by kernel_rfl) (hg (g:=λF=>(F 0,F 2,F 7,F 8,F 9,F 38,F 39)) (body:=A4 C lf n) (by kernel_rfl) (λk=>(ash (n:=λx0 x2 x7 aP x9 w6 mV h=>k (x0,x2,x7,aP,x9,w6,mV) h))))) (asi (n:=λx0 x2 x7 aP x9 w6 mV h=>bq (A4 C lf n) lf (x0,x2,x7,aP,x9,w6,mV) h))
def JE(C:ad)(lf:Nat)(r:ay)(x0 x2 x7 aP x9 aX:O)(h:U):ab:=
 RV C lf (Ew C lf r) x0 x2 x7 aP x9 aX h
theorem asl{r:ay}:∀F h,au kn C lf [1,1,1,1,1,1,1] F h bb (aR r 6) ao=dY (JE C lf r) 0 2 7 8 9 10 F h:=bn (by kernel_rfl) asg asj
def Ey(C:ad)(lf:Nat)(n:dy)(r:ay)(x0 x2 x7 aP x9 aX:O)(h:U):ab:=
 fU 0 x0 λa=>cS C 30 [a] h λa k=>ahI .lss 3 a aX (r (some (.bool false)) k) (n x0 x2 x7 aP x9 aX k)
theorem asm{n:dy}{r:ay}:∀F h,au kn C lf [1,1,1,1,1,1,0] F h (dY n 0 2 7 8 9 10) (aR r 6) ao=dY (Ey C lf n r) 0 2 7 8 9 10 F h:=by
 intro F h;kernel_rfl
def JF(C:ad)(lf:Nat)(r:ay)(x0 x2 x7 aP x9 aX:O)(h:U):ab:=
 Ey C lf (JE C lf r) r x0 x2 x7 aP x9 aX h
theorem asn{r:ay}:∀F h,au kn C lf [1,1,1,1,1,1] F h bb (aR r 6) ao=dY (JF C lf r) 0 2 7 8 9 10 F h:=bn (by kernel_rfl) asl asm
def JG(C:ad)(lf:Nat)(n:dy)(x0 x1 x2 x7 aP x9:O)(h:U):ab:=
 cr C 110 x0 x1 x2 h λa=>n x0 x2 x7 aP x9 (some a)
theorem aso{n:dy}:∀F h,au kn C lf [1,1,1,1,1,0] F h (dY n 0 2 7 8 9 10) a5 ao=dY (JG C lf n) 0 1 2 7 8 9 F h:=by
 intro F h;kernel_rfl
def afq(C:ad)(lf:Nat)(r:ay)(x0 x1 x2 x7 aP x9:O)(h:U):ab:=
 JG C lf (JF C lf r) x0 x1 x2 x7 aP x9 h
theorem asp{r:ay}:∀F h,au kn C lf [1,1,1,1,1] F h bb (aR r 6) ao=dY (afq C lf r) 0 1 2 7 8 9 F h:=bn (by kernel_rfl) asn aso
noncomputable def afn(C:ad)(lf:Nat)(n:dy)(x0 x1 x2 x7 aP:O)(h:U):ab:=
 n x0 x1 x2 x7 aP (some (.val (.slice none 0 0))) h
theorem ar6{n:dy}:∀F h,au kn C lf [1,1,1,1,0] F h (dY n 0 1 2 7 8 9) a5 ao=dj (afn C lf n) 0 1 2 7 8 F h:=by
 intro F h;kernel_rfl
def RR(C:ad)(lf:Nat)(r:ay)(x0 x1 x2 x7 aP:O)(h:U):ab:=
 afn C lf (afq C lf r) x0 x1 x2 x7 aP h
theorem ar7{r:ay}:∀F h,au kn C lf [1,1,1,1] F h bb (aR r 6) ao=dj (RR C lf r) 0 1 2 7 8 F h:=bn (by kernel_rfl) asp ar6
def RS(C:ad)(lf:Nat)(n:cY)(x0 x1 x2 x7:O)(h:U):ab:=
 aS C 105 x2 h λa=>n x0 x1 x2 x7 (some a)
theorem ar8{n:cY}:∀F h,au kn C lf [1,1,1,0] F h (dj n 0 1 2 7 8) a5 ao=bp (RS C lf n) 0 1 2 7 F h:=by
 intro F h;kernel_rfl
def Et(C:ad)(lf:Nat)(r:ay)(x0 x1 x2 x7:O)(h:U):ab:=
 RS C lf (RR C lf r) x0 x1 x2 x7 h
theorem ar9{r:ay}:∀F h,au kn C lf [1,1,1] F h bb (aR r 6) ao=bp (Et C lf r) 0 1 2 7 F h:=bn (by kernel_rfl) ar7 ar8
def JA(C:ad)(lf:Nat)(n:bt)(r:ay)(x0 x1 x2 x7:O)(h:U):ab:=
 ob x7 λa=>ob x2 λb=>eg 12 a λa=>ob (ev 278 1 a b) λa=>ob (bZ a h) λa=>eF .gtr 3 a (I 0) (r (some (.bool true)) h) (n x0 x1 x2 x7 h)
theorem asa{n:bt}{r:ay}:∀F h,au kn C lf [1,1,0] F h (bp n 0 1 2 7) (aR r 6) ao=bp (JA C lf n r) 0 1 2 7 F h:=by
 intro F h;kernel_rfl
def JB(C:ad)(lf:Nat)(r:ay)(x0 x1 x2 x7:O)(h:U):ab:=
 JA C lf (Et C lf r) r x0 x1 x2 x7 h
theorem asb{r:ay}:∀F h,au kn C lf [1,1] F h bb (aR r 6) ao=bp (JB C lf r) 0 1 2 7 F h:=bn (by kernel_rfl) ar9 asa
def JC(C:ad)(lf:Nat)(n:bt)(x0 x1 x2:O)(h:U):ab:=
 dE 4 x0 h λa=>lR 308 a x1 λa=>n x0 x1 x2 (some a) h
theorem asc{n:bt}:∀F h,au kn C lf [1,0] F h (bp n 0 1 2 7) a5 ao=bE (JC C lf n) 0 1 2 F h:=by
 intro F h;kernel_rfl
def afo(C:ad)(lf:Nat)(r:ay)(x0 x1 x2:O)(h:U):ab:=
 JC C lf (JB C lf r) x0 x1 x2 h
theorem asd{r:ay}:∀F h,au kn C lf [1] F h bb (aR r 6) ao=bE (afo C lf r) 0 1 2 F h:=bn (by kernel_rfl) asb asc
noncomputable def afp(C:ad)(lf:Nat)(n:bI)(x0 x1 x2:O)(h:U):ab:=
 n x0 x1 x2 h
theorem ase{n:bI}:∀F h,au kn C lf [0] F h (bE n 0 1 2) a5 ao=bE (afp C lf n) 0 1 2 F h:=by
 intro F h;kernel_rfl
def RT(C:ad)(lf:Nat)(r:ay)(x0 x1 x2:O)(h:U):ab:=
 afp C lf (afo C lf r) x0 x1 x2 h
theorem asf{r:ay}:∀F h,au kn C lf [] F h bb (aR r 6) ao=bE (RT C lf r) 0 1 2 F h:=bn (by kernel_rfl) asd ase
def xW(C:ad)(lf:Nat)(aj ak aD:J)(h:U):ab:=RT C lf qk (some aj) (some ak) (some aD) h
def abf:cx aw:=nA kn xW (λC lf aj ak aD h=>cZ (K:=(aR qk 6)) (by kernel_rfl) (Eq.trans (asf _ h) (by kernel_rfl))) (by kernel_rfl)
def gD:ca aw:=dn 107 Tryd.f107 Tryd.func107 (by kernel_rfl)
noncomputable def Ak(h:U):ab:=
 some (.ret (.bm []),h)
def EC(C:ad)(lf:Nat)(n:cu)(x0 aF aP:O)(h:U):ab:=
 ob aP λa=>ob (h4 .not a) λa=>b8 a aF h λb k=>b8 a (ew b) k λb k=>b8 a (b6 307 b) k λb k=>jc .gtr 3 a (bZ b k) (I 0) k λb k=>p4 a b (fU 0 x0 λa=>dE 307 aF k λb=>cl .sub 3 b (I 1) λb=>cR (C (.fn 67) [a,b] k) λa k=>fU 307 aF λa=>ob (st 1 a (I 0) k) n) (n k)
theorem asO{n:cu}:∀F h,au gD C lf [1,1,1,1] F h (ee n) a5 ao=bE (EC C lf n) 0 6 8 F h:=by
 intro F h;kernel_rfl
def ED(C:ad)(lf:Nat)(n:bt)(x0 aF aP ed:O)(h:U):ab:=
 cC .add 3 ed (I 1) λa=>n x0 aF aP (some a) h
theorem asP{n:bt}:∀F h,au gD C lf [1,1,1,0,1,0,0,1,1,1] F h (bp n 0 6 8 46) a5 (bM 2 jM ao)=bp (ED C lf n) 0 6 8 46 F h:=by
 intro F h;kernel_rfl
def Sd(C:ad)(lf:Nat)(n:bt)(x0 aF aP x9 aX ed:O)(h:U):ab:=
 ob aP λa=>jr .gtr 3 a x9 (I 0) h λb k=>dQ a (some b) k λb k=>b8 b aX k λc k=>dQ a (jB b c (.bool false)) k λb k=>ml a b λa=>n x0 aF (some a) ed k
def Se(C:ad)(lf:Nat)(n:dy)(x0 aF aP x9 aX ed:O)(h:U):ab:=
 ob aX λa=>ob (h4 .not a) λa=>b8 a aF h λb k=>b8 a x9 k λc k=>b8 a (ew b) k λb k=>b8 a (b6 290 b) k λb k=>b8 a (ev 17 1 b c) k λb k=>jc .gtr 3 a (bZ b k) (I 0) k λb k=>p4 a b (fU 0 x0 λa=>ob aF λb=>ob x9 λc=>eg 290 b λb=>ob (ev 17 1 b c) λb=>ob (bZ b k) λb=>cl .sub 3 b (I 1) λb=>cR (C (.fn 67) [a,b] k) λa k=>ob aF λa=>ob x9 λb=>eg 290 a λa=>ob (ev 17 1 a b) λa=>ob (st 1 a (I 0) k) (n x0 aF aP x9 aX ed)) (n x0 aF aP x9 aX ed k)
def Sf(C:ad)(lf:Nat)(n:bt)(x0 aF aP x9 aX ed:O)(h:U):ab:=
 Se C lf (Sd C lf n) x0 aF aP x9 aX ed h
theorem asQ{n:bt}:∀F h,au gD C lf [1,1,1,0,1,0,0,1,1,0,0,1,1,1] F h (bp n 0 6 8 46) a5 (bM 3 kK (bM 2 jM ao))=dY (Sf C lf n) 0 6 8 9 10 46 F h:=by
 intro F h;kernel_rfl
def Ez(C:ad)(lf:Nat)(n:kb)(e9:dy)(x0 aF aP x9 aX x11 ed:O)(h:U):ab:=
 ob x11 λa=>cC .add 3 x9 (I 1) λb=>cl .mul 3 b (I 16) λb=>cl .add 3 (I 6) b λb=>eF .lss 3 a b (ob aX λa=>dQ a aF h λb k=>dQ a x11 k λc k=>dQ a (ew b) k λb k=>dQ a (b6 12 b) k λb k=>dQ a (ev 278 1 b c) k λb k=>jr .gtr 3 a (bZ b k) (I 0) k λb k=>ml a b λa=>cC .add 3 x11 (I 1) λb=>n x0 aF aP x9 (some a) (some b) ed k) (e9 x0 aF aP x9 aX ed h)
theorem asq{n:kb}{e9:dy}:∀F h,au gD C lf [1,1,1,0,1,0,0,1,1,0,0,1,1,0,1,0,0] F h (og n 0 6 8 9 10 11 46) a5 (bM 4 (dY e9 0 6 8 9 10 46) (bM 3 kK (bM 2 jM ao)))=og (Ez C lf n e9) 0 6 8 9 10 11 46 F h:=by
 intro F h;kernel_rfl
def A6(C:ad)(lf:Nat)(e9:dy)(k:O×O×O×O×O×O×O->U->ab)(s:O×O×O×O×O×O×O)(h:U):ab:=
 Ez C lf (λa b c d g i j=>k (a,b,c,d,g,i,j)) e9 s.1 s.2.1 s.2.2.1 s.2.2.2.1 s.2.2.2.2.1 s.2.2.2.2.2.1 s.2.2.2.2.2.2 h
def RW(C:ad)(lf:Nat)(n:kb)(x0 aF aP x9 aX ed:O)(h:U):ab:=
 cC .mul 3 x9 (I 16) λa=>cl .add 3 (I 6) a λa=>n x0 aF aP x9 aX (some a) ed h
theorem asr{n:kb}:∀F h,au gD C lf [1,1,1,0,1,0,0,1,1,0,0,1,1,0,0] F h (og n 0 6 8 9 10 11 46) a5 (bM 3 kK (bM 2 jM ao))=dY (RW C lf n) 0 6 8 9 10 46 F h:=by
 intro F h;kernel_rfl
def RX(C:ad)(lf:Nat)(n:dy)(x0 aF aP x9 aX ed:O)(h:U):ab:=
 RW C lf (λa b c d g i j=>bq (A6 C lf n) lf (a,b,c,d,g,i,j)) x0 aF aP x9 aX ed h
theorem ass{n:dy}:∀F h,au gD C lf [1,1,1,0,1,0,0,1,1,0,0,1,1,0] F h (dY n 0 6 8 9 10 46) a5 (bM 3 kK (bM 2 jM ao))=dY (RX C lf n) 0 6 8 9 10 46 F h:=bn (b:=cc gD [1,1,1,0,1,0,0,1,1,0,0,1,1,0,1]) (by kernel_rfl) (gm (id:=4) (a:=cc gD [1,1,1,0,1,0,0,1,1,0,0,1,1,0,1,0]) (by kernel_rfl) (hg (g:=λF=>(F 0,F 6,F 8,F 9,F 10,F 11,F 46)) (body:=A6 C lf n) (by kernel_rfl) (λk=>(asq (n:=λx0 aF aP x9 aX x11 ed h=>k (x0,aF,aP,x9,aX,x11,ed) h))))) (asr (n:=λx0 aF aP x9 aX x11 ed h=>bq (A6 C lf n) lf (x0,aF,aP,x9,aX,x11,ed) h))
def RY(C:ad)(lf:Nat)(n:bt)(x0 aF aP x9 aX ed:O)(h:U):ab:=
 RX C lf (Sf C lf n) x0 aF aP x9 aX ed h
theorem ast{n:bt}:∀F h,au gD C lf [1,1,1,0,1,0,0,1,1,0,0,1,1] F h (bp n 0 6 8 46) a5 (bM 3 kK (bM 2 jM ao))=dY (RY C lf n) 0 6 8 9 10 46 F h:=bn (by kernel_rfl) asQ ass
noncomputable def RZ(C:ad)(lf:Nat)(n:dy)(x0 aF aP x9 ed:O)(h:U):ab:=
 n x0 aF aP x9 (some (.bool false)) ed h
theorem asu{n:dy}:∀F h,au gD C lf [1,1,1,0,1,0,0,1,1,0,0,1,0] F h (dY n 0 6 8 9 10 46) a5 (bM 3 kK (bM 2 jM ao))=dj (RZ C lf n) 0 6 8 9 46 F h:=by
 intro F h;kernel_rfl
def R0(C:ad)(lf:Nat)(n:bt)(x0 aF aP x9 ed:O)(h:U):ab:=
 RZ C lf (RY C lf n) x0 aF aP x9 ed h
theorem asv{n:bt}:∀F h,au gD C lf [1,1,1,0,1,0,0,1,1,0,0,1] F h (bp n 0 6 8 46) a5 (bM 3 kK (bM 2 jM ao))=dj (R0 C lf n) 0 6 8 9 46 F h:=bn (by kernel_rfl) ast asu
noncomputable def R1(C:ad)(lf:Nat)(n:cY)(x0 aF aP ed:O)(h:U):ab:=
 ob ed λa=>n x0 aF aP (some a) ed h
theorem asw{n:cY}:∀F h,au gD C lf [1,1,1,0,1,0,0,1,1,0,0,0] F h (dj n 0 6 8 9 46) a5 (bM 3 kK (bM 2 jM ao))=bp (R1 C lf n) 0 6 8 46 F h:=by
 intro F h;kernel_rfl
def R2(C:ad)(lf:Nat)(n:bt)(x0 aF aP ed:O)(h:U):ab:=
 R1 C lf (R0 C lf n) x0 aF aP ed h
theorem asx{n:bt}:∀F h,au gD C lf [1,1,1,0,1,0,0,1,1,0,0] F h (bp n 0 6 8 46) a5 (bM 3 kK (bM 2 jM ao))=bp (R2 C lf n) 0 6 8 46 F h:=bn (by kernel_rfl) asv asw
def R3(C:ad)(lf:Nat)(n:bt)(x0 aF aP ed:O)(h:U):ab:=
 R2 C lf (ED C lf n) x0 aF aP ed h
theorem asy{n:bt}:∀F h,au gD C lf [1,1,1,0,1,0,0,1,1] F h (bp n 0 6 8 46) a5 (bM 2 jM ao)=bp (R3 C lf n) 0 6 8 46 F h:=bn (a:=cc gD [1,1,1,0,1,0,0,1,1,0]) (by kernel_rfl) asP (gm (id:=3) (by kernel_rfl) asx)
noncomputable def JH(C:ad)(lf:Nat)(n:bt)(aA:bI)(x0 aF aP ed Xh:O)(h:U):ab:=
 ob Xh λa=>fY a (n x0 aF aP ed h) (aA x0 aF aP h)
theorem asz{n:bt}{aA:bI}:∀F h,au gD C lf [1,1,1,0,1,0,0,1,0] F h (bp n 0 6 8 46) a5 (bM 2 (bE aA 0 6 8) ao)=dj (JH C lf n aA) 0 6 8 46 47 F h:=by
 intro F h;kernel_rfl
def JI(C:ad)(lf:Nat)(n:bt)(aA:bI)(x0 aF aP ed Xh:O)(h:U):ab:=
 JH C lf (R3 C lf n) aA x0 aF aP ed Xh h
theorem asA{n:bt}{aA:bI}:∀F h,au gD C lf [1,1,1,0,1,0,0,1] F h (bp n 0 6 8 46) a5 (bM 2 (bE aA 0 6 8) ao)=dj (JI C lf n aA) 0 6 8 46 47 F h:=bn (by kernel_rfl) asy asz
def JJ(C:ad)(lf:Nat)(n:cY)(x0 aF aP ed:O)(h:U):ab:=
 cC .lss 3 ed (I 17) λa=>n x0 aF aP ed (some a) h
theorem asB{n:cY}:∀F h,au gD C lf [1,1,1,0,1,0,0,0] F h (dj n 0 6 8 46 47) a5 (bM 2 jM ao)=bp (JJ C lf n) 0 6 8 46 F h:=by
 intro F h;kernel_rfl
def EA(C:ad)(lf:Nat)(n:bt)(aA:bI)(x0 aF aP ed:O)(h:U):ab:=
 JJ C lf (JI C lf n aA) x0 aF aP ed h
theorem asC{n:bt}{aA:bI}:∀F h,au gD C lf [1,1,1,0,1,0,0] F h (bp n 0 6 8 46) a5 (bM 2 (bE aA 0 6 8) ao)=bp (EA C lf n aA) 0 6 8 46 F h:=bn (by kernel_rfl) asA asB
def wm(C:ad)(lf:Nat)(aA:bI)(k:O×O×O×O->U->ab)(s:O×O×O×O)(h:U):ab:=
 EA C lf (λa b c d=>k (a,b,c,d)) aA s.1 s.2.1 s.2.2.1 s.2.2.2 h
def R4(C:ad)(lf:Nat)(n:bt)(x0 aF aP:O)(h:U):ab:=
 n x0 aF aP (bG 0) h
theorem asD{n:bt}:∀F h,au gD C lf [1,1,1,0,0] F h (bp n 0 6 8 46) a5 ao=bE (R4 C lf n) 0 6 8 F h:=by
 intro F h;kernel_rfl
def R5(C:ad)(lf:Nat)(n:bI)(x0 aF aP:O)(h:U):ab:=
 R4 C lf (λa b c d=>bq (wm C lf n) lf (a,b,c,d)) x0 aF aP h
theorem asE{n:bI}:∀F h,au gD C lf [1,1,1,0] F h (bE n 0 6 8) a5 ao=bE (R5 C lf n) 0 6 8 F h:=bn (b:=cc gD [1,1,1,0,1]) (by kernel_rfl) (gm (id:=2) (a:=cc gD [1,1,1,0,1,0]) (by kernel_rfl) (hg (g:=λF=>(F 0,F 6,F 8,F 46)) (body:=wm C lf n) (by kernel_rfl) (λk=>(asC (n:=λx0 aF aP ed h=>k (x0,aF,aP,ed) h))))) (asD (n:=λx0 aF aP ed h=>bq (wm C lf n) lf (x0,aF,aP,ed) h))
def R6(C:ad)(lf:Nat)(n:cu)(x0 aF aP:O)(h:U):ab:=
 R5 C lf (EC C lf n) x0 aF aP h
theorem asF{n:cu}:∀F h,au gD C lf [1,1,1] F h (ee n) a5 ao=bE (R6 C lf n) 0 6 8 F h:=bn (by kernel_rfl) asO asE
noncomputable def R7(C:ad)(lf:Nat)(n:bI)(x0 aF:O)(h:U):ab:=
 n x0 aF (some (.bool false)) h
theorem asG{n:bI}:∀F h,au gD C lf [1,1,0] F h (bE n 0 6 8) a5 ao=a8 (R7 C lf n) 0 6 F h:=by
 intro F h;kernel_rfl
def JK(C:ad)(lf:Nat)(n:cu)(x0 aF:O)(h:U):ab:=
 R7 C lf (R6 C lf n) x0 aF h
theorem asH{n:cu}:∀F h,au gD C lf [1,1] F h (ee n) a5 ao=a8 (JK C lf n) 0 6 F h:=bn (by kernel_rfl) asF asG
def EB(C:ad)(lf:Nat)(n:bI)(av:aU)(x0 aF x7:O)(h:U):ab:=
 gJ .lss 3 x7 (I 278) (ob aF λa=>ob x7 λb=>eg 12 a λa=>ob (ev 278 1 a b) λa=>ob (bZ a h) λa=>eF .gtr 3 a (I 0) (fU 0 x0 λa=>ob aF λb=>ob x7 λc=>eg 12 b λb=>ob (ev 278 1 b c) λb=>ob (bZ b h) λb=>cl .sub 3 b (I 1) λb=>cR (C (.fn 67) [a,b] h) λa k=>ob aF λa=>ob x7 λb=>eg 12 a λa=>ob (ev 278 1 a b) λa=>ob (st 1 a (I 0) k) λk=>cC .add 3 x7 (I 1) λa=>n x0 aF (some a) k) (cC .add 3 x7 (I 1) λa=>n x0 aF (some a) h)) (av x0 aF h)
theorem asI{n:bI}{av:aU}:∀F h,au gD C lf [1,0,1,0,0] F h (bE n 0 6 7) a5 (bM 0 (a8 av 0 6) ao)=bE (EB C lf n av) 0 6 7 F h:=by
 intro F h;kernel_rfl
def A5(C:ad)(lf:Nat)(av:aU)(k:O×O×O->U->ab)(s:O×O×O)(h:U):ab:=
 EB C lf (λa b c=>k (a,b,c)) av s.1 s.2.1 s.2.2 h
noncomputable def R8(C:ad)(lf:Nat)(n:bI)(x0 x2 aF:O)(h:U):ab:=
 ob x2 λa=>n x0 aF (some a) h
theorem asJ{n:bI}:∀F h,au gD C lf [1,0,0] F h (bE n 0 6 7) a5 ao=bE (R8 C lf n) 0 2 6 F h:=by
 intro F h;kernel_rfl
def R9(C:ad)(lf:Nat)(n:aU)(x0 x2 aF:O)(h:U):ab:=
 R8 C lf (λa b c=>bq (A5 C lf n) lf (a,b,c)) x0 x2 aF h
theorem asK{n:aU}:∀F h,au gD C lf [1,0] F h (a8 n 0 6) a5 ao=bE (R9 C lf n) 0 2 6 F h:=bn (b:=cc gD [1,0,1]) (by kernel_rfl) (gm (id:=0) (a:=cc gD [1,0,1,0]) (by kernel_rfl) (hg (g:=λF=>(F 0,F 6,F 7)) (body:=A5 C lf n) (by kernel_rfl) (λk=>(asI (n:=λx0 aF x7 h=>k (x0,aF,x7) h))))) (asJ (n:=λx0 aF x7 h=>bq (A5 C lf n) lf (x0,aF,x7) h))
def Sa(C:ad)(lf:Nat)(n:cu)(x0 x2 aF:O)(h:U):ab:=
 R9 C lf (JK C lf n) x0 x2 aF h
theorem asL{n:cu}:∀F h,au gD C lf [1] F h (ee n) a5 ao=bE (Sa C lf n) 0 2 6 F h:=bn (by kernel_rfl) asH asK
def Sb(C:ad)(lf:Nat)(n:bI)(x0 x1 x2:O)(h:U):ab:=
 dE 4 x0 h λa=>lR 308 a x1 λa=>n x0 x2 (some a) h
theorem asM{n:bI}:∀F h,au gD C lf [0] F h (bE n 0 2 6) a5 ao=bE (Sb C lf n) 0 1 2 F h:=by
 intro F h;kernel_rfl
def Sc(C:ad)(lf:Nat)(n:cu)(x0 x1 x2:O)(h:U):ab:=
 Sb C lf (Sa C lf n) x0 x1 x2 h
theorem asN{n:cu}:∀F h,au gD C lf [] F h (ee n) a5 ao=bE (Sc C lf n) 0 1 2 F h:=bn (by kernel_rfl) asL asM
def CQ(C:ad)(lf:Nat)(aj ak aD:J)(h:U):ab:=Sc C lf Ak (some aj) (some ak) (some aD) h
def abg:cx aw:=nA gD CQ (λC lf aj ak aD h=>cZ (K:=(ee Ak)) (by kernel_rfl) (Eq.trans (asN _ h) (by kernel_rfl))) (by kernel_rfl)
def aam:ca aw:=dn 108 Tryd.f108 Tryd.func108 (by kernel_rfl)
noncomputable def N0(x2:O)(h:U):ab:=
 ob x2 λa=>some (.ret a,h)
def Sg(C:ad)(lf:Nat)(r:ay)(x0:O)(h:U):ab:=
 cC .and 68 x0 (I 61440) λa=>r (some a) h
theorem asR{r:ay}:∀F h,au aam C lf [] F h bb (aR r 2) ao=aR (Sg C lf r) 0 F h:=by
 intro F h;kernel_rfl
def HB(C:ad)(lf:Nat)(aj:J)(h:U):ab:=Sg C lf N0 (some aj) h
def abh:cx aw:=iX aam HB (λC lf aj h=>cZ (K:=(aR N0 2)) (by kernel_rfl) (Eq.trans (asR _ h) (by kernel_rfl))) (by kernel_rfl)
def aan:ca aw:=dn 109 Tryd.f109 Tryd.func109 (by kernel_rfl)
noncomputable def N1(h:U):ab:=
 some (.ret (.bm []),h)
def Sh(C:ad)(lf:Nat)(n:cu)(x0 x1:O)(h:U):ab:=
 dE 4 x0 h λa=>lR 308 a x1 λa=>ob (b6 1 a) λa=>eJ 1 a h λa=>cl .eql 3 a (I 0) λa=>uD 4 a x0 h λb k=>b8 a x1 k λc k=>b8 a (dS 308 b c) k λb k=>b8 a (b6 11 b) k λb k=>jc .eql 3 a (bZ b k) (I 0) k λb k=>p4 a b (ob x0 λa=>ob x1 λb=>cS C 107 [a,b,I 0] k λa k=>dE 4 x0 k λa=>ob x1 λb=>ob (hZ aw 156 [] []) λc=>ob (dS 308 a b) λa=>ob (st 308 a c k) n) (n k)
theorem asS{n:cu}:∀F h,au aan C lf [] F h (ee n) a5 ao=a8 (Sh C lf n) 0 1 F h:=by
 intro F h;kernel_rfl
def HC(C:ad)(lf:Nat)(aj ak:J)(h:U):ab:=Sh C lf N1 (some aj) (some ak) h
def abi:cx aw:=hd aan HC (λC lf aj ak h=>cZ (K:=(ee N1)) (by kernel_rfl) (Eq.trans (asS _ h) (by kernel_rfl))) (by kernel_rfl)
def vV:ca aw:=dn 110 Tryd.f110 Tryd.func110 (by kernel_rfl)
noncomputable def CJ(aF:O)(h:U):ab:=
 ob aF λa=>some (.ret a,h)
def Si(C:ad)(lf:Nat)(r:ay)(x7 aP x9:O)(h:U):ab:=
 cC .gtr 3 aP (I 0) λa=>b8 a x7 h λb k=>b8 a (ew b) k λb k=>b8 a (b6 307 b) k λb k=>jc .eql 3 a (bZ b k) (I 0) k λb k=>p4 a b (cC .add 3 x9 (I 1) λa=>r (some a) k) (ob x9 λa=>r (some a) k)
def afr(C:ad)(lf:Nat)(n:bI)(x7 aP x9:O)(h:U):ab:=
 cC .geq 3 aP (I 0) λa=>b8 a x7 h λb k=>b8 a aP k λc k=>b8 a (ew b) k λb k=>b8 a (b6 290 b) k λb k=>b8 a (ev 17 1 b c) k λb k=>jc .eql 3 a (bZ b k) (I 0) k λb k=>p4 a b (cC .add 3 x9 (I 1) λa=>n x7 aP (some a) k) (n x7 aP x9 k)
def afs(C:ad)(lf:Nat)(r:ay)(x7 aP x9:O)(h:U):ab:=
 afr C lf (Si C lf r) x7 aP x9 h
def aft(C:ad)(lf:Nat)(n:bI)(x7 aP:O)(h:U):ab:=
 n x7 aP (bG 1) h
def afu(C:ad)(lf:Nat)(r:ay)(x7 aP:O)(h:U):ab:=
 aft C lf (afs C lf r) x7 aP h
def afv(C:ad)(lf:Nat)(n:aU)(x2 x7:O)(h:U):ab:=
 aS C 105 x2 h λa=>n x7 (some a)
def Sj(C:ad)(lf:Nat)(r:ay)(x2 x7:O)(h:U):ab:=
 afv C lf (afu C lf r) x2 x7 h
theorem asT{r:ay}:∀F h,au vV C lf [1,1,1] F h bb (aR r 6) ao=a8 (Sj C lf r) 2 7 F h:=by
 intro F h;kernel_rfl
def Sk(C:ad)(lf:Nat)(n:aU)(r:ay)(x2 x7:O)(h:U):ab:=
 ob x7 λa=>ob x2 λb=>eg 12 a λa=>ob (ev 278 1 a b) λa=>ob (bZ a h) λa=>eF .gtr 3 a (I 0) (r (bG 0) h) (n x2 x7 h)
theorem asU{n:aU}{r:ay}:∀F h,au vV C lf [1,1,0] F h (a8 n 2 7) (aR r 6) ao=a8 (Sk C lf n r) 2 7 F h:=by
 intro F h;kernel_rfl
def JL(C:ad)(lf:Nat)(r:ay)(x2 x7:O)(h:U):ab:=
 Sk C lf (Sj C lf r) r x2 x7 h
theorem asV{r:ay}:∀F h,au vV C lf [1,1] F h bb (aR r 6) ao=a8 (JL C lf r) 2 7 F h:=bn (by kernel_rfl) asT asU
def JM(C:ad)(lf:Nat)(n:aU)(x0 x1 x2:O)(h:U):ab:=
 dE 4 x0 h λa=>lR 308 a x1 λa=>n x2 (some a) h
theorem asW{n:aU}:∀F h,au vV C lf [1,0] F h (a8 n 2 7) a5 ao=bE (JM C lf n) 0 1 2 F h:=by
 intro F h;kernel_rfl
def afw(C:ad)(lf:Nat)(r:ay)(x0 x1 x2:O)(h:U):ab:=
 JM C lf (JL C lf r) x0 x1 x2 h
theorem asX{r:ay}:∀F h,au vV C lf [1] F h bb (aR r 6) ao=bE (afw C lf r) 0 1 2 F h:=bn (by kernel_rfl) asV asW
noncomputable def afx(C:ad)(lf:Nat)(n:bI)(x0 x1 x2:O)(h:U):ab:=
 n x0 x1 x2 h
theorem asY{n:bI}:∀F h,au vV C lf [0] F h (bE n 0 1 2) a5 ao=bE (afx C lf n) 0 1 2 F h:=by
 intro F h;kernel_rfl
def Sl(C:ad)(lf:Nat)(r:ay)(x0 x1 x2:O)(h:U):ab:=
 afx C lf (afw C lf r) x0 x1 x2 h
theorem asZ{r:ay}:∀F h,au vV C lf [] F h bb (aR r 6) ao=bE (Sl C lf r) 0 1 2 F h:=bn (by kernel_rfl) asX asY
def HD(C:ad)(lf:Nat)(aj ak aD:J)(h:U):ab:=Sl C lf CJ (some aj) (some ak) (some aD) h
def abj:cx aw:=nA vV HD (λC lf aj ak aD h=>cZ (K:=(aR CJ 6)) (by kernel_rfl) (Eq.trans (asZ _ h) (by kernel_rfl))) (by kernel_rfl)
end
end Go.Proofs.YtomialandfplkaaDoor.Eva
