import Derived.Test.YtomialandfplkaaDoorCards
import Derived.SizedLaws
import Derived.Test.YtomialandfplkaaDoorWInodeSoundm2
import Derived.Test.YtomialandfplkaaDoorWInodeSoundm3
set_option linter.unusedSimpArgs false
set_option linter.unusedVariables false
set_option maxRecDepth 100000
set_option maxHeartbeats 400000
namespace Go.Proofs.YtomialandfplkaaDoor.Eva
open Go.Xe
noncomputable section
variable{C:ad}{lf:Nat}{bc a6 gi hJ gj hK qF qG qH qI qJ qK qC qD qE:gD}{ar:kR}
noncomputable def ZD:ca ax:=⟨39,Tryd.f39,λr=>bif Nat.beq r 3 then .ord [0,1,2,5,6,7,10,11,12,15,16,17,20,3,8,13,14,18,19,4,9,21,22,23,24,25,26,27] [(21,[18,13]),(9,[18,13]),(4,[18,13,8])] else .text,Tryd.func39,by kernel_rfl,by kernel_rfl,by kernel_rfl,by kernel_rfl⟩
noncomputable def NH(x2 x3 bV e2:O)(h:U):ab:=
 ob x2 λa=>ob x3 λb=>ob bV λc=>ob e2 λd=>some (.ret (.bo [a,b,c,d]),h)
def Ta(C:ad)(lf:Nat)(r:br)(x0:O)(h:U):ab:=
 aQ C 73 x0 h λa k=>gx a (r (bE 0) (bE 0) (bE 0) (bE 0) k) (gO 0 x0 λa=>gO 0 x0 λb=>gO 1 x0 λc=>gO 1 x0 λd=>ob x0 λg=>ob (b0 a k) λi=>ob (b0 b k) λj=>ob (b0 c k) λm=>mg 100 m λm=>ob (b0 d k) λo=>mg 100 o λo=>dP (C (.fn 29) [i] k) λi l=>fg (fY [(18,cv (some d)),(13,cv (some c)),(8,cv (some b)),(3,cv (some a))] k l [18,13,8]) (dP (C (.fn 19) [j] l) λj k=>fg (fY [(18,cv (some d)),(13,cv (some c)),(8,cv (some b)),(3,cv (some a))] l k [18,13]) (dP (C (.fn 47) [g] k) λg l=>fg (fY [(18,cv (some d)),(13,cv (some c)),(8,cv (some b)),(3,cv (some a))] k l [18,13]) (mg 33 g λa=>cm .sub 3 o a λa=>r (some i) (some j) (some m) (some a) l))))
theorem atP{r:br}:∀F h,au ZD C lf [] F h bc (bm r 2 3 4 5) ar=aX (Ta C lf r) 0 F h:=by
 intro F h;kernel_rfl
def Hr(C:ad)(lf:Nat)(al:J)(h:U):ab:=Ta C lf NH (some al) h
def aas:cK ax:=j8 ZD Hr (λC lf al h=>c8 (K:=(bm NH 2 3 4 5)) (by kernel_rfl) (Eq.trans (atP _ h) (by kernel_rfl))) (by kernel_rfl)
def ZG:ca ax:=dv 46 Tryd.f46 Tryd.func46 (by kernel_rfl)
noncomputable def NK(x2:O)(h:U):ab:=
 ob x2 λa=>some (.ret a,h)
def Tk(C:ad)(lf:Nat)(r:aC)(x0:O)(h:U):ab:=
 aQ C 73 x0 h λa k=>gx a (r (bE 0) k) (dI 2 x0 k λa=>r (some a) k)
theorem aup{r:aC}:∀F h,au ZG C lf [] F h bc (aX r 2) ar=aX (Tk C lf r) 0 F h:=by
 intro F h;kernel_rfl
def Ht(C:ad)(lf:Nat)(al:J)(h:U):ab:=Tk C lf NK (some al) h
def aaw:cK ax:=j8 ZG Ht (λC lf al h=>c8 (K:=(aX NK 2)) (by kernel_rfl) (Eq.trans (aup _ h) (by kernel_rfl))) (by kernel_rfl)
noncomputable def de:ca ax:=⟨47,Tryd.f47,λr=>bif Nat.beq r 1000004 then .ord [3] [] else .text,Tryd.func47,by kernel_rfl,by kernel_rfl,by kernel_rfl,by kernel_rfl⟩
noncomputable def Zh(x2:O)(h:U):ab:=
 ob x2 λa=>some (.ret a,h)
def nK(L:List Nat)(x2:O)(h:U):ab:=yG L h λh=>Zh x2 h
noncomputable def tv(C:ad)(lf:Nat)(r:aC)(x3:O)(h:U):ab:=
 ob x3 λa=>ob (b0 a h) λa=>r (some a) h
theorem auv(C:ad)(lf:Nat)(r:aC)(bc:gD)(ar:kR):∀F h,au de C lf [1,1,1] F h bc (λF h=>r (F 2) h) ar=tv C lf r (F 3) h:=by
 intro F h;kernel_rfl
noncomputable def EH(C:ad)(lf:Nat)(n:cq)(x3 bV:O)(h:U):ab:=
 ob x3 λa=>ob (b0 a h) λa=>ob bV λb=>b2 (iJ ax 33 1 [0] [b] h) λb k=>b2 (gA ax .append #[33,33] [a,b] k) λa k=>ob x3 λb=>ob (st 1 b a k) n
theorem auq(C:ad)(lf:Nat)(n:cq)(a6:gD)(ar:kR):∀F h,au de C lf [1,1,0,1,0,1] F h (λF h=>n h) a6 ar=EH C lf n (F 3) (F 4) h:=by
 intro F h;kernel_rfl
noncomputable def Tl(C:ad)(lf:Nat)(n:a0)(x3 x7:O)(h:U):ab:=
 ob x7 λa=>n x3 (some a) h
theorem aur(C:ad)(lf:Nat)(n:a0)(a6:gD)(ar:kR):∀F h,au de C lf [1,1,0,1,0,0] F h (λF h=>n (F 3) (F 4) h) a6 ar=Tl C lf n (F 3) (F 7) h:=by
 intro F h;kernel_rfl
def Ku(C:ad)(lf k:Nat)(x3:O)(y0:J)(h:U):ab:=
 Tl C lf (λx3 bV h=>tz h k λh=>EH C lf (λh=>lN h k .ready .none true) x3 bV h) x3 (some y0) h
theorem azf(C:ad)(lf k:Nat)(F:Fr)(y0:J)(h:U):Bu ax C de.ord 47 k 13 lf F #[7] (b9 de [1,1,0,1,0,0]) (b9 de [1,1,0,1,0,1]) [y0] h=Ku C lf k (F 3) y0 h:=
 (aC0 (x:=de) (pa:=[1,1,0,1,0,0]) (pc:=[1,1,0,1,0,1]) (by kernel_rfl) (by kernel_rfl) (by kernel_rfl) (auq C lf (λh=>lN h k .ready .none true) (λ_ h=>lN h k .done .ret false) (λi _ h=>lN h k .done (.ex i) false)) (aur C lf (λx3 bV h=>tz h k λh=>EH C lf (λh=>lN h k .ready .none true) x3 bV h) (λ_ _=>none) (λ_ _ _=>none))).trans (by kernel_rfl)
noncomputable def yV(C:ad)(lf:Nat)(n:a0)(x0 x3:O)(h:U):ab:=
 ob x0 λa=>n x3 (some (.fn (.func 81) [a] [])) h
theorem aus(C:ad)(lf:Nat)(n:a0)(a6:gD)(ar:kR):∀F h,au de C lf [1,1,0,0] F h (λF h=>n (F 3) (F 6) h) a6 ar=yV C lf n (F 0) (F 3) h:=by
 intro F h;kernel_rfl
noncomputable def EI(C:ad)(lf:Nat)(n:a0)(x0:O)(h:U):ab:=
 b2 (q5 ax 33 h) λa=>n x0 (some a)
theorem aut(C:ad)(lf:Nat)(n:a0)(a6:gD)(ar:kR):∀F h,au de C lf [1,0] F h (λF h=>n (F 0) (F 3) h) a6 ar=EI C lf n (F 0) h:=by
 intro F h;kernel_rfl
noncomputable def Tm(C:ad)(lf:Nat)(n:aC)(x0:O)(h:U):ab:=
 n x0 h
theorem auu(C:ad)(lf:Nat)(n:aC)(a6:gD)(ar:kR):∀F h,au de C lf [0] F h (λF h=>n (F 0) h) a6 ar=Tm C lf n (F 0) h:=by
 intro F h;kernel_rfl
def Hu(C:ad)(lf:Nat)(al:J)(h:U):ab:=yN (Tm C lf ((λL x0 h=>EI C lf ((λL x0 x3 h=>yV C lf ((λL x3 aM h=>ob aM λy=>qZ C de.ord 47 none 13 #[7] (b9 de [1,1,0,1,0,0]) (b9 de [1,1,0,1,0,1]) y L (iZ [(3,x3)]) h (λL h=>(λL x3 h=>tv C lf (nK L) x3 h) L x3 h) qO []) L) x0 x3 h) L) x0 h) []) (some al) h)
def aax:cK ax:=aii de Hu (λC lf al h=>alG (K:=(λL F h=>nK L (F 2) h)) (by kernel_rfl) (((Lo (a:=b9 de [0]) (b:=b9 de [1]) (by kernel_rfl) (B:=(λL F h=>EI C lf ((λL x0 x3 h=>yV C lf ((λL x3 aM h=>ob aM λy=>qZ C de.ord 47 none 13 #[7] (b9 de [1,1,0,1,0,0]) (b9 de [1,1,0,1,0,1]) y L (iZ [(3,x3)]) h (λL h=>(λL x3 h=>tv C lf (nK L) x3 h) L x3 h) qO []) L) x0 x3 h) L) (F 0) h)) (Lo (a:=b9 de [1,0]) (b:=b9 de [1,1]) (by kernel_rfl) (B:=(λL F h=>yV C lf ((λL x3 aM h=>ob aM λy=>qZ C de.ord 47 none 13 #[7] (b9 de [1,1,0,1,0,0]) (b9 de [1,1,0,1,0,1]) y L (iZ [(3,x3)]) h (λL h=>(λL x3 h=>tv C lf (nK L) x3 h) L x3 h) qO []) L) (F 0) (F 3) h)) (Lo (a:=b9 de [1,1,0]) (b:=b9 de [1,1,1]) (by kernel_rfl) (B:=(λL F h=>tv C lf (nK L) (F 3) h)) (Ln (x:=de) (p:=[1,1,1]) (by kernel_rfl) (λL F h=>(auv C lf (nK L) ((λL F h=>nK L (F 2) h) L) (λi=>(λ_ _ _ _=>none) i L)) F h)) (Lo (a:=b9 de [1,1,0,0]) (b:=b9 de [1,1,0,1]) (by kernel_rfl) (B:=(λL F h=>ob (F 6) λy=>qZ C de.ord 47 none 13 #[7] (b9 de [1,1,0,1,0,0]) (b9 de [1,1,0,1,0,1]) y L (iZ [(3,(F 3))]) h (λL h=>(λL x3 h=>tv C lf (nK L) x3 h) L (F 3) h) qO [])) (aCY (id:=0) (a:=b9 de [1,1,0,1,0]) (by kernel_rfl) (λL F h=>aCZ (a:=b9 de [1,1,0,1,0,0]) (b:=b9 de [1,1,0,1,0,1]) (g:= .tmp 6) (ps:= #[7]) (us:=[3]) (es:=[]) (rb:=false) (by kernel_rfl) (by kernel_rfl) (by kernel_rfl) (by kernel_rfl) L F h)) (Ln (x:=de) (p:=[1,1,0,0]) (by kernel_rfl) (λL F h=>(aus C lf ((λL x3 aM h=>ob aM λy=>qZ C de.ord 47 none 13 #[7] (b9 de [1,1,0,1,0,0]) (b9 de [1,1,0,1,0,1]) y L (iZ [(3,x3)]) h (λL h=>(λL x3 h=>tv C lf (nK L) x3 h) L x3 h) qO []) L) ((λL F h=>nK L (F 2) h) L) (λi=>(λ_ _ _ _=>none) i L)) F h)))) (Ln (x:=de) (p:=[1,0]) (by kernel_rfl) (λL F h=>(aut C lf ((λL x0 x3 h=>yV C lf ((λL x3 aM h=>ob aM λy=>qZ C de.ord 47 none 13 #[7] (b9 de [1,1,0,1,0,0]) (b9 de [1,1,0,1,0,1]) y L (iZ [(3,x3)]) h (λL h=>(λL x3 h=>tv C lf (nK L) x3 h) L x3 h) qO []) L) x0 x3 h) L) ((λL F h=>nK L (F 2) h) L) (λi=>(λ_ _ _ _=>none) i L)) F h))) (Ln (x:=de) (p:=[0]) (by kernel_rfl) (λL F h=>(auu C lf ((λL x0 h=>EI C lf ((λL x0 x3 h=>yV C lf ((λL x3 aM h=>ob aM λy=>qZ C de.ord 47 none 13 #[7] (b9 de [1,1,0,1,0,0]) (b9 de [1,1,0,1,0,1]) y L (iZ [(3,x3)]) h (λL h=>(λL x3 h=>tv C lf (nK L) x3 h) L x3 h) qO []) L) x0 x3 h) L) x0 h) L) ((λL F h=>nK L (F 2) h) L) (λi=>(λ_ _ _ _=>none) i L)) F h))) [] _ h).trans (by kernel_rfl))) (by kernel_rfl)
def ZH:ca ax:=dv 48 Tryd.f48 Tryd.func48 (by kernel_rfl)
noncomputable def NL(x2:O)(h:U):ab:=
 ob x2 λa=>some (.ret a,h)
def Tn(C:ad)(lf:Nat)(r:aC)(x0:O)(h:U):ab:=
 aQ C 73 x0 h λa k=>gx a (r (some (.val (.slice none 0 0))) k) (dI 0 x0 k λa=>da C 20 [a] k λa=>r (some a))
theorem auw{r:aC}:∀F h,au ZH C lf [] F h bc (aX r 2) ar=aX (Tn C lf r) 0 F h:=by
 intro F h;kernel_rfl
def Hv(C:ad)(lf:Nat)(al:J)(h:U):ab:=Tn C lf NL (some al) h
def aay:cK ax:=j8 ZH Hv (λC lf al h=>c8 (K:=(aX NL 2)) (by kernel_rfl) (Eq.trans (auw _ h) (by kernel_rfl))) (by kernel_rfl)
def vE:ca ax:=dv 81 Tryd.f81 Tryd.func81 (by kernel_rfl)
noncomputable def Cx(h:U):ab:=
 some (.ret (.bo []),h)
def EP(C:ad)(lf:Nat)(n:br)(r:cq)(aB:cq)(x0 x1 x12 eS:O)(h:U):ab:=
 lX .lss 3 eS x12 (ob eS λa=>dI 1 x0 h λb=>ob (dD 308 b a) λb=>eR 0 b h λb=>b8 b x1 h λc k=>iR .add 3 b (some a) (I 1) k λa k=>eo (dL true (some b) (fb false C c [a] k λa k=>some (.ret a,k)) k) λa k=>b8 b (kM .not a) k λa k=>pY b a (r k) (cB .add 3 eS (I 1) λa=>n x0 x1 x12 (some a) k)) (aB h)
theorem avU{n:br}{r:cq}{aB:cq}:∀F h,au vE C lf [1,1,0,0] F h (bm n 0 1 12 13) (dZ r) (bS 0 (dZ aB) ar)=bm (EP C lf n r aB) 0 1 12 13 F h:=by
 intro F h;kernel_rfl
def AU(C:ad)(lf:Nat)(r:cq)(aB:cq)(k:O×O×O×O->U->ab)(s:O×O×O×O)(h:U):ab:=
 EP C lf (λa b c d=>k (a,b,c,d)) r aB s.1 s.2.1 s.2.2.1 s.2.2.2 h
def Ux(C:ad)(lf:Nat)(n:br)(x0 x1:O)(h:U):ab:=
 dI 1 x0 h λa=>mg 100 a λa=>n x0 x1 (some a) (bE 0) h
theorem avV{n:br}:∀F h,au vE C lf [1,0] F h (bm n 0 1 12 13) a6 ar=bf (Ux C lf n) 0 1 F h:=by
 intro F h;kernel_rfl
def Uy(C:ad)(lf:Nat)(n:cq)(r:cq)(x0 x1:O)(h:U):ab:=
 Ux C lf (λa b c d=>bp (AU C lf r n) lf (a,b,c,d)) x0 x1 h
theorem avW{n:cq}{r:cq}:∀F h,au vE C lf [1] F h (dZ n) (dZ r) ar=bf (Uy C lf n r) 0 1 F h:=bn (b:=b9 vE [1,1]) (by kernel_rfl) (fX (id:=0) (a:=b9 vE [1,1,0]) (by kernel_rfl) (gX (g:=λF=>(F 0,F 1,F 12,F 13)) (body:=AU C lf r n) (by kernel_rfl) (λk=>(avU (n:=λx0 x1 x12 eS h=>k (x0,x1,x12,eS) h))))) (avV (n:=λx0 x1 x12 eS h=>bp (AU C lf r n) lf (x0,x1,x12,eS) h))
def Uz(C:ad)(lf:Nat)(n:a0)(r:cq)(x0 x1:O)(h:U):ab:=
 aQ C 73 x0 h λa k=>gx a (r k) (n x0 x1 k)
theorem avX{n:a0}{r:cq}:∀F h,au vE C lf [0] F h (bf n 0 1) (dZ r) ar=bf (Uz C lf n r) 0 1 F h:=by
 intro F h;kernel_rfl
def UA(C:ad)(lf:Nat)(n:cq)(r:cq)(x0 x1:O)(h:U):ab:=
 Uz C lf (Uy C lf n r) r x0 x1 h
theorem avY{n:cq}{r:cq}:∀F h,au vE C lf [] F h (dZ n) (dZ r) ar=bf (UA C lf n r) 0 1 F h:=bn (by kernel_rfl) avW avX
def CQ(C:ad)(lf:Nat)(al an:J)(h:U):ab:=UA C lf Cx Cx (some al) (some an) h
def aaR:cK ax:=hP vE CQ (λC lf al an h=>c8 (K:=(dZ Cx)) (by kernel_rfl) (Eq.trans (avY _ h) (by kernel_rfl))) (by kernel_rfl)
def ZB:ca ax:=dv 34 Tryd.f34 Tryd.func34 (by kernel_rfl)
noncomputable def NF(x2:O)(h:U):ab:=
 ob x2 λa=>some (.ret a,h)
noncomputable def SS(C:ad)(lf:Nat)(r:aC)(x0:O)(h:U):ab:=
 ob x0 λa=>r (some a) h
theorem atk{r:aC}:∀F h,au ZB C lf [] F h bc (aX r 2) ar=aX (SS C lf r) 0 F h:=by
 intro F h;kernel_rfl
def Hq(C:ad)(lf:Nat)(al:J)(h:U):ab:=SS C lf NF (some al) h
def Oy:cK ax:=j8 ZB Hq (λC lf al h=>c8 (K:=(aX NF 2)) (by kernel_rfl) (Eq.trans (atk _ h) (by kernel_rfl))) (by kernel_rfl)
noncomputable def ZF:ca ax:=⟨44,Tryd.f44,λr=>bif Nat.beq r 3 then .news [0,2,3,4,1,5,6,7,8,9] [5] [] else .text,Tryd.func44,by kernel_rfl,by kernel_rfl,by kernel_rfl,by kernel_rfl⟩
noncomputable def NJ(bV e2:O)(h:U):ab:=
 ob bV λa=>ob e2 λb=>some (.ret (.bo [a,b]),h)
def Tj(C:ad)(lf:Nat)(r:a0)(x0 x1:O)(h:U):ab:=
 cB .lss 3 x0 (I 1) λa=>h4 .gtr 3 a x0 (I 4096) h λb k=>nk a b λa=>h4 .lss 3 a x1 (I 1) k λb k=>nk a b λa=>h4 .gtr 3 a x1 (I 4096) k λb k=>n7 a b (r (some (.val (.pointer none))) (bE 22) k) (A5 [5] 10 k λa k=>ob x0 λb=>ob x1 λc=>cB .add 3 x1 (I 1) λd=>dP (C (.fn 24) [b] k) λb k=>fg (kj a d&&kj a d) (b2 (si (mU ax 134 d d) a 5 k) λa k=>ob (ib ax 136 [0,1,3] [b,c,a]) λa=>b2 (q7 136 a k) λa=>r (some a) (bE 0)))
theorem auo{r:a0}:∀F h,au ZF C lf [] F h bc (bf r 4 5) ar=bf (Tj C lf r) 0 1 F h:=by
 intro F h;kernel_rfl
def CI(C:ad)(lf:Nat)(al an:J)(h:U):ab:=Tj C lf NJ (some al) (some an) h
def aav:cK ax:=hP ZF CI (λC lf al an h=>c8 (K:=(bf NJ 4 5)) (by kernel_rfl) (Eq.trans (auo _ h) (by kernel_rfl))) (by kernel_rfl)
def ZE:ca ax:=dv 43 Tryd.f43 Tryd.func43 (by kernel_rfl)
noncomputable def NI(bV:O)(h:U):ab:=
 ob bV λa=>some (.ret a,h)
def Ti(C:ad)(lf:Nat)(r:aC)(x0 x1:O)(h:U):ab:=
 ob x0 λa=>b2 (q8 ax 24 9 a h) λa k=>ob x1 λb=>b2 (q8 ax 24 9 b k) λb k=>cm .eql 9 a b λa=>r (some a) k
theorem aun{r:aC}:∀F h,au ZE C lf [] F h bc (aX r 4) ar=bf (Ti C lf r) 0 1 F h:=by
 intro F h;kernel_rfl
def Hs(C:ad)(lf:Nat)(al an:J)(h:U):ab:=Ti C lf NI (some al) (some an) h
def aau:cK ax:=hP ZE Hs (λC lf al an h=>c8 (K:=(aX NI 4)) (by kernel_rfl) (Eq.trans (aun _ h) (by kernel_rfl))) (by kernel_rfl)
end
end Go.Proofs.YtomialandfplkaaDoor.Eva
namespace Go.Xe
def pop:Nat->Nat->Nat
 |0,_=>0
 |n+1,x=>x%2+pop n (x/2)
theorem B9{a c y d:Nat}(bX:a<256)(ae:c<256):(a+256*y)&&& (c+256*d)=(a&&& c)+256*(y&&& d):=by
 have h1:(a&&& c)<256:=Nat.lt_of_le_of_lt Nat.and_le_left bX;have e:((a+256*y)&&& (c+256*d))=256*(((a+256*y)&&& (c+256*d))/256)+((a+256*y)&&& (c+256*d))%256:=(Nat.div_add_mod _ _).symm
 have hdiv:((a+256*y)&&& (c+256*d))/256=y&&& d:=by
  have:=Nat.and_div_two_pow (a:=a+256*y) (b:=c+256*d) (n:=8)
  rw[show(2:Nat) ^ 8=256 from rfl] at this;rw[this,show(a+256*y)/256=y by omega,show(c+256*d)/256=d by omega]
 have Dt:((a+256*y)&&& (c+256*d))%256=a&&& c:=by
  have:=Nat.and_mod_two_pow (a:=a+256*y) (b:=c+256*d) (n:=8)
  rw[show(2:Nat) ^ 8=256 from rfl] at this;rw[this,show(a+256*y)%256=a by omega,show(c+256*d)%256=c by omega]
 rw[e,hdiv,Dt];omega
def rep(m:Nat):Nat->Nat
 |0=>0
 |n+1=>m+256*rep m n
def s1(M x:Nat):Nat:=(x/2&&& M)+(x&&& M)
def s2(M x:Nat):Nat:=(x/4&&& M)+(x&&& M)
def eZ(M x:Nat):Nat:=(x/16+x)&&& M
def f8(a:Nat):Nat:=eZ 15 (s2 51 (s1 85 a))
def va:Nat->Nat->Nat
 |0,_=>0
 |n+1,x=>f8 (x%256)+256*va n (x/256)
theorem ao8:∀a,a<256->∀q,q<2->(a/2+128*q)&&& 85=a/2&&& 85:=by decide+kernel
theorem ao9:∀a,a<256->∀q,q<4->(a/4+64*q)&&& 51=a/4&&& 51:=by decide+kernel
theorem acY:∀a,a<256->s1 85 a<256:=by decide+kernel
theorem acZ:∀a,a<256->s2 51 (s1 85 a)<=68/\s2 51 (s1 85 a)%16<=4:=by decide+kernel
theorem apa:∀a,a<69->∀q,q<5->(a/16+a+16*q)&&& 15=(a/16+a)&&& 15:=by decide+kernel
theorem aln:∀a,a<256->f8 a=pop 8 a:=by decide+kernel
theorem vx:∀a,a<256->f8 a<=8:=by decide+kernel
theorem afS{a y M:Nat}(bX:a<256):s1 (85+256*M) (a+256*y)=s1 85 a+256*s1 M y:=by
 unfold s1;have e:(a+256*y)/2=(a/2+128*(y%2))+256*(y/2):=by omega
 rw[e,B9 (by omega) (by omega),B9 bX (by omega),ao8 a bX _ (by omega)];omega
theorem afT{a y M:Nat}(bX:a<256):s2 (51+256*M) (a+256*y)=s2 51 a+256*s2 M y:=by
 unfold s2;have e:(a+256*y)/4=(a/4+64*(y%4))+256*(y/4):=by omega
 rw[e,B9 (by omega) (by omega),B9 bX (by omega),ao9 a bX _ (by omega)];omega
theorem azu{a y M:Nat}(bX:a<=68)(bb:y%16<=4):eZ (15+256*M) (a+256*y)=eZ 15 a+256*eZ M y:=by
 unfold eZ;have e:(a+256*y)/16+(a+256*y)=(a/16+a+16*(y%16))+256*(y/16+y):=by omega
 rw[e,B9 (by omega) (by omega),apa a (by omega) _ (by omega)]
theorem azt:∀n y,s2 (rep 51 n) (s1 (rep 85 n) y)%16<=4
 |0,y=>by simp[s2,s1,rep]
 |n+1,y=>by
  have e:y=y%256+256*(y/256):=by omega
  rw[e];simp only[rep];rw[afS (by omega),afT (acY _ (by omega))]
  have:=(acZ (y%256) (by omega)).2
  omega
theorem afR:∀n x,eZ (rep 15 n) (s2 (rep 51 n) (s1 (rep 85 n) x))=va n x
 |0,x=>by simp[eZ,rep,va]
 |n+1,x=>by
  have e:x=x%256+256*(x/256):=by omega
  have h1:eZ (rep 15 (n+1)) (s2 (rep 51 (n+1)) (s1 (rep 85 (n+1)) (x%256+256*(x/256))))=f8 (x%256)+256*va n (x/256):=by
   simp only[rep];rw[afS (by omega),afT (acY _ (by omega)),azu (acZ _ (by omega)).1 (azt n _),afR n];rfl
  rw[<- e] at h1;rw[h1];rfl
theorem ad7(m:Nat):∀n x,pop (n+m) x=pop n (x%2 ^ n)+pop m (x/2 ^ n)
 |0,x=>by simp[pop]
 |n+1,x=>by
  have h:=ad7 m n (x/2);rw[show n+1+m=(n+m)+1 by omega];simp only[pop];rw[h];have az:x%2 ^ (n+1)%2=x%2:=by rw[Nat.pow_succ,Nat.mul_comm];exact Nat.mod_mul_right_mod x 2 (2 ^ n)
  have aw:x%2 ^ (n+1)/2=x/2%2 ^ n:=by rw[Nat.pow_succ,Nat.mul_comm];exact Nat.mod_mul_right_div_self x 2 (2 ^ n)
  have ch:x/2/2 ^ n=x/2 ^ (n+1):=by rw[Nat.div_div_eq_div_mul,Nat.pow_succ,Nat.mul_comm]
  rw[az,aw,ch];omega
theorem wm(m x:Nat):pop (8+m) x=f8 (x%256)+pop m (x/256):=by
 rw[ad7 m 8 x,show(2:Nat) ^ 8=256 from rfl,aln _ (by omega)]
theorem ahH(x:Nat):∃a b c d e f g i:Nat,a<=8/\b<=8/\c<=8/\d<=8/\e<=8/\f<=8/\g<=8/\i<=8/\
 va 8 x=a+256*(b+256*(c+256*(d+256*(e+256*(f+256*(g+256*i))))))/\pop 64 x=a+b+c+d+e+f+g+i:=by
 refine⟨f8 (x%256),f8 (x/256%256),f8 (x/256/256%256),f8 (x/256/256/256%256),f8 (x/256/256/256/256%256),f8 (x/256/256/256/256/256%256),f8 (x/256/256/256/256/256/256%256),f8 (x/256/256/256/256/256/256/256%256),vx _ (Nat.mod_lt _ (by omega)),vx _ (Nat.mod_lt _ (by omega)),vx _ (Nat.mod_lt _ (by omega)),vx _ (Nat.mod_lt _ (by omega)),vx _ (Nat.mod_lt _ (by omega)),vx _ (Nat.mod_lt _ (by omega)),vx _ (Nat.mod_lt _ (by omega)),vx _ (Nat.mod_lt _ (by omega)),?_,?_⟩
 rotate_left
 ·rw[show(64:Nat)=8+56 from rfl,wm,show(56:Nat)=8+48 from rfl,wm,show(48:Nat)=8+40 from rfl,wm,show(40:Nat)=8+32 from rfl,wm,show(32:Nat)=8+24 from rfl,wm,
   show(24:Nat)=8+16 from rfl,wm,show(16:Nat)=8+8 from rfl,wm,show(8:Nat)=8+0 from rfl,wm]
  simp only[pop,Nat.add_zero,Nat.add_assoc]
 ·simp[va]
def ff(x:Nat):Nat:=x+x/256
def oS(x:Nat):Nat:=x+x/65536
def tC(x:Nat):Nat:=x+x/4294967296
theorem axX(u r:Nat)(hu:u<256):(u+256*r)/256=r:=by omega
theorem axY(u r:Nat)(hu:u<65536):(u+65536*r)/65536=r:=by omega
theorem axZ(u r:Nat)(hu:u<4294967296):(u+4294967296*r)/4294967296=r:=by omega
theorem ai7(a b c d e f g:Nat)(h1:a<=8)(h2:b<=8)(h3:c<=8)(aU:d<=8)(bA:e<=8)(bC:f<=8)(er:g<=8):(a+b+c+d)+256*(b+c+d+e)+65536*((c+d+e+f)+256*(d+e+f+g))<4294967296:=by omega
theorem ai8(a b c d e f g i:Nat)(h1:a<=8)(h2:b<=8)(h3:c<=8)(aU:d<=8)(bA:e<=8)(bC:f<=8)(er:g<=8)(hz:i<=8):a+b+c+d+e+f+g+i<128:=by omega
theorem ai9(a b c d e f g i:Nat)(h1:a<=8)(h2:b<=8)(h3:c<=8)(aU:d<=8)(bA:e<=8)(bC:f<=8)(er:g<=8)(hz:i<=8):(a+256*(b+256*(c+256*(d+256*(e+256*(f+256*(g+256*i)))))))<2 ^ 60:=by omega
theorem aqt(x:Nat):tC (oS (ff (va 8 x)))%128=pop 64 x/\va 8 x<2 ^ 60:=by
 obtain⟨a,b,c,d,e,f,g,i,h1,h2,h3,aU,bA,bC,er,hz,aR,aA⟩:=ahH x;rw[aR,aA];clear aR aA;have k1:a<256:=Nat.lt_of_le_of_lt h1 (by decide);have k2:(a+b)+256*(b+c)<65536:=by clear aU bA bC er hz k1;omega
 have gN:=ai7 a b c d e f g h1 h2 h3 aU bA bC er;have oL:=ai8 a b c d e f g i h1 h2 h3 aU bA bC er hz;have acF:=ai9 a b c d e f g i h1 h2 h3 aU bA bC er hz;refine⟨?_,acF⟩;clear acF h1 h2 h3 aU bA bC er hz
 have ef:ff (a+256*(b+256*(c+256*(d+256*(e+256*(f+256*(g+256*i)))))))=((a+b)+256*(b+c))+65536*((c+d)+256*(d+e)+65536*((e+f)+256*(f+g)+65536*((g+i)+256*i))):=by
  unfold ff;rw[axX a (b+256*(c+256*(d+256*(e+256*(f+256*(g+256*i)))))) k1];clear k1 k2 gN oL;omega
 have jk:oS (((a+b)+256*(b+c))+65536*((c+d)+256*(d+e)+65536*((e+f)+256*(f+g)+65536*((g+i)+256*i))))=
  ((a+b+c+d)+256*(b+c+d+e)+65536*((c+d+e+f)+256*(d+e+f+g)))+4294967296*((e+f+g+i)+256*(f+g+i)+65536*((g+i)+256*i)):=by
  unfold oS;rw[axY ((a+b)+256*(b+c)) ((c+d)+256*(d+e)+65536*((e+f)+256*(f+g)+65536*((g+i)+256*i))) k2];clear k1 k2 gN oL ef;omega
 have m3:tC (((a+b+c+d)+256*(b+c+d+e)+65536*((c+d+e+f)+256*(d+e+f+g)))+4294967296*((e+f+g+i)+256*(f+g+i)+65536*((g+i)+256*i)))=
  (a+b+c+d+e+f+g+i)+128*(2*(b+c+d+e+f+g+i)+512*((c+d+e+f)+256*(d+e+f+g)+((g+i)+256*i))+33554432*((e+f+g+i)+256*(f+g+i)+65536*((g+i)+256*i))):=by
  unfold tC;rw[axZ ((a+b+c+d)+256*(b+c+d+e)+65536*((c+d+e+f)+256*(d+e+f+g))) ((e+f+g+i)+256*(f+g+i)+65536*((g+i)+256*i)) gN];clear k1 k2 gN oL ef jk;omega
 rw[ef,jk,m3,Nat.add_mul_mod_self_left];exact Nat.mod_eq_of_lt oL
theorem Qz:rep 85 8=6148914691236517205/\rep 51 8=3689348814741910323/\rep 15 8=1085102592571150095:=by decide
end Go.Xe
namespace Go.Proofs.YtomialandfplkaaDoor.Eva
open Go.Xe
noncomputable section
variable{C:ad}{lf:Nat}{bc a6 gi hJ gj hK qF qG qH qI qJ qK qC qD qE:gD}{ar:kR}
def ou:ca ax:=dv 19 Tryd.f19 Tryd.func19 (by kernel_rfl)
noncomputable def G4(x2:O)(h:U):ab:=
 ob x2 λa=>some (.ret a,h)
noncomputable def Jt(C:ad)(lf:Nat)(r:aC)(x3:O)(h:U):ab:=
 ob x3 λa=>r (some a) h
theorem asH{r:aC}:∀F h,au ou C lf [1,1,1,1] F h bc (aX r 2) ar=aX (Jt C lf r) 3 F h:=by
 intro F h;kernel_rfl
def Ez(C:ad)(lf:Nat)(n:bG)(aB:aC)(x0 x3 x12:O)(h:U):ab:=
 gT .lss 3 x12 (I 64) (ob x12 λa=>ob x3 λb=>gO 1 x0 λc=>ob (ev 64 1 c a) λa=>ob (b0 a h) λa=>da C 65 [a] h λa k=>cm .sub 3 b a λa=>cB .add 3 x12 (I 1) λb=>n x0 (some a) (some b) k) (aB x3 h)
theorem asB{n:bG}{aB:aC}:∀F h,au ou C lf [1,1,1,0,1,0,0] F h (bB n 0 3 12) a6 (bS 0 (aX aB 3) ar)=bB (Ez C lf n aB) 0 3 12 F h:=by
 intro F h;kernel_rfl
def AO(C:ad)(lf:Nat)(aB:aC)(k:O×O×O->U->ab)(s:O×O×O)(h:U):ab:=
 Ez C lf (λa b c=>k (a,b,c)) aB s.1 s.2.1 s.2.2 h
def Sh(C:ad)(lf:Nat)(n:bG)(x0 x3:O)(h:U):ab:=
 n x0 x3 (bE 0) h
theorem asC{n:bG}:∀F h,au ou C lf [1,1,1,0,0] F h (bB n 0 3 12) a6 ar=bf (Sh C lf n) 0 3 F h:=by
 intro F h;kernel_rfl
def Si(C:ad)(lf:Nat)(n:aC)(x0 x3:O)(h:U):ab:=
 Sh C lf (λa b c=>bp (AO C lf n) lf (a,b,c)) x0 x3 h
theorem asD{n:aC}:∀F h,au ou C lf [1,1,1,0] F h (aX n 3) a6 ar=bf (Si C lf n) 0 3 F h:=bn (b:=b9 ou [1,1,1,0,1]) (by kernel_rfl) (fX (id:=0) (a:=b9 ou [1,1,1,0,1,0]) (by kernel_rfl) (gX (g:=λF=>(F 0,F 3,F 12)) (body:=AO C lf n) (by kernel_rfl) (λk=>(asB (n:=λx0 x3 x12 h=>k (x0,x3,x12) h))))) (asC (n:=λx0 x3 x12 h=>bp (AO C lf n) lf (x0,x3,x12) h))
def Sj(C:ad)(lf:Nat)(r:aC)(x0 x3:O)(h:U):ab:=
 Si C lf (Jt C lf r) x0 x3 h
theorem asE{r:aC}:∀F h,au ou C lf [1,1,1] F h bc (aX r 2) ar=bf (Sj C lf r) 0 3 F h:=bn (by kernel_rfl) asH asD
def Sk(C:ad)(lf:Nat)(n:a0)(x0:O)(h:U):ab:=
 dI 0 x0 h λa=>n x0 (some a) h
theorem asF{n:a0}:∀F h,au ou C lf [1,1,0] F h (bf n 0 3) a6 ar=aX (Sk C lf n) 0 F h:=by
 intro F h;kernel_rfl
def Sl(C:ad)(lf:Nat)(r:aC)(x0:O)(h:U):ab:=
 Sk C lf (Sj C lf r) x0 h
theorem asG{r:aC}:∀F h,au ou C lf [1,1] F h bc (aX r 2) ar=aX (Sl C lf r) 0 F h:=bn (by kernel_rfl) asE asF
def Sm(C:ad)(lf:Nat)(n:aC)(r:aC)(x0:O)(h:U):ab:=
 aQ C 63 x0 h λa k=>gx a (r (bE 0) k) (n x0 k)
theorem asI{n:aC}{r:aC}:∀F h,au ou C lf [1,0] F h (aX n 0) (aX r 2) ar=aX (Sm C lf n r) 0 F h:=by
 intro F h;kernel_rfl
def Sn(C:ad)(lf:Nat)(r:aC)(x0:O)(h:U):ab:=
 Sm C lf (Sl C lf r) r x0 h
theorem asJ{r:aC}:∀F h,au ou C lf [1] F h bc (aX r 2) ar=aX (Sn C lf r) 0 F h:=bn (by kernel_rfl) asG asI
noncomputable def So(C:ad)(lf:Nat)(n:aC)(x0:O)(h:U):ab:=
 n x0 h
theorem asK{n:aC}:∀F h,au ou C lf [0] F h (aX n 0) a6 ar=aX (So C lf n) 0 F h:=by
 intro F h;kernel_rfl
def Sp(C:ad)(lf:Nat)(r:aC)(x0:O)(h:U):ab:=
 So C lf (Sn C lf r) x0 h
theorem asL{r:aC}:∀F h,au ou C lf [] F h bc (aX r 2) ar=aX (Sp C lf r) 0 F h:=bn (by kernel_rfl) asJ asK
def Hj(C:ad)(lf:Nat)(al:J)(h:U):ab:=Sp C lf G4 (some al) h
def aal:cK ax:=j8 ou Hj (λC lf al h=>c8 (K:=(aX G4 2)) (by kernel_rfl) (Eq.trans (asL _ h) (by kernel_rfl))) (by kernel_rfl)
def ov:ca ax:=dv 20 Tryd.f20 Tryd.func20 (by kernel_rfl)
noncomputable def G5(x2:O)(h:U):ab:=
 ob x2 λa=>some (.ret a,h)
noncomputable def Ju(C:ad)(lf:Nat)(r:aC)(x3:O)(h:U):ab:=
 ob x3 λa=>r (some a) h
theorem asS{r:aC}:∀F h,au ov C lf [1,1,1,1] F h bc (aX r 2) ar=aX (Ju C lf r) 3 F h:=by
 intro F h;kernel_rfl
def EA(C:ad)(lf:Nat)(n:br)(aB:aC)(x0 x3 x11 x12:O)(h:U):ab:=
 lX .lss 3 x12 x11 (ob x12 λa=>ob x0 λb=>da C 33 [b,a] h λb k=>fV b (ob x3 λb=>b2 (iJ ax 33 1 [0] [a] k) λa k=>b2 (gA ax .append #[33,33] [b,a] k) λa k=>cB .add 3 x12 (I 1) λb=>n x0 (some a) x11 (some b) k) (cB .add 3 x12 (I 1) λa=>n x0 x3 x11 (some a) k)) (aB x3 h)
theorem asM{n:br}{aB:aC}:∀F h,au ov C lf [1,1,1,0,1,0,0] F h (bm n 0 3 11 12) a6 (bS 0 (aX aB 3) ar)=bm (EA C lf n aB) 0 3 11 12 F h:=by
 intro F h;kernel_rfl
def AP(C:ad)(lf:Nat)(aB:aC)(k:O×O×O×O->U->ab)(s:O×O×O×O)(h:U):ab:=
 EA C lf (λa b c d=>k (a,b,c,d)) aB s.1 s.2.1 s.2.2.1 s.2.2.2 h
def Sq(C:ad)(lf:Nat)(n:br)(x0 x3:O)(h:U):ab:=
 dI 0 x0 h λa=>n x0 x3 (some a) (bE 0) h
theorem asN{n:br}:∀F h,au ov C lf [1,1,1,0,0] F h (bm n 0 3 11 12) a6 ar=bf (Sq C lf n) 0 3 F h:=by
 intro F h;kernel_rfl
def Sr(C:ad)(lf:Nat)(n:aC)(x0 x3:O)(h:U):ab:=
 Sq C lf (λa b c d=>bp (AP C lf n) lf (a,b,c,d)) x0 x3 h
theorem asO{n:aC}:∀F h,au ov C lf [1,1,1,0] F h (aX n 3) a6 ar=bf (Sr C lf n) 0 3 F h:=bn (b:=b9 ov [1,1,1,0,1]) (by kernel_rfl) (fX (id:=0) (a:=b9 ov [1,1,1,0,1,0]) (by kernel_rfl) (gX (g:=λF=>(F 0,F 3,F 11,F 12)) (body:=AP C lf n) (by kernel_rfl) (λk=>(asM (n:=λx0 x3 x11 x12 h=>k (x0,x3,x11,x12) h))))) (asN (n:=λx0 x3 x11 x12 h=>bp (AP C lf n) lf (x0,x3,x11,x12) h))
def Ss(C:ad)(lf:Nat)(r:aC)(x0 x3:O)(h:U):ab:=
 Sr C lf (Ju C lf r) x0 x3 h
theorem asP{r:aC}:∀F h,au ov C lf [1,1,1] F h bc (aX r 2) ar=bf (Ss C lf r) 0 3 F h:=bn (by kernel_rfl) asS asO
noncomputable def St(C:ad)(lf:Nat)(n:a0)(x0:O)(h:U):ab:=
 n x0 (some (.val (.slice none 0 0))) h
theorem asQ{n:a0}:∀F h,au ov C lf [1,1,0] F h (bf n 0 3) a6 ar=aX (St C lf n) 0 F h:=by
 intro F h;kernel_rfl
def Su(C:ad)(lf:Nat)(r:aC)(x0:O)(h:U):ab:=
 St C lf (Ss C lf r) x0 h
theorem asR{r:aC}:∀F h,au ov C lf [1,1] F h bc (aX r 2) ar=aX (Su C lf r) 0 F h:=bn (by kernel_rfl) asP asQ
def Sv(C:ad)(lf:Nat)(n:aC)(r:aC)(x0:O)(h:U):ab:=
 aQ C 63 x0 h λa k=>gx a (r (some (.val (.slice none 0 0))) k) (n x0 k)
theorem asT{n:aC}{r:aC}:∀F h,au ov C lf [1,0] F h (aX n 0) (aX r 2) ar=aX (Sv C lf n r) 0 F h:=by
 intro F h;kernel_rfl
def Sw(C:ad)(lf:Nat)(r:aC)(x0:O)(h:U):ab:=
 Sv C lf (Su C lf r) r x0 h
theorem asU{r:aC}:∀F h,au ov C lf [1] F h bc (aX r 2) ar=aX (Sw C lf r) 0 F h:=bn (by kernel_rfl) asR asT
noncomputable def Sx(C:ad)(lf:Nat)(n:aC)(x0:O)(h:U):ab:=
 n x0 h
theorem asV{n:aC}:∀F h,au ov C lf [0] F h (aX n 0) a6 ar=aX (Sx C lf n) 0 F h:=by
 intro F h;kernel_rfl
def Sy(C:ad)(lf:Nat)(r:aC)(x0:O)(h:U):ab:=
 Sx C lf (Sw C lf r) x0 h
theorem asW{r:aC}:∀F h,au ov C lf [] F h bc (aX r 2) ar=aX (Sy C lf r) 0 F h:=bn (by kernel_rfl) asU asV
def Hk(C:ad)(lf:Nat)(al:J)(h:U):ab:=Sy C lf G5 (some al) h
def aam:cK ax:=j8 ov Hk (λC lf al h=>c8 (K:=(aX G5 2)) (by kernel_rfl) (Eq.trans (asW _ h) (by kernel_rfl))) (by kernel_rfl)
def ZV:ca ax:=dv 65 Tryd.f65 Tryd.func65 (by kernel_rfl)
noncomputable def NY(x2:O)(h:U):ab:=
 ob x2 λa=>some (.ret a,h)
def TF(C:ad)(lf:Nat)(r:aC)(x0:O)(h:U):ab:=
 cB .shr 55 x0 (.int .u64 1) λa=>cm .and 55 a (.int .u64 6148914691236517205) λa=>cB .and 55 x0 (.int .u64 6148914691236517205) λb=>cm .add 55 a b λa=>cm .shr 55 a (.int .u64 2) λb=>cm .and 55 b (.int .u64 3689348814741910323) λb=>cm .and 55 a (.int .u64 3689348814741910323) λa=>cm .add 55 b a λa=>cm .shr 55 a (.int .u64 4) λb=>cm .add 55 b a λa=>cm .and 55 a (.int .u64 1085102592571150095) λa=>cm .shr 55 a (.int .u64 8) λb=>cm .add 55 a b λa=>cm .shr 55 a (.int .u64 16) λb=>cm .add 55 a b λa=>cm .shr 55 a (.int .u64 32) λb=>cm .add 55 a b λa=>ob (xt .i64 a) λa=>cm .and 3 a (I 127) λa=>r (some a) h
theorem auL{r:aC}:∀F h,au ZV C lf [] F h bc (aX r 2) ar=aX (TF C lf r) 0 F h:=by
 intro F h;kernel_rfl
def HB(C:ad)(lf:Nat)(al:J)(h:U):ab:=TF C lf NY (some al) h
def aaJ:cK ax:=j8 ZV HB (λC lf al h=>c8 (K:=(aX NY 2)) (by kernel_rfl) (Eq.trans (auL _ h) (by kernel_rfl))) (by kernel_rfl)
end
theorem ad8:∀n x,pop n x=((List.range n).filter λi=>x.testBit i).length
 |0,_=>rfl
 |n+1,x=>by
  rw[List.range_succ_eq_map,List.filter_cons];simp only[pop,ad8 n (x/2),List.filter_map,List.length_map]
  have e:(List.range n).filter ((λi=>x.testBit i)∘Nat.succ)=(List.range n).filter λi=>(x/2).testBit i:=by
   apply List.filter_congr;intro i _;simp[Nat.testBit_succ]
  cases ag:x.testBit 0 with
  |true=>
   have:x%2=1:=by simpa[Nat.testBit_zero] using ag
   simp only[if_true,List.length_cons,List.length_map,e];omega
  |false=>
   have:x%2=0:=by simp[Nat.testBit_zero] at ag;omega
   simp[e,this]
def oV(wd:Nat->Nat):Nat->Nat
 |0=>0
 |m+1=>oV wd m+pop 64 (wd m)
theorem aya(m:Nat):List.range (64*(m+1))=List.range (64*m)++(List.range 64).map (64*m+ ·):=by
 rw[Nat.mul_succ,List.range_add]
theorem agy(wd:Nat->Nat):∀m,oV wd m=((List.range (64*m)).filter (bU wd)).length
 |0=>rfl
 |m+1=>by
  rw[aya,List.filter_append,List.length_append,oV,agy wd m,ad8,List.filter_map,List.length_map];congr 2;apply List.filter_congr;intro i hi
  have:i<64:=List.mem_range.1 hi
  simp only[Function.comp,bU];rw[show(64*m+i)/64=m by omega,show(64*m+i)%64=i by omega]
def ea(wd:Nat->Nat)(n:Nat):List Nat:=(List.range n).filter (bU wd)
theorem Wa(wd:Nat->Nat)(n:Nat):(ea wd n).length<=n:=by
 have:=List.length_filter_le (bU wd) (List.range n)
 simpa[ea] using this
section
variable{lf m:Nat}{h:U}{k cV n:Nat}{wd b:Nat->Nat}
theorem ee.sum(S:ee h k cV n wd b):oV wd 64=(ea wd n).length:=by
 rw[agy];have h2:=S.cF
 have e:List.range (64*64)=List.range n++(List.range (4096-n)).map (n+ ·):=by
  rw[show 64*64=n+(4096-n) by omega,List.range_add]
 rw[e,List.filter_append,List.length_append,ea]
 have:((List.range (4096-n)).map (n+ ·)).filter (bU wd)=[]:=by
  rw[List.filter_eq_nil_iff];intro x ao;obtain⟨i,hi,rfl⟩:=List.mem_map.1 ao;have hi:i<4096-n:=List.mem_range.1 hi;unfold bU;rw[S.out ((n+i)/64) ((n+i)%64) (by omega) (by omega) (by omega)];simp
 rw[this];rfl
theorem agz(wd:Nat->Nat):∀a d,oV wd a<=oV wd (a+d)
 |a,0=>Nat.le_refl _
 |a,d+1=>Nat.le_trans (agz wd a d) (Nat.le_add_right _ _)
def FV(C:ad):Prop:=∀h (x:Nat),x<2 ^ 64->C (.fn 65) [.int .u64 (x:Int)] h=some (.ret (I (pop 64 x:Nat)),h)
theorem zM{P:Program}{t:TypeId}{a b:Nat}(h:a+b<2 ^ 64):bin P .add t (.int .u64 (a:Int)) (.int .u64 (b:Int))=some (.int .u64 ((a+b:Nat):Int)):=by
 rw[sD,wrap_u64 (by omega) (by omega)];rfl
theorem zO{P:Program}{t:TypeId}{a:Nat}(b p:Nat)(ag:b<64)(aA:2 ^ b=p):bin P .shr t (.int .u64 (a:Int)) (.int .u64 (b:Int))=some (.int .u64 ((a/p:Nat):Int)):=by
 rw[ME ag,aA]
theorem Ce{P:Program}{t:TypeId}{a:Nat}(b:Nat)(bX:a<2 ^ 64)(ag:b<2 ^ 64):bin P .and t (.int .u64 (a:Int)) (.int .u64 (b:Int))=some (.int .u64 ((a&&& b:Nat):Int)):=MB bX ag
theorem aja{P:Program}{t:TypeId}{a:Nat}(bX:a<2 ^ 62):bin P .and t (I (a:Int)) (I 127)=some (I ((a%128:Nat):Int)):=by
 rw[xl .and (.inl rfl)];have h1:BitVec.ofInt 64 (a:Int)=BitVec.ofNat 64 a:=uF a;have h2:BitVec.ofInt 64 (127:Int)=BitVec.ofNat 64 127:=rfl
 have h3:(BitVec.ofNat 64 a&&& BitVec.ofNat 64 127).toNat=a%128:=by
  rw[BitVec.toNat_and,BitVec.toNat_ofNat,BitVec.toNat_ofNat,Nat.mod_eq_of_lt (by omega),Nat.mod_eq_of_lt (by omega)];exact Nat.and_two_pow_sub_one_eq_mod a 7
 show some (jS (IntKind.i64.wrap ((BitVec.ofInt 64 (a:Int)&&& BitVec.ofInt 64 (127:Int)).toNat:Int)) λr=>J.int .i64 r)=_;rw[fC,h1,h2,h3,wrap_i64 (by omega) (by omega)]
theorem ap4{C:ad}{lf x:Nat}{h:U}(ao:x<2 ^ 64):HB C lf (.int .u64 (x:Int)) h=some (.ret (I (pop 64 x:Nat)),h):=by
 obtain⟨bQ,cn⟩:=aqt x;rw[<- afR 8 x,Qz.1,Qz.2.1,Qz.2.2] at bQ cn;have an:x/2<2 ^ 64:=by omega
 have aD:x/2&&& 6148914691236517205<=6148914691236517205:=Nat.and_le_right;have a7:x&&& 6148914691236517205<=6148914691236517205:=Nat.and_le_right;have ki:s1 6148914691236517205 x=(x/2&&& 6148914691236517205)+(x&&& 6148914691236517205):=rfl;have qb:s1 6148914691236517205 x<2 ^ 64:=by omega
 generalize bb:s1 6148914691236517205 x=y at *;have b2:y/4&&& 3689348814741910323<=3689348814741910323:=Nat.and_le_right;have gW:y&&& 3689348814741910323<=3689348814741910323:=Nat.and_le_right;have qx:s2 3689348814741910323 y=(y/4&&& 3689348814741910323)+(y&&& 3689348814741910323):=rfl;have c0:s2 3689348814741910323 y<=7378697629483820646:=by omega
 generalize a1:s2 3689348814741910323 y=z at *;have aci:eZ 1085102592571150095 z=(z/16+z)&&& 1085102592571150095:=rfl;generalize hw:eZ 1085102592571150095 z=w at *;have acj:ff w=w+w/256:=rfl;have ack:oS (ff w)=ff w+ff w/65536:=rfl;have acm:tC (oS (ff w))=oS (ff w)+oS (ff w)/4294967296:=rfl;have d4:ff w<2 ^ 61:=by omega
 generalize aDF:ff w=kO at *;have d5:oS kO<2 ^ 61+2 ^ 50:=by omega
 generalize aDG:oS kO=uP at *;have d6:tC uP<2 ^ 62:=by omega
 generalize aDH:tC uP=Wd at *;have az:=zO (P:=ax) (t:=55) (a:=x) 1 2 (by omega) rfl;have aw:=Ce (P:=ax) (t:=55) (a:=x/2) 6148914691236517205 an (by omega);have ch:=Ce (P:=ax) (t:=55) (a:=x) 6148914691236517205 ao (by omega);have ef:=zM (P:=ax) (t:=55) (a:=x/2&&& 6148914691236517205) (b:=x&&& 6148914691236517205) (by omega);rw[<- ki] at ef;have jk:=zO (P:=ax) (t:=55) (a:=y) 2 4 (by omega) rfl;have m3:=Ce (P:=ax) (t:=55) (a:=y/4) 3689348814741910323 (by omega) (by omega);have Cr:=Ce (P:=ax) (t:=55) (a:=y) 3689348814741910323 qb (by omega);have zV:=zM (P:=ax) (t:=55) (a:=y/4&&& 3689348814741910323) (b:=y&&& 3689348814741910323) (by omega);rw[<- qx] at zV;have rB:=zO (P:=ax) (t:=55) (a:=z) 4 16 (by omega) rfl;have kz:=zM (P:=ax) (t:=55) (a:=z/16) (b:=z) (by omega);have YH:=Ce (P:=ax) (t:=55) (a:=z/16+z) 1085102592571150095 (by omega) (by omega);rw[<- aci] at YH;have akO:=zO (P:=ax) (t:=55) (a:=w) 8 256 (by omega) rfl;have YI:=zM (P:=ax) (t:=55) (a:=w) (b:=w/256) (by omega);rw[<- acj] at YI;have akP:=zO (P:=ax) (t:=55) (a:=kO) 16 65536 (by omega) rfl;have YJ:=zM (P:=ax) (t:=55) (a:=kO) (b:=kO/65536) (by omega);rw[<- ack] at YJ;have akQ:=zO (P:=ax) (t:=55) (a:=uP) 32 4294967296 (by omega) rfl;have YK:=zM (P:=ax) (t:=55) (a:=uP) (b:=uP/4294967296) (by omega);rw[<- acm] at YK;have akR:xt .i64 (.int .u64 (Wd:Int))=some (I (Wd:Int)):=by simp only[xt,fC];rw[wrap_i64 (by omega) (by omega)]
 have GX:=aja (P:=ax) (t:=3) (a:=Wd) d6;rw[bQ] at GX;clear bQ cn an aD a7 ki qb b2 gW qx c0 aci acj ack acm d4 d5 d6;unfold HB TF NY;simp only[cg,cf]
 erw [az];simp only[cg,cf]
 erw [aw];simp only[cg,cf]
 erw [ch];simp only[cg,cf]
 rw[ef];simp only[cg,cf]
 erw [jk];simp only[cg,cf]
 erw [m3];simp only[cg,cf]
 erw [Cr];simp only[cg,cf]
 rw[zV];simp only[cg,cf]
 erw [rB];simp only[cg,cf]
 rw[kz];simp only[cg,cf]
 erw [YH];simp only[cg,cf]
 erw [akO];simp only[cg,cf]
 rw[YI];simp only[cg,cf]
 erw [akP];simp only[cg,cf]
 rw[YJ];simp only[cg,cf]
 erw [akQ];simp only[cg,cf]
 rw[YK];simp only[cg,cf,akR,GX]
def LM(C:ad):Prop:=∀h k cV n wd b,ee h k cV n wd b->C (.fn 19) [.ptr k 0] h=some (.ret (I ((n-(ea wd n).length:Nat):Int)),h)
theorem ac1{C:ad}{lf:Nat}(aq:FV C)(S:ee h k cV n wd b)(aB:aC):∀(d w:Nat),w+d=64->∀f,d<f->
 bp (AO C lf aB) f (some (.ptr k 0),some (I ((n-oV wd w:Nat):Int)),some (I (w:Int))) h=aB (some (I ((n-(ea wd n).length:Nat):Int))) h
 |0,w,hw,f,ak=>by
  obtain⟨f,rfl⟩:=dE f (by omega)
  have:w=64:=by omega
  subst this;rw[dh,S.sum];unfold AO Ez;have a8:decide (((64:Nat):Int)<64)=false:=by decide
  simp only[aE,a8]
 |d+1,w,hw,f,ak=>by
  obtain⟨f,rfl⟩:=dE f (by omega);have h2:=S.cF;have Iv:w<64:=by omega
  have b3:=lT (n:=64) (s:=1) (k:=k) (off:=1) (kd:= .i64) (i:=(w:Int)) (by omega) (by omega);rw[Int.toNat_natCast,Nat.mul_one] at b3;have a8:decide ((w:Int)<64)=true:=bw (by omega);have dy:IntKind.i64.wrap ((w:Int)+1)=((w+1:Nat):Int):=cH (by omega)
  have hle:oV wd (w+1)<=n:=by
   have h3:=agz wd (w+1) d;rw[show w+1+d=64 by omega,S.sum] at h3;exact Nat.le_trans h3 (Wa wd n)
  have aj:oV wd (w+1)=oV wd w+pop 64 (wd w):=rfl
  have jZ:IntKind.i64.wrap (((n-oV wd w:Nat):Int)-(pop 64 (wd w):Nat))=((n-oV wd (w+1):Nat):Int):=by
   rw[wrap_i64 (by omega) (by omega)];omega
  rw[dh];show Ez C lf (λx0 x3 x12 h=>bp (AO C lf aB) f (x0,x3,x12) h) aB (some (.ptr k 0)) (some (I ((n-oV wd w:Nat):Int))) (some (I (w:Int))) h=_;unfold Ez;simp only[aE,a8,b3,S.tZ w Iv,aq _ _ (S.iI w),jZ,dy];exact ac1 aq S aB d (w+1) (by omega) f (by omega)
theorem aoW{C:ad}(gf:65<=lf)(hm:sq C)(aq:FV C)(S:ee h k cV n wd b):Hj C lf (.ptr k 0) h=some (.ret (I ((n-(ea wd n).length:Nat):Int)),h):=by
 unfold Hj Sp So Sn Sm Sl Sk Sj Si Sh;simp only[aE,hm _ _ _ _ _ _ S,Bool.not_true,S.ec]
 have:=ac1 (lf:=lf) aq S (λx3 h=>Jt C lf G4 x3 h) 64 0 rfl lf (by omega)
 have aB:oV wd 0=0:=rfl;rw[aB,Nat.sub_zero] at this;refine Eq.trans this ?_;unfold Jt G4;simp only[cg,cf]
end
end Go.Proofs.YtomialandfplkaaDoor.Eva
namespace Go.Xe
def uN(l:List Nat):ByteArray:=GC (l.map λ(c:Nat)=>(c:Int))
theorem foldl_push:∀(lh:List Int) (r:ByteArray),(lh.foldl (λr n=>r.push (UInt8.ofNat n.toNat)) r).data.toList=r.data.toList++lh.map λn=>UInt8.ofNat n.toNat
 | [],r=>by simp
 |n::lh,r=>by
  rw[List.foldl_cons,foldl_push lh];simp[ByteArray.push]
theorem agU(l:List Nat):(uN l).data.toList=l.map UInt8.ofNat:=by
 unfold uN GC;rw[foldl_push];simp[Function.comp_def]
theorem aBv{l dw:List Nat}(h:∀c∈l,c<256)(h':∀c∈dw,c<256):uN l=uN dw↔l=dw:=by
 refine⟨λe=>?_,λe=>by rw[e]⟩;have aw:l.map UInt8.ofNat=dw.map UInt8.ofNat:=by rw[<- agU, <- agU,e]
 have:∀(l:List Nat),(∀c∈l,c<256)->(l.map UInt8.ofNat).map UInt8.toNat=l:=by
  intro l aJ;rw[List.map_map]
  conv=>rhs;rw[<- List.map_id l]
  apply List.map_congr_left;intro c ae
  have:=aJ c ae
  simp[Function.comp,UInt8.toNat_ofNat];omega
 rw[<- this l h, <- this dw h',aw]
theorem XV:∀l:List Nat,bytesOf (jd l)=some (l.map λ(c:Nat)=>(c:Int))
 | []=>rfl
 |c::l=>by
  have:=XV l
  unfold jd at this;simp[jd,bytesOf,this]
section
variable{P:Program}
theorem Lj{s d e:TypeId}{h:U}{x:J}{l:List Nat}(aj:P.underlying s=some (.slice e))(aF:P.underlying d=some .string)(hu:hA P e=true)(B:Bytes h x l):q8 P s d x h=some (.str (uN l),h):=by
 rcases B.2 with⟨rfl|⟨k,rfl⟩,rfl⟩|⟨bM,ob,cap,lo,m,rfl,hm,ae⟩
 ·have h1:n5 P s d (.val (.slice none 0 0))=none:=by simp[n5,aj,aF]
  unfold q8;simp only[h1,jG,aj,aF,hu,cond_true,ao];rfl
 ·have h1:n5 P s d (.kL k)=none:=by simp[n5,aj,aF]
  unfold q8;simp only[h1,jG,aj,aF,hu,cond_true,ao];rfl
 ·have h1:n5 P s d (.aY bM ob l.length cap lo)=none:=by simp[n5,aj,aF]
  unfold U.mt at hm;cases aq:h.aS.get bM with
  |none=>simp[aq] at hm
  |some o=>
   unfold q8;simp only[h1,jG,aj,aF,hu,cond_true,U.sf,aq,AY aq,XW ae,XV,ao];rfl
theorem XM{t:TypeId}{a b:ByteArray}:bin P .eql t (.str a) (.str b)=some (.bool (decide (a=b))):=by
 rw[tY];show(some (J.bool (a.toList==b.toList)):Option J)=_
 have:(a.toList==b.toList)=decide (a=b):=by
  by_cases e:a=b
  ·subst e;simp
  ·have h:¬a.toList=b.toList:=λh=>e (by
    rw[ByteArray.toList_eq,ByteArray.toList_eq] at h;obtain⟨a⟩:=a;obtain⟨b⟩:=b;simp only at h
    rw[Array.ext' h])
   simp[e,h]
 rw[this]
end
section
open Go.ChangeShapes Go.WideShapes Go.ChangeAt Go.RowKit
section
variable{P:Program}{H:Type}{enc:TypeId×Value->H}{w:World}
theorem acx{t:TypeId}{k:IntKind}{v:Value}{d:DataW H}{ps:List MemPlace}{r:Reach}{qb:Nat}(aK:P.underlying t=some (.int k))(rP:Value.okWide P w r qb t v)(h:DataW.Trod enc P w 0 (λ_=>true) true t v d ps):
 ∃n,v= .int k n/\k.min<=n/\n<=k.max:=by
 obtain⟨n,rfl⟩:=okWide_int aK rP;obtain⟨fuel,ak⟩:=h;obtain⟨ads,h1,_,hw⟩:=DataW.trod_int aK ak;refine⟨n,rfl,?_⟩;have h1:[Value.int k n]=[Value.int k ads]:=h1;cases h1;simpa[Lit.wf] using hw
end
end
section
variable{P:Program}{t e:TypeId}{h:U}
theorem Li{z:Value}{y:J}(hu:P.underlying t=some (.slice e))(aj:dN P e=some 1)(a1:hE P e=some z)(iB:(c2 z).cells.length=1)(bb:y.cells=[y])(ak:y.flat=true):
 iJ P t 1 [0] [y] h=some (.aY h.next 0 1 (some 1) 0,h.new (dR e [y])):=by
 obtain⟨c,ae⟩:∃c,(c2 z).cells=[c]:=by
  match hm:(c2 z).cells,iB with
  | [c],_=>exact⟨c,rfl⟩
 unfold iJ oU;have h1:(Nat.ble (1*1) 65536&&Nat.ble 1 1&&Nat.beq [c].length 1)=true:=rfl
 have h2:pv (λi=>some (i*1,1)) (r9 [c] 1) ([0].zip [y])=some [y]:=by
  simp[r9,pv,Fg,bb,ak,show Nat.ble 1 1=true from rfl]
 simp only[hu,aj,a1,ae,h1,cond_true,h2,newRow,force_eq];rfl
theorem YP{y:J}{e:TypeId}:kU (h.new (dR e [y])).x0 1 (.aY h.next 0 1 (some 1) 0)=some (1,[y]):=by
 have aq:(h.new (dR e [y])).aS.get h.next=some (dR e [y]):=by rw[A3,if_pos rfl]
 have ae:(dR e [y]).get 0=some y:=by rw[oR];rfl
 simp only[kU,U.sf,aq,Nat.mul_one];show(match j1 (dR e [y]) 0 1 with|some ys=>some (1,ys)|none=>none)=_;simp only[j1,ae]
theorem xi{x y:J}{b len:Nat}{ys:List J}(T:sk P t t e 1 b)(bb:y.cells=[y])(ak:y.flat=true)(aq:eA [y]=true)(S:hX h e 1 x len ys)
 (ae:len+1<=140737488355328)(sZ:(len+1)*b<=140737488355328):
 ∃bW h',iJ P t 1 [0] [y] h=some (.aY h.next 0 1 (some 1) 0,h.new (dR e [y]))/\gA P .append #[t,t] [x,.aY h.next 0 1 (some 1) 0] (h.new (dR e [y]))=some (bW,h')/\hX h' e 1 bW (len+1) (ys++[y])/\h.next<=h'.next/\h'.aH=h.aH/\
  (∀j,j<h.next->rowOf x≠some j->cW h h' j)/\(∀j,rowOf bW=some j->rowOf x=some j\/h.next<=j)/\(jQ h->jQ h'):=by
 obtain⟨z,a1,iB⟩:=T.a1;have ag:=Li (h:=h) T.hu T.aj a1 iB bb ak;have e4:hX (h.new (dR e [y])) e 1 x len ys:=S.frame (by simp) (λk ai=>n3 h _ (Nat.ne_of_lt (S.kK ai)));obtain⟨bW,h',h1,h2,h3,aU,bA,bC,er⟩:=aiQ T e4 YP rfl aq ae sZ;refine⟨bW,h',ag,h1,h2,?_,aU,λj aa aI=>(bA j (by simp;omega) aI).trans (n3 h _ (Nat.ne_of_lt aa)),λj aa=>?_,λak=>er (xG ak _)⟩
 ·simp at h3;omega
 ·rcases bC j aa with er|er
  ·exact .inl er
  ·right;simp at er;omega
end
end Go.Xe
namespace Go.Proofs.YtomialandfplkaaDoor.Eva
open Go.Xe
section
variable{lf m:Nat}{h:U}{k cV n:Nat}{wd b:Nat->Nat}
def ints(l:List Nat):List J:=l.map λ(i:Nat)=>J.int .i64 (i:Int)
theorem agX(wd:Nat->Nat)(i:Nat):ea wd (i+1)=ea wd i++(if bU wd i then[i] else[]):=by
 unfold ea;rw[List.range_succ,List.filter_append];cases h:bU wd i<;>simp[List.filter,h]
theorem vm:sk ax 33 33 3 1 8:=
 ⟨Tryd.underlying33,by kernel_rfl,⟨.int .i64 0,by kernel_rfl,rfl⟩,by kernel_rfl,⟨_,Tryd.underlying33,rfl⟩,Nat.le_refl 1⟩
structure fM (h0 h:U) (x:J) (l:List Nat):Prop where
 aY:hX h 3 1 x l.length (ints l)
 new:∀j,rowOf x=some j->h0.next<=j
def Mo(C:ad):Prop:=∀h k cV n wd b,ee h k cV n wd b->∃x h',C (.fn 20) [.ptr k 0] h=some (.ret x,h')/\fM h h' x (ea wd n)/\aN h h' (λ_=>False)
theorem Wc{C:ad}{lf:Nat}(hi:w5 C){h0:U}(S:ee h0 k cV n wd b)(aB:aC):∀(d i:Nat),i+d=n->∀f,d<f->∀h x,fM h0 h x (ea wd i)->aN h0 h (λ_=>False)->
 ∃bW h',bp (AP C lf aB) f (some (.ptr k 0),some x,some (I (n:Int)),some (I (i:Int))) h=aB (some bW) h'/\fM h0 h' bW (ea wd n)/\aN h0 h' (λ_=>False)
 |0,i,hw,f,ak,h,x,A,F=>by
  obtain⟨f,rfl⟩:=dE f (by omega)
  have:i=n:=by omega
  subst this;refine⟨x,h,?_,A,F⟩;rw[dh];unfold AP EA;have a8:decide ((i:Int)<(i:Int))=false:=by simp
  simp only[aE,a8]
 |d+1,i,hw,f,ak,h,x,A,F=>by
  obtain⟨f,rfl⟩:=dE f (by omega);have h2:=S.cF;have jh:ee h k cV n wd b:=S.iP F (λe=>e) (λe=>e);have a8:decide ((i:Int)<(n:Int))=true:=bw (by omega);have dy:IntKind.i64.wrap ((i:Int)+1)=((i+1:Nat):Int):=cH (by omega)
  have hu:gv n wd (i:Int)=bU wd i:=by
   have h3:(i:Int)<n:=by omega
   simp[gv,h3]
  have dS:=hi _ _ _ _ _ _ (i:Int) jh (by omega) (by omega);rw[hu] at dS;rw[dh];show ∃bW h',EA C lf (λx0 x3 x11 x12 h=>bp (AP C lf aB) f (x0,x3,x11,x12) h) aB (some (.ptr k 0)) (some x) (some (I (n:Int))) (some (I (i:Int))) h=aB (some bW) h'/\_;unfold EA;cases aq:bU wd i with
  |false=>
   rw[aq] at dS;simp only[aE,a8,dS,dy];have e:ea wd (i+1)=ea wd i:=by rw[agX,aq];simp
   exact Wc hi S aB d (i+1) (by omega) f (by omega) h x (by rw[e];exact A) F
  |true=>
   rw[aq] at dS;have e:ea wd (i+1)=ea wd i++[i]:=by rw[agX,aq];rfl
   have aJ:=Wa wd i;obtain⟨bW,h',an,aD,a7,cw,dO,ek,hF,kv⟩:=xi (y:=I (i:Int)) vm rfl rfl rfl A.aY (by omega) (by omega);simp only[aE,a8,dS,dy,an,aD];refine Wc hi S aB d (i+1) (by omega) f (by omega) h' bW ⟨?_,λj aa=>?_⟩ ⟨dO.trans F.aH,Nat.le_trans F.next cw,λj aa _=>(ek j (Nat.lt_of_lt_of_le aa F.next) (λaI=>absurd (A.new j aI) (by omega))).trans (F.same j aa (λe=>e)),λak=>kv (F.dx ak)⟩
   ·rw[e]
    have:ints (ea wd i++[i])=ints (ea wd i)++[I (i:Int)]:=by simp[ints]
    rw[this,List.length_append];exact a7
   ·rcases hF j aa with aI|aI
    ·exact A.new j aI
    ·exact Nat.le_trans F.next aI
theorem aBI{C:ad}(gf:4097<=lf)(hm:sq C)(hi:w5 C)(S:ee h k cV n wd b):∃x h',Hk C lf (.ptr k 0) h=some (.ret x,h')/\fM h h' x (ea wd n)/\aN h h' (λ_=>False):=by
 have h2:=S.cF;obtain⟨bW,h',cd,c1,n1⟩:=Wc (lf:=lf) hi S (λx3 h=>Ju C lf G5 x3 h) n 0 (by omega) lf (by omega) h (.val (.slice none 0 0)) ⟨hX.nil _ _ _,λj aa=>by cases aa⟩ (aN.refl h _);refine⟨bW,h',?_,c1,n1⟩;unfold Hk Sy Sx Sw Sv Su St Ss Sr Sq;simp only[aE,hm _ _ _ _ _ _ S,Bool.not_true,S.ec];refine Eq.trans cd ?_;unfold Ju G5;simp only[cg,cf]
theorem aoY{h0 h:U}{x:J}{l:List Nat}(A:fM h0 h x l):eN ax 33 x=some (I (l.length:Int)):=by
 rcases A.aY.2 with⟨rfl,h1⟩|⟨k,rfl,_⟩
 ·rw[h1];simp[eN,Tryd.underlying33,fC]
 ·simp[eN,Tryd.underlying33]
end
end Go.Proofs.YtomialandfplkaaDoor.Eva
namespace Go.Xe
section
open Go.ChangeShapes Go.WideShapes Go.ChangeAt Go.RowKit
section
variable{P:Program}
theorem age{t e s bM ob len lo q:Nat}{cap:Option Nat}{kd:IntKind}(hu:P.underlying t=some (.slice e))(aj:dN P e=some s)(aI:mn (.aY bM ob len cap lo))(aZ:q<=len):
 ∃sG iE,fK P t (.aY bM ob len cap lo) none (some (.int kd (q:Int)))=some (.aY bM ob q sG iE)/\mn (.aY bM ob q sG iE):=by
 have h0:hL (.int kd (q:Int))=some q:=rfl;unfold fK;cases cap with
 |none=>
  have h1:sliceB len len none (some (.int kd (q:Int)))=some (0,q):=by
   simp only[sliceB,h0]
   have:(Nat.ble q len&&Nat.ble 0 q)=true:=by simp[Nat.ble_eq_true_of_le aZ,Nat.ble_eq_true_of_le (Nat.zero_le q)]
   simp only[this,cond_true]
  simp only[hu,aj,h1,pX,force_eq,Nat.ble_eq_true_of_le aZ,cond_true,Nat.sub_zero,Nat.add_zero,Nat.zero_mul];cases ag:Nat.blt 0 len with
  |true=>exact⟨none,lo,by simp only[cond_true],trivial⟩
  |false=>exact⟨none,lo,by simp only[cond_false,show Nat.beq 0 0=true from rfl,cond_true],trivial⟩
 |some c=>
  have aI:len<=c:=aI
  have h1:sliceB len c none (some (.int kd (q:Int)))=some (0,q):=by
   simp only[sliceB,h0]
   have:(Nat.ble q c&&Nat.ble 0 q)=true:=by simp[Nat.ble_eq_true_of_le (Nat.le_trans aZ aI),Nat.ble_eq_true_of_le (Nat.zero_le q)]
   simp only[this,cond_true]
  simp only[hu,aj,h1,pX,force_eq,Nat.sub_zero,Nat.add_zero,Nat.zero_mul];refine⟨some c,0,?_,Nat.le_trans aZ aI⟩;cases ag:Nat.beq c 0 with
  |true=>simp only[cond_true]
  |false=>simp only[cond_false]
theorem ajy{t e s q:Nat}{kd:IntKind}{h:U}{x:J}{l:List Nat}(hu:P.underlying t=some (.slice e))(aj:dN P e=some s)(B:Bytes h x l)(aI:mn x)(aZ:q<=l.length):
 ∃bW,fK P t x none (some (.int kd (q:Int)))=some bW/\Bytes h bW (l.take q)/\mn bW:=by
 rcases B.2 with⟨rfl|⟨k,rfl⟩,rfl⟩|⟨bM,ob,cap,lo,m,rfl,hm,ae⟩
 ·have aZ:q=0:=by simpa using aZ
  subst aZ;refine⟨.val (.slice none 0 0),?_,by simpa using B,trivial⟩;have h0:sliceB 0 0 none (some (.int kd ((0:Nat):Int)))=some (0,0):=rfl;unfold fK;simp only[hu,aj,show(Nat.beq 0 0&&Nat.beq 0 0)=true from rfl,cond_true,h0]
 ·have aZ:q=0:=by simpa using aZ
  subst aZ;refine⟨.kL k,?_,by simpa using B,trivial⟩;have h0:sliceB 0 0 none (some (.int kd ((0:Nat):Int)))=some (0,0):=rfl;unfold fK;simp only[hu,aj,h0]
 ·obtain⟨sG,iE,h1,h2⟩:=age (kd:=kd) hu aj aI aZ;have aJ:(l.take q).length=q:=by simp;omega
  refine⟨_,h1,⟨λc ae=>B.1 c (List.mem_of_mem_take ae),.inr ⟨bM,ob,sG,iE,m,by rw[aJ],hm,λj aa=>?_⟩⟩,h2⟩;rw[ae j (by omega)]
  have:j<l.length:=by omega
  simp[List.getD,this,show j<q by omega]
end
theorem abz{g:Nat}{k:IntKind}{zs:List Int}{h:U}(aK:l9 g k zs h=true):g<h.aH/\(∃m,h.mt g=some m)/\∀i,i<zs.length->h.cell g i=some (.int k (zs.getD i 0)):=by
 unfold l9 at aK;simp only[Bool.and_eq_true] at aK;obtain⟨bd,aK⟩:=aK;have bd:g<h.aH:=by rw[Nat.blt_eq] at bd;exact bd
 split at aK<;>try(cases aK;done)
 rename_i o aq;split at aK<;>try(cases aK;done)
 split at aK<;>try(cases aK;done)
 rename_i ys fk;have PW:=Nc aK;subst PW;refine⟨bd,⟨o.mt,by unfold U.mt;rw[aq]⟩,λi hi=>?_⟩
 have:=Qu fk i (by simpa using hi)
 rw[Nat.zero_add] at this;unfold U.cell;rw[aq];simp only[this];simp[List.getD,hi]
theorem amH{g:Nat}{k:IntKind}{zs:List Int}{h h':U}(aO:h'.aH=h.aH)(aj:cW h h' g):l9 g k zs h'=l9 g k zs h:=by
 unfold l9;rw[aO,aj]
theorem PQ{w:World}{k:Nat}{m:o8}(h:(hj w).mt k=some m):k<(hj w).next:=by
 apply Nat.lt_of_not_le;intro hle;unfold U.mt at h;rw[Iu w hle] at h;cases h
end
end Go.Xe
namespace Go.Proofs.YtomialandfplkaaDoor.Eva
open Go.Xe
noncomputable section
variable{C:ad}{lf:Nat}{bc a6 gi hJ gj hK qF qG qH qI qJ qK qC qD qE:gD}{ar:kR}
noncomputable def Zy:ca ax:=⟨24,Tryd.f24,λr=>bif Nat.beq r 1 then .news [0,2,1,3,4,5] [1,3] [] else .text,Tryd.func24,by kernel_rfl,by kernel_rfl,by kernel_rfl,by kernel_rfl⟩
noncomputable def NB(x2:O)(h:U):ab:=
 ob x2 λa=>ob (iD 2 a h) λa=>some (.ret a,h)
noncomputable def SB(C:ad)(lf:Nat)(r:aC)(x0:O)(h:U):ab:=
 b2 (q5 ax 44 h) λa k=>A5 [1,3] 6 k λb k=>ob x0 λc=>ob x0 λd=>fg (kj b c&&kj b c) (b2 (si (mU ax 41 c c) b 1 k) λc k=>fg (kj b d&&kj b d) (b2 (si (mU ax 42 d d) b 3 k) λb k=>ob (ib ax 44 [0,1] [c,b]) λb=>ob (st 2 a b k) (r (some a))))
theorem asZ{r:aC}:∀F h,au Zy C lf [] F h bc (aX r 2) ar=aX (SB C lf r) 0 F h:=by
 intro F h;kernel_rfl
def Hl(C:ad)(lf:Nat)(al:J)(h:U):ab:=SB C lf NB (some al) h
def aao:cK ax:=j8 Zy Hl (λC lf al h=>c8 (K:=(aX NB 2)) (by kernel_rfl) (Eq.trans (asZ _ h) (by kernel_rfl))) (by kernel_rfl)
def Zz:ca ax:=dv 29 Tryd.f29 Tryd.func29 (by kernel_rfl)
noncomputable def NC(x2:O)(h:U):ab:=
 ob x2 λa=>some (.ret a,h)
def SC(C:ad)(lf:Nat)(r:aC)(x0:O)(h:U):ab:=
 aQ C 63 x0 h λa k=>gx a (r (bE 0) k) (dI 0 x0 k λa=>r (some a) k)
theorem as0{r:aC}:∀F h,au Zz C lf [] F h bc (aX r 2) ar=aX (SC C lf r) 0 F h:=by
 intro F h;kernel_rfl
def Hm(C:ad)(lf:Nat)(al:J)(h:U):ab:=SC C lf NC (some al) h
def aap:cK ax:=j8 Zz Hm (λC lf al h=>c8 (K:=(aX NC 2)) (by kernel_rfl) (Eq.trans (as0 _ h) (by kernel_rfl))) (by kernel_rfl)
def ql:ca ax:=dv 30 Tryd.f30 Tryd.func30 (by kernel_rfl)
noncomputable def G6(x2:O)(h:U):ab:=
 ob x2 λa=>some (.ret a,h)
noncomputable def Jv(C:ad)(lf:Nat)(r:aC)(x3:O)(h:U):ab:=
 ob x3 λa=>r (some a) h
theorem as8{r:aC}:∀F h,au ql C lf [1,1,1] F h bc (aX r 2) ar=aX (Jv C lf r) 3 F h:=by
 intro F h;kernel_rfl
def EB(C:ad)(lf:Nat)(n:br)(aB:aC)(x3 x9 aW x11:O)(h:U):ab:=
 lX .lss 3 x11 aW (ob x9 λa=>r4 1 a x11 h λa=>gx a (cB .add 3 x3 (I 1) λa=>cB .add 3 x11 (I 1) λb=>n (some a) x9 aW (some b) h) (cB .add 3 x11 (I 1) λa=>n x3 x9 aW (some a) h)) (aB x3 h)
theorem as1{n:br}{aB:aC}:∀F h,au ql C lf [1,1,0,1,0,0] F h (bm n 3 9 10 11) a6 (bS 0 (aX aB 3) ar)=bm (EB C lf n aB) 3 9 10 11 F h:=by
 intro F h;kernel_rfl
def AQ(C:ad)(lf:Nat)(aB:aC)(k:O×O×O×O->U->ab)(s:O×O×O×O)(h:U):ab:=
 EB C lf (λa b c d=>k (a,b,c,d)) aB s.1 s.2.1 s.2.2.1 s.2.2.2 h
def SD(C:ad)(lf:Nat)(n:br)(x0 x3:O)(h:U):ab:=
 dI 0 x0 h λa=>mg 41 a λb=>n x3 (some a) (some b) (bE 0) h
theorem as2{n:br}:∀F h,au ql C lf [1,1,0,0] F h (bm n 3 9 10 11) a6 ar=bf (SD C lf n) 0 3 F h:=by
 intro F h;kernel_rfl
def SE(C:ad)(lf:Nat)(n:aC)(x0 x3:O)(h:U):ab:=
 SD C lf (λa b c d=>bp (AQ C lf n) lf (a,b,c,d)) x0 x3 h
theorem as3{n:aC}:∀F h,au ql C lf [1,1,0] F h (aX n 3) a6 ar=bf (SE C lf n) 0 3 F h:=bn (b:=b9 ql [1,1,0,1]) (by kernel_rfl) (fX (id:=0) (a:=b9 ql [1,1,0,1,0]) (by kernel_rfl) (gX (g:=λF=>(F 3,F 9,F 10,F 11)) (body:=AQ C lf n) (by kernel_rfl) (λk=>(as1 (n:=λx3 x9 aW x11 h=>k (x3,x9,aW,x11) h))))) (as2 (n:=λx3 x9 aW x11 h=>bp (AQ C lf n) lf (x3,x9,aW,x11) h))
def SF(C:ad)(lf:Nat)(r:aC)(x0 x3:O)(h:U):ab:=
 SE C lf (Jv C lf r) x0 x3 h
theorem as4{r:aC}:∀F h,au ql C lf [1,1] F h bc (aX r 2) ar=bf (SF C lf r) 0 3 F h:=bn (by kernel_rfl) as8 as3
def SG(C:ad)(lf:Nat)(n:a0)(x0:O)(h:U):ab:=
 n x0 (bE 0) h
theorem as5{n:a0}:∀F h,au ql C lf [1,0] F h (bf n 0 3) a6 ar=aX (SG C lf n) 0 F h:=by
 intro F h;kernel_rfl
def SH(C:ad)(lf:Nat)(r:aC)(x0:O)(h:U):ab:=
 SG C lf (SF C lf r) x0 h
theorem as6{r:aC}:∀F h,au ql C lf [1] F h bc (aX r 2) ar=aX (SH C lf r) 0 F h:=bn (by kernel_rfl) as4 as5
noncomputable def SI(C:ad)(lf:Nat)(n:aC)(x0:O)(h:U):ab:=
 n x0 h
theorem as7{n:aC}:∀F h,au ql C lf [0] F h (aX n 0) a6 ar=aX (SI C lf n) 0 F h:=by
 intro F h;kernel_rfl
def SJ(C:ad)(lf:Nat)(r:aC)(x0:O)(h:U):ab:=
 SI C lf (SH C lf r) x0 h
theorem as9{r:aC}:∀F h,au ql C lf [] F h bc (aX r 2) ar=aX (SJ C lf r) 0 F h:=bn (by kernel_rfl) as6 as7
def Hn(C:ad)(lf:Nat)(al:J)(h:U):ab:=SJ C lf G6 (some al) h
def aaq:cK ax:=j8 ql Hn (λC lf al h=>c8 (K:=(aX G6 2)) (by kernel_rfl) (Eq.trans (as9 _ h) (by kernel_rfl))) (by kernel_rfl)
def qm:ca ax:=dv 31 Tryd.f31 Tryd.func31 (by kernel_rfl)
noncomputable def xA(bV:O)(h:U):ab:=
 ob bV λa=>some (.ret a,h)
noncomputable def Jw(C:ad)(lf:Nat)(r:aC)(h:U):ab:=
 r (some (.bool true)) h
theorem atc{r:aC}:∀F h,au qm C lf [1,1,1] F h bc (aX r 4) ar=dZ (Jw C lf r) F h:=by
 intro F h;kernel_rfl
def Bb(C:ad)(lf:Nat)(n:br)(r:aC)(aB:cq)(x0 x1 x12 eS:O)(h:U):ab:=
 lX .lss 3 eS x12 (ob eS λa=>ob x0 λb=>ob (dD 1 b a) λb=>ob (b0 b h) λb=>ob x1 λc=>ob (dD 1 c a) λa=>ob (b0 a h) λa=>eF .neq 3 b a (r (some (.bool false)) h) (cB .add 3 eS (I 1) λa=>n x0 x1 x12 (some a) h)) (aB h)
theorem ata{n:br}{r:aC}{aB:cq}:∀F h,au qm C lf [1,1,0,1,0,0] F h (bm n 0 1 12 13) (aX r 4) (bS 0 (dZ aB) ar)=bm (Bb C lf n r aB) 0 1 12 13 F h:=by
 intro F h;kernel_rfl
def tj(C:ad)(lf:Nat)(r:aC)(aB:cq)(k:O×O×O×O->U->ab)(s:O×O×O×O)(h:U):ab:=
 Bb C lf (λa b c d=>k (a,b,c,d)) r aB s.1 s.2.1 s.2.2.1 s.2.2.2 h
def SK(C:ad)(lf:Nat)(n:br)(x0 x1:O)(h:U):ab:=
 mO 33 x0 λa=>n x0 x1 (some a) (bE 0) h
theorem atb{n:br}:∀F h,au qm C lf [1,1,0,0] F h (bm n 0 1 12 13) a6 ar=bf (SK C lf n) 0 1 F h:=by
 intro F h;kernel_rfl
def SL(C:ad)(lf:Nat)(n:cq)(r:aC)(x0 x1:O)(h:U):ab:=
 SK C lf (λa b c d=>bp (tj C lf r n) lf (a,b,c,d)) x0 x1 h
theorem atd{n:cq}{r:aC}:∀F h,au qm C lf [1,1,0] F h (dZ n) (aX r 4) ar=bf (SL C lf n r) 0 1 F h:=bn (b:=b9 qm [1,1,0,1]) (by kernel_rfl) (fX (id:=0) (a:=b9 qm [1,1,0,1,0]) (by kernel_rfl) (gX (g:=λF=>(F 0,F 1,F 12,F 13)) (body:=tj C lf r n) (by kernel_rfl) (λk=>(ata (n:=λx0 x1 x12 eS h=>k (x0,x1,x12,eS) h))))) (atb (n:=λx0 x1 x12 eS h=>bp (tj C lf r n) lf (x0,x1,x12,eS) h))
def SM(C:ad)(lf:Nat)(r:aC)(x0 x1:O)(h:U):ab:=
 SL C lf (Jw C lf r) r x0 x1 h
theorem ate{r:aC}:∀F h,au qm C lf [1,1] F h bc (aX r 4) ar=bf (SM C lf r) 0 1 F h:=bn (by kernel_rfl) atc atd
def SN(C:ad)(lf:Nat)(n:a0)(r:aC)(x0 x1:O)(h:U):ab:=
 mO 33 x0 λa=>mO 33 x1 λb=>eF .neq 3 a b (r (some (.bool false)) h) (n x0 x1 h)
theorem atf{n:a0}{r:aC}:∀F h,au qm C lf [1,0] F h (bf n 0 1) (aX r 4) ar=bf (SN C lf n r) 0 1 F h:=by
 intro F h;kernel_rfl
def SO(C:ad)(lf:Nat)(r:aC)(x0 x1:O)(h:U):ab:=
 SN C lf (SM C lf r) r x0 x1 h
theorem atg{r:aC}:∀F h,au qm C lf [1] F h bc (aX r 4) ar=bf (SO C lf r) 0 1 F h:=bn (by kernel_rfl) ate atf
noncomputable def SP(C:ad)(lf:Nat)(n:a0)(x0 x1:O)(h:U):ab:=
 n x0 x1 h
theorem ath{n:a0}:∀F h,au qm C lf [0] F h (bf n 0 1) a6 ar=bf (SP C lf n) 0 1 F h:=by
 intro F h;kernel_rfl
def SQ(C:ad)(lf:Nat)(r:aC)(x0 x1:O)(h:U):ab:=
 SP C lf (SO C lf r) x0 x1 h
theorem ati{r:aC}:∀F h,au qm C lf [] F h bc (aX r 4) ar=bf (SQ C lf r) 0 1 F h:=bn (by kernel_rfl) atg ath
def Ho(C:ad)(lf:Nat)(al an:J)(h:U):ab:=SQ C lf xA (some al) (some an) h
def aar:cK ax:=hP qm Ho (λC lf al an h=>c8 (K:=(aX xA 4)) (by kernel_rfl) (Eq.trans (ati _ h) (by kernel_rfl))) (by kernel_rfl)
noncomputable def sU:ca ax:=⟨66,Tryd.f66,λr=>bif Nat.beq r 6 then .ord [0,1,2,4,3,5,6,7] [(5,[3])] else .text,Tryd.func66,by kernel_rfl,by kernel_rfl,by kernel_rfl,by kernel_rfl⟩
noncomputable def vy(x2 x3:O)(h:U):ab:=
 ob x2 λa=>ob x3 λb=>some (.ret (.bo [a,b]),h)
def EJ(C:ad)(lf:Nat)(r:a0)(h:U):ab:=
 r (bE 0) (bE 28) h
theorem auN{r:a0}:∀F h,au sU C lf [1,1] F h bc (bf r 2 3) ar=dZ (EJ C lf r) F h:=by
 intro F h;kernel_rfl
def Bi(C:ad)(lf:Nat)(n:br)(r:a0)(aB:cq)(x0 x9 aW x11:O)(h:U):ab:=
 lX .lss 3 x11 aW (ob x11 λa=>ob x9 λb=>r4 1 b x11 h λb=>gx b (dI 0 x0 h λb=>ob (dD 1 b a) λb=>ob (st 1 b (.bool true) h) λk=>gO 1 x0 λb=>ob (b0 b k) λc=>b2 (mU ax 24 (I 64) (I 64) k) λd l=>fg (fY [(3,cv (some b))] k l [3]) (ob (dD 1 c a) λb=>ob (st 1 b d l) (r (some a) (bE 0)))) (cB .add 3 x11 (I 1) λa=>n x0 x9 aW (some a) h)) (aB h)
theorem auM{n:br}{r:a0}{aB:cq}:∀F h,au sU C lf [1,0,1,0,0] F h (bm n 0 9 10 11) (bf r 2 3) (bS 0 (dZ aB) ar)=bm (Bi C lf n r aB) 0 9 10 11 F h:=by
 intro F h;kernel_rfl
def rW(C:ad)(lf:Nat)(r:a0)(aB:cq)(k:O×O×O×O->U->ab)(s:O×O×O×O)(h:U):ab:=
 Bi C lf (λa b c d=>k (a,b,c,d)) r aB s.1 s.2.1 s.2.2.1 s.2.2.2 h
def TG(C:ad)(lf:Nat)(n:br)(x0:O)(h:U):ab:=
 dI 0 x0 h λa=>mg 41 a λb=>n x0 (some a) (some b) (bE 0) h
theorem auO{n:br}:∀F h,au sU C lf [1,0,0] F h (bm n 0 9 10 11) a6 ar=aX (TG C lf n) 0 F h:=by
 intro F h;kernel_rfl
def TH(C:ad)(lf:Nat)(n:cq)(r:a0)(x0:O)(h:U):ab:=
 TG C lf (λa b c d=>bp (rW C lf r n) lf (a,b,c,d)) x0 h
theorem auP{n:cq}{r:a0}:∀F h,au sU C lf [1,0] F h (dZ n) (bf r 2 3) ar=aX (TH C lf n r) 0 F h:=bn (b:=b9 sU [1,0,1]) (by kernel_rfl) (fX (id:=0) (a:=b9 sU [1,0,1,0]) (by kernel_rfl) (gX (g:=λF=>(F 0,F 9,F 10,F 11)) (body:=rW C lf r n) (by kernel_rfl) (λk=>(auM (n:=λx0 x9 aW x11 h=>k (x0,x9,aW,x11) h))))) (auO (n:=λx0 x9 aW x11 h=>bp (rW C lf r n) lf (x0,x9,aW,x11) h))
def TI(C:ad)(lf:Nat)(r:a0)(x0:O)(h:U):ab:=
 TH C lf (EJ C lf r) r x0 h
theorem auQ{r:a0}:∀F h,au sU C lf [1] F h bc (bf r 2 3) ar=aX (TI C lf r) 0 F h:=bn (by kernel_rfl) auN auP
noncomputable def TJ(C:ad)(lf:Nat)(n:aC)(x0:O)(h:U):ab:=
 n x0 h
theorem auR{n:aC}:∀F h,au sU C lf [0] F h (aX n 0) a6 ar=aX (TJ C lf n) 0 F h:=by
 intro F h;kernel_rfl
def TK(C:ad)(lf:Nat)(r:a0)(x0:O)(h:U):ab:=
 TJ C lf (TI C lf r) x0 h
theorem auS{r:a0}:∀F h,au sU C lf [] F h bc (bf r 2 3) ar=aX (TK C lf r) 0 F h:=bn (by kernel_rfl) auQ auR
def Ac(C:ad)(lf:Nat)(al:J)(h:U):ab:=TK C lf vy (some al) h
def aaK:cK ax:=j8 sU Ac (λC lf al h=>c8 (K:=(bf vy 2 3)) (by kernel_rfl) (Eq.trans (auS _ h) (by kernel_rfl))) (by kernel_rfl)
def ZW:ca ax:=dv 67 Tryd.f67 Tryd.func67 (by kernel_rfl)
noncomputable def NZ(bV:O)(h:U):ab:=
 ob bV λa=>some (.ret a,h)
def TL(C:ad)(lf:Nat)(r:aC)(x0 x1:O)(h:U):ab:=
 a3 C 72 x0 x1 h λa k=>gx a (r (bE 22) k) (dI 0 x0 k λa=>mh 1 a x1 λa=>ob (st 1 a (.bool false) k) (r (bE 0)))
theorem auT{r:aC}:∀F h,au ZW C lf [] F h bc (aX r 4) ar=bf (TL C lf r) 0 1 F h:=by
 intro F h;kernel_rfl
def CO(C:ad)(lf:Nat)(al an:J)(h:U):ab:=TL C lf NZ (some al) (some an) h
def aaL:cK ax:=hP ZW CO (λC lf al an h=>c8 (K:=(aX NZ 4)) (by kernel_rfl) (Eq.trans (auT _ h) (by kernel_rfl))) (by kernel_rfl)
def ow:ca ax:=dv 69 Tryd.f69 Tryd.func69 (by kernel_rfl)
noncomputable def G8(x2 x3:O)(h:U):ab:=
 ob x2 λa=>ob x3 λb=>some (.ret (.bo [a,b]),h)
def JR(C:ad)(lf:Nat)(r:a0)(x0 bV:O)(h:U):ab:=
 ob bV λa=>ob bV λb=>mO 24 x0 λc=>cm .add 3 c (I 1) λc=>ob (fK ax 24 b (bE 1) (some c)) λb=>r (some a) (some b) h
theorem au4{r:a0}:∀F h,au ow C lf [1,1,1,1] F h bc (bf r 2 3) ar=bf (JR C lf r) 0 4 F h:=by
 intro F h;kernel_rfl
def EK(C:ad)(lf:Nat)(n:dq)(aB:a0)(x0 bV ih np o2:O)(h:U):ab:=
 lX .lss 3 o2 np (ob o2 λa=>ob ih λb=>r4 1 b o2 h λb=>ob bV λc=>cm .add 3 a (I 1) λa=>ob (dD 1 c a) λa=>ob (st 1 a b h) λk=>cB .add 3 o2 (I 1) λa=>n x0 bV ih np (some a) k) (aB x0 bV h)
theorem auU{n:dq}{aB:a0}:∀F h,au ow C lf [1,1,1,0,1,0,0] F h (dj n 0 4 18 19 20) a6 (bS 0 (bf aB 0 4) ar)=dj (EK C lf n aB) 0 4 18 19 20 F h:=by
 intro F h;kernel_rfl
def AR(C:ad)(lf:Nat)(aB:a0)(k:O×O×O×O×O->U->ab)(s:O×O×O×O×O)(h:U):ab:=
 EK C lf (λa b c d g=>k (a,b,c,d,g)) aB s.1 s.2.1 s.2.2.1 s.2.2.2.1 s.2.2.2.2 h
def TM(C:ad)(lf:Nat)(n:dq)(x0 bV:O)(h:U):ab:=
 ob x0 λa=>mg 24 a λb=>n x0 bV (some a) (some b) (bE 0) h
theorem auV{n:dq}:∀F h,au ow C lf [1,1,1,0,0] F h (dj n 0 4 18 19 20) a6 ar=bf (TM C lf n) 0 4 F h:=by
 intro F h;kernel_rfl
def TN(C:ad)(lf:Nat)(n:a0)(x0 bV:O)(h:U):ab:=
 TM C lf (λa b c d g=>bp (AR C lf n) lf (a,b,c,d,g)) x0 bV h
theorem auW{n:a0}:∀F h,au ow C lf [1,1,1,0] F h (bf n 0 4) a6 ar=bf (TN C lf n) 0 4 F h:=bn (b:=b9 ow [1,1,1,0,1]) (by kernel_rfl) (fX (id:=0) (a:=b9 ow [1,1,1,0,1,0]) (by kernel_rfl) (gX (g:=λF=>(F 0,F 4,F 18,F 19,F 20)) (body:=AR C lf n) (by kernel_rfl) (λk=>(auU (n:=λx0 bV ih np o2 h=>k (x0,bV,ih,np,o2) h))))) (auV (n:=λx0 bV ih np o2 h=>bp (AR C lf n) lf (x0,bV,ih,np,o2) h))
def TO(C:ad)(lf:Nat)(r:a0)(x0 bV:O)(h:U):ab:=
 TN C lf (JR C lf r) x0 bV h
theorem auX{r:a0}:∀F h,au ow C lf [1,1,1] F h bc (bf r 2 3) ar=bf (TO C lf r) 0 4 F h:=bn (by kernel_rfl) au4 auW
def TP(C:ad)(lf:Nat)(n:a0)(x0 bV:O)(h:U):ab:=
 ob bV λa=>ob bV λb=>mO 24 x0 λc=>cm .add 3 c (I 1) λc=>ob (dD 1 a (I 0)) λa=>ob (st 1 a (.int .u8 165) h) λk=>ob (dD 1 b c) λa=>ob (st 1 a (.int .u8 90) k) (n x0 bV)
theorem auY{n:a0}:∀F h,au ow C lf [1,1,0] F h (bf n 0 4) a6 ar=bf (TP C lf n) 0 4 F h:=by
 intro F h;kernel_rfl
def TQ(C:ad)(lf:Nat)(r:a0)(x0 bV:O)(h:U):ab:=
 TP C lf (TO C lf r) x0 bV h
theorem auZ{r:a0}:∀F h,au ow C lf [1,1] F h bc (bf r 2 3) ar=bf (TQ C lf r) 0 4 F h:=bn (by kernel_rfl) auX auY
def TR(C:ad)(lf:Nat)(n:a0)(x0:O)(h:U):ab:=
 mO 24 x0 λa=>cm .add 3 a (I 2) λa=>b2 (mU ax 24 a a h) λa=>n x0 (some a)
theorem au0{n:a0}:∀F h,au ow C lf [1,0] F h (bf n 0 4) a6 ar=aX (TR C lf n) 0 F h:=by
 intro F h;kernel_rfl
def TS(C:ad)(lf:Nat)(r:a0)(x0:O)(h:U):ab:=
 TR C lf (TQ C lf r) x0 h
theorem au1{r:a0}:∀F h,au ow C lf [1] F h bc (bf r 2 3) ar=aX (TS C lf r) 0 F h:=bn (by kernel_rfl) auZ au0
noncomputable def TT(C:ad)(lf:Nat)(n:aC)(x0:O)(h:U):ab:=
 n x0 h
theorem au2{n:aC}:∀F h,au ow C lf [0] F h (aX n 0) a6 ar=aX (TT C lf n) 0 F h:=by
 intro F h;kernel_rfl
def TU(C:ad)(lf:Nat)(r:a0)(x0:O)(h:U):ab:=
 TT C lf (TS C lf r) x0 h
theorem au3{r:a0}:∀F h,au ow C lf [] F h bc (bf r 2 3) ar=aX (TU C lf r) 0 F h:=bn (by kernel_rfl) au1 au2
def HC(C:ad)(lf:Nat)(al:J)(h:U):ab:=TU C lf G8 (some al) h
def aaM:cK ax:=j8 ow HC (λC lf al h=>c8 (K:=(bf G8 2 3)) (by kernel_rfl) (Eq.trans (au3 _ h) (by kernel_rfl))) (by kernel_rfl)
def ZX:ca ax:=dv 71 Tryd.f71 Tryd.func71 (by kernel_rfl)
noncomputable def N0(bV:O)(h:U):ab:=
 ob bV λa=>some (.ret a,h)
def TV(C:ad)(lf:Nat)(r:aC)(x0 x1:O)(h:U):ab:=
 mO 24 x0 λa=>mO 24 x1 λb=>cm .add 3 b (I 2) λb=>cm .eql 3 a b λa=>dP (dL true (some a) (ob x0 λa=>some (.ret a,h)) h) λb k=>dP (dL true (some a) (ob (dD 1 b (I 0)) λa=>some (.ret a,k)) k) λb k=>dP (dL true (some a) (ob (b0 b k) λa=>some (.ret a,k)) k) λb k=>dP (dL true (some a) (cm .eql 5 b (.int .u8 165) λa=>some (.ret a,k)) k) λb k=>h9 a b λa=>dP (dL true (some a) (ob x0 λa=>some (.ret a,k)) k) λb k=>dP (dL true (some a) (ob x1 λa=>some (.ret a,k)) k) λc k=>dP (dL true (some a) (mg 24 c λa=>some (.ret a,k)) k) λc k=>dP (dL true (some a) (cm .add 3 c (I 1) λa=>some (.ret a,k)) k) λc k=>dP (dL true (some a) (ob (dD 1 b c) λa=>some (.ret a,k)) k) λb k=>dP (dL true (some a) (ob (b0 b k) λa=>some (.ret a,k)) k) λb k=>dP (dL true (some a) (cm .eql 5 b (.int .u8 90) λa=>some (.ret a,k)) k) λb k=>h9 a b λa=>dP (dL true (some a) (ob x0 λa=>some (.ret a,k)) k) λb k=>dP (dL true (some a) (ob x1 λa=>some (.ret a,k)) k) λc k=>dP (dL true (some a) (mg 24 c λa=>some (.ret a,k)) k) λc k=>dP (dL true (some a) (cm .add 3 c (I 1) λa=>some (.ret a,k)) k) λc k=>dP (dL true (some a) (ob (fK ax 24 b (bE 1) (some c)) λa=>some (.ret a,k)) k) λb k=>dP (dL true (some a) (b2 (q8 ax 24 9 b k) λa k=>some (.ret a,k)) k) λb k=>dP (dL true (some a) (ob x1 λa=>some (.ret a,k)) k) λc k=>dP (dL true (some a) (b2 (q8 ax 24 9 c k) λa k=>some (.ret a,k)) k) λc k=>dP (dL true (some a) (cm .eql 9 b c λa=>some (.ret a,k)) k) λb k=>h9 a b λa=>r (some a) k
theorem au5{r:aC}:∀F h,au ZX C lf [] F h bc (aX r 4) ar=bf (TV C lf r) 0 1 F h:=by
 intro F h;kernel_rfl
def HD(C:ad)(lf:Nat)(al an:J)(h:U):ab:=TV C lf N0 (some al) (some an) h
def aaN:cK ax:=hP ZX HD (λC lf al an h=>c8 (K:=(aX N0 4)) (by kernel_rfl) (Eq.trans (au5 _ h) (by kernel_rfl))) (by kernel_rfl)
def ZY:ca ax:=dv 72 Tryd.f72 Tryd.func72 (by kernel_rfl)
noncomputable def N1(bV:O)(h:U):ab:=
 ob bV λa=>some (.ret a,h)
def TW(C:ad)(lf:Nat)(r:aC)(x0 x1:O)(h:U):ab:=
 cB .geq 3 x1 (I 0) λa=>b8 a x1 h λb k=>ug 0 a x0 k λc k=>b8 a (eN ax 41 c) k λc k=>b8 a (bin ax .lss 3 b c) k λb k=>h9 a b λa=>ug 0 a x0 k λb k=>b8 a x1 k λc k=>b8 a (dD 1 b c) k λb k=>b8 a (b0 b k) k λb k=>h9 a b λa=>r (some a) k
theorem au6{r:aC}:∀F h,au ZY C lf [] F h bc (aX r 4) ar=bf (TW C lf r) 0 1 F h:=by
 intro F h;kernel_rfl
def HE(C:ad)(lf:Nat)(al an:J)(h:U):ab:=TW C lf N1 (some al) (some an) h
def aaO:cK ax:=hP ZY HE (λC lf al an h=>c8 (K:=(aX N1 4)) (by kernel_rfl) (Eq.trans (au6 _ h) (by kernel_rfl))) (by kernel_rfl)
end
structure wV (h:U) (x:J) (q:Nat) (b:Nat->Nat) (i:Nat):Prop where
 aY:∃cap lo,x= .aY q 0 64 cap lo
 ok:mn x
 w:h.wr q 64
 cs:∀j,j<64->h.cell q j=some (.int .u8 (b (i*64+j):Int))
 lt:q<h.next
def pb(h:U)(x:J)(k:Nat)(b:Nat->Nat)(i:Nat)(o:Bool):Prop:=wV h x k b i\/(o=false/\(∃cap lo,x= .aY k 0 0 cap lo)/\(∃N,h.wr k N)/\k<h.next)
structure sv (h:U) (x0 x1:J) (ro rb n:Nat) (on:Nat->Bool) (q:Nat->Option Nat) (b:Nat->Nat):Prop where
 cI:1<=n
 cF:n<=4096
 aB:∃cap lo,x0= .aY ro 0 n cap lo
 az:∃cap lo,x1= .aY rb 0 n cap lo
 uS:h.wr ro n
 BF:h.wr rb n
 vu:∀i,i<n->h.cell ro i=some (.bool (on i))
 off:∀i,i<n->q i=none->on i=false/\h.cell rb i=some (.val (.slice none 0 0))
 has:∀i k,i<n->q i=some k->k≠ro/\k≠rb/\∃x,h.cell rb i=some x/\pb h x k b i (on i)
 inj:∀i j k,i<n->j<n->q i=some k->q j=some k->i=j
 ne:ro≠rb
 uC:ro<h.next
 tl:rb<h.next
 blt:∀j,b j<256
structure gV (h:U) (r ro rb n:Nat) (on:Nat->Bool) (q:Nat->Option Nat) (b:Nat->Nat):Prop where
 v:∃x0 x1,h.cell r 0=some x0/\h.cell r 1=some x1/\sv h x0 x1 ro rb n on q b
 wr:∃M,2<=M/\h.wr r M
 tq:r≠ro
 pL:r≠rb
 qP:∀i k,i<n->q i=some k->k≠r
 lt:r<h.next
def Kt(ro rb n:Nat)(q:Nat->Option Nat)(j:Nat):Prop:=j=ro\/j=rb\/∃i,i<n/\q i=some j
def Ks(r ro rb n:Nat)(q:Nat->Option Nat)(j:Nat):Prop:=j=r\/Kt ro rb n q j
section
variable{lf m:Nat}{h:U}{r ro rb n:Nat}{on:Nat->Bool}{q:Nat->Option Nat}{b:Nat->Nat}{x0 x1:J}
theorem hc{h h':U}{k N:Nat}(w:h.wr k N)(e:cW h h' k):h'.wr k N:=let ⟨m,a,c⟩:=w;⟨m,by rw[e.mt];exact a,c⟩
theorem wV.frame{x:J}{k i:Nat}(A:wV h x k b i){h':U}(aO:h.next<=h'.next)(e:cW h h' k):wV h' x k b i:=
 ⟨A.aY,A.ok,hc A.w e,λj aa=>by rw[e.cell];exact A.cs j aa,Nat.lt_of_lt_of_le A.lt aO⟩
theorem pb.lt{x:J}{k i:Nat}{o:Bool}(A:pb h x k b i o):k<h.next:=by
 rcases A with A|⟨_,_,_,A⟩
 ·exact A.lt
 ·exact A
theorem pb.row{x:J}{k i:Nat}{o:Bool}(A:pb h x k b i o):rowOf x=some k:=by
 rcases A with A|⟨_,⟨cap,lo,rfl⟩,_,_⟩
 ·obtain⟨cap,lo,rfl⟩:=A.aY;rfl
 ·rfl
theorem pb.jF{x:J}{k i:Nat}{o:Bool}(A:pb h x k b i o)(aq:o=true):wV h x k b i:=by
 rcases A with A|⟨e,_⟩
 ·exact A
 ·rw[aq] at e;cases e
theorem pb.frame{x:J}{k i:Nat}{o:Bool}(A:pb h x k b i o){h':U}(aO:h.next<=h'.next)(e:cW h h' k):pb h' x k b i o:=by
 rcases A with A|⟨h1,h2,⟨N,h3⟩,aU⟩
 ·exact .inl (A.frame aO e)
 ·exact .inr ⟨h1,h2,⟨N,hc h3 e⟩,Nat.lt_of_lt_of_le aU aO⟩
theorem pb.off{x:J}{k i:Nat}{o o':Bool}(A:pb h x k b i o)(aq:o'=o\/o'=false):pb h x k b i o':=by
 rcases A with A|⟨h1,h2⟩
 ·exact .inl A
 ·refine .inr ⟨?_,h2⟩;rcases aq with e|e
  ·rw[e];exact h1
  ·exact e
theorem sv.frame(A:sv h x0 x1 ro rb n on q b){h':U}(aO:h.next<=h'.next)(aj:∀j,Kt ro rb n q j->cW h h' j):sv h' x0 x1 ro rb n on q b:=by
 have KA:=aj ro (.inl rfl);have uH:=aj rb (.inr (.inl rfl));refine⟨A.cI,A.cF,A.aB,A.az,hc A.uS KA,hc A.BF uH,λi hi=>by rw[KA.cell];exact A.vu i hi,λi hi aZ=>by rw[uH.cell];exact A.off i hi aZ,λi k hi aZ=>?_,A.inj,A.ne,Nat.lt_of_lt_of_le A.uC aO,Nat.lt_of_lt_of_le A.tl aO,A.blt⟩;obtain⟨h1,h2,x,h3,aU⟩:=A.has i k hi aZ;exact⟨h1,h2,x,by rw[uH.cell];exact h3,aU.frame aO (aj k (.inr (.inr ⟨i,hi,aZ⟩)))⟩
theorem gV.frame(A:gV h r ro rb n on q b){h':U}(aO:h.next<=h'.next)(aj:∀j,Ks r ro rb n q j->cW h h' j):gV h' r ro rb n on q b:=by
 have uK:=aj r (.inl rfl);obtain⟨x0,x1,c0,aQ,V⟩:=A.v;exact⟨⟨x0,x1,by rw[uK.cell];exact c0,by rw[uK.cell];exact aQ,V.frame aO λj aa=>aj j (.inr aa)⟩,(let ⟨M,a,c⟩:=A.wr;⟨M,a,hc c uK⟩),A.tq,A.pL,A.qP,Nat.lt_of_lt_of_le A.lt aO⟩
theorem sv.kK(A:sv h x0 x1 ro rb n on q b){j:Nat}(aa:Kt ro rb n q j):j<h.next:=by
 rcases aa with rfl|rfl|⟨i,hi,aZ⟩
 ·exact A.uC
 ·exact A.tl
 ·obtain⟨_,_,x,_,B⟩:=A.has i j hi aZ;exact B.lt
theorem gV.kK(A:gV h r ro rb n on q b){j:Nat}(aa:Ks r ro rb n q j):j<h.next:=by
 obtain⟨x0,x1,_,_,V⟩:=A.v;rcases aa with rfl|aa
 ·exact A.lt
 ·exact V.kK aa
theorem gV.iP(A:gV h r ro rb n on q b){h':U}{Q:Nat->Prop}(F:aN h h' Q)(aj:∀j,Ks r ro rb n q j->¬Q j):gV h' r ro rb n on q b:=
 A.frame F.next λj aa=>F.same j (A.kK aa) (aj j aa)
def k9(n:Nat)(on:Nat->Bool)(i:Int):Bool:=decide (0<=i)&&(decide (i<n)&&on i.toNat)
def L0(C:ad):Prop:=∀h r ro rb n on q b i,gV h r ro rb n on q b->C (.fn 72) [.ptr r 0,I i] h=some (.ret (.bool (k9 n on i)),h)
theorem yD{t e k off len lo:Nat}{cap:Option Nat}(hu:(ax).underlying t=some (.slice e)):eN ax t (.aY k off len cap lo)=some (I (len:Int)):=by simp[eN,hu]
theorem ayK{C:ad}(A:gV h r ro rb n on q b){i:Int}:HE C lf (.ptr r 0) (I i) h=some (.ret (.bool (k9 n on i)),h):=by
 obtain⟨x0,x1,c0,aQ,V⟩:=A.v;obtain⟨cap,lo,rfl⟩:=V.aB;have aJ:=yD (k:=ro) (off:=0) (len:=n) (cap:=cap) (lo:=lo) Tryd.underlying41;unfold HE TW N1;by_cases h1:0<=i
 ·by_cases h2:i<n
  ·have b3:=gL (s:=1) (k:=ro) (off:=0) (len:=n) (lo:=lo) (cap:=cap) (kd:= .i64) (i:=i) h1 (by omega);have ae:=V.vu i.toNat (by omega);have e:k9 n on i=on i.toNat:=by simp[k9,h1,h2]
   simp only[aE,h1,h2,decide_true,c0,aJ,b3,ae,e]
  ·have e:k9 n on i=false:=by simp[k9,h2]
   simp only[aE,h1,h2,decide_true,decide_false,c0,aJ,e]
 ·have e:k9 n on i=false:=by simp[k9,h1]
  simp only[aE,h1,decide_false,e]
end
section
variable{lf m:Nat}{h:U}{r ro rb n:Nat}{on:Nat->Bool}{q:Nat->Option Nat}{b:Nat->Nat}{x0 x1:J}
def hp(on:Nat->Bool)(n:Nat):List Nat:=(List.range n).filter on
theorem Wb(on:Nat->Bool)(i:Nat):hp on (i+1)=hp on i++(if on i then[i] else[]):=by
 unfold hp;rw[List.range_succ,List.filter_append];cases h:on i<;>simp[List.filter,h]
theorem KX(on:Nat->Bool)(n:Nat):(hp on n).length<=n:=by
 have:=List.length_filter_le on (List.range n)
 simpa[hp] using this
def L1(C:ad):Prop:=∀h r ro rb n on q b,gV h r ro rb n on q b->C (.fn 30) [.ptr r 0] h=some (.ret (I ((n-(hp on n).length:Nat):Int)),h)
theorem afI{C:ad}{lf lo:Nat}{cap:Option Nat}(V:sv h x0 x1 ro rb n on q b)(aB:aC):∀(d i:Nat),i+d=n->∀f,d<f->
 bp (AQ C lf aB) f (some (I ((i-(hp on i).length:Nat):Int)),some (.aY ro 0 n cap lo),some (I (n:Int)),some (I (i:Int))) h=aB (some (I ((n-(hp on n).length:Nat):Int))) h
 |0,i,hw,f,ak=>by
  obtain⟨f,rfl⟩:=dE f (by omega)
  have:i=n:=by omega
  subst this;rw[dh];unfold AQ EB;have a8:decide ((i:Int)<(i:Int))=false:=by simp
  simp only[aE,a8]
 |d+1,i,hw,f,ak=>by
  obtain⟨f,rfl⟩:=dE f (by omega);have h2:=V.cF;have a8:decide ((i:Int)<(n:Int))=true:=bw (by omega);have dy:IntKind.i64.wrap ((i:Int)+1)=((i+1:Nat):Int):=cH (by omega);have b3:=gL (s:=1) (k:=ro) (off:=0) (len:=n) (lo:=lo) (cap:=cap) (kd:= .i64) (i:=(i:Int)) (by omega) (by omega);rw[Int.toNat_natCast,Nat.mul_one,Nat.zero_add] at b3;have ae:=V.vu i (by omega);have hle:=KX on i;have ba:=afI (lf:=lf) (C:=C) (lo:=lo) (cap:=cap) V aB d (i+1) (by omega) f (by omega);rw[dh];show EB C lf (λx3 x9 aW x11 h=>bp (AQ C lf aB) f (x3,x9,aW,x11) h) aB (some (I ((i-(hp on i).length:Nat):Int))) (some (.aY ro 0 n cap lo)) (some (I (n:Int))) (some (I (i:Int))) h=_;unfold EB;cases aq:on i with
  |true=>
   have e:i+1-(hp on (i+1)).length=i-(hp on i).length:=by rw[Wb,aq];simp
   rw[aq] at ae;rw[e] at ba;simp only[aE,a8,b3,ae,dy,Bool.not_true];exact ba
  |false=>
   have e:i+1-(hp on (i+1)).length=i-(hp on i).length+1:=by rw[Wb,aq];simp;omega
   rw[aq] at ae;rw[e] at ba;have jl:IntKind.i64.wrap (((i-(hp on i).length:Nat):Int)+1)=((i-(hp on i).length+1:Nat):Int):=cH (by omega);simp only[aE,a8,b3,ae,dy,Bool.not_false,jl];exact ba
theorem ayL{C:ad}(gf:4097<=lf)(A:gV h r ro rb n on q b):Hn C lf (.ptr r 0) h=some (.ret (I ((n-(hp on n).length:Nat):Int)),h):=by
 obtain⟨x0,x1,c0,aQ,V⟩:=A.v;obtain⟨cap,lo,rfl⟩:=V.aB;have h2:=V.cF;have aJ:=yD (k:=ro) (off:=0) (len:=n) (cap:=cap) (lo:=lo) Tryd.underlying41
 have:=afI (lf:=lf) (C:=C) (lo:=lo) (cap:=cap) V (λx3 h=>Jv C lf G6 x3 h) n 0 (by omega) lf (by omega)
 unfold Hn SJ SI SH SG SF SE SD;simp only[aE,c0,aJ];refine Eq.trans this ?_;unfold Jv G6;simp only[cg,cf]
def mr(h:U)(x:J)(l:List Nat):Prop:=l.length<=4096/\((x= .val (.slice none 0 0)/\l=[])\/∃k cap lo,x= .aY k 0 l.length cap lo/\∀j,j<l.length->h.cell k j=some (I ((l.getD j 0:Nat):Int)))
theorem fM.DT{h0 h:U}{x:J}{l:List Nat}(A:fM h0 h x l)(aJ:l.length<=4096):mr h x l:=by
 refine⟨aJ,?_⟩;rcases A.aY.2 with⟨h1,h2⟩|⟨k,h1,h2⟩
 ·exact .inl ⟨h1,List.eq_nil_of_length_eq_zero h2⟩
 ·refine .inr ⟨k,none,0,h1,λj aa=>?_⟩;rw[h2.cs j (by omega)];simp[ints,List.getD,aa]
theorem mr.frame{h h':U}{x:J}{l:List Nat}(A:mr h x l)(aj:∀k,rowOf x=some k->cW h h' k):mr h' x l:=by
 refine⟨A.1,?_⟩;rcases A.2 with h1|⟨k,cap,lo,rfl,h2⟩
 ·exact .inl h1
 ·exact .inr ⟨k,cap,lo,rfl,λj aa=>by rw[(aj k rfl).cell];exact h2 j aa⟩
theorem mr.len{x:J}{l:List Nat}(A:mr h x l):eN ax 33 x=some (I (l.length:Int)):=by
 rcases A.2 with⟨rfl,rfl⟩|⟨k,cap,lo,rfl,_⟩
 ·simp[eN,Tryd.underlying33,fC]
 ·simp[eN,Tryd.underlying33]
theorem mr.at{x:J}{l:List Nat}(A:mr h x l){i:Nat}(hi:i<l.length):∃a,dD 1 x (I (i:Int))=some a/\b0 a h=some (I ((l.getD i 0:Nat):Int)):=by
 rcases A.2 with⟨rfl,rfl⟩|⟨k,cap,lo,rfl,h2⟩
 ·simp at hi
 ·have b3:=gL (s:=1) (k:=k) (off:=0) (len:=l.length) (lo:=lo) (cap:=cap) (kd:= .i64) (i:=(i:Int)) (by omega) (by omega);rw[Int.toNat_natCast,Nat.mul_one,Nat.zero_add] at b3;exact⟨_,b3,h2 i hi⟩
def Md(C:ad):Prop:=∀h x y l dw,mr h x l->mr h y dw->C (.fn 31) [x,y] h=some (.ret (.bool (decide (l=dw))),h)
theorem acy{C:ad}{lf:Nat}{x y:J}{l dw:List Nat}(A:mr h x l)(B:mr h y dw)(kE:l.length=dw.length)(r:aC)(aB:cq):∀(d i:Nat),i+d=l.length->(∀j,j<i->l.getD j 0=dw.getD j 0)->∀f,d<f->
 (l=dw->bp (tj C lf r aB) f (some x,some y,some (I (l.length:Int)),some (I (i:Int))) h=aB h)/\
 (l≠dw->bp (tj C lf r aB) f (some x,some y,some (I (l.length:Int)),some (I (i:Int))) h=r (some (.bool false)) h)
 |0,i,hw,aa,f,ak=>by
  obtain⟨f,rfl⟩:=dE f (by omega)
  have:i=l.length:=by omega
  subst this;have a8:decide ((l.length:Int)<(l.length:Int))=false:=by simp
  refine⟨λ_=>?_,λbY=>?_⟩
  ·rw[dh];unfold tj Bb;simp only[aE,a8]
  ·exfalso;apply bY
   apply List.ext_getElem kE;intro j h1 h2
   have:=aa j h1
   simpa[List.getD,h1,h2] using this
 |d+1,i,hw,aa,f,ak=>by
  obtain⟨f,rfl⟩:=dE f (by omega);have h2:=A.1;have a8:decide ((i:Int)<(l.length:Int))=true:=bw (by omega);have dy:IntKind.i64.wrap ((i:Int)+1)=((i+1:Nat):Int):=cH (by omega);obtain⟨a,an,aD⟩:=A.at (i:=i) (by omega);obtain⟨c,bR,b2⟩:=B.at (i:=i) (by omega)
  have step:l.getD i 0=dw.getD i 0->bp (tj C lf r aB) (f+1) (some x,some y,some (I (l.length:Int)),some (I (i:Int))) h=bp (tj C lf r aB) f (some x,some y,some (I (l.length:Int)),some (I ((i+1:Nat):Int))) h:=λe=>by
   have bY:decide (((l.getD i 0:Nat):Int)≠((dw.getD i 0:Nat):Int))=false:=by rw[e];simp
   rw[dh];show Bb C lf (λx0 x1 x12 eS h=>bp (tj C lf r aB) f (x0,x1,x12,eS) h) r aB (some x) (some y) (some (I (l.length:Int))) (some (I (i:Int))) h=_;unfold Bb;simp only[cg,cf,ru,a8,q6,an,aD,bR,b2,Cf,bY,o4,sD,dy]
  by_cases e:l.getD i 0=dw.getD i 0
  ·obtain⟨i1,i2⟩:=acy (lf:=lf) (C:=C) A B kE r aB d (i+1) (by omega) (λj h1=>by
    by_cases aw:j=i
    ·rw[aw];exact e
    ·exact aa j (by omega)) f (by omega)
   exact⟨λh1=>(step e).trans (i1 h1),λh1=>(step e).trans (i2 h1)⟩
  ·refine⟨λh1=>absurd (by rw[h1]) e,λ_=>?_⟩;have bY:decide (((l.getD i 0:Nat):Int)≠((dw.getD i 0:Nat):Int))=true:=bw (by omega);rw[dh];unfold tj Bb;simp only[cg,cf,ru,a8,q6,an,aD,bR,b2,Cf,bY]
theorem aop{C:ad}{x y:J}{l dw:List Nat}(gf:4097<=lf)(A:mr h x l)(B:mr h y dw):Ho C lf x y h=some (.ret (.bool (decide (l=dw))),h):=by
 have h2:=A.1;have az:=A.len;have aw:=B.len;unfold Ho SQ SP SO SN;by_cases kE:l.length=dw.length
 ·have bY:decide ((l.length:Int)≠(dw.length:Int))=false:=by rw[kE];simp
  simp only[aE,az,aw,bY];unfold SM SL SK;simp only[aE,az];obtain⟨i1,i2⟩:=acy (lf:=lf) (C:=C) A B kE xA (λh=>Jw C lf xA h) l.length 0 (by omega) (λj aa=>by omega) lf (by omega);by_cases e:l=dw
  ·refine(i1 e).trans ?_;rw[bw e];unfold Jw xA;simp only[cg,cf]
  ·refine(i2 e).trans ?_;rw[bq e];unfold xA;simp only[cg,cf]
 ·have bY:decide ((l.length:Int)≠(dw.length:Int))=true:=bw (by omega);have e:l≠dw:=λe=>kE (by rw[e])
  simp only[aE,az,aw,bY,bq e];unfold xA;simp only[cg,cf]
end
end Go.Proofs.YtomialandfplkaaDoor.Eva
namespace Go.Xe
section
variable{P:Program}
theorem ao1(C:ad):lB C (qN C):=λc args h o h' e D=>by
 show(match C c args h with|some (o,h)=>some (o,h.bZ D)|none=>none)=_;rw[e]
theorem ajQ(h:U):clean (h.bZ [])=true:=rfl
theorem azl{tab:av (fR P)}{lf m k:Nat}{args:List J}{h h':U}{y:J}{o:bD}{st:LoopState}{ia:Jump}{ord:Nat->Hint}{me:FuncId}{N:Nat}{F:av J}{ps:Array Tmp}{a c:Code}{b:Nat}
 (aq:h.aS.get k=some o)(aj:o.sp= .loop st ia ord me N F ps a c b)(e:Bu P (ho tab lf m).call ord me k N lf F.get ps a c args h=some (.ret y,h')):(ho tab lf (m+1)).call (.fm k) args h=some (.ret y,h'):=by
 show E7 P (ho tab lf m) lf k args h=_;unfold E7;simp only[aq,aj,P6]
 have:=ayS (callf:=qN (ho tab lf m).call) (jump:=fF P (qN (ho tab lf m).call) ord me (some k) N lf lf) (ao1 _) (Ft:=F) (λt=>rfl) e []
 have aB:h.x0=h.bZ []:=rfl;rw[aB,this];unfold Fl;simp only[ajQ,cond_true];rfl
end
section
variable{P:Program}{t u e sz b:Nat}{h:U}
theorem afY{h h':U}{k:Nat}(ai:k<h.next)(hm:∃m,h.mt k=some m)(e:cW h h' k):Fa h h' k=true:=by
 obtain⟨m,hm⟩:=hm;have ag:Nat.blt k h.next=true:=by rw[Nat.blt_eq];exact ai
 unfold U.mt at hm;cases aq:h.aS.get k with
 |none=>simp[aq] at hm
 |some o=>
  have e:h'.aS.get k=h.aS.get k:=e;unfold Fa;simp only[ag,cond_true,aq,e,Nat.beq_refl]
theorem MP{h h':U}{k i:Nat}{x:J}{r:ab}(ao:kT x=some k)(ai:k<h.next)(hm:∃m,h.mt k=some m)(e:cW h h' k):fg (fY [(i,cv (some x))] h h' [i]) r=r:=by
 have h1:=afY ai hm e
 have h2:l5 [(i,cv (some x))] i=some k:=by
  simp[l5,cv,ao]
 simp only[fY,h2,h1,Bool.and_self,Cj]
end
def U.at(h:U)(k:Nat)(o:bD):U:=⟨h.aH,h.next,h.aS.put k o⟩
theorem vn(h:U)(k:Nat)(o:bD)(j:Nat):(h.at k o).aS.get j=if j=k then some o else h.aS.get j:=cz.kA _ _ _ _
theorem qa(h:U){k j:Nat}(o:bD)(e:j≠k):(h.at k o).aS.get j=h.aS.get j:=by rw[vn,if_neg e]
theorem MM(h:U)(k:Nat)(o:bD)(i:Nat):(h.at k o).cell k i=o.get i:=by unfold U.cell;rw[vn,if_pos rfl]
theorem X2{h:U}{k j:Nat}(o:bD)(e:j≠k)(i:Nat):(h.at k o).cell j i=h.cell j i:=by unfold U.cell;rw[qa h o e]
theorem Wh{h:U}{k:Nat}{o:bD}(aI:o.ro=false):(h.at k o).wr k o.n:=⟨o.mt,by unfold U.mt;rw[vn,if_pos rfl],aI,rfl⟩
theorem Wi{h:U}{k j N:Nat}{o:bD}(w:h.wr j N)(e:j≠k):(h.at k o).wr j N:=by
 obtain⟨m,h1,h2,h3⟩:=w;exact⟨m,by unfold U.mt;rw[qa h o e];exact h1,h2,h3⟩
section
variable{P:Program}{h:U}
theorem Wx{t e s b base i:Nat}{z:Value}{k1 k2:IntKind}{l c:Nat}(hu:P.underlying t=some (.slice e))(aj:dN P e=some s)(a1:hE P e=some z)(ag:n8 P e=some b)
 (h1:l<=c)(h2:c*b<=140737488355328)(h3:c<=140737488355328)(aU:(c2 z).cells.length=s)(bA:1<=s):
 si (mU P t (.int k1 (l:Int)) (.int k2 (c:Int))) base i h=some (.aY (base+i) 0 l (some c) 0,h.at (base+i) (gZ e (c*s) (c2 z).cells)):=by
 unfold si;rw[wT hu aj a1 ag h1 h2 h3 aU bA];rfl
theorem adH{rs:List Nat}{n:Nat}{k:Nat->U->ab}(ak:jQ h):A5 rs n h k=k h.next ⟨h.aH,h.next+n,h.aS⟩:=by
 have aF:∀rs:List Nat,zT h h.next rs=true:=λrs=>by
  induction rs with
  |nil=>rfl
  |cons r rs ba=>simp only[zT,ak (h.next+r) (Nat.le_add_right _ _),ba,Bool.and_self]
 unfold A5;simp only[force_eq,aF,Cj]
theorem aiP{t u e sz b:Nat}{y:J}{n:Nat}{news:List J}(T:sk P t u e sz b)(he:kU h.x0 sz y=some (n,news))(gg:news.length=n*sz)(iW:eA news=true)(aO:1<=n)
 (ae:n<=140737488355328)(sZ:n*b<=140737488355328):
 gA P .append #[t,u] [.val (.slice none 0 0),y] h=some (.aY h.next 0 n none 0,h.new (yF e sz news)):=by
 rw[Lg T he gg iW]
 have bR:Nat.beq n 0=false:=by
  cases ag:Nat.beq n 0 with
  |false=>rfl
  |true=>exact absurd (Nat.eq_of_beq_eq_true ag) (by omega)
 simp only[show(Nat.beq 0 0&&Nat.beq 0 0)=true from rfl,cond_true,bR,cond_false];exact Mx ae sZ
end
end Go.Xe
namespace Go.Proofs.YtomialandfplkaaDoor.Eva
open Go.Xe
section
variable{lf:Nat}{h:U}{T:dU}{n N:Nat}{wd b:Nat->Nat}{now:Int}{us:Nat->Bool}{nd:Nat->Nat->J}
theorem bx.iP(A:bx h T n N wd b now us nd){h':U}{S:Nat->Prop}(F:aN h h' S)(aj:∀j,S j->j≠T.a9/\j≠T.bJ/\j≠T.kd/\j≠T.aG):bx h' T n N wd b now us nd:=
 A.frame F.next λj aa=>F.same j (by rcases aa with rfl|rfl|rfl|rfl;exact A.lt;exact A.st.wa;exact A.st.v8;exact A.la) (λe=>by have:=aj j e;rcases aa with rfl|rfl|rfl|rfl<;>simp at this)
def e8(us:Nat->Bool)(N:Nat):List Nat:=(hp us N).map (· +1)
theorem agY(us:Nat->Bool)(i:Nat):e8 us (i+1)=e8 us i++(if us i then[i+1] else[]):=by
 unfold e8;rw[Wb,List.map_append];cases us i<;>rfl
theorem KW(us:Nat->Bool)(N:Nat):(e8 us N).length<=N:=by
 unfold e8;rw[List.length_map];exact KX us N
theorem M5{C:ad}(cZ:Nat->U->Prop)(uy:Nat)(A:∀i h,cZ i h->bx h T n N wd b now us nd)(aI:∀i h,i<N->us i=true->cZ i h->∃h',C (.fm uy) [I ((i+1:Nat):Int)] h=some (.ret (.bool true),h')/\cZ (i+1) h')
 (DG:∀i h,i<N->us i=false->cZ i h->cZ (i+1) h)(r aB:cq):∀(d i:Nat),i+d=N->∀f,d<f->∀h,cZ i h->
 ∃h',bp (AU C lf r aB) f (some (.ptr T.a9 0),some (.fm uy),some (I (N:Int)),some (I (i:Int))) h=aB h'/\cZ N h'
 |0,i,hw,f,ak,h,b6=>by
  obtain⟨f,rfl⟩:=dE f (by omega)
  have:i=N:=by omega
  subst this;refine⟨h,?_,b6⟩;rw[dh];unfold AU EP;have a8:decide ((i:Int)<(i:Int))=false:=by simp
  simp only[aE,a8]
 |d+1,i,hw,f,ak,h,b6=>by
  obtain⟨f,rfl⟩:=dE f (by omega);have lu:=A i h b6;have k3:=lu.hW;have hi:i<N:=by omega
  have a8:decide ((i:Int)<(N:Int))=true:=bw (by omega);have dy:IntKind.i64.wrap ((i:Int)+1)=((i+1:Nat):Int):=cH (by omega);have b3:=gL (s:=308) (k:=T.aG) (off:=0) (len:=N) (lo:=0) (cap:=some N) (kd:= .i64) (i:=(i:Int)) (by omega) (by omega);rw[Int.toNat_natCast,Nat.zero_add] at b3;have ae:=lu.ec i 0 hi (by omega);rw[Nat.add_zero,lu.mR i hi] at ae;rw[dh];show ∃h',EP C lf (λx0 x1 x12 eS h=>bp (AU C lf r aB) f (x0,x1,x12,eS) h) r aB (some (.ptr T.a9 0)) (some (.fm uy)) (some (I (N:Int))) (some (I (i:Int))) h=aB h'/\_;unfold EP;cases aq:us i with
  |false=>
   rw[aq] at ae;simp only[aE,a8,lu.aQ,b3,Nat.add_zero,ae,dy];exact M5 cZ uy A aI DG r aB d (i+1) (by omega) f (by omega) h (DG i h hi aq b6)
  |true=>
   rw[aq] at ae;obtain⟨h1,az,p4⟩:=aI i h hi aq b6;simp only[aE,a8,lu.aQ,b3,Nat.add_zero,ae,dy,fb,rr,az,Bool.not_true];exact M5 cZ uy A aI DG r aB d (i+1) (by omega) f (by omega) h1 p4
theorem akT{C:ad}(gf:4097<=lf)(aK:p5 C)(cZ:Nat->U->Prop)(uy:Nat)(A:∀i h,cZ i h->bx h T n N wd b now us nd)(aI:∀i h,i<N->us i=true->cZ i h->∃h',C (.fm uy) [I ((i+1:Nat):Int)] h=some (.ret (.bool true),h')/\cZ (i+1) h')
 (DG:∀i h,i<N->us i=false->cZ i h->cZ (i+1) h)(b6:cZ 0 h):∃h',CQ C lf (.ptr T.a9 0) (.fm uy) h=some (.ret (.bo []),h')/\cZ N h':=by
 have lu:=A 0 h b6;have k3:=lu.hW
 have aJ:eN ax 100 (.aY T.aG 0 N (some N) 0)=some (I (N:Int)):=by
  simp[eN,Tryd.underlying100]
 obtain⟨h',cd,c1⟩:=M5 (lf:=lf) cZ uy A aI DG Cx Cx N 0 (by omega) lf (by omega) h b6;refine⟨h',?_,c1⟩;unfold CQ UA Uz Uy Ux;simp only[aE,aK _ _ _ _ _ _ _ _ _ lu,Bool.not_true,lu.aQ,aJ];exact cd
noncomputable def adm(p bM:Nat):pe:= .loop .ready .none de.ord 47 13 (iZ [(3,some (.ptr p 0))]) #[7] (b9 de [1,1,0,1,0,0]) (b9 de [1,1,0,1,0,1]) bM
structure B2 (h:U) (bM eJ p:Nat):Prop where
 ol:∃o,h.aS.get eJ=some o/\o.sp=adm p bM
 ob:∃o,h.aS.get bM=some o/\o.sp= .jF false
theorem B2.same{bM eJ p:Nat}(A:B2 h bM eJ p){h':U}(h1:cW h h' bM)(h2:cW h h' eJ):B2 h' bM eJ p:=
 ⟨let ⟨o,a,c⟩:=A.ol;⟨o,h2.trans a,c⟩,let ⟨o,a,c⟩:=A.ob;⟨o,h1.trans a,c⟩⟩
structure vg (h0 h:U) (bM eJ p:Nat) (l:List Nat):Prop where
 F:aN h0 h (λ_=>False)
 L:B2 h bM eJ p
 v:∃x,h.cell p 0=some x/\fM h0 h x l/\∀j,rowOf x=some j->j≠bM/\j≠eJ/\j≠p
 w:h.wr p 1
 n2:h0.next<=bM
 nl:h0.next<=eJ
 adG:h0.next<=p
 II:bM<h.next
 hB:eJ<h.next
 bp:p<h.next
 d1:bM≠eJ
 d2:bM≠p
 d3:eJ≠p
theorem af1{h:U}{k:Nat}{o:bD}{st uL:LoopState}{p:Option Jump}{q:Jump}{ord:Nat->Hint}{me:FuncId}{M:Nat}{G:av J}{ps:Array Tmp}{a c:Code}{nB:Nat}(aq:h.aS.get k=some o)(aj:o.sp= .loop uL q ord me M G ps a c nB):
 Bw h k st p=some (h.at k {o with ck:=o.ck+1,sp:= .loop st (Ee p q) ord me M G ps a c nB}):=by
 unfold Bw;simp only[aq,Fe,aj];rfl
theorem aym{h:U}{k:Nat}{o:bD}{K:U->ab}{q:Jump}{ord:Nat->Hint}{me:FuncId}{M:Nat}{G:av J}{ps:Array Tmp}{a c:Code}{nB:Nat}(aq:h.aS.get k=some o)(aj:o.sp= .loop .ready q ord me M G ps a c nB):
 tz h k K=K (h.at k {o with ck:=o.ck+1,sp:= .loop .busy q ord me M G ps a c nB}):=by
 unfold tz
 have:isReady o=true:=by unfold isReady;obtain⟨_,_,_,_,_,_,_,_,sp⟩:=o;simp only at aj;subst aj;rfl
 simp only[cg,aq,this,cond_true,af1 aq aj,cf];rfl
theorem akZ{h:U}{k:Nat}{o:bD}{st uL:LoopState}{p q:Jump}{ord:Nat->Hint}{me:FuncId}{M:Nat}{G:av J}{ps:Array Tmp}{a c:Code}{nB:Nat}{r:Bool}(aq:h.aS.get k=some o)(aj:o.sp= .loop uL q ord me M G ps a c nB):
 lN h k st p r=some (.ret (.bool r),h.at k {o with ck:=o.ck+1,sp:= .loop st p ord me M G ps a c nB}):=by
 unfold lN;rw[af1 aq aj];rfl
theorem Hc{h:U}{k:Nat}{o:bD}{S:Nat->Prop}(ai:S k)(aO:k<h.next):aN h (h.at k o) S:=
 ⟨rfl,Nat.le_refl _,λj _ aj=>qa h o (λe=>aj (e▸ai)),λak j aa=>by rw[vn,if_neg (by have:h.next<=j:=aa;omega)];exact ak j aa⟩
theorem ayY{C:ad}{h0:U}{bM eJ p:Nat}{l:List Nat}(A:vg h0 h bM eJ p l)(aJ:l.length<=4096)(v:Nat):
 ∃h',Ku C lf eJ (some (.ptr p 0)) (I (v:Int)) h=some (.ret (.bool true),h')/\vg h0 h' bM eJ p (l++[v]):=by
 obtain⟨o,aq,aj⟩:=A.L.ol;have aj:o.sp= .loop .ready .none de.ord 47 13 (iZ [(3,some (.ptr p 0))]) #[7] (b9 de [1,1,0,1,0,0]) (b9 de [1,1,0,1,0,1]) bM:=aj;generalize anR:b9 de [1,1,0,1,0,0]=Ci at *;generalize anS:b9 de [1,1,0,1,0,1]=da at *;obtain⟨x,ao,sY,vT⟩:=A.v;have aI:=aym (K:=λh=>EH C lf (λh=>lN h eJ .ready .none true) (some (.ptr p 0)) (some (I (v:Int))) h) aq aj;generalize nO:h.at eJ {o with ck:=o.ck+1,sp:= .loop .busy .none de.ord 47 13 (iZ [(3,some (.ptr p 0))]) #[7] Ci da bM}=g1 at *;have aL:aN h g1 (· =eJ):=by rw[<- nO];exact Hc rfl A.hB
 have cI:g1.next=h.next:=by rw[<- nO];rfl
 have s1:∀j,j≠eJ->cW h g1 j:=λj aa=>by rw[<- nO];exact qa h _ aa
 have dH:g1.aS.get eJ=some {o with ck:=o.ck+1,sp:= .loop .busy .none de.ord 47 13 (iZ [(3,some (.ptr p 0))]) #[7] Ci da bM}:=by rw[<- nO,vn,if_pos rfl]
 have rR:g1.cell p 0=some x:=by rw[(s1 p (λe=>A.d3 e.symm)).cell];exact ao
 have amz:hX g1 3 1 x l.length (ints l):=sY.aY.frame (Nat.le_of_eq cI.symm) λk ai=>s1 k (vT k ai).2.1
 obtain⟨bW,g2,an,aD,a7,cw,dO,ek,hF,kv⟩:=xi (y:=I (v:Int)) vm rfl rfl rfl amz (by omega) (by omega);have s2:∀j,j<h.next->rowOf x≠some j->cW g1 g2 j:=λj aa e=>ek j (by omega) e
 have VD:∀j,j=bM\/j=eJ\/j=p->rowOf x≠some j:=λj aa e=>by have:=vT j e;omega
 have cL:g2.wr p 1:=hc (hc A.w (s1 p (λe=>A.d3 e.symm))) (s2 p A.bp (VD p (.inr (.inr rfl))));have iW:eA [bW]=true:=by rcases a7.2 with⟨rfl,_⟩|⟨_,rfl,_⟩<;>rfl
 have xU:bW.cells=[bW]:=by rcases a7.2 with⟨rfl,_⟩|⟨_,rfl,_⟩<;>rfl
 have Bz:=jt (n:=1) (off:=0) (y:=bW) cL (by rw[xU];rfl) (by omega) (by rw[xU];exact iW);rw[xU] at Bz;have dp:aN g2 (g2.set p 0 [bW]) (· =p):=fO rfl;generalize lP:g2.set p 0 [bW]=g3 at *;have gl:g3.next=g2.next:=by rw[<- lP,dW]
 have eZ:∀j,j≠p->cW g2 g3 j:=λj aa=>by rw[<- lP];exact jb _ _ _ aa
 have mN:g3.aS.get eJ=some {o with ck:=o.ck+1,sp:= .loop .busy .none de.ord 47 13 (iZ [(3,some (.ptr p 0))]) #[7] Ci da bM}:=
  (eZ eJ A.d3).trans ((s2 eJ A.hB (VD eJ (.inr (.inl rfl)))).trans dH)
 have he:=akZ (st:= .ready) (p:= .none) (r:=true) mN rfl;have gC:=Hc (h:=g3) (k:=eJ) (o:={o with ck:=o.ck+1+1,sp:= .loop .ready .none de.ord 47 13 (iZ [(3,some (.ptr p 0))]) #[7] Ci da bM}) (S:=(· =eJ)) rfl (by rw[gl];have:=A.hB;omega);generalize vK:g3.at eJ {o with ck:=o.ck+1+1,sp:= .loop .ready .none de.ord 47 13 (iZ [(3,some (.ptr p 0))]) #[7] Ci da bM}=g4 at *;have lg:g4.next=g3.next:=by rw[<- vK];rfl
 have ff:∀j,j≠eJ->cW g3 g4 j:=λj aa=>by rw[<- vK];exact qa _ _ aa
 have rx:∀j,rowOf bW=some j->h0.next<=j/\j≠bM/\j≠eJ/\j≠p:=λj aa=>by
  have h1:=A.II;have h2:=A.hB;have h3:=A.bp;have aU:=A.F.next
  rcases hF j aa with e|e
  ·exact⟨sY.new j e,vT j e⟩
  ·omega
 have jI:∀j,j<h.next->rowOf x≠some j->j≠eJ->j≠p->cW h g4 j:=λj aa e az aw=>(ff j az).trans ((eZ j aw).trans ((s2 j aa e).trans (s1 j az)))
 refine⟨g4,?_,⟨?_,⟨⟨_,by rw[<- vK,vn,if_pos rfl],by simp only[adm,anR,anS]⟩,?_⟩,⟨bW,?_,⟨?_,λj aa=>(rx j aa).1⟩,λj aa=>(rx j aa).2⟩,?_,A.n2,A.nl,A.adG,by have:=A.II;omega,by have:=A.hB;omega,by have:=A.bp;omega,A.d1,A.d2,A.d3⟩⟩
 ·unfold Ku Tl;simp only[cg,cf];refine aI.trans ?_;unfold EH;simp only[cg,cf,qL,rR,an,sC,aD,Bz];exact he
 ·have Pj:jQ h->jQ g4:=λak=>gC.dx (dp.dx (kv (aL.dx ak)))
  refine⟨?_,?_,λj aa _=>?_,λak=>Pj (A.F.dx ak)⟩
  ·exact gC.aH.trans (dp.aH.trans (dO.trans (aL.aH.trans A.F.aH)))
  ·have:=A.F.next;omega
  ·have h1:=A.F.next
   have h2:=A.nl;have h3:=A.adG;exact(jI j (by omega) (λe=>by have:=sY.new j e;omega) (by omega) (by omega)).trans (A.F.same j aa (λe=>e))
 ·obtain⟨ob,bR,b2⟩:=A.L.ob;exact⟨ob,(jI bM A.II (VD bM (.inl rfl)) A.d1 A.d2).trans bR,b2⟩
 ·rw[(ff p (λe=>A.d3 e.symm)).cell, <- lP,ir cL (by simp) (Nat.zero_le _) (by simp)];rfl
 ·have:ints (l++[v])=ints l++[I (v:Int)]:=by simp[ints]
  rw[this,List.length_append];exact a7.frame (by omega) λk ai=>(ff k (rx k ai).2.2.1).trans (eZ k (rx k ai).2.2.2)
 ·exact hc (by rw[<- lP];exact e1 cL) (ff p (λe=>A.d3 e.symm))
end
section
variable{lf m:Nat}{h:U}{r ro rb n:Nat}{on:Nat->Bool}{q:Nat->Option Nat}{b:Nat->Nat}{x0 x1:J}
def FZ(C:ad):Prop:=∀h r ro rb n on q b,gV h r ro rb n on q b->
 ((∀j,j<n->on j=true)->C (.fn 66) [.ptr r 0] h=some (.ret (.bo [I 0,I 28]),h))/\
 (∀i,i<n->on i=false->(∀j,j<i->on j=true)->∃h',C (.fn 66) [.ptr r 0] h=some (.ret (.bo [I (i:Int),I 0]),h')/\
   gV h' r ro rb n (c3 on i true) (c3 q i (some h.next)) (fW b i)/\aN h h' (λj=>j=ro\/j=rb)/\h'.next=h.next+1)
theorem gV.O1(A:gV h r ro rb n on q b){i:Nat}(hi:i<n){h1 h2 h3:U}(az:h1=h.set ro i [.bool true])(aw:h2=h1.new (gZ 5 (64*1) [.int .u8 0]))(ch:h3=h2.set rb i [.aY h.next 0 64 (some 64) 0]):
 gV h3 r ro rb n (c3 on i true) (c3 q i (some h.next)) (fW b i)/\aN h h3 (λj=>j=ro\/j=rb)/\h3.next=h.next+1/\h1.next=h.next:=by
 obtain⟨x0,x1,c0,aQ,V⟩:=A.v;have cI:h1.next=h.next:=by rw[az,dW]
 have cF:h2.next=h.next+1:=by rw[aw,iG,cI]
 have gl:h3.next=h.next+1:=by rw[ch,dW,cF]
 have aL:aN h h1 (λj=>j=ro\/j=rb):=by rw[az];exact fO (.inl rfl)
 have bF:aN h1 h2 (λj=>j=ro\/j=rb):=by rw[aw];exact ot _ _ _
 have dp:aN h2 h3 (λj=>j=ro\/j=rb):=by rw[ch];exact fO (.inr rfl)
 have F:=(aL.trans bF).trans dp;have uC:=V.uC;have tl:=V.tl;have D3:=A.lt;have IW:r≠ro:=A.tq;have pL:r≠rb:=A.pL;have QB:=V.ne;have cQ:h1.wr ro n:=by rw[az];exact e1 V.uS
 have aBK:h1.wr rb n:=by rw[az];exact e1 V.BF
 have cL:h2.wr ro n:=by rw[aw];exact Fs cQ (by omega)
 have ag1:h2.wr rb n:=by rw[aw];exact Fs aBK (by omega)
 have aBM:h2.wr h.next 64:=by rw[aw, <- cI];exact mT rfl
 have akr:∀j,h3.cell ro j=h1.cell ro j:=λj=>by
  rw[ch,eG (.inl QB),aw,GH (by omega)]
 have Yp:∀j,j≠i->h3.cell rb j=h.cell rb j:=λj aa=>by
  rw[ch,eG (.inr (by simp;omega)),aw,GH (by omega),az,eG (.inl QB.symm)]
 have akq:h3.cell rb i=some (.aY h.next 0 64 (some 64) 0):=by
  rw[ch,ir ag1 (by simp;omega) (Nat.le_refl _) (by simp)];simp
 refine⟨⟨⟨x0,x1,?_,?_,?_⟩,?_,IW,pL,λj k aa aZ=>?_,by omega⟩,F,gl,cI⟩
 ·rw[(F.same r D3 (λe=>by rcases e with e|e;exact IW e;exact pL e)).cell];exact c0
 ·rw[(F.same r D3 (λe=>by rcases e with e|e;exact IW e;exact pL e)).cell];exact aQ
 ·refine⟨V.cI,V.cF,V.aB,V.az,?_,?_,λj aa=>?_,λj aa aZ=>?_,λj k aa aZ=>?_,λj gM k aa hh aZ oJ=>?_,QB,by omega,by omega,λj=>?_⟩
  ·rw[ch];exact e1 cL
  ·rw[ch];exact e1 ag1
  ·rw[akr,az];by_cases e:j=i
   ·subst e;rw[ir V.uS (by simp;omega) (Nat.le_refl _) (by simp),kN];simp
   ·rw[eG (.inr (by simp;omega)),ig _ _ e];exact V.vu j aa
  ·by_cases e:j=i
   ·rw[e,kN] at aZ;cases aZ
   ·rw[ig _ _ e] at aZ⊢;obtain⟨dH,dn⟩:=V.off j aa aZ;exact⟨dH,by rw[Yp j e];exact dn⟩
  ·by_cases e:j=i
   ·rw[e,kN] at aZ;cases aZ;refine⟨by omega,by omega,_,by rw[e];exact akq,.inl ⟨⟨some 64,0,rfl⟩,Nat.le_refl _,?_,λc ae=>?_,by omega⟩⟩
    ·rw[ch];exact e1 aBM
    ·rw[ch,eG (.inl (by omega)),aw, <- cI,lK,wk _ _ (by omega)];unfold fW;rw[if_pos (by omega)];simp[Nat.mod_one]
   ·rw[ig _ _ e] at aZ;obtain⟨dH,dn,x,mN,B⟩:=V.has j k aa aZ;have ai:=B.lt;refine⟨dH,dn,x,by rw[Yp j e];exact mN,?_⟩;rw[ig _ _ e];rcases B.frame (h':=h3) F.next (F.same k ai (λe=>by rcases e with e|e;exact dH e;exact dn e)) with lx|lx
    ·refine .inl ⟨lx.aY,lx.ok,lx.w,λc ae=>?_,lx.lt⟩;rw[lx.cs c ae];unfold fW;rw[if_neg (by omega)]
    ·exact .inr lx
  ·by_cases e:j=i
   ·by_cases bh:gM=i
    ·omega
    ·rw[e,kN] at aZ;rw[ig _ _ bh] at oJ;cases aZ;obtain⟨_,_,x,_,B⟩:=V.has gM _ hh oJ;exact absurd B.lt (Nat.lt_irrefl _)
   ·by_cases bh:gM=i
    ·rw[bh,kN] at oJ;rw[ig _ _ e] at aZ;cases oJ;obtain⟨_,_,x,_,B⟩:=V.has j _ aa aZ;exact absurd B.lt (Nat.lt_irrefl _)
    ·rw[ig _ _ e] at aZ;rw[ig _ _ bh] at oJ;exact V.inj j gM k aa hh aZ oJ
  ·unfold fW;split
   ·omega
   ·exact V.blt j
 ·obtain⟨M,a,c⟩:=A.wr;exact⟨M,a,hc c (F.same r D3 (λe=>by rcases e with e|e;exact IW e;exact pL e))⟩
 ·by_cases e:j=i
  ·rw[e,kN] at aZ;cases aZ;omega
  ·rw[ig _ _ e] at aZ;exact A.qP j k aa aZ
theorem afu{C:ad}{lf lo:Nat}{cap:Option Nat}(A:gV h r ro rb n on q b)(ma:h.cell r 0=some (.aY ro 0 n cap lo))(ja:a0)(aB:cq):∀(d i:Nat),i+d=n->∀f,d<f->
 ((∀j,i<=j->j<n->on j=true)->bp (rW C lf ja aB) f (some (.ptr r 0),some (.aY ro 0 n cap lo),some (I (n:Int)),some (I (i:Int))) h=aB h)/\
 (∀t,i<=t->t<n->on t=false->(∀j,i<=j->j<t->on j=true)->∃h',bp (rW C lf ja aB) f (some (.ptr r 0),some (.aY ro 0 n cap lo),some (I (n:Int)),some (I (i:Int))) h=ja (some (I (t:Int))) (some (I 0)) h'/\
   gV h' r ro rb n (c3 on t true) (c3 q t (some h.next)) (fW b t)/\aN h h' (λj=>j=ro\/j=rb)/\h'.next=h.next+1)
 |0,i,hw,f,ak=>by
  obtain⟨f,rfl⟩:=dE f (by omega)
  have:i=n:=by omega
  subst this;have a8:decide ((i:Int)<(i:Int))=false:=by simp
  refine⟨λ_=>?_,λt h1 h2=>by omega⟩;rw[dh];unfold rW Bi;simp only[aE,a8]
 |d+1,i,hw,f,ak=>by
  obtain⟨f,rfl⟩:=dE f (by omega);obtain⟨x0,x1,c0,aQ,V⟩:=A.v;rw[ma] at c0;cases c0;obtain⟨X0,ac9,rfl⟩:=V.az;have h2:=V.cF;have a8:decide ((i:Int)<(n:Int))=true:=bw (by omega);have dy:IntKind.i64.wrap ((i:Int)+1)=((i+1:Nat):Int):=cH (by omega);have b3:=gL (s:=1) (k:=ro) (off:=0) (len:=n) (lo:=lo) (cap:=cap) (kd:= .i64) (i:=(i:Int)) (by omega) (by omega);rw[Int.toNat_natCast,Nat.mul_one,Nat.zero_add] at b3;have abP:=gL (s:=1) (k:=rb) (off:=0) (len:=n) (lo:=ac9) (cap:=X0) (kd:= .i64) (i:=(i:Int)) (by omega) (by omega);rw[Int.toNat_natCast,Nat.mul_one,Nat.zero_add] at abP;have ae:=V.vu i (by omega);obtain⟨i1,i2⟩:=afu (lf:=lf) (C:=C) A ma ja aB d (i+1) (by omega) f (by omega)
  have step:on i=true->bp (rW C lf ja aB) (f+1) (some (.ptr r 0),some (.aY ro 0 n cap lo),some (I (n:Int)),some (I (i:Int))) h=bp (rW C lf ja aB) f (some (.ptr r 0),some (.aY ro 0 n cap lo),some (I (n:Int)),some (I ((i+1:Nat):Int))) h:=λe=>by
   rw[e] at ae;rw[dh];show Bi C lf (λx0 x9 aW x11 h=>bp (rW C lf ja aB) f (x0,x9,aW,x11) h) ja aB (some (.ptr r 0)) (some (.aY ro 0 n cap lo)) (some (I (n:Int))) (some (I (i:Int))) h=_;unfold Bi;simp only[aE,a8,b3,ae,Bool.not_true,dy]
  refine⟨λgq=>(step (gq i (Nat.le_refl _) (by omega))).trans (i1 λj h1 h2=>gq j (by omega) h2),λt h1 h2 jH eW=>?_⟩;by_cases e:t=i
  ·subst e;rw[jH] at ae;have dk:=jt (n:=1) (off:=t) (y:= .bool true) V.uS rfl (by omega) rfl;obtain⟨R,F,gl,cI⟩:=A.O1 (i:=t) h2 (h1:=h.set ro t [.bool true]) (h2:=(h.set ro t [.bool true]).new (gZ 5 (64*1) [.int .u8 0])) (h3:=((h.set ro t [.bool true]).new (gZ 5 (64*1) [.int .u8 0])).set rb t [.aY h.next 0 64 (some 64) 0]) rfl rfl rfl
   have kF:=wT (P:=ax) (t:=24) (e:=5) (s:=1) (b:=1) (z:= .int .u8 0) (k1:= .i64) (k2:= .i64) (l:=64) (c:=64) (h:=h.set ro t [.bool true])
    Tryd.underlying24 (by kernel_rfl) (by kernel_rfl) (by kernel_rfl) (Nat.le_refl _) (by omega) (by omega) rfl (by omega)
   have a1:(c2 (.int .u8 0)).cells=[.int .u8 0]:=rfl;rw[a1,cI] at kF;have Pw:mU ax 24 (I 64) (I 64) (h.set ro t [.bool true])=some (.aY h.next 0 64 (some 64) 0,(h.set ro t [.bool true]).new (gZ 5 (64*1) [.int .u8 0])):=kF;have DM:((h.set ro t [.bool true]).new (gZ 5 (64*1) [.int .u8 0])).wr rb n:=Fs (e1 V.BF) (by rw[cI];have:=V.tl;omega);have PG:=jt (n:=1) (off:=t) (y:= .aY h.next 0 64 (some 64) 0) DM rfl (by omega) rfl;have akp:(h.set ro t [.bool true]).cell r 1=some (.aY rb 0 n X0 ac9):=by rw[eG (.inl A.tq)];exact aQ
   have D3:=A.lt
   have jV:∀R:ab,fg (fY [(3,cv (some (.ptr r 1)))] (h.set ro t [.bool true]) ((h.set ro t [.bool true]).new (gZ 5 (64*1) [.int .u8 0])) [3]) R=R:=λR=>
    MP (k:=r) rfl (by rw[cI];exact D3) (by obtain⟨_,_,hw⟩:=A.wr;obtain⟨j2,hm,_⟩:=(e1 (k:=ro) (off:=t) (ys:=[.bool true]) hw);exact⟨j2,hm⟩) (n3 _ _ (by rw[cI];omega))
   refine⟨_,?_,R,F,gl⟩;rw[dh];unfold rW Bi;simp only[aE,a8,b3,ae,Bool.not_false,ma,dk,J.cells,akp,Pw,jV,abP,PG]
  ·obtain⟨h',an,aD⟩:=i2 t (by omega) h2 jH (λj h3 aU=>eW j (by omega) aU);exact⟨h',(step (eW i (Nat.le_refl _) (by omega))).trans an,aD⟩
theorem ax5{C:ad}(gf:4097<=lf)(A:gV h r ro rb n on q b):
 ((∀j,j<n->on j=true)->Ac C lf (.ptr r 0) h=some (.ret (.bo [I 0,I 28]),h))/\
 (∀i,i<n->on i=false->(∀j,j<i->on j=true)->∃h',Ac C lf (.ptr r 0) h=some (.ret (.bo [I (i:Int),I 0]),h')/\
   gV h' r ro rb n (c3 on i true) (c3 q i (some h.next)) (fW b i)/\aN h h' (λj=>j=ro\/j=rb)/\h'.next=h.next+1):=by
 obtain⟨x0,x1,c0,aQ,V⟩:=A.v;obtain⟨cap,lo,rfl⟩:=V.aB;have h2:=V.cF;have aJ:=yD (k:=ro) (off:=0) (len:=n) (cap:=cap) (lo:=lo) Tryd.underlying41;obtain⟨i1,i2⟩:=afu (lf:=lf) (C:=C) A c0 vy (λh=>EJ C lf vy h) n 0 (by omega) lf (by omega)
 have pre:Ac C lf (.ptr r 0) h=bp (rW C lf vy (λh=>EJ C lf vy h)) lf (some (.ptr r 0),some (.aY ro 0 n cap lo),some (I (n:Int)),some (I ((0:Nat):Int))) h:=by
  unfold Ac TK TJ TI TH TG;simp only[aE,c0,aJ];rfl
 rw[pre];refine⟨λgq=>?_,λi hi jH eW=>?_⟩
 ·rw[i1 λj _ aa=>gq j aa];unfold EJ vy;simp only[cg,cf]
 ·obtain⟨h',an,aD⟩:=i2 i (Nat.zero_le _) hi jH (λj _ aa=>eW j aa);refine⟨h',?_,aD⟩;rw[an];unfold vy;simp only[cg,cf]
end
section
variable{lf m:Nat}{h:U}{r ro rb n:Nat}{on:Nat->Bool}{q:Nat->Option Nat}{b:Nat->Nat}{x0 x1:J}
def w9(C:ad):Prop:=∀h r ro rb n on q b i,gV h r ro rb n on q b->
 (k9 n on i=false->C (.fn 67) [.ptr r 0,I i] h=some (.ret (I 22),h))/\
 (k9 n on i=true->∃h',C (.fn 67) [.ptr r 0,I i] h=some (.ret (I 0),h')/\gV h' r ro rb n (c3 on i.toNat false) q b/\aN h h' (· =ro)/\h'.next=h.next)
theorem gV.azE(A:gV h r ro rb n on q b){i:Nat}(hi:i<n)(eW:on i=true):gV (h.set ro i [.bool false]) r ro rb n (c3 on i false) q b:=by
 obtain⟨x0,x1,c0,aQ,V⟩:=A.v;have F:aN h (h.set ro i [.bool false]) (· =ro):=fO rfl;have uH:cW h (h.set ro i [.bool false]) rb:=jb _ _ _ V.ne.symm;have uK:cW h (h.set ro i [.bool false]) r:=jb _ _ _ A.tq;refine⟨⟨x0,x1,by rw[uK.cell];exact c0,by rw[uK.cell];exact aQ,V.cI,V.cF,V.aB,V.az,e1 V.uS,e1 V.BF,λj aa=>?_,λj aa aZ=>?_,λj k aa aZ=>?_,V.inj,V.ne,by rw[dW];exact V.uC,by rw[dW];exact V.tl,V.blt⟩,(let ⟨M,a,c⟩:=A.wr;⟨M,a,e1 c⟩),A.tq,A.pL,A.qP,by rw[dW];exact A.lt⟩
 ·by_cases e:j=i
  ·subst e;rw[ir V.uS (by simp;omega) (Nat.le_refl _) (by simp),kN];simp
  ·rw[eG (.inr (by simp;omega)),ig _ _ e];exact V.vu j aa
 ·obtain⟨dH,dn⟩:=V.off j aa aZ;refine⟨?_,by rw[uH.cell];exact dn⟩;by_cases e:j=i
  ·subst e;rw[eW] at dH;cases dH
  ·rw[ig _ _ e];exact dH
 ·obtain⟨dH,dn,x,mN,B⟩:=V.has j k aa aZ;refine⟨dH,dn,x,by rw[uH.cell];exact mN,(B.frame (Nat.le_of_eq (dW ..).symm) (jb _ _ _ dH)).off ?_⟩;by_cases e:j=i
  ·right;rw[e,kN]
  ·left;rw[ig _ _ e]
theorem ayG{C:ad}(hi:L0 C)(A:gV h r ro rb n on q b){i:Int}:
 (k9 n on i=false->CO C lf (.ptr r 0) (I i) h=some (.ret (I 22),h))/\
 (k9 n on i=true->∃h',CO C lf (.ptr r 0) (I i) h=some (.ret (I 0),h')/\gV h' r ro rb n (c3 on i.toNat false) q b/\aN h h' (· =ro)/\h'.next=h.next):=by
 have dS:=hi h r ro rb n on q b i A;unfold CO TL NZ;simp only[aE,dS];refine⟨λhu=>?_,λhu=>?_⟩
 ·simp only[hu,Bool.not_false,aE]
 ·obtain⟨x0,x1,c0,aQ,V⟩:=A.v;obtain⟨cap,lo,rfl⟩:=V.aB;have gK:=hu;simp only[k9,Bool.and_eq_true,decide_eq_true_eq] at gK;obtain⟨h3,aU,bA⟩:=gK;have b3:=gL (s:=1) (k:=ro) (off:=0) (len:=n) (lo:=lo) (cap:=cap) (kd:= .i64) (i:=i) h3 aU;rw[Nat.mul_one,Nat.zero_add] at b3;have dk:=jt (n:=1) (off:=i.toNat) (y:= .bool false) V.uS rfl (by omega) rfl;refine⟨_,?_,A.azE (by omega) bA,fO rfl,dW ..⟩;simp only[hu,Bool.not_true,aE,c0,b3,dk,J.cells]
def Cg(b:Nat->Nat)(i:Nat):List Nat:=(List.range 64).map λj=>b (i*64+j)
theorem XQ(b:Nat->Nat)(i:Nat):(Cg b i).length=64:=by simp[Cg]
theorem ajm(b:Nat->Nat)(i:Nat){j:Nat}(aa:j<64):(Cg b i).getD j 0=b (i*64+j):=by simp[Cg,List.getD,aa]
theorem wV.bytes{x:J}{k i:Nat}(B:wV h x k b i)(ag:∀j,b j<256):Bytes h x (Cg b i):=by
 obtain⟨cap,lo,rfl⟩:=B.aY;obtain⟨j2,hm,_⟩:=B.w;refine⟨λc ae=>?_,.inr ⟨k,0,cap,lo,j2,by rw[XQ],hm,λj aa=>?_⟩⟩
 ·obtain⟨j,_,rfl⟩:=List.mem_map.1 ae;exact ag _
 ·rw[XQ] at aa;rw[Nat.zero_add,B.cs j aa,ajm b i aa]
theorem aiJ:sk ax 24 24 5 1 1:=
 ⟨Tryd.underlying24,by kernel_rfl,⟨.int .u8 0,by kernel_rfl,rfl⟩,by kernel_rfl,⟨_,Tryd.underlying24,rfl⟩,Nat.le_refl 1⟩
theorem gV.put(A:gV h r ro rb n on q b){i k p v:Nat}(hi:i<n)(eW:on i=true)(aZ:q i=some k)(aA:p<64)(hv:v<256){b':Nat->Nat}(ag:∀j,b' j=if j=i*64+p then v else b j):
 gV (h.set k p [.int .u8 (v:Int)]) r ro rb n on q b':=by
 obtain⟨x0,x1,c0,aQ,V⟩:=A.v;obtain⟨k1,k2,x,gN,B⟩:=V.has i k hi aZ
 replace B:=B.jF eW
 have bN:=A.qP i k hi aZ;have KA:cW h (h.set k p [.int .u8 (v:Int)]) ro:=jb _ _ _ k1.symm;have uH:cW h (h.set k p [.int .u8 (v:Int)]) rb:=jb _ _ _ k2.symm;have uK:cW h (h.set k p [.int .u8 (v:Int)]) r:=jb _ _ _ bN.symm;refine⟨⟨x0,x1,by rw[uK.cell];exact c0,by rw[uK.cell];exact aQ,V.cI,V.cF,V.aB,V.az,e1 V.uS,e1 V.BF,λj aa=>by rw[KA.cell];exact V.vu j aa,λj aa aZ=>by rw[uH.cell];exact V.off j aa aZ,λj b1 aa oJ=>?_,V.inj,V.ne,by rw[dW];exact V.uC,by rw[dW];exact V.tl,λj=>?_⟩,(let ⟨M,a,c⟩:=A.wr;⟨M,a,e1 c⟩),A.tq,A.pL,A.qP,by rw[dW];exact A.lt⟩
 ·obtain⟨dH,dn,bW,mN,lx⟩:=V.has j b1 aa oJ;refine⟨dH,dn,bW,by rw[uH.cell];exact mN,?_⟩;rcases lx with lx|⟨ic,sd,⟨N,V8⟩,V9⟩
  rotate_left
  ·exact .inr ⟨ic,sd,⟨N,e1 V8⟩,by rw[dW];exact V9⟩
  refine .inl ⟨lx.aY,lx.ok,e1 lx.w,λc ae=>?_,by rw[dW];exact lx.lt⟩;by_cases e:j=i
  ·subst e;rw[aZ] at oJ;cases oJ;by_cases aw:c=p
   ·subst aw;rw[ir B.w (by simp;omega) (Nat.le_refl _) (by simp),ag,if_pos rfl];simp
   ·rw[eG (.inr (by simp;omega)),lx.cs c ae,ag,if_neg (by omega)]
  ·have bY:b1≠k:=λaw=>e (V.inj j i b1 aa hi oJ (by rw[aw];exact aZ))
   rw[eG (.inl bY),lx.cs c ae,ag,if_neg (by omega)]
 ·rw[ag];split
  ·exact hv
  ·exact V.blt j
end
section
variable{lf m:Nat}{h:U}{k cV n:Nat}{wd b:Nat->Nat}
def Mm(C:ad):Prop:=∀h k cV n wd b,ee h k cV n wd b->C (.fn 29) [.ptr k 0] h=some (.ret (I (n:Int)),h)
theorem aBk{C:ad}(hm:sq C)(S:ee h k cV n wd b):Hm C lf (.ptr k 0) h=some (.ret (I (n:Int)),h):=by
 unfold Hm SC NC;simp only[aE,hm _ _ _ _ _ _ S,Bool.not_true,S.ec]
@[simp] theorem apc(nB:Nat)(kd:IntKind)(i:Int):kj nB (.int kd i)=true:=eX rfl
def L3(C:ad):Prop:=∀h (n:Nat),1<=n->n<=4096->jQ h->∃h' x0 x1 ro rb,C (.fn 24) [I (n:Int)] h=some (.ret (.agg [x0,x1]),h')/\sv h' x0 x1 ro rb n (λ_=>false) (λ_=>none) (λ_=>0)/\aN h h' (λ_=>False)/\h.next<=ro/\h.next<=rb
theorem ayP{C:ad}{n:Nat}(h1:1<=n)(h2:n<=4096)(ak:jQ h):∃h' x0 x1 ro rb,Hl C lf (I (n:Int)) h=some (.ret (.agg [x0,x1]),h')/\sv h' x0 x1 ro rb n (λ_=>false) (λ_=>none) (λ_=>0)/\aN h h' (λ_=>False)/\h.next<=ro/\h.next<=rb:=by
 have a1:hE ax 44=some (.agg #[.slice none 0 0,.slice none 0 0]):=by kernel_rfl
 have H5:=zj (P:=ax) (e:=44) (h:=h) a1;generalize iV:dR 44 (c2 (.agg #[.slice none 0 0,.slice none 0 0])).cells=dH at *;have Du:dH.n=2:=by rw[<- iV];rfl
 have tf:(h.new dH).wr h.next 2:=by rw[<- Du];exact mT (by rw[<- iV];rfl)
 have k6:=xG ak dH;generalize Dj:(⟨(h.new dH).aH,h.next+1+6,(h.new dH).aS⟩:U)=h3;have gl:h3.next=h.next+7:=by rw[<- Dj]
 have g3:∀j,h3.aS.get j=(h.new dH).aS.get j:=λj=>by rw[<- Dj]
 have gy:h3.wr h.next 2:=by rw[<- Dj];exact tf
 have hC:=Wx (P:=ax) (t:=41) (e:=4) (s:=1) (b:=1) (z:= .bool false) (k1:= .i64) (k2:= .i64) (l:=n) (c:=n) (base:=h.next+1) (i:=1) (h:=h3)
  Tryd.underlying41 (by kernel_rfl) (by kernel_rfl) (by kernel_rfl) (Nat.le_refl _) (by omega) (by omega) rfl (by omega)
 generalize Av:gZ 4 (n*1) (c2 (.bool false)).cells=dn at *;generalize x5:h3.at (h.next+1+1) dn=aU at *
 have e6:=Wx (P:=ax) (t:=42) (e:=24) (s:=1) (b:=24) (z:= .slice none 0 0) (k1:= .i64) (k2:= .i64) (l:=n) (c:=n) (base:=h.next+1) (i:=3) (h:=aU)
  Tryd.underlying42 (by kernel_rfl) (by kernel_rfl) (by kernel_rfl) (Nat.le_refl _) (by omega) (by omega) rfl (by omega)
 generalize yi:gZ 24 (n*1) (c2 (.slice none 0 0)).cells=mN at *;generalize uj:aU.at (h.next+1+3) mN=bA at *;have ag:ib ax 44 [0,1] [.aY (h.next+1+1) 0 n (some n) 0,.aY (h.next+1+3) 0 n (some n) 0]=some (.agg [.aY (h.next+1+1) 0 n (some n) 0,.aY (h.next+1+3) 0 n (some n) 0]):=by kernel_rfl
 have uP:bA.wr h.next 2:=by rw[<- uj, <- x5];exact Wi (Wi gy (by omega)) (by omega)
 have dk:=jt (n:=2) (off:=0) (y:= .agg [.aY (h.next+1+1) 0 n (some n) 0,.aY (h.next+1+3) 0 n (some n) 0]) uP rfl (by omega) rfl;have amU:(J.agg [.aY (h.next+1+1) 0 n (some n) 0,.aY (h.next+1+3) 0 n (some n) 0]).cells=[.aY (h.next+1+1) 0 n (some n) 0,.aY (h.next+1+3) 0 n (some n) 0]:=rfl;rw[amU] at dk;generalize s5:bA.set h.next 0 [.aY (h.next+1+1) 0 n (some n) 0,.aY (h.next+1+3) 0 n (some n) 0]=bC at *
 have A1:bC.next=h.next+7:=by rw[<- s5,dW, <- uj, <- x5];exact gl
 have nR:iD 2 (.ptr h.next 0) bC=some (.agg [.aY (h.next+1+1) 0 n (some n) 0,.aY (h.next+1+3) 0 n (some n) 0]):=by
  have aBN:=uP;obtain⟨j2,uq,_⟩:=aBN
  have:∃gk,bC.mt h.next=some gk:=by rw[<- s5,IS,if_pos rfl,uq];exact⟨_,rfl⟩
  obtain⟨gk,qu⟩:=this
  rw[v7 qu,qd (n:=2) (ys:=[.aY (h.next+1+1) 0 n (some n) 0,.aY (h.next+1+3) 0 n (some n) 0]) rfl λi hi=>by
   rw[Nat.zero_add, <- s5,ir uP (by simp) (Nat.zero_le _) (by simpa using hi),Nat.sub_zero]]
  rfl
 refine⟨bC,_,_,h.next+1+1,h.next+1+3,?_,⟨h1,h2,⟨some n,0,rfl⟩,⟨some n,0,rfl⟩,?_,?_,λi hi=>?_,λi hi _=>⟨rfl,?_⟩,(λi k hi aZ=>by cases aZ),(λi j k _ _ aZ=>by cases aZ),by omega,by omega,by omega,λj=>by omega⟩,⟨?_,by omega,λj aa _=>?_,λak j aa=>?_⟩,by omega,by omega⟩
 ·unfold Hl SB NB;simp only[aE,H5,adH k6,iG,Dj,apc,Bool.and_self,Cj,hC,e6,ag,dk,nR]
 ·rw[<- s5];refine e1 ?_;rw[<- uj, <- x5]
  have:(h3.at (h.next+1+1) dn).wr (h.next+1+1) dn.n:=Wh (by rw[<- Av];rfl)
  rw[show dn.n=n by rw[<- Av];exact Nat.mul_one n] at this;exact Wi this (by omega)
 ·rw[<- s5];refine e1 ?_;rw[<- uj]
  have:(aU.at (h.next+1+3) mN).wr (h.next+1+3) mN.n:=Wh (by rw[<- yi];rfl)
  rw[show mN.n=n by rw[<- yi];exact Nat.mul_one n] at this;exact this
 ·rw[<- s5,eG (.inl (by omega)), <- uj,X2 _ (by omega), <- x5,MM, <- Av,wk _ _ (by omega)];show[J.bool false][i%1]?=_;rw[Nat.mod_one];rfl
 ·rw[<- s5,eG (.inl (by omega)), <- uj,MM, <- yi,wk _ _ (by omega)];show[J.val (.slice none 0 0)][i%1]?=_;rw[Nat.mod_one];rfl
 ·rw[<- s5,Kx, <- uj, <- x5, <- Dj];rfl
 ·show bC.aS.get j=h.aS.get j;rw[<- s5,jb _ _ _ (by omega), <- uj,qa _ _ (by omega), <- x5,qa _ _ (by omega),g3,n3 _ _ (by omega)]
 ·rw[A1] at aa;rw[<- s5,jb _ _ _ (by omega), <- uj,qa _ _ (by omega), <- x5,qa _ _ (by omega),g3];exact k6 j (by rw[iG];omega)
end
section
variable{lf m:Nat}{h:U}{r ro rb n:Nat}{on:Nat->Bool}{q:Nat->Option Nat}{b:Nat->Nat}{x0 x1:J}
end
section
variable{lf m:Nat}{h:U}
structure Whole (h:U) (k:Nat) (l:List Nat):Prop where
 w:h.wr k (l.length+2)
 c0:h.cell k 0=some (.int .u8 165)
 aQ:h.cell k (l.length+1)=some (.int .u8 90)
 cs:∀j,j<l.length->h.cell k (1+j)=some (.int .u8 ((l.getD j 0:Nat):Int))
 lt:k<h.next
def p2(k n:Nat):J:= .aY k 0 (n+2) (some (n+2)) 0
def v9(k n:Nat):J:= .aY k 1 n (some (n+1)) 0
theorem agf{P:Program}{t e k n:Nat}(hu:P.underlying t=some (.slice e))(aj:dN P e=some 1):fK P t (p2 k n) (some (I 1)) (some (I ((n+1:Nat):Int)))=some (v9 k n):=by
 have h1:sliceB (n+2) (n+2) (some (I 1)) (some (I ((n+1:Nat):Int)))=some (1,n+1):=by
  have az:hL (I 1)=some 1:=rfl;have aw:hL (I ((n+1:Nat):Int))=some (n+1):=rfl;simp only[sliceB,az,aw]
  have:(Nat.ble (n+1) (n+2)&&Nat.ble 1 (n+1))=true:=by rw[Nat.ble_eq_true_of_le (by omega),Nat.ble_eq_true_of_le (by omega)];rfl
  simp only[this,cond_true]
 unfold fK p2;simp only[hu,aj,h1,pX,force_eq]
 have bR:Nat.beq (n+2-1) 0=false:=by
  cases ag:Nat.beq (n+2-1) 0 with
  |false=>rfl
  |true=>exact absurd (Nat.eq_of_beq_eq_true ag) (by omega)
 simp only[bR,cond_false,v9];rfl
def LN(C:ad):Prop:=∀h x l,Bytes h x l->l.length<=140737488351232->(∀j,rowOf x=some j->j<h.next)->∃h',C (.fn 69) [x] h=some (.ret (.bo [p2 h.next l.length,v9 h.next l.length]),h')/\Whole h' h.next l/\aN h h' (λ_=>False)/\h'.next=h.next+1
theorem ac2{C:ad}{lf k:Nat}{x:J}{l:List Nat}{h0:U}(hlen:l.length<=140737488351232)(WE:Bytes h0 x l)(ao:∀j,rowOf x=some j->j<h0.next/\j≠k)(aB:a0):∀(d t:Nat),t+d=l.length->∀f,d<f->∀h,h.wr k (l.length+2)->h.cell k 0=some (.int .u8 165)->h.cell k (l.length+1)=some (.int .u8 90)->
 (∀j,j<t->h.cell k (1+j)=some (.int .u8 ((l.getD j 0:Nat):Int)))->aN h0 h (· =k)->h.next=h0.next->
 ∃h',bp (AR C lf aB) f (some x,some (p2 k l.length),some x,some (I (l.length:Int)),some (I (t:Int))) h=aB (some x) (some (p2 k l.length)) h'/\
  h'.wr k (l.length+2)/\h'.cell k 0=some (.int .u8 165)/\h'.cell k (l.length+1)=some (.int .u8 90)/\(∀j,j<l.length->h'.cell k (1+j)=some (.int .u8 ((l.getD j 0:Nat):Int)))/\aN h0 h' (· =k)/\h'.next=h0.next
 |0,t,hw,f,ak,h,an,aD,a7,cw,dO,ek=>by
  obtain⟨f,rfl⟩:=dE f (by omega)
  have:t=l.length:=by omega
  subst this;refine⟨h,?_,an,aD,a7,cw,dO,ek⟩;rw[dh];unfold AR EK;have a8:decide ((l.length:Int)<(l.length:Int))=false:=by simp
  simp only[aE,a8]
 |d+1,t,hw,f,ak,h,an,aD,a7,cw,dO,ek=>by
  obtain⟨f,rfl⟩:=dE f (by omega);have aK:t<l.length:=by omega
  have a8:decide ((t:Int)<(l.length:Int))=true:=bw (by omega);have dy:IntKind.i64.wrap ((t:Int)+1)=((t+1:Nat):Int):=cH (by omega);have ahB:Bytes h x l:=WE.frame λbM ob len cap lo e=>dO.same bM (ao bM (by rw[e];rfl)).1 (ao bM (by rw[e];rfl)).2
  obtain⟨lH,bR,b2⟩:∃lH,dD 1 x (I (t:Int))=some lH/\b0 lH h=some (.int .u8 ((l.getD t 0:Nat):Int)):=by
   rcases ahB.2 with⟨_,rfl⟩|⟨bM,ob,cap,lo,j2,rfl,_,ae⟩
   ·simp at aK
   ·have b3:=gL (s:=1) (k:=bM) (off:=ob) (len:=l.length) (lo:=lo) (cap:=cap) (kd:= .i64) (i:=(t:Int)) (by omega) (by omega);rw[Int.toNat_natCast,Nat.mul_one] at b3;exact⟨_,b3,ae t aK⟩
  have abQ:=gL (s:=1) (k:=k) (off:=0) (len:=l.length+2) (lo:=0) (cap:=some (l.length+2)) (kd:= .i64) (i:=((t+1:Nat):Int)) (by omega) (by omega);rw[Int.toNat_natCast,Nat.mul_one,Nat.zero_add] at abQ;have ani:dD 1 (p2 k l.length) (I ((t+1:Nat):Int))=some (.ptr k (t+1)):=abQ;have dk:=jt (n:=1) (off:=t+1) (y:= .int .u8 ((l.getD t 0:Nat):Int)) an rfl (by omega) rfl
  obtain⟨h',az,aw⟩:=ac2 (lf:=lf) (C:=C) (x:=x) hlen WE ao aB d (t+1) (by omega) f (by omega) (h.set k (t+1) [.int .u8 ((l.getD t 0:Nat):Int)]) (e1 an) (by rw[eG (.inr (by simp))];exact aD) (by rw[eG (.inr (by simp;omega))];exact a7)
   (λj aa=>by
     by_cases e:j=t
     ·subst e;rw[show 1+j=j+1 by omega,ir an (by simp;omega) (Nat.le_refl _) (by simp)];simp
     ·rw[eG (.inr (by simp;omega))];exact cw j (by omega)) (dO.trans (fO rfl)) (by rw[dW];exact ek)
  refine⟨h',?_,aw⟩;refine Eq.trans ?_ az;rw[dh];show EK C lf (λx0 bV ih np o2 h=>bp (AR C lf aB) f (x0,bV,ih,np,o2) h) aB (some x) (some (p2 k l.length)) (some x) (some (I (l.length:Int))) (some (I (t:Int))) h=_;unfold EK;simp only[cg,cf,ru,a8,q6,bR,b2,sD,dy,ani,dk,J.cells]
theorem ao0{C:ad}{x:J}{l:List Nat}(gf:140737488355328<=lf)(B:Bytes h x l)(aJ:l.length<=140737488351232)(ao:∀j,rowOf x=some j->j<h.next):
 ∃h',HC C lf x h=some (.ret (.bo [p2 h.next l.length,v9 h.next l.length]),h')/\Whole h' h.next l/\aN h h' (λ_=>False)/\h'.next=h.next+1:=by
 have hlen:=qM (P:=ax) Tryd.underlying24 B;have aw:IntKind.i64.wrap ((l.length:Int)+2)=((l.length+2:Nat):Int):=cH (by omega);have az:IntKind.i64.wrap ((l.length:Int)+1)=((l.length+1:Nat):Int):=cH (by omega)
 have kF:=wT (P:=ax) (t:=24) (e:=5) (s:=1) (b:=1) (z:= .int .u8 0) (k1:= .i64) (k2:= .i64) (l:=l.length+2) (c:=l.length+2) (h:=h)
  Tryd.underlying24 (by kernel_rfl) (by kernel_rfl) (by kernel_rfl) (Nat.le_refl _) (by omega) (by omega) rfl (by omega)
 generalize aq:gZ 5 ((l.length+2)*1) (c2 (.int .u8 0)).cells=o at *
 have hw:(h.new o).wr h.next (l.length+2):=by
  have:=mT (h:=h) (o:=o) (by rw[<- aq];rfl)
  rw[show o.n=l.length+2 by rw[<- aq];exact Nat.mul_one _] at this;exact this
 have i0:=gL (s:=1) (k:=h.next) (off:=0) (len:=l.length+2) (lo:=0) (cap:=some (l.length+2)) (kd:= .i64) (i:=0) (by omega) (by omega);have i1:=gL (s:=1) (k:=h.next) (off:=0) (len:=l.length+2) (lo:=0) (cap:=some (l.length+2)) (kd:= .i64) (i:=((l.length+1:Nat):Int)) (by omega) (by omega);rw[Int.toNat_natCast,Nat.mul_one,Nat.zero_add] at i1;have uL:=jt (n:=1) (off:=0) (y:= .int .u8 165) hw rfl (by omega) rfl;have ma:(J.int .u8 165).cells=[.int .u8 165]:=rfl;rw[ma] at uL;have DM:((h.new o).set h.next 0 [.int .u8 165]).wr h.next (l.length+2):=e1 hw
 have agk:=jt (n:=1) (off:=l.length+1) (y:= .int .u8 90) DM rfl (by omega) rfl;have kB:(J.int .u8 90).cells=[.int .u8 90]:=rfl;rw[kB] at agk;generalize bd:((h.new o).set h.next 0 [.int .u8 165]).set h.next (l.length+1) [.int .u8 90]=g at *
 have aH:g.next=h.next+1:=by rw[<- bd,dW,dW,iG]
 have K0:g.wr h.next (l.length+2):=by rw[<- bd];exact e1 DM
 have F:aN h g (λ_=>False):=by
  rw[<- bd];exact⟨by simp,by simp,λj aa _=>(jb _ _ _ (by omega)).trans ((jb _ _ _ (by omega)).trans (n3 h _ (by omega))),λak=>z6 (z6 (xG ak _) _ _ _) _ _ _⟩
 have jy:Bytes g x l:=B.frame λbM ob len cap lo e=>F.same bM (ao bM (by rw[e];rfl)) (λe=>e)
 have oK:=agf (P:=ax) (t:=24) (k:=h.next) (n:=l.length) Tryd.underlying24 (by kernel_rfl)
 obtain⟨h',cd,c1,n1,IH,DY,Qk,aDQ⟩:=ac2 (lf:=lf) (C:=C) (k:=h.next) (x:=x) (h0:=g) aJ jy (λj aa=>by have:=ao j aa;omega) (λx0 bV h=>JR C lf G8 x0 bV h) l.length 0 (by omega) lf (by omega) g K0
  (by rw[<- bd,eG (.inr (by simp)),ir hw (by simp) (Nat.le_refl _) (by simp)];rfl)
  (by rw[<- bd,ir DM (by simp) (Nat.le_refl _) (by simp)];simp) (λj aa=>by omega) (aN.refl _ _) rfl
 refine⟨h',?_,⟨c1,n1,IH,DY,by omega⟩,⟨Qk.aH.trans F.aH,by omega,λj aa aj=>(Qk.same j (by omega) (by omega)).trans (F.same j aa aj),λak=>Qk.dx (F.dx ak)⟩,by omega⟩;unfold HC TU TT TS TR TQ TP TO TN TM;have aof:dD 1 (.aY h.next 0 (l.length+2) (some (l.length+2)) 0) (I 0)=some (.ptr h.next 0):=i0;simp only[aE,hlen,aw,kF,az,aof,uL,i1,agk];refine Eq.trans cd ?_;unfold JR G8;simp only[aE,hlen,az,oK]
def LJ(C:ad):Prop:=∀h k x l,Whole h k l->Bytes h x l->l.length<=140737488351232->C (.fn 71) [p2 k l.length,x] h=some (.ret (.bool true),h)
theorem Whole.bytes{k:Nat}{l:List Nat}(W:Whole h k l)(ag:∀c∈l,c<256):Bytes h (v9 k l.length) l:=by
 obtain⟨j2,hm,_⟩:=W.w;exact⟨ag,.inr ⟨k,1,_,0,j2,rfl,hm,W.cs⟩⟩
theorem aoM{C:ad}{k:Nat}{x:J}{l:List Nat}(W:Whole h k l)(B:Bytes h x l)(aJ:l.length<=140737488351232):HD C lf (p2 k l.length) x h=some (.ret (.bool true),h):=by
 have hlen:=qM (P:=ax) Tryd.underlying24 B;have ans:eN ax 24 (p2 k l.length)=some (I ((l.length+2:Nat):Int)):=yD Tryd.underlying24;have aw:IntKind.i64.wrap ((l.length:Int)+2)=((l.length+2:Nat):Int):=cH (by omega);have az:IntKind.i64.wrap ((l.length:Int)+1)=((l.length+1:Nat):Int):=cH (by omega);have i0:dD 1 (p2 k l.length) (I 0)=some (.ptr k 0):=gL (s:=1) (k:=k) (off:=0) (len:=l.length+2) (lo:=0) (cap:=some (l.length+2)) (kd:= .i64) (i:=0) (by omega) (by omega);have i1:=gL (s:=1) (k:=k) (off:=0) (len:=l.length+2) (lo:=0) (cap:=some (l.length+2)) (kd:= .i64) (i:=((l.length+1:Nat):Int)) (by omega) (by omega);rw[Int.toNat_natCast,Nat.mul_one,Nat.zero_add] at i1;have aog:dD 1 (p2 k l.length) (I ((l.length+1:Nat):Int))=some (.ptr k (l.length+1)):=i1;have oK:=agf (P:=ax) (t:=24) (k:=k) (n:=l.length) Tryd.underlying24 (by kernel_rfl);have v1:=Lj (P:=ax) (s:=24) (d:=9) Tryd.underlying24 Tryd.underlying9 (by kernel_rfl) (W.bytes B.1)
 have v2:=Lj (P:=ax) (s:=24) (d:=9) Tryd.underlying24 Tryd.underlying9 (by kernel_rfl) B;have d1:decide (((l.length+2:Nat):Int)=((l.length+2:Nat):Int))=true:=by simp
 have d2:decide ((165:Int)=165)=true:=rfl;have d3:decide ((90:Int)=90)=true:=rfl;have d4:decide (uN l=uN l)=true:=by simp
 unfold HD TV N0;simp only[aE,ans,hlen,aw,d1,decide_true,i0,W.c0,az,aog,W.aQ,oK,v1,v2,XM]
end
theorem X9{bL:List (Nat×Option Nat)}{h h':U}{ls:List Nat}{r:ab}(H:∀p∈bL,∀k,p.2=some k->k<h.next/\(∃m,h.mt k=some m)/\cW h h' k):fg (fY bL h h' ls) r=r:=by
 have ak:∀(bL:List (Nat×Option Nat)) i k,(∀p∈bL,∀k,p.2=some k->k<h.next/\(∃m,h.mt k=some m)/\cW h h' k)->l5 bL i=some k->k<h.next/\(∃m,h.mt k=some m)/\cW h h' k:=by
  intro bL
  induction bL with
  |nil=>intro i k _ e;cases e
  |cons p bL ba=>
   intro i k H e;obtain⟨l,a⟩:=p;have e:(bif Nat.beq l i then a else l5 bL i)=some k:=e;cases ag:Nat.beq l i with
   |true=>rw[ag,cond_true] at e;exact H (l,a) (List.mem_cons_self ..) k e
   |false=>rw[ag,cond_false] at e;exact ba i k (λp aA=>H p (List.mem_cons_of_mem _ aA)) e
 have:fY bL h h' ls=true:=by
  induction ls with
  |nil=>rfl
  |cons l ls ba=>
   show((match l5 bL l with|some k=>Fa h h' k|none=>true)&&fY bL h h' ls)=true;rw[ba,Bool.and_true];cases ai:l5 bL l with
   |none=>rfl
   |some k=>
    obtain⟨h1,h2,h3⟩:=ak bL l k H ai;exact afY h1 h2 h3
 rw[this,Cj]
section
variable{lf:Nat}{h:U}{T:dU}{n N:Nat}{wd b:Nat->Nat}{now:Int}{us:Nat->Bool}{nd:Nat->Nat->J}
def WM(C:ad):Prop:=∀h0 h T n N wd b now us nd bM eJ p,bx h0 T n N wd b now us nd->vg h0 h bM eJ p []->∃h',C (.iu 81) [.ptr T.a9 0,.fm eJ] h=some (.ret (.bo []),h')/\vg h0 h' bM eJ p (e8 us N)
theorem akS{C C':ad}(gf:4097<=lf)(aK:p5 C)(bb:∀eJ p bM v h y h',B2 h bM eJ p->Ku C' lf eJ (some (.ptr p 0)) v h=some (.ret y,h')->C (.fm eJ) [v] h=some (.ret y,h')){h0:U}{bM eJ p:Nat}(A:bx h0 T n N wd b now us nd)(j7:vg h0 h bM eJ p []):
 ∃h',CQ C lf (.ptr T.a9 0) (.fm eJ) h=some (.ret (.bo []),h')/\vg h0 h' bM eJ p (e8 us N):=by
 have k3:=A.hW;refine akT (n:=n) (N:=N) (wd:=wd) (b:=b) (now:=now) (us:=us) (nd:=nd) gf aK (λi h=>vg h0 h bM eJ p (e8 us i)) eJ (λi h j7=>A.iP j7.F λ_ e=>e.elim) (λi h hi hu j7=>?_) (λi h hi hu j7=>?_) (by simpa[e8,hp] using j7)
 ·have hle:=KW us i;obtain⟨h',az,aw⟩:=ayY (C:=C') (lf:=lf) j7 (by omega) (i+1);refine⟨h',bb eJ p bM _ h _ h' j7.L az,?_⟩;rw[agY,hu];exact aw
 ·rw[agY,hu];simpa using j7
def zG(C:ad):Prop:=∀h T n N wd b now us nd,bx h T n N wd b now us nd->∃x h',C (.fn 47) [.ptr T.a9 0] h=some (.ret x,h')/\fM h h' x (e8 us N)/\aN h h' (λ_=>False)
theorem aBG{C:ad}(E:WM C)(A:bx h T n N wd b now us nd):∃x h',Hu C lf (.ptr T.a9 0) h=some (.ret x,h')/\fM h h' x (e8 us N)/\aN h h' (λ_=>False):=by
 have a1:hE ax 33=some (.slice none 0 0):=by kernel_rfl
 have sB:=zj (P:=ax) (e:=33) (h:=h) a1;have qA:(c2 (.slice none 0 0)).cells=[.val (.slice none 0 0)]:=rfl;rw[qA] at sB;generalize iV:dR 33 [.val (.slice none 0 0)]=dH at *;generalize nO:h.new dH=g1 at *;have cI:g1.next=h.next+1:=by rw[<- nO,iG]
 have cQ:g1.wr h.next 1:=by
  have:=mT (h:=h) (o:=dH) (by rw[<- iV];rfl)
  rw[show dH.n=1 by rw[<- iV];rfl,nO] at this;exact this
 have aQ:g1.cell h.next 0=some (.val (.slice none 0 0)):=by rw[<- nO,lK, <- iV,oR];rfl
 have aL:aN h g1 (λ_=>False):=by rw[<- nO];exact ot _ _ _
 generalize iT:(⟨g1.aH,g1.next+1,g1.aS.put g1.next r0⟩:U)=g2 at *;have aw:g2=g1.new r0:=by rw[<- iT];rfl
 have cF:g2.next=h.next+2:=by rw[aw,iG,cI]
 have bF:aN g1 g2 (λ_=>False):=by rw[aw];exact ot _ _ _
 generalize gI:h7 de.ord 47 13 (iZ [(3,some (.ptr h.next 0))]) #[7] (b9 de [1,1,0,1,0,0]) (b9 de [1,1,0,1,0,1]) g1.next=ol at *
 generalize lP:(⟨g2.aH,g2.next+1,g2.aS.put g2.next ol⟩:U)=g3 at *;have ch:g3=g2.new ol:=by rw[<- lP];rfl
 have gl:g3.next=h.next+3:=by rw[ch,iG,cF]
 have dp:aN g2 g3 (λ_=>False):=by rw[ch];exact ot _ _ _
 have sb:∀j,j<g2.next->cW g2 g3 j:=λj aa=>dp.same j aa (λe=>e)
 have E9:∀j,j<g1.next->cW g1 g2 j:=λj aa=>bF.same j aa (λe=>e)
 have j7:vg h g3 (h.next+1) (h.next+2) h.next []:=
  ⟨(aL.trans bF).trans dp,⟨⟨ol,by rw[ch,A3,if_pos (by rw[cF])],by rw[<- gI,cI];rfl⟩,⟨r0,by
     have h1:cW g2 g3 (h.next+1):=sb _ (by omega)
     exact h1.trans (by rw[aw,A3,if_pos cI.symm]),rfl⟩⟩,
    ⟨.val (.slice none 0 0),by rw[(sb _ (by omega)).cell,(E9 _ (by omega)).cell];exact aQ,⟨hX.nil _ _ _,λj aa=>by cases aa⟩,λj aa=>by cases aa⟩,
    hc (hc cQ (E9 _ (by omega))) (sb _ (by omega)),by omega,by omega,by omega,by omega,by omega,by omega,by omega,by omega,by omega⟩
 obtain⟨g4,ct,tT⟩:=E h g3 T n N wd b now us nd _ _ _ A j7;obtain⟨QH,ei,fJ⟩:=tT.L.ol;obtain⟨ky,oO,Bf⟩:=tT.L.ob;obtain⟨x,x1,x2,x3⟩:=tT.v;have fJ:QH.sp= .loop .ready .none de.ord 47 13 (iZ [(3,some (.ptr h.next 0))]) #[7] (b9 de [1,1,0,1,0,0]) (b9 de [1,1,0,1,0,1]) (h.next+1):=fJ;generalize x4:g4.at (h.next+2) (zU QH)=g5 at *;have BR:aN g4 g5 (· =h.next+2):=by rw[<- x4];exact Hc rfl tT.hB
 have ai2:g5.aS.get (h.next+1)=some ky:=by rw[<- x4,vn,if_neg (by omega)];exact oO
 generalize Ic:g5.at (h.next+1) {ky with ck:=ky.ck+1,sp:= .jF true}=g6 at *;have apq:g5.next=g4.next:=by rw[<- x4];rfl
 have BS:aN g5 g6 (· =h.next+1):=by rw[<- Ic];exact Hc rfl (by rw[apq];exact tT.II)
 have afV:∀j,j≠h.next+1->j≠h.next+2->cW g4 g6 j:=λj h1 h2=>by
  have a:cW g4 g5 j:=by rw[<- x4];exact qa _ _ h2
  have b:cW g5 g6 j:=by rw[<- Ic];exact qa _ _ h1
  exact b.trans a
 have A1:g6.next=g4.next:=by rw[<- Ic, <- x4];rfl
 refine⟨x,g6,?_,⟨x2.aY.frame (Nat.le_of_eq A1.symm) λk ai=>afV k (x3 k ai).1 (x3 k ai).2.1,x2.new⟩,?_⟩
 ·unfold Hu Tm EI yV;simp only[cg,cf,sC,sB]
  have aI:∀aG bN ke,qZ C de.ord 47 none 13 #[7] (b9 de [1,1,0,1,0,0]) (b9 de [1,1,0,1,0,1]) (.fn (.func 81) [.ptr T.a9 0] []) [] (iZ [(3,some (.ptr h.next 0))]) g1 aG bN ke=aG [h.next+1] g5:=λaG bN ke=>by
   show dP (C (.iu 81) [.ptr T.a9 0,.fm (g1.next+1)] ⟨g1.aH,g1.next+2,(g1.aS.put g1.next r0).put (g1.next+1) (h7 de.ord 47 13 (iZ [(3,some (.ptr h.next 0))]) #[7] (b9 de [1,1,0,1,0,0]) (b9 de [1,1,0,1,0,1]) g1.next)⟩) (λ_ h2=>Cs (g1.next::[]) (g1.next+1) h2 aG bN ke)=_;have nH:(⟨g1.aH,g1.next+2,(g1.aS.put g1.next r0).put (g1.next+1) (h7 de.ord 47 13 (iZ [(3,some (.ptr h.next 0))]) #[7] (b9 de [1,1,0,1,0,0]) (b9 de [1,1,0,1,0,1]) g1.next)⟩:U)=g3:=by rw[<- lP, <- iT,gI]
   rw[nH,cI,ct,XK];unfold Cs;simp only[ei,fJ];show aG [h.next+1] (g4.at (h.next+2) (zU QH))=_;rw[x4]
  rw[aI];unfold tv nK yG yG Zh;have aob:g5.cell h.next 0=some x:=by rw[<- x4,X2 _ (by omega)];exact x1
  simp only[cg,cf,qL,aob,ai2,Bf];show yN (some (.ret x,g5.at (h.next+1) {ky with ck:=ky.ck+1,sp:= .jF true}))=_;rw[Ic,apM]
 ·refine⟨BS.aH.trans (BR.aH.trans tT.F.aH),by rw[A1];exact tT.F.next,λj aa e=>(afV j (by omega) (by omega)).trans (tT.F.same j aa e),λak=>BS.dx (BR.dx (tT.F.dx ak))⟩
end
section
variable{lf:Nat}{h:U}{T:dU}{n N:Nat}{wd b:Nat->Nat}{now:Int}{us:Nat->Bool}{nd:Nat->Nat->J}
theorem Wj{h:U}{k M:Nat}(w:h.wr k M):∃m,h.mt k=some m:=let ⟨m,a,_⟩:=w;⟨m,a⟩
def LR(C:ad):Prop:=∀h T n N wd b now us nd,bx h T n N wd b now us nd->C (.fn 46) [.ptr T.a9 0] h=some (.ret (I now),h)
theorem apQ{C:ad}(aK:p5 C)(A:bx h T n N wd b now us nd):Ht C lf (.ptr T.a9 0) h=some (.ret (I now),h):=by
 unfold Ht Tk NK;simp only[aE,aK _ _ _ _ _ _ _ _ _ A,Bool.not_true,A.a3]
def B7(C:ad):Prop:=∀h T n N wd b now us nd,bx h T n N wd b now us nd->∃x h',C (.fn 48) [.ptr T.a9 0] h=some (.ret x,h')/\fM h h' x (ea wd n)/\aN h h' (λ_=>False)
theorem aBi{C:ad}(aK:p5 C)(hu:Mo C)(A:bx h T n N wd b now us nd):∃x h',Hv C lf (.ptr T.a9 0) h=some (.ret x,h')/\fM h h' x (ea wd n)/\aN h h' (λ_=>False):=by
 obtain⟨x,h',e,a,f⟩:=hu _ _ _ _ _ _ A.st;refine⟨x,h',?_,a,f⟩;unfold Hv Tn NL;simp only[aE,aK _ _ _ _ _ _ _ _ _ A,Bool.not_true,A.c0,e]
def Bt(n l N u:Nat):J:= .bo [I (n:Int),I (l:Int),I (N:Int),I (u:Int)]
def B6(C:ad):Prop:=∀h T n N wd b now us nd,bx h T n N wd b now us nd->∃h',C (.fn 39) [.ptr T.a9 0] h=some (.ret (Bt n (n-(ea wd n).length) N (N-(e8 us N).length)),h')/\aN h h' (λ_=>False)
theorem ayQ{C:ad}(aK:p5 C)(anX:Mm C)(hle:LM C)(hu:zG C)(A:bx h T n N wd b now us nd):∃h',Hr C lf (.ptr T.a9 0) h=some (.ret (Bt n (n-(ea wd n).length) N (N-(e8 us N).length)),h')/\aN h h' (λ_=>False):=by
 obtain⟨x,h',e,a,f⟩:=hu _ _ _ _ _ _ _ _ _ A;have k3:=A.hW;have ab2:=KW us N
 have aJ:eN ax 100 (.aY T.aG 0 N (some N) 0)=some (I (N:Int)):=by
  simp[eN,Tryd.underlying100]
 have Dq:=aoY a;have aj:IntKind.i64.wrap ((N:Int)-((e8 us N).length:Int))=((N-(e8 us N).length:Nat):Int):=cH (by omega);have az:=anX _ _ _ _ _ _ A.st;have aw:=hle _ _ _ _ _ _ A.st
 have ai:∀{h1:U} (bL:List (Nat×Option Nat)) (ls:List Nat) (r:ab),(∀p∈bL,∀k,p.2=some k->k=T.a9)->cW h h1 T.a9->fg (fY bL h h1 ls) r=r:=λbL ls r aA aj=>X9 λp pC k e=>by
  have:=aA p pC k e
  subst this;exact⟨A.lt,Wj A.wt,aj⟩
 refine⟨h',?_,f⟩;unfold Hr Ta NH;simp only[aE,aK _ _ _ _ _ _ _ _ _ A,Bool.not_true,A.c0,A.aQ,aJ,az,aw];rw[ai _ _ _ (by intro p aA k e;simp[cv,kT] at aA;rcases aA with rfl|rfl|rfl|rfl<;>simp at e<;>exact e.symm) rfl];rw[ai _ _ _ (by intro p aA k e;simp[cv,kT] at aA;rcases aA with rfl|rfl|rfl|rfl<;>simp at e<;>exact e.symm) rfl];simp only[aE,e];rw[ai _ _ _ (by intro p aA k e;simp[cv,kT] at aA;rcases aA with rfl|rfl|rfl|rfl<;>simp at e<;>exact e.symm) (f.same _ A.lt (λe=>e))];simp only[aE,Dq,aj];rfl
end
structure ez where
 rt:Nat
 ro:Nat
 rb:Nat
 bu:Nat
structure bP (h:U) (R:ez) (n N:Nat) (on:Nat->Bool) (q:Nat->Option Nat) (b:Nat->Nat) (now:Int) (us:Nat->Bool) (rd:Nat->Nat->J):Prop where
 o9:1<=N
 hW:N<=4096
 ref:gV h R.rt R.ro R.rb n on q b
 a3:h.cell R.rt 2=some (I (N:Int))
 cl:h.cell R.rt 3=some (I now)
 ct:∃cap lo,h.cell R.rt 4=some (.aY R.bu 0 (N+1) cap lo)
 wt:h.wr R.rt 5
 wl:h.wr R.bu ((N+1)*308)
 kX:∀i c,i<N+1->c<308->h.cell R.bu (i*308+c)=some (rd i c)
 mR:∀i,i<N->rd (i+1) 0= .bool (us i)
 d1:R.bu≠R.rt
 d2:R.bu≠R.ro
 d3:R.bu≠R.rb
 d4:∀i k,i<n->q i=some k->k≠R.bu
 hB:R.bu<h.next
def sa(R:ez)(n:Nat)(q:Nat->Option Nat)(j:Nat):Prop:=j=R.bu\/Ks R.rt R.ro R.rb n q j
section
variable{lf:Nat}{h:U}{R:ez}{n N:Nat}{on:Nat->Bool}{q:Nat->Option Nat}{b:Nat->Nat}{now:Int}{us:Nat->Bool}{rd:Nat->Nat->J}
theorem bP.kK(A:bP h R n N on q b now us rd){j:Nat}(aa:sa R n q j):j<h.next:=by
 rcases aa with rfl|aa
 ·exact A.hB
 ·exact A.ref.kK aa
theorem bP.iP(A:bP h R n N on q b now us rd){h':U}{S:Nat->Prop}(F:aN h h' S)(aj:∀j,sa R n q j->¬S j):bP h' R n N on q b now us rd:=by
 have st:cW h h' R.rt:=F.same _ A.ref.lt (aj _ (.inr (.inl rfl)));have aY:cW h h' R.bu:=F.same _ A.hB (aj _ (.inl rfl));exact⟨A.o9,A.hW,A.ref.iP F λj aa=>aj j (.inr aa),by rw[st.cell];exact A.a3,by rw[st.cell];exact A.cl,let ⟨cap,lo,e⟩:=A.ct;⟨cap,lo,by rw[st.cell];exact e⟩,hc A.wt st,hc A.wl aY,λi c hi ae=>by rw[aY.cell];exact A.kX i c hi ae,A.mR,A.d1,A.d2,A.d3,A.d4,Nat.lt_of_lt_of_le A.hB F.next⟩
def L4(C:ad):Prop:=∀h (n m:Int),jQ h-> -9223372036854775808<=n->n<9223372036854775808-> -9223372036854775808<=m->m<9223372036854775808->
 ((n<1\/4096<n\/m<1\/4096<m)->C (.fn 44) [I n,I m] h=some (.ret (.bo [.val (.pointer none),I 22]),h))/\
 (1<=n->n<=4096->1<=m->m<=4096->∃h' R,C (.fn 44) [I n,I m] h=some (.ret (.bo [.ptr R.rt 0,I 0]),h')/\
   bP h' R n.toNat m.toNat (λ_=>false) (λ_=>none) (λ_=>0) 0 (λ_=>false) (λ_=>fr)/\(∀j,sa R n.toNat (λ_=>none) j->h.next<=j)/\aN h h' (λ_=>False))
theorem ayO{C:ad}(w7:L3 C){n m:Int}(ak:jQ h):
 ((n<1\/4096<n\/m<1\/4096<m)->CI C lf (I n) (I m) h=some (.ret (.bo [.val (.pointer none),I 22]),h))/\
 (1<=n->n<=4096->1<=m->m<=4096->∃h' R,CI C lf (I n) (I m) h=some (.ret (.bo [.ptr R.rt 0,I 0]),h')/\
   bP h' R n.toNat m.toNat (λ_=>false) (λ_=>none) (λ_=>0) 0 (λ_=>false) (λ_=>fr)/\(∀j,sa R n.toNat (λ_=>none) j->h.next<=j)/\aN h h' (λ_=>False)):=by
 unfold CI Tj NJ;refine⟨λag=>?_,λh1 h2 h3 aU=>?_⟩
 ·by_cases bR:n<1
  ·simp only[aE,bw bR]
  ·by_cases b2:4096<n
   ·simp only[aE,bq bR,bw b2]
   ·by_cases gW:m<1
    ·simp only[aE,bq bR,bq b2,bw gW]
    ·have ky:4096<m:=by omega
     simp only[aE,bq bR,bq b2,bq gW,bw ky]
 ·have bR:¬n<1:=by omega
  have b2:¬4096<n:=by omega
  have gW:¬m<1:=by omega
  have ky:¬4096<m:=by omega
  obtain⟨M,rfl⟩:∃M:Nat,m=M:=⟨m.toNat,by omega⟩;obtain⟨n,rfl⟩:∃M:Nat,n=M:=⟨n.toNat,by omega⟩;simp only[aE,bq bR,bq b2,bq gW,bq ky,adH ak];have jl:IntKind.i64.wrap ((M:Int)+1)=((M+1:Nat):Int):=cH (by omega);generalize Pl:(⟨h.aH,h.next+10,h.aS⟩:U)=g0 at *;have tm:g0.next=h.next+10:=by rw[<- Pl]
  have ij:aN h g0 (λ_=>False):=by rw[<- Pl];exact⟨rfl,Nat.le_add_right _ _,λ_ _ _=>rfl,λak j aa=>ak j (by have:h.next+10<=j:=aa;omega)⟩
  have xV:∀j,h.next<=j->g0.aS.get j=none:=λj aa=>by rw[<- Pl];exact ak j aa
  obtain⟨g1,y0,y1,ro,rb,az,V,aL,cd,c1⟩:=w7 g0 n (by omega) (by omega) (ij.dx ak);have cI:=aL.next
  have qP:∀(P:Prop) (i k:Nat),(λ_:Nat=>(none:Option Nat)) i=some k->P:=λP i k e=>by cases e
  have ag0:∀j,Kt ro rb n (λ_=>none) j->h.next+10<=j:=λj aa=>by
   rcases aa with rfl|rfl|⟨i,_,e⟩
   ·omega
   ·omega
   ·cases e
  have uC:=V.uC;have tl:=V.tl;have a1:(c2 (.agg ⟨zeroV⟩)).cells=eY fr:=by kernel_rfl
  have hlen:(eY fr).length=308:=by rw[eY,List.length_map,List.length_range]
  have kF:=Wx (P:=ax) (t:=134) (s:=308) (b:=2464) (z:= .agg ⟨zeroV⟩) (k1:= .i64) (k2:= .i64) (l:=M+1) (c:=M+1) (base:=h.next) (i:=5) (h:=g1)
   Tryd.underlying134 (by kernel_rfl) (by kernel_rfl) (by kernel_rfl) (Nat.le_refl _) (by omega) (by omega) (by rw[a1,hlen]) (by omega)
  rw[a1] at kF;obtain⟨rz,uB,rfl⟩:=V.aB;obtain⟨rA,pH,rfl⟩:=V.az
  have oC:ib ax 136 [0,1,3] [.agg [.aY ro 0 n rz uB,.aY rb 0 n rA pH],I (M:Int),.aY (h.next+5) 0 (M+1) (some (M+1)) 0]=
   some (.agg [.aY ro 0 n rz uB,.aY rb 0 n rA pH,I (M:Int),I 0,.aY (h.next+5) 0 (M+1) (some (M+1)) 0]):=by kernel_rfl
  have nS:kj h.next (I ((M+1:Nat):Int))=true:=rfl
  generalize pB:gZ _ ((M+1)*308) (eY fr)=op at kF;have ap5:op.n=(M+1)*308:=by rw[<- pB];rfl
  have ap6:op.ro=false:=by rw[<- pB];rfl
  generalize iT:g1.at (h.next+5) op=g2 at *;have cF:g2.next=g1.next:=by rw[<- iT];rfl
  have E9:∀j,j≠h.next+5->cW g1 g2 j:=λj aa=>by rw[<- iT];exact qa _ _ aa
  have cL:g2.wr (h.next+5) ((M+1)*308):=by rw[<- iT, <- ap5];exact Wh ap6
  have gH:=wS (e:=136) (x:= .agg [.aY ro 0 n rz uB,.aY rb 0 n rA pH,I (M:Int),I 0,.aY (h.next+5) 0 (M+1) (some (M+1)) 0]) (h:=g2) rfl;have s0:(J.agg [.aY ro 0 n rz uB,.aY rb 0 n rA pH,I (M:Int),I 0,.aY (h.next+5) 0 (M+1) (some (M+1)) 0]).cells=[.aY ro 0 n rz uB,.aY rb 0 n rA pH,I (M:Int),I 0,.aY (h.next+5) 0 (M+1) (some (M+1)) 0]:=rfl;rw[s0] at gH;generalize Aw:dR _ [.aY ro 0 n rz uB,.aY rb 0 n rA pH,I (M:Int),I 0,.aY (h.next+5) 0 (M+1) (some (M+1)) 0]=or at gH;have aqc:or.n=5:=by rw[<- Aw];rfl
  have aqd:or.ro=false:=by rw[<- Aw];rfl
  have aqe:∀i,or.get i=([.aY ro 0 n rz uB,.aY rb 0 n rA pH,I (M:Int),I 0,.aY (h.next+5) 0 (M+1) (some (M+1)) 0]:List J)[i]?:=λi=>by rw[<- Aw,oR]
  generalize lP:g2.new or=g3 at *;have gl:g3.next=g2.next+1:=by rw[<- lP,iG]
  have sb:∀j,j≠g2.next->cW g2 g3 j:=λj aa=>by rw[<- lP];exact n3 _ _ aa
  have gy:g3.wr g2.next 5:=by
   have:=mT (h:=g2) (o:=or) aqd
   rw[aqc,lP] at this;exact this
  have cl:∀i,g3.cell g2.next i=([.aY ro 0 n rz uB,.aY rb 0 n rA pH,I (M:Int),I 0,.aY (h.next+5) 0 (M+1) (some (M+1)) 0]:List J)[i]?:=λi=>by rw[<- lP,lK,aqe]
  have aid:sv g3 (.aY ro 0 n rz uB) (.aY rb 0 n rA pH) ro rb n (λ_=>false) (λ_=>none) (λ_=>0):=V.frame (by omega) λj aa=>(sb j (by have:=V.kK aa;omega)).trans (E9 j (by have:=ag0 j aa;omega))
  have aBL:g3.wr (h.next+5) ((M+1)*308):=hc cL (sb _ (by omega));refine⟨g3,⟨g2.next,ro,rb,h.next+5⟩,?_,?_,λj aa=>?_,?_⟩
  ·simp only[jl,az,nS,Bool.and_self,Cj,kF,aE,oC,gH]
  ·simp only[Int.toNat_natCast];refine⟨by omega,by omega,⟨⟨_,_,by rw[cl];rfl,by rw[cl];rfl,aid⟩,⟨5,by omega,gy⟩,by show g2.next≠ro;omega,by show g2.next≠rb;omega,λi k _ e=>qP _ i k e,by show g2.next<_;omega⟩,by rw[cl];rfl,by rw[cl];rfl,⟨_,_,by rw[cl];rfl⟩,gy,aBL,λi c hi ae=>?_,λi _=>rfl,by show h.next+5≠g2.next;omega,by show h.next+5≠ro;omega,by show h.next+5≠rb;omega,λi k _ e=>qP _ i k e,by show h.next+5<_;omega⟩;have a8:i*308+c<(M+1)*308:=by omega
   have Dt:(i*308+c)%308=c:=by omega
   show g3.cell (h.next+5) _=_;rw[(sb _ (by omega)).cell, <- iT,MM, <- pB,wk _ _ a8,hlen,Dt,eY,List.getElem?_map,List.getElem?_range ae];rfl
  ·rcases aa with rfl|rfl|aa
   ·show h.next<=h.next+5;omega
   ·show h.next<=g2.next;omega
   ·have:=ag0 j (by simpa only[Int.toNat_natCast] using aa);omega
  ·refine⟨?_,by omega,λj aa _=>?_,λak=>?_⟩
   ·rw[<- lP, <- iT];exact aL.aH.trans ij.aH
   ·exact(sb j (by omega)).trans ((E9 j (by omega)).trans ((aL.same j (by omega) (λe=>e)).trans (ij.same j aa (λe=>e))))
   ·have h1:=aL.dx (ij.dx ak);rw[<- lP];refine xG (λj aa=>?_) _;rw[<- iT,vn,if_neg (by omega)];exact h1 j (by omega)
end
section
variable{lf:Nat}{h:U}{R:ez}{n N:Nat}{on:Nat->Bool}{q:Nat->Option Nat}{b:Nat->Nat}{now:Int}{us:Nat->Bool}{rd:Nat->Nat->J}
def tQ(C:ad):Prop:=∀h (e:Int),C (.fn 34) [I e] h=some (.ret (I e),h)
theorem apR{C:ad}{e:Int}:Hq C lf (I e) h=some (.ret (I e),h):=by
 unfold Hq SS NF;simp only[aE]
theorem ayR(n l N u:Nat):ext 0 (Bt n l N u)=some (I (n:Int))/\ext 1 (Bt n l N u)=some (I (l:Int))/\ext 2 (Bt n l N u)=some (I (N:Int))/\ext 3 (Bt n l N u)=some (I (u:Int)):=⟨rfl,rfl,rfl,rfl⟩
end
section
theorem YX{P:Program}{t e:TypeId}{k off:Nat}(hu:P.underlying t=some (.pointer e)):bin P .eql t (.ptr k off) (.val (.pointer none))=some (.bool false):=aje hu
theorem ale{P:Program}{t e:TypeId}(hu:P.underlying t=some (.pointer e)):bin P .eql t (.val (.pointer none)) (.val (.pointer none))=some (.bool true):=by
 rw[tY];show sM P .eql t _ _=_;simp[sM,uc,ub,hu]
variable{lf:Nat}{C:ad}
end
structure dF where
 wd:Nat->Nat
 b:Nat->Nat
 nd:Nat->Nat->J
 bl:Nat->Nat->Nat
def qR(wd:Nat->Nat)(j:Nat):Nat->Nat:=c3 wd (j/64) (qX (wd (j/64)) (j%64))
def dF.take(s:dF)(i c j:Nat):dF:=⟨qR s.wd j,fW s.b j,cO s.nd i c (I ((j+1:Nat):Int)),j5 s.bl i c (j+1)⟩
def dF.back(s:dF)(i c:Nat):dF:=⟨wi s.wd (s.bl i c-1),s.b,cO s.nd i c (I 0),j5 s.bl i c 0⟩
def en(i:Nat)(bk:List Nat)(s:dF):dF:=bk.foldl (λs c=>s.back i c) s
def low(n:Nat)(wd:Nat->Nat):Option Nat:=(List.range n).find? λj=>!bU wd j
theorem adl{n:Nat}{wd:Nat->Nat}(h:low n wd=none):∀j,j<n->bU wd j=true:=λj aa=>by
 have:=List.find?_eq_none.1 h j (List.mem_range.2 aa)
 simpa using this
theorem Qy{n:Nat}{wd:Nat->Nat}{i:Nat}(h:low n wd=some i):i<n/\bU wd i=false/\∀j,j<i->bU wd j=true:=by
 unfold low at h;obtain⟨h1,cd,c1,h2,h3⟩:=List.find?_eq_some_iff_append.1 h;have hi:i∈List.range n:=by rw[h2];simp
 have iU:=List.mem_range.1 hi;refine⟨iU,by simpa using h1,λj aa=>?_⟩
 have aJ:cd.length=i:=by
  have aU:(List.range n)[cd.length]?=some i:=by rw[h2];simp
  have bA:cd.length<n:=by
   have bC:=(List.getElem?_eq_some_iff.1 aU).1;simpa using bC
  rw[List.getElem?_range bA] at aU;simpa using aU
 have er:j∈cd:=by
  have hz:(List.range n)[j]?=some j:=List.getElem?_range (by omega);rw[h2,List.getElem?_append_left (by omega)] at hz;exact List.mem_of_getElem? hz
 simpa using h3 j er
def df(n i:Nat):List Nat->dF->List Nat->dF×List Nat×Bool
 | [],s,bk=>(s,bk,true)
 |c::cs,s,bk=>if 0<s.bl i c then df n i cs s bk else match low n s.wd with
  |none=>(s,bk,false)
  |some j=>df n i cs (s.take i c j) (bk++[c])
section
variable{h h':U}{T:dU}{n N:Nat}{wd b c6 b':Nat->Nat}{now:Int}{us:Nat->Bool}{nd:Nat->Nat->J}{bl:Nat->Nat->Nat}{i c j:Nat}
theorem IY(_:∀i,wd i<2 ^ 64){j gM:Nat}:bU (qR wd j) gM=(bU wd gM||decide (gM=j)):=by
 unfold qR;rw[adL];split
 ·rename_i e;rw[aeb];unfold bU;rw[e];congr 1;by_cases h:gM=j
  ·subst h;simp
  ·have:gM%64≠j%64:=by omega
   simp[h,this]
 ·rename_i e
  have:gM≠j:=λh=>e (by rw[h])
  simp[this]
theorem adN(hw:∀i,wd i<2 ^ 64)(j:Nat):∀i,qR wd j i<2 ^ 64:=λi=>by
 unfold qR;by_cases e:i=j/64
 ·subst e;rw[kN];exact aec (hw _) (Nat.mod_lt _ (by omega))
 ·rw[ig _ _ e];exact hw i
theorem apY(hw:∀i,wd i<2 ^ 64)(j:Nat):∀i,wi wd j i<2 ^ 64:=λi=>by
 unfold wi;by_cases e:i=j/64
 ·subst e;rw[kN];exact Nat.and_lt_two_pow _ (by have:2 ^ (j%64)>0:=Nat.two_pow_pos _;omega)
 ·rw[ig _ _ e];exact hw i
theorem aBS(h1:∀i,wd i<2 ^ 64)(h2:∀i,c6 i<2 ^ 64)(h:∀j,bU wd j=bU c6 j):wd=c6:=by
 funext i
 apply Nat.eq_of_testBit_eq;intro c;by_cases ae:c<64
 ·have:=h (i*64+c)
  unfold bU at this;rw[show(i*64+c)/64=i by omega,show(i*64+c)%64=c by omega] at this;exact this
 ·rw[Nat.testBit_lt_two_pow (Nat.lt_of_lt_of_le (h1 i) (Nat.pow_le_pow_right (by omega) (by omega))),Nat.testBit_lt_two_pow (Nat.lt_of_lt_of_le (h2 i) (Nat.pow_le_pow_right (by omega) (by omega)))]
theorem cR.take(M:cR n N wd nd bl)(hw:∀i,wd i<2 ^ 64)(hi:i<N)(dB:12<=c)(ae:c<308)(aa:j<n)(jH:bU wd j=false):
 cR n N (qR wd j) (cO nd i c (I ((j+1:Nat):Int))) (j5 bl i c (j+1)):=by
 have bY:∀i' a2,i'<N->12<=a2->a2<308->bl i' a2≠j+1:=λi' a2 an aD a7 e=>by
  have:=M.on i' a2 an aD a7 (by omega)
  rw[e,Nat.add_sub_cancel,jH] at this;cases this
 refine⟨λi' a2 cA nL fi=>?_,λi' a2=>?_,λi' a2 cA nL fi aA=>?_,λi1 aQ i2 a3 nc h1 kB nf h2 mF aA he=>?_⟩
 ·by_cases e:i'=i/\a2=c
  ·obtain⟨rfl,rfl⟩:=e;rw[mS,se]
  ·rw[ha _ _ (by omega),nn _ _ (by omega)];exact M.cell i' a2 cA nL fi
 ·unfold j5;split
  ·omega
  ·exact M.le i' a2
 ·rw[IY hw];by_cases e:i'=i/\a2=c
  ·obtain⟨rfl,rfl⟩:=e;rw[se,Nat.add_sub_cancel];simp
  ·rw[nn _ _ (by omega)] at aA⊢;rw[M.on i' a2 cA nL fi aA];rfl
 ·by_cases az:i1=i/\aQ=c
  ·by_cases aw:i2=i/\a3=c
   ·omega
   ·obtain⟨rfl,rfl⟩:=az;rw[se,nn _ _ (by omega)] at he;exact absurd he.symm (bY i2 a3 nf h2 mF)
  ·rw[nn _ _ (by omega)] at aA he;by_cases aw:i2=i/\a3=c
   ·obtain⟨rfl,rfl⟩:=aw;rw[se] at he;exact absurd he (bY i1 aQ nc h1 kB)
   ·rw[nn _ _ (by omega)] at he;exact M.inj i1 aQ i2 a3 nc h1 kB nf h2 mF aA he
end
inductive oe (n i:Nat) (gR:dF):List Nat->dF->Prop
 |nil:oe n i gR [] gR
 |snoc {bk:List Nat} {s:dF} {c j:Nat}:oe n i gR bk s->s.bl i c=0->12<=c->c<308->j<n->bU s.wd j=false->oe n i gR (bk++[c]) (s.take i c j)
section
variable{n N i:Nat}{gR s:dF}{bk:List Nat}
structure aia (n N i:Nat) (gR:dF) (bk:List Nat) (s:dF):Prop where
 M:cR n N s.wd s.nd s.bl
 iI:∀j,s.wd j<2 ^ 64
 out:∀i' c,i'≠i\/c ∉ bk->s.bl i' c=gR.bl i' c
 QQ:∀i' c,i'≠i\/c ∉ bk->s.nd i' c=gR.nd i' c
 oZ:∀c,c∈bk->gR.bl i c=0/\12<=c/\c<308/\0<s.bl i c/\bU gR.wd (s.bl i c-1)=false/\s.bl i c<=n
 on:∀j,bU s.wd j=true↔(bU gR.wd j=true\/∃c,c∈bk/\s.bl i c=j+1)
 Ch:∀p,bU gR.wd (p/64)=true->s.b p=gR.b p
 z:∀c,c∈bk->∀t,t<64->s.b ((s.bl i c-1)*64+t)=0
 eQ:bk.Nodup
 aj7:((List.range n).filter (bU s.wd)).length=((List.range n).filter (bU gR.wd)).length+bk.length
theorem Yo{n j:Nat}{f g:Nat->Bool}(aa:j<n)(ak:f j=false)(bd:∀k,g k=(f k||decide (k=j))):((List.range n).filter g).length=((List.range n).filter f).length+1:=by
 induction n with
 |zero=>omega
 |succ n ba=>
  rw[List.range_succ,List.filter_append,List.filter_append,List.length_append,List.length_append];by_cases e:j=n
  ·subst e
   have h1:(List.range j).filter g=(List.range j).filter f:=List.filter_congr λk ai=>by
    have:=List.mem_range.1 ai
    rw[bd];simp;omega
   rw[h1];simp[List.filter,ak,bd]
  ·rw[ba (by omega)];have h2:g n=f n:=by rw[bd];simp;omega
   simp only[List.filter,h2];omega
theorem oe.props(t:oe n i gR bk s)(hi:i<N)(M:cR n N gR.wd gR.nd gR.bl)(hw:∀j,gR.wd j<2 ^ 64):aia n N i gR bk s:=by
 induction t with
 |nil=>exact⟨M,hw,λ_ _ _=>rfl,λ_ _ _=>rfl,λc ae=>(by cases ae),λj=>(by simp),λ_ _=>rfl,λc ae=>(by cases ae),List.nodup_nil,(by simp)⟩
 | @snoc bk s c j t h0 dB ae aa jH ba=>
   have rL:c ∉ bk:=λe=>by have:=(ba.oZ c e).2.2.2.1;omega
   have ab9:bU gR.wd j=false:=by
    cases ag:bU gR.wd j with
    |false=>rfl
    |true=>have:=(ba.on j).2 (.inl ag);rw[jH] at this;cases this
   have na:∀a2,a2∈bk->(s.take i c j).bl i a2=s.bl i a2:=λa2 fi=>nn _ _ (.inr λe=>rL (e▸fi))
   have Db:(s.take i c j).bl i c=j+1:=se _ _ _ _;refine⟨ba.M.take ba.iI hi dB ae aa jH,adN ba.iI j,λi' a2 h=>?_,λi' a2 h=>?_,λa2 h=>?_,λgM=>?_,λp aA=>?_,λa2 h t aK=>?_,?_,?_⟩
   ·have:i'≠i\/a2≠c:=by
     rcases h with h|h
     ·exact .inl h
     ·exact .inr λe=>h (by simp[e])
    show j5 s.bl i c (j+1) i' a2=_;rw[nn _ _ this];exact ba.out i' a2 (h.imp id λh e=>h (by simp[e]))
   ·have:i'≠i\/a2≠c:=by
     rcases h with h|h
     ·exact .inl h
     ·exact .inr λe=>h (by simp[e])
    show cO s.nd i c _ i' a2=_;rw[ha _ _ this];exact ba.QQ i' a2 (h.imp id λh e=>h (by simp[e]))
   ·rcases List.mem_append.1 h with h|h
    ·rw[na a2 h];exact ba.oZ a2 h
    ·have e:a2=c:=by simpa using h
     subst e;rw[Db,Nat.add_sub_cancel];exact⟨by rw[<- ba.out i a2 (.inr rL)];exact h0,dB,ae,by omega,ab9,by omega⟩
   ·show bU (qR s.wd j) gM=true↔_;rw[IY ba.iI,Bool.or_eq_true,ba.on gM,decide_eq_true_eq];constructor
    ·rintro ((e|⟨a2,az,aw⟩)|e)
     ·exact .inl e
     ·exact .inr ⟨a2,by simp[az],by rw[na a2 az];exact aw⟩
     ·exact .inr ⟨c,by simp,by rw[Db,e]⟩
    ·rintro (e|⟨a2,az,aw⟩)
     ·exact .inl (.inl e)
     ·rcases List.mem_append.1 az with h|h
      ·exact .inl (.inr ⟨a2,h,by rw[<- na a2 h];exact aw⟩)
      ·have e:a2=c:=by simpa using h
       subst e;rw[Db] at aw;exact .inr (by omega)
   ·show fW s.b j p=_;unfold fW
    rw[if_neg λe=>by
     have:p/64=j:=by omega
     rw[this,ab9] at aA;cases aA]
    exact ba.Ch p aA
   ·show fW s.b j _=0;unfold fW;rcases List.mem_append.1 h with h|h
    ·rw[na a2 h];split
     ·rfl
     ·exact ba.z a2 h t aK
    ·have e:a2=c:=by simpa using h
     subst e;rw[Db,if_pos (by omega)]
   ·exact List.nodup_append.2 ⟨ba.eQ,by simp,λa bX b ag e=>rL (by
     have:b=c:=by simpa using ag
     rw[<- this, <- e];exact bX)⟩
   ·show((List.range n).filter (bU (qR s.wd j))).length=_;rw[Yo (g:=bU (qR s.wd j)) aa jH λk=>IY ba.iI,ba.aj7,List.length_append];rfl
theorem MA:∀(bk:List Nat) (s:dF),bk.Nodup->(∀j,s.wd j<2 ^ 64)->(∀c,c∈bk->0<s.bl i c)->
 (∀j,(en i bk s).wd j<2 ^ 64)/\(en i bk s).b=s.b/\(∀i' c,(en i bk s).bl i' c=if i'=i/\c∈bk then 0 else s.bl i' c)/\(∀i' c,(en i bk s).nd i' c=if i'=i/\c∈bk then I 0 else s.nd i' c)/\
   (∀j,bU (en i bk s).wd j=true↔(bU s.wd j=true/\∀c,c∈bk->s.bl i c≠j+1))
 | [],s,_,hw,_=>⟨hw,rfl,λi' c=>by simp[en],λi' c=>by simp[en],λj=>by simp[en]⟩
 |c::bk,s,aO,hw,aA=>by
  obtain⟨Du,fv⟩:=List.nodup_cons.1 aO;have bY:∀a2,a2∈bk->(s.back i c).bl i a2=s.bl i a2:=λa2 h=>nn _ _ (.inr λe=>Du (e▸h))
  obtain⟨an,aD,a7,cw,dO⟩:=MA bk (s.back i c) fv (apY hw _) λa2 h=>by rw[bY a2 h];exact aA a2 (by simp[h])
  have ae:=aA c (by simp);refine⟨an,aD,λi' a2=>?_,λi' a2=>?_,λj=>?_⟩
  ·show(en i bk (s.back i c)).bl i' a2=_;rw[a7];by_cases e:i'=i/\a2∈bk
   ·rw[if_pos e,if_pos ⟨e.1,by simp[e.2]⟩]
   ·rw[if_neg e];show j5 s.bl i c 0 i' a2=_;unfold j5;by_cases aw:i'=i/\a2=c
    ·rw[if_pos aw,if_pos ⟨aw.1,by simp[aw.2]⟩]
    ·rw[if_neg aw,if_neg λh=>by
      rcases List.mem_cons.1 h.2 with h3|h3
      ·exact aw ⟨h.1,h3⟩
      ·exact e ⟨h.1,h3⟩]
  ·show(en i bk (s.back i c)).nd i' a2=_;rw[cw];by_cases e:i'=i/\a2∈bk
   ·rw[if_pos e,if_pos ⟨e.1,by simp[e.2]⟩]
   ·rw[if_neg e];show cO s.nd i c (I 0) i' a2=_;unfold cO;by_cases aw:i'=i/\a2=c
    ·rw[if_pos aw,if_pos ⟨aw.1,by simp[aw.2]⟩]
    ·rw[if_neg aw,if_neg λh=>by
      rcases List.mem_cons.1 h.2 with h3|h3
      ·exact aw ⟨h.1,h3⟩
      ·exact e ⟨h.1,h3⟩]
  ·show bU (en i bk (s.back i c)).wd j=true↔_;rw[dO];show(bU (wi s.wd (s.bl i c-1)) j=true/\_)↔_;rw[QL hw,Bool.and_eq_true,decide_eq_true_eq];constructor
   ·rintro ⟨⟨az,aw⟩,ch⟩
    refine⟨az,λa2 h=>?_⟩;rcases List.mem_cons.1 h with rfl|h
    ·omega
    ·rw[<- bY a2 h];exact ch a2 h
   ·rintro ⟨az,aw⟩
    refine⟨⟨az,λe=>aw c (by simp) (by omega)⟩,λa2 h=>?_⟩;rw[bY a2 h];exact aw a2 (by simp[h])
theorem oe.aBy(t:oe n i gR bk s)(hi:i<N)(M:cR n N gR.wd gR.nd gR.bl)(hw:∀j,gR.wd j<2 ^ 64):
 (en i bk s).wd=gR.wd/\(en i bk s).nd=gR.nd/\(en i bk s).bl=gR.bl/\∀p,bU gR.wd (p/64)=true->(en i bk s).b p=gR.b p:=by
 have P:=t.props hi M hw;obtain⟨an,aD,a7,cw,dO⟩:=MA (i:=i) bk s P.eQ P.iI λc h=>(P.oZ c h).2.2.2.1
 refine⟨aBS an hw λj=>?_,?_,?_,λp aA=>by rw[aD];exact P.Ch p aA⟩
 ·rw[Bool.eq_iff_iff,dO,P.on];constructor
  ·rintro ⟨e|⟨c,az,aw⟩,ch⟩
   ·exact e
   ·exact absurd aw (ch c az)
  ·intro e;refine⟨.inl e,λc h aw=>?_⟩
   have:=(P.oZ c h).2.2.2.2.1
   rw[aw,Nat.add_sub_cancel,e] at this;cases this
 ·funext i' c
  rw[cw];by_cases e:i'=i/\c∈bk
  ·rw[if_pos e,e.1];obtain⟨cQ,cL,gy,_⟩:=P.oZ c e.2;rw[M.cell i c hi cL gy,cQ];rfl
  ·rw[if_neg e];exact P.QQ i' c (by by_cases h:i'=i;exact .inr λh2=>e ⟨h,h2⟩;exact .inl h)
 ·funext i' c
  rw[a7];by_cases e:i'=i/\c∈bk
  ·rw[if_pos e,e.1,(P.oZ c e.2).1]
  ·rw[if_neg e];exact P.out i' c (by by_cases h:i'=i;exact .inr λh2=>e ⟨h,h2⟩;exact .inl h)
theorem xE:∀(cs:List Nat) (s:dF) (bk:List Nat),oe n i gR bk s->(∀c,c∈cs->12<=c/\c<308)->oe n i gR (df n i cs s bk).2.1 (df n i cs s bk).1
 | [],s,bk,t,_=>t
 |c::cs,s,bk,t,ae=>by
  unfold df;by_cases e:0<s.bl i c
  ·rw[if_pos e];exact xE cs s bk t λa2 h=>ae a2 (by simp[h])
  ·rw[if_neg e];cases aJ:low n s.wd with
   |none=>exact t
   |some j=>
    obtain⟨cd,c1,_⟩:=Qy aJ;exact xE cs _ _ (.snoc t (by omega) (ae c (by simp)).1 (ae c (by simp)).2 cd c1) λa2 h=>ae a2 (by simp[h])
theorem Of:∀(cs:List Nat) (s:dF) (bk:List Nat),(df n i cs s bk).2.2=false->(∀j,j<n->bU (df n i cs s bk).1.wd j=true)/\(df n i cs s bk).2.1.length<bk.length+cs.length
 | [],s,bk,h=>by cases h
 |c::cs,s,bk,h=>by
  unfold df at h⊢;by_cases e:0<s.bl i c
  ·rw[if_pos e] at h⊢;obtain⟨h1,h2⟩:=Of cs s bk h;exact⟨h1,by simp only[List.length_cons];omega⟩
  ·rw[if_neg e] at h⊢;cases aJ:low n s.wd with
   |none=>exact⟨adl aJ,by simp only[List.length_cons];omega⟩
   |some j=>
    rw[aJ] at h;obtain⟨h1,h2⟩:=Of cs _ _ h;exact⟨h1,by simp only[List.length_append,List.length_cons,List.length_nil] at h2⊢;omega⟩
theorem Ha:∀(cs:List Nat) (s:dF) (bk:List Nat),(df n i cs s bk).2.2=true->(∀c,0<s.bl i c->0<(df n i cs s bk).1.bl i c)/\(∀c,c∈cs->0<(df n i cs s bk).1.bl i c)
 | [],s,bk,_=>⟨λ_ h=>h,λc h=>by cases h⟩
 |c::cs,s,bk,h=>by
  unfold df at h⊢;by_cases e:0<s.bl i c
  ·rw[if_pos e] at h⊢;obtain⟨h1,h2⟩:=Ha cs s bk h;refine⟨h1,λa2 ae=>?_⟩;rcases List.mem_cons.1 ae with rfl|ae
   ·exact h1 a2 e
   ·exact h2 a2 ae
  ·rw[if_neg e] at h⊢;cases aJ:low n s.wd with
   |none=>rw[aJ] at h;cases h
   |some j=>
    rw[aJ] at h;obtain⟨h1,h2⟩:=Ha cs _ _ h
    have h3:0<(s.take i c j).bl i c:=by
     show 0<j5 s.bl i c (j+1) i c;rw[se];omega
    refine⟨λa2 aA=>h1 a2 ?_,λa2 ae=>?_⟩
    ·show 0<j5 s.bl i c (j+1) i a2;unfold j5;split
     ·omega
     ·exact aA
    ·rcases List.mem_cons.1 ae with rfl|ae
     ·exact h1 a2 h3
     ·exact h2 a2 ae
end
theorem aiO{P:Program}{h:U}{t u e sz b k off len lo n:Nat}{y:J}{olds news:List J}(T:sk P t u e sz b)(hm:∃m,h.mt k=some m)(aq:h.cells k off (len*sz)=some olds)(he:kU h.x0 sz y=some (n,news))(gg:news.length=n*sz)
 (iW:eA news=true)(aO:1<=n)(ae:len+n<=140737488355328)(sZ:(len+n)*b<=140737488355328):
 gA P .append #[t,u] [.aY k off len (some len) lo,y] h=some (.aY h.next 0 (len+n) none 0,h.new (yF e sz (olds++news))):=by
 rw[Lg T he gg iW];obtain⟨m,hm⟩:=hm;unfold U.mt at hm;cases jW:h.aS.get k with
 |none=>simp[jW] at hm
 |some o=>
  have bR:Nat.ble (len+n) len=false:=by
   cases ag:Nat.ble (len+n) len with
   |false=>rfl
   |true=>exact absurd (Nat.le_of_ble_eq_true ag) (by omega)
  have aJ:j1 o off (len*sz)=some olds:=by rw[AY jW];exact aq
  simp only[lF,U.sf,jW,force_eq,bR,cond_false,aJ];exact Mx ae sZ
abbrev mB:Nat:=0
noncomputable def nG:TypeId:=match ax.underlying 143 with
 |some (.slice e)=>e
 |_=>0
theorem rn:sk ax 143 143 nG 1 8:=
 ⟨by kernel_rfl,by kernel_rfl,⟨.pointer none,by kernel_rfl,rfl⟩,by kernel_rfl,⟨_,Tryd.underlying143,rfl⟩,Nat.le_refl 1⟩
theorem hg.same{h h':U}(A:hg h)(s:cW h h' mB)(aO:h'.aH=h.aH):hg h':=⟨by rw[aO];exact A.1,λi hi=>by rw[s.cell];exact A.2 i hi⟩
theorem hg.dx{h h':U}{S:Nat->Prop}(A:hg h)(F:aN h h' S)(aO:mB<h.next)(aj:¬S mB):hg h':=A.same (F.same _ aO aj) F.aH
def jK(aG i:Nat)(cs:List Nat):List J:=cs.map λc=>J.ptr aG (i*308+c)
structure ahX (T:dU):Prop where
 s:mB≠T.bJ
 d:mB≠T.kd
 n:mB≠T.aG
structure w1 (h0 h:U) (T:dU) (n N:Nat) (now:Int) (us:Nat->Bool) (s:dF) (i hq fL:Nat) (bk:List Nat):Prop where
 A:bx h T n N s.wd s.b now us s.nd
 M:cR n N s.wd s.nd s.bl
 jC:hg h
 F:aN h0 h (λj=>j=T.bJ\/j=T.kd\/j=T.aG)
 cl:h.cell hq 0=some (.ptr T.a9 0)
 gl:h0.next<=hq
 n1:hq<h.next
 ry:∃x,h.cell fL 0=some x/\hX h nG 1 x bk.length (jK T.aG i bk)/\∀j,rowOf x=some j->h0.next<=j/\j≠hq/\j≠fL
 We:h.wr fL 1
 yJ:h0.next<=fL
 Ql:fL<h.next
 d:hq≠fL
structure nv (h0:U) (T:dU):Prop where
 t:T.a9<h0.next
 s:T.bJ<h0.next
 d:T.kd<h0.next
 n:T.aG<h0.next
 g:mB<h0.next
 aH:ahX T
section
variable{lf:Nat}{h0 h:U}{T:dU}{n N:Nat}{now:Int}{us:Nat->Bool}{s:dF}{i hq fL:Nat}{bk:List Nat}
theorem alD{C:ad}(nq:BM C)(O:nv h0 T)(hi:i<N)(X:w1 h0 h T n N now us s i hq fL bk){c j:Nat}(dB:12<=c)(ae:c<308)(aJ:low n s.wd=some j)(aK:bk.length<=1000):
 ∃h1 h2 h3 aU x bW,C (.fn 17) [.ptr T.bJ 0] h=some (.ret (.bo [I (j:Int),I 0]),h1)/\
  st 1 (.ptr T.aG (i*308+c)) (I ((j+1:Nat):Int)) h1=some h2/\
  h2.cell fL 0=some x/\
  iJ ax 143 1 [0] [.ptr T.aG (i*308+c)] h2=some (.aY h1.next 0 1 (some 1) 0,h2.new (dR nG [.ptr T.aG (i*308+c)]))/\
  gA ax .append #[143,143] [x,.aY h1.next 0 1 (some 1) 0] (h2.new (dR nG [.ptr T.aG (i*308+c)]))=some (bW,h3)/\
  st 1 (.ptr fL 0) bW h3=some aU/\w1 h0 aU T n N now us (s.take i c j) i hq fL (bk++[c])/\h.cell fL 0=some x/\aU.cell fL 0=some bW/\(∀j,rowOf bW=some j->rowOf x=some j\/h.next<=j)/\h.next<=aU.next/\
  (∀j,h0.next<=j->j<h.next->j≠fL->rowOf x≠some j->cW h aU j):=by
 obtain⟨cd,c1,n1⟩:=Qy aJ;have fv:=X.A.st.cF;obtain⟨h1,az,jh,aL⟩:=(nq h T.bJ T.kd n s.wd s.b X.A.st X.jC).2 j cd c1 n1;have aR:=X.F.next
 have azJ:cW h h1 T.a9:=aL.same _ X.A.lt (λe=>by rcases e with e|e;exact X.A.d1 e;exact X.A.d2 e);have azI:cW h h1 T.aG:=aL.same _ X.A.la (λe=>by rcases e with e|e;exact X.A.d4 e;exact X.A.d5 e);have b7:bx h1 T n N (qR s.wd j) (fW s.b j) now us s.nd:=X.A.store jh aL.next azJ azI
 have s2:=wG b7 (i:=i) (c:=c) (y:=I ((j+1:Nat):Int)) hi ae rfl rfl;have c9:=b7.setNode (i:=i) (c:=c) (y:=I ((j+1:Nat):Int)) hi ae (by omega);have bF:aN h1 (h1.set T.aG (i*308+c) [I ((j+1:Nat):Int)]) (· =T.aG):=fO rfl;have adI:(h1.set T.aG (i*308+c) [I ((j+1:Nat):Int)]).next=h1.next:=dW ..
 generalize iT:h1.set T.aG (i*308+c) [I ((j+1:Nat):Int)]=h2 at *
 have E8:∀j,h0.next<=j->j<h.next->cW h h2 j:=λj aa aJ=>by
  have dH:=O.s;have dn:=O.d;have mN:=O.n;have a:cW h h1 j:=aL.same j aJ (λe=>by omega);exact(bF.same j (Nat.lt_of_lt_of_le aJ aL.next) (λe=>by omega)).trans a
 have cI:=aL.next
 obtain⟨x,x1,x2,x3⟩:=X.ry;have ry:h2.cell fL 0=some x:=by rw[(E8 fL X.yJ X.Ql).cell];exact x1
 have eu:hX h2 nG 1 x bk.length (jK T.aG i bk):=x2.frame (by omega) λk ai=>E8 k (x3 k ai).1 (x2.kK ai)
 obtain⟨bW,h3,an,aD,a7,cw,dO,ek,hF,kv⟩:=xi (y:= .ptr T.aG (i*308+c)) rn rfl rfl rfl eu (by omega) (by omega);rw[adI] at an aD;have sb:∀j,j<h2.next->rowOf x≠some j->cW h2 h3 j:=ek
 have mJ:∀j,j=hq\/j=fL\/j<h0.next->rowOf x≠some j:=λj aa e=>by have:=x3 j e;omega
 have aDR:=X.Ql;have aDP:=X.n1;have gy:h3.wr fL 1:=hc (hc X.We (E8 fL X.yJ X.Ql)) (sb fL (by omega) (mJ _ (.inr (.inl rfl))));have iW:eA [bW]=true:=by rcases a7.2 with⟨rfl,_⟩|⟨_,rfl,_⟩<;>rfl
 have xU:bW.cells=[bW]:=by rcases a7.2 with⟨rfl,_⟩|⟨_,rfl,_⟩<;>rfl
 have KB:=jt (n:=1) (off:=0) (y:=bW) gy (by rw[xU];rfl) (by omega) (by rw[xU];exact iW);rw[xU] at KB;have gC:aN h3 (h3.set fL 0 [bW]) (· =fL):=fO rfl;generalize vK:h3.set fL 0 [bW]=aU at *;have lg:aU.next=h3.next:=by rw[<- vK,dW]
 have afU:∀j,j≠fL->cW h3 aU j:=λj aa=>by rw[<- vK];exact jb _ _ _ aa
 have VF:∀j,j<h2.next->rowOf x≠some j->j≠fL->cW h2 aU j:=λj h1 h2 h3=>(afU j h3).trans (sb j h1 h2)
 have hN:∀j,j<h0.next->cW h2 aU j:=λj aa=>VF j (by omega) (mJ j (.inr (.inr aa))) (by have:=X.yJ;omega)
 have ct:aU.cell fL 0=some bW:=by rw[<- vK,ir gy (by simp) (Nat.zero_le _) (by simp)];rfl
 refine⟨h1,h2,h3,aU,x,bW,az,s2,ry,an,aD,KB,⟨?_,X.M.take X.A.st.iI hi dB ae cd c1,?_,?_,?_,X.gl,by omega,⟨bW,ct,?_,λj aa=>?_⟩,?_,X.yJ,by omega,X.d⟩,x1,ct,λj aa=>(hF j aa).imp id λe=>by omega,by omega,λj h1 h2 h3 aU=>(VF j (by omega) aU h3).trans (E8 j h1 h2)⟩
 ·exact c9.frame (by omega) λj aa=>hN j (by rcases aa with rfl|rfl|rfl|rfl;exact O.t;exact O.s;exact O.d;exact O.n)
 ·have t1:=X.jC.dx aL (by have:=O.g;omega) (λe=>by rcases e with e|e;exact O.aH.s e;exact O.aH.d e);have t2:=t1.dx bF (by have:=O.g;omega) (λe=>O.aH.n e)
  exact t2.same (hN mB O.g) (by
   have:aU.aH=h2.aH:=gC.aH.trans dO
   exact this)
 ·refine⟨gC.aH.trans (dO.trans (bF.aH.trans (aL.aH.trans X.F.aH))),by omega,λj aa aO=>?_,λak=>gC.dx (kv (bF.dx (aL.dx (X.F.dx ak))))⟩;have bR:=X.F.same j aa aO;have b2:cW h h1 j:=aL.same j (by omega) (λe=>aO (by rcases e with e|e;exact .inl e;exact .inr (.inl e)));have gW:cW h1 h2 j:=bF.same j (by omega) (λe=>aO (.inr (.inr e)));exact(hN j aa).trans (gW.trans (b2.trans bR))
 ·rw[(VF hq (by omega) (mJ _ (.inl rfl)) X.d).cell,(E8 hq X.gl X.n1).cell];exact X.cl
 ·have:jK T.aG i (bk++[c])=jK T.aG i bk++[.ptr T.aG (i*308+c)]:=by simp[jK]
  rw[this,List.length_append];exact a7.frame (by omega) λk ai=>afU k (by rcases hF k ai with e|e;exact(x3 k e).2.2;omega)
 ·rcases hF j aa with e|e
  ·exact x3 j e
  ·have:=X.yJ;have:=X.gl;omega
 ·rw[<- vK];exact e1 gy
theorem ad9(aG i:Nat)(cs:List Nat){t:Nat}(aK:t<cs.length):(jK aG i cs)[t]?=some (.ptr aG (i*308+cs[t])):=by simp[jK,aK]
theorem ai3{bk:List Nat}{t:Nat}(aK:t<bk.length):en i (bk.take (t+1)) s=(en i (bk.take t) s).back i bk[t]:=by
 unfold en;rw[List.take_succ_eq_append_getElem aK,List.foldl_append];rfl
theorem XJ{C:ad}(Fr:BT C)(O:nv h0 T)(hi:i<N){x:J}{q:Nat}(aZ:bk=[]\/x= .aY q 0 bk.length none 0)(jn:bk.Nodup)(iU:∀c,c∈bk->12<=c/\c<308/\0<s.bl i c)(hlen:bk.length<=1000)(vS:q≠T.bJ/\q≠T.aG/\q≠hq)(hv:hq≠T.bJ/\hq≠T.aG)(aB:cq):
 ∀(d t:Nat),t+d=bk.length->∀f,d<f->∀h,bx h T n N (en i (bk.take t) s).wd (en i (bk.take t) s).b now us (en i (bk.take t) s).nd->cR n N (en i (bk.take t) s).wd (en i (bk.take t) s).nd (en i (bk.take t) s).bl->
 h.cell hq 0=some (.ptr T.a9 0)->hq<h.next->(∀j,j<bk.length->q<h.next/\h.cell q j=(jK T.aG i bk)[j]?)->
 ∃h',bp (AV C lf aB) f (some (.ptr hq 0),some x,some (I (bk.length:Int)),some (I (t:Int))) h=aB h'/\bx h' T n N (en i bk s).wd (en i bk s).b now us (en i bk s).nd/\cR n N (en i bk s).wd (en i bk s).nd (en i bk s).bl/\aN h h' (λj=>j=T.bJ\/j=T.aG)
 |0,t,hw,f,ak,h,A,M,cl,n1,ae=>by
  obtain⟨f,rfl⟩:=dE f (by omega)
  have:t=bk.length:=by omega
  subst this;rw[List.take_length] at A M;refine⟨h,?_,A,M,aN.refl _ _⟩;rw[dh];unfold AV EW;have a8:decide ((bk.length:Int)<(bk.length:Int))=false:=by simp
  simp only[aE,a8]
 |d+1,t,hw,f,ak,h,A,M,cl,n1,ae=>by
  obtain⟨f,rfl⟩:=dE f (by omega);have aK:t<bk.length:=by omega
  have ao:x= .aY q 0 bk.length none 0:=by
   rcases aZ with e|e
   ·rw[e] at aK;simp at aK
   ·exact e
  subst ao;have a8:decide ((t:Int)<(bk.length:Int))=true:=bw (by omega);have dy:IntKind.i64.wrap ((t:Int)+1)=((t+1:Nat):Int):=cH (by omega);have b3:=gL (s:=1) (k:=q) (off:=0) (len:=bk.length) (lo:=0) (cap:=none) (kd:= .i64) (i:=(t:Int)) (by omega) (by omega);rw[Int.toNat_natCast,Nat.mul_one,Nat.zero_add] at b3;have eB:=(ae t aK).2;rw[ad9 _ _ _ aK] at eB;have uo:bk[t]∈bk:=List.getElem_mem aK;obtain⟨bR,b2,gW⟩:=iU _ uo;generalize h6:bk[t]=c at *
  have rL:c ∉ bk.take t:=λe=>by
   obtain⟨k,ai,aw⟩:=List.getElem_of_mem e;rw[List.length_take] at ai;rw[List.getElem_take] at aw;exact absurd (aw.trans h6.symm) (List.pairwise_iff_getElem.1 jn k t (by omega) aK (by omega))
  have Db:(en i (bk.take t) s).bl i c=s.bl i c:=by
   have:∀(l:List Nat) (s:dF),c ∉ l->(en i l s).bl i c=s.bl i c:=by
    intro l
    induction l with
    |nil=>intro s _;rfl
    |cons a l ba=>
     intro s h;show(en i l (s.back i a)).bl i c=_;rw[ba _ (λe=>h (by simp[e]))];exact nn _ _ (.inr λe=>h (by simp[e]))
   exact this _ s rL
  have step:=ai3 (i:=i) (s:=s) aK;rw[h6] at step;generalize ki:en i (bk.take t) s=s1 at *;have hle:=M.le i c;have eW:=M.on i c hi bR b2 (by omega);have vI:=A.ec i c hi b2;rw[M.cell i c hi bR b2] at vI;have fv:=A.st.cF;have aj:IntKind.i64.wrap ((s1.bl i c:Int)-1)=((s1.bl i c-1:Nat):Int):=cH (by omega)
  have anf:gv n s1.wd ((s1.bl i c-1:Nat):Int)=true:=by
   simp only[gv,Int.toNat_natCast,eW,Bool.and_true,Bool.and_eq_true,decide_eq_true_eq];omega
  obtain⟨h1,az,jh,aL⟩:=(Fr h T.bJ T.kd n s1.wd s1.b ((s1.bl i c-1:Nat):Int) A.st (by omega) (by omega)).2 anf;rw[Int.toNat_natCast] at jh;have b7:=A.store jh aL.next (aL.same _ A.lt (λe=>A.d1 e)) (aL.same _ A.la (λe=>A.d4 e))
  have dk:=wG b7 (i:=i) (c:=c) (y:=I 0) hi b2 rfl rfl;have c9:=b7.setNode (i:=i) (c:=c) (y:=I 0) hi b2 (by omega);have M2:=M.drop A.st.iI hi bR b2 (by omega);have bF:aN h1 (h1.set T.aG (i*308+c) [I 0]) (· =T.aG):=fO rfl;have nu:aN h (h1.set T.aG (i*308+c) [I 0]) (λj=>j=T.bJ\/j=T.aG):=(aL.eb λ_ e=> .inl e).trans (bF.eb λ_ e=> .inr e);generalize iT:h1.set T.aG (i*308+c) [I 0]=h2 at *;have ahu:bx h2 T n N (en i (bk.take (t+1)) s).wd (en i (bk.take (t+1)) s).b now us (en i (bk.take (t+1)) s).nd:=by rw[step];exact c9
  have ahV:cR n N (en i (bk.take (t+1)) s).wd (en i (bk.take (t+1)) s).nd (en i (bk.take (t+1)) s).bl:=by rw[step];exact M2
  obtain⟨h',c5,dM,fP,lj⟩:=XJ Fr O hi (.inr rfl) jn iU hlen vS hv aB d (t+1) (by omega) f (by omega) h2 ahu ahV
   (by rw[(nu.same hq n1 (λe=>by rcases e with e|e;exact hv.1 e;exact hv.2 e)).cell];exact cl) (Nat.lt_of_lt_of_le n1 nu.next)
   (λj aa=>⟨Nat.lt_of_lt_of_le (ae j aa).1 nu.next,by rw[(nu.same q (ae j aa).1 (λe=>by rcases e with e|e;exact vS.1 e;exact vS.2.1 e)).cell];exact(ae j aa).2⟩)
  refine⟨h',?_,dM,fP,nu.trans lj⟩;rw[dh];show EW C lf (λx1 bV e2 aM h=>bp (AV C lf aB) f (x1,bV,e2,aM) h) aB (some (.ptr hq 0)) (some (.aY q 0 bk.length none 0)) (some (I (bk.length:Int))) (some (I (t:Int))) h=_;unfold EW;simp only[aE,a8,b3,eB,cl,A.c0,vI,aj,az,dk,dy];exact c5
def Lt(C:ad):Prop:=∀h0 h T n N now us s i hq fL bk,nv h0 T->i<N->w1 h0 h T n N now us s i hq fL bk->bk.Nodup->(∀c,c∈bk->12<=c/\c<308/\0<s.bl i c)->bk.length<=1000->
 ∃h',C (.fn 90) [.ptr fL 0,.ptr hq 0] h=some (.ret (.bo []),h')/\bx h' T n N (en i bk s).wd (en i bk s).b now us (en i bk s).nd/\cR n N (en i bk s).wd (en i bk s).nd (en i bk s).bl/\aN h h' (λj=>j=T.bJ\/j=T.aG)
theorem ai4{C:ad}(gf:1001<=lf)(Fr:BT C)(O:nv h0 T)(hi:i<N)(X:w1 h0 h T n N now us s i hq fL bk)(jn:bk.Nodup)(iU:∀c,c∈bk->12<=c/\c<308/\0<s.bl i c)(hlen:bk.length<=1000):
 ∃h',HN C lf (.ptr fL 0) (.ptr hq 0) h=some (.ret (.bo []),h')/\bx h' T n N (en i bk s).wd (en i bk s).b now us (en i bk s).nd/\cR n N (en i bk s).wd (en i bk s).nd (en i bk s).bl/\aN h h' (λj=>j=T.bJ\/j=T.aG):=by
 obtain⟨x,x1,x2,x3⟩:=X.ry;have dH:=O.s;have dn:=O.n;have gl:=X.gl
 have Dq:eN ax 143 x=some (I (bk.length:Int)):=by
  rcases x2.2 with⟨rfl,h1⟩|⟨k,rfl,_⟩
  ·rw[h1];simp[eN,Tryd.underlying143,fC]
  ·simp[eN,Tryd.underlying143]
 obtain⟨q,aZ,vS,anM⟩:∃q,(bk=[]\/x= .aY q 0 bk.length none 0)/\(q≠T.bJ/\q≠T.aG/\q≠hq)/\∀j,j<bk.length->q<h.next/\h.cell q j=(jK T.aG i bk)[j]?:=by
  rcases x2.2 with⟨_,h1⟩|⟨k,rfl,ai⟩
  ·exact⟨fL,.inl (List.length_eq_zero_iff.1 h1),⟨by have:=X.yJ;omega,by have:=X.yJ;omega,λe=>X.d e.symm⟩,λj aa=>by omega⟩
  ·have:=x3 k rfl
   exact⟨k,.inr rfl,⟨by omega,by omega,this.2.1⟩,λj aa=>⟨ai.lt,ai.cs j (by omega)⟩⟩
 obtain⟨h',c5,dM,fP,lj⟩:=XJ (lf:=lf) (s:=s) Fr O hi aZ jn iU hlen vS ⟨by omega,by omega⟩ N9 bk.length 0 (by omega) lf (by omega) h X.A X.M X.cl X.n1 anM;refine⟨h',?_,dM,fP,lj⟩;unfold HN U3 U2;simp only[aE,x1,Dq];exact c5
theorem Ok{C:ad}(nq:BM C)(O:nv h0 T)(hi:i<N){kx:Nat}{cs0:List Nat}(ey:∀c,c∈cs0->12<=c/\c<308)(um:cs0.length<=500)(Ih:h0.next<=kx/\kx≠fL)(Ck:J)(r:aC)(az:cq):
 ∀(cs:List Nat) (t:Nat),cs0.drop t=cs->t<=cs0.length->∀f,cs.length<f->∀h s bk,w1 h0 h T n N now us s i hq fL bk->bk.length<=t->kx<h.next->(∀j,j<cs0.length->h.cell kx j=(jK T.aG i cs0)[j]?)->(∀j,rowOf (((h.cell fL 0).getD (.bool true)))=some j->j≠kx)->
 ∃h',w1 h0 h' T n N now us (df n i cs s bk).1 i hq fL (df n i cs s bk).2.1/\
  bp (yw C lf r az) f (some (.ptr hq 0),some (.ptr fL 0),some Ck,some (.aY kx 0 cs0.length none 0),some (I (cs0.length:Int)),some (I (t:Int))) h=
   (if(df n i cs s bk).2.2=true then az h' else fb false C Ck [] h' λ_ HU=>r (some (.bool false)) HU)
 | [],t,aF,aK,f,ak,h,s,bk,X,hle,Qr,ae,_=>by
   obtain⟨f,rfl⟩:=dE f (by omega)
   have:t=cs0.length:=by
    have:=congrArg List.length aF
    rw[List.length_drop] at this;simp at this;omega
   subst this;refine⟨h,X,?_⟩;show _=az h;rw[dh];unfold yw EM;have a8:decide ((cs0.length:Int)<(cs0.length:Int))=false:=by simp
   simp only[aE,a8]
 |c::cs,t,aF,aK,f,ak,h,s,bk,X,hle,Qr,ae,Ip=>by
  obtain⟨f,rfl⟩:∃g,f=g+1:=⟨f-1,by simp at ak;omega⟩
  have Is:t<cs0.length:=by
   have:=congrArg List.length aF
   rw[List.length_drop] at this;simp at this;omega
  have Dg:cs0[t]=c:=by
   have:=congrArg (·[0]?) aF
   simp[List.getElem?_drop,Is] at this;exact this
  have oD:cs0.drop (t+1)=cs:=by
   rw[<- List.tail_drop,aF];rfl
  obtain⟨bR,b2⟩:=ey c (by rw[<- Dg];exact List.getElem_mem Is);have a8:decide ((t:Int)<(cs0.length:Int))=true:=bw (by omega);have dy:IntKind.i64.wrap ((t:Int)+1)=((t+1:Nat):Int):=cH (by omega);have b3:=gL (s:=1) (k:=kx) (off:=0) (len:=cs0.length) (lo:=0) (cap:=none) (kd:= .i64) (i:=(t:Int)) (by omega) (by omega);rw[Int.toNat_natCast,Nat.mul_one,Nat.zero_add] at b3;have eB:=ae t Is;rw[ad9 _ _ _ Is,Dg] at eB;have vI:=X.A.ec i c hi b2;rw[X.M.cell i c hi bR b2] at vI;rw[dh];show ∃h',_/\EM C lf (λx3 aT x9 uV uW tH h=>bp (yw C lf r az) f (x3,aT,x9,uV,uW,tH) h) r az (some (.ptr hq 0)) (some (.ptr fL 0)) (some Ck) (some (.aY kx 0 cs0.length none 0)) (some (I (cs0.length:Int))) (some (I (t:Int))) h=_;unfold EM;by_cases aA:0<s.bl i c
  ·have s3:decide ((0:Int)<(s.bl i c:Int))=true:=bw (by omega)
   have qq:df n i (c::cs) s bk=df n i cs s bk:=by
    rw[df,if_pos aA]
   rw[qq];obtain⟨h',c5,dM⟩:=Ok nq O hi ey um Ih Ck r az cs (t+1) oD (by omega) f (by simp at ak;omega) h s bk X (by omega) Qr ae Ip;refine⟨h',c5,?_⟩;simp only[aE,a8,b3,eB,vI,s3,dy];exact dM
  ·have a1:s.bl i c=0:=by omega
   have s3:decide ((0:Int)<(s.bl i c:Int))=false:=bq (by omega);cases aJ:low n s.wd with
   |none=>
    have qq:df n i (c::cs) s bk=(s,bk,false):=by rw[df,if_neg aA,aJ]
    rw[qq];have az:=(nq h T.bJ T.kd n s.wd s.b X.A.st X.jC).1 (adl aJ);have bY:decide ((28:Int)≠0)=true:=rfl;refine⟨h,X,?_⟩;simp only[aE,a8,b3,eB,vI,s3,X.cl,X.A.c0,az,List.getElem?_cons_zero,List.getElem?_cons_succ,bY];rfl
   |some j=>
    have qq:df n i (c::cs) s bk=df n i cs (s.take i c j) (bk++[c]):=by rw[df,if_neg aA,aJ]
    rw[qq];have abR:=(Qy aJ).1;have fv:=X.A.st.cF;obtain⟨h1,h2,h3,aU,x,bW,M3,s2,ry,an,aD,KB,aif,y1,tI,Wq,zi,La⟩:=alD nq O hi X bR b2 aJ (by omega);have bY:decide ((0:Int)≠0)=false:=rfl;have jl:IntKind.i64.wrap ((j:Int)+1)=((j+1:Nat):Int):=cH (by omega)
    obtain⟨k1,k2,gN⟩:kx<aU.next/\(∀j,j<cs0.length->aU.cell kx j=(jK T.aG i cs0)[j]?)/\(∀j,rowOf (((aU.cell fL 0).getD (.bool true)))=some j->j≠kx):=by
     rw[y1] at Ip;have bY:rowOf x≠some kx:=λe=>Ip kx e rfl
     have Ky:=La kx Ih.1 Qr Ih.2 bY;refine⟨by omega,λj aa=>by rw[Ky.cell];exact ae j aa,λj aa=>?_⟩;rw[tI] at aa;rcases Wq j aa with e|e
     ·exact Ip j e
     ·omega
    obtain⟨h',c5,dM⟩:=Ok nq O hi ey um Ih Ck r az cs (t+1) oD (by omega) f (by simp at ak;omega) aU (s.take i c j) (bk++[c]) aif (by simp;omega) k1 k2 gN;refine⟨h',c5,?_⟩;simp only[aE,a8,b3,eB,vI,s3,X.cl,X.A.c0,M3,List.getElem?_cons_zero,List.getElem?_cons_succ,bY,jl,s2,ry,an,aD,KB,dy];exact dM
end
def dr(k:Nat):List Nat:=if k<6 then[a4 k] else if k<22 then[18,a4 k] else[35,36+17*((k-22)/16),a4 k]
def lZ(k:Nat):List Nat:=if k<6 then[] else if k<22 then[18] else[35,36+17*((k-22)/16)]
theorem adx(k:Nat):dr k=lZ k++[a4 k]:=by
 unfold dr lZ;split
 ·rfl
 ·split<;>rfl
theorem yR{k:Nat}(h:k<278):12<=a4 k/\a4 k<308:=by
 unfold a4;split
 ·omega
 ·split
  ·omega
  ·have:=Nat.div_add_mod (k-22) 16
   have:=Nat.mod_lt (k-22) (show 16>0 by omega)
   omega
theorem A2{k:Nat}(h:k<278):∀c,c∈dr k->12<=c/\c<308:=by
 intro c ae
 have:=yR h
 unfold dr at ae;split at ae
 ·simp only[List.mem_cons,List.not_mem_nil,or_false] at ae;subst ae;exact this
 ·split at ae
  ·simp only[List.mem_cons,List.not_mem_nil,or_false] at ae;rcases ae with rfl|rfl
   ·omega
   ·exact this
  ·simp only[List.mem_cons,List.not_mem_nil,or_false] at ae;rcases ae with rfl|rfl|rfl
   ·omega
   ·omega
   ·exact this
theorem apu(k:Nat):(dr k).length<=3:=by unfold dr;split<;>(try split)<;>simp
def bI(n i k:Nat)(s:dF):dF×Bool:=if 0<s.bl i (a4 k) then(s,true) else
 if(df n i (dr k) s []).2.2=true then((df n i (dr k) s []).1,true) else(⟨s.wd,(df n i (dr k) s []).1.b,s.nd,s.bl⟩,false)
theorem aCQ{P:Program}{h:U}{t e:TypeId}{z:Value}{y0 y1:J}(hu:P.underlying t=some (.slice e))(aj:dN P e=some 1)(a1:hE P e=some z)(iB:(c2 z).cells.length=1)(h0:y0.cells=[y0])(f0:y0.flat=true)(h1:y1.cells=[y1])(f1:y1.flat=true):
 iJ P t 2 [0,1] [y0,y1] h=some (.aY h.next 0 2 (some 2) 0,h.new (dR e [y0,y1])):=by
 obtain⟨c,ae⟩:∃c,(c2 z).cells=[c]:=by
  match hm:(c2 z).cells,iB with
  | [c],_=>exact⟨c,rfl⟩
 unfold iJ oU;have ei:(Nat.ble (2*1) 65536&&Nat.ble 1 1&&Nat.beq [c].length 1)=true:=rfl
 have fJ:pv (λi=>some (i*1,1)) (r9 [c] 2) ([0,1].zip [y0,y1])=some [y0,y1]:=by
  simp[r9,pv,Fg,h0,f0,h1,f1,show Nat.ble 1 1=true from rfl,show Nat.ble 1 2=true from rfl,show Nat.ble 2 2=true from rfl]
 simp only[hu,aj,a1,ae,ei,cond_true,fJ,newRow,force_eq];rfl
section
variable{lf:Nat}{h:U}{T:dU}{n N:Nat}{now:Int}{us:Nat->Bool}{s:dF}{i:Nat}
theorem aBO{x7:J}{aG:Nat}{lp:List Nat}(c:Nat)(hw:(x7= .val (.slice none 0 0)/\lp=[])\/∃kw m,x7= .aY kw 0 lp.length (some lp.length) 0/\h.mt kw=some m/\kw<h.next/\(∀j,j<lp.length->h.cell kw j=(jK aG i lp)[j]?))(aJ:lp.length<=2):
 ∃h',iJ ax 143 1 [0] [.ptr aG (i*308+c)] h=some (.aY h.next 0 1 (some 1) 0,h.new (dR nG [.ptr aG (i*308+c)]))/\
  gA ax .append #[143,143] [x7,.aY h.next 0 1 (some 1) 0] (h.new (dR nG [.ptr aG (i*308+c)]))=some (.aY (h.next+1) 0 (lp++[c]).length none 0,h')/\h'.next=h.next+2/\
  (∀j,j<(lp++[c]).length->h'.cell (h.next+1) j=(jK aG i (lp++[c]))[j]?)/\aN h h' (λ_=>False):=by
 obtain⟨z,a1,iB⟩:=rn.a1;have ag:=Li (h:=h) (y:= .ptr aG (i*308+c)) rn.hu rn.aj a1 iB rfl rfl;have nb:=YP (h:=h) (y:= .ptr aG (i*308+c)) (e:=nG);generalize aq:dR nG [.ptr aG (i*308+c)]=o at *;have aL:=ot h o (λ_=>False);have cI:(h.new o).next=h.next+1:=iG ..
 have az:jK aG i (lp++[c])=jK aG i lp++[.ptr aG (i*308+c)]:=by simp[jK]
 have iA:(jK aG i lp).length=lp.length:=by simp[jK]
 have fin:∀cells:List J,cells=jK aG i (lp++[c])->∃h',(some (J.aY (h.new o).next 0 (lp.length+1) none 0,(h.new o).new (yF nG 1 cells)):Option (J×U))=some (.aY (h.next+1) 0 (lp++[c]).length none 0,h')/\h'.next=h.next+2/\
  (∀j,j<(lp++[c]).length->h'.cell (h.next+1) j=(jK aG i (lp++[c]))[j]?)/\aN h h' (λ_=>False):=λcells ae=>by
  refine⟨(h.new o).new (yF nG 1 cells),by rw[cI];simp,by rw[iG,cI],λj _=>?_,aL.trans (ot _ _ _)⟩;rw[<- cI,lK,adh,ae]
 rcases hw with⟨rfl,rfl⟩|⟨kw,m,rfl,hm,ai,ae⟩
 ·have:=aiP (P:=ax) (h:=h.new o) (y:= .aY h.next 0 1 (some 1) 0) rn nb rfl rfl (Nat.le_refl 1) (by omega) (by omega)
  obtain⟨h',ei,fJ⟩:=fin [.ptr aG (i*308+c)] (by simp[jK]);exact⟨h',ag,by rw[this];exact ei,fJ⟩
 ·have aj:cW h (h.new o) kw:=n3 h o (by omega)
  have ey:(h.new o).cells kw 0 (lp.length*1)=some (jK aG i lp):=qd (by rw[iA,Nat.mul_one]) λj aa=>by
   rw[Nat.zero_add,aj.cell];exact ae j (by omega)
  have:=aiO (P:=ax) (h:=h.new o) (y:= .aY h.next 0 1 (some 1) 0) (lo:=0) rn ⟨m,by rw[aj.mt];exact hm⟩ ey nb rfl rfl (Nat.le_refl 1) (by omega) (by omega)
  obtain⟨h',ei,fJ⟩:=fin _ az.symm;exact⟨h',ag,by rw[this];exact ei,fJ⟩
def FN(C:ad):Prop:=∀h T n N now us s i (k:Nat),bx h T n N s.wd s.b now us s.nd->cR n N s.wd s.nd s.bl->hg h->nv h T->i<N->k<278->
 ∃h',C (.fn 75) [.ptr T.a9 0,.ptr T.aG (i*308),I (k:Int)] h=some (.ret (.bool (bI n i k s).2),h')/\bx h' T n N (bI n i k s).1.wd (bI n i k s).1.b now us (bI n i k s).1.nd/\
  cR n N (bI n i k s).1.wd (bI n i k s).1.nd (bI n i k s).1.bl/\hg h'/\aN h h' (λj=>j=T.bJ\/j=T.kd\/j=T.aG)
theorem alx{C:ad}(gf:1001<=lf)(nw:su C)(nq:BM C)(ahC:Lt C)(A:bx h T n N s.wd s.b now us s.nd)(M:cR n N s.wd s.nd s.bl)(jC:hg h)(O:nv h T)(hi:i<N){k:Nat}(ai:k<278):
 ∃h',CP C lf (.ptr T.a9 0) (.ptr T.aG (i*308)) (I (k:Int)) h=some (.ret (.bool (bI n i k s).2),h')/\bx h' T n N (bI n i k s).1.wd (bI n i k s).1.b now us (bI n i k s).1.nd/\
  cR n N (bI n i k s).1.wd (bI n i k s).1.nd (bI n i k s).1.bl/\hg h'/\aN h h' (λj=>j=T.bJ\/j=T.kd\/j=T.aG):=by
 obtain⟨bQ,cn⟩:=yR ai;have gH:=wS (e:=64) (x:= .ptr T.a9 0) (h:=h) rfl;have h6:(J.ptr T.a9 0).cells=[.ptr T.a9 0]:=rfl;rw[h6] at gH;generalize iV:dR 64 [.ptr T.a9 0]=dH at *;generalize nO:h.new dH=h1 at *;have cI:h1.next=h.next+1:=by rw[<- nO,iG]
 have aL:aN h h1 (λ_=>False):=by rw[<- nO];exact ot _ _ _
 have b7:=A.iP aL λ_ e=>e.elim
 have xc:hg h1:=jC.dx aL O.g (λe=>e);have akB:h1.cell h.next 0=some (.ptr T.a9 0):=by rw[<- nO,lK, <- iV,oR];rfl
 have iA:∀h,C (.fn 76) [.ptr T.aG (i*308),I (k:Int)] h=some (.ret (.ptr T.aG (i*308+a4 k)),h):=λh=>nw h T.aG (i*308) k ai
 have eB:=b7.ec i (a4 k) hi cn;rw[M.cell i _ hi bQ cn] at eB
 have vJ:CP C lf (.ptr T.a9 0) (.ptr T.aG (i*308)) (I (k:Int)) h=wy C lf (λx1 x2 x3 x7 h=>yW C lf nJ x1 x2 x3 x7 h) nJ (some (.ptr T.aG (i*308))) (some (I (k:Int))) (some (.ptr h.next 0)) (some (.val (.slice none 0 0))) h1:=by
  unfold CP T6 T5;simp only[cg,cf,sC,gH];rfl
 rw[vJ];by_cases aA:0<s.bl i (a4 k)
 ·have aI:bI n i k s=(s,true):=by unfold bI;rw[if_pos aA]
  rw[aI];have aF:decide ((0:Int)<(s.bl i (a4 k):Int))=true:=bw (by omega);refine⟨h1,?_,b7,M,xc,aL.eb λ_ e=>e.elim⟩;unfold wy nJ;simp only[aE,iA,eB,aF]
 have Pa:decide ((0:Int)<(s.bl i (a4 k):Int))=false:=bq (by omega);obtain⟨z,a1,iB⟩:=rn.a1
 have want:∃x7 h2,wy C lf (λx1 x2 x3 x7 h=>yW C lf nJ x1 x2 x3 x7 h) nJ (some (.ptr T.aG (i*308))) (some (I (k:Int))) (some (.ptr h.next 0)) (some (.val (.slice none 0 0))) h1=
  yW C lf nJ (some (.ptr T.aG (i*308))) (some (I (k:Int))) (some (.ptr h.next 0)) (some x7) h2/\aN h1 h2 (λ_=>False)/\
  ((x7= .val (.slice none 0 0)/\lZ k=[])\/∃kw m,x7= .aY kw 0 (lZ k).length (some (lZ k).length) 0/\h2.mt kw=some m/\kw<h2.next/\(∀j,j<(lZ k).length->h2.cell kw j=(jK T.aG i (lZ k))[j]?)):=by
  by_cases P5:k<6
  ·have d1:decide ((22:Int)<=(k:Int))=false:=bq (by omega);have d2:decide ((6:Int)<=(k:Int))=false:=bq (by omega);refine⟨_,h1,?_,aN.refl _ _,.inl ⟨rfl,by unfold lZ;rw[if_pos P5]⟩⟩;unfold wy;simp only[aE,iA,eB,Pa,d1,d2]
  ·by_cases acE:k<22
   ·have d1:decide ((22:Int)<=(k:Int))=false:=bq (by omega);have d2:decide ((6:Int)<=(k:Int))=true:=bw (by omega);have hw:lZ k=[18]:=by unfold lZ;rw[if_neg P5,if_pos acE]
    have ag:=Li (h:=h1) (y:= .ptr T.aG (i*308+18)) rn.hu rn.aj a1 iB rfl rfl;refine⟨.aY h1.next 0 1 (some 1) 0,h1.new (dR nG [.ptr T.aG (i*308+18)]),?_,ot _ _ _,.inr ⟨h1.next,(dR nG [.ptr T.aG (i*308+18)]).mt,by rw[hw];rfl,by rw[yI,if_pos rfl],by rw[iG];omega,λj aa=>?_⟩⟩
    ·unfold wy;simp only[aE,iA,eB,Pa,d1,d2,Nat.add_zero,ag]
    ·rw[lK,oR,hw];rfl
   ·have d1:decide ((22:Int)<=(k:Int))=true:=bw (by omega);have hw:lZ k=[35,36+17*((k-22)/16)]:=by unfold lZ;rw[if_neg P5,if_neg acE]
    have aj:IntKind.i64.wrap ((k:Int)-22)=((k-22:Nat):Int):=cH (by omega)
    have aZ:IntKind.i64.wrap (((k-22:Nat):Int).tdiv 16)=(((k-22)/16:Nat):Int):=by
     rw[Int.tdiv_eq_ediv_of_nonneg (by omega),wrap_i64 (by omega) (by omega)];rfl
    have b3:=lT (n:=16) (s:=17) (k:=T.aG) (off:=i*308+36) (kd:= .i64) (i:=(((k-22)/16:Nat):Int)) (by omega) (by omega);rw[Int.toNat_natCast] at b3;have M4:i*308+36+(k-22)/16*17=i*308+(36+17*((k-22)/16)):=by omega
    rw[M4] at b3;have ag:=aCQ (h:=h1) (y0:= .ptr T.aG (i*308+35)) (y1:= .ptr T.aG (i*308+(36+17*((k-22)/16)))) rn.hu rn.aj a1 iB rfl rfl rfl rfl;refine⟨.aY h1.next 0 2 (some 2) 0,h1.new (dR nG [.ptr T.aG (i*308+35),.ptr T.aG (i*308+(36+17*((k-22)/16)))]),?_,ot _ _ _,.inr ⟨h1.next,(dR nG [.ptr T.aG (i*308+35),.ptr T.aG (i*308+(36+17*((k-22)/16)))]).mt,by rw[hw];rfl,by rw[yI,if_pos rfl],by rw[iG];omega,λj aa=>?_⟩⟩
    ·unfold wy;simp only[aE,iA,eB,Pa,d1,aj,lJ (show(16:Int)≠0 by omega),aZ,b3,Nat.add_zero,ag]
    ·rw[lK,oR,hw];rfl
 obtain⟨x7,h2,ei,bF,hw⟩:=want;rw[ei];have an6:(lZ k).length<=2:=by unfold lZ;split<;>(try split)<;>simp
 have aoe:hE ax 143=some (.slice none 0 0):=by kernel_rfl
 have sB:=zj (P:=ax) (e:=143) (h:=h2) aoe;have qA:(c2 (.slice none 0 0)).cells=[.val (.slice none 0 0)]:=rfl;rw[qA] at sB;generalize yi:dR 143 [.val (.slice none 0 0)]=mN at *;generalize lP:h2.new mN=h3 at *;have gl:h3.next=h2.next+1:=by rw[<- lP,iG]
 have dp:aN h2 h3 (λ_=>False):=by rw[<- lP];exact ot _ _ _
 have We:h3.wr h2.next 1:=by
  have:=mT (h:=h2) (o:=mN) (by rw[<- yi];rfl)
  rw[show mN.n=1 by rw[<- yi];rfl,lP] at this;exact this
 have ry:h3.cell h2.next 0=some (.val (.slice none 0 0)):=by rw[<- lP,lK, <- yi,oR];rfl
 have an3:(x7= .val (.slice none 0 0)/\lZ k=[])\/∃kw m,x7= .aY kw 0 (lZ k).length (some (lZ k).length) 0/\h3.mt kw=some m/\kw<h3.next/\(∀j,j<(lZ k).length->h3.cell kw j=(jK T.aG i (lZ k))[j]?):=by
  rcases hw with e|⟨kw,m,az,aw,ch,ef⟩
  ·exact .inl e
  ·have Ky:=dp.same kw ch (λe=>e);exact .inr ⟨kw,m,az,by rw[Ky.mt];exact aw,by omega,λj aa=>by rw[Ky.cell];exact ef j aa⟩
 obtain⟨aU,bR,b2,lg,ky,gC⟩:=aBO (a4 k) an3 an6;rw[<- adx] at b2 ky;have WN:aN h1 aU (λ_=>False):=(bF.trans dp).trans gC;have LC:aN h aU (λ_=>False):=aL.trans WN;have adI:=bF.next
 have jI:∀j,j<h3.next->cW h3 aU j:=λj aa=>gC.same j aa (λe=>e)
 have X:w1 h aU T n N now us s i h.next h2.next []:=
  ⟨A.iP LC λ_ e=>e.elim,M,jC.dx LC O.g (λe=>e),LC.eb λ_ e=>e.elim,by rw[(WN.same h.next (by omega) (λe=>e)).cell];exact akB,by omega,by omega,
    ⟨.val (.slice none 0 0),by rw[(jI h2.next (by omega)).cell];exact ry,hX.nil _ _ _,λj aa=>by cases aa⟩,hc We (jI _ (by omega)),by omega,by omega,by omega⟩
 have gg:=apu k
 obtain⟨bA,vj,DY⟩:=Ok (lf:=lf) (h0:=h) nq O hi (kx:=h3.next+1) (cs0:=dr k) (A2 ai) (by omega) ⟨by omega,by omega⟩ (.fn (.func 90) [] [.ptr h2.next 0,.ptr h.next 0]) nJ (λh=>EL C lf nJ h)
  (dr k) 0 rfl (by omega) lf (by omega) aU s [] X (by simp) (by omega) ky (λj aa=>by rw[(jI h2.next (by omega)).cell,ry] at aa;cases aa)
 have Dq:eN ax 143 (.aY (h3.next+1) 0 (dr k).length none 0)=some (I ((dr k).length:Int)):=by
  simp[eN,Tryd.underlying143]
 have pre:yW C lf nJ (some (.ptr T.aG (i*308))) (some (I (k:Int))) (some (.ptr h.next 0)) (some x7) h2=
  bp (yw C lf nJ (λh=>EL C lf nJ h)) lf (some (.ptr h.next 0),some (.ptr h2.next 0),some (.fn (.func 90) [] [.ptr h2.next 0,.ptr h.next 0]),some (.aY (h3.next+1) 0 (dr k).length none 0),some (I ((dr k).length:Int)),some (I ((0:Nat):Int))) aU:=by
  unfold yW T4;simp only[cg,cf,sC,sB];unfold T3 T2;simp only[cg,cf];unfold T1 T0 TZ;simp only[cg,cf,kV,sC,iA,bR,b2,Dq];rfl
 rw[pre,DY];have agO:oe n i s (df n i (dr k) s []).2.1 (df n i (dr k) s []).1:=xE (dr k) s [] .nil (A2 ai);by_cases ag:(df n i (dr k) s []).2.2=true
 ·have aI:bI n i k s=((df n i (dr k) s []).1,true):=by unfold bI;rw[if_neg aA,if_pos ag]
  rw[if_pos ag,aI];refine⟨bA,?_,vj.A,vj.M,vj.jC,vj.F⟩;unfold EL nJ;simp only[cg,cf]
 ·have aI:bI n i k s=(⟨s.wd,(df n i (dr k) s []).1.b,s.nd,s.bl⟩,false):=by unfold bI;rw[if_neg aA,if_neg ag]
  rw[if_neg ag,aI];have P:=agO.props hi M A.st.iI;have am3:=Of (n:=n) (i:=i) (dr k) s [] (by simpa using ag);have a8:(df n i (dr k) s []).2.1.length<=1000:=by have:=am3.2;simp at this;omega
  obtain⟨bC,l4,WA,W2,BS⟩:=ahC h bA T n N now us _ i _ _ _ O hi vj P.eQ (λc ae=>⟨(P.oZ c ae).2.1,(P.oZ c ae).2.2.1,(P.oZ c ae).2.2.2.1⟩) a8;obtain⟨ic,sd,V8,_⟩:=agO.aBy hi M A.st.iI;have V9:(en i (df n i (dr k) s []).2.1 (df n i (dr k) s []).1).b=(df n i (dr k) s []).1.b:=(MA (i:=i) _ _ P.eQ P.iI λc h=>(P.oZ c h).2.2.2.1).2.1;rw[ic,sd,V9] at WA;rw[ic,sd,V8] at W2;refine⟨bC,?_,WA,W2,vj.jC.dx BS (Nat.lt_of_lt_of_le O.g vj.F.next) (λe=>by rcases e with e|e;exact O.aH.s e;exact O.aH.n e),vj.F.trans (BS.eb λ_ e=>by rcases e with e|e;exact .inl e;exact .inr (.inr e))⟩;show eo (C (.fn 90) ([]++[]++[.ptr h2.next 0,.ptr h.next 0]) bA) _=_;simp only[List.nil_append,l4,kV];unfold nJ;simp only[cg,cf]
end
end Go.Proofs.YtomialandfplkaaDoor.Eva
