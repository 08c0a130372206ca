import Derived.Test.YtomialandfplkaaDoorCards
import Derived.SizedLaws
import Derived.Test.YtomialandfplkaaDoorWInodeRunsm2
import Derived.Test.YtomialandfplkaaDoorWInodeRunsm3
set_option linter.unusedSimpArgs false
set_option linter.unusedVariables false
set_option maxRecDepth 100000
set_option maxHeartbeats 400000
namespace Go.Proofs.YtomialandfplkaaDoor.Eva
open Go.Xe
noncomputable section
variable{C:ad}{lf:Nat}{bb a5 eB fl jM kK qJ qK qL qM qN qO qG qH qI:hc}{ao:kU}
noncomputable def aax:ca aw:=⟨39,Tryd.f39,λr=>bif Nat.beq r 3 then .ord [0,1,2,5,6,7,10,11,12,15,16,17,20,3,8,13,14,18,19,4,9,21,22,23,24,25,26,27] [(21,[18,13]),(9,[18,13]),(4,[18,13,8])] else .text,Tryd.func39,by kernel_rfl,by kernel_rfl,by kernel_rfl,by kernel_rfl⟩
noncomputable def Ob(x2 x3 bC eC:O)(h:U):ab:=
 ob x2 λa=>ob x3 λb=>ob bC λc=>ob eC λd=>some (.ret (.bm [a,b,c,d]),h)
def Ty(C:ad)(lf:Nat)(r:bt)(x0:O)(h:U):ab:=
 aS C 73 x0 h λa k=>gj a (r (bG 0) (bG 0) (bG 0) (bG 0) k) (fU 0 x0 λa=>fU 0 x0 λb=>fU 1 x0 λc=>fU 1 x0 λd=>ob x0 λg=>ob (bZ a k) λi=>ob (bZ b k) λj=>ob (bZ c k) λm=>kM 100 m λm=>ob (bZ d k) λo=>kM 100 o λo=>cR (C (.fn 29) [i] k) λi l=>eX (fC [(18,cq (some d)),(13,cq (some c)),(8,cq (some b)),(3,cq (some a))] k l [18,13,8]) (cR (C (.fn 19) [j] l) λj k=>eX (fC [(18,cq (some d)),(13,cq (some c)),(8,cq (some b)),(3,cq (some a))] l k [18,13]) (cR (C (.fn 47) [g] k) λg l=>eX (fC [(18,cq (some d)),(13,cq (some c)),(8,cq (some b)),(3,cq (some a))] k l [18,13]) (kM 33 g λa=>cl .sub 3 o a λa=>r (some i) (some j) (some m) (some a) l))))
theorem auP{r:bt}:∀F h,au aax C lf [] F h bb (bp r 2 3 4 5) ao=aR (Ty C lf r) 0 F h:=by
 intro F h;kernel_rfl
def HO(C:ad)(lf:Nat)(aj:J)(h:U):ab:=Ty C lf Ob (some aj) h
def abt:cx aw:=iX aax HO (λC lf aj h=>cZ (K:=(bp Ob 2 3 4 5)) (by kernel_rfl) (Eq.trans (auP _ h) (by kernel_rfl))) (by kernel_rfl)
def aaC:ca aw:=dn 46 Tryd.f46 Tryd.func46 (by kernel_rfl)
noncomputable def Og(x2:O)(h:U):ab:=
 ob x2 λa=>some (.ret a,h)
def TK(C:ad)(lf:Nat)(r:ay)(x0:O)(h:U):ab:=
 aS C 73 x0 h λa k=>gj a (r (bG 0) k) (dE 2 x0 k λa=>r (some a) k)
theorem avo{r:ay}:∀F h,au aaC C lf [] F h bb (aR r 2) ao=aR (TK C lf r) 0 F h:=by
 intro F h;kernel_rfl
def HS(C:ad)(lf:Nat)(aj:J)(h:U):ab:=TK C lf Og (some aj) h
def abz:cx aw:=iX aaC HS (λC lf aj h=>cZ (K:=(aR Og 2)) (by kernel_rfl) (Eq.trans (avo _ h) (by kernel_rfl))) (by kernel_rfl)
noncomputable def dm:ca aw:=⟨47,Tryd.f47,λr=>bif Nat.beq r 1000004 then .ord [3] [] else .text,Tryd.func47,by kernel_rfl,by kernel_rfl,by kernel_rfl,by kernel_rfl⟩
noncomputable def aab(x2:O)(h:U):ab:=
 ob x2 λa=>some (.ret a,h)
def nM(L:List Nat)(x2:O)(h:U):ab:=yV L h λh=>aab x2 h
noncomputable def tL(C:ad)(lf:Nat)(r:ay)(x3:O)(h:U):ab:=
 ob x3 λa=>ob (bZ a h) λa=>r (some a) h
theorem avu(C:ad)(lf:Nat)(r:ay)(bb:hc)(ao:kU):∀F h,au dm C lf [1,1,1] F h bb (λF h=>r (F 2) h) ao=tL C lf r (F 3) h:=by
 intro F h;kernel_rfl
noncomputable def EO(C:ad)(lf:Nat)(n:cu)(x3 bC:O)(h:U):ab:=
 ob x3 λa=>ob (bZ a h) λa=>ob bC λb=>b2 (ib aw 33 1 [0] [b] h) λb k=>b2 (gk aw .append #[33,33] [a,b] k) λa k=>ob x3 λb=>ob (st 1 b a k) n
theorem avp(C:ad)(lf:Nat)(n:cu)(a5:hc)(ao:kU):∀F h,au dm C lf [1,1,0,1,0,1] F h (λF h=>n h) a5 ao=EO C lf n (F 3) (F 4) h:=by
 intro F h;kernel_rfl
noncomputable def TL(C:ad)(lf:Nat)(n:aU)(x3 x7:O)(h:U):ab:=
 ob x7 λa=>n x3 (some a) h
theorem avq(C:ad)(lf:Nat)(n:aU)(a5:hc)(ao:kU):∀F h,au dm C lf [1,1,0,1,0,0] F h (λF h=>n (F 3) (F 4) h) a5 ao=TL C lf n (F 3) (F 7) h:=by
 intro F h;kernel_rfl
def K1(C:ad)(lf k:Nat)(x3:O)(y0:J)(h:U):ab:=
 TL C lf (λx3 bC h=>tO h k λh=>EO C lf (λh=>lH h k .ready .none true) x3 bC h) x3 (some y0) h
theorem aAR(C:ad)(lf k:Nat)(F:Fr)(y0:J)(h:U):BN aw C dm.ord 47 k 13 lf F #[7] (cc dm [1,1,0,1,0,0]) (cc dm [1,1,0,1,0,1]) [y0] h=K1 C lf k (F 3) y0 h:=
 (aEB (x:=dm) (pa:=[1,1,0,1,0,0]) (pc:=[1,1,0,1,0,1]) (by kernel_rfl) (by kernel_rfl) (by kernel_rfl) (avp C lf (λh=>lH h k .ready .none true) (λ_ h=>lH h k .done .ret false) (λi _ h=>lH h k .done (.ex i) false)) (avq C lf (λx3 bC h=>tO h k λh=>EO C lf (λh=>lH h k .ready .none true) x3 bC h) (λ_ _=>none) (λ_ _ _=>none))).trans (by kernel_rfl)
noncomputable def zf(C:ad)(lf:Nat)(n:aU)(x0 x3:O)(h:U):ab:=
 ob x0 λa=>n x3 (some (.fn (.func 81) [a] [])) h
theorem avr(C:ad)(lf:Nat)(n:aU)(a5:hc)(ao:kU):∀F h,au dm C lf [1,1,0,0] F h (λF h=>n (F 3) (F 6) h) a5 ao=zf C lf n (F 0) (F 3) h:=by
 intro F h;kernel_rfl
noncomputable def EP(C:ad)(lf:Nat)(n:aU)(x0:O)(h:U):ab:=
 b2 (l1 aw 33 h) λa=>n x0 (some a)
theorem avs(C:ad)(lf:Nat)(n:aU)(a5:hc)(ao:kU):∀F h,au dm C lf [1,0] F h (λF h=>n (F 0) (F 3) h) a5 ao=EP C lf n (F 0) h:=by
 intro F h;kernel_rfl
noncomputable def TM(C:ad)(lf:Nat)(n:ay)(x0:O)(h:U):ab:=
 n x0 h
theorem avt(C:ad)(lf:Nat)(n:ay)(a5:hc)(ao:kU):∀F h,au dm C lf [0] F h (λF h=>n (F 0) h) a5 ao=TM C lf n (F 0) h:=by
 intro F h;kernel_rfl
def HT(C:ad)(lf:Nat)(aj:J)(h:U):ab:=y4 (TM C lf ((λL x0 h=>EP C lf ((λL x0 x3 h=>zf C lf ((λL x3 aF h=>ob aF λy=>q5 C dm.ord 47 none 13 #[7] (cc dm [1,1,0,1,0,0]) (cc dm [1,1,0,1,0,1]) y L (ji [(3,x3)]) h (λL h=>(λL x3 h=>tL C lf (nM L) x3 h) L x3 h) qS []) L) x0 x3 h) L) x0 h) []) (some aj) h)
def abA:cx aw:=ajA dm HT (λC lf aj h=>am2 (K:=(λL F h=>nM L (F 2) h)) (by kernel_rfl) (((LW (a:=cc dm [0]) (b:=cc dm [1]) (by kernel_rfl) (B:=(λL F h=>EP C lf ((λL x0 x3 h=>zf C lf ((λL x3 aF h=>ob aF λy=>q5 C dm.ord 47 none 13 #[7] (cc dm [1,1,0,1,0,0]) (cc dm [1,1,0,1,0,1]) y L (ji [(3,x3)]) h (λL h=>(λL x3 h=>tL C lf (nM L) x3 h) L x3 h) qS []) L) x0 x3 h) L) (F 0) h)) (LW (a:=cc dm [1,0]) (b:=cc dm [1,1]) (by kernel_rfl) (B:=(λL F h=>zf C lf ((λL x3 aF h=>ob aF λy=>q5 C dm.ord 47 none 13 #[7] (cc dm [1,1,0,1,0,0]) (cc dm [1,1,0,1,0,1]) y L (ji [(3,x3)]) h (λL h=>(λL x3 h=>tL C lf (nM L) x3 h) L x3 h) qS []) L) (F 0) (F 3) h)) (LW (a:=cc dm [1,1,0]) (b:=cc dm [1,1,1]) (by kernel_rfl) (B:=(λL F h=>tL C lf (nM L) (F 3) h)) (LV (x:=dm) (p:=[1,1,1]) (by kernel_rfl) (λL F h=>(avu C lf (nM L) ((λL F h=>nM L (F 2) h) L) (λi=>(λ_ _ _ _=>none) i L)) F h)) (LW (a:=cc dm [1,1,0,0]) (b:=cc dm [1,1,0,1]) (by kernel_rfl) (B:=(λL F h=>ob (F 6) λy=>q5 C dm.ord 47 none 13 #[7] (cc dm [1,1,0,1,0,0]) (cc dm [1,1,0,1,0,1]) y L (ji [(3,(F 3))]) h (λL h=>(λL x3 h=>tL C lf (nM L) x3 h) L (F 3) h) qS [])) (aEz (id:=0) (a:=cc dm [1,1,0,1,0]) (by kernel_rfl) (λL F h=>aEA (a:=cc dm [1,1,0,1,0,0]) (b:=cc dm [1,1,0,1,0,1]) (g:= .tmp 6) (ps:= #[7]) (us:=[3]) (es:=[]) (rb:=false) (by kernel_rfl) (by kernel_rfl) (by kernel_rfl) (by kernel_rfl) L F h)) (LV (x:=dm) (p:=[1,1,0,0]) (by kernel_rfl) (λL F h=>(avr C lf ((λL x3 aF h=>ob aF λy=>q5 C dm.ord 47 none 13 #[7] (cc dm [1,1,0,1,0,0]) (cc dm [1,1,0,1,0,1]) y L (ji [(3,x3)]) h (λL h=>(λL x3 h=>tL C lf (nM L) x3 h) L x3 h) qS []) L) ((λL F h=>nM L (F 2) h) L) (λi=>(λ_ _ _ _=>none) i L)) F h)))) (LV (x:=dm) (p:=[1,0]) (by kernel_rfl) (λL F h=>(avs C lf ((λL x0 x3 h=>zf C lf ((λL x3 aF h=>ob aF λy=>q5 C dm.ord 47 none 13 #[7] (cc dm [1,1,0,1,0,0]) (cc dm [1,1,0,1,0,1]) y L (ji [(3,x3)]) h (λL h=>(λL x3 h=>tL C lf (nM L) x3 h) L x3 h) qS []) L) x0 x3 h) L) ((λL F h=>nM L (F 2) h) L) (λi=>(λ_ _ _ _=>none) i L)) F h))) (LV (x:=dm) (p:=[0]) (by kernel_rfl) (λL F h=>(avt C lf ((λL x0 h=>EP C lf ((λL x0 x3 h=>zf C lf ((λL x3 aF h=>ob aF λy=>q5 C dm.ord 47 none 13 #[7] (cc dm [1,1,0,1,0,0]) (cc dm [1,1,0,1,0,1]) y L (ji [(3,x3)]) h (λL h=>(λL x3 h=>tL C lf (nM L) x3 h) L x3 h) qS []) L) x0 x3 h) L) x0 h) L) ((λL F h=>nM L (F 2) h) L) (λi=>(λ_ _ _ _=>none) i L)) F h))) [] _ h).trans (by kernel_rfl))) (by kernel_rfl)
def aaD:ca aw:=dn 48 Tryd.f48 Tryd.func48 (by kernel_rfl)
noncomputable def Oh(x2:O)(h:U):ab:=
 ob x2 λa=>some (.ret a,h)
def TN(C:ad)(lf:Nat)(r:ay)(x0:O)(h:U):ab:=
 aS C 73 x0 h λa k=>gj a (r (some (.val (.slice none 0 0))) k) (dE 0 x0 k λa=>cS C 20 [a] k λa=>r (some a))
theorem avv{r:ay}:∀F h,au aaD C lf [] F h bb (aR r 2) ao=aR (TN C lf r) 0 F h:=by
 intro F h;kernel_rfl
def HU(C:ad)(lf:Nat)(aj:J)(h:U):ab:=TN C lf Oh (some aj) h
def abB:cx aw:=iX aaD HU (λC lf aj h=>cZ (K:=(aR Oh 2)) (by kernel_rfl) (Eq.trans (avv _ h) (by kernel_rfl))) (by kernel_rfl)
def vW:ca aw:=dn 81 Tryd.f81 Tryd.func81 (by kernel_rfl)
noncomputable def CL(h:U):ab:=
 some (.ret (.bm []),h)
def EY(C:ad)(lf:Nat)(n:bt)(r:cu)(av:cu)(x0 x1 bW ey:O)(h:U):ab:=
 mr .lss 3 ey bW (ob ey λa=>dE 1 x0 h λb=>ob (dS 308 b a) λb=>eJ 0 b h λb=>b8 b x1 h λc k=>jc .add 3 b (some a) (I 1) k λa k=>dV (cX true (some b) (fi false C c [a] k λa k=>some (.ret a,k)) k) λa k=>b8 b (h4 .not a) k λa k=>p4 b a (r k) (cC .add 3 ey (I 1) λa=>n x0 x1 bW (some a) k)) (av h)
theorem axk{n:bt}{r:cu}{av:cu}:∀F h,au vW C lf [1,1,0,0] F h (bp n 0 1 12 13) (ee r) (bM 0 (ee av) ao)=bp (EY C lf n r av) 0 1 12 13 F h:=by
 intro F h;kernel_rfl
def Be(C:ad)(lf:Nat)(r:cu)(av:cu)(k:O×O×O×O->U->ab)(s:O×O×O×O)(h:U):ab:=
 EY C lf (λa b c d=>k (a,b,c,d)) r av s.1 s.2.1 s.2.2.1 s.2.2.2 h
def Vg(C:ad)(lf:Nat)(n:bt)(x0 x1:O)(h:U):ab:=
 dE 1 x0 h λa=>kM 100 a λa=>n x0 x1 (some a) (bG 0) h
theorem axl{n:bt}:∀F h,au vW C lf [1,0] F h (bp n 0 1 12 13) a5 ao=a8 (Vg C lf n) 0 1 F h:=by
 intro F h;kernel_rfl
def Vh(C:ad)(lf:Nat)(n:cu)(r:cu)(x0 x1:O)(h:U):ab:=
 Vg C lf (λa b c d=>bq (Be C lf r n) lf (a,b,c,d)) x0 x1 h
theorem axm{n:cu}{r:cu}:∀F h,au vW C lf [1] F h (ee n) (ee r) ao=a8 (Vh C lf n r) 0 1 F h:=bn (b:=cc vW [1,1]) (by kernel_rfl) (gm (id:=0) (a:=cc vW [1,1,0]) (by kernel_rfl) (hg (g:=λF=>(F 0,F 1,F 12,F 13)) (body:=Be C lf r n) (by kernel_rfl) (λk=>(axk (n:=λx0 x1 bW ey h=>k (x0,x1,bW,ey) h))))) (axl (n:=λx0 x1 bW ey h=>bq (Be C lf r n) lf (x0,x1,bW,ey) h))
def Vi(C:ad)(lf:Nat)(n:aU)(r:cu)(x0 x1:O)(h:U):ab:=
 aS C 73 x0 h λa k=>gj a (r k) (n x0 x1 k)
theorem axn{n:aU}{r:cu}:∀F h,au vW C lf [0] F h (a8 n 0 1) (ee r) ao=a8 (Vi C lf n r) 0 1 F h:=by
 intro F h;kernel_rfl
def Vj(C:ad)(lf:Nat)(n:cu)(r:cu)(x0 x1:O)(h:U):ab:=
 Vi C lf (Vh C lf n r) r x0 x1 h
theorem axo{n:cu}{r:cu}:∀F h,au vW C lf [] F h (ee n) (ee r) ao=a8 (Vj C lf n r) 0 1 F h:=bn (by kernel_rfl) axm axn
def C4(C:ad)(lf:Nat)(aj ak:J)(h:U):ab:=Vj C lf CL CL (some aj) (some ak) h
def abW:cx aw:=hd vW C4 (λC lf aj ak h=>cZ (K:=(ee CL)) (by kernel_rfl) (Eq.trans (axo _ h) (by kernel_rfl))) (by kernel_rfl)
def aav:ca aw:=dn 34 Tryd.f34 Tryd.func34 (by kernel_rfl)
noncomputable def N9(x2:O)(h:U):ab:=
 ob x2 λa=>some (.ret a,h)
noncomputable def Th(C:ad)(lf:Nat)(r:ay)(x0:O)(h:U):ab:=
 ob x0 λa=>r (some a) h
theorem auj{r:ay}:∀F h,au aav C lf [] F h bb (aR r 2) ao=aR (Th C lf r) 0 F h:=by
 intro F h;kernel_rfl
def HN(C:ad)(lf:Nat)(aj:J)(h:U):ab:=Th C lf N9 (some aj) h
def O7:cx aw:=iX aav HN (λC lf aj h=>cZ (K:=(aR N9 2)) (by kernel_rfl) (Eq.trans (auj _ h) (by kernel_rfl))) (by kernel_rfl)
def aaB:ca aw:=dn 45 Tryd.f45 Tryd.func45 (by kernel_rfl)
noncomputable def Of(bC:O)(h:U):ab:=
 ob bC λa=>some (.ret a,h)
def TJ(C:ad)(lf:Nat)(r:ay)(x0 x1:O)(h:U):ab:=
 aS C 39 x0 h λa k=>df a λb c=>ob (ext 2 a) λd=>ob (ext 3 a) λa=>aS C 80 x1 k λg k=>df g λi j=>ob (ext 2 g) λm=>ob (ext 3 g) λg=>cl .eql 3 b i λb=>b8 b (some c) k λc k=>b8 b (some j) k λi k=>b8 b (bin aw .eql 3 c i) k λc k=>hz b c λb=>b8 b (some d) k λc k=>b8 b (some m) k λd k=>b8 b (bin aw .eql 3 c d) k λc k=>hz b c λb=>b8 b (some a) k λa k=>b8 b (some g) k λc k=>b8 b (bin aw .eql 3 a c) k λa k=>hz b a λa=>r (some a) k
theorem avn{r:ay}:∀F h,au aaB C lf [] F h bb (aR r 4) ao=a8 (TJ C lf r) 0 1 F h:=by
 intro F h;kernel_rfl
def HR(C:ad)(lf:Nat)(aj ak:J)(h:U):ab:=TJ C lf Of (some aj) (some ak) h
def aby:cx aw:=hd aaB HR (λC lf aj ak h=>cZ (K:=(aR Of 4)) (by kernel_rfl) (Eq.trans (avn _ h) (by kernel_rfl))) (by kernel_rfl)
noncomputable def aaA:ca aw:=⟨44,Tryd.f44,λr=>bif Nat.beq r 3 then .news [0,2,3,4,1,5,6,7,8,9] [5] [] else .text,Tryd.func44,by kernel_rfl,by kernel_rfl,by kernel_rfl,by kernel_rfl⟩
noncomputable def Oe(bC eC:O)(h:U):ab:=
 ob bC λa=>ob eC λb=>some (.ret (.bm [a,b]),h)
def TI(C:ad)(lf:Nat)(r:aU)(x0 x1:O)(h:U):ab:=
 cC .lss 3 x0 (I 1) λa=>jr .gtr 3 a x0 (I 4096) h λb k=>ml a b λa=>jr .lss 3 a x1 (I 1) k λb k=>ml a b λa=>jr .gtr 3 a x1 (I 4096) k λb k=>nn a b (r (some (.val (.pointer none))) (bG 22) k) (Bq [5] 10 k λa k=>ob x0 λb=>ob x1 λc=>cC .add 3 x1 (I 1) λd=>cR (C (.fn 24) [b] k) λb k=>eX (kt a d&&kt a d) (b2 (ss (nq aw 134 d d) a 5 k) λa k=>ob (hZ aw 136 [0,1,3] [b,c,a]) λa=>b2 (ri 136 a k) λa=>r (some a) (bG 0)))
theorem avm{r:aU}:∀F h,au aaA C lf [] F h bb (a8 r 4 5) ao=a8 (TI C lf r) 0 1 F h:=by
 intro F h;kernel_rfl
def CW(C:ad)(lf:Nat)(aj ak:J)(h:U):ab:=TI C lf Oe (some aj) (some ak) h
def abx:cx aw:=hd aaA CW (λC lf aj ak h=>cZ (K:=(a8 Oe 4 5)) (by kernel_rfl) (Eq.trans (avm _ h) (by kernel_rfl))) (by kernel_rfl)
noncomputable def aaZ:ca aw:=⟨80,Tryd.f80,λr=>bif Nat.beq r 1 then .ord [0,1,2,3,6,7,8,10,11,12,14,15,16,18,4,5,13,17,9,19,20,21,22,23,24,25] [(19,[17,13,4]),(9,[17,13,4])] else .text,Tryd.func80,by kernel_rfl,by kernel_rfl,by kernel_rfl,by kernel_rfl⟩
noncomputable def OF(x2 x3 bC eC:O)(h:U):ab:=
 ob x2 λa=>ob x3 λb=>ob bC λc=>ob eC λd=>some (.ret (.bm [a,b,c,d]),h)
def Vf(C:ad)(lf:Nat)(r:bt)(x0:O)(h:U):ab:=
 fU 0 x0 λa=>ob (b6 0 a) λa=>fU 0 x0 λb=>fU 2 x0 λc=>fU 2 x0 λd=>ob x0 λg=>ob (bZ a h) λi=>kM 41 i λi=>ob (bZ c h) λj=>ob (bZ d h) λm=>cR (C (.fn 30) [b] h) λb k=>eX (fC [(17,cq (some d)),(13,cq (some c)),(4,cq (some a))] h k [17,13,4]) (cR (C (.fn 84) [g] k) λg l=>eX (fC [(17,cq (some d)),(13,cq (some c)),(4,cq (some a))] k l [17,13,4]) (kM 33 g λa=>cl .sub 3 m a λa=>r (some i) (some b) (some j) (some a) l))
theorem axj{r:bt}:∀F h,au aaZ C lf [] F h bb (bp r 2 3 4 5) ao=aR (Vf C lf r) 0 F h:=by
 intro F h;kernel_rfl
def Ic(C:ad)(lf:Nat)(aj:J)(h:U):ab:=Vf C lf OF (some aj) h
def abV:cx aw:=iX aaZ Ic (λC lf aj h=>cZ (K:=(bp OF 2 3 4 5)) (by kernel_rfl) (Eq.trans (axj _ h) (by kernel_rfl))) (by kernel_rfl)
def qt:ca aw:=dn 84 Tryd.f84 Tryd.func84 (by kernel_rfl)
noncomputable def Hv(x2:O)(h:U):ab:=
 ob x2 λa=>some (.ret a,h)
noncomputable def Ku(C:ad)(lf:Nat)(r:ay)(x3:O)(h:U):ab:=
 ob x3 λa=>r (some a) h
theorem axv{r:ay}:∀F h,au qt C lf [1,1,1] F h bb (aR r 2) ao=aR (Ku C lf r) 3 F h:=by
 intro F h;kernel_rfl
def EZ(C:ad)(lf:Nat)(n:bI)(av:ay)(x0 x3 bC:O)(h:U):ab:=
 ob bC λa=>dE 2 x0 h λb=>eF .leq 3 a b (dE 4 x0 h λa=>Jq 308 0 a bC h λa=>fY a (ob x3 λa=>ob bC λb=>b2 (ib aw 33 1 [0] [b] h) λb k=>b2 (gk aw .append #[33,33] [a,b] k) λa k=>cC .add 3 bC (I 1) λb=>n x0 (some a) (some b) k) (cC .add 3 bC (I 1) λa=>n x0 x3 (some a) h)) (av x3 h)
theorem axr{n:bI}{av:ay}:∀F h,au qt C lf [1,1,0,1,0,0] F h (bE n 0 3 4) a5 (bM 0 (aR av 3) ao)=bE (EZ C lf n av) 0 3 4 F h:=by
 intro F h;kernel_rfl
def Bf(C:ad)(lf:Nat)(av:ay)(k:O×O×O->U->ab)(s:O×O×O)(h:U):ab:=
 EZ C lf (λa b c=>k (a,b,c)) av s.1 s.2.1 s.2.2 h
def Vm(C:ad)(lf:Nat)(n:bI)(x0 x3:O)(h:U):ab:=
 n x0 x3 (bG 1) h
theorem axs{n:bI}:∀F h,au qt C lf [1,1,0,0] F h (bE n 0 3 4) a5 ao=a8 (Vm C lf n) 0 3 F h:=by
 intro F h;kernel_rfl
def Vn(C:ad)(lf:Nat)(n:ay)(x0 x3:O)(h:U):ab:=
 Vm C lf (λa b c=>bq (Bf C lf n) lf (a,b,c)) x0 x3 h
theorem axt{n:ay}:∀F h,au qt C lf [1,1,0] F h (aR n 3) a5 ao=a8 (Vn C lf n) 0 3 F h:=bn (b:=cc qt [1,1,0,1]) (by kernel_rfl) (gm (id:=0) (a:=cc qt [1,1,0,1,0]) (by kernel_rfl) (hg (g:=λF=>(F 0,F 3,F 4)) (body:=Bf C lf n) (by kernel_rfl) (λk=>(axr (n:=λx0 x3 bC h=>k (x0,x3,bC) h))))) (axs (n:=λx0 x3 bC h=>bq (Bf C lf n) lf (x0,x3,bC) h))
def Vo(C:ad)(lf:Nat)(r:ay)(x0 x3:O)(h:U):ab:=
 Vn C lf (Ku C lf r) x0 x3 h
theorem axu{r:ay}:∀F h,au qt C lf [1,1] F h bb (aR r 2) ao=a8 (Vo C lf r) 0 3 F h:=bn (by kernel_rfl) axv axt
noncomputable def Vp(C:ad)(lf:Nat)(n:aU)(x0:O)(h:U):ab:=
 n x0 (some (.val (.slice none 0 0))) h
theorem axw{n:aU}:∀F h,au qt C lf [1,0] F h (a8 n 0 3) a5 ao=aR (Vp C lf n) 0 F h:=by
 intro F h;kernel_rfl
def Vq(C:ad)(lf:Nat)(r:ay)(x0:O)(h:U):ab:=
 Vp C lf (Vo C lf r) x0 h
theorem axx{r:ay}:∀F h,au qt C lf [1] F h bb (aR r 2) ao=aR (Vq C lf r) 0 F h:=bn (by kernel_rfl) axu axw
noncomputable def Vr(C:ad)(lf:Nat)(n:ay)(x0:O)(h:U):ab:=
 n x0 h
theorem axy{n:ay}:∀F h,au qt C lf [0] F h (aR n 0) a5 ao=aR (Vr C lf n) 0 F h:=by
 intro F h;kernel_rfl
def Vs(C:ad)(lf:Nat)(r:ay)(x0:O)(h:U):ab:=
 Vr C lf (Vq C lf r) x0 h
theorem axz{r:ay}:∀F h,au qt C lf [] F h bb (aR r 2) ao=aR (Vs C lf r) 0 F h:=bn (by kernel_rfl) axx axy
def Ih(C:ad)(lf:Nat)(aj:J)(h:U):ab:=Vs C lf Hv (some aj) h
def abZ:cx aw:=iX qt Ih (λC lf aj h=>cZ (K:=(aR Hv 2)) (by kernel_rfl) (Eq.trans (axz _ h) (by kernel_rfl))) (by kernel_rfl)
def aa2:ca aw:=dn 85 Tryd.f85 Tryd.func85 (by kernel_rfl)
noncomputable def OI(x2:O)(h:U):ab:=
 ob x2 λa=>some (.ret a,h)
def Vt(C:ad)(lf:Nat)(r:ay)(x0:O)(h:U):ab:=
 fU 0 x0 λa=>cS C 32 [a] h λa=>r (some a)
theorem axA{r:ay}:∀F h,au aa2 C lf [] F h bb (aR r 2) ao=aR (Vt C lf r) 0 F h:=by
 intro F h;kernel_rfl
def Ii(C:ad)(lf:Nat)(aj:J)(h:U):ab:=Vt C lf OI (some aj) h
def ab0:cx aw:=iX aa2 Ii (λC lf aj h=>cZ (K:=(aR OI 2)) (by kernel_rfl) (Eq.trans (axA _ h) (by kernel_rfl))) (by kernel_rfl)
def aaz:ca aw:=dn 43 Tryd.f43 Tryd.func43 (by kernel_rfl)
noncomputable def Od(bC:O)(h:U):ab:=
 ob bC λa=>some (.ret a,h)
def TH(C:ad)(lf:Nat)(r:ay)(x0 x1:O)(h:U):ab:=
 ob x0 λa=>b2 (rj aw 24 9 a h) λa k=>ob x1 λb=>b2 (rj aw 24 9 b k) λb k=>cl .eql 9 a b λa=>r (some a) k
theorem avl{r:ay}:∀F h,au aaz C lf [] F h bb (aR r 4) ao=a8 (TH C lf r) 0 1 F h:=by
 intro F h;kernel_rfl
def HQ(C:ad)(lf:Nat)(aj ak:J)(h:U):ab:=TH C lf Od (some aj) (some ak) h
def abw:cx aw:=hd aaz HQ (λC lf aj ak h=>cZ (K:=(aR Od 4)) (by kernel_rfl) (Eq.trans (avl _ h) (by kernel_rfl))) (by kernel_rfl)
end
end Go.Proofs.YtomialandfplkaaDoor.Eva
namespace Go.Xe
def pop:Nat->Nat->Nat
 |0,_=>0
 |n+1,x=>x%2+pop n (x/2)
theorem Cn{a c y d:Nat}(b1:a<256)(ae:c<256):(a+256*y)&&& (c+256*d)=(a&&& c)+256*(y&&& d):=by
 have h1:(a&&& c)<256:=Nat.lt_of_le_of_lt Nat.and_le_left b1;have e:((a+256*y)&&& (c+256*d))=256*(((a+256*y)&&& (c+256*d))/256)+((a+256*y)&&& (c+256*d))%256:=(Nat.div_add_mod _ _).symm
 have hdiv:((a+256*y)&&& (c+256*d))/256=y&&& d:=by
  have:=Nat.and_div_two_pow (a:=a+256*y) (b:=c+256*d) (n:=8)
  rw[show(2:Nat) ^ 8=256 from rfl] at this;rw[this,show(a+256*y)/256=y by omega,show(c+256*d)/256=d by omega]
 have DF:((a+256*y)&&& (c+256*d))%256=a&&& c:=by
  have:=Nat.and_mod_two_pow (a:=a+256*y) (b:=c+256*d) (n:=8)
  rw[show(2:Nat) ^ 8=256 from rfl] at this;rw[this,show(a+256*y)%256=a by omega,show(c+256*d)%256=c by omega]
 rw[e,hdiv,DF];omega
def rep(m:Nat):Nat->Nat
 |0=>0
 |n+1=>m+256*rep m n
def s1(M x:Nat):Nat:=(x/2&&& M)+(x&&& M)
def s2(M x:Nat):Nat:=(x/4&&& M)+(x&&& M)
def er(M x:Nat):Nat:=(x/16+x)&&& M
def f8(a:Nat):Nat:=er 15 (s2 51 (s1 85 a))
def sx:Nat->Nat->Nat
 |0,_=>0
 |n+1,x=>f8 (x%256)+256*sx n (x/256)
theorem aqr:∀a,a<256->∀q,q<2->(a/2+128*q)&&& 85=a/2&&& 85:=by decide+kernel
theorem aqs:∀a,a<256->∀q,q<4->(a/4+64*q)&&& 51=a/4&&& 51:=by decide+kernel
theorem ad3:∀a,a<256->s1 85 a<256:=by decide+kernel
theorem ad4:∀a,a<256->s2 51 (s1 85 a)<=68/\s2 51 (s1 85 a)%16<=4:=by decide+kernel
theorem aqt:∀a,a<69->∀q,q<5->(a/16+a+16*q)&&& 15=(a/16+a)&&& 15:=by decide+kernel
theorem amK:∀a,a<256->f8 a=pop 8 a:=by decide+kernel
theorem vO:∀a,a<256->f8 a<=8:=by decide+kernel
theorem ag3{a y M:Nat}(b1:a<256):s1 (85+256*M) (a+256*y)=s1 85 a+256*s1 M y:=by
 unfold s1;have e:(a+256*y)/2=(a/2+128*(y%2))+256*(y/2):=by omega
 rw[e,Cn (by omega) (by omega),Cn b1 (by omega),aqr a b1 _ (by omega)];omega
theorem ag4{a y M:Nat}(b1:a<256):s2 (51+256*M) (a+256*y)=s2 51 a+256*s2 M y:=by
 unfold s2;have e:(a+256*y)/4=(a/4+64*(y%4))+256*(y/4):=by omega
 rw[e,Cn (by omega) (by omega),Cn b1 (by omega),aqs a b1 _ (by omega)];omega
theorem aBa{a y M:Nat}(b1:a<=68)(bf:y%16<=4):er (15+256*M) (a+256*y)=er 15 a+256*er M y:=by
 unfold er;have e:(a+256*y)/16+(a+256*y)=(a/16+a+16*(y%16))+256*(y/16+y):=by omega
 rw[e,Cn (by omega) (by omega),aqt a (by omega) _ (by omega)]
theorem aA9:∀n y,s2 (rep 51 n) (s1 (rep 85 n) y)%16<=4
 |0,y=>by simp[s2,s1,rep]
 |n+1,y=>by
  have e:y=y%256+256*(y/256):=by omega
  rw[e];simp only[rep];rw[ag3 (by omega),ag4 (ad3 _ (by omega))]
  have:=(ad4 (y%256) (by omega)).2
  omega
theorem ag2:∀n x,er (rep 15 n) (s2 (rep 51 n) (s1 (rep 85 n) x))=sx n x
 |0,x=>by simp[er,rep,sx]
 |n+1,x=>by
  have e:x=x%256+256*(x/256):=by omega
  have h1:er (rep 15 (n+1)) (s2 (rep 51 (n+1)) (s1 (rep 85 (n+1)) (x%256+256*(x/256))))=f8 (x%256)+256*sx n (x/256):=by
   simp only[rep];rw[ag3 (by omega),ag4 (ad3 _ (by omega)),aBa (ad4 _ (by omega)).1 (aA9 n _),ag2 n];rfl
  rw[<- e] at h1;rw[h1];rfl
theorem ae9(m:Nat):∀n x,pop (n+m) x=pop n (x%2 ^ n)+pop m (x/2 ^ n)
 |0,x=>by simp[pop]
 |n+1,x=>by
  have h:=ae9 m n (x/2);rw[show n+1+m=(n+m)+1 by omega];simp only[pop];rw[h];have az:x%2 ^ (n+1)%2=x%2:=by rw[Nat.pow_succ,Nat.mul_comm];exact Nat.mod_mul_right_mod x 2 (2 ^ n)
  have aA:x%2 ^ (n+1)/2=x/2%2 ^ n:=by rw[Nat.pow_succ,Nat.mul_comm];exact Nat.mod_mul_right_div_self x 2 (2 ^ n)
  have cj:x/2/2 ^ n=x/2 ^ (n+1):=by rw[Nat.div_div_eq_div_mul,Nat.pow_succ,Nat.mul_comm]
  rw[az,aA,cj];omega
theorem wF(m x:Nat):pop (8+m) x=f8 (x%256)+pop m (x/256):=by
 rw[ae9 m 8 x,show(2:Nat) ^ 8=256 from rfl,amK _ (by omega)]
theorem ai1(x:Nat):∃a b c d e f g i:Nat,a<=8/\b<=8/\c<=8/\d<=8/\e<=8/\f<=8/\g<=8/\i<=8/\
 sx 8 x=a+256*(b+256*(c+256*(d+256*(e+256*(f+256*(g+256*i))))))/\pop 64 x=a+b+c+d+e+f+g+i:=by
 refine⟨f8 (x%256),f8 (x/256%256),f8 (x/256/256%256),f8 (x/256/256/256%256),f8 (x/256/256/256/256%256),f8 (x/256/256/256/256/256%256),f8 (x/256/256/256/256/256/256%256),f8 (x/256/256/256/256/256/256/256%256),vO _ (Nat.mod_lt _ (by omega)),vO _ (Nat.mod_lt _ (by omega)),vO _ (Nat.mod_lt _ (by omega)),vO _ (Nat.mod_lt _ (by omega)),vO _ (Nat.mod_lt _ (by omega)),vO _ (Nat.mod_lt _ (by omega)),vO _ (Nat.mod_lt _ (by omega)),vO _ (Nat.mod_lt _ (by omega)),?_,?_⟩
 rotate_left
 ·rw[show(64:Nat)=8+56 from rfl,wF,show(56:Nat)=8+48 from rfl,wF,show(48:Nat)=8+40 from rfl,wF,show(40:Nat)=8+32 from rfl,wF,show(32:Nat)=8+24 from rfl,wF,
   show(24:Nat)=8+16 from rfl,wF,show(16:Nat)=8+8 from rfl,wF,show(8:Nat)=8+0 from rfl,wF]
  simp only[pop,Nat.add_zero,Nat.add_assoc]
 ·simp[sx]
def fo(x:Nat):Nat:=x+x/256
def oT(x:Nat):Nat:=x+x/65536
def tR(x:Nat):Nat:=x+x/4294967296
theorem azy(u r:Nat)(hu:u<256):(u+256*r)/256=r:=by omega
theorem azz(u r:Nat)(hu:u<65536):(u+65536*r)/65536=r:=by omega
theorem azA(u r:Nat)(hu:u<4294967296):(u+4294967296*r)/4294967296=r:=by omega
theorem aks(a b c d e f g:Nat)(h1:a<=8)(h2:b<=8)(h3:c<=8)(aW:d<=8)(bz:e<=8)(bB:f<=8)(dW:g<=8):(a+b+c+d)+256*(b+c+d+e)+65536*((c+d+e+f)+256*(d+e+f+g))<4294967296:=by omega
theorem akt(a b c d e f g i:Nat)(h1:a<=8)(h2:b<=8)(h3:c<=8)(aW:d<=8)(bz:e<=8)(bB:f<=8)(dW:g<=8)(gE:i<=8):a+b+c+d+e+f+g+i<128:=by omega
theorem aku(a b c d e f g i:Nat)(h1:a<=8)(h2:b<=8)(h3:c<=8)(aW:d<=8)(bz:e<=8)(bB:f<=8)(dW:g<=8)(gE:i<=8):(a+256*(b+256*(c+256*(d+256*(e+256*(f+256*(g+256*i)))))))<2 ^ 60:=by omega
theorem arN(x:Nat):tR (oT (fo (sx 8 x)))%128=pop 64 x/\sx 8 x<2 ^ 60:=by
 obtain⟨a,b,c,d,e,f,g,i,h1,h2,h3,aW,bz,bB,dW,gE,aT,aC⟩:=ai1 x;rw[aT,aC];clear aT aC;have k1:a<256:=Nat.lt_of_le_of_lt h1 (by decide);have k2:(a+b)+256*(b+c)<65536:=by clear aW bz bB dW gE k1;omega
 have hx:=aks a b c d e f g h1 h2 h3 aW bz bB dW;have n1:=akt a b c d e f g i h1 h2 h3 aW bz bB dW gE;have adJ:=aku a b c d e f g i h1 h2 h3 aW bz bB dW gE;refine⟨?_,adJ⟩;clear adJ h1 h2 h3 aW bz bB dW gE
 have e9:fo (a+256*(b+256*(c+256*(d+256*(e+256*(f+256*(g+256*i)))))))=((a+b)+256*(b+c))+65536*((c+d)+256*(d+e)+65536*((e+f)+256*(f+g)+65536*((g+i)+256*i))):=by
  unfold fo;rw[azy a (b+256*(c+256*(d+256*(e+256*(f+256*(g+256*i)))))) k1];clear k1 k2 hx n1;omega
 have iE:oT (((a+b)+256*(b+c))+65536*((c+d)+256*(d+e)+65536*((e+f)+256*(f+g)+65536*((g+i)+256*i))))=
  ((a+b+c+d)+256*(b+c+d+e)+65536*((c+d+e+f)+256*(d+e+f+g)))+4294967296*((e+f+g+i)+256*(f+g+i)+65536*((g+i)+256*i)):=by
  unfold oT;rw[azz ((a+b)+256*(b+c)) ((c+d)+256*(d+e)+65536*((e+f)+256*(f+g)+65536*((g+i)+256*i))) k2];clear k1 k2 hx n1 e9;omega
 have Ny:tR (((a+b+c+d)+256*(b+c+d+e)+65536*((c+d+e+f)+256*(d+e+f+g)))+4294967296*((e+f+g+i)+256*(f+g+i)+65536*((g+i)+256*i)))=
  (a+b+c+d+e+f+g+i)+128*(2*(b+c+d+e+f+g+i)+512*((c+d+e+f)+256*(d+e+f+g)+((g+i)+256*i))+33554432*((e+f+g+i)+256*(f+g+i)+65536*((g+i)+256*i))):=by
  unfold tR;rw[azA ((a+b+c+d)+256*(b+c+d+e)+65536*((c+d+e+f)+256*(d+e+f+g))) ((e+f+g+i)+256*(f+g+i)+65536*((g+i)+256*i)) hx];clear k1 k2 hx n1 e9 iE;omega
 rw[e9,iE,Ny,Nat.add_mul_mod_self_left];exact Nat.mod_eq_of_lt n1
theorem Re:rep 85 8=6148914691236517205/\rep 51 8=3689348814741910323/\rep 15 8=1085102592571150095:=by decide
end Go.Xe
namespace Go.Proofs.YtomialandfplkaaDoor.Eva
open Go.Xe
noncomputable section
variable{C:ad}{lf:Nat}{bb a5 eB fl jM kK qJ qK qL qM qN qO qG qH qI:hc}{ao:kU}
def oz:ca aw:=dn 19 Tryd.f19 Tryd.func19 (by kernel_rfl)
noncomputable def Ho(x2:O)(h:U):ab:=
 ob x2 λa=>some (.ret a,h)
noncomputable def JQ(C:ad)(lf:Nat)(r:ay)(x3:O)(h:U):ab:=
 ob x3 λa=>r (some a) h
theorem atu{r:ay}:∀F h,au oz C lf [1,1,1,1] F h bb (aR r 2) ao=aR (JQ C lf r) 3 F h:=by
 intro F h;kernel_rfl
def EF(C:ad)(lf:Nat)(n:bI)(av:ay)(x0 x3 bW:O)(h:U):ab:=
 gJ .lss 3 bW (I 64) (ob bW λa=>ob x3 λb=>fU 1 x0 λc=>ob (ev 64 1 c a) λa=>ob (bZ a h) λa=>cS C 65 [a] h λa k=>cl .sub 3 b a λa=>cC .add 3 bW (I 1) λb=>n x0 (some a) (some b) k) (av x3 h)
theorem ato{n:bI}{av:ay}:∀F h,au oz C lf [1,1,1,0,1,0,0] F h (bE n 0 3 12) a5 (bM 0 (aR av 3) ao)=bE (EF C lf n av) 0 3 12 F h:=by
 intro F h;kernel_rfl
def A7(C:ad)(lf:Nat)(av:ay)(k:O×O×O->U->ab)(s:O×O×O)(h:U):ab:=
 EF C lf (λa b c=>k (a,b,c)) av s.1 s.2.1 s.2.2 h
def Sy(C:ad)(lf:Nat)(n:bI)(x0 x3:O)(h:U):ab:=
 n x0 x3 (bG 0) h
theorem atp{n:bI}:∀F h,au oz C lf [1,1,1,0,0] F h (bE n 0 3 12) a5 ao=a8 (Sy C lf n) 0 3 F h:=by
 intro F h;kernel_rfl
def Sz(C:ad)(lf:Nat)(n:ay)(x0 x3:O)(h:U):ab:=
 Sy C lf (λa b c=>bq (A7 C lf n) lf (a,b,c)) x0 x3 h
theorem atq{n:ay}:∀F h,au oz C lf [1,1,1,0] F h (aR n 3) a5 ao=a8 (Sz C lf n) 0 3 F h:=bn (b:=cc oz [1,1,1,0,1]) (by kernel_rfl) (gm (id:=0) (a:=cc oz [1,1,1,0,1,0]) (by kernel_rfl) (hg (g:=λF=>(F 0,F 3,F 12)) (body:=A7 C lf n) (by kernel_rfl) (λk=>(ato (n:=λx0 x3 bW h=>k (x0,x3,bW) h))))) (atp (n:=λx0 x3 bW h=>bq (A7 C lf n) lf (x0,x3,bW) h))
def SA(C:ad)(lf:Nat)(r:ay)(x0 x3:O)(h:U):ab:=
 Sz C lf (JQ C lf r) x0 x3 h
theorem atr{r:ay}:∀F h,au oz C lf [1,1,1] F h bb (aR r 2) ao=a8 (SA C lf r) 0 3 F h:=bn (by kernel_rfl) atu atq
def SB(C:ad)(lf:Nat)(n:aU)(x0:O)(h:U):ab:=
 dE 0 x0 h λa=>n x0 (some a) h
theorem ats{n:aU}:∀F h,au oz C lf [1,1,0] F h (a8 n 0 3) a5 ao=aR (SB C lf n) 0 F h:=by
 intro F h;kernel_rfl
def SC(C:ad)(lf:Nat)(r:ay)(x0:O)(h:U):ab:=
 SB C lf (SA C lf r) x0 h
theorem att{r:ay}:∀F h,au oz C lf [1,1] F h bb (aR r 2) ao=aR (SC C lf r) 0 F h:=bn (by kernel_rfl) atr ats
def SD(C:ad)(lf:Nat)(n:ay)(r:ay)(x0:O)(h:U):ab:=
 aS C 63 x0 h λa k=>gj a (r (bG 0) k) (n x0 k)
theorem atv{n:ay}{r:ay}:∀F h,au oz C lf [1,0] F h (aR n 0) (aR r 2) ao=aR (SD C lf n r) 0 F h:=by
 intro F h;kernel_rfl
def SE(C:ad)(lf:Nat)(r:ay)(x0:O)(h:U):ab:=
 SD C lf (SC C lf r) r x0 h
theorem atw{r:ay}:∀F h,au oz C lf [1] F h bb (aR r 2) ao=aR (SE C lf r) 0 F h:=bn (by kernel_rfl) att atv
noncomputable def SF(C:ad)(lf:Nat)(n:ay)(x0:O)(h:U):ab:=
 n x0 h
theorem atx{n:ay}:∀F h,au oz C lf [0] F h (aR n 0) a5 ao=aR (SF C lf n) 0 F h:=by
 intro F h;kernel_rfl
def SG(C:ad)(lf:Nat)(r:ay)(x0:O)(h:U):ab:=
 SF C lf (SE C lf r) x0 h
theorem aty{r:ay}:∀F h,au oz C lf [] F h bb (aR r 2) ao=aR (SG C lf r) 0 F h:=bn (by kernel_rfl) atw atx
def HF(C:ad)(lf:Nat)(aj:J)(h:U):ab:=SG C lf Ho (some aj) h
def abk:cx aw:=iX oz HF (λC lf aj h=>cZ (K:=(aR Ho 2)) (by kernel_rfl) (Eq.trans (aty _ h) (by kernel_rfl))) (by kernel_rfl)
def oA:ca aw:=dn 20 Tryd.f20 Tryd.func20 (by kernel_rfl)
noncomputable def Hp(x2:O)(h:U):ab:=
 ob x2 λa=>some (.ret a,h)
noncomputable def JR(C:ad)(lf:Nat)(r:ay)(x3:O)(h:U):ab:=
 ob x3 λa=>r (some a) h
theorem atF{r:ay}:∀F h,au oA C lf [1,1,1,1] F h bb (aR r 2) ao=aR (JR C lf r) 3 F h:=by
 intro F h;kernel_rfl
def EG(C:ad)(lf:Nat)(n:bt)(av:ay)(x0 x3 x11 bW:O)(h:U):ab:=
 mr .lss 3 bW x11 (ob bW λa=>ob x0 λb=>cS C 33 [b,a] h λb k=>fY b (ob x3 λb=>b2 (ib aw 33 1 [0] [a] k) λa k=>b2 (gk aw .append #[33,33] [b,a] k) λa k=>cC .add 3 bW (I 1) λb=>n x0 (some a) x11 (some b) k) (cC .add 3 bW (I 1) λa=>n x0 x3 x11 (some a) k)) (av x3 h)
theorem atz{n:bt}{av:ay}:∀F h,au oA C lf [1,1,1,0,1,0,0] F h (bp n 0 3 11 12) a5 (bM 0 (aR av 3) ao)=bp (EG C lf n av) 0 3 11 12 F h:=by
 intro F h;kernel_rfl
def A8(C:ad)(lf:Nat)(av:ay)(k:O×O×O×O->U->ab)(s:O×O×O×O)(h:U):ab:=
 EG C lf (λa b c d=>k (a,b,c,d)) av s.1 s.2.1 s.2.2.1 s.2.2.2 h
def SH(C:ad)(lf:Nat)(n:bt)(x0 x3:O)(h:U):ab:=
 dE 0 x0 h λa=>n x0 x3 (some a) (bG 0) h
theorem atA{n:bt}:∀F h,au oA C lf [1,1,1,0,0] F h (bp n 0 3 11 12) a5 ao=a8 (SH C lf n) 0 3 F h:=by
 intro F h;kernel_rfl
def SI(C:ad)(lf:Nat)(n:ay)(x0 x3:O)(h:U):ab:=
 SH C lf (λa b c d=>bq (A8 C lf n) lf (a,b,c,d)) x0 x3 h
theorem atB{n:ay}:∀F h,au oA C lf [1,1,1,0] F h (aR n 3) a5 ao=a8 (SI C lf n) 0 3 F h:=bn (b:=cc oA [1,1,1,0,1]) (by kernel_rfl) (gm (id:=0) (a:=cc oA [1,1,1,0,1,0]) (by kernel_rfl) (hg (g:=λF=>(F 0,F 3,F 11,F 12)) (body:=A8 C lf n) (by kernel_rfl) (λk=>(atz (n:=λx0 x3 x11 bW h=>k (x0,x3,x11,bW) h))))) (atA (n:=λx0 x3 x11 bW h=>bq (A8 C lf n) lf (x0,x3,x11,bW) h))
def SJ(C:ad)(lf:Nat)(r:ay)(x0 x3:O)(h:U):ab:=
 SI C lf (JR C lf r) x0 x3 h
theorem atC{r:ay}:∀F h,au oA C lf [1,1,1] F h bb (aR r 2) ao=a8 (SJ C lf r) 0 3 F h:=bn (by kernel_rfl) atF atB
noncomputable def SK(C:ad)(lf:Nat)(n:aU)(x0:O)(h:U):ab:=
 n x0 (some (.val (.slice none 0 0))) h
theorem atD{n:aU}:∀F h,au oA C lf [1,1,0] F h (a8 n 0 3) a5 ao=aR (SK C lf n) 0 F h:=by
 intro F h;kernel_rfl
def SL(C:ad)(lf:Nat)(r:ay)(x0:O)(h:U):ab:=
 SK C lf (SJ C lf r) x0 h
theorem atE{r:ay}:∀F h,au oA C lf [1,1] F h bb (aR r 2) ao=aR (SL C lf r) 0 F h:=bn (by kernel_rfl) atC atD
def SM(C:ad)(lf:Nat)(n:ay)(r:ay)(x0:O)(h:U):ab:=
 aS C 63 x0 h λa k=>gj a (r (some (.val (.slice none 0 0))) k) (n x0 k)
theorem atG{n:ay}{r:ay}:∀F h,au oA C lf [1,0] F h (aR n 0) (aR r 2) ao=aR (SM C lf n r) 0 F h:=by
 intro F h;kernel_rfl
def SN(C:ad)(lf:Nat)(r:ay)(x0:O)(h:U):ab:=
 SM C lf (SL C lf r) r x0 h
theorem atH{r:ay}:∀F h,au oA C lf [1] F h bb (aR r 2) ao=aR (SN C lf r) 0 F h:=bn (by kernel_rfl) atE atG
noncomputable def SO(C:ad)(lf:Nat)(n:ay)(x0:O)(h:U):ab:=
 n x0 h
theorem atI{n:ay}:∀F h,au oA C lf [0] F h (aR n 0) a5 ao=aR (SO C lf n) 0 F h:=by
 intro F h;kernel_rfl
def SP(C:ad)(lf:Nat)(r:ay)(x0:O)(h:U):ab:=
 SO C lf (SN C lf r) x0 h
theorem atJ{r:ay}:∀F h,au oA C lf [] F h bb (aR r 2) ao=aR (SP C lf r) 0 F h:=bn (by kernel_rfl) atH atI
def HG(C:ad)(lf:Nat)(aj:J)(h:U):ab:=SP C lf Hp (some aj) h
def abl:cx aw:=iX oA HG (λC lf aj h=>cZ (K:=(aR Hp 2)) (by kernel_rfl) (Eq.trans (atJ _ h) (by kernel_rfl))) (by kernel_rfl)
def aaR:ca aw:=dn 65 Tryd.f65 Tryd.func65 (by kernel_rfl)
noncomputable def Ox(x2:O)(h:U):ab:=
 ob x2 λa=>some (.ret a,h)
def Um(C:ad)(lf:Nat)(r:ay)(x0:O)(h:U):ab:=
 cC .shr 55 x0 (.int .u64 1) λa=>cl .and 55 a (.int .u64 6148914691236517205) λa=>cC .and 55 x0 (.int .u64 6148914691236517205) λb=>cl .add 55 a b λa=>cl .shr 55 a (.int .u64 2) λb=>cl .and 55 b (.int .u64 3689348814741910323) λb=>cl .and 55 a (.int .u64 3689348814741910323) λa=>cl .add 55 b a λa=>cl .shr 55 a (.int .u64 4) λb=>cl .add 55 b a λa=>cl .and 55 a (.int .u64 1085102592571150095) λa=>cl .shr 55 a (.int .u64 8) λb=>cl .add 55 a b λa=>cl .shr 55 a (.int .u64 16) λb=>cl .add 55 a b λa=>cl .shr 55 a (.int .u64 32) λb=>cl .add 55 a b λa=>ob (xH .i64 a) λa=>cl .and 3 a (I 127) λa=>r (some a) h
theorem awa{r:ay}:∀F h,au aaR C lf [] F h bb (aR r 2) ao=aR (Um C lf r) 0 F h:=by
 intro F h;kernel_rfl
def H2(C:ad)(lf:Nat)(aj:J)(h:U):ab:=Um C lf Ox (some aj) h
def abN:cx aw:=iX aaR H2 (λC lf aj h=>cZ (K:=(aR Ox 2)) (by kernel_rfl) (Eq.trans (awa _ h) (by kernel_rfl))) (by kernel_rfl)
end
theorem afa:∀n x,pop n x=((List.range n).filter λi=>x.testBit i).length
 |0,_=>rfl
 |n+1,x=>by
  rw[List.range_succ_eq_map,List.filter_cons];simp only[pop,afa n (x/2),List.filter_map,List.length_map]
  have e:(List.range n).filter ((λi=>x.testBit i)∘Nat.succ)=(List.range n).filter λi=>(x/2).testBit i:=by
   apply List.filter_congr;intro i _;simp[Nat.testBit_succ]
  cases ag:x.testBit 0 with
  |true=>
   have:x%2=1:=by simpa[Nat.testBit_zero] using ag
   simp only[if_true,List.length_cons,List.length_map,e];omega
  |false=>
   have:x%2=0:=by simp[Nat.testBit_zero] at ag;omega
   simp[e,this]
def oX(wd:Nat->Nat):Nat->Nat
 |0=>0
 |m+1=>oX wd m+pop 64 (wd m)
theorem azL(m:Nat):List.range (64*(m+1))=List.range (64*m)++(List.range 64).map (64*m+ ·):=by
 rw[Nat.mul_succ,List.range_add]
theorem ahG(wd:Nat->Nat):∀m,oX wd m=((List.range (64*m)).filter (bQ wd)).length
 |0=>rfl
 |m+1=>by
  rw[azL,List.filter_append,List.length_append,oX,ahG wd m,afa,List.filter_map,List.length_map];congr 2;apply List.filter_congr;intro i hi
  have:i<64:=List.mem_range.1 hi
  simp only[Function.comp,bQ];rw[show(64*m+i)/64=m by omega,show(64*m+i)%64=i by omega]
def iT(wd:Nat->Nat)(n:Nat):List Nat:=(List.range n).filter (bQ wd)
theorem aif(wd:Nat->Nat)(n:Nat):(iT wd n).length<=n:=by
 have:=List.length_filter_le (bQ wd) (List.range n)
 simpa[iT] using this
section
variable{lf m:Nat}{h:U}{k c5 n:Nat}{wd b:Nat->Nat}
theorem en.sum(S:en h k c5 n wd b):oX wd 64=(iT wd n).length:=by
 rw[ahG];have h2:=S.cA
 have e:List.range (64*64)=List.range n++(List.range (4096-n)).map (n+ ·):=by
  rw[show 64*64=n+(4096-n) by omega,List.range_add]
 rw[e,List.filter_append,List.length_append,iT]
 have:((List.range (4096-n)).map (n+ ·)).filter (bQ wd)=[]:=by
  rw[List.filter_eq_nil_iff];intro x ar;obtain⟨i,hi,rfl⟩:=List.mem_map.1 ar;have hi:i<4096-n:=List.mem_range.1 hi;unfold bQ;rw[S.out ((n+i)/64) ((n+i)%64) (by omega) (by omega) (by omega)];simp
 rw[this];rfl
theorem ahH(wd:Nat->Nat):∀a d,oX wd a<=oX wd (a+d)
 |a,0=>Nat.le_refl _
 |a,d+1=>Nat.le_trans (ahH wd a d) (Nat.le_add_right _ _)
def Gd(C:ad):Prop:=∀h (x:Nat),x<2 ^ 64->C (.fn 65) [.int .u64 (x:Int)] h=some (.ret (I (pop 64 x:Nat)),h)
theorem z6{P:Program}{t:TypeId}{a b:Nat}(h:a+b<2 ^ 64):bin P .add t (.int .u64 (a:Int)) (.int .u64 (b:Int))=some (.int .u64 ((a+b:Nat):Int)):=by
 rw[rH,wrap_u64 (by omega) (by omega)];rfl
theorem z8{P:Program}{t:TypeId}{a:Nat}(b p:Nat)(ag:b<64)(aC:2 ^ b=p):bin P .shr t (.int .u64 (a:Int)) (.int .u64 (b:Int))=some (.int .u64 ((a/p:Nat):Int)):=by
 rw[M8 ag,aC]
theorem Cs{P:Program}{t:TypeId}{a:Nat}(b:Nat)(b1:a<2 ^ 64)(ag:b<2 ^ 64):bin P .and t (.int .u64 (a:Int)) (.int .u64 (b:Int))=some (.int .u64 ((a&&& b:Nat):Int)):=M4 b1 ag
theorem akv{P:Program}{t:TypeId}{a:Nat}(b1:a<2 ^ 62):bin P .and t (I (a:Int)) (I 127)=some (I ((a%128:Nat):Int)):=by
 rw[xD .and (.inl rfl)];have h1:BitVec.ofInt 64 (a:Int)=BitVec.ofNat 64 a:=uY a;have h2:BitVec.ofInt 64 (127:Int)=BitVec.ofNat 64 127:=rfl
 have h3:(BitVec.ofNat 64 a&&& BitVec.ofNat 64 127).toNat=a%128:=by
  rw[BitVec.toNat_and,BitVec.toNat_ofNat,BitVec.toNat_ofNat,Nat.mod_eq_of_lt (by omega),Nat.mod_eq_of_lt (by omega)];exact Nat.and_two_pow_sub_one_eq_mod a 7
 show some (jX (IntKind.i64.wrap ((BitVec.ofInt 64 (a:Int)&&& BitVec.ofInt 64 (127:Int)).toNat:Int)) λr=>J.int .i64 r)=_;rw[fD,h1,h2,h3,wrap_i64 (by omega) (by omega)]
theorem arq{C:ad}{lf x:Nat}{h:U}(ar:x<2 ^ 64):H2 C lf (.int .u64 (x:Int)) h=some (.ret (I (pop 64 x:Nat)),h):=by
 obtain⟨bT,cm⟩:=arN x;rw[<- ag2 8 x,Re.1,Re.2.1,Re.2.2] at bT cm;have ak:x/2<2 ^ 64:=by omega
 have aD:x/2&&& 6148914691236517205<=6148914691236517205:=Nat.and_le_right;have a7:x&&& 6148914691236517205<=6148914691236517205:=Nat.and_le_right;have kr:s1 6148914691236517205 x=(x/2&&& 6148914691236517205)+(x&&& 6148914691236517205):=rfl;have qf:s1 6148914691236517205 x<2 ^ 64:=by omega
 generalize bf:s1 6148914691236517205 x=y at *;have b2:y/4&&& 3689348814741910323<=3689348814741910323:=Nat.and_le_right;have hf:y&&& 3689348814741910323<=3689348814741910323:=Nat.and_le_right;have qB:s2 3689348814741910323 y=(y/4&&& 3689348814741910323)+(y&&& 3689348814741910323):=rfl;have c0:s2 3689348814741910323 y<=7378697629483820646:=by omega
 generalize a1:s2 3689348814741910323 y=z at *;have adq:er 1085102592571150095 z=(z/16+z)&&& 1085102592571150095:=rfl;generalize hw:er 1085102592571150095 z=w at *;have adr:fo w=w+w/256:=rfl;have ads:oT (fo w)=fo w+fo w/65536:=rfl;have adt:tR (oT (fo w))=oT (fo w)+oT (fo w)/4294967296:=rfl;have d4:fo w<2 ^ 61:=by omega
 generalize aFf:fo w=ia at *;have d5:oT ia<2 ^ 61+2 ^ 50:=by omega
 generalize aFg:oT ia=u7 at *;have d6:tR u7<2 ^ 62:=by omega
 generalize aFh:tR u7=W8 at *;have az:=z8 (P:=aw) (t:=55) (a:=x) 1 2 (by omega) rfl;have aA:=Cs (P:=aw) (t:=55) (a:=x/2) 6148914691236517205 ak (by omega);have cj:=Cs (P:=aw) (t:=55) (a:=x) 6148914691236517205 ar (by omega);have e9:=z6 (P:=aw) (t:=55) (a:=x/2&&& 6148914691236517205) (b:=x&&& 6148914691236517205) (by omega);rw[<- kr] at e9;have iE:=z8 (P:=aw) (t:=55) (a:=y) 2 4 (by omega) rfl;have Ny:=Cs (P:=aw) (t:=55) (a:=y/4) 3689348814741910323 (by omega) (by omega);have xK:=Cs (P:=aw) (t:=55) (a:=y) 3689348814741910323 qf (by omega);have vM:=z6 (P:=aw) (t:=55) (a:=y/4&&& 3689348814741910323) (b:=y&&& 3689348814741910323) (by omega);rw[<- qB] at vM;have pw:=z8 (P:=aw) (t:=55) (a:=z) 4 16 (by omega) rfl;have jV:=z6 (P:=aw) (t:=55) (a:=z/16) (b:=z) (by omega);have ZB:=Cs (P:=aw) (t:=55) (a:=z/16+z) 1085102592571150095 (by omega) (by omega);rw[<- adq] at ZB;have amb:=z8 (P:=aw) (t:=55) (a:=w) 8 256 (by omega) rfl;have ZC:=z6 (P:=aw) (t:=55) (a:=w) (b:=w/256) (by omega);rw[<- adr] at ZC;have amc:=z8 (P:=aw) (t:=55) (a:=ia) 16 65536 (by omega) rfl;have ZD:=z6 (P:=aw) (t:=55) (a:=ia) (b:=ia/65536) (by omega);rw[<- ads] at ZD;have amd:=z8 (P:=aw) (t:=55) (a:=u7) 32 4294967296 (by omega) rfl;have ZE:=z6 (P:=aw) (t:=55) (a:=u7) (b:=u7/4294967296) (by omega);rw[<- adt] at ZE;have ame:xH .i64 (.int .u64 (W8:Int))=some (I (W8:Int)):=by simp only[xH,fD];rw[wrap_i64 (by omega) (by omega)]
 have Hh:=akv (P:=aw) (t:=3) (a:=W8) d6;rw[bT] at Hh;clear bT cm ak aD a7 kr qf b2 hf qB c0 adq adr ads adt d4 d5 d6;unfold H2 Um Ox;simp only[ch,cd]
 erw [az];simp only[ch,cd]
 erw [aA];simp only[ch,cd]
 erw [cj];simp only[ch,cd]
 rw[e9];simp only[ch,cd]
 erw [iE];simp only[ch,cd]
 erw [Ny];simp only[ch,cd]
 erw [xK];simp only[ch,cd]
 rw[vM];simp only[ch,cd]
 erw [pw];simp only[ch,cd]
 rw[jV];simp only[ch,cd]
 erw [ZB];simp only[ch,cd]
 erw [amb];simp only[ch,cd]
 rw[ZC];simp only[ch,cd]
 erw [amc];simp only[ch,cd]
 rw[ZD];simp only[ch,cd]
 erw [amd];simp only[ch,cd]
 rw[ZE];simp only[ch,cd,ame,Hh]
def Mh(C:ad):Prop:=∀h k c5 n wd b,en h k c5 n wd b->C (.fn 19) [.ptr k 0] h=some (.ret (I ((n-(iT wd n).length:Nat):Int)),h)
theorem ad6{C:ad}{lf:Nat}(aq:Gd C)(S:en h k c5 n wd b)(av:ay):∀(d w:Nat),w+d=64->∀f,d<f->
 bq (A7 C lf av) f (some (.ptr k 0),some (I ((n-oX wd w:Nat):Int)),some (I (w:Int))) h=av (some (I ((n-(iT wd n).length:Nat):Int))) h
 |0,w,hw,f,an=>by
  obtain⟨f,rfl⟩:=dK f (by omega)
  have:w=64:=by omega
  subst this;rw[dr,S.sum];unfold A7 EF;have ba:decide (((64:Nat):Int)<64)=false:=by decide
  simp only[aE,ba]
 |d+1,w,hw,f,an=>by
  obtain⟨f,rfl⟩:=dK f (by omega);have h2:=S.cA;have I0:w<64:=by omega
  have b7:=lP (n:=64) (s:=1) (k:=k) (off:=1) (kd:= .i64) (i:=(w:Int)) (by omega) (by omega);rw[Int.toNat_natCast,Nat.mul_one] at b7;have ba:decide ((w:Int)<64)=true:=bu (by omega);have dC:IntKind.i64.wrap ((w:Int)+1)=((w+1:Nat):Int):=cL (by omega)
  have hle:oX wd (w+1)<=n:=by
   have h3:=ahH wd (w+1) d;rw[show w+1+d=64 by omega,S.sum] at h3;exact Nat.le_trans h3 (aif wd n)
  have al:oX wd (w+1)=oX wd w+pop 64 (wd w):=rfl
  have jv:IntKind.i64.wrap (((n-oX wd w:Nat):Int)-(pop 64 (wd w):Nat))=((n-oX wd (w+1):Nat):Int):=by
   rw[wrap_i64 (by omega) (by omega)];omega
  rw[dr];show EF C lf (λx0 x3 bW h=>bq (A7 C lf av) f (x0,x3,bW) h) av (some (.ptr k 0)) (some (I ((n-oX wd w:Nat):Int))) (some (I (w:Int))) h=_;unfold EF;simp only[aE,ba,b7,S.uw w I0,aq _ _ (S.iU w),jv,dC];exact ad6 aq S av d (w+1) (by omega) f (by omega)
theorem aqg{C:ad}(gu:65<=lf)(hm:sD C)(aq:Gd C)(S:en h k c5 n wd b):HF C lf (.ptr k 0) h=some (.ret (I ((n-(iT wd n).length:Nat):Int)),h):=by
 unfold HF SG SF SE SD SC SB SA Sz Sy;simp only[aE,hm _ _ _ _ _ _ S,Bool.not_true,S.ef]
 have:=ad6 (lf:=lf) aq S (λx3 h=>JQ C lf Ho x3 h) 64 0 rfl lf (by omega)
 have av:oX wd 0=0:=rfl;rw[av,Nat.sub_zero] at this;refine Eq.trans this ?_;unfold JQ Ho;simp only[ch,cd]
end
end Go.Proofs.YtomialandfplkaaDoor.Eva
namespace Go.Xe
def u5(l:List Nat):ByteArray:=GW (l.map λ(c:Nat)=>(c:Int))
theorem foldl_push:∀(lh:List Int) (r:ByteArray),(lh.foldl (λr n=>r.push (UInt8.ofNat n.toNat)) r).data.toList=r.data.toList++lh.map λn=>UInt8.ofNat n.toNat
 | [],r=>by simp
 |n::lh,r=>by
  rw[List.foldl_cons,foldl_push lh];simp[ByteArray.push]
theorem aic(l:List Nat):(u5 l).data.toList=l.map UInt8.ofNat:=by
 unfold u5 GW;rw[foldl_push];simp[Function.comp_def]
theorem aC9{l dD:List Nat}(h:∀c∈l,c<256)(h':∀c∈dD,c<256):u5 l=u5 dD↔l=dD:=by
 refine⟨λe=>?_,λe=>by rw[e]⟩;have aA:l.map UInt8.ofNat=dD.map UInt8.ofNat:=by rw[<- aic, <- aic,e]
 have:∀(l:List Nat),(∀c∈l,c<256)->(l.map UInt8.ofNat).map UInt8.toNat=l:=by
  intro l aL;rw[List.map_map]
  conv=>rhs;rw[<- List.map_id l]
  apply List.map_congr_left;intro c ae
  have:=aL c ae
  simp[Function.comp,UInt8.toNat_ofNat];omega
 rw[<- this l h, <- this dD h',aA]
theorem YR:∀l:List Nat,bytesOf (jk l)=some (l.map λ(c:Nat)=>(c:Int))
 | []=>rfl
 |c::l=>by
  have:=YR l
  unfold jk at this;simp[jk,bytesOf,this]
section
variable{P:Program}
theorem LQ{s d e:TypeId}{h:U}{x:J}{l:List Nat}(al:P.underlying s=some (.slice e))(aH:P.underlying d=some .string)(hu:hN P e=true)(B:Bytes h x l):rj P s d x h=some (.str (u5 l),h):=by
 rcases B.2 with⟨rfl|⟨k,rfl⟩,rfl⟩|⟨bR,ob,cap,lo,m,rfl,hm,ae⟩
 ·have h1:n6 P s d (.val (.slice none 0 0))=none:=by simp[n6,al,aH]
  unfold rj;simp only[h1,jJ,al,aH,hu,cond_true,ar];rfl
 ·have h1:n6 P s d (.kR k)=none:=by simp[n6,al,aH]
  unfold rj;simp only[h1,jJ,al,aH,hu,cond_true,ar];rfl
 ·have h1:n6 P s d (.aZ bR ob l.length cap lo)=none:=by simp[n6,al,aH]
  unfold U.mt at hm;cases aq:h.aV.get bR with
  |none=>simp[aq] at hm
  |some o=>
   unfold rj;simp only[h1,jJ,al,aH,hu,cond_true,U.so,aq,Bj aq,YS ae,YR,ar];rfl
theorem YI{t:TypeId}{a b:ByteArray}:bin P .eql t (.str a) (.str b)=some (.bool (decide (a=b))):=by
 rw[ur];show(some (J.bool (a.toList==b.toList)):Option J)=_
 have:(a.toList==b.toList)=decide (a=b):=by
  by_cases e:a=b
  ·subst e;simp
  ·have h:¬a.toList=b.toList:=λh=>e (by
    rw[ByteArray.toList_eq,ByteArray.toList_eq] at h;obtain⟨a⟩:=a;obtain⟨b⟩:=b;simp only at h
    rw[Array.ext' h])
   simp[e,h]
 rw[this]
end
section
open Go.ChangeShapes Go.WideShapes Go.ChangeAt Go.RowKit
section
variable{P:Program}{H:Type}{enc:TypeId×Value->H}{w:World}
theorem adB{t:TypeId}{k:IntKind}{v:Value}{d:DataW H}{ps:List MemPlace}{r:Reach}{qf:Nat}(aN:P.underlying t=some (.int k))(r0:Value.okWide P w r qf t v)(h:DataW.Trod enc P w 0 (λ_=>true) true t v d ps):
 ∃n,v= .int k n/\k.min<=n/\n<=k.max:=by
 obtain⟨n,rfl⟩:=okWide_int aN r0;obtain⟨fuel,an⟩:=h;obtain⟨aex,h1,_,hw⟩:=DataW.trod_int aN an;refine⟨n,rfl,?_⟩;have h1:[Value.int k n]=[Value.int k aex]:=h1;cases h1;simpa[Lit.wf] using hw
end
end
section
variable{P:Program}{t e:TypeId}{h:U}
theorem LP{z:Value}{y:J}(hu:P.underlying t=some (.slice e))(al:dP P e=some 1)(a1:hb P e=some z)(hj:(db z).cells.length=1)(bf:y.cells=[y])(an:y.flat=true):
 ib P t 1 [0] [y] h=some (.aZ h.next 0 1 (some 1) 0,h.new (dJ e [y])):=by
 obtain⟨c,ae⟩:∃c,(db z).cells=[c]:=by
  match hm:(db z).cells,hj with
  | [c],_=>exact⟨c,rfl⟩
 unfold ib oV;have h1:(Nat.ble (1*1) 65536&&Nat.ble 1 1&&Nat.beq [c].length 1)=true:=rfl
 have h2:pB (λi=>some (i*1,1)) (si [c] 1) ([0].zip [y])=some [y]:=by
  simp[si,pB,Fu,bf,an,show Nat.ble 1 1=true from rfl]
 simp only[hu,al,a1,ae,h1,cond_true,h2,newRow,force_eq];rfl
theorem ZJ{y:J}{e:TypeId}:kY (h.new (dJ e [y])).x0 1 (.aZ h.next 0 1 (some 1) 0)=some (1,[y]):=by
 have aq:(h.new (dJ e [y])).aV.get h.next=some (dJ e [y]):=by rw[Bo,if_pos rfl]
 have ae:(dJ e [y]).get 0=some y:=by rw[oR];rfl
 simp only[kY,U.so,aq,Nat.mul_one];show(match j4 (dJ e [y]) 0 1 with|some ys=>some (1,ys)|none=>none)=_;simp only[j4,ae]
theorem uo{x y:J}{b len:Nat}{ys:List J}(T:sv P t t e 1 b)(bf:y.cells=[y])(an:y.flat=true)(aq:dZ [y]=true)(S:hH h e 1 x len ys)
 (ae:len+1<=140737488355328)(td:(len+1)*b<=140737488355328):
 ∃bF h',ib P t 1 [0] [y] h=some (.aZ h.next 0 1 (some 1) 0,h.new (dJ e [y]))/\gk P .append #[t,t] [x,.aZ h.next 0 1 (some 1) 0] (h.new (dJ e [y]))=some (bF,h')/\hH h' e 1 bF (len+1) (ys++[y])/\h.next<=h'.next/\h'.aK=h.aK/\
  (∀j,j<h.next->rowOf x≠some j->cQ h h' j)/\(∀j,rowOf bF=some j->rowOf x=some j\/h.next<=j)/\(jT h->jT h'):=by
 obtain⟨z,a1,hj⟩:=T.a1;have ag:=LP (h:=h) T.hu T.al a1 hj bf an;have e8:hH (h.new (dJ e [y])) e 1 x len ys:=S.frame (by simp) (λk ai=>n4 h _ (Nat.ne_of_lt (S.j8 ai)));obtain⟨bF,h',h1,h2,h3,aW,bz,bB,dW⟩:=akb T e8 ZJ rfl aq ae td;refine⟨bF,h',ag,h1,h2,?_,aW,λj aa aI=>(bz j (by simp;omega) aI).trans (n4 h _ (Nat.ne_of_lt aa)),λj aa=>?_,λan=>dW (xV an _)⟩
 ·simp at h3;omega
 ·rcases bB j aa with dW|dW
  ·exact .inl dW
  ·right;simp at dW;omega
end
end Go.Xe
namespace Go.Proofs.YtomialandfplkaaDoor.Eva
open Go.Xe
section
variable{lf m:Nat}{h:U}{k c5 n:Nat}{wd b:Nat->Nat}
def ints(l:List Nat):List J:=l.map λ(i:Nat)=>J.int .i64 (i:Int)
theorem aih(wd:Nat->Nat)(i:Nat):iT wd (i+1)=iT wd i++(if bQ wd i then[i] else[]):=by
 unfold iT;rw[List.range_succ,List.filter_append];cases h:bQ wd i<;>simp[List.filter,h]
theorem sP:sv aw 33 33 3 1 8:=
 ⟨Tryd.underlying33,by kernel_rfl,⟨.int .i64 0,by kernel_rfl,rfl⟩,by kernel_rfl,⟨_,Tryd.underlying33,rfl⟩,Nat.le_refl 1⟩
structure eN (h0 h:U) (x:J) (l:List Nat):Prop where
 aZ:hH h 3 1 x l.length (ints l)
 new:∀j,rowOf x=some j->h0.next<=j
def MQ(C:ad):Prop:=∀h k c5 n wd b,en h k c5 n wd b->∃x h',C (.fn 20) [.ptr k 0] h=some (.ret x,h')/\eN h h' x (iT wd n)/\aG h h' (λ_=>False)
theorem W6{C:ad}{lf:Nat}(hi:xn C){h0:U}(S:en h0 k c5 n wd b)(av:ay):∀(d i:Nat),i+d=n->∀f,d<f->∀h x,eN h0 h x (iT wd i)->aG h0 h (λ_=>False)->
 ∃bF h',bq (A8 C lf av) f (some (.ptr k 0),some x,some (I (n:Int)),some (I (i:Int))) h=av (some bF) h'/\eN h0 h' bF (iT wd n)/\aG h0 h' (λ_=>False)
 |0,i,hw,f,an,h,x,A,F=>by
  obtain⟨f,rfl⟩:=dK f (by omega)
  have:i=n:=by omega
  subst this;refine⟨x,h,?_,A,F⟩;rw[dr];unfold A8 EG;have ba:decide ((i:Int)<(i:Int))=false:=by simp
  simp only[aE,ba]
 |d+1,i,hw,f,an,h,x,A,F=>by
  obtain⟨f,rfl⟩:=dK f (by omega);have h2:=S.cA;have jn:en h k c5 n wd b:=S.hK F (λe=>e) (λe=>e);have ba:decide ((i:Int)<(n:Int))=true:=bu (by omega);have dC:IntKind.i64.wrap ((i:Int)+1)=((i+1:Nat):Int):=cL (by omega)
  have hu:gH n wd (i:Int)=bQ wd i:=by
   have h3:(i:Int)<n:=by omega
   simp[gH,h3]
  have dH:=hi _ _ _ _ _ _ (i:Int) jn (by omega) (by omega);rw[hu] at dH;rw[dr];show ∃bF h',EG C lf (λx0 x3 x11 bW h=>bq (A8 C lf av) f (x0,x3,x11,bW) h) av (some (.ptr k 0)) (some x) (some (I (n:Int))) (some (I (i:Int))) h=av (some bF) h'/\_;unfold EG;cases aq:bQ wd i with
  |false=>
   rw[aq] at dH;simp only[aE,ba,dH,dC];have e:iT wd (i+1)=iT wd i:=by rw[aih,aq];simp
   exact W6 hi S av d (i+1) (by omega) f (by omega) h x (by rw[e];exact A) F
  |true=>
   rw[aq] at dH;have e:iT wd (i+1)=iT wd i++[i]:=by rw[aih,aq];rfl
   have aL:=aif wd i;obtain⟨bF,h',ak,aD,a7,cw,dB,dU,gg,ie⟩:=uo (y:=I (i:Int)) sP rfl rfl rfl A.aZ (by omega) (by omega);simp only[aE,ba,dH,dC,ak,aD];refine W6 hi S av d (i+1) (by omega) f (by omega) h' bF ⟨?_,λj aa=>?_⟩ ⟨dB.trans F.aK,Nat.le_trans F.next cw,λj aa _=>(dU j (Nat.lt_of_lt_of_le aa F.next) (λaI=>absurd (A.new j aI) (by omega))).trans (F.same j aa (λe=>e)),λan=>ie (F.dA an)⟩
   ·rw[e]
    have:ints (iT wd i++[i])=ints (iT wd i)++[I (i:Int)]:=by simp[ints]
    rw[this,List.length_append];exact a7
   ·rcases gg j aa with aI|aI
    ·exact A.new j aI
    ·exact Nat.le_trans F.next aI
theorem aDj{C:ad}(gu:4097<=lf)(hm:sD C)(hi:xn C)(S:en h k c5 n wd b):∃x h',HG C lf (.ptr k 0) h=some (.ret x,h')/\eN h h' x (iT wd n)/\aG h h' (λ_=>False):=by
 have h2:=S.cA;obtain⟨bF,h',cb,cV,lQ⟩:=W6 (lf:=lf) hi S (λx3 h=>JR C lf Hp x3 h) n 0 (by omega) lf (by omega) h (.val (.slice none 0 0)) ⟨hH.nil _ _ _,λj aa=>by cases aa⟩ (aG.refl h _);refine⟨bF,h',?_,cV,lQ⟩;unfold HG SP SO SN SM SL SK SJ SI SH;simp only[aE,hm _ _ _ _ _ _ S,Bool.not_true,S.ef];refine Eq.trans cb ?_;unfold JR Hp;simp only[ch,cd]
theorem ad7{h0 h:U}{x:J}{l:List Nat}(A:eN h0 h x l):eE aw 33 x=some (I (l.length:Int)):=by
 rcases A.aZ.2 with⟨rfl,h1⟩|⟨k,rfl,_⟩
 ·rw[h1];simp[eE,Tryd.underlying33,fD]
 ·simp[eE,Tryd.underlying33]
end
end Go.Proofs.YtomialandfplkaaDoor.Eva
namespace Go.Xe
section
open Go.ChangeShapes Go.WideShapes Go.ChangeAt Go.RowKit
section
variable{P:Program}
theorem ahp{t e s bR ob len lo q:Nat}{cap:Option Nat}{kd:IntKind}(hu:P.underlying t=some (.slice e))(al:dP P e=some s)(aI:mu (.aZ bR ob len cap lo))(a0:q<=len):
 ∃sS iP,fX P t (.aZ bR ob len cap lo) none (some (.int kd (q:Int)))=some (.aZ bR ob q sS iP)/\mu (.aZ bR ob q sS iP):=by
 have h0:hX (.int kd (q:Int))=some q:=rfl;unfold fX;cases cap with
 |none=>
  have h1:sliceB len len none (some (.int kd (q:Int)))=some (0,q):=by
   simp only[sliceB,h0]
   have:(Nat.ble q len&&Nat.ble 0 q)=true:=by simp[Nat.ble_eq_true_of_le a0,Nat.ble_eq_true_of_le (Nat.zero_le q)]
   simp only[this,cond_true]
  simp only[hu,al,h1,p3,force_eq,Nat.ble_eq_true_of_le a0,cond_true,Nat.sub_zero,Nat.add_zero,Nat.zero_mul];cases ag:Nat.blt 0 len with
  |true=>exact⟨none,lo,by simp only[cond_true],trivial⟩
  |false=>exact⟨none,lo,by simp only[cond_false,show Nat.beq 0 0=true from rfl,cond_true],trivial⟩
 |some c=>
  have aI:len<=c:=aI
  have h1:sliceB len c none (some (.int kd (q:Int)))=some (0,q):=by
   simp only[sliceB,h0]
   have:(Nat.ble q c&&Nat.ble 0 q)=true:=by simp[Nat.ble_eq_true_of_le (Nat.le_trans a0 aI),Nat.ble_eq_true_of_le (Nat.zero_le q)]
   simp only[this,cond_true]
  simp only[hu,al,h1,p3,force_eq,Nat.sub_zero,Nat.add_zero,Nat.zero_mul];refine⟨some c,0,?_,Nat.le_trans a0 aI⟩;cases ag:Nat.beq c 0 with
  |true=>simp only[cond_true]
  |false=>simp only[cond_false]
theorem akT{t e s q:Nat}{kd:IntKind}{h:U}{x:J}{l:List Nat}(hu:P.underlying t=some (.slice e))(al:dP P e=some s)(B:Bytes h x l)(aI:mu x)(a0:q<=l.length):
 ∃bF,fX P t x none (some (.int kd (q:Int)))=some bF/\Bytes h bF (l.take q)/\mu bF:=by
 rcases B.2 with⟨rfl|⟨k,rfl⟩,rfl⟩|⟨bR,ob,cap,lo,m,rfl,hm,ae⟩
 ·have a0:q=0:=by simpa using a0
  subst a0;refine⟨.val (.slice none 0 0),?_,by simpa using B,trivial⟩;have h0:sliceB 0 0 none (some (.int kd ((0:Nat):Int)))=some (0,0):=rfl;unfold fX;simp only[hu,al,show(Nat.beq 0 0&&Nat.beq 0 0)=true from rfl,cond_true,h0]
 ·have a0:q=0:=by simpa using a0
  subst a0;refine⟨.kR k,?_,by simpa using B,trivial⟩;have h0:sliceB 0 0 none (some (.int kd ((0:Nat):Int)))=some (0,0):=rfl;unfold fX;simp only[hu,al,h0]
 ·obtain⟨sS,iP,h1,h2⟩:=ahp (kd:=kd) hu al aI a0;have aL:(l.take q).length=q:=by simp;omega
  refine⟨_,h1,⟨λc ae=>B.1 c (List.mem_of_mem_take ae),.inr ⟨bR,ob,sS,iP,m,by rw[aL],hm,λj aa=>?_⟩⟩,h2⟩;rw[ae j (by omega)]
  have:j<l.length:=by omega
  simp[List.getD,this,show j<q by omega]
end
theorem acJ{g:Nat}{k:IntKind}{zs:List Int}{h:U}(aN:mc g k zs h=true):g<h.aK/\(∃m,h.mt g=some m)/\∀i,i<zs.length->h.cell g i=some (.int k (zs.getD i 0)):=by
 unfold mc at aN;simp only[Bool.and_eq_true] at aN;obtain⟨bd,aN⟩:=aN;have bd:g<h.aK:=by rw[Nat.blt_eq] at bd;exact bd
 split at aN<;>try(cases aN;done)
 rename_i o aq;split at aN<;>try(cases aN;done)
 split at aN<;>try(cases aN;done)
 rename_i ys ft;have QB:=NI aN;subst QB;refine⟨bd,⟨o.mt,by unfold U.mt;rw[aq]⟩,λi hi=>?_⟩
 have:=Q9 ft i (by simpa using hi)
 rw[Nat.zero_add] at this;unfold U.cell;rw[aq];simp only[this];simp[List.getD,hi]
theorem an5{g:Nat}{k:IntKind}{zs:List Int}{h h':U}(aO:h'.aK=h.aK)(al:cQ h h' g):mc g k zs h'=mc g k zs h:=by
 unfold mc;rw[aO,al]
theorem Qv{w:World}{k:Nat}{m:pb}(h:(ht w).mt k=some m):k<(ht w).next:=by
 apply Nat.lt_of_not_le;intro hle;unfold U.mt at h;rw[IZ w hle] at h;cases h
end
end Go.Xe
namespace Go.Proofs.YtomialandfplkaaDoor.Eva
open Go.Xe
noncomputable section
variable{C:ad}{lf:Nat}{bb a5 eB fl jM kK qJ qK qL qM qN qO qG qH qI:hc}{ao:kU}
noncomputable def aas:ca aw:=⟨24,Tryd.f24,λr=>bif Nat.beq r 1 then .news [0,2,1,3,4,5] [1,3] [] else .text,Tryd.func24,by kernel_rfl,by kernel_rfl,by kernel_rfl,by kernel_rfl⟩
noncomputable def N6(x2:O)(h:U):ab:=
 ob x2 λa=>ob (fu 2 a h) λa=>some (.ret a,h)
noncomputable def SS(C:ad)(lf:Nat)(r:ay)(x0:O)(h:U):ab:=
 b2 (l1 aw 44 h) λa k=>Bq [1,3] 6 k λb k=>ob x0 λc=>ob x0 λd=>eX (kt b c&&kt b c) (b2 (ss (nq aw 41 c c) b 1 k) λc k=>eX (kt b d&&kt b d) (b2 (ss (nq aw 42 d d) b 3 k) λb k=>ob (hZ aw 44 [0,1] [c,b]) λb=>ob (st 2 a b k) (r (some a))))
theorem atM{r:ay}:∀F h,au aas C lf [] F h bb (aR r 2) ao=aR (SS C lf r) 0 F h:=by
 intro F h;kernel_rfl
def HH(C:ad)(lf:Nat)(aj:J)(h:U):ab:=SS C lf N6 (some aj) h
def abn:cx aw:=iX aas HH (λC lf aj h=>cZ (K:=(aR N6 2)) (by kernel_rfl) (Eq.trans (atM _ h) (by kernel_rfl))) (by kernel_rfl)
def aat:ca aw:=dn 29 Tryd.f29 Tryd.func29 (by kernel_rfl)
noncomputable def N7(x2:O)(h:U):ab:=
 ob x2 λa=>some (.ret a,h)
def SU(C:ad)(lf:Nat)(r:ay)(x0:O)(h:U):ab:=
 aS C 63 x0 h λa k=>gj a (r (bG 0) k) (dE 0 x0 k λa=>r (some a) k)
theorem atN{r:ay}:∀F h,au aat C lf [] F h bb (aR r 2) ao=aR (SU C lf r) 0 F h:=by
 intro F h;kernel_rfl
def HI(C:ad)(lf:Nat)(aj:J)(h:U):ab:=SU C lf N7 (some aj) h
def abo:cx aw:=iX aat HI (λC lf aj h=>cZ (K:=(aR N7 2)) (by kernel_rfl) (Eq.trans (atN _ h) (by kernel_rfl))) (by kernel_rfl)
def qo:ca aw:=dn 30 Tryd.f30 Tryd.func30 (by kernel_rfl)
noncomputable def Hq(x2:O)(h:U):ab:=
 ob x2 λa=>some (.ret a,h)
noncomputable def JS(C:ad)(lf:Nat)(r:ay)(x3:O)(h:U):ab:=
 ob x3 λa=>r (some a) h
theorem atW{r:ay}:∀F h,au qo C lf [1,1,1] F h bb (aR r 2) ao=aR (JS C lf r) 3 F h:=by
 intro F h;kernel_rfl
def EH(C:ad)(lf:Nat)(n:bt)(av:ay)(x3 x9 aX x11:O)(h:U):ab:=
 mr .lss 3 x11 aX (ob x9 λa=>tH 1 a x11 h λa=>gj a (cC .add 3 x3 (I 1) λa=>cC .add 3 x11 (I 1) λb=>n (some a) x9 aX (some b) h) (cC .add 3 x11 (I 1) λa=>n x3 x9 aX (some a) h)) (av x3 h)
theorem atO{n:bt}{av:ay}:∀F h,au qo C lf [1,1,0,1,0,0] F h (bp n 3 9 10 11) a5 (bM 0 (aR av 3) ao)=bp (EH C lf n av) 3 9 10 11 F h:=by
 intro F h;kernel_rfl
def A9(C:ad)(lf:Nat)(av:ay)(k:O×O×O×O->U->ab)(s:O×O×O×O)(h:U):ab:=
 EH C lf (λa b c d=>k (a,b,c,d)) av s.1 s.2.1 s.2.2.1 s.2.2.2 h
def SV(C:ad)(lf:Nat)(n:bt)(x0 x3:O)(h:U):ab:=
 dE 0 x0 h λa=>kM 41 a λb=>n x3 (some a) (some b) (bG 0) h
theorem atP{n:bt}:∀F h,au qo C lf [1,1,0,0] F h (bp n 3 9 10 11) a5 ao=a8 (SV C lf n) 0 3 F h:=by
 intro F h;kernel_rfl
def SW(C:ad)(lf:Nat)(n:ay)(x0 x3:O)(h:U):ab:=
 SV C lf (λa b c d=>bq (A9 C lf n) lf (a,b,c,d)) x0 x3 h
theorem atQ{n:ay}:∀F h,au qo C lf [1,1,0] F h (aR n 3) a5 ao=a8 (SW C lf n) 0 3 F h:=bn (b:=cc qo [1,1,0,1]) (by kernel_rfl) (gm (id:=0) (a:=cc qo [1,1,0,1,0]) (by kernel_rfl) (hg (g:=λF=>(F 3,F 9,F 10,F 11)) (body:=A9 C lf n) (by kernel_rfl) (λk=>(atO (n:=λx3 x9 aX x11 h=>k (x3,x9,aX,x11) h))))) (atP (n:=λx3 x9 aX x11 h=>bq (A9 C lf n) lf (x3,x9,aX,x11) h))
def SX(C:ad)(lf:Nat)(r:ay)(x0 x3:O)(h:U):ab:=
 SW C lf (JS C lf r) x0 x3 h
theorem atS{r:ay}:∀F h,au qo C lf [1,1] F h bb (aR r 2) ao=a8 (SX C lf r) 0 3 F h:=bn (by kernel_rfl) atW atQ
def SY(C:ad)(lf:Nat)(n:aU)(x0:O)(h:U):ab:=
 n x0 (bG 0) h
theorem atT{n:aU}:∀F h,au qo C lf [1,0] F h (a8 n 0 3) a5 ao=aR (SY C lf n) 0 F h:=by
 intro F h;kernel_rfl
def SZ(C:ad)(lf:Nat)(r:ay)(x0:O)(h:U):ab:=
 SY C lf (SX C lf r) x0 h
theorem atU{r:ay}:∀F h,au qo C lf [1] F h bb (aR r 2) ao=aR (SZ C lf r) 0 F h:=bn (by kernel_rfl) atS atT
noncomputable def S0(C:ad)(lf:Nat)(n:ay)(x0:O)(h:U):ab:=
 n x0 h
theorem atV{n:ay}:∀F h,au qo C lf [0] F h (aR n 0) a5 ao=aR (S0 C lf n) 0 F h:=by
 intro F h;kernel_rfl
def S1(C:ad)(lf:Nat)(r:ay)(x0:O)(h:U):ab:=
 S0 C lf (SZ C lf r) x0 h
theorem atX{r:ay}:∀F h,au qo C lf [] F h bb (aR r 2) ao=aR (S1 C lf r) 0 F h:=bn (by kernel_rfl) atU atV
def HJ(C:ad)(lf:Nat)(aj:J)(h:U):ab:=S1 C lf Hq (some aj) h
def abp:cx aw:=iX qo HJ (λC lf aj h=>cZ (K:=(aR Hq 2)) (by kernel_rfl) (Eq.trans (atX _ h) (by kernel_rfl))) (by kernel_rfl)
def qp:ca aw:=dn 31 Tryd.f31 Tryd.func31 (by kernel_rfl)
noncomputable def xP(bC:O)(h:U):ab:=
 ob bC λa=>some (.ret a,h)
noncomputable def JT(C:ad)(lf:Nat)(r:ay)(h:U):ab:=
 r (some (.bool true)) h
theorem at0{r:ay}:∀F h,au qp C lf [1,1,1] F h bb (aR r 4) ao=ee (JT C lf r) F h:=by
 intro F h;kernel_rfl
def Bw(C:ad)(lf:Nat)(n:bt)(r:ay)(av:cu)(x0 x1 bW ey:O)(h:U):ab:=
 mr .lss 3 ey bW (ob ey λa=>ob x0 λb=>ob (dS 1 b a) λb=>ob (bZ b h) λb=>ob x1 λc=>ob (dS 1 c a) λa=>ob (bZ a h) λa=>eF .neq 3 b a (r (some (.bool false)) h) (cC .add 3 ey (I 1) λa=>n x0 x1 bW (some a) h)) (av h)
theorem atY{n:bt}{r:ay}{av:cu}:∀F h,au qp C lf [1,1,0,1,0,0] F h (bp n 0 1 12 13) (aR r 4) (bM 0 (ee av) ao)=bp (Bw C lf n r av) 0 1 12 13 F h:=by
 intro F h;kernel_rfl
def tx(C:ad)(lf:Nat)(r:ay)(av:cu)(k:O×O×O×O->U->ab)(s:O×O×O×O)(h:U):ab:=
 Bw C lf (λa b c d=>k (a,b,c,d)) r av s.1 s.2.1 s.2.2.1 s.2.2.2 h
def S2(C:ad)(lf:Nat)(n:bt)(x0 x1:O)(h:U):ab:=
 ni 33 x0 λa=>n x0 x1 (some a) (bG 0) h
theorem atZ{n:bt}:∀F h,au qp C lf [1,1,0,0] F h (bp n 0 1 12 13) a5 ao=a8 (S2 C lf n) 0 1 F h:=by
 intro F h;kernel_rfl
def S3(C:ad)(lf:Nat)(n:cu)(r:ay)(x0 x1:O)(h:U):ab:=
 S2 C lf (λa b c d=>bq (tx C lf r n) lf (a,b,c,d)) x0 x1 h
theorem at1{n:cu}{r:ay}:∀F h,au qp C lf [1,1,0] F h (ee n) (aR r 4) ao=a8 (S3 C lf n r) 0 1 F h:=bn (b:=cc qp [1,1,0,1]) (by kernel_rfl) (gm (id:=0) (a:=cc qp [1,1,0,1,0]) (by kernel_rfl) (hg (g:=λF=>(F 0,F 1,F 12,F 13)) (body:=tx C lf r n) (by kernel_rfl) (λk=>(atY (n:=λx0 x1 bW ey h=>k (x0,x1,bW,ey) h))))) (atZ (n:=λx0 x1 bW ey h=>bq (tx C lf r n) lf (x0,x1,bW,ey) h))
def S4(C:ad)(lf:Nat)(r:ay)(x0 x1:O)(h:U):ab:=
 S3 C lf (JT C lf r) r x0 x1 h
theorem at2{r:ay}:∀F h,au qp C lf [1,1] F h bb (aR r 4) ao=a8 (S4 C lf r) 0 1 F h:=bn (by kernel_rfl) at0 at1
def S5(C:ad)(lf:Nat)(n:aU)(r:ay)(x0 x1:O)(h:U):ab:=
 ni 33 x0 λa=>ni 33 x1 λb=>eF .neq 3 a b (r (some (.bool false)) h) (n x0 x1 h)
theorem at3{n:aU}{r:ay}:∀F h,au qp C lf [1,0] F h (a8 n 0 1) (aR r 4) ao=a8 (S5 C lf n r) 0 1 F h:=by
 intro F h;kernel_rfl
def S6(C:ad)(lf:Nat)(r:ay)(x0 x1:O)(h:U):ab:=
 S5 C lf (S4 C lf r) r x0 x1 h
theorem at4{r:ay}:∀F h,au qp C lf [1] F h bb (aR r 4) ao=a8 (S6 C lf r) 0 1 F h:=bn (by kernel_rfl) at2 at3
noncomputable def S7(C:ad)(lf:Nat)(n:aU)(x0 x1:O)(h:U):ab:=
 n x0 x1 h
theorem at5{n:aU}:∀F h,au qp C lf [0] F h (a8 n 0 1) a5 ao=a8 (S7 C lf n) 0 1 F h:=by
 intro F h;kernel_rfl
def S8(C:ad)(lf:Nat)(r:ay)(x0 x1:O)(h:U):ab:=
 S7 C lf (S6 C lf r) x0 x1 h
theorem at6{r:ay}:∀F h,au qp C lf [] F h bb (aR r 4) ao=a8 (S8 C lf r) 0 1 F h:=bn (by kernel_rfl) at4 at5
def HK(C:ad)(lf:Nat)(aj ak:J)(h:U):ab:=S8 C lf xP (some aj) (some ak) h
def abq:cx aw:=hd qp HK (λC lf aj ak h=>cZ (K:=(aR xP 4)) (by kernel_rfl) (Eq.trans (at6 _ h) (by kernel_rfl))) (by kernel_rfl)
def qq:ca aw:=dn 32 Tryd.f32 Tryd.func32 (by kernel_rfl)
noncomputable def Hr(x2:O)(h:U):ab:=
 ob x2 λa=>some (.ret a,h)
noncomputable def JU(C:ad)(lf:Nat)(r:ay)(x3:O)(h:U):ab:=
 ob x3 λa=>r (some a) h
theorem auf{r:ay}:∀F h,au qq C lf [1,1,1] F h bb (aR r 2) ao=aR (JU C lf r) 3 F h:=by
 intro F h;kernel_rfl
def EI(C:ad)(lf:Nat)(n:bt)(av:ay)(x3 x9 aX x11:O)(h:U):ab:=
 mr .lss 3 x11 aX (ob x11 λa=>ob x9 λb=>tH 1 b x11 h λb=>fY b (ob x3 λb=>b2 (ib aw 33 1 [0] [a] h) λa k=>b2 (gk aw .append #[33,33] [b,a] k) λa k=>cC .add 3 x11 (I 1) λb=>n (some a) x9 aX (some b) k) (cC .add 3 x11 (I 1) λa=>n x3 x9 aX (some a) h)) (av x3 h)
theorem at7{n:bt}{av:ay}:∀F h,au qq C lf [1,1,0,1,0,0] F h (bp n 3 9 10 11) a5 (bM 0 (aR av 3) ao)=bp (EI C lf n av) 3 9 10 11 F h:=by
 intro F h;kernel_rfl
def Ba(C:ad)(lf:Nat)(av:ay)(k:O×O×O×O->U->ab)(s:O×O×O×O)(h:U):ab:=
 EI C lf (λa b c d=>k (a,b,c,d)) av s.1 s.2.1 s.2.2.1 s.2.2.2 h
def S9(C:ad)(lf:Nat)(n:bt)(x0 x3:O)(h:U):ab:=
 dE 0 x0 h λa=>kM 41 a λb=>n x3 (some a) (some b) (bG 0) h
theorem aua{n:bt}:∀F h,au qq C lf [1,1,0,0] F h (bp n 3 9 10 11) a5 ao=a8 (S9 C lf n) 0 3 F h:=by
 intro F h;kernel_rfl
def Ta(C:ad)(lf:Nat)(n:ay)(x0 x3:O)(h:U):ab:=
 S9 C lf (λa b c d=>bq (Ba C lf n) lf (a,b,c,d)) x0 x3 h
theorem aub{n:ay}:∀F h,au qq C lf [1,1,0] F h (aR n 3) a5 ao=a8 (Ta C lf n) 0 3 F h:=bn (b:=cc qq [1,1,0,1]) (by kernel_rfl) (gm (id:=0) (a:=cc qq [1,1,0,1,0]) (by kernel_rfl) (hg (g:=λF=>(F 3,F 9,F 10,F 11)) (body:=Ba C lf n) (by kernel_rfl) (λk=>(at7 (n:=λx3 x9 aX x11 h=>k (x3,x9,aX,x11) h))))) (aua (n:=λx3 x9 aX x11 h=>bq (Ba C lf n) lf (x3,x9,aX,x11) h))
def Tb(C:ad)(lf:Nat)(r:ay)(x0 x3:O)(h:U):ab:=
 Ta C lf (JU C lf r) x0 x3 h
theorem auc{r:ay}:∀F h,au qq C lf [1,1] F h bb (aR r 2) ao=a8 (Tb C lf r) 0 3 F h:=bn (by kernel_rfl) auf aub
noncomputable def Tc(C:ad)(lf:Nat)(n:aU)(x0:O)(h:U):ab:=
 n x0 (some (.val (.slice none 0 0))) h
theorem aud{n:aU}:∀F h,au qq C lf [1,0] F h (a8 n 0 3) a5 ao=aR (Tc C lf n) 0 F h:=by
 intro F h;kernel_rfl
def Td(C:ad)(lf:Nat)(r:ay)(x0:O)(h:U):ab:=
 Tc C lf (Tb C lf r) x0 h
theorem aue{r:ay}:∀F h,au qq C lf [1] F h bb (aR r 2) ao=aR (Td C lf r) 0 F h:=bn (by kernel_rfl) auc aud
noncomputable def Te(C:ad)(lf:Nat)(n:ay)(x0:O)(h:U):ab:=
 n x0 h
theorem aug{n:ay}:∀F h,au qq C lf [0] F h (aR n 0) a5 ao=aR (Te C lf n) 0 F h:=by
 intro F h;kernel_rfl
def Tf(C:ad)(lf:Nat)(r:ay)(x0:O)(h:U):ab:=
 Te C lf (Td C lf r) x0 h
theorem auh{r:ay}:∀F h,au qq C lf [] F h bb (aR r 2) ao=aR (Tf C lf r) 0 F h:=bn (by kernel_rfl) aue aug
def HL(C:ad)(lf:Nat)(aj:J)(h:U):ab:=Tf C lf Hr (some aj) h
def abr:cx aw:=iX qq HL (λC lf aj h=>cZ (K:=(aR Hr 2)) (by kernel_rfl) (Eq.trans (auh _ h) (by kernel_rfl))) (by kernel_rfl)
noncomputable def s7:ca aw:=⟨66,Tryd.f66,λr=>bif Nat.beq r 6 then .ord [0,1,2,4,3,5,6,7] [(5,[3])] else .text,Tryd.func66,by kernel_rfl,by kernel_rfl,by kernel_rfl,by kernel_rfl⟩
noncomputable def vQ(x2 x3:O)(h:U):ab:=
 ob x2 λa=>ob x3 λb=>some (.ret (.bm [a,b]),h)
def ES(C:ad)(lf:Nat)(r:aU)(h:U):ab:=
 r (bG 0) (bG 28) h
theorem awc{r:aU}:∀F h,au s7 C lf [1,1] F h bb (a8 r 2 3) ao=ee (ES C lf r) F h:=by
 intro F h;kernel_rfl
def BD(C:ad)(lf:Nat)(n:bt)(r:aU)(av:cu)(x0 x9 aX x11:O)(h:U):ab:=
 mr .lss 3 x11 aX (ob x11 λa=>ob x9 λb=>tH 1 b x11 h λb=>gj b (dE 0 x0 h λb=>ob (dS 1 b a) λb=>ob (st 1 b (.bool true) h) λk=>fU 1 x0 λb=>ob (bZ b k) λc=>b2 (nq aw 24 (I 64) (I 64) k) λd l=>eX (fC [(3,cq (some b))] k l [3]) (ob (dS 1 c a) λb=>ob (st 1 b d l) (r (some a) (bG 0)))) (cC .add 3 x11 (I 1) λa=>n x0 x9 aX (some a) h)) (av h)
theorem awb{n:bt}{r:aU}{av:cu}:∀F h,au s7 C lf [1,0,1,0,0] F h (bp n 0 9 10 11) (a8 r 2 3) (bM 0 (ee av) ao)=bp (BD C lf n r av) 0 9 10 11 F h:=by
 intro F h;kernel_rfl
def r7(C:ad)(lf:Nat)(r:aU)(av:cu)(k:O×O×O×O->U->ab)(s:O×O×O×O)(h:U):ab:=
 BD C lf (λa b c d=>k (a,b,c,d)) r av s.1 s.2.1 s.2.2.1 s.2.2.2 h
def Un(C:ad)(lf:Nat)(n:bt)(x0:O)(h:U):ab:=
 dE 0 x0 h λa=>kM 41 a λb=>n x0 (some a) (some b) (bG 0) h
theorem awd{n:bt}:∀F h,au s7 C lf [1,0,0] F h (bp n 0 9 10 11) a5 ao=aR (Un C lf n) 0 F h:=by
 intro F h;kernel_rfl
def Uo(C:ad)(lf:Nat)(n:cu)(r:aU)(x0:O)(h:U):ab:=
 Un C lf (λa b c d=>bq (r7 C lf r n) lf (a,b,c,d)) x0 h
theorem awe{n:cu}{r:aU}:∀F h,au s7 C lf [1,0] F h (ee n) (a8 r 2 3) ao=aR (Uo C lf n r) 0 F h:=bn (b:=cc s7 [1,0,1]) (by kernel_rfl) (gm (id:=0) (a:=cc s7 [1,0,1,0]) (by kernel_rfl) (hg (g:=λF=>(F 0,F 9,F 10,F 11)) (body:=r7 C lf r n) (by kernel_rfl) (λk=>(awb (n:=λx0 x9 aX x11 h=>k (x0,x9,aX,x11) h))))) (awd (n:=λx0 x9 aX x11 h=>bq (r7 C lf r n) lf (x0,x9,aX,x11) h))
def Up(C:ad)(lf:Nat)(r:aU)(x0:O)(h:U):ab:=
 Uo C lf (ES C lf r) r x0 h
theorem awf{r:aU}:∀F h,au s7 C lf [1] F h bb (a8 r 2 3) ao=aR (Up C lf r) 0 F h:=bn (by kernel_rfl) awc awe
noncomputable def Uq(C:ad)(lf:Nat)(n:ay)(x0:O)(h:U):ab:=
 n x0 h
theorem awg{n:ay}:∀F h,au s7 C lf [0] F h (aR n 0) a5 ao=aR (Uq C lf n) 0 F h:=by
 intro F h;kernel_rfl
def Ur(C:ad)(lf:Nat)(r:aU)(x0:O)(h:U):ab:=
 Uq C lf (Up C lf r) x0 h
theorem awh{r:aU}:∀F h,au s7 C lf [] F h bb (a8 r 2 3) ao=aR (Ur C lf r) 0 F h:=bn (by kernel_rfl) awf awg
def Av(C:ad)(lf:Nat)(aj:J)(h:U):ab:=Ur C lf vQ (some aj) h
def abO:cx aw:=iX s7 Av (λC lf aj h=>cZ (K:=(a8 vQ 2 3)) (by kernel_rfl) (Eq.trans (awh _ h) (by kernel_rfl))) (by kernel_rfl)
def aaS:ca aw:=dn 67 Tryd.f67 Tryd.func67 (by kernel_rfl)
noncomputable def Oy(bC:O)(h:U):ab:=
 ob bC λa=>some (.ret a,h)
def Us(C:ad)(lf:Nat)(r:ay)(x0 x1:O)(h:U):ab:=
 a2 C 72 x0 x1 h λa k=>gj a (r (bG 22) k) (dE 0 x0 k λa=>lR 1 a x1 λa=>ob (st 1 a (.bool false) k) (r (bG 0)))
theorem awi{r:ay}:∀F h,au aaS C lf [] F h bb (aR r 4) ao=a8 (Us C lf r) 0 1 F h:=by
 intro F h;kernel_rfl
def C2(C:ad)(lf:Nat)(aj ak:J)(h:U):ab:=Us C lf Oy (some aj) (some ak) h
def abP:cx aw:=hd aaS C2 (λC lf aj ak h=>cZ (K:=(aR Oy 4)) (by kernel_rfl) (Eq.trans (awi _ h) (by kernel_rfl))) (by kernel_rfl)
def oB:ca aw:=dn 69 Tryd.f69 Tryd.func69 (by kernel_rfl)
noncomputable def Ht(x2 x3:O)(h:U):ab:=
 ob x2 λa=>ob x3 λb=>some (.ret (.bm [a,b]),h)
def Kn(C:ad)(lf:Nat)(r:aU)(x0 bC:O)(h:U):ab:=
 ob bC λa=>ob bC λb=>ni 24 x0 λc=>cl .add 3 c (I 1) λc=>ob (fX aw 24 b (bG 1) (some c)) λb=>r (some a) (some b) h
theorem awt{r:aU}:∀F h,au oB C lf [1,1,1,1] F h bb (a8 r 2 3) ao=a8 (Kn C lf r) 0 4 F h:=by
 intro F h;kernel_rfl
def ET(C:ad)(lf:Nat)(n:cY)(av:aU)(x0 bC w3 w4 tV:O)(h:U):ab:=
 mr .lss 3 tV w4 (ob tV λa=>ob w3 λb=>tH 1 b tV h λb=>ob bC λc=>cl .add 3 a (I 1) λa=>ob (dS 1 c a) λa=>ob (st 1 a b h) λk=>cC .add 3 tV (I 1) λa=>n x0 bC w3 w4 (some a) k) (av x0 bC h)
theorem awj{n:cY}{av:aU}:∀F h,au oB C lf [1,1,1,0,1,0,0] F h (dj n 0 4 18 19 20) a5 (bM 0 (a8 av 0 4) ao)=dj (ET C lf n av) 0 4 18 19 20 F h:=by
 intro F h;kernel_rfl
def Bb(C:ad)(lf:Nat)(av:aU)(k:O×O×O×O×O->U->ab)(s:O×O×O×O×O)(h:U):ab:=
 ET C lf (λa b c d g=>k (a,b,c,d,g)) av s.1 s.2.1 s.2.2.1 s.2.2.2.1 s.2.2.2.2 h
def Ut(C:ad)(lf:Nat)(n:cY)(x0 bC:O)(h:U):ab:=
 ob x0 λa=>kM 24 a λb=>n x0 bC (some a) (some b) (bG 0) h
theorem awk{n:cY}:∀F h,au oB C lf [1,1,1,0,0] F h (dj n 0 4 18 19 20) a5 ao=a8 (Ut C lf n) 0 4 F h:=by
 intro F h;kernel_rfl
def Uu(C:ad)(lf:Nat)(n:aU)(x0 bC:O)(h:U):ab:=
 Ut C lf (λa b c d g=>bq (Bb C lf n) lf (a,b,c,d,g)) x0 bC h
theorem awl{n:aU}:∀F h,au oB C lf [1,1,1,0] F h (a8 n 0 4) a5 ao=a8 (Uu C lf n) 0 4 F h:=bn (b:=cc oB [1,1,1,0,1]) (by kernel_rfl) (gm (id:=0) (a:=cc oB [1,1,1,0,1,0]) (by kernel_rfl) (hg (g:=λF=>(F 0,F 4,F 18,F 19,F 20)) (body:=Bb C lf n) (by kernel_rfl) (λk=>(awj (n:=λx0 bC w3 w4 tV h=>k (x0,bC,w3,w4,tV) h))))) (awk (n:=λx0 bC w3 w4 tV h=>bq (Bb C lf n) lf (x0,bC,w3,w4,tV) h))
def Uv(C:ad)(lf:Nat)(r:aU)(x0 bC:O)(h:U):ab:=
 Uu C lf (Kn C lf r) x0 bC h
theorem awm{r:aU}:∀F h,au oB C lf [1,1,1] F h bb (a8 r 2 3) ao=a8 (Uv C lf r) 0 4 F h:=bn (by kernel_rfl) awt awl
def Uw(C:ad)(lf:Nat)(n:aU)(x0 bC:O)(h:U):ab:=
 ob bC λa=>ob bC λb=>ni 24 x0 λc=>cl .add 3 c (I 1) λc=>ob (dS 1 a (I 0)) λa=>ob (st 1 a (.int .u8 165) h) λk=>ob (dS 1 b c) λa=>ob (st 1 a (.int .u8 90) k) (n x0 bC)
theorem awn{n:aU}:∀F h,au oB C lf [1,1,0] F h (a8 n 0 4) a5 ao=a8 (Uw C lf n) 0 4 F h:=by
 intro F h;kernel_rfl
def Ux(C:ad)(lf:Nat)(r:aU)(x0 bC:O)(h:U):ab:=
 Uw C lf (Uv C lf r) x0 bC h
theorem awo{r:aU}:∀F h,au oB C lf [1,1] F h bb (a8 r 2 3) ao=a8 (Ux C lf r) 0 4 F h:=bn (by kernel_rfl) awm awn
def Uy(C:ad)(lf:Nat)(n:aU)(x0:O)(h:U):ab:=
 ni 24 x0 λa=>cl .add 3 a (I 2) λa=>b2 (nq aw 24 a a h) λa=>n x0 (some a)
theorem awp{n:aU}:∀F h,au oB C lf [1,0] F h (a8 n 0 4) a5 ao=aR (Uy C lf n) 0 F h:=by
 intro F h;kernel_rfl
def Uz(C:ad)(lf:Nat)(r:aU)(x0:O)(h:U):ab:=
 Uy C lf (Ux C lf r) x0 h
theorem awq{r:aU}:∀F h,au oB C lf [1] F h bb (a8 r 2 3) ao=aR (Uz C lf r) 0 F h:=bn (by kernel_rfl) awo awp
noncomputable def UA(C:ad)(lf:Nat)(n:ay)(x0:O)(h:U):ab:=
 n x0 h
theorem awr{n:ay}:∀F h,au oB C lf [0] F h (aR n 0) a5 ao=aR (UA C lf n) 0 F h:=by
 intro F h;kernel_rfl
def UB(C:ad)(lf:Nat)(r:aU)(x0:O)(h:U):ab:=
 UA C lf (Uz C lf r) x0 h
theorem aws{r:aU}:∀F h,au oB C lf [] F h bb (a8 r 2 3) ao=aR (UB C lf r) 0 F h:=bn (by kernel_rfl) awq awr
def H3(C:ad)(lf:Nat)(aj:J)(h:U):ab:=UB C lf Ht (some aj) h
def abQ:cx aw:=iX oB H3 (λC lf aj h=>cZ (K:=(a8 Ht 2 3)) (by kernel_rfl) (Eq.trans (aws _ h) (by kernel_rfl))) (by kernel_rfl)
def aaT:ca aw:=dn 71 Tryd.f71 Tryd.func71 (by kernel_rfl)
noncomputable def Oz(bC:O)(h:U):ab:=
 ob bC λa=>some (.ret a,h)
def UC(C:ad)(lf:Nat)(r:ay)(x0 x1:O)(h:U):ab:=
 ni 24 x0 λa=>ni 24 x1 λb=>cl .add 3 b (I 2) λb=>cl .eql 3 a b λa=>cR (cX true (some a) (ob x0 λa=>some (.ret a,h)) h) λb k=>cR (cX true (some a) (ob (dS 1 b (I 0)) λa=>some (.ret a,k)) k) λb k=>cR (cX true (some a) (ob (bZ b k) λa=>some (.ret a,k)) k) λb k=>cR (cX true (some a) (cl .eql 5 b (.int .u8 165) λa=>some (.ret a,k)) k) λb k=>hz a b λa=>cR (cX true (some a) (ob x0 λa=>some (.ret a,k)) k) λb k=>cR (cX true (some a) (ob x1 λa=>some (.ret a,k)) k) λc k=>cR (cX true (some a) (kM 24 c λa=>some (.ret a,k)) k) λc k=>cR (cX true (some a) (cl .add 3 c (I 1) λa=>some (.ret a,k)) k) λc k=>cR (cX true (some a) (ob (dS 1 b c) λa=>some (.ret a,k)) k) λb k=>cR (cX true (some a) (ob (bZ b k) λa=>some (.ret a,k)) k) λb k=>cR (cX true (some a) (cl .eql 5 b (.int .u8 90) λa=>some (.ret a,k)) k) λb k=>hz a b λa=>cR (cX true (some a) (ob x0 λa=>some (.ret a,k)) k) λb k=>cR (cX true (some a) (ob x1 λa=>some (.ret a,k)) k) λc k=>cR (cX true (some a) (kM 24 c λa=>some (.ret a,k)) k) λc k=>cR (cX true (some a) (cl .add 3 c (I 1) λa=>some (.ret a,k)) k) λc k=>cR (cX true (some a) (ob (fX aw 24 b (bG 1) (some c)) λa=>some (.ret a,k)) k) λb k=>cR (cX true (some a) (b2 (rj aw 24 9 b k) λa k=>some (.ret a,k)) k) λb k=>cR (cX true (some a) (ob x1 λa=>some (.ret a,k)) k) λc k=>cR (cX true (some a) (b2 (rj aw 24 9 c k) λa k=>some (.ret a,k)) k) λc k=>cR (cX true (some a) (cl .eql 9 b c λa=>some (.ret a,k)) k) λb k=>hz a b λa=>r (some a) k
theorem awu{r:ay}:∀F h,au aaT C lf [] F h bb (aR r 4) ao=a8 (UC C lf r) 0 1 F h:=by
 intro F h;kernel_rfl
def H4(C:ad)(lf:Nat)(aj ak:J)(h:U):ab:=UC C lf Oz (some aj) (some ak) h
def abR:cx aw:=hd aaT H4 (λC lf aj ak h=>cZ (K:=(aR Oz 4)) (by kernel_rfl) (Eq.trans (awu _ h) (by kernel_rfl))) (by kernel_rfl)
def aaU:ca aw:=dn 72 Tryd.f72 Tryd.func72 (by kernel_rfl)
noncomputable def OA(bC:O)(h:U):ab:=
 ob bC λa=>some (.ret a,h)
def UD(C:ad)(lf:Nat)(r:ay)(x0 x1:O)(h:U):ab:=
 cC .geq 3 x1 (I 0) λa=>b8 a x1 h λb k=>uD 0 a x0 k λc k=>b8 a (eE aw 41 c) k λc k=>b8 a (bin aw .lss 3 b c) k λb k=>hz a b λa=>uD 0 a x0 k λb k=>b8 a x1 k λc k=>b8 a (dS 1 b c) k λb k=>b8 a (bZ b k) k λb k=>hz a b λa=>r (some a) k
theorem awv{r:ay}:∀F h,au aaU C lf [] F h bb (aR r 4) ao=a8 (UD C lf r) 0 1 F h:=by
 intro F h;kernel_rfl
def H5(C:ad)(lf:Nat)(aj ak:J)(h:U):ab:=UD C lf OA (some aj) (some ak) h
def abS:cx aw:=hd aaU H5 (λC lf aj ak h=>cZ (K:=(aR OA 4)) (by kernel_rfl) (Eq.trans (awv _ h) (by kernel_rfl))) (by kernel_rfl)
end
structure xb (h:U) (x:J) (q:Nat) (b:Nat->Nat) (i:Nat):Prop where
 aZ:∃cap lo,x= .aZ q 0 64 cap lo
 ok:mu x
 w:h.wr q 64
 cs:∀j,j<64->h.cell q j=some (.int .u8 (b (i*64+j):Int))
 lt:q<h.next
def pf(h:U)(x:J)(k:Nat)(b:Nat->Nat)(i:Nat)(o:Bool):Prop:=xb h x k b i\/(o=false/\(∃cap lo,x= .aZ k 0 0 cap lo)/\(∃N,h.wr k N)/\k<h.next)
structure rr (h:U) (x0 x1:J) (ro rb n:Nat) (on:Nat->Bool) (q:Nat->Option Nat) (b:Nat->Nat):Prop where
 cH:1<=n
 cA:n<=4096
 av:∃cap lo,x0= .aZ ro 0 n cap lo
 az:∃cap lo,x1= .aZ rb 0 n cap lo
 vb:h.wr ro n
 BY:h.wr rb n
 uv:∀i,i<n->h.cell ro i=some (.bool (on i))
 off:∀i,i<n->q i=none->on i=false/\h.cell rb i=some (.val (.slice none 0 0))
 has:∀i k,i<n->q i=some k->k≠ro/\k≠rb/\∃x,h.cell rb i=some x/\pf h x k b i (on i)
 inj:∀i j k,i<n->j<n->q i=some k->q j=some k->i=j
 ne:ro≠rb
 tB:ro<h.next
 tA:rb<h.next
 blt:∀j,b j<256
structure gB (h:U) (r ro rb n:Nat) (on:Nat->Bool) (q:Nat->Option Nat) (b:Nat->Nat):Prop where
 v:∃x0 x1,h.cell r 0=some x0/\h.cell r 1=some x1/\rr h x0 x1 ro rb n on q b
 wr:∃M,2<=M/\h.wr r M
 tF:r≠ro
 pR:r≠rb
 qT:∀i k,i<n->q i=some k->k≠r
 lt:r<h.next
def K0(ro rb n:Nat)(q:Nat->Option Nat)(j:Nat):Prop:=j=ro\/j=rb\/∃i,i<n/\q i=some j
def KZ(r ro rb n:Nat)(q:Nat->Option Nat)(j:Nat):Prop:=j=r\/K0 ro rb n q j
section
variable{lf m:Nat}{h:U}{r ro rb n:Nat}{on:Nat->Bool}{q:Nat->Option Nat}{b:Nat->Nat}{x0 x1:J}
theorem fI{h h':U}{k N:Nat}(w:h.wr k N)(e:cQ h h' k):h'.wr k N:=let ⟨m,a,c⟩:=w;⟨m,by rw[e.mt];exact a,c⟩
theorem xb.frame{x:J}{k i:Nat}(A:xb h x k b i){h':U}(aO:h.next<=h'.next)(e:cQ h h' k):xb h' x k b i:=
 ⟨A.aZ,A.ok,fI A.w e,λj aa=>by rw[e.cell];exact A.cs j aa,Nat.lt_of_lt_of_le A.lt aO⟩
theorem pf.lt{x:J}{k i:Nat}{o:Bool}(A:pf h x k b i o):k<h.next:=by
 rcases A with A|⟨_,_,_,A⟩
 ·exact A.lt
 ·exact A
theorem pf.row{x:J}{k i:Nat}{o:Bool}(A:pf h x k b i o):rowOf x=some k:=by
 rcases A with A|⟨_,⟨cap,lo,rfl⟩,_,_⟩
 ·obtain⟨cap,lo,rfl⟩:=A.aZ;rfl
 ·rfl
theorem pf.jI{x:J}{k i:Nat}{o:Bool}(A:pf h x k b i o)(aq:o=true):xb h x k b i:=by
 rcases A with A|⟨e,_⟩
 ·exact A
 ·rw[aq] at e;cases e
theorem pf.frame{x:J}{k i:Nat}{o:Bool}(A:pf h x k b i o){h':U}(aO:h.next<=h'.next)(e:cQ h h' k):pf h' x k b i o:=by
 rcases A with A|⟨h1,h2,⟨N,h3⟩,aW⟩
 ·exact .inl (A.frame aO e)
 ·exact .inr ⟨h1,h2,⟨N,fI h3 e⟩,Nat.lt_of_lt_of_le aW aO⟩
theorem pf.off{x:J}{k i:Nat}{o o':Bool}(A:pf h x k b i o)(aq:o'=o\/o'=false):pf h x k b i o':=by
 rcases A with A|⟨h1,h2⟩
 ·exact .inl A
 ·refine .inr ⟨?_,h2⟩;rcases aq with e|e
  ·rw[e];exact h1
  ·exact e
theorem rr.frame(A:rr h x0 x1 ro rb n on q b){h':U}(aO:h.next<=h'.next)(al:∀j,K0 ro rb n q j->cQ h h' j):rr h' x0 x1 ro rb n on q b:=by
 have K7:=al ro (.inl rfl);have u0:=al rb (.inr (.inl rfl));refine⟨A.cH,A.cA,A.av,A.az,fI A.vb K7,fI A.BY u0,λi hi=>by rw[K7.cell];exact A.uv i hi,λi hi a0=>by rw[u0.cell];exact A.off i hi a0,λi k hi a0=>?_,A.inj,A.ne,Nat.lt_of_lt_of_le A.tB aO,Nat.lt_of_lt_of_le A.tA aO,A.blt⟩;obtain⟨h1,h2,x,h3,aW⟩:=A.has i k hi a0;exact⟨h1,h2,x,by rw[u0.cell];exact h3,aW.frame aO (al k (.inr (.inr ⟨i,hi,a0⟩)))⟩
theorem gB.frame(A:gB h r ro rb n on q b){h':U}(aO:h.next<=h'.next)(al:∀j,KZ r ro rb n q j->cQ h h' j):gB h' r ro rb n on q b:=by
 have u2:=al r (.inl rfl);obtain⟨x0,x1,c0,aS,V⟩:=A.v;exact⟨⟨x0,x1,by rw[u2.cell];exact c0,by rw[u2.cell];exact aS,V.frame aO λj aa=>al j (.inr aa)⟩,(let ⟨M,a,c⟩:=A.wr;⟨M,a,fI c u2⟩),A.tF,A.pR,A.qT,Nat.lt_of_lt_of_le A.lt aO⟩
theorem rr.j8(A:rr h x0 x1 ro rb n on q b){j:Nat}(aa:K0 ro rb n q j):j<h.next:=by
 rcases aa with rfl|rfl|⟨i,hi,a0⟩
 ·exact A.tB
 ·exact A.tA
 ·obtain⟨_,_,x,_,B⟩:=A.has i j hi a0;exact B.lt
theorem gB.j8(A:gB h r ro rb n on q b){j:Nat}(aa:KZ r ro rb n q j):j<h.next:=by
 obtain⟨x0,x1,_,_,V⟩:=A.v;rcases aa with rfl|aa
 ·exact A.lt
 ·exact V.j8 aa
theorem gB.hK(A:gB h r ro rb n on q b){h':U}{Q:Nat->Prop}(F:aG h h' Q)(al:∀j,KZ r ro rb n q j->¬Q j):gB h' r ro rb n on q b:=
 A.frame F.next λj aa=>F.same j (A.j8 aa) (al j aa)
def la(n:Nat)(on:Nat->Bool)(i:Int):Bool:=decide (0<=i)&&(decide (i<n)&&on i.toNat)
def Mt(C:ad):Prop:=∀h r ro rb n on q b i,gB h r ro rb n on q b->C (.fn 72) [.ptr r 0,I i] h=some (.ret (.bool (la n on i)),h)
theorem uS{t e k off len lo:Nat}{cap:Option Nat}(hu:(aw).underlying t=some (.slice e)):eE aw t (.aZ k off len cap lo)=some (I (len:Int)):=by simp[eE,hu]
theorem aAk{C:ad}(A:gB h r ro rb n on q b){i:Int}:H5 C lf (.ptr r 0) (I i) h=some (.ret (.bool (la n on i)),h):=by
 obtain⟨x0,x1,c0,aS,V⟩:=A.v;obtain⟨cap,lo,rfl⟩:=V.av;have aL:=uS (k:=ro) (off:=0) (len:=n) (cap:=cap) (lo:=lo) Tryd.underlying41;unfold H5 UD OA;by_cases h1:0<=i
 ·by_cases h2:i<n
  ·have b7:=gV (s:=1) (k:=ro) (off:=0) (len:=n) (lo:=lo) (cap:=cap) (kd:= .i64) (i:=i) h1 (by omega);have ae:=V.uv i.toNat (by omega);have e:la n on i=on i.toNat:=by simp[la,h1,h2]
   simp only[aE,h1,h2,decide_true,c0,aL,b7,ae,e]
  ·have e:la n on i=false:=by simp[la,h2]
   simp only[aE,h1,h2,decide_true,decide_false,c0,aL,e]
 ·have e:la n on i=false:=by simp[la,h1]
  simp only[aE,h1,decide_false,e]
end
section
variable{lf m:Nat}{h:U}{r ro rb n:Nat}{on:Nat->Bool}{q:Nat->Option Nat}{b:Nat->Nat}{x0 x1:J}
def eR(on:Nat->Bool)(n:Nat):List Nat:=(List.range n).filter on
theorem FC(on:Nat->Bool)(i:Nat):eR on (i+1)=eR on i++(if on i then[i] else[]):=by
 unfold eR;rw[List.range_succ,List.filter_append];cases h:on i<;>simp[List.filter,h]
theorem BU(on:Nat->Bool)(n:Nat):(eR on n).length<=n:=by
 have:=List.length_filter_le on (List.range n)
 simpa[eR] using this
def Gp(C:ad):Prop:=∀h r ro rb n on q b,gB h r ro rb n on q b->C (.fn 30) [.ptr r 0] h=some (.ret (I ((n-(eR on n).length:Nat):Int)),h)
theorem agR{C:ad}{lf lo:Nat}{cap:Option Nat}(V:rr h x0 x1 ro rb n on q b)(av:ay):∀(d i:Nat),i+d=n->∀f,d<f->
 bq (A9 C lf av) f (some (I ((i-(eR on i).length:Nat):Int)),some (.aZ ro 0 n cap lo),some (I (n:Int)),some (I (i:Int))) h=av (some (I ((n-(eR on n).length:Nat):Int))) h
 |0,i,hw,f,an=>by
  obtain⟨f,rfl⟩:=dK f (by omega)
  have:i=n:=by omega
  subst this;rw[dr];unfold A9 EH;have ba:decide ((i:Int)<(i:Int))=false:=by simp
  simp only[aE,ba]
 |d+1,i,hw,f,an=>by
  obtain⟨f,rfl⟩:=dK f (by omega);have h2:=V.cA;have ba:decide ((i:Int)<(n:Int))=true:=bu (by omega);have dC:IntKind.i64.wrap ((i:Int)+1)=((i+1:Nat):Int):=cL (by omega);have b7:=gV (s:=1) (k:=ro) (off:=0) (len:=n) (lo:=lo) (cap:=cap) (kd:= .i64) (i:=(i:Int)) (by omega) (by omega);rw[Int.toNat_natCast,Nat.mul_one,Nat.zero_add] at b7;have ae:=V.uv i (by omega);have hle:=BU on i;have bc:=agR (lf:=lf) (C:=C) (lo:=lo) (cap:=cap) V av d (i+1) (by omega) f (by omega);rw[dr];show EH C lf (λx3 x9 aX x11 h=>bq (A9 C lf av) f (x3,x9,aX,x11) h) av (some (I ((i-(eR on i).length:Nat):Int))) (some (.aZ ro 0 n cap lo)) (some (I (n:Int))) (some (I (i:Int))) h=_;unfold EH;cases aq:on i with
  |true=>
   have e:i+1-(eR on (i+1)).length=i-(eR on i).length:=by rw[FC,aq];simp
   rw[aq] at ae;rw[e] at bc;simp only[aE,ba,b7,ae,dC,Bool.not_true];exact bc
  |false=>
   have e:i+1-(eR on (i+1)).length=i-(eR on i).length+1:=by rw[FC,aq];simp;omega
   rw[aq] at ae;rw[e] at bc;have iK:IntKind.i64.wrap (((i-(eR on i).length:Nat):Int)+1)=((i-(eR on i).length+1:Nat):Int):=cL (by omega);simp only[aE,ba,b7,ae,dC,Bool.not_false,iK];exact bc
theorem aAl{C:ad}(gu:4097<=lf)(A:gB h r ro rb n on q b):HJ C lf (.ptr r 0) h=some (.ret (I ((n-(eR on n).length:Nat):Int)),h):=by
 obtain⟨x0,x1,c0,aS,V⟩:=A.v;obtain⟨cap,lo,rfl⟩:=V.av;have h2:=V.cA;have aL:=uS (k:=ro) (off:=0) (len:=n) (cap:=cap) (lo:=lo) Tryd.underlying41
 have:=agR (lf:=lf) (C:=C) (lo:=lo) (cap:=cap) V (λx3 h=>JS C lf Hq x3 h) n 0 (by omega) lf (by omega)
 unfold HJ S1 S0 SZ SY SX SW SV;simp only[aE,c0,aL];refine Eq.trans this ?_;unfold JS Hq;simp only[ch,cd]
def Mz(C:ad):Prop:=∀h r ro rb n on q b,gB h r ro rb n on q b->∃x h',C (.fn 32) [.ptr r 0] h=some (.ret x,h')/\eN h h' x (eR on n)/\aG h h' (λ_=>False)
theorem Wx{C:ad}{lf lo:Nat}{cap:Option Nat}{h0:U}(V:rr h0 x0 x1 ro rb n on q b)(av:ay):∀(d i:Nat),i+d=n->∀f,d<f->∀h x,eN h0 h x (eR on i)->aG h0 h (λ_=>False)->
 ∃bF h',bq (Ba C lf av) f (some x,some (.aZ ro 0 n cap lo),some (I (n:Int)),some (I (i:Int))) h=av (some bF) h'/\eN h0 h' bF (eR on n)/\aG h0 h' (λ_=>False)
 |0,i,hw,f,an,h,x,A,F=>by
  obtain⟨f,rfl⟩:=dK f (by omega)
  have:i=n:=by omega
  subst this;refine⟨x,h,?_,A,F⟩;rw[dr];unfold Ba EI;have ba:decide ((i:Int)<(i:Int))=false:=by simp
  simp only[aE,ba]
 |d+1,i,hw,f,an,h,x,A,F=>by
  obtain⟨f,rfl⟩:=dK f (by omega);have h2:=V.cA;have ba:decide ((i:Int)<(n:Int))=true:=bu (by omega);have dC:IntKind.i64.wrap ((i:Int)+1)=((i+1:Nat):Int):=cL (by omega);have b7:=gV (s:=1) (k:=ro) (off:=0) (len:=n) (lo:=lo) (cap:=cap) (kd:= .i64) (i:=(i:Int)) (by omega) (by omega);rw[Int.toNat_natCast,Nat.mul_one,Nat.zero_add] at b7;have ae:h.cell ro i=some (.bool (on i)):=by rw[(F.same ro V.tB (λe=>e)).cell];exact V.uv i (by omega)
  rw[dr];show ∃bF h',EI C lf (λx3 x9 aX x11 h=>bq (Ba C lf av) f (x3,x9,aX,x11) h) av (some x) (some (.aZ ro 0 n cap lo)) (some (I (n:Int))) (some (I (i:Int))) h=av (some bF) h'/\_;unfold EI;cases aq:on i with
  |false=>
   rw[aq] at ae;simp only[aE,ba,b7,ae,dC];have e:eR on (i+1)=eR on i:=by rw[FC,aq];simp
   exact Wx V av d (i+1) (by omega) f (by omega) h x (by rw[e];exact A) F
  |true=>
   rw[aq] at ae;have e:eR on (i+1)=eR on i++[i]:=by rw[FC,aq];rfl
   have aL:=BU on i;obtain⟨bF,h',ak,aD,a7,cw,dB,dU,gg,ie⟩:=uo (y:=I (i:Int)) sP rfl rfl rfl A.aZ (by omega) (by omega);simp only[aE,ba,b7,ae,dC,ak,aD];refine Wx V av d (i+1) (by omega) f (by omega) h' bF ⟨?_,λj aa=>?_⟩ ⟨dB.trans F.aK,Nat.le_trans F.next cw,λj aa _=>(dU j (Nat.lt_of_lt_of_le aa F.next) (λaI=>absurd (A.new j aI) (by omega))).trans (F.same j aa (λe=>e)),λan=>ie (F.dA an)⟩
   ·rw[e]
    have:ints (eR on i++[i])=ints (eR on i)++[I (i:Int)]:=by simp[ints]
    rw[this,List.length_append];exact a7
   ·rcases gg j aa with aI|aI
    ·exact A.new j aI
    ·exact Nat.le_trans F.next aI
theorem aA1{C:ad}(gu:4097<=lf)(A:gB h r ro rb n on q b):∃x h',HL C lf (.ptr r 0) h=some (.ret x,h')/\eN h h' x (eR on n)/\aG h h' (λ_=>False):=by
 obtain⟨x0,x1,c0,aS,V⟩:=A.v;obtain⟨cap,lo,rfl⟩:=V.av;have h2:=V.cA;have aL:=uS (k:=ro) (off:=0) (len:=n) (cap:=cap) (lo:=lo) Tryd.underlying41;obtain⟨bF,h',cb,cV,lQ⟩:=Wx (lf:=lf) (C:=C) (lo:=lo) (cap:=cap) V (λx3 h=>JU C lf Hr x3 h) n 0 (by omega) lf (by omega) h (.val (.slice none 0 0)) ⟨hH.nil _ _ _,λj aa=>by cases aa⟩ (aG.refl h _);refine⟨bF,h',?_,cV,lQ⟩;unfold HL Tf Te Td Tc Tb Ta S9;simp only[aE,c0,aL];refine Eq.trans cb ?_;unfold JU Hr;simp only[ch,cd]
def nx(h:U)(x:J)(l:List Nat):Prop:=l.length<=4096/\((x= .val (.slice none 0 0)/\l=[])\/∃k cap lo,x= .aZ k 0 l.length cap lo/\∀j,j<l.length->h.cell k j=some (I ((l.getD j 0:Nat):Int)))
theorem eN.tt{h0 h:U}{x:J}{l:List Nat}(A:eN h0 h x l)(aL:l.length<=4096):nx h x l:=by
 refine⟨aL,?_⟩;rcases A.aZ.2 with⟨h1,h2⟩|⟨k,h1,h2⟩
 ·exact .inl ⟨h1,List.eq_nil_of_length_eq_zero h2⟩
 ·refine .inr ⟨k,none,0,h1,λj aa=>?_⟩;rw[h2.cs j (by omega)];simp[ints,List.getD,aa]
theorem nx.frame{h h':U}{x:J}{l:List Nat}(A:nx h x l)(al:∀k,rowOf x=some k->cQ h h' k):nx h' x l:=by
 refine⟨A.1,?_⟩;rcases A.2 with h1|⟨k,cap,lo,rfl,h2⟩
 ·exact .inl h1
 ·exact .inr ⟨k,cap,lo,rfl,λj aa=>by rw[(al k rfl).cell];exact h2 j aa⟩
theorem nx.len{x:J}{l:List Nat}(A:nx h x l):eE aw 33 x=some (I (l.length:Int)):=by
 rcases A.2 with⟨rfl,rfl⟩|⟨k,cap,lo,rfl,_⟩
 ·simp[eE,Tryd.underlying33,fD]
 ·simp[eE,Tryd.underlying33]
theorem nx.at{x:J}{l:List Nat}(A:nx h x l){i:Nat}(hi:i<l.length):∃a,dS 1 x (I (i:Int))=some a/\bZ a h=some (I ((l.getD i 0:Nat):Int)):=by
 rcases A.2 with⟨rfl,rfl⟩|⟨k,cap,lo,rfl,h2⟩
 ·simp at hi
 ·have b7:=gV (s:=1) (k:=k) (off:=0) (len:=l.length) (lo:=lo) (cap:=cap) (kd:= .i64) (i:=(i:Int)) (by omega) (by omega);rw[Int.toNat_natCast,Nat.mul_one,Nat.zero_add] at b7;exact⟨_,b7,h2 i hi⟩
def zX(C:ad):Prop:=∀h x y l dD,nx h x l->nx h y dD->C (.fn 31) [x,y] h=some (.ret (.bool (decide (l=dD))),h)
theorem adC{C:ad}{lf:Nat}{x y:J}{l dD:List Nat}(A:nx h x l)(B:nx h y dD)(kJ:l.length=dD.length)(r:ay)(av:cu):∀(d i:Nat),i+d=l.length->(∀j,j<i->l.getD j 0=dD.getD j 0)->∀f,d<f->
 (l=dD->bq (tx C lf r av) f (some x,some y,some (I (l.length:Int)),some (I (i:Int))) h=av h)/\
 (l≠dD->bq (tx C lf r av) f (some x,some y,some (I (l.length:Int)),some (I (i:Int))) h=r (some (.bool false)) h)
 |0,i,hw,aa,f,an=>by
  obtain⟨f,rfl⟩:=dK f (by omega)
  have:i=l.length:=by omega
  subst this;have ba:decide ((l.length:Int)<(l.length:Int))=false:=by simp
  refine⟨λ_=>?_,λb4=>?_⟩
  ·rw[dr];unfold tx Bw;simp only[aE,ba]
  ·exfalso;apply b4
   apply List.ext_getElem kJ;intro j h1 h2
   have:=aa j h1
   simpa[List.getD,h1,h2] using this
 |d+1,i,hw,aa,f,an=>by
  obtain⟨f,rfl⟩:=dK f (by omega);have h2:=A.1;have ba:decide ((i:Int)<(l.length:Int))=true:=bu (by omega);have dC:IntKind.i64.wrap ((i:Int)+1)=((i+1:Nat):Int):=cL (by omega);obtain⟨a,ak,aD⟩:=A.at (i:=i) (by omega);obtain⟨c,bX,b2⟩:=B.at (i:=i) (by omega)
  have step:l.getD i 0=dD.getD i 0->bq (tx C lf r av) (f+1) (some x,some y,some (I (l.length:Int)),some (I (i:Int))) h=bq (tx C lf r av) f (some x,some y,some (I (l.length:Int)),some (I ((i+1:Nat):Int))) h:=λe=>by
   have b4:decide (((l.getD i 0:Nat):Int)≠((dD.getD i 0:Nat):Int))=false:=by rw[e];simp
   rw[dr];show Bw C lf (λx0 x1 bW ey h=>bq (tx C lf r av) f (x0,x1,bW,ey) h) r av (some x) (some y) (some (I (l.length:Int))) (some (I (i:Int))) h=_;unfold Bw;simp only[ch,cd,rI,ba,rh,ak,aD,bX,b2,Ct,b4,o6,rH,dC]
  by_cases e:l.getD i 0=dD.getD i 0
  ·obtain⟨i1,i2⟩:=adC (lf:=lf) (C:=C) A B kJ r av d (i+1) (by omega) (λj h1=>by
    by_cases aA:j=i
    ·rw[aA];exact e
    ·exact aa j (by omega)) f (by omega)
   exact⟨λh1=>(step e).trans (i1 h1),λh1=>(step e).trans (i2 h1)⟩
  ·refine⟨λh1=>absurd (by rw[h1]) e,λ_=>?_⟩;have b4:decide (((l.getD i 0:Nat):Int)≠((dD.getD i 0:Nat):Int))=true:=bu (by omega);rw[dr];unfold tx Bw;simp only[ch,cd,rI,ba,rh,ak,aD,bX,b2,Ct,b4]
theorem apJ{C:ad}{x y:J}{l dD:List Nat}(gu:4097<=lf)(A:nx h x l)(B:nx h y dD):HK C lf x y h=some (.ret (.bool (decide (l=dD))),h):=by
 have h2:=A.1;have az:=A.len;have aA:=B.len;unfold HK S8 S7 S6 S5;by_cases kJ:l.length=dD.length
 ·have b4:decide ((l.length:Int)≠(dD.length:Int))=false:=by rw[kJ];simp
  simp only[aE,az,aA,b4];unfold S4 S3 S2;simp only[aE,az];obtain⟨i1,i2⟩:=adC (lf:=lf) (C:=C) A B kJ xP (λh=>JT C lf xP h) l.length 0 (by omega) (λj aa=>by omega) lf (by omega);by_cases e:l=dD
  ·refine(i1 e).trans ?_;rw[bu e];unfold JT xP;simp only[ch,cd]
  ·refine(i2 e).trans ?_;rw[br e];unfold xP;simp only[ch,cd]
 ·have b4:decide ((l.length:Int)≠(dD.length:Int))=true:=bu (by omega);have e:l≠dD:=λe=>kJ (by rw[e])
  simp only[aE,az,aA,b4,br e];unfold xP;simp only[ch,cd]
end
end Go.Proofs.YtomialandfplkaaDoor.Eva
namespace Go.Xe
section
variable{P:Program}
theorem aqk(C:ad):ly C (qR C):=λc args h o h' e D=>by
 show(match C c args h with|some (o,h)=>some (o,h.b3 D)|none=>none)=_;rw[e]
theorem alb(h:U):clean (h.b3 [])=true:=rfl
theorem aAX{tab:ax (gf P)}{lf m k:Nat}{args:List J}{h h':U}{y:J}{o:bH}{st:LoopState}{ir:Jump}{ord:Nat->Hint}{me:FuncId}{N:Nat}{F:ax J}{ps:Array Tmp}{a c:Code}{b:Nat}
 (aq:h.aV.get k=some o)(al:o.sp= .loop st ir ord me N F ps a c b)(e:BN P (hB tab lf m).call ord me k N lf F.get ps a c args h=some (.ret y,h')):(hB tab lf (m+1)).call (.fw k) args h=some (.ret y,h'):=by
 show Fh P (hB tab lf m) lf k args h=_;unfold Fh;simp only[aq,al,QL]
 have:=aAs (callf:=qR (hB tab lf m).call) (jump:=fR P (qR (hB tab lf m).call) ord me (some k) N lf lf) (aqk _) (Ft:=F) (λt=>rfl) e []
 have av:h.x0=h.b3 []:=rfl;rw[av,this];unfold FA;simp only[alb,cond_true];rfl
end
section
variable{P:Program}{t u e sz b:Nat}{h:U}
theorem aha{h h':U}{k:Nat}(ai:k<h.next)(hm:∃m,h.mt k=some m)(e:cQ h h' k):Fl h h' k=true:=by
 obtain⟨m,hm⟩:=hm;have ag:Nat.blt k h.next=true:=by rw[Nat.blt_eq];exact ai
 unfold U.mt at hm;cases aq:h.aV.get k with
 |none=>simp[aq] at hm
 |some o=>
  have e:h'.aV.get k=h.aV.get k:=e;unfold Fl;simp only[ag,cond_true,aq,e,Nat.beq_refl]
theorem Nk{h h':U}{k i:Nat}{x:J}{r:ab}(ar:kg x=some k)(ai:k<h.next)(hm:∃m,h.mt k=some m)(e:cQ h h' k):eX (fC [(i,cq (some x))] h h' [i]) r=r:=by
 have h1:=aha ai hm e
 have h2:l7 [(i,cq (some x))] i=some k:=by
  simp[l7,cq,ar]
 simp only[fC,h2,h1,Bool.and_self,Cx]
end
def U.at(h:U)(k:Nat)(o:bH):U:=⟨h.aK,h.next,h.aV.put k o⟩
theorem vF(h:U)(k:Nat)(o:bH)(j:Nat):(h.at k o).aV.get j=if j=k then some o else h.aV.get j:=cE.kG _ _ _ _
theorem qe(h:U){k j:Nat}(o:bH)(e:j≠k):(h.at k o).aV.get j=h.aV.get j:=by rw[vF,if_neg e]
theorem Nh(h:U)(k:Nat)(o:bH)(i:Nat):(h.at k o).cell k i=o.get i:=by unfold U.cell;rw[vF,if_pos rfl]
theorem YX{h:U}{k j:Nat}(o:bH)(e:j≠k)(i:Nat):(h.at k o).cell j i=h.cell j i:=by unfold U.cell;rw[qe h o e]
theorem Xc{h:U}{k:Nat}{o:bH}(aI:o.ro=false):(h.at k o).wr k o.n:=⟨o.mt,by unfold U.mt;rw[vF,if_pos rfl],aI,rfl⟩
theorem Xd{h:U}{k j N:Nat}{o:bH}(w:h.wr j N)(e:j≠k):(h.at k o).wr j N:=by
 obtain⟨m,h1,h2,h3⟩:=w;exact⟨m,by unfold U.mt;rw[qe h o e];exact h1,h2,h3⟩
section
variable{P:Program}{h:U}
theorem Xs{t e s b base i:Nat}{z:Value}{k1 k2:IntKind}{l c:Nat}(hu:P.underlying t=some (.slice e))(al:dP P e=some s)(a1:hb P e=some z)(ag:n8 P e=some b)
 (h1:l<=c)(h2:c*b<=140737488355328)(h3:c<=140737488355328)(aW:(db z).cells.length=s)(bz:1<=s):
 ss (nq P t (.int k1 (l:Int)) (.int k2 (c:Int))) base i h=some (.aZ (base+i) 0 l (some c) 0,h.at (base+i) (iR e (c*s) (db z).cells)):=by
 unfold ss;rw[zF hu al a1 ag h1 h2 h3 aW bz];rfl
theorem aeM{rs:List Nat}{n:Nat}{k:Nat->U->ab}(an:jT h):Bq rs n h k=k h.next ⟨h.aK,h.next+n,h.aV⟩:=by
 have aH:∀rs:List Nat,Ad h h.next rs=true:=λrs=>by
  induction rs with
  |nil=>rfl
  |cons r rs bc=>simp only[Ad,an (h.next+r) (Nat.le_add_right _ _),bc,Bool.and_self]
 unfold Bq;simp only[force_eq,aH,Cx]
theorem aka{t u e sz b:Nat}{y:J}{n:Nat}{news:List J}(T:sv P t u e sz b)(he:kY h.x0 sz y=some (n,news))(gv:news.length=n*sz)(gw:dZ news=true)(aO:1<=n)
 (ae:n<=140737488355328)(td:n*b<=140737488355328):
 gk P .append #[t,u] [.val (.slice none 0 0),y] h=some (.aZ h.next 0 n none 0,h.new (yU e sz news)):=by
 rw[LN T he gv gw]
 have bX:Nat.beq n 0=false:=by
  cases ag:Nat.beq n 0 with
  |false=>rfl
  |true=>exact absurd (Nat.eq_of_beq_eq_true ag) (by omega)
 simp only[show(Nat.beq 0 0&&Nat.beq 0 0)=true from rfl,cond_true,bX,cond_false];exact MZ ae td
end
end Go.Xe
namespace Go.Proofs.YtomialandfplkaaDoor.Eva
open Go.Xe
section
variable{lf:Nat}{h:U}{T:ei}{n N:Nat}{wd b:Nat->Nat}{now:Int}{us:Nat->Bool}{nd:Nat->Nat->J}
theorem bx.hK(A:bx h T n N wd b now us nd){h':U}{S:Nat->Prop}(F:aG h h' S)(al:∀j,S j->j≠T.a9/\j≠T.bO/\j≠T.kd/\j≠T.aJ):bx h' T n N wd b now us nd:=
 A.frame F.next λj aa=>F.same j (by rcases aa with rfl|rfl|rfl|rfl;exact A.lt;exact A.st.wy;exact A.st.wv;exact A.lb) (λe=>by have:=al j e;rcases aa with rfl|rfl|rfl|rfl<;>simp at this)
def e4(us:Nat->Bool)(N:Nat):List Nat:=(eR us N).map (· +1)
theorem Lu(us:Nat->Bool)(i:Nat):e4 us (i+1)=e4 us i++(if us i then[i+1] else[]):=by
 unfold e4;rw[FC,List.map_append];cases us i<;>rfl
theorem BT(us:Nat->Bool)(N:Nat):(e4 us N).length<=N:=by
 unfold e4;rw[List.length_map];exact BU us N
theorem NA{C:ad}(c7:Nat->U->Prop)(uR:Nat)(A:∀i h,c7 i h->bx h T n N wd b now us nd)(aI:∀i h,i<N->us i=true->c7 i h->∃h',C (.fw uR) [I ((i+1:Nat):Int)] h=some (.ret (.bool true),h')/\c7 (i+1) h')
 (DS:∀i h,i<N->us i=false->c7 i h->c7 (i+1) h)(r av:cu):∀(d i:Nat),i+d=N->∀f,d<f->∀h,c7 i h->
 ∃h',bq (Be C lf r av) f (some (.ptr T.a9 0),some (.fw uR),some (I (N:Int)),some (I (i:Int))) h=av h'/\c7 N h'
 |0,i,hw,f,an,h,bV=>by
  obtain⟨f,rfl⟩:=dK f (by omega)
  have:i=N:=by omega
  subst this;refine⟨h,?_,bV⟩;rw[dr];unfold Be EY;have ba:decide ((i:Int)<(i:Int))=false:=by simp
  simp only[aE,ba]
 |d+1,i,hw,f,an,h,bV=>by
  obtain⟨f,rfl⟩:=dK f (by omega);have iy:=A i h bV;have jK:=iy.gN;have hi:i<N:=by omega
  have ba:decide ((i:Int)<(N:Int))=true:=bu (by omega);have dC:IntKind.i64.wrap ((i:Int)+1)=((i+1:Nat):Int):=cL (by omega);have b7:=gV (s:=308) (k:=T.aJ) (off:=0) (len:=N) (lo:=0) (cap:=some N) (kd:= .i64) (i:=(i:Int)) (by omega) (by omega);rw[Int.toNat_natCast,Nat.zero_add] at b7;have ae:=iy.ef i 0 hi (by omega);rw[Nat.add_zero,iy.lX i hi] at ae;rw[dr];show ∃h',EY C lf (λx0 x1 bW ey h=>bq (Be C lf r av) f (x0,x1,bW,ey) h) r av (some (.ptr T.a9 0)) (some (.fw uR)) (some (I (N:Int))) (some (I (i:Int))) h=av h'/\_;unfold EY;cases aq:us i with
  |false=>
   rw[aq] at ae;simp only[aE,ba,iy.aS,b7,Nat.add_zero,ae,dC];exact NA c7 uR A aI DS r av d (i+1) (by omega) f (by omega) h (DS i h hi aq bV)
  |true=>
   rw[aq] at ae;obtain⟨h1,az,qa⟩:=aI i h hi aq bV;simp only[aE,ba,iy.aS,b7,Nat.add_zero,ae,dC,fi,rG,az,Bool.not_true];exact NA c7 uR A aI DS r av d (i+1) (by omega) f (by omega) h1 qa
theorem amg{C:ad}(gu:4097<=lf)(aN:qb C)(c7:Nat->U->Prop)(uR:Nat)(A:∀i h,c7 i h->bx h T n N wd b now us nd)(aI:∀i h,i<N->us i=true->c7 i h->∃h',C (.fw uR) [I ((i+1:Nat):Int)] h=some (.ret (.bool true),h')/\c7 (i+1) h')
 (DS:∀i h,i<N->us i=false->c7 i h->c7 (i+1) h)(bV:c7 0 h):∃h',C4 C lf (.ptr T.a9 0) (.fw uR) h=some (.ret (.bm []),h')/\c7 N h':=by
 have iy:=A 0 h bV;have jK:=iy.gN
 have aL:eE aw 100 (.aZ T.aJ 0 N (some N) 0)=some (I (N:Int)):=by
  simp[eE,Tryd.underlying100]
 obtain⟨h',cb,cV⟩:=NA (lf:=lf) c7 uR A aI DS CL CL N 0 (by omega) lf (by omega) h bV;refine⟨h',?_,cV⟩;unfold C4 Vj Vi Vh Vg;simp only[aE,aN _ _ _ _ _ _ _ _ _ iy,Bool.not_true,iy.aS,aL];exact cb
noncomputable def aer(p bR:Nat):pg:= .loop .ready .none dm.ord 47 13 (ji [(3,some (.ptr p 0))]) #[7] (cc dm [1,1,0,1,0,0]) (cc dm [1,1,0,1,0,1]) bR
structure Cf (h:U) (bR eM p:Nat):Prop where
 ol:∃o,h.aV.get eM=some o/\o.sp=aer p bR
 ob:∃o,h.aV.get bR=some o/\o.sp= .jI false
theorem Cf.same{bR eM p:Nat}(A:Cf h bR eM p){h':U}(h1:cQ h h' bR)(h2:cQ h h' eM):Cf h' bR eM p:=
 ⟨let ⟨o,a,c⟩:=A.ol;⟨o,h2.trans a,c⟩,let ⟨o,a,c⟩:=A.ob;⟨o,h1.trans a,c⟩⟩
structure vz (h0 h:U) (bR eM p:Nat) (l:List Nat):Prop where
 F:aG h0 h (λ_=>False)
 L:Cf h bR eM p
 v:∃x,h.cell p 0=some x/\eN h0 h x l/\∀j,rowOf x=some j->j≠bR/\j≠eM/\j≠p
 w:h.wr p 1
 n3:h0.next<=bR
 nl:h0.next<=eM
 aeL:h0.next<=p
 Jd:bR<h.next
 hO:eM<h.next
 bq:p<h.next
 d1:bR≠eM
 d2:bR≠p
 d3:eM≠p
theorem ahd{h:U}{k:Nat}{o:bH}{st u3:LoopState}{p:Option Jump}{q:Jump}{ord:Nat->Hint}{me:FuncId}{M:Nat}{G:ax J}{ps:Array Tmp}{a c:Code}{nE:Nat}(aq:h.aV.get k=some o)(al:o.sp= .loop u3 q ord me M G ps a c nE):
 BP h k st p=some (h.at k {o with cn:=o.cn+1,sp:= .loop st (Em p q) ord me M G ps a c nE}):=by
 unfold BP;simp only[aq,Fp,al];rfl
theorem azY{h:U}{k:Nat}{o:bH}{K:U->ab}{q:Jump}{ord:Nat->Hint}{me:FuncId}{M:Nat}{G:ax J}{ps:Array Tmp}{a c:Code}{nE:Nat}(aq:h.aV.get k=some o)(al:o.sp= .loop .ready q ord me M G ps a c nE):
 tO h k K=K (h.at k {o with cn:=o.cn+1,sp:= .loop .busy q ord me M G ps a c nE}):=by
 unfold tO
 have:isReady o=true:=by unfold isReady;obtain⟨_,_,_,_,_,_,_,_,sp⟩:=o;simp only at al;subst al;rfl
 simp only[ch,aq,this,cond_true,ahd aq al,cd];rfl
theorem amm{h:U}{k:Nat}{o:bH}{st u3:LoopState}{p q:Jump}{ord:Nat->Hint}{me:FuncId}{M:Nat}{G:ax J}{ps:Array Tmp}{a c:Code}{nE:Nat}{r:Bool}(aq:h.aV.get k=some o)(al:o.sp= .loop u3 q ord me M G ps a c nE):
 lH h k st p r=some (.ret (.bool r),h.at k {o with cn:=o.cn+1,sp:= .loop st p ord me M G ps a c nE}):=by
 unfold lH;rw[ahd aq al];rfl
theorem Hy{h:U}{k:Nat}{o:bH}{S:Nat->Prop}(ai:S k)(aO:k<h.next):aG h (h.at k o) S:=
 ⟨rfl,Nat.le_refl _,λj _ al=>qe h o (λe=>al (e▸ai)),λan j aa=>by rw[vF,if_neg (by have:h.next<=j:=aa;omega)];exact an j aa⟩
theorem aAy{C:ad}{h0:U}{bR eM p:Nat}{l:List Nat}(A:vz h0 h bR eM p l)(aL:l.length<=4096)(v:Nat):
 ∃h',K1 C lf eM (some (.ptr p 0)) (I (v:Int)) h=some (.ret (.bool true),h')/\vz h0 h' bR eM p (l++[v]):=by
 obtain⟨o,aq,al⟩:=A.L.ol;have al:o.sp= .loop .ready .none dm.ord 47 13 (ji [(3,some (.ptr p 0))]) #[7] (cc dm [1,1,0,1,0,0]) (cc dm [1,1,0,1,0,1]) bR:=al;generalize apb:cc dm [1,1,0,1,0,0]=Cw at *;generalize apc:cc dm [1,1,0,1,0,1]=cS at *;obtain⟨x,ar,tb,wh⟩:=A.v;have aI:=azY (K:=λh=>EO C lf (λh=>lH h eM .ready .none true) (some (.ptr p 0)) (some (I (v:Int))) h) aq al;generalize mL:h.at eM {o with cn:=o.cn+1,sp:= .loop .busy .none dm.ord 47 13 (ji [(3,some (.ptr p 0))]) #[7] Cw cS bR}=g1 at *;have aM:aG h g1 (· =eM):=by rw[<- mL];exact Hy rfl A.hO
 have cH:g1.next=h.next:=by rw[<- mL];rfl
 have s1:∀j,j≠eM->cQ h g1 j:=λj aa=>by rw[<- mL];exact qe h _ aa
 have dN:g1.aV.get eM=some {o with cn:=o.cn+1,sp:= .loop .busy .none dm.ord 47 13 (ji [(3,some (.ptr p 0))]) #[7] Cw cS bR}:=by rw[<- mL,vF,if_pos rfl]
 have r2:g1.cell p 0=some x:=by rw[(s1 p (λe=>A.d3 e.symm)).cell];exact ar
 have anX:hH g1 3 1 x l.length (ints l):=tb.aZ.frame (Nat.le_of_eq cH.symm) λk ai=>s1 k (wh k ai).2.1
 obtain⟨bF,g2,ak,aD,a7,cw,dB,dU,gg,ie⟩:=uo (y:=I (v:Int)) sP rfl rfl rfl anX (by omega) (by omega);have s2:∀j,j<h.next->rowOf x≠some j->cQ g1 g2 j:=λj aa e=>dU j (by omega) e
 have Wu:∀j,j=bR\/j=eM\/j=p->rowOf x≠some j:=λj aa e=>by have:=wh j e;omega
 have cy:g2.wr p 1:=fI (fI A.w (s1 p (λe=>A.d3 e.symm))) (s2 p A.bq (Wu p (.inr (.inr rfl))));have gw:dZ [bF]=true:=by rcases a7.2 with⟨rfl,_⟩|⟨_,rfl,_⟩<;>rfl
 have yf:bF.cells=[bF]:=by rcases a7.2 with⟨rfl,_⟩|⟨_,rfl,_⟩<;>rfl
 have oW:=hR (n:=1) (off:=0) (y:=bF) cy (by rw[yf];rfl) (by omega) (by rw[yf];exact gw);rw[yf] at oW;have dd:aG g2 (g2.set p 0 [bF]) (· =p):=fa rfl;generalize lJ:g2.set p 0 [bF]=g3 at *;have gy:g3.next=g2.next:=by rw[<- lJ,eb]
 have er:∀j,j≠p->cQ g2 g3 j:=λj aa=>by rw[<- lJ];exact iu _ _ _ aa
 have mR:g3.aV.get eM=some {o with cn:=o.cn+1,sp:= .loop .busy .none dm.ord 47 13 (ji [(3,some (.ptr p 0))]) #[7] Cw cS bR}:=
  (er eM A.d3).trans ((s2 eM A.hO (Wu eM (.inr (.inl rfl)))).trans dN)
 have he:=amm (st:= .ready) (p:= .none) (r:=true) mR rfl;have fL:=Hy (h:=g3) (k:=eM) (o:={o with cn:=o.cn+1+1,sp:= .loop .ready .none dm.ord 47 13 (ji [(3,some (.ptr p 0))]) #[7] Cw cS bR}) (S:=(· =eM)) rfl (by rw[gy];have:=A.hO;omega);generalize tg:g3.at eM {o with cn:=o.cn+1+1,sp:= .loop .ready .none dm.ord 47 13 (ji [(3,some (.ptr p 0))]) #[7] Cw cS bR}=g4 at *;have j6:g4.next=g3.next:=by rw[<- tg];rfl
 have fo:∀j,j≠eM->cQ g3 g4 j:=λj aa=>by rw[<- tg];exact qe _ _ aa
 have rx:∀j,rowOf bF=some j->h0.next<=j/\j≠bR/\j≠eM/\j≠p:=λj aa=>by
  have h1:=A.Jd;have h2:=A.hO;have h3:=A.bq;have aW:=A.F.next
  rcases gg j aa with e|e
  ·exact⟨tb.new j e,wh j e⟩
  ·omega
 have hk:∀j,j<h.next->rowOf x≠some j->j≠eM->j≠p->cQ h g4 j:=λj aa e az aA=>(fo j az).trans ((er j aA).trans ((s2 j aa e).trans (s1 j az)))
 refine⟨g4,?_,⟨?_,⟨⟨_,by rw[<- tg,vF,if_pos rfl],by simp only[aer,apb,apc]⟩,?_⟩,⟨bF,?_,⟨?_,λj aa=>(rx j aa).1⟩,λj aa=>(rx j aa).2⟩,?_,A.n3,A.nl,A.aeL,by have:=A.Jd;omega,by have:=A.hO;omega,by have:=A.bq;omega,A.d1,A.d2,A.d3⟩⟩
 ·unfold K1 TL;simp only[ch,cd];refine aI.trans ?_;unfold EO;simp only[ch,cd,qP,r2,ak,rF,aD,oW];exact he
 ·have PX:jT h->jT g4:=λan=>fL.dA (dd.dA (ie (aM.dA an)))
  refine⟨?_,?_,λj aa _=>?_,λan=>PX (A.F.dA an)⟩
  ·exact fL.aK.trans (dd.aK.trans (dB.trans (aM.aK.trans A.F.aK)))
  ·have:=A.F.next;omega
  ·have h1:=A.F.next
   have h2:=A.nl;have h3:=A.aeL;exact(hk j (by omega) (λe=>by have:=tb.new j e;omega) (by omega) (by omega)).trans (A.F.same j aa (λe=>e))
 ·obtain⟨ob,bX,b2⟩:=A.L.ob;exact⟨ob,(hk bR A.Jd (Wu bR (.inl rfl)) A.d1 A.d2).trans bX,b2⟩
 ·rw[(fo p (λe=>A.d3 e.symm)).cell, <- lJ,hh cy (by simp) (Nat.zero_le _) (by simp)];rfl
 ·have:ints (l++[v])=ints l++[I (v:Int)]:=by simp[ints]
  rw[this,List.length_append];exact a7.frame (by omega) λk ai=>(fo k (rx k ai).2.2.1).trans (er k (rx k ai).2.2.2)
 ·exact fI (by rw[<- lJ];exact eG cy) (fo p (λe=>A.d3 e.symm))
end
section
variable{lf m:Nat}{h:U}{r ro rb n:Nat}{on:Nat->Bool}{q:Nat->Option Nat}{b:Nat->Nat}{x0 x1:J}
def Gi(C:ad):Prop:=∀h r ro rb n on q b,gB h r ro rb n on q b->
 ((∀j,j<n->on j=true)->C (.fn 66) [.ptr r 0] h=some (.ret (.bm [I 0,I 28]),h))/\
 (∀i,i<n->on i=false->(∀j,j<i->on j=true)->∃h',C (.fn 66) [.ptr r 0] h=some (.ret (.bm [I (i:Int),I 0]),h')/\
   gB h' r ro rb n (de on i true) (de q i (some h.next)) (gl b i)/\aG h h' (λj=>j=ro\/j=rb)/\h'.next=h.next+1)
theorem gB.PD(A:gB h r ro rb n on q b){i:Nat}(hi:i<n){h1 h2 h3:U}(az:h1=h.set ro i [.bool true])(aA:h2=h1.new (iR 5 (64*1) [.int .u8 0]))(cj:h3=h2.set rb i [.aZ h.next 0 64 (some 64) 0]):
 gB h3 r ro rb n (de on i true) (de q i (some h.next)) (gl b i)/\aG h h3 (λj=>j=ro\/j=rb)/\h3.next=h.next+1/\h1.next=h.next:=by
 obtain⟨x0,x1,c0,aS,V⟩:=A.v;have cH:h1.next=h.next:=by rw[az,eb]
 have cA:h2.next=h.next+1:=by rw[aA,im,cH]
 have gy:h3.next=h.next+1:=by rw[cj,eb,cA]
 have aM:aG h h1 (λj=>j=ro\/j=rb):=by rw[az];exact fa (.inl rfl)
 have bD:aG h1 h2 (λj=>j=ro\/j=rb):=by rw[aA];exact ow _ _ _
 have dd:aG h2 h3 (λj=>j=ro\/j=rb):=by rw[cj];exact fa (.inr rfl)
 have F:=(aM.trans bD).trans dd;have tB:=V.tB;have tA:=V.tA;have Ef:=A.lt;have Jp:r≠ro:=A.tF;have pR:r≠rb:=A.pR;have Rf:=V.ne;have cN:h1.wr ro n:=by rw[az];exact eG V.vb
 have aDl:h1.wr rb n:=by rw[az];exact eG V.BY
 have cy:h2.wr ro n:=by rw[aA];exact FI cN (by omega)
 have ail:h2.wr rb n:=by rw[aA];exact FI aDl (by omega)
 have aDm:h2.wr h.next 64:=by rw[aA, <- cH];exact lZ rfl
 have alO:∀j,h3.cell ro j=h1.cell ro j:=λj=>by
  rw[cj,eH (.inl Rf),aA,G0 (by omega)]
 have Zj:∀j,j≠i->h3.cell rb j=h.cell rb j:=λj aa=>by
  rw[cj,eH (.inr (by simp;omega)),aA,G0 (by omega),az,eH (.inl Rf.symm)]
 have alN:h3.cell rb i=some (.aZ h.next 0 64 (some 64) 0):=by
  rw[cj,hh ail (by simp;omega) (Nat.le_refl _) (by simp)];simp
 refine⟨⟨⟨x0,x1,?_,?_,?_⟩,?_,Jp,pR,λj k aa a0=>?_,by omega⟩,F,gy,cH⟩
 ·rw[(F.same r Ef (λe=>by rcases e with e|e;exact Jp e;exact pR e)).cell];exact c0
 ·rw[(F.same r Ef (λe=>by rcases e with e|e;exact Jp e;exact pR e)).cell];exact aS
 ·refine⟨V.cH,V.cA,V.av,V.az,?_,?_,λj aa=>?_,λj aa a0=>?_,λj k aa a0=>?_,λj gW k aa hs a0 oM=>?_,Rf,by omega,by omega,λj=>?_⟩
  ·rw[cj];exact eG cy
  ·rw[cj];exact eG ail
  ·rw[alO,az];by_cases e:j=i
   ·subst e;rw[hh V.vb (by simp;omega) (Nat.le_refl _) (by simp),kS];simp
   ·rw[eH (.inr (by simp;omega)),ix _ _ e];exact V.uv j aa
  ·by_cases e:j=i
   ·rw[e,kS] at a0;cases a0
   ·rw[ix _ _ e] at a0⊢;obtain⟨dN,df⟩:=V.off j aa a0;exact⟨dN,by rw[Zj j e];exact df⟩
  ·by_cases e:j=i
   ·rw[e,kS] at a0;cases a0;refine⟨by omega,by omega,_,by rw[e];exact alN,.inl ⟨⟨some 64,0,rfl⟩,Nat.le_refl _,?_,λc ae=>?_,by omega⟩⟩
    ·rw[cj];exact eG aDm
    ·rw[cj,eH (.inl (by omega)),aA, <- cH,l6,y9 _ _ (by omega)];unfold gl;rw[if_pos (by omega)];simp[Nat.mod_one]
   ·rw[ix _ _ e] at a0;obtain⟨dN,df,x,mR,B⟩:=V.has j k aa a0;have ai:=B.lt;refine⟨dN,df,x,by rw[Zj j e];exact mR,?_⟩;rw[ix _ _ e];rcases B.frame (h':=h3) F.next (F.same k ai (λe=>by rcases e with e|e;exact dN e;exact df e)) with lr|lr
    ·refine .inl ⟨lr.aZ,lr.ok,lr.w,λc ae=>?_,lr.lt⟩;rw[lr.cs c ae];unfold gl;rw[if_neg (by omega)]
    ·exact .inr lr
  ·by_cases e:j=i
   ·by_cases bg:gW=i
    ·omega
    ·rw[e,kS] at a0;rw[ix _ _ bg] at oM;cases a0;obtain⟨_,_,x,_,B⟩:=V.has gW _ hs oM;exact absurd B.lt (Nat.lt_irrefl _)
   ·by_cases bg:gW=i
    ·rw[bg,kS] at oM;rw[ix _ _ e] at a0;cases oM;obtain⟨_,_,x,_,B⟩:=V.has j _ aa a0;exact absurd B.lt (Nat.lt_irrefl _)
    ·rw[ix _ _ e] at a0;rw[ix _ _ bg] at oM;exact V.inj j gW k aa hs a0 oM
  ·unfold gl;split
   ·omega
   ·exact V.blt j
 ·obtain⟨M,a,c⟩:=A.wr;exact⟨M,a,fI c (F.same r Ef (λe=>by rcases e with e|e;exact Jp e;exact pR e))⟩
 ·by_cases e:j=i
  ·rw[e,kS] at a0;cases a0;omega
  ·rw[ix _ _ e] at a0;exact A.qT j k aa a0
theorem agC{C:ad}{lf lo:Nat}{cap:Option Nat}(A:gB h r ro rb n on q b)(mf:h.cell r 0=some (.aZ ro 0 n cap lo))(jO:aU)(av:cu):∀(d i:Nat),i+d=n->∀f,d<f->
 ((∀j,i<=j->j<n->on j=true)->bq (r7 C lf jO av) f (some (.ptr r 0),some (.aZ ro 0 n cap lo),some (I (n:Int)),some (I (i:Int))) h=av h)/\
 (∀t,i<=t->t<n->on t=false->(∀j,i<=j->j<t->on j=true)->∃h',bq (r7 C lf jO av) f (some (.ptr r 0),some (.aZ ro 0 n cap lo),some (I (n:Int)),some (I (i:Int))) h=jO (some (I (t:Int))) (some (I 0)) h'/\
   gB h' r ro rb n (de on t true) (de q t (some h.next)) (gl b t)/\aG h h' (λj=>j=ro\/j=rb)/\h'.next=h.next+1)
 |0,i,hw,f,an=>by
  obtain⟨f,rfl⟩:=dK f (by omega)
  have:i=n:=by omega
  subst this;have ba:decide ((i:Int)<(i:Int))=false:=by simp
  refine⟨λ_=>?_,λt h1 h2=>by omega⟩;rw[dr];unfold r7 BD;simp only[aE,ba]
 |d+1,i,hw,f,an=>by
  obtain⟨f,rfl⟩:=dK f (by omega);obtain⟨x0,x1,c0,aS,V⟩:=A.v;rw[mf] at c0;cases c0;obtain⟨YW,aeg,rfl⟩:=V.az;have h2:=V.cA;have ba:decide ((i:Int)<(n:Int))=true:=bu (by omega);have dC:IntKind.i64.wrap ((i:Int)+1)=((i+1:Nat):Int):=cL (by omega);have b7:=gV (s:=1) (k:=ro) (off:=0) (len:=n) (lo:=lo) (cap:=cap) (kd:= .i64) (i:=(i:Int)) (by omega) (by omega);rw[Int.toNat_natCast,Nat.mul_one,Nat.zero_add] at b7;have acZ:=gV (s:=1) (k:=rb) (off:=0) (len:=n) (lo:=aeg) (cap:=YW) (kd:= .i64) (i:=(i:Int)) (by omega) (by omega);rw[Int.toNat_natCast,Nat.mul_one,Nat.zero_add] at acZ;have ae:=V.uv i (by omega);obtain⟨i1,i2⟩:=agC (lf:=lf) (C:=C) A mf jO av d (i+1) (by omega) f (by omega)
  have step:on i=true->bq (r7 C lf jO av) (f+1) (some (.ptr r 0),some (.aZ ro 0 n cap lo),some (I (n:Int)),some (I (i:Int))) h=bq (r7 C lf jO av) f (some (.ptr r 0),some (.aZ ro 0 n cap lo),some (I (n:Int)),some (I ((i+1:Nat):Int))) h:=λe=>by
   rw[e] at ae;rw[dr];show BD C lf (λx0 x9 aX x11 h=>bq (r7 C lf jO av) f (x0,x9,aX,x11) h) jO av (some (.ptr r 0)) (some (.aZ ro 0 n cap lo)) (some (I (n:Int))) (some (I (i:Int))) h=_;unfold BD;simp only[aE,ba,b7,ae,Bool.not_true,dC]
  refine⟨λfP=>(step (fP i (Nat.le_refl _) (by omega))).trans (i1 λj h1 h2=>fP j (by omega) h2),λt h1 h2 jL eZ=>?_⟩;by_cases e:t=i
  ·subst e;rw[jL] at ae;have dv:=hR (n:=1) (off:=t) (y:= .bool true) V.vb rfl (by omega) rfl;obtain⟨R,F,gy,cH⟩:=A.PD (i:=t) h2 (h1:=h.set ro t [.bool true]) (h2:=(h.set ro t [.bool true]).new (iR 5 (64*1) [.int .u8 0])) (h3:=((h.set ro t [.bool true]).new (iR 5 (64*1) [.int .u8 0])).set rb t [.aZ h.next 0 64 (some 64) 0]) rfl rfl rfl
   have lL:=zF (P:=aw) (t:=24) (e:=5) (s:=1) (b:=1) (z:= .int .u8 0) (k1:= .i64) (k2:= .i64) (l:=64) (c:=64) (h:=h.set ro t [.bool true])
    Tryd.underlying24 (by kernel_rfl) (by kernel_rfl) (by kernel_rfl) (Nat.le_refl _) (by omega) (by omega) rfl (by omega)
   have a1:(db (.int .u8 0)).cells=[.int .u8 0]:=rfl;rw[a1,cH] at lL;have Qc:nq aw 24 (I 64) (I 64) (h.set ro t [.bool true])=some (.aZ h.next 0 64 (some 64) 0,(h.set ro t [.bool true]).new (iR 5 (64*1) [.int .u8 0])):=lL;have DY:((h.set ro t [.bool true]).new (iR 5 (64*1) [.int .u8 0])).wr rb n:=FI (eG V.BY) (by rw[cH];have:=V.tA;omega);have Qm:=hR (n:=1) (off:=t) (y:= .aZ h.next 0 64 (some 64) 0) DY rfl (by omega) rfl;have alM:(h.set ro t [.bool true]).cell r 1=some (.aZ rb 0 n YW aeg):=by rw[eH (.inl A.tF)];exact aS
   have Ef:=A.lt
   have j0:∀R:ab,eX (fC [(3,cq (some (.ptr r 1)))] (h.set ro t [.bool true]) ((h.set ro t [.bool true]).new (iR 5 (64*1) [.int .u8 0])) [3]) R=R:=λR=>
    Nk (k:=r) rfl (by rw[cH];exact Ef) (by obtain⟨_,_,hw⟩:=A.wr;obtain⟨j5,hm,_⟩:=(eG (k:=ro) (off:=t) (ys:=[.bool true]) hw);exact⟨j5,hm⟩) (n4 _ _ (by rw[cH];omega))
   refine⟨_,?_,R,F,gy⟩;rw[dr];unfold r7 BD;simp only[aE,ba,b7,ae,Bool.not_false,mf,dv,J.cells,alM,Qc,j0,acZ,Qm]
  ·obtain⟨h',ak,aD⟩:=i2 t (by omega) h2 jL (λj h3 aW=>eZ j (by omega) aW);exact⟨h',(step (eZ i (Nat.le_refl _) (by omega))).trans ak,aD⟩
theorem azG{C:ad}(gu:4097<=lf)(A:gB h r ro rb n on q b):
 ((∀j,j<n->on j=true)->Av C lf (.ptr r 0) h=some (.ret (.bm [I 0,I 28]),h))/\
 (∀i,i<n->on i=false->(∀j,j<i->on j=true)->∃h',Av C lf (.ptr r 0) h=some (.ret (.bm [I (i:Int),I 0]),h')/\
   gB h' r ro rb n (de on i true) (de q i (some h.next)) (gl b i)/\aG h h' (λj=>j=ro\/j=rb)/\h'.next=h.next+1):=by
 obtain⟨x0,x1,c0,aS,V⟩:=A.v;obtain⟨cap,lo,rfl⟩:=V.av;have h2:=V.cA;have aL:=uS (k:=ro) (off:=0) (len:=n) (cap:=cap) (lo:=lo) Tryd.underlying41;obtain⟨i1,i2⟩:=agC (lf:=lf) (C:=C) A c0 vQ (λh=>ES C lf vQ h) n 0 (by omega) lf (by omega)
 have pre:Av C lf (.ptr r 0) h=bq (r7 C lf vQ (λh=>ES C lf vQ h)) lf (some (.ptr r 0),some (.aZ ro 0 n cap lo),some (I (n:Int)),some (I ((0:Nat):Int))) h:=by
  unfold Av Ur Uq Up Uo Un;simp only[aE,c0,aL];rfl
 rw[pre];refine⟨λfP=>?_,λi hi jL eZ=>?_⟩
 ·rw[i1 λj _ aa=>fP j aa];unfold ES vQ;simp only[ch,cd]
 ·obtain⟨h',ak,aD⟩:=i2 i (Nat.zero_le _) hi jL (λj _ aa=>eZ j aa);refine⟨h',?_,aD⟩;rw[ak];unfold vQ;simp only[ch,cd]
end
section
variable{lf m:Nat}{h:U}{r ro rb n:Nat}{on:Nat->Bool}{q:Nat->Option Nat}{b:Nat->Nat}{x0 x1:J}
def xp(C:ad):Prop:=∀h r ro rb n on q b i,gB h r ro rb n on q b->
 (la n on i=false->C (.fn 67) [.ptr r 0,I i] h=some (.ret (I 22),h))/\
 (la n on i=true->∃h',C (.fn 67) [.ptr r 0,I i] h=some (.ret (I 0),h')/\gB h' r ro rb n (de on i.toNat false) q b/\aG h h' (· =ro)/\h'.next=h.next)
theorem gB.aBk(A:gB h r ro rb n on q b){i:Nat}(hi:i<n)(eZ:on i=true):gB (h.set ro i [.bool false]) r ro rb n (de on i false) q b:=by
 obtain⟨x0,x1,c0,aS,V⟩:=A.v;have F:aG h (h.set ro i [.bool false]) (· =ro):=fa rfl;have u0:cQ h (h.set ro i [.bool false]) rb:=iu _ _ _ V.ne.symm;have u2:cQ h (h.set ro i [.bool false]) r:=iu _ _ _ A.tF;refine⟨⟨x0,x1,by rw[u2.cell];exact c0,by rw[u2.cell];exact aS,V.cH,V.cA,V.av,V.az,eG V.vb,eG V.BY,λj aa=>?_,λj aa a0=>?_,λj k aa a0=>?_,V.inj,V.ne,by rw[eb];exact V.tB,by rw[eb];exact V.tA,V.blt⟩,(let ⟨M,a,c⟩:=A.wr;⟨M,a,eG c⟩),A.tF,A.pR,A.qT,by rw[eb];exact A.lt⟩
 ·by_cases e:j=i
  ·subst e;rw[hh V.vb (by simp;omega) (Nat.le_refl _) (by simp),kS];simp
  ·rw[eH (.inr (by simp;omega)),ix _ _ e];exact V.uv j aa
 ·obtain⟨dN,df⟩:=V.off j aa a0;refine⟨?_,by rw[u0.cell];exact df⟩;by_cases e:j=i
  ·subst e;rw[eZ] at dN;cases dN
  ·rw[ix _ _ e];exact dN
 ·obtain⟨dN,df,x,mR,B⟩:=V.has j k aa a0;refine⟨dN,df,x,by rw[u0.cell];exact mR,(B.frame (Nat.le_of_eq (eb ..).symm) (iu _ _ _ dN)).off ?_⟩;by_cases e:j=i
  ·right;rw[e,kS]
  ·left;rw[ix _ _ e]
theorem aAg{C:ad}(hi:Mt C)(A:gB h r ro rb n on q b){i:Int}:
 (la n on i=false->C2 C lf (.ptr r 0) (I i) h=some (.ret (I 22),h))/\
 (la n on i=true->∃h',C2 C lf (.ptr r 0) (I i) h=some (.ret (I 0),h')/\gB h' r ro rb n (de on i.toNat false) q b/\aG h h' (· =ro)/\h'.next=h.next):=by
 have dH:=hi h r ro rb n on q b i A;unfold C2 Us Oy;simp only[aE,dH];refine⟨λhu=>?_,λhu=>?_⟩
 ·simp only[hu,Bool.not_false,aE]
 ·obtain⟨x0,x1,c0,aS,V⟩:=A.v;obtain⟨cap,lo,rfl⟩:=V.av;have gU:=hu;simp only[la,Bool.and_eq_true,decide_eq_true_eq] at gU;obtain⟨h3,aW,bz⟩:=gU;have b7:=gV (s:=1) (k:=ro) (off:=0) (len:=n) (lo:=lo) (cap:=cap) (kd:= .i64) (i:=i) h3 aW;rw[Nat.mul_one,Nat.zero_add] at b7;have dv:=hR (n:=1) (off:=i.toNat) (y:= .bool false) V.vb rfl (by omega) rfl;refine⟨_,?_,A.aBk (by omega) bz,fa rfl,eb ..⟩;simp only[hu,Bool.not_true,aE,c0,b7,dv,J.cells]
def Cu(b:Nat->Nat)(i:Nat):List Nat:=(List.range 64).map λj=>b (i*64+j)
theorem YM(b:Nat->Nat)(i:Nat):(Cu b i).length=64:=by simp[Cu]
theorem akH(b:Nat->Nat)(i:Nat){j:Nat}(aa:j<64):(Cu b i).getD j 0=b (i*64+j):=by simp[Cu,List.getD,aa]
theorem xb.bytes{x:J}{k i:Nat}(B:xb h x k b i)(ag:∀j,b j<256):Bytes h x (Cu b i):=by
 obtain⟨cap,lo,rfl⟩:=B.aZ;obtain⟨j5,hm,_⟩:=B.w;refine⟨λc ae=>?_,.inr ⟨k,0,cap,lo,j5,by rw[YM],hm,λj aa=>?_⟩⟩
 ·obtain⟨j,_,rfl⟩:=List.mem_map.1 ae;exact ag _
 ·rw[YM] at aa;rw[Nat.zero_add,B.cs j aa,akH b i aa]
theorem aj4:sv aw 24 24 5 1 1:=
 ⟨Tryd.underlying24,by kernel_rfl,⟨.int .u8 0,by kernel_rfl,rfl⟩,by kernel_rfl,⟨_,Tryd.underlying24,rfl⟩,Nat.le_refl 1⟩
theorem gB.put(A:gB h r ro rb n on q b){i k p v:Nat}(hi:i<n)(eZ:on i=true)(a0:q i=some k)(aC:p<64)(hv:v<256){b':Nat->Nat}(ag:∀j,b' j=if j=i*64+p then v else b j):
 gB (h.set k p [.int .u8 (v:Int)]) r ro rb n on q b':=by
 obtain⟨x0,x1,c0,aS,V⟩:=A.v;obtain⟨k1,k2,x,hx,B⟩:=V.has i k hi a0
 replace B:=B.jI eZ
 have bS:=A.qT i k hi a0;have K7:cQ h (h.set k p [.int .u8 (v:Int)]) ro:=iu _ _ _ k1.symm;have u0:cQ h (h.set k p [.int .u8 (v:Int)]) rb:=iu _ _ _ k2.symm;have u2:cQ h (h.set k p [.int .u8 (v:Int)]) r:=iu _ _ _ bS.symm;refine⟨⟨x0,x1,by rw[u2.cell];exact c0,by rw[u2.cell];exact aS,V.cH,V.cA,V.av,V.az,eG V.vb,eG V.BY,λj aa=>by rw[K7.cell];exact V.uv j aa,λj aa a0=>by rw[u0.cell];exact V.off j aa a0,λj b5 aa oM=>?_,V.inj,V.ne,by rw[eb];exact V.tB,by rw[eb];exact V.tA,λj=>?_⟩,(let ⟨M,a,c⟩:=A.wr;⟨M,a,eG c⟩),A.tF,A.pR,A.qT,by rw[eb];exact A.lt⟩
 ·obtain⟨dN,df,bF,mR,lr⟩:=V.has j b5 aa oM;refine⟨dN,df,bF,by rw[u0.cell];exact mR,?_⟩;rcases lr with lr|⟨iv,sm,⟨N,W4⟩,W5⟩
  rotate_left
  ·exact .inr ⟨iv,sm,⟨N,eG W4⟩,by rw[eb];exact W5⟩
  refine .inl ⟨lr.aZ,lr.ok,eG lr.w,λc ae=>?_,by rw[eb];exact lr.lt⟩;by_cases e:j=i
  ·subst e;rw[a0] at oM;cases oM;by_cases aA:c=p
   ·subst aA;rw[hh B.w (by simp;omega) (Nat.le_refl _) (by simp),ag,if_pos rfl];simp
   ·rw[eH (.inr (by simp;omega)),lr.cs c ae,ag,if_neg (by omega)]
  ·have b4:b5≠k:=λaA=>e (V.inj j i b5 aa hi oM (by rw[aA];exact a0))
   rw[eH (.inl b4),lr.cs c ae,ag,if_neg (by omega)]
 ·rw[ag];split
  ·exact hv
  ·exact V.blt j
end
section
variable{lf m:Nat}{h:U}{k c5 n:Nat}{wd b:Nat->Nat}
def MP(C:ad):Prop:=∀h k c5 n wd b,en h k c5 n wd b->C (.fn 29) [.ptr k 0] h=some (.ret (I (n:Int)),h)
theorem aCY{C:ad}(hm:sD C)(S:en h k c5 n wd b):HI C lf (.ptr k 0) h=some (.ret (I (n:Int)),h):=by
 unfold HI SU N7;simp only[aE,hm _ _ _ _ _ _ S,Bool.not_true,S.ef]
@[simp] theorem aqv(nE:Nat)(kd:IntKind)(i:Int):kt nE (.int kd i)=true:=e1 rfl
def Mv(C:ad):Prop:=∀h (n:Nat),1<=n->n<=4096->jT h->∃h' x0 x1 ro rb,C (.fn 24) [I (n:Int)] h=some (.ret (.agg [x0,x1]),h')/\rr h' x0 x1 ro rb n (λ_=>false) (λ_=>none) (λ_=>0)/\aG h h' (λ_=>False)/\h.next<=ro/\h.next<=rb
theorem aAp{C:ad}{n:Nat}(h1:1<=n)(h2:n<=4096)(an:jT h):∃h' x0 x1 ro rb,HH C lf (I (n:Int)) h=some (.ret (.agg [x0,x1]),h')/\rr h' x0 x1 ro rb n (λ_=>false) (λ_=>none) (λ_=>0)/\aG h h' (λ_=>False)/\h.next<=ro/\h.next<=rb:=by
 have a1:hb aw 44=some (.agg #[.slice none 0 0,.slice none 0 0]):=by kernel_rfl
 have IB:=rf (P:=aw) (e:=44) (h:=h) a1;generalize jf:dJ 44 (db (.agg #[.slice none 0 0,.slice none 0 0])).cells=dN at *;have DG:dN.n=2:=by rw[<- jf];rfl
 have ts:(h.new dN).wr h.next 2:=by rw[<- DG];exact lZ (by rw[<- jf];rfl)
 have k7:=xV an dN;generalize Dy:(⟨(h.new dN).aK,h.next+1+6,(h.new dN).aV⟩:U)=h3;have gy:h3.next=h.next+7:=by rw[<- Dy]
 have g3:∀j,h3.aV.get j=(h.new dN).aV.get j:=λj=>by rw[<- Dy]
 have fp:h3.wr h.next 2:=by rw[<- Dy];exact ts
 have hP:=Xs (P:=aw) (t:=41) (e:=4) (s:=1) (b:=1) (z:= .bool false) (k1:= .i64) (k2:= .i64) (l:=n) (c:=n) (base:=h.next+1) (i:=1) (h:=h3)
  Tryd.underlying41 (by kernel_rfl) (by kernel_rfl) (by kernel_rfl) (Nat.le_refl _) (by omega) (by omega) rfl (by omega)
 generalize AP:iR 4 (n*1) (db (.bool false)).cells=df at *;generalize ym:h3.at (h.next+1+1) df=aW at *
 have e0:=Xs (P:=aw) (t:=42) (e:=24) (s:=1) (b:=24) (z:= .slice none 0 0) (k1:= .i64) (k2:= .i64) (l:=n) (c:=n) (base:=h.next+1) (i:=3) (h:=aW)
  Tryd.underlying42 (by kernel_rfl) (by kernel_rfl) (by kernel_rfl) (Nat.le_refl _) (by omega) (by omega) rfl (by omega)
 generalize yA:iR 24 (n*1) (db (.slice none 0 0)).cells=mR at *;generalize uG:aW.at (h.next+1+3) mR=bz at *;have ag:hZ aw 44 [0,1] [.aZ (h.next+1+1) 0 n (some n) 0,.aZ (h.next+1+3) 0 n (some n) 0]=some (.agg [.aZ (h.next+1+1) 0 n (some n) 0,.aZ (h.next+1+3) 0 n (some n) 0]):=by kernel_rfl
 have u7:bz.wr h.next 2:=by rw[<- uG, <- ym];exact Xd (Xd fp (by omega)) (by omega)
 have dv:=hR (n:=2) (off:=0) (y:= .agg [.aZ (h.next+1+1) 0 n (some n) 0,.aZ (h.next+1+3) 0 n (some n) 0]) u7 rfl (by omega) rfl;have aoi:(J.agg [.aZ (h.next+1+1) 0 n (some n) 0,.aZ (h.next+1+3) 0 n (some n) 0]).cells=[.aZ (h.next+1+1) 0 n (some n) 0,.aZ (h.next+1+3) 0 n (some n) 0]:=rfl;rw[aoi] at dv;generalize ti:bz.set h.next 0 [.aZ (h.next+1+1) 0 n (some n) 0,.aZ (h.next+1+3) 0 n (some n) 0]=bB at *
 have Bm:bB.next=h.next+7:=by rw[<- ti,eb, <- uG, <- ym];exact gy
 have lK:fu 2 (.ptr h.next 0) bB=some (.agg [.aZ (h.next+1+1) 0 n (some n) 0,.aZ (h.next+1+3) 0 n (some n) 0]):=by
  have aDn:=u7;obtain⟨j5,uL,_⟩:=aDn
  have:∃gx,bB.mt h.next=some gx:=by rw[<- ti,Jl,if_pos rfl,uL];exact⟨_,rfl⟩
  obtain⟨gx,qz⟩:=this
  rw[n2 qz,lE (n:=2) (ys:=[.aZ (h.next+1+1) 0 n (some n) 0,.aZ (h.next+1+3) 0 n (some n) 0]) rfl λi hi=>by
   rw[Nat.zero_add, <- ti,hh u7 (by simp) (Nat.zero_le _) (by simpa using hi),Nat.sub_zero]]
  rfl
 refine⟨bB,_,_,h.next+1+1,h.next+1+3,?_,⟨h1,h2,⟨some n,0,rfl⟩,⟨some n,0,rfl⟩,?_,?_,λi hi=>?_,λi hi _=>⟨rfl,?_⟩,(λi k hi a0=>by cases a0),(λi j k _ _ a0=>by cases a0),by omega,by omega,by omega,λj=>by omega⟩,⟨?_,by omega,λj aa _=>?_,λan j aa=>?_⟩,by omega,by omega⟩
 ·unfold HH SS N6;simp only[aE,IB,aeM k7,im,Dy,aqv,Bool.and_self,Cx,hP,e0,ag,dv,lK]
 ·rw[<- ti];refine eG ?_;rw[<- uG, <- ym]
  have:(h3.at (h.next+1+1) df).wr (h.next+1+1) df.n:=Xc (by rw[<- AP];rfl)
  rw[show df.n=n by rw[<- AP];exact Nat.mul_one n] at this;exact Xd this (by omega)
 ·rw[<- ti];refine eG ?_;rw[<- uG]
  have:(aW.at (h.next+1+3) mR).wr (h.next+1+3) mR.n:=Xc (by rw[<- yA];rfl)
  rw[show mR.n=n by rw[<- yA];exact Nat.mul_one n] at this;exact this
 ·rw[<- ti,eH (.inl (by omega)), <- uG,YX _ (by omega), <- ym,Nh, <- AP,y9 _ _ (by omega)];show[J.bool false][i%1]?=_;rw[Nat.mod_one];rfl
 ·rw[<- ti,eH (.inl (by omega)), <- uG,Nh, <- yA,y9 _ _ (by omega)];show[J.val (.slice none 0 0)][i%1]?=_;rw[Nat.mod_one];rfl
 ·rw[<- ti,K4, <- uG, <- ym, <- Dy];rfl
 ·show bB.aV.get j=h.aV.get j;rw[<- ti,iu _ _ _ (by omega), <- uG,qe _ _ (by omega), <- ym,qe _ _ (by omega),g3,n4 _ _ (by omega)]
 ·rw[Bm] at aa;rw[<- ti,iu _ _ _ (by omega), <- uG,qe _ _ (by omega), <- ym,qe _ _ (by omega),g3];exact k7 j (by rw[im];omega)
end
section
variable{lf m:Nat}{h:U}{r ro rb n:Nat}{on:Nat->Bool}{q:Nat->Option Nat}{b:Nat->Nat}{x0 x1:J}
end
section
variable{lf m:Nat}{h:U}
structure Whole (h:U) (k:Nat) (l:List Nat):Prop where
 w:h.wr k (l.length+2)
 c0:h.cell k 0=some (.int .u8 165)
 aS:h.cell k (l.length+1)=some (.int .u8 90)
 cs:∀j,j<l.length->h.cell k (1+j)=some (.int .u8 ((l.getD j 0:Nat):Int))
 lt:k<h.next
def p7(k n:Nat):J:= .aZ k 0 (n+2) (some (n+2)) 0
def wx(k n:Nat):J:= .aZ k 1 n (some (n+1)) 0
theorem ahq{P:Program}{t e k n:Nat}(hu:P.underlying t=some (.slice e))(al:dP P e=some 1):fX P t (p7 k n) (some (I 1)) (some (I ((n+1:Nat):Int)))=some (wx k n):=by
 have h1:sliceB (n+2) (n+2) (some (I 1)) (some (I ((n+1:Nat):Int)))=some (1,n+1):=by
  have az:hX (I 1)=some 1:=rfl;have aA:hX (I ((n+1:Nat):Int))=some (n+1):=rfl;simp only[sliceB,az,aA]
  have:(Nat.ble (n+1) (n+2)&&Nat.ble 1 (n+1))=true:=by rw[Nat.ble_eq_true_of_le (by omega),Nat.ble_eq_true_of_le (by omega)];rfl
  simp only[this,cond_true]
 unfold fX p7;simp only[hu,al,h1,p3,force_eq]
 have bX:Nat.beq (n+2-1) 0=false:=by
  cases ag:Nat.beq (n+2-1) 0 with
  |false=>rfl
  |true=>exact absurd (Nat.eq_of_beq_eq_true ag) (by omega)
 simp only[bX,cond_false,wx];rfl
def Mi(C:ad):Prop:=∀h x l,Bytes h x l->l.length<=140737488351232->(∀j,rowOf x=some j->j<h.next)->∃h',C (.fn 69) [x] h=some (.ret (.bm [p7 h.next l.length,wx h.next l.length]),h')/\Whole h' h.next l/\aG h h' (λ_=>False)/\h'.next=h.next+1
theorem ad9{C:ad}{lf k:Nat}{x:J}{l:List Nat}{h0:U}(hlen:l.length<=140737488351232)(XA:Bytes h0 x l)(ar:∀j,rowOf x=some j->j<h0.next/\j≠k)(av:aU):∀(d t:Nat),t+d=l.length->∀f,d<f->∀h,h.wr k (l.length+2)->h.cell k 0=some (.int .u8 165)->h.cell k (l.length+1)=some (.int .u8 90)->
 (∀j,j<t->h.cell k (1+j)=some (.int .u8 ((l.getD j 0:Nat):Int)))->aG h0 h (· =k)->h.next=h0.next->
 ∃h',bq (Bb C lf av) f (some x,some (p7 k l.length),some x,some (I (l.length:Int)),some (I (t:Int))) h=av (some x) (some (p7 k l.length)) h'/\
  h'.wr k (l.length+2)/\h'.cell k 0=some (.int .u8 165)/\h'.cell k (l.length+1)=some (.int .u8 90)/\(∀j,j<l.length->h'.cell k (1+j)=some (.int .u8 ((l.getD j 0:Nat):Int)))/\aG h0 h' (· =k)/\h'.next=h0.next
 |0,t,hw,f,an,h,ak,aD,a7,cw,dB,dU=>by
  obtain⟨f,rfl⟩:=dK f (by omega)
  have:t=l.length:=by omega
  subst this;refine⟨h,?_,ak,aD,a7,cw,dB,dU⟩;rw[dr];unfold Bb ET;have ba:decide ((l.length:Int)<(l.length:Int))=false:=by simp
  simp only[aE,ba]
 |d+1,t,hw,f,an,h,ak,aD,a7,cw,dB,dU=>by
  obtain⟨f,rfl⟩:=dK f (by omega);have aN:t<l.length:=by omega
  have ba:decide ((t:Int)<(l.length:Int))=true:=bu (by omega);have dC:IntKind.i64.wrap ((t:Int)+1)=((t+1:Nat):Int):=cL (by omega);have aiU:Bytes h x l:=XA.frame λbR ob len cap lo e=>dB.same bR (ar bR (by rw[e];rfl)).1 (ar bR (by rw[e];rfl)).2
  obtain⟨my,bX,b2⟩:∃my,dS 1 x (I (t:Int))=some my/\bZ my h=some (.int .u8 ((l.getD t 0:Nat):Int)):=by
   rcases aiU.2 with⟨_,rfl⟩|⟨bR,ob,cap,lo,j5,rfl,_,ae⟩
   ·simp at aN
   ·have b7:=gV (s:=1) (k:=bR) (off:=ob) (len:=l.length) (lo:=lo) (cap:=cap) (kd:= .i64) (i:=(t:Int)) (by omega) (by omega);rw[Int.toNat_natCast,Nat.mul_one] at b7;exact⟨_,b7,ae t aN⟩
  have ac0:=gV (s:=1) (k:=k) (off:=0) (len:=l.length+2) (lo:=0) (cap:=some (l.length+2)) (kd:= .i64) (i:=((t+1:Nat):Int)) (by omega) (by omega);rw[Int.toNat_natCast,Nat.mul_one,Nat.zero_add] at ac0;have aoD:dS 1 (p7 k l.length) (I ((t+1:Nat):Int))=some (.ptr k (t+1)):=ac0;have dv:=hR (n:=1) (off:=t+1) (y:= .int .u8 ((l.getD t 0:Nat):Int)) ak rfl (by omega) rfl
  obtain⟨h',az,aA⟩:=ad9 (lf:=lf) (C:=C) (x:=x) hlen XA ar av d (t+1) (by omega) f (by omega) (h.set k (t+1) [.int .u8 ((l.getD t 0:Nat):Int)]) (eG ak) (by rw[eH (.inr (by simp))];exact aD) (by rw[eH (.inr (by simp;omega))];exact a7)
   (λj aa=>by
     by_cases e:j=t
     ·subst e;rw[show 1+j=j+1 by omega,hh ak (by simp;omega) (Nat.le_refl _) (by simp)];simp
     ·rw[eH (.inr (by simp;omega))];exact cw j (by omega)) (dB.trans (fa rfl)) (by rw[eb];exact dU)
  refine⟨h',?_,aA⟩;refine Eq.trans ?_ az;rw[dr];show ET C lf (λx0 bC w3 w4 tV h=>bq (Bb C lf av) f (x0,bC,w3,w4,tV) h) av (some x) (some (p7 k l.length)) (some x) (some (I (l.length:Int))) (some (I (t:Int))) h=_;unfold ET;simp only[ch,cd,rI,ba,rh,bX,b2,rH,dC,aoD,dv,J.cells]
theorem aqj{C:ad}{x:J}{l:List Nat}(gu:140737488355328<=lf)(B:Bytes h x l)(aL:l.length<=140737488351232)(ar:∀j,rowOf x=some j->j<h.next):
 ∃h',H3 C lf x h=some (.ret (.bm [p7 h.next l.length,wx h.next l.length]),h')/\Whole h' h.next l/\aG h h' (λ_=>False)/\h'.next=h.next+1:=by
 have hlen:=qQ (P:=aw) Tryd.underlying24 B;have aA:IntKind.i64.wrap ((l.length:Int)+2)=((l.length+2:Nat):Int):=cL (by omega);have az:IntKind.i64.wrap ((l.length:Int)+1)=((l.length+1:Nat):Int):=cL (by omega)
 have lL:=zF (P:=aw) (t:=24) (e:=5) (s:=1) (b:=1) (z:= .int .u8 0) (k1:= .i64) (k2:= .i64) (l:=l.length+2) (c:=l.length+2) (h:=h)
  Tryd.underlying24 (by kernel_rfl) (by kernel_rfl) (by kernel_rfl) (Nat.le_refl _) (by omega) (by omega) rfl (by omega)
 generalize aq:iR 5 ((l.length+2)*1) (db (.int .u8 0)).cells=o at *
 have hw:(h.new o).wr h.next (l.length+2):=by
  have:=lZ (h:=h) (o:=o) (by rw[<- aq];rfl)
  rw[show o.n=l.length+2 by rw[<- aq];exact Nat.mul_one _] at this;exact this
 have i0:=gV (s:=1) (k:=h.next) (off:=0) (len:=l.length+2) (lo:=0) (cap:=some (l.length+2)) (kd:= .i64) (i:=0) (by omega) (by omega);have i1:=gV (s:=1) (k:=h.next) (off:=0) (len:=l.length+2) (lo:=0) (cap:=some (l.length+2)) (kd:= .i64) (i:=((l.length+1:Nat):Int)) (by omega) (by omega);rw[Int.toNat_natCast,Nat.mul_one,Nat.zero_add] at i1;have u3:=hR (n:=1) (off:=0) (y:= .int .u8 165) hw rfl (by omega) rfl;have mf:(J.int .u8 165).cells=[.int .u8 165]:=rfl;rw[mf] at u3;have DY:((h.new o).set h.next 0 [.int .u8 165]).wr h.next (l.length+2):=eG hw
 have K8:=hR (n:=1) (off:=l.length+1) (y:= .int .u8 90) DY rfl (by omega) rfl;have jt:(J.int .u8 90).cells=[.int .u8 90]:=rfl;rw[jt] at K8;generalize bd:((h.new o).set h.next 0 [.int .u8 165]).set h.next (l.length+1) [.int .u8 90]=g at *
 have aK:g.next=h.next+1:=by rw[<- bd,eb,eb,im]
 have Lx:g.wr h.next (l.length+2):=by rw[<- bd];exact eG DY
 have F:aG h g (λ_=>False):=by
  rw[<- bd];exact⟨by simp,by simp,λj aa _=>(iu _ _ _ (by omega)).trans ((iu _ _ _ (by omega)).trans (n4 h _ (by omega))),λan=>Ap (Ap (xV an _) _ _ _) _ _ _⟩
 have jC:Bytes g x l:=B.frame λbR ob len cap lo e=>F.same bR (ar bR (by rw[e];rfl)) (λe=>e)
 have ks:=ahq (P:=aw) (t:=24) (k:=h.next) (n:=l.length) Tryd.underlying24 (by kernel_rfl)
 obtain⟨h',cb,cV,lQ,Jc,Ea,QZ,aFs⟩:=ad9 (lf:=lf) (C:=C) (k:=h.next) (x:=x) (h0:=g) aL jC (λj aa=>by have:=ar j aa;omega) (λx0 bC h=>Kn C lf Ht x0 bC h) l.length 0 (by omega) lf (by omega) g Lx
  (by rw[<- bd,eH (.inr (by simp)),hh hw (by simp) (Nat.le_refl _) (by simp)];rfl)
  (by rw[<- bd,hh DY (by simp) (Nat.le_refl _) (by simp)];simp) (λj aa=>by omega) (aG.refl _ _) rfl
 refine⟨h',?_,⟨cV,lQ,Jc,Ea,by omega⟩,⟨QZ.aK.trans F.aK,by omega,λj aa al=>(QZ.same j (by omega) (by omega)).trans (F.same j aa al),λan=>QZ.dA (F.dA an)⟩,by omega⟩;unfold H3 UB UA Uz Uy Ux Uw Uv Uu Ut;have apz:dS 1 (.aZ h.next 0 (l.length+2) (some (l.length+2)) 0) (I 0)=some (.ptr h.next 0):=i0;simp only[aE,hlen,aA,lL,az,apz,u3,i1,K8];refine Eq.trans cb ?_;unfold Kn Ht;simp only[aE,hlen,az,ks]
def Me(C:ad):Prop:=∀h k x l,Whole h k l->Bytes h x l->l.length<=140737488351232->C (.fn 71) [p7 k l.length,x] h=some (.ret (.bool true),h)
theorem Whole.bytes{k:Nat}{l:List Nat}(W:Whole h k l)(ag:∀c∈l,c<256):Bytes h (wx k l.length) l:=by
 obtain⟨j5,hm,_⟩:=W.w;exact⟨ag,.inr ⟨k,1,_,0,j5,rfl,hm,W.cs⟩⟩
theorem ap6{C:ad}{k:Nat}{x:J}{l:List Nat}(W:Whole h k l)(B:Bytes h x l)(aL:l.length<=140737488351232):H4 C lf (p7 k l.length) x h=some (.ret (.bool true),h):=by
 have hlen:=qQ (P:=aw) Tryd.underlying24 B;have aoO:eE aw 24 (p7 k l.length)=some (I ((l.length+2:Nat):Int)):=uS Tryd.underlying24;have aA:IntKind.i64.wrap ((l.length:Int)+2)=((l.length+2:Nat):Int):=cL (by omega);have az:IntKind.i64.wrap ((l.length:Int)+1)=((l.length+1:Nat):Int):=cL (by omega);have i0:dS 1 (p7 k l.length) (I 0)=some (.ptr k 0):=gV (s:=1) (k:=k) (off:=0) (len:=l.length+2) (lo:=0) (cap:=some (l.length+2)) (kd:= .i64) (i:=0) (by omega) (by omega);have i1:=gV (s:=1) (k:=k) (off:=0) (len:=l.length+2) (lo:=0) (cap:=some (l.length+2)) (kd:= .i64) (i:=((l.length+1:Nat):Int)) (by omega) (by omega);rw[Int.toNat_natCast,Nat.mul_one,Nat.zero_add] at i1;have apA:dS 1 (p7 k l.length) (I ((l.length+1:Nat):Int))=some (.ptr k (l.length+1)):=i1;have ks:=ahq (P:=aw) (t:=24) (k:=k) (n:=l.length) Tryd.underlying24 (by kernel_rfl);have v1:=LQ (P:=aw) (s:=24) (d:=9) Tryd.underlying24 Tryd.underlying9 (by kernel_rfl) (W.bytes B.1)
 have v2:=LQ (P:=aw) (s:=24) (d:=9) Tryd.underlying24 Tryd.underlying9 (by kernel_rfl) B;have d1:decide (((l.length+2:Nat):Int)=((l.length+2:Nat):Int))=true:=by simp
 have d2:decide ((165:Int)=165)=true:=rfl;have d3:decide ((90:Int)=90)=true:=rfl;have d4:decide (u5 l=u5 l)=true:=by simp
 unfold H4 UC Oz;simp only[aE,aoO,hlen,aA,d1,decide_true,i0,W.c0,az,apA,W.aS,ks,v1,v2,YI]
end
theorem G2{bK:List (Nat×Option Nat)}{h h':U}{ls:List Nat}{r:ab}(H:∀p∈bK,∀k,p.2=some k->k<h.next/\(∃m,h.mt k=some m)/\cQ h h' k):eX (fC bK h h' ls) r=r:=by
 have an:∀(bK:List (Nat×Option Nat)) i k,(∀p∈bK,∀k,p.2=some k->k<h.next/\(∃m,h.mt k=some m)/\cQ h h' k)->l7 bK i=some k->k<h.next/\(∃m,h.mt k=some m)/\cQ h h' k:=by
  intro bK
  induction bK with
  |nil=>intro i k _ e;cases e
  |cons p bK bc=>
   intro i k H e;obtain⟨l,a⟩:=p;have e:(bif Nat.beq l i then a else l7 bK i)=some k:=e;cases ag:Nat.beq l i with
   |true=>rw[ag,cond_true] at e;exact H (l,a) (List.mem_cons_self ..) k e
   |false=>rw[ag,cond_false] at e;exact bc i k (λp aC=>H p (List.mem_cons_of_mem _ aC)) e
 have:fC bK h h' ls=true:=by
  induction ls with
  |nil=>rfl
  |cons l ls bc=>
   show((match l7 bK l with|some k=>Fl h h' k|none=>true)&&fC bK h h' ls)=true;rw[bc,Bool.and_true];cases ai:l7 bK l with
   |none=>rfl
   |some k=>
    obtain⟨h1,h2,h3⟩:=an bK l k H ai;exact aha h1 h2 h3
 rw[this,Cx]
section
variable{lf:Nat}{h:U}{T:ei}{n N:Nat}{wd b:Nat->Nat}{now:Int}{us:Nat->Bool}{nd:Nat->Nat->J}
def XH(C:ad):Prop:=∀h0 h T n N wd b now us nd bR eM p,bx h0 T n N wd b now us nd->vz h0 h bR eM p []->∃h',C (.iF 81) [.ptr T.a9 0,.fw eM] h=some (.ret (.bm []),h')/\vz h0 h' bR eM p (e4 us N)
theorem amf{C C':ad}(gu:4097<=lf)(aN:qb C)(bf:∀eM p bR v h y h',Cf h bR eM p->K1 C' lf eM (some (.ptr p 0)) v h=some (.ret y,h')->C (.fw eM) [v] h=some (.ret y,h')){h0:U}{bR eM p:Nat}(A:bx h0 T n N wd b now us nd)(kX:vz h0 h bR eM p []):
 ∃h',C4 C lf (.ptr T.a9 0) (.fw eM) h=some (.ret (.bm []),h')/\vz h0 h' bR eM p (e4 us N):=by
 have jK:=A.gN;refine amg (n:=n) (N:=N) (wd:=wd) (b:=b) (now:=now) (us:=us) (nd:=nd) gu aN (λi h=>vz h0 h bR eM p (e4 us i)) eM (λi h kX=>A.hK kX.F λ_ e=>e.elim) (λi h hi hu kX=>?_) (λi h hi hu kX=>?_) (by simpa[e4,eR] using kX)
 ·have hle:=BT us i;obtain⟨h',az,aA⟩:=aAy (C:=C') (lf:=lf) kX (by omega) (i+1);refine⟨h',bf eM p bR _ h _ h' kX.L az,?_⟩;rw[Lu,hu];exact aA
 ·rw[Lu,hu];simpa using kX
def GL(C:ad):Prop:=∀h T n N wd b now us nd,bx h T n N wd b now us nd->∃x h',C (.fn 47) [.ptr T.a9 0] h=some (.ret x,h')/\eN h h' x (e4 us N)/\aG h h' (λ_=>False)
theorem aDh{C:ad}(E:XH C)(A:bx h T n N wd b now us nd):∃x h',HT C lf (.ptr T.a9 0) h=some (.ret x,h')/\eN h h' x (e4 us N)/\aG h h' (λ_=>False):=by
 have a1:hb aw 33=some (.slice none 0 0):=by kernel_rfl
 have sO:=rf (P:=aw) (e:=33) (h:=h) a1;have qE:(db (.slice none 0 0)).cells=[.val (.slice none 0 0)]:=rfl;rw[qE] at sO;generalize jf:dJ 33 [.val (.slice none 0 0)]=dN at *;generalize mL:h.new dN=g1 at *;have cH:g1.next=h.next+1:=by rw[<- mL,im]
 have cN:g1.wr h.next 1:=by
  have:=lZ (h:=h) (o:=dN) (by rw[<- jf];rfl)
  rw[show dN.n=1 by rw[<- jf];rfl,mL] at this;exact this
 have aS:g1.cell h.next 0=some (.val (.slice none 0 0)):=by rw[<- mL,l6, <- jf,oR];rfl
 have aM:aG h g1 (λ_=>False):=by rw[<- mL];exact ow _ _ _
 generalize ij:(⟨g1.aK,g1.next+1,g1.aV.put g1.next sb⟩:U)=g2 at *;have aA:g2=g1.new sb:=by rw[<- ij];rfl
 have cA:g2.next=h.next+2:=by rw[aA,im,cH]
 have bD:aG g1 g2 (λ_=>False):=by rw[aA];exact ow _ _ _
 generalize gS:il dm.ord 47 13 (ji [(3,some (.ptr h.next 0))]) #[7] (cc dm [1,1,0,1,0,0]) (cc dm [1,1,0,1,0,1]) g1.next=ol at *
 generalize lJ:(⟨g2.aK,g2.next+1,g2.aV.put g2.next ol⟩:U)=g3 at *;have cj:g3=g2.new ol:=by rw[<- lJ];rfl
 have gy:g3.next=h.next+3:=by rw[cj,im,cA]
 have dd:aG g2 g3 (λ_=>False):=by rw[cj];exact ow _ _ _
 have oS:∀j,j<g2.next->cQ g2 g3 j:=λj aa=>dd.same j aa (λe=>e)
 have Fj:∀j,j<g1.next->cQ g1 g2 j:=λj aa=>bD.same j aa (λe=>e)
 have kX:vz h g3 (h.next+1) (h.next+2) h.next []:=
  ⟨(aM.trans bD).trans dd,⟨⟨ol,by rw[cj,Bo,if_pos (by rw[cA])],by rw[<- gS,cH];rfl⟩,⟨sb,by
     have h1:cQ g2 g3 (h.next+1):=oS _ (by omega)
     exact h1.trans (by rw[aA,Bo,if_pos cH.symm]),rfl⟩⟩,
    ⟨.val (.slice none 0 0),by rw[(oS _ (by omega)).cell,(Fj _ (by omega)).cell];exact aS,⟨hH.nil _ _ _,λj aa=>by cases aa⟩,λj aa=>by cases aa⟩,
    fI (fI cN (Fj _ (by omega))) (oS _ (by omega)),by omega,by omega,by omega,by omega,by omega,by omega,by omega,by omega,by omega⟩
 obtain⟨g4,ct,uh⟩:=E h g3 T n N wd b now us nd _ _ _ A kX;obtain⟨Rl,ej,fV⟩:=uh.L.ol;obtain⟨kF,nk,BA⟩:=uh.L.ob;obtain⟨x,x1,x2,x3⟩:=uh.v;have fV:Rl.sp= .loop .ready .none dm.ord 47 13 (ji [(3,some (.ptr h.next 0))]) #[7] (cc dm [1,1,0,1,0,0]) (cc dm [1,1,0,1,0,1]) (h.next+1):=fV;generalize yl:g4.at (h.next+2) (Ae Rl)=g5 at *;have rm:aG g4 g5 (· =h.next+2):=by rw[<- yl];exact Hy rfl uh.hO
 have akn:g5.aV.get (h.next+1)=some kF:=by rw[<- yl,vF,if_neg (by omega)];exact nk
 generalize II:g5.at (h.next+1) {kF with cn:=kF.cn+1,sp:= .jI true}=g6 at *;have aqI:g5.next=g4.next:=by rw[<- yl];rfl
 have oa:aG g5 g6 (· =h.next+1):=by rw[<- II];exact Hy rfl (by rw[aqI];exact uh.Jd)
 have ag7:∀j,j≠h.next+1->j≠h.next+2->cQ g4 g6 j:=λj h1 h2=>by
  have a:cQ g4 g5 j:=by rw[<- yl];exact qe _ _ h2
  have b:cQ g5 g6 j:=by rw[<- II];exact qe _ _ h1
  exact b.trans a
 have Bm:g6.next=g4.next:=by rw[<- II, <- yl];rfl
 refine⟨x,g6,?_,⟨x2.aZ.frame (Nat.le_of_eq Bm.symm) λk ai=>ag7 k (x3 k ai).1 (x3 k ai).2.1,x2.new⟩,?_⟩
 ·unfold HT TM EP zf;simp only[ch,cd,rF,sO]
  have aI:∀aJ bS ke,q5 C dm.ord 47 none 13 #[7] (cc dm [1,1,0,1,0,0]) (cc dm [1,1,0,1,0,1]) (.fn (.func 81) [.ptr T.a9 0] []) [] (ji [(3,some (.ptr h.next 0))]) g1 aJ bS ke=aJ [h.next+1] g5:=λaJ bS ke=>by
   show cR (C (.iF 81) [.ptr T.a9 0,.fw (g1.next+1)] ⟨g1.aK,g1.next+2,(g1.aV.put g1.next sb).put (g1.next+1) (il dm.ord 47 13 (ji [(3,some (.ptr h.next 0))]) #[7] (cc dm [1,1,0,1,0,0]) (cc dm [1,1,0,1,0,1]) g1.next)⟩) (λ_ h2=>CF (g1.next::[]) (g1.next+1) h2 aJ bS ke)=_;have nJ:(⟨g1.aK,g1.next+2,(g1.aV.put g1.next sb).put (g1.next+1) (il dm.ord 47 13 (ji [(3,some (.ptr h.next 0))]) #[7] (cc dm [1,1,0,1,0,0]) (cc dm [1,1,0,1,0,1]) g1.next)⟩:U)=g3:=by rw[<- lJ, <- ij,gS]
   rw[nJ,cH,ct,YH];unfold CF;simp only[ej,fV];show aJ [h.next+1] (g4.at (h.next+2) (Ae Rl))=_;rw[yl]
  rw[aI];unfold tL nM yV yV aab;have apv:g5.cell h.next 0=some x:=by rw[<- yl,YX _ (by omega)];exact x1
  simp only[ch,cd,qP,apv,akn,BA];show y4 (some (.ret x,g5.at (h.next+1) {kF with cn:=kF.cn+1,sp:= .jI true}))=_;rw[II,aq6]
 ·refine⟨oa.aK.trans (rm.aK.trans uh.F.aK),by rw[Bm];exact uh.F.next,λj aa e=>(ag7 j (by omega) (by omega)).trans (uh.F.same j aa e),λan=>oa.dA (rm.dA (uh.F.dA an))⟩
end
section
variable{lf:Nat}{h:U}{T:ei}{n N:Nat}{wd b:Nat->Nat}{now:Int}{us:Nat->Bool}{nd:Nat->Nat->J}
theorem FH{h:U}{k M:Nat}(w:h.wr k M):∃m,h.mt k=some m:=let ⟨m,a,_⟩:=w;⟨m,a⟩
def Gc(C:ad):Prop:=∀h T n N wd b now us nd,bx h T n N wd b now us nd->C (.fn 46) [.ptr T.a9 0] h=some (.ret (I now),h)
theorem ara{C:ad}(aN:qb C)(A:bx h T n N wd b now us nd):HS C lf (.ptr T.a9 0) h=some (.ret (I now),h):=by
 unfold HS TK Og;simp only[aE,aN _ _ _ _ _ _ _ _ _ A,Bool.not_true,A.a2]
def ML(C:ad):Prop:=∀h T n N wd b now us nd,bx h T n N wd b now us nd->∃x h',C (.fn 48) [.ptr T.a9 0] h=some (.ret x,h')/\eN h h' x (iT wd n)/\aG h h' (λ_=>False)
theorem aCW{C:ad}(aN:qb C)(hu:MQ C)(A:bx h T n N wd b now us nd):∃x h',HU C lf (.ptr T.a9 0) h=some (.ret x,h')/\eN h h' x (iT wd n)/\aG h h' (λ_=>False):=by
 obtain⟨x,h',e,a,f⟩:=hu _ _ _ _ _ _ A.st;refine⟨x,h',?_,a,f⟩;unfold HU TN Oh;simp only[aE,aN _ _ _ _ _ _ _ _ _ A,Bool.not_true,A.c0,e]
def wP(n l N u:Nat):J:= .bm [I (n:Int),I (l:Int),I (N:Int),I (u:Int)]
def MB(C:ad):Prop:=∀h T n N wd b now us nd,bx h T n N wd b now us nd->∃h',C (.fn 39) [.ptr T.a9 0] h=some (.ret (wP n (n-(iT wd n).length) N (N-(e4 us N).length)),h')/\aG h h' (λ_=>False)
theorem aAq{C:ad}(aN:qb C)(apg:MP C)(hle:Mh C)(hu:GL C)(A:bx h T n N wd b now us nd):∃h',HO C lf (.ptr T.a9 0) h=some (.ret (wP n (n-(iT wd n).length) N (N-(e4 us N).length)),h')/\aG h h' (λ_=>False):=by
 obtain⟨x,h',e,a,f⟩:=hu _ _ _ _ _ _ _ _ _ A;have jK:=A.gN;have P9:=BT us N
 have aL:eE aw 100 (.aZ T.aJ 0 N (some N) 0)=some (I (N:Int)):=by
  simp[eE,Tryd.underlying100]
 have yu:=ad7 a;have al:IntKind.i64.wrap ((N:Int)-((e4 us N).length:Int))=((N-(e4 us N).length:Nat):Int):=cL (by omega);have az:=apg _ _ _ _ _ _ A.st;have aA:=hle _ _ _ _ _ _ A.st
 have ai:∀{h1:U} (bK:List (Nat×Option Nat)) (ls:List Nat) (r:ab),(∀p∈bK,∀k,p.2=some k->k=T.a9)->cQ h h1 T.a9->eX (fC bK h h1 ls) r=r:=λbK ls r aC al=>G2 λp mN k e=>by
  have:=aC p mN k e
  subst this;exact⟨A.lt,FH A.wt,al⟩
 refine⟨h',?_,f⟩;unfold HO Ty Ob;simp only[aE,aN _ _ _ _ _ _ _ _ _ A,Bool.not_true,A.c0,A.aS,aL,az,aA];rw[ai _ _ _ (by intro p aC k e;simp[cq,kg] at aC;rcases aC with rfl|rfl|rfl|rfl<;>simp at e<;>exact e.symm) rfl];rw[ai _ _ _ (by intro p aC k e;simp[cq,kg] at aC;rcases aC with rfl|rfl|rfl|rfl<;>simp at e<;>exact e.symm) rfl];simp only[aE,e];rw[ai _ _ _ (by intro p aC k e;simp[cq,kg] at aC;rcases aC with rfl|rfl|rfl|rfl<;>simp at e<;>exact e.symm) (f.same _ A.lt (λe=>e))];simp only[aE,yu,al];rfl
end
structure eS where
 rt:Nat
 ro:Nat
 rb:Nat
 bw:Nat
structure bJ (h:U) (R:eS) (n N:Nat) (on:Nat->Bool) (q:Nat->Option Nat) (b:Nat->Nat) (now:Int) (us:Nat->Bool) (rd:Nat->Nat->J):Prop where
 pd:1<=N
 gN:N<=4096
 ref:gB h R.rt R.ro R.rb n on q b
 a2:h.cell R.rt 2=some (I (N:Int))
 cr:h.cell R.rt 3=some (I now)
 ct:∃cap lo,h.cell R.rt 4=some (.aZ R.bw 0 (N+1) cap lo)
 wt:h.wr R.rt 5
 wl:h.wr R.bw ((N+1)*308)
 kj:∀i c,i<N+1->c<308->h.cell R.bw (i*308+c)=some (rd i c)
 lX:∀i,i<N->rd (i+1) 0= .bool (us i)
 d1:R.bw≠R.rt
 d2:R.bw≠R.ro
 d3:R.bw≠R.rb
 d4:∀i k,i<n->q i=some k->k≠R.bw
 hO:R.bw<h.next
def sj(R:eS)(n:Nat)(q:Nat->Option Nat)(j:Nat):Prop:=j=R.bw\/KZ R.rt R.ro R.rb n q j
section
variable{lf:Nat}{h:U}{R:eS}{n N:Nat}{on:Nat->Bool}{q:Nat->Option Nat}{b:Nat->Nat}{now:Int}{us:Nat->Bool}{rd:Nat->Nat->J}
theorem bJ.j8(A:bJ h R n N on q b now us rd){j:Nat}(aa:sj R n q j):j<h.next:=by
 rcases aa with rfl|aa
 ·exact A.hO
 ·exact A.ref.j8 aa
theorem bJ.hK(A:bJ h R n N on q b now us rd){h':U}{S:Nat->Prop}(F:aG h h' S)(al:∀j,sj R n q j->¬S j):bJ h' R n N on q b now us rd:=by
 have st:cQ h h' R.rt:=F.same _ A.ref.lt (al _ (.inr (.inl rfl)));have aZ:cQ h h' R.bw:=F.same _ A.hO (al _ (.inl rfl));exact⟨A.pd,A.gN,A.ref.hK F λj aa=>al j (.inr aa),by rw[st.cell];exact A.a2,by rw[st.cell];exact A.cr,let ⟨cap,lo,e⟩:=A.ct;⟨cap,lo,by rw[st.cell];exact e⟩,fI A.wt st,fI A.wl aZ,λi c hi ae=>by rw[aZ.cell];exact A.kj i c hi ae,A.lX,A.d1,A.d2,A.d3,A.d4,Nat.lt_of_lt_of_le A.hO F.next⟩
def Mw(C:ad):Prop:=∀h (n m:Int),jT h-> -9223372036854775808<=n->n<9223372036854775808-> -9223372036854775808<=m->m<9223372036854775808->
 ((n<1\/4096<n\/m<1\/4096<m)->C (.fn 44) [I n,I m] h=some (.ret (.bm [.val (.pointer none),I 22]),h))/\
 (1<=n->n<=4096->1<=m->m<=4096->∃h' R,C (.fn 44) [I n,I m] h=some (.ret (.bm [.ptr R.rt 0,I 0]),h')/\
   bJ h' R n.toNat m.toNat (λ_=>false) (λ_=>none) (λ_=>0) 0 (λ_=>false) (λ_=>fA)/\(∀j,sj R n.toNat (λ_=>none) j->h.next<=j)/\aG h h' (λ_=>False))
theorem aAo{C:ad}(ue:Mv C){n m:Int}(an:jT h):
 ((n<1\/4096<n\/m<1\/4096<m)->CW C lf (I n) (I m) h=some (.ret (.bm [.val (.pointer none),I 22]),h))/\
 (1<=n->n<=4096->1<=m->m<=4096->∃h' R,CW C lf (I n) (I m) h=some (.ret (.bm [.ptr R.rt 0,I 0]),h')/\
   bJ h' R n.toNat m.toNat (λ_=>false) (λ_=>none) (λ_=>0) 0 (λ_=>false) (λ_=>fA)/\(∀j,sj R n.toNat (λ_=>none) j->h.next<=j)/\aG h h' (λ_=>False)):=by
 unfold CW TI Oe;refine⟨λag=>?_,λh1 h2 h3 aW=>?_⟩
 ·by_cases bX:n<1
  ·simp only[aE,bu bX]
  ·by_cases b2:4096<n
   ·simp only[aE,br bX,bu b2]
   ·by_cases hf:m<1
    ·simp only[aE,br bX,br b2,bu hf]
    ·have kF:4096<m:=by omega
     simp only[aE,br bX,br b2,br hf,bu kF]
 ·have bX:¬n<1:=by omega
  have b2:¬4096<n:=by omega
  have hf:¬m<1:=by omega
  have kF:¬4096<m:=by omega
  obtain⟨M,rfl⟩:∃M:Nat,m=M:=⟨m.toNat,by omega⟩;obtain⟨n,rfl⟩:∃M:Nat,n=M:=⟨n.toNat,by omega⟩;simp only[aE,br bX,br b2,br hf,br kF,aeM an];have iK:IntKind.i64.wrap ((M:Int)+1)=((M+1:Nat):Int):=cL (by omega);generalize PZ:(⟨h.aK,h.next+10,h.aV⟩:U)=g0 at *;have tC:g0.next=h.next+10:=by rw[<- PZ]
  have iz:aG h g0 (λ_=>False):=by rw[<- PZ];exact⟨rfl,Nat.le_add_right _ _,λ_ _ _=>rfl,λan j aa=>an j (by have:h.next+10<=j:=aa;omega)⟩
  have yg:∀j,h.next<=j->g0.aV.get j=none:=λj aa=>by rw[<- PZ];exact an j aa
  obtain⟨g1,y0,y1,ro,rb,az,V,aM,cb,cV⟩:=ue g0 n (by omega) (by omega) (iz.dA an);have cH:=aM.next
  have qT:∀(P:Prop) (i k:Nat),(λ_:Nat=>(none:Option Nat)) i=some k->P:=λP i k e=>by cases e
  have aik:∀j,K0 ro rb n (λ_=>none) j->h.next+10<=j:=λj aa=>by
   rcases aa with rfl|rfl|⟨i,_,e⟩
   ·omega
   ·omega
   ·cases e
  have tB:=V.tB;have tA:=V.tA;have a1:(db (.agg ⟨zeroV⟩)).cells=e2 fA:=by kernel_rfl
  have hlen:(e2 fA).length=308:=by rw[e2,List.length_map,List.length_range]
  have lL:=Xs (P:=aw) (t:=134) (s:=308) (b:=2464) (z:= .agg ⟨zeroV⟩) (k1:= .i64) (k2:= .i64) (l:=M+1) (c:=M+1) (base:=h.next) (i:=5) (h:=g1)
   Tryd.underlying134 (by kernel_rfl) (by kernel_rfl) (by kernel_rfl) (Nat.le_refl _) (by omega) (by omega) (by rw[a1,hlen]) (by omega)
  rw[a1] at lL;obtain⟨rK,uV,rfl⟩:=V.av;obtain⟨rL,pN,rfl⟩:=V.az
  have oF:hZ aw 136 [0,1,3] [.agg [.aZ ro 0 n rK uV,.aZ rb 0 n rL pN],I (M:Int),.aZ (h.next+5) 0 (M+1) (some (M+1)) 0]=
   some (.agg [.aZ ro 0 n rK uV,.aZ rb 0 n rL pN,I (M:Int),I 0,.aZ (h.next+5) 0 (M+1) (some (M+1)) 0]):=by kernel_rfl
  have nS:kt h.next (I ((M+1:Nat):Int))=true:=rfl
  generalize pI:iR _ ((M+1)*308) (e2 fA)=op at lL;have ars:op.n=(M+1)*308:=by rw[<- pI];rfl
  have art:op.ro=false:=by rw[<- pI];rfl
  generalize ij:g1.at (h.next+5) op=g2 at *;have cA:g2.next=g1.next:=by rw[<- ij];rfl
  have Fj:∀j,j≠h.next+5->cQ g1 g2 j:=λj aa=>by rw[<- ij];exact qe _ _ aa
  have cy:g2.wr (h.next+5) ((M+1)*308):=by rw[<- ij, <- ars];exact Xc art
  have gR:=w9 (e:=136) (x:= .agg [.aZ ro 0 n rK uV,.aZ rb 0 n rL pN,I (M:Int),I 0,.aZ (h.next+5) 0 (M+1) (some (M+1)) 0]) (h:=g2) rfl;have te:(J.agg [.aZ ro 0 n rK uV,.aZ rb 0 n rL pN,I (M:Int),I 0,.aZ (h.next+5) 0 (M+1) (some (M+1)) 0]).cells=[.aZ ro 0 n rK uV,.aZ rb 0 n rL pN,I (M:Int),I 0,.aZ (h.next+5) 0 (M+1) (some (M+1)) 0]:=rfl;rw[te] at gR;generalize AQ:dJ _ [.aZ ro 0 n rK uV,.aZ rb 0 n rL pN,I (M:Int),I 0,.aZ (h.next+5) 0 (M+1) (some (M+1)) 0]=or at gR;have arz:or.n=5:=by rw[<- AQ];rfl
  have arA:or.ro=false:=by rw[<- AQ];rfl
  have arB:∀i,or.get i=([.aZ ro 0 n rK uV,.aZ rb 0 n rL pN,I (M:Int),I 0,.aZ (h.next+5) 0 (M+1) (some (M+1)) 0]:List J)[i]?:=λi=>by rw[<- AQ,oR]
  generalize lJ:g2.new or=g3 at *;have gy:g3.next=g2.next+1:=by rw[<- lJ,im]
  have oS:∀j,j≠g2.next->cQ g2 g3 j:=λj aa=>by rw[<- lJ];exact n4 _ _ aa
  have fp:g3.wr g2.next 5:=by
   have:=lZ (h:=g2) (o:=or) arA
   rw[arz,lJ] at this;exact this
  have cr:∀i,g3.cell g2.next i=([.aZ ro 0 n rK uV,.aZ rb 0 n rL pN,I (M:Int),I 0,.aZ (h.next+5) 0 (M+1) (some (M+1)) 0]:List J)[i]?:=λi=>by rw[<- lJ,l6,arB]
  have ajw:rr g3 (.aZ ro 0 n rK uV) (.aZ rb 0 n rL pN) ro rb n (λ_=>false) (λ_=>none) (λ_=>0):=V.frame (by omega) λj aa=>(oS j (by have:=V.j8 aa;omega)).trans (Fj j (by have:=aik j aa;omega))
  have FE:g3.wr (h.next+5) ((M+1)*308):=fI cy (oS _ (by omega));refine⟨g3,⟨g2.next,ro,rb,h.next+5⟩,?_,?_,λj aa=>?_,?_⟩
  ·simp only[iK,az,nS,Bool.and_self,Cx,lL,aE,oF,gR]
  ·simp only[Int.toNat_natCast];refine⟨by omega,by omega,⟨⟨_,_,by rw[cr];rfl,by rw[cr];rfl,ajw⟩,⟨5,by omega,fp⟩,by show g2.next≠ro;omega,by show g2.next≠rb;omega,λi k _ e=>qT _ i k e,by show g2.next<_;omega⟩,by rw[cr];rfl,by rw[cr];rfl,⟨_,_,by rw[cr];rfl⟩,fp,FE,λi c hi ae=>?_,λi _=>rfl,by show h.next+5≠g2.next;omega,by show h.next+5≠ro;omega,by show h.next+5≠rb;omega,λi k _ e=>qT _ i k e,by show h.next+5<_;omega⟩;have ba:i*308+c<(M+1)*308:=by omega
   have DF:(i*308+c)%308=c:=by omega
   show g3.cell (h.next+5) _=_;rw[(oS _ (by omega)).cell, <- ij,Nh, <- pI,y9 _ _ ba,hlen,DF,e2,List.getElem?_map,List.getElem?_range ae];rfl
  ·rcases aa with rfl|rfl|aa
   ·show h.next<=h.next+5;omega
   ·show h.next<=g2.next;omega
   ·have:=aik j (by simpa only[Int.toNat_natCast] using aa);omega
  ·refine⟨?_,by omega,λj aa _=>?_,λan=>?_⟩
   ·rw[<- lJ, <- ij];exact aM.aK.trans iz.aK
   ·exact(oS j (by omega)).trans ((Fj j (by omega)).trans ((aM.same j (by omega) (λe=>e)).trans (iz.same j aa (λe=>e))))
   ·have h1:=aM.dA (iz.dA an);rw[<- lJ];refine xV (λj aa=>?_) _;rw[<- ij,vF,if_neg (by omega)];exact h1 j (by omega)
end
section
variable{lf:Nat}{h:U}{R:eS}{n N:Nat}{on:Nat->Bool}{q:Nat->Option Nat}{b:Nat->Nat}{now:Int}{us:Nat->Bool}{rd:Nat->Nat->J}
def Gx(C:ad):Prop:=∀h R n N on q b now us rd,bJ h R n N on q b now us rd->∃x h',C (.fn 84) [.ptr R.rt 0] h=some (.ret x,h')/\eN h h' x (e4 us N)/\aG h h' (λ_=>False)
theorem Ww{C:ad}{lf:Nat}{h0:U}(A:bJ h0 R n N on q b now us rd)(av:ay):∀(d i:Nat),i+d=N->∀f,d<f->∀h x,eN h0 h x (e4 us i)->aG h0 h (λ_=>False)->
 ∃bF h',bq (Bf C lf av) f (some (.ptr R.rt 0),some x,some (I ((i+1:Nat):Int))) h=av (some bF) h'/\eN h0 h' bF (e4 us N)/\aG h0 h' (λ_=>False)
 |0,i,hw,f,an,h,x,c7,F=>by
  obtain⟨f,rfl⟩:=dK f (by omega)
  have:i=N:=by omega
  subst this;have iy:=A.hK F λ_ _ e=>e
  refine⟨x,h,?_,c7,F⟩;rw[dr];unfold Bf EZ;have ba:decide (((i+1:Nat):Int)<=(i:Int))=false:=br (by omega);simp only[aE,iy.a2,ba]
 |d+1,i,hw,f,an,h,x,c7,F=>by
  obtain⟨f,rfl⟩:=dK f (by omega);have iy:=A.hK F λ_ _ e=>e
  have h2:=A.gN;obtain⟨cap,lo,ct⟩:=iy.ct;have ba:decide (((i+1:Nat):Int)<=(N:Int))=true:=bu (by omega);have dC:IntKind.i64.wrap (((i+1:Nat):Int)+1)=((i+1+1:Nat):Int):=cL (by omega);have b7:=gV (s:=308) (k:=R.bw) (off:=0) (len:=N+1) (lo:=lo) (cap:=cap) (kd:= .i64) (i:=((i+1:Nat):Int)) (by omega) (by omega);rw[Int.toNat_natCast,Nat.zero_add] at b7;have ae:=iy.kj (i+1) 0 (by omega) (by omega);rw[Nat.add_zero,iy.lX i (by omega)] at ae;rw[dr];show ∃bF h',EZ C lf (λx0 x3 bC h=>bq (Bf C lf av) f (x0,x3,bC) h) av (some (.ptr R.rt 0)) (some x) (some (I ((i+1:Nat):Int))) h=av (some bF) h'/\_;unfold EZ;cases aq:us i with
  |false=>
   rw[aq] at ae;simp only[aE,iy.a2,ba,ct,b7,Nat.add_zero,ae,dC];have e:e4 us (i+1)=e4 us i:=by rw[Lu,aq];simp
   exact Ww A av d (i+1) (by omega) f (by omega) h x (by rw[e];exact c7) F
  |true=>
   rw[aq] at ae;have e:e4 us (i+1)=e4 us i++[i+1]:=by rw[Lu,aq];rfl
   have aL:=BT us i;obtain⟨bF,h',ak,aD,a7,cw,dB,dU,gg,ie⟩:=uo (y:=I ((i+1:Nat):Int)) sP rfl rfl rfl c7.aZ (by omega) (by omega);simp only[aE,iy.a2,ba,ct,b7,Nat.add_zero,ae,dC,ak,aD];refine Ww A av d (i+1) (by omega) f (by omega) h' bF ⟨?_,λj aa=>?_⟩ ⟨dB.trans F.aK,Nat.le_trans F.next cw,λj aa _=>(dU j (Nat.lt_of_lt_of_le aa F.next) (λaI=>absurd (c7.new j aI) (by omega))).trans (F.same j aa (λe=>e)),λan=>ie (F.dA an)⟩
   ·rw[e]
    have:ints (e4 us i++[i+1])=ints (e4 us i)++[I ((i+1:Nat):Int)]:=by simp[ints]
    rw[this,List.length_append];exact a7
   ·rcases gg j aa with aI|aI
    ·exact c7.new j aI
    ·exact Nat.le_trans F.next aI
theorem aA0{C:ad}(gu:4098<=lf)(A:bJ h R n N on q b now us rd):∃x h',Ih C lf (.ptr R.rt 0) h=some (.ret x,h')/\eN h h' x (e4 us N)/\aG h h' (λ_=>False):=by
 have h2:=A.gN;obtain⟨bF,h',cb,cV,lQ⟩:=Ww (lf:=lf) (C:=C) A (λx3 h=>Ku C lf Hv x3 h) N 0 (by omega) lf (by omega) h (.val (.slice none 0 0)) ⟨hH.nil _ _ _,λj aa=>by cases aa⟩ (aG.refl h _);refine⟨bF,h',?_,cV,lQ⟩;unfold Ih Vs Vr Vq Vp Vo Vn Vm;refine Eq.trans cb ?_;unfold Ku Hv;simp only[ch,cd]
def Mx(C:ad):Prop:=∀h R n N on q b now us rd,bJ h R n N on q b now us rd->∃h',C (.fn 80) [.ptr R.rt 0] h=some (.ret (wP n (n-(eR on n).length) N (N-(e4 us N).length)),h')/\aG h h' (λ_=>False)
theorem aAM{C:ad}(hle:Gp C)(hu:Gx C)(A:bJ h R n N on q b now us rd):∃h',Ic C lf (.ptr R.rt 0) h=some (.ret (wP n (n-(eR on n).length) N (N-(e4 us N).length)),h')/\aG h h' (λ_=>False):=by
 obtain⟨x,h',e,a,f⟩:=hu _ _ _ _ _ _ _ _ _ _ A;have jK:=A.gN;have P9:=BT us N;obtain⟨x0,x1,c0,aS,V⟩:=A.ref.v;obtain⟨cap,lo,rfl⟩:=V.av;have aL:=uS (k:=R.ro) (off:=0) (len:=n) (cap:=cap) (lo:=lo) Tryd.underlying41;have yu:=ad7 a;have al:IntKind.i64.wrap ((N:Int)-((e4 us N).length:Int))=((N-(e4 us N).length:Nat):Int):=cL (by omega);have aA:=hle _ _ _ _ _ _ _ _ A.ref
 have ai:∀{h1:U} (bK:List (Nat×Option Nat)) (ls:List Nat) (r:ab),(∀p∈bK,∀k,p.2=some k->k=R.rt)->cQ h h1 R.rt->eX (fC bK h h1 ls) r=r:=λbK ls r aC al=>G2 λp mN k e=>by
  have:=aC p mN k e
  subst this;exact⟨A.ref.lt,FH A.wt,al⟩
 refine⟨h',?_,f⟩;unfold Ic Vf OF;simp only[aE,c0,aL,A.a2,aA];rw[ai _ _ _ (by intro p aC k e;simp[cq,kg] at aC;rcases aC with rfl|rfl|rfl<;>simp at e<;>exact e.symm) rfl];simp only[aE,e];rw[ai _ _ _ (by intro p aC k e;simp[cq,kg] at aC;rcases aC with rfl|rfl|rfl<;>simp at e<;>exact e.symm) (f.same _ A.ref.lt (λe=>e))];simp only[aE,yu,al];rfl
def vt(C:ad):Prop:=∀h (e:Int),C (.fn 34) [I e] h=some (.ret (I e),h)
theorem arb{C:ad}{e:Int}:HN C lf (I e) h=some (.ret (I e),h):=by
 unfold HN Th N9;simp only[aE]
theorem agS(n l N u:Nat):ext 0 (wP n l N u)=some (I (n:Int))/\ext 1 (wP n l N u)=some (I (l:Int))/\ext 2 (wP n l N u)=some (I (N:Int))/\ext 3 (wP n l N u)=some (I (u:Int)):=⟨rfl,rfl,rfl,rfl⟩
def MC(C:ad):Prop:=∀h T R n N wd b b' q now us nd Rk eh rd,bx h T n N wd b now us nd->bJ h R n N (bQ wd) q b' Rk eh rd->(e4 us N).length=(e4 eh N).length->
 ∃h',C (.fn 45) [.ptr T.a9 0,.ptr R.rt 0] h=some (.ret (.bool true),h')/\aG h h' (λ_=>False)
theorem aAr{C:ad}{T:ei}{wd b':Nat->Nat}{Rk:Int}{eh:Nat->Bool}{nd:Nat->Nat->J}(aI:MB C)(apa:Mx C)(A:bx h T n N wd b now us nd)(B:bJ h R n N (bQ wd) q b' Rk eh rd)(aL:(e4 us N).length=(e4 eh N).length):
 ∃h',HR C lf (.ptr T.a9 0) (.ptr R.rt 0) h=some (.ret (.bool true),h')/\aG h h' (λ_=>False):=by
 obtain⟨h1,az,aM⟩:=aI _ _ _ _ _ _ _ _ _ A;obtain⟨h2,aA,bD⟩:=apa _ _ _ _ _ _ _ _ _ _ (B.hK aM λ_ _ e=>e);obtain⟨ae0,bT,cm,fe⟩:=agS n (n-(iT wd n).length) N (N-(e4 us N).length);obtain⟨fW,dc,du,fm⟩:=agS n (n-(eR (bQ wd) n).length) N (N-(e4 us N).length);have d1:(((n-(eR (bQ wd) n).length:Nat):Int))=((n-(iT wd n).length:Nat):Int):=rfl;rw[d1] at dc;refine⟨h2,?_,aM.trans bD⟩;unfold HR TJ Of;rw[<- aL] at aA;simp only[ch,cd,kh,az,aA,ae0,bT,cm,fe,fW,dc,du,fm,M5,decide_true,Pn,Xt]
end
section
theorem ZR{P:Program}{t e:TypeId}{k off:Nat}(hu:P.underlying t=some (.pointer e)):bin P .eql t (.ptr k off) (.val (.pointer none))=some (.bool false):=akz hu
theorem amB{P:Program}{t e:TypeId}(hu:P.underlying t=some (.pointer e)):bin P .eql t (.val (.pointer none)) (.val (.pointer none))=some (.bool true):=by
 rw[ur];show sY P .eql t _ _=_;simp[sY,uz,uy,hu]
variable{lf:Nat}{C:ad}
end
structure dL where
 wd:Nat->Nat
 b:Nat->Nat
 nd:Nat->Nat->J
 bl:Nat->Nat->Nat
def qV(wd:Nat->Nat)(j:Nat):Nat->Nat:=de wd (j/64) (q1 (wd (j/64)) (j%64))
def dL.take(s:dL)(i c j:Nat):dL:=⟨qV s.wd j,gl s.b j,cT s.nd i c (I ((j+1:Nat):Int)),ka s.bl i c (j+1)⟩
def dL.back(s:dL)(i c:Nat):dL:=⟨wD s.wd (s.bl i c-1),s.b,cT s.nd i c (I 0),ka s.bl i c 0⟩
def et(i:Nat)(bk:List Nat)(s:dL):dL:=bk.foldl (λs c=>s.back i c) s
def low(n:Nat)(wd:Nat->Nat):Option Nat:=(List.range n).find? λj=>!bQ wd j
theorem aeq{n:Nat}{wd:Nat->Nat}(h:low n wd=none):∀j,j<n->bQ wd j=true:=λj aa=>by
 have:=List.find?_eq_none.1 h j (List.mem_range.2 aa)
 simpa using this
theorem Rd{n:Nat}{wd:Nat->Nat}{i:Nat}(h:low n wd=some i):i<n/\bQ wd i=false/\∀j,j<i->bQ wd j=true:=by
 unfold low at h;obtain⟨h1,cb,cV,h2,h3⟩:=List.find?_eq_some_iff_append.1 h;have hi:i∈List.range n:=by rw[h2];simp
 have je:=List.mem_range.1 hi;refine⟨je,by simpa using h1,λj aa=>?_⟩
 have aL:cb.length=i:=by
  have aW:(List.range n)[cb.length]?=some i:=by rw[h2];simp
  have bz:cb.length<n:=by
   have bB:=(List.getElem?_eq_some_iff.1 aW).1;simpa using bB
  rw[List.getElem?_range bz] at aW;simpa using aW
 have dW:j∈cb:=by
  have gE:(List.range n)[j]?=some j:=List.getElem?_range (by omega);rw[h2,List.getElem?_append_left (by omega)] at gE;exact List.mem_of_getElem? gE
 simpa using h3 j dW
def dp(n i:Nat):List Nat->dL->List Nat->dL×List Nat×Bool
 | [],s,bk=>(s,bk,true)
 |c::cs,s,bk=>if 0<s.bl i c then dp n i cs s bk else match low n s.wd with
  |none=>(s,bk,false)
  |some j=>dp n i cs (s.take i c j) (bk++[c])
section
variable{h h':U}{T:ei}{n N:Nat}{wd b dg b':Nat->Nat}{now:Int}{us:Nat->Bool}{nd:Nat->Nat->J}{bl:Nat->Nat->Nat}{i c j:Nat}
theorem Js(_:∀i,wd i<2 ^ 64){j gW:Nat}:bQ (qV wd j) gW=(bQ wd gW||decide (gW=j)):=by
 unfold qV;rw[aeQ];split
 ·rename_i e;rw[afd];unfold bQ;rw[e];congr 1;by_cases h:gW=j
  ·subst h;simp
  ·have:gW%64≠j%64:=by omega
   simp[h,this]
 ·rename_i e
  have:gW≠j:=λh=>e (by rw[h])
  simp[this]
theorem aeS(hw:∀i,wd i<2 ^ 64)(j:Nat):∀i,qV wd j i<2 ^ 64:=λi=>by
 unfold qV;by_cases e:i=j/64
 ·subst e;rw[kS];exact afe (hw _) (Nat.mod_lt _ (by omega))
 ·rw[ix _ _ e];exact hw i
theorem arj(hw:∀i,wd i<2 ^ 64)(j:Nat):∀i,wD wd j i<2 ^ 64:=λi=>by
 unfold wD;by_cases e:i=j/64
 ·subst e;rw[kS];exact Nat.and_lt_two_pow _ (by have:2 ^ (j%64)>0:=Nat.two_pow_pos _;omega)
 ·rw[ix _ _ e];exact hw i
theorem aDt(h1:∀i,wd i<2 ^ 64)(h2:∀i,dg i<2 ^ 64)(h:∀j,bQ wd j=bQ dg j):wd=dg:=by
 funext i
 apply Nat.eq_of_testBit_eq;intro c;by_cases ae:c<64
 ·have:=h (i*64+c)
  unfold bQ at this;rw[show(i*64+c)/64=i by omega,show(i*64+c)%64=c by omega] at this;exact this
 ·rw[Nat.testBit_lt_two_pow (Nat.lt_of_lt_of_le (h1 i) (Nat.pow_le_pow_right (by omega) (by omega))),Nat.testBit_lt_two_pow (Nat.lt_of_lt_of_le (h2 i) (Nat.pow_le_pow_right (by omega) (by omega)))]
theorem c1.take(M:c1 n N wd nd bl)(hw:∀i,wd i<2 ^ 64)(hi:i<N)(dG:12<=c)(ae:c<308)(aa:j<n)(jL:bQ wd j=false):
 c1 n N (qV wd j) (cT nd i c (I ((j+1:Nat):Int))) (ka bl i c (j+1)):=by
 have b4:∀i' a3,i'<N->12<=a3->a3<308->bl i' a3≠j+1:=λi' a3 ak aD a7 e=>by
  have:=M.on i' a3 ak aD a7 (by omega)
  rw[e,Nat.add_sub_cancel,jL] at this;cases this
 refine⟨λi' a3 cF nN fr=>?_,λi' a3=>?_,λi' a3 cF nN fr aC=>?_,λi1 aS i2 a2 nb h1 jt nc h2 mH aC he=>?_⟩
 ·by_cases e:i'=i/\a3=c
  ·obtain⟨rfl,rfl⟩:=e;rw[mU,sn]
  ·rw[ho _ _ (by omega),np _ _ (by omega)];exact M.cell i' a3 cF nN fr
 ·unfold ka;split
  ·omega
  ·exact M.le i' a3
 ·rw[Js hw];by_cases e:i'=i/\a3=c
  ·obtain⟨rfl,rfl⟩:=e;rw[sn,Nat.add_sub_cancel];simp
  ·rw[np _ _ (by omega)] at aC⊢;rw[M.on i' a3 cF nN fr aC];rfl
 ·by_cases az:i1=i/\aS=c
  ·by_cases aA:i2=i/\a2=c
   ·omega
   ·obtain⟨rfl,rfl⟩:=az;rw[sn,np _ _ (by omega)] at he;exact absurd he.symm (b4 i2 a2 nc h2 mH)
  ·rw[np _ _ (by omega)] at aC he;by_cases aA:i2=i/\a2=c
   ·obtain⟨rfl,rfl⟩:=aA;rw[sn] at he;exact absurd he (b4 i1 aS nb h1 jt)
   ·rw[np _ _ (by omega)] at he;exact M.inj i1 aS i2 a2 nb h1 jt nc h2 mH aC he
end
inductive oi (n i:Nat) (gZ:dL):List Nat->dL->Prop
 |nil:oi n i gZ [] gZ
 |snoc {bk:List Nat} {s:dL} {c j:Nat}:oi n i gZ bk s->s.bl i c=0->12<=c->c<308->j<n->bQ s.wd j=false->oi n i gZ (bk++[c]) (s.take i c j)
section
variable{n N i:Nat}{gZ s:dL}{bk:List Nat}
structure ajs (n N i:Nat) (gZ:dL) (bk:List Nat) (s:dL):Prop where
 M:c1 n N s.wd s.nd s.bl
 iU:∀j,s.wd j<2 ^ 64
 out:∀i' c,i'≠i\/c ∉ bk->s.bl i' c=gZ.bl i' c
 Rs:∀i' c,i'≠i\/c ∉ bk->s.nd i' c=gZ.nd i' c
 o2:∀c,c∈bk->gZ.bl i c=0/\12<=c/\c<308/\0<s.bl i c/\bQ gZ.wd (s.bl i c-1)=false/\s.bl i c<=n
 on:∀j,bQ s.wd j=true↔(bQ gZ.wd j=true\/∃c,c∈bk/\s.bl i c=j+1)
 Cv:∀p,bQ gZ.wd (p/64)=true->s.b p=gZ.b p
 z:∀c,c∈bk->∀t,t<64->s.b ((s.bl i c-1)*64+t)=0
 eU:bk.Nodup
 alu:((List.range n).filter (bQ s.wd)).length=((List.range n).filter (bQ gZ.wd)).length+bk.length
theorem Zi{n j:Nat}{f g:Nat->Bool}(aa:j<n)(an:f j=false)(bd:∀k,g k=(f k||decide (k=j))):((List.range n).filter g).length=((List.range n).filter f).length+1:=by
 induction n with
 |zero=>omega
 |succ n bc=>
  rw[List.range_succ,List.filter_append,List.filter_append,List.length_append,List.length_append];by_cases e:j=n
  ·subst e
   have h1:(List.range j).filter g=(List.range j).filter f:=List.filter_congr λk ai=>by
    have:=List.mem_range.1 ai
    rw[bd];simp;omega
   rw[h1];simp[List.filter,an,bd]
  ·rw[bc (by omega)];have h2:g n=f n:=by rw[bd];simp;omega
   simp only[List.filter,h2];omega
theorem oi.props(t:oi n i gZ bk s)(hi:i<N)(M:c1 n N gZ.wd gZ.nd gZ.bl)(hw:∀j,gZ.wd j<2 ^ 64):ajs n N i gZ bk s:=by
 induction t with
 |nil=>exact⟨M,hw,λ_ _ _=>rfl,λ_ _ _=>rfl,λc ae=>(by cases ae),λj=>(by simp),λ_ _=>rfl,λc ae=>(by cases ae),List.nodup_nil,(by simp)⟩
 | @snoc bk s c j t h0 dG ae aa jL bc=>
   have rV:c ∉ bk:=λe=>by have:=(bc.o2 c e).2.2.2.1;omega
   have adi:bQ gZ.wd j=false:=by
    cases ag:bQ gZ.wd j with
    |false=>rfl
    |true=>have:=(bc.on j).2 (.inl ag);rw[jL] at this;cases this
   have nP:∀a3,a3∈bk->(s.take i c j).bl i a3=s.bl i a3:=λa3 fr=>np _ _ (.inr λe=>rV (e▸fr))
   have Dq:(s.take i c j).bl i c=j+1:=sn _ _ _ _;refine⟨bc.M.take bc.iU hi dG ae aa jL,aeS bc.iU j,λi' a3 h=>?_,λi' a3 h=>?_,λa3 h=>?_,λgW=>?_,λp aC=>?_,λa3 h t aN=>?_,?_,?_⟩
   ·have:i'≠i\/a3≠c:=by
     rcases h with h|h
     ·exact .inl h
     ·exact .inr λe=>h (by simp[e])
    show ka s.bl i c (j+1) i' a3=_;rw[np _ _ this];exact bc.out i' a3 (h.imp id λh e=>h (by simp[e]))
   ·have:i'≠i\/a3≠c:=by
     rcases h with h|h
     ·exact .inl h
     ·exact .inr λe=>h (by simp[e])
    show cT s.nd i c _ i' a3=_;rw[ho _ _ this];exact bc.Rs i' a3 (h.imp id λh e=>h (by simp[e]))
   ·rcases List.mem_append.1 h with h|h
    ·rw[nP a3 h];exact bc.o2 a3 h
    ·have e:a3=c:=by simpa using h
     subst e;rw[Dq,Nat.add_sub_cancel];exact⟨by rw[<- bc.out i a3 (.inr rV)];exact h0,dG,ae,by omega,adi,by omega⟩
   ·show bQ (qV s.wd j) gW=true↔_;rw[Js bc.iU,Bool.or_eq_true,bc.on gW,decide_eq_true_eq];constructor
    ·rintro ((e|⟨a3,az,aA⟩)|e)
     ·exact .inl e
     ·exact .inr ⟨a3,by simp[az],by rw[nP a3 az];exact aA⟩
     ·exact .inr ⟨c,by simp,by rw[Dq,e]⟩
    ·rintro (e|⟨a3,az,aA⟩)
     ·exact .inl (.inl e)
     ·rcases List.mem_append.1 az with h|h
      ·exact .inl (.inr ⟨a3,h,by rw[<- nP a3 h];exact aA⟩)
      ·have e:a3=c:=by simpa using h
       subst e;rw[Dq] at aA;exact .inr (by omega)
   ·show gl s.b j p=_;unfold gl
    rw[if_neg λe=>by
     have:p/64=j:=by omega
     rw[this,adi] at aC;cases aC]
    exact bc.Cv p aC
   ·show gl s.b j _=0;unfold gl;rcases List.mem_append.1 h with h|h
    ·rw[nP a3 h];split
     ·rfl
     ·exact bc.z a3 h t aN
    ·have e:a3=c:=by simpa using h
     subst e;rw[Dq,if_pos (by omega)]
   ·exact List.nodup_append.2 ⟨bc.eU,by simp,λa b1 b ag e=>rV (by
     have:b=c:=by simpa using ag
     rw[<- this, <- e];exact b1)⟩
   ·show((List.range n).filter (bQ (qV s.wd j))).length=_;rw[Zi (g:=bQ (qV s.wd j)) aa jL λk=>Js bc.iU,bc.alu,List.length_append];rfl
theorem M3:∀(bk:List Nat) (s:dL),bk.Nodup->(∀j,s.wd j<2 ^ 64)->(∀c,c∈bk->0<s.bl i c)->
 (∀j,(et i bk s).wd j<2 ^ 64)/\(et i bk s).b=s.b/\(∀i' c,(et i bk s).bl i' c=if i'=i/\c∈bk then 0 else s.bl i' c)/\(∀i' c,(et i bk s).nd i' c=if i'=i/\c∈bk then I 0 else s.nd i' c)/\
   (∀j,bQ (et i bk s).wd j=true↔(bQ s.wd j=true/\∀c,c∈bk->s.bl i c≠j+1))
 | [],s,_,hw,_=>⟨hw,rfl,λi' c=>by simp[et],λi' c=>by simp[et],λj=>by simp[et]⟩
 |c::bk,s,aO,hw,aC=>by
  obtain⟨DG,gb⟩:=List.nodup_cons.1 aO;have b4:∀a3,a3∈bk->(s.back i c).bl i a3=s.bl i a3:=λa3 h=>np _ _ (.inr λe=>DG (e▸h))
  obtain⟨ak,aD,a7,cw,dB⟩:=M3 bk (s.back i c) gb (arj hw _) λa3 h=>by rw[b4 a3 h];exact aC a3 (by simp[h])
  have ae:=aC c (by simp);refine⟨ak,aD,λi' a3=>?_,λi' a3=>?_,λj=>?_⟩
  ·show(et i bk (s.back i c)).bl i' a3=_;rw[a7];by_cases e:i'=i/\a3∈bk
   ·rw[if_pos e,if_pos ⟨e.1,by simp[e.2]⟩]
   ·rw[if_neg e];show ka s.bl i c 0 i' a3=_;unfold ka;by_cases aA:i'=i/\a3=c
    ·rw[if_pos aA,if_pos ⟨aA.1,by simp[aA.2]⟩]
    ·rw[if_neg aA,if_neg λh=>by
      rcases List.mem_cons.1 h.2 with h3|h3
      ·exact aA ⟨h.1,h3⟩
      ·exact e ⟨h.1,h3⟩]
  ·show(et i bk (s.back i c)).nd i' a3=_;rw[cw];by_cases e:i'=i/\a3∈bk
   ·rw[if_pos e,if_pos ⟨e.1,by simp[e.2]⟩]
   ·rw[if_neg e];show cT s.nd i c (I 0) i' a3=_;unfold cT;by_cases aA:i'=i/\a3=c
    ·rw[if_pos aA,if_pos ⟨aA.1,by simp[aA.2]⟩]
    ·rw[if_neg aA,if_neg λh=>by
      rcases List.mem_cons.1 h.2 with h3|h3
      ·exact aA ⟨h.1,h3⟩
      ·exact e ⟨h.1,h3⟩]
  ·show bQ (et i bk (s.back i c)).wd j=true↔_;rw[dB];show(bQ (wD s.wd (s.bl i c-1)) j=true/\_)↔_;rw[Rn hw,Bool.and_eq_true,decide_eq_true_eq];constructor
   ·rintro ⟨⟨az,aA⟩,cj⟩
    refine⟨az,λa3 h=>?_⟩;rcases List.mem_cons.1 h with rfl|h
    ·omega
    ·rw[<- b4 a3 h];exact cj a3 h
   ·rintro ⟨az,aA⟩
    refine⟨⟨az,λe=>aA c (by simp) (by omega)⟩,λa3 h=>?_⟩;rw[b4 a3 h];exact aA a3 (by simp[h])
theorem oi.aDc(t:oi n i gZ bk s)(hi:i<N)(M:c1 n N gZ.wd gZ.nd gZ.bl)(hw:∀j,gZ.wd j<2 ^ 64):
 (et i bk s).wd=gZ.wd/\(et i bk s).nd=gZ.nd/\(et i bk s).bl=gZ.bl/\∀p,bQ gZ.wd (p/64)=true->(et i bk s).b p=gZ.b p:=by
 have P:=t.props hi M hw;obtain⟨ak,aD,a7,cw,dB⟩:=M3 (i:=i) bk s P.eU P.iU λc h=>(P.o2 c h).2.2.2.1
 refine⟨aDt ak hw λj=>?_,?_,?_,λp aC=>by rw[aD];exact P.Cv p aC⟩
 ·rw[Bool.eq_iff_iff,dB,P.on];constructor
  ·rintro ⟨e|⟨c,az,aA⟩,cj⟩
   ·exact e
   ·exact absurd aA (cj c az)
  ·intro e;refine⟨.inl e,λc h aA=>?_⟩
   have:=(P.o2 c h).2.2.2.2.1
   rw[aA,Nat.add_sub_cancel,e] at this;cases this
 ·funext i' c
  rw[cw];by_cases e:i'=i/\c∈bk
  ·rw[if_pos e,e.1];obtain⟨cN,cy,fp,_⟩:=P.o2 c e.2;rw[M.cell i c hi cy fp,cN];rfl
  ·rw[if_neg e];exact P.Rs i' c (by by_cases h:i'=i;exact .inr λh2=>e ⟨h,h2⟩;exact .inl h)
 ·funext i' c
  rw[a7];by_cases e:i'=i/\c∈bk
  ·rw[if_pos e,e.1,(P.o2 c e.2).1]
  ·rw[if_neg e];exact P.out i' c (by by_cases h:i'=i;exact .inr λh2=>e ⟨h,h2⟩;exact .inl h)
theorem xT:∀(cs:List Nat) (s:dL) (bk:List Nat),oi n i gZ bk s->(∀c,c∈cs->12<=c/\c<308)->oi n i gZ (dp n i cs s bk).2.1 (dp n i cs s bk).1
 | [],s,bk,t,_=>t
 |c::cs,s,bk,t,ae=>by
  unfold dp;by_cases e:0<s.bl i c
  ·rw[if_pos e];exact xT cs s bk t λa3 h=>ae a3 (by simp[h])
  ·rw[if_neg e];cases aL:low n s.wd with
   |none=>exact t
   |some j=>
    obtain⟨cb,cV,_⟩:=Rd aL;exact xT cs _ _ (.snoc t (by omega) (ae c (by simp)).1 (ae c (by simp)).2 cb cV) λa3 h=>ae a3 (by simp[h])
theorem OR:∀(cs:List Nat) (s:dL) (bk:List Nat),(dp n i cs s bk).2.2=false->(∀j,j<n->bQ (dp n i cs s bk).1.wd j=true)/\(dp n i cs s bk).2.1.length<bk.length+cs.length
 | [],s,bk,h=>by cases h
 |c::cs,s,bk,h=>by
  unfold dp at h⊢;by_cases e:0<s.bl i c
  ·rw[if_pos e] at h⊢;obtain⟨h1,h2⟩:=OR cs s bk h;exact⟨h1,by simp only[List.length_cons];omega⟩
  ·rw[if_neg e] at h⊢;cases aL:low n s.wd with
   |none=>exact⟨aeq aL,by simp only[List.length_cons];omega⟩
   |some j=>
    rw[aL] at h;obtain⟨h1,h2⟩:=OR cs _ _ h;exact⟨h1,by simp only[List.length_append,List.length_cons,List.length_nil] at h2⊢;omega⟩
theorem Hw:∀(cs:List Nat) (s:dL) (bk:List Nat),(dp n i cs s bk).2.2=true->(∀c,0<s.bl i c->0<(dp n i cs s bk).1.bl i c)/\(∀c,c∈cs->0<(dp n i cs s bk).1.bl i c)
 | [],s,bk,_=>⟨λ_ h=>h,λc h=>by cases h⟩
 |c::cs,s,bk,h=>by
  unfold dp at h⊢;by_cases e:0<s.bl i c
  ·rw[if_pos e] at h⊢;obtain⟨h1,h2⟩:=Hw cs s bk h;refine⟨h1,λa3 ae=>?_⟩;rcases List.mem_cons.1 ae with rfl|ae
   ·exact h1 a3 e
   ·exact h2 a3 ae
  ·rw[if_neg e] at h⊢;cases aL:low n s.wd with
   |none=>rw[aL] at h;cases h
   |some j=>
    rw[aL] at h;obtain⟨h1,h2⟩:=Hw cs _ _ h
    have h3:0<(s.take i c j).bl i c:=by
     show 0<ka s.bl i c (j+1) i c;rw[sn];omega
    refine⟨λa3 aC=>h1 a3 ?_,λa3 ae=>?_⟩
    ·show 0<ka s.bl i c (j+1) i a3;unfold ka;split
     ·omega
     ·exact aC
    ·rcases List.mem_cons.1 ae with rfl|ae
     ·exact h1 a3 h3
     ·exact h2 a3 ae
end
theorem aj9{P:Program}{h:U}{t u e sz b k off len lo n:Nat}{y:J}{olds news:List J}(T:sv P t u e sz b)(hm:∃m,h.mt k=some m)(aq:h.cells k off (len*sz)=some olds)(he:kY h.x0 sz y=some (n,news))(gv:news.length=n*sz)
 (gw:dZ news=true)(aO:1<=n)(ae:len+n<=140737488355328)(td:(len+n)*b<=140737488355328):
 gk P .append #[t,u] [.aZ k off len (some len) lo,y] h=some (.aZ h.next 0 (len+n) none 0,h.new (yU e sz (olds++news))):=by
 rw[LN T he gv gw];obtain⟨m,hm⟩:=hm;unfold U.mt at hm;cases hM:h.aV.get k with
 |none=>simp[hM] at hm
 |some o=>
  have bX:Nat.ble (len+n) len=false:=by
   cases ag:Nat.ble (len+n) len with
   |false=>rfl
   |true=>exact absurd (Nat.le_of_ble_eq_true ag) (by omega)
  have aL:j4 o off (len*sz)=some olds:=by rw[Bj hM];exact aq
  simp only[lA,U.so,hM,force_eq,bX,cond_false,aL];exact MZ ae td
abbrev mE:Nat:=0
noncomputable def nI:TypeId:=match aw.underlying 143 with
 |some (.slice e)=>e
 |_=>0
theorem rC:sv aw 143 143 nI 1 8:=
 ⟨by kernel_rfl,by kernel_rfl,⟨.pointer none,by kernel_rfl,rfl⟩,by kernel_rfl,⟨_,Tryd.underlying143,rfl⟩,Nat.le_refl 1⟩
theorem hr.same{h h':U}(A:hr h)(s:cQ h h' mE)(aO:h'.aK=h.aK):hr h':=⟨by rw[aO];exact A.1,λi hi=>by rw[s.cell];exact A.2 i hi⟩
theorem hr.dA{h h':U}{S:Nat->Prop}(A:hr h)(F:aG h h' S)(aO:mE<h.next)(al:¬S mE):hr h':=A.same (F.same _ aO al) F.aK
def jN(aJ i:Nat)(cs:List Nat):List J:=cs.map λc=>J.ptr aJ (i*308+c)
structure ajh (T:ei):Prop where
 s:mE≠T.bO
 d:mE≠T.kd
 n:mE≠T.aJ
structure xi (h0 h:U) (T:ei) (n N:Nat) (now:Int) (us:Nat->Bool) (s:dL) (i hC fz:Nat) (bk:List Nat):Prop where
 A:bx h T n N s.wd s.b now us s.nd
 M:c1 n N s.wd s.nd s.bl
 jF:hr h
 F:aG h0 h (λj=>j=T.bO\/j=T.kd\/j=T.aJ)
 cr:h.cell hC 0=some (.ptr T.a9 0)
 gy:h0.next<=hC
 lQ:hC<h.next
 pt:∃x,h.cell fz 0=some x/\hH h nI 1 x bk.length (jN T.aJ i bk)/\∀j,rowOf x=some j->h0.next<=j/\j≠hC/\j≠fz
 W9:h.wr fz 1
 yY:h0.next<=fz
 Q0:fz<h.next
 d:hC≠fz
structure ny (h0:U) (T:ei):Prop where
 t:T.a9<h0.next
 s:T.bO<h0.next
 d:T.kd<h0.next
 n:T.aJ<h0.next
 g:mE<h0.next
 aK:ajh T
section
variable{lf:Nat}{h0 h:U}{T:ei}{n N:Nat}{now:Int}{us:Nat->Bool}{s:dL}{i hC fz:Nat}{bk:List Nat}
theorem amZ{C:ad}(ns:B1 C)(O:ny h0 T)(hi:i<N)(X:xi h0 h T n N now us s i hC fz bk){c j:Nat}(dG:12<=c)(ae:c<308)(aL:low n s.wd=some j)(aN:bk.length<=1000):
 ∃h1 h2 h3 aW x bF,C (.fn 17) [.ptr T.bO 0] h=some (.ret (.bm [I (j:Int),I 0]),h1)/\
  st 1 (.ptr T.aJ (i*308+c)) (I ((j+1:Nat):Int)) h1=some h2/\
  h2.cell fz 0=some x/\
  ib aw 143 1 [0] [.ptr T.aJ (i*308+c)] h2=some (.aZ h1.next 0 1 (some 1) 0,h2.new (dJ nI [.ptr T.aJ (i*308+c)]))/\
  gk aw .append #[143,143] [x,.aZ h1.next 0 1 (some 1) 0] (h2.new (dJ nI [.ptr T.aJ (i*308+c)]))=some (bF,h3)/\
  st 1 (.ptr fz 0) bF h3=some aW/\xi h0 aW T n N now us (s.take i c j) i hC fz (bk++[c])/\h.cell fz 0=some x/\aW.cell fz 0=some bF/\(∀j,rowOf bF=some j->rowOf x=some j\/h.next<=j)/\h.next<=aW.next/\
  (∀j,h0.next<=j->j<h.next->j≠fz->rowOf x≠some j->cQ h aW j):=by
 obtain⟨cb,cV,lQ⟩:=Rd aL;have gb:=X.A.st.cA;obtain⟨h1,az,jn,aM⟩:=(ns h T.bO T.kd n s.wd s.b X.A.st X.jF).2 j cb cV lQ;have aT:=X.F.next
 have aBp:cQ h h1 T.a9:=aM.same _ X.A.lt (λe=>by rcases e with e|e;exact X.A.d1 e;exact X.A.d2 e);have aBo:cQ h h1 T.aJ:=aM.same _ X.A.lb (λe=>by rcases e with e|e;exact X.A.d4 e;exact X.A.d5 e);have b0:bx h1 T n N (qV s.wd j) (gl s.b j) now us s.nd:=X.A.store jn aM.next aBp aBo
 have s2:=wV b0 (i:=i) (c:=c) (y:=I ((j+1:Nat):Int)) hi ae rfl rfl;have dk:=b0.setNode (i:=i) (c:=c) (y:=I ((j+1:Nat):Int)) hi ae (by omega);have bD:aG h1 (h1.set T.aJ (i*308+c) [I ((j+1:Nat):Int)]) (· =T.aJ):=fa rfl;have aeN:(h1.set T.aJ (i*308+c) [I ((j+1:Nat):Int)]).next=h1.next:=eb ..
 generalize ij:h1.set T.aJ (i*308+c) [I ((j+1:Nat):Int)]=h2 at *
 have Fi:∀j,h0.next<=j->j<h.next->cQ h h2 j:=λj aa aL=>by
  have dN:=O.s;have df:=O.d;have mR:=O.n;have a:cQ h h1 j:=aM.same j aL (λe=>by omega);exact(bD.same j (Nat.lt_of_lt_of_le aL aM.next) (λe=>by omega)).trans a
 have cH:=aM.next
 obtain⟨x,x1,x2,x3⟩:=X.pt;have pt:h2.cell fz 0=some x:=by rw[(Fi fz X.yY X.Q0).cell];exact x1
 have ea:hH h2 nI 1 x bk.length (jN T.aJ i bk):=x2.frame (by omega) λk ai=>Fi k (x3 k ai).1 (x2.j8 ai)
 obtain⟨bF,h3,ak,aD,a7,cw,dB,dU,gg,ie⟩:=uo (y:= .ptr T.aJ (i*308+c)) rC rfl rfl rfl ea (by omega) (by omega);rw[aeN] at ak aD;have oS:∀j,j<h2.next->rowOf x≠some j->cQ h2 h3 j:=dU
 have mM:∀j,j=hC\/j=fz\/j<h0.next->rowOf x≠some j:=λj aa e=>by have:=x3 j e;omega
 have aFt:=X.Q0;have aFr:=X.lQ;have fp:h3.wr fz 1:=fI (fI X.W9 (Fi fz X.yY X.Q0)) (oS fz (by omega) (mM _ (.inr (.inl rfl))));have gw:dZ [bF]=true:=by rcases a7.2 with⟨rfl,_⟩|⟨_,rfl,_⟩<;>rfl
 have yf:bF.cells=[bF]:=by rcases a7.2 with⟨rfl,_⟩|⟨_,rfl,_⟩<;>rfl
 have K9:=hR (n:=1) (off:=0) (y:=bF) fp (by rw[yf];rfl) (by omega) (by rw[yf];exact gw);rw[yf] at K9;have fL:aG h3 (h3.set fz 0 [bF]) (· =fz):=fa rfl;generalize tg:h3.set fz 0 [bF]=aW at *;have j6:aW.next=h3.next:=by rw[<- tg,eb]
 have ag5:∀j,j≠fz->cQ h3 aW j:=λj aa=>by rw[<- tg];exact iu _ _ _ aa
 have Wy:∀j,j<h2.next->rowOf x≠some j->j≠fz->cQ h2 aW j:=λj h1 h2 h3=>(ag5 j h3).trans (oS j h1 h2)
 have gz:∀j,j<h0.next->cQ h2 aW j:=λj aa=>Wy j (by omega) (mM j (.inr (.inr aa))) (by have:=X.yY;omega)
 have ct:aW.cell fz 0=some bF:=by rw[<- tg,hh fp (by simp) (Nat.zero_le _) (by simp)];rfl
 refine⟨h1,h2,h3,aW,x,bF,az,s2,pt,ak,aD,K9,⟨?_,X.M.take X.A.st.iU hi dG ae cb cV,?_,?_,?_,X.gy,by omega,⟨bF,ct,?_,λj aa=>?_⟩,?_,X.yY,by omega,X.d⟩,x1,ct,λj aa=>(gg j aa).imp id λe=>by omega,by omega,λj h1 h2 h3 aW=>(Wy j (by omega) aW h3).trans (Fi j h1 h2)⟩
 ·exact dk.frame (by omega) λj aa=>gz j (by rcases aa with rfl|rfl|rfl|rfl;exact O.t;exact O.s;exact O.d;exact O.n)
 ·have t1:=X.jF.dA aM (by have:=O.g;omega) (λe=>by rcases e with e|e;exact O.aK.s e;exact O.aK.d e);have t2:=t1.dA bD (by have:=O.g;omega) (λe=>O.aK.n e)
  exact t2.same (gz mE O.g) (by
   have:aW.aK=h2.aK:=fL.aK.trans dB
   exact this)
 ·refine⟨fL.aK.trans (dB.trans (bD.aK.trans (aM.aK.trans X.F.aK))),by omega,λj aa aO=>?_,λan=>fL.dA (ie (bD.dA (aM.dA (X.F.dA an))))⟩;have bX:=X.F.same j aa aO;have b2:cQ h h1 j:=aM.same j (by omega) (λe=>aO (by rcases e with e|e;exact .inl e;exact .inr (.inl e)));have hf:cQ h1 h2 j:=bD.same j (by omega) (λe=>aO (.inr (.inr e)));exact(gz j aa).trans (hf.trans (b2.trans bX))
 ·rw[(Wy hC (by omega) (mM _ (.inl rfl)) X.d).cell,(Fi hC X.gy X.lQ).cell];exact X.cr
 ·have:jN T.aJ i (bk++[c])=jN T.aJ i bk++[.ptr T.aJ (i*308+c)]:=by simp[jN]
  rw[this,List.length_append];exact a7.frame (by omega) λk ai=>ag5 k (by rcases gg k ai with e|e;exact(x3 k e).2.2;omega)
 ·rcases gg j aa with e|e
  ·exact x3 j e
  ·have:=X.yY;have:=X.gy;omega
 ·rw[<- tg];exact eG fp
theorem afb(aJ i:Nat)(cs:List Nat){t:Nat}(aN:t<cs.length):(jN aJ i cs)[t]?=some (.ptr aJ (i*308+cs[t])):=by simp[jN,aN]
theorem ako{bk:List Nat}{t:Nat}(aN:t<bk.length):et i (bk.take (t+1)) s=(et i (bk.take t) s).back i bk[t]:=by
 unfold et;rw[List.take_succ_eq_append_getElem aN,List.foldl_append];rfl
theorem YG{C:ad}(Fr:B7 C)(O:ny h0 T)(hi:i<N){x:J}{q:Nat}(a0:bk=[]\/x= .aZ q 0 bk.length none 0)(rU:bk.Nodup)(je:∀c,c∈bk->12<=c/\c<308/\0<s.bl i c)(hlen:bk.length<=1000)(wg:q≠T.bO/\q≠T.aJ/\q≠hC)(hv:hC≠T.bO/\hC≠T.aJ)(av:cu):
 ∀(d t:Nat),t+d=bk.length->∀f,d<f->∀h,bx h T n N (et i (bk.take t) s).wd (et i (bk.take t) s).b now us (et i (bk.take t) s).nd->c1 n N (et i (bk.take t) s).wd (et i (bk.take t) s).nd (et i (bk.take t) s).bl->
 h.cell hC 0=some (.ptr T.a9 0)->hC<h.next->(∀j,j<bk.length->q<h.next/\h.cell q j=(jN T.aJ i bk)[j]?)->
 ∃h',bq (Bg C lf av) f (some (.ptr hC 0),some x,some (I (bk.length:Int)),some (I (t:Int))) h=av h'/\bx h' T n N (et i bk s).wd (et i bk s).b now us (et i bk s).nd/\c1 n N (et i bk s).wd (et i bk s).nd (et i bk s).bl/\aG h h' (λj=>j=T.bO\/j=T.aJ)
 |0,t,hw,f,an,h,A,M,cr,lQ,ae=>by
  obtain⟨f,rfl⟩:=dK f (by omega)
  have:t=bk.length:=by omega
  subst this;rw[List.take_length] at A M;refine⟨h,?_,A,M,aG.refl _ _⟩;rw[dr];unfold Bg E5;have ba:decide ((bk.length:Int)<(bk.length:Int))=false:=by simp
  simp only[aE,ba]
 |d+1,t,hw,f,an,h,A,M,cr,lQ,ae=>by
  obtain⟨f,rfl⟩:=dK f (by omega);have aN:t<bk.length:=by omega
  have ar:x= .aZ q 0 bk.length none 0:=by
   rcases a0 with e|e
   ·rw[e] at aN;simp at aN
   ·exact e
  subst ar;have ba:decide ((t:Int)<(bk.length:Int))=true:=bu (by omega);have dC:IntKind.i64.wrap ((t:Int)+1)=((t+1:Nat):Int):=cL (by omega);have b7:=gV (s:=1) (k:=q) (off:=0) (len:=bk.length) (lo:=0) (cap:=none) (kd:= .i64) (i:=(t:Int)) (by omega) (by omega);rw[Int.toNat_natCast,Nat.mul_one,Nat.zero_add] at b7;have eD:=(ae t aN).2;rw[afb _ _ _ aN] at eD;have uK:bk[t]∈bk:=List.getElem_mem aN;obtain⟨bX,b2,hf⟩:=je _ uK;generalize ga:bk[t]=c at *
  have rV:c ∉ bk.take t:=λe=>by
   obtain⟨k,ai,aA⟩:=List.getElem_of_mem e;rw[List.length_take] at ai;rw[List.getElem_take] at aA;exact absurd (aA.trans ga.symm) (List.pairwise_iff_getElem.1 rU k t (by omega) aN (by omega))
  have Dq:(et i (bk.take t) s).bl i c=s.bl i c:=by
   have:∀(l:List Nat) (s:dL),c ∉ l->(et i l s).bl i c=s.bl i c:=by
    intro l
    induction l with
    |nil=>intro s _;rfl
    |cons a l bc=>
     intro s h;show(et i l (s.back i a)).bl i c=_;rw[bc _ (λe=>h (by simp[e]))];exact np _ _ (.inr λe=>h (by simp[e]))
   exact this _ s rV
  have step:=ako (i:=i) (s:=s) aN;rw[ga] at step;generalize kr:et i (bk.take t) s=s1 at *;have hle:=M.le i c;have eZ:=M.on i c hi bX b2 (by omega);have v3:=A.ef i c hi b2;rw[M.cell i c hi bX b2] at v3;have gb:=A.st.cA;have al:IntKind.i64.wrap ((s1.bl i c:Int)-1)=((s1.bl i c-1:Nat):Int):=cL (by omega)
  have aoA:gH n s1.wd ((s1.bl i c-1:Nat):Int)=true:=by
   simp only[gH,Int.toNat_natCast,eZ,Bool.and_true,Bool.and_eq_true,decide_eq_true_eq];omega
  obtain⟨h1,az,jn,aM⟩:=(Fr h T.bO T.kd n s1.wd s1.b ((s1.bl i c-1:Nat):Int) A.st (by omega) (by omega)).2 aoA;rw[Int.toNat_natCast] at jn;have b0:=A.store jn aM.next (aM.same _ A.lt (λe=>A.d1 e)) (aM.same _ A.lb (λe=>A.d4 e))
  have dv:=wV b0 (i:=i) (c:=c) (y:=I 0) hi b2 rfl rfl;have dk:=b0.setNode (i:=i) (c:=c) (y:=I 0) hi b2 (by omega);have M2:=M.drop A.st.iU hi bX b2 (by omega);have bD:aG h1 (h1.set T.aJ (i*308+c) [I 0]) (· =T.aJ):=fa rfl;have nw:aG h (h1.set T.aJ (i*308+c) [I 0]) (λj=>j=T.bO\/j=T.aJ):=(aM.ek λ_ e=> .inl e).trans (bD.ek λ_ e=> .inr e);generalize ij:h1.set T.aJ (i*308+c) [I 0]=h2 at *;have aiM:bx h2 T n N (et i (bk.take (t+1)) s).wd (et i (bk.take (t+1)) s).b now us (et i (bk.take (t+1)) s).nd:=by rw[step];exact dk
  have ajf:c1 n N (et i (bk.take (t+1)) s).wd (et i (bk.take (t+1)) s).nd (et i (bk.take (t+1)) s).bl:=by rw[step];exact M2
  obtain⟨h',dc,du,fm,kP⟩:=YG Fr O hi (.inr rfl) rU je hlen wg hv av d (t+1) (by omega) f (by omega) h2 aiM ajf
   (by rw[(nw.same hC lQ (λe=>by rcases e with e|e;exact hv.1 e;exact hv.2 e)).cell];exact cr) (Nat.lt_of_lt_of_le lQ nw.next)
   (λj aa=>⟨Nat.lt_of_lt_of_le (ae j aa).1 nw.next,by rw[(nw.same q (ae j aa).1 (λe=>by rcases e with e|e;exact wg.1 e;exact wg.2.1 e)).cell];exact(ae j aa).2⟩)
  refine⟨h',?_,du,fm,nw.trans kP⟩;rw[dr];show E5 C lf (λx1 bC eC aF h=>bq (Bg C lf av) f (x1,bC,eC,aF) h) av (some (.ptr hC 0)) (some (.aZ q 0 bk.length none 0)) (some (I (bk.length:Int))) (some (I (t:Int))) h=_;unfold E5;simp only[aE,ba,b7,eD,cr,A.c0,v3,al,az,dv,dC];exact dc
def L1(C:ad):Prop:=∀h0 h T n N now us s i hC fz bk,ny h0 T->i<N->xi h0 h T n N now us s i hC fz bk->bk.Nodup->(∀c,c∈bk->12<=c/\c<308/\0<s.bl i c)->bk.length<=1000->
 ∃h',C (.fn 90) [.ptr fz 0,.ptr hC 0] h=some (.ret (.bm []),h')/\bx h' T n N (et i bk s).wd (et i bk s).b now us (et i bk s).nd/\c1 n N (et i bk s).wd (et i bk s).nd (et i bk s).bl/\aG h h' (λj=>j=T.bO\/j=T.aJ)
theorem akp{C:ad}(gu:1001<=lf)(Fr:B7 C)(O:ny h0 T)(hi:i<N)(X:xi h0 h T n N now us s i hC fz bk)(rU:bk.Nodup)(je:∀c,c∈bk->12<=c/\c<308/\0<s.bl i c)(hlen:bk.length<=1000):
 ∃h',Ik C lf (.ptr fz 0) (.ptr hC 0) h=some (.ret (.bm []),h')/\bx h' T n N (et i bk s).wd (et i bk s).b now us (et i bk s).nd/\c1 n N (et i bk s).wd (et i bk s).nd (et i bk s).bl/\aG h h' (λj=>j=T.bO\/j=T.aJ):=by
 obtain⟨x,x1,x2,x3⟩:=X.pt;have dN:=O.s;have df:=O.n;have gy:=X.gy
 have yu:eE aw 143 x=some (I (bk.length:Int)):=by
  rcases x2.2 with⟨rfl,h1⟩|⟨k,rfl,_⟩
  ·rw[h1];simp[eE,Tryd.underlying143,fD]
  ·simp[eE,Tryd.underlying143]
 obtain⟨q,a0,wg,ao5⟩:∃q,(bk=[]\/x= .aZ q 0 bk.length none 0)/\(q≠T.bO/\q≠T.aJ/\q≠hC)/\∀j,j<bk.length->q<h.next/\h.cell q j=(jN T.aJ i bk)[j]?:=by
  rcases x2.2 with⟨_,h1⟩|⟨k,rfl,ai⟩
  ·exact⟨fz,.inl (List.length_eq_zero_iff.1 h1),⟨by have:=X.yY;omega,by have:=X.yY;omega,λe=>X.d e.symm⟩,λj aa=>by omega⟩
  ·have:=x3 k rfl
   exact⟨k,.inr rfl,⟨by omega,by omega,this.2.1⟩,λj aa=>⟨ai.lt,ai.cs j (by omega)⟩⟩
 obtain⟨h',dc,du,fm,kP⟩:=YG (lf:=lf) (s:=s) Fr O hi a0 rU je hlen wg ⟨by omega,by omega⟩ OL bk.length 0 (by omega) lf (by omega) h X.A X.M X.cr X.lQ ao5;refine⟨h',?_,du,fm,kP⟩;unfold Ik VU VT;simp only[aE,x1,yu];exact dc
theorem OW{C:ad}(ns:B1 C)(O:ny h0 T)(hi:i<N){kx:Nat}{cs0:List Nat}(eA:∀c,c∈cs0->12<=c/\c<308)(uI:cs0.length<=500)(IL:h0.next<=kx/\kx≠fz)(Cy:J)(r:ay)(az:cu):
 ∀(cs:List Nat) (t:Nat),cs0.drop t=cs->t<=cs0.length->∀f,cs.length<f->∀h s bk,xi h0 h T n N now us s i hC fz bk->bk.length<=t->kx<h.next->(∀j,j<cs0.length->h.cell kx j=(jN T.aJ i cs0)[j]?)->(∀j,rowOf (((h.cell fz 0).getD (.bool true)))=some j->j≠kx)->
 ∃h',xi h0 h' T n N now us (dp n i cs s bk).1 i hC fz (dp n i cs s bk).2.1/\
  bq (yM C lf r az) f (some (.ptr hC 0),some (.ptr fz 0),some Cy,some (.aZ kx 0 cs0.length none 0),some (I (cs0.length:Int)),some (I (t:Int))) h=
   (if(dp n i cs s bk).2.2=true then az h' else fi false C Cy [] h' λ_ Is=>r (some (.bool false)) Is)
 | [],t,aH,aN,f,an,h,s,bk,X,hle,Q6,ae,_=>by
   obtain⟨f,rfl⟩:=dK f (by omega)
   have:t=cs0.length:=by
    have:=congrArg List.length aH
    rw[List.length_drop] at this;simp at this;omega
   subst this;refine⟨h,X,?_⟩;show _=az h;rw[dr];unfold yM EV;have ba:decide ((cs0.length:Int)<(cs0.length:Int))=false:=by simp
   simp only[aE,ba]
 |c::cs,t,aH,aN,f,an,h,s,bk,X,hle,Q6,ae,IU=>by
  obtain⟨f,rfl⟩:∃g,f=g+1:=⟨f-1,by simp at an;omega⟩
  have IX:t<cs0.length:=by
   have:=congrArg List.length aH
   rw[List.length_drop] at this;simp at this;omega
  have Dv:cs0[t]=c:=by
   have:=congrArg (·[0]?) aH
   simp[List.getElem?_drop,IX] at this;exact this
  have oG:cs0.drop (t+1)=cs:=by
   rw[<- List.tail_drop,aH];rfl
  obtain⟨bX,b2⟩:=eA c (by rw[<- Dv];exact List.getElem_mem IX);have ba:decide ((t:Int)<(cs0.length:Int))=true:=bu (by omega);have dC:IntKind.i64.wrap ((t:Int)+1)=((t+1:Nat):Int):=cL (by omega);have b7:=gV (s:=1) (k:=kx) (off:=0) (len:=cs0.length) (lo:=0) (cap:=none) (kd:= .i64) (i:=(t:Int)) (by omega) (by omega);rw[Int.toNat_natCast,Nat.mul_one,Nat.zero_add] at b7;have eD:=ae t IX;rw[afb _ _ _ IX,Dv] at eD;have v3:=X.A.ef i c hi b2;rw[X.M.cell i c hi bX b2] at v3;rw[dr];show ∃h',_/\EV C lf (λx3 aP x9 x50 x51 x52 h=>bq (yM C lf r az) f (x3,aP,x9,x50,x51,x52) h) r az (some (.ptr hC 0)) (some (.ptr fz 0)) (some Cy) (some (.aZ kx 0 cs0.length none 0)) (some (I (cs0.length:Int))) (some (I (t:Int))) h=_;unfold EV;by_cases aC:0<s.bl i c
  ·have tf:decide ((0:Int)<(s.bl i c:Int))=true:=bu (by omega)
   have qw:dp n i (c::cs) s bk=dp n i cs s bk:=by
    rw[dp,if_pos aC]
   rw[qw];obtain⟨h',dc,du⟩:=OW ns O hi eA uI IL Cy r az cs (t+1) oG (by omega) f (by simp at an;omega) h s bk X (by omega) Q6 ae IU;refine⟨h',dc,?_⟩;simp only[aE,ba,b7,eD,v3,tf,dC];exact du
  ·have a1:s.bl i c=0:=by omega
   have tf:decide ((0:Int)<(s.bl i c:Int))=false:=br (by omega);cases aL:low n s.wd with
   |none=>
    have qw:dp n i (c::cs) s bk=(s,bk,false):=by rw[dp,if_neg aC,aL]
    rw[qw];have az:=(ns h T.bO T.kd n s.wd s.b X.A.st X.jF).1 (aeq aL);have b4:decide ((28:Int)≠0)=true:=rfl;refine⟨h,X,?_⟩;simp only[aE,ba,b7,eD,v3,tf,X.cr,X.A.c0,az,List.getElem?_cons_zero,List.getElem?_cons_succ,b4];rfl
   |some j=>
    have qw:dp n i (c::cs) s bk=dp n i cs (s.take i c j) (bk++[c]):=by rw[dp,if_neg aC,aL]
    rw[qw];have ac1:=(Rd aL).1;have gb:=X.A.st.cA;obtain⟨h1,h2,h3,aW,x,bF,Nx,s2,pt,ak,aD,K9,ajy,y1,tW,Xl,zA,LH⟩:=amZ ns O hi X bX b2 aL (by omega);have b4:decide ((0:Int)≠0)=false:=rfl;have iK:IntKind.i64.wrap ((j:Int)+1)=((j+1:Nat):Int):=cL (by omega)
    obtain⟨k1,k2,hx⟩:kx<aW.next/\(∀j,j<cs0.length->aW.cell kx j=(jN T.aJ i cs0)[j]?)/\(∀j,rowOf (((aW.cell fz 0).getD (.bool true)))=some j->j≠kx):=by
     rw[y1] at IU;have b4:rowOf x≠some kx:=λe=>IU kx e rfl
     have K5:=LH kx IL.1 Q6 IL.2 b4;refine⟨by omega,λj aa=>by rw[K5.cell];exact ae j aa,λj aa=>?_⟩;rw[tW] at aa;rcases Xl j aa with e|e
     ·exact IU j e
     ·omega
    obtain⟨h',dc,du⟩:=OW ns O hi eA uI IL Cy r az cs (t+1) oG (by omega) f (by simp at an;omega) aW (s.take i c j) (bk++[c]) ajy (by simp;omega) k1 k2 hx;refine⟨h',dc,?_⟩;simp only[aE,ba,b7,eD,v3,tf,X.cr,X.A.c0,Nx,List.getElem?_cons_zero,List.getElem?_cons_succ,b4,iK,s2,pt,ak,aD,K9,dC];exact du
end
end Go.Proofs.YtomialandfplkaaDoor.Eva
