import Derived.SizedLaws
import Derived.Test.YtomialandfplkaaDoorCards
import Derived.Test.YtomialandfplkaaDoorWInodeCopiesm3
import Derived.Test.YtomialandfplkaaDoorWInodeCopiesm2
set_option linter.unusedSimpArgs false
set_option linter.unusedVariables false
set_option maxRecDepth 100000
set_option maxHeartbeats 400000
namespace Go.Proofs.YtomialandfplkaaDoor.Eva
open Go.Xe
theorem af8:∀n x,pop n x=((List.range n).filter λi=>x.testBit i).length
 |0,_=>rfl
 |n+1,x=>by
  rw[List.range_succ_eq_map,List.filter_cons];simp only[pop,af8 n (x/2),List.filter_map,List.length_map]
  have e:(List.range n).filter ((λi=>x.testBit i)∘Nat.succ)=(List.range n).filter λi=>(x/2).testBit i:=by
   apply List.filter_congr;intro i _;simp[Nat.testBit_succ]
  cases ag:x.testBit 0 with
  |true=>
   have:x%2=1:=by simpa[Nat.testBit_zero] using ag
   simp only[if_true,List.length_cons,List.length_map,e];omega
  |false=>
   have:x%2=0:=by simp[Nat.testBit_zero] at ag;omega
   simp[e,this]
def pr(wd:Nat->Nat):Nat->Nat
 |0=>0
 |m+1=>pr wd m+pop 64 (wd m)
theorem aA9(m:Nat):List.range (64*(m+1))=List.range (64*m)++(List.range 64).map (64*m+ ·):=by
 rw[Nat.mul_succ,List.range_add]
theorem aiI(wd:Nat->Nat):∀m,pr wd m=((List.range (64*m)).filter (bP wd)).length
 |0=>rfl
 |m+1=>by
  rw[aA9,List.filter_append,List.length_append,pr,aiI wd m,af8,List.filter_map,List.length_map];congr 2;apply List.filter_congr;intro i hi
  have:i<64:=List.mem_range.1 hi
  simp only[Function.comp,bP];rw[show(64*m+i)/64=m by omega,show(64*m+i)%64=i by omega]
def iV(wd:Nat->Nat)(n:Nat):List Nat:=(List.range n).filter (bP wd)
theorem ajh(wd:Nat->Nat)(n:Nat):(iV wd n).length<=n:=by
 have:=List.length_filter_le (bP wd) (List.range n)
 simpa[iV] using this
section
variable{lf m:Nat}{h:J}{k cr n:Nat}{wd b:Nat->Nat}
theorem dV.sum(S:dV h k cr n wd b):pr wd 64=(iV wd n).length:=by
 rw[aiI];have h2:=S.ck
 have e:List.range (64*64)=List.range n++(List.range (4096-n)).map (n+ ·):=by
  rw[show 64*64=n+(4096-n) by omega,List.range_add]
 rw[e,List.filter_append,List.length_append,iV]
 have:((List.range (4096-n)).map (n+ ·)).filter (bP wd)=[]:=by
  rw[List.filter_eq_nil_iff];intro x ax;obtain⟨i,hi,rfl⟩:=List.mem_map.1 ax;have hi:i<4096-n:=List.mem_range.1 hi;unfold bP;rw[S.out ((n+i)/64) ((n+i)%64) (by omega) (by omega) (by omega)];simp
 rw[this];rfl
theorem aiJ(wd:Nat->Nat):∀a d,pr wd a<=pr wd (a+d)
 |a,0=>Nat.le_refl _
 |a,d+1=>Nat.le_trans (aiJ wd a d) (Nat.le_add_right _ _)
def GQ(C:ad):Prop:=∀h (x:Nat),x<2 ^ 64->C (.fn 65) [.int .u64 (x:Int)] h=some (.ret (I (pop 64 x:Nat)),h)
theorem AJ{P:Program}{t:TypeId}{a b:Nat}(h:a+b<2 ^ 64):bin P .add t (.int .u64 (a:Int)) (.int .u64 (b:Int))=some (.int .u64 ((a+b:Nat):Int)):=by
 rw[rZ,wrap_u64 (by omega) (by omega)];rfl
theorem AL{P:Program}{t:TypeId}{a:Nat}(b p:Nat)(ag:b<64)(aB:2 ^ b=p):bin P .shr t (.int .u64 (a:Int)) (.int .u64 (b:Int))=some (.int .u64 ((a/p:Nat):Int)):=by
 rw[N2 ag,aB]
theorem CZ{P:Program}{t:TypeId}{a:Nat}(b:Nat)(bV:a<2 ^ 64)(ag:b<2 ^ 64):bin P .and t (.int .u64 (a:Int)) (.int .u64 (b:Int))=some (.int .u64 ((a&&& b:Nat):Int)):=NY bV ag
theorem alC{P:Program}{t:TypeId}{a:Nat}(bV:a<2 ^ 62):bin P .and t (I (a:Int)) (I 127)=some (I ((a%128:Nat):Int)):=by
 rw[ym .and (.inl rfl)];have h1:BitVec.ofInt 64 (a:Int)=BitVec.ofNat 64 a:=vr a;have h2:BitVec.ofInt 64 (127:Int)=BitVec.ofNat 64 127:=rfl
 have h3:(BitVec.ofNat 64 a&&& BitVec.ofNat 64 127).toNat=a%128:=by
  rw[BitVec.toNat_and,BitVec.toNat_ofNat,BitVec.toNat_ofNat,Nat.mod_eq_of_lt (by omega),Nat.mod_eq_of_lt (by omega)];exact Nat.and_two_pow_sub_one_eq_mod a 7
 show some (j8 (IntKind.i64.wrap ((BitVec.ofInt 64 (a:Int)&&& BitVec.ofInt 64 (127:Int)).toNat:Int)) λr=>U.int .i64 r)=_;rw[fP,h1,h2,h3,wrap_i64 (by omega) (by omega)]
theorem asA{C:ad}{lf x:Nat}{h:J}(ax:x<2 ^ 64):IM C lf (.int .u64 (x:Int)) h=some (.ret (I (pop 64 x:Nat)),h):=by
 obtain⟨bM,cz⟩:=asR x;rw[<- ahX 8 x,RQ.1,RQ.2.1,RQ.2.2] at bM cz;have aj:x/2<2 ^ 64:=by omega
 have aC:x/2&&& 6148914691236517205<=6148914691236517205:=Nat.and_le_right;have a8:x&&& 6148914691236517205<=6148914691236517205:=Nat.and_le_right;have kD:s1 6148914691236517205 x=(x/2&&& 6148914691236517205)+(x&&& 6148914691236517205):=rfl;have wi:s1 6148914691236517205 x<2 ^ 64:=by omega
 generalize bb:s1 6148914691236517205 x=y at *;have b2:y/4&&& 3689348814741910323<=3689348814741910323:=Nat.and_le_right;have ht:y&&& 3689348814741910323<=3689348814741910323:=Nat.and_le_right;have qZ:s2 3689348814741910323 y=(y/4&&& 3689348814741910323)+(y&&& 3689348814741910323):=rfl;have cG:s2 3689348814741910323 y<=7378697629483820646:=by omega
 generalize aX:s2 3689348814741910323 y=z at *;have aeA:ea 1085102592571150095 z=(z/16+z)&&& 1085102592571150095:=rfl;generalize hw:ea 1085102592571150095 z=w at *;have aeB:e2 w=w+w/256:=rfl;have aeC:mK (e2 w)=e2 w+e2 w/65536:=rfl;have aeD:pn (mK (e2 w))=mK (e2 w)+mK (e2 w)/4294967296:=rfl;have d4:e2 w<2 ^ 61:=by omega
 generalize aGQ:e2 w=gD at *;have d5:mK gD<2 ^ 61+2 ^ 50:=by omega
 generalize aGR:mK gD=sR at *;have d6:pn sR<2 ^ 62:=by omega
 generalize aGS:pn sR=Yb at *;have az:=AL (P:=ao) (t:=55) (a:=x) 1 2 (by omega) rfl;have ay:=CZ (P:=ao) (t:=55) (a:=x/2) 6148914691236517205 aj (by omega);have b9:=CZ (P:=ao) (t:=55) (a:=x) 6148914691236517205 ax (by omega);have ee:=AJ (P:=ao) (t:=55) (a:=x/2&&& 6148914691236517205) (b:=x&&& 6148914691236517205) (by omega);rw[<- kD] at ee;have iI:=AL (P:=ao) (t:=55) (a:=y) 2 4 (by omega) rfl;have Ot:=CZ (P:=ao) (t:=55) (a:=y/4) 3689348814741910323 (by omega) (by omega);have yu:=CZ (P:=ao) (t:=55) (a:=y) 3689348814741910323 wi (by omega);have wz:=AJ (P:=ao) (t:=55) (a:=y/4&&& 3689348814741910323) (b:=y&&& 3689348814741910323) (by omega);rw[<- qZ] at wz;have pT:=AL (P:=ao) (t:=55) (a:=z) 4 16 (by omega) rfl;have j7:=AJ (P:=ao) (t:=55) (a:=z/16) (b:=z) (by omega);have aaF:=CZ (P:=ao) (t:=55) (a:=z/16+z) 1085102592571150095 (by omega) (by omega);rw[<- aeA] at aaF;have anp:=AL (P:=ao) (t:=55) (a:=w) 8 256 (by omega) rfl;have aaG:=AJ (P:=ao) (t:=55) (a:=w) (b:=w/256) (by omega);rw[<- aeB] at aaG;have anq:=AL (P:=ao) (t:=55) (a:=gD) 16 65536 (by omega) rfl;have aaH:=AJ (P:=ao) (t:=55) (a:=gD) (b:=gD/65536) (by omega);rw[<- aeC] at aaH;have anr:=AL (P:=ao) (t:=55) (a:=sR) 32 4294967296 (by omega) rfl;have aaI:=AJ (P:=ao) (t:=55) (a:=sR) (b:=sR/4294967296) (by omega);rw[<- aeD] at aaI;have ans:yq .i64 (.int .u64 (Yb:Int))=some (I (Yb:Int)):=by simp only[yq,fP];rw[wrap_i64 (by omega) (by omega)]
 have HS:=alC (P:=ao) (t:=3) (a:=Yb) d6;rw[bM] at HS;clear bM cz aj aC a8 kD wi b2 ht qZ cG aeA aeB aeC aeD d4 d5 d6;unfold IM Vn Pr;simp only[cf,b8]
 erw [az];simp only[cf,b8]
 erw [ay];simp only[cf,b8]
 erw [b9];simp only[cf,b8]
 rw[ee];simp only[cf,b8]
 erw [iI];simp only[cf,b8]
 erw [Ot];simp only[cf,b8]
 erw [yu];simp only[cf,b8]
 rw[wz];simp only[cf,b8]
 erw [pT];simp only[cf,b8]
 rw[j7];simp only[cf,b8]
 erw [aaF];simp only[cf,b8]
 erw [anp];simp only[cf,b8]
 rw[aaG];simp only[cf,b8]
 erw [anq];simp only[cf,b8]
 rw[aaH];simp only[cf,b8]
 erw [anr];simp only[cf,b8]
 rw[aaI];simp only[cf,b8,ans,HS]
def M7(C:ad):Prop:=∀h k cr n wd b,dV h k cr n wd b->C (.fn 19) [.ptr k 0] h=some (.ret (I ((n-(iV wd n).length:Nat):Int)),h)
theorem ae0{C:ad}{lf:Nat}(aq:GQ C)(S:dV h k cr n wd b)(av:aw):∀(d w:Nat),w+d=64->∀f,d<f->
 bk (BF C lf av) f (some (.ptr k 0),some (I ((n-pr wd w:Nat):Int)),some (I (w:Int))) h=av (some (I ((n-(iV wd n).length:Nat):Int))) h
 |0,w,hw,f,au=>by
  obtain⟨f,rfl⟩:=dx f (by omega)
  have:w=64:=by omega
  subst this;rw[df,S.sum];unfold BF Fg;have a9:decide (((64:Nat):Int)<64)=false:=by decide
  simp only[aA,a9]
 |d+1,w,hw,f,au=>by
  obtain⟨f,rfl⟩:=dx f (by omega);have h2:=S.ck;have JJ:w<64:=by omega
  have bW:=l1 (n:=64) (s:=1) (k:=k) (off:=1) (kd:= .i64) (i:=(w:Int)) (by omega) (by omega);rw[Int.toNat_natCast,Nat.mul_one] at bW;have a9:decide ((w:Int)<64)=true:=bu (by omega);have dr:IntKind.i64.wrap ((w:Int)+1)=((w+1:Nat):Int):=cD (by omega)
  have hle:pr wd (w+1)<=n:=by
   have h3:=aiJ wd (w+1) d;rw[show w+1+d=64 by omega,S.sum] at h3;exact Nat.le_trans h3 (ajh wd n)
  have ak:pr wd (w+1)=pr wd w+pop 64 (wd w):=rfl
  have jz:IntKind.i64.wrap (((n-pr wd w:Nat):Int)-(pop 64 (wd w):Nat))=((n-pr wd (w+1):Nat):Int):=by
   rw[wrap_i64 (by omega) (by omega)];omega
  rw[df];show Fg C lf (λx0 x3 x12 h=>bk (BF C lf av) f (x0,x3,x12) h) av (some (.ptr k 0)) (some (I ((n-pr wd w:Nat):Int))) (some (I (w:Int))) h=_;unfold Fg;simp only[aA,a9,bW,S.ts w JJ,aq _ _ (S.iF w),jz,dr];exact ae0 aq S av d (w+1) (by omega) f (by omega)
theorem arq{C:ad}(gy:65<=lf)(hm:rR C)(aq:GQ C)(S:dV h k cr n wd b):Il C lf (.ptr k 0) h=some (.ret (I ((n-(iV wd n).length:Nat):Int)),h):=by
 unfold Il Tx Tw Tv Tu Tt Ts Tr Tq Tp;simp only[aA,hm _ _ _ _ _ _ S,Bool.not_true,S.dO]
 have:=ae0 (lf:=lf) aq S (λx3 h=>Kz C lf H0 x3 h) 64 0 rfl lf (by omega)
 have av:pr wd 0=0:=rfl;rw[av,Nat.sub_zero] at this;refine Eq.trans this ?_;unfold Kz H0;simp only[cf,b8]
end
end Go.Proofs.YtomialandfplkaaDoor.Eva
namespace Go.Xe
def vB(l:List Nat):ByteArray:=HA (l.map λ(c:Nat)=>(c:Int))
theorem foldl_push:∀(lJ:List Int) (r:ByteArray),(lJ.foldl (λr n=>r.push (UInt8.ofNat n.toNat)) r).data.toList=r.data.toList++lJ.map λn=>UInt8.ofNat n.toNat
 | [],r=>by simp
 |n::lJ,r=>by
  rw[List.foldl_cons,foldl_push lJ];simp[ByteArray.push]
theorem ajd(l:List Nat):(vB l).data.toList=l.map UInt8.ofNat:=by
 unfold vB HA;rw[foldl_push];simp[Function.comp_def]
theorem aEF{l dJ:List Nat}(h:∀c∈l,c<256)(h':∀c∈dJ,c<256):vB l=vB dJ↔l=dJ:=by
 refine⟨λe=>?_,λe=>by rw[e]⟩;have ay:l.map UInt8.ofNat=dJ.map UInt8.ofNat:=by rw[<- ajd, <- ajd,e]
 have:∀(l:List Nat),(∀c∈l,c<256)->(l.map UInt8.ofNat).map UInt8.toNat=l:=by
  intro l aJ;rw[List.map_map]
  conv=>rhs;rw[<- List.map_id l]
  apply List.map_congr_left;intro c ae
  have:=aJ c ae
  simp[Function.comp,UInt8.toNat_ofNat];omega
 rw[<- this l h, <- this dJ h',ay]
theorem ZR:∀l:List Nat,bytesOf (hD l)=some (l.map λ(c:Nat)=>(c:Int))
 | []=>rfl
 |c::l=>by
  have:=ZR l
  unfold hD at this;simp[hD,bytesOf,this]
section
variable{P:Program}
theorem ME{s d e:TypeId}{h:J}{x:U}{l:List Nat}(ak:P.underlying s=some (.slice e))(aI:P.underlying d=some .string)(hu:hT P e=true)(B:Bytes h x l):rJ P s d x h=some (.str (vB l),h):=by
 rcases B.2 with⟨rfl|⟨k,rfl⟩,rfl⟩|⟨bB,ob,cap,lo,m,rfl,hm,ae⟩
 ·have h1:oE P s d (.val (.slice none 0 0))=none:=by simp[oE,ak,aI]
  unfold rJ;simp only[h1,jP,ak,aI,hu,cond_true,ax];rfl
 ·have h1:oE P s d (.la k)=none:=by simp[oE,ak,aI]
  unfold rJ;simp only[h1,jP,ak,aI,hu,cond_true,ax];rfl
 ·have h1:oE P s d (.aF bB ob l.length cap lo)=none:=by simp[oE,ak,aI]
  unfold J.mt at hm;cases aq:h.aV.get bB with
  |none=>simp[aq] at hm
  |some o=>
   unfold rJ;simp only[h1,jP,ak,aI,hu,cond_true,J.py,aq,zw aq,ZS ae,ZR,ax];rfl
theorem ZI{t:TypeId}{a b:ByteArray}:bin P .eql t (.str a) (.str b)=some (.bool (decide (a=b))):=by
 rw[wj];show(some (U.bool (a.toList==b.toList)):Option U)=_
 have:(a.toList==b.toList)=decide (a=b):=by
  by_cases e:a=b
  ·subst e;simp
  ·have h:¬a.toList=b.toList:=λh=>e (by
    rw[ByteArray.toList_eq,ByteArray.toList_eq] at h;obtain⟨a⟩:=a;obtain⟨b⟩:=b;simp only at h
    rw[Array.ext' h])
   simp[e,h]
 rw[this]
end
section
open Go.ChangeShapes Go.WideShapes Go.ChangeAt Go.RowKit
section
variable{P:Program}{H:Type}{enc:TypeId×Value->H}{w:World}
end
end
section
variable{P:Program}{t e:TypeId}{h:J}
theorem MD{z:Value}{y:U}(hu:P.underlying t=some (.slice e))(ak:eg P e=some 1)(aX:gC P e=some z)(ff:(c1 z).cells.length=1)(bb:y.cells=[y])(au:y.flat=true):
 gp P t 1 [0] [y] h=some (.aF h.next 0 1 (some 1) 0,h.new (cI e [y])):=by
 obtain⟨c,ae⟩:∃c,(c1 z).cells=[c]:=by
  match hm:(c1 z).cells,ff with
  | [c],_=>exact⟨c,rfl⟩
 unfold gp oD;have h1:(Nat.ble (1*1) 65536&&Nat.ble 1 1&&Nat.beq [c].length 1)=true:=rfl
 have h2:oX (λi=>some (i*1,1)) (rB [c] 1) ([0].zip [y])=some [y]:=by
  simp[rB,oX,F5,bb,au,show Nat.ble 1 1=true from rfl]
 simp only[hu,ak,aX,ae,h1,cond_true,h2,newRow,force_eq];rfl
theorem aaN{y:U}{e:TypeId}:jv (h.new (cI e [y])).x0 1 (.aF h.next 0 1 (some 1) 0)=some (1,[y]):=by
 have aq:(h.new (cI e [y])).aV.get h.next=some (cI e [y]):=by rw[BV,if_pos rfl]
 have ae:(cI e [y]).get 0=some y:=by rw[nK];rfl
 simp only[jv,J.py,aq,Nat.mul_one];show(match kG (cI e [y]) 0 1 with|some ys=>some (1,ys)|none=>none)=_;simp only[kG,ae]
theorem tk{x y:U}{b len:Nat}{ys:List U}(T:mf P t t e 1 b)(bb:y.cells=[y])(au:y.flat=true)(aq:dB [y]=true)(S:ha h e 1 x len ys)
 (ae:len+1<=140737488355328)(qT:(len+1)*b<=140737488355328):
 ∃bF h',gp P t 1 [0] [y] h=some (.aF h.next 0 1 (some 1) 0,h.new (cI e [y]))/\eX P .append #[t,t] [x,.aF h.next 0 1 (some 1) 0] (h.new (cI e [y]))=some (bF,h')/\ha h' e 1 bF (len+1) (ys++[y])/\h.next<=h'.next/\h'.aO=h.aO/\
  (∀j,j<h.next->rowOf x≠some j->ct h h' j)/\(∀j,rowOf bF=some j->rowOf x=some j\/h.next<=j)/\(iY h->iY h'):=by
 obtain⟨z,aX,ff⟩:=T.aX;have ag:=MD (h:=h) T.hu T.ak aX ff bb au;have fi:ha (h.new (cI e [y])) e 1 x len ys:=S.frame (by simp) (λk ai=>iT h _ (Nat.ne_of_lt (S.iq ai)));obtain⟨bF,h',h1,h2,h3,aT,bz,bA,dN⟩:=alh T fi aaN rfl aq ae qT;refine⟨bF,h',ag,h1,h2,?_,aT,λj aa aQ=>(bz j (by simp;omega) aQ).trans (iT h _ (Nat.ne_of_lt aa)),λj aa=>?_,λau=>dN (qI au _)⟩
 ·simp at h3;omega
 ·rcases bA j aa with dN|dN
  ·exact .inl dN
  ·right;simp at dN;omega
end
end Go.Xe
namespace Go.Proofs.YtomialandfplkaaDoor.Eva
open Go.Xe
section
variable{lf m:Nat}{h:J}{k cr n:Nat}{wd b:Nat->Nat}
def ints(l:List Nat):List U:=l.map λ(i:Nat)=>U.int .i64 (i:Int)
theorem aji(wd:Nat->Nat)(i:Nat):iV wd (i+1)=iV wd i++(if bP wd i then[i] else[]):=by
 unfold iV;rw[List.range_succ,List.filter_append];cases h:bP wd i<;>simp[List.filter,h]
theorem ti:mf ao 33 33 3 1 8:=
 ⟨Tryd.underlying33,by kernel_rfl,⟨.int .i64 0,by kernel_rfl,rfl⟩,by kernel_rfl,⟨_,Tryd.underlying33,rfl⟩,Nat.le_refl 1⟩
structure eQ (h0 h:J) (x:U) (l:List Nat):Prop where
 aF:ha h 3 1 x l.length (ints l)
 new:∀j,rowOf x=some j->h0.next<=j
def NJ(C:ad):Prop:=∀h k cr n wd b,dV h k cr n wd b->∃x h',C (.fn 20) [.ptr k 0] h=some (.ret x,h')/\eQ h h' x (iV wd n)/\aD h h' (λ_=>False)
theorem X8{C:ad}{lf:Nat}(hi:x4 C){h0:J}(S:dV h0 k cr n wd b)(av:aw):∀(d i:Nat),i+d=n->∀f,d<f->∀h x,eQ h0 h x (iV wd i)->aD h0 h (λ_=>False)->
 ∃bF h',bk (BG C lf av) f (some (.ptr k 0),some x,some (I (n:Int)),some (I (i:Int))) h=av (some bF) h'/\eQ h0 h' bF (iV wd n)/\aD h0 h' (λ_=>False)
 |0,i,hw,f,au,h,x,A,F=>by
  obtain⟨f,rfl⟩:=dx f (by omega)
  have:i=n:=by omega
  subst this;refine⟨x,h,?_,A,F⟩;rw[df];unfold BG Fh;have a9:decide ((i:Int)<(i:Int))=false:=by simp
  simp only[aA,a9]
 |d+1,i,hw,f,au,h,x,A,F=>by
  obtain⟨f,rfl⟩:=dx f (by omega);have h2:=S.ck;have ig:dV h k cr n wd b:=S.gQ F (λe=>e) (λe=>e);have a9:decide ((i:Int)<(n:Int))=true:=bu (by omega);have dr:IntKind.i64.wrap ((i:Int)+1)=((i+1:Nat):Int):=cD (by omega)
  have hu:gS n wd (i:Int)=bP wd i:=by
   have h3:(i:Int)<n:=by omega
   simp[gS,h3]
  have dA:=hi _ _ _ _ _ _ (i:Int) ig (by omega) (by omega);rw[hu] at dA;rw[df];show ∃bF h',Fh C lf (λx0 x3 x11 x12 h=>bk (BG C lf av) f (x0,x3,x11,x12) h) av (some (.ptr k 0)) (some x) (some (I (n:Int))) (some (I (i:Int))) h=av (some bF) h'/\_;unfold Fh;cases aq:bP wd i with
  |false=>
   rw[aq] at dA;simp only[aA,a9,dA,dr];have e:iV wd (i+1)=iV wd i:=by rw[aji,aq];simp
   exact X8 hi S av d (i+1) (by omega) f (by omega) h x (by rw[e];exact A) F
  |true=>
   rw[aq] at dA;have e:iV wd (i+1)=iV wd i++[i]:=by rw[aji,aq];rfl
   have aJ:=ajh wd i;obtain⟨bF,h',aj,aC,a8,cF,dK,dH,fE,h4⟩:=tk (y:=I (i:Int)) ti rfl rfl rfl A.aF (by omega) (by omega);simp only[aA,a9,dA,dr,aj,aC];refine X8 hi S av d (i+1) (by omega) f (by omega) h' bF ⟨?_,λj aa=>?_⟩ ⟨dK.trans F.aO,Nat.le_trans F.next cF,λj aa _=>(dH j (Nat.lt_of_lt_of_le aa F.next) (λaQ=>absurd (A.new j aQ) (by omega))).trans (F.same j aa (λe=>e)),λau=>h4 (F.dm au)⟩
   ·rw[e]
    have:ints (iV wd i++[i])=ints (iV wd i)++[I (i:Int)]:=by simp[ints]
    rw[this,List.length_append];exact a8
   ·rcases fE j aa with aQ|aQ
    ·exact A.new j aQ
    ·exact Nat.le_trans F.next aQ
theorem aEO{C:ad}(gy:4097<=lf)(hm:rR C)(hi:x4 C)(S:dV h k cr n wd b):∃x h',Im C lf (.ptr k 0) h=some (.ret x,h')/\eQ h h' x (iV wd n)/\aD h h' (λ_=>False):=by
 have h2:=S.ck;obtain⟨bF,h',b4,cv,l2⟩:=X8 (lf:=lf) hi S (λx3 h=>KA C lf H2 x3 h) n 0 (by omega) lf (by omega) h (.val (.slice none 0 0)) ⟨ha.nil _ _ _,λj aa=>by cases aa⟩ (aD.refl h _);refine⟨bF,h',?_,cv,l2⟩;unfold Im TG TF TE TD TC TB TA Tz Ty;simp only[aA,hm _ _ _ _ _ _ S,Bool.not_true,S.dO];refine Eq.trans b4 ?_;unfold KA H2;simp only[cf,b8]
theorem ae1{h0 h:J}{x:U}{l:List Nat}(A:eQ h0 h x l):eG ao 33 x=some (I (l.length:Int)):=by
 rcases A.aF.2 with⟨rfl,h1⟩|⟨k,rfl,_⟩
 ·rw[h1];simp[eG,Tryd.underlying33,fP]
 ·simp[eG,Tryd.underlying33]
end
end Go.Proofs.YtomialandfplkaaDoor.Eva
namespace Go.Xe
section
open Go.ChangeShapes Go.WideShapes Go.ChangeAt Go.RowKit
section
variable{P:Program}
theorem aiq{t e s bB ob len lo q:Nat}{cap:Option Nat}{kd:IntKind}(hu:P.underlying t=some (.slice e))(ak:eg P e=some s)(aQ:mQ (.aF bB ob len cap lo))(a2:q<=len):
 ∃r4 iz,gl P t (.aF bB ob len cap lo) none (some (.int kd (q:Int)))=some (.aF bB ob q r4 iz)/\mQ (.aF bB ob q r4 iz):=by
 have h0:kl (.int kd (q:Int))=some q:=rfl;unfold gl;cases cap with
 |none=>
  have h1:sliceB len len none (some (.int kd (q:Int)))=some (0,q):=by
   simp only[sliceB,h0]
   have:(Nat.ble q len&&Nat.ble 0 q)=true:=by simp[Nat.ble_eq_true_of_le a2,Nat.ble_eq_true_of_le (Nat.zero_le q)]
   simp only[this,cond_true]
  simp only[hu,ak,h1,qm,force_eq,Nat.ble_eq_true_of_le a2,cond_true,Nat.sub_zero,Nat.add_zero,Nat.zero_mul];cases ag:Nat.blt 0 len with
  |true=>exact⟨none,lo,by simp only[cond_true],trivial⟩
  |false=>exact⟨none,lo,by simp only[cond_false,show Nat.beq 0 0=true from rfl,cond_true],trivial⟩
 |some c=>
  have aQ:len<=c:=aQ
  have h1:sliceB len c none (some (.int kd (q:Int)))=some (0,q):=by
   simp only[sliceB,h0]
   have:(Nat.ble q c&&Nat.ble 0 q)=true:=by simp[Nat.ble_eq_true_of_le (Nat.le_trans a2 aQ),Nat.ble_eq_true_of_le (Nat.zero_le q)]
   simp only[this,cond_true]
  simp only[hu,ak,h1,qm,force_eq,Nat.sub_zero,Nat.add_zero,Nat.zero_mul];refine⟨some c,0,?_,Nat.le_trans a2 aQ⟩;cases ag:Nat.beq c 0 with
  |true=>simp only[cond_true]
  |false=>simp only[cond_false]
theorem alZ{t e s q:Nat}{kd:IntKind}{h:J}{x:U}{l:List Nat}(hu:P.underlying t=some (.slice e))(ak:eg P e=some s)(B:Bytes h x l)(aQ:mQ x)(a2:q<=l.length):
 ∃bF,gl P t x none (some (.int kd (q:Int)))=some bF/\Bytes h bF (l.take q)/\mQ bF:=by
 rcases B.2 with⟨rfl|⟨k,rfl⟩,rfl⟩|⟨bB,ob,cap,lo,m,rfl,hm,ae⟩
 ·have a2:q=0:=by simpa using a2
  subst a2;refine⟨.val (.slice none 0 0),?_,by simpa using B,trivial⟩;have h0:sliceB 0 0 none (some (.int kd ((0:Nat):Int)))=some (0,0):=rfl;unfold gl;simp only[hu,ak,show(Nat.beq 0 0&&Nat.beq 0 0)=true from rfl,cond_true,h0]
 ·have a2:q=0:=by simpa using a2
  subst a2;refine⟨.la k,?_,by simpa using B,trivial⟩;have h0:sliceB 0 0 none (some (.int kd ((0:Nat):Int)))=some (0,0):=rfl;unfold gl;simp only[hu,ak,h0]
 ·obtain⟨r4,iz,h1,h2⟩:=aiq (kd:=kd) hu ak aQ a2;have aJ:(l.take q).length=q:=by simp;omega
  refine⟨_,h1,⟨λc ae=>B.1 c (List.mem_of_mem_take ae),.inr ⟨bB,ob,r4,iz,m,by rw[aJ],hm,λj aa=>?_⟩⟩,h2⟩;rw[ae j (by omega)]
  have:j<l.length:=by omega
  simp[List.getD,this,show j<q by omega]
end
theorem adT{g:Nat}{k:IntKind}{zs:List Int}{h:J}(aN:mx g k zs h=true):g<h.aO/\(∃m,h.mt g=some m)/\∀i,i<zs.length->h.cell g i=some (.int k (zs.getD i 0)):=by
 unfold mx at aN;simp only[Bool.and_eq_true] at aN;obtain⟨bc,aN⟩:=aN;have bc:g<h.aO:=by rw[Nat.blt_eq] at bc;exact bc
 split at aN<;>try(cases aN;done)
 rename_i o aq;split at aN<;>try(cases aN;done)
 split at aN<;>try(cases aN;done)
 rename_i ys eU;have Rt:=OC aN;subst Rt;refine⟨bc,⟨o.mt,by unfold J.mt;rw[aq]⟩,λi hi=>?_⟩
 have:=RL eU i (by simpa using hi)
 rw[Nat.zero_add] at this;unfold J.cell;rw[aq];simp only[this];simp[List.getD,hi]
theorem apj{g:Nat}{k:IntKind}{zs:List Int}{h h':J}(aR:h'.aO=h.aO)(ak:ct h h' g):mx g k zs h'=mx g k zs h:=by
 unfold mx;rw[aR,ak]
theorem Rn{w:World}{k:Nat}{m:qv}(h:(hf w).mt k=some m):k<(hf w).next:=by
 apply Nat.lt_of_not_le;intro hle;unfold J.mt at h;rw[JI w hle] at h;cases h
end
end Go.Xe
namespace Go.Proofs.YtomialandfplkaaDoor.Eva
open Go.Xe
noncomputable section
variable{C:ad}{lf:Nat}{ba a0 eA fz jU k3 q4 q5 q6 q7 q8 q9 q1 q2 q3:hp}{an:lj}
noncomputable def abw:b1 ao:=⟨24,Tryd.f24,λr=>bif Nat.beq r 1 then .news [0,2,1,3,4,5] [1,3] [] else .text,Tryd.func24,by kernel_rfl,by kernel_rfl,by kernel_rfl,by kernel_rfl⟩
noncomputable def OZ(x2:O)(h:J):ab:=
 ob x2 λa=>ob (eB 2 a h) λa=>some (.ret a,h)
noncomputable def TJ(C:ad)(lf:Nat)(r:aw)(x0:O)(h:J):ab:=
 b2 (j0 ao 44 h) λa k=>zG [1,3] 6 k λb k=>ob x0 λc=>ob x0 λd=>dM (kI b c&&kI b c) (b2 (pC (nN ao 41 c c) b 1 k) λc k=>dM (kI b d&&kI b d) (b2 (pC (nN ao 42 d d) b 3 k) λb k=>ob (gM ao 44 [0,1] [c,b]) λb=>ob (st 2 a b k) (r (some a))))
theorem au2{r:aw}:∀F h,ar abw C lf [] F h ba (aM r 2) an=aM (TJ C lf r) 0 F h:=by
 intro F h;kernel_rfl
def Io(C:ad)(lf:Nat)(ah:U)(h:J):ab:=TJ C lf OZ (some ah) h
def acx:cx ao:=hZ abw Io (λC lf ah h=>cS (K:=(aM OZ 2)) (by kernel_rfl) (Eq.trans (au2 _ h) (by kernel_rfl))) (by kernel_rfl)
def abx:b1 ao:=dk 26 Tryd.f26 Tryd.func26 (by kernel_rfl)
noncomputable def O0(x2:O)(h:J):ab:=
 ob x2 λa=>some (.ret a,h)
def TK(C:ad)(lf:Nat)(r:aw)(x0:O)(h:J):ab:=
 aP C 63 x0 h λa k=>fM a (r (some (.val (.pointer none))) k) (ob x0 λa=>ob (ev a) λa=>ob (eB 66 a k) λa=>b2 (j0 ao 59 k) λb k=>ob (st 66 b a k) λk=>dw 65 x0 k λa=>b2 (eX ao .append #[57,57] [.val (.slice none 0 0),a] k) λa k=>ob (bZ 65 b) λc=>ob (st 1 c a k) (r (some b)))
theorem au3{r:aw}:∀F h,ar abx C lf [] F h ba (aM r 2) an=aM (TK C lf r) 0 F h:=by
 intro F h;kernel_rfl
def Ip(C:ad)(lf:Nat)(ah:U)(h:J):ab:=TK C lf O0 (some ah) h
def acy:cx ao:=hZ abx Ip (λC lf ah h=>cS (K:=(aM O0 2)) (by kernel_rfl) (Eq.trans (au3 _ h) (by kernel_rfl))) (by kernel_rfl)
noncomputable def qL:b1 ao:=⟨27,Tryd.f27,λr=>bif Nat.beq r 5 then .ord [0,3,1,2,4,5,6,7,8] [(5,[1]),(4,[1]),(2,[1])] else .text,Tryd.func27,by kernel_rfl,by kernel_rfl,by kernel_rfl,by kernel_rfl⟩
noncomputable def H3(x2:O)(h:J):ab:=
 ob x2 λa=>ob (eB 2 a h) λa=>some (.ret a,h)
noncomputable def KB(C:ad)(lf:Nat)(r:aw)(x2 x3:O)(h:J):ab:=
 ob x3 λa=>ob (eB 2 a h) λa=>ob x2 λb=>ob (st 2 b a h) (r x2)
theorem avc{r:aw}:∀F h,ar qL C lf [1,1,1] F h ba (aM r 2) an=a7 (KB C lf r) 2 3 F h:=by
 intro F h;kernel_rfl
def Fi(C:ad)(lf:Nat)(n:cC)(av:aS)(x2 x3 xF xG mP:O)(h:J):ab:=
 lb .lss 3 mP xG (ob xF λa=>sG 1 a mP h λa=>ob x3 λb=>ob (bZ 1 b) λb=>ob (bO b h) λc=>b2 (gp ao 24 0 [] [] h) λd k=>dM (ey [(1,bU (some b))] h k [1]) (b2 (eX ao .append #[24,24] [d,a] k) λa l=>dM (ey [(1,bU (some b))] k l [1]) (b2 (gp ao 42 1 [0] [a] l) λa k=>dM (ey [(1,bU (some b))] l k [1]) (b2 (eX ao .append #[42,42] [c,a] k) λa k=>ob x3 λb=>ob (bZ 1 b) λb=>ob (st 1 b a k) λk=>cB .add 3 mP (I 1) λa=>n x2 x3 xF xG (some a) k)))) (av x2 x3 h)
theorem au4{n:cC}{av:aS}:∀F h,ar qL C lf [1,1,0,1,0,0] F h (cR n 2 3 16 17 18) a0 (bI 0 (a7 av 2 3) an)=cR (Fi C lf n av) 2 3 16 17 18 F h:=by
 intro F h;kernel_rfl
def BH(C:ad)(lf:Nat)(av:aS)(k:O×O×O×O×O->J->ab)(s:O×O×O×O×O)(h:J):ab:=
 Fi C lf (λa b c d g=>k (a,b,c,d,g)) av s.1 s.2.1 s.2.2.1 s.2.2.2.1 s.2.2.2.2 h
def TL(C:ad)(lf:Nat)(n:cC)(x0 x2 x3:O)(h:J):ab:=
 dw 1 x0 h λa=>jX 42 a λb=>n x2 x3 (some a) (some b) (bD 0) h
theorem au5{n:cC}:∀F h,ar qL C lf [1,1,0,0] F h (cR n 2 3 16 17 18) a0 an=bG (TL C lf n) 0 2 3 F h:=by
 intro F h;kernel_rfl
def TM(C:ad)(lf:Nat)(n:aS)(x0 x2 x3:O)(h:J):ab:=
 TL C lf (λa b c d g=>bk (BH C lf n) lf (a,b,c,d,g)) x0 x2 x3 h
theorem au6{n:aS}:∀F h,ar qL C lf [1,1,0] F h (a7 n 2 3) a0 an=bG (TM C lf n) 0 2 3 F h:=bg (b:=b7 qL [1,1,0,1]) (by kernel_rfl) (fY (id:=0) (a:=b7 qL [1,1,0,1,0]) (by kernel_rfl) (gJ (g:=λF=>(F 2,F 3,F 16,F 17,F 18)) (body:=BH C lf n) (by kernel_rfl) (λk=>(au4 (n:=λx2 x3 xF xG mP h=>k (x2,x3,xF,xG,mP) h))))) (au5 (n:=λx2 x3 xF xG mP h=>bk (BH C lf n) lf (x2,x3,xF,xG,mP) h))
def TN(C:ad)(lf:Nat)(r:aw)(x0 x2 x3:O)(h:J):ab:=
 TM C lf (KB C lf r) x0 x2 x3 h
theorem au7{r:aw}:∀F h,ar qL C lf [1,1] F h ba (aM r 2) an=bG (TN C lf r) 0 2 3 F h:=bg (by kernel_rfl) avc au6
def TO(C:ad)(lf:Nat)(n:bK)(x0 x2:O)(h:J):ab:=
 b2 (gp ao 41 0 [] [] h) λa k=>dw 0 x0 k λb=>b2 (eX ao .append #[41,41] [a,b] k) λa k=>ob (gM ao 44 [0] [a]) λa=>b2 (j0 ao 44 k) λb k=>ob (st 2 b a k) (n x0 x2 (some b))
theorem au8{n:bK}:∀F h,ar qL C lf [1,0] F h (bG n 0 2 3) a0 an=a7 (TO C lf n) 0 2 F h:=by
 intro F h;kernel_rfl
def TP(C:ad)(lf:Nat)(r:aw)(x0 x2:O)(h:J):ab:=
 TO C lf (TN C lf r) x0 x2 h
theorem au9{r:aw}:∀F h,ar qL C lf [1] F h ba (aM r 2) an=a7 (TP C lf r) 0 2 F h:=bg (by kernel_rfl) au7 au8
noncomputable def TQ(C:ad)(lf:Nat)(n:aS)(x0:O)(h:J):ab:=
 b2 (j0 ao 44 h) λa=>n x0 (some a)
theorem ava{n:aS}:∀F h,ar qL C lf [0] F h (a7 n 0 2) a0 an=aM (TQ C lf n) 0 F h:=by
 intro F h;kernel_rfl
def TR(C:ad)(lf:Nat)(r:aw)(x0:O)(h:J):ab:=
 TQ C lf (TP C lf r) x0 h
theorem avb{r:aw}:∀F h,ar qL C lf [] F h ba (aM r 2) an=aM (TR C lf r) 0 F h:=bg (by kernel_rfl) au9 ava
def Iq(C:ad)(lf:Nat)(ah:U)(h:J):ab:=TR C lf H3 (some ah) h
def acz:cx ao:=hZ qL Iq (λC lf ah h=>cS (K:=(aM H3 2)) (by kernel_rfl) (Eq.trans (avb _ h) (by kernel_rfl))) (by kernel_rfl)
def aby:b1 ao:=dk 29 Tryd.f29 Tryd.func29 (by kernel_rfl)
noncomputable def O1(x2:O)(h:J):ab:=
 ob x2 λa=>some (.ret a,h)
def TS(C:ad)(lf:Nat)(r:aw)(x0:O)(h:J):ab:=
 aP C 63 x0 h λa k=>fM a (r (bD 0) k) (dw 0 x0 k λa=>r (some a) k)
theorem avd{r:aw}:∀F h,ar aby C lf [] F h ba (aM r 2) an=aM (TS C lf r) 0 F h:=by
 intro F h;kernel_rfl
def Ir(C:ad)(lf:Nat)(ah:U)(h:J):ab:=TS C lf O1 (some ah) h
def acA:cx ao:=hZ aby Ir (λC lf ah h=>cS (K:=(aM O1 2)) (by kernel_rfl) (Eq.trans (avd _ h) (by kernel_rfl))) (by kernel_rfl)
def qM:b1 ao:=dk 30 Tryd.f30 Tryd.func30 (by kernel_rfl)
noncomputable def H4(x2:O)(h:J):ab:=
 ob x2 λa=>some (.ret a,h)
noncomputable def KC(C:ad)(lf:Nat)(r:aw)(x3:O)(h:J):ab:=
 ob x3 λa=>r (some a) h
theorem avl{r:aw}:∀F h,ar qM C lf [1,1,1] F h ba (aM r 2) an=aM (KC C lf r) 3 F h:=by
 intro F h;kernel_rfl
def Fj(C:ad)(lf:Nat)(n:bo)(av:aw)(x3 x9 aU x11:O)(h:J):ab:=
 lb .lss 3 x11 aU (ob x9 λa=>sG 1 a x11 h λa=>fM a (cB .add 3 x3 (I 1) λa=>cB .add 3 x11 (I 1) λb=>n (some a) x9 aU (some b) h) (cB .add 3 x11 (I 1) λa=>n x3 x9 aU (some a) h)) (av x3 h)
theorem ave{n:bo}{av:aw}:∀F h,ar qM C lf [1,1,0,1,0,0] F h (bj n 3 9 10 11) a0 (bI 0 (aM av 3) an)=bj (Fj C lf n av) 3 9 10 11 F h:=by
 intro F h;kernel_rfl
def BI(C:ad)(lf:Nat)(av:aw)(k:O×O×O×O->J->ab)(s:O×O×O×O)(h:J):ab:=
 Fj C lf (λa b c d=>k (a,b,c,d)) av s.1 s.2.1 s.2.2.1 s.2.2.2 h
def TT(C:ad)(lf:Nat)(n:bo)(x0 x3:O)(h:J):ab:=
 dw 0 x0 h λa=>jX 41 a λb=>n x3 (some a) (some b) (bD 0) h
theorem avf{n:bo}:∀F h,ar qM C lf [1,1,0,0] F h (bj n 3 9 10 11) a0 an=a7 (TT C lf n) 0 3 F h:=by
 intro F h;kernel_rfl
def TU(C:ad)(lf:Nat)(n:aw)(x0 x3:O)(h:J):ab:=
 TT C lf (λa b c d=>bk (BI C lf n) lf (a,b,c,d)) x0 x3 h
theorem avg{n:aw}:∀F h,ar qM C lf [1,1,0] F h (aM n 3) a0 an=a7 (TU C lf n) 0 3 F h:=bg (b:=b7 qM [1,1,0,1]) (by kernel_rfl) (fY (id:=0) (a:=b7 qM [1,1,0,1,0]) (by kernel_rfl) (gJ (g:=λF=>(F 3,F 9,F 10,F 11)) (body:=BI C lf n) (by kernel_rfl) (λk=>(ave (n:=λx3 x9 aU x11 h=>k (x3,x9,aU,x11) h))))) (avf (n:=λx3 x9 aU x11 h=>bk (BI C lf n) lf (x3,x9,aU,x11) h))
def TV(C:ad)(lf:Nat)(r:aw)(x0 x3:O)(h:J):ab:=
 TU C lf (KC C lf r) x0 x3 h
theorem avh{r:aw}:∀F h,ar qM C lf [1,1] F h ba (aM r 2) an=a7 (TV C lf r) 0 3 F h:=bg (by kernel_rfl) avl avg
def TW(C:ad)(lf:Nat)(n:aS)(x0:O)(h:J):ab:=
 n x0 (bD 0) h
theorem avi{n:aS}:∀F h,ar qM C lf [1,0] F h (a7 n 0 3) a0 an=aM (TW C lf n) 0 F h:=by
 intro F h;kernel_rfl
def TX(C:ad)(lf:Nat)(r:aw)(x0:O)(h:J):ab:=
 TW C lf (TV C lf r) x0 h
theorem avj{r:aw}:∀F h,ar qM C lf [1] F h ba (aM r 2) an=aM (TX C lf r) 0 F h:=bg (by kernel_rfl) avh avi
noncomputable def TY(C:ad)(lf:Nat)(n:aw)(x0:O)(h:J):ab:=
 n x0 h
theorem avk{n:aw}:∀F h,ar qM C lf [0] F h (aM n 0) a0 an=aM (TY C lf n) 0 F h:=by
 intro F h;kernel_rfl
def TZ(C:ad)(lf:Nat)(r:aw)(x0:O)(h:J):ab:=
 TY C lf (TX C lf r) x0 h
theorem avm{r:aw}:∀F h,ar qM C lf [] F h ba (aM r 2) an=aM (TZ C lf r) 0 F h:=bg (by kernel_rfl) avj avk
def Is(C:ad)(lf:Nat)(ah:U)(h:J):ab:=TZ C lf H4 (some ah) h
def acB:cx ao:=hZ qM Is (λC lf ah h=>cS (K:=(aM H4 2)) (by kernel_rfl) (Eq.trans (avm _ h) (by kernel_rfl))) (by kernel_rfl)
def qN:b1 ao:=dk 31 Tryd.f31 Tryd.func31 (by kernel_rfl)
noncomputable def yz(bC:O)(h:J):ab:=
 ob bC λa=>some (.ret a,h)
noncomputable def KD(C:ad)(lf:Nat)(r:aw)(h:J):ab:=
 r (some (.bool true)) h
theorem avp{r:aw}:∀F h,ar qN C lf [1,1,1] F h ba (aM r 4) an=ed (KD C lf r) F h:=by
 intro F h;kernel_rfl
def BZ(C:ad)(lf:Nat)(n:bo)(r:aw)(av:cu)(x0 x1 x12 ew:O)(h:J):ab:=
 lb .lss 3 ew x12 (ob ew λa=>ob x0 λb=>ob (dQ 1 b a) λb=>ob (bO b h) λb=>ob x1 λc=>ob (dQ 1 c a) λa=>ob (bO a h) λa=>eH .neq 3 b a (r (some (.bool false)) h) (cB .add 3 ew (I 1) λa=>n x0 x1 x12 (some a) h)) (av h)
theorem avn{n:bo}{r:aw}{av:cu}:∀F h,ar qN C lf [1,1,0,1,0,0] F h (bj n 0 1 12 13) (aM r 4) (bI 0 (ed av) an)=bj (BZ C lf n r av) 0 1 12 13 F h:=by
 intro F h;kernel_rfl
def uc(C:ad)(lf:Nat)(r:aw)(av:cu)(k:O×O×O×O->J->ab)(s:O×O×O×O)(h:J):ab:=
 BZ C lf (λa b c d=>k (a,b,c,d)) r av s.1 s.2.1 s.2.2.1 s.2.2.2 h
def T0(C:ad)(lf:Nat)(n:bo)(x0 x1:O)(h:J):ab:=
 nH 33 x0 λa=>n x0 x1 (some a) (bD 0) h
theorem avo{n:bo}:∀F h,ar qN C lf [1,1,0,0] F h (bj n 0 1 12 13) a0 an=a7 (T0 C lf n) 0 1 F h:=by
 intro F h;kernel_rfl
def T1(C:ad)(lf:Nat)(n:cu)(r:aw)(x0 x1:O)(h:J):ab:=
 T0 C lf (λa b c d=>bk (uc C lf r n) lf (a,b,c,d)) x0 x1 h
theorem avq{n:cu}{r:aw}:∀F h,ar qN C lf [1,1,0] F h (ed n) (aM r 4) an=a7 (T1 C lf n r) 0 1 F h:=bg (b:=b7 qN [1,1,0,1]) (by kernel_rfl) (fY (id:=0) (a:=b7 qN [1,1,0,1,0]) (by kernel_rfl) (gJ (g:=λF=>(F 0,F 1,F 12,F 13)) (body:=uc C lf r n) (by kernel_rfl) (λk=>(avn (n:=λx0 x1 x12 ew h=>k (x0,x1,x12,ew) h))))) (avo (n:=λx0 x1 x12 ew h=>bk (uc C lf r n) lf (x0,x1,x12,ew) h))
def T2(C:ad)(lf:Nat)(r:aw)(x0 x1:O)(h:J):ab:=
 T1 C lf (KD C lf r) r x0 x1 h
theorem avr{r:aw}:∀F h,ar qN C lf [1,1] F h ba (aM r 4) an=a7 (T2 C lf r) 0 1 F h:=bg (by kernel_rfl) avp avq
def T3(C:ad)(lf:Nat)(n:aS)(r:aw)(x0 x1:O)(h:J):ab:=
 nH 33 x0 λa=>nH 33 x1 λb=>eH .neq 3 a b (r (some (.bool false)) h) (n x0 x1 h)
theorem avs{n:aS}{r:aw}:∀F h,ar qN C lf [1,0] F h (a7 n 0 1) (aM r 4) an=a7 (T3 C lf n r) 0 1 F h:=by
 intro F h;kernel_rfl
def T4(C:ad)(lf:Nat)(r:aw)(x0 x1:O)(h:J):ab:=
 T3 C lf (T2 C lf r) r x0 x1 h
theorem avt{r:aw}:∀F h,ar qN C lf [1] F h ba (aM r 4) an=a7 (T4 C lf r) 0 1 F h:=bg (by kernel_rfl) avr avs
noncomputable def T5(C:ad)(lf:Nat)(n:aS)(x0 x1:O)(h:J):ab:=
 n x0 x1 h
theorem avu{n:aS}:∀F h,ar qN C lf [0] F h (a7 n 0 1) a0 an=a7 (T5 C lf n) 0 1 F h:=by
 intro F h;kernel_rfl
def T6(C:ad)(lf:Nat)(r:aw)(x0 x1:O)(h:J):ab:=
 T5 C lf (T4 C lf r) x0 x1 h
theorem avv{r:aw}:∀F h,ar qN C lf [] F h ba (aM r 4) an=a7 (T6 C lf r) 0 1 F h:=bg (by kernel_rfl) avt avu
def It(C:ad)(lf:Nat)(ah aj:U)(h:J):ab:=T6 C lf yz (some ah) (some aj) h
def acC:cx ao:=hr qN It (λC lf ah aj h=>cS (K:=(aM yz 4)) (by kernel_rfl) (Eq.trans (avv _ h) (by kernel_rfl))) (by kernel_rfl)
def qO:b1 ao:=dk 32 Tryd.f32 Tryd.func32 (by kernel_rfl)
noncomputable def H5(x2:O)(h:J):ab:=
 ob x2 λa=>some (.ret a,h)
noncomputable def KE(C:ad)(lf:Nat)(r:aw)(x3:O)(h:J):ab:=
 ob x3 λa=>r (some a) h
theorem avC{r:aw}:∀F h,ar qO C lf [1,1,1] F h ba (aM r 2) an=aM (KE C lf r) 3 F h:=by
 intro F h;kernel_rfl
def Fk(C:ad)(lf:Nat)(n:bo)(av:aw)(x3 x9 aU x11:O)(h:J):ab:=
 lb .lss 3 x11 aU (ob x11 λa=>ob x9 λb=>sG 1 b x11 h λb=>gn b (ob x3 λb=>b2 (gp ao 33 1 [0] [a] h) λa k=>b2 (eX ao .append #[33,33] [b,a] k) λa k=>cB .add 3 x11 (I 1) λb=>n (some a) x9 aU (some b) k) (cB .add 3 x11 (I 1) λa=>n x3 x9 aU (some a) h)) (av x3 h)
theorem avw{n:bo}{av:aw}:∀F h,ar qO C lf [1,1,0,1,0,0] F h (bj n 3 9 10 11) a0 (bI 0 (aM av 3) an)=bj (Fk C lf n av) 3 9 10 11 F h:=by
 intro F h;kernel_rfl
def BJ(C:ad)(lf:Nat)(av:aw)(k:O×O×O×O->J->ab)(s:O×O×O×O)(h:J):ab:=
 Fk C lf (λa b c d=>k (a,b,c,d)) av s.1 s.2.1 s.2.2.1 s.2.2.2 h
def T7(C:ad)(lf:Nat)(n:bo)(x0 x3:O)(h:J):ab:=
 dw 0 x0 h λa=>jX 41 a λb=>n x3 (some a) (some b) (bD 0) h
theorem avx{n:bo}:∀F h,ar qO C lf [1,1,0,0] F h (bj n 3 9 10 11) a0 an=a7 (T7 C lf n) 0 3 F h:=by
 intro F h;kernel_rfl
def T8(C:ad)(lf:Nat)(n:aw)(x0 x3:O)(h:J):ab:=
 T7 C lf (λa b c d=>bk (BJ C lf n) lf (a,b,c,d)) x0 x3 h
theorem avy{n:aw}:∀F h,ar qO C lf [1,1,0] F h (aM n 3) a0 an=a7 (T8 C lf n) 0 3 F h:=bg (b:=b7 qO [1,1,0,1]) (by kernel_rfl) (fY (id:=0) (a:=b7 qO [1,1,0,1,0]) (by kernel_rfl) (gJ (g:=λF=>(F 3,F 9,F 10,F 11)) (body:=BJ C lf n) (by kernel_rfl) (λk=>(avw (n:=λx3 x9 aU x11 h=>k (x3,x9,aU,x11) h))))) (avx (n:=λx3 x9 aU x11 h=>bk (BJ C lf n) lf (x3,x9,aU,x11) h))
def T9(C:ad)(lf:Nat)(r:aw)(x0 x3:O)(h:J):ab:=
 T8 C lf (KE C lf r) x0 x3 h
theorem avz{r:aw}:∀F h,ar qO C lf [1,1] F h ba (aM r 2) an=a7 (T9 C lf r) 0 3 F h:=bg (by kernel_rfl) avC avy
noncomputable def Ua(C:ad)(lf:Nat)(n:aS)(x0:O)(h:J):ab:=
 n x0 (some (.val (.slice none 0 0))) h
theorem avA{n:aS}:∀F h,ar qO C lf [1,0] F h (a7 n 0 3) a0 an=aM (Ua C lf n) 0 F h:=by
 intro F h;kernel_rfl
def Ub(C:ad)(lf:Nat)(r:aw)(x0:O)(h:J):ab:=
 Ua C lf (T9 C lf r) x0 h
theorem avB{r:aw}:∀F h,ar qO C lf [1] F h ba (aM r 2) an=aM (Ub C lf r) 0 F h:=bg (by kernel_rfl) avz avA
noncomputable def Uc(C:ad)(lf:Nat)(n:aw)(x0:O)(h:J):ab:=
 n x0 h
theorem avD{n:aw}:∀F h,ar qO C lf [0] F h (aM n 0) a0 an=aM (Uc C lf n) 0 F h:=by
 intro F h;kernel_rfl
def Ud(C:ad)(lf:Nat)(r:aw)(x0:O)(h:J):ab:=
 Uc C lf (Ub C lf r) x0 h
theorem avE{r:aw}:∀F h,ar qO C lf [] F h ba (aM r 2) an=aM (Ud C lf r) 0 F h:=bg (by kernel_rfl) avB avD
def Iu(C:ad)(lf:Nat)(ah:U)(h:J):ab:=Ud C lf H5 (some ah) h
def acD:cx ao:=hZ qO Iu (λC lf ah h=>cS (K:=(aM H5 2)) (by kernel_rfl) (Eq.trans (avE _ h) (by kernel_rfl))) (by kernel_rfl)
noncomputable def tC:b1 ao:=⟨66,Tryd.f66,λr=>bif Nat.beq r 6 then .ord [0,1,2,4,3,5,6,7] [(5,[3])] else .text,Tryd.func66,by kernel_rfl,by kernel_rfl,by kernel_rfl,by kernel_rfl⟩
noncomputable def wF(x2 x3:O)(h:J):ab:=
 ob x2 λa=>ob x3 λb=>some (.ret (.bm [a,b]),h)
def Fw(C:ad)(lf:Nat)(r:aS)(h:J):ab:=
 r (bD 0) (bD 28) h
theorem axA{r:aS}:∀F h,ar tC C lf [1,1] F h ba (a7 r 2 3) an=ed (Fw C lf r) F h:=by
 intro F h;kernel_rfl
def B6(C:ad)(lf:Nat)(n:bo)(r:aS)(av:cu)(x0 x9 aU x11:O)(h:J):ab:=
 lb .lss 3 x11 aU (ob x11 λa=>ob x9 λb=>sG 1 b x11 h λb=>fM b (dw 0 x0 h λb=>ob (dQ 1 b a) λb=>ob (st 1 b (.bool true) h) λk=>e9 1 x0 λb=>ob (bO b k) λc=>b2 (nN ao 24 (I 64) (I 64) k) λd l=>dM (ey [(3,bU (some b))] k l [3]) (ob (dQ 1 c a) λb=>ob (st 1 b d l) (r (some a) (bD 0)))) (cB .add 3 x11 (I 1) λa=>n x0 x9 aU (some a) h)) (av h)
theorem axz{n:bo}{r:aS}{av:cu}:∀F h,ar tC C lf [1,0,1,0,0] F h (bj n 0 9 10 11) (a7 r 2 3) (bI 0 (ed av) an)=bj (B6 C lf n r av) 0 9 10 11 F h:=by
 intro F h;kernel_rfl
def sw(C:ad)(lf:Nat)(r:aS)(av:cu)(k:O×O×O×O->J->ab)(s:O×O×O×O)(h:J):ab:=
 B6 C lf (λa b c d=>k (a,b,c,d)) r av s.1 s.2.1 s.2.2.1 s.2.2.2 h
def Vo(C:ad)(lf:Nat)(n:bo)(x0:O)(h:J):ab:=
 dw 0 x0 h λa=>jX 41 a λb=>n x0 (some a) (some b) (bD 0) h
theorem axB{n:bo}:∀F h,ar tC C lf [1,0,0] F h (bj n 0 9 10 11) a0 an=aM (Vo C lf n) 0 F h:=by
 intro F h;kernel_rfl
def Vp(C:ad)(lf:Nat)(n:cu)(r:aS)(x0:O)(h:J):ab:=
 Vo C lf (λa b c d=>bk (sw C lf r n) lf (a,b,c,d)) x0 h
theorem axC{n:cu}{r:aS}:∀F h,ar tC C lf [1,0] F h (ed n) (a7 r 2 3) an=aM (Vp C lf n r) 0 F h:=bg (b:=b7 tC [1,0,1]) (by kernel_rfl) (fY (id:=0) (a:=b7 tC [1,0,1,0]) (by kernel_rfl) (gJ (g:=λF=>(F 0,F 9,F 10,F 11)) (body:=sw C lf r n) (by kernel_rfl) (λk=>(axz (n:=λx0 x9 aU x11 h=>k (x0,x9,aU,x11) h))))) (axB (n:=λx0 x9 aU x11 h=>bk (sw C lf r n) lf (x0,x9,aU,x11) h))
def Vq(C:ad)(lf:Nat)(r:aS)(x0:O)(h:J):ab:=
 Vp C lf (Fw C lf r) r x0 h
theorem axD{r:aS}:∀F h,ar tC C lf [1] F h ba (a7 r 2 3) an=aM (Vq C lf r) 0 F h:=bg (by kernel_rfl) axA axC
noncomputable def Vr(C:ad)(lf:Nat)(n:aw)(x0:O)(h:J):ab:=
 n x0 h
theorem axE{n:aw}:∀F h,ar tC C lf [0] F h (aM n 0) a0 an=aM (Vr C lf n) 0 F h:=by
 intro F h;kernel_rfl
def Vs(C:ad)(lf:Nat)(r:aS)(x0:O)(h:J):ab:=
 Vr C lf (Vq C lf r) x0 h
theorem axF{r:aS}:∀F h,ar tC C lf [] F h ba (a7 r 2 3) an=aM (Vs C lf r) 0 F h:=bg (by kernel_rfl) axD axE
def A7(C:ad)(lf:Nat)(ah:U)(h:J):ab:=Vs C lf wF (some ah) h
def ac1:cx ao:=hZ tC A7 (λC lf ah h=>cS (K:=(a7 wF 2 3)) (by kernel_rfl) (Eq.trans (axF _ h) (by kernel_rfl))) (by kernel_rfl)
def abZ:b1 ao:=dk 67 Tryd.f67 Tryd.func67 (by kernel_rfl)
noncomputable def Ps(bC:O)(h:J):ab:=
 ob bC λa=>some (.ret a,h)
def Vt(C:ad)(lf:Nat)(r:aw)(x0 x1:O)(h:J):ab:=
 a1 C 72 x0 x1 h λa k=>fM a (r (bD 22) k) (dw 0 x0 k λa=>k6 1 a x1 λa=>ob (st 1 a (.bool false) k) (r (bD 0)))
theorem axG{r:aw}:∀F h,ar abZ C lf [] F h ba (aM r 4) an=a7 (Vt C lf r) 0 1 F h:=by
 intro F h;kernel_rfl
def Dz(C:ad)(lf:Nat)(ah aj:U)(h:J):ab:=Vt C lf Ps (some ah) (some aj) h
def ac2:cx ao:=hr abZ Dz (λC lf ah aj h=>cS (K:=(aM Ps 4)) (by kernel_rfl) (Eq.trans (axG _ h) (by kernel_rfl))) (by kernel_rfl)
def o0:b1 ao:=dk 69 Tryd.f69 Tryd.func69 (by kernel_rfl)
noncomputable def H7(x2 x3:O)(h:J):ab:=
 ob x2 λa=>ob x3 λb=>some (.ret (.bm [a,b]),h)
def K7(C:ad)(lf:Nat)(r:aS)(x0 bC:O)(h:J):ab:=
 ob bC λa=>ob bC λb=>nH 24 x0 λc=>cn .add 3 c (I 1) λc=>ob (gl ao 24 b (bD 1) (some c)) λb=>r (some a) (some b) h
theorem axR{r:aS}:∀F h,ar o0 C lf [1,1,1,1] F h ba (a7 r 2 3) an=a7 (K7 C lf r) 0 4 F h:=by
 intro F h;kernel_rfl
def Fx(C:ad)(lf:Nat)(n:cC)(av:aS)(x0 bC mP xH uH:O)(h:J):ab:=
 lb .lss 3 uH xH (ob uH λa=>ob mP λb=>sG 1 b uH h λb=>ob bC λc=>cn .add 3 a (I 1) λa=>ob (dQ 1 c a) λa=>ob (st 1 a b h) λk=>cB .add 3 uH (I 1) λa=>n x0 bC mP xH (some a) k) (av x0 bC h)
theorem axH{n:cC}{av:aS}:∀F h,ar o0 C lf [1,1,1,0,1,0,0] F h (cR n 0 4 18 19 20) a0 (bI 0 (a7 av 0 4) an)=cR (Fx C lf n av) 0 4 18 19 20 F h:=by
 intro F h;kernel_rfl
def BK(C:ad)(lf:Nat)(av:aS)(k:O×O×O×O×O->J->ab)(s:O×O×O×O×O)(h:J):ab:=
 Fx C lf (λa b c d g=>k (a,b,c,d,g)) av s.1 s.2.1 s.2.2.1 s.2.2.2.1 s.2.2.2.2 h
def Vu(C:ad)(lf:Nat)(n:cC)(x0 bC:O)(h:J):ab:=
 ob x0 λa=>jX 24 a λb=>n x0 bC (some a) (some b) (bD 0) h
theorem axI{n:cC}:∀F h,ar o0 C lf [1,1,1,0,0] F h (cR n 0 4 18 19 20) a0 an=a7 (Vu C lf n) 0 4 F h:=by
 intro F h;kernel_rfl
def Vv(C:ad)(lf:Nat)(n:aS)(x0 bC:O)(h:J):ab:=
 Vu C lf (λa b c d g=>bk (BK C lf n) lf (a,b,c,d,g)) x0 bC h
theorem axJ{n:aS}:∀F h,ar o0 C lf [1,1,1,0] F h (a7 n 0 4) a0 an=a7 (Vv C lf n) 0 4 F h:=bg (b:=b7 o0 [1,1,1,0,1]) (by kernel_rfl) (fY (id:=0) (a:=b7 o0 [1,1,1,0,1,0]) (by kernel_rfl) (gJ (g:=λF=>(F 0,F 4,F 18,F 19,F 20)) (body:=BK C lf n) (by kernel_rfl) (λk=>(axH (n:=λx0 bC mP xH uH h=>k (x0,bC,mP,xH,uH) h))))) (axI (n:=λx0 bC mP xH uH h=>bk (BK C lf n) lf (x0,bC,mP,xH,uH) h))
def Vw(C:ad)(lf:Nat)(r:aS)(x0 bC:O)(h:J):ab:=
 Vv C lf (K7 C lf r) x0 bC h
theorem axK{r:aS}:∀F h,ar o0 C lf [1,1,1] F h ba (a7 r 2 3) an=a7 (Vw C lf r) 0 4 F h:=bg (by kernel_rfl) axR axJ
def Vx(C:ad)(lf:Nat)(n:aS)(x0 bC:O)(h:J):ab:=
 ob bC λa=>ob bC λb=>nH 24 x0 λc=>cn .add 3 c (I 1) λc=>ob (dQ 1 a (I 0)) λa=>ob (st 1 a (.int .u8 165) h) λk=>ob (dQ 1 b c) λa=>ob (st 1 a (.int .u8 90) k) (n x0 bC)
theorem axL{n:aS}:∀F h,ar o0 C lf [1,1,0] F h (a7 n 0 4) a0 an=a7 (Vx C lf n) 0 4 F h:=by
 intro F h;kernel_rfl
def Vy(C:ad)(lf:Nat)(r:aS)(x0 bC:O)(h:J):ab:=
 Vx C lf (Vw C lf r) x0 bC h
theorem axM{r:aS}:∀F h,ar o0 C lf [1,1] F h ba (a7 r 2 3) an=a7 (Vy C lf r) 0 4 F h:=bg (by kernel_rfl) axK axL
def Vz(C:ad)(lf:Nat)(n:aS)(x0:O)(h:J):ab:=
 nH 24 x0 λa=>cn .add 3 a (I 2) λa=>b2 (nN ao 24 a a h) λa=>n x0 (some a)
theorem axN{n:aS}:∀F h,ar o0 C lf [1,0] F h (a7 n 0 4) a0 an=aM (Vz C lf n) 0 F h:=by
 intro F h;kernel_rfl
def VA(C:ad)(lf:Nat)(r:aS)(x0:O)(h:J):ab:=
 Vz C lf (Vy C lf r) x0 h
theorem axO{r:aS}:∀F h,ar o0 C lf [1] F h ba (a7 r 2 3) an=aM (VA C lf r) 0 F h:=bg (by kernel_rfl) axM axN
noncomputable def VB(C:ad)(lf:Nat)(n:aw)(x0:O)(h:J):ab:=
 n x0 h
theorem axP{n:aw}:∀F h,ar o0 C lf [0] F h (aM n 0) a0 an=aM (VB C lf n) 0 F h:=by
 intro F h;kernel_rfl
def VC(C:ad)(lf:Nat)(r:aS)(x0:O)(h:J):ab:=
 VB C lf (VA C lf r) x0 h
theorem axQ{r:aS}:∀F h,ar o0 C lf [] F h ba (a7 r 2 3) an=aM (VC C lf r) 0 F h:=bg (by kernel_rfl) axO axP
def IN(C:ad)(lf:Nat)(ah:U)(h:J):ab:=VC C lf H7 (some ah) h
def ac3:cx ao:=hZ o0 IN (λC lf ah h=>cS (K:=(a7 H7 2 3)) (by kernel_rfl) (Eq.trans (axQ _ h) (by kernel_rfl))) (by kernel_rfl)
def ab0:b1 ao:=dk 71 Tryd.f71 Tryd.func71 (by kernel_rfl)
noncomputable def Pt(bC:O)(h:J):ab:=
 ob bC λa=>some (.ret a,h)
def VD(C:ad)(lf:Nat)(r:aw)(x0 x1:O)(h:J):ab:=
 nH 24 x0 λa=>nH 24 x1 λb=>cn .add 3 b (I 2) λb=>cn .eql 3 a b λa=>cM (cT true (some a) (ob x0 λa=>some (.ret a,h)) h) λb k=>cM (cT true (some a) (ob (dQ 1 b (I 0)) λa=>some (.ret a,k)) k) λb k=>cM (cT true (some a) (ob (bO b k) λa=>some (.ret a,k)) k) λb k=>cM (cT true (some a) (cn .eql 5 b (.int .u8 165) λa=>some (.ret a,k)) k) λb k=>hA a b λa=>cM (cT true (some a) (ob x0 λa=>some (.ret a,k)) k) λb k=>cM (cT true (some a) (ob x1 λa=>some (.ret a,k)) k) λc k=>cM (cT true (some a) (jX 24 c λa=>some (.ret a,k)) k) λc k=>cM (cT true (some a) (cn .add 3 c (I 1) λa=>some (.ret a,k)) k) λc k=>cM (cT true (some a) (ob (dQ 1 b c) λa=>some (.ret a,k)) k) λb k=>cM (cT true (some a) (ob (bO b k) λa=>some (.ret a,k)) k) λb k=>cM (cT true (some a) (cn .eql 5 b (.int .u8 90) λa=>some (.ret a,k)) k) λb k=>hA a b λa=>cM (cT true (some a) (ob x0 λa=>some (.ret a,k)) k) λb k=>cM (cT true (some a) (ob x1 λa=>some (.ret a,k)) k) λc k=>cM (cT true (some a) (jX 24 c λa=>some (.ret a,k)) k) λc k=>cM (cT true (some a) (cn .add 3 c (I 1) λa=>some (.ret a,k)) k) λc k=>cM (cT true (some a) (ob (gl ao 24 b (bD 1) (some c)) λa=>some (.ret a,k)) k) λb k=>cM (cT true (some a) (b2 (rJ ao 24 9 b k) λa k=>some (.ret a,k)) k) λb k=>cM (cT true (some a) (ob x1 λa=>some (.ret a,k)) k) λc k=>cM (cT true (some a) (b2 (rJ ao 24 9 c k) λa k=>some (.ret a,k)) k) λc k=>cM (cT true (some a) (cn .eql 9 b c λa=>some (.ret a,k)) k) λb k=>hA a b λa=>r (some a) k
theorem axS{r:aw}:∀F h,ar ab0 C lf [] F h ba (aM r 4) an=a7 (VD C lf r) 0 1 F h:=by
 intro F h;kernel_rfl
def IP(C:ad)(lf:Nat)(ah aj:U)(h:J):ab:=VD C lf Pt (some ah) (some aj) h
def ac4:cx ao:=hr ab0 IP (λC lf ah aj h=>cS (K:=(aM Pt 4)) (by kernel_rfl) (Eq.trans (axS _ h) (by kernel_rfl))) (by kernel_rfl)
def ab1:b1 ao:=dk 72 Tryd.f72 Tryd.func72 (by kernel_rfl)
noncomputable def Pu(bC:O)(h:J):ab:=
 ob bC λa=>some (.ret a,h)
def VE(C:ad)(lf:Nat)(r:aw)(x0 x1:O)(h:J):ab:=
 cB .geq 3 x1 (I 0) λa=>b3 a x1 h λb k=>u4 0 a x0 k λc k=>b3 a (eG ao 41 c) k λc k=>b3 a (bin ao .lss 3 b c) k λb k=>hA a b λa=>u4 0 a x0 k λb k=>b3 a x1 k λc k=>b3 a (dQ 1 b c) k λb k=>b3 a (bO b k) k λb k=>hA a b λa=>r (some a) k
theorem axT{r:aw}:∀F h,ar ab1 C lf [] F h ba (aM r 4) an=a7 (VE C lf r) 0 1 F h:=by
 intro F h;kernel_rfl
def IQ(C:ad)(lf:Nat)(ah aj:U)(h:J):ab:=VE C lf Pu (some ah) (some aj) h
def ac5:cx ao:=hr ab1 IQ (λC lf ah aj h=>cS (K:=(aM Pu 4)) (by kernel_rfl) (Eq.trans (axT _ h) (by kernel_rfl))) (by kernel_rfl)
end
structure xN (h:J) (x:U) (q:Nat) (b:Nat->Nat) (i:Nat):Prop where
 aF:∃cap lo,x= .aF q 0 64 cap lo
 ok:mQ x
 w:h.wr q 64
 cs:∀j,j<64->h.cell q j=some (.int .u8 (b (i*64+j):Int))
 lt:q<h.next
def mj(h:J)(x:U)(k:Nat)(b:Nat->Nat)(i:Nat)(o:Bool):Prop:=xN h x k b i\/(o=false/\(∃cap lo,x= .aF k 0 0 cap lo)/\(∃N,h.wr k N)/\k<h.next)
structure mi (h:J) (x0 x1:U) (ro rb n:Nat) (on:Nat->Bool) (q:Nat->Option Nat) (b:Nat->Nat):Prop where
 cA:1<=n
 ck:n<=4096
 av:∃cap lo,x0= .aF ro 0 n cap lo
 az:∃cap lo,x1= .aF rb 0 n cap lo
 uG:h.wr ro n
 Cr:h.wr rb n
 tq:∀i,i<n->h.cell ro i=some (.bool (on i))
 off:∀i,i<n->q i=none->on i=false/\h.cell rb i=some (.val (.slice none 0 0))
 has:∀i k,i<n->q i=some k->k≠ro/\k≠rb/\∃x,h.cell rb i=some x/\mj h x k b i (on i)
 inj:∀i j k,i<n->j<n->q i=some k->q j=some k->i=j
 ne:ro≠rb
 ug:ro<h.next
 uf:rb<h.next
 blt:∀j,b j<256
structure gw (h:J) (r ro rb n:Nat) (on:Nat->Bool) (q:Nat->Option Nat) (b:Nat->Nat):Prop where
 v:∃x0 x1,h.cell r 0=some x0/\h.cell r 1=some x1/\mi h x0 x1 ro rb n on q b
 wr:∃M,2<=M/\h.wr r M
 uk:r≠ro
 qa:r≠rb
 rj:∀i k,i<n->q i=some k->k≠r
 lt:r<h.next
def xp(ro rb n:Nat)(q:Nat->Option Nat)(j:Nat):Prop:=j=ro\/j=rb\/∃i,i<n/\q i=some j
def LN(r ro rb n:Nat)(q:Nat->Option Nat)(j:Nat):Prop:=j=r\/xp ro rb n q j
section
variable{lf m:Nat}{h:J}{r ro rb n:Nat}{on:Nat->Bool}{q:Nat->Option Nat}{b:Nat->Nat}{x0 x1:U}
theorem eP{h h':J}{k N:Nat}(w:h.wr k N)(e:ct h h' k):h'.wr k N:=let ⟨m,a,c⟩:=w;⟨m,by rw[e.mt];exact a,c⟩
theorem xN.frame{x:U}{k i:Nat}(A:xN h x k b i){h':J}(aR:h.next<=h'.next)(e:ct h h' k):xN h' x k b i:=
 ⟨A.aF,A.ok,eP A.w e,λj aa=>by rw[e.cell];exact A.cs j aa,Nat.lt_of_lt_of_le A.lt aR⟩
theorem mj.lt{x:U}{k i:Nat}{o:Bool}(A:mj h x k b i o):k<h.next:=by
 rcases A with A|⟨_,_,_,A⟩
 ·exact A.lt
 ·exact A
theorem mj.row{x:U}{k i:Nat}{o:Bool}(A:mj h x k b i o):rowOf x=some k:=by
 rcases A with A|⟨_,⟨cap,lo,rfl⟩,_,_⟩
 ·obtain⟨cap,lo,rfl⟩:=A.aF;rfl
 ·rfl
theorem mj.jO{x:U}{k i:Nat}{o:Bool}(A:mj h x k b i o)(aq:o=true):xN h x k b i:=by
 rcases A with A|⟨e,_⟩
 ·exact A
 ·rw[aq] at e;cases e
theorem mj.frame{x:U}{k i:Nat}{o:Bool}(A:mj h x k b i o){h':J}(aR:h.next<=h'.next)(e:ct h h' k):mj h' x k b i o:=by
 rcases A with A|⟨h1,h2,⟨N,h3⟩,aT⟩
 ·exact .inl (A.frame aR e)
 ·exact .inr ⟨h1,h2,⟨N,eP h3 e⟩,Nat.lt_of_lt_of_le aT aR⟩
theorem mj.off{x:U}{k i:Nat}{o o':Bool}(A:mj h x k b i o)(aq:o'=o\/o'=false):mj h x k b i o':=by
 rcases A with A|⟨h1,h2⟩
 ·exact .inl A
 ·refine .inr ⟨?_,h2⟩;rcases aq with e|e
  ·rw[e];exact h1
  ·exact e
theorem mi.frame(A:mi h x0 x1 ro rb n on q b){h':J}(aR:h.next<=h'.next)(ak:∀j,xp ro rb n q j->ct h h' j):mi h' x0 x1 ro rb n on q b:=by
 have LS:=ak ro (.inl rfl);have vv:=ak rb (.inr (.inl rfl));refine⟨A.cA,A.ck,A.av,A.az,eP A.uG LS,eP A.Cr vv,λi hi=>by rw[LS.cell];exact A.tq i hi,λi hi a2=>by rw[vv.cell];exact A.off i hi a2,λi k hi a2=>?_,A.inj,A.ne,Nat.lt_of_lt_of_le A.ug aR,Nat.lt_of_lt_of_le A.uf aR,A.blt⟩;obtain⟨h1,h2,x,h3,aT⟩:=A.has i k hi a2;exact⟨h1,h2,x,by rw[vv.cell];exact h3,aT.frame aR (ak k (.inr (.inr ⟨i,hi,a2⟩)))⟩
theorem gw.frame(A:gw h r ro rb n on q b){h':J}(aR:h.next<=h'.next)(ak:∀j,LN r ro rb n q j->ct h h' j):gw h' r ro rb n on q b:=by
 have vw:=ak r (.inl rfl);obtain⟨x0,x1,cG,aP,V⟩:=A.v;exact⟨⟨x0,x1,by rw[vw.cell];exact cG,by rw[vw.cell];exact aP,V.frame aR λj aa=>ak j (.inr aa)⟩,(let ⟨M,a,c⟩:=A.wr;⟨M,a,eP c vw⟩),A.uk,A.qa,A.rj,Nat.lt_of_lt_of_le A.lt aR⟩
theorem mi.iq(A:mi h x0 x1 ro rb n on q b){j:Nat}(aa:xp ro rb n q j):j<h.next:=by
 rcases aa with rfl|rfl|⟨i,hi,a2⟩
 ·exact A.ug
 ·exact A.uf
 ·obtain⟨_,_,x,_,B⟩:=A.has i j hi a2;exact B.lt
theorem gw.iq(A:gw h r ro rb n on q b){j:Nat}(aa:LN r ro rb n q j):j<h.next:=by
 obtain⟨x0,x1,_,_,V⟩:=A.v;rcases aa with rfl|aa
 ·exact A.lt
 ·exact V.iq aa
theorem gw.gQ(A:gw h r ro rb n on q b){h':J}{Q:Nat->Prop}(F:aD h h' Q)(ak:∀j,LN r ro rb n q j->¬Q j):gw h' r ro rb n on q b:=
 A.frame F.next λj aa=>F.same j (A.iq aa) (ak j aa)
def lH(n:Nat)(on:Nat->Bool)(i:Int):Bool:=decide (0<=i)&&(decide (i<n)&&on i.toNat)
def Nl(C:ad):Prop:=∀h r ro rb n on q b i,gw h r ro rb n on q b->C (.fn 72) [.ptr r 0,I i] h=some (.ret (.bool (lH n on i)),h)
theorem ue{t e k off len lo:Nat}{cap:Option Nat}(hu:(ao).underlying t=some (.slice e)):eG ao t (.aF k off len cap lo)=some (I (len:Int)):=by simp[eG,hu]
theorem aBL{C:ad}(A:gw h r ro rb n on q b){i:Int}:IQ C lf (.ptr r 0) (I i) h=some (.ret (.bool (lH n on i)),h):=by
 obtain⟨x0,x1,cG,aP,V⟩:=A.v;obtain⟨cap,lo,rfl⟩:=V.av;have aJ:=ue (k:=ro) (off:=0) (len:=n) (cap:=cap) (lo:=lo) Tryd.underlying41;unfold IQ VE Pu;by_cases h1:0<=i
 ·by_cases h2:i<n
  ·have bW:=gA (s:=1) (k:=ro) (off:=0) (len:=n) (lo:=lo) (cap:=cap) (kd:= .i64) (i:=i) h1 (by omega);have ae:=V.tq i.toNat (by omega);have e:lH n on i=on i.toNat:=by simp[lH,h1,h2]
   simp only[aA,h1,h2,decide_true,cG,aJ,bW,ae,e]
  ·have e:lH n on i=false:=by simp[lH,h2]
   simp only[aA,h1,h2,decide_true,decide_false,cG,aJ,e]
 ·have e:lH n on i=false:=by simp[lH,h1]
  simp only[aA,h1,decide_false,e]
end
section
variable{lf m:Nat}{h:J}{r ro rb n:Nat}{on:Nat->Bool}{q:Nat->Option Nat}{b:Nat->Nat}{x0 x1:U}
def eW(on:Nat->Bool)(n:Nat):List Nat:=(List.range n).filter on
theorem Gf(on:Nat->Bool)(i:Nat):eW on (i+1)=eW on i++(if on i then[i] else[]):=by
 unfold eW;rw[List.range_succ,List.filter_append];cases h:on i<;>simp[List.filter,h]
theorem Cn(on:Nat->Bool)(n:Nat):(eW on n).length<=n:=by
 have:=List.length_filter_le on (List.range n)
 simpa[eW] using this
def G2(C:ad):Prop:=∀h r ro rb n on q b,gw h r ro rb n on q b->C (.fn 30) [.ptr r 0] h=some (.ret (I ((n-(eW on n).length:Nat):Int)),h)
theorem ahL{C:ad}{lf lo:Nat}{cap:Option Nat}(V:mi h x0 x1 ro rb n on q b)(av:aw):∀(d i:Nat),i+d=n->∀f,d<f->
 bk (BI C lf av) f (some (I ((i-(eW on i).length:Nat):Int)),some (.aF ro 0 n cap lo),some (I (n:Int)),some (I (i:Int))) h=av (some (I ((n-(eW on n).length:Nat):Int))) h
 |0,i,hw,f,au=>by
  obtain⟨f,rfl⟩:=dx f (by omega)
  have:i=n:=by omega
  subst this;rw[df];unfold BI Fj;have a9:decide ((i:Int)<(i:Int))=false:=by simp
  simp only[aA,a9]
 |d+1,i,hw,f,au=>by
  obtain⟨f,rfl⟩:=dx f (by omega);have h2:=V.ck;have a9:decide ((i:Int)<(n:Int))=true:=bu (by omega);have dr:IntKind.i64.wrap ((i:Int)+1)=((i+1:Nat):Int):=cD (by omega);have bW:=gA (s:=1) (k:=ro) (off:=0) (len:=n) (lo:=lo) (cap:=cap) (kd:= .i64) (i:=(i:Int)) (by omega) (by omega);rw[Int.toNat_natCast,Nat.mul_one,Nat.zero_add] at bW;have ae:=V.tq i (by omega);have hle:=Cn on i;have bp:=ahL (lf:=lf) (C:=C) (lo:=lo) (cap:=cap) V av d (i+1) (by omega) f (by omega);rw[df];show Fj C lf (λx3 x9 aU x11 h=>bk (BI C lf av) f (x3,x9,aU,x11) h) av (some (I ((i-(eW on i).length:Nat):Int))) (some (.aF ro 0 n cap lo)) (some (I (n:Int))) (some (I (i:Int))) h=_;unfold Fj;cases aq:on i with
  |true=>
   have e:i+1-(eW on (i+1)).length=i-(eW on i).length:=by rw[Gf,aq];simp
   rw[aq] at ae;rw[e] at bp;simp only[aA,a9,bW,ae,dr,Bool.not_true];exact bp
  |false=>
   have e:i+1-(eW on (i+1)).length=i-(eW on i).length+1:=by rw[Gf,aq];simp;omega
   rw[aq] at ae;rw[e] at bp;have iO:IntKind.i64.wrap (((i-(eW on i).length:Nat):Int)+1)=((i-(eW on i).length+1:Nat):Int):=cD (by omega);simp only[aA,a9,bW,ae,dr,Bool.not_false,iO];exact bp
theorem aBM{C:ad}(gy:4097<=lf)(A:gw h r ro rb n on q b):Is C lf (.ptr r 0) h=some (.ret (I ((n-(eW on n).length:Nat):Int)),h):=by
 obtain⟨x0,x1,cG,aP,V⟩:=A.v;obtain⟨cap,lo,rfl⟩:=V.av;have h2:=V.ck;have aJ:=ue (k:=ro) (off:=0) (len:=n) (cap:=cap) (lo:=lo) Tryd.underlying41
 have:=ahL (lf:=lf) (C:=C) (lo:=lo) (cap:=cap) V (λx3 h=>KC C lf H4 x3 h) n 0 (by omega) lf (by omega)
 unfold Is TZ TY TX TW TV TU TT;simp only[aA,cG,aJ];refine Eq.trans this ?_;unfold KC H4;simp only[cf,b8]
def Nr(C:ad):Prop:=∀h r ro rb n on q b,gw h r ro rb n on q b->∃x h',C (.fn 32) [.ptr r 0] h=some (.ret x,h')/\eQ h h' x (eW on n)/\aD h h' (λ_=>False)
theorem XC{C:ad}{lf lo:Nat}{cap:Option Nat}{h0:J}(V:mi h0 x0 x1 ro rb n on q b)(av:aw):∀(d i:Nat),i+d=n->∀f,d<f->∀h x,eQ h0 h x (eW on i)->aD h0 h (λ_=>False)->
 ∃bF h',bk (BJ C lf av) f (some x,some (.aF ro 0 n cap lo),some (I (n:Int)),some (I (i:Int))) h=av (some bF) h'/\eQ h0 h' bF (eW on n)/\aD h0 h' (λ_=>False)
 |0,i,hw,f,au,h,x,A,F=>by
  obtain⟨f,rfl⟩:=dx f (by omega)
  have:i=n:=by omega
  subst this;refine⟨x,h,?_,A,F⟩;rw[df];unfold BJ Fk;have a9:decide ((i:Int)<(i:Int))=false:=by simp
  simp only[aA,a9]
 |d+1,i,hw,f,au,h,x,A,F=>by
  obtain⟨f,rfl⟩:=dx f (by omega);have h2:=V.ck;have a9:decide ((i:Int)<(n:Int))=true:=bu (by omega);have dr:IntKind.i64.wrap ((i:Int)+1)=((i+1:Nat):Int):=cD (by omega);have bW:=gA (s:=1) (k:=ro) (off:=0) (len:=n) (lo:=lo) (cap:=cap) (kd:= .i64) (i:=(i:Int)) (by omega) (by omega);rw[Int.toNat_natCast,Nat.mul_one,Nat.zero_add] at bW;have ae:h.cell ro i=some (.bool (on i)):=by rw[(F.same ro V.ug (λe=>e)).cell];exact V.tq i (by omega)
  rw[df];show ∃bF h',Fk C lf (λx3 x9 aU x11 h=>bk (BJ C lf av) f (x3,x9,aU,x11) h) av (some x) (some (.aF ro 0 n cap lo)) (some (I (n:Int))) (some (I (i:Int))) h=av (some bF) h'/\_;unfold Fk;cases aq:on i with
  |false=>
   rw[aq] at ae;simp only[aA,a9,bW,ae,dr];have e:eW on (i+1)=eW on i:=by rw[Gf,aq];simp
   exact XC V av d (i+1) (by omega) f (by omega) h x (by rw[e];exact A) F
  |true=>
   rw[aq] at ae;have e:eW on (i+1)=eW on i++[i]:=by rw[Gf,aq];rfl
   have aJ:=Cn on i;obtain⟨bF,h',aj,aC,a8,cF,dK,dH,fE,h4⟩:=tk (y:=I (i:Int)) ti rfl rfl rfl A.aF (by omega) (by omega);simp only[aA,a9,bW,ae,dr,aj,aC];refine XC V av d (i+1) (by omega) f (by omega) h' bF ⟨?_,λj aa=>?_⟩ ⟨dK.trans F.aO,Nat.le_trans F.next cF,λj aa _=>(dH j (Nat.lt_of_lt_of_le aa F.next) (λaQ=>absurd (A.new j aQ) (by omega))).trans (F.same j aa (λe=>e)),λau=>h4 (F.dm au)⟩
   ·rw[e]
    have:ints (eW on i++[i])=ints (eW on i)++[I (i:Int)]:=by simp[ints]
    rw[this,List.length_append];exact a8
   ·rcases fE j aa with aQ|aQ
    ·exact A.new j aQ
    ·exact Nat.le_trans F.next aQ
theorem aCr{C:ad}(gy:4097<=lf)(A:gw h r ro rb n on q b):∃x h',Iu C lf (.ptr r 0) h=some (.ret x,h')/\eQ h h' x (eW on n)/\aD h h' (λ_=>False):=by
 obtain⟨x0,x1,cG,aP,V⟩:=A.v;obtain⟨cap,lo,rfl⟩:=V.av;have h2:=V.ck;have aJ:=ue (k:=ro) (off:=0) (len:=n) (cap:=cap) (lo:=lo) Tryd.underlying41;obtain⟨bF,h',b4,cv,l2⟩:=XC (lf:=lf) (C:=C) (lo:=lo) (cap:=cap) V (λx3 h=>KE C lf H5 x3 h) n 0 (by omega) lf (by omega) h (.val (.slice none 0 0)) ⟨ha.nil _ _ _,λj aa=>by cases aa⟩ (aD.refl h _);refine⟨bF,h',?_,cv,l2⟩;unfold Iu Ud Uc Ub Ua T9 T8 T7;simp only[aA,cG,aJ];refine Eq.trans b4 ?_;unfold KE H5;simp only[cf,b8]
def nT(h:J)(x:U)(l:List Nat):Prop:=l.length<=4096/\((x= .val (.slice none 0 0)/\l=[])\/∃k cap lo,x= .aF k 0 l.length cap lo/\∀j,j<l.length->h.cell k j=some (I ((l.getD j 0:Nat):Int)))
theorem eQ.tY{h0 h:J}{x:U}{l:List Nat}(A:eQ h0 h x l)(aJ:l.length<=4096):nT h x l:=by
 refine⟨aJ,?_⟩;rcases A.aF.2 with⟨h1,h2⟩|⟨k,h1,h2⟩
 ·exact .inl ⟨h1,List.eq_nil_of_length_eq_zero h2⟩
 ·refine .inr ⟨k,none,0,h1,λj aa=>?_⟩;rw[h2.cs j (by omega)];simp[ints,List.getD,aa]
theorem nT.frame{h h':J}{x:U}{l:List Nat}(A:nT h x l)(ak:∀k,rowOf x=some k->ct h h' k):nT h' x l:=by
 refine⟨A.1,?_⟩;rcases A.2 with h1|⟨k,cap,lo,rfl,h2⟩
 ·exact .inl h1
 ·exact .inr ⟨k,cap,lo,rfl,λj aa=>by rw[(ak k rfl).cell];exact h2 j aa⟩
theorem nT.len{x:U}{l:List Nat}(A:nT h x l):eG ao 33 x=some (I (l.length:Int)):=by
 rcases A.2 with⟨rfl,rfl⟩|⟨k,cap,lo,rfl,_⟩
 ·simp[eG,Tryd.underlying33,fP]
 ·simp[eG,Tryd.underlying33]
theorem nT.at{x:U}{l:List Nat}(A:nT h x l){i:Nat}(hi:i<l.length):∃a,dQ 1 x (I (i:Int))=some a/\bO a h=some (I ((l.getD i 0:Nat):Int)):=by
 rcases A.2 with⟨rfl,rfl⟩|⟨k,cap,lo,rfl,h2⟩
 ·simp at hi
 ·have bW:=gA (s:=1) (k:=k) (off:=0) (len:=l.length) (lo:=lo) (cap:=cap) (kd:= .i64) (i:=(i:Int)) (by omega) (by omega);rw[Int.toNat_natCast,Nat.mul_one,Nat.zero_add] at bW;exact⟨_,bW,h2 i hi⟩
def Ay(C:ad):Prop:=∀h x y l dJ,nT h x l->nT h y dJ->C (.fn 31) [x,y] h=some (.ret (.bool (decide (l=dJ))),h)
theorem aeL{C:ad}{lf:Nat}{x y:U}{l dJ:List Nat}(A:nT h x l)(B:nT h y dJ)(kY:l.length=dJ.length)(r:aw)(av:cu):∀(d i:Nat),i+d=l.length->(∀j,j<i->l.getD j 0=dJ.getD j 0)->∀f,d<f->
 (l=dJ->bk (uc C lf r av) f (some x,some y,some (I (l.length:Int)),some (I (i:Int))) h=av h)/\
 (l≠dJ->bk (uc C lf r av) f (some x,some y,some (I (l.length:Int)),some (I (i:Int))) h=r (some (.bool false)) h)
 |0,i,hw,aa,f,au=>by
  obtain⟨f,rfl⟩:=dx f (by omega)
  have:i=l.length:=by omega
  subst this;have a9:decide ((l.length:Int)<(l.length:Int))=false:=by simp
  refine⟨λ_=>?_,λca=>?_⟩
  ·rw[df];unfold uc BZ;simp only[aA,a9]
  ·exfalso;apply ca
   apply List.ext_getElem kY;intro j h1 h2
   have:=aa j h1
   simpa[List.getD,h1,h2] using this
 |d+1,i,hw,aa,f,au=>by
  obtain⟨f,rfl⟩:=dx f (by omega);have h2:=A.1;have a9:decide ((i:Int)<(l.length:Int))=true:=bu (by omega);have dr:IntKind.i64.wrap ((i:Int)+1)=((i+1:Nat):Int):=cD (by omega);obtain⟨a,aj,aC⟩:=A.at (i:=i) (by omega);obtain⟨c,bY,b2⟩:=B.at (i:=i) (by omega)
  have step:l.getD i 0=dJ.getD i 0->bk (uc C lf r av) (f+1) (some x,some y,some (I (l.length:Int)),some (I (i:Int))) h=bk (uc C lf r av) f (some x,some y,some (I (l.length:Int)),some (I ((i+1:Nat):Int))) h:=λe=>by
   have ca:decide (((l.getD i 0:Nat):Int)≠((dJ.getD i 0:Nat):Int))=false:=by rw[e];simp
   rw[df];show BZ C lf (λx0 x1 x12 ew h=>bk (uc C lf r av) f (x0,x1,x12,ew) h) r av (some x) (some y) (some (I (l.length:Int))) (some (I (i:Int))) h=_;unfold BZ;simp only[cf,b8,r0,a9,sX,aj,aC,bY,b2,C0,ca,qs,rZ,dr]
  by_cases e:l.getD i 0=dJ.getD i 0
  ·obtain⟨i1,i2⟩:=aeL (lf:=lf) (C:=C) A B kY r av d (i+1) (by omega) (λj h1=>by
    by_cases ay:j=i
    ·rw[ay];exact e
    ·exact aa j (by omega)) f (by omega)
   exact⟨λh1=>(step e).trans (i1 h1),λh1=>(step e).trans (i2 h1)⟩
  ·refine⟨λh1=>absurd (by rw[h1]) e,λ_=>?_⟩;have ca:decide (((l.getD i 0:Nat):Int)≠((dJ.getD i 0:Nat):Int))=true:=bu (by omega);rw[df];unfold uc BZ;simp only[cf,b8,r0,a9,sX,aj,aC,bY,b2,C0,ca]
theorem aq3{C:ad}{x y:U}{l dJ:List Nat}(gy:4097<=lf)(A:nT h x l)(B:nT h y dJ):It C lf x y h=some (.ret (.bool (decide (l=dJ))),h):=by
 have h2:=A.1;have az:=A.len;have ay:=B.len;unfold It T6 T5 T4 T3;by_cases kY:l.length=dJ.length
 ·have ca:decide ((l.length:Int)≠(dJ.length:Int))=false:=by rw[kY];simp
  simp only[aA,az,ay,ca];unfold T2 T1 T0;simp only[aA,az];obtain⟨i1,i2⟩:=aeL (lf:=lf) (C:=C) A B kY yz (λh=>KD C lf yz h) l.length 0 (by omega) (λj aa=>by omega) lf (by omega);by_cases e:l=dJ
  ·refine(i1 e).trans ?_;rw[bu e];unfold KD yz;simp only[cf,b8]
  ·refine(i2 e).trans ?_;rw[br e];unfold yz;simp only[cf,b8]
 ·have ca:decide ((l.length:Int)≠(dJ.length:Int))=true:=bu (by omega);have e:l≠dJ:=λe=>kY (by rw[e])
  simp only[aA,az,ay,ca,br e];unfold yz;simp only[cf,b8]
end
end Go.Proofs.YtomialandfplkaaDoor.Eva
namespace Go.Xe
section
variable{P:Program}
theorem arv(C:ad):lS C (rf C):=λc args h o h' e D=>by
 show(match C c args h with|some (o,h)=>some (o,h.b0 D)|none=>none)=_;rw[e]
theorem amk(h:J):clean (h.b0 [])=true:=rfl
theorem aCp{tab:aH (gx P)}{lf m k:Nat}{args:List U}{h h':J}{y:U}{o:bH}{st:LoopState}{iC:Jump}{ord:Nat->Hint}{me:FuncId}{N:Nat}{F:aH U}{ps:Array Tmp}{a c:Code}{b:Nat}
 (aq:h.aV.get k=some o)(ak:o.sp= .loop st iC ord me N F ps a c b)(e:Cf P (hK tab lf m).call ord me k N lf F.get ps a c args h=some (.ret y,h')):(hK tab lf (m+1)).call (.fV k) args h=some (.ret y,h'):=by
 show FX P (hK tab lf m) lf k args h=_;unfold FX;simp only[aq,ak,Rz]
 have:=aBT (callf:=rf (hK tab lf m).call) (jump:=k0 P (rf (hK tab lf m).call) ord me (some k) N lf lf) (arv _) (Ft:=F) (λt=>rfl) e []
 have av:h.x0=h.b0 []:=rfl;rw[av,this];unfold Gb;simp only[amk,cond_true];rfl
end
section
variable{P:Program}{t u e sz b:Nat}{h:J}
theorem ah6{h h':J}{k:Nat}(ai:k<h.next)(hm:∃m,h.mt k=some m)(e:ct h h' k):FZ h h' k=true:=by
 obtain⟨m,hm⟩:=hm;have ag:Nat.blt k h.next=true:=by rw[Nat.blt_eq];exact ai
 unfold J.mt at hm;cases aq:h.aV.get k with
 |none=>simp[aq] at hm
 |some o=>
  have e:h'.aV.get k=h.aV.get k:=e;unfold FZ;simp only[ag,cond_true,aq,e,Nat.beq_refl]
theorem AP{h h':J}{k i:Nat}{x:U}{r:ab}(ax:jN x=some k)(ai:k<h.next)(hm:∃m,h.mt k=some m)(e:ct h h' k):dM (ey [(i,bU (some x))] h h' [i]) r=r:=by
 have h1:=ah6 ai hm e
 have h2:mq [(i,bU (some x))] i=some k:=by
  simp[mq,bU,ax]
 simp only[ey,h2,h1,Bool.and_self,wx]
theorem MC{z:Value}(hu:P.underlying t=some (.slice e))(ak:eg P e=some sz)(aX:gC P e=some z)(ff:(c1 z).cells.length=sz)(h1:1<=sz):
 gp P t 0 [] [] h=some (.aF h.next 0 0 (some 0) 0,h.new (cI e [])):=by
 unfold gp oD
 have h2:(Nat.ble (0*sz) 65536&&Nat.ble 1 sz&&Nat.beq (c1 z).cells.length sz)=true:=by
  rw[Nat.zero_mul,ff,Nat.beq_refl,Nat.ble_eq_true_of_le h1];rfl
 have h3:oX (λi=>some (i*sz,sz)) (rB (c1 z).cells 0) ([].zip [])=some []:=rfl;simp only[hu,ak,aX,h2,cond_true,h3,newRow,force_eq];rfl
theorem Hw{k:Nat}{y:U}{n:Nat}{news:List U}(T:mf P t u e sz b)(ai:∃m,h.mt k=some m)(he:jv h.x0 sz y=some (n,news))(gq:news.length=n*sz)(fm:dB news=true)(aR:1<=n)
 (ae:n<=140737488355328)(qT:n*b<=140737488355328):
 eX P .append #[t,u] [.aF k 0 0 (some 0) 0,y] h=some (.aF h.next 0 n none 0,h.new (kH e sz news)):=by
 rw[Cx T he gq fm];obtain⟨m,hm⟩:=ai;unfold J.mt at hm;cases aq:h.aV.get k with
 |none=>simp[aq] at hm
 |some o=>
  have bY:Nat.ble n 0=false:=by
   cases ag:Nat.ble n 0 with
   |false=>rfl
   |true=>exact absurd (Nat.le_of_ble_eq_true ag) (by omega)
  have aJ:kG o 0 (0*sz)=some []:=by rw[Nat.zero_mul];rfl
  simp only[kR,J.py,aq,force_eq,Nat.zero_add,bY,cond_false,aJ,List.nil_append];exact Hu ae qT
end
def J.at(h:J)(k:Nat)(o:bH):J:=⟨h.aO,h.next,h.aV.put k o⟩
theorem uY(h:J)(k:Nat)(o:bH)(j:Nat):(h.at k o).aV.get j=if j=k then some o else h.aV.get j:=cE.kT _ _ _ _
theorem pQ(h:J){k j:Nat}(o:bH)(e:j≠k):(h.at k o).aV.get j=h.aV.get j:=by rw[uY,if_neg e]
theorem Ob(h:J)(k:Nat)(o:bH)(i:Nat):(h.at k o).cell k i=o.get i:=by unfold J.cell;rw[uY,if_pos rfl]
theorem ZW{h:J}{k j:Nat}(o:bH)(e:j≠k)(i:Nat):(h.at k o).cell j i=h.cell j i:=by unfold J.cell;rw[pQ h o e]
theorem Mn{h:J}{k:Nat}{o:bH}(aQ:o.ro=false):(h.at k o).wr k o.n:=⟨o.mt,by unfold J.mt;rw[uY,if_pos rfl],aQ,rfl⟩
theorem Yg{h:J}{k j N:Nat}{o:bH}(w:h.wr j N)(e:j≠k):(h.at k o).wr j N:=by
 obtain⟨m,h1,h2,h3⟩:=w;exact⟨m,by unfold J.mt;rw[pQ h o e];exact h1,h2,h3⟩
section
variable{P:Program}{h:J}
theorem Yt{t e s b base i:Nat}{z:Value}{k1 k2:IntKind}{l c:Nat}(hu:P.underlying t=some (.slice e))(ak:eg P e=some s)(aX:gC P e=some z)(ag:oG P e=some b)
 (h1:l<=c)(h2:c*b<=140737488355328)(h3:c<=140737488355328)(aT:(c1 z).cells.length=s)(bz:1<=s):
 pC (nN P t (.int k1 (l:Int)) (.int k2 (c:Int))) base i h=some (.aF (base+i) 0 l (some c) 0,h.at (base+i) (iU e (c*s) (c1 z).cells)):=by
 unfold pC;rw[Ai hu ak aX ag h1 h2 h3 aT bz];rfl
theorem RY{rs:List Nat}{n:Nat}{k:Nat->J->ab}(au:iY h):zG rs n h k=k h.next ⟨h.aO,h.next+n,h.aV⟩:=by
 have aI:∀rs:List Nat,AR h h.next rs=true:=λrs=>by
  induction rs with
  |nil=>rfl
  |cons r rs bp=>simp only[AR,au (h.next+r) (Nat.le_add_right _ _),bp,Bool.and_self]
 unfold zG;simp only[force_eq,aI,wx]
theorem Db{k off n sz lo:Nat}{cap:Option Nat}{ys:List U}(hm:∃m,h.mt k=some m)(ae:h.cells k off (n*sz)=some ys):jv h.x0 sz (.aF k off n cap lo)=some (n,ys):=by
 obtain⟨m,hm⟩:=hm;unfold J.mt at hm;cases aq:h.aV.get k with
 |none=>simp[aq] at hm
 |some o=>simp only[jv,J.py,aq,zw aq,ae]
theorem NT{t u e sz b:Nat}{y:U}{n:Nat}{news:List U}(T:mf P t u e sz b)(he:jv h.x0 sz y=some (n,news))(gq:news.length=n*sz)(fm:dB news=true)(aR:1<=n)
 (ae:n<=140737488355328)(qT:n*b<=140737488355328):
 eX P .append #[t,u] [.val (.slice none 0 0),y] h=some (.aF h.next 0 n none 0,h.new (kH e sz news)):=by
 rw[Cx T he gq fm]
 have bY:Nat.beq n 0=false:=by
  cases ag:Nat.beq n 0 with
  |false=>rfl
  |true=>exact absurd (Nat.eq_of_beq_eq_true ag) (by omega)
 simp only[show(Nat.beq 0 0&&Nat.beq 0 0)=true from rfl,cond_true,bY,cond_false];exact Hu ae qT
theorem alf{t u e sz b:Nat}{k:Nat}{y:U}(T:mf P t u e sz b)(ai:∃N,h.wr k N)(he:jv h.x0 sz y=some (0,[])):
 eX P .append #[t,u] [.aF k 0 0 (some 0) 0,y] h=some (.aF k 0 0 (some 0) 0,h.set k 0 []):=by
 rw[Cx T he (by simp) rfl];obtain⟨N,m,hm,aQ,_⟩:=ai;unfold J.mt at hm;cases aq:h.aV.get k with
 |none=>simp[aq] at hm
 |some o=>
  simp only[aq,Option.some.injEq] at hm;subst hm;simp only[bH.mt] at aQ;have bY:(Nat.ble (0+0*sz) o.n&&!o.ro)=true:=by rw[aQ,Nat.zero_mul,Nat.ble_eq_true_of_le (Nat.zero_le _)];rfl
  simp only[kR,J.py,aq,force_eq,Nat.add_zero,show Nat.ble 0 0=true from rfl,cond_true,oS,bY];unfold J.set;simp only[aq,ET,Nat.zero_mul,Nat.zero_add,Nat.add_zero];rfl
end
theorem Zf{α:Type}(l:List α)(f:α->U)(au:∀x,(f x).one=true):dB (l.map f)=true:=by
 induction l with
 |nil=>rfl
 |cons x l bp=>simp[dB,au,bp]
end Go.Xe
namespace Go.Proofs.YtomialandfplkaaDoor.Eva
open Go.Xe
section
variable{lf:Nat}{h:J}{T:dS}{n N:Nat}{wd b:Nat->Nat}{now:Int}{us:Nat->Bool}{nd:Nat->Nat->U}
theorem bt.gQ(A:bt h T n N wd b now us nd){h':J}{S:Nat->Prop}(F:aD h h' S)(ak:∀j,S j->j≠T.a3/\j≠T.bL/\j≠T.kd/\j≠T.aK):bt h' T n N wd b now us nd:=
 A.frame F.next λj aa=>F.same j (by rcases aa with rfl|rfl|rfl|rfl;exact A.lt;exact A.st.sA;exact A.st.ra;exact A.k5) (λe=>by have:=ak j e;rcases aa with rfl|rfl|rfl|rfl<;>simp at this)
def fc(us:Nat->Bool)(N:Nat):List Nat:=(eW us N).map (· +1)
theorem Mi(us:Nat->Bool)(i:Nat):fc us (i+1)=fc us i++(if us i then[i+1] else[]):=by
 unfold fc;rw[Gf,List.map_append];cases us i<;>rfl
theorem Cm(us:Nat->Bool)(N:Nat):(fc us N).length<=N:=by
 unfold fc;rw[List.length_map];exact Cn us N
theorem Ov{C:ad}(c6:Nat->J->Prop)(vm:Nat)(A:∀i h,c6 i h->bt h T n N wd b now us nd)(aQ:∀i h,i<N->us i=true->c6 i h->∃h',C (.fV vm) [I ((i+1:Nat):Int)] h=some (.ret (.bool true),h')/\c6 (i+1) h')
 (Es:∀i h,i<N->us i=false->c6 i h->c6 (i+1) h)(r av:cu):∀(d i:Nat),i+d=N->∀f,d<f->∀h,c6 i h->
 ∃h',bk (BN C lf r av) f (some (.ptr T.a3 0),some (.fV vm),some (I (N:Int)),some (I (i:Int))) h=av h'/\c6 N h'
 |0,i,hw,f,au,h,bT=>by
  obtain⟨f,rfl⟩:=dx f (by omega)
  have:i=N:=by omega
  subst this;refine⟨h,?_,bT⟩;rw[df];unfold BN FC;have a9:decide ((i:Int)<(i:Int))=false:=by simp
  simp only[aA,a9]
 |d+1,i,hw,f,au,h,bT=>by
  obtain⟨f,rfl⟩:=dx f (by omega);have iW:=A i h bT;have jQ:=iW.gH;have hi:i<N:=by omega
  have a9:decide ((i:Int)<(N:Int))=true:=bu (by omega);have dr:IntKind.i64.wrap ((i:Int)+1)=((i+1:Nat):Int):=cD (by omega);obtain⟨cap,fl⟩:=iW.aP;have bW:=gA (s:=308) (k:=T.aK) (off:=0) (len:=N) (lo:=0) (cap:=cap) (kd:= .i64) (i:=(i:Int)) (by omega) (by omega);rw[Int.toNat_natCast,Nat.zero_add] at bW;have ae:=iW.dO i 0 hi (by omega);rw[Nat.add_zero,iW.kN i hi] at ae;rw[df];show ∃h',FC C lf (λx0 x1 x12 ew h=>bk (BN C lf r av) f (x0,x1,x12,ew) h) r av (some (.ptr T.a3 0)) (some (.fV vm)) (some (I (N:Int))) (some (I (i:Int))) h=av h'/\_;unfold FC;cases aq:us i with
  |false=>
   rw[aq] at ae;simp only[aA,a9,fl,bW,Nat.add_zero,ae,dr];exact Ov c6 vm A aQ Es r av d (i+1) (by omega) f (by omega) h (Es i h hi aq bT)
  |true=>
   rw[aq] at ae;obtain⟨h1,az,qu⟩:=aQ i h hi aq bT;simp only[aA,a9,fl,bW,Nat.add_zero,ae,dr,fv,rY,az,Bool.not_true];exact Ov c6 vm A aQ Es r av d (i+1) (by omega) f (by omega) h1 qu
theorem anu{C:ad}(gy:4097<=lf)(aN:pH C)(c6:Nat->J->Prop)(vm:Nat)(A:∀i h,c6 i h->bt h T n N wd b now us nd)(aQ:∀i h,i<N->us i=true->c6 i h->∃h',C (.fV vm) [I ((i+1:Nat):Int)] h=some (.ret (.bool true),h')/\c6 (i+1) h')
 (Es:∀i h,i<N->us i=false->c6 i h->c6 (i+1) h)(bT:c6 0 h):∃h',DB C lf (.ptr T.a3 0) (.fV vm) h=some (.ret (.bm []),h')/\c6 N h':=by
 have iW:=A 0 h bT;have jQ:=iW.gH;obtain⟨cap,fl⟩:=iW.aP
 have aJ:eG ao 100 (.aF T.aK 0 N cap 0)=some (I (N:Int)):=by
  simp[eG,Tryd.underlying100]
 obtain⟨h',b4,cv⟩:=Ov (lf:=lf) c6 vm A aQ Es Dh Dh N 0 (by omega) lf (by omega) h bT;refine⟨h',?_,cv⟩;unfold DB Wj Wi Wh Wg;simp only[aA,aN _ _ _ _ _ _ _ _ _ iW,Bool.not_true,fl,aJ];exact b4
noncomputable def afi(p bB:Nat):pK:= .loop .ready .none dn.ord 47 13 (jl [(3,some (.ptr p 0))]) #[7] (b7 dn [1,1,0,1,0,0]) (b7 dn [1,1,0,1,0,1]) bB
structure CK (h:J) (bB eO p:Nat):Prop where
 ol:∃o,h.aV.get eO=some o/\o.sp=afi p bB
 ob:∃o,h.aV.get bB=some o/\o.sp= .jO false
theorem CK.same{bB eO p:Nat}(A:CK h bB eO p){h':J}(h1:ct h h' bB)(h2:ct h h' eO):CK h' bB eO p:=
 ⟨let ⟨o,a,c⟩:=A.ol;⟨o,h2.trans a,c⟩,let ⟨o,a,c⟩:=A.ob;⟨o,h1.trans a,c⟩⟩
structure wa (h0 h:J) (bB eO p:Nat) (l:List Nat):Prop where
 F:aD h0 h (λ_=>False)
 L:CK h bB eO p
 v:∃x,h.cell p 0=some x/\eQ h0 h x l/\∀j,rowOf x=some j->j≠bB/\j≠eO/\j≠p
 w:h.wr p 1
 oB:h0.next<=bB
 nl:h0.next<=eO
 afJ:h0.next<=p
 JR:bB<h.next
 hg:eO<h.next
 bk:p<h.next
 d1:bB≠eO
 d2:bB≠p
 d3:eO≠p
theorem aid{h:J}{k:Nat}{o:bH}{st vx:LoopState}{p:Option Jump}{q:Jump}{ord:Nat->Hint}{me:FuncId}{M:Nat}{G:aH U}{ps:Array Tmp}{a c:Code}{mY:Nat}(aq:h.aV.get k=some o)(ak:o.sp= .loop vx q ord me M G ps a c mY):
 Ci h k st p=some (h.at k {o with cq:=o.cq+1,sp:= .loop st (EV p q) ord me M G ps a c mY}):=by
 unfold Ci;simp only[aq,F3,ak];rfl
theorem aBp{h:J}{k:Nat}{o:bH}{K:J->ab}{q:Jump}{ord:Nat->Hint}{me:FuncId}{M:Nat}{G:aH U}{ps:Array Tmp}{a c:Code}{mY:Nat}(aq:h.aV.get k=some o)(ak:o.sp= .loop .ready q ord me M G ps a c mY):
 ux h k K=K (h.at k {o with cq:=o.cq+1,sp:= .loop .busy q ord me M G ps a c mY}):=by
 unfold ux
 have:isReady o=true:=by unfold isReady;obtain⟨_,_,_,_,_,_,_,_,sp⟩:=o;simp only at ak;subst ak;rfl
 simp only[cf,aq,this,cond_true,aid aq ak,b8];rfl
theorem anB{h:J}{k:Nat}{o:bH}{st vx:LoopState}{p q:Jump}{ord:Nat->Hint}{me:FuncId}{M:Nat}{G:aH U}{ps:Array Tmp}{a c:Code}{mY:Nat}{r:Bool}(aq:h.aV.get k=some o)(ak:o.sp= .loop vx q ord me M G ps a c mY):
 lX h k st p r=some (.ret (.bool r),h.at k {o with cq:=o.cq+1,sp:= .loop st p ord me M G ps a c mY}):=by
 unfold lX;rw[aid aq ak];rfl
theorem Ic{h:J}{k:Nat}{o:bH}{S:Nat->Prop}(ai:S k)(aR:k<h.next):aD h (h.at k o) S:=
 ⟨rfl,Nat.le_refl _,λj _ ak=>pQ h o (λe=>ak (e▸ai)),λau j aa=>by rw[uY,if_neg (by have:h.next<=j:=aa;omega)];exact au j aa⟩
theorem aBZ{C:ad}{h0:J}{bB eO p:Nat}{l:List Nat}(A:wa h0 h bB eO p l)(aJ:l.length<=4096)(v:Nat):
 ∃h',LO C lf eO (some (.ptr p 0)) (I (v:Int)) h=some (.ret (.bool true),h')/\wa h0 h' bB eO p (l++[v]):=by
 obtain⟨o,aq,ak⟩:=A.L.ol;have ak:o.sp= .loop .ready .none dn.ord 47 13 (jl [(3,some (.ptr p 0))]) #[7] (b7 dn [1,1,0,1,0,0]) (b7 dn [1,1,0,1,0,1]) bB:=ak;generalize aqu:b7 dn [1,1,0,1,0,0]=C2 at *;generalize aqv:b7 dn [1,1,0,1,0,1]=cJ at *;obtain⟨x,ax,tH,sm⟩:=A.v;have aQ:=aBp (K:=λh=>Fs C lf (λh=>lX h eO .ready .none true) (some (.ptr p 0)) (some (I (v:Int))) h) aq ak;generalize kV:h.at eO {o with cq:=o.cq+1,sp:= .loop .busy .none dn.ord 47 13 (jl [(3,some (.ptr p 0))]) #[7] C2 cJ bB}=g1 at *;have aL:aD h g1 (· =eO):=by rw[<- kV];exact Ic rfl A.hg
 have cA:g1.next=h.next:=by rw[<- kV];rfl
 have s1:∀j,j≠eO->ct h g1 j:=λj aa=>by rw[<- kV];exact pQ h _ aa
 have dv:g1.aV.get eO=some {o with cq:=o.cq+1,sp:= .loop .busy .none dn.ord 47 13 (jl [(3,some (.ptr p 0))]) #[7] C2 cJ bB}:=by rw[<- kV,uY,if_pos rfl]
 have p3:g1.cell p 0=some x:=by rw[(s1 p (λe=>A.d3 e.symm)).cell];exact ax
 have apc:ha g1 3 1 x l.length (ints l):=tH.aF.frame (Nat.le_of_eq cA.symm) λk ai=>s1 k (sm k ai).2.1
 obtain⟨bF,g2,aj,aC,a8,cF,dK,dH,fE,h4⟩:=tk (y:=I (v:Int)) ti rfl rfl rfl apc (by omega) (by omega);have s2:∀j,j<h.next->rowOf x≠some j->ct g1 g2 j:=λj aa e=>dH j (by omega) e
 have Xz:∀j,j=bB\/j=eO\/j=p->rowOf x≠some j:=λj aa e=>by have:=sm j e;omega
 have cV:g2.wr p 1:=eP (eP A.w (s1 p (λe=>A.d3 e.symm))) (s2 p A.bk (Xz p (.inr (.inr rfl))));have fm:dB [bF]=true:=by rcases a8.2 with⟨rfl,_⟩|⟨_,rfl,_⟩<;>rfl
 have u6:bF.cells=[bF]:=by rcases a8.2 with⟨rfl,_⟩|⟨_,rfl,_⟩<;>rfl
 have pq:=gN (n:=1) (off:=0) (y:=bF) cV (by rw[u6];rfl) (by omega) (by rw[u6];exact fm);rw[u6] at pq;have c2:aD g2 (g2.set p 0 [bF]) (· =p):=fj rfl;generalize hF:g2.set p 0 [bF]=g3 at *;have e6:g3.next=g2.next:=by rw[<- hF,dz]
 have ea:∀j,j≠p->ct g2 g3 j:=λj aa=>by rw[<- hF];exact gr _ _ _ aa
 have jW:g3.aV.get eO=some {o with cq:=o.cq+1,sp:= .loop .busy .none dn.ord 47 13 (jl [(3,some (.ptr p 0))]) #[7] C2 cJ bB}:=
  (ea eO A.d3).trans ((s2 eO A.hg (Xz eO (.inr (.inl rfl)))).trans dv)
 have he:=anB (st:= .ready) (p:= .none) (r:=true) jW rfl;have fK:=Ic (h:=g3) (k:=eO) (o:={o with cq:=o.cq+1+1,sp:= .loop .ready .none dn.ord 47 13 (jl [(3,some (.ptr p 0))]) #[7] C2 cJ bB}) (S:=(· =eO)) rfl (by rw[e6];have:=A.hg;omega);generalize kc:g3.at eO {o with cq:=o.cq+1+1,sp:= .loop .ready .none dn.ord 47 13 (jl [(3,some (.ptr p 0))]) #[7] C2 cJ bB}=g4 at *;have jm:g4.next=g3.next:=by rw[<- kc];rfl
 have e2:∀j,j≠eO->ct g3 g4 j:=λj aa=>by rw[<- kc];exact pQ _ _ aa
 have rx:∀j,rowOf bF=some j->h0.next<=j/\j≠bB/\j≠eO/\j≠p:=λj aa=>by
  have h1:=A.JR;have h2:=A.hg;have h3:=A.bk;have aT:=A.F.next
  rcases fE j aa with e|e
  ·exact⟨tH.new j e,sm j e⟩
  ·omega
 have fU:∀j,j<h.next->rowOf x≠some j->j≠eO->j≠p->ct h g4 j:=λj aa e az ay=>(e2 j az).trans ((ea j ay).trans ((s2 j aa e).trans (s1 j az)))
 refine⟨g4,?_,⟨?_,⟨⟨_,by rw[<- kc,uY,if_pos rfl],by simp only[afi,aqu,aqv]⟩,?_⟩,⟨bF,?_,⟨?_,λj aa=>(rx j aa).1⟩,λj aa=>(rx j aa).2⟩,?_,A.oB,A.nl,A.afJ,by have:=A.JR;omega,by have:=A.hg;omega,by have:=A.bk;omega,A.d1,A.d2,A.d3⟩⟩
 ·unfold LO UJ;simp only[cf,b8];refine aQ.trans ?_;unfold Fs;simp only[cf,b8,pf,p3,aj,ns,aC,pq];exact he
 ·have QR:iY h->iY g4:=λau=>fK.dm (c2.dm (h4 (aL.dm au)))
  refine⟨?_,?_,λj aa _=>?_,λau=>QR (A.F.dm au)⟩
  ·exact fK.aO.trans (c2.aO.trans (dK.trans (aL.aO.trans A.F.aO)))
  ·have:=A.F.next;omega
  ·have h1:=A.F.next
   have h2:=A.nl;have h3:=A.afJ;exact(fU j (by omega) (λe=>by have:=tH.new j e;omega) (by omega) (by omega)).trans (A.F.same j aa (λe=>e))
 ·obtain⟨ob,bY,b2⟩:=A.L.ob;exact⟨ob,(fU bB A.JR (Xz bB (.inl rfl)) A.d1 A.d2).trans bY,b2⟩
 ·rw[(e2 p (λe=>A.d3 e.symm)).cell, <- hF,fZ cV (by simp) (Nat.zero_le _) (by simp)];rfl
 ·have:ints (l++[v])=ints l++[I (v:Int)]:=by simp[ints]
  rw[this,List.length_append];exact a8.frame (by omega) λk ai=>(e2 k (rx k ai).2.2.1).trans (ea k (rx k ai).2.2.2)
 ·exact eP (by rw[<- hF];exact dY cV) (e2 p (λe=>A.d3 e.symm))
end
section
variable{lf m:Nat}{h:J}{r ro rb n:Nat}{on:Nat->Bool}{q:Nat->Option Nat}{b:Nat->Nat}{x0 x1:U}
def GW(C:ad):Prop:=∀h r ro rb n on q b,gw h r ro rb n on q b->
 ((∀j,j<n->on j=true)->C (.fn 66) [.ptr r 0] h=some (.ret (.bm [I 0,I 28]),h))/\
 (∀i,i<n->on i=false->(∀j,j<i->on j=true)->∃h',C (.fn 66) [.ptr r 0] h=some (.ret (.bm [I (i:Int),I 0]),h')/\
   gw h' r ro rb n (da on i true) (da q i (some h.next)) (gF b i)/\aD h h' (λj=>j=ro\/j=rb)/\h'.next=h.next+1)
theorem gw.Qy(A:gw h r ro rb n on q b){i:Nat}(hi:i<n){h1 h2 h3:J}(az:h1=h.set ro i [.bool true])(ay:h2=h1.new (iU 5 (64*1) [.int .u8 0]))(b9:h3=h2.set rb i [.aF h.next 0 64 (some 64) 0]):
 gw h3 r ro rb n (da on i true) (da q i (some h.next)) (gF b i)/\aD h h3 (λj=>j=ro\/j=rb)/\h3.next=h.next+1/\h1.next=h.next:=by
 obtain⟨x0,x1,cG,aP,V⟩:=A.v;have cA:h1.next=h.next:=by rw[az,dz]
 have ck:h2.next=h.next+1:=by rw[ay,e7,cA]
 have e6:h3.next=h.next+1:=by rw[b9,dz,ck]
 have aL:aD h h1 (λj=>j=ro\/j=rb):=by rw[az];exact fj (.inl rfl)
 have bw:aD h1 h2 (λj=>j=ro\/j=rb):=by rw[ay];exact lA _ _ _
 have c2:aD h2 h3 (λj=>j=ro\/j=rb):=by rw[b9];exact fj (.inr rfl)
 have F:=(aL.trans bw).trans c2;have ug:=V.ug;have uf:=V.uf;have w6:=A.lt;have J5:r≠ro:=A.uk;have qa:r≠rb:=A.qa;have RR:=V.ne;have cP:h1.wr ro n:=by rw[az];exact dY V.uG
 have aEQ:h1.wr rb n:=by rw[az];exact dY V.Cr
 have cV:h2.wr ro n:=by rw[ay];exact uF cP (by omega)
 have ajl:h2.wr rb n:=by rw[ay];exact uF aEQ (by omega)
 have aER:h2.wr h.next 64:=by rw[ay, <- cA];exact hW rfl
 have am0:∀j,h3.cell ro j=h1.cell ro j:=λj=>by
  rw[b9,ep (.inl RR),ay,yo (by omega)]
 have aao:∀j,j≠i->h3.cell rb j=h.cell rb j:=λj aa=>by
  rw[b9,ep (.inr (by simp;omega)),ay,yo (by omega),az,ep (.inl RR.symm)]
 have amZ:h3.cell rb i=some (.aF h.next 0 64 (some 64) 0):=by
  rw[b9,fZ ajl (by simp;omega) (Nat.le_refl _) (by simp)];simp
 refine⟨⟨⟨x0,x1,?_,?_,?_⟩,?_,J5,qa,λj k aa a2=>?_,by omega⟩,F,e6,cA⟩
 ·rw[(F.same r w6 (λe=>by rcases e with e|e;exact J5 e;exact qa e)).cell];exact cG
 ·rw[(F.same r w6 (λe=>by rcases e with e|e;exact J5 e;exact qa e)).cell];exact aP
 ·refine⟨V.cA,V.ck,V.av,V.az,?_,?_,λj aa=>?_,λj aa a2=>?_,λj k aa a2=>?_,λj fp k aa hb a2 nD=>?_,RR,by omega,by omega,λj=>?_⟩
  ·rw[b9];exact dY cV
  ·rw[b9];exact dY ajl
  ·rw[am0,az];by_cases e:j=i
   ·subst e;rw[fZ V.uG (by simp;omega) (Nat.le_refl _) (by simp),jE];simp
   ·rw[ep (.inr (by simp;omega)),ho _ _ e];exact V.tq j aa
  ·by_cases e:j=i
   ·rw[e,jE] at a2;cases a2
   ·rw[ho _ _ e] at a2⊢;obtain⟨dv,cy⟩:=V.off j aa a2;exact⟨dv,by rw[aao j e];exact cy⟩
  ·by_cases e:j=i
   ·rw[e,jE] at a2;cases a2;refine⟨by omega,by omega,_,by rw[e];exact amZ,.inl ⟨⟨some 64,0,rfl⟩,Nat.le_refl _,?_,λc ae=>?_,by omega⟩⟩
    ·rw[b9];exact dY aER
    ·rw[b9,ep (.inl (by omega)),ay, <- cA,jx,zL _ _ (by omega)];unfold gF;rw[if_pos (by omega)];simp[Nat.mod_one]
   ·rw[ho _ _ e] at a2;obtain⟨dv,cy,x,jW,B⟩:=V.has j k aa a2;have ai:=B.lt;refine⟨dv,cy,x,by rw[aao j e];exact jW,?_⟩;rw[ho _ _ e];rcases B.frame (h':=h3) F.next (F.same k ai (λe=>by rcases e with e|e;exact dv e;exact cy e)) with lQ|lQ
    ·refine .inl ⟨lQ.aF,lQ.ok,lQ.w,λc ae=>?_,lQ.lt⟩;rw[lQ.cs c ae];unfold gF;rw[if_neg (by omega)]
    ·exact .inr lQ
  ·by_cases e:j=i
   ·by_cases bd:fp=i
    ·omega
    ·rw[e,jE] at a2;rw[ho _ _ bd] at nD;cases a2;obtain⟨_,_,x,_,B⟩:=V.has fp _ hb nD;exact absurd B.lt (Nat.lt_irrefl _)
   ·by_cases bd:fp=i
    ·rw[bd,jE] at nD;rw[ho _ _ e] at a2;cases nD;obtain⟨_,_,x,_,B⟩:=V.has j _ aa a2;exact absurd B.lt (Nat.lt_irrefl _)
    ·rw[ho _ _ e] at a2;rw[ho _ _ bd] at nD;exact V.inj j fp k aa hb a2 nD
  ·unfold gF;split
   ·omega
   ·exact V.blt j
 ·obtain⟨M,a,c⟩:=A.wr;exact⟨M,a,eP c (F.same r w6 (λe=>by rcases e with e|e;exact J5 e;exact qa e))⟩
 ·by_cases e:j=i
  ·rw[e,jE] at a2;cases a2;omega
  ·rw[ho _ _ e] at a2;exact A.rj j k aa a2
theorem ahx{C:ad}{lf lo:Nat}{cap:Option Nat}(A:gw h r ro rb n on q b)(mz:h.cell r 0=some (.aF ro 0 n cap lo))(hk:aS)(av:cu):∀(d i:Nat),i+d=n->∀f,d<f->
 ((∀j,i<=j->j<n->on j=true)->bk (sw C lf hk av) f (some (.ptr r 0),some (.aF ro 0 n cap lo),some (I (n:Int)),some (I (i:Int))) h=av h)/\
 (∀t,i<=t->t<n->on t=false->(∀j,i<=j->j<t->on j=true)->∃h',bk (sw C lf hk av) f (some (.ptr r 0),some (.aF ro 0 n cap lo),some (I (n:Int)),some (I (i:Int))) h=hk (some (I (t:Int))) (some (I 0)) h'/\
   gw h' r ro rb n (da on t true) (da q t (some h.next)) (gF b t)/\aD h h' (λj=>j=ro\/j=rb)/\h'.next=h.next+1)
 |0,i,hw,f,au=>by
  obtain⟨f,rfl⟩:=dx f (by omega)
  have:i=n:=by omega
  subst this;have a9:decide ((i:Int)<(i:Int))=false:=by simp
  refine⟨λ_=>?_,λt h1 h2=>by omega⟩;rw[df];unfold sw B6;simp only[aA,a9]
 |d+1,i,hw,f,au=>by
  obtain⟨f,rfl⟩:=dx f (by omega);obtain⟨x0,x1,cG,aP,V⟩:=A.v;rw[mz] at cG;cases cG;obtain⟨capb,lob,rfl⟩:=V.az;have h2:=V.ck;have a9:decide ((i:Int)<(n:Int))=true:=bu (by omega);have dr:IntKind.i64.wrap ((i:Int)+1)=((i+1:Nat):Int):=cD (by omega);have bW:=gA (s:=1) (k:=ro) (off:=0) (len:=n) (lo:=lo) (cap:=cap) (kd:= .i64) (i:=(i:Int)) (by omega) (by omega);rw[Int.toNat_natCast,Nat.mul_one,Nat.zero_add] at bW;have ad8:=gA (s:=1) (k:=rb) (off:=0) (len:=n) (lo:=lob) (cap:=capb) (kd:= .i64) (i:=(i:Int)) (by omega) (by omega);rw[Int.toNat_natCast,Nat.mul_one,Nat.zero_add] at ad8;have ae:=V.tq i (by omega);obtain⟨i1,i2⟩:=ahx (lf:=lf) (C:=C) A mz hk av d (i+1) (by omega) f (by omega)
  have step:on i=true->bk (sw C lf hk av) (f+1) (some (.ptr r 0),some (.aF ro 0 n cap lo),some (I (n:Int)),some (I (i:Int))) h=bk (sw C lf hk av) f (some (.ptr r 0),some (.aF ro 0 n cap lo),some (I (n:Int)),some (I ((i+1:Nat):Int))) h:=λe=>by
   rw[e] at ae;rw[df];show B6 C lf (λx0 x9 aU x11 h=>bk (sw C lf hk av) f (x0,x9,aU,x11) h) hk av (some (.ptr r 0)) (some (.aF ro 0 n cap lo)) (some (I (n:Int))) (some (I (i:Int))) h=_;unfold B6;simp only[aA,a9,bW,ae,Bool.not_true,dr]
  refine⟨λgd=>(step (gd i (Nat.le_refl _) (by omega))).trans (i1 λj h1 h2=>gd j (by omega) h2),λt h1 h2 jT e5=>?_⟩;by_cases e:t=i
  ·subst e;rw[jT] at ae;have dc:=gN (n:=1) (off:=t) (y:= .bool true) V.uG rfl (by omega) rfl;obtain⟨R,F,e6,cA⟩:=A.Qy (i:=t) h2 (h1:=h.set ro t [.bool true]) (h2:=(h.set ro t [.bool true]).new (iU 5 (64*1) [.int .u8 0])) (h3:=((h.set ro t [.bool true]).new (iU 5 (64*1) [.int .u8 0])).set rb t [.aF h.next 0 64 (some 64) 0]) rfl rfl rfl
   have kZ:=Ai (P:=ao) (t:=24) (e:=5) (s:=1) (b:=1) (z:= .int .u8 0) (k1:= .i64) (k2:= .i64) (l:=64) (c:=64) (h:=h.set ro t [.bool true])
    Tryd.underlying24 (by kernel_rfl) (by kernel_rfl) (by kernel_rfl) (Nat.le_refl _) (by omega) (by omega) rfl (by omega)
   have aX:(c1 (.int .u8 0)).cells=[.int .u8 0]:=rfl;rw[aX,cA] at kZ;have Q6:nN ao 24 (I 64) (I 64) (h.set ro t [.bool true])=some (.aF h.next 0 64 (some 64) 0,(h.set ro t [.bool true]).new (iU 5 (64*1) [.int .u8 0])):=kZ;have Ey:((h.set ro t [.bool true]).new (iU 5 (64*1) [.int .u8 0])).wr rb n:=uF (dY V.Cr) (by rw[cA];have:=V.uf;omega);have w0:=gN (n:=1) (off:=t) (y:= .aF h.next 0 64 (some 64) 0) Ey rfl (by omega) rfl;have amY:(h.set ro t [.bool true]).cell r 1=some (.aF rb 0 n capb lob):=by rw[ep (.inl A.uk)];exact aP
   have w6:=A.lt
   have kb:∀R:ab,dM (ey [(3,bU (some (.ptr r 1)))] (h.set ro t [.bool true]) ((h.set ro t [.bool true]).new (iU 5 (64*1) [.int .u8 0])) [3]) R=R:=λR=>
    AP (k:=r) rfl (by rw[cA];exact w6) (by obtain⟨_,_,hw⟩:=A.wr;obtain⟨gT,hm,_⟩:=(dY (k:=ro) (off:=t) (ys:=[.bool true]) hw);exact⟨gT,hm⟩) (iT _ _ (by rw[cA];omega))
   refine⟨_,?_,R,F,e6⟩;rw[df];unfold sw B6;simp only[aA,a9,bW,ae,Bool.not_false,mz,dc,U.cells,amY,Q6,kb,ad8,w0]
  ·obtain⟨h',aj,aC⟩:=i2 t (by omega) h2 jT (λj h3 aT=>e5 j (by omega) aT);exact⟨h',(step (e5 i (Nat.le_refl _) (by omega))).trans aj,aC⟩
theorem aA4{C:ad}(gy:4097<=lf)(A:gw h r ro rb n on q b):
 ((∀j,j<n->on j=true)->A7 C lf (.ptr r 0) h=some (.ret (.bm [I 0,I 28]),h))/\
 (∀i,i<n->on i=false->(∀j,j<i->on j=true)->∃h',A7 C lf (.ptr r 0) h=some (.ret (.bm [I (i:Int),I 0]),h')/\
   gw h' r ro rb n (da on i true) (da q i (some h.next)) (gF b i)/\aD h h' (λj=>j=ro\/j=rb)/\h'.next=h.next+1):=by
 obtain⟨x0,x1,cG,aP,V⟩:=A.v;obtain⟨cap,lo,rfl⟩:=V.av;have h2:=V.ck;have aJ:=ue (k:=ro) (off:=0) (len:=n) (cap:=cap) (lo:=lo) Tryd.underlying41;obtain⟨i1,i2⟩:=ahx (lf:=lf) (C:=C) A cG wF (λh=>Fw C lf wF h) n 0 (by omega) lf (by omega)
 have pre:A7 C lf (.ptr r 0) h=bk (sw C lf wF (λh=>Fw C lf wF h)) lf (some (.ptr r 0),some (.aF ro 0 n cap lo),some (I (n:Int)),some (I ((0:Nat):Int))) h:=by
  unfold A7 Vs Vr Vq Vp Vo;simp only[aA,cG,aJ];rfl
 rw[pre];refine⟨λgd=>?_,λi hi jT e5=>?_⟩
 ·rw[i1 λj _ aa=>gd j aa];unfold Fw wF;simp only[cf,b8]
 ·obtain⟨h',aj,aC⟩:=i2 i (Nat.zero_le _) hi jT (λj _ aa=>e5 j aa);refine⟨h',?_,aC⟩;rw[aj];unfold wF;simp only[cf,b8]
end
section
variable{lf m:Nat}{h:J}{r ro rb n:Nat}{on:Nat->Bool}{q:Nat->Option Nat}{b:Nat->Nat}{x0 x1:U}
def x6(C:ad):Prop:=∀h r ro rb n on q b i,gw h r ro rb n on q b->
 (lH n on i=false->C (.fn 67) [.ptr r 0,I i] h=some (.ret (I 22),h))/\
 (lH n on i=true->∃h',C (.fn 67) [.ptr r 0,I i] h=some (.ret (I 0),h')/\gw h' r ro rb n (da on i.toNat false) q b/\aD h h' (· =ro)/\h'.next=h.next)
theorem gw.aCK(A:gw h r ro rb n on q b){i:Nat}(hi:i<n)(e5:on i=true):gw (h.set ro i [.bool false]) r ro rb n (da on i false) q b:=by
 obtain⟨x0,x1,cG,aP,V⟩:=A.v;have F:aD h (h.set ro i [.bool false]) (· =ro):=fj rfl;have vv:ct h (h.set ro i [.bool false]) rb:=gr _ _ _ V.ne.symm;have vw:ct h (h.set ro i [.bool false]) r:=gr _ _ _ A.uk;refine⟨⟨x0,x1,by rw[vw.cell];exact cG,by rw[vw.cell];exact aP,V.cA,V.ck,V.av,V.az,dY V.uG,dY V.Cr,λj aa=>?_,λj aa a2=>?_,λj k aa a2=>?_,V.inj,V.ne,by rw[dz];exact V.ug,by rw[dz];exact V.uf,V.blt⟩,(let ⟨M,a,c⟩:=A.wr;⟨M,a,dY c⟩),A.uk,A.qa,A.rj,by rw[dz];exact A.lt⟩
 ·by_cases e:j=i
  ·subst e;rw[fZ V.uG (by simp;omega) (Nat.le_refl _) (by simp),jE];simp
  ·rw[ep (.inr (by simp;omega)),ho _ _ e];exact V.tq j aa
 ·obtain⟨dv,cy⟩:=V.off j aa a2;refine⟨?_,by rw[vv.cell];exact cy⟩;by_cases e:j=i
  ·subst e;rw[e5] at dv;cases dv
  ·rw[ho _ _ e];exact dv
 ·obtain⟨dv,cy,x,jW,B⟩:=V.has j k aa a2;refine⟨dv,cy,x,by rw[vv.cell];exact jW,(B.frame (Nat.le_of_eq (dz ..).symm) (gr _ _ _ dv)).off ?_⟩;by_cases e:j=i
  ·right;rw[e,jE]
  ·left;rw[ho _ _ e]
theorem aBH{C:ad}(hi:Nl C)(A:gw h r ro rb n on q b){i:Int}:
 (lH n on i=false->Dz C lf (.ptr r 0) (I i) h=some (.ret (I 22),h))/\
 (lH n on i=true->∃h',Dz C lf (.ptr r 0) (I i) h=some (.ret (I 0),h')/\gw h' r ro rb n (da on i.toNat false) q b/\aD h h' (· =ro)/\h'.next=h.next):=by
 have dA:=hi h r ro rb n on q b i A;unfold Dz Vt Ps;simp only[aA,dA];refine⟨λhu=>?_,λhu=>?_⟩
 ·simp only[hu,Bool.not_false,aA]
 ·obtain⟨x0,x1,cG,aP,V⟩:=A.v;obtain⟨cap,lo,rfl⟩:=V.av;have hd:=hu;simp only[lH,Bool.and_eq_true,decide_eq_true_eq] at hd;obtain⟨h3,aT,bz⟩:=hd;have bW:=gA (s:=1) (k:=ro) (off:=0) (len:=n) (lo:=lo) (cap:=cap) (kd:= .i64) (i:=i) h3 aT;rw[Nat.mul_one,Nat.zero_add] at bW;have dc:=gN (n:=1) (off:=i.toNat) (y:= .bool false) V.uG rfl (by omega) rfl;refine⟨_,?_,A.aCK (by omega) bz,fj rfl,dz ..⟩;simp only[hu,Bool.not_true,aA,cG,bW,dc,U.cells]
def wm(b:Nat->Nat)(i:Nat):List Nat:=(List.range 64).map λj=>b (i*64+j)
theorem r1(b:Nat->Nat)(i:Nat):(wm b i).length=64:=by simp[wm]
theorem ZM(b:Nat->Nat)(i:Nat){j:Nat}(aa:j<64):(wm b i).getD j 0=b (i*64+j):=by simp[wm,List.getD,aa]
theorem xN.bytes{x:U}{k i:Nat}(B:xN h x k b i)(ag:∀j,b j<256):Bytes h x (wm b i):=by
 obtain⟨cap,lo,rfl⟩:=B.aF;obtain⟨gT,hm,_⟩:=B.w;refine⟨λc ae=>?_,.inr ⟨k,0,cap,lo,gT,by rw[r1],hm,λj aa=>?_⟩⟩
 ·obtain⟨j,_,rfl⟩:=List.mem_map.1 ae;exact ag _
 ·rw[r1] at aa;rw[Nat.zero_add,B.cs j aa,ZM b i aa]
structure ake (h0 h:J) (x:U) (l:List Nat):Prop where
 b:Bytes h x l
 w:∀j,rowOf x=some j->h0.next<=j/\j<h.next/\∃N,h.wr j N/\l.length<=N
 o:∃k cap lo,x= .aF k 0 l.length cap lo
theorem tj:mf ao 24 24 5 1 1:=
 ⟨Tryd.underlying24,by kernel_rfl,⟨.int .u8 0,by kernel_rfl,rfl⟩,by kernel_rfl,⟨_,Tryd.underlying24,rfl⟩,Nat.le_refl 1⟩
theorem aon{y:U}{l:List Nat}(B:Bytes h y l)(aJ:1<=l.length)(ae:l.length<=140737488355328)(aQ:∀k,rowOf y=some k->k<h.next):
 gp ao 24 0 [] [] h=some (.aF h.next 0 0 (some 0) 0,h.new (cI 5 []))/\
 ∃h',eX ao .append #[24,24] [.aF h.next 0 0 (some 0) 0,y] (h.new (cI 5 []))=some (.aF (h.next+1) 0 l.length none 0,h')/\
  ake h h' (.aF (h.next+1) 0 l.length none 0) l/\aD h h' (λ_=>False)/\h'.next=h.next+2:=by
 obtain⟨z,aX,ff⟩:=tj.aX;refine⟨MC tj.hu tj.ak aX ff (Nat.le_refl 1),?_⟩;have ic:Bytes (h.new (cI 5 [])) y l:=B.frame λbB ob len cap lo e=>iT _ _ (Nat.ne_of_lt (aQ bB (by rw[e];rfl)))
 have he:=HU ic;have bV:=Hw (h:=h.new (cI 5 [])) (k:=h.next) tj ⟨_,by rw[rh,if_pos rfl]⟩ he (by rw[sP,Nat.mul_one]) (Mf l) aJ ae (by omega);refine⟨_,bV,⟨⟨B.1,.inr ⟨h.next+1,0,none,0,(kH 5 1 (hD l)).mt,rfl,?_,λj aa=>?_⟩⟩,λj aa=>?_,⟨_,none,0,rfl⟩⟩,(lA h _ _).trans (lA _ _ _),rfl⟩
 ·rw[rh,if_pos (show h.next+1=(h.new (cI 5 [])).next from rfl)]
 ·rw[Nat.zero_add];show J.cell ((h.new (cI 5 [])).new (kH 5 1 (hD l))) (h.new (cI 5 [])).next j=_
  rw[jx,zx,Ge l aa]
 ·cases aa
  exact⟨Nat.le_succ _,Nat.lt_succ_self _,l.length,by
   have:=hW (h:=h.new (cI 5 [])) (o:=kH 5 1 (hD l)) rfl
   have e:(kH 5 1 (hD l)).n=l.length:=sP l;rw[e] at this
   exact this,Nat.le_refl _⟩
theorem gw.put(A:gw h r ro rb n on q b){i k p v:Nat}(hi:i<n)(e5:on i=true)(a2:q i=some k)(aB:p<64)(hv:v<256){b':Nat->Nat}(ag:∀j,b' j=if j=i*64+p then v else b j):
 gw (h.set k p [.int .u8 (v:Int)]) r ro rb n on q b':=by
 obtain⟨x0,x1,cG,aP,V⟩:=A.v;obtain⟨k1,k2,x,hG,B⟩:=V.has i k hi a2
 replace B:=B.jO e5
 have bR:=A.rj i k hi a2;have LS:ct h (h.set k p [.int .u8 (v:Int)]) ro:=gr _ _ _ k1.symm;have vv:ct h (h.set k p [.int .u8 (v:Int)]) rb:=gr _ _ _ k2.symm;have vw:ct h (h.set k p [.int .u8 (v:Int)]) r:=gr _ _ _ bR.symm;refine⟨⟨x0,x1,by rw[vw.cell];exact cG,by rw[vw.cell];exact aP,V.cA,V.ck,V.av,V.az,dY V.uG,dY V.Cr,λj aa=>by rw[LS.cell];exact V.tq j aa,λj aa a2=>by rw[vv.cell];exact V.off j aa a2,λj b6 aa nD=>?_,V.inj,V.ne,by rw[dz];exact V.ug,by rw[dz];exact V.uf,λj=>?_⟩,(let ⟨M,a,c⟩:=A.wr;⟨M,a,dY c⟩),A.uk,A.qa,A.rj,by rw[dz];exact A.lt⟩
 ·obtain⟨dv,cy,bF,jW,lQ⟩:=V.has j b6 aa nD;refine⟨dv,cy,bF,by rw[vv.cell];exact jW,?_⟩;rcases lQ with lQ|⟨iD,sO,⟨N,Gd⟩,Me⟩
  rotate_left
  ·exact .inr ⟨iD,sO,⟨N,dY Gd⟩,by rw[dz];exact Me⟩
  refine .inl ⟨lQ.aF,lQ.ok,dY lQ.w,λc ae=>?_,by rw[dz];exact lQ.lt⟩;by_cases e:j=i
  ·subst e;rw[a2] at nD;cases nD;by_cases ay:c=p
   ·subst ay;rw[fZ B.w (by simp;omega) (Nat.le_refl _) (by simp),ag,if_pos rfl];simp
   ·rw[ep (.inr (by simp;omega)),lQ.cs c ae,ag,if_neg (by omega)]
  ·have ca:b6≠k:=λay=>e (V.inj j i b6 aa hi nD (by rw[ay];exact a2))
   rw[ep (.inl ca),lQ.cs c ae,ag,if_neg (by omega)]
 ·rw[ag];split
  ·exact hv
  ·exact V.blt j
end
section
variable{lf m:Nat}{h:J}{k cr n:Nat}{wd b:Nat->Nat}
def NI(C:ad):Prop:=∀h k cr n wd b,dV h k cr n wd b->C (.fn 29) [.ptr k 0] h=some (.ret (I (n:Int)),h)
theorem aEu{C:ad}(hm:rR C)(S:dV h k cr n wd b):Ir C lf (.ptr k 0) h=some (.ret (I (n:Int)),h):=by
 unfold Ir TS O1;simp only[aA,hm _ _ _ _ _ _ S,Bool.not_true,S.dO]
def MU(C:ad):Prop:=∀h k cr n wd b,dV h k cr n wd b->∃h',C (.fn 26) [.ptr k 0] h=some (.ret (.ptr h.next 0),h')/\dV h' h.next (h.next+1) n wd b/\aD h h' (λ_=>False)/\h'.next=h.next+2
def oF(n cr:Nat)(cap:Option Nat)(wd:Nat->Nat):List U:=I (n:Int)::((List.range 64).map (λi=>U.int .u64 (wd i:Int))++[.aF cr 0 n cap 0])
theorem L2(n cr:Nat)(cap:Option Nat)(wd:Nat->Nat):(oF n cr cap wd).length=66:=by simp[oF]
theorem aiG(n cr:Nat)(cap:Option Nat)(wd:Nat->Nat){i:Nat}(hi:i<64):(oF n cr cap wd)[1+i]?=some (.int .u64 (wd i:Int)):=by
 rw[show 1+i=i+1 by omega,oF,List.getElem?_cons_succ,List.getElem?_append_left (by simp;omega)];simp[hi]
theorem aDf(n cr:Nat)(cap:Option Nat)(wd:Nat->Nat):(oF n cr cap wd)[65]?=some (.aF cr 0 n cap 0):=by
 rw[oF,List.getElem?_cons_succ,List.getElem?_append_right (by simp)];simp
theorem aDe(n cr:Nat)(cap:Option Nat)(wd:Nat->Nat):dB (oF n cr cap wd)=true:=by
 have:∀l:List Nat,dB (l.map (λi=>U.int .u64 (wd i:Int))++[.aF cr 0 n cap 0])=true:=λl=>by
  induction l with
  |nil=>rfl
  |cons x l bp=>simp only[List.map_cons,List.cons_append,dB,bp,Bool.and_true];rfl
 simp only[oF,dB,this,Bool.and_true];rfl
theorem ak8:mf ao 57 57 110 64 64:=
 ⟨Tryd.underlying57,by kernel_rfl,⟨.agg (Array.replicate 64 (.int .u8 0)),by kernel_rfl,rfl⟩,by kernel_rfl,⟨_,Tryd.underlying57,rfl⟩,by omega⟩
theorem amV{C:ad}(hm:rR C)(S:dV h k cr n wd b):∃h',Ip C lf (.ptr k 0) h=some (.ret (.ptr h.next 0),h')/\dV h' h.next (h.next+1) n wd b/\aD h h' (λ_=>False)/\h'.next=h.next+2:=by
 obtain⟨cap,en⟩:=S.cs;have h1:=S.cA;have h2:=S.ck;obtain⟨mk,kZ,Ec,aGG⟩:=S.qq
 have o5:h.cells k 0 66=some (oF n cr cap wd):=jy (L2 ..) λi hi=>by
  rw[Nat.zero_add];by_cases av:i=0
  ·subst av;rw[S.dO];rfl
  ·by_cases az:i=65
   ·subst az;rw[en,aDf]
   ·obtain⟨c,rfl⟩:∃c,i=1+c:=⟨i-1,by omega⟩;rw[S.ts c (by omega),aiG _ _ _ _ (by omega)]
 have kf:eB 66 (.ptr k 0) h=some (.agg (oF n cr cap wd)):=by rw[mE kZ,o5];rfl
 obtain⟨z,aX,ff⟩:∃z,gC ao 59=some z/\(c1 z).cells.length=66:=⟨.agg (#[.int .i64 0]++Array.replicate 64 (.int .u64 0)++ #[.slice none 0 0]),by kernel_rfl,rfl⟩;have Bg:=oI (P:=ao) (e:=59) (h:=h) aX;generalize ik:cI 59 (c1 z).cells=dv at *;have zb:dv.n=66:=by rw[<- ik];exact ff
 have pe:(h.new dv).wr h.next 66:=by rw[<- zb];exact hW (by rw[<- ik];rfl)
 have dc:=gN (n:=66) (off:=0) (y:= .agg (oF n cr cap wd)) pe (L2 ..) (by omega) (aDe ..);have D3:(U.agg (oF n cr cap wd)).cells=oF n cr cap wd:=rfl;rw[D3] at dc;generalize Jv:(h.new dv).set h.next 0 (oF n cr cap wd)=e0 at *
 have sD:e0.next=h.next+1:=by rw[<- Jv,dz,e7]
 have lg:aD h e0 (λ_=>False):=by
  rw[<- Jv];exact⟨by simp,by simp,λj aa _=>(gr _ _ _ (by omega)).trans (iT h _ (by omega)),λau=>qJ (qI au _) _ _ _⟩
 have mn:∀i,i<66->e0.cell h.next i=(oF n cr cap wd)[i]?:=λi hi=>by
  rw[<- Jv,fZ pe (by rw[L2];omega) (Nat.zero_le _) (by rw[L2];omega),Nat.sub_zero]
 have Gi:e0.wr h.next 66:=by rw[<- Jv];exact dY pe
 have ra:=S.ra;have sA:=S.sA;have am1:e0.cell k 65=some (.aF cr 0 n cap 0):=by rw[(lg.same k sA (λe=>e)).cell];exact en
 have aEY:=eP S.uE (lg.same cr ra (λe=>e));obtain⟨md,mA,_⟩:=aEY
 have DZ:e0.cells cr 0 (n*64)=some ((List.range (n*64)).map λj=>U.int .u8 (b j:Int)):=jy (by simp) λj aa=>by
  rw[Nat.zero_add,(lg.same cr ra (λe=>e)).cell,S.wu j aa];simp[aa]
 have jR:=Db (cap:=cap) (lo:=0) ⟨md,mA⟩ DZ;have ji:=NT (h:=e0) ak8 jR (by simp) (Zf _ _ λ_=>rfl) h1 (by omega) (by omega);rw[sD] at ji;generalize mB:kH 110 64 ((List.range (n*64)).map λj=>U.int .u8 (b j:Int))=cy at *;have fG:cy.n=n*64:=by rw[<- mB];simp[kH]
 have Ye:(e0.new cy).wr h.next 66:=uF Gi (by omega)
 have w0:=gN (n:=1) (off:=65) (y:= .aF (h.next+1) 0 n none 0) Ye rfl (by omega) rfl;refine⟨(e0.new cy).set h.next 65 [.aF (h.next+1) 0 n none 0],?_,⟨h1,h2,?_,λi hi=>?_,S.iF,S.out,⟨none,?_⟩,dY Ye,?_,λj aa=>?_,S.blt,by omega,by rw[dz,e7];omega,by rw[dz,e7];omega⟩,?_,by rw[dz,e7];omega⟩
 ·unfold Ip TK O0;simp only[aA,hm _ _ _ _ _ _ S,Bool.not_true,kf,Bg,dc,am1,ji,w0,U.cells]
 ·rw[ep (by omega),yo (by omega),mn 0 (by omega)];rfl
 ·rw[ep (by omega),yo (by omega),mn _ (by omega),aiG _ _ _ _ hi]
 ·rw[fZ Ye (by simp) (Nat.le_refl _) (by simp)];rfl
 ·rw[<- fG, <- sD];exact dY (hW (by rw[<- mB];rfl))
 ·rw[ep (.inl (by omega)), <- sD,jx, <- mB,zx];simp[aa]
 ·exact⟨by rw[xx,ar6];exact lg.aO,by rw[dz,e7];omega,λj aa ak=>(gr _ _ _ (by omega)).trans ((iT _ _ (by omega)).trans (lg.same j aa ak)),λau=>qJ (qI (lg.dm au) _) _ _ _⟩
@[simp] theorem arG(mY:Nat)(kd:IntKind)(i:Int):kI mY (.int kd i)=true:=e8 rfl
def Nn(C:ad):Prop:=∀h (n:Nat),1<=n->n<=4096->iY h->∃h' x0 x1 ro rb,C (.fn 24) [I (n:Int)] h=some (.ret (.agg [x0,x1]),h')/\mi h' x0 x1 ro rb n (λ_=>false) (λ_=>none) (λ_=>0)/\aD h h' (λ_=>False)/\h.next<=ro/\h.next<=rb
theorem aBQ{C:ad}{n:Nat}(h1:1<=n)(h2:n<=4096)(au:iY h):∃h' x0 x1 ro rb,Io C lf (I (n:Int)) h=some (.ret (.agg [x0,x1]),h')/\mi h' x0 x1 ro rb n (λ_=>false) (λ_=>none) (λ_=>0)/\aD h h' (λ_=>False)/\h.next<=ro/\h.next<=rb:=by
 have aX:gC ao 44=some (.agg #[.slice none 0 0,.slice none 0 0]):=by kernel_rfl
 have Bg:=oI (P:=ao) (e:=44) (h:=h) aX;generalize ik:cI 44 (c1 (.agg #[.slice none 0 0,.slice none 0 0])).cells=dv at *;have zb:dv.n=2:=by rw[<- ik];rfl
 have pe:(h.new dv).wr h.next 2:=by rw[<- zb];exact hW (by rw[<- ik];rfl)
 have lD:=qI au dv;generalize D7:(⟨(h.new dv).aO,h.next+1+6,(h.new dv).aV⟩:J)=h3;have e6:h3.next=h.next+7:=by rw[<- D7]
 have g3:∀j,h3.aV.get j=(h.new dv).aV.get j:=λj=>by rw[<- D7]
 have fh:h3.wr h.next 2:=by rw[<- D7];exact pe
 have hU:=Yt (P:=ao) (t:=41) (e:=4) (s:=1) (b:=1) (z:= .bool false) (k1:= .i64) (k2:= .i64) (l:=n) (c:=n) (base:=h.next+1) (i:=1) (h:=h3)
  Tryd.underlying41 (by kernel_rfl) (by kernel_rfl) (by kernel_rfl) (Nat.le_refl _) (by omega) (by omega) rfl (by omega)
 generalize mB:iU 4 (n*1) (c1 (.bool false)).cells=cy at *;generalize yY:h3.at (h.next+1+1) cy=aT at *
 have hH:=Yt (P:=ao) (t:=42) (e:=24) (s:=1) (b:=24) (z:= .slice none 0 0) (k1:= .i64) (k2:= .i64) (l:=n) (c:=n) (base:=h.next+1) (i:=3) (h:=aT)
  Tryd.underlying42 (by kernel_rfl) (by kernel_rfl) (by kernel_rfl) (Nat.le_refl _) (by omega) (by omega) rfl (by omega)
 generalize sj:iU 24 (n*1) (c1 (.slice none 0 0)).cells=jW at *;generalize u7:aT.at (h.next+1+3) jW=bz at *;have ag:gM ao 44 [0,1] [.aF (h.next+1+1) 0 n (some n) 0,.aF (h.next+1+3) 0 n (some n) 0]=some (.agg [.aF (h.next+1+1) 0 n (some n) 0,.aF (h.next+1+3) 0 n (some n) 0]):=by kernel_rfl
 have sR:bz.wr h.next 2:=by rw[<- u7, <- yY];exact Yg (Yg fh (by omega)) (by omega)
 have dc:=gN (n:=2) (off:=0) (y:= .agg [.aF (h.next+1+1) 0 n (some n) 0,.aF (h.next+1+3) 0 n (some n) 0]) sR rfl (by omega) rfl;have D3:(U.agg [.aF (h.next+1+1) 0 n (some n) 0,.aF (h.next+1+3) 0 n (some n) 0]).cells=[.aF (h.next+1+1) 0 n (some n) 0,.aF (h.next+1+3) 0 n (some n) 0]:=rfl;rw[D3] at dc;generalize tM:bz.set h.next 0 [.aF (h.next+1+1) 0 n (some n) 0,.aF (h.next+1+3) 0 n (some n) 0]=bA at *
 have BT:bA.next=h.next+7:=by rw[<- tM,dz, <- u7, <- yY];exact e6
 have kf:eB 2 (.ptr h.next 0) bA=some (.agg [.aF (h.next+1+1) 0 n (some n) 0,.aF (h.next+1+3) 0 n (some n) 0]):=by
  have aET:=sR;obtain⟨gT,y9,_⟩:=aET
  have:∃jV,bA.mt h.next=some jV:=by rw[<- tM,J1,if_pos rfl,y9];exact⟨_,rfl⟩
  obtain⟨jV,qX⟩:=this
  rw[mE qX,jy (n:=2) (ys:=[.aF (h.next+1+1) 0 n (some n) 0,.aF (h.next+1+3) 0 n (some n) 0]) rfl λi hi=>by
   rw[Nat.zero_add, <- tM,fZ sR (by simp) (Nat.zero_le _) (by simpa using hi),Nat.sub_zero]]
  rfl
 refine⟨bA,_,_,h.next+1+1,h.next+1+3,?_,⟨h1,h2,⟨some n,0,rfl⟩,⟨some n,0,rfl⟩,?_,?_,λi hi=>?_,λi hi _=>⟨rfl,?_⟩,(λi k hi a2=>by cases a2),(λi j k _ _ a2=>by cases a2),by omega,by omega,by omega,λj=>by omega⟩,⟨?_,by omega,λj aa _=>?_,λau j aa=>?_⟩,by omega,by omega⟩
 ·unfold Io TJ OZ;simp only[aA,Bg,RY lD,e7,D7,arG,Bool.and_self,wx,hU,hH,ag,dc,kf]
 ·rw[<- tM];refine dY ?_;rw[<- u7, <- yY]
  have:(h3.at (h.next+1+1) cy).wr (h.next+1+1) cy.n:=Mn (by rw[<- mB];rfl)
  rw[show cy.n=n by rw[<- mB];exact Nat.mul_one n] at this;exact Yg this (by omega)
 ·rw[<- tM];refine dY ?_;rw[<- u7]
  have:(aT.at (h.next+1+3) jW).wr (h.next+1+3) jW.n:=Mn (by rw[<- sj];rfl)
  rw[show jW.n=n by rw[<- sj];exact Nat.mul_one n] at this;exact this
 ·rw[<- tM,ep (.inl (by omega)), <- u7,ZW _ (by omega), <- yY,Ob, <- mB,zL _ _ (by omega)];show[U.bool false][i%1]?=_;rw[Nat.mod_one];rfl
 ·rw[<- tM,ep (.inl (by omega)), <- u7,Ob, <- sj,zL _ _ (by omega)];show[U.val (.slice none 0 0)][i%1]?=_;rw[Nat.mod_one];rfl
 ·rw[<- tM,xx, <- u7, <- yY, <- D7];rfl
 ·show bA.aV.get j=h.aV.get j;rw[<- tM,gr _ _ _ (by omega), <- u7,pQ _ _ (by omega), <- yY,pQ _ _ (by omega),g3,iT _ _ (by omega)]
 ·rw[BT] at aa;rw[<- tM,gr _ _ _ (by omega), <- u7,pQ _ _ (by omega), <- yY,pQ _ _ (by omega),g3];exact lD j (by rw[e7];omega)
end
section
variable{lf m:Nat}{h:J}{r ro rb n:Nat}{on:Nat->Bool}{q:Nat->Option Nat}{b:Nat->Nat}{x0 x1:U}
theorem ala:mf ao 42 42 24 1 24:=
 ⟨Tryd.underlying42,by kernel_rfl,⟨.slice none 0 0,by kernel_rfl,rfl⟩,by kernel_rfl,⟨_,Tryd.underlying42,rfl⟩,Nat.le_refl 1⟩
theorem Hv:mf ao 41 41 4 1 1:=
 ⟨Tryd.underlying41,by kernel_rfl,⟨.bool false,by kernel_rfl,rfl⟩,by kernel_rfl,⟨_,Tryd.underlying41,rfl⟩,Nat.le_refl 1⟩
theorem amX(V:mi h x0 x1 ro rb n on q b){i:Nat}(hi:i<n):∃x h1 y h2 k,h.cell rb i=some x/\gp ao 24 0 [] [] h=some (.aF h.next 0 0 (some 0) 0,h1)/\
 eX ao .append #[24,24] [.aF h.next 0 0 (some 0) 0,x] h1=some (y,h2)/\
 mj h2 y k b i (on i)/\h.next<=k/\y.cells=[y]/\y.flat=true/\dB [y]=true/\aD h h2 (λ_=>False)/\h.next<=h1.next/\(∀j,j<h.next->ct h h1 j/\ct h1 h2 j):=by
 obtain⟨z,aX,ff⟩:=tj.aX;have bb:=MC (h:=h) tj.hu tj.ak aX ff (Nat.le_refl 1)
 have afH:∀x,h.cell rb i=some x->on i=false->jv (h.new (cI 5 [])).x0 1 x=some (0,[])->∃x h1 y h2 k,h.cell rb i=some x/\gp ao 24 0 [] [] h=some (.aF h.next 0 0 (some 0) 0,h1)/\
  eX ao .append #[24,24] [.aF h.next 0 0 (some 0) 0,x] h1=some (y,h2)/\
  mj h2 y k b i (on i)/\h.next<=k/\y.cells=[y]/\y.flat=true/\dB [y]=true/\aD h h2 (λ_=>False)/\h.next<=h1.next/\(∀j,j<h.next->ct h h1 j/\ct h1 h2 j):=by
  intro x ax aq he;have hw:(h.new (cI 5 [])).wr h.next 0:=hW (o:=cI _ []) rfl
  have bV:=alf (h:=h.new (cI 5 [])) (k:=h.next) tj ⟨0,hw⟩ he;refine⟨x,_,_,_,h.next,ax,bb,bV,.inr ⟨aq,⟨_,_,rfl⟩,⟨0,dY hw⟩,by rw[dz,e7];omega⟩,Nat.le_refl _,rfl,rfl,rfl,⟨by simp,by simp,λj aa _=>(gr _ _ _ (by omega)).trans (iT h _ (by omega)),λau=>qJ (qI au _) _ _ _⟩,by simp,λj aa=>⟨iT h _ (by omega),gr _ _ _ (by omega)⟩⟩
 cases a2:q i with
 |none=>
  obtain⟨dv,cy⟩:=V.off i hi a2;exact afH _ cy dv rfl
 |some k=>
  obtain⟨dv,cy,x,jW,R⟩:=V.has i k hi a2;rcases R with B|⟨iD,⟨cap,lo,rfl⟩,⟨N,Gd⟩,Me⟩
  ·have sm:∀j,rowOf x=some j->j<h.next:=λj aa=>by
    obtain⟨r4,iz,rfl⟩:=B.aF;cases aa;exact B.lt
   obtain⟨f1,h',f2,f3,f4,f5⟩:=aon (B.bytes V.blt) (by rw[r1];omega) (by rw[r1];omega) sm;rw[r1] at f2 f3;obtain⟨g1,g2,N,g3,g4⟩:=f3.w (h.next+1) rfl
   have ae:∀j,j<64->h'.cell (h.next+1) j=some (.int .u8 (b (i*64+j):Int)):=λj aa=>by
    rcases f3.b.2 with⟨e|⟨_,e⟩,_⟩|⟨bB,ob,cap,lo,gT,e,hm,ae⟩
    ·cases e
    ·cases e
    ·rw[r1] at e ae;cases e
     have:=ae j aa
     rw[Nat.zero_add] at this;rw[this,ZM b i aa]
   refine⟨x,_,_,h',h.next+1,jW,f1,f2,.inl ⟨⟨none,0,rfl⟩,trivial,?_,ae,g2⟩,by omega,rfl,rfl,rfl,f4,by simp,λj aa=>⟨iT h _ (by omega),?_⟩⟩
   ·have bV:=f2;have he:=HU ((B.bytes V.blt).frame (h':=h.new (cI 5 [])) λbB ob len cap lo e=>iT _ _ (Nat.ne_of_lt (sm bB (by rw[e];rfl))));have adS:=Hw (h:=h.new (cI 5 [])) (k:=h.next) tj ⟨_,by rw[rh,if_pos rfl]⟩ he (by rw[sP,Nat.mul_one]) (Mf _) (by rw[r1];omega) (by rw[r1];omega) (by rw[r1];omega);rw[r1] at adS;rw[adS] at bV;cases bV
    have:=hW (h:=h.new (cI 5 [])) (o:=kH 5 1 (hD (wm b i))) rfl
    have e:(kH 5 1 (hD (wm b i))).n=64:=by show(hD (wm b i)).length=64;rw[sP,r1]
    rw[e] at this;exact this
   ·have s1:=f4.same j aa (λe=>e);have s2:ct h (h.new (cI 5 [])) j:=iT h _ (by omega);exact s1.trans s2.symm
  ·exact afH _ jW iD (Db (n:=0) (by obtain⟨gT,hm,_⟩:=Gd;exact⟨gT,by rw[rh,if_neg (by omega)];exact hm⟩) rfl)
structure YC (h0 h:J) (ko:Nat) (xO pz:U) (i:Nat) (k:Nat->Nat) (on:Nat->Bool) (b:Nat->Nat):Prop where
 F:aD h0 h (· =ko)
 w:h.wr ko 2
 cG:h.cell ko 0=some xO
 aP:h.cell ko 1=some pz
 ys:∃ys,ha h 24 1 pz i ys/\∀j,j<i->∃x,ys[j]?=some x/\mj h x (k j) b j (on j)
 new:∀j,j<i->h0.next<=k j/\rowOf pz≠some (k j)
 LM:∀j,rowOf pz=some j->h0.next<=j
 inj:∀j fp,j<i->fp<i->k j=k fp->j=fp
theorem aan{C:ad}{lf capb lob ko:Nat}{x2 xO:U}{h0:J}(V:mi h0 x0 x1 ro rb n on q b)(aee:ko<h0.next)(Ec:¬xp ro rb n q ko){capB:Option Nat}(av:aS):∀(d i:Nat),i+d=n->∀f,d<f->∀h pz k,YC h0 h ko xO pz i k on b->
 ∃h' sU b6,bk (BH C lf av) f (some x2,some (.ptr ko 0),some (.aF rb 0 n capB lob),some (I (n:Int)),some (I (i:Int))) h=av (some x2) (some (.ptr ko 0)) h'/\YC h0 h' ko xO sU n b6 on b
 |0,i,hw,f,au,h,pz,k,A=>by
  obtain⟨f,rfl⟩:=dx f (by omega)
  have:i=n:=by omega
  subst this;refine⟨h,pz,k,?_,A⟩;rw[df];unfold BH Fi;have a9:decide ((i:Int)<(i:Int))=false:=by simp
  simp only[aA,a9]
 |d+1,i,hw,f,au,h,pz,k,A=>by
  obtain⟨f,rfl⟩:=dx f (by omega);have aky:mi h x0 x1 ro rb n on q b:=V.frame A.F.next λj aa=>A.F.same j (V.iq aa) (λe=>Ec (by rw[<- e];exact aa))
  have h2:=V.ck;have a9:decide ((i:Int)<(n:Int))=true:=bu (by omega);have dr:IntKind.i64.wrap ((i:Int)+1)=((i+1:Nat):Int):=cD (by omega);have bW:=gA (s:=1) (k:=rb) (off:=0) (len:=n) (lo:=lob) (cap:=capB) (kd:= .i64) (i:=(i:Int)) (by omega) (by omega);rw[Int.toNat_natCast,Nat.mul_one,Nat.zero_add] at bW;obtain⟨x,DN,y,qR,kk,az,ay,b9,R,ai,y1,rI,Gq,xU,afp,ak⟩:=amX aky (i:=i) (by omega);obtain⟨ys,AA,eU⟩:=A.ys;have aef:ko<h.next:=Nat.lt_of_lt_of_le aee A.F.next
  have Xx:∀j,rowOf pz=some j->j<h.next:=λj aa=>AA.iq aa
  have akp:ha qR 24 1 pz i ys:=AA.frame xU.next λj aa=>xU.same j (Xx j aa) (λe=>e)
  obtain⟨sU,DO,aj,aC,a8,cF,dK,dH,fE,h4⟩:=tk (h:=qR) (y:=y) ala y1 rI Gq akp (by omega) (by omega);have za:∀{g:J},ct h g ko->∃gT,g.mt ko=some gT:=λe=>by obtain⟨gT,hm,_⟩:=A.w;exact⟨gT,by rw[e.mt];exact hm⟩
  obtain⟨XD,ahZ⟩:=ak ko aef;have XE:ct h qR ko:=ahZ.trans XD;have aP:∀R:ab,dM (ey [(1,bU (some (.ptr ko 1)))] h DN [1]) R=R:=λR=>AP (k:=ko) rfl aef (za rfl) XD
  have a1:∀R:ab,dM (ey [(1,bU (some (.ptr ko 1)))] DN qR [1]) R=R:=λR=>AP (k:=ko) rfl (by omega) (za XD) ahZ
  have afq:=xU.next
  have cm:∀R:ab,dM (ey [(1,bU (some (.ptr ko 1)))] qR (qR.new (cI 24 [y])) [1]) R=R:=λR=>AP (k:=ko) rfl (by omega) (za XE) (iT _ _ (by omega))
  have ca:rowOf pz≠some ko:=λe=>absurd (A.LM ko e) (by omega)
  have ah1:ct qR DO ko:=dH ko (by omega) ca;have Ya:DO.wr ko 2:=eP (eP A.w XE) ah1
  have dc:=gN (n:=1) (off:=1) (y:=sU) Ya (by
   rcases a8.2 with⟨rfl,_⟩|⟨_,rfl,_⟩<;>rfl) (by omega) (by
   rcases a8.2 with⟨rfl,_⟩|⟨_,rfl,_⟩<;>rfl)
  have u6:sU.cells=[sU]:=by rcases a8.2 with⟨rfl,_⟩|⟨_,rfl,_⟩<;>rfl
  rw[u6] at dc;have pZ:kk<qR.next:=R.lt
  have ahN:∀j,rowOf sU=some j->h0.next<=j:=λj aa=>by
   rcases fE j aa with e|e
   ·exact A.LM j e
   ·have:=A.F.next;omega
  have arZ:∀j,rowOf sU=some j->j≠ko:=λj aa e=>absurd (ahN j aa) (by omega)
  have aj0:aD h0 (DO.set ko 1 [sU]) (· =ko):=by
   refine⟨by rw[xx];exact dK.trans (xU.aO.trans A.F.aO),by rw[dz];exact Nat.le_trans A.F.next (Nat.le_trans afq cF),λj aa ak=>?_,λau=>qJ (h4 (xU.dm (A.F.dm au))) _ _ _⟩;have apT:=Nat.lt_of_lt_of_le aa A.F.next
   exact(gr _ _ _ ak).trans ((dH j (by omega) (λe=>absurd (A.LM j e) (by omega))).trans ((xU.same j apT (λe=>e)).trans (A.F.same j aa ak)))
  have ahO:∀{x:U} {nG j:Nat} {o:Bool},mj qR x nG b j o->rowOf pz≠some nG->nG≠ko->mj (DO.set ko 1 [sU]) x nG b j o:=λR ax ai=>R.frame (by rw[dz];exact cF) ((gr _ _ _ ai).trans (dH _ R.lt ax))
  have pb:i+1<=n:=by omega
  obtain⟨h',a6,RB,b4,cv⟩:=aan (lf:=lf) (C:=C) (x2:=x2) (xO:=xO) (lob:=lob) (capb:=capb) V aee Ec (capB:=capB) av d (i+1) (by omega) f (by omega) (DO.set ko 1 [sU]) sU (da k i kk) (by
   refine⟨aj0,dY Ya,?_,?_,⟨ys++[y],?_,λj aa=>?_⟩,λj aa=>?_,ahN,λj fp aa hb e=>?_⟩
   ·rw[ep (by simp),ah1.cell,XE.cell];exact A.cG
   ·rw[fZ Ya (by simp) (Nat.le_refl _) (by simp)];rfl
   ·exact a8.frame (by rw[dz];exact Nat.le_refl _) λj aa=>gr _ _ _ (arZ j aa)
   ·by_cases e:j=i
    ·subst e;refine⟨y,?_,?_⟩
     ·have aJ:ys.length=j:=by simpa using AA.1
      rw[List.getElem?_append_right (by omega),aJ,Nat.sub_self];rfl
     ·rw[jE];exact ahO R (λe=>absurd (Xx _ e) (by omega)) (by omega)
    ·obtain⟨Yk,D9,kC⟩:=eU j (by omega);refine⟨Yk,?_,?_⟩
     ·have aJ:ys.length=i:=by simpa using AA.1
      rw[List.getElem?_append_left (by omega)];exact D9
     ·rw[ho _ _ e];have aR:=A.new j (by omega);exact ahO (kC.frame afq (xU.same _ kC.lt (λe=>e))) aR.2 (by omega)
   ·by_cases e:j=i
    ·subst e;rw[jE];refine⟨by have:=A.F.next;omega,λe=>?_⟩;rcases fE _ e with ay|ay
     ·exact absurd (Xx _ ay) (by omega)
     ·omega
    ·rw[ho _ _ e];have aR:=A.new j (by omega);obtain⟨Yk,D9,kC⟩:=eU j (by omega);refine⟨aR.1,λe=>?_⟩;rcases fE _ e with ay|ay
     ·exact aR.2 ay
     ·have:=kC.lt;omega
   ·have gB:∀j,j<i+1->j≠i->k j<h.next:=λj aa e=>by
     obtain⟨Yk,D9,kC⟩:=eU j (by omega);exact kC.lt
    by_cases az:j=i
    ·by_cases ay:fp=i
     ·omega
     ·rw[az,jE,ho _ _ ay] at e
      have:=gB fp hb ay;omega
    ·by_cases ay:fp=i
     ·rw[ay,jE,ho _ _ az] at e
      have:=gB j aa az;omega
     ·rw[ho _ _ az,ho _ _ ay] at e
      exact A.inj j fp (by omega) (by omega) e)
  refine⟨h',a6,RB,?_,cv⟩;refine Eq.trans ?_ b4;rw[df];show Fi C lf (λx2 x3 xF xG mP h=>bk (BH C lf av) f (x2,x3,xF,xG,mP) h) av (some x2) (some (.ptr ko 0)) (some (.aF rb 0 n capB lob)) (some (I (n:Int))) (some (I (i:Int))) h=_;unfold Fi;simp only[aA,a9,bW,az,A.aP,ay,aP,b9,a1,aj,cm,aC,dc,dr]
def Nj(C:ad):Prop:=∀h r ro rb n on q b,gw h r ro rb n on q b->∃h' y0 y1 FV FP eV,C (.fn 27) [.ptr r 0] h=some (.ret (.agg [y0,y1]),h')/\mi h' y0 y1 FV FP n on eV b/\aD h h' (λ_=>False)/\∀j,xp FV FP n eV j->h.next<=j
theorem aBh{C:ad}(gy:4097<=lf)(A:gw h r ro rb n on q b):∃h' y0 y1 FV FP eV,Iq C lf (.ptr r 0) h=some (.ret (.agg [y0,y1]),h')/\mi h' y0 y1 FV FP n on eV b/\aD h h' (λ_=>False)/\∀j,xp FV FP n eV j->h.next<=j:=by
 obtain⟨x0,x1,cG,aP,V⟩:=A.v;obtain⟨jw,kj,rfl⟩:=V.av;obtain⟨capB,lob,rfl⟩:=V.az;have h1:=V.cA;have h2:=V.ck;have aX:gC ao 44=some (.agg #[.slice none 0 0,.slice none 0 0]):=by kernel_rfl
 have oq:(c1 (.agg #[.slice none 0 0,.slice none 0 0])).cells=[.val (.slice none 0 0),.val (.slice none 0 0)]:=rfl;have qy:=oI (P:=ao) (e:=44) (h:=h) aX;rw[oq] at qy;generalize kV:h.new (cI 44 [.val (.slice none 0 0),.val (.slice none 0 0)])=g1 at *;have cA:g1.next=h.next+1:=by rw[<- kV];rfl
 have aL:aD h g1 (λ_=>False):=by rw[<- kV];exact lA _ _ _
 have cP:g1.wr h.next 2:=by rw[<- kV];exact hW (o:=cI _ [.val (.slice none 0 0),.val (.slice none 0 0)]) rfl
 obtain⟨z,aqS,ff⟩:=Hv.aX;have ajH:=MC (h:=g1) Hv.hu Hv.ak aqS ff (Nat.le_refl 1);rw[cA] at ajH;generalize gf:g1.new (cI 4 [])=g2 at *;have ck:g2.next=h.next+2:=by rw[<- gf,e7,cA]
 have bw:aD g1 g2 (λ_=>False):=by rw[<- gf];exact lA _ _ _
 have xT:=aL.trans bw;have y7:∃gT,g2.mt (h.next+1)=some gT:=by rw[<- gf,rh,if_pos cA.symm];exact⟨_,rfl⟩
 have cV:g2.wr h.next 2:=by rw[<- gf];exact uF cP (by omega)
 have w6:=A.lt;have Y3:mi g2 (.aF ro 0 n jw kj) (.aF rb 0 n capB lob) ro rb n on q b:=V.frame xT.next λj aa=>xT.same j (V.iq aa) (λe=>e)
 have al3:g2.cell r 0=some (.aF ro 0 n jw kj):=by rw[(xT.same r w6 (λe=>e)).cell];exact cG
 have DZ:g2.cells ro 0 (n*1)=some ((List.range n).map λj=>U.bool (on j)):=jy (by simp) λj aa=>by
  rw[Nat.zero_add,Y3.tq j (by omega)];simp[show j<n by omega]
 have jR:=Db (cap:=jw) (lo:=kj) (by obtain⟨gT,hm,_⟩:=Y3.uG;exact⟨gT,hm⟩) DZ;have ji:=Hw (h:=g2) (k:=h.next+1) Hv y7 jR (by simp) (Zf _ _ λ_=>rfl) h1 (by omega) (by omega);rw[ck] at ji;generalize sj:kH 4 1 ((List.range n).map λj=>U.bool (on j))=jW at *;generalize hF:g2.new jW=g3 at *;have e6:g3.next=h.next+3:=by rw[<- hF,e7,ck]
 have c2:aD g2 g3 (λ_=>False):=by rw[<- hF];exact lA _ _ _
 have fh:g3.wr h.next 2:=by rw[<- hF];exact uF cV (by omega)
 have aE2:g3.wr (h.next+2) n:=by
  have:=hW (h:=g2) (o:=jW) (by rw[<- sj];rfl)
  rw[hF,ck,show jW.n=n by rw[<- sj];simp[kH]] at this;exact this
 have amC:∀j,j<n->g3.cell (h.next+2) j=some (.bool (on j)):=λj aa=>by
  rw[<- hF, <- ck,jx, <- sj,zx];simp[aa]
 have ag:gM ao 44 [0] [.aF (h.next+2) 0 n none 0]=some (.agg [.aF (h.next+2) 0 n none 0,.val (.slice none 0 0)]):=by kernel_rfl
 have Y9:=oI (P:=ao) (e:=44) (h:=g3) aX;rw[oq,e6] at Y9;generalize kc:g3.new (cI 44 [.val (.slice none 0 0),.val (.slice none 0 0)])=g4 at *;have jm:g4.next=h.next+4:=by rw[<- kc,e7,e6]
 have fK:aD g3 g4 (λ_=>False):=by rw[<- kc];exact lA _ _ _
 have gD:g4.wr (h.next+3) 2:=by
  have:=hW (h:=g3) (o:=cI 44 [.val (.slice none 0 0),.val (.slice none 0 0)]) rfl
  rw[kc,e6] at this;exact this
 have aES:g4.wr h.next 2:=by rw[<- kc];exact uF fh (by omega)
 have dc:=gN (n:=2) (off:=0) (y:= .agg [.aF (h.next+2) 0 n none 0,.val (.slice none 0 0)]) gD rfl (by omega) rfl;have D3:(U.agg [.aF (h.next+2) 0 n none 0,.val (.slice none 0 0)]).cells=[.aF (h.next+2) 0 n none 0,.val (.slice none 0 0)]:=rfl;rw[D3] at dc;generalize na:g4.set (h.next+3) 0 [.aF (h.next+2) 0 n none 0,.val (.slice none 0 0)]=g5 at *;have afr:g5.next=h.next+4:=by rw[<- na,dz,jm]
 have sR:g5.wr (h.next+3) 2:=by rw[<- na];exact dY gD
 have aEU:g5.wr h.next 2:=by rw[<- na];exact dY aES
 have aCW:ct g3 g5 (h.next+2):=by rw[<- na, <- kc];exact(gr _ _ _ (by omega)).trans (iT _ _ (by omega))
 have Am:aD h g5 (λ_=>False):=by
  have s3:=(xT.trans c2).trans fK;refine⟨by rw[<- na,xx];exact s3.aO,by omega,λj aa ak=>?_,λau=>by rw[<- na];exact qJ (s3.dm au) _ _ _⟩
  have:ct g4 g5 j:=by rw[<- na];exact gr _ _ _ (by omega)
  exact this.trans (s3.same j aa ak)
 have akx:mi g5 (.aF ro 0 n jw kj) (.aF rb 0 n capB lob) ro rb n on q b:=V.frame Am.next λj aa=>Am.same j (V.iq aa) (λe=>e)
 have al4:g5.cell r 1=some (.aF rb 0 n capB lob):=by rw[(Am.same r w6 (λe=>e)).cell];exact aP
 have amf:g5.cell (h.next+3) 0=some (.aF (h.next+2) 0 n none 0):=by rw[<- na,fZ gD (by simp) (Nat.le_refl _) (by simp)];rfl
 have amg:g5.cell (h.next+3) 1=some (.val (.slice none 0 0)):=by rw[<- na,fZ gD (by simp) (by omega) (by simp)];rfl
 have aJ:=ue (k:=rb) (off:=0) (len:=n) (cap:=capB) (lo:=lob) Tryd.underlying42
 obtain⟨g6,pz,RB,b4,cv⟩:=aan (lf:=lf) (C:=C) (x2:= .ptr h.next 0) (xO:= .aF (h.next+2) 0 n none 0) (lob:=lob) (capb:=0) (ko:=h.next+3) akx (by omega) (λe=>by have:=V.iq e;omega) (capB:=capB)
  (λx2 x3 h=>KB C lf H3 x2 x3 h) n 0 (by omega) lf (by omega) g5 (.val (.slice none 0 0)) (λ_=>0)
  ⟨aD.refl _ _,sR,amf,amg,⟨[],ha.nil _ _ _,λj aa=>by omega⟩,λj aa=>by omega,(λj aa=>by cases aa),λj fp aa=>by omega⟩
 obtain⟨ys,AA,eU⟩:=cv.ys;rcases AA.2 with⟨_,e⟩|⟨bB,rfl,xM⟩
 ·omega
 have Ea:=cv.LM bB rfl;have JQ:=cv.F.next
 have Yc:g6.wr h.next 2:=eP aEU (cv.F.same _ (by omega) (by omega))
 have kf:eB 2 (.ptr (h.next+3) 0) g6=some (.agg [.aF (h.next+2) 0 n none 0,.aF bB 0 n none 0]):=by
  obtain⟨gT,hm,_⟩:=cv.w
  rw[mE hm,jy (n:=2) (ys:=[.aF (h.next+2) 0 n none 0,.aF bB 0 n none 0]) rfl λi hi=>by
   rw[Nat.zero_add];rcases(show i=0\/i=1 by omega) with rfl|rfl
   ·exact cv.cG
   ·exact cv.aP]
  rfl
 have w0:=gN (n:=2) (off:=0) (y:= .agg [.aF (h.next+2) 0 n none 0,.aF bB 0 n none 0]) Yc rfl (by omega) rfl;have apx:(U.agg [.aF (h.next+2) 0 n none 0,.aF bB 0 n none 0]).cells=[.aF (h.next+2) 0 n none 0,.aF bB 0 n none 0]:=rfl;rw[apx] at w0;generalize Bi:g6.set h.next 0 [.aF (h.next+2) 0 n none 0,.aF bB 0 n none 0]=g7 at *
 have apZ:eB 2 (.ptr h.next 0) g7=some (.agg [.aF (h.next+2) 0 n none 0,.aF bB 0 n none 0]):=by
  have Yd:g7.wr h.next 2:=by rw[<- Bi];exact dY Yc
  obtain⟨gT,hm,_⟩:=Yd
  rw[mE hm,jy (n:=2) (ys:=[.aF (h.next+2) 0 n none 0,.aF bB 0 n none 0]) rfl λi hi=>by
   rw[Nat.zero_add, <- Bi,fZ Yc (by simp) (Nat.zero_le _) (by simpa using hi),Nat.sub_zero]]
  rfl
 have xq:∀j,j≠h.next->ct g6 g7 j:=λj aa=>by rw[<- Bi];exact gr _ _ _ aa
 have afs:g7.next=g6.next:=by rw[<- Bi,dz]
 refine⟨g7,.aF (h.next+2) 0 n none 0,.aF bB 0 n none 0,h.next+2,bB,λi=>some (RB i),?_,?_,?_,?_⟩
 ·unfold Iq TR TQ TP TO TN TM TL;simp only[aA,qy,cA,ajH,al3,ji,ag,Y9,dc,al4,aJ];refine Eq.trans b4 ?_;unfold KB H3;simp only[aA,kf,w0,apZ]
 ·have ais:ct g3 g7 (h.next+2):=(xq _ (by omega)).trans ((cv.F.same _ (by omega) (by omega)).trans aCW);obtain⟨arM,ap6,hU,hH,zy,oA,p8⟩:=xM.mt;refine⟨h1,h2,⟨none,0,rfl⟩,⟨none,0,rfl⟩,eP aE2 ais,⟨arM,by rw[(xq bB (by omega)).mt];exact ap6,p8,by omega⟩,λi hi=>by rw[ais.cell];exact amC i hi,(λi hi a2=>by cases a2),λi k hi a2=>?_,λi j k hi aa a2 nD=>?_,by omega,by omega,by have:=xM.lt;omega,V.blt⟩
  ·cases a2;obtain⟨x,p3,tW⟩:=eU i hi;have aR:=cv.new i hi;refine⟨by omega,λe=>aR.2 (by rw[e];rfl),x,?_,tW.frame (by omega) (xq _ (by omega))⟩;rw[(xq bB (by omega)).cell,xM.cs i (by omega)];exact p3
  ·cases a2;exact cv.inj i j hi aa (Option.some.inj nD).symm
 ·refine⟨by rw[<- Bi,xx];exact cv.F.aO.trans Am.aO,by omega,λj aa ak=>(xq j (by omega)).trans ((cv.F.same j (by omega) (by omega)).trans (Am.same j aa ak)),λau=>by rw[<- Bi];exact qJ (cv.F.dm (Am.dm au)) _ _ _⟩
 ·intro j aa;rcases aa with rfl|rfl|⟨i,hi,a2⟩
  ·omega
  ·omega
  ·cases a2
   have:=(cv.new i hi).1;omega
end
section
variable{lf m:Nat}{h:J}
structure Whole (h:J) (k:Nat) (l:List Nat):Prop where
 w:h.wr k (l.length+2)
 cG:h.cell k 0=some (.int .u8 165)
 aP:h.cell k (l.length+1)=some (.int .u8 90)
 cs:∀j,j<l.length->h.cell k (1+j)=some (.int .u8 ((l.getD j 0:Nat):Int))
 lt:k<h.next
def qp(k n:Nat):U:= .aF k 0 (n+2) (some (n+2)) 0
def w5(k n:Nat):U:= .aF k 1 n (some (n+1)) 0
theorem air{P:Program}{t e k n:Nat}(hu:P.underlying t=some (.slice e))(ak:eg P e=some 1):gl P t (qp k n) (some (I 1)) (some (I ((n+1:Nat):Int)))=some (w5 k n):=by
 have h1:sliceB (n+2) (n+2) (some (I 1)) (some (I ((n+1:Nat):Int)))=some (1,n+1):=by
  have az:kl (I 1)=some 1:=rfl;have ay:kl (I ((n+1:Nat):Int))=some (n+1):=rfl;simp only[sliceB,az,ay]
  have:(Nat.ble (n+1) (n+2)&&Nat.ble 1 (n+1))=true:=by rw[Nat.ble_eq_true_of_le (by omega),Nat.ble_eq_true_of_le (by omega)];rfl
  simp only[this,cond_true]
 unfold gl qp;simp only[hu,ak,h1,qm,force_eq]
 have bY:Nat.beq (n+2-1) 0=false:=by
  cases ag:Nat.beq (n+2-1) 0 with
  |false=>rfl
  |true=>exact absurd (Nat.eq_of_beq_eq_true ag) (by omega)
 simp only[bY,cond_false,w5];rfl
def M8(C:ad):Prop:=∀h x l,Bytes h x l->l.length<=140737488351232->(∀j,rowOf x=some j->j<h.next)->∃h',C (.fn 69) [x] h=some (.ret (.bm [qp h.next l.length,w5 h.next l.length]),h')/\Whole h' h.next l/\aD h h' (λ_=>False)/\h'.next=h.next+1
theorem ae3{C:ad}{lf k:Nat}{x:U}{l:List Nat}{h0:J}(hlen:l.length<=140737488351232)(YB:Bytes h0 x l)(ax:∀j,rowOf x=some j->j<h0.next/\j≠k)(av:aS):∀(d t:Nat),t+d=l.length->∀f,d<f->∀h,h.wr k (l.length+2)->h.cell k 0=some (.int .u8 165)->h.cell k (l.length+1)=some (.int .u8 90)->
 (∀j,j<t->h.cell k (1+j)=some (.int .u8 ((l.getD j 0:Nat):Int)))->aD h0 h (· =k)->h.next=h0.next->
 ∃h',bk (BK C lf av) f (some x,some (qp k l.length),some x,some (I (l.length:Int)),some (I (t:Int))) h=av (some x) (some (qp k l.length)) h'/\
  h'.wr k (l.length+2)/\h'.cell k 0=some (.int .u8 165)/\h'.cell k (l.length+1)=some (.int .u8 90)/\(∀j,j<l.length->h'.cell k (1+j)=some (.int .u8 ((l.getD j 0:Nat):Int)))/\aD h0 h' (· =k)/\h'.next=h0.next
 |0,t,hw,f,au,h,aj,aC,a8,cF,dK,dH=>by
  obtain⟨f,rfl⟩:=dx f (by omega)
  have:t=l.length:=by omega
  subst this;refine⟨h,?_,aj,aC,a8,cF,dK,dH⟩;rw[df];unfold BK Fx;have a9:decide ((l.length:Int)<(l.length:Int))=false:=by simp
  simp only[aA,a9]
 |d+1,t,hw,f,au,h,aj,aC,a8,cF,dK,dH=>by
  obtain⟨f,rfl⟩:=dx f (by omega);have aN:t<l.length:=by omega
  have a9:decide ((t:Int)<(l.length:Int))=true:=bu (by omega);have dr:IntKind.i64.wrap ((t:Int)+1)=((t+1:Nat):Int):=cD (by omega);have ajS:Bytes h x l:=YB.frame λbB ob len cap lo e=>dK.same bB (ax bB (by rw[e];rfl)).1 (ax bB (by rw[e];rfl)).2
  obtain⟨mX,bY,b2⟩:∃mX,dQ 1 x (I (t:Int))=some mX/\bO mX h=some (.int .u8 ((l.getD t 0:Nat):Int)):=by
   rcases ajS.2 with⟨_,rfl⟩|⟨bB,ob,cap,lo,gT,rfl,_,ae⟩
   ·simp at aN
   ·have bW:=gA (s:=1) (k:=bB) (off:=ob) (len:=l.length) (lo:=lo) (cap:=cap) (kd:= .i64) (i:=(t:Int)) (by omega) (by omega);rw[Int.toNat_natCast,Nat.mul_one] at bW;exact⟨_,bW,ae t aN⟩
  have ad9:=gA (s:=1) (k:=k) (off:=0) (len:=l.length+2) (lo:=0) (cap:=some (l.length+2)) (kd:= .i64) (i:=((t+1:Nat):Int)) (by omega) (by omega);rw[Int.toNat_natCast,Nat.mul_one,Nat.zero_add] at ad9;have apS:dQ 1 (qp k l.length) (I ((t+1:Nat):Int))=some (.ptr k (t+1)):=ad9;have dc:=gN (n:=1) (off:=t+1) (y:= .int .u8 ((l.getD t 0:Nat):Int)) aj rfl (by omega) rfl
  obtain⟨h',az,ay⟩:=ae3 (lf:=lf) (C:=C) (x:=x) hlen YB ax av d (t+1) (by omega) f (by omega) (h.set k (t+1) [.int .u8 ((l.getD t 0:Nat):Int)]) (dY aj) (by rw[ep (.inr (by simp))];exact aC) (by rw[ep (.inr (by simp;omega))];exact a8)
   (λj aa=>by
     by_cases e:j=t
     ·subst e;rw[show 1+j=j+1 by omega,fZ aj (by simp;omega) (Nat.le_refl _) (by simp)];simp
     ·rw[ep (.inr (by simp;omega))];exact cF j (by omega)) (dK.trans (fj rfl)) (by rw[dz];exact dH)
  refine⟨h',?_,ay⟩;refine Eq.trans ?_ az;rw[df];show Fx C lf (λx0 bC mP xH uH h=>bk (BK C lf av) f (x0,bC,mP,xH,uH) h) av (some x) (some (qp k l.length)) (some x) (some (I (l.length:Int))) (some (I (t:Int))) h=_;unfold Fx;simp only[cf,b8,r0,a9,sX,bY,b2,rZ,dr,apS,dc,U.cells]
theorem aru{C:ad}{x:U}{l:List Nat}(gy:140737488355328<=lf)(B:Bytes h x l)(aJ:l.length<=140737488351232)(ax:∀j,rowOf x=some j->j<h.next):
 ∃h',IN C lf x h=some (.ret (.bm [qp h.next l.length,w5 h.next l.length]),h')/\Whole h' h.next l/\aD h h' (λ_=>False)/\h'.next=h.next+1:=by
 have hlen:=re (P:=ao) Tryd.underlying24 B;have ay:IntKind.i64.wrap ((l.length:Int)+2)=((l.length+2:Nat):Int):=cD (by omega);have az:IntKind.i64.wrap ((l.length:Int)+1)=((l.length+1:Nat):Int):=cD (by omega)
 have kZ:=Ai (P:=ao) (t:=24) (e:=5) (s:=1) (b:=1) (z:= .int .u8 0) (k1:= .i64) (k2:= .i64) (l:=l.length+2) (c:=l.length+2) (h:=h)
  Tryd.underlying24 (by kernel_rfl) (by kernel_rfl) (by kernel_rfl) (Nat.le_refl _) (by omega) (by omega) rfl (by omega)
 generalize aq:iU 5 ((l.length+2)*1) (c1 (.int .u8 0)).cells=o at *
 have hw:(h.new o).wr h.next (l.length+2):=by
  have:=hW (h:=h) (o:=o) (by rw[<- aq];rfl)
  rw[show o.n=l.length+2 by rw[<- aq];exact Nat.mul_one _] at this;exact this
 have i0:=gA (s:=1) (k:=h.next) (off:=0) (len:=l.length+2) (lo:=0) (cap:=some (l.length+2)) (kd:= .i64) (i:=0) (by omega) (by omega);have i1:=gA (s:=1) (k:=h.next) (off:=0) (len:=l.length+2) (lo:=0) (cap:=some (l.length+2)) (kd:= .i64) (i:=((l.length+1:Nat):Int)) (by omega) (by omega);rw[Int.toNat_natCast,Nat.mul_one,Nat.zero_add] at i1;have vx:=gN (n:=1) (off:=0) (y:= .int .u8 165) hw rfl (by omega) rfl;have mz:(U.int .u8 165).cells=[.int .u8 165]:=rfl;rw[mz] at vx;have Ey:((h.new o).set h.next 0 [.int .u8 165]).wr h.next (l.length+2):=dY hw
 have LU:=gN (n:=1) (off:=l.length+1) (y:= .int .u8 90) Ey rfl (by omega) rfl;have fl:(U.int .u8 90).cells=[.int .u8 90]:=rfl;rw[fl] at LU;generalize bc:((h.new o).set h.next 0 [.int .u8 165]).set h.next (l.length+1) [.int .u8 90]=g at *
 have aO:g.next=h.next+1:=by rw[<- bc,dz,dz,e7]
 have Ml:g.wr h.next (l.length+2):=by rw[<- bc];exact dY Ey
 have F:aD h g (λ_=>False):=by
  rw[<- bc];exact⟨by simp,by simp,λj aa _=>(gr _ _ _ (by omega)).trans ((gr _ _ _ (by omega)).trans (iT h _ (by omega))),λau=>qJ (qJ (qI au _) _ _ _) _ _ _⟩
 have jq:Bytes g x l:=B.frame λbB ob len cap lo e=>F.same bB (ax bB (by rw[e];rfl)) (λe=>e)
 have kE:=air (P:=ao) (t:=24) (k:=h.next) (n:=l.length) Tryd.underlying24 (by kernel_rfl)
 obtain⟨h',b4,cv,l2,JP,EK,JQ,aG3⟩:=ae3 (lf:=lf) (C:=C) (k:=h.next) (x:=x) (h0:=g) aJ jq (λj aa=>by have:=ax j aa;omega) (λx0 bC h=>K7 C lf H7 x0 bC h) l.length 0 (by omega) lf (by omega) g Ml
  (by rw[<- bc,ep (.inr (by simp)),fZ hw (by simp) (Nat.le_refl _) (by simp)];rfl)
  (by rw[<- bc,fZ Ey (by simp) (Nat.le_refl _) (by simp)];simp) (λj aa=>by omega) (aD.refl _ _) rfl
 refine⟨h',?_,⟨cv,l2,JP,EK,by omega⟩,⟨JQ.aO.trans F.aO,by omega,λj aa ak=>(JQ.same j (by omega) (by omega)).trans (F.same j aa ak),λau=>JQ.dm (F.dm au)⟩,by omega⟩;unfold IN VC VB VA Vz Vy Vx Vw Vv Vu;have aqT:dQ 1 (.aF h.next 0 (l.length+2) (some (l.length+2)) 0) (I 0)=some (.ptr h.next 0):=i0;simp only[aA,hlen,ay,kZ,az,aqT,vx,i1,LU];refine Eq.trans b4 ?_;unfold K7 H7;simp only[aA,hlen,az,kE]
def M5(C:ad):Prop:=∀h k x l,Whole h k l->Bytes h x l->l.length<=140737488351232->C (.fn 71) [qp k l.length,x] h=some (.ret (.bool true),h)
theorem Whole.bytes{k:Nat}{l:List Nat}(W:Whole h k l)(ag:∀c∈l,c<256):Bytes h (w5 k l.length) l:=by
 obtain⟨gT,hm,_⟩:=W.w;exact⟨ag,.inr ⟨k,1,_,0,gT,rfl,hm,W.cs⟩⟩
theorem are{C:ad}{k:Nat}{x:U}{l:List Nat}(W:Whole h k l)(B:Bytes h x l)(aJ:l.length<=140737488351232):IP C lf (qp k l.length) x h=some (.ret (.bool true),h):=by
 have hlen:=re (P:=ao) Tryd.underlying24 B;have Q5:eG ao 24 (qp k l.length)=some (I ((l.length+2:Nat):Int)):=ue Tryd.underlying24;have ay:IntKind.i64.wrap ((l.length:Int)+2)=((l.length+2:Nat):Int):=cD (by omega);have az:IntKind.i64.wrap ((l.length:Int)+1)=((l.length+1:Nat):Int):=cD (by omega);have i0:dQ 1 (qp k l.length) (I 0)=some (.ptr k 0):=gA (s:=1) (k:=k) (off:=0) (len:=l.length+2) (lo:=0) (cap:=some (l.length+2)) (kd:= .i64) (i:=0) (by omega) (by omega);have i1:=gA (s:=1) (k:=k) (off:=0) (len:=l.length+2) (lo:=0) (cap:=some (l.length+2)) (kd:= .i64) (i:=((l.length+1:Nat):Int)) (by omega) (by omega);rw[Int.toNat_natCast,Nat.mul_one,Nat.zero_add] at i1;have aqU:dQ 1 (qp k l.length) (I ((l.length+1:Nat):Int))=some (.ptr k (l.length+1)):=i1;have kE:=air (P:=ao) (t:=24) (k:=k) (n:=l.length) Tryd.underlying24 (by kernel_rfl);have v1:=ME (P:=ao) (s:=24) (d:=9) Tryd.underlying24 Tryd.underlying9 (by kernel_rfl) (W.bytes B.1)
 have v2:=ME (P:=ao) (s:=24) (d:=9) Tryd.underlying24 Tryd.underlying9 (by kernel_rfl) B;have d1:decide (((l.length+2:Nat):Int)=((l.length+2:Nat):Int))=true:=by simp
 have d2:decide ((165:Int)=165)=true:=rfl;have d3:decide ((90:Int)=90)=true:=rfl;have d4:decide (vB l=vB l)=true:=by simp
 unfold IP VD Pt;simp only[aA,Q5,hlen,ay,d1,decide_true,i0,W.cG,az,aqU,W.aP,kE,v1,v2,ZI]
end
theorem AO{bJ:List (Nat×Option Nat)}{h h':J}{ls:List Nat}{r:ab}(H:∀p∈bJ,∀k,p.2=some k->k<h.next/\(∃m,h.mt k=some m)/\ct h h' k):dM (ey bJ h h' ls) r=r:=by
 have au:∀(bJ:List (Nat×Option Nat)) i k,(∀p∈bJ,∀k,p.2=some k->k<h.next/\(∃m,h.mt k=some m)/\ct h h' k)->mq bJ i=some k->k<h.next/\(∃m,h.mt k=some m)/\ct h h' k:=by
  intro bJ
  induction bJ with
  |nil=>intro i k _ e;cases e
  |cons p bJ bp=>
   intro i k H e;obtain⟨l,a⟩:=p;have e:(bif Nat.beq l i then a else mq bJ i)=some k:=e;cases ag:Nat.beq l i with
   |true=>rw[ag,cond_true] at e;exact H (l,a) (List.mem_cons_self ..) k e
   |false=>rw[ag,cond_false] at e;exact bp i k (λp aB=>H p (List.mem_cons_of_mem _ aB)) e
 have:ey bJ h h' ls=true:=by
  induction ls with
  |nil=>rfl
  |cons l ls bp=>
   show((match mq bJ l with|some k=>FZ h h' k|none=>true)&&ey bJ h h' ls)=true;rw[bp,Bool.and_true];cases ai:mq bJ l with
   |none=>rfl
   |some k=>
    obtain⟨h1,h2,h3⟩:=au bJ l k H ai;exact ah6 h1 h2 h3
 rw[this,wx]
section
variable{lf:Nat}{h:J}{T:dS}{n N:Nat}{wd b:Nat->Nat}{now:Int}{us:Nat->Bool}{nd:Nat->Nat->U}
def YI(C:ad):Prop:=∀h0 h T n N wd b now us nd bB eO p,bt h0 T n N wd b now us nd->wa h0 h bB eO p []->∃h',C (.iJ 81) [.ptr T.a3 0,.fV eO] h=some (.ret (.bm []),h')/\wa h0 h' bB eO p (fc us N)
theorem ant{C C':ad}(gy:4097<=lf)(aN:pH C)(bb:∀eO p bB v h y h',CK h bB eO p->LO C' lf eO (some (.ptr p 0)) v h=some (.ret y,h')->C (.fV eO) [v] h=some (.ret y,h')){h0:J}{bB eO p:Nat}(A:bt h0 T n N wd b now us nd)(mT:wa h0 h bB eO p []):
 ∃h',DB C lf (.ptr T.a3 0) (.fV eO) h=some (.ret (.bm []),h')/\wa h0 h' bB eO p (fc us N):=by
 have jQ:=A.gH;refine anu (n:=n) (N:=N) (wd:=wd) (b:=b) (now:=now) (us:=us) (nd:=nd) gy aN (λi h=>wa h0 h bB eO p (fc us i)) eO (λi h mT=>A.gQ mT.F λ_ e=>e.elim) (λi h hi hu mT=>?_) (λi h hi hu mT=>?_) (by simpa[fc,eW] using mT)
 ·have hle:=Cm us i;obtain⟨h',az,ay⟩:=aBZ (C:=C') (lf:=lf) mT (by omega) (i+1);refine⟨h',bb eO p bB _ h _ h' mT.L az,?_⟩;rw[Mi,hu];exact ay
 ·rw[Mi,hu];simpa using mT
def Hn(C:ad):Prop:=∀h T n N wd b now us nd,bt h T n N wd b now us nd->∃x h',C (.fn 47) [.ptr T.a3 0] h=some (.ret x,h')/\eQ h h' x (fc us N)/\aD h h' (λ_=>False)
theorem aEM{C:ad}(E:YI C)(A:bt h T n N wd b now us nd):∃x h',IC C lf (.ptr T.a3 0) h=some (.ret x,h')/\eQ h h' x (fc us N)/\aD h h' (λ_=>False):=by
 have aX:gC ao 33=some (.slice none 0 0):=by kernel_rfl
 have th:=oI (P:=ao) (e:=33) (h:=h) aX;have oq:(c1 (.slice none 0 0)).cells=[.val (.slice none 0 0)]:=rfl;rw[oq] at th;generalize ik:cI 33 [.val (.slice none 0 0)]=dv at *;generalize kV:h.new dv=g1 at *;have cA:g1.next=h.next+1:=by rw[<- kV,e7]
 have cP:g1.wr h.next 1:=by
  have:=hW (h:=h) (o:=dv) (by rw[<- ik];rfl)
  rw[show dv.n=1 by rw[<- ik];rfl,kV] at this;exact this
 have aP:g1.cell h.next 0=some (.val (.slice none 0 0)):=by rw[<- kV,jx, <- ik,nK];rfl
 have aL:aD h g1 (λ_=>False):=by rw[<- kV];exact lA _ _ _
 generalize gf:(⟨g1.aO,g1.next+1,g1.aV.put g1.next sB⟩:J)=g2 at *;have ay:g2=g1.new sB:=by rw[<- gf];rfl
 have ck:g2.next=h.next+2:=by rw[ay,e7,cA]
 have bw:aD g1 g2 (λ_=>False):=by rw[ay];exact lA _ _ _
 generalize hc:iA dn.ord 47 13 (jl [(3,some (.ptr h.next 0))]) #[7] (b7 dn [1,1,0,1,0,0]) (b7 dn [1,1,0,1,0,1]) g1.next=ol at *
 generalize hF:(⟨g2.aO,g2.next+1,g2.aV.put g2.next ol⟩:J)=g3 at *;have b9:g3=g2.new ol:=by rw[<- hF];rfl
 have e6:g3.next=h.next+3:=by rw[b9,e7,ck]
 have c2:aD g2 g3 (λ_=>False):=by rw[b9];exact lA _ _ _
 have nj:∀j,j<g2.next->ct g2 g3 j:=λj aa=>c2.same j aa (λe=>e)
 have uA:∀j,j<g1.next->ct g1 g2 j:=λj aa=>bw.same j aa (λe=>e)
 have mT:wa h g3 (h.next+1) (h.next+2) h.next []:=
  ⟨(aL.trans bw).trans c2,⟨⟨ol,by rw[b9,BV,if_pos (by rw[ck])],by rw[<- hc,cA];rfl⟩,⟨sB,by
     have h1:ct g2 g3 (h.next+1):=nj _ (by omega)
     exact h1.trans (by rw[ay,BV,if_pos cA.symm]),rfl⟩⟩,
    ⟨.val (.slice none 0 0),by rw[(nj _ (by omega)).cell,(uA _ (by omega)).cell];exact aP,⟨ha.nil _ _ _,λj aa=>by cases aa⟩,λj aa=>by cases aa⟩,
    eP (eP cP (uA _ (by omega))) (nj _ (by omega)),by omega,by omega,by omega,by omega,by omega,by omega,by omega,by omega,by omega⟩
 obtain⟨g4,cb,uT⟩:=E h g3 T n N wd b now us nd _ _ _ A mT;obtain⟨RZ,dT,fA⟩:=uT.L.ol;obtain⟨kS,nJ,B3⟩:=uT.L.ob;obtain⟨x,x1,x2,x3⟩:=uT.v;have fA:RZ.sp= .loop .ready .none dn.ord 47 13 (jl [(3,some (.ptr h.next 0))]) #[7] (b7 dn [1,1,0,1,0,0]) (b7 dn [1,1,0,1,0,1]) (h.next+1):=fA;generalize na:g4.at (h.next+2) (AS RZ)=g5 at *;have pF:aD g4 g5 (· =h.next+2):=by rw[<- na];exact Ic rfl uT.hg
 have alu:g5.aV.get (h.next+1)=some kS:=by rw[<- na,uY,if_neg (by omega)];exact nJ
 generalize Js:g5.at (h.next+1) {kS with cq:=kS.cq+1,sp:= .jO true}=g6 at *;have afr:g5.next=g4.next:=by rw[<- na];rfl
 have oL:aD g5 g6 (· =h.next+1):=by rw[<- Js];exact Ic rfl (by rw[afr];exact uT.JR)
 have ah4:∀j,j≠h.next+1->j≠h.next+2->ct g4 g6 j:=λj h1 h2=>by
  have a:ct g4 g5 j:=by rw[<- na];exact pQ _ _ h2
  have b:ct g5 g6 j:=by rw[<- Js];exact pQ _ _ h1
  exact b.trans a
 have BT:g6.next=g4.next:=by rw[<- Js, <- na];rfl
 refine⟨x,g6,?_,⟨x2.aF.frame (Nat.le_of_eq BT.symm) λk ai=>ah4 k (x3 k ai).1 (x3 k ai).2.1,x2.new⟩,?_⟩
 ·unfold IC UK Fu zQ;simp only[cf,b8,ns,th]
  have aQ:∀aK bR ke,rA C dn.ord 47 none 13 #[7] (b7 dn [1,1,0,1,0,0]) (b7 dn [1,1,0,1,0,1]) (.fn (.func 81) [.ptr T.a3 0] []) [] (jl [(3,some (.ptr h.next 0))]) g1 aK bR ke=aK [h.next+1] g5:=λaK bR ke=>by
   show cM (C (.iJ 81) [.ptr T.a3 0,.fV (g1.next+1)] ⟨g1.aO,g1.next+2,(g1.aV.put g1.next sB).put (g1.next+1) (iA dn.ord 47 13 (jl [(3,some (.ptr h.next 0))]) #[7] (b7 dn [1,1,0,1,0,0]) (b7 dn [1,1,0,1,0,1]) g1.next)⟩) (λ_ h2=>Dc (g1.next::[]) (g1.next+1) h2 aK bR ke)=_;have n5:(⟨g1.aO,g1.next+2,(g1.aV.put g1.next sB).put (g1.next+1) (iA dn.ord 47 13 (jl [(3,some (.ptr h.next 0))]) #[7] (b7 dn [1,1,0,1,0,0]) (b7 dn [1,1,0,1,0,1]) g1.next)⟩:J)=g3:=by rw[<- hF, <- gf,hc]
   rw[n5,cA,cb,CX];unfold Dc;simp only[dT,fA];show aK [h.next+1] (g4.at (h.next+2) (AS RZ))=_;rw[na]
  rw[aQ];unfold uu n8 zz zz abe;have aqN:g5.cell h.next 0=some x:=by rw[<- na,ZW _ (by omega)];exact x1
  simp only[cf,b8,pf,aqN,alu,B3];show zE (some (.ret x,g5.at (h.next+1) {kS with cq:=kS.cq+1,sp:= .jO true}))=_;rw[Js,ash]
 ·refine⟨oL.aO.trans (pF.aO.trans uT.F.aO),by rw[BT];exact uT.F.next,λj aa e=>(ah4 j (by omega) (by omega)).trans (uT.F.same j aa e),λau=>oL.dm (pF.dm (uT.F.dm au))⟩
end
section
variable{lf:Nat}{h:J}{T:dS}{n N:Nat}{wd b:Nat->Nat}{now:Int}{us:Nat->Bool}{nd:Nat->Nat->U}
theorem vF{h:J}{k M:Nat}(w:h.wr k M):∃m,h.mt k=some m:=let ⟨m,a,_⟩:=w;⟨m,a⟩
def GP(C:ad):Prop:=∀h T n N wd b now us nd,bt h T n N wd b now us nd->C (.fn 46) [.ptr T.a3 0] h=some (.ret (I now),h)
theorem asm{C:ad}(aN:pH C)(A:bt h T n N wd b now us nd):IB C lf (.ptr T.a3 0) h=some (.ret (I now),h):=by
 unfold IB UI Pa;simp only[aA,aN _ _ _ _ _ _ _ _ _ A,Bool.not_true,A.a1]
def NC(C:ad):Prop:=∀h T n N wd b now us nd,bt h T n N wd b now us nd->∃x h',C (.fn 48) [.ptr T.a3 0] h=some (.ret x,h')/\eQ h h' x (iV wd n)/\aD h h' (λ_=>False)
theorem aEr{C:ad}(aN:pH C)(hu:NJ C)(A:bt h T n N wd b now us nd):∃x h',ID C lf (.ptr T.a3 0) h=some (.ret x,h')/\eQ h h' x (iV wd n)/\aD h h' (λ_=>False):=by
 obtain⟨x,h',e,a,f⟩:=hu _ _ _ _ _ _ A.st;refine⟨x,h',?_,a,f⟩;unfold ID UL Pb;simp only[aA,aN _ _ _ _ _ _ _ _ _ A,Bool.not_true,A.cG,e]
def xo(n l N u:Nat):U:= .bm [I (n:Int),I (l:Int),I (N:Int),I (u:Int)]
def Nt(C:ad):Prop:=∀h T n N wd b now us nd,bt h T n N wd b now us nd->∃h',C (.fn 39) [.ptr T.a3 0] h=some (.ret (xo n (n-(iV wd n).length) N (N-(fc us N).length)),h')/\aD h h' (λ_=>False)
theorem aBR{C:ad}(aN:pH C)(aqz:NI C)(hle:M7 C)(hu:Hn C)(A:bt h T n N wd b now us nd):∃h',Ix C lf (.ptr T.a3 0) h=some (.ret (xo n (n-(iV wd n).length) N (N-(fc us N).length)),h')/\aD h h' (λ_=>False):=by
 obtain⟨x,h',e,a,f⟩:=hu _ _ _ _ _ _ _ _ _ A;have jQ:=A.gH;have Q2:=Cm us N;obtain⟨cap,fl⟩:=A.aP
 have aJ:eG ao 100 (.aF T.aK 0 N cap 0)=some (I (N:Int)):=by
  simp[eG,Tryd.underlying100]
 have vb:=ae1 a;have ak:IntKind.i64.wrap ((N:Int)-((fc us N).length:Int))=((N-(fc us N).length:Nat):Int):=cD (by omega);have az:=aqz _ _ _ _ _ _ A.st;have ay:=hle _ _ _ _ _ _ A.st
 have ai:∀{h1:J} (bJ:List (Nat×Option Nat)) (ls:List Nat) (r:ab),(∀p∈bJ,∀k,p.2=some k->k=T.a3)->ct h h1 T.a3->dM (ey bJ h h1 ls) r=r:=λbJ ls r aB ak=>AO λp nc k e=>by
  have:=aB p nc k e
  subst this;exact⟨A.lt,vF A.wt,ak⟩
 refine⟨h',?_,f⟩;unfold Ix Uw O5;simp only[aA,aN _ _ _ _ _ _ _ _ _ A,Bool.not_true,A.cG,fl,aJ,az,ay];rw[ai _ _ _ (by intro p aB k e;simp[bU,jN] at aB;rcases aB with rfl|rfl|rfl|rfl<;>simp at e<;>exact e.symm) rfl];rw[ai _ _ _ (by intro p aB k e;simp[bU,jN] at aB;rcases aB with rfl|rfl|rfl|rfl<;>simp at e<;>exact e.symm) rfl];simp only[aA,e];rw[ai _ _ _ (by intro p aB k e;simp[bU,jN] at aB;rcases aB with rfl|rfl|rfl|rfl<;>simp at e<;>exact e.symm) (f.same _ A.lt (λe=>e))];simp only[aA,vb,ak];rfl
end
structure eE where
 rt:Nat
 ro:Nat
 rb:Nat
 bs:Nat
structure bE (h:J) (R:eE) (n N:Nat) (on:Nat->Bool) (q:Nat->Option Nat) (b:Nat->Nat) (now:Int) (us:Nat->Bool) (rd:Nat->Nat->U):Prop where
 nU:1<=N
 gH:N<=4096
 ref:gw h R.rt R.ro R.rb n on q b
 a1:h.cell R.rt 2=some (I (N:Int))
 cm:h.cell R.rt 3=some (I now)
 cb:∃cap lo,h.cell R.rt 4=some (.aF R.bs 0 (N+1) cap lo)
 wt:h.wr R.rt 5
 wl:h.wr R.bs ((N+1)*308)
 j6:∀i c,i<N+1->c<308->h.cell R.bs (i*308+c)=some (rd i c)
 kN:∀i,i<N->rd (i+1) 0= .bool (us i)
 d1:R.bs≠R.rt
 d2:R.bs≠R.ro
 d3:R.bs≠R.rb
 d4:∀i k,i<n->q i=some k->k≠R.bs
 hg:R.bs<h.next
 sY:∀c,c<308->(rd 0 c).one=true
def sJ(R:eE)(n:Nat)(q:Nat->Option Nat)(j:Nat):Prop:=j=R.bs\/LN R.rt R.ro R.rb n q j
section
variable{lf:Nat}{h:J}{R:eE}{n N:Nat}{on:Nat->Bool}{q:Nat->Option Nat}{b:Nat->Nat}{now:Int}{us:Nat->Bool}{rd:Nat->Nat->U}
theorem bE.iq(A:bE h R n N on q b now us rd){j:Nat}(aa:sJ R n q j):j<h.next:=by
 rcases aa with rfl|aa
 ·exact A.hg
 ·exact A.ref.iq aa
theorem bE.gQ(A:bE h R n N on q b now us rd){h':J}{S:Nat->Prop}(F:aD h h' S)(ak:∀j,sJ R n q j->¬S j):bE h' R n N on q b now us rd:=by
 have st:ct h h' R.rt:=F.same _ A.ref.lt (ak _ (.inr (.inl rfl)));have aF:ct h h' R.bs:=F.same _ A.hg (ak _ (.inl rfl));exact⟨A.nU,A.gH,A.ref.gQ F λj aa=>ak j (.inr aa),by rw[st.cell];exact A.a1,by rw[st.cell];exact A.cm,let ⟨cap,lo,e⟩:=A.cb;⟨cap,lo,by rw[st.cell];exact e⟩,eP A.wt st,eP A.wl aF,λi c hi ae=>by rw[aF.cell];exact A.j6 i c hi ae,A.kN,A.d1,A.d2,A.d3,A.d4,Nat.lt_of_lt_of_le A.hg F.next,A.sY⟩
def No(C:ad):Prop:=∀h (n m:Int),iY h-> -9223372036854775808<=n->n<9223372036854775808-> -9223372036854775808<=m->m<9223372036854775808->
 ((n<1\/4096<n\/m<1\/4096<m)->C (.fn 44) [I n,I m] h=some (.ret (.bm [.val (.pointer none),I 22]),h))/\
 (1<=n->n<=4096->1<=m->m<=4096->∃h' R,C (.fn 44) [I n,I m] h=some (.ret (.bm [.ptr R.rt 0,I 0]),h')/\
   bE h' R n.toNat m.toNat (λ_=>false) (λ_=>none) (λ_=>0) 0 (λ_=>false) (λ_=>fJ)/\(∀j,sJ R n.toNat (λ_=>none) j->h.next<=j)/\aD h h' (λ_=>False))
theorem aBP{C:ad}(uP:Nn C){n m:Int}(au:iY h):
 ((n<1\/4096<n\/m<1\/4096<m)->Dt C lf (I n) (I m) h=some (.ret (.bm [.val (.pointer none),I 22]),h))/\
 (1<=n->n<=4096->1<=m->m<=4096->∃h' R,Dt C lf (I n) (I m) h=some (.ret (.bm [.ptr R.rt 0,I 0]),h')/\
   bE h' R n.toNat m.toNat (λ_=>false) (λ_=>none) (λ_=>0) 0 (λ_=>false) (λ_=>fJ)/\(∀j,sJ R n.toNat (λ_=>none) j->h.next<=j)/\aD h h' (λ_=>False)):=by
 unfold Dt UG O8;refine⟨λag=>?_,λh1 h2 h3 aT=>?_⟩
 ·by_cases bY:n<1
  ·simp only[aA,bu bY]
  ·by_cases b2:4096<n
   ·simp only[aA,br bY,bu b2]
   ·by_cases ht:m<1
    ·simp only[aA,br bY,br b2,bu ht]
    ·have kS:4096<m:=by omega
     simp only[aA,br bY,br b2,br ht,bu kS]
 ·have bY:¬n<1:=by omega
  have b2:¬4096<n:=by omega
  have ht:¬m<1:=by omega
  have kS:¬4096<m:=by omega
  obtain⟨M,rfl⟩:∃M:Nat,m=M:=⟨m.toNat,by omega⟩;obtain⟨n,rfl⟩:∃M:Nat,n=M:=⟨n.toNat,by omega⟩;simp only[aA,br bY,br b2,br ht,br kS,RY au];have iO:IntKind.i64.wrap ((M:Int)+1)=((M+1:Nat):Int):=cD (by omega);generalize yX:(⟨h.aO,h.next+10,h.aV⟩:J)=g0 at *;have uh:g0.next=h.next+10:=by rw[<- yX]
  have gX:aD h g0 (λ_=>False):=by rw[<- yX];exact⟨rfl,Nat.le_add_right _ _,λ_ _ _=>rfl,λau j aa=>au j (by have:h.next+10<=j:=aa;omega)⟩
  have yS:∀j,h.next<=j->g0.aV.get j=none:=λj aa=>by rw[<- yX];exact au j aa
  obtain⟨g1,y0,y1,ro,rb,az,V,aL,b4,cv⟩:=uP g0 n (by omega) (by omega) (gX.dm au);have cA:=aL.next
  have rj:∀(P:Prop) (i k:Nat),(λ_:Nat=>(none:Option Nat)) i=some k->P:=λP i k e=>by cases e
  have vC:∀j,xp ro rb n (λ_=>none) j->h.next+10<=j:=λj aa=>by
   rcases aa with rfl|rfl|⟨i,_,e⟩
   ·omega
   ·omega
   ·cases e
  have ug:=V.ug;have uf:=V.uf;have aX:(c1 (.agg ⟨zeroV⟩)).cells=fa fJ:=by kernel_rfl
  have hlen:(fa fJ).length=308:=by rw[fa,List.length_map,List.length_range]
  have kZ:=Yt (P:=ao) (t:=134) (s:=308) (b:=2464) (z:= .agg ⟨zeroV⟩) (k1:= .i64) (k2:= .i64) (l:=M+1) (c:=M+1) (base:=h.next) (i:=5) (h:=g1)
   Tryd.underlying134 (by kernel_rfl) (by kernel_rfl) (by kernel_rfl) (Nat.le_refl _) (by omega) (by omega) (by rw[aX,hlen]) (by omega)
  rw[aX] at kZ;obtain⟨jw,kj,rfl⟩:=V.av;obtain⟨lr,kF,rfl⟩:=V.az
  have my:gM ao 136 [0,1,3] [.agg [.aF ro 0 n jw kj,.aF rb 0 n lr kF],I (M:Int),.aF (h.next+5) 0 (M+1) (some (M+1)) 0]=
   some (.agg [.aF ro 0 n jw kj,.aF rb 0 n lr kF,I (M:Int),I 0,.aF (h.next+5) 0 (M+1) (some (M+1)) 0]):=by kernel_rfl
  have og:kI h.next (I ((M+1:Nat):Int))=true:=rfl
  generalize p1:iU _ ((M+1)*308) (fa fJ)=op at kZ;have asB:op.n=(M+1)*308:=by rw[<- p1];rfl
  have asC:op.ro=false:=by rw[<- p1];rfl
  generalize gf:g1.at (h.next+5) op=g2 at *;have ck:g2.next=g1.next:=by rw[<- gf];rfl
  have uA:∀j,j≠h.next+5->ct g1 g2 j:=λj aa=>by rw[<- gf];exact pQ _ _ aa
  have cV:g2.wr (h.next+5) ((M+1)*308):=by rw[<- gf, <- asB];exact Mn asC
  have fx:=uJ (e:=136) (x:= .agg [.aF ro 0 n jw kj,.aF rb 0 n lr kF,I (M:Int),I 0,.aF (h.next+5) 0 (M+1) (some (M+1)) 0]) (h:=g2) rfl;have o5:(U.agg [.aF ro 0 n jw kj,.aF rb 0 n lr kF,I (M:Int),I 0,.aF (h.next+5) 0 (M+1) (some (M+1)) 0]).cells=[.aF ro 0 n jw kj,.aF rb 0 n lr kF,I (M:Int),I 0,.aF (h.next+5) 0 (M+1) (some (M+1)) 0]:=rfl;rw[o5] at fx;generalize tR:cI _ [.aF ro 0 n jw kj,.aF rb 0 n lr kF,I (M:Int),I 0,.aF (h.next+5) 0 (M+1) (some (M+1)) 0]=or at fx;have R6:or.n=5:=by rw[<- tR];rfl
  have R7:or.ro=false:=by rw[<- tR];rfl
  have R8:∀i,or.get i=([.aF ro 0 n jw kj,.aF rb 0 n lr kF,I (M:Int),I 0,.aF (h.next+5) 0 (M+1) (some (M+1)) 0]:List U)[i]?:=λi=>by rw[<- tR,nK]
  generalize hF:g2.new or=g3 at *;have e6:g3.next=g2.next+1:=by rw[<- hF,e7]
  have nj:∀j,j≠g2.next->ct g2 g3 j:=λj aa=>by rw[<- hF];exact iT _ _ aa
  have fh:g3.wr g2.next 5:=by
   have:=hW (h:=g2) (o:=or) R7
   rw[R6,hF] at this;exact this
  have cm:∀i,g3.cell g2.next i=([.aF ro 0 n jw kj,.aF rb 0 n lr kF,I (M:Int),I 0,.aF (h.next+5) 0 (M+1) (some (M+1)) 0]:List U)[i]?:=λi=>by rw[<- hF,jx,R8]
  have akv:mi g3 (.aF ro 0 n jw kj) (.aF rb 0 n lr kF) ro rb n (λ_=>false) (λ_=>none) (λ_=>0):=V.frame (by omega) λj aa=>(nj j (by have:=V.iq aa;omega)).trans (uA j (by have:=vC j aa;omega))
  have Gh:g3.wr (h.next+5) ((M+1)*308):=eP cV (nj _ (by omega));refine⟨g3,⟨g2.next,ro,rb,h.next+5⟩,?_,?_,λj aa=>?_,?_⟩
  ·simp only[iO,az,og,Bool.and_self,wx,kZ,aA,my,fx]
  ·simp only[Int.toNat_natCast];refine⟨by omega,by omega,⟨⟨_,_,by rw[cm];rfl,by rw[cm];rfl,akv⟩,⟨5,by omega,fh⟩,by show g2.next≠ro;omega,by show g2.next≠rb;omega,λi k _ e=>rj _ i k e,by show g2.next<_;omega⟩,by rw[cm];rfl,by rw[cm];rfl,⟨_,_,by rw[cm];rfl⟩,fh,Gh,λi c hi ae=>?_,λi _=>rfl,by show h.next+5≠g2.next;omega,by show h.next+5≠ro;omega,by show h.next+5≠rb;omega,λi k _ e=>rj _ i k e,by show h.next+5<_;omega,λc _=>by unfold fJ;split<;>rfl⟩;have a9:i*308+c<(M+1)*308:=by omega
   have Eh:(i*308+c)%308=c:=by omega
   show g3.cell (h.next+5) _=_;rw[(nj _ (by omega)).cell, <- gf,Ob, <- p1,zL _ _ a9,hlen,Eh,fa,List.getElem?_map,List.getElem?_range ae];rfl
  ·rcases aa with rfl|rfl|aa
   ·show h.next<=h.next+5;omega
   ·show h.next<=g2.next;omega
   ·have:=vC j (by simpa only[Int.toNat_natCast] using aa);omega
  ·refine⟨?_,by omega,λj aa _=>?_,λau=>?_⟩
   ·rw[<- hF, <- gf];exact aL.aO.trans gX.aO
   ·exact(nj j (by omega)).trans ((uA j (by omega)).trans ((aL.same j (by omega) (λe=>e)).trans (gX.same j aa (λe=>e))))
   ·have h1:=aL.dm (gX.dm au);rw[<- hF];refine qI (λj aa=>?_) _;rw[<- gf,uY,if_neg (by omega)];exact h1 j (by omega)
end
section
variable{lf:Nat}{h:J}{R:eE}{n N:Nat}{on:Nat->Bool}{q:Nat->Option Nat}{b:Nat->Nat}{now:Int}{us:Nat->Bool}{rd:Nat->Nat->U}
def Ha(C:ad):Prop:=∀h R n N on q b now us rd,bE h R n N on q b now us rd->∃x h',C (.fn 84) [.ptr R.rt 0] h=some (.ret x,h')/\eQ h h' x (fc us N)/\aD h h' (λ_=>False)
theorem XB{C:ad}{lf:Nat}{h0:J}(A:bE h0 R n N on q b now us rd)(av:aw):∀(d i:Nat),i+d=N->∀f,d<f->∀h x,eQ h0 h x (fc us i)->aD h0 h (λ_=>False)->
 ∃bF h',bk (BO C lf av) f (some (.ptr R.rt 0),some x,some (I ((i+1:Nat):Int))) h=av (some bF) h'/\eQ h0 h' bF (fc us N)/\aD h0 h' (λ_=>False)
 |0,i,hw,f,au,h,x,c6,F=>by
  obtain⟨f,rfl⟩:=dx f (by omega)
  have:i=N:=by omega
  subst this;have iW:=A.gQ F λ_ _ e=>e
  refine⟨x,h,?_,c6,F⟩;rw[df];unfold BO FD;have a9:decide (((i+1:Nat):Int)<=(i:Int))=false:=br (by omega);simp only[aA,iW.a1,a9]
 |d+1,i,hw,f,au,h,x,c6,F=>by
  obtain⟨f,rfl⟩:=dx f (by omega);have iW:=A.gQ F λ_ _ e=>e
  have h2:=A.gH;obtain⟨cap,lo,cb⟩:=iW.cb;have a9:decide (((i+1:Nat):Int)<=(N:Int))=true:=bu (by omega);have dr:IntKind.i64.wrap (((i+1:Nat):Int)+1)=((i+1+1:Nat):Int):=cD (by omega);have bW:=gA (s:=308) (k:=R.bs) (off:=0) (len:=N+1) (lo:=lo) (cap:=cap) (kd:= .i64) (i:=((i+1:Nat):Int)) (by omega) (by omega);rw[Int.toNat_natCast,Nat.zero_add] at bW;have ae:=iW.j6 (i+1) 0 (by omega) (by omega);rw[Nat.add_zero,iW.kN i (by omega)] at ae;rw[df];show ∃bF h',FD C lf (λx0 x3 bC h=>bk (BO C lf av) f (x0,x3,bC) h) av (some (.ptr R.rt 0)) (some x) (some (I ((i+1:Nat):Int))) h=av (some bF) h'/\_;unfold FD;cases aq:us i with
  |false=>
   rw[aq] at ae;simp only[aA,iW.a1,a9,cb,bW,Nat.add_zero,ae,dr];have e:fc us (i+1)=fc us i:=by rw[Mi,aq];simp
   exact XB A av d (i+1) (by omega) f (by omega) h x (by rw[e];exact c6) F
  |true=>
   rw[aq] at ae;have e:fc us (i+1)=fc us i++[i+1]:=by rw[Mi,aq];rfl
   have aJ:=Cm us i;obtain⟨bF,h',aj,aC,a8,cF,dK,dH,fE,h4⟩:=tk (y:=I ((i+1:Nat):Int)) ti rfl rfl rfl c6.aF (by omega) (by omega);simp only[aA,iW.a1,a9,cb,bW,Nat.add_zero,ae,dr,aj,aC];refine XB A av d (i+1) (by omega) f (by omega) h' bF ⟨?_,λj aa=>?_⟩ ⟨dK.trans F.aO,Nat.le_trans F.next cF,λj aa _=>(dH j (Nat.lt_of_lt_of_le aa F.next) (λaQ=>absurd (c6.new j aQ) (by omega))).trans (F.same j aa (λe=>e)),λau=>h4 (F.dm au)⟩
   ·rw[e]
    have:ints (fc us i++[i+1])=ints (fc us i)++[I ((i+1:Nat):Int)]:=by simp[ints]
    rw[this,List.length_append];exact a8
   ·rcases fE j aa with aQ|aQ
    ·exact c6.new j aQ
    ·exact Nat.le_trans F.next aQ
theorem aCq{C:ad}(gy:4098<=lf)(A:bE h R n N on q b now us rd):∃x h',I1 C lf (.ptr R.rt 0) h=some (.ret x,h')/\eQ h h' x (fc us N)/\aD h h' (λ_=>False):=by
 have h2:=A.gH;obtain⟨bF,h',b4,cv,l2⟩:=XB (lf:=lf) (C:=C) A (λx3 h=>Le C lf H9 x3 h) N 0 (by omega) lf (by omega) h (.val (.slice none 0 0)) ⟨ha.nil _ _ _,λj aa=>by cases aa⟩ (aD.refl h _);refine⟨bF,h',?_,cv,l2⟩;unfold I1 Ws Wr Wq Wp Wo Wn Wm;refine Eq.trans b4 ?_;unfold Le H9;simp only[cf,b8]
def Np(C:ad):Prop:=∀h R n N on q b now us rd,bE h R n N on q b now us rd->∃h',C (.fn 80) [.ptr R.rt 0] h=some (.ret (xo n (n-(eW on n).length) N (N-(fc us N).length)),h')/\aD h h' (λ_=>False)
theorem aCd{C:ad}(hle:G2 C)(hu:Ha C)(A:bE h R n N on q b now us rd):∃h',IY C lf (.ptr R.rt 0) h=some (.ret (xo n (n-(eW on n).length) N (N-(fc us N).length)),h')/\aD h h' (λ_=>False):=by
 obtain⟨x,h',e,a,f⟩:=hu _ _ _ _ _ _ _ _ _ _ A;have jQ:=A.gH;have Q2:=Cm us N;obtain⟨x0,x1,cG,aP,V⟩:=A.ref.v;obtain⟨cap,lo,rfl⟩:=V.av;have aJ:=ue (k:=R.ro) (off:=0) (len:=n) (cap:=cap) (lo:=lo) Tryd.underlying41;have vb:=ae1 a;have ak:IntKind.i64.wrap ((N:Int)-((fc us N).length:Int))=((N-(fc us N).length:Nat):Int):=cD (by omega);have ay:=hle _ _ _ _ _ _ _ _ A.ref
 have ai:∀{h1:J} (bJ:List (Nat×Option Nat)) (ls:List Nat) (r:ab),(∀p∈bJ,∀k,p.2=some k->k=R.rt)->ct h h1 R.rt->dM (ey bJ h h1 ls) r=r:=λbJ ls r aB ak=>AO λp nc k e=>by
  have:=aB p nc k e
  subst this;exact⟨A.ref.lt,vF A.wt,ak⟩
 refine⟨h',?_,f⟩;unfold IY Wf Pz;simp only[aA,cG,aJ,A.a1,ay];rw[ai _ _ _ (by intro p aB k e;simp[bU,jN] at aB;rcases aB with rfl|rfl|rfl<;>simp at e<;>exact e.symm) rfl];simp only[aA,e];rw[ai _ _ _ (by intro p aB k e;simp[bU,jN] at aB;rcases aB with rfl|rfl|rfl<;>simp at e<;>exact e.symm) (f.same _ A.ref.lt (λe=>e))];simp only[aA,vb,ak];rfl
def vZ(C:ad):Prop:=∀h (e:Int),C (.fn 34) [I e] h=some (.ret (I e),h)
theorem asn{C:ad}{e:Int}:Iw C lf (I e) h=some (.ret (I e),h):=by
 unfold Iw Uf O3;simp only[aA]
theorem ahM(n l N u:Nat):ext 0 (xo n l N u)=some (I (n:Int))/\ext 1 (xo n l N u)=some (I (l:Int))/\ext 2 (xo n l N u)=some (I (N:Int))/\ext 3 (xo n l N u)=some (I (u:Int)):=⟨rfl,rfl,rfl,rfl⟩
def Nu(C:ad):Prop:=∀h T R n N wd b b' q now us nd RX eh rd,bt h T n N wd b now us nd->bE h R n N (bP wd) q b' RX eh rd->(fc us N).length=(fc eh N).length->
 ∃h',C (.fn 45) [.ptr T.a3 0,.ptr R.rt 0] h=some (.ret (.bool true),h')/\aD h h' (λ_=>False)
theorem aBS{C:ad}{T:dS}{wd b':Nat->Nat}{RX:Int}{eh:Nat->Bool}{nd:Nat->Nat->U}(aQ:Nt C)(aqt:Np C)(A:bt h T n N wd b now us nd)(B:bE h R n N (bP wd) q b' RX eh rd)(aJ:(fc us N).length=(fc eh N).length):
 ∃h',IA C lf (.ptr T.a3 0) (.ptr R.rt 0) h=some (.ret (.bool true),h')/\aD h h' (λ_=>False):=by
 obtain⟨h1,az,aL⟩:=aQ _ _ _ _ _ _ _ _ _ A;obtain⟨h2,ay,bw⟩:=aqt _ _ _ _ _ _ _ _ _ _ (B.gQ aL λ_ _ e=>e);obtain⟨afY,bM,cz,fr⟩:=ahM n (n-(iV wd n).length) N (N-(fc us N).length);obtain⟨gj,dd,dy,fB⟩:=ahM n (n-(eW (bP wd) n).length) N (N-(fc us N).length);have d1:(((n-(eW (bP wd) n).length:Nat):Int))=((n-(iV wd n).length:Nat):Int):=rfl;rw[d1] at dd;refine⟨h2,?_,aL.trans bw⟩;unfold IA UH O9;rw[<- aJ] at ay;simp only[cf,b8,ks,az,ay,afY,bM,cz,fr,gj,dd,dy,fB,NZ,decide_true,Qh,Yu]
end
section
theorem aaV{P:Program}{t e:TypeId}{k off:Nat}(hu:P.underlying t=some (.pointer e)):bin P .eql t (.ptr k off) (.val (.pointer none))=some (.bool false):=alG hu
variable{lf:Nat}{C:ad}
end
structure dC where
 wd:Nat->Nat
 b:Nat->Nat
 nd:Nat->Nat->U
 bl:Nat->Nat->Nat
def rl(wd:Nat->Nat)(j:Nat):Nat->Nat:=da wd (j/64) (ru (wd (j/64)) (j%64))
def dC.take(s:dC)(i c j:Nat):dC:=⟨rl s.wd j,gF s.b j,cU s.nd i c (I ((j+1:Nat):Int)),kp s.bl i c (j+1)⟩
def dC.back(s:dC)(i c:Nat):dC:=⟨xa s.wd (s.bl i c-1),s.b,cU s.nd i c (I 0),kp s.bl i c 0⟩
def er(i:Nat)(bf:List Nat)(s:dC):dC:=bf.foldl (λs c=>s.back i c) s
def low(n:Nat)(wd:Nat->Nat):Option Nat:=(List.range n).find? λj=>!bP wd j
theorem afh{n:Nat}{wd:Nat->Nat}(h:low n wd=none):∀j,j<n->bP wd j=true:=λj aa=>by
 have:=List.find?_eq_none.1 h j (List.mem_range.2 aa)
 simpa using this
theorem RP{n:Nat}{wd:Nat->Nat}{i:Nat}(h:low n wd=some i):i<n/\bP wd i=false/\∀j,j<i->bP wd j=true:=by
 unfold low at h;obtain⟨h1,b4,cv,h2,h3⟩:=List.find?_eq_some_iff_append.1 h;have hi:i∈List.range n:=by rw[h2];simp
 have jj:=List.mem_range.1 hi;refine⟨jj,by simpa using h1,λj aa=>?_⟩
 have aJ:b4.length=i:=by
  have aT:(List.range n)[b4.length]?=some i:=by rw[h2];simp
  have bz:b4.length<n:=by
   have bA:=(List.getElem?_eq_some_iff.1 aT).1;simpa using bA
  rw[List.getElem?_range bz] at aT;simpa using aT
 have dN:j∈b4:=by
  have e0:(List.range n)[j]?=some j:=List.getElem?_range (by omega);rw[h2,List.getElem?_append_left (by omega)] at e0;exact List.mem_of_getElem? e0
 simpa using h3 j dN
def dq(n i:Nat):List Nat->dC->List Nat->dC×List Nat×Bool
 | [],s,bf=>(s,bf,true)
 |c::cs,s,bf=>if 0<s.bl i c then dq n i cs s bf else match low n s.wd with
  |none=>(s,bf,false)
  |some j=>dq n i cs (s.take i c j) (bf++[c])
section
variable{h h':J}{T:dS}{n N:Nat}{wd b de b':Nat->Nat}{now:Int}{us:Nat->Bool}{nd:Nat->Nat->U}{bl:Nat->Nat->Nat}{i c j:Nat}
theorem J8(_:∀i,wd i<2 ^ 64){j fp:Nat}:bP (rl wd j) fp=(bP wd fp||decide (fp=j)):=by
 unfold rl;rw[afO];split
 ·rename_i e;rw[agb];unfold bP;rw[e];congr 1;by_cases h:fp=j
  ·subst h;simp
  ·have:fp%64≠j%64:=by omega
   simp[h,this]
 ·rename_i e
  have:fp≠j:=λh=>e (by rw[h])
  simp[this]
theorem afQ(hw:∀i,wd i<2 ^ 64)(j:Nat):∀i,rl wd j i<2 ^ 64:=λi=>by
 unfold rl;by_cases e:i=j/64
 ·subst e;rw[jE];exact agc (hw _) (Nat.mod_lt _ (by omega))
 ·rw[ho _ _ e];exact hw i
theorem asu(hw:∀i,wd i<2 ^ 64)(j:Nat):∀i,xa wd j i<2 ^ 64:=λi=>by
 unfold xa;by_cases e:i=j/64
 ·subst e;rw[jE];exact Nat.and_lt_two_pow _ (by have:2 ^ (j%64)>0:=Nat.two_pow_pos _;omega)
 ·rw[ho _ _ e];exact hw i
theorem aE3(h1:∀i,wd i<2 ^ 64)(h2:∀i,de i<2 ^ 64)(h:∀j,bP wd j=bP de j):wd=de:=by
 funext i
 apply Nat.eq_of_testBit_eq;intro c;by_cases ae:c<64
 ·have:=h (i*64+c)
  unfold bP at this;rw[show(i*64+c)/64=i by omega,show(i*64+c)%64=c by omega] at this;exact this
 ·rw[Nat.testBit_lt_two_pow (Nat.lt_of_lt_of_le (h1 i) (Nat.pow_le_pow_right (by omega) (by omega))),Nat.testBit_lt_two_pow (Nat.lt_of_lt_of_le (h2 i) (Nat.pow_le_pow_right (by omega) (by omega)))]
theorem c3.take(M:c3 n N wd nd bl)(hw:∀i,wd i<2 ^ 64)(hi:i<N)(dF:12<=c)(ae:c<308)(aa:j<n)(jT:bP wd j=false):
 c3 n N (rl wd j) (cU nd i c (I ((j+1:Nat):Int))) (kp bl i c (j+1)):=by
 have ca:∀i' a4,i'<N->12<=a4->a4<308->bl i' a4≠j+1:=λi' a4 aj aC a8 e=>by
  have:=M.on i' a4 aj aC a8 (by omega)
  rw[e,Nat.add_sub_cancel,jT] at this;cases this
 refine⟨λi' a4 cH n9 fk=>?_,λi' a4=>?_,λi' a4 cH n9 fk aB=>?_,λi1 aP i2 a1 nB h1 fl nC h2 m6 aB he=>?_⟩
 ·by_cases e:i'=i/\a4=c
  ·obtain⟨rfl,rfl⟩:=e;rw[mO,sQ]
  ·rw[hn _ _ (by omega),nM _ _ (by omega)];exact M.cell i' a4 cH n9 fk
 ·unfold kp;split
  ·omega
  ·exact M.le i' a4
 ·rw[J8 hw];by_cases e:i'=i/\a4=c
  ·obtain⟨rfl,rfl⟩:=e;rw[sQ,Nat.add_sub_cancel];simp
  ·rw[nM _ _ (by omega)] at aB⊢;rw[M.on i' a4 cH n9 fk aB];rfl
 ·by_cases az:i1=i/\aP=c
  ·by_cases ay:i2=i/\a1=c
   ·omega
   ·obtain⟨rfl,rfl⟩:=az;rw[sQ,nM _ _ (by omega)] at he;exact absurd he.symm (ca i2 a1 nC h2 m6)
  ·rw[nM _ _ (by omega)] at aB he;by_cases ay:i2=i/\a1=c
   ·obtain⟨rfl,rfl⟩:=ay;rw[sQ] at he;exact absurd he (ca i1 aP nB h1 fl)
   ·rw[nM _ _ (by omega)] at he;exact M.inj i1 aP i2 a1 nB h1 fl nC h2 m6 aB he
end
inductive oP (n i:Nat) (gk:dC):List Nat->dC->Prop
 |nil:oP n i gk [] gk
 |snoc {bf:List Nat} {s:dC} {c j:Nat}:oP n i gk bf s->s.bl i c=0->12<=c->c<308->j<n->bP s.wd j=false->oP n i gk (bf++[c]) (s.take i c j)
section
variable{n N i:Nat}{gk s:dC}{bf:List Nat}
structure akr (n N i:Nat) (gk:dC) (bf:List Nat) (s:dC):Prop where
 M:c3 n N s.wd s.nd s.bl
 iF:∀j,s.wd j<2 ^ 64
 out:∀i' c,i'≠i\/c ∉ bf->s.bl i' c=gk.bl i' c
 Sb:∀i' c,i'≠i\/c ∉ bf->s.nd i' c=gk.nd i' c
 pw:∀c,c∈bf->gk.bl i c=0/\12<=c/\c<308/\0<s.bl i c/\bP gk.wd (s.bl i c-1)=false/\s.bl i c<=n
 on:∀j,bP s.wd j=true↔(bP gk.wd j=true\/∃c,c∈bf/\s.bl i c=j+1)
 C1:∀p,bP gk.wd (p/64)=true->s.b p=gk.b p
 z:∀c,c∈bf->∀t,t<64->s.b ((s.bl i c-1)*64+t)=0
 e1:bf.Nodup
 amB:((List.range n).filter (bP s.wd)).length=((List.range n).filter (bP gk.wd)).length+bf.length
theorem aam{n j:Nat}{f g:Nat->Bool}(aa:j<n)(au:f j=false)(bc:∀k,g k=(f k||decide (k=j))):((List.range n).filter g).length=((List.range n).filter f).length+1:=by
 induction n with
 |zero=>omega
 |succ n bp=>
  rw[List.range_succ,List.filter_append,List.filter_append,List.length_append,List.length_append];by_cases e:j=n
  ·subst e
   have h1:(List.range j).filter g=(List.range j).filter f:=List.filter_congr λk ai=>by
    have:=List.mem_range.1 ai
    rw[bc];simp;omega
   rw[h1];simp[List.filter,au,bc]
  ·rw[bp (by omega)];have h2:g n=f n:=by rw[bc];simp;omega
   simp only[List.filter,h2];omega
theorem oP.props(t:oP n i gk bf s)(hi:i<N)(M:c3 n N gk.wd gk.nd gk.bl)(hw:∀j,gk.wd j<2 ^ 64):akr n N i gk bf s:=by
 induction t with
 |nil=>exact⟨M,hw,λ_ _ _=>rfl,λ_ _ _=>rfl,λc ae=>(by cases ae),λj=>(by simp),λ_ _=>rfl,λc ae=>(by cases ae),List.nodup_nil,(by simp)⟩
 | @snoc bf s c j t h0 dF ae aa jT bp=>
   have sh:c ∉ bf:=λe=>by have:=(bp.pw c e).2.2.2.1;omega
   have aes:bP gk.wd j=false:=by
    cases ag:bP gk.wd j with
    |false=>rfl
    |true=>have:=(bp.on j).2 (.inl ag);rw[jT] at this;cases this
   have oa:∀a4,a4∈bf->(s.take i c j).bl i a4=s.bl i a4:=λa4 fk=>nM _ _ (.inr λe=>sh (e▸fk))
   have DW:(s.take i c j).bl i c=j+1:=sQ _ _ _ _;refine⟨bp.M.take bp.iF hi dF ae aa jT,afQ bp.iF j,λi' a4 h=>?_,λi' a4 h=>?_,λa4 h=>?_,λfp=>?_,λp aB=>?_,λa4 h t aN=>?_,?_,?_⟩
   ·have:i'≠i\/a4≠c:=by
     rcases h with h|h
     ·exact .inl h
     ·exact .inr λe=>h (by simp[e])
    show kp s.bl i c (j+1) i' a4=_;rw[nM _ _ this];exact bp.out i' a4 (h.imp id λh e=>h (by simp[e]))
   ·have:i'≠i\/a4≠c:=by
     rcases h with h|h
     ·exact .inl h
     ·exact .inr λe=>h (by simp[e])
    show cU s.nd i c _ i' a4=_;rw[hn _ _ this];exact bp.Sb i' a4 (h.imp id λh e=>h (by simp[e]))
   ·rcases List.mem_append.1 h with h|h
    ·rw[oa a4 h];exact bp.pw a4 h
    ·have e:a4=c:=by simpa using h
     subst e;rw[DW,Nat.add_sub_cancel];exact⟨by rw[<- bp.out i a4 (.inr sh)];exact h0,dF,ae,by omega,aes,by omega⟩
   ·show bP (rl s.wd j) fp=true↔_;rw[J8 bp.iF,Bool.or_eq_true,bp.on fp,decide_eq_true_eq];constructor
    ·rintro ((e|⟨a4,az,ay⟩)|e)
     ·exact .inl e
     ·exact .inr ⟨a4,by simp[az],by rw[oa a4 az];exact ay⟩
     ·exact .inr ⟨c,by simp,by rw[DW,e]⟩
    ·rintro (e|⟨a4,az,ay⟩)
     ·exact .inl (.inl e)
     ·rcases List.mem_append.1 az with h|h
      ·exact .inl (.inr ⟨a4,h,by rw[<- oa a4 h];exact ay⟩)
      ·have e:a4=c:=by simpa using h
       subst e;rw[DW] at ay;exact .inr (by omega)
   ·show gF s.b j p=_;unfold gF
    rw[if_neg λe=>by
     have:p/64=j:=by omega
     rw[this,aes] at aB;cases aB]
    exact bp.C1 p aB
   ·show gF s.b j _=0;unfold gF;rcases List.mem_append.1 h with h|h
    ·rw[oa a4 h];split
     ·rfl
     ·exact bp.z a4 h t aN
    ·have e:a4=c:=by simpa using h
     subst e;rw[DW,if_pos (by omega)]
   ·exact List.nodup_append.2 ⟨bp.e1,by simp,λa bV b ag e=>sh (by
     have:b=c:=by simpa using ag
     rw[<- this, <- e];exact bV)⟩
   ·show((List.range n).filter (bP (rl s.wd j))).length=_;rw[aam (g:=bP (rl s.wd j)) aa jT λk=>J8 bp.iF,bp.amB,List.length_append];rfl
theorem NX:∀(bf:List Nat) (s:dC),bf.Nodup->(∀j,s.wd j<2 ^ 64)->(∀c,c∈bf->0<s.bl i c)->
 (∀j,(er i bf s).wd j<2 ^ 64)/\(er i bf s).b=s.b/\(∀i' c,(er i bf s).bl i' c=if i'=i/\c∈bf then 0 else s.bl i' c)/\(∀i' c,(er i bf s).nd i' c=if i'=i/\c∈bf then I 0 else s.nd i' c)/\
   (∀j,bP (er i bf s).wd j=true↔(bP s.wd j=true/\∀c,c∈bf->s.bl i c≠j+1))
 | [],s,_,hw,_=>⟨hw,rfl,λi' c=>by simp[er],λi' c=>by simp[er],λj=>by simp[er]⟩
 |c::bf,s,aR,hw,aB=>by
  obtain⟨zb,fG⟩:=List.nodup_cons.1 aR;have ca:∀a4,a4∈bf->(s.back i c).bl i a4=s.bl i a4:=λa4 h=>nM _ _ (.inr λe=>zb (e▸h))
  obtain⟨aj,aC,a8,cF,dK⟩:=NX bf (s.back i c) fG (asu hw _) λa4 h=>by rw[ca a4 h];exact aB a4 (by simp[h])
  have ae:=aB c (by simp);refine⟨aj,aC,λi' a4=>?_,λi' a4=>?_,λj=>?_⟩
  ·show(er i bf (s.back i c)).bl i' a4=_;rw[a8];by_cases e:i'=i/\a4∈bf
   ·rw[if_pos e,if_pos ⟨e.1,by simp[e.2]⟩]
   ·rw[if_neg e];show kp s.bl i c 0 i' a4=_;unfold kp;by_cases ay:i'=i/\a4=c
    ·rw[if_pos ay,if_pos ⟨ay.1,by simp[ay.2]⟩]
    ·rw[if_neg ay,if_neg λh=>by
      rcases List.mem_cons.1 h.2 with h3|h3
      ·exact ay ⟨h.1,h3⟩
      ·exact e ⟨h.1,h3⟩]
  ·show(er i bf (s.back i c)).nd i' a4=_;rw[cF];by_cases e:i'=i/\a4∈bf
   ·rw[if_pos e,if_pos ⟨e.1,by simp[e.2]⟩]
   ·rw[if_neg e];show cU s.nd i c (I 0) i' a4=_;unfold cU;by_cases ay:i'=i/\a4=c
    ·rw[if_pos ay,if_pos ⟨ay.1,by simp[ay.2]⟩]
    ·rw[if_neg ay,if_neg λh=>by
      rcases List.mem_cons.1 h.2 with h3|h3
      ·exact ay ⟨h.1,h3⟩
      ·exact e ⟨h.1,h3⟩]
  ·show bP (er i bf (s.back i c)).wd j=true↔_;rw[dK];show(bP (xa s.wd (s.bl i c-1)) j=true/\_)↔_;rw[R1 hw,Bool.and_eq_true,decide_eq_true_eq];constructor
   ·rintro ⟨⟨az,ay⟩,b9⟩
    refine⟨az,λa4 h=>?_⟩;rcases List.mem_cons.1 h with rfl|h
    ·omega
    ·rw[<- ca a4 h];exact b9 a4 h
   ·rintro ⟨az,ay⟩
    refine⟨⟨az,λe=>ay c (by simp) (by omega)⟩,λa4 h=>?_⟩;rw[ca a4 h];exact ay a4 (by simp[h])
theorem oP.aEH(t:oP n i gk bf s)(hi:i<N)(M:c3 n N gk.wd gk.nd gk.bl)(hw:∀j,gk.wd j<2 ^ 64):
 (er i bf s).wd=gk.wd/\(er i bf s).nd=gk.nd/\(er i bf s).bl=gk.bl/\∀p,bP gk.wd (p/64)=true->(er i bf s).b p=gk.b p:=by
 have P:=t.props hi M hw;obtain⟨aj,aC,a8,cF,dK⟩:=NX (i:=i) bf s P.e1 P.iF λc h=>(P.pw c h).2.2.2.1
 refine⟨aE3 aj hw λj=>?_,?_,?_,λp aB=>by rw[aC];exact P.C1 p aB⟩
 ·rw[Bool.eq_iff_iff,dK,P.on];constructor
  ·rintro ⟨e|⟨c,az,ay⟩,b9⟩
   ·exact e
   ·exact absurd ay (b9 c az)
  ·intro e;refine⟨.inl e,λc h ay=>?_⟩
   have:=(P.pw c h).2.2.2.2.1
   rw[ay,Nat.add_sub_cancel,e] at this;cases this
 ·funext i' c
  rw[cF];by_cases e:i'=i/\c∈bf
  ·rw[if_pos e,e.1];obtain⟨cP,cV,fh,_⟩:=P.pw c e.2;rw[M.cell i c hi cV fh,cP];rfl
  ·rw[if_neg e];exact P.Sb i' c (by by_cases h:i'=i;exact .inr λh2=>e ⟨h,h2⟩;exact .inl h)
 ·funext i' c
  rw[a8];by_cases e:i'=i/\c∈bf
  ·rw[if_pos e,e.1,(P.pw c e.2).1]
  ·rw[if_neg e];exact P.out i' c (by by_cases h:i'=i;exact .inr λh2=>e ⟨h,h2⟩;exact .inl h)
theorem yC:∀(cs:List Nat) (s:dC) (bf:List Nat),oP n i gk bf s->(∀c,c∈cs->12<=c/\c<308)->oP n i gk (dq n i cs s bf).2.1 (dq n i cs s bf).1
 | [],s,bf,t,_=>t
 |c::cs,s,bf,t,ae=>by
  unfold dq;by_cases e:0<s.bl i c
  ·rw[if_pos e];exact yC cs s bf t λa4 h=>ae a4 (by simp[h])
  ·rw[if_neg e];cases aJ:low n s.wd with
   |none=>exact t
   |some j=>
    obtain⟨b4,cv,_⟩:=RP aJ;exact yC cs _ _ (.snoc t (by omega) (ae c (by simp)).1 (ae c (by simp)).2 b4 cv) λa4 h=>ae a4 (by simp[h])
theorem PL:∀(cs:List Nat) (s:dC) (bf:List Nat),(dq n i cs s bf).2.2=false->(∀j,j<n->bP (dq n i cs s bf).1.wd j=true)/\(dq n i cs s bf).2.1.length<bf.length+cs.length
 | [],s,bf,h=>by cases h
 |c::cs,s,bf,h=>by
  unfold dq at h⊢;by_cases e:0<s.bl i c
  ·rw[if_pos e] at h⊢;obtain⟨h1,h2⟩:=PL cs s bf h;exact⟨h1,by simp only[List.length_cons];omega⟩
  ·rw[if_neg e] at h⊢;cases aJ:low n s.wd with
   |none=>exact⟨afh aJ,by simp only[List.length_cons];omega⟩
   |some j=>
    rw[aJ] at h;obtain⟨h1,h2⟩:=PL cs _ _ h;exact⟨h1,by simp only[List.length_append,List.length_cons,List.length_nil] at h2⊢;omega⟩
theorem Ia:∀(cs:List Nat) (s:dC) (bf:List Nat),(dq n i cs s bf).2.2=true->(∀c,0<s.bl i c->0<(dq n i cs s bf).1.bl i c)/\(∀c,c∈cs->0<(dq n i cs s bf).1.bl i c)
 | [],s,bf,_=>⟨λ_ h=>h,λc h=>by cases h⟩
 |c::cs,s,bf,h=>by
  unfold dq at h⊢;by_cases e:0<s.bl i c
  ·rw[if_pos e] at h⊢;obtain⟨h1,h2⟩:=Ia cs s bf h;refine⟨h1,λa4 ae=>?_⟩;rcases List.mem_cons.1 ae with rfl|ae
   ·exact h1 a4 e
   ·exact h2 a4 ae
  ·rw[if_neg e] at h⊢;cases aJ:low n s.wd with
   |none=>rw[aJ] at h;cases h
   |some j=>
    rw[aJ] at h;obtain⟨h1,h2⟩:=Ia cs _ _ h
    have h3:0<(s.take i c j).bl i c:=by
     show 0<kp s.bl i c (j+1) i c;rw[sQ];omega
    refine⟨λa4 aB=>h1 a4 ?_,λa4 ae=>?_⟩
    ·show 0<kp s.bl i c (j+1) i a4;unfold kp;split
     ·omega
     ·exact aB
    ·rcases List.mem_cons.1 ae with rfl|ae
     ·exact h1 a4 h3
     ·exact h2 a4 ae
end
theorem alg{P:Program}{h:J}{t u e sz b k off len lo n:Nat}{y:U}{olds news:List U}(T:mf P t u e sz b)(hm:∃m,h.mt k=some m)(aq:h.cells k off (len*sz)=some olds)(he:jv h.x0 sz y=some (n,news))(gq:news.length=n*sz)
 (fm:dB news=true)(aR:1<=n)(ae:len+n<=140737488355328)(qT:(len+n)*b<=140737488355328):
 eX P .append #[t,u] [.aF k off len (some len) lo,y] h=some (.aF h.next 0 (len+n) none 0,h.new (kH e sz (olds++news))):=by
 rw[Cx T he gq fm];obtain⟨m,hm⟩:=hm;unfold J.mt at hm;cases hS:h.aV.get k with
 |none=>simp[hS] at hm
 |some o=>
  have bY:Nat.ble (len+n) len=false:=by
   cases ag:Nat.ble (len+n) len with
   |false=>rfl
   |true=>exact absurd (Nat.le_of_ble_eq_true ag) (by omega)
  have aJ:kG o off (len*sz)=some olds:=by rw[zw hS];exact aq
  simp only[kR,J.py,hS,force_eq,bY,cond_false,aJ];exact Hu ae qT
abbrev mw:Nat:=0
noncomputable def n4:TypeId:=match ao.underlying 143 with
 |some (.slice e)=>e
 |_=>0
theorem rX:mf ao 143 143 n4 1 8:=
 ⟨by kernel_rfl,by kernel_rfl,⟨.pointer none,by kernel_rfl,rfl⟩,by kernel_rfl,⟨_,Tryd.underlying143,rfl⟩,Nat.le_refl 1⟩
theorem hE.same{h h':J}(A:hE h)(s:ct h h' mw)(aR:h'.aO=h.aO):hE h':=⟨by rw[aR];exact A.1,λi hi=>by rw[s.cell];exact A.2 i hi⟩
theorem hE.dm{h h':J}{S:Nat->Prop}(A:hE h)(F:aD h h' S)(aR:mw<h.next)(ak:¬S mw):hE h':=A.same (F.same _ aR ak) F.aO
def jY(aK i:Nat)(cs:List Nat):List U:=cs.map λc=>U.ptr aK (i*308+c)
structure akf (T:dS):Prop where
 s:mw≠T.bL
 d:mw≠T.kd
 n:mw≠T.aK
structure xW (h0 h:J) (T:dS) (n N:Nat) (now:Int) (us:Nat->Bool) (s:dC) (i hL fN:Nat) (bf:List Nat):Prop where
 A:bt h T n N s.wd s.b now us s.nd
 M:c3 n N s.wd s.nd s.bl
 jt:hE h
 F:aD h0 h (λj=>j=T.bL\/j=T.kd\/j=T.aK)
 cm:h.cell hL 0=some (.ptr T.a3 0)
 e6:h0.next<=hL
 l2:hL<h.next
 mn:∃x,h.cell fN 0=some x/\ha h n4 1 x bf.length (jY T.aK i bf)/\∀j,rowOf x=some j->h0.next<=j/\j≠hL/\j≠fN
 Gi:h.wr fN 1
 sD:h0.next<=fN
 RC:fN<h.next
 d:hL≠fN
structure nV (h0:J) (T:dS):Prop where
 t:T.a3<h0.next
 s:T.bL<h0.next
 d:T.kd<h0.next
 n:T.aK<h0.next
 g:mw<h0.next
 aO:akf T
section
variable{lf:Nat}{h0 h:J}{T:dS}{n N:Nat}{now:Int}{us:Nat->Bool}{s:dC}{i hL fN:Nat}{bf:List Nat}
theorem aod{C:ad}(nO:Cy C)(O:nV h0 T)(hi:i<N)(X:xW h0 h T n N now us s i hL fN bf){c j:Nat}(dF:12<=c)(ae:c<308)(aJ:low n s.wd=some j)(aN:bf.length<=1000):
 ∃h1 h2 h3 aT x bF,C (.fn 17) [.ptr T.bL 0] h=some (.ret (.bm [I (j:Int),I 0]),h1)/\
  st 1 (.ptr T.aK (i*308+c)) (I ((j+1:Nat):Int)) h1=some h2/\
  h2.cell fN 0=some x/\
  gp ao 143 1 [0] [.ptr T.aK (i*308+c)] h2=some (.aF h1.next 0 1 (some 1) 0,h2.new (cI n4 [.ptr T.aK (i*308+c)]))/\
  eX ao .append #[143,143] [x,.aF h1.next 0 1 (some 1) 0] (h2.new (cI n4 [.ptr T.aK (i*308+c)]))=some (bF,h3)/\
  st 1 (.ptr fN 0) bF h3=some aT/\xW h0 aT T n N now us (s.take i c j) i hL fN (bf++[c])/\h.cell fN 0=some x/\aT.cell fN 0=some bF/\(∀j,rowOf bF=some j->rowOf x=some j\/h.next<=j)/\h.next<=aT.next/\
  (∀j,h0.next<=j->j<h.next->j≠fN->rowOf x≠some j->ct h aT j):=by
 obtain⟨b4,cv,l2⟩:=RP aJ;have fG:=X.A.st.ck;obtain⟨h1,az,ig,aL⟩:=(nO h T.bL T.kd n s.wd s.b X.A.st X.jt).2 j b4 cv l2;have aY:=X.F.next
 have LQ:ct h h1 T.a3:=aL.same _ X.A.lt (λe=>by rcases e with e|e;exact X.A.d1 e;exact X.A.d2 e);have aCO:ct h h1 T.aK:=aL.same _ X.A.k5 (λe=>by rcases e with e|e;exact X.A.d4 e;exact X.A.d5 e);have bX:bt h1 T n N (rl s.wd j) (gF s.b j) now us s.nd:=X.A.store ig aL.next LQ aCO
 have s2:=xz bX (i:=i) (c:=c) (y:=I ((j+1:Nat):Int)) hi ae rfl rfl;have dh:=bX.setNode (i:=i) (c:=c) (y:=I ((j+1:Nat):Int)) hi ae (by omega);have bw:aD h1 (h1.set T.aK (i*308+c) [I ((j+1:Nat):Int)]) (· =T.aK):=fj rfl;have afK:(h1.set T.aK (i*308+c) [I ((j+1:Nat):Int)]).next=h1.next:=dz ..
 generalize gf:h1.set T.aK (i*308+c) [I ((j+1:Nat):Int)]=h2 at *
 have zY:∀j,h0.next<=j->j<h.next->ct h h2 j:=λj aa aJ=>by
  have dv:=O.s;have cy:=O.d;have jW:=O.n;have a:ct h h1 j:=aL.same j aJ (λe=>by omega);exact(bw.same j (Nat.lt_of_lt_of_le aJ aL.next) (λe=>by omega)).trans a
 have cA:=aL.next
 obtain⟨x,x1,x2,x3⟩:=X.mn;have mn:h2.cell fN 0=some x:=by rw[(zY fN X.sD X.RC).cell];exact x1
 have dW:ha h2 n4 1 x bf.length (jY T.aK i bf):=x2.frame (by omega) λk ai=>zY k (x3 k ai).1 (x2.iq ai)
 obtain⟨bF,h3,aj,aC,a8,cF,dK,dH,fE,h4⟩:=tk (y:= .ptr T.aK (i*308+c)) rX rfl rfl rfl dW (by omega) (by omega);rw[afK] at aj aC;have nj:∀j,j<h2.next->rowOf x≠some j->ct h2 h3 j:=dH
 have nb:∀j,j=hL\/j=fN\/j<h0.next->rowOf x≠some j:=λj aa e=>by have:=x3 j e;omega
 have aG4:=X.RC;have aG2:=X.l2;have fh:h3.wr fN 1:=eP (eP X.Gi (zY fN X.sD X.RC)) (nj fN (by omega) (nb _ (.inr (.inl rfl))));have fm:dB [bF]=true:=by rcases a8.2 with⟨rfl,_⟩|⟨_,rfl,_⟩<;>rfl
 have u6:bF.cells=[bF]:=by rcases a8.2 with⟨rfl,_⟩|⟨_,rfl,_⟩<;>rfl
 have LV:=gN (n:=1) (off:=0) (y:=bF) fh (by rw[u6];rfl) (by omega) (by rw[u6];exact fm);rw[u6] at LV;have fK:aD h3 (h3.set fN 0 [bF]) (· =fN):=fj rfl;generalize kc:h3.set fN 0 [bF]=aT at *;have jm:aT.next=h3.next:=by rw[<- kc,dz]
 have Ch:∀j,j≠fN->ct h3 aT j:=λj aa=>by rw[<- kc];exact gr _ _ _ aa
 have XF:∀j,j<h2.next->rowOf x≠some j->j≠fN->ct h2 aT j:=λj h1 h2 h3=>(Ch j h3).trans (nj j h1 h2)
 have gB:∀j,j<h0.next->ct h2 aT j:=λj aa=>XF j (by omega) (nb j (.inr (.inr aa))) (by have:=X.sD;omega)
 have cb:aT.cell fN 0=some bF:=by rw[<- kc,fZ fh (by simp) (Nat.zero_le _) (by simp)];rfl
 refine⟨h1,h2,h3,aT,x,bF,az,s2,mn,aj,aC,LV,⟨?_,X.M.take X.A.st.iF hi dF ae b4 cv,?_,?_,?_,X.e6,by omega,⟨bF,cb,?_,λj aa=>?_⟩,?_,X.sD,by omega,X.d⟩,x1,cb,λj aa=>(fE j aa).imp id λe=>by omega,by omega,λj h1 h2 h3 aT=>(XF j (by omega) aT h3).trans (zY j h1 h2)⟩
 ·exact dh.frame (by omega) λj aa=>gB j (by rcases aa with rfl|rfl|rfl|rfl;exact O.t;exact O.s;exact O.d;exact O.n)
 ·have t1:=X.jt.dm aL (by have:=O.g;omega) (λe=>by rcases e with e|e;exact O.aO.s e;exact O.aO.d e);have t2:=t1.dm bw (by have:=O.g;omega) (λe=>O.aO.n e)
  exact t2.same (gB mw O.g) (by
   have:aT.aO=h2.aO:=fK.aO.trans dK
   exact this)
 ·refine⟨fK.aO.trans (dK.trans (bw.aO.trans (aL.aO.trans X.F.aO))),by omega,λj aa aR=>?_,λau=>fK.dm (h4 (bw.dm (aL.dm (X.F.dm au))))⟩;have bY:=X.F.same j aa aR;have b2:ct h h1 j:=aL.same j (by omega) (λe=>aR (by rcases e with e|e;exact .inl e;exact .inr (.inl e)));have ht:ct h1 h2 j:=bw.same j (by omega) (λe=>aR (.inr (.inr e)));exact(gB j aa).trans (ht.trans (b2.trans bY))
 ·rw[(XF hL (by omega) (nb _ (.inl rfl)) X.d).cell,(zY hL X.e6 X.l2).cell];exact X.cm
 ·have:jY T.aK i (bf++[c])=jY T.aK i bf++[.ptr T.aK (i*308+c)]:=by simp[jY]
  rw[this,List.length_append];exact a8.frame (by omega) λk ai=>Ch k (by rcases fE k ai with e|e;exact(x3 k e).2.2;omega)
 ·rcases fE j aa with e|e
  ·exact x3 j e
  ·have:=X.sD;have:=X.e6;omega
 ·rw[<- kc];exact dY fh
theorem af9(aK i:Nat)(cs:List Nat){t:Nat}(aN:t<cs.length):(jY aK i cs)[t]?=some (.ptr aK (i*308+cs[t])):=by simp[jY,aN]
theorem alv{bf:List Nat}{t:Nat}(aN:t<bf.length):er i (bf.take (t+1)) s=(er i (bf.take t) s).back i bf[t]:=by
 unfold er;rw[List.take_succ_eq_append_getElem aN,List.foldl_append];rfl
theorem ZH{C:ad}(Fr:CE C)(O:nV h0 T)(hi:i<N){x:U}{q:Nat}(a2:bf=[]\/x= .aF q 0 bf.length none 0)(sg:bf.Nodup)(jj:∀c,c∈bf->12<=c/\c<308/\0<s.bl i c)(hlen:bf.length<=1000)(wY:q≠T.bL/\q≠T.aK/\q≠hL)(hv:hL≠T.bL/\hL≠T.aK)(av:cu):
 ∀(d t:Nat),t+d=bf.length->∀f,d<f->∀h,bt h T n N (er i (bf.take t) s).wd (er i (bf.take t) s).b now us (er i (bf.take t) s).nd->c3 n N (er i (bf.take t) s).wd (er i (bf.take t) s).nd (er i (bf.take t) s).bl->
 h.cell hL 0=some (.ptr T.a3 0)->hL<h.next->(∀j,j<bf.length->q<h.next/\h.cell q j=(jY T.aK i bf)[j]?)->
 ∃h',bk (BP C lf av) f (some (.ptr hL 0),some x,some (I (bf.length:Int)),some (I (t:Int))) h=av h'/\bt h' T n N (er i bf s).wd (er i bf s).b now us (er i bf s).nd/\c3 n N (er i bf s).wd (er i bf s).nd (er i bf s).bl/\aD h h' (λj=>j=T.bL\/j=T.aK)
 |0,t,hw,f,au,h,A,M,cm,l2,ae=>by
  obtain⟨f,rfl⟩:=dx f (by omega)
  have:t=bf.length:=by omega
  subst this;rw[List.take_length] at A M;refine⟨h,?_,A,M,aD.refl _ _⟩;rw[df];unfold BP FJ;have a9:decide ((bf.length:Int)<(bf.length:Int))=false:=by simp
  simp only[aA,a9]
 |d+1,t,hw,f,au,h,A,M,cm,l2,ae=>by
  obtain⟨f,rfl⟩:=dx f (by omega);have aN:t<bf.length:=by omega
  have ax:x= .aF q 0 bf.length none 0:=by
   rcases a2 with e|e
   ·rw[e] at aN;simp at aN
   ·exact e
  subst ax;have a9:decide ((t:Int)<(bf.length:Int))=true:=bu (by omega);have dr:IntKind.i64.wrap ((t:Int)+1)=((t+1:Nat):Int):=cD (by omega);have bW:=gA (s:=1) (k:=q) (off:=0) (len:=bf.length) (lo:=0) (cap:=none) (kd:= .i64) (i:=(t:Int)) (by omega) (by omega);rw[Int.toNat_natCast,Nat.mul_one,Nat.zero_add] at bW;have ek:=(ae t aN).2;rw[af9 _ _ _ aN] at ek;have vd:bf[t]∈bf:=List.getElem_mem aN;obtain⟨bY,b2,ht⟩:=jj _ vd;generalize fQ:bf[t]=c at *
  have sh:c ∉ bf.take t:=λe=>by
   obtain⟨k,ai,ay⟩:=List.getElem_of_mem e;rw[List.length_take] at ai;rw[List.getElem_take] at ay;exact absurd (ay.trans fQ.symm) (List.pairwise_iff_getElem.1 sg k t (by omega) aN (by omega))
  have DW:(er i (bf.take t) s).bl i c=s.bl i c:=by
   have:∀(l:List Nat) (s:dC),c ∉ l->(er i l s).bl i c=s.bl i c:=by
    intro l
    induction l with
    |nil=>intro s _;rfl
    |cons a l bp=>
     intro s h;show(er i l (s.back i a)).bl i c=_;rw[bp _ (λe=>h (by simp[e]))];exact nM _ _ (.inr λe=>h (by simp[e]))
   exact this _ s sh
  have step:=alv (i:=i) (s:=s) aN;rw[fQ] at step;generalize kD:er i (bf.take t) s=s1 at *;have hle:=M.le i c;have e5:=M.on i c hi bY b2 (by omega);have wP:=A.dO i c hi b2;rw[M.cell i c hi bY b2] at wP;have fG:=A.st.ck;have ak:IntKind.i64.wrap ((s1.bl i c:Int)-1)=((s1.bl i c-1:Nat):Int):=cD (by omega)
  have apP:gS n s1.wd ((s1.bl i c-1:Nat):Int)=true:=by
   simp only[gS,Int.toNat_natCast,e5,Bool.and_true,Bool.and_eq_true,decide_eq_true_eq];omega
  obtain⟨h1,az,ig,aL⟩:=(Fr h T.bL T.kd n s1.wd s1.b ((s1.bl i c-1:Nat):Int) A.st (by omega) (by omega)).2 apP;rw[Int.toNat_natCast] at ig;have bX:=A.store ig aL.next (aL.same _ A.lt (λe=>A.d1 e)) (aL.same _ A.k5 (λe=>A.d4 e))
  have dc:=xz bX (i:=i) (c:=c) (y:=I 0) hi b2 rfl rfl;have dh:=bX.setNode (i:=i) (c:=c) (y:=I 0) hi b2 (by omega);have M2:=M.drop A.st.iF hi bY b2 (by omega);have bw:aD h1 (h1.set T.aK (i*308+c) [I 0]) (· =T.aK):=fj rfl;have nS:aD h (h1.set T.aK (i*308+c) [I 0]) (λj=>j=T.bL\/j=T.aK):=(aL.ei λ_ e=> .inl e).trans (bw.ei λ_ e=> .inr e);generalize gf:h1.set T.aK (i*308+c) [I 0]=h2 at *;have ajM:bt h2 T n N (er i (bf.take (t+1)) s).wd (er i (bf.take (t+1)) s).b now us (er i (bf.take (t+1)) s).nd:=by rw[step];exact dh
  have akc:c3 n N (er i (bf.take (t+1)) s).wd (er i (bf.take (t+1)) s).nd (er i (bf.take (t+1)) s).bl:=by rw[step];exact M2
  obtain⟨h',dd,dy,fB,k8⟩:=ZH Fr O hi (.inr rfl) sg jj hlen wY hv av d (t+1) (by omega) f (by omega) h2 ajM akc
   (by rw[(nS.same hL l2 (λe=>by rcases e with e|e;exact hv.1 e;exact hv.2 e)).cell];exact cm) (Nat.lt_of_lt_of_le l2 nS.next)
   (λj aa=>⟨Nat.lt_of_lt_of_le (ae j aa).1 nS.next,by rw[(nS.same q (ae j aa).1 (λe=>by rcases e with e|e;exact wY.1 e;exact wY.2.1 e)).cell];exact(ae j aa).2⟩)
  refine⟨h',?_,dy,fB,nS.trans k8⟩;rw[df];show FJ C lf (λx1 bC eD aG h=>bk (BP C lf av) f (x1,bC,eD,aG) h) av (some (.ptr hL 0)) (some (.aF q 0 bf.length none 0)) (some (I (bf.length:Int))) (some (I (t:Int))) h=_;unfold FJ;simp only[aA,a9,bW,ek,cm,A.cG,wP,ak,az,dc,dr];exact dd
def MP(C:ad):Prop:=∀h0 h T n N now us s i hL fN bf,nV h0 T->i<N->xW h0 h T n N now us s i hL fN bf->bf.Nodup->(∀c,c∈bf->12<=c/\c<308/\0<s.bl i c)->bf.length<=1000->
 ∃h',C (.fn 90) [.ptr fN 0,.ptr hL 0] h=some (.ret (.bm []),h')/\bt h' T n N (er i bf s).wd (er i bf s).b now us (er i bf s).nd/\c3 n N (er i bf s).wd (er i bf s).nd (er i bf s).bl/\aD h h' (λj=>j=T.bL\/j=T.aK)
theorem alw{C:ad}(gy:1001<=lf)(Fr:CE C)(O:nV h0 T)(hi:i<N)(X:xW h0 h T n N now us s i hL fN bf)(sg:bf.Nodup)(jj:∀c,c∈bf->12<=c/\c<308/\0<s.bl i c)(hlen:bf.length<=1000):
 ∃h',I4 C lf (.ptr fN 0) (.ptr hL 0) h=some (.ret (.bm []),h')/\bt h' T n N (er i bf s).wd (er i bf s).b now us (er i bf s).nd/\c3 n N (er i bf s).wd (er i bf s).nd (er i bf s).bl/\aD h h' (λj=>j=T.bL\/j=T.aK):=by
 obtain⟨x,x1,x2,x3⟩:=X.mn;have dv:=O.s;have cy:=O.n;have e6:=X.e6
 have vb:eG ao 143 x=some (I (bf.length:Int)):=by
  rcases x2.2 with⟨rfl,h1⟩|⟨k,rfl,_⟩
  ·rw[h1];simp[eG,Tryd.underlying143,fP]
  ·simp[eG,Tryd.underlying143]
 obtain⟨q,a2,wY,aqp⟩:∃q,(bf=[]\/x= .aF q 0 bf.length none 0)/\(q≠T.bL/\q≠T.aK/\q≠hL)/\∀j,j<bf.length->q<h.next/\h.cell q j=(jY T.aK i bf)[j]?:=by
  rcases x2.2 with⟨_,h1⟩|⟨k,rfl,ai⟩
  ·exact⟨fN,.inl (List.length_eq_zero_iff.1 h1),⟨by have:=X.sD;omega,by have:=X.sD;omega,λe=>X.d e.symm⟩,λj aa=>by omega⟩
  ·have:=x3 k rfl
   exact⟨k,.inr rfl,⟨by omega,by omega,this.2.1⟩,λj aa=>⟨ai.lt,ai.cs j (by omega)⟩⟩
 obtain⟨h',dd,dy,fB,k8⟩:=ZH (lf:=lf) (s:=s) Fr O hi a2 sg jj hlen wY ⟨by omega,by omega⟩ PF bf.length 0 (by omega) lf (by omega) h X.A X.M X.cm X.l2 aqp;refine⟨h',?_,dy,fB,k8⟩;unfold I4 WW WV;simp only[aA,x1,vb];exact dd
theorem PR{C:ad}(nO:Cy C)(O:nV h0 T)(hi:i<N){kx:Nat}{cs0:List Nat}(en:∀c,c∈cs0->12<=c/\c<308)(va:cs0.length<=500)(Jw:h0.next<=kx/\kx≠fN)(C3:U)(r:aw)(az:cu):
 ∀(cs:List Nat) (t:Nat),cs0.drop t=cs->t<=cs0.length->∀f,cs.length<f->∀h s bf,xW h0 h T n N now us s i hL fN bf->bf.length<=t->kx<h.next->(∀j,j<cs0.length->h.cell kx j=(jY T.aK i cs0)[j]?)->(∀j,rowOf (((h.cell fN 0).getD (.bool true)))=some j->j≠kx)->
 ∃h',xW h0 h' T n N now us (dq n i cs s bf).1 i hL fN (dq n i cs s bf).2.1/\
  bk (zn C lf r az) f (some (.ptr hL 0),some (.ptr fN 0),some C3,some (.aF kx 0 cs0.length none 0),some (I (cs0.length:Int)),some (I (t:Int))) h=
   (if(dq n i cs s bf).2.2=true then az h' else fv false C C3 [] h' λ_ Jc=>r (some (.bool false)) Jc)
 | [],t,aI,aN,f,au,h,s,bf,X,hle,RI,ae,_=>by
   obtain⟨f,rfl⟩:=dx f (by omega)
   have:t=cs0.length:=by
    have:=congrArg List.length aI
    rw[List.length_drop] at this;simp at this;omega
   subst this;refine⟨h,X,?_⟩;show _=az h;rw[df];unfold zn Fz;have a9:decide ((cs0.length:Int)<(cs0.length:Int))=false:=by simp
   simp only[aA,a9]
 |c::cs,t,aI,aN,f,au,h,s,bf,X,hle,RI,ae,JD=>by
  obtain⟨f,rfl⟩:∃g,f=g+1:=⟨f-1,by simp at au;omega⟩
  have JG:t<cs0.length:=by
   have:=congrArg List.length aI
   rw[List.length_drop] at this;simp at this;omega
  have D2:cs0[t]=c:=by
   have:=congrArg (·[0]?) aI
   simp[List.getElem?_drop,JG] at this;exact this
  have o6:cs0.drop (t+1)=cs:=by
   rw[<- List.tail_drop,aI];rfl
  obtain⟨bY,b2⟩:=en c (by rw[<- D2];exact List.getElem_mem JG);have a9:decide ((t:Int)<(cs0.length:Int))=true:=bu (by omega);have dr:IntKind.i64.wrap ((t:Int)+1)=((t+1:Nat):Int):=cD (by omega);have bW:=gA (s:=1) (k:=kx) (off:=0) (len:=cs0.length) (lo:=0) (cap:=none) (kd:= .i64) (i:=(t:Int)) (by omega) (by omega);rw[Int.toNat_natCast,Nat.mul_one,Nat.zero_add] at bW;have ek:=ae t JG;rw[af9 _ _ _ JG,D2] at ek;have wP:=X.A.dO i c hi b2;rw[X.M.cell i c hi bY b2] at wP;rw[df];show ∃h',_/\Fz C lf (λx3 x8 x9 x50 x51 x52 h=>bk (zn C lf r az) f (x3,x8,x9,x50,x51,x52) h) r az (some (.ptr hL 0)) (some (.ptr fN 0)) (some C3) (some (.aF kx 0 cs0.length none 0)) (some (I (cs0.length:Int))) (some (I (t:Int))) h=_;unfold Fz;by_cases aB:0<s.bl i c
  ·have tJ:decide ((0:Int)<(s.bl i c:Int))=true:=bu (by omega)
   have qV:dq n i (c::cs) s bf=dq n i cs s bf:=by
    rw[dq,if_pos aB]
   rw[qV];obtain⟨h',dd,dy⟩:=PR nO O hi en va Jw C3 r az cs (t+1) o6 (by omega) f (by simp at au;omega) h s bf X (by omega) RI ae JD;refine⟨h',dd,?_⟩;simp only[aA,a9,bW,ek,wP,tJ,dr];exact dy
  ·have aX:s.bl i c=0:=by omega
   have tJ:decide ((0:Int)<(s.bl i c:Int))=false:=br (by omega);cases aJ:low n s.wd with
   |none=>
    have qV:dq n i (c::cs) s bf=(s,bf,false):=by rw[dq,if_neg aB,aJ]
    rw[qV];have az:=(nO h T.bL T.kd n s.wd s.b X.A.st X.jt).1 (afh aJ);have ca:decide ((28:Int)≠0)=true:=rfl;refine⟨h,X,?_⟩;simp only[aA,a9,bW,ek,wP,tJ,X.cm,X.A.cG,az,List.getElem?_cons_zero,List.getElem?_cons_succ,ca];rfl
   |some j=>
    have qV:dq n i (c::cs) s bf=dq n i cs (s.take i c j) (bf++[c]):=by rw[dq,if_neg aB,aJ]
    rw[qV];have aea:=(RP aJ).1;have fG:=X.A.st.ck;obtain⟨h1,h2,h3,aT,x,bF,Oq,s2,mn,aj,aC,LV,akC,y1,rI,Gq,Ad,Mv⟩:=aod nO O hi X bY b2 aJ (by omega);have ca:decide ((0:Int)≠0)=false:=rfl;have iO:IntKind.i64.wrap ((j:Int)+1)=((j+1:Nat):Int):=cD (by omega)
    obtain⟨k1,k2,hG⟩:kx<aT.next/\(∀j,j<cs0.length->aT.cell kx j=(jY T.aK i cs0)[j]?)/\(∀j,rowOf (((aT.cell fN 0).getD (.bool true)))=some j->j≠kx):=by
     rw[y1] at JD;have ca:rowOf x≠some kx:=λe=>JD kx e rfl
     have z5:=Mv kx Jw.1 RI Jw.2 ca;refine⟨by omega,λj aa=>by rw[z5.cell];exact ae j aa,λj aa=>?_⟩;rw[rI] at aa;rcases Gq j aa with e|e
     ·exact JD j e
     ·omega
    obtain⟨h',dd,dy⟩:=PR nO O hi en va Jw C3 r az cs (t+1) o6 (by omega) f (by simp at au;omega) aT (s.take i c j) (bf++[c]) akC (by simp;omega) k1 k2 hG;refine⟨h',dd,?_⟩;simp only[aA,a9,bW,ek,wP,tJ,X.cm,X.A.cG,Oq,List.getElem?_cons_zero,List.getElem?_cons_succ,ca,iO,s2,mn,aj,aC,LV,dr];exact dy
end
end Go.Proofs.YtomialandfplkaaDoor.Eva
