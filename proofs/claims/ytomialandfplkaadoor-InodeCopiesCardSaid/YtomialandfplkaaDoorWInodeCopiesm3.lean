import Derived.Lib.TrailingZeros
import Derived.ChangeSlices
import Derived.WideShapes
import Derived.Test.YtomialandfplkaaDoorCards
import Derived.Test.YtomialandfplkaaDoorWInodeCopiesm2
set_option linter.unusedSimpArgs false
set_option linter.unusedVariables false
set_option maxRecDepth 100000
set_option maxHeartbeats 400000
namespace Go.Xe
section
open Go.ChangeShapes Go.WideShapes Go.ChangeAt Go.RowKit
section
variable{P:Program}
def lift(aO:Nat):Value->U
 | .int k n=> .int k n
 | .bool b=> .bool b
 | .string s=> .str s
 | .pointer (some ⟨id,off,none⟩)=>bif Nat.blt id aO then .ptr id off else .val (.pointer (some ⟨id,off,none⟩))
 | .slice (some _) 0 0=> .la 0
 | .slice (some ⟨id,off,none⟩) l c=>bif Nat.blt id aO then .aF id off l (some c) 0 else .val (.slice (some ⟨id,off,none⟩) l c)
 |v=> .val v
def vo(aO:Nat):Value->U
 | .agg cs=> .agg (cs.toList.map (lift aO))
 |v=>lift aO v
def F7(aO:Nat):Env:={f:=λk=>if k<aO then some (k,0) else none,n:=0}
theorem Om(aO:Nat)(v:Value):Den (F7 aO) (lift aO v) v:=by
 unfold lift;split<;>try(simp[Den];done)
 ·rename_i id off;cases ag:Nat.blt id aO with
  |false=>simp[Den]
  |true=>exact⟨id,0,if_pos (by rw[Nat.blt_eq] at ag;exact ag),rfl⟩
 ·rename_i id off l c _;cases ag:Nat.blt id aO with
  |false=>simp[Den]
  |true=>exact⟨id,0,if_pos (by rw[Nat.blt_eq] at ag;exact ag),rfl⟩
theorem aav(aO:Nat):∀l:List Value,cg (F7 aO) (l.map (lift aO)) l
 | []=>rfl
 |v::l=>⟨v,l,Om aO v,aav aO l,rfl⟩
theorem ang(aO:Nat)(v:Value):Den (F7 aO) (vo aO v) v:=by
 unfold vo;split
 ·rename_i cs;exact⟨cs.toList,aav aO _,by simp⟩
 ·exact Om aO _
theorem aaw(aO:Nat):∀l:List Value,cg (F7 aO) (l.map (vo aO)) l
 | []=>rfl
 |v::l=>⟨v,l,ang aO v,aaw aO l,rfl⟩
def zJ(aO:Nat)(cs:Array Value)(ty:TypeId):bH:={cq:=0,ty,n:=cs.size,loose:=false,esz:=1,ro:=true,mZ:=λi=>(cs[i]?).map (lift aO),fL:= .nil,sp:= .cells}
def ass(w:World):cE:={jD:= .nil,base:=λk=>match w.heap[k]? with
 |some (.cells cs ty _)=>some (zJ w.heap.size cs ty)
 |_=>none}
def hf(w:World):J:=⟨w.heap.size,w.heap.size,ass w⟩
theorem afM(aO:Nat)(cs:Array Value)(ty:TypeId)(i:Nat):(zJ aO cs ty).get i=(cs[i]?).map (lift aO):=by
 unfold zJ bH.get;simp only[aH.get];cases ag:Nat.blt i cs.size with
 |true=>rfl
 |false=>
  have:¬i<cs.size:=λh=>by rw[<- Nat.blt_eq,ag] at h;cases h
  simp[Array.getElem?_eq_none (by omega:cs.size<=i)]
theorem Ex(w:World)(k:Nat):(hf w).aV.get k=match w.heap[k]? with
 |some (.cells cs ty _)=>some (zJ w.heap.size cs ty)
 |_=>none:=rfl
theorem Rm(w:World)(k i:Nat):(hf w).cell k i=(w.cell? ⟨k,i,none⟩).map (lift w.heap.size):=by
 unfold J.cell World.cell?;rw[Ex];cases w.heap[k]? with
 |none=>rfl
 |some ob=>cases ob<;>first|rfl|(simp[afM])
theorem JI(w:World){k:Nat}(h:w.heap.size<=k):(hf w).aV.get k=none:=by
 rw[Ex,Array.getElem?_eq_none h]
theorem anx(w:World):bQ P w.heap.size w ((hf w).b0 []) (F7 w.heap.size) w:=by
 refine⟨rfl,rfl,rfl,Nat.le_refl _,λ_ _=>rfl,λk o ai=>?_,λk b6 o o' id c a4 ai cO he fS=>?_,λk ai=>?_,λg bc=>⟨0,if_pos bc⟩,Nat.zero_le _⟩
 ·have ai:(hf w).aV.get k=some o:=ai
  have a9:k<w.heap.size:=by
   apply Nat.lt_of_not_le;intro h;rw[JI w h] at ai;cases ai
  rw[Ex] at ai;split at ai<;>try(cases ai;done)
  rename_i cs ty DG hS;cases ai;refine⟨k,0,if_pos a9,.inl ⟨rfl,cs,ty,DG.1,DG.2,hS,λj y aa=>?_,λh=>by cases h⟩,λh=>?_⟩
  ·rw[afM] at aa;cases ae:cs[j]? with
   |none=>simp[ae] at aa
   |some v=>
    simp only[ae,Option.map_some,Option.some.injEq] at aa;subst aa;exact⟨v,rfl,Om _ v⟩
  ·rcases h with h|h
   ·cases h
   ·exact absurd rfl h
 ·have a9:∀{k o},(hf w).aV.get k=some o->k<w.heap.size:=by
   intro k o h;apply Nat.lt_of_not_le;intro h';rw[JI w h'] at h;cases h
  have he:=(if_pos (a9 ai)).symm.trans he;have fS:=(if_pos (a9 cO)).symm.trans fS;cases he;cases fS;rfl
 ·have cO:w.heap.size<=k:=ai;exact if_neg (by omega)
theorem aro{cs:List (pE P)}{tab:aH (gx P)}{lf fuel:Nat}(hm:P.follows .mixedOrders=true){y:cx P}{argv:List Value}{w:World}{h':J}
 (bb:y.s (tr cs (hK tab lf fuel).call) lf (argv.map (vo w.heap.size)) (hf w)=some (.ret (.bool true),h')):
 Calls P y.x.f argv.toArray w λe w'=>e= .returned (.bool true)/\RowKit.Below w.heap.size w w':=
 amd (amI hm bb (anx w) (aaw _ _))
theorem amj{h:J}{g:Nat}{k:IntKind}{zs:List Int}{o:bH}(aq:h.aV.get g=some o)(aX:∀i,i<zs.length->h.cell g i=some (.int k (zs.getD i 0))):kG o 0 zs.length=some (zs.map (.int k)):=by
 rw[zw aq];refine jy (by simp) λi hi=>?_
 rw[Nat.zero_add,aX i hi];simp[List.getD,hi]
theorem aaS(k:IntKind):∀zs:List Int,yv k (zs.map (.int k)) zs=true
 | []=>rfl
 |z::zs=>by simp[yv,aaS k zs]
theorem api{w:World}{g:Nat}{k:IntKind}{zs:List Int}(h0:0<zs.length)(h:∀i,i<zs.length->w.cell? ⟨g,i,none⟩=some (.int k (zs.getD i 0))):mx g k zs (hf w)=true:=by
 have cj:=h 0 h0;unfold World.cell? at cj;split at cj<;>try(cases cj;done)
 rename_i cs ty DG hS;have a9:g<w.heap.size:=(Array.getElem?_eq_some_iff.1 hS).1;have aq:(hf w).aV.get g=some (zJ w.heap.size cs ty):=by rw[Ex];simp only at hS;rw[hS]
 have ag:Nat.blt g (hf w).aO=true:=by rw[Nat.blt_eq];exact a9
 have aJ:=amj (h:=hf w) (k:=k) (zs:=zs) aq (λi hi=>by rw[Rm,h i hi];rfl);unfold mx;simp only[ag,aq,Bool.true_and];show(match kG (zJ w.heap.size cs ty) 0 zs.length with|some ys=>yv k ys zs|none=>false)=true;rw[aJ];exact aaS k zs
def amG{tab:aH (gx P)}{lf fuel:Nat}(hm:P.follows .mixedOrders=true)(g0 ty n:Nat)(k:IntKind)(zs:List Int)(h0:0<zs.length)(f:FuncId)(g:List U->Option U)
    (D6:∀args y,g args=some y->args.all free=true/\free y=true)
    (gg:∀args y,g args=some y->∃h',(hK tab lf fuel).call (.fn f) args ⟨g0+1,g0+1,L6 g0 ty n (zs.map (.int k))⟩=some (.ret y,h')):pE P where
 f:=f
 g:=λargs h=>bif mx g0 k zs h then g args else none
 ok:=by
  intro args X y bc B aZ E w argv aE aI;cases aN:mx g0 k zs X.h with
  |false=>simp[aN] at bc
  |true=>
   simp only[aN,cond_true] at bc;obtain⟨tK,lD⟩:=D6 _ _ bc;obtain⟨h',aQ⟩:=gg _ _ bc;have dc:=aC0 (ty:=ty) (n:=n) h0 aN aE;have ak:=(XA tab lf fuel).1 _ _ _ _ _ aQ [];obtain⟨_,kk⟩:=(OF (tab.map gx.e) lf hm fuel).call _ _ _ _ _ ak (λp aB=>by cases aB);have sd:=kk _ _ _ _ _ (anz dc) (aI.free tK);refine rL.mono ?_ sd
   rintro e w' ⟨aW,_,et,v,rfl,hv⟩
   exact⟨E,cQ.refl E,aE.grow et.below,v,rfl,hv.free lD⟩
 frame:=by
  intro args X y m ob bc au;cases aN:mx g0 k zs X.h with
  |false=>simp[aN] at bc
  |true=>
   have:mx g0 k zs (X.add m ob).h=true:=by
    unfold mx at aN⊢;simp only[Bool.and_eq_true] at aN⊢;refine⟨aN.1,?_⟩
    have ca:g0≠m:=λe=>by
     have h2:=aN.2;have yS:X.h.aV.get m=none:=au.dead;rw[e,yS] at h2;cases h2
    have az:(X.add m ob).h.aV.get g0=X.h.aV.get g0:=by
     show(X.aV.put m ob).get g0=X.aV.get g0;rw[cE.kT,if_neg ca]
    rw[az];exact aN.2
   simp only[aN,cond_true] at bc;simp only[this,cond_true];exact bc
end
end
theorem vr(a:Nat):BitVec.ofInt 64 (a:Int)=BitVec.ofNat 64 a:=by
 apply BitVec.eq_of_toNat_eq;simp
theorem AM:IntKind.u64.bits=64:=rfl
theorem Gl{a:Nat}(h:a<2 ^ 64):IntKind.u64.wrap (a:Int)=a:=wrap_u64 (by omega) (by omega)
theorem ak0{a b:Nat}(bV:a<2 ^ 64)(ag:b<2 ^ 64):arith .and .u64 (a:Int) (b:Int)=some (.int .u64 ((a&&& b:Nat):Int)):=by
 have h1:((BitVec.ofInt IntKind.u64.bits (a:Int)&&& BitVec.ofInt IntKind.u64.bits (b:Int)).toNat)=a&&& b:=by
  rw[AM,vr,vr,BitVec.toNat_and,BitVec.toNat_ofNat,BitVec.toNat_ofNat,Nat.mod_eq_of_lt bV,Nat.mod_eq_of_lt ag]
 have h2:a&&& b<2 ^ 64:=Nat.and_lt_two_pow _ ag;simp only[arith,fP,h1,Gl h2]
theorem asG{a b:Nat}(bV:a<2 ^ 64)(ag:b<2 ^ 64):arith .or .u64 (a:Int) (b:Int)=some (.int .u64 ((a|||b:Nat):Int)):=by
 have h1:((BitVec.ofInt IntKind.u64.bits (a:Int)|||BitVec.ofInt IntKind.u64.bits (b:Int)).toNat)=a|||b:=by
  rw[AM,vr,vr,BitVec.toNat_or,BitVec.toNat_ofNat,BitVec.toNat_ofNat,Nat.mod_eq_of_lt bV,Nat.mod_eq_of_lt ag]
 have h2:a|||b<2 ^ 64:=Nat.or_lt_two_pow bV ag
 simp only[arith,fP,h1,Gl h2]
theorem aFc{a b:Nat}(bV:a<2 ^ 64)(ag:b<2 ^ 64):arith .xor .u64 (a:Int) (b:Int)=some (.int .u64 ((a ^^^ b:Nat):Int)):=by
 have h1:((BitVec.ofInt IntKind.u64.bits (a:Int) ^^^ BitVec.ofInt IntKind.u64.bits (b:Int)).toNat)=a ^^^ b:=by
  rw[AM,vr,vr,BitVec.toNat_xor,BitVec.toNat_ofNat,BitVec.toNat_ofNat,Nat.mod_eq_of_lt bV,Nat.mod_eq_of_lt ag]
 have h2:a ^^^ b<2 ^ 64:=Nat.xor_lt_two_pow bV ag;simp only[arith,fP,h1,Gl h2]
theorem akZ{a b:Nat}(bV:a<2 ^ 64)(ag:b<2 ^ 64):arith .andNot .u64 (a:Int) (b:Int)=some (.int .u64 ((a&&& (2 ^ 64-1-b):Nat):Int)):=by
 have h1:((BitVec.ofInt IntKind.u64.bits (a:Int)&&& ~~~ BitVec.ofInt IntKind.u64.bits (b:Int)).toNat)=a&&& (2 ^ 64-1-b):=by
  rw[AM,vr,vr,BitVec.toNat_and,BitVec.toNat_not,BitVec.toNat_ofNat,BitVec.toNat_ofNat,Nat.mod_eq_of_lt bV,Nat.mod_eq_of_lt ag]
 have h2:a&&& (2 ^ 64-1-b)<2 ^ 64:=Nat.and_lt_two_pow _ (by omega);simp only[arith,fP,h1,Gl h2]
theorem afI{a:Nat}(bV:a<2 ^ 64):ib .xor (.int .u64 (a:Int))=some (.int .u64 ((2 ^ 64-1-a:Nat):Int)):=by
 have e:ib .xor (.int .u64 (a:Int))=arith .xor .u64 ((2 ^ 64-1:Nat):Int) (a:Int):=rfl;rw[e,aFc (by omega) bV];congr 3;apply Nat.eq_of_testBit_eq;intro i;rw[Nat.testBit_xor,Nat.testBit_two_pow_sub_one,show 2 ^ 64-1-a=2 ^ 64-(a+1) by omega,Nat.testBit_two_pow_sub_succ bV];by_cases hi:i<64
 ·simp[hi]
 ·have:a.testBit i=false:=Nat.testBit_lt_two_pow (Nat.lt_of_lt_of_le bV (Nat.pow_le_pow_right (by omega) (by omega)))
  simp[hi,this]
theorem L7{a:Nat}(bV:a<2 ^ 64)(i:Nat):(2 ^ 64-1-a).testBit i=(decide (i<64)&&!a.testBit i):=by
 rw[show 2 ^ 64-1-a=2 ^ 64-(a+1) by omega,Nat.testBit_two_pow_sub_succ bV]
section
variable{P:Program}{t:TypeId}
theorem NY{a b:Nat}(bV:a<2 ^ 64)(ag:b<2 ^ 64):bin P .and t (.int .u64 (a:Int)) (.int .u64 (b:Int))=some (.int .u64 ((a&&& b:Nat):Int)):=by
 rw[ym .and (.inl rfl),ak0 bV ag]
theorem alI{a b:Nat}(bV:a<2 ^ 64)(ag:b<2 ^ 64):bin P .or t (.int .u64 (a:Int)) (.int .u64 (b:Int))=some (.int .u64 ((a|||b:Nat):Int)):=by
 rw[ym .or (.inr (.inl rfl)),asG bV ag]
theorem alD{a b:Nat}(bV:a<2 ^ 64)(ag:b<2 ^ 64):bin P .andNot t (.int .u64 (a:Int)) (.int .u64 (b:Int))=some (.int .u64 ((a&&& (2 ^ 64-1-b):Nat):Int)):=by
 rw[ym .andNot (.inr (.inr (.inr rfl))),akZ bV ag]
theorem N2{k:IntKind}{a b:Nat}(ag:b<64):bin P .shr t (.int .u64 (a:Int)) (.int k (b:Int))=some (.int .u64 ((a/2 ^ b:Nat):Int)):=by
 have e:bin P .shr t (.int .u64 (a:Int)) (.int k (b:Int))=xy .shr .u64 (a:Int) (b:Int):=by rw[wj];rfl
 rw[e];have h1:decide ((b:Int)<0)=false:=decide_eq_false (by omega);have h2:min (b:Int).toNat IntKind.u64.bits=b:=by rw[AM];simp;omega
 simp only[xy,h1,cond_false,fP,h2];congr 2;have h3:(2:Int) ^ b=((2 ^ b:Nat):Int):=by simp
 rw[h3,Int.fdiv_eq_ediv_of_nonneg _ (Int.natCast_nonneg _)];rfl
theorem ZL{k:IntKind}{b:Nat}(ag:b<64):bin P .shl t (.int .u64 1) (.int k (b:Int))=some (.int .u64 ((2 ^ b:Nat):Int)):=by
 have e:bin P .shl t (.int .u64 1) (.int k (b:Int))=xy .shl .u64 1 (b:Int):=by rw[wj];rfl
 rw[e];have h1:decide ((b:Int)<0)=false:=decide_eq_false (by omega);have h2:min (b:Int).toNat IntKind.u64.bits=b:=by rw[AM];simp;omega
 simp only[xy,h1,cond_false,fP,h2];congr 2;rw[Int.one_mul];have h3:(2:Int) ^ b=((2 ^ b:Nat):Int):=by simp
 have aT:2 ^ b<2 ^ 64:=Nat.pow_lt_pow_right (by omega) ag;rw[h3,Gl aT]
end
theorem arY{x:Nat}(h0:x≠0)(ax:x<2 ^ 64):ib .neg (.int .u64 (x:Int))=some (.int .u64 ((2 ^ 64-x:Nat):Int)):=by
 show arith .sub .u64 0 (x:Int)=_;simp only[arith,fP];congr 2;simp[IntKind.wrap,IntKind.signed,IntKind.bits];omega
theorem aE4(a:Nat):IntKind.u64.wrap (a:Int)=((a%18446744073709551616:Nat):Int):=by
 simp[IntKind.wrap,IntKind.signed,IntKind.bits]
theorem arQ(a:Nat):IntKind.u64.wrap ((a:Int)*285870213051353865)=((a*285870213051353865%18446744073709551616:Nat):Int):=by
 rw[<- aE4];congr 1
theorem alL{a b:Nat}:(((a/2 ^ b)&&& 1:Nat)=1)↔a.testBit b=true:=by
 rw[Nat.testBit,Nat.shiftRight_eq_div_pow,Nat.and_comm 1]
 have:a/2 ^ b&&& 1=a/2 ^ b%2:=Nat.and_one_is_mod _
 rw[this];have h2:=Nat.mod_two_eq_zero_or_one (a/2 ^ b);rcases h2 with h|h<;>simp[h]
end Go.Xe
namespace Go.Proofs.YtomialandfplkaaDoor.Eva
open Go.Xe
theorem cD{a b:Int}(h: -9223372036854775808<=a/\a<9223372036854775808/\a=b):IntKind.i64.wrap a=b:=by
 rw[wrap_i64 h.1 h.2.1];exact h.2.2
theorem br{p:Prop} [Decidable p](h:¬p):decide p=false:=decide_eq_false h
theorem bu{p:Prop} [Decidable p](h:p):decide p=true:=decide_eq_true h
theorem dx(f:Nat)(h:0<f):∃g,f=g+1:=⟨f-1,by omega⟩
abbrev YN:Prop:=(∀n,bD n=some (.int .i64 n))/\(∀i x h k,eK i x h k=ob (bZ i x) λc=>ob (bO c h) k)/\(∀i x k,e9 i x k=ob x λa=>ob (ev a) λb=>ob (bZ i b) k)/\
 (∀i x h k,dw i x h k=ob x λa=>ob (ev a) λb=>ob (bZ i b) λc=>ob (bO c h) k)/\(∀i x v h k,aso i x v h k=ob x λa=>ob (ev a) λb=>ob (bZ i b) λc=>ob (st 1 c v h) k)/\
 (∀o t x y k,cn o t x y k=ob (bin ao o t x y) k)/\(∀o t x v k,cB o t x v k=ob x λa=>ob (bin ao o t a v) k)/\(∀o t x y k,oC o t x y k=ob x λa=>ob y λb=>ob (bin ao o t a b) k)/\
 (∀o t x y p q,eH o t x y p q=ob (bin ao o t x y) λz=>gn z p q)/\(∀o t x v p q,hC o t x v p q=ob x λa=>ob (bin ao o t a v) λz=>gn z p q)/\
 (∀o t x y p q,lb o t x y p q=ob x λa=>ob y λb=>ob (bin ao o t a b) λz=>gn z p q)/\(∀y p q,fM y p q=ob (ib .not y) λz=>gn z p q)/\
 (∀s v x k,k6 s v x k=ob x λa=>ob (dQ s v a) k)/\(∀s i v x h k,J6 s i v x h k=ob x λa=>ob (dQ s v a) λb=>ob (bZ i b) λc=>ob (bO c h) k)/\(∀s v x h k,sG s v x h k=ob x λa=>ob (dQ s v a) λb=>ob (bO b h) k)/\
 (∀t x k,nH t x k=ob x λa=>ob (eG ao t a) k)/\(∀y k,cy y k=ob (ext 0 y) λa=>ob (ext 1 y) λb=>k a b)/\
 (∀y e h k,b3 y e h k=dL (cT true (some y) (ob e λa=>some (.ret a,h)) h) k)/\(∀y e h k,dI y e h k=dL (cT false (some y) (ob e λa=>some (.ret a,h)) h) k)/\
 (∀o t y x v h k,jf o t y x v h k=b3 y x h λa h=>b3 y (bin ao o t a v) h k)/\(∀o t y x v h k,jg o t y x v h k=dI y x h λa h=>dI y (bin ao o t a v) h k)/\
 (∀i y x h k,u4 i y x h k=b3 y x h λa h=>b3 y (ev a) h λb h=>b3 y (bZ i b) h λc h=>b3 y (bO c h) h k)/\(∀i y x h k,adw i y x h k=dI y x h λa h=>dI y (ev a) h λb h=>dI y (bZ i b) h λc h=>dI y (bO c h) h k)/\
 (∀y z k,hA y z k=ob (jH y z (.bool false)) k)/\(∀y z k,mI y z k=ob (jH y (.bool true) z) k)/\(∀y z p q,qn y z p q=ob (jH y z (.bool false)) λc=>gn c p q)/\(∀y z p q,mN y z p q=ob (jH y (.bool true) z) λc=>gn c p q)/\
 (∀i a k,ef i a k=ob (ev a) λb=>ob (bZ i b) k)/\(∀i a h k,um i a h k=ob (ev a) λb=>ob (bZ i b) λc=>ob (bO c h) k)/\(∀i a v h k,vq i a v h k=ob (ev a) λb=>ob (bZ i b) λc=>ob (st 1 c v h) k)/\
 (∀t a k,jX t a k=ob (eG ao t a) k)/\(∀o t v x k,zH o t v x k=ob x λa=>ob (bin ao o t v a) k)/\(∀o t v x p q,aiK o t v x p q=ob x λa=>ob (bin ao o t v a) λz=>gn z p q)/\(∀C n l h k,cJ C n l h k=dL (C (.fn n) l h) k)/\
 (∀C n x h k,aP C n x h k=ob x λa=>dL (C (.fn n) [a] h) k)/\(∀C n x y h k,a1 C n x y h k=ob x λa=>ob y λb=>dL (C (.fn n) [a,b] h) k)/\
 (∀C n x y z h k,cm C n x y z h k=ob x λa=>ob y λb=>ob z λc=>dL (C (.fn n) [a,b,c] h) k)/\(∀C n x y z u h k,cb C n x y z u h k=ob x λa=>ob y λb=>ob z λc=>ob u λd=>dL (C (.fn n) [a,b,c,d] h) k)
theorem cf:YN:=by
 refine⟨?_,?_,?_,?_,?_,?_,?_,?_,?_,?_,?_,?_,?_,?_,?_,?_,?_,?_,?_,?_,?_,?_,?_,?_,?_,?_,?_,?_,?_,?_,?_,?_,?_,?_,?_,?_,?_,?_⟩<;>intros<;>rfl
theorem aA:(∀{α:Type} (x:α) (k:α->ab),ob (some x) k=k x)/\(∀(y:U) (h:J) (k:U->J->ab),b2 (some (y,h)) k=k y h)/\(∀(y:U) (h:J) (k:U->J->ab),dL (some (.ret y,h)) k=k y h)/\(∀(y:U) (h:J) (k:U->J->ab),cM (some (.ret y,h)) k=k y h)/\
 (∀(r:ab) (h:J),cT true (some (.bool true)) r h=r)/\(∀(r:ab) (h:J),cT false (some (.bool false)) r h=r)/\(∀(r:ab) (h:J),cT true (some (.bool false)) r h=some (.ret (.val undef),h))/\(∀(r:ab) (h:J),cT false (some (.bool true)) r h=some (.ret (.val undef),h))/\
 (∀a b:U,jH (.bool true) a b=some a)/\(∀a b:U,jH (.bool false) a b=some b)/\(∀a b:ab,gn (.bool true) a b=a)/\(∀a b:ab,gn (.bool false) a b=b)/\(∀k off:Nat,ev (.ptr k off)=some (.ptr k off))/\(∀qH k off:Nat,bZ qH (.ptr k off)=some (.ptr k (off+qH)))/\
 (∀(k off:Nat) (h:J),bO (.ptr k off) h=h.cell k off)/\(∀(i:Nat) (vs:List U),ext i (.bm vs)=vs[i]?)/\(∀(i:Nat) (vs:List U),HZ i (.agg vs)=vs[i]?)/\(∀b:Bool,ib .not (.bool b)=some (.bool (!b)))/\
 (∀{P:Program} {t:TypeId} {k:IntKind} {a b:Int},bin P .add t (.int k a) (.int k b)=some (.int k (k.wrap (a+b))))/\(∀{P:Program} {t:TypeId} {k:IntKind} {a b:Int},bin P .sub t (.int k a) (.int k b)=some (.int k (k.wrap (a-b))))/\(∀{P:Program} {t:TypeId} {k:IntKind} {a b:Int},bin P .mul t (.int k a) (.int k b)=some (.int k (k.wrap (a*b))))/\
 (∀{P:Program} {t:TypeId} {k:IntKind} {a b:Int},bin P .eql t (.int k a) (.int k b)=some (.bool (decide (a=b))))/\(∀{P:Program} {t:TypeId} {k:IntKind} {a b:Int},bin P .neq t (.int k a) (.int k b)=some (.bool (decide (a≠b))))/\(∀{P:Program} {t:TypeId} {k:IntKind} {a b:Int},bin P .lss t (.int k a) (.int k b)=some (.bool (decide (a<b))))/\
 (∀{P:Program} {t:TypeId} {k:IntKind} {a b:Int},bin P .leq t (.int k a) (.int k b)=some (.bool (decide (a<=b))))/\(∀{P:Program} {t:TypeId} {k:IntKind} {a b:Int},bin P .gtr t (.int k a) (.int k b)=some (.bool (decide (b<a))))/\(∀{P:Program} {t:TypeId} {k:IntKind} {a b:Int},bin P .geq t (.int k a) (.int k b)=some (.bool (decide (b<=a))))/\
 (∀n:Nat,0+n=n)/\(∀n:Nat,n*1=n)/\YN:=
 ⟨b8,ns,ks,CX,Qh,aox,aoA,aoy,Yu,aF3,sX,qs,sK,r7,pf,qC,anZ,aje,rZ,alJ,N0,NZ,C0,r0,alH,AK,ZJ,Nat.zero_add,Nat.mul_one,cf⟩
def hE(h:J):Prop:=0<h.aO/\∀i,i<64->h.cell 0 i=some (.int .u8 (Lib.deBruijn64tab.getD i 0:Nat))
theorem aED{h:J}{j z:Nat}(r:aw)(aN:hE h)(h3:j<64)(aT:Lib.deBruijn64tab.getD j 0=z)(bz:z<64):
 (DK h.aO 0 λtg=>ob (eu 64 1 tg (.int .u64 (j:Int))) λYl=>ob (bO Yl h) λMq=>ob (yq .i64 Mq) λGp=>r (some Gp) h)=r (some (I (z:Int))) h:=by
 have bc:Nat.blt 0 h.aO=true:=by rw[Nat.blt_eq];exact aN.1
 have ek:=aN.2 _ h3;rw[aT] at ek;have bW:=l1 (n:=64) (s:=1) (k:=0) (off:=0) (kd:= .u64) (i:=(j:Int)) (by omega) (by omega);simp only[DK,bc,cond_true,bW,b8,pf,Int.toNat_natCast,Nat.zero_add,Nat.mul_one,ek,yq,fP];rw[wrap_i64 (by omega) (by omega)]
theorem aEC{C:ad}{lf x:Nat}{h:J}(ax:x<2 ^ 64)(aN:hE h):IL C lf (.int .u64 (x:Int)) h=some (.ret (I (Lib.ctz 64 x:Nat)),h):=by
 unfold IL Vm Pq;simp only[cf,b8,NZ];by_cases h0:x=0
 ·subst h0;simp[Lib.ctz]
 ·have sb:decide ((x:Int)=0)=false:=br (by omega);obtain⟨h1,h2⟩:=Lib.lowest_bit 64 x h0 ax;obtain⟨h3,aT⟩:=Lib.deBruijn64_at _ h2;have a9:2 ^ 64-x<2 ^ 64:=by omega
  rw[sb,qs];simp only[cf,arY h0 ax,b8,NY ax a9,h1,N0,arQ];have ak:=N2 (P:=ao) (t:=55) (k:= .u64) (a:=2 ^ Lib.ctz 64 x*285870213051353865%18446744073709551616) (b:=58) (by omega);have aI:(2:Nat) ^ 58=288230376151711744:=by decide
  rw[aI] at ak;generalize 2 ^ Lib.ctz 64 x*285870213051353865%18446744073709551616=m at *;have Eo:bin ao .shr 55 (.int .u64 (m:Int)) (.int .u64 58)=some (.int .u64 ((m/288230376151711744:Nat):Int)):=ak;rw[Eo];generalize m/288230376151711744=j at *;rw[b8];exact aED (λx h=>ob x λah=>some (.ret ah,h)) aN h3 aT h2
structure dV (h:J) (k cr n:Nat) (wd b:Nat->Nat):Prop where
 cA:1<=n
 ck:n<=4096
 dO:h.cell k 0=some (I (n:Int))
 ts:∀i,i<64->h.cell k (1+i)=some (.int .u64 (wd i:Int))
 iF:∀i,wd i<2 ^ 64
 out:∀i c,i<64->c<64->n<=64*i+c->(wd i).testBit c=false
 cs:∃cap,h.cell k 65=some (.aF cr 0 n cap 0)
 qq:h.wr k 66
 uE:h.wr cr (n*64)
 wu:∀j,j<n*64->h.cell cr j=some (.int .u8 (b j:Int))
 blt:∀j,b j<256
 ne:k≠cr
 sA:k<h.next
 ra:cr<h.next
def bP(wd:Nat->Nat)(i:Nat):Bool:=(wd (i/64)).testBit (i%64)
section
variable{lf m:Nat}{h:J}{k cr n:Nat}{wd b:Nat->Nat}
def rR(C:ad):Prop:=∀h k cr n wd b,dV h k cr n wd b->C (.fn 63) [.ptr k 0] h=some (.ret (.bool true),h)
theorem arH{C:ad}{lf:Nat}(S:dV h k cr n wd b):IK C lf (.ptr k 0) h=some (.ret (.bool true),h):=by
 have h1:=S.cA;have ca:=N1 (k:=k) (off:=0) Tryd.underlying25;unfold IK Vl Pp;simp only[cf,b8,ca,Qh,ks,sK,r7,pf,Nat.zero_add,S.dO,AK,Yu];simp;omega
def gS(n:Nat)(wd:Nat->Nat)(i:Int):Bool:=decide (0<=i)&&(decide (i<n)&&bP wd i.toNat)
def x4(C:ad):Prop:=∀h k cr n wd b i,dV h k cr n wd b-> -9223372036854775808<=i->i<9223372036854775808->C (.fn 33) [.ptr k 0,I i] h=some (.ret (.bool (gS n wd i)),h)
theorem aq8{C:ad}{lf:Nat}(hm:rR C)(S:dV h k cr n wd b){i:Int}:Iv C lf (.ptr k 0) (I i) h=some (.ret (.bool (gS n wd i)),h):=by
 have h1:=S.cA;have h2:=S.ck;unfold Iv Ue O2;simp only[aA,hm _ _ _ _ _ _ S];by_cases h3:0<=i
 ·by_cases aT:i<n
  ·have bz:0<=i/64:=by omega
   have bA:i/64<64:=by omega
   have dN:IntKind.i64.wrap (i.tdiv 64)=i/64:=by
    rw[Int.tdiv_eq_ediv_of_nonneg h3];exact wrap_i64 (by omega) (by omega)
   have e0:i.tmod 64=((i.toNat%64:Nat):Int):=by
    rw[Int.tmod_eq_emod_of_nonneg h3];omega
   have nz:(i/64).toNat=i.toNat/64:=by omega
   have o3:=S.ts (i.toNat/64) (by omega);have lC:=S.iF (i.toNat/64);have bW:=l1 (n:=64) (s:=1) (k:=k) (off:=1) (kd:= .i64) bz bA;rw[nz,Nat.mul_one] at bW;have zh:=N2 (P:=ao) (t:=55) (k:= .i64) (a:=wd (i.toNat/64)) (b:=i.toNat%64) (by omega);have a9:wd (i.toNat/64)/2 ^ (i.toNat%64)<2 ^ 64:=Nat.lt_of_le_of_lt (Nat.div_le_self _ _) lC;have Jm:=NY (P:=ao) (t:=55) a9 (show 1<2 ^ 64 by omega);have ag:=alL (a:=wd (i.toNat/64)) (b:=i.toNat%64)
   have a2:decide (((wd (i.toNat/64)/2 ^ (i.toNat%64)&&& 1:Nat):Int)=1)=bP wd i.toNat:=by
    unfold bP;cases aN:(wd (i.toNat/64)).testBit (i.toNat%64) with
    |true=>
     have:=ag.2 aN
     rw[this];rfl
    |false=>
     have:¬(wd (i.toNat/64)/2 ^ (i.toNat%64)&&& 1=1):=λe=>by rw[ag.1 e] at aN;cases aN
     exact br (by omega)
   have aQ:gS n wd i=bP wd i.toNat:=by simp only[gS,h3,aT,decide_true,Bool.true_and]
   rw[aQ, <- a2];generalize wd (i.toNat/64)/2 ^ (i.toNat%64)=z at *;have aph:bin ao .and 55 (.int .u64 (z:Int)) (.int .u64 1)=some (.int .u64 ((z&&& 1:Nat):Int)):=Jm;simp only[h3,aT,decide_true,aA,lV (show(64:Int)≠0 by omega),ih (show(64:Int)≠0 by omega),dN,e0,S.dO,bW,o3,zh,aph]
  ·have:gS n wd i=false:=by simp[gS,aT]
   simp only[h3,aT,decide_true,decide_false,this,aA,S.dO]
 ·have:gS n wd i=false:=by simp[gS,h3]
  simp only[h3,decide_false,this,aA]
end
end Go.Proofs.YtomialandfplkaaDoor.Eva
namespace Go.Xe
def cI(ty:TypeId)(cs:List U):bH:={cq:=0,ty,n:=cs.length,loose:=false,esz:=1,ro:=false,mZ:=λ_=>none,fL:=qo cs,sp:= .cells}
def iU(ty:TypeId)(n:Nat)(zs:List U):bH:={cq:=0,ty,n,loose:=false,esz:=1,ro:=false,mZ:=λi=>(qo zs).get (i%zs.length),fL:= .nil,sp:= .cells}
def kH(ty:TypeId)(esz:Nat)(cs:List U):bH:={cq:=0,ty,n:=cs.length,loose:=true,esz,ro:=false,mZ:=λ_=>none,fL:=qo cs,sp:= .cells}
theorem ajb(cs:List U)(i:Nat):(qo cs).get i=cs[i]?:=by
 unfold qo;rw[yJ];by_cases h:i<cs.length
 ·rw[if_pos ⟨Nat.zero_le _,by omega⟩];simp
 ·rw[if_neg (by omega),List.getElem?_eq_none (by omega)];rfl
theorem nK(ty:TypeId)(cs:List U)(i:Nat):(cI ty cs).get i=cs[i]?:=by
 unfold cI bH.get;simp only[ajb];cases ag:Nat.blt i cs.length with
 |true=>
  have:i<cs.length:=by rw[Nat.blt_eq] at ag;exact ag
  simp[List.getElem?_eq_getElem this]
 |false=>
  have:¬i<cs.length:=λh=>by rw[<- Nat.blt_eq,ag] at h;cases h
  simp[List.getElem?_eq_none (by omega:cs.length<=i)]
theorem zx(ty:TypeId)(e:Nat)(cs:List U)(i:Nat):(kH ty e cs).get i=cs[i]?:=nK ty cs i
theorem zL(ty:TypeId){n i:Nat}(zs:List U)(hi:i<n):(iU ty n zs).get i=zs[i%zs.length]?:=by
 unfold iU bH.get;have ag:Nat.blt i n=true:=by rw[Nat.blt_eq];exact hi
 simp only[ag,cond_true,aH.get,ajb]
section
variable{P:Program}
theorem uJ{e:TypeId}{x:U}{h:J}(au:x.flat=true):pB e x h=some (.ptr h.next 0,h.new (cI e x.cells)):=by
 unfold pB qi;simp only[au,cond_true,newRow,force_eq];rfl
theorem oI{e:TypeId}{z:Value}{h:J}(aX:gC P e=some z):j0 P e h=some (.ptr h.next 0,h.new (cI e (c1 z).cells)):=by
 unfold j0 qg;simp only[aX,newRow,force_eq];rfl
theorem Ai{t e s b:Nat}{z:Value}{k1 k2:IntKind}{l c:Nat}{h:J}(hu:P.underlying t=some (.slice e))(ak:eg P e=some s)(aX:gC P e=some z)(ag:oG P e=some b)
 (h1:l<=c)(h2:c*b<=140737488355328)(h3:c<=140737488355328)(aT:(c1 z).cells.length=s)(bz:1<=s):
 nN P t (.int k1 (l:Int)) (.int k2 (c:Int)) h=some (.aF h.next 0 l (some c) 0,h.new (iU e (c*s) (c1 z).cells)):=by
 have az:kl (.int k1 (l:Int))=some l:=rfl;have ay:kl (.int k2 (c:Int))=some c:=rfl
 have b9:(Nat.ble l c&&Nat.ble (c*b) 140737488355328&&Nat.ble c 140737488355328&&Nat.beq (c1 z).cells.length s&&Nat.ble 1 s)=true:=by
  simp only[Nat.ble_eq_true_of_le h1,Nat.ble_eq_true_of_le h2,Nat.ble_eq_true_of_le h3,Nat.ble_eq_true_of_le bz,aT,Nat.beq_refl,Bool.and_self]
 unfold nN qj;simp only[hu,az,ay,ak,aX,ag,b9,cond_true,nh,force_eq];rfl
end
theorem hW{h:J}{o:bH}(aQ:o.ro=false):(h.new o).wr h.next o.n:=⟨o.mt,by rw[rh,if_pos rfl],aQ,rfl⟩
theorem uF{h:J}{o:bH}{k N:Nat}(hw:h.wr k N)(ai:k≠h.next):(h.new o).wr k N:=by
 obtain⟨m,h1,h2,h3⟩:=hw;exact⟨m,by rw[rh,if_neg ai];exact h1,h2,h3⟩
theorem jx(h:J)(o:bH)(i:Nat):(h.new o).cell h.next i=o.get i:=by rw[ZY,if_pos rfl]
theorem yo{h:J}{o:bH}{k:Nat}(ai:k≠h.next)(i:Nat):(h.new o).cell k i=h.cell k i:=by rw[ZY,if_neg ai]
def GF(x:U):Prop:=x= .val (.slice none 0 0)\/∃k,x= .la k
def Bytes(h:J)(x:U)(l:List Nat):Prop:=(∀c∈l,c<256)/\((GF x/\l=[])\/
 ∃bB ob cap lo m,x= .aF bB ob l.length cap lo/\h.mt bB=some m/\∀j,j<l.length->h.cell bB (ob+j)=some (.int .u8 (l.getD j 0:Nat)))
def hD(l:List Nat):List U:=l.map λ(c:Nat)=>U.int .u8 (c:Int)
theorem sP(l:List Nat):(hD l).length=l.length:=by simp[hD]
theorem Ge(l:List Nat){j:Nat}(aa:j<l.length):(hD l)[j]?=some (.int .u8 (l.getD j 0:Nat)):=by simp[hD,List.getD,aa]
theorem Mf(l:List Nat):dB (hD l)=true:=by
 unfold hD
 induction l with
 |nil=>rfl
 |cons c l bp=>simp[dB,bp,U.one]
theorem aEE(l:List Nat)(n:Nat):(hD l).take n=hD (l.take n):=by simp[hD,List.map_take]
section
variable{P:Program}
theorem re{h:J}{x:U}{l:List Nat}{t e:TypeId}(hu:P.underlying t=some (.slice e))(B:Bytes h x l):eG P t x=some (.int .i64 (l.length:Int)):=by
 rcases B.2 with⟨rfl|⟨k,rfl⟩,rfl⟩|⟨bB,ob,cap,lo,m,rfl,_⟩
 ·simp[eG,hu,fP]
 ·simp[eG,hu]
 ·simp[eG,hu]
theorem ZS{h:J}{bB ob:Nat}{l:List Nat}(ae:∀j,j<l.length->h.cell bB (ob+j)=some (.int .u8 (l.getD j 0:Nat))):h.cells bB ob l.length=some (hD l):=
 jy (sP l) λj aa=>by rw[ae j aa,Ge l aa]
theorem HU{h:J}{x:U}{l:List Nat}(B:Bytes h x l):jv h.x0 1 x=some (l.length,hD l):=by
 rcases B.2 with⟨rfl|⟨k,rfl⟩,rfl⟩|⟨bB,ob,cap,lo,m,rfl,hm,ae⟩
 ·simp[jv,hD]
 ·simp[jv,hD]
 ·unfold J.mt at hm;cases aq:h.aV.get bB with
  |none=>simp[aq] at hm
  |some o=>
   simp only[jv,J.py,aq,Nat.mul_one,zw aq,ZS ae]
theorem amS{h:J}{x:U}{l:List Nat}{t t2 e kd od ld N lo:Nat}{cap:Option Nat}(hu:P.underlying t=some (.slice e))(ak:eg P e=some 1)(B:Bytes h x l)(hw:h.wr kd N)(ag:od+ld<=N):
 eX P .copy #[t,t2] [.aF kd od ld cap lo,x] h=some (.int .i64 ((min l.length ld:Nat):Int),h.set kd od (hD (l.take (min l.length ld)))):=by
 obtain⟨md,mA,aQ,aR⟩:=hw;unfold J.mt at mA;cases aq:h.aV.get kd with
 |none=>simp[aq] at mA
 |some o=>
  simp only[aq,Option.some.injEq] at mA;subst mA;simp only[bH.mt] at aQ aR;have h2:Nat.beq (hD l).length l.length=true:=by rw[sP];exact Nat.beq_refl _
  have h1:Nat.ble (od+ld) o.n=true:=Nat.ble_eq_true_of_le (by omega);have av:ja P .copy #[t,t2] [.aF kd od ld cap lo,x] h.x0=rC P t (.aF kd od ld cap lo) x h.x0:=rfl;unfold eX;rw[av];unfold rC;simp only[hu,ak,HU B,h2,Mf,Bool.and_self,cond_true,J.py,aq,force_eq,h1,aQ,Bool.not_false,Nat.mul_one];unfold J.set;simp only[aq,ET,aEE,aQ];rfl
theorem aCT{t e s n k off l:Nat}{kd:IntKind}(hu:P.underlying t=some (.array n e))(ak:eg P e=some s)(aJ:l<=n):
 ∃sH,gl P t (.ptr k off) (some (.int kd (l:Int))) none=some (.aF k sH (n-l) (some (n-l)) 0)/\(l<n->sH=off+l*s)/\(l=n->sH=off):=by
 have h0:kl (.int kd (l:Int))=some l:=rfl
 have h1:sliceB n n (some (.int kd (l:Int))) none=some (l,n):=by
  simp only[sliceB,h0]
  have:(Nat.ble n n&&Nat.ble l n)=true:=by simp[Nat.ble_eq_true_of_le aJ]
  simp only[this,cond_true]
 unfold gl;simp only[hu,ak,h1,qm,force_eq];by_cases h2:n-l=0
 ·refine⟨off,?_,λh=>by omega,λ_=>rfl⟩
  have:Nat.beq (n-l) 0=true:=by rw[h2];rfl
  simp only[this,cond_true]
 ·refine⟨off+l*s,?_,λ_=>rfl,λh=>by omega⟩
  have:Nat.beq (n-l) 0=false:=by
   cases ag:Nat.beq (n-l) 0 with
   |false=>rfl
   |true=>exact absurd (Nat.eq_of_beq_eq_true ag) h2
  simp only[this,cond_false]
end
theorem Bytes.frame{h h':J}{x:U}{l:List Nat}(B:Bytes h x l)(ak:∀bB ob len cap lo,x= .aF bB ob len cap lo->ct h h' bB):Bytes h' x l:=by
 refine⟨B.1,?_⟩;rcases B.2 with h1|⟨bB,ob,cap,lo,m,ax,hm,ae⟩
 ·exact .inl h1
 ·have e:=ak bB ob _ cap lo ax;exact .inr ⟨bB,ob,cap,lo,m,ax,by rw[e.mt];exact hm,λj aa=>by rw[e.cell];exact ae j aa⟩
section
open Go.ChangeShapes Go.WideShapes Go.ChangeAt Go.RowKit
section
variable{P:Program}{H:Type}{enc:TypeId×Value->H}{w:World}
theorem ae5{aO id off l c:Nat}(ag:id<aO)(ae:¬(l=0/\c=0)):lift aO (.slice (some ⟨id,off,none⟩) l c)= .aF id off l (some c) 0:=by
 have iP:Nat.blt id aO=true:=by rw[Nat.blt_eq];exact ag
 cases l with
 |zero=>cases c with
  |zero=>exact absurd ⟨rfl,rfl⟩ ae
  |succ c=>simp only[lift,iP,cond_true]
 |succ l=>simp only[lift,iP,cond_true]
theorem aeF{id off:Nat}{x:Value}(h:w.cell? ⟨id,off,none⟩=some x):∃m,(hf w).mt id=some m:=by
 unfold World.cell? at h;split at h
 ·rename_i cs ty DG hS;exact⟨(zJ w.heap.size cs ty).mt,by unfold J.mt;rw[Ex];simp only at hS;rw[hS]⟩
 ·cases h
theorem ZX{a:Addr}{x:Value}(h:w.cell? a=some x):a.block<w.heap.size:=by
 unfold World.cell? at h;split at h
 ·rename_i cs ty DG hS;exact(Array.getElem?_eq_some_iff.1 hS).1
 ·cases h
theorem yj(id off j:Nat):(Addr.add ⟨id,off,none⟩ j)=⟨id,off+j,none⟩:=by
 unfold Addr.add;by_cases e:j=0
 ·subst e;rfl
 ·rw[if_neg e]
theorem NQ{a:Addr}(h:(a.add 0).spot=none):a.spot=none:=by
 simpa[Addr.add] using h
def mQ:U->Prop
 | .aF _ _ len (some c) _=>len<=c
 |_=>True
theorem al1{t e fuel:Nat}{v:Value}{d:DataW H}{ps:List MemPlace}(aN:P.underlying t=some (.slice e))(he:P.underlying e=some (.int .u8))(ae:P.cellsOf e=1)
 (au:DataW.trod enc P w 0 (λ_=>true) true fuel t [v]=some (d,ps)):
 ∃l:List Nat,Bytes (hf w) (lift w.heap.size v) l/\mQ (lift w.heap.size v)/\vo w.heap.size v=lift w.heap.size v/\((d= .nil/\l=[])\/∃el sp,d= .slice el sp/\el.length=l.length):=by
 rcases open_ints aN he ae au with⟨en,ax⟩|⟨a,len,cap,zs,en,_,aJ,hm,aX,ax,ek,aqL⟩
 ·simp only[List.cons.injEq,and_true] at en;subst en;exact⟨[],⟨λc ae=>by simp at ae,.inl ⟨.inl rfl,rfl⟩⟩,trivial,rfl,.inl ⟨(Prod.mk.inj ax).1,rfl⟩⟩
 ·simp only[List.cons.injEq,and_true] at en;subst en;have aX:zs.length=cap:=by simpa using aX
  have aI:=(Prod.mk.inj ax).1;by_cases h0:len=0/\cap=0
  ·obtain⟨rfl,rfl⟩:=h0;exact⟨[],⟨λc ae=>by simp at ae,.inl ⟨.inr ⟨0,rfl⟩,rfl⟩⟩,trivial,rfl,.inr ⟨_,_,aI,by simp[lits]⟩⟩
  ·have aB:0<cap:=by omega
   obtain⟨id,off,spot⟩:=a;have ak:spot=none:=NQ (World.cell?_spot (ek 0 (by omega)));subst ak
   have tN:id<w.heap.size:=by
    have:=ZX (ek 0 (by omega))
    rw[yj] at this;exact this
   have ax:=ae5 (off:=off) tN h0
   have aeG:∀n∈zs,0<=n/\n<256:=λn aR=>by
    have:=aqL n aR
    simp only[Lit.wf,IntKind.min,IntKind.max,IntKind.signed,IntKind.bits] at this;simp at this;omega
   obtain⟨m,za⟩:∃m,(hf w).mt id=some m:=aeF (off:=off+0) (by rw[<- yj];exact ek 0 (by omega));refine⟨(zs.take len).map Int.toNat,⟨λc ae=>?_,.inr ⟨id,off,some cap,0,m,?_,za,λj aa=>?_⟩⟩,?_,rfl,.inr ⟨_,_,aI,by simp[lits]⟩⟩
   ·simp only[List.mem_map] at ae;obtain⟨n,aR,rfl⟩:=ae
    have:=aeG n (List.mem_of_mem_take aR)
    omega
   ·have hlen:((zs.take len).map Int.toNat).length=len:=by simp;omega
    rw[hlen,ax]
   ·have hb:j<zs.length:=by simp at aa;omega
    have h1:=ek j hb;rw[yj] at h1;rw[Rm,h1];have bc:zs.getD j 0=zs[j]:=by simp[List.getD,hb]
    have aR:=aeG zs[j] (List.getElem_mem hb);have kC:j<len:=by simp at aa;omega
    have gf:((zs.take len).map Int.toNat).getD j 0=zs[j].toNat:=by simp[List.getD,hb,kC]
    rw[bc,gf,Option.map_some];show some (U.int .u8 zs[j])=_;congr 2;omega
   ·rw[ax];exact aJ
end
end
def rowOf:U->Option Nat
 | .aF k _ _ _ _=>some k
 |_=>none
def iY(h:J):Prop:=∀j,h.next<=j->h.aV.get j=none
theorem qJ{h:J}(au:iY h)(k off:Nat)(ys:List U):iY (h.set k off ys):=λj aa=>by
 rw[dz] at aa;cases aq:h.aV.get k with
 |none=>
  have:h.set k off ys=h:=by unfold J.set;rw[aq]
  rw[this];exact au j aa
 |some o=>
  have ai:j≠k:=λe=>by
   rw[e] at aa;rw[au k aa] at aq;cases aq
  rw[gr _ _ _ ai];exact au j aa
theorem qI{h:J}(au:iY h)(o:bH):iY (h.new o):=λj aa=>by
 rw[e7] at aa;rw[iT h o (by omega)];exact au j (by omega)
theorem aoo(w:World):iY (hf w):=λ_ aa=>JI w aa
structure Ny (h:J) (k e sz len:Nat) (ys:List U):Prop where
 lt:k<h.next
 mt:∃m,h.mt k=some m/\m.ty=e/\len*sz=m.n/\m.loose=true/\m.esz=sz/\m.ro=false
 cs:∀j,j<len*sz->h.cell k j=ys[j]?
def ha(h:J)(e sz:Nat)(x:U)(len:Nat)(ys:List U):Prop:=ys.length=len*sz/\((x= .val (.slice none 0 0)/\len=0)\/∃k,x= .aF k 0 len none 0/\Ny h k e sz len ys)
theorem ha.nil(h:J)(e sz:Nat):ha h e sz (.val (.slice none 0 0)) 0 []:=⟨by simp,.inl ⟨rfl,rfl⟩⟩
theorem ha.frame{h h':J}{e sz len:Nat}{x:U}{ys:List U}(S:ha h e sz x len ys)(aR:h.next<=h'.next)(ak:∀k,rowOf x=some k->ct h h' k):ha h' e sz x len ys:=by
 refine⟨S.1,?_⟩;rcases S.2 with h1|⟨k,rfl,h2⟩
 ·exact .inl h1
 ·have az:=ak k rfl;obtain⟨m,hm,aQ⟩:=h2.mt;exact .inr ⟨k,rfl,Nat.lt_of_lt_of_le h2.lt aR,⟨m,by rw[az.mt];exact hm,aQ⟩,λj aa=>by rw[az.cell];exact h2.cs j aa⟩
theorem ha.iq{h:J}{e sz len:Nat}{x:U}{ys:List U}(S:ha h e sz x len ys){k:Nat}(ai:rowOf x=some k):k<h.next:=by
 rcases S.2 with⟨rfl,_⟩|⟨b6,rfl,h2⟩
 ·cases ai
 ·cases ai;exact h2.lt
section
variable{P:Program}{t u e sz b:Nat}{z:Value}{d:TypeDesc}{h:J}{x y:U}{n:Nat}{news:List U}
structure mf (P:Program) (t u e sz b:Nat):Prop where
 hu:P.underlying t=some (.slice e)
 ak:eg P e=some sz
 aX:∃z,gC P e=some z/\(c1 z).cells.length=sz
 ag:oG P e=some b
 aI:∃d,P.underlying u=some d/\sF d=true
 h1:1<=sz
theorem Cx(T:mf P t u e sz b)(he:jv h.x0 sz y=some (n,news))(gq:news.length=n*sz)(fm:dB news=true):
 eX P .append #[t,u] [x,y] h=ax (match x with
  | .val (.slice none a c)=>bif Nat.beq a 0&&Nat.beq c 0 then(bif Nat.beq n 0 then some (.val (.slice none 0 0),h.x0) else nZ e sz b n news h.x0) else none
  | .aF k off len cap lo=>kR e sz b k off len cap lo n news h.x0
  | .la k=>bif Nat.beq n 0 then some (.la k,h.x0) else none
  |_=>none):=by
 obtain⟨hu,ak,⟨z,aX,ff⟩,ag,⟨d,aI,o6⟩,h1⟩:=T
 have av:ja P .append #[t,u] [x,y] h.x0=po P t x y h.x0:=by
  show(match P.underlying u with|some d=>bif sF d then po P t x y h.x0 else(bif vM d then qh P t x y h.x0 else none)|none=>none)=_;simp only[aI,o6,cond_true]
 have aP:(Nat.ble 1 sz&&(Nat.beq news.length (n*sz)&&(dB news&&Nat.beq (c1 z).cells.length sz)))=true:=by
  rw[Nat.ble_eq_true_of_le h1,gq,ff,fm,Nat.beq_refl,Nat.beq_refl];rfl
 unfold eX;rw[av];unfold po;simp only[hu,ak,aX,ag,he,aP,cond_true];rfl
theorem Hu{eo:Nat}{cells:List U}(h1:eo<=140737488355328)(h2:eo*b<=140737488355328):ax (nZ e sz b eo cells h.x0)=some (.aF h.next 0 eo none 0,h.new (kH e sz cells)):=by
 have:(Nat.ble eo 140737488355328&&Nat.ble (eo*b) 140737488355328)=true:=by rw[Nat.ble_eq_true_of_le h1,Nat.ble_eq_true_of_le h2];rfl
 unfold nZ;simp only[this,cond_true,ng,force_eq];rfl
theorem aCR{eo:Nat}{cells:List U}(aJ:cells.length=eo*sz):Ny (h.new (kH e sz cells)) h.next e sz eo cells:=
 ⟨by simp,⟨_,by rw[rh,if_pos rfl],rfl,aJ.symm,rfl,rfl,rfl⟩,λj aa=>by rw[jx,zx]⟩
def Bd(o:bH)(N off:Nat)(news:List U):bH:={o with cq:=0,n:=N,fL:=hl o.fL off news}
def J.grow(h:J)(k N off:Nat)(news:List U)(o:bH):J:=⟨h.aO,h.next+1,(h.aV.del k).put h.next (Bd o N off news)⟩
theorem aoM(o:bH){N off i:Nat}(news:List U)(jQ:off+news.length=N)(aq:off<=o.n)(hi:i<N):(Bd o N off news).get i=if i<off then o.get i else news[i-off]?:=by
 obtain⟨cq,ty,n,loose,esz,ro,mZ,fL,sp⟩:=o;simp only at aq;simp only[Bd,bH.get];have ag:Nat.blt i N=true:=by rw[Nat.blt_eq];exact hi
 simp only[ag,cond_true];rw[yJ];by_cases a9:i<off
 ·have ka:Nat.blt i n=true:=by rw[Nat.blt_eq];omega
  rw[if_neg (by omega),if_pos a9];simp only[ka,cond_true]
 ·have:i-off<news.length:=by omega
  rw[if_pos (by omega),if_neg a9,List.getElem?_eq_getElem this]
theorem alb{k len:Nat}{ys:List U}(eU:ys.length=len*sz)(A:Ny h k e sz len ys)(gq:news.length=n*sz)
 (ae:len+n<=140737488355328)(qT:(len+n)*b<=140737488355328):
 ∃bF h',ax (kR e sz b k 0 len none 0 n news h.x0)=some (bF,h')/\ha h' e sz bF (len+n) (ys++news)/\h.next<=h'.next/\h'.aO=h.aO/\
  (∀j,j<h.next->rowOf (.aF k 0 len none 0)≠some j->ct h h' j)/\(∀j,rowOf bF=some j->rowOf (.aF k 0 len none 0)=some j\/h.next<=j)/\(iY h->iY h'):=by
 have hlen:(ys++news).length=(len+n)*sz:=by rw[List.length_append,eU,gq,Nat.add_mul]
 obtain⟨m,hm,hU,hH,zy,oA,p8⟩:=A.mt;have ael:h.mt k=some m:=hm;unfold J.mt at hm;cases aq:h.aV.get k with
 |none=>simp[aq] at hm
 |some o=>
  simp only[aq,Option.some.injEq] at hm;subst hm;simp only[bH.mt] at hU hH zy oA p8;have aqK:h.wr k o.n:=⟨o.mt,ael,p8,rfl⟩;have ek:∀j,o.get j=h.cell k j:=λj=>by unfold J.cell;rw[aq]
  have a9:=A.lt
  have bY:(Nat.beq 0 0&&(Nat.beq 0 0&&(Nat.beq o.esz sz&&(o.loose&&(!o.ro&&Nat.beq o.ty e)))))=true:=by
   rw[oA,zy,p8,hU,Nat.beq_refl,Nat.beq_refl,Nat.beq_refl];rfl
  have hmul:(len+n)*sz=len*sz+n*sz:=Nat.add_mul ..;simp only[kR,J.py,aq,force_eq];have ZG:=bY;simp only[show Nat.beq 0 0=true from rfl,Bool.true_and] at ZG;simp only[show Nat.beq 0 0=true from rfl,Bool.true_and,ZG,cond_true];by_cases yV:(len+n)*sz<=o.n
  ·have b2:Nat.ble ((len+n)*sz) o.n=true:=Nat.ble_eq_true_of_le yV;have ht:(Nat.ble (0+(len+n)*sz) o.n&&!o.ro)=true:=by rw[Nat.zero_add,b2,p8];rfl
   simp only[b2,cond_true,oS,ht,Nat.zero_add];refine⟨_,h.set k (len*sz) news,?_,⟨hlen,.inr ⟨k,rfl,⟨by rw[dz];exact a9,⟨_,by rw[J1,if_pos rfl,ael];rfl,hU,(by show(len+n)*sz=o.n;omega),zy,oA,p8⟩,λj aa=>?_⟩⟩⟩,by rw[dz];exact Nat.le_refl _,xx ..,λj _ aQ=>gr h _ _ (λe=>aQ (by rw[e];rfl)),(λj aa=> .inl aa),λau=>qJ au _ _ _⟩
   ·unfold J.set;simp only[aq,ET,p8];rfl
   ·by_cases kC:j<len*sz
    ·rw[ep (by omega),A.cs j kC,List.getElem?_append_left (by rw[eU];exact kC)]
    ·rw[fZ aqK (by omega) (by omega) (by omega),List.getElem?_append_right (by rw[eU];omega),eU]
  ·have b2:Nat.ble ((len+n)*sz) o.n=false:=by
    cases ag:Nat.ble ((len+n)*sz) o.n with
    |false=>rfl
    |true=>exact absurd (Nat.le_of_ble_eq_true ag) yV
   have ht:(Nat.ble (len*sz) o.n&&(Nat.ble (len+n) 140737488355328&&Nat.ble ((len+n)*b) 140737488355328))=true:=by
    rw[Nat.ble_eq_true_of_le (Nat.le_of_eq hH),Nat.ble_eq_true_of_le ae,Nat.ble_eq_true_of_le qT];rfl
   simp only[b2,cond_false,rW,ht,cond_true,force_eq]
   have bc:∀j,(J.grow h k ((len+n)*sz) (len*sz) news o).aV.get j=if j=h.next then some (Bd o ((len+n)*sz) (len*sz) news) else if j=k then none else h.aV.get j:=λj=>by
    show cE.get (cE.put (cE.del h.aV k) h.next _) j=_;rw[cE.kT];by_cases az:j=h.next
    ·rw[if_pos az,if_pos az]
    ·rw[if_neg az,if_neg az];exact cE.ady _ _ _
   refine⟨_,J.grow h k ((len+n)*sz) (len*sz) news o,rfl,⟨hlen,.inr ⟨h.next,rfl,⟨Nat.lt_succ_self _,⟨(Bd o ((len+n)*sz) (len*sz) news).mt,?_,hU,rfl,zy,oA,p8⟩,λj aa=>?_⟩⟩⟩,Nat.le_succ _,rfl,λj aa aQ=>?_,(λj aa=>by cases aa;exact .inr (Nat.le_refl _)),λau j aa=>?_⟩
   ·unfold J.mt;rw[bc,if_pos rfl]
   ·have:J.cell (J.grow h k ((len+n)*sz) (len*sz) news o) h.next j=(Bd o ((len+n)*sz) (len*sz) news).get j:=by unfold J.cell;rw[bc,if_pos rfl]
    rw[this,aoM o news (by omega) (Nat.le_of_eq hH) aa];by_cases kC:j<len*sz
    ·rw[if_pos kC,ek,A.cs j kC,List.getElem?_append_left (by rw[eU];exact kC)]
    ·rw[if_neg kC,List.getElem?_append_right (by rw[eU];omega),eU]
   ·show(J.grow h k ((len+n)*sz) (len*sz) news o).aV.get j=h.aV.get j;rw[bc,if_neg (by omega),if_neg (λe=>aQ (by rw[e];rfl))]
   ·have aa:h.next+1<=j:=aa
    rw[bc,if_neg (by omega)];by_cases e:j=k
    ·rw[if_pos e]
    ·rw[if_neg e];exact au j (by omega)
theorem alh{len:Nat}{ys:List U}(T:mf P t u e sz b)(S:ha h e sz x len ys)(he:jv h.x0 sz y=some (n,news))(gq:news.length=n*sz)(fm:dB news=true)
 (ae:len+n<=140737488355328)(qT:(len+n)*b<=140737488355328):
 ∃bF h',eX P .append #[t,u] [x,y] h=some (bF,h')/\ha h' e sz bF (len+n) (ys++news)/\h.next<=h'.next/\h'.aO=h.aO/\
  (∀j,j<h.next->rowOf x≠some j->ct h h' j)/\(∀j,rowOf bF=some j->rowOf x=some j\/h.next<=j)/\(iY h->iY h'):=by
 have h1:=T.h1;rw[Cx T he gq fm];have hlen:(ys++news).length=(len+n)*sz:=by rw[List.length_append,S.1,gq,Nat.add_mul]
 rcases S.2 with⟨rfl,rfl⟩|⟨k,rfl,A⟩
 ·have eU:ys=[]:=by
   have:=S.1
   rw[Nat.zero_mul] at this;exact List.eq_nil_of_length_eq_zero this
  subst eU;have wi:(Nat.beq 0 0&&Nat.beq 0 0)=true:=rfl;simp only[wi,cond_true,Nat.zero_add,List.nil_append] at *;by_cases aR:n=0
  ·subst aR
   have:news=[]:=List.eq_nil_of_length_eq_zero (by rw[gq,Nat.zero_mul])
   subst this;exact⟨_,h,rfl,ha.nil h e sz,Nat.le_refl _,rfl,λ_ _ _=>rfl,(λj aa=>by cases aa),λau=>au⟩
  ·have bY:Nat.beq n 0=false:=by
    cases ag:Nat.beq n 0 with
    |false=>rfl
    |true=>exact absurd (Nat.eq_of_beq_eq_true ag) aR
   simp only[bY,cond_false];rw[Hu ae qT];exact⟨_,_,rfl,⟨gq,.inr ⟨_,rfl,aCR gq⟩⟩,by simp,rfl,λj aa _=>iT h _ (by omega),(λj aa=>by cases aa;exact .inr (Nat.le_refl _)),λau=>qI au _⟩
 ·exact alb S.1 A gq ae qT
end
end Go.Xe
namespace Go.Proofs.YtomialandfplkaaDoor.Eva
open Go.Xe
def da{α:Type}(f:Nat->α)(i:Nat)(v:α):Nat->α:=λj=>if j=i then v else f j
theorem jE{α:Type}(f:Nat->α)(i:Nat)(v:α):da f i v i=v:=if_pos rfl
theorem ho{α:Type}(f:Nat->α){i j:Nat}(v:α)(h:j≠i):da f i v j=f j:=if_neg h
structure aD (h h':J) (S:Nat->Prop):Prop where
 aO:h'.aO=h.aO
 next:h.next<=h'.next
 same:∀j,j<h.next->¬S j->ct h h' j
 dm:iY h->iY h'
theorem aD.refl(h:J)(S:Nat->Prop):aD h h S:=⟨rfl,Nat.le_refl _,λ_ _ _=>rfl,λau=>au⟩
theorem aD.trans{h h' fF:J}{S:Nat->Prop}(a:aD h h' S)(b:aD h' fF S):aD h fF S:=
 ⟨b.aO.trans a.aO,Nat.le_trans a.next b.next,λj aa ak=>(b.same j (Nat.lt_of_lt_of_le aa a.next) ak).trans (a.same j aa ak),λau=>b.dm (a.dm au)⟩
theorem aD.ei{h h':J}{S fi:Nat->Prop}(a:aD h h' S)(ak:∀j,S j->fi j):aD h h' fi:=⟨a.aO,a.next,λj aa aR=>a.same j aa (λe=>aR (ak j e)),a.dm⟩
theorem fj{h:J}{k off:Nat}{ys:List U}{S:Nat->Prop}(ai:S k):aD h (h.set k off ys) S:=
 ⟨xx ..,Nat.le_of_eq (dz ..).symm,λj _ ak=>gr h off ys (λe=>ak (e▸ai)),λau=>qJ au _ _ _⟩
theorem lA(h:J)(o:bH)(S:Nat->Prop):aD h (h.new o) S:=⟨rfl,Nat.le_succ _,λj aa _=>iT h o (by omega),λau=>qI au o⟩
section
variable{lf m:Nat}{h:J}{k cr n:Nat}{wd b:Nat->Nat}
theorem dV.aik(S:dV h k cr n wd b){w v:Nat}(hw:w<64)(hv:v<2 ^ 64)(aq:∀c,c<64->n<=64*w+c->v.testBit c=false):dV (h.set k (1+w) [.int .u64 (v:Int)]) k cr n (da wd w v) b:=by
 have ag:1+w+[U.int .u64 (v:Int)].length<=66:=by simp;omega
 refine⟨S.cA,S.ck,?_,λi hi=>?_,λi=>?_,λi c hi ae aR=>?_,?_,dY S.qq,dY S.uE,λj aa=>?_,S.blt,S.ne,by rw[dz];exact S.sA,by rw[dz];exact S.ra⟩
 ·rw[ep (by omega)];exact S.dO
 ·by_cases e:i=w
  ·subst e;rw[fZ S.qq ag (by omega) (by simp),jE];simp
  ·rw[ep (by simp;omega),ho _ _ e];exact S.ts i hi
 ·by_cases e:i=w
  ·subst e;rw[jE];exact hv
  ·rw[ho _ _ e];exact S.iF i
 ·by_cases e:i=w
  ·subst e;rw[jE];exact aq c ae aR
  ·rw[ho _ _ e];exact S.out i c hi ae aR
 ·obtain⟨cap,e⟩:=S.cs;exact⟨cap,by rw[ep (by simp;omega)];exact e⟩
 ·rw[ep (.inl (λe=>S.ne e.symm))];exact S.wu j aa
theorem afO{wd:Nat->Nat}{i v j:Nat}:bP (da wd (i/64) v) j=if j/64=i/64 then v.testBit (j%64) else bP wd j:=by
 unfold bP da;by_cases e:j/64=i/64
 ·rw[if_pos e,if_pos e]
 ·rw[if_neg e,if_neg e]
def tn(w c:Nat):Nat:=w&&& (2 ^ 64-1-2 ^ c)
theorem Z4{w c d:Nat}(hw:w<2 ^ 64)(ae:c<64):(tn w c).testBit d=(w.testBit d&&decide (d≠c)):=by
 have h2:2 ^ c<2 ^ 64:=Nat.pow_lt_pow_right (by omega) ae;unfold tn;rw[Nat.testBit_and,L7 h2,Nat.testBit_two_pow];by_cases aI:d<64
 ·by_cases e:d=c
  ·subst e;simp
  ·have:¬c=d:=λh=>e h.symm
   simp[aI,e,this]
 ·have:w.testBit d=false:=Nat.testBit_lt_two_pow (Nat.lt_of_lt_of_le hw (Nat.pow_le_pow_right (by omega) (by omega)))
  simp[this]
theorem amp{w c:Nat}(hw:w<2 ^ 64):tn w c<2 ^ 64:=Nat.lt_of_le_of_lt Nat.and_le_left hw
def CE(C:ad):Prop:=∀h k cr n wd b i,dV h k cr n wd b-> -9223372036854775808<=i->i<9223372036854775808->
 (gS n wd i=false->C (.fn 23) [.ptr k 0,I i] h=some (.ret (I 22),h))/\
 (gS n wd i=true->∃h',C (.fn 23) [.ptr k 0,I i] h=some (.ret (I 0),h')/\dV h' k cr n (da wd (i.toNat/64) (tn (wd (i.toNat/64)) (i.toNat%64))) b/\aD h h' (· =k))
theorem aol{C:ad}{lf:Nat}(hm:rR C)(hi:x4 C)(S:dV h k cr n wd b){i:Int}(b4: -9223372036854775808<=i)(cv:i<9223372036854775808):
 (gS n wd i=false->Dr C lf (.ptr k 0) (I i) h=some (.ret (I 22),h))/\
 (gS n wd i=true->∃h',Dr C lf (.ptr k 0) (I i) h=some (.ret (I 0),h')/\dV h' k cr n (da wd (i.toNat/64) (tn (wd (i.toNat/64)) (i.toNat%64))) b/\aD h h' (· =k)):=by
 have h2:=S.ck;unfold Dr TI OY;simp only[aA,hm _ _ _ _ _ _ S,hi _ _ _ _ _ _ _ S b4 cv,Bool.not_true];refine⟨λhu=>?_,λhu=>?_⟩
 ·simp only[hu,Bool.not_false,aA]
 ·have hd:=hu;simp only[gS,Bool.and_eq_true,decide_eq_true_eq] at hd;obtain⟨h3,aT,_⟩:=hd;have bz:0<=i/64:=by omega
  have bA:i/64<64:=by omega
  have dN:IntKind.i64.wrap (i.tdiv 64)=i/64:=by
   rw[Int.tdiv_eq_ediv_of_nonneg h3];exact wrap_i64 (by omega) (by omega)
  have e0:i.tmod 64=((i.toNat%64:Nat):Int):=by
   rw[Int.tmod_eq_emod_of_nonneg h3];omega
  have nz:(i/64).toNat=i.toNat/64:=by omega
  have hw:i.toNat/64<64:=by omega
  have o3:=S.ts (i.toNat/64) hw;have lC:=S.iF (i.toNat/64);have ae:i.toNat%64<64:=by omega
  have bW:=l1 (n:=64) (s:=1) (k:=k) (off:=1) (kd:= .i64) bz bA;rw[nz,Nat.mul_one] at bW;have zh:=ZL (P:=ao) (t:=55) (k:= .i64) ae;have aB:2 ^ (i.toNat%64)<2 ^ 64:=Nat.pow_lt_pow_right (by omega) ae;have Jm:=alD (P:=ao) (t:=55) lC aB;have apt:wd (i.toNat/64)&&& (2 ^ 64-1-2 ^ (i.toNat%64))=tn (wd (i.toNat/64)) (i.toNat%64):=rfl;rw[apt] at Jm;have dc:=gN (n:=1) (off:=1+i.toNat/64) (y:= .int .u64 (tn (wd (i.toNat/64)) (i.toNat%64):Int)) S.qq rfl (by omega) rfl;refine⟨_,?_,S.aik hw (amp lC) (λc fk aR=>?_),fj rfl⟩
  ·simp only[hu,Bool.not_true,aA,lV (show(64:Int)≠0 by omega),ih (show(64:Int)≠0 by omega),dN,e0,bW,o3,zh,Jm,dc];rfl
  ·rw[Z4 lC ae,S.out _ c hw fk aR,Bool.false_and]
end
theorem am4{x c:Nat}(ax:x<2 ^ 64)(h1:x.testBit c=true)(h0:∀d,d<c->x.testBit d=false):Lib.ctz 64 x=c:=by
 have aqM:0<x:=by
  apply Nat.pos_of_ne_zero;intro e;rw[e,Nat.zero_testBit] at h1;cases h1
 obtain⟨m,hm,a9⟩:=Lib.ctzFrom_spec 64 x aqM ax;have e:Lib.ctz 64 x=Lib.ctzFrom 64 x:=by simp[Lib.ctz];omega
 rw[e];generalize Lib.ctzFrom 64 x=z at hm a9⊢
 have aX:x.testBit z=true:=by
  rw[hm,Nat.testBit_two_pow_mul];simp
 have ag:∀d,d<z->x.testBit d=false:=by
  intro d aI;rw[hm,Nat.testBit_two_pow_mul];simp;omega
 rcases Nat.lt_trichotomy z c with h|h|h
 ·rw[h0 z h] at aX;cases aX
 ·exact h
 ·rw[ag c h] at h1;cases h1
theorem anP{x:Nat}(ax:x<2 ^ 64)(h:∀c,c<64->x.testBit c=true):x=2 ^ 64-1:=by
 apply Nat.eq_of_testBit_eq;intro c;rw[Nat.testBit_two_pow_sub_one];by_cases ae:c<64
 ·simp[h c ae,ae]
 ·have:x.testBit c=false:=Nat.testBit_lt_two_pow (Nat.lt_of_lt_of_le ax (Nat.pow_le_pow_right (by omega) (by omega)))
  simp[this,ae]
def ru(w c:Nat):Nat:=w|||2 ^ c
theorem agb{w c d:Nat}:(ru w c).testBit d=(w.testBit d||decide (d=c)):=by
 unfold ru;rw[Nat.testBit_or,Nat.testBit_two_pow];by_cases e:d=c
 ·subst e;simp
 ·have:¬c=d:=λh=>e h.symm
  simp[e,this]
theorem agc{w c:Nat}(hw:w<2 ^ 64)(ae:c<64):ru w c<2 ^ 64:=Nat.or_lt_two_pow hw (Nat.pow_lt_pow_right (by omega) ae)
section
variable{lf m:Nat}{h:J}{k cr n:Nat}{wd b:Nat->Nat}
def gF(b:Nat->Nat)(i:Nat):Nat->Nat:=λj=>if 64*i<=j/\j<64*i+64 then 0 else b j
theorem dV.aGb(S:dV h k cr n wd b){i:Nat}(hi:i<n):dV (h.set cr (i*64) (List.replicate 64 (.int .u8 0))) k cr n wd (gF b i):=by
 have ag:i*64+(List.replicate 64 (U.int .u8 0)).length<=n*64:=by simp;omega
 refine⟨S.cA,S.ck,?_,λi hi=>?_,S.iF,S.out,?_,dY S.qq,dY S.uE,λj aa=>?_,λj=>?_,S.ne,by rw[dz];exact S.sA,by rw[dz];exact S.ra⟩
 ·rw[ep (.inl S.ne)];exact S.dO
 ·rw[ep (.inl S.ne)];exact S.ts i hi
 ·obtain⟨cap,e⟩:=S.cs;exact⟨cap,by rw[ep (.inl S.ne)];exact e⟩
 ·unfold gF;by_cases e:64*i<=j/\j<64*i+64
  ·rw[if_pos e,fZ S.uE ag (by omega) (by rw[List.length_replicate];omega)];rw[List.getElem?_replicate,if_pos (by omega)];rfl
  ·have ay:j<i*64\/i*64+(List.replicate 64 (U.int .u8 0)).length<=j:=by rw[List.length_replicate];omega
   rw[if_neg e,ep (.inr ay)];exact S.wu j aa
 ·unfold gF;split
  ·omega
  ·exact S.blt j
def AB(C:ad):Prop:=∀h (x:Nat),x<2 ^ 64->hE h->C (.fn 64) [.int .u64 (x:Int)] h=some (.ret (I (Lib.ctz 64 x:Nat)),h)
def Cy(C:ad):Prop:=∀h k cr n wd b,dV h k cr n wd b->hE h->
 ((∀j,j<n->bP wd j=true)->C (.fn 17) [.ptr k 0] h=some (.ret (.bm [I 0,I 28]),h))/\
 (∀i,i<n->bP wd i=false->(∀j,j<i->bP wd j=true)->∃h',C (.fn 17) [.ptr k 0] h=some (.ret (.bm [I (i:Int),I 0]),h')/\
   dV h' k cr n (da wd (i/64) (ru (wd (i/64)) (i%64))) (gF b i)/\aD h h' (λj=>j=k\/j=cr))
theorem akX{C:ad}{lf:Nat}(aN:AB C)(nA:hE h)(S:dV h k cr n wd b)(aK r:aS)(av:cu){w:Nat}(hw:w<64)
 (bc:wd w=2 ^ 64-1\/n<=w*64+Lib.ctz 64 (2 ^ 64-1-wd w)):
 xh C lf aK r av (some (.ptr k 0)) (some (I (w:Int))) h=aK (some (.ptr k 0)) (some (I ((w+1:Nat):Int))) h:=by
 have h2:=S.ck;have o3:=S.ts w hw;have lC:=S.iF w;have bW:=l1 (n:=64) (s:=1) (k:=k) (off:=1) (kd:= .i64) (i:=(w:Int)) (by omega) (by omega);rw[Int.toNat_natCast,Nat.mul_one] at bW;have sh:=afI lC;have ax:2 ^ 64-1-wd w<2 ^ 64:=by omega
 have JH:=aN h _ ax nA
 have aGA:Lib.ctz 64 (2 ^ 64-1-wd w)<=64:=by
  by_cases h0:2 ^ 64-1-wd w=0
  ·simp[Lib.ctz,h0]
  ·exact Nat.le_of_lt (Lib.lowest_bit 64 _ h0 ax).2
 generalize aX:Lib.ctz 64 (2 ^ 64-1-wd w)=z at *;generalize bb:2 ^ 64-1-wd w=y at *;have a9:decide ((w:Int)<64)=true:=bu (by omega);have hmul:IntKind.i64.wrap ((w:Int)*64)=((w*64:Nat):Int):=cD (by omega);have iO:IntKind.i64.wrap (((w*64:Nat):Int)+(z:Int))=((w*64+z:Nat):Int):=cD (by omega);have dr:IntKind.i64.wrap ((w:Int)+1)=((w+1:Nat):Int):=cD (by omega);unfold xh;simp only[aA,a9,hmul,bW,o3,sh,JH,iO];by_cases Q7:wd w=2 ^ 64-1
 ·have aI:decide ((wd w:Int)=18446744073709551615)=true:=bu (by omega);simp only[aI,aA,dr]
 ·have aI:decide ((wd w:Int)=18446744073709551615)=false:=br (by omega)
  have QT:n<=w*64+z:=by
   rcases bc with bc|bc
   ·exact absurd bc Q7
   ·exact bc
  have o7:decide ((n:Int)<=((w*64+z:Nat):Int))=true:=bu (by omega);simp only[aI,aA,S.dO,o7,dr]
theorem akV{C:ad}{lf:Nat}(aN:AB C)(nA:hE h)(S:dV h k cr n wd b)(aK r:aS)(av:cu){w:Nat}(hw:w<64){z:Nat}
 (aX:Lib.ctz 64 (2 ^ 64-1-wd w)=z)(w1:z<64)(DV:(wd w).testBit z=false)(aR:w*64+z<n):
 ∃h',xh C lf aK r av (some (.ptr k 0)) (some (I (w:Int))) h=r (some (I ((w*64+z:Nat):Int))) (some (I 0)) h'/\
  dV h' k cr n (da wd w (ru (wd w) z)) (gF b (w*64+z))/\aD h h' (λj=>j=k\/j=cr):=by
 have h2:=S.ck;have o3:=S.ts w hw;have lC:=S.iF w;have bW:=l1 (n:=64) (s:=1) (k:=k) (off:=1) (kd:= .i64) (i:=(w:Int)) (by omega) (by omega);rw[Int.toNat_natCast,Nat.mul_one] at bW;have sh:=afI lC;have ax:2 ^ 64-1-wd w<2 ^ 64:=by omega
 have JH:=aN h _ ax nA;rw[aX] at JH;have a9:decide ((w:Int)<64)=true:=bu (by omega);have hmul:IntKind.i64.wrap ((w:Int)*64)=((w*64:Nat):Int):=cD (by omega);have iO:IntKind.i64.wrap (((w*64:Nat):Int)+(z:Int))=((w*64+z:Nat):Int):=cD (by omega)
 have ca:wd w≠2 ^ 64-1:=λe=>by
  rw[e,Nat.testBit_two_pow_sub_one,bu w1] at DV;cases DV
 have aI:decide ((wd w:Int)=18446744073709551615)=false:=br (by omega);have o7:decide ((n:Int)<=((w*64+z:Nat):Int))=false:=br (by omega)
 have aqr:(((w*64+z:Nat):Int)).tmod 64=(z:Int):=by
  rw[Int.tmod_eq_emod_of_nonneg (by omega)];omega
 have zh:=ZL (P:=ao) (t:=55) (k:= .i64) w1;have tR:=alI (P:=ao) (t:=55) lC (show 2 ^ z<2 ^ 64 from Nat.pow_lt_pow_right (by omega) w1);have mC:wd w|||2 ^ z=ru (wd w) z:=rfl
 rw[mC] at tR;have dc:=gN (n:=1) (off:=1+w) (y:= .int .u64 (ru (wd w) z:Int)) S.qq rfl (by omega) rfl
 have ig:=S.aik hw (agc lC w1) (λc ae Ej=>by
  have:c≠z:=by omega
  rw[agb,S.out w c hw ae Ej];simp[this])
 have my:gM ao 110 [] []=some (.agg (List.replicate 64 (.int .u8 0))):=by kernel_rfl
 obtain⟨cap,en⟩:=ig.cs;have wS:=gA (s:=64) (k:=cr) (off:=0) (len:=n) (lo:=0) (cap:=cap) (kd:= .i64) (i:=((w*64+z:Nat):Int)) (by omega) (by omega);rw[Int.toNat_natCast,Nat.zero_add] at wS;have w0:=gN (n:=64) (off:=(w*64+z)*64) (y:= .agg (List.replicate 64 (.int .u8 0))) ig.uE rfl (by omega) rfl;refine⟨_,?_,ig.aGb aR,(fj (.inl rfl)).trans (fj (.inr rfl))⟩;unfold xh;simp only[aA,a9,hmul,bW,o3,sh,JH,iO,aI,S.dO,o7,ih (show(64:Int)≠0 by omega),aqr,zh,tR,dc];have az:(U.int .u64 (ru (wd w) z:Int)).cells=[.int .u64 (ru (wd w) z:Int)]:=rfl;have ay:(U.agg (List.replicate 64 (.int .u8 0))).cells=List.replicate 64 (.int .u8 0):=rfl;rw[az];simp only[aA,en,my,wS,w0,ay]
theorem akW{C:ad}{lf:Nat}(aN:AB C)(nA:hE h)(S:dV h k cr n wd b)(r:aS)(av:cu):∀(d:Nat) (w:Nat),w+d=64->∀f,d<f->
 ((∀j,j<n->bP wd j=true)->bk (su C lf r av) f (some (.ptr k 0),some (I (w:Int))) h=av h)/\
 (∀i,i<n->w*64<=i->bP wd i=false->(∀j,j<i->bP wd j=true)->∃h',bk (su C lf r av) f (some (.ptr k 0),some (I (w:Int))) h=r (some (I (i:Int))) (some (I 0)) h'/\
   dV h' k cr n (da wd (i/64) (ru (wd (i/64)) (i%64))) (gF b i)/\aD h h' (λj=>j=k\/j=cr)):=by
 intro d
 induction d with
 |zero=>
  intro w hw f au;obtain⟨f,rfl⟩:=dx f (by omega);have h2:=S.ck;refine⟨λ_=>?_,λi hi aqH=>by omega⟩;rw[df];unfold su xh;have a9:decide ((w:Int)<64)=false:=br (by omega);simp only[aA,a9]
 |succ d bp=>
  intro w hw f au;obtain⟨f,rfl⟩:=dx f (by omega);have h2:=S.ck;have lC:=S.iF w;have ax:2 ^ 64-1-wd w<2 ^ 64:=by omega
  have JJ:w<64:=by omega
  obtain⟨EE,EF⟩:=bp (w+1) (by omega) f (by omega)
  have step:(wd w=2 ^ 64-1\/n<=w*64+Lib.ctz 64 (2 ^ 64-1-wd w))->bk (su C lf r av) (f+1) (some (.ptr k 0),some (I (w:Int))) h=bk (su C lf r av) f (some (.ptr k 0),some (I ((w+1:Nat):Int))) h:=by
   intro bc;rw[df];show xh C lf (λx0 x9 h=>bk (su C lf r av) f (x0,x9) h) r av (some (.ptr k 0)) (some (I (w:Int))) h=_;rw[akX aN nA S _ r av JJ bc]
  have J9:∀c,c<64->(wd w).testBit c=bP wd (w*64+c):=λc ae=>by
   unfold bP;rw[show(w*64+c)/64=w by omega,show(w*64+c)%64=c by omega]
  refine⟨λgd=>?_,λi hi aqH jT e5=>?_⟩
  ·rw[step ?_];exact EE gd;by_cases Q7:wd w=2 ^ 64-1
   ·exact .inl Q7
   ·right
    apply Nat.le_of_not_lt;intro a9;have h0:2 ^ 64-1-wd w≠0:=by omega
    have ae:=(Lib.lowest_bit 64 _ h0 ax)
    have DV:(2 ^ 64-1-wd w).testBit (Lib.ctz 64 (2 ^ 64-1-wd w))=true:=by
     have h3:((2 ^ 64-1-wd w)&&& (2 ^ 64-(2 ^ 64-1-wd w))).testBit (Lib.ctz 64 (2 ^ 64-1-wd w))=true:=by
      rw[ae.1,Nat.testBit_two_pow_self]
     rw[Nat.testBit_and,Bool.and_eq_true] at h3;exact h3.1
    rw[L7 lC,bu ae.2,Bool.true_and,J9 _ ae.2,gd _ a9] at DV;cases DV
  ·by_cases apR:i/64=w
   ·have w1:i%64<64:=by omega
    have ad6:w*64+i%64=i:=by omega
    have Jn:(wd w).testBit (i%64)=false:=by rw[J9 _ w1,ad6];exact jT
    have aX:Lib.ctz 64 (2 ^ 64-1-wd w)=i%64:=by
     refine am4 ax ?_ λd aI=>?_
     ·rw[L7 lC,Jn,bu w1];rfl
     ·rw[L7 lC,J9 d (by omega),e5 _ (by omega)];simp
    obtain⟨h',az,ay,b9⟩:=akV (lf:=lf) aN nA S (λx0 x9 h=>bk (su C lf r av) f (x0,x9) h) r av JJ aX w1 Jn (by omega);rw[ad6] at az ay;refine⟨h',?_,?_,b9⟩
    ·rw[df];exact az
    ·rw[apR];exact ay
   ·rw[step ?_]
    ·exact EF i hi (by omega) jT e5
    ·left
     refine anP lC λc ae=>?_
     rw[J9 c ae];exact e5 _ (by omega)
theorem akY{C:ad}{lf:Nat}(gy:65<=lf)(hm:rR C)(aN:AB C)(S:dV h k cr n wd b)(nA:hE h):
 ((∀j,j<n->bP wd j=true)->A4 C lf (.ptr k 0) h=some (.ret (.bm [I 0,I 28]),h))/\
 (∀i,i<n->bP wd i=false->(∀j,j<i->bP wd j=true)->∃h',A4 C lf (.ptr k 0) h=some (.ret (.bm [I (i:Int),I 0]),h')/\
   dV h' k cr n (da wd (i/64) (ru (wd (i/64)) (i%64))) (gF b i)/\aD h h' (λj=>j=k\/j=cr)):=by
 obtain⟨b4,cv⟩:=akW (lf:=lf) aN nA S AX (λh=>Ky C lf AX h) 64 0 rfl lf (by omega)
 have wQ:A4 C lf (.ptr k 0) h=bk (su C lf AX (λh=>Ky C lf AX h)) lf (some (.ptr k 0),some (I ((0:Nat):Int))) h:=by
  unfold A4 Tn Tm Tl Tk;simp only[aA,hm _ _ _ _ _ _ S,Bool.not_true];rfl
 rw[wQ];refine⟨λgd=>?_,λi hi jT e5=>?_⟩
 ·rw[b4 gd];rfl
 ·obtain⟨h',az,ay,b9⟩:=cv i hi (by omega) jT e5;exact⟨h',by rw[az];rfl,ay,b9⟩
end
section
variable{lf m:Nat}{h:J}{k cr n:Nat}{wd b:Nat->Nat}
theorem dV.frame(S:dV h k cr n wd b){h':J}(aR:h.next<=h'.next)(ai:ct h h' k)(aI:ct h h' cr):dV h' k cr n wd b:=
 ⟨S.cA,S.ck,by rw[ai.cell];exact S.dO,λi hi=>by rw[ai.cell];exact S.ts i hi,S.iF,S.out,(let ⟨cap,e⟩:=S.cs;⟨cap,by rw[ai.cell];exact e⟩),
   let ⟨q,a,c⟩:=S.qq;⟨q,by rw[ai.mt];exact a,c⟩,let ⟨q,a,c⟩:=S.uE;⟨q,by rw[aI.mt];exact a,c⟩,λj aa=>by rw[aI.cell];exact S.wu j aa,S.blt,S.ne,Nat.lt_of_lt_of_le S.sA aR,Nat.lt_of_lt_of_le S.ra aR⟩
theorem dV.gQ(S:dV h k cr n wd b){h':J}{Q:Nat->Prop}(F:aD h h' Q)(h1:¬Q k)(h2:¬Q cr):dV h' k cr n wd b:=S.frame F.next (F.same _ S.sA h1) (F.same _ S.ra h2)
theorem aD.new(h:J)(o:bH)(S:Nat->Prop):aD h (h.new o) S:=lA h o S
def Na(C:ad):Prop:=∀h (n:Int), -9223372036854775808<=n->n<9223372036854775808->
 ((n<1\/4096<n)->C (.fn 16) [I n] h=some (.ret (.bm [.val (.pointer none),I 22]),h))/\
 (1<=n->n<=4096->∃h',C (.fn 16) [I n] h=some (.ret (.bm [.ptr (h.next+1) 0,I 0]),h')/\h'.next=h.next+2/\
   dV h' (h.next+1) h.next n.toNat (λ_=>0) (λ_=>0)/\aD h h' (λ_=>False))
theorem ar7{C:ad}{lf:Nat}{n:Int}:
 ((n<1\/4096<n)->Dn C lf (I n) h=some (.ret (.bm [.val (.pointer none),I 22]),h))/\
 (1<=n->n<=4096->∃h',Dn C lf (I n) h=some (.ret (.bm [.ptr (h.next+1) 0,I 0]),h')/\h'.next=h.next+2/\
   dV h' (h.next+1) h.next n.toNat (λ_=>0) (λ_=>0)/\aD h h' (λ_=>False)):=by
 unfold Dn Tj OV;simp only[aA];refine⟨λaR=>?_,λh1 h2=>?_⟩
 ·by_cases h1:n<1
  ·simp only[bu h1,aA]
  ·have h2:4096<n:=by omega
   simp only[br h1,bu h2,aA]
 ·have d1:decide (n<1)=false:=br (by omega);have d2:decide ((4096:Int)<n)=false:=br (by omega);obtain⟨N,rfl⟩:∃N:Nat,n=N:=⟨n.toNat,by omega⟩;have aX:gC ao 110=some (.agg (Array.replicate 64 (.int .u8 0))):=by kernel_rfl
  have ae:(c1 (.agg (Array.replicate 64 (.int .u8 0)))).cells=List.replicate 64 (.int .u8 0):=rfl
  have kZ:=Ai (P:=ao) (t:=57) (e:=110) (s:=64) (b:=64) (k1:= .i64) (k2:= .i64) (l:=N) (c:=N) (h:=h)
   Tryd.underlying57 (by kernel_rfl) aX (by kernel_rfl) (Nat.le_refl _) (by omega) (by omega) (by rw[ae];rfl) (by omega)
  rw[ae] at kZ;have my:gM ao 59 [0,2] [I (N:Int),.aF h.next 0 N (some N) 0]=some (.agg (I (N:Int)::(List.replicate 64 (.int .u64 0)++[.aF h.next 0 N (some N) 0]))):=by kernel_rfl
  have fx:=uJ (e:=59) (x:= .agg (I (N:Int)::(List.replicate 64 (.int .u64 0)++[.aF h.next 0 N (some N) 0]))) (h:=h.new (iU 110 (N*64) (List.replicate 64 (.int .u8 0)))) rfl;simp only[d1,d2,aA,kZ,my,fx,e7];refine⟨_,rfl,rfl,?_,(aD.new _ _ _).trans (aD.new _ _ _)⟩;rw[Int.toNat_natCast]
  have ek:∀i,(((h.new (iU 110 (N*64) (List.replicate 64 (.int .u8 0)))).new (cI 59 (U.agg (I (N:Int)::(List.replicate 64 (.int .u64 0)++[.aF h.next 0 N (some N) 0]))).cells)).cell (h.next+1) i)=
   (U.int .i64 (N:Int)::(List.replicate 64 (.int .u64 0)++[.aF h.next 0 N (some N) 0]))[i]?:=λi=>by
   rw[show h.next+1=(h.new (iU 110 (N*64) (List.replicate 64 (.int .u8 0)))).next from rfl,jx,nK];rfl
  refine⟨by omega,by omega,?_,λi hi=>?_,λi=>by omega,λi c _ _ _=>Nat.zero_testBit c,?_,?_,?_,λj aa=>?_,λj=>by omega,by omega,by simp,by simp;omega⟩
  ·rw[ek];rfl
  ·rw[ek,show 1+i=i+1 by omega,List.getElem?_cons_succ,List.getElem?_append_left (by simp;omega),List.getElem?_replicate,if_pos hi];rfl
  ·exact⟨some N,by rw[ek];rfl⟩
  ·exact hW (h:=h.new (iU 110 (N*64) (List.replicate 64 (.int .u8 0)))) rfl
  ·exact uF (hW (h:=h) rfl) (by simp)
  ·rw[yo (by simp),jx,zL _ _ aa,List.length_replicate,List.getElem?_replicate,if_pos (by omega)];rfl
def tm(b:Nat->Nat)(i:Nat):List U:=(List.range 64).map λj=> .int .u8 (b (i*64+j):Int)
def Hc(C:ad):Prop:=∀h k cr n wd b i,dV h k cr n wd b-> -9223372036854775808<=i->i<9223372036854775808->
 (gS n wd i=false->C (.fn 21) [.ptr k 0,I i] h=some (.ret (.bm [.val (.slice none 0 0),I 22]),h))/\
 (gS n wd i=true->∃h',C (.fn 21) [.ptr k 0,I i] h=some (.ret (.bm [.aF h.next 0 64 (some 64) 0,I 0]),h')/\h'.next=h.next+1/\
   h'.wr h.next 64/\(∀j,j<64->h'.cell h.next j=some (.int .u8 (b (i.toNat*64+j):Int)))/\aD h h' (λ_=>False))
theorem aBn{C:ad}{lf:Nat}(hm:rR C)(hi:x4 C)(S:dV h k cr n wd b){i:Int}(b4: -9223372036854775808<=i)(cv:i<9223372036854775808):
 (gS n wd i=false->Dq C lf (.ptr k 0) (I i) h=some (.ret (.bm [.val (.slice none 0 0),I 22]),h))/\
 (gS n wd i=true->∃h',Dq C lf (.ptr k 0) (I i) h=some (.ret (.bm [.aF h.next 0 64 (some 64) 0,I 0]),h')/\h'.next=h.next+1/\
   h'.wr h.next 64/\(∀j,j<64->h'.cell h.next j=some (.int .u8 (b (i.toNat*64+j):Int)))/\aD h h' (λ_=>False)):=by
 unfold Dq TH OX;simp only[aA,hm _ _ _ _ _ _ S,hi _ _ _ _ _ _ _ S b4 cv,Bool.not_true];refine⟨λhu=>?_,λhu=>?_⟩
 ·simp only[hu,Bool.not_false,aA]
 ·have hd:=hu;simp only[gS,Bool.and_eq_true,decide_eq_true_eq] at hd;obtain⟨h3,aT,_⟩:=hd;obtain⟨c6,rfl⟩:∃c6:Nat,i=c6:=⟨i.toNat,by omega⟩;obtain⟨cap,apw⟩:=S.cs;have wS:=gA (s:=64) (k:=cr) (off:=0) (len:=n) (lo:=0) (cap:=cap) (kd:= .i64) (i:=(c6:Int)) (by omega) (by omega);rw[Int.toNat_natCast,Nat.zero_add] at wS;obtain⟨md,mA,aQ,aR⟩:=S.uE
  have en:h.cells cr (c6*64) 64=some (tm b c6):=by
   refine jy (by simp[tm]) λj aa=>?_
   rw[S.wu _ (by omega)];simp[tm,aa]
  have kf:eB 64 (.ptr cr (c6*64)) h=some (.agg (tm b c6)):=by rw[mE mA,en];rfl
  have aX:gC ao 110=some (.agg (Array.replicate 64 (.int .u8 0))):=by kernel_rfl
  have Bg:=oI (P:=ao) (e:=110) (h:=h) aX;have ae:(c1 (.agg (Array.replicate 64 (.int .u8 0)))).cells=List.replicate 64 (.int .u8 0):=rfl;rw[ae] at Bg;have hw:(h.new (cI 110 (List.replicate 64 (.int .u8 0)))).wr h.next 64:=hW (o:=cI _ (List.replicate 64 (.int .u8 0))) rfl
  have fm:dB (tm b c6)=true:=by
   have:∀l:List Nat,dB (l.map λj=>U.int .u8 (b (c6*64+j):Int))=true:=λl=>by
    induction l with
    |nil=>rfl
    |cons x l bp=>simp[dB,bp,U.one]
   exact this _
  have dc:=gN (n:=64) (off:=0) (y:= .agg (tm b c6)) hw (by simp[tm,U.cells]) (by omega) fm;have kE:gl ao 110 (.ptr h.next 0) none none=some (.aF h.next 0 64 (some 64) 0):=by kernel_rfl
  simp only[hu,Bool.not_true,aA,apw,wS,kf,Bg,dc,kE];refine⟨_,rfl,by simp,dY hw,λj aa=>?_,⟨by simp,by simp,λj aa _=>(gr _ _ _ (by omega)).trans (iT h _ (by omega)),λau=>qJ (qI au _) _ _ _⟩⟩;rw[fZ hw (by simp[tm,U.cells]) (by omega) (by simp[tm,U.cells,aa])];simp[tm,U.cells,aa]
end
section
variable{lf m:Nat}{h:J}{k cr n:Nat}{wd b:Nat->Nat}
def over(b:Nat->Nat)(at_:Nat)(l:List Nat):Nat->Nat:=λj=>if at_<=j/\j<at_+l.length then l.getD (j-at_) 0 else b j
theorem dV.ajr(S:dV h k cr n wd b){p:Nat}{l:List Nat}(aJ:∀c∈l,c<256)(aB:p+l.length<=n*64):dV (h.set cr p (hD l)) k cr n wd (over b p l):=by
 have ag:p+(hD l).length<=n*64:=by rw[sP];exact aB
 refine⟨S.cA,S.ck,?_,λi hi=>?_,S.iF,S.out,?_,dY S.qq,dY S.uE,λj aa=>?_,λj=>?_,S.ne,by rw[dz];exact S.sA,by rw[dz];exact S.ra⟩
 ·rw[ep (.inl S.ne)];exact S.dO
 ·rw[ep (.inl S.ne)];exact S.ts i hi
 ·obtain⟨cap,e⟩:=S.cs;exact⟨cap,by rw[ep (.inl S.ne)];exact e⟩
 ·unfold over;by_cases e:p<=j/\j<p+l.length
  ·rw[if_pos e,fZ S.uE ag e.1 (by rw[sP];exact e.2),Ge l (by omega)]
  ·rw[if_neg e,ep (.inr (by rw[sP];omega))];exact S.wu j aa
 ·unfold over;split
  ·rename_i e;have h1:j-p<l.length:=by omega
   have:l.getD (j-p) 0=l[j-p]:=by simp[List.getD,h1]
   rw[this];exact aJ _ (List.getElem_mem h1)
  ·exact S.blt j
def uZ(n:Nat)(wd:Nat->Nat)(i at_:Int)(l:List Nat):Prop:=gS n wd i=false\/at_<0\/64<at_\/64-at_<l.length
def CR(C:ad):Prop:=∀h k cr n wd b (i at_:Int) x l,dV h k cr n wd b->Bytes h x l->l.length<=140737488355328-> -9223372036854775808<=i->i<9223372036854775808-> -9223372036854775808<=at_->at_<9223372036854775808->
 (uZ n wd i at_ l->C (.fn 18) [.ptr k 0,I i,I at_,x] h=some (.ret (I 22),h))/\
 (¬uZ n wd i at_ l->∃h',C (.fn 18) [.ptr k 0,I i,I at_,x] h=some (.ret (I 0),h')/\dV h' k cr n wd (over b (i.toNat*64+at_.toNat) l)/\h'.next=h.next/\aD h h' (· =cr))
theorem aE7{C:ad}{lf:Nat}(hm:rR C)(hi:x4 C)(S:dV h k cr n wd b){i at_:Int}{x:U}{l:List Nat}(B:Bytes h x l)(aJ:l.length<=140737488355328)
 (b4: -9223372036854775808<=i)(cv:i<9223372036854775808)(aj: -9223372036854775808<=at_)(aC:at_<9223372036854775808):
 (uZ n wd i at_ l->Dp C lf (.ptr k 0) (I i) (I at_) x h=some (.ret (I 22),h))/\
 (¬uZ n wd i at_ l->∃h',Dp C lf (.ptr k 0) (I i) (I at_) x h=some (.ret (I 0),h')/\dV h' k cr n wd (over b (i.toNat*64+at_.toNat) l)/\h'.next=h.next/\aD h h' (· =cr)):=by
 have hlen:=re (P:=ao) Tryd.underlying24 B;unfold Dp To OW;simp only[aA,hm _ _ _ _ _ _ S,hi _ _ _ _ _ _ _ S b4 cv,Bool.not_true];refine⟨λyQ=>?_,λyQ=>?_⟩
 ·cases hu:gS n wd i with
  |false=>simp only[Bool.not_false,aA]
  |true=>
   by_cases h1:at_<0
   ·simp only[Bool.not_true,bu h1,aA]
   ·by_cases h2:64<at_
    ·simp only[Bool.not_true,br h1,bu h2,aA]
    ·have h3:64-at_<l.length:=by
      rcases yQ with h|h|h|h
      ·rw[hu] at h;cases h
      ·exact absurd h h1
      ·exact absurd h h2
      ·exact h
     have ak:IntKind.i64.wrap (64-at_)=64-at_:=wrap_i64 (by omega) (by omega);simp only[Bool.not_true,br h1,br h2,aA,hlen,ak,bu h3]
 ·unfold uZ at yQ
  have hu:gS n wd i=true:=by
   cases hu:gS n wd i with
   |true=>rfl
   |false=>exact absurd (.inl hu) yQ
  have h1:¬at_<0:=λh=>yQ (.inr (.inl h))
  have h2:¬64<at_:=λh=>yQ (.inr (.inr (.inl h)))
  have h3:¬64-at_<l.length:=λh=>yQ (.inr (.inr (.inr h)))
  have ak:IntKind.i64.wrap (64-at_)=64-at_:=wrap_i64 (by omega) (by omega);have hd:=hu;simp only[gS,Bool.and_eq_true,decide_eq_true_eq] at hd;obtain⟨bz,bA,_⟩:=hd;obtain⟨c6,rfl⟩:∃c6:Nat,i=c6:=⟨i.toNat,by omega⟩;obtain⟨a,rfl⟩:∃a:Nat,at_=a:=⟨at_.toNat,by omega⟩;obtain⟨cap,en⟩:=S.cs;have wS:=gA (s:=64) (k:=cr) (off:=0) (len:=n) (lo:=0) (cap:=cap) (kd:= .i64) (i:=(c6:Int)) (by omega) (by omega);rw[Int.toNat_natCast,Nat.zero_add] at wS;obtain⟨sH,kE,ik,mB⟩:=aCT (P:=ao) (k:=cr) (off:=c6*64) (l:=a) (kd:= .i64) Tryd.underlying110 (s:=1) (by kernel_rfl) (by omega)
  have eM:=amS (P:=ao) (t:=24) (t2:=24) (kd:=cr) (od:=sH) (ld:=64-a) (lo:=0) (cap:=some (64-a)) Tryd.underlying24 (by kernel_rfl) B S.uE (by
   by_cases h:a<64
   ·rw[ik h];omega
   ·rw[mB (by omega)];omega)
  have wV:min l.length (64-a)=l.length:=by omega
  rw[wV,List.take_length] at eM;simp only[hu,Bool.not_true,br h1,br h2,aA,hlen,ak,br h3,en,wS,kE,eM]
  have jT:dV (h.set cr sH (hD l)) k cr n wd (over b (c6*64+a) l):=by
   by_cases h:a<64
   ·rw[ik h,Nat.mul_one];exact S.ajr B.1 (by omega)
   ·have va:l=[]:=List.eq_nil_of_length_eq_zero (by omega);subst va
    have e:over b (c6*64+a) []=over b sH []:=by
     funext j;unfold over;simp only[List.length_nil,Nat.add_zero];rw[if_neg (by omega),if_neg (by omega)]
    rw[e];exact S.ajr B.1 (by rw[mB (by omega)];simp;omega)
  exact⟨_,rfl,by simpa using jT,by simp,fj rfl⟩
end
structure dS where
 a3:Nat
 bL:Nat
 kd:Nat
 aK:Nat
structure bt (h:J) (T:dS) (n N:Nat) (wd b:Nat->Nat) (now:Int) (us:Nat->Bool) (nd:Nat->Nat->U):Prop where
 nU:1<=N
 gH:N<=4096
 st:dV h T.bL T.kd n wd b
 cG:h.cell T.a3 0=some (.ptr T.bL 0)
 aP:∃cap,h.cell T.a3 1=some (.aF T.aK 0 N cap 0)
 a1:h.cell T.a3 2=some (I now)
 wt:h.wr T.a3 3
 wn:h.wr T.aK (N*308)
 dO:∀i c,i<N->c<308->h.cell T.aK (i*308+c)=some (nd i c)
 kN:∀i,i<N->nd i 0= .bool (us i)
 d1:T.a3≠T.bL
 d2:T.a3≠T.kd
 d3:T.a3≠T.aK
 d4:T.aK≠T.bL
 d5:T.aK≠T.kd
 lt:T.a3<h.next
 k5:T.aK<h.next
def a5(k:Nat):Nat:=if k<6 then 12+k else if k<22 then 19+(k-6) else 37+17*((k-22)/16)+(k-22)%16
section
variable{lf:Nat}{h:J}{T:dS}{n N:Nat}{wd b:Nat->Nat}{now:Int}{us:Nat->Bool}{nd:Nat->Nat->U}
def pH(C:ad):Prop:=∀h T n N wd b now us nd,bt h T n N wd b now us nd->C (.fn 73) [.ptr T.a3 0] h=some (.ret (.bool true),h)
theorem aq7{C:ad}(A:bt h T n N wd b now us nd):IS C lf (.ptr T.a3 0) h=some (.ret (.bool true),h):=by
 have h1:=N1 (k:=T.a3) (off:=0) Tryd.underlying64;have h2:=N1 (k:=T.bL) (off:=0) Tryd.underlying25;unfold IS VF Pv;simp only[aA,h1,A.cG,h2]
def c7(N:Nat)(us:Nat->Bool)(ino:Int):Bool:=decide (1<=ino)&&(decide (ino<=N)&&us (ino.toNat-1))
def Ap(C:ad):Prop:=∀h T n N wd b now us nd ino,bt h T n N wd b now us nd-> -9223372036854775808<=ino->ino<9223372036854775808->C (.fn 62) [.ptr T.a3 0,I ino] h=some (.ret (.bool (c7 N us ino)),h)
theorem aq4{C:ad}(aN:pH C)(A:bt h T n N wd b now us nd){ino:Int}:IJ C lf (.ptr T.a3 0) (I ino) h=some (.ret (.bool (c7 N us ino)),h):=by
 obtain⟨cap,fl⟩:=A.aP
 have aJ:eG ao 100 (.aF T.aK 0 N cap 0)=some (I (N:Int)):=by
  simp[eG,Tryd.underlying100]
 unfold IJ Vk Po;simp only[aA,aN _ _ _ _ _ _ _ _ _ A];by_cases h1:1<=ino
 ·by_cases h2:ino<=N
  ·have jQ:=A.gH;obtain⟨c6,rfl⟩:∃c6:Nat,ino=((c6+1:Nat):Int):=⟨ino.toNat-1,by omega⟩;have bT:c6<N:=by omega
   have ak:IntKind.i64.wrap (((c6+1:Nat):Int)-1)=(c6:Int):=cD (by omega);have bW:=gA (s:=308) (k:=T.aK) (off:=0) (len:=N) (lo:=0) (cap:=cap) (kd:= .i64) (i:=(c6:Int)) (by omega) (by omega);rw[Int.toNat_natCast,Nat.zero_add] at bW;have ae:=A.dO c6 0 bT (by omega);rw[Nat.add_zero,A.kN c6 bT] at ae
   have ag:c7 N us ((c6+1:Nat):Int)=us c6:=by
    simp only[c7,bu h1,bu h2,Bool.true_and];congr 1
   simp only[bu h1,aA,fl,aJ,bu h2,ak,bW,Nat.add_zero,ae,ag]
  ·have ag:c7 N us ino=false:=by simp[c7,h2]
   simp only[bu h1,aA,fl,aJ,br h2,ag]
 ·have ag:c7 N us ino=false:=by simp[c7,h1]
  simp only[br h1,aA,ag]
def mh(C:ad):Prop:=∀h T n N wd b now us nd ino,bt h T n N wd b now us nd-> -9223372036854775808<=ino->ino<9223372036854775808->
 C (.fn 74) [.ptr T.a3 0,I ino] h=some (.ret (if c7 N us ino then .bm [.ptr T.aK ((ino.toNat-1)*308),I 0] else .bm [.val (.pointer none),I 2]),h)
theorem aoF{C:ad}(aN:pH C)(hi:Ap C)(A:bt h T n N wd b now us nd){ino:Int}(b4: -9223372036854775808<=ino)(cv:ino<9223372036854775808):
 IT C lf (.ptr T.a3 0) (I ino) h=some (.ret (if c7 N us ino then .bm [.ptr T.aK ((ino.toNat-1)*308),I 0] else .bm [.val (.pointer none),I 2]),h):=by
 unfold IT VG Pw;simp only[aA,aN _ _ _ _ _ _ _ _ _ A,Bool.not_true,hi _ _ _ _ _ _ _ _ _ _ A b4 cv];cases ag:c7 N us ino with
 |false=>simp only[Bool.not_false,aA];rfl
 |true=>
  have jQ:=A.gH;have iP:=ag;simp only[c7,Bool.and_eq_true,decide_eq_true_eq] at iP;obtain⟨h1,h2,_⟩:=iP;obtain⟨cap,fl⟩:=A.aP;obtain⟨c6,rfl⟩:∃c6:Nat,ino=((c6+1:Nat):Int):=⟨ino.toNat-1,by omega⟩;have ak:IntKind.i64.wrap (((c6+1:Nat):Int)-1)=(c6:Int):=cD (by omega);have bW:=gA (s:=308) (k:=T.aK) (off:=0) (len:=N) (lo:=0) (cap:=cap) (kd:= .i64) (i:=(c6:Int)) (by omega) (by omega);rw[Int.toNat_natCast,Nat.zero_add] at bW;have e:(((c6+1:Nat):Int).toNat-1)=c6:=by omega
  simp only[Bool.not_true,aA,fl,ak,bW,e];rfl
def s8(C:ad):Prop:=∀h k o (i:Nat),i<278->C (.fn 76) [.ptr k o,I (i:Int)] h=some (.ret (.ptr k (o+a5 i)),h)
theorem asP{C:ad}{k o i:Nat}(hi:i<278):IU C lf (.ptr k o) (I (i:Int)) h=some (.ret (.ptr k (o+a5 i)),h):=by
 unfold IU VP Px;simp only[aA];by_cases h1:i<6
 ·have d1:decide ((i:Int)<6)=true:=bu (by omega);have bW:=l1 (n:=6) (s:=1) (k:=k) (off:=o+12) (kd:= .i64) (i:=(i:Int)) (by omega) (by omega);simp only[d1,aA,bW,Int.toNat_natCast];rw[a5,if_pos h1,Nat.add_assoc]
 ·have d1:decide ((i:Int)<6)=false:=br (by omega);by_cases h2:i<22
  ·have d2:decide ((i:Int)<22)=true:=bu (by omega);have ak:IntKind.i64.wrap ((i:Int)-6)=((i-6:Nat):Int):=cD (by omega);have bW:=l1 (n:=16) (s:=1) (k:=k) (off:=o+18+1) (kd:= .i64) (i:=((i-6:Nat):Int)) (by omega) (by omega);simp only[d1,d2,aA,ak,bW,Int.toNat_natCast];rw[a5,if_neg h1,if_pos h2,show o+18+1+(i-6)=o+(19+(i-6)) by omega]
  ·have d2:decide ((i:Int)<22)=false:=br (by omega);have ak:IntKind.i64.wrap ((i:Int)-22)=((i-22:Nat):Int):=cD (by omega)
   have a2:IntKind.i64.wrap (((i-22:Nat):Int).tdiv 16)=(((i-22)/16:Nat):Int):=by
    rw[Int.tdiv_eq_ediv_of_nonneg (by omega),wrap_i64 (by omega) (by omega)];rfl
   have aQ:((i-22:Nat):Int).tmod 16=(((i-22)%16:Nat):Int):=by
    rw[Int.tmod_eq_emod_of_nonneg (by omega)];rfl
   have bW:=l1 (n:=16) (s:=17) (k:=k) (off:=o+36) (kd:= .i64) (i:=(((i-22)/16:Nat):Int)) (by omega) (by omega);have ad7:=l1 (n:=16) (s:=1) (k:=k) (off:=o+36+(i-22)/16*17+1) (kd:= .i64) (i:=(((i-22)%16:Nat):Int)) (by omega) (by omega);rw[Int.toNat_natCast] at bW ad7;simp only[d1,d2,aA,ak,lV (show(16:Int)≠0 by omega),ih (show(16:Int)≠0 by omega),a2,aQ,bW,ad7];rw[a5,if_neg h1,if_neg h2,show o+36+(i-22)/16*17+1+(i-22)%16=o+(37+17*((i-22)/16)+(i-22)%16) by omega]
end
def cU(nd:Nat->Nat->U)(i c:Nat)(y:U):Nat->Nat->U:=λi' a4=>if i'=i/\a4=c then y else nd i' a4
theorem mO(nd:Nat->Nat->U)(i c:Nat)(y:U):cU nd i c y i c=y:=if_pos ⟨rfl,rfl⟩
theorem hn(nd:Nat->Nat->U){i c i' a4:Nat}(y:U)(h:i'≠i\/a4≠c):cU nd i c y i' a4=nd i' a4:=if_neg (by omega)
section
variable{lf:Nat}{h h':J}{T:dS}{n N:Nat}{wd b de b':Nat->Nat}{now:Int}{us:Nat->Bool}{nd:Nat->Nat->U}
theorem bt.store(A:bt h T n N wd b now us nd)(S:dV h' T.bL T.kd n de b')(aR:h.next<=h'.next)(h1:ct h h' T.a3)(h2:ct h h' T.aK):bt h' T n N de b' now us nd:=
 ⟨A.nU,A.gH,S,by rw[h1.cell];exact A.cG,by rw[h1.cell];exact A.aP,by rw[h1.cell];exact A.a1,let ⟨q,a,c⟩:=A.wt;⟨q,by rw[h1.mt];exact a,c⟩,
   let ⟨q,a,c⟩:=A.wn;⟨q,by rw[h2.mt];exact a,c⟩,λi c hi ae=>by rw[h2.cell];exact A.dO i c hi ae,A.kN,A.d1,A.d2,A.d3,A.d4,A.d5,Nat.lt_of_lt_of_le A.lt aR,Nat.lt_of_lt_of_le A.k5 aR⟩
theorem bt.frame(A:bt h T n N wd b now us nd)(aR:h.next<=h'.next)(ak:∀j,j=T.a3\/j=T.bL\/j=T.kd\/j=T.aK->ct h h' j):bt h' T n N wd b now us nd:=
 A.store (A.st.frame aR (ak _ (.inr (.inl rfl))) (ak _ (.inr (.inr (.inl rfl))))) aR (ak _ (.inl rfl)) (ak _ (.inr (.inr (.inr rfl))))
theorem bt.setNode(A:bt h T n N wd b now us nd){i c:Nat}{y:U}(hi:i<N)(ae:c<308)(h0:c≠0):bt (h.set T.aK (i*308+c) [y]) T n N wd b now us (cU nd i c y):=by
 have ag:i*308+c+[y].length<=N*308:=by simp;omega
 refine⟨A.nU,A.gH,A.st.frame (Nat.le_of_eq (dz ..).symm) (gr _ _ _ (λe=>A.d4 e.symm)) (gr _ _ _ (λe=>A.d5 e.symm)),?_,?_,?_,dY A.wt,dY A.wn,λi' a4 cH fk=>?_,λi' cH=>?_,A.d1,A.d2,A.d3,A.d4,A.d5,by rw[dz];exact A.lt,by rw[dz];exact A.k5⟩
 ·rw[ep (.inl A.d3)];exact A.cG
 ·rw[ep (.inl A.d3)];exact A.aP
 ·rw[ep (.inl A.d3)];exact A.a1
 ·by_cases e:i'=i/\a4=c
  ·obtain⟨rfl,rfl⟩:=e;rw[fZ A.wn ag (Nat.le_refl _) (by simp),mO];simp
  ·rw[ep (.inr (by simp;omega)),hn _ _ (by omega)];exact A.dO i' a4 cH fk
 ·rw[hn _ _ (.inr (λe=>h0 e.symm))];exact A.kN i' cH
theorem xz(A:bt h T n N wd b now us nd){i c:Nat}{y:U}(hi:i<N)(ae:c<308)(h1:y.cells=[y])(h2:dB [y]=true):st 1 (.ptr T.aK (i*308+c)) y h=some (h.set T.aK (i*308+c) [y]):=by
 have:=gN (n:=1) (off:=i*308+c) (y:=y) A.wn (by rw[h1];rfl) (by omega) (by rw[h1];exact h2)
 rw[h1] at this;exact this
def vU(C:ad):Prop:=∀h T n N wd b now us nd i c (v:Nat),bt h T n N wd b now us nd->i<N->c<308->c≠0->nd i c=I (v:Int)->v<=n->
 (v=0->C (.fn 91) [.ptr T.a3 0,.ptr T.aK (i*308+c)] h=some (.ret (.bm []),h))/\
 (0<v->bP wd (v-1)=true->∃h',C (.fn 91) [.ptr T.a3 0,.ptr T.aK (i*308+c)] h=some (.ret (.bm []),h')/\
   bt h' T n N (da wd ((v-1)/64) (tn (wd ((v-1)/64)) ((v-1)%64))) b now us (cU nd i c (I 0))/\aD h h' (λj=>j=T.bL\/j=T.aK))
theorem ann{C:ad}(au:CE C)(A:bt h T n N wd b now us nd){i c v:Nat}(hi:i<N)(ae:c<308)(h0:c≠0)(hv:nd i c=I (v:Int))(Rk:v<=n):
 (v=0->DE C lf (.ptr T.a3 0) (.ptr T.aK (i*308+c)) h=some (.ret (.bm []),h))/\
 (0<v->bP wd (v-1)=true->∃h',DE C lf (.ptr T.a3 0) (.ptr T.aK (i*308+c)) h=some (.ret (.bm []),h')/\
   bt h' T n N (da wd ((v-1)/64) (tn (wd ((v-1)/64)) ((v-1)%64))) b now us (cU nd i c (I 0))/\aD h h' (λj=>j=T.bL\/j=T.aK)):=by
 have aR:=A.st.ck;have ek:=A.dO i c hi ae;rw[hv] at ek;unfold DE WX PG;simp only[aA,ek];refine⟨λe=>?_,λe e5=>?_⟩
 ·subst e;have d:decide ((0:Int)<((0:Nat):Int))=false:=by decide
  simp only[d,aA]
 ·have d:decide ((0:Int)<(v:Int))=true:=bu (by omega);have ak:IntKind.i64.wrap ((v:Int)-1)=((v-1:Nat):Int):=cD (by omega)
  have jj:gS n wd ((v-1:Nat):Int)=true:=by
   simp only[gS,Int.toNat_natCast,e5,Bool.and_true,Bool.and_eq_true,decide_eq_true_eq];omega
  obtain⟨h1,az,ig,aL⟩:=(au h T.bL T.kd n wd b ((v-1:Nat):Int) A.st (by omega) (by omega)).2 jj;rw[Int.toNat_natCast] at ig;have bX:=A.store ig aL.next (aL.same _ A.lt (λe=>A.d1 e)) (aL.same _ A.k5 (λe=>A.d4 e))
  have dc:=xz bX (i:=i) (c:=c) (y:=I 0) hi ae rfl rfl;refine⟨_,?_,bX.setNode hi ae h0,(aD.ei aL (λj e=> .inl e)).trans (fj (.inr rfl))⟩;simp only[d,aA,A.cG,ak,az,dc]
end
section
variable{lf:Nat}{h h':J}{T:dS}{n N:Nat}{wd b de b':Nat->Nat}{now:Int}{us:Nat->Bool}{nd:Nat->Nat->U}
def Hk(C:ad):Prop:=∀h T n N wd b now us nd i,bt h T n N wd b now us nd->i<N->∃h',C (.fn 77) [.ptr T.a3 0,.ptr T.aK (i*308)] h=some (.ret (.bm []),h')/\
 bt h' T n N wd b now us (cU (cU nd i 9 (I now)) i 10 (I now))/\h'.next=h.next/\aD h h' (· =T.aK)
theorem aEv{C:ad}(A:bt h T n N wd b now us nd){i:Nat}(hi:i<N):∃h',IV C lf (.ptr T.a3 0) (.ptr T.aK (i*308)) h=some (.ret (.bm []),h')/\
 bt h' T n N wd b now us (cU (cU nd i 9 (I now)) i 10 (I now))/\h'.next=h.next/\aD h h' (· =T.aK):=by
 have bX:=A.setNode (c:=9) (y:=I now) hi (by omega) (by omega);have s1:=xz (y:=I now) A (i:=i) (c:=9) hi (by omega) rfl rfl;have s2:=xz (y:=I now) bX (i:=i) (c:=10) hi (by omega) rfl rfl;have az:i*308+1+8=i*308+9:=Nat.add_assoc _ 1 8;have ay:i*308+1+9=i*308+10:=Nat.add_assoc _ 1 9;refine⟨(h.set T.aK (i*308+9) [I now]).set T.aK (i*308+10) [I now],?_,bX.setNode hi (by omega) (by omega),by rw[dz,dz],(fj (S:=(· =T.aK)) rfl).trans (fj (S:=(· =T.aK)) rfl)⟩;unfold IV VQ Py;simp only[aA,A.a1,az,ay,s1,s2]
structure c3 (n N:Nat) (wd:Nat->Nat) (nd:Nat->Nat->U) (bl:Nat->Nat->Nat):Prop where
 cell:∀i c,i<N->12<=c->c<308->nd i c=I (bl i c:Int)
 le:∀i c,bl i c<=n
 on:∀i c,i<N->12<=c->c<308->0<bl i c->bP wd (bl i c-1)=true
 inj:∀i c i' a4,i<N->12<=c->c<308->i'<N->12<=a4->a4<308->0<bl i c->bl i c=bl i' a4->i=i'/\c=a4
def kp(bl:Nat->Nat->Nat)(i c v:Nat):Nat->Nat->Nat:=λi' a4=>if i'=i/\a4=c then v else bl i' a4
theorem sQ(bl:Nat->Nat->Nat)(i c v:Nat):kp bl i c v i c=v:=if_pos ⟨rfl,rfl⟩
theorem nM(bl:Nat->Nat->Nat){i c i' a4:Nat}(v:Nat)(h:i'≠i\/a4≠c):kp bl i c v i' a4=bl i' a4:=if_neg (by omega)
theorem aEI{bl:Nat->Nat->Nat}{i c:Nat}(h:bl i c=0):kp bl i c 0=bl:=by
 funext i' a4
 unfold kp;split
 ·rename_i e;rw[e.1,e.2,h]
 ·rfl
theorem ajf{nd:Nat->Nat->U}{i c:Nat}{y:U}(h:nd i c=y):cU nd i c y=nd:=by
 funext i' a4
 unfold cU;split
 ·rename_i e;rw[e.1,e.2,h]
 ·rfl
def xa(wd:Nat->Nat)(j:Nat):Nat->Nat:=da wd (j/64) (tn (wd (j/64)) (j%64))
theorem R1{wd:Nat->Nat}(hw:∀i,wd i<2 ^ 64){j fp:Nat}:bP (xa wd j) fp=(bP wd fp&&decide (fp≠j)):=by
 unfold xa;rw[afO];split
 ·rename_i e;rw[Z4 (hw _) (Nat.mod_lt _ (by omega))];unfold bP;rw[e];congr 1;by_cases h:fp=j
  ·subst h;simp
  ·have:fp%64≠j%64:=by omega
   simp[h,this]
 ·rename_i e
  have:fp≠j:=λh=>e (by rw[h])
  simp[this]
theorem c3.drop{bl:Nat->Nat->Nat}(M:c3 n N wd nd bl)(hw:∀i,wd i<2 ^ 64){i c:Nat}(hi:i<N)(dF:12<=c)(ae:c<308)(ag:0<bl i c):
 c3 n N (xa wd (bl i c-1)) (cU nd i c (I 0)) (kp bl i c 0):=by
 refine⟨λi' a4 cH n9 fk=>?_,λi' a4=>?_,λi' a4 cH n9 fk aB=>?_,λi1 aP i2 a1 nB h1 fl nC h2 m6 aB he=>?_⟩
 ·by_cases e:i'=i/\a4=c
  ·obtain⟨rfl,rfl⟩:=e;rw[mO,sQ];rfl
  ·rw[hn _ _ (by omega),nM _ _ (by omega)];exact M.cell i' a4 cH n9 fk
 ·unfold kp;split
  ·omega
  ·exact M.le i' a4
 ·by_cases e:i'=i/\a4=c
  ·obtain⟨rfl,rfl⟩:=e;rw[sQ] at aB;omega
  ·rw[nM _ _ (by omega)] at aB⊢;rw[R1 hw,M.on i' a4 cH n9 fk aB,Bool.true_and,decide_eq_true_eq];intro h;exact e (M.inj i' a4 i c cH n9 fk hi dF ae aB (by omega))
 ·by_cases az:i1=i/\aP=c
  ·obtain⟨rfl,rfl⟩:=az;rw[sQ] at aB;omega
  ·rw[nM _ _ (by omega)] at aB he;by_cases ay:i2=i/\a1=c
   ·obtain⟨rfl,rfl⟩:=ay;rw[sQ] at he;omega
   ·rw[nM _ _ (by omega)] at he;exact M.inj i1 aP i2 a1 nB h1 fl nC h2 m6 aB he
theorem c3.lu{bl:Nat->Nat->Nat}(M:c3 n N wd nd bl){i c:Nat}{y:U}(ae:c<12):c3 n N wd (cU nd i c y) bl:=
 ⟨λi' a4 cH n9 fk=>by rw[hn _ _ (by omega)];exact M.cell i' a4 cH n9 fk,M.le,M.on,M.inj⟩
def yr(wd:Nat->Nat)(v:Nat):Nat->Nat:=if v=0 then wd else xa wd (v-1)
theorem anm{C:ad}(D:vU C){bl:Nat->Nat->Nat}(A:bt h T n N wd b now us nd)(M:c3 n N wd nd bl){i c:Nat}(hi:i<N)(dF:12<=c)(ae:c<308):
 ∃h',C (.fn 91) [.ptr T.a3 0,.ptr T.aK (i*308+c)] h=some (.ret (.bm []),h')/\
  bt h' T n N (yr wd (bl i c)) b now us (cU nd i c (I 0))/\c3 n N (yr wd (bl i c)) (cU nd i c (I 0)) (kp bl i c 0)/\aD h h' (λj=>j=T.bL\/j=T.aK):=by
 obtain⟨d0,d1⟩:=D h T n N wd b now us nd i c (bl i c) A hi ae (by omega) (M.cell i c hi dF ae) (M.le i c);by_cases e:bl i c=0
 ·have ak:cU nd i c (I 0)=nd:=ajf (by rw[M.cell i c hi dF ae,e];rfl);refine⟨h,d0 e,?_,?_,aD.refl _ _⟩
  ·rw[yr,if_pos e,ak];exact A
  ·rw[yr,if_pos e,ak,aEI e];exact M
 ·obtain⟨h',az,bX,aL⟩:=d1 (by omega) (M.on i c hi dF ae (by omega));refine⟨h',az,?_,?_,aL⟩
  ·rw[yr,if_neg e];exact bX
  ·rw[yr,if_neg e];exact M.drop A.st.iF hi dF ae (by omega)
end
section
variable{P:Program}
theorem asN{e:TypeId}(ak:eg P e=some 1)(bV:rG P e=some false){k:IntKind}{f:Nat->Int}{n i:Nat}(hi:i<n):qb P e ((List.range n).map λj=> .int k (f j)) (i*1)=some (.int k (f i)):=by
 simp[qb,ak,bV,hi]
theorem anN{e:TypeId}{kk k:IntKind}(he:P.underlying e=some (.int kk)){d:Nat}{a b:Int}:pU P (d+1) e (.int k a) (.int k b)=some (a==b):=by
 have ai:(k==k)=true:=p6;simp only[pU,he,ai,cond_true]
theorem anM{t e:TypeId}{n z:Nat}(hu:P.underlying t=some (.array n e))(ak:eg P e=some z){d:Nat}{xs ys:List U}:pU P (d+1) t (.agg xs) (.agg ys)=wB P (pU P d) e z xs ys (List.range n):=by
 simp only[pU,hu,ak]
theorem aaT{e:TypeId}{kk k:IntKind}(he:P.underlying e=some (.int kk))(ak:eg P e=some 1)(bV:rG P e=some false){f g:Nat->Int}{n d:Nat}:∀{is:List Nat},(∀i∈is,i<n)->
 wB P (pU P (d+1)) e 1 ((List.range n).map λj=> .int k (f j)) ((List.range n).map λj=> .int k (g j)) is=some (is.all λi=>f i==g i)
 | [],_=>rfl
 |i::is,h=>by
  have bp:=aaT (k:=k) he ak bV (f:=f) (g:=g) (n:=n) (d:=d) (is:=is) (λj aa=>h j (List.mem_cons_of_mem _ aa));have hi:=h i (List.mem_cons_self ..);simp only[wB,asN ak bV hi,bp,anN he,List.all_cons]
theorem alF{t e:TypeId}{n:Nat}{kk k:IntKind}(hu:P.underlying t=some (.array n e))(he:P.underlying e=some (.int kk))(ak:eg P e=some 1)(bV:rG P e=some false)(bc:P.eqGuardType P.depth t=false){f g:Nat->Int}:
 bin P .eql t (.agg ((List.range n).map λj=> .int k (f j))) (.agg ((List.range n).map λj=> .int k (g j)))=some (.bool ((List.range n).all λi=>f i==g i)):=by
 rw[wj];show wC P .eql t _ _=_;simp only[wC,wD,bc,cond_false,anM hu ak,aaT he ak bV (λi hi=>List.mem_range.1 hi)]
end
section
variable{lf:Nat}{h h':J}{T:dS}{n N:Nat}{wd b de b':Nat->Nat}{now:Int}{us:Nat->Bool}{nd:Nat->Nat->U}
def m3(f:Nat->Nat):List U:=(List.range 17).map λj=>I (f j:Int)
theorem Ze{α:Type}(k:IntKind)(f:α->Int):∀l:List α,dB (l.map λj=> .int k (f j))=true
 | []=>rfl
 |x::l=>by simp[dB,Ze k f l,U.one]
def CC(C:ad):Prop:=∀h (f:Nat->Nat),∃h',C (.fn 92) [.agg (m3 f)] h=some (.ret (.bool ((List.range 16).all λj=>f (1+j)==0)),h')/\aD h h' (λ_=>False)
theorem anA{C:ad}{f:Nat->Nat}:∃h',I5 C lf (.agg (m3 f)) h=some (.ret (.bool ((List.range 16).all λj=>f (1+j)==0)),h')/\aD h h' (λ_=>False):=by
 have D5:(U.agg (m3 f)).flat=true:=rfl;have ae:(U.agg (m3 f)).cells=m3 f:=rfl;have fx:=uJ (e:=122) (h:=h) D5;rw[ae] at fx;have tL:∀i,(h.new (cI 122 (m3 f))).cell h.next i=(m3 f)[i]?:=λi=>by rw[jx,nK]
 have en:(h.new (cI 122 (m3 f))).cells h.next 1 16=some ((List.range 16).map λj=>I (f (1+j):Int)):=by
  refine jy (by simp) λj aa=>?_
  rw[tL];simp[m3,aa,show 1+j<17 by omega]
 obtain⟨md,mA,_,_⟩:=hW (h:=h) (o:=cI 122 (m3 f)) rfl;have kf:eB 16 (.ptr h.next 1) (h.new (cI 122 (m3 f)))=some (.agg ((List.range 16).map λj=>I (f (1+j):Int))):=by rw[mE mA,en];rfl
 have my:gM ao 120 [] []=some (.agg ((List.range 16).map λj=>I 0)):=by kernel_rfl
 have heq:=alF (P:=ao) (t:=120) (n:=16) (kk:= .i64) (k:= .i64) Tryd.underlying120 (by kernel_rfl) (by kernel_rfl) (by kernel_rfl) (by kernel_rfl) (f:=λj=>(f (1+j):Int)) (g:=λ_=>0)
 have a2:((List.range 16).all λi=>(f (1+i):Int)==0)=(List.range 16).all λj=>f (1+j)==0:=by
  have:(λi:Nat=>(f (1+i):Int)==0)=λj=>f (1+j)==0:=by
   funext j
   by_cases e:f (1+j)=0
   ·rw[e];rfl
   ·have az:((f (1+j):Int)==0)=false:=by simp;omega
    have ay:(f (1+j)==0)=false:=by simp[e]
    rw[az,ay]
  rw[this]
 rw[a2] at heq;refine⟨_,?_,aD.new h (cI 122 (m3 f)) _⟩;unfold I5 WY PH;simp only[aA,fx,kf,my,heq]
end
noncomputable section
variable{C:ad}{lf:Nat}{ba a0 eA fz jU k3 q4 q5 q6 q7 q8 q9 q1 q2 q3:hp}{an:lj}
noncomputable def mr:b1 ao:=⟨38,Tryd.f38,λr=>bif Nat.beq r 16 then .ord [0,1,2,4,5,10,11,12,13,14,15,16,3,6,7,8,9,17] [(6,[3])] else .text,Tryd.func38,by kernel_rfl,by kernel_rfl,by kernel_rfl,by kernel_rfl⟩
noncomputable def qF(x8 x9:O)(h:J):ab:=
 ob x8 λa=>ob x9 λb=>some (.ret (.bm [a,b]),h)
def zO(C:ad)(lf:Nat)(r:aS)(x0 x2 aU x12:O)(h:J):ab:=
 hC .eql 3 x12 (I 0) (r (bD 0) (bD 28) h) (ob aU λa=>e9 1 aU λb=>eK 4 b h λb=>oC .add 3 x2 x12 λc=>b2 (eX ao .max #[3,3] [b,c] h) λb k=>ef 1 a λa=>ob (bZ 4 a) λa=>ob (st 1 a b k) λk=>a1 C 77 x0 aU k λa k=>ob x12 λa=>r (some a) (bD 0) k)
theorem avW{r:aS}:∀F h,ar mr C lf [1,1,1,1,1,1,1] F h ba (a7 r 8 9) an=bj (zO C lf r) 0 2 10 12 F h:=by
 intro F h;kernel_rfl
def Fl(C:ad)(lf:Nat)(n:cC)(az:bo)(x0 x2 x3 aU x12:O)(h:J):ab:=
 ob x12 λa=>nH 24 x3 λb=>eH .lss 3 a b (oC .add 3 x2 x12 λa=>cn .quo 3 a (I 64) λa=>oC .add 3 x2 x12 λb=>cn .rem 3 b (I 64) λb=>ob x0 λc=>ob aU λd=>cJ C 75 [c,d,a] h λc k=>fM c (az x0 x2 aU x12 k) (cn .sub 3 (I 64) b λc=>nH 24 x3 λd=>zH .sub 3 d x12 λd=>b2 (eX ao .min #[3,3] [c,d] k) λc k=>e9 0 x0 λd=>ob aU λg=>ob x3 λi=>ob x12 λj=>cB .add 3 x12 c λm=>ob (gl ao 24 i (some j) (some m)) λi=>ob (bO d k) λj=>cM (C (.fn 76) [g,a] k) λa l=>dM (ey [(3,bU (some d))] k l [3]) (ob (ev a) λa=>ob (bO a l) λa=>cn .sub 3 a (I 1) λa=>cM (C (.fn 18) [j,a,b,i] l) λa k=>cB .add 3 x12 c λa=>n x0 x2 x3 aU (some a) k))) (az x0 x2 aU x12 h)
theorem avX{n:cC}{az:bo}:∀F h,ar mr C lf [1,1,1,1,1,1,0,0,0] F h (cR n 0 2 3 10 12) a0 (bI 1 (bj az 0 2 10 12) an)=cR (Fl C lf n az) 0 2 3 10 12 F h:=by
 intro F h;kernel_rfl
def EI(C:ad)(lf:Nat)(az:bo)(k:O×O×O×O×O->J->ab)(s:O×O×O×O×O)(h:J):ab:=
 Fl C lf (λa b c d g=>k (a,b,c,d,g)) az s.1 s.2.1 s.2.2.1 s.2.2.2.1 s.2.2.2.2 h
def Ur(C:ad)(lf:Nat)(r:aS)(x0 x2 x3 aU x12:O)(h:J):ab:=
 bk (EI C lf (zO C lf r)) lf (x0,x2,x3,aU,x12) h
theorem avY{r:aS}:∀F h,ar mr C lf [1,1,1,1,1,1] F h ba (a7 r 8 9) an=cR (Ur C lf r) 0 2 3 10 12 F h:=bg (a:=b7 mr [1,1,1,1,1,1,0]) (by kernel_rfl) avW (fY (id:=1) (a:=b7 mr [1,1,1,1,1,1,0,0]) (by kernel_rfl) (gJ (g:=λF=>(F 0,F 2,F 3,F 10,F 12)) (body:=EI C lf (λx0 x2 aU x12 h=>zO C lf r x0 x2 aU x12 h)) (by kernel_rfl) (λk=>(avX (n:=λx0 x2 x3 aU x12 h=>k (x0,x2,x3,aU,x12) h)))))
def Us(C:ad)(lf:Nat)(n:cC)(x0 x2 x3 aU:O)(h:J):ab:=
 n x0 x2 x3 aU (bD 0) h
theorem avZ{n:cC}:∀F h,ar mr C lf [1,1,1,1,1,0] F h (cR n 0 2 3 10 12) a0 an=bj (Us C lf n) 0 2 3 10 F h:=by
 intro F h;kernel_rfl
def Ut(C:ad)(lf:Nat)(r:aS)(x0 x2 x3 aU:O)(h:J):ab:=
 Us C lf (Ur C lf r) x0 x2 x3 aU h
theorem av0{r:aS}:∀F h,ar mr C lf [1,1,1,1,1] F h ba (a7 r 8 9) an=bj (Ut C lf r) 0 2 3 10 F h:=bg (by kernel_rfl) avY avZ
def Uu(C:ad)(lf:Nat)(n:bo)(x0 x2 x3 aU:O)(h:J):ab:=
 ob x3 λa=>nH 24 x3 λb=>zH .sub 3 (I 17792) x2 λc=>b2 (eX ao .min #[3,3] [b,c] h) λb k=>ob (gl ao 24 a none (some b)) λa=>n x0 x2 (some a) aU k
theorem av1{n:bo}:∀F h,ar mr C lf [1,1,1,1,0] F h (bj n 0 2 3 10) a0 an=bj (Uu C lf n) 0 2 3 10 F h:=by
 intro F h;kernel_rfl
def Uv(C:ad)(lf:Nat)(r:aS)(x0 x2 x3 aU:O)(h:J):ab:=
 Uu C lf (Ut C lf r) x0 x2 x3 aU h
theorem av2{r:aS}:∀F h,ar mr C lf [1,1,1,1] F h ba (a7 r 8 9) an=bj (Uv C lf r) 0 2 3 10 F h:=bg (by kernel_rfl) av0 av1
def B2(C:ad)(lf:Nat)(n:bo)(r:aS)(x0 x2 x3 aU:O)(h:J):ab:=
 hC .lss 3 x2 (I 0) (r (bD 0) (bD 22) h) (nH 24 x3 λa=>eH .eql 3 a (I 0) (r (bD 0) (bD 0) h) (hC .geq 3 x2 (I 17792) (r (bD 0) (bD 27) h) (n x0 x2 x3 aU h)))
theorem av3{n:bo}{r:aS}:∀F h,ar mr C lf [1,1,1,0] F h (bj n 0 2 3 10) (a7 r 8 9) an=bj (B2 C lf n r) 0 2 3 10 F h:=by
 intro F h;kernel_rfl
def xi(C:ad)(lf:Nat)(r:aS)(x0 x2 x3 aU:O)(h:J):ab:=
 B2 C lf (Uv C lf r) r x0 x2 x3 aU h
theorem av4{r:aS}:∀F h,ar mr C lf [1,1,1] F h ba (a7 r 8 9) an=bj (xi C lf r) 0 2 3 10 F h:=bg (by kernel_rfl) av2 av3
def KG(C:ad)(lf:Nat)(n:bo)(r:aS)(x0 x2 x3 aU x11:O)(h:J):ab:=
 hC .neq 26 x11 (I 0) (ob x11 λa=>r (bD 0) (some a) h) (n x0 x2 x3 aU h)
theorem av5{n:bo}{r:aS}:∀F h,ar mr C lf [1,1,0] F h (bj n 0 2 3 10) (a7 r 8 9) an=cR (KG C lf n r) 0 2 3 10 11 F h:=by
 intro F h;kernel_rfl
def KH(C:ad)(lf:Nat)(r:aS)(x0 x2 x3 aU x11:O)(h:J):ab:=
 KG C lf (xi C lf r) r x0 x2 x3 aU x11 h
theorem av6{r:aS}:∀F h,ar mr C lf [1,1] F h ba (a7 r 8 9) an=cR (KH C lf r) 0 2 3 10 11 F h:=bg (by kernel_rfl) av4 av5
def KI(C:ad)(lf:Nat)(n:cC)(x0 x1 x2 x3:O)(h:J):ab:=
 a1 C 74 x0 x1 h λa k=>cy a λa b=>n x0 x2 x3 (some a) (some b) k
theorem av7{n:cC}:∀F h,ar mr C lf [1,0] F h (cR n 0 2 3 10 11) a0 an=bj (KI C lf n) 0 1 2 3 F h:=by
 intro F h;kernel_rfl
def KJ(C:ad)(lf:Nat)(r:aS)(x0 x1 x2 x3:O)(h:J):ab:=
 KI C lf (KH C lf r) x0 x1 x2 x3 h
theorem av8{r:aS}:∀F h,ar mr C lf [1] F h ba (a7 r 8 9) an=bj (KJ C lf r) 0 1 2 3 F h:=bg (by kernel_rfl) av6 av7
noncomputable def KK(C:ad)(lf:Nat)(n:bo)(x0 x1 x2 x3:O)(h:J):ab:=
 n x0 x1 x2 x3 h
theorem av9{n:bo}:∀F h,ar mr C lf [0] F h (bj n 0 1 2 3) a0 an=bj (KK C lf n) 0 1 2 3 F h:=by
 intro F h;kernel_rfl
def KL(C:ad)(lf:Nat)(r:aS)(x0 x1 x2 x3:O)(h:J):ab:=
 KK C lf (KJ C lf r) x0 x1 x2 x3 h
theorem awa{r:aS}:∀F h,ar mr C lf [] F h ba (a7 r 8 9) an=bj (KL C lf r) 0 1 2 3 F h:=bg (by kernel_rfl) av8 av9
def sa(C:ad)(lf:Nat)(ah aj aC a8:U)(h:J):ab:=KL C lf qF (some ah) (some aj) (some aC) (some a8) h
def P5:cx ao:=rT mr sa (λC lf ah aj aC a8 h=>cS (K:=(a7 qF 8 9)) (by kernel_rfl) (Eq.trans (awa _ h) (by kernel_rfl))) (by kernel_rfl)
def ky:b1 ao:=dk 41 Tryd.f41 Tryd.func41 (by kernel_rfl)
noncomputable def tx(x8 x9:O)(h:J):ab:=
 ob x8 λa=>ob x9 λb=>some (.ret (.bm [a,b]),h)
def Fo(C:ad)(lf:Nat)(r:aS)(ew:O)(h:J):ab:=
 ob ew λa=>r (some a) (bD 0) h
theorem awn{r:aS}:∀F h,ar ky C lf [1,1,1,1,1,1,1,1,1] F h ba (a7 r 8 9) an=aM (Fo C lf r) 13 F h:=by
 intro F h;kernel_rfl
def Fp(C:ad)(lf:Nat)(n:cC)(av:aw)(x0 x2 aU x12 ew:O)(h:J):ab:=
 lb .lss 3 x2 x12 (cB .quo 3 x2 (I 64) λa=>cB .rem 3 x2 (I 64) λb=>cn .sub 3 (I 64) b λc=>oC .sub 3 x12 x2 λd=>b2 (eX ao .min #[3,3] [c,d] h) λc k=>ob aU λd=>cJ C 76 [d,a] k λa k=>ob (ev a) λa=>ob (bO a k) λa=>eH .gtr 3 a (I 0) (dw 0 x0 k λd=>cn .sub 3 a (I 1) λa=>cJ C 21 [d,a] k λa k=>cy a λa d=>ob ew λd=>cn .add 3 b c λg=>ob (gl ao 24 a (some b) (some g)) λa=>b2 (eX ao .append #[24,24] [d,a] k) λa k=>cB .add 3 x2 c λb=>n x0 (some b) aU x12 (some a) k) (ob ew λa=>b2 (eX ao .append #[24,3] [a,c] k) λa k=>cB .add 3 x2 c λb=>n x0 (some b) aU x12 (some a) k)) (av ew h)
theorem awo{n:cC}{av:aw}:∀F h,ar ky C lf [1,1,1,1,1,1,1,1,0,0,0] F h (cR n 0 2 10 12 13) a0 (bI 0 (aM av 13) an)=cR (Fp C lf n av) 0 2 10 12 13 F h:=by
 intro F h;kernel_rfl
def EJ(C:ad)(lf:Nat)(av:aw)(k:O×O×O×O×O->J->ab)(s:O×O×O×O×O)(h:J):ab:=
 Fp C lf (λa b c d g=>k (a,b,c,d,g)) av s.1 s.2.1 s.2.2.1 s.2.2.2.1 s.2.2.2.2 h
def Uy(C:ad)(lf:Nat)(r:aS)(x0 x2 aU x12 ew:O)(h:J):ab:=
 bk (EJ C lf (Fo C lf r)) lf (x0,x2,aU,x12,ew) h
theorem awp{r:aS}:∀F h,ar ky C lf [1,1,1,1,1,1,1,1] F h ba (a7 r 8 9) an=cR (Uy C lf r) 0 2 10 12 13 F h:=bg (a:=b7 ky [1,1,1,1,1,1,1,1,0]) (by kernel_rfl) awn (fY (id:=0) (a:=b7 ky [1,1,1,1,1,1,1,1,0,0]) (by kernel_rfl) (gJ (g:=λF=>(F 0,F 2,F 10,F 12,F 13)) (body:=EJ C lf (λew h=>Fo C lf r ew h)) (by kernel_rfl) (λk=>(awo (n:=λx0 x2 aU x12 ew h=>k (x0,x2,aU,x12,ew) h)))))
def Uz(C:ad)(lf:Nat)(n:cC)(x0 x2 aU x12:O)(h:J):ab:=
 oC .sub 3 x12 x2 λa=>b2 (nN ao 24 (I 0) a h) λa=>n x0 x2 aU x12 (some a)
theorem awq{n:cC}:∀F h,ar ky C lf [1,1,1,1,1,1,1,0] F h (cR n 0 2 10 12 13) a0 an=bj (Uz C lf n) 0 2 10 12 F h:=by
 intro F h;kernel_rfl
def KQ(C:ad)(lf:Nat)(r:aS)(x0 x2 aU x12:O)(h:J):ab:=
 Uz C lf (Uy C lf r) x0 x2 aU x12 h
theorem awr{r:aS}:∀F h,ar ky C lf [1,1,1,1,1,1,1] F h ba (a7 r 8 9) an=bj (KQ C lf r) 0 2 10 12 F h:=bg (by kernel_rfl) awp awq
def UA(C:ad)(lf:Nat)(n:bo)(x0 x2 x3 aU x12:O)(h:J):ab:=
 ob x3 λa=>oC .sub 3 x12 x2 λb=>eH .lss 3 a b (oC .add 3 x2 x3 λa=>n x0 x2 aU (some a) h) (n x0 x2 aU x12 h)
theorem aws{n:bo}:∀F h,ar ky C lf [1,1,1,1,1,1,0] F h (bj n 0 2 10 12) a0 an=cR (UA C lf n) 0 2 3 10 12 F h:=by
 intro F h;kernel_rfl
def UB(C:ad)(lf:Nat)(r:aS)(x0 x2 x3 aU x12:O)(h:J):ab:=
 UA C lf (KQ C lf r) x0 x2 x3 aU x12 h
theorem awt{r:aS}:∀F h,ar ky C lf [1,1,1,1,1,1] F h ba (a7 r 8 9) an=cR (UB C lf r) 0 2 3 10 12 F h:=bg (by kernel_rfl) awr aws
def UC(C:ad)(lf:Nat)(n:cC)(x0 x2 x3 aU:O)(h:J):ab:=
 e9 1 aU λa=>eK 4 a h λa=>n x0 x2 x3 aU (some a) h
theorem awu{n:cC}:∀F h,ar ky C lf [1,1,1,1,1,0] F h (cR n 0 2 3 10 12) a0 an=bj (UC C lf n) 0 2 3 10 F h:=by
 intro F h;kernel_rfl
def UD(C:ad)(lf:Nat)(r:aS)(x0 x2 x3 aU:O)(h:J):ab:=
 UC C lf (UB C lf r) x0 x2 x3 aU h
theorem awv{r:aS}:∀F h,ar ky C lf [1,1,1,1,1] F h ba (a7 r 8 9) an=bj (UD C lf r) 0 2 3 10 F h:=bg (by kernel_rfl) awt awu
def KR(C:ad)(lf:Nat)(n:bo)(r:aS)(x0 x2 x3 aU:O)(h:J):ab:=
 ob x2 λa=>e9 1 aU λb=>eK 4 b h λb=>eH .geq 3 a b (r (some (.val (.slice none 0 0))) (bD 0) h) (n x0 x2 x3 aU h)
theorem aww{n:bo}{r:aS}:∀F h,ar ky C lf [1,1,1,1,0] F h (bj n 0 2 3 10) (a7 r 8 9) an=bj (KR C lf n r) 0 2 3 10 F h:=by
 intro F h;kernel_rfl
def KS(C:ad)(lf:Nat)(r:aS)(x0 x2 x3 aU:O)(h:J):ab:=
 KR C lf (UD C lf r) r x0 x2 x3 aU h
theorem awx{r:aS}:∀F h,ar ky C lf [1,1,1,1] F h ba (a7 r 8 9) an=bj (KS C lf r) 0 2 3 10 F h:=bg (by kernel_rfl) awv aww
def Fq(C:ad)(lf:Nat)(n:bo)(r:aS)(x0 x2 x3 aU:O)(h:J):ab:=
 cB .lss 3 x2 (I 0) λa=>jg .lss 3 a x3 (I 0) h λb k=>mN a b (r (some (.val (.slice none 0 0))) (bD 22) k) (n x0 x2 x3 aU k)
theorem awy{n:bo}{r:aS}:∀F h,ar ky C lf [1,1,1,0] F h (bj n 0 2 3 10) (a7 r 8 9) an=bj (Fq C lf n r) 0 2 3 10 F h:=by
 intro F h;kernel_rfl
def zP(C:ad)(lf:Nat)(r:aS)(x0 x2 x3 aU:O)(h:J):ab:=
 Fq C lf (KS C lf r) r x0 x2 x3 aU h
theorem awz{r:aS}:∀F h,ar ky C lf [1,1,1] F h ba (a7 r 8 9) an=bj (zP C lf r) 0 2 3 10 F h:=bg (by kernel_rfl) awx awy
def KT(C:ad)(lf:Nat)(n:bo)(r:aS)(x0 x2 x3 aU x11:O)(h:J):ab:=
 hC .neq 26 x11 (I 0) (ob x11 λa=>r (some (.val (.slice none 0 0))) (some a) h) (n x0 x2 x3 aU h)
theorem awA{n:bo}{r:aS}:∀F h,ar ky C lf [1,1,0] F h (bj n 0 2 3 10) (a7 r 8 9) an=cR (KT C lf n r) 0 2 3 10 11 F h:=by
 intro F h;kernel_rfl
def KU(C:ad)(lf:Nat)(r:aS)(x0 x2 x3 aU x11:O)(h:J):ab:=
 KT C lf (zP C lf r) r x0 x2 x3 aU x11 h
theorem awB{r:aS}:∀F h,ar ky C lf [1,1] F h ba (a7 r 8 9) an=cR (KU C lf r) 0 2 3 10 11 F h:=bg (by kernel_rfl) awz awA
def KV(C:ad)(lf:Nat)(n:cC)(x0 x1 x2 x3:O)(h:J):ab:=
 a1 C 74 x0 x1 h λa k=>cy a λa b=>n x0 x2 x3 (some a) (some b) k
theorem awC{n:cC}:∀F h,ar ky C lf [1,0] F h (cR n 0 2 3 10 11) a0 an=bj (KV C lf n) 0 1 2 3 F h:=by
 intro F h;kernel_rfl
def KW(C:ad)(lf:Nat)(r:aS)(x0 x1 x2 x3:O)(h:J):ab:=
 KV C lf (KU C lf r) x0 x1 x2 x3 h
theorem awD{r:aS}:∀F h,ar ky C lf [1] F h ba (a7 r 8 9) an=bj (KW C lf r) 0 1 2 3 F h:=bg (by kernel_rfl) awB awC
noncomputable def KX(C:ad)(lf:Nat)(n:bo)(x0 x1 x2 x3:O)(h:J):ab:=
 n x0 x1 x2 x3 h
theorem awE{n:bo}:∀F h,ar ky C lf [0] F h (bj n 0 1 2 3) a0 an=bj (KX C lf n) 0 1 2 3 F h:=by
 intro F h;kernel_rfl
def KY(C:ad)(lf:Nat)(r:aS)(x0 x1 x2 x3:O)(h:J):ab:=
 KX C lf (KW C lf r) x0 x1 x2 x3 h
theorem awF{r:aS}:∀F h,ar ky C lf [] F h ba (a7 r 8 9) an=bj (KY C lf r) 0 1 2 3 F h:=bg (by kernel_rfl) awD awE
def u3(C:ad)(lf:Nat)(ah aj aC a8:U)(h:J):ab:=KY C lf tx (some ah) (some aj) (some aC) (some a8) h
def P6:cx ao:=rT ky u3 (λC lf ah aj aC a8 h=>cS (K:=(a7 tx 8 9)) (by kernel_rfl) (Eq.trans (awF _ h) (by kernel_rfl))) (by kernel_rfl)
def mu:b1 ao:=dk 75 Tryd.f75 Tryd.func75 (by kernel_rfl)
noncomputable def n7(aG:O)(h:J):ab:=
 ob aG λa=>some (.ret a,h)
noncomputable def Fy(C:ad)(lf:Nat)(r:aw)(h:J):ab:=
 r (some (.bool true)) h
theorem axW{r:aw}:∀F h,ar mu C lf [1,1,1,1,1,1] F h ba (aM r 6) an=ed (Fy C lf r) F h:=by
 intro F h;kernel_rfl
def Fz(C:ad)(lf:Nat)(n:dp)(r:aw)(az:cu)(x3 x8 x9 x50 x51 x52:O)(h:J):ab:=
 lb .lss 3 x52 x51 (ob x50 λa=>sG 1 a x52 h λa=>ob (ev a) λb=>ob (bO b h) λb=>eH .gtr 3 b (I 0) (cB .add 3 x52 (I 1) λa=>n x3 x8 x9 x50 x51 (some a) h) (ob x3 λb=>ob (bO b h) λb=>um 0 b h λb=>cJ C 17 [b] h λb k=>cy b λb c=>eH .neq 26 c (I 0) (ob x9 λa=>fv false C a [] k λa=>r (some (.bool false))) (cn .add 3 b (I 1) λb=>ob (ev a) λc=>ob (st 1 c b k) λk=>ob x8 λb=>ob (bO b k) λb=>b2 (gp ao 143 1 [0] [a] k) λa k=>b2 (eX ao .append #[143,143] [b,a] k) λa k=>ob x8 λb=>ob (st 1 b a k) λk=>cB .add 3 x52 (I 1) λa=>n x3 x8 x9 x50 x51 (some a) k))) (az h)
theorem axX{n:dp}{r:aw}{az:cu}:∀F h,ar mu C lf [1,1,1,1,1,0,1,0,0] F h (dD n 3 8 9 50 51 52) (aM r 6) (bI 1 (ed az) an)=dD (Fz C lf n r az) 3 8 9 50 51 52 F h:=by
 intro F h;kernel_rfl
def zn(C:ad)(lf:Nat)(r:aw)(az:cu)(k:O×O×O×O×O×O->J->ab)(s:O×O×O×O×O×O)(h:J):ab:=
 Fz C lf (λa b c d g i=>k (a,b,c,d,g,i)) r az s.1 s.2.1 s.2.2.1 s.2.2.2.1 s.2.2.2.2.1 s.2.2.2.2.2 h
def VH(C:ad)(lf:Nat)(n:dp)(x1 x2 x3 x7 x8 x9:O)(h:J):ab:=
 ob x7 λa=>a1 C 76 x1 x2 h λb k=>b2 (gp ao 143 1 [0] [b] k) λb k=>b2 (eX ao .append #[143,143] [a,b] k) λa k=>jX 143 a λb=>n x3 x8 x9 (some a) (some b) (bD 0) k
theorem axY{n:dp}:∀F h,ar mu C lf [1,1,1,1,1,0,0] F h (dD n 3 8 9 50 51 52) a0 an=dD (VH C lf n) 1 2 3 7 8 9 F h:=by
 intro F h;kernel_rfl
def VI(C:ad)(lf:Nat)(n:cu)(r:aw)(x1 x2 x3 x7 x8 x9:O)(h:J):ab:=
 VH C lf (λa b c d g i=>bk (zn C lf r n) lf (a,b,c,d,g,i)) x1 x2 x3 x7 x8 x9 h
theorem axZ{n:cu}{r:aw}:∀F h,ar mu C lf [1,1,1,1,1,0] F h (ed n) (aM r 6) an=dD (VI C lf n r) 1 2 3 7 8 9 F h:=bg (b:=b7 mu [1,1,1,1,1,0,1]) (by kernel_rfl) (fY (id:=1) (a:=b7 mu [1,1,1,1,1,0,1,0]) (by kernel_rfl) (gJ (g:=λF=>(F 3,F 8,F 9,F 50,F 51,F 52)) (body:=zn C lf r n) (by kernel_rfl) (λk=>(axX (n:=λx3 x8 x9 x50 x51 x52 h=>k (x3,x8,x9,x50,x51,x52) h))))) (axY (n:=λx3 x8 x9 x50 x51 x52 h=>bk (zn C lf r n) lf (x3,x8,x9,x50,x51,x52) h))
def VJ(C:ad)(lf:Nat)(r:aw)(x1 x2 x3 x7 x8 x9:O)(h:J):ab:=
 VI C lf (Fy C lf r) r x1 x2 x3 x7 x8 x9 h
theorem ax0{r:aw}:∀F h,ar mu C lf [1,1,1,1,1] F h ba (aM r 6) an=dD (VJ C lf r) 1 2 3 7 8 9 F h:=bg (by kernel_rfl) axW axZ
noncomputable def VK(C:ad)(lf:Nat)(n:dp)(x1 x2 x3 x7 x8:O)(h:J):ab:=
 ob x8 λa=>ob x3 λb=>n x1 x2 x3 x7 x8 (some (.fn (.func 90) [] [a,b])) h
theorem ax1{n:dp}:∀F h,ar mu C lf [1,1,1,1,0] F h (dD n 1 2 3 7 8 9) a0 an=cR (VK C lf n) 1 2 3 7 8 F h:=by
 intro F h;kernel_rfl
def VL(C:ad)(lf:Nat)(r:aw)(x1 x2 x3 x7 x8:O)(h:J):ab:=
 VK C lf (VJ C lf r) x1 x2 x3 x7 x8 h
theorem ax2{r:aw}:∀F h,ar mu C lf [1,1,1,1] F h ba (aM r 6) an=cR (VL C lf r) 1 2 3 7 8 F h:=bg (by kernel_rfl) ax0 ax1
noncomputable def VM(C:ad)(lf:Nat)(n:cC)(x1 x2 x3 x7:O)(h:J):ab:=
 b2 (j0 ao 143 h) λa=>n x1 x2 x3 x7 (some a)
theorem ax3{n:cC}:∀F h,ar mu C lf [1,1,1,0] F h (cR n 1 2 3 7 8) a0 an=bj (VM C lf n) 1 2 3 7 F h:=by
 intro F h;kernel_rfl
def zR(C:ad)(lf:Nat)(r:aw)(x1 x2 x3 x7:O)(h:J):ab:=
 VM C lf (VL C lf r) x1 x2 x3 x7 h
theorem ax4{r:aw}:∀F h,ar mu C lf [1,1,1] F h ba (aM r 6) an=bj (zR C lf r) 1 2 3 7 F h:=bg (by kernel_rfl) ax2 ax3
def xl(C:ad)(lf:Nat)(n:bo)(r:aw)(x1 x2 x3 x7:O)(h:J):ab:=
 a1 C 76 x1 x2 h λa k=>ob (ev a) λa=>ob (bO a k) λa=>eH .gtr 3 a (I 0) (r (some (.bool true)) k) (hC .geq 3 x2 (I 22) (e9 35 x1 λa=>ob x1 λb=>cB .sub 3 x2 (I 22) λc=>cn .quo 3 c (I 16) λc=>ef 36 b λb=>ob (eu 16 17 b c) λb=>ob (bZ 0 b) λb=>b2 (gp ao 143 2 [0,1] [a,b] k) λa=>n x1 x2 x3 (some a)) (hC .geq 3 x2 (I 6) (e9 18 x1 λa=>ob (bZ 0 a) λa=>b2 (gp ao 143 1 [0] [a] k) λa=>n x1 x2 x3 (some a)) (n x1 x2 x3 x7 k)))
theorem ax5{n:bo}{r:aw}:∀F h,ar mu C lf [1,1,0] F h (bj n 1 2 3 7) (aM r 6) an=bj (xl C lf n r) 1 2 3 7 F h:=by
 intro F h;kernel_rfl
def agS(C:ad)(lf:Nat)(r:aw)(x1 x2 x3 x7:O)(h:J):ab:=
 xl C lf (zR C lf r) r x1 x2 x3 x7 h
theorem ax6{r:aw}:∀F h,ar mu C lf [1,1] F h ba (aM r 6) an=bj (agS C lf r) 1 2 3 7 F h:=bg (by kernel_rfl) ax4 ax5
noncomputable def agT(C:ad)(lf:Nat)(n:bo)(x1 x2 x3:O)(h:J):ab:=
 n x1 x2 x3 (some (.val (.slice none 0 0))) h
theorem ax7{n:bo}:∀F h,ar mu C lf [1,0] F h (bj n 1 2 3 7) a0 an=bG (agT C lf n) 1 2 3 F h:=by
 intro F h;kernel_rfl
def agU(C:ad)(lf:Nat)(r:aw)(x1 x2 x3:O)(h:J):ab:=
 agT C lf (agS C lf r) x1 x2 x3 h
theorem ax8{r:aw}:∀F h,ar mu C lf [1] F h ba (aM r 6) an=bG (agU C lf r) 1 2 3 F h:=bg (by kernel_rfl) ax6 ax7
noncomputable def VN(C:ad)(lf:Nat)(n:bK)(x0 x1 x2:O)(h:J):ab:=
 ob x0 λa=>b2 (pB 64 a h) λa=>n x1 x2 (some a)
theorem ax9{n:bK}:∀F h,ar mu C lf [0] F h (bG n 1 2 3) a0 an=bG (VN C lf n) 0 1 2 F h:=by
 intro F h;kernel_rfl
def VO(C:ad)(lf:Nat)(r:aw)(x0 x1 x2:O)(h:J):ab:=
 VN C lf (agU C lf r) x0 x1 x2 h
theorem aya{r:aw}:∀F h,ar mu C lf [] F h ba (aM r 6) an=bG (VO C lf r) 0 1 2 F h:=bg (by kernel_rfl) ax8 ax9
def DA(C:ad)(lf:Nat)(ah aj aC:U)(h:J):ab:=VO C lf n7 (some ah) (some aj) (some aC) h
def Qc:cx ao:=nX mu DA (λC lf ah aj aC h=>cS (K:=(aM n7 6)) (by kernel_rfl) (Eq.trans (aya _ h) (by kernel_rfl))) (by kernel_rfl)
def A9:b1 ao:=dk 90 Tryd.f90 Tryd.func90 (by kernel_rfl)
noncomputable def PF(h:J):ab:=
 some (.ret (.bm []),h)
def FJ(C:ad)(lf:Nat)(n:bo)(av:cu)(x1 bC eD aG:O)(h:J):ab:=
 lb .lss 3 aG eD (ob bC λa=>sG 1 a aG h λa=>ob x1 λb=>ob (bO b h) λb=>um 0 b h λb=>ob (ev a) λc=>ob (bO c h) λc=>cn .sub 3 c (I 1) λc=>cM (C (.fn 23) [b,c] h) λb k=>ob (ev a) λa=>ob (st 1 a (I 0) k) λk=>cB .add 3 aG (I 1) λa=>n x1 bC eD (some a) k) (av h)
theorem azU{n:bo}{av:cu}:∀F h,ar A9 C lf [1,0,0] F h (bj n 1 4 5 6) a0 (bI 0 (ed av) an)=bj (FJ C lf n av) 1 4 5 6 F h:=by
 intro F h;kernel_rfl
def BP(C:ad)(lf:Nat)(av:cu)(k:O×O×O×O->J->ab)(s:O×O×O×O)(h:J):ab:=
 FJ C lf (λa b c d=>k (a,b,c,d)) av s.1 s.2.1 s.2.2.1 s.2.2.2 h
def WV(C:ad)(lf:Nat)(n:bo)(x0 x1:O)(h:J):ab:=
 ob x0 λa=>ob (bO a h) λa=>jX 143 a λb=>n x1 (some a) (some b) (bD 0) h
theorem azV{n:bo}:∀F h,ar A9 C lf [0] F h (bj n 1 4 5 6) a0 an=a7 (WV C lf n) 0 1 F h:=by
 intro F h;kernel_rfl
def WW(C:ad)(lf:Nat)(n:cu)(x0 x1:O)(h:J):ab:=
 WV C lf (λa b c d=>bk (BP C lf n) lf (a,b,c,d)) x0 x1 h
theorem azW{n:cu}:∀F h,ar A9 C lf [] F h (ed n) a0 an=a7 (WW C lf n) 0 1 F h:=bg (b:=b7 A9 [1]) (by kernel_rfl) (fY (id:=0) (a:=b7 A9 [1,0]) (by kernel_rfl) (gJ (g:=λF=>(F 1,F 4,F 5,F 6)) (body:=BP C lf n) (by kernel_rfl) (λk=>(azU (n:=λx1 bC eD aG h=>k (x1,bC,eD,aG) h))))) (azV (n:=λx1 bC eD aG h=>bk (BP C lf n) lf (x1,bC,eD,aG) h))
def I4(C:ad)(lf:Nat)(ah aj:U)(h:J):ab:=WW C lf PF (some ah) (some aj) h
def adk:cx ao:=hr A9 I4 (λC lf ah aj h=>cS (K:=(ed PF)) (by kernel_rfl) (Eq.trans (azW _ h) (by kernel_rfl))) (by kernel_rfl)
def nx:b1 ao:=dk 78 Tryd.f78 Tryd.func78 (by kernel_rfl)
noncomputable def u2(h:J):ab:=
 some (.ret (.bm []),h)
def B7(C:ad)(lf:Nat)(n:cu)(x0 x1 aG:O)(h:J):ab:=
 ob aG λa=>fM a (ob x0 λa=>e9 35 x1 λb=>cJ C 91 [a,b] h λa=>n) (n h)
theorem ayl{n:cu}:∀F h,ar nx C lf [1,1,1,1] F h (ed n) a0 an=bG (B7 C lf n) 0 1 6 F h:=by
 intro F h;kernel_rfl
def VR(C:ad)(lf:Nat)(n:bo)(x0 x1 aG gm:O)(h:J):ab:=
 cB .add 3 gm (I 1) λa=>n x0 x1 aG (some a) h
def VS(C:ad)(lf:Nat)(n:bo)(x0 x1 aG x7 gm:O)(h:J):ab:=
 ob aG λa=>dI a x1 h λb k=>dI a x7 k λc k=>dI a (ev b) k λb k=>dI a (bZ 36 b) k λb k=>dI a (eu 16 17 b c) k λb k=>dI a (bZ 0 b) k λb k=>jg .gtr 3 a (bO b k) (I 0) k λb k=>mI a b λa=>n x0 x1 (some a) gm k
def VT(C:ad)(lf:Nat)(n:cC)(x0 x1 aG x7 gm:O)(h:J):ab:=
 ob x1 λa=>ob x7 λb=>ef 36 a λa=>ob (eu 16 17 a b) λa=>ob (eB 17 a h) λa=>cJ C 92 [a] h λa k=>gn a (ob x0 λa=>ob x1 λb=>ob x7 λc=>ef 36 b λb=>ob (eu 16 17 b c) λb=>ob (bZ 0 b) λb=>cJ C 91 [a,b] k λa=>n x0 x1 aG x7 gm) (n x0 x1 aG x7 gm k)
def VU(C:ad)(lf:Nat)(n:bo)(x0 x1 aG x7 gm:O)(h:J):ab:=
 VT C lf (VS C lf n) x0 x1 aG x7 gm h
noncomputable def VV(C:ad)(lf:Nat)(n:cC)(x0 x1 aG gm:O)(h:J):ab:=
 ob gm λa=>n x0 x1 aG (some a) gm h
def VW(C:ad)(lf:Nat)(n:bo)(x0 x1 aG gm:O)(h:J):ab:=
 VV C lf (VU C lf n) x0 x1 aG gm h
def VX(C:ad)(lf:Nat)(n:bo)(x0 x1 aG gm:O)(h:J):ab:=
 VW C lf (VR C lf n) x0 x1 aG gm h
noncomputable def K8(C:ad)(lf:Nat)(n:bo)(ay:bK)(x0 x1 aG gm sS:O)(h:J):ab:=
 ob sS λa=>gn a (n x0 x1 aG gm h) (ay x0 x1 aG h)
def K9(C:ad)(lf:Nat)(n:bo)(ay:bK)(x0 x1 aG gm sS:O)(h:J):ab:=
 K8 C lf (VX C lf n) ay x0 x1 aG gm sS h
def La(C:ad)(lf:Nat)(n:cC)(x0 x1 aG gm:O)(h:J):ab:=
 cB .lss 3 gm (I 16) λa=>n x0 x1 aG gm (some a) h
def zS(C:ad)(lf:Nat)(n:bo)(ay:bK)(x0 x1 aG gm:O)(h:J):ab:=
 La C lf (K9 C lf n ay) x0 x1 aG gm h
theorem ayd{n:bo}{ay:bK}:∀F h,ar nx C lf [1,1,1,0,1,0,0] F h (bj n 0 1 6 28) a0 (bI 2 (bG ay 0 1 6) an)=bj (zS C lf n ay) 0 1 6 28 F h:=by
 intro F h;kernel_rfl
def w4(C:ad)(lf:Nat)(ay:bK)(k:O×O×O×O->J->ab)(s:O×O×O×O)(h:J):ab:=
 zS C lf (λa b c d=>k (a,b,c,d)) ay s.1 s.2.1 s.2.2.1 s.2.2.2 h
def agV(C:ad)(lf:Nat)(n:bo)(x0 x1 aG:O)(h:J):ab:=
 n x0 x1 aG (bD 0) h
theorem aye{n:bo}:∀F h,ar nx C lf [1,1,1,0,0] F h (bj n 0 1 6 28) a0 an=bG (agV C lf n) 0 1 6 F h:=by
 intro F h;kernel_rfl
def agW(C:ad)(lf:Nat)(n:bK)(x0 x1 aG:O)(h:J):ab:=
 agV C lf (λa b c d=>bk (w4 C lf n) lf (a,b,c,d)) x0 x1 aG h
theorem ayf{n:bK}:∀F h,ar nx C lf [1,1,1,0] F h (bG n 0 1 6) a0 an=bG (agW C lf n) 0 1 6 F h:=bg (b:=b7 nx [1,1,1,0,1]) (by kernel_rfl) (fY (id:=2) (a:=b7 nx [1,1,1,0,1,0]) (by kernel_rfl) (gJ (g:=λF=>(F 0,F 1,F 6,F 28)) (body:=w4 C lf n) (by kernel_rfl) (λk=>(ayd (n:=λx0 x1 aG gm h=>k (x0,x1,aG,gm) h))))) (aye (n:=λx0 x1 aG gm h=>bk (w4 C lf n) lf (x0,x1,aG,gm) h))
def agX(C:ad)(lf:Nat)(n:cu)(x0 x1 aG:O)(h:J):ab:=
 agW C lf (B7 C lf n) x0 x1 aG h
theorem ayg{n:cu}:∀F h,ar nx C lf [1,1,1] F h (ed n) a0 an=bG (agX C lf n) 0 1 6 F h:=bg (by kernel_rfl) ayl ayf
noncomputable def agY(C:ad)(lf:Nat)(n:bK)(x0 x1:O)(h:J):ab:=
 n x0 x1 (some (.bool false)) h
theorem ayh{n:bK}:∀F h,ar nx C lf [1,1,0] F h (bG n 0 1 6) a0 an=a7 (agY C lf n) 0 1 F h:=by
 intro F h;kernel_rfl
def Lb(C:ad)(lf:Nat)(n:cu)(x0 x1:O)(h:J):ab:=
 agY C lf (agX C lf n) x0 x1 h
theorem ayi{n:cu}:∀F h,ar nx C lf [1,1] F h (ed n) a0 an=a7 (Lb C lf n) 0 1 F h:=bg (by kernel_rfl) ayg ayh
def Lc(C:ad)(lf:Nat)(n:aS)(x0 x1:O)(h:J):ab:=
 e9 18 x1 λa=>ob (eB 17 a h) λa=>cJ C 92 [a] h λa k=>gn a (ob x0 λa=>e9 18 x1 λb=>ob (bZ 0 b) λb=>cJ C 91 [a,b] k λa=>n x0 x1) (n x0 x1 k)
theorem ayj{n:aS}:∀F h,ar nx C lf [1,0] F h (a7 n 0 1) a0 an=a7 (Lc C lf n) 0 1 F h:=by
 intro F h;kernel_rfl
def xm(C:ad)(lf:Nat)(n:cu)(x0 x1:O)(h:J):ab:=
 Lc C lf (Lb C lf n) x0 x1 h
theorem ayk{n:cu}:∀F h,ar nx C lf [1] F h (ed n) a0 an=a7 (xm C lf n) 0 1 F h:=bg (by kernel_rfl) ayi ayj
def FA(C:ad)(lf:Nat)(n:bK)(av:aS)(x0 x1 x2:O)(h:J):ab:=
 hC .lss 3 x2 (I 278) (ob x0 λa=>a1 C 76 x1 x2 h λb k=>cJ C 91 [a,b] k λa k=>cB .add 3 x2 (I 1) λa=>n x0 x1 (some a) k) (av x0 x1 h)
theorem aym{n:bK}{av:aS}:∀F h,ar nx C lf [0,0,0] F h (bG n 0 1 2) a0 (bI 0 (a7 av 0 1) an)=bG (FA C lf n av) 0 1 2 F h:=by
 intro F h;kernel_rfl
def BL(C:ad)(lf:Nat)(av:aS)(k:O×O×O->J->ab)(s:O×O×O)(h:J):ab:=
 FA C lf (λa b c=>k (a,b,c)) av s.1 s.2.1 s.2.2 h
def agZ(C:ad)(lf:Nat)(n:cu)(x0 x1 x2:O)(h:J):ab:=
 bk (BL C lf (xm C lf n)) lf (x0,x1,x2) h
theorem ayn{n:cu}:∀F h,ar nx C lf [] F h (ed n) a0 an=bG (agZ C lf n) 0 1 2 F h:=bg (a:=b7 nx [0]) (by kernel_rfl) ayk (fY (id:=0) (a:=b7 nx [0,0]) (by kernel_rfl) (gJ (g:=λF=>(F 0,F 1,F 2)) (body:=BL C lf (λx0 x1 h=>xm C lf n x0 x1 h)) (by kernel_rfl) (λk=>(aym (n:=λx0 x1 x2 h=>k (x0,x1,x2) h)))))
def IW(C:ad)(lf:Nat)(ah aj aC:U)(h:J):ab:=agZ C lf u2 (some ah) (some aj) (some aC) h
def ac6:cx ao:=nX nx IW (λC lf ah aj aC h=>cS (K:=(ed u2)) (by kernel_rfl) (Eq.trans (ayn _ h) (by kernel_rfl))) (by kernel_rfl)
end
section
open Classical
noncomputable def lx(nd:Nat->Nat->U)(i:Nat)(S:Nat->Prop):Nat->Nat->U:=λi' a4=>if i'=i/\S a4 then I 0 else nd i' a4
noncomputable def dE(bl:Nat->Nat->Nat)(i:Nat)(S:Nat->Prop):Nat->Nat->Nat:=λi' a4=>if i'=i/\S a4 then 0 else bl i' a4
theorem amo{nd:Nat->Nat->U}{i:Nat}{S:Nat->Prop}{c:Nat}(h:S c):lx nd i S i c=I 0:=if_pos ⟨rfl,h⟩
theorem HF{nd:Nat->Nat->U}{i:Nat}{S:Nat->Prop}{i' c:Nat}(h:¬(i'=i/\S c)):lx nd i S i' c=nd i' c:=if_neg h
theorem oV{bl:Nat->Nat->Nat}{i:Nat}{S:Nat->Prop}{c:Nat}(h:S c):dE bl i S i c=0:=if_pos ⟨rfl,h⟩
theorem jb{bl:Nat->Nat->Nat}{i:Nat}{S:Nat->Prop}{i' c:Nat}(h:¬(i'=i/\S c)):dE bl i S i' c=bl i' c:=if_neg h
theorem Of(nd:Nat->Nat->U)(i:Nat)(S fi:Nat->Prop):lx (lx nd i S) i fi=lx nd i (λc=>S c\/fi c):=by
 funext i' c
 unfold lx;by_cases e:i'=i<;>by_cases a:S c<;>by_cases a':fi c<;>simp[e,a,a']
theorem C4(bl:Nat->Nat->Nat)(i:Nat)(S fi:Nat->Prop):dE (dE bl i S) i fi=dE bl i (λc=>S c\/fi c):=by
 funext i' c
 unfold dE;by_cases e:i'=i<;>by_cases a:S c<;>by_cases a':fi c<;>simp[e,a,a']
theorem amn(nd:Nat->Nat->U)(i c:Nat):cU nd i c (I 0)=lx nd i (· =c):=by
 funext i' a4;unfold cU lx;by_cases e:i'=i/\a4=c
 ·rw[if_pos e,if_pos e]
 ·rw[if_neg e,if_neg e]
theorem amm(bl:Nat->Nat->Nat)(i c:Nat):kp bl i c 0=dE bl i (· =c):=by
 funext i' a4;unfold kp dE;by_cases e:i'=i/\a4=c
 ·rw[if_pos e,if_pos e]
 ·rw[if_neg e,if_neg e]
theorem HG(nd:Nat->Nat->U)(i:Nat){S:Nat->Prop}(h:∀c,¬S c):lx nd i S=nd:=by
 funext i' c;exact HF λe=>h c e.2
theorem Oe(bl:Nat->Nat->Nat)(i:Nat){S:Nat->Prop}(h:∀c,¬S c):dE bl i S=bl:=by
 funext i' c;exact jb λe=>h c e.2
structure hM (h h':J) (T:dS) (n N:Nat) (wd de b:Nat->Nat) (now:Int) (us:Nat->Bool) (nd:Nat->Nat->U) (bl:Nat->Nat->Nat) (i:Nat) (S:Nat->Prop):Prop where
 A:bt h' T n N de b now us (lx nd i S)
 M:c3 n N de (lx nd i S) (dE bl i S)
 O:∀j,bP de j=true↔(bP wd j=true/\∀c,12<=c->c<308->S c->bl i c≠j+1)
 F:aD h h' (λj=>j=T.bL\/j=T.aK)
section
variable{lf:Nat}{h h' fF:J}{T:dS}{n N:Nat}{wd de Gk b:Nat->Nat}{now:Int}{us:Nat->Bool}{nd:Nat->Nat->U}{bl:Nat->Nat->Nat}{i:Nat}{S fi:Nat->Prop}
theorem hM.refl(A:bt h T n N wd b now us nd)(M:c3 n N wd nd bl)(dW:∀c,¬S c):hM h h T n N wd wd b now us nd bl i S:=
 ⟨by rw[HG nd i dW];exact A,by rw[HG nd i dW,Oe bl i dW];exact M,λj=>⟨λe=>⟨e,λc _ _ ae=>absurd ae (dW c)⟩,λe=>e.1⟩,aD.refl _ _⟩
theorem hM.trans(a:hM h h' T n N wd de b now us nd bl i S)(c:hM h' fF T n N de Gk b now us (lx nd i S) (dE bl i S) i fi):hM h fF T n N wd Gk b now us nd bl i (λc=>S c\/fi c):=by
 refine⟨by rw[<- Of];exact c.A,by rw[<- Of, <- C4];exact c.M,λj=>?_,a.F.trans c.F⟩;rw[c.O,a.O];constructor
 ·rintro ⟨⟨h1,h2⟩,h3⟩
  refine⟨h1,λc dF ae dW=>?_⟩;by_cases e:S c
  ·exact h2 c dF ae e
  ·have:=h3 c dF ae (dW.resolve_left e)
   rw[jb (λx=>e x.2)] at this;exact this
 ·rintro ⟨h1,h2⟩
  refine⟨⟨h1,λc dF ae dW=>h2 c dF ae (.inl dW)⟩,λc dF ae dW=>?_⟩;by_cases e:S c
  ·rw[oV e];omega
  ·rw[jb (λx=>e x.2)];exact h2 c dF ae (.inr dW)
theorem hM.ext(a:hM h h' T n N wd de b now us nd bl i S)(dW:∀c,S c↔fi c):hM h h' T n N wd de b now us nd bl i fi:=by
 have:S=fi:=funext λc=>propext (dW c)
 rw[<- this];exact a
theorem hM.after(F:aD h h' (λ_=>False))(A:bt h T n N wd b now us nd)(a:bt h' T n N wd b now us nd->hM h' fF T n N wd de b now us nd bl i S):hM h fF T n N wd de b now us nd bl i S:=by
 have xL:bt h' T n N wd b now us nd:=A.frame F.next λj aa=>F.same j (by
  rcases aa with rfl|rfl|rfl|rfl
  ·exact A.lt
  ·exact A.st.sA
  ·exact A.st.ra
  ·exact A.k5) (λx=>x)
 have d:=a xL;exact⟨d.A,d.M,d.O,(aD.ei F (λ_ x=>x.elim)).trans d.F⟩
theorem HR{C:ad}(D:vU C)(A:bt h T n N wd b now us nd)(M:c3 n N wd nd bl)(hi:i<N){c:Nat}(dF:12<=c)(ae:c<308):
 ∃h' de,C (.fn 91) [.ptr T.a3 0,.ptr T.aK (i*308+c)] h=some (.ret (.bm []),h')/\hM h h' T n N wd de b now us nd bl i (· =c):=by
 obtain⟨h',e,bX,ie,aL⟩:=anm D A M hi dF ae;rw[amn] at bX ie;rw[amm] at ie;refine⟨h',_,e,⟨bX,ie,λj=>?_,aL⟩⟩;unfold yr;by_cases av:bl i c=0
 ·rw[if_pos av];exact⟨λx=>⟨x,λa4 _ _ h=>by rw[h,av];omega⟩,λx=>x.1⟩
 ·rw[if_neg av,R1 A.st.iF,Bool.and_eq_true,decide_eq_true_eq];exact⟨λx=>⟨x.1,λa4 _ _ h=>by rw[h];omega⟩,λx=>⟨x.1,λe=>x.2 c dF ae rfl (by omega)⟩⟩
theorem rn{m:Nat}:12<=a5 m:=by unfold a5;split<;>(try split)<;>omega
theorem sI{m:Nat}(hm:m<278):a5 m<308:=by unfold a5;split<;>(try split)<;>omega
def hh(k m:Nat)(c:Nat):Prop:=∃j,k<=j/\j<m/\c=a5 j
theorem ana{C:ad}(D:vU C)(nW:s8 C)(av:aS)(hi:i<N):∀(d:Nat) (m:Nat) (h:J) (wd:Nat->Nat) (nd:Nat->Nat->U) (bl:Nat->Nat->Nat),m+d=278->∀f,d<f->
 bt h T n N wd b now us nd->c3 n N wd nd bl->∃h' de,bk (BL C lf av) f (some (.ptr T.a3 0),some (.ptr T.aK (i*308)),some (I (m:Int))) h=av (some (.ptr T.a3 0)) (some (.ptr T.aK (i*308))) h'/\
  hM h h' T n N wd de b now us nd bl i (hh m 278):=by
 intro d
 induction d with
 |zero=>
  intro m h wd nd bl hm f au A M;obtain⟨f,rfl⟩:=dx f (by omega);refine⟨h,wd,?_,hM.refl A M λc ⟨j,h1,h2,_⟩=>by omega⟩;rw[df];unfold BL FA;have a9:decide ((m:Int)<278)=false:=br (by omega);simp only[aA,a9]
 |succ d bp=>
  intro m h wd nd bl hm f au A M;obtain⟨f,rfl⟩:=dx f (by omega);have qX:m<278:=by omega
  obtain⟨h1,px,az,d1⟩:=HR D A M hi (rn (m:=m)) (sI qX);obtain⟨h2,z9,ay,d2⟩:=bp (m+1) h1 px _ _ (by omega) f (by omega) d1.A d1.M;refine⟨h2,z9,?_,(d1.trans d2).ext λc=>?_⟩
  ·rw[df, <- ay];have a9:decide ((m:Int)<278)=true:=bu (by omega);have ak:IntKind.i64.wrap ((m:Int)+1)=((m+1:Nat):Int):=cD (by omega);have aB:=nW h T.aK (i*308) m qX;show FA C lf (λx0 x1 x2 h=>bk (BL C lf av) f (x0,x1,x2) h) av (some (.ptr T.a3 0)) (some (.ptr T.aK (i*308))) (some (I (m:Int))) h=_;unfold FA;simp only[aA,a9,aB,az,ak]
  ·constructor
   ·rintro (rfl|⟨j,a,b,c⟩)
    ·exact⟨m,Nat.le_refl _,qX,rfl⟩
    ·exact⟨j,by omega,b,c⟩
   ·rintro ⟨j,a,b,c⟩
    by_cases e:j=m
    ·subst e;exact .inl c
    ·exact .inr ⟨j,by omega,b,c⟩
end
end
section
open Classical
section
variable{lf:Nat}{h h' fF:J}{T:dS}{n N:Nat}{wd de Gk b:Nat->Nat}{now:Int}{us:Nat->Bool}{nd:Nat->Nat->U}{bl:Nat->Nat->Nat}{i:Nat}{S fi:Nat->Prop}
theorem abh(A:bt h T n N wd b now us nd)(M:c3 n N wd nd bl)(hi:i<N){c:Nat}(dF:12<=c)(ae:c+17<=308):eB 17 (.ptr T.aK (i*308+c)) h=some (.agg (m3 λj=>bl i (c+j))):=by
 obtain⟨md,mA,_,_⟩:=A.wn
 have:h.cells T.aK (i*308+c) 17=some (m3 λj=>bl i (c+j)):=by
  refine jy (by simp[m3]) λj aa=>?_
  rw[Nat.add_assoc,A.dO i (c+j) hi (by omega),M.cell i (c+j) hi (by omega) (by omega)];simp[m3,aa]
 rw[mE mA,this];rfl
def hole(bl:Nat->Nat->Nat)(i c:Nat):Bool:=(List.range 16).all λj=>bl i (c+(1+j))==0
theorem pd{bl:Nat->Nat->Nat}{i c:Nat}:hole bl i c=true↔∀j,j<16->bl i (c+(1+j))=0:=by
 simp[hole]
def A0(bl:Nat->Nat->Nat)(i p q:Nat)(c:Nat):Prop:=∃j,p<=j/\j<q/\c=36+17*j/\hole bl i (36+17*j)=true
def pP(bl:Nat->Nat->Nat)(i p q:Nat):Prop:=∃j,p<=j/\j<q/\0<bl i (36+17*j)/\hole bl i (36+17*j)=false
theorem JA(bl:Nat->Nat->Nat)(i q j:Nat):hole (dE bl i (· =36+17*q)) i (36+17*j)=hole bl i (36+17*j):=by
 have h1:∀t,t<16->dE bl i (· =36+17*q) i (36+17*j+(1+t))=bl i (36+17*j+(1+t)):=λt aN=>jb (by omega)
 rw[Bool.eq_iff_iff,pd,pd];exact⟨λh t aN=>by rw[<- h1 t aN];exact h t aN,λh t aN=>by rw[h1 t aN];exact h t aN⟩
theorem ak3(bl:Nat->Nat->Nat)(i q:Nat):pP (dE bl i (· =36+17*q)) i (q+1) 16↔pP bl i (q+1) 16:=by
 constructor
 ·rintro ⟨j,h1,h2,h3,aT⟩
  rw[JA] at aT;rw[jb (by omega)] at h3;exact⟨j,h1,h2,h3,aT⟩
 ·rintro ⟨j,h1,h2,h3,aT⟩
  refine⟨j,h1,h2,?_,by rw[JA];exact aT⟩;rw[jb (by omega)];exact h3
theorem Zq(bl:Nat->Nat->Nat)(i q:Nat)(a2:q<16):pP bl i q 16↔((0<bl i (36+17*q)/\hole bl i (36+17*q)=false)\/pP bl i (q+1) 16):=by
 constructor
 ·rintro ⟨j,h1,h2,h3,aT⟩
  by_cases e:j=q
  ·subst e;exact .inl ⟨h3,aT⟩
  ·exact .inr ⟨j,by omega,h2,h3,aT⟩
 ·rintro (⟨h3,aT⟩|⟨j,h1,h2,h3,aT⟩)
  ·exact⟨q,Nat.le_refl _,a2,h3,aT⟩
  ·exact⟨j,by omega,h2,h3,aT⟩
theorem aob(bl:Nat->Nat->Nat)(i q c:Nat)(a2:q<16)(cj:hole bl i (36+17*q)=true):(c=36+17*q\/A0 (dE bl i (· =36+17*q)) i (q+1) 16 c)↔A0 bl i q 16 c:=by
 constructor
 ·rintro (rfl|⟨j,h1,h2,h3,aT⟩)
  ·exact⟨q,Nat.le_refl _,a2,rfl,cj⟩
  ·rw[JA] at aT;exact⟨j,by omega,h2,h3,aT⟩
 ·rintro ⟨j,h1,h2,h3,aT⟩
  by_cases e:j=q
  ·subst e;exact .inl h3
  ·exact .inr ⟨j,by omega,h2,h3,by rw[JA];exact aT⟩
theorem aoc(bl:Nat->Nat->Nat)(i q c:Nat)(cj:hole bl i (36+17*q)=false):A0 bl i (q+1) 16 c↔A0 bl i q 16 c:=by
 constructor
 ·rintro ⟨j,h1,h2,h3,aT⟩
  exact⟨j,by omega,h2,h3,aT⟩
 ·rintro ⟨j,h1,h2,h3,aT⟩
  by_cases e:j=q
  ·subst e;rw[cj] at aT;cases aT
  ·exact⟨j,by omega,h2,h3,aT⟩
theorem am7{C:ad}(D:vU C)(E:CC C)(ay:bK)(hi:i<N):∀(d:Nat) (q:Nat) (any:Bool) (h:J) (wd:Nat->Nat) (nd:Nat->Nat->U) (bl:Nat->Nat->Nat),q+d=16->∀f,d<f->
 bt h T n N wd b now us nd->c3 n N wd nd bl->∃h' de,bk (w4 C lf ay) f (some (.ptr T.a3 0),some (.ptr T.aK (i*308)),some (.bool any),some (I (q:Int))) h=
  ay (some (.ptr T.a3 0)) (some (.ptr T.aK (i*308))) (some (.bool (any||decide (pP bl i q 16)))) h'/\
  hM h h' T n N wd de b now us nd bl i (A0 bl i q 16):=by
 intro d
 induction d with
 |zero=>
  intro q any h wd nd bl hm f au A M;obtain⟨f,rfl⟩:=dx f (by omega);have ze:decide (pP bl i q 16)=false:=br λ⟨j,h1,h2,_⟩=>by omega
  refine⟨h,wd,?_,hM.refl A M λc ⟨j,h1,h2,_⟩=>by omega⟩;rw[df,ze,Bool.or_false];unfold w4 zS La K9 K8;have a9:decide ((q:Int)<16)=false:=br (by omega);simp only[aA,a9]
 |succ d bp=>
  intro q any h wd nd bl hm f au A M;obtain⟨f,rfl⟩:=dx f (by omega);have a2:q<16:=by omega
  have a9:decide ((q:Int)<16)=true:=bu (by omega);have ak:IntKind.i64.wrap ((q:Int)+1)=((q+1:Nat):Int):=cD (by omega);have bW:=l1 (n:=16) (s:=17) (k:=T.aK) (off:=i*308+36) (kd:= .i64) (i:=(q:Int)) (by omega) (by omega);rw[Int.toNat_natCast,show i*308+36+q*17=i*308+(36+17*q) by omega] at bW;have kf:=abh A M hi (c:=36+17*q) (by omega) (by omega);obtain⟨h1,em,aL⟩:=E h (λj=>bl i (36+17*q+j));have aE:((List.range 16).all λj=>bl i (36+17*q+(1+j))==0)=hole bl i (36+17*q):=rfl;rw[aE] at em
  have bX:bt h1 T n N wd b now us nd:=(hM.after aL A λxL=>hM.refl (S:=λ_=>False) xL M (λ_ x=>x)).A |> λa=>by
   rw[HG nd i (λ_ x=>x)] at a;exact a
  cases cj:hole bl i (36+17*q) with
  |true=>
   obtain⟨h2,z9,aaJ,d2⟩:=HR D bX M hi (c:=36+17*q) (by omega) (by omega);have anc:=hM.after aL A λ_=>d2
   have hv:(lx nd i (· =36+17*q)) i (36+17*q)=I 0:=amo rfl;have mz:=d2.A.dO i (36+17*q) hi (by omega);rw[hv] at mz;obtain⟨h3,vE,b9,d3⟩:=bp (q+1) any h2 z9 _ _ (by omega) f (by omega) d2.A d2.M;refine⟨h3,vE,?_,(anc.trans d3).ext λc=>?_⟩
   ·rw[df];show zS C lf (λx0 x1 aG gm h=>bk (w4 C lf ay) f (x0,x1,aG,gm) h) ay (some (.ptr T.a3 0)) (some (.ptr T.aK (i*308))) (some (.bool any)) (some (I (q:Int))) h=_;unfold zS La K9 K8 VX VW VV VU VT VS VR;have aX:decide ((0:Int)<0)=false:=by decide
    have pY:decide (pP (dE bl i (· =36+17*q)) i (q+1) 16)=decide (pP bl i q 16):=by
     rw[decide_eq_decide,ak3,Zq bl i q a2,cj];simp
    rw[pY] at b9;rw[<- b9];rw[cj] at em;cases any with
    |true=>simp only[aA,Nat.add_zero,a9,bW,kf,em,aaJ,ak]
    |false=>simp only[aA,Nat.add_zero,a9,bW,kf,em,aaJ,ak,mz,aX]
   ·exact aob bl i q c a2 cj
  |false=>
   have Yw:=bX.dO i (36+17*q) hi (by omega);rw[M.cell i (36+17*q) hi (by omega) (by omega)] at Yw;obtain⟨h3,vE,b9,d3⟩:=bp (q+1) (any||decide (0<bl i (36+17*q))) h1 wd nd bl (by omega) f (by omega) bX M;refine⟨h3,vE,?_,(hM.after aL A λ_=>d3).ext λc=>aoc bl i q c cj⟩;rw[df];show zS C lf (λx0 x1 aG gm h=>bk (w4 C lf ay) f (x0,x1,aG,gm) h) ay (some (.ptr T.a3 0)) (some (.ptr T.aK (i*308))) (some (.bool any)) (some (I (q:Int))) h=_;unfold zS La K9 K8 VX VW VV VU VT VS VR;have aX:decide ((0:Int)<(bl i (36+17*q):Int))=decide (0<bl i (36+17*q)):=by rw[decide_eq_decide];omega
   have pY:(any||decide (0<bl i (36+17*q))||decide (pP bl i (q+1) 16))=(any||decide (pP bl i q 16)):=by
    rw[Bool.or_assoc, <- Bool.decide_or];congr 1;rw[decide_eq_decide,Zq bl i q a2,cj];simp
   rw[pY] at b9;rw[<- b9];rw[cj] at em;cases any with
   |true=>simp only[aA,Nat.add_zero,a9,bW,kf,em,ak,Bool.true_or]
   |false=>simp only[aA,Nat.add_zero,a9,bW,kf,em,ak,Yw,aX,Bool.false_or]
end
end
section
open Classical
section
variable{lf:Nat}{h h' fF:J}{T:dS}{n N:Nat}{wd de Gk b:Nat->Nat}{now:Int}{us:Nat->Bool}{nd:Nat->Nat->U}{bl:Nat->Nat->Nat}{i:Nat}{S fi:Nat->Prop}
theorem ur{m:Nat}(hm:m<278):a5 m≠18/\a5 m≠35/\∀q,q<16->a5 m≠36+17*q:=by
 unfold a5;split
 ·exact⟨by omega,by omega,λq a2=>by omega⟩
 ·split
  ·exact⟨by omega,by omega,λq a2=>by omega⟩
  ·exact⟨by omega,by omega,λq a2=>by omega⟩
theorem Sg{m jV:Nat}(h:a5 m=a5 jV)(hm:m<278)(qX:jV<278):m=jV:=by
 unfold a5 at h;split at h<;>split at h<;>(try split at h)<;>(try split at h)<;>omega
noncomputable def hc(bl:Nat->Nat->Nat)(i k c:Nat):Bool:=hole (dE bl i (hh k 278)) i c
def gP(bl:Nat->Nat->Nat)(i k c:Nat):Prop:=hh k 278 c\/(c=18/\hc bl i k 18=true)\/(∃j,j<16/\c=36+17*j/\hc bl i k (36+17*j)=true)\/
 (c=35/\∀j,j<16->bl i (36+17*j)=0\/hc bl i k (36+17*j)=true)
theorem vf{bl bl':Nat->Nat->Nat}{i c:Nat}(h:∀t,t<16->bl' i (c+(1+t))=bl i (c+(1+t))):hole bl' i c=hole bl i c:=by
 rw[Bool.eq_iff_iff,pd,pd];exact⟨λe t aN=>by rw[<- h t aN];exact e t aN,λe t aN=>by rw[h t aN];exact e t aN⟩
theorem aoj{C:ad}(D:vU C)(E:CC C)(A:bt h T n N wd b now us nd)(M:c3 n N wd nd bl)(hi:i<N){c:Nat}(dF:12<=c)(ae:c+17<=308):
 ∃h1,C (.fn 92) [.agg (m3 λj=>bl i (c+j))] h=some (.ret (.bool (hole bl i c)),h1)/\bt h1 T n N wd b now us nd/\
  (hole bl i c=true->∃h2 z9,C (.fn 91) [.ptr T.a3 0,.ptr T.aK (i*308+c)] h1=some (.ret (.bm []),h2)/\hM h h2 T n N wd z9 b now us nd bl i (λx=>x=c/\hole bl i c=true))/\
  (hole bl i c=false->hM h h1 T n N wd wd b now us nd bl i (λx=>x=c/\hole bl i c=true)):=by
 obtain⟨h1,em,aL⟩:=E h (λj=>bl i (c+j));have aE:((List.range 16).all λj=>bl i (c+(1+j))==0)=hole bl i c:=rfl;rw[aE] at em
 have bX:bt h1 T n N wd b now us nd:=(hM.after aL A λxL=>hM.refl (S:=λ_=>False) xL M (λ_ x=>x)).A |> λa=>by
  rw[HG nd i (λ_ x=>x)] at a;exact a
 refine⟨h1,em,bX,λcj=>?_,λcj=>?_⟩
 ·obtain⟨h2,z9,ay,d2⟩:=HR D bX M hi (c:=c) (by omega) (by omega);exact⟨h2,z9,ay,(hM.after aL A λ_=>d2).ext λx=>⟨λe=>⟨e,cj⟩,λe=>e.1⟩⟩
 ·refine(hM.after aL A λxL=>hM.refl (S:=λ_=>False) xL M (λ_ x=>x)).ext λx=>⟨λe=>e.elim,λe=>?_⟩
  rw[cj] at e;exact absurd e.2 (by simp)
theorem asO{k q:Nat}(a2:q<16):¬hh k 278 (36+17*q):=λ⟨_,_,hm,e⟩=>(ur hm).2.2 q a2 e.symm
theorem JZ{k q:Nat}{p:Prop}(a2:q<16):hole (dE bl i (λc=>hh k 278 c\/(c=18/\p))) i (36+17*q)=hc bl i k (36+17*q):=by
 unfold hc;refine vf λt aN=>?_
 by_cases e:hh k 278 (36+17*q+(1+t))
 ·rw[oV e,oV (.inl e)]
 ·rw[jb (λx=>e x.2),jb (λx=>x.2.elim e (λy=>by omega))]
theorem afm{k q:Nat}{p:Prop}(a2:q<16):dE bl i (λc=>hh k 278 c\/(c=18/\p)) i (36+17*q)=bl i (36+17*q):=
 jb (λx=>x.2.elim (asO a2) (λy=>by omega))
theorem afl{k:Nat}{p:Prop}:pP (dE bl i (λc=>hh k 278 c\/(c=18/\p))) i 0 16↔¬ ∀j,j<16->bl i (36+17*j)=0\/hc bl i k (36+17*j)=true:=by
 constructor
 ·rintro ⟨j,_,aa,h1,h2⟩ gd
  rw[afm aa] at h1;rw[JZ aa] at h2;rcases gd j aa with e|e
  ·omega
  ·rw[h2] at e;cases e
 ·intro aR;apply Classical.byContradiction;intro ze;refine aR λj aa=>?_
  by_cases e:bl i (36+17*j)=0
  ·exact .inl e
  ·right
   cases cj:hc bl i k (36+17*j) with
   |true=>rfl
   |false=>exact absurd ⟨j,by omega,aa,by rw[afm aa];omega,by rw[JZ aa];exact cj⟩ ze
theorem afn{k c:Nat}{p:Prop}:A0 (dE bl i (λc=>hh k 278 c\/(c=18/\p))) i 0 16 c↔∃j,j<16/\c=36+17*j/\hc bl i k (36+17*j)=true:=by
 constructor
 ·rintro ⟨j,_,aa,h1,h2⟩
  rw[JZ aa] at h2;exact⟨j,aa,h1,h2⟩
 ·rintro ⟨j,aa,h1,h2⟩
  exact⟨j,by omega,aa,h1,by rw[JZ aa];exact h2⟩
def Gz(C:ad):Prop:=∀h T n N wd b now us nd bl i (k:Nat),bt h T n N wd b now us nd->c3 n N wd nd bl->i<N->k<=278->
 ∃h' de,C (.fn 78) [.ptr T.a3 0,.ptr T.aK (i*308),I (k:Int)] h=some (.ret (.bm []),h')/\hM h h' T n N wd de b now us nd bl i (gP bl i k)
theorem am8{C:ad}(gy:300<=lf)(D:vU C)(nW:s8 C)(E:CC C)(A:bt h T n N wd b now us nd)(M:c3 n N wd nd bl)(hi:i<N){k:Nat}(ai:k<=278):
 ∃h' de,IW C lf (.ptr T.a3 0) (.ptr T.aK (i*308)) (I (k:Int)) h=some (.ret (.bm []),h')/\hM h h' T n N wd de b now us nd bl i (gP bl i k):=by
 obtain⟨h1,px,az,d1⟩:=ana (lf:=lf) D nW (λx0 x1 h=>xm C lf u2 x0 x1 h) hi (278-k) k h wd nd bl (by omega) lf (by omega) A M;have wQ:IW C lf (.ptr T.a3 0) (.ptr T.aK (i*308)) (I (k:Int)) h=bk (BL C lf (λx0 x1 h=>xm C lf u2 x0 x1 h)) lf (some (.ptr T.a3 0),some (.ptr T.aK (i*308)),some (I (k:Int))) h:=rfl;rw[wQ,az];obtain⟨h2,em,dh,rI,ck⟩:=aoj D E d1.A d1.M hi (c:=18) (by omega) (by omega);have kf:=abh d1.A d1.M hi (c:=18) (by omega) (by omega);have aGv:hole (dE bl i (hh k 278)) i 18=hc bl i k 18:=rfl
 have ao0:∃h3 vE,xm C lf u2 (some (.ptr T.a3 0)) (some (.ptr T.aK (i*308))) h1=Lb C lf u2 (some (.ptr T.a3 0)) (some (.ptr T.aK (i*308))) h3/\
  hM h1 h3 T n N px vE b now us (lx nd i (hh k 278)) (dE bl i (hh k 278)) i (λx=>x=18/\hole (dE bl i (hh k 278)) i 18=true):=by
  cases cj:hole (dE bl i (hh k 278)) i 18 with
  |true=>
   obtain⟨h3,vE,b9,d3⟩:=rI cj;refine⟨h3,vE,?_,by rw[cj] at d3;exact d3⟩;rw[cj] at em;unfold xm Lc;simp only[aA,Nat.add_zero,kf,em,b9]
  |false=>
   refine⟨h2,px,?_,by have:=ck cj;rw[cj] at this;exact this⟩;rw[cj] at em;unfold xm Lc;simp only[aA,Nat.add_zero,kf,em]
 obtain⟨h3,vE,b9,d3⟩:=ao0;rw[b9];obtain⟨aT,aEW,ee,d4⟩:=am7 (lf:=lf) D E (λx0 x1 aG h=>B7 C lf u2 x0 x1 aG h) hi 16 0 false h3 vE _ _ rfl lf (by omega) d3.A d3.M;have QR:Lb C lf u2 (some (.ptr T.a3 0)) (some (.ptr T.aK (i*308))) h3=bk (w4 C lf (λx0 x1 aG h=>B7 C lf u2 x0 x1 aG h)) lf (some (.ptr T.a3 0),some (.ptr T.aK (i*308)),some (.bool false),some (I ((0:Nat):Int))) h3:=rfl;rw[QR,ee];have d14:=(d1.trans d3).trans (by rw[Of,C4] at d4;exact d4);rw[C4,Bool.false_or];by_cases bV:∀j,j<16->bl i (36+17*j)=0\/hc bl i k (36+17*j)=true
 ·have aI:decide (pP (dE bl i (λc=>hh k 278 c\/(c=18/\hole (dE bl i (hh k 278)) i 18=true))) i 0 16)=false:=br λe=>afl.1 e bV
  obtain⟨bz,aEX,iI,d5⟩:=HR D d14.A d14.M hi (c:=35) (by omega) (by omega);refine⟨bz,aEX,?_,(d14.trans d5).ext λc=>?_⟩
  ·rw[aI];unfold B7;simp only[aA,Bool.not_false,iI];rfl
  ·rw[afn];unfold gP;constructor
   ·rintro (((h|h)|h)|h)
    ·exact .inl h
    ·exact .inr (.inl h)
    ·exact .inr (.inr (.inl h))
    ·exact .inr (.inr (.inr ⟨h,bV⟩))
   ·rintro (h|h|h|h)
    ·exact .inl (.inl (.inl h))
    ·exact .inl (.inl (.inr h))
    ·exact .inl (.inr h)
    ·exact .inr h.1
 ·have aI:decide (pP (dE bl i (λc=>hh k 278 c\/(c=18/\hole (dE bl i (hh k 278)) i 18=true))) i 0 16)=true:=bu (afl.2 bV);refine⟨aT,aEW,?_,d14.ext λc=>?_⟩
  ·rw[aI];unfold B7;simp only[aA,Bool.not_true];rfl
  ·rw[afn];unfold gP;constructor
   ·rintro ((h|h)|h)
    ·exact .inl h
    ·exact .inr (.inl h)
    ·exact .inr (.inr (.inl h))
   ·rintro (h|h|h|h)
    ·exact .inl (.inl h)
    ·exact .inl (.inr h)
    ·exact .inr h
    ·exact absurd h.2 bV
end
end
section
open Classical
def iE(nd:Nat->Nat->U)(i:Nat)(g:Nat->U):Nat->Nat->U:=λi' c=>if i'=i then g c else nd i' c
theorem pv(nd:Nat->Nat->U)(i:Nat)(g:Nat->U)(c:Nat):iE nd i g i c=g c:=if_pos rfl
theorem oH(nd:Nat->Nat->U){i i':Nat}(g:Nat->U)(c:Nat)(h:i'≠i):iE nd i g i' c=nd i' c:=if_neg h
def fJ(c:Nat):U:=if c=0 then .bool false else I 0
def fa(g:Nat->U):List U:=(List.range 308).map g
section
variable{lf:Nat}{h h' fF:J}{T:dS}{n N:Nat}{wd de Gk b:Nat->Nat}{now:Int}{us:Nat->Bool}{nd:Nat->Nat->U}{bl:Nat->Nat->Nat}{i:Nat}{S fi:Nat->Prop}
theorem bt.setRow(A:bt h T n N wd b now us nd)(hi:i<N){g:Nat->U}{v:Bool}(h0:g 0= .bool v):bt (h.set T.aK (i*308) (fa g)) T n N wd b now (da us i v) (iE nd i g):=by
 have aJ:(fa g).length=308:=by rw[fa,List.length_map,List.length_range]
 have ag:i*308+(fa g).length<=N*308:=by rw[aJ];omega
 refine⟨A.nU,A.gH,A.st.frame (Nat.le_of_eq (dz ..).symm) (gr _ _ _ (λe=>A.d4 e.symm)) (gr _ _ _ (λe=>A.d5 e.symm)),?_,?_,?_,dY A.wt,dY A.wn,λi' a4 cH fk=>?_,λi' cH=>?_,A.d1,A.d2,A.d3,A.d4,A.d5,by rw[dz];exact A.lt,by rw[dz];exact A.k5⟩
 ·rw[ep (.inl A.d3)];exact A.cG
 ·rw[ep (.inl A.d3)];exact A.aP
 ·rw[ep (.inl A.d3)];exact A.a1
 ·by_cases e:i'=i
  ·subst e;rw[fZ A.wn ag (Nat.le_add_right _ _) (by rw[aJ];exact Nat.add_lt_add_left fk _),pv,Nat.add_sub_cancel_left];simp[fa,fk]
  ·rw[ep (.inr (by rw[aJ];omega)),oH _ _ _ e];exact A.dO i' a4 cH fk
 ·by_cases e:i'=i
  ·subst e;rw[pv,jE,h0]
  ·rw[oH _ _ _ e,ho _ _ e];exact A.kN i' cH
theorem aiv(A:bt h T n N wd b now us nd)(hi:i<N){g:Nat->U}(bc:dB (fa g)=true):st 308 (.ptr T.aK (i*308)) (.agg (fa g)) h=some (h.set T.aK (i*308) (fa g)):=by
 have aJ:(fa g).length=308:=by rw[fa,List.length_map,List.length_range]
 exact gN (n:=308) (off:=i*308) (y:= .agg (fa g)) A.wn aJ (by omega) bc
theorem c3.row(M:c3 n N wd nd bl){g:Nat->U}(bc:∀c,12<=c->c<308->g c=I 0)(h0:∀c,12<=c->c<308->bl i c=0):c3 n N wd (iE nd i g) bl:=
 ⟨λi' c cH dF ae=>by
   by_cases e:i'=i
   ·subst e;rw[pv,bc c dF ae,h0 c dF ae];rfl
   ·rw[oH _ _ _ e];exact M.cell i' c cH dF ae,M.le,M.on,M.inj⟩
theorem Oi{c:Nat}(dF:12<=c)(ae:c<308):gP bl i 0 c:=by
 have aB:∀m,m<278->hh 0 278 (a5 m):=λm hm=>⟨m,Nat.zero_le _,hm,rfl⟩
 have cj:∀d,(∀t,t<16->hh 0 278 (d+(1+t)))->hc bl i 0 d=true:=λd aI=>by
  unfold hc;rw[pd];exact λt aN=>oV (aI t aN)
 have DN:hc bl i 0 18=true:=cj 18 λt aN=>by
  have:=aB (6+t) (by omega)
  rwa[show a5 (6+t)=18+(1+t) by unfold a5;split<;>(try split)<;>omega] at this
 have Qp:∀q,q<16->hc bl i 0 (36+17*q)=true:=λq a2=>cj _ λt aN=>by
  have:=aB (22+16*q+t) (by omega)
  rwa[show a5 (22+16*q+t)=36+17*q+(1+t) by unfold a5;split<;>(try split)<;>omega] at this
 by_cases h1:c<18
 ·left
  have:=aB (c-12) (by omega)
  rwa[show a5 (c-12)=c by unfold a5;split<;>(try split)<;>omega] at this
 by_cases h2:c=18
 ·exact .inr (.inl ⟨h2,DN⟩)
 by_cases h3:c<35
 ·left
  have:=aB (c-13) (by omega)
  rwa[show a5 (c-13)=c by unfold a5;split<;>(try split)<;>omega] at this
 by_cases aT:c=35
 ·exact .inr (.inr (.inr ⟨aT,λj aa=> .inr (Qp j aa)⟩))
 by_cases bz:(c-36)%17=0
 ·exact .inr (.inr (.inl ⟨(c-36)/17,by omega,by omega,by
   have:=Qp ((c-36)/17) (by omega)
   exact this⟩))
 ·left
  have:=aB (22+16*((c-36)/17)+((c-36)%17-1)) (by omega)
  rwa[show a5 (22+16*((c-36)/17)+((c-36)%17-1))=c by unfold a5;split<;>(try split)<;>omega] at this
def nu(bl:Nat->Nat->Nat)(i:Nat):Nat->Nat->Nat:=λi' c=>if i'=i then 0 else bl i' c
def CF(C:ad):Prop:=∀h T n N wd b now us nd bl i (L H:Int),bt h T n N wd b now us nd->c3 n N wd nd bl->i<N->nd i 2=I L->nd i 11=I H->
 ((L≠0\/H≠0)->C (.fn 89) [.ptr T.a3 0,.ptr T.aK (i*308)] h=some (.ret (.bm []),h))/\
 (L=0->H=0->∃h' de,C (.fn 89) [.ptr T.a3 0,.ptr T.aK (i*308)] h=some (.ret (.bm []),h')/\bt h' T n N de b now (da us i false) (iE nd i fJ)/\
   c3 n N de (iE nd i fJ) (nu bl i)/\(∀j,bP de j=true↔(bP wd j=true/\∀c,12<=c->c<308->bl i c≠j+1))/\aD h h' (λj=>j=T.bL\/j=T.aK))
theorem aok{C:ad}(MV:Gz C)(A:bt h T n N wd b now us nd)(M:c3 n N wd nd bl)(hi:i<N){L H:Int}(hx:nd i 2=I L)(iN:nd i 11=I H):
 ((L≠0\/H≠0)->DD C lf (.ptr T.a3 0) (.ptr T.aK (i*308)) h=some (.ret (.bm []),h))/\
 (L=0->H=0->∃h' de,DD C lf (.ptr T.a3 0) (.ptr T.aK (i*308)) h=some (.ret (.bm []),h')/\bt h' T n N de b now (da us i false) (iE nd i fJ)/\
   c3 n N de (iE nd i fJ) (nu bl i)/\(∀j,bP de j=true↔(bP wd j=true/\∀c,12<=c->c<308->bl i c≠j+1))/\aD h h' (λj=>j=T.bL\/j=T.aK)):=by
 have a1:=A.dO i 2 hi (by omega);have HB:=A.dO i 11 hi (by omega);rw[hx] at a1;rw[iN] at HB;have ay:i*308+1+1=i*308+2:=Nat.add_assoc _ 1 1;unfold DD WU PE;simp only[aA,ay,a1,HB];refine⟨λca=>?_,λss ov=>?_⟩
 ·by_cases ss:L=0
  ·have ov:decide (H=0)=false:=br (ca.resolve_left (λx=>x ss));simp only[bu ss,ov,aA,HB]
  ·simp only[br ss,aA]
 ·obtain⟨h1,px,az,d1⟩:=MV h T n N wd b now us nd bl i 0 A M hi (by omega);have Oq:C (.fn 78) [.ptr T.a3 0,.ptr T.aK (i*308),I 0] h=some (.ret (.bm []),h1):=az;have my:gM ao 125 [] []=some (.agg (fa fJ)):=by kernel_rfl
  have dc:=aiv d1.A hi (g:=fJ) (by kernel_rfl);have aX:∀c,12<=c->c<308->dE bl i (gP bl i 0) i c=0:=λc dF ae=>oV (Oi dF ae)
  have dh:=d1.A.setRow hi (g:=fJ) (v:=false) rfl;have M2:=d1.M.row (i:=i) (g:=fJ) (λc dF _=>if_neg (by omega)) aX
  have sg:iE (lx nd i (gP bl i 0)) i fJ=iE nd i fJ:=by
   funext i' c
   by_cases e:i'=i
   ·subst e;rw[pv,pv]
   ·rw[oH _ _ _ e,oH _ _ _ e,HF (λx=>e x.1)]
  rw[sg] at dh M2;refine⟨_,px,?_,dh,⟨λi' c cH dF ae=>?_,λi' c=>?_,λi' c cH dF ae aB=>?_,λi1 aP i2 a1 nB g1 fl nC g2 m6 aB he=>?_⟩,λj=>?_,d1.F.trans (fj (.inr rfl))⟩
  ·simp only[bu ss,bu ov,aA,HB,Oq,my,dc]
  ·rw[M2.cell i' c cH dF ae];unfold nu;by_cases e:i'=i
   ·subst e;rw[if_pos rfl,aX c dF ae]
   ·rw[if_neg e,jb (λx=>e x.1)]
  ·unfold nu;split
   ·omega
   ·exact M.le i' c
  ·unfold nu at aB⊢;by_cases e:i'=i
   ·rw[if_pos e] at aB;omega
   ·rw[if_neg e] at aB⊢
    have:=M2.on i' c cH dF ae
    rw[jb (λx=>e x.1)] at this;exact this aB
  ·unfold nu at aB he;by_cases e:i1=i
   ·rw[if_pos e] at aB;omega
   ·by_cases bd:i2=i
    ·rw[if_neg e] at aB;rw[if_neg e,if_pos bd] at he;omega
    ·rw[if_neg e] at aB;rw[if_neg e,if_neg bd] at he;exact M.inj i1 aP i2 a1 nB g1 fl nC g2 m6 aB he
  ·rw[d1.O];exact⟨λx=>⟨x.1,λc dF ae=>x.2 c dF ae (Oi dF ae)⟩,λx=>⟨x.1,λc dF ae _=>x.2 c dF ae⟩⟩
end
end
section
variable{lf:Nat}{h:J}
theorem L8{a b:U}:([a,b]:List U)[0]?=some a:=e8 rfl
theorem L9{a b:U}:([a,b]:List U)[1]?=some b:=e8 rfl
def zeroV:List Value:= .bool false::List.replicate 307 (.int .i64 0)
def Nb(C:ad):Prop:=∀h (n m:Int), -9223372036854775808<=n->n<9223372036854775808-> -9223372036854775808<=m->m<9223372036854775808->
 ((n<1\/4096<n\/m<1\/4096<m)->∃h',C (.fn 36) [I n,I m] h=some (.ret (.bm [.val (.pointer none),I 22]),h')/\aD h h' (λ_=>False))/\
 (1<=n->n<=4096->1<=m->m<=4096->∃h',C (.fn 36) [I n,I m] h=some (.ret (.bm [.ptr (h.next+3) 0,I 0]),h')/\h'.next=h.next+4/\
   bt h' ⟨h.next+3,h.next+1,h.next,h.next+2⟩ n.toNat m.toNat (λ_=>0) (λ_=>0) 0 (λ_=>false) (λ_=>fJ)/\aD h h' (λ_=>False))
theorem ar5{C:ad}(uP:Na C){n m:Int}(cA: -9223372036854775808<=n)(ck:n<9223372036854775808):
 ((n<1\/4096<n\/m<1\/4096<m)->∃h',Ds C lf (I n) (I m) h=some (.ret (.bm [.val (.pointer none),I 22]),h')/\aD h h' (λ_=>False))/\
 (1<=n->n<=4096->1<=m->m<=4096->∃h',Ds C lf (I n) (I m) h=some (.ret (.bm [.ptr (h.next+3) 0,I 0]),h')/\h'.next=h.next+4/\
   bt h' ⟨h.next+3,h.next+1,h.next,h.next+2⟩ n.toNat m.toNat (λ_=>0) (λ_=>0) 0 (λ_=>false) (λ_=>fJ)/\aD h h' (λ_=>False)):=by
 obtain⟨cP,cV⟩:=uP h n cA ck;have x0:decide ((22:Int)≠0)=true:=by decide
 have x1:decide ((0:Int)≠0)=false:=by decide
 unfold Ds Ug O4;simp only[aA];refine⟨λag=>?_,λh1 h2 h3 aT=>?_⟩
 ·by_cases aR:n<1\/4096<n
  ·refine⟨h,?_,aD.refl _ _⟩;simp only[cP aR,aA,L8,L9,x0]
  ·obtain⟨ak,az,_,_,aL⟩:=cV (by omega) (by omega);refine⟨ak,?_,aL⟩;by_cases hm:m<1
   ·simp only[az,aA,L8,L9,x1,bu hm]
   ·have qX:4096<m:=by omega
    simp only[az,aA,L8,L9,x1,br hm,bu qX]
 ·obtain⟨ak,az,si,ig,aL⟩:=cV h1 h2;obtain⟨M,rfl⟩:∃M:Nat,m=M:=⟨m.toNat,by omega⟩;have d1:decide ((M:Int)<1)=false:=br (by omega);have d2:decide ((4096:Int)<(M:Int))=false:=br (by omega);have aX:gC ao 125=some (.agg ⟨zeroV⟩):=by kernel_rfl
  have ae:(c1 (.agg ⟨zeroV⟩)).cells=fa fJ:=by kernel_rfl
  have hlen:(fa fJ).length=308:=by rw[fa,List.length_map,List.length_range]
  have kZ:=Ai (P:=ao) (t:=100) (e:=125) (s:=308) (b:=2464) (k1:= .i64) (k2:= .i64) (l:=M) (c:=M) (h:=ak)
   Tryd.underlying100 (by kernel_rfl) aX (by kernel_rfl) (Nat.le_refl _) (by omega) (by omega) (by rw[ae,hlen]) (by omega)
  rw[ae] at kZ;have my:gM ao 102 [0,1] [.ptr (h.next+1) 0,.aF ak.next 0 M (some M) 0]=some (.agg [.ptr (h.next+1) 0,.aF ak.next 0 M (some M) 0,I 0]):=by kernel_rfl
  have fx:=uJ (e:=102) (x:= .agg [.ptr (h.next+1) 0,.aF ak.next 0 M (some M) 0,I 0]) (h:=ak.new (iU 125 (M*308) (fa fJ))) rfl;have o5:(U.agg [.ptr (h.next+1) 0,.aF ak.next 0 M (some M) 0,I 0]).cells=[.ptr (h.next+1) 0,.aF ak.next 0 M (some M) 0,I 0]:=rfl;rw[o5,e7,si] at fx;rw[si] at kZ my;simp only[az,aA,L8,L9,x1,d1,d2,kZ,my,fx];refine⟨_,rfl,by rw[e7,e7,si],?_,aL.trans ((aD.new _ _ _).trans (aD.new _ _ _))⟩;rw[Int.toNat_natCast]
  have ek:∀i,(((ak.new (iU 125 (M*308) (fa fJ))).new (cI 102 [.ptr (h.next+1) 0,.aF (h.next+2) 0 M (some M) 0,I 0])).cell (h.next+3) i)=
   ([.ptr (h.next+1) 0,.aF (h.next+2) 0 M (some M) 0,I 0]:List U)[i]?:=λi=>by
   have e:h.next+3=(ak.new (iU 125 (M*308) (fa fJ))).next:=by rw[e7,si]
   rw[e,jx,nK]
  have b9:(ak.new (iU 125 (M*308) (fa fJ))).next=h.next+3:=by rw[e7,si]
  have j5:dV ((ak.new (iU 125 (M*308) (fa fJ))).new (cI 102 [.ptr (h.next+1) 0,.aF (h.next+2) 0 M (some M) 0,I 0])) (h.next+1) h.next n.toNat (λ_=>0) (λ_=>0):=
   ig.gQ ((aD.new ak _ (λ_=>False)).trans (aD.new _ _ _)) (λx=>x) (λx=>x)
  refine⟨by omega,by omega,j5,by rw[ek];rfl,⟨_,by rw[ek];rfl⟩,by rw[ek];rfl,?_,?_,λi c hi ae=>?_,λi _=>rfl,by show h.next+3≠h.next+1;omega,by show h.next+3≠h.next;omega,by show h.next+3≠h.next+2;omega,by show h.next+2≠h.next+1;omega,by show h.next+2≠h.next;omega,?_,?_⟩
  ·have:=hW (h:=ak.new (iU 125 (M*308) (fa fJ))) (o:=cI 102 [.ptr (h.next+1) 0,.aF (h.next+2) 0 M (some M) 0,I 0]) rfl
   rw[b9] at this;exact this
  ·have:=hW (h:=ak) (o:=iU 125 (M*308) (fa fJ)) rfl
   rw[si] at this;exact uF this (by rw[b9];show h.next+2≠h.next+3;omega)
  ·have ay:h.next+2=ak.next:=si.symm
   show _=some (fJ c);rw[yo (by rw[b9];show h.next+2≠h.next+3;omega)];show J.cell _ (h.next+2) _=_;have a9:i*308+c<M*308:=by omega
   have Eh:(i*308+c)%308=c:=by omega
   rw[ay,jx,zL _ _ a9,hlen,Eh,fa,List.getElem?_map,List.getElem?_range ae];rfl
  ·show h.next+3<_
   rw[e7,e7,si];omega
  ·show h.next+2<_
   rw[e7,e7,si];omega
end
theorem CY{P:Program}{t:TypeId}{a b:Int}:bin P .and t (I a) (I b)=some (I (IntKind.i64.wrap ((BitVec.ofInt 64 a&&& BitVec.ofInt 64 b).toNat:Int))):=by
 rw[ym _ (.inl rfl)];simp only[arith,fP];rfl
theorem alE{P:Program}{t:TypeId}{a b:Int}:bin P .andNot t (I a) (I b)=some (I (IntKind.i64.wrap ((BitVec.ofInt 64 a&&& ~~~BitVec.ofInt 64 b).toNat:Int))):=by
 rw[ym _ (.inr (.inr (.inr rfl)))];simp only[arith,fP];rfl
def zA(mo:Int):Int:=IntKind.i64.wrap ((BitVec.ofInt 64 mo&&& ~~~BitVec.ofInt 64 65535).toNat:Int)
def lI(mo:Int):Int:=IntKind.i64.wrap ((BitVec.ofInt 64 mo&&& BitVec.ofInt 64 61440).toNat:Int)
def lU(mo uid gid:Int):Prop:=zA mo≠0\/(lI mo≠32768/\lI mo≠16384/\lI mo≠40960)\/uid<0\/gid<0
def mF(ino uid gid mo now:Int)(c:Nat):U:=if c=0 then .bool true else if c=1 then I ino else if c=3 then I uid else if c=4 then I gid else if c=7 then I mo else
 if c=8\/c=9\/c=10 then I now else I 0
section
variable{lf:Nat}{h:J}{T:dS}{n N:Nat}{wd b:Nat->Nat}{now:Int}{us:Nat->Bool}{nd:Nat->Nat->U}{mo uid gid:Int}
theorem akR{C:ad}(r:aS)(av:cu)(A:bt h T n N wd b now us nd):∀(d q:Nat),q+d=N->∀f,d<f->
 ((∀j,q<=j->j<N->us j=true)->bk (sv C lf r av) f (some (.ptr T.a3 0),some (I mo),some (I uid),some (I gid),some (I (N:Int)),some (I (q:Int))) h=av h)/\
 (∀i,q<=i->i<N->us i=false->(∀j,q<=j->j<i->us j=true)->bk (sv C lf r av) f (some (.ptr T.a3 0),some (I mo),some (I uid),some (I gid),some (I (N:Int)),some (I (q:Int))) h=
   r (some (I ((i+1:Nat):Int))) (some (I 0)) (h.set T.aK (i*308) (fa (mF ((i+1:Nat):Int) uid gid mo now)))):=by
 intro d
 induction d with
 |zero=>
  intro q a2 f au;obtain⟨f,rfl⟩:=dx f (by omega);refine⟨λ_=>?_,λi h1 h2=>by omega⟩;rw[df];unfold sv B0;have a9:decide ((q:Int)<(N:Int))=false:=br (by omega);simp only[aA,a9]
 |succ d bp=>
  intro q a2 f au;obtain⟨f,rfl⟩:=dx f (by omega);obtain⟨EE,EF⟩:=bp (q+1) (by omega) f (by omega);have jQ:=A.gH;have JC:q<N:=by omega
  have a9:decide ((q:Int)<(N:Int))=true:=bu (by omega);have ak:IntKind.i64.wrap ((q:Int)+1)=((q+1:Nat):Int):=cD (by omega);obtain⟨cap,fl⟩:=A.aP;have bW:=gA (s:=308) (k:=T.aK) (off:=0) (len:=N) (lo:=0) (cap:=cap) (kd:= .i64) (i:=(q:Int)) (by omega) (by omega);rw[Int.toNat_natCast,Nat.zero_add] at bW;have ae:=A.dO q 0 JC (by omega);rw[A.kN q JC] at ae
  have step:us q=true->bk (sv C lf r av) (f+1) (some (.ptr T.a3 0),some (I mo),some (I uid),some (I gid),some (I (N:Int)),some (I (q:Int))) h=
   bk (sv C lf r av) f (some (.ptr T.a3 0),some (I mo),some (I uid),some (I gid),some (I (N:Int)),some (I ((q+1:Nat):Int))) h:=by
   intro hu;rw[hu] at ae;rw[df];show B0 C lf (λx0 x1 x2 x3 xJ vI h=>bk (sv C lf r av) f (x0,x1,x2,x3,xJ,vI) h) r av (some (.ptr T.a3 0)) (some (I mo)) (some (I uid)) (some (I gid)) (some (I (N:Int))) (some (I (q:Int))) h=_;unfold B0;simp only[aA,a9,fl,bW,ae,Bool.not_true,ak]
  refine⟨λgd=>?_,λi h1 h2 hu wO=>?_⟩
  ·rw[step (gd q (Nat.le_refl _) JC)];exact EE λj aa hb=>gd j (by omega) hb
  ·by_cases e:i=q
   ·subst e;rw[hu] at ae
    have DU:gM ao 78 [0,2,3,6,7,8,9] [I ((i+1:Nat):Int),I uid,I gid,I mo,I now,I now,I now]=
     some (.agg [I ((i+1:Nat):Int),I 0,I uid,I gid,I 0,I 0,I mo,I now,I now,I now]):=by kernel_rfl
    have ka:gM ao 125 [0,1] [.bool true,.agg [I ((i+1:Nat):Int),I 0,I uid,I gid,I 0,I 0,I mo,I now,I now,I now]]=
     some (.agg (fa (mF ((i+1:Nat):Int) uid gid mo now))):=by kernel_rfl
    have dc:=aiv A JC (g:=mF ((i+1:Nat):Int) uid gid mo now) (by kernel_rfl);rw[df];unfold sv B0;simp only[aA,a9,fl,A.a1,bW,ae,Bool.not_false,ak,DU,ka,dc]
   ·rw[step (wO q (Nat.le_refl _) (by omega))];exact EF i (by omega) h2 hu λj aa hb=>wO j (by omega) hb
end
section
variable{lf:Nat}{h:J}{T:dS}{n N:Nat}{wd b:Nat->Nat}{now:Int}{us:Nat->Bool}{nd:Nat->Nat->U}{mo uid gid:Int}
def Gy(C:ad):Prop:=∀h T n N wd b now us nd (mo uid gid:Int),bt h T n N wd b now us nd->
 (lU mo uid gid->C (.fn 37) [.ptr T.a3 0,I mo,I uid,I gid] h=some (.ret (.bm [I 0,I 22]),h))/\
 (¬lU mo uid gid->(∀j,j<N->us j=true)->C (.fn 37) [.ptr T.a3 0,I mo,I uid,I gid] h=some (.ret (.bm [I 0,I 28]),h))/\
 (¬lU mo uid gid->∀i,i<N->us i=false->(∀j,j<i->us j=true)->∃h',C (.fn 37) [.ptr T.a3 0,I mo,I uid,I gid] h=some (.ret (.bm [I ((i+1:Nat):Int),I 0]),h')/\
   bt h' T n N wd b now (da us i true) (iE nd i (mF ((i+1:Nat):Int) uid gid mo now))/\h'.next=h.next/\aD h h' (· =T.aK))
theorem an0{a c:U}:tw (some a) (some c) h=some (.ret (.bm [a,c]),h):=e8 rfl
theorem iL{w:Bool}{r:ab}:cT w (some (.val undef)) r h=some (.ret (.val undef),h):=by cases w<;>exact e8 rfl
theorem akT{C:ad}(x5:pH C)(A:bt h T n N wd b now us nd):
 (lU mo uid gid->wG C lf (.ptr T.a3 0) (I mo) (I uid) (I gid) h=some (.ret (.bm [I 0,I 22]),h))/\
 (¬lU mo uid gid->wG C lf (.ptr T.a3 0) (I mo) (I uid) (I gid) h=B1 C lf tw (some (.ptr T.a3 0)) (some (I mo)) (some (I uid)) (some (I gid)) h):=by
 have ax:IntKind.i64.wrap ((BitVec.ofInt 64 mo&&& ~~~BitVec.ofInt 64 65535).toNat:Int)=zA mo:=rfl;have ai:IntKind.i64.wrap ((BitVec.ofInt 64 mo&&& BitVec.ofInt 64 61440).toNat:Int)=lI mo:=rfl;unfold wG Uq Up Uo Un Um Ul Uk Uj;generalize a2:B1 C lf tw (some (.ptr T.a3 0)) (some (I mo)) (some (I uid)) (some (I gid)) h=Q;simp only[aA,x5 _ _ _ _ _ _ _ _ _ A,Bool.not_true,CY,alE,ax,ai,a2];unfold lU
 by_cases aj:zA mo=0<;>by_cases aC:lI mo=32768<;>by_cases a8:lI mo=16384<;>by_cases cF:lI mo=40960<;>by_cases dK:uid<0<;>by_cases dH:gid<0<;>
  simp[aj,aC,a8,cF,dK,dH,a2,an0,iL]
theorem akS{C:ad}(gy:4097<=lf)(x5:pH C)(A:bt h T n N wd b now us nd):
 (lU mo uid gid->wG C lf (.ptr T.a3 0) (I mo) (I uid) (I gid) h=some (.ret (.bm [I 0,I 22]),h))/\
 (¬lU mo uid gid->(∀j,j<N->us j=true)->wG C lf (.ptr T.a3 0) (I mo) (I uid) (I gid) h=some (.ret (.bm [I 0,I 28]),h))/\
 (¬lU mo uid gid->∀i,i<N->us i=false->(∀j,j<i->us j=true)->∃h',wG C lf (.ptr T.a3 0) (I mo) (I uid) (I gid) h=some (.ret (.bm [I ((i+1:Nat):Int),I 0]),h')/\
   bt h' T n N wd b now (da us i true) (iE nd i (mF ((i+1:Nat):Int) uid gid mo now))/\h'.next=h.next/\aD h h' (· =T.aK)):=by
 have jQ:=A.gH;obtain⟨bM,cz⟩:=akT (lf:=lf) (mo:=mo) (uid:=uid) (gid:=gid) x5 A;obtain⟨cap,fl⟩:=A.aP
 have aJ:eG ao 100 (.aF T.aK 0 N cap 0)=some (I (N:Int)):=by
  simp[eG,Tryd.underlying100]
 obtain⟨b4,cv⟩:=akR (lf:=lf) (mo:=mo) (uid:=uid) (gid:=gid) (C:=C) tw (λh=>KF C lf tw h) A N 0 (by omega) lf (by omega)
 have a2:B1 C lf tw (some (.ptr T.a3 0)) (some (I mo)) (some (I uid)) (some (I gid)) h=
  bk (sv C lf tw (λh=>KF C lf tw h)) lf (some (.ptr T.a3 0),some (I mo),some (I uid),some (I gid),some (I (N:Int)),some (I ((0:Nat):Int))) h:=by
  unfold B1 Ui Uh;simp only[aA,fl,aJ];rfl
 refine⟨bM,λbc gd=>?_,λbc i hi hu ag=>⟨_,?_,A.setRow hi rfl,dz ..,fj rfl⟩⟩
 ·rw[cz bc,a2,b4 λj _ aa=>gd j aa];rfl
 ·rw[cz bc,a2,cv i (Nat.zero_le _) hi hu λj _ aa=>ag j aa];rfl
end
section
open Classical
structure lp (bl:Nat->Nat->Nat) (i:Nat):Prop where
 one:bl i 18=0↔hole bl i 18=true
 yD:∀q,q<16->(bl i (36+17*q)=0↔hole bl i (36+17*q)=true)
 two:bl i 35=0↔∀q,q<16->bl i (36+17*q)=0
theorem lp.am9{bl:Nat->Nat->Nat}{i k m:Nat}(hm:m<278):gP bl i k (a5 m)↔k<=m:=by
 obtain⟨h1,h2,h3⟩:=ur hm;unfold gP;constructor
 ·rintro (⟨j,a,b,e⟩|⟨e,_⟩|⟨j,a,e,_⟩|⟨e,_⟩)
  ·rw[Sg e hm b];exact a
  ·exact absurd e h1
  ·exact absurd e (h3 j a)
  ·exact absurd e h2
 ·exact λe=> .inl ⟨m,e,hm,rfl⟩
end
noncomputable section
variable{C:ad}{lf:Nat}{ba a0 eA fz jU k3 q4 q5 q6 q7 q8 q9 q1 q2 q3:hp}{an:lj}
noncomputable def abC:b1 ao:=⟨39,Tryd.f39,λr=>bif Nat.beq r 3 then .ord [0,1,2,5,6,7,10,11,12,15,16,17,20,3,8,13,14,18,19,4,9,21,22,23,24,25,26,27] [(21,[18,13]),(9,[18,13]),(4,[18,13,8])] else .text,Tryd.func39,by kernel_rfl,by kernel_rfl,by kernel_rfl,by kernel_rfl⟩
noncomputable def O5(x2 x3 bC eD:O)(h:J):ab:=
 ob x2 λa=>ob x3 λb=>ob bC λc=>ob eD λd=>some (.ret (.bm [a,b,c,d]),h)
def Uw(C:ad)(lf:Nat)(r:bo)(x0:O)(h:J):ab:=
 aP C 73 x0 h λa k=>fM a (r (bD 0) (bD 0) (bD 0) (bD 0) k) (e9 0 x0 λa=>e9 0 x0 λb=>e9 1 x0 λc=>e9 1 x0 λd=>ob x0 λg=>ob (bO a k) λi=>ob (bO b k) λj=>ob (bO c k) λm=>jX 100 m λm=>ob (bO d k) λo=>jX 100 o λo=>cM (C (.fn 29) [i] k) λi l=>dM (ey [(18,bU (some d)),(13,bU (some c)),(8,bU (some b)),(3,bU (some a))] k l [18,13,8]) (cM (C (.fn 19) [j] l) λj k=>dM (ey [(18,bU (some d)),(13,bU (some c)),(8,bU (some b)),(3,bU (some a))] l k [18,13]) (cM (C (.fn 47) [g] k) λg l=>dM (ey [(18,bU (some d)),(13,bU (some c)),(8,bU (some b)),(3,bU (some a))] k l [18,13]) (jX 33 g λa=>cn .sub 3 o a λa=>r (some i) (some j) (some m) (some a) l))))
theorem awb{r:bo}:∀F h,ar abC C lf [] F h ba (bj r 2 3 4 5) an=aM (Uw C lf r) 0 F h:=by
 intro F h;kernel_rfl
def Ix(C:ad)(lf:Nat)(ah:U)(h:J):ab:=Uw C lf O5 (some ah) h
def acE:cx ao:=hZ abC Ix (λC lf ah h=>cS (K:=(bj O5 2 3 4 5)) (by kernel_rfl) (Eq.trans (awb _ h) (by kernel_rfl))) (by kernel_rfl)
def abH:b1 ao:=dk 46 Tryd.f46 Tryd.func46 (by kernel_rfl)
noncomputable def Pa(x2:O)(h:J):ab:=
 ob x2 λa=>some (.ret a,h)
def UI(C:ad)(lf:Nat)(r:aw)(x0:O)(h:J):ab:=
 aP C 73 x0 h λa k=>fM a (r (bD 0) k) (dw 2 x0 k λa=>r (some a) k)
theorem awK{r:aw}:∀F h,ar abH C lf [] F h ba (aM r 2) an=aM (UI C lf r) 0 F h:=by
 intro F h;kernel_rfl
def IB(C:ad)(lf:Nat)(ah:U)(h:J):ab:=UI C lf Pa (some ah) h
def acK:cx ao:=hZ abH IB (λC lf ah h=>cS (K:=(aM Pa 2)) (by kernel_rfl) (Eq.trans (awK _ h) (by kernel_rfl))) (by kernel_rfl)
noncomputable def dn:b1 ao:=⟨47,Tryd.f47,λr=>bif Nat.beq r 1000004 then .ord [3] [] else .text,Tryd.func47,by kernel_rfl,by kernel_rfl,by kernel_rfl,by kernel_rfl⟩
noncomputable def abe(x2:O)(h:J):ab:=
 ob x2 λa=>some (.ret a,h)
def n8(L:List Nat)(x2:O)(h:J):ab:=zz L h λh=>abe x2 h
noncomputable def uu(C:ad)(lf:Nat)(r:aw)(x3:O)(h:J):ab:=
 ob x3 λa=>ob (bO a h) λa=>r (some a) h
theorem awQ(C:ad)(lf:Nat)(r:aw)(ba:hp)(an:lj):∀F h,ar dn C lf [1,1,1] F h ba (λF h=>r (F 2) h) an=uu C lf r (F 3) h:=by
 intro F h;kernel_rfl
noncomputable def Fs(C:ad)(lf:Nat)(n:cu)(x3 bC:O)(h:J):ab:=
 ob x3 λa=>ob (bO a h) λa=>ob bC λb=>b2 (gp ao 33 1 [0] [b] h) λb k=>b2 (eX ao .append #[33,33] [a,b] k) λa k=>ob x3 λb=>ob (st 1 b a k) n
theorem awL(C:ad)(lf:Nat)(n:cu)(a0:hp)(an:lj):∀F h,ar dn C lf [1,1,0,1,0,1] F h (λF h=>n h) a0 an=Fs C lf n (F 3) (F 4) h:=by
 intro F h;kernel_rfl
noncomputable def UJ(C:ad)(lf:Nat)(n:aS)(x3 x7:O)(h:J):ab:=
 ob x7 λa=>n x3 (some a) h
theorem awM(C:ad)(lf:Nat)(n:aS)(a0:hp)(an:lj):∀F h,ar dn C lf [1,1,0,1,0,0] F h (λF h=>n (F 3) (F 4) h) a0 an=UJ C lf n (F 3) (F 7) h:=by
 intro F h;kernel_rfl
def LO(C:ad)(lf k:Nat)(x3:O)(y0:U)(h:J):ab:=
 UJ C lf (λx3 bC h=>ux h k λh=>Fs C lf (λh=>lX h k .ready .none true) x3 bC h) x3 (some y0) h
theorem aCi(C:ad)(lf k:Nat)(F:Fr)(y0:U)(h:J):Cf ao C dn.ord 47 k 13 lf F #[7] (b7 dn [1,1,0,1,0,0]) (b7 dn [1,1,0,1,0,1]) [y0] h=LO C lf k (F 3) y0 h:=
 (aGa (x:=dn) (pa:=[1,1,0,1,0,0]) (pc:=[1,1,0,1,0,1]) (by kernel_rfl) (by kernel_rfl) (by kernel_rfl) (awL C lf (λh=>lX h k .ready .none true) (λ_ h=>lX h k .done .ret false) (λi _ h=>lX h k .done (.ex i) false)) (awM C lf (λx3 bC h=>ux h k λh=>Fs C lf (λh=>lX h k .ready .none true) x3 bC h) (λ_ _=>none) (λ_ _ _=>none))).trans (by kernel_rfl)
noncomputable def zQ(C:ad)(lf:Nat)(n:aS)(x0 x3:O)(h:J):ab:=
 ob x0 λa=>n x3 (some (.fn (.func 81) [a] [])) h
theorem awN(C:ad)(lf:Nat)(n:aS)(a0:hp)(an:lj):∀F h,ar dn C lf [1,1,0,0] F h (λF h=>n (F 3) (F 6) h) a0 an=zQ C lf n (F 0) (F 3) h:=by
 intro F h;kernel_rfl
noncomputable def Fu(C:ad)(lf:Nat)(n:aS)(x0:O)(h:J):ab:=
 b2 (j0 ao 33 h) λa=>n x0 (some a)
theorem awO(C:ad)(lf:Nat)(n:aS)(a0:hp)(an:lj):∀F h,ar dn C lf [1,0] F h (λF h=>n (F 0) (F 3) h) a0 an=Fu C lf n (F 0) h:=by
 intro F h;kernel_rfl
noncomputable def UK(C:ad)(lf:Nat)(n:aw)(x0:O)(h:J):ab:=
 n x0 h
theorem awP(C:ad)(lf:Nat)(n:aw)(a0:hp)(an:lj):∀F h,ar dn C lf [0] F h (λF h=>n (F 0) h) a0 an=UK C lf n (F 0) h:=by
 intro F h;kernel_rfl
def IC(C:ad)(lf:Nat)(ah:U)(h:J):ab:=zE (UK C lf ((λL x0 h=>Fu C lf ((λL x0 x3 h=>zQ C lf ((λL x3 aG h=>ob aG λy=>rA C dn.ord 47 none 13 #[7] (b7 dn [1,1,0,1,0,0]) (b7 dn [1,1,0,1,0,1]) y L (jl [(3,x3)]) h (λL h=>(λL x3 h=>uu C lf (n8 L) x3 h) L x3 h) ri []) L) x0 x3 h) L) x0 h) []) (some ah) h)
def acL:cx ao:=akE dn IC (λC lf ah h=>aog (K:=(λL F h=>n8 L (F 2) h)) (by kernel_rfl) (((MJ (a:=b7 dn [0]) (b:=b7 dn [1]) (by kernel_rfl) (B:=(λL F h=>Fu C lf ((λL x0 x3 h=>zQ C lf ((λL x3 aG h=>ob aG λy=>rA C dn.ord 47 none 13 #[7] (b7 dn [1,1,0,1,0,0]) (b7 dn [1,1,0,1,0,1]) y L (jl [(3,x3)]) h (λL h=>(λL x3 h=>uu C lf (n8 L) x3 h) L x3 h) ri []) L) x0 x3 h) L) (F 0) h)) (MJ (a:=b7 dn [1,0]) (b:=b7 dn [1,1]) (by kernel_rfl) (B:=(λL F h=>zQ C lf ((λL x3 aG h=>ob aG λy=>rA C dn.ord 47 none 13 #[7] (b7 dn [1,1,0,1,0,0]) (b7 dn [1,1,0,1,0,1]) y L (jl [(3,x3)]) h (λL h=>(λL x3 h=>uu C lf (n8 L) x3 h) L x3 h) ri []) L) (F 0) (F 3) h)) (MJ (a:=b7 dn [1,1,0]) (b:=b7 dn [1,1,1]) (by kernel_rfl) (B:=(λL F h=>uu C lf (n8 L) (F 3) h)) (MI (x:=dn) (p:=[1,1,1]) (by kernel_rfl) (λL F h=>(awQ C lf (n8 L) ((λL F h=>n8 L (F 2) h) L) (λi=>(λ_ _ _ _=>none) i L)) F h)) (MJ (a:=b7 dn [1,1,0,0]) (b:=b7 dn [1,1,0,1]) (by kernel_rfl) (B:=(λL F h=>ob (F 6) λy=>rA C dn.ord 47 none 13 #[7] (b7 dn [1,1,0,1,0,0]) (b7 dn [1,1,0,1,0,1]) y L (jl [(3,(F 3))]) h (λL h=>(λL x3 h=>uu C lf (n8 L) x3 h) L (F 3) h) ri [])) (aF8 (id:=0) (a:=b7 dn [1,1,0,1,0]) (by kernel_rfl) (λL F h=>aF9 (a:=b7 dn [1,1,0,1,0,0]) (b:=b7 dn [1,1,0,1,0,1]) (g:= .tmp 6) (ps:= #[7]) (us:=[3]) (es:=[]) (rb:=false) (by kernel_rfl) (by kernel_rfl) (by kernel_rfl) (by kernel_rfl) L F h)) (MI (x:=dn) (p:=[1,1,0,0]) (by kernel_rfl) (λL F h=>(awN C lf ((λL x3 aG h=>ob aG λy=>rA C dn.ord 47 none 13 #[7] (b7 dn [1,1,0,1,0,0]) (b7 dn [1,1,0,1,0,1]) y L (jl [(3,x3)]) h (λL h=>(λL x3 h=>uu C lf (n8 L) x3 h) L x3 h) ri []) L) ((λL F h=>n8 L (F 2) h) L) (λi=>(λ_ _ _ _=>none) i L)) F h)))) (MI (x:=dn) (p:=[1,0]) (by kernel_rfl) (λL F h=>(awO C lf ((λL x0 x3 h=>zQ C lf ((λL x3 aG h=>ob aG λy=>rA C dn.ord 47 none 13 #[7] (b7 dn [1,1,0,1,0,0]) (b7 dn [1,1,0,1,0,1]) y L (jl [(3,x3)]) h (λL h=>(λL x3 h=>uu C lf (n8 L) x3 h) L x3 h) ri []) L) x0 x3 h) L) ((λL F h=>n8 L (F 2) h) L) (λi=>(λ_ _ _ _=>none) i L)) F h))) (MI (x:=dn) (p:=[0]) (by kernel_rfl) (λL F h=>(awP C lf ((λL x0 h=>Fu C lf ((λL x0 x3 h=>zQ C lf ((λL x3 aG h=>ob aG λy=>rA C dn.ord 47 none 13 #[7] (b7 dn [1,1,0,1,0,0]) (b7 dn [1,1,0,1,0,1]) y L (jl [(3,x3)]) h (λL h=>(λL x3 h=>uu C lf (n8 L) x3 h) L x3 h) ri []) L) x0 x3 h) L) x0 h) L) ((λL F h=>n8 L (F 2) h) L) (λi=>(λ_ _ _ _=>none) i L)) F h))) [] _ h).trans (by kernel_rfl))) (by kernel_rfl)
def abI:b1 ao:=dk 48 Tryd.f48 Tryd.func48 (by kernel_rfl)
noncomputable def Pb(x2:O)(h:J):ab:=
 ob x2 λa=>some (.ret a,h)
def UL(C:ad)(lf:Nat)(r:aw)(x0:O)(h:J):ab:=
 aP C 73 x0 h λa k=>fM a (r (some (.val (.slice none 0 0))) k) (dw 0 x0 k λa=>cJ C 20 [a] k λa=>r (some a))
theorem awR{r:aw}:∀F h,ar abI C lf [] F h ba (aM r 2) an=aM (UL C lf r) 0 F h:=by
 intro F h;kernel_rfl
def ID(C:ad)(lf:Nat)(ah:U)(h:J):ab:=UL C lf Pb (some ah) h
def acM:cx ao:=hZ abI ID (λC lf ah h=>cS (K:=(aM Pb 2)) (by kernel_rfl) (Eq.trans (awR _ h) (by kernel_rfl))) (by kernel_rfl)
def wL:b1 ao:=dk 81 Tryd.f81 Tryd.func81 (by kernel_rfl)
noncomputable def Dh(h:J):ab:=
 some (.ret (.bm []),h)
def FC(C:ad)(lf:Nat)(n:bo)(r:cu)(av:cu)(x0 x1 x12 ew:O)(h:J):ab:=
 lb .lss 3 ew x12 (ob ew λa=>dw 1 x0 h λb=>ob (dQ 308 b a) λb=>eK 0 b h λb=>b3 b x1 h λc k=>jf .add 3 b (some a) (I 1) k λa k=>dL (cT true (some b) (fv false C c [a] k λa k=>some (.ret a,k)) k) λa k=>b3 b (ib .not a) k λa k=>qn b a (r k) (cB .add 3 ew (I 1) λa=>n x0 x1 x12 (some a) k)) (av h)
theorem ayI{n:bo}{r:cu}{av:cu}:∀F h,ar wL C lf [1,1,0,0] F h (bj n 0 1 12 13) (ed r) (bI 0 (ed av) an)=bj (FC C lf n r av) 0 1 12 13 F h:=by
 intro F h;kernel_rfl
def BN(C:ad)(lf:Nat)(r:cu)(av:cu)(k:O×O×O×O->J->ab)(s:O×O×O×O)(h:J):ab:=
 FC C lf (λa b c d=>k (a,b,c,d)) r av s.1 s.2.1 s.2.2.1 s.2.2.2 h
def Wg(C:ad)(lf:Nat)(n:bo)(x0 x1:O)(h:J):ab:=
 dw 1 x0 h λa=>jX 100 a λa=>n x0 x1 (some a) (bD 0) h
theorem ayJ{n:bo}:∀F h,ar wL C lf [1,0] F h (bj n 0 1 12 13) a0 an=a7 (Wg C lf n) 0 1 F h:=by
 intro F h;kernel_rfl
def Wh(C:ad)(lf:Nat)(n:cu)(r:cu)(x0 x1:O)(h:J):ab:=
 Wg C lf (λa b c d=>bk (BN C lf r n) lf (a,b,c,d)) x0 x1 h
theorem ayK{n:cu}{r:cu}:∀F h,ar wL C lf [1] F h (ed n) (ed r) an=a7 (Wh C lf n r) 0 1 F h:=bg (b:=b7 wL [1,1]) (by kernel_rfl) (fY (id:=0) (a:=b7 wL [1,1,0]) (by kernel_rfl) (gJ (g:=λF=>(F 0,F 1,F 12,F 13)) (body:=BN C lf r n) (by kernel_rfl) (λk=>(ayI (n:=λx0 x1 x12 ew h=>k (x0,x1,x12,ew) h))))) (ayJ (n:=λx0 x1 x12 ew h=>bk (BN C lf r n) lf (x0,x1,x12,ew) h))
def Wi(C:ad)(lf:Nat)(n:aS)(r:cu)(x0 x1:O)(h:J):ab:=
 aP C 73 x0 h λa k=>fM a (r k) (n x0 x1 k)
theorem ayL{n:aS}{r:cu}:∀F h,ar wL C lf [0] F h (a7 n 0 1) (ed r) an=a7 (Wi C lf n r) 0 1 F h:=by
 intro F h;kernel_rfl
def Wj(C:ad)(lf:Nat)(n:cu)(r:cu)(x0 x1:O)(h:J):ab:=
 Wi C lf (Wh C lf n r) r x0 x1 h
theorem ayM{n:cu}{r:cu}:∀F h,ar wL C lf [] F h (ed n) (ed r) an=a7 (Wj C lf n r) 0 1 F h:=bg (by kernel_rfl) ayK ayL
def DB(C:ad)(lf:Nat)(ah aj:U)(h:J):ab:=Wj C lf Dh Dh (some ah) (some aj) h
def ac9:cx ao:=hr wL DB (λC lf ah aj h=>cS (K:=(ed Dh)) (by kernel_rfl) (Eq.trans (ayM _ h) (by kernel_rfl))) (by kernel_rfl)
def abA:b1 ao:=dk 34 Tryd.f34 Tryd.func34 (by kernel_rfl)
noncomputable def O3(x2:O)(h:J):ab:=
 ob x2 λa=>some (.ret a,h)
noncomputable def Uf(C:ad)(lf:Nat)(r:aw)(x0:O)(h:J):ab:=
 ob x0 λa=>r (some a) h
theorem avG{r:aw}:∀F h,ar abA C lf [] F h ba (aM r 2) an=aM (Uf C lf r) 0 F h:=by
 intro F h;kernel_rfl
def Iw(C:ad)(lf:Nat)(ah:U)(h:J):ab:=Uf C lf O3 (some ah) h
def P2:cx ao:=hZ abA Iw (λC lf ah h=>cS (K:=(aM O3 2)) (by kernel_rfl) (Eq.trans (avG _ h) (by kernel_rfl))) (by kernel_rfl)
def abG:b1 ao:=dk 45 Tryd.f45 Tryd.func45 (by kernel_rfl)
noncomputable def O9(bC:O)(h:J):ab:=
 ob bC λa=>some (.ret a,h)
def UH(C:ad)(lf:Nat)(r:aw)(x0 x1:O)(h:J):ab:=
 aP C 39 x0 h λa k=>cy a λb c=>ob (ext 2 a) λd=>ob (ext 3 a) λa=>aP C 80 x1 k λg k=>cy g λi j=>ob (ext 2 g) λm=>ob (ext 3 g) λg=>cn .eql 3 b i λb=>b3 b (some c) k λc k=>b3 b (some j) k λi k=>b3 b (bin ao .eql 3 c i) k λc k=>hA b c λb=>b3 b (some d) k λc k=>b3 b (some m) k λd k=>b3 b (bin ao .eql 3 c d) k λc k=>hA b c λb=>b3 b (some a) k λa k=>b3 b (some g) k λc k=>b3 b (bin ao .eql 3 a c) k λa k=>hA b a λa=>r (some a) k
theorem awJ{r:aw}:∀F h,ar abG C lf [] F h ba (aM r 4) an=a7 (UH C lf r) 0 1 F h:=by
 intro F h;kernel_rfl
def IA(C:ad)(lf:Nat)(ah aj:U)(h:J):ab:=UH C lf O9 (some ah) (some aj) h
def acJ:cx ao:=hr abG IA (λC lf ah aj h=>cS (K:=(aM O9 4)) (by kernel_rfl) (Eq.trans (awJ _ h) (by kernel_rfl))) (by kernel_rfl)
noncomputable def abF:b1 ao:=⟨44,Tryd.f44,λr=>bif Nat.beq r 3 then .news [0,2,3,4,1,5,6,7,8,9] [5] [] else .text,Tryd.func44,by kernel_rfl,by kernel_rfl,by kernel_rfl,by kernel_rfl⟩
noncomputable def O8(bC eD:O)(h:J):ab:=
 ob bC λa=>ob eD λb=>some (.ret (.bm [a,b]),h)
def UG(C:ad)(lf:Nat)(r:aS)(x0 x1:O)(h:J):ab:=
 cB .lss 3 x0 (I 1) λa=>jg .gtr 3 a x0 (I 4096) h λb k=>mI a b λa=>jg .lss 3 a x1 (I 1) k λb k=>mI a b λa=>jg .gtr 3 a x1 (I 4096) k λb k=>mN a b (r (some (.val (.pointer none))) (bD 22) k) (zG [5] 10 k λa k=>ob x0 λb=>ob x1 λc=>cB .add 3 x1 (I 1) λd=>cM (C (.fn 24) [b] k) λb k=>dM (kI a d&&kI a d) (b2 (pC (nN ao 134 d d) a 5 k) λa k=>ob (gM ao 136 [0,1,3] [b,c,a]) λa=>b2 (pB 136 a k) λa=>r (some a) (bD 0)))
theorem awI{r:aS}:∀F h,ar abF C lf [] F h ba (a7 r 4 5) an=a7 (UG C lf r) 0 1 F h:=by
 intro F h;kernel_rfl
def Dt(C:ad)(lf:Nat)(ah aj:U)(h:J):ab:=UG C lf O8 (some ah) (some aj) h
def acI:cx ao:=hr abF Dt (λC lf ah aj h=>cS (K:=(a7 O8 4 5)) (by kernel_rfl) (Eq.trans (awI _ h) (by kernel_rfl))) (by kernel_rfl)
noncomputable def ab6:b1 ao:=⟨80,Tryd.f80,λr=>bif Nat.beq r 1 then .ord [0,1,2,3,6,7,8,10,11,12,14,15,16,18,4,5,13,17,9,19,20,21,22,23,24,25] [(19,[17,13,4]),(9,[17,13,4])] else .text,Tryd.func80,by kernel_rfl,by kernel_rfl,by kernel_rfl,by kernel_rfl⟩
noncomputable def Pz(x2 x3 bC eD:O)(h:J):ab:=
 ob x2 λa=>ob x3 λb=>ob bC λc=>ob eD λd=>some (.ret (.bm [a,b,c,d]),h)
def Wf(C:ad)(lf:Nat)(r:bo)(x0:O)(h:J):ab:=
 e9 0 x0 λa=>ob (bZ 0 a) λa=>e9 0 x0 λb=>e9 2 x0 λc=>e9 2 x0 λd=>ob x0 λg=>ob (bO a h) λi=>jX 41 i λi=>ob (bO c h) λj=>ob (bO d h) λm=>cM (C (.fn 30) [b] h) λb k=>dM (ey [(17,bU (some d)),(13,bU (some c)),(4,bU (some a))] h k [17,13,4]) (cM (C (.fn 84) [g] k) λg l=>dM (ey [(17,bU (some d)),(13,bU (some c)),(4,bU (some a))] k l [17,13,4]) (jX 33 g λa=>cn .sub 3 m a λa=>r (some i) (some b) (some j) (some a) l))
theorem ayH{r:bo}:∀F h,ar ab6 C lf [] F h ba (bj r 2 3 4 5) an=aM (Wf C lf r) 0 F h:=by
 intro F h;kernel_rfl
def IY(C:ad)(lf:Nat)(ah:U)(h:J):ab:=Wf C lf Pz (some ah) h
def ac8:cx ao:=hZ ab6 IY (λC lf ah h=>cS (K:=(bj Pz 2 3 4 5)) (by kernel_rfl) (Eq.trans (ayH _ h) (by kernel_rfl))) (by kernel_rfl)
def qQ:b1 ao:=dk 84 Tryd.f84 Tryd.func84 (by kernel_rfl)
noncomputable def H9(x2:O)(h:J):ab:=
 ob x2 λa=>some (.ret a,h)
noncomputable def Le(C:ad)(lf:Nat)(r:aw)(x3:O)(h:J):ab:=
 ob x3 λa=>r (some a) h
theorem ayT{r:aw}:∀F h,ar qQ C lf [1,1,1] F h ba (aM r 2) an=aM (Le C lf r) 3 F h:=by
 intro F h;kernel_rfl
def FD(C:ad)(lf:Nat)(n:bK)(av:aw)(x0 x3 bC:O)(h:J):ab:=
 ob bC λa=>dw 2 x0 h λb=>eH .leq 3 a b (dw 4 x0 h λa=>J6 308 0 a bC h λa=>gn a (ob x3 λa=>ob bC λb=>b2 (gp ao 33 1 [0] [b] h) λb k=>b2 (eX ao .append #[33,33] [a,b] k) λa k=>cB .add 3 bC (I 1) λb=>n x0 (some a) (some b) k) (cB .add 3 bC (I 1) λa=>n x0 x3 (some a) h)) (av x3 h)
theorem ayP{n:bK}{av:aw}:∀F h,ar qQ C lf [1,1,0,1,0,0] F h (bG n 0 3 4) a0 (bI 0 (aM av 3) an)=bG (FD C lf n av) 0 3 4 F h:=by
 intro F h;kernel_rfl
def BO(C:ad)(lf:Nat)(av:aw)(k:O×O×O->J->ab)(s:O×O×O)(h:J):ab:=
 FD C lf (λa b c=>k (a,b,c)) av s.1 s.2.1 s.2.2 h
def Wm(C:ad)(lf:Nat)(n:bK)(x0 x3:O)(h:J):ab:=
 n x0 x3 (bD 1) h
theorem ayQ{n:bK}:∀F h,ar qQ C lf [1,1,0,0] F h (bG n 0 3 4) a0 an=a7 (Wm C lf n) 0 3 F h:=by
 intro F h;kernel_rfl
def Wn(C:ad)(lf:Nat)(n:aw)(x0 x3:O)(h:J):ab:=
 Wm C lf (λa b c=>bk (BO C lf n) lf (a,b,c)) x0 x3 h
theorem ayR{n:aw}:∀F h,ar qQ C lf [1,1,0] F h (aM n 3) a0 an=a7 (Wn C lf n) 0 3 F h:=bg (b:=b7 qQ [1,1,0,1]) (by kernel_rfl) (fY (id:=0) (a:=b7 qQ [1,1,0,1,0]) (by kernel_rfl) (gJ (g:=λF=>(F 0,F 3,F 4)) (body:=BO C lf n) (by kernel_rfl) (λk=>(ayP (n:=λx0 x3 bC h=>k (x0,x3,bC) h))))) (ayQ (n:=λx0 x3 bC h=>bk (BO C lf n) lf (x0,x3,bC) h))
def Wo(C:ad)(lf:Nat)(r:aw)(x0 x3:O)(h:J):ab:=
 Wn C lf (Le C lf r) x0 x3 h
theorem ayS{r:aw}:∀F h,ar qQ C lf [1,1] F h ba (aM r 2) an=a7 (Wo C lf r) 0 3 F h:=bg (by kernel_rfl) ayT ayR
noncomputable def Wp(C:ad)(lf:Nat)(n:aS)(x0:O)(h:J):ab:=
 n x0 (some (.val (.slice none 0 0))) h
theorem ayU{n:aS}:∀F h,ar qQ C lf [1,0] F h (a7 n 0 3) a0 an=aM (Wp C lf n) 0 F h:=by
 intro F h;kernel_rfl
def Wq(C:ad)(lf:Nat)(r:aw)(x0:O)(h:J):ab:=
 Wp C lf (Wo C lf r) x0 h
theorem ayV{r:aw}:∀F h,ar qQ C lf [1] F h ba (aM r 2) an=aM (Wq C lf r) 0 F h:=bg (by kernel_rfl) ayS ayU
noncomputable def Wr(C:ad)(lf:Nat)(n:aw)(x0:O)(h:J):ab:=
 n x0 h
theorem ayW{n:aw}:∀F h,ar qQ C lf [0] F h (aM n 0) a0 an=aM (Wr C lf n) 0 F h:=by
 intro F h;kernel_rfl
def Ws(C:ad)(lf:Nat)(r:aw)(x0:O)(h:J):ab:=
 Wr C lf (Wq C lf r) x0 h
theorem ayX{r:aw}:∀F h,ar qQ C lf [] F h ba (aM r 2) an=aM (Ws C lf r) 0 F h:=bg (by kernel_rfl) ayV ayW
def I1(C:ad)(lf:Nat)(ah:U)(h:J):ab:=Ws C lf H9 (some ah) h
def ade:cx ao:=hZ qQ I1 (λC lf ah h=>cS (K:=(aM H9 2)) (by kernel_rfl) (Eq.trans (ayX _ h) (by kernel_rfl))) (by kernel_rfl)
def ab9:b1 ao:=dk 85 Tryd.f85 Tryd.func85 (by kernel_rfl)
noncomputable def PC(x2:O)(h:J):ab:=
 ob x2 λa=>some (.ret a,h)
def Wt(C:ad)(lf:Nat)(r:aw)(x0:O)(h:J):ab:=
 e9 0 x0 λa=>cJ C 32 [a] h λa=>r (some a)
theorem ayY{r:aw}:∀F h,ar ab9 C lf [] F h ba (aM r 2) an=aM (Wt C lf r) 0 F h:=by
 intro F h;kernel_rfl
def I2(C:ad)(lf:Nat)(ah:U)(h:J):ab:=Wt C lf PC (some ah) h
def adf:cx ao:=hZ ab9 I2 (λC lf ah h=>cS (K:=(aM PC 2)) (by kernel_rfl) (Eq.trans (ayY _ h) (by kernel_rfl))) (by kernel_rfl)
def abE:b1 ao:=dk 43 Tryd.f43 Tryd.func43 (by kernel_rfl)
noncomputable def O7(bC:O)(h:J):ab:=
 ob bC λa=>some (.ret a,h)
def UF(C:ad)(lf:Nat)(r:aw)(x0 x1:O)(h:J):ab:=
 ob x0 λa=>b2 (rJ ao 24 9 a h) λa k=>ob x1 λb=>b2 (rJ ao 24 9 b k) λb k=>cn .eql 9 a b λa=>r (some a) k
theorem awH{r:aw}:∀F h,ar abE C lf [] F h ba (aM r 4) an=a7 (UF C lf r) 0 1 F h:=by
 intro F h;kernel_rfl
def Iz(C:ad)(lf:Nat)(ah aj:U)(h:J):ab:=UF C lf O7 (some ah) (some aj) h
def acH:cx ao:=hr abE Iz (λC lf ah aj h=>cS (K:=(aM O7 4)) (by kernel_rfl) (Eq.trans (awH _ h) (by kernel_rfl))) (by kernel_rfl)
end
end Go.Proofs.YtomialandfplkaaDoor.Eva
namespace Go.Xe
def pop:Nat->Nat->Nat
 |0,_=>0
 |n+1,x=>x%2+pop n (x/2)
theorem CT{a c y d:Nat}(bV:a<256)(ae:c<256):(a+256*y)&&& (c+256*d)=(a&&& c)+256*(y&&& d):=by
 have h1:(a&&& c)<256:=Nat.lt_of_le_of_lt Nat.and_le_left bV;have e:((a+256*y)&&& (c+256*d))=256*(((a+256*y)&&& (c+256*d))/256)+((a+256*y)&&& (c+256*d))%256:=(Nat.div_add_mod _ _).symm
 have hdiv:((a+256*y)&&& (c+256*d))/256=y&&& d:=by
  have:=Nat.and_div_two_pow (a:=a+256*y) (b:=c+256*d) (n:=8)
  rw[show(2:Nat) ^ 8=256 from rfl] at this;rw[this,show(a+256*y)/256=y by omega,show(c+256*d)/256=d by omega]
 have Eh:((a+256*y)&&& (c+256*d))%256=a&&& c:=by
  have:=Nat.and_mod_two_pow (a:=a+256*y) (b:=c+256*d) (n:=8)
  rw[show(2:Nat) ^ 8=256 from rfl] at this;rw[this,show(a+256*y)%256=a by omega,show(c+256*d)%256=c by omega]
 rw[e,hdiv,Eh];omega
def rep(m:Nat):Nat->Nat
 |0=>0
 |n+1=>m+256*rep m n
def s1(M x:Nat):Nat:=(x/2&&& M)+(x&&& M)
def s2(M x:Nat):Nat:=(x/4&&& M)+(x&&& M)
def ea(M x:Nat):Nat:=(x/16+x)&&& M
def f8(a:Nat):Nat:=ea 15 (s2 51 (s1 85 a))
def lg:Nat->Nat->Nat
 |0,_=>0
 |n+1,x=>f8 (x%256)+256*lg n (x/256)
theorem arC:∀a,a<256->∀q,q<2->(a/2+128*q)&&& 85=a/2&&& 85:=by decide+kernel
theorem arD:∀a,a<256->∀q,q<4->(a/4+64*q)&&& 51=a/4&&& 51:=by decide+kernel
theorem aeX:∀a,a<256->s1 85 a<256:=by decide+kernel
theorem aeY:∀a,a<256->s2 51 (s1 85 a)<=68/\s2 51 (s1 85 a)%16<=4:=by decide+kernel
theorem arE:∀a,a<69->∀q,q<5->(a/16+a+16*q)&&& 15=(a/16+a)&&& 15:=by decide+kernel
theorem anY:∀a,a<256->f8 a=pop 8 a:=by decide+kernel
theorem wE:∀a,a<256->f8 a<=8:=by decide+kernel
theorem ah0{a y M:Nat}(bV:a<256):s1 (85+256*M) (a+256*y)=s1 85 a+256*s1 M y:=by
 unfold s1;have e:(a+256*y)/2=(a/2+128*(y%2))+256*(y/2):=by omega
 rw[e,CT (by omega) (by omega),CT bV (by omega),arC a bV _ (by omega)];omega
theorem ah2{a y M:Nat}(bV:a<256):s2 (51+256*M) (a+256*y)=s2 51 a+256*s2 M y:=by
 unfold s2;have e:(a+256*y)/4=(a/4+64*(y%4))+256*(y/4):=by omega
 rw[e,CT (by omega) (by omega),CT bV (by omega),arD a bV _ (by omega)];omega
theorem aCB{a y M:Nat}(bV:a<=68)(bb:y%16<=4):ea (15+256*M) (a+256*y)=ea 15 a+256*ea M y:=by
 unfold ea;have e:(a+256*y)/16+(a+256*y)=(a/16+a+16*(y%16))+256*(y/16+y):=by omega
 rw[e,CT (by omega) (by omega),arE a (by omega) _ (by omega)]
theorem aCA:∀n y,s2 (rep 51 n) (s1 (rep 85 n) y)%16<=4
 |0,y=>by simp[s2,s1,rep]
 |n+1,y=>by
  have e:y=y%256+256*(y/256):=by omega
  rw[e];simp only[rep];rw[ah0 (by omega),ah2 (aeX _ (by omega))]
  have:=(aeY (y%256) (by omega)).2
  omega
theorem ahX:∀n x,ea (rep 15 n) (s2 (rep 51 n) (s1 (rep 85 n) x))=lg n x
 |0,x=>by simp[ea,rep,lg]
 |n+1,x=>by
  have e:x=x%256+256*(x/256):=by omega
  have h1:ea (rep 15 (n+1)) (s2 (rep 51 (n+1)) (s1 (rep 85 (n+1)) (x%256+256*(x/256))))=f8 (x%256)+256*lg n (x/256):=by
   simp only[rep];rw[ah0 (by omega),ah2 (aeX _ (by omega)),aCB (aeY _ (by omega)).1 (aCA n _),ahX n];rfl
  rw[<- e] at h1;rw[h1];rfl
theorem af7(m:Nat):∀n x,pop (n+m) x=pop n (x%2 ^ n)+pop m (x/2 ^ n)
 |0,x=>by simp[pop]
 |n+1,x=>by
  have h:=af7 m n (x/2);rw[show n+1+m=(n+m)+1 by omega];simp only[pop];rw[h];have az:x%2 ^ (n+1)%2=x%2:=by rw[Nat.pow_succ,Nat.mul_comm];exact Nat.mod_mul_right_mod x 2 (2 ^ n)
  have ay:x%2 ^ (n+1)/2=x/2%2 ^ n:=by rw[Nat.pow_succ,Nat.mul_comm];exact Nat.mod_mul_right_div_self x 2 (2 ^ n)
  have b9:x/2/2 ^ n=x/2 ^ (n+1):=by rw[Nat.div_div_eq_div_mul,Nat.pow_succ,Nat.mul_comm]
  rw[az,ay,b9];omega
theorem xd(m x:Nat):pop (8+m) x=f8 (x%256)+pop m (x/256):=by
 rw[af7 m 8 x,show(2:Nat) ^ 8=256 from rfl,anY _ (by omega)]
theorem aj1(x:Nat):∃a b c d e f g i:Nat,a<=8/\b<=8/\c<=8/\d<=8/\e<=8/\f<=8/\g<=8/\i<=8/\
 lg 8 x=a+256*(b+256*(c+256*(d+256*(e+256*(f+256*(g+256*i))))))/\pop 64 x=a+b+c+d+e+f+g+i:=by
 refine⟨f8 (x%256),f8 (x/256%256),f8 (x/256/256%256),f8 (x/256/256/256%256),f8 (x/256/256/256/256%256),f8 (x/256/256/256/256/256%256),f8 (x/256/256/256/256/256/256%256),f8 (x/256/256/256/256/256/256/256%256),wE _ (Nat.mod_lt _ (by omega)),wE _ (Nat.mod_lt _ (by omega)),wE _ (Nat.mod_lt _ (by omega)),wE _ (Nat.mod_lt _ (by omega)),wE _ (Nat.mod_lt _ (by omega)),wE _ (Nat.mod_lt _ (by omega)),wE _ (Nat.mod_lt _ (by omega)),wE _ (Nat.mod_lt _ (by omega)),?_,?_⟩
 rotate_left
 ·rw[show(64:Nat)=8+56 from rfl,xd,show(56:Nat)=8+48 from rfl,xd,show(48:Nat)=8+40 from rfl,xd,show(40:Nat)=8+32 from rfl,xd,show(32:Nat)=8+24 from rfl,xd,
   show(24:Nat)=8+16 from rfl,xd,show(16:Nat)=8+8 from rfl,xd,show(8:Nat)=8+0 from rfl,xd]
  simp only[pop,Nat.add_zero,Nat.add_assoc]
 ·simp[lg]
def e2(x:Nat):Nat:=x+x/256
def mK(x:Nat):Nat:=x+x/65536
def pn(x:Nat):Nat:=x+x/4294967296
theorem aAW(u r:Nat)(hu:u<256):(u+256*r)/256=r:=by omega
theorem aAX(u r:Nat)(hu:u<65536):(u+65536*r)/65536=r:=by omega
theorem aAY(u r:Nat)(hu:u<4294967296):(u+4294967296*r)/4294967296=r:=by omega
theorem alz(a b c d e f g:Nat)(h1:a<=8)(h2:b<=8)(h3:c<=8)(aT:d<=8)(bz:e<=8)(bA:f<=8)(dN:g<=8):(a+b+c+d)+256*(b+c+d+e)+65536*((c+d+e+f)+256*(d+e+f+g))<4294967296:=by omega
theorem alA(a b c d e f g i:Nat)(h1:a<=8)(h2:b<=8)(h3:c<=8)(aT:d<=8)(bz:e<=8)(bA:f<=8)(dN:g<=8)(e0:i<=8):a+b+c+d+e+f+g+i<128:=by omega
theorem alB(a b c d e f g i:Nat)(h1:a<=8)(h2:b<=8)(h3:c<=8)(aT:d<=8)(bz:e<=8)(bA:f<=8)(dN:g<=8)(e0:i<=8):(a+256*(b+256*(c+256*(d+256*(e+256*(f+256*(g+256*i)))))))<2 ^ 60:=by omega
theorem asR(x:Nat):pn (mK (e2 (lg 8 x)))%128=pop 64 x/\lg 8 x<2 ^ 60:=by
 obtain⟨a,b,c,d,e,f,g,i,h1,h2,h3,aT,bz,bA,dN,e0,aY,aB⟩:=aj1 x;rw[aY,aB];clear aY aB;have k1:a<256:=Nat.lt_of_le_of_lt h1 (by decide);have k2:(a+b)+256*(b+c)<65536:=by clear aT bz bA dN e0 k1;omega
 have hG:=alz a b c d e f g h1 h2 h3 aT bz bA dN;have ow:=alA a b c d e f g i h1 h2 h3 aT bz bA dN e0;have aeU:=alB a b c d e f g i h1 h2 h3 aT bz bA dN e0;refine⟨?_,aeU⟩;clear aeU h1 h2 h3 aT bz bA dN e0
 have ee:e2 (a+256*(b+256*(c+256*(d+256*(e+256*(f+256*(g+256*i)))))))=((a+b)+256*(b+c))+65536*((c+d)+256*(d+e)+65536*((e+f)+256*(f+g)+65536*((g+i)+256*i))):=by
  unfold e2;rw[aAW a (b+256*(c+256*(d+256*(e+256*(f+256*(g+256*i)))))) k1];clear k1 k2 hG ow;omega
 have iI:mK (((a+b)+256*(b+c))+65536*((c+d)+256*(d+e)+65536*((e+f)+256*(f+g)+65536*((g+i)+256*i))))=
  ((a+b+c+d)+256*(b+c+d+e)+65536*((c+d+e+f)+256*(d+e+f+g)))+4294967296*((e+f+g+i)+256*(f+g+i)+65536*((g+i)+256*i)):=by
  unfold mK;rw[aAX ((a+b)+256*(b+c)) ((c+d)+256*(d+e)+65536*((e+f)+256*(f+g)+65536*((g+i)+256*i))) k2];clear k1 k2 hG ow ee;omega
 have Ot:pn (((a+b+c+d)+256*(b+c+d+e)+65536*((c+d+e+f)+256*(d+e+f+g)))+4294967296*((e+f+g+i)+256*(f+g+i)+65536*((g+i)+256*i)))=
  (a+b+c+d+e+f+g+i)+128*(2*(b+c+d+e+f+g+i)+512*((c+d+e+f)+256*(d+e+f+g)+((g+i)+256*i))+33554432*((e+f+g+i)+256*(f+g+i)+65536*((g+i)+256*i))):=by
  unfold pn;rw[aAY ((a+b+c+d)+256*(b+c+d+e)+65536*((c+d+e+f)+256*(d+e+f+g))) ((e+f+g+i)+256*(f+g+i)+65536*((g+i)+256*i)) hG];clear k1 k2 hG ow ee iI;omega
 rw[ee,iI,Ot,Nat.add_mul_mod_self_left];exact Nat.mod_eq_of_lt ow
theorem RQ:rep 85 8=6148914691236517205/\rep 51 8=3689348814741910323/\rep 15 8=1085102592571150095:=by decide
end Go.Xe
namespace Go.Proofs.YtomialandfplkaaDoor.Eva
open Go.Xe
noncomputable section
variable{C:ad}{lf:Nat}{ba a0 eA fz jU k3 q4 q5 q6 q7 q8 q9 q1 q2 q3:hp}{an:lj}
def oY:b1 ao:=dk 19 Tryd.f19 Tryd.func19 (by kernel_rfl)
noncomputable def H0(x2:O)(h:J):ab:=
 ob x2 λa=>some (.ret a,h)
noncomputable def Kz(C:ad)(lf:Nat)(r:aw)(x3:O)(h:J):ab:=
 ob x3 λa=>r (some a) h
theorem auK{r:aw}:∀F h,ar oY C lf [1,1,1,1] F h ba (aM r 2) an=aM (Kz C lf r) 3 F h:=by
 intro F h;kernel_rfl
def Fg(C:ad)(lf:Nat)(n:bK)(av:aw)(x0 x3 x12:O)(h:J):ab:=
 hC .lss 3 x12 (I 64) (ob x12 λa=>ob x3 λb=>e9 1 x0 λc=>ob (eu 64 1 c a) λa=>ob (bO a h) λa=>cJ C 65 [a] h λa k=>cn .sub 3 b a λa=>cB .add 3 x12 (I 1) λb=>n x0 (some a) (some b) k) (av x3 h)
theorem auE{n:bK}{av:aw}:∀F h,ar oY C lf [1,1,1,0,1,0,0] F h (bG n 0 3 12) a0 (bI 0 (aM av 3) an)=bG (Fg C lf n av) 0 3 12 F h:=by
 intro F h;kernel_rfl
def BF(C:ad)(lf:Nat)(av:aw)(k:O×O×O->J->ab)(s:O×O×O)(h:J):ab:=
 Fg C lf (λa b c=>k (a,b,c)) av s.1 s.2.1 s.2.2 h
def Tp(C:ad)(lf:Nat)(n:bK)(x0 x3:O)(h:J):ab:=
 n x0 x3 (bD 0) h
theorem auF{n:bK}:∀F h,ar oY C lf [1,1,1,0,0] F h (bG n 0 3 12) a0 an=a7 (Tp C lf n) 0 3 F h:=by
 intro F h;kernel_rfl
def Tq(C:ad)(lf:Nat)(n:aw)(x0 x3:O)(h:J):ab:=
 Tp C lf (λa b c=>bk (BF C lf n) lf (a,b,c)) x0 x3 h
theorem auG{n:aw}:∀F h,ar oY C lf [1,1,1,0] F h (aM n 3) a0 an=a7 (Tq C lf n) 0 3 F h:=bg (b:=b7 oY [1,1,1,0,1]) (by kernel_rfl) (fY (id:=0) (a:=b7 oY [1,1,1,0,1,0]) (by kernel_rfl) (gJ (g:=λF=>(F 0,F 3,F 12)) (body:=BF C lf n) (by kernel_rfl) (λk=>(auE (n:=λx0 x3 x12 h=>k (x0,x3,x12) h))))) (auF (n:=λx0 x3 x12 h=>bk (BF C lf n) lf (x0,x3,x12) h))
def Tr(C:ad)(lf:Nat)(r:aw)(x0 x3:O)(h:J):ab:=
 Tq C lf (Kz C lf r) x0 x3 h
theorem auH{r:aw}:∀F h,ar oY C lf [1,1,1] F h ba (aM r 2) an=a7 (Tr C lf r) 0 3 F h:=bg (by kernel_rfl) auK auG
def Ts(C:ad)(lf:Nat)(n:aS)(x0:O)(h:J):ab:=
 dw 0 x0 h λa=>n x0 (some a) h
theorem auI{n:aS}:∀F h,ar oY C lf [1,1,0] F h (a7 n 0 3) a0 an=aM (Ts C lf n) 0 F h:=by
 intro F h;kernel_rfl
def Tt(C:ad)(lf:Nat)(r:aw)(x0:O)(h:J):ab:=
 Ts C lf (Tr C lf r) x0 h
theorem auJ{r:aw}:∀F h,ar oY C lf [1,1] F h ba (aM r 2) an=aM (Tt C lf r) 0 F h:=bg (by kernel_rfl) auH auI
def Tu(C:ad)(lf:Nat)(n:aw)(r:aw)(x0:O)(h:J):ab:=
 aP C 63 x0 h λa k=>fM a (r (bD 0) k) (n x0 k)
theorem auL{n:aw}{r:aw}:∀F h,ar oY C lf [1,0] F h (aM n 0) (aM r 2) an=aM (Tu C lf n r) 0 F h:=by
 intro F h;kernel_rfl
def Tv(C:ad)(lf:Nat)(r:aw)(x0:O)(h:J):ab:=
 Tu C lf (Tt C lf r) r x0 h
theorem auM{r:aw}:∀F h,ar oY C lf [1] F h ba (aM r 2) an=aM (Tv C lf r) 0 F h:=bg (by kernel_rfl) auJ auL
noncomputable def Tw(C:ad)(lf:Nat)(n:aw)(x0:O)(h:J):ab:=
 n x0 h
theorem auN{n:aw}:∀F h,ar oY C lf [0] F h (aM n 0) a0 an=aM (Tw C lf n) 0 F h:=by
 intro F h;kernel_rfl
def Tx(C:ad)(lf:Nat)(r:aw)(x0:O)(h:J):ab:=
 Tw C lf (Tv C lf r) x0 h
theorem auO{r:aw}:∀F h,ar oY C lf [] F h ba (aM r 2) an=aM (Tx C lf r) 0 F h:=bg (by kernel_rfl) auM auN
def Il(C:ad)(lf:Nat)(ah:U)(h:J):ab:=Tx C lf H0 (some ah) h
def acu:cx ao:=hZ oY Il (λC lf ah h=>cS (K:=(aM H0 2)) (by kernel_rfl) (Eq.trans (auO _ h) (by kernel_rfl))) (by kernel_rfl)
def oZ:b1 ao:=dk 20 Tryd.f20 Tryd.func20 (by kernel_rfl)
noncomputable def H2(x2:O)(h:J):ab:=
 ob x2 λa=>some (.ret a,h)
noncomputable def KA(C:ad)(lf:Nat)(r:aw)(x3:O)(h:J):ab:=
 ob x3 λa=>r (some a) h
theorem auV{r:aw}:∀F h,ar oZ C lf [1,1,1,1] F h ba (aM r 2) an=aM (KA C lf r) 3 F h:=by
 intro F h;kernel_rfl
def Fh(C:ad)(lf:Nat)(n:bo)(av:aw)(x0 x3 x11 x12:O)(h:J):ab:=
 lb .lss 3 x12 x11 (ob x12 λa=>ob x0 λb=>cJ C 33 [b,a] h λb k=>gn b (ob x3 λb=>b2 (gp ao 33 1 [0] [a] k) λa k=>b2 (eX ao .append #[33,33] [b,a] k) λa k=>cB .add 3 x12 (I 1) λb=>n x0 (some a) x11 (some b) k) (cB .add 3 x12 (I 1) λa=>n x0 x3 x11 (some a) k)) (av x3 h)
theorem auP{n:bo}{av:aw}:∀F h,ar oZ C lf [1,1,1,0,1,0,0] F h (bj n 0 3 11 12) a0 (bI 0 (aM av 3) an)=bj (Fh C lf n av) 0 3 11 12 F h:=by
 intro F h;kernel_rfl
def BG(C:ad)(lf:Nat)(av:aw)(k:O×O×O×O->J->ab)(s:O×O×O×O)(h:J):ab:=
 Fh C lf (λa b c d=>k (a,b,c,d)) av s.1 s.2.1 s.2.2.1 s.2.2.2 h
def Ty(C:ad)(lf:Nat)(n:bo)(x0 x3:O)(h:J):ab:=
 dw 0 x0 h λa=>n x0 x3 (some a) (bD 0) h
theorem auQ{n:bo}:∀F h,ar oZ C lf [1,1,1,0,0] F h (bj n 0 3 11 12) a0 an=a7 (Ty C lf n) 0 3 F h:=by
 intro F h;kernel_rfl
def Tz(C:ad)(lf:Nat)(n:aw)(x0 x3:O)(h:J):ab:=
 Ty C lf (λa b c d=>bk (BG C lf n) lf (a,b,c,d)) x0 x3 h
theorem auR{n:aw}:∀F h,ar oZ C lf [1,1,1,0] F h (aM n 3) a0 an=a7 (Tz C lf n) 0 3 F h:=bg (b:=b7 oZ [1,1,1,0,1]) (by kernel_rfl) (fY (id:=0) (a:=b7 oZ [1,1,1,0,1,0]) (by kernel_rfl) (gJ (g:=λF=>(F 0,F 3,F 11,F 12)) (body:=BG C lf n) (by kernel_rfl) (λk=>(auP (n:=λx0 x3 x11 x12 h=>k (x0,x3,x11,x12) h))))) (auQ (n:=λx0 x3 x11 x12 h=>bk (BG C lf n) lf (x0,x3,x11,x12) h))
def TA(C:ad)(lf:Nat)(r:aw)(x0 x3:O)(h:J):ab:=
 Tz C lf (KA C lf r) x0 x3 h
theorem auS{r:aw}:∀F h,ar oZ C lf [1,1,1] F h ba (aM r 2) an=a7 (TA C lf r) 0 3 F h:=bg (by kernel_rfl) auV auR
noncomputable def TB(C:ad)(lf:Nat)(n:aS)(x0:O)(h:J):ab:=
 n x0 (some (.val (.slice none 0 0))) h
theorem auT{n:aS}:∀F h,ar oZ C lf [1,1,0] F h (a7 n 0 3) a0 an=aM (TB C lf n) 0 F h:=by
 intro F h;kernel_rfl
def TC(C:ad)(lf:Nat)(r:aw)(x0:O)(h:J):ab:=
 TB C lf (TA C lf r) x0 h
theorem auU{r:aw}:∀F h,ar oZ C lf [1,1] F h ba (aM r 2) an=aM (TC C lf r) 0 F h:=bg (by kernel_rfl) auS auT
def TD(C:ad)(lf:Nat)(n:aw)(r:aw)(x0:O)(h:J):ab:=
 aP C 63 x0 h λa k=>fM a (r (some (.val (.slice none 0 0))) k) (n x0 k)
theorem auW{n:aw}{r:aw}:∀F h,ar oZ C lf [1,0] F h (aM n 0) (aM r 2) an=aM (TD C lf n r) 0 F h:=by
 intro F h;kernel_rfl
def TE(C:ad)(lf:Nat)(r:aw)(x0:O)(h:J):ab:=
 TD C lf (TC C lf r) r x0 h
theorem auX{r:aw}:∀F h,ar oZ C lf [1] F h ba (aM r 2) an=aM (TE C lf r) 0 F h:=bg (by kernel_rfl) auU auW
noncomputable def TF(C:ad)(lf:Nat)(n:aw)(x0:O)(h:J):ab:=
 n x0 h
theorem auY{n:aw}:∀F h,ar oZ C lf [0] F h (aM n 0) a0 an=aM (TF C lf n) 0 F h:=by
 intro F h;kernel_rfl
def TG(C:ad)(lf:Nat)(r:aw)(x0:O)(h:J):ab:=
 TF C lf (TE C lf r) x0 h
theorem auZ{r:aw}:∀F h,ar oZ C lf [] F h ba (aM r 2) an=aM (TG C lf r) 0 F h:=bg (by kernel_rfl) auX auY
def Im(C:ad)(lf:Nat)(ah:U)(h:J):ab:=TG C lf H2 (some ah) h
def acv:cx ao:=hZ oZ Im (λC lf ah h=>cS (K:=(aM H2 2)) (by kernel_rfl) (Eq.trans (auZ _ h) (by kernel_rfl))) (by kernel_rfl)
def abY:b1 ao:=dk 65 Tryd.f65 Tryd.func65 (by kernel_rfl)
noncomputable def Pr(x2:O)(h:J):ab:=
 ob x2 λa=>some (.ret a,h)
def Vn(C:ad)(lf:Nat)(r:aw)(x0:O)(h:J):ab:=
 cB .shr 55 x0 (.int .u64 1) λa=>cn .and 55 a (.int .u64 6148914691236517205) λa=>cB .and 55 x0 (.int .u64 6148914691236517205) λb=>cn .add 55 a b λa=>cn .shr 55 a (.int .u64 2) λb=>cn .and 55 b (.int .u64 3689348814741910323) λb=>cn .and 55 a (.int .u64 3689348814741910323) λa=>cn .add 55 b a λa=>cn .shr 55 a (.int .u64 4) λb=>cn .add 55 b a λa=>cn .and 55 a (.int .u64 1085102592571150095) λa=>cn .shr 55 a (.int .u64 8) λb=>cn .add 55 a b λa=>cn .shr 55 a (.int .u64 16) λb=>cn .add 55 a b λa=>cn .shr 55 a (.int .u64 32) λb=>cn .add 55 a b λa=>ob (yq .i64 a) λa=>cn .and 3 a (I 127) λa=>r (some a) h
theorem axy{r:aw}:∀F h,ar abY C lf [] F h ba (aM r 2) an=aM (Vn C lf r) 0 F h:=by
 intro F h;kernel_rfl
def IM(C:ad)(lf:Nat)(ah:U)(h:J):ab:=Vn C lf Pr (some ah) h
def ac0:cx ao:=hZ abY IM (λC lf ah h=>cS (K:=(aM Pr 2)) (by kernel_rfl) (Eq.trans (axy _ h) (by kernel_rfl))) (by kernel_rfl)
end
end Go.Proofs.YtomialandfplkaaDoor.Eva
