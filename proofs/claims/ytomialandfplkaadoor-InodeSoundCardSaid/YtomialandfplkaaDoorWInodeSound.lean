import Derived.Test.YtomialandfplkaaDoorWInodeSoundm7
import Derived.Test.YtomialandfplkaaDoorFaInodeSound
import Derived.Test.YtomialandfplkaaDoorFbInodeSound
import Derived.Test.YtomialandfplkaaDoorFcInodeSound
import Derived.Test.YtomialandfplkaaDoorFdInodeSound
set_option linter.unusedSimpArgs false
set_option linter.unusedVariables false
namespace Go.Proofs.YtomialandfplkaaDoor.inodeSound
section
open Go.ChangeShapes Go.WideShapes Go.ChangeAt Go.RowKit Go.Xe Go.Proofs.YtomialandfplkaaDoor.Eva
theorem readable:∀t∈Tryd.f11.params.toList,Tryd.prog.readableRec t=true/\t<Tryd.prog.types.size:=by
 rw[Tryd.params11];intro t aK;simp only[List.mem_cons,List.not_mem_nil,or_false] at aK;rcases aK with rfl|rfl|rfl
 all_goals exact⟨by kernel_rfl,of_decide_eq_true (by kernel_rfl)⟩
set_option maxRecDepth 100000 in
theorem akg(H:Type)(enc:TypeId×Value->H)(W:World)(base:Nat)(args:Array Value)(bg gs:List (DataW H))(before:List MemPlace)
 (rP:∀(j:Nat) t v,Tryd.f11.params[j]?=some t->args[j]?=some v->Value.okWide Tryd.prog W .any base t v)
 (mD:DataW.Whole enc Tryd.prog Tryd.f11.params.toList Rows.inodeSoundSpec.vars false W args.toList bg gs before)
 (a1:(DataW.weightsEach Tryd.prog (Tryd.f11.params.toList++(OpenSpec.ofChange Rows.inodeSoundSpec).bare.plain.varTypes Tryd.prog) (bg++gs)).all (· <=reachBytes)=true)(hS:laidMetH Tryd.prog Rows.inodeSoundRow.laid W):
 Calls Tryd.prog 11 args W λe W'=>∃v,e= .returned v/\Rows.inodeSoundSpec.post enc Tryd.prog Tryd.f11 false true false false W args v W':=by
 have ui:=mD;obtain⟨p,q,amp,Ak,rfl,oG,jn⟩:=mD;have sY:DataW.TrodAll enc Tryd.prog W 0 (λ_=>true) true Tryd.f11.params.toList args.toList bg p:=amp;rw[Tryd.params11] at sY a1;obtain⟨v0,aD4,d0,ua,aDZ,aD1,C8,rfl,rfl,h0,fU⟩:=trodAll_cons sY;obtain⟨v1,aD5,d1,YG,bQ,ei,rfl,rfl,rfl,h1,c5⟩:=trodAll_cons fU;obtain⟨v2,aD6,d2,akN,cn,fJ,rfl,rfl,rfl,h2,dM⟩:=trodAll_cons c5;obtain⟨rfl,rfl,rfl⟩:=trodAll_nil dM;obtain rfl:args= #[v0,v1,v2]:=by cases args;simp_all
 obtain⟨rfl,rfl⟩:=trodVars_none Ak;have n0:=rP 0 _ v0 (by rw[Tryd.params11];rfl) rfl;obtain⟨tm,rfl,qb⟩:=acx Tryd.underlying3 n0 h0;have k1:=rP 1 _ v1 (by rw[Tryd.params11];rfl) rfl;obtain⟨cI,rfl,bR⟩:=acx Tryd.underlying3 k1 h1;have k2:=rP 2 _ v2 (by rw[Tryd.params11];rfl) rfl;obtain⟨W1,fa,tK⟩:=aqa (j:=2) k2 h2 rfl rfl a1;obtain⟨h',hm⟩:=ape (w:=W) (amG (k:= .u8) (zs:=zs) (by decide) (λi hi=>(table hS).cell aba i hi)) qb bR fa tK;refine(aoU (cs:=cons) (tab:=wJ) (lf:=bt) (fuel:=WS) mixed (y:=Oq) (argv:=[.int .i64 tm,.int .i64 cI,v2]) hm).mono λe W' ⟨he,ag⟩=>?_
 subst he;exact⟨_,rfl,aoT (gs:=[]) ui rfl (by kernel_rfl) Tryd.underlying4 rfl ag laidOut readable⟩
theorem aoS(os:Os):laidMet Tryd.prog Rows.inodeSoundRow.laid ((Qm os).forCall (λ_ _=>0) ⟨#[], #[.int .i64 0,.int .i64 0,.slice none 0 0],[]⟩).memory:=
 laidMet_of_run' 8 (by kernel_rfl) (by kernel_rfl)
theorem reads(os:Os){H:Type}(enc:TypeId×Value->H):∃places,DataW.whole enc Tryd.prog ((Qm os).forCall (λ_ _=>0) ⟨#[], #[.int .i64 0,.int .i64 0,.slice none 0 0],[]⟩).memory Tryd.f11.params.toList Rows.inodeSoundSpec.vars false (#[.int .i64 0,.int .i64 0,.slice none 0 0]:Array Value).toList 8=some ([.lit (.int .i64 0),.lit (.int .i64 0),.nil],[],places):=
 ⟨[],by kernel_rfl⟩
set_option maxRecDepth 100000 in
theorem lifted(os:Os)(started:os.Started)(H:Type)(enc:TypeId×Value->H)(F:Stop.Interp):
 ReturnsInHanded {} Tryd.checked os 11 .any ((OpenSpec.ofChange Rows.inodeSoundSpec).preRow enc Tryd.prog Tryd.f11 Rows.inodeSoundRow.domain false Rows.inodeSoundRow.laid) (((OpenSpec.ofChange Rows.inodeSoundSpec).at F).post enc Tryd.prog Tryd.f11 false true false false):=by
 obtain⟨places,ao⟩:=reads os enc
 refine returnsInHanded_of_row (C:=Tryd.checked) (s:=(OpenSpec.ofChange Rows.inodeSoundSpec)) own started (by kernel_rfl) Tryd.func11
  (witness_row_at (enc:=enc) (C:=Tryd.checked) false (Qm os) #[.int .i64 0,.int .i64 0,.slice none 0 0] rfl (by kernel_rfl) (by kernel_rfl) (by kernel_rfl)
    (OpenSpec.preRow_of_cond 8 ao (by kernel_rfl) (λk ai=>by cases ai) (by kernel_rfl) (aoS os))) ?_
 intro W base args bg gs before rP mD _ _ a1 hS _ _;exact akg H enc W base args bg gs before rP mD a1 hS
theorem hx{a b:Bool}(h:a=true)(h':b=true):(a&&b)=true:=by rw[h,h'];rfl
set_option maxRecDepth 100000 in
theorem closed:joinedFacts Tryd.pinned.checked.prog 11 Tryd.f11 ((OpenSpec.ofChange Rows.inodeSoundSpec)).bare Rows.inodeSoundRow=true:=(hx (hx (hx (hx (hx (hx (hx (hx (hx (hx (hx (hx (hx (hx (hx (hx (hx (hx (hx (hx (hx (hx (hx (hx (hx (hx (hx (hx (hx (hx (hx g0 g1) g2) g3) g4) g5) g6) g7) g8) g9) g10) g11) g12) g13) g14) g15) g16) g17) g18) g19) g20) g21) g22) g23) g24) g25) g26) g27) g28) g29) g30) g31)
theorem said:Rows.InodeSoundSaid:=
 OpenClaim.holds_of_cond 11 Tryd.f11 rfl rfl rfl rfl rfl rfl rfl ⟨rfl,rfl,rfl,rfl,rfl⟩ rfl rfl rfl rfl rfl named_at Tryd.func11 closed
  (of_decide_eq_true (by kernel_rfl)) (by unfold Func.isWrapper;first|(rw[if_pos (by decide+kernel)];kernel_rfl)|(rw[if_neg (by decide+kernel)];exact⟨rfl,rfl⟩))
  (λos started H enc _ F=>by rw[OpenClaim.pre_eq_preRow];exact lifted os started H enc F)
theorem plain(f:FuncId)(fn:Func)(ak:Tryd.pinned.checked.prog.funcNamed "tinsel/tinsellaw02.InodeSound"=some f)(xZ:Tryd.pinned.checked.prog.funcs[f]?=some fn):
 false=Tryd.pinned.checked.prog.looks []/\∀(j:Nat) t,fn.params[j]?=some t->Tryd.pinned.checked.prog.wantsStandIn t=false:=by
 obtain rfl:f=11:=Option.some.inj (named_at.symm.trans ak) |>.symm
 obtain rfl:fn=Tryd.f11:=(Option.some.inj (Tryd.func11.symm.trans xZ)).symm;refine⟨by kernel_rfl,λj t aK=>?_⟩;rw[Tryd.params11] at aK;have hm:=Array.mem_of_getElem? aK;simp only[List.mem_toArray,List.mem_cons,List.not_mem_nil,or_false] at hm;rcases hm with rfl|rfl|rfl
 ·exact(show Tryd.prog.wantsStandIn 3=false by kernel_rfl)
 ·exact(show Tryd.prog.wantsStandIn 3=false by kernel_rfl)
 ·exact(show Tryd.prog.wantsStandIn 88=false by kernel_rfl)
theorem card:Rows.InodeSoundCardSaid:=
 Claim7.holds_tied_plain_at .later [] _ _ _ _ said (λ_ h=>by cases h) (by kernel_rfl) (λ_ h=>by cases h) inodeSound_row_tie rfl ⟨rfl,rfl⟩ (by kernel_rfl) rfl plain (by kernel_rfl)
end
end Go.Proofs.YtomialandfplkaaDoor.inodeSound
