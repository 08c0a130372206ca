import Derived.Test.YtomialandfplkaaDoorWInodeCopiesm7
import Derived.Test.YtomialandfplkaaDoorFaInodeCopies
import Derived.Test.YtomialandfplkaaDoorFbInodeCopies
import Derived.Test.YtomialandfplkaaDoorFcInodeCopies
import Derived.Test.YtomialandfplkaaDoorFdInodeCopies
set_option linter.unusedSimpArgs false
set_option linter.unusedVariables false
namespace Go.Proofs.YtomialandfplkaaDoor.inodeCopies
section
open Go.ChangeShapes Go.WideShapes Go.ChangeAt Go.RowKit Go.Xe Go.Proofs.YtomialandfplkaaDoor.Eva
theorem readable:∀t∈Tryd.f13.params.toList,Tryd.prog.readableRec t=true/\t<Tryd.prog.types.size:=by
 rw[Tryd.params13];intro t aN;simp only[List.mem_cons,List.not_mem_nil,or_false] at aN;rcases aN with rfl|rfl|rfl
 all_goals exact⟨by kernel_rfl,of_decide_eq_true (by kernel_rfl)⟩
set_option maxRecDepth 100000 in
theorem amL(H:Type)(enc:TypeId×Value->H)(W:World)(base:Nat)(args:Array Value)(bq gs:List (DataW H))(before:List MemPlace)
 (vj:∀(j:Nat) t v,Tryd.f13.params[j]?=some t->args[j]?=some v->Value.okWide Tryd.prog W .any base t v)
 (o4:DataW.Whole enc Tryd.prog Tryd.f13.params.toList Rows.inodeCopiesSpec.vars false W args.toList bq gs before)
 (aX:(DataW.weightsEach Tryd.prog (Tryd.f13.params.toList++(OpenSpec.ofChange Rows.inodeCopiesSpec).bare.plain.varTypes Tryd.prog) (bq++gs)).all (· <=reachBytes)=true)(hx:laidMetH Tryd.prog Rows.inodeCopiesRow.laid W):
 Calls Tryd.prog 13 args W λe W'=>∃v,e= .returned v/\Rows.inodeCopiesSpec.post enc Tryd.prog Tryd.f13 false true false false W args v W':=by
 have u5:=o4;obtain⟨p,q,ao1,Bf,rfl,o8,sg⟩:=o4;have tH:DataW.TrodAll enc Tryd.prog W 0 (λ_=>true) true Tryd.f13.params.toList args.toList bq p:=ao1;rw[Tryd.params13] at tH aX;obtain⟨v0,aHh,d0,u0,afY,aHd,DT,rfl,rfl,h0,gj⟩:=trodAll_cons tH;obtain⟨v1,aHi,d1,aaE,bM,dT,rfl,rfl,rfl,h1,dd⟩:=trodAll_cons gj;obtain⟨v2,aHj,d2,ano,cz,fA,rfl,rfl,rfl,h2,dy⟩:=trodAll_cons dd;obtain⟨rfl,rfl,rfl⟩:=trodAll_nil dy;obtain rfl:args= #[v0,v1,v2]:=by cases args;simp_all
 obtain⟨rfl,rfl⟩:=trodVars_none Bf;have ov:=vj 0 _ v0 (by rw[Tryd.params13];rfl) rfl;obtain⟨GM,MN,sY⟩:=R5 (j:=0) ov h0 rfl rfl aX;have k1:=vj 1 _ v1 (by rw[Tryd.params13];rfl) rfl;obtain⟨lk,ic,vP⟩:=R5 (j:=1) k1 h1 rfl rfl aX;have k2:=vj 2 _ v2 (by rw[Tryd.params13];rfl) rfl;obtain⟨YU,eY,uK⟩:=R5 (j:=2) k2 h2 rfl rfl aX;obtain⟨h',hm⟩:=arI (w:=W) (api (k:= .u8) (zs:=zs) (by decide) (λi hi=>(table hx).cell adx i hi)) MN sY ic vP eY uK;refine(aro (cs:=cons) (tab:=xC) (lf:=bh) (fuel:=YO) mixed (y:=PW) (argv:=[v0,v1,v2]) hm).mono λe W' ⟨he,ag⟩=>?_
 subst he;exact⟨_,rfl,arn (gs:=[]) u5 rfl (by kernel_rfl) Tryd.underlying4 rfl ag laidOut readable⟩
theorem arl(os:Os):laidMet Tryd.prog Rows.inodeCopiesRow.laid ((RD os).forCall (λ_ _=>0) ⟨#[], #[.slice none 0 0,.slice none 0 0,.slice none 0 0],[]⟩).memory:=
 laidMet_of_run' 8 (by kernel_rfl) (by kernel_rfl)
theorem reads(os:Os){H:Type}(enc:TypeId×Value->H):∃places,DataW.whole enc Tryd.prog ((RD os).forCall (λ_ _=>0) ⟨#[], #[.slice none 0 0,.slice none 0 0,.slice none 0 0],[]⟩).memory Tryd.f13.params.toList Rows.inodeCopiesSpec.vars false (#[.slice none 0 0,.slice none 0 0,.slice none 0 0]:Array Value).toList 8=some ([.nil,.nil,.nil],[],places):=
 ⟨[],by kernel_rfl⟩
set_option maxRecDepth 100000 in
theorem lifted(os:Os)(started:os.Started)(H:Type)(enc:TypeId×Value->H)(F:Stop.Interp):
 ReturnsInHanded {} Tryd.checked os 13 .any ((OpenSpec.ofChange Rows.inodeCopiesSpec).preRow enc Tryd.prog Tryd.f13 Rows.inodeCopiesRow.domain false Rows.inodeCopiesRow.laid) (((OpenSpec.ofChange Rows.inodeCopiesSpec).at F).post enc Tryd.prog Tryd.f13 false true false false):=by
 obtain⟨places,ax⟩:=reads os enc
 refine returnsInHanded_of_row (C:=Tryd.checked) (s:=(OpenSpec.ofChange Rows.inodeCopiesSpec)) own started (by kernel_rfl) Tryd.func13
  (witness_row_at (enc:=enc) (C:=Tryd.checked) false (RD os) #[.slice none 0 0,.slice none 0 0,.slice none 0 0] rfl (by kernel_rfl) (by kernel_rfl) (by kernel_rfl)
    (OpenSpec.preRow_of_cond 8 ax (by kernel_rfl) (λk ai=>by cases ai) (by kernel_rfl) (arl os))) ?_
 intro W base args bq gs before vj o4 _ _ aX hx _ _;exact amL H enc W base args bq gs before vj o4 aX hx
theorem hP{a b:Bool}(h:a=true)(h':b=true):(a&&b)=true:=by rw[h,h'];rfl
set_option maxRecDepth 100000 in
theorem closed:joinedFacts Tryd.pinned.checked.prog 13 Tryd.f13 ((OpenSpec.ofChange Rows.inodeCopiesSpec)).bare Rows.inodeCopiesRow=true:=(hP (hP (hP (hP (hP (hP (hP (hP (hP (hP (hP (hP (hP (hP (hP (hP (hP (hP (hP (hP (hP (hP (hP (hP (hP (hP (hP (hP (hP (hP (hP g0 g1) g2) g3) g4) g5) g6) g7) g8) g9) g10) g11) g12) g13) g14) g15) g16) g17) g18) g19) g20) g21) g22) g23) g24) g25) g26) g27) g28) g29) g30) g31)
theorem said:Rows.InodeCopiesSaid:=
 OpenClaim.holds_of_cond 13 Tryd.f13 rfl rfl rfl rfl rfl rfl rfl ⟨rfl,rfl,rfl,rfl,rfl⟩ rfl rfl rfl rfl rfl named_at Tryd.func13 closed
  (of_decide_eq_true (by kernel_rfl)) (by unfold Func.isWrapper;first|(rw[if_pos (by decide+kernel)];kernel_rfl)|(rw[if_neg (by decide+kernel)];exact⟨rfl,rfl⟩))
  (λos started H enc _ F=>by rw[OpenClaim.pre_eq_preRow];exact lifted os started H enc F)
theorem plain(f:FuncId)(fn:Func)(au:Tryd.pinned.checked.prog.funcNamed "tinsel/tinsellaw02.InodeCopies"=some f)(yW:Tryd.pinned.checked.prog.funcs[f]?=some fn):
 false=Tryd.pinned.checked.prog.looks []/\∀(j:Nat) t,fn.params[j]?=some t->Tryd.pinned.checked.prog.wantsStandIn t=false:=by
 obtain rfl:f=13:=Option.some.inj (named_at.symm.trans au) |>.symm
 obtain rfl:fn=Tryd.f13:=(Option.some.inj (Tryd.func13.symm.trans yW)).symm;refine⟨by kernel_rfl,λj t aN=>?_⟩;rw[Tryd.params13] at aN;have hm:=Array.mem_of_getElem? aN;simp only[List.mem_toArray,List.mem_cons,List.not_mem_nil,or_false] at hm;rcases hm with rfl|rfl|rfl
 ·exact(show Tryd.prog.wantsStandIn 88=false by kernel_rfl)
 ·exact(show Tryd.prog.wantsStandIn 88=false by kernel_rfl)
 ·exact(show Tryd.prog.wantsStandIn 88=false by kernel_rfl)
theorem card:Rows.InodeCopiesCardSaid:=
 Claim7.holds_tied_plain_at .later [] _ _ _ _ said (λ_ h=>by cases h) (by kernel_rfl) (λ_ h=>by cases h) inodeCopies_row_tie rfl ⟨rfl,rfl⟩ (by kernel_rfl) rfl plain (by kernel_rfl)
end
end Go.Proofs.YtomialandfplkaaDoor.inodeCopies
