import Derived.Test.YtomialandfplkaaDoorWInodeRunsm7
import Derived.Test.YtomialandfplkaaDoorFaInodeRuns
import Derived.Test.YtomialandfplkaaDoorFbInodeRuns
import Derived.Test.YtomialandfplkaaDoorFcInodeRuns
import Derived.Test.YtomialandfplkaaDoorFdInodeRuns
set_option linter.unusedSimpArgs false
set_option linter.unusedVariables false
namespace Go.Proofs.YtomialandfplkaaDoor.inodeRuns
section
open Go.ChangeShapes Go.WideShapes Go.ChangeAt Go.RowKit Go.Xe Go.Proofs.YtomialandfplkaaDoor.Eva
theorem readable:∀t∈Tryd.f12.params.toList,Tryd.prog.readableRec t=true/\t<Tryd.prog.types.size:=by
 rw[Tryd.params12];intro t aN;simp only[List.mem_cons,List.not_mem_nil,or_false] at aN;rcases aN with rfl|rfl|rfl
 all_goals exact⟨by kernel_rfl,of_decide_eq_true (by kernel_rfl)⟩
set_option maxRecDepth 100000 in
theorem alD(H:Type)(enc:TypeId×Value->H)(W:World)(base:Nat)(args:Array Value)(bh gs:List (DataW H))(before:List MemPlace)
 (r0:∀(j:Nat) t v,Tryd.f12.params[j]?=some t->args[j]?=some v->Value.okWide Tryd.prog W .any base t v)
 (oE:DataW.Whole enc Tryd.prog Tryd.f12.params.toList Rows.inodeRunsSpec.vars false W args.toList bh gs before)
 (a1:(DataW.weightsEach Tryd.prog (Tryd.f12.params.toList++(OpenSpec.ofChange Rows.inodeRunsSpec).bare.plain.varTypes Tryd.prog) (bh++gs)).all (· <=reachBytes)=true)(h8:laidMetH Tryd.prog Rows.inodeRunsRow.laid W):
 Calls Tryd.prog 12 args W λe W'=>∃v,e= .returned v/\Rows.inodeRunsSpec.post enc Tryd.prog Tryd.f12 false true false false W args v W':=by
 have uF:=oE;obtain⟨p,q,anN,AE,rfl,oJ,rU⟩:=oE;have tb:DataW.TrodAll enc Tryd.prog W 0 (λ_=>true) true Tryd.f12.params.toList args.toList bh p:=anN;rw[Tryd.params12] at tb a1;obtain⟨v0,aFE,d0,ux,ae0,aFC,Dm,rfl,rfl,h0,fW⟩:=trodAll_cons tb;obtain⟨v1,aFF,d1,ZA,bT,ej,rfl,rfl,rfl,h1,dc⟩:=trodAll_cons fW;obtain⟨v2,aFG,d2,ama,cm,fV,rfl,rfl,rfl,h2,du⟩:=trodAll_cons dc;obtain⟨rfl,rfl,rfl⟩:=trodAll_nil du;obtain rfl:args= #[v0,v1,v2]:=by cases args;simp_all
 obtain⟨rfl,rfl⟩:=trodVars_none AE;have n0:=r0 0 _ v0 (by rw[Tryd.params12];rfl) rfl;obtain⟨tC,rfl,qf⟩:=adB Tryd.underlying3 n0 h0;have k1:=r0 1 _ v1 (by rw[Tryd.params12];rfl) rfl;obtain⟨cH,rfl,bX⟩:=adB Tryd.underlying3 k1 h1;have k2:=r0 2 _ v2 (by rw[Tryd.params12];rfl) rfl;obtain⟨XW,e5,tY⟩:=arx (j:=2) k2 h2 rfl rfl a1;obtain⟨h',hm⟩:=aqx (w:=W) (an4 (k:= .u8) (zs:=zs) (by decide) (λi hi=>(table h8).cell acj i hi)) qf bX e5 tY;refine(aqe (cs:=cons) (tab:=wY) (lf:=bo) (fuel:=XO) mixed (y:=O1) (argv:=[.int .i64 tC,.int .i64 cH,v2]) hm).mono λe W' ⟨he,ag⟩=>?_
 subst he;exact⟨_,rfl,aqd (gs:=[]) uF rfl (by kernel_rfl) Tryd.underlying4 rfl ag laidOut readable⟩
theorem aqc(os:Os):laidMet Tryd.prog Rows.inodeRunsRow.laid ((Q1 os).forCall (λ_ _=>0) ⟨#[], #[.int .i64 0,.int .i64 0,.slice none 0 0],[]⟩).memory:=
 laidMet_of_run' 8 (by kernel_rfl) (by kernel_rfl)
theorem reads(os:Os){H:Type}(enc:TypeId×Value->H):∃places,DataW.whole enc Tryd.prog ((Q1 os).forCall (λ_ _=>0) ⟨#[], #[.int .i64 0,.int .i64 0,.slice none 0 0],[]⟩).memory Tryd.f12.params.toList Rows.inodeRunsSpec.vars false (#[.int .i64 0,.int .i64 0,.slice none 0 0]:Array Value).toList 8=some ([.lit (.int .i64 0),.lit (.int .i64 0),.nil],[],places):=
 ⟨[],by kernel_rfl⟩
set_option maxRecDepth 100000 in
theorem lifted(os:Os)(started:os.Started)(H:Type)(enc:TypeId×Value->H)(F:Stop.Interp):
 ReturnsInHanded {} Tryd.checked os 12 .any ((OpenSpec.ofChange Rows.inodeRunsSpec).preRow enc Tryd.prog Tryd.f12 Rows.inodeRunsRow.domain false Rows.inodeRunsRow.laid) (((OpenSpec.ofChange Rows.inodeRunsSpec).at F).post enc Tryd.prog Tryd.f12 false true false false):=by
 obtain⟨places,ar⟩:=reads os enc
 refine returnsInHanded_of_row (C:=Tryd.checked) (s:=(OpenSpec.ofChange Rows.inodeRunsSpec)) own started (by kernel_rfl) Tryd.func12
  (witness_row_at (enc:=enc) (C:=Tryd.checked) false (Q1 os) #[.int .i64 0,.int .i64 0,.slice none 0 0] rfl (by kernel_rfl) (by kernel_rfl) (by kernel_rfl)
    (OpenSpec.preRow_of_cond 8 ar (by kernel_rfl) (λk ai=>by cases ai) (by kernel_rfl) (aqc os))) ?_
 intro W base args bh gs before r0 oE _ _ a1 h8 _ _;exact alD H enc W base args bh gs before r0 oE a1 h8
theorem hI{a b:Bool}(h:a=true)(h':b=true):(a&&b)=true:=by rw[h,h'];rfl
set_option maxRecDepth 100000 in
theorem closed:joinedFacts Tryd.pinned.checked.prog 12 Tryd.f12 ((OpenSpec.ofChange Rows.inodeRunsSpec)).bare Rows.inodeRunsRow=true:=(hI (hI (hI (hI (hI (hI (hI (hI (hI (hI (hI (hI (hI (hI (hI (hI (hI (hI (hI (hI (hI (hI (hI (hI (hI (hI (hI (hI (hI (hI (hI g0 g1) g2) g3) g4) g5) g6) g7) g8) g9) g10) g11) g12) g13) g14) g15) g16) g17) g18) g19) g20) g21) g22) g23) g24) g25) g26) g27) g28) g29) g30) g31)
theorem said:Rows.InodeRunsSaid:=
 OpenClaim.holds_of_cond 12 Tryd.f12 rfl rfl rfl rfl rfl rfl rfl ⟨rfl,rfl,rfl,rfl,rfl⟩ rfl rfl rfl rfl rfl named_at Tryd.func12 closed
  (of_decide_eq_true (by kernel_rfl)) (by unfold Func.isWrapper;first|(rw[if_pos (by decide+kernel)];kernel_rfl)|(rw[if_neg (by decide+kernel)];exact⟨rfl,rfl⟩))
  (λos started H enc _ F=>by rw[OpenClaim.pre_eq_preRow];exact lifted os started H enc F)
theorem plain(f:FuncId)(fn:Func)(an:Tryd.pinned.checked.prog.funcNamed "tinsel/tinsellaw02.InodeRuns"=some f)(yk:Tryd.pinned.checked.prog.funcs[f]?=some fn):
 false=Tryd.pinned.checked.prog.looks []/\∀(j:Nat) t,fn.params[j]?=some t->Tryd.pinned.checked.prog.wantsStandIn t=false:=by
 obtain rfl:f=12:=Option.some.inj (named_at.symm.trans an) |>.symm
 obtain rfl:fn=Tryd.f12:=(Option.some.inj (Tryd.func12.symm.trans yk)).symm;refine⟨by kernel_rfl,λj t aN=>?_⟩;rw[Tryd.params12] at aN;have hm:=Array.mem_of_getElem? aN;simp only[List.mem_toArray,List.mem_cons,List.not_mem_nil,or_false] at hm;rcases hm with rfl|rfl|rfl
 ·exact(show Tryd.prog.wantsStandIn 3=false by kernel_rfl)
 ·exact(show Tryd.prog.wantsStandIn 3=false by kernel_rfl)
 ·exact(show Tryd.prog.wantsStandIn 88=false by kernel_rfl)
theorem card:Rows.InodeRunsCardSaid:=
 Claim7.holds_tied_plain_at .later [] _ _ _ _ said (λ_ h=>by cases h) (by kernel_rfl) (λ_ h=>by cases h) inodeRuns_row_tie rfl ⟨rfl,rfl⟩ (by kernel_rfl) rfl plain (by kernel_rfl)
end
end Go.Proofs.YtomialandfplkaaDoor.inodeRuns
