import Derived.Test.YtgofkccnmmiciaaGreatDoorWFaultLegalm6
import Derived.Test.YtgofkccnmmiciaaGreatDoorFaFaultLegal
import Derived.Test.YtgofkccnmmiciaaGreatDoorFbFaultLegal
import Derived.Test.YtgofkccnmmiciaaGreatDoorFcFaultLegal
import Derived.Test.YtgofkccnmmiciaaGreatDoorFdFaultLegal
set_option linter.unusedSimpArgs false
set_option linter.unusedVariables false
namespace Go.Proofs.YtgofkccnmmiciaaGreatDoor.faultLegal
open Go.ChangeShapes Go.WideShapes Go.ChangeAt Go.RowKit Go.Xe Go.Proofs.YtgofkccnmmiciaaGreatDoor.Eva
theorem readable: ∀ t ∈ Tryz.f3.params.toList,Tryz.prog.readableRec t=true∧t < Tryz.prog.types.size:=by
 rw [Tryz.params3]
 intro t ht
 simp only [List.mem_cons,List.not_mem_nil,or_false] at ht
 rcases ht with rfl | rfl | rfl
 all_goals exact ⟨by kernel_rfl,of_decide_eq_true (by kernel_rfl)⟩
set_option maxRecDepth 100000 in
theorem contract(H:Type)(enc:TypeId × Value→H)(W:World)(base:Nat)(args:Array Value)(ds gs:List (DataW H))(before:List MemPlace)
 (hval: ∀ (j:Nat) t v,Tryz.f3.params[j]?=some t→args[j]?=some v→Value.okWide Tryz.prog W .any base t v)
 (hW:DataW.Whole enc Tryz.prog Tryz.f3.params.toList Rows.faultLegalSpec.vars false W args.toList ds gs before)
 (hz:(DataW.weightsEach Tryz.prog (Tryz.f3.params.toList++(OpenSpec.ofChange Rows.faultLegalSpec).bare.plain.varTypes Tryz.prog) (ds++gs)).all (· ≤reachBytes)=true)(hL:laidMetH Tryz.prog Rows.faultLegalRow.laid W):
 Calls Tryz.prog 3 args W fun e W'=> ∃ v,e= .returned v∧Rows.faultLegalSpec.post enc Tryz.prog Tryz.f3 false true false false W args v W':=by
 have hW':=hW
 obtain ⟨p,q,hA0,hV,rfl,hfz,hnd⟩:=hW
 have hA:DataW.TrodAll enc Tryz.prog W 0 (fun _=>true) true Tryz.f3.params.toList args.toList ds p:=hA0
 rw [Tryz.params3] at hA hz
 obtain ⟨v0,vs0,d0,ds0,p0,q0,hargs,rfl,rfl,h0,r0⟩:=trodAll_cons hA
 obtain ⟨v1,vs1,d1,ds1,p1,q1,rfl,rfl,rfl,h1,r1⟩:=trodAll_cons r0
 obtain ⟨v2,vs2,d2,ds2,p2,q2,rfl,rfl,rfl,h2,r2⟩:=trodAll_cons r1
 obtain ⟨rfl,rfl,rfl⟩:=trodAll_nil r2
 obtain rfl:args= #[v0,v1,v2]:=by cases args;simp_all
 obtain ⟨rfl,rfl⟩:=trodVars_none hV
 have k0:=hval 0 _ v0 (by rw [Tryz.params3];rfl) rfl
 obtain ⟨s0,rfl⟩:=Go.WideShapes.okWide_string Tryz.underlying9 k0
 have k1:=hval 1 _ v1 (by rw [Tryz.params3];rfl) rfl
 obtain ⟨n1,rfl,b1⟩:=int_arg Tryz.underlying3 k1 h1
 have k2:=hval 2 _ v2 (by rw [Tryz.params3];rfl) rfl
 obtain ⟨n2,rfl,b2⟩:=int_arg Tryz.underlying5 k2 h2
 obtain ⟨h',hm⟩:=mainP (w:=W) (hasTab_hw0 (k:= .u8) (zs:=zs) (by decide) (fun i hi=>(table hL).cell gTab i hi)) b1 b2
 refine (law_true (cs:=cons) (tab:=tabP) (lf:=LF) (fuel:=FUELP) mixed (y:=fy3) (argv:=[.string s0,.int .i64 n1,.int .u8 n2]) hm).mono fun e W' ⟨he,hb⟩=>?_
 subst he
 exact ⟨_,rfl,law_end (gs:=[]) hW' rfl (by kernel_rfl) Tryz.underlying4 rfl hb laidOut readable⟩
theorem laid_met(os:Os):laidMet Tryz.prog Rows.faultLegalRow.laid ((laidWorld os).forCall (fun _ _=>0) ⟨#[], #[.string .empty,.int .i64 0,.int .u8 0],[]⟩).memory:=
 laidMet_of_run' 8 (by kernel_rfl) (by kernel_rfl)
theorem reads(os:Os){H:Type}(enc:TypeId × Value→H): ∃ places,DataW.whole enc Tryz.prog ((laidWorld os).forCall (fun _ _=>0) ⟨#[], #[.string .empty,.int .i64 0,.int .u8 0],[]⟩).memory Tryz.f3.params.toList Rows.faultLegalSpec.vars false (#[.string .empty,.int .i64 0,.int .u8 0]:Array Value).toList 8=some ([.lit (.string []),.lit (.int .i64 0),.lit (.int .u8 0)],[],places):=
 ⟨[],by kernel_rfl⟩
set_option maxRecDepth 100000 in
theorem lifted(os:Os)(started:os.Started)(H:Type)(enc:TypeId × Value→H)(F:Stop.Interp):
 ReturnsInHanded {} Tryz.checked os 3 .any ((OpenSpec.ofChange Rows.faultLegalSpec).preRow enc Tryz.prog Tryz.f3 Rows.faultLegalRow.domain false Rows.faultLegalRow.laid) (((OpenSpec.ofChange Rows.faultLegalSpec).at F).post enc Tryz.prog Tryz.f3 false true false false):=by
 obtain ⟨places,hx⟩:=reads os enc
 refine returnsInHanded_of_row (C:=Tryz.checked) (s:=(OpenSpec.ofChange Rows.faultLegalSpec)) own started (by kernel_rfl) Tryz.func3
  (witness_row_at (enc:=enc) (C:=Tryz.checked) false (laidWorld os) #[.string .empty,.int .i64 0,.int .u8 0] rfl (by kernel_rfl) (by kernel_rfl) (by kernel_rfl)
    (OpenSpec.preRow_of_cond 8 hx (by kernel_rfl) (fun k hk=>by cases hk) (by kernel_rfl) (laid_met os))) ?_
 intro W base args ds gs before hval hW _ _ hz hL _ _
 exact contract H enc W base args ds gs before hval hW hz hL
theorem and2{a b:Bool}(h:a=true)(h':b=true):(a&&b)=true:=by rw [h,h'];rfl
set_option maxRecDepth 100000 in
theorem closed:joinedFacts Tryz.pinned.checked.prog 3 Tryz.f3 ((OpenSpec.ofChange Rows.faultLegalSpec)).bare Rows.faultLegalRow=true:=(and2 (and2 (and2 (and2 (and2 (and2 (and2 (and2 (and2 (and2 (and2 (and2 (and2 (and2 (and2 (and2 (and2 (and2 (and2 (and2 (and2 (and2 (and2 (and2 (and2 (and2 (and2 (and2 (and2 (and2 (and2 g0 g1) g2) g3) g4) g5) g6) g7) g8) g9) g10) g11) g12) g13) g14) g15) g16) g17) g18) g19) g20) g21) g22) g23) g24) g25) g26) g27) g28) g29) g30) g31)
theorem said:Rows.FaultLegalSaid:=
 OpenClaim.holds_of_cond 3 Tryz.f3 rfl rfl rfl rfl rfl rfl rfl ⟨rfl,rfl,rfl,rfl,rfl⟩ rfl rfl rfl rfl rfl named_at Tryz.func3 closed
  (of_decide_eq_true (by kernel_rfl)) (by unfold Func.isWrapper;first | (rw [if_pos (by decide+kernel)];kernel_rfl) | (rw [if_neg (by decide+kernel)];exact ⟨rfl,rfl⟩))
  (fun os started H enc _ F=>by rw [OpenClaim.pre_eq_preRow];exact lifted os started H enc F)
theorem plain(f:FuncId)(fn:Func)(hf:Tryz.pinned.checked.prog.funcNamed "tinsel/tinsellaw08.FaultLegal"=some f)(hfn:Tryz.pinned.checked.prog.funcs[f]?=some fn):
 true=Tryz.pinned.checked.prog.looks []∧ ∀ (j:Nat) t,fn.params[j]?=some t→Tryz.pinned.checked.prog.wantsStandIn t=false:=by
 obtain rfl:f=3:=Option.some.inj (named_at.symm.trans hf) |>.symm
 obtain rfl:fn=Tryz.f3:=(Option.some.inj (Tryz.func3.symm.trans hfn)).symm
 refine ⟨by kernel_rfl,fun j t ht=>?_⟩
 rw [Tryz.params3] at ht
 have hm:=Array.mem_of_getElem? ht
 simp only [List.mem_toArray,List.mem_cons,List.not_mem_nil,or_false] at hm
 rcases hm with rfl | rfl | rfl
 · exact (show Tryz.prog.wantsStandIn 9=false by kernel_rfl)
 · exact (show Tryz.prog.wantsStandIn 3=false by kernel_rfl)
 · exact (show Tryz.prog.wantsStandIn 5=false by kernel_rfl)
theorem card:Rows.FaultLegalCardSaid:=
 Claim7.holds_tied_plain_at .later [] _ _ _ _ said (fun _ h=>by cases h) (by kernel_rfl) (fun _ h=>by cases h) faultLegal_row_tie rfl ⟨rfl,rfl⟩ (by kernel_rfl) rfl plain (by kernel_rfl)
end Go.Proofs.YtgofkccnmmiciaaGreatDoor.faultLegal
