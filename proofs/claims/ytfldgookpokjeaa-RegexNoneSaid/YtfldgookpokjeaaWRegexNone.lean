import Derived.Test.YtfldgookpokjeaaWRegexNonem5
import Derived.Test.YtfldgookpokjeaaFaRegexNone
import Derived.Test.YtfldgookpokjeaaFbRegexNone
import Derived.Test.YtfldgookpokjeaaFcRegexNone
import Derived.Test.YtfldgookpokjeaaFdRegexNone
set_option linter.unusedSimpArgs false
set_option linter.unusedVariables false
namespace Go.Proofs.Ytfldgookpokjeaa.regexNone
open Go.ChangeShapes Go.WideShapes Go.ChangeAt Go.RowKit Go.Xe Go.Proofs.Ytfldgookpokjeaa.Eva
theorem readable:∀t∈Try.f3.params.toList,Try.prog.readableRec t=true∧t<Try.prog.types.size:=by
 rw[Try.params3];intro t ht;simp only[List.mem_cons,List.not_mem_nil,or_false] at ht;rcases ht with rfl|rfl
 all_goals exact⟨by kernel_rfl,of_decide_eq_true (by kernel_rfl)⟩
set_option maxRecDepth 100000 in
theorem contract(H:Type)(enc:TypeId×Value→H)(W:World)(base:Nat)(args:Array Value)(ds gs:List (DataW H))(before:List MemPlace)
 (hval:∀(j:Nat) t v,Try.f3.params[j]?=some t→args[j]?=some v→Value.okWide Try.prog W .any base t v)
 (hW:DataW.Whole enc Try.prog Try.f3.params.toList Rows.regexNoneSpec.vars false W args.toList ds gs before)(hL:laidMetH Try.prog Rows.regexNoneRow.laid W):
 Calls Try.prog 3 args W fun e W'=>∃v,e= .returned v∧Rows.regexNoneSpec.post enc Try.prog Try.f3 false true false false W args v W':=by
 have hW':=hW;obtain⟨p,q,hA0,hV,rfl,hfz,hnd⟩:=hW;have hA:DataW.TrodAll enc Try.prog W 0 (fun _=>true) true Try.f3.params.toList args.toList ds p:=hA0;rw[Try.params3] at hA;obtain⟨v0,vs0,d0,ds0,p0,q0,hargs,rfl,rfl,h0,r0⟩:=trodAll_cons hA;obtain⟨v1,vs1,d1,ds1,p1,q1,rfl,rfl,rfl,h1,r1⟩:=trodAll_cons r0;obtain⟨rfl,rfl,rfl⟩:=trodAll_nil r1;obtain rfl:args= #[v0,v1]:=by cases args;simp_all
 obtain⟨rfl,rfl⟩:=trodVars_none hV;have k0:=hval 0 _ v0 (by rw[Try.params3];rfl) rfl;obtain⟨s0,rfl⟩:=Go.WideShapes.okWide_string Try.underlying9 k0;have k1:=hval 1 _ v1 (by rw[Try.params3];rfl) rfl;obtain⟨n1,rfl⟩:=Go.WideShapes.okWide_int Try.underlying3 k1;refine(says_trueY (args:=[.val (.string s0),.val (.int .i64 n1)]) (argv:=[.string s0,.int .i64 n1]) mixed (startT hL) (fun _=>⟨_,_,rfl,⟨_,_,rfl,rfl,rfl⟩,rfl⟩) (evalK s0 n1)).mono fun e W' ⟨he,hb⟩=>?_
 subst he;exact⟨_,rfl,law_end (gs:=[]) hW' rfl (by kernel_rfl) Try.underlying4 rfl hb laidOut readable⟩
theorem laid_met(os:Os):laidMet Try.prog Rows.regexNoneRow.laid ((laidWorld os).forCall (fun _ _=>0) ⟨#[], #[.string .empty,.int .i64 0],[]⟩).memory:=
 laidMet_of_run' 8 (by kernel_rfl) (by kernel_rfl)
theorem reads(os:Os){H:Type}(enc:TypeId×Value→H):∃places,DataW.whole enc Try.prog ((laidWorld os).forCall (fun _ _=>0) ⟨#[], #[.string .empty,.int .i64 0],[]⟩).memory Try.f3.params.toList Rows.regexNoneSpec.vars false (#[.string .empty,.int .i64 0]:Array Value).toList 8=some ([.lit (.string []),.lit (.int .i64 0)],[],places):=
 ⟨[],by kernel_rfl⟩
set_option maxRecDepth 100000 in
theorem lifted(os:Os)(started:os.Started)(H:Type)(enc:TypeId×Value→H)(F:Stop.Interp):
 ReturnsInHanded {} Try.checked os 3 .any ((OpenSpec.ofChange Rows.regexNoneSpec).preRow enc Try.prog Try.f3 Rows.regexNoneRow.domain false Rows.regexNoneRow.laid) (((OpenSpec.ofChange Rows.regexNoneSpec).at F).post enc Try.prog Try.f3 false true false false):=by
 obtain⟨places,hx⟩:=reads os enc
 refine returnsInHanded_of_row (C:=Try.checked) (s:=(OpenSpec.ofChange Rows.regexNoneSpec)) own started (by kernel_rfl) Try.func3
  (witness_row_at (enc:=enc) (C:=Try.checked) false (laidWorld os) #[.string .empty,.int .i64 0] rfl (by kernel_rfl) (by kernel_rfl) (by kernel_rfl)
    (OpenSpec.preRow_of_cond 8 hx (by kernel_rfl) (fun k hk=>by cases hk) (by kernel_rfl) (laid_met os))) ?_
 intro W base args ds gs before hval hW _ _ _ hL _ _;exact contract H enc W base args ds gs before hval hW hL
theorem and2{a b:Bool}(h:a=true)(h':b=true):(a&&b)=true:=by rw[h,h'];rfl
set_option maxRecDepth 100000 in
theorem closed:joinedFacts Try.pinned.checked.prog 3 Try.f3 ((OpenSpec.ofChange Rows.regexNoneSpec)).bare Rows.regexNoneRow=true:=(and2 (and2 (and2 (and2 (and2 (and2 (and2 (and2 (and2 (and2 (and2 (and2 (and2 (and2 (and2 (and2 (and2 (and2 (and2 (and2 (and2 (and2 (and2 (and2 (and2 (and2 (and2 (and2 (and2 (and2 (and2 g0 g1) g2) g3) g4) g5) g6) g7) g8) g9) g10) g11) g12) g13) g14) g15) g16) g17) g18) g19) g20) g21) g22) g23) g24) g25) g26) g27) g28) g29) g30) g31)
theorem said:Rows.RegexNoneSaid:=
 OpenClaim.holds_of_cond 3 Try.f3 rfl rfl rfl rfl rfl rfl rfl ⟨rfl,rfl,rfl,rfl,rfl⟩ rfl rfl rfl rfl rfl named_at Try.func3 closed
  (of_decide_eq_true (by kernel_rfl)) (by unfold Func.isWrapper;first|(rw[if_pos (by decide+kernel)];kernel_rfl)|(rw[if_neg (by decide+kernel)];exact⟨rfl,rfl⟩))
  (fun os started H enc _ F=>by rw[OpenClaim.pre_eq_preRow];exact lifted os started H enc F)
end Go.Proofs.Ytfldgookpokjeaa.regexNone
