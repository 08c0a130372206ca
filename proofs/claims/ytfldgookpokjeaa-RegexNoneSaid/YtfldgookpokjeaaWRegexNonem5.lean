import Derived.Test.YtfldgookpokjeaaRows
import Derived.WalkKit
import Derived.ProofKit
import Derived.OpenShut
import Derived.Deep.DeepHandedRow
import Derived.Lib.LaidTab
import Derived.Test.YtfldgookpokjeaaWRegexNonem3
import Derived.Test.YtfldgookpokjeaaWRegexNonem2
import Derived.Test.YtfldgookpokjeaaWRegexNonem4
set_option linter.unusedSimpArgs false
set_option linter.unusedVariables false
namespace Go.Proofs.Ytfldgookpokjeaa.Eva
open Go.Xe
set_option maxRecDepth 100000
set_option linter.unusedVariables false
noncomputable def fx50:XF Try.prog:=⟨50,Try.f50,fun _=> .text,Try.func50,by kernel_rfl,by kernel_rfl,by kernel_rfl,by kernel_rfl⟩
noncomputable def ff50(x2:O)(h:HW):Rs:=
 ob x2 fun a0=>
 some (.ret a0,h)
noncomputable def q50_34(C:YC)(lf:Nat)(r:K1)(x0:O)(h:HW):Rs:=
 ob x0 fun a1=>
 ob (semNil a1) fun y2=>
 ob (fa 4 y2) fun y3=>
 ob (ld1 y3 h) fun y4=>
 ob (semBuild Try.prog 103 [0] [y4]) fun y5=>
 b2 (ybx 103 y5 h) fun y6 h6=>
 ob x0 fun a7=>
 ob (semNil a7) fun y8=>
 ob (fa 5 y8) fun y9=>
 ob (ld1 y9 h6) fun y10=>
 ob (bin Try.prog .add 3 y10 (.int .i64 1)) fun y11=>
 ob (semNil a7) fun y12=>
 ob (fa 5 y12) fun y13=>
 ob (st 1 y13 y11 h6) fun h14=>
 ob x0 fun a15=>
 bc (C (.fn 28) [a15] h14) fun y16 h16=>
 ob (semNil y6) fun y17=>
 ob (fa 1 y17) fun y18=>
 ob (st 1 y18 y16 h16) fun h19=>
 ob x0 fun a20=>
 ob (semNil a20) fun y21=>
 ob (fa 5 y21) fun y22=>
 ob (ld1 y22 h19) fun y23=>
 ob (bin Try.prog .sub 3 y23 (.int .i64 1)) fun y24=>
 ob (semNil a20) fun y25=>
 ob (fa 5 y25) fun y26=>
 ob (st 1 y26 y24 h19) fun h27=>
 ob x0 fun a28=>
 ob x0 fun a29=>
 bc (C (.fn 39) [a29] h27) fun y30 h30=>
 bc (C (.fn 34) [a28,y30] h30) fun y31 h31=>
 ob (unE .not y31) fun y32=>
 yIf y32
 (ob (semBuild Try.prog 89 [] []) fun y33=>
 yPan false [(.ifc 89 y33)] h31)
 (r (some (.ifc 101 y6)) h31)
theorem q50_34_eq(C:YC)(lf:Nat)(r:K1)(KN:KF)(KE:KX):∀F h,evX fx50 C lf [1,1,1] F h KN (fun F h=>r (F 2) h) KE=q50_34 C lf r (F 0) h:=by
 intro F h;kernel_rfl
noncomputable def q50_41(C:YC)(lf:Nat)(n:K1)(x0:O)(h:HW):Rs:=
 ob x0 fun a35=>
 ob (semNil a35) fun y36=>
 ob (fa 4 y36) fun y37=>
 ob (ld1 y37 h) fun y38=>
 ob (bin Try.prog .gtr 3 y38 (.int .i64 20)) fun y39=>
 yIf y39
 (ob (semBuild Try.prog 89 [] []) fun y40=>
 yPan false [(.ifc 89 y40)] h)
 (n x0 h)
theorem q50_41_eq(C:YC)(lf:Nat)(n:K1)(KR:KF)(KE:KX):∀F h,evX fx50 C lf [1,1,0] F h (fun F h=>n (F 0) h) KR KE=q50_41 C lf n (F 0) h:=by
 intro F h;kernel_rfl
noncomputable def q50_42(C:YC)(lf:Nat)(r:K1)(x0:O)(h:HW):Rs:=
 q50_41 C lf (fun x0 h=>q50_34 C lf r x0 h) x0 h
theorem q50_42_eq(C:YC)(lf:Nat)(r:K1)(KN:KF)(KE:KX):∀F h,evX fx50 C lf [1,1] F h KN (fun F h=>r (F 2) h) KE=q50_42 C lf r (F 0) h:=cSeq (a:=subX fx50 [1,1,0]) (b:=subX fx50 [1,1,1]) (by kernel_rfl) (B:=(fun F h=>q50_34 C lf r (F 0) h)) (q50_34_eq C lf r KN KE) (q50_41_eq C lf (fun x0 h=>q50_34 C lf r x0 h) (fun F h=>r (F 2) h) KE)
noncomputable def q50_51(C:YC)(lf:Nat)(n:K1)(x0:O)(h:HW):Rs:=
 ob x0 fun a43=>
 ob (semNil a43) fun y44=>
 ob (fa 4 y44) fun y45=>
 ob (ld1 y45 h) fun y46=>
 ob (bin Try.prog .add 3 y46 (.int .i64 1)) fun y47=>
 ob (semNil a43) fun y48=>
 ob (fa 4 y48) fun y49=>
 ob (st 1 y49 y47 h) fun h50=>
 n x0 h50
theorem q50_51_eq(C:YC)(lf:Nat)(n:K1)(KR:KF)(KE:KX):∀F h,evX fx50 C lf [1,0] F h (fun F h=>n (F 0) h) KR KE=q50_51 C lf n (F 0) h:=by
 intro F h;kernel_rfl
noncomputable def q50_52(C:YC)(lf:Nat)(r:K1)(x0:O)(h:HW):Rs:=
 q50_51 C lf (fun x0 h=>q50_42 C lf r x0 h) x0 h
theorem q50_52_eq(C:YC)(lf:Nat)(r:K1)(KN:KF)(KE:KX):∀F h,evX fx50 C lf [1] F h KN (fun F h=>r (F 2) h) KE=q50_52 C lf r (F 0) h:=cSeq (a:=subX fx50 [1,0]) (b:=subX fx50 [1,1]) (by kernel_rfl) (B:=(fun F h=>q50_42 C lf r (F 0) h)) (q50_42_eq C lf r KN KE) (q50_51_eq C lf (fun x0 h=>q50_42 C lf r x0 h) (fun F h=>r (F 2) h) KE)
noncomputable def q50_53(C:YC)(lf:Nat)(n:K1)(x0:O)(h:HW):Rs:=
 n x0 h
theorem q50_53_eq(C:YC)(lf:Nat)(n:K1)(KR:KF)(KE:KX):∀F h,evX fx50 C lf [0] F h (fun F h=>n (F 0) h) KR KE=q50_53 C lf n (F 0) h:=by
 intro F h;kernel_rfl
noncomputable def q50_54(C:YC)(lf:Nat)(r:K1)(x0:O)(h:HW):Rs:=
 q50_53 C lf (fun x0 h=>q50_52 C lf r x0 h) x0 h
theorem q50_54_eq(C:YC)(lf:Nat)(r:K1)(KN:KF)(KE:KX):∀F h,evX fx50 C lf [] F h KN (fun F h=>r (F 2) h) KE=q50_54 C lf r (F 0) h:=cSeq (a:=subX fx50 [0]) (b:=subX fx50 [1]) (by kernel_rfl) (B:=(fun F h=>q50_52 C lf r (F 0) h)) (q50_52_eq C lf r KN KE) (q50_53_eq C lf (fun x0 h=>q50_52 C lf r x0 h) (fun F h=>r (F 2) h) KE)
noncomputable def fs50(C:YC)(lf:Nat)(a0:SV)(h:HW):Rs:=q50_54 C lf ff50 (some a0) h
theorem fs50_eq(C:YC)(lf:Nat)(a0:SV)(h:HW):yFn Try.prog fx50 C lf [a0] h=fs50 C lf a0 h:=fnX (K:=(fun F h=>ff50 (F 2) h)) (by kernel_rfl) (((q50_54_eq C lf ff50 (fun F h=>ff50 (F 2) h) (fun _ _ _=>none)) _ h).trans (by kernel_rfl))
noncomputable def fy50:YX Try.prog:=Y1 fx50 fs50 fs50_eq (by kernel_rfl)
noncomputable def fx52:XF Try.prog:=⟨52,Try.f52,fun _=> .text,Try.func52,by kernel_rfl,by kernel_rfl,by kernel_rfl,by kernel_rfl⟩
noncomputable def ff52(x4:O)(h:HW):Rs:=
 ob x4 fun a0=>
 some (.ret a0,h)
noncomputable def q52_10(C:YC)(lf:Nat)(r:K1)(x0 x1:O)(h:HW):Rs:=
 ob (semBuild Try.prog 98 [] []) fun y1=>
 b2 (ybx 98 y1 h) fun y2 h2=>
 ob x1 fun a3=>
 ob (semNil y2) fun y4=>
 ob (fa 0 y4) fun y5=>
 ob (ixA 256 1 y5 a3) fun y6=>
 ob (st 1 y6 (.bool true) h2) fun h7=>
 ob x0 fun a8=>
 bc (C (.fn 59) [a8,y2] h7) fun y9 h9=>
 r (some y2) h9
theorem q52_10_eq(C:YC)(lf:Nat)(r:K1)(KN:KF)(KE:KX):∀F h,evX fx52 C lf [] F h KN (fun F h=>r (F 4) h) KE=q52_10 C lf r (F 0) (F 1) h:=by
 intro F h;kernel_rfl
noncomputable def fs52(C:YC)(lf:Nat)(a0 a1:SV)(h:HW):Rs:=q52_10 C lf ff52 (some a0) (some a1) h
theorem fs52_eq(C:YC)(lf:Nat)(a0 a1:SV)(h:HW):yFn Try.prog fx52 C lf [a0,a1] h=fs52 C lf a0 a1 h:=fnX (K:=(fun F h=>ff52 (F 4) h)) (by kernel_rfl) (((q52_10_eq C lf ff52 (fun F h=>ff52 (F 4) h) (fun _ _ _=>none)) _ h).trans (by kernel_rfl))
noncomputable def fy52:YX Try.prog:=Y2 fx52 fs52 fs52_eq (by kernel_rfl)
noncomputable def fx53:XF Try.prog:=⟨53,Try.f53,fun _=> .text,Try.func53,by kernel_rfl,by kernel_rfl,by kernel_rfl,by kernel_rfl⟩
noncomputable def ff53(x6:O)(h:HW):Rs:=
 ob x6 fun a0=>
 some (.ret a0,h)
noncomputable def q53_70(C:YC)(lf:Nat)(r:K1)(x0 x1 x2:O)(h:HW):Rs:=
 ob x0 fun a1=>
 ob (semAssert Try.prog a1 109 true) fun y2=>
 ob (ext 0 y2) fun y3=>
 ob (ext 1 y2) fun y4=>
 ob (unE .not y4) fun y5=>
 bcn (gd false (some y5) (some (.ret y3,h)) h) fun y6 h6=>
 bcn (gd false (some y5) (ob (semNil y6) fun y7=>
 some (.ret y7,h6)) h6) fun y8 h8=>
 bcn (gd false (some y5) (ob (fa 1 y8) fun y9=>
 some (.ret y9,h8)) h8) fun y10 h10=>
 bcn (gd false (some y5) (ob (ld1 y10 h10) fun y11=>
 some (.ret y11,h10)) h10) fun y12 h12=>
 bcn (gd false (some y5) (ob (bin Try.prog .gtr 3 y12 (.int .i64 1)) fun y13=>
 some (.ret y13,h12)) h12) fun y14 h14=>
 ob (ypk y5 (.bool true) y14) fun y15=>
 bcn (gd false (some y15) (some (.ret y3,h14)) h14) fun y16 h16=>
 bcn (gd false (some y15) (ob (semNil y16) fun y17=>
 some (.ret y17,h16)) h16) fun y18 h18=>
 bcn (gd false (some y15) (ob (fa 2 y18) fun y19=>
 some (.ret y19,h18)) h18) fun y20 h20=>
 bcn (gd false (some y15) (ob (ld1 y20 h20) fun y21=>
 some (.ret y21,h20)) h20) fun y22 h22=>
 bcn (gd false (some y15) (ob (bin Try.prog .gtr 3 y22 (.int .i64 1)) fun y23=>
 some (.ret y23,h22)) h22) fun y24 h24=>
 ob (ypk y15 (.bool true) y24) fun y25=>
 bcn (gd false (some y25) (some (.ret y3,h24)) h24) fun y26 h26=>
 bcn (gd false (some y25) (ob (semNil y26) fun y27=>
 some (.ret y27,h26)) h26) fun y28 h28=>
 bcn (gd false (some y25) (ob (fa 1 y28) fun y29=>
 some (.ret y29,h28)) h28) fun y30 h30=>
 bcn (gd false (some y25) (ob (ld1 y30 h30) fun y31=>
 some (.ret y31,h30)) h30) fun y32 h32=>
 bcn (gd false (some y25) (some (.ret y3,h32)) h32) fun y33 h33=>
 bcn (gd false (some y25) (ob (semNil y33) fun y34=>
 some (.ret y34,h33)) h33) fun y35 h35=>
 bcn (gd false (some y25) (ob (fa 2 y35) fun y36=>
 some (.ret y36,h35)) h35) fun y37 h37=>
 bcn (gd false (some y25) (ob (ld1 y37 h37) fun y38=>
 some (.ret y38,h37)) h37) fun y39 h39=>
 bcn (gd false (some y25) (ob (bin Try.prog .eql 3 y32 y39) fun y40=>
 some (.ret y40,h39)) h39) fun y41 h41=>
 ob (ypk y25 (.bool true) y41) fun y42=>
 yIf y42
 (ob x0 fun a43=>
 ob x1 fun a44=>
 ob x2 fun a45=>
 ob (semBuild Try.prog 112 [0,1,2] [a43,a44,a45]) fun y46=>
 b2 (ybx 112 y46 h41) fun y47 h47=>
 r (some (.ifc 109 y47)) h47)
 (ob (semNil y3) fun y48=>
 ob (fa 0 y48) fun y49=>
 ob (ld1 y49 h41) fun y50=>
 ob (semNil y3) fun y51=>
 ob (fa 1 y51) fun y52=>
 ob (ld1 y52 h41) fun y53=>
 ob x1 fun a54=>
 b2 (ybl Try.prog .min #[3,3] [y53,a54] h41) fun y55 h55=>
 ob (semBuild Try.prog 112 [0,1,2] [y50,y55,(.int .i64 (-1))]) fun y56=>
 b2 (ybx 112 y56 h55) fun y57 h57=>
 ob (semNil y3) fun y58=>
 ob (fa 2 y58) fun y59=>
 ob (ld1 y59 h57) fun y60=>
 ob (bin Try.prog .eql 3 y60 (.int .i64 1)) fun y61=>
 bc (gd true (some y61) (ob x2 fun a62=>
 some (.ret a62,h57)) h57) fun y63 h63=>
 bc (gd true (some y61) (ob (bin Try.prog .eql 3 y63 (.int .i64 1)) fun y64=>
 some (.ret y64,h63)) h63) fun y65 h65=>
 ob (ypk y61 y65 (.bool false)) fun y66=>
 yIf y66
 (ob (semNil y57) fun y67=>
 ob (fa 2 y67) fun y68=>
 ob (st 1 y68 (.int .i64 1) h65) fun h69=>
 r (some (.ifc 109 y57)) h69)
 (r (some (.ifc 109 y57)) h65))
theorem q53_70_eq(C:YC)(lf:Nat)(r:K1)(KN:KF)(KE:KX):∀F h,evX fx53 C lf [] F h KN (fun F h=>r (F 6) h) KE=q53_70 C lf r (F 0) (F 1) (F 2) h:=by
 intro F h;kernel_rfl
noncomputable def fs53(C:YC)(lf:Nat)(a0 a1 a2:SV)(h:HW):Rs:=q53_70 C lf ff53 (some a0) (some a1) (some a2) h
theorem fs53_eq(C:YC)(lf:Nat)(a0 a1 a2:SV)(h:HW):yFn Try.prog fx53 C lf [a0,a1,a2] h=fs53 C lf a0 a1 a2 h:=fnX (K:=(fun F h=>ff53 (F 6) h)) (by kernel_rfl) (((q53_70_eq C lf ff53 (fun F h=>ff53 (F 6) h) (fun _ _ _=>none)) _ h).trans (by kernel_rfl))
noncomputable def fy53:YX Try.prog:=Y3 fx53 fs53 fs53_eq (by kernel_rfl)
noncomputable def fx55:XF Try.prog:=⟨55,Try.f55,fun _=> .text,Try.func55,by kernel_rfl,by kernel_rfl,by kernel_rfl,by kernel_rfl⟩
noncomputable def ff55(x2 x3:O)(h:HW):Rs:=
 ob x2 fun a0=>
 ob x3 fun a1=>
 some (.ret (.tup [a0,a1]),h)
noncomputable def q55_6(C:YC)(lf:Nat)(r:K2)(x4 x5:O)(h:HW):Rs:=
 ob x4 fun a2=>
 ob (ld1 a2 h) fun y3=>
 ob x5 fun a4=>
 ob (ld1 a4 h) fun y5=>
 r (some y3) (some y5) h
theorem q55_6_eq(C:YC)(lf:Nat)(r:K2)(KN:KF)(KE:KX):∀F h,evX fx55 C lf [1,1,1,1] F h KN (fun F h=>r (F 2) (F 3) h) KE=q55_6 C lf r (F 4) (F 5) h:=by
 intro F h;kernel_rfl
noncomputable def q55_24(C:YC)(lf:Nat)(n:K2)(x4 x5 x6 x19:O)(h:HW):Rs:=
 ob x19 fun a7=>
 ob x6 fun a8=>
 ob (semNil a7) fun y9=>
 ob (fa 0 y9) fun y10=>
 ob (ld1 y10 h) fun y11=>
 ob (semNil a7) fun y12=>
 ob (fa 0 y12) fun y13=>
 ob (ld1 y13 h) fun y14=>
 cv true C a8 [y11,y14] h fun y15 h15=>
 ob x6 fun a16=>
 ob (semNil a7) fun y17=>
 ob (fa 1 y17) fun y18=>
 ob (ld1 y18 h15) fun y19=>
 bc (C (.fn 55) [y19] h15) fun y20 h20=>
 ob (ext 0 y20) fun y21=>
 ob (ext 1 y20) fun y22=>
 cv false C a16 [y21,y22] h20 fun y23 h23=>
 n x4 x5 h23
theorem q55_24_eq(C:YC)(lf:Nat)(n:K2)(KR:KF)(K0:KF)(KE:KX):∀F h,evX fx55 C lf [1,1,1,0,1,0,1,0] F h (fun F h=>n (F 4) (F 5) h) KR (bk 0 K0 KE)=q55_24 C lf n (F 4) (F 5) (F 6) (F 19) h:=by
 intro F h;kernel_rfl
noncomputable def q55_40(C:YC)(lf:Nat)(n:K6)(e1:K2)(x4 x5 x6 x42 x43 x44:O)(h:HW):Rs:=
 ob x44 fun a26=>
 ob x43 fun a27=>
 ob (bin Try.prog .lss 3 a26 a27) fun y28=>
 yIf y28
 (ob x42 fun a29=>
 ob x44 fun a30=>
 ob (ixS 1 a29 a30) fun y31=>
 ob (ld1 y31 h) fun y32=>
 ob x6 fun a33=>
 bc (C (.fn 55) [y32] h) fun y34 h34=>
 ob (ext 0 y34) fun y35=>
 ob (ext 1 y34) fun y36=>
 cv false C a33 [y35,y36] h34 fun y37 h37=>
 ob x44 fun a38=>
 ob (bin Try.prog .add 3 a38 (.int .i64 1)) fun y39=>
 n x4 x5 x6 x42 x43 (some y39) h37)
 (e1 x4 x5 h)
theorem q55_40_eq(C:YC)(lf:Nat)(n:K6)(e1:K2)(KR:KF)(K0:KF)(KE:KX):∀F h,evX fx55 C lf [1,1,1,0,1,0,1,1,1,0,1,1,0,0] F h (fun F h=>n (F 4) (F 5) (F 6) (F 42) (F 43) (F 44) h) KR (bk 1 (fun F h=>e1 (F 4) (F 5) h) (bk 0 K0 KE))=q55_40 C lf n e1 (F 4) (F 5) (F 6) (F 42) (F 43) (F 44) h:=by
 intro F h;kernel_rfl
noncomputable def l55_25(C:YC)(lf:Nat)(e1:K2)(k:O×O×O×O×O×O→HW→Rs)(s:O×O×O×O×O×O)(h:HW):Rs:=
 q55_40 C lf (fun x4 x5 x6 x42 x43 x44 h=>k (x4,x5,x6,x42,x43,x44) h) e1 s.1 s.2.1 s.2.2.1 s.2.2.2.1 s.2.2.2.2.1 s.2.2.2.2.2 h
noncomputable def q55_43(C:YC)(lf:Nat)(n:K6)(x4 x5 x6 x8:O)(h:HW):Rs:=
 ob x8 fun a41=>
 ob (lenE Try.prog 106 a41) fun y42=>
 n x4 x5 x6 (some a41) (some y42) (some (.int .i64 0)) h
theorem q55_43_eq(C:YC)(lf:Nat)(n:K6)(KR:KF)(K0:KF)(KE:KX):∀F h,evX fx55 C lf [1,1,1,0,1,0,1,1,1,0,1,0] F h (fun F h=>n (F 4) (F 5) (F 6) (F 42) (F 43) (F 44) h) KR (bk 0 K0 KE)=q55_43 C lf n (F 4) (F 5) (F 6) (F 8) h:=by
 intro F h;kernel_rfl
noncomputable def q55_44(C:YC)(lf:Nat)(n:K2)(x4 x5 x6 x8:O)(h:HW):Rs:=
 q55_43 C lf (fun x4 x5 x6 x42 x43 x44 h=>lp (l55_25 C lf n) lf (x4,x5,x6,x42,x43,x44) h) x4 x5 x6 x8 h
theorem q55_44_eq(C:YC)(lf:Nat)(n:K2)(KR:KF)(K0:KF)(KE:KX):∀F h,evX fx55 C lf [1,1,1,0,1,0,1,1,1,0,1] F h (fun F h=>n (F 4) (F 5) h) KR (bk 0 K0 KE)=q55_44 C lf n (F 4) (F 5) (F 6) (F 8) h:=cSeq (a:=subX fx55 [1,1,1,0,1,0,1,1,1,0,1,0]) (b:=subX fx55 [1,1,1,0,1,0,1,1,1,0,1,1]) (by kernel_rfl) (B:=(fun F h=>lp (l55_25 C lf n) lf ((F 4),(F 5),(F 6),(F 42),(F 43),(F 44)) h)) (cBlock (id:=1) (a:=subX fx55 [1,1,1,0,1,0,1,1,1,0,1,1,0]) (by kernel_rfl) (cLoop (a:=subX fx55 [1,1,1,0,1,0,1,1,1,0,1,1,0,0]) (g:=fun F=>(F 4,F 5,F 6,F 42,F 43,F 44)) (body:=l55_25 C lf n) (by kernel_rfl) (fun k=>(q55_40_eq C lf (fun x4 x5 x6 x42 x43 x44 h=>k (x4,x5,x6,x42,x43,x44) h) n KR K0 KE)))) (q55_43_eq C lf (fun x4 x5 x6 x42 x43 x44 h=>lp (l55_25 C lf n) lf (x4,x5,x6,x42,x43,x44) h) KR K0 KE)
noncomputable def q55_46(C:YC)(lf:Nat)(n:K4)(x4 x5 x6 x41:O)(h:HW):Rs:=
 ob x41 fun a45=>
 n x4 x5 x6 (some a45) h
theorem q55_46_eq(C:YC)(lf:Nat)(n:K4)(KR:KF)(K0:KF)(KE:KX):∀F h,evX fx55 C lf [1,1,1,0,1,0,1,1,1,0,0] F h (fun F h=>n (F 4) (F 5) (F 6) (F 8) h) KR (bk 0 K0 KE)=q55_46 C lf n (F 4) (F 5) (F 6) (F 41) h:=by
 intro F h;kernel_rfl
noncomputable def q55_47(C:YC)(lf:Nat)(n:K2)(x4 x5 x6 x41:O)(h:HW):Rs:=
 q55_46 C lf (fun x4 x5 x6 x8 h=>q55_44 C lf n x4 x5 x6 x8 h) x4 x5 x6 x41 h
theorem q55_47_eq(C:YC)(lf:Nat)(n:K2)(KR:KF)(K0:KF)(KE:KX):∀F h,evX fx55 C lf [1,1,1,0,1,0,1,1,1,0] F h (fun F h=>n (F 4) (F 5) h) KR (bk 0 K0 KE)=q55_47 C lf n (F 4) (F 5) (F 6) (F 41) h:=cSeq (a:=subX fx55 [1,1,1,0,1,0,1,1,1,0,0]) (b:=subX fx55 [1,1,1,0,1,0,1,1,1,0,1]) (by kernel_rfl) (B:=(fun F h=>q55_44 C lf n (F 4) (F 5) (F 6) (F 8) h)) (q55_44_eq C lf n KR K0 KE) (q55_46_eq C lf (fun x4 x5 x6 x8 h=>q55_44 C lf n x4 x5 x6 x8 h) KR K0 KE)
noncomputable def q55_63(C:YC)(lf:Nat)(n:K6)(e3:K2)(x4 x5 x6 x58 x59 x60:O)(h:HW):Rs:=
 ob x60 fun a49=>
 ob x59 fun a50=>
 ob (bin Try.prog .lss 3 a49 a50) fun y51=>
 yIf y51
 (ob x58 fun a52=>
 ob x60 fun a53=>
 ob (ixS 1 a52 a53) fun y54=>
 ob (ld1 y54 h) fun y55=>
 ob x6 fun a56=>
 bc (C (.fn 55) [y55] h) fun y57 h57=>
 ob (ext 0 y57) fun y58=>
 ob (ext 1 y57) fun y59=>
 cv false C a56 [y58,y59] h57 fun y60 h60=>
 ob x60 fun a61=>
 ob (bin Try.prog .add 3 a61 (.int .i64 1)) fun y62=>
 n x4 x5 x6 x58 x59 (some y62) h60)
 (e3 x4 x5 h)
theorem q55_63_eq(C:YC)(lf:Nat)(n:K6)(e3:K2)(KR:KF)(K0:KF)(KE:KX):∀F h,evX fx55 C lf [1,1,1,0,1,0,1,1,1,1,1,0,1,1,0,0] F h (fun F h=>n (F 4) (F 5) (F 6) (F 58) (F 59) (F 60) h) KR (bk 3 (fun F h=>e3 (F 4) (F 5) h) (bk 0 K0 KE))=q55_63 C lf n e3 (F 4) (F 5) (F 6) (F 58) (F 59) (F 60) h:=by
 intro F h;kernel_rfl
noncomputable def l55_48(C:YC)(lf:Nat)(e3:K2)(k:O×O×O×O×O×O→HW→Rs)(s:O×O×O×O×O×O)(h:HW):Rs:=
 q55_63 C lf (fun x4 x5 x6 x58 x59 x60 h=>k (x4,x5,x6,x58,x59,x60) h) e3 s.1 s.2.1 s.2.2.1 s.2.2.2.1 s.2.2.2.2.1 s.2.2.2.2.2 h
noncomputable def q55_66(C:YC)(lf:Nat)(n:K6)(x4 x5 x6 x11:O)(h:HW):Rs:=
 ob x11 fun a64=>
 ob (lenE Try.prog 105 a64) fun y65=>
 n x4 x5 x6 (some a64) (some y65) (some (.int .i64 0)) h
theorem q55_66_eq(C:YC)(lf:Nat)(n:K6)(KR:KF)(K0:KF)(KE:KX):∀F h,evX fx55 C lf [1,1,1,0,1,0,1,1,1,1,1,0,1,0] F h (fun F h=>n (F 4) (F 5) (F 6) (F 58) (F 59) (F 60) h) KR (bk 0 K0 KE)=q55_66 C lf n (F 4) (F 5) (F 6) (F 11) h:=by
 intro F h;kernel_rfl
noncomputable def q55_67(C:YC)(lf:Nat)(n:K2)(x4 x5 x6 x11:O)(h:HW):Rs:=
 q55_66 C lf (fun x4 x5 x6 x58 x59 x60 h=>lp (l55_48 C lf n) lf (x4,x5,x6,x58,x59,x60) h) x4 x5 x6 x11 h
theorem q55_67_eq(C:YC)(lf:Nat)(n:K2)(KR:KF)(K0:KF)(KE:KX):∀F h,evX fx55 C lf [1,1,1,0,1,0,1,1,1,1,1,0,1] F h (fun F h=>n (F 4) (F 5) h) KR (bk 0 K0 KE)=q55_67 C lf n (F 4) (F 5) (F 6) (F 11) h:=cSeq (a:=subX fx55 [1,1,1,0,1,0,1,1,1,1,1,0,1,0]) (b:=subX fx55 [1,1,1,0,1,0,1,1,1,1,1,0,1,1]) (by kernel_rfl) (B:=(fun F h=>lp (l55_48 C lf n) lf ((F 4),(F 5),(F 6),(F 58),(F 59),(F 60)) h)) (cBlock (id:=3) (a:=subX fx55 [1,1,1,0,1,0,1,1,1,1,1,0,1,1,0]) (by kernel_rfl) (cLoop (a:=subX fx55 [1,1,1,0,1,0,1,1,1,1,1,0,1,1,0,0]) (g:=fun F=>(F 4,F 5,F 6,F 58,F 59,F 60)) (body:=l55_48 C lf n) (by kernel_rfl) (fun k=>(q55_63_eq C lf (fun x4 x5 x6 x58 x59 x60 h=>k (x4,x5,x6,x58,x59,x60) h) n KR K0 KE)))) (q55_66_eq C lf (fun x4 x5 x6 x58 x59 x60 h=>lp (l55_48 C lf n) lf (x4,x5,x6,x58,x59,x60) h) KR K0 KE)
noncomputable def q55_69(C:YC)(lf:Nat)(n:K4)(x4 x5 x6 x57:O)(h:HW):Rs:=
 ob x57 fun a68=>
 n x4 x5 x6 (some a68) h
theorem q55_69_eq(C:YC)(lf:Nat)(n:K4)(KR:KF)(K0:KF)(KE:KX):∀F h,evX fx55 C lf [1,1,1,0,1,0,1,1,1,1,1,0,0] F h (fun F h=>n (F 4) (F 5) (F 6) (F 11) h) KR (bk 0 K0 KE)=q55_69 C lf n (F 4) (F 5) (F 6) (F 57) h:=by
 intro F h;kernel_rfl
noncomputable def q55_70(C:YC)(lf:Nat)(n:K2)(x4 x5 x6 x57:O)(h:HW):Rs:=
 q55_69 C lf (fun x4 x5 x6 x11 h=>q55_67 C lf n x4 x5 x6 x11 h) x4 x5 x6 x57 h
theorem q55_70_eq(C:YC)(lf:Nat)(n:K2)(KR:KF)(K0:KF)(KE:KX):∀F h,evX fx55 C lf [1,1,1,0,1,0,1,1,1,1,1,0] F h (fun F h=>n (F 4) (F 5) h) KR (bk 0 K0 KE)=q55_70 C lf n (F 4) (F 5) (F 6) (F 57) h:=cSeq (a:=subX fx55 [1,1,1,0,1,0,1,1,1,1,1,0,0]) (b:=subX fx55 [1,1,1,0,1,0,1,1,1,1,1,0,1]) (by kernel_rfl) (B:=(fun F h=>q55_67 C lf n (F 4) (F 5) (F 6) (F 11) h)) (q55_67_eq C lf n KR K0 KE) (q55_69_eq C lf (fun x4 x5 x6 x11 h=>q55_67 C lf n x4 x5 x6 x11 h) KR K0 KE)
noncomputable def q55_83(C:YC)(lf:Nat)(n:K2)(x4 x5 x6 x16:O)(h:HW):Rs:=
 ob x16 fun a71=>
 ob (semAssert Try.prog a71 109 true) fun y72=>
 ob (ext 1 y72) fun y73=>
 ob (ext 0 y72) fun y74=>
 yIf y73
 (ob x6 fun a75=>
 ob (semNil y74) fun y76=>
 ob (fa 0 y76) fun y77=>
 ob (ld1 y77 h) fun y78=>
 bc (C (.fn 55) [y78] h) fun y79 h79=>
 ob (ext 0 y79) fun y80=>
 ob (ext 1 y79) fun y81=>
 cv false C a75 [y80,y81] h79 fun y82 h82=>
 n x4 x5 h82)
 (n x4 x5 h)
theorem q55_83_eq(C:YC)(lf:Nat)(n:K2)(KR:KF)(K0:KF)(KE:KX):∀F h,evX fx55 C lf [1,1,1,0,1,0,1,1,1,1,1,1] F h (fun F h=>n (F 4) (F 5) h) KR (bk 0 K0 KE)=q55_83 C lf n (F 4) (F 5) (F 6) (F 16) h:=by
 intro F h;kernel_rfl
noncomputable def q55_85(C:YC)(lf:Nat)(n:K2)(x4 x5 x6 x16 x56 x57:O)(h:HW):Rs:=
 ob x56 fun a84=>
 yIf a84
 (q55_70 C lf n x4 x5 x6 x57 h)
 (q55_83 C lf n x4 x5 x6 x16 h)
theorem q55_85_eq(C:YC)(lf:Nat)(n:K2)(KR:KF)(K0:KF)(KE:KX):∀F h,evX fx55 C lf [1,1,1,0,1,0,1,1,1,1,1] F h (fun F h=>n (F 4) (F 5) h) KR (bk 0 K0 KE)=q55_85 C lf n (F 4) (F 5) (F 6) (F 16) (F 56) (F 57) h:=cCond (x:= .tmp 56) (by kernel_rfl) (q55_70_eq C lf n KR K0 KE) (q55_83_eq C lf n KR K0 KE)
noncomputable def q55_90(C:YC)(lf:Nat)(n:K6)(x4 x5 x6 x16:O)(h:HW):Rs:=
 ob x16 fun a86=>
 ob (semAssert Try.prog a86 105 true) fun y87=>
 ob (ext 1 y87) fun y88=>
 ob (ext 0 y87) fun y89=>
 n x4 x5 x6 x16 (some y88) (some y89) h
theorem q55_90_eq(C:YC)(lf:Nat)(n:K6)(KR:KF)(K0:KF)(KE:KX):∀F h,evX fx55 C lf [1,1,1,0,1,0,1,1,1,1,0] F h (fun F h=>n (F 4) (F 5) (F 6) (F 16) (F 56) (F 57) h) KR (bk 0 K0 KE)=q55_90 C lf n (F 4) (F 5) (F 6) (F 16) h:=by
 intro F h;kernel_rfl
noncomputable def q55_91(C:YC)(lf:Nat)(n:K2)(x4 x5 x6 x16:O)(h:HW):Rs:=
 q55_90 C lf (fun x4 x5 x6 x16 x56 x57 h=>q55_85 C lf n x4 x5 x6 x16 x56 x57 h) x4 x5 x6 x16 h
theorem q55_91_eq(C:YC)(lf:Nat)(n:K2)(KR:KF)(K0:KF)(KE:KX):∀F h,evX fx55 C lf [1,1,1,0,1,0,1,1,1,1] F h (fun F h=>n (F 4) (F 5) h) KR (bk 0 K0 KE)=q55_91 C lf n (F 4) (F 5) (F 6) (F 16) h:=cSeq (a:=subX fx55 [1,1,1,0,1,0,1,1,1,1,0]) (b:=subX fx55 [1,1,1,0,1,0,1,1,1,1,1]) (by kernel_rfl) (B:=(fun F h=>q55_85 C lf n (F 4) (F 5) (F 6) (F 16) (F 56) (F 57) h)) (q55_85_eq C lf n KR K0 KE) (q55_90_eq C lf (fun x4 x5 x6 x16 x56 x57 h=>q55_85 C lf n x4 x5 x6 x16 x56 x57 h) KR K0 KE)
noncomputable def q55_93(C:YC)(lf:Nat)(n:K2)(x4 x5 x6 x16 x40 x41:O)(h:HW):Rs:=
 ob x40 fun a92=>
 yIf a92
 (q55_47 C lf n x4 x5 x6 x41 h)
 (q55_91 C lf n x4 x5 x6 x16 h)
theorem q55_93_eq(C:YC)(lf:Nat)(n:K2)(KR:KF)(K0:KF)(KE:KX):∀F h,evX fx55 C lf [1,1,1,0,1,0,1,1,1] F h (fun F h=>n (F 4) (F 5) h) KR (bk 0 K0 KE)=q55_93 C lf n (F 4) (F 5) (F 6) (F 16) (F 40) (F 41) h:=cCond (x:= .tmp 40) (by kernel_rfl) (q55_47_eq C lf n KR K0 KE) (q55_91_eq C lf n KR K0 KE)
noncomputable def q55_98(C:YC)(lf:Nat)(n:K6)(x4 x5 x6 x16:O)(h:HW):Rs:=
 ob x16 fun a94=>
 ob (semAssert Try.prog a94 106 true) fun y95=>
 ob (ext 1 y95) fun y96=>
 ob (ext 0 y95) fun y97=>
 n x4 x5 x6 x16 (some y96) (some y97) h
theorem q55_98_eq(C:YC)(lf:Nat)(n:K6)(KR:KF)(K0:KF)(KE:KX):∀F h,evX fx55 C lf [1,1,1,0,1,0,1,1,0] F h (fun F h=>n (F 4) (F 5) (F 6) (F 16) (F 40) (F 41) h) KR (bk 0 K0 KE)=q55_98 C lf n (F 4) (F 5) (F 6) (F 16) h:=by
 intro F h;kernel_rfl
noncomputable def q55_99(C:YC)(lf:Nat)(n:K2)(x4 x5 x6 x16:O)(h:HW):Rs:=
 q55_98 C lf (fun x4 x5 x6 x16 x40 x41 h=>q55_93 C lf n x4 x5 x6 x16 x40 x41 h) x4 x5 x6 x16 h
theorem q55_99_eq(C:YC)(lf:Nat)(n:K2)(KR:KF)(K0:KF)(KE:KX):∀F h,evX fx55 C lf [1,1,1,0,1,0,1,1] F h (fun F h=>n (F 4) (F 5) h) KR (bk 0 K0 KE)=q55_99 C lf n (F 4) (F 5) (F 6) (F 16) h:=cSeq (a:=subX fx55 [1,1,1,0,1,0,1,1,0]) (b:=subX fx55 [1,1,1,0,1,0,1,1,1]) (by kernel_rfl) (B:=(fun F h=>q55_93 C lf n (F 4) (F 5) (F 6) (F 16) (F 40) (F 41) h)) (q55_93_eq C lf n KR K0 KE) (q55_98_eq C lf (fun x4 x5 x6 x16 x40 x41 h=>q55_93 C lf n x4 x5 x6 x16 x40 x41 h) KR K0 KE)
noncomputable def q55_101(C:YC)(lf:Nat)(n:K2)(x4 x5 x6 x16 x18 x19:O)(h:HW):Rs:=
 ob x18 fun a100=>
 yIf a100
 (q55_24 C lf n x4 x5 x6 x19 h)
 (q55_99 C lf n x4 x5 x6 x16 h)
theorem q55_101_eq(C:YC)(lf:Nat)(n:K2)(KR:KF)(K0:KF)(KE:KX):∀F h,evX fx55 C lf [1,1,1,0,1,0,1] F h (fun F h=>n (F 4) (F 5) h) KR (bk 0 K0 KE)=q55_101 C lf n (F 4) (F 5) (F 6) (F 16) (F 18) (F 19) h:=cCond (x:= .tmp 18) (by kernel_rfl) (q55_24_eq C lf n KR K0 KE) (q55_99_eq C lf n KR K0 KE)
noncomputable def q55_106(C:YC)(lf:Nat)(n:K6)(x4 x5 x6 x16:O)(h:HW):Rs:=
 ob x16 fun a102=>
 ob (semAssert Try.prog a102 101 true) fun y103=>
 ob (ext 1 y103) fun y104=>
 ob (ext 0 y103) fun y105=>
 n x4 x5 x6 x16 (some y104) (some y105) h
theorem q55_106_eq(C:YC)(lf:Nat)(n:K6)(KR:KF)(K0:KF)(KE:KX):∀F h,evX fx55 C lf [1,1,1,0,1,0,0] F h (fun F h=>n (F 4) (F 5) (F 6) (F 16) (F 18) (F 19) h) KR (bk 0 K0 KE)=q55_106 C lf n (F 4) (F 5) (F 6) (F 16) h:=by
 intro F h;kernel_rfl
noncomputable def q55_107(C:YC)(lf:Nat)(n:K2)(x4 x5 x6 x16:O)(h:HW):Rs:=
 q55_106 C lf (fun x4 x5 x6 x16 x18 x19 h=>q55_101 C lf n x4 x5 x6 x16 x18 x19 h) x4 x5 x6 x16 h
theorem q55_107_eq(C:YC)(lf:Nat)(n:K2)(KR:KF)(K0:KF)(KE:KX):∀F h,evX fx55 C lf [1,1,1,0,1,0] F h (fun F h=>n (F 4) (F 5) h) KR (bk 0 K0 KE)=q55_107 C lf n (F 4) (F 5) (F 6) (F 16) h:=cSeq (a:=subX fx55 [1,1,1,0,1,0,0]) (b:=subX fx55 [1,1,1,0,1,0,1]) (by kernel_rfl) (B:=(fun F h=>q55_101 C lf n (F 4) (F 5) (F 6) (F 16) (F 18) (F 19) h)) (q55_101_eq C lf n KR K0 KE) (q55_106_eq C lf (fun x4 x5 x6 x16 x18 x19 h=>q55_101 C lf n x4 x5 x6 x16 x18 x19 h) KR K0 KE)
noncomputable def q55_109(C:YC)(lf:Nat)(n:K4)(x0 x4 x5 x6:O)(h:HW):Rs:=
 ob x0 fun a108=>
 n x4 x5 x6 (some a108) h
theorem q55_109_eq(C:YC)(lf:Nat)(n:K4)(KR:KF)(KE:KX):∀F h,evX fx55 C lf [1,1,1,0,0] F h (fun F h=>n (F 4) (F 5) (F 6) (F 16) h) KR KE=q55_109 C lf n (F 0) (F 4) (F 5) (F 6) h:=by
 intro F h;kernel_rfl
noncomputable def q55_110(C:YC)(lf:Nat)(n:K2)(x0 x4 x5 x6:O)(h:HW):Rs:=
 q55_109 C lf (fun x4 x5 x6 x16 h=>q55_107 C lf n x4 x5 x6 x16 h) x0 x4 x5 x6 h
theorem q55_110_eq(C:YC)(lf:Nat)(n:K2)(KR:KF)(KE:KX):∀F h,evX fx55 C lf [1,1,1,0] F h (fun F h=>n (F 4) (F 5) h) KR KE=q55_110 C lf n (F 0) (F 4) (F 5) (F 6) h:=cSeq (a:=subX fx55 [1,1,1,0,0]) (b:=subX fx55 [1,1,1,0,1]) (by kernel_rfl) (B:=(fun F h=>q55_107 C lf n (F 4) (F 5) (F 6) (F 16) h)) (cBlock (id:=0) (a:=subX fx55 [1,1,1,0,1,0]) (by kernel_rfl) (q55_107_eq C lf n KR (fun F h=>n (F 4) (F 5) h) KE)) (q55_109_eq C lf (fun x4 x5 x6 x16 h=>q55_107 C lf n x4 x5 x6 x16 h) KR KE)
noncomputable def q55_111(C:YC)(lf:Nat)(r:K2)(x0 x4 x5 x6:O)(h:HW):Rs:=
 q55_110 C lf (fun x4 x5 h=>q55_6 C lf r x4 x5 h) x0 x4 x5 x6 h
theorem q55_111_eq(C:YC)(lf:Nat)(r:K2)(KN:KF)(KE:KX):∀F h,evX fx55 C lf [1,1,1] F h KN (fun F h=>r (F 2) (F 3) h) KE=q55_111 C lf r (F 0) (F 4) (F 5) (F 6) h:=cSeq (a:=subX fx55 [1,1,1,0]) (b:=subX fx55 [1,1,1,1]) (by kernel_rfl) (B:=(fun F h=>q55_6 C lf r (F 4) (F 5) h)) (q55_6_eq C lf r KN KE) (q55_110_eq C lf (fun x4 x5 h=>q55_6 C lf r x4 x5 h) (fun F h=>r (F 2) (F 3) h) KE)
noncomputable def q55_114(C:YC)(lf:Nat)(n:K4)(x0 x4 x5:O)(h:HW):Rs:=
 ob x5 fun a112=>
 ob x4 fun a113=>
 n x0 x4 x5 (some (.fn (.func 60) [] [a112,a113])) h
theorem q55_114_eq(C:YC)(lf:Nat)(n:K4)(KR:KF)(KE:KX):∀F h,evX fx55 C lf [1,1,0] F h (fun F h=>n (F 0) (F 4) (F 5) (F 6) h) KR KE=q55_114 C lf n (F 0) (F 4) (F 5) h:=by
 intro F h;kernel_rfl
noncomputable def q55_115(C:YC)(lf:Nat)(r:K2)(x0 x4 x5:O)(h:HW):Rs:=
 q55_114 C lf (fun x0 x4 x5 x6 h=>q55_111 C lf r x0 x4 x5 x6 h) x0 x4 x5 h
theorem q55_115_eq(C:YC)(lf:Nat)(r:K2)(KN:KF)(KE:KX):∀F h,evX fx55 C lf [1,1] F h KN (fun F h=>r (F 2) (F 3) h) KE=q55_115 C lf r (F 0) (F 4) (F 5) h:=cSeq (a:=subX fx55 [1,1,0]) (b:=subX fx55 [1,1,1]) (by kernel_rfl) (B:=(fun F h=>q55_111 C lf r (F 0) (F 4) (F 5) (F 6) h)) (q55_111_eq C lf r KN KE) (q55_114_eq C lf (fun x0 x4 x5 x6 h=>q55_111 C lf r x0 x4 x5 x6 h) (fun F h=>r (F 2) (F 3) h) KE)
noncomputable def q55_120(C:YC)(lf:Nat)(n:K3)(x0:O)(h:HW):Rs:=
 b2 (yAl Try.prog 3 h) fun y116 h116=>
 b2 (yAl Try.prog 3 h116) fun y117 h117=>
 ob (st 1 y116 (.int .i64 0) h117) fun h118=>
 ob (st 1 y117 (.int .i64 (-1)) h118) fun h119=>
 n x0 (some y116) (some y117) h119
theorem q55_120_eq(C:YC)(lf:Nat)(n:K3)(KR:KF)(KE:KX):∀F h,evX fx55 C lf [1,0] F h (fun F h=>n (F 0) (F 4) (F 5) h) KR KE=q55_120 C lf n (F 0) h:=by
 intro F h;kernel_rfl
noncomputable def q55_121(C:YC)(lf:Nat)(r:K2)(x0:O)(h:HW):Rs:=
 q55_120 C lf (fun x0 x4 x5 h=>q55_115 C lf r x0 x4 x5 h) x0 h
theorem q55_121_eq(C:YC)(lf:Nat)(r:K2)(KN:KF)(KE:KX):∀F h,evX fx55 C lf [1] F h KN (fun F h=>r (F 2) (F 3) h) KE=q55_121 C lf r (F 0) h:=cSeq (a:=subX fx55 [1,0]) (b:=subX fx55 [1,1]) (by kernel_rfl) (B:=(fun F h=>q55_115 C lf r (F 0) (F 4) (F 5) h)) (q55_115_eq C lf r KN KE) (q55_120_eq C lf (fun x0 x4 x5 h=>q55_115 C lf r x0 x4 x5 h) (fun F h=>r (F 2) (F 3) h) KE)
noncomputable def q55_122(C:YC)(lf:Nat)(n:K1)(x0:O)(h:HW):Rs:=
 n x0 h
theorem q55_122_eq(C:YC)(lf:Nat)(n:K1)(KR:KF)(KE:KX):∀F h,evX fx55 C lf [0] F h (fun F h=>n (F 0) h) KR KE=q55_122 C lf n (F 0) h:=by
 intro F h;kernel_rfl
noncomputable def q55_123(C:YC)(lf:Nat)(r:K2)(x0:O)(h:HW):Rs:=
 q55_122 C lf (fun x0 h=>q55_121 C lf r x0 h) x0 h
theorem q55_123_eq(C:YC)(lf:Nat)(r:K2)(KN:KF)(KE:KX):∀F h,evX fx55 C lf [] F h KN (fun F h=>r (F 2) (F 3) h) KE=q55_123 C lf r (F 0) h:=cSeq (a:=subX fx55 [0]) (b:=subX fx55 [1]) (by kernel_rfl) (B:=(fun F h=>q55_121 C lf r (F 0) h)) (q55_121_eq C lf r KN KE) (q55_122_eq C lf (fun x0 h=>q55_121 C lf r x0 h) (fun F h=>r (F 2) (F 3) h) KE)
noncomputable def fs55(C:YC)(lf:Nat)(a0:SV)(h:HW):Rs:=q55_123 C lf ff55 (some a0) h
theorem fs55_eq(C:YC)(lf:Nat)(a0:SV)(h:HW):yFn Try.prog fx55 C lf [a0] h=fs55 C lf a0 h:=fnX (K:=(fun F h=>ff55 (F 2) (F 3) h)) (by kernel_rfl) (((q55_123_eq C lf ff55 (fun F h=>ff55 (F 2) (F 3) h) (fun _ _ _=>none)) _ h).trans (by kernel_rfl))
noncomputable def fy55:YX Try.prog:=Y1 fx55 fs55 fs55_eq (by kernel_rfl)
noncomputable def fx56:XF Try.prog:=⟨56,Try.f56,fun _=> .text,Try.func56,by kernel_rfl,by kernel_rfl,by kernel_rfl,by kernel_rfl⟩
noncomputable def ff56(x4:O)(h:HW):Rs:=
 ob x4 fun a0=>
 some (.ret a0,h)
noncomputable def q56_19(C:YC)(lf:Nat)(r:K1)(x0 x1:O)(h:HW):Rs:=
 ob x0 fun a1=>
 ob (lenE Try.prog 9 a1) fun y2=>
 ob x1 fun a3=>
 ob (lenE Try.prog 9 a3) fun y4=>
 ob (bin Try.prog .geq 3 y2 y4) fun y5=>
 bc (gd true (some y5) (ob x0 fun a6=>
 some (.ret a6,h)) h) fun y7 h7=>
 bc (gd true (some y5) (ob x1 fun a8=>
 some (.ret a8,h7)) h7) fun y9 h9=>
 bc (gd true (some y5) (ob (lenE Try.prog 9 y9) fun y10=>
 some (.ret y10,h9)) h9) fun y11 h11=>
 bc (gd true (some y5) (ob (semSlice Try.prog 9 y7 none (some y11)) fun y12=>
 some (.ret y12,h11)) h11) fun y13 h13=>
 bc (gd true (some y5) (ob x1 fun a14=>
 some (.ret a14,h13)) h13) fun y15 h15=>
 bc (gd true (some y5) (ob (bin Try.prog .eql 9 y13 y15) fun y16=>
 some (.ret y16,h15)) h15) fun y17 h17=>
 ob (ypk y5 y17 (.bool false)) fun y18=>
 r (some y18) h17
theorem q56_19_eq(C:YC)(lf:Nat)(r:K1)(KN:KF)(KE:KX):∀F h,evX fx56 C lf [] F h KN (fun F h=>r (F 4) h) KE=q56_19 C lf r (F 0) (F 1) h:=by
 intro F h;kernel_rfl
noncomputable def fs56(C:YC)(lf:Nat)(a0 a1:SV)(h:HW):Rs:=q56_19 C lf ff56 (some a0) (some a1) h
theorem fs56_eq(C:YC)(lf:Nat)(a0 a1:SV)(h:HW):yFn Try.prog fx56 C lf [a0,a1] h=fs56 C lf a0 a1 h:=fnX (K:=(fun F h=>ff56 (F 4) h)) (by kernel_rfl) (((q56_19_eq C lf ff56 (fun F h=>ff56 (F 4) h) (fun _ _ _=>none)) _ h).trans (by kernel_rfl))
noncomputable def fy56:YX Try.prog:=Y2 fx56 fs56 fs56_eq (by kernel_rfl)
noncomputable def fx57:XF Try.prog:=⟨57,Try.f57,fun _=> .text,Try.func57,by kernel_rfl,by kernel_rfl,by kernel_rfl,by kernel_rfl⟩
noncomputable def ff57(x4:O)(h:HW):Rs:=
 ob x4 fun a0=>
 some (.ret a0,h)
noncomputable def q57_4(C:YC)(lf:Nat)(r:K1)(x0 x1:O)(h:HW):Rs:=
 ob x0 fun a1=>
 ob x1 fun a2=>
 bc (C (.fn 61) [a1,a2] h) fun y3 h3=>
 r (some y3) h3
theorem q57_4_eq(C:YC)(lf:Nat)(r:K1)(KN:KF)(KE:KX):∀F h,evX fx57 C lf [] F h KN (fun F h=>r (F 4) h) KE=q57_4 C lf r (F 0) (F 1) h:=by
 intro F h;kernel_rfl
noncomputable def fs57(C:YC)(lf:Nat)(a0 a1:SV)(h:HW):Rs:=q57_4 C lf ff57 (some a0) (some a1) h
theorem fs57_eq(C:YC)(lf:Nat)(a0 a1:SV)(h:HW):yFn Try.prog fx57 C lf [a0,a1] h=fs57 C lf a0 a1 h:=fnX (K:=(fun F h=>ff57 (F 4) h)) (by kernel_rfl) (((q57_4_eq C lf ff57 (fun F h=>ff57 (F 4) h) (fun _ _ _=>none)) _ h).trans (by kernel_rfl))
noncomputable def fy57:YX Try.prog:=Y2 fx57 fs57 fs57_eq (by kernel_rfl)
noncomputable def fx59:XF Try.prog:=⟨59,Try.f59,fun _=> .text,Try.func59,by kernel_rfl,by kernel_rfl,by kernel_rfl,by kernel_rfl⟩
noncomputable def ff59(h:HW):Rs:=
 some (.ret (.tup []),h)
noncomputable def q59_39(C:YC)(lf:Nat)(n:K2)(e0:K0)(x1 x4:O)(h:HW):Rs:=
 ob x4 fun a1=>
 ob (bin Try.prog .leq 21 a1 (.int .i32 122)) fun y2=>
 yIf y2
 (ob x1 fun a3=>
 ob x4 fun a4=>
 ob (semNil a3) fun y5=>
 ob (fa 0 y5) fun y6=>
 ob (ixA 256 1 y6 a4) fun y7=>
 ob (ld1 y7 h) fun y8=>
 bc (gd false (some y8) (ob x1 fun a9=>
 some (.ret a9,h)) h) fun y10 h10=>
 bc (gd false (some y8) (ob x4 fun a11=>
 some (.ret a11,h10)) h10) fun y12 h12=>
 bc (gd false (some y8) (ob (bin Try.prog .sub 21 y12 (.int .i32 32)) fun y13=>
 some (.ret y13,h12)) h12) fun y14 h14=>
 bc (gd false (some y8) (ob (semNil y10) fun y15=>
 some (.ret y15,h14)) h14) fun y16 h16=>
 bc (gd false (some y8) (ob (fa 0 y16) fun y17=>
 some (.ret y17,h16)) h16) fun y18 h18=>
 bc (gd false (some y8) (ob (ixA 256 1 y18 y14) fun y19=>
 some (.ret y19,h18)) h18) fun y20 h20=>
 bc (gd false (some y8) (ob (ld1 y20 h20) fun y21=>
 some (.ret y21,h20)) h20) fun y22 h22=>
 ob (ypk y8 (.bool true) y22) fun y23=>
 ob x1 fun a24=>
 ob x4 fun a25=>
 ob x1 fun a26=>
 ob x4 fun a27=>
 ob (bin Try.prog .sub 21 a27 (.int .i32 32)) fun y28=>
 ob (semNil a24) fun y29=>
 ob (fa 0 y29) fun y30=>
 ob (ixA 256 1 y30 a25) fun y31=>
 ob (st 1 y31 y23 h22) fun h32=>
 ob (semNil a26) fun y33=>
 ob (fa 0 y33) fun y34=>
 ob (ixA 256 1 y34 y28) fun y35=>
 ob (st 1 y35 y23 h32) fun h36=>
 ob x4 fun a37=>
 ob (bin Try.prog .add 21 a37 (.int .i32 1)) fun y38=>
 n x1 (some y38) h36)
 (e0 h)
theorem q59_39_eq(C:YC)(lf:Nat)(n:K2)(e0:K0)(KR:KF)(KE:KX):∀F h,evX fx59 C lf [1,1,0,0] F h (fun F h=>n (F 1) (F 4) h) KR (bk 0 (fun F h=>e0 h) KE)=q59_39 C lf n e0 (F 1) (F 4) h:=by
 intro F h;kernel_rfl
noncomputable def l59_0(C:YC)(lf:Nat)(e0:K0)(k:O×O→HW→Rs)(s:O×O)(h:HW):Rs:=
 q59_39 C lf (fun x1 x4 h=>k (x1,x4) h) e0 s.1 s.2 h
noncomputable def q59_40(C:YC)(lf:Nat)(n:K2)(x1:O)(h:HW):Rs:=
 n x1 (some (.int .i32 97)) h
theorem q59_40_eq(C:YC)(lf:Nat)(n:K2)(KR:KF)(KE:KX):∀F h,evX fx59 C lf [1,0] F h (fun F h=>n (F 1) (F 4) h) KR KE=q59_40 C lf n (F 1) h:=by
 intro F h;kernel_rfl
noncomputable def q59_41(C:YC)(lf:Nat)(n:K0)(x1:O)(h:HW):Rs:=
 q59_40 C lf (fun x1 x4 h=>lp (l59_0 C lf n) lf (x1,x4) h) x1 h
theorem q59_41_eq(C:YC)(lf:Nat)(n:K0)(KR:KF)(KE:KX):∀F h,evX fx59 C lf [1] F h (fun F h=>n h) KR KE=q59_41 C lf n (F 1) h:=cSeq (a:=subX fx59 [1,0]) (b:=subX fx59 [1,1]) (by kernel_rfl) (B:=(fun F h=>lp (l59_0 C lf n) lf ((F 1),(F 4)) h)) (cBlock (id:=0) (a:=subX fx59 [1,1,0]) (by kernel_rfl) (cLoop (a:=subX fx59 [1,1,0,0]) (g:=fun F=>(F 1,F 4)) (body:=l59_0 C lf n) (by kernel_rfl) (fun k=>(q59_39_eq C lf (fun x1 x4 h=>k (x1,x4) h) n KR KE)))) (q59_40_eq C lf (fun x1 x4 h=>lp (l59_0 C lf n) lf (x1,x4) h) KR KE)
noncomputable def q59_47(C:YC)(lf:Nat)(n:K1)(r:K0)(x0 x1:O)(h:HW):Rs:=
 ob x0 fun a42=>
 ob (semNil a42) fun y43=>
 ob (fa 3 y43) fun y44=>
 ob (ld1 y44 h) fun y45=>
 ob (unE .not y45) fun y46=>
 yIf y46
 (r h)
 (n x1 h)
theorem q59_47_eq(C:YC)(lf:Nat)(n:K1)(r:K0)(KE:KX):∀F h,evX fx59 C lf [0] F h (fun F h=>n (F 1) h) (fun F h=>r h) KE=q59_47 C lf n r (F 0) (F 1) h:=by
 intro F h;kernel_rfl
noncomputable def q59_48(C:YC)(lf:Nat)(n:K0)(r:K0)(x0 x1:O)(h:HW):Rs:=
 q59_47 C lf (fun x1 h=>q59_41 C lf n x1 h) r x0 x1 h
theorem q59_48_eq(C:YC)(lf:Nat)(n:K0)(r:K0)(KE:KX):∀F h,evX fx59 C lf [] F h (fun F h=>n h) (fun F h=>r h) KE=q59_48 C lf n r (F 0) (F 1) h:=cSeq (a:=subX fx59 [0]) (b:=subX fx59 [1]) (by kernel_rfl) (B:=(fun F h=>q59_41 C lf n (F 1) h)) (q59_41_eq C lf n (fun F h=>r h) KE) (q59_47_eq C lf (fun x1 h=>q59_41 C lf n x1 h) r KE)
noncomputable def fs59(C:YC)(lf:Nat)(a0 a1:SV)(h:HW):Rs:=q59_48 C lf ff59 ff59 (some a0) (some a1) h
theorem fs59_eq(C:YC)(lf:Nat)(a0 a1:SV)(h:HW):yFn Try.prog fx59 C lf [a0,a1] h=fs59 C lf a0 a1 h:=fnX (K:=(fun F h=>ff59 h)) (by kernel_rfl) (((q59_48_eq C lf ff59 ff59 (fun _ _ _=>none)) _ h).trans (by kernel_rfl))
noncomputable def fy59:YX Try.prog:=Y2 fx59 fs59 fs59_eq (by kernel_rfl)
noncomputable def fx60:XF Try.prog:=⟨60,Try.f60,fun r=>bif Nat.beq r 3 then .ord [1,4,0,2,3,5,6,7] [(6,[3])] else .text,Try.func60,by kernel_rfl,by kernel_rfl,by kernel_rfl,by kernel_rfl⟩
noncomputable def ff60(h:HW):Rs:=
 some (.ret (.tup []),h)
noncomputable def q60_29(C:YC)(lf:Nat)(n:K0)(r:K0)(x0 x1 x2 x3:O)(h:HW):Rs:=
 ob x1 fun a0=>
 ob x0 fun a1=>
 ob (bin Try.prog .lss 3 a0 a1) fun y2=>
 bc (gd false (some y2) (ob x0 fun a3=>
 some (.ret a3,h)) h) fun y4 h4=>
 bc (gd false (some y2) (ob (bin Try.prog .eql 3 y4 (.int .i64 0)) fun y5=>
 some (.ret y5,h4)) h4) fun y6 h6=>
 ob (ypk y2 (.bool true) y6) fun y7=>
 yIf y7
 (r h6)
 (ob x2 fun a8=>
 ob (ld1 a8 h6) fun y9=>
 ob (bin Try.prog .lss 3 y9 (.int .i64 0)) fun y10=>
 yIf y10
 (ob x0 fun a11=>
 ob x1 fun a12=>
 ob x3 fun a13=>
 ob (st 1 a13 a11 h6) fun h14=>
 ob x2 fun a15=>
 ob (st 1 a15 a12 h14) fun h16=>
 r h16)
 (ob x0 fun a17=>
 ob x1 fun a18=>
 ob x3 fun a19=>
 ob (ld1 a19 h6) fun y20=>
 b2 (ybl Try.prog .min #[3,3] [y20,a17] h6) fun y21 h21=>
 ob x2 fun a22=>
 ob (ld1 a22 h21) fun y23=>
 b2 (ybl Try.prog .max #[3,3] [y23,a18] h21) fun y24 h24=>
 ob x3 fun a25=>
 ob (st 1 a25 y21 h24) fun h26=>
 ck (chkH [(3,adrO x2),(0,adrO x3)] h24 h26 [3]) <|
 ob x2 fun a27=>
 ob (st 1 a27 y24 h26) fun h28=>
 n h28))
theorem q60_29_eq(C:YC)(lf:Nat)(n:K0)(r:K0)(KE:KX):∀F h,evX fx60 C lf [] F h (fun F h=>n h) (fun F h=>r h) KE=q60_29 C lf n r (F 0) (F 1) (F 2) (F 3) h:=by
 intro F h;kernel_rfl
noncomputable def fs60(C:YC)(lf:Nat)(a0 a1 a2 a3:SV)(h:HW):Rs:=q60_29 C lf ff60 ff60 (some a0) (some a1) (some a2) (some a3) h
theorem fs60_eq(C:YC)(lf:Nat)(a0 a1 a2 a3:SV)(h:HW):yFn Try.prog fx60 C lf [a0,a1,a2,a3] h=fs60 C lf a0 a1 a2 a3 h:=fnX (K:=(fun F h=>ff60 h)) (by kernel_rfl) (((q60_29_eq C lf ff60 ff60 (fun _ _ _=>none)) _ h).trans (by kernel_rfl))
noncomputable def fy60:YX Try.prog:=Y4 fx60 fs60 fs60_eq (by kernel_rfl)
noncomputable def gx61:XN Try.prog:={f:=61,fn:=Try.f61,k:= .indexByte,isFn:=Try.func61,isPlain:=by kernel_rfl,noBody:=by kernel_rfl,noNext:=by kernel_rfl,isK:=by kernel_rfl}
noncomputable def fx87:XF Try.prog:=⟨87,Try.f87,fun _=> .text,Try.func87,by kernel_rfl,by kernel_rfl,by kernel_rfl,by kernel_rfl⟩
noncomputable def ff87(x2:O)(h:HW):Rs:=
 ob x2 fun a0=>
 some (.ret a0,h)
noncomputable def q87_1(C:YC)(lf:Nat)(r:K1)(h:HW):Rs:=
 r (some (.int .i64 1)) h
theorem q87_1_eq(C:YC)(lf:Nat)(r:K1)(KN:KF)(KE:KX):∀F h,evX fx87 C lf [] F h KN (fun F h=>r (F 2) h) KE=q87_1 C lf r h:=by
 intro F h;kernel_rfl
noncomputable def fs87(C:YC)(lf:Nat)(a0:SV)(h:HW):Rs:=q87_1 C lf ff87 h
theorem fs87_eq(C:YC)(lf:Nat)(a0:SV)(h:HW):yFn Try.prog fx87 C lf [a0] h=fs87 C lf a0 h:=fnX (K:=(fun F h=>ff87 (F 2) h)) (by kernel_rfl) (((q87_1_eq C lf ff87 (fun F h=>ff87 (F 2) h) (fun _ _ _=>none)) _ h).trans (by kernel_rfl))
noncomputable def fy87:YX Try.prog:=Y1 fx87 fs87 fs87_eq (by kernel_rfl)
noncomputable def fx90:XF Try.prog:=⟨90,Try.f90,fun _=> .text,Try.func90,by kernel_rfl,by kernel_rfl,by kernel_rfl,by kernel_rfl⟩
noncomputable def ff90(x2:O)(h:HW):Rs:=
 ob x2 fun a0=>
 some (.ret a0,h)
noncomputable def q90_7(C:YC)(lf:Nat)(r:K1)(x0:O)(h:HW):Rs:=
 ob x0 fun a1=>
 ob (semNil a1) fun y2=>
 ob (fa 1 y2) fun y3=>
 ob (ld1 y3 h) fun y4=>
 bc (iv Try.prog C "tinsel/regex.size" y4 [] h) fun y5 h5=>
 ob (bin Try.prog .add 3 y5 (.int .i64 1)) fun y6=>
 r (some y6) h5
theorem q90_7_eq(C:YC)(lf:Nat)(r:K1)(KN:KF)(KE:KX):∀F h,evX fx90 C lf [] F h KN (fun F h=>r (F 2) h) KE=q90_7 C lf r (F 0) h:=by
 intro F h;kernel_rfl
noncomputable def fs90(C:YC)(lf:Nat)(a0:SV)(h:HW):Rs:=q90_7 C lf ff90 (some a0) h
theorem fs90_eq(C:YC)(lf:Nat)(a0:SV)(h:HW):yFn Try.prog fx90 C lf [a0] h=fs90 C lf a0 h:=fnX (K:=(fun F h=>ff90 (F 2) h)) (by kernel_rfl) (((q90_7_eq C lf ff90 (fun F h=>ff90 (F 2) h) (fun _ _ _=>none)) _ h).trans (by kernel_rfl))
noncomputable def fy90:YX Try.prog:=Y1 fx90 fs90 fs90_eq (by kernel_rfl)
noncomputable def fx91:XF Try.prog:=⟨91,Try.f91,fun _=> .text,Try.func91,by kernel_rfl,by kernel_rfl,by kernel_rfl,by kernel_rfl⟩
noncomputable def ff91(x2:O)(h:HW):Rs:=
 ob x2 fun a0=>
 some (.ret a0,h)
noncomputable def q91_3(C:YC)(lf:Nat)(r:K1)(x0:O)(h:HW):Rs:=
 ob x0 fun a1=>
 bc (C (.fn 92) [a1] h) fun y2 h2=>
 r (some y2) h2
theorem q91_3_eq(C:YC)(lf:Nat)(r:K1)(KN:KF)(KE:KX):∀F h,evX fx91 C lf [] F h KN (fun F h=>r (F 2) h) KE=q91_3 C lf r (F 0) h:=by
 intro F h;kernel_rfl
noncomputable def fs91(C:YC)(lf:Nat)(a0:SV)(h:HW):Rs:=q91_3 C lf ff91 (some a0) h
theorem fs91_eq(C:YC)(lf:Nat)(a0:SV)(h:HW):yFn Try.prog fx91 C lf [a0] h=fs91 C lf a0 h:=fnX (K:=(fun F h=>ff91 (F 2) h)) (by kernel_rfl) (((q91_3_eq C lf ff91 (fun F h=>ff91 (F 2) h) (fun _ _ _=>none)) _ h).trans (by kernel_rfl))
noncomputable def fy91:YX Try.prog:=Y1 fx91 fs91 fs91_eq (by kernel_rfl)
noncomputable def fx92:XF Try.prog:=⟨92,Try.f92,fun _=> .text,Try.func92,by kernel_rfl,by kernel_rfl,by kernel_rfl,by kernel_rfl⟩
noncomputable def ff92(x2:O)(h:HW):Rs:=
 ob x2 fun a0=>
 some (.ret a0,h)
noncomputable def q92_2(C:YC)(lf:Nat)(r:K1)(x3:O)(h:HW):Rs:=
 ob x3 fun a1=>
 r (some a1) h
theorem q92_2_eq(C:YC)(lf:Nat)(r:K1)(KN:KF)(KE:KX):∀F h,evX fx92 C lf [1,1,1] F h KN (fun F h=>r (F 2) h) KE=q92_2 C lf r (F 3) h:=by
 intro F h;kernel_rfl
noncomputable def q92_17(C:YC)(lf:Nat)(n:K4)(r:K1)(e0:K1)(x3 x6 x7 x8:O)(h:HW):Rs:=
 ob x8 fun a4=>
 ob x7 fun a5=>
 ob (bin Try.prog .lss 3 a4 a5) fun y6=>
 yIf y6
 (ob x6 fun a7=>
 ob x8 fun a8=>
 ob (ixS 1 a7 a8) fun y9=>
 ob (ld1 y9 h) fun y10=>
 ob x3 fun a11=>
 bc (iv Try.prog C "tinsel/regex.size" y10 [] h) fun y12 h12=>
 ob (bin Try.prog .add 3 a11 y12) fun y13=>
 ob (bin Try.prog .gtr 3 y13 (.int .i64 2000)) fun y14=>
 yIf y14
 (r (some y13) h12)
 (ob x8 fun a15=>
 ob (bin Try.prog .add 3 a15 (.int .i64 1)) fun y16=>
 n (some y13) x6 x7 (some y16) h12))
 (e0 x3 h)
theorem q92_17_eq(C:YC)(lf:Nat)(n:K4)(r:K1)(e0:K1)(KE:KX):∀F h,evX fx92 C lf [1,1,0,1,0,0] F h (fun F h=>n (F 3) (F 6) (F 7) (F 8) h) (fun F h=>r (F 2) h) (bk 0 (fun F h=>e0 (F 3) h) KE)=q92_17 C lf n r e0 (F 3) (F 6) (F 7) (F 8) h:=by
 intro F h;kernel_rfl
noncomputable def l92_3(C:YC)(lf:Nat)(r:K1)(e0:K1)(k:O×O×O×O→HW→Rs)(s:O×O×O×O)(h:HW):Rs:=
 q92_17 C lf (fun x3 x6 x7 x8 h=>k (x3,x6,x7,x8) h) r e0 s.1 s.2.1 s.2.2.1 s.2.2.2 h
noncomputable def q92_20(C:YC)(lf:Nat)(n:K4)(x0 x3:O)(h:HW):Rs:=
 ob x0 fun a18=>
 ob (lenE Try.prog 104 a18) fun y19=>
 n x3 (some a18) (some y19) (some (.int .i64 0)) h
theorem q92_20_eq(C:YC)(lf:Nat)(n:K4)(KR:KF)(KE:KX):∀F h,evX fx92 C lf [1,1,0,0] F h (fun F h=>n (F 3) (F 6) (F 7) (F 8) h) KR KE=q92_20 C lf n (F 0) (F 3) h:=by
 intro F h;kernel_rfl
noncomputable def q92_21(C:YC)(lf:Nat)(n:K1)(r:K1)(x0 x3:O)(h:HW):Rs:=
 q92_20 C lf (fun x3 x6 x7 x8 h=>lp (l92_3 C lf r n) lf (x3,x6,x7,x8) h) x0 x3 h
theorem q92_21_eq(C:YC)(lf:Nat)(n:K1)(r:K1)(KE:KX):∀F h,evX fx92 C lf [1,1,0] F h (fun F h=>n (F 3) h) (fun F h=>r (F 2) h) KE=q92_21 C lf n r (F 0) (F 3) h:=cSeq (a:=subX fx92 [1,1,0,0]) (b:=subX fx92 [1,1,0,1]) (by kernel_rfl) (B:=(fun F h=>lp (l92_3 C lf r n) lf ((F 3),(F 6),(F 7),(F 8)) h)) (cBlock (id:=0) (a:=subX fx92 [1,1,0,1,0]) (by kernel_rfl) (cLoop (a:=subX fx92 [1,1,0,1,0,0]) (g:=fun F=>(F 3,F 6,F 7,F 8)) (body:=l92_3 C lf r n) (by kernel_rfl) (fun k=>(q92_17_eq C lf (fun x3 x6 x7 x8 h=>k (x3,x6,x7,x8) h) r n KE)))) (q92_20_eq C lf (fun x3 x6 x7 x8 h=>lp (l92_3 C lf r n) lf (x3,x6,x7,x8) h) (fun F h=>r (F 2) h) KE)
noncomputable def q92_22(C:YC)(lf:Nat)(r:K1)(x0 x3:O)(h:HW):Rs:=
 q92_21 C lf (fun x3 h=>q92_2 C lf r x3 h) r x0 x3 h
theorem q92_22_eq(C:YC)(lf:Nat)(r:K1)(KN:KF)(KE:KX):∀F h,evX fx92 C lf [1,1] F h KN (fun F h=>r (F 2) h) KE=q92_22 C lf r (F 0) (F 3) h:=cSeq (a:=subX fx92 [1,1,0]) (b:=subX fx92 [1,1,1]) (by kernel_rfl) (B:=(fun F h=>q92_2 C lf r (F 3) h)) (q92_2_eq C lf r KN KE) (q92_21_eq C lf (fun x3 h=>q92_2 C lf r x3 h) r KE)
noncomputable def q92_23(C:YC)(lf:Nat)(n:K2)(x0:O)(h:HW):Rs:=
 n x0 (some (.int .i64 0)) h
theorem q92_23_eq(C:YC)(lf:Nat)(n:K2)(KR:KF)(KE:KX):∀F h,evX fx92 C lf [1,0] F h (fun F h=>n (F 0) (F 3) h) KR KE=q92_23 C lf n (F 0) h:=by
 intro F h;kernel_rfl
noncomputable def q92_24(C:YC)(lf:Nat)(r:K1)(x0:O)(h:HW):Rs:=
 q92_23 C lf (fun x0 x3 h=>q92_22 C lf r x0 x3 h) x0 h
theorem q92_24_eq(C:YC)(lf:Nat)(r:K1)(KN:KF)(KE:KX):∀F h,evX fx92 C lf [1] F h KN (fun F h=>r (F 2) h) KE=q92_24 C lf r (F 0) h:=cSeq (a:=subX fx92 [1,0]) (b:=subX fx92 [1,1]) (by kernel_rfl) (B:=(fun F h=>q92_22 C lf r (F 0) (F 3) h)) (q92_22_eq C lf r KN KE) (q92_23_eq C lf (fun x0 x3 h=>q92_22 C lf r x0 x3 h) (fun F h=>r (F 2) h) KE)
noncomputable def q92_25(C:YC)(lf:Nat)(n:K1)(x0:O)(h:HW):Rs:=
 n x0 h
theorem q92_25_eq(C:YC)(lf:Nat)(n:K1)(KR:KF)(KE:KX):∀F h,evX fx92 C lf [0] F h (fun F h=>n (F 0) h) KR KE=q92_25 C lf n (F 0) h:=by
 intro F h;kernel_rfl
noncomputable def q92_26(C:YC)(lf:Nat)(r:K1)(x0:O)(h:HW):Rs:=
 q92_25 C lf (fun x0 h=>q92_24 C lf r x0 h) x0 h
theorem q92_26_eq(C:YC)(lf:Nat)(r:K1)(KN:KF)(KE:KX):∀F h,evX fx92 C lf [] F h KN (fun F h=>r (F 2) h) KE=q92_26 C lf r (F 0) h:=cSeq (a:=subX fx92 [0]) (b:=subX fx92 [1]) (by kernel_rfl) (B:=(fun F h=>q92_24 C lf r (F 0) h)) (q92_24_eq C lf r KN KE) (q92_25_eq C lf (fun x0 h=>q92_24 C lf r x0 h) (fun F h=>r (F 2) h) KE)
noncomputable def fs92(C:YC)(lf:Nat)(a0:SV)(h:HW):Rs:=q92_26 C lf ff92 (some a0) h
theorem fs92_eq(C:YC)(lf:Nat)(a0:SV)(h:HW):yFn Try.prog fx92 C lf [a0] h=fs92 C lf a0 h:=fnX (K:=(fun F h=>ff92 (F 2) h)) (by kernel_rfl) (((q92_26_eq C lf ff92 (fun F h=>ff92 (F 2) h) (fun _ _ _=>none)) _ h).trans (by kernel_rfl))
noncomputable def fy92:YX Try.prog:=Y1 fx92 fs92 fs92_eq (by kernel_rfl)
noncomputable def fx93:XF Try.prog:=⟨93,Try.f93,fun _=> .text,Try.func93,by kernel_rfl,by kernel_rfl,by kernel_rfl,by kernel_rfl⟩
noncomputable def ff93(x2:O)(h:HW):Rs:=
 ob x2 fun a0=>
 some (.ret a0,h)
noncomputable def q93_3(C:YC)(lf:Nat)(r:K1)(x0:O)(h:HW):Rs:=
 ob x0 fun a1=>
 bc (C (.fn 92) [a1] h) fun y2 h2=>
 r (some y2) h2
theorem q93_3_eq(C:YC)(lf:Nat)(r:K1)(KN:KF)(KE:KX):∀F h,evX fx93 C lf [] F h KN (fun F h=>r (F 2) h) KE=q93_3 C lf r (F 0) h:=by
 intro F h;kernel_rfl
noncomputable def fs93(C:YC)(lf:Nat)(a0:SV)(h:HW):Rs:=q93_3 C lf ff93 (some a0) h
theorem fs93_eq(C:YC)(lf:Nat)(a0:SV)(h:HW):yFn Try.prog fx93 C lf [a0] h=fs93 C lf a0 h:=fnX (K:=(fun F h=>ff93 (F 2) h)) (by kernel_rfl) (((q93_3_eq C lf ff93 (fun F h=>ff93 (F 2) h) (fun _ _ _=>none)) _ h).trans (by kernel_rfl))
noncomputable def fy93:YX Try.prog:=Y1 fx93 fs93 fs93_eq (by kernel_rfl)
noncomputable def fx94:XF Try.prog:=⟨94,Try.f94,fun _=> .text,Try.func94,by kernel_rfl,by kernel_rfl,by kernel_rfl,by kernel_rfl⟩
noncomputable def ff94(x2:O)(h:HW):Rs:=
 ob x2 fun a0=>
 some (.ret a0,h)
noncomputable def q94_10(C:YC)(lf:Nat)(r:K1)(x0 x3:O)(h:HW):Rs:=
 ob x0 fun a1=>
 ob (semNil a1) fun y2=>
 ob (fa 0 y2) fun y3=>
 ob (ld1 y3 h) fun y4=>
 bc (iv Try.prog C "tinsel/regex.size" y4 [] h) fun y5 h5=>
 ob (bin Try.prog .gtr 3 y5 (.int .i64 2000)) fun y6=>
 yIf y6
 (r (some y5) h5)
 (ob x3 fun a7=>
 b2 (ybl Try.prog .max #[3,3] [a7,(.int .i64 1)] h5) fun y8 h8=>
 ob (bin Try.prog .mul 3 y5 y8) fun y9=>
 r (some y9) h8)
theorem q94_10_eq(C:YC)(lf:Nat)(r:K1)(KN:KF)(KE:KX):∀F h,evX fx94 C lf [1,1,1] F h KN (fun F h=>r (F 2) h) KE=q94_10 C lf r (F 0) (F 3) h:=by
 intro F h;kernel_rfl
noncomputable def q94_17(C:YC)(lf:Nat)(n:K2)(x0 x3:O)(h:HW):Rs:=
 ob x3 fun a11=>
 ob (bin Try.prog .lss 3 a11 (.int .i64 0)) fun y12=>
 yIf y12
 (ob x0 fun a13=>
 ob (semNil a13) fun y14=>
 ob (fa 1 y14) fun y15=>
 ob (ld1 y15 h) fun y16=>
 n x0 (some y16) h)
 (n x0 x3 h)
theorem q94_17_eq(C:YC)(lf:Nat)(n:K2)(KR:KF)(KE:KX):∀F h,evX fx94 C lf [1,1,0] F h (fun F h=>n (F 0) (F 3) h) KR KE=q94_17 C lf n (F 0) (F 3) h:=by
 intro F h;kernel_rfl
noncomputable def q94_18(C:YC)(lf:Nat)(r:K1)(x0 x3:O)(h:HW):Rs:=
 q94_17 C lf (fun x0 x3 h=>q94_10 C lf r x0 x3 h) x0 x3 h
theorem q94_18_eq(C:YC)(lf:Nat)(r:K1)(KN:KF)(KE:KX):∀F h,evX fx94 C lf [1,1] F h KN (fun F h=>r (F 2) h) KE=q94_18 C lf r (F 0) (F 3) h:=cSeq (a:=subX fx94 [1,1,0]) (b:=subX fx94 [1,1,1]) (by kernel_rfl) (B:=(fun F h=>q94_10 C lf r (F 0) (F 3) h)) (q94_10_eq C lf r KN KE) (q94_17_eq C lf (fun x0 x3 h=>q94_10 C lf r x0 x3 h) (fun F h=>r (F 2) h) KE)
noncomputable def q94_23(C:YC)(lf:Nat)(n:K2)(x0:O)(h:HW):Rs:=
 ob x0 fun a19=>
 ob (semNil a19) fun y20=>
 ob (fa 2 y20) fun y21=>
 ob (ld1 y21 h) fun y22=>
 n x0 (some y22) h
theorem q94_23_eq(C:YC)(lf:Nat)(n:K2)(KR:KF)(KE:KX):∀F h,evX fx94 C lf [1,0] F h (fun F h=>n (F 0) (F 3) h) KR KE=q94_23 C lf n (F 0) h:=by
 intro F h;kernel_rfl
noncomputable def q94_24(C:YC)(lf:Nat)(r:K1)(x0:O)(h:HW):Rs:=
 q94_23 C lf (fun x0 x3 h=>q94_18 C lf r x0 x3 h) x0 h
theorem q94_24_eq(C:YC)(lf:Nat)(r:K1)(KN:KF)(KE:KX):∀F h,evX fx94 C lf [1] F h KN (fun F h=>r (F 2) h) KE=q94_24 C lf r (F 0) h:=cSeq (a:=subX fx94 [1,0]) (b:=subX fx94 [1,1]) (by kernel_rfl) (B:=(fun F h=>q94_18 C lf r (F 0) (F 3) h)) (q94_18_eq C lf r KN KE) (q94_23_eq C lf (fun x0 x3 h=>q94_18 C lf r x0 x3 h) (fun F h=>r (F 2) h) KE)
noncomputable def q94_25(C:YC)(lf:Nat)(n:K1)(x0:O)(h:HW):Rs:=
 n x0 h
theorem q94_25_eq(C:YC)(lf:Nat)(n:K1)(KR:KF)(KE:KX):∀F h,evX fx94 C lf [0] F h (fun F h=>n (F 0) h) KR KE=q94_25 C lf n (F 0) h:=by
 intro F h;kernel_rfl
noncomputable def q94_26(C:YC)(lf:Nat)(r:K1)(x0:O)(h:HW):Rs:=
 q94_25 C lf (fun x0 h=>q94_24 C lf r x0 h) x0 h
theorem q94_26_eq(C:YC)(lf:Nat)(r:K1)(KN:KF)(KE:KX):∀F h,evX fx94 C lf [] F h KN (fun F h=>r (F 2) h) KE=q94_26 C lf r (F 0) h:=cSeq (a:=subX fx94 [0]) (b:=subX fx94 [1]) (by kernel_rfl) (B:=(fun F h=>q94_24 C lf r (F 0) h)) (q94_24_eq C lf r KN KE) (q94_25_eq C lf (fun x0 h=>q94_24 C lf r x0 h) (fun F h=>r (F 2) h) KE)
noncomputable def fs94(C:YC)(lf:Nat)(a0:SV)(h:HW):Rs:=q94_26 C lf ff94 (some a0) h
theorem fs94_eq(C:YC)(lf:Nat)(a0:SV)(h:HW):yFn Try.prog fx94 C lf [a0] h=fs94 C lf a0 h:=fnX (K:=(fun F h=>ff94 (F 2) h)) (by kernel_rfl) (((q94_26_eq C lf ff94 (fun F h=>ff94 (F 2) h) (fun _ _ _=>none)) _ h).trans (by kernel_rfl))
noncomputable def fy94:YX Try.prog:=Y1 fx94 fs94 fs94_eq (by kernel_rfl)
end Go.Proofs.Ytfldgookpokjeaa.Eva
namespace Go.Xe
def saysY(r:Rs):Bool:=match r with
 |some (.ret (.bool true),_)=>true
 |_=>false
theorem says_trueY{P:Program}{tab:Tr (YE P)}{lf fuel:Nat}(hm:P.follows .mixedOrders=true){f:FuncId}{ng:Nat}{objs:Hp}{args:List SV}{argv:List Value}{w:World}
 (hst:Start ng objs w)(hargs:∀E,DenL E args argv)(h:saysY ((runY tab lf fuel).call (.ent f) args ⟨ng,ng,objs⟩)=true):
 Calls P f argv.toArray w fun e w'=>e= .returned (.bool true)∧RowKit.Below w.heap.size w w':=by
 refine says_true (tab:=tab.map YE.e) (lf:=lf) (fuel:=fuel) hm hst hargs ?_;unfold saysY at h;split at h<;>try(cases h;done)
 rename_i h' he
 have:=(runY_ok tab lf fuel).1 _ _ _ _ _ he []
 have e:({ng,next:=ng,objs,orc:=[],pc:=[],dfs:=[]}:XW)=(⟨ng,ng,objs⟩:HW).xd []:=rfl;rw[e,this];rfl
end Go.Xe
namespace Go.Proofs.Ytfldgookpokjeaa.Eva
open Go.ChangeShapes Go.WideShapes Go.ChangeAt Go.RowKit Go.Xe
noncomputable def tabL{P:Program}:List (FuncId×YE P)→Tr (YE P)
 | []=> .nil
 |(f,x)::xs=>(tabL xs).put f x
noncomputable def tab:Tr (YE Try.prog):=tabL [(3,.ev fx3),(4,.fn fy4),(5,.fn fy5),(6,.fn fy6),(7,.fn fy7),(8,.fn fy8),(9,.fn fy9),(10,.fn fy10),(11,.fn fy11),(12,.fn fy12),(16,.fn fy16),(17,.fn fy17),(18,.fn fy18),(19,.fn fy19),(20,.fn fy20),(22,.fn fy22),(23,.ev fx23),(24,.fn fy24),(25,.fn fy25),(27,.ev fx27),(28,.fn fy28),(29,.fn fy29),(30,.fn fy30),(31,.fn fy31),(32,.fn fy32),(33,.fn fy33),(34,.fn fy34),(35,.fn fy35),(37,.fn fy37),(38,.fn fy38),(39,.fn fy39),(40,.fn fy40),(41,.fn fy41),(42,.fn fy42),(43,.fn fy43),(44,.fn fy44),(47,.fn fy47),(48,.fn fy48),(49,.fn fy49),(50,.fn fy50),(52,.fn fy52),(53,.fn fy53),(55,.fn fy55),(56,.fn fy56),(57,.fn fy57),(59,.fn fy59),(60,.fn fy60),(61,.nat gx61),(87,.fn fy87),(90,.fn fy90),(91,.fn fy91),(92,.fn fy92),(93,.fn fy93),(94,.fn fy94)]
theorem mixed:Try.prog.follows .mixedOrders=true:=by kernel_rfl
theorem laidOut:laidOutB Try.prog=true:=by kernel_rfl
theorem own:ownKnob Try.prog.godebug=none:=by kernel_rfl
noncomputable def objs:Hp:={tr:= .nil,base:=fun _=>none}
theorem startT{W:World}(_:laidMetH Try.prog [] W):Go.Xe.Start 0 objs W:=⟨Nat.zero_le _,fun j o hg=>by simp[objs,Hp.get,Tr.get] at hg⟩
noncomputable def laidWorld(os:Os):World:=World.holding Try.prog os ⟨#[], #[],[]⟩
end Go.Proofs.Ytfldgookpokjeaa.Eva
namespace Go.Proofs.Ytfldgookpokjeaa.regexNone
open Go.ChangeShapes Go.WideShapes Go.ChangeAt Go.RowKit Go.Xe Go.Proofs.Ytfldgookpokjeaa.Eva
set_option maxRecDepth 100000 in
theorem evalK:∀(s0:ByteArray) (n1:Int),saysY ((runY tab 100000 1000).call (.ent 3) [.val (.string s0),.val (.int .i64 n1)] ⟨0,0,objs⟩)=true:=fun s0 n1=>by kernel_rfl
end Go.Proofs.Ytfldgookpokjeaa.regexNone
