import Derived.Test.YtgofkccnmmiciaaGreatDoorCards
import Derived.Test.YtgofkccnmmiciaaGreatDoorTie
import Derived.WalkKit
import Derived.ProofKit
import Derived.OpenShut
import Derived.Deep.DeepHandedRow
import Derived.Lib.LaidTab
import Derived.Test.YtgofkccnmmiciaaGreatDoorWFaultLegalm3
import Derived.Test.YtgofkccnmmiciaaGreatDoorWFaultLegalm2
import Derived.Test.YtgofkccnmmiciaaGreatDoorWFaultLegalm4
import Derived.Test.YtgofkccnmmiciaaGreatDoorWFaultLegalm5
set_option linter.unusedSimpArgs false
set_option linter.unusedVariables false
namespace Go.Proofs.YtgofkccnmmiciaaGreatDoor.Eva
open Go.Xe
set_option maxRecDepth 100000
set_option linter.unusedVariables false
noncomputable def fx188:XF Tryz.prog:=⟨188,Tryz.f188,fun _=> .text,Tryz.func188,by kernel_rfl,by kernel_rfl,by kernel_rfl,by kernel_rfl⟩
noncomputable def ff188(x8 x9:O)(h:HW):Rs:=
 ob x8 fun a0=>
 ob x9 fun a1=>
 some (.ret (.tup [a0,a1]),h)
noncomputable def q188_3(C:YC)(lf:Nat)(r:K2)(x10:O)(h:HW):Rs:=
 ob x10 fun a2=>
 r (some a2) (some (.int .i64 0)) h
theorem q188_3_eq(C:YC)(lf:Nat)(r:K2)(KN:KF)(KE:KX): ∀ F h,evX fx188 C lf [1,1,1,1,1,1] F h KN (fun F h=>r (F 8) (F 9) h) KE=q188_3 C lf r (F 10) h:=by
 intro F h;kernel_rfl
noncomputable def q188_7(C:YC)(lf:Nat)(n:K6)(x0 x1 x3 x10 x11 x12:O)(h:HW):Rs:=
 ob x12 fun a5=>
 ob (bin Tryz.prog .add 3 a5 (.int .i64 1)) fun y6=>
 n x0 x1 x3 x10 x11 (some y6) h
theorem q188_7_eq(C:YC)(lf:Nat)(n:K6)(KR:KF)(K0:KF)(KE:KX): ∀ F h,evX fx188 C lf [1,1,1,1,1,0,1,0,0,1,1] F h (fun F h=>n (F 0) (F 1) (F 3) (F 10) (F 11) (F 12) h) KR (bk 0 K0 KE)=q188_7 C lf n (F 0) (F 1) (F 3) (F 10) (F 11) (F 12) h:=by
 intro F h;kernel_rfl
noncomputable def q188_12(C:YC)(lf:Nat)(n:K6)(x0 x1 x3 x10 x11 x12 x14:O)(h:HW):Rs:=
 ob x10 fun a8=>
 ob x14 fun a9=>
 b2 (ybs Tryz.prog 35 1 [0] [a9] h) fun y10 h10=>
 b2 (ybl Tryz.prog .append #[35,35] [a8,y10] h10) fun y11 h11=>
 n x0 x1 x3 (some y11) x11 x12 h11
theorem q188_12_eq(C:YC)(lf:Nat)(n:K6)(KR:KF)(K1:KF)(K0:KF)(KE:KX): ∀ F h,evX fx188 C lf [1,1,1,1,1,0,1,0,0,1,0,0,1,1,1] F h (fun F h=>n (F 0) (F 1) (F 3) (F 10) (F 11) (F 12) h) KR (bk 1 K1 (bk 0 K0 KE))=q188_12 C lf n (F 0) (F 1) (F 3) (F 10) (F 11) (F 12) (F 14) h:=by
 intro F h;kernel_rfl
noncomputable def q188_28(C:YC)(lf:Nat)(n:K7)(x0 x1 x3 x10 x11 x12 x13 x14:O)(h:HW):Rs:=
 ob x13 fun a13=>
 ob (bin Tryz.prog .gtr 3 a13 (.int .i64 0)) fun y14=>
 yIf y14
 (ob x0 fun a15=>
 ob (semNil a15) fun y16=>
 ob (fa 0 y16) fun y17=>
 ob (fa 1 y17) fun y18=>
 ob (ld1 y18 h) fun y19=>
 ob x13 fun a20=>
 ob (bin Tryz.prog .sub 3 a20 (.int .i64 1)) fun y21=>
 ob (ixS 1 y19 y21) fun y22=>
 ob (ld1 y22 h) fun y23=>
 ob x12 fun a24=>
 ob (bin Tryz.prog .rem 3 a24 (.int .i64 64)) fun y25=>
 ob (ixS 1 y23 y25) fun y26=>
 ob (ld1 y26 h) fun y27=>
 n x0 x1 x3 x10 x11 x12 (some y27) h)
 (n x0 x1 x3 x10 x11 x12 x14 h)
theorem q188_28_eq(C:YC)(lf:Nat)(n:K7)(KR:KF)(K1:KF)(K0:KF)(KE:KX): ∀ F h,evX fx188 C lf [1,1,1,1,1,0,1,0,0,1,0,0,1,1,0] F h (fun F h=>n (F 0) (F 1) (F 3) (F 10) (F 11) (F 12) (F 14) h) KR (bk 1 K1 (bk 0 K0 KE))=q188_28 C lf n (F 0) (F 1) (F 3) (F 10) (F 11) (F 12) (F 13) (F 14) h:=by
 intro F h;kernel_rfl
noncomputable def q188_29(C:YC)(lf:Nat)(n:K6)(x0 x1 x3 x10 x11 x12 x13 x14:O)(h:HW):Rs:=
 q188_28 C lf (fun x0 x1 x3 x10 x11 x12 x14 h=>q188_12 C lf n x0 x1 x3 x10 x11 x12 x14 h) x0 x1 x3 x10 x11 x12 x13 x14 h
theorem q188_29_eq(C:YC)(lf:Nat)(n:K6)(KR:KF)(K1:KF)(K0:KF)(KE:KX): ∀ F h,evX fx188 C lf [1,1,1,1,1,0,1,0,0,1,0,0,1,1] F h (fun F h=>n (F 0) (F 1) (F 3) (F 10) (F 11) (F 12) h) KR (bk 1 K1 (bk 0 K0 KE))=q188_29 C lf n (F 0) (F 1) (F 3) (F 10) (F 11) (F 12) (F 13) (F 14) h:=cSeq (a:=subX fx188 [1,1,1,1,1,0,1,0,0,1,0,0,1,1,0]) (b:=subX fx188 [1,1,1,1,1,0,1,0,0,1,0,0,1,1,1]) (by kernel_rfl) (B:=(fun F h=>q188_12 C lf n (F 0) (F 1) (F 3) (F 10) (F 11) (F 12) (F 14) h)) (q188_12_eq C lf n KR K1 K0 KE) (q188_28_eq C lf (fun x0 x1 x3 x10 x11 x12 x14 h=>q188_12 C lf n x0 x1 x3 x10 x11 x12 x14 h) KR K1 K0 KE)
noncomputable def q188_30(C:YC)(lf:Nat)(n:K8)(x0 x1 x3 x10 x11 x12 x13:O)(h:HW):Rs:=
 n x0 x1 x3 x10 x11 x12 x13 (some (.int .u8 0)) h
theorem q188_30_eq(C:YC)(lf:Nat)(n:K8)(KR:KF)(K1:KF)(K0:KF)(KE:KX): ∀ F h,evX fx188 C lf [1,1,1,1,1,0,1,0,0,1,0,0,1,0] F h (fun F h=>n (F 0) (F 1) (F 3) (F 10) (F 11) (F 12) (F 13) (F 14) h) KR (bk 1 K1 (bk 0 K0 KE))=q188_30 C lf n (F 0) (F 1) (F 3) (F 10) (F 11) (F 12) (F 13) h:=by
 intro F h;kernel_rfl
noncomputable def q188_31(C:YC)(lf:Nat)(n:K6)(x0 x1 x3 x10 x11 x12 x13:O)(h:HW):Rs:=
 q188_30 C lf (fun x0 x1 x3 x10 x11 x12 x13 x14 h=>q188_29 C lf n x0 x1 x3 x10 x11 x12 x13 x14 h) x0 x1 x3 x10 x11 x12 x13 h
theorem q188_31_eq(C:YC)(lf:Nat)(n:K6)(KR:KF)(K1:KF)(K0:KF)(KE:KX): ∀ F h,evX fx188 C lf [1,1,1,1,1,0,1,0,0,1,0,0,1] F h (fun F h=>n (F 0) (F 1) (F 3) (F 10) (F 11) (F 12) h) KR (bk 1 K1 (bk 0 K0 KE))=q188_31 C lf n (F 0) (F 1) (F 3) (F 10) (F 11) (F 12) (F 13) h:=cSeq (a:=subX fx188 [1,1,1,1,1,0,1,0,0,1,0,0,1,0]) (b:=subX fx188 [1,1,1,1,1,0,1,0,0,1,0,0,1,1]) (by kernel_rfl) (B:=(fun F h=>q188_29 C lf n (F 0) (F 1) (F 3) (F 10) (F 11) (F 12) (F 13) (F 14) h)) (q188_29_eq C lf n KR K1 K0 KE) (q188_30_eq C lf (fun x0 x1 x3 x10 x11 x12 x13 x14 h=>q188_29 C lf n x0 x1 x3 x10 x11 x12 x13 x14 h) KR K1 K0 KE)
noncomputable def q188_43(C:YC)(lf:Nat)(n:K7)(x0 x1 x3 x10 x11 x12:O)(h:HW):Rs:=
 ob x0 fun a32=>
 ob (semNil a32) fun y33=>
 ob (fa 4 y33) fun y34=>
 ob (ld1 y34 h) fun y35=>
 ob x1 fun a36=>
 ob x12 fun a37=>
 ob (bin Tryz.prog .quo 3 a37 (.int .i64 64)) fun y38=>
 ob (ixS 308 y35 a36) fun y39=>
 ob (fa 12 y39) fun y40=>
 ob (ixA 278 1 y40 y38) fun y41=>
 ob (ld1 y41 h) fun y42=>
 n x0 x1 x3 x10 x11 x12 (some y42) h
theorem q188_43_eq(C:YC)(lf:Nat)(n:K7)(KR:KF)(K1:KF)(K0:KF)(KE:KX): ∀ F h,evX fx188 C lf [1,1,1,1,1,0,1,0,0,1,0,0,0] F h (fun F h=>n (F 0) (F 1) (F 3) (F 10) (F 11) (F 12) (F 13) h) KR (bk 1 K1 (bk 0 K0 KE))=q188_43 C lf n (F 0) (F 1) (F 3) (F 10) (F 11) (F 12) h:=by
 intro F h;kernel_rfl
noncomputable def q188_44(C:YC)(lf:Nat)(n:K6)(x0 x1 x3 x10 x11 x12:O)(h:HW):Rs:=
 q188_43 C lf (fun x0 x1 x3 x10 x11 x12 x13 h=>q188_31 C lf n x0 x1 x3 x10 x11 x12 x13 h) x0 x1 x3 x10 x11 x12 h
theorem q188_44_eq(C:YC)(lf:Nat)(n:K6)(KR:KF)(K1:KF)(K0:KF)(KE:KX): ∀ F h,evX fx188 C lf [1,1,1,1,1,0,1,0,0,1,0,0] F h (fun F h=>n (F 0) (F 1) (F 3) (F 10) (F 11) (F 12) h) KR (bk 1 K1 (bk 0 K0 KE))=q188_44 C lf n (F 0) (F 1) (F 3) (F 10) (F 11) (F 12) h:=cSeq (a:=subX fx188 [1,1,1,1,1,0,1,0,0,1,0,0,0]) (b:=subX fx188 [1,1,1,1,1,0,1,0,0,1,0,0,1]) (by kernel_rfl) (B:=(fun F h=>q188_31 C lf n (F 0) (F 1) (F 3) (F 10) (F 11) (F 12) (F 13) h)) (q188_31_eq C lf n KR K1 K0 KE) (q188_43_eq C lf (fun x0 x1 x3 x10 x11 x12 x13 h=>q188_31 C lf n x0 x1 x3 x10 x11 x12 x13 h) KR K1 K0 KE)
noncomputable def q188_45(C:YC)(lf:Nat)(n:K6)(x0 x1 x3 x10 x11 x12:O)(h:HW):Rs:=
 q188_44 C lf (fun x0 x1 x3 x10 x11 x12 h=>q188_7 C lf n x0 x1 x3 x10 x11 x12 h) x0 x1 x3 x10 x11 x12 h
theorem q188_45_eq(C:YC)(lf:Nat)(n:K6)(KR:KF)(K0:KF)(KE:KX): ∀ F h,evX fx188 C lf [1,1,1,1,1,0,1,0,0,1] F h (fun F h=>n (F 0) (F 1) (F 3) (F 10) (F 11) (F 12) h) KR (bk 0 K0 KE)=q188_45 C lf n (F 0) (F 1) (F 3) (F 10) (F 11) (F 12) h:=cSeq (a:=subX fx188 [1,1,1,1,1,0,1,0,0,1,0]) (b:=subX fx188 [1,1,1,1,1,0,1,0,0,1,1]) (by kernel_rfl) (B:=(fun F h=>q188_7 C lf n (F 0) (F 1) (F 3) (F 10) (F 11) (F 12) h)) (q188_7_eq C lf n KR K0 KE) (cBlock (id:=1) (a:=subX fx188 [1,1,1,1,1,0,1,0,0,1,0,0]) (by kernel_rfl) (q188_44_eq C lf (fun x0 x1 x3 x10 x11 x12 h=>q188_7 C lf n x0 x1 x3 x10 x11 x12 h) KR (fun F h=>q188_7 C lf n (F 0) (F 1) (F 3) (F 10) (F 11) (F 12) h) K0 KE))
noncomputable def q188_58(C:YC)(lf:Nat)(n:K6)(e0:K1)(x0 x1 x3 x10 x11 x12:O)(h:HW):Rs:=
 ob x12 fun a46=>
 ob x11 fun a47=>
 ob (bin Tryz.prog .lss 3 a46 a47) fun y48=>
 bc (gd true (some y48) (ob x10 fun a49=>
 some (.ret a49,h)) h) fun y50 h50=>
 bc (gd true (some y48) (ob (lenE Tryz.prog 35 y50) fun y51=>
 some (.ret y51,h50)) h50) fun y52 h52=>
 bc (gd true (some y48) (ob x3 fun a53=>
 some (.ret a53,h52)) h52) fun y54 h54=>
 bc (gd true (some y48) (ob (bin Tryz.prog .lss 3 y52 y54) fun y55=>
 some (.ret y55,h54)) h54) fun y56 h56=>
 ob (ypk y48 y56 (.bool false)) fun y57=>
 yIf y57
 (n x0 x1 x3 x10 x11 x12 h56)
 (e0 x10 h56)
theorem q188_58_eq(C:YC)(lf:Nat)(n:K6)(e0:K1)(KR:KF)(KE:KX): ∀ F h,evX fx188 C lf [1,1,1,1,1,0,1,0,0,0] F h (fun F h=>n (F 0) (F 1) (F 3) (F 10) (F 11) (F 12) h) KR (bk 0 (fun F h=>e0 (F 10) h) KE)=q188_58 C lf n e0 (F 0) (F 1) (F 3) (F 10) (F 11) (F 12) h:=by
 intro F h;kernel_rfl
noncomputable def q188_59(C:YC)(lf:Nat)(n:K6)(e0:K1)(x0 x1 x3 x10 x11 x12:O)(h:HW):Rs:=
 q188_58 C lf (fun x0 x1 x3 x10 x11 x12 h=>q188_45 C lf n x0 x1 x3 x10 x11 x12 h) e0 x0 x1 x3 x10 x11 x12 h
theorem q188_59_eq(C:YC)(lf:Nat)(n:K6)(e0:K1)(KR:KF)(KE:KX): ∀ F h,evX fx188 C lf [1,1,1,1,1,0,1,0,0] F h (fun F h=>n (F 0) (F 1) (F 3) (F 10) (F 11) (F 12) h) KR (bk 0 (fun F h=>e0 (F 10) h) KE)=q188_59 C lf n e0 (F 0) (F 1) (F 3) (F 10) (F 11) (F 12) h:=cSeq (a:=subX fx188 [1,1,1,1,1,0,1,0,0,0]) (b:=subX fx188 [1,1,1,1,1,0,1,0,0,1]) (by kernel_rfl) (B:=(fun F h=>q188_45 C lf n (F 0) (F 1) (F 3) (F 10) (F 11) (F 12) h)) (q188_45_eq C lf n KR (fun F h=>e0 (F 10) h) KE) (q188_58_eq C lf (fun x0 x1 x3 x10 x11 x12 h=>q188_45 C lf n x0 x1 x3 x10 x11 x12 h) e0 KR KE)
noncomputable def l188_4(C:YC)(lf:Nat)(e0:K1)(k:O × O × O × O × O × O→HW→Rs)(s:O × O × O × O × O × O)(h:HW):Rs:=
 q188_59 C lf (fun x0 x1 x3 x10 x11 x12 h=>k (x0,x1,x3,x10,x11,x12) h) e0 s.1 s.2.1 s.2.2.1 s.2.2.2.1 s.2.2.2.2.1 s.2.2.2.2.2 h
noncomputable def q188_61(C:YC)(lf:Nat)(n:K6)(x0 x1 x2 x3 x10 x11:O)(h:HW):Rs:=
 ob x2 fun a60=>
 n x0 x1 x3 x10 x11 (some a60) h
theorem q188_61_eq(C:YC)(lf:Nat)(n:K6)(KR:KF)(KE:KX): ∀ F h,evX fx188 C lf [1,1,1,1,1,0,0] F h (fun F h=>n (F 0) (F 1) (F 3) (F 10) (F 11) (F 12) h) KR KE=q188_61 C lf n (F 0) (F 1) (F 2) (F 3) (F 10) (F 11) h:=by
 intro F h;kernel_rfl
noncomputable def q188_62(C:YC)(lf:Nat)(n:K1)(x0 x1 x2 x3 x10 x11:O)(h:HW):Rs:=
 q188_61 C lf (fun x0 x1 x3 x10 x11 x12 h=>lp (l188_4 C lf n) lf (x0,x1,x3,x10,x11,x12) h) x0 x1 x2 x3 x10 x11 h
theorem q188_62_eq(C:YC)(lf:Nat)(n:K1)(KR:KF)(KE:KX): ∀ F h,evX fx188 C lf [1,1,1,1,1,0] F h (fun F h=>n (F 10) h) KR KE=q188_62 C lf n (F 0) (F 1) (F 2) (F 3) (F 10) (F 11) h:=cSeq (a:=subX fx188 [1,1,1,1,1,0,0]) (b:=subX fx188 [1,1,1,1,1,0,1]) (by kernel_rfl) (B:=(fun F h=>lp (l188_4 C lf n) lf ((F 0),(F 1),(F 3),(F 10),(F 11),(F 12)) h)) (cBlock (id:=0) (a:=subX fx188 [1,1,1,1,1,0,1,0]) (by kernel_rfl) (cLoop (a:=subX fx188 [1,1,1,1,1,0,1,0,0]) (g:=fun F=>(F 0,F 1,F 3,F 10,F 11,F 12)) (body:=l188_4 C lf n) (by kernel_rfl) (fun k=>(q188_59_eq C lf (fun x0 x1 x3 x10 x11 x12 h=>k (x0,x1,x3,x10,x11,x12) h) n KR KE)))) (q188_61_eq C lf (fun x0 x1 x3 x10 x11 x12 h=>lp (l188_4 C lf n) lf (x0,x1,x3,x10,x11,x12) h) KR KE)
noncomputable def q188_63(C:YC)(lf:Nat)(r:K2)(x0 x1 x2 x3 x10 x11:O)(h:HW):Rs:=
 q188_62 C lf (fun x10 h=>q188_3 C lf r x10 h) x0 x1 x2 x3 x10 x11 h
theorem q188_63_eq(C:YC)(lf:Nat)(r:K2)(KN:KF)(KE:KX): ∀ F h,evX fx188 C lf [1,1,1,1,1] F h KN (fun F h=>r (F 8) (F 9) h) KE=q188_63 C lf r (F 0) (F 1) (F 2) (F 3) (F 10) (F 11) h:=cSeq (a:=subX fx188 [1,1,1,1,1,0]) (b:=subX fx188 [1,1,1,1,1,1]) (by kernel_rfl) (B:=(fun F h=>q188_3 C lf r (F 10) h)) (q188_3_eq C lf r KN KE) (q188_62_eq C lf (fun x10 h=>q188_3 C lf r x10 h) (fun F h=>r (F 8) (F 9) h) KE)
noncomputable def q188_73(C:YC)(lf:Nat)(n:K6)(x0 x1 x2 x3 x10:O)(h:HW):Rs:=
 ob x0 fun a64=>
 ob (semNil a64) fun y65=>
 ob (fa 4 y65) fun y66=>
 ob (ld1 y66 h) fun y67=>
 ob x1 fun a68=>
 ob (ixS 308 y67 a68) fun y69=>
 ob (fa 1 y69) fun y70=>
 ob (fa 4 y70) fun y71=>
 ob (ld1 y71 h) fun y72=>
 n x0 x1 x2 x3 x10 (some y72) h
theorem q188_73_eq(C:YC)(lf:Nat)(n:K6)(KR:KF)(KE:KX): ∀ F h,evX fx188 C lf [1,1,1,1,0] F h (fun F h=>n (F 0) (F 1) (F 2) (F 3) (F 10) (F 11) h) KR KE=q188_73 C lf n (F 0) (F 1) (F 2) (F 3) (F 10) h:=by
 intro F h;kernel_rfl
noncomputable def q188_74(C:YC)(lf:Nat)(r:K2)(x0 x1 x2 x3 x10:O)(h:HW):Rs:=
 q188_73 C lf (fun x0 x1 x2 x3 x10 x11 h=>q188_63 C lf r x0 x1 x2 x3 x10 x11 h) x0 x1 x2 x3 x10 h
theorem q188_74_eq(C:YC)(lf:Nat)(r:K2)(KN:KF)(KE:KX): ∀ F h,evX fx188 C lf [1,1,1,1] F h KN (fun F h=>r (F 8) (F 9) h) KE=q188_74 C lf r (F 0) (F 1) (F 2) (F 3) (F 10) h:=cSeq (a:=subX fx188 [1,1,1,1,0]) (b:=subX fx188 [1,1,1,1,1]) (by kernel_rfl) (B:=(fun F h=>q188_63 C lf r (F 0) (F 1) (F 2) (F 3) (F 10) (F 11) h)) (q188_63_eq C lf r KN KE) (q188_73_eq C lf (fun x0 x1 x2 x3 x10 x11 h=>q188_63 C lf r x0 x1 x2 x3 x10 x11 h) (fun F h=>r (F 8) (F 9) h) KE)
noncomputable def q188_75(C:YC)(lf:Nat)(n:K5)(x0 x1 x2 x3:O)(h:HW):Rs:=
 n x0 x1 x2 x3 (some (.val (.slice none 0 0))) h
theorem q188_75_eq(C:YC)(lf:Nat)(n:K5)(KR:KF)(KE:KX): ∀ F h,evX fx188 C lf [1,1,1,0] F h (fun F h=>n (F 0) (F 1) (F 2) (F 3) (F 10) h) KR KE=q188_75 C lf n (F 0) (F 1) (F 2) (F 3) h:=by
 intro F h;kernel_rfl
noncomputable def q188_76(C:YC)(lf:Nat)(r:K2)(x0 x1 x2 x3:O)(h:HW):Rs:=
 q188_75 C lf (fun x0 x1 x2 x3 x10 h=>q188_74 C lf r x0 x1 x2 x3 x10 h) x0 x1 x2 x3 h
theorem q188_76_eq(C:YC)(lf:Nat)(r:K2)(KN:KF)(KE:KX): ∀ F h,evX fx188 C lf [1,1,1] F h KN (fun F h=>r (F 8) (F 9) h) KE=q188_76 C lf r (F 0) (F 1) (F 2) (F 3) h:=cSeq (a:=subX fx188 [1,1,1,0]) (b:=subX fx188 [1,1,1,1]) (by kernel_rfl) (B:=(fun F h=>q188_74 C lf r (F 0) (F 1) (F 2) (F 3) (F 10) h)) (q188_74_eq C lf r KN KE) (q188_75_eq C lf (fun x0 x1 x2 x3 x10 h=>q188_74 C lf r x0 x1 x2 x3 x10 h) (fun F h=>r (F 8) (F 9) h) KE)
noncomputable def q188_84(C:YC)(lf:Nat)(n:K4)(r:K2)(x0 x1 x2 x3:O)(h:HW):Rs:=
 ob x2 fun a77=>
 ob (bin Tryz.prog .lss 3 a77 (.int .i64 0)) fun y78=>
 bc (gd false (some y78) (ob x3 fun a79=>
 some (.ret a79,h)) h) fun y80 h80=>
 bc (gd false (some y78) (ob (bin Tryz.prog .lss 3 y80 (.int .i64 0)) fun y81=>
 some (.ret y81,h80)) h80) fun y82 h82=>
 ob (ypk y78 (.bool true) y82) fun y83=>
 yIf y83
 (r (some (.val (.slice none 0 0))) (some (.int .i64 22)) h82)
 (n x0 x1 x2 x3 h82)
theorem q188_84_eq(C:YC)(lf:Nat)(n:K4)(r:K2)(KE:KX): ∀ F h,evX fx188 C lf [1,1,0] F h (fun F h=>n (F 0) (F 1) (F 2) (F 3) h) (fun F h=>r (F 8) (F 9) h) KE=q188_84 C lf n r (F 0) (F 1) (F 2) (F 3) h:=by
 intro F h;kernel_rfl
noncomputable def q188_85(C:YC)(lf:Nat)(r:K2)(x0 x1 x2 x3:O)(h:HW):Rs:=
 q188_84 C lf (fun x0 x1 x2 x3 h=>q188_76 C lf r x0 x1 x2 x3 h) r x0 x1 x2 x3 h
theorem q188_85_eq(C:YC)(lf:Nat)(r:K2)(KN:KF)(KE:KX): ∀ F h,evX fx188 C lf [1,1] F h KN (fun F h=>r (F 8) (F 9) h) KE=q188_85 C lf r (F 0) (F 1) (F 2) (F 3) h:=cSeq (a:=subX fx188 [1,1,0]) (b:=subX fx188 [1,1,1]) (by kernel_rfl) (B:=(fun F h=>q188_76 C lf r (F 0) (F 1) (F 2) (F 3) h)) (q188_76_eq C lf r KN KE) (q188_84_eq C lf (fun x0 x1 x2 x3 h=>q188_76 C lf r x0 x1 x2 x3 h) r KE)
noncomputable def q188_90(C:YC)(lf:Nat)(n:K4)(r:K2)(x0 x1 x2 x3:O)(h:HW):Rs:=
 ob x0 fun a86=>
 ob x1 fun a87=>
 bc (C (.fn 75) [a86,a87] h) fun y88 h88=>
 ob (unE .not y88) fun y89=>
 yIf y89
 (r (some (.val (.slice none 0 0))) (some (.int .i64 2)) h88)
 (n x0 x1 x2 x3 h88)
theorem q188_90_eq(C:YC)(lf:Nat)(n:K4)(r:K2)(KE:KX): ∀ F h,evX fx188 C lf [1,0] F h (fun F h=>n (F 0) (F 1) (F 2) (F 3) h) (fun F h=>r (F 8) (F 9) h) KE=q188_90 C lf n r (F 0) (F 1) (F 2) (F 3) h:=by
 intro F h;kernel_rfl
noncomputable def q188_91(C:YC)(lf:Nat)(r:K2)(x0 x1 x2 x3:O)(h:HW):Rs:=
 q188_90 C lf (fun x0 x1 x2 x3 h=>q188_85 C lf r x0 x1 x2 x3 h) r x0 x1 x2 x3 h
theorem q188_91_eq(C:YC)(lf:Nat)(r:K2)(KN:KF)(KE:KX): ∀ F h,evX fx188 C lf [1] F h KN (fun F h=>r (F 8) (F 9) h) KE=q188_91 C lf r (F 0) (F 1) (F 2) (F 3) h:=cSeq (a:=subX fx188 [1,0]) (b:=subX fx188 [1,1]) (by kernel_rfl) (B:=(fun F h=>q188_85 C lf r (F 0) (F 1) (F 2) (F 3) h)) (q188_85_eq C lf r KN KE) (q188_90_eq C lf (fun x0 x1 x2 x3 h=>q188_85 C lf r x0 x1 x2 x3 h) r KE)
noncomputable def q188_92(C:YC)(lf:Nat)(n:K4)(x0 x1 x2 x3:O)(h:HW):Rs:=
 n x0 x1 x2 x3 h
theorem q188_92_eq(C:YC)(lf:Nat)(n:K4)(KR:KF)(KE:KX): ∀ F h,evX fx188 C lf [0] F h (fun F h=>n (F 0) (F 1) (F 2) (F 3) h) KR KE=q188_92 C lf n (F 0) (F 1) (F 2) (F 3) h:=by
 intro F h;kernel_rfl
noncomputable def q188_93(C:YC)(lf:Nat)(r:K2)(x0 x1 x2 x3:O)(h:HW):Rs:=
 q188_92 C lf (fun x0 x1 x2 x3 h=>q188_91 C lf r x0 x1 x2 x3 h) x0 x1 x2 x3 h
theorem q188_93_eq(C:YC)(lf:Nat)(r:K2)(KN:KF)(KE:KX): ∀ F h,evX fx188 C lf [] F h KN (fun F h=>r (F 8) (F 9) h) KE=q188_93 C lf r (F 0) (F 1) (F 2) (F 3) h:=cSeq (a:=subX fx188 [0]) (b:=subX fx188 [1]) (by kernel_rfl) (B:=(fun F h=>q188_91 C lf r (F 0) (F 1) (F 2) (F 3) h)) (q188_91_eq C lf r KN KE) (q188_92_eq C lf (fun x0 x1 x2 x3 h=>q188_91 C lf r x0 x1 x2 x3 h) (fun F h=>r (F 8) (F 9) h) KE)
noncomputable def fs188(C:YC)(lf:Nat)(a0 a1 a2 a3:SV)(h:HW):Rs:=q188_93 C lf ff188 (some a0) (some a1) (some a2) (some a3) h
theorem fs188_eq(C:YC)(lf:Nat)(a0 a1 a2 a3:SV)(h:HW):yFn Tryz.prog fx188 C lf [a0,a1,a2,a3] h=fs188 C lf a0 a1 a2 a3 h:=fnX (K:=(fun F h=>ff188 (F 8) (F 9) h)) (by kernel_rfl) (((q188_93_eq C lf ff188 (fun F h=>ff188 (F 8) (F 9) h) (fun _ _ _=>none)) _ h).trans (by kernel_rfl))
noncomputable def fy188:YX Tryz.prog:=Y4 fx188 fs188 fs188_eq (by kernel_rfl)
noncomputable def fx189:XF Tryz.prog:=⟨189,Tryz.f189,fun _=> .text,Tryz.func189,by kernel_rfl,by kernel_rfl,by kernel_rfl,by kernel_rfl⟩
noncomputable def ff189(x4 x5:O)(h:HW):Rs:=
 ob x4 fun a0=>
 ob x5 fun a1=>
 some (.ret (.tup [a0,a1]),h)
noncomputable def q189_15(C:YC)(lf:Nat)(r:K2)(x0 x1:O)(h:HW):Rs:=
 ob x0 fun a2=>
 ob x1 fun a3=>
 bc (C (.fn 200) [a2,a3] h) fun y4 h4=>
 ob (ext 0 y4) fun y5=>
 ob (ext 1 y4) fun y6=>
 ob (ext 2 y4) fun y7=>
 ob (bin Tryz.prog .neq 3 y7 (.int .i64 0)) fun y8=>
 yIf y8
 (r (some (.int .i64 0)) (some y7) h4)
 (ob x0 fun a9=>
 ob x1 fun a10=>
 bc (C (.fn 159) [a9,a10] h4) fun y11 h11=>
 ob (lenE Tryz.prog 147 y11) fun y12=>
 ob (lenE Tryz.prog 117 y5) fun y13=>
 ob (bin Tryz.prog .sub 3 y12 y13) fun y14=>
 r (some y14) (some (.int .i64 0)) h11)
theorem q189_15_eq(C:YC)(lf:Nat)(r:K2)(KN:KF)(KE:KX): ∀ F h,evX fx189 C lf [] F h KN (fun F h=>r (F 4) (F 5) h) KE=q189_15 C lf r (F 0) (F 1) h:=by
 intro F h;kernel_rfl
noncomputable def fs189(C:YC)(lf:Nat)(a0 a1:SV)(h:HW):Rs:=q189_15 C lf ff189 (some a0) (some a1) h
theorem fs189_eq(C:YC)(lf:Nat)(a0 a1:SV)(h:HW):yFn Tryz.prog fx189 C lf [a0,a1] h=fs189 C lf a0 a1 h:=fnX (K:=(fun F h=>ff189 (F 4) (F 5) h)) (by kernel_rfl) (((q189_15_eq C lf ff189 (fun F h=>ff189 (F 4) (F 5) h) (fun _ _ _=>none)) _ h).trans (by kernel_rfl))
noncomputable def fy189:YX Tryz.prog:=Y2 fx189 fs189 fs189_eq (by kernel_rfl)
noncomputable def fx190:XF Tryz.prog:=⟨190,Tryz.f190,fun _=> .text,Tryz.func190,by kernel_rfl,by kernel_rfl,by kernel_rfl,by kernel_rfl⟩
noncomputable def ff190(x2:O)(h:HW):Rs:=
 ob x2 fun a0=>
 some (.ret a0,h)
noncomputable def q190_6(C:YC)(lf:Nat)(r:K1)(x0:O)(h:HW):Rs:=
 ob x0 fun a1=>
 ob (bin Tryz.prog .eql 9 a1 (.str (bs []))) fun y2=>
 yIf y2
 (r (some (.int .i64 22)) h)
 (ob x0 fun a3=>
 ob (lenE Tryz.prog 9 a3) fun y4=>
 ob (bin Tryz.prog .gtr 3 y4 (.int .i64 27)) fun y5=>
 yIf y5
 (r (some (.int .i64 36)) h)
 (r (some (.int .i64 0)) h))
theorem q190_6_eq(C:YC)(lf:Nat)(r:K1)(KN:KF)(KE:KX): ∀ F h,evX fx190 C lf [1,1] F h KN (fun F h=>r (F 2) h) KE=q190_6 C lf r (F 0) h:=by
 intro F h;kernel_rfl
noncomputable def q190_25(C:YC)(lf:Nat)(n:K3)(r:K1)(e0:K1)(x0 x5 x6:O)(h:HW):Rs:=
 ob x6 fun a8=>
 ob x5 fun a9=>
 ob (bin Tryz.prog .lss 3 a8 a9) fun y10=>
 yIf y10
 (ob x6 fun a11=>
 ob x0 fun a12=>
 ob (semIndex Tryz.prog 9 a12 a11) fun y13=>
 ob (bin Tryz.prog .eql 5 y13 (.int .u8 47)) fun y14=>
 bc (gd false (some y14) (ob x0 fun a15=>
 some (.ret a15,h)) h) fun y16 h16=>
 bc (gd false (some y14) (some (.ret a11,h16)) h16) fun y17 h17=>
 bc (gd false (some y14) (ob (semIndex Tryz.prog 9 y16 y17) fun y18=>
 some (.ret y18,h17)) h17) fun y19 h19=>
 bc (gd false (some y14) (ob (bin Tryz.prog .eql 5 y19 (.int .u8 0)) fun y20=>
 some (.ret y20,h19)) h19) fun y21 h21=>
 ob (ypk y14 (.bool true) y21) fun y22=>
 yIf y22
 (r (some (.int .i64 22)) h21)
 (ob x6 fun a23=>
 ob (bin Tryz.prog .add 3 a23 (.int .i64 1)) fun y24=>
 n x0 x5 (some y24) h21))
 (e0 x0 h)
theorem q190_25_eq(C:YC)(lf:Nat)(n:K3)(r:K1)(e0:K1)(KE:KX): ∀ F h,evX fx190 C lf [1,0,1,0,0] F h (fun F h=>n (F 0) (F 5) (F 6) h) (fun F h=>r (F 2) h) (bk 0 (fun F h=>e0 (F 0) h) KE)=q190_25 C lf n r e0 (F 0) (F 5) (F 6) h:=by
 intro F h;kernel_rfl
noncomputable def l190_7(C:YC)(lf:Nat)(r:K1)(e0:K1)(k:O × O × O→HW→Rs)(s:O × O × O)(h:HW):Rs:=
 q190_25 C lf (fun x0 x5 x6 h=>k (x0,x5,x6) h) r e0 s.1 s.2.1 s.2.2 h
noncomputable def q190_28(C:YC)(lf:Nat)(n:K3)(x0:O)(h:HW):Rs:=
 ob x0 fun a26=>
 ob (lenE Tryz.prog 9 a26) fun y27=>
 n x0 (some y27) (some (.int .i64 0)) h
theorem q190_28_eq(C:YC)(lf:Nat)(n:K3)(KR:KF)(KE:KX): ∀ F h,evX fx190 C lf [1,0,0] F h (fun F h=>n (F 0) (F 5) (F 6) h) KR KE=q190_28 C lf n (F 0) h:=by
 intro F h;kernel_rfl
noncomputable def q190_29(C:YC)(lf:Nat)(n:K1)(r:K1)(x0:O)(h:HW):Rs:=
 q190_28 C lf (fun x0 x5 x6 h=>lp (l190_7 C lf r n) lf (x0,x5,x6) h) x0 h
theorem q190_29_eq(C:YC)(lf:Nat)(n:K1)(r:K1)(KE:KX): ∀ F h,evX fx190 C lf [1,0] F h (fun F h=>n (F 0) h) (fun F h=>r (F 2) h) KE=q190_29 C lf n r (F 0) h:=cSeq (a:=subX fx190 [1,0,0]) (b:=subX fx190 [1,0,1]) (by kernel_rfl) (B:=(fun F h=>lp (l190_7 C lf r n) lf ((F 0),(F 5),(F 6)) h)) (cBlock (id:=0) (a:=subX fx190 [1,0,1,0]) (by kernel_rfl) (cLoop (a:=subX fx190 [1,0,1,0,0]) (g:=fun F=>(F 0,F 5,F 6)) (body:=l190_7 C lf r n) (by kernel_rfl) (fun k=>(q190_25_eq C lf (fun x0 x5 x6 h=>k (x0,x5,x6) h) r n KE)))) (q190_28_eq C lf (fun x0 x5 x6 h=>lp (l190_7 C lf r n) lf (x0,x5,x6) h) (fun F h=>r (F 2) h) KE)
noncomputable def q190_30(C:YC)(lf:Nat)(r:K1)(x0:O)(h:HW):Rs:=
 q190_29 C lf (fun x0 h=>q190_6 C lf r x0 h) r x0 h
theorem q190_30_eq(C:YC)(lf:Nat)(r:K1)(KN:KF)(KE:KX): ∀ F h,evX fx190 C lf [1] F h KN (fun F h=>r (F 2) h) KE=q190_30 C lf r (F 0) h:=cSeq (a:=subX fx190 [1,0]) (b:=subX fx190 [1,1]) (by kernel_rfl) (B:=(fun F h=>q190_6 C lf r (F 0) h)) (q190_6_eq C lf r KN KE) (q190_29_eq C lf (fun x0 h=>q190_6 C lf r x0 h) r KE)
noncomputable def q190_31(C:YC)(lf:Nat)(n:K1)(x0:O)(h:HW):Rs:=
 n x0 h
theorem q190_31_eq(C:YC)(lf:Nat)(n:K1)(KR:KF)(KE:KX): ∀ F h,evX fx190 C lf [0] F h (fun F h=>n (F 0) h) KR KE=q190_31 C lf n (F 0) h:=by
 intro F h;kernel_rfl
noncomputable def q190_32(C:YC)(lf:Nat)(r:K1)(x0:O)(h:HW):Rs:=
 q190_31 C lf (fun x0 h=>q190_30 C lf r x0 h) x0 h
theorem q190_32_eq(C:YC)(lf:Nat)(r:K1)(KN:KF)(KE:KX): ∀ F h,evX fx190 C lf [] F h KN (fun F h=>r (F 2) h) KE=q190_32 C lf r (F 0) h:=cSeq (a:=subX fx190 [0]) (b:=subX fx190 [1]) (by kernel_rfl) (B:=(fun F h=>q190_30 C lf r (F 0) h)) (q190_30_eq C lf r KN KE) (q190_31_eq C lf (fun x0 h=>q190_30 C lf r x0 h) (fun F h=>r (F 2) h) KE)
noncomputable def fs190(C:YC)(lf:Nat)(a0:SV)(h:HW):Rs:=q190_32 C lf ff190 (some a0) h
theorem fs190_eq(C:YC)(lf:Nat)(a0:SV)(h:HW):yFn Tryz.prog fx190 C lf [a0] h=fs190 C lf a0 h:=fnX (K:=(fun F h=>ff190 (F 2) h)) (by kernel_rfl) (((q190_32_eq C lf ff190 (fun F h=>ff190 (F 2) h) (fun _ _ _=>none)) _ h).trans (by kernel_rfl))
noncomputable def fy190:YX Tryz.prog:=Y1 fx190 fs190 fs190_eq (by kernel_rfl)
noncomputable def fx191:XF Tryz.prog:=⟨191,Tryz.f191,fun _=> .text,Tryz.func191,by kernel_rfl,by kernel_rfl,by kernel_rfl,by kernel_rfl⟩
noncomputable def ff191(x2:O)(h:HW):Rs:=
 ob x2 fun a0=>
 some (.ret a0,h)
noncomputable def q191_5(C:YC)(lf:Nat)(r:K1)(x0 x3:O)(h:HW):Rs:=
 ob x0 fun a1=>
 ob x3 fun a2=>
 ob (semSlice Tryz.prog 35 a1 (some (.int .i64 4)) (some a2)) fun y3=>
 b2 (ycv Tryz.prog 35 9 y3 h) fun y4 h4=>
 r (some y4) h4
theorem q191_5_eq(C:YC)(lf:Nat)(r:K1)(KN:KF)(KE:KX): ∀ F h,evX fx191 C lf [1,1,1] F h KN (fun F h=>r (F 2) h) KE=q191_5 C lf r (F 0) (F 3) h:=by
 intro F h;kernel_rfl
noncomputable def q191_22(C:YC)(lf:Nat)(n:K2)(e0:K2)(x0 x3:O)(h:HW):Rs:=
 ob x3 fun a7=>
 ob (bin Tryz.prog .lss 3 a7 (.int .i64 32)) fun y8=>
 bc (gd true (some y8) (ob x0 fun a9=>
 some (.ret a9,h)) h) fun y10 h10=>
 bc (gd true (some y8) (ob x3 fun a11=>
 some (.ret a11,h10)) h10) fun y12 h12=>
 bc (gd true (some y8) (ob (ixS 1 y10 y12) fun y13=>
 some (.ret y13,h12)) h12) fun y14 h14=>
 bc (gd true (some y8) (ob (ld1 y14 h14) fun y15=>
 some (.ret y15,h14)) h14) fun y16 h16=>
 bc (gd true (some y8) (ob (bin Tryz.prog .neq 5 y16 (.int .u8 0)) fun y17=>
 some (.ret y17,h16)) h16) fun y18 h18=>
 ob (ypk y8 y18 (.bool false)) fun y19=>
 yIf y19
 (ob x3 fun a20=>
 ob (bin Tryz.prog .add 3 a20 (.int .i64 1)) fun y21=>
 n x0 (some y21) h18)
 (e0 x0 x3 h18)
theorem q191_22_eq(C:YC)(lf:Nat)(n:K2)(e0:K2)(KR:KF)(KE:KX): ∀ F h,evX fx191 C lf [1,1,0,0,0] F h (fun F h=>n (F 0) (F 3) h) KR (bk 0 (fun F h=>e0 (F 0) (F 3) h) KE)=q191_22 C lf n e0 (F 0) (F 3) h:=by
 intro F h;kernel_rfl
noncomputable def l191_6(C:YC)(lf:Nat)(e0:K2)(k:O × O→HW→Rs)(s:O × O)(h:HW):Rs:=
 q191_22 C lf (fun x0 x3 h=>k (x0,x3) h) e0 s.1 s.2 h
noncomputable def q191_23(C:YC)(lf:Nat)(r:K1)(x0 x3:O)(h:HW):Rs:=
 lp (l191_6 C lf (fun x0 x3 h=>q191_5 C lf r x0 x3 h)) lf (x0,x3) h
theorem q191_23_eq(C:YC)(lf:Nat)(r:K1)(KN:KF)(KE:KX): ∀ F h,evX fx191 C lf [1,1] F h KN (fun F h=>r (F 2) h) KE=q191_23 C lf r (F 0) (F 3) h:=cSeq (a:=subX fx191 [1,1,0]) (b:=subX fx191 [1,1,1]) (by kernel_rfl) (B:=(fun F h=>q191_5 C lf r (F 0) (F 3) h)) (q191_5_eq C lf r KN KE) (cBlock (id:=0) (a:=subX fx191 [1,1,0,0]) (by kernel_rfl) (cLoop (a:=subX fx191 [1,1,0,0,0]) (g:=fun F=>(F 0,F 3)) (body:=l191_6 C lf (fun x0 x3 h=>q191_5 C lf r x0 x3 h)) (by kernel_rfl) (fun k=>(q191_22_eq C lf (fun x0 x3 h=>k (x0,x3) h) (fun x0 x3 h=>q191_5 C lf r x0 x3 h) (fun F h=>r (F 2) h) KE))))
noncomputable def q191_24(C:YC)(lf:Nat)(n:K2)(x0:O)(h:HW):Rs:=
 n x0 (some (.int .i64 4)) h
theorem q191_24_eq(C:YC)(lf:Nat)(n:K2)(KR:KF)(KE:KX): ∀ F h,evX fx191 C lf [1,0] F h (fun F h=>n (F 0) (F 3) h) KR KE=q191_24 C lf n (F 0) h:=by
 intro F h;kernel_rfl
noncomputable def q191_25(C:YC)(lf:Nat)(r:K1)(x0:O)(h:HW):Rs:=
 q191_24 C lf (fun x0 x3 h=>q191_23 C lf r x0 x3 h) x0 h
theorem q191_25_eq(C:YC)(lf:Nat)(r:K1)(KN:KF)(KE:KX): ∀ F h,evX fx191 C lf [1] F h KN (fun F h=>r (F 2) h) KE=q191_25 C lf r (F 0) h:=cSeq (a:=subX fx191 [1,0]) (b:=subX fx191 [1,1]) (by kernel_rfl) (B:=(fun F h=>q191_23 C lf r (F 0) (F 3) h)) (q191_23_eq C lf r KN KE) (q191_24_eq C lf (fun x0 x3 h=>q191_23 C lf r x0 x3 h) (fun F h=>r (F 2) h) KE)
noncomputable def q191_26(C:YC)(lf:Nat)(n:K1)(x0:O)(h:HW):Rs:=
 n x0 h
theorem q191_26_eq(C:YC)(lf:Nat)(n:K1)(KR:KF)(KE:KX): ∀ F h,evX fx191 C lf [0] F h (fun F h=>n (F 0) h) KR KE=q191_26 C lf n (F 0) h:=by
 intro F h;kernel_rfl
noncomputable def q191_27(C:YC)(lf:Nat)(r:K1)(x0:O)(h:HW):Rs:=
 q191_26 C lf (fun x0 h=>q191_25 C lf r x0 h) x0 h
theorem q191_27_eq(C:YC)(lf:Nat)(r:K1)(KN:KF)(KE:KX): ∀ F h,evX fx191 C lf [] F h KN (fun F h=>r (F 2) h) KE=q191_27 C lf r (F 0) h:=cSeq (a:=subX fx191 [0]) (b:=subX fx191 [1]) (by kernel_rfl) (B:=(fun F h=>q191_25 C lf r (F 0) h)) (q191_25_eq C lf r KN KE) (q191_26_eq C lf (fun x0 h=>q191_25 C lf r x0 h) (fun F h=>r (F 2) h) KE)
noncomputable def fs191(C:YC)(lf:Nat)(a0:SV)(h:HW):Rs:=q191_27 C lf ff191 (some a0) h
theorem fs191_eq(C:YC)(lf:Nat)(a0:SV)(h:HW):yFn Tryz.prog fx191 C lf [a0] h=fs191 C lf a0 h:=fnX (K:=(fun F h=>ff191 (F 2) h)) (by kernel_rfl) (((q191_27_eq C lf ff191 (fun F h=>ff191 (F 2) h) (fun _ _ _=>none)) _ h).trans (by kernel_rfl))
noncomputable def fy191:YX Tryz.prog:=Y1 fx191 fs191 fs191_eq (by kernel_rfl)
noncomputable def fx192:XF Tryz.prog:=⟨192,Tryz.f192,fun _=> .text,Tryz.func192,by kernel_rfl,by kernel_rfl,by kernel_rfl,by kernel_rfl⟩
noncomputable def ff192(h:HW):Rs:=
 some (.ret (.tup []),h)
noncomputable def q192_48(C:YC)(lf:Nat)(n:K4)(r:K0)(e0:K0)(x0 x1 x3 x4:O)(h:HW):Rs:=
 ob x4 fun a1=>
 ob x1 fun a2=>
 ob (ld1 a2 h) fun y3=>
 ob (lenE Tryz.prog 9 y3) fun y4=>
 ob (bin Tryz.prog .leq 3 a1 y4) fun y5=>
 yIf y5
 (ob x4 fun a6=>
 ob x1 fun a7=>
 ob (ld1 a7 h) fun y8=>
 ob (lenE Tryz.prog 9 y8) fun y9=>
 ob (bin Tryz.prog .lss 3 a6 y9) fun y10=>
 bc (gd true (some y10) (ob x1 fun a11=>
 ob (ld1 a11 h) fun y12=>
 some (.ret y12,h)) h) fun y13 h13=>
 bc (gd true (some y10) (ob x4 fun a14=>
 some (.ret a14,h13)) h13) fun y15 h15=>
 bc (gd true (some y10) (ob (semIndex Tryz.prog 9 y13 y15) fun y16=>
 some (.ret y16,h15)) h15) fun y17 h17=>
 bc (gd true (some y10) (ob (bin Tryz.prog .neq 5 y17 (.int .u8 47)) fun y18=>
 some (.ret y18,h17)) h17) fun y19 h19=>
 ob (ypk y10 y19 (.bool false)) fun y20=>
 yIf y20
 (ob x4 fun a21=>
 ob (bin Tryz.prog .add 3 a21 (.int .i64 1)) fun y22=>
 n x0 x1 x3 (some y22) h19)
 (ob x4 fun a23=>
 ob x3 fun a24=>
 ob (bin Tryz.prog .gtr 3 a23 a24) fun y25=>
 bc (gd true (some y25) (ob x0 fun a26=>
 some (.ret a26,h19)) h19) fun y27 h27=>
 bc (gd true (some y25) (ob x4 fun a28=>
 some (.ret a28,h27)) h27) fun y29 h29=>
 bc (gd true (some y25) (ob x1 fun a30=>
 ob (ld1 a30 h29) fun y31=>
 some (.ret y31,h29)) h29) fun y32 h32=>
 bc (gd true (some y25) (ob x3 fun a33=>
 some (.ret a33,h32)) h32) fun y34 h34=>
 bc (gd true (some y25) (ob x4 fun a35=>
 some (.ret a35,h34)) h34) fun y36 h36=>
 bc (gd true (some y25) (ob (semSlice Tryz.prog 9 y32 (some y34) (some y36)) fun y37=>
 some (.ret y37,h36)) h36) fun y38 h38=>
 bc (gd true (some y25) (cv false C y27 [y29,y38] h38 fun y39 h39=>
 some (.ret y39,h39)) h38) fun y40 h40=>
 bc (gd true (some y25) (ob (unE .not y40) fun y41=>
 some (.ret y41,h40)) h40) fun y42 h42=>
 ob (ypk y25 y42 (.bool false)) fun y43=>
 yIf y43
 (r h42)
 (ob x4 fun a44=>
 ob (bin Tryz.prog .add 3 a44 (.int .i64 1)) fun y45=>
 ob x4 fun a46=>
 ob (bin Tryz.prog .add 3 a46 (.int .i64 1)) fun y47=>
 n x0 x1 (some y45) (some y47) h42)))
 (e0 h)
theorem q192_48_eq(C:YC)(lf:Nat)(n:K4)(r:K0)(e0:K0)(KE:KX): ∀ F h,evX fx192 C lf [1,1,0,0] F h (fun F h=>n (F 0) (F 1) (F 3) (F 4) h) (fun F h=>r h) (bk 0 (fun F h=>e0 h) KE)=q192_48 C lf n r e0 (F 0) (F 1) (F 3) (F 4) h:=by
 intro F h;kernel_rfl
noncomputable def l192_0(C:YC)(lf:Nat)(r:K0)(e0:K0)(k:O × O × O × O→HW→Rs)(s:O × O × O × O)(h:HW):Rs:=
 q192_48 C lf (fun x0 x1 x3 x4 h=>k (x0,x1,x3,x4) h) r e0 s.1 s.2.1 s.2.2.1 s.2.2.2 h
noncomputable def q192_49(C:YC)(lf:Nat)(n:K4)(x0 x1 x3:O)(h:HW):Rs:=
 n x0 x1 x3 (some (.int .i64 0)) h
theorem q192_49_eq(C:YC)(lf:Nat)(n:K4)(KR:KF)(KE:KX): ∀ F h,evX fx192 C lf [1,0] F h (fun F h=>n (F 0) (F 1) (F 3) (F 4) h) KR KE=q192_49 C lf n (F 0) (F 1) (F 3) h:=by
 intro F h;kernel_rfl
noncomputable def q192_50(C:YC)(lf:Nat)(n:K0)(r:K0)(x0 x1 x3:O)(h:HW):Rs:=
 q192_49 C lf (fun x0 x1 x3 x4 h=>lp (l192_0 C lf r n) lf (x0,x1,x3,x4) h) x0 x1 x3 h
theorem q192_50_eq(C:YC)(lf:Nat)(n:K0)(r:K0)(KE:KX): ∀ F h,evX fx192 C lf [1] F h (fun F h=>n h) (fun F h=>r h) KE=q192_50 C lf n r (F 0) (F 1) (F 3) h:=cSeq (a:=subX fx192 [1,0]) (b:=subX fx192 [1,1]) (by kernel_rfl) (B:=(fun F h=>lp (l192_0 C lf r n) lf ((F 0),(F 1),(F 3),(F 4)) h)) (cBlock (id:=0) (a:=subX fx192 [1,1,0]) (by kernel_rfl) (cLoop (a:=subX fx192 [1,1,0,0]) (g:=fun F=>(F 0,F 1,F 3,F 4)) (body:=l192_0 C lf r n) (by kernel_rfl) (fun k=>(q192_48_eq C lf (fun x0 x1 x3 x4 h=>k (x0,x1,x3,x4) h) r n KE)))) (q192_49_eq C lf (fun x0 x1 x3 x4 h=>lp (l192_0 C lf r n) lf (x0,x1,x3,x4) h) (fun F h=>r h) KE)
noncomputable def q192_51(C:YC)(lf:Nat)(n:K3)(x0 x1:O)(h:HW):Rs:=
 n x0 x1 (some (.int .i64 0)) h
theorem q192_51_eq(C:YC)(lf:Nat)(n:K3)(KR:KF)(KE:KX): ∀ F h,evX fx192 C lf [0] F h (fun F h=>n (F 0) (F 1) (F 3) h) KR KE=q192_51 C lf n (F 0) (F 1) h:=by
 intro F h;kernel_rfl
noncomputable def q192_52(C:YC)(lf:Nat)(n:K0)(r:K0)(x0 x1:O)(h:HW):Rs:=
 q192_51 C lf (fun x0 x1 x3 h=>q192_50 C lf n r x0 x1 x3 h) x0 x1 h
theorem q192_52_eq(C:YC)(lf:Nat)(n:K0)(r:K0)(KE:KX): ∀ F h,evX fx192 C lf [] F h (fun F h=>n h) (fun F h=>r h) KE=q192_52 C lf n r (F 0) (F 1) h:=cSeq (a:=subX fx192 [0]) (b:=subX fx192 [1]) (by kernel_rfl) (B:=(fun F h=>q192_50 C lf n r (F 0) (F 1) (F 3) h)) (q192_50_eq C lf n r KE) (q192_51_eq C lf (fun x0 x1 x3 h=>q192_50 C lf n r x0 x1 x3 h) (fun F h=>r h) KE)
noncomputable def fs192(C:YC)(lf:Nat)(a0 a1:SV)(h:HW):Rs:=q192_52 C lf ff192 ff192 (some a0) (some a1) h
theorem fs192_eq(C:YC)(lf:Nat)(a0 a1:SV)(h:HW):yFn Tryz.prog fx192 C lf [a0,a1] h=fs192 C lf a0 a1 h:=fnX (K:=(fun F h=>ff192 h)) (by kernel_rfl) (((q192_52_eq C lf ff192 ff192 (fun _ _ _=>none)) _ h).trans (by kernel_rfl))
noncomputable def fy192:YX Tryz.prog:=Y2 fx192 fs192 fs192_eq (by kernel_rfl)
noncomputable def fx193:XF Tryz.prog:=⟨193,Tryz.f193,fun _=> .text,Tryz.func193,by kernel_rfl,by kernel_rfl,by kernel_rfl,by kernel_rfl⟩
noncomputable def ff193(x4:O)(h:HW):Rs:=
 ob x4 fun a0=>
 some (.ret a0,h)
noncomputable def q193_4(C:YC)(lf:Nat)(r:K1)(x0 x1:O)(h:HW):Rs:=
 ob x0 fun a1=>
 ob x1 fun a2=>
 bc (C (.fn 201) [a1,a2] h) fun y3 h3=>
 r (some y3) h3
theorem q193_4_eq(C:YC)(lf:Nat)(r:K1)(KN:KF)(KE:KX): ∀ F h,evX fx193 C lf [] F h KN (fun F h=>r (F 4) h) KE=q193_4 C lf r (F 0) (F 1) h:=by
 intro F h;kernel_rfl
noncomputable def fs193(C:YC)(lf:Nat)(a0 a1:SV)(h:HW):Rs:=q193_4 C lf ff193 (some a0) (some a1) h
theorem fs193_eq(C:YC)(lf:Nat)(a0 a1:SV)(h:HW):yFn Tryz.prog fx193 C lf [a0,a1] h=fs193 C lf a0 a1 h:=fnX (K:=(fun F h=>ff193 (F 4) h)) (by kernel_rfl) (((q193_4_eq C lf ff193 (fun F h=>ff193 (F 4) h) (fun _ _ _=>none)) _ h).trans (by kernel_rfl))
noncomputable def fy193:YX Tryz.prog:=Y2 fx193 fs193 fs193_eq (by kernel_rfl)
noncomputable def fx194:XF Tryz.prog:=⟨194,Tryz.f194,fun _=> .text,Tryz.func194,by kernel_rfl,by kernel_rfl,by kernel_rfl,by kernel_rfl⟩
noncomputable def ff194(x2:O)(h:HW):Rs:=
 ob x2 fun a0=>
 some (.ret a0,h)
noncomputable def q194_11(C:YC)(lf:Nat)(r:K1)(x0:O)(h:HW):Rs:=
 ob x0 fun a1=>
 ob (bin Tryz.prog .eql 9 a1 (.str (bs []))) fun y2=>
 bc (gd false (some y2) (ob x0 fun a3=>
 some (.ret a3,h)) h) fun y4 h4=>
 bc (gd false (some y2) (bc (C (.fn 202) [y4,(.str (bs [47,0]))] h4) fun y5 h5=>
 some (.ret y5,h5)) h4) fun y6 h6=>
 ob (ypk y2 (.bool true) y6) fun y7=>
 yIf y7
 (r (some (.int .i64 22)) h6)
 (ob x0 fun a8=>
 ob (lenE Tryz.prog 9 a8) fun y9=>
 ob (bin Tryz.prog .gtr 3 y9 (.int .i64 27)) fun y10=>
 yIf y10
 (r (some (.int .i64 36)) h6)
 (r (some (.int .i64 0)) h6))
theorem q194_11_eq(C:YC)(lf:Nat)(r:K1)(KN:KF)(KE:KX): ∀ F h,evX fx194 C lf [] F h KN (fun F h=>r (F 2) h) KE=q194_11 C lf r (F 0) h:=by
 intro F h;kernel_rfl
noncomputable def fs194(C:YC)(lf:Nat)(a0:SV)(h:HW):Rs:=q194_11 C lf ff194 (some a0) h
theorem fs194_eq(C:YC)(lf:Nat)(a0:SV)(h:HW):yFn Tryz.prog fx194 C lf [a0] h=fs194 C lf a0 h:=fnX (K:=(fun F h=>ff194 (F 2) h)) (by kernel_rfl) (((q194_11_eq C lf ff194 (fun F h=>ff194 (F 2) h) (fun _ _ _=>none)) _ h).trans (by kernel_rfl))
noncomputable def fy194:YX Tryz.prog:=Y1 fx194 fs194 fs194_eq (by kernel_rfl)
noncomputable def fx195:XF Tryz.prog:=⟨195,Tryz.f195,fun _=> .text,Tryz.func195,by kernel_rfl,by kernel_rfl,by kernel_rfl,by kernel_rfl⟩
noncomputable def ff195(x2:O)(h:HW):Rs:=
 ob x2 fun a0=>
 some (.ret a0,h)
noncomputable def q195_9(C:YC)(lf:Nat)(r:K1)(x0:O)(h:HW):Rs:=
 ob x0 fun a1=>
 b2 (ybx 140 a1 h) fun y2 h2=>
 ob (semSlice Tryz.prog 140 y2 (some (.int .i64 4)) none) fun y3=>
 bc (C (.fn 203) [y3,(.int .u8 0)] h2) fun y4 h4=>
 ob (bin Tryz.prog .geq 3 y4 (.int .i64 0)) fun y5=>
 yIf y5
 (ob (semSlice Tryz.prog 35 y3 none (some y4)) fun y6=>
 b2 (ycv Tryz.prog 35 9 y6 h4) fun y7 h7=>
 r (some y7) h7)
 (b2 (ycv Tryz.prog 35 9 y3 h4) fun y8 h8=>
 r (some y8) h8)
theorem q195_9_eq(C:YC)(lf:Nat)(r:K1)(KN:KF)(KE:KX): ∀ F h,evX fx195 C lf [] F h KN (fun F h=>r (F 2) h) KE=q195_9 C lf r (F 0) h:=by
 intro F h;kernel_rfl
noncomputable def fs195(C:YC)(lf:Nat)(a0:SV)(h:HW):Rs:=q195_9 C lf ff195 (some a0) h
theorem fs195_eq(C:YC)(lf:Nat)(a0:SV)(h:HW):yFn Tryz.prog fx195 C lf [a0] h=fs195 C lf a0 h:=fnX (K:=(fun F h=>ff195 (F 2) h)) (by kernel_rfl) (((q195_9_eq C lf ff195 (fun F h=>ff195 (F 2) h) (fun _ _ _=>none)) _ h).trans (by kernel_rfl))
noncomputable def fy195:YX Tryz.prog:=Y1 fx195 fs195 fs195_eq (by kernel_rfl)
noncomputable def fx197:XF Tryz.prog:=⟨197,Tryz.f197,fun _=> .text,Tryz.func197,by kernel_rfl,by kernel_rfl,by kernel_rfl,by kernel_rfl⟩
noncomputable def ff197(x2:O)(h:HW):Rs:=
 ob x2 fun a0=>
 some (.ret a0,h)
noncomputable def q197_13(C:YC)(lf:Nat)(r:K1)(x0:O)(h:HW):Rs:=
 ob x0 fun a1=>
 ob (bin Tryz.prog .eql 208 a1 (.int .u64 0)) fun y2=>
 yIf y2
 (r (some (.int .i64 64)) h)
 (ob x0 fun a3=>
 ob x0 fun a4=>
 ob (unE .neg a4) fun y5=>
 ob (bin Tryz.prog .and 208 a3 y5) fun y6=>
 ob (bin Tryz.prog .mul 208 y6 (.int .u64 285870213051353865)) fun y7=>
 ob (bin Tryz.prog .shr 208 y7 (.int .u64 58)) fun y8=>
 gl h.ng 0 fun a9=>
 ob (ixA 64 1 a9 y8) fun y10=>
 ob (ld1 y10 h) fun y11=>
 ob (cvI .i64 y11) fun y12=>
 r (some y12) h)
theorem q197_13_eq(C:YC)(lf:Nat)(r:K1)(KN:KF)(KE:KX): ∀ F h,evX fx197 C lf [] F h KN (fun F h=>r (F 2) h) KE=q197_13 C lf r (F 0) h:=by
 intro F h;kernel_rfl
noncomputable def fs197(C:YC)(lf:Nat)(a0:SV)(h:HW):Rs:=q197_13 C lf ff197 (some a0) h
theorem fs197_eq(C:YC)(lf:Nat)(a0:SV)(h:HW):yFn Tryz.prog fx197 C lf [a0] h=fs197 C lf a0 h:=fnX (K:=(fun F h=>ff197 (F 2) h)) (by kernel_rfl) (((q197_13_eq C lf ff197 (fun F h=>ff197 (F 2) h) (fun _ _ _=>none)) _ h).trans (by kernel_rfl))
noncomputable def fy197:YX Tryz.prog:=Y1 fx197 fs197 fs197_eq (by kernel_rfl)
noncomputable def fx199:XF Tryz.prog:=⟨199,Tryz.f199,fun _=> .text,Tryz.func199,by kernel_rfl,by kernel_rfl,by kernel_rfl,by kernel_rfl⟩
noncomputable def ff199(x4 x5:O)(h:HW):Rs:=
 ob x4 fun a0=>
 ob x5 fun a1=>
 some (.ret (.tup [a0,a1]),h)
noncomputable def q199_19(C:YC)(lf:Nat)(r:K2)(x0 x1:O)(h:HW):Rs:=
 ob x0 fun a2=>
 bc (C (.fn 178) [a2] h) fun y3 h3=>
 ob (unE .not y3) fun y4=>
 yIf y4
 (r (some (.val (.slice none 0 0))) (some (.int .i64 14)) h3)
 (ob x0 fun a5=>
 ob x1 fun a6=>
 bc (C (.fn 179) [a5,a6] h3) fun y7 h7=>
 ob (unE .not y7) fun y8=>
 yIf y8
 (r (some (.val (.slice none 0 0))) (some (.int .i64 22)) h7)
 (ob x0 fun a9=>
 ob (semNil a9) fun y10=>
 ob (fa 65 y10) fun y11=>
 ob (ld1 y11 h7) fun y12=>
 ob x1 fun a13=>
 ob (ixS 64 y12 a13) fun y14=>
 ob (ldN 64 y14 h7) fun y15=>
 b2 (yAl Tryz.prog 249 h7) fun y16 h16=>
 ob (st 64 y16 y15 h16) fun h17=>
 ob (semSlice Tryz.prog 249 y16 none none) fun y18=>
 r (some y18) (some (.int .i64 0)) h17))
theorem q199_19_eq(C:YC)(lf:Nat)(r:K2)(KN:KF)(KE:KX): ∀ F h,evX fx199 C lf [] F h KN (fun F h=>r (F 4) (F 5) h) KE=q199_19 C lf r (F 0) (F 1) h:=by
 intro F h;kernel_rfl
noncomputable def fs199(C:YC)(lf:Nat)(a0 a1:SV)(h:HW):Rs:=q199_19 C lf ff199 (some a0) (some a1) h
theorem fs199_eq(C:YC)(lf:Nat)(a0 a1:SV)(h:HW):yFn Tryz.prog fx199 C lf [a0,a1] h=fs199 C lf a0 a1 h:=fnX (K:=(fun F h=>ff199 (F 4) (F 5) h)) (by kernel_rfl) (((q199_19_eq C lf ff199 (fun F h=>ff199 (F 4) (F 5) h) (fun _ _ _=>none)) _ h).trans (by kernel_rfl))
noncomputable def fy199:YX Tryz.prog:=Y2 fx199 fs199 fs199_eq (by kernel_rfl)
noncomputable def fx200:XF Tryz.prog:=⟨200,Tryz.f200,fun _=> .text,Tryz.func200,by kernel_rfl,by kernel_rfl,by kernel_rfl,by kernel_rfl⟩
noncomputable def ff200(x4 x5 x6:O)(h:HW):Rs:=
 ob x4 fun a0=>
 ob x5 fun a1=>
 ob x6 fun a2=>
 some (.ret (.tup [a0,a1,a2]),h)
noncomputable def q200_5(C:YC)(lf:Nat)(r:K3)(x8 x9:O)(h:HW):Rs:=
 ob x8 fun a3=>
 ob x9 fun a4=>
 r (some a3) (some a4) (some (.int .i64 0)) h
theorem q200_5_eq(C:YC)(lf:Nat)(r:K3)(KN:KF)(KE:KX): ∀ F h,evX fx200 C lf [1,1,1,1,1,1] F h KN (fun F h=>r (F 4) (F 5) (F 6) h) KE=q200_5 C lf r (F 8) (F 9) h:=by
 intro F h;kernel_rfl
noncomputable def q200_29(C:YC)(lf:Nat)(n:K6)(e0:K2)(x0 x8 x9 x20 x21 x22:O)(h:HW):Rs:=
 ob x22 fun a7=>
 ob x21 fun a8=>
 ob (bin Tryz.prog .lss 3 a7 a8) fun y9=>
 yIf y9
 (ob x22 fun a10=>
 ob x20 fun a11=>
 ob x22 fun a12=>
 ob (ixS 1 a11 a12) fun y13=>
 ob (ld1 y13 h) fun y14=>
 bc (C (.fn 160) [y14] h) fun y15 h15=>
 ob (bin Tryz.prog .gtr 3 y15 (.int .i64 0)) fun y16=>
 yIf y16
 (ob x8 fun a17=>
 ob x0 fun a18=>
 bc (C (.fn 204) [a18,y14] h15) fun y19 h19=>
 b2 (ybs Tryz.prog 117 1 [0] [y19] h19) fun y20 h20=>
 b2 (ybl Tryz.prog .append #[117,117] [a17,y20] h20) fun y21 h21=>
 ob x9 fun a22=>
 b2 (ybs Tryz.prog 46 1 [0] [a10] h21) fun y23 h23=>
 b2 (ybl Tryz.prog .append #[46,46] [a22,y23] h23) fun y24 h24=>
 ob x22 fun a25=>
 ob (bin Tryz.prog .add 3 a25 (.int .i64 1)) fun y26=>
 n x0 (some y21) (some y24) x20 x21 (some y26) h24)
 (ob x22 fun a27=>
 ob (bin Tryz.prog .add 3 a27 (.int .i64 1)) fun y28=>
 n x0 x8 x9 x20 x21 (some y28) h15))
 (e0 x8 x9 h)
theorem q200_29_eq(C:YC)(lf:Nat)(n:K6)(e0:K2)(KR:KF)(KE:KX): ∀ F h,evX fx200 C lf [1,1,1,1,1,0,1,0,0] F h (fun F h=>n (F 0) (F 8) (F 9) (F 20) (F 21) (F 22) h) KR (bk 0 (fun F h=>e0 (F 8) (F 9) h) KE)=q200_29 C lf n e0 (F 0) (F 8) (F 9) (F 20) (F 21) (F 22) h:=by
 intro F h;kernel_rfl
noncomputable def l200_6(C:YC)(lf:Nat)(e0:K2)(k:O × O × O × O × O × O→HW→Rs)(s:O × O × O × O × O × O)(h:HW):Rs:=
 q200_29 C lf (fun x0 x8 x9 x20 x21 x22 h=>k (x0,x8,x9,x20,x21,x22) h) e0 s.1 s.2.1 s.2.2.1 s.2.2.2.1 s.2.2.2.2.1 s.2.2.2.2.2 h
noncomputable def q200_34(C:YC)(lf:Nat)(n:K6)(x0 x1 x8 x9:O)(h:HW):Rs:=
 ob x0 fun a30=>
 ob x1 fun a31=>
 bc (C (.fn 159) [a30,a31] h) fun y32 h32=>
 ob (lenE Tryz.prog 147 y32) fun y33=>
 n x0 x8 x9 (some y32) (some y33) (some (.int .i64 0)) h32
theorem q200_34_eq(C:YC)(lf:Nat)(n:K6)(KR:KF)(KE:KX): ∀ F h,evX fx200 C lf [1,1,1,1,1,0,0] F h (fun F h=>n (F 0) (F 8) (F 9) (F 20) (F 21) (F 22) h) KR KE=q200_34 C lf n (F 0) (F 1) (F 8) (F 9) h:=by
 intro F h;kernel_rfl
noncomputable def q200_35(C:YC)(lf:Nat)(n:K2)(x0 x1 x8 x9:O)(h:HW):Rs:=
 q200_34 C lf (fun x0 x8 x9 x20 x21 x22 h=>lp (l200_6 C lf n) lf (x0,x8,x9,x20,x21,x22) h) x0 x1 x8 x9 h
theorem q200_35_eq(C:YC)(lf:Nat)(n:K2)(KR:KF)(KE:KX): ∀ F h,evX fx200 C lf [1,1,1,1,1,0] F h (fun F h=>n (F 8) (F 9) h) KR KE=q200_35 C lf n (F 0) (F 1) (F 8) (F 9) h:=cSeq (a:=subX fx200 [1,1,1,1,1,0,0]) (b:=subX fx200 [1,1,1,1,1,0,1]) (by kernel_rfl) (B:=(fun F h=>lp (l200_6 C lf n) lf ((F 0),(F 8),(F 9),(F 20),(F 21),(F 22)) h)) (cBlock (id:=0) (a:=subX fx200 [1,1,1,1,1,0,1,0]) (by kernel_rfl) (cLoop (a:=subX fx200 [1,1,1,1,1,0,1,0,0]) (g:=fun F=>(F 0,F 8,F 9,F 20,F 21,F 22)) (body:=l200_6 C lf n) (by kernel_rfl) (fun k=>(q200_29_eq C lf (fun x0 x8 x9 x20 x21 x22 h=>k (x0,x8,x9,x20,x21,x22) h) n KR KE)))) (q200_34_eq C lf (fun x0 x8 x9 x20 x21 x22 h=>lp (l200_6 C lf n) lf (x0,x8,x9,x20,x21,x22) h) KR KE)
noncomputable def q200_36(C:YC)(lf:Nat)(r:K3)(x0 x1 x8 x9:O)(h:HW):Rs:=
 q200_35 C lf (fun x8 x9 h=>q200_5 C lf r x8 x9 h) x0 x1 x8 x9 h
theorem q200_36_eq(C:YC)(lf:Nat)(r:K3)(KN:KF)(KE:KX): ∀ F h,evX fx200 C lf [1,1,1,1,1] F h KN (fun F h=>r (F 4) (F 5) (F 6) h) KE=q200_36 C lf r (F 0) (F 1) (F 8) (F 9) h:=cSeq (a:=subX fx200 [1,1,1,1,1,0]) (b:=subX fx200 [1,1,1,1,1,1]) (by kernel_rfl) (B:=(fun F h=>q200_5 C lf r (F 8) (F 9) h)) (q200_5_eq C lf r KN KE) (q200_35_eq C lf (fun x8 x9 h=>q200_5 C lf r x8 x9 h) (fun F h=>r (F 4) (F 5) (F 6) h) KE)
noncomputable def q200_37(C:YC)(lf:Nat)(n:K4)(x0 x1 x8:O)(h:HW):Rs:=
 n x0 x1 x8 (some (.val (.slice none 0 0))) h
theorem q200_37_eq(C:YC)(lf:Nat)(n:K4)(KR:KF)(KE:KX): ∀ F h,evX fx200 C lf [1,1,1,1,0] F h (fun F h=>n (F 0) (F 1) (F 8) (F 9) h) KR KE=q200_37 C lf n (F 0) (F 1) (F 8) h:=by
 intro F h;kernel_rfl
noncomputable def q200_38(C:YC)(lf:Nat)(r:K3)(x0 x1 x8:O)(h:HW):Rs:=
 q200_37 C lf (fun x0 x1 x8 x9 h=>q200_36 C lf r x0 x1 x8 x9 h) x0 x1 x8 h
theorem q200_38_eq(C:YC)(lf:Nat)(r:K3)(KN:KF)(KE:KX): ∀ F h,evX fx200 C lf [1,1,1,1] F h KN (fun F h=>r (F 4) (F 5) (F 6) h) KE=q200_38 C lf r (F 0) (F 1) (F 8) h:=cSeq (a:=subX fx200 [1,1,1,1,0]) (b:=subX fx200 [1,1,1,1,1]) (by kernel_rfl) (B:=(fun F h=>q200_36 C lf r (F 0) (F 1) (F 8) (F 9) h)) (q200_36_eq C lf r KN KE) (q200_37_eq C lf (fun x0 x1 x8 x9 h=>q200_36 C lf r x0 x1 x8 x9 h) (fun F h=>r (F 4) (F 5) (F 6) h) KE)
noncomputable def q200_39(C:YC)(lf:Nat)(n:K3)(x0 x1:O)(h:HW):Rs:=
 n x0 x1 (some (.val (.slice none 0 0))) h
theorem q200_39_eq(C:YC)(lf:Nat)(n:K3)(KR:KF)(KE:KX): ∀ F h,evX fx200 C lf [1,1,1,0] F h (fun F h=>n (F 0) (F 1) (F 8) h) KR KE=q200_39 C lf n (F 0) (F 1) h:=by
 intro F h;kernel_rfl
noncomputable def q200_40(C:YC)(lf:Nat)(r:K3)(x0 x1:O)(h:HW):Rs:=
 q200_39 C lf (fun x0 x1 x8 h=>q200_38 C lf r x0 x1 x8 h) x0 x1 h
theorem q200_40_eq(C:YC)(lf:Nat)(r:K3)(KN:KF)(KE:KX): ∀ F h,evX fx200 C lf [1,1,1] F h KN (fun F h=>r (F 4) (F 5) (F 6) h) KE=q200_40 C lf r (F 0) (F 1) h:=cSeq (a:=subX fx200 [1,1,1,0]) (b:=subX fx200 [1,1,1,1]) (by kernel_rfl) (B:=(fun F h=>q200_38 C lf r (F 0) (F 1) (F 8) h)) (q200_38_eq C lf r KN KE) (q200_39_eq C lf (fun x0 x1 x8 h=>q200_38 C lf r x0 x1 x8 h) (fun F h=>r (F 4) (F 5) (F 6) h) KE)
noncomputable def q200_44(C:YC)(lf:Nat)(n:K2)(r:K3)(x0 x1 x7:O)(h:HW):Rs:=
 ob x7 fun a41=>
 ob (bin Tryz.prog .neq 3 a41 (.int .i64 0)) fun y42=>
 yIf y42
 (ob x7 fun a43=>
 r (some (.val (.slice none 0 0))) (some (.val (.slice none 0 0))) (some a43) h)
 (n x0 x1 h)
theorem q200_44_eq(C:YC)(lf:Nat)(n:K2)(r:K3)(KE:KX): ∀ F h,evX fx200 C lf [1,1,0] F h (fun F h=>n (F 0) (F 1) h) (fun F h=>r (F 4) (F 5) (F 6) h) KE=q200_44 C lf n r (F 0) (F 1) (F 7) h:=by
 intro F h;kernel_rfl
noncomputable def q200_45(C:YC)(lf:Nat)(r:K3)(x0 x1 x7:O)(h:HW):Rs:=
 q200_44 C lf (fun x0 x1 h=>q200_40 C lf r x0 x1 h) r x0 x1 x7 h
theorem q200_45_eq(C:YC)(lf:Nat)(r:K3)(KN:KF)(KE:KX): ∀ F h,evX fx200 C lf [1,1] F h KN (fun F h=>r (F 4) (F 5) (F 6) h) KE=q200_45 C lf r (F 0) (F 1) (F 7) h:=cSeq (a:=subX fx200 [1,1,0]) (b:=subX fx200 [1,1,1]) (by kernel_rfl) (B:=(fun F h=>q200_40 C lf r (F 0) (F 1) h)) (q200_40_eq C lf r KN KE) (q200_44_eq C lf (fun x0 x1 h=>q200_40 C lf r x0 x1 h) r KE)
noncomputable def q200_49(C:YC)(lf:Nat)(n:K3)(x0 x1:O)(h:HW):Rs:=
 ob x0 fun a46=>
 ob x1 fun a47=>
 bc (C (.fn 74) [a46,a47] h) fun y48 h48=>
 n x0 x1 (some y48) h48
theorem q200_49_eq(C:YC)(lf:Nat)(n:K3)(KR:KF)(KE:KX): ∀ F h,evX fx200 C lf [1,0] F h (fun F h=>n (F 0) (F 1) (F 7) h) KR KE=q200_49 C lf n (F 0) (F 1) h:=by
 intro F h;kernel_rfl
noncomputable def q200_50(C:YC)(lf:Nat)(r:K3)(x0 x1:O)(h:HW):Rs:=
 q200_49 C lf (fun x0 x1 x7 h=>q200_45 C lf r x0 x1 x7 h) x0 x1 h
theorem q200_50_eq(C:YC)(lf:Nat)(r:K3)(KN:KF)(KE:KX): ∀ F h,evX fx200 C lf [1] F h KN (fun F h=>r (F 4) (F 5) (F 6) h) KE=q200_50 C lf r (F 0) (F 1) h:=cSeq (a:=subX fx200 [1,0]) (b:=subX fx200 [1,1]) (by kernel_rfl) (B:=(fun F h=>q200_45 C lf r (F 0) (F 1) (F 7) h)) (q200_45_eq C lf r KN KE) (q200_49_eq C lf (fun x0 x1 x7 h=>q200_45 C lf r x0 x1 x7 h) (fun F h=>r (F 4) (F 5) (F 6) h) KE)
noncomputable def q200_51(C:YC)(lf:Nat)(n:K2)(x0 x1:O)(h:HW):Rs:=
 n x0 x1 h
theorem q200_51_eq(C:YC)(lf:Nat)(n:K2)(KR:KF)(KE:KX): ∀ F h,evX fx200 C lf [0] F h (fun F h=>n (F 0) (F 1) h) KR KE=q200_51 C lf n (F 0) (F 1) h:=by
 intro F h;kernel_rfl
noncomputable def q200_52(C:YC)(lf:Nat)(r:K3)(x0 x1:O)(h:HW):Rs:=
 q200_51 C lf (fun x0 x1 h=>q200_50 C lf r x0 x1 h) x0 x1 h
theorem q200_52_eq(C:YC)(lf:Nat)(r:K3)(KN:KF)(KE:KX): ∀ F h,evX fx200 C lf [] F h KN (fun F h=>r (F 4) (F 5) (F 6) h) KE=q200_52 C lf r (F 0) (F 1) h:=cSeq (a:=subX fx200 [0]) (b:=subX fx200 [1]) (by kernel_rfl) (B:=(fun F h=>q200_50 C lf r (F 0) (F 1) h)) (q200_50_eq C lf r KN KE) (q200_51_eq C lf (fun x0 x1 h=>q200_50 C lf r x0 x1 h) (fun F h=>r (F 4) (F 5) (F 6) h) KE)
noncomputable def fs200(C:YC)(lf:Nat)(a0 a1:SV)(h:HW):Rs:=q200_52 C lf ff200 (some a0) (some a1) h
theorem fs200_eq(C:YC)(lf:Nat)(a0 a1:SV)(h:HW):yFn Tryz.prog fx200 C lf [a0,a1] h=fs200 C lf a0 a1 h:=fnX (K:=(fun F h=>ff200 (F 4) (F 5) (F 6) h)) (by kernel_rfl) (((q200_52_eq C lf ff200 (fun F h=>ff200 (F 4) (F 5) (F 6) h) (fun _ _ _=>none)) _ h).trans (by kernel_rfl))
noncomputable def fy200:YX Tryz.prog:=Y2 fx200 fs200 fs200_eq (by kernel_rfl)
noncomputable def gx201:XN Tryz.prog:={f:=201,fn:=Tryz.f201,k:= .indexByte,isFn:=Tryz.func201,isPlain:=by kernel_rfl,noBody:=by kernel_rfl,noNext:=by kernel_rfl,isK:=by kernel_rfl}
noncomputable def fx202:XF Tryz.prog:=⟨202,Tryz.f202,fun _=> .text,Tryz.func202,by kernel_rfl,by kernel_rfl,by kernel_rfl,by kernel_rfl⟩
noncomputable def ff202(x4:O)(h:HW):Rs:=
 ob x4 fun a0=>
 some (.ret a0,h)
noncomputable def q202_5(C:YC)(lf:Nat)(r:K1)(x0 x1:O)(h:HW):Rs:=
 ob x0 fun a1=>
 ob x1 fun a2=>
 bc (C (.fn 205) [a1,a2] h) fun y3 h3=>
 ob (bin Tryz.prog .geq 3 y3 (.int .i64 0)) fun y4=>
 r (some y4) h3
theorem q202_5_eq(C:YC)(lf:Nat)(r:K1)(KN:KF)(KE:KX): ∀ F h,evX fx202 C lf [] F h KN (fun F h=>r (F 4) h) KE=q202_5 C lf r (F 0) (F 1) h:=by
 intro F h;kernel_rfl
noncomputable def fs202(C:YC)(lf:Nat)(a0 a1:SV)(h:HW):Rs:=q202_5 C lf ff202 (some a0) (some a1) h
theorem fs202_eq(C:YC)(lf:Nat)(a0 a1:SV)(h:HW):yFn Tryz.prog fx202 C lf [a0,a1] h=fs202 C lf a0 a1 h:=fnX (K:=(fun F h=>ff202 (F 4) h)) (by kernel_rfl) (((q202_5_eq C lf ff202 (fun F h=>ff202 (F 4) h) (fun _ _ _=>none)) _ h).trans (by kernel_rfl))
noncomputable def fy202:YX Tryz.prog:=Y2 fx202 fs202 fs202_eq (by kernel_rfl)
noncomputable def fx203:XF Tryz.prog:=⟨203,Tryz.f203,fun _=> .text,Tryz.func203,by kernel_rfl,by kernel_rfl,by kernel_rfl,by kernel_rfl⟩
noncomputable def ff203(x4:O)(h:HW):Rs:=
 ob x4 fun a0=>
 some (.ret a0,h)
noncomputable def q203_4(C:YC)(lf:Nat)(r:K1)(x0 x1:O)(h:HW):Rs:=
 ob x0 fun a1=>
 ob x1 fun a2=>
 bc (C (.fn 206) [a1,a2] h) fun y3 h3=>
 r (some y3) h3
theorem q203_4_eq(C:YC)(lf:Nat)(r:K1)(KN:KF)(KE:KX): ∀ F h,evX fx203 C lf [] F h KN (fun F h=>r (F 4) h) KE=q203_4 C lf r (F 0) (F 1) h:=by
 intro F h;kernel_rfl
noncomputable def fs203(C:YC)(lf:Nat)(a0 a1:SV)(h:HW):Rs:=q203_4 C lf ff203 (some a0) (some a1) h
theorem fs203_eq(C:YC)(lf:Nat)(a0 a1:SV)(h:HW):yFn Tryz.prog fx203 C lf [a0,a1] h=fs203 C lf a0 a1 h:=fnX (K:=(fun F h=>ff203 (F 4) h)) (by kernel_rfl) (((q203_4_eq C lf ff203 (fun F h=>ff203 (F 4) h) (fun _ _ _=>none)) _ h).trans (by kernel_rfl))
noncomputable def fy203:YX Tryz.prog:=Y2 fx203 fs203 fs203_eq (by kernel_rfl)
noncomputable def fx204:XF Tryz.prog:=⟨204,Tryz.f204,fun _=> .text,Tryz.func204,by kernel_rfl,by kernel_rfl,by kernel_rfl,by kernel_rfl⟩
noncomputable def ff204(x4:O)(h:HW):Rs:=
 ob x4 fun a0=>
 ob (ldN 3 a0 h) fun y1=>
 some (.ret y1,h)
noncomputable def q204_31(C:YC)(lf:Nat)(r:K1)(x0 x1:O)(h:HW):Rs:=
 b2 (yAl Tryz.prog 272 h) fun y2 h2=>
 ob x1 fun a3=>
 bc (C (.fn 191) [a3] h2) fun y4 h4=>
 ob x1 fun a5=>
 bc (C (.fn 160) [a5] h4) fun y6 h6=>
 ob (semBuild Tryz.prog 272 [0,1] [y4,y6]) fun y7=>
 b2 (yAl Tryz.prog 272 h6) fun y8 h8=>
 ob (st 3 y8 y7 h8) fun h9=>
 ob x0 fun a10=>
 ob (fa 1 y8) fun y11=>
 ob (ld1 y11 h9) fun y12=>
 bc (C (.fn 75) [a10,y12] h9) fun y13 h13=>
 yIf y13
 (ob x0 fun a14=>
 ob (semNil a14) fun y15=>
 ob (fa 4 y15) fun y16=>
 ob (ld1 y16 h13) fun y17=>
 ob (fa 1 y8) fun y18=>
 ob (ld1 y18 h13) fun y19=>
 ob (ixS 308 y17 y19) fun y20=>
 ob (fa 1 y20) fun y21=>
 ob (fa 6 y21) fun y22=>
 ob (ld1 y22 h13) fun y23=>
 ob (bin Tryz.prog .and 34 y23 (.int .i64 61440)) fun y24=>
 ob (fa 2 y8) fun y25=>
 ob (st 1 y25 y24 h13) fun h26=>
 ob (ldN 3 y8 h26) fun y27=>
 ob (st 3 y2 y27 h26) fun h28=>
 r (some y2) h28)
 (ob (ldN 3 y8 h13) fun y29=>
 ob (st 3 y2 y29 h13) fun h30=>
 r (some y2) h30)
theorem q204_31_eq(C:YC)(lf:Nat)(r:K1)(KN:KF)(KE:KX): ∀ F h,evX fx204 C lf [] F h KN (fun F h=>r (F 4) h) KE=q204_31 C lf r (F 0) (F 1) h:=by
 intro F h;kernel_rfl
noncomputable def fs204(C:YC)(lf:Nat)(a0 a1:SV)(h:HW):Rs:=q204_31 C lf ff204 (some a0) (some a1) h
theorem fs204_eq(C:YC)(lf:Nat)(a0 a1:SV)(h:HW):yFn Tryz.prog fx204 C lf [a0,a1] h=fs204 C lf a0 a1 h:=fnX (K:=(fun F h=>ff204 (F 4) h)) (by kernel_rfl) (((q204_31_eq C lf ff204 (fun F h=>ff204 (F 4) h) (fun _ _ _=>none)) _ h).trans (by kernel_rfl))
noncomputable def fy204:YX Tryz.prog:=Y2 fx204 fs204 fs204_eq (by kernel_rfl)
noncomputable def fx205:XF Tryz.prog:=⟨205,Tryz.f205,fun _=> .text,Tryz.func205,by kernel_rfl,by kernel_rfl,by kernel_rfl,by kernel_rfl⟩
noncomputable def ff205(x4:O)(h:HW):Rs:=
 ob x4 fun a0=>
 some (.ret a0,h)
noncomputable def q205_1(C:YC)(lf:Nat)(r:K1)(h:HW):Rs:=
 r (some (.int .i64 (-1))) h
theorem q205_1_eq(C:YC)(lf:Nat)(r:K1)(KN:KF)(KE:KX): ∀ F h,evX fx205 C lf [1,1,1,1,1] F h KN (fun F h=>r (F 4) h) KE=q205_1 C lf r h:=by
 intro F h;kernel_rfl
noncomputable def q205_11(C:YC)(lf:Nat)(n:K2)(r:K1)(e2:K0)(x1 x45:O)(h:HW):Rs:=
 ob x45 fun a3=>
 b2 (ynx a3 h) fun y4 h4=>
 ob (ext 0 y4) fun y5=>
 yIf y5
 (ob (ext 1 y4) fun y6=>
 ob (ext 2 y4) fun y7=>
 ob x1 fun a8=>
 bc (C (.fn 207) [a8,y7] h4) fun y9 h9=>
 ob (bin Tryz.prog .geq 3 y9 (.int .i64 0)) fun y10=>
 yIf y10
 (r (some y6) h9)
 (n x1 x45 h9))
 (e2 h4)
theorem q205_11_eq(C:YC)(lf:Nat)(n:K2)(r:K1)(e2:K0)(KE:KX): ∀ F h,evX fx205 C lf [1,1,1,1,0,1,0,0] F h (fun F h=>n (F 1) (F 45) h) (fun F h=>r (F 4) h) (bk 2 (fun F h=>e2 h) KE)=q205_11 C lf n r e2 (F 1) (F 45) h:=by
 intro F h;kernel_rfl
noncomputable def l205_2(C:YC)(lf:Nat)(r:K1)(e2:K0)(k:O × O→HW→Rs)(s:O × O)(h:HW):Rs:=
 q205_11 C lf (fun x1 x45 h=>k (x1,x45) h) r e2 s.1 s.2 h
noncomputable def q205_14(C:YC)(lf:Nat)(n:K2)(x0 x1:O)(h:HW):Rs:=
 ob x0 fun a12=>
 b2 (yrg Tryz.prog 9 a12 h) fun y13 h13=>
 n x1 (some y13) h13
theorem q205_14_eq(C:YC)(lf:Nat)(n:K2)(KR:KF)(KE:KX): ∀ F h,evX fx205 C lf [1,1,1,1,0,0] F h (fun F h=>n (F 1) (F 45) h) KR KE=q205_14 C lf n (F 0) (F 1) h:=by
 intro F h;kernel_rfl
noncomputable def q205_15(C:YC)(lf:Nat)(n:K0)(r:K1)(x0 x1:O)(h:HW):Rs:=
 q205_14 C lf (fun x1 x45 h=>lp (l205_2 C lf r n) lf (x1,x45) h) x0 x1 h
theorem q205_15_eq(C:YC)(lf:Nat)(n:K0)(r:K1)(KE:KX): ∀ F h,evX fx205 C lf [1,1,1,1,0] F h (fun F h=>n h) (fun F h=>r (F 4) h) KE=q205_15 C lf n r (F 0) (F 1) h:=cSeq (a:=subX fx205 [1,1,1,1,0,0]) (b:=subX fx205 [1,1,1,1,0,1]) (by kernel_rfl) (B:=(fun F h=>lp (l205_2 C lf r n) lf ((F 1),(F 45)) h)) (cBlock (id:=2) (a:=subX fx205 [1,1,1,1,0,1,0]) (by kernel_rfl) (cLoop (a:=subX fx205 [1,1,1,1,0,1,0,0]) (g:=fun F=>(F 1,F 45)) (body:=l205_2 C lf r n) (by kernel_rfl) (fun k=>(q205_11_eq C lf (fun x1 x45 h=>k (x1,x45) h) r n KE)))) (q205_14_eq C lf (fun x1 x45 h=>lp (l205_2 C lf r n) lf (x1,x45) h) (fun F h=>r (F 4) h) KE)
noncomputable def q205_16(C:YC)(lf:Nat)(r:K1)(x0 x1:O)(h:HW):Rs:=
 q205_15 C lf (fun h=>q205_1 C lf r h) r x0 x1 h
theorem q205_16_eq(C:YC)(lf:Nat)(r:K1)(KN:KF)(KE:KX): ∀ F h,evX fx205 C lf [1,1,1,1] F h KN (fun F h=>r (F 4) h) KE=q205_16 C lf r (F 0) (F 1) h:=cSeq (a:=subX fx205 [1,1,1,1,0]) (b:=subX fx205 [1,1,1,1,1]) (by kernel_rfl) (B:=(fun F h=>q205_1 C lf r h)) (q205_1_eq C lf r KN KE) (q205_15_eq C lf (fun h=>q205_1 C lf r h) r KE)
noncomputable def q205_17(C:YC)(lf:Nat)(r:K1)(h:HW):Rs:=
 r (some (.int .i64 (-1))) h
theorem q205_17_eq(C:YC)(lf:Nat)(r:K1)(KN:KF)(KE:KX): ∀ F h,evX fx205 C lf [1,1,1,0,1,0,1,1,0,1] F h KN (fun F h=>r (F 4) h) KE=q205_17 C lf r h:=by
 intro F h;kernel_rfl
noncomputable def q205_31(C:YC)(lf:Nat)(n:K3)(r:K1)(e0:K0)(x0 x6 x8:O)(h:HW):Rs:=
 ob x8 fun a19=>
 ob x0 fun a20=>
 ob (lenE Tryz.prog 9 a20) fun y21=>
 ob (bin Tryz.prog .lss 3 a19 y21) fun y22=>
 yIf y22
 (ob x0 fun a23=>
 ob x8 fun a24=>
 ob (semIndex Tryz.prog 9 a23 a24) fun y25=>
 ob x6 fun a26=>
 bc (C (.fn 210) [a26,y25] h) fun y27 h27=>
 yIf y27
 (ob x8 fun a28=>
 r (some a28) h27)
 (ob x8 fun a29=>
 ob (bin Tryz.prog .add 3 a29 (.int .i64 1)) fun y30=>
 n x0 x6 (some y30) h27))
 (e0 h)
theorem q205_31_eq(C:YC)(lf:Nat)(n:K3)(r:K1)(e0:K0)(KE:KX): ∀ F h,evX fx205 C lf [1,1,1,0,1,0,1,1,0,0,1,0,0] F h (fun F h=>n (F 0) (F 6) (F 8) h) (fun F h=>r (F 4) h) (bk 0 (fun F h=>e0 h) KE)=q205_31 C lf n r e0 (F 0) (F 6) (F 8) h:=by
 intro F h;kernel_rfl
noncomputable def l205_18(C:YC)(lf:Nat)(r:K1)(e0:K0)(k:O × O × O→HW→Rs)(s:O × O × O)(h:HW):Rs:=
 q205_31 C lf (fun x0 x6 x8 h=>k (x0,x6,x8) h) r e0 s.1 s.2.1 s.2.2 h
noncomputable def q205_32(C:YC)(lf:Nat)(n:K3)(x0 x6:O)(h:HW):Rs:=
 n x0 x6 (some (.int .i64 0)) h
theorem q205_32_eq(C:YC)(lf:Nat)(n:K3)(KR:KF)(KE:KX): ∀ F h,evX fx205 C lf [1,1,1,0,1,0,1,1,0,0,0] F h (fun F h=>n (F 0) (F 6) (F 8) h) KR KE=q205_32 C lf n (F 0) (F 6) h:=by
 intro F h;kernel_rfl
noncomputable def q205_33(C:YC)(lf:Nat)(n:K0)(r:K1)(x0 x6:O)(h:HW):Rs:=
 q205_32 C lf (fun x0 x6 x8 h=>lp (l205_18 C lf r n) lf (x0,x6,x8) h) x0 x6 h
theorem q205_33_eq(C:YC)(lf:Nat)(n:K0)(r:K1)(KE:KX): ∀ F h,evX fx205 C lf [1,1,1,0,1,0,1,1,0,0] F h (fun F h=>n h) (fun F h=>r (F 4) h) KE=q205_33 C lf n r (F 0) (F 6) h:=cSeq (a:=subX fx205 [1,1,1,0,1,0,1,1,0,0,0]) (b:=subX fx205 [1,1,1,0,1,0,1,1,0,0,1]) (by kernel_rfl) (B:=(fun F h=>lp (l205_18 C lf r n) lf ((F 0),(F 6),(F 8)) h)) (cBlock (id:=0) (a:=subX fx205 [1,1,1,0,1,0,1,1,0,0,1,0]) (by kernel_rfl) (cLoop (a:=subX fx205 [1,1,1,0,1,0,1,1,0,0,1,0,0]) (g:=fun F=>(F 0,F 6,F 8)) (body:=l205_18 C lf r n) (by kernel_rfl) (fun k=>(q205_31_eq C lf (fun x0 x6 x8 h=>k (x0,x6,x8) h) r n KE)))) (q205_32_eq C lf (fun x0 x6 x8 h=>lp (l205_18 C lf r n) lf (x0,x6,x8) h) (fun F h=>r (F 4) h) KE)
noncomputable def q205_34(C:YC)(lf:Nat)(r:K1)(x0 x6:O)(h:HW):Rs:=
 q205_33 C lf (fun h=>q205_17 C lf r h) r x0 x6 h
theorem q205_34_eq(C:YC)(lf:Nat)(r:K1)(KN:KF)(KE:KX): ∀ F h,evX fx205 C lf [1,1,1,0,1,0,1,1,0] F h KN (fun F h=>r (F 4) h) KE=q205_34 C lf r (F 0) (F 6) h:=cSeq (a:=subX fx205 [1,1,1,0,1,0,1,1,0,0]) (b:=subX fx205 [1,1,1,0,1,0,1,1,0,1]) (by kernel_rfl) (B:=(fun F h=>q205_17 C lf r h)) (q205_17_eq C lf r KN KE) (q205_33_eq C lf (fun h=>q205_17 C lf r h) r KE)
noncomputable def q205_35(C:YC)(lf:Nat)(n:K2)(x0 x1:O)(h:HW):Rs:=
 n x0 x1 h
theorem q205_35_eq(C:YC)(lf:Nat)(n:K2)(KR:KF)(KE:KX): ∀ F h,evX fx205 C lf [1,1,1,0,1,0,1,1,1] F h (fun F h=>n (F 0) (F 1) h) KR KE=q205_35 C lf n (F 0) (F 1) h:=by
 intro F h;kernel_rfl
noncomputable def q205_37(C:YC)(lf:Nat)(n:K2)(r:K1)(x0 x1 x6 x32:O)(h:HW):Rs:=
 ob x32 fun a36=>
 yIf a36
 (q205_34 C lf r x0 x6 h)
 (q205_35 C lf n x0 x1 h)
theorem q205_37_eq(C:YC)(lf:Nat)(n:K2)(r:K1)(KE:KX): ∀ F h,evX fx205 C lf [1,1,1,0,1,0,1,1] F h (fun F h=>n (F 0) (F 1) h) (fun F h=>r (F 4) h) KE=q205_37 C lf n r (F 0) (F 1) (F 6) (F 32) h:=cCond (x:= .tmp 32) (by kernel_rfl) (q205_34_eq C lf r (fun F h=>n (F 0) (F 1) h) KE) (q205_35_eq C lf n (fun F h=>r (F 4) h) KE)
noncomputable def q205_39(C:YC)(lf:Nat)(n:K4)(x0 x1 x6 x7:O)(h:HW):Rs:=
 ob x7 fun a38=>
 n x0 x1 x6 (some a38) h
theorem q205_39_eq(C:YC)(lf:Nat)(n:K4)(KR:KF)(KE:KX): ∀ F h,evX fx205 C lf [1,1,1,0,1,0,1,0] F h (fun F h=>n (F 0) (F 1) (F 6) (F 32) h) KR KE=q205_39 C lf n (F 0) (F 1) (F 6) (F 7) h:=by
 intro F h;kernel_rfl
noncomputable def q205_40(C:YC)(lf:Nat)(n:K2)(r:K1)(x0 x1 x6 x7:O)(h:HW):Rs:=
 q205_39 C lf (fun x0 x1 x6 x32 h=>q205_37 C lf n r x0 x1 x6 x32 h) x0 x1 x6 x7 h
theorem q205_40_eq(C:YC)(lf:Nat)(n:K2)(r:K1)(KE:KX): ∀ F h,evX fx205 C lf [1,1,1,0,1,0,1] F h (fun F h=>n (F 0) (F 1) h) (fun F h=>r (F 4) h) KE=q205_40 C lf n r (F 0) (F 1) (F 6) (F 7) h:=cSeq (a:=subX fx205 [1,1,1,0,1,0,1,0]) (b:=subX fx205 [1,1,1,0,1,0,1,1]) (by kernel_rfl) (B:=(fun F h=>q205_37 C lf n r (F 0) (F 1) (F 6) (F 32) h)) (q205_37_eq C lf n r KE) (q205_39_eq C lf (fun x0 x1 x6 x32 h=>q205_37 C lf n r x0 x1 x6 x32 h) (fun F h=>r (F 4) h) KE)
noncomputable def q205_47(C:YC)(lf:Nat)(n:K4)(x0 x1:O)(h:HW):Rs:=
 ob x1 fun a41=>
 bc (C (.fn 209) [a41] h) fun y42 h42=>
 ob (ext 0 y42) fun y43=>
 ob (ext 1 y42) fun y44=>
 b2 (yAl Tryz.prog 277 h42) fun y45 h45=>
 ob (st 256 y45 y43 h45) fun h46=>
 n x0 x1 (some y45) (some y44) h46
theorem q205_47_eq(C:YC)(lf:Nat)(n:K4)(KR:KF)(KE:KX): ∀ F h,evX fx205 C lf [1,1,1,0,1,0,0] F h (fun F h=>n (F 0) (F 1) (F 6) (F 7) h) KR KE=q205_47 C lf n (F 0) (F 1) h:=by
 intro F h;kernel_rfl
noncomputable def q205_48(C:YC)(lf:Nat)(n:K2)(r:K1)(x0 x1:O)(h:HW):Rs:=
 q205_47 C lf (fun x0 x1 x6 x7 h=>q205_40 C lf n r x0 x1 x6 x7 h) x0 x1 h
theorem q205_48_eq(C:YC)(lf:Nat)(n:K2)(r:K1)(KE:KX): ∀ F h,evX fx205 C lf [1,1,1,0,1,0] F h (fun F h=>n (F 0) (F 1) h) (fun F h=>r (F 4) h) KE=q205_48 C lf n r (F 0) (F 1) h:=cSeq (a:=subX fx205 [1,1,1,0,1,0,0]) (b:=subX fx205 [1,1,1,0,1,0,1]) (by kernel_rfl) (B:=(fun F h=>q205_40 C lf n r (F 0) (F 1) (F 6) (F 7) h)) (q205_40_eq C lf n r KE) (q205_47_eq C lf (fun x0 x1 x6 x7 h=>q205_40 C lf n r x0 x1 x6 x7 h) (fun F h=>r (F 4) h) KE)
noncomputable def q205_49(C:YC)(lf:Nat)(n:K2)(x0 x1:O)(h:HW):Rs:=
 n x0 x1 h
theorem q205_49_eq(C:YC)(lf:Nat)(n:K2)(KR:KF)(KE:KX): ∀ F h,evX fx205 C lf [1,1,1,0,1,1] F h (fun F h=>n (F 0) (F 1) h) KR KE=q205_49 C lf n (F 0) (F 1) h:=by
 intro F h;kernel_rfl
noncomputable def q205_51(C:YC)(lf:Nat)(n:K2)(r:K1)(x0 x1 x26:O)(h:HW):Rs:=
 ob x26 fun a50=>
 yIf a50
 (q205_48 C lf n r x0 x1 h)
 (q205_49 C lf n x0 x1 h)
theorem q205_51_eq(C:YC)(lf:Nat)(n:K2)(r:K1)(KE:KX): ∀ F h,evX fx205 C lf [1,1,1,0,1] F h (fun F h=>n (F 0) (F 1) h) (fun F h=>r (F 4) h) KE=q205_51 C lf n r (F 0) (F 1) (F 26) h:=cCond (x:= .tmp 26) (by kernel_rfl) (q205_48_eq C lf n r KE) (q205_49_eq C lf n (fun F h=>r (F 4) h) KE)
noncomputable def q205_55(C:YC)(lf:Nat)(n:K3)(x0 x1:O)(h:HW):Rs:=
 ob x0 fun a52=>
 ob (lenE Tryz.prog 9 a52) fun y53=>
 bc (C (.fn 208) [y53] h) fun y54 h54=>
 n x0 x1 (some y54) h54
theorem q205_55_eq(C:YC)(lf:Nat)(n:K3)(KR:KF)(KE:KX): ∀ F h,evX fx205 C lf [1,1,1,0,0] F h (fun F h=>n (F 0) (F 1) (F 26) h) KR KE=q205_55 C lf n (F 0) (F 1) h:=by
 intro F h;kernel_rfl
noncomputable def q205_56(C:YC)(lf:Nat)(n:K2)(r:K1)(x0 x1:O)(h:HW):Rs:=
 q205_55 C lf (fun x0 x1 x26 h=>q205_51 C lf n r x0 x1 x26 h) x0 x1 h
theorem q205_56_eq(C:YC)(lf:Nat)(n:K2)(r:K1)(KE:KX): ∀ F h,evX fx205 C lf [1,1,1,0] F h (fun F h=>n (F 0) (F 1) h) (fun F h=>r (F 4) h) KE=q205_56 C lf n r (F 0) (F 1) h:=cSeq (a:=subX fx205 [1,1,1,0,0]) (b:=subX fx205 [1,1,1,0,1]) (by kernel_rfl) (B:=(fun F h=>q205_51 C lf n r (F 0) (F 1) (F 26) h)) (q205_51_eq C lf n r KE) (q205_55_eq C lf (fun x0 x1 x26 h=>q205_51 C lf n r x0 x1 x26 h) (fun F h=>r (F 4) h) KE)
noncomputable def q205_57(C:YC)(lf:Nat)(r:K1)(x0 x1:O)(h:HW):Rs:=
 q205_56 C lf (fun x0 x1 h=>q205_16 C lf r x0 x1 h) r x0 x1 h
theorem q205_57_eq(C:YC)(lf:Nat)(r:K1)(KN:KF)(KE:KX): ∀ F h,evX fx205 C lf [1,1,1] F h KN (fun F h=>r (F 4) h) KE=q205_57 C lf r (F 0) (F 1) h:=cSeq (a:=subX fx205 [1,1,1,0]) (b:=subX fx205 [1,1,1,1]) (by kernel_rfl) (B:=(fun F h=>q205_16 C lf r (F 0) (F 1) h)) (q205_16_eq C lf r KN KE) (q205_56_eq C lf (fun x0 x1 h=>q205_16 C lf r x0 x1 h) r KE)
noncomputable def q205_69(C:YC)(lf:Nat)(n:K2)(r:K1)(x0 x1:O)(h:HW):Rs:=
 ob x1 fun a58=>
 ob (lenE Tryz.prog 9 a58) fun y59=>
 ob (bin Tryz.prog .eql 3 y59 (.int .i64 1)) fun y60=>
 yIf y60
 (ob x1 fun a61=>
 ob (semIndex Tryz.prog 9 a61 (.int .i64 0)) fun y62=>
 ob (cvI .i32 y62) fun y63=>
 ob (bin Tryz.prog .geq 21 y63 (.int .i32 128)) fun y64=>
 yIf y64
 (ob x0 fun a65=>
 bc (C (.fn 207) [a65,(.int .i32 65533)] h) fun y66 h66=>
 r (some y66) h66)
 (ob x0 fun a67=>
 bc (C (.fn 207) [a67,y63] h) fun y68 h68=>
 r (some y68) h68))
 (n x0 x1 h)
theorem q205_69_eq(C:YC)(lf:Nat)(n:K2)(r:K1)(KE:KX): ∀ F h,evX fx205 C lf [1,1,0] F h (fun F h=>n (F 0) (F 1) h) (fun F h=>r (F 4) h) KE=q205_69 C lf n r (F 0) (F 1) h:=by
 intro F h;kernel_rfl
noncomputable def q205_70(C:YC)(lf:Nat)(r:K1)(x0 x1:O)(h:HW):Rs:=
 q205_69 C lf (fun x0 x1 h=>q205_57 C lf r x0 x1 h) r x0 x1 h
theorem q205_70_eq(C:YC)(lf:Nat)(r:K1)(KN:KF)(KE:KX): ∀ F h,evX fx205 C lf [1,1] F h KN (fun F h=>r (F 4) h) KE=q205_70 C lf r (F 0) (F 1) h:=cSeq (a:=subX fx205 [1,1,0]) (b:=subX fx205 [1,1,1]) (by kernel_rfl) (B:=(fun F h=>q205_57 C lf r (F 0) (F 1) h)) (q205_57_eq C lf r KN KE) (q205_69_eq C lf (fun x0 x1 h=>q205_57 C lf r x0 x1 h) r KE)
noncomputable def q205_73(C:YC)(lf:Nat)(n:K2)(r:K1)(x0 x1:O)(h:HW):Rs:=
 ob x1 fun a71=>
 ob (bin Tryz.prog .eql 9 a71 (.str (bs []))) fun y72=>
 yIf y72
 (r (some (.int .i64 (-1))) h)
 (n x0 x1 h)
theorem q205_73_eq(C:YC)(lf:Nat)(n:K2)(r:K1)(KE:KX): ∀ F h,evX fx205 C lf [1,0] F h (fun F h=>n (F 0) (F 1) h) (fun F h=>r (F 4) h) KE=q205_73 C lf n r (F 0) (F 1) h:=by
 intro F h;kernel_rfl
noncomputable def q205_74(C:YC)(lf:Nat)(r:K1)(x0 x1:O)(h:HW):Rs:=
 q205_73 C lf (fun x0 x1 h=>q205_70 C lf r x0 x1 h) r x0 x1 h
theorem q205_74_eq(C:YC)(lf:Nat)(r:K1)(KN:KF)(KE:KX): ∀ F h,evX fx205 C lf [1] F h KN (fun F h=>r (F 4) h) KE=q205_74 C lf r (F 0) (F 1) h:=cSeq (a:=subX fx205 [1,0]) (b:=subX fx205 [1,1]) (by kernel_rfl) (B:=(fun F h=>q205_70 C lf r (F 0) (F 1) h)) (q205_70_eq C lf r KN KE) (q205_73_eq C lf (fun x0 x1 h=>q205_70 C lf r x0 x1 h) r KE)
noncomputable def q205_75(C:YC)(lf:Nat)(n:K2)(x0 x1:O)(h:HW):Rs:=
 n x0 x1 h
theorem q205_75_eq(C:YC)(lf:Nat)(n:K2)(KR:KF)(KE:KX): ∀ F h,evX fx205 C lf [0] F h (fun F h=>n (F 0) (F 1) h) KR KE=q205_75 C lf n (F 0) (F 1) h:=by
 intro F h;kernel_rfl
noncomputable def q205_76(C:YC)(lf:Nat)(r:K1)(x0 x1:O)(h:HW):Rs:=
 q205_75 C lf (fun x0 x1 h=>q205_74 C lf r x0 x1 h) x0 x1 h
theorem q205_76_eq(C:YC)(lf:Nat)(r:K1)(KN:KF)(KE:KX): ∀ F h,evX fx205 C lf [] F h KN (fun F h=>r (F 4) h) KE=q205_76 C lf r (F 0) (F 1) h:=cSeq (a:=subX fx205 [0]) (b:=subX fx205 [1]) (by kernel_rfl) (B:=(fun F h=>q205_74 C lf r (F 0) (F 1) h)) (q205_74_eq C lf r KN KE) (q205_75_eq C lf (fun x0 x1 h=>q205_74 C lf r x0 x1 h) (fun F h=>r (F 4) h) KE)
noncomputable def fs205(C:YC)(lf:Nat)(a0 a1:SV)(h:HW):Rs:=q205_76 C lf ff205 (some a0) (some a1) h
theorem fs205_eq(C:YC)(lf:Nat)(a0 a1:SV)(h:HW):yFn Tryz.prog fx205 C lf [a0,a1] h=fs205 C lf a0 a1 h:=fnX (K:=(fun F h=>ff205 (F 4) h)) (by kernel_rfl) (((q205_76_eq C lf ff205 (fun F h=>ff205 (F 4) h) (fun _ _ _=>none)) _ h).trans (by kernel_rfl))
noncomputable def fy205:YX Tryz.prog:=Y2 fx205 fs205 fs205_eq (by kernel_rfl)
noncomputable def gx206:XN Tryz.prog:={f:=206,fn:=Tryz.f206,k:= .indexByte,isFn:=Tryz.func206,isPlain:=by kernel_rfl,noBody:=by kernel_rfl,noNext:=by kernel_rfl,isK:=by kernel_rfl}
noncomputable def fx207:XF Tryz.prog:=⟨207,Tryz.f207,fun _=> .text,Tryz.func207,by kernel_rfl,by kernel_rfl,by kernel_rfl,by kernel_rfl⟩
noncomputable def fx208:XF Tryz.prog:=⟨208,Tryz.f208,fun _=> .text,Tryz.func208,by kernel_rfl,by kernel_rfl,by kernel_rfl,by kernel_rfl⟩
noncomputable def ff208(x2:O)(h:HW):Rs:=
 ob x2 fun a0=>
 some (.ret a0,h)
noncomputable def q208_3(C:YC)(lf:Nat)(r:K1)(x0:O)(h:HW):Rs:=
 ob x0 fun a1=>
 ob (bin Tryz.prog .gtr 3 a1 (.int .i64 8)) fun y2=>
 r (some y2) h
theorem q208_3_eq(C:YC)(lf:Nat)(r:K1)(KN:KF)(KE:KX): ∀ F h,evX fx208 C lf [] F h KN (fun F h=>r (F 2) h) KE=q208_3 C lf r (F 0) h:=by
 intro F h;kernel_rfl
noncomputable def fs208(C:YC)(lf:Nat)(a0:SV)(h:HW):Rs:=q208_3 C lf ff208 (some a0) h
theorem fs208_eq(C:YC)(lf:Nat)(a0:SV)(h:HW):yFn Tryz.prog fx208 C lf [a0] h=fs208 C lf a0 h:=fnX (K:=(fun F h=>ff208 (F 2) h)) (by kernel_rfl) (((q208_3_eq C lf ff208 (fun F h=>ff208 (F 2) h) (fun _ _ _=>none)) _ h).trans (by kernel_rfl))
noncomputable def fy208:YX Tryz.prog:=Y1 fx208 fs208 fs208_eq (by kernel_rfl)
end Go.Proofs.YtgofkccnmmiciaaGreatDoor.Eva
namespace Go.Proofs.YtgofkccnmmiciaaGreatDoor.Eva
open Go.ChangeShapes Go.WideShapes Go.ChangeAt Go.RowKit Go.Xe
noncomputable def tabL{P:Program}:List (FuncId × YE P)→Tr (YE P)
 | []=> .nil
 | (f,x)::xs=>(tabL xs).put f x
noncomputable def tab:Tr (YE Tryz.prog):=tabL [(5,.fn fy5),(8,.fn fy8),(9,.fn fy9),(14,.fn fy14),(7,.fn fy7),(12,.fn fy12),(13,.fn fy13),(15,.fn fy15),(16,.fn fy16),(17,.fn fy17),(18,.fn fy18),(19,.fn fy19),(20,.fn fy20),(21,.fn fy21),(22,.fn fy22),(23,.fn fy23),(24,.fn fy24),(25,.fn fy25),(26,.fn fy26),(27,.fn fy27),(28,.fn fy28),(29,.fn fy29),(30,.fn fy30),(31,.fn fy31),(32,.fn fy32),(33,.fn fy33),(34,.fn fy34),(35,.fn fy35),(36,.fn fy36),(39,.ev fx39),(40,.fn fy40),(41,.fn fy41),(42,.fn fy42),(43,.fn fy43),(44,.fn fy44),(55,.fn fy55),(56,.fn fy56),(57,.fn fy57),(58,.fn fy58),(59,.fn fy59),(60,.fn fy60),(61,.fn fy61),(62,.fn fy62),(63,.fn fy63),(64,.fn fy64),(65,.fn fy65),(66,.fn fy66),(67,.fn fy67),(68,.fn fy68),(69,.fn fy69),(70,.fn fy70),(71,.fn fy71),(72,.fn fy72),(73,.fn fy73),(74,.fn fy74),(75,.fn fy75),(76,.fn fy76),(77,.fn fy77),(78,.fn fy78),(79,.ev fx79),(80,.fn fy80),(81,.ev fx81),(83,.fn fy83),(84,.fn fy84),(85,.fn fy85),(86,.ev fx86),(87,.fn fy87),(89,.fn fy89),(91,.fn fy91),(92,.fn fy92),(93,.fn fy93),(94,.fn fy94),(95,.fn fy95),(96,.fn fy96),(97,.fn fy97),(98,.fn fy98),(99,.fn fy99),(100,.fn fy100),(101,.fn fy101),(102,.fn fy102),(103,.fn fy103),(105,.fn fy105),(106,.fn fy106),(107,.fn fy107),(109,.fn fy109),(110,.fn fy110),(111,.fn fy111),(112,.fn fy112),(113,.fn fy113),(114,.fn fy114),(115,.fn fy115),(117,.fn fy117),(120,.fn fy120),(132,.fn fy132),(133,.fn fy133),(134,.fn fy134),(135,.fn fy135),(136,.fn fy136),(137,.fn fy137),(138,.fn fy138),(139,.fn fy139),(141,.fn fy141),(143,.fn fy143),(144,.fn fy144),(147,.ev fx147),(148,.fn fy148),(151,.fn fy151),(154,.fn fy154),(155,.fn fy155),(156,.fn fy156),(157,.fn fy157),(158,.fn fy158),(159,.fn fy159),(160,.fn fy160),(161,.fn fy161),(162,.fn fy162),(163,.fn fy163),(164,.fn fy164),(165,.fn fy165),(166,.fn fy166),(167,.fn fy167),(168,.fn fy168),(169,.fn fy169),(170,.fn fy170),(171,.fn fy171),(172,.fn fy172),(174,.fn fy174),(177,.fn fy177),(178,.fn fy178),(179,.fn fy179),(182,.fn fy182),(183,.fn fy183),(184,.fn fy184),(186,.fn fy186),(187,.fn fy187),(188,.fn fy188),(189,.fn fy189),(190,.fn fy190),(191,.fn fy191),(192,.fn fy192),(193,.fn fy193),(194,.fn fy194),(195,.fn fy195),(197,.fn fy197),(199,.fn fy199),(200,.fn fy200),(201,.nat gx201),(202,.fn fy202),(203,.fn fy203),(204,.fn fy204),(205,.fn fy205),(206,.nat gx206),(207,.ev fx207),(208,.fn fy208)]
def zs:List Int:=[0,1,56,2,57,49,28,3,61,58,42,50,38,29,17,4,62,47,59,36,45,43,51,22,53,39,33,30,24,18,12,5,63,55,48,27,60,41,37,16,46,35,44,21,52,32,23,11,54,26,40,15,34,20,31,10,25,14,19,9,13,8,7,6]
theorem mixed:Tryz.prog.follows .mixedOrders=true:=by kernel_rfl
theorem laidOut:laidOutB Tryz.prog=true:=by kernel_rfl
theorem own:ownKnob Tryz.prog.godebug=none:=by kernel_rfl
theorem gTab:Tryz.prog.globalNamed "math/bits.deBruijn64tab"=some 0:=by kernel_rfl
theorem gTabType:(Tryz.prog.globals[0]?).map (·.type)=some 249:=by kernel_rfl
theorem cellsArr:Tryz.prog.cellsOf 249=64:=by kernel_rfl
theorem cellsEl:Tryz.prog.cellsOf 5=1:=by kernel_rfl
theorem table{W:World}(h:laidMetH Tryz.prog [("math/bits.deBruijn64tab",Rows.laid_math_bits_deBruijn64tab)] W):Lib.TabIs Tryz.prog W "math/bits.deBruijn64tab" .u8 zs:=
 Lib.tabIs_of_head (rest:=[]) gTab gTabType Tryz.underlying249 Tryz.underlying5 cellsEl cellsArr h
noncomputable def objs:Hp:=tabObjs 0 249 64 (zs.map (.int .u8))
noncomputable def laidWorld(os:Os):World:=
 {World.holding Tryz.prog os ⟨#[], #[],[]⟩ with heap:=(World.holding Tryz.prog os ⟨#[], #[],[]⟩).heap.modify 0 fun
   | .cells _ t frozen=> .cells #[.int .u8 0,.int .u8 1,.int .u8 56,.int .u8 2,.int .u8 57,.int .u8 49,.int .u8 28,.int .u8 3,.int .u8 61,.int .u8 58,.int .u8 42,.int .u8 50,.int .u8 38,.int .u8 29,.int .u8 17,.int .u8 4,.int .u8 62,.int .u8 47,.int .u8 59,.int .u8 36,.int .u8 45,.int .u8 43,.int .u8 51,.int .u8 22,.int .u8 53,.int .u8 39,.int .u8 33,.int .u8 30,.int .u8 24,.int .u8 18,.int .u8 12,.int .u8 5,.int .u8 63,.int .u8 55,.int .u8 48,.int .u8 27,.int .u8 60,.int .u8 41,.int .u8 37,.int .u8 16,.int .u8 46,.int .u8 35,.int .u8 44,.int .u8 21,.int .u8 52,.int .u8 32,.int .u8 23,.int .u8 11,.int .u8 54,.int .u8 26,.int .u8 40,.int .u8 15,.int .u8 34,.int .u8 20,.int .u8 31,.int .u8 10,.int .u8 25,.int .u8 14,.int .u8 19,.int .u8 9,.int .u8 13,.int .u8 8,.int .u8 7,.int .u8 6] t frozen
   | o=>o}
end Go.Proofs.YtgofkccnmmiciaaGreatDoor.Eva
namespace Go.Proofs.YtgofkccnmmiciaaGreatDoor.Eva
open Go.Xe
set_option maxRecDepth 100000 in
theorem livesK:saysY ((runY tab 100000 1000).call (.ent 7) [] ⟨1,1,objs⟩)=true:=by kernel_rfl
theorem saysY_spec{r:Rs}(h:saysY r=true): ∃ h',r=some (.ret (.bool true),h'):=by
 unfold saysY at h
 split at h
 · exact ⟨_,rfl⟩
 · cases h
noncomputable def conG:List SV→Option SV
 | []=>some (.bool true)
 | _=>none
set_option maxRecDepth 100000 in
noncomputable def conLives:Con Tryz.prog:=conOf (tab:=tab) (lf:=100000) (fuel:=1000) mixed 0 249 64 .u8 zs (by decide) 7 conG
 (fun args y h=>by
   cases args with
   | nil=>cases h;exact ⟨rfl,rfl⟩
   | cons a l=>cases h)
 (fun args y h=>by
   cases args with
   | nil=>
     cases h
     exact saysY_spec livesK
   | cons a l=>cases h)
noncomputable def cons:List (Con Tryz.prog):=[conLives]
theorem con_lives{C:YC}{h:HW}(ht:hasTab 0 .u8 zs h=true):conY cons C (.fn 7) [] h=some (.ret (.bool true),h):=by
 have h1:conF cons 7=some conLives:=rfl
 have h2:conLives.g [] h=some (.bool true):=by
  show (bif hasTab 0 .u8 zs h then conG [] else none)=_
  rw [ht];rfl
 simp only [conY,h1,h2]
theorem con_other{C:YC}{f:Nat}(hf:Nat.beq 7 f=false)(args:List SV)(h:HW):conY cons C (.fn f) args h=C (.fn f) args h:=by
 have h1:conF cons f=none:=by
  show (bif Nat.beq 7 f then some conLives else none)=none
  rw [hf];rfl
 simp only [conY,h1]
end Go.Proofs.YtgofkccnmmiciaaGreatDoor.Eva
namespace Go.Proofs.YtgofkccnmmiciaaGreatDoor.Eva
open Go.Xe
set_option linter.unusedSimpArgs false
noncomputable def tabP:Tr (YE Tryz.prog):=tabLC [(9,.fn fy9),(8,.fn fy8),(5,.fn fy5),(4,.fn fy4),(10,.fn fy10),(11,.fn fy11),(6,.fn fy6)]
theorem tabP_9:getP (path 9) tabP=some (.fn fy9):=by kernel_rfl
theorem tabP_8:getP (path 8) tabP=some (.fn fy8):=by kernel_rfl
theorem tabP_5:getP (path 5) tabP=some (.fn fy5):=by kernel_rfl
theorem tabP_4:getP (path 4) tabP=some (.fn fy4):=by kernel_rfl
theorem tabP_10:getP (path 10) tabP=some (.fn fy10):=by kernel_rfl
theorem tabP_11:getP (path 11) tabP=some (.fn fy11):=by kernel_rfl
theorem tabP_6:getP (path 6) tabP=some (.fn fy6):=by kernel_rfl
theorem tabP_s9{C:YC}{lf:Nat}{a0 a1:SV}{h:HW}:fy9.s C lf [a0,a1] h=fs9 C lf a0 a1 h:=by kernel_rfl
theorem tabP_s8{C:YC}{lf:Nat}{a0:SV}{h:HW}:fy8.s C lf [a0] h=fs8 C lf a0 h:=by kernel_rfl
theorem tabP_s5{C:YC}{lf:Nat}{a0 a1:SV}{h:HW}:fy5.s C lf [a0,a1] h=fs5 C lf a0 a1 h:=by kernel_rfl
theorem tabP_s4{C:YC}{lf:Nat}{h:HW}:fy4.s C lf [] h=fs4 C lf h:=by kernel_rfl
theorem tabP_s10{C:YC}{lf:Nat}{a0:SV}{h:HW}:fy10.s C lf [a0] h=fs10 C lf a0 h:=by kernel_rfl
theorem tabP_s11{C:YC}{lf:Nat}{a0 a1:SV}{h:HW}:fy11.s C lf [a0,a1] h=fs11 C lf a0 a1 h:=by kernel_rfl
theorem tabP_s6{C:YC}{lf:Nat}{a0 a1:SV}{h:HW}:fy6.s C lf [a0,a1] h=fs6 C lf a0 a1 h:=by kernel_rfl
theorem tabP_OneOfOK(m:Nat):OneOfOK (runY tabP LF (m+1)).call:=by
 unfold OneOfOK;intros;simp only [call_fn (tab:=tabP) (lf:=LF) (n:=m+0) (k:=m+1) (y:=fy9) (f:=9) rfl rfl tabP_9];simp only [tabP_s9]
 apply oneOf_ok (C:=(runY tabP LF (m+0)).call) (lf:=LF) (le_LF (by omega)) <;> assumption
theorem tabP_KnownOK(m:Nat):KnownOK (runY tabP LF (m+2)).call:=by
 unfold KnownOK;intros;simp only [call_fn (tab:=tabP) (lf:=LF) (n:=m+1) (k:=m+2) (y:=fy8) (f:=8) rfl rfl tabP_8];simp only [tabP_s8]
 apply known_ok (C:=(runY tabP LF (m+1)).call) (lf:=LF) (tabP_OneOfOK (m+0)) <;> assumption
theorem tabP_LegalOK(m:Nat):LegalOK (runY tabP LF (m+3)).call:=by
 unfold LegalOK;intros;simp only [call_fn (tab:=tabP) (lf:=LF) (n:=m+2) (k:=m+3) (y:=fy5) (f:=5) rfl rfl tabP_5];simp only [tabP_s5]
 apply legal_ok (C:=(runY tabP LF (m+2)).call) (lf:=LF) (tabP_OneOfOK (m+1)) (tabP_KnownOK (m+0)) <;> assumption
theorem tabP_NamesOK(m:Nat):NamesOK (runY tabP LF (m+1)).call:=by
 unfold NamesOK;intros;simp only [call_fn (tab:=tabP) (lf:=LF) (n:=m+0) (k:=m+1) (y:=fy4) (f:=4) rfl rfl tabP_4];simp only [tabP_s4]
 apply names_ok (C:=(runY tabP LF (m+0)).call) (lf:=LF) <;> assumption
theorem tabP_CallOK(m:Nat):CallOK (runY tabP LF (m+2)).call:=by
 unfold CallOK;intros;simp only [call_fn (tab:=tabP) (lf:=LF) (n:=m+1) (k:=m+2) (y:=fy10) (f:=10) rfl rfl tabP_10];simp only [tabP_s10]
 apply call_ok (C:=(runY tabP LF (m+1)).call) (lf:=LF) (le_LF (by omega)) (tabP_NamesOK (m+0)) <;> assumption
theorem tabP_AmongOK(m:Nat):AmongOK (runY tabP LF (m+1)).call:=by
 unfold AmongOK;intros;simp only [call_fn (tab:=tabP) (lf:=LF) (n:=m+0) (k:=m+1) (y:=fy11) (f:=11) rfl rfl tabP_11];simp only [tabP_s11]
 apply among_ok (C:=(runY tabP LF (m+0)).call) (lf:=LF) (le_LF (by omega)) <;> assumption
theorem tabP_RLegalOK(m:Nat):RLegalOK (runY tabP LF (m+3)).call:=by
 unfold RLegalOK;intros;simp only [call_fn (tab:=tabP) (lf:=LF) (n:=m+2) (k:=m+3) (y:=fy6) (f:=6) rfl rfl tabP_6];simp only [tabP_s6]
 apply rlegal_ok (C:=(runY tabP LF (m+2)).call) (lf:=LF) (tabP_CallOK (m+0)) (tabP_AmongOK (m+1)) <;> assumption
theorem mainP_s{C:YC}{lf:Nat}{a0 a1 a2:SV}{h:HW}:fy3.s C lf [a0,a1,a2] h=fs3 C lf a0 a1 a2 h:=by kernel_rfl
section
variable{w:World}
def FUELP:Nat:=10
theorem mainP(ht:hasTab 0 .u8 zs (hw0 w)=true){c:ByteArray}{e n:Int}(_:IntKind.i64.min≤e∧e≤IntKind.i64.max)(hn:IntKind.u8.min≤n∧n≤IntKind.u8.max):
 ∃ h',fy3.s (conY cons (runY tabP LF FUELP).call) LF [.str c,.int .i64 e,.int .u8 n] (hw0 w)=some (.ret (.bool true),h'):=by
 have m3:IntKind.u8.min=0:=rfl
 have m4:IntKind.u8.max=255:=rfl
 have hgn:0 < (hw0 w).next:=by
  obtain ⟨_,⟨m,hm⟩,_⟩:=hasTab_cell ht
  exact hw0_row hm
 have c1:=tabP_NamesOK 9
 have c2:=tabP_LegalOK 7
 have c3:=tabP_RLegalOK 7
 simp only [mainP_s]
 refine legal_main (lf:=LF) (C:=conY cons (runY tabP LF 10).call) ?_ ?_ ?_ (fun h F=>con_lives ?_) (by omega) (by omega)
 · unfold NamesOK at *;simpa only [con_other (f:=4) rfl] using c1
 · unfold LegalOK at *;simpa only [con_other (f:=5) rfl] using c2
 · unfold RLegalOK at *;simpa only [con_other (f:=6) rfl] using c3
 · rw [hasTab_same F.ng (F.same _ hgn (fun e=>e))];exact ht
end
end Go.Proofs.YtgofkccnmmiciaaGreatDoor.Eva
