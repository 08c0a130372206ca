import Derived.Test.YtgofkccnmmiciaaGreatDoorCards
import Derived.Test.YtgofkccnmmiciaaGreatDoorWFaultLegalm3
set_option linter.unusedSimpArgs false
set_option linter.unusedVariables false
namespace Go.Proofs.YtgofkccnmmiciaaGreatDoor.Eva
open Go.Xe
set_option maxRecDepth 100000
set_option linter.unusedVariables false
noncomputable def fx7:XF Tryz.prog:=⟨7,Tryz.f7,fun _=> .text,Tryz.func7,by kernel_rfl,by kernel_rfl,by kernel_rfl,by kernel_rfl⟩
noncomputable def ff7(x0:O)(h:HW):Rs:=
 ob x0 fun a0=>
 some (.ret a0,h)
noncomputable def q7_57(C:YC)(lf:Nat)(r:K1)(h:HW):Rs:=
 b2 (ybs Tryz.prog 35 3 [0,1,2] [(.int .u8 97),(.int .u8 98),(.int .u8 99)] h) fun y1 h1=>
 b2 (ycv Tryz.prog 35 35 y1 h1) fun y2 h2=>
 ob (semBuild Tryz.prog 37 [0,1,3,5] [(.int .u8 1),(.str (bs [47,102])),(.int .i64 420),y2]) fun y3=>
 b2 (ybs Tryz.prog 38 1 [0] [y3] h2) fun y4 h4=>
 bc (C (.fn 12) [y4] h4) fun y5 h5=>
 ob (bin Tryz.prog .eql 32 y5 (.val (.pointer none))) fun y6=>
 yIf y6
 (r (some (.bool false)) h5)
 (ob (semNil y5) fun y7=>
 ob (fa 0 y7) fun y8=>
 ob (ld1 y8 h5) fun y9=>
 ob (semBuild Tryz.prog 48 [] []) fun y10=>
 bc (C (.fn 13) [y9,y10] h5) fun y11 h11=>
 ob (ext 0 y11) fun y12=>
 ob (ext 1 y11) fun y13=>
 ob (bin Tryz.prog .eql 39 y12 (.val (.pointer none))) fun y14=>
 bc (gd false (some y14) (some (.ret y13,h11)) h11) fun y15 h15=>
 bc (gd false (some y14) (bc (C (.fn 14) [y15] h15) fun y16 h16=>
 some (.ret y16,h16)) h15) fun y17 h17=>
 bc (gd false (some y14) (ob (bin Tryz.prog .neq 3 y17 (.int .i64 0)) fun y18=>
 some (.ret y18,h17)) h17) fun y19 h19=>
 ob (ypk y14 (.bool true) y19) fun y20=>
 yIf y20
 (r (some (.bool false)) h19)
 (ob (semBuild Tryz.prog 53 [0,1,2] [(.str (bs [111,112,101,110])),(.int .i64 2),(.int .i64 5)]) fun y21=>
 b2 (ybs Tryz.prog 72 1 [0] [y21] h19) fun y22 h22=>
 bc (C (.fn 15) [y12,y22] h22) fun y23 h23=>
 ob (bin Tryz.prog .eql 50 y23 (.val (.pointer none))) fun y24=>
 yIf y24
 (r (some (.bool false)) h23)
 (bc (C (.fn 16) [y23,(.str (bs [47,102])),(.int .i64 1),(.int .i64 0)] h23) fun y25 h25=>
 ob (ext 0 y25) fun y26=>
 ob (ext 1 y25) fun y27=>
 bc (C (.fn 16) [y23,(.str (bs [47,102])),(.int .i64 1),(.int .i64 0)] h25) fun y28 h28=>
 ob (ext 0 y28) fun y29=>
 ob (ext 1 y28) fun y30=>
 bc (C (.fn 16) [y23,(.str (bs [47,102])),(.int .i64 1),(.int .i64 0)] h28) fun y31 h31=>
 ob (ext 0 y31) fun y32=>
 ob (ext 1 y31) fun y33=>
 ob (bin Tryz.prog .eql 3 y26 (.int .i64 0)) fun y34=>
 bc (gd true (some y34) (some (.ret y27,h31)) h31) fun y35 h35=>
 bc (gd true (some y34) (bc (C (.fn 14) [y35] h35) fun y36 h36=>
 some (.ret y36,h36)) h35) fun y37 h37=>
 bc (gd true (some y34) (ob (bin Tryz.prog .eql 3 y37 (.int .i64 0)) fun y38=>
 some (.ret y38,h37)) h37) fun y39 h39=>
 ob (ypk y34 y39 (.bool false)) fun y40=>
 bc (gd true (some y40) (some (.ret y30,h39)) h39) fun y41 h41=>
 bc (gd true (some y40) (bc (C (.fn 14) [y41] h41) fun y42 h42=>
 some (.ret y42,h42)) h41) fun y43 h43=>
 bc (gd true (some y40) (ob (bin Tryz.prog .eql 3 y43 (.int .i64 5)) fun y44=>
 some (.ret y44,h43)) h43) fun y45 h45=>
 ob (ypk y40 y45 (.bool false)) fun y46=>
 bc (gd true (some y46) (some (.ret y32,h45)) h45) fun y47 h47=>
 bc (gd true (some y46) (ob (bin Tryz.prog .eql 3 y47 (.int .i64 1)) fun y48=>
 some (.ret y48,h47)) h47) fun y49 h49=>
 ob (ypk y46 y49 (.bool false)) fun y50=>
 bc (gd true (some y50) (some (.ret y33,h49)) h49) fun y51 h51=>
 bc (gd true (some y50) (bc (C (.fn 14) [y51] h51) fun y52 h52=>
 some (.ret y52,h52)) h51) fun y53 h53=>
 bc (gd true (some y50) (ob (bin Tryz.prog .eql 3 y53 (.int .i64 0)) fun y54=>
 some (.ret y54,h53)) h53) fun y55 h55=>
 ob (ypk y50 y55 (.bool false)) fun y56=>
 r (some y56) h55)))
theorem q7_57_eq(C:YC)(lf:Nat)(r:K1)(KN:KF)(KE:KX): ∀ F h,evX fx7 C lf [] F h KN (fun F h=>r (F 0) h) KE=q7_57 C lf r h:=by
 intro F h;kernel_rfl
noncomputable def fs7(C:YC)(lf:Nat)(h:HW):Rs:=q7_57 C lf ff7 h
theorem fs7_eq(C:YC)(lf:Nat)(h:HW):yFn Tryz.prog fx7 C lf [] h=fs7 C lf h:=fnX (K:=(fun F h=>ff7 (F 0) h)) (by kernel_rfl) (((q7_57_eq C lf ff7 (fun F h=>ff7 (F 0) h) (fun _ _ _=>none)) _ h).trans (by kernel_rfl))
noncomputable def fy7:YX Tryz.prog:=Y0 fx7 fs7 fs7_eq (by kernel_rfl)
noncomputable def fx12:XF Tryz.prog:=⟨12,Tryz.f12,fun _=> .text,Tryz.func12,by kernel_rfl,by kernel_rfl,by kernel_rfl,by kernel_rfl⟩
noncomputable def ff12(x2:O)(h:HW):Rs:=
 ob x2 fun a0=>
 some (.ret a0,h)
noncomputable def q12_2(C:YC)(lf:Nat)(r:K1)(x7:O)(h:HW):Rs:=
 ob x7 fun a1=>
 r (some a1) h
theorem q12_2_eq(C:YC)(lf:Nat)(r:K1)(KN:KF)(KE:KX): ∀ F h,evX fx12 C lf [1,1,1,1,1,1] F h KN (fun F h=>r (F 2) h) KE=q12_2 C lf r (F 7) h:=by
 intro F h;kernel_rfl
noncomputable def q12_19(C:YC)(lf:Nat)(n:K4)(r:K1)(e0:K1)(x7 x29 x30 x31:O)(h:HW):Rs:=
 ob x31 fun a4=>
 ob x30 fun a5=>
 ob (bin Tryz.prog .lss 3 a4 a5) fun y6=>
 yIf y6
 (ob x29 fun a7=>
 ob x31 fun a8=>
 ob (ixS 6 a7 a8) fun y9=>
 ob (ldN 6 y9 h) fun y10=>
 b2 (yAl Tryz.prog 37 h) fun y11 h11=>
 ob (st 6 y11 y10 h11) fun h12=>
 ob x7 fun a13=>
 ob (ldN 6 y11 h12) fun y14=>
 bc (C (.fn 19) [a13,y14] h12) fun y15 h15=>
 ob (unE .not y15) fun y16=>
 yIf y16
 (r (some (.val (.pointer none))) h15)
 (ob x31 fun a17=>
 ob (bin Tryz.prog .add 3 a17 (.int .i64 1)) fun y18=>
 n x7 x29 x30 (some y18) h15))
 (e0 x7 h)
theorem q12_19_eq(C:YC)(lf:Nat)(n:K4)(r:K1)(e0:K1)(KE:KX): ∀ F h,evX fx12 C lf [1,1,1,1,1,0,1,0,0] F h (fun F h=>n (F 7) (F 29) (F 30) (F 31) h) (fun F h=>r (F 2) h) (bk 0 (fun F h=>e0 (F 7) h) KE)=q12_19 C lf n r e0 (F 7) (F 29) (F 30) (F 31) h:=by
 intro F h;kernel_rfl
noncomputable def l12_3(C:YC)(lf:Nat)(r:K1)(e0:K1)(k:O × O × O × O→HW→Rs)(s:O × O × O × O)(h:HW):Rs:=
 q12_19 C lf (fun x7 x29 x30 x31 h=>k (x7,x29,x30,x31) h) r e0 s.1 s.2.1 s.2.2.1 s.2.2.2 h
noncomputable def q12_22(C:YC)(lf:Nat)(n:K4)(x0 x7:O)(h:HW):Rs:=
 ob x0 fun a20=>
 ob (lenE Tryz.prog 38 a20) fun y21=>
 n x7 (some a20) (some y21) (some (.int .i64 0)) h
theorem q12_22_eq(C:YC)(lf:Nat)(n:K4)(KR:KF)(KE:KX): ∀ F h,evX fx12 C lf [1,1,1,1,1,0,0] F h (fun F h=>n (F 7) (F 29) (F 30) (F 31) h) KR KE=q12_22 C lf n (F 0) (F 7) h:=by
 intro F h;kernel_rfl
noncomputable def q12_23(C:YC)(lf:Nat)(n:K1)(r:K1)(x0 x7:O)(h:HW):Rs:=
 q12_22 C lf (fun x7 x29 x30 x31 h=>lp (l12_3 C lf r n) lf (x7,x29,x30,x31) h) x0 x7 h
theorem q12_23_eq(C:YC)(lf:Nat)(n:K1)(r:K1)(KE:KX): ∀ F h,evX fx12 C lf [1,1,1,1,1,0] F h (fun F h=>n (F 7) h) (fun F h=>r (F 2) h) KE=q12_23 C lf n r (F 0) (F 7) h:=cSeq (a:=subX fx12 [1,1,1,1,1,0,0]) (b:=subX fx12 [1,1,1,1,1,0,1]) (by kernel_rfl) (B:=(fun F h=>lp (l12_3 C lf r n) lf ((F 7),(F 29),(F 30),(F 31)) h)) (cBlock (id:=0) (a:=subX fx12 [1,1,1,1,1,0,1,0]) (by kernel_rfl) (cLoop (a:=subX fx12 [1,1,1,1,1,0,1,0,0]) (g:=fun F=>(F 7,F 29,F 30,F 31)) (body:=l12_3 C lf r n) (by kernel_rfl) (fun k=>(q12_19_eq C lf (fun x7 x29 x30 x31 h=>k (x7,x29,x30,x31) h) r n KE)))) (q12_22_eq C lf (fun x7 x29 x30 x31 h=>lp (l12_3 C lf r n) lf (x7,x29,x30,x31) h) (fun F h=>r (F 2) h) KE)
noncomputable def q12_24(C:YC)(lf:Nat)(r:K1)(x0 x7:O)(h:HW):Rs:=
 q12_23 C lf (fun x7 h=>q12_2 C lf r x7 h) r x0 x7 h
theorem q12_24_eq(C:YC)(lf:Nat)(r:K1)(KN:KF)(KE:KX): ∀ F h,evX fx12 C lf [1,1,1,1,1] F h KN (fun F h=>r (F 2) h) KE=q12_24 C lf r (F 0) (F 7) h:=cSeq (a:=subX fx12 [1,1,1,1,1,0]) (b:=subX fx12 [1,1,1,1,1,1]) (by kernel_rfl) (B:=(fun F h=>q12_2 C lf r (F 7) h)) (q12_2_eq C lf r KN KE) (q12_23_eq C lf (fun x7 h=>q12_2 C lf r x7 h) r KE)
noncomputable def q12_29(C:YC)(lf:Nat)(n:K2)(x0 x3 x5:O)(h:HW):Rs:=
 ob x3 fun a25=>
 ob x5 fun a26=>
 ob (semBuild Tryz.prog 45 [0,1] [a25,a26]) fun y27=>
 b2 (ybx 45 y27 h) fun y28 h28=>
 n x0 (some y28) h28
theorem q12_29_eq(C:YC)(lf:Nat)(n:K2)(KR:KF)(KE:KX): ∀ F h,evX fx12 C lf [1,1,1,1,0] F h (fun F h=>n (F 0) (F 7) h) KR KE=q12_29 C lf n (F 0) (F 3) (F 5) h:=by
 intro F h;kernel_rfl
noncomputable def q12_30(C:YC)(lf:Nat)(r:K1)(x0 x3 x5:O)(h:HW):Rs:=
 q12_29 C lf (fun x0 x7 h=>q12_24 C lf r x0 x7 h) x0 x3 x5 h
theorem q12_30_eq(C:YC)(lf:Nat)(r:K1)(KN:KF)(KE:KX): ∀ F h,evX fx12 C lf [1,1,1,1] F h KN (fun F h=>r (F 2) h) KE=q12_30 C lf r (F 0) (F 3) (F 5) h:=cSeq (a:=subX fx12 [1,1,1,1,0]) (b:=subX fx12 [1,1,1,1,1]) (by kernel_rfl) (B:=(fun F h=>q12_24 C lf r (F 0) (F 7) h)) (q12_24_eq C lf r KN KE) (q12_29_eq C lf (fun x0 x7 h=>q12_24 C lf r x0 x7 h) (fun F h=>r (F 2) h) KE)
noncomputable def q12_40(C:YC)(lf:Nat)(n:K3)(r:K1)(x0 x3 x4 x5:O)(h:HW):Rs:=
 ob x3 fun a31=>
 ob (bin Tryz.prog .eql 42 a31 (.val (.pointer none))) fun y32=>
 bc (gd false (some y32) (ob x4 fun a33=>
 some (.ret a33,h)) h) fun y34 h34=>
 bc (gd false (some y32) (bc (C (.fn 14) [y34] h34) fun y35 h35=>
 some (.ret y35,h35)) h34) fun y36 h36=>
 bc (gd false (some y32) (ob (bin Tryz.prog .neq 3 y36 (.int .i64 0)) fun y37=>
 some (.ret y37,h36)) h36) fun y38 h38=>
 ob (ypk y32 (.bool true) y38) fun y39=>
 yIf y39
 (r (some (.val (.pointer none))) h38)
 (n x0 x3 x5 h38)
theorem q12_40_eq(C:YC)(lf:Nat)(n:K3)(r:K1)(KE:KX): ∀ F h,evX fx12 C lf [1,1,1,0] F h (fun F h=>n (F 0) (F 3) (F 5) h) (fun F h=>r (F 2) h) KE=q12_40 C lf n r (F 0) (F 3) (F 4) (F 5) h:=by
 intro F h;kernel_rfl
noncomputable def q12_41(C:YC)(lf:Nat)(r:K1)(x0 x3 x4 x5:O)(h:HW):Rs:=
 q12_40 C lf (fun x0 x3 x5 h=>q12_30 C lf r x0 x3 x5 h) r x0 x3 x4 x5 h
theorem q12_41_eq(C:YC)(lf:Nat)(r:K1)(KN:KF)(KE:KX): ∀ F h,evX fx12 C lf [1,1,1] F h KN (fun F h=>r (F 2) h) KE=q12_41 C lf r (F 0) (F 3) (F 4) (F 5) h:=cSeq (a:=subX fx12 [1,1,1,0]) (b:=subX fx12 [1,1,1,1]) (by kernel_rfl) (B:=(fun F h=>q12_30 C lf r (F 0) (F 3) (F 5) h)) (q12_30_eq C lf r KN KE) (q12_40_eq C lf (fun x0 x3 x5 h=>q12_30 C lf r x0 x3 x5 h) r KE)
noncomputable def q12_45(C:YC)(lf:Nat)(n:K4)(x0 x3 x4:O)(h:HW):Rs:=
 bc (C (.fn 18) [(.int .i64 600),(.int .i64 60)] h) fun y42 h42=>
 ob (ext 0 y42) fun y43=>
 ob (ext 1 y42) fun y44=>
 n x0 x3 x4 (some y43) h42
theorem q12_45_eq(C:YC)(lf:Nat)(n:K4)(KR:KF)(KE:KX): ∀ F h,evX fx12 C lf [1,1,0] F h (fun F h=>n (F 0) (F 3) (F 4) (F 5) h) KR KE=q12_45 C lf n (F 0) (F 3) (F 4) h:=by
 intro F h;kernel_rfl
noncomputable def q12_46(C:YC)(lf:Nat)(r:K1)(x0 x3 x4:O)(h:HW):Rs:=
 q12_45 C lf (fun x0 x3 x4 x5 h=>q12_41 C lf r x0 x3 x4 x5 h) x0 x3 x4 h
theorem q12_46_eq(C:YC)(lf:Nat)(r:K1)(KN:KF)(KE:KX): ∀ F h,evX fx12 C lf [1,1] F h KN (fun F h=>r (F 2) h) KE=q12_46 C lf r (F 0) (F 3) (F 4) h:=cSeq (a:=subX fx12 [1,1,0]) (b:=subX fx12 [1,1,1]) (by kernel_rfl) (B:=(fun F h=>q12_41 C lf r (F 0) (F 3) (F 4) (F 5) h)) (q12_41_eq C lf r KN KE) (q12_45_eq C lf (fun x0 x3 x4 x5 h=>q12_41 C lf r x0 x3 x4 x5 h) (fun F h=>r (F 2) h) KE)
noncomputable def q12_50(C:YC)(lf:Nat)(n:K3)(x0:O)(h:HW):Rs:=
 bc (C (.fn 17) [(.int .i64 600),(.int .i64 60)] h) fun y47 h47=>
 ob (ext 0 y47) fun y48=>
 ob (ext 1 y47) fun y49=>
 n x0 (some y48) (some y49) h47
theorem q12_50_eq(C:YC)(lf:Nat)(n:K3)(KR:KF)(KE:KX): ∀ F h,evX fx12 C lf [1,0] F h (fun F h=>n (F 0) (F 3) (F 4) h) KR KE=q12_50 C lf n (F 0) h:=by
 intro F h;kernel_rfl
noncomputable def q12_51(C:YC)(lf:Nat)(r:K1)(x0:O)(h:HW):Rs:=
 q12_50 C lf (fun x0 x3 x4 h=>q12_46 C lf r x0 x3 x4 h) x0 h
theorem q12_51_eq(C:YC)(lf:Nat)(r:K1)(KN:KF)(KE:KX): ∀ F h,evX fx12 C lf [1] F h KN (fun F h=>r (F 2) h) KE=q12_51 C lf r (F 0) h:=cSeq (a:=subX fx12 [1,0]) (b:=subX fx12 [1,1]) (by kernel_rfl) (B:=(fun F h=>q12_46 C lf r (F 0) (F 3) (F 4) h)) (q12_46_eq C lf r KN KE) (q12_50_eq C lf (fun x0 x3 x4 h=>q12_46 C lf r x0 x3 x4 h) (fun F h=>r (F 2) h) KE)
noncomputable def q12_52(C:YC)(lf:Nat)(n:K1)(x0:O)(h:HW):Rs:=
 n x0 h
theorem q12_52_eq(C:YC)(lf:Nat)(n:K1)(KR:KF)(KE:KX): ∀ F h,evX fx12 C lf [0] F h (fun F h=>n (F 0) h) KR KE=q12_52 C lf n (F 0) h:=by
 intro F h;kernel_rfl
noncomputable def q12_53(C:YC)(lf:Nat)(r:K1)(x0:O)(h:HW):Rs:=
 q12_52 C lf (fun x0 h=>q12_51 C lf r x0 h) x0 h
theorem q12_53_eq(C:YC)(lf:Nat)(r:K1)(KN:KF)(KE:KX): ∀ F h,evX fx12 C lf [] F h KN (fun F h=>r (F 2) h) KE=q12_53 C lf r (F 0) h:=cSeq (a:=subX fx12 [0]) (b:=subX fx12 [1]) (by kernel_rfl) (B:=(fun F h=>q12_51 C lf r (F 0) h)) (q12_51_eq C lf r KN KE) (q12_52_eq C lf (fun x0 h=>q12_51 C lf r x0 h) (fun F h=>r (F 2) h) KE)
noncomputable def fs12(C:YC)(lf:Nat)(a0:SV)(h:HW):Rs:=q12_53 C lf ff12 (some a0) h
theorem fs12_eq(C:YC)(lf:Nat)(a0:SV)(h:HW):yFn Tryz.prog fx12 C lf [a0] h=fs12 C lf a0 h:=fnX (K:=(fun F h=>ff12 (F 2) h)) (by kernel_rfl) (((q12_53_eq C lf ff12 (fun F h=>ff12 (F 2) h) (fun _ _ _=>none)) _ h).trans (by kernel_rfl))
noncomputable def fy12:YX Tryz.prog:=Y1 fx12 fs12 fs12_eq (by kernel_rfl)
noncomputable def fx13:XF Tryz.prog:=⟨13,Tryz.f13,fun _=> .text,Tryz.func13,by kernel_rfl,by kernel_rfl,by kernel_rfl,by kernel_rfl⟩
noncomputable def ff13(x4 x5:O)(h:HW):Rs:=
 ob x4 fun a0=>
 ob x5 fun a1=>
 some (.ret (.tup [a0,a1]),h)
noncomputable def q13_36(C:YC)(lf:Nat)(r:K2)(x0 x3 x6:O)(h:HW):Rs:=
 ob x0 fun a2=>
 ob x3 fun a3=>
 ob (fa 4 a3) fun y4=>
 ob (ld1 y4 h) fun y5=>
 bc (C (.fn 21) [a2,y5] h) fun y6 h6=>
 ob (ext 0 y6) fun y7=>
 ob (ext 1 y6) fun y8=>
 b2 (yAl Tryz.prog 63 h6) fun y9 h9=>
 ob (st 10 y9 y7 h9) fun h10=>
 ob x6 fun a11=>
 bc (gd false (some a11) (some (.ret y8,h10)) h10) fun y12 h12=>
 bc (gd false (some a11) (ob (bin Tryz.prog .neq 25 y12 (.int .i64 0)) fun y13=>
 some (.ret y13,h12)) h12) fun y14 h14=>
 ob (ypk a11 (.bool true) y14) fun y15=>
 bc (gd false (some y15) (ob (fa 6 y9) fun y16=>
 some (.ret y16,h14)) h14) fun y17 h17=>
 bc (gd false (some y15) (ob (ld1 y17 h17) fun y18=>
 some (.ret y18,h17)) h17) fun y19 h19=>
 bc (gd false (some y15) (ob (bin Tryz.prog .and 34 y19 (.int .i64 61440)) fun y20=>
 some (.ret y20,h19)) h19) fun y21 h21=>
 bc (gd false (some y15) (ob (bin Tryz.prog .neq 34 y21 (.int .i64 16384)) fun y22=>
 some (.ret y22,h21)) h21) fun y23 h23=>
 ob (ypk y15 (.bool true) y23) fun y24=>
 yIf y24
 (r (some (.val (.pointer none))) (some (.int .i64 22)) h23)
 (ob x0 fun a25=>
 ob x3 fun a26=>
 ob (fa 4 a26) fun y27=>
 ob (ld1 y27 h23) fun y28=>
 bc (C (.fn 22) [a25,y28] h23) fun y29 h29=>
 ob x0 fun a30=>
 ob x3 fun a31=>
 ob (ldN 5 a31 h29) fun y32=>
 bc (C (.fn 23) [y32] h29) fun y33 h33=>
 ob (semBuild Tryz.prog 71 [0,1] [a30,y33]) fun y34=>
 b2 (ybx 71 y34 h33) fun y35 h35=>
 r (some y35) (some (.int .i64 0)) h35)
theorem q13_36_eq(C:YC)(lf:Nat)(r:K2)(KN:KF)(KE:KX): ∀ F h,evX fx13 C lf [1,1,1,1,1] F h KN (fun F h=>r (F 4) (F 5) h) KE=q13_36 C lf r (F 0) (F 3) (F 6) h:=by
 intro F h;kernel_rfl
noncomputable def q13_44(C:YC)(lf:Nat)(n:K3)(x0 x3 x6:O)(h:HW):Rs:=
 ob x3 fun a37=>
 ob (fa 4 a37) fun y38=>
 ob (ld1 y38 h) fun y39=>
 ob (bin Tryz.prog .eql 3 y39 (.int .i64 0)) fun y40=>
 yIf y40
 (ob x3 fun a41=>
 ob (fa 4 a41) fun y42=>
 ob (st 1 y42 (.int .i64 1) h) fun h43=>
 n x0 x3 x6 h43)
 (n x0 x3 x6 h)
theorem q13_44_eq(C:YC)(lf:Nat)(n:K3)(KR:KF)(KE:KX): ∀ F h,evX fx13 C lf [1,1,1,1,0] F h (fun F h=>n (F 0) (F 3) (F 6) h) KR KE=q13_44 C lf n (F 0) (F 3) (F 6) h:=by
 intro F h;kernel_rfl
noncomputable def q13_45(C:YC)(lf:Nat)(r:K2)(x0 x3 x6:O)(h:HW):Rs:=
 q13_44 C lf (fun x0 x3 x6 h=>q13_36 C lf r x0 x3 x6 h) x0 x3 x6 h
theorem q13_45_eq(C:YC)(lf:Nat)(r:K2)(KN:KF)(KE:KX): ∀ F h,evX fx13 C lf [1,1,1,1] F h KN (fun F h=>r (F 4) (F 5) h) KE=q13_45 C lf r (F 0) (F 3) (F 6) h:=cSeq (a:=subX fx13 [1,1,1,1,0]) (b:=subX fx13 [1,1,1,1,1]) (by kernel_rfl) (B:=(fun F h=>q13_36 C lf r (F 0) (F 3) (F 6) h)) (q13_36_eq C lf r KN KE) (q13_44_eq C lf (fun x0 x3 x6 h=>q13_36 C lf r x0 x3 x6 h) (fun F h=>r (F 4) (F 5) h) KE)
noncomputable def q13_61(C:YC)(lf:Nat)(n:K6)(e0:K3)(x0 x3 x6 x38 x39 x40:O)(h:HW):Rs:=
 ob x40 fun a47=>
 ob x39 fun a48=>
 ob (bin Tryz.prog .lss 3 a47 a48) fun y49=>
 yIf y49
 (ob x38 fun a50=>
 ob x40 fun a51=>
 ob (ixS 1 a50 a51) fun y52=>
 ob (ld1 y52 h) fun y53=>
 ob x6 fun a54=>
 bc (gd false (some a54) (some (.ret y53,h)) h) fun y55 h55=>
 bc (gd false (some a54) (ob (bin Tryz.prog .lss 3 y55 (.int .i64 0)) fun y56=>
 some (.ret y56,h55)) h55) fun y57 h57=>
 ob (ypk a54 (.bool true) y57) fun y58=>
 ob x40 fun a59=>
 ob (bin Tryz.prog .add 3 a59 (.int .i64 1)) fun y60=>
 n x0 x3 (some y58) x38 x39 (some y60) h57)
 (e0 x0 x3 x6 h)
theorem q13_61_eq(C:YC)(lf:Nat)(n:K6)(e0:K3)(KR:KF)(KE:KX): ∀ F h,evX fx13 C lf [1,1,1,0,1,0,0] F h (fun F h=>n (F 0) (F 3) (F 6) (F 38) (F 39) (F 40) h) KR (bk 0 (fun F h=>e0 (F 0) (F 3) (F 6) h) KE)=q13_61 C lf n e0 (F 0) (F 3) (F 6) (F 38) (F 39) (F 40) h:=by
 intro F h;kernel_rfl
noncomputable def l13_46(C:YC)(lf:Nat)(e0:K3)(k:O × O × O × O × O × O→HW→Rs)(s:O × O × O × O × O × O)(h:HW):Rs:=
 q13_61 C lf (fun x0 x3 x6 x38 x39 x40 h=>k (x0,x3,x6,x38,x39,x40) h) e0 s.1 s.2.1 s.2.2.1 s.2.2.2.1 s.2.2.2.2.1 s.2.2.2.2.2 h
noncomputable def q13_66(C:YC)(lf:Nat)(n:K6)(x0 x3 x6:O)(h:HW):Rs:=
 ob x3 fun a62=>
 ob (fa 2 a62) fun y63=>
 ob (ld1 y63 h) fun y64=>
 ob (lenE Tryz.prog 46 y64) fun y65=>
 n x0 x3 x6 (some y64) (some y65) (some (.int .i64 0)) h
theorem q13_66_eq(C:YC)(lf:Nat)(n:K6)(KR:KF)(KE:KX): ∀ F h,evX fx13 C lf [1,1,1,0,0] F h (fun F h=>n (F 0) (F 3) (F 6) (F 38) (F 39) (F 40) h) KR KE=q13_66 C lf n (F 0) (F 3) (F 6) h:=by
 intro F h;kernel_rfl
noncomputable def q13_67(C:YC)(lf:Nat)(n:K3)(x0 x3 x6:O)(h:HW):Rs:=
 q13_66 C lf (fun x0 x3 x6 x38 x39 x40 h=>lp (l13_46 C lf n) lf (x0,x3,x6,x38,x39,x40) h) x0 x3 x6 h
theorem q13_67_eq(C:YC)(lf:Nat)(n:K3)(KR:KF)(KE:KX): ∀ F h,evX fx13 C lf [1,1,1,0] F h (fun F h=>n (F 0) (F 3) (F 6) h) KR KE=q13_67 C lf n (F 0) (F 3) (F 6) h:=cSeq (a:=subX fx13 [1,1,1,0,0]) (b:=subX fx13 [1,1,1,0,1]) (by kernel_rfl) (B:=(fun F h=>lp (l13_46 C lf n) lf ((F 0),(F 3),(F 6),(F 38),(F 39),(F 40)) h)) (cBlock (id:=0) (a:=subX fx13 [1,1,1,0,1,0]) (by kernel_rfl) (cLoop (a:=subX fx13 [1,1,1,0,1,0,0]) (g:=fun F=>(F 0,F 3,F 6,F 38,F 39,F 40)) (body:=l13_46 C lf n) (by kernel_rfl) (fun k=>(q13_61_eq C lf (fun x0 x3 x6 x38 x39 x40 h=>k (x0,x3,x6,x38,x39,x40) h) n KR KE)))) (q13_66_eq C lf (fun x0 x3 x6 x38 x39 x40 h=>lp (l13_46 C lf n) lf (x0,x3,x6,x38,x39,x40) h) KR KE)
noncomputable def q13_68(C:YC)(lf:Nat)(r:K2)(x0 x3 x6:O)(h:HW):Rs:=
 q13_67 C lf (fun x0 x3 x6 h=>q13_45 C lf r x0 x3 x6 h) x0 x3 x6 h
theorem q13_68_eq(C:YC)(lf:Nat)(r:K2)(KN:KF)(KE:KX): ∀ F h,evX fx13 C lf [1,1,1] F h KN (fun F h=>r (F 4) (F 5) h) KE=q13_68 C lf r (F 0) (F 3) (F 6) h:=cSeq (a:=subX fx13 [1,1,1,0]) (b:=subX fx13 [1,1,1,1]) (by kernel_rfl) (B:=(fun F h=>q13_45 C lf r (F 0) (F 3) (F 6) h)) (q13_45_eq C lf r KN KE) (q13_67_eq C lf (fun x0 x3 x6 h=>q13_45 C lf r x0 x3 x6 h) (fun F h=>r (F 4) (F 5) h) KE)
noncomputable def q13_97(C:YC)(lf:Nat)(n:K3)(x0 x3:O)(h:HW):Rs:=
 ob x3 fun a69=>
 ob (fa 0 a69) fun y70=>
 ob (ld1 y70 h) fun y71=>
 ob (bin Tryz.prog .lss 3 y71 (.int .i64 0)) fun y72=>
 bc (gd false (some y72) (ob x3 fun a73=>
 ob (fa 1 a73) fun y74=>
 some (.ret y74,h)) h) fun y75 h75=>
 bc (gd false (some y72) (ob (ld1 y75 h75) fun y76=>
 some (.ret y76,h75)) h75) fun y77 h77=>
 bc (gd false (some y72) (ob (bin Tryz.prog .lss 3 y77 (.int .i64 0)) fun y78=>
 some (.ret y78,h77)) h77) fun y79 h79=>
 ob (ypk y72 (.bool true) y79) fun y80=>
 bc (gd false (some y80) (ob x3 fun a81=>
 ob (fa 3 a81) fun y82=>
 some (.ret y82,h79)) h79) fun y83 h83=>
 bc (gd false (some y80) (ob (ld1 y83 h83) fun y84=>
 some (.ret y84,h83)) h83) fun y85 h85=>
 bc (gd false (some y80) (ob (bin Tryz.prog .lss 3 y85 (.int .i64 0)) fun y86=>
 some (.ret y86,h85)) h85) fun y87 h87=>
 ob (ypk y80 (.bool true) y87) fun y88=>
 bc (gd false (some y88) (ob x3 fun a89=>
 ob (fa 3 a89) fun y90=>
 some (.ret y90,h87)) h87) fun y91 h91=>
 bc (gd false (some y88) (ob (ld1 y91 h91) fun y92=>
 some (.ret y92,h91)) h91) fun y93 h93=>
 bc (gd false (some y88) (ob (bin Tryz.prog .gtr 3 y93 (.int .i64 511)) fun y94=>
 some (.ret y94,h93)) h93) fun y95 h95=>
 ob (ypk y88 (.bool true) y95) fun y96=>
 n x0 x3 (some y96) h95
theorem q13_97_eq(C:YC)(lf:Nat)(n:K3)(KR:KF)(KE:KX): ∀ F h,evX fx13 C lf [1,1,0] F h (fun F h=>n (F 0) (F 3) (F 6) h) KR KE=q13_97 C lf n (F 0) (F 3) h:=by
 intro F h;kernel_rfl
noncomputable def q13_98(C:YC)(lf:Nat)(r:K2)(x0 x3:O)(h:HW):Rs:=
 q13_97 C lf (fun x0 x3 x6 h=>q13_68 C lf r x0 x3 x6 h) x0 x3 h
theorem q13_98_eq(C:YC)(lf:Nat)(r:K2)(KN:KF)(KE:KX): ∀ F h,evX fx13 C lf [1,1] F h KN (fun F h=>r (F 4) (F 5) h) KE=q13_98 C lf r (F 0) (F 3) h:=cSeq (a:=subX fx13 [1,1,0]) (b:=subX fx13 [1,1,1]) (by kernel_rfl) (B:=(fun F h=>q13_68 C lf r (F 0) (F 3) (F 6) h)) (q13_68_eq C lf r KN KE) (q13_97_eq C lf (fun x0 x3 x6 h=>q13_68 C lf r x0 x3 x6 h) (fun F h=>r (F 4) (F 5) h) KE)
noncomputable def q13_110(C:YC)(lf:Nat)(n:K2)(r:K2)(x0 x3:O)(h:HW):Rs:=
 ob x0 fun a99=>
 ob (bin Tryz.prog .eql 42 a99 (.val (.pointer none))) fun y100=>
 bc (gd false (some y100) (ob x0 fun a101=>
 some (.ret a101,h)) h) fun y102 h102=>
 bc (gd false (some y100) (bc (C (.fn 20) [y102] h102) fun y103 h103=>
 some (.ret y103,h103)) h102) fun y104 h104=>
 bc (gd false (some y100) (ob (lenE Tryz.prog 46 y104) fun y105=>
 some (.ret y105,h104)) h104) fun y106 h106=>
 bc (gd false (some y100) (ob (bin Tryz.prog .eql 3 y106 (.int .i64 0)) fun y107=>
 some (.ret y107,h106)) h106) fun y108 h108=>
 ob (ypk y100 (.bool true) y108) fun y109=>
 yIf y109
 (r (some (.val (.pointer none))) (some (.int .i64 14)) h108)
 (n x0 x3 h108)
theorem q13_110_eq(C:YC)(lf:Nat)(n:K2)(r:K2)(KE:KX): ∀ F h,evX fx13 C lf [1,0] F h (fun F h=>n (F 0) (F 3) h) (fun F h=>r (F 4) (F 5) h) KE=q13_110 C lf n r (F 0) (F 3) h:=by
 intro F h;kernel_rfl
noncomputable def q13_111(C:YC)(lf:Nat)(r:K2)(x0 x3:O)(h:HW):Rs:=
 q13_110 C lf (fun x0 x3 h=>q13_98 C lf r x0 x3 h) r x0 x3 h
theorem q13_111_eq(C:YC)(lf:Nat)(r:K2)(KN:KF)(KE:KX): ∀ F h,evX fx13 C lf [1] F h KN (fun F h=>r (F 4) (F 5) h) KE=q13_111 C lf r (F 0) (F 3) h:=cSeq (a:=subX fx13 [1,0]) (b:=subX fx13 [1,1]) (by kernel_rfl) (B:=(fun F h=>q13_98 C lf r (F 0) (F 3) h)) (q13_98_eq C lf r KN KE) (q13_110_eq C lf (fun x0 x3 h=>q13_98 C lf r x0 x3 h) r KE)
noncomputable def q13_114(C:YC)(lf:Nat)(n:K2)(x0 x1:O)(h:HW):Rs:=
 ob x1 fun a112=>
 b2 (ybx 48 a112 h) fun y113 h113=>
 n x0 (some y113) h113
theorem q13_114_eq(C:YC)(lf:Nat)(n:K2)(KR:KF)(KE:KX): ∀ F h,evX fx13 C lf [0] F h (fun F h=>n (F 0) (F 3) h) KR KE=q13_114 C lf n (F 0) (F 1) h:=by
 intro F h;kernel_rfl
noncomputable def q13_115(C:YC)(lf:Nat)(r:K2)(x0 x1:O)(h:HW):Rs:=
 q13_114 C lf (fun x0 x3 h=>q13_111 C lf r x0 x3 h) x0 x1 h
theorem q13_115_eq(C:YC)(lf:Nat)(r:K2)(KN:KF)(KE:KX): ∀ F h,evX fx13 C lf [] F h KN (fun F h=>r (F 4) (F 5) h) KE=q13_115 C lf r (F 0) (F 1) h:=cSeq (a:=subX fx13 [0]) (b:=subX fx13 [1]) (by kernel_rfl) (B:=(fun F h=>q13_111 C lf r (F 0) (F 3) h)) (q13_111_eq C lf r KN KE) (q13_114_eq C lf (fun x0 x3 h=>q13_111 C lf r x0 x3 h) (fun F h=>r (F 4) (F 5) h) KE)
noncomputable def fs13(C:YC)(lf:Nat)(a0 a1:SV)(h:HW):Rs:=q13_115 C lf ff13 (some a0) (some a1) h
theorem fs13_eq(C:YC)(lf:Nat)(a0 a1:SV)(h:HW):yFn Tryz.prog fx13 C lf [a0,a1] h=fs13 C lf a0 a1 h:=fnX (K:=(fun F h=>ff13 (F 4) (F 5) h)) (by kernel_rfl) (((q13_115_eq C lf ff13 (fun F h=>ff13 (F 4) (F 5) h) (fun _ _ _=>none)) _ h).trans (by kernel_rfl))
noncomputable def fy13:YX Tryz.prog:=Y2 fx13 fs13 fs13_eq (by kernel_rfl)
noncomputable def fx15:XF Tryz.prog:=⟨15,Tryz.f15,fun _=> .text,Tryz.func15,by kernel_rfl,by kernel_rfl,by kernel_rfl,by kernel_rfl⟩
noncomputable def ff15(x4:O)(h:HW):Rs:=
 ob x4 fun a0=>
 some (.ret a0,h)
noncomputable def q15_17(C:YC)(lf:Nat)(r:K1)(x0 x1:O)(h:HW):Rs:=
 ob x0 fun a1=>
 bc (C (.fn 24) [a1] h) fun y2 h2=>
 ob (bin Tryz.prog .eql 42 y2 (.val (.pointer none))) fun y3=>
 yIf y3
 (ob (semBuild Tryz.prog 78 [] []) fun y4=>
 b2 (ybx 78 y4 h2) fun y5 h5=>
 r (some y5) h5)
 (ob x1 fun a6=>
 ob x1 fun a7=>
 ob (lenE Tryz.prog 72 a7) fun y8=>
 b2 (ybl Tryz.prog .min #[3,3] [y8,(.int .i64 1000)] h2) fun y9 h9=>
 ob (semSlice Tryz.prog 72 a6 none (some y9)) fun y10=>
 ob x0 fun a11=>
 ob (semBuild Tryz.prog 75 [0] [a11]) fun y12=>
 b2 (ybl Tryz.prog .append #[72,72] [(.val (.slice none 0 0)),y10] h9) fun y13 h13=>
 b2 (ymm h13) fun y14 h14=>
 ob (semBuild Tryz.prog 78 [0,1,2] [y12,y13,y14]) fun y15=>
 b2 (ybx 78 y15 h14) fun y16 h16=>
 r (some y16) h16)
theorem q15_17_eq(C:YC)(lf:Nat)(r:K1)(KN:KF)(KE:KX): ∀ F h,evX fx15 C lf [] F h KN (fun F h=>r (F 4) h) KE=q15_17 C lf r (F 0) (F 1) h:=by
 intro F h;kernel_rfl
noncomputable def fs15(C:YC)(lf:Nat)(a0 a1:SV)(h:HW):Rs:=q15_17 C lf ff15 (some a0) (some a1) h
theorem fs15_eq(C:YC)(lf:Nat)(a0 a1:SV)(h:HW):yFn Tryz.prog fx15 C lf [a0,a1] h=fs15 C lf a0 a1 h:=fnX (K:=(fun F h=>ff15 (F 4) h)) (by kernel_rfl) (((q15_17_eq C lf ff15 (fun F h=>ff15 (F 4) h) (fun _ _ _=>none)) _ h).trans (by kernel_rfl))
noncomputable def fy15:YX Tryz.prog:=Y2 fx15 fs15 fs15_eq (by kernel_rfl)
noncomputable def fx16:XF Tryz.prog:=⟨16,Tryz.f16,fun _=> .text,Tryz.func16,by kernel_rfl,by kernel_rfl,by kernel_rfl,by kernel_rfl⟩
noncomputable def ff16(x8 x9:O)(h:HW):Rs:=
 ob x8 fun a0=>
 ob x9 fun a1=>
 some (.ret (.tup [a0,a1]),h)
noncomputable def q16_14(C:YC)(lf:Nat)(r:K2)(x0 x1 x2 x3:O)(h:HW):Rs:=
 ob x0 fun a2=>
 b2 (ybx 50 a2 h) fun y3 h3=>
 ob x1 fun a4=>
 b2 (ybx 9 a4 h3) fun y5 h5=>
 ob x2 fun a6=>
 b2 (ybx 3 a6 h5) fun y7 h7=>
 ob x3 fun a8=>
 b2 (ybx 34 a8 h7) fun y9 h9=>
 ob (ld1 y3 h9) fun y10=>
 bc (C (.fn 25) [y10,(.str (bs [111,112,101,110])),(.fn (.func 26) [] [y3,y5,y7,y9])] h9) fun y11 h11=>
 ob (ext 0 y11) fun y12=>
 ob (ext 1 y11) fun y13=>
 r (some y12) (some y13) h11
theorem q16_14_eq(C:YC)(lf:Nat)(r:K2)(KN:KF)(KE:KX): ∀ F h,evX fx16 C lf [] F h KN (fun F h=>r (F 8) (F 9) h) KE=q16_14 C lf r (F 0) (F 1) (F 2) (F 3) h:=by
 intro F h;kernel_rfl
noncomputable def fs16(C:YC)(lf:Nat)(a0 a1 a2 a3:SV)(h:HW):Rs:=q16_14 C lf ff16 (some a0) (some a1) (some a2) (some a3) h
theorem fs16_eq(C:YC)(lf:Nat)(a0 a1 a2 a3:SV)(h:HW):yFn Tryz.prog fx16 C lf [a0,a1,a2,a3] h=fs16 C lf a0 a1 a2 a3 h:=fnX (K:=(fun F h=>ff16 (F 8) (F 9) h)) (by kernel_rfl) (((q16_14_eq C lf ff16 (fun F h=>ff16 (F 8) (F 9) h) (fun _ _ _=>none)) _ h).trans (by kernel_rfl))
noncomputable def fy16:YX Tryz.prog:=Y4 fx16 fs16 fs16_eq (by kernel_rfl)
noncomputable def fx17:XF Tryz.prog:=⟨17,Tryz.f17,fun _=> .text,Tryz.func17,by kernel_rfl,by kernel_rfl,by kernel_rfl,by kernel_rfl⟩
noncomputable def ff17(x4 x5:O)(h:HW):Rs:=
 ob x4 fun a0=>
 ob x5 fun a1=>
 some (.ret (.tup [a0,a1]),h)
noncomputable def q17_13(C:YC)(lf:Nat)(r:K2)(x0 x1:O)(h:HW):Rs:=
 ob x0 fun a2=>
 ob x1 fun a3=>
 bc (C (.fn 29) [a2,a3] h) fun y4 h4=>
 ob (ext 0 y4) fun y5=>
 ob (ext 1 y4) fun y6=>
 ob (bin Tryz.prog .neq 25 y6 (.int .i64 0)) fun y7=>
 yIf y7
 (r (some (.val (.pointer none))) (some y6) h4)
 (bc (C (.fn 30) [y5,(.int .i64 16877),(.int .i64 0),(.int .i64 0)] h4) fun y8 h8=>
 bc (C (.fn 31) [y5,(.int .i64 1),(.int .i64 1)] h8) fun y9 h9=>
 bc (C (.fn 32) [y5,(.int .i64 1),(.int .i64 2)] h9) fun y10 h10=>
 ob (semBuild Tryz.prog 89 [0] [y5]) fun y11=>
 b2 (ybx 89 y11 h10) fun y12 h12=>
 r (some y12) (some (.int .i64 0)) h12)
theorem q17_13_eq(C:YC)(lf:Nat)(r:K2)(KN:KF)(KE:KX): ∀ F h,evX fx17 C lf [] F h KN (fun F h=>r (F 4) (F 5) h) KE=q17_13 C lf r (F 0) (F 1) h:=by
 intro F h;kernel_rfl
noncomputable def fs17(C:YC)(lf:Nat)(a0 a1:SV)(h:HW):Rs:=q17_13 C lf ff17 (some a0) (some a1) h
theorem fs17_eq(C:YC)(lf:Nat)(a0 a1:SV)(h:HW):yFn Tryz.prog fx17 C lf [a0,a1] h=fs17 C lf a0 a1 h:=fnX (K:=(fun F h=>ff17 (F 4) (F 5) h)) (by kernel_rfl) (((q17_13_eq C lf ff17 (fun F h=>ff17 (F 4) (F 5) h) (fun _ _ _=>none)) _ h).trans (by kernel_rfl))
noncomputable def fy17:YX Tryz.prog:=Y2 fx17 fs17 fs17_eq (by kernel_rfl)
noncomputable def fx18:XF Tryz.prog:=⟨18,Tryz.f18,fun _=> .text,Tryz.func18,by kernel_rfl,by kernel_rfl,by kernel_rfl,by kernel_rfl⟩
noncomputable def ff18(x4 x5:O)(h:HW):Rs:=
 ob x4 fun a0=>
 ob x5 fun a1=>
 some (.ret (.tup [a0,a1]),h)
noncomputable def q18_15(C:YC)(lf:Nat)(r:K2)(x0 x1:O)(h:HW):Rs:=
 ob x0 fun a2=>
 ob x1 fun a3=>
 bc (C (.fn 33) [a2,a3] h) fun y4 h4=>
 ob (ext 0 y4) fun y5=>
 ob (ext 1 y4) fun y6=>
 ob (bin Tryz.prog .neq 3 y6 (.int .i64 0)) fun y7=>
 yIf y7
 (r (some (.val (.pointer none))) (some y6) h4)
 (bc (C (.fn 34) [y5,(.int .i64 16877),(.int .i64 0),(.int .i64 0)] h4) fun y8 h8=>
 ob (ext 0 y8) fun y9=>
 ob (ext 1 y8) fun y10=>
 bc (C (.fn 35) [y5,y9,y9] h8) fun y11 h11=>
 bc (C (.fn 36) [y5,y9,(.int .i64 2)] h11) fun y12 h12=>
 ob (semBuild Tryz.prog 98 [0] [y5]) fun y13=>
 b2 (ybx 98 y13 h12) fun y14 h14=>
 r (some y14) (some (.int .i64 0)) h14)
theorem q18_15_eq(C:YC)(lf:Nat)(r:K2)(KN:KF)(KE:KX): ∀ F h,evX fx18 C lf [] F h KN (fun F h=>r (F 4) (F 5) h) KE=q18_15 C lf r (F 0) (F 1) h:=by
 intro F h;kernel_rfl
noncomputable def fs18(C:YC)(lf:Nat)(a0 a1:SV)(h:HW):Rs:=q18_15 C lf ff18 (some a0) (some a1) h
theorem fs18_eq(C:YC)(lf:Nat)(a0 a1:SV)(h:HW):yFn Tryz.prog fx18 C lf [a0,a1] h=fs18 C lf a0 a1 h:=fnX (K:=(fun F h=>ff18 (F 4) (F 5) h)) (by kernel_rfl) (((q18_15_eq C lf ff18 (fun F h=>ff18 (F 4) (F 5) h) (fun _ _ _=>none)) _ h).trans (by kernel_rfl))
noncomputable def fy18:YX Tryz.prog:=Y2 fx18 fs18 fs18_eq (by kernel_rfl)
noncomputable def fx19:XF Tryz.prog:=⟨19,Tryz.f19,fun r=>bif Nat.beq r 4 then .ord [0,1,2,5,7,11,12,13,16,18,3,4,6,8,14,15,17,19,9,10,20,21,22] [(10,[19,17,15,14]),(9,[19,17,15,14])] else bif Nat.beq r 12 then .ord [0,1,2,4,6,3,7,5,8,9,10,11,12,13,14] [(5,[7,3]),(8,[3])] else bif Nat.beq r 14 then .ord [0,1,2,3,4,6,5,7,8,9,10,11,12,14,17,18,19,21,13,20,15,16,22,23,24,25] [(16,[20]),(15,[20])] else bif Nat.beq r 16 then .ord [0,1,2,5,7,11,12,13,16,18,3,4,6,8,14,15,17,19,9,10,20,21,22] [(10,[19,17,15,14]),(9,[19,17,15,14])] else bif Nat.beq r 18 then .ord [0,1,2,5,7,11,12,13,16,18,3,4,6,8,14,15,17,19,9,10,20,21,22] [(10,[19,17,15,14]),(9,[19,17,15,14])] else bif Nat.beq r 20 then .ord [0,1,2,5,7,11,12,13,16,18,3,4,6,8,14,15,17,19,9,10,20,21,22] [(10,[19,17,15,14]),(9,[19,17,15,14])] else bif Nat.beq r 22 then .ord [0,1,2,5,7,9,13,14,15,18,20,22,3,4,6,8,10,16,17,19,21,23,11,12,24,25,26] [(12,[23,21,19,17,16]),(11,[23,21,19,17,16])] else bif Nat.beq r 23 then .ord [0,1,2,5,7,9,13,14,15,18,20,22,3,4,6,8,10,16,17,19,21,23,11,12,24,25,26] [(12,[23,21,19,17,16]),(11,[23,21,19,17,16])] else .text,Tryz.func19,by kernel_rfl,by kernel_rfl,by kernel_rfl,by kernel_rfl⟩
noncomputable def ff19(x4:O)(h:HW):Rs:=
 ob x4 fun a0=>
 some (.ret a0,h)
noncomputable def q19_241(C:YC)(lf:Nat)(r:K1)(x0 x1:O)(h:HW):Rs:=
 ob x1 fun a1=>
 b2 (ybx 37 a1 h) fun y2 h2=>
 b2 (yAl Tryz.prog 48 h2) fun y3 h3=>
 ob (fa 0 y2) fun y4=>
 ob (ld1 y4 h3) fun y5=>
 ob (bin Tryz.prog .rem 5 y5 (.int .u8 7)) fun y6=>
 ob (bin Tryz.prog .eql 5 y6 (.int .u8 0)) fun y7=>
 yIf y7
 (ob x0 fun a8=>
 ob (semNil a8) fun y9=>
 ob (fa 0 y9) fun y10=>
 ob (fa 1 y2) fun y11=>
 ob (fa 3 y2) fun y12=>
 ob x0 fun a13=>
 ob (semNil a13) fun y14=>
 ob (fa 1 y14) fun y15=>
 ob (fa 1 y2) fun y16=>
 ob (fa 3 y2) fun y17=>
 ob (ld1 y10 h3) fun y18=>
 ob (ldN 5 y3 h3) fun y19=>
 ob (ld1 y11 h3) fun y20=>
 ob (ld1 y12 h3) fun y21=>
 ob (ld1 y15 h3) fun y22=>
 ob (ldN 5 y3 h3) fun y23=>
 ob (ld1 y16 h3) fun y24=>
 ob (ld1 y17 h3) fun y25=>
 bcn (C (.fn 37) [y18,y19,y20,y21] h3) fun y26 h26=>
 ck (chkH [(19,adrO (some y17)),(17,adrO (some y16)),(15,adrO (some y3)),(14,adrO (some y15)),(8,adrO (some y12)),(6,adrO (some y11)),(4,adrO (some y3)),(3,adrO (some y10))] h3 h26 [19,17,15,14]) <|
 bcn (C (.fn 14) [y26] h26) fun y27 h27=>
 ck (chkH [(19,adrO (some y17)),(17,adrO (some y16)),(15,adrO (some y3)),(14,adrO (some y15)),(8,adrO (some y12)),(6,adrO (some y11)),(4,adrO (some y3)),(3,adrO (some y10))] h26 h27 [19,17,15,14]) <|
 bcn (C (.fn 38) [y22,y23,y24,y25] h27) fun y28 h28=>
 ob (bin Tryz.prog .eql 3 y27 y28) fun y29=>
 r (some y29) h28)
 (ob (bin Tryz.prog .eql 5 y6 (.int .u8 1)) fun y30=>
 yIf y30
 (ob x0 fun a31=>
 ob (semNil a31) fun y32=>
 ob (fa 0 y32) fun y33=>
 ob (ld1 y33 h3) fun y34=>
 ob (ldN 5 y3 h3) fun y35=>
 ob (fa 1 y2) fun y36=>
 ob (ld1 y36 h3) fun y37=>
 ob (fa 3 y2) fun y38=>
 ob (ld1 y38 h3) fun y39=>
 bcn (C (.fn 39) [y34,y35,y37,(.int .i64 42),y39] h3) fun y40 h40=>
 ob (ext 0 y40) fun y41=>
 ob (ext 1 y40) fun y42=>
 ob x0 fun a43=>
 ob (semNil a43) fun y44=>
 ob (fa 1 y44) fun y45=>
 ob (ld1 y45 h40) fun y46=>
 ob (ldN 5 y3 h40) fun y47=>
 ob (fa 1 y2) fun y48=>
 ob (ld1 y48 h40) fun y49=>
 ob (fa 3 y2) fun y50=>
 ob (ld1 y50 h40) fun y51=>
 bcn (C (.fn 40) [y46,y47,y49,(.int .i64 42),y51] h40) fun y52 h52=>
 ob (ext 0 y52) fun y53=>
 ob (ext 1 y52) fun y54=>
 ob (bin Tryz.prog .neq 3 y41 y53) fun y55=>
 bc (gd false (some y55) (some (.ret y42,h52)) h52) fun y56 h56=>
 bc (gd false (some y55) (bc (C (.fn 14) [y56] h56) fun y57 h57=>
 some (.ret y57,h57)) h56) fun y58 h58=>
 bc (gd false (some y55) (some (.ret y54,h58)) h58) fun y59 h59=>
 bc (gd false (some y55) (ob (bin Tryz.prog .neq 3 y58 y59) fun y60=>
 some (.ret y60,h59)) h59) fun y61 h61=>
 ob (ypk y55 (.bool true) y61) fun y62=>
 yIf y62
 (r (some (.bool false)) h61)
 (ob (bin Tryz.prog .neq 3 y54 (.int .i64 0)) fun y63=>
 yIf y63
 (r (some (.bool true)) h61)
 (ob x0 fun a64=>
 ob (semNil a64) fun y65=>
 ob (fa 0 y65) fun y66=>
 ob (fa 5 y2) fun y67=>
 ob (ld1 y66 h61) fun y68=>
 ob (ld1 y67 h61) fun y69=>
 b2 (ybs Tryz.prog 35 0 [] [] h61) fun y70 h70=>
 ck (chkH [(7,adrO (some y67)),(3,adrO (some y66))] h61 h70 [7,3]) <|
 b2 (ybl Tryz.prog .append #[35,35] [y70,y69] h70) fun y71 h71=>
 ck (chkH [(7,adrO (some y67)),(3,adrO (some y66))] h70 h71 [3]) <|
 bcn (C (.fn 41) [y68,y41,(.int .i64 0),y71] h71) fun y72 h72=>
 ob (ext 0 y72) fun y73=>
 ob (ext 1 y72) fun y74=>
 ob x0 fun a75=>
 ob (semNil a75) fun y76=>
 ob (fa 1 y76) fun y77=>
 ob (ld1 y77 h72) fun y78=>
 ob (fa 5 y2) fun y79=>
 ob (ld1 y79 h72) fun y80=>
 bcn (C (.fn 42) [y78,y53,(.int .i64 0),y80] h72) fun y81 h81=>
 ob (ext 0 y81) fun y82=>
 ob (ext 1 y81) fun y83=>
 ob (bin Tryz.prog .eql 3 y73 y82) fun y84=>
 bcn (gd true (some y84) (some (.ret y74,h81)) h81) fun y85 h85=>
 bcn (gd true (some y84) (some (.ret y83,h85)) h85) fun y86 h86=>
 bcn (gd true (some y84) (bcn (C (.fn 14) [y85] h86) fun y87 h87=>
 some (.ret y87,h87)) h86) fun y88 h88=>
 bcn (gd true (some y84) (ob (bin Tryz.prog .eql 3 y88 y86) fun y89=>
 some (.ret y89,h88)) h88) fun y90 h90=>
 ob (ypk y84 y90 (.bool false)) fun y91=>
 bcn (gd true (some y91) (ob x0 fun a92=>
 some (.ret a92,h90)) h90) fun y93 h93=>
 bcn (gd true (some y91) (ob (semNil y93) fun y94=>
 some (.ret y94,h93)) h93) fun y95 h95=>
 bcn (gd true (some y91) (ob (fa 0 y95) fun y96=>
 some (.ret y96,h95)) h95) fun y97 h97=>
 bcn (gd true (some y91) (some (.ret y41,h97)) h97) fun y98 h98=>
 bcn (gd true (some y91) (ob x0 fun a99=>
 some (.ret a99,h98)) h98) fun y100 h100=>
 bcn (gd true (some y91) (ob (semNil y100) fun y101=>
 some (.ret y101,h100)) h100) fun y102 h102=>
 bcn (gd true (some y91) (ob (fa 1 y102) fun y103=>
 some (.ret y103,h102)) h102) fun y104 h104=>
 bcn (gd true (some y91) (some (.ret y53,h104)) h104) fun y105 h105=>
 bcn (gd true (some y91) (ob (ld1 y97 h105) fun y106=>
 some (.ret y106,h105)) h105) fun y107 h107=>
 bcn (gd true (some y91) (ob (ld1 y104 h107) fun y108=>
 some (.ret y108,h107)) h107) fun y109 h109=>
 bcn (gd true (some y91) (bcn (C (.fn 43) [y107,y98] h109) fun y110 h110=>
 some (.ret y110,h110)) h109) fun y111 h111=>
 ck (chkH [(20,gdA true (some y91) (adrO (some y104))),(13,gdA true (some y91) (adrO (some y97)))] h109 h111 [20]) <|
 bcn (gd true (some y91) (bcn (C (.fn 14) [y111] h111) fun y112 h112=>
 some (.ret y112,h112)) h111) fun y113 h113=>
 ck (chkH [(20,gdA true (some y91) (adrO (some y104))),(13,gdA true (some y91) (adrO (some y97)))] h111 h113 [20]) <|
 bcn (gd true (some y91) (bcn (C (.fn 44) [y109,y105] h113) fun y114 h114=>
 some (.ret y114,h114)) h113) fun y115 h115=>
 bcn (gd true (some y91) (ob (bin Tryz.prog .eql 3 y113 y115) fun y116=>
 some (.ret y116,h115)) h115) fun y117 h117=>
 ob (ypk y91 y117 (.bool false)) fun y118=>
 r (some y118) h117)))
 (ob (bin Tryz.prog .eql 5 y6 (.int .u8 2)) fun y119=>
 yIf y119
 (ob x0 fun a120=>
 ob (semNil a120) fun y121=>
 ob (fa 0 y121) fun y122=>
 ob (fa 2 y2) fun y123=>
 ob (fa 1 y2) fun y124=>
 ob x0 fun a125=>
 ob (semNil a125) fun y126=>
 ob (fa 1 y126) fun y127=>
 ob (fa 2 y2) fun y128=>
 ob (fa 1 y2) fun y129=>
 ob (ld1 y122 h3) fun y130=>
 ob (ldN 5 y3 h3) fun y131=>
 ob (ld1 y123 h3) fun y132=>
 ob (ld1 y124 h3) fun y133=>
 ob (ld1 y127 h3) fun y134=>
 ob (ldN 5 y3 h3) fun y135=>
 ob (ld1 y128 h3) fun y136=>
 ob (ld1 y129 h3) fun y137=>
 bcn (C (.fn 45) [y130,y131,y132,y133] h3) fun y138 h138=>
 ck (chkH [(19,adrO (some y129)),(17,adrO (some y128)),(15,adrO (some y3)),(14,adrO (some y127)),(8,adrO (some y124)),(6,adrO (some y123)),(4,adrO (some y3)),(3,adrO (some y122))] h3 h138 [19,17,15,14]) <|
 bcn (C (.fn 14) [y138] h138) fun y139 h139=>
 ck (chkH [(19,adrO (some y129)),(17,adrO (some y128)),(15,adrO (some y3)),(14,adrO (some y127)),(8,adrO (some y124)),(6,adrO (some y123)),(4,adrO (some y3)),(3,adrO (some y122))] h138 h139 [19,17,15,14]) <|
 bcn (C (.fn 46) [y134,y135,y136,y137] h139) fun y140 h140=>
 ob (bin Tryz.prog .eql 3 y139 y140) fun y141=>
 r (some y141) h140)
 (ob (bin Tryz.prog .eql 5 y6 (.int .u8 3)) fun y142=>
 yIf y142
 (ob x0 fun a143=>
 ob (semNil a143) fun y144=>
 ob (fa 0 y144) fun y145=>
 ob (fa 2 y2) fun y146=>
 ob (fa 1 y2) fun y147=>
 ob x0 fun a148=>
 ob (semNil a148) fun y149=>
 ob (fa 1 y149) fun y150=>
 ob (fa 2 y2) fun y151=>
 ob (fa 1 y2) fun y152=>
 ob (ld1 y145 h3) fun y153=>
 ob (ldN 5 y3 h3) fun y154=>
 ob (ld1 y146 h3) fun y155=>
 ob (ld1 y147 h3) fun y156=>
 ob (ld1 y150 h3) fun y157=>
 ob (ldN 5 y3 h3) fun y158=>
 ob (ld1 y151 h3) fun y159=>
 ob (ld1 y152 h3) fun y160=>
 bcn (C (.fn 47) [y153,y154,y155,y156] h3) fun y161 h161=>
 ck (chkH [(19,adrO (some y152)),(17,adrO (some y151)),(15,adrO (some y3)),(14,adrO (some y150)),(8,adrO (some y147)),(6,adrO (some y146)),(4,adrO (some y3)),(3,adrO (some y145))] h3 h161 [19,17,15,14]) <|
 bcn (C (.fn 14) [y161] h161) fun y162 h162=>
 ck (chkH [(19,adrO (some y152)),(17,adrO (some y151)),(15,adrO (some y3)),(14,adrO (some y150)),(8,adrO (some y147)),(6,adrO (some y146)),(4,adrO (some y3)),(3,adrO (some y145))] h161 h162 [19,17,15,14]) <|
 bcn (C (.fn 48) [y157,y158,y159,y160] h162) fun y163 h163=>
 ob (bin Tryz.prog .eql 3 y162 y163) fun y164=>
 r (some y164) h163)
 (ob (bin Tryz.prog .eql 5 y6 (.int .u8 4)) fun y165=>
 yIf y165
 (ob x0 fun a166=>
 ob (semNil a166) fun y167=>
 ob (fa 0 y167) fun y168=>
 ob (fa 1 y2) fun y169=>
 ob (fa 3 y2) fun y170=>
 ob x0 fun a171=>
 ob (semNil a171) fun y172=>
 ob (fa 1 y172) fun y173=>
 ob (fa 1 y2) fun y174=>
 ob (fa 3 y2) fun y175=>
 ob (ld1 y168 h3) fun y176=>
 ob (ldN 5 y3 h3) fun y177=>
 ob (ld1 y169 h3) fun y178=>
 ob (ld1 y170 h3) fun y179=>
 ob (ld1 y173 h3) fun y180=>
 ob (ldN 5 y3 h3) fun y181=>
 ob (ld1 y174 h3) fun y182=>
 ob (ld1 y175 h3) fun y183=>
 bcn (C (.fn 49) [y176,y177,y178,y179] h3) fun y184 h184=>
 ck (chkH [(19,adrO (some y175)),(17,adrO (some y174)),(15,adrO (some y3)),(14,adrO (some y173)),(8,adrO (some y170)),(6,adrO (some y169)),(4,adrO (some y3)),(3,adrO (some y168))] h3 h184 [19,17,15,14]) <|
 bcn (C (.fn 14) [y184] h184) fun y185 h185=>
 ck (chkH [(19,adrO (some y175)),(17,adrO (some y174)),(15,adrO (some y3)),(14,adrO (some y173)),(8,adrO (some y170)),(6,adrO (some y169)),(4,adrO (some y3)),(3,adrO (some y168))] h184 h185 [19,17,15,14]) <|
 bcn (C (.fn 50) [y180,y181,y182,y183] h185) fun y186 h186=>
 ob (bin Tryz.prog .eql 3 y185 y186) fun y187=>
 r (some y187) h186)
 (ob (bin Tryz.prog .eql 5 y6 (.int .u8 5)) fun y188=>
 yIf y188
 (ob x0 fun a189=>
 ob (semNil a189) fun y190=>
 ob (fa 0 y190) fun y191=>
 ob (fa 1 y2) fun y192=>
 ob (fa 4 y2) fun y193=>
 ob (fa 4 y2) fun y194=>
 ob x0 fun a195=>
 ob (semNil a195) fun y196=>
 ob (fa 1 y196) fun y197=>
 ob (fa 1 y2) fun y198=>
 ob (fa 4 y2) fun y199=>
 ob (fa 4 y2) fun y200=>
 ob (ld1 y191 h3) fun y201=>
 ob (ldN 5 y3 h3) fun y202=>
 ob (ld1 y192 h3) fun y203=>
 ob (ld1 y193 h3) fun y204=>
 ob (ld1 y194 h3) fun y205=>
 ob (ld1 y197 h3) fun y206=>
 ob (ldN 5 y3 h3) fun y207=>
 ob (ld1 y198 h3) fun y208=>
 ob (ld1 y199 h3) fun y209=>
 ob (ld1 y200 h3) fun y210=>
 bcn (C (.fn 51) [y201,y202,y203,y204,y205,(.bool false)] h3) fun y211 h211=>
 ck (chkH [(23,adrO (some y200)),(21,adrO (some y199)),(19,adrO (some y198)),(17,adrO (some y3)),(16,adrO (some y197)),(10,adrO (some y194)),(8,adrO (some y193)),(6,adrO (some y192)),(4,adrO (some y3)),(3,adrO (some y191))] h3 h211 [23,21,19,17,16]) <|
 bcn (C (.fn 14) [y211] h211) fun y212 h212=>
 ck (chkH [(23,adrO (some y200)),(21,adrO (some y199)),(19,adrO (some y198)),(17,adrO (some y3)),(16,adrO (some y197)),(10,adrO (some y194)),(8,adrO (some y193)),(6,adrO (some y192)),(4,adrO (some y3)),(3,adrO (some y191))] h211 h212 [23,21,19,17,16]) <|
 bcn (C (.fn 52) [y206,y207,y208,y209,y210,(.bool false)] h212) fun y213 h213=>
 ob (bin Tryz.prog .eql 3 y212 y213) fun y214=>
 r (some y214) h213)
 (ob x0 fun a215=>
 ob (semNil a215) fun y216=>
 ob (fa 0 y216) fun y217=>
 ob (fa 1 y2) fun y218=>
 ob (fa 4 y2) fun y219=>
 ob (fa 4 y2) fun y220=>
 ob x0 fun a221=>
 ob (semNil a221) fun y222=>
 ob (fa 1 y222) fun y223=>
 ob (fa 1 y2) fun y224=>
 ob (fa 4 y2) fun y225=>
 ob (fa 4 y2) fun y226=>
 ob (ld1 y217 h3) fun y227=>
 ob (ldN 5 y3 h3) fun y228=>
 ob (ld1 y218 h3) fun y229=>
 ob (ld1 y219 h3) fun y230=>
 ob (ld1 y220 h3) fun y231=>
 ob (ld1 y223 h3) fun y232=>
 ob (ldN 5 y3 h3) fun y233=>
 ob (ld1 y224 h3) fun y234=>
 ob (ld1 y225 h3) fun y235=>
 ob (ld1 y226 h3) fun y236=>
 bcn (C (.fn 53) [y227,y228,y229,y230,y231,(.bool false)] h3) fun y237 h237=>
 ck (chkH [(23,adrO (some y226)),(21,adrO (some y225)),(19,adrO (some y224)),(17,adrO (some y3)),(16,adrO (some y223)),(10,adrO (some y220)),(8,adrO (some y219)),(6,adrO (some y218)),(4,adrO (some y3)),(3,adrO (some y217))] h3 h237 [23,21,19,17,16]) <|
 bcn (C (.fn 14) [y237] h237) fun y238 h238=>
 ck (chkH [(23,adrO (some y226)),(21,adrO (some y225)),(19,adrO (some y224)),(17,adrO (some y3)),(16,adrO (some y223)),(10,adrO (some y220)),(8,adrO (some y219)),(6,adrO (some y218)),(4,adrO (some y3)),(3,adrO (some y217))] h237 h238 [23,21,19,17,16]) <|
 bcn (C (.fn 54) [y232,y233,y234,y235,y236,(.bool false)] h238) fun y239 h239=>
 ob (bin Tryz.prog .eql 3 y238 y239) fun y240=>
 r (some y240) h239))))))
theorem q19_241_eq(C:YC)(lf:Nat)(r:K1)(KN:KF)(KE:KX): ∀ F h,evX fx19 C lf [] F h KN (fun F h=>r (F 4) h) KE=q19_241 C lf r (F 0) (F 1) h:=by
 intro F h;kernel_rfl
noncomputable def fs19(C:YC)(lf:Nat)(a0 a1:SV)(h:HW):Rs:=q19_241 C lf ff19 (some a0) (some a1) h
theorem fs19_eq(C:YC)(lf:Nat)(a0 a1:SV)(h:HW):yFn Tryz.prog fx19 C lf [a0,a1] h=fs19 C lf a0 a1 h:=fnX (K:=(fun F h=>ff19 (F 4) h)) (by kernel_rfl) (((q19_241_eq C lf ff19 (fun F h=>ff19 (F 4) h) (fun _ _ _=>none)) _ h).trans (by kernel_rfl))
noncomputable def fy19:YX Tryz.prog:=Y2 fx19 fs19 fs19_eq (by kernel_rfl)
noncomputable def fx20:XF Tryz.prog:=⟨20,Tryz.f20,fun _=> .text,Tryz.func20,by kernel_rfl,by kernel_rfl,by kernel_rfl,by kernel_rfl⟩
noncomputable def ff20(x2:O)(h:HW):Rs:=
 ob x2 fun a0=>
 some (.ret a0,h)
noncomputable def q20_9(C:YC)(lf:Nat)(r:K1)(x0:O)(h:HW):Rs:=
 ob x0 fun a1=>
 bc (C (.fn 55) [a1] h) fun y2 h2=>
 ob (unE .not y2) fun y3=>
 yIf y3
 (r (some (.val (.slice none 0 0))) h2)
 (ob x0 fun a4=>
 ob (semNil a4) fun y5=>
 ob (fa 0 y5) fun y6=>
 ob (ld1 y6 h2) fun y7=>
 bc (C (.fn 56) [y7] h2) fun y8 h8=>
 r (some y8) h8)
theorem q20_9_eq(C:YC)(lf:Nat)(r:K1)(KN:KF)(KE:KX): ∀ F h,evX fx20 C lf [] F h KN (fun F h=>r (F 2) h) KE=q20_9 C lf r (F 0) h:=by
 intro F h;kernel_rfl
noncomputable def fs20(C:YC)(lf:Nat)(a0:SV)(h:HW):Rs:=q20_9 C lf ff20 (some a0) h
theorem fs20_eq(C:YC)(lf:Nat)(a0:SV)(h:HW):yFn Tryz.prog fx20 C lf [a0] h=fs20 C lf a0 h:=fnX (K:=(fun F h=>ff20 (F 2) h)) (by kernel_rfl) (((q20_9_eq C lf ff20 (fun F h=>ff20 (F 2) h) (fun _ _ _=>none)) _ h).trans (by kernel_rfl))
noncomputable def fy20:YX Tryz.prog:=Y1 fx20 fs20 fs20_eq (by kernel_rfl)
noncomputable def fx21:XF Tryz.prog:=⟨21,Tryz.f21,fun _=> .text,Tryz.func21,by kernel_rfl,by kernel_rfl,by kernel_rfl,by kernel_rfl⟩
noncomputable def ff21(x4 x5:O)(h:HW):Rs:=
 ob x4 fun a0=>
 ob (ldN 10 a0 h) fun y1=>
 ob x5 fun a2=>
 some (.ret (.tup [y1,a2]),h)
noncomputable def q21_18(C:YC)(lf:Nat)(r:K2)(x0 x1:O)(h:HW):Rs:=
 b2 (yAl Tryz.prog 63 h) fun y3 h3=>
 ob x0 fun a4=>
 bc (C (.fn 55) [a4] h3) fun y5 h5=>
 ob (unE .not y5) fun y6=>
 yIf y6
 (ob (semBuild Tryz.prog 63 [] []) fun y7=>
 ob (st 10 y3 y7 h5) fun h8=>
 r (some y3) (some (.int .i64 14)) h8)
 (ob x0 fun a9=>
 ob (semNil a9) fun y10=>
 ob (fa 0 y10) fun y11=>
 ob (ld1 y11 h5) fun y12=>
 ob x1 fun a13=>
 bc (C (.fn 57) [y12,a13] h5) fun y14 h14=>
 ob (ext 0 y14) fun y15=>
 ob (ext 1 y14) fun y16=>
 ob (st 10 y3 y15 h14) fun h17=>
 r (some y3) (some y16) h17)
theorem q21_18_eq(C:YC)(lf:Nat)(r:K2)(KN:KF)(KE:KX): ∀ F h,evX fx21 C lf [] F h KN (fun F h=>r (F 4) (F 5) h) KE=q21_18 C lf r (F 0) (F 1) h:=by
 intro F h;kernel_rfl
noncomputable def fs21(C:YC)(lf:Nat)(a0 a1:SV)(h:HW):Rs:=q21_18 C lf ff21 (some a0) (some a1) h
theorem fs21_eq(C:YC)(lf:Nat)(a0 a1:SV)(h:HW):yFn Tryz.prog fx21 C lf [a0,a1] h=fs21 C lf a0 a1 h:=fnX (K:=(fun F h=>ff21 (F 4) (F 5) h)) (by kernel_rfl) (((q21_18_eq C lf ff21 (fun F h=>ff21 (F 4) (F 5) h) (fun _ _ _=>none)) _ h).trans (by kernel_rfl))
noncomputable def fy21:YX Tryz.prog:=Y2 fx21 fs21 fs21_eq (by kernel_rfl)
noncomputable def fx22:XF Tryz.prog:=⟨22,Tryz.f22,fun _=> .text,Tryz.func22,by kernel_rfl,by kernel_rfl,by kernel_rfl,by kernel_rfl⟩
noncomputable def ff22(x4:O)(h:HW):Rs:=
 ob x4 fun a0=>
 some (.ret a0,h)
noncomputable def q22_10(C:YC)(lf:Nat)(r:K1)(x0 x1:O)(h:HW):Rs:=
 ob x0 fun a1=>
 bc (C (.fn 55) [a1] h) fun y2 h2=>
 ob (unE .not y2) fun y3=>
 yIf y3
 (r (some (.int .i64 14)) h2)
 (ob x0 fun a4=>
 ob (semNil a4) fun y5=>
 ob (fa 0 y5) fun y6=>
 ob (ld1 y6 h2) fun y7=>
 ob x1 fun a8=>
 bc (C (.fn 58) [y7,a8] h2) fun y9 h9=>
 r (some y9) h9)
theorem q22_10_eq(C:YC)(lf:Nat)(r:K1)(KN:KF)(KE:KX): ∀ F h,evX fx22 C lf [] F h KN (fun F h=>r (F 4) h) KE=q22_10 C lf r (F 0) (F 1) h:=by
 intro F h;kernel_rfl
noncomputable def fs22(C:YC)(lf:Nat)(a0 a1:SV)(h:HW):Rs:=q22_10 C lf ff22 (some a0) (some a1) h
theorem fs22_eq(C:YC)(lf:Nat)(a0 a1:SV)(h:HW):yFn Tryz.prog fx22 C lf [a0,a1] h=fs22 C lf a0 a1 h:=fnX (K:=(fun F h=>ff22 (F 4) h)) (by kernel_rfl) (((q22_10_eq C lf ff22 (fun F h=>ff22 (F 4) h) (fun _ _ _=>none)) _ h).trans (by kernel_rfl))
noncomputable def fy22:YX Tryz.prog:=Y2 fx22 fs22 fs22_eq (by kernel_rfl)
noncomputable def fx23:XF Tryz.prog:=⟨23,Tryz.f23,fun _=> .text,Tryz.func23,by kernel_rfl,by kernel_rfl,by kernel_rfl,by kernel_rfl⟩
noncomputable def ff23(x2:O)(h:HW):Rs:=
 ob x2 fun a0=>
 ob (ldN 5 a0 h) fun y1=>
 some (.ret y1,h)
noncomputable def q23_12(C:YC)(lf:Nat)(r:K1)(x0:O)(h:HW):Rs:=
 ob x0 fun a2=>
 b2 (ybx 48 a2 h) fun y3 h3=>
 b2 (yAl Tryz.prog 48 h3) fun y4 h4=>
 ob (fa 2 y3) fun y5=>
 ob (ld1 y5 h4) fun y6=>
 b2 (ybl Tryz.prog .append #[46,46] [(.val (.slice none 0 0)),y6] h4) fun y7 h7=>
 ob (fa 2 y3) fun y8=>
 ob (st 1 y8 y7 h7) fun h9=>
 ob (ldN 5 y3 h9) fun y10=>
 ob (st 5 y4 y10 h9) fun h11=>
 r (some y4) h11
theorem q23_12_eq(C:YC)(lf:Nat)(r:K1)(KN:KF)(KE:KX): ∀ F h,evX fx23 C lf [] F h KN (fun F h=>r (F 2) h) KE=q23_12 C lf r (F 0) h:=by
 intro F h;kernel_rfl
noncomputable def fs23(C:YC)(lf:Nat)(a0:SV)(h:HW):Rs:=q23_12 C lf ff23 (some a0) h
theorem fs23_eq(C:YC)(lf:Nat)(a0:SV)(h:HW):yFn Tryz.prog fx23 C lf [a0] h=fs23 C lf a0 h:=fnX (K:=(fun F h=>ff23 (F 2) h)) (by kernel_rfl) (((q23_12_eq C lf ff23 (fun F h=>ff23 (F 2) h) (fun _ _ _=>none)) _ h).trans (by kernel_rfl))
noncomputable def fy23:YX Tryz.prog:=Y1 fx23 fs23 fs23_eq (by kernel_rfl)
noncomputable def fx24:XF Tryz.prog:=⟨24,Tryz.f24,fun _=> .text,Tryz.func24,by kernel_rfl,by kernel_rfl,by kernel_rfl,by kernel_rfl⟩
noncomputable def ff24(x2:O)(h:HW):Rs:=
 ob x2 fun a0=>
 some (.ret a0,h)
noncomputable def q24_8(C:YC)(lf:Nat)(r:K1)(x0:O)(h:HW):Rs:=
 ob x0 fun a1=>
 bc (C (.fn 59) [a1] h) fun y2 h2=>
 ob (unE .not y2) fun y3=>
 yIf y3
 (r (some (.val (.pointer none))) h2)
 (ob x0 fun a4=>
 ob (semNil a4) fun y5=>
 ob (fa 0 y5) fun y6=>
 ob (ld1 y6 h2) fun y7=>
 r (some y7) h2)
theorem q24_8_eq(C:YC)(lf:Nat)(r:K1)(KN:KF)(KE:KX): ∀ F h,evX fx24 C lf [] F h KN (fun F h=>r (F 2) h) KE=q24_8 C lf r (F 0) h:=by
 intro F h;kernel_rfl
noncomputable def fs24(C:YC)(lf:Nat)(a0:SV)(h:HW):Rs:=q24_8 C lf ff24 (some a0) h
theorem fs24_eq(C:YC)(lf:Nat)(a0:SV)(h:HW):yFn Tryz.prog fx24 C lf [a0] h=fs24 C lf a0 h:=fnX (K:=(fun F h=>ff24 (F 2) h)) (by kernel_rfl) (((q24_8_eq C lf ff24 (fun F h=>ff24 (F 2) h) (fun _ _ _=>none)) _ h).trans (by kernel_rfl))
noncomputable def fy24:YX Tryz.prog:=Y1 fx24 fs24 fs24_eq (by kernel_rfl)
noncomputable def fx25:XF Tryz.prog:=⟨25,Tryz.f25,fun _=> .text,Tryz.func25,by kernel_rfl,by kernel_rfl,by kernel_rfl,by kernel_rfl⟩
noncomputable def ff25(x6 x7:O)(h:HW):Rs:=
 ob x6 fun a0=>
 ob x7 fun a1=>
 some (.ret (.tup [a0,a1]),h)
noncomputable def q25_25(C:YC)(lf:Nat)(r:K2)(x0 x1 x2:O)(h:HW):Rs:=
 ob x0 fun a2=>
 bc (C (.fn 60) [a2] h) fun y3 h3=>
 ob (unE .not y3) fun y4=>
 yIf y4
 (r (some (.int .i64 0)) (some (.int .i64 14)) h3)
 (ob x0 fun a5=>
 ob x1 fun a6=>
 bc (C (.fn 61) [a5,a6] h3) fun y7 h7=>
 ob (ext 0 y7) fun y8=>
 ob (ext 1 y7) fun y9=>
 b2 (yAl Tryz.prog 53 h7) fun y10 h10=>
 ob (st 4 y10 y8 h10) fun h11=>
 bc (gd true (some y9) (ob (fa 2 y10) fun y12=>
 some (.ret y12,h11)) h11) fun y13 h13=>
 bc (gd true (some y9) (ob (ld1 y13 h13) fun y14=>
 some (.ret y14,h13)) h13) fun y15 h15=>
 bc (gd true (some y9) (ob (bin Tryz.prog .neq 25 y15 (.int .i64 0)) fun y16=>
 some (.ret y16,h15)) h15) fun y17 h17=>
 ob (ypk y9 y17 (.bool false)) fun y18=>
 yIf y18
 (ob (fa 2 y10) fun y19=>
 ob (ld1 y19 h17) fun y20=>
 r (some (.int .i64 0)) (some y20) h17)
 (ob x2 fun a21=>
 cv false C a21 [] h17 fun y22 h22=>
 ob (ext 0 y22) fun y23=>
 ob (ext 1 y22) fun y24=>
 r (some y23) (some y24) h22))
theorem q25_25_eq(C:YC)(lf:Nat)(r:K2)(KN:KF)(KE:KX): ∀ F h,evX fx25 C lf [] F h KN (fun F h=>r (F 6) (F 7) h) KE=q25_25 C lf r (F 0) (F 1) (F 2) h:=by
 intro F h;kernel_rfl
noncomputable def fs25(C:YC)(lf:Nat)(a0 a1 a2:SV)(h:HW):Rs:=q25_25 C lf ff25 (some a0) (some a1) (some a2) h
theorem fs25_eq(C:YC)(lf:Nat)(a0 a1 a2:SV)(h:HW):yFn Tryz.prog fx25 C lf [a0,a1,a2] h=fs25 C lf a0 a1 a2 h:=fnX (K:=(fun F h=>ff25 (F 6) (F 7) h)) (by kernel_rfl) (((q25_25_eq C lf ff25 (fun F h=>ff25 (F 6) (F 7) h) (fun _ _ _=>none)) _ h).trans (by kernel_rfl))
noncomputable def fy25:YX Tryz.prog:=Y3 fx25 fs25 fs25_eq (by kernel_rfl)
noncomputable def fx26:XF Tryz.prog:=⟨26,Tryz.f26,fun r=>bif Nat.beq r 1 then .ord [0,3,4,5,1,2,6,7,8,9,10] [(1,[5,4,3])] else .text,Tryz.func26,by kernel_rfl,by kernel_rfl,by kernel_rfl,by kernel_rfl⟩
noncomputable def ff26(x4 x5:O)(h:HW):Rs:=
 ob x4 fun a0=>
 ob x5 fun a1=>
 some (.ret (.tup [a0,a1]),h)
noncomputable def q26_15(C:YC)(lf:Nat)(r:K2)(x0 x1 x2 x3:O)(h:HW):Rs:=
 ob x0 fun a2=>
 ob (ld1 a2 h) fun y3=>
 ob x1 fun a4=>
 ob (ld1 a4 h) fun y5=>
 ob x2 fun a6=>
 ob (ld1 a6 h) fun y7=>
 ob x3 fun a8=>
 ob (ld1 a8 h) fun y9=>
 bcn (C (.fn 27) [y3] h) fun y10 h10=>
 ck (chkH [(5,adrO x3),(4,adrO x2),(3,adrO x1),(0,adrO x0)] h h10 [5,4,3]) <|
 ob (fd1 0 y10) fun y11=>
 bcn (C (.fn 28) [y11,y5,y7,y9] h10) fun y12 h12=>
 ob (ext 0 y12) fun y13=>
 ob (ext 1 y12) fun y14=>
 r (some y13) (some y14) h12
theorem q26_15_eq(C:YC)(lf:Nat)(r:K2)(KN:KF)(KE:KX): ∀ F h,evX fx26 C lf [] F h KN (fun F h=>r (F 4) (F 5) h) KE=q26_15 C lf r (F 0) (F 1) (F 2) (F 3) h:=by
 intro F h;kernel_rfl
noncomputable def fs26(C:YC)(lf:Nat)(a0 a1 a2 a3:SV)(h:HW):Rs:=q26_15 C lf ff26 (some a0) (some a1) (some a2) (some a3) h
theorem fs26_eq(C:YC)(lf:Nat)(a0 a1 a2 a3:SV)(h:HW):yFn Tryz.prog fx26 C lf [a0,a1,a2,a3] h=fs26 C lf a0 a1 a2 a3 h:=fnX (K:=(fun F h=>ff26 (F 4) (F 5) h)) (by kernel_rfl) (((q26_15_eq C lf ff26 (fun F h=>ff26 (F 4) (F 5) h) (fun _ _ _=>none)) _ h).trans (by kernel_rfl))
noncomputable def fy26:YX Tryz.prog:=Y4 fx26 fs26 fs26_eq (by kernel_rfl)
noncomputable def fx27:XF Tryz.prog:=⟨27,Tryz.f27,fun _=> .text,Tryz.func27,by kernel_rfl,by kernel_rfl,by kernel_rfl,by kernel_rfl⟩
noncomputable def ff27(x2:O)(h:HW):Rs:=
 ob x2 fun a0=>
 ob (ldN 1 a0 h) fun y1=>
 some (.ret y1,h)
noncomputable def q27_13(C:YC)(lf:Nat)(r:K1)(x0:O)(h:HW):Rs:=
 b2 (yAl Tryz.prog 75 h) fun y2 h2=>
 ob x0 fun a3=>
 bc (C (.fn 60) [a3] h2) fun y4 h4=>
 ob (unE .not y4) fun y5=>
 yIf y5
 (ob (semBuild Tryz.prog 75 [] []) fun y6=>
 ob (st 1 y2 y6 h4) fun h7=>
 r (some y2) h7)
 (ob x0 fun a8=>
 ob (semNil a8) fun y9=>
 ob (fa 0 y9) fun y10=>
 ob (ldN 1 y10 h4) fun y11=>
 ob (st 1 y2 y11 h4) fun h12=>
 r (some y2) h12)
theorem q27_13_eq(C:YC)(lf:Nat)(r:K1)(KN:KF)(KE:KX): ∀ F h,evX fx27 C lf [] F h KN (fun F h=>r (F 2) h) KE=q27_13 C lf r (F 0) h:=by
 intro F h;kernel_rfl
noncomputable def fs27(C:YC)(lf:Nat)(a0:SV)(h:HW):Rs:=q27_13 C lf ff27 (some a0) h
theorem fs27_eq(C:YC)(lf:Nat)(a0:SV)(h:HW):yFn Tryz.prog fx27 C lf [a0] h=fs27 C lf a0 h:=fnX (K:=(fun F h=>ff27 (F 2) h)) (by kernel_rfl) (((q27_13_eq C lf ff27 (fun F h=>ff27 (F 2) h) (fun _ _ _=>none)) _ h).trans (by kernel_rfl))
noncomputable def fy27:YX Tryz.prog:=Y1 fx27 fs27 fs27_eq (by kernel_rfl)
noncomputable def fx28:XF Tryz.prog:=⟨28,Tryz.f28,fun _=> .text,Tryz.func28,by kernel_rfl,by kernel_rfl,by kernel_rfl,by kernel_rfl⟩
noncomputable def ff28(x8 x9:O)(h:HW):Rs:=
 ob x8 fun a0=>
 ob x9 fun a1=>
 some (.ret (.tup [a0,a1]),h)
noncomputable def q28_47(C:YC)(lf:Nat)(r:K2)(x0 x1 x2 x3:O)(h:HW):Rs:=
 ob x0 fun a2=>
 bc (C (.fn 59) [a2] h) fun y3 h3=>
 ob (unE .not y3) fun y4=>
 yIf y4
 (r (some (.int .i64 0)) (some (.int .i64 14)) h3)
 (ob x2 fun a5=>
 ob (bin Tryz.prog .and 3 a5 (.int .i64 3)) fun y6=>
 ob (bin Tryz.prog .eql 3 y6 (.int .i64 0)) fun y7=>
 bc (gd false (some y7) (ob x2 fun a8=>
 some (.ret a8,h3)) h3) fun y9 h9=>
 bc (gd false (some y7) (ob (bin Tryz.prog .andNot 3 y9 (.int .i64 255)) fun y10=>
 some (.ret y10,h9)) h9) fun y11 h11=>
 bc (gd false (some y7) (ob (bin Tryz.prog .neq 3 y11 (.int .i64 0)) fun y12=>
 some (.ret y12,h11)) h11) fun y13 h13=>
 ob (ypk y7 (.bool true) y13) fun y14=>
 yIf y14
 (r (some (.int .i64 0)) (some (.int .i64 22)) h13)
 (ob x0 fun a15=>
 bc (C (.fn 62) [a15] h13) fun y16 h16=>
 ob (bin Tryz.prog .eql 3 y16 (.int .i64 0)) fun y17=>
 yIf y17
 (r (some (.int .i64 0)) (some (.int .i64 24)) h16)
 (ob x0 fun a18=>
 ob (semNil a18) fun y19=>
 ob (fa 0 y19) fun y20=>
 ob (ld1 y20 h16) fun y21=>
 ob x0 fun a22=>
 ob (semNil a22) fun y23=>
 ob (fa 1 y23) fun y24=>
 ob (ldN 5 y24 h16) fun y25=>
 ob x1 fun a26=>
 ob x2 fun a27=>
 ob x3 fun a28=>
 bcn (C (.fn 39) [y21,y25,a26,a27,a28] h16) fun y29 h29=>
 ob (ext 0 y29) fun y30=>
 ob (ext 1 y29) fun y31=>
 ob (bin Tryz.prog .neq 25 y31 (.int .i64 0)) fun y32=>
 yIf y32
 (r (some (.int .i64 0)) (some y31) h29)
 (ob x0 fun a33=>
 ob x0 fun a34=>
 ob (semNil a34) fun y35=>
 ob (fa 0 y35) fun y36=>
 ob (ld1 y36 h29) fun y37=>
 ob x2 fun a38=>
 ob (bin Tryz.prog .and 3 a38 (.int .i64 4)) fun y39=>
 ob (bin Tryz.prog .neq 3 y39 (.int .i64 0)) fun y40=>
 ob (semBuild Tryz.prog 119 [0,1,3] [y37,y30,y40]) fun y41=>
 b2 (ybx 119 y41 h29) fun y42 h42=>
 ob x2 fun a43=>
 ob (semBuild Tryz.prog 123 [0,1] [(.ifc 116 y42),a43]) fun y44=>
 b2 (ybx 123 y44 h42) fun y45 h45=>
 bc (C (.fn 63) [a33,y45] h45) fun y46 h46=>
 r (some y46) (some (.int .i64 0)) h46))))
theorem q28_47_eq(C:YC)(lf:Nat)(r:K2)(KN:KF)(KE:KX): ∀ F h,evX fx28 C lf [] F h KN (fun F h=>r (F 8) (F 9) h) KE=q28_47 C lf r (F 0) (F 1) (F 2) (F 3) h:=by
 intro F h;kernel_rfl
noncomputable def fs28(C:YC)(lf:Nat)(a0 a1 a2 a3:SV)(h:HW):Rs:=q28_47 C lf ff28 (some a0) (some a1) (some a2) (some a3) h
theorem fs28_eq(C:YC)(lf:Nat)(a0 a1 a2 a3:SV)(h:HW):yFn Tryz.prog fx28 C lf [a0,a1,a2,a3] h=fs28 C lf a0 a1 a2 a3 h:=fnX (K:=(fun F h=>ff28 (F 8) (F 9) h)) (by kernel_rfl) (((q28_47_eq C lf ff28 (fun F h=>ff28 (F 8) (F 9) h) (fun _ _ _=>none)) _ h).trans (by kernel_rfl))
noncomputable def fy28:YX Tryz.prog:=Y4 fx28 fs28 fs28_eq (by kernel_rfl)
noncomputable def fx29:XF Tryz.prog:=⟨29,Tryz.f29,fun _=> .text,Tryz.func29,by kernel_rfl,by kernel_rfl,by kernel_rfl,by kernel_rfl⟩
noncomputable def ff29(x4 x5:O)(h:HW):Rs:=
 ob x4 fun a0=>
 ob x5 fun a1=>
 some (.ret (.tup [a0,a1]),h)
noncomputable def q29_18(C:YC)(lf:Nat)(r:K2)(x0 x1:O)(h:HW):Rs:=
 ob x0 fun a2=>
 bc (C (.fn 64) [a2] h) fun y3 h3=>
 ob (ext 0 y3) fun y4=>
 ob (ext 1 y3) fun y5=>
 ob (bin Tryz.prog .neq 25 y5 (.int .i64 0)) fun y6=>
 yIf y6
 (r (some (.val (.pointer none))) (some (.int .i64 22)) h3)
 (ob x1 fun a7=>
 ob (bin Tryz.prog .lss 3 a7 (.int .i64 1)) fun y8=>
 bc (gd false (some y8) (ob x1 fun a9=>
 some (.ret a9,h3)) h3) fun y10 h10=>
 bc (gd false (some y8) (ob (bin Tryz.prog .gtr 3 y10 (.int .i64 4096)) fun y11=>
 some (.ret y11,h10)) h10) fun y12 h12=>
 ob (ypk y8 (.bool true) y12) fun y13=>
 yIf y13
 (r (some (.val (.pointer none))) (some (.int .i64 22)) h12)
 (ob x1 fun a14=>
 b2 (ymk Tryz.prog 127 a14 a14 h12) fun y15 h15=>
 ob (semBuild Tryz.prog 129 [0,1] [y4,y15]) fun y16=>
 b2 (ybx 129 y16 h15) fun y17 h17=>
 r (some y17) (some (.int .i64 0)) h17))
theorem q29_18_eq(C:YC)(lf:Nat)(r:K2)(KN:KF)(KE:KX): ∀ F h,evX fx29 C lf [] F h KN (fun F h=>r (F 4) (F 5) h) KE=q29_18 C lf r (F 0) (F 1) h:=by
 intro F h;kernel_rfl
noncomputable def fs29(C:YC)(lf:Nat)(a0 a1:SV)(h:HW):Rs:=q29_18 C lf ff29 (some a0) (some a1) h
theorem fs29_eq(C:YC)(lf:Nat)(a0 a1:SV)(h:HW):yFn Tryz.prog fx29 C lf [a0,a1] h=fs29 C lf a0 a1 h:=fnX (K:=(fun F h=>ff29 (F 4) (F 5) h)) (by kernel_rfl) (((q29_18_eq C lf ff29 (fun F h=>ff29 (F 4) (F 5) h) (fun _ _ _=>none)) _ h).trans (by kernel_rfl))
noncomputable def fy29:YX Tryz.prog:=Y2 fx29 fs29 fs29_eq (by kernel_rfl)
noncomputable def fx30:XF Tryz.prog:=⟨30,Tryz.f30,fun _=> .text,Tryz.func30,by kernel_rfl,by kernel_rfl,by kernel_rfl,by kernel_rfl⟩
noncomputable def ff30(x8 x9:O)(h:HW):Rs:=
 ob x8 fun a0=>
 ob x9 fun a1=>
 some (.ret (.tup [a0,a1]),h)
noncomputable def q30_2(C:YC)(lf:Nat)(r:K2)(h:HW):Rs:=
 r (some (.int .i64 0)) (some (.int .i64 28)) h
theorem q30_2_eq(C:YC)(lf:Nat)(r:K2)(KN:KF)(KE:KX): ∀ F h,evX fx30 C lf [1,1,1,1,1] F h KN (fun F h=>r (F 8) (F 9) h) KE=q30_2 C lf r h:=by
 intro F h;kernel_rfl
noncomputable def q30_43(C:YC)(lf:Nat)(n:K6)(r:K2)(e0:K0)(x0 x1 x2 x3 x44 x45:O)(h:HW):Rs:=
 ob x45 fun a4=>
 ob x44 fun a5=>
 ob (bin Tryz.prog .lss 3 a4 a5) fun y6=>
 yIf y6
 (ob x45 fun a7=>
 ob x0 fun a8=>
 ob (semNil a8) fun y9=>
 ob (fa 1 y9) fun y10=>
 ob (ld1 y10 h) fun y11=>
 ob (ixS 308 y11 a7) fun y12=>
 ob (fa 0 y12) fun y13=>
 ob (ld1 y13 h) fun y14=>
 ob (unE .not y14) fun y15=>
 yIf y15
 (ob x0 fun a16=>
 ob (semNil a16) fun y17=>
 ob (fa 1 y17) fun y18=>
 ob (ld1 y18 h) fun y19=>
 ob (bin Tryz.prog .add 3 a7 (.int .i64 1)) fun y20=>
 ob x2 fun a21=>
 ob x3 fun a22=>
 ob x1 fun a23=>
 ob x0 fun a24=>
 ob (semNil a24) fun y25=>
 ob (fa 2 y25) fun y26=>
 ob (ld1 y26 h) fun y27=>
 ob x0 fun a28=>
 ob (semNil a28) fun y29=>
 ob (fa 2 y29) fun y30=>
 ob (ld1 y30 h) fun y31=>
 ob x0 fun a32=>
 ob (semNil a32) fun y33=>
 ob (fa 2 y33) fun y34=>
 ob (ld1 y34 h) fun y35=>
 ob (semBuild Tryz.prog 63 [0,2,3,6,7,8,9] [y20,a21,a22,a23,y27,y31,y35]) fun y36=>
 ob (semBuild Tryz.prog 136 [0,1] [(.bool true),y36]) fun y37=>
 ob (ixS 308 y19 a7) fun y38=>
 ob (st 308 y38 y37 h) fun h39=>
 ob (bin Tryz.prog .add 3 a7 (.int .i64 1)) fun y40=>
 r (some y40) (some (.int .i64 0)) h39)
 (ob x45 fun a41=>
 ob (bin Tryz.prog .add 3 a41 (.int .i64 1)) fun y42=>
 n x0 x1 x2 x3 x44 (some y42) h))
 (e0 h)
theorem q30_43_eq(C:YC)(lf:Nat)(n:K6)(r:K2)(e0:K0)(KE:KX): ∀ F h,evX fx30 C lf [1,1,1,1,0,1,0,0] F h (fun F h=>n (F 0) (F 1) (F 2) (F 3) (F 44) (F 45) h) (fun F h=>r (F 8) (F 9) h) (bk 0 (fun F h=>e0 h) KE)=q30_43 C lf n r e0 (F 0) (F 1) (F 2) (F 3) (F 44) (F 45) h:=by
 intro F h;kernel_rfl
noncomputable def l30_3(C:YC)(lf:Nat)(r:K2)(e0:K0)(k:O × O × O × O × O × O→HW→Rs)(s:O × O × O × O × O × O)(h:HW):Rs:=
 q30_43 C lf (fun x0 x1 x2 x3 x44 x45 h=>k (x0,x1,x2,x3,x44,x45) h) r e0 s.1 s.2.1 s.2.2.1 s.2.2.2.1 s.2.2.2.2.1 s.2.2.2.2.2 h
noncomputable def q30_49(C:YC)(lf:Nat)(n:K6)(x0 x1 x2 x3:O)(h:HW):Rs:=
 ob x0 fun a44=>
 ob (semNil a44) fun y45=>
 ob (fa 1 y45) fun y46=>
 ob (ld1 y46 h) fun y47=>
 ob (lenE Tryz.prog 127 y47) fun y48=>
 n x0 x1 x2 x3 (some y48) (some (.int .i64 0)) h
theorem q30_49_eq(C:YC)(lf:Nat)(n:K6)(KR:KF)(KE:KX): ∀ F h,evX fx30 C lf [1,1,1,1,0,0] F h (fun F h=>n (F 0) (F 1) (F 2) (F 3) (F 44) (F 45) h) KR KE=q30_49 C lf n (F 0) (F 1) (F 2) (F 3) h:=by
 intro F h;kernel_rfl
noncomputable def q30_50(C:YC)(lf:Nat)(n:K0)(r:K2)(x0 x1 x2 x3:O)(h:HW):Rs:=
 q30_49 C lf (fun x0 x1 x2 x3 x44 x45 h=>lp (l30_3 C lf r n) lf (x0,x1,x2,x3,x44,x45) h) x0 x1 x2 x3 h
theorem q30_50_eq(C:YC)(lf:Nat)(n:K0)(r:K2)(KE:KX): ∀ F h,evX fx30 C lf [1,1,1,1,0] F h (fun F h=>n h) (fun F h=>r (F 8) (F 9) h) KE=q30_50 C lf n r (F 0) (F 1) (F 2) (F 3) h:=cSeq (a:=subX fx30 [1,1,1,1,0,0]) (b:=subX fx30 [1,1,1,1,0,1]) (by kernel_rfl) (B:=(fun F h=>lp (l30_3 C lf r n) lf ((F 0),(F 1),(F 2),(F 3),(F 44),(F 45)) h)) (cBlock (id:=0) (a:=subX fx30 [1,1,1,1,0,1,0]) (by kernel_rfl) (cLoop (a:=subX fx30 [1,1,1,1,0,1,0,0]) (g:=fun F=>(F 0,F 1,F 2,F 3,F 44,F 45)) (body:=l30_3 C lf r n) (by kernel_rfl) (fun k=>(q30_43_eq C lf (fun x0 x1 x2 x3 x44 x45 h=>k (x0,x1,x2,x3,x44,x45) h) r n KE)))) (q30_49_eq C lf (fun x0 x1 x2 x3 x44 x45 h=>lp (l30_3 C lf r n) lf (x0,x1,x2,x3,x44,x45) h) (fun F h=>r (F 8) (F 9) h) KE)
noncomputable def q30_51(C:YC)(lf:Nat)(r:K2)(x0 x1 x2 x3:O)(h:HW):Rs:=
 q30_50 C lf (fun h=>q30_2 C lf r h) r x0 x1 x2 x3 h
theorem q30_51_eq(C:YC)(lf:Nat)(r:K2)(KN:KF)(KE:KX): ∀ F h,evX fx30 C lf [1,1,1,1] F h KN (fun F h=>r (F 8) (F 9) h) KE=q30_51 C lf r (F 0) (F 1) (F 2) (F 3) h:=cSeq (a:=subX fx30 [1,1,1,1,0]) (b:=subX fx30 [1,1,1,1,1]) (by kernel_rfl) (B:=(fun F h=>q30_2 C lf r h)) (q30_2_eq C lf r KN KE) (q30_50_eq C lf (fun h=>q30_2 C lf r h) r KE)
noncomputable def q30_84(C:YC)(lf:Nat)(n:K4)(r:K2)(x0 x1 x2 x3 x10:O)(h:HW):Rs:=
 ob x1 fun a52=>
 ob (bin Tryz.prog .andNot 34 a52 (.int .i64 65535)) fun y53=>
 ob (bin Tryz.prog .neq 34 y53 (.int .i64 0)) fun y54=>
 bc (gd false (some y54) (ob x10 fun a55=>
 some (.ret a55,h)) h) fun y56 h56=>
 bc (gd false (some y54) (ob (bin Tryz.prog .neq 34 y56 (.int .i64 32768)) fun y57=>
 some (.ret y57,h56)) h56) fun y58 h58=>
 bc (gd false (some y54) (some (.ret y58,h58)) h58) fun y59 h59=>
 bc (gd true (some y59) (ob x10 fun a60=>
 some (.ret a60,h59)) h59) fun y61 h61=>
 bc (gd true (some y59) (ob (bin Tryz.prog .neq 34 y61 (.int .i64 16384)) fun y62=>
 some (.ret y62,h61)) h61) fun y63 h63=>
 bc (gd false (some y54) (ob (ypk y59 y63 (.bool false)) fun y64=>
 some (.ret y64,h63)) h63) fun y65 h65=>
 bc (gd false (some y54) (some (.ret y65,h65)) h65) fun y66 h66=>
 bc (gd true (some y66) (ob x10 fun a67=>
 some (.ret a67,h66)) h66) fun y68 h68=>
 bc (gd true (some y66) (ob (bin Tryz.prog .neq 34 y68 (.int .i64 40960)) fun y69=>
 some (.ret y69,h68)) h68) fun y70 h70=>
 bc (gd false (some y54) (ob (ypk y66 y70 (.bool false)) fun y71=>
 some (.ret y71,h70)) h70) fun y72 h72=>
 ob (ypk y54 (.bool true) y72) fun y73=>
 bc (gd false (some y73) (ob x2 fun a74=>
 some (.ret a74,h72)) h72) fun y75 h75=>
 bc (gd false (some y73) (ob (bin Tryz.prog .lss 3 y75 (.int .i64 0)) fun y76=>
 some (.ret y76,h75)) h75) fun y77 h77=>
 ob (ypk y73 (.bool true) y77) fun y78=>
 bc (gd false (some y78) (ob x3 fun a79=>
 some (.ret a79,h77)) h77) fun y80 h80=>
 bc (gd false (some y78) (ob (bin Tryz.prog .lss 3 y80 (.int .i64 0)) fun y81=>
 some (.ret y81,h80)) h80) fun y82 h82=>
 ob (ypk y78 (.bool true) y82) fun y83=>
 yIf y83
 (r (some (.int .i64 0)) (some (.int .i64 22)) h82)
 (n x0 x1 x2 x3 h82)
theorem q30_84_eq(C:YC)(lf:Nat)(n:K4)(r:K2)(KE:KX): ∀ F h,evX fx30 C lf [1,1,1,0] F h (fun F h=>n (F 0) (F 1) (F 2) (F 3) h) (fun F h=>r (F 8) (F 9) h) KE=q30_84 C lf n r (F 0) (F 1) (F 2) (F 3) (F 10) h:=by
 intro F h;kernel_rfl
noncomputable def q30_85(C:YC)(lf:Nat)(r:K2)(x0 x1 x2 x3 x10:O)(h:HW):Rs:=
 q30_84 C lf (fun x0 x1 x2 x3 h=>q30_51 C lf r x0 x1 x2 x3 h) r x0 x1 x2 x3 x10 h
theorem q30_85_eq(C:YC)(lf:Nat)(r:K2)(KN:KF)(KE:KX): ∀ F h,evX fx30 C lf [1,1,1] F h KN (fun F h=>r (F 8) (F 9) h) KE=q30_85 C lf r (F 0) (F 1) (F 2) (F 3) (F 10) h:=cSeq (a:=subX fx30 [1,1,1,0]) (b:=subX fx30 [1,1,1,1]) (by kernel_rfl) (B:=(fun F h=>q30_51 C lf r (F 0) (F 1) (F 2) (F 3) h)) (q30_51_eq C lf r KN KE) (q30_84_eq C lf (fun x0 x1 x2 x3 h=>q30_51 C lf r x0 x1 x2 x3 h) r KE)
noncomputable def q30_88(C:YC)(lf:Nat)(n:K5)(x0 x1 x2 x3:O)(h:HW):Rs:=
 ob x1 fun a86=>
 ob (bin Tryz.prog .and 34 a86 (.int .i64 61440)) fun y87=>
 n x0 x1 x2 x3 (some y87) h
theorem q30_88_eq(C:YC)(lf:Nat)(n:K5)(KR:KF)(KE:KX): ∀ F h,evX fx30 C lf [1,1,0] F h (fun F h=>n (F 0) (F 1) (F 2) (F 3) (F 10) h) KR KE=q30_88 C lf n (F 0) (F 1) (F 2) (F 3) h:=by
 intro F h;kernel_rfl
noncomputable def q30_89(C:YC)(lf:Nat)(r:K2)(x0 x1 x2 x3:O)(h:HW):Rs:=
 q30_88 C lf (fun x0 x1 x2 x3 x10 h=>q30_85 C lf r x0 x1 x2 x3 x10 h) x0 x1 x2 x3 h
theorem q30_89_eq(C:YC)(lf:Nat)(r:K2)(KN:KF)(KE:KX): ∀ F h,evX fx30 C lf [1,1] F h KN (fun F h=>r (F 8) (F 9) h) KE=q30_89 C lf r (F 0) (F 1) (F 2) (F 3) h:=cSeq (a:=subX fx30 [1,1,0]) (b:=subX fx30 [1,1,1]) (by kernel_rfl) (B:=(fun F h=>q30_85 C lf r (F 0) (F 1) (F 2) (F 3) (F 10) h)) (q30_85_eq C lf r KN KE) (q30_88_eq C lf (fun x0 x1 x2 x3 x10 h=>q30_85 C lf r x0 x1 x2 x3 x10 h) (fun F h=>r (F 8) (F 9) h) KE)
noncomputable def q30_93(C:YC)(lf:Nat)(n:K4)(r:K2)(x0 x1 x2 x3:O)(h:HW):Rs:=
 ob x0 fun a90=>
 bc (C (.fn 65) [a90] h) fun y91 h91=>
 ob (unE .not y91) fun y92=>
 yIf y92
 (r (some (.int .i64 0)) (some (.int .i64 14)) h91)
 (n x0 x1 x2 x3 h91)
theorem q30_93_eq(C:YC)(lf:Nat)(n:K4)(r:K2)(KE:KX): ∀ F h,evX fx30 C lf [1,0] F h (fun F h=>n (F 0) (F 1) (F 2) (F 3) h) (fun F h=>r (F 8) (F 9) h) KE=q30_93 C lf n r (F 0) (F 1) (F 2) (F 3) h:=by
 intro F h;kernel_rfl
noncomputable def q30_94(C:YC)(lf:Nat)(r:K2)(x0 x1 x2 x3:O)(h:HW):Rs:=
 q30_93 C lf (fun x0 x1 x2 x3 h=>q30_89 C lf r x0 x1 x2 x3 h) r x0 x1 x2 x3 h
theorem q30_94_eq(C:YC)(lf:Nat)(r:K2)(KN:KF)(KE:KX): ∀ F h,evX fx30 C lf [1] F h KN (fun F h=>r (F 8) (F 9) h) KE=q30_94 C lf r (F 0) (F 1) (F 2) (F 3) h:=cSeq (a:=subX fx30 [1,0]) (b:=subX fx30 [1,1]) (by kernel_rfl) (B:=(fun F h=>q30_89 C lf r (F 0) (F 1) (F 2) (F 3) h)) (q30_89_eq C lf r KN KE) (q30_93_eq C lf (fun x0 x1 x2 x3 h=>q30_89 C lf r x0 x1 x2 x3 h) r KE)
noncomputable def q30_95(C:YC)(lf:Nat)(n:K4)(x0 x1 x2 x3:O)(h:HW):Rs:=
 n x0 x1 x2 x3 h
theorem q30_95_eq(C:YC)(lf:Nat)(n:K4)(KR:KF)(KE:KX): ∀ F h,evX fx30 C lf [0] F h (fun F h=>n (F 0) (F 1) (F 2) (F 3) h) KR KE=q30_95 C lf n (F 0) (F 1) (F 2) (F 3) h:=by
 intro F h;kernel_rfl
noncomputable def q30_96(C:YC)(lf:Nat)(r:K2)(x0 x1 x2 x3:O)(h:HW):Rs:=
 q30_95 C lf (fun x0 x1 x2 x3 h=>q30_94 C lf r x0 x1 x2 x3 h) x0 x1 x2 x3 h
theorem q30_96_eq(C:YC)(lf:Nat)(r:K2)(KN:KF)(KE:KX): ∀ F h,evX fx30 C lf [] F h KN (fun F h=>r (F 8) (F 9) h) KE=q30_96 C lf r (F 0) (F 1) (F 2) (F 3) h:=cSeq (a:=subX fx30 [0]) (b:=subX fx30 [1]) (by kernel_rfl) (B:=(fun F h=>q30_94 C lf r (F 0) (F 1) (F 2) (F 3) h)) (q30_94_eq C lf r KN KE) (q30_95_eq C lf (fun x0 x1 x2 x3 h=>q30_94 C lf r x0 x1 x2 x3 h) (fun F h=>r (F 8) (F 9) h) KE)
noncomputable def fs30(C:YC)(lf:Nat)(a0 a1 a2 a3:SV)(h:HW):Rs:=q30_96 C lf ff30 (some a0) (some a1) (some a2) (some a3) h
theorem fs30_eq(C:YC)(lf:Nat)(a0 a1 a2 a3:SV)(h:HW):yFn Tryz.prog fx30 C lf [a0,a1,a2,a3] h=fs30 C lf a0 a1 a2 a3 h:=fnX (K:=(fun F h=>ff30 (F 8) (F 9) h)) (by kernel_rfl) (((q30_96_eq C lf ff30 (fun F h=>ff30 (F 8) (F 9) h) (fun _ _ _=>none)) _ h).trans (by kernel_rfl))
noncomputable def fy30:YX Tryz.prog:=Y4 fx30 fs30 fs30_eq (by kernel_rfl)
noncomputable def fx31:XF Tryz.prog:=⟨31,Tryz.f31,fun _=> .text,Tryz.func31,by kernel_rfl,by kernel_rfl,by kernel_rfl,by kernel_rfl⟩
noncomputable def ff31(x6:O)(h:HW):Rs:=
 ob x6 fun a0=>
 some (.ret a0,h)
noncomputable def q31_35(C:YC)(lf:Nat)(r:K1)(x0 x1 x2:O)(h:HW):Rs:=
 ob x0 fun a1=>
 ob x1 fun a2=>
 bc (C (.fn 66) [a1,a2] h) fun y3 h3=>
 ob (bin Tryz.prog .neq 25 y3 (.int .i64 0)) fun y4=>
 yIf y4
 (r (some y3) h3)
 (ob x0 fun a5=>
 ob x1 fun a6=>
 bc (C (.fn 57) [a5,a6] h3) fun y7 h7=>
 ob (ext 0 y7) fun y8=>
 ob (ext 1 y7) fun y9=>
 b2 (yAl Tryz.prog 63 h7) fun y10 h10=>
 ob (st 10 y10 y8 h10) fun h11=>
 ob x0 fun a12=>
 ob x2 fun a13=>
 bc (C (.fn 67) [a12,a13] h11) fun y14 h14=>
 ob (unE .not y14) fun y15=>
 yIf y15
 (r (some (.int .i64 22)) h14)
 (ob (fa 4 y10) fun y16=>
 ob (ld1 y16 h14) fun y17=>
 ob (bin Tryz.prog .neq 3 y17 (.int .i64 0)) fun y18=>
 yIf y18
 (r (some (.int .i64 17)) h14)
 (ob x1 fun a19=>
 bc (C (.fn 68) [(.str (bs [46])),a19] h14) fun y20 h20=>
 ob x2 fun a21=>
 bc (C (.fn 68) [(.str (bs [46,46])),a21] h20) fun y22 h22=>
 b2 (yAl Tryz.prog 140 h22) fun y23 h23=>
 b2 (yAl Tryz.prog 140 h23) fun y24 h24=>
 ob (st 32 y23 y20 h24) fun h25=>
 ob (st 32 y24 y22 h25) fun h26=>
 ob x0 fun a27=>
 ob x1 fun a28=>
 ob (semSlice Tryz.prog 140 y23 none none) fun y29=>
 ob (semSlice Tryz.prog 140 y24 none none) fun y30=>
 b2 (ybl Tryz.prog .append #[35,35] [y29,y30] h26) fun y31 h31=>
 bcn (C (.fn 69) [a27,a28,(.int .i64 0),y31] h31) fun y32 h32=>
 ob (ext 0 y32) fun y33=>
 ob (ext 1 y32) fun y34=>
 r (some y34) h32)))
theorem q31_35_eq(C:YC)(lf:Nat)(r:K1)(KN:KF)(KE:KX): ∀ F h,evX fx31 C lf [] F h KN (fun F h=>r (F 6) h) KE=q31_35 C lf r (F 0) (F 1) (F 2) h:=by
 intro F h;kernel_rfl
noncomputable def fs31(C:YC)(lf:Nat)(a0 a1 a2:SV)(h:HW):Rs:=q31_35 C lf ff31 (some a0) (some a1) (some a2) h
theorem fs31_eq(C:YC)(lf:Nat)(a0 a1 a2:SV)(h:HW):yFn Tryz.prog fx31 C lf [a0,a1,a2] h=fs31 C lf a0 a1 a2 h:=fnX (K:=(fun F h=>ff31 (F 6) h)) (by kernel_rfl) (((q31_35_eq C lf ff31 (fun F h=>ff31 (F 6) h) (fun _ _ _=>none)) _ h).trans (by kernel_rfl))
noncomputable def fy31:YX Tryz.prog:=Y3 fx31 fs31 fs31_eq (by kernel_rfl)
noncomputable def fx32:XF Tryz.prog:=⟨32,Tryz.f32,fun _=> .text,Tryz.func32,by kernel_rfl,by kernel_rfl,by kernel_rfl,by kernel_rfl⟩
noncomputable def ff32(x6:O)(h:HW):Rs:=
 ob x6 fun a0=>
 some (.ret a0,h)
noncomputable def q32_41(C:YC)(lf:Nat)(r:K1)(x0 x1 x2:O)(h:HW):Rs:=
 ob x0 fun a1=>
 ob x1 fun a2=>
 bc (C (.fn 70) [a1,a2] h) fun y3 h3=>
 ob (ext 0 y3) fun y4=>
 ob (ext 1 y3) fun y5=>
 ob (bin Tryz.prog .neq 25 y5 (.int .i64 0)) fun y6=>
 yIf y6
 (r (some y5) h3)
 (ob x2 fun a7=>
 ob (semNil y4) fun y8=>
 ob (fa 1 y8) fun y9=>
 ob (fa 1 y9) fun y10=>
 ob (ld1 y10 h3) fun y11=>
 ob (unE .neg y11) fun y12=>
 ob (bin Tryz.prog .lss 3 a7 y12) fun y13=>
 yIf y13
 (r (some (.int .i64 22)) h3)
 (ob x2 fun a14=>
 ob (semNil y4) fun y15=>
 ob (fa 1 y15) fun y16=>
 ob (fa 1 y16) fun y17=>
 ob (ld1 y17 h3) fun y18=>
 ob (bin Tryz.prog .sub 3 (.int .i64 16) y18) fun y19=>
 ob (bin Tryz.prog .gtr 3 a14 y19) fun y20=>
 yIf y20
 (r (some (.int .i64 31)) h3)
 (ob (semNil y4) fun y21=>
 ob (fa 1 y21) fun y22=>
 ob (fa 1 y22) fun y23=>
 ob (ld1 y23 h3) fun y24=>
 ob x2 fun a25=>
 ob (bin Tryz.prog .add 3 y24 a25) fun y26=>
 ob (semNil y4) fun y27=>
 ob (fa 1 y27) fun y28=>
 ob (fa 1 y28) fun y29=>
 ob (st 1 y29 y26 h3) fun h30=>
 ob x0 fun a31=>
 ob (semNil a31) fun y32=>
 ob (fa 2 y32) fun y33=>
 ob (ld1 y33 h30) fun y34=>
 ob (semNil y4) fun y35=>
 ob (fa 1 y35) fun y36=>
 ob (fa 9 y36) fun y37=>
 ob (st 1 y37 y34 h30) fun h38=>
 ob x0 fun a39=>
 bc (C (.fn 71) [a39,y4] h38) fun y40 h40=>
 r (some (.int .i64 0)) h40)))
theorem q32_41_eq(C:YC)(lf:Nat)(r:K1)(KN:KF)(KE:KX): ∀ F h,evX fx32 C lf [] F h KN (fun F h=>r (F 6) h) KE=q32_41 C lf r (F 0) (F 1) (F 2) h:=by
 intro F h;kernel_rfl
noncomputable def fs32(C:YC)(lf:Nat)(a0 a1 a2:SV)(h:HW):Rs:=q32_41 C lf ff32 (some a0) (some a1) (some a2) h
theorem fs32_eq(C:YC)(lf:Nat)(a0 a1 a2:SV)(h:HW):yFn Tryz.prog fx32 C lf [a0,a1,a2] h=fs32 C lf a0 a1 a2 h:=fnX (K:=(fun F h=>ff32 (F 6) h)) (by kernel_rfl) (((q32_41_eq C lf ff32 (fun F h=>ff32 (F 6) h) (fun _ _ _=>none)) _ h).trans (by kernel_rfl))
noncomputable def fy32:YX Tryz.prog:=Y3 fx32 fs32 fs32_eq (by kernel_rfl)
noncomputable def fx33:XF Tryz.prog:=⟨33,Tryz.f33,fun r=>bif Nat.beq r 3 then .news [0,2,3,4,1,5,6,7,8,9] [5] [] else .text,Tryz.func33,by kernel_rfl,by kernel_rfl,by kernel_rfl,by kernel_rfl⟩
noncomputable def ff33(x4 x5:O)(h:HW):Rs:=
 ob x4 fun a0=>
 ob x5 fun a1=>
 some (.ret (.tup [a0,a1]),h)
noncomputable def q33_28(C:YC)(lf:Nat)(r:K2)(x0 x1:O)(h:HW):Rs:=
 ob x0 fun a2=>
 ob (bin Tryz.prog .lss 3 a2 (.int .i64 1)) fun y3=>
 bc (gd false (some y3) (ob x0 fun a4=>
 some (.ret a4,h)) h) fun y5 h5=>
 bc (gd false (some y3) (ob (bin Tryz.prog .gtr 3 y5 (.int .i64 4096)) fun y6=>
 some (.ret y6,h5)) h5) fun y7 h7=>
 ob (ypk y3 (.bool true) y7) fun y8=>
 bc (gd false (some y8) (ob x1 fun a9=>
 some (.ret a9,h7)) h7) fun y10 h10=>
 bc (gd false (some y8) (ob (bin Tryz.prog .lss 3 y10 (.int .i64 1)) fun y11=>
 some (.ret y11,h10)) h10) fun y12 h12=>
 ob (ypk y8 (.bool true) y12) fun y13=>
 bc (gd false (some y13) (ob x1 fun a14=>
 some (.ret a14,h12)) h12) fun y15 h15=>
 bc (gd false (some y13) (ob (bin Tryz.prog .gtr 3 y15 (.int .i64 4096)) fun y16=>
 some (.ret y16,h15)) h15) fun y17 h17=>
 ob (ypk y13 (.bool true) y17) fun y18=>
 yIf y18
 (r (some (.val (.pointer none))) (some (.int .i64 22)) h17)
 (nwB [5] 10 h17 fun b19 h19=>
 ob x0 fun a20=>
 ob x1 fun a21=>
 ob x1 fun a22=>
 ob (bin Tryz.prog .add 3 a22 (.int .i64 1)) fun y23=>
 bcn (C (.fn 72) [a20] h19) fun y24 h24=>
 ck (lowV b19 y23&&lowV b19 y23) <|
 b2 (ynf (ymk Tryz.prog 151 y23 y23) b19 5 h24) fun y25 h25=>
 ob (semBuild Tryz.prog 153 [0,1,3] [y24,a21,y25]) fun y26=>
 b2 (ybx 153 y26 h25) fun y27 h27=>
 r (some y27) (some (.int .i64 0)) h27)
theorem q33_28_eq(C:YC)(lf:Nat)(r:K2)(KN:KF)(KE:KX): ∀ F h,evX fx33 C lf [] F h KN (fun F h=>r (F 4) (F 5) h) KE=q33_28 C lf r (F 0) (F 1) h:=by
 intro F h;kernel_rfl
noncomputable def fs33(C:YC)(lf:Nat)(a0 a1:SV)(h:HW):Rs:=q33_28 C lf ff33 (some a0) (some a1) h
theorem fs33_eq(C:YC)(lf:Nat)(a0 a1:SV)(h:HW):yFn Tryz.prog fx33 C lf [a0,a1] h=fs33 C lf a0 a1 h:=fnX (K:=(fun F h=>ff33 (F 4) (F 5) h)) (by kernel_rfl) (((q33_28_eq C lf ff33 (fun F h=>ff33 (F 4) (F 5) h) (fun _ _ _=>none)) _ h).trans (by kernel_rfl))
noncomputable def fy33:YX Tryz.prog:=Y2 fx33 fs33 fs33_eq (by kernel_rfl)
noncomputable def fx34:XF Tryz.prog:=⟨34,Tryz.f34,fun _=> .text,Tryz.func34,by kernel_rfl,by kernel_rfl,by kernel_rfl,by kernel_rfl⟩
noncomputable def ff34(x8 x9:O)(h:HW):Rs:=
 ob x8 fun a0=>
 ob x9 fun a1=>
 some (.ret (.tup [a0,a1]),h)
noncomputable def q34_2(C:YC)(lf:Nat)(r:K2)(h:HW):Rs:=
 r (some (.int .i64 0)) (some (.int .i64 28)) h
theorem q34_2_eq(C:YC)(lf:Nat)(r:K2)(KN:KF)(KE:KX): ∀ F h,evX fx34 C lf [1,1,1,1] F h KN (fun F h=>r (F 8) (F 9) h) KE=q34_2 C lf r h:=by
 intro F h;kernel_rfl
noncomputable def q34_47(C:YC)(lf:Nat)(n:K5)(r:K2)(e0:K0)(x0 x1 x2 x3 x11:O)(h:HW):Rs:=
 ob x11 fun a4=>
 ob x0 fun a5=>
 ob (semNil a5) fun y6=>
 ob (fa 2 y6) fun y7=>
 ob (ld1 y7 h) fun y8=>
 ob (bin Tryz.prog .leq 3 a4 y8) fun y9=>
 yIf y9
 (ob x0 fun a10=>
 ob (semNil a10) fun y11=>
 ob (fa 4 y11) fun y12=>
 ob (ld1 y12 h) fun y13=>
 ob x11 fun a14=>
 ob (ixS 308 y13 a14) fun y15=>
 ob (fa 0 y15) fun y16=>
 ob (ld1 y16 h) fun y17=>
 ob (unE .not y17) fun y18=>
 yIf y18
 (ob x0 fun a19=>
 ob (semNil a19) fun y20=>
 ob (fa 4 y20) fun y21=>
 ob (ld1 y21 h) fun y22=>
 ob x11 fun a23=>
 ob x11 fun a24=>
 ob x2 fun a25=>
 ob x3 fun a26=>
 ob x1 fun a27=>
 ob x0 fun a28=>
 ob (semNil a28) fun y29=>
 ob (fa 3 y29) fun y30=>
 ob (ld1 y30 h) fun y31=>
 ob x0 fun a32=>
 ob (semNil a32) fun y33=>
 ob (fa 3 y33) fun y34=>
 ob (ld1 y34 h) fun y35=>
 ob x0 fun a36=>
 ob (semNil a36) fun y37=>
 ob (fa 3 y37) fun y38=>
 ob (ld1 y38 h) fun y39=>
 ob (semBuild Tryz.prog 63 [0,2,3,6,7,8,9] [a24,a25,a26,a27,y31,y35,y39]) fun y40=>
 ob (semBuild Tryz.prog 158 [0,1] [(.bool true),y40]) fun y41=>
 ob (ixS 308 y22 a23) fun y42=>
 ob (st 308 y42 y41 h) fun h43=>
 ob x11 fun a44=>
 r (some a44) (some (.int .i64 0)) h43)
 (ob x11 fun a45=>
 ob (bin Tryz.prog .add 3 a45 (.int .i64 1)) fun y46=>
 n x0 x1 x2 x3 (some y46) h))
 (e0 h)
theorem q34_47_eq(C:YC)(lf:Nat)(n:K5)(r:K2)(e0:K0)(KE:KX): ∀ F h,evX fx34 C lf [1,1,1,0,1,0,0] F h (fun F h=>n (F 0) (F 1) (F 2) (F 3) (F 11) h) (fun F h=>r (F 8) (F 9) h) (bk 0 (fun F h=>e0 h) KE)=q34_47 C lf n r e0 (F 0) (F 1) (F 2) (F 3) (F 11) h:=by
 intro F h;kernel_rfl
noncomputable def l34_3(C:YC)(lf:Nat)(r:K2)(e0:K0)(k:O × O × O × O × O→HW→Rs)(s:O × O × O × O × O)(h:HW):Rs:=
 q34_47 C lf (fun x0 x1 x2 x3 x11 h=>k (x0,x1,x2,x3,x11) h) r e0 s.1 s.2.1 s.2.2.1 s.2.2.2.1 s.2.2.2.2 h
noncomputable def q34_48(C:YC)(lf:Nat)(n:K5)(x0 x1 x2 x3:O)(h:HW):Rs:=
 n x0 x1 x2 x3 (some (.int .i64 1)) h
theorem q34_48_eq(C:YC)(lf:Nat)(n:K5)(KR:KF)(KE:KX): ∀ F h,evX fx34 C lf [1,1,1,0,0] F h (fun F h=>n (F 0) (F 1) (F 2) (F 3) (F 11) h) KR KE=q34_48 C lf n (F 0) (F 1) (F 2) (F 3) h:=by
 intro F h;kernel_rfl
noncomputable def q34_49(C:YC)(lf:Nat)(n:K0)(r:K2)(x0 x1 x2 x3:O)(h:HW):Rs:=
 q34_48 C lf (fun x0 x1 x2 x3 x11 h=>lp (l34_3 C lf r n) lf (x0,x1,x2,x3,x11) h) x0 x1 x2 x3 h
theorem q34_49_eq(C:YC)(lf:Nat)(n:K0)(r:K2)(KE:KX): ∀ F h,evX fx34 C lf [1,1,1,0] F h (fun F h=>n h) (fun F h=>r (F 8) (F 9) h) KE=q34_49 C lf n r (F 0) (F 1) (F 2) (F 3) h:=cSeq (a:=subX fx34 [1,1,1,0,0]) (b:=subX fx34 [1,1,1,0,1]) (by kernel_rfl) (B:=(fun F h=>lp (l34_3 C lf r n) lf ((F 0),(F 1),(F 2),(F 3),(F 11)) h)) (cBlock (id:=0) (a:=subX fx34 [1,1,1,0,1,0]) (by kernel_rfl) (cLoop (a:=subX fx34 [1,1,1,0,1,0,0]) (g:=fun F=>(F 0,F 1,F 2,F 3,F 11)) (body:=l34_3 C lf r n) (by kernel_rfl) (fun k=>(q34_47_eq C lf (fun x0 x1 x2 x3 x11 h=>k (x0,x1,x2,x3,x11) h) r n KE)))) (q34_48_eq C lf (fun x0 x1 x2 x3 x11 h=>lp (l34_3 C lf r n) lf (x0,x1,x2,x3,x11) h) (fun F h=>r (F 8) (F 9) h) KE)
noncomputable def q34_50(C:YC)(lf:Nat)(r:K2)(x0 x1 x2 x3:O)(h:HW):Rs:=
 q34_49 C lf (fun h=>q34_2 C lf r h) r x0 x1 x2 x3 h
theorem q34_50_eq(C:YC)(lf:Nat)(r:K2)(KN:KF)(KE:KX): ∀ F h,evX fx34 C lf [1,1,1] F h KN (fun F h=>r (F 8) (F 9) h) KE=q34_50 C lf r (F 0) (F 1) (F 2) (F 3) h:=cSeq (a:=subX fx34 [1,1,1,0]) (b:=subX fx34 [1,1,1,1]) (by kernel_rfl) (B:=(fun F h=>q34_2 C lf r h)) (q34_2_eq C lf r KN KE) (q34_49_eq C lf (fun h=>q34_2 C lf r h) r KE)
noncomputable def q34_87(C:YC)(lf:Nat)(n:K4)(r:K2)(x0 x1 x2 x3 x10:O)(h:HW):Rs:=
 ob x10 fun a51=>
 ob (bin Tryz.prog .neq 34 a51 (.int .i64 32768)) fun y52=>
 bc (gd true (some y52) (ob x10 fun a53=>
 some (.ret a53,h)) h) fun y54 h54=>
 bc (gd true (some y52) (ob (bin Tryz.prog .neq 34 y54 (.int .i64 16384)) fun y55=>
 some (.ret y55,h54)) h54) fun y56 h56=>
 ob (ypk y52 y56 (.bool false)) fun y57=>
 bc (gd true (some y57) (ob x10 fun a58=>
 some (.ret a58,h56)) h56) fun y59 h59=>
 bc (gd true (some y57) (ob (bin Tryz.prog .neq 34 y59 (.int .i64 40960)) fun y60=>
 some (.ret y60,h59)) h59) fun y61 h61=>
 ob (ypk y57 y61 (.bool false)) fun y62=>
 bc (gd false (some y62) (ob x1 fun a63=>
 some (.ret a63,h61)) h61) fun y64 h64=>
 bc (gd false (some y62) (ob x1 fun a65=>
 some (.ret a65,h64)) h64) fun y66 h66=>
 bc (gd false (some y62) (ob (bin Tryz.prog .and 34 y66 (.int .i64 65535)) fun y67=>
 some (.ret y67,h66)) h66) fun y68 h68=>
 bc (gd false (some y62) (ob (bin Tryz.prog .neq 34 y64 y68) fun y69=>
 some (.ret y69,h68)) h68) fun y70 h70=>
 ob (ypk y62 (.bool true) y70) fun y71=>
 bc (gd false (some y71) (ob x1 fun a72=>
 some (.ret a72,h70)) h70) fun y73 h73=>
 bc (gd false (some y71) (ob (bin Tryz.prog .lss 34 y73 (.int .i64 0)) fun y74=>
 some (.ret y74,h73)) h73) fun y75 h75=>
 ob (ypk y71 (.bool true) y75) fun y76=>
 bc (gd false (some y76) (ob x2 fun a77=>
 some (.ret a77,h75)) h75) fun y78 h78=>
 bc (gd false (some y76) (ob (bin Tryz.prog .lss 3 y78 (.int .i64 0)) fun y79=>
 some (.ret y79,h78)) h78) fun y80 h80=>
 ob (ypk y76 (.bool true) y80) fun y81=>
 bc (gd false (some y81) (ob x3 fun a82=>
 some (.ret a82,h80)) h80) fun y83 h83=>
 bc (gd false (some y81) (ob (bin Tryz.prog .lss 3 y83 (.int .i64 0)) fun y84=>
 some (.ret y84,h83)) h83) fun y85 h85=>
 ob (ypk y81 (.bool true) y85) fun y86=>
 yIf y86
 (r (some (.int .i64 0)) (some (.int .i64 22)) h85)
 (n x0 x1 x2 x3 h85)
theorem q34_87_eq(C:YC)(lf:Nat)(n:K4)(r:K2)(KE:KX): ∀ F h,evX fx34 C lf [1,1,0] F h (fun F h=>n (F 0) (F 1) (F 2) (F 3) h) (fun F h=>r (F 8) (F 9) h) KE=q34_87 C lf n r (F 0) (F 1) (F 2) (F 3) (F 10) h:=by
 intro F h;kernel_rfl
noncomputable def q34_88(C:YC)(lf:Nat)(r:K2)(x0 x1 x2 x3 x10:O)(h:HW):Rs:=
 q34_87 C lf (fun x0 x1 x2 x3 h=>q34_50 C lf r x0 x1 x2 x3 h) r x0 x1 x2 x3 x10 h
theorem q34_88_eq(C:YC)(lf:Nat)(r:K2)(KN:KF)(KE:KX): ∀ F h,evX fx34 C lf [1,1] F h KN (fun F h=>r (F 8) (F 9) h) KE=q34_88 C lf r (F 0) (F 1) (F 2) (F 3) (F 10) h:=cSeq (a:=subX fx34 [1,1,0]) (b:=subX fx34 [1,1,1]) (by kernel_rfl) (B:=(fun F h=>q34_50 C lf r (F 0) (F 1) (F 2) (F 3) h)) (q34_50_eq C lf r KN KE) (q34_87_eq C lf (fun x0 x1 x2 x3 h=>q34_50 C lf r x0 x1 x2 x3 h) r KE)
noncomputable def q34_91(C:YC)(lf:Nat)(n:K5)(x0 x1 x2 x3:O)(h:HW):Rs:=
 ob x1 fun a89=>
 bc (C (.fn 73) [a89] h) fun y90 h90=>
 n x0 x1 x2 x3 (some y90) h90
theorem q34_91_eq(C:YC)(lf:Nat)(n:K5)(KR:KF)(KE:KX): ∀ F h,evX fx34 C lf [1,0] F h (fun F h=>n (F 0) (F 1) (F 2) (F 3) (F 10) h) KR KE=q34_91 C lf n (F 0) (F 1) (F 2) (F 3) h:=by
 intro F h;kernel_rfl
noncomputable def q34_92(C:YC)(lf:Nat)(r:K2)(x0 x1 x2 x3:O)(h:HW):Rs:=
 q34_91 C lf (fun x0 x1 x2 x3 x10 h=>q34_88 C lf r x0 x1 x2 x3 x10 h) x0 x1 x2 x3 h
theorem q34_92_eq(C:YC)(lf:Nat)(r:K2)(KN:KF)(KE:KX): ∀ F h,evX fx34 C lf [1] F h KN (fun F h=>r (F 8) (F 9) h) KE=q34_92 C lf r (F 0) (F 1) (F 2) (F 3) h:=cSeq (a:=subX fx34 [1,0]) (b:=subX fx34 [1,1]) (by kernel_rfl) (B:=(fun F h=>q34_88 C lf r (F 0) (F 1) (F 2) (F 3) (F 10) h)) (q34_88_eq C lf r KN KE) (q34_91_eq C lf (fun x0 x1 x2 x3 x10 h=>q34_88 C lf r x0 x1 x2 x3 x10 h) (fun F h=>r (F 8) (F 9) h) KE)
noncomputable def q34_93(C:YC)(lf:Nat)(n:K4)(x0 x1 x2 x3:O)(h:HW):Rs:=
 n x0 x1 x2 x3 h
theorem q34_93_eq(C:YC)(lf:Nat)(n:K4)(KR:KF)(KE:KX): ∀ F h,evX fx34 C lf [0] F h (fun F h=>n (F 0) (F 1) (F 2) (F 3) h) KR KE=q34_93 C lf n (F 0) (F 1) (F 2) (F 3) h:=by
 intro F h;kernel_rfl
noncomputable def q34_94(C:YC)(lf:Nat)(r:K2)(x0 x1 x2 x3:O)(h:HW):Rs:=
 q34_93 C lf (fun x0 x1 x2 x3 h=>q34_92 C lf r x0 x1 x2 x3 h) x0 x1 x2 x3 h
theorem q34_94_eq(C:YC)(lf:Nat)(r:K2)(KN:KF)(KE:KX): ∀ F h,evX fx34 C lf [] F h KN (fun F h=>r (F 8) (F 9) h) KE=q34_94 C lf r (F 0) (F 1) (F 2) (F 3) h:=cSeq (a:=subX fx34 [0]) (b:=subX fx34 [1]) (by kernel_rfl) (B:=(fun F h=>q34_92 C lf r (F 0) (F 1) (F 2) (F 3) h)) (q34_92_eq C lf r KN KE) (q34_93_eq C lf (fun x0 x1 x2 x3 h=>q34_92 C lf r x0 x1 x2 x3 h) (fun F h=>r (F 8) (F 9) h) KE)
noncomputable def fs34(C:YC)(lf:Nat)(a0 a1 a2 a3:SV)(h:HW):Rs:=q34_94 C lf ff34 (some a0) (some a1) (some a2) (some a3) h
theorem fs34_eq(C:YC)(lf:Nat)(a0 a1 a2 a3:SV)(h:HW):yFn Tryz.prog fx34 C lf [a0,a1,a2,a3] h=fs34 C lf a0 a1 a2 a3 h:=fnX (K:=(fun F h=>ff34 (F 8) (F 9) h)) (by kernel_rfl) (((q34_94_eq C lf ff34 (fun F h=>ff34 (F 8) (F 9) h) (fun _ _ _=>none)) _ h).trans (by kernel_rfl))
noncomputable def fy34:YX Tryz.prog:=Y4 fx34 fs34 fs34_eq (by kernel_rfl)
noncomputable def fx35:XF Tryz.prog:=⟨35,Tryz.f35,fun _=> .text,Tryz.func35,by kernel_rfl,by kernel_rfl,by kernel_rfl,by kernel_rfl⟩
noncomputable def ff35(x6:O)(h:HW):Rs:=
 ob x6 fun a0=>
 some (.ret a0,h)
noncomputable def q35_30(C:YC)(lf:Nat)(r:K1)(x0 x1 x2:O)(h:HW):Rs:=
 ob x0 fun a1=>
 ob x1 fun a2=>
 bc (C (.fn 74) [a1,a2] h) fun y3 h3=>
 ob (bin Tryz.prog .neq 3 y3 (.int .i64 0)) fun y4=>
 yIf y4
 (r (some y3) h3)
 (ob x0 fun a5=>
 ob x2 fun a6=>
 bc (C (.fn 75) [a5,a6] h3) fun y7 h7=>
 ob (unE .not y7) fun y8=>
 yIf y8
 (r (some (.int .i64 22)) h7)
 (ob x0 fun a9=>
 ob (semNil a9) fun y10=>
 ob (fa 4 y10) fun y11=>
 ob (ld1 y11 h7) fun y12=>
 ob x1 fun a13=>
 ob (ixS 308 y12 a13) fun y14=>
 ob (fa 1 y14) fun y15=>
 ob (fa 4 y15) fun y16=>
 ob (ld1 y16 h7) fun y17=>
 ob (bin Tryz.prog .neq 3 y17 (.int .i64 0)) fun y18=>
 yIf y18
 (r (some (.int .i64 17)) h7)
 (ob x0 fun a19=>
 ob x1 fun a20=>
 ob x1 fun a21=>
 bc (C (.fn 77) [a21,(.str (bs [46]))] h7) fun y22 h22=>
 ob x2 fun a23=>
 bc (C (.fn 77) [a23,(.str (bs [46,46]))] h22) fun y24 h24=>
 b2 (ybl Tryz.prog .append #[35,35] [y22,y24] h24) fun y25 h25=>
 bc (C (.fn 76) [a19,a20,(.int .i64 0),y25] h25) fun y26 h26=>
 ob (ext 0 y26) fun y27=>
 ob (ext 1 y26) fun y28=>
 ob (bin Tryz.prog .eql 3 y27 (.int .i64 0)) fun y29=>
 yIf y29
 (r (some (.int .i64 28)) h26)
 (r (some (.int .i64 0)) h26))))
theorem q35_30_eq(C:YC)(lf:Nat)(r:K1)(KN:KF)(KE:KX): ∀ F h,evX fx35 C lf [] F h KN (fun F h=>r (F 6) h) KE=q35_30 C lf r (F 0) (F 1) (F 2) h:=by
 intro F h;kernel_rfl
noncomputable def fs35(C:YC)(lf:Nat)(a0 a1 a2:SV)(h:HW):Rs:=q35_30 C lf ff35 (some a0) (some a1) (some a2) h
theorem fs35_eq(C:YC)(lf:Nat)(a0 a1 a2:SV)(h:HW):yFn Tryz.prog fx35 C lf [a0,a1,a2] h=fs35 C lf a0 a1 a2 h:=fnX (K:=(fun F h=>ff35 (F 6) h)) (by kernel_rfl) (((q35_30_eq C lf ff35 (fun F h=>ff35 (F 6) h) (fun _ _ _=>none)) _ h).trans (by kernel_rfl))
noncomputable def fy35:YX Tryz.prog:=Y3 fx35 fs35 fs35_eq (by kernel_rfl)
noncomputable def fx36:XF Tryz.prog:=⟨36,Tryz.f36,fun _=> .text,Tryz.func36,by kernel_rfl,by kernel_rfl,by kernel_rfl,by kernel_rfl⟩
noncomputable def ff36(x6:O)(h:HW):Rs:=
 ob x6 fun a0=>
 some (.ret a0,h)
noncomputable def q36_42(C:YC)(lf:Nat)(r:K1)(x0 x1 x2:O)(h:HW):Rs:=
 ob x0 fun a1=>
 ob x1 fun a2=>
 bc (C (.fn 75) [a1,a2] h) fun y3 h3=>
 ob (unE .not y3) fun y4=>
 yIf y4
 (r (some (.int .i64 2)) h3)
 (ob x0 fun a5=>
 ob (semNil a5) fun y6=>
 ob (fa 4 y6) fun y7=>
 ob (ld1 y7 h3) fun y8=>
 ob x1 fun a9=>
 ob (ixS 308 y8 a9) fun y10=>
 ob (fa 1 y10) fun y11=>
 ob x2 fun a12=>
 ob (semNil y11) fun y13=>
 ob (fa 1 y13) fun y14=>
 ob (ld1 y14 h3) fun y15=>
 ob (unE .neg y15) fun y16=>
 ob (bin Tryz.prog .lss 3 a12 y16) fun y17=>
 yIf y17
 (r (some (.int .i64 22)) h3)
 (ob x2 fun a18=>
 ob (semNil y11) fun y19=>
 ob (fa 1 y19) fun y20=>
 ob (ld1 y20 h3) fun y21=>
 ob (bin Tryz.prog .sub 3 (.int .i64 16) y21) fun y22=>
 ob (bin Tryz.prog .gtr 3 a18 y22) fun y23=>
 yIf y23
 (r (some (.int .i64 31)) h3)
 (ob (semNil y11) fun y24=>
 ob (fa 1 y24) fun y25=>
 ob (ld1 y25 h3) fun y26=>
 ob x2 fun a27=>
 ob (bin Tryz.prog .add 3 y26 a27) fun y28=>
 ob (semNil y11) fun y29=>
 ob (fa 1 y29) fun y30=>
 ob (st 1 y30 y28 h3) fun h31=>
 ob x0 fun a32=>
 ob (semNil a32) fun y33=>
 ob (fa 3 y33) fun y34=>
 ob (ld1 y34 h31) fun y35=>
 ob (semNil y11) fun y36=>
 ob (fa 9 y36) fun y37=>
 ob (st 1 y37 y35 h31) fun h38=>
 ob x0 fun a39=>
 ob x1 fun a40=>
 bc (C (.fn 78) [a39,a40] h38) fun y41 h41=>
 r (some (.int .i64 0)) h41)))
theorem q36_42_eq(C:YC)(lf:Nat)(r:K1)(KN:KF)(KE:KX): ∀ F h,evX fx36 C lf [] F h KN (fun F h=>r (F 6) h) KE=q36_42 C lf r (F 0) (F 1) (F 2) h:=by
 intro F h;kernel_rfl
noncomputable def fs36(C:YC)(lf:Nat)(a0 a1 a2:SV)(h:HW):Rs:=q36_42 C lf ff36 (some a0) (some a1) (some a2) h
theorem fs36_eq(C:YC)(lf:Nat)(a0 a1 a2:SV)(h:HW):yFn Tryz.prog fx36 C lf [a0,a1,a2] h=fs36 C lf a0 a1 a2 h:=fnX (K:=(fun F h=>ff36 (F 6) h)) (by kernel_rfl) (((q36_42_eq C lf ff36 (fun F h=>ff36 (F 6) h) (fun _ _ _=>none)) _ h).trans (by kernel_rfl))
noncomputable def fy36:YX Tryz.prog:=Y3 fx36 fs36 fs36_eq (by kernel_rfl)
noncomputable def fx39:XF Tryz.prog:=⟨39,Tryz.f39,fun r=>bif Nat.beq r 7 then .news [0,2,3,1,4,5,6,7,8,9,10,11,12,13] [12] [(10,[1]),(4,[1])] else .text,Tryz.func39,by kernel_rfl,by kernel_rfl,by kernel_rfl,by kernel_rfl⟩
noncomputable def fx40:XF Tryz.prog:=⟨40,Tryz.f40,fun _=> .text,Tryz.func40,by kernel_rfl,by kernel_rfl,by kernel_rfl,by kernel_rfl⟩
noncomputable def ff40(x10 x11:O)(h:HW):Rs:=
 ob x10 fun a0=>
 ob x11 fun a1=>
 some (.ret (.tup [a0,a1]),h)
noncomputable def q40_13(C:YC)(lf:Nat)(r:K2)(x0 x15:O)(h:HW):Rs:=
 ob x0 fun a2=>
 ob (semNil a2) fun y3=>
 ob (fa 0 y3) fun y4=>
 ob (ld1 y4 h) fun y5=>
 ob x15 fun a6=>
 ob (fa 1 a6) fun y7=>
 ob (ld1 y7 h) fun y8=>
 bcn (C (.fn 109) [y5,y8] h) fun y9 h9=>
 ob x15 fun a10=>
 ob (fa 1 a10) fun y11=>
 ob (ld1 y11 h9) fun y12=>
 r (some y12) (some (.int .i64 0)) h9
theorem q40_13_eq(C:YC)(lf:Nat)(r:K2)(KN:KF)(KE:KX): ∀ F h,evX fx40 C lf [1,1,1,1,1,1,1,1,1,1,1,1,1,1,1,1] F h KN (fun F h=>r (F 10) (F 11) h) KE=q40_13 C lf r (F 0) (F 15) h:=by
 intro F h;kernel_rfl
noncomputable def q40_25(C:YC)(lf:Nat)(n:K2)(x0 x3 x15:O)(h:HW):Rs:=
 ob x3 fun a14=>
 ob (bin Tryz.prog .and 3 a14 (.int .i64 32)) fun y15=>
 ob (bin Tryz.prog .neq 3 y15 (.int .i64 0)) fun y16=>
 yIf y16
 (ob x0 fun a17=>
 ob (semNil a17) fun y18=>
 ob (fa 0 y18) fun y19=>
 ob (ld1 y19 h) fun y20=>
 ob x15 fun a21=>
 ob (fa 1 a21) fun y22=>
 ob (ld1 y22 h) fun y23=>
 bcn (C (.fn 108) [y20,y23,(.int .i64 0)] h) fun y24 h24=>
 n x0 x15 h24)
 (n x0 x15 h)
theorem q40_25_eq(C:YC)(lf:Nat)(n:K2)(KR:KF)(KE:KX): ∀ F h,evX fx40 C lf [1,1,1,1,1,1,1,1,1,1,1,1,1,1,1,0] F h (fun F h=>n (F 0) (F 15) h) KR KE=q40_25 C lf n (F 0) (F 3) (F 15) h:=by
 intro F h;kernel_rfl
noncomputable def q40_26(C:YC)(lf:Nat)(r:K2)(x0 x3 x15:O)(h:HW):Rs:=
 q40_25 C lf (fun x0 x15 h=>q40_13 C lf r x0 x15 h) x0 x3 x15 h
theorem q40_26_eq(C:YC)(lf:Nat)(r:K2)(KN:KF)(KE:KX): ∀ F h,evX fx40 C lf [1,1,1,1,1,1,1,1,1,1,1,1,1,1,1] F h KN (fun F h=>r (F 10) (F 11) h) KE=q40_26 C lf r (F 0) (F 3) (F 15) h:=cSeq (a:=subX fx40 [1,1,1,1,1,1,1,1,1,1,1,1,1,1,1,0]) (b:=subX fx40 [1,1,1,1,1,1,1,1,1,1,1,1,1,1,1,1]) (by kernel_rfl) (B:=(fun F h=>q40_13 C lf r (F 0) (F 15) h)) (q40_13_eq C lf r KN KE) (q40_25_eq C lf (fun x0 x15 h=>q40_13 C lf r x0 x15 h) (fun F h=>r (F 10) (F 11) h) KE)
noncomputable def q40_69(C:YC)(lf:Nat)(n:K3)(r:K2)(x0 x3 x6 x15:O)(h:HW):Rs:=
 ob x3 fun a27=>
 ob (bin Tryz.prog .and 3 a27 (.int .i64 1)) fun y28=>
 ob (bin Tryz.prog .neq 3 y28 (.int .i64 0)) fun y29=>
 bc (gd true (some y29) (ob x0 fun a30=>
 some (.ret a30,h)) h) fun y31 h31=>
 bc (gd true (some y29) (ob x6 fun a32=>
 ob (ldN 5 a32 h31) fun y33=>
 some (.ret y33,h31)) h31) fun y34 h34=>
 bc (gd true (some y29) (ob x15 fun a35=>
 ob (fa 1 a35) fun y36=>
 some (.ret y36,h34)) h34) fun y37 h37=>
 bc (gd true (some y29) (ob (ld1 y37 h37) fun y38=>
 some (.ret y38,h37)) h37) fun y39 h39=>
 bc (gd true (some y29) (bc (C (.fn 92) [y31,y34,y39,(.int .i64 4)] h39) fun y40 h40=>
 some (.ret y40,h40)) h39) fun y41 h41=>
 bc (gd true (some y29) (ob (unE .not y41) fun y42=>
 some (.ret y42,h41)) h41) fun y43 h43=>
 ob (ypk y29 y43 (.bool false)) fun y44=>
 bc (gd false (some y44) (ob x3 fun a45=>
 some (.ret a45,h43)) h43) fun y46 h46=>
 bc (gd false (some y44) (ob (bin Tryz.prog .and 3 y46 (.int .i64 2)) fun y47=>
 some (.ret y47,h46)) h46) fun y48 h48=>
 bc (gd false (some y44) (ob (bin Tryz.prog .neq 3 y48 (.int .i64 0)) fun y49=>
 some (.ret y49,h48)) h48) fun y50 h50=>
 bc (gd false (some y44) (some (.ret y50,h50)) h50) fun y51 h51=>
 bc (gd true (some y51) (ob x0 fun a52=>
 some (.ret a52,h51)) h51) fun y53 h53=>
 bc (gd true (some y51) (ob x6 fun a54=>
 ob (ldN 5 a54 h53) fun y55=>
 some (.ret y55,h53)) h53) fun y56 h56=>
 bc (gd true (some y51) (ob x15 fun a57=>
 ob (fa 1 a57) fun y58=>
 some (.ret y58,h56)) h56) fun y59 h59=>
 bc (gd true (some y51) (ob (ld1 y59 h59) fun y60=>
 some (.ret y60,h59)) h59) fun y61 h61=>
 bc (gd true (some y51) (bc (C (.fn 92) [y53,y56,y61,(.int .i64 2)] h61) fun y62 h62=>
 some (.ret y62,h62)) h61) fun y63 h63=>
 bc (gd true (some y51) (ob (unE .not y63) fun y64=>
 some (.ret y64,h63)) h63) fun y65 h65=>
 bc (gd false (some y44) (ob (ypk y51 y65 (.bool false)) fun y66=>
 some (.ret y66,h65)) h65) fun y67 h67=>
 ob (ypk y44 (.bool true) y67) fun y68=>
 yIf y68
 (r (some (.int .i64 0)) (some (.int .i64 13)) h67)
 (n x0 x3 x15 h67)
theorem q40_69_eq(C:YC)(lf:Nat)(n:K3)(r:K2)(KE:KX): ∀ F h,evX fx40 C lf [1,1,1,1,1,1,1,1,1,1,1,1,1,1,0] F h (fun F h=>n (F 0) (F 3) (F 15) h) (fun F h=>r (F 10) (F 11) h) KE=q40_69 C lf n r (F 0) (F 3) (F 6) (F 15) h:=by
 intro F h;kernel_rfl
noncomputable def q40_70(C:YC)(lf:Nat)(r:K2)(x0 x3 x6 x15:O)(h:HW):Rs:=
 q40_69 C lf (fun x0 x3 x15 h=>q40_26 C lf r x0 x3 x15 h) r x0 x3 x6 x15 h
theorem q40_70_eq(C:YC)(lf:Nat)(r:K2)(KN:KF)(KE:KX): ∀ F h,evX fx40 C lf [1,1,1,1,1,1,1,1,1,1,1,1,1,1] F h KN (fun F h=>r (F 10) (F 11) h) KE=q40_70 C lf r (F 0) (F 3) (F 6) (F 15) h:=cSeq (a:=subX fx40 [1,1,1,1,1,1,1,1,1,1,1,1,1,1,0]) (b:=subX fx40 [1,1,1,1,1,1,1,1,1,1,1,1,1,1,1]) (by kernel_rfl) (B:=(fun F h=>q40_26 C lf r (F 0) (F 3) (F 15) h)) (q40_26_eq C lf r KN KE) (q40_69_eq C lf (fun x0 x3 x15 h=>q40_26 C lf r x0 x3 x15 h) r KE)
noncomputable def q40_84(C:YC)(lf:Nat)(n:K4)(r:K2)(x0 x3 x6 x12 x15 x17:O)(h:HW):Rs:=
 ob x17 fun a71=>
 bc (gd true (some a71) (ob x3 fun a72=>
 some (.ret a72,h)) h) fun y73 h73=>
 bc (gd true (some a71) (ob (bin Tryz.prog .and 3 y73 (.int .i64 2)) fun y74=>
 some (.ret y74,h73)) h73) fun y75 h75=>
 bc (gd true (some a71) (ob (bin Tryz.prog .neq 3 y75 (.int .i64 0)) fun y76=>
 some (.ret y76,h75)) h75) fun y77 h77=>
 bc (gd true (some a71) (some (.ret y77,h77)) h77) fun y78 h78=>
 bc (gd false (some y78) (ob x12 fun a79=>
 some (.ret a79,h78)) h78) fun y80 h80=>
 bc (gd true (some a71) (ob (ypk y78 (.bool true) y80) fun y81=>
 some (.ret y81,h80)) h80) fun y82 h82=>
 ob (ypk a71 y82 (.bool false)) fun y83=>
 yIf y83
 (r (some (.int .i64 0)) (some (.int .i64 21)) h82)
 (n x0 x3 x6 x15 h82)
theorem q40_84_eq(C:YC)(lf:Nat)(n:K4)(r:K2)(KE:KX): ∀ F h,evX fx40 C lf [1,1,1,1,1,1,1,1,1,1,1,1,1,0] F h (fun F h=>n (F 0) (F 3) (F 6) (F 15) h) (fun F h=>r (F 10) (F 11) h) KE=q40_84 C lf n r (F 0) (F 3) (F 6) (F 12) (F 15) (F 17) h:=by
 intro F h;kernel_rfl
noncomputable def q40_85(C:YC)(lf:Nat)(r:K2)(x0 x3 x6 x12 x15 x17:O)(h:HW):Rs:=
 q40_84 C lf (fun x0 x3 x6 x15 h=>q40_70 C lf r x0 x3 x6 x15 h) r x0 x3 x6 x12 x15 x17 h
theorem q40_85_eq(C:YC)(lf:Nat)(r:K2)(KN:KF)(KE:KX): ∀ F h,evX fx40 C lf [1,1,1,1,1,1,1,1,1,1,1,1,1] F h KN (fun F h=>r (F 10) (F 11) h) KE=q40_85 C lf r (F 0) (F 3) (F 6) (F 12) (F 15) (F 17) h:=cSeq (a:=subX fx40 [1,1,1,1,1,1,1,1,1,1,1,1,1,0]) (b:=subX fx40 [1,1,1,1,1,1,1,1,1,1,1,1,1,1]) (by kernel_rfl) (B:=(fun F h=>q40_70 C lf r (F 0) (F 3) (F 6) (F 15) h)) (q40_70_eq C lf r KN KE) (q40_84_eq C lf (fun x0 x3 x6 x15 h=>q40_70 C lf r x0 x3 x6 x15 h) r KE)
noncomputable def q40_94(C:YC)(lf:Nat)(n:K6)(r:K2)(x0 x3 x6 x12 x15 x17:O)(h:HW):Rs:=
 ob x3 fun a86=>
 ob (bin Tryz.prog .and 3 a86 (.int .i64 64)) fun y87=>
 ob (bin Tryz.prog .neq 3 y87 (.int .i64 0)) fun y88=>
 bc (gd true (some y88) (ob x17 fun a89=>
 some (.ret a89,h)) h) fun y90 h90=>
 bc (gd true (some y88) (ob (unE .not y90) fun y91=>
 some (.ret y91,h90)) h90) fun y92 h92=>
 ob (ypk y88 y92 (.bool false)) fun y93=>
 yIf y93
 (r (some (.int .i64 0)) (some (.int .i64 20)) h92)
 (n x0 x3 x6 x12 x15 x17 h92)
theorem q40_94_eq(C:YC)(lf:Nat)(n:K6)(r:K2)(KE:KX): ∀ F h,evX fx40 C lf [1,1,1,1,1,1,1,1,1,1,1,1,0] F h (fun F h=>n (F 0) (F 3) (F 6) (F 12) (F 15) (F 17) h) (fun F h=>r (F 10) (F 11) h) KE=q40_94 C lf n r (F 0) (F 3) (F 6) (F 12) (F 15) (F 17) h:=by
 intro F h;kernel_rfl
noncomputable def q40_95(C:YC)(lf:Nat)(r:K2)(x0 x3 x6 x12 x15 x17:O)(h:HW):Rs:=
 q40_94 C lf (fun x0 x3 x6 x12 x15 x17 h=>q40_85 C lf r x0 x3 x6 x12 x15 x17 h) r x0 x3 x6 x12 x15 x17 h
theorem q40_95_eq(C:YC)(lf:Nat)(r:K2)(KN:KF)(KE:KX): ∀ F h,evX fx40 C lf [1,1,1,1,1,1,1,1,1,1,1,1] F h KN (fun F h=>r (F 10) (F 11) h) KE=q40_95 C lf r (F 0) (F 3) (F 6) (F 12) (F 15) (F 17) h:=cSeq (a:=subX fx40 [1,1,1,1,1,1,1,1,1,1,1,1,0]) (b:=subX fx40 [1,1,1,1,1,1,1,1,1,1,1,1,1]) (by kernel_rfl) (B:=(fun F h=>q40_85 C lf r (F 0) (F 3) (F 6) (F 12) (F 15) (F 17) h)) (q40_85_eq C lf r KN KE) (q40_94_eq C lf (fun x0 x3 x6 x12 x15 x17 h=>q40_85 C lf r x0 x3 x6 x12 x15 x17 h) r KE)
noncomputable def q40_102(C:YC)(lf:Nat)(n:K6)(x0 x3 x6 x12 x15:O)(h:HW):Rs:=
 ob x0 fun a96=>
 ob x15 fun a97=>
 ob (fa 1 a97) fun y98=>
 ob (ld1 y98 h) fun y99=>
 bc (C (.fn 107) [a96,y99] h) fun y100 h100=>
 ob (bin Tryz.prog .eql 34 y100 (.int .i64 16384)) fun y101=>
 n x0 x3 x6 x12 x15 (some y101) h100
theorem q40_102_eq(C:YC)(lf:Nat)(n:K6)(KR:KF)(KE:KX): ∀ F h,evX fx40 C lf [1,1,1,1,1,1,1,1,1,1,1,0] F h (fun F h=>n (F 0) (F 3) (F 6) (F 12) (F 15) (F 17) h) KR KE=q40_102 C lf n (F 0) (F 3) (F 6) (F 12) (F 15) h:=by
 intro F h;kernel_rfl
noncomputable def q40_103(C:YC)(lf:Nat)(r:K2)(x0 x3 x6 x12 x15:O)(h:HW):Rs:=
 q40_102 C lf (fun x0 x3 x6 x12 x15 x17 h=>q40_95 C lf r x0 x3 x6 x12 x15 x17 h) x0 x3 x6 x12 x15 h
theorem q40_103_eq(C:YC)(lf:Nat)(r:K2)(KN:KF)(KE:KX): ∀ F h,evX fx40 C lf [1,1,1,1,1,1,1,1,1,1,1] F h KN (fun F h=>r (F 10) (F 11) h) KE=q40_103 C lf r (F 0) (F 3) (F 6) (F 12) (F 15) h:=cSeq (a:=subX fx40 [1,1,1,1,1,1,1,1,1,1,1,0]) (b:=subX fx40 [1,1,1,1,1,1,1,1,1,1,1,1]) (by kernel_rfl) (B:=(fun F h=>q40_95 C lf r (F 0) (F 3) (F 6) (F 12) (F 15) (F 17) h)) (q40_95_eq C lf r KN KE) (q40_102_eq C lf (fun x0 x3 x6 x12 x15 x17 h=>q40_95 C lf r x0 x3 x6 x12 x15 x17 h) (fun F h=>r (F 10) (F 11) h) KE)
noncomputable def q40_110(C:YC)(lf:Nat)(n:K5)(r:K2)(x0 x3 x6 x12 x15:O)(h:HW):Rs:=
 ob x0 fun a104=>
 ob x15 fun a105=>
 ob (fa 1 a105) fun y106=>
 ob (ld1 y106 h) fun y107=>
 bc (C (.fn 107) [a104,y107] h) fun y108 h108=>
 ob (bin Tryz.prog .eql 34 y108 (.int .i64 40960)) fun y109=>
 yIf y109
 (r (some (.int .i64 0)) (some (.int .i64 40)) h108)
 (n x0 x3 x6 x12 x15 h108)
theorem q40_110_eq(C:YC)(lf:Nat)(n:K5)(r:K2)(KE:KX): ∀ F h,evX fx40 C lf [1,1,1,1,1,1,1,1,1,1,0] F h (fun F h=>n (F 0) (F 3) (F 6) (F 12) (F 15) h) (fun F h=>r (F 10) (F 11) h) KE=q40_110 C lf n r (F 0) (F 3) (F 6) (F 12) (F 15) h:=by
 intro F h;kernel_rfl
noncomputable def q40_111(C:YC)(lf:Nat)(r:K2)(x0 x3 x6 x12 x15:O)(h:HW):Rs:=
 q40_110 C lf (fun x0 x3 x6 x12 x15 h=>q40_103 C lf r x0 x3 x6 x12 x15 h) r x0 x3 x6 x12 x15 h
theorem q40_111_eq(C:YC)(lf:Nat)(r:K2)(KN:KF)(KE:KX): ∀ F h,evX fx40 C lf [1,1,1,1,1,1,1,1,1,1] F h KN (fun F h=>r (F 10) (F 11) h) KE=q40_111 C lf r (F 0) (F 3) (F 6) (F 12) (F 15) h:=cSeq (a:=subX fx40 [1,1,1,1,1,1,1,1,1,1,0]) (b:=subX fx40 [1,1,1,1,1,1,1,1,1,1,1]) (by kernel_rfl) (B:=(fun F h=>q40_103 C lf r (F 0) (F 3) (F 6) (F 12) (F 15) h)) (q40_103_eq C lf r KN KE) (q40_110_eq C lf (fun x0 x3 x6 x12 x15 h=>q40_103 C lf r x0 x3 x6 x12 x15 h) r KE)
noncomputable def q40_116(C:YC)(lf:Nat)(n:K5)(r:K2)(x0 x3 x6 x12 x13 x15:O)(h:HW):Rs:=
 ob x12 fun a112=>
 bc (gd true (some a112) (ob x13 fun a113=>
 some (.ret a113,h)) h) fun y114 h114=>
 ob (ypk a112 y114 (.bool false)) fun y115=>
 yIf y115
 (r (some (.int .i64 0)) (some (.int .i64 17)) h114)
 (n x0 x3 x6 x12 x15 h114)
theorem q40_116_eq(C:YC)(lf:Nat)(n:K5)(r:K2)(KE:KX): ∀ F h,evX fx40 C lf [1,1,1,1,1,1,1,1,1,0] F h (fun F h=>n (F 0) (F 3) (F 6) (F 12) (F 15) h) (fun F h=>r (F 10) (F 11) h) KE=q40_116 C lf n r (F 0) (F 3) (F 6) (F 12) (F 13) (F 15) h:=by
 intro F h;kernel_rfl
noncomputable def q40_117(C:YC)(lf:Nat)(r:K2)(x0 x3 x6 x12 x13 x15:O)(h:HW):Rs:=
 q40_116 C lf (fun x0 x3 x6 x12 x15 h=>q40_111 C lf r x0 x3 x6 x12 x15 h) r x0 x3 x6 x12 x13 x15 h
theorem q40_117_eq(C:YC)(lf:Nat)(r:K2)(KN:KF)(KE:KX): ∀ F h,evX fx40 C lf [1,1,1,1,1,1,1,1,1] F h KN (fun F h=>r (F 10) (F 11) h) KE=q40_117 C lf r (F 0) (F 3) (F 6) (F 12) (F 13) (F 15) h:=cSeq (a:=subX fx40 [1,1,1,1,1,1,1,1,1,0]) (b:=subX fx40 [1,1,1,1,1,1,1,1,1,1]) (by kernel_rfl) (B:=(fun F h=>q40_111 C lf r (F 0) (F 3) (F 6) (F 12) (F 15) h)) (q40_111_eq C lf r KN KE) (q40_116_eq C lf (fun x0 x3 x6 x12 x15 h=>q40_111 C lf r x0 x3 x6 x12 x15 h) r KE)
noncomputable def q40_133(C:YC)(lf:Nat)(n:K6)(r:K2)(x0 x3 x6 x12 x13 x15:O)(h:HW):Rs:=
 ob x15 fun a118=>
 ob (fa 3 a118) fun y119=>
 ob (ld1 y119 h) fun y120=>
 bc (gd true (some y120) (ob x0 fun a121=>
 some (.ret a121,h)) h) fun y122 h122=>
 bc (gd true (some y120) (ob x15 fun a123=>
 ob (fa 1 a123) fun y124=>
 some (.ret y124,h122)) h122) fun y125 h125=>
 bc (gd true (some y120) (ob (ld1 y125 h125) fun y126=>
 some (.ret y126,h125)) h125) fun y127 h127=>
 bc (gd true (some y120) (bc (C (.fn 107) [y122,y127] h127) fun y128 h128=>
 some (.ret y128,h128)) h127) fun y129 h129=>
 bc (gd true (some y120) (ob (bin Tryz.prog .neq 34 y129 (.int .i64 16384)) fun y130=>
 some (.ret y130,h129)) h129) fun y131 h131=>
 ob (ypk y120 y131 (.bool false)) fun y132=>
 yIf y132
 (r (some (.int .i64 0)) (some (.int .i64 20)) h131)
 (n x0 x3 x6 x12 x13 x15 h131)
theorem q40_133_eq(C:YC)(lf:Nat)(n:K6)(r:K2)(KE:KX): ∀ F h,evX fx40 C lf [1,1,1,1,1,1,1,1,0] F h (fun F h=>n (F 0) (F 3) (F 6) (F 12) (F 13) (F 15) h) (fun F h=>r (F 10) (F 11) h) KE=q40_133 C lf n r (F 0) (F 3) (F 6) (F 12) (F 13) (F 15) h:=by
 intro F h;kernel_rfl
noncomputable def q40_134(C:YC)(lf:Nat)(r:K2)(x0 x3 x6 x12 x13 x15:O)(h:HW):Rs:=
 q40_133 C lf (fun x0 x3 x6 x12 x13 x15 h=>q40_117 C lf r x0 x3 x6 x12 x13 x15 h) r x0 x3 x6 x12 x13 x15 h
theorem q40_134_eq(C:YC)(lf:Nat)(r:K2)(KN:KF)(KE:KX): ∀ F h,evX fx40 C lf [1,1,1,1,1,1,1,1] F h KN (fun F h=>r (F 10) (F 11) h) KE=q40_134 C lf r (F 0) (F 3) (F 6) (F 12) (F 13) (F 15) h:=cSeq (a:=subX fx40 [1,1,1,1,1,1,1,1,0]) (b:=subX fx40 [1,1,1,1,1,1,1,1,1]) (by kernel_rfl) (B:=(fun F h=>q40_117 C lf r (F 0) (F 3) (F 6) (F 12) (F 13) (F 15) h)) (q40_117_eq C lf r KN KE) (q40_133_eq C lf (fun x0 x3 x6 x12 x13 x15 h=>q40_117 C lf r x0 x3 x6 x12 x13 x15 h) r KE)
noncomputable def q40_139(C:YC)(lf:Nat)(n:K6)(r:K2)(x0 x3 x6 x12 x13 x15:O)(h:HW):Rs:=
 ob x15 fun a135=>
 ob (fa 1 a135) fun y136=>
 ob (ld1 y136 h) fun y137=>
 ob (bin Tryz.prog .eql 3 y137 (.int .i64 0)) fun y138=>
 yIf y138
 (r (some (.int .i64 0)) (some (.int .i64 2)) h)
 (n x0 x3 x6 x12 x13 x15 h)
theorem q40_139_eq(C:YC)(lf:Nat)(n:K6)(r:K2)(KE:KX): ∀ F h,evX fx40 C lf [1,1,1,1,1,1,1,0] F h (fun F h=>n (F 0) (F 3) (F 6) (F 12) (F 13) (F 15) h) (fun F h=>r (F 10) (F 11) h) KE=q40_139 C lf n r (F 0) (F 3) (F 6) (F 12) (F 13) (F 15) h:=by
 intro F h;kernel_rfl
noncomputable def q40_140(C:YC)(lf:Nat)(r:K2)(x0 x3 x6 x12 x13 x15:O)(h:HW):Rs:=
 q40_139 C lf (fun x0 x3 x6 x12 x13 x15 h=>q40_134 C lf r x0 x3 x6 x12 x13 x15 h) r x0 x3 x6 x12 x13 x15 h
theorem q40_140_eq(C:YC)(lf:Nat)(r:K2)(KN:KF)(KE:KX): ∀ F h,evX fx40 C lf [1,1,1,1,1,1,1] F h KN (fun F h=>r (F 10) (F 11) h) KE=q40_140 C lf r (F 0) (F 3) (F 6) (F 12) (F 13) (F 15) h:=cSeq (a:=subX fx40 [1,1,1,1,1,1,1,0]) (b:=subX fx40 [1,1,1,1,1,1,1,1]) (by kernel_rfl) (B:=(fun F h=>q40_134 C lf r (F 0) (F 3) (F 6) (F 12) (F 13) (F 15) h)) (q40_134_eq C lf r KN KE) (q40_139_eq C lf (fun x0 x3 x6 x12 x13 x15 h=>q40_134 C lf r x0 x3 x6 x12 x13 x15 h) r KE)
noncomputable def q40_157(C:YC)(lf:Nat)(n:K6)(r:K2)(x0 x3 x4 x6 x12 x13 x15:O)(h:HW):Rs:=
 ob x15 fun a141=>
 ob (fa 1 a141) fun y142=>
 ob (ld1 y142 h) fun y143=>
 ob (bin Tryz.prog .eql 3 y143 (.int .i64 0)) fun y144=>
 bc (gd true (some y144) (ob x12 fun a145=>
 some (.ret a145,h)) h) fun y146 h146=>
 ob (ypk y144 y146 (.bool false)) fun y147=>
 yIf y147
 (ob x0 fun a148=>
 ob x6 fun a149=>
 ob (ldN 5 a149 h146) fun y150=>
 ob x15 fun a151=>
 ob (ldN 5 a151 h146) fun y152=>
 ob x4 fun a153=>
 bc (C (.fn 106) [a148,y150,y152,a153] h146) fun y154 h154=>
 ob (ext 0 y154) fun y155=>
 ob (ext 1 y154) fun y156=>
 r (some y155) (some y156) h154)
 (n x0 x3 x6 x12 x13 x15 h146)
theorem q40_157_eq(C:YC)(lf:Nat)(n:K6)(r:K2)(KE:KX): ∀ F h,evX fx40 C lf [1,1,1,1,1,1,0] F h (fun F h=>n (F 0) (F 3) (F 6) (F 12) (F 13) (F 15) h) (fun F h=>r (F 10) (F 11) h) KE=q40_157 C lf n r (F 0) (F 3) (F 4) (F 6) (F 12) (F 13) (F 15) h:=by
 intro F h;kernel_rfl
noncomputable def q40_158(C:YC)(lf:Nat)(r:K2)(x0 x3 x4 x6 x12 x13 x15:O)(h:HW):Rs:=
 q40_157 C lf (fun x0 x3 x6 x12 x13 x15 h=>q40_140 C lf r x0 x3 x6 x12 x13 x15 h) r x0 x3 x4 x6 x12 x13 x15 h
theorem q40_158_eq(C:YC)(lf:Nat)(r:K2)(KN:KF)(KE:KX): ∀ F h,evX fx40 C lf [1,1,1,1,1,1] F h KN (fun F h=>r (F 10) (F 11) h) KE=q40_158 C lf r (F 0) (F 3) (F 4) (F 6) (F 12) (F 13) (F 15) h:=cSeq (a:=subX fx40 [1,1,1,1,1,1,0]) (b:=subX fx40 [1,1,1,1,1,1,1]) (by kernel_rfl) (B:=(fun F h=>q40_140 C lf r (F 0) (F 3) (F 6) (F 12) (F 13) (F 15) h)) (q40_140_eq C lf r KN KE) (q40_157_eq C lf (fun x0 x3 x6 x12 x13 x15 h=>q40_140 C lf r x0 x3 x6 x12 x13 x15 h) r KE)
noncomputable def q40_162(C:YC)(lf:Nat)(n:K7)(r:K2)(x0 x3 x4 x6 x12 x13 x15 x16:O)(h:HW):Rs:=
 ob x16 fun a159=>
 ob (bin Tryz.prog .neq 3 a159 (.int .i64 0)) fun y160=>
 yIf y160
 (ob x16 fun a161=>
 r (some (.int .i64 0)) (some a161) h)
 (n x0 x3 x4 x6 x12 x13 x15 h)
theorem q40_162_eq(C:YC)(lf:Nat)(n:K7)(r:K2)(KE:KX): ∀ F h,evX fx40 C lf [1,1,1,1,1,0] F h (fun F h=>n (F 0) (F 3) (F 4) (F 6) (F 12) (F 13) (F 15) h) (fun F h=>r (F 10) (F 11) h) KE=q40_162 C lf n r (F 0) (F 3) (F 4) (F 6) (F 12) (F 13) (F 15) (F 16) h:=by
 intro F h;kernel_rfl
noncomputable def q40_163(C:YC)(lf:Nat)(r:K2)(x0 x3 x4 x6 x12 x13 x15 x16:O)(h:HW):Rs:=
 q40_162 C lf (fun x0 x3 x4 x6 x12 x13 x15 h=>q40_158 C lf r x0 x3 x4 x6 x12 x13 x15 h) r x0 x3 x4 x6 x12 x13 x15 x16 h
theorem q40_163_eq(C:YC)(lf:Nat)(r:K2)(KN:KF)(KE:KX): ∀ F h,evX fx40 C lf [1,1,1,1,1] F h KN (fun F h=>r (F 10) (F 11) h) KE=q40_163 C lf r (F 0) (F 3) (F 4) (F 6) (F 12) (F 13) (F 15) (F 16) h:=cSeq (a:=subX fx40 [1,1,1,1,1,0]) (b:=subX fx40 [1,1,1,1,1,1]) (by kernel_rfl) (B:=(fun F h=>q40_158 C lf r (F 0) (F 3) (F 4) (F 6) (F 12) (F 13) (F 15) h)) (q40_158_eq C lf r KN KE) (q40_162_eq C lf (fun x0 x3 x4 x6 x12 x13 x15 h=>q40_158 C lf r x0 x3 x4 x6 x12 x13 x15 h) r KE)
noncomputable def q40_174(C:YC)(lf:Nat)(n:K8)(x0 x2 x3 x4 x6 x12 x13 x14:O)(h:HW):Rs:=
 ob x0 fun a164=>
 ob x6 fun a165=>
 ob (ldN 5 a165 h) fun y166=>
 ob x2 fun a167=>
 ob x14 fun a168=>
 bc (C (.fn 89) [a164,y166,a167,a168,(.bool true)] h) fun y169 h169=>
 ob (ext 0 y169) fun y170=>
 ob (ext 1 y169) fun y171=>
 b2 (yAl Tryz.prog 176 h169) fun y172 h172=>
 ob (st 5 y172 y170 h172) fun h173=>
 n x0 x3 x4 x6 x12 x13 (some y172) (some y171) h173
theorem q40_174_eq(C:YC)(lf:Nat)(n:K8)(KR:KF)(KE:KX): ∀ F h,evX fx40 C lf [1,1,1,1,0] F h (fun F h=>n (F 0) (F 3) (F 4) (F 6) (F 12) (F 13) (F 15) (F 16) h) KR KE=q40_174 C lf n (F 0) (F 2) (F 3) (F 4) (F 6) (F 12) (F 13) (F 14) h:=by
 intro F h;kernel_rfl
noncomputable def q40_175(C:YC)(lf:Nat)(r:K2)(x0 x2 x3 x4 x6 x12 x13 x14:O)(h:HW):Rs:=
 q40_174 C lf (fun x0 x3 x4 x6 x12 x13 x15 x16 h=>q40_163 C lf r x0 x3 x4 x6 x12 x13 x15 x16 h) x0 x2 x3 x4 x6 x12 x13 x14 h
theorem q40_175_eq(C:YC)(lf:Nat)(r:K2)(KN:KF)(KE:KX): ∀ F h,evX fx40 C lf [1,1,1,1] F h KN (fun F h=>r (F 10) (F 11) h) KE=q40_175 C lf r (F 0) (F 2) (F 3) (F 4) (F 6) (F 12) (F 13) (F 14) h:=cSeq (a:=subX fx40 [1,1,1,1,0]) (b:=subX fx40 [1,1,1,1,1]) (by kernel_rfl) (B:=(fun F h=>q40_163 C lf r (F 0) (F 3) (F 4) (F 6) (F 12) (F 13) (F 15) (F 16) h)) (q40_163_eq C lf r KN KE) (q40_174_eq C lf (fun x0 x3 x4 x6 x12 x13 x15 x16 h=>q40_163 C lf r x0 x3 x4 x6 x12 x13 x15 x16 h) (fun F h=>r (F 10) (F 11) h) KE)
noncomputable def q40_189(C:YC)(lf:Nat)(n:K8)(x0 x2 x3 x4 x6 x12 x13:O)(h:HW):Rs:=
 ob x3 fun a176=>
 ob (bin Tryz.prog .and 3 a176 (.int .i64 128)) fun y177=>
 ob (bin Tryz.prog .eql 3 y177 (.int .i64 0)) fun y178=>
 bc (gd true (some y178) (ob x12 fun a179=>
 some (.ret a179,h)) h) fun y180 h180=>
 bc (gd true (some y178) (some (.ret y180,h180)) h180) fun y181 h181=>
 bc (gd true (some y181) (ob x13 fun a182=>
 some (.ret a182,h181)) h181) fun y183 h183=>
 bc (gd true (some y178) (ob (ypk y181 y183 (.bool false)) fun y184=>
 some (.ret y184,h183)) h183) fun y185 h185=>
 bc (gd true (some y178) (ob (unE .not y185) fun y186=>
 some (.ret y186,h185)) h185) fun y187 h187=>
 ob (ypk y178 y187 (.bool false)) fun y188=>
 n x0 x2 x3 x4 x6 x12 x13 (some y188) h187
theorem q40_189_eq(C:YC)(lf:Nat)(n:K8)(KR:KF)(KE:KX): ∀ F h,evX fx40 C lf [1,1,1,0] F h (fun F h=>n (F 0) (F 2) (F 3) (F 4) (F 6) (F 12) (F 13) (F 14) h) KR KE=q40_189 C lf n (F 0) (F 2) (F 3) (F 4) (F 6) (F 12) (F 13) h:=by
 intro F h;kernel_rfl
noncomputable def q40_190(C:YC)(lf:Nat)(r:K2)(x0 x2 x3 x4 x6 x12 x13:O)(h:HW):Rs:=
 q40_189 C lf (fun x0 x2 x3 x4 x6 x12 x13 x14 h=>q40_175 C lf r x0 x2 x3 x4 x6 x12 x13 x14 h) x0 x2 x3 x4 x6 x12 x13 h
theorem q40_190_eq(C:YC)(lf:Nat)(r:K2)(KN:KF)(KE:KX): ∀ F h,evX fx40 C lf [1,1,1] F h KN (fun F h=>r (F 10) (F 11) h) KE=q40_190 C lf r (F 0) (F 2) (F 3) (F 4) (F 6) (F 12) (F 13) h:=cSeq (a:=subX fx40 [1,1,1,0]) (b:=subX fx40 [1,1,1,1]) (by kernel_rfl) (B:=(fun F h=>q40_175 C lf r (F 0) (F 2) (F 3) (F 4) (F 6) (F 12) (F 13) (F 14) h)) (q40_175_eq C lf r KN KE) (q40_189_eq C lf (fun x0 x2 x3 x4 x6 x12 x13 x14 h=>q40_175 C lf r x0 x2 x3 x4 x6 x12 x13 x14 h) (fun F h=>r (F 10) (F 11) h) KE)
noncomputable def q40_197(C:YC)(lf:Nat)(n:K7)(x0 x2 x3 x4 x6:O)(h:HW):Rs:=
 ob x3 fun a191=>
 ob (bin Tryz.prog .and 3 a191 (.int .i64 8)) fun y192=>
 ob (bin Tryz.prog .neq 3 y192 (.int .i64 0)) fun y193=>
 ob x3 fun a194=>
 ob (bin Tryz.prog .and 3 a194 (.int .i64 16)) fun y195=>
 ob (bin Tryz.prog .neq 3 y195 (.int .i64 0)) fun y196=>
 n x0 x2 x3 x4 x6 (some y193) (some y196) h
theorem q40_197_eq(C:YC)(lf:Nat)(n:K7)(KR:KF)(KE:KX): ∀ F h,evX fx40 C lf [1,1,0] F h (fun F h=>n (F 0) (F 2) (F 3) (F 4) (F 6) (F 12) (F 13) h) KR KE=q40_197 C lf n (F 0) (F 2) (F 3) (F 4) (F 6) h:=by
 intro F h;kernel_rfl
noncomputable def q40_198(C:YC)(lf:Nat)(r:K2)(x0 x2 x3 x4 x6:O)(h:HW):Rs:=
 q40_197 C lf (fun x0 x2 x3 x4 x6 x12 x13 h=>q40_190 C lf r x0 x2 x3 x4 x6 x12 x13 h) x0 x2 x3 x4 x6 h
theorem q40_198_eq(C:YC)(lf:Nat)(r:K2)(KN:KF)(KE:KX): ∀ F h,evX fx40 C lf [1,1] F h KN (fun F h=>r (F 10) (F 11) h) KE=q40_198 C lf r (F 0) (F 2) (F 3) (F 4) (F 6) h:=cSeq (a:=subX fx40 [1,1,0]) (b:=subX fx40 [1,1,1]) (by kernel_rfl) (B:=(fun F h=>q40_190 C lf r (F 0) (F 2) (F 3) (F 4) (F 6) (F 12) (F 13) h)) (q40_190_eq C lf r KN KE) (q40_197_eq C lf (fun x0 x2 x3 x4 x6 x12 x13 h=>q40_190 C lf r x0 x2 x3 x4 x6 x12 x13 h) (fun F h=>r (F 10) (F 11) h) KE)
noncomputable def q40_202(C:YC)(lf:Nat)(n:K5)(r:K2)(x0 x2 x3 x4 x6:O)(h:HW):Rs:=
 ob x3 fun a199=>
 bc (C (.fn 105) [a199] h) fun y200 h200=>
 ob (unE .not y200) fun y201=>
 yIf y201
 (r (some (.int .i64 0)) (some (.int .i64 22)) h200)
 (n x0 x2 x3 x4 x6 h200)
theorem q40_202_eq(C:YC)(lf:Nat)(n:K5)(r:K2)(KE:KX): ∀ F h,evX fx40 C lf [1,0] F h (fun F h=>n (F 0) (F 2) (F 3) (F 4) (F 6) h) (fun F h=>r (F 10) (F 11) h) KE=q40_202 C lf n r (F 0) (F 2) (F 3) (F 4) (F 6) h:=by
 intro F h;kernel_rfl
noncomputable def q40_203(C:YC)(lf:Nat)(r:K2)(x0 x2 x3 x4 x6:O)(h:HW):Rs:=
 q40_202 C lf (fun x0 x2 x3 x4 x6 h=>q40_198 C lf r x0 x2 x3 x4 x6 h) r x0 x2 x3 x4 x6 h
theorem q40_203_eq(C:YC)(lf:Nat)(r:K2)(KN:KF)(KE:KX): ∀ F h,evX fx40 C lf [1] F h KN (fun F h=>r (F 10) (F 11) h) KE=q40_203 C lf r (F 0) (F 2) (F 3) (F 4) (F 6) h:=cSeq (a:=subX fx40 [1,0]) (b:=subX fx40 [1,1]) (by kernel_rfl) (B:=(fun F h=>q40_198 C lf r (F 0) (F 2) (F 3) (F 4) (F 6) h)) (q40_198_eq C lf r KN KE) (q40_202_eq C lf (fun x0 x2 x3 x4 x6 h=>q40_198 C lf r x0 x2 x3 x4 x6 h) r KE)
noncomputable def q40_206(C:YC)(lf:Nat)(n:K5)(x0 x1 x2 x3 x4:O)(h:HW):Rs:=
 ob x1 fun a204=>
 b2 (ybx 48 a204 h) fun y205 h205=>
 n x0 x2 x3 x4 (some y205) h205
theorem q40_206_eq(C:YC)(lf:Nat)(n:K5)(KR:KF)(KE:KX): ∀ F h,evX fx40 C lf [0] F h (fun F h=>n (F 0) (F 2) (F 3) (F 4) (F 6) h) KR KE=q40_206 C lf n (F 0) (F 1) (F 2) (F 3) (F 4) h:=by
 intro F h;kernel_rfl
noncomputable def q40_207(C:YC)(lf:Nat)(r:K2)(x0 x1 x2 x3 x4:O)(h:HW):Rs:=
 q40_206 C lf (fun x0 x2 x3 x4 x6 h=>q40_203 C lf r x0 x2 x3 x4 x6 h) x0 x1 x2 x3 x4 h
theorem q40_207_eq(C:YC)(lf:Nat)(r:K2)(KN:KF)(KE:KX): ∀ F h,evX fx40 C lf [] F h KN (fun F h=>r (F 10) (F 11) h) KE=q40_207 C lf r (F 0) (F 1) (F 2) (F 3) (F 4) h:=cSeq (a:=subX fx40 [0]) (b:=subX fx40 [1]) (by kernel_rfl) (B:=(fun F h=>q40_203 C lf r (F 0) (F 2) (F 3) (F 4) (F 6) h)) (q40_203_eq C lf r KN KE) (q40_206_eq C lf (fun x0 x2 x3 x4 x6 h=>q40_203 C lf r x0 x2 x3 x4 x6 h) (fun F h=>r (F 10) (F 11) h) KE)
noncomputable def fs40(C:YC)(lf:Nat)(a0 a1 a2 a3 a4:SV)(h:HW):Rs:=q40_207 C lf ff40 (some a0) (some a1) (some a2) (some a3) (some a4) h
theorem fs40_eq(C:YC)(lf:Nat)(a0 a1 a2 a3 a4:SV)(h:HW):yFn Tryz.prog fx40 C lf [a0,a1,a2,a3,a4] h=fs40 C lf a0 a1 a2 a3 a4 h:=fnX (K:=(fun F h=>ff40 (F 10) (F 11) h)) (by kernel_rfl) (((q40_207_eq C lf ff40 (fun F h=>ff40 (F 10) (F 11) h) (fun _ _ _=>none)) _ h).trans (by kernel_rfl))
noncomputable def fy40:YX Tryz.prog:=Y5 fx40 fs40 fs40_eq (by kernel_rfl)
noncomputable def fx41:XF Tryz.prog:=⟨41,Tryz.f41,fun _=> .text,Tryz.func41,by kernel_rfl,by kernel_rfl,by kernel_rfl,by kernel_rfl⟩
noncomputable def ff41(x8 x9:O)(h:HW):Rs:=
 ob x8 fun a0=>
 ob x9 fun a1=>
 some (.ret (.tup [a0,a1]),h)
noncomputable def q41_16(C:YC)(lf:Nat)(r:K2)(x0 x1 x2 x3:O)(h:HW):Rs:=
 ob x0 fun a2=>
 ob x1 fun a3=>
 bc (C (.fn 110) [a2,a3] h) fun y4 h4=>
 ob (bin Tryz.prog .neq 25 y4 (.int .i64 0)) fun y5=>
 yIf y5
 (r (some (.int .i64 0)) (some y4) h4)
 (ob x0 fun a6=>
 ob (semNil a6) fun y7=>
 ob (fa 0 y7) fun y8=>
 ob (ld1 y8 h4) fun y9=>
 ob x1 fun a10=>
 ob x2 fun a11=>
 ob x3 fun a12=>
 bc (C (.fn 69) [y9,a10,a11,a12] h4) fun y13 h13=>
 ob (ext 0 y13) fun y14=>
 ob (ext 1 y13) fun y15=>
 r (some y14) (some y15) h13)
theorem q41_16_eq(C:YC)(lf:Nat)(r:K2)(KN:KF)(KE:KX): ∀ F h,evX fx41 C lf [] F h KN (fun F h=>r (F 8) (F 9) h) KE=q41_16 C lf r (F 0) (F 1) (F 2) (F 3) h:=by
 intro F h;kernel_rfl
noncomputable def fs41(C:YC)(lf:Nat)(a0 a1 a2 a3:SV)(h:HW):Rs:=q41_16 C lf ff41 (some a0) (some a1) (some a2) (some a3) h
theorem fs41_eq(C:YC)(lf:Nat)(a0 a1 a2 a3:SV)(h:HW):yFn Tryz.prog fx41 C lf [a0,a1,a2,a3] h=fs41 C lf a0 a1 a2 a3 h:=fnX (K:=(fun F h=>ff41 (F 8) (F 9) h)) (by kernel_rfl) (((q41_16_eq C lf ff41 (fun F h=>ff41 (F 8) (F 9) h) (fun _ _ _=>none)) _ h).trans (by kernel_rfl))
noncomputable def fy41:YX Tryz.prog:=Y4 fx41 fs41 fs41_eq (by kernel_rfl)
noncomputable def fx42:XF Tryz.prog:=⟨42,Tryz.f42,fun _=> .text,Tryz.func42,by kernel_rfl,by kernel_rfl,by kernel_rfl,by kernel_rfl⟩
noncomputable def ff42(x8 x9:O)(h:HW):Rs:=
 ob x8 fun a0=>
 ob x9 fun a1=>
 some (.ret (.tup [a0,a1]),h)
noncomputable def q42_16(C:YC)(lf:Nat)(r:K2)(x0 x1 x2 x3:O)(h:HW):Rs:=
 ob x0 fun a2=>
 ob x1 fun a3=>
 bc (C (.fn 111) [a2,a3] h) fun y4 h4=>
 ob (bin Tryz.prog .neq 3 y4 (.int .i64 0)) fun y5=>
 yIf y5
 (r (some (.int .i64 0)) (some y4) h4)
 (ob x0 fun a6=>
 ob (semNil a6) fun y7=>
 ob (fa 0 y7) fun y8=>
 ob (ld1 y8 h4) fun y9=>
 ob x1 fun a10=>
 ob x2 fun a11=>
 ob x3 fun a12=>
 bc (C (.fn 76) [y9,a10,a11,a12] h4) fun y13 h13=>
 ob (ext 0 y13) fun y14=>
 ob (ext 1 y13) fun y15=>
 r (some y14) (some y15) h13)
theorem q42_16_eq(C:YC)(lf:Nat)(r:K2)(KN:KF)(KE:KX): ∀ F h,evX fx42 C lf [] F h KN (fun F h=>r (F 8) (F 9) h) KE=q42_16 C lf r (F 0) (F 1) (F 2) (F 3) h:=by
 intro F h;kernel_rfl
noncomputable def fs42(C:YC)(lf:Nat)(a0 a1 a2 a3:SV)(h:HW):Rs:=q42_16 C lf ff42 (some a0) (some a1) (some a2) (some a3) h
theorem fs42_eq(C:YC)(lf:Nat)(a0 a1 a2 a3:SV)(h:HW):yFn Tryz.prog fx42 C lf [a0,a1,a2,a3] h=fs42 C lf a0 a1 a2 a3 h:=fnX (K:=(fun F h=>ff42 (F 8) (F 9) h)) (by kernel_rfl) (((q42_16_eq C lf ff42 (fun F h=>ff42 (F 8) (F 9) h) (fun _ _ _=>none)) _ h).trans (by kernel_rfl))
noncomputable def fy42:YX Tryz.prog:=Y4 fx42 fs42 fs42_eq (by kernel_rfl)
noncomputable def fx43:XF Tryz.prog:=⟨43,Tryz.f43,fun _=> .text,Tryz.func43,by kernel_rfl,by kernel_rfl,by kernel_rfl,by kernel_rfl⟩
noncomputable def ff43(x4:O)(h:HW):Rs:=
 ob x4 fun a0=>
 some (.ret a0,h)
noncomputable def q43_10(C:YC)(lf:Nat)(r:K1)(x0 x1:O)(h:HW):Rs:=
 ob x0 fun a1=>
 bc (C (.fn 55) [a1] h) fun y2 h2=>
 ob (unE .not y2) fun y3=>
 yIf y3
 (r (some (.int .i64 14)) h2)
 (ob x0 fun a4=>
 ob (semNil a4) fun y5=>
 ob (fa 0 y5) fun y6=>
 ob (ld1 y6 h2) fun y7=>
 ob x1 fun a8=>
 bc (C (.fn 112) [y7,a8] h2) fun y9 h9=>
 r (some y9) h9)
theorem q43_10_eq(C:YC)(lf:Nat)(r:K1)(KN:KF)(KE:KX): ∀ F h,evX fx43 C lf [] F h KN (fun F h=>r (F 4) h) KE=q43_10 C lf r (F 0) (F 1) h:=by
 intro F h;kernel_rfl
noncomputable def fs43(C:YC)(lf:Nat)(a0 a1:SV)(h:HW):Rs:=q43_10 C lf ff43 (some a0) (some a1) h
theorem fs43_eq(C:YC)(lf:Nat)(a0 a1:SV)(h:HW):yFn Tryz.prog fx43 C lf [a0,a1] h=fs43 C lf a0 a1 h:=fnX (K:=(fun F h=>ff43 (F 4) h)) (by kernel_rfl) (((q43_10_eq C lf ff43 (fun F h=>ff43 (F 4) h) (fun _ _ _=>none)) _ h).trans (by kernel_rfl))
noncomputable def fy43:YX Tryz.prog:=Y2 fx43 fs43 fs43_eq (by kernel_rfl)
noncomputable def fx44:XF Tryz.prog:=⟨44,Tryz.f44,fun _=> .text,Tryz.func44,by kernel_rfl,by kernel_rfl,by kernel_rfl,by kernel_rfl⟩
noncomputable def ff44(x4:O)(h:HW):Rs:=
 ob x4 fun a0=>
 some (.ret a0,h)
noncomputable def q44_7(C:YC)(lf:Nat)(r:K1)(x0 x1:O)(h:HW):Rs:=
 ob x0 fun a1=>
 ob (semNil a1) fun y2=>
 ob (fa 0 y2) fun y3=>
 ob (ld1 y3 h) fun y4=>
 ob x1 fun a5=>
 bc (C (.fn 113) [y4,a5] h) fun y6 h6=>
 r (some y6) h6
theorem q44_7_eq(C:YC)(lf:Nat)(r:K1)(KN:KF)(KE:KX): ∀ F h,evX fx44 C lf [] F h KN (fun F h=>r (F 4) h) KE=q44_7 C lf r (F 0) (F 1) h:=by
 intro F h;kernel_rfl
noncomputable def fs44(C:YC)(lf:Nat)(a0 a1:SV)(h:HW):Rs:=q44_7 C lf ff44 (some a0) (some a1) h
theorem fs44_eq(C:YC)(lf:Nat)(a0 a1:SV)(h:HW):yFn Tryz.prog fx44 C lf [a0,a1] h=fs44 C lf a0 a1 h:=fnX (K:=(fun F h=>ff44 (F 4) h)) (by kernel_rfl) (((q44_7_eq C lf ff44 (fun F h=>ff44 (F 4) h) (fun _ _ _=>none)) _ h).trans (by kernel_rfl))
noncomputable def fy44:YX Tryz.prog:=Y2 fx44 fs44 fs44_eq (by kernel_rfl)
noncomputable def fx55:XF Tryz.prog:=⟨55,Tryz.f55,fun _=> .text,Tryz.func55,by kernel_rfl,by kernel_rfl,by kernel_rfl,by kernel_rfl⟩
noncomputable def ff55(x2:O)(h:HW):Rs:=
 ob x2 fun a0=>
 some (.ret a0,h)
noncomputable def q55_14(C:YC)(lf:Nat)(r:K1)(x0:O)(h:HW):Rs:=
 ob x0 fun a1=>
 ob (bin Tryz.prog .neq 42 a1 (.val (.pointer none))) fun y2=>
 bc (gd true (some y2) (ob x0 fun a3=>
 some (.ret a3,h)) h) fun y4 h4=>
 bc (gd true (some y2) (ob (semNil y4) fun y5=>
 some (.ret y5,h4)) h4) fun y6 h6=>
 bc (gd true (some y2) (ob (fa 0 y6) fun y7=>
 some (.ret y7,h6)) h6) fun y8 h8=>
 bc (gd true (some y2) (ob (ld1 y8 h8) fun y9=>
 some (.ret y9,h8)) h8) fun y10 h10=>
 bc (gd true (some y2) (ob (bin Tryz.prog .neq 82 y10 (.val (.pointer none))) fun y11=>
 some (.ret y11,h10)) h10) fun y12 h12=>
 ob (ypk y2 y12 (.bool false)) fun y13=>
 r (some y13) h12
theorem q55_14_eq(C:YC)(lf:Nat)(r:K1)(KN:KF)(KE:KX): ∀ F h,evX fx55 C lf [] F h KN (fun F h=>r (F 2) h) KE=q55_14 C lf r (F 0) h:=by
 intro F h;kernel_rfl
noncomputable def fs55(C:YC)(lf:Nat)(a0:SV)(h:HW):Rs:=q55_14 C lf ff55 (some a0) h
theorem fs55_eq(C:YC)(lf:Nat)(a0:SV)(h:HW):yFn Tryz.prog fx55 C lf [a0] h=fs55 C lf a0 h:=fnX (K:=(fun F h=>ff55 (F 2) h)) (by kernel_rfl) (((q55_14_eq C lf ff55 (fun F h=>ff55 (F 2) h) (fun _ _ _=>none)) _ h).trans (by kernel_rfl))
noncomputable def fy55:YX Tryz.prog:=Y1 fx55 fs55 fs55_eq (by kernel_rfl)
noncomputable def fx56:XF Tryz.prog:=⟨56,Tryz.f56,fun r=>bif Nat.beq r 1000004 then .ord [3] [] else .text,Tryz.func56,by kernel_rfl,by kernel_rfl,by kernel_rfl,by kernel_rfl⟩
noncomputable def ff56(x2:O)(h:HW):Rs:=
 ob x2 fun a0=>
 some (.ret a0,h)
noncomputable def fz56(L:List Nat)(x2:O)(h:HW):Rs:=markZ L h fun h=>ff56 x2 h
noncomputable def q56_3(C:YC)(lf:Nat)(r:K1)(x3:O)(h:HW):Rs:=
 ob x3 fun a1=>
 ob (ld1 a1 h) fun y2=>
 r (some y2) h
theorem q56_3_eq(C:YC)(lf:Nat)(r:K1)(KN:KF)(KE:KX): ∀ F h,evX fx56 C lf [1,1,1] F h KN (fun F h=>r (F 2) h) KE=q56_3 C lf r (F 3) h:=by
 intro F h;kernel_rfl
noncomputable def q56_16(C:YC)(lf:Nat)(n:K2)(x0 x3:O)(h:HW):Rs:=
 ob x0 fun a15=>
 n x3 (some (.fn (.func 132) [a15] [])) h
theorem q56_16_eq(C:YC)(lf:Nat)(n:K2)(KR:KF)(KE:KX): ∀ F h,evX fx56 C lf [1,1,0,0] F h (fun F h=>n (F 3) (F 6) h) KR KE=q56_16 C lf n (F 0) (F 3) h:=by
 intro F h;kernel_rfl
noncomputable def q56_18(C:YC)(lf:Nat)(n:K2)(x0:O)(h:HW):Rs:=
 b2 (yAl Tryz.prog 46 h) fun y17 h17=>
 n x0 (some y17) h17
theorem q56_18_eq(C:YC)(lf:Nat)(n:K2)(KR:KF)(KE:KX): ∀ F h,evX fx56 C lf [1,0] F h (fun F h=>n (F 0) (F 3) h) KR KE=q56_18 C lf n (F 0) h:=by
 intro F h;kernel_rfl
noncomputable def q56_19(C:YC)(lf:Nat)(n:K1)(x0:O)(h:HW):Rs:=
 n x0 h
theorem q56_19_eq(C:YC)(lf:Nat)(n:K1)(KR:KF)(KE:KX): ∀ F h,evX fx56 C lf [0] F h (fun F h=>n (F 0) h) KR KE=q56_19 C lf n (F 0) h:=by
 intro F h;kernel_rfl
noncomputable def fs56(C:YC)(lf:Nat)(a0:SV)(h:HW):Rs:=noPan (q56_19 C lf ((fun L x0 h=>q56_18 C lf ((fun L x0 x3 h=>q56_16 C lf ((fun L x3 x6 h=>ob x6 fun y=>rangeT C fx56.ord 56 none 13 #[7] (subX fx56 [1,1,0,1,0,0]) (subX fx56 [1,1,0,1,0,1]) y L (layT [(3,x3)]) h (fun L h=>(fun L x3 h=>q56_3 C lf (fz56 L) x3 h) L x3 h) noT []) L) x0 x3 h) L) x0 h) []) (some a0) h)
theorem fs56_eq(C:YC)(lf:Nat)(a0:SV)(h:HW):yFnZ Tryz.prog fx56 C lf [a0] h=fs56 C lf a0 h:=fnZ (K:=(fun L F h=>fz56 L (F 2) h)) (by kernel_rfl) (((zSeq (a:=subX fx56 [0]) (b:=subX fx56 [1]) (by kernel_rfl) (B:=(fun L F h=>q56_18 C lf ((fun L x0 x3 h=>q56_16 C lf ((fun L x3 x6 h=>ob x6 fun y=>rangeT C fx56.ord 56 none 13 #[7] (subX fx56 [1,1,0,1,0,0]) (subX fx56 [1,1,0,1,0,1]) y L (layT [(3,x3)]) h (fun L h=>(fun L x3 h=>q56_3 C lf (fz56 L) x3 h) L x3 h) noT []) L) x0 x3 h) L) (F 0) h)) (zSeq (a:=subX fx56 [1,0]) (b:=subX fx56 [1,1]) (by kernel_rfl) (B:=(fun L F h=>q56_16 C lf ((fun L x3 x6 h=>ob x6 fun y=>rangeT C fx56.ord 56 none 13 #[7] (subX fx56 [1,1,0,1,0,0]) (subX fx56 [1,1,0,1,0,1]) y L (layT [(3,x3)]) h (fun L h=>(fun L x3 h=>q56_3 C lf (fz56 L) x3 h) L x3 h) noT []) L) (F 0) (F 3) h)) (zSeq (a:=subX fx56 [1,1,0]) (b:=subX fx56 [1,1,1]) (by kernel_rfl) (B:=(fun L F h=>q56_3 C lf (fz56 L) (F 3) h)) (zPlain (x:=fx56) (p:=[1,1,1]) (by kernel_rfl) (fun L F h=>(q56_3_eq C lf (fz56 L) ((fun L F h=>fz56 L (F 2) h) L) (fun i=>(fun _ _ _ _=>none) i L)) F h)) (zSeq (a:=subX fx56 [1,1,0,0]) (b:=subX fx56 [1,1,0,1]) (by kernel_rfl) (B:=(fun L F h=>ob (F 6) fun y=>rangeT C fx56.ord 56 none 13 #[7] (subX fx56 [1,1,0,1,0,0]) (subX fx56 [1,1,0,1,0,1]) y L (layT [(3,(F 3))]) h (fun L h=>(fun L x3 h=>q56_3 C lf (fz56 L) x3 h) L (F 3) h) noT [])) (zBlock (id:=0) (a:=subX fx56 [1,1,0,1,0]) (by kernel_rfl) (fun L F h=>zRange (a:=subX fx56 [1,1,0,1,0,0]) (b:=subX fx56 [1,1,0,1,0,1]) (g:= .tmp 6) (ps:= #[7]) (us:=[3]) (es:=[]) (rb:=false) (by kernel_rfl) (by kernel_rfl) (by kernel_rfl) (by kernel_rfl) L F h)) (zPlain (x:=fx56) (p:=[1,1,0,0]) (by kernel_rfl) (fun L F h=>(q56_16_eq C lf ((fun L x3 x6 h=>ob x6 fun y=>rangeT C fx56.ord 56 none 13 #[7] (subX fx56 [1,1,0,1,0,0]) (subX fx56 [1,1,0,1,0,1]) y L (layT [(3,x3)]) h (fun L h=>(fun L x3 h=>q56_3 C lf (fz56 L) x3 h) L x3 h) noT []) L) ((fun L F h=>fz56 L (F 2) h) L) (fun i=>(fun _ _ _ _=>none) i L)) F h)))) (zPlain (x:=fx56) (p:=[1,0]) (by kernel_rfl) (fun L F h=>(q56_18_eq C lf ((fun L x0 x3 h=>q56_16 C lf ((fun L x3 x6 h=>ob x6 fun y=>rangeT C fx56.ord 56 none 13 #[7] (subX fx56 [1,1,0,1,0,0]) (subX fx56 [1,1,0,1,0,1]) y L (layT [(3,x3)]) h (fun L h=>(fun L x3 h=>q56_3 C lf (fz56 L) x3 h) L x3 h) noT []) L) x0 x3 h) L) ((fun L F h=>fz56 L (F 2) h) L) (fun i=>(fun _ _ _ _=>none) i L)) F h))) (zPlain (x:=fx56) (p:=[0]) (by kernel_rfl) (fun L F h=>(q56_19_eq C lf ((fun L x0 h=>q56_18 C lf ((fun L x0 x3 h=>q56_16 C lf ((fun L x3 x6 h=>ob x6 fun y=>rangeT C fx56.ord 56 none 13 #[7] (subX fx56 [1,1,0,1,0,0]) (subX fx56 [1,1,0,1,0,1]) y L (layT [(3,x3)]) h (fun L h=>(fun L x3 h=>q56_3 C lf (fz56 L) x3 h) L x3 h) noT []) L) x0 x3 h) L) x0 h) L) ((fun L F h=>fz56 L (F 2) h) L) (fun i=>(fun _ _ _ _=>none) i L)) F h))) [] _ h).trans (by kernel_rfl))
noncomputable def fy56:YX Tryz.prog:=Z1 fx56 fs56 fs56_eq (by kernel_rfl)
noncomputable def fx57:XF Tryz.prog:=⟨57,Tryz.f57,fun _=> .text,Tryz.func57,by kernel_rfl,by kernel_rfl,by kernel_rfl,by kernel_rfl⟩
noncomputable def ff57(x4 x5:O)(h:HW):Rs:=
 ob x4 fun a0=>
 ob (ldN 10 a0 h) fun y1=>
 ob x5 fun a2=>
 some (.ret (.tup [y1,a2]),h)
noncomputable def q57_23(C:YC)(lf:Nat)(r:K2)(x0 x1:O)(h:HW):Rs:=
 b2 (yAl Tryz.prog 63 h) fun y3 h3=>
 ob x0 fun a4=>
 ob x1 fun a5=>
 bc (C (.fn 70) [a4,a5] h3) fun y6 h6=>
 ob (ext 0 y6) fun y7=>
 ob (ext 1 y6) fun y8=>
 ob (bin Tryz.prog .neq 25 y8 (.int .i64 0)) fun y9=>
 yIf y9
 (ob (semBuild Tryz.prog 63 [] []) fun y10=>
 ob (st 10 y3 y10 h6) fun h11=>
 r (some y3) (some y8) h11)
 (ob (semNil y7) fun y12=>
 ob (fa 1 y12) fun y13=>
 ob (ldN 10 y13 h6) fun y14=>
 b2 (yAl Tryz.prog 63 h6) fun y15 h15=>
 ob (st 10 y15 y14 h15) fun h16=>
 bc (C (.fn 133) [y7] h16) fun y17 h17=>
 ob (lenE Tryz.prog 46 y17) fun y18=>
 ob (fa 5 y15) fun y19=>
 ob (st 1 y19 y18 h17) fun h20=>
 ob (ldN 10 y15 h20) fun y21=>
 ob (st 10 y3 y21 h20) fun h22=>
 r (some y3) (some (.int .i64 0)) h22)
theorem q57_23_eq(C:YC)(lf:Nat)(r:K2)(KN:KF)(KE:KX): ∀ F h,evX fx57 C lf [] F h KN (fun F h=>r (F 4) (F 5) h) KE=q57_23 C lf r (F 0) (F 1) h:=by
 intro F h;kernel_rfl
noncomputable def fs57(C:YC)(lf:Nat)(a0 a1:SV)(h:HW):Rs:=q57_23 C lf ff57 (some a0) (some a1) h
theorem fs57_eq(C:YC)(lf:Nat)(a0 a1:SV)(h:HW):yFn Tryz.prog fx57 C lf [a0,a1] h=fs57 C lf a0 a1 h:=fnX (K:=(fun F h=>ff57 (F 4) (F 5) h)) (by kernel_rfl) (((q57_23_eq C lf ff57 (fun F h=>ff57 (F 4) (F 5) h) (fun _ _ _=>none)) _ h).trans (by kernel_rfl))
noncomputable def fy57:YX Tryz.prog:=Y2 fx57 fs57 fs57_eq (by kernel_rfl)
noncomputable def fx58:XF Tryz.prog:=⟨58,Tryz.f58,fun _=> .text,Tryz.func58,by kernel_rfl,by kernel_rfl,by kernel_rfl,by kernel_rfl⟩
noncomputable def ff58(x4:O)(h:HW):Rs:=
 ob x4 fun a0=>
 some (.ret a0,h)
noncomputable def q58_14(C:YC)(lf:Nat)(r:K1)(x0 x1:O)(h:HW):Rs:=
 ob x0 fun a1=>
 ob x1 fun a2=>
 bc (C (.fn 70) [a1,a2] h) fun y3 h3=>
 ob (ext 0 y3) fun y4=>
 ob (ext 1 y3) fun y5=>
 ob (bin Tryz.prog .neq 25 y5 (.int .i64 0)) fun y6=>
 yIf y6
 (r (some y5) h3)
 (ob (semNil y4) fun y7=>
 ob (fa 11 y7) fun y8=>
 ob (ld1 y8 h3) fun y9=>
 ob (bin Tryz.prog .add 3 y9 (.int .i64 1)) fun y10=>
 ob (semNil y4) fun y11=>
 ob (fa 11 y11) fun y12=>
 ob (st 1 y12 y10 h3) fun h13=>
 r (some (.int .i64 0)) h13)
theorem q58_14_eq(C:YC)(lf:Nat)(r:K1)(KN:KF)(KE:KX): ∀ F h,evX fx58 C lf [] F h KN (fun F h=>r (F 4) h) KE=q58_14 C lf r (F 0) (F 1) h:=by
 intro F h;kernel_rfl
noncomputable def fs58(C:YC)(lf:Nat)(a0 a1:SV)(h:HW):Rs:=q58_14 C lf ff58 (some a0) (some a1) h
theorem fs58_eq(C:YC)(lf:Nat)(a0 a1:SV)(h:HW):yFn Tryz.prog fx58 C lf [a0,a1] h=fs58 C lf a0 a1 h:=fnX (K:=(fun F h=>ff58 (F 4) h)) (by kernel_rfl) (((q58_14_eq C lf ff58 (fun F h=>ff58 (F 4) h) (fun _ _ _=>none)) _ h).trans (by kernel_rfl))
noncomputable def fy58:YX Tryz.prog:=Y2 fx58 fs58 fs58_eq (by kernel_rfl)
noncomputable def fx59:XF Tryz.prog:=⟨59,Tryz.f59,fun _=> .text,Tryz.func59,by kernel_rfl,by kernel_rfl,by kernel_rfl,by kernel_rfl⟩
noncomputable def ff59(x2:O)(h:HW):Rs:=
 ob x2 fun a0=>
 some (.ret a0,h)
noncomputable def q59_14(C:YC)(lf:Nat)(r:K1)(x0:O)(h:HW):Rs:=
 ob x0 fun a1=>
 ob (bin Tryz.prog .neq 39 a1 (.val (.pointer none))) fun y2=>
 bc (gd true (some y2) (ob x0 fun a3=>
 some (.ret a3,h)) h) fun y4 h4=>
 bc (gd true (some y2) (ob (semNil y4) fun y5=>
 some (.ret y5,h4)) h4) fun y6 h6=>
 bc (gd true (some y2) (ob (fa 0 y6) fun y7=>
 some (.ret y7,h6)) h6) fun y8 h8=>
 bc (gd true (some y2) (ob (ld1 y8 h8) fun y9=>
 some (.ret y9,h8)) h8) fun y10 h10=>
 bc (gd true (some y2) (ob (bin Tryz.prog .neq 42 y10 (.val (.pointer none))) fun y11=>
 some (.ret y11,h10)) h10) fun y12 h12=>
 ob (ypk y2 y12 (.bool false)) fun y13=>
 r (some y13) h12
theorem q59_14_eq(C:YC)(lf:Nat)(r:K1)(KN:KF)(KE:KX): ∀ F h,evX fx59 C lf [] F h KN (fun F h=>r (F 2) h) KE=q59_14 C lf r (F 0) h:=by
 intro F h;kernel_rfl
noncomputable def fs59(C:YC)(lf:Nat)(a0:SV)(h:HW):Rs:=q59_14 C lf ff59 (some a0) h
theorem fs59_eq(C:YC)(lf:Nat)(a0:SV)(h:HW):yFn Tryz.prog fx59 C lf [a0] h=fs59 C lf a0 h:=fnX (K:=(fun F h=>ff59 (F 2) h)) (by kernel_rfl) (((q59_14_eq C lf ff59 (fun F h=>ff59 (F 2) h) (fun _ _ _=>none)) _ h).trans (by kernel_rfl))
noncomputable def fy59:YX Tryz.prog:=Y1 fx59 fs59 fs59_eq (by kernel_rfl)
noncomputable def fx60:XF Tryz.prog:=⟨60,Tryz.f60,fun _=> .text,Tryz.func60,by kernel_rfl,by kernel_rfl,by kernel_rfl,by kernel_rfl⟩
noncomputable def ff60(x2:O)(h:HW):Rs:=
 ob x2 fun a0=>
 some (.ret a0,h)
noncomputable def q60_14(C:YC)(lf:Nat)(r:K1)(x0:O)(h:HW):Rs:=
 ob x0 fun a1=>
 ob (bin Tryz.prog .neq 50 a1 (.val (.pointer none))) fun y2=>
 bc (gd true (some y2) (ob x0 fun a3=>
 some (.ret a3,h)) h) fun y4 h4=>
 bc (gd true (some y2) (ob (semNil y4) fun y5=>
 some (.ret y5,h4)) h4) fun y6 h6=>
 bc (gd true (some y2) (ob (fa 2 y6) fun y7=>
 some (.ret y7,h6)) h6) fun y8 h8=>
 bc (gd true (some y2) (ob (ld1 y8 h8) fun y9=>
 some (.ret y9,h8)) h8) fun y10 h10=>
 bc (gd true (some y2) (ob (bin Tryz.prog .neq 76 y10 (.val (.map none))) fun y11=>
 some (.ret y11,h10)) h10) fun y12 h12=>
 ob (ypk y2 y12 (.bool false)) fun y13=>
 r (some y13) h12
theorem q60_14_eq(C:YC)(lf:Nat)(r:K1)(KN:KF)(KE:KX): ∀ F h,evX fx60 C lf [] F h KN (fun F h=>r (F 2) h) KE=q60_14 C lf r (F 0) h:=by
 intro F h;kernel_rfl
noncomputable def fs60(C:YC)(lf:Nat)(a0:SV)(h:HW):Rs:=q60_14 C lf ff60 (some a0) h
theorem fs60_eq(C:YC)(lf:Nat)(a0:SV)(h:HW):yFn Tryz.prog fx60 C lf [a0] h=fs60 C lf a0 h:=fnX (K:=(fun F h=>ff60 (F 2) h)) (by kernel_rfl) (((q60_14_eq C lf ff60 (fun F h=>ff60 (F 2) h) (fun _ _ _=>none)) _ h).trans (by kernel_rfl))
noncomputable def fy60:YX Tryz.prog:=Y1 fx60 fs60 fs60_eq (by kernel_rfl)
noncomputable def fx61:XF Tryz.prog:=⟨61,Tryz.f61,fun r=>bif Nat.beq r 6 then .ord [0,2,1,3,4,5,7,8,9,11,6,10,12,13,14,15,16,17,18] [(12,[6])] else bif Nat.beq r 7 then .ord [0,1,2,3,4,5,6,7,8,9,10] [(6,[4])] else .text,Tryz.func61,by kernel_rfl,by kernel_rfl,by kernel_rfl,by kernel_rfl⟩
noncomputable def ff61(x4 x5:O)(h:HW):Rs:=
 ob x4 fun a0=>
 ob (ldN 4 a0 h) fun y1=>
 ob x5 fun a2=>
 some (.ret (.tup [y1,a2]),h)
noncomputable def q61_6(C:YC)(lf:Nat)(r:K2)(x4:O)(h:HW):Rs:=
 ob (semBuild Tryz.prog 53 [] []) fun y3=>
 ob x4 fun a4=>
 ob (st 4 a4 y3 h) fun h5=>
 r x4 (some (.bool false)) h5
theorem q61_6_eq(C:YC)(lf:Nat)(r:K2)(KN:KF)(KE:KX): ∀ F h,evX fx61 C lf [1,1,1,1] F h KN (fun F h=>r (F 4) (F 5) h) KE=q61_6 C lf r (F 4) h:=by
 intro F h;kernel_rfl
noncomputable def q61_61(C:YC)(lf:Nat)(n:K6)(r:K2)(e0:K1)(x0 x1 x4 x25 x26 x27:O)(h:HW):Rs:=
 ob x27 fun a8=>
 ob x26 fun a9=>
 ob (bin Tryz.prog .lss 3 a8 a9) fun y10=>
 yIf y10
 (ob x25 fun a11=>
 ob x27 fun a12=>
 ob (ixS 4 a11 a12) fun y13=>
 ob (ldN 4 y13 h) fun y14=>
 b2 (yAl Tryz.prog 53 h) fun y15 h15=>
 ob (st 4 y15 y14 h15) fun h16=>
 ob (fa 0 y15) fun y17=>
 ob x1 fun a18=>
 ob (ld1 y17 h16) fun y19=>
 ob (bin Tryz.prog .eql 9 y19 a18) fun y20=>
 bcn (gd true (some y20) (ob (fa 1 y15) fun y21=>
 some (.ret y21,h16)) h16) fun y22 h22=>
 bcn (gd true (some y20) (ob x0 fun a23=>
 some (.ret a23,h22)) h22) fun y24 h24=>
 bcn (gd true (some y20) (ob (semNil y24) fun y25=>
 some (.ret y25,h24)) h24) fun y26 h26=>
 bcn (gd true (some y20) (ob (fa 2 y26) fun y27=>
 some (.ret y27,h26)) h26) fun y28 h28=>
 bcn (gd true (some y20) (ob x1 fun a29=>
 some (.ret a29,h28)) h28) fun y30 h30=>
 bcn (gd true (some y20) (ob (ld1 y22 h30) fun y31=>
 some (.ret y31,h30)) h30) fun y32 h32=>
 bcn (gd true (some y20) (ob (ld1 y28 h32) fun y33=>
 some (.ret y33,h32)) h32) fun y34 h34=>
 bcn (gd true (some y20) (ob (ylk Tryz.prog 76 false y34 y30 h34) fun y35=>
 some (.ret y35,h34)) h34) fun y36 h36=>
 ck (chkH [(10,gdA true (some y20) (adrO (some y28))),(6,gdA true (some y20) (adrO (some y22))),(1,adrO (some y17))] h34 h36 [6]) <|
 bcn (gd true (some y20) (ob (bin Tryz.prog .eql 3 y32 y36) fun y37=>
 some (.ret y37,h36)) h36) fun y38 h38=>
 ob (ypk y20 y38 (.bool false)) fun y39=>
 bcn (gd true (some y39) (ob (ldN 4 y15 h38) fun y40=>
 some (.ret y40,h38)) h38) fun y41 h41=>
 bcn (gd true (some y39) (bcn (C (.fn 134) [y41] h41) fun y42 h42=>
 some (.ret y42,h42)) h41) fun y43 h43=>
 ob (ypk y39 y43 (.bool false)) fun y44=>
 yIf y44
 (ob x0 fun a45=>
 ob x0 fun a46=>
 ob (semNil a46) fun y47=>
 ob (fa 4 y47) fun y48=>
 ob (ld1 y48 h43) fun y49=>
 ob (ldN 4 y15 h43) fun y50=>
 b2 (ybs Tryz.prog 72 1 [0] [y50] h43) fun y51 h51=>
 ck (chkH [(5,adrO (some y15)),(4,adrO (some y48))] h43 h51 [4]) <|
 b2 (ybl Tryz.prog .append #[72,72] [y49,y51] h51) fun y52 h52=>
 ob (semNil a45) fun y53=>
 ob (fa 4 y53) fun y54=>
 ob (st 1 y54 y52 h52) fun h55=>
 ob (ldN 4 y15 h55) fun y56=>
 ob x4 fun a57=>
 ob (st 4 a57 y56 h55) fun h58=>
 r x4 (some (.bool true)) h58)
 (ob x27 fun a59=>
 ob (bin Tryz.prog .add 3 a59 (.int .i64 1)) fun y60=>
 n x0 x1 x4 x25 x26 (some y60) h43))
 (e0 x4 h)
theorem q61_61_eq(C:YC)(lf:Nat)(n:K6)(r:K2)(e0:K1)(KE:KX): ∀ F h,evX fx61 C lf [1,1,1,0,1,0,0] F h (fun F h=>n (F 0) (F 1) (F 4) (F 25) (F 26) (F 27) h) (fun F h=>r (F 4) (F 5) h) (bk 0 (fun F h=>e0 (F 4) h) KE)=q61_61 C lf n r e0 (F 0) (F 1) (F 4) (F 25) (F 26) (F 27) h:=by
 intro F h;kernel_rfl
noncomputable def l61_7(C:YC)(lf:Nat)(r:K2)(e0:K1)(k:O × O × O × O × O × O→HW→Rs)(s:O × O × O × O × O × O)(h:HW):Rs:=
 q61_61 C lf (fun x0 x1 x4 x25 x26 x27 h=>k (x0,x1,x4,x25,x26,x27) h) r e0 s.1 s.2.1 s.2.2.1 s.2.2.2.1 s.2.2.2.2.1 s.2.2.2.2.2 h
noncomputable def q61_67(C:YC)(lf:Nat)(n:K6)(x0 x1 x4:O)(h:HW):Rs:=
 ob x0 fun a62=>
 ob (semNil a62) fun y63=>
 ob (fa 1 y63) fun y64=>
 ob (ld1 y64 h) fun y65=>
 ob (lenE Tryz.prog 72 y65) fun y66=>
 n x0 x1 x4 (some y65) (some y66) (some (.int .i64 0)) h
theorem q61_67_eq(C:YC)(lf:Nat)(n:K6)(KR:KF)(KE:KX): ∀ F h,evX fx61 C lf [1,1,1,0,0] F h (fun F h=>n (F 0) (F 1) (F 4) (F 25) (F 26) (F 27) h) KR KE=q61_67 C lf n (F 0) (F 1) (F 4) h:=by
 intro F h;kernel_rfl
noncomputable def q61_68(C:YC)(lf:Nat)(n:K1)(r:K2)(x0 x1 x4:O)(h:HW):Rs:=
 q61_67 C lf (fun x0 x1 x4 x25 x26 x27 h=>lp (l61_7 C lf r n) lf (x0,x1,x4,x25,x26,x27) h) x0 x1 x4 h
theorem q61_68_eq(C:YC)(lf:Nat)(n:K1)(r:K2)(KE:KX): ∀ F h,evX fx61 C lf [1,1,1,0] F h (fun F h=>n (F 4) h) (fun F h=>r (F 4) (F 5) h) KE=q61_68 C lf n r (F 0) (F 1) (F 4) h:=cSeq (a:=subX fx61 [1,1,1,0,0]) (b:=subX fx61 [1,1,1,0,1]) (by kernel_rfl) (B:=(fun F h=>lp (l61_7 C lf r n) lf ((F 0),(F 1),(F 4),(F 25),(F 26),(F 27)) h)) (cBlock (id:=0) (a:=subX fx61 [1,1,1,0,1,0]) (by kernel_rfl) (cLoop (a:=subX fx61 [1,1,1,0,1,0,0]) (g:=fun F=>(F 0,F 1,F 4,F 25,F 26,F 27)) (body:=l61_7 C lf r n) (by kernel_rfl) (fun k=>(q61_61_eq C lf (fun x0 x1 x4 x25 x26 x27 h=>k (x0,x1,x4,x25,x26,x27) h) r n KE)))) (q61_67_eq C lf (fun x0 x1 x4 x25 x26 x27 h=>lp (l61_7 C lf r n) lf (x0,x1,x4,x25,x26,x27) h) (fun F h=>r (F 4) (F 5) h) KE)
noncomputable def q61_69(C:YC)(lf:Nat)(r:K2)(x0 x1 x4:O)(h:HW):Rs:=
 q61_68 C lf (fun x4 h=>q61_6 C lf r x4 h) r x0 x1 x4 h
theorem q61_69_eq(C:YC)(lf:Nat)(r:K2)(KN:KF)(KE:KX): ∀ F h,evX fx61 C lf [1,1,1] F h KN (fun F h=>r (F 4) (F 5) h) KE=q61_69 C lf r (F 0) (F 1) (F 4) h:=cSeq (a:=subX fx61 [1,1,1,0]) (b:=subX fx61 [1,1,1,1]) (by kernel_rfl) (B:=(fun F h=>q61_6 C lf r (F 4) h)) (q61_6_eq C lf r KN KE) (q61_68_eq C lf (fun x4 h=>q61_6 C lf r x4 h) r KE)
noncomputable def q61_78(C:YC)(lf:Nat)(n:K3)(x0 x1 x4:O)(h:HW):Rs:=
 ob x0 fun a70=>
 ob (semNil a70) fun y71=>
 ob (fa 2 y71) fun y72=>
 ob (ld1 y72 h) fun y73=>
 ob x1 fun a74=>
 ob (ylk Tryz.prog 76 false y73 a74 h) fun y75=>
 ob (bin Tryz.prog .add 3 y75 (.int .i64 1)) fun y76=>
 ob (yup Tryz.prog 76 y73 a74 y76 h) fun h77=>
 n x0 x1 x4 h77
theorem q61_78_eq(C:YC)(lf:Nat)(n:K3)(KR:KF)(KE:KX): ∀ F h,evX fx61 C lf [1,1,0] F h (fun F h=>n (F 0) (F 1) (F 4) h) KR KE=q61_78 C lf n (F 0) (F 1) (F 4) h:=by
 intro F h;kernel_rfl
noncomputable def q61_79(C:YC)(lf:Nat)(r:K2)(x0 x1 x4:O)(h:HW):Rs:=
 q61_78 C lf (fun x0 x1 x4 h=>q61_69 C lf r x0 x1 x4 h) x0 x1 x4 h
theorem q61_79_eq(C:YC)(lf:Nat)(r:K2)(KN:KF)(KE:KX): ∀ F h,evX fx61 C lf [1,1] F h KN (fun F h=>r (F 4) (F 5) h) KE=q61_79 C lf r (F 0) (F 1) (F 4) h:=cSeq (a:=subX fx61 [1,1,0]) (b:=subX fx61 [1,1,1]) (by kernel_rfl) (B:=(fun F h=>q61_69 C lf r (F 0) (F 1) (F 4) h)) (q61_69_eq C lf r KN KE) (q61_78_eq C lf (fun x0 x1 x4 h=>q61_69 C lf r x0 x1 x4 h) (fun F h=>r (F 4) (F 5) h) KE)
noncomputable def q61_88(C:YC)(lf:Nat)(n:K3)(x0 x1 x4:O)(h:HW):Rs:=
 ob x0 fun a80=>
 ob (semNil a80) fun y81=>
 ob (fa 3 y81) fun y82=>
 ob (ld1 y82 h) fun y83=>
 ob (bin Tryz.prog .add 3 y83 (.int .i64 1)) fun y84=>
 ob (semNil a80) fun y85=>
 ob (fa 3 y85) fun y86=>
 ob (st 1 y86 y84 h) fun h87=>
 n x0 x1 x4 h87
theorem q61_88_eq(C:YC)(lf:Nat)(n:K3)(KR:KF)(KE:KX): ∀ F h,evX fx61 C lf [1,0] F h (fun F h=>n (F 0) (F 1) (F 4) h) KR KE=q61_88 C lf n (F 0) (F 1) (F 4) h:=by
 intro F h;kernel_rfl
noncomputable def q61_89(C:YC)(lf:Nat)(r:K2)(x0 x1 x4:O)(h:HW):Rs:=
 q61_88 C lf (fun x0 x1 x4 h=>q61_79 C lf r x0 x1 x4 h) x0 x1 x4 h
theorem q61_89_eq(C:YC)(lf:Nat)(r:K2)(KN:KF)(KE:KX): ∀ F h,evX fx61 C lf [1] F h KN (fun F h=>r (F 4) (F 5) h) KE=q61_89 C lf r (F 0) (F 1) (F 4) h:=cSeq (a:=subX fx61 [1,0]) (b:=subX fx61 [1,1]) (by kernel_rfl) (B:=(fun F h=>q61_79 C lf r (F 0) (F 1) (F 4) h)) (q61_79_eq C lf r KN KE) (q61_88_eq C lf (fun x0 x1 x4 h=>q61_79 C lf r x0 x1 x4 h) (fun F h=>r (F 4) (F 5) h) KE)
noncomputable def q61_91(C:YC)(lf:Nat)(n:K3)(x0 x1:O)(h:HW):Rs:=
 b2 (yAl Tryz.prog 53 h) fun y90 h90=>
 n x0 x1 (some y90) h90
theorem q61_91_eq(C:YC)(lf:Nat)(n:K3)(KR:KF)(KE:KX): ∀ F h,evX fx61 C lf [0] F h (fun F h=>n (F 0) (F 1) (F 4) h) KR KE=q61_91 C lf n (F 0) (F 1) h:=by
 intro F h;kernel_rfl
noncomputable def q61_92(C:YC)(lf:Nat)(r:K2)(x0 x1:O)(h:HW):Rs:=
 q61_91 C lf (fun x0 x1 x4 h=>q61_89 C lf r x0 x1 x4 h) x0 x1 h
theorem q61_92_eq(C:YC)(lf:Nat)(r:K2)(KN:KF)(KE:KX): ∀ F h,evX fx61 C lf [] F h KN (fun F h=>r (F 4) (F 5) h) KE=q61_92 C lf r (F 0) (F 1) h:=cSeq (a:=subX fx61 [0]) (b:=subX fx61 [1]) (by kernel_rfl) (B:=(fun F h=>q61_89 C lf r (F 0) (F 1) (F 4) h)) (q61_89_eq C lf r KN KE) (q61_91_eq C lf (fun x0 x1 x4 h=>q61_89 C lf r x0 x1 x4 h) (fun F h=>r (F 4) (F 5) h) KE)
noncomputable def fs61(C:YC)(lf:Nat)(a0 a1:SV)(h:HW):Rs:=q61_92 C lf ff61 (some a0) (some a1) h
theorem fs61_eq(C:YC)(lf:Nat)(a0 a1:SV)(h:HW):yFn Tryz.prog fx61 C lf [a0,a1] h=fs61 C lf a0 a1 h:=fnX (K:=(fun F h=>ff61 (F 4) (F 5) h)) (by kernel_rfl) (((q61_92_eq C lf ff61 (fun F h=>ff61 (F 4) (F 5) h) (fun _ _ _=>none)) _ h).trans (by kernel_rfl))
noncomputable def fy61:YX Tryz.prog:=Y2 fx61 fs61 fs61_eq (by kernel_rfl)
noncomputable def fx62:XF Tryz.prog:=⟨62,Tryz.f62,fun _=> .text,Tryz.func62,by kernel_rfl,by kernel_rfl,by kernel_rfl,by kernel_rfl⟩
noncomputable def ff62(x2:O)(h:HW):Rs:=
 ob x2 fun a0=>
 some (.ret a0,h)
noncomputable def q62_5(C:YC)(lf:Nat)(r:K1)(x0:O)(h:HW):Rs:=
 ob x0 fun a1=>
 bc (C (.fn 135) [a1] h) fun y2 h2=>
 ob (lenE Tryz.prog 46 y2) fun y3=>
 ob (bin Tryz.prog .sub 3 (.int .i64 16) y3) fun y4=>
 r (some y4) h2
theorem q62_5_eq(C:YC)(lf:Nat)(r:K1)(KN:KF)(KE:KX): ∀ F h,evX fx62 C lf [] F h KN (fun F h=>r (F 2) h) KE=q62_5 C lf r (F 0) h:=by
 intro F h;kernel_rfl
noncomputable def fs62(C:YC)(lf:Nat)(a0:SV)(h:HW):Rs:=q62_5 C lf ff62 (some a0) h
theorem fs62_eq(C:YC)(lf:Nat)(a0:SV)(h:HW):yFn Tryz.prog fx62 C lf [a0] h=fs62 C lf a0 h:=fnX (K:=(fun F h=>ff62 (F 2) h)) (by kernel_rfl) (((q62_5_eq C lf ff62 (fun F h=>ff62 (F 2) h) (fun _ _ _=>none)) _ h).trans (by kernel_rfl))
noncomputable def fy62:YX Tryz.prog:=Y1 fx62 fs62 fs62_eq (by kernel_rfl)
noncomputable def fx63:XF Tryz.prog:=⟨63,Tryz.f63,fun _=> .text,Tryz.func63,by kernel_rfl,by kernel_rfl,by kernel_rfl,by kernel_rfl⟩
noncomputable def ff63(x4:O)(h:HW):Rs:=
 ob x4 fun a0=>
 some (.ret a0,h)
noncomputable def q63_1(C:YC)(lf:Nat)(r:K1)(h:HW):Rs:=
 r (some (.int .i64 (-1))) h
theorem q63_1_eq(C:YC)(lf:Nat)(r:K1)(KN:KF)(KE:KX): ∀ F h,evX fx63 C lf [1,1] F h KN (fun F h=>r (F 4) h) KE=q63_1 C lf r h:=by
 intro F h;kernel_rfl
noncomputable def q63_28(C:YC)(lf:Nat)(n:K3)(r:K1)(e0:K0)(x0 x1 x6:O)(h:HW):Rs:=
 ob x6 fun a3=>
 ob (bin Tryz.prog .lss 3 a3 (.int .i64 16)) fun y4=>
 yIf y4
 (ob x6 fun a5=>
 ob x0 fun a6=>
 ob (semNil a6) fun y7=>
 ob (fa 6 y7) fun y8=>
 ob (ixA 16 1 y8 a5) fun y9=>
 ob (ld1 y9 h) fun y10=>
 ob (bin Tryz.prog .eql 68 y10 (.val (.pointer none))) fun y11=>
 yIf y11
 (ob x0 fun a12=>
 ob x1 fun a13=>
 ob (semNil a12) fun y14=>
 ob (fa 6 y14) fun y15=>
 ob (ixA 16 1 y15 a5) fun y16=>
 ob (st 1 y16 a13 h) fun h17=>
 ob x1 fun a18=>
 ob (semNil a18) fun y19=>
 ob (fa 2 y19) fun y20=>
 ob (ld1 y20 h17) fun y21=>
 ob (bin Tryz.prog .add 3 y21 (.int .i64 1)) fun y22=>
 ob (semNil a18) fun y23=>
 ob (fa 2 y23) fun y24=>
 ob (st 1 y24 y22 h17) fun h25=>
 r (some a5) h25)
 (ob x6 fun a26=>
 ob (bin Tryz.prog .add 3 a26 (.int .i64 1)) fun y27=>
 n x0 x1 (some y27) h))
 (e0 h)
theorem q63_28_eq(C:YC)(lf:Nat)(n:K3)(r:K1)(e0:K0)(KE:KX): ∀ F h,evX fx63 C lf [1,0,1,0,0] F h (fun F h=>n (F 0) (F 1) (F 6) h) (fun F h=>r (F 4) h) (bk 0 (fun F h=>e0 h) KE)=q63_28 C lf n r e0 (F 0) (F 1) (F 6) h:=by
 intro F h;kernel_rfl
noncomputable def l63_2(C:YC)(lf:Nat)(r:K1)(e0:K0)(k:O × O × O→HW→Rs)(s:O × O × O)(h:HW):Rs:=
 q63_28 C lf (fun x0 x1 x6 h=>k (x0,x1,x6) h) r e0 s.1 s.2.1 s.2.2 h
noncomputable def q63_29(C:YC)(lf:Nat)(n:K3)(x0 x1:O)(h:HW):Rs:=
 n x0 x1 (some (.int .i64 0)) h
theorem q63_29_eq(C:YC)(lf:Nat)(n:K3)(KR:KF)(KE:KX): ∀ F h,evX fx63 C lf [1,0,0] F h (fun F h=>n (F 0) (F 1) (F 6) h) KR KE=q63_29 C lf n (F 0) (F 1) h:=by
 intro F h;kernel_rfl
noncomputable def q63_30(C:YC)(lf:Nat)(n:K0)(r:K1)(x0 x1:O)(h:HW):Rs:=
 q63_29 C lf (fun x0 x1 x6 h=>lp (l63_2 C lf r n) lf (x0,x1,x6) h) x0 x1 h
theorem q63_30_eq(C:YC)(lf:Nat)(n:K0)(r:K1)(KE:KX): ∀ F h,evX fx63 C lf [1,0] F h (fun F h=>n h) (fun F h=>r (F 4) h) KE=q63_30 C lf n r (F 0) (F 1) h:=cSeq (a:=subX fx63 [1,0,0]) (b:=subX fx63 [1,0,1]) (by kernel_rfl) (B:=(fun F h=>lp (l63_2 C lf r n) lf ((F 0),(F 1),(F 6)) h)) (cBlock (id:=0) (a:=subX fx63 [1,0,1,0]) (by kernel_rfl) (cLoop (a:=subX fx63 [1,0,1,0,0]) (g:=fun F=>(F 0,F 1,F 6)) (body:=l63_2 C lf r n) (by kernel_rfl) (fun k=>(q63_28_eq C lf (fun x0 x1 x6 h=>k (x0,x1,x6) h) r n KE)))) (q63_29_eq C lf (fun x0 x1 x6 h=>lp (l63_2 C lf r n) lf (x0,x1,x6) h) (fun F h=>r (F 4) h) KE)
noncomputable def q63_31(C:YC)(lf:Nat)(r:K1)(x0 x1:O)(h:HW):Rs:=
 q63_30 C lf (fun h=>q63_1 C lf r h) r x0 x1 h
theorem q63_31_eq(C:YC)(lf:Nat)(r:K1)(KN:KF)(KE:KX): ∀ F h,evX fx63 C lf [1] F h KN (fun F h=>r (F 4) h) KE=q63_31 C lf r (F 0) (F 1) h:=cSeq (a:=subX fx63 [1,0]) (b:=subX fx63 [1,1]) (by kernel_rfl) (B:=(fun F h=>q63_1 C lf r h)) (q63_1_eq C lf r KN KE) (q63_30_eq C lf (fun h=>q63_1 C lf r h) r KE)
noncomputable def q63_32(C:YC)(lf:Nat)(n:K2)(x0 x1:O)(h:HW):Rs:=
 n x0 x1 h
theorem q63_32_eq(C:YC)(lf:Nat)(n:K2)(KR:KF)(KE:KX): ∀ F h,evX fx63 C lf [0] F h (fun F h=>n (F 0) (F 1) h) KR KE=q63_32 C lf n (F 0) (F 1) h:=by
 intro F h;kernel_rfl
noncomputable def q63_33(C:YC)(lf:Nat)(r:K1)(x0 x1:O)(h:HW):Rs:=
 q63_32 C lf (fun x0 x1 h=>q63_31 C lf r x0 x1 h) x0 x1 h
theorem q63_33_eq(C:YC)(lf:Nat)(r:K1)(KN:KF)(KE:KX): ∀ F h,evX fx63 C lf [] F h KN (fun F h=>r (F 4) h) KE=q63_33 C lf r (F 0) (F 1) h:=cSeq (a:=subX fx63 [0]) (b:=subX fx63 [1]) (by kernel_rfl) (B:=(fun F h=>q63_31 C lf r (F 0) (F 1) h)) (q63_31_eq C lf r KN KE) (q63_32_eq C lf (fun x0 x1 h=>q63_31 C lf r x0 x1 h) (fun F h=>r (F 4) h) KE)
noncomputable def fs63(C:YC)(lf:Nat)(a0 a1:SV)(h:HW):Rs:=q63_33 C lf ff63 (some a0) (some a1) h
theorem fs63_eq(C:YC)(lf:Nat)(a0 a1:SV)(h:HW):yFn Tryz.prog fx63 C lf [a0,a1] h=fs63 C lf a0 a1 h:=fnX (K:=(fun F h=>ff63 (F 4) h)) (by kernel_rfl) (((q63_33_eq C lf ff63 (fun F h=>ff63 (F 4) h) (fun _ _ _=>none)) _ h).trans (by kernel_rfl))
noncomputable def fy63:YX Tryz.prog:=Y2 fx63 fs63 fs63_eq (by kernel_rfl)
noncomputable def fx64:XF Tryz.prog:=⟨64,Tryz.f64,fun _=> .text,Tryz.func64,by kernel_rfl,by kernel_rfl,by kernel_rfl,by kernel_rfl⟩
noncomputable def ff64(x2 x3:O)(h:HW):Rs:=
 ob x2 fun a0=>
 ob x3 fun a1=>
 some (.ret (.tup [a0,a1]),h)
noncomputable def q64_14(C:YC)(lf:Nat)(r:K2)(x0:O)(h:HW):Rs:=
 ob x0 fun a2=>
 ob (bin Tryz.prog .lss 3 a2 (.int .i64 1)) fun y3=>
 bc (gd false (some y3) (ob x0 fun a4=>
 some (.ret a4,h)) h) fun y5 h5=>
 bc (gd false (some y3) (ob (bin Tryz.prog .gtr 3 y5 (.int .i64 4096)) fun y6=>
 some (.ret y6,h5)) h5) fun y7 h7=>
 ob (ypk y3 (.bool true) y7) fun y8=>
 yIf y8
 (r (some (.val (.pointer none))) (some (.int .i64 22)) h7)
 (ob x0 fun a9=>
 ob x0 fun a10=>
 b2 (ymk Tryz.prog 207 a10 a10 h7) fun y11 h11=>
 ob (semBuild Tryz.prog 211 [0,2] [a9,y11]) fun y12=>
 b2 (ybx 211 y12 h11) fun y13 h13=>
 r (some y13) (some (.int .i64 0)) h13)
theorem q64_14_eq(C:YC)(lf:Nat)(r:K2)(KN:KF)(KE:KX): ∀ F h,evX fx64 C lf [] F h KN (fun F h=>r (F 2) (F 3) h) KE=q64_14 C lf r (F 0) h:=by
 intro F h;kernel_rfl
noncomputable def fs64(C:YC)(lf:Nat)(a0:SV)(h:HW):Rs:=q64_14 C lf ff64 (some a0) h
theorem fs64_eq(C:YC)(lf:Nat)(a0:SV)(h:HW):yFn Tryz.prog fx64 C lf [a0] h=fs64 C lf a0 h:=fnX (K:=(fun F h=>ff64 (F 2) (F 3) h)) (by kernel_rfl) (((q64_14_eq C lf ff64 (fun F h=>ff64 (F 2) (F 3) h) (fun _ _ _=>none)) _ h).trans (by kernel_rfl))
noncomputable def fy64:YX Tryz.prog:=Y1 fx64 fs64 fs64_eq (by kernel_rfl)
noncomputable def fx65:XF Tryz.prog:=⟨65,Tryz.f65,fun _=> .text,Tryz.func65,by kernel_rfl,by kernel_rfl,by kernel_rfl,by kernel_rfl⟩
noncomputable def ff65(x2:O)(h:HW):Rs:=
 ob x2 fun a0=>
 some (.ret a0,h)
noncomputable def q65_14(C:YC)(lf:Nat)(r:K1)(x0:O)(h:HW):Rs:=
 ob x0 fun a1=>
 ob (bin Tryz.prog .neq 82 a1 (.val (.pointer none))) fun y2=>
 bc (gd true (some y2) (ob x0 fun a3=>
 some (.ret a3,h)) h) fun y4 h4=>
 bc (gd true (some y2) (ob (semNil y4) fun y5=>
 some (.ret y5,h4)) h4) fun y6 h6=>
 bc (gd true (some y2) (ob (fa 0 y6) fun y7=>
 some (.ret y7,h6)) h6) fun y8 h8=>
 bc (gd true (some y2) (ob (ld1 y8 h8) fun y9=>
 some (.ret y9,h8)) h8) fun y10 h10=>
 bc (gd true (some y2) (ob (bin Tryz.prog .neq 124 y10 (.val (.pointer none))) fun y11=>
 some (.ret y11,h10)) h10) fun y12 h12=>
 ob (ypk y2 y12 (.bool false)) fun y13=>
 r (some y13) h12
theorem q65_14_eq(C:YC)(lf:Nat)(r:K1)(KN:KF)(KE:KX): ∀ F h,evX fx65 C lf [] F h KN (fun F h=>r (F 2) h) KE=q65_14 C lf r (F 0) h:=by
 intro F h;kernel_rfl
noncomputable def fs65(C:YC)(lf:Nat)(a0:SV)(h:HW):Rs:=q65_14 C lf ff65 (some a0) h
theorem fs65_eq(C:YC)(lf:Nat)(a0:SV)(h:HW):yFn Tryz.prog fx65 C lf [a0] h=fs65 C lf a0 h:=fnX (K:=(fun F h=>ff65 (F 2) h)) (by kernel_rfl) (((q65_14_eq C lf ff65 (fun F h=>ff65 (F 2) h) (fun _ _ _=>none)) _ h).trans (by kernel_rfl))
noncomputable def fy65:YX Tryz.prog:=Y1 fx65 fs65 fs65_eq (by kernel_rfl)
noncomputable def fx66:XF Tryz.prog:=⟨66,Tryz.f66,fun _=> .text,Tryz.func66,by kernel_rfl,by kernel_rfl,by kernel_rfl,by kernel_rfl⟩
noncomputable def ff66(x4:O)(h:HW):Rs:=
 ob x4 fun a0=>
 some (.ret a0,h)
noncomputable def q66_13(C:YC)(lf:Nat)(r:K1)(x0 x1:O)(h:HW):Rs:=
 ob x0 fun a1=>
 ob x1 fun a2=>
 bc (C (.fn 57) [a1,a2] h) fun y3 h3=>
 ob (ext 0 y3) fun y4=>
 ob (ext 1 y3) fun y5=>
 b2 (yAl Tryz.prog 63 h3) fun y6 h6=>
 ob (st 10 y6 y4 h6) fun h7=>
 ob (bin Tryz.prog .neq 25 y5 (.int .i64 0)) fun y8=>
 yIf y8
 (r (some y5) h7)
 (ob (fa 6 y6) fun y9=>
 ob (ld1 y9 h7) fun y10=>
 ob (bin Tryz.prog .and 34 y10 (.int .i64 61440)) fun y11=>
 ob (bin Tryz.prog .neq 34 y11 (.int .i64 16384)) fun y12=>
 yIf y12
 (r (some (.int .i64 20)) h7)
 (r (some (.int .i64 0)) h7))
theorem q66_13_eq(C:YC)(lf:Nat)(r:K1)(KN:KF)(KE:KX): ∀ F h,evX fx66 C lf [] F h KN (fun F h=>r (F 4) h) KE=q66_13 C lf r (F 0) (F 1) h:=by
 intro F h;kernel_rfl
noncomputable def fs66(C:YC)(lf:Nat)(a0 a1:SV)(h:HW):Rs:=q66_13 C lf ff66 (some a0) (some a1) h
theorem fs66_eq(C:YC)(lf:Nat)(a0 a1:SV)(h:HW):yFn Tryz.prog fx66 C lf [a0,a1] h=fs66 C lf a0 a1 h:=fnX (K:=(fun F h=>ff66 (F 4) h)) (by kernel_rfl) (((q66_13_eq C lf ff66 (fun F h=>ff66 (F 4) h) (fun _ _ _=>none)) _ h).trans (by kernel_rfl))
noncomputable def fy66:YX Tryz.prog:=Y2 fx66 fs66 fs66_eq (by kernel_rfl)
noncomputable def fx67:XF Tryz.prog:=⟨67,Tryz.f67,fun _=> .text,Tryz.func67,by kernel_rfl,by kernel_rfl,by kernel_rfl,by kernel_rfl⟩
noncomputable def ff67(x4:O)(h:HW):Rs:=
 ob x4 fun a0=>
 some (.ret a0,h)
noncomputable def q67_42(C:YC)(lf:Nat)(r:K1)(x0 x1:O)(h:HW):Rs:=
 ob x0 fun a1=>
 bc (C (.fn 65) [a1] h) fun y2 h2=>
 bc (gd true (some y2) (ob x1 fun a3=>
 some (.ret a3,h2)) h2) fun y4 h4=>
 bc (gd true (some y2) (ob (bin Tryz.prog .geq 3 y4 (.int .i64 1)) fun y5=>
 some (.ret y5,h4)) h4) fun y6 h6=>
 ob (ypk y2 y6 (.bool false)) fun y7=>
 bc (gd true (some y7) (ob x1 fun a8=>
 some (.ret a8,h6)) h6) fun y9 h9=>
 bc (gd true (some y7) (ob x0 fun a10=>
 some (.ret a10,h9)) h9) fun y11 h11=>
 bc (gd true (some y7) (ob (semNil y11) fun y12=>
 some (.ret y12,h11)) h11) fun y13 h13=>
 bc (gd true (some y7) (ob (fa 1 y13) fun y14=>
 some (.ret y14,h13)) h13) fun y15 h15=>
 bc (gd true (some y7) (ob (ld1 y15 h15) fun y16=>
 some (.ret y16,h15)) h15) fun y17 h17=>
 bc (gd true (some y7) (ob (lenE Tryz.prog 127 y17) fun y18=>
 some (.ret y18,h17)) h17) fun y19 h19=>
 bc (gd true (some y7) (ob (bin Tryz.prog .leq 3 y9 y19) fun y20=>
 some (.ret y20,h19)) h19) fun y21 h21=>
 ob (ypk y7 y21 (.bool false)) fun y22=>
 bc (gd true (some y22) (ob x0 fun a23=>
 some (.ret a23,h21)) h21) fun y24 h24=>
 bc (gd true (some y22) (ob (semNil y24) fun y25=>
 some (.ret y25,h24)) h24) fun y26 h26=>
 bc (gd true (some y22) (ob (fa 1 y26) fun y27=>
 some (.ret y27,h26)) h26) fun y28 h28=>
 bc (gd true (some y22) (ob (ld1 y28 h28) fun y29=>
 some (.ret y29,h28)) h28) fun y30 h30=>
 bc (gd true (some y22) (ob x1 fun a31=>
 some (.ret a31,h30)) h30) fun y32 h32=>
 bc (gd true (some y22) (ob (bin Tryz.prog .sub 3 y32 (.int .i64 1)) fun y33=>
 some (.ret y33,h32)) h32) fun y34 h34=>
 bc (gd true (some y22) (ob (ixS 308 y30 y34) fun y35=>
 some (.ret y35,h34)) h34) fun y36 h36=>
 bc (gd true (some y22) (ob (fa 0 y36) fun y37=>
 some (.ret y37,h36)) h36) fun y38 h38=>
 bc (gd true (some y22) (ob (ld1 y38 h38) fun y39=>
 some (.ret y39,h38)) h38) fun y40 h40=>
 ob (ypk y22 y40 (.bool false)) fun y41=>
 r (some y41) h40
theorem q67_42_eq(C:YC)(lf:Nat)(r:K1)(KN:KF)(KE:KX): ∀ F h,evX fx67 C lf [] F h KN (fun F h=>r (F 4) h) KE=q67_42 C lf r (F 0) (F 1) h:=by
 intro F h;kernel_rfl
noncomputable def fs67(C:YC)(lf:Nat)(a0 a1:SV)(h:HW):Rs:=q67_42 C lf ff67 (some a0) (some a1) h
theorem fs67_eq(C:YC)(lf:Nat)(a0 a1:SV)(h:HW):yFn Tryz.prog fx67 C lf [a0,a1] h=fs67 C lf a0 a1 h:=fnX (K:=(fun F h=>ff67 (F 4) h)) (by kernel_rfl) (((q67_42_eq C lf ff67 (fun F h=>ff67 (F 4) h) (fun _ _ _=>none)) _ h).trans (by kernel_rfl))
noncomputable def fy67:YX Tryz.prog:=Y2 fx67 fs67 fs67_eq (by kernel_rfl)
noncomputable def fx68:XF Tryz.prog:=⟨68,Tryz.f68,fun _=> .text,Tryz.func68,by kernel_rfl,by kernel_rfl,by kernel_rfl,by kernel_rfl⟩
noncomputable def ff68(x4:O)(h:HW):Rs:=
 ob x4 fun a0=>
 ob (ldN 32 a0 h) fun y1=>
 some (.ret y1,h)
noncomputable def q68_10(C:YC)(lf:Nat)(r:K1)(x0 x4 x5:O)(h:HW):Rs:=
 ob x5 fun a2=>
 ob (semSlice Tryz.prog 140 a2 (some (.int .i64 4)) none) fun y3=>
 ob x0 fun a4=>
 b2 (ybl Tryz.prog .copy #[35,9] [y3,a4] h) fun y5 h5=>
 ob x5 fun a6=>
 ob (ldN 32 a6 h5) fun y7=>
 ob x4 fun a8=>
 ob (st 32 a8 y7 h5) fun h9=>
 r x4 h9
theorem q68_10_eq(C:YC)(lf:Nat)(r:K1)(KN:KF)(KE:KX): ∀ F h,evX fx68 C lf [1,1,1] F h KN (fun F h=>r (F 4) h) KE=q68_10 C lf r (F 0) (F 4) (F 5) h:=by
 intro F h;kernel_rfl
noncomputable def q68_24(C:YC)(lf:Nat)(n:K5)(e0:K3)(x0 x1 x4 x5 x7:O)(h:HW):Rs:=
 ob x7 fun a12=>
 ob (bin Tryz.prog .lss 3 a12 (.int .i64 4)) fun y13=>
 yIf y13
 (ob x7 fun a14=>
 ob x1 fun a15=>
 ob (bin Tryz.prog .mul 3 (.int .i64 8) a14) fun y16=>
 ob (bin Tryz.prog .shr 3 a15 y16) fun y17=>
 ob (cvI .u8 y17) fun y18=>
 ob x5 fun a19=>
 ob (ixA 32 1 a19 a14) fun y20=>
 ob (st 1 y20 y18 h) fun h21=>
 ob x7 fun a22=>
 ob (bin Tryz.prog .add 3 a22 (.int .i64 1)) fun y23=>
 n x0 x1 x4 x5 (some y23) h21)
 (e0 x0 x4 x5 h)
theorem q68_24_eq(C:YC)(lf:Nat)(n:K5)(e0:K3)(KR:KF)(KE:KX): ∀ F h,evX fx68 C lf [1,1,0,1,0,0] F h (fun F h=>n (F 0) (F 1) (F 4) (F 5) (F 7) h) KR (bk 0 (fun F h=>e0 (F 0) (F 4) (F 5) h) KE)=q68_24 C lf n e0 (F 0) (F 1) (F 4) (F 5) (F 7) h:=by
 intro F h;kernel_rfl
noncomputable def l68_11(C:YC)(lf:Nat)(e0:K3)(k:O × O × O × O × O→HW→Rs)(s:O × O × O × O × O)(h:HW):Rs:=
 q68_24 C lf (fun x0 x1 x4 x5 x7 h=>k (x0,x1,x4,x5,x7) h) e0 s.1 s.2.1 s.2.2.1 s.2.2.2.1 s.2.2.2.2 h
noncomputable def q68_25(C:YC)(lf:Nat)(n:K5)(x0 x1 x4 x5:O)(h:HW):Rs:=
 n x0 x1 x4 x5 (some (.int .i64 0)) h
theorem q68_25_eq(C:YC)(lf:Nat)(n:K5)(KR:KF)(KE:KX): ∀ F h,evX fx68 C lf [1,1,0,0] F h (fun F h=>n (F 0) (F 1) (F 4) (F 5) (F 7) h) KR KE=q68_25 C lf n (F 0) (F 1) (F 4) (F 5) h:=by
 intro F h;kernel_rfl
noncomputable def q68_26(C:YC)(lf:Nat)(n:K3)(x0 x1 x4 x5:O)(h:HW):Rs:=
 q68_25 C lf (fun x0 x1 x4 x5 x7 h=>lp (l68_11 C lf n) lf (x0,x1,x4,x5,x7) h) x0 x1 x4 x5 h
theorem q68_26_eq(C:YC)(lf:Nat)(n:K3)(KR:KF)(KE:KX): ∀ F h,evX fx68 C lf [1,1,0] F h (fun F h=>n (F 0) (F 4) (F 5) h) KR KE=q68_26 C lf n (F 0) (F 1) (F 4) (F 5) h:=cSeq (a:=subX fx68 [1,1,0,0]) (b:=subX fx68 [1,1,0,1]) (by kernel_rfl) (B:=(fun F h=>lp (l68_11 C lf n) lf ((F 0),(F 1),(F 4),(F 5),(F 7)) h)) (cBlock (id:=0) (a:=subX fx68 [1,1,0,1,0]) (by kernel_rfl) (cLoop (a:=subX fx68 [1,1,0,1,0,0]) (g:=fun F=>(F 0,F 1,F 4,F 5,F 7)) (body:=l68_11 C lf n) (by kernel_rfl) (fun k=>(q68_24_eq C lf (fun x0 x1 x4 x5 x7 h=>k (x0,x1,x4,x5,x7) h) n KR KE)))) (q68_25_eq C lf (fun x0 x1 x4 x5 x7 h=>lp (l68_11 C lf n) lf (x0,x1,x4,x5,x7) h) KR KE)
noncomputable def q68_27(C:YC)(lf:Nat)(r:K1)(x0 x1 x4 x5:O)(h:HW):Rs:=
 q68_26 C lf (fun x0 x4 x5 h=>q68_10 C lf r x0 x4 x5 h) x0 x1 x4 x5 h
theorem q68_27_eq(C:YC)(lf:Nat)(r:K1)(KN:KF)(KE:KX): ∀ F h,evX fx68 C lf [1,1] F h KN (fun F h=>r (F 4) h) KE=q68_27 C lf r (F 0) (F 1) (F 4) (F 5) h:=cSeq (a:=subX fx68 [1,1,0]) (b:=subX fx68 [1,1,1]) (by kernel_rfl) (B:=(fun F h=>q68_10 C lf r (F 0) (F 4) (F 5) h)) (q68_10_eq C lf r KN KE) (q68_26_eq C lf (fun x0 x4 x5 h=>q68_10 C lf r x0 x4 x5 h) (fun F h=>r (F 4) h) KE)
noncomputable def q68_29(C:YC)(lf:Nat)(n:K4)(x0 x1 x4:O)(h:HW):Rs:=
 b2 (yAl Tryz.prog 140 h) fun y28 h28=>
 n x0 x1 x4 (some y28) h28
theorem q68_29_eq(C:YC)(lf:Nat)(n:K4)(KR:KF)(KE:KX): ∀ F h,evX fx68 C lf [1,0] F h (fun F h=>n (F 0) (F 1) (F 4) (F 5) h) KR KE=q68_29 C lf n (F 0) (F 1) (F 4) h:=by
 intro F h;kernel_rfl
noncomputable def q68_30(C:YC)(lf:Nat)(r:K1)(x0 x1 x4:O)(h:HW):Rs:=
 q68_29 C lf (fun x0 x1 x4 x5 h=>q68_27 C lf r x0 x1 x4 x5 h) x0 x1 x4 h
theorem q68_30_eq(C:YC)(lf:Nat)(r:K1)(KN:KF)(KE:KX): ∀ F h,evX fx68 C lf [1] F h KN (fun F h=>r (F 4) h) KE=q68_30 C lf r (F 0) (F 1) (F 4) h:=cSeq (a:=subX fx68 [1,0]) (b:=subX fx68 [1,1]) (by kernel_rfl) (B:=(fun F h=>q68_27 C lf r (F 0) (F 1) (F 4) (F 5) h)) (q68_27_eq C lf r KN KE) (q68_29_eq C lf (fun x0 x1 x4 x5 h=>q68_27 C lf r x0 x1 x4 x5 h) (fun F h=>r (F 4) h) KE)
noncomputable def q68_32(C:YC)(lf:Nat)(n:K3)(x0 x1:O)(h:HW):Rs:=
 b2 (yAl Tryz.prog 140 h) fun y31 h31=>
 n x0 x1 (some y31) h31
theorem q68_32_eq(C:YC)(lf:Nat)(n:K3)(KR:KF)(KE:KX): ∀ F h,evX fx68 C lf [0] F h (fun F h=>n (F 0) (F 1) (F 4) h) KR KE=q68_32 C lf n (F 0) (F 1) h:=by
 intro F h;kernel_rfl
noncomputable def q68_33(C:YC)(lf:Nat)(r:K1)(x0 x1:O)(h:HW):Rs:=
 q68_32 C lf (fun x0 x1 x4 h=>q68_30 C lf r x0 x1 x4 h) x0 x1 h
theorem q68_33_eq(C:YC)(lf:Nat)(r:K1)(KN:KF)(KE:KX): ∀ F h,evX fx68 C lf [] F h KN (fun F h=>r (F 4) h) KE=q68_33 C lf r (F 0) (F 1) h:=cSeq (a:=subX fx68 [0]) (b:=subX fx68 [1]) (by kernel_rfl) (B:=(fun F h=>q68_30 C lf r (F 0) (F 1) (F 4) h)) (q68_30_eq C lf r KN KE) (q68_32_eq C lf (fun x0 x1 x4 h=>q68_30 C lf r x0 x1 x4 h) (fun F h=>r (F 4) h) KE)
noncomputable def fs68(C:YC)(lf:Nat)(a0 a1:SV)(h:HW):Rs:=q68_33 C lf ff68 (some a0) (some a1) h
theorem fs68_eq(C:YC)(lf:Nat)(a0 a1:SV)(h:HW):yFn Tryz.prog fx68 C lf [a0,a1] h=fs68 C lf a0 a1 h:=fnX (K:=(fun F h=>ff68 (F 4) h)) (by kernel_rfl) (((q68_33_eq C lf ff68 (fun F h=>ff68 (F 4) h) (fun _ _ _=>none)) _ h).trans (by kernel_rfl))
noncomputable def fy68:YX Tryz.prog:=Y2 fx68 fs68 fs68_eq (by kernel_rfl)
noncomputable def fx69:XF Tryz.prog:=⟨69,Tryz.f69,fun r=>bif Nat.beq r 16 then .ord [0,1,2,4,5,10,11,12,13,14,15,16,3,6,7,8,9,17] [(6,[3])] else .text,Tryz.func69,by kernel_rfl,by kernel_rfl,by kernel_rfl,by kernel_rfl⟩
noncomputable def ff69(x8 x9:O)(h:HW):Rs:=
 ob x8 fun a0=>
 ob x9 fun a1=>
 some (.ret (.tup [a0,a1]),h)
noncomputable def q69_22(C:YC)(lf:Nat)(r:K2)(x0 x2 x10 x12:O)(h:HW):Rs:=
 ob x12 fun a2=>
 ob (bin Tryz.prog .eql 3 a2 (.int .i64 0)) fun y3=>
 yIf y3
 (r (some (.int .i64 0)) (some (.int .i64 28)) h)
 (ob x10 fun a4=>
 ob x10 fun a5=>
 ob (semNil a5) fun y6=>
 ob (fa 1 y6) fun y7=>
 ob (fa 4 y7) fun y8=>
 ob (ld1 y8 h) fun y9=>
 ob x2 fun a10=>
 ob x12 fun a11=>
 ob (bin Tryz.prog .add 3 a10 a11) fun y12=>
 b2 (ybl Tryz.prog .max #[3,3] [y9,y12] h) fun y13 h13=>
 ob (semNil a4) fun y14=>
 ob (fa 1 y14) fun y15=>
 ob (fa 4 y15) fun y16=>
 ob (st 1 y16 y13 h13) fun h17=>
 ob x0 fun a18=>
 ob x10 fun a19=>
 bc (C (.fn 139) [a18,a19] h17) fun y20 h20=>
 ob x12 fun a21=>
 r (some a21) (some (.int .i64 0)) h20)
theorem q69_22_eq(C:YC)(lf:Nat)(r:K2)(KN:KF)(KE:KX): ∀ F h,evX fx69 C lf [1,1,1,1,1,1,1] F h KN (fun F h=>r (F 8) (F 9) h) KE=q69_22 C lf r (F 0) (F 2) (F 10) (F 12) h:=by
 intro F h;kernel_rfl
noncomputable def q69_63(C:YC)(lf:Nat)(n:K5)(e1:K4)(x0 x2 x3 x10 x12:O)(h:HW):Rs:=
 ob x12 fun a24=>
 ob x3 fun a25=>
 ob (lenE Tryz.prog 35 a25) fun y26=>
 ob (bin Tryz.prog .lss 3 a24 y26) fun y27=>
 yIf y27
 (ob x2 fun a28=>
 ob x12 fun a29=>
 ob (bin Tryz.prog .add 3 a28 a29) fun y30=>
 ob (bin Tryz.prog .quo 3 y30 (.int .i64 64)) fun y31=>
 ob x2 fun a32=>
 ob x12 fun a33=>
 ob (bin Tryz.prog .add 3 a32 a33) fun y34=>
 ob (bin Tryz.prog .rem 3 y34 (.int .i64 64)) fun y35=>
 ob x0 fun a36=>
 ob x10 fun a37=>
 bc (C (.fn 136) [a36,a37,y31] h) fun y38 h38=>
 ob (unE .not y38) fun y39=>
 yIf y39
 (e1 x0 x2 x10 x12 h38)
 (ob (bin Tryz.prog .sub 3 (.int .i64 64) y35) fun y40=>
 ob x3 fun a41=>
 ob (lenE Tryz.prog 35 a41) fun y42=>
 ob x12 fun a43=>
 ob (bin Tryz.prog .sub 3 y42 a43) fun y44=>
 b2 (ybl Tryz.prog .min #[3,3] [y40,y44] h38) fun y45 h45=>
 ob x0 fun a46=>
 ob (semNil a46) fun y47=>
 ob (fa 0 y47) fun y48=>
 ob x10 fun a49=>
 ob x3 fun a50=>
 ob x12 fun a51=>
 ob x12 fun a52=>
 ob (bin Tryz.prog .add 3 a52 y45) fun y53=>
 ob (semSlice Tryz.prog 35 a50 (some a51) (some y53)) fun y54=>
 ob (ld1 y48 h45) fun y55=>
 bcn (C (.fn 138) [a49,y31] h45) fun y56 h56=>
 ck (chkH [(3,adrO (some y48))] h45 h56 [3]) <|
 ob (semNil y56) fun y57=>
 ob (ld1 y57 h56) fun y58=>
 ob (bin Tryz.prog .sub 3 y58 (.int .i64 1)) fun y59=>
 bcn (C (.fn 137) [y55,y59,y35,y54] h56) fun y60 h60=>
 ob x12 fun a61=>
 ob (bin Tryz.prog .add 3 a61 y45) fun y62=>
 n x0 x2 x3 x10 (some y62) h60))
 (e1 x0 x2 x10 x12 h)
theorem q69_63_eq(C:YC)(lf:Nat)(n:K5)(e1:K4)(KR:KF)(KE:KX): ∀ F h,evX fx69 C lf [1,1,1,1,1,1,0,0,0] F h (fun F h=>n (F 0) (F 2) (F 3) (F 10) (F 12) h) KR (bk 1 (fun F h=>e1 (F 0) (F 2) (F 10) (F 12) h) KE)=q69_63 C lf n e1 (F 0) (F 2) (F 3) (F 10) (F 12) h:=by
 intro F h;kernel_rfl
noncomputable def l69_23(C:YC)(lf:Nat)(e1:K4)(k:O × O × O × O × O→HW→Rs)(s:O × O × O × O × O)(h:HW):Rs:=
 q69_63 C lf (fun x0 x2 x3 x10 x12 h=>k (x0,x2,x3,x10,x12) h) e1 s.1 s.2.1 s.2.2.1 s.2.2.2.1 s.2.2.2.2 h
noncomputable def q69_64(C:YC)(lf:Nat)(r:K2)(x0 x2 x3 x10 x12:O)(h:HW):Rs:=
 lp (l69_23 C lf (fun x0 x2 x10 x12 h=>q69_22 C lf r x0 x2 x10 x12 h)) lf (x0,x2,x3,x10,x12) h
theorem q69_64_eq(C:YC)(lf:Nat)(r:K2)(KN:KF)(KE:KX): ∀ F h,evX fx69 C lf [1,1,1,1,1,1] F h KN (fun F h=>r (F 8) (F 9) h) KE=q69_64 C lf r (F 0) (F 2) (F 3) (F 10) (F 12) h:=cSeq (a:=subX fx69 [1,1,1,1,1,1,0]) (b:=subX fx69 [1,1,1,1,1,1,1]) (by kernel_rfl) (B:=(fun F h=>q69_22 C lf r (F 0) (F 2) (F 10) (F 12) h)) (q69_22_eq C lf r KN KE) (cBlock (id:=1) (a:=subX fx69 [1,1,1,1,1,1,0,0]) (by kernel_rfl) (cLoop (a:=subX fx69 [1,1,1,1,1,1,0,0,0]) (g:=fun F=>(F 0,F 2,F 3,F 10,F 12)) (body:=l69_23 C lf (fun x0 x2 x10 x12 h=>q69_22 C lf r x0 x2 x10 x12 h)) (by kernel_rfl) (fun k=>(q69_63_eq C lf (fun x0 x2 x3 x10 x12 h=>k (x0,x2,x3,x10,x12) h) (fun x0 x2 x10 x12 h=>q69_22 C lf r x0 x2 x10 x12 h) (fun F h=>r (F 8) (F 9) h) KE))))
noncomputable def q69_65(C:YC)(lf:Nat)(n:K5)(x0 x2 x3 x10:O)(h:HW):Rs:=
 n x0 x2 x3 x10 (some (.int .i64 0)) h
theorem q69_65_eq(C:YC)(lf:Nat)(n:K5)(KR:KF)(KE:KX): ∀ F h,evX fx69 C lf [1,1,1,1,1,0] F h (fun F h=>n (F 0) (F 2) (F 3) (F 10) (F 12) h) KR KE=q69_65 C lf n (F 0) (F 2) (F 3) (F 10) h:=by
 intro F h;kernel_rfl
noncomputable def q69_66(C:YC)(lf:Nat)(r:K2)(x0 x2 x3 x10:O)(h:HW):Rs:=
 q69_65 C lf (fun x0 x2 x3 x10 x12 h=>q69_64 C lf r x0 x2 x3 x10 x12 h) x0 x2 x3 x10 h
theorem q69_66_eq(C:YC)(lf:Nat)(r:K2)(KN:KF)(KE:KX): ∀ F h,evX fx69 C lf [1,1,1,1,1] F h KN (fun F h=>r (F 8) (F 9) h) KE=q69_66 C lf r (F 0) (F 2) (F 3) (F 10) h:=cSeq (a:=subX fx69 [1,1,1,1,1,0]) (b:=subX fx69 [1,1,1,1,1,1]) (by kernel_rfl) (B:=(fun F h=>q69_64 C lf r (F 0) (F 2) (F 3) (F 10) (F 12) h)) (q69_64_eq C lf r KN KE) (q69_65_eq C lf (fun x0 x2 x3 x10 x12 h=>q69_64 C lf r x0 x2 x3 x10 x12 h) (fun F h=>r (F 8) (F 9) h) KE)
noncomputable def q69_74(C:YC)(lf:Nat)(n:K4)(x0 x2 x3 x10:O)(h:HW):Rs:=
 ob x3 fun a67=>
 ob x3 fun a68=>
 ob (lenE Tryz.prog 35 a68) fun y69=>
 ob x2 fun a70=>
 ob (bin Tryz.prog .sub 3 (.int .i64 17792) a70) fun y71=>
 b2 (ybl Tryz.prog .min #[3,3] [y69,y71] h) fun y72 h72=>
 ob (semSlice Tryz.prog 35 a67 none (some y72)) fun y73=>
 n x0 x2 (some y73) x10 h72
theorem q69_74_eq(C:YC)(lf:Nat)(n:K4)(KR:KF)(KE:KX): ∀ F h,evX fx69 C lf [1,1,1,1,0] F h (fun F h=>n (F 0) (F 2) (F 3) (F 10) h) KR KE=q69_74 C lf n (F 0) (F 2) (F 3) (F 10) h:=by
 intro F h;kernel_rfl
noncomputable def q69_75(C:YC)(lf:Nat)(r:K2)(x0 x2 x3 x10:O)(h:HW):Rs:=
 q69_74 C lf (fun x0 x2 x3 x10 h=>q69_66 C lf r x0 x2 x3 x10 h) x0 x2 x3 x10 h
theorem q69_75_eq(C:YC)(lf:Nat)(r:K2)(KN:KF)(KE:KX): ∀ F h,evX fx69 C lf [1,1,1,1] F h KN (fun F h=>r (F 8) (F 9) h) KE=q69_75 C lf r (F 0) (F 2) (F 3) (F 10) h:=cSeq (a:=subX fx69 [1,1,1,1,0]) (b:=subX fx69 [1,1,1,1,1]) (by kernel_rfl) (B:=(fun F h=>q69_66 C lf r (F 0) (F 2) (F 3) (F 10) h)) (q69_66_eq C lf r KN KE) (q69_74_eq C lf (fun x0 x2 x3 x10 h=>q69_66 C lf r x0 x2 x3 x10 h) (fun F h=>r (F 8) (F 9) h) KE)
noncomputable def q69_83(C:YC)(lf:Nat)(n:K4)(r:K2)(x0 x2 x3 x10:O)(h:HW):Rs:=
 ob x2 fun a76=>
 ob (bin Tryz.prog .lss 3 a76 (.int .i64 0)) fun y77=>
 yIf y77
 (r (some (.int .i64 0)) (some (.int .i64 22)) h)
 (ob x3 fun a78=>
 ob (lenE Tryz.prog 35 a78) fun y79=>
 ob (bin Tryz.prog .eql 3 y79 (.int .i64 0)) fun y80=>
 yIf y80
 (r (some (.int .i64 0)) (some (.int .i64 0)) h)
 (ob x2 fun a81=>
 ob (bin Tryz.prog .geq 3 a81 (.int .i64 17792)) fun y82=>
 yIf y82
 (r (some (.int .i64 0)) (some (.int .i64 27)) h)
 (n x0 x2 x3 x10 h)))
theorem q69_83_eq(C:YC)(lf:Nat)(n:K4)(r:K2)(KE:KX): ∀ F h,evX fx69 C lf [1,1,1,0] F h (fun F h=>n (F 0) (F 2) (F 3) (F 10) h) (fun F h=>r (F 8) (F 9) h) KE=q69_83 C lf n r (F 0) (F 2) (F 3) (F 10) h:=by
 intro F h;kernel_rfl
noncomputable def q69_84(C:YC)(lf:Nat)(r:K2)(x0 x2 x3 x10:O)(h:HW):Rs:=
 q69_83 C lf (fun x0 x2 x3 x10 h=>q69_75 C lf r x0 x2 x3 x10 h) r x0 x2 x3 x10 h
theorem q69_84_eq(C:YC)(lf:Nat)(r:K2)(KN:KF)(KE:KX): ∀ F h,evX fx69 C lf [1,1,1] F h KN (fun F h=>r (F 8) (F 9) h) KE=q69_84 C lf r (F 0) (F 2) (F 3) (F 10) h:=cSeq (a:=subX fx69 [1,1,1,0]) (b:=subX fx69 [1,1,1,1]) (by kernel_rfl) (B:=(fun F h=>q69_75 C lf r (F 0) (F 2) (F 3) (F 10) h)) (q69_75_eq C lf r KN KE) (q69_83_eq C lf (fun x0 x2 x3 x10 h=>q69_75 C lf r x0 x2 x3 x10 h) r KE)
noncomputable def q69_88(C:YC)(lf:Nat)(n:K4)(r:K2)(x0 x2 x3 x10 x11:O)(h:HW):Rs:=
 ob x11 fun a85=>
 ob (bin Tryz.prog .neq 25 a85 (.int .i64 0)) fun y86=>
 yIf y86
 (ob x11 fun a87=>
 r (some (.int .i64 0)) (some a87) h)
 (n x0 x2 x3 x10 h)
theorem q69_88_eq(C:YC)(lf:Nat)(n:K4)(r:K2)(KE:KX): ∀ F h,evX fx69 C lf [1,1,0] F h (fun F h=>n (F 0) (F 2) (F 3) (F 10) h) (fun F h=>r (F 8) (F 9) h) KE=q69_88 C lf n r (F 0) (F 2) (F 3) (F 10) (F 11) h:=by
 intro F h;kernel_rfl
noncomputable def q69_89(C:YC)(lf:Nat)(r:K2)(x0 x2 x3 x10 x11:O)(h:HW):Rs:=
 q69_88 C lf (fun x0 x2 x3 x10 h=>q69_84 C lf r x0 x2 x3 x10 h) r x0 x2 x3 x10 x11 h
theorem q69_89_eq(C:YC)(lf:Nat)(r:K2)(KN:KF)(KE:KX): ∀ F h,evX fx69 C lf [1,1] F h KN (fun F h=>r (F 8) (F 9) h) KE=q69_89 C lf r (F 0) (F 2) (F 3) (F 10) (F 11) h:=cSeq (a:=subX fx69 [1,1,0]) (b:=subX fx69 [1,1,1]) (by kernel_rfl) (B:=(fun F h=>q69_84 C lf r (F 0) (F 2) (F 3) (F 10) h)) (q69_84_eq C lf r KN KE) (q69_88_eq C lf (fun x0 x2 x3 x10 h=>q69_84 C lf r x0 x2 x3 x10 h) r KE)
noncomputable def q69_95(C:YC)(lf:Nat)(n:K5)(x0 x1 x2 x3:O)(h:HW):Rs:=
 ob x0 fun a90=>
 ob x1 fun a91=>
 bc (C (.fn 70) [a90,a91] h) fun y92 h92=>
 ob (ext 0 y92) fun y93=>
 ob (ext 1 y92) fun y94=>
 n x0 x2 x3 (some y93) (some y94) h92
theorem q69_95_eq(C:YC)(lf:Nat)(n:K5)(KR:KF)(KE:KX): ∀ F h,evX fx69 C lf [1,0] F h (fun F h=>n (F 0) (F 2) (F 3) (F 10) (F 11) h) KR KE=q69_95 C lf n (F 0) (F 1) (F 2) (F 3) h:=by
 intro F h;kernel_rfl
noncomputable def q69_96(C:YC)(lf:Nat)(r:K2)(x0 x1 x2 x3:O)(h:HW):Rs:=
 q69_95 C lf (fun x0 x2 x3 x10 x11 h=>q69_89 C lf r x0 x2 x3 x10 x11 h) x0 x1 x2 x3 h
theorem q69_96_eq(C:YC)(lf:Nat)(r:K2)(KN:KF)(KE:KX): ∀ F h,evX fx69 C lf [1] F h KN (fun F h=>r (F 8) (F 9) h) KE=q69_96 C lf r (F 0) (F 1) (F 2) (F 3) h:=cSeq (a:=subX fx69 [1,0]) (b:=subX fx69 [1,1]) (by kernel_rfl) (B:=(fun F h=>q69_89 C lf r (F 0) (F 2) (F 3) (F 10) (F 11) h)) (q69_89_eq C lf r KN KE) (q69_95_eq C lf (fun x0 x2 x3 x10 x11 h=>q69_89 C lf r x0 x2 x3 x10 x11 h) (fun F h=>r (F 8) (F 9) h) KE)
noncomputable def q69_97(C:YC)(lf:Nat)(n:K4)(x0 x1 x2 x3:O)(h:HW):Rs:=
 n x0 x1 x2 x3 h
theorem q69_97_eq(C:YC)(lf:Nat)(n:K4)(KR:KF)(KE:KX): ∀ F h,evX fx69 C lf [0] F h (fun F h=>n (F 0) (F 1) (F 2) (F 3) h) KR KE=q69_97 C lf n (F 0) (F 1) (F 2) (F 3) h:=by
 intro F h;kernel_rfl
noncomputable def q69_98(C:YC)(lf:Nat)(r:K2)(x0 x1 x2 x3:O)(h:HW):Rs:=
 q69_97 C lf (fun x0 x1 x2 x3 h=>q69_96 C lf r x0 x1 x2 x3 h) x0 x1 x2 x3 h
theorem q69_98_eq(C:YC)(lf:Nat)(r:K2)(KN:KF)(KE:KX): ∀ F h,evX fx69 C lf [] F h KN (fun F h=>r (F 8) (F 9) h) KE=q69_98 C lf r (F 0) (F 1) (F 2) (F 3) h:=cSeq (a:=subX fx69 [0]) (b:=subX fx69 [1]) (by kernel_rfl) (B:=(fun F h=>q69_96 C lf r (F 0) (F 1) (F 2) (F 3) h)) (q69_96_eq C lf r KN KE) (q69_97_eq C lf (fun x0 x1 x2 x3 h=>q69_96 C lf r x0 x1 x2 x3 h) (fun F h=>r (F 8) (F 9) h) KE)
noncomputable def fs69(C:YC)(lf:Nat)(a0 a1 a2 a3:SV)(h:HW):Rs:=q69_98 C lf ff69 (some a0) (some a1) (some a2) (some a3) h
theorem fs69_eq(C:YC)(lf:Nat)(a0 a1 a2 a3:SV)(h:HW):yFn Tryz.prog fx69 C lf [a0,a1,a2,a3] h=fs69 C lf a0 a1 a2 a3 h:=fnX (K:=(fun F h=>ff69 (F 8) (F 9) h)) (by kernel_rfl) (((q69_98_eq C lf ff69 (fun F h=>ff69 (F 8) (F 9) h) (fun _ _ _=>none)) _ h).trans (by kernel_rfl))
noncomputable def fy69:YX Tryz.prog:=Y4 fx69 fs69 fs69_eq (by kernel_rfl)
noncomputable def fx70:XF Tryz.prog:=⟨70,Tryz.f70,fun _=> .text,Tryz.func70,by kernel_rfl,by kernel_rfl,by kernel_rfl,by kernel_rfl⟩
noncomputable def ff70(x4 x5:O)(h:HW):Rs:=
 ob x4 fun a0=>
 ob x5 fun a1=>
 some (.ret (.tup [a0,a1]),h)
noncomputable def q70_16(C:YC)(lf:Nat)(r:K2)(x0 x1:O)(h:HW):Rs:=
 ob x0 fun a2=>
 bc (C (.fn 65) [a2] h) fun y3 h3=>
 ob (unE .not y3) fun y4=>
 yIf y4
 (r (some (.val (.pointer none))) (some (.int .i64 14)) h3)
 (ob x0 fun a5=>
 ob x1 fun a6=>
 bc (C (.fn 67) [a5,a6] h3) fun y7 h7=>
 ob (unE .not y7) fun y8=>
 yIf y8
 (r (some (.val (.pointer none))) (some (.int .i64 2)) h7)
 (ob x0 fun a9=>
 ob (semNil a9) fun y10=>
 ob (fa 1 y10) fun y11=>
 ob (ld1 y11 h7) fun y12=>
 ob x1 fun a13=>
 ob (bin Tryz.prog .sub 3 a13 (.int .i64 1)) fun y14=>
 ob (ixS 308 y12 y14) fun y15=>
 r (some y15) (some (.int .i64 0)) h7))
theorem q70_16_eq(C:YC)(lf:Nat)(r:K2)(KN:KF)(KE:KX): ∀ F h,evX fx70 C lf [] F h KN (fun F h=>r (F 4) (F 5) h) KE=q70_16 C lf r (F 0) (F 1) h:=by
 intro F h;kernel_rfl
noncomputable def fs70(C:YC)(lf:Nat)(a0 a1:SV)(h:HW):Rs:=q70_16 C lf ff70 (some a0) (some a1) h
theorem fs70_eq(C:YC)(lf:Nat)(a0 a1:SV)(h:HW):yFn Tryz.prog fx70 C lf [a0,a1] h=fs70 C lf a0 a1 h:=fnX (K:=(fun F h=>ff70 (F 4) (F 5) h)) (by kernel_rfl) (((q70_16_eq C lf ff70 (fun F h=>ff70 (F 4) (F 5) h) (fun _ _ _=>none)) _ h).trans (by kernel_rfl))
noncomputable def fy70:YX Tryz.prog:=Y2 fx70 fs70 fs70_eq (by kernel_rfl)
noncomputable def fx71:XF Tryz.prog:=⟨71,Tryz.f71,fun _=> .text,Tryz.func71,by kernel_rfl,by kernel_rfl,by kernel_rfl,by kernel_rfl⟩
noncomputable def ff71(h:HW):Rs:=
 some (.ret (.tup []),h)
noncomputable def q71_24(C:YC)(lf:Nat)(n:K0)(x0 x1:O)(h:HW):Rs:=
 ob x1 fun a0=>
 ob (semNil a0) fun y1=>
 ob (fa 1 y1) fun y2=>
 ob (fa 1 y2) fun y3=>
 ob (ld1 y3 h) fun y4=>
 ob (bin Tryz.prog .eql 3 y4 (.int .i64 0)) fun y5=>
 bc (gd true (some y5) (ob x1 fun a6=>
 some (.ret a6,h)) h) fun y7 h7=>
 bc (gd true (some y5) (ob (semNil y7) fun y8=>
 some (.ret y8,h7)) h7) fun y9 h9=>
 bc (gd true (some y5) (ob (fa 11 y9) fun y10=>
 some (.ret y10,h9)) h9) fun y11 h11=>
 bc (gd true (some y5) (ob (ld1 y11 h11) fun y12=>
 some (.ret y12,h11)) h11) fun y13 h13=>
 bc (gd true (some y5) (ob (bin Tryz.prog .eql 3 y13 (.int .i64 0)) fun y14=>
 some (.ret y14,h13)) h13) fun y15 h15=>
 ob (ypk y5 y15 (.bool false)) fun y16=>
 yIf y16
 (ob x0 fun a17=>
 ob x1 fun a18=>
 bc (C (.fn 140) [a17,a18,(.int .i64 0)] h15) fun y19 h19=>
 ob x1 fun a20=>
 ob (semBuild Tryz.prog 136 [] []) fun y21=>
 ob (semNil a20) fun y22=>
 ob (st 308 y22 y21 h19) fun h23=>
 n h23)
 (n h15)
theorem q71_24_eq(C:YC)(lf:Nat)(n:K0)(KR:KF)(KE:KX): ∀ F h,evX fx71 C lf [] F h (fun F h=>n h) KR KE=q71_24 C lf n (F 0) (F 1) h:=by
 intro F h;kernel_rfl
noncomputable def fs71(C:YC)(lf:Nat)(a0 a1:SV)(h:HW):Rs:=q71_24 C lf ff71 (some a0) (some a1) h
theorem fs71_eq(C:YC)(lf:Nat)(a0 a1:SV)(h:HW):yFn Tryz.prog fx71 C lf [a0,a1] h=fs71 C lf a0 a1 h:=fnX (K:=(fun F h=>ff71 h)) (by kernel_rfl) (((q71_24_eq C lf ff71 (fun F h=>ff71 h) (fun _ _ _=>none)) _ h).trans (by kernel_rfl))
noncomputable def fy71:YX Tryz.prog:=Y2 fx71 fs71 fs71_eq (by kernel_rfl)
noncomputable def fx72:XF Tryz.prog:=⟨72,Tryz.f72,fun r=>bif Nat.beq r 1 then .news [0,2,1,3,4,5] [1,3] [] else .text,Tryz.func72,by kernel_rfl,by kernel_rfl,by kernel_rfl,by kernel_rfl⟩
noncomputable def ff72(x2:O)(h:HW):Rs:=
 ob x2 fun a0=>
 ob (ldN 2 a0 h) fun y1=>
 some (.ret y1,h)
noncomputable def q72_10(C:YC)(lf:Nat)(r:K1)(x0:O)(h:HW):Rs:=
 b2 (yAl Tryz.prog 149 h) fun y2 h2=>
 nwB [1,3] 6 h2 fun b3 h3=>
 ob x0 fun a4=>
 ob x0 fun a5=>
 ck (lowV b3 a4&&lowV b3 a4) <|
 b2 (ynf (ymk Tryz.prog 146 a4 a4) b3 1 h3) fun y6 h6=>
 ck (lowV b3 a5&&lowV b3 a5) <|
 b2 (ynf (ymk Tryz.prog 147 a5 a5) b3 3 h6) fun y7 h7=>
 ob (semBuild Tryz.prog 149 [0,1] [y6,y7]) fun y8=>
 ob (st 2 y2 y8 h7) fun h9=>
 r (some y2) h9
theorem q72_10_eq(C:YC)(lf:Nat)(r:K1)(KN:KF)(KE:KX): ∀ F h,evX fx72 C lf [] F h KN (fun F h=>r (F 2) h) KE=q72_10 C lf r (F 0) h:=by
 intro F h;kernel_rfl
noncomputable def fs72(C:YC)(lf:Nat)(a0:SV)(h:HW):Rs:=q72_10 C lf ff72 (some a0) h
theorem fs72_eq(C:YC)(lf:Nat)(a0:SV)(h:HW):yFn Tryz.prog fx72 C lf [a0] h=fs72 C lf a0 h:=fnX (K:=(fun F h=>ff72 (F 2) h)) (by kernel_rfl) (((q72_10_eq C lf ff72 (fun F h=>ff72 (F 2) h) (fun _ _ _=>none)) _ h).trans (by kernel_rfl))
noncomputable def fy72:YX Tryz.prog:=Y1 fx72 fs72 fs72_eq (by kernel_rfl)
noncomputable def fx73:XF Tryz.prog:=⟨73,Tryz.f73,fun _=> .text,Tryz.func73,by kernel_rfl,by kernel_rfl,by kernel_rfl,by kernel_rfl⟩
noncomputable def ff73(x2:O)(h:HW):Rs:=
 ob x2 fun a0=>
 some (.ret a0,h)
noncomputable def q73_3(C:YC)(lf:Nat)(r:K1)(x0:O)(h:HW):Rs:=
 ob x0 fun a1=>
 ob (bin Tryz.prog .and 34 a1 (.int .i64 61440)) fun y2=>
 r (some y2) h
theorem q73_3_eq(C:YC)(lf:Nat)(r:K1)(KN:KF)(KE:KX): ∀ F h,evX fx73 C lf [] F h KN (fun F h=>r (F 2) h) KE=q73_3 C lf r (F 0) h:=by
 intro F h;kernel_rfl
noncomputable def fs73(C:YC)(lf:Nat)(a0:SV)(h:HW):Rs:=q73_3 C lf ff73 (some a0) h
theorem fs73_eq(C:YC)(lf:Nat)(a0:SV)(h:HW):yFn Tryz.prog fx73 C lf [a0] h=fs73 C lf a0 h:=fnX (K:=(fun F h=>ff73 (F 2) h)) (by kernel_rfl) (((q73_3_eq C lf ff73 (fun F h=>ff73 (F 2) h) (fun _ _ _=>none)) _ h).trans (by kernel_rfl))
noncomputable def fy73:YX Tryz.prog:=Y1 fx73 fs73 fs73_eq (by kernel_rfl)
noncomputable def fx74:XF Tryz.prog:=⟨74,Tryz.f74,fun _=> .text,Tryz.func74,by kernel_rfl,by kernel_rfl,by kernel_rfl,by kernel_rfl⟩
noncomputable def ff74(x4:O)(h:HW):Rs:=
 ob x4 fun a0=>
 some (.ret a0,h)
noncomputable def q74_16(C:YC)(lf:Nat)(r:K1)(x0 x1:O)(h:HW):Rs:=
 ob x0 fun a1=>
 ob x1 fun a2=>
 bc (C (.fn 75) [a1,a2] h) fun y3 h3=>
 ob (unE .not y3) fun y4=>
 yIf y4
 (r (some (.int .i64 2)) h3)
 (ob x0 fun a5=>
 ob (semNil a5) fun y6=>
 ob (fa 4 y6) fun y7=>
 ob (ld1 y7 h3) fun y8=>
 ob x1 fun a9=>
 ob (ixS 308 y8 a9) fun y10=>
 ob (fa 1 y10) fun y11=>
 ob (fa 6 y11) fun y12=>
 ob (ld1 y12 h3) fun y13=>
 ob (bin Tryz.prog .and 34 y13 (.int .i64 61440)) fun y14=>
 ob (bin Tryz.prog .neq 34 y14 (.int .i64 16384)) fun y15=>
 yIf y15
 (r (some (.int .i64 20)) h3)
 (r (some (.int .i64 0)) h3))
theorem q74_16_eq(C:YC)(lf:Nat)(r:K1)(KN:KF)(KE:KX): ∀ F h,evX fx74 C lf [] F h KN (fun F h=>r (F 4) h) KE=q74_16 C lf r (F 0) (F 1) h:=by
 intro F h;kernel_rfl
noncomputable def fs74(C:YC)(lf:Nat)(a0 a1:SV)(h:HW):Rs:=q74_16 C lf ff74 (some a0) (some a1) h
theorem fs74_eq(C:YC)(lf:Nat)(a0 a1:SV)(h:HW):yFn Tryz.prog fx74 C lf [a0,a1] h=fs74 C lf a0 a1 h:=fnX (K:=(fun F h=>ff74 (F 4) h)) (by kernel_rfl) (((q74_16_eq C lf ff74 (fun F h=>ff74 (F 4) h) (fun _ _ _=>none)) _ h).trans (by kernel_rfl))
noncomputable def fy74:YX Tryz.prog:=Y2 fx74 fs74 fs74_eq (by kernel_rfl)
noncomputable def fx75:XF Tryz.prog:=⟨75,Tryz.f75,fun _=> .text,Tryz.func75,by kernel_rfl,by kernel_rfl,by kernel_rfl,by kernel_rfl⟩
noncomputable def ff75(x4:O)(h:HW):Rs:=
 ob x4 fun a0=>
 some (.ret a0,h)
noncomputable def q75_33(C:YC)(lf:Nat)(r:K1)(x0 x1:O)(h:HW):Rs:=
 ob x1 fun a1=>
 ob (bin Tryz.prog .gtr 3 a1 (.int .i64 0)) fun y2=>
 bc (gd true (some y2) (ob x1 fun a3=>
 some (.ret a3,h)) h) fun y4 h4=>
 bc (gd true (some y2) (ob x0 fun a5=>
 some (.ret a5,h4)) h4) fun y6 h6=>
 bc (gd true (some y2) (ob (semNil y6) fun y7=>
 some (.ret y7,h6)) h6) fun y8 h8=>
 bc (gd true (some y2) (ob (fa 2 y8) fun y9=>
 some (.ret y9,h8)) h8) fun y10 h10=>
 bc (gd true (some y2) (ob (ld1 y10 h10) fun y11=>
 some (.ret y11,h10)) h10) fun y12 h12=>
 bc (gd true (some y2) (ob (bin Tryz.prog .leq 3 y4 y12) fun y13=>
 some (.ret y13,h12)) h12) fun y14 h14=>
 ob (ypk y2 y14 (.bool false)) fun y15=>
 bc (gd true (some y15) (ob x0 fun a16=>
 some (.ret a16,h14)) h14) fun y17 h17=>
 bc (gd true (some y15) (ob (semNil y17) fun y18=>
 some (.ret y18,h17)) h17) fun y19 h19=>
 bc (gd true (some y15) (ob (fa 4 y19) fun y20=>
 some (.ret y20,h19)) h19) fun y21 h21=>
 bc (gd true (some y15) (ob (ld1 y21 h21) fun y22=>
 some (.ret y22,h21)) h21) fun y23 h23=>
 bc (gd true (some y15) (ob x1 fun a24=>
 some (.ret a24,h23)) h23) fun y25 h25=>
 bc (gd true (some y15) (ob (ixS 308 y23 y25) fun y26=>
 some (.ret y26,h25)) h25) fun y27 h27=>
 bc (gd true (some y15) (ob (fa 0 y27) fun y28=>
 some (.ret y28,h27)) h27) fun y29 h29=>
 bc (gd true (some y15) (ob (ld1 y29 h29) fun y30=>
 some (.ret y30,h29)) h29) fun y31 h31=>
 ob (ypk y15 y31 (.bool false)) fun y32=>
 r (some y32) h31
theorem q75_33_eq(C:YC)(lf:Nat)(r:K1)(KN:KF)(KE:KX): ∀ F h,evX fx75 C lf [] F h KN (fun F h=>r (F 4) h) KE=q75_33 C lf r (F 0) (F 1) h:=by
 intro F h;kernel_rfl
noncomputable def fs75(C:YC)(lf:Nat)(a0 a1:SV)(h:HW):Rs:=q75_33 C lf ff75 (some a0) (some a1) h
theorem fs75_eq(C:YC)(lf:Nat)(a0 a1:SV)(h:HW):yFn Tryz.prog fx75 C lf [a0,a1] h=fs75 C lf a0 a1 h:=fnX (K:=(fun F h=>ff75 (F 4) h)) (by kernel_rfl) (((q75_33_eq C lf ff75 (fun F h=>ff75 (F 4) h) (fun _ _ _=>none)) _ h).trans (by kernel_rfl))
noncomputable def fy75:YX Tryz.prog:=Y2 fx75 fs75 fs75_eq (by kernel_rfl)
noncomputable def fx76:XF Tryz.prog:=⟨76,Tryz.f76,fun _=> .text,Tryz.func76,by kernel_rfl,by kernel_rfl,by kernel_rfl,by kernel_rfl⟩
noncomputable def ff76(x8 x9:O)(h:HW):Rs:=
 ob x8 fun a0=>
 ob x9 fun a1=>
 some (.ret (.tup [a0,a1]),h)
noncomputable def q76_21(C:YC)(lf:Nat)(r:K2)(x0 x10 x11:O)(h:HW):Rs:=
 ob x10 fun a2=>
 ob x10 fun a3=>
 ob x0 fun a4=>
 ob (semNil a4) fun y5=>
 ob (fa 3 y5) fun y6=>
 ob (ld1 y6 h) fun y7=>
 ob x0 fun a8=>
 ob (semNil a8) fun y9=>
 ob (fa 3 y9) fun y10=>
 ob (ld1 y10 h) fun y11=>
 ob (semNil a2) fun y12=>
 ob (fa 1 y12) fun y13=>
 ob (fa 8 y13) fun y14=>
 ob (st 1 y14 y7 h) fun h15=>
 ob (semNil a3) fun y16=>
 ob (fa 1 y16) fun y17=>
 ob (fa 9 y17) fun y18=>
 ob (st 1 y18 y11 h15) fun h19=>
 ob x11 fun a20=>
 r (some a20) (some (.int .i64 0)) h19
theorem q76_21_eq(C:YC)(lf:Nat)(r:K2)(KN:KF)(KE:KX): ∀ F h,evX fx76 C lf [1,1,1,1,1,1,1,1,1,1] F h KN (fun F h=>r (F 8) (F 9) h) KE=q76_21 C lf r (F 0) (F 10) (F 11) h:=by
 intro F h;kernel_rfl
noncomputable def q76_39(C:YC)(lf:Nat)(n:K3)(x0 x2 x10 x11:O)(h:HW):Rs:=
 ob x2 fun a22=>
 ob x11 fun a23=>
 ob (bin Tryz.prog .add 3 a22 a23) fun y24=>
 ob x10 fun a25=>
 ob (semNil a25) fun y26=>
 ob (fa 1 y26) fun y27=>
 ob (fa 4 y27) fun y28=>
 ob (ld1 y28 h) fun y29=>
 ob (bin Tryz.prog .gtr 3 y24 y29) fun y30=>
 yIf y30
 (ob x10 fun a31=>
 ob x2 fun a32=>
 ob x11 fun a33=>
 ob (bin Tryz.prog .add 3 a32 a33) fun y34=>
 ob (semNil a31) fun y35=>
 ob (fa 1 y35) fun y36=>
 ob (fa 4 y36) fun y37=>
 ob (st 1 y37 y34 h) fun h38=>
 n x0 x10 x11 h38)
 (n x0 x10 x11 h)
theorem q76_39_eq(C:YC)(lf:Nat)(n:K3)(KR:KF)(KE:KX): ∀ F h,evX fx76 C lf [1,1,1,1,1,1,1,1,1,0] F h (fun F h=>n (F 0) (F 10) (F 11) h) KR KE=q76_39 C lf n (F 0) (F 2) (F 10) (F 11) h:=by
 intro F h;kernel_rfl
noncomputable def q76_40(C:YC)(lf:Nat)(r:K2)(x0 x2 x10 x11:O)(h:HW):Rs:=
 q76_39 C lf (fun x0 x10 x11 h=>q76_21 C lf r x0 x10 x11 h) x0 x2 x10 x11 h
theorem q76_40_eq(C:YC)(lf:Nat)(r:K2)(KN:KF)(KE:KX): ∀ F h,evX fx76 C lf [1,1,1,1,1,1,1,1,1] F h KN (fun F h=>r (F 8) (F 9) h) KE=q76_40 C lf r (F 0) (F 2) (F 10) (F 11) h:=cSeq (a:=subX fx76 [1,1,1,1,1,1,1,1,1,0]) (b:=subX fx76 [1,1,1,1,1,1,1,1,1,1]) (by kernel_rfl) (B:=(fun F h=>q76_21 C lf r (F 0) (F 10) (F 11) h)) (q76_21_eq C lf r KN KE) (q76_39_eq C lf (fun x0 x10 x11 h=>q76_21 C lf r x0 x10 x11 h) (fun F h=>r (F 8) (F 9) h) KE)
noncomputable def q76_43(C:YC)(lf:Nat)(n:K4)(r:K2)(x0 x2 x10 x11:O)(h:HW):Rs:=
 ob x11 fun a41=>
 ob (bin Tryz.prog .eql 3 a41 (.int .i64 0)) fun y42=>
 yIf y42
 (r (some (.int .i64 0)) (some (.int .i64 28)) h)
 (n x0 x2 x10 x11 h)
theorem q76_43_eq(C:YC)(lf:Nat)(n:K4)(r:K2)(KE:KX): ∀ F h,evX fx76 C lf [1,1,1,1,1,1,1,1,0] F h (fun F h=>n (F 0) (F 2) (F 10) (F 11) h) (fun F h=>r (F 8) (F 9) h) KE=q76_43 C lf n r (F 0) (F 2) (F 10) (F 11) h:=by
 intro F h;kernel_rfl
noncomputable def q76_44(C:YC)(lf:Nat)(r:K2)(x0 x2 x10 x11:O)(h:HW):Rs:=
 q76_43 C lf (fun x0 x2 x10 x11 h=>q76_40 C lf r x0 x2 x10 x11 h) r x0 x2 x10 x11 h
theorem q76_44_eq(C:YC)(lf:Nat)(r:K2)(KN:KF)(KE:KX): ∀ F h,evX fx76 C lf [1,1,1,1,1,1,1,1] F h KN (fun F h=>r (F 8) (F 9) h) KE=q76_44 C lf r (F 0) (F 2) (F 10) (F 11) h:=cSeq (a:=subX fx76 [1,1,1,1,1,1,1,1,0]) (b:=subX fx76 [1,1,1,1,1,1,1,1,1]) (by kernel_rfl) (B:=(fun F h=>q76_40 C lf r (F 0) (F 2) (F 10) (F 11) h)) (q76_40_eq C lf r KN KE) (q76_43_eq C lf (fun x0 x2 x10 x11 h=>q76_40 C lf r x0 x2 x10 x11 h) r KE)
noncomputable def q76_96(C:YC)(lf:Nat)(n:K6)(e0:K4)(x0 x1 x2 x3 x10 x11:O)(h:HW):Rs:=
 ob x11 fun a46=>
 ob x3 fun a47=>
 ob (lenE Tryz.prog 35 a47) fun y48=>
 ob (bin Tryz.prog .lss 3 a46 y48) fun y49=>
 bc (gd true (some y49) (ob x2 fun a50=>
 some (.ret a50,h)) h) fun y51 h51=>
 bc (gd true (some y49) (ob x11 fun a52=>
 some (.ret a52,h51)) h51) fun y53 h53=>
 bc (gd true (some y49) (ob (bin Tryz.prog .add 3 y51 y53) fun y54=>
 some (.ret y54,h53)) h53) fun y55 h55=>
 bc (gd true (some y49) (ob (bin Tryz.prog .lss 3 y55 (.int .i64 17792)) fun y56=>
 some (.ret y56,h55)) h55) fun y57 h57=>
 ob (ypk y49 y57 (.bool false)) fun y58=>
 yIf y58
 (ob x0 fun a59=>
 ob x1 fun a60=>
 ob x2 fun a61=>
 ob x11 fun a62=>
 ob (bin Tryz.prog .add 3 a61 a62) fun y63=>
 ob (bin Tryz.prog .quo 3 y63 (.int .i64 64)) fun y64=>
 bc (C (.fn 141) [a59,a60,y64] h57) fun y65 h65=>
 ob (unE .not y65) fun y66=>
 yIf y66
 (e0 x0 x2 x10 x11 h65)
 (ob x10 fun a67=>
 ob x2 fun a68=>
 ob x11 fun a69=>
 ob (bin Tryz.prog .add 3 a68 a69) fun y70=>
 ob (bin Tryz.prog .quo 3 y70 (.int .i64 64)) fun y71=>
 ob (semNil a67) fun y72=>
 ob (fa 12 y72) fun y73=>
 ob (ixA 278 1 y73 y71) fun y74=>
 ob (ld1 y74 h65) fun y75=>
 ob (bin Tryz.prog .sub 3 y75 (.int .i64 1)) fun y76=>
 ob x0 fun a77=>
 ob (semNil a77) fun y78=>
 ob (fa 0 y78) fun y79=>
 ob (fa 1 y79) fun y80=>
 ob (ld1 y80 h65) fun y81=>
 ob (ixS 1 y81 y76) fun y82=>
 ob (ld1 y82 h65) fun y83=>
 ob x2 fun a84=>
 ob x11 fun a85=>
 ob (bin Tryz.prog .add 3 a84 a85) fun y86=>
 ob (bin Tryz.prog .rem 3 y86 (.int .i64 64)) fun y87=>
 ob x3 fun a88=>
 ob x11 fun a89=>
 ob (ixS 1 a88 a89) fun y90=>
 ob (ld1 y90 h65) fun y91=>
 ob (ixS 1 y83 y87) fun y92=>
 ob (st 1 y92 y91 h65) fun h93=>
 ob x11 fun a94=>
 ob (bin Tryz.prog .add 3 a94 (.int .i64 1)) fun y95=>
 n x0 x1 x2 x3 x10 (some y95) h93))
 (e0 x0 x2 x10 x11 h57)
theorem q76_96_eq(C:YC)(lf:Nat)(n:K6)(e0:K4)(KR:KF)(KE:KX): ∀ F h,evX fx76 C lf [1,1,1,1,1,1,1,0,0,0] F h (fun F h=>n (F 0) (F 1) (F 2) (F 3) (F 10) (F 11) h) KR (bk 0 (fun F h=>e0 (F 0) (F 2) (F 10) (F 11) h) KE)=q76_96 C lf n e0 (F 0) (F 1) (F 2) (F 3) (F 10) (F 11) h:=by
 intro F h;kernel_rfl
noncomputable def l76_45(C:YC)(lf:Nat)(e0:K4)(k:O × O × O × O × O × O→HW→Rs)(s:O × O × O × O × O × O)(h:HW):Rs:=
 q76_96 C lf (fun x0 x1 x2 x3 x10 x11 h=>k (x0,x1,x2,x3,x10,x11) h) e0 s.1 s.2.1 s.2.2.1 s.2.2.2.1 s.2.2.2.2.1 s.2.2.2.2.2 h
noncomputable def q76_97(C:YC)(lf:Nat)(r:K2)(x0 x1 x2 x3 x10 x11:O)(h:HW):Rs:=
 lp (l76_45 C lf (fun x0 x2 x10 x11 h=>q76_44 C lf r x0 x2 x10 x11 h)) lf (x0,x1,x2,x3,x10,x11) h
theorem q76_97_eq(C:YC)(lf:Nat)(r:K2)(KN:KF)(KE:KX): ∀ F h,evX fx76 C lf [1,1,1,1,1,1,1] F h KN (fun F h=>r (F 8) (F 9) h) KE=q76_97 C lf r (F 0) (F 1) (F 2) (F 3) (F 10) (F 11) h:=cSeq (a:=subX fx76 [1,1,1,1,1,1,1,0]) (b:=subX fx76 [1,1,1,1,1,1,1,1]) (by kernel_rfl) (B:=(fun F h=>q76_44 C lf r (F 0) (F 2) (F 10) (F 11) h)) (q76_44_eq C lf r KN KE) (cBlock (id:=0) (a:=subX fx76 [1,1,1,1,1,1,1,0,0]) (by kernel_rfl) (cLoop (a:=subX fx76 [1,1,1,1,1,1,1,0,0,0]) (g:=fun F=>(F 0,F 1,F 2,F 3,F 10,F 11)) (body:=l76_45 C lf (fun x0 x2 x10 x11 h=>q76_44 C lf r x0 x2 x10 x11 h)) (by kernel_rfl) (fun k=>(q76_96_eq C lf (fun x0 x1 x2 x3 x10 x11 h=>k (x0,x1,x2,x3,x10,x11) h) (fun x0 x2 x10 x11 h=>q76_44 C lf r x0 x2 x10 x11 h) (fun F h=>r (F 8) (F 9) h) KE))))
noncomputable def q76_98(C:YC)(lf:Nat)(n:K6)(x0 x1 x2 x3 x10:O)(h:HW):Rs:=
 n x0 x1 x2 x3 x10 (some (.int .i64 0)) h
theorem q76_98_eq(C:YC)(lf:Nat)(n:K6)(KR:KF)(KE:KX): ∀ F h,evX fx76 C lf [1,1,1,1,1,1,0] F h (fun F h=>n (F 0) (F 1) (F 2) (F 3) (F 10) (F 11) h) KR KE=q76_98 C lf n (F 0) (F 1) (F 2) (F 3) (F 10) h:=by
 intro F h;kernel_rfl
noncomputable def q76_99(C:YC)(lf:Nat)(r:K2)(x0 x1 x2 x3 x10:O)(h:HW):Rs:=
 q76_98 C lf (fun x0 x1 x2 x3 x10 x11 h=>q76_97 C lf r x0 x1 x2 x3 x10 x11 h) x0 x1 x2 x3 x10 h
theorem q76_99_eq(C:YC)(lf:Nat)(r:K2)(KN:KF)(KE:KX): ∀ F h,evX fx76 C lf [1,1,1,1,1,1] F h KN (fun F h=>r (F 8) (F 9) h) KE=q76_99 C lf r (F 0) (F 1) (F 2) (F 3) (F 10) h:=cSeq (a:=subX fx76 [1,1,1,1,1,1,0]) (b:=subX fx76 [1,1,1,1,1,1,1]) (by kernel_rfl) (B:=(fun F h=>q76_97 C lf r (F 0) (F 1) (F 2) (F 3) (F 10) (F 11) h)) (q76_97_eq C lf r KN KE) (q76_98_eq C lf (fun x0 x1 x2 x3 x10 x11 h=>q76_97 C lf r x0 x1 x2 x3 x10 x11 h) (fun F h=>r (F 8) (F 9) h) KE)
noncomputable def q76_106(C:YC)(lf:Nat)(n:K5)(x0 x1 x2 x3:O)(h:HW):Rs:=
 ob x0 fun a100=>
 ob (semNil a100) fun y101=>
 ob (fa 4 y101) fun y102=>
 ob (ld1 y102 h) fun y103=>
 ob x1 fun a104=>
 ob (ixS 308 y103 a104) fun y105=>
 n x0 x1 x2 x3 (some y105) h
theorem q76_106_eq(C:YC)(lf:Nat)(n:K5)(KR:KF)(KE:KX): ∀ F h,evX fx76 C lf [1,1,1,1,1,0] F h (fun F h=>n (F 0) (F 1) (F 2) (F 3) (F 10) h) KR KE=q76_106 C lf n (F 0) (F 1) (F 2) (F 3) h:=by
 intro F h;kernel_rfl
noncomputable def q76_107(C:YC)(lf:Nat)(r:K2)(x0 x1 x2 x3:O)(h:HW):Rs:=
 q76_106 C lf (fun x0 x1 x2 x3 x10 h=>q76_99 C lf r x0 x1 x2 x3 x10 h) x0 x1 x2 x3 h
theorem q76_107_eq(C:YC)(lf:Nat)(r:K2)(KN:KF)(KE:KX): ∀ F h,evX fx76 C lf [1,1,1,1,1] F h KN (fun F h=>r (F 8) (F 9) h) KE=q76_107 C lf r (F 0) (F 1) (F 2) (F 3) h:=cSeq (a:=subX fx76 [1,1,1,1,1,0]) (b:=subX fx76 [1,1,1,1,1,1]) (by kernel_rfl) (B:=(fun F h=>q76_99 C lf r (F 0) (F 1) (F 2) (F 3) (F 10) h)) (q76_99_eq C lf r KN KE) (q76_106_eq C lf (fun x0 x1 x2 x3 x10 h=>q76_99 C lf r x0 x1 x2 x3 x10 h) (fun F h=>r (F 8) (F 9) h) KE)
noncomputable def q76_110(C:YC)(lf:Nat)(n:K4)(r:K2)(x0 x1 x2 x3:O)(h:HW):Rs:=
 ob x2 fun a108=>
 ob (bin Tryz.prog .geq 3 a108 (.int .i64 17792)) fun y109=>
 yIf y109
 (r (some (.int .i64 0)) (some (.int .i64 27)) h)
 (n x0 x1 x2 x3 h)
theorem q76_110_eq(C:YC)(lf:Nat)(n:K4)(r:K2)(KE:KX): ∀ F h,evX fx76 C lf [1,1,1,1,0] F h (fun F h=>n (F 0) (F 1) (F 2) (F 3) h) (fun F h=>r (F 8) (F 9) h) KE=q76_110 C lf n r (F 0) (F 1) (F 2) (F 3) h:=by
 intro F h;kernel_rfl
noncomputable def q76_111(C:YC)(lf:Nat)(r:K2)(x0 x1 x2 x3:O)(h:HW):Rs:=
 q76_110 C lf (fun x0 x1 x2 x3 h=>q76_107 C lf r x0 x1 x2 x3 h) r x0 x1 x2 x3 h
theorem q76_111_eq(C:YC)(lf:Nat)(r:K2)(KN:KF)(KE:KX): ∀ F h,evX fx76 C lf [1,1,1,1] F h KN (fun F h=>r (F 8) (F 9) h) KE=q76_111 C lf r (F 0) (F 1) (F 2) (F 3) h:=cSeq (a:=subX fx76 [1,1,1,1,0]) (b:=subX fx76 [1,1,1,1,1]) (by kernel_rfl) (B:=(fun F h=>q76_107 C lf r (F 0) (F 1) (F 2) (F 3) h)) (q76_107_eq C lf r KN KE) (q76_110_eq C lf (fun x0 x1 x2 x3 h=>q76_107 C lf r x0 x1 x2 x3 h) r KE)
noncomputable def q76_115(C:YC)(lf:Nat)(n:K4)(r:K2)(x0 x1 x2 x3:O)(h:HW):Rs:=
 ob x3 fun a112=>
 ob (lenE Tryz.prog 35 a112) fun y113=>
 ob (bin Tryz.prog .eql 3 y113 (.int .i64 0)) fun y114=>
 yIf y114
 (r (some (.int .i64 0)) (some (.int .i64 0)) h)
 (n x0 x1 x2 x3 h)
theorem q76_115_eq(C:YC)(lf:Nat)(n:K4)(r:K2)(KE:KX): ∀ F h,evX fx76 C lf [1,1,1,0] F h (fun F h=>n (F 0) (F 1) (F 2) (F 3) h) (fun F h=>r (F 8) (F 9) h) KE=q76_115 C lf n r (F 0) (F 1) (F 2) (F 3) h:=by
 intro F h;kernel_rfl
noncomputable def q76_116(C:YC)(lf:Nat)(r:K2)(x0 x1 x2 x3:O)(h:HW):Rs:=
 q76_115 C lf (fun x0 x1 x2 x3 h=>q76_111 C lf r x0 x1 x2 x3 h) r x0 x1 x2 x3 h
theorem q76_116_eq(C:YC)(lf:Nat)(r:K2)(KN:KF)(KE:KX): ∀ F h,evX fx76 C lf [1,1,1] F h KN (fun F h=>r (F 8) (F 9) h) KE=q76_116 C lf r (F 0) (F 1) (F 2) (F 3) h:=cSeq (a:=subX fx76 [1,1,1,0]) (b:=subX fx76 [1,1,1,1]) (by kernel_rfl) (B:=(fun F h=>q76_111 C lf r (F 0) (F 1) (F 2) (F 3) h)) (q76_111_eq C lf r KN KE) (q76_115_eq C lf (fun x0 x1 x2 x3 h=>q76_111 C lf r x0 x1 x2 x3 h) r KE)
noncomputable def q76_119(C:YC)(lf:Nat)(n:K4)(r:K2)(x0 x1 x2 x3:O)(h:HW):Rs:=
 ob x2 fun a117=>
 ob (bin Tryz.prog .lss 3 a117 (.int .i64 0)) fun y118=>
 yIf y118
 (r (some (.int .i64 0)) (some (.int .i64 22)) h)
 (n x0 x1 x2 x3 h)
theorem q76_119_eq(C:YC)(lf:Nat)(n:K4)(r:K2)(KE:KX): ∀ F h,evX fx76 C lf [1,1,0] F h (fun F h=>n (F 0) (F 1) (F 2) (F 3) h) (fun F h=>r (F 8) (F 9) h) KE=q76_119 C lf n r (F 0) (F 1) (F 2) (F 3) h:=by
 intro F h;kernel_rfl
noncomputable def q76_120(C:YC)(lf:Nat)(r:K2)(x0 x1 x2 x3:O)(h:HW):Rs:=
 q76_119 C lf (fun x0 x1 x2 x3 h=>q76_116 C lf r x0 x1 x2 x3 h) r x0 x1 x2 x3 h
theorem q76_120_eq(C:YC)(lf:Nat)(r:K2)(KN:KF)(KE:KX): ∀ F h,evX fx76 C lf [1,1] F h KN (fun F h=>r (F 8) (F 9) h) KE=q76_120 C lf r (F 0) (F 1) (F 2) (F 3) h:=cSeq (a:=subX fx76 [1,1,0]) (b:=subX fx76 [1,1,1]) (by kernel_rfl) (B:=(fun F h=>q76_116 C lf r (F 0) (F 1) (F 2) (F 3) h)) (q76_116_eq C lf r KN KE) (q76_119_eq C lf (fun x0 x1 x2 x3 h=>q76_116 C lf r x0 x1 x2 x3 h) r KE)
noncomputable def q76_125(C:YC)(lf:Nat)(n:K4)(r:K2)(x0 x1 x2 x3:O)(h:HW):Rs:=
 ob x0 fun a121=>
 ob x1 fun a122=>
 bc (C (.fn 75) [a121,a122] h) fun y123 h123=>
 ob (unE .not y123) fun y124=>
 yIf y124
 (r (some (.int .i64 0)) (some (.int .i64 2)) h123)
 (n x0 x1 x2 x3 h123)
theorem q76_125_eq(C:YC)(lf:Nat)(n:K4)(r:K2)(KE:KX): ∀ F h,evX fx76 C lf [1,0] F h (fun F h=>n (F 0) (F 1) (F 2) (F 3) h) (fun F h=>r (F 8) (F 9) h) KE=q76_125 C lf n r (F 0) (F 1) (F 2) (F 3) h:=by
 intro F h;kernel_rfl
noncomputable def q76_126(C:YC)(lf:Nat)(r:K2)(x0 x1 x2 x3:O)(h:HW):Rs:=
 q76_125 C lf (fun x0 x1 x2 x3 h=>q76_120 C lf r x0 x1 x2 x3 h) r x0 x1 x2 x3 h
theorem q76_126_eq(C:YC)(lf:Nat)(r:K2)(KN:KF)(KE:KX): ∀ F h,evX fx76 C lf [1] F h KN (fun F h=>r (F 8) (F 9) h) KE=q76_126 C lf r (F 0) (F 1) (F 2) (F 3) h:=cSeq (a:=subX fx76 [1,0]) (b:=subX fx76 [1,1]) (by kernel_rfl) (B:=(fun F h=>q76_120 C lf r (F 0) (F 1) (F 2) (F 3) h)) (q76_120_eq C lf r KN KE) (q76_125_eq C lf (fun x0 x1 x2 x3 h=>q76_120 C lf r x0 x1 x2 x3 h) r KE)
noncomputable def q76_127(C:YC)(lf:Nat)(n:K4)(x0 x1 x2 x3:O)(h:HW):Rs:=
 n x0 x1 x2 x3 h
theorem q76_127_eq(C:YC)(lf:Nat)(n:K4)(KR:KF)(KE:KX): ∀ F h,evX fx76 C lf [0] F h (fun F h=>n (F 0) (F 1) (F 2) (F 3) h) KR KE=q76_127 C lf n (F 0) (F 1) (F 2) (F 3) h:=by
 intro F h;kernel_rfl
noncomputable def q76_128(C:YC)(lf:Nat)(r:K2)(x0 x1 x2 x3:O)(h:HW):Rs:=
 q76_127 C lf (fun x0 x1 x2 x3 h=>q76_126 C lf r x0 x1 x2 x3 h) x0 x1 x2 x3 h
theorem q76_128_eq(C:YC)(lf:Nat)(r:K2)(KN:KF)(KE:KX): ∀ F h,evX fx76 C lf [] F h KN (fun F h=>r (F 8) (F 9) h) KE=q76_128 C lf r (F 0) (F 1) (F 2) (F 3) h:=cSeq (a:=subX fx76 [0]) (b:=subX fx76 [1]) (by kernel_rfl) (B:=(fun F h=>q76_126 C lf r (F 0) (F 1) (F 2) (F 3) h)) (q76_126_eq C lf r KN KE) (q76_127_eq C lf (fun x0 x1 x2 x3 h=>q76_126 C lf r x0 x1 x2 x3 h) (fun F h=>r (F 8) (F 9) h) KE)
noncomputable def fs76(C:YC)(lf:Nat)(a0 a1 a2 a3:SV)(h:HW):Rs:=q76_128 C lf ff76 (some a0) (some a1) (some a2) (some a3) h
theorem fs76_eq(C:YC)(lf:Nat)(a0 a1 a2 a3:SV)(h:HW):yFn Tryz.prog fx76 C lf [a0,a1,a2,a3] h=fs76 C lf a0 a1 a2 a3 h:=fnX (K:=(fun F h=>ff76 (F 8) (F 9) h)) (by kernel_rfl) (((q76_128_eq C lf ff76 (fun F h=>ff76 (F 8) (F 9) h) (fun _ _ _=>none)) _ h).trans (by kernel_rfl))
noncomputable def fy76:YX Tryz.prog:=Y4 fx76 fs76 fs76_eq (by kernel_rfl)
noncomputable def fx77:XF Tryz.prog:=⟨77,Tryz.f77,fun _=> .text,Tryz.func77,by kernel_rfl,by kernel_rfl,by kernel_rfl,by kernel_rfl⟩
noncomputable def ff77(x4:O)(h:HW):Rs:=
 ob x4 fun a0=>
 some (.ret a0,h)
noncomputable def q77_6(C:YC)(lf:Nat)(r:K1)(x1 x5:O)(h:HW):Rs:=
 ob x5 fun a1=>
 ob (semSlice Tryz.prog 35 a1 (some (.int .i64 4)) none) fun y2=>
 ob x1 fun a3=>
 b2 (ybl Tryz.prog .copy #[35,9] [y2,a3] h) fun y4 h4=>
 ob x5 fun a5=>
 r (some a5) h4
theorem q77_6_eq(C:YC)(lf:Nat)(r:K1)(KN:KF)(KE:KX): ∀ F h,evX fx77 C lf [1,1,1] F h KN (fun F h=>r (F 4) h) KE=q77_6 C lf r (F 1) (F 5) h:=by
 intro F h;kernel_rfl
noncomputable def q77_20(C:YC)(lf:Nat)(n:K4)(e0:K2)(x0 x1 x5 x8:O)(h:HW):Rs:=
 ob x8 fun a8=>
 ob (bin Tryz.prog .lss 3 a8 (.int .i64 4)) fun y9=>
 yIf y9
 (ob x8 fun a10=>
 ob x5 fun a11=>
 ob x0 fun a12=>
 ob (bin Tryz.prog .mul 3 (.int .i64 8) a10) fun y13=>
 ob (bin Tryz.prog .shr 3 a12 y13) fun y14=>
 ob (cvI .u8 y14) fun y15=>
 ob (ixS 1 a11 a10) fun y16=>
 ob (st 1 y16 y15 h) fun h17=>
 ob x8 fun a18=>
 ob (bin Tryz.prog .add 3 a18 (.int .i64 1)) fun y19=>
 n x0 x1 x5 (some y19) h17)
 (e0 x1 x5 h)
theorem q77_20_eq(C:YC)(lf:Nat)(n:K4)(e0:K2)(KR:KF)(KE:KX): ∀ F h,evX fx77 C lf [1,1,0,1,0,0] F h (fun F h=>n (F 0) (F 1) (F 5) (F 8) h) KR (bk 0 (fun F h=>e0 (F 1) (F 5) h) KE)=q77_20 C lf n e0 (F 0) (F 1) (F 5) (F 8) h:=by
 intro F h;kernel_rfl
noncomputable def l77_7(C:YC)(lf:Nat)(e0:K2)(k:O × O × O × O→HW→Rs)(s:O × O × O × O)(h:HW):Rs:=
 q77_20 C lf (fun x0 x1 x5 x8 h=>k (x0,x1,x5,x8) h) e0 s.1 s.2.1 s.2.2.1 s.2.2.2 h
noncomputable def q77_21(C:YC)(lf:Nat)(n:K4)(x0 x1 x5:O)(h:HW):Rs:=
 n x0 x1 x5 (some (.int .i64 0)) h
theorem q77_21_eq(C:YC)(lf:Nat)(n:K4)(KR:KF)(KE:KX): ∀ F h,evX fx77 C lf [1,1,0,0] F h (fun F h=>n (F 0) (F 1) (F 5) (F 8) h) KR KE=q77_21 C lf n (F 0) (F 1) (F 5) h:=by
 intro F h;kernel_rfl
noncomputable def q77_22(C:YC)(lf:Nat)(n:K2)(x0 x1 x5:O)(h:HW):Rs:=
 q77_21 C lf (fun x0 x1 x5 x8 h=>lp (l77_7 C lf n) lf (x0,x1,x5,x8) h) x0 x1 x5 h
theorem q77_22_eq(C:YC)(lf:Nat)(n:K2)(KR:KF)(KE:KX): ∀ F h,evX fx77 C lf [1,1,0] F h (fun F h=>n (F 1) (F 5) h) KR KE=q77_22 C lf n (F 0) (F 1) (F 5) h:=cSeq (a:=subX fx77 [1,1,0,0]) (b:=subX fx77 [1,1,0,1]) (by kernel_rfl) (B:=(fun F h=>lp (l77_7 C lf n) lf ((F 0),(F 1),(F 5),(F 8)) h)) (cBlock (id:=0) (a:=subX fx77 [1,1,0,1,0]) (by kernel_rfl) (cLoop (a:=subX fx77 [1,1,0,1,0,0]) (g:=fun F=>(F 0,F 1,F 5,F 8)) (body:=l77_7 C lf n) (by kernel_rfl) (fun k=>(q77_20_eq C lf (fun x0 x1 x5 x8 h=>k (x0,x1,x5,x8) h) n KR KE)))) (q77_21_eq C lf (fun x0 x1 x5 x8 h=>lp (l77_7 C lf n) lf (x0,x1,x5,x8) h) KR KE)
noncomputable def q77_23(C:YC)(lf:Nat)(r:K1)(x0 x1 x5:O)(h:HW):Rs:=
 q77_22 C lf (fun x1 x5 h=>q77_6 C lf r x1 x5 h) x0 x1 x5 h
theorem q77_23_eq(C:YC)(lf:Nat)(r:K1)(KN:KF)(KE:KX): ∀ F h,evX fx77 C lf [1,1] F h KN (fun F h=>r (F 4) h) KE=q77_23 C lf r (F 0) (F 1) (F 5) h:=cSeq (a:=subX fx77 [1,1,0]) (b:=subX fx77 [1,1,1]) (by kernel_rfl) (B:=(fun F h=>q77_6 C lf r (F 1) (F 5) h)) (q77_6_eq C lf r KN KE) (q77_22_eq C lf (fun x1 x5 h=>q77_6 C lf r x1 x5 h) (fun F h=>r (F 4) h) KE)
noncomputable def q77_25(C:YC)(lf:Nat)(n:K3)(x0 x1:O)(h:HW):Rs:=
 b2 (ymk Tryz.prog 35 (.int .i64 32) (.int .i64 32) h) fun y24 h24=>
 n x0 x1 (some y24) h24
theorem q77_25_eq(C:YC)(lf:Nat)(n:K3)(KR:KF)(KE:KX): ∀ F h,evX fx77 C lf [1,0] F h (fun F h=>n (F 0) (F 1) (F 5) h) KR KE=q77_25 C lf n (F 0) (F 1) h:=by
 intro F h;kernel_rfl
noncomputable def q77_26(C:YC)(lf:Nat)(r:K1)(x0 x1:O)(h:HW):Rs:=
 q77_25 C lf (fun x0 x1 x5 h=>q77_23 C lf r x0 x1 x5 h) x0 x1 h
theorem q77_26_eq(C:YC)(lf:Nat)(r:K1)(KN:KF)(KE:KX): ∀ F h,evX fx77 C lf [1] F h KN (fun F h=>r (F 4) h) KE=q77_26 C lf r (F 0) (F 1) h:=cSeq (a:=subX fx77 [1,0]) (b:=subX fx77 [1,1]) (by kernel_rfl) (B:=(fun F h=>q77_23 C lf r (F 0) (F 1) (F 5) h)) (q77_23_eq C lf r KN KE) (q77_25_eq C lf (fun x0 x1 x5 h=>q77_23 C lf r x0 x1 x5 h) (fun F h=>r (F 4) h) KE)
noncomputable def q77_27(C:YC)(lf:Nat)(n:K2)(x0 x1:O)(h:HW):Rs:=
 n x0 x1 h
theorem q77_27_eq(C:YC)(lf:Nat)(n:K2)(KR:KF)(KE:KX): ∀ F h,evX fx77 C lf [0] F h (fun F h=>n (F 0) (F 1) h) KR KE=q77_27 C lf n (F 0) (F 1) h:=by
 intro F h;kernel_rfl
noncomputable def q77_28(C:YC)(lf:Nat)(r:K1)(x0 x1:O)(h:HW):Rs:=
 q77_27 C lf (fun x0 x1 h=>q77_26 C lf r x0 x1 h) x0 x1 h
theorem q77_28_eq(C:YC)(lf:Nat)(r:K1)(KN:KF)(KE:KX): ∀ F h,evX fx77 C lf [] F h KN (fun F h=>r (F 4) h) KE=q77_28 C lf r (F 0) (F 1) h:=cSeq (a:=subX fx77 [0]) (b:=subX fx77 [1]) (by kernel_rfl) (B:=(fun F h=>q77_26 C lf r (F 0) (F 1) h)) (q77_26_eq C lf r KN KE) (q77_27_eq C lf (fun x0 x1 h=>q77_26 C lf r x0 x1 h) (fun F h=>r (F 4) h) KE)
noncomputable def fs77(C:YC)(lf:Nat)(a0 a1:SV)(h:HW):Rs:=q77_28 C lf ff77 (some a0) (some a1) h
theorem fs77_eq(C:YC)(lf:Nat)(a0 a1:SV)(h:HW):yFn Tryz.prog fx77 C lf [a0,a1] h=fs77 C lf a0 a1 h:=fnX (K:=(fun F h=>ff77 (F 4) h)) (by kernel_rfl) (((q77_28_eq C lf ff77 (fun F h=>ff77 (F 4) h) (fun _ _ _=>none)) _ h).trans (by kernel_rfl))
noncomputable def fy77:YX Tryz.prog:=Y2 fx77 fs77 fs77_eq (by kernel_rfl)
noncomputable def fx78:XF Tryz.prog:=⟨78,Tryz.f78,fun _=> .text,Tryz.func78,by kernel_rfl,by kernel_rfl,by kernel_rfl,by kernel_rfl⟩
noncomputable def ff78(h:HW):Rs:=
 some (.ret (.tup []),h)
noncomputable def q78_40(C:YC)(lf:Nat)(n:K0)(x0 x1:O)(h:HW):Rs:=
 ob x0 fun a0=>
 ob (semNil a0) fun y1=>
 ob (fa 4 y1) fun y2=>
 ob (ld1 y2 h) fun y3=>
 ob x1 fun a4=>
 ob (ixS 308 y3 a4) fun y5=>
 ob (fa 1 y5) fun y6=>
 ob (fa 1 y6) fun y7=>
 ob (ld1 y7 h) fun y8=>
 ob (bin Tryz.prog .eql 3 y8 (.int .i64 0)) fun y9=>
 bc (gd true (some y9) (ob x0 fun a10=>
 some (.ret a10,h)) h) fun y11 h11=>
 bc (gd true (some y9) (ob (semNil y11) fun y12=>
 some (.ret y12,h11)) h11) fun y13 h13=>
 bc (gd true (some y9) (ob (fa 4 y13) fun y14=>
 some (.ret y14,h13)) h13) fun y15 h15=>
 bc (gd true (some y9) (ob (ld1 y15 h15) fun y16=>
 some (.ret y16,h15)) h15) fun y17 h17=>
 bc (gd true (some y9) (ob x1 fun a18=>
 some (.ret a18,h17)) h17) fun y19 h19=>
 bc (gd true (some y9) (ob (ixS 308 y17 y19) fun y20=>
 some (.ret y20,h19)) h19) fun y21 h21=>
 bc (gd true (some y9) (ob (fa 11 y21) fun y22=>
 some (.ret y22,h21)) h21) fun y23 h23=>
 bc (gd true (some y9) (ob (ld1 y23 h23) fun y24=>
 some (.ret y24,h23)) h23) fun y25 h25=>
 bc (gd true (some y9) (ob (bin Tryz.prog .eql 3 y25 (.int .i64 0)) fun y26=>
 some (.ret y26,h25)) h25) fun y27 h27=>
 ob (ypk y9 y27 (.bool false)) fun y28=>
 yIf y28
 (ob x0 fun a29=>
 ob x1 fun a30=>
 bc (C (.fn 142) [a29,a30,(.int .i64 0)] h27) fun y31 h31=>
 ob x0 fun a32=>
 ob (semNil a32) fun y33=>
 ob (fa 4 y33) fun y34=>
 ob (ld1 y34 h31) fun y35=>
 ob x1 fun a36=>
 ob (semBuild Tryz.prog 158 [] []) fun y37=>
 ob (ixS 308 y35 a36) fun y38=>
 ob (st 308 y38 y37 h31) fun h39=>
 n h39)
 (n h27)
theorem q78_40_eq(C:YC)(lf:Nat)(n:K0)(KR:KF)(KE:KX): ∀ F h,evX fx78 C lf [] F h (fun F h=>n h) KR KE=q78_40 C lf n (F 0) (F 1) h:=by
 intro F h;kernel_rfl
noncomputable def fs78(C:YC)(lf:Nat)(a0 a1:SV)(h:HW):Rs:=q78_40 C lf ff78 (some a0) (some a1) h
theorem fs78_eq(C:YC)(lf:Nat)(a0 a1:SV)(h:HW):yFn Tryz.prog fx78 C lf [a0,a1] h=fs78 C lf a0 a1 h:=fnX (K:=(fun F h=>ff78 h)) (by kernel_rfl) (((q78_40_eq C lf ff78 (fun F h=>ff78 h) (fun _ _ _=>none)) _ h).trans (by kernel_rfl))
noncomputable def fy78:YX Tryz.prog:=Y2 fx78 fs78 fs78_eq (by kernel_rfl)
noncomputable def fx79:XF Tryz.prog:=⟨79,Tryz.f79,fun _=> .text,Tryz.func79,by kernel_rfl,by kernel_rfl,by kernel_rfl,by kernel_rfl⟩
noncomputable def fx80:XF Tryz.prog:=⟨80,Tryz.f80,fun _=> .text,Tryz.func80,by kernel_rfl,by kernel_rfl,by kernel_rfl,by kernel_rfl⟩
noncomputable def ff80(h:HW):Rs:=
 some (.ret (.tup []),h)
noncomputable def q80_4(C:YC)(lf:Nat)(n:K0)(x0:O)(h:HW):Rs:=
 ob x0 fun a0=>
 bc (C (.fn 55) [a0] h) fun y1 h1=>
 ob (unE .not y1) fun y2=>
 bc (C (.fn 84) [y2,(.int .i64 14)] h1) fun y3 h3=>
 n h3
theorem q80_4_eq(C:YC)(lf:Nat)(n:K0)(KR:KF)(KE:KX): ∀ F h,evX fx80 C lf [] F h (fun F h=>n h) KR KE=q80_4 C lf n (F 0) h:=by
 intro F h;kernel_rfl
noncomputable def fs80(C:YC)(lf:Nat)(a0:SV)(h:HW):Rs:=q80_4 C lf ff80 (some a0) h
theorem fs80_eq(C:YC)(lf:Nat)(a0:SV)(h:HW):yFn Tryz.prog fx80 C lf [a0] h=fs80 C lf a0 h:=fnX (K:=(fun F h=>ff80 h)) (by kernel_rfl) (((q80_4_eq C lf ff80 (fun F h=>ff80 h) (fun _ _ _=>none)) _ h).trans (by kernel_rfl))
noncomputable def fy80:YX Tryz.prog:=Y1 fx80 fs80 fs80_eq (by kernel_rfl)
noncomputable def fx81:XF Tryz.prog:=⟨81,Tryz.f81,fun r=>bif Nat.beq r 4 then .ord [0,1,2,4,5,6,3,7,8,9,10] [(9,[7,3])] else .text,Tryz.func81,by kernel_rfl,by kernel_rfl,by kernel_rfl,by kernel_rfl⟩
noncomputable def fx83:XF Tryz.prog:=⟨83,Tryz.f83,fun _=> .text,Tryz.func83,by kernel_rfl,by kernel_rfl,by kernel_rfl,by kernel_rfl⟩
noncomputable def ff83(h:HW):Rs:=
 some (.ret (.tup []),h)
noncomputable def q83_31(C:YC)(lf:Nat)(n:K0)(x0 x1 x2 x3:O)(h:HW):Rs:=
 ob x1 fun a0=>
 b2 (ybx 48 a0 h) fun y1 h1=>
 ob x2 fun a2=>
 b2 (ybx 166 a2 h1) fun y3 h3=>
 ob x3 fun a4=>
 bc (gd true (some a4) (ob (fa 2 y3) fun y5=>
 some (.ret y5,h3)) h3) fun y6 h6=>
 bc (gd true (some a4) (ob (ld1 y6 h6) fun y7=>
 some (.ret y7,h6)) h6) fun y8 h8=>
 ob (ypk a4 y8 (.bool false)) fun y9=>
 bc (gd false (some y9) (ob x0 fun a10=>
 some (.ret a10,h8)) h8) fun y11 h11=>
 bc (gd false (some y9) (ob (fa 0 y3) fun y12=>
 some (.ret y12,h11)) h11) fun y13 h13=>
 bc (gd false (some y9) (ob (ld1 y13 h13) fun y14=>
 some (.ret y14,h13)) h13) fun y15 h15=>
 bc (gd false (some y9) (bc (C (.fn 85) [y11,y15] h15) fun y16 h16=>
 some (.ret y16,h16)) h15) fun y17 h17=>
 bc (gd false (some y9) (ob (fd1 1 y17) fun y18=>
 some (.ret y18,h17)) h17) fun y19 h19=>
 bc (gd false (some y9) (ob (bin Tryz.prog .eql 3 y19 (.int .i64 0)) fun y20=>
 some (.ret y20,h19)) h19) fun y21 h21=>
 ob (ypk y9 (.bool true) y21) fun y22=>
 bc (C (.fn 84) [y22,(.int .i64 2)] h21) fun y23 h23=>
 ob x0 fun a24=>
 ob (ldN 5 y1 h23) fun y25=>
 ob (fa 0 y3) fun y26=>
 ob (ld1 y26 h23) fun y27=>
 bc (C (.fn 103) [a24,y25,y27,(.int .i64 2)] h23) fun y28 h28=>
 ob (unE .not y28) fun y29=>
 bc (C (.fn 84) [y29,(.int .i64 13)] h28) fun y30 h30=>
 n h30
theorem q83_31_eq(C:YC)(lf:Nat)(n:K0)(KR:KF)(KE:KX): ∀ F h,evX fx83 C lf [] F h (fun F h=>n h) KR KE=q83_31 C lf n (F 0) (F 1) (F 2) (F 3) h:=by
 intro F h;kernel_rfl
noncomputable def fs83(C:YC)(lf:Nat)(a0 a1 a2 a3:SV)(h:HW):Rs:=q83_31 C lf ff83 (some a0) (some a1) (some a2) (some a3) h
theorem fs83_eq(C:YC)(lf:Nat)(a0 a1 a2 a3:SV)(h:HW):yFn Tryz.prog fx83 C lf [a0,a1,a2,a3] h=fs83 C lf a0 a1 a2 a3 h:=fnX (K:=(fun F h=>ff83 h)) (by kernel_rfl) (((q83_31_eq C lf ff83 (fun F h=>ff83 h) (fun _ _ _=>none)) _ h).trans (by kernel_rfl))
noncomputable def fy83:YX Tryz.prog:=Y4 fx83 fs83 fs83_eq (by kernel_rfl)
noncomputable def fx84:XF Tryz.prog:=⟨84,Tryz.f84,fun _=> .text,Tryz.func84,by kernel_rfl,by kernel_rfl,by kernel_rfl,by kernel_rfl⟩
noncomputable def ff84(h:HW):Rs:=
 some (.ret (.tup []),h)
noncomputable def q84_3(C:YC)(lf:Nat)(n:K0)(x0 x1:O)(h:HW):Rs:=
 ob x0 fun a0=>
 yIf a0
 (ob x1 fun a1=>
 ob (semBuild Tryz.prog 220 [0] [a1]) fun y2=>
 yPan false [(.ifc 220 y2)] h)
 (n h)
theorem q84_3_eq(C:YC)(lf:Nat)(n:K0)(KR:KF)(KE:KX): ∀ F h,evX fx84 C lf [] F h (fun F h=>n h) KR KE=q84_3 C lf n (F 0) (F 1) h:=by
 intro F h;kernel_rfl
noncomputable def fs84(C:YC)(lf:Nat)(a0 a1:SV)(h:HW):Rs:=q84_3 C lf ff84 (some a0) (some a1) h
theorem fs84_eq(C:YC)(lf:Nat)(a0 a1:SV)(h:HW):yFn Tryz.prog fx84 C lf [a0,a1] h=fs84 C lf a0 a1 h:=fnX (K:=(fun F h=>ff84 h)) (by kernel_rfl) (((q84_3_eq C lf ff84 (fun F h=>ff84 h) (fun _ _ _=>none)) _ h).trans (by kernel_rfl))
noncomputable def fy84:YX Tryz.prog:=Y2 fx84 fs84 fs84_eq (by kernel_rfl)
noncomputable def fx85:XF Tryz.prog:=⟨85,Tryz.f85,fun _=> .text,Tryz.func85,by kernel_rfl,by kernel_rfl,by kernel_rfl,by kernel_rfl⟩
noncomputable def ff85(x4:O)(h:HW):Rs:=
 ob x4 fun a0=>
 ob (ldN 10 a0 h) fun y1=>
 some (.ret y1,h)
noncomputable def q85_15(C:YC)(lf:Nat)(r:K1)(x0 x1:O)(h:HW):Rs:=
 b2 (yAl Tryz.prog 63 h) fun y2 h2=>
 ob x0 fun a3=>
 ob (semNil a3) fun y4=>
 ob (fa 0 y4) fun y5=>
 ob (ld1 y5 h2) fun y6=>
 ob x1 fun a7=>
 bc (C (.fn 57) [y6,a7] h2) fun y8 h8=>
 ob (ext 0 y8) fun y9=>
 ob (ext 1 y8) fun y10=>
 b2 (yAl Tryz.prog 63 h8) fun y11 h11=>
 ob (st 10 y11 y9 h11) fun h12=>
 ob (ldN 10 y11 h12) fun y13=>
 ob (st 10 y2 y13 h12) fun h14=>
 r (some y2) h14
theorem q85_15_eq(C:YC)(lf:Nat)(r:K1)(KN:KF)(KE:KX): ∀ F h,evX fx85 C lf [] F h KN (fun F h=>r (F 4) h) KE=q85_15 C lf r (F 0) (F 1) h:=by
 intro F h;kernel_rfl
noncomputable def fs85(C:YC)(lf:Nat)(a0 a1:SV)(h:HW):Rs:=q85_15 C lf ff85 (some a0) (some a1) h
theorem fs85_eq(C:YC)(lf:Nat)(a0 a1:SV)(h:HW):yFn Tryz.prog fx85 C lf [a0,a1] h=fs85 C lf a0 a1 h:=fnX (K:=(fun F h=>ff85 (F 4) h)) (by kernel_rfl) (((q85_15_eq C lf ff85 (fun F h=>ff85 (F 4) h) (fun _ _ _=>none)) _ h).trans (by kernel_rfl))
noncomputable def fy85:YX Tryz.prog:=Y2 fx85 fs85 fs85_eq (by kernel_rfl)
noncomputable def fx86:XF Tryz.prog:=⟨86,Tryz.f86,fun _=> .text,Tryz.func86,by kernel_rfl,by kernel_rfl,by kernel_rfl,by kernel_rfl⟩
noncomputable def fx87:XF Tryz.prog:=⟨87,Tryz.f87,fun _=> .text,Tryz.func87,by kernel_rfl,by kernel_rfl,by kernel_rfl,by kernel_rfl⟩
noncomputable def ff87(x4:O)(h:HW):Rs:=
 ob x4 fun a0=>
 some (.ret a0,h)
noncomputable def q87_8(C:YC)(lf:Nat)(r:K1)(x0 x1:O)(h:HW):Rs:=
 ob x0 fun a1=>
 b2 (ybx 48 a1 h) fun y2 h2=>
 ob x1 fun a3=>
 ob (bin Tryz.prog .and 34 a3 (.int .i64 4095)) fun y4=>
 ob (fa 3 y2) fun y5=>
 ob (ld1 y5 h2) fun y6=>
 ob (bin Tryz.prog .andNot 34 y4 y6) fun y7=>
 r (some y7) h2
theorem q87_8_eq(C:YC)(lf:Nat)(r:K1)(KN:KF)(KE:KX): ∀ F h,evX fx87 C lf [] F h KN (fun F h=>r (F 4) h) KE=q87_8 C lf r (F 0) (F 1) h:=by
 intro F h;kernel_rfl
noncomputable def fs87(C:YC)(lf:Nat)(a0 a1:SV)(h:HW):Rs:=q87_8 C lf ff87 (some a0) (some a1) h
theorem fs87_eq(C:YC)(lf:Nat)(a0 a1:SV)(h:HW):yFn Tryz.prog fx87 C lf [a0,a1] h=fs87 C lf a0 a1 h:=fnX (K:=(fun F h=>ff87 (F 4) h)) (by kernel_rfl) (((q87_8_eq C lf ff87 (fun F h=>ff87 (F 4) h) (fun _ _ _=>none)) _ h).trans (by kernel_rfl))
noncomputable def fy87:YX Tryz.prog:=Y2 fx87 fs87 fs87_eq (by kernel_rfl)
noncomputable def fx89:XF Tryz.prog:=⟨89,Tryz.f89,fun _=> .text,Tryz.func89,by kernel_rfl,by kernel_rfl,by kernel_rfl,by kernel_rfl⟩
noncomputable def ff89(x10 x11:O)(h:HW):Rs:=
 ob x10 fun a0=>
 ob (ldN 5 a0 h) fun y1=>
 ob x11 fun a2=>
 some (.ret (.tup [y1,a2]),h)
noncomputable def q89_13(C:YC)(lf:Nat)(n:K9)(r:K2)(x0 x3 x4 x6 x10 x14 x15 x16 x17 x18 x19 x21:O)(h:HW):Rs:=
 ob x21 fun a4=>
 yIf a4
 (ob x14 fun a5=>
 ob x19 fun a6=>
 ob x18 fun a7=>
 ob x16 fun a8=>
 ob (semBuild Tryz.prog 176 [0,1,2,3] [a5,a6,a7,a8]) fun y9=>
 ob x10 fun a10=>
 ob (st 5 a10 y9 h) fun h11=>
 r x10 (some (.int .i64 0)) h11)
 (ob x19 fun a12=>
 n x0 x3 x4 x6 x10 (some a12) x15 x16 x17 h)
theorem q89_13_eq(C:YC)(lf:Nat)(n:K9)(r:K2)(K1:KF)(K0:KF)(KE:KX): ∀ F h,evX fx89 C lf [1,1,1,1,1,1,1,1,1,0,0,0,1,1,1,1,1,1,1,1,1] F h (fun F h=>n (F 0) (F 3) (F 4) (F 6) (F 10) (F 14) (F 15) (F 16) (F 17) h) (fun F h=>r (F 10) (F 11) h) (bk 1 K1 (bk 0 K0 KE))=q89_13 C lf n r (F 0) (F 3) (F 4) (F 6) (F 10) (F 14) (F 15) (F 16) (F 17) (F 18) (F 19) (F 21) h:=by
 intro F h;kernel_rfl
noncomputable def q89_29(C:YC)(lf:Nat)(r:K2)(e1:K9)(x0 x3 x4 x6 x10 x14 x15 x16 x17 x22:O)(h:HW):Rs:=
 b2 (ybs Tryz.prog 22 0 [] [] h) fun y14 h14=>
 ob x22 fun a15=>
 ob (fa 1 a15) fun y16=>
 ob (ld1 y16 h14) fun y17=>
 b2 (ybl Tryz.prog .append #[22,22] [y14,y17] h14) fun y18 h18=>
 ob x15 fun a19=>
 b2 (ybl Tryz.prog .append #[22,22] [y18,a19] h18) fun y20 h20=>
 ob (lenE Tryz.prog 22 y20) fun y21=>
 ob (bin Tryz.prog .eql 3 y21 (.int .i64 0)) fun y22=>
 yIf y22
 (ob x14 fun a23=>
 ob x14 fun a24=>
 ob x16 fun a25=>
 ob (semBuild Tryz.prog 176 [0,1,4,3] [a23,a24,(.bool true),a25]) fun y26=>
 ob x10 fun a27=>
 ob (st 5 a27 y26 h20) fun h28=>
 r x10 (some (.int .i64 0)) h28)
 (e1 x0 x3 x4 x6 x10 x14 (some y20) x16 x17 h20)
theorem q89_29_eq(C:YC)(lf:Nat)(r:K2)(e1:K9)(KN:KF)(K0:KF)(KE:KX): ∀ F h,evX fx89 C lf [1,1,1,1,1,1,1,1,1,0,0,0,1,1,1,1,1,1,1,1,0,1,0,1,1,1,1,1] F h KN (fun F h=>r (F 10) (F 11) h) (bk 1 (fun F h=>e1 (F 0) (F 3) (F 4) (F 6) (F 10) (F 14) (F 15) (F 16) (F 17) h) (bk 0 K0 KE))=q89_29 C lf r e1 (F 0) (F 3) (F 4) (F 6) (F 10) (F 14) (F 15) (F 16) (F 17) (F 22) h:=by
 intro F h;kernel_rfl
noncomputable def q89_38(C:YC)(lf:Nat)(n:K10)(x0 x3 x4 x6 x10 x14 x15 x16 x17 x21 x22:O)(h:HW):Rs:=
 ob x21 fun a30=>
 yIf a30
 (ob x16 fun a31=>
 bc (gd false (some a31) (ob x22 fun a32=>
 ob (fa 2 a32) fun y33=>
 some (.ret y33,h)) h) fun y34 h34=>
 bc (gd false (some a31) (ob (ld1 y34 h34) fun y35=>
 some (.ret y35,h34)) h34) fun y36 h36=>
 ob (ypk a31 (.bool true) y36) fun y37=>
 n x0 x3 x4 x6 x10 x14 x15 (some y37) x17 x22 h36)
 (n x0 x3 x4 x6 x10 x14 x15 x16 x17 x22 h)
theorem q89_38_eq(C:YC)(lf:Nat)(n:K10)(KR:KF)(K1:KF)(K0:KF)(KE:KX): ∀ F h,evX fx89 C lf [1,1,1,1,1,1,1,1,1,0,0,0,1,1,1,1,1,1,1,1,0,1,0,1,1,1,1,0] F h (fun F h=>n (F 0) (F 3) (F 4) (F 6) (F 10) (F 14) (F 15) (F 16) (F 17) (F 22) h) KR (bk 1 K1 (bk 0 K0 KE))=q89_38 C lf n (F 0) (F 3) (F 4) (F 6) (F 10) (F 14) (F 15) (F 16) (F 17) (F 21) (F 22) h:=by
 intro F h;kernel_rfl
noncomputable def q89_39(C:YC)(lf:Nat)(r:K2)(e1:K9)(x0 x3 x4 x6 x10 x14 x15 x16 x17 x21 x22:O)(h:HW):Rs:=
 q89_38 C lf (fun x0 x3 x4 x6 x10 x14 x15 x16 x17 x22 h=>q89_29 C lf r e1 x0 x3 x4 x6 x10 x14 x15 x16 x17 x22 h) x0 x3 x4 x6 x10 x14 x15 x16 x17 x21 x22 h
theorem q89_39_eq(C:YC)(lf:Nat)(r:K2)(e1:K9)(KN:KF)(K0:KF)(KE:KX): ∀ F h,evX fx89 C lf [1,1,1,1,1,1,1,1,1,0,0,0,1,1,1,1,1,1,1,1,0,1,0,1,1,1,1] F h KN (fun F h=>r (F 10) (F 11) h) (bk 1 (fun F h=>e1 (F 0) (F 3) (F 4) (F 6) (F 10) (F 14) (F 15) (F 16) (F 17) h) (bk 0 K0 KE))=q89_39 C lf r e1 (F 0) (F 3) (F 4) (F 6) (F 10) (F 14) (F 15) (F 16) (F 17) (F 21) (F 22) h:=cSeq (a:=subX fx89 [1,1,1,1,1,1,1,1,1,0,0,0,1,1,1,1,1,1,1,1,0,1,0,1,1,1,1,0]) (b:=subX fx89 [1,1,1,1,1,1,1,1,1,0,0,0,1,1,1,1,1,1,1,1,0,1,0,1,1,1,1,1]) (by kernel_rfl) (B:=(fun F h=>q89_29 C lf r e1 (F 0) (F 3) (F 4) (F 6) (F 10) (F 14) (F 15) (F 16) (F 17) (F 22) h)) (q89_29_eq C lf r e1 KN K0 KE) (q89_38_eq C lf (fun x0 x3 x4 x6 x10 x14 x15 x16 x17 x22 h=>q89_29 C lf r e1 x0 x3 x4 x6 x10 x14 x15 x16 x17 x22 h) (fun F h=>r (F 10) (F 11) h) (fun F h=>e1 (F 0) (F 3) (F 4) (F 6) (F 10) (F 14) (F 15) (F 16) (F 17) h) K0 KE)
noncomputable def q89_43(C:YC)(lf:Nat)(n:K11)(x0 x3 x4 x6 x10 x14 x15 x16 x17 x21 x22:O)(h:HW):Rs:=
 ob x22 fun a40=>
 ob (fa 0 a40) fun y41=>
 ob (ld1 y41 h) fun y42=>
 yIf y42
 (n x0 x3 x4 x6 x10 (some (.int .i64 1)) x15 x16 x17 x21 x22 h)
 (n x0 x3 x4 x6 x10 x14 x15 x16 x17 x21 x22 h)
theorem q89_43_eq(C:YC)(lf:Nat)(n:K11)(KR:KF)(K1:KF)(K0:KF)(KE:KX): ∀ F h,evX fx89 C lf [1,1,1,1,1,1,1,1,1,0,0,0,1,1,1,1,1,1,1,1,0,1,0,1,1,1,0] F h (fun F h=>n (F 0) (F 3) (F 4) (F 6) (F 10) (F 14) (F 15) (F 16) (F 17) (F 21) (F 22) h) KR (bk 1 K1 (bk 0 K0 KE))=q89_43 C lf n (F 0) (F 3) (F 4) (F 6) (F 10) (F 14) (F 15) (F 16) (F 17) (F 21) (F 22) h:=by
 intro F h;kernel_rfl
noncomputable def q89_44(C:YC)(lf:Nat)(r:K2)(e1:K9)(x0 x3 x4 x6 x10 x14 x15 x16 x17 x21 x22:O)(h:HW):Rs:=
 q89_43 C lf (fun x0 x3 x4 x6 x10 x14 x15 x16 x17 x21 x22 h=>q89_39 C lf r e1 x0 x3 x4 x6 x10 x14 x15 x16 x17 x21 x22 h) x0 x3 x4 x6 x10 x14 x15 x16 x17 x21 x22 h
theorem q89_44_eq(C:YC)(lf:Nat)(r:K2)(e1:K9)(KN:KF)(K0:KF)(KE:KX): ∀ F h,evX fx89 C lf [1,1,1,1,1,1,1,1,1,0,0,0,1,1,1,1,1,1,1,1,0,1,0,1,1,1] F h KN (fun F h=>r (F 10) (F 11) h) (bk 1 (fun F h=>e1 (F 0) (F 3) (F 4) (F 6) (F 10) (F 14) (F 15) (F 16) (F 17) h) (bk 0 K0 KE))=q89_44 C lf r e1 (F 0) (F 3) (F 4) (F 6) (F 10) (F 14) (F 15) (F 16) (F 17) (F 21) (F 22) h:=cSeq (a:=subX fx89 [1,1,1,1,1,1,1,1,1,0,0,0,1,1,1,1,1,1,1,1,0,1,0,1,1,1,0]) (b:=subX fx89 [1,1,1,1,1,1,1,1,1,0,0,0,1,1,1,1,1,1,1,1,0,1,0,1,1,1,1]) (by kernel_rfl) (B:=(fun F h=>q89_39 C lf r e1 (F 0) (F 3) (F 4) (F 6) (F 10) (F 14) (F 15) (F 16) (F 17) (F 21) (F 22) h)) (q89_39_eq C lf r e1 KN K0 KE) (q89_43_eq C lf (fun x0 x3 x4 x6 x10 x14 x15 x16 x17 x21 x22 h=>q89_39 C lf r e1 x0 x3 x4 x6 x10 x14 x15 x16 x17 x21 x22 h) (fun F h=>r (F 10) (F 11) h) (fun F h=>e1 (F 0) (F 3) (F 4) (F 6) (F 10) (F 14) (F 15) (F 16) (F 17) h) K0 KE)
noncomputable def q89_53(C:YC)(lf:Nat)(n:K11)(x0 x3 x4 x6 x10 x14 x15 x16 x17 x19 x21:O)(h:HW):Rs:=
 ob x0 fun a45=>
 ob x19 fun a46=>
 bc (C (.fn 152) [a45,a46] h) fun y47 h47=>
 bc (C (.fn 117) [y47] h47) fun y48 h48=>
 ob (ext 0 y48) fun y49=>
 ob (ext 1 y48) fun y50=>
 b2 (yAl Tryz.prog 188 h48) fun y51 h51=>
 ob (st 3 y51 y49 h51) fun h52=>
 n x0 x3 x4 x6 x10 x14 x15 x16 x17 x21 (some y51) h52
theorem q89_53_eq(C:YC)(lf:Nat)(n:K11)(KR:KF)(K1:KF)(K0:KF)(KE:KX): ∀ F h,evX fx89 C lf [1,1,1,1,1,1,1,1,1,0,0,0,1,1,1,1,1,1,1,1,0,1,0,1,1,0] F h (fun F h=>n (F 0) (F 3) (F 4) (F 6) (F 10) (F 14) (F 15) (F 16) (F 17) (F 21) (F 22) h) KR (bk 1 K1 (bk 0 K0 KE))=q89_53 C lf n (F 0) (F 3) (F 4) (F 6) (F 10) (F 14) (F 15) (F 16) (F 17) (F 19) (F 21) h:=by
 intro F h;kernel_rfl
noncomputable def q89_54(C:YC)(lf:Nat)(r:K2)(e1:K9)(x0 x3 x4 x6 x10 x14 x15 x16 x17 x19 x21:O)(h:HW):Rs:=
 q89_53 C lf (fun x0 x3 x4 x6 x10 x14 x15 x16 x17 x21 x22 h=>q89_44 C lf r e1 x0 x3 x4 x6 x10 x14 x15 x16 x17 x21 x22 h) x0 x3 x4 x6 x10 x14 x15 x16 x17 x19 x21 h
theorem q89_54_eq(C:YC)(lf:Nat)(r:K2)(e1:K9)(KN:KF)(K0:KF)(KE:KX): ∀ F h,evX fx89 C lf [1,1,1,1,1,1,1,1,1,0,0,0,1,1,1,1,1,1,1,1,0,1,0,1,1] F h KN (fun F h=>r (F 10) (F 11) h) (bk 1 (fun F h=>e1 (F 0) (F 3) (F 4) (F 6) (F 10) (F 14) (F 15) (F 16) (F 17) h) (bk 0 K0 KE))=q89_54 C lf r e1 (F 0) (F 3) (F 4) (F 6) (F 10) (F 14) (F 15) (F 16) (F 17) (F 19) (F 21) h:=cSeq (a:=subX fx89 [1,1,1,1,1,1,1,1,1,0,0,0,1,1,1,1,1,1,1,1,0,1,0,1,1,0]) (b:=subX fx89 [1,1,1,1,1,1,1,1,1,0,0,0,1,1,1,1,1,1,1,1,0,1,0,1,1,1]) (by kernel_rfl) (B:=(fun F h=>q89_44 C lf r e1 (F 0) (F 3) (F 4) (F 6) (F 10) (F 14) (F 15) (F 16) (F 17) (F 21) (F 22) h)) (q89_44_eq C lf r e1 KN K0 KE) (q89_53_eq C lf (fun x0 x3 x4 x6 x10 x14 x15 x16 x17 x21 x22 h=>q89_44 C lf r e1 x0 x3 x4 x6 x10 x14 x15 x16 x17 x21 x22 h) (fun F h=>r (F 10) (F 11) h) (fun F h=>e1 (F 0) (F 3) (F 4) (F 6) (F 10) (F 14) (F 15) (F 16) (F 17) h) K0 KE)
noncomputable def q89_60(C:YC)(lf:Nat)(n:K11)(r:K2)(x0 x3 x4 x6 x10 x14 x15 x16 x17 x19 x21:O)(h:HW):Rs:=
 ob x17 fun a55=>
 ob (bin Tryz.prog .gtr 3 a55 (.int .i64 8)) fun y56=>
 yIf y56
 (ob (semBuild Tryz.prog 176 [] []) fun y57=>
 ob x10 fun a58=>
 ob (st 5 a58 y57 h) fun h59=>
 r x10 (some (.int .i64 40)) h59)
 (n x0 x3 x4 x6 x10 x14 x15 x16 x17 x19 x21 h)
theorem q89_60_eq(C:YC)(lf:Nat)(n:K11)(r:K2)(K1:KF)(K0:KF)(KE:KX): ∀ F h,evX fx89 C lf [1,1,1,1,1,1,1,1,1,0,0,0,1,1,1,1,1,1,1,1,0,1,0,1,0] F h (fun F h=>n (F 0) (F 3) (F 4) (F 6) (F 10) (F 14) (F 15) (F 16) (F 17) (F 19) (F 21) h) (fun F h=>r (F 10) (F 11) h) (bk 1 K1 (bk 0 K0 KE))=q89_60 C lf n r (F 0) (F 3) (F 4) (F 6) (F 10) (F 14) (F 15) (F 16) (F 17) (F 19) (F 21) h:=by
 intro F h;kernel_rfl
noncomputable def q89_61(C:YC)(lf:Nat)(r:K2)(e1:K9)(x0 x3 x4 x6 x10 x14 x15 x16 x17 x19 x21:O)(h:HW):Rs:=
 q89_60 C lf (fun x0 x3 x4 x6 x10 x14 x15 x16 x17 x19 x21 h=>q89_54 C lf r e1 x0 x3 x4 x6 x10 x14 x15 x16 x17 x19 x21 h) r x0 x3 x4 x6 x10 x14 x15 x16 x17 x19 x21 h
theorem q89_61_eq(C:YC)(lf:Nat)(r:K2)(e1:K9)(KN:KF)(K0:KF)(KE:KX): ∀ F h,evX fx89 C lf [1,1,1,1,1,1,1,1,1,0,0,0,1,1,1,1,1,1,1,1,0,1,0,1] F h KN (fun F h=>r (F 10) (F 11) h) (bk 1 (fun F h=>e1 (F 0) (F 3) (F 4) (F 6) (F 10) (F 14) (F 15) (F 16) (F 17) h) (bk 0 K0 KE))=q89_61 C lf r e1 (F 0) (F 3) (F 4) (F 6) (F 10) (F 14) (F 15) (F 16) (F 17) (F 19) (F 21) h:=cSeq (a:=subX fx89 [1,1,1,1,1,1,1,1,1,0,0,0,1,1,1,1,1,1,1,1,0,1,0,1,0]) (b:=subX fx89 [1,1,1,1,1,1,1,1,1,0,0,0,1,1,1,1,1,1,1,1,0,1,0,1,1]) (by kernel_rfl) (B:=(fun F h=>q89_54 C lf r e1 (F 0) (F 3) (F 4) (F 6) (F 10) (F 14) (F 15) (F 16) (F 17) (F 19) (F 21) h)) (q89_54_eq C lf r e1 KN K0 KE) (q89_60_eq C lf (fun x0 x3 x4 x6 x10 x14 x15 x16 x17 x19 x21 h=>q89_54 C lf r e1 x0 x3 x4 x6 x10 x14 x15 x16 x17 x19 x21 h) r (fun F h=>e1 (F 0) (F 3) (F 4) (F 6) (F 10) (F 14) (F 15) (F 16) (F 17) h) K0 KE)
noncomputable def q89_64(C:YC)(lf:Nat)(n:K11)(x0 x3 x4 x6 x10 x14 x15 x16 x17 x19 x21:O)(h:HW):Rs:=
 ob x17 fun a62=>
 ob (bin Tryz.prog .add 3 a62 (.int .i64 1)) fun y63=>
 n x0 x3 x4 x6 x10 x14 x15 x16 (some y63) x19 x21 h
theorem q89_64_eq(C:YC)(lf:Nat)(n:K11)(KR:KF)(K1:KF)(K0:KF)(KE:KX): ∀ F h,evX fx89 C lf [1,1,1,1,1,1,1,1,1,0,0,0,1,1,1,1,1,1,1,1,0,1,0,0] F h (fun F h=>n (F 0) (F 3) (F 4) (F 6) (F 10) (F 14) (F 15) (F 16) (F 17) (F 19) (F 21) h) KR (bk 1 K1 (bk 0 K0 KE))=q89_64 C lf n (F 0) (F 3) (F 4) (F 6) (F 10) (F 14) (F 15) (F 16) (F 17) (F 19) (F 21) h:=by
 intro F h;kernel_rfl
noncomputable def q89_65(C:YC)(lf:Nat)(r:K2)(e1:K9)(x0 x3 x4 x6 x10 x14 x15 x16 x17 x19 x21:O)(h:HW):Rs:=
 q89_64 C lf (fun x0 x3 x4 x6 x10 x14 x15 x16 x17 x19 x21 h=>q89_61 C lf r e1 x0 x3 x4 x6 x10 x14 x15 x16 x17 x19 x21 h) x0 x3 x4 x6 x10 x14 x15 x16 x17 x19 x21 h
theorem q89_65_eq(C:YC)(lf:Nat)(r:K2)(e1:K9)(KN:KF)(K0:KF)(KE:KX): ∀ F h,evX fx89 C lf [1,1,1,1,1,1,1,1,1,0,0,0,1,1,1,1,1,1,1,1,0,1,0] F h KN (fun F h=>r (F 10) (F 11) h) (bk 1 (fun F h=>e1 (F 0) (F 3) (F 4) (F 6) (F 10) (F 14) (F 15) (F 16) (F 17) h) (bk 0 K0 KE))=q89_65 C lf r e1 (F 0) (F 3) (F 4) (F 6) (F 10) (F 14) (F 15) (F 16) (F 17) (F 19) (F 21) h:=cSeq (a:=subX fx89 [1,1,1,1,1,1,1,1,1,0,0,0,1,1,1,1,1,1,1,1,0,1,0,0]) (b:=subX fx89 [1,1,1,1,1,1,1,1,1,0,0,0,1,1,1,1,1,1,1,1,0,1,0,1]) (by kernel_rfl) (B:=(fun F h=>q89_61 C lf r e1 (F 0) (F 3) (F 4) (F 6) (F 10) (F 14) (F 15) (F 16) (F 17) (F 19) (F 21) h)) (q89_61_eq C lf r e1 KN K0 KE) (q89_64_eq C lf (fun x0 x3 x4 x6 x10 x14 x15 x16 x17 x19 x21 h=>q89_61 C lf r e1 x0 x3 x4 x6 x10 x14 x15 x16 x17 x19 x21 h) (fun F h=>r (F 10) (F 11) h) (fun F h=>e1 (F 0) (F 3) (F 4) (F 6) (F 10) (F 14) (F 15) (F 16) (F 17) h) K0 KE)
noncomputable def q89_66(C:YC)(lf:Nat)(n:K12)(x0 x3 x4 x6 x10 x14 x15 x16 x17 x18 x19 x21:O)(h:HW):Rs:=
 n x0 x3 x4 x6 x10 x14 x15 x16 x17 x18 x19 x21 h
theorem q89_66_eq(C:YC)(lf:Nat)(n:K12)(KR:KF)(K1:KF)(K0:KF)(KE:KX): ∀ F h,evX fx89 C lf [1,1,1,1,1,1,1,1,1,0,0,0,1,1,1,1,1,1,1,1,0,1,1] F h (fun F h=>n (F 0) (F 3) (F 4) (F 6) (F 10) (F 14) (F 15) (F 16) (F 17) (F 18) (F 19) (F 21) h) KR (bk 1 K1 (bk 0 K0 KE))=q89_66 C lf n (F 0) (F 3) (F 4) (F 6) (F 10) (F 14) (F 15) (F 16) (F 17) (F 18) (F 19) (F 21) h:=by
 intro F h;kernel_rfl
noncomputable def q89_68(C:YC)(lf:Nat)(n:K12)(r:K2)(e1:K9)(x0 x3 x4 x6 x10 x14 x15 x16 x17 x18 x19 x21 x112:O)(h:HW):Rs:=
 ob x112 fun a67=>
 yIf a67
 (q89_65 C lf r e1 x0 x3 x4 x6 x10 x14 x15 x16 x17 x19 x21 h)
 (q89_66 C lf n x0 x3 x4 x6 x10 x14 x15 x16 x17 x18 x19 x21 h)
theorem q89_68_eq(C:YC)(lf:Nat)(n:K12)(r:K2)(e1:K9)(K0:KF)(KE:KX): ∀ F h,evX fx89 C lf [1,1,1,1,1,1,1,1,1,0,0,0,1,1,1,1,1,1,1,1,0,1] F h (fun F h=>n (F 0) (F 3) (F 4) (F 6) (F 10) (F 14) (F 15) (F 16) (F 17) (F 18) (F 19) (F 21) h) (fun F h=>r (F 10) (F 11) h) (bk 1 (fun F h=>e1 (F 0) (F 3) (F 4) (F 6) (F 10) (F 14) (F 15) (F 16) (F 17) h) (bk 0 K0 KE))=q89_68 C lf n r e1 (F 0) (F 3) (F 4) (F 6) (F 10) (F 14) (F 15) (F 16) (F 17) (F 18) (F 19) (F 21) (F 112) h:=cCond (x:= .tmp 112) (by kernel_rfl) (q89_65_eq C lf r e1 (fun F h=>n (F 0) (F 3) (F 4) (F 6) (F 10) (F 14) (F 15) (F 16) (F 17) (F 18) (F 19) (F 21) h) K0 KE) (q89_66_eq C lf n (fun F h=>r (F 10) (F 11) h) (fun F h=>e1 (F 0) (F 3) (F 4) (F 6) (F 10) (F 14) (F 15) (F 16) (F 17) h) K0 KE)
noncomputable def q89_93(C:YC)(lf:Nat)(n:K13)(x0 x3 x4 x6 x10 x14 x15 x16 x17 x18 x19 x21:O)(h:HW):Rs:=
 ob x0 fun a69=>
 ob x19 fun a70=>
 bc (C (.fn 107) [a69,a70] h) fun y71 h71=>
 ob (bin Tryz.prog .eql 34 y71 (.int .i64 40960)) fun y72=>
 bc (gd true (some y72) (ob x21 fun a73=>
 some (.ret a73,h71)) h71) fun y74 h74=>
 bc (gd true (some y72) (ob (unE .not y74) fun y75=>
 some (.ret y75,h74)) h74) fun y76 h76=>
 bc (gd true (some y72) (some (.ret y76,h76)) h76) fun y77 h77=>
 bc (gd false (some y77) (ob x3 fun a78=>
 some (.ret a78,h77)) h77) fun y79 h79=>
 bc (gd true (some y72) (ob (ypk y77 (.bool true) y79) fun y80=>
 some (.ret y80,h79)) h79) fun y81 h81=>
 bc (gd true (some y72) (some (.ret y81,h81)) h81) fun y82 h82=>
 bc (gd false (some y82) (ob x16 fun a83=>
 some (.ret a83,h82)) h82) fun y84 h84=>
 bc (gd false (some y82) (some (.ret y84,h84)) h84) fun y85 h85=>
 bc (gd true (some y85) (ob x4 fun a86=>
 some (.ret a86,h85)) h85) fun y87 h87=>
 bc (gd false (some y82) (ob (ypk y85 y87 (.bool false)) fun y88=>
 some (.ret y88,h87)) h87) fun y89 h89=>
 bc (gd true (some y72) (ob (ypk y82 (.bool true) y89) fun y90=>
 some (.ret y90,h89)) h89) fun y91 h91=>
 ob (ypk y72 y91 (.bool false)) fun y92=>
 n x0 x3 x4 x6 x10 x14 x15 x16 x17 x18 x19 x21 (some y92) h91
theorem q89_93_eq(C:YC)(lf:Nat)(n:K13)(KR:KF)(K1:KF)(K0:KF)(KE:KX): ∀ F h,evX fx89 C lf [1,1,1,1,1,1,1,1,1,0,0,0,1,1,1,1,1,1,1,1,0,0] F h (fun F h=>n (F 0) (F 3) (F 4) (F 6) (F 10) (F 14) (F 15) (F 16) (F 17) (F 18) (F 19) (F 21) (F 112) h) KR (bk 1 K1 (bk 0 K0 KE))=q89_93 C lf n (F 0) (F 3) (F 4) (F 6) (F 10) (F 14) (F 15) (F 16) (F 17) (F 18) (F 19) (F 21) h:=by
 intro F h;kernel_rfl
noncomputable def q89_94(C:YC)(lf:Nat)(n:K12)(r:K2)(e1:K9)(x0 x3 x4 x6 x10 x14 x15 x16 x17 x18 x19 x21:O)(h:HW):Rs:=
 q89_93 C lf (fun x0 x3 x4 x6 x10 x14 x15 x16 x17 x18 x19 x21 x112 h=>q89_68 C lf n r e1 x0 x3 x4 x6 x10 x14 x15 x16 x17 x18 x19 x21 x112 h) x0 x3 x4 x6 x10 x14 x15 x16 x17 x18 x19 x21 h
theorem q89_94_eq(C:YC)(lf:Nat)(n:K12)(r:K2)(e1:K9)(K0:KF)(KE:KX): ∀ F h,evX fx89 C lf [1,1,1,1,1,1,1,1,1,0,0,0,1,1,1,1,1,1,1,1,0] F h (fun F h=>n (F 0) (F 3) (F 4) (F 6) (F 10) (F 14) (F 15) (F 16) (F 17) (F 18) (F 19) (F 21) h) (fun F h=>r (F 10) (F 11) h) (bk 1 (fun F h=>e1 (F 0) (F 3) (F 4) (F 6) (F 10) (F 14) (F 15) (F 16) (F 17) h) (bk 0 K0 KE))=q89_94 C lf n r e1 (F 0) (F 3) (F 4) (F 6) (F 10) (F 14) (F 15) (F 16) (F 17) (F 18) (F 19) (F 21) h:=cSeq (a:=subX fx89 [1,1,1,1,1,1,1,1,1,0,0,0,1,1,1,1,1,1,1,1,0,0]) (b:=subX fx89 [1,1,1,1,1,1,1,1,1,0,0,0,1,1,1,1,1,1,1,1,0,1]) (by kernel_rfl) (B:=(fun F h=>q89_68 C lf n r e1 (F 0) (F 3) (F 4) (F 6) (F 10) (F 14) (F 15) (F 16) (F 17) (F 18) (F 19) (F 21) (F 112) h)) (q89_68_eq C lf n r e1 K0 KE) (q89_93_eq C lf (fun x0 x3 x4 x6 x10 x14 x15 x16 x17 x18 x19 x21 x112 h=>q89_68 C lf n r e1 x0 x3 x4 x6 x10 x14 x15 x16 x17 x18 x19 x21 x112 h) (fun F h=>r (F 10) (F 11) h) (fun F h=>e1 (F 0) (F 3) (F 4) (F 6) (F 10) (F 14) (F 15) (F 16) (F 17) h) K0 KE)
noncomputable def q89_95(C:YC)(lf:Nat)(n:K9)(r:K2)(e1:K9)(x0 x3 x4 x6 x10 x14 x15 x16 x17 x18 x19 x21:O)(h:HW):Rs:=
 q89_94 C lf (fun x0 x3 x4 x6 x10 x14 x15 x16 x17 x18 x19 x21 h=>q89_13 C lf n r x0 x3 x4 x6 x10 x14 x15 x16 x17 x18 x19 x21 h) r e1 x0 x3 x4 x6 x10 x14 x15 x16 x17 x18 x19 x21 h
theorem q89_95_eq(C:YC)(lf:Nat)(n:K9)(r:K2)(e1:K9)(K0:KF)(KE:KX): ∀ F h,evX fx89 C lf [1,1,1,1,1,1,1,1,1,0,0,0,1,1,1,1,1,1,1,1] F h (fun F h=>n (F 0) (F 3) (F 4) (F 6) (F 10) (F 14) (F 15) (F 16) (F 17) h) (fun F h=>r (F 10) (F 11) h) (bk 1 (fun F h=>e1 (F 0) (F 3) (F 4) (F 6) (F 10) (F 14) (F 15) (F 16) (F 17) h) (bk 0 K0 KE))=q89_95 C lf n r e1 (F 0) (F 3) (F 4) (F 6) (F 10) (F 14) (F 15) (F 16) (F 17) (F 18) (F 19) (F 21) h:=cSeq (a:=subX fx89 [1,1,1,1,1,1,1,1,1,0,0,0,1,1,1,1,1,1,1,1,0]) (b:=subX fx89 [1,1,1,1,1,1,1,1,1,0,0,0,1,1,1,1,1,1,1,1,1]) (by kernel_rfl) (B:=(fun F h=>q89_13 C lf n r (F 0) (F 3) (F 4) (F 6) (F 10) (F 14) (F 15) (F 16) (F 17) (F 18) (F 19) (F 21) h)) (q89_13_eq C lf n r (fun F h=>e1 (F 0) (F 3) (F 4) (F 6) (F 10) (F 14) (F 15) (F 16) (F 17) h) K0 KE) (q89_94_eq C lf (fun x0 x3 x4 x6 x10 x14 x15 x16 x17 x18 x19 x21 h=>q89_13 C lf n r x0 x3 x4 x6 x10 x14 x15 x16 x17 x18 x19 x21 h) r e1 K0 KE)
noncomputable def q89_108(C:YC)(lf:Nat)(n:K12)(r:K2)(x0 x3 x4 x6 x10 x14 x15 x16 x17 x18 x19 x20 x21:O)(h:HW):Rs:=
 ob x20 fun a96=>
 ob (bin Tryz.prog .neq 3 a96 (.int .i64 0)) fun y97=>
 yIf y97
 (ob x21 fun a98=>
 yIf a98
 (ob x14 fun a99=>
 ob x18 fun a100=>
 ob x16 fun a101=>
 ob (semBuild Tryz.prog 176 [0,2,3] [a99,a100,a101]) fun y102=>
 ob x10 fun a103=>
 ob (st 5 a103 y102 h) fun h104=>
 r x10 (some (.int .i64 0)) h104)
 (ob (semBuild Tryz.prog 176 [] []) fun y105=>
 ob x10 fun a106=>
 ob (st 5 a106 y105 h) fun h107=>
 r x10 (some (.int .i64 2)) h107))
 (n x0 x3 x4 x6 x10 x14 x15 x16 x17 x18 x19 x21 h)
theorem q89_108_eq(C:YC)(lf:Nat)(n:K12)(r:K2)(K1:KF)(K0:KF)(KE:KX): ∀ F h,evX fx89 C lf [1,1,1,1,1,1,1,1,1,0,0,0,1,1,1,1,1,1,1,0] F h (fun F h=>n (F 0) (F 3) (F 4) (F 6) (F 10) (F 14) (F 15) (F 16) (F 17) (F 18) (F 19) (F 21) h) (fun F h=>r (F 10) (F 11) h) (bk 1 K1 (bk 0 K0 KE))=q89_108 C lf n r (F 0) (F 3) (F 4) (F 6) (F 10) (F 14) (F 15) (F 16) (F 17) (F 18) (F 19) (F 20) (F 21) h:=by
 intro F h;kernel_rfl
noncomputable def q89_109(C:YC)(lf:Nat)(n:K9)(r:K2)(e1:K9)(x0 x3 x4 x6 x10 x14 x15 x16 x17 x18 x19 x20 x21:O)(h:HW):Rs:=
 q89_108 C lf (fun x0 x3 x4 x6 x10 x14 x15 x16 x17 x18 x19 x21 h=>q89_95 C lf n r e1 x0 x3 x4 x6 x10 x14 x15 x16 x17 x18 x19 x21 h) r x0 x3 x4 x6 x10 x14 x15 x16 x17 x18 x19 x20 x21 h
theorem q89_109_eq(C:YC)(lf:Nat)(n:K9)(r:K2)(e1:K9)(K0:KF)(KE:KX): ∀ F h,evX fx89 C lf [1,1,1,1,1,1,1,1,1,0,0,0,1,1,1,1,1,1,1] F h (fun F h=>n (F 0) (F 3) (F 4) (F 6) (F 10) (F 14) (F 15) (F 16) (F 17) h) (fun F h=>r (F 10) (F 11) h) (bk 1 (fun F h=>e1 (F 0) (F 3) (F 4) (F 6) (F 10) (F 14) (F 15) (F 16) (F 17) h) (bk 0 K0 KE))=q89_109 C lf n r e1 (F 0) (F 3) (F 4) (F 6) (F 10) (F 14) (F 15) (F 16) (F 17) (F 18) (F 19) (F 20) (F 21) h:=cSeq (a:=subX fx89 [1,1,1,1,1,1,1,1,1,0,0,0,1,1,1,1,1,1,1,0]) (b:=subX fx89 [1,1,1,1,1,1,1,1,1,0,0,0,1,1,1,1,1,1,1,1]) (by kernel_rfl) (B:=(fun F h=>q89_95 C lf n r e1 (F 0) (F 3) (F 4) (F 6) (F 10) (F 14) (F 15) (F 16) (F 17) (F 18) (F 19) (F 21) h)) (q89_95_eq C lf n r e1 K0 KE) (q89_108_eq C lf (fun x0 x3 x4 x6 x10 x14 x15 x16 x17 x18 x19 x21 h=>q89_95 C lf n r e1 x0 x3 x4 x6 x10 x14 x15 x16 x17 x18 x19 x21 h) r (fun F h=>e1 (F 0) (F 3) (F 4) (F 6) (F 10) (F 14) (F 15) (F 16) (F 17) h) K0 KE)
noncomputable def q89_113(C:YC)(lf:Nat)(n:K13)(x0 x3 x4 x6 x10 x14 x15 x16 x17 x18 x19 x20:O)(h:HW):Rs:=
 ob x15 fun a110=>
 ob (lenE Tryz.prog 22 a110) fun y111=>
 ob (bin Tryz.prog .eql 3 y111 (.int .i64 0)) fun y112=>
 n x0 x3 x4 x6 x10 x14 x15 x16 x17 x18 x19 x20 (some y112) h
theorem q89_113_eq(C:YC)(lf:Nat)(n:K13)(KR:KF)(K1:KF)(K0:KF)(KE:KX): ∀ F h,evX fx89 C lf [1,1,1,1,1,1,1,1,1,0,0,0,1,1,1,1,1,1,0] F h (fun F h=>n (F 0) (F 3) (F 4) (F 6) (F 10) (F 14) (F 15) (F 16) (F 17) (F 18) (F 19) (F 20) (F 21) h) KR (bk 1 K1 (bk 0 K0 KE))=q89_113 C lf n (F 0) (F 3) (F 4) (F 6) (F 10) (F 14) (F 15) (F 16) (F 17) (F 18) (F 19) (F 20) h:=by
 intro F h;kernel_rfl
noncomputable def q89_114(C:YC)(lf:Nat)(n:K9)(r:K2)(e1:K9)(x0 x3 x4 x6 x10 x14 x15 x16 x17 x18 x19 x20:O)(h:HW):Rs:=
 q89_113 C lf (fun x0 x3 x4 x6 x10 x14 x15 x16 x17 x18 x19 x20 x21 h=>q89_109 C lf n r e1 x0 x3 x4 x6 x10 x14 x15 x16 x17 x18 x19 x20 x21 h) x0 x3 x4 x6 x10 x14 x15 x16 x17 x18 x19 x20 h
theorem q89_114_eq(C:YC)(lf:Nat)(n:K9)(r:K2)(e1:K9)(K0:KF)(KE:KX): ∀ F h,evX fx89 C lf [1,1,1,1,1,1,1,1,1,0,0,0,1,1,1,1,1,1] F h (fun F h=>n (F 0) (F 3) (F 4) (F 6) (F 10) (F 14) (F 15) (F 16) (F 17) h) (fun F h=>r (F 10) (F 11) h) (bk 1 (fun F h=>e1 (F 0) (F 3) (F 4) (F 6) (F 10) (F 14) (F 15) (F 16) (F 17) h) (bk 0 K0 KE))=q89_114 C lf n r e1 (F 0) (F 3) (F 4) (F 6) (F 10) (F 14) (F 15) (F 16) (F 17) (F 18) (F 19) (F 20) h:=cSeq (a:=subX fx89 [1,1,1,1,1,1,1,1,1,0,0,0,1,1,1,1,1,1,0]) (b:=subX fx89 [1,1,1,1,1,1,1,1,1,0,0,0,1,1,1,1,1,1,1]) (by kernel_rfl) (B:=(fun F h=>q89_109 C lf n r e1 (F 0) (F 3) (F 4) (F 6) (F 10) (F 14) (F 15) (F 16) (F 17) (F 18) (F 19) (F 20) (F 21) h)) (q89_109_eq C lf n r e1 K0 KE) (q89_113_eq C lf (fun x0 x3 x4 x6 x10 x14 x15 x16 x17 x18 x19 x20 x21 h=>q89_109 C lf n r e1 x0 x3 x4 x6 x10 x14 x15 x16 x17 x18 x19 x20 x21 h) (fun F h=>r (F 10) (F 11) h) (fun F h=>e1 (F 0) (F 3) (F 4) (F 6) (F 10) (F 14) (F 15) (F 16) (F 17) h) K0 KE)
noncomputable def q89_126(C:YC)(lf:Nat)(n:K12)(x0 x3 x4 x6 x10 x14 x15 x16 x17 x18 x19 x20:O)(h:HW):Rs:=
 ob x18 fun a115=>
 ob (bin Tryz.prog .neq 9 a115 (.str (bs [46]))) fun y116=>
 yIf y116
 (ob x0 fun a117=>
 ob (semNil a117) fun y118=>
 ob (fa 0 y118) fun y119=>
 ob (ld1 y119 h) fun y120=>
 ob x14 fun a121=>
 ob x18 fun a122=>
 bc (C (.fn 151) [y120,a121,a122] h) fun y123 h123=>
 ob (ext 0 y123) fun y124=>
 ob (ext 1 y123) fun y125=>
 n x0 x3 x4 x6 x10 x14 x15 x16 x17 x18 (some y124) (some y125) h123)
 (n x0 x3 x4 x6 x10 x14 x15 x16 x17 x18 x19 x20 h)
theorem q89_126_eq(C:YC)(lf:Nat)(n:K12)(KR:KF)(K1:KF)(K0:KF)(KE:KX): ∀ F h,evX fx89 C lf [1,1,1,1,1,1,1,1,1,0,0,0,1,1,1,1,1,0] F h (fun F h=>n (F 0) (F 3) (F 4) (F 6) (F 10) (F 14) (F 15) (F 16) (F 17) (F 18) (F 19) (F 20) h) KR (bk 1 K1 (bk 0 K0 KE))=q89_126 C lf n (F 0) (F 3) (F 4) (F 6) (F 10) (F 14) (F 15) (F 16) (F 17) (F 18) (F 19) (F 20) h:=by
 intro F h;kernel_rfl
noncomputable def q89_127(C:YC)(lf:Nat)(n:K9)(r:K2)(e1:K9)(x0 x3 x4 x6 x10 x14 x15 x16 x17 x18 x19 x20:O)(h:HW):Rs:=
 q89_126 C lf (fun x0 x3 x4 x6 x10 x14 x15 x16 x17 x18 x19 x20 h=>q89_114 C lf n r e1 x0 x3 x4 x6 x10 x14 x15 x16 x17 x18 x19 x20 h) x0 x3 x4 x6 x10 x14 x15 x16 x17 x18 x19 x20 h
theorem q89_127_eq(C:YC)(lf:Nat)(n:K9)(r:K2)(e1:K9)(K0:KF)(KE:KX): ∀ F h,evX fx89 C lf [1,1,1,1,1,1,1,1,1,0,0,0,1,1,1,1,1] F h (fun F h=>n (F 0) (F 3) (F 4) (F 6) (F 10) (F 14) (F 15) (F 16) (F 17) h) (fun F h=>r (F 10) (F 11) h) (bk 1 (fun F h=>e1 (F 0) (F 3) (F 4) (F 6) (F 10) (F 14) (F 15) (F 16) (F 17) h) (bk 0 K0 KE))=q89_127 C lf n r e1 (F 0) (F 3) (F 4) (F 6) (F 10) (F 14) (F 15) (F 16) (F 17) (F 18) (F 19) (F 20) h:=cSeq (a:=subX fx89 [1,1,1,1,1,1,1,1,1,0,0,0,1,1,1,1,1,0]) (b:=subX fx89 [1,1,1,1,1,1,1,1,1,0,0,0,1,1,1,1,1,1]) (by kernel_rfl) (B:=(fun F h=>q89_114 C lf n r e1 (F 0) (F 3) (F 4) (F 6) (F 10) (F 14) (F 15) (F 16) (F 17) (F 18) (F 19) (F 20) h)) (q89_114_eq C lf n r e1 K0 KE) (q89_126_eq C lf (fun x0 x3 x4 x6 x10 x14 x15 x16 x17 x18 x19 x20 h=>q89_114 C lf n r e1 x0 x3 x4 x6 x10 x14 x15 x16 x17 x18 x19 x20 h) (fun F h=>r (F 10) (F 11) h) (fun F h=>e1 (F 0) (F 3) (F 4) (F 6) (F 10) (F 14) (F 15) (F 16) (F 17) h) K0 KE)
noncomputable def q89_129(C:YC)(lf:Nat)(n:K12)(x0 x3 x4 x6 x10 x14 x15 x16 x17 x18:O)(h:HW):Rs:=
 ob x14 fun a128=>
 n x0 x3 x4 x6 x10 x14 x15 x16 x17 x18 (some a128) (some (.int .i64 0)) h
theorem q89_129_eq(C:YC)(lf:Nat)(n:K12)(KR:KF)(K1:KF)(K0:KF)(KE:KX): ∀ F h,evX fx89 C lf [1,1,1,1,1,1,1,1,1,0,0,0,1,1,1,1,0] F h (fun F h=>n (F 0) (F 3) (F 4) (F 6) (F 10) (F 14) (F 15) (F 16) (F 17) (F 18) (F 19) (F 20) h) KR (bk 1 K1 (bk 0 K0 KE))=q89_129 C lf n (F 0) (F 3) (F 4) (F 6) (F 10) (F 14) (F 15) (F 16) (F 17) (F 18) h:=by
 intro F h;kernel_rfl
noncomputable def q89_130(C:YC)(lf:Nat)(n:K9)(r:K2)(e1:K9)(x0 x3 x4 x6 x10 x14 x15 x16 x17 x18:O)(h:HW):Rs:=
 q89_129 C lf (fun x0 x3 x4 x6 x10 x14 x15 x16 x17 x18 x19 x20 h=>q89_127 C lf n r e1 x0 x3 x4 x6 x10 x14 x15 x16 x17 x18 x19 x20 h) x0 x3 x4 x6 x10 x14 x15 x16 x17 x18 h
theorem q89_130_eq(C:YC)(lf:Nat)(n:K9)(r:K2)(e1:K9)(K0:KF)(KE:KX): ∀ F h,evX fx89 C lf [1,1,1,1,1,1,1,1,1,0,0,0,1,1,1,1] F h (fun F h=>n (F 0) (F 3) (F 4) (F 6) (F 10) (F 14) (F 15) (F 16) (F 17) h) (fun F h=>r (F 10) (F 11) h) (bk 1 (fun F h=>e1 (F 0) (F 3) (F 4) (F 6) (F 10) (F 14) (F 15) (F 16) (F 17) h) (bk 0 K0 KE))=q89_130 C lf n r e1 (F 0) (F 3) (F 4) (F 6) (F 10) (F 14) (F 15) (F 16) (F 17) (F 18) h:=cSeq (a:=subX fx89 [1,1,1,1,1,1,1,1,1,0,0,0,1,1,1,1,0]) (b:=subX fx89 [1,1,1,1,1,1,1,1,1,0,0,0,1,1,1,1,1]) (by kernel_rfl) (B:=(fun F h=>q89_127 C lf n r e1 (F 0) (F 3) (F 4) (F 6) (F 10) (F 14) (F 15) (F 16) (F 17) (F 18) (F 19) (F 20) h)) (q89_127_eq C lf n r e1 K0 KE) (q89_129_eq C lf (fun x0 x3 x4 x6 x10 x14 x15 x16 x17 x18 x19 x20 h=>q89_127 C lf n r e1 x0 x3 x4 x6 x10 x14 x15 x16 x17 x18 x19 x20 h) (fun F h=>r (F 10) (F 11) h) (fun F h=>e1 (F 0) (F 3) (F 4) (F 6) (F 10) (F 14) (F 15) (F 16) (F 17) h) K0 KE)
noncomputable def q89_140(C:YC)(lf:Nat)(n:K10)(r:K2)(x0 x3 x4 x6 x10 x14 x15 x16 x17 x18:O)(h:HW):Rs:=
 ob x0 fun a131=>
 ob x6 fun a132=>
 ob (ldN 5 a132 h) fun y133=>
 ob x14 fun a134=>
 bc (C (.fn 92) [a131,y133,a134,(.int .i64 1)] h) fun y135 h135=>
 ob (unE .not y135) fun y136=>
 yIf y136
 (ob (semBuild Tryz.prog 176 [] []) fun y137=>
 ob x10 fun a138=>
 ob (st 5 a138 y137 h135) fun h139=>
 r x10 (some (.int .i64 13)) h139)
 (n x0 x3 x4 x6 x10 x14 x15 x16 x17 x18 h135)
theorem q89_140_eq(C:YC)(lf:Nat)(n:K10)(r:K2)(K1:KF)(K0:KF)(KE:KX): ∀ F h,evX fx89 C lf [1,1,1,1,1,1,1,1,1,0,0,0,1,1,1,0] F h (fun F h=>n (F 0) (F 3) (F 4) (F 6) (F 10) (F 14) (F 15) (F 16) (F 17) (F 18) h) (fun F h=>r (F 10) (F 11) h) (bk 1 K1 (bk 0 K0 KE))=q89_140 C lf n r (F 0) (F 3) (F 4) (F 6) (F 10) (F 14) (F 15) (F 16) (F 17) (F 18) h:=by
 intro F h;kernel_rfl
noncomputable def q89_141(C:YC)(lf:Nat)(n:K9)(r:K2)(e1:K9)(x0 x3 x4 x6 x10 x14 x15 x16 x17 x18:O)(h:HW):Rs:=
 q89_140 C lf (fun x0 x3 x4 x6 x10 x14 x15 x16 x17 x18 h=>q89_130 C lf n r e1 x0 x3 x4 x6 x10 x14 x15 x16 x17 x18 h) r x0 x3 x4 x6 x10 x14 x15 x16 x17 x18 h
theorem q89_141_eq(C:YC)(lf:Nat)(n:K9)(r:K2)(e1:K9)(K0:KF)(KE:KX): ∀ F h,evX fx89 C lf [1,1,1,1,1,1,1,1,1,0,0,0,1,1,1] F h (fun F h=>n (F 0) (F 3) (F 4) (F 6) (F 10) (F 14) (F 15) (F 16) (F 17) h) (fun F h=>r (F 10) (F 11) h) (bk 1 (fun F h=>e1 (F 0) (F 3) (F 4) (F 6) (F 10) (F 14) (F 15) (F 16) (F 17) h) (bk 0 K0 KE))=q89_141 C lf n r e1 (F 0) (F 3) (F 4) (F 6) (F 10) (F 14) (F 15) (F 16) (F 17) (F 18) h:=cSeq (a:=subX fx89 [1,1,1,1,1,1,1,1,1,0,0,0,1,1,1,0]) (b:=subX fx89 [1,1,1,1,1,1,1,1,1,0,0,0,1,1,1,1]) (by kernel_rfl) (B:=(fun F h=>q89_130 C lf n r e1 (F 0) (F 3) (F 4) (F 6) (F 10) (F 14) (F 15) (F 16) (F 17) (F 18) h)) (q89_130_eq C lf n r e1 K0 KE) (q89_140_eq C lf (fun x0 x3 x4 x6 x10 x14 x15 x16 x17 x18 h=>q89_130 C lf n r e1 x0 x3 x4 x6 x10 x14 x15 x16 x17 x18 h) r (fun F h=>e1 (F 0) (F 3) (F 4) (F 6) (F 10) (F 14) (F 15) (F 16) (F 17) h) K0 KE)
noncomputable def q89_149(C:YC)(lf:Nat)(n:K10)(r:K2)(x0 x3 x4 x6 x10 x14 x15 x16 x17 x18:O)(h:HW):Rs:=
 ob x0 fun a142=>
 ob x14 fun a143=>
 bc (C (.fn 107) [a142,a143] h) fun y144 h144=>
 ob (bin Tryz.prog .neq 34 y144 (.int .i64 16384)) fun y145=>
 yIf y145
 (ob (semBuild Tryz.prog 176 [] []) fun y146=>
 ob x10 fun a147=>
 ob (st 5 a147 y146 h144) fun h148=>
 r x10 (some (.int .i64 20)) h148)
 (n x0 x3 x4 x6 x10 x14 x15 x16 x17 x18 h144)
theorem q89_149_eq(C:YC)(lf:Nat)(n:K10)(r:K2)(K1:KF)(K0:KF)(KE:KX): ∀ F h,evX fx89 C lf [1,1,1,1,1,1,1,1,1,0,0,0,1,1,0] F h (fun F h=>n (F 0) (F 3) (F 4) (F 6) (F 10) (F 14) (F 15) (F 16) (F 17) (F 18) h) (fun F h=>r (F 10) (F 11) h) (bk 1 K1 (bk 0 K0 KE))=q89_149 C lf n r (F 0) (F 3) (F 4) (F 6) (F 10) (F 14) (F 15) (F 16) (F 17) (F 18) h:=by
 intro F h;kernel_rfl
noncomputable def q89_150(C:YC)(lf:Nat)(n:K9)(r:K2)(e1:K9)(x0 x3 x4 x6 x10 x14 x15 x16 x17 x18:O)(h:HW):Rs:=
 q89_149 C lf (fun x0 x3 x4 x6 x10 x14 x15 x16 x17 x18 h=>q89_141 C lf n r e1 x0 x3 x4 x6 x10 x14 x15 x16 x17 x18 h) r x0 x3 x4 x6 x10 x14 x15 x16 x17 x18 h
theorem q89_150_eq(C:YC)(lf:Nat)(n:K9)(r:K2)(e1:K9)(K0:KF)(KE:KX): ∀ F h,evX fx89 C lf [1,1,1,1,1,1,1,1,1,0,0,0,1,1] F h (fun F h=>n (F 0) (F 3) (F 4) (F 6) (F 10) (F 14) (F 15) (F 16) (F 17) h) (fun F h=>r (F 10) (F 11) h) (bk 1 (fun F h=>e1 (F 0) (F 3) (F 4) (F 6) (F 10) (F 14) (F 15) (F 16) (F 17) h) (bk 0 K0 KE))=q89_150 C lf n r e1 (F 0) (F 3) (F 4) (F 6) (F 10) (F 14) (F 15) (F 16) (F 17) (F 18) h:=cSeq (a:=subX fx89 [1,1,1,1,1,1,1,1,1,0,0,0,1,1,0]) (b:=subX fx89 [1,1,1,1,1,1,1,1,1,0,0,0,1,1,1]) (by kernel_rfl) (B:=(fun F h=>q89_141 C lf n r e1 (F 0) (F 3) (F 4) (F 6) (F 10) (F 14) (F 15) (F 16) (F 17) (F 18) h)) (q89_141_eq C lf n r e1 K0 KE) (q89_149_eq C lf (fun x0 x3 x4 x6 x10 x14 x15 x16 x17 x18 h=>q89_141 C lf n r e1 x0 x3 x4 x6 x10 x14 x15 x16 x17 x18 h) r (fun F h=>e1 (F 0) (F 3) (F 4) (F 6) (F 10) (F 14) (F 15) (F 16) (F 17) h) K0 KE)
noncomputable def q89_153(C:YC)(lf:Nat)(n:K10)(x0 x3 x4 x6 x10 x14 x15 x16 x17 x18:O)(h:HW):Rs:=
 ob x15 fun a151=>
 ob (semSlice Tryz.prog 22 a151 (some (.int .i64 1)) none) fun y152=>
 n x0 x3 x4 x6 x10 x14 (some y152) x16 x17 x18 h
theorem q89_153_eq(C:YC)(lf:Nat)(n:K10)(KR:KF)(K1:KF)(K0:KF)(KE:KX): ∀ F h,evX fx89 C lf [1,1,1,1,1,1,1,1,1,0,0,0,1,0] F h (fun F h=>n (F 0) (F 3) (F 4) (F 6) (F 10) (F 14) (F 15) (F 16) (F 17) (F 18) h) KR (bk 1 K1 (bk 0 K0 KE))=q89_153 C lf n (F 0) (F 3) (F 4) (F 6) (F 10) (F 14) (F 15) (F 16) (F 17) (F 18) h:=by
 intro F h;kernel_rfl
noncomputable def q89_154(C:YC)(lf:Nat)(n:K9)(r:K2)(e1:K9)(x0 x3 x4 x6 x10 x14 x15 x16 x17 x18:O)(h:HW):Rs:=
 q89_153 C lf (fun x0 x3 x4 x6 x10 x14 x15 x16 x17 x18 h=>q89_150 C lf n r e1 x0 x3 x4 x6 x10 x14 x15 x16 x17 x18 h) x0 x3 x4 x6 x10 x14 x15 x16 x17 x18 h
theorem q89_154_eq(C:YC)(lf:Nat)(n:K9)(r:K2)(e1:K9)(K0:KF)(KE:KX): ∀ F h,evX fx89 C lf [1,1,1,1,1,1,1,1,1,0,0,0,1] F h (fun F h=>n (F 0) (F 3) (F 4) (F 6) (F 10) (F 14) (F 15) (F 16) (F 17) h) (fun F h=>r (F 10) (F 11) h) (bk 1 (fun F h=>e1 (F 0) (F 3) (F 4) (F 6) (F 10) (F 14) (F 15) (F 16) (F 17) h) (bk 0 K0 KE))=q89_154 C lf n r e1 (F 0) (F 3) (F 4) (F 6) (F 10) (F 14) (F 15) (F 16) (F 17) (F 18) h:=cSeq (a:=subX fx89 [1,1,1,1,1,1,1,1,1,0,0,0,1,0]) (b:=subX fx89 [1,1,1,1,1,1,1,1,1,0,0,0,1,1]) (by kernel_rfl) (B:=(fun F h=>q89_150 C lf n r e1 (F 0) (F 3) (F 4) (F 6) (F 10) (F 14) (F 15) (F 16) (F 17) (F 18) h)) (q89_150_eq C lf n r e1 K0 KE) (q89_153_eq C lf (fun x0 x3 x4 x6 x10 x14 x15 x16 x17 x18 h=>q89_150 C lf n r e1 x0 x3 x4 x6 x10 x14 x15 x16 x17 x18 h) (fun F h=>r (F 10) (F 11) h) (fun F h=>e1 (F 0) (F 3) (F 4) (F 6) (F 10) (F 14) (F 15) (F 16) (F 17) h) K0 KE)
noncomputable def q89_158(C:YC)(lf:Nat)(n:K10)(x0 x3 x4 x6 x10 x14 x15 x16 x17:O)(h:HW):Rs:=
 ob x15 fun a155=>
 ob (ixS 1 a155 (.int .i64 0)) fun y156=>
 ob (ld1 y156 h) fun y157=>
 n x0 x3 x4 x6 x10 x14 x15 x16 x17 (some y157) h
theorem q89_158_eq(C:YC)(lf:Nat)(n:K10)(KR:KF)(K1:KF)(K0:KF)(KE:KX): ∀ F h,evX fx89 C lf [1,1,1,1,1,1,1,1,1,0,0,0,0] F h (fun F h=>n (F 0) (F 3) (F 4) (F 6) (F 10) (F 14) (F 15) (F 16) (F 17) (F 18) h) KR (bk 1 K1 (bk 0 K0 KE))=q89_158 C lf n (F 0) (F 3) (F 4) (F 6) (F 10) (F 14) (F 15) (F 16) (F 17) h:=by
 intro F h;kernel_rfl
noncomputable def q89_159(C:YC)(lf:Nat)(n:K9)(r:K2)(e1:K9)(x0 x3 x4 x6 x10 x14 x15 x16 x17:O)(h:HW):Rs:=
 q89_158 C lf (fun x0 x3 x4 x6 x10 x14 x15 x16 x17 x18 h=>q89_154 C lf n r e1 x0 x3 x4 x6 x10 x14 x15 x16 x17 x18 h) x0 x3 x4 x6 x10 x14 x15 x16 x17 h
theorem q89_159_eq(C:YC)(lf:Nat)(n:K9)(r:K2)(e1:K9)(K0:KF)(KE:KX): ∀ F h,evX fx89 C lf [1,1,1,1,1,1,1,1,1,0,0,0] F h (fun F h=>n (F 0) (F 3) (F 4) (F 6) (F 10) (F 14) (F 15) (F 16) (F 17) h) (fun F h=>r (F 10) (F 11) h) (bk 1 (fun F h=>e1 (F 0) (F 3) (F 4) (F 6) (F 10) (F 14) (F 15) (F 16) (F 17) h) (bk 0 K0 KE))=q89_159 C lf n r e1 (F 0) (F 3) (F 4) (F 6) (F 10) (F 14) (F 15) (F 16) (F 17) h:=cSeq (a:=subX fx89 [1,1,1,1,1,1,1,1,1,0,0,0,0]) (b:=subX fx89 [1,1,1,1,1,1,1,1,1,0,0,0,1]) (by kernel_rfl) (B:=(fun F h=>q89_154 C lf n r e1 (F 0) (F 3) (F 4) (F 6) (F 10) (F 14) (F 15) (F 16) (F 17) (F 18) h)) (q89_154_eq C lf n r e1 K0 KE) (q89_158_eq C lf (fun x0 x3 x4 x6 x10 x14 x15 x16 x17 x18 h=>q89_154 C lf n r e1 x0 x3 x4 x6 x10 x14 x15 x16 x17 x18 h) (fun F h=>r (F 10) (F 11) h) (fun F h=>e1 (F 0) (F 3) (F 4) (F 6) (F 10) (F 14) (F 15) (F 16) (F 17) h) K0 KE)
noncomputable def l89_3(C:YC)(lf:Nat)(r:K2)(k:O × O × O × O × O × O × O × O × O→HW→Rs)(s:O × O × O × O × O × O × O × O × O)(h:HW):Rs:=
 q89_159 C lf (fun x0 x3 x4 x6 x10 x14 x15 x16 x17 h=>k (x0,x3,x4,x6,x10,x14,x15,x16,x17) h) r (fun x0 x3 x4 x6 x10 x14 x15 x16 x17 h=>k (x0,x3,x4,x6,x10,x14,x15,x16,x17) h) s.1 s.2.1 s.2.2.1 s.2.2.2.1 s.2.2.2.2.1 s.2.2.2.2.2.1 s.2.2.2.2.2.2.1 s.2.2.2.2.2.2.2.1 s.2.2.2.2.2.2.2.2 h
noncomputable def q89_168(C:YC)(lf:Nat)(n:K9)(r:K2)(x0 x3 x4 x6 x10 x14 x15 x16 x17:O)(h:HW):Rs:=
 ob x15 fun a160=>
 ob (lenE Tryz.prog 22 a160) fun y161=>
 ob (bin Tryz.prog .eql 3 y161 (.int .i64 0)) fun y162=>
 yIf y162
 (ob x14 fun a163=>
 ob x14 fun a164=>
 ob (semBuild Tryz.prog 176 [0,1,4] [a163,a164,(.bool true)]) fun y165=>
 ob x10 fun a166=>
 ob (st 5 a166 y165 h) fun h167=>
 r x10 (some (.int .i64 0)) h167)
 (n x0 x3 x4 x6 x10 x14 x15 x16 x17 h)
theorem q89_168_eq(C:YC)(lf:Nat)(n:K9)(r:K2)(KE:KX): ∀ F h,evX fx89 C lf [1,1,1,1,1,1,1,1,0] F h (fun F h=>n (F 0) (F 3) (F 4) (F 6) (F 10) (F 14) (F 15) (F 16) (F 17) h) (fun F h=>r (F 10) (F 11) h) KE=q89_168 C lf n r (F 0) (F 3) (F 4) (F 6) (F 10) (F 14) (F 15) (F 16) (F 17) h:=by
 intro F h;kernel_rfl
noncomputable def q89_169(C:YC)(lf:Nat)(r:K2)(x0 x3 x4 x6 x10 x14 x15 x16 x17:O)(h:HW):Rs:=
 q89_168 C lf (fun x0 x3 x4 x6 x10 x14 x15 x16 x17 h=>lp (l89_3 C lf r) lf (x0,x3,x4,x6,x10,x14,x15,x16,x17) h) r x0 x3 x4 x6 x10 x14 x15 x16 x17 h
theorem q89_169_eq(C:YC)(lf:Nat)(r:K2)(KN:KF)(KE:KX): ∀ F h,evX fx89 C lf [1,1,1,1,1,1,1,1] F h KN (fun F h=>r (F 10) (F 11) h) KE=q89_169 C lf r (F 0) (F 3) (F 4) (F 6) (F 10) (F 14) (F 15) (F 16) (F 17) h:=cSeq (a:=subX fx89 [1,1,1,1,1,1,1,1,0]) (b:=subX fx89 [1,1,1,1,1,1,1,1,1]) (by kernel_rfl) (B:=(fun F h=>lp (l89_3 C lf r) lf ((F 0),(F 3),(F 4),(F 6),(F 10),(F 14),(F 15),(F 16),(F 17)) h)) (cBlock (id:=0) (a:=subX fx89 [1,1,1,1,1,1,1,1,1,0]) (by kernel_rfl) (cLoop (a:=subX fx89 [1,1,1,1,1,1,1,1,1,0,0]) (g:=fun F=>(F 0,F 3,F 4,F 6,F 10,F 14,F 15,F 16,F 17)) (body:=l89_3 C lf r) (by kernel_rfl) (fun k=>(cBlock (id:=1) (a:=subX fx89 [1,1,1,1,1,1,1,1,1,0,0,0]) (by kernel_rfl) (q89_159_eq C lf (fun x0 x3 x4 x6 x10 x14 x15 x16 x17 h=>k (x0,x3,x4,x6,x10,x14,x15,x16,x17) h) r (fun x0 x3 x4 x6 x10 x14 x15 x16 x17 h=>k (x0,x3,x4,x6,x10,x14,x15,x16,x17) h) KN KE))))) (q89_168_eq C lf (fun x0 x3 x4 x6 x10 x14 x15 x16 x17 h=>lp (l89_3 C lf r) lf (x0,x3,x4,x6,x10,x14,x15,x16,x17) h) r KE)
noncomputable def q89_170(C:YC)(lf:Nat)(n:K9)(x0 x3 x4 x6 x10 x14 x15 x16:O)(h:HW):Rs:=
 n x0 x3 x4 x6 x10 x14 x15 x16 (some (.int .i64 0)) h
theorem q89_170_eq(C:YC)(lf:Nat)(n:K9)(KR:KF)(KE:KX): ∀ F h,evX fx89 C lf [1,1,1,1,1,1,1,0] F h (fun F h=>n (F 0) (F 3) (F 4) (F 6) (F 10) (F 14) (F 15) (F 16) (F 17) h) KR KE=q89_170 C lf n (F 0) (F 3) (F 4) (F 6) (F 10) (F 14) (F 15) (F 16) h:=by
 intro F h;kernel_rfl
noncomputable def q89_171(C:YC)(lf:Nat)(r:K2)(x0 x3 x4 x6 x10 x14 x15 x16:O)(h:HW):Rs:=
 q89_170 C lf (fun x0 x3 x4 x6 x10 x14 x15 x16 x17 h=>q89_169 C lf r x0 x3 x4 x6 x10 x14 x15 x16 x17 h) x0 x3 x4 x6 x10 x14 x15 x16 h
theorem q89_171_eq(C:YC)(lf:Nat)(r:K2)(KN:KF)(KE:KX): ∀ F h,evX fx89 C lf [1,1,1,1,1,1,1] F h KN (fun F h=>r (F 10) (F 11) h) KE=q89_171 C lf r (F 0) (F 3) (F 4) (F 6) (F 10) (F 14) (F 15) (F 16) h:=cSeq (a:=subX fx89 [1,1,1,1,1,1,1,0]) (b:=subX fx89 [1,1,1,1,1,1,1,1]) (by kernel_rfl) (B:=(fun F h=>q89_169 C lf r (F 0) (F 3) (F 4) (F 6) (F 10) (F 14) (F 15) (F 16) (F 17) h)) (q89_169_eq C lf r KN KE) (q89_170_eq C lf (fun x0 x3 x4 x6 x10 x14 x15 x16 x17 h=>q89_169 C lf r x0 x3 x4 x6 x10 x14 x15 x16 x17 h) (fun F h=>r (F 10) (F 11) h) KE)
noncomputable def q89_175(C:YC)(lf:Nat)(n:K8)(x0 x3 x4 x6 x10 x12 x14 x15:O)(h:HW):Rs:=
 ob x12 fun a172=>
 ob (fa 2 a172) fun y173=>
 ob (ld1 y173 h) fun y174=>
 n x0 x3 x4 x6 x10 x14 x15 (some y174) h
theorem q89_175_eq(C:YC)(lf:Nat)(n:K8)(KR:KF)(KE:KX): ∀ F h,evX fx89 C lf [1,1,1,1,1,1,0] F h (fun F h=>n (F 0) (F 3) (F 4) (F 6) (F 10) (F 14) (F 15) (F 16) h) KR KE=q89_175 C lf n (F 0) (F 3) (F 4) (F 6) (F 10) (F 12) (F 14) (F 15) h:=by
 intro F h;kernel_rfl
noncomputable def q89_176(C:YC)(lf:Nat)(r:K2)(x0 x3 x4 x6 x10 x12 x14 x15:O)(h:HW):Rs:=
 q89_175 C lf (fun x0 x3 x4 x6 x10 x14 x15 x16 h=>q89_171 C lf r x0 x3 x4 x6 x10 x14 x15 x16 h) x0 x3 x4 x6 x10 x12 x14 x15 h
theorem q89_176_eq(C:YC)(lf:Nat)(r:K2)(KN:KF)(KE:KX): ∀ F h,evX fx89 C lf [1,1,1,1,1,1] F h KN (fun F h=>r (F 10) (F 11) h) KE=q89_176 C lf r (F 0) (F 3) (F 4) (F 6) (F 10) (F 12) (F 14) (F 15) h:=cSeq (a:=subX fx89 [1,1,1,1,1,1,0]) (b:=subX fx89 [1,1,1,1,1,1,1]) (by kernel_rfl) (B:=(fun F h=>q89_171 C lf r (F 0) (F 3) (F 4) (F 6) (F 10) (F 14) (F 15) (F 16) h)) (q89_171_eq C lf r KN KE) (q89_175_eq C lf (fun x0 x3 x4 x6 x10 x14 x15 x16 h=>q89_171 C lf r x0 x3 x4 x6 x10 x14 x15 x16 h) (fun F h=>r (F 10) (F 11) h) KE)
noncomputable def q89_180(C:YC)(lf:Nat)(n:K8)(x0 x3 x4 x6 x10 x12 x14:O)(h:HW):Rs:=
 ob x12 fun a177=>
 ob (fa 1 a177) fun y178=>
 ob (ld1 y178 h) fun y179=>
 n x0 x3 x4 x6 x10 x12 x14 (some y179) h
theorem q89_180_eq(C:YC)(lf:Nat)(n:K8)(KR:KF)(KE:KX): ∀ F h,evX fx89 C lf [1,1,1,1,1,0] F h (fun F h=>n (F 0) (F 3) (F 4) (F 6) (F 10) (F 12) (F 14) (F 15) h) KR KE=q89_180 C lf n (F 0) (F 3) (F 4) (F 6) (F 10) (F 12) (F 14) h:=by
 intro F h;kernel_rfl
noncomputable def q89_181(C:YC)(lf:Nat)(r:K2)(x0 x3 x4 x6 x10 x12 x14:O)(h:HW):Rs:=
 q89_180 C lf (fun x0 x3 x4 x6 x10 x12 x14 x15 h=>q89_176 C lf r x0 x3 x4 x6 x10 x12 x14 x15 h) x0 x3 x4 x6 x10 x12 x14 h
theorem q89_181_eq(C:YC)(lf:Nat)(r:K2)(KN:KF)(KE:KX): ∀ F h,evX fx89 C lf [1,1,1,1,1] F h KN (fun F h=>r (F 10) (F 11) h) KE=q89_181 C lf r (F 0) (F 3) (F 4) (F 6) (F 10) (F 12) (F 14) h:=cSeq (a:=subX fx89 [1,1,1,1,1,0]) (b:=subX fx89 [1,1,1,1,1,1]) (by kernel_rfl) (B:=(fun F h=>q89_176 C lf r (F 0) (F 3) (F 4) (F 6) (F 10) (F 12) (F 14) (F 15) h)) (q89_176_eq C lf r KN KE) (q89_180_eq C lf (fun x0 x3 x4 x6 x10 x12 x14 x15 h=>q89_176 C lf r x0 x3 x4 x6 x10 x12 x14 x15 h) (fun F h=>r (F 10) (F 11) h) KE)
noncomputable def q89_196(C:YC)(lf:Nat)(n:K7)(r:K2)(x0 x3 x4 x6 x10 x12 x14:O)(h:HW):Rs:=
 ob x12 fun a182=>
 ob (fa 0 a182) fun y183=>
 ob (ld1 y183 h) fun y184=>
 ob (unE .not y184) fun y185=>
 yIf y185
 (ob x0 fun a186=>
 ob x6 fun a187=>
 ob (ldN 5 a187 h) fun y188=>
 bc (C (.fn 150) [a186,y188] h) fun y189 h189=>
 ob (ext 0 y189) fun y190=>
 ob (ext 1 y189) fun y191=>
 ob (bin Tryz.prog .neq 3 y191 (.int .i64 0)) fun y192=>
 yIf y192
 (ob (semBuild Tryz.prog 176 [] []) fun y193=>
 ob x10 fun a194=>
 ob (st 5 a194 y193 h189) fun h195=>
 r x10 (some y191) h195)
 (n x0 x3 x4 x6 x10 x12 (some y190) h189))
 (n x0 x3 x4 x6 x10 x12 x14 h)
theorem q89_196_eq(C:YC)(lf:Nat)(n:K7)(r:K2)(KE:KX): ∀ F h,evX fx89 C lf [1,1,1,1,0] F h (fun F h=>n (F 0) (F 3) (F 4) (F 6) (F 10) (F 12) (F 14) h) (fun F h=>r (F 10) (F 11) h) KE=q89_196 C lf n r (F 0) (F 3) (F 4) (F 6) (F 10) (F 12) (F 14) h:=by
 intro F h;kernel_rfl
noncomputable def q89_197(C:YC)(lf:Nat)(r:K2)(x0 x3 x4 x6 x10 x12 x14:O)(h:HW):Rs:=
 q89_196 C lf (fun x0 x3 x4 x6 x10 x12 x14 h=>q89_181 C lf r x0 x3 x4 x6 x10 x12 x14 h) r x0 x3 x4 x6 x10 x12 x14 h
theorem q89_197_eq(C:YC)(lf:Nat)(r:K2)(KN:KF)(KE:KX): ∀ F h,evX fx89 C lf [1,1,1,1] F h KN (fun F h=>r (F 10) (F 11) h) KE=q89_197 C lf r (F 0) (F 3) (F 4) (F 6) (F 10) (F 12) (F 14) h:=cSeq (a:=subX fx89 [1,1,1,1,0]) (b:=subX fx89 [1,1,1,1,1]) (by kernel_rfl) (B:=(fun F h=>q89_181 C lf r (F 0) (F 3) (F 4) (F 6) (F 10) (F 12) (F 14) h)) (q89_181_eq C lf r KN KE) (q89_196_eq C lf (fun x0 x3 x4 x6 x10 x12 x14 h=>q89_181 C lf r x0 x3 x4 x6 x10 x12 x14 h) r KE)
noncomputable def q89_198(C:YC)(lf:Nat)(n:K7)(x0 x3 x4 x6 x10 x12:O)(h:HW):Rs:=
 n x0 x3 x4 x6 x10 x12 (some (.int .i64 1)) h
theorem q89_198_eq(C:YC)(lf:Nat)(n:K7)(KR:KF)(KE:KX): ∀ F h,evX fx89 C lf [1,1,1,0] F h (fun F h=>n (F 0) (F 3) (F 4) (F 6) (F 10) (F 12) (F 14) h) KR KE=q89_198 C lf n (F 0) (F 3) (F 4) (F 6) (F 10) (F 12) h:=by
 intro F h;kernel_rfl
noncomputable def q89_199(C:YC)(lf:Nat)(r:K2)(x0 x3 x4 x6 x10 x12:O)(h:HW):Rs:=
 q89_198 C lf (fun x0 x3 x4 x6 x10 x12 x14 h=>q89_197 C lf r x0 x3 x4 x6 x10 x12 x14 h) x0 x3 x4 x6 x10 x12 h
theorem q89_199_eq(C:YC)(lf:Nat)(r:K2)(KN:KF)(KE:KX): ∀ F h,evX fx89 C lf [1,1,1] F h KN (fun F h=>r (F 10) (F 11) h) KE=q89_199 C lf r (F 0) (F 3) (F 4) (F 6) (F 10) (F 12) h:=cSeq (a:=subX fx89 [1,1,1,0]) (b:=subX fx89 [1,1,1,1]) (by kernel_rfl) (B:=(fun F h=>q89_197 C lf r (F 0) (F 3) (F 4) (F 6) (F 10) (F 12) (F 14) h)) (q89_197_eq C lf r KN KE) (q89_198_eq C lf (fun x0 x3 x4 x6 x10 x12 x14 h=>q89_197 C lf r x0 x3 x4 x6 x10 x12 x14 h) (fun F h=>r (F 10) (F 11) h) KE)
noncomputable def q89_206(C:YC)(lf:Nat)(n:K6)(r:K2)(x0 x3 x4 x6 x10 x12 x13:O)(h:HW):Rs:=
 ob x13 fun a200=>
 ob (bin Tryz.prog .neq 3 a200 (.int .i64 0)) fun y201=>
 yIf y201
 (ob (semBuild Tryz.prog 176 [] []) fun y202=>
 ob x13 fun a203=>
 ob x10 fun a204=>
 ob (st 5 a204 y202 h) fun h205=>
 r x10 (some a203) h205)
 (n x0 x3 x4 x6 x10 x12 h)
theorem q89_206_eq(C:YC)(lf:Nat)(n:K6)(r:K2)(KE:KX): ∀ F h,evX fx89 C lf [1,1,0] F h (fun F h=>n (F 0) (F 3) (F 4) (F 6) (F 10) (F 12) h) (fun F h=>r (F 10) (F 11) h) KE=q89_206 C lf n r (F 0) (F 3) (F 4) (F 6) (F 10) (F 12) (F 13) h:=by
 intro F h;kernel_rfl
noncomputable def q89_207(C:YC)(lf:Nat)(r:K2)(x0 x3 x4 x6 x10 x12 x13:O)(h:HW):Rs:=
 q89_206 C lf (fun x0 x3 x4 x6 x10 x12 h=>q89_199 C lf r x0 x3 x4 x6 x10 x12 h) r x0 x3 x4 x6 x10 x12 x13 h
theorem q89_207_eq(C:YC)(lf:Nat)(r:K2)(KN:KF)(KE:KX): ∀ F h,evX fx89 C lf [1,1] F h KN (fun F h=>r (F 10) (F 11) h) KE=q89_207 C lf r (F 0) (F 3) (F 4) (F 6) (F 10) (F 12) (F 13) h:=cSeq (a:=subX fx89 [1,1,0]) (b:=subX fx89 [1,1,1]) (by kernel_rfl) (B:=(fun F h=>q89_199 C lf r (F 0) (F 3) (F 4) (F 6) (F 10) (F 12) h)) (q89_199_eq C lf r KN KE) (q89_206_eq C lf (fun x0 x3 x4 x6 x10 x12 h=>q89_199 C lf r x0 x3 x4 x6 x10 x12 h) r KE)
noncomputable def q89_214(C:YC)(lf:Nat)(n:K7)(x0 x2 x3 x4 x6 x10:O)(h:HW):Rs:=
 ob x2 fun a208=>
 bc (C (.fn 117) [a208] h) fun y209 h209=>
 ob (ext 0 y209) fun y210=>
 ob (ext 1 y209) fun y211=>
 b2 (yAl Tryz.prog 188 h209) fun y212 h212=>
 ob (st 3 y212 y210 h212) fun h213=>
 n x0 x3 x4 x6 x10 (some y212) (some y211) h213
theorem q89_214_eq(C:YC)(lf:Nat)(n:K7)(KR:KF)(KE:KX): ∀ F h,evX fx89 C lf [1,0] F h (fun F h=>n (F 0) (F 3) (F 4) (F 6) (F 10) (F 12) (F 13) h) KR KE=q89_214 C lf n (F 0) (F 2) (F 3) (F 4) (F 6) (F 10) h:=by
 intro F h;kernel_rfl
noncomputable def q89_215(C:YC)(lf:Nat)(r:K2)(x0 x2 x3 x4 x6 x10:O)(h:HW):Rs:=
 q89_214 C lf (fun x0 x3 x4 x6 x10 x12 x13 h=>q89_207 C lf r x0 x3 x4 x6 x10 x12 x13 h) x0 x2 x3 x4 x6 x10 h
theorem q89_215_eq(C:YC)(lf:Nat)(r:K2)(KN:KF)(KE:KX): ∀ F h,evX fx89 C lf [1] F h KN (fun F h=>r (F 10) (F 11) h) KE=q89_215 C lf r (F 0) (F 2) (F 3) (F 4) (F 6) (F 10) h:=cSeq (a:=subX fx89 [1,0]) (b:=subX fx89 [1,1]) (by kernel_rfl) (B:=(fun F h=>q89_207 C lf r (F 0) (F 3) (F 4) (F 6) (F 10) (F 12) (F 13) h)) (q89_207_eq C lf r KN KE) (q89_214_eq C lf (fun x0 x3 x4 x6 x10 x12 x13 h=>q89_207 C lf r x0 x3 x4 x6 x10 x12 x13 h) (fun F h=>r (F 10) (F 11) h) KE)
noncomputable def q89_219(C:YC)(lf:Nat)(n:K6)(x0 x1 x2 x3 x4:O)(h:HW):Rs:=
 ob x1 fun a216=>
 b2 (ybx 48 a216 h) fun y217 h217=>
 b2 (yAl Tryz.prog 176 h217) fun y218 h218=>
 n x0 x2 x3 x4 (some y217) (some y218) h218
theorem q89_219_eq(C:YC)(lf:Nat)(n:K6)(KR:KF)(KE:KX): ∀ F h,evX fx89 C lf [0] F h (fun F h=>n (F 0) (F 2) (F 3) (F 4) (F 6) (F 10) h) KR KE=q89_219 C lf n (F 0) (F 1) (F 2) (F 3) (F 4) h:=by
 intro F h;kernel_rfl
noncomputable def q89_220(C:YC)(lf:Nat)(r:K2)(x0 x1 x2 x3 x4:O)(h:HW):Rs:=
 q89_219 C lf (fun x0 x2 x3 x4 x6 x10 h=>q89_215 C lf r x0 x2 x3 x4 x6 x10 h) x0 x1 x2 x3 x4 h
theorem q89_220_eq(C:YC)(lf:Nat)(r:K2)(KN:KF)(KE:KX): ∀ F h,evX fx89 C lf [] F h KN (fun F h=>r (F 10) (F 11) h) KE=q89_220 C lf r (F 0) (F 1) (F 2) (F 3) (F 4) h:=cSeq (a:=subX fx89 [0]) (b:=subX fx89 [1]) (by kernel_rfl) (B:=(fun F h=>q89_215 C lf r (F 0) (F 2) (F 3) (F 4) (F 6) (F 10) h)) (q89_215_eq C lf r KN KE) (q89_219_eq C lf (fun x0 x2 x3 x4 x6 x10 h=>q89_215 C lf r x0 x2 x3 x4 x6 x10 h) (fun F h=>r (F 10) (F 11) h) KE)
noncomputable def fs89(C:YC)(lf:Nat)(a0 a1 a2 a3 a4:SV)(h:HW):Rs:=q89_220 C lf ff89 (some a0) (some a1) (some a2) (some a3) (some a4) h
theorem fs89_eq(C:YC)(lf:Nat)(a0 a1 a2 a3 a4:SV)(h:HW):yFn Tryz.prog fx89 C lf [a0,a1,a2,a3,a4] h=fs89 C lf a0 a1 a2 a3 a4 h:=fnX (K:=(fun F h=>ff89 (F 10) (F 11) h)) (by kernel_rfl) (((q89_220_eq C lf ff89 (fun F h=>ff89 (F 10) (F 11) h) (fun _ _ _=>none)) _ h).trans (by kernel_rfl))
noncomputable def fy89:YX Tryz.prog:=Y5 fx89 fs89 fs89_eq (by kernel_rfl)
noncomputable def fx91:XF Tryz.prog:=⟨91,Tryz.f91,fun _=> .text,Tryz.func91,by kernel_rfl,by kernel_rfl,by kernel_rfl,by kernel_rfl⟩
noncomputable def ff91(x4:O)(h:HW):Rs:=
 ob x4 fun a0=>
 some (.ret a0,h)
noncomputable def q91_14(C:YC)(lf:Nat)(r:K1)(x0 x1:O)(h:HW):Rs:=
 ob x0 fun a1=>
 ob (semNil a1) fun y2=>
 ob (fa 0 y2) fun y3=>
 ob (ld1 y3 h) fun y4=>
 ob (semNil y4) fun y5=>
 ob (fa 4 y5) fun y6=>
 ob (ld1 y6 h) fun y7=>
 ob x1 fun a8=>
 ob (ixS 308 y7 a8) fun y9=>
 ob (fa 1 y9) fun y10=>
 ob (fa 1 y10) fun y11=>
 ob (ld1 y11 h) fun y12=>
 ob (bin Tryz.prog .eql 3 y12 (.int .i64 0)) fun y13=>
 r (some y13) h
theorem q91_14_eq(C:YC)(lf:Nat)(r:K1)(KN:KF)(KE:KX): ∀ F h,evX fx91 C lf [] F h KN (fun F h=>r (F 4) h) KE=q91_14 C lf r (F 0) (F 1) h:=by
 intro F h;kernel_rfl
noncomputable def fs91(C:YC)(lf:Nat)(a0 a1:SV)(h:HW):Rs:=q91_14 C lf ff91 (some a0) (some a1) h
theorem fs91_eq(C:YC)(lf:Nat)(a0 a1:SV)(h:HW):yFn Tryz.prog fx91 C lf [a0,a1] h=fs91 C lf a0 a1 h:=fnX (K:=(fun F h=>ff91 (F 4) h)) (by kernel_rfl) (((q91_14_eq C lf ff91 (fun F h=>ff91 (F 4) h) (fun _ _ _=>none)) _ h).trans (by kernel_rfl))
noncomputable def fy91:YX Tryz.prog:=Y2 fx91 fs91 fs91_eq (by kernel_rfl)
noncomputable def fx92:XF Tryz.prog:=⟨92,Tryz.f92,fun _=> .text,Tryz.func92,by kernel_rfl,by kernel_rfl,by kernel_rfl,by kernel_rfl⟩
noncomputable def ff92(x8:O)(h:HW):Rs:=
 ob x8 fun a0=>
 some (.ret a0,h)
noncomputable def q92_25(C:YC)(lf:Nat)(r:K1)(x0 x1 x2 x3:O)(h:HW):Rs:=
 ob x1 fun a1=>
 b2 (ybx 48 a1 h) fun y2 h2=>
 ob x0 fun a3=>
 ob (semNil a3) fun y4=>
 ob (fa 0 y4) fun y5=>
 ob (ld1 y5 h2) fun y6=>
 ob (semNil y6) fun y7=>
 ob (fa 4 y7) fun y8=>
 ob (ld1 y8 h2) fun y9=>
 ob x2 fun a10=>
 ob (ixS 308 y9 a10) fun y11=>
 ob (fa 1 y11) fun y12=>
 ob (ldN 10 y12 h2) fun y13=>
 b2 (yAl Tryz.prog 63 h2) fun y14 h14=>
 ob (st 10 y14 y13 h14) fun h15=>
 ob (fa 6 y14) fun y16=>
 ob (ld1 y16 h15) fun y17=>
 ob (fa 2 y14) fun y18=>
 ob (ld1 y18 h15) fun y19=>
 ob (fa 3 y14) fun y20=>
 ob (ld1 y20 h15) fun y21=>
 ob (ldN 5 y2 h15) fun y22=>
 ob x3 fun a23=>
 bc (C (.fn 154) [y17,y19,y21,y22,a23] h15) fun y24 h24=>
 r (some y24) h24
theorem q92_25_eq(C:YC)(lf:Nat)(r:K1)(KN:KF)(KE:KX): ∀ F h,evX fx92 C lf [] F h KN (fun F h=>r (F 8) h) KE=q92_25 C lf r (F 0) (F 1) (F 2) (F 3) h:=by
 intro F h;kernel_rfl
noncomputable def fs92(C:YC)(lf:Nat)(a0 a1 a2 a3:SV)(h:HW):Rs:=q92_25 C lf ff92 (some a0) (some a1) (some a2) (some a3) h
theorem fs92_eq(C:YC)(lf:Nat)(a0 a1 a2 a3:SV)(h:HW):yFn Tryz.prog fx92 C lf [a0,a1,a2,a3] h=fs92 C lf a0 a1 a2 a3 h:=fnX (K:=(fun F h=>ff92 (F 8) h)) (by kernel_rfl) (((q92_25_eq C lf ff92 (fun F h=>ff92 (F 8) h) (fun _ _ _=>none)) _ h).trans (by kernel_rfl))
noncomputable def fy92:YX Tryz.prog:=Y4 fx92 fs92 fs92_eq (by kernel_rfl)
end Go.Proofs.YtgofkccnmmiciaaGreatDoor.Eva
