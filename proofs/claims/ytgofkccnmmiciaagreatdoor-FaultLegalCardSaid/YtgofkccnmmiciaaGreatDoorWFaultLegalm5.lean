import Derived.Test.YtgofkccnmmiciaaGreatDoorCards
import Derived.Test.YtgofkccnmmiciaaGreatDoorWFaultLegalm3
set_option linter.unusedSimpArgs false
set_option linter.unusedVariables false
namespace Go.Proofs.YtgofkccnmmiciaaGreatDoor.Eva
open Go.Xe
set_option maxRecDepth 100000
set_option linter.unusedVariables false
noncomputable def fx93:XF Tryz.prog:=⟨93,Tryz.f93,fun _=> .text,Tryz.func93,by kernel_rfl,by kernel_rfl,by kernel_rfl,by kernel_rfl⟩
noncomputable def ff93(x2:O)(h:HW):Rs:=
 ob x2 fun a0=>
 some (.ret a0,h)
noncomputable def q93_2(C:YC)(lf:Nat)(r:K1)(x3:O)(h:HW):Rs:=
 ob x3 fun a1=>
 r (some a1) h
theorem q93_2_eq(C:YC)(lf:Nat)(r:K1)(KN:KF)(KE:KX): ∀ F h,evX fx93 C lf [1,1,1] F h KN (fun F h=>r (F 2) h) KE=q93_2 C lf r (F 3) h:=by
 intro F h;kernel_rfl
noncomputable def q93_26(C:YC)(lf:Nat)(n:K3)(e0:K1)(x0 x3 x4:O)(h:HW):Rs:=
 ob x4 fun a4=>
 ob x0 fun a5=>
 ob (semNil a5) fun y6=>
 ob (fa 2 y6) fun y7=>
 ob (ld1 y7 h) fun y8=>
 ob (bin Tryz.prog .leq 3 a4 y8) fun y9=>
 yIf y9
 (ob x0 fun a10=>
 ob (semNil a10) fun y11=>
 ob (fa 4 y11) fun y12=>
 ob (ld1 y12 h) fun y13=>
 ob x4 fun a14=>
 ob (ixS 308 y13 a14) fun y15=>
 ob (fa 0 y15) fun y16=>
 ob (ld1 y16 h) fun y17=>
 yIf y17
 (ob x3 fun a18=>
 ob x4 fun a19=>
 b2 (ybs Tryz.prog 46 1 [0] [a19] h) fun y20 h20=>
 b2 (ybl Tryz.prog .append #[46,46] [a18,y20] h20) fun y21 h21=>
 ob x4 fun a22=>
 ob (bin Tryz.prog .add 3 a22 (.int .i64 1)) fun y23=>
 n x0 (some y21) (some y23) h21)
 (ob x4 fun a24=>
 ob (bin Tryz.prog .add 3 a24 (.int .i64 1)) fun y25=>
 n x0 x3 (some y25) h))
 (e0 x3 h)
theorem q93_26_eq(C:YC)(lf:Nat)(n:K3)(e0:K1)(KR:KF)(KE:KX): ∀ F h,evX fx93 C lf [1,1,0,1,0,0] F h (fun F h=>n (F 0) (F 3) (F 4) h) KR (bk 0 (fun F h=>e0 (F 3) h) KE)=q93_26 C lf n e0 (F 0) (F 3) (F 4) h:=by
 intro F h;kernel_rfl
noncomputable def l93_3(C:YC)(lf:Nat)(e0:K1)(k:O × O × O→HW→Rs)(s:O × O × O)(h:HW):Rs:=
 q93_26 C lf (fun x0 x3 x4 h=>k (x0,x3,x4) h) e0 s.1 s.2.1 s.2.2 h
noncomputable def q93_27(C:YC)(lf:Nat)(n:K3)(x0 x3:O)(h:HW):Rs:=
 n x0 x3 (some (.int .i64 1)) h
theorem q93_27_eq(C:YC)(lf:Nat)(n:K3)(KR:KF)(KE:KX): ∀ F h,evX fx93 C lf [1,1,0,0] F h (fun F h=>n (F 0) (F 3) (F 4) h) KR KE=q93_27 C lf n (F 0) (F 3) h:=by
 intro F h;kernel_rfl
noncomputable def q93_28(C:YC)(lf:Nat)(n:K1)(x0 x3:O)(h:HW):Rs:=
 q93_27 C lf (fun x0 x3 x4 h=>lp (l93_3 C lf n) lf (x0,x3,x4) h) x0 x3 h
theorem q93_28_eq(C:YC)(lf:Nat)(n:K1)(KR:KF)(KE:KX): ∀ F h,evX fx93 C lf [1,1,0] F h (fun F h=>n (F 3) h) KR KE=q93_28 C lf n (F 0) (F 3) h:=cSeq (a:=subX fx93 [1,1,0,0]) (b:=subX fx93 [1,1,0,1]) (by kernel_rfl) (B:=(fun F h=>lp (l93_3 C lf n) lf ((F 0),(F 3),(F 4)) h)) (cBlock (id:=0) (a:=subX fx93 [1,1,0,1,0]) (by kernel_rfl) (cLoop (a:=subX fx93 [1,1,0,1,0,0]) (g:=fun F=>(F 0,F 3,F 4)) (body:=l93_3 C lf n) (by kernel_rfl) (fun k=>(q93_26_eq C lf (fun x0 x3 x4 h=>k (x0,x3,x4) h) n KR KE)))) (q93_27_eq C lf (fun x0 x3 x4 h=>lp (l93_3 C lf n) lf (x0,x3,x4) h) KR KE)
noncomputable def q93_29(C:YC)(lf:Nat)(r:K1)(x0 x3:O)(h:HW):Rs:=
 q93_28 C lf (fun x3 h=>q93_2 C lf r x3 h) x0 x3 h
theorem q93_29_eq(C:YC)(lf:Nat)(r:K1)(KN:KF)(KE:KX): ∀ F h,evX fx93 C lf [1,1] F h KN (fun F h=>r (F 2) h) KE=q93_29 C lf r (F 0) (F 3) h:=cSeq (a:=subX fx93 [1,1,0]) (b:=subX fx93 [1,1,1]) (by kernel_rfl) (B:=(fun F h=>q93_2 C lf r (F 3) h)) (q93_2_eq C lf r KN KE) (q93_28_eq C lf (fun x3 h=>q93_2 C lf r x3 h) (fun F h=>r (F 2) h) KE)
noncomputable def q93_30(C:YC)(lf:Nat)(n:K2)(x0:O)(h:HW):Rs:=
 n x0 (some (.val (.slice none 0 0))) h
theorem q93_30_eq(C:YC)(lf:Nat)(n:K2)(KR:KF)(KE:KX): ∀ F h,evX fx93 C lf [1,0] F h (fun F h=>n (F 0) (F 3) h) KR KE=q93_30 C lf n (F 0) h:=by
 intro F h;kernel_rfl
noncomputable def q93_31(C:YC)(lf:Nat)(r:K1)(x0:O)(h:HW):Rs:=
 q93_30 C lf (fun x0 x3 h=>q93_29 C lf r x0 x3 h) x0 h
theorem q93_31_eq(C:YC)(lf:Nat)(r:K1)(KN:KF)(KE:KX): ∀ F h,evX fx93 C lf [1] F h KN (fun F h=>r (F 2) h) KE=q93_31 C lf r (F 0) h:=cSeq (a:=subX fx93 [1,0]) (b:=subX fx93 [1,1]) (by kernel_rfl) (B:=(fun F h=>q93_29 C lf r (F 0) (F 3) h)) (q93_29_eq C lf r KN KE) (q93_30_eq C lf (fun x0 x3 h=>q93_29 C lf r x0 x3 h) (fun F h=>r (F 2) h) KE)
noncomputable def q93_32(C:YC)(lf:Nat)(n:K1)(x0:O)(h:HW):Rs:=
 n x0 h
theorem q93_32_eq(C:YC)(lf:Nat)(n:K1)(KR:KF)(KE:KX): ∀ F h,evX fx93 C lf [0] F h (fun F h=>n (F 0) h) KR KE=q93_32 C lf n (F 0) h:=by
 intro F h;kernel_rfl
noncomputable def q93_33(C:YC)(lf:Nat)(r:K1)(x0:O)(h:HW):Rs:=
 q93_32 C lf (fun x0 h=>q93_31 C lf r x0 h) x0 h
theorem q93_33_eq(C:YC)(lf:Nat)(r:K1)(KN:KF)(KE:KX): ∀ F h,evX fx93 C lf [] F h KN (fun F h=>r (F 2) h) KE=q93_33 C lf r (F 0) h:=cSeq (a:=subX fx93 [0]) (b:=subX fx93 [1]) (by kernel_rfl) (B:=(fun F h=>q93_31 C lf r (F 0) h)) (q93_31_eq C lf r KN KE) (q93_32_eq C lf (fun x0 h=>q93_31 C lf r x0 h) (fun F h=>r (F 2) h) KE)
noncomputable def fs93(C:YC)(lf:Nat)(a0:SV)(h:HW):Rs:=q93_33 C lf ff93 (some a0) h
theorem fs93_eq(C:YC)(lf:Nat)(a0:SV)(h:HW):yFn Tryz.prog fx93 C lf [a0] h=fs93 C lf a0 h:=fnX (K:=(fun F h=>ff93 (F 2) h)) (by kernel_rfl) (((q93_33_eq C lf ff93 (fun F h=>ff93 (F 2) h) (fun _ _ _=>none)) _ h).trans (by kernel_rfl))
noncomputable def fy93:YX Tryz.prog:=Y1 fx93 fs93 fs93_eq (by kernel_rfl)
noncomputable def fx94:XF Tryz.prog:=⟨94,Tryz.f94,fun _=> .text,Tryz.func94,by kernel_rfl,by kernel_rfl,by kernel_rfl,by kernel_rfl⟩
noncomputable def ff94(x6:O)(h:HW):Rs:=
 ob x6 fun a0=>
 some (.ret a0,h)
noncomputable def q94_27(C:YC)(lf:Nat)(r:K1)(x0 x1 x2:O)(h:HW):Rs:=
 ob x0 fun a1=>
 ob x1 fun a2=>
 bc (C (.fn 155) [a1,a2] h) fun y3 h3=>
 ob (bin Tryz.prog .geq 3 y3 (.int .i64 0)) fun y4=>
 bc (gd true (some y4) (ob x0 fun a5=>
 some (.ret a5,h3)) h3) fun y6 h6=>
 bc (gd true (some y4) (ob (semNil y6) fun y7=>
 some (.ret y7,h6)) h6) fun y8 h8=>
 bc (gd true (some y4) (ob (fa 0 y8) fun y9=>
 some (.ret y9,h8)) h8) fun y10 h10=>
 bc (gd true (some y4) (ob (ld1 y10 h10) fun y11=>
 some (.ret y11,h10)) h10) fun y12 h12=>
 bc (gd true (some y4) (ob (semNil y12) fun y13=>
 some (.ret y13,h12)) h12) fun y14 h14=>
 bc (gd true (some y4) (ob (fa 0 y14) fun y15=>
 some (.ret y15,h14)) h14) fun y16 h16=>
 bc (gd true (some y4) (bc (C (.fn 156) [y16] h16) fun y17 h17=>
 some (.ret y17,h17)) h16) fun y18 h18=>
 bc (gd true (some y4) (some (.ret y3,h18)) h18) fun y19 h19=>
 bc (gd true (some y4) (ob x2 fun a20=>
 some (.ret a20,h19)) h19) fun y21 h21=>
 bc (gd true (some y4) (ob (bin Tryz.prog .add 3 y19 y21) fun y22=>
 some (.ret y22,h21)) h21) fun y23 h23=>
 bc (gd true (some y4) (ob (bin Tryz.prog .geq 3 y18 y23) fun y24=>
 some (.ret y24,h23)) h23) fun y25 h25=>
 ob (ypk y4 y25 (.bool false)) fun y26=>
 r (some y26) h25
theorem q94_27_eq(C:YC)(lf:Nat)(r:K1)(KN:KF)(KE:KX): ∀ F h,evX fx94 C lf [] F h KN (fun F h=>r (F 6) h) KE=q94_27 C lf r (F 0) (F 1) (F 2) h:=by
 intro F h;kernel_rfl
noncomputable def fs94(C:YC)(lf:Nat)(a0 a1 a2:SV)(h:HW):Rs:=q94_27 C lf ff94 (some a0) (some a1) (some a2) h
theorem fs94_eq(C:YC)(lf:Nat)(a0 a1 a2:SV)(h:HW):yFn Tryz.prog fx94 C lf [a0,a1,a2] h=fs94 C lf a0 a1 a2 h:=fnX (K:=(fun F h=>ff94 (F 6) h)) (by kernel_rfl) (((q94_27_eq C lf ff94 (fun F h=>ff94 (F 6) h) (fun _ _ _=>none)) _ h).trans (by kernel_rfl))
noncomputable def fy94:YX Tryz.prog:=Y3 fx94 fs94 fs94_eq (by kernel_rfl)
noncomputable def fx95:XF Tryz.prog:=⟨95,Tryz.f95,fun _=> .text,Tryz.func95,by kernel_rfl,by kernel_rfl,by kernel_rfl,by kernel_rfl⟩
noncomputable def ff95(x6:O)(h:HW):Rs:=
 ob x6 fun a0=>
 some (.ret a0,h)
noncomputable def q95_31(C:YC)(lf:Nat)(r:K1)(x0 x1 x2:O)(h:HW):Rs:=
 ob x1 fun a1=>
 b2 (ybx 48 a1 h) fun y2 h2=>
 ob x0 fun a3=>
 ob (semNil a3) fun y4=>
 ob (fa 0 y4) fun y5=>
 ob (ld1 y5 h2) fun y6=>
 ob (semNil y6) fun y7=>
 ob (fa 4 y7) fun y8=>
 ob (ld1 y8 h2) fun y9=>
 ob x2 fun a10=>
 ob (ixS 308 y9 a10) fun y11=>
 ob (fa 1 y11) fun y12=>
 ob (fa 6 y12) fun y13=>
 ob (ld1 y13 h2) fun y14=>
 ob (bin Tryz.prog .and 34 y14 (.int .i64 1024)) fun y15=>
 ob (bin Tryz.prog .neq 34 y15 (.int .i64 0)) fun y16=>
 yIf y16
 (ob x0 fun a17=>
 ob (semNil a17) fun y18=>
 ob (fa 0 y18) fun y19=>
 ob (ld1 y19 h2) fun y20=>
 ob (semNil y20) fun y21=>
 ob (fa 4 y21) fun y22=>
 ob (ld1 y22 h2) fun y23=>
 ob x2 fun a24=>
 ob (ixS 308 y23 a24) fun y25=>
 ob (fa 1 y25) fun y26=>
 ob (fa 3 y26) fun y27=>
 ob (ld1 y27 h2) fun y28=>
 r (some y28) h2)
 (ob (fa 1 y2) fun y29=>
 ob (ld1 y29 h2) fun y30=>
 r (some y30) h2)
theorem q95_31_eq(C:YC)(lf:Nat)(r:K1)(KN:KF)(KE:KX): ∀ F h,evX fx95 C lf [] F h KN (fun F h=>r (F 6) h) KE=q95_31 C lf r (F 0) (F 1) (F 2) h:=by
 intro F h;kernel_rfl
noncomputable def fs95(C:YC)(lf:Nat)(a0 a1 a2:SV)(h:HW):Rs:=q95_31 C lf ff95 (some a0) (some a1) (some a2) h
theorem fs95_eq(C:YC)(lf:Nat)(a0 a1 a2:SV)(h:HW):yFn Tryz.prog fx95 C lf [a0,a1,a2] h=fs95 C lf a0 a1 a2 h:=fnX (K:=(fun F h=>ff95 (F 6) h)) (by kernel_rfl) (((q95_31_eq C lf ff95 (fun F h=>ff95 (F 6) h) (fun _ _ _=>none)) _ h).trans (by kernel_rfl))
noncomputable def fy95:YX Tryz.prog:=Y3 fx95 fs95 fs95_eq (by kernel_rfl)
noncomputable def fx96:XF Tryz.prog:=⟨96,Tryz.f96,fun _=> .text,Tryz.func96,by kernel_rfl,by kernel_rfl,by kernel_rfl,by kernel_rfl⟩
noncomputable def ff96(x8:O)(h:HW):Rs:=
 ob x8 fun a0=>
 some (.ret a0,h)
noncomputable def q96_16(C:YC)(lf:Nat)(r:K1)(x0 x1 x2 x3 x11:O)(h:HW):Rs:=
 ob x11 fun a1=>
 ob (bin Tryz.prog .add 3 a1 (.int .i64 1)) fun y2=>
 ob (bin Tryz.prog .mul 3 y2 (.int .i64 32)) fun y3=>
 ob (bin Tryz.prog .gtr 3 y3 (.int .i64 17792)) fun y4=>
 yIf y4
 (r (some (.int .i64 28)) h)
 (ob x0 fun a5=>
 ob x1 fun a6=>
 ob x11 fun a7=>
 ob (bin Tryz.prog .mul 3 a7 (.int .i64 32)) fun y8=>
 ob x3 fun a9=>
 ob x2 fun a10=>
 bc (C (.fn 77) [a9,a10] h) fun y11 h11=>
 bc (C (.fn 76) [a5,a6,y8,y11] h11) fun y12 h12=>
 ob (ext 0 y12) fun y13=>
 ob (ext 1 y12) fun y14=>
 ob (bin Tryz.prog .eql 3 y13 (.int .i64 0)) fun y15=>
 yIf y15
 (r (some (.int .i64 28)) h12)
 (r (some (.int .i64 0)) h12))
theorem q96_16_eq(C:YC)(lf:Nat)(r:K1)(KN:KF)(KE:KX): ∀ F h,evX fx96 C lf [1,1,1,1,1,1,1,1] F h KN (fun F h=>r (F 8) h) KE=q96_16 C lf r (F 0) (F 1) (F 2) (F 3) (F 11) h:=by
 intro F h;kernel_rfl
noncomputable def q96_31(C:YC)(lf:Nat)(n:K7)(e0:K5)(x0 x1 x2 x3 x10 x11 x12:O)(h:HW):Rs:=
 ob x12 fun a18=>
 ob (bin Tryz.prog .geq 3 a18 (.int .i64 0)) fun y19=>
 yIf y19
 (ob x10 fun a20=>
 ob x12 fun a21=>
 ob (ixS 1 a20 a21) fun y22=>
 ob (ld1 y22 h) fun y23=>
 bc (C (.fn 160) [y23] h) fun y24 h24=>
 ob (bin Tryz.prog .eql 3 y24 (.int .i64 0)) fun y25=>
 yIf y25
 (ob x12 fun a26=>
 ob x12 fun a27=>
 ob (bin Tryz.prog .sub 3 a27 (.int .i64 1)) fun y28=>
 n x0 x1 x2 x3 x10 (some a26) (some y28) h24)
 (ob x12 fun a29=>
 ob (bin Tryz.prog .sub 3 a29 (.int .i64 1)) fun y30=>
 n x0 x1 x2 x3 x10 x11 (some y30) h24))
 (e0 x0 x1 x2 x3 x11 h)
theorem q96_31_eq(C:YC)(lf:Nat)(n:K7)(e0:K5)(KR:KF)(KE:KX): ∀ F h,evX fx96 C lf [1,1,1,1,1,1,1,0,1,0,0] F h (fun F h=>n (F 0) (F 1) (F 2) (F 3) (F 10) (F 11) (F 12) h) KR (bk 0 (fun F h=>e0 (F 0) (F 1) (F 2) (F 3) (F 11) h) KE)=q96_31 C lf n e0 (F 0) (F 1) (F 2) (F 3) (F 10) (F 11) (F 12) h:=by
 intro F h;kernel_rfl
noncomputable def l96_17(C:YC)(lf:Nat)(e0:K5)(k:O × O × O × O × O × O × O→HW→Rs)(s:O × O × O × O × O × O × O)(h:HW):Rs:=
 q96_31 C lf (fun x0 x1 x2 x3 x10 x11 x12 h=>k (x0,x1,x2,x3,x10,x11,x12) h) e0 s.1 s.2.1 s.2.2.1 s.2.2.2.1 s.2.2.2.2.1 s.2.2.2.2.2.1 s.2.2.2.2.2.2 h
noncomputable def q96_35(C:YC)(lf:Nat)(n:K7)(x0 x1 x2 x3 x10 x11:O)(h:HW):Rs:=
 ob x10 fun a32=>
 ob (lenE Tryz.prog 147 a32) fun y33=>
 ob (bin Tryz.prog .sub 3 y33 (.int .i64 1)) fun y34=>
 n x0 x1 x2 x3 x10 x11 (some y34) h
theorem q96_35_eq(C:YC)(lf:Nat)(n:K7)(KR:KF)(KE:KX): ∀ F h,evX fx96 C lf [1,1,1,1,1,1,1,0,0] F h (fun F h=>n (F 0) (F 1) (F 2) (F 3) (F 10) (F 11) (F 12) h) KR KE=q96_35 C lf n (F 0) (F 1) (F 2) (F 3) (F 10) (F 11) h:=by
 intro F h;kernel_rfl
noncomputable def q96_36(C:YC)(lf:Nat)(n:K5)(x0 x1 x2 x3 x10 x11:O)(h:HW):Rs:=
 q96_35 C lf (fun x0 x1 x2 x3 x10 x11 x12 h=>lp (l96_17 C lf n) lf (x0,x1,x2,x3,x10,x11,x12) h) x0 x1 x2 x3 x10 x11 h
theorem q96_36_eq(C:YC)(lf:Nat)(n:K5)(KR:KF)(KE:KX): ∀ F h,evX fx96 C lf [1,1,1,1,1,1,1,0] F h (fun F h=>n (F 0) (F 1) (F 2) (F 3) (F 11) h) KR KE=q96_36 C lf n (F 0) (F 1) (F 2) (F 3) (F 10) (F 11) h:=cSeq (a:=subX fx96 [1,1,1,1,1,1,1,0,0]) (b:=subX fx96 [1,1,1,1,1,1,1,0,1]) (by kernel_rfl) (B:=(fun F h=>lp (l96_17 C lf n) lf ((F 0),(F 1),(F 2),(F 3),(F 10),(F 11),(F 12)) h)) (cBlock (id:=0) (a:=subX fx96 [1,1,1,1,1,1,1,0,1,0]) (by kernel_rfl) (cLoop (a:=subX fx96 [1,1,1,1,1,1,1,0,1,0,0]) (g:=fun F=>(F 0,F 1,F 2,F 3,F 10,F 11,F 12)) (body:=l96_17 C lf n) (by kernel_rfl) (fun k=>(q96_31_eq C lf (fun x0 x1 x2 x3 x10 x11 x12 h=>k (x0,x1,x2,x3,x10,x11,x12) h) n KR KE)))) (q96_35_eq C lf (fun x0 x1 x2 x3 x10 x11 x12 h=>lp (l96_17 C lf n) lf (x0,x1,x2,x3,x10,x11,x12) h) KR KE)
noncomputable def q96_37(C:YC)(lf:Nat)(r:K1)(x0 x1 x2 x3 x10 x11:O)(h:HW):Rs:=
 q96_36 C lf (fun x0 x1 x2 x3 x11 h=>q96_16 C lf r x0 x1 x2 x3 x11 h) x0 x1 x2 x3 x10 x11 h
theorem q96_37_eq(C:YC)(lf:Nat)(r:K1)(KN:KF)(KE:KX): ∀ F h,evX fx96 C lf [1,1,1,1,1,1,1] F h KN (fun F h=>r (F 8) h) KE=q96_37 C lf r (F 0) (F 1) (F 2) (F 3) (F 10) (F 11) h:=cSeq (a:=subX fx96 [1,1,1,1,1,1,1,0]) (b:=subX fx96 [1,1,1,1,1,1,1,1]) (by kernel_rfl) (B:=(fun F h=>q96_16 C lf r (F 0) (F 1) (F 2) (F 3) (F 11) h)) (q96_16_eq C lf r KN KE) (q96_36_eq C lf (fun x0 x1 x2 x3 x11 h=>q96_16 C lf r x0 x1 x2 x3 x11 h) (fun F h=>r (F 8) h) KE)
noncomputable def q96_40(C:YC)(lf:Nat)(n:K6)(x0 x1 x2 x3 x10:O)(h:HW):Rs:=
 ob x10 fun a38=>
 ob (lenE Tryz.prog 147 a38) fun y39=>
 n x0 x1 x2 x3 x10 (some y39) h
theorem q96_40_eq(C:YC)(lf:Nat)(n:K6)(KR:KF)(KE:KX): ∀ F h,evX fx96 C lf [1,1,1,1,1,1,0] F h (fun F h=>n (F 0) (F 1) (F 2) (F 3) (F 10) (F 11) h) KR KE=q96_40 C lf n (F 0) (F 1) (F 2) (F 3) (F 10) h:=by
 intro F h;kernel_rfl
noncomputable def q96_41(C:YC)(lf:Nat)(r:K1)(x0 x1 x2 x3 x10:O)(h:HW):Rs:=
 q96_40 C lf (fun x0 x1 x2 x3 x10 x11 h=>q96_37 C lf r x0 x1 x2 x3 x10 x11 h) x0 x1 x2 x3 x10 h
theorem q96_41_eq(C:YC)(lf:Nat)(r:K1)(KN:KF)(KE:KX): ∀ F h,evX fx96 C lf [1,1,1,1,1,1] F h KN (fun F h=>r (F 8) h) KE=q96_41 C lf r (F 0) (F 1) (F 2) (F 3) (F 10) h:=cSeq (a:=subX fx96 [1,1,1,1,1,1,0]) (b:=subX fx96 [1,1,1,1,1,1,1]) (by kernel_rfl) (B:=(fun F h=>q96_37 C lf r (F 0) (F 1) (F 2) (F 3) (F 10) (F 11) h)) (q96_37_eq C lf r KN KE) (q96_40_eq C lf (fun x0 x1 x2 x3 x10 x11 h=>q96_37 C lf r x0 x1 x2 x3 x10 x11 h) (fun F h=>r (F 8) h) KE)
noncomputable def q96_45(C:YC)(lf:Nat)(n:K5)(x0 x1 x2 x3:O)(h:HW):Rs:=
 ob x0 fun a42=>
 ob x1 fun a43=>
 bc (C (.fn 159) [a42,a43] h) fun y44 h44=>
 n x0 x1 x2 x3 (some y44) h44
theorem q96_45_eq(C:YC)(lf:Nat)(n:K5)(KR:KF)(KE:KX): ∀ F h,evX fx96 C lf [1,1,1,1,1,0] F h (fun F h=>n (F 0) (F 1) (F 2) (F 3) (F 10) h) KR KE=q96_45 C lf n (F 0) (F 1) (F 2) (F 3) h:=by
 intro F h;kernel_rfl
noncomputable def q96_46(C:YC)(lf:Nat)(r:K1)(x0 x1 x2 x3:O)(h:HW):Rs:=
 q96_45 C lf (fun x0 x1 x2 x3 x10 h=>q96_41 C lf r x0 x1 x2 x3 x10 h) x0 x1 x2 x3 h
theorem q96_46_eq(C:YC)(lf:Nat)(r:K1)(KN:KF)(KE:KX): ∀ F h,evX fx96 C lf [1,1,1,1,1] F h KN (fun F h=>r (F 8) h) KE=q96_46 C lf r (F 0) (F 1) (F 2) (F 3) h:=cSeq (a:=subX fx96 [1,1,1,1,1,0]) (b:=subX fx96 [1,1,1,1,1,1]) (by kernel_rfl) (B:=(fun F h=>q96_41 C lf r (F 0) (F 1) (F 2) (F 3) (F 10) h)) (q96_41_eq C lf r KN KE) (q96_45_eq C lf (fun x0 x1 x2 x3 x10 h=>q96_41 C lf r x0 x1 x2 x3 x10 h) (fun F h=>r (F 8) h) KE)
noncomputable def q96_52(C:YC)(lf:Nat)(n:K4)(r:K1)(x0 x1 x2 x3:O)(h:HW):Rs:=
 ob x0 fun a47=>
 ob x1 fun a48=>
 ob x2 fun a49=>
 bc (C (.fn 158) [a47,a48,a49] h) fun y50 h50=>
 ob (bin Tryz.prog .geq 3 y50 (.int .i64 0)) fun y51=>
 yIf y51
 (r (some (.int .i64 17)) h50)
 (n x0 x1 x2 x3 h50)
theorem q96_52_eq(C:YC)(lf:Nat)(n:K4)(r:K1)(KE:KX): ∀ F h,evX fx96 C lf [1,1,1,1,0] F h (fun F h=>n (F 0) (F 1) (F 2) (F 3) h) (fun F h=>r (F 8) h) KE=q96_52 C lf n r (F 0) (F 1) (F 2) (F 3) h:=by
 intro F h;kernel_rfl
noncomputable def q96_53(C:YC)(lf:Nat)(r:K1)(x0 x1 x2 x3:O)(h:HW):Rs:=
 q96_52 C lf (fun x0 x1 x2 x3 h=>q96_46 C lf r x0 x1 x2 x3 h) r x0 x1 x2 x3 h
theorem q96_53_eq(C:YC)(lf:Nat)(r:K1)(KN:KF)(KE:KX): ∀ F h,evX fx96 C lf [1,1,1,1] F h KN (fun F h=>r (F 8) h) KE=q96_53 C lf r (F 0) (F 1) (F 2) (F 3) h:=cSeq (a:=subX fx96 [1,1,1,1,0]) (b:=subX fx96 [1,1,1,1,1]) (by kernel_rfl) (B:=(fun F h=>q96_46 C lf r (F 0) (F 1) (F 2) (F 3) h)) (q96_46_eq C lf r KN KE) (q96_52_eq C lf (fun x0 x1 x2 x3 h=>q96_46 C lf r x0 x1 x2 x3 h) r KE)
noncomputable def q96_58(C:YC)(lf:Nat)(n:K4)(r:K1)(x0 x1 x2 x3:O)(h:HW):Rs:=
 ob x0 fun a54=>
 ob x3 fun a55=>
 bc (C (.fn 75) [a54,a55] h) fun y56 h56=>
 ob (unE .not y56) fun y57=>
 yIf y57
 (r (some (.int .i64 22)) h56)
 (n x0 x1 x2 x3 h56)
theorem q96_58_eq(C:YC)(lf:Nat)(n:K4)(r:K1)(KE:KX): ∀ F h,evX fx96 C lf [1,1,1,0] F h (fun F h=>n (F 0) (F 1) (F 2) (F 3) h) (fun F h=>r (F 8) h) KE=q96_58 C lf n r (F 0) (F 1) (F 2) (F 3) h:=by
 intro F h;kernel_rfl
noncomputable def q96_59(C:YC)(lf:Nat)(r:K1)(x0 x1 x2 x3:O)(h:HW):Rs:=
 q96_58 C lf (fun x0 x1 x2 x3 h=>q96_53 C lf r x0 x1 x2 x3 h) r x0 x1 x2 x3 h
theorem q96_59_eq(C:YC)(lf:Nat)(r:K1)(KN:KF)(KE:KX): ∀ F h,evX fx96 C lf [1,1,1] F h KN (fun F h=>r (F 8) h) KE=q96_59 C lf r (F 0) (F 1) (F 2) (F 3) h:=cSeq (a:=subX fx96 [1,1,1,0]) (b:=subX fx96 [1,1,1,1]) (by kernel_rfl) (B:=(fun F h=>q96_53 C lf r (F 0) (F 1) (F 2) (F 3) h)) (q96_53_eq C lf r KN KE) (q96_58_eq C lf (fun x0 x1 x2 x3 h=>q96_53 C lf r x0 x1 x2 x3 h) r KE)
noncomputable def q96_63(C:YC)(lf:Nat)(n:K4)(r:K1)(x0 x1 x2 x3 x9:O)(h:HW):Rs:=
 ob x9 fun a60=>
 ob (bin Tryz.prog .neq 3 a60 (.int .i64 0)) fun y61=>
 yIf y61
 (ob x9 fun a62=>
 r (some a62) h)
 (n x0 x1 x2 x3 h)
theorem q96_63_eq(C:YC)(lf:Nat)(n:K4)(r:K1)(KE:KX): ∀ F h,evX fx96 C lf [1,1,0] F h (fun F h=>n (F 0) (F 1) (F 2) (F 3) h) (fun F h=>r (F 8) h) KE=q96_63 C lf n r (F 0) (F 1) (F 2) (F 3) (F 9) h:=by
 intro F h;kernel_rfl
noncomputable def q96_64(C:YC)(lf:Nat)(r:K1)(x0 x1 x2 x3 x9:O)(h:HW):Rs:=
 q96_63 C lf (fun x0 x1 x2 x3 h=>q96_59 C lf r x0 x1 x2 x3 h) r x0 x1 x2 x3 x9 h
theorem q96_64_eq(C:YC)(lf:Nat)(r:K1)(KN:KF)(KE:KX): ∀ F h,evX fx96 C lf [1,1] F h KN (fun F h=>r (F 8) h) KE=q96_64 C lf r (F 0) (F 1) (F 2) (F 3) (F 9) h:=cSeq (a:=subX fx96 [1,1,0]) (b:=subX fx96 [1,1,1]) (by kernel_rfl) (B:=(fun F h=>q96_59 C lf r (F 0) (F 1) (F 2) (F 3) h)) (q96_59_eq C lf r KN KE) (q96_63_eq C lf (fun x0 x1 x2 x3 h=>q96_59 C lf r x0 x1 x2 x3 h) r KE)
noncomputable def q96_69(C:YC)(lf:Nat)(n:K5)(x0 x1 x2 x3:O)(h:HW):Rs:=
 ob x0 fun a65=>
 ob x1 fun a66=>
 ob x2 fun a67=>
 bc (C (.fn 157) [a65,a66,a67] h) fun y68 h68=>
 n x0 x1 x2 x3 (some y68) h68
theorem q96_69_eq(C:YC)(lf:Nat)(n:K5)(KR:KF)(KE:KX): ∀ F h,evX fx96 C lf [1,0] F h (fun F h=>n (F 0) (F 1) (F 2) (F 3) (F 9) h) KR KE=q96_69 C lf n (F 0) (F 1) (F 2) (F 3) h:=by
 intro F h;kernel_rfl
noncomputable def q96_70(C:YC)(lf:Nat)(r:K1)(x0 x1 x2 x3:O)(h:HW):Rs:=
 q96_69 C lf (fun x0 x1 x2 x3 x9 h=>q96_64 C lf r x0 x1 x2 x3 x9 h) x0 x1 x2 x3 h
theorem q96_70_eq(C:YC)(lf:Nat)(r:K1)(KN:KF)(KE:KX): ∀ F h,evX fx96 C lf [1] F h KN (fun F h=>r (F 8) h) KE=q96_70 C lf r (F 0) (F 1) (F 2) (F 3) h:=cSeq (a:=subX fx96 [1,0]) (b:=subX fx96 [1,1]) (by kernel_rfl) (B:=(fun F h=>q96_64 C lf r (F 0) (F 1) (F 2) (F 3) (F 9) h)) (q96_64_eq C lf r KN KE) (q96_69_eq C lf (fun x0 x1 x2 x3 x9 h=>q96_64 C lf r x0 x1 x2 x3 x9 h) (fun F h=>r (F 8) h) KE)
noncomputable def q96_71(C:YC)(lf:Nat)(n:K4)(x0 x1 x2 x3:O)(h:HW):Rs:=
 n x0 x1 x2 x3 h
theorem q96_71_eq(C:YC)(lf:Nat)(n:K4)(KR:KF)(KE:KX): ∀ F h,evX fx96 C lf [0] F h (fun F h=>n (F 0) (F 1) (F 2) (F 3) h) KR KE=q96_71 C lf n (F 0) (F 1) (F 2) (F 3) h:=by
 intro F h;kernel_rfl
noncomputable def q96_72(C:YC)(lf:Nat)(r:K1)(x0 x1 x2 x3:O)(h:HW):Rs:=
 q96_71 C lf (fun x0 x1 x2 x3 h=>q96_70 C lf r x0 x1 x2 x3 h) x0 x1 x2 x3 h
theorem q96_72_eq(C:YC)(lf:Nat)(r:K1)(KN:KF)(KE:KX): ∀ F h,evX fx96 C lf [] F h KN (fun F h=>r (F 8) h) KE=q96_72 C lf r (F 0) (F 1) (F 2) (F 3) h:=cSeq (a:=subX fx96 [0]) (b:=subX fx96 [1]) (by kernel_rfl) (B:=(fun F h=>q96_70 C lf r (F 0) (F 1) (F 2) (F 3) h)) (q96_70_eq C lf r KN KE) (q96_71_eq C lf (fun x0 x1 x2 x3 h=>q96_70 C lf r x0 x1 x2 x3 h) (fun F h=>r (F 8) h) KE)
noncomputable def fs96(C:YC)(lf:Nat)(a0 a1 a2 a3:SV)(h:HW):Rs:=q96_72 C lf ff96 (some a0) (some a1) (some a2) (some a3) h
theorem fs96_eq(C:YC)(lf:Nat)(a0 a1 a2 a3:SV)(h:HW):yFn Tryz.prog fx96 C lf [a0,a1,a2,a3] h=fs96 C lf a0 a1 a2 a3 h:=fnX (K:=(fun F h=>ff96 (F 8) h)) (by kernel_rfl) (((q96_72_eq C lf ff96 (fun F h=>ff96 (F 8) h) (fun _ _ _=>none)) _ h).trans (by kernel_rfl))
noncomputable def fy96:YX Tryz.prog:=Y4 fx96 fs96 fs96_eq (by kernel_rfl)
noncomputable def fx97:XF Tryz.prog:=⟨97,Tryz.f97,fun _=> .text,Tryz.func97,by kernel_rfl,by kernel_rfl,by kernel_rfl,by kernel_rfl⟩
noncomputable def ff97(h:HW):Rs:=
 some (.ret (.tup []),h)
noncomputable def q97_5(C:YC)(lf:Nat)(n:K0)(x0 x1:O)(h:HW):Rs:=
 ob x0 fun a0=>
 ob (ld1 a0 h) fun y1=>
 ob (bin Tryz.prog .neq 25 y1 (.int .i64 0)) fun y2=>
 yIf y2
 (ob x1 fun a3=>
 ob (st 1 a3 (.int .i64 0) h) fun h4=>
 n h4)
 (n h)
theorem q97_5_eq(C:YC)(lf:Nat)(n:K0)(KR:KF)(KE:KX): ∀ F h,evX fx97 C lf [] F h (fun F h=>n h) KR KE=q97_5 C lf n (F 0) (F 1) h:=by
 intro F h;kernel_rfl
noncomputable def fs97(C:YC)(lf:Nat)(a0 a1:SV)(h:HW):Rs:=q97_5 C lf ff97 (some a0) (some a1) h
theorem fs97_eq(C:YC)(lf:Nat)(a0 a1:SV)(h:HW):yFn Tryz.prog fx97 C lf [a0,a1] h=fs97 C lf a0 a1 h:=fnX (K:=(fun F h=>ff97 h)) (by kernel_rfl) (((q97_5_eq C lf ff97 (fun F h=>ff97 h) (fun _ _ _=>none)) _ h).trans (by kernel_rfl))
noncomputable def fy97:YX Tryz.prog:=Y2 fx97 fs97 fs97_eq (by kernel_rfl)
noncomputable def fx98:XF Tryz.prog:=⟨98,Tryz.f98,fun _=> .text,Tryz.func98,by kernel_rfl,by kernel_rfl,by kernel_rfl,by kernel_rfl⟩
noncomputable def ff98(x2:O)(h:HW):Rs:=
 ob x2 fun a0=>
 some (.ret a0,h)
noncomputable def q98_34(C:YC)(lf:Nat)(r:K1)(x0:O)(h:HW):Rs:=
 ob x0 fun a1=>
 b2 (ybx 3 a1 h) fun y2 h2=>
 ob (ld1 y2 h2) fun y3=>
 ob (bin Tryz.prog .andNot 3 y3 (.int .i64 255)) fun y4=>
 ob (bin Tryz.prog .eql 3 y4 (.int .i64 0)) fun y5=>
 bc (gd true (some y5) (some (.ret (.fn (.func 161) [] [y2]),h2)) h2) fun y6 h6=>
 bc (gd true (some y5) (cv false C y6 [(.int .i64 3)] h6 fun y7 h7=>
 some (.ret y7,h7)) h6) fun y8 h8=>
 ob (ypk y5 y8 (.bool false)) fun y9=>
 bc (gd true (some y9) (some (.ret (.fn (.func 161) [] [y2]),h8)) h8) fun y10 h10=>
 bc (gd true (some y9) (cv false C y10 [(.int .i64 2)] h10 fun y11 h11=>
 some (.ret y11,h11)) h10) fun y12 h12=>
 bc (gd true (some y9) (some (.ret y12,h12)) h12) fun y13 h13=>
 bc (gd false (some y13) (some (.ret (.fn (.func 161) [] [y2]),h13)) h13) fun y14 h14=>
 bc (gd false (some y13) (cv false C y14 [(.int .i64 36)] h14 fun y15 h15=>
 some (.ret y15,h15)) h14) fun y16 h16=>
 bc (gd false (some y13) (ob (unE .not y16) fun y17=>
 some (.ret y17,h16)) h16) fun y18 h18=>
 bc (gd true (some y9) (ob (ypk y13 (.bool true) y18) fun y19=>
 some (.ret y19,h18)) h18) fun y20 h20=>
 ob (ypk y9 y20 (.bool false)) fun y21=>
 bc (gd true (some y21) (some (.ret (.fn (.func 161) [] [y2]),h20)) h20) fun y22 h22=>
 bc (gd true (some y21) (cv false C y22 [(.int .i64 64)] h22 fun y23 h23=>
 some (.ret y23,h23)) h22) fun y24 h24=>
 bc (gd true (some y21) (some (.ret y24,h24)) h24) fun y25 h25=>
 bc (gd true (some y25) (some (.ret (.fn (.func 161) [] [y2]),h25)) h25) fun y26 h26=>
 bc (gd true (some y25) (cv false C y26 [(.int .i64 8)] h26 fun y27 h27=>
 some (.ret y27,h27)) h26) fun y28 h28=>
 bc (gd true (some y21) (ob (ypk y25 y28 (.bool false)) fun y29=>
 some (.ret y29,h28)) h28) fun y30 h30=>
 bc (gd true (some y21) (ob (unE .not y30) fun y31=>
 some (.ret y31,h30)) h30) fun y32 h32=>
 ob (ypk y21 y32 (.bool false)) fun y33=>
 r (some y33) h32
theorem q98_34_eq(C:YC)(lf:Nat)(r:K1)(KN:KF)(KE:KX): ∀ F h,evX fx98 C lf [] F h KN (fun F h=>r (F 2) h) KE=q98_34 C lf r (F 0) h:=by
 intro F h;kernel_rfl
noncomputable def fs98(C:YC)(lf:Nat)(a0:SV)(h:HW):Rs:=q98_34 C lf ff98 (some a0) h
theorem fs98_eq(C:YC)(lf:Nat)(a0:SV)(h:HW):yFn Tryz.prog fx98 C lf [a0] h=fs98 C lf a0 h:=fnX (K:=(fun F h=>ff98 (F 2) h)) (by kernel_rfl) (((q98_34_eq C lf ff98 (fun F h=>ff98 (F 2) h) (fun _ _ _=>none)) _ h).trans (by kernel_rfl))
noncomputable def fy98:YX Tryz.prog:=Y1 fx98 fs98 fs98_eq (by kernel_rfl)
noncomputable def fx99:XF Tryz.prog:=⟨99,Tryz.f99,fun _=> .text,Tryz.func99,by kernel_rfl,by kernel_rfl,by kernel_rfl,by kernel_rfl⟩
noncomputable def ff99(x3:O)(h:HW):Rs:=
 ob x3 fun a0=>
 some (.ret a0,h)
noncomputable def q99_6(C:YC)(lf:Nat)(r:K1)(x0 x1:O)(h:HW):Rs:=
 ob x1 fun a1=>
 ob (ld1 a1 h) fun y2=>
 ob x0 fun a3=>
 ob (bin Tryz.prog .and 3 y2 a3) fun y4=>
 ob (bin Tryz.prog .neq 3 y4 (.int .i64 0)) fun y5=>
 r (some y5) h
theorem q99_6_eq(C:YC)(lf:Nat)(r:K1)(KN:KF)(KE:KX): ∀ F h,evX fx99 C lf [] F h KN (fun F h=>r (F 3) h) KE=q99_6 C lf r (F 0) (F 1) h:=by
 intro F h;kernel_rfl
noncomputable def fs99(C:YC)(lf:Nat)(a0 a1:SV)(h:HW):Rs:=q99_6 C lf ff99 (some a0) (some a1) h
theorem fs99_eq(C:YC)(lf:Nat)(a0 a1:SV)(h:HW):yFn Tryz.prog fx99 C lf [a0,a1] h=fs99 C lf a0 a1 h:=fnX (K:=(fun F h=>ff99 (F 3) h)) (by kernel_rfl) (((q99_6_eq C lf ff99 (fun F h=>ff99 (F 3) h) (fun _ _ _=>none)) _ h).trans (by kernel_rfl))
noncomputable def fy99:YX Tryz.prog:=Y2 fx99 fs99 fs99_eq (by kernel_rfl)
noncomputable def fx100:XF Tryz.prog:=⟨100,Tryz.f100,fun _=> .text,Tryz.func100,by kernel_rfl,by kernel_rfl,by kernel_rfl,by kernel_rfl⟩
noncomputable def ff100(x2:O)(h:HW):Rs:=
 ob x2 fun a0=>
 some (.ret a0,h)
noncomputable def q100_2(C:YC)(lf:Nat)(r:K1)(x0:O)(h:HW):Rs:=
 ob x0 fun a1=>
 yIf a1
 (r (some (.int .i64 1)) h)
 (r (some (.int .i64 0)) h)
theorem q100_2_eq(C:YC)(lf:Nat)(r:K1)(KN:KF)(KE:KX): ∀ F h,evX fx100 C lf [] F h KN (fun F h=>r (F 2) h) KE=q100_2 C lf r (F 0) h:=by
 intro F h;kernel_rfl
noncomputable def fs100(C:YC)(lf:Nat)(a0:SV)(h:HW):Rs:=q100_2 C lf ff100 (some a0) h
theorem fs100_eq(C:YC)(lf:Nat)(a0:SV)(h:HW):yFn Tryz.prog fx100 C lf [a0] h=fs100 C lf a0 h:=fnX (K:=(fun F h=>ff100 (F 2) h)) (by kernel_rfl) (((q100_2_eq C lf ff100 (fun F h=>ff100 (F 2) h) (fun _ _ _=>none)) _ h).trans (by kernel_rfl))
noncomputable def fy100:YX Tryz.prog:=Y1 fx100 fs100 fs100_eq (by kernel_rfl)
noncomputable def fx101:XF Tryz.prog:=⟨101,Tryz.f101,fun r=>bif Nat.beq r 3 then .ord [0,2,4,7,1,3,5,6,8,9,10,11] [(8,[5,3,1])] else .text,Tryz.func101,by kernel_rfl,by kernel_rfl,by kernel_rfl,by kernel_rfl⟩
noncomputable def ff101(x8:O)(h:HW):Rs:=
 ob x8 fun a0=>
 some (.ret a0,h)
noncomputable def q101_28(C:YC)(lf:Nat)(r:K1)(x0 x1 x2 x3:O)(h:HW):Rs:=
 ob x1 fun a1=>
 b2 (ybx 48 a1 h) fun y2 h2=>
 ob x2 fun a3=>
 b2 (ybx 166 a3 h2) fun y4 h4=>
 ob (fa 2 y4) fun y5=>
 ob (ld1 y5 h4) fun y6=>
 bc (C (.fn 84) [y6,(.int .i64 21)] h4) fun y7 h7=>
 ob x0 fun a8=>
 ob (ldN 5 y2 h7) fun y9=>
 ob (ldN 5 y4 h7) fun y10=>
 bc (C (.fn 83) [a8,y9,y10,(.bool false)] h7) fun y11 h11=>
 ob x0 fun a12=>
 ob (fa 0 y4) fun y13=>
 ob (fa 1 y4) fun y14=>
 ob x3 fun a15=>
 ob (ldN 5 y2 h11) fun y16=>
 ob (ld1 y13 h11) fun y17=>
 ob (ld1 y14 h11) fun y18=>
 ob (ldN 5 y2 h11) fun y19=>
 bcn (C (.fn 87) [y19,a15] h11) fun y20 h20=>
 ck (chkH [(6,adrO (some y2)),(5,adrO (some y14)),(3,adrO (some y13)),(1,adrO (some y2))] h11 h20 [5,3,1]) <|
 ob (bin Tryz.prog .or 34 (.int .i64 32768) y20) fun y21=>
 bcn (C (.fn 86) [a12,y16,y17,y18,y21,(.fn (.func 162) [] [])] h20) fun y22 h22=>
 ob x0 fun a23=>
 ob (semNil a23) fun y24=>
 ob (fa 0 y24) fun y25=>
 ob (ld1 y25 h22) fun y26=>
 bc (C (.fn 32) [y26,y22,(.int .i64 1)] h22) fun y27 h27=>
 r (some y22) h27
theorem q101_28_eq(C:YC)(lf:Nat)(r:K1)(KN:KF)(KE:KX): ∀ F h,evX fx101 C lf [] F h KN (fun F h=>r (F 8) h) KE=q101_28 C lf r (F 0) (F 1) (F 2) (F 3) h:=by
 intro F h;kernel_rfl
noncomputable def fs101(C:YC)(lf:Nat)(a0 a1 a2 a3:SV)(h:HW):Rs:=q101_28 C lf ff101 (some a0) (some a1) (some a2) (some a3) h
theorem fs101_eq(C:YC)(lf:Nat)(a0 a1 a2 a3:SV)(h:HW):yFn Tryz.prog fx101 C lf [a0,a1,a2,a3] h=fs101 C lf a0 a1 a2 a3 h:=fnX (K:=(fun F h=>ff101 (F 8) h)) (by kernel_rfl) (((q101_28_eq C lf ff101 (fun F h=>ff101 (F 8) h) (fun _ _ _=>none)) _ h).trans (by kernel_rfl))
noncomputable def fy101:YX Tryz.prog:=Y4 fx101 fs101 fs101_eq (by kernel_rfl)
noncomputable def fx102:XF Tryz.prog:=⟨102,Tryz.f102,fun _=> .text,Tryz.func102,by kernel_rfl,by kernel_rfl,by kernel_rfl,by kernel_rfl⟩
noncomputable def ff102(x4:O)(h:HW):Rs:=
 ob x4 fun a0=>
 some (.ret a0,h)
noncomputable def q102_6(C:YC)(lf:Nat)(r:K1)(x0 x1:O)(h:HW):Rs:=
 ob x0 fun a1=>
 ob x1 fun a2=>
 bc (C (.fn 85) [a1,a2] h) fun y3 h3=>
 ob (fd1 6 y3) fun y4=>
 ob (bin Tryz.prog .and 34 y4 (.int .i64 61440)) fun y5=>
 r (some y5) h3
theorem q102_6_eq(C:YC)(lf:Nat)(r:K1)(KN:KF)(KE:KX): ∀ F h,evX fx102 C lf [] F h KN (fun F h=>r (F 4) h) KE=q102_6 C lf r (F 0) (F 1) h:=by
 intro F h;kernel_rfl
noncomputable def fs102(C:YC)(lf:Nat)(a0 a1:SV)(h:HW):Rs:=q102_6 C lf ff102 (some a0) (some a1) h
theorem fs102_eq(C:YC)(lf:Nat)(a0 a1:SV)(h:HW):yFn Tryz.prog fx102 C lf [a0,a1] h=fs102 C lf a0 a1 h:=fnX (K:=(fun F h=>ff102 (F 4) h)) (by kernel_rfl) (((q102_6_eq C lf ff102 (fun F h=>ff102 (F 4) h) (fun _ _ _=>none)) _ h).trans (by kernel_rfl))
noncomputable def fy102:YX Tryz.prog:=Y2 fx102 fs102 fs102_eq (by kernel_rfl)
noncomputable def fx103:XF Tryz.prog:=⟨103,Tryz.f103,fun _=> .text,Tryz.func103,by kernel_rfl,by kernel_rfl,by kernel_rfl,by kernel_rfl⟩
noncomputable def ff103(x8:O)(h:HW):Rs:=
 ob x8 fun a0=>
 some (.ret a0,h)
noncomputable def q103_17(C:YC)(lf:Nat)(r:K1)(x0 x1 x2 x3:O)(h:HW):Rs:=
 ob x1 fun a1=>
 b2 (ybx 48 a1 h) fun y2 h2=>
 ob x0 fun a3=>
 ob x2 fun a4=>
 bc (C (.fn 85) [a3,a4] h2) fun y5 h5=>
 b2 (yAl Tryz.prog 63 h5) fun y6 h6=>
 ob (st 10 y6 y5 h6) fun h7=>
 ob (fa 6 y6) fun y8=>
 ob (ld1 y8 h7) fun y9=>
 ob (fa 2 y6) fun y10=>
 ob (ld1 y10 h7) fun y11=>
 ob (fa 3 y6) fun y12=>
 ob (ld1 y12 h7) fun y13=>
 ob (ldN 5 y2 h7) fun y14=>
 ob x3 fun a15=>
 bc (C (.fn 163) [y9,y11,y13,y14,a15] h7) fun y16 h16=>
 r (some y16) h16
theorem q103_17_eq(C:YC)(lf:Nat)(r:K1)(KN:KF)(KE:KX): ∀ F h,evX fx103 C lf [] F h KN (fun F h=>r (F 8) h) KE=q103_17 C lf r (F 0) (F 1) (F 2) (F 3) h:=by
 intro F h;kernel_rfl
noncomputable def fs103(C:YC)(lf:Nat)(a0 a1 a2 a3:SV)(h:HW):Rs:=q103_17 C lf ff103 (some a0) (some a1) (some a2) (some a3) h
theorem fs103_eq(C:YC)(lf:Nat)(a0 a1 a2 a3:SV)(h:HW):yFn Tryz.prog fx103 C lf [a0,a1,a2,a3] h=fs103 C lf a0 a1 a2 a3 h:=fnX (K:=(fun F h=>ff103 (F 8) h)) (by kernel_rfl) (((q103_17_eq C lf ff103 (fun F h=>ff103 (F 8) h) (fun _ _ _=>none)) _ h).trans (by kernel_rfl))
noncomputable def fy103:YX Tryz.prog:=Y4 fx103 fs103 fs103_eq (by kernel_rfl)
noncomputable def fx105:XF Tryz.prog:=⟨105,Tryz.f105,fun _=> .text,Tryz.func105,by kernel_rfl,by kernel_rfl,by kernel_rfl,by kernel_rfl⟩
noncomputable def ff105(x2:O)(h:HW):Rs:=
 ob x2 fun a0=>
 some (.ret a0,h)
noncomputable def q105_50(C:YC)(lf:Nat)(r:K1)(x0:O)(h:HW):Rs:=
 ob x0 fun a1=>
 ob (bin Tryz.prog .lss 3 a1 (.int .i64 0)) fun y2=>
 bc (gd false (some y2) (ob x0 fun a3=>
 some (.ret a3,h)) h) fun y4 h4=>
 bc (gd false (some y2) (ob (bin Tryz.prog .gtr 3 y4 (.int .i64 255)) fun y5=>
 some (.ret y5,h4)) h4) fun y6 h6=>
 ob (ypk y2 (.bool true) y6) fun y7=>
 bc (gd false (some y7) (ob x0 fun a8=>
 some (.ret a8,h6)) h6) fun y9 h9=>
 bc (gd false (some y7) (ob (bin Tryz.prog .and 3 y9 (.int .i64 3)) fun y10=>
 some (.ret y10,h9)) h9) fun y11 h11=>
 bc (gd false (some y7) (ob (bin Tryz.prog .eql 3 y11 (.int .i64 0)) fun y12=>
 some (.ret y12,h11)) h11) fun y13 h13=>
 ob (ypk y7 (.bool true) y13) fun y14=>
 yIf y14
 (r (some (.bool false)) h13)
 (ob x0 fun a15=>
 ob (bin Tryz.prog .and 3 a15 (.int .i64 2)) fun y16=>
 ob (bin Tryz.prog .neq 3 y16 (.int .i64 0)) fun y17=>
 ob x0 fun a18=>
 ob (bin Tryz.prog .and 3 a18 (.int .i64 4)) fun y19=>
 ob (bin Tryz.prog .neq 3 y19 (.int .i64 0)) fun y20=>
 ob x0 fun a21=>
 ob (bin Tryz.prog .and 3 a21 (.int .i64 32)) fun y22=>
 ob (bin Tryz.prog .neq 3 y22 (.int .i64 0)) fun y23=>
 bc (gd false (some y17) (some (.ret y20,h13)) h13) fun y24 h24=>
 bc (gd false (some y17) (ob (unE .not y24) fun y25=>
 some (.ret y25,h24)) h24) fun y26 h26=>
 bc (gd false (some y17) (some (.ret y26,h26)) h26) fun y27 h27=>
 bc (gd true (some y27) (some (.ret y23,h27)) h27) fun y28 h28=>
 bc (gd true (some y27) (ob (unE .not y28) fun y29=>
 some (.ret y29,h28)) h28) fun y30 h30=>
 bc (gd false (some y17) (ob (ypk y27 y30 (.bool false)) fun y31=>
 some (.ret y31,h30)) h30) fun y32 h32=>
 ob (ypk y17 (.bool true) y32) fun y33=>
 bc (gd true (some y33) (ob x0 fun a34=>
 some (.ret a34,h32)) h32) fun y35 h35=>
 bc (gd true (some y33) (ob (bin Tryz.prog .and 3 y35 (.int .i64 64)) fun y36=>
 some (.ret y36,h35)) h35) fun y37 h37=>
 bc (gd true (some y33) (ob (bin Tryz.prog .eql 3 y37 (.int .i64 0)) fun y38=>
 some (.ret y38,h37)) h37) fun y39 h39=>
 bc (gd true (some y33) (some (.ret y39,h39)) h39) fun y40 h40=>
 bc (gd false (some y40) (ob x0 fun a41=>
 some (.ret a41,h40)) h40) fun y42 h42=>
 bc (gd false (some y40) (ob (bin Tryz.prog .and 3 y42 (.int .i64 8)) fun y43=>
 some (.ret y43,h42)) h42) fun y44 h44=>
 bc (gd false (some y40) (ob (bin Tryz.prog .eql 3 y44 (.int .i64 0)) fun y45=>
 some (.ret y45,h44)) h44) fun y46 h46=>
 bc (gd true (some y33) (ob (ypk y40 (.bool true) y46) fun y47=>
 some (.ret y47,h46)) h46) fun y48 h48=>
 ob (ypk y33 y48 (.bool false)) fun y49=>
 r (some y49) h48)
theorem q105_50_eq(C:YC)(lf:Nat)(r:K1)(KN:KF)(KE:KX): ∀ F h,evX fx105 C lf [] F h KN (fun F h=>r (F 2) h) KE=q105_50 C lf r (F 0) h:=by
 intro F h;kernel_rfl
noncomputable def fs105(C:YC)(lf:Nat)(a0:SV)(h:HW):Rs:=q105_50 C lf ff105 (some a0) h
theorem fs105_eq(C:YC)(lf:Nat)(a0:SV)(h:HW):yFn Tryz.prog fx105 C lf [a0] h=fs105 C lf a0 h:=fnX (K:=(fun F h=>ff105 (F 2) h)) (by kernel_rfl) (((q105_50_eq C lf ff105 (fun F h=>ff105 (F 2) h) (fun _ _ _=>none)) _ h).trans (by kernel_rfl))
noncomputable def fy105:YX Tryz.prog:=Y1 fx105 fs105 fs105_eq (by kernel_rfl)
noncomputable def fx106:XF Tryz.prog:=⟨106,Tryz.f106,fun r=>bif Nat.beq r 7 then .ord [0,1,2,6,7,8,3,9,10,11,12,4,5,13,14,15,16,17,18,19,20] [(4,[12,9])] else bif Nat.beq r 9 then .ord [0,1,2,4,5,6,10,12,14,3,7,8,9,11,13,15,16,17,18,19,20,21,22] [(16,[11,7,3])] else .text,Tryz.func106,by kernel_rfl,by kernel_rfl,by kernel_rfl,by kernel_rfl⟩
noncomputable def ff106(x8 x9:O)(h:HW):Rs:=
 ob x8 fun a0=>
 ob x9 fun a1=>
 some (.ret (.tup [a0,a1]),h)
noncomputable def q106_82(C:YC)(lf:Nat)(r:K2)(x0 x1 x2 x3:O)(h:HW):Rs:=
 ob x1 fun a2=>
 b2 (ybx 48 a2 h) fun y3 h3=>
 ob x2 fun a4=>
 b2 (ybx 176 a4 h3) fun y5 h5=>
 ob (fa 3 y5) fun y6=>
 ob (ld1 y6 h5) fun y7=>
 yIf y7
 (r (some (.int .i64 0)) (some (.int .i64 21)) h5)
 (ob x0 fun a8=>
 ob (fa 0 y5) fun y9=>
 ob (ld1 y9 h5) fun y10=>
 bc (C (.fn 91) [a8,y10] h5) fun y11 h11=>
 yIf y11
 (r (some (.int .i64 0)) (some (.int .i64 2)) h11)
 (ob x0 fun a12=>
 ob (ldN 5 y3 h11) fun y13=>
 ob (fa 0 y5) fun y14=>
 ob (ld1 y14 h11) fun y15=>
 bc (C (.fn 92) [a12,y13,y15,(.int .i64 2)] h11) fun y16 h16=>
 ob (unE .not y16) fun y17=>
 yIf y17
 (r (some (.int .i64 0)) (some (.int .i64 13)) h16)
 (ob x0 fun a18=>
 ob (semNil a18) fun y19=>
 ob (fa 0 y19) fun y20=>
 ob x0 fun a21=>
 ob (semNil a21) fun y22=>
 ob (fa 0 y22) fun y23=>
 ob (ld1 y20 h16) fun y24=>
 ob (ld1 y23 h16) fun y25=>
 ob (semNil y25) fun y26=>
 ob (fa 2 y26) fun y27=>
 ob (ld1 y27 h16) fun y28=>
 bcn (C (.fn 93) [y24] h16) fun y29 h29=>
 ck (chkH [(12,adrO (some y27)),(9,adrO (some y23)),(3,adrO (some y20))] h16 h29 [12,9]) <|
 ob (lenE Tryz.prog 46 y29) fun y30=>
 ob (bin Tryz.prog .eql 3 y30 y28) fun y31=>
 bcn (gd false (some y31) (ob x0 fun a32=>
 some (.ret a32,h29)) h29) fun y33 h33=>
 bcn (gd false (some y31) (ob (fa 0 y5) fun y34=>
 some (.ret y34,h33)) h33) fun y35 h35=>
 bcn (gd false (some y31) (ob (ld1 y35 h35) fun y36=>
 some (.ret y36,h35)) h35) fun y37 h37=>
 bcn (gd false (some y31) (bcn (C (.fn 94) [y33,y37,(.int .i64 0)] h37) fun y38 h38=>
 some (.ret y38,h38)) h37) fun y39 h39=>
 bcn (gd false (some y31) (ob (unE .not y39) fun y40=>
 some (.ret y40,h39)) h39) fun y41 h41=>
 ob (ypk y31 (.bool true) y41) fun y42=>
 yIf y42
 (r (some (.int .i64 0)) (some (.int .i64 28)) h41)
 (ob x0 fun a43=>
 ob (semNil a43) fun y44=>
 ob (fa 0 y44) fun y45=>
 ob x3 fun a46=>
 ob (bin Tryz.prog .and 34 a46 (.int .i64 4095)) fun y47=>
 ob (fa 3 y3) fun y48=>
 ob (fa 0 y3) fun y49=>
 ob x0 fun a50=>
 ob (fa 0 y5) fun y51=>
 ob (ld1 y45 h41) fun y52=>
 ob (ld1 y48 h41) fun y53=>
 ob (bin Tryz.prog .andNot 34 y47 y53) fun y54=>
 ob (bin Tryz.prog .or 34 (.int .i64 32768) y54) fun y55=>
 ob (ld1 y49 h41) fun y56=>
 ob (ldN 5 y3 h41) fun y57=>
 ob (ld1 y51 h41) fun y58=>
 bcn (C (.fn 95) [a50,y57,y58] h41) fun y59 h59=>
 ck (chkH [(15,adrO (some y51)),(13,adrO (some y3)),(11,adrO (some y49)),(7,adrO (some y48)),(3,adrO (some y45))] h41 h59 [11,7,3]) <|
 bcn (C (.fn 34) [y52,y55,y56,y59] h59) fun y60 h60=>
 ob (ext 0 y60) fun y61=>
 ob (ext 1 y60) fun y62=>
 ob x0 fun a63=>
 ob (semNil a63) fun y64=>
 ob (fa 0 y64) fun y65=>
 ob (ld1 y65 h60) fun y66=>
 ob (fa 0 y5) fun y67=>
 ob (ld1 y67 h60) fun y68=>
 ob (fa 2 y5) fun y69=>
 ob (ld1 y69 h60) fun y70=>
 bcn (C (.fn 96) [y66,y68,y70,y61] h60) fun y71 h71=>
 ob x0 fun a72=>
 ob (semNil a72) fun y73=>
 ob (fa 0 y73) fun y74=>
 ob (ld1 y74 h71) fun y75=>
 bc (C (.fn 36) [y75,y61,(.int .i64 1)] h71) fun y76 h76=>
 ob x0 fun a77=>
 ob (semNil a77) fun y78=>
 ob (fa 0 y78) fun y79=>
 ob (ld1 y79 h76) fun y80=>
 bc (C (.fn 109) [y80,y61] h76) fun y81 h81=>
 r (some y61) (some (.int .i64 0)) h81))))
theorem q106_82_eq(C:YC)(lf:Nat)(r:K2)(KN:KF)(KE:KX): ∀ F h,evX fx106 C lf [] F h KN (fun F h=>r (F 8) (F 9) h) KE=q106_82 C lf r (F 0) (F 1) (F 2) (F 3) h:=by
 intro F h;kernel_rfl
noncomputable def fs106(C:YC)(lf:Nat)(a0 a1 a2 a3:SV)(h:HW):Rs:=q106_82 C lf ff106 (some a0) (some a1) (some a2) (some a3) h
theorem fs106_eq(C:YC)(lf:Nat)(a0 a1 a2 a3:SV)(h:HW):yFn Tryz.prog fx106 C lf [a0,a1,a2,a3] h=fs106 C lf a0 a1 a2 a3 h:=fnX (K:=(fun F h=>ff106 (F 8) (F 9) h)) (by kernel_rfl) (((q106_82_eq C lf ff106 (fun F h=>ff106 (F 8) (F 9) h) (fun _ _ _=>none)) _ h).trans (by kernel_rfl))
noncomputable def fy106:YX Tryz.prog:=Y4 fx106 fs106 fs106_eq (by kernel_rfl)
noncomputable def fx107:XF Tryz.prog:=⟨107,Tryz.f107,fun _=> .text,Tryz.func107,by kernel_rfl,by kernel_rfl,by kernel_rfl,by kernel_rfl⟩
noncomputable def ff107(x4:O)(h:HW):Rs:=
 ob x4 fun a0=>
 some (.ret a0,h)
noncomputable def q107_14(C:YC)(lf:Nat)(r:K1)(x0 x1:O)(h:HW):Rs:=
 ob x0 fun a1=>
 ob (semNil a1) fun y2=>
 ob (fa 0 y2) fun y3=>
 ob (ld1 y3 h) fun y4=>
 ob (semNil y4) fun y5=>
 ob (fa 4 y5) fun y6=>
 ob (ld1 y6 h) fun y7=>
 ob x1 fun a8=>
 ob (ixS 308 y7 a8) fun y9=>
 ob (fa 1 y9) fun y10=>
 ob (fa 6 y10) fun y11=>
 ob (ld1 y11 h) fun y12=>
 ob (bin Tryz.prog .and 34 y12 (.int .i64 61440)) fun y13=>
 r (some y13) h
theorem q107_14_eq(C:YC)(lf:Nat)(r:K1)(KN:KF)(KE:KX): ∀ F h,evX fx107 C lf [] F h KN (fun F h=>r (F 4) h) KE=q107_14 C lf r (F 0) (F 1) h:=by
 intro F h;kernel_rfl
noncomputable def fs107(C:YC)(lf:Nat)(a0 a1:SV)(h:HW):Rs:=q107_14 C lf ff107 (some a0) (some a1) h
theorem fs107_eq(C:YC)(lf:Nat)(a0 a1:SV)(h:HW):yFn Tryz.prog fx107 C lf [a0,a1] h=fs107 C lf a0 a1 h:=fnX (K:=(fun F h=>ff107 (F 4) h)) (by kernel_rfl) (((q107_14_eq C lf ff107 (fun F h=>ff107 (F 4) h) (fun _ _ _=>none)) _ h).trans (by kernel_rfl))
noncomputable def fy107:YX Tryz.prog:=Y2 fx107 fs107 fs107_eq (by kernel_rfl)
noncomputable def fx109:XF Tryz.prog:=⟨109,Tryz.f109,fun _=> .text,Tryz.func109,by kernel_rfl,by kernel_rfl,by kernel_rfl,by kernel_rfl⟩
noncomputable def ff109(x4:O)(h:HW):Rs:=
 ob x4 fun a0=>
 some (.ret a0,h)
noncomputable def q109_17(C:YC)(lf:Nat)(r:K1)(x0 x1:O)(h:HW):Rs:=
 ob x0 fun a1=>
 ob x1 fun a2=>
 bc (C (.fn 75) [a1,a2] h) fun y3 h3=>
 ob (unE .not y3) fun y4=>
 yIf y4
 (r (some (.int .i64 2)) h3)
 (ob x0 fun a5=>
 ob (semNil a5) fun y6=>
 ob (fa 4 y6) fun y7=>
 ob (ld1 y7 h3) fun y8=>
 ob x1 fun a9=>
 ob (ixS 308 y8 a9) fun y10=>
 ob (fa 11 y10) fun y11=>
 ob (ld1 y11 h3) fun y12=>
 ob (bin Tryz.prog .add 3 y12 (.int .i64 1)) fun y13=>
 ob (ixS 308 y8 a9) fun y14=>
 ob (fa 11 y14) fun y15=>
 ob (st 1 y15 y13 h3) fun h16=>
 r (some (.int .i64 0)) h16)
theorem q109_17_eq(C:YC)(lf:Nat)(r:K1)(KN:KF)(KE:KX): ∀ F h,evX fx109 C lf [] F h KN (fun F h=>r (F 4) h) KE=q109_17 C lf r (F 0) (F 1) h:=by
 intro F h;kernel_rfl
noncomputable def fs109(C:YC)(lf:Nat)(a0 a1:SV)(h:HW):Rs:=q109_17 C lf ff109 (some a0) (some a1) h
theorem fs109_eq(C:YC)(lf:Nat)(a0 a1:SV)(h:HW):yFn Tryz.prog fx109 C lf [a0,a1] h=fs109 C lf a0 a1 h:=fnX (K:=(fun F h=>ff109 (F 4) h)) (by kernel_rfl) (((q109_17_eq C lf ff109 (fun F h=>ff109 (F 4) h) (fun _ _ _=>none)) _ h).trans (by kernel_rfl))
noncomputable def fy109:YX Tryz.prog:=Y2 fx109 fs109 fs109_eq (by kernel_rfl)
noncomputable def fx110:XF Tryz.prog:=⟨110,Tryz.f110,fun _=> .text,Tryz.func110,by kernel_rfl,by kernel_rfl,by kernel_rfl,by kernel_rfl⟩
noncomputable def ff110(x4:O)(h:HW):Rs:=
 ob x4 fun a0=>
 some (.ret a0,h)
noncomputable def q110_17(C:YC)(lf:Nat)(r:K1)(x0 x1:O)(h:HW):Rs:=
 ob x0 fun a1=>
 ob x1 fun a2=>
 bc (C (.fn 21) [a1,a2] h) fun y3 h3=>
 ob (ext 0 y3) fun y4=>
 ob (ext 1 y3) fun y5=>
 b2 (yAl Tryz.prog 63 h3) fun y6 h6=>
 ob (st 10 y6 y4 h6) fun h7=>
 ob (bin Tryz.prog .neq 25 y5 (.int .i64 0)) fun y8=>
 yIf y8
 (r (some y5) h7)
 (ob (fa 6 y6) fun y9=>
 ob (ld1 y9 h7) fun y10=>
 ob (bin Tryz.prog .and 34 y10 (.int .i64 61440)) fun y11=>
 ob (bin Tryz.prog .eql 34 y11 (.int .i64 16384)) fun y12=>
 yIf y12
 (r (some (.int .i64 21)) h7)
 (ob (fa 6 y6) fun y13=>
 ob (ld1 y13 h7) fun y14=>
 ob (bin Tryz.prog .and 34 y14 (.int .i64 61440)) fun y15=>
 ob (bin Tryz.prog .eql 34 y15 (.int .i64 40960)) fun y16=>
 yIf y16
 (r (some (.int .i64 22)) h7)
 (r (some (.int .i64 0)) h7)))
theorem q110_17_eq(C:YC)(lf:Nat)(r:K1)(KN:KF)(KE:KX): ∀ F h,evX fx110 C lf [] F h KN (fun F h=>r (F 4) h) KE=q110_17 C lf r (F 0) (F 1) h:=by
 intro F h;kernel_rfl
noncomputable def fs110(C:YC)(lf:Nat)(a0 a1:SV)(h:HW):Rs:=q110_17 C lf ff110 (some a0) (some a1) h
theorem fs110_eq(C:YC)(lf:Nat)(a0 a1:SV)(h:HW):yFn Tryz.prog fx110 C lf [a0,a1] h=fs110 C lf a0 a1 h:=fnX (K:=(fun F h=>ff110 (F 4) h)) (by kernel_rfl) (((q110_17_eq C lf ff110 (fun F h=>ff110 (F 4) h) (fun _ _ _=>none)) _ h).trans (by kernel_rfl))
noncomputable def fy110:YX Tryz.prog:=Y2 fx110 fs110 fs110_eq (by kernel_rfl)
noncomputable def fx111:XF Tryz.prog:=⟨111,Tryz.f111,fun _=> .text,Tryz.func111,by kernel_rfl,by kernel_rfl,by kernel_rfl,by kernel_rfl⟩
noncomputable def ff111(x4:O)(h:HW):Rs:=
 ob x4 fun a0=>
 some (.ret a0,h)
noncomputable def q111_16(C:YC)(lf:Nat)(r:K1)(x0 x1:O)(h:HW):Rs:=
 ob x0 fun a1=>
 ob (semNil a1) fun y2=>
 ob (fa 0 y2) fun y3=>
 ob (ld1 y3 h) fun y4=>
 ob x1 fun a5=>
 bc (C (.fn 75) [y4,a5] h) fun y6 h6=>
 ob (unE .not y6) fun y7=>
 yIf y7
 (r (some (.int .i64 2)) h6)
 (ob x0 fun a8=>
 ob x1 fun a9=>
 bc (C (.fn 107) [a8,a9] h6) fun y10 h10=>
 ob (bin Tryz.prog .eql 34 y10 (.int .i64 16384)) fun y11=>
 yIf y11
 (r (some (.int .i64 21)) h10)
 (ob x0 fun a12=>
 ob x1 fun a13=>
 bc (C (.fn 107) [a12,a13] h10) fun y14 h14=>
 ob (bin Tryz.prog .neq 34 y14 (.int .i64 32768)) fun y15=>
 yIf y15
 (r (some (.int .i64 22)) h14)
 (r (some (.int .i64 0)) h14)))
theorem q111_16_eq(C:YC)(lf:Nat)(r:K1)(KN:KF)(KE:KX): ∀ F h,evX fx111 C lf [] F h KN (fun F h=>r (F 4) h) KE=q111_16 C lf r (F 0) (F 1) h:=by
 intro F h;kernel_rfl
noncomputable def fs111(C:YC)(lf:Nat)(a0 a1:SV)(h:HW):Rs:=q111_16 C lf ff111 (some a0) (some a1) h
theorem fs111_eq(C:YC)(lf:Nat)(a0 a1:SV)(h:HW):yFn Tryz.prog fx111 C lf [a0,a1] h=fs111 C lf a0 a1 h:=fnX (K:=(fun F h=>ff111 (F 4) h)) (by kernel_rfl) (((q111_16_eq C lf ff111 (fun F h=>ff111 (F 4) h) (fun _ _ _=>none)) _ h).trans (by kernel_rfl))
noncomputable def fy111:YX Tryz.prog:=Y2 fx111 fs111 fs111_eq (by kernel_rfl)
noncomputable def fx112:XF Tryz.prog:=⟨112,Tryz.f112,fun _=> .text,Tryz.func112,by kernel_rfl,by kernel_rfl,by kernel_rfl,by kernel_rfl⟩
noncomputable def ff112(x4:O)(h:HW):Rs:=
 ob x4 fun a0=>
 some (.ret a0,h)
noncomputable def q112_20(C:YC)(lf:Nat)(r:K1)(x0 x1:O)(h:HW):Rs:=
 ob x0 fun a1=>
 ob x1 fun a2=>
 bc (C (.fn 70) [a1,a2] h) fun y3 h3=>
 ob (ext 0 y3) fun y4=>
 ob (ext 1 y3) fun y5=>
 ob (bin Tryz.prog .neq 25 y5 (.int .i64 0)) fun y6=>
 yIf y6
 (r (some y5) h3)
 (ob (semNil y4) fun y7=>
 ob (fa 11 y7) fun y8=>
 ob (ld1 y8 h3) fun y9=>
 ob (bin Tryz.prog .eql 3 y9 (.int .i64 0)) fun y10=>
 yIf y10
 (r (some (.int .i64 22)) h3)
 (ob (semNil y4) fun y11=>
 ob (fa 11 y11) fun y12=>
 ob (ld1 y12 h3) fun y13=>
 ob (bin Tryz.prog .sub 3 y13 (.int .i64 1)) fun y14=>
 ob (semNil y4) fun y15=>
 ob (fa 11 y15) fun y16=>
 ob (st 1 y16 y14 h3) fun h17=>
 ob x0 fun a18=>
 bc (C (.fn 71) [a18,y4] h17) fun y19 h19=>
 r (some (.int .i64 0)) h19))
theorem q112_20_eq(C:YC)(lf:Nat)(r:K1)(KN:KF)(KE:KX): ∀ F h,evX fx112 C lf [] F h KN (fun F h=>r (F 4) h) KE=q112_20 C lf r (F 0) (F 1) h:=by
 intro F h;kernel_rfl
noncomputable def fs112(C:YC)(lf:Nat)(a0 a1:SV)(h:HW):Rs:=q112_20 C lf ff112 (some a0) (some a1) h
theorem fs112_eq(C:YC)(lf:Nat)(a0 a1:SV)(h:HW):yFn Tryz.prog fx112 C lf [a0,a1] h=fs112 C lf a0 a1 h:=fnX (K:=(fun F h=>ff112 (F 4) h)) (by kernel_rfl) (((q112_20_eq C lf ff112 (fun F h=>ff112 (F 4) h) (fun _ _ _=>none)) _ h).trans (by kernel_rfl))
noncomputable def fy112:YX Tryz.prog:=Y2 fx112 fs112 fs112_eq (by kernel_rfl)
noncomputable def fx113:XF Tryz.prog:=⟨113,Tryz.f113,fun _=> .text,Tryz.func113,by kernel_rfl,by kernel_rfl,by kernel_rfl,by kernel_rfl⟩
noncomputable def ff113(x4:O)(h:HW):Rs:=
 ob x4 fun a0=>
 some (.ret a0,h)
noncomputable def q113_29(C:YC)(lf:Nat)(r:K1)(x0 x1:O)(h:HW):Rs:=
 ob x0 fun a1=>
 ob x1 fun a2=>
 bc (C (.fn 75) [a1,a2] h) fun y3 h3=>
 ob (unE .not y3) fun y4=>
 yIf y4
 (r (some (.int .i64 2)) h3)
 (ob x0 fun a5=>
 ob (semNil a5) fun y6=>
 ob (fa 4 y6) fun y7=>
 ob (ld1 y7 h3) fun y8=>
 ob x1 fun a9=>
 ob (ixS 308 y8 a9) fun y10=>
 ob (fa 11 y10) fun y11=>
 ob (ld1 y11 h3) fun y12=>
 ob (bin Tryz.prog .eql 3 y12 (.int .i64 0)) fun y13=>
 yIf y13
 (r (some (.int .i64 22)) h3)
 (ob x0 fun a14=>
 ob (semNil a14) fun y15=>
 ob (fa 4 y15) fun y16=>
 ob (ld1 y16 h3) fun y17=>
 ob x1 fun a18=>
 ob (ixS 308 y17 a18) fun y19=>
 ob (fa 11 y19) fun y20=>
 ob (ld1 y20 h3) fun y21=>
 ob (bin Tryz.prog .sub 3 y21 (.int .i64 1)) fun y22=>
 ob (ixS 308 y17 a18) fun y23=>
 ob (fa 11 y23) fun y24=>
 ob (st 1 y24 y22 h3) fun h25=>
 ob x0 fun a26=>
 ob x1 fun a27=>
 bc (C (.fn 78) [a26,a27] h25) fun y28 h28=>
 r (some (.int .i64 0)) h28))
theorem q113_29_eq(C:YC)(lf:Nat)(r:K1)(KN:KF)(KE:KX): ∀ F h,evX fx113 C lf [] F h KN (fun F h=>r (F 4) h) KE=q113_29 C lf r (F 0) (F 1) h:=by
 intro F h;kernel_rfl
noncomputable def fs113(C:YC)(lf:Nat)(a0 a1:SV)(h:HW):Rs:=q113_29 C lf ff113 (some a0) (some a1) h
theorem fs113_eq(C:YC)(lf:Nat)(a0 a1:SV)(h:HW):yFn Tryz.prog fx113 C lf [a0,a1] h=fs113 C lf a0 a1 h:=fnX (K:=(fun F h=>ff113 (F 4) h)) (by kernel_rfl) (((q113_29_eq C lf ff113 (fun F h=>ff113 (F 4) h) (fun _ _ _=>none)) _ h).trans (by kernel_rfl))
noncomputable def fy113:YX Tryz.prog:=Y2 fx113 fs113 fs113_eq (by kernel_rfl)
noncomputable def fx114:XF Tryz.prog:=⟨114,Tryz.f114,fun r=>bif Nat.beq r 1000007 then .ord [4,5] [] else .text,Tryz.func114,by kernel_rfl,by kernel_rfl,by kernel_rfl,by kernel_rfl⟩
noncomputable def ff114(x2 x3:O)(h:HW):Rs:=
 ob x2 fun a0=>
 ob (ldN 3 a0 h) fun y1=>
 ob x3 fun a2=>
 some (.ret (.tup [y1,a2]),h)
noncomputable def fz114(L:List Nat)(x2 x3:O)(h:HW):Rs:=markZ L h fun h=>ff114 x2 x3 h
noncomputable def q114_39(C:YC)(lf:Nat)(r:K2)(x0 x2 x4 x5:O)(h:HW):Rs:=
 ob x4 fun a3=>
 ob (ld1 a3 h) fun y4=>
 yIf y4
 (ob (semBuild Tryz.prog 188 [] []) fun y5=>
 ob x2 fun a6=>
 ob (st 3 a6 y5 h) fun h7=>
 r x2 (some (.int .i64 36)) h7)
 (ob x0 fun a8=>
 bc (C (.fn 165) [a8,(.int .u8 0)] h) fun y9 h9=>
 ob (bin Tryz.prog .geq 3 y9 (.int .i64 0)) fun y10=>
 yIf y10
 (ob (semBuild Tryz.prog 188 [] []) fun y11=>
 ob x2 fun a12=>
 ob (st 3 a12 y11 h9) fun h13=>
 r x2 (some (.int .i64 22)) h13)
 (ob x5 fun a14=>
 ob (fa 1 a14) fun y15=>
 ob (ld1 y15 h9) fun y16=>
 ob (lenE Tryz.prog 22 y16) fun y17=>
 ob (bin Tryz.prog .gtr 3 y17 (.int .i64 0)) fun y18=>
 bc (gd true (some y18) (ob x0 fun a19=>
 some (.ret a19,h9)) h9) fun y20 h20=>
 bc (gd true (some y18) (ob x0 fun a21=>
 some (.ret a21,h20)) h20) fun y22 h22=>
 bc (gd true (some y18) (ob (lenE Tryz.prog 9 y22) fun y23=>
 some (.ret y23,h22)) h22) fun y24 h24=>
 bc (gd true (some y18) (ob (bin Tryz.prog .sub 3 y24 (.int .i64 1)) fun y25=>
 some (.ret y25,h24)) h24) fun y26 h26=>
 bc (gd true (some y18) (ob (semIndex Tryz.prog 9 y20 y26) fun y27=>
 some (.ret y27,h26)) h26) fun y28 h28=>
 bc (gd true (some y18) (ob (bin Tryz.prog .eql 5 y28 (.int .u8 47)) fun y29=>
 some (.ret y29,h28)) h28) fun y30 h30=>
 ob (ypk y18 y30 (.bool false)) fun y31=>
 ob x5 fun a32=>
 ob (fa 2 a32) fun y33=>
 ob (st 1 y33 y31 h30) fun h34=>
 ob x5 fun a35=>
 ob (ldN 3 a35 h34) fun y36=>
 ob x2 fun a37=>
 ob (st 3 a37 y36 h34) fun h38=>
 r x2 (some (.int .i64 0)) h38))
theorem q114_39_eq(C:YC)(lf:Nat)(r:K2)(KN:KF)(KE:KX): ∀ F h,evX fx114 C lf [1,1,1,1,1] F h KN (fun F h=>r (F 2) (F 3) h) KE=q114_39 C lf r (F 0) (F 2) (F 4) (F 5) h:=by
 intro F h;kernel_rfl
noncomputable def q114_66(C:YC)(lf:Nat)(n:K5)(x0 x2 x4 x5:O)(h:HW):Rs:=
 ob x0 fun a64=>
 bc (C (.fn 164) [a64] h) fun y65 h65=>
 n x0 x2 x4 x5 (some y65) h65
theorem q114_66_eq(C:YC)(lf:Nat)(n:K5)(KR:KF)(KE:KX): ∀ F h,evX fx114 C lf [1,1,1,1,0,0] F h (fun F h=>n (F 0) (F 2) (F 4) (F 5) (F 19) h) KR KE=q114_66 C lf n (F 0) (F 2) (F 4) (F 5) h:=by
 intro F h;kernel_rfl
noncomputable def q114_73(C:YC)(lf:Nat)(n:K4)(x0 x2 x4:O)(h:HW):Rs:=
 ob x0 fun a67=>
 ob (semIndex Tryz.prog 9 a67 (.int .i64 0)) fun y68=>
 ob (bin Tryz.prog .eql 5 y68 (.int .u8 47)) fun y69=>
 ob (semBuild Tryz.prog 188 [0] [y69]) fun y70=>
 b2 (yAl Tryz.prog 188 h) fun y71 h71=>
 ob (st 3 y71 y70 h71) fun h72=>
 n x0 x2 x4 (some y71) h72
theorem q114_73_eq(C:YC)(lf:Nat)(n:K4)(KR:KF)(KE:KX): ∀ F h,evX fx114 C lf [1,1,1,0] F h (fun F h=>n (F 0) (F 2) (F 4) (F 5) h) KR KE=q114_73 C lf n (F 0) (F 2) (F 4) h:=by
 intro F h;kernel_rfl
noncomputable def q114_79(C:YC)(lf:Nat)(n:K3)(x0 x2:O)(h:HW):Rs:=
 ob x0 fun a74=>
 ob (lenE Tryz.prog 9 a74) fun y75=>
 ob (bin Tryz.prog .gtr 3 y75 (.int .i64 255)) fun y76=>
 b2 (yAl Tryz.prog 4 h) fun y77 h77=>
 ob (st 1 y77 y76 h77) fun h78=>
 n x0 x2 (some y77) h78
theorem q114_79_eq(C:YC)(lf:Nat)(n:K3)(KR:KF)(KE:KX): ∀ F h,evX fx114 C lf [1,1,0] F h (fun F h=>n (F 0) (F 2) (F 4) h) KR KE=q114_79 C lf n (F 0) (F 2) h:=by
 intro F h;kernel_rfl
noncomputable def q114_85(C:YC)(lf:Nat)(n:K2)(r:K2)(x0 x2:O)(h:HW):Rs:=
 ob x0 fun a80=>
 ob (bin Tryz.prog .eql 9 a80 (.str (bs []))) fun y81=>
 yIf y81
 (ob (semBuild Tryz.prog 188 [] []) fun y82=>
 ob x2 fun a83=>
 ob (st 3 a83 y82 h) fun h84=>
 r x2 (some (.int .i64 2)) h84)
 (n x0 x2 h)
theorem q114_85_eq(C:YC)(lf:Nat)(n:K2)(r:K2)(KE:KX): ∀ F h,evX fx114 C lf [1,0] F h (fun F h=>n (F 0) (F 2) h) (fun F h=>r (F 2) (F 3) h) KE=q114_85 C lf n r (F 0) (F 2) h:=by
 intro F h;kernel_rfl
noncomputable def q114_87(C:YC)(lf:Nat)(n:K2)(x0:O)(h:HW):Rs:=
 b2 (yAl Tryz.prog 188 h) fun y86 h86=>
 n x0 (some y86) h86
theorem q114_87_eq(C:YC)(lf:Nat)(n:K2)(KR:KF)(KE:KX): ∀ F h,evX fx114 C lf [0] F h (fun F h=>n (F 0) (F 2) h) KR KE=q114_87 C lf n (F 0) h:=by
 intro F h;kernel_rfl
noncomputable def fs114(C:YC)(lf:Nat)(a0:SV)(h:HW):Rs:=noPan (q114_87 C lf ((fun L x0 x2 h=>q114_85 C lf ((fun L x0 x2 h=>q114_79 C lf ((fun L x0 x2 x4 h=>q114_73 C lf ((fun L x0 x2 x4 x5 h=>q114_66 C lf ((fun L x0 x2 x4 x5 x19 h=>ob x19 fun y=>rangeT C fx114.ord 114 none 56 #[20,21] (subX fx114 [1,1,1,1,0,1,0,0]) (subX fx114 [1,1,1,1,0,1,0,1]) y L (layT [(4,x4),(5,x5)]) h (fun L h=>(fun L x0 x2 x4 x5 h=>q114_39 C lf (fz114 L) x0 x2 x4 x5 h) L x0 x2 x4 x5 h) noT []) L) x0 x2 x4 x5 h) L) x0 x2 x4 h) L) x0 x2 h) L) (fz114 L) x0 x2 h) []) (some a0) h)
theorem fs114_eq(C:YC)(lf:Nat)(a0:SV)(h:HW):yFnZ Tryz.prog fx114 C lf [a0] h=fs114 C lf a0 h:=fnZ (K:=(fun L F h=>fz114 L (F 2) (F 3) h)) (by kernel_rfl) (((zSeq (a:=subX fx114 [0]) (b:=subX fx114 [1]) (by kernel_rfl) (B:=(fun L F h=>q114_85 C lf ((fun L x0 x2 h=>q114_79 C lf ((fun L x0 x2 x4 h=>q114_73 C lf ((fun L x0 x2 x4 x5 h=>q114_66 C lf ((fun L x0 x2 x4 x5 x19 h=>ob x19 fun y=>rangeT C fx114.ord 114 none 56 #[20,21] (subX fx114 [1,1,1,1,0,1,0,0]) (subX fx114 [1,1,1,1,0,1,0,1]) y L (layT [(4,x4),(5,x5)]) h (fun L h=>(fun L x0 x2 x4 x5 h=>q114_39 C lf (fz114 L) x0 x2 x4 x5 h) L x0 x2 x4 x5 h) noT []) L) x0 x2 x4 x5 h) L) x0 x2 x4 h) L) x0 x2 h) L) (fz114 L) (F 0) (F 2) h)) (zSeq (a:=subX fx114 [1,0]) (b:=subX fx114 [1,1]) (by kernel_rfl) (B:=(fun L F h=>q114_79 C lf ((fun L x0 x2 x4 h=>q114_73 C lf ((fun L x0 x2 x4 x5 h=>q114_66 C lf ((fun L x0 x2 x4 x5 x19 h=>ob x19 fun y=>rangeT C fx114.ord 114 none 56 #[20,21] (subX fx114 [1,1,1,1,0,1,0,0]) (subX fx114 [1,1,1,1,0,1,0,1]) y L (layT [(4,x4),(5,x5)]) h (fun L h=>(fun L x0 x2 x4 x5 h=>q114_39 C lf (fz114 L) x0 x2 x4 x5 h) L x0 x2 x4 x5 h) noT []) L) x0 x2 x4 x5 h) L) x0 x2 x4 h) L) (F 0) (F 2) h)) (zSeq (a:=subX fx114 [1,1,0]) (b:=subX fx114 [1,1,1]) (by kernel_rfl) (B:=(fun L F h=>q114_73 C lf ((fun L x0 x2 x4 x5 h=>q114_66 C lf ((fun L x0 x2 x4 x5 x19 h=>ob x19 fun y=>rangeT C fx114.ord 114 none 56 #[20,21] (subX fx114 [1,1,1,1,0,1,0,0]) (subX fx114 [1,1,1,1,0,1,0,1]) y L (layT [(4,x4),(5,x5)]) h (fun L h=>(fun L x0 x2 x4 x5 h=>q114_39 C lf (fz114 L) x0 x2 x4 x5 h) L x0 x2 x4 x5 h) noT []) L) x0 x2 x4 x5 h) L) (F 0) (F 2) (F 4) h)) (zSeq (a:=subX fx114 [1,1,1,0]) (b:=subX fx114 [1,1,1,1]) (by kernel_rfl) (B:=(fun L F h=>q114_66 C lf ((fun L x0 x2 x4 x5 x19 h=>ob x19 fun y=>rangeT C fx114.ord 114 none 56 #[20,21] (subX fx114 [1,1,1,1,0,1,0,0]) (subX fx114 [1,1,1,1,0,1,0,1]) y L (layT [(4,x4),(5,x5)]) h (fun L h=>(fun L x0 x2 x4 x5 h=>q114_39 C lf (fz114 L) x0 x2 x4 x5 h) L x0 x2 x4 x5 h) noT []) L) (F 0) (F 2) (F 4) (F 5) h)) (zSeq (a:=subX fx114 [1,1,1,1,0]) (b:=subX fx114 [1,1,1,1,1]) (by kernel_rfl) (B:=(fun L F h=>q114_39 C lf (fz114 L) (F 0) (F 2) (F 4) (F 5) h)) (zPlain (x:=fx114) (p:=[1,1,1,1,1]) (by kernel_rfl) (fun L F h=>(q114_39_eq C lf (fz114 L) ((fun L F h=>fz114 L (F 2) (F 3) h) L) (fun i=>(fun _ _ _ _=>none) i L)) F h)) (zSeq (a:=subX fx114 [1,1,1,1,0,0]) (b:=subX fx114 [1,1,1,1,0,1]) (by kernel_rfl) (B:=(fun L F h=>ob (F 19) fun y=>rangeT C fx114.ord 114 none 56 #[20,21] (subX fx114 [1,1,1,1,0,1,0,0]) (subX fx114 [1,1,1,1,0,1,0,1]) y L (layT [(4,(F 4)),(5,(F 5))]) h (fun L h=>(fun L x0 x2 x4 x5 h=>q114_39 C lf (fz114 L) x0 x2 x4 x5 h) L (F 0) (F 2) (F 4) (F 5) h) noT [])) (zBlock (id:=0) (a:=subX fx114 [1,1,1,1,0,1,0]) (by kernel_rfl) (fun L F h=>zRange (a:=subX fx114 [1,1,1,1,0,1,0,0]) (b:=subX fx114 [1,1,1,1,0,1,0,1]) (g:= .tmp 19) (ps:= #[20,21]) (us:=[4,5]) (es:=[]) (rb:=false) (by kernel_rfl) (by kernel_rfl) (by kernel_rfl) (by kernel_rfl) L F h)) (zPlain (x:=fx114) (p:=[1,1,1,1,0,0]) (by kernel_rfl) (fun L F h=>(q114_66_eq C lf ((fun L x0 x2 x4 x5 x19 h=>ob x19 fun y=>rangeT C fx114.ord 114 none 56 #[20,21] (subX fx114 [1,1,1,1,0,1,0,0]) (subX fx114 [1,1,1,1,0,1,0,1]) y L (layT [(4,x4),(5,x5)]) h (fun L h=>(fun L x0 x2 x4 x5 h=>q114_39 C lf (fz114 L) x0 x2 x4 x5 h) L x0 x2 x4 x5 h) noT []) L) ((fun L F h=>fz114 L (F 2) (F 3) h) L) (fun i=>(fun _ _ _ _=>none) i L)) F h)))) (zPlain (x:=fx114) (p:=[1,1,1,0]) (by kernel_rfl) (fun L F h=>(q114_73_eq C lf ((fun L x0 x2 x4 x5 h=>q114_66 C lf ((fun L x0 x2 x4 x5 x19 h=>ob x19 fun y=>rangeT C fx114.ord 114 none 56 #[20,21] (subX fx114 [1,1,1,1,0,1,0,0]) (subX fx114 [1,1,1,1,0,1,0,1]) y L (layT [(4,x4),(5,x5)]) h (fun L h=>(fun L x0 x2 x4 x5 h=>q114_39 C lf (fz114 L) x0 x2 x4 x5 h) L x0 x2 x4 x5 h) noT []) L) x0 x2 x4 x5 h) L) ((fun L F h=>fz114 L (F 2) (F 3) h) L) (fun i=>(fun _ _ _ _=>none) i L)) F h))) (zPlain (x:=fx114) (p:=[1,1,0]) (by kernel_rfl) (fun L F h=>(q114_79_eq C lf ((fun L x0 x2 x4 h=>q114_73 C lf ((fun L x0 x2 x4 x5 h=>q114_66 C lf ((fun L x0 x2 x4 x5 x19 h=>ob x19 fun y=>rangeT C fx114.ord 114 none 56 #[20,21] (subX fx114 [1,1,1,1,0,1,0,0]) (subX fx114 [1,1,1,1,0,1,0,1]) y L (layT [(4,x4),(5,x5)]) h (fun L h=>(fun L x0 x2 x4 x5 h=>q114_39 C lf (fz114 L) x0 x2 x4 x5 h) L x0 x2 x4 x5 h) noT []) L) x0 x2 x4 x5 h) L) x0 x2 x4 h) L) ((fun L F h=>fz114 L (F 2) (F 3) h) L) (fun i=>(fun _ _ _ _=>none) i L)) F h))) (zPlain (x:=fx114) (p:=[1,0]) (by kernel_rfl) (fun L F h=>(q114_85_eq C lf ((fun L x0 x2 h=>q114_79 C lf ((fun L x0 x2 x4 h=>q114_73 C lf ((fun L x0 x2 x4 x5 h=>q114_66 C lf ((fun L x0 x2 x4 x5 x19 h=>ob x19 fun y=>rangeT C fx114.ord 114 none 56 #[20,21] (subX fx114 [1,1,1,1,0,1,0,0]) (subX fx114 [1,1,1,1,0,1,0,1]) y L (layT [(4,x4),(5,x5)]) h (fun L h=>(fun L x0 x2 x4 x5 h=>q114_39 C lf (fz114 L) x0 x2 x4 x5 h) L x0 x2 x4 x5 h) noT []) L) x0 x2 x4 x5 h) L) x0 x2 x4 h) L) x0 x2 h) L) (fz114 L) (fun i=>(fun _ _ _ _=>none) i L)) F h))) (zPlain (x:=fx114) (p:=[0]) (by kernel_rfl) (fun L F h=>(q114_87_eq C lf ((fun L x0 x2 h=>q114_85 C lf ((fun L x0 x2 h=>q114_79 C lf ((fun L x0 x2 x4 h=>q114_73 C lf ((fun L x0 x2 x4 x5 h=>q114_66 C lf ((fun L x0 x2 x4 x5 x19 h=>ob x19 fun y=>rangeT C fx114.ord 114 none 56 #[20,21] (subX fx114 [1,1,1,1,0,1,0,0]) (subX fx114 [1,1,1,1,0,1,0,1]) y L (layT [(4,x4),(5,x5)]) h (fun L h=>(fun L x0 x2 x4 x5 h=>q114_39 C lf (fz114 L) x0 x2 x4 x5 h) L x0 x2 x4 x5 h) noT []) L) x0 x2 x4 x5 h) L) x0 x2 x4 h) L) x0 x2 h) L) (fz114 L) x0 x2 h) L) ((fun L F h=>fz114 L (F 2) (F 3) h) L) (fun i=>(fun _ _ _ _=>none) i L)) F h))) [] _ h).trans (by kernel_rfl))
noncomputable def fy114:YX Tryz.prog:=Z1 fx114 fs114 fs114_eq (by kernel_rfl)
noncomputable def fx115:XF Tryz.prog:=⟨115,Tryz.f115,fun _=> .text,Tryz.func115,by kernel_rfl,by kernel_rfl,by kernel_rfl,by kernel_rfl⟩
noncomputable def ff115(h:HW):Rs:=
 some (.ret (.tup []),h)
noncomputable def q115_4(C:YC)(lf:Nat)(n:K0)(x0:O)(h:HW):Rs:=
 ob x0 fun a0=>
 ob (bin Tryz.prog .neq 25 a0 (.int .i64 0)) fun y1=>
 ob x0 fun a2=>
 bc (C (.fn 84) [y1,a2] h) fun y3 h3=>
 n h3
theorem q115_4_eq(C:YC)(lf:Nat)(n:K0)(KR:KF)(KE:KX): ∀ F h,evX fx115 C lf [] F h (fun F h=>n h) KR KE=q115_4 C lf n (F 0) h:=by
 intro F h;kernel_rfl
noncomputable def fs115(C:YC)(lf:Nat)(a0:SV)(h:HW):Rs:=q115_4 C lf ff115 (some a0) h
theorem fs115_eq(C:YC)(lf:Nat)(a0:SV)(h:HW):yFn Tryz.prog fx115 C lf [a0] h=fs115 C lf a0 h:=fnX (K:=(fun F h=>ff115 h)) (by kernel_rfl) (((q115_4_eq C lf ff115 (fun F h=>ff115 h) (fun _ _ _=>none)) _ h).trans (by kernel_rfl))
noncomputable def fy115:YX Tryz.prog:=Y1 fx115 fs115 fs115_eq (by kernel_rfl)
noncomputable def fx117:XF Tryz.prog:=⟨117,Tryz.f117,fun _=> .text,Tryz.func117,by kernel_rfl,by kernel_rfl,by kernel_rfl,by kernel_rfl⟩
noncomputable def ff117(x2 x3:O)(h:HW):Rs:=
 ob x2 fun a0=>
 ob (ldN 3 a0 h) fun y1=>
 ob x3 fun a2=>
 some (.ret (.tup [y1,a2]),h)
noncomputable def q117_25(C:YC)(lf:Nat)(r:K2)(x0 x2 x4:O)(h:HW):Rs:=
 ob x0 fun a3=>
 bc (C (.fn 167) [a3] h) fun y4 h4=>
 ob x4 fun a5=>
 ob x4 fun a6=>
 ob (lenE Tryz.prog 22 a6) fun y7=>
 ob (bin Tryz.prog .gtr 3 y7 (.int .i64 0)) fun y8=>
 bc (gd true (some y8) (ob x0 fun a9=>
 some (.ret a9,h4)) h4) fun y10 h10=>
 bc (gd true (some y8) (ob x0 fun a11=>
 some (.ret a11,h10)) h10) fun y12 h12=>
 bc (gd true (some y8) (ob (lenE Tryz.prog 9 y12) fun y13=>
 some (.ret y13,h12)) h12) fun y14 h14=>
 bc (gd true (some y8) (ob (bin Tryz.prog .sub 3 y14 (.int .i64 1)) fun y15=>
 some (.ret y15,h14)) h14) fun y16 h16=>
 bc (gd true (some y8) (ob (semIndex Tryz.prog 9 y10 y16) fun y17=>
 some (.ret y17,h16)) h16) fun y18 h18=>
 bc (gd true (some y8) (ob (bin Tryz.prog .eql 5 y18 (.int .u8 47)) fun y19=>
 some (.ret y19,h18)) h18) fun y20 h20=>
 ob (ypk y8 y20 (.bool false)) fun y21=>
 ob (semBuild Tryz.prog 188 [0,1,2] [y4,a5,y21]) fun y22=>
 ob x2 fun a23=>
 ob (st 3 a23 y22 h20) fun h24=>
 r x2 (some (.int .i64 0)) h24
theorem q117_25_eq(C:YC)(lf:Nat)(r:K2)(KN:KF)(KE:KX): ∀ F h,evX fx117 C lf [1,1,1,1,1,1] F h KN (fun F h=>r (F 2) (F 3) h) KE=q117_25 C lf r (F 0) (F 2) (F 4) h:=by
 intro F h;kernel_rfl
noncomputable def q117_40(C:YC)(lf:Nat)(n:K4)(r:K2)(e2:K3)(x0 x2 x4 x7:O)(h:HW):Rs:=
 ob x7 fun a27=>
 ob x0 fun a28=>
 ob (lenE Tryz.prog 9 a28) fun y29=>
 ob (bin Tryz.prog .lss 3 a27 y29) fun y30=>
 yIf y30
 (ob x0 fun a31=>
 ob x7 fun a32=>
 ob (semIndex Tryz.prog 9 a31 a32) fun y33=>
 ob (bin Tryz.prog .eql 5 y33 (.int .u8 0)) fun y34=>
 yIf y34
 (ob (semBuild Tryz.prog 188 [] []) fun y35=>
 ob x2 fun a36=>
 ob (st 3 a36 y35 h) fun h37=>
 r x2 (some (.int .i64 22)) h37)
 (ob x7 fun a38=>
 ob (bin Tryz.prog .add 3 a38 (.int .i64 1)) fun y39=>
 n x0 x2 x4 (some y39) h))
 (e2 x0 x2 x4 h)
theorem q117_40_eq(C:YC)(lf:Nat)(n:K4)(r:K2)(e2:K3)(KE:KX): ∀ F h,evX fx117 C lf [1,1,1,1,1,0,1,0,0] F h (fun F h=>n (F 0) (F 2) (F 4) (F 7) h) (fun F h=>r (F 2) (F 3) h) (bk 2 (fun F h=>e2 (F 0) (F 2) (F 4) h) KE)=q117_40 C lf n r e2 (F 0) (F 2) (F 4) (F 7) h:=by
 intro F h;kernel_rfl
noncomputable def l117_26(C:YC)(lf:Nat)(r:K2)(e2:K3)(k:O × O × O × O→HW→Rs)(s:O × O × O × O)(h:HW):Rs:=
 q117_40 C lf (fun x0 x2 x4 x7 h=>k (x0,x2,x4,x7) h) r e2 s.1 s.2.1 s.2.2.1 s.2.2.2 h
noncomputable def q117_41(C:YC)(lf:Nat)(n:K4)(x0 x2 x4:O)(h:HW):Rs:=
 n x0 x2 x4 (some (.int .i64 0)) h
theorem q117_41_eq(C:YC)(lf:Nat)(n:K4)(KR:KF)(KE:KX): ∀ F h,evX fx117 C lf [1,1,1,1,1,0,0] F h (fun F h=>n (F 0) (F 2) (F 4) (F 7) h) KR KE=q117_41 C lf n (F 0) (F 2) (F 4) h:=by
 intro F h;kernel_rfl
noncomputable def q117_42(C:YC)(lf:Nat)(n:K3)(r:K2)(x0 x2 x4:O)(h:HW):Rs:=
 q117_41 C lf (fun x0 x2 x4 x7 h=>lp (l117_26 C lf r n) lf (x0,x2,x4,x7) h) x0 x2 x4 h
theorem q117_42_eq(C:YC)(lf:Nat)(n:K3)(r:K2)(KE:KX): ∀ F h,evX fx117 C lf [1,1,1,1,1,0] F h (fun F h=>n (F 0) (F 2) (F 4) h) (fun F h=>r (F 2) (F 3) h) KE=q117_42 C lf n r (F 0) (F 2) (F 4) h:=cSeq (a:=subX fx117 [1,1,1,1,1,0,0]) (b:=subX fx117 [1,1,1,1,1,0,1]) (by kernel_rfl) (B:=(fun F h=>lp (l117_26 C lf r n) lf ((F 0),(F 2),(F 4),(F 7)) h)) (cBlock (id:=2) (a:=subX fx117 [1,1,1,1,1,0,1,0]) (by kernel_rfl) (cLoop (a:=subX fx117 [1,1,1,1,1,0,1,0,0]) (g:=fun F=>(F 0,F 2,F 4,F 7)) (body:=l117_26 C lf r n) (by kernel_rfl) (fun k=>(q117_40_eq C lf (fun x0 x2 x4 x7 h=>k (x0,x2,x4,x7) h) r n KE)))) (q117_41_eq C lf (fun x0 x2 x4 x7 h=>lp (l117_26 C lf r n) lf (x0,x2,x4,x7) h) (fun F h=>r (F 2) (F 3) h) KE)
noncomputable def q117_43(C:YC)(lf:Nat)(r:K2)(x0 x2 x4:O)(h:HW):Rs:=
 q117_42 C lf (fun x0 x2 x4 h=>q117_25 C lf r x0 x2 x4 h) r x0 x2 x4 h
theorem q117_43_eq(C:YC)(lf:Nat)(r:K2)(KN:KF)(KE:KX): ∀ F h,evX fx117 C lf [1,1,1,1,1] F h KN (fun F h=>r (F 2) (F 3) h) KE=q117_43 C lf r (F 0) (F 2) (F 4) h:=cSeq (a:=subX fx117 [1,1,1,1,1,0]) (b:=subX fx117 [1,1,1,1,1,1]) (by kernel_rfl) (B:=(fun F h=>q117_25 C lf r (F 0) (F 2) (F 4) h)) (q117_25_eq C lf r KN KE) (q117_42_eq C lf (fun x0 x2 x4 h=>q117_25 C lf r x0 x2 x4 h) r KE)
noncomputable def q117_59(C:YC)(lf:Nat)(n:K6)(r:K2)(e0:K3)(x0 x2 x4 x17 x18 x19:O)(h:HW):Rs:=
 ob x19 fun a45=>
 ob x18 fun a46=>
 ob (bin Tryz.prog .lss 3 a45 a46) fun y47=>
 yIf y47
 (ob x17 fun a48=>
 ob x19 fun a49=>
 ob (ixS 1 a48 a49) fun y50=>
 ob (ld1 y50 h) fun y51=>
 ob (lenE Tryz.prog 9 y51) fun y52=>
 ob (bin Tryz.prog .gtr 3 y52 (.int .i64 27)) fun y53=>
 yIf y53
 (ob (semBuild Tryz.prog 188 [] []) fun y54=>
 ob x2 fun a55=>
 ob (st 3 a55 y54 h) fun h56=>
 r x2 (some (.int .i64 36)) h56)
 (ob x19 fun a57=>
 ob (bin Tryz.prog .add 3 a57 (.int .i64 1)) fun y58=>
 n x0 x2 x4 x17 x18 (some y58) h))
 (e0 x0 x2 x4 h)
theorem q117_59_eq(C:YC)(lf:Nat)(n:K6)(r:K2)(e0:K3)(KE:KX): ∀ F h,evX fx117 C lf [1,1,1,1,0,1,0,0] F h (fun F h=>n (F 0) (F 2) (F 4) (F 17) (F 18) (F 19) h) (fun F h=>r (F 2) (F 3) h) (bk 0 (fun F h=>e0 (F 0) (F 2) (F 4) h) KE)=q117_59 C lf n r e0 (F 0) (F 2) (F 4) (F 17) (F 18) (F 19) h:=by
 intro F h;kernel_rfl
noncomputable def l117_44(C:YC)(lf:Nat)(r:K2)(e0:K3)(k:O × O × O × O × O × O→HW→Rs)(s:O × O × O × O × O × O)(h:HW):Rs:=
 q117_59 C lf (fun x0 x2 x4 x17 x18 x19 h=>k (x0,x2,x4,x17,x18,x19) h) r e0 s.1 s.2.1 s.2.2.1 s.2.2.2.1 s.2.2.2.2.1 s.2.2.2.2.2 h
noncomputable def q117_62(C:YC)(lf:Nat)(n:K6)(x0 x2 x4:O)(h:HW):Rs:=
 ob x4 fun a60=>
 ob (lenE Tryz.prog 22 a60) fun y61=>
 n x0 x2 x4 (some a60) (some y61) (some (.int .i64 0)) h
theorem q117_62_eq(C:YC)(lf:Nat)(n:K6)(KR:KF)(KE:KX): ∀ F h,evX fx117 C lf [1,1,1,1,0,0] F h (fun F h=>n (F 0) (F 2) (F 4) (F 17) (F 18) (F 19) h) KR KE=q117_62 C lf n (F 0) (F 2) (F 4) h:=by
 intro F h;kernel_rfl
noncomputable def q117_63(C:YC)(lf:Nat)(n:K3)(r:K2)(x0 x2 x4:O)(h:HW):Rs:=
 q117_62 C lf (fun x0 x2 x4 x17 x18 x19 h=>lp (l117_44 C lf r n) lf (x0,x2,x4,x17,x18,x19) h) x0 x2 x4 h
theorem q117_63_eq(C:YC)(lf:Nat)(n:K3)(r:K2)(KE:KX): ∀ F h,evX fx117 C lf [1,1,1,1,0] F h (fun F h=>n (F 0) (F 2) (F 4) h) (fun F h=>r (F 2) (F 3) h) KE=q117_63 C lf n r (F 0) (F 2) (F 4) h:=cSeq (a:=subX fx117 [1,1,1,1,0,0]) (b:=subX fx117 [1,1,1,1,0,1]) (by kernel_rfl) (B:=(fun F h=>lp (l117_44 C lf r n) lf ((F 0),(F 2),(F 4),(F 17),(F 18),(F 19)) h)) (cBlock (id:=0) (a:=subX fx117 [1,1,1,1,0,1,0]) (by kernel_rfl) (cLoop (a:=subX fx117 [1,1,1,1,0,1,0,0]) (g:=fun F=>(F 0,F 2,F 4,F 17,F 18,F 19)) (body:=l117_44 C lf r n) (by kernel_rfl) (fun k=>(q117_59_eq C lf (fun x0 x2 x4 x17 x18 x19 h=>k (x0,x2,x4,x17,x18,x19) h) r n KE)))) (q117_62_eq C lf (fun x0 x2 x4 x17 x18 x19 h=>lp (l117_44 C lf r n) lf (x0,x2,x4,x17,x18,x19) h) (fun F h=>r (F 2) (F 3) h) KE)
noncomputable def q117_64(C:YC)(lf:Nat)(r:K2)(x0 x2 x4:O)(h:HW):Rs:=
 q117_63 C lf (fun x0 x2 x4 h=>q117_43 C lf r x0 x2 x4 h) r x0 x2 x4 h
theorem q117_64_eq(C:YC)(lf:Nat)(r:K2)(KN:KF)(KE:KX): ∀ F h,evX fx117 C lf [1,1,1,1] F h KN (fun F h=>r (F 2) (F 3) h) KE=q117_64 C lf r (F 0) (F 2) (F 4) h:=cSeq (a:=subX fx117 [1,1,1,1,0]) (b:=subX fx117 [1,1,1,1,1]) (by kernel_rfl) (B:=(fun F h=>q117_43 C lf r (F 0) (F 2) (F 4) h)) (q117_43_eq C lf r KN KE) (q117_63_eq C lf (fun x0 x2 x4 h=>q117_43 C lf r x0 x2 x4 h) r KE)
noncomputable def q117_71(C:YC)(lf:Nat)(n:K3)(r:K2)(x0 x2 x4:O)(h:HW):Rs:=
 ob x0 fun a65=>
 ob (lenE Tryz.prog 9 a65) fun y66=>
 ob (bin Tryz.prog .gtr 3 y66 (.int .i64 255)) fun y67=>
 yIf y67
 (ob (semBuild Tryz.prog 188 [] []) fun y68=>
 ob x2 fun a69=>
 ob (st 3 a69 y68 h) fun h70=>
 r x2 (some (.int .i64 36)) h70)
 (n x0 x2 x4 h)
theorem q117_71_eq(C:YC)(lf:Nat)(n:K3)(r:K2)(KE:KX): ∀ F h,evX fx117 C lf [1,1,1,0] F h (fun F h=>n (F 0) (F 2) (F 4) h) (fun F h=>r (F 2) (F 3) h) KE=q117_71 C lf n r (F 0) (F 2) (F 4) h:=by
 intro F h;kernel_rfl
noncomputable def q117_72(C:YC)(lf:Nat)(r:K2)(x0 x2 x4:O)(h:HW):Rs:=
 q117_71 C lf (fun x0 x2 x4 h=>q117_64 C lf r x0 x2 x4 h) r x0 x2 x4 h
theorem q117_72_eq(C:YC)(lf:Nat)(r:K2)(KN:KF)(KE:KX): ∀ F h,evX fx117 C lf [1,1,1] F h KN (fun F h=>r (F 2) (F 3) h) KE=q117_72 C lf r (F 0) (F 2) (F 4) h:=cSeq (a:=subX fx117 [1,1,1,0]) (b:=subX fx117 [1,1,1,1]) (by kernel_rfl) (B:=(fun F h=>q117_64 C lf r (F 0) (F 2) (F 4) h)) (q117_64_eq C lf r KN KE) (q117_71_eq C lf (fun x0 x2 x4 h=>q117_64 C lf r x0 x2 x4 h) r KE)
noncomputable def q117_75(C:YC)(lf:Nat)(n:K3)(x0 x2:O)(h:HW):Rs:=
 ob x0 fun a73=>
 bc (C (.fn 166) [a73] h) fun y74 h74=>
 n x0 x2 (some y74) h74
theorem q117_75_eq(C:YC)(lf:Nat)(n:K3)(KR:KF)(KE:KX): ∀ F h,evX fx117 C lf [1,1,0] F h (fun F h=>n (F 0) (F 2) (F 4) h) KR KE=q117_75 C lf n (F 0) (F 2) h:=by
 intro F h;kernel_rfl
noncomputable def q117_76(C:YC)(lf:Nat)(r:K2)(x0 x2:O)(h:HW):Rs:=
 q117_75 C lf (fun x0 x2 x4 h=>q117_72 C lf r x0 x2 x4 h) x0 x2 h
theorem q117_76_eq(C:YC)(lf:Nat)(r:K2)(KN:KF)(KE:KX): ∀ F h,evX fx117 C lf [1,1] F h KN (fun F h=>r (F 2) (F 3) h) KE=q117_76 C lf r (F 0) (F 2) h:=cSeq (a:=subX fx117 [1,1,0]) (b:=subX fx117 [1,1,1]) (by kernel_rfl) (B:=(fun F h=>q117_72 C lf r (F 0) (F 2) (F 4) h)) (q117_72_eq C lf r KN KE) (q117_75_eq C lf (fun x0 x2 x4 h=>q117_72 C lf r x0 x2 x4 h) (fun F h=>r (F 2) (F 3) h) KE)
noncomputable def q117_82(C:YC)(lf:Nat)(n:K2)(r:K2)(x0 x2:O)(h:HW):Rs:=
 ob x0 fun a77=>
 ob (bin Tryz.prog .eql 9 a77 (.str (bs []))) fun y78=>
 yIf y78
 (ob (semBuild Tryz.prog 188 [] []) fun y79=>
 ob x2 fun a80=>
 ob (st 3 a80 y79 h) fun h81=>
 r x2 (some (.int .i64 2)) h81)
 (n x0 x2 h)
theorem q117_82_eq(C:YC)(lf:Nat)(n:K2)(r:K2)(KE:KX): ∀ F h,evX fx117 C lf [1,0] F h (fun F h=>n (F 0) (F 2) h) (fun F h=>r (F 2) (F 3) h) KE=q117_82 C lf n r (F 0) (F 2) h:=by
 intro F h;kernel_rfl
noncomputable def q117_83(C:YC)(lf:Nat)(r:K2)(x0 x2:O)(h:HW):Rs:=
 q117_82 C lf (fun x0 x2 h=>q117_76 C lf r x0 x2 h) r x0 x2 h
theorem q117_83_eq(C:YC)(lf:Nat)(r:K2)(KN:KF)(KE:KX): ∀ F h,evX fx117 C lf [1] F h KN (fun F h=>r (F 2) (F 3) h) KE=q117_83 C lf r (F 0) (F 2) h:=cSeq (a:=subX fx117 [1,0]) (b:=subX fx117 [1,1]) (by kernel_rfl) (B:=(fun F h=>q117_76 C lf r (F 0) (F 2) h)) (q117_76_eq C lf r KN KE) (q117_82_eq C lf (fun x0 x2 h=>q117_76 C lf r x0 x2 h) r KE)
noncomputable def q117_85(C:YC)(lf:Nat)(n:K2)(x0:O)(h:HW):Rs:=
 b2 (yAl Tryz.prog 188 h) fun y84 h84=>
 n x0 (some y84) h84
theorem q117_85_eq(C:YC)(lf:Nat)(n:K2)(KR:KF)(KE:KX): ∀ F h,evX fx117 C lf [0] F h (fun F h=>n (F 0) (F 2) h) KR KE=q117_85 C lf n (F 0) h:=by
 intro F h;kernel_rfl
noncomputable def q117_86(C:YC)(lf:Nat)(r:K2)(x0:O)(h:HW):Rs:=
 q117_85 C lf (fun x0 x2 h=>q117_83 C lf r x0 x2 h) x0 h
theorem q117_86_eq(C:YC)(lf:Nat)(r:K2)(KN:KF)(KE:KX): ∀ F h,evX fx117 C lf [] F h KN (fun F h=>r (F 2) (F 3) h) KE=q117_86 C lf r (F 0) h:=cSeq (a:=subX fx117 [0]) (b:=subX fx117 [1]) (by kernel_rfl) (B:=(fun F h=>q117_83 C lf r (F 0) (F 2) h)) (q117_83_eq C lf r KN KE) (q117_85_eq C lf (fun x0 x2 h=>q117_83 C lf r x0 x2 h) (fun F h=>r (F 2) (F 3) h) KE)
noncomputable def fs117(C:YC)(lf:Nat)(a0:SV)(h:HW):Rs:=q117_86 C lf ff117 (some a0) h
theorem fs117_eq(C:YC)(lf:Nat)(a0:SV)(h:HW):yFn Tryz.prog fx117 C lf [a0] h=fs117 C lf a0 h:=fnX (K:=(fun F h=>ff117 (F 2) (F 3) h)) (by kernel_rfl) (((q117_86_eq C lf ff117 (fun F h=>ff117 (F 2) (F 3) h) (fun _ _ _=>none)) _ h).trans (by kernel_rfl))
noncomputable def fy117:YX Tryz.prog:=Y1 fx117 fs117 fs117_eq (by kernel_rfl)
noncomputable def fx120:XF Tryz.prog:=⟨120,Tryz.f120,fun _=> .text,Tryz.func120,by kernel_rfl,by kernel_rfl,by kernel_rfl,by kernel_rfl⟩
noncomputable def ff120(x8:O)(h:HW):Rs:=
 ob x8 fun a0=>
 some (.ret a0,h)
noncomputable def q120_12(C:YC)(lf:Nat)(r:K1)(x0 x1 x2 x3 x11:O)(h:HW):Rs:=
 ob x11 fun a1=>
 ob (bin Tryz.prog .add 3 a1 (.int .i64 1)) fun y2=>
 ob (bin Tryz.prog .mul 3 y2 (.int .i64 32)) fun y3=>
 ob (bin Tryz.prog .gtr 3 y3 (.int .i64 17792)) fun y4=>
 yIf y4
 (r (some (.int .i64 28)) h)
 (ob x0 fun a5=>
 ob x1 fun a6=>
 ob x11 fun a7=>
 ob x2 fun a8=>
 ob x3 fun a9=>
 bc (C (.fn 68) [a8,a9] h) fun y10 h10=>
 bc (C (.fn 172) [a5,a6,a7,y10] h10) fun y11 h11=>
 r (some y11) h11)
theorem q120_12_eq(C:YC)(lf:Nat)(r:K1)(KN:KF)(KE:KX): ∀ F h,evX fx120 C lf [1,1,1,1,1,1] F h KN (fun F h=>r (F 8) h) KE=q120_12 C lf r (F 0) (F 1) (F 2) (F 3) (F 11) h:=by
 intro F h;kernel_rfl
noncomputable def q120_33(C:YC)(lf:Nat)(n:K6)(e1:K5)(x0 x1 x2 x3 x10 x11:O)(h:HW):Rs:=
 ob x11 fun a14=>
 ob x10 fun a15=>
 ob (lenE Tryz.prog 242 a15) fun y16=>
 ob (bin Tryz.prog .lss 3 a14 y16) fun y17=>
 bc (gd true (some y17) (ob x10 fun a18=>
 some (.ret a18,h)) h) fun y19 h19=>
 bc (gd true (some y17) (ob x11 fun a20=>
 some (.ret a20,h19)) h19) fun y21 h21=>
 bc (gd true (some y17) (ob (ixS 32 y19 y21) fun y22=>
 some (.ret y22,h21)) h21) fun y23 h23=>
 bc (gd true (some y17) (ob (ldN 32 y23 h23) fun y24=>
 some (.ret y24,h23)) h23) fun y25 h25=>
 bc (gd true (some y17) (bc (C (.fn 171) [y25] h25) fun y26 h26=>
 some (.ret y26,h26)) h25) fun y27 h27=>
 bc (gd true (some y17) (ob (bin Tryz.prog .neq 3 y27 (.int .i64 0)) fun y28=>
 some (.ret y28,h27)) h27) fun y29 h29=>
 ob (ypk y17 y29 (.bool false)) fun y30=>
 yIf y30
 (ob x11 fun a31=>
 ob (bin Tryz.prog .add 3 a31 (.int .i64 1)) fun y32=>
 n x0 x1 x2 x3 x10 (some y32) h29)
 (e1 x0 x1 x2 x3 x11 h29)
theorem q120_33_eq(C:YC)(lf:Nat)(n:K6)(e1:K5)(KR:KF)(KE:KX): ∀ F h,evX fx120 C lf [1,1,1,1,1,0,0,0] F h (fun F h=>n (F 0) (F 1) (F 2) (F 3) (F 10) (F 11) h) KR (bk 1 (fun F h=>e1 (F 0) (F 1) (F 2) (F 3) (F 11) h) KE)=q120_33 C lf n e1 (F 0) (F 1) (F 2) (F 3) (F 10) (F 11) h:=by
 intro F h;kernel_rfl
noncomputable def l120_13(C:YC)(lf:Nat)(e1:K5)(k:O × O × O × O × O × O→HW→Rs)(s:O × O × O × O × O × O)(h:HW):Rs:=
 q120_33 C lf (fun x0 x1 x2 x3 x10 x11 h=>k (x0,x1,x2,x3,x10,x11) h) e1 s.1 s.2.1 s.2.2.1 s.2.2.2.1 s.2.2.2.2.1 s.2.2.2.2.2 h
noncomputable def q120_34(C:YC)(lf:Nat)(r:K1)(x0 x1 x2 x3 x10 x11:O)(h:HW):Rs:=
 lp (l120_13 C lf (fun x0 x1 x2 x3 x11 h=>q120_12 C lf r x0 x1 x2 x3 x11 h)) lf (x0,x1,x2,x3,x10,x11) h
theorem q120_34_eq(C:YC)(lf:Nat)(r:K1)(KN:KF)(KE:KX): ∀ F h,evX fx120 C lf [1,1,1,1,1] F h KN (fun F h=>r (F 8) h) KE=q120_34 C lf r (F 0) (F 1) (F 2) (F 3) (F 10) (F 11) h:=cSeq (a:=subX fx120 [1,1,1,1,1,0]) (b:=subX fx120 [1,1,1,1,1,1]) (by kernel_rfl) (B:=(fun F h=>q120_12 C lf r (F 0) (F 1) (F 2) (F 3) (F 11) h)) (q120_12_eq C lf r KN KE) (cBlock (id:=1) (a:=subX fx120 [1,1,1,1,1,0,0]) (by kernel_rfl) (cLoop (a:=subX fx120 [1,1,1,1,1,0,0,0]) (g:=fun F=>(F 0,F 1,F 2,F 3,F 10,F 11)) (body:=l120_13 C lf (fun x0 x1 x2 x3 x11 h=>q120_12 C lf r x0 x1 x2 x3 x11 h)) (by kernel_rfl) (fun k=>(q120_33_eq C lf (fun x0 x1 x2 x3 x10 x11 h=>k (x0,x1,x2,x3,x10,x11) h) (fun x0 x1 x2 x3 x11 h=>q120_12 C lf r x0 x1 x2 x3 x11 h) (fun F h=>r (F 8) h) KE))))
noncomputable def q120_35(C:YC)(lf:Nat)(n:K6)(x0 x1 x2 x3 x10:O)(h:HW):Rs:=
 n x0 x1 x2 x3 x10 (some (.int .i64 0)) h
theorem q120_35_eq(C:YC)(lf:Nat)(n:K6)(KR:KF)(KE:KX): ∀ F h,evX fx120 C lf [1,1,1,1,0] F h (fun F h=>n (F 0) (F 1) (F 2) (F 3) (F 10) (F 11) h) KR KE=q120_35 C lf n (F 0) (F 1) (F 2) (F 3) (F 10) h:=by
 intro F h;kernel_rfl
noncomputable def q120_36(C:YC)(lf:Nat)(r:K1)(x0 x1 x2 x3 x10:O)(h:HW):Rs:=
 q120_35 C lf (fun x0 x1 x2 x3 x10 x11 h=>q120_34 C lf r x0 x1 x2 x3 x10 x11 h) x0 x1 x2 x3 x10 h
theorem q120_36_eq(C:YC)(lf:Nat)(r:K1)(KN:KF)(KE:KX): ∀ F h,evX fx120 C lf [1,1,1,1] F h KN (fun F h=>r (F 8) h) KE=q120_36 C lf r (F 0) (F 1) (F 2) (F 3) (F 10) h:=cSeq (a:=subX fx120 [1,1,1,1,0]) (b:=subX fx120 [1,1,1,1,1]) (by kernel_rfl) (B:=(fun F h=>q120_34 C lf r (F 0) (F 1) (F 2) (F 3) (F 10) (F 11) h)) (q120_34_eq C lf r KN KE) (q120_35_eq C lf (fun x0 x1 x2 x3 x10 x11 h=>q120_34 C lf r x0 x1 x2 x3 x10 x11 h) (fun F h=>r (F 8) h) KE)
noncomputable def q120_45(C:YC)(lf:Nat)(n:K5)(r:K1)(x0 x1 x2 x3 x10:O)(h:HW):Rs:=
 ob x0 fun a37=>
 ob x3 fun a38=>
 bc (C (.fn 67) [a37,a38] h) fun y39 h39=>
 ob (unE .not y39) fun y40=>
 yIf y40
 (r (some (.int .i64 22)) h39)
 (ob x10 fun a41=>
 ob x2 fun a42=>
 bc (C (.fn 170) [a41,a42] h39) fun y43 h43=>
 ob (bin Tryz.prog .geq 3 y43 (.int .i64 0)) fun y44=>
 yIf y44
 (r (some (.int .i64 17)) h43)
 (n x0 x1 x2 x3 x10 h43))
theorem q120_45_eq(C:YC)(lf:Nat)(n:K5)(r:K1)(KE:KX): ∀ F h,evX fx120 C lf [1,1,1,0] F h (fun F h=>n (F 0) (F 1) (F 2) (F 3) (F 10) h) (fun F h=>r (F 8) h) KE=q120_45 C lf n r (F 0) (F 1) (F 2) (F 3) (F 10) h:=by
 intro F h;kernel_rfl
noncomputable def q120_46(C:YC)(lf:Nat)(r:K1)(x0 x1 x2 x3 x10:O)(h:HW):Rs:=
 q120_45 C lf (fun x0 x1 x2 x3 x10 h=>q120_36 C lf r x0 x1 x2 x3 x10 h) r x0 x1 x2 x3 x10 h
theorem q120_46_eq(C:YC)(lf:Nat)(r:K1)(KN:KF)(KE:KX): ∀ F h,evX fx120 C lf [1,1,1] F h KN (fun F h=>r (F 8) h) KE=q120_46 C lf r (F 0) (F 1) (F 2) (F 3) (F 10) h:=cSeq (a:=subX fx120 [1,1,1,0]) (b:=subX fx120 [1,1,1,1]) (by kernel_rfl) (B:=(fun F h=>q120_36 C lf r (F 0) (F 1) (F 2) (F 3) (F 10) h)) (q120_36_eq C lf r KN KE) (q120_45_eq C lf (fun x0 x1 x2 x3 x10 h=>q120_36 C lf r x0 x1 x2 x3 x10 h) r KE)
noncomputable def q120_50(C:YC)(lf:Nat)(n:K5)(x0 x1 x2 x3:O)(h:HW):Rs:=
 ob x0 fun a47=>
 ob x1 fun a48=>
 bc (C (.fn 169) [a47,a48] h) fun y49 h49=>
 n x0 x1 x2 x3 (some y49) h49
theorem q120_50_eq(C:YC)(lf:Nat)(n:K5)(KR:KF)(KE:KX): ∀ F h,evX fx120 C lf [1,1,0] F h (fun F h=>n (F 0) (F 1) (F 2) (F 3) (F 10) h) KR KE=q120_50 C lf n (F 0) (F 1) (F 2) (F 3) h:=by
 intro F h;kernel_rfl
noncomputable def q120_51(C:YC)(lf:Nat)(r:K1)(x0 x1 x2 x3:O)(h:HW):Rs:=
 q120_50 C lf (fun x0 x1 x2 x3 x10 h=>q120_46 C lf r x0 x1 x2 x3 x10 h) x0 x1 x2 x3 h
theorem q120_51_eq(C:YC)(lf:Nat)(r:K1)(KN:KF)(KE:KX): ∀ F h,evX fx120 C lf [1,1] F h KN (fun F h=>r (F 8) h) KE=q120_51 C lf r (F 0) (F 1) (F 2) (F 3) h:=cSeq (a:=subX fx120 [1,1,0]) (b:=subX fx120 [1,1,1]) (by kernel_rfl) (B:=(fun F h=>q120_46 C lf r (F 0) (F 1) (F 2) (F 3) (F 10) h)) (q120_46_eq C lf r KN KE) (q120_50_eq C lf (fun x0 x1 x2 x3 x10 h=>q120_46 C lf r x0 x1 x2 x3 x10 h) (fun F h=>r (F 8) h) KE)
noncomputable def q120_57(C:YC)(lf:Nat)(n:K4)(r:K1)(x0 x1 x2 x3:O)(h:HW):Rs:=
 ob x0 fun a52=>
 ob x1 fun a53=>
 ob x2 fun a54=>
 bc (C (.fn 168) [a52,a53,a54] h) fun y55 h55=>
 ob (bin Tryz.prog .neq 25 y55 (.int .i64 0)) fun y56=>
 yIf y56
 (r (some y55) h55)
 (n x0 x1 x2 x3 h55)
theorem q120_57_eq(C:YC)(lf:Nat)(n:K4)(r:K1)(KE:KX): ∀ F h,evX fx120 C lf [1,0] F h (fun F h=>n (F 0) (F 1) (F 2) (F 3) h) (fun F h=>r (F 8) h) KE=q120_57 C lf n r (F 0) (F 1) (F 2) (F 3) h:=by
 intro F h;kernel_rfl
noncomputable def q120_58(C:YC)(lf:Nat)(r:K1)(x0 x1 x2 x3:O)(h:HW):Rs:=
 q120_57 C lf (fun x0 x1 x2 x3 h=>q120_51 C lf r x0 x1 x2 x3 h) r x0 x1 x2 x3 h
theorem q120_58_eq(C:YC)(lf:Nat)(r:K1)(KN:KF)(KE:KX): ∀ F h,evX fx120 C lf [1] F h KN (fun F h=>r (F 8) h) KE=q120_58 C lf r (F 0) (F 1) (F 2) (F 3) h:=cSeq (a:=subX fx120 [1,0]) (b:=subX fx120 [1,1]) (by kernel_rfl) (B:=(fun F h=>q120_51 C lf r (F 0) (F 1) (F 2) (F 3) h)) (q120_51_eq C lf r KN KE) (q120_57_eq C lf (fun x0 x1 x2 x3 h=>q120_51 C lf r x0 x1 x2 x3 h) r KE)
noncomputable def q120_59(C:YC)(lf:Nat)(n:K4)(x0 x1 x2 x3:O)(h:HW):Rs:=
 n x0 x1 x2 x3 h
theorem q120_59_eq(C:YC)(lf:Nat)(n:K4)(KR:KF)(KE:KX): ∀ F h,evX fx120 C lf [0] F h (fun F h=>n (F 0) (F 1) (F 2) (F 3) h) KR KE=q120_59 C lf n (F 0) (F 1) (F 2) (F 3) h:=by
 intro F h;kernel_rfl
noncomputable def q120_60(C:YC)(lf:Nat)(r:K1)(x0 x1 x2 x3:O)(h:HW):Rs:=
 q120_59 C lf (fun x0 x1 x2 x3 h=>q120_58 C lf r x0 x1 x2 x3 h) x0 x1 x2 x3 h
theorem q120_60_eq(C:YC)(lf:Nat)(r:K1)(KN:KF)(KE:KX): ∀ F h,evX fx120 C lf [] F h KN (fun F h=>r (F 8) h) KE=q120_60 C lf r (F 0) (F 1) (F 2) (F 3) h:=cSeq (a:=subX fx120 [0]) (b:=subX fx120 [1]) (by kernel_rfl) (B:=(fun F h=>q120_58 C lf r (F 0) (F 1) (F 2) (F 3) h)) (q120_58_eq C lf r KN KE) (q120_59_eq C lf (fun x0 x1 x2 x3 h=>q120_58 C lf r x0 x1 x2 x3 h) (fun F h=>r (F 8) h) KE)
noncomputable def fs120(C:YC)(lf:Nat)(a0 a1 a2 a3:SV)(h:HW):Rs:=q120_60 C lf ff120 (some a0) (some a1) (some a2) (some a3) h
theorem fs120_eq(C:YC)(lf:Nat)(a0 a1 a2 a3:SV)(h:HW):yFn Tryz.prog fx120 C lf [a0,a1,a2,a3] h=fs120 C lf a0 a1 a2 a3 h:=fnX (K:=(fun F h=>ff120 (F 8) h)) (by kernel_rfl) (((q120_60_eq C lf ff120 (fun F h=>ff120 (F 8) h) (fun _ _ _=>none)) _ h).trans (by kernel_rfl))
noncomputable def fy120:YX Tryz.prog:=Y4 fx120 fs120 fs120_eq (by kernel_rfl)
noncomputable def fx132:XF Tryz.prog:=⟨132,Tryz.f132,fun _=> .text,Tryz.func132,by kernel_rfl,by kernel_rfl,by kernel_rfl,by kernel_rfl⟩
noncomputable def ff132(h:HW):Rs:=
 some (.ret (.tup []),h)
noncomputable def q132_24(C:YC)(lf:Nat)(n:K4)(r:K0)(e0:K0)(x0 x1 x12 x13:O)(h:HW):Rs:=
 ob x13 fun a1=>
 ob x12 fun a2=>
 ob (bin Tryz.prog .lss 3 a1 a2) fun y3=>
 yIf y3
 (ob x13 fun a4=>
 ob x0 fun a5=>
 ob (semNil a5) fun y6=>
 ob (fa 1 y6) fun y7=>
 ob (ld1 y7 h) fun y8=>
 ob (ixS 308 y8 a4) fun y9=>
 ob (fa 0 y9) fun y10=>
 ob (ld1 y10 h) fun y11=>
 bc (gd true (some y11) (ob x1 fun a12=>
 some (.ret a12,h)) h) fun y13 h13=>
 bc (gd true (some y11) (some (.ret a4,h13)) h13) fun y14 h14=>
 bc (gd true (some y11) (ob (bin Tryz.prog .add 3 y14 (.int .i64 1)) fun y15=>
 some (.ret y15,h14)) h14) fun y16 h16=>
 bc (gd true (some y11) (cv false C y13 [y16] h16 fun y17 h17=>
 some (.ret y17,h17)) h16) fun y18 h18=>
 bc (gd true (some y11) (ob (unE .not y18) fun y19=>
 some (.ret y19,h18)) h18) fun y20 h20=>
 ob (ypk y11 y20 (.bool false)) fun y21=>
 yIf y21
 (r h20)
 (ob x13 fun a22=>
 ob (bin Tryz.prog .add 3 a22 (.int .i64 1)) fun y23=>
 n x0 x1 x12 (some y23) h20))
 (e0 h)
theorem q132_24_eq(C:YC)(lf:Nat)(n:K4)(r:K0)(e0:K0)(KE:KX): ∀ F h,evX fx132 C lf [1,1,0,0] F h (fun F h=>n (F 0) (F 1) (F 12) (F 13) h) (fun F h=>r h) (bk 0 (fun F h=>e0 h) KE)=q132_24 C lf n r e0 (F 0) (F 1) (F 12) (F 13) h:=by
 intro F h;kernel_rfl
noncomputable def l132_0(C:YC)(lf:Nat)(r:K0)(e0:K0)(k:O × O × O × O→HW→Rs)(s:O × O × O × O)(h:HW):Rs:=
 q132_24 C lf (fun x0 x1 x12 x13 h=>k (x0,x1,x12,x13) h) r e0 s.1 s.2.1 s.2.2.1 s.2.2.2 h
noncomputable def q132_30(C:YC)(lf:Nat)(n:K4)(x0 x1:O)(h:HW):Rs:=
 ob x0 fun a25=>
 ob (semNil a25) fun y26=>
 ob (fa 1 y26) fun y27=>
 ob (ld1 y27 h) fun y28=>
 ob (lenE Tryz.prog 127 y28) fun y29=>
 n x0 x1 (some y29) (some (.int .i64 0)) h
theorem q132_30_eq(C:YC)(lf:Nat)(n:K4)(KR:KF)(KE:KX): ∀ F h,evX fx132 C lf [1,0] F h (fun F h=>n (F 0) (F 1) (F 12) (F 13) h) KR KE=q132_30 C lf n (F 0) (F 1) h:=by
 intro F h;kernel_rfl
noncomputable def q132_31(C:YC)(lf:Nat)(n:K0)(r:K0)(x0 x1:O)(h:HW):Rs:=
 q132_30 C lf (fun x0 x1 x12 x13 h=>lp (l132_0 C lf r n) lf (x0,x1,x12,x13) h) x0 x1 h
theorem q132_31_eq(C:YC)(lf:Nat)(n:K0)(r:K0)(KE:KX): ∀ F h,evX fx132 C lf [1] F h (fun F h=>n h) (fun F h=>r h) KE=q132_31 C lf n r (F 0) (F 1) h:=cSeq (a:=subX fx132 [1,0]) (b:=subX fx132 [1,1]) (by kernel_rfl) (B:=(fun F h=>lp (l132_0 C lf r n) lf ((F 0),(F 1),(F 12),(F 13)) h)) (cBlock (id:=0) (a:=subX fx132 [1,1,0]) (by kernel_rfl) (cLoop (a:=subX fx132 [1,1,0,0]) (g:=fun F=>(F 0,F 1,F 12,F 13)) (body:=l132_0 C lf r n) (by kernel_rfl) (fun k=>(q132_24_eq C lf (fun x0 x1 x12 x13 h=>k (x0,x1,x12,x13) h) r n KE)))) (q132_30_eq C lf (fun x0 x1 x12 x13 h=>lp (l132_0 C lf r n) lf (x0,x1,x12,x13) h) (fun F h=>r h) KE)
noncomputable def q132_35(C:YC)(lf:Nat)(n:K2)(r:K0)(x0 x1:O)(h:HW):Rs:=
 ob x0 fun a32=>
 bc (C (.fn 65) [a32] h) fun y33 h33=>
 ob (unE .not y33) fun y34=>
 yIf y34
 (r h33)
 (n x0 x1 h33)
theorem q132_35_eq(C:YC)(lf:Nat)(n:K2)(r:K0)(KE:KX): ∀ F h,evX fx132 C lf [0] F h (fun F h=>n (F 0) (F 1) h) (fun F h=>r h) KE=q132_35 C lf n r (F 0) (F 1) h:=by
 intro F h;kernel_rfl
noncomputable def q132_36(C:YC)(lf:Nat)(n:K0)(r:K0)(x0 x1:O)(h:HW):Rs:=
 q132_35 C lf (fun x0 x1 h=>q132_31 C lf n r x0 x1 h) r x0 x1 h
theorem q132_36_eq(C:YC)(lf:Nat)(n:K0)(r:K0)(KE:KX): ∀ F h,evX fx132 C lf [] F h (fun F h=>n h) (fun F h=>r h) KE=q132_36 C lf n r (F 0) (F 1) h:=cSeq (a:=subX fx132 [0]) (b:=subX fx132 [1]) (by kernel_rfl) (B:=(fun F h=>q132_31 C lf n r (F 0) (F 1) h)) (q132_31_eq C lf n r KE) (q132_35_eq C lf (fun x0 x1 h=>q132_31 C lf n r x0 x1 h) r KE)
noncomputable def fs132(C:YC)(lf:Nat)(a0 a1:SV)(h:HW):Rs:=q132_36 C lf ff132 ff132 (some a0) (some a1) h
theorem fs132_eq(C:YC)(lf:Nat)(a0 a1:SV)(h:HW):yFn Tryz.prog fx132 C lf [a0,a1] h=fs132 C lf a0 a1 h:=fnX (K:=(fun F h=>ff132 h)) (by kernel_rfl) (((q132_36_eq C lf ff132 ff132 (fun _ _ _=>none)) _ h).trans (by kernel_rfl))
noncomputable def fy132:YX Tryz.prog:=Y2 fx132 fs132 fs132_eq (by kernel_rfl)
noncomputable def fx133:XF Tryz.prog:=⟨133,Tryz.f133,fun _=> .text,Tryz.func133,by kernel_rfl,by kernel_rfl,by kernel_rfl,by kernel_rfl⟩
noncomputable def ff133(x2:O)(h:HW):Rs:=
 ob x2 fun a0=>
 some (.ret a0,h)
noncomputable def q133_3(C:YC)(lf:Nat)(r:K1)(x3:O)(h:HW):Rs:=
 ob x3 fun a1=>
 ob (ld1 a1 h) fun y2=>
 r (some y2) h
theorem q133_3_eq(C:YC)(lf:Nat)(r:K1)(KN:KF)(KE:KX): ∀ F h,evX fx133 C lf [1,1,1,1,1,1,1,1] F h KN (fun F h=>r (F 2) h) KE=q133_3 C lf r (F 3) h:=by
 intro F h;kernel_rfl
noncomputable def q133_23(C:YC)(lf:Nat)(n:K4)(e0:K1)(x3 x4 x39 x40:O)(h:HW):Rs:=
 ob x40 fun a5=>
 ob (bin Tryz.prog .lss 3 a5 (.int .i64 16)) fun y6=>
 yIf y6
 (ob x39 fun a7=>
 ob x40 fun a8=>
 ob (semIndex Tryz.prog 134 a7 a8) fun y9=>
 b2 (yAl Tryz.prog 133 h) fun y10 h10=>
 ob (st 17 y10 y9 h10) fun h11=>
 ob x4 fun a12=>
 ob (fa 0 y10) fun y13=>
 ob (ld1 y13 h11) fun y14=>
 b2 (ybs Tryz.prog 46 1 [0] [y14] h11) fun y15 h15=>
 cv false C a12 [y15] h15 fun y16 h16=>
 ob x4 fun a17=>
 ob (fa 1 y10) fun y18=>
 ob (semSlice Tryz.prog 131 y18 none none) fun y19=>
 cv false C a17 [y19] h16 fun y20 h20=>
 ob x40 fun a21=>
 ob (bin Tryz.prog .add 3 a21 (.int .i64 1)) fun y22=>
 n x3 x4 x39 (some y22) h20)
 (e0 x3 h)
theorem q133_23_eq(C:YC)(lf:Nat)(n:K4)(e0:K1)(KR:KF)(KE:KX): ∀ F h,evX fx133 C lf [1,1,1,1,1,1,1,0,1,0,0] F h (fun F h=>n (F 3) (F 4) (F 39) (F 40) h) KR (bk 0 (fun F h=>e0 (F 3) h) KE)=q133_23 C lf n e0 (F 3) (F 4) (F 39) (F 40) h:=by
 intro F h;kernel_rfl
noncomputable def l133_4(C:YC)(lf:Nat)(e0:K1)(k:O × O × O × O→HW→Rs)(s:O × O × O × O)(h:HW):Rs:=
 q133_23 C lf (fun x3 x4 x39 x40 h=>k (x3,x4,x39,x40) h) e0 s.1 s.2.1 s.2.2.1 s.2.2.2 h
noncomputable def q133_28(C:YC)(lf:Nat)(n:K4)(x0 x3 x4:O)(h:HW):Rs:=
 ob x0 fun a24=>
 ob (semNil a24) fun y25=>
 ob (fa 36 y25) fun y26=>
 ob (ldN 272 y26 h) fun y27=>
 n x3 x4 (some y27) (some (.int .i64 0)) h
theorem q133_28_eq(C:YC)(lf:Nat)(n:K4)(KR:KF)(KE:KX): ∀ F h,evX fx133 C lf [1,1,1,1,1,1,1,0,0] F h (fun F h=>n (F 3) (F 4) (F 39) (F 40) h) KR KE=q133_28 C lf n (F 0) (F 3) (F 4) h:=by
 intro F h;kernel_rfl
noncomputable def q133_29(C:YC)(lf:Nat)(n:K1)(x0 x3 x4:O)(h:HW):Rs:=
 q133_28 C lf (fun x3 x4 x39 x40 h=>lp (l133_4 C lf n) lf (x3,x4,x39,x40) h) x0 x3 x4 h
theorem q133_29_eq(C:YC)(lf:Nat)(n:K1)(KR:KF)(KE:KX): ∀ F h,evX fx133 C lf [1,1,1,1,1,1,1,0] F h (fun F h=>n (F 3) h) KR KE=q133_29 C lf n (F 0) (F 3) (F 4) h:=cSeq (a:=subX fx133 [1,1,1,1,1,1,1,0,0]) (b:=subX fx133 [1,1,1,1,1,1,1,0,1]) (by kernel_rfl) (B:=(fun F h=>lp (l133_4 C lf n) lf ((F 3),(F 4),(F 39),(F 40)) h)) (cBlock (id:=0) (a:=subX fx133 [1,1,1,1,1,1,1,0,1,0]) (by kernel_rfl) (cLoop (a:=subX fx133 [1,1,1,1,1,1,1,0,1,0,0]) (g:=fun F=>(F 3,F 4,F 39,F 40)) (body:=l133_4 C lf n) (by kernel_rfl) (fun k=>(q133_23_eq C lf (fun x3 x4 x39 x40 h=>k (x3,x4,x39,x40) h) n KR KE)))) (q133_28_eq C lf (fun x3 x4 x39 x40 h=>lp (l133_4 C lf n) lf (x3,x4,x39,x40) h) KR KE)
noncomputable def q133_30(C:YC)(lf:Nat)(r:K1)(x0 x3 x4:O)(h:HW):Rs:=
 q133_29 C lf (fun x3 h=>q133_3 C lf r x3 h) x0 x3 x4 h
theorem q133_30_eq(C:YC)(lf:Nat)(r:K1)(KN:KF)(KE:KX): ∀ F h,evX fx133 C lf [1,1,1,1,1,1,1] F h KN (fun F h=>r (F 2) h) KE=q133_30 C lf r (F 0) (F 3) (F 4) h:=cSeq (a:=subX fx133 [1,1,1,1,1,1,1,0]) (b:=subX fx133 [1,1,1,1,1,1,1,1]) (by kernel_rfl) (B:=(fun F h=>q133_3 C lf r (F 3) h)) (q133_3_eq C lf r KN KE) (q133_29_eq C lf (fun x3 h=>q133_3 C lf r x3 h) (fun F h=>r (F 2) h) KE)
noncomputable def q133_38(C:YC)(lf:Nat)(n:K3)(x0 x3 x4:O)(h:HW):Rs:=
 ob x4 fun a31=>
 ob x0 fun a32=>
 ob (semNil a32) fun y33=>
 ob (fa 35 y33) fun y34=>
 ob (ld1 y34 h) fun y35=>
 b2 (ybs Tryz.prog 46 1 [0] [y35] h) fun y36 h36=>
 cv false C a31 [y36] h36 fun y37 h37=>
 n x0 x3 x4 h37
theorem q133_38_eq(C:YC)(lf:Nat)(n:K3)(KR:KF)(KE:KX): ∀ F h,evX fx133 C lf [1,1,1,1,1,1,0] F h (fun F h=>n (F 0) (F 3) (F 4) h) KR KE=q133_38 C lf n (F 0) (F 3) (F 4) h:=by
 intro F h;kernel_rfl
noncomputable def q133_39(C:YC)(lf:Nat)(r:K1)(x0 x3 x4:O)(h:HW):Rs:=
 q133_38 C lf (fun x0 x3 x4 h=>q133_30 C lf r x0 x3 x4 h) x0 x3 x4 h
theorem q133_39_eq(C:YC)(lf:Nat)(r:K1)(KN:KF)(KE:KX): ∀ F h,evX fx133 C lf [1,1,1,1,1,1] F h KN (fun F h=>r (F 2) h) KE=q133_39 C lf r (F 0) (F 3) (F 4) h:=cSeq (a:=subX fx133 [1,1,1,1,1,1,0]) (b:=subX fx133 [1,1,1,1,1,1,1]) (by kernel_rfl) (B:=(fun F h=>q133_30 C lf r (F 0) (F 3) (F 4) h)) (q133_30_eq C lf r KN KE) (q133_38_eq C lf (fun x0 x3 x4 h=>q133_30 C lf r x0 x3 x4 h) (fun F h=>r (F 2) h) KE)
noncomputable def q133_47(C:YC)(lf:Nat)(n:K3)(x0 x3 x4:O)(h:HW):Rs:=
 ob x4 fun a40=>
 ob x0 fun a41=>
 ob (semNil a41) fun y42=>
 ob (fa 18 y42) fun y43=>
 ob (fa 1 y43) fun y44=>
 ob (semSlice Tryz.prog 131 y44 none none) fun y45=>
 cv false C a40 [y45] h fun y46 h46=>
 n x0 x3 x4 h46
theorem q133_47_eq(C:YC)(lf:Nat)(n:K3)(KR:KF)(KE:KX): ∀ F h,evX fx133 C lf [1,1,1,1,1,0] F h (fun F h=>n (F 0) (F 3) (F 4) h) KR KE=q133_47 C lf n (F 0) (F 3) (F 4) h:=by
 intro F h;kernel_rfl
noncomputable def q133_48(C:YC)(lf:Nat)(r:K1)(x0 x3 x4:O)(h:HW):Rs:=
 q133_47 C lf (fun x0 x3 x4 h=>q133_39 C lf r x0 x3 x4 h) x0 x3 x4 h
theorem q133_48_eq(C:YC)(lf:Nat)(r:K1)(KN:KF)(KE:KX): ∀ F h,evX fx133 C lf [1,1,1,1,1] F h KN (fun F h=>r (F 2) h) KE=q133_48 C lf r (F 0) (F 3) (F 4) h:=cSeq (a:=subX fx133 [1,1,1,1,1,0]) (b:=subX fx133 [1,1,1,1,1,1]) (by kernel_rfl) (B:=(fun F h=>q133_39 C lf r (F 0) (F 3) (F 4) h)) (q133_39_eq C lf r KN KE) (q133_47_eq C lf (fun x0 x3 x4 h=>q133_39 C lf r x0 x3 x4 h) (fun F h=>r (F 2) h) KE)
noncomputable def q133_57(C:YC)(lf:Nat)(n:K3)(x0 x3 x4:O)(h:HW):Rs:=
 ob x4 fun a49=>
 ob x0 fun a50=>
 ob (semNil a50) fun y51=>
 ob (fa 18 y51) fun y52=>
 ob (fa 0 y52) fun y53=>
 ob (ld1 y53 h) fun y54=>
 b2 (ybs Tryz.prog 46 1 [0] [y54] h) fun y55 h55=>
 cv false C a49 [y55] h55 fun y56 h56=>
 n x0 x3 x4 h56
theorem q133_57_eq(C:YC)(lf:Nat)(n:K3)(KR:KF)(KE:KX): ∀ F h,evX fx133 C lf [1,1,1,1,0] F h (fun F h=>n (F 0) (F 3) (F 4) h) KR KE=q133_57 C lf n (F 0) (F 3) (F 4) h:=by
 intro F h;kernel_rfl
noncomputable def q133_58(C:YC)(lf:Nat)(r:K1)(x0 x3 x4:O)(h:HW):Rs:=
 q133_57 C lf (fun x0 x3 x4 h=>q133_48 C lf r x0 x3 x4 h) x0 x3 x4 h
theorem q133_58_eq(C:YC)(lf:Nat)(r:K1)(KN:KF)(KE:KX): ∀ F h,evX fx133 C lf [1,1,1,1] F h KN (fun F h=>r (F 2) h) KE=q133_58 C lf r (F 0) (F 3) (F 4) h:=cSeq (a:=subX fx133 [1,1,1,1,0]) (b:=subX fx133 [1,1,1,1,1]) (by kernel_rfl) (B:=(fun F h=>q133_48 C lf r (F 0) (F 3) (F 4) h)) (q133_48_eq C lf r KN KE) (q133_57_eq C lf (fun x0 x3 x4 h=>q133_48 C lf r x0 x3 x4 h) (fun F h=>r (F 2) h) KE)
noncomputable def q133_65(C:YC)(lf:Nat)(n:K3)(x0 x3 x4:O)(h:HW):Rs:=
 ob x4 fun a59=>
 ob x0 fun a60=>
 ob (semNil a60) fun y61=>
 ob (fa 12 y61) fun y62=>
 ob (semSlice Tryz.prog 130 y62 none none) fun y63=>
 cv false C a59 [y63] h fun y64 h64=>
 n x0 x3 x4 h64
theorem q133_65_eq(C:YC)(lf:Nat)(n:K3)(KR:KF)(KE:KX): ∀ F h,evX fx133 C lf [1,1,1,0] F h (fun F h=>n (F 0) (F 3) (F 4) h) KR KE=q133_65 C lf n (F 0) (F 3) (F 4) h:=by
 intro F h;kernel_rfl
noncomputable def q133_66(C:YC)(lf:Nat)(r:K1)(x0 x3 x4:O)(h:HW):Rs:=
 q133_65 C lf (fun x0 x3 x4 h=>q133_58 C lf r x0 x3 x4 h) x0 x3 x4 h
theorem q133_66_eq(C:YC)(lf:Nat)(r:K1)(KN:KF)(KE:KX): ∀ F h,evX fx133 C lf [1,1,1] F h KN (fun F h=>r (F 2) h) KE=q133_66 C lf r (F 0) (F 3) (F 4) h:=cSeq (a:=subX fx133 [1,1,1,0]) (b:=subX fx133 [1,1,1,1]) (by kernel_rfl) (B:=(fun F h=>q133_58 C lf r (F 0) (F 3) (F 4) h)) (q133_58_eq C lf r KN KE) (q133_65_eq C lf (fun x0 x3 x4 h=>q133_58 C lf r x0 x3 x4 h) (fun F h=>r (F 2) h) KE)
noncomputable def q133_68(C:YC)(lf:Nat)(n:K3)(x0 x3:O)(h:HW):Rs:=
 ob x3 fun a67=>
 n x0 x3 (some (.fn (.func 174) [] [a67])) h
theorem q133_68_eq(C:YC)(lf:Nat)(n:K3)(KR:KF)(KE:KX): ∀ F h,evX fx133 C lf [1,1,0] F h (fun F h=>n (F 0) (F 3) (F 4) h) KR KE=q133_68 C lf n (F 0) (F 3) h:=by
 intro F h;kernel_rfl
noncomputable def q133_69(C:YC)(lf:Nat)(r:K1)(x0 x3:O)(h:HW):Rs:=
 q133_68 C lf (fun x0 x3 x4 h=>q133_66 C lf r x0 x3 x4 h) x0 x3 h
theorem q133_69_eq(C:YC)(lf:Nat)(r:K1)(KN:KF)(KE:KX): ∀ F h,evX fx133 C lf [1,1] F h KN (fun F h=>r (F 2) h) KE=q133_69 C lf r (F 0) (F 3) h:=cSeq (a:=subX fx133 [1,1,0]) (b:=subX fx133 [1,1,1]) (by kernel_rfl) (B:=(fun F h=>q133_66 C lf r (F 0) (F 3) (F 4) h)) (q133_66_eq C lf r KN KE) (q133_68_eq C lf (fun x0 x3 x4 h=>q133_66 C lf r x0 x3 x4 h) (fun F h=>r (F 2) h) KE)
noncomputable def q133_71(C:YC)(lf:Nat)(n:K2)(x0:O)(h:HW):Rs:=
 b2 (yAl Tryz.prog 46 h) fun y70 h70=>
 n x0 (some y70) h70
theorem q133_71_eq(C:YC)(lf:Nat)(n:K2)(KR:KF)(KE:KX): ∀ F h,evX fx133 C lf [1,0] F h (fun F h=>n (F 0) (F 3) h) KR KE=q133_71 C lf n (F 0) h:=by
 intro F h;kernel_rfl
noncomputable def q133_72(C:YC)(lf:Nat)(r:K1)(x0:O)(h:HW):Rs:=
 q133_71 C lf (fun x0 x3 h=>q133_69 C lf r x0 x3 h) x0 h
theorem q133_72_eq(C:YC)(lf:Nat)(r:K1)(KN:KF)(KE:KX): ∀ F h,evX fx133 C lf [1] F h KN (fun F h=>r (F 2) h) KE=q133_72 C lf r (F 0) h:=cSeq (a:=subX fx133 [1,0]) (b:=subX fx133 [1,1]) (by kernel_rfl) (B:=(fun F h=>q133_69 C lf r (F 0) (F 3) h)) (q133_69_eq C lf r KN KE) (q133_71_eq C lf (fun x0 x3 h=>q133_69 C lf r x0 x3 h) (fun F h=>r (F 2) h) KE)
noncomputable def q133_73(C:YC)(lf:Nat)(n:K1)(x0:O)(h:HW):Rs:=
 n x0 h
theorem q133_73_eq(C:YC)(lf:Nat)(n:K1)(KR:KF)(KE:KX): ∀ F h,evX fx133 C lf [0] F h (fun F h=>n (F 0) h) KR KE=q133_73 C lf n (F 0) h:=by
 intro F h;kernel_rfl
noncomputable def q133_74(C:YC)(lf:Nat)(r:K1)(x0:O)(h:HW):Rs:=
 q133_73 C lf (fun x0 h=>q133_72 C lf r x0 h) x0 h
theorem q133_74_eq(C:YC)(lf:Nat)(r:K1)(KN:KF)(KE:KX): ∀ F h,evX fx133 C lf [] F h KN (fun F h=>r (F 2) h) KE=q133_74 C lf r (F 0) h:=cSeq (a:=subX fx133 [0]) (b:=subX fx133 [1]) (by kernel_rfl) (B:=(fun F h=>q133_72 C lf r (F 0) h)) (q133_72_eq C lf r KN KE) (q133_73_eq C lf (fun x0 h=>q133_72 C lf r x0 h) (fun F h=>r (F 2) h) KE)
noncomputable def fs133(C:YC)(lf:Nat)(a0:SV)(h:HW):Rs:=q133_74 C lf ff133 (some a0) h
theorem fs133_eq(C:YC)(lf:Nat)(a0:SV)(h:HW):yFn Tryz.prog fx133 C lf [a0] h=fs133 C lf a0 h:=fnX (K:=(fun F h=>ff133 (F 2) h)) (by kernel_rfl) (((q133_74_eq C lf ff133 (fun F h=>ff133 (F 2) h) (fun _ _ _=>none)) _ h).trans (by kernel_rfl))
noncomputable def fy133:YX Tryz.prog:=Y1 fx133 fs133 fs133_eq (by kernel_rfl)
noncomputable def fx134:XF Tryz.prog:=⟨134,Tryz.f134,fun _=> .text,Tryz.func134,by kernel_rfl,by kernel_rfl,by kernel_rfl,by kernel_rfl⟩
noncomputable def ff134(x2:O)(h:HW):Rs:=
 ob x2 fun a0=>
 some (.ret a0,h)
noncomputable def q134_22(C:YC)(lf:Nat)(r:K1)(x0:O)(h:HW):Rs:=
 ob x0 fun a1=>
 b2 (ybx 53 a1 h) fun y2 h2=>
 ob (fa 2 y2) fun y3=>
 ob (ld1 y3 h2) fun y4=>
 ob (bin Tryz.prog .neq 25 y4 (.int .i64 0)) fun y5=>
 yIf y5
 (ob (fa 0 y2) fun y6=>
 ob (ld1 y6 h2) fun y7=>
 ob (fa 2 y2) fun y8=>
 ob (ld1 y8 h2) fun y9=>
 bc (C (.fn 5) [y7,y9] h2) fun y10 h10=>
 r (some y10) h10)
 (ob (fa 0 y2) fun y11=>
 ob (ld1 y11 h2) fun y12=>
 b2 (ybs Tryz.prog 22 2 [0,1] [(.str (bs [114,101,97,100])),(.str (bs [119,114,105,116,101]))] h2) fun y13 h13=>
 bc (C (.fn 9) [y12,y13] h13) fun y14 h14=>
 bc (gd true (some y14) (ob (fa 3 y2) fun y15=>
 some (.ret y15,h14)) h14) fun y16 h16=>
 bc (gd true (some y14) (ob (ld1 y16 h16) fun y17=>
 some (.ret y17,h16)) h16) fun y18 h18=>
 bc (gd true (some y14) (ob (bin Tryz.prog .geq 3 y18 (.int .i64 1)) fun y19=>
 some (.ret y19,h18)) h18) fun y20 h20=>
 ob (ypk y14 y20 (.bool false)) fun y21=>
 r (some y21) h20)
theorem q134_22_eq(C:YC)(lf:Nat)(r:K1)(KN:KF)(KE:KX): ∀ F h,evX fx134 C lf [] F h KN (fun F h=>r (F 2) h) KE=q134_22 C lf r (F 0) h:=by
 intro F h;kernel_rfl
noncomputable def fs134(C:YC)(lf:Nat)(a0:SV)(h:HW):Rs:=q134_22 C lf ff134 (some a0) h
theorem fs134_eq(C:YC)(lf:Nat)(a0:SV)(h:HW):yFn Tryz.prog fx134 C lf [a0] h=fs134 C lf a0 h:=fnX (K:=(fun F h=>ff134 (F 2) h)) (by kernel_rfl) (((q134_22_eq C lf ff134 (fun F h=>ff134 (F 2) h) (fun _ _ _=>none)) _ h).trans (by kernel_rfl))
noncomputable def fy134:YX Tryz.prog:=Y1 fx134 fs134 fs134_eq (by kernel_rfl)
noncomputable def fx135:XF Tryz.prog:=⟨135,Tryz.f135,fun _=> .text,Tryz.func135,by kernel_rfl,by kernel_rfl,by kernel_rfl,by kernel_rfl⟩
noncomputable def ff135(x2:O)(h:HW):Rs:=
 ob x2 fun a0=>
 some (.ret a0,h)
noncomputable def q135_2(C:YC)(lf:Nat)(r:K1)(x3:O)(h:HW):Rs:=
 ob x3 fun a1=>
 r (some a1) h
theorem q135_2_eq(C:YC)(lf:Nat)(r:K1)(KN:KF)(KE:KX): ∀ F h,evX fx135 C lf [1,1,1,1] F h KN (fun F h=>r (F 2) h) KE=q135_2 C lf r (F 3) h:=by
 intro F h;kernel_rfl
noncomputable def q135_20(C:YC)(lf:Nat)(n:K3)(e0:K1)(x0 x3 x8:O)(h:HW):Rs:=
 ob x8 fun a4=>
 ob (bin Tryz.prog .lss 3 a4 (.int .i64 16)) fun y5=>
 yIf y5
 (ob x8 fun a6=>
 ob x0 fun a7=>
 ob (semNil a7) fun y8=>
 ob (fa 6 y8) fun y9=>
 ob (ixA 16 1 y9 a6) fun y10=>
 ob (ld1 y10 h) fun y11=>
 ob (bin Tryz.prog .neq 68 y11 (.val (.pointer none))) fun y12=>
 yIf y12
 (ob x3 fun a13=>
 b2 (ybs Tryz.prog 46 1 [0] [a6] h) fun y14 h14=>
 b2 (ybl Tryz.prog .append #[46,46] [a13,y14] h14) fun y15 h15=>
 ob x8 fun a16=>
 ob (bin Tryz.prog .add 3 a16 (.int .i64 1)) fun y17=>
 n x0 (some y15) (some y17) h15)
 (ob x8 fun a18=>
 ob (bin Tryz.prog .add 3 a18 (.int .i64 1)) fun y19=>
 n x0 x3 (some y19) h))
 (e0 x3 h)
theorem q135_20_eq(C:YC)(lf:Nat)(n:K3)(e0:K1)(KR:KF)(KE:KX): ∀ F h,evX fx135 C lf [1,1,1,0,1,0,0] F h (fun F h=>n (F 0) (F 3) (F 8) h) KR (bk 0 (fun F h=>e0 (F 3) h) KE)=q135_20 C lf n e0 (F 0) (F 3) (F 8) h:=by
 intro F h;kernel_rfl
noncomputable def l135_3(C:YC)(lf:Nat)(e0:K1)(k:O × O × O→HW→Rs)(s:O × O × O)(h:HW):Rs:=
 q135_20 C lf (fun x0 x3 x8 h=>k (x0,x3,x8) h) e0 s.1 s.2.1 s.2.2 h
noncomputable def q135_21(C:YC)(lf:Nat)(n:K3)(x0 x3:O)(h:HW):Rs:=
 n x0 x3 (some (.int .i64 0)) h
theorem q135_21_eq(C:YC)(lf:Nat)(n:K3)(KR:KF)(KE:KX): ∀ F h,evX fx135 C lf [1,1,1,0,0] F h (fun F h=>n (F 0) (F 3) (F 8) h) KR KE=q135_21 C lf n (F 0) (F 3) h:=by
 intro F h;kernel_rfl
noncomputable def q135_22(C:YC)(lf:Nat)(n:K1)(x0 x3:O)(h:HW):Rs:=
 q135_21 C lf (fun x0 x3 x8 h=>lp (l135_3 C lf n) lf (x0,x3,x8) h) x0 x3 h
theorem q135_22_eq(C:YC)(lf:Nat)(n:K1)(KR:KF)(KE:KX): ∀ F h,evX fx135 C lf [1,1,1,0] F h (fun F h=>n (F 3) h) KR KE=q135_22 C lf n (F 0) (F 3) h:=cSeq (a:=subX fx135 [1,1,1,0,0]) (b:=subX fx135 [1,1,1,0,1]) (by kernel_rfl) (B:=(fun F h=>lp (l135_3 C lf n) lf ((F 0),(F 3),(F 8)) h)) (cBlock (id:=0) (a:=subX fx135 [1,1,1,0,1,0]) (by kernel_rfl) (cLoop (a:=subX fx135 [1,1,1,0,1,0,0]) (g:=fun F=>(F 0,F 3,F 8)) (body:=l135_3 C lf n) (by kernel_rfl) (fun k=>(q135_20_eq C lf (fun x0 x3 x8 h=>k (x0,x3,x8) h) n KR KE)))) (q135_21_eq C lf (fun x0 x3 x8 h=>lp (l135_3 C lf n) lf (x0,x3,x8) h) KR KE)
noncomputable def q135_23(C:YC)(lf:Nat)(r:K1)(x0 x3:O)(h:HW):Rs:=
 q135_22 C lf (fun x3 h=>q135_2 C lf r x3 h) x0 x3 h
theorem q135_23_eq(C:YC)(lf:Nat)(r:K1)(KN:KF)(KE:KX): ∀ F h,evX fx135 C lf [1,1,1] F h KN (fun F h=>r (F 2) h) KE=q135_23 C lf r (F 0) (F 3) h:=cSeq (a:=subX fx135 [1,1,1,0]) (b:=subX fx135 [1,1,1,1]) (by kernel_rfl) (B:=(fun F h=>q135_2 C lf r (F 3) h)) (q135_2_eq C lf r KN KE) (q135_22_eq C lf (fun x3 h=>q135_2 C lf r x3 h) (fun F h=>r (F 2) h) KE)
noncomputable def q135_24(C:YC)(lf:Nat)(n:K2)(x0:O)(h:HW):Rs:=
 n x0 (some (.val (.slice none 0 0))) h
theorem q135_24_eq(C:YC)(lf:Nat)(n:K2)(KR:KF)(KE:KX): ∀ F h,evX fx135 C lf [1,1,0] F h (fun F h=>n (F 0) (F 3) h) KR KE=q135_24 C lf n (F 0) h:=by
 intro F h;kernel_rfl
noncomputable def q135_25(C:YC)(lf:Nat)(r:K1)(x0:O)(h:HW):Rs:=
 q135_24 C lf (fun x0 x3 h=>q135_23 C lf r x0 x3 h) x0 h
theorem q135_25_eq(C:YC)(lf:Nat)(r:K1)(KN:KF)(KE:KX): ∀ F h,evX fx135 C lf [1,1] F h KN (fun F h=>r (F 2) h) KE=q135_25 C lf r (F 0) h:=cSeq (a:=subX fx135 [1,1,0]) (b:=subX fx135 [1,1,1]) (by kernel_rfl) (B:=(fun F h=>q135_23 C lf r (F 0) (F 3) h)) (q135_23_eq C lf r KN KE) (q135_24_eq C lf (fun x0 x3 h=>q135_23 C lf r x0 x3 h) (fun F h=>r (F 2) h) KE)
noncomputable def q135_29(C:YC)(lf:Nat)(n:K1)(r:K1)(x0:O)(h:HW):Rs:=
 ob x0 fun a26=>
 bc (C (.fn 59) [a26] h) fun y27 h27=>
 ob (unE .not y27) fun y28=>
 yIf y28
 (r (some (.val (.slice none 0 0))) h27)
 (n x0 h27)
theorem q135_29_eq(C:YC)(lf:Nat)(n:K1)(r:K1)(KE:KX): ∀ F h,evX fx135 C lf [1,0] F h (fun F h=>n (F 0) h) (fun F h=>r (F 2) h) KE=q135_29 C lf n r (F 0) h:=by
 intro F h;kernel_rfl
noncomputable def q135_30(C:YC)(lf:Nat)(r:K1)(x0:O)(h:HW):Rs:=
 q135_29 C lf (fun x0 h=>q135_25 C lf r x0 h) r x0 h
theorem q135_30_eq(C:YC)(lf:Nat)(r:K1)(KN:KF)(KE:KX): ∀ F h,evX fx135 C lf [1] F h KN (fun F h=>r (F 2) h) KE=q135_30 C lf r (F 0) h:=cSeq (a:=subX fx135 [1,0]) (b:=subX fx135 [1,1]) (by kernel_rfl) (B:=(fun F h=>q135_25 C lf r (F 0) h)) (q135_25_eq C lf r KN KE) (q135_29_eq C lf (fun x0 h=>q135_25 C lf r x0 h) r KE)
noncomputable def q135_31(C:YC)(lf:Nat)(n:K1)(x0:O)(h:HW):Rs:=
 n x0 h
theorem q135_31_eq(C:YC)(lf:Nat)(n:K1)(KR:KF)(KE:KX): ∀ F h,evX fx135 C lf [0] F h (fun F h=>n (F 0) h) KR KE=q135_31 C lf n (F 0) h:=by
 intro F h;kernel_rfl
noncomputable def q135_32(C:YC)(lf:Nat)(r:K1)(x0:O)(h:HW):Rs:=
 q135_31 C lf (fun x0 h=>q135_30 C lf r x0 h) x0 h
theorem q135_32_eq(C:YC)(lf:Nat)(r:K1)(KN:KF)(KE:KX): ∀ F h,evX fx135 C lf [] F h KN (fun F h=>r (F 2) h) KE=q135_32 C lf r (F 0) h:=cSeq (a:=subX fx135 [0]) (b:=subX fx135 [1]) (by kernel_rfl) (B:=(fun F h=>q135_30 C lf r (F 0) h)) (q135_30_eq C lf r KN KE) (q135_31_eq C lf (fun x0 h=>q135_30 C lf r x0 h) (fun F h=>r (F 2) h) KE)
noncomputable def fs135(C:YC)(lf:Nat)(a0:SV)(h:HW):Rs:=q135_32 C lf ff135 (some a0) h
theorem fs135_eq(C:YC)(lf:Nat)(a0:SV)(h:HW):yFn Tryz.prog fx135 C lf [a0] h=fs135 C lf a0 h:=fnX (K:=(fun F h=>ff135 (F 2) h)) (by kernel_rfl) (((q135_32_eq C lf ff135 (fun F h=>ff135 (F 2) h) (fun _ _ _=>none)) _ h).trans (by kernel_rfl))
noncomputable def fy135:YX Tryz.prog:=Y1 fx135 fs135 fs135_eq (by kernel_rfl)
noncomputable def fx136:XF Tryz.prog:=⟨136,Tryz.f136,fun _=> .text,Tryz.func136,by kernel_rfl,by kernel_rfl,by kernel_rfl,by kernel_rfl⟩
noncomputable def ff136(x6:O)(h:HW):Rs:=
 ob x6 fun a0=>
 some (.ret a0,h)
noncomputable def q136_1(C:YC)(lf:Nat)(r:K1)(h:HW):Rs:=
 r (some (.bool true)) h
theorem q136_1_eq(C:YC)(lf:Nat)(r:K1)(KN:KF)(KE:KX): ∀ F h,evX fx136 C lf [1,1,1,1,1,1] F h KN (fun F h=>r (F 6) h) KE=q136_1 C lf r h:=by
 intro F h;kernel_rfl
noncomputable def q136_37(C:YC)(lf:Nat)(n:K6)(r:K1)(e1:K0)(x3 x8 x9 x50 x51 x52:O)(h:HW):Rs:=
 ob x52 fun a3=>
 ob x51 fun a4=>
 ob (bin Tryz.prog .lss 3 a3 a4) fun y5=>
 yIf y5
 (ob x50 fun a6=>
 ob x52 fun a7=>
 ob (ixS 1 a6 a7) fun y8=>
 ob (ld1 y8 h) fun y9=>
 ob (semNil y9) fun y10=>
 ob (ld1 y10 h) fun y11=>
 ob (bin Tryz.prog .gtr 3 y11 (.int .i64 0)) fun y12=>
 yIf y12
 (ob x52 fun a13=>
 ob (bin Tryz.prog .add 3 a13 (.int .i64 1)) fun y14=>
 n x3 x8 x9 x50 x51 (some y14) h)
 (ob x3 fun a15=>
 ob (ld1 a15 h) fun y16=>
 ob (semNil y16) fun y17=>
 ob (fa 0 y17) fun y18=>
 ob (ld1 y18 h) fun y19=>
 bc (C (.fn 177) [y19] h) fun y20 h20=>
 ob (ext 0 y20) fun y21=>
 ob (ext 1 y20) fun y22=>
 ob (bin Tryz.prog .neq 25 y22 (.int .i64 0)) fun y23=>
 yIf y23
 (ob x9 fun a24=>
 cv false C a24 [] h20 fun y25 h25=>
 r (some (.bool false)) h25)
 (ob (bin Tryz.prog .add 3 y21 (.int .i64 1)) fun y26=>
 ob (semNil y9) fun y27=>
 ob (st 1 y27 y26 h20) fun h28=>
 ob x8 fun a29=>
 ob (ld1 a29 h28) fun y30=>
 b2 (ybs Tryz.prog 248 1 [0] [y9] h28) fun y31 h31=>
 b2 (ybl Tryz.prog .append #[248,248] [y30,y31] h31) fun y32 h32=>
 ob x8 fun a33=>
 ob (st 1 a33 y32 h32) fun h34=>
 ob x52 fun a35=>
 ob (bin Tryz.prog .add 3 a35 (.int .i64 1)) fun y36=>
 n x3 x8 x9 x50 x51 (some y36) h34)))
 (e1 h)
theorem q136_37_eq(C:YC)(lf:Nat)(n:K6)(r:K1)(e1:K0)(KE:KX): ∀ F h,evX fx136 C lf [1,1,1,1,1,0,1,0,0] F h (fun F h=>n (F 3) (F 8) (F 9) (F 50) (F 51) (F 52) h) (fun F h=>r (F 6) h) (bk 1 (fun F h=>e1 h) KE)=q136_37 C lf n r e1 (F 3) (F 8) (F 9) (F 50) (F 51) (F 52) h:=by
 intro F h;kernel_rfl
noncomputable def l136_2(C:YC)(lf:Nat)(r:K1)(e1:K0)(k:O × O × O × O × O × O→HW→Rs)(s:O × O × O × O × O × O)(h:HW):Rs:=
 q136_37 C lf (fun x3 x8 x9 x50 x51 x52 h=>k (x3,x8,x9,x50,x51,x52) h) r e1 s.1 s.2.1 s.2.2.1 s.2.2.2.1 s.2.2.2.2.1 s.2.2.2.2.2 h
noncomputable def q136_45(C:YC)(lf:Nat)(n:K6)(x1 x2 x3 x7 x8 x9:O)(h:HW):Rs:=
 ob x7 fun a38=>
 ob x1 fun a39=>
 ob x2 fun a40=>
 bc (C (.fn 138) [a39,a40] h) fun y41 h41=>
 b2 (ybs Tryz.prog 248 1 [0] [y41] h41) fun y42 h42=>
 b2 (ybl Tryz.prog .append #[248,248] [a38,y42] h42) fun y43 h43=>
 ob (lenE Tryz.prog 248 y43) fun y44=>
 n x3 x8 x9 (some y43) (some y44) (some (.int .i64 0)) h43
theorem q136_45_eq(C:YC)(lf:Nat)(n:K6)(KR:KF)(KE:KX): ∀ F h,evX fx136 C lf [1,1,1,1,1,0,0] F h (fun F h=>n (F 3) (F 8) (F 9) (F 50) (F 51) (F 52) h) KR KE=q136_45 C lf n (F 1) (F 2) (F 3) (F 7) (F 8) (F 9) h:=by
 intro F h;kernel_rfl
noncomputable def q136_46(C:YC)(lf:Nat)(n:K0)(r:K1)(x1 x2 x3 x7 x8 x9:O)(h:HW):Rs:=
 q136_45 C lf (fun x3 x8 x9 x50 x51 x52 h=>lp (l136_2 C lf r n) lf (x3,x8,x9,x50,x51,x52) h) x1 x2 x3 x7 x8 x9 h
theorem q136_46_eq(C:YC)(lf:Nat)(n:K0)(r:K1)(KE:KX): ∀ F h,evX fx136 C lf [1,1,1,1,1,0] F h (fun F h=>n h) (fun F h=>r (F 6) h) KE=q136_46 C lf n r (F 1) (F 2) (F 3) (F 7) (F 8) (F 9) h:=cSeq (a:=subX fx136 [1,1,1,1,1,0,0]) (b:=subX fx136 [1,1,1,1,1,0,1]) (by kernel_rfl) (B:=(fun F h=>lp (l136_2 C lf r n) lf ((F 3),(F 8),(F 9),(F 50),(F 51),(F 52)) h)) (cBlock (id:=1) (a:=subX fx136 [1,1,1,1,1,0,1,0]) (by kernel_rfl) (cLoop (a:=subX fx136 [1,1,1,1,1,0,1,0,0]) (g:=fun F=>(F 3,F 8,F 9,F 50,F 51,F 52)) (body:=l136_2 C lf r n) (by kernel_rfl) (fun k=>(q136_37_eq C lf (fun x3 x8 x9 x50 x51 x52 h=>k (x3,x8,x9,x50,x51,x52) h) r n KE)))) (q136_45_eq C lf (fun x3 x8 x9 x50 x51 x52 h=>lp (l136_2 C lf r n) lf (x3,x8,x9,x50,x51,x52) h) (fun F h=>r (F 6) h) KE)
noncomputable def q136_47(C:YC)(lf:Nat)(r:K1)(x1 x2 x3 x7 x8 x9:O)(h:HW):Rs:=
 q136_46 C lf (fun h=>q136_1 C lf r h) r x1 x2 x3 x7 x8 x9 h
theorem q136_47_eq(C:YC)(lf:Nat)(r:K1)(KN:KF)(KE:KX): ∀ F h,evX fx136 C lf [1,1,1,1,1] F h KN (fun F h=>r (F 6) h) KE=q136_47 C lf r (F 1) (F 2) (F 3) (F 7) (F 8) (F 9) h:=cSeq (a:=subX fx136 [1,1,1,1,1,0]) (b:=subX fx136 [1,1,1,1,1,1]) (by kernel_rfl) (B:=(fun F h=>q136_1 C lf r h)) (q136_1_eq C lf r KN KE) (q136_46_eq C lf (fun h=>q136_1 C lf r h) r KE)
noncomputable def q136_50(C:YC)(lf:Nat)(n:K6)(x1 x2 x3 x7 x8:O)(h:HW):Rs:=
 ob x8 fun a48=>
 ob x3 fun a49=>
 n x1 x2 x3 x7 x8 (some (.fn (.func 175) [] [a48,a49])) h
theorem q136_50_eq(C:YC)(lf:Nat)(n:K6)(KR:KF)(KE:KX): ∀ F h,evX fx136 C lf [1,1,1,1,0] F h (fun F h=>n (F 1) (F 2) (F 3) (F 7) (F 8) (F 9) h) KR KE=q136_50 C lf n (F 1) (F 2) (F 3) (F 7) (F 8) h:=by
 intro F h;kernel_rfl
noncomputable def q136_51(C:YC)(lf:Nat)(r:K1)(x1 x2 x3 x7 x8:O)(h:HW):Rs:=
 q136_50 C lf (fun x1 x2 x3 x7 x8 x9 h=>q136_47 C lf r x1 x2 x3 x7 x8 x9 h) x1 x2 x3 x7 x8 h
theorem q136_51_eq(C:YC)(lf:Nat)(r:K1)(KN:KF)(KE:KX): ∀ F h,evX fx136 C lf [1,1,1,1] F h KN (fun F h=>r (F 6) h) KE=q136_51 C lf r (F 1) (F 2) (F 3) (F 7) (F 8) h:=cSeq (a:=subX fx136 [1,1,1,1,0]) (b:=subX fx136 [1,1,1,1,1]) (by kernel_rfl) (B:=(fun F h=>q136_47 C lf r (F 1) (F 2) (F 3) (F 7) (F 8) (F 9) h)) (q136_47_eq C lf r KN KE) (q136_50_eq C lf (fun x1 x2 x3 x7 x8 x9 h=>q136_47 C lf r x1 x2 x3 x7 x8 x9 h) (fun F h=>r (F 6) h) KE)
noncomputable def q136_53(C:YC)(lf:Nat)(n:K5)(x1 x2 x3 x7:O)(h:HW):Rs:=
 b2 (yAl Tryz.prog 248 h) fun y52 h52=>
 n x1 x2 x3 x7 (some y52) h52
theorem q136_53_eq(C:YC)(lf:Nat)(n:K5)(KR:KF)(KE:KX): ∀ F h,evX fx136 C lf [1,1,1,0] F h (fun F h=>n (F 1) (F 2) (F 3) (F 7) (F 8) h) KR KE=q136_53 C lf n (F 1) (F 2) (F 3) (F 7) h:=by
 intro F h;kernel_rfl
noncomputable def q136_54(C:YC)(lf:Nat)(r:K1)(x1 x2 x3 x7:O)(h:HW):Rs:=
 q136_53 C lf (fun x1 x2 x3 x7 x8 h=>q136_51 C lf r x1 x2 x3 x7 x8 h) x1 x2 x3 x7 h
theorem q136_54_eq(C:YC)(lf:Nat)(r:K1)(KN:KF)(KE:KX): ∀ F h,evX fx136 C lf [1,1,1] F h KN (fun F h=>r (F 6) h) KE=q136_54 C lf r (F 1) (F 2) (F 3) (F 7) h:=cSeq (a:=subX fx136 [1,1,1,0]) (b:=subX fx136 [1,1,1,1]) (by kernel_rfl) (B:=(fun F h=>q136_51 C lf r (F 1) (F 2) (F 3) (F 7) (F 8) h)) (q136_51_eq C lf r KN KE) (q136_53_eq C lf (fun x1 x2 x3 x7 x8 h=>q136_51 C lf r x1 x2 x3 x7 x8 h) (fun F h=>r (F 6) h) KE)
noncomputable def q136_82(C:YC)(lf:Nat)(n:K4)(r:K1)(x1 x2 x3 x7:O)(h:HW):Rs:=
 ob x1 fun a55=>
 ob x2 fun a56=>
 bc (C (.fn 138) [a55,a56] h) fun y57 h57=>
 ob (semNil y57) fun y58=>
 ob (ld1 y58 h57) fun y59=>
 ob (bin Tryz.prog .gtr 3 y59 (.int .i64 0)) fun y60=>
 yIf y60
 (r (some (.bool true)) h57)
 (ob x2 fun a61=>
 ob (bin Tryz.prog .geq 3 a61 (.int .i64 22)) fun y62=>
 yIf y62
 (ob x1 fun a63=>
 ob (semNil a63) fun y64=>
 ob (fa 35 y64) fun y65=>
 ob x1 fun a66=>
 ob x2 fun a67=>
 ob (bin Tryz.prog .sub 3 a67 (.int .i64 22)) fun y68=>
 ob (bin Tryz.prog .quo 3 y68 (.int .i64 16)) fun y69=>
 ob (semNil a66) fun y70=>
 ob (fa 36 y70) fun y71=>
 ob (ixA 16 17 y71 y69) fun y72=>
 ob (fa 0 y72) fun y73=>
 b2 (ybs Tryz.prog 248 2 [0,1] [y65,y73] h57) fun y74 h74=>
 n x1 x2 x3 (some y74) h74)
 (ob x2 fun a75=>
 ob (bin Tryz.prog .geq 3 a75 (.int .i64 6)) fun y76=>
 yIf y76
 (ob x1 fun a77=>
 ob (semNil a77) fun y78=>
 ob (fa 18 y78) fun y79=>
 ob (fa 0 y79) fun y80=>
 b2 (ybs Tryz.prog 248 1 [0] [y80] h57) fun y81 h81=>
 n x1 x2 x3 (some y81) h81)
 (n x1 x2 x3 x7 h57)))
theorem q136_82_eq(C:YC)(lf:Nat)(n:K4)(r:K1)(KE:KX): ∀ F h,evX fx136 C lf [1,1,0] F h (fun F h=>n (F 1) (F 2) (F 3) (F 7) h) (fun F h=>r (F 6) h) KE=q136_82 C lf n r (F 1) (F 2) (F 3) (F 7) h:=by
 intro F h;kernel_rfl
noncomputable def q136_83(C:YC)(lf:Nat)(r:K1)(x1 x2 x3 x7:O)(h:HW):Rs:=
 q136_82 C lf (fun x1 x2 x3 x7 h=>q136_54 C lf r x1 x2 x3 x7 h) r x1 x2 x3 x7 h
theorem q136_83_eq(C:YC)(lf:Nat)(r:K1)(KN:KF)(KE:KX): ∀ F h,evX fx136 C lf [1,1] F h KN (fun F h=>r (F 6) h) KE=q136_83 C lf r (F 1) (F 2) (F 3) (F 7) h:=cSeq (a:=subX fx136 [1,1,0]) (b:=subX fx136 [1,1,1]) (by kernel_rfl) (B:=(fun F h=>q136_54 C lf r (F 1) (F 2) (F 3) (F 7) h)) (q136_54_eq C lf r KN KE) (q136_82_eq C lf (fun x1 x2 x3 x7 h=>q136_54 C lf r x1 x2 x3 x7 h) r KE)
noncomputable def q136_84(C:YC)(lf:Nat)(n:K4)(x1 x2 x3:O)(h:HW):Rs:=
 n x1 x2 x3 (some (.val (.slice none 0 0))) h
theorem q136_84_eq(C:YC)(lf:Nat)(n:K4)(KR:KF)(KE:KX): ∀ F h,evX fx136 C lf [1,0] F h (fun F h=>n (F 1) (F 2) (F 3) (F 7) h) KR KE=q136_84 C lf n (F 1) (F 2) (F 3) h:=by
 intro F h;kernel_rfl
noncomputable def q136_85(C:YC)(lf:Nat)(r:K1)(x1 x2 x3:O)(h:HW):Rs:=
 q136_84 C lf (fun x1 x2 x3 x7 h=>q136_83 C lf r x1 x2 x3 x7 h) x1 x2 x3 h
theorem q136_85_eq(C:YC)(lf:Nat)(r:K1)(KN:KF)(KE:KX): ∀ F h,evX fx136 C lf [1] F h KN (fun F h=>r (F 6) h) KE=q136_85 C lf r (F 1) (F 2) (F 3) h:=cSeq (a:=subX fx136 [1,0]) (b:=subX fx136 [1,1]) (by kernel_rfl) (B:=(fun F h=>q136_83 C lf r (F 1) (F 2) (F 3) (F 7) h)) (q136_83_eq C lf r KN KE) (q136_84_eq C lf (fun x1 x2 x3 x7 h=>q136_83 C lf r x1 x2 x3 x7 h) (fun F h=>r (F 6) h) KE)
noncomputable def q136_88(C:YC)(lf:Nat)(n:K3)(x0 x1 x2:O)(h:HW):Rs:=
 ob x0 fun a86=>
 b2 (ybx 82 a86 h) fun y87 h87=>
 n x1 x2 (some y87) h87
theorem q136_88_eq(C:YC)(lf:Nat)(n:K3)(KR:KF)(KE:KX): ∀ F h,evX fx136 C lf [0] F h (fun F h=>n (F 1) (F 2) (F 3) h) KR KE=q136_88 C lf n (F 0) (F 1) (F 2) h:=by
 intro F h;kernel_rfl
noncomputable def q136_89(C:YC)(lf:Nat)(r:K1)(x0 x1 x2:O)(h:HW):Rs:=
 q136_88 C lf (fun x1 x2 x3 h=>q136_85 C lf r x1 x2 x3 h) x0 x1 x2 h
theorem q136_89_eq(C:YC)(lf:Nat)(r:K1)(KN:KF)(KE:KX): ∀ F h,evX fx136 C lf [] F h KN (fun F h=>r (F 6) h) KE=q136_89 C lf r (F 0) (F 1) (F 2) h:=cSeq (a:=subX fx136 [0]) (b:=subX fx136 [1]) (by kernel_rfl) (B:=(fun F h=>q136_85 C lf r (F 1) (F 2) (F 3) h)) (q136_85_eq C lf r KN KE) (q136_88_eq C lf (fun x1 x2 x3 h=>q136_85 C lf r x1 x2 x3 h) (fun F h=>r (F 6) h) KE)
noncomputable def fs136(C:YC)(lf:Nat)(a0 a1 a2:SV)(h:HW):Rs:=q136_89 C lf ff136 (some a0) (some a1) (some a2) h
theorem fs136_eq(C:YC)(lf:Nat)(a0 a1 a2:SV)(h:HW):yFn Tryz.prog fx136 C lf [a0,a1,a2] h=fs136 C lf a0 a1 a2 h:=fnX (K:=(fun F h=>ff136 (F 6) h)) (by kernel_rfl) (((q136_89_eq C lf ff136 (fun F h=>ff136 (F 6) h) (fun _ _ _=>none)) _ h).trans (by kernel_rfl))
noncomputable def fy136:YX Tryz.prog:=Y3 fx136 fs136 fs136_eq (by kernel_rfl)
noncomputable def fx137:XF Tryz.prog:=⟨137,Tryz.f137,fun _=> .text,Tryz.func137,by kernel_rfl,by kernel_rfl,by kernel_rfl,by kernel_rfl⟩
noncomputable def ff137(x8:O)(h:HW):Rs:=
 ob x8 fun a0=>
 some (.ret a0,h)
noncomputable def q137_39(C:YC)(lf:Nat)(r:K1)(x0 x1 x2 x3:O)(h:HW):Rs:=
 ob x0 fun a1=>
 bc (C (.fn 178) [a1] h) fun y2 h2=>
 ob (unE .not y2) fun y3=>
 yIf y3
 (r (some (.int .i64 14)) h2)
 (ob x0 fun a4=>
 ob x1 fun a5=>
 bc (C (.fn 179) [a4,a5] h2) fun y6 h6=>
 ob (unE .not y6) fun y7=>
 bc (gd false (some y7) (ob x2 fun a8=>
 some (.ret a8,h6)) h6) fun y9 h9=>
 bc (gd false (some y7) (ob (bin Tryz.prog .lss 3 y9 (.int .i64 0)) fun y10=>
 some (.ret y10,h9)) h9) fun y11 h11=>
 ob (ypk y7 (.bool true) y11) fun y12=>
 bc (gd false (some y12) (ob x2 fun a13=>
 some (.ret a13,h11)) h11) fun y14 h14=>
 bc (gd false (some y12) (ob (bin Tryz.prog .gtr 3 y14 (.int .i64 64)) fun y15=>
 some (.ret y15,h14)) h14) fun y16 h16=>
 ob (ypk y12 (.bool true) y16) fun y17=>
 bc (gd false (some y17) (ob x3 fun a18=>
 some (.ret a18,h16)) h16) fun y19 h19=>
 bc (gd false (some y17) (ob (lenE Tryz.prog 35 y19) fun y20=>
 some (.ret y20,h19)) h19) fun y21 h21=>
 bc (gd false (some y17) (ob x2 fun a22=>
 some (.ret a22,h21)) h21) fun y23 h23=>
 bc (gd false (some y17) (ob (bin Tryz.prog .sub 3 (.int .i64 64) y23) fun y24=>
 some (.ret y24,h23)) h23) fun y25 h25=>
 bc (gd false (some y17) (ob (bin Tryz.prog .gtr 3 y21 y25) fun y26=>
 some (.ret y26,h25)) h25) fun y27 h27=>
 ob (ypk y17 (.bool true) y27) fun y28=>
 yIf y28
 (r (some (.int .i64 22)) h27)
 (ob x0 fun a29=>
 ob (semNil a29) fun y30=>
 ob (fa 65 y30) fun y31=>
 ob (ld1 y31 h27) fun y32=>
 ob x1 fun a33=>
 ob (ixS 64 y32 a33) fun y34=>
 ob x2 fun a35=>
 ob (semSlice Tryz.prog 249 y34 (some a35) none) fun y36=>
 ob x3 fun a37=>
 b2 (ybl Tryz.prog .copy #[35,35] [y36,a37] h27) fun y38 h38=>
 r (some (.int .i64 0)) h38))
theorem q137_39_eq(C:YC)(lf:Nat)(r:K1)(KN:KF)(KE:KX): ∀ F h,evX fx137 C lf [] F h KN (fun F h=>r (F 8) h) KE=q137_39 C lf r (F 0) (F 1) (F 2) (F 3) h:=by
 intro F h;kernel_rfl
noncomputable def fs137(C:YC)(lf:Nat)(a0 a1 a2 a3:SV)(h:HW):Rs:=q137_39 C lf ff137 (some a0) (some a1) (some a2) (some a3) h
theorem fs137_eq(C:YC)(lf:Nat)(a0 a1 a2 a3:SV)(h:HW):yFn Tryz.prog fx137 C lf [a0,a1,a2,a3] h=fs137 C lf a0 a1 a2 a3 h:=fnX (K:=(fun F h=>ff137 (F 8) h)) (by kernel_rfl) (((q137_39_eq C lf ff137 (fun F h=>ff137 (F 8) h) (fun _ _ _=>none)) _ h).trans (by kernel_rfl))
noncomputable def fy137:YX Tryz.prog:=Y4 fx137 fs137 fs137_eq (by kernel_rfl)
noncomputable def fx138:XF Tryz.prog:=⟨138,Tryz.f138,fun _=> .text,Tryz.func138,by kernel_rfl,by kernel_rfl,by kernel_rfl,by kernel_rfl⟩
noncomputable def ff138(x4:O)(h:HW):Rs:=
 ob x4 fun a0=>
 some (.ret a0,h)
noncomputable def q138_27(C:YC)(lf:Nat)(r:K1)(x0 x1:O)(h:HW):Rs:=
 ob x1 fun a1=>
 ob (bin Tryz.prog .lss 3 a1 (.int .i64 6)) fun y2=>
 yIf y2
 (ob x0 fun a3=>
 ob x1 fun a4=>
 ob (semNil a3) fun y5=>
 ob (fa 12 y5) fun y6=>
 ob (ixA 6 1 y6 a4) fun y7=>
 r (some y7) h)
 (ob x1 fun a8=>
 ob (bin Tryz.prog .lss 3 a8 (.int .i64 22)) fun y9=>
 yIf y9
 (ob x0 fun a10=>
 ob x1 fun a11=>
 ob (bin Tryz.prog .sub 3 a11 (.int .i64 6)) fun y12=>
 ob (semNil a10) fun y13=>
 ob (fa 18 y13) fun y14=>
 ob (fa 1 y14) fun y15=>
 ob (ixA 16 1 y15 y12) fun y16=>
 r (some y16) h)
 (ob x1 fun a17=>
 ob (bin Tryz.prog .sub 3 a17 (.int .i64 22)) fun y18=>
 ob x0 fun a19=>
 ob (bin Tryz.prog .quo 3 y18 (.int .i64 16)) fun y20=>
 ob (bin Tryz.prog .rem 3 y18 (.int .i64 16)) fun y21=>
 ob (semNil a19) fun y22=>
 ob (fa 36 y22) fun y23=>
 ob (ixA 16 17 y23 y20) fun y24=>
 ob (fa 1 y24) fun y25=>
 ob (ixA 16 1 y25 y21) fun y26=>
 r (some y26) h))
theorem q138_27_eq(C:YC)(lf:Nat)(r:K1)(KN:KF)(KE:KX): ∀ F h,evX fx138 C lf [] F h KN (fun F h=>r (F 4) h) KE=q138_27 C lf r (F 0) (F 1) h:=by
 intro F h;kernel_rfl
noncomputable def fs138(C:YC)(lf:Nat)(a0 a1:SV)(h:HW):Rs:=q138_27 C lf ff138 (some a0) (some a1) h
theorem fs138_eq(C:YC)(lf:Nat)(a0 a1:SV)(h:HW):yFn Tryz.prog fx138 C lf [a0,a1] h=fs138 C lf a0 a1 h:=fnX (K:=(fun F h=>ff138 (F 4) h)) (by kernel_rfl) (((q138_27_eq C lf ff138 (fun F h=>ff138 (F 4) h) (fun _ _ _=>none)) _ h).trans (by kernel_rfl))
noncomputable def fy138:YX Tryz.prog:=Y2 fx138 fs138 fs138_eq (by kernel_rfl)
noncomputable def fx139:XF Tryz.prog:=⟨139,Tryz.f139,fun _=> .text,Tryz.func139,by kernel_rfl,by kernel_rfl,by kernel_rfl,by kernel_rfl⟩
noncomputable def ff139(h:HW):Rs:=
 some (.ret (.tup []),h)
noncomputable def q139_18(C:YC)(lf:Nat)(n:K0)(x0 x1:O)(h:HW):Rs:=
 ob x1 fun a0=>
 ob x1 fun a1=>
 ob x0 fun a2=>
 ob (semNil a2) fun y3=>
 ob (fa 2 y3) fun y4=>
 ob (ld1 y4 h) fun y5=>
 ob x0 fun a6=>
 ob (semNil a6) fun y7=>
 ob (fa 2 y7) fun y8=>
 ob (ld1 y8 h) fun y9=>
 ob (semNil a0) fun y10=>
 ob (fa 1 y10) fun y11=>
 ob (fa 8 y11) fun y12=>
 ob (st 1 y12 y5 h) fun h13=>
 ob (semNil a1) fun y14=>
 ob (fa 1 y14) fun y15=>
 ob (fa 9 y15) fun y16=>
 ob (st 1 y16 y9 h13) fun h17=>
 n h17
theorem q139_18_eq(C:YC)(lf:Nat)(n:K0)(KR:KF)(KE:KX): ∀ F h,evX fx139 C lf [] F h (fun F h=>n h) KR KE=q139_18 C lf n (F 0) (F 1) h:=by
 intro F h;kernel_rfl
noncomputable def fs139(C:YC)(lf:Nat)(a0 a1:SV)(h:HW):Rs:=q139_18 C lf ff139 (some a0) (some a1) h
theorem fs139_eq(C:YC)(lf:Nat)(a0 a1:SV)(h:HW):yFn Tryz.prog fx139 C lf [a0,a1] h=fs139 C lf a0 a1 h:=fnX (K:=(fun F h=>ff139 h)) (by kernel_rfl) (((q139_18_eq C lf ff139 (fun F h=>ff139 h) (fun _ _ _=>none)) _ h).trans (by kernel_rfl))
noncomputable def fy139:YX Tryz.prog:=Y2 fx139 fs139 fs139_eq (by kernel_rfl)
noncomputable def fx141:XF Tryz.prog:=⟨141,Tryz.f141,fun _=> .text,Tryz.func141,by kernel_rfl,by kernel_rfl,by kernel_rfl,by kernel_rfl⟩
noncomputable def ff141(x6:O)(h:HW):Rs:=
 ob x6 fun a0=>
 some (.ret a0,h)
noncomputable def q141_10(C:YC)(lf:Nat)(r:K1)(x2 x7 x9:O)(h:HW):Rs:=
 ob x7 fun a1=>
 ob x2 fun a2=>
 ob x9 fun a3=>
 ob (ixS 1 a3 (.int .i64 0)) fun y4=>
 ob (ld1 y4 h) fun y5=>
 ob (semNil a1) fun y6=>
 ob (fa 12 y6) fun y7=>
 ob (ixA 278 1 y7 a2) fun y8=>
 ob (st 1 y8 y5 h) fun h9=>
 r (some (.bool true)) h9
theorem q141_10_eq(C:YC)(lf:Nat)(r:K1)(KN:KF)(KE:KX): ∀ F h,evX fx141 C lf [1,1,1,1,1,1,1,1,1,1] F h KN (fun F h=>r (F 6) h) KE=q141_10 C lf r (F 2) (F 7) (F 9) h:=by
 intro F h;kernel_rfl
noncomputable def q141_39(C:YC)(lf:Nat)(n:K3)(x2 x7 x8 x9:O)(h:HW):Rs:=
 ob x8 fun a11=>
 ob (bin Tryz.prog .geq 3 a11 (.int .i64 0)) fun y12=>
 bc (gd true (some y12) (ob x7 fun a13=>
 some (.ret a13,h)) h) fun y14 h14=>
 bc (gd true (some y12) (ob x8 fun a15=>
 some (.ret a15,h14)) h14) fun y16 h16=>
 bc (gd true (some y12) (ob (semNil y14) fun y17=>
 some (.ret y17,h16)) h16) fun y18 h18=>
 bc (gd true (some y12) (ob (fa 290 y18) fun y19=>
 some (.ret y19,h18)) h18) fun y20 h20=>
 bc (gd true (some y12) (ob (ixA 17 1 y20 y16) fun y21=>
 some (.ret y21,h20)) h20) fun y22 h22=>
 bc (gd true (some y12) (ob (ld1 y22 h22) fun y23=>
 some (.ret y23,h22)) h22) fun y24 h24=>
 bc (gd true (some y12) (ob (bin Tryz.prog .eql 3 y24 (.int .i64 0)) fun y25=>
 some (.ret y25,h24)) h24) fun y26 h26=>
 ob (ypk y12 y26 (.bool false)) fun y27=>
 yIf y27
 (ob x7 fun a28=>
 ob x8 fun a29=>
 ob x9 fun a30=>
 ob (ixS 1 a30 (.int .i64 0)) fun y31=>
 ob (ld1 y31 h26) fun y32=>
 ob (semNil a28) fun y33=>
 ob (fa 290 y33) fun y34=>
 ob (ixA 17 1 y34 a29) fun y35=>
 ob (st 1 y35 y32 h26) fun h36=>
 ob x9 fun a37=>
 ob (semSlice Tryz.prog 46 a37 (some (.int .i64 1)) none) fun y38=>
 n x2 x7 (some y38) h36)
 (n x2 x7 x9 h26)
theorem q141_39_eq(C:YC)(lf:Nat)(n:K3)(KR:KF)(KE:KX): ∀ F h,evX fx141 C lf [1,1,1,1,1,1,1,1,1,0] F h (fun F h=>n (F 2) (F 7) (F 9) h) KR KE=q141_39 C lf n (F 2) (F 7) (F 8) (F 9) h:=by
 intro F h;kernel_rfl
noncomputable def q141_40(C:YC)(lf:Nat)(r:K1)(x2 x7 x8 x9:O)(h:HW):Rs:=
 q141_39 C lf (fun x2 x7 x9 h=>q141_10 C lf r x2 x7 x9 h) x2 x7 x8 x9 h
theorem q141_40_eq(C:YC)(lf:Nat)(r:K1)(KN:KF)(KE:KX): ∀ F h,evX fx141 C lf [1,1,1,1,1,1,1,1,1] F h KN (fun F h=>r (F 6) h) KE=q141_40 C lf r (F 2) (F 7) (F 8) (F 9) h:=cSeq (a:=subX fx141 [1,1,1,1,1,1,1,1,1,0]) (b:=subX fx141 [1,1,1,1,1,1,1,1,1,1]) (by kernel_rfl) (B:=(fun F h=>q141_10 C lf r (F 2) (F 7) (F 9) h)) (q141_10_eq C lf r KN KE) (q141_39_eq C lf (fun x2 x7 x9 h=>q141_10 C lf r x2 x7 x9 h) (fun F h=>r (F 6) h) KE)
noncomputable def q141_63(C:YC)(lf:Nat)(n:K4)(x2 x7 x8 x9:O)(h:HW):Rs:=
 ob x8 fun a41=>
 ob (bin Tryz.prog .gtr 3 a41 (.int .i64 0)) fun y42=>
 bc (gd true (some y42) (ob x7 fun a43=>
 some (.ret a43,h)) h) fun y44 h44=>
 bc (gd true (some y42) (ob (semNil y44) fun y45=>
 some (.ret y45,h44)) h44) fun y46 h46=>
 bc (gd true (some y42) (ob (fa 307 y46) fun y47=>
 some (.ret y47,h46)) h46) fun y48 h48=>
 bc (gd true (some y42) (ob (ld1 y48 h48) fun y49=>
 some (.ret y49,h48)) h48) fun y50 h50=>
 bc (gd true (some y42) (ob (bin Tryz.prog .eql 3 y50 (.int .i64 0)) fun y51=>
 some (.ret y51,h50)) h50) fun y52 h52=>
 ob (ypk y42 y52 (.bool false)) fun y53=>
 yIf y53
 (ob x7 fun a54=>
 ob x9 fun a55=>
 ob (ixS 1 a55 (.int .i64 0)) fun y56=>
 ob (ld1 y56 h52) fun y57=>
 ob (semNil a54) fun y58=>
 ob (fa 307 y58) fun y59=>
 ob (st 1 y59 y57 h52) fun h60=>
 ob x9 fun a61=>
 ob (semSlice Tryz.prog 46 a61 (some (.int .i64 1)) none) fun y62=>
 n x2 x7 x8 (some y62) h60)
 (n x2 x7 x8 x9 h52)
theorem q141_63_eq(C:YC)(lf:Nat)(n:K4)(KR:KF)(KE:KX): ∀ F h,evX fx141 C lf [1,1,1,1,1,1,1,1,0] F h (fun F h=>n (F 2) (F 7) (F 8) (F 9) h) KR KE=q141_63 C lf n (F 2) (F 7) (F 8) (F 9) h:=by
 intro F h;kernel_rfl
noncomputable def q141_64(C:YC)(lf:Nat)(r:K1)(x2 x7 x8 x9:O)(h:HW):Rs:=
 q141_63 C lf (fun x2 x7 x8 x9 h=>q141_40 C lf r x2 x7 x8 x9 h) x2 x7 x8 x9 h
theorem q141_64_eq(C:YC)(lf:Nat)(r:K1)(KN:KF)(KE:KX): ∀ F h,evX fx141 C lf [1,1,1,1,1,1,1,1] F h KN (fun F h=>r (F 6) h) KE=q141_64 C lf r (F 2) (F 7) (F 8) (F 9) h:=cSeq (a:=subX fx141 [1,1,1,1,1,1,1,1,0]) (b:=subX fx141 [1,1,1,1,1,1,1,1,1]) (by kernel_rfl) (B:=(fun F h=>q141_40 C lf r (F 2) (F 7) (F 8) (F 9) h)) (q141_40_eq C lf r KN KE) (q141_63_eq C lf (fun x2 x7 x8 x9 h=>q141_40 C lf r x2 x7 x8 x9 h) (fun F h=>r (F 6) h) KE)
noncomputable def q141_81(C:YC)(lf:Nat)(n:K7)(e0:K4)(x0 x2 x7 x8 x9 x38 x39:O)(h:HW):Rs:=
 ob x39 fun a66=>
 ob x38 fun a67=>
 ob (bin Tryz.prog .lss 3 a66 a67) fun y68=>
 yIf y68
 (ob x0 fun a69=>
 ob (semNil a69) fun y70=>
 ob (fa 0 y70) fun y71=>
 bc (C (.fn 184) [y71] h) fun y72 h72=>
 ob (ext 0 y72) fun y73=>
 ob (ext 1 y72) fun y74=>
 ob x9 fun a75=>
 ob (bin Tryz.prog .add 3 y73 (.int .i64 1)) fun y76=>
 b2 (ybs Tryz.prog 46 1 [0] [y76] h72) fun y77 h77=>
 b2 (ybl Tryz.prog .append #[46,46] [a75,y77] h77) fun y78 h78=>
 ob x39 fun a79=>
 ob (bin Tryz.prog .add 3 a79 (.int .i64 1)) fun y80=>
 n x0 x2 x7 x8 (some y78) x38 (some y80) h78)
 (e0 x2 x7 x8 x9 h)
theorem q141_81_eq(C:YC)(lf:Nat)(n:K7)(e0:K4)(KR:KF)(KE:KX): ∀ F h,evX fx141 C lf [1,1,1,1,1,1,1,0,1,0,0] F h (fun F h=>n (F 0) (F 2) (F 7) (F 8) (F 9) (F 38) (F 39) h) KR (bk 0 (fun F h=>e0 (F 2) (F 7) (F 8) (F 9) h) KE)=q141_81 C lf n e0 (F 0) (F 2) (F 7) (F 8) (F 9) (F 38) (F 39) h:=by
 intro F h;kernel_rfl
noncomputable def l141_65(C:YC)(lf:Nat)(e0:K4)(k:O × O × O × O × O × O × O→HW→Rs)(s:O × O × O × O × O × O × O)(h:HW):Rs:=
 q141_81 C lf (fun x0 x2 x7 x8 x9 x38 x39 h=>k (x0,x2,x7,x8,x9,x38,x39) h) e0 s.1 s.2.1 s.2.2.1 s.2.2.2.1 s.2.2.2.2.1 s.2.2.2.2.2.1 s.2.2.2.2.2.2 h
noncomputable def q141_83(C:YC)(lf:Nat)(n:K7)(x0 x2 x7 x8 x9 x10:O)(h:HW):Rs:=
 ob x10 fun a82=>
 n x0 x2 x7 x8 x9 (some a82) (some (.int .i64 0)) h
theorem q141_83_eq(C:YC)(lf:Nat)(n:K7)(KR:KF)(KE:KX): ∀ F h,evX fx141 C lf [1,1,1,1,1,1,1,0,0] F h (fun F h=>n (F 0) (F 2) (F 7) (F 8) (F 9) (F 38) (F 39) h) KR KE=q141_83 C lf n (F 0) (F 2) (F 7) (F 8) (F 9) (F 10) h:=by
 intro F h;kernel_rfl
noncomputable def q141_84(C:YC)(lf:Nat)(n:K4)(x0 x2 x7 x8 x9 x10:O)(h:HW):Rs:=
 q141_83 C lf (fun x0 x2 x7 x8 x9 x38 x39 h=>lp (l141_65 C lf n) lf (x0,x2,x7,x8,x9,x38,x39) h) x0 x2 x7 x8 x9 x10 h
theorem q141_84_eq(C:YC)(lf:Nat)(n:K4)(KR:KF)(KE:KX): ∀ F h,evX fx141 C lf [1,1,1,1,1,1,1,0] F h (fun F h=>n (F 2) (F 7) (F 8) (F 9) h) KR KE=q141_84 C lf n (F 0) (F 2) (F 7) (F 8) (F 9) (F 10) h:=cSeq (a:=subX fx141 [1,1,1,1,1,1,1,0,0]) (b:=subX fx141 [1,1,1,1,1,1,1,0,1]) (by kernel_rfl) (B:=(fun F h=>lp (l141_65 C lf n) lf ((F 0),(F 2),(F 7),(F 8),(F 9),(F 38),(F 39)) h)) (cBlock (id:=0) (a:=subX fx141 [1,1,1,1,1,1,1,0,1,0]) (by kernel_rfl) (cLoop (a:=subX fx141 [1,1,1,1,1,1,1,0,1,0,0]) (g:=fun F=>(F 0,F 2,F 7,F 8,F 9,F 38,F 39)) (body:=l141_65 C lf n) (by kernel_rfl) (fun k=>(q141_81_eq C lf (fun x0 x2 x7 x8 x9 x38 x39 h=>k (x0,x2,x7,x8,x9,x38,x39) h) n KR KE)))) (q141_83_eq C lf (fun x0 x2 x7 x8 x9 x38 x39 h=>lp (l141_65 C lf n) lf (x0,x2,x7,x8,x9,x38,x39) h) KR KE)
noncomputable def q141_85(C:YC)(lf:Nat)(r:K1)(x0 x2 x7 x8 x9 x10:O)(h:HW):Rs:=
 q141_84 C lf (fun x2 x7 x8 x9 h=>q141_64 C lf r x2 x7 x8 x9 h) x0 x2 x7 x8 x9 x10 h
theorem q141_85_eq(C:YC)(lf:Nat)(r:K1)(KN:KF)(KE:KX): ∀ F h,evX fx141 C lf [1,1,1,1,1,1,1] F h KN (fun F h=>r (F 6) h) KE=q141_85 C lf r (F 0) (F 2) (F 7) (F 8) (F 9) (F 10) h:=cSeq (a:=subX fx141 [1,1,1,1,1,1,1,0]) (b:=subX fx141 [1,1,1,1,1,1,1,1]) (by kernel_rfl) (B:=(fun F h=>q141_64 C lf r (F 2) (F 7) (F 8) (F 9) h)) (q141_64_eq C lf r KN KE) (q141_84_eq C lf (fun x2 x7 x8 x9 h=>q141_64 C lf r x2 x7 x8 x9 h) (fun F h=>r (F 6) h) KE)
noncomputable def q141_92(C:YC)(lf:Nat)(n:K6)(r:K1)(x0 x2 x7 x8 x9 x10:O)(h:HW):Rs:=
 ob x0 fun a86=>
 ob (semNil a86) fun y87=>
 ob (fa 0 y87) fun y88=>
 bc (C (.fn 156) [y88] h) fun y89 h89=>
 ob x10 fun a90=>
 ob (bin Tryz.prog .lss 3 y89 a90) fun y91=>
 yIf y91
 (r (some (.bool false)) h89)
 (n x0 x2 x7 x8 x9 x10 h89)
theorem q141_92_eq(C:YC)(lf:Nat)(n:K6)(r:K1)(KE:KX): ∀ F h,evX fx141 C lf [1,1,1,1,1,1,0] F h (fun F h=>n (F 0) (F 2) (F 7) (F 8) (F 9) (F 10) h) (fun F h=>r (F 6) h) KE=q141_92 C lf n r (F 0) (F 2) (F 7) (F 8) (F 9) (F 10) h:=by
 intro F h;kernel_rfl
noncomputable def q141_93(C:YC)(lf:Nat)(r:K1)(x0 x2 x7 x8 x9 x10:O)(h:HW):Rs:=
 q141_92 C lf (fun x0 x2 x7 x8 x9 x10 h=>q141_85 C lf r x0 x2 x7 x8 x9 x10 h) r x0 x2 x7 x8 x9 x10 h
theorem q141_93_eq(C:YC)(lf:Nat)(r:K1)(KN:KF)(KE:KX): ∀ F h,evX fx141 C lf [1,1,1,1,1,1] F h KN (fun F h=>r (F 6) h) KE=q141_93 C lf r (F 0) (F 2) (F 7) (F 8) (F 9) (F 10) h:=cSeq (a:=subX fx141 [1,1,1,1,1,1,0]) (b:=subX fx141 [1,1,1,1,1,1,1]) (by kernel_rfl) (B:=(fun F h=>q141_85 C lf r (F 0) (F 2) (F 7) (F 8) (F 9) (F 10) h)) (q141_85_eq C lf r KN KE) (q141_92_eq C lf (fun x0 x2 x7 x8 x9 x10 h=>q141_85 C lf r x0 x2 x7 x8 x9 x10 h) r KE)
noncomputable def q141_98(C:YC)(lf:Nat)(n:K6)(x0 x1 x2 x7 x8 x9:O)(h:HW):Rs:=
 ob x0 fun a94=>
 ob x1 fun a95=>
 ob x2 fun a96=>
 bc (C (.fn 183) [a94,a95,a96] h) fun y97 h97=>
 n x0 x2 x7 x8 x9 (some y97) h97
theorem q141_98_eq(C:YC)(lf:Nat)(n:K6)(KR:KF)(KE:KX): ∀ F h,evX fx141 C lf [1,1,1,1,1,0] F h (fun F h=>n (F 0) (F 2) (F 7) (F 8) (F 9) (F 10) h) KR KE=q141_98 C lf n (F 0) (F 1) (F 2) (F 7) (F 8) (F 9) h:=by
 intro F h;kernel_rfl
noncomputable def q141_99(C:YC)(lf:Nat)(r:K1)(x0 x1 x2 x7 x8 x9:O)(h:HW):Rs:=
 q141_98 C lf (fun x0 x2 x7 x8 x9 x10 h=>q141_93 C lf r x0 x2 x7 x8 x9 x10 h) x0 x1 x2 x7 x8 x9 h
theorem q141_99_eq(C:YC)(lf:Nat)(r:K1)(KN:KF)(KE:KX): ∀ F h,evX fx141 C lf [1,1,1,1,1] F h KN (fun F h=>r (F 6) h) KE=q141_99 C lf r (F 0) (F 1) (F 2) (F 7) (F 8) (F 9) h:=cSeq (a:=subX fx141 [1,1,1,1,1,0]) (b:=subX fx141 [1,1,1,1,1,1]) (by kernel_rfl) (B:=(fun F h=>q141_93 C lf r (F 0) (F 2) (F 7) (F 8) (F 9) (F 10) h)) (q141_93_eq C lf r KN KE) (q141_98_eq C lf (fun x0 x2 x7 x8 x9 x10 h=>q141_93 C lf r x0 x2 x7 x8 x9 x10 h) (fun F h=>r (F 6) h) KE)
noncomputable def q141_100(C:YC)(lf:Nat)(n:K6)(x0 x1 x2 x7 x8:O)(h:HW):Rs:=
 n x0 x1 x2 x7 x8 (some (.val (.slice none 0 0))) h
theorem q141_100_eq(C:YC)(lf:Nat)(n:K6)(KR:KF)(KE:KX): ∀ F h,evX fx141 C lf [1,1,1,1,0] F h (fun F h=>n (F 0) (F 1) (F 2) (F 7) (F 8) (F 9) h) KR KE=q141_100 C lf n (F 0) (F 1) (F 2) (F 7) (F 8) h:=by
 intro F h;kernel_rfl
noncomputable def q141_101(C:YC)(lf:Nat)(r:K1)(x0 x1 x2 x7 x8:O)(h:HW):Rs:=
 q141_100 C lf (fun x0 x1 x2 x7 x8 x9 h=>q141_99 C lf r x0 x1 x2 x7 x8 x9 h) x0 x1 x2 x7 x8 h
theorem q141_101_eq(C:YC)(lf:Nat)(r:K1)(KN:KF)(KE:KX): ∀ F h,evX fx141 C lf [1,1,1,1] F h KN (fun F h=>r (F 6) h) KE=q141_101 C lf r (F 0) (F 1) (F 2) (F 7) (F 8) h:=cSeq (a:=subX fx141 [1,1,1,1,0]) (b:=subX fx141 [1,1,1,1,1]) (by kernel_rfl) (B:=(fun F h=>q141_99 C lf r (F 0) (F 1) (F 2) (F 7) (F 8) (F 9) h)) (q141_99_eq C lf r KN KE) (q141_100_eq C lf (fun x0 x1 x2 x7 x8 x9 h=>q141_99 C lf r x0 x1 x2 x7 x8 x9 h) (fun F h=>r (F 6) h) KE)
noncomputable def q141_104(C:YC)(lf:Nat)(n:K5)(x0 x1 x2 x7:O)(h:HW):Rs:=
 ob x2 fun a102=>
 bc (C (.fn 182) [a102] h) fun y103 h103=>
 n x0 x1 x2 x7 (some y103) h103
theorem q141_104_eq(C:YC)(lf:Nat)(n:K5)(KR:KF)(KE:KX): ∀ F h,evX fx141 C lf [1,1,1,0] F h (fun F h=>n (F 0) (F 1) (F 2) (F 7) (F 8) h) KR KE=q141_104 C lf n (F 0) (F 1) (F 2) (F 7) h:=by
 intro F h;kernel_rfl
noncomputable def q141_105(C:YC)(lf:Nat)(r:K1)(x0 x1 x2 x7:O)(h:HW):Rs:=
 q141_104 C lf (fun x0 x1 x2 x7 x8 h=>q141_101 C lf r x0 x1 x2 x7 x8 h) x0 x1 x2 x7 h
theorem q141_105_eq(C:YC)(lf:Nat)(r:K1)(KN:KF)(KE:KX): ∀ F h,evX fx141 C lf [1,1,1] F h KN (fun F h=>r (F 6) h) KE=q141_105 C lf r (F 0) (F 1) (F 2) (F 7) h:=cSeq (a:=subX fx141 [1,1,1,0]) (b:=subX fx141 [1,1,1,1]) (by kernel_rfl) (B:=(fun F h=>q141_101 C lf r (F 0) (F 1) (F 2) (F 7) (F 8) h)) (q141_101_eq C lf r KN KE) (q141_104_eq C lf (fun x0 x1 x2 x7 x8 h=>q141_101 C lf r x0 x1 x2 x7 x8 h) (fun F h=>r (F 6) h) KE)
noncomputable def q141_113(C:YC)(lf:Nat)(n:K4)(r:K1)(x0 x1 x2 x7:O)(h:HW):Rs:=
 ob x7 fun a106=>
 ob x2 fun a107=>
 ob (semNil a106) fun y108=>
 ob (fa 12 y108) fun y109=>
 ob (ixA 278 1 y109 a107) fun y110=>
 ob (ld1 y110 h) fun y111=>
 ob (bin Tryz.prog .gtr 3 y111 (.int .i64 0)) fun y112=>
 yIf y112
 (r (some (.bool true)) h)
 (n x0 x1 x2 x7 h)
theorem q141_113_eq(C:YC)(lf:Nat)(n:K4)(r:K1)(KE:KX): ∀ F h,evX fx141 C lf [1,1,0] F h (fun F h=>n (F 0) (F 1) (F 2) (F 7) h) (fun F h=>r (F 6) h) KE=q141_113 C lf n r (F 0) (F 1) (F 2) (F 7) h:=by
 intro F h;kernel_rfl
noncomputable def q141_114(C:YC)(lf:Nat)(r:K1)(x0 x1 x2 x7:O)(h:HW):Rs:=
 q141_113 C lf (fun x0 x1 x2 x7 h=>q141_105 C lf r x0 x1 x2 x7 h) r x0 x1 x2 x7 h
theorem q141_114_eq(C:YC)(lf:Nat)(r:K1)(KN:KF)(KE:KX): ∀ F h,evX fx141 C lf [1,1] F h KN (fun F h=>r (F 6) h) KE=q141_114 C lf r (F 0) (F 1) (F 2) (F 7) h:=cSeq (a:=subX fx141 [1,1,0]) (b:=subX fx141 [1,1,1]) (by kernel_rfl) (B:=(fun F h=>q141_105 C lf r (F 0) (F 1) (F 2) (F 7) h)) (q141_105_eq C lf r KN KE) (q141_113_eq C lf (fun x0 x1 x2 x7 h=>q141_105 C lf r x0 x1 x2 x7 h) r KE)
noncomputable def q141_121(C:YC)(lf:Nat)(n:K4)(x0 x1 x2:O)(h:HW):Rs:=
 ob x0 fun a115=>
 ob (semNil a115) fun y116=>
 ob (fa 4 y116) fun y117=>
 ob (ld1 y117 h) fun y118=>
 ob x1 fun a119=>
 ob (ixS 308 y118 a119) fun y120=>
 n x0 x1 x2 (some y120) h
theorem q141_121_eq(C:YC)(lf:Nat)(n:K4)(KR:KF)(KE:KX): ∀ F h,evX fx141 C lf [1,0] F h (fun F h=>n (F 0) (F 1) (F 2) (F 7) h) KR KE=q141_121 C lf n (F 0) (F 1) (F 2) h:=by
 intro F h;kernel_rfl
noncomputable def q141_122(C:YC)(lf:Nat)(r:K1)(x0 x1 x2:O)(h:HW):Rs:=
 q141_121 C lf (fun x0 x1 x2 x7 h=>q141_114 C lf r x0 x1 x2 x7 h) x0 x1 x2 h
theorem q141_122_eq(C:YC)(lf:Nat)(r:K1)(KN:KF)(KE:KX): ∀ F h,evX fx141 C lf [1] F h KN (fun F h=>r (F 6) h) KE=q141_122 C lf r (F 0) (F 1) (F 2) h:=cSeq (a:=subX fx141 [1,0]) (b:=subX fx141 [1,1]) (by kernel_rfl) (B:=(fun F h=>q141_114 C lf r (F 0) (F 1) (F 2) (F 7) h)) (q141_114_eq C lf r KN KE) (q141_121_eq C lf (fun x0 x1 x2 x7 h=>q141_114 C lf r x0 x1 x2 x7 h) (fun F h=>r (F 6) h) KE)
noncomputable def q141_123(C:YC)(lf:Nat)(n:K3)(x0 x1 x2:O)(h:HW):Rs:=
 n x0 x1 x2 h
theorem q141_123_eq(C:YC)(lf:Nat)(n:K3)(KR:KF)(KE:KX): ∀ F h,evX fx141 C lf [0] F h (fun F h=>n (F 0) (F 1) (F 2) h) KR KE=q141_123 C lf n (F 0) (F 1) (F 2) h:=by
 intro F h;kernel_rfl
noncomputable def q141_124(C:YC)(lf:Nat)(r:K1)(x0 x1 x2:O)(h:HW):Rs:=
 q141_123 C lf (fun x0 x1 x2 h=>q141_122 C lf r x0 x1 x2 h) x0 x1 x2 h
theorem q141_124_eq(C:YC)(lf:Nat)(r:K1)(KN:KF)(KE:KX): ∀ F h,evX fx141 C lf [] F h KN (fun F h=>r (F 6) h) KE=q141_124 C lf r (F 0) (F 1) (F 2) h:=cSeq (a:=subX fx141 [0]) (b:=subX fx141 [1]) (by kernel_rfl) (B:=(fun F h=>q141_122 C lf r (F 0) (F 1) (F 2) h)) (q141_122_eq C lf r KN KE) (q141_123_eq C lf (fun x0 x1 x2 h=>q141_122 C lf r x0 x1 x2 h) (fun F h=>r (F 6) h) KE)
noncomputable def fs141(C:YC)(lf:Nat)(a0 a1 a2:SV)(h:HW):Rs:=q141_124 C lf ff141 (some a0) (some a1) (some a2) h
theorem fs141_eq(C:YC)(lf:Nat)(a0 a1 a2:SV)(h:HW):yFn Tryz.prog fx141 C lf [a0,a1,a2] h=fs141 C lf a0 a1 a2 h:=fnX (K:=(fun F h=>ff141 (F 6) h)) (by kernel_rfl) (((q141_124_eq C lf ff141 (fun F h=>ff141 (F 6) h) (fun _ _ _=>none)) _ h).trans (by kernel_rfl))
noncomputable def fy141:YX Tryz.prog:=Y3 fx141 fs141 fs141_eq (by kernel_rfl)
noncomputable def fx143:XF Tryz.prog:=⟨143,Tryz.f143,fun r=>bif Nat.beq r 8 then .ord [0,1,2,4,3,6,7,5,8,9,10,11] [(8,[5])] else .text,Tryz.func143,by kernel_rfl,by kernel_rfl,by kernel_rfl,by kernel_rfl⟩
noncomputable def ff143(x4:O)(h:HW):Rs:=
 ob x4 fun a0=>
 some (.ret a0,h)
noncomputable def q143_20(C:YC)(lf:Nat)(r:K1)(x0 x5:O)(h:HW):Rs:=
 ob x0 fun a1=>
 ob x0 fun a2=>
 ob x5 fun a3=>
 ob (fa 1 a3) fun y4=>
 ob x5 fun a5=>
 ob (fa 2 a5) fun y6=>
 ob (ld1 y4 h) fun y7=>
 ob (semNil a1) fun y8=>
 ob (fa 8 y8) fun y9=>
 ob (ld1 y6 h) fun y10=>
 ob (st 1 y9 y7 h) fun h11=>
 ck (chkH [(5,adrO (some y6)),(3,adrO (some y4))] h h11 [5]) <|
 ob (semNil a2) fun y12=>
 ob (fa 9 y12) fun y13=>
 ob (st 1 y13 y10 h11) fun h14=>
 ob x5 fun a15=>
 ob (fa 1 a15) fun y16=>
 ob (ld1 y16 h14) fun y17=>
 ob (lenE Tryz.prog 22 y17) fun y18=>
 ob (bin Tryz.prog .gtr 3 y18 (.int .i64 0)) fun y19=>
 r (some y19) h14
theorem q143_20_eq(C:YC)(lf:Nat)(r:K1)(KN:KF)(KE:KX): ∀ F h,evX fx143 C lf [1,1,1,1,1] F h KN (fun F h=>r (F 4) h) KE=q143_20 C lf r (F 0) (F 5) h:=by
 intro F h;kernel_rfl
noncomputable def q143_72(C:YC)(lf:Nat)(n:K2)(x0 x5:O)(h:HW):Rs:=
 ob x5 fun a21=>
 ob (fa 0 a21) fun y22=>
 ob (ld1 y22 h) fun y23=>
 ob (unE .not y23) fun y24=>
 bc (gd true (some y24) (ob x0 fun a25=>
 some (.ret a25,h)) h) fun y26 h26=>
 bc (gd true (some y24) (ob (semNil y26) fun y27=>
 some (.ret y27,h26)) h26) fun y28 h28=>
 bc (gd true (some y24) (ob (fa 1 y28) fun y29=>
 some (.ret y29,h28)) h28) fun y30 h30=>
 bc (gd true (some y24) (ob (fa 4 y30) fun y31=>
 some (.ret y31,h30)) h30) fun y32 h32=>
 bc (gd true (some y24) (ob (ld1 y32 h32) fun y33=>
 some (.ret y33,h32)) h32) fun y34 h34=>
 bc (gd true (some y24) (ob (bin Tryz.prog .neq 3 y34 (.int .i64 0)) fun y35=>
 some (.ret y35,h34)) h34) fun y36 h36=>
 ob (ypk y24 y36 (.bool false)) fun y37=>
 yIf y37
 (ob x0 fun a38=>
 ob x0 fun a39=>
 ob (semNil a39) fun y40=>
 ob (fa 1 y40) fun y41=>
 ob (fa 4 y41) fun y42=>
 ob (ld1 y42 h36) fun y43=>
 ob (semNil a38) fun y44=>
 ob (fa 7 y44) fun y45=>
 ob (st 1 y45 y43 h36) fun h46=>
 ob x0 fun a47=>
 ob (semNil a47) fun y48=>
 ob (fa 0 y48) fun y49=>
 ob (ld1 y49 h46) fun y50=>
 ob (semNil y50) fun y51=>
 ob (fa 0 y51) fun y52=>
 ob (ld1 y52 h46) fun y53=>
 ob x0 fun a54=>
 ob (semNil a54) fun y55=>
 ob (fa 7 y55) fun y56=>
 ob (ld1 y56 h46) fun y57=>
 bcn (C (.fn 67) [y53,y57] h46) fun y58 h58=>
 ob (unE .not y58) fun y59=>
 bcn (C (.fn 84) [y59,(.int .i64 2)] h58) fun y60 h60=>
 ob x0 fun a61=>
 ob (semNil a61) fun y62=>
 ob (fa 0 y62) fun y63=>
 ob (ld1 y63 h60) fun y64=>
 ob x0 fun a65=>
 ob (semNil a65) fun y66=>
 ob (fa 7 y66) fun y67=>
 ob (ld1 y67 h60) fun y68=>
 bcn (C (.fn 102) [y64,y68] h60) fun y69 h69=>
 ob (bin Tryz.prog .neq 34 y69 (.int .i64 16384)) fun y70=>
 bcn (C (.fn 84) [y70,(.int .i64 20)] h69) fun y71 h71=>
 n x0 x5 h71)
 (n x0 x5 h36)
theorem q143_72_eq(C:YC)(lf:Nat)(n:K2)(KR:KF)(KE:KX): ∀ F h,evX fx143 C lf [1,1,1,1,0] F h (fun F h=>n (F 0) (F 5) h) KR KE=q143_72 C lf n (F 0) (F 5) h:=by
 intro F h;kernel_rfl
noncomputable def q143_73(C:YC)(lf:Nat)(r:K1)(x0 x5:O)(h:HW):Rs:=
 q143_72 C lf (fun x0 x5 h=>q143_20 C lf r x0 x5 h) x0 x5 h
theorem q143_73_eq(C:YC)(lf:Nat)(r:K1)(KN:KF)(KE:KX): ∀ F h,evX fx143 C lf [1,1,1,1] F h KN (fun F h=>r (F 4) h) KE=q143_73 C lf r (F 0) (F 5) h:=cSeq (a:=subX fx143 [1,1,1,1,0]) (b:=subX fx143 [1,1,1,1,1]) (by kernel_rfl) (B:=(fun F h=>q143_20 C lf r (F 0) (F 5) h)) (q143_20_eq C lf r KN KE) (q143_72_eq C lf (fun x0 x5 h=>q143_20 C lf r x0 x5 h) (fun F h=>r (F 4) h) KE)
noncomputable def q143_78(C:YC)(lf:Nat)(n:K2)(x0 x5:O)(h:HW):Rs:=
 ob x0 fun a74=>
 ob (semNil a74) fun y75=>
 ob (fa 7 y75) fun y76=>
 ob (st 1 y76 (.int .i64 1) h) fun h77=>
 n x0 x5 h77
theorem q143_78_eq(C:YC)(lf:Nat)(n:K2)(KR:KF)(KE:KX): ∀ F h,evX fx143 C lf [1,1,1,0] F h (fun F h=>n (F 0) (F 5) h) KR KE=q143_78 C lf n (F 0) (F 5) h:=by
 intro F h;kernel_rfl
noncomputable def q143_79(C:YC)(lf:Nat)(r:K1)(x0 x5:O)(h:HW):Rs:=
 q143_78 C lf (fun x0 x5 h=>q143_73 C lf r x0 x5 h) x0 x5 h
theorem q143_79_eq(C:YC)(lf:Nat)(r:K1)(KN:KF)(KE:KX): ∀ F h,evX fx143 C lf [1,1,1] F h KN (fun F h=>r (F 4) h) KE=q143_79 C lf r (F 0) (F 5) h:=cSeq (a:=subX fx143 [1,1,1,0]) (b:=subX fx143 [1,1,1,1]) (by kernel_rfl) (B:=(fun F h=>q143_73 C lf r (F 0) (F 5) h)) (q143_73_eq C lf r KN KE) (q143_78_eq C lf (fun x0 x5 h=>q143_73 C lf r x0 x5 h) (fun F h=>r (F 4) h) KE)
noncomputable def q143_82(C:YC)(lf:Nat)(n:K2)(x0 x5 x6:O)(h:HW):Rs:=
 ob x6 fun a80=>
 bc (C (.fn 115) [a80] h) fun y81 h81=>
 n x0 x5 h81
theorem q143_82_eq(C:YC)(lf:Nat)(n:K2)(KR:KF)(KE:KX): ∀ F h,evX fx143 C lf [1,1,0] F h (fun F h=>n (F 0) (F 5) h) KR KE=q143_82 C lf n (F 0) (F 5) (F 6) h:=by
 intro F h;kernel_rfl
noncomputable def q143_83(C:YC)(lf:Nat)(r:K1)(x0 x5 x6:O)(h:HW):Rs:=
 q143_82 C lf (fun x0 x5 h=>q143_79 C lf r x0 x5 h) x0 x5 x6 h
theorem q143_83_eq(C:YC)(lf:Nat)(r:K1)(KN:KF)(KE:KX): ∀ F h,evX fx143 C lf [1,1] F h KN (fun F h=>r (F 4) h) KE=q143_83 C lf r (F 0) (F 5) (F 6) h:=cSeq (a:=subX fx143 [1,1,0]) (b:=subX fx143 [1,1,1]) (by kernel_rfl) (B:=(fun F h=>q143_79 C lf r (F 0) (F 5) h)) (q143_79_eq C lf r KN KE) (q143_82_eq C lf (fun x0 x5 h=>q143_79 C lf r x0 x5 h) (fun F h=>r (F 4) h) KE)
noncomputable def q143_90(C:YC)(lf:Nat)(n:K3)(x0 x1:O)(h:HW):Rs:=
 ob x1 fun a84=>
 bc (C (.fn 114) [a84] h) fun y85 h85=>
 ob (ext 0 y85) fun y86=>
 ob (ext 1 y85) fun y87=>
 b2 (yAl Tryz.prog 188 h85) fun y88 h88=>
 ob (st 3 y88 y86 h88) fun h89=>
 n x0 (some y88) (some y87) h89
theorem q143_90_eq(C:YC)(lf:Nat)(n:K3)(KR:KF)(KE:KX): ∀ F h,evX fx143 C lf [1,0] F h (fun F h=>n (F 0) (F 5) (F 6) h) KR KE=q143_90 C lf n (F 0) (F 1) h:=by
 intro F h;kernel_rfl
noncomputable def q143_91(C:YC)(lf:Nat)(r:K1)(x0 x1:O)(h:HW):Rs:=
 q143_90 C lf (fun x0 x5 x6 h=>q143_83 C lf r x0 x5 x6 h) x0 x1 h
theorem q143_91_eq(C:YC)(lf:Nat)(r:K1)(KN:KF)(KE:KX): ∀ F h,evX fx143 C lf [1] F h KN (fun F h=>r (F 4) h) KE=q143_91 C lf r (F 0) (F 1) h:=cSeq (a:=subX fx143 [1,0]) (b:=subX fx143 [1,1]) (by kernel_rfl) (B:=(fun F h=>q143_83 C lf r (F 0) (F 5) (F 6) h)) (q143_83_eq C lf r KN KE) (q143_90_eq C lf (fun x0 x5 x6 h=>q143_83 C lf r x0 x5 x6 h) (fun F h=>r (F 4) h) KE)
noncomputable def q143_92(C:YC)(lf:Nat)(n:K2)(x0 x1:O)(h:HW):Rs:=
 n x0 x1 h
theorem q143_92_eq(C:YC)(lf:Nat)(n:K2)(KR:KF)(KE:KX): ∀ F h,evX fx143 C lf [0] F h (fun F h=>n (F 0) (F 1) h) KR KE=q143_92 C lf n (F 0) (F 1) h:=by
 intro F h;kernel_rfl
noncomputable def q143_93(C:YC)(lf:Nat)(r:K1)(x0 x1:O)(h:HW):Rs:=
 q143_92 C lf (fun x0 x1 h=>q143_91 C lf r x0 x1 h) x0 x1 h
theorem q143_93_eq(C:YC)(lf:Nat)(r:K1)(KN:KF)(KE:KX): ∀ F h,evX fx143 C lf [] F h KN (fun F h=>r (F 4) h) KE=q143_93 C lf r (F 0) (F 1) h:=cSeq (a:=subX fx143 [0]) (b:=subX fx143 [1]) (by kernel_rfl) (B:=(fun F h=>q143_91 C lf r (F 0) (F 1) h)) (q143_91_eq C lf r KN KE) (q143_92_eq C lf (fun x0 x1 h=>q143_91 C lf r x0 x1 h) (fun F h=>r (F 4) h) KE)
noncomputable def fs143(C:YC)(lf:Nat)(a0 a1:SV)(h:HW):Rs:=q143_93 C lf ff143 (some a0) (some a1) h
theorem fs143_eq(C:YC)(lf:Nat)(a0 a1:SV)(h:HW):yFn Tryz.prog fx143 C lf [a0,a1] h=fs143 C lf a0 a1 h:=fnX (K:=(fun F h=>ff143 (F 4) h)) (by kernel_rfl) (((q143_93_eq C lf ff143 (fun F h=>ff143 (F 4) h) (fun _ _ _=>none)) _ h).trans (by kernel_rfl))
noncomputable def fy143:YX Tryz.prog:=Y2 fx143 fs143 fs143_eq (by kernel_rfl)
noncomputable def fx144:XF Tryz.prog:=⟨144,Tryz.f144,fun _=> .text,Tryz.func144,by kernel_rfl,by kernel_rfl,by kernel_rfl,by kernel_rfl⟩
noncomputable def ff144(x4:O)(h:HW):Rs:=
 ob x4 fun a0=>
 some (.ret a0,h)
noncomputable def q144_28(C:YC)(lf:Nat)(r:K1)(x0 x1:O)(h:HW):Rs:=
 ob x1 fun a1=>
 ob (bin Tryz.prog .eql 9 a1 (.str (bs [46]))) fun y2=>
 yIf y2
 (ob x0 fun a3=>
 ob (semNil a3) fun y4=>
 ob (fa 7 y4) fun y5=>
 ob (ld1 y5 h) fun y6=>
 r (some y6) h)
 (ob x0 fun a7=>
 ob (semNil a7) fun y8=>
 ob (fa 0 y8) fun y9=>
 ob (ld1 y9 h) fun y10=>
 ob (semNil y10) fun y11=>
 ob (fa 0 y11) fun y12=>
 ob (ld1 y12 h) fun y13=>
 ob x0 fun a14=>
 ob (semNil a14) fun y15=>
 ob (fa 7 y15) fun y16=>
 ob (ld1 y16 h) fun y17=>
 ob x1 fun a18=>
 bcn (C (.fn 186) [y13,y17,a18] h) fun y19 h19=>
 ob (ext 0 y19) fun y20=>
 ob (ext 1 y19) fun y21=>
 ob (bin Tryz.prog .neq 25 y21 (.int .i64 0)) fun y22=>
 bc (gd true (some y22) (some (.ret y21,h19)) h19) fun y23 h23=>
 bc (gd true (some y22) (ob (bin Tryz.prog .neq 25 y23 (.int .i64 2)) fun y24=>
 some (.ret y24,h23)) h23) fun y25 h25=>
 ob (ypk y22 y25 (.bool false)) fun y26=>
 bc (C (.fn 84) [y26,y21] h25) fun y27 h27=>
 r (some y20) h27)
theorem q144_28_eq(C:YC)(lf:Nat)(r:K1)(KN:KF)(KE:KX): ∀ F h,evX fx144 C lf [] F h KN (fun F h=>r (F 4) h) KE=q144_28 C lf r (F 0) (F 1) h:=by
 intro F h;kernel_rfl
noncomputable def fs144(C:YC)(lf:Nat)(a0 a1:SV)(h:HW):Rs:=q144_28 C lf ff144 (some a0) (some a1) h
theorem fs144_eq(C:YC)(lf:Nat)(a0 a1:SV)(h:HW):yFn Tryz.prog fx144 C lf [a0,a1] h=fs144 C lf a0 a1 h:=fnX (K:=(fun F h=>ff144 (F 4) h)) (by kernel_rfl) (((q144_28_eq C lf ff144 (fun F h=>ff144 (F 4) h) (fun _ _ _=>none)) _ h).trans (by kernel_rfl))
noncomputable def fy144:YX Tryz.prog:=Y2 fx144 fs144 fs144_eq (by kernel_rfl)
noncomputable def fx147:XF Tryz.prog:=⟨147,Tryz.f147,fun _=> .text,Tryz.func147,by kernel_rfl,by kernel_rfl,by kernel_rfl,by kernel_rfl⟩
noncomputable def fx148:XF Tryz.prog:=⟨148,Tryz.f148,fun _=> .text,Tryz.func148,by kernel_rfl,by kernel_rfl,by kernel_rfl,by kernel_rfl⟩
noncomputable def ff148(h:HW):Rs:=
 some (.ret (.tup []),h)
noncomputable def q148_9(C:YC)(lf:Nat)(n:K0)(x0 x1:O)(h:HW):Rs:=
 ob x0 fun a0=>
 ob x0 fun a1=>
 ob (semNil a1) fun y2=>
 ob (ld1 y2 h) fun y3=>
 ob x1 fun a4=>
 b2 (ybs Tryz.prog 227 1 [0] [a4] h) fun y5 h5=>
 b2 (ybl Tryz.prog .append #[227,227] [y3,y5] h5) fun y6 h6=>
 ob (semNil a0) fun y7=>
 ob (st 1 y7 y6 h6) fun h8=>
 n h8
theorem q148_9_eq(C:YC)(lf:Nat)(n:K0)(KR:KF)(KE:KX): ∀ F h,evX fx148 C lf [] F h (fun F h=>n h) KR KE=q148_9 C lf n (F 0) (F 1) h:=by
 intro F h;kernel_rfl
noncomputable def fs148(C:YC)(lf:Nat)(a0 a1:SV)(h:HW):Rs:=q148_9 C lf ff148 (some a0) (some a1) h
theorem fs148_eq(C:YC)(lf:Nat)(a0 a1:SV)(h:HW):yFn Tryz.prog fx148 C lf [a0,a1] h=fs148 C lf a0 a1 h:=fnX (K:=(fun F h=>ff148 h)) (by kernel_rfl) (((q148_9_eq C lf ff148 (fun F h=>ff148 h) (fun _ _ _=>none)) _ h).trans (by kernel_rfl))
noncomputable def fy148:YX Tryz.prog:=Y2 fx148 fs148 fs148_eq (by kernel_rfl)
noncomputable def fx151:XF Tryz.prog:=⟨151,Tryz.f151,fun _=> .text,Tryz.func151,by kernel_rfl,by kernel_rfl,by kernel_rfl,by kernel_rfl⟩
noncomputable def ff151(x6 x7:O)(h:HW):Rs:=
 ob x6 fun a0=>
 ob x7 fun a1=>
 some (.ret (.tup [a0,a1]),h)
noncomputable def q151_18(C:YC)(lf:Nat)(r:K2)(x0 x1 x2:O)(h:HW):Rs:=
 ob x0 fun a2=>
 ob x1 fun a3=>
 ob x2 fun a4=>
 bc (C (.fn 157) [a2,a3,a4] h) fun y5 h5=>
 ob (bin Tryz.prog .neq 3 y5 (.int .i64 0)) fun y6=>
 yIf y6
 (r (some (.int .i64 0)) (some y5) h5)
 (ob x0 fun a7=>
 ob x1 fun a8=>
 ob x2 fun a9=>
 bc (C (.fn 158) [a7,a8,a9] h5) fun y10 h10=>
 ob (bin Tryz.prog .lss 3 y10 (.int .i64 0)) fun y11=>
 yIf y11
 (r (some (.int .i64 0)) (some (.int .i64 2)) h10)
 (ob x0 fun a12=>
 ob x1 fun a13=>
 bc (C (.fn 159) [a12,a13] h10) fun y14 h14=>
 ob (ixS 1 y14 y10) fun y15=>
 ob (ld1 y15 h14) fun y16=>
 bc (C (.fn 160) [y16] h14) fun y17 h17=>
 r (some y17) (some (.int .i64 0)) h17))
theorem q151_18_eq(C:YC)(lf:Nat)(r:K2)(KN:KF)(KE:KX): ∀ F h,evX fx151 C lf [] F h KN (fun F h=>r (F 6) (F 7) h) KE=q151_18 C lf r (F 0) (F 1) (F 2) h:=by
 intro F h;kernel_rfl
noncomputable def fs151(C:YC)(lf:Nat)(a0 a1 a2:SV)(h:HW):Rs:=q151_18 C lf ff151 (some a0) (some a1) (some a2) h
theorem fs151_eq(C:YC)(lf:Nat)(a0 a1 a2:SV)(h:HW):yFn Tryz.prog fx151 C lf [a0,a1,a2] h=fs151 C lf a0 a1 a2 h:=fnX (K:=(fun F h=>ff151 (F 6) (F 7) h)) (by kernel_rfl) (((q151_18_eq C lf ff151 (fun F h=>ff151 (F 6) (F 7) h) (fun _ _ _=>none)) _ h).trans (by kernel_rfl))
noncomputable def fy151:YX Tryz.prog:=Y3 fx151 fs151 fs151_eq (by kernel_rfl)
noncomputable def fx154:XF Tryz.prog:=⟨154,Tryz.f154,fun _=> .text,Tryz.func154,by kernel_rfl,by kernel_rfl,by kernel_rfl,by kernel_rfl⟩
noncomputable def ff154(x10:O)(h:HW):Rs:=
 ob x10 fun a0=>
 some (.ret a0,h)
noncomputable def q154_42(C:YC)(lf:Nat)(r:K1)(x0 x1 x2 x3 x4:O)(h:HW):Rs:=
 ob x3 fun a1=>
 b2 (ybx 48 a1 h) fun y2 h2=>
 ob x4 fun a3=>
 ob (bin Tryz.prog .and 3 a3 (.int .i64 7)) fun y4=>
 ob (fa 0 y2) fun y5=>
 ob (ld1 y5 h2) fun y6=>
 ob (bin Tryz.prog .eql 3 y6 (.int .i64 0)) fun y7=>
 yIf y7
 (ob (bin Tryz.prog .and 34 y4 (.int .i64 1)) fun y8=>
 ob (bin Tryz.prog .eql 34 y8 (.int .i64 0)) fun y9=>
 bc (gd false (some y9) (ob x0 fun a10=>
 some (.ret a10,h2)) h2) fun y11 h11=>
 bc (gd false (some y9) (ob (bin Tryz.prog .and 34 y11 (.int .i64 61440)) fun y12=>
 some (.ret y12,h11)) h11) fun y13 h13=>
 bc (gd false (some y9) (ob (bin Tryz.prog .eql 34 y13 (.int .i64 16384)) fun y14=>
 some (.ret y14,h13)) h13) fun y15 h15=>
 ob (ypk y9 (.bool true) y15) fun y16=>
 bc (gd false (some y16) (ob x0 fun a17=>
 some (.ret a17,h15)) h15) fun y18 h18=>
 bc (gd false (some y16) (ob (bin Tryz.prog .and 34 y18 (.int .i64 73)) fun y19=>
 some (.ret y19,h18)) h18) fun y20 h20=>
 bc (gd false (some y16) (ob (bin Tryz.prog .neq 34 y20 (.int .i64 0)) fun y21=>
 some (.ret y21,h20)) h20) fun y22 h22=>
 ob (ypk y16 (.bool true) y22) fun y23=>
 r (some y23) h22)
 (ob (fa 0 y2) fun y24=>
 ob (ld1 y24 h2) fun y25=>
 ob x1 fun a26=>
 ob (bin Tryz.prog .eql 3 y25 a26) fun y27=>
 yIf y27
 (ob x0 fun a28=>
 ob (bin Tryz.prog .shr 34 a28 (.int .u64 6)) fun y29=>
 ob (bin Tryz.prog .and 34 y29 y4) fun y30=>
 ob (bin Tryz.prog .eql 34 y30 y4) fun y31=>
 r (some y31) h2)
 (ob (ldN 5 y2 h2) fun y32=>
 ob x2 fun a33=>
 bc (C (.fn 126) [y32,a33] h2) fun y34 h34=>
 yIf y34
 (ob x0 fun a35=>
 ob (bin Tryz.prog .shr 34 a35 (.int .u64 3)) fun y36=>
 ob (bin Tryz.prog .and 34 y36 y4) fun y37=>
 ob (bin Tryz.prog .eql 34 y37 y4) fun y38=>
 r (some y38) h34)
 (ob x0 fun a39=>
 ob (bin Tryz.prog .and 34 a39 y4) fun y40=>
 ob (bin Tryz.prog .eql 34 y40 y4) fun y41=>
 r (some y41) h34)))
theorem q154_42_eq(C:YC)(lf:Nat)(r:K1)(KN:KF)(KE:KX): ∀ F h,evX fx154 C lf [] F h KN (fun F h=>r (F 10) h) KE=q154_42 C lf r (F 0) (F 1) (F 2) (F 3) (F 4) h:=by
 intro F h;kernel_rfl
noncomputable def fs154(C:YC)(lf:Nat)(a0 a1 a2 a3 a4:SV)(h:HW):Rs:=q154_42 C lf ff154 (some a0) (some a1) (some a2) (some a3) (some a4) h
theorem fs154_eq(C:YC)(lf:Nat)(a0 a1 a2 a3 a4:SV)(h:HW):yFn Tryz.prog fx154 C lf [a0,a1,a2,a3,a4] h=fs154 C lf a0 a1 a2 a3 a4 h:=fnX (K:=(fun F h=>ff154 (F 10) h)) (by kernel_rfl) (((q154_42_eq C lf ff154 (fun F h=>ff154 (F 10) h) (fun _ _ _=>none)) _ h).trans (by kernel_rfl))
noncomputable def fy154:YX Tryz.prog:=Y5 fx154 fs154 fs154_eq (by kernel_rfl)
noncomputable def fx155:XF Tryz.prog:=⟨155,Tryz.f155,fun _=> .text,Tryz.func155,by kernel_rfl,by kernel_rfl,by kernel_rfl,by kernel_rfl⟩
noncomputable def ff155(x4:O)(h:HW):Rs:=
 ob x4 fun a0=>
 some (.ret a0,h)
noncomputable def q155_33(C:YC)(lf:Nat)(r:K1)(x0 x1:O)(h:HW):Rs:=
 ob x0 fun a1=>
 ob (semNil a1) fun y2=>
 ob (fa 0 y2) fun y3=>
 ob (ld1 y3 h) fun y4=>
 ob x1 fun a5=>
 bc (C (.fn 189) [y4,a5] h) fun y6 h6=>
 ob (ext 0 y6) fun y7=>
 ob (ext 1 y6) fun y8=>
 ob (bin Tryz.prog .gtr 3 y7 (.int .i64 0)) fun y9=>
 yIf y9
 (r (some (.int .i64 0)) h6)
 (ob x0 fun a10=>
 ob (semNil a10) fun y11=>
 ob (fa 0 y11) fun y12=>
 ob (ld1 y12 h6) fun y13=>
 ob (semNil y13) fun y14=>
 ob (fa 4 y14) fun y15=>
 ob (ld1 y15 h6) fun y16=>
 ob x1 fun a17=>
 ob (ixS 308 y16 a17) fun y18=>
 ob (fa 1 y18) fun y19=>
 ob (fa 4 y19) fun y20=>
 ob (ld1 y20 h6) fun y21=>
 ob (bin Tryz.prog .quo 3 y21 (.int .i64 32)) fun y22=>
 ob (bin Tryz.prog .mul 3 y22 (.int .i64 32)) fun y23=>
 ob (bin Tryz.prog .add 3 y23 (.int .i64 32)) fun y24=>
 ob (bin Tryz.prog .gtr 3 y24 (.int .i64 17792)) fun y25=>
 yIf y25
 (r (some (.int .i64 (-1))) h6)
 (ob x0 fun a26=>
 ob (semNil a26) fun y27=>
 ob (fa 0 y27) fun y28=>
 ob (ld1 y28 h6) fun y29=>
 ob x1 fun a30=>
 ob (bin Tryz.prog .quo 3 y23 (.int .i64 64)) fun y31=>
 bc (C (.fn 183) [y29,a30,y31] h6) fun y32 h32=>
 r (some y32) h32))
theorem q155_33_eq(C:YC)(lf:Nat)(r:K1)(KN:KF)(KE:KX): ∀ F h,evX fx155 C lf [] F h KN (fun F h=>r (F 4) h) KE=q155_33 C lf r (F 0) (F 1) h:=by
 intro F h;kernel_rfl
noncomputable def fs155(C:YC)(lf:Nat)(a0 a1:SV)(h:HW):Rs:=q155_33 C lf ff155 (some a0) (some a1) h
theorem fs155_eq(C:YC)(lf:Nat)(a0 a1:SV)(h:HW):yFn Tryz.prog fx155 C lf [a0,a1] h=fs155 C lf a0 a1 h:=fnX (K:=(fun F h=>ff155 (F 4) h)) (by kernel_rfl) (((q155_33_eq C lf ff155 (fun F h=>ff155 (F 4) h) (fun _ _ _=>none)) _ h).trans (by kernel_rfl))
noncomputable def fy155:YX Tryz.prog:=Y2 fx155 fs155 fs155_eq (by kernel_rfl)
noncomputable def fx156:XF Tryz.prog:=⟨156,Tryz.f156,fun _=> .text,Tryz.func156,by kernel_rfl,by kernel_rfl,by kernel_rfl,by kernel_rfl⟩
noncomputable def ff156(x2:O)(h:HW):Rs:=
 ob x2 fun a0=>
 some (.ret a0,h)
noncomputable def q156_2(C:YC)(lf:Nat)(r:K1)(x3:O)(h:HW):Rs:=
 ob x3 fun a1=>
 r (some a1) h
theorem q156_2_eq(C:YC)(lf:Nat)(r:K1)(KN:KF)(KE:KX): ∀ F h,evX fx156 C lf [1,1,1] F h KN (fun F h=>r (F 2) h) KE=q156_2 C lf r (F 3) h:=by
 intro F h;kernel_rfl
noncomputable def q156_18(C:YC)(lf:Nat)(n:K4)(e0:K1)(x3 x9 x10 x11:O)(h:HW):Rs:=
 ob x11 fun a4=>
 ob x10 fun a5=>
 ob (bin Tryz.prog .lss 3 a4 a5) fun y6=>
 yIf y6
 (ob x9 fun a7=>
 ob x11 fun a8=>
 ob (ixS 1 a7 a8) fun y9=>
 ob (ld1 y9 h) fun y10=>
 ob (unE .not y10) fun y11=>
 yIf y11
 (ob x3 fun a12=>
 ob (bin Tryz.prog .add 3 a12 (.int .i64 1)) fun y13=>
 ob x11 fun a14=>
 ob (bin Tryz.prog .add 3 a14 (.int .i64 1)) fun y15=>
 n (some y13) x9 x10 (some y15) h)
 (ob x11 fun a16=>
 ob (bin Tryz.prog .add 3 a16 (.int .i64 1)) fun y17=>
 n x3 x9 x10 (some y17) h))
 (e0 x3 h)
theorem q156_18_eq(C:YC)(lf:Nat)(n:K4)(e0:K1)(KR:KF)(KE:KX): ∀ F h,evX fx156 C lf [1,1,0,1,0,0] F h (fun F h=>n (F 3) (F 9) (F 10) (F 11) h) KR (bk 0 (fun F h=>e0 (F 3) h) KE)=q156_18 C lf n e0 (F 3) (F 9) (F 10) (F 11) h:=by
 intro F h;kernel_rfl
noncomputable def l156_3(C:YC)(lf:Nat)(e0:K1)(k:O × O × O × O→HW→Rs)(s:O × O × O × O)(h:HW):Rs:=
 q156_18 C lf (fun x3 x9 x10 x11 h=>k (x3,x9,x10,x11) h) e0 s.1 s.2.1 s.2.2.1 s.2.2.2 h
noncomputable def q156_24(C:YC)(lf:Nat)(n:K4)(x0 x3:O)(h:HW):Rs:=
 ob x0 fun a19=>
 ob (semNil a19) fun y20=>
 ob (fa 0 y20) fun y21=>
 ob (ld1 y21 h) fun y22=>
 ob (lenE Tryz.prog 146 y22) fun y23=>
 n x3 (some y22) (some y23) (some (.int .i64 0)) h
theorem q156_24_eq(C:YC)(lf:Nat)(n:K4)(KR:KF)(KE:KX): ∀ F h,evX fx156 C lf [1,1,0,0] F h (fun F h=>n (F 3) (F 9) (F 10) (F 11) h) KR KE=q156_24 C lf n (F 0) (F 3) h:=by
 intro F h;kernel_rfl
noncomputable def q156_25(C:YC)(lf:Nat)(n:K1)(x0 x3:O)(h:HW):Rs:=
 q156_24 C lf (fun x3 x9 x10 x11 h=>lp (l156_3 C lf n) lf (x3,x9,x10,x11) h) x0 x3 h
theorem q156_25_eq(C:YC)(lf:Nat)(n:K1)(KR:KF)(KE:KX): ∀ F h,evX fx156 C lf [1,1,0] F h (fun F h=>n (F 3) h) KR KE=q156_25 C lf n (F 0) (F 3) h:=cSeq (a:=subX fx156 [1,1,0,0]) (b:=subX fx156 [1,1,0,1]) (by kernel_rfl) (B:=(fun F h=>lp (l156_3 C lf n) lf ((F 3),(F 9),(F 10),(F 11)) h)) (cBlock (id:=0) (a:=subX fx156 [1,1,0,1,0]) (by kernel_rfl) (cLoop (a:=subX fx156 [1,1,0,1,0,0]) (g:=fun F=>(F 3,F 9,F 10,F 11)) (body:=l156_3 C lf n) (by kernel_rfl) (fun k=>(q156_18_eq C lf (fun x3 x9 x10 x11 h=>k (x3,x9,x10,x11) h) n KR KE)))) (q156_24_eq C lf (fun x3 x9 x10 x11 h=>lp (l156_3 C lf n) lf (x3,x9,x10,x11) h) KR KE)
noncomputable def q156_26(C:YC)(lf:Nat)(r:K1)(x0 x3:O)(h:HW):Rs:=
 q156_25 C lf (fun x3 h=>q156_2 C lf r x3 h) x0 x3 h
theorem q156_26_eq(C:YC)(lf:Nat)(r:K1)(KN:KF)(KE:KX): ∀ F h,evX fx156 C lf [1,1] F h KN (fun F h=>r (F 2) h) KE=q156_26 C lf r (F 0) (F 3) h:=cSeq (a:=subX fx156 [1,1,0]) (b:=subX fx156 [1,1,1]) (by kernel_rfl) (B:=(fun F h=>q156_2 C lf r (F 3) h)) (q156_2_eq C lf r KN KE) (q156_25_eq C lf (fun x3 h=>q156_2 C lf r x3 h) (fun F h=>r (F 2) h) KE)
noncomputable def q156_27(C:YC)(lf:Nat)(n:K2)(x0:O)(h:HW):Rs:=
 n x0 (some (.int .i64 0)) h
theorem q156_27_eq(C:YC)(lf:Nat)(n:K2)(KR:KF)(KE:KX): ∀ F h,evX fx156 C lf [1,0] F h (fun F h=>n (F 0) (F 3) h) KR KE=q156_27 C lf n (F 0) h:=by
 intro F h;kernel_rfl
noncomputable def q156_28(C:YC)(lf:Nat)(r:K1)(x0:O)(h:HW):Rs:=
 q156_27 C lf (fun x0 x3 h=>q156_26 C lf r x0 x3 h) x0 h
theorem q156_28_eq(C:YC)(lf:Nat)(r:K1)(KN:KF)(KE:KX): ∀ F h,evX fx156 C lf [1] F h KN (fun F h=>r (F 2) h) KE=q156_28 C lf r (F 0) h:=cSeq (a:=subX fx156 [1,0]) (b:=subX fx156 [1,1]) (by kernel_rfl) (B:=(fun F h=>q156_26 C lf r (F 0) (F 3) h)) (q156_26_eq C lf r KN KE) (q156_27_eq C lf (fun x0 x3 h=>q156_26 C lf r x0 x3 h) (fun F h=>r (F 2) h) KE)
noncomputable def q156_29(C:YC)(lf:Nat)(n:K1)(x0:O)(h:HW):Rs:=
 n x0 h
theorem q156_29_eq(C:YC)(lf:Nat)(n:K1)(KR:KF)(KE:KX): ∀ F h,evX fx156 C lf [0] F h (fun F h=>n (F 0) h) KR KE=q156_29 C lf n (F 0) h:=by
 intro F h;kernel_rfl
noncomputable def q156_30(C:YC)(lf:Nat)(r:K1)(x0:O)(h:HW):Rs:=
 q156_29 C lf (fun x0 h=>q156_28 C lf r x0 h) x0 h
theorem q156_30_eq(C:YC)(lf:Nat)(r:K1)(KN:KF)(KE:KX): ∀ F h,evX fx156 C lf [] F h KN (fun F h=>r (F 2) h) KE=q156_30 C lf r (F 0) h:=cSeq (a:=subX fx156 [0]) (b:=subX fx156 [1]) (by kernel_rfl) (B:=(fun F h=>q156_28 C lf r (F 0) h)) (q156_28_eq C lf r KN KE) (q156_29_eq C lf (fun x0 h=>q156_28 C lf r x0 h) (fun F h=>r (F 2) h) KE)
noncomputable def fs156(C:YC)(lf:Nat)(a0:SV)(h:HW):Rs:=q156_30 C lf ff156 (some a0) h
theorem fs156_eq(C:YC)(lf:Nat)(a0:SV)(h:HW):yFn Tryz.prog fx156 C lf [a0] h=fs156 C lf a0 h:=fnX (K:=(fun F h=>ff156 (F 2) h)) (by kernel_rfl) (((q156_30_eq C lf ff156 (fun F h=>ff156 (F 2) h) (fun _ _ _=>none)) _ h).trans (by kernel_rfl))
noncomputable def fy156:YX Tryz.prog:=Y1 fx156 fs156 fs156_eq (by kernel_rfl)
noncomputable def fx157:XF Tryz.prog:=⟨157,Tryz.f157,fun _=> .text,Tryz.func157,by kernel_rfl,by kernel_rfl,by kernel_rfl,by kernel_rfl⟩
noncomputable def ff157(x6:O)(h:HW):Rs:=
 ob x6 fun a0=>
 some (.ret a0,h)
noncomputable def q157_7(C:YC)(lf:Nat)(r:K1)(x0 x1 x2:O)(h:HW):Rs:=
 ob x0 fun a1=>
 ob x1 fun a2=>
 bc (C (.fn 74) [a1,a2] h) fun y3 h3=>
 ob (bin Tryz.prog .eql 3 y3 (.int .i64 0)) fun y4=>
 yIf y4
 (ob x2 fun a5=>
 bc (C (.fn 190) [a5] h3) fun y6 h6=>
 r (some y6) h6)
 (r (some y3) h3)
theorem q157_7_eq(C:YC)(lf:Nat)(r:K1)(KN:KF)(KE:KX): ∀ F h,evX fx157 C lf [] F h KN (fun F h=>r (F 6) h) KE=q157_7 C lf r (F 0) (F 1) (F 2) h:=by
 intro F h;kernel_rfl
noncomputable def fs157(C:YC)(lf:Nat)(a0 a1 a2:SV)(h:HW):Rs:=q157_7 C lf ff157 (some a0) (some a1) (some a2) h
theorem fs157_eq(C:YC)(lf:Nat)(a0 a1 a2:SV)(h:HW):yFn Tryz.prog fx157 C lf [a0,a1,a2] h=fs157 C lf a0 a1 a2 h:=fnX (K:=(fun F h=>ff157 (F 6) h)) (by kernel_rfl) (((q157_7_eq C lf ff157 (fun F h=>ff157 (F 6) h) (fun _ _ _=>none)) _ h).trans (by kernel_rfl))
noncomputable def fy157:YX Tryz.prog:=Y3 fx157 fs157 fs157_eq (by kernel_rfl)
noncomputable def fx158:XF Tryz.prog:=⟨158,Tryz.f158,fun _=> .text,Tryz.func158,by kernel_rfl,by kernel_rfl,by kernel_rfl,by kernel_rfl⟩
noncomputable def ff158(x6:O)(h:HW):Rs:=
 ob x6 fun a0=>
 some (.ret a0,h)
noncomputable def q158_1(C:YC)(lf:Nat)(r:K1)(h:HW):Rs:=
 r (some (.int .i64 (-1))) h
theorem q158_1_eq(C:YC)(lf:Nat)(r:K1)(KN:KF)(KE:KX): ∀ F h,evX fx158 C lf [1,1] F h KN (fun F h=>r (F 6) h) KE=q158_1 C lf r h:=by
 intro F h;kernel_rfl
noncomputable def q158_23(C:YC)(lf:Nat)(n:K4)(r:K1)(e0:K0)(x2 x11 x12 x13:O)(h:HW):Rs:=
 ob x13 fun a3=>
 ob x12 fun a4=>
 ob (bin Tryz.prog .lss 3 a3 a4) fun y5=>
 yIf y5
 (ob x13 fun a6=>
 ob x11 fun a7=>
 ob x13 fun a8=>
 ob (ixS 1 a7 a8) fun y9=>
 ob (ld1 y9 h) fun y10=>
 bc (C (.fn 160) [y10] h) fun y11 h11=>
 ob (bin Tryz.prog .gtr 3 y11 (.int .i64 0)) fun y12=>
 bc (gd true (some y12) (some (.ret y10,h11)) h11) fun y13 h13=>
 bc (gd true (some y12) (bc (C (.fn 191) [y13] h13) fun y14 h14=>
 some (.ret y14,h14)) h13) fun y15 h15=>
 bc (gd true (some y12) (ob x2 fun a16=>
 some (.ret a16,h15)) h15) fun y17 h17=>
 bc (gd true (some y12) (ob (bin Tryz.prog .eql 9 y15 y17) fun y18=>
 some (.ret y18,h17)) h17) fun y19 h19=>
 ob (ypk y12 y19 (.bool false)) fun y20=>
 yIf y20
 (r (some a6) h19)
 (ob x13 fun a21=>
 ob (bin Tryz.prog .add 3 a21 (.int .i64 1)) fun y22=>
 n x2 x11 x12 (some y22) h19))
 (e0 h)
theorem q158_23_eq(C:YC)(lf:Nat)(n:K4)(r:K1)(e0:K0)(KE:KX): ∀ F h,evX fx158 C lf [1,0,1,0,0] F h (fun F h=>n (F 2) (F 11) (F 12) (F 13) h) (fun F h=>r (F 6) h) (bk 0 (fun F h=>e0 h) KE)=q158_23 C lf n r e0 (F 2) (F 11) (F 12) (F 13) h:=by
 intro F h;kernel_rfl
noncomputable def l158_2(C:YC)(lf:Nat)(r:K1)(e0:K0)(k:O × O × O × O→HW→Rs)(s:O × O × O × O)(h:HW):Rs:=
 q158_23 C lf (fun x2 x11 x12 x13 h=>k (x2,x11,x12,x13) h) r e0 s.1 s.2.1 s.2.2.1 s.2.2.2 h
noncomputable def q158_28(C:YC)(lf:Nat)(n:K4)(x0 x1 x2:O)(h:HW):Rs:=
 ob x0 fun a24=>
 ob x1 fun a25=>
 bc (C (.fn 159) [a24,a25] h) fun y26 h26=>
 ob (lenE Tryz.prog 147 y26) fun y27=>
 n x2 (some y26) (some y27) (some (.int .i64 0)) h26
theorem q158_28_eq(C:YC)(lf:Nat)(n:K4)(KR:KF)(KE:KX): ∀ F h,evX fx158 C lf [1,0,0] F h (fun F h=>n (F 2) (F 11) (F 12) (F 13) h) KR KE=q158_28 C lf n (F 0) (F 1) (F 2) h:=by
 intro F h;kernel_rfl
noncomputable def q158_29(C:YC)(lf:Nat)(n:K0)(r:K1)(x0 x1 x2:O)(h:HW):Rs:=
 q158_28 C lf (fun x2 x11 x12 x13 h=>lp (l158_2 C lf r n) lf (x2,x11,x12,x13) h) x0 x1 x2 h
theorem q158_29_eq(C:YC)(lf:Nat)(n:K0)(r:K1)(KE:KX): ∀ F h,evX fx158 C lf [1,0] F h (fun F h=>n h) (fun F h=>r (F 6) h) KE=q158_29 C lf n r (F 0) (F 1) (F 2) h:=cSeq (a:=subX fx158 [1,0,0]) (b:=subX fx158 [1,0,1]) (by kernel_rfl) (B:=(fun F h=>lp (l158_2 C lf r n) lf ((F 2),(F 11),(F 12),(F 13)) h)) (cBlock (id:=0) (a:=subX fx158 [1,0,1,0]) (by kernel_rfl) (cLoop (a:=subX fx158 [1,0,1,0,0]) (g:=fun F=>(F 2,F 11,F 12,F 13)) (body:=l158_2 C lf r n) (by kernel_rfl) (fun k=>(q158_23_eq C lf (fun x2 x11 x12 x13 h=>k (x2,x11,x12,x13) h) r n KE)))) (q158_28_eq C lf (fun x2 x11 x12 x13 h=>lp (l158_2 C lf r n) lf (x2,x11,x12,x13) h) (fun F h=>r (F 6) h) KE)
noncomputable def q158_30(C:YC)(lf:Nat)(r:K1)(x0 x1 x2:O)(h:HW):Rs:=
 q158_29 C lf (fun h=>q158_1 C lf r h) r x0 x1 x2 h
theorem q158_30_eq(C:YC)(lf:Nat)(r:K1)(KN:KF)(KE:KX): ∀ F h,evX fx158 C lf [1] F h KN (fun F h=>r (F 6) h) KE=q158_30 C lf r (F 0) (F 1) (F 2) h:=cSeq (a:=subX fx158 [1,0]) (b:=subX fx158 [1,1]) (by kernel_rfl) (B:=(fun F h=>q158_1 C lf r h)) (q158_1_eq C lf r KN KE) (q158_29_eq C lf (fun h=>q158_1 C lf r h) r KE)
noncomputable def q158_31(C:YC)(lf:Nat)(n:K3)(x0 x1 x2:O)(h:HW):Rs:=
 n x0 x1 x2 h
theorem q158_31_eq(C:YC)(lf:Nat)(n:K3)(KR:KF)(KE:KX): ∀ F h,evX fx158 C lf [0] F h (fun F h=>n (F 0) (F 1) (F 2) h) KR KE=q158_31 C lf n (F 0) (F 1) (F 2) h:=by
 intro F h;kernel_rfl
noncomputable def q158_32(C:YC)(lf:Nat)(r:K1)(x0 x1 x2:O)(h:HW):Rs:=
 q158_31 C lf (fun x0 x1 x2 h=>q158_30 C lf r x0 x1 x2 h) x0 x1 x2 h
theorem q158_32_eq(C:YC)(lf:Nat)(r:K1)(KN:KF)(KE:KX): ∀ F h,evX fx158 C lf [] F h KN (fun F h=>r (F 6) h) KE=q158_32 C lf r (F 0) (F 1) (F 2) h:=cSeq (a:=subX fx158 [0]) (b:=subX fx158 [1]) (by kernel_rfl) (B:=(fun F h=>q158_30 C lf r (F 0) (F 1) (F 2) h)) (q158_30_eq C lf r KN KE) (q158_31_eq C lf (fun x0 x1 x2 h=>q158_30 C lf r x0 x1 x2 h) (fun F h=>r (F 6) h) KE)
noncomputable def fs158(C:YC)(lf:Nat)(a0 a1 a2:SV)(h:HW):Rs:=q158_32 C lf ff158 (some a0) (some a1) (some a2) h
theorem fs158_eq(C:YC)(lf:Nat)(a0 a1 a2:SV)(h:HW):yFn Tryz.prog fx158 C lf [a0,a1,a2] h=fs158 C lf a0 a1 a2 h:=fnX (K:=(fun F h=>ff158 (F 6) h)) (by kernel_rfl) (((q158_32_eq C lf ff158 (fun F h=>ff158 (F 6) h) (fun _ _ _=>none)) _ h).trans (by kernel_rfl))
noncomputable def fy158:YX Tryz.prog:=Y3 fx158 fs158 fs158_eq (by kernel_rfl)
noncomputable def fx159:XF Tryz.prog:=⟨159,Tryz.f159,fun _=> .text,Tryz.func159,by kernel_rfl,by kernel_rfl,by kernel_rfl,by kernel_rfl⟩
noncomputable def ff159(x4:O)(h:HW):Rs:=
 ob x4 fun a0=>
 some (.ret a0,h)
noncomputable def q159_2(C:YC)(lf:Nat)(r:K1)(x7:O)(h:HW):Rs:=
 ob x7 fun a1=>
 r (some a1) h
theorem q159_2_eq(C:YC)(lf:Nat)(r:K1)(KN:KF)(KE:KX): ∀ F h,evX fx159 C lf [1,1,1,1] F h KN (fun F h=>r (F 4) h) KE=q159_2 C lf r (F 7) h:=by
 intro F h;kernel_rfl
noncomputable def q159_14(C:YC)(lf:Nat)(n:K2)(e0:K1)(x5 x7:O)(h:HW):Rs:=
 ob x5 fun a4=>
 ob (lenE Tryz.prog 35 a4) fun y5=>
 ob (bin Tryz.prog .geq 3 y5 (.int .i64 32)) fun y6=>
 yIf y6
 (ob x7 fun a7=>
 ob x5 fun a8=>
 ob (semSlice Tryz.prog 35 a8 none (some (.int .i64 32))) fun y9=>
 b2 (ybs Tryz.prog 147 1 [0] [y9] h) fun y10 h10=>
 b2 (ybl Tryz.prog .append #[147,147] [a7,y10] h10) fun y11 h11=>
 ob x5 fun a12=>
 ob (semSlice Tryz.prog 35 a12 (some (.int .i64 32)) none) fun y13=>
 n (some y13) (some y11) h11)
 (e0 x7 h)
theorem q159_14_eq(C:YC)(lf:Nat)(n:K2)(e0:K1)(KR:KF)(KE:KX): ∀ F h,evX fx159 C lf [1,1,1,0,0,0] F h (fun F h=>n (F 5) (F 7) h) KR (bk 0 (fun F h=>e0 (F 7) h) KE)=q159_14 C lf n e0 (F 5) (F 7) h:=by
 intro F h;kernel_rfl
noncomputable def l159_3(C:YC)(lf:Nat)(e0:K1)(k:O × O→HW→Rs)(s:O × O)(h:HW):Rs:=
 q159_14 C lf (fun x5 x7 h=>k (x5,x7) h) e0 s.1 s.2 h
noncomputable def q159_15(C:YC)(lf:Nat)(r:K1)(x5 x7:O)(h:HW):Rs:=
 lp (l159_3 C lf (fun x7 h=>q159_2 C lf r x7 h)) lf (x5,x7) h
theorem q159_15_eq(C:YC)(lf:Nat)(r:K1)(KN:KF)(KE:KX): ∀ F h,evX fx159 C lf [1,1,1] F h KN (fun F h=>r (F 4) h) KE=q159_15 C lf r (F 5) (F 7) h:=cSeq (a:=subX fx159 [1,1,1,0]) (b:=subX fx159 [1,1,1,1]) (by kernel_rfl) (B:=(fun F h=>q159_2 C lf r (F 7) h)) (q159_2_eq C lf r KN KE) (cBlock (id:=0) (a:=subX fx159 [1,1,1,0,0]) (by kernel_rfl) (cLoop (a:=subX fx159 [1,1,1,0,0,0]) (g:=fun F=>(F 5,F 7)) (body:=l159_3 C lf (fun x7 h=>q159_2 C lf r x7 h)) (by kernel_rfl) (fun k=>(q159_14_eq C lf (fun x5 x7 h=>k (x5,x7) h) (fun x7 h=>q159_2 C lf r x7 h) (fun F h=>r (F 4) h) KE))))
noncomputable def q159_16(C:YC)(lf:Nat)(n:K2)(x5:O)(h:HW):Rs:=
 n x5 (some (.val (.slice none 0 0))) h
theorem q159_16_eq(C:YC)(lf:Nat)(n:K2)(KR:KF)(KE:KX): ∀ F h,evX fx159 C lf [1,1,0] F h (fun F h=>n (F 5) (F 7) h) KR KE=q159_16 C lf n (F 5) h:=by
 intro F h;kernel_rfl
noncomputable def q159_17(C:YC)(lf:Nat)(r:K1)(x5:O)(h:HW):Rs:=
 q159_16 C lf (fun x5 x7 h=>q159_15 C lf r x5 x7 h) x5 h
theorem q159_17_eq(C:YC)(lf:Nat)(r:K1)(KN:KF)(KE:KX): ∀ F h,evX fx159 C lf [1,1] F h KN (fun F h=>r (F 4) h) KE=q159_17 C lf r (F 5) h:=cSeq (a:=subX fx159 [1,1,0]) (b:=subX fx159 [1,1,1]) (by kernel_rfl) (B:=(fun F h=>q159_15 C lf r (F 5) (F 7) h)) (q159_15_eq C lf r KN KE) (q159_16_eq C lf (fun x5 x7 h=>q159_15 C lf r x5 x7 h) (fun F h=>r (F 4) h) KE)
noncomputable def q159_32(C:YC)(lf:Nat)(n:K1)(x0 x1:O)(h:HW):Rs:=
 ob x0 fun a18=>
 ob x1 fun a19=>
 ob x0 fun a20=>
 ob (semNil a20) fun y21=>
 ob (fa 4 y21) fun y22=>
 ob (ld1 y22 h) fun y23=>
 ob x1 fun a24=>
 ob (ixS 308 y23 a24) fun y25=>
 ob (fa 1 y25) fun y26=>
 ob (fa 4 y26) fun y27=>
 ob (ld1 y27 h) fun y28=>
 bc (C (.fn 188) [a18,a19,(.int .i64 0),y28] h) fun y29 h29=>
 ob (ext 0 y29) fun y30=>
 ob (ext 1 y29) fun y31=>
 n (some y30) h29
theorem q159_32_eq(C:YC)(lf:Nat)(n:K1)(KR:KF)(KE:KX): ∀ F h,evX fx159 C lf [1,0] F h (fun F h=>n (F 5) h) KR KE=q159_32 C lf n (F 0) (F 1) h:=by
 intro F h;kernel_rfl
noncomputable def q159_33(C:YC)(lf:Nat)(r:K1)(x0 x1:O)(h:HW):Rs:=
 q159_32 C lf (fun x5 h=>q159_17 C lf r x5 h) x0 x1 h
theorem q159_33_eq(C:YC)(lf:Nat)(r:K1)(KN:KF)(KE:KX): ∀ F h,evX fx159 C lf [1] F h KN (fun F h=>r (F 4) h) KE=q159_33 C lf r (F 0) (F 1) h:=cSeq (a:=subX fx159 [1,0]) (b:=subX fx159 [1,1]) (by kernel_rfl) (B:=(fun F h=>q159_17 C lf r (F 5) h)) (q159_17_eq C lf r KN KE) (q159_32_eq C lf (fun x5 h=>q159_17 C lf r x5 h) (fun F h=>r (F 4) h) KE)
noncomputable def q159_34(C:YC)(lf:Nat)(n:K2)(x0 x1:O)(h:HW):Rs:=
 n x0 x1 h
theorem q159_34_eq(C:YC)(lf:Nat)(n:K2)(KR:KF)(KE:KX): ∀ F h,evX fx159 C lf [0] F h (fun F h=>n (F 0) (F 1) h) KR KE=q159_34 C lf n (F 0) (F 1) h:=by
 intro F h;kernel_rfl
noncomputable def q159_35(C:YC)(lf:Nat)(r:K1)(x0 x1:O)(h:HW):Rs:=
 q159_34 C lf (fun x0 x1 h=>q159_33 C lf r x0 x1 h) x0 x1 h
theorem q159_35_eq(C:YC)(lf:Nat)(r:K1)(KN:KF)(KE:KX): ∀ F h,evX fx159 C lf [] F h KN (fun F h=>r (F 4) h) KE=q159_35 C lf r (F 0) (F 1) h:=cSeq (a:=subX fx159 [0]) (b:=subX fx159 [1]) (by kernel_rfl) (B:=(fun F h=>q159_33 C lf r (F 0) (F 1) h)) (q159_33_eq C lf r KN KE) (q159_34_eq C lf (fun x0 x1 h=>q159_33 C lf r x0 x1 h) (fun F h=>r (F 4) h) KE)
noncomputable def fs159(C:YC)(lf:Nat)(a0 a1:SV)(h:HW):Rs:=q159_35 C lf ff159 (some a0) (some a1) h
theorem fs159_eq(C:YC)(lf:Nat)(a0 a1:SV)(h:HW):yFn Tryz.prog fx159 C lf [a0,a1] h=fs159 C lf a0 a1 h:=fnX (K:=(fun F h=>ff159 (F 4) h)) (by kernel_rfl) (((q159_35_eq C lf ff159 (fun F h=>ff159 (F 4) h) (fun _ _ _=>none)) _ h).trans (by kernel_rfl))
noncomputable def fy159:YX Tryz.prog:=Y2 fx159 fs159 fs159_eq (by kernel_rfl)
noncomputable def fx160:XF Tryz.prog:=⟨160,Tryz.f160,fun _=> .text,Tryz.func160,by kernel_rfl,by kernel_rfl,by kernel_rfl,by kernel_rfl⟩
noncomputable def ff160(x2:O)(h:HW):Rs:=
 ob x2 fun a0=>
 some (.ret a0,h)
noncomputable def q160_23(C:YC)(lf:Nat)(r:K1)(x0:O)(h:HW):Rs:=
 ob x0 fun a1=>
 ob (ixS 1 a1 (.int .i64 0)) fun y2=>
 ob (ld1 y2 h) fun y3=>
 ob (cvI .i64 y3) fun y4=>
 ob x0 fun a5=>
 ob (ixS 1 a5 (.int .i64 1)) fun y6=>
 ob (ld1 y6 h) fun y7=>
 ob (cvI .i64 y7) fun y8=>
 ob (bin Tryz.prog .shl 3 y8 (.int .u64 8)) fun y9=>
 ob (bin Tryz.prog .or 3 y4 y9) fun y10=>
 ob x0 fun a11=>
 ob (ixS 1 a11 (.int .i64 2)) fun y12=>
 ob (ld1 y12 h) fun y13=>
 ob (cvI .i64 y13) fun y14=>
 ob (bin Tryz.prog .shl 3 y14 (.int .u64 16)) fun y15=>
 ob (bin Tryz.prog .or 3 y10 y15) fun y16=>
 ob x0 fun a17=>
 ob (ixS 1 a17 (.int .i64 3)) fun y18=>
 ob (ld1 y18 h) fun y19=>
 ob (cvI .i64 y19) fun y20=>
 ob (bin Tryz.prog .shl 3 y20 (.int .u64 24)) fun y21=>
 ob (bin Tryz.prog .or 3 y16 y21) fun y22=>
 r (some y22) h
theorem q160_23_eq(C:YC)(lf:Nat)(r:K1)(KN:KF)(KE:KX): ∀ F h,evX fx160 C lf [] F h KN (fun F h=>r (F 2) h) KE=q160_23 C lf r (F 0) h:=by
 intro F h;kernel_rfl
noncomputable def fs160(C:YC)(lf:Nat)(a0:SV)(h:HW):Rs:=q160_23 C lf ff160 (some a0) h
theorem fs160_eq(C:YC)(lf:Nat)(a0:SV)(h:HW):yFn Tryz.prog fx160 C lf [a0] h=fs160 C lf a0 h:=fnX (K:=(fun F h=>ff160 (F 2) h)) (by kernel_rfl) (((q160_23_eq C lf ff160 (fun F h=>ff160 (F 2) h) (fun _ _ _=>none)) _ h).trans (by kernel_rfl))
noncomputable def fy160:YX Tryz.prog:=Y1 fx160 fs160 fs160_eq (by kernel_rfl)
noncomputable def fx161:XF Tryz.prog:=⟨161,Tryz.f161,fun _=> .text,Tryz.func161,by kernel_rfl,by kernel_rfl,by kernel_rfl,by kernel_rfl⟩
noncomputable def ff161(x3:O)(h:HW):Rs:=
 ob x3 fun a0=>
 some (.ret a0,h)
noncomputable def q161_6(C:YC)(lf:Nat)(r:K1)(x0 x1:O)(h:HW):Rs:=
 ob x1 fun a1=>
 ob (ld1 a1 h) fun y2=>
 ob x0 fun a3=>
 ob (bin Tryz.prog .and 3 y2 a3) fun y4=>
 ob (bin Tryz.prog .neq 3 y4 (.int .i64 0)) fun y5=>
 r (some y5) h
theorem q161_6_eq(C:YC)(lf:Nat)(r:K1)(KN:KF)(KE:KX): ∀ F h,evX fx161 C lf [] F h KN (fun F h=>r (F 3) h) KE=q161_6 C lf r (F 0) (F 1) h:=by
 intro F h;kernel_rfl
noncomputable def fs161(C:YC)(lf:Nat)(a0 a1:SV)(h:HW):Rs:=q161_6 C lf ff161 (some a0) (some a1) h
theorem fs161_eq(C:YC)(lf:Nat)(a0 a1:SV)(h:HW):yFn Tryz.prog fx161 C lf [a0,a1] h=fs161 C lf a0 a1 h:=fnX (K:=(fun F h=>ff161 (F 3) h)) (by kernel_rfl) (((q161_6_eq C lf ff161 (fun F h=>ff161 (F 3) h) (fun _ _ _=>none)) _ h).trans (by kernel_rfl))
noncomputable def fy161:YX Tryz.prog:=Y2 fx161 fs161 fs161_eq (by kernel_rfl)
noncomputable def fx162:XF Tryz.prog:=⟨162,Tryz.f162,fun _=> .text,Tryz.func162,by kernel_rfl,by kernel_rfl,by kernel_rfl,by kernel_rfl⟩
noncomputable def ff162(x2:O)(h:HW):Rs:=
 ob x2 fun a0=>
 some (.ret a0,h)
noncomputable def q162_1(C:YC)(lf:Nat)(r:K1)(h:HW):Rs:=
 r (some (.int .i64 0)) h
theorem q162_1_eq(C:YC)(lf:Nat)(r:K1)(KN:KF)(KE:KX): ∀ F h,evX fx162 C lf [] F h KN (fun F h=>r (F 2) h) KE=q162_1 C lf r h:=by
 intro F h;kernel_rfl
noncomputable def fs162(C:YC)(lf:Nat)(a0:SV)(h:HW):Rs:=q162_1 C lf ff162 h
theorem fs162_eq(C:YC)(lf:Nat)(a0:SV)(h:HW):yFn Tryz.prog fx162 C lf [a0] h=fs162 C lf a0 h:=fnX (K:=(fun F h=>ff162 (F 2) h)) (by kernel_rfl) (((q162_1_eq C lf ff162 (fun F h=>ff162 (F 2) h) (fun _ _ _=>none)) _ h).trans (by kernel_rfl))
noncomputable def fy162:YX Tryz.prog:=Y1 fx162 fs162 fs162_eq (by kernel_rfl)
noncomputable def fx163:XF Tryz.prog:=⟨163,Tryz.f163,fun _=> .text,Tryz.func163,by kernel_rfl,by kernel_rfl,by kernel_rfl,by kernel_rfl⟩
noncomputable def ff163(x10:O)(h:HW):Rs:=
 ob x10 fun a0=>
 some (.ret a0,h)
noncomputable def q163_6(C:YC)(lf:Nat)(r:K1)(x11 x12:O)(h:HW):Rs:=
 ob x12 fun a1=>
 ob x11 fun a2=>
 ob (bin Tryz.prog .and 34 a1 a2) fun y3=>
 ob x11 fun a4=>
 ob (bin Tryz.prog .eql 34 y3 a4) fun y5=>
 r (some y5) h
theorem q163_6_eq(C:YC)(lf:Nat)(r:K1)(KN:KF)(KE:KX): ∀ F h,evX fx163 C lf [1,1,1,1,1] F h KN (fun F h=>r (F 10) h) KE=q163_6 C lf r (F 11) (F 12) h:=by
 intro F h;kernel_rfl
noncomputable def q163_20(C:YC)(lf:Nat)(n:K2)(x0 x1 x2 x8 x11 x12:O)(h:HW):Rs:=
 ob x8 fun a7=>
 ob (fa 0 a7) fun y8=>
 ob (ld1 y8 h) fun y9=>
 ob x1 fun a10=>
 ob (bin Tryz.prog .eql 3 y9 a10) fun y11=>
 yIf y11
 (ob x0 fun a12=>
 ob (bin Tryz.prog .shr 34 a12 (.int .u64 6)) fun y13=>
 n x11 (some y13) h)
 (ob x8 fun a14=>
 ob (ldN 5 a14 h) fun y15=>
 ob x2 fun a16=>
 bc (C (.fn 123) [y15,a16] h) fun y17 h17=>
 yIf y17
 (ob x0 fun a18=>
 ob (bin Tryz.prog .shr 34 a18 (.int .u64 3)) fun y19=>
 n x11 (some y19) h17)
 (n x11 x12 h17))
theorem q163_20_eq(C:YC)(lf:Nat)(n:K2)(KR:KF)(KE:KX): ∀ F h,evX fx163 C lf [1,1,1,1,0] F h (fun F h=>n (F 11) (F 12) h) KR KE=q163_20 C lf n (F 0) (F 1) (F 2) (F 8) (F 11) (F 12) h:=by
 intro F h;kernel_rfl
noncomputable def q163_21(C:YC)(lf:Nat)(r:K1)(x0 x1 x2 x8 x11 x12:O)(h:HW):Rs:=
 q163_20 C lf (fun x11 x12 h=>q163_6 C lf r x11 x12 h) x0 x1 x2 x8 x11 x12 h
theorem q163_21_eq(C:YC)(lf:Nat)(r:K1)(KN:KF)(KE:KX): ∀ F h,evX fx163 C lf [1,1,1,1] F h KN (fun F h=>r (F 10) h) KE=q163_21 C lf r (F 0) (F 1) (F 2) (F 8) (F 11) (F 12) h:=cSeq (a:=subX fx163 [1,1,1,1,0]) (b:=subX fx163 [1,1,1,1,1]) (by kernel_rfl) (B:=(fun F h=>q163_6 C lf r (F 11) (F 12) h)) (q163_6_eq C lf r KN KE) (q163_20_eq C lf (fun x11 x12 h=>q163_6 C lf r x11 x12 h) (fun F h=>r (F 10) h) KE)
noncomputable def q163_23(C:YC)(lf:Nat)(n:K6)(x0 x1 x2 x8 x11:O)(h:HW):Rs:=
 ob x0 fun a22=>
 n x0 x1 x2 x8 x11 (some a22) h
theorem q163_23_eq(C:YC)(lf:Nat)(n:K6)(KR:KF)(KE:KX): ∀ F h,evX fx163 C lf [1,1,1,0] F h (fun F h=>n (F 0) (F 1) (F 2) (F 8) (F 11) (F 12) h) KR KE=q163_23 C lf n (F 0) (F 1) (F 2) (F 8) (F 11) h:=by
 intro F h;kernel_rfl
noncomputable def q163_24(C:YC)(lf:Nat)(r:K1)(x0 x1 x2 x8 x11:O)(h:HW):Rs:=
 q163_23 C lf (fun x0 x1 x2 x8 x11 x12 h=>q163_21 C lf r x0 x1 x2 x8 x11 x12 h) x0 x1 x2 x8 x11 h
theorem q163_24_eq(C:YC)(lf:Nat)(r:K1)(KN:KF)(KE:KX): ∀ F h,evX fx163 C lf [1,1,1] F h KN (fun F h=>r (F 10) h) KE=q163_24 C lf r (F 0) (F 1) (F 2) (F 8) (F 11) h:=cSeq (a:=subX fx163 [1,1,1,0]) (b:=subX fx163 [1,1,1,1]) (by kernel_rfl) (B:=(fun F h=>q163_21 C lf r (F 0) (F 1) (F 2) (F 8) (F 11) (F 12) h)) (q163_21_eq C lf r KN KE) (q163_23_eq C lf (fun x0 x1 x2 x8 x11 x12 h=>q163_21 C lf r x0 x1 x2 x8 x11 x12 h) (fun F h=>r (F 10) h) KE)
noncomputable def q163_46(C:YC)(lf:Nat)(n:K5)(r:K1)(x0 x1 x2 x8 x11:O)(h:HW):Rs:=
 ob x8 fun a25=>
 ob (fa 0 a25) fun y26=>
 ob (ld1 y26 h) fun y27=>
 ob (bin Tryz.prog .eql 3 y27 (.int .i64 0)) fun y28=>
 yIf y28
 (ob x11 fun a29=>
 ob (bin Tryz.prog .and 34 a29 (.int .i64 1)) fun y30=>
 ob (bin Tryz.prog .eql 34 y30 (.int .i64 0)) fun y31=>
 bc (gd false (some y31) (ob x0 fun a32=>
 some (.ret a32,h)) h) fun y33 h33=>
 bc (gd false (some y31) (ob (bin Tryz.prog .and 34 y33 (.int .i64 61440)) fun y34=>
 some (.ret y34,h33)) h33) fun y35 h35=>
 bc (gd false (some y31) (ob (bin Tryz.prog .eql 34 y35 (.int .i64 16384)) fun y36=>
 some (.ret y36,h35)) h35) fun y37 h37=>
 ob (ypk y31 (.bool true) y37) fun y38=>
 bc (gd false (some y38) (ob x0 fun a39=>
 some (.ret a39,h37)) h37) fun y40 h40=>
 bc (gd false (some y38) (ob (bin Tryz.prog .and 34 y40 (.int .i64 73)) fun y41=>
 some (.ret y41,h40)) h40) fun y42 h42=>
 bc (gd false (some y38) (ob (bin Tryz.prog .neq 34 y42 (.int .i64 0)) fun y43=>
 some (.ret y43,h42)) h42) fun y44 h44=>
 ob (ypk y38 (.bool true) y44) fun y45=>
 r (some y45) h44)
 (n x0 x1 x2 x8 x11 h)
theorem q163_46_eq(C:YC)(lf:Nat)(n:K5)(r:K1)(KE:KX): ∀ F h,evX fx163 C lf [1,1,0] F h (fun F h=>n (F 0) (F 1) (F 2) (F 8) (F 11) h) (fun F h=>r (F 10) h) KE=q163_46 C lf n r (F 0) (F 1) (F 2) (F 8) (F 11) h:=by
 intro F h;kernel_rfl
noncomputable def q163_47(C:YC)(lf:Nat)(r:K1)(x0 x1 x2 x8 x11:O)(h:HW):Rs:=
 q163_46 C lf (fun x0 x1 x2 x8 x11 h=>q163_24 C lf r x0 x1 x2 x8 x11 h) r x0 x1 x2 x8 x11 h
theorem q163_47_eq(C:YC)(lf:Nat)(r:K1)(KN:KF)(KE:KX): ∀ F h,evX fx163 C lf [1,1] F h KN (fun F h=>r (F 10) h) KE=q163_47 C lf r (F 0) (F 1) (F 2) (F 8) (F 11) h:=cSeq (a:=subX fx163 [1,1,0]) (b:=subX fx163 [1,1,1]) (by kernel_rfl) (B:=(fun F h=>q163_24 C lf r (F 0) (F 1) (F 2) (F 8) (F 11) h)) (q163_24_eq C lf r KN KE) (q163_46_eq C lf (fun x0 x1 x2 x8 x11 h=>q163_24 C lf r x0 x1 x2 x8 x11 h) r KE)
noncomputable def q163_50(C:YC)(lf:Nat)(n:K5)(x0 x1 x2 x4 x8:O)(h:HW):Rs:=
 ob x4 fun a48=>
 ob (bin Tryz.prog .and 3 a48 (.int .i64 7)) fun y49=>
 n x0 x1 x2 x8 (some y49) h
theorem q163_50_eq(C:YC)(lf:Nat)(n:K5)(KR:KF)(KE:KX): ∀ F h,evX fx163 C lf [1,0] F h (fun F h=>n (F 0) (F 1) (F 2) (F 8) (F 11) h) KR KE=q163_50 C lf n (F 0) (F 1) (F 2) (F 4) (F 8) h:=by
 intro F h;kernel_rfl
noncomputable def q163_51(C:YC)(lf:Nat)(r:K1)(x0 x1 x2 x4 x8:O)(h:HW):Rs:=
 q163_50 C lf (fun x0 x1 x2 x8 x11 h=>q163_47 C lf r x0 x1 x2 x8 x11 h) x0 x1 x2 x4 x8 h
theorem q163_51_eq(C:YC)(lf:Nat)(r:K1)(KN:KF)(KE:KX): ∀ F h,evX fx163 C lf [1] F h KN (fun F h=>r (F 10) h) KE=q163_51 C lf r (F 0) (F 1) (F 2) (F 4) (F 8) h:=cSeq (a:=subX fx163 [1,0]) (b:=subX fx163 [1,1]) (by kernel_rfl) (B:=(fun F h=>q163_47 C lf r (F 0) (F 1) (F 2) (F 8) (F 11) h)) (q163_47_eq C lf r KN KE) (q163_50_eq C lf (fun x0 x1 x2 x8 x11 h=>q163_47 C lf r x0 x1 x2 x8 x11 h) (fun F h=>r (F 10) h) KE)
noncomputable def q163_54(C:YC)(lf:Nat)(n:K5)(x0 x1 x2 x3 x4:O)(h:HW):Rs:=
 ob x3 fun a52=>
 b2 (ybx 48 a52 h) fun y53 h53=>
 n x0 x1 x2 x4 (some y53) h53
theorem q163_54_eq(C:YC)(lf:Nat)(n:K5)(KR:KF)(KE:KX): ∀ F h,evX fx163 C lf [0] F h (fun F h=>n (F 0) (F 1) (F 2) (F 4) (F 8) h) KR KE=q163_54 C lf n (F 0) (F 1) (F 2) (F 3) (F 4) h:=by
 intro F h;kernel_rfl
noncomputable def q163_55(C:YC)(lf:Nat)(r:K1)(x0 x1 x2 x3 x4:O)(h:HW):Rs:=
 q163_54 C lf (fun x0 x1 x2 x4 x8 h=>q163_51 C lf r x0 x1 x2 x4 x8 h) x0 x1 x2 x3 x4 h
theorem q163_55_eq(C:YC)(lf:Nat)(r:K1)(KN:KF)(KE:KX): ∀ F h,evX fx163 C lf [] F h KN (fun F h=>r (F 10) h) KE=q163_55 C lf r (F 0) (F 1) (F 2) (F 3) (F 4) h:=cSeq (a:=subX fx163 [0]) (b:=subX fx163 [1]) (by kernel_rfl) (B:=(fun F h=>q163_51 C lf r (F 0) (F 1) (F 2) (F 4) (F 8) h)) (q163_51_eq C lf r KN KE) (q163_54_eq C lf (fun x0 x1 x2 x4 x8 h=>q163_51 C lf r x0 x1 x2 x4 x8 h) (fun F h=>r (F 10) h) KE)
noncomputable def fs163(C:YC)(lf:Nat)(a0 a1 a2 a3 a4:SV)(h:HW):Rs:=q163_55 C lf ff163 (some a0) (some a1) (some a2) (some a3) (some a4) h
theorem fs163_eq(C:YC)(lf:Nat)(a0 a1 a2 a3 a4:SV)(h:HW):yFn Tryz.prog fx163 C lf [a0,a1,a2,a3,a4] h=fs163 C lf a0 a1 a2 a3 a4 h:=fnX (K:=(fun F h=>ff163 (F 10) h)) (by kernel_rfl) (((q163_55_eq C lf ff163 (fun F h=>ff163 (F 10) h) (fun _ _ _=>none)) _ h).trans (by kernel_rfl))
noncomputable def fy163:YX Tryz.prog:=Y5 fx163 fs163 fs163_eq (by kernel_rfl)
noncomputable def fx164:XF Tryz.prog:=⟨164,Tryz.f164,fun _=> .text,Tryz.func164,by kernel_rfl,by kernel_rfl,by kernel_rfl,by kernel_rfl⟩
noncomputable def ff164(x2:O)(h:HW):Rs:=
 ob x2 fun a0=>
 some (.ret a0,h)
noncomputable def q164_3(C:YC)(lf:Nat)(r:K1)(x0:O)(h:HW):Rs:=
 ob x0 fun a1=>
 b2 (ybx 9 a1 h) fun y2 h2=>
 r (some (.fn (.func 192) [] [y2])) h2
theorem q164_3_eq(C:YC)(lf:Nat)(r:K1)(KN:KF)(KE:KX): ∀ F h,evX fx164 C lf [] F h KN (fun F h=>r (F 2) h) KE=q164_3 C lf r (F 0) h:=by
 intro F h;kernel_rfl
noncomputable def fs164(C:YC)(lf:Nat)(a0:SV)(h:HW):Rs:=q164_3 C lf ff164 (some a0) h
theorem fs164_eq(C:YC)(lf:Nat)(a0:SV)(h:HW):yFn Tryz.prog fx164 C lf [a0] h=fs164 C lf a0 h:=fnX (K:=(fun F h=>ff164 (F 2) h)) (by kernel_rfl) (((q164_3_eq C lf ff164 (fun F h=>ff164 (F 2) h) (fun _ _ _=>none)) _ h).trans (by kernel_rfl))
noncomputable def fy164:YX Tryz.prog:=Y1 fx164 fs164 fs164_eq (by kernel_rfl)
noncomputable def fx165:XF Tryz.prog:=⟨165,Tryz.f165,fun _=> .text,Tryz.func165,by kernel_rfl,by kernel_rfl,by kernel_rfl,by kernel_rfl⟩
noncomputable def ff165(x4:O)(h:HW):Rs:=
 ob x4 fun a0=>
 some (.ret a0,h)
noncomputable def q165_4(C:YC)(lf:Nat)(r:K1)(x0 x1:O)(h:HW):Rs:=
 ob x0 fun a1=>
 ob x1 fun a2=>
 bc (C (.fn 193) [a1,a2] h) fun y3 h3=>
 r (some y3) h3
theorem q165_4_eq(C:YC)(lf:Nat)(r:K1)(KN:KF)(KE:KX): ∀ F h,evX fx165 C lf [] F h KN (fun F h=>r (F 4) h) KE=q165_4 C lf r (F 0) (F 1) h:=by
 intro F h;kernel_rfl
noncomputable def fs165(C:YC)(lf:Nat)(a0 a1:SV)(h:HW):Rs:=q165_4 C lf ff165 (some a0) (some a1) h
theorem fs165_eq(C:YC)(lf:Nat)(a0 a1:SV)(h:HW):yFn Tryz.prog fx165 C lf [a0,a1] h=fs165 C lf a0 a1 h:=fnX (K:=(fun F h=>ff165 (F 4) h)) (by kernel_rfl) (((q165_4_eq C lf ff165 (fun F h=>ff165 (F 4) h) (fun _ _ _=>none)) _ h).trans (by kernel_rfl))
noncomputable def fy165:YX Tryz.prog:=Y2 fx165 fs165 fs165_eq (by kernel_rfl)
noncomputable def fx166:XF Tryz.prog:=⟨166,Tryz.f166,fun _=> .text,Tryz.func166,by kernel_rfl,by kernel_rfl,by kernel_rfl,by kernel_rfl⟩
noncomputable def ff166(x2:O)(h:HW):Rs:=
 ob x2 fun a0=>
 some (.ret a0,h)
noncomputable def q166_8(C:YC)(lf:Nat)(r:K1)(x3 x4:O)(h:HW):Rs:=
 ob x4 fun a1=>
 ob (bin Tryz.prog .neq 9 a1 (.str (bs []))) fun y2=>
 yIf y2
 (ob x3 fun a3=>
 ob x4 fun a4=>
 b2 (ybs Tryz.prog 22 1 [0] [a4] h) fun y5 h5=>
 b2 (ybl Tryz.prog .append #[22,22] [a3,y5] h5) fun y6 h6=>
 r (some y6) h6)
 (ob x3 fun a7=>
 r (some a7) h)
theorem q166_8_eq(C:YC)(lf:Nat)(r:K1)(KN:KF)(KE:KX): ∀ F h,evX fx166 C lf [1,1,1,1] F h KN (fun F h=>r (F 2) h) KE=q166_8 C lf r (F 3) (F 4) h:=by
 intro F h;kernel_rfl
noncomputable def q166_37(C:YC)(lf:Nat)(n:K4)(e0:K2)(x0 x3 x4 x5:O)(h:HW):Rs:=
 ob x5 fun a10=>
 ob x0 fun a11=>
 ob (lenE Tryz.prog 9 a11) fun y12=>
 ob (bin Tryz.prog .lss 3 a10 y12) fun y13=>
 yIf y13
 (ob x0 fun a14=>
 ob x5 fun a15=>
 ob (semIndex Tryz.prog 9 a14 a15) fun y16=>
 ob (bin Tryz.prog .neq 5 y16 (.int .u8 47)) fun y17=>
 yIf y17
 (ob x4 fun a18=>
 ob x0 fun a19=>
 ob x5 fun a20=>
 ob x5 fun a21=>
 ob (bin Tryz.prog .add 3 a21 (.int .i64 1)) fun y22=>
 ob (semSlice Tryz.prog 9 a19 (some a20) (some y22)) fun y23=>
 ob (bin Tryz.prog .add 9 a18 y23) fun y24=>
 ob x5 fun a25=>
 ob (bin Tryz.prog .add 3 a25 (.int .i64 1)) fun y26=>
 n x0 x3 (some y24) (some y26) h)
 (ob x4 fun a27=>
 ob (bin Tryz.prog .neq 9 a27 (.str (bs []))) fun y28=>
 yIf y28
 (ob x3 fun a29=>
 ob x4 fun a30=>
 b2 (ybs Tryz.prog 22 1 [0] [a30] h) fun y31 h31=>
 b2 (ybl Tryz.prog .append #[22,22] [a29,y31] h31) fun y32 h32=>
 ob x5 fun a33=>
 ob (bin Tryz.prog .add 3 a33 (.int .i64 1)) fun y34=>
 n x0 (some y32) (some (.str (bs []))) (some y34) h32)
 (ob x5 fun a35=>
 ob (bin Tryz.prog .add 3 a35 (.int .i64 1)) fun y36=>
 n x0 x3 (some (.str (bs []))) (some y36) h)))
 (e0 x3 x4 h)
theorem q166_37_eq(C:YC)(lf:Nat)(n:K4)(e0:K2)(KR:KF)(KE:KX): ∀ F h,evX fx166 C lf [1,1,1,0,1,0,0] F h (fun F h=>n (F 0) (F 3) (F 4) (F 5) h) KR (bk 0 (fun F h=>e0 (F 3) (F 4) h) KE)=q166_37 C lf n e0 (F 0) (F 3) (F 4) (F 5) h:=by
 intro F h;kernel_rfl
noncomputable def l166_9(C:YC)(lf:Nat)(e0:K2)(k:O × O × O × O→HW→Rs)(s:O × O × O × O)(h:HW):Rs:=
 q166_37 C lf (fun x0 x3 x4 x5 h=>k (x0,x3,x4,x5) h) e0 s.1 s.2.1 s.2.2.1 s.2.2.2 h
noncomputable def q166_38(C:YC)(lf:Nat)(n:K4)(x0 x3 x4:O)(h:HW):Rs:=
 n x0 x3 x4 (some (.int .i64 0)) h
theorem q166_38_eq(C:YC)(lf:Nat)(n:K4)(KR:KF)(KE:KX): ∀ F h,evX fx166 C lf [1,1,1,0,0] F h (fun F h=>n (F 0) (F 3) (F 4) (F 5) h) KR KE=q166_38 C lf n (F 0) (F 3) (F 4) h:=by
 intro F h;kernel_rfl
noncomputable def q166_39(C:YC)(lf:Nat)(n:K2)(x0 x3 x4:O)(h:HW):Rs:=
 q166_38 C lf (fun x0 x3 x4 x5 h=>lp (l166_9 C lf n) lf (x0,x3,x4,x5) h) x0 x3 x4 h
theorem q166_39_eq(C:YC)(lf:Nat)(n:K2)(KR:KF)(KE:KX): ∀ F h,evX fx166 C lf [1,1,1,0] F h (fun F h=>n (F 3) (F 4) h) KR KE=q166_39 C lf n (F 0) (F 3) (F 4) h:=cSeq (a:=subX fx166 [1,1,1,0,0]) (b:=subX fx166 [1,1,1,0,1]) (by kernel_rfl) (B:=(fun F h=>lp (l166_9 C lf n) lf ((F 0),(F 3),(F 4),(F 5)) h)) (cBlock (id:=0) (a:=subX fx166 [1,1,1,0,1,0]) (by kernel_rfl) (cLoop (a:=subX fx166 [1,1,1,0,1,0,0]) (g:=fun F=>(F 0,F 3,F 4,F 5)) (body:=l166_9 C lf n) (by kernel_rfl) (fun k=>(q166_37_eq C lf (fun x0 x3 x4 x5 h=>k (x0,x3,x4,x5) h) n KR KE)))) (q166_38_eq C lf (fun x0 x3 x4 x5 h=>lp (l166_9 C lf n) lf (x0,x3,x4,x5) h) KR KE)
noncomputable def q166_40(C:YC)(lf:Nat)(r:K1)(x0 x3 x4:O)(h:HW):Rs:=
 q166_39 C lf (fun x3 x4 h=>q166_8 C lf r x3 x4 h) x0 x3 x4 h
theorem q166_40_eq(C:YC)(lf:Nat)(r:K1)(KN:KF)(KE:KX): ∀ F h,evX fx166 C lf [1,1,1] F h KN (fun F h=>r (F 2) h) KE=q166_40 C lf r (F 0) (F 3) (F 4) h:=cSeq (a:=subX fx166 [1,1,1,0]) (b:=subX fx166 [1,1,1,1]) (by kernel_rfl) (B:=(fun F h=>q166_8 C lf r (F 3) (F 4) h)) (q166_8_eq C lf r KN KE) (q166_39_eq C lf (fun x3 x4 h=>q166_8 C lf r x3 x4 h) (fun F h=>r (F 2) h) KE)
noncomputable def q166_41(C:YC)(lf:Nat)(n:K3)(x0 x3:O)(h:HW):Rs:=
 n x0 x3 (some (.str (bs []))) h
theorem q166_41_eq(C:YC)(lf:Nat)(n:K3)(KR:KF)(KE:KX): ∀ F h,evX fx166 C lf [1,1,0] F h (fun F h=>n (F 0) (F 3) (F 4) h) KR KE=q166_41 C lf n (F 0) (F 3) h:=by
 intro F h;kernel_rfl
noncomputable def q166_42(C:YC)(lf:Nat)(r:K1)(x0 x3:O)(h:HW):Rs:=
 q166_41 C lf (fun x0 x3 x4 h=>q166_40 C lf r x0 x3 x4 h) x0 x3 h
theorem q166_42_eq(C:YC)(lf:Nat)(r:K1)(KN:KF)(KE:KX): ∀ F h,evX fx166 C lf [1,1] F h KN (fun F h=>r (F 2) h) KE=q166_42 C lf r (F 0) (F 3) h:=cSeq (a:=subX fx166 [1,1,0]) (b:=subX fx166 [1,1,1]) (by kernel_rfl) (B:=(fun F h=>q166_40 C lf r (F 0) (F 3) (F 4) h)) (q166_40_eq C lf r KN KE) (q166_41_eq C lf (fun x0 x3 x4 h=>q166_40 C lf r x0 x3 x4 h) (fun F h=>r (F 2) h) KE)
noncomputable def q166_43(C:YC)(lf:Nat)(n:K2)(x0:O)(h:HW):Rs:=
 n x0 (some (.val (.slice none 0 0))) h
theorem q166_43_eq(C:YC)(lf:Nat)(n:K2)(KR:KF)(KE:KX): ∀ F h,evX fx166 C lf [1,0] F h (fun F h=>n (F 0) (F 3) h) KR KE=q166_43 C lf n (F 0) h:=by
 intro F h;kernel_rfl
noncomputable def q166_44(C:YC)(lf:Nat)(r:K1)(x0:O)(h:HW):Rs:=
 q166_43 C lf (fun x0 x3 h=>q166_42 C lf r x0 x3 h) x0 h
theorem q166_44_eq(C:YC)(lf:Nat)(r:K1)(KN:KF)(KE:KX): ∀ F h,evX fx166 C lf [1] F h KN (fun F h=>r (F 2) h) KE=q166_44 C lf r (F 0) h:=cSeq (a:=subX fx166 [1,0]) (b:=subX fx166 [1,1]) (by kernel_rfl) (B:=(fun F h=>q166_42 C lf r (F 0) (F 3) h)) (q166_42_eq C lf r KN KE) (q166_43_eq C lf (fun x0 x3 h=>q166_42 C lf r x0 x3 h) (fun F h=>r (F 2) h) KE)
noncomputable def q166_45(C:YC)(lf:Nat)(n:K1)(x0:O)(h:HW):Rs:=
 n x0 h
theorem q166_45_eq(C:YC)(lf:Nat)(n:K1)(KR:KF)(KE:KX): ∀ F h,evX fx166 C lf [0] F h (fun F h=>n (F 0) h) KR KE=q166_45 C lf n (F 0) h:=by
 intro F h;kernel_rfl
noncomputable def q166_46(C:YC)(lf:Nat)(r:K1)(x0:O)(h:HW):Rs:=
 q166_45 C lf (fun x0 h=>q166_44 C lf r x0 h) x0 h
theorem q166_46_eq(C:YC)(lf:Nat)(r:K1)(KN:KF)(KE:KX): ∀ F h,evX fx166 C lf [] F h KN (fun F h=>r (F 2) h) KE=q166_46 C lf r (F 0) h:=cSeq (a:=subX fx166 [0]) (b:=subX fx166 [1]) (by kernel_rfl) (B:=(fun F h=>q166_44 C lf r (F 0) h)) (q166_44_eq C lf r KN KE) (q166_45_eq C lf (fun x0 h=>q166_44 C lf r x0 h) (fun F h=>r (F 2) h) KE)
noncomputable def fs166(C:YC)(lf:Nat)(a0:SV)(h:HW):Rs:=q166_46 C lf ff166 (some a0) h
theorem fs166_eq(C:YC)(lf:Nat)(a0:SV)(h:HW):yFn Tryz.prog fx166 C lf [a0] h=fs166 C lf a0 h:=fnX (K:=(fun F h=>ff166 (F 2) h)) (by kernel_rfl) (((q166_46_eq C lf ff166 (fun F h=>ff166 (F 2) h) (fun _ _ _=>none)) _ h).trans (by kernel_rfl))
noncomputable def fy166:YX Tryz.prog:=Y1 fx166 fs166 fs166_eq (by kernel_rfl)
noncomputable def fx167:XF Tryz.prog:=⟨167,Tryz.f167,fun _=> .text,Tryz.func167,by kernel_rfl,by kernel_rfl,by kernel_rfl,by kernel_rfl⟩
noncomputable def ff167(x2:O)(h:HW):Rs:=
 ob x2 fun a0=>
 some (.ret a0,h)
noncomputable def q167_11(C:YC)(lf:Nat)(r:K1)(x0:O)(h:HW):Rs:=
 ob x0 fun a1=>
 ob (lenE Tryz.prog 9 a1) fun y2=>
 ob (bin Tryz.prog .gtr 3 y2 (.int .i64 0)) fun y3=>
 bc (gd true (some y3) (ob x0 fun a4=>
 some (.ret a4,h)) h) fun y5 h5=>
 bc (gd true (some y3) (ob (semIndex Tryz.prog 9 y5 (.int .i64 0)) fun y6=>
 some (.ret y6,h5)) h5) fun y7 h7=>
 bc (gd true (some y3) (ob (bin Tryz.prog .eql 5 y7 (.int .u8 47)) fun y8=>
 some (.ret y8,h7)) h7) fun y9 h9=>
 ob (ypk y3 y9 (.bool false)) fun y10=>
 r (some y10) h9
theorem q167_11_eq(C:YC)(lf:Nat)(r:K1)(KN:KF)(KE:KX): ∀ F h,evX fx167 C lf [] F h KN (fun F h=>r (F 2) h) KE=q167_11 C lf r (F 0) h:=by
 intro F h;kernel_rfl
noncomputable def fs167(C:YC)(lf:Nat)(a0:SV)(h:HW):Rs:=q167_11 C lf ff167 (some a0) h
theorem fs167_eq(C:YC)(lf:Nat)(a0:SV)(h:HW):yFn Tryz.prog fx167 C lf [a0] h=fs167 C lf a0 h:=fnX (K:=(fun F h=>ff167 (F 2) h)) (by kernel_rfl) (((q167_11_eq C lf ff167 (fun F h=>ff167 (F 2) h) (fun _ _ _=>none)) _ h).trans (by kernel_rfl))
noncomputable def fy167:YX Tryz.prog:=Y1 fx167 fs167 fs167_eq (by kernel_rfl)
noncomputable def fx168:XF Tryz.prog:=⟨168,Tryz.f168,fun _=> .text,Tryz.func168,by kernel_rfl,by kernel_rfl,by kernel_rfl,by kernel_rfl⟩
noncomputable def ff168(x6:O)(h:HW):Rs:=
 ob x6 fun a0=>
 some (.ret a0,h)
noncomputable def q168_7(C:YC)(lf:Nat)(r:K1)(x0 x1 x2:O)(h:HW):Rs:=
 ob x0 fun a1=>
 ob x1 fun a2=>
 bc (C (.fn 66) [a1,a2] h) fun y3 h3=>
 ob (bin Tryz.prog .neq 25 y3 (.int .i64 0)) fun y4=>
 yIf y4
 (r (some y3) h3)
 (ob x2 fun a5=>
 bc (C (.fn 194) [a5] h3) fun y6 h6=>
 r (some y6) h6)
theorem q168_7_eq(C:YC)(lf:Nat)(r:K1)(KN:KF)(KE:KX): ∀ F h,evX fx168 C lf [] F h KN (fun F h=>r (F 6) h) KE=q168_7 C lf r (F 0) (F 1) (F 2) h:=by
 intro F h;kernel_rfl
noncomputable def fs168(C:YC)(lf:Nat)(a0 a1 a2:SV)(h:HW):Rs:=q168_7 C lf ff168 (some a0) (some a1) (some a2) h
theorem fs168_eq(C:YC)(lf:Nat)(a0 a1 a2:SV)(h:HW):yFn Tryz.prog fx168 C lf [a0,a1,a2] h=fs168 C lf a0 a1 a2 h:=fnX (K:=(fun F h=>ff168 (F 6) h)) (by kernel_rfl) (((q168_7_eq C lf ff168 (fun F h=>ff168 (F 6) h) (fun _ _ _=>none)) _ h).trans (by kernel_rfl))
noncomputable def fy168:YX Tryz.prog:=Y3 fx168 fs168 fs168_eq (by kernel_rfl)
noncomputable def fx169:XF Tryz.prog:=⟨169,Tryz.f169,fun _=> .text,Tryz.func169,by kernel_rfl,by kernel_rfl,by kernel_rfl,by kernel_rfl⟩
noncomputable def ff169(x4:O)(h:HW):Rs:=
 ob x4 fun a0=>
 some (.ret a0,h)
noncomputable def q169_2(C:YC)(lf:Nat)(r:K1)(x7:O)(h:HW):Rs:=
 ob x7 fun a1=>
 r (some a1) h
theorem q169_2_eq(C:YC)(lf:Nat)(r:K1)(KN:KF)(KE:KX): ∀ F h,evX fx169 C lf [1,1,1,1] F h KN (fun F h=>r (F 4) h) KE=q169_2 C lf r (F 7) h:=by
 intro F h;kernel_rfl
noncomputable def q169_16(C:YC)(lf:Nat)(n:K2)(e0:K1)(x5 x7:O)(h:HW):Rs:=
 ob x5 fun a4=>
 ob (lenE Tryz.prog 35 a4) fun y5=>
 ob (bin Tryz.prog .geq 3 y5 (.int .i64 32)) fun y6=>
 yIf y6
 (ob x7 fun a7=>
 ob x5 fun a8=>
 ob (semSlice Tryz.prog 35 a8 none (some (.int .i64 32))) fun y9=>
 ob (ysa Tryz.prog 140 y9) fun y10=>
 ob (ldN 32 y10 h) fun y11=>
 b2 (ybs Tryz.prog 242 1 [0] [y11] h) fun y12 h12=>
 b2 (ybl Tryz.prog .append #[242,242] [a7,y12] h12) fun y13 h13=>
 ob x5 fun a14=>
 ob (semSlice Tryz.prog 35 a14 (some (.int .i64 32)) none) fun y15=>
 n (some y15) (some y13) h13)
 (e0 x7 h)
theorem q169_16_eq(C:YC)(lf:Nat)(n:K2)(e0:K1)(KR:KF)(KE:KX): ∀ F h,evX fx169 C lf [1,1,1,0,0,0] F h (fun F h=>n (F 5) (F 7) h) KR (bk 0 (fun F h=>e0 (F 7) h) KE)=q169_16 C lf n e0 (F 5) (F 7) h:=by
 intro F h;kernel_rfl
noncomputable def l169_3(C:YC)(lf:Nat)(e0:K1)(k:O × O→HW→Rs)(s:O × O)(h:HW):Rs:=
 q169_16 C lf (fun x5 x7 h=>k (x5,x7) h) e0 s.1 s.2 h
noncomputable def q169_17(C:YC)(lf:Nat)(r:K1)(x5 x7:O)(h:HW):Rs:=
 lp (l169_3 C lf (fun x7 h=>q169_2 C lf r x7 h)) lf (x5,x7) h
theorem q169_17_eq(C:YC)(lf:Nat)(r:K1)(KN:KF)(KE:KX): ∀ F h,evX fx169 C lf [1,1,1] F h KN (fun F h=>r (F 4) h) KE=q169_17 C lf r (F 5) (F 7) h:=cSeq (a:=subX fx169 [1,1,1,0]) (b:=subX fx169 [1,1,1,1]) (by kernel_rfl) (B:=(fun F h=>q169_2 C lf r (F 7) h)) (q169_2_eq C lf r KN KE) (cBlock (id:=0) (a:=subX fx169 [1,1,1,0,0]) (by kernel_rfl) (cLoop (a:=subX fx169 [1,1,1,0,0,0]) (g:=fun F=>(F 5,F 7)) (body:=l169_3 C lf (fun x7 h=>q169_2 C lf r x7 h)) (by kernel_rfl) (fun k=>(q169_16_eq C lf (fun x5 x7 h=>k (x5,x7) h) (fun x7 h=>q169_2 C lf r x7 h) (fun F h=>r (F 4) h) KE))))
noncomputable def q169_18(C:YC)(lf:Nat)(n:K2)(x5:O)(h:HW):Rs:=
 n x5 (some (.val (.slice none 0 0))) h
theorem q169_18_eq(C:YC)(lf:Nat)(n:K2)(KR:KF)(KE:KX): ∀ F h,evX fx169 C lf [1,1,0] F h (fun F h=>n (F 5) (F 7) h) KR KE=q169_18 C lf n (F 5) h:=by
 intro F h;kernel_rfl
noncomputable def q169_19(C:YC)(lf:Nat)(r:K1)(x5:O)(h:HW):Rs:=
 q169_18 C lf (fun x5 x7 h=>q169_17 C lf r x5 x7 h) x5 h
theorem q169_19_eq(C:YC)(lf:Nat)(r:K1)(KN:KF)(KE:KX): ∀ F h,evX fx169 C lf [1,1] F h KN (fun F h=>r (F 4) h) KE=q169_19 C lf r (F 5) h:=cSeq (a:=subX fx169 [1,1,0]) (b:=subX fx169 [1,1,1]) (by kernel_rfl) (B:=(fun F h=>q169_17 C lf r (F 5) (F 7) h)) (q169_17_eq C lf r KN KE) (q169_18_eq C lf (fun x5 x7 h=>q169_17 C lf r x5 x7 h) (fun F h=>r (F 4) h) KE)
noncomputable def q169_25(C:YC)(lf:Nat)(n:K1)(x0 x1:O)(h:HW):Rs:=
 ob x0 fun a20=>
 ob x1 fun a21=>
 bc (C (.fn 187) [a20,a21,(.int .i64 0),(.int .i64 17792)] h) fun y22 h22=>
 ob (ext 0 y22) fun y23=>
 ob (ext 1 y22) fun y24=>
 n (some y23) h22
theorem q169_25_eq(C:YC)(lf:Nat)(n:K1)(KR:KF)(KE:KX): ∀ F h,evX fx169 C lf [1,0] F h (fun F h=>n (F 5) h) KR KE=q169_25 C lf n (F 0) (F 1) h:=by
 intro F h;kernel_rfl
noncomputable def q169_26(C:YC)(lf:Nat)(r:K1)(x0 x1:O)(h:HW):Rs:=
 q169_25 C lf (fun x5 h=>q169_19 C lf r x5 h) x0 x1 h
theorem q169_26_eq(C:YC)(lf:Nat)(r:K1)(KN:KF)(KE:KX): ∀ F h,evX fx169 C lf [1] F h KN (fun F h=>r (F 4) h) KE=q169_26 C lf r (F 0) (F 1) h:=cSeq (a:=subX fx169 [1,0]) (b:=subX fx169 [1,1]) (by kernel_rfl) (B:=(fun F h=>q169_19 C lf r (F 5) h)) (q169_19_eq C lf r KN KE) (q169_25_eq C lf (fun x5 h=>q169_19 C lf r x5 h) (fun F h=>r (F 4) h) KE)
noncomputable def q169_27(C:YC)(lf:Nat)(n:K2)(x0 x1:O)(h:HW):Rs:=
 n x0 x1 h
theorem q169_27_eq(C:YC)(lf:Nat)(n:K2)(KR:KF)(KE:KX): ∀ F h,evX fx169 C lf [0] F h (fun F h=>n (F 0) (F 1) h) KR KE=q169_27 C lf n (F 0) (F 1) h:=by
 intro F h;kernel_rfl
noncomputable def q169_28(C:YC)(lf:Nat)(r:K1)(x0 x1:O)(h:HW):Rs:=
 q169_27 C lf (fun x0 x1 h=>q169_26 C lf r x0 x1 h) x0 x1 h
theorem q169_28_eq(C:YC)(lf:Nat)(r:K1)(KN:KF)(KE:KX): ∀ F h,evX fx169 C lf [] F h KN (fun F h=>r (F 4) h) KE=q169_28 C lf r (F 0) (F 1) h:=cSeq (a:=subX fx169 [0]) (b:=subX fx169 [1]) (by kernel_rfl) (B:=(fun F h=>q169_26 C lf r (F 0) (F 1) h)) (q169_26_eq C lf r KN KE) (q169_27_eq C lf (fun x0 x1 h=>q169_26 C lf r x0 x1 h) (fun F h=>r (F 4) h) KE)
noncomputable def fs169(C:YC)(lf:Nat)(a0 a1:SV)(h:HW):Rs:=q169_28 C lf ff169 (some a0) (some a1) h
theorem fs169_eq(C:YC)(lf:Nat)(a0 a1:SV)(h:HW):yFn Tryz.prog fx169 C lf [a0,a1] h=fs169 C lf a0 a1 h:=fnX (K:=(fun F h=>ff169 (F 4) h)) (by kernel_rfl) (((q169_28_eq C lf ff169 (fun F h=>ff169 (F 4) h) (fun _ _ _=>none)) _ h).trans (by kernel_rfl))
noncomputable def fy169:YX Tryz.prog:=Y2 fx169 fs169 fs169_eq (by kernel_rfl)
noncomputable def fx170:XF Tryz.prog:=⟨170,Tryz.f170,fun r=>bif Nat.beq r 5 then .ord [0,1,2,3,4,6,5,7,8,9] [(5,[6])] else .text,Tryz.func170,by kernel_rfl,by kernel_rfl,by kernel_rfl,by kernel_rfl⟩
noncomputable def ff170(x4:O)(h:HW):Rs:=
 ob x4 fun a0=>
 some (.ret a0,h)
noncomputable def q170_1(C:YC)(lf:Nat)(r:K1)(h:HW):Rs:=
 r (some (.int .i64 (-1))) h
theorem q170_1_eq(C:YC)(lf:Nat)(r:K1)(KN:KF)(KE:KX): ∀ F h,evX fx170 C lf [1,1,1] F h KN (fun F h=>r (F 4) h) KE=q170_1 C lf r h:=by
 intro F h;kernel_rfl
noncomputable def q170_30(C:YC)(lf:Nat)(n:K4)(r:K1)(e0:K0)(x5 x10 x11 x12:O)(h:HW):Rs:=
 ob x12 fun a3=>
 ob x11 fun a4=>
 ob (bin Tryz.prog .lss 3 a3 a4) fun y5=>
 yIf y5
 (ob x12 fun a6=>
 ob x10 fun a7=>
 ob x12 fun a8=>
 ob (ixS 32 a7 a8) fun y9=>
 ob (ldN 32 y9 h) fun y10=>
 b2 (yAl Tryz.prog 140 h) fun y11 h11=>
 ob (st 32 y11 y10 h11) fun h12=>
 ob (ldN 32 y11 h12) fun y13=>
 bcn (C (.fn 171) [y13] h12) fun y14 h14=>
 ob (bin Tryz.prog .neq 3 y14 (.int .i64 0)) fun y15=>
 bcn (gd true (some y15) (ob (ldN 32 y11 h14) fun y16=>
 some (.ret y16,h14)) h14) fun y17 h17=>
 bcn (gd true (some y15) (ob x5 fun a18=>
 ob (ldN 32 a18 h17) fun y19=>
 some (.ret y19,h17)) h17) fun y20 h20=>
 bcn (gd true (some y15) (bcn (C (.fn 195) [y17] h20) fun y21 h21=>
 some (.ret y21,h21)) h20) fun y22 h22=>
 ck (chkH [(6,gdA true (some y15) (adrO x5)),(4,gdA true (some y15) (adrO (some y11))),(0,adrO (some y11))] h20 h22 [6]) <|
 bcn (gd true (some y15) (bcn (C (.fn 195) [y20] h22) fun y23 h23=>
 some (.ret y23,h23)) h22) fun y24 h24=>
 bcn (gd true (some y15) (ob (bin Tryz.prog .eql 9 y22 y24) fun y25=>
 some (.ret y25,h24)) h24) fun y26 h26=>
 ob (ypk y15 y26 (.bool false)) fun y27=>
 yIf y27
 (r (some a6) h26)
 (ob x12 fun a28=>
 ob (bin Tryz.prog .add 3 a28 (.int .i64 1)) fun y29=>
 n x5 x10 x11 (some y29) h26))
 (e0 h)
theorem q170_30_eq(C:YC)(lf:Nat)(n:K4)(r:K1)(e0:K0)(KE:KX): ∀ F h,evX fx170 C lf [1,1,0,1,0,0] F h (fun F h=>n (F 5) (F 10) (F 11) (F 12) h) (fun F h=>r (F 4) h) (bk 0 (fun F h=>e0 h) KE)=q170_30 C lf n r e0 (F 5) (F 10) (F 11) (F 12) h:=by
 intro F h;kernel_rfl
noncomputable def l170_2(C:YC)(lf:Nat)(r:K1)(e0:K0)(k:O × O × O × O→HW→Rs)(s:O × O × O × O)(h:HW):Rs:=
 q170_30 C lf (fun x5 x10 x11 x12 h=>k (x5,x10,x11,x12) h) r e0 s.1 s.2.1 s.2.2.1 s.2.2.2 h
noncomputable def q170_33(C:YC)(lf:Nat)(n:K4)(x0 x5:O)(h:HW):Rs:=
 ob x0 fun a31=>
 ob (lenE Tryz.prog 242 a31) fun y32=>
 n x5 (some a31) (some y32) (some (.int .i64 0)) h
theorem q170_33_eq(C:YC)(lf:Nat)(n:K4)(KR:KF)(KE:KX): ∀ F h,evX fx170 C lf [1,1,0,0] F h (fun F h=>n (F 5) (F 10) (F 11) (F 12) h) KR KE=q170_33 C lf n (F 0) (F 5) h:=by
 intro F h;kernel_rfl
noncomputable def q170_34(C:YC)(lf:Nat)(n:K0)(r:K1)(x0 x5:O)(h:HW):Rs:=
 q170_33 C lf (fun x5 x10 x11 x12 h=>lp (l170_2 C lf r n) lf (x5,x10,x11,x12) h) x0 x5 h
theorem q170_34_eq(C:YC)(lf:Nat)(n:K0)(r:K1)(KE:KX): ∀ F h,evX fx170 C lf [1,1,0] F h (fun F h=>n h) (fun F h=>r (F 4) h) KE=q170_34 C lf n r (F 0) (F 5) h:=cSeq (a:=subX fx170 [1,1,0,0]) (b:=subX fx170 [1,1,0,1]) (by kernel_rfl) (B:=(fun F h=>lp (l170_2 C lf r n) lf ((F 5),(F 10),(F 11),(F 12)) h)) (cBlock (id:=0) (a:=subX fx170 [1,1,0,1,0]) (by kernel_rfl) (cLoop (a:=subX fx170 [1,1,0,1,0,0]) (g:=fun F=>(F 5,F 10,F 11,F 12)) (body:=l170_2 C lf r n) (by kernel_rfl) (fun k=>(q170_30_eq C lf (fun x5 x10 x11 x12 h=>k (x5,x10,x11,x12) h) r n KE)))) (q170_33_eq C lf (fun x5 x10 x11 x12 h=>lp (l170_2 C lf r n) lf (x5,x10,x11,x12) h) (fun F h=>r (F 4) h) KE)
noncomputable def q170_35(C:YC)(lf:Nat)(r:K1)(x0 x5:O)(h:HW):Rs:=
 q170_34 C lf (fun h=>q170_1 C lf r h) r x0 x5 h
theorem q170_35_eq(C:YC)(lf:Nat)(r:K1)(KN:KF)(KE:KX): ∀ F h,evX fx170 C lf [1,1] F h KN (fun F h=>r (F 4) h) KE=q170_35 C lf r (F 0) (F 5) h:=cSeq (a:=subX fx170 [1,1,0]) (b:=subX fx170 [1,1,1]) (by kernel_rfl) (B:=(fun F h=>q170_1 C lf r h)) (q170_1_eq C lf r KN KE) (q170_34_eq C lf (fun h=>q170_1 C lf r h) r KE)
noncomputable def q170_40(C:YC)(lf:Nat)(n:K2)(x0 x1:O)(h:HW):Rs:=
 ob x1 fun a36=>
 bc (C (.fn 68) [a36,(.int .i64 0)] h) fun y37 h37=>
 b2 (yAl Tryz.prog 140 h37) fun y38 h38=>
 ob (st 32 y38 y37 h38) fun h39=>
 n x0 (some y38) h39
theorem q170_40_eq(C:YC)(lf:Nat)(n:K2)(KR:KF)(KE:KX): ∀ F h,evX fx170 C lf [1,0] F h (fun F h=>n (F 0) (F 5) h) KR KE=q170_40 C lf n (F 0) (F 1) h:=by
 intro F h;kernel_rfl
noncomputable def q170_41(C:YC)(lf:Nat)(r:K1)(x0 x1:O)(h:HW):Rs:=
 q170_40 C lf (fun x0 x5 h=>q170_35 C lf r x0 x5 h) x0 x1 h
theorem q170_41_eq(C:YC)(lf:Nat)(r:K1)(KN:KF)(KE:KX): ∀ F h,evX fx170 C lf [1] F h KN (fun F h=>r (F 4) h) KE=q170_41 C lf r (F 0) (F 1) h:=cSeq (a:=subX fx170 [1,0]) (b:=subX fx170 [1,1]) (by kernel_rfl) (B:=(fun F h=>q170_35 C lf r (F 0) (F 5) h)) (q170_35_eq C lf r KN KE) (q170_40_eq C lf (fun x0 x5 h=>q170_35 C lf r x0 x5 h) (fun F h=>r (F 4) h) KE)
noncomputable def q170_42(C:YC)(lf:Nat)(n:K2)(x0 x1:O)(h:HW):Rs:=
 n x0 x1 h
theorem q170_42_eq(C:YC)(lf:Nat)(n:K2)(KR:KF)(KE:KX): ∀ F h,evX fx170 C lf [0] F h (fun F h=>n (F 0) (F 1) h) KR KE=q170_42 C lf n (F 0) (F 1) h:=by
 intro F h;kernel_rfl
noncomputable def q170_43(C:YC)(lf:Nat)(r:K1)(x0 x1:O)(h:HW):Rs:=
 q170_42 C lf (fun x0 x1 h=>q170_41 C lf r x0 x1 h) x0 x1 h
theorem q170_43_eq(C:YC)(lf:Nat)(r:K1)(KN:KF)(KE:KX): ∀ F h,evX fx170 C lf [] F h KN (fun F h=>r (F 4) h) KE=q170_43 C lf r (F 0) (F 1) h:=cSeq (a:=subX fx170 [0]) (b:=subX fx170 [1]) (by kernel_rfl) (B:=(fun F h=>q170_41 C lf r (F 0) (F 1) h)) (q170_41_eq C lf r KN KE) (q170_42_eq C lf (fun x0 x1 h=>q170_41 C lf r x0 x1 h) (fun F h=>r (F 4) h) KE)
noncomputable def fs170(C:YC)(lf:Nat)(a0 a1:SV)(h:HW):Rs:=q170_43 C lf ff170 (some a0) (some a1) h
theorem fs170_eq(C:YC)(lf:Nat)(a0 a1:SV)(h:HW):yFn Tryz.prog fx170 C lf [a0,a1] h=fs170 C lf a0 a1 h:=fnX (K:=(fun F h=>ff170 (F 4) h)) (by kernel_rfl) (((q170_43_eq C lf ff170 (fun F h=>ff170 (F 4) h) (fun _ _ _=>none)) _ h).trans (by kernel_rfl))
noncomputable def fy170:YX Tryz.prog:=Y2 fx170 fs170 fs170_eq (by kernel_rfl)
noncomputable def fx171:XF Tryz.prog:=⟨171,Tryz.f171,fun _=> .text,Tryz.func171,by kernel_rfl,by kernel_rfl,by kernel_rfl,by kernel_rfl⟩
noncomputable def ff171(x2:O)(h:HW):Rs:=
 ob x2 fun a0=>
 some (.ret a0,h)
noncomputable def q171_2(C:YC)(lf:Nat)(r:K1)(x3:O)(h:HW):Rs:=
 ob x3 fun a1=>
 r (some a1) h
theorem q171_2_eq(C:YC)(lf:Nat)(r:K1)(KN:KF)(KE:KX): ∀ F h,evX fx171 C lf [1,1,1] F h KN (fun F h=>r (F 2) h) KE=q171_2 C lf r (F 3) h:=by
 intro F h;kernel_rfl
noncomputable def q171_17(C:YC)(lf:Nat)(n:K3)(e0:K1)(x1 x3 x5:O)(h:HW):Rs:=
 ob x5 fun a4=>
 ob (bin Tryz.prog .lss 3 a4 (.int .i64 4)) fun y5=>
 yIf y5
 (ob x5 fun a6=>
 ob x3 fun a7=>
 ob x1 fun a8=>
 ob (ixA 32 1 a8 a6) fun y9=>
 ob (ld1 y9 h) fun y10=>
 ob (cvI .i64 y10) fun y11=>
 ob (bin Tryz.prog .mul 3 (.int .i64 8) a6) fun y12=>
 ob (bin Tryz.prog .shl 3 y11 y12) fun y13=>
 ob (bin Tryz.prog .or 3 a7 y13) fun y14=>
 ob x5 fun a15=>
 ob (bin Tryz.prog .add 3 a15 (.int .i64 1)) fun y16=>
 n x1 (some y14) (some y16) h)
 (e0 x3 h)
theorem q171_17_eq(C:YC)(lf:Nat)(n:K3)(e0:K1)(KR:KF)(KE:KX): ∀ F h,evX fx171 C lf [1,1,0,1,0,0] F h (fun F h=>n (F 1) (F 3) (F 5) h) KR (bk 0 (fun F h=>e0 (F 3) h) KE)=q171_17 C lf n e0 (F 1) (F 3) (F 5) h:=by
 intro F h;kernel_rfl
noncomputable def l171_3(C:YC)(lf:Nat)(e0:K1)(k:O × O × O→HW→Rs)(s:O × O × O)(h:HW):Rs:=
 q171_17 C lf (fun x1 x3 x5 h=>k (x1,x3,x5) h) e0 s.1 s.2.1 s.2.2 h
noncomputable def q171_18(C:YC)(lf:Nat)(n:K3)(x1 x3:O)(h:HW):Rs:=
 n x1 x3 (some (.int .i64 0)) h
theorem q171_18_eq(C:YC)(lf:Nat)(n:K3)(KR:KF)(KE:KX): ∀ F h,evX fx171 C lf [1,1,0,0] F h (fun F h=>n (F 1) (F 3) (F 5) h) KR KE=q171_18 C lf n (F 1) (F 3) h:=by
 intro F h;kernel_rfl
noncomputable def q171_19(C:YC)(lf:Nat)(n:K1)(x1 x3:O)(h:HW):Rs:=
 q171_18 C lf (fun x1 x3 x5 h=>lp (l171_3 C lf n) lf (x1,x3,x5) h) x1 x3 h
theorem q171_19_eq(C:YC)(lf:Nat)(n:K1)(KR:KF)(KE:KX): ∀ F h,evX fx171 C lf [1,1,0] F h (fun F h=>n (F 3) h) KR KE=q171_19 C lf n (F 1) (F 3) h:=cSeq (a:=subX fx171 [1,1,0,0]) (b:=subX fx171 [1,1,0,1]) (by kernel_rfl) (B:=(fun F h=>lp (l171_3 C lf n) lf ((F 1),(F 3),(F 5)) h)) (cBlock (id:=0) (a:=subX fx171 [1,1,0,1,0]) (by kernel_rfl) (cLoop (a:=subX fx171 [1,1,0,1,0,0]) (g:=fun F=>(F 1,F 3,F 5)) (body:=l171_3 C lf n) (by kernel_rfl) (fun k=>(q171_17_eq C lf (fun x1 x3 x5 h=>k (x1,x3,x5) h) n KR KE)))) (q171_18_eq C lf (fun x1 x3 x5 h=>lp (l171_3 C lf n) lf (x1,x3,x5) h) KR KE)
noncomputable def q171_20(C:YC)(lf:Nat)(r:K1)(x1 x3:O)(h:HW):Rs:=
 q171_19 C lf (fun x3 h=>q171_2 C lf r x3 h) x1 x3 h
theorem q171_20_eq(C:YC)(lf:Nat)(r:K1)(KN:KF)(KE:KX): ∀ F h,evX fx171 C lf [1,1] F h KN (fun F h=>r (F 2) h) KE=q171_20 C lf r (F 1) (F 3) h:=cSeq (a:=subX fx171 [1,1,0]) (b:=subX fx171 [1,1,1]) (by kernel_rfl) (B:=(fun F h=>q171_2 C lf r (F 3) h)) (q171_2_eq C lf r KN KE) (q171_19_eq C lf (fun x3 h=>q171_2 C lf r x3 h) (fun F h=>r (F 2) h) KE)
noncomputable def q171_21(C:YC)(lf:Nat)(n:K2)(x1:O)(h:HW):Rs:=
 n x1 (some (.int .i64 0)) h
theorem q171_21_eq(C:YC)(lf:Nat)(n:K2)(KR:KF)(KE:KX): ∀ F h,evX fx171 C lf [1,0] F h (fun F h=>n (F 1) (F 3) h) KR KE=q171_21 C lf n (F 1) h:=by
 intro F h;kernel_rfl
noncomputable def q171_22(C:YC)(lf:Nat)(r:K1)(x1:O)(h:HW):Rs:=
 q171_21 C lf (fun x1 x3 h=>q171_20 C lf r x1 x3 h) x1 h
theorem q171_22_eq(C:YC)(lf:Nat)(r:K1)(KN:KF)(KE:KX): ∀ F h,evX fx171 C lf [1] F h KN (fun F h=>r (F 2) h) KE=q171_22 C lf r (F 1) h:=cSeq (a:=subX fx171 [1,0]) (b:=subX fx171 [1,1]) (by kernel_rfl) (B:=(fun F h=>q171_20 C lf r (F 1) (F 3) h)) (q171_20_eq C lf r KN KE) (q171_21_eq C lf (fun x1 x3 h=>q171_20 C lf r x1 x3 h) (fun F h=>r (F 2) h) KE)
noncomputable def q171_25(C:YC)(lf:Nat)(n:K1)(x0:O)(h:HW):Rs:=
 ob x0 fun a23=>
 b2 (ybx 140 a23 h) fun y24 h24=>
 n (some y24) h24
theorem q171_25_eq(C:YC)(lf:Nat)(n:K1)(KR:KF)(KE:KX): ∀ F h,evX fx171 C lf [0] F h (fun F h=>n (F 1) h) KR KE=q171_25 C lf n (F 0) h:=by
 intro F h;kernel_rfl
noncomputable def q171_26(C:YC)(lf:Nat)(r:K1)(x0:O)(h:HW):Rs:=
 q171_25 C lf (fun x1 h=>q171_22 C lf r x1 h) x0 h
theorem q171_26_eq(C:YC)(lf:Nat)(r:K1)(KN:KF)(KE:KX): ∀ F h,evX fx171 C lf [] F h KN (fun F h=>r (F 2) h) KE=q171_26 C lf r (F 0) h:=cSeq (a:=subX fx171 [0]) (b:=subX fx171 [1]) (by kernel_rfl) (B:=(fun F h=>q171_22 C lf r (F 1) h)) (q171_22_eq C lf r KN KE) (q171_25_eq C lf (fun x1 h=>q171_22 C lf r x1 h) (fun F h=>r (F 2) h) KE)
noncomputable def fs171(C:YC)(lf:Nat)(a0:SV)(h:HW):Rs:=q171_26 C lf ff171 (some a0) h
theorem fs171_eq(C:YC)(lf:Nat)(a0:SV)(h:HW):yFn Tryz.prog fx171 C lf [a0] h=fs171 C lf a0 h:=fnX (K:=(fun F h=>ff171 (F 2) h)) (by kernel_rfl) (((q171_26_eq C lf ff171 (fun F h=>ff171 (F 2) h) (fun _ _ _=>none)) _ h).trans (by kernel_rfl))
noncomputable def fy171:YX Tryz.prog:=Y1 fx171 fs171 fs171_eq (by kernel_rfl)
noncomputable def fx172:XF Tryz.prog:=⟨172,Tryz.f172,fun _=> .text,Tryz.func172,by kernel_rfl,by kernel_rfl,by kernel_rfl,by kernel_rfl⟩
noncomputable def ff172(x8:O)(h:HW):Rs:=
 ob x8 fun a0=>
 some (.ret a0,h)
noncomputable def q172_22(C:YC)(lf:Nat)(r:K1)(x0 x1 x2 x3:O)(h:HW):Rs:=
 ob x3 fun a1=>
 b2 (ybx 140 a1 h) fun y2 h2=>
 ob x0 fun a3=>
 ob x1 fun a4=>
 ob x2 fun a5=>
 ob (bin Tryz.prog .mul 3 a5 (.int .i64 32)) fun y6=>
 ob (semSlice Tryz.prog 140 y2 none none) fun y7=>
 bc (C (.fn 69) [a3,a4,y6,y7] h2) fun y8 h8=>
 ob (ext 0 y8) fun y9=>
 ob (ext 1 y8) fun y10=>
 ob (bin Tryz.prog .eql 25 y10 (.int .i64 27)) fun y11=>
 bc (gd false (some y11) (some (.ret y10,h8)) h8) fun y12 h12=>
 bc (gd false (some y11) (ob (bin Tryz.prog .eql 25 y12 (.int .i64 0)) fun y13=>
 some (.ret y13,h12)) h12) fun y14 h14=>
 bc (gd false (some y11) (some (.ret y14,h14)) h14) fun y15 h15=>
 bc (gd true (some y15) (some (.ret y9,h15)) h15) fun y16 h16=>
 bc (gd true (some y15) (ob (bin Tryz.prog .lss 3 y16 (.int .i64 32)) fun y17=>
 some (.ret y17,h16)) h16) fun y18 h18=>
 bc (gd false (some y11) (ob (ypk y15 y18 (.bool false)) fun y19=>
 some (.ret y19,h18)) h18) fun y20 h20=>
 ob (ypk y11 (.bool true) y20) fun y21=>
 yIf y21
 (r (some (.int .i64 28)) h20)
 (r (some y10) h20)
theorem q172_22_eq(C:YC)(lf:Nat)(r:K1)(KN:KF)(KE:KX): ∀ F h,evX fx172 C lf [] F h KN (fun F h=>r (F 8) h) KE=q172_22 C lf r (F 0) (F 1) (F 2) (F 3) h:=by
 intro F h;kernel_rfl
noncomputable def fs172(C:YC)(lf:Nat)(a0 a1 a2 a3:SV)(h:HW):Rs:=q172_22 C lf ff172 (some a0) (some a1) (some a2) (some a3) h
theorem fs172_eq(C:YC)(lf:Nat)(a0 a1 a2 a3:SV)(h:HW):yFn Tryz.prog fx172 C lf [a0,a1,a2,a3] h=fs172 C lf a0 a1 a2 a3 h:=fnX (K:=(fun F h=>ff172 (F 8) h)) (by kernel_rfl) (((q172_22_eq C lf ff172 (fun F h=>ff172 (F 8) h) (fun _ _ _=>none)) _ h).trans (by kernel_rfl))
noncomputable def fy172:YX Tryz.prog:=Y4 fx172 fs172 fs172_eq (by kernel_rfl)
noncomputable def fx174:XF Tryz.prog:=⟨174,Tryz.f174,fun _=> .text,Tryz.func174,by kernel_rfl,by kernel_rfl,by kernel_rfl,by kernel_rfl⟩
noncomputable def ff174(h:HW):Rs:=
 some (.ret (.tup []),h)
noncomputable def q174_20(C:YC)(lf:Nat)(n:K4)(e0:K0)(x1 x5 x6 x7:O)(h:HW):Rs:=
 ob x7 fun a1=>
 ob x6 fun a2=>
 ob (bin Tryz.prog .lss 3 a1 a2) fun y3=>
 yIf y3
 (ob x5 fun a4=>
 ob x7 fun a5=>
 ob (ixS 1 a4 a5) fun y6=>
 ob (ld1 y6 h) fun y7=>
 ob (bin Tryz.prog .gtr 3 y7 (.int .i64 0)) fun y8=>
 yIf y8
 (ob x1 fun a9=>
 ob (ld1 a9 h) fun y10=>
 ob (bin Tryz.prog .sub 3 y7 (.int .i64 1)) fun y11=>
 b2 (ybs Tryz.prog 46 1 [0] [y11] h) fun y12 h12=>
 b2 (ybl Tryz.prog .append #[46,46] [y10,y12] h12) fun y13 h13=>
 ob x1 fun a14=>
 ob (st 1 a14 y13 h13) fun h15=>
 ob x7 fun a16=>
 ob (bin Tryz.prog .add 3 a16 (.int .i64 1)) fun y17=>
 n x1 x5 x6 (some y17) h15)
 (ob x7 fun a18=>
 ob (bin Tryz.prog .add 3 a18 (.int .i64 1)) fun y19=>
 n x1 x5 x6 (some y19) h))
 (e0 h)
theorem q174_20_eq(C:YC)(lf:Nat)(n:K4)(e0:K0)(KR:KF)(KE:KX): ∀ F h,evX fx174 C lf [1,0,0] F h (fun F h=>n (F 1) (F 5) (F 6) (F 7) h) KR (bk 0 (fun F h=>e0 h) KE)=q174_20 C lf n e0 (F 1) (F 5) (F 6) (F 7) h:=by
 intro F h;kernel_rfl
noncomputable def l174_0(C:YC)(lf:Nat)(e0:K0)(k:O × O × O × O→HW→Rs)(s:O × O × O × O)(h:HW):Rs:=
 q174_20 C lf (fun x1 x5 x6 x7 h=>k (x1,x5,x6,x7) h) e0 s.1 s.2.1 s.2.2.1 s.2.2.2 h
noncomputable def q174_23(C:YC)(lf:Nat)(n:K4)(x0 x1:O)(h:HW):Rs:=
 ob x0 fun a21=>
 ob (lenE Tryz.prog 46 a21) fun y22=>
 n x1 (some a21) (some y22) (some (.int .i64 0)) h
theorem q174_23_eq(C:YC)(lf:Nat)(n:K4)(KR:KF)(KE:KX): ∀ F h,evX fx174 C lf [0] F h (fun F h=>n (F 1) (F 5) (F 6) (F 7) h) KR KE=q174_23 C lf n (F 0) (F 1) h:=by
 intro F h;kernel_rfl
noncomputable def q174_24(C:YC)(lf:Nat)(n:K0)(x0 x1:O)(h:HW):Rs:=
 q174_23 C lf (fun x1 x5 x6 x7 h=>lp (l174_0 C lf n) lf (x1,x5,x6,x7) h) x0 x1 h
theorem q174_24_eq(C:YC)(lf:Nat)(n:K0)(KR:KF)(KE:KX): ∀ F h,evX fx174 C lf [] F h (fun F h=>n h) KR KE=q174_24 C lf n (F 0) (F 1) h:=cSeq (a:=subX fx174 [0]) (b:=subX fx174 [1]) (by kernel_rfl) (B:=(fun F h=>lp (l174_0 C lf n) lf ((F 1),(F 5),(F 6),(F 7)) h)) (cBlock (id:=0) (a:=subX fx174 [1,0]) (by kernel_rfl) (cLoop (a:=subX fx174 [1,0,0]) (g:=fun F=>(F 1,F 5,F 6,F 7)) (body:=l174_0 C lf n) (by kernel_rfl) (fun k=>(q174_20_eq C lf (fun x1 x5 x6 x7 h=>k (x1,x5,x6,x7) h) n KR KE)))) (q174_23_eq C lf (fun x1 x5 x6 x7 h=>lp (l174_0 C lf n) lf (x1,x5,x6,x7) h) KR KE)
noncomputable def fs174(C:YC)(lf:Nat)(a0 a1:SV)(h:HW):Rs:=q174_24 C lf ff174 (some a0) (some a1) h
theorem fs174_eq(C:YC)(lf:Nat)(a0 a1:SV)(h:HW):yFn Tryz.prog fx174 C lf [a0,a1] h=fs174 C lf a0 a1 h:=fnX (K:=(fun F h=>ff174 h)) (by kernel_rfl) (((q174_24_eq C lf ff174 (fun F h=>ff174 h) (fun _ _ _=>none)) _ h).trans (by kernel_rfl))
noncomputable def fy174:YX Tryz.prog:=Y2 fx174 fs174 fs174_eq (by kernel_rfl)
noncomputable def fx177:XF Tryz.prog:=⟨177,Tryz.f177,fun _=> .text,Tryz.func177,by kernel_rfl,by kernel_rfl,by kernel_rfl,by kernel_rfl⟩
noncomputable def ff177(x2 x3:O)(h:HW):Rs:=
 ob x2 fun a0=>
 ob x3 fun a1=>
 some (.ret (.tup [a0,a1]),h)
noncomputable def q177_2(C:YC)(lf:Nat)(r:K2)(h:HW):Rs:=
 r (some (.int .i64 0)) (some (.int .i64 28)) h
theorem q177_2_eq(C:YC)(lf:Nat)(r:K2)(KN:KF)(KE:KX): ∀ F h,evX fx177 C lf [1,1,1] F h KN (fun F h=>r (F 2) (F 3) h) KE=q177_2 C lf r h:=by
 intro F h;kernel_rfl
noncomputable def q177_55(C:YC)(lf:Nat)(n:K2)(r:K2)(e0:K0)(x0 x9:O)(h:HW):Rs:=
 ob x9 fun a4=>
 ob (bin Tryz.prog .lss 3 a4 (.int .i64 64)) fun y5=>
 yIf y5
 (ob x9 fun a6=>
 ob (bin Tryz.prog .mul 3 a6 (.int .i64 64)) fun y7=>
 ob x0 fun a8=>
 ob (semNil a8) fun y9=>
 ob (fa 1 y9) fun y10=>
 ob (ixA 64 1 y10 a6) fun y11=>
 ob (ld1 y11 h) fun y12=>
 ob (unE .xor y12) fun y13=>
 bc (C (.fn 197) [y13] h) fun y14 h14=>
 ob (bin Tryz.prog .add 3 y7 y14) fun y15=>
 ob x0 fun a16=>
 ob (semNil a16) fun y17=>
 ob (fa 1 y17) fun y18=>
 ob (ixA 64 1 y18 a6) fun y19=>
 ob (ld1 y19 h14) fun y20=>
 ob (bin Tryz.prog .eql 208 y20 (.int .u64 18446744073709551615)) fun y21=>
 bc (gd false (some y21) (some (.ret y15,h14)) h14) fun y22 h22=>
 bc (gd false (some y21) (ob x0 fun a23=>
 some (.ret a23,h22)) h22) fun y24 h24=>
 bc (gd false (some y21) (ob (semNil y24) fun y25=>
 some (.ret y25,h24)) h24) fun y26 h26=>
 bc (gd false (some y21) (ob (fa 0 y26) fun y27=>
 some (.ret y27,h26)) h26) fun y28 h28=>
 bc (gd false (some y21) (ob (ld1 y28 h28) fun y29=>
 some (.ret y29,h28)) h28) fun y30 h30=>
 bc (gd false (some y21) (ob (bin Tryz.prog .geq 3 y22 y30) fun y31=>
 some (.ret y31,h30)) h30) fun y32 h32=>
 ob (ypk y21 (.bool true) y32) fun y33=>
 yIf y33
 (ob x9 fun a34=>
 ob (bin Tryz.prog .add 3 a34 (.int .i64 1)) fun y35=>
 n x0 (some y35) h32)
 (ob x0 fun a36=>
 ob (semNil a36) fun y37=>
 ob (fa 1 y37) fun y38=>
 ob (ixA 64 1 y38 a6) fun y39=>
 ob (ld1 y39 h32) fun y40=>
 ob (bin Tryz.prog .rem 3 y15 (.int .i64 64)) fun y41=>
 ob (bin Tryz.prog .shl 208 (.int .u64 1) y41) fun y42=>
 ob (bin Tryz.prog .or 208 y40 y42) fun y43=>
 ob (semNil a36) fun y44=>
 ob (fa 1 y44) fun y45=>
 ob (ixA 64 1 y45 a6) fun y46=>
 ob (st 1 y46 y43 h32) fun h47=>
 ob x0 fun a48=>
 ob (semNil a48) fun y49=>
 ob (fa 65 y49) fun y50=>
 ob (ld1 y50 h47) fun y51=>
 ob (semBuild Tryz.prog 249 [] []) fun y52=>
 ob (ixS 64 y51 y15) fun y53=>
 ob (st 64 y53 y52 h47) fun h54=>
 r (some y15) (some (.int .i64 0)) h54))
 (e0 h)
theorem q177_55_eq(C:YC)(lf:Nat)(n:K2)(r:K2)(e0:K0)(KE:KX): ∀ F h,evX fx177 C lf [1,1,0,1,0,0] F h (fun F h=>n (F 0) (F 9) h) (fun F h=>r (F 2) (F 3) h) (bk 0 (fun F h=>e0 h) KE)=q177_55 C lf n r e0 (F 0) (F 9) h:=by
 intro F h;kernel_rfl
noncomputable def l177_3(C:YC)(lf:Nat)(r:K2)(e0:K0)(k:O × O→HW→Rs)(s:O × O)(h:HW):Rs:=
 q177_55 C lf (fun x0 x9 h=>k (x0,x9) h) r e0 s.1 s.2 h
noncomputable def q177_56(C:YC)(lf:Nat)(n:K2)(x0:O)(h:HW):Rs:=
 n x0 (some (.int .i64 0)) h
theorem q177_56_eq(C:YC)(lf:Nat)(n:K2)(KR:KF)(KE:KX): ∀ F h,evX fx177 C lf [1,1,0,0] F h (fun F h=>n (F 0) (F 9) h) KR KE=q177_56 C lf n (F 0) h:=by
 intro F h;kernel_rfl
noncomputable def q177_57(C:YC)(lf:Nat)(n:K0)(r:K2)(x0:O)(h:HW):Rs:=
 q177_56 C lf (fun x0 x9 h=>lp (l177_3 C lf r n) lf (x0,x9) h) x0 h
theorem q177_57_eq(C:YC)(lf:Nat)(n:K0)(r:K2)(KE:KX): ∀ F h,evX fx177 C lf [1,1,0] F h (fun F h=>n h) (fun F h=>r (F 2) (F 3) h) KE=q177_57 C lf n r (F 0) h:=cSeq (a:=subX fx177 [1,1,0,0]) (b:=subX fx177 [1,1,0,1]) (by kernel_rfl) (B:=(fun F h=>lp (l177_3 C lf r n) lf ((F 0),(F 9)) h)) (cBlock (id:=0) (a:=subX fx177 [1,1,0,1,0]) (by kernel_rfl) (cLoop (a:=subX fx177 [1,1,0,1,0,0]) (g:=fun F=>(F 0,F 9)) (body:=l177_3 C lf r n) (by kernel_rfl) (fun k=>(q177_55_eq C lf (fun x0 x9 h=>k (x0,x9) h) r n KE)))) (q177_56_eq C lf (fun x0 x9 h=>lp (l177_3 C lf r n) lf (x0,x9) h) (fun F h=>r (F 2) (F 3) h) KE)
noncomputable def q177_58(C:YC)(lf:Nat)(r:K2)(x0:O)(h:HW):Rs:=
 q177_57 C lf (fun h=>q177_2 C lf r h) r x0 h
theorem q177_58_eq(C:YC)(lf:Nat)(r:K2)(KN:KF)(KE:KX): ∀ F h,evX fx177 C lf [1,1] F h KN (fun F h=>r (F 2) (F 3) h) KE=q177_58 C lf r (F 0) h:=cSeq (a:=subX fx177 [1,1,0]) (b:=subX fx177 [1,1,1]) (by kernel_rfl) (B:=(fun F h=>q177_2 C lf r h)) (q177_2_eq C lf r KN KE) (q177_57_eq C lf (fun h=>q177_2 C lf r h) r KE)
noncomputable def q177_62(C:YC)(lf:Nat)(n:K1)(r:K2)(x0:O)(h:HW):Rs:=
 ob x0 fun a59=>
 bc (C (.fn 178) [a59] h) fun y60 h60=>
 ob (unE .not y60) fun y61=>
 yIf y61
 (r (some (.int .i64 0)) (some (.int .i64 14)) h60)
 (n x0 h60)
theorem q177_62_eq(C:YC)(lf:Nat)(n:K1)(r:K2)(KE:KX): ∀ F h,evX fx177 C lf [1,0] F h (fun F h=>n (F 0) h) (fun F h=>r (F 2) (F 3) h) KE=q177_62 C lf n r (F 0) h:=by
 intro F h;kernel_rfl
noncomputable def q177_63(C:YC)(lf:Nat)(r:K2)(x0:O)(h:HW):Rs:=
 q177_62 C lf (fun x0 h=>q177_58 C lf r x0 h) r x0 h
theorem q177_63_eq(C:YC)(lf:Nat)(r:K2)(KN:KF)(KE:KX): ∀ F h,evX fx177 C lf [1] F h KN (fun F h=>r (F 2) (F 3) h) KE=q177_63 C lf r (F 0) h:=cSeq (a:=subX fx177 [1,0]) (b:=subX fx177 [1,1]) (by kernel_rfl) (B:=(fun F h=>q177_58 C lf r (F 0) h)) (q177_58_eq C lf r KN KE) (q177_62_eq C lf (fun x0 h=>q177_58 C lf r x0 h) r KE)
noncomputable def q177_64(C:YC)(lf:Nat)(n:K1)(x0:O)(h:HW):Rs:=
 n x0 h
theorem q177_64_eq(C:YC)(lf:Nat)(n:K1)(KR:KF)(KE:KX): ∀ F h,evX fx177 C lf [0] F h (fun F h=>n (F 0) h) KR KE=q177_64 C lf n (F 0) h:=by
 intro F h;kernel_rfl
noncomputable def q177_65(C:YC)(lf:Nat)(r:K2)(x0:O)(h:HW):Rs:=
 q177_64 C lf (fun x0 h=>q177_63 C lf r x0 h) x0 h
theorem q177_65_eq(C:YC)(lf:Nat)(r:K2)(KN:KF)(KE:KX): ∀ F h,evX fx177 C lf [] F h KN (fun F h=>r (F 2) (F 3) h) KE=q177_65 C lf r (F 0) h:=cSeq (a:=subX fx177 [0]) (b:=subX fx177 [1]) (by kernel_rfl) (B:=(fun F h=>q177_63 C lf r (F 0) h)) (q177_63_eq C lf r KN KE) (q177_64_eq C lf (fun x0 h=>q177_63 C lf r x0 h) (fun F h=>r (F 2) (F 3) h) KE)
noncomputable def fs177(C:YC)(lf:Nat)(a0:SV)(h:HW):Rs:=q177_65 C lf ff177 (some a0) h
theorem fs177_eq(C:YC)(lf:Nat)(a0:SV)(h:HW):yFn Tryz.prog fx177 C lf [a0] h=fs177 C lf a0 h:=fnX (K:=(fun F h=>ff177 (F 2) (F 3) h)) (by kernel_rfl) (((q177_65_eq C lf ff177 (fun F h=>ff177 (F 2) (F 3) h) (fun _ _ _=>none)) _ h).trans (by kernel_rfl))
noncomputable def fy177:YX Tryz.prog:=Y1 fx177 fs177 fs177_eq (by kernel_rfl)
noncomputable def fx178:XF Tryz.prog:=⟨178,Tryz.f178,fun _=> .text,Tryz.func178,by kernel_rfl,by kernel_rfl,by kernel_rfl,by kernel_rfl⟩
noncomputable def ff178(x2:O)(h:HW):Rs:=
 ob x2 fun a0=>
 some (.ret a0,h)
noncomputable def q178_14(C:YC)(lf:Nat)(r:K1)(x0:O)(h:HW):Rs:=
 ob x0 fun a1=>
 ob (bin Tryz.prog .neq 124 a1 (.val (.pointer none))) fun y2=>
 bc (gd true (some y2) (ob x0 fun a3=>
 some (.ret a3,h)) h) fun y4 h4=>
 bc (gd true (some y2) (ob (semNil y4) fun y5=>
 some (.ret y5,h4)) h4) fun y6 h6=>
 bc (gd true (some y2) (ob (fa 0 y6) fun y7=>
 some (.ret y7,h6)) h6) fun y8 h8=>
 bc (gd true (some y2) (ob (ld1 y8 h8) fun y9=>
 some (.ret y9,h8)) h8) fun y10 h10=>
 bc (gd true (some y2) (ob (bin Tryz.prog .gtr 3 y10 (.int .i64 0)) fun y11=>
 some (.ret y11,h10)) h10) fun y12 h12=>
 ob (ypk y2 y12 (.bool false)) fun y13=>
 r (some y13) h12
theorem q178_14_eq(C:YC)(lf:Nat)(r:K1)(KN:KF)(KE:KX): ∀ F h,evX fx178 C lf [] F h KN (fun F h=>r (F 2) h) KE=q178_14 C lf r (F 0) h:=by
 intro F h;kernel_rfl
noncomputable def fs178(C:YC)(lf:Nat)(a0:SV)(h:HW):Rs:=q178_14 C lf ff178 (some a0) h
theorem fs178_eq(C:YC)(lf:Nat)(a0:SV)(h:HW):yFn Tryz.prog fx178 C lf [a0] h=fs178 C lf a0 h:=fnX (K:=(fun F h=>ff178 (F 2) h)) (by kernel_rfl) (((q178_14_eq C lf ff178 (fun F h=>ff178 (F 2) h) (fun _ _ _=>none)) _ h).trans (by kernel_rfl))
noncomputable def fy178:YX Tryz.prog:=Y1 fx178 fs178 fs178_eq (by kernel_rfl)
noncomputable def fx179:XF Tryz.prog:=⟨179,Tryz.f179,fun _=> .text,Tryz.func179,by kernel_rfl,by kernel_rfl,by kernel_rfl,by kernel_rfl⟩
noncomputable def ff179(x4:O)(h:HW):Rs:=
 ob x4 fun a0=>
 some (.ret a0,h)
noncomputable def q179_46(C:YC)(lf:Nat)(r:K1)(x0 x1:O)(h:HW):Rs:=
 ob x0 fun a1=>
 bc (C (.fn 178) [a1] h) fun y2 h2=>
 bc (gd true (some y2) (ob x1 fun a3=>
 some (.ret a3,h2)) h2) fun y4 h4=>
 bc (gd true (some y2) (ob (bin Tryz.prog .geq 3 y4 (.int .i64 0)) fun y5=>
 some (.ret y5,h4)) h4) fun y6 h6=>
 ob (ypk y2 y6 (.bool false)) fun y7=>
 bc (gd true (some y7) (ob x1 fun a8=>
 some (.ret a8,h6)) h6) fun y9 h9=>
 bc (gd true (some y7) (ob x0 fun a10=>
 some (.ret a10,h9)) h9) fun y11 h11=>
 bc (gd true (some y7) (ob (semNil y11) fun y12=>
 some (.ret y12,h11)) h11) fun y13 h13=>
 bc (gd true (some y7) (ob (fa 0 y13) fun y14=>
 some (.ret y14,h13)) h13) fun y15 h15=>
 bc (gd true (some y7) (ob (ld1 y15 h15) fun y16=>
 some (.ret y16,h15)) h15) fun y17 h17=>
 bc (gd true (some y7) (ob (bin Tryz.prog .lss 3 y9 y17) fun y18=>
 some (.ret y18,h17)) h17) fun y19 h19=>
 ob (ypk y7 y19 (.bool false)) fun y20=>
 bc (gd true (some y20) (ob x0 fun a21=>
 some (.ret a21,h19)) h19) fun y22 h22=>
 bc (gd true (some y20) (ob x1 fun a23=>
 some (.ret a23,h22)) h22) fun y24 h24=>
 bc (gd true (some y20) (ob (bin Tryz.prog .quo 3 y24 (.int .i64 64)) fun y25=>
 some (.ret y25,h24)) h24) fun y26 h26=>
 bc (gd true (some y20) (ob (semNil y22) fun y27=>
 some (.ret y27,h26)) h26) fun y28 h28=>
 bc (gd true (some y20) (ob (fa 1 y28) fun y29=>
 some (.ret y29,h28)) h28) fun y30 h30=>
 bc (gd true (some y20) (ob (ixA 64 1 y30 y26) fun y31=>
 some (.ret y31,h30)) h30) fun y32 h32=>
 bc (gd true (some y20) (ob (ld1 y32 h32) fun y33=>
 some (.ret y33,h32)) h32) fun y34 h34=>
 bc (gd true (some y20) (ob x1 fun a35=>
 some (.ret a35,h34)) h34) fun y36 h36=>
 bc (gd true (some y20) (ob (bin Tryz.prog .rem 3 y36 (.int .i64 64)) fun y37=>
 some (.ret y37,h36)) h36) fun y38 h38=>
 bc (gd true (some y20) (ob (bin Tryz.prog .shr 208 y34 y38) fun y39=>
 some (.ret y39,h38)) h38) fun y40 h40=>
 bc (gd true (some y20) (ob (bin Tryz.prog .and 208 y40 (.int .u64 1)) fun y41=>
 some (.ret y41,h40)) h40) fun y42 h42=>
 bc (gd true (some y20) (ob (bin Tryz.prog .eql 208 y42 (.int .u64 1)) fun y43=>
 some (.ret y43,h42)) h42) fun y44 h44=>
 ob (ypk y20 y44 (.bool false)) fun y45=>
 r (some y45) h44
theorem q179_46_eq(C:YC)(lf:Nat)(r:K1)(KN:KF)(KE:KX): ∀ F h,evX fx179 C lf [] F h KN (fun F h=>r (F 4) h) KE=q179_46 C lf r (F 0) (F 1) h:=by
 intro F h;kernel_rfl
noncomputable def fs179(C:YC)(lf:Nat)(a0 a1:SV)(h:HW):Rs:=q179_46 C lf ff179 (some a0) (some a1) h
theorem fs179_eq(C:YC)(lf:Nat)(a0 a1:SV)(h:HW):yFn Tryz.prog fx179 C lf [a0,a1] h=fs179 C lf a0 a1 h:=fnX (K:=(fun F h=>ff179 (F 4) h)) (by kernel_rfl) (((q179_46_eq C lf ff179 (fun F h=>ff179 (F 4) h) (fun _ _ _=>none)) _ h).trans (by kernel_rfl))
noncomputable def fy179:YX Tryz.prog:=Y2 fx179 fs179 fs179_eq (by kernel_rfl)
noncomputable def fx182:XF Tryz.prog:=⟨182,Tryz.f182,fun _=> .text,Tryz.func182,by kernel_rfl,by kernel_rfl,by kernel_rfl,by kernel_rfl⟩
noncomputable def ff182(x2:O)(h:HW):Rs:=
 ob x2 fun a0=>
 some (.ret a0,h)
noncomputable def q182_6(C:YC)(lf:Nat)(r:K1)(x0:O)(h:HW):Rs:=
 ob x0 fun a1=>
 ob (bin Tryz.prog .lss 3 a1 (.int .i64 6)) fun y2=>
 yIf y2
 (r (some (.int .i64 (-1))) h)
 (ob x0 fun a3=>
 ob (bin Tryz.prog .sub 3 a3 (.int .i64 6)) fun y4=>
 ob (bin Tryz.prog .quo 3 y4 (.int .i64 16)) fun y5=>
 r (some y5) h)
theorem q182_6_eq(C:YC)(lf:Nat)(r:K1)(KN:KF)(KE:KX): ∀ F h,evX fx182 C lf [] F h KN (fun F h=>r (F 2) h) KE=q182_6 C lf r (F 0) h:=by
 intro F h;kernel_rfl
noncomputable def fs182(C:YC)(lf:Nat)(a0:SV)(h:HW):Rs:=q182_6 C lf ff182 (some a0) h
theorem fs182_eq(C:YC)(lf:Nat)(a0:SV)(h:HW):yFn Tryz.prog fx182 C lf [a0] h=fs182 C lf a0 h:=fnX (K:=(fun F h=>ff182 (F 2) h)) (by kernel_rfl) (((q182_6_eq C lf ff182 (fun F h=>ff182 (F 2) h) (fun _ _ _=>none)) _ h).trans (by kernel_rfl))
noncomputable def fy182:YX Tryz.prog:=Y1 fx182 fs182 fs182_eq (by kernel_rfl)
noncomputable def fx183:XF Tryz.prog:=⟨183,Tryz.f183,fun _=> .text,Tryz.func183,by kernel_rfl,by kernel_rfl,by kernel_rfl,by kernel_rfl⟩
noncomputable def ff183(x6:O)(h:HW):Rs:=
 ob x6 fun a0=>
 some (.ret a0,h)
noncomputable def q183_17(C:YC)(lf:Nat)(r:K1)(x7 x8 x9:O)(h:HW):Rs:=
 ob x8 fun a1=>
 ob (bin Tryz.prog .gtr 3 a1 (.int .i64 0)) fun y2=>
 bc (gd true (some y2) (ob x7 fun a3=>
 some (.ret a3,h)) h) fun y4 h4=>
 bc (gd true (some y2) (ob (semNil y4) fun y5=>
 some (.ret y5,h4)) h4) fun y6 h6=>
 bc (gd true (some y2) (ob (fa 307 y6) fun y7=>
 some (.ret y7,h6)) h6) fun y8 h8=>
 bc (gd true (some y2) (ob (ld1 y8 h8) fun y9=>
 some (.ret y9,h8)) h8) fun y10 h10=>
 bc (gd true (some y2) (ob (bin Tryz.prog .eql 3 y10 (.int .i64 0)) fun y11=>
 some (.ret y11,h10)) h10) fun y12 h12=>
 ob (ypk y2 y12 (.bool false)) fun y13=>
 yIf y13
 (ob x9 fun a14=>
 ob (bin Tryz.prog .add 3 a14 (.int .i64 1)) fun y15=>
 r (some y15) h12)
 (ob x9 fun a16=>
 r (some a16) h12)
theorem q183_17_eq(C:YC)(lf:Nat)(r:K1)(KN:KF)(KE:KX): ∀ F h,evX fx183 C lf [1,1,1,1,1,1] F h KN (fun F h=>r (F 6) h) KE=q183_17 C lf r (F 7) (F 8) (F 9) h:=by
 intro F h;kernel_rfl
noncomputable def q183_37(C:YC)(lf:Nat)(n:K3)(x7 x8 x9:O)(h:HW):Rs:=
 ob x8 fun a18=>
 ob (bin Tryz.prog .geq 3 a18 (.int .i64 0)) fun y19=>
 bc (gd true (some y19) (ob x7 fun a20=>
 some (.ret a20,h)) h) fun y21 h21=>
 bc (gd true (some y19) (ob x8 fun a22=>
 some (.ret a22,h21)) h21) fun y23 h23=>
 bc (gd true (some y19) (ob (semNil y21) fun y24=>
 some (.ret y24,h23)) h23) fun y25 h25=>
 bc (gd true (some y19) (ob (fa 290 y25) fun y26=>
 some (.ret y26,h25)) h25) fun y27 h27=>
 bc (gd true (some y19) (ob (ixA 17 1 y27 y23) fun y28=>
 some (.ret y28,h27)) h27) fun y29 h29=>
 bc (gd true (some y19) (ob (ld1 y29 h29) fun y30=>
 some (.ret y30,h29)) h29) fun y31 h31=>
 bc (gd true (some y19) (ob (bin Tryz.prog .eql 3 y31 (.int .i64 0)) fun y32=>
 some (.ret y32,h31)) h31) fun y33 h33=>
 ob (ypk y19 y33 (.bool false)) fun y34=>
 yIf y34
 (ob x9 fun a35=>
 ob (bin Tryz.prog .add 3 a35 (.int .i64 1)) fun y36=>
 n x7 x8 (some y36) h33)
 (n x7 x8 x9 h33)
theorem q183_37_eq(C:YC)(lf:Nat)(n:K3)(KR:KF)(KE:KX): ∀ F h,evX fx183 C lf [1,1,1,1,1,0] F h (fun F h=>n (F 7) (F 8) (F 9) h) KR KE=q183_37 C lf n (F 7) (F 8) (F 9) h:=by
 intro F h;kernel_rfl
noncomputable def q183_38(C:YC)(lf:Nat)(r:K1)(x7 x8 x9:O)(h:HW):Rs:=
 q183_37 C lf (fun x7 x8 x9 h=>q183_17 C lf r x7 x8 x9 h) x7 x8 x9 h
theorem q183_38_eq(C:YC)(lf:Nat)(r:K1)(KN:KF)(KE:KX): ∀ F h,evX fx183 C lf [1,1,1,1,1] F h KN (fun F h=>r (F 6) h) KE=q183_38 C lf r (F 7) (F 8) (F 9) h:=cSeq (a:=subX fx183 [1,1,1,1,1,0]) (b:=subX fx183 [1,1,1,1,1,1]) (by kernel_rfl) (B:=(fun F h=>q183_17 C lf r (F 7) (F 8) (F 9) h)) (q183_17_eq C lf r KN KE) (q183_37_eq C lf (fun x7 x8 x9 h=>q183_17 C lf r x7 x8 x9 h) (fun F h=>r (F 6) h) KE)
noncomputable def q183_39(C:YC)(lf:Nat)(n:K3)(x7 x8:O)(h:HW):Rs:=
 n x7 x8 (some (.int .i64 1)) h
theorem q183_39_eq(C:YC)(lf:Nat)(n:K3)(KR:KF)(KE:KX): ∀ F h,evX fx183 C lf [1,1,1,1,0] F h (fun F h=>n (F 7) (F 8) (F 9) h) KR KE=q183_39 C lf n (F 7) (F 8) h:=by
 intro F h;kernel_rfl
noncomputable def q183_40(C:YC)(lf:Nat)(r:K1)(x7 x8:O)(h:HW):Rs:=
 q183_39 C lf (fun x7 x8 x9 h=>q183_38 C lf r x7 x8 x9 h) x7 x8 h
theorem q183_40_eq(C:YC)(lf:Nat)(r:K1)(KN:KF)(KE:KX): ∀ F h,evX fx183 C lf [1,1,1,1] F h KN (fun F h=>r (F 6) h) KE=q183_40 C lf r (F 7) (F 8) h:=cSeq (a:=subX fx183 [1,1,1,1,0]) (b:=subX fx183 [1,1,1,1,1]) (by kernel_rfl) (B:=(fun F h=>q183_38 C lf r (F 7) (F 8) (F 9) h)) (q183_38_eq C lf r KN KE) (q183_39_eq C lf (fun x7 x8 x9 h=>q183_38 C lf r x7 x8 x9 h) (fun F h=>r (F 6) h) KE)
noncomputable def q183_43(C:YC)(lf:Nat)(n:K2)(x2 x7:O)(h:HW):Rs:=
 ob x2 fun a41=>
 bc (C (.fn 182) [a41] h) fun y42 h42=>
 n x7 (some y42) h42
theorem q183_43_eq(C:YC)(lf:Nat)(n:K2)(KR:KF)(KE:KX): ∀ F h,evX fx183 C lf [1,1,1,0] F h (fun F h=>n (F 7) (F 8) h) KR KE=q183_43 C lf n (F 2) (F 7) h:=by
 intro F h;kernel_rfl
noncomputable def q183_44(C:YC)(lf:Nat)(r:K1)(x2 x7:O)(h:HW):Rs:=
 q183_43 C lf (fun x7 x8 h=>q183_40 C lf r x7 x8 h) x2 x7 h
theorem q183_44_eq(C:YC)(lf:Nat)(r:K1)(KN:KF)(KE:KX): ∀ F h,evX fx183 C lf [1,1,1] F h KN (fun F h=>r (F 6) h) KE=q183_44 C lf r (F 2) (F 7) h:=cSeq (a:=subX fx183 [1,1,1,0]) (b:=subX fx183 [1,1,1,1]) (by kernel_rfl) (B:=(fun F h=>q183_40 C lf r (F 7) (F 8) h)) (q183_40_eq C lf r KN KE) (q183_43_eq C lf (fun x7 x8 h=>q183_40 C lf r x7 x8 h) (fun F h=>r (F 6) h) KE)
noncomputable def q183_52(C:YC)(lf:Nat)(n:K2)(r:K1)(x2 x7:O)(h:HW):Rs:=
 ob x7 fun a45=>
 ob x2 fun a46=>
 ob (semNil a45) fun y47=>
 ob (fa 12 y47) fun y48=>
 ob (ixA 278 1 y48 a46) fun y49=>
 ob (ld1 y49 h) fun y50=>
 ob (bin Tryz.prog .gtr 3 y50 (.int .i64 0)) fun y51=>
 yIf y51
 (r (some (.int .i64 0)) h)
 (n x2 x7 h)
theorem q183_52_eq(C:YC)(lf:Nat)(n:K2)(r:K1)(KE:KX): ∀ F h,evX fx183 C lf [1,1,0] F h (fun F h=>n (F 2) (F 7) h) (fun F h=>r (F 6) h) KE=q183_52 C lf n r (F 2) (F 7) h:=by
 intro F h;kernel_rfl
noncomputable def q183_53(C:YC)(lf:Nat)(r:K1)(x2 x7:O)(h:HW):Rs:=
 q183_52 C lf (fun x2 x7 h=>q183_44 C lf r x2 x7 h) r x2 x7 h
theorem q183_53_eq(C:YC)(lf:Nat)(r:K1)(KN:KF)(KE:KX): ∀ F h,evX fx183 C lf [1,1] F h KN (fun F h=>r (F 6) h) KE=q183_53 C lf r (F 2) (F 7) h:=cSeq (a:=subX fx183 [1,1,0]) (b:=subX fx183 [1,1,1]) (by kernel_rfl) (B:=(fun F h=>q183_44 C lf r (F 2) (F 7) h)) (q183_44_eq C lf r KN KE) (q183_52_eq C lf (fun x2 x7 h=>q183_44 C lf r x2 x7 h) r KE)
noncomputable def q183_60(C:YC)(lf:Nat)(n:K2)(x0 x1 x2:O)(h:HW):Rs:=
 ob x0 fun a54=>
 ob (semNil a54) fun y55=>
 ob (fa 4 y55) fun y56=>
 ob (ld1 y56 h) fun y57=>
 ob x1 fun a58=>
 ob (ixS 308 y57 a58) fun y59=>
 n x2 (some y59) h
theorem q183_60_eq(C:YC)(lf:Nat)(n:K2)(KR:KF)(KE:KX): ∀ F h,evX fx183 C lf [1,0] F h (fun F h=>n (F 2) (F 7) h) KR KE=q183_60 C lf n (F 0) (F 1) (F 2) h:=by
 intro F h;kernel_rfl
noncomputable def q183_61(C:YC)(lf:Nat)(r:K1)(x0 x1 x2:O)(h:HW):Rs:=
 q183_60 C lf (fun x2 x7 h=>q183_53 C lf r x2 x7 h) x0 x1 x2 h
theorem q183_61_eq(C:YC)(lf:Nat)(r:K1)(KN:KF)(KE:KX): ∀ F h,evX fx183 C lf [1] F h KN (fun F h=>r (F 6) h) KE=q183_61 C lf r (F 0) (F 1) (F 2) h:=cSeq (a:=subX fx183 [1,0]) (b:=subX fx183 [1,1]) (by kernel_rfl) (B:=(fun F h=>q183_53 C lf r (F 2) (F 7) h)) (q183_53_eq C lf r KN KE) (q183_60_eq C lf (fun x2 x7 h=>q183_53 C lf r x2 x7 h) (fun F h=>r (F 6) h) KE)
noncomputable def q183_62(C:YC)(lf:Nat)(n:K3)(x0 x1 x2:O)(h:HW):Rs:=
 n x0 x1 x2 h
theorem q183_62_eq(C:YC)(lf:Nat)(n:K3)(KR:KF)(KE:KX): ∀ F h,evX fx183 C lf [0] F h (fun F h=>n (F 0) (F 1) (F 2) h) KR KE=q183_62 C lf n (F 0) (F 1) (F 2) h:=by
 intro F h;kernel_rfl
noncomputable def q183_63(C:YC)(lf:Nat)(r:K1)(x0 x1 x2:O)(h:HW):Rs:=
 q183_62 C lf (fun x0 x1 x2 h=>q183_61 C lf r x0 x1 x2 h) x0 x1 x2 h
theorem q183_63_eq(C:YC)(lf:Nat)(r:K1)(KN:KF)(KE:KX): ∀ F h,evX fx183 C lf [] F h KN (fun F h=>r (F 6) h) KE=q183_63 C lf r (F 0) (F 1) (F 2) h:=cSeq (a:=subX fx183 [0]) (b:=subX fx183 [1]) (by kernel_rfl) (B:=(fun F h=>q183_61 C lf r (F 0) (F 1) (F 2) h)) (q183_61_eq C lf r KN KE) (q183_62_eq C lf (fun x0 x1 x2 h=>q183_61 C lf r x0 x1 x2 h) (fun F h=>r (F 6) h) KE)
noncomputable def fs183(C:YC)(lf:Nat)(a0 a1 a2:SV)(h:HW):Rs:=q183_63 C lf ff183 (some a0) (some a1) (some a2) h
theorem fs183_eq(C:YC)(lf:Nat)(a0 a1 a2:SV)(h:HW):yFn Tryz.prog fx183 C lf [a0,a1,a2] h=fs183 C lf a0 a1 a2 h:=fnX (K:=(fun F h=>ff183 (F 6) h)) (by kernel_rfl) (((q183_63_eq C lf ff183 (fun F h=>ff183 (F 6) h) (fun _ _ _=>none)) _ h).trans (by kernel_rfl))
noncomputable def fy183:YX Tryz.prog:=Y3 fx183 fs183 fs183_eq (by kernel_rfl)
noncomputable def fx184:XF Tryz.prog:=⟨184,Tryz.f184,fun r=>bif Nat.beq r 6 then .ord [0,1,2,4,3,5,6,7] [(5,[3])] else .text,Tryz.func184,by kernel_rfl,by kernel_rfl,by kernel_rfl,by kernel_rfl⟩
noncomputable def ff184(x2 x3:O)(h:HW):Rs:=
 ob x2 fun a0=>
 ob x3 fun a1=>
 some (.ret (.tup [a0,a1]),h)
noncomputable def q184_2(C:YC)(lf:Nat)(r:K2)(h:HW):Rs:=
 r (some (.int .i64 0)) (some (.int .i64 28)) h
theorem q184_2_eq(C:YC)(lf:Nat)(r:K2)(KN:KF)(KE:KX): ∀ F h,evX fx184 C lf [1,1] F h KN (fun F h=>r (F 2) (F 3) h) KE=q184_2 C lf r h:=by
 intro F h;kernel_rfl
noncomputable def q184_28(C:YC)(lf:Nat)(n:K4)(r:K2)(e0:K0)(x0 x9 x10 x11:O)(h:HW):Rs:=
 ob x11 fun a4=>
 ob x10 fun a5=>
 ob (bin Tryz.prog .lss 3 a4 a5) fun y6=>
 yIf y6
 (ob x11 fun a7=>
 ob x9 fun a8=>
 ob x11 fun a9=>
 ob (ixS 1 a8 a9) fun y10=>
 ob (ld1 y10 h) fun y11=>
 ob (unE .not y11) fun y12=>
 yIf y12
 (ob x0 fun a13=>
 ob (semNil a13) fun y14=>
 ob (fa 0 y14) fun y15=>
 ob (ld1 y15 h) fun y16=>
 ob (ixS 1 y16 a7) fun y17=>
 ob (st 1 y17 (.bool true) h) fun h18=>
 ob x0 fun a19=>
 ob (semNil a19) fun y20=>
 ob (fa 1 y20) fun y21=>
 ob (ld1 y21 h18) fun y22=>
 b2 (ymk Tryz.prog 35 (.int .i64 64) (.int .i64 64) h18) fun y23 h23=>
 ck (chkH [(3,adrO (some y21))] h18 h23 [3]) <|
 ob (ixS 1 y22 a7) fun y24=>
 ob (st 1 y24 y23 h23) fun h25=>
 r (some a7) (some (.int .i64 0)) h25)
 (ob x11 fun a26=>
 ob (bin Tryz.prog .add 3 a26 (.int .i64 1)) fun y27=>
 n x0 x9 x10 (some y27) h))
 (e0 h)
theorem q184_28_eq(C:YC)(lf:Nat)(n:K4)(r:K2)(e0:K0)(KE:KX): ∀ F h,evX fx184 C lf [1,0,1,0,0] F h (fun F h=>n (F 0) (F 9) (F 10) (F 11) h) (fun F h=>r (F 2) (F 3) h) (bk 0 (fun F h=>e0 h) KE)=q184_28 C lf n r e0 (F 0) (F 9) (F 10) (F 11) h:=by
 intro F h;kernel_rfl
noncomputable def l184_3(C:YC)(lf:Nat)(r:K2)(e0:K0)(k:O × O × O × O→HW→Rs)(s:O × O × O × O)(h:HW):Rs:=
 q184_28 C lf (fun x0 x9 x10 x11 h=>k (x0,x9,x10,x11) h) r e0 s.1 s.2.1 s.2.2.1 s.2.2.2 h
noncomputable def q184_34(C:YC)(lf:Nat)(n:K4)(x0:O)(h:HW):Rs:=
 ob x0 fun a29=>
 ob (semNil a29) fun y30=>
 ob (fa 0 y30) fun y31=>
 ob (ld1 y31 h) fun y32=>
 ob (lenE Tryz.prog 146 y32) fun y33=>
 n x0 (some y32) (some y33) (some (.int .i64 0)) h
theorem q184_34_eq(C:YC)(lf:Nat)(n:K4)(KR:KF)(KE:KX): ∀ F h,evX fx184 C lf [1,0,0] F h (fun F h=>n (F 0) (F 9) (F 10) (F 11) h) KR KE=q184_34 C lf n (F 0) h:=by
 intro F h;kernel_rfl
noncomputable def q184_35(C:YC)(lf:Nat)(n:K0)(r:K2)(x0:O)(h:HW):Rs:=
 q184_34 C lf (fun x0 x9 x10 x11 h=>lp (l184_3 C lf r n) lf (x0,x9,x10,x11) h) x0 h
theorem q184_35_eq(C:YC)(lf:Nat)(n:K0)(r:K2)(KE:KX): ∀ F h,evX fx184 C lf [1,0] F h (fun F h=>n h) (fun F h=>r (F 2) (F 3) h) KE=q184_35 C lf n r (F 0) h:=cSeq (a:=subX fx184 [1,0,0]) (b:=subX fx184 [1,0,1]) (by kernel_rfl) (B:=(fun F h=>lp (l184_3 C lf r n) lf ((F 0),(F 9),(F 10),(F 11)) h)) (cBlock (id:=0) (a:=subX fx184 [1,0,1,0]) (by kernel_rfl) (cLoop (a:=subX fx184 [1,0,1,0,0]) (g:=fun F=>(F 0,F 9,F 10,F 11)) (body:=l184_3 C lf r n) (by kernel_rfl) (fun k=>(q184_28_eq C lf (fun x0 x9 x10 x11 h=>k (x0,x9,x10,x11) h) r n KE)))) (q184_34_eq C lf (fun x0 x9 x10 x11 h=>lp (l184_3 C lf r n) lf (x0,x9,x10,x11) h) (fun F h=>r (F 2) (F 3) h) KE)
noncomputable def q184_36(C:YC)(lf:Nat)(r:K2)(x0:O)(h:HW):Rs:=
 q184_35 C lf (fun h=>q184_2 C lf r h) r x0 h
theorem q184_36_eq(C:YC)(lf:Nat)(r:K2)(KN:KF)(KE:KX): ∀ F h,evX fx184 C lf [1] F h KN (fun F h=>r (F 2) (F 3) h) KE=q184_36 C lf r (F 0) h:=cSeq (a:=subX fx184 [1,0]) (b:=subX fx184 [1,1]) (by kernel_rfl) (B:=(fun F h=>q184_2 C lf r h)) (q184_2_eq C lf r KN KE) (q184_35_eq C lf (fun h=>q184_2 C lf r h) r KE)
noncomputable def q184_37(C:YC)(lf:Nat)(n:K1)(x0:O)(h:HW):Rs:=
 n x0 h
theorem q184_37_eq(C:YC)(lf:Nat)(n:K1)(KR:KF)(KE:KX): ∀ F h,evX fx184 C lf [0] F h (fun F h=>n (F 0) h) KR KE=q184_37 C lf n (F 0) h:=by
 intro F h;kernel_rfl
noncomputable def q184_38(C:YC)(lf:Nat)(r:K2)(x0:O)(h:HW):Rs:=
 q184_37 C lf (fun x0 h=>q184_36 C lf r x0 h) x0 h
theorem q184_38_eq(C:YC)(lf:Nat)(r:K2)(KN:KF)(KE:KX): ∀ F h,evX fx184 C lf [] F h KN (fun F h=>r (F 2) (F 3) h) KE=q184_38 C lf r (F 0) h:=cSeq (a:=subX fx184 [0]) (b:=subX fx184 [1]) (by kernel_rfl) (B:=(fun F h=>q184_36 C lf r (F 0) h)) (q184_36_eq C lf r KN KE) (q184_37_eq C lf (fun x0 h=>q184_36 C lf r x0 h) (fun F h=>r (F 2) (F 3) h) KE)
noncomputable def fs184(C:YC)(lf:Nat)(a0:SV)(h:HW):Rs:=q184_38 C lf ff184 (some a0) h
theorem fs184_eq(C:YC)(lf:Nat)(a0:SV)(h:HW):yFn Tryz.prog fx184 C lf [a0] h=fs184 C lf a0 h:=fnX (K:=(fun F h=>ff184 (F 2) (F 3) h)) (by kernel_rfl) (((q184_38_eq C lf ff184 (fun F h=>ff184 (F 2) (F 3) h) (fun _ _ _=>none)) _ h).trans (by kernel_rfl))
noncomputable def fy184:YX Tryz.prog:=Y1 fx184 fs184 fs184_eq (by kernel_rfl)
noncomputable def fx186:XF Tryz.prog:=⟨186,Tryz.f186,fun _=> .text,Tryz.func186,by kernel_rfl,by kernel_rfl,by kernel_rfl,by kernel_rfl⟩
noncomputable def ff186(x6 x7:O)(h:HW):Rs:=
 ob x6 fun a0=>
 ob x7 fun a1=>
 some (.ret (.tup [a0,a1]),h)
noncomputable def q186_16(C:YC)(lf:Nat)(r:K2)(x0 x1 x2:O)(h:HW):Rs:=
 ob x0 fun a2=>
 ob x1 fun a3=>
 ob x2 fun a4=>
 bc (C (.fn 168) [a2,a3,a4] h) fun y5 h5=>
 ob (bin Tryz.prog .neq 25 y5 (.int .i64 0)) fun y6=>
 yIf y6
 (r (some (.int .i64 0)) (some y5) h5)
 (ob x0 fun a7=>
 ob x1 fun a8=>
 bc (C (.fn 169) [a7,a8] h5) fun y9 h9=>
 ob x2 fun a10=>
 bc (C (.fn 170) [y9,a10] h9) fun y11 h11=>
 ob (bin Tryz.prog .lss 3 y11 (.int .i64 0)) fun y12=>
 yIf y12
 (r (some (.int .i64 0)) (some (.int .i64 2)) h11)
 (ob (ixS 32 y9 y11) fun y13=>
 ob (ldN 32 y13 h11) fun y14=>
 bc (C (.fn 171) [y14] h11) fun y15 h15=>
 r (some y15) (some (.int .i64 0)) h15))
theorem q186_16_eq(C:YC)(lf:Nat)(r:K2)(KN:KF)(KE:KX): ∀ F h,evX fx186 C lf [] F h KN (fun F h=>r (F 6) (F 7) h) KE=q186_16 C lf r (F 0) (F 1) (F 2) h:=by
 intro F h;kernel_rfl
noncomputable def fs186(C:YC)(lf:Nat)(a0 a1 a2:SV)(h:HW):Rs:=q186_16 C lf ff186 (some a0) (some a1) (some a2) h
theorem fs186_eq(C:YC)(lf:Nat)(a0 a1 a2:SV)(h:HW):yFn Tryz.prog fx186 C lf [a0,a1,a2] h=fs186 C lf a0 a1 a2 h:=fnX (K:=(fun F h=>ff186 (F 6) (F 7) h)) (by kernel_rfl) (((q186_16_eq C lf ff186 (fun F h=>ff186 (F 6) (F 7) h) (fun _ _ _=>none)) _ h).trans (by kernel_rfl))
noncomputable def fy186:YX Tryz.prog:=Y3 fx186 fs186 fs186_eq (by kernel_rfl)
noncomputable def fx187:XF Tryz.prog:=⟨187,Tryz.f187,fun _=> .text,Tryz.func187,by kernel_rfl,by kernel_rfl,by kernel_rfl,by kernel_rfl⟩
noncomputable def ff187(x8 x9:O)(h:HW):Rs:=
 ob x8 fun a0=>
 ob x9 fun a1=>
 some (.ret (.tup [a0,a1]),h)
noncomputable def q187_3(C:YC)(lf:Nat)(r:K2)(x13:O)(h:HW):Rs:=
 ob x13 fun a2=>
 r (some a2) (some (.int .i64 0)) h
theorem q187_3_eq(C:YC)(lf:Nat)(r:K2)(KN:KF)(KE:KX): ∀ F h,evX fx187 C lf [1,1,1,1,1,1,1,1,1] F h KN (fun F h=>r (F 8) (F 9) h) KE=q187_3 C lf r (F 13) h:=by
 intro F h;kernel_rfl
noncomputable def q187_40(C:YC)(lf:Nat)(n:K5)(e0:K1)(x0 x2 x10 x12 x13:O)(h:HW):Rs:=
 ob x2 fun a5=>
 ob x12 fun a6=>
 ob (bin Tryz.prog .lss 3 a5 a6) fun y7=>
 yIf y7
 (ob x2 fun a8=>
 ob (bin Tryz.prog .quo 3 a8 (.int .i64 64)) fun y9=>
 ob x2 fun a10=>
 ob (bin Tryz.prog .rem 3 a10 (.int .i64 64)) fun y11=>
 ob (bin Tryz.prog .sub 3 (.int .i64 64) y11) fun y12=>
 ob x12 fun a13=>
 ob x2 fun a14=>
 ob (bin Tryz.prog .sub 3 a13 a14) fun y15=>
 b2 (ybl Tryz.prog .min #[3,3] [y12,y15] h) fun y16 h16=>
 ob x10 fun a17=>
 bc (C (.fn 138) [a17,y9] h16) fun y18 h18=>
 ob (semNil y18) fun y19=>
 ob (ld1 y19 h18) fun y20=>
 ob (bin Tryz.prog .gtr 3 y20 (.int .i64 0)) fun y21=>
 yIf y21
 (ob x0 fun a22=>
 ob (semNil a22) fun y23=>
 ob (fa 0 y23) fun y24=>
 ob (ld1 y24 h18) fun y25=>
 ob (bin Tryz.prog .sub 3 y20 (.int .i64 1)) fun y26=>
 bc (C (.fn 199) [y25,y26] h18) fun y27 h27=>
 ob (ext 0 y27) fun y28=>
 ob (ext 1 y27) fun y29=>
 ob x13 fun a30=>
 ob (bin Tryz.prog .add 3 y11 y16) fun y31=>
 ob (semSlice Tryz.prog 35 y28 (some y11) (some y31)) fun y32=>
 b2 (ybl Tryz.prog .append #[35,35] [a30,y32] h27) fun y33 h33=>
 ob x2 fun a34=>
 ob (bin Tryz.prog .add 3 a34 y16) fun y35=>
 n x0 (some y35) x10 x12 (some y33) h33)
 (ob x13 fun a36=>
 b2 (ybl Tryz.prog .append #[35,3] [a36,y16] h18) fun y37 h37=>
 ob x2 fun a38=>
 ob (bin Tryz.prog .add 3 a38 y16) fun y39=>
 n x0 (some y39) x10 x12 (some y37) h37))
 (e0 x13 h)
theorem q187_40_eq(C:YC)(lf:Nat)(n:K5)(e0:K1)(KR:KF)(KE:KX): ∀ F h,evX fx187 C lf [1,1,1,1,1,1,1,1,0,0,0] F h (fun F h=>n (F 0) (F 2) (F 10) (F 12) (F 13) h) KR (bk 0 (fun F h=>e0 (F 13) h) KE)=q187_40 C lf n e0 (F 0) (F 2) (F 10) (F 12) (F 13) h:=by
 intro F h;kernel_rfl
noncomputable def l187_4(C:YC)(lf:Nat)(e0:K1)(k:O × O × O × O × O→HW→Rs)(s:O × O × O × O × O)(h:HW):Rs:=
 q187_40 C lf (fun x0 x2 x10 x12 x13 h=>k (x0,x2,x10,x12,x13) h) e0 s.1 s.2.1 s.2.2.1 s.2.2.2.1 s.2.2.2.2 h
noncomputable def q187_41(C:YC)(lf:Nat)(r:K2)(x0 x2 x10 x12 x13:O)(h:HW):Rs:=
 lp (l187_4 C lf (fun x13 h=>q187_3 C lf r x13 h)) lf (x0,x2,x10,x12,x13) h
theorem q187_41_eq(C:YC)(lf:Nat)(r:K2)(KN:KF)(KE:KX): ∀ F h,evX fx187 C lf [1,1,1,1,1,1,1,1] F h KN (fun F h=>r (F 8) (F 9) h) KE=q187_41 C lf r (F 0) (F 2) (F 10) (F 12) (F 13) h:=cSeq (a:=subX fx187 [1,1,1,1,1,1,1,1,0]) (b:=subX fx187 [1,1,1,1,1,1,1,1,1]) (by kernel_rfl) (B:=(fun F h=>q187_3 C lf r (F 13) h)) (q187_3_eq C lf r KN KE) (cBlock (id:=0) (a:=subX fx187 [1,1,1,1,1,1,1,1,0,0]) (by kernel_rfl) (cLoop (a:=subX fx187 [1,1,1,1,1,1,1,1,0,0,0]) (g:=fun F=>(F 0,F 2,F 10,F 12,F 13)) (body:=l187_4 C lf (fun x13 h=>q187_3 C lf r x13 h)) (by kernel_rfl) (fun k=>(q187_40_eq C lf (fun x0 x2 x10 x12 x13 h=>k (x0,x2,x10,x12,x13) h) (fun x13 h=>q187_3 C lf r x13 h) (fun F h=>r (F 8) (F 9) h) KE))))
noncomputable def q187_46(C:YC)(lf:Nat)(n:K5)(x0 x2 x10 x12:O)(h:HW):Rs:=
 ob x12 fun a42=>
 ob x2 fun a43=>
 ob (bin Tryz.prog .sub 3 a42 a43) fun y44=>
 b2 (ymk Tryz.prog 35 (.int .i64 0) y44 h) fun y45 h45=>
 n x0 x2 x10 x12 (some y45) h45
theorem q187_46_eq(C:YC)(lf:Nat)(n:K5)(KR:KF)(KE:KX): ∀ F h,evX fx187 C lf [1,1,1,1,1,1,1,0] F h (fun F h=>n (F 0) (F 2) (F 10) (F 12) (F 13) h) KR KE=q187_46 C lf n (F 0) (F 2) (F 10) (F 12) h:=by
 intro F h;kernel_rfl
noncomputable def q187_47(C:YC)(lf:Nat)(r:K2)(x0 x2 x10 x12:O)(h:HW):Rs:=
 q187_46 C lf (fun x0 x2 x10 x12 x13 h=>q187_41 C lf r x0 x2 x10 x12 x13 h) x0 x2 x10 x12 h
theorem q187_47_eq(C:YC)(lf:Nat)(r:K2)(KN:KF)(KE:KX): ∀ F h,evX fx187 C lf [1,1,1,1,1,1,1] F h KN (fun F h=>r (F 8) (F 9) h) KE=q187_47 C lf r (F 0) (F 2) (F 10) (F 12) h:=cSeq (a:=subX fx187 [1,1,1,1,1,1,1,0]) (b:=subX fx187 [1,1,1,1,1,1,1,1]) (by kernel_rfl) (B:=(fun F h=>q187_41 C lf r (F 0) (F 2) (F 10) (F 12) (F 13) h)) (q187_41_eq C lf r KN KE) (q187_46_eq C lf (fun x0 x2 x10 x12 x13 h=>q187_41 C lf r x0 x2 x10 x12 x13 h) (fun F h=>r (F 8) (F 9) h) KE)
noncomputable def q187_56(C:YC)(lf:Nat)(n:K4)(x0 x2 x3 x10 x12:O)(h:HW):Rs:=
 ob x3 fun a48=>
 ob x12 fun a49=>
 ob x2 fun a50=>
 ob (bin Tryz.prog .sub 3 a49 a50) fun y51=>
 ob (bin Tryz.prog .lss 3 a48 y51) fun y52=>
 yIf y52
 (ob x2 fun a53=>
 ob x3 fun a54=>
 ob (bin Tryz.prog .add 3 a53 a54) fun y55=>
 n x0 x2 x10 (some y55) h)
 (n x0 x2 x10 x12 h)
theorem q187_56_eq(C:YC)(lf:Nat)(n:K4)(KR:KF)(KE:KX): ∀ F h,evX fx187 C lf [1,1,1,1,1,1,0] F h (fun F h=>n (F 0) (F 2) (F 10) (F 12) h) KR KE=q187_56 C lf n (F 0) (F 2) (F 3) (F 10) (F 12) h:=by
 intro F h;kernel_rfl
noncomputable def q187_57(C:YC)(lf:Nat)(r:K2)(x0 x2 x3 x10 x12:O)(h:HW):Rs:=
 q187_56 C lf (fun x0 x2 x10 x12 h=>q187_47 C lf r x0 x2 x10 x12 h) x0 x2 x3 x10 x12 h
theorem q187_57_eq(C:YC)(lf:Nat)(r:K2)(KN:KF)(KE:KX): ∀ F h,evX fx187 C lf [1,1,1,1,1,1] F h KN (fun F h=>r (F 8) (F 9) h) KE=q187_57 C lf r (F 0) (F 2) (F 3) (F 10) (F 12) h:=cSeq (a:=subX fx187 [1,1,1,1,1,1,0]) (b:=subX fx187 [1,1,1,1,1,1,1]) (by kernel_rfl) (B:=(fun F h=>q187_47 C lf r (F 0) (F 2) (F 10) (F 12) h)) (q187_47_eq C lf r KN KE) (q187_56_eq C lf (fun x0 x2 x10 x12 h=>q187_47 C lf r x0 x2 x10 x12 h) (fun F h=>r (F 8) (F 9) h) KE)
noncomputable def q187_63(C:YC)(lf:Nat)(n:K5)(x0 x2 x3 x10:O)(h:HW):Rs:=
 ob x10 fun a58=>
 ob (semNil a58) fun y59=>
 ob (fa 1 y59) fun y60=>
 ob (fa 4 y60) fun y61=>
 ob (ld1 y61 h) fun y62=>
 n x0 x2 x3 x10 (some y62) h
theorem q187_63_eq(C:YC)(lf:Nat)(n:K5)(KR:KF)(KE:KX): ∀ F h,evX fx187 C lf [1,1,1,1,1,0] F h (fun F h=>n (F 0) (F 2) (F 3) (F 10) (F 12) h) KR KE=q187_63 C lf n (F 0) (F 2) (F 3) (F 10) h:=by
 intro F h;kernel_rfl
noncomputable def q187_64(C:YC)(lf:Nat)(r:K2)(x0 x2 x3 x10:O)(h:HW):Rs:=
 q187_63 C lf (fun x0 x2 x3 x10 x12 h=>q187_57 C lf r x0 x2 x3 x10 x12 h) x0 x2 x3 x10 h
theorem q187_64_eq(C:YC)(lf:Nat)(r:K2)(KN:KF)(KE:KX): ∀ F h,evX fx187 C lf [1,1,1,1,1] F h KN (fun F h=>r (F 8) (F 9) h) KE=q187_64 C lf r (F 0) (F 2) (F 3) (F 10) h:=cSeq (a:=subX fx187 [1,1,1,1,1,0]) (b:=subX fx187 [1,1,1,1,1,1]) (by kernel_rfl) (B:=(fun F h=>q187_57 C lf r (F 0) (F 2) (F 3) (F 10) (F 12) h)) (q187_57_eq C lf r KN KE) (q187_63_eq C lf (fun x0 x2 x3 x10 x12 h=>q187_57 C lf r x0 x2 x3 x10 x12 h) (fun F h=>r (F 8) (F 9) h) KE)
noncomputable def q187_72(C:YC)(lf:Nat)(n:K4)(r:K2)(x0 x2 x3 x10:O)(h:HW):Rs:=
 ob x2 fun a65=>
 ob x10 fun a66=>
 ob (semNil a66) fun y67=>
 ob (fa 1 y67) fun y68=>
 ob (fa 4 y68) fun y69=>
 ob (ld1 y69 h) fun y70=>
 ob (bin Tryz.prog .geq 3 a65 y70) fun y71=>
 yIf y71
 (r (some (.val (.slice none 0 0))) (some (.int .i64 0)) h)
 (n x0 x2 x3 x10 h)
theorem q187_72_eq(C:YC)(lf:Nat)(n:K4)(r:K2)(KE:KX): ∀ F h,evX fx187 C lf [1,1,1,1,0] F h (fun F h=>n (F 0) (F 2) (F 3) (F 10) h) (fun F h=>r (F 8) (F 9) h) KE=q187_72 C lf n r (F 0) (F 2) (F 3) (F 10) h:=by
 intro F h;kernel_rfl
noncomputable def q187_73(C:YC)(lf:Nat)(r:K2)(x0 x2 x3 x10:O)(h:HW):Rs:=
 q187_72 C lf (fun x0 x2 x3 x10 h=>q187_64 C lf r x0 x2 x3 x10 h) r x0 x2 x3 x10 h
theorem q187_73_eq(C:YC)(lf:Nat)(r:K2)(KN:KF)(KE:KX): ∀ F h,evX fx187 C lf [1,1,1,1] F h KN (fun F h=>r (F 8) (F 9) h) KE=q187_73 C lf r (F 0) (F 2) (F 3) (F 10) h:=cSeq (a:=subX fx187 [1,1,1,1,0]) (b:=subX fx187 [1,1,1,1,1]) (by kernel_rfl) (B:=(fun F h=>q187_64 C lf r (F 0) (F 2) (F 3) (F 10) h)) (q187_64_eq C lf r KN KE) (q187_72_eq C lf (fun x0 x2 x3 x10 h=>q187_64 C lf r x0 x2 x3 x10 h) r KE)
noncomputable def q187_81(C:YC)(lf:Nat)(n:K4)(r:K2)(x0 x2 x3 x10:O)(h:HW):Rs:=
 ob x2 fun a74=>
 ob (bin Tryz.prog .lss 3 a74 (.int .i64 0)) fun y75=>
 bc (gd false (some y75) (ob x3 fun a76=>
 some (.ret a76,h)) h) fun y77 h77=>
 bc (gd false (some y75) (ob (bin Tryz.prog .lss 3 y77 (.int .i64 0)) fun y78=>
 some (.ret y78,h77)) h77) fun y79 h79=>
 ob (ypk y75 (.bool true) y79) fun y80=>
 yIf y80
 (r (some (.val (.slice none 0 0))) (some (.int .i64 22)) h79)
 (n x0 x2 x3 x10 h79)
theorem q187_81_eq(C:YC)(lf:Nat)(n:K4)(r:K2)(KE:KX): ∀ F h,evX fx187 C lf [1,1,1,0] F h (fun F h=>n (F 0) (F 2) (F 3) (F 10) h) (fun F h=>r (F 8) (F 9) h) KE=q187_81 C lf n r (F 0) (F 2) (F 3) (F 10) h:=by
 intro F h;kernel_rfl
noncomputable def q187_82(C:YC)(lf:Nat)(r:K2)(x0 x2 x3 x10:O)(h:HW):Rs:=
 q187_81 C lf (fun x0 x2 x3 x10 h=>q187_73 C lf r x0 x2 x3 x10 h) r x0 x2 x3 x10 h
theorem q187_82_eq(C:YC)(lf:Nat)(r:K2)(KN:KF)(KE:KX): ∀ F h,evX fx187 C lf [1,1,1] F h KN (fun F h=>r (F 8) (F 9) h) KE=q187_82 C lf r (F 0) (F 2) (F 3) (F 10) h:=cSeq (a:=subX fx187 [1,1,1,0]) (b:=subX fx187 [1,1,1,1]) (by kernel_rfl) (B:=(fun F h=>q187_73 C lf r (F 0) (F 2) (F 3) (F 10) h)) (q187_73_eq C lf r KN KE) (q187_81_eq C lf (fun x0 x2 x3 x10 h=>q187_73 C lf r x0 x2 x3 x10 h) r KE)
noncomputable def q187_86(C:YC)(lf:Nat)(n:K4)(r:K2)(x0 x2 x3 x10 x11:O)(h:HW):Rs:=
 ob x11 fun a83=>
 ob (bin Tryz.prog .neq 25 a83 (.int .i64 0)) fun y84=>
 yIf y84
 (ob x11 fun a85=>
 r (some (.val (.slice none 0 0))) (some a85) h)
 (n x0 x2 x3 x10 h)
theorem q187_86_eq(C:YC)(lf:Nat)(n:K4)(r:K2)(KE:KX): ∀ F h,evX fx187 C lf [1,1,0] F h (fun F h=>n (F 0) (F 2) (F 3) (F 10) h) (fun F h=>r (F 8) (F 9) h) KE=q187_86 C lf n r (F 0) (F 2) (F 3) (F 10) (F 11) h:=by
 intro F h;kernel_rfl
noncomputable def q187_87(C:YC)(lf:Nat)(r:K2)(x0 x2 x3 x10 x11:O)(h:HW):Rs:=
 q187_86 C lf (fun x0 x2 x3 x10 h=>q187_82 C lf r x0 x2 x3 x10 h) r x0 x2 x3 x10 x11 h
theorem q187_87_eq(C:YC)(lf:Nat)(r:K2)(KN:KF)(KE:KX): ∀ F h,evX fx187 C lf [1,1] F h KN (fun F h=>r (F 8) (F 9) h) KE=q187_87 C lf r (F 0) (F 2) (F 3) (F 10) (F 11) h:=cSeq (a:=subX fx187 [1,1,0]) (b:=subX fx187 [1,1,1]) (by kernel_rfl) (B:=(fun F h=>q187_82 C lf r (F 0) (F 2) (F 3) (F 10) h)) (q187_82_eq C lf r KN KE) (q187_86_eq C lf (fun x0 x2 x3 x10 h=>q187_82 C lf r x0 x2 x3 x10 h) r KE)
noncomputable def q187_93(C:YC)(lf:Nat)(n:K5)(x0 x1 x2 x3:O)(h:HW):Rs:=
 ob x0 fun a88=>
 ob x1 fun a89=>
 bc (C (.fn 70) [a88,a89] h) fun y90 h90=>
 ob (ext 0 y90) fun y91=>
 ob (ext 1 y90) fun y92=>
 n x0 x2 x3 (some y91) (some y92) h90
theorem q187_93_eq(C:YC)(lf:Nat)(n:K5)(KR:KF)(KE:KX): ∀ F h,evX fx187 C lf [1,0] F h (fun F h=>n (F 0) (F 2) (F 3) (F 10) (F 11) h) KR KE=q187_93 C lf n (F 0) (F 1) (F 2) (F 3) h:=by
 intro F h;kernel_rfl
noncomputable def q187_94(C:YC)(lf:Nat)(r:K2)(x0 x1 x2 x3:O)(h:HW):Rs:=
 q187_93 C lf (fun x0 x2 x3 x10 x11 h=>q187_87 C lf r x0 x2 x3 x10 x11 h) x0 x1 x2 x3 h
theorem q187_94_eq(C:YC)(lf:Nat)(r:K2)(KN:KF)(KE:KX): ∀ F h,evX fx187 C lf [1] F h KN (fun F h=>r (F 8) (F 9) h) KE=q187_94 C lf r (F 0) (F 1) (F 2) (F 3) h:=cSeq (a:=subX fx187 [1,0]) (b:=subX fx187 [1,1]) (by kernel_rfl) (B:=(fun F h=>q187_87 C lf r (F 0) (F 2) (F 3) (F 10) (F 11) h)) (q187_87_eq C lf r KN KE) (q187_93_eq C lf (fun x0 x2 x3 x10 x11 h=>q187_87 C lf r x0 x2 x3 x10 x11 h) (fun F h=>r (F 8) (F 9) h) KE)
noncomputable def q187_95(C:YC)(lf:Nat)(n:K4)(x0 x1 x2 x3:O)(h:HW):Rs:=
 n x0 x1 x2 x3 h
theorem q187_95_eq(C:YC)(lf:Nat)(n:K4)(KR:KF)(KE:KX): ∀ F h,evX fx187 C lf [0] F h (fun F h=>n (F 0) (F 1) (F 2) (F 3) h) KR KE=q187_95 C lf n (F 0) (F 1) (F 2) (F 3) h:=by
 intro F h;kernel_rfl
noncomputable def q187_96(C:YC)(lf:Nat)(r:K2)(x0 x1 x2 x3:O)(h:HW):Rs:=
 q187_95 C lf (fun x0 x1 x2 x3 h=>q187_94 C lf r x0 x1 x2 x3 h) x0 x1 x2 x3 h
theorem q187_96_eq(C:YC)(lf:Nat)(r:K2)(KN:KF)(KE:KX): ∀ F h,evX fx187 C lf [] F h KN (fun F h=>r (F 8) (F 9) h) KE=q187_96 C lf r (F 0) (F 1) (F 2) (F 3) h:=cSeq (a:=subX fx187 [0]) (b:=subX fx187 [1]) (by kernel_rfl) (B:=(fun F h=>q187_94 C lf r (F 0) (F 1) (F 2) (F 3) h)) (q187_94_eq C lf r KN KE) (q187_95_eq C lf (fun x0 x1 x2 x3 h=>q187_94 C lf r x0 x1 x2 x3 h) (fun F h=>r (F 8) (F 9) h) KE)
noncomputable def fs187(C:YC)(lf:Nat)(a0 a1 a2 a3:SV)(h:HW):Rs:=q187_96 C lf ff187 (some a0) (some a1) (some a2) (some a3) h
theorem fs187_eq(C:YC)(lf:Nat)(a0 a1 a2 a3:SV)(h:HW):yFn Tryz.prog fx187 C lf [a0,a1,a2,a3] h=fs187 C lf a0 a1 a2 a3 h:=fnX (K:=(fun F h=>ff187 (F 8) (F 9) h)) (by kernel_rfl) (((q187_96_eq C lf ff187 (fun F h=>ff187 (F 8) (F 9) h) (fun _ _ _=>none)) _ h).trans (by kernel_rfl))
noncomputable def fy187:YX Tryz.prog:=Y4 fx187 fs187 fs187_eq (by kernel_rfl)
end Go.Proofs.YtgofkccnmmiciaaGreatDoor.Eva
