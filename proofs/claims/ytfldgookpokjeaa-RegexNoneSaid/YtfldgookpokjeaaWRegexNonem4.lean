import Derived.Test.YtfldgookpokjeaaRows
import Derived.Test.YtfldgookpokjeaaWRegexNonem3
set_option linter.unusedSimpArgs false
set_option linter.unusedVariables false
namespace Go.Proofs.Ytfldgookpokjeaa.Eva
open Go.Xe
set_option maxRecDepth 100000
set_option linter.unusedVariables false
noncomputable def fx3:XF Try.prog:=⟨3,Try.f3,fun _=> .text,Try.func3,by kernel_rfl,by kernel_rfl,by kernel_rfl,by kernel_rfl⟩
noncomputable def fx4:XF Try.prog:=⟨4,Try.f4,fun _=> .text,Try.func4,by kernel_rfl,by kernel_rfl,by kernel_rfl,by kernel_rfl⟩
noncomputable def ff4(x6 x7:O)(h:HW):Rs:=
 ob x6 fun a0=>
 ob x7 fun a1=>
 some (.ret (.tup [a0,a1]),h)
noncomputable def q4_24(C:YC)(lf:Nat)(r:K2)(x0 x1 x2:O)(h:HW):Rs:=
 ob x0 fun a2=>
 bc (C (.fn 11) [a2] h) fun y3 h3=>
 ob (unE .not y3) fun y4=>
 bc (gd false (some y4) (ob x2 fun a5=>
 some (.ret a5,h3)) h3) fun y6 h6=>
 bc (gd false (some y4) (ob (bin Try.prog .lss 3 y6 (.int .i64 0)) fun y7=>
 some (.ret y7,h6)) h6) fun y8 h8=>
 ob (ypk y4 (.bool true) y8) fun y9=>
 bc (gd false (some y9) (ob x2 fun a10=>
 some (.ret a10,h8)) h8) fun y11 h11=>
 bc (gd false (some y9) (ob x1 fun a12=>
 some (.ret a12,h11)) h11) fun y13 h13=>
 bc (gd false (some y9) (ob (lenE Try.prog 9 y13) fun y14=>
 some (.ret y14,h13)) h13) fun y15 h15=>
 bc (gd false (some y9) (ob (bin Try.prog .gtr 3 y11 y15) fun y16=>
 some (.ret y16,h15)) h15) fun y17 h17=>
 ob (ypk y9 (.bool true) y17) fun y18=>
 yIf y18
 (r (some (.val (.slice none 0 0))) (some (.bool false)) h17)
 (ob x0 fun a19=>
 ob x1 fun a20=>
 ob x2 fun a21=>
 bc (C (.fn 12) [a19,a20,a21] h17) fun y22 h22=>
 ob (bin Try.prog .neq 27 y22 (.val (.slice none 0 0))) fun y23=>
 r (some y22) (some y23) h22)
theorem q4_24_eq(C:YC)(lf:Nat)(r:K2)(KN:KF)(KE:KX):∀F h,evX fx4 C lf [] F h KN (fun F h=>r (F 6) (F 7) h) KE=q4_24 C lf r (F 0) (F 1) (F 2) h:=by
 intro F h;kernel_rfl
noncomputable def fs4(C:YC)(lf:Nat)(a0 a1 a2:SV)(h:HW):Rs:=q4_24 C lf ff4 (some a0) (some a1) (some a2) h
theorem fs4_eq(C:YC)(lf:Nat)(a0 a1 a2:SV)(h:HW):yFn Try.prog fx4 C lf [a0,a1,a2] h=fs4 C lf a0 a1 a2 h:=fnX (K:=(fun F h=>ff4 (F 6) (F 7) h)) (by kernel_rfl) (((q4_24_eq C lf ff4 (fun F h=>ff4 (F 6) (F 7) h) (fun _ _ _=>none)) _ h).trans (by kernel_rfl))
noncomputable def fy4:YX Try.prog:=Y3 fx4 fs4 fs4_eq (by kernel_rfl)
noncomputable def fx5:XF Try.prog:=⟨5,Try.f5,fun r=>bif Nat.beq r 27 then .ord [1,0,2,3,4] [(0,[1])] else bif Nat.beq r 1000012 then .ord [6,8,9,13,15,16,17,18] [] else .text,Try.func5,by kernel_rfl,by kernel_rfl,by kernel_rfl,by kernel_rfl⟩
noncomputable def ff5(x10 x11 x12:O)(h:HW):Rs:=
 ob x10 fun a0=>
 ob x11 fun a1=>
 ob x12 fun a2=>
 some (.ret (.tup [a0,a1,a2]),h)
noncomputable def fz5(L:List Nat)(x10 x11 x12:O)(h:HW):Rs:=markZ L h fun h=>ff5 x10 x11 x12 h
noncomputable def q5_14(C:YC)(lf:Nat)(r:K3)(x6 x15 x16 x18:O)(h:HW):Rs:=
 ob x6 fun a3=>
 ob (ld1 a3 h) fun y4=>
 ob x16 fun a5=>
 ob (ld1 a5 h) fun y6=>
 ob (semSlice Try.prog 9 y4 (some y6) none) fun y7=>
 ob x15 fun a8=>
 bc (C (.fn 14) [a8,y7] h) fun y9 h9=>
 ob x18 fun a10=>
 ob (ld1 a10 h9) fun y11=>
 ob x15 fun a12=>
 bcn (C (.fn 15) [a12] h9) fun y13 h13=>
 ck (chkH [(1,adrO x18)] h9 h13 [1]) <|
 r (some y13) (some y11) (some (.int .i64 0)) h13
theorem q5_14_eq(C:YC)(lf:Nat)(r:K3)(KN:KF)(KE:KX):∀F h,evX fx5 C lf [1,1,1,1,1,1,1] F h KN (fun F h=>r (F 10) (F 11) (F 12) h) KE=q5_14 C lf r (F 6) (F 15) (F 16) (F 18) h:=by
 intro F h;kernel_rfl
noncomputable def q5_116(C:YC)(lf:Nat)(n:K9)(x0 x6 x8 x9 x13 x15 x16 x17 x18:O)(h:HW):Rs:=
 ob x0 fun a112=>
 ob x6 fun a113=>
 ob (ld1 a113 h) fun y114=>
 bc (C (.fn 9) [a112,y114] h) fun y115 h115=>
 n x6 x8 x9 x13 x15 x16 x17 x18 (some y115) h115
theorem q5_116_eq(C:YC)(lf:Nat)(n:K9)(KR:KF)(KE:KX):∀F h,evX fx5 C lf [1,1,1,1,1,1,0,0] F h (fun F h=>n (F 6) (F 8) (F 9) (F 13) (F 15) (F 16) (F 17) (F 18) (F 40) h) KR KE=q5_116 C lf n (F 0) (F 6) (F 8) (F 9) (F 13) (F 15) (F 16) (F 17) (F 18) h:=by
 intro F h;kernel_rfl
noncomputable def q5_123(C:YC)(lf:Nat)(n:K9)(x0 x6 x8 x9 x13 x15:O)(h:HW):Rs:=
 b2 (yAl Try.prog 3 h) fun y117 h117=>
 b2 (yAl Try.prog 3 h117) fun y118 h118=>
 b2 (yAl Try.prog 3 h118) fun y119 h119=>
 ob (st 1 y117 (.int .i64 0) h119) fun h120=>
 ob (st 1 y118 (.int .i64 0) h120) fun h121=>
 ob (st 1 y119 (.int .i64 0) h121) fun h122=>
 n x0 x6 x8 x9 x13 x15 (some y117) (some y118) (some y119) h122
theorem q5_123_eq(C:YC)(lf:Nat)(n:K9)(KR:KF)(KE:KX):∀F h,evX fx5 C lf [1,1,1,1,1,0] F h (fun F h=>n (F 0) (F 6) (F 8) (F 9) (F 13) (F 15) (F 16) (F 17) (F 18) h) KR KE=q5_123 C lf n (F 0) (F 6) (F 8) (F 9) (F 13) (F 15) h:=by
 intro F h;kernel_rfl
noncomputable def q5_125(C:YC)(lf:Nat)(n:K6)(x0 x6 x8 x9 x13:O)(h:HW):Rs:=
 b2 (yAl Try.prog 47 h) fun y124 h124=>
 n x0 x6 x8 x9 x13 (some y124) h124
theorem q5_125_eq(C:YC)(lf:Nat)(n:K6)(KR:KF)(KE:KX):∀F h,evX fx5 C lf [1,1,1,1,0] F h (fun F h=>n (F 0) (F 6) (F 8) (F 9) (F 13) (F 15) h) KR KE=q5_125 C lf n (F 0) (F 6) (F 8) (F 9) (F 13) h:=by
 intro F h;kernel_rfl
noncomputable def q5_129(C:YC)(lf:Nat)(n:K5)(r:K3)(x0 x6 x8 x9 x13 x14:O)(h:HW):Rs:=
 ob x14 fun a126=>
 ob (bin Try.prog .neq 30 a126 (.int .i64 0)) fun y127=>
 yIf y127
 (ob x14 fun a128=>
 r (some (.str (bs []))) (some (.int .i64 0)) (some a128) h)
 (n x0 x6 x8 x9 x13 h)
theorem q5_129_eq(C:YC)(lf:Nat)(n:K5)(r:K3)(KE:KX):∀F h,evX fx5 C lf [1,1,1,0] F h (fun F h=>n (F 0) (F 6) (F 8) (F 9) (F 13) h) (fun F h=>r (F 10) (F 11) (F 12) h) KE=q5_129 C lf n r (F 0) (F 6) (F 8) (F 9) (F 13) (F 14) h:=by
 intro F h;kernel_rfl
noncomputable def q5_137(C:YC)(lf:Nat)(n:K6)(x0 x2 x6 x8 x9:O)(h:HW):Rs:=
 ob x0 fun a130=>
 ob x2 fun a131=>
 bc (C (.fn 13) [a130,a131] h) fun y132 h132=>
 ob (ext 0 y132) fun y133=>
 ob (ext 1 y132) fun y134=>
 b2 (yAl Try.prog 41 h132) fun y135 h135=>
 ob (st 1 y135 y133 h135) fun h136=>
 n x0 x6 x8 x9 (some y135) (some y134) h136
theorem q5_137_eq(C:YC)(lf:Nat)(n:K6)(KR:KF)(KE:KX):∀F h,evX fx5 C lf [1,1,0] F h (fun F h=>n (F 0) (F 6) (F 8) (F 9) (F 13) (F 14) h) KR KE=q5_137 C lf n (F 0) (F 2) (F 6) (F 8) (F 9) h:=by
 intro F h;kernel_rfl
noncomputable def q5_144(C:YC)(lf:Nat)(n:K5)(r:K3)(x0 x2 x6 x8 x9:O)(h:HW):Rs:=
 ob x0 fun a138=>
 bc (C (.fn 11) [a138] h) fun y139 h139=>
 ob (unE .not y139) fun y140=>
 yIf y140
 (r (some (.str (bs []))) (some (.int .i64 0)) (some (.int .i64 14)) h139)
 (ob x8 fun a141=>
 ob (ld1 a141 h139) fun y142=>
 ob (bin Try.prog .lss 3 y142 (.int .i64 1)) fun y143=>
 yIf y143
 (r (some (.str (bs []))) (some (.int .i64 0)) (some (.int .i64 22)) h139)
 (n x0 x2 x6 x8 x9 h139))
theorem q5_144_eq(C:YC)(lf:Nat)(n:K5)(r:K3)(KE:KX):∀F h,evX fx5 C lf [1,0] F h (fun F h=>n (F 0) (F 2) (F 6) (F 8) (F 9) h) (fun F h=>r (F 10) (F 11) (F 12) h) KE=q5_144 C lf n r (F 0) (F 2) (F 6) (F 8) (F 9) h:=by
 intro F h;kernel_rfl
noncomputable def q5_151(C:YC)(lf:Nat)(n:K5)(x0 x1 x2 x3 x4:O)(h:HW):Rs:=
 ob x1 fun a145=>
 b2 (ybx 9 a145 h) fun y146 h146=>
 ob x3 fun a147=>
 b2 (ybx 3 a147 h146) fun y148 h148=>
 ob x4 fun a149=>
 b2 (ybx 4 a149 h148) fun y150 h150=>
 n x0 x2 (some y146) (some y148) (some y150) h150
theorem q5_151_eq(C:YC)(lf:Nat)(n:K5)(KR:KF)(KE:KX):∀F h,evX fx5 C lf [0] F h (fun F h=>n (F 0) (F 2) (F 6) (F 8) (F 9) h) KR KE=q5_151 C lf n (F 0) (F 1) (F 2) (F 3) (F 4) h:=by
 intro F h;kernel_rfl
noncomputable def fs5(C:YC)(lf:Nat)(a0 a1 a2 a3 a4:SV)(h:HW):Rs:=noPan (q5_151 C lf ((fun L x0 x2 x6 x8 x9 h=>q5_144 C lf ((fun L x0 x2 x6 x8 x9 h=>q5_137 C lf ((fun L x0 x6 x8 x9 x13 x14 h=>q5_129 C lf ((fun L x0 x6 x8 x9 x13 h=>q5_125 C lf ((fun L x0 x6 x8 x9 x13 x15 h=>q5_123 C lf ((fun L x0 x6 x8 x9 x13 x15 x16 x17 x18 h=>q5_116 C lf ((fun L x6 x8 x9 x13 x15 x16 x17 x18 x40 h=>ob x40 fun y=>rangeT C fx5.ord 5 none 106 #[41] (subX fx5 [1,1,1,1,1,1,0,1,0,0]) (subX fx5 [1,1,1,1,1,1,0,1,0,1]) y L (layT [(6,x6),(8,x8),(9,x9),(13,x13),(15,x15),(16,x16),(17,x17),(18,x18)]) h (fun L h=>(fun L x6 x15 x16 x18 h=>q5_14 C lf (fz5 L) x6 x15 x16 x18 h) L x6 x15 x16 x18 h) noT [(1,fun L h=>(fun L x6 x15 x16 x18 h=>q5_14 C lf (fz5 L) x6 x15 x16 x18 h) L x6 x15 x16 x18 h)]) L) x0 x6 x8 x9 x13 x15 x16 x17 x18 h) L) x0 x6 x8 x9 x13 x15 h) L) x0 x6 x8 x9 x13 h) L) (fz5 L) x0 x6 x8 x9 x13 x14 h) L) x0 x2 x6 x8 x9 h) L) (fz5 L) x0 x2 x6 x8 x9 h) []) (some a0) (some a1) (some a2) (some a3) (some a4) h)
theorem fs5_eq(C:YC)(lf:Nat)(a0 a1 a2 a3 a4:SV)(h:HW):yFnZ Try.prog fx5 C lf [a0,a1,a2,a3,a4] h=fs5 C lf a0 a1 a2 a3 a4 h:=fnZ (K:=(fun L F h=>fz5 L (F 10) (F 11) (F 12) h)) (by kernel_rfl) (((zSeq (a:=subX fx5 [0]) (b:=subX fx5 [1]) (by kernel_rfl) (B:=(fun L F h=>q5_144 C lf ((fun L x0 x2 x6 x8 x9 h=>q5_137 C lf ((fun L x0 x6 x8 x9 x13 x14 h=>q5_129 C lf ((fun L x0 x6 x8 x9 x13 h=>q5_125 C lf ((fun L x0 x6 x8 x9 x13 x15 h=>q5_123 C lf ((fun L x0 x6 x8 x9 x13 x15 x16 x17 x18 h=>q5_116 C lf ((fun L x6 x8 x9 x13 x15 x16 x17 x18 x40 h=>ob x40 fun y=>rangeT C fx5.ord 5 none 106 #[41] (subX fx5 [1,1,1,1,1,1,0,1,0,0]) (subX fx5 [1,1,1,1,1,1,0,1,0,1]) y L (layT [(6,x6),(8,x8),(9,x9),(13,x13),(15,x15),(16,x16),(17,x17),(18,x18)]) h (fun L h=>(fun L x6 x15 x16 x18 h=>q5_14 C lf (fz5 L) x6 x15 x16 x18 h) L x6 x15 x16 x18 h) noT [(1,fun L h=>(fun L x6 x15 x16 x18 h=>q5_14 C lf (fz5 L) x6 x15 x16 x18 h) L x6 x15 x16 x18 h)]) L) x0 x6 x8 x9 x13 x15 x16 x17 x18 h) L) x0 x6 x8 x9 x13 x15 h) L) x0 x6 x8 x9 x13 h) L) (fz5 L) x0 x6 x8 x9 x13 x14 h) L) x0 x2 x6 x8 x9 h) L) (fz5 L) (F 0) (F 2) (F 6) (F 8) (F 9) h)) (zSeq (a:=subX fx5 [1,0]) (b:=subX fx5 [1,1]) (by kernel_rfl) (B:=(fun L F h=>q5_137 C lf ((fun L x0 x6 x8 x9 x13 x14 h=>q5_129 C lf ((fun L x0 x6 x8 x9 x13 h=>q5_125 C lf ((fun L x0 x6 x8 x9 x13 x15 h=>q5_123 C lf ((fun L x0 x6 x8 x9 x13 x15 x16 x17 x18 h=>q5_116 C lf ((fun L x6 x8 x9 x13 x15 x16 x17 x18 x40 h=>ob x40 fun y=>rangeT C fx5.ord 5 none 106 #[41] (subX fx5 [1,1,1,1,1,1,0,1,0,0]) (subX fx5 [1,1,1,1,1,1,0,1,0,1]) y L (layT [(6,x6),(8,x8),(9,x9),(13,x13),(15,x15),(16,x16),(17,x17),(18,x18)]) h (fun L h=>(fun L x6 x15 x16 x18 h=>q5_14 C lf (fz5 L) x6 x15 x16 x18 h) L x6 x15 x16 x18 h) noT [(1,fun L h=>(fun L x6 x15 x16 x18 h=>q5_14 C lf (fz5 L) x6 x15 x16 x18 h) L x6 x15 x16 x18 h)]) L) x0 x6 x8 x9 x13 x15 x16 x17 x18 h) L) x0 x6 x8 x9 x13 x15 h) L) x0 x6 x8 x9 x13 h) L) (fz5 L) x0 x6 x8 x9 x13 x14 h) L) (F 0) (F 2) (F 6) (F 8) (F 9) h)) (zSeq (a:=subX fx5 [1,1,0]) (b:=subX fx5 [1,1,1]) (by kernel_rfl) (B:=(fun L F h=>q5_129 C lf ((fun L x0 x6 x8 x9 x13 h=>q5_125 C lf ((fun L x0 x6 x8 x9 x13 x15 h=>q5_123 C lf ((fun L x0 x6 x8 x9 x13 x15 x16 x17 x18 h=>q5_116 C lf ((fun L x6 x8 x9 x13 x15 x16 x17 x18 x40 h=>ob x40 fun y=>rangeT C fx5.ord 5 none 106 #[41] (subX fx5 [1,1,1,1,1,1,0,1,0,0]) (subX fx5 [1,1,1,1,1,1,0,1,0,1]) y L (layT [(6,x6),(8,x8),(9,x9),(13,x13),(15,x15),(16,x16),(17,x17),(18,x18)]) h (fun L h=>(fun L x6 x15 x16 x18 h=>q5_14 C lf (fz5 L) x6 x15 x16 x18 h) L x6 x15 x16 x18 h) noT [(1,fun L h=>(fun L x6 x15 x16 x18 h=>q5_14 C lf (fz5 L) x6 x15 x16 x18 h) L x6 x15 x16 x18 h)]) L) x0 x6 x8 x9 x13 x15 x16 x17 x18 h) L) x0 x6 x8 x9 x13 x15 h) L) x0 x6 x8 x9 x13 h) L) (fz5 L) (F 0) (F 6) (F 8) (F 9) (F 13) (F 14) h)) (zSeq (a:=subX fx5 [1,1,1,0]) (b:=subX fx5 [1,1,1,1]) (by kernel_rfl) (B:=(fun L F h=>q5_125 C lf ((fun L x0 x6 x8 x9 x13 x15 h=>q5_123 C lf ((fun L x0 x6 x8 x9 x13 x15 x16 x17 x18 h=>q5_116 C lf ((fun L x6 x8 x9 x13 x15 x16 x17 x18 x40 h=>ob x40 fun y=>rangeT C fx5.ord 5 none 106 #[41] (subX fx5 [1,1,1,1,1,1,0,1,0,0]) (subX fx5 [1,1,1,1,1,1,0,1,0,1]) y L (layT [(6,x6),(8,x8),(9,x9),(13,x13),(15,x15),(16,x16),(17,x17),(18,x18)]) h (fun L h=>(fun L x6 x15 x16 x18 h=>q5_14 C lf (fz5 L) x6 x15 x16 x18 h) L x6 x15 x16 x18 h) noT [(1,fun L h=>(fun L x6 x15 x16 x18 h=>q5_14 C lf (fz5 L) x6 x15 x16 x18 h) L x6 x15 x16 x18 h)]) L) x0 x6 x8 x9 x13 x15 x16 x17 x18 h) L) x0 x6 x8 x9 x13 x15 h) L) (F 0) (F 6) (F 8) (F 9) (F 13) h)) (zSeq (a:=subX fx5 [1,1,1,1,0]) (b:=subX fx5 [1,1,1,1,1]) (by kernel_rfl) (B:=(fun L F h=>q5_123 C lf ((fun L x0 x6 x8 x9 x13 x15 x16 x17 x18 h=>q5_116 C lf ((fun L x6 x8 x9 x13 x15 x16 x17 x18 x40 h=>ob x40 fun y=>rangeT C fx5.ord 5 none 106 #[41] (subX fx5 [1,1,1,1,1,1,0,1,0,0]) (subX fx5 [1,1,1,1,1,1,0,1,0,1]) y L (layT [(6,x6),(8,x8),(9,x9),(13,x13),(15,x15),(16,x16),(17,x17),(18,x18)]) h (fun L h=>(fun L x6 x15 x16 x18 h=>q5_14 C lf (fz5 L) x6 x15 x16 x18 h) L x6 x15 x16 x18 h) noT [(1,fun L h=>(fun L x6 x15 x16 x18 h=>q5_14 C lf (fz5 L) x6 x15 x16 x18 h) L x6 x15 x16 x18 h)]) L) x0 x6 x8 x9 x13 x15 x16 x17 x18 h) L) (F 0) (F 6) (F 8) (F 9) (F 13) (F 15) h)) (zSeq (a:=subX fx5 [1,1,1,1,1,0]) (b:=subX fx5 [1,1,1,1,1,1]) (by kernel_rfl) (B:=(fun L F h=>q5_116 C lf ((fun L x6 x8 x9 x13 x15 x16 x17 x18 x40 h=>ob x40 fun y=>rangeT C fx5.ord 5 none 106 #[41] (subX fx5 [1,1,1,1,1,1,0,1,0,0]) (subX fx5 [1,1,1,1,1,1,0,1,0,1]) y L (layT [(6,x6),(8,x8),(9,x9),(13,x13),(15,x15),(16,x16),(17,x17),(18,x18)]) h (fun L h=>(fun L x6 x15 x16 x18 h=>q5_14 C lf (fz5 L) x6 x15 x16 x18 h) L x6 x15 x16 x18 h) noT [(1,fun L h=>(fun L x6 x15 x16 x18 h=>q5_14 C lf (fz5 L) x6 x15 x16 x18 h) L x6 x15 x16 x18 h)]) L) (F 0) (F 6) (F 8) (F 9) (F 13) (F 15) (F 16) (F 17) (F 18) h)) (zSeq (a:=subX fx5 [1,1,1,1,1,1,0]) (b:=subX fx5 [1,1,1,1,1,1,1]) (by kernel_rfl) (B:=(fun L F h=>q5_14 C lf (fz5 L) (F 6) (F 15) (F 16) (F 18) h)) (zPlain (x:=fx5) (p:=[1,1,1,1,1,1,1]) (by kernel_rfl) (fun L F h=>(q5_14_eq C lf (fz5 L) ((fun L F h=>fz5 L (F 10) (F 11) (F 12) h) L) (fun i=>(fun _ _ _ _=>none) i L)) F h)) (zSeq (a:=subX fx5 [1,1,1,1,1,1,0,0]) (b:=subX fx5 [1,1,1,1,1,1,0,1]) (by kernel_rfl) (B:=(fun L F h=>ob (F 40) fun y=>rangeT C fx5.ord 5 none 106 #[41] (subX fx5 [1,1,1,1,1,1,0,1,0,0]) (subX fx5 [1,1,1,1,1,1,0,1,0,1]) y L (layT [(6,(F 6)),(8,(F 8)),(9,(F 9)),(13,(F 13)),(15,(F 15)),(16,(F 16)),(17,(F 17)),(18,(F 18))]) h (fun L h=>(fun L x6 x15 x16 x18 h=>q5_14 C lf (fz5 L) x6 x15 x16 x18 h) L (F 6) (F 15) (F 16) (F 18) h) noT [(1,fun L h=>(fun L x6 x15 x16 x18 h=>q5_14 C lf (fz5 L) x6 x15 x16 x18 h) L (F 6) (F 15) (F 16) (F 18) h)])) (zBlock (id:=1) (a:=subX fx5 [1,1,1,1,1,1,0,1,0]) (by kernel_rfl) (fun L F h=>zRange (a:=subX fx5 [1,1,1,1,1,1,0,1,0,0]) (b:=subX fx5 [1,1,1,1,1,1,0,1,0,1]) (g:= .tmp 40) (ps:= #[41]) (us:=[6,8,9,13,15,16,17,18]) (es:=[1]) (rb:=false) (by kernel_rfl) (by kernel_rfl) (by kernel_rfl) (by kernel_rfl) L F h)) (zPlain (x:=fx5) (p:=[1,1,1,1,1,1,0,0]) (by kernel_rfl) (fun L F h=>(q5_116_eq C lf ((fun L x6 x8 x9 x13 x15 x16 x17 x18 x40 h=>ob x40 fun y=>rangeT C fx5.ord 5 none 106 #[41] (subX fx5 [1,1,1,1,1,1,0,1,0,0]) (subX fx5 [1,1,1,1,1,1,0,1,0,1]) y L (layT [(6,x6),(8,x8),(9,x9),(13,x13),(15,x15),(16,x16),(17,x17),(18,x18)]) h (fun L h=>(fun L x6 x15 x16 x18 h=>q5_14 C lf (fz5 L) x6 x15 x16 x18 h) L x6 x15 x16 x18 h) noT [(1,fun L h=>(fun L x6 x15 x16 x18 h=>q5_14 C lf (fz5 L) x6 x15 x16 x18 h) L x6 x15 x16 x18 h)]) L) ((fun L F h=>fz5 L (F 10) (F 11) (F 12) h) L) (fun i=>(fun _ _ _ _=>none) i L)) F h)))) (zPlain (x:=fx5) (p:=[1,1,1,1,1,0]) (by kernel_rfl) (fun L F h=>(q5_123_eq C lf ((fun L x0 x6 x8 x9 x13 x15 x16 x17 x18 h=>q5_116 C lf ((fun L x6 x8 x9 x13 x15 x16 x17 x18 x40 h=>ob x40 fun y=>rangeT C fx5.ord 5 none 106 #[41] (subX fx5 [1,1,1,1,1,1,0,1,0,0]) (subX fx5 [1,1,1,1,1,1,0,1,0,1]) y L (layT [(6,x6),(8,x8),(9,x9),(13,x13),(15,x15),(16,x16),(17,x17),(18,x18)]) h (fun L h=>(fun L x6 x15 x16 x18 h=>q5_14 C lf (fz5 L) x6 x15 x16 x18 h) L x6 x15 x16 x18 h) noT [(1,fun L h=>(fun L x6 x15 x16 x18 h=>q5_14 C lf (fz5 L) x6 x15 x16 x18 h) L x6 x15 x16 x18 h)]) L) x0 x6 x8 x9 x13 x15 x16 x17 x18 h) L) ((fun L F h=>fz5 L (F 10) (F 11) (F 12) h) L) (fun i=>(fun _ _ _ _=>none) i L)) F h))) (zPlain (x:=fx5) (p:=[1,1,1,1,0]) (by kernel_rfl) (fun L F h=>(q5_125_eq C lf ((fun L x0 x6 x8 x9 x13 x15 h=>q5_123 C lf ((fun L x0 x6 x8 x9 x13 x15 x16 x17 x18 h=>q5_116 C lf ((fun L x6 x8 x9 x13 x15 x16 x17 x18 x40 h=>ob x40 fun y=>rangeT C fx5.ord 5 none 106 #[41] (subX fx5 [1,1,1,1,1,1,0,1,0,0]) (subX fx5 [1,1,1,1,1,1,0,1,0,1]) y L (layT [(6,x6),(8,x8),(9,x9),(13,x13),(15,x15),(16,x16),(17,x17),(18,x18)]) h (fun L h=>(fun L x6 x15 x16 x18 h=>q5_14 C lf (fz5 L) x6 x15 x16 x18 h) L x6 x15 x16 x18 h) noT [(1,fun L h=>(fun L x6 x15 x16 x18 h=>q5_14 C lf (fz5 L) x6 x15 x16 x18 h) L x6 x15 x16 x18 h)]) L) x0 x6 x8 x9 x13 x15 x16 x17 x18 h) L) x0 x6 x8 x9 x13 x15 h) L) ((fun L F h=>fz5 L (F 10) (F 11) (F 12) h) L) (fun i=>(fun _ _ _ _=>none) i L)) F h))) (zPlain (x:=fx5) (p:=[1,1,1,0]) (by kernel_rfl) (fun L F h=>(q5_129_eq C lf ((fun L x0 x6 x8 x9 x13 h=>q5_125 C lf ((fun L x0 x6 x8 x9 x13 x15 h=>q5_123 C lf ((fun L x0 x6 x8 x9 x13 x15 x16 x17 x18 h=>q5_116 C lf ((fun L x6 x8 x9 x13 x15 x16 x17 x18 x40 h=>ob x40 fun y=>rangeT C fx5.ord 5 none 106 #[41] (subX fx5 [1,1,1,1,1,1,0,1,0,0]) (subX fx5 [1,1,1,1,1,1,0,1,0,1]) y L (layT [(6,x6),(8,x8),(9,x9),(13,x13),(15,x15),(16,x16),(17,x17),(18,x18)]) h (fun L h=>(fun L x6 x15 x16 x18 h=>q5_14 C lf (fz5 L) x6 x15 x16 x18 h) L x6 x15 x16 x18 h) noT [(1,fun L h=>(fun L x6 x15 x16 x18 h=>q5_14 C lf (fz5 L) x6 x15 x16 x18 h) L x6 x15 x16 x18 h)]) L) x0 x6 x8 x9 x13 x15 x16 x17 x18 h) L) x0 x6 x8 x9 x13 x15 h) L) x0 x6 x8 x9 x13 h) L) (fz5 L) (fun i=>(fun _ _ _ _=>none) i L)) F h))) (zPlain (x:=fx5) (p:=[1,1,0]) (by kernel_rfl) (fun L F h=>(q5_137_eq C lf ((fun L x0 x6 x8 x9 x13 x14 h=>q5_129 C lf ((fun L x0 x6 x8 x9 x13 h=>q5_125 C lf ((fun L x0 x6 x8 x9 x13 x15 h=>q5_123 C lf ((fun L x0 x6 x8 x9 x13 x15 x16 x17 x18 h=>q5_116 C lf ((fun L x6 x8 x9 x13 x15 x16 x17 x18 x40 h=>ob x40 fun y=>rangeT C fx5.ord 5 none 106 #[41] (subX fx5 [1,1,1,1,1,1,0,1,0,0]) (subX fx5 [1,1,1,1,1,1,0,1,0,1]) y L (layT [(6,x6),(8,x8),(9,x9),(13,x13),(15,x15),(16,x16),(17,x17),(18,x18)]) h (fun L h=>(fun L x6 x15 x16 x18 h=>q5_14 C lf (fz5 L) x6 x15 x16 x18 h) L x6 x15 x16 x18 h) noT [(1,fun L h=>(fun L x6 x15 x16 x18 h=>q5_14 C lf (fz5 L) x6 x15 x16 x18 h) L x6 x15 x16 x18 h)]) L) x0 x6 x8 x9 x13 x15 x16 x17 x18 h) L) x0 x6 x8 x9 x13 x15 h) L) x0 x6 x8 x9 x13 h) L) (fz5 L) x0 x6 x8 x9 x13 x14 h) L) ((fun L F h=>fz5 L (F 10) (F 11) (F 12) h) L) (fun i=>(fun _ _ _ _=>none) i L)) F h))) (zPlain (x:=fx5) (p:=[1,0]) (by kernel_rfl) (fun L F h=>(q5_144_eq C lf ((fun L x0 x2 x6 x8 x9 h=>q5_137 C lf ((fun L x0 x6 x8 x9 x13 x14 h=>q5_129 C lf ((fun L x0 x6 x8 x9 x13 h=>q5_125 C lf ((fun L x0 x6 x8 x9 x13 x15 h=>q5_123 C lf ((fun L x0 x6 x8 x9 x13 x15 x16 x17 x18 h=>q5_116 C lf ((fun L x6 x8 x9 x13 x15 x16 x17 x18 x40 h=>ob x40 fun y=>rangeT C fx5.ord 5 none 106 #[41] (subX fx5 [1,1,1,1,1,1,0,1,0,0]) (subX fx5 [1,1,1,1,1,1,0,1,0,1]) y L (layT [(6,x6),(8,x8),(9,x9),(13,x13),(15,x15),(16,x16),(17,x17),(18,x18)]) h (fun L h=>(fun L x6 x15 x16 x18 h=>q5_14 C lf (fz5 L) x6 x15 x16 x18 h) L x6 x15 x16 x18 h) noT [(1,fun L h=>(fun L x6 x15 x16 x18 h=>q5_14 C lf (fz5 L) x6 x15 x16 x18 h) L x6 x15 x16 x18 h)]) L) x0 x6 x8 x9 x13 x15 x16 x17 x18 h) L) x0 x6 x8 x9 x13 x15 h) L) x0 x6 x8 x9 x13 h) L) (fz5 L) x0 x6 x8 x9 x13 x14 h) L) x0 x2 x6 x8 x9 h) L) (fz5 L) (fun i=>(fun _ _ _ _=>none) i L)) F h))) (zPlain (x:=fx5) (p:=[0]) (by kernel_rfl) (fun L F h=>(q5_151_eq C lf ((fun L x0 x2 x6 x8 x9 h=>q5_144 C lf ((fun L x0 x2 x6 x8 x9 h=>q5_137 C lf ((fun L x0 x6 x8 x9 x13 x14 h=>q5_129 C lf ((fun L x0 x6 x8 x9 x13 h=>q5_125 C lf ((fun L x0 x6 x8 x9 x13 x15 h=>q5_123 C lf ((fun L x0 x6 x8 x9 x13 x15 x16 x17 x18 h=>q5_116 C lf ((fun L x6 x8 x9 x13 x15 x16 x17 x18 x40 h=>ob x40 fun y=>rangeT C fx5.ord 5 none 106 #[41] (subX fx5 [1,1,1,1,1,1,0,1,0,0]) (subX fx5 [1,1,1,1,1,1,0,1,0,1]) y L (layT [(6,x6),(8,x8),(9,x9),(13,x13),(15,x15),(16,x16),(17,x17),(18,x18)]) h (fun L h=>(fun L x6 x15 x16 x18 h=>q5_14 C lf (fz5 L) x6 x15 x16 x18 h) L x6 x15 x16 x18 h) noT [(1,fun L h=>(fun L x6 x15 x16 x18 h=>q5_14 C lf (fz5 L) x6 x15 x16 x18 h) L x6 x15 x16 x18 h)]) L) x0 x6 x8 x9 x13 x15 x16 x17 x18 h) L) x0 x6 x8 x9 x13 x15 h) L) x0 x6 x8 x9 x13 h) L) (fz5 L) x0 x6 x8 x9 x13 x14 h) L) x0 x2 x6 x8 x9 h) L) (fz5 L) x0 x2 x6 x8 x9 h) L) ((fun L F h=>fz5 L (F 10) (F 11) (F 12) h) L) (fun i=>(fun _ _ _ _=>none) i L)) F h))) [] _ h).trans (by kernel_rfl))
noncomputable def fy5:YX Try.prog:=Z5 fx5 fs5 fs5_eq (by kernel_rfl)
noncomputable def fx6:XF Try.prog:=⟨6,Try.f6,fun _=> .text,Try.func6,by kernel_rfl,by kernel_rfl,by kernel_rfl,by kernel_rfl⟩
noncomputable def ff6(x4:O)(h:HW):Rs:=
 ob x4 fun a0=>
 some (.ret a0,h)
noncomputable def q6_1(C:YC)(lf:Nat)(r:K1)(h:HW):Rs:=
 r (some (.bool false)) h
theorem q6_1_eq(C:YC)(lf:Nat)(r:K1)(KN:KF)(KE:KX):∀F h,evX fx6 C lf [1,1,1] F h KN (fun F h=>r (F 4) h) KE=q6_1 C lf r h:=by
 intro F h;kernel_rfl
noncomputable def q6_13(C:YC)(lf:Nat)(n:K4)(r:K1)(e0:K0)(x0 x1 x11 x12:O)(h:HW):Rs:=
 ob x12 fun a3=>
 ob x11 fun a4=>
 ob (bin Try.prog .lss 3 a3 a4) fun y5=>
 yIf y5
 (ob x12 fun a6=>
 ob x0 fun a7=>
 ob x1 fun a8=>
 bc (C (.fn 16) [a7,a8,a6] h) fun y9 h9=>
 ob (bin Try.prog .geq 3 y9 (.int .i64 0)) fun y10=>
 yIf y10
 (r (some (.bool true)) h9)
 (ob x12 fun a11=>
 ob (bin Try.prog .add 3 a11 (.int .i64 1)) fun y12=>
 n x0 x1 x11 (some y12) h9))
 (e0 h)
theorem q6_13_eq(C:YC)(lf:Nat)(n:K4)(r:K1)(e0:K0)(KE:KX):∀F h,evX fx6 C lf [1,1,0,1,0,0] F h (fun F h=>n (F 0) (F 1) (F 11) (F 12) h) (fun F h=>r (F 4) h) (bk 0 (fun F h=>e0 h) KE)=q6_13 C lf n r e0 (F 0) (F 1) (F 11) (F 12) h:=by
 intro F h;kernel_rfl
noncomputable def l6_2(C:YC)(lf:Nat)(r:K1)(e0:K0)(k:O×O×O×O→HW→Rs)(s:O×O×O×O)(h:HW):Rs:=
 q6_13 C lf (fun x0 x1 x11 x12 h=>k (x0,x1,x11,x12) h) r e0 s.1 s.2.1 s.2.2.1 s.2.2.2 h
noncomputable def q6_17(C:YC)(lf:Nat)(n:K4)(x0 x1:O)(h:HW):Rs:=
 ob x1 fun a14=>
 ob (lenE Try.prog 9 a14) fun y15=>
 ob (bin Try.prog .add 3 y15 (.int .i64 1)) fun y16=>
 n x0 x1 (some y16) (some (.int .i64 0)) h
theorem q6_17_eq(C:YC)(lf:Nat)(n:K4)(KR:KF)(KE:KX):∀F h,evX fx6 C lf [1,1,0,0] F h (fun F h=>n (F 0) (F 1) (F 11) (F 12) h) KR KE=q6_17 C lf n (F 0) (F 1) h:=by
 intro F h;kernel_rfl
noncomputable def q6_18(C:YC)(lf:Nat)(n:K0)(r:K1)(x0 x1:O)(h:HW):Rs:=
 q6_17 C lf (fun x0 x1 x11 x12 h=>lp (l6_2 C lf r n) lf (x0,x1,x11,x12) h) x0 x1 h
theorem q6_18_eq(C:YC)(lf:Nat)(n:K0)(r:K1)(KE:KX):∀F h,evX fx6 C lf [1,1,0] F h (fun F h=>n h) (fun F h=>r (F 4) h) KE=q6_18 C lf n r (F 0) (F 1) h:=cSeq (a:=subX fx6 [1,1,0,0]) (b:=subX fx6 [1,1,0,1]) (by kernel_rfl) (B:=(fun F h=>lp (l6_2 C lf r n) lf ((F 0),(F 1),(F 11),(F 12)) h)) (cBlock (id:=0) (a:=subX fx6 [1,1,0,1,0]) (by kernel_rfl) (cLoop (a:=subX fx6 [1,1,0,1,0,0]) (g:=fun F=>(F 0,F 1,F 11,F 12)) (body:=l6_2 C lf r n) (by kernel_rfl) (fun k=>(q6_13_eq C lf (fun x0 x1 x11 x12 h=>k (x0,x1,x11,x12) h) r n KE)))) (q6_17_eq C lf (fun x0 x1 x11 x12 h=>lp (l6_2 C lf r n) lf (x0,x1,x11,x12) h) (fun F h=>r (F 4) h) KE)
noncomputable def q6_19(C:YC)(lf:Nat)(r:K1)(x0 x1:O)(h:HW):Rs:=
 q6_18 C lf (fun h=>q6_1 C lf r h) r x0 x1 h
theorem q6_19_eq(C:YC)(lf:Nat)(r:K1)(KN:KF)(KE:KX):∀F h,evX fx6 C lf [1,1] F h KN (fun F h=>r (F 4) h) KE=q6_19 C lf r (F 0) (F 1) h:=cSeq (a:=subX fx6 [1,1,0]) (b:=subX fx6 [1,1,1]) (by kernel_rfl) (B:=(fun F h=>q6_1 C lf r h)) (q6_1_eq C lf r KN KE) (q6_18_eq C lf (fun h=>q6_1 C lf r h) r KE)
noncomputable def q6_23(C:YC)(lf:Nat)(n:K2)(r:K1)(x0 x1:O)(h:HW):Rs:=
 ob x0 fun a20=>
 bc (C (.fn 11) [a20] h) fun y21 h21=>
 ob (unE .not y21) fun y22=>
 yIf y22
 (r (some (.bool false)) h21)
 (n x0 x1 h21)
theorem q6_23_eq(C:YC)(lf:Nat)(n:K2)(r:K1)(KE:KX):∀F h,evX fx6 C lf [1,0] F h (fun F h=>n (F 0) (F 1) h) (fun F h=>r (F 4) h) KE=q6_23 C lf n r (F 0) (F 1) h:=by
 intro F h;kernel_rfl
noncomputable def q6_24(C:YC)(lf:Nat)(r:K1)(x0 x1:O)(h:HW):Rs:=
 q6_23 C lf (fun x0 x1 h=>q6_19 C lf r x0 x1 h) r x0 x1 h
theorem q6_24_eq(C:YC)(lf:Nat)(r:K1)(KN:KF)(KE:KX):∀F h,evX fx6 C lf [1] F h KN (fun F h=>r (F 4) h) KE=q6_24 C lf r (F 0) (F 1) h:=cSeq (a:=subX fx6 [1,0]) (b:=subX fx6 [1,1]) (by kernel_rfl) (B:=(fun F h=>q6_19 C lf r (F 0) (F 1) h)) (q6_19_eq C lf r KN KE) (q6_23_eq C lf (fun x0 x1 h=>q6_19 C lf r x0 x1 h) r KE)
noncomputable def q6_25(C:YC)(lf:Nat)(n:K2)(x0 x1:O)(h:HW):Rs:=
 n x0 x1 h
theorem q6_25_eq(C:YC)(lf:Nat)(n:K2)(KR:KF)(KE:KX):∀F h,evX fx6 C lf [0] F h (fun F h=>n (F 0) (F 1) h) KR KE=q6_25 C lf n (F 0) (F 1) h:=by
 intro F h;kernel_rfl
noncomputable def q6_26(C:YC)(lf:Nat)(r:K1)(x0 x1:O)(h:HW):Rs:=
 q6_25 C lf (fun x0 x1 h=>q6_24 C lf r x0 x1 h) x0 x1 h
theorem q6_26_eq(C:YC)(lf:Nat)(r:K1)(KN:KF)(KE:KX):∀F h,evX fx6 C lf [] F h KN (fun F h=>r (F 4) h) KE=q6_26 C lf r (F 0) (F 1) h:=cSeq (a:=subX fx6 [0]) (b:=subX fx6 [1]) (by kernel_rfl) (B:=(fun F h=>q6_24 C lf r (F 0) (F 1) h)) (q6_24_eq C lf r KN KE) (q6_25_eq C lf (fun x0 x1 h=>q6_24 C lf r x0 x1 h) (fun F h=>r (F 4) h) KE)
noncomputable def fs6(C:YC)(lf:Nat)(a0 a1:SV)(h:HW):Rs:=q6_26 C lf ff6 (some a0) (some a1) h
theorem fs6_eq(C:YC)(lf:Nat)(a0 a1:SV)(h:HW):yFn Try.prog fx6 C lf [a0,a1] h=fs6 C lf a0 a1 h:=fnX (K:=(fun F h=>ff6 (F 4) h)) (by kernel_rfl) (((q6_26_eq C lf ff6 (fun F h=>ff6 (F 4) h) (fun _ _ _=>none)) _ h).trans (by kernel_rfl))
noncomputable def fy6:YX Try.prog:=Y2 fx6 fs6 fs6_eq (by kernel_rfl)
noncomputable def fx7:XF Try.prog:=⟨7,Try.f7,fun _=> .text,Try.func7,by kernel_rfl,by kernel_rfl,by kernel_rfl,by kernel_rfl⟩
noncomputable def ff7(x4:O)(h:HW):Rs:=
 ob x4 fun a0=>
 some (.ret a0,h)
noncomputable def q7_16(C:YC)(lf:Nat)(r:K1)(x0 x1:O)(h:HW):Rs:=
 ob x0 fun a1=>
 bc (C (.fn 11) [a1] h) fun y2 h2=>
 bc (gd true (some y2) (ob x0 fun a3=>
 some (.ret a3,h2)) h2) fun y4 h4=>
 bc (gd true (some y2) (ob x1 fun a5=>
 some (.ret a5,h4)) h4) fun y6 h6=>
 bc (gd true (some y2) (bc (C (.fn 16) [y4,y6,(.int .i64 0)] h6) fun y7 h7=>
 some (.ret y7,h7)) h6) fun y8 h8=>
 bc (gd true (some y2) (ob x1 fun a9=>
 some (.ret a9,h8)) h8) fun y10 h10=>
 bc (gd true (some y2) (ob (lenE Try.prog 9 y10) fun y11=>
 some (.ret y11,h10)) h10) fun y12 h12=>
 bc (gd true (some y2) (ob (bin Try.prog .eql 3 y8 y12) fun y13=>
 some (.ret y13,h12)) h12) fun y14 h14=>
 ob (ypk y2 y14 (.bool false)) fun y15=>
 r (some y15) h14
theorem q7_16_eq(C:YC)(lf:Nat)(r:K1)(KN:KF)(KE:KX):∀F h,evX fx7 C lf [] F h KN (fun F h=>r (F 4) h) KE=q7_16 C lf r (F 0) (F 1) h:=by
 intro F h;kernel_rfl
noncomputable def fs7(C:YC)(lf:Nat)(a0 a1:SV)(h:HW):Rs:=q7_16 C lf ff7 (some a0) (some a1) h
theorem fs7_eq(C:YC)(lf:Nat)(a0 a1:SV)(h:HW):yFn Try.prog fx7 C lf [a0,a1] h=fs7 C lf a0 a1 h:=fnX (K:=(fun F h=>ff7 (F 4) h)) (by kernel_rfl) (((q7_16_eq C lf ff7 (fun F h=>ff7 (F 4) h) (fun _ _ _=>none)) _ h).trans (by kernel_rfl))
noncomputable def fy7:YX Try.prog:=Y2 fx7 fs7 fs7_eq (by kernel_rfl)
noncomputable def fx8:XF Try.prog:=⟨8,Try.f8,fun _=> .text,Try.func8,by kernel_rfl,by kernel_rfl,by kernel_rfl,by kernel_rfl⟩
noncomputable def ff8(x2:O)(h:HW):Rs:=
 ob x2 fun a0=>
 some (.ret a0,h)
noncomputable def q8_8(C:YC)(lf:Nat)(r:K1)(x0:O)(h:HW):Rs:=
 ob x0 fun a1=>
 bc (C (.fn 11) [a1] h) fun y2 h2=>
 ob (unE .not y2) fun y3=>
 yIf y3
 (r (some (.int .i64 0)) h2)
 (ob x0 fun a4=>
 ob (semNil a4) fun y5=>
 ob (fa 1 y5) fun y6=>
 ob (ld1 y6 h2) fun y7=>
 r (some y7) h2)
theorem q8_8_eq(C:YC)(lf:Nat)(r:K1)(KN:KF)(KE:KX):∀F h,evX fx8 C lf [] F h KN (fun F h=>r (F 2) h) KE=q8_8 C lf r (F 0) h:=by
 intro F h;kernel_rfl
noncomputable def fs8(C:YC)(lf:Nat)(a0:SV)(h:HW):Rs:=q8_8 C lf ff8 (some a0) h
theorem fs8_eq(C:YC)(lf:Nat)(a0:SV)(h:HW):yFn Try.prog fx8 C lf [a0] h=fs8 C lf a0 h:=fnX (K:=(fun F h=>ff8 (F 2) h)) (by kernel_rfl) (((q8_8_eq C lf ff8 (fun F h=>ff8 (F 2) h) (fun _ _ _=>none)) _ h).trans (by kernel_rfl))
noncomputable def fy8:YX Try.prog:=Y1 fx8 fs8 fs8_eq (by kernel_rfl)
noncomputable def fx9:XF Try.prog:=⟨9,Try.f9,fun _=> .text,Try.func9,by kernel_rfl,by kernel_rfl,by kernel_rfl,by kernel_rfl⟩
noncomputable def ff9(x4:O)(h:HW):Rs:=
 ob x4 fun a0=>
 some (.ret a0,h)
noncomputable def q9_5(C:YC)(lf:Nat)(r:K1)(x0 x1:O)(h:HW):Rs:=
 ob x0 fun a1=>
 b2 (ybx 22 a1 h) fun y2 h2=>
 ob x1 fun a3=>
 b2 (ybx 9 a3 h2) fun y4 h4=>
 r (some (.fn (.func 17) [] [y2,y4])) h4
theorem q9_5_eq(C:YC)(lf:Nat)(r:K1)(KN:KF)(KE:KX):∀F h,evX fx9 C lf [] F h KN (fun F h=>r (F 4) h) KE=q9_5 C lf r (F 0) (F 1) h:=by
 intro F h;kernel_rfl
noncomputable def fs9(C:YC)(lf:Nat)(a0 a1:SV)(h:HW):Rs:=q9_5 C lf ff9 (some a0) (some a1) h
theorem fs9_eq(C:YC)(lf:Nat)(a0 a1:SV)(h:HW):yFn Try.prog fx9 C lf [a0,a1] h=fs9 C lf a0 a1 h:=fnX (K:=(fun F h=>ff9 (F 4) h)) (by kernel_rfl) (((q9_5_eq C lf ff9 (fun F h=>ff9 (F 4) h) (fun _ _ _=>none)) _ h).trans (by kernel_rfl))
noncomputable def fy9:YX Try.prog:=Y2 fx9 fs9 fs9_eq (by kernel_rfl)
noncomputable def fx10:XF Try.prog:=⟨10,Try.f10,fun _=> .text,Try.func10,by kernel_rfl,by kernel_rfl,by kernel_rfl,by kernel_rfl⟩
noncomputable def ff10(x0:O)(h:HW):Rs:=
 ob x0 fun a0=>
 some (.ret a0,h)
noncomputable def q10_30(C:YC)(lf:Nat)(r:K1)(h:HW):Rs:=
 bc (C (.fn 18) [(.str (bs [40,97,42,41,40,97,98,41,42])),(.bool true),(.bool false)] h) fun y1 h1=>
 ob (ext 0 y1) fun y2=>
 ob (ext 1 y1) fun y3=>
 ob (bin Try.prog .neq 30 y3 (.int .i64 0)) fun y4=>
 bc (gd false (some y4) (some (.ret y2,h1)) h1) fun y5 h5=>
 bc (gd false (some y4) (ob (bin Try.prog .eql 22 y5 (.val (.pointer none))) fun y6=>
 some (.ret y6,h5)) h5) fun y7 h7=>
 ob (ypk y4 (.bool true) y7) fun y8=>
 yIf y8
 (r (some (.bool false)) h7)
 (bc (C (.fn 4) [y2,(.str (bs [97,97,98])),(.int .i64 0)] h7) fun y9 h9=>
 ob (ext 0 y9) fun y10=>
 ob (ext 1 y9) fun y11=>
 bc (gd true (some y11) (some (.ret y10,h9)) h9) fun y12 h12=>
 bc (gd true (some y11) (ob (semBuild Try.prog 53 [0,1] [(.int .i64 0),(.int .i64 3)]) fun y13=>
 some (.ret y13,h12)) h12) fun y14 h14=>
 bc (gd true (some y11) (ob (semBuild Try.prog 53 [0,1] [(.int .i64 0),(.int .i64 1)]) fun y15=>
 some (.ret y15,h14)) h14) fun y16 h16=>
 bc (gd true (some y11) (ob (semBuild Try.prog 53 [0,1] [(.int .i64 1),(.int .i64 3)]) fun y17=>
 some (.ret y17,h16)) h16) fun y18 h18=>
 bc (gd true (some y11) (b2 (ybs Try.prog 27 3 [0,1,2] [y14,y16,y18] h18) fun y19 h19=>
 some (.ret y19,h19)) h18) fun y20 h20=>
 bc (gd true (some y11) (bc (C (.fn 19) [y12,y20] h20) fun y21 h21=>
 some (.ret y21,h21)) h20) fun y22 h22=>
 ob (ypk y11 y22 (.bool false)) fun y23=>
 bc (gd true (some y23) (some (.ret y2,h22)) h22) fun y24 h24=>
 bc (gd true (some y23) (bc (C (.fn 8) [y24] h24) fun y25 h25=>
 some (.ret y25,h25)) h24) fun y26 h26=>
 bc (gd true (some y23) (ob (bin Try.prog .eql 3 y26 (.int .i64 2)) fun y27=>
 some (.ret y27,h26)) h26) fun y28 h28=>
 ob (ypk y23 y28 (.bool false)) fun y29=>
 r (some y29) h28)
theorem q10_30_eq(C:YC)(lf:Nat)(r:K1)(KN:KF)(KE:KX):∀F h,evX fx10 C lf [] F h KN (fun F h=>r (F 0) h) KE=q10_30 C lf r h:=by
 intro F h;kernel_rfl
noncomputable def fs10(C:YC)(lf:Nat)(h:HW):Rs:=q10_30 C lf ff10 h
theorem fs10_eq(C:YC)(lf:Nat)(h:HW):yFn Try.prog fx10 C lf [] h=fs10 C lf h:=fnX (K:=(fun F h=>ff10 (F 0) h)) (by kernel_rfl) (((q10_30_eq C lf ff10 (fun F h=>ff10 (F 0) h) (fun _ _ _=>none)) _ h).trans (by kernel_rfl))
noncomputable def fy10:YX Try.prog:=Y0 fx10 fs10 fs10_eq (by kernel_rfl)
noncomputable def fx11:XF Try.prog:=⟨11,Try.f11,fun _=> .text,Try.func11,by kernel_rfl,by kernel_rfl,by kernel_rfl,by kernel_rfl⟩
noncomputable def ff11(x2:O)(h:HW):Rs:=
 ob x2 fun a0=>
 some (.ret a0,h)
noncomputable def q11_16(C:YC)(lf:Nat)(r:K1)(x0:O)(h:HW):Rs:=
 ob x0 fun a1=>
 ob (bin Try.prog .neq 22 a1 (.val (.pointer none))) fun y2=>
 bc (gd true (some y2) (ob x0 fun a3=>
 some (.ret a3,h)) h) fun y4 h4=>
 bc (gd true (some y2) (ob (semNil y4) fun y5=>
 some (.ret y5,h4)) h4) fun y6 h6=>
 bc (gd true (some y2) (ob (fa 0 y6) fun y7=>
 some (.ret y7,h6)) h6) fun y8 h8=>
 bc (gd true (some y2) (ob (ld1 y8 h8) fun y9=>
 some (.ret y9,h8)) h8) fun y10 h10=>
 bc (gd true (some y2) (ob (lenE Try.prog 23 y10) fun y11=>
 some (.ret y11,h10)) h10) fun y12 h12=>
 bc (gd true (some y2) (ob (bin Try.prog .gtr 3 y12 (.int .i64 0)) fun y13=>
 some (.ret y13,h12)) h12) fun y14 h14=>
 ob (ypk y2 y14 (.bool false)) fun y15=>
 r (some y15) h14
theorem q11_16_eq(C:YC)(lf:Nat)(r:K1)(KN:KF)(KE:KX):∀F h,evX fx11 C lf [] F h KN (fun F h=>r (F 2) h) KE=q11_16 C lf r (F 0) h:=by
 intro F h;kernel_rfl
noncomputable def fs11(C:YC)(lf:Nat)(a0:SV)(h:HW):Rs:=q11_16 C lf ff11 (some a0) h
theorem fs11_eq(C:YC)(lf:Nat)(a0:SV)(h:HW):yFn Try.prog fx11 C lf [a0] h=fs11 C lf a0 h:=fnX (K:=(fun F h=>ff11 (F 2) h)) (by kernel_rfl) (((q11_16_eq C lf ff11 (fun F h=>ff11 (F 2) h) (fun _ _ _=>none)) _ h).trans (by kernel_rfl))
noncomputable def fy11:YX Try.prog:=Y1 fx11 fs11 fs11_eq (by kernel_rfl)
noncomputable def fx12:XF Try.prog:=⟨12,Try.f12,fun r=>bif Nat.beq r 11 then .ord [0,1,2,4,5,6,7,3,8,9,10,11] [(10,[8,3])] else .text,Try.func12,by kernel_rfl,by kernel_rfl,by kernel_rfl,by kernel_rfl⟩
noncomputable def ff12(x6:O)(h:HW):Rs:=
 ob x6 fun a0=>
 some (.ret a0,h)
noncomputable def q12_1(C:YC)(lf:Nat)(r:K1)(h:HW):Rs:=
 r (some (.val (.slice none 0 0))) h
theorem q12_1_eq(C:YC)(lf:Nat)(r:K1)(KN:KF)(KE:KX):∀F h,evX fx12 C lf [1,1] F h KN (fun F h=>r (F 6) h) KE=q12_1 C lf r h:=by
 intro F h;kernel_rfl
noncomputable def q12_5(C:YC)(lf:Nat)(n:K3)(x0 x1 x7:O)(h:HW):Rs:=
 ob x7 fun a3=>
 ob (bin Try.prog .add 3 a3 (.int .i64 1)) fun y4=>
 n x0 x1 (some y4) h
theorem q12_5_eq(C:YC)(lf:Nat)(n:K3)(KR:KF)(K0:KF)(KE:KX):∀F h,evX fx12 C lf [1,0,1,0,0,1,1] F h (fun F h=>n (F 0) (F 1) (F 7) h) KR (bk 0 K0 KE)=q12_5 C lf n (F 0) (F 1) (F 7) h:=by
 intro F h;kernel_rfl
noncomputable def q12_7(C:YC)(lf:Nat)(r:K1)(x10:O)(h:HW):Rs:=
 ob x10 fun a6=>
 r (some a6) h
theorem q12_7_eq(C:YC)(lf:Nat)(r:K1)(KN:KF)(K1:KF)(K0:KF)(KE:KX):∀F h,evX fx12 C lf [1,0,1,0,0,1,0,0,1,1,1,1,1] F h KN (fun F h=>r (F 6) h) (bk 1 K1 (bk 0 K0 KE))=q12_7 C lf r (F 10) h:=by
 intro F h;kernel_rfl
noncomputable def q12_11(C:YC)(lf:Nat)(n:K3)(x9 x10 x11:O)(h:HW):Rs:=
 ob x11 fun a9=>
 ob (bin Try.prog .add 3 a9 (.int .i64 2)) fun y10=>
 n x9 x10 (some y10) h
theorem q12_11_eq(C:YC)(lf:Nat)(n:K3)(KR:KF)(K2:KF)(K1:KF)(K0:KF)(KE:KX):∀F h,evX fx12 C lf [1,0,1,0,0,1,0,0,1,1,1,1,0,1,0,0,1,1] F h (fun F h=>n (F 9) (F 10) (F 11) h) KR (bk 2 K2 (bk 1 K1 (bk 0 K0 KE)))=q12_11 C lf n (F 9) (F 10) (F 11) h:=by
 intro F h;kernel_rfl
noncomputable def q12_17(C:YC)(lf:Nat)(n:K3)(x9 x10 x11 x12:O)(h:HW):Rs:=
 ob x10 fun a12=>
 ob x12 fun a13=>
 ob (ldN 2 a13 h) fun y14=>
 b2 (ybs Try.prog 27 1 [0] [y14] h) fun y15 h15=>
 b2 (ybl Try.prog .append #[27,27] [a12,y15] h15) fun y16 h16=>
 n x9 (some y16) x11 h16
theorem q12_17_eq(C:YC)(lf:Nat)(n:K3)(KR:KF)(K3:KF)(K2:KF)(K1:KF)(K0:KF)(KE:KX):∀F h,evX fx12 C lf [1,0,1,0,0,1,0,0,1,1,1,1,0,1,0,0,1,0,0,1,1] F h (fun F h=>n (F 9) (F 10) (F 11) h) KR (bk 3 K3 (bk 2 K2 (bk 1 K1 (bk 0 K0 KE))))=q12_17 C lf n (F 9) (F 10) (F 11) (F 12) h:=by
 intro F h;kernel_rfl
noncomputable def q12_33(C:YC)(lf:Nat)(n:K4)(x9 x10 x11 x12:O)(h:HW):Rs:=
 ob x12 fun a18=>
 ob (fa 0 a18) fun y19=>
 ob (ld1 y19 h) fun y20=>
 ob (bin Try.prog .lss 3 y20 (.int .i64 0)) fun y21=>
 bc (gd false (some y21) (ob x12 fun a22=>
 ob (fa 1 a22) fun y23=>
 some (.ret y23,h)) h) fun y24 h24=>
 bc (gd false (some y21) (ob (ld1 y24 h24) fun y25=>
 some (.ret y25,h24)) h24) fun y26 h26=>
 bc (gd false (some y21) (ob (bin Try.prog .lss 3 y26 (.int .i64 0)) fun y27=>
 some (.ret y27,h26)) h26) fun y28 h28=>
 ob (ypk y21 (.bool true) y28) fun y29=>
 yIf y29
 (ob (semBuild Try.prog 53 [0,1] [(.int .i64 (-1)),(.int .i64 (-1))]) fun y30=>
 ob x12 fun a31=>
 ob (st 2 a31 y30 h28) fun h32=>
 n x9 x10 x11 x12 h32)
 (n x9 x10 x11 x12 h28)
theorem q12_33_eq(C:YC)(lf:Nat)(n:K4)(KR:KF)(K3:KF)(K2:KF)(K1:KF)(K0:KF)(KE:KX):∀F h,evX fx12 C lf [1,0,1,0,0,1,0,0,1,1,1,1,0,1,0,0,1,0,0,1,0] F h (fun F h=>n (F 9) (F 10) (F 11) (F 12) h) KR (bk 3 K3 (bk 2 K2 (bk 1 K1 (bk 0 K0 KE))))=q12_33 C lf n (F 9) (F 10) (F 11) (F 12) h:=by
 intro F h;kernel_rfl
noncomputable def q12_34(C:YC)(lf:Nat)(n:K3)(x9 x10 x11 x12:O)(h:HW):Rs:=
 q12_33 C lf (fun x9 x10 x11 x12 h=>q12_17 C lf n x9 x10 x11 x12 h) x9 x10 x11 x12 h
theorem q12_34_eq(C:YC)(lf:Nat)(n:K3)(KR:KF)(K3:KF)(K2:KF)(K1:KF)(K0:KF)(KE:KX):∀F h,evX fx12 C lf [1,0,1,0,0,1,0,0,1,1,1,1,0,1,0,0,1,0,0,1] F h (fun F h=>n (F 9) (F 10) (F 11) h) KR (bk 3 K3 (bk 2 K2 (bk 1 K1 (bk 0 K0 KE))))=q12_34 C lf n (F 9) (F 10) (F 11) (F 12) h:=cSeq (a:=subX fx12 [1,0,1,0,0,1,0,0,1,1,1,1,0,1,0,0,1,0,0,1,0]) (b:=subX fx12 [1,0,1,0,0,1,0,0,1,1,1,1,0,1,0,0,1,0,0,1,1]) (by kernel_rfl) (B:=(fun F h=>q12_17 C lf n (F 9) (F 10) (F 11) (F 12) h)) (q12_17_eq C lf n KR K3 K2 K1 K0 KE) (q12_33_eq C lf (fun x9 x10 x11 x12 h=>q12_17 C lf n x9 x10 x11 x12 h) KR K3 K2 K1 K0 KE)
noncomputable def q12_47(C:YC)(lf:Nat)(n:K4)(x9 x10 x11:O)(h:HW):Rs:=
 ob x9 fun a35=>
 ob x11 fun a36=>
 ob (ixS 1 a35 a36) fun y37=>
 ob x9 fun a38=>
 ob x11 fun a39=>
 ob (bin Try.prog .add 3 a39 (.int .i64 1)) fun y40=>
 ob (ixS 1 a38 y40) fun y41=>
 ob (ld1 y37 h) fun y42=>
 ob (ld1 y41 h) fun y43=>
 ob (semBuild Try.prog 53 [0,1] [y42,y43]) fun y44=>
 b2 (yAl Try.prog 53 h) fun y45 h45=>
 ck (chkH [(8,adrO (some y41)),(3,adrO (some y37))] h h45 [8,3]) <|
 ob (st 2 y45 y44 h45) fun h46=>
 n x9 x10 x11 (some y45) h46
theorem q12_47_eq(C:YC)(lf:Nat)(n:K4)(KR:KF)(K3:KF)(K2:KF)(K1:KF)(K0:KF)(KE:KX):∀F h,evX fx12 C lf [1,0,1,0,0,1,0,0,1,1,1,1,0,1,0,0,1,0,0,0] F h (fun F h=>n (F 9) (F 10) (F 11) (F 12) h) KR (bk 3 K3 (bk 2 K2 (bk 1 K1 (bk 0 K0 KE))))=q12_47 C lf n (F 9) (F 10) (F 11) h:=by
 intro F h;kernel_rfl
noncomputable def q12_48(C:YC)(lf:Nat)(n:K3)(x9 x10 x11:O)(h:HW):Rs:=
 q12_47 C lf (fun x9 x10 x11 x12 h=>q12_34 C lf n x9 x10 x11 x12 h) x9 x10 x11 h
theorem q12_48_eq(C:YC)(lf:Nat)(n:K3)(KR:KF)(K3:KF)(K2:KF)(K1:KF)(K0:KF)(KE:KX):∀F h,evX fx12 C lf [1,0,1,0,0,1,0,0,1,1,1,1,0,1,0,0,1,0,0] F h (fun F h=>n (F 9) (F 10) (F 11) h) KR (bk 3 K3 (bk 2 K2 (bk 1 K1 (bk 0 K0 KE))))=q12_48 C lf n (F 9) (F 10) (F 11) h:=cSeq (a:=subX fx12 [1,0,1,0,0,1,0,0,1,1,1,1,0,1,0,0,1,0,0,0]) (b:=subX fx12 [1,0,1,0,0,1,0,0,1,1,1,1,0,1,0,0,1,0,0,1]) (by kernel_rfl) (B:=(fun F h=>q12_34 C lf n (F 9) (F 10) (F 11) (F 12) h)) (q12_34_eq C lf n KR K3 K2 K1 K0 KE) (q12_47_eq C lf (fun x9 x10 x11 x12 h=>q12_34 C lf n x9 x10 x11 x12 h) KR K3 K2 K1 K0 KE)
noncomputable def q12_49(C:YC)(lf:Nat)(n:K3)(x9 x10 x11:O)(h:HW):Rs:=
 q12_48 C lf (fun x9 x10 x11 h=>q12_11 C lf n x9 x10 x11 h) x9 x10 x11 h
theorem q12_49_eq(C:YC)(lf:Nat)(n:K3)(KR:KF)(K2:KF)(K1:KF)(K0:KF)(KE:KX):∀F h,evX fx12 C lf [1,0,1,0,0,1,0,0,1,1,1,1,0,1,0,0,1] F h (fun F h=>n (F 9) (F 10) (F 11) h) KR (bk 2 K2 (bk 1 K1 (bk 0 K0 KE)))=q12_49 C lf n (F 9) (F 10) (F 11) h:=cSeq (a:=subX fx12 [1,0,1,0,0,1,0,0,1,1,1,1,0,1,0,0,1,0]) (b:=subX fx12 [1,0,1,0,0,1,0,0,1,1,1,1,0,1,0,0,1,1]) (by kernel_rfl) (B:=(fun F h=>q12_11 C lf n (F 9) (F 10) (F 11) h)) (q12_11_eq C lf n KR K2 K1 K0 KE) (cBlock (id:=3) (a:=subX fx12 [1,0,1,0,0,1,0,0,1,1,1,1,0,1,0,0,1,0,0]) (by kernel_rfl) (q12_48_eq C lf (fun x9 x10 x11 h=>q12_11 C lf n x9 x10 x11 h) KR (fun F h=>q12_11 C lf n (F 9) (F 10) (F 11) h) K2 K1 K0 KE))
noncomputable def q12_55(C:YC)(lf:Nat)(n:K3)(e2:K1)(x9 x10 x11:O)(h:HW):Rs:=
 ob x11 fun a50=>
 ob (bin Try.prog .add 3 a50 (.int .i64 1)) fun y51=>
 ob x9 fun a52=>
 ob (lenE Try.prog 62 a52) fun y53=>
 ob (bin Try.prog .lss 3 y51 y53) fun y54=>
 yIf y54
 (n x9 x10 x11 h)
 (e2 x10 h)
theorem q12_55_eq(C:YC)(lf:Nat)(n:K3)(e2:K1)(KR:KF)(K1:KF)(K0:KF)(KE:KX):∀F h,evX fx12 C lf [1,0,1,0,0,1,0,0,1,1,1,1,0,1,0,0,0] F h (fun F h=>n (F 9) (F 10) (F 11) h) KR (bk 2 (fun F h=>e2 (F 10) h) (bk 1 K1 (bk 0 K0 KE)))=q12_55 C lf n e2 (F 9) (F 10) (F 11) h:=by
 intro F h;kernel_rfl
noncomputable def q12_56(C:YC)(lf:Nat)(n:K3)(e2:K1)(x9 x10 x11:O)(h:HW):Rs:=
 q12_55 C lf (fun x9 x10 x11 h=>q12_49 C lf n x9 x10 x11 h) e2 x9 x10 x11 h
theorem q12_56_eq(C:YC)(lf:Nat)(n:K3)(e2:K1)(KR:KF)(K1:KF)(K0:KF)(KE:KX):∀F h,evX fx12 C lf [1,0,1,0,0,1,0,0,1,1,1,1,0,1,0,0] F h (fun F h=>n (F 9) (F 10) (F 11) h) KR (bk 2 (fun F h=>e2 (F 10) h) (bk 1 K1 (bk 0 K0 KE)))=q12_56 C lf n e2 (F 9) (F 10) (F 11) h:=cSeq (a:=subX fx12 [1,0,1,0,0,1,0,0,1,1,1,1,0,1,0,0,0]) (b:=subX fx12 [1,0,1,0,0,1,0,0,1,1,1,1,0,1,0,0,1]) (by kernel_rfl) (B:=(fun F h=>q12_49 C lf n (F 9) (F 10) (F 11) h)) (q12_49_eq C lf n KR (fun F h=>e2 (F 10) h) K1 K0 KE) (q12_55_eq C lf (fun x9 x10 x11 h=>q12_49 C lf n x9 x10 x11 h) e2 KR K1 K0 KE)
noncomputable def l12_8(C:YC)(lf:Nat)(e2:K1)(k:O×O×O→HW→Rs)(s:O×O×O)(h:HW):Rs:=
 q12_56 C lf (fun x9 x10 x11 h=>k (x9,x10,x11) h) e2 s.1 s.2.1 s.2.2 h
noncomputable def q12_57(C:YC)(lf:Nat)(n:K3)(x9 x10:O)(h:HW):Rs:=
 n x9 x10 (some (.int .i64 0)) h
theorem q12_57_eq(C:YC)(lf:Nat)(n:K3)(KR:KF)(K1:KF)(K0:KF)(KE:KX):∀F h,evX fx12 C lf [1,0,1,0,0,1,0,0,1,1,1,1,0,0] F h (fun F h=>n (F 9) (F 10) (F 11) h) KR (bk 1 K1 (bk 0 K0 KE))=q12_57 C lf n (F 9) (F 10) h:=by
 intro F h;kernel_rfl
noncomputable def q12_58(C:YC)(lf:Nat)(n:K1)(x9 x10:O)(h:HW):Rs:=
 q12_57 C lf (fun x9 x10 x11 h=>lp (l12_8 C lf n) lf (x9,x10,x11) h) x9 x10 h
theorem q12_58_eq(C:YC)(lf:Nat)(n:K1)(KR:KF)(K1:KF)(K0:KF)(KE:KX):∀F h,evX fx12 C lf [1,0,1,0,0,1,0,0,1,1,1,1,0] F h (fun F h=>n (F 10) h) KR (bk 1 K1 (bk 0 K0 KE))=q12_58 C lf n (F 9) (F 10) h:=cSeq (a:=subX fx12 [1,0,1,0,0,1,0,0,1,1,1,1,0,0]) (b:=subX fx12 [1,0,1,0,0,1,0,0,1,1,1,1,0,1]) (by kernel_rfl) (B:=(fun F h=>lp (l12_8 C lf n) lf ((F 9),(F 10),(F 11)) h)) (cBlock (id:=2) (a:=subX fx12 [1,0,1,0,0,1,0,0,1,1,1,1,0,1,0]) (by kernel_rfl) (cLoop (a:=subX fx12 [1,0,1,0,0,1,0,0,1,1,1,1,0,1,0,0]) (g:=fun F=>(F 9,F 10,F 11)) (body:=l12_8 C lf n) (by kernel_rfl) (fun k=>(q12_56_eq C lf (fun x9 x10 x11 h=>k (x9,x10,x11) h) n KR K1 K0 KE)))) (q12_57_eq C lf (fun x9 x10 x11 h=>lp (l12_8 C lf n) lf (x9,x10,x11) h) KR K1 K0 KE)
noncomputable def q12_59(C:YC)(lf:Nat)(r:K1)(x9 x10:O)(h:HW):Rs:=
 q12_58 C lf (fun x10 h=>q12_7 C lf r x10 h) x9 x10 h
theorem q12_59_eq(C:YC)(lf:Nat)(r:K1)(KN:KF)(K1:KF)(K0:KF)(KE:KX):∀F h,evX fx12 C lf [1,0,1,0,0,1,0,0,1,1,1,1] F h KN (fun F h=>r (F 6) h) (bk 1 K1 (bk 0 K0 KE))=q12_59 C lf r (F 9) (F 10) h:=cSeq (a:=subX fx12 [1,0,1,0,0,1,0,0,1,1,1,1,0]) (b:=subX fx12 [1,0,1,0,0,1,0,0,1,1,1,1,1]) (by kernel_rfl) (B:=(fun F h=>q12_7 C lf r (F 10) h)) (q12_7_eq C lf r KN K1 K0 KE) (q12_58_eq C lf (fun x10 h=>q12_7 C lf r x10 h) (fun F h=>r (F 6) h) K1 K0 KE)
noncomputable def q12_60(C:YC)(lf:Nat)(n:K2)(x9:O)(h:HW):Rs:=
 n x9 (some (.val (.slice none 0 0))) h
theorem q12_60_eq(C:YC)(lf:Nat)(n:K2)(KR:KF)(K1:KF)(K0:KF)(KE:KX):∀F h,evX fx12 C lf [1,0,1,0,0,1,0,0,1,1,1,0] F h (fun F h=>n (F 9) (F 10) h) KR (bk 1 K1 (bk 0 K0 KE))=q12_60 C lf n (F 9) h:=by
 intro F h;kernel_rfl
noncomputable def q12_61(C:YC)(lf:Nat)(r:K1)(x9:O)(h:HW):Rs:=
 q12_60 C lf (fun x9 x10 h=>q12_59 C lf r x9 x10 h) x9 h
theorem q12_61_eq(C:YC)(lf:Nat)(r:K1)(KN:KF)(K1:KF)(K0:KF)(KE:KX):∀F h,evX fx12 C lf [1,0,1,0,0,1,0,0,1,1,1] F h KN (fun F h=>r (F 6) h) (bk 1 K1 (bk 0 K0 KE))=q12_61 C lf r (F 9) h:=cSeq (a:=subX fx12 [1,0,1,0,0,1,0,0,1,1,1,0]) (b:=subX fx12 [1,0,1,0,0,1,0,0,1,1,1,1]) (by kernel_rfl) (B:=(fun F h=>q12_59 C lf r (F 9) (F 10) h)) (q12_59_eq C lf r KN K1 K0 KE) (q12_60_eq C lf (fun x9 x10 h=>q12_59 C lf r x9 x10 h) (fun F h=>r (F 6) h) K1 K0 KE)
noncomputable def q12_67(C:YC)(lf:Nat)(n:K1)(x0 x1 x7 x8:O)(h:HW):Rs:=
 ob x0 fun a62=>
 ob x1 fun a63=>
 ob x7 fun a64=>
 ob x8 fun a65=>
 bc (C (.fn 20) [a62,a63,a64,a65] h) fun y66 h66=>
 n (some y66) h66
theorem q12_67_eq(C:YC)(lf:Nat)(n:K1)(KR:KF)(K1:KF)(K0:KF)(KE:KX):∀F h,evX fx12 C lf [1,0,1,0,0,1,0,0,1,1,0] F h (fun F h=>n (F 9) h) KR (bk 1 K1 (bk 0 K0 KE))=q12_67 C lf n (F 0) (F 1) (F 7) (F 8) h:=by
 intro F h;kernel_rfl
noncomputable def q12_68(C:YC)(lf:Nat)(r:K1)(x0 x1 x7 x8:O)(h:HW):Rs:=
 q12_67 C lf (fun x9 h=>q12_61 C lf r x9 h) x0 x1 x7 x8 h
theorem q12_68_eq(C:YC)(lf:Nat)(r:K1)(KN:KF)(K1:KF)(K0:KF)(KE:KX):∀F h,evX fx12 C lf [1,0,1,0,0,1,0,0,1,1] F h KN (fun F h=>r (F 6) h) (bk 1 K1 (bk 0 K0 KE))=q12_68 C lf r (F 0) (F 1) (F 7) (F 8) h:=cSeq (a:=subX fx12 [1,0,1,0,0,1,0,0,1,1,0]) (b:=subX fx12 [1,0,1,0,0,1,0,0,1,1,1]) (by kernel_rfl) (B:=(fun F h=>q12_61 C lf r (F 9) h)) (q12_61_eq C lf r KN K1 K0 KE) (q12_67_eq C lf (fun x9 h=>q12_61 C lf r x9 h) (fun F h=>r (F 6) h) K1 K0 KE)
noncomputable def q12_71(C:YC)(lf:Nat)(n:K4)(e1:K3)(x0 x1 x7 x8:O)(h:HW):Rs:=
 ob x8 fun a69=>
 ob (bin Try.prog .lss 3 a69 (.int .i64 0)) fun y70=>
 yIf y70
 (e1 x0 x1 x7 h)
 (n x0 x1 x7 x8 h)
theorem q12_71_eq(C:YC)(lf:Nat)(n:K4)(e1:K3)(KR:KF)(K0:KF)(KE:KX):∀F h,evX fx12 C lf [1,0,1,0,0,1,0,0,1,0] F h (fun F h=>n (F 0) (F 1) (F 7) (F 8) h) KR (bk 1 (fun F h=>e1 (F 0) (F 1) (F 7) h) (bk 0 K0 KE))=q12_71 C lf n e1 (F 0) (F 1) (F 7) (F 8) h:=by
 intro F h;kernel_rfl
noncomputable def q12_72(C:YC)(lf:Nat)(r:K1)(e1:K3)(x0 x1 x7 x8:O)(h:HW):Rs:=
 q12_71 C lf (fun x0 x1 x7 x8 h=>q12_68 C lf r x0 x1 x7 x8 h) e1 x0 x1 x7 x8 h
theorem q12_72_eq(C:YC)(lf:Nat)(r:K1)(e1:K3)(KN:KF)(K0:KF)(KE:KX):∀F h,evX fx12 C lf [1,0,1,0,0,1,0,0,1] F h KN (fun F h=>r (F 6) h) (bk 1 (fun F h=>e1 (F 0) (F 1) (F 7) h) (bk 0 K0 KE))=q12_72 C lf r e1 (F 0) (F 1) (F 7) (F 8) h:=cSeq (a:=subX fx12 [1,0,1,0,0,1,0,0,1,0]) (b:=subX fx12 [1,0,1,0,0,1,0,0,1,1]) (by kernel_rfl) (B:=(fun F h=>q12_68 C lf r (F 0) (F 1) (F 7) (F 8) h)) (q12_68_eq C lf r KN (fun F h=>e1 (F 0) (F 1) (F 7) h) K0 KE) (q12_71_eq C lf (fun x0 x1 x7 x8 h=>q12_68 C lf r x0 x1 x7 x8 h) e1 (fun F h=>r (F 6) h) K0 KE)
noncomputable def q12_77(C:YC)(lf:Nat)(n:K4)(x0 x1 x7:O)(h:HW):Rs:=
 ob x0 fun a73=>
 ob x1 fun a74=>
 ob x7 fun a75=>
 bc (C (.fn 16) [a73,a74,a75] h) fun y76 h76=>
 n x0 x1 x7 (some y76) h76
theorem q12_77_eq(C:YC)(lf:Nat)(n:K4)(KR:KF)(K1:KF)(K0:KF)(KE:KX):∀F h,evX fx12 C lf [1,0,1,0,0,1,0,0,0] F h (fun F h=>n (F 0) (F 1) (F 7) (F 8) h) KR (bk 1 K1 (bk 0 K0 KE))=q12_77 C lf n (F 0) (F 1) (F 7) h:=by
 intro F h;kernel_rfl
noncomputable def q12_78(C:YC)(lf:Nat)(r:K1)(e1:K3)(x0 x1 x7:O)(h:HW):Rs:=
 q12_77 C lf (fun x0 x1 x7 x8 h=>q12_72 C lf r e1 x0 x1 x7 x8 h) x0 x1 x7 h
theorem q12_78_eq(C:YC)(lf:Nat)(r:K1)(e1:K3)(KN:KF)(K0:KF)(KE:KX):∀F h,evX fx12 C lf [1,0,1,0,0,1,0,0] F h KN (fun F h=>r (F 6) h) (bk 1 (fun F h=>e1 (F 0) (F 1) (F 7) h) (bk 0 K0 KE))=q12_78 C lf r e1 (F 0) (F 1) (F 7) h:=cSeq (a:=subX fx12 [1,0,1,0,0,1,0,0,0]) (b:=subX fx12 [1,0,1,0,0,1,0,0,1]) (by kernel_rfl) (B:=(fun F h=>q12_72 C lf r e1 (F 0) (F 1) (F 7) (F 8) h)) (q12_72_eq C lf r e1 KN K0 KE) (q12_77_eq C lf (fun x0 x1 x7 x8 h=>q12_72 C lf r e1 x0 x1 x7 x8 h) (fun F h=>r (F 6) h) (fun F h=>e1 (F 0) (F 1) (F 7) h) K0 KE)
noncomputable def q12_79(C:YC)(lf:Nat)(n:K3)(r:K1)(x0 x1 x7:O)(h:HW):Rs:=
 q12_78 C lf r (fun x0 x1 x7 h=>q12_5 C lf n x0 x1 x7 h) x0 x1 x7 h
theorem q12_79_eq(C:YC)(lf:Nat)(n:K3)(r:K1)(K0:KF)(KE:KX):∀F h,evX fx12 C lf [1,0,1,0,0,1] F h (fun F h=>n (F 0) (F 1) (F 7) h) (fun F h=>r (F 6) h) (bk 0 K0 KE)=q12_79 C lf n r (F 0) (F 1) (F 7) h:=cSeq (a:=subX fx12 [1,0,1,0,0,1,0]) (b:=subX fx12 [1,0,1,0,0,1,1]) (by kernel_rfl) (B:=(fun F h=>q12_5 C lf n (F 0) (F 1) (F 7) h)) (q12_5_eq C lf n (fun F h=>r (F 6) h) K0 KE) (cBlock (id:=1) (a:=subX fx12 [1,0,1,0,0,1,0,0]) (by kernel_rfl) (q12_78_eq C lf r (fun x0 x1 x7 h=>q12_5 C lf n x0 x1 x7 h) (fun F h=>q12_5 C lf n (F 0) (F 1) (F 7) h) K0 KE))
noncomputable def q12_84(C:YC)(lf:Nat)(n:K3)(e0:K0)(x0 x1 x7:O)(h:HW):Rs:=
 ob x7 fun a80=>
 ob x1 fun a81=>
 ob (lenE Try.prog 9 a81) fun y82=>
 ob (bin Try.prog .leq 3 a80 y82) fun y83=>
 yIf y83
 (n x0 x1 x7 h)
 (e0 h)
theorem q12_84_eq(C:YC)(lf:Nat)(n:K3)(e0:K0)(KR:KF)(KE:KX):∀F h,evX fx12 C lf [1,0,1,0,0,0] F h (fun F h=>n (F 0) (F 1) (F 7) h) KR (bk 0 (fun F h=>e0 h) KE)=q12_84 C lf n e0 (F 0) (F 1) (F 7) h:=by
 intro F h;kernel_rfl
noncomputable def q12_85(C:YC)(lf:Nat)(n:K3)(r:K1)(e0:K0)(x0 x1 x7:O)(h:HW):Rs:=
 q12_84 C lf (fun x0 x1 x7 h=>q12_79 C lf n r x0 x1 x7 h) e0 x0 x1 x7 h
theorem q12_85_eq(C:YC)(lf:Nat)(n:K3)(r:K1)(e0:K0)(KE:KX):∀F h,evX fx12 C lf [1,0,1,0,0] F h (fun F h=>n (F 0) (F 1) (F 7) h) (fun F h=>r (F 6) h) (bk 0 (fun F h=>e0 h) KE)=q12_85 C lf n r e0 (F 0) (F 1) (F 7) h:=cSeq (a:=subX fx12 [1,0,1,0,0,0]) (b:=subX fx12 [1,0,1,0,0,1]) (by kernel_rfl) (B:=(fun F h=>q12_79 C lf n r (F 0) (F 1) (F 7) h)) (q12_79_eq C lf n r (fun F h=>e0 h) KE) (q12_84_eq C lf (fun x0 x1 x7 h=>q12_79 C lf n r x0 x1 x7 h) e0 (fun F h=>r (F 6) h) KE)
noncomputable def l12_2(C:YC)(lf:Nat)(r:K1)(e0:K0)(k:O×O×O→HW→Rs)(s:O×O×O)(h:HW):Rs:=
 q12_85 C lf (fun x0 x1 x7 h=>k (x0,x1,x7) h) r e0 s.1 s.2.1 s.2.2 h
noncomputable def q12_87(C:YC)(lf:Nat)(n:K3)(x0 x1 x2:O)(h:HW):Rs:=
 ob x2 fun a86=>
 n x0 x1 (some a86) h
theorem q12_87_eq(C:YC)(lf:Nat)(n:K3)(KR:KF)(KE:KX):∀F h,evX fx12 C lf [1,0,0] F h (fun F h=>n (F 0) (F 1) (F 7) h) KR KE=q12_87 C lf n (F 0) (F 1) (F 2) h:=by
 intro F h;kernel_rfl
noncomputable def q12_88(C:YC)(lf:Nat)(n:K0)(r:K1)(x0 x1 x2:O)(h:HW):Rs:=
 q12_87 C lf (fun x0 x1 x7 h=>lp (l12_2 C lf r n) lf (x0,x1,x7) h) x0 x1 x2 h
theorem q12_88_eq(C:YC)(lf:Nat)(n:K0)(r:K1)(KE:KX):∀F h,evX fx12 C lf [1,0] F h (fun F h=>n h) (fun F h=>r (F 6) h) KE=q12_88 C lf n r (F 0) (F 1) (F 2) h:=cSeq (a:=subX fx12 [1,0,0]) (b:=subX fx12 [1,0,1]) (by kernel_rfl) (B:=(fun F h=>lp (l12_2 C lf r n) lf ((F 0),(F 1),(F 7)) h)) (cBlock (id:=0) (a:=subX fx12 [1,0,1,0]) (by kernel_rfl) (cLoop (a:=subX fx12 [1,0,1,0,0]) (g:=fun F=>(F 0,F 1,F 7)) (body:=l12_2 C lf r n) (by kernel_rfl) (fun k=>(q12_85_eq C lf (fun x0 x1 x7 h=>k (x0,x1,x7) h) r n KE)))) (q12_87_eq C lf (fun x0 x1 x7 h=>lp (l12_2 C lf r n) lf (x0,x1,x7) h) (fun F h=>r (F 6) h) KE)
noncomputable def q12_89(C:YC)(lf:Nat)(r:K1)(x0 x1 x2:O)(h:HW):Rs:=
 q12_88 C lf (fun h=>q12_1 C lf r h) r x0 x1 x2 h
theorem q12_89_eq(C:YC)(lf:Nat)(r:K1)(KN:KF)(KE:KX):∀F h,evX fx12 C lf [1] F h KN (fun F h=>r (F 6) h) KE=q12_89 C lf r (F 0) (F 1) (F 2) h:=cSeq (a:=subX fx12 [1,0]) (b:=subX fx12 [1,1]) (by kernel_rfl) (B:=(fun F h=>q12_1 C lf r h)) (q12_1_eq C lf r KN KE) (q12_88_eq C lf (fun h=>q12_1 C lf r h) r KE)
noncomputable def q12_90(C:YC)(lf:Nat)(n:K3)(x0 x1 x2:O)(h:HW):Rs:=
 n x0 x1 x2 h
theorem q12_90_eq(C:YC)(lf:Nat)(n:K3)(KR:KF)(KE:KX):∀F h,evX fx12 C lf [0] F h (fun F h=>n (F 0) (F 1) (F 2) h) KR KE=q12_90 C lf n (F 0) (F 1) (F 2) h:=by
 intro F h;kernel_rfl
noncomputable def q12_91(C:YC)(lf:Nat)(r:K1)(x0 x1 x2:O)(h:HW):Rs:=
 q12_90 C lf (fun x0 x1 x2 h=>q12_89 C lf r x0 x1 x2 h) x0 x1 x2 h
theorem q12_91_eq(C:YC)(lf:Nat)(r:K1)(KN:KF)(KE:KX):∀F h,evX fx12 C lf [] F h KN (fun F h=>r (F 6) h) KE=q12_91 C lf r (F 0) (F 1) (F 2) h:=cSeq (a:=subX fx12 [0]) (b:=subX fx12 [1]) (by kernel_rfl) (B:=(fun F h=>q12_89 C lf r (F 0) (F 1) (F 2) h)) (q12_89_eq C lf r KN KE) (q12_90_eq C lf (fun x0 x1 x2 h=>q12_89 C lf r x0 x1 x2 h) (fun F h=>r (F 6) h) KE)
noncomputable def fs12(C:YC)(lf:Nat)(a0 a1 a2:SV)(h:HW):Rs:=q12_91 C lf ff12 (some a0) (some a1) (some a2) h
theorem fs12_eq(C:YC)(lf:Nat)(a0 a1 a2:SV)(h:HW):yFn Try.prog fx12 C lf [a0,a1,a2] h=fs12 C lf a0 a1 a2 h:=fnX (K:=(fun F h=>ff12 (F 6) h)) (by kernel_rfl) (((q12_91_eq C lf ff12 (fun F h=>ff12 (F 6) h) (fun _ _ _=>none)) _ h).trans (by kernel_rfl))
noncomputable def fy12:YX Try.prog:=Y3 fx12 fs12 fs12_eq (by kernel_rfl)
noncomputable def fx16:XF Try.prog:=⟨16,Try.f16,fun r=>bif Nat.beq r 13 then .ord [0,1,2,4,3,5,6,7,8,9] [(8,[7,5,3])] else .text,Try.func16,by kernel_rfl,by kernel_rfl,by kernel_rfl,by kernel_rfl⟩
noncomputable def ff16(x6:O)(h:HW):Rs:=
 ob x6 fun a0=>
 some (.ret a0,h)
noncomputable def q16_2(C:YC)(lf:Nat)(r:K1)(x7:O)(h:HW):Rs:=
 ob x7 fun a1=>
 r (some a1) h
theorem q16_2_eq(C:YC)(lf:Nat)(r:K1)(KN:KF)(KE:KX):∀F h,evX fx16 C lf [1,1,1,1] F h KN (fun F h=>r (F 6) h) KE=q16_2 C lf r (F 7) h:=by
 intro F h;kernel_rfl
noncomputable def q16_6(C:YC)(lf:Nat)(n:K5)(x0 x1 x7 x8 x9:O)(h:HW):Rs:=
 ob x9 fun a4=>
 ob (bin Try.prog .add 3 a4 (.int .i64 1)) fun y5=>
 n x0 x1 x7 x8 (some y5) h
theorem q16_6_eq(C:YC)(lf:Nat)(n:K5)(KR:KF)(K0:KF)(KE:KX):∀F h,evX fx16 C lf [1,1,1,0,1,0,0,1,1] F h (fun F h=>n (F 0) (F 1) (F 7) (F 8) (F 9) h) KR (bk 0 K0 KE)=q16_6 C lf n (F 0) (F 1) (F 7) (F 8) (F 9) h:=by
 intro F h;kernel_rfl
noncomputable def q16_8(C:YC)(lf:Nat)(n:K5)(x0 x1 x7 x9 x11:O)(h:HW):Rs:=
 ob x11 fun a7=>
 n x0 x1 x7 (some a7) x9 h
theorem q16_8_eq(C:YC)(lf:Nat)(n:K5)(KR:KF)(K1:KF)(K0:KF)(KE:KX):∀F h,evX fx16 C lf [1,1,1,0,1,0,0,1,0,0,1,1,1] F h (fun F h=>n (F 0) (F 1) (F 7) (F 8) (F 9) h) KR (bk 1 K1 (bk 0 K0 KE))=q16_8 C lf n (F 0) (F 1) (F 7) (F 9) (F 11) h:=by
 intro F h;kernel_rfl
noncomputable def q16_95(C:YC)(lf:Nat)(n:K7)(e2:K5)(x0 x1 x7 x8 x9 x10 x11:O)(h:HW):Rs:=
 ob x8 fun a10=>
 ob (lenE Try.prog 67 a10) fun y11=>
 ob (bin Try.prog .gtr 3 y11 (.int .i64 0)) fun y12=>
 yIf y12
 (ob x8 fun a13=>
 ob x8 fun a14=>
 ob (lenE Try.prog 67 a14) fun y15=>
 ob (bin Try.prog .sub 3 y15 (.int .i64 1)) fun y16=>
 ob (ixS 2 a13 y16) fun y17=>
 ob (ldN 2 y17 h) fun y18=>
 b2 (yAl Try.prog 66 h) fun y19 h19=>
 ob (st 2 y19 y18 h19) fun h20=>
 ob x8 fun a21=>
 ob x8 fun a22=>
 ob (lenE Try.prog 67 a22) fun y23=>
 ob (bin Try.prog .sub 3 y23 (.int .i64 1)) fun y24=>
 ob (semSlice Try.prog 67 a21 none (some y24)) fun y25=>
 ob x10 fun a26=>
 ob (ldN 2 y19 h20) fun y27=>
 ob (ylk Try.prog 68 false a26 y27 h20) fun y28=>
 ob (bin Try.prog .add 3 y28 (.int .i64 1)) fun y29=>
 b2 (yet Try.prog 68 a26 y27 h20) fun y30 h30=>
 ob (ext 1 y30) fun y31=>
 ob (yes a26 y31 y29 h30) fun h32=>
 ob x10 fun a33=>
 ob (ldN 2 y19 h32) fun y34=>
 ob (ylk Try.prog 68 false a33 y34 h32) fun y35=>
 ob (bin Try.prog .gtr 3 y35 (.int .i64 1)) fun y36=>
 yIf y36
 (n x0 x1 x7 (some y25) x9 x10 x11 h32)
 (ob x0 fun a37=>
 ob (semNil a37) fun y38=>
 ob (fa 0 y38) fun y39=>
 ob (fa 0 y19) fun y40=>
 ob (ld1 y39 h32) fun y41=>
 ob (ld1 y40 h32) fun y42=>
 ob (ixS 4 y41 y42) fun y43=>
 ob (ldN 4 y43 h32) fun y44=>
 b2 (yAl Try.prog 71 h32) fun y45 h45=>
 ck (chkH [(7,adrO (some y43)),(5,adrO (some y40)),(3,adrO (some y39))] h32 h45 [7,5,3]) <|
 ob (st 4 y45 y44 h45) fun h46=>
 ob (fa 0 y45) fun y47=>
 ob (ld1 y47 h46) fun y48=>
 ob (bin Try.prog .eql 3 y48 (.int .i64 0)) fun y49=>
 yIf y49
 (ob x9 fun a50=>
 ob x1 fun a51=>
 ob (lenE Try.prog 9 a51) fun y52=>
 ob (bin Try.prog .lss 3 a50 y52) fun y53=>
 bcn (gd true (some y53) (ob (fa 1 y45) fun y54=>
 some (.ret y54,h46)) h46) fun y55 h55=>
 bcn (gd true (some y53) (ob (ld1 y55 h55) fun y56=>
 some (.ret y56,h55)) h55) fun y57 h57=>
 bcn (gd true (some y53) (ob x1 fun a58=>
 some (.ret a58,h57)) h57) fun y59 h59=>
 bcn (gd true (some y53) (ob x9 fun a60=>
 some (.ret a60,h59)) h59) fun y61 h61=>
 bcn (gd true (some y53) (ob (semIndex Try.prog 9 y59 y61) fun y62=>
 some (.ret y62,h61)) h61) fun y63 h63=>
 bcn (gd true (some y53) (ob (semNil y57) fun y64=>
 some (.ret y64,h63)) h63) fun y65 h65=>
 bcn (gd true (some y53) (ob (ixA 256 1 y65 y63) fun y66=>
 some (.ret y66,h65)) h65) fun y67 h67=>
 bcn (gd true (some y53) (ob (ld1 y67 h67) fun y68=>
 some (.ret y68,h67)) h67) fun y69 h69=>
 ob (ypk y53 y69 (.bool false)) fun y70=>
 yIf y70
 (ob x11 fun a71=>
 ob (fa 0 y19) fun y72=>
 ob (ld1 y72 h69) fun y73=>
 ob (bin Try.prog .add 3 y73 (.int .i64 1)) fun y74=>
 ob (fa 2 y45) fun y75=>
 ob (ld1 y75 h69) fun y76=>
 ob (semBuild Try.prog 66 [0,1] [y74,y76]) fun y77=>
 b2 (ybs Try.prog 67 1 [0] [y77] h69) fun y78 h78=>
 b2 (ybl Try.prog .append #[67,67] [a71,y78] h78) fun y79 h79=>
 n x0 x1 x7 (some y25) x9 x10 (some y79) h79)
 (n x0 x1 x7 (some y25) x9 x10 x11 h69))
 (ob (bin Try.prog .eql 3 y48 (.int .i64 9)) fun y80=>
 yIf y80
 (ob x9 fun a81=>
 n x0 x1 (some a81) (some y25) x9 x10 x11 h46)
 (ob x0 fun a82=>
 ob (ldN 4 y45 h46) fun y83=>
 ob (ldN 2 y19 h46) fun y84=>
 ob x9 fun a85=>
 ob x1 fun a86=>
 ob (lenE Try.prog 9 a86) fun y87=>
 bc (C (.fn 22) [a82,y83,y84,a85,y87] h46) fun y88 h88=>
 ob (ext 0 y88) fun y89=>
 ob (ext 1 y88) fun y90=>
 b2 (yAl Try.prog 72 h88) fun y91 h91=>
 ob (st 4 y91 y89 h91) fun h92=>
 ob (semSlice Try.prog 72 y91 none (some y90)) fun y93=>
 b2 (ybl Try.prog .append #[67,67] [y25,y93] h92) fun y94 h94=>
 n x0 x1 x7 (some y94) x9 x10 x11 h94))))
 (e2 x0 x1 x7 x9 x11 h)
theorem q16_95_eq(C:YC)(lf:Nat)(n:K7)(e2:K5)(KR:KF)(K1:KF)(K0:KF)(KE:KX):∀F h,evX fx16 C lf [1,1,1,0,1,0,0,1,0,0,1,1,0,0,0] F h (fun F h=>n (F 0) (F 1) (F 7) (F 8) (F 9) (F 10) (F 11) h) KR (bk 2 (fun F h=>e2 (F 0) (F 1) (F 7) (F 9) (F 11) h) (bk 1 K1 (bk 0 K0 KE)))=q16_95 C lf n e2 (F 0) (F 1) (F 7) (F 8) (F 9) (F 10) (F 11) h:=by
 intro F h;kernel_rfl
noncomputable def l16_9(C:YC)(lf:Nat)(e2:K5)(k:O×O×O×O×O×O×O→HW→Rs)(s:O×O×O×O×O×O×O)(h:HW):Rs:=
 q16_95 C lf (fun x0 x1 x7 x8 x9 x10 x11 h=>k (x0,x1,x7,x8,x9,x10,x11) h) e2 s.1 s.2.1 s.2.2.1 s.2.2.2.1 s.2.2.2.2.1 s.2.2.2.2.2.1 s.2.2.2.2.2.2 h
noncomputable def q16_96(C:YC)(lf:Nat)(n:K5)(x0 x1 x7 x8 x9 x10 x11:O)(h:HW):Rs:=
 lp (l16_9 C lf (fun x0 x1 x7 x9 x11 h=>q16_8 C lf n x0 x1 x7 x9 x11 h)) lf (x0,x1,x7,x8,x9,x10,x11) h
theorem q16_96_eq(C:YC)(lf:Nat)(n:K5)(KR:KF)(K1:KF)(K0:KF)(KE:KX):∀F h,evX fx16 C lf [1,1,1,0,1,0,0,1,0,0,1,1] F h (fun F h=>n (F 0) (F 1) (F 7) (F 8) (F 9) h) KR (bk 1 K1 (bk 0 K0 KE))=q16_96 C lf n (F 0) (F 1) (F 7) (F 8) (F 9) (F 10) (F 11) h:=cSeq (a:=subX fx16 [1,1,1,0,1,0,0,1,0,0,1,1,0]) (b:=subX fx16 [1,1,1,0,1,0,0,1,0,0,1,1,1]) (by kernel_rfl) (B:=(fun F h=>q16_8 C lf n (F 0) (F 1) (F 7) (F 9) (F 11) h)) (q16_8_eq C lf n KR K1 K0 KE) (cBlock (id:=2) (a:=subX fx16 [1,1,1,0,1,0,0,1,0,0,1,1,0,0]) (by kernel_rfl) (cLoop (a:=subX fx16 [1,1,1,0,1,0,0,1,0,0,1,1,0,0,0]) (g:=fun F=>(F 0,F 1,F 7,F 8,F 9,F 10,F 11)) (body:=l16_9 C lf (fun x0 x1 x7 x9 x11 h=>q16_8 C lf n x0 x1 x7 x9 x11 h)) (by kernel_rfl) (fun k=>(q16_95_eq C lf (fun x0 x1 x7 x8 x9 x10 x11 h=>k (x0,x1,x7,x8,x9,x10,x11) h) (fun x0 x1 x7 x9 x11 h=>q16_8 C lf n x0 x1 x7 x9 x11 h) KR K1 K0 KE))))
noncomputable def q16_97(C:YC)(lf:Nat)(n:K7)(x0 x1 x7 x8 x9 x10:O)(h:HW):Rs:=
 n x0 x1 x7 x8 x9 x10 (some (.val (.slice none 0 0))) h
theorem q16_97_eq(C:YC)(lf:Nat)(n:K7)(KR:KF)(K1:KF)(K0:KF)(KE:KX):∀F h,evX fx16 C lf [1,1,1,0,1,0,0,1,0,0,1,0] F h (fun F h=>n (F 0) (F 1) (F 7) (F 8) (F 9) (F 10) (F 11) h) KR (bk 1 K1 (bk 0 K0 KE))=q16_97 C lf n (F 0) (F 1) (F 7) (F 8) (F 9) (F 10) h:=by
 intro F h;kernel_rfl
noncomputable def q16_98(C:YC)(lf:Nat)(n:K5)(x0 x1 x7 x8 x9 x10:O)(h:HW):Rs:=
 q16_97 C lf (fun x0 x1 x7 x8 x9 x10 x11 h=>q16_96 C lf n x0 x1 x7 x8 x9 x10 x11 h) x0 x1 x7 x8 x9 x10 h
theorem q16_98_eq(C:YC)(lf:Nat)(n:K5)(KR:KF)(K1:KF)(K0:KF)(KE:KX):∀F h,evX fx16 C lf [1,1,1,0,1,0,0,1,0,0,1] F h (fun F h=>n (F 0) (F 1) (F 7) (F 8) (F 9) h) KR (bk 1 K1 (bk 0 K0 KE))=q16_98 C lf n (F 0) (F 1) (F 7) (F 8) (F 9) (F 10) h:=cSeq (a:=subX fx16 [1,1,1,0,1,0,0,1,0,0,1,0]) (b:=subX fx16 [1,1,1,0,1,0,0,1,0,0,1,1]) (by kernel_rfl) (B:=(fun F h=>q16_96 C lf n (F 0) (F 1) (F 7) (F 8) (F 9) (F 10) (F 11) h)) (q16_96_eq C lf n KR K1 K0 KE) (q16_97_eq C lf (fun x0 x1 x7 x8 x9 x10 x11 h=>q16_96 C lf n x0 x1 x7 x8 x9 x10 x11 h) KR K1 K0 KE)
noncomputable def q16_100(C:YC)(lf:Nat)(n:K6)(x0 x1 x7 x8 x9:O)(h:HW):Rs:=
 b2 (ymm h) fun y99 h99=>
 n x0 x1 x7 x8 x9 (some y99) h99
theorem q16_100_eq(C:YC)(lf:Nat)(n:K6)(KR:KF)(K1:KF)(K0:KF)(KE:KX):∀F h,evX fx16 C lf [1,1,1,0,1,0,0,1,0,0,0] F h (fun F h=>n (F 0) (F 1) (F 7) (F 8) (F 9) (F 10) h) KR (bk 1 K1 (bk 0 K0 KE))=q16_100 C lf n (F 0) (F 1) (F 7) (F 8) (F 9) h:=by
 intro F h;kernel_rfl
noncomputable def q16_101(C:YC)(lf:Nat)(n:K5)(x0 x1 x7 x8 x9:O)(h:HW):Rs:=
 q16_100 C lf (fun x0 x1 x7 x8 x9 x10 h=>q16_98 C lf n x0 x1 x7 x8 x9 x10 h) x0 x1 x7 x8 x9 h
theorem q16_101_eq(C:YC)(lf:Nat)(n:K5)(KR:KF)(K1:KF)(K0:KF)(KE:KX):∀F h,evX fx16 C lf [1,1,1,0,1,0,0,1,0,0] F h (fun F h=>n (F 0) (F 1) (F 7) (F 8) (F 9) h) KR (bk 1 K1 (bk 0 K0 KE))=q16_101 C lf n (F 0) (F 1) (F 7) (F 8) (F 9) h:=cSeq (a:=subX fx16 [1,1,1,0,1,0,0,1,0,0,0]) (b:=subX fx16 [1,1,1,0,1,0,0,1,0,0,1]) (by kernel_rfl) (B:=(fun F h=>q16_98 C lf n (F 0) (F 1) (F 7) (F 8) (F 9) (F 10) h)) (q16_98_eq C lf n KR K1 K0 KE) (q16_100_eq C lf (fun x0 x1 x7 x8 x9 x10 h=>q16_98 C lf n x0 x1 x7 x8 x9 x10 h) KR K1 K0 KE)
noncomputable def q16_102(C:YC)(lf:Nat)(n:K5)(x0 x1 x7 x8 x9:O)(h:HW):Rs:=
 q16_101 C lf (fun x0 x1 x7 x8 x9 h=>q16_6 C lf n x0 x1 x7 x8 x9 h) x0 x1 x7 x8 x9 h
theorem q16_102_eq(C:YC)(lf:Nat)(n:K5)(KR:KF)(K0:KF)(KE:KX):∀F h,evX fx16 C lf [1,1,1,0,1,0,0,1] F h (fun F h=>n (F 0) (F 1) (F 7) (F 8) (F 9) h) KR (bk 0 K0 KE)=q16_102 C lf n (F 0) (F 1) (F 7) (F 8) (F 9) h:=cSeq (a:=subX fx16 [1,1,1,0,1,0,0,1,0]) (b:=subX fx16 [1,1,1,0,1,0,0,1,1]) (by kernel_rfl) (B:=(fun F h=>q16_6 C lf n (F 0) (F 1) (F 7) (F 8) (F 9) h)) (q16_6_eq C lf n KR K0 KE) (cBlock (id:=1) (a:=subX fx16 [1,1,1,0,1,0,0,1,0,0]) (by kernel_rfl) (q16_101_eq C lf (fun x0 x1 x7 x8 x9 h=>q16_6 C lf n x0 x1 x7 x8 x9 h) KR (fun F h=>q16_6 C lf n (F 0) (F 1) (F 7) (F 8) (F 9) h) K0 KE))
noncomputable def q16_106(C:YC)(lf:Nat)(n:K5)(e0:K1)(x0 x1 x7 x8 x9:O)(h:HW):Rs:=
 ob x8 fun a103=>
 ob (lenE Try.prog 67 a103) fun y104=>
 ob (bin Try.prog .gtr 3 y104 (.int .i64 0)) fun y105=>
 yIf y105
 (n x0 x1 x7 x8 x9 h)
 (e0 x7 h)
theorem q16_106_eq(C:YC)(lf:Nat)(n:K5)(e0:K1)(KR:KF)(KE:KX):∀F h,evX fx16 C lf [1,1,1,0,1,0,0,0] F h (fun F h=>n (F 0) (F 1) (F 7) (F 8) (F 9) h) KR (bk 0 (fun F h=>e0 (F 7) h) KE)=q16_106 C lf n e0 (F 0) (F 1) (F 7) (F 8) (F 9) h:=by
 intro F h;kernel_rfl
noncomputable def q16_107(C:YC)(lf:Nat)(n:K5)(e0:K1)(x0 x1 x7 x8 x9:O)(h:HW):Rs:=
 q16_106 C lf (fun x0 x1 x7 x8 x9 h=>q16_102 C lf n x0 x1 x7 x8 x9 h) e0 x0 x1 x7 x8 x9 h
theorem q16_107_eq(C:YC)(lf:Nat)(n:K5)(e0:K1)(KR:KF)(KE:KX):∀F h,evX fx16 C lf [1,1,1,0,1,0,0] F h (fun F h=>n (F 0) (F 1) (F 7) (F 8) (F 9) h) KR (bk 0 (fun F h=>e0 (F 7) h) KE)=q16_107 C lf n e0 (F 0) (F 1) (F 7) (F 8) (F 9) h:=cSeq (a:=subX fx16 [1,1,1,0,1,0,0,0]) (b:=subX fx16 [1,1,1,0,1,0,0,1]) (by kernel_rfl) (B:=(fun F h=>q16_102 C lf n (F 0) (F 1) (F 7) (F 8) (F 9) h)) (q16_102_eq C lf n KR (fun F h=>e0 (F 7) h) KE) (q16_106_eq C lf (fun x0 x1 x7 x8 x9 h=>q16_102 C lf n x0 x1 x7 x8 x9 h) e0 KR KE)
noncomputable def l16_3(C:YC)(lf:Nat)(e0:K1)(k:O×O×O×O×O→HW→Rs)(s:O×O×O×O×O)(h:HW):Rs:=
 q16_107 C lf (fun x0 x1 x7 x8 x9 h=>k (x0,x1,x7,x8,x9) h) e0 s.1 s.2.1 s.2.2.1 s.2.2.2.1 s.2.2.2.2 h
noncomputable def q16_109(C:YC)(lf:Nat)(n:K5)(x0 x1 x2 x7 x8:O)(h:HW):Rs:=
 ob x2 fun a108=>
 n x0 x1 x7 x8 (some a108) h
theorem q16_109_eq(C:YC)(lf:Nat)(n:K5)(KR:KF)(KE:KX):∀F h,evX fx16 C lf [1,1,1,0,0] F h (fun F h=>n (F 0) (F 1) (F 7) (F 8) (F 9) h) KR KE=q16_109 C lf n (F 0) (F 1) (F 2) (F 7) (F 8) h:=by
 intro F h;kernel_rfl
noncomputable def q16_110(C:YC)(lf:Nat)(n:K1)(x0 x1 x2 x7 x8:O)(h:HW):Rs:=
 q16_109 C lf (fun x0 x1 x7 x8 x9 h=>lp (l16_3 C lf n) lf (x0,x1,x7,x8,x9) h) x0 x1 x2 x7 x8 h
theorem q16_110_eq(C:YC)(lf:Nat)(n:K1)(KR:KF)(KE:KX):∀F h,evX fx16 C lf [1,1,1,0] F h (fun F h=>n (F 7) h) KR KE=q16_110 C lf n (F 0) (F 1) (F 2) (F 7) (F 8) h:=cSeq (a:=subX fx16 [1,1,1,0,0]) (b:=subX fx16 [1,1,1,0,1]) (by kernel_rfl) (B:=(fun F h=>lp (l16_3 C lf n) lf ((F 0),(F 1),(F 7),(F 8),(F 9)) h)) (cBlock (id:=0) (a:=subX fx16 [1,1,1,0,1,0]) (by kernel_rfl) (cLoop (a:=subX fx16 [1,1,1,0,1,0,0]) (g:=fun F=>(F 0,F 1,F 7,F 8,F 9)) (body:=l16_3 C lf n) (by kernel_rfl) (fun k=>(q16_107_eq C lf (fun x0 x1 x7 x8 x9 h=>k (x0,x1,x7,x8,x9) h) n KR KE)))) (q16_109_eq C lf (fun x0 x1 x7 x8 x9 h=>lp (l16_3 C lf n) lf (x0,x1,x7,x8,x9) h) KR KE)
noncomputable def q16_111(C:YC)(lf:Nat)(r:K1)(x0 x1 x2 x7 x8:O)(h:HW):Rs:=
 q16_110 C lf (fun x7 h=>q16_2 C lf r x7 h) x0 x1 x2 x7 x8 h
theorem q16_111_eq(C:YC)(lf:Nat)(r:K1)(KN:KF)(KE:KX):∀F h,evX fx16 C lf [1,1,1] F h KN (fun F h=>r (F 6) h) KE=q16_111 C lf r (F 0) (F 1) (F 2) (F 7) (F 8) h:=cSeq (a:=subX fx16 [1,1,1,0]) (b:=subX fx16 [1,1,1,1]) (by kernel_rfl) (B:=(fun F h=>q16_2 C lf r (F 7) h)) (q16_2_eq C lf r KN KE) (q16_110_eq C lf (fun x7 h=>q16_2 C lf r x7 h) (fun F h=>r (F 6) h) KE)
noncomputable def q16_114(C:YC)(lf:Nat)(n:K5)(x0 x1 x2 x7:O)(h:HW):Rs:=
 ob (semBuild Try.prog 66 [0,1] [(.int .i64 0),(.int .i64 0)]) fun y112=>
 b2 (ybs Try.prog 67 1 [0] [y112] h) fun y113 h113=>
 n x0 x1 x2 x7 (some y113) h113
theorem q16_114_eq(C:YC)(lf:Nat)(n:K5)(KR:KF)(KE:KX):∀F h,evX fx16 C lf [1,1,0] F h (fun F h=>n (F 0) (F 1) (F 2) (F 7) (F 8) h) KR KE=q16_114 C lf n (F 0) (F 1) (F 2) (F 7) h:=by
 intro F h;kernel_rfl
noncomputable def q16_115(C:YC)(lf:Nat)(r:K1)(x0 x1 x2 x7:O)(h:HW):Rs:=
 q16_114 C lf (fun x0 x1 x2 x7 x8 h=>q16_111 C lf r x0 x1 x2 x7 x8 h) x0 x1 x2 x7 h
theorem q16_115_eq(C:YC)(lf:Nat)(r:K1)(KN:KF)(KE:KX):∀F h,evX fx16 C lf [1,1] F h KN (fun F h=>r (F 6) h) KE=q16_115 C lf r (F 0) (F 1) (F 2) (F 7) h:=cSeq (a:=subX fx16 [1,1,0]) (b:=subX fx16 [1,1,1]) (by kernel_rfl) (B:=(fun F h=>q16_111 C lf r (F 0) (F 1) (F 2) (F 7) (F 8) h)) (q16_111_eq C lf r KN KE) (q16_114_eq C lf (fun x0 x1 x2 x7 x8 h=>q16_111 C lf r x0 x1 x2 x7 x8 h) (fun F h=>r (F 6) h) KE)
noncomputable def q16_116(C:YC)(lf:Nat)(n:K4)(x0 x1 x2:O)(h:HW):Rs:=
 n x0 x1 x2 (some (.int .i64 (-1))) h
theorem q16_116_eq(C:YC)(lf:Nat)(n:K4)(KR:KF)(KE:KX):∀F h,evX fx16 C lf [1,0] F h (fun F h=>n (F 0) (F 1) (F 2) (F 7) h) KR KE=q16_116 C lf n (F 0) (F 1) (F 2) h:=by
 intro F h;kernel_rfl
noncomputable def q16_117(C:YC)(lf:Nat)(r:K1)(x0 x1 x2:O)(h:HW):Rs:=
 q16_116 C lf (fun x0 x1 x2 x7 h=>q16_115 C lf r x0 x1 x2 x7 h) x0 x1 x2 h
theorem q16_117_eq(C:YC)(lf:Nat)(r:K1)(KN:KF)(KE:KX):∀F h,evX fx16 C lf [1] F h KN (fun F h=>r (F 6) h) KE=q16_117 C lf r (F 0) (F 1) (F 2) h:=cSeq (a:=subX fx16 [1,0]) (b:=subX fx16 [1,1]) (by kernel_rfl) (B:=(fun F h=>q16_115 C lf r (F 0) (F 1) (F 2) (F 7) h)) (q16_115_eq C lf r KN KE) (q16_116_eq C lf (fun x0 x1 x2 x7 h=>q16_115 C lf r x0 x1 x2 x7 h) (fun F h=>r (F 6) h) KE)
noncomputable def q16_118(C:YC)(lf:Nat)(n:K3)(x0 x1 x2:O)(h:HW):Rs:=
 n x0 x1 x2 h
theorem q16_118_eq(C:YC)(lf:Nat)(n:K3)(KR:KF)(KE:KX):∀F h,evX fx16 C lf [0] F h (fun F h=>n (F 0) (F 1) (F 2) h) KR KE=q16_118 C lf n (F 0) (F 1) (F 2) h:=by
 intro F h;kernel_rfl
noncomputable def q16_119(C:YC)(lf:Nat)(r:K1)(x0 x1 x2:O)(h:HW):Rs:=
 q16_118 C lf (fun x0 x1 x2 h=>q16_117 C lf r x0 x1 x2 h) x0 x1 x2 h
theorem q16_119_eq(C:YC)(lf:Nat)(r:K1)(KN:KF)(KE:KX):∀F h,evX fx16 C lf [] F h KN (fun F h=>r (F 6) h) KE=q16_119 C lf r (F 0) (F 1) (F 2) h:=cSeq (a:=subX fx16 [0]) (b:=subX fx16 [1]) (by kernel_rfl) (B:=(fun F h=>q16_117 C lf r (F 0) (F 1) (F 2) h)) (q16_117_eq C lf r KN KE) (q16_118_eq C lf (fun x0 x1 x2 h=>q16_117 C lf r x0 x1 x2 h) (fun F h=>r (F 6) h) KE)
noncomputable def fs16(C:YC)(lf:Nat)(a0 a1 a2:SV)(h:HW):Rs:=q16_119 C lf ff16 (some a0) (some a1) (some a2) h
theorem fs16_eq(C:YC)(lf:Nat)(a0 a1 a2:SV)(h:HW):yFn Try.prog fx16 C lf [a0,a1,a2] h=fs16 C lf a0 a1 a2 h:=fnX (K:=(fun F h=>ff16 (F 6) h)) (by kernel_rfl) (((q16_119_eq C lf ff16 (fun F h=>ff16 (F 6) h) (fun _ _ _=>none)) _ h).trans (by kernel_rfl))
noncomputable def fy16:YX Try.prog:=Y3 fx16 fs16 fs16_eq (by kernel_rfl)
noncomputable def fx17:XF Try.prog:=⟨17,Try.f17,fun _=> .text,Try.func17,by kernel_rfl,by kernel_rfl,by kernel_rfl,by kernel_rfl⟩
noncomputable def ff17(h:HW):Rs:=
 some (.ret (.tup []),h)
noncomputable def q17_43(C:YC)(lf:Nat)(n:K5)(r:K0)(e0:K0)(x0 x1 x2 x4 x5:O)(h:HW):Rs:=
 ob x5 fun a1=>
 ob x2 fun a2=>
 ob (ld1 a2 h) fun y3=>
 ob (lenE Try.prog 9 y3) fun y4=>
 ob (bin Try.prog .leq 3 a1 y4) fun y5=>
 yIf y5
 (ob x1 fun a6=>
 ob (ld1 a6 h) fun y7=>
 ob x2 fun a8=>
 ob (ld1 a8 h) fun y9=>
 ob x5 fun a10=>
 bc (C (.fn 12) [y7,y9,a10] h) fun y11 h11=>
 ob (bin Try.prog .eql 27 y11 (.val (.slice none 0 0))) fun y12=>
 yIf y12
 (r h11)
 (ob (ixS 2 y11 (.int .i64 0)) fun y13=>
 ob (fa 0 y13) fun y14=>
 ob (ld1 y14 h11) fun y15=>
 ob (ixS 2 y11 (.int .i64 0)) fun y16=>
 ob (fa 1 y16) fun y17=>
 ob (ld1 y17 h11) fun y18=>
 ob (bin Try.prog .eql 3 y15 y18) fun y19=>
 bcn (gd true (some y19) (some (.ret y11,h11)) h11) fun y20 h20=>
 bcn (gd true (some y19) (ob (ixS 2 y20 (.int .i64 0)) fun y21=>
 some (.ret y21,h20)) h20) fun y22 h22=>
 bcn (gd true (some y19) (ob (fa 0 y22) fun y23=>
 some (.ret y23,h22)) h22) fun y24 h24=>
 bcn (gd true (some y19) (ob (ld1 y24 h24) fun y25=>
 some (.ret y25,h24)) h24) fun y26 h26=>
 bcn (gd true (some y19) (ob x4 fun a27=>
 some (.ret a27,h26)) h26) fun y28 h28=>
 bcn (gd true (some y19) (ob (bin Try.prog .eql 3 y26 y28) fun y29=>
 some (.ret y29,h28)) h28) fun y30 h30=>
 ob (ypk y19 y30 (.bool false)) fun y31=>
 yIf y31
 (ob x4 fun a32=>
 ob (bin Try.prog .add 3 a32 (.int .i64 1)) fun y33=>
 n x0 x1 x2 (some (.int .i64 (-1))) (some y33) h30)
 (ob (ixS 2 y11 (.int .i64 0)) fun y34=>
 ob (fa 1 y34) fun y35=>
 ob (ld1 y35 h30) fun y36=>
 ob (ixS 2 y11 (.int .i64 0)) fun y37=>
 ob (fa 1 y37) fun y38=>
 ob (ld1 y38 h30) fun y39=>
 ob x0 fun a40=>
 cv false C a40 [y11] h30 fun y41 h41=>
 ob (unE .not y41) fun y42=>
 yIf y42
 (r h41)
 (n x0 x1 x2 (some y39) (some y36) h41))))
 (e0 h)
theorem q17_43_eq(C:YC)(lf:Nat)(n:K5)(r:K0)(e0:K0)(KE:KX):∀F h,evX fx17 C lf [1,1,1,0,0] F h (fun F h=>n (F 0) (F 1) (F 2) (F 4) (F 5) h) (fun F h=>r h) (bk 0 (fun F h=>e0 h) KE)=q17_43 C lf n r e0 (F 0) (F 1) (F 2) (F 4) (F 5) h:=by
 intro F h;kernel_rfl
noncomputable def l17_0(C:YC)(lf:Nat)(r:K0)(e0:K0)(k:O×O×O×O×O→HW→Rs)(s:O×O×O×O×O)(h:HW):Rs:=
 q17_43 C lf (fun x0 x1 x2 x4 x5 h=>k (x0,x1,x2,x4,x5) h) r e0 s.1 s.2.1 s.2.2.1 s.2.2.2.1 s.2.2.2.2 h
noncomputable def q17_44(C:YC)(lf:Nat)(n:K5)(x0 x1 x2 x4:O)(h:HW):Rs:=
 n x0 x1 x2 x4 (some (.int .i64 0)) h
theorem q17_44_eq(C:YC)(lf:Nat)(n:K5)(KR:KF)(KE:KX):∀F h,evX fx17 C lf [1,1,0] F h (fun F h=>n (F 0) (F 1) (F 2) (F 4) (F 5) h) KR KE=q17_44 C lf n (F 0) (F 1) (F 2) (F 4) h:=by
 intro F h;kernel_rfl
noncomputable def q17_45(C:YC)(lf:Nat)(n:K0)(r:K0)(x0 x1 x2 x4:O)(h:HW):Rs:=
 q17_44 C lf (fun x0 x1 x2 x4 x5 h=>lp (l17_0 C lf r n) lf (x0,x1,x2,x4,x5) h) x0 x1 x2 x4 h
theorem q17_45_eq(C:YC)(lf:Nat)(n:K0)(r:K0)(KE:KX):∀F h,evX fx17 C lf [1,1] F h (fun F h=>n h) (fun F h=>r h) KE=q17_45 C lf n r (F 0) (F 1) (F 2) (F 4) h:=cSeq (a:=subX fx17 [1,1,0]) (b:=subX fx17 [1,1,1]) (by kernel_rfl) (B:=(fun F h=>lp (l17_0 C lf r n) lf ((F 0),(F 1),(F 2),(F 4),(F 5)) h)) (cBlock (id:=0) (a:=subX fx17 [1,1,1,0]) (by kernel_rfl) (cLoop (a:=subX fx17 [1,1,1,0,0]) (g:=fun F=>(F 0,F 1,F 2,F 4,F 5)) (body:=l17_0 C lf r n) (by kernel_rfl) (fun k=>(q17_43_eq C lf (fun x0 x1 x2 x4 x5 h=>k (x0,x1,x2,x4,x5) h) r n KE)))) (q17_44_eq C lf (fun x0 x1 x2 x4 x5 h=>lp (l17_0 C lf r n) lf (x0,x1,x2,x4,x5) h) (fun F h=>r h) KE)
noncomputable def q17_46(C:YC)(lf:Nat)(n:K4)(x0 x1 x2:O)(h:HW):Rs:=
 n x0 x1 x2 (some (.int .i64 (-1))) h
theorem q17_46_eq(C:YC)(lf:Nat)(n:K4)(KR:KF)(KE:KX):∀F h,evX fx17 C lf [1,0] F h (fun F h=>n (F 0) (F 1) (F 2) (F 4) h) KR KE=q17_46 C lf n (F 0) (F 1) (F 2) h:=by
 intro F h;kernel_rfl
noncomputable def q17_47(C:YC)(lf:Nat)(n:K0)(r:K0)(x0 x1 x2:O)(h:HW):Rs:=
 q17_46 C lf (fun x0 x1 x2 x4 h=>q17_45 C lf n r x0 x1 x2 x4 h) x0 x1 x2 h
theorem q17_47_eq(C:YC)(lf:Nat)(n:K0)(r:K0)(KE:KX):∀F h,evX fx17 C lf [1] F h (fun F h=>n h) (fun F h=>r h) KE=q17_47 C lf n r (F 0) (F 1) (F 2) h:=cSeq (a:=subX fx17 [1,0]) (b:=subX fx17 [1,1]) (by kernel_rfl) (B:=(fun F h=>q17_45 C lf n r (F 0) (F 1) (F 2) (F 4) h)) (q17_45_eq C lf n r KE) (q17_46_eq C lf (fun x0 x1 x2 x4 h=>q17_45 C lf n r x0 x1 x2 x4 h) (fun F h=>r h) KE)
noncomputable def q17_52(C:YC)(lf:Nat)(n:K3)(r:K0)(x0 x1 x2:O)(h:HW):Rs:=
 ob x1 fun a48=>
 ob (ld1 a48 h) fun y49=>
 bc (C (.fn 11) [y49] h) fun y50 h50=>
 ob (unE .not y50) fun y51=>
 yIf y51
 (r h50)
 (n x0 x1 x2 h50)
theorem q17_52_eq(C:YC)(lf:Nat)(n:K3)(r:K0)(KE:KX):∀F h,evX fx17 C lf [0] F h (fun F h=>n (F 0) (F 1) (F 2) h) (fun F h=>r h) KE=q17_52 C lf n r (F 0) (F 1) (F 2) h:=by
 intro F h;kernel_rfl
noncomputable def q17_53(C:YC)(lf:Nat)(n:K0)(r:K0)(x0 x1 x2:O)(h:HW):Rs:=
 q17_52 C lf (fun x0 x1 x2 h=>q17_47 C lf n r x0 x1 x2 h) r x0 x1 x2 h
theorem q17_53_eq(C:YC)(lf:Nat)(n:K0)(r:K0)(KE:KX):∀F h,evX fx17 C lf [] F h (fun F h=>n h) (fun F h=>r h) KE=q17_53 C lf n r (F 0) (F 1) (F 2) h:=cSeq (a:=subX fx17 [0]) (b:=subX fx17 [1]) (by kernel_rfl) (B:=(fun F h=>q17_47 C lf n r (F 0) (F 1) (F 2) h)) (q17_47_eq C lf n r KE) (q17_52_eq C lf (fun x0 x1 x2 h=>q17_47 C lf n r x0 x1 x2 h) r KE)
noncomputable def fs17(C:YC)(lf:Nat)(a0 a1 a2:SV)(h:HW):Rs:=q17_53 C lf ff17 ff17 (some a0) (some a1) (some a2) h
theorem fs17_eq(C:YC)(lf:Nat)(a0 a1 a2:SV)(h:HW):yFn Try.prog fx17 C lf [a0,a1,a2] h=fs17 C lf a0 a1 a2 h:=fnX (K:=(fun F h=>ff17 h)) (by kernel_rfl) (((q17_53_eq C lf ff17 ff17 (fun _ _ _=>none)) _ h).trans (by kernel_rfl))
noncomputable def fy17:YX Try.prog:=Y3 fx17 fs17 fs17_eq (by kernel_rfl)
noncomputable def fx18:XF Try.prog:=⟨18,Try.f18,fun _=> .text,Try.func18,by kernel_rfl,by kernel_rfl,by kernel_rfl,by kernel_rfl⟩
noncomputable def ff18(x6 x7:O)(h:HW):Rs:=
 ob x6 fun a0=>
 ob x7 fun a1=>
 some (.ret (.tup [a0,a1]),h)
noncomputable def q18_15(C:YC)(lf:Nat)(r:K2)(x0 x1 x2:O)(h:HW):Rs:=
 ob x0 fun a2=>
 ob x1 fun a3=>
 ob x2 fun a4=>
 bc (C (.fn 23) [a2,a3,a4] h) fun y5 h5=>
 ob (ext 0 y5) fun y6=>
 ob (ext 1 y5) fun y7=>
 ob (ext 2 y5) fun y8=>
 ob (bin Try.prog .neq 30 y8 (.int .i64 0)) fun y9=>
 yIf y9
 (r (some (.val (.pointer none))) (some y8) h5)
 (ob (semBuild Try.prog 25 [1] [y7]) fun y10=>
 b2 (ybx 25 y10 h5) fun y11 h11=>
 bc (C (.fn 24) [y11,y6,(.int .i64 0)] h11) fun y12 h12=>
 ob (semBuild Try.prog 71 [0] [(.int .i64 9)]) fun y13=>
 bc (C (.fn 25) [y11,y13] h12) fun y14 h14=>
 r (some y11) (some (.int .i64 0)) h14)
theorem q18_15_eq(C:YC)(lf:Nat)(r:K2)(KN:KF)(KE:KX):∀F h,evX fx18 C lf [] F h KN (fun F h=>r (F 6) (F 7) h) KE=q18_15 C lf r (F 0) (F 1) (F 2) h:=by
 intro F h;kernel_rfl
noncomputable def fs18(C:YC)(lf:Nat)(a0 a1 a2:SV)(h:HW):Rs:=q18_15 C lf ff18 (some a0) (some a1) (some a2) h
theorem fs18_eq(C:YC)(lf:Nat)(a0 a1 a2:SV)(h:HW):yFn Try.prog fx18 C lf [a0,a1,a2] h=fs18 C lf a0 a1 a2 h:=fnX (K:=(fun F h=>ff18 (F 6) (F 7) h)) (by kernel_rfl) (((q18_15_eq C lf ff18 (fun F h=>ff18 (F 6) (F 7) h) (fun _ _ _=>none)) _ h).trans (by kernel_rfl))
noncomputable def fy18:YX Try.prog:=Y3 fx18 fs18 fs18_eq (by kernel_rfl)
noncomputable def fx19:XF Try.prog:=⟨19,Try.f19,fun _=> .text,Try.func19,by kernel_rfl,by kernel_rfl,by kernel_rfl,by kernel_rfl⟩
noncomputable def ff19(x4:O)(h:HW):Rs:=
 ob x4 fun a0=>
 some (.ret a0,h)
noncomputable def q19_1(C:YC)(lf:Nat)(r:K1)(h:HW):Rs:=
 r (some (.bool true)) h
theorem q19_1_eq(C:YC)(lf:Nat)(r:K1)(KN:KF)(KE:KX):∀F h,evX fx19 C lf [1,1,1] F h KN (fun F h=>r (F 4) h) KE=q19_1 C lf r h:=by
 intro F h;kernel_rfl
noncomputable def q19_16(C:YC)(lf:Nat)(n:K4)(r:K1)(e0:K0)(x0 x1 x12 x13:O)(h:HW):Rs:=
 ob x13 fun a3=>
 ob x12 fun a4=>
 ob (bin Try.prog .lss 3 a3 a4) fun y5=>
 yIf y5
 (ob x13 fun a6=>
 ob x0 fun a7=>
 ob (ixS 2 a7 a6) fun y8=>
 ob (ldN 2 y8 h) fun y9=>
 ob x1 fun a10=>
 ob (ixS 2 a10 a6) fun y11=>
 ob (ldN 2 y11 h) fun y12=>
 ob (bin Try.prog .neq 53 y9 y12) fun y13=>
 yIf y13
 (r (some (.bool false)) h)
 (ob x13 fun a14=>
 ob (bin Try.prog .add 3 a14 (.int .i64 1)) fun y15=>
 n x0 x1 x12 (some y15) h))
 (e0 h)
theorem q19_16_eq(C:YC)(lf:Nat)(n:K4)(r:K1)(e0:K0)(KE:KX):∀F h,evX fx19 C lf [1,1,0,1,0,0] F h (fun F h=>n (F 0) (F 1) (F 12) (F 13) h) (fun F h=>r (F 4) h) (bk 0 (fun F h=>e0 h) KE)=q19_16 C lf n r e0 (F 0) (F 1) (F 12) (F 13) h:=by
 intro F h;kernel_rfl
noncomputable def l19_2(C:YC)(lf:Nat)(r:K1)(e0:K0)(k:O×O×O×O→HW→Rs)(s:O×O×O×O)(h:HW):Rs:=
 q19_16 C lf (fun x0 x1 x12 x13 h=>k (x0,x1,x12,x13) h) r e0 s.1 s.2.1 s.2.2.1 s.2.2.2 h
noncomputable def q19_19(C:YC)(lf:Nat)(n:K4)(x0 x1:O)(h:HW):Rs:=
 ob x0 fun a17=>
 ob (lenE Try.prog 27 a17) fun y18=>
 n x0 x1 (some y18) (some (.int .i64 0)) h
theorem q19_19_eq(C:YC)(lf:Nat)(n:K4)(KR:KF)(KE:KX):∀F h,evX fx19 C lf [1,1,0,0] F h (fun F h=>n (F 0) (F 1) (F 12) (F 13) h) KR KE=q19_19 C lf n (F 0) (F 1) h:=by
 intro F h;kernel_rfl
noncomputable def q19_20(C:YC)(lf:Nat)(n:K0)(r:K1)(x0 x1:O)(h:HW):Rs:=
 q19_19 C lf (fun x0 x1 x12 x13 h=>lp (l19_2 C lf r n) lf (x0,x1,x12,x13) h) x0 x1 h
theorem q19_20_eq(C:YC)(lf:Nat)(n:K0)(r:K1)(KE:KX):∀F h,evX fx19 C lf [1,1,0] F h (fun F h=>n h) (fun F h=>r (F 4) h) KE=q19_20 C lf n r (F 0) (F 1) h:=cSeq (a:=subX fx19 [1,1,0,0]) (b:=subX fx19 [1,1,0,1]) (by kernel_rfl) (B:=(fun F h=>lp (l19_2 C lf r n) lf ((F 0),(F 1),(F 12),(F 13)) h)) (cBlock (id:=0) (a:=subX fx19 [1,1,0,1,0]) (by kernel_rfl) (cLoop (a:=subX fx19 [1,1,0,1,0,0]) (g:=fun F=>(F 0,F 1,F 12,F 13)) (body:=l19_2 C lf r n) (by kernel_rfl) (fun k=>(q19_16_eq C lf (fun x0 x1 x12 x13 h=>k (x0,x1,x12,x13) h) r n KE)))) (q19_19_eq C lf (fun x0 x1 x12 x13 h=>lp (l19_2 C lf r n) lf (x0,x1,x12,x13) h) (fun F h=>r (F 4) h) KE)
noncomputable def q19_21(C:YC)(lf:Nat)(r:K1)(x0 x1:O)(h:HW):Rs:=
 q19_20 C lf (fun h=>q19_1 C lf r h) r x0 x1 h
theorem q19_21_eq(C:YC)(lf:Nat)(r:K1)(KN:KF)(KE:KX):∀F h,evX fx19 C lf [1,1] F h KN (fun F h=>r (F 4) h) KE=q19_21 C lf r (F 0) (F 1) h:=cSeq (a:=subX fx19 [1,1,0]) (b:=subX fx19 [1,1,1]) (by kernel_rfl) (B:=(fun F h=>q19_1 C lf r h)) (q19_1_eq C lf r KN KE) (q19_20_eq C lf (fun h=>q19_1 C lf r h) r KE)
noncomputable def q19_27(C:YC)(lf:Nat)(n:K2)(r:K1)(x0 x1:O)(h:HW):Rs:=
 ob x0 fun a22=>
 ob (lenE Try.prog 27 a22) fun y23=>
 ob x1 fun a24=>
 ob (lenE Try.prog 27 a24) fun y25=>
 ob (bin Try.prog .neq 3 y23 y25) fun y26=>
 yIf y26
 (r (some (.bool false)) h)
 (n x0 x1 h)
theorem q19_27_eq(C:YC)(lf:Nat)(n:K2)(r:K1)(KE:KX):∀F h,evX fx19 C lf [1,0] F h (fun F h=>n (F 0) (F 1) h) (fun F h=>r (F 4) h) KE=q19_27 C lf n r (F 0) (F 1) h:=by
 intro F h;kernel_rfl
noncomputable def q19_28(C:YC)(lf:Nat)(r:K1)(x0 x1:O)(h:HW):Rs:=
 q19_27 C lf (fun x0 x1 h=>q19_21 C lf r x0 x1 h) r x0 x1 h
theorem q19_28_eq(C:YC)(lf:Nat)(r:K1)(KN:KF)(KE:KX):∀F h,evX fx19 C lf [1] F h KN (fun F h=>r (F 4) h) KE=q19_28 C lf r (F 0) (F 1) h:=cSeq (a:=subX fx19 [1,0]) (b:=subX fx19 [1,1]) (by kernel_rfl) (B:=(fun F h=>q19_21 C lf r (F 0) (F 1) h)) (q19_21_eq C lf r KN KE) (q19_27_eq C lf (fun x0 x1 h=>q19_21 C lf r x0 x1 h) r KE)
noncomputable def q19_29(C:YC)(lf:Nat)(n:K2)(x0 x1:O)(h:HW):Rs:=
 n x0 x1 h
theorem q19_29_eq(C:YC)(lf:Nat)(n:K2)(KR:KF)(KE:KX):∀F h,evX fx19 C lf [0] F h (fun F h=>n (F 0) (F 1) h) KR KE=q19_29 C lf n (F 0) (F 1) h:=by
 intro F h;kernel_rfl
noncomputable def q19_30(C:YC)(lf:Nat)(r:K1)(x0 x1:O)(h:HW):Rs:=
 q19_29 C lf (fun x0 x1 h=>q19_28 C lf r x0 x1 h) x0 x1 h
theorem q19_30_eq(C:YC)(lf:Nat)(r:K1)(KN:KF)(KE:KX):∀F h,evX fx19 C lf [] F h KN (fun F h=>r (F 4) h) KE=q19_30 C lf r (F 0) (F 1) h:=cSeq (a:=subX fx19 [0]) (b:=subX fx19 [1]) (by kernel_rfl) (B:=(fun F h=>q19_28 C lf r (F 0) (F 1) h)) (q19_28_eq C lf r KN KE) (q19_29_eq C lf (fun x0 x1 h=>q19_28 C lf r x0 x1 h) (fun F h=>r (F 4) h) KE)
noncomputable def fs19(C:YC)(lf:Nat)(a0 a1:SV)(h:HW):Rs:=q19_30 C lf ff19 (some a0) (some a1) h
theorem fs19_eq(C:YC)(lf:Nat)(a0 a1:SV)(h:HW):yFn Try.prog fx19 C lf [a0,a1] h=fs19 C lf a0 a1 h:=fnX (K:=(fun F h=>ff19 (F 4) h)) (by kernel_rfl) (((q19_30_eq C lf ff19 (fun F h=>ff19 (F 4) h) (fun _ _ _=>none)) _ h).trans (by kernel_rfl))
noncomputable def fy19:YX Try.prog:=Y2 fx19 fs19 fs19_eq (by kernel_rfl)
noncomputable def fx20:XF Try.prog:=⟨20,Try.f20,fun r=>bif Nat.beq r 15 then .ord [0,1,2,4,5,3,6,7,8,9,10] [(9,[8,6,3])] else bif Nat.beq r 27 then .ord [0,2,4,5,1,6,3,7,8,9] [(7,[3])] else .text,Try.func20,by kernel_rfl,by kernel_rfl,by kernel_rfl,by kernel_rfl⟩
noncomputable def ff20(x8:O)(h:HW):Rs:=
 ob x8 fun a0=>
 some (.ret a0,h)
noncomputable def q20_1(C:YC)(lf:Nat)(r:K1)(h:HW):Rs:=
 r (some (.val (.slice none 0 0))) h
theorem q20_1_eq(C:YC)(lf:Nat)(r:K1)(KN:KF)(KE:KX):∀F h,evX fx20 C lf [1,1,1,1,1,1] F h KN (fun F h=>r (F 8) h) KE=q20_1 C lf r h:=by
 intro F h;kernel_rfl
noncomputable def q20_49(C:YC)(lf:Nat)(n:K6)(x0 x1 x2 x3 x9 x12 x13 x15:O)(h:HW):Rs:=
 ob x13 fun a3=>
 ob (fa 2 a3) fun y4=>
 ob (ld1 y4 h) fun y5=>
 ob x3 fun a6=>
 ob (bin Try.prog .lss 3 y5 a6) fun y7=>
 bcn (gd true (some y7) (ob x15 fun a8=>
 ob (fa 1 a8) fun y9=>
 some (.ret y9,h)) h) fun y10 h10=>
 bcn (gd true (some y7) (ob (ld1 y10 h10) fun y11=>
 some (.ret y11,h10)) h10) fun y12 h12=>
 bcn (gd true (some y7) (ob x1 fun a13=>
 some (.ret a13,h12)) h12) fun y14 h14=>
 bcn (gd true (some y7) (ob x13 fun a15=>
 ob (fa 2 a15) fun y16=>
 some (.ret y16,h14)) h14) fun y17 h17=>
 bcn (gd true (some y7) (ob (ld1 y17 h17) fun y18=>
 some (.ret y18,h17)) h17) fun y19 h19=>
 bcn (gd true (some y7) (ob (semIndex Try.prog 9 y14 y19) fun y20=>
 some (.ret y20,h19)) h19) fun y21 h21=>
 bcn (gd true (some y7) (ob (semNil y12) fun y22=>
 some (.ret y22,h21)) h21) fun y23 h23=>
 bcn (gd true (some y7) (ob (ixA 256 1 y23 y21) fun y24=>
 some (.ret y24,h23)) h23) fun y25 h25=>
 bcn (gd true (some y7) (ob (ld1 y25 h25) fun y26=>
 some (.ret y26,h25)) h25) fun y27 h27=>
 ob (ypk y7 y27 (.bool false)) fun y28=>
 yIf y28
 (ob x12 fun a29=>
 ob x13 fun a30=>
 ob (fa 0 a30) fun y31=>
 ob (fa 0 y31) fun y32=>
 ob (ld1 y32 h27) fun y33=>
 ob (bin Try.prog .add 3 y33 (.int .i64 1)) fun y34=>
 ob x15 fun a35=>
 ob (fa 2 a35) fun y36=>
 ob (ld1 y36 h27) fun y37=>
 ob (semBuild Try.prog 66 [0,1] [y34,y37]) fun y38=>
 ob x13 fun a39=>
 ob (fa 2 a39) fun y40=>
 ob (ld1 y40 h27) fun y41=>
 ob (bin Try.prog .add 3 y41 (.int .i64 1)) fun y42=>
 ob x13 fun a43=>
 ob (fa 3 a43) fun y44=>
 ob (ld1 y44 h27) fun y45=>
 ob (semBuild Try.prog 83 [0,1,2] [y38,y42,y45]) fun y46=>
 b2 (ybs Try.prog 84 1 [0] [y46] h27) fun y47 h47=>
 b2 (ybl Try.prog .append #[84,84] [a29,y47] h47) fun y48 h48=>
 n x0 x1 x2 x3 x9 (some y48) h48)
 (n x0 x1 x2 x3 x9 x12 h27)
theorem q20_49_eq(C:YC)(lf:Nat)(n:K6)(KR:KF)(K4:KF)(K3:KF)(K2:KF)(KE:KX):∀F h,evX fx20 C lf [1,1,1,1,1,0,0,0,1,0,1,1,1,1,1,1,0,1,0] F h (fun F h=>n (F 0) (F 1) (F 2) (F 3) (F 9) (F 12) h) KR (bk 4 K4 (bk 3 K3 (bk 2 K2 KE)))=q20_49 C lf n (F 0) (F 1) (F 2) (F 3) (F 9) (F 12) (F 13) (F 15) h:=by
 intro F h;kernel_rfl
noncomputable def q20_70(C:YC)(lf:Nat)(n:K6)(r:K1)(x0 x1 x2 x3 x9 x12 x13:O)(h:HW):Rs:=
 ob x13 fun a50=>
 ob (fa 2 a50) fun y51=>
 ob (ld1 y51 h) fun y52=>
 ob x3 fun a53=>
 ob (bin Try.prog .eql 3 y52 a53) fun y54=>
 yIf y54
 (ob x13 fun a55=>
 ob (fa 3 a55) fun y56=>
 ob x13 fun a57=>
 ob (fa 3 a57) fun y58=>
 ob x2 fun a59=>
 ob x3 fun a60=>
 ob (ld1 y56 h) fun y61=>
 ob (ixS 1 y61 (.int .i64 0)) fun y62=>
 ob (ld1 y58 h) fun y63=>
 ob (st 1 y62 a59 h) fun h64=>
 ck (chkH [(3,adrO (some y58)),(1,adrO (some y56))] h h64 [3]) <|
 ob (ixS 1 y63 (.int .i64 1)) fun y65=>
 ob (st 1 y65 a60 h64) fun h66=>
 ob x13 fun a67=>
 ob (fa 3 a67) fun y68=>
 ob (ld1 y68 h66) fun y69=>
 r (some y69) h66)
 (n x0 x1 x2 x3 x9 x12 h)
theorem q20_70_eq(C:YC)(lf:Nat)(n:K6)(r:K1)(K4:KF)(K3:KF)(K2:KF)(KE:KX):∀F h,evX fx20 C lf [1,1,1,1,1,0,0,0,1,0,1,1,1,1,1,1,0,1,1,1,0] F h (fun F h=>n (F 0) (F 1) (F 2) (F 3) (F 9) (F 12) h) (fun F h=>r (F 8) h) (bk 4 K4 (bk 3 K3 (bk 2 K2 KE)))=q20_70 C lf n r (F 0) (F 1) (F 2) (F 3) (F 9) (F 12) (F 13) h:=by
 intro F h;kernel_rfl
noncomputable def q20_89(C:YC)(lf:Nat)(n:K6)(x0 x1 x2 x3 x9 x12 x13 x16:O)(h:HW):Rs:=
 ob x12 fun a71=>
 ob x13 fun a72=>
 ob (fa 0 a72) fun y73=>
 ob (fa 0 y73) fun y74=>
 ob (ld1 y74 h) fun y75=>
 ob (bin Try.prog .add 3 y75 (.int .i64 1)) fun y76=>
 ob x13 fun a77=>
 ob (fa 0 a77) fun y78=>
 ob (fa 1 y78) fun y79=>
 ob (ld1 y79 h) fun y80=>
 ob (semBuild Try.prog 66 [0,1] [y76,y80]) fun y81=>
 ob x13 fun a82=>
 ob (fa 2 a82) fun y83=>
 ob (ld1 y83 h) fun y84=>
 ob x16 fun a85=>
 ob (semBuild Try.prog 83 [0,1,2] [y81,y84,a85]) fun y86=>
 b2 (ybs Try.prog 84 1 [0] [y86] h) fun y87 h87=>
 b2 (ybl Try.prog .append #[84,84] [a71,y87] h87) fun y88 h88=>
 n x0 x1 x2 x3 x9 (some y88) h88
theorem q20_89_eq(C:YC)(lf:Nat)(n:K6)(KR:KF)(K4:KF)(K3:KF)(K2:KF)(KE:KX):∀F h,evX fx20 C lf [1,1,1,1,1,0,0,0,1,0,1,1,1,1,1,1,0,1,1,1,1,1,0,1,1] F h (fun F h=>n (F 0) (F 1) (F 2) (F 3) (F 9) (F 12) h) KR (bk 4 K4 (bk 3 K3 (bk 2 K2 KE)))=q20_89 C lf n (F 0) (F 1) (F 2) (F 3) (F 9) (F 12) (F 13) (F 16) h:=by
 intro F h;kernel_rfl
noncomputable def q20_99(C:YC)(lf:Nat)(n:K8)(x0 x1 x2 x3 x9 x12 x13 x15 x16:O)(h:HW):Rs:=
 ob x16 fun a90=>
 ob x15 fun a91=>
 ob (fa 2 a91) fun y92=>
 ob (ld1 y92 h) fun y93=>
 ob x13 fun a94=>
 ob (fa 2 a94) fun y95=>
 ob (ld1 y95 h) fun y96=>
 ob (ixS 1 a90 y93) fun y97=>
 ob (st 1 y97 y96 h) fun h98=>
 n x0 x1 x2 x3 x9 x12 x13 x16 h98
theorem q20_99_eq(C:YC)(lf:Nat)(n:K8)(KR:KF)(K4:KF)(K3:KF)(K2:KF)(KE:KX):∀F h,evX fx20 C lf [1,1,1,1,1,0,0,0,1,0,1,1,1,1,1,1,0,1,1,1,1,1,0,1,0,1,0] F h (fun F h=>n (F 0) (F 1) (F 2) (F 3) (F 9) (F 12) (F 13) (F 16) h) KR (bk 4 K4 (bk 3 K3 (bk 2 K2 KE)))=q20_99 C lf n (F 0) (F 1) (F 2) (F 3) (F 9) (F 12) (F 13) (F 15) (F 16) h:=by
 intro F h;kernel_rfl
noncomputable def q20_114(C:YC)(lf:Nat)(n:K10)(e7:K8)(x0 x1 x2 x3 x9 x12 x13 x15 x16 x17:O)(h:HW):Rs:=
 ob x17 fun a101=>
 ob x15 fun a102=>
 ob (fa 3 a102) fun y103=>
 ob (ld1 y103 h) fun y104=>
 ob (bin Try.prog .mul 3 (.int .i64 2) y104) fun y105=>
 ob (bin Try.prog .add 3 y105 (.int .i64 1)) fun y106=>
 ob (bin Try.prog .leq 3 a101 y106) fun y107=>
 yIf y107
 (ob x16 fun a108=>
 ob x17 fun a109=>
 ob (ixS 1 a108 a109) fun y110=>
 ob (st 1 y110 (.int .i64 (-1)) h) fun h111=>
 ob x17 fun a112=>
 ob (bin Try.prog .add 3 a112 (.int .i64 1)) fun y113=>
 n x0 x1 x2 x3 x9 x12 x13 x15 x16 (some y113) h111)
 (e7 x0 x1 x2 x3 x9 x12 x13 x16 h)
theorem q20_114_eq(C:YC)(lf:Nat)(n:K10)(e7:K8)(KR:KF)(K4:KF)(K3:KF)(K2:KF)(KE:KX):∀F h,evX fx20 C lf [1,1,1,1,1,0,0,0,1,0,1,1,1,1,1,1,0,1,1,1,1,1,0,1,0,1,1,1,0,0] F h (fun F h=>n (F 0) (F 1) (F 2) (F 3) (F 9) (F 12) (F 13) (F 15) (F 16) (F 17) h) KR (bk 7 (fun F h=>e7 (F 0) (F 1) (F 2) (F 3) (F 9) (F 12) (F 13) (F 16) h) (bk 4 K4 (bk 3 K3 (bk 2 K2 KE))))=q20_114 C lf n e7 (F 0) (F 1) (F 2) (F 3) (F 9) (F 12) (F 13) (F 15) (F 16) (F 17) h:=by
 intro F h;kernel_rfl
noncomputable def l20_100(C:YC)(lf:Nat)(e7:K8)(k:O×O×O×O×O×O×O×O×O×O→HW→Rs)(s:O×O×O×O×O×O×O×O×O×O)(h:HW):Rs:=
 q20_114 C lf (fun x0 x1 x2 x3 x9 x12 x13 x15 x16 x17 h=>k (x0,x1,x2,x3,x9,x12,x13,x15,x16,x17) h) e7 s.1 s.2.1 s.2.2.1 s.2.2.2.1 s.2.2.2.2.1 s.2.2.2.2.2.1 s.2.2.2.2.2.2.1 s.2.2.2.2.2.2.2.1 s.2.2.2.2.2.2.2.2.1 s.2.2.2.2.2.2.2.2.2 h
noncomputable def q20_119(C:YC)(lf:Nat)(n:K10)(x0 x1 x2 x3 x9 x12 x13 x15 x16:O)(h:HW):Rs:=
 ob x15 fun a115=>
 ob (fa 2 a115) fun y116=>
 ob (ld1 y116 h) fun y117=>
 ob (bin Try.prog .mul 3 (.int .i64 2) y117) fun y118=>
 n x0 x1 x2 x3 x9 x12 x13 x15 x16 (some y118) h
theorem q20_119_eq(C:YC)(lf:Nat)(n:K10)(KR:KF)(K4:KF)(K3:KF)(K2:KF)(KE:KX):∀F h,evX fx20 C lf [1,1,1,1,1,0,0,0,1,0,1,1,1,1,1,1,0,1,1,1,1,1,0,1,0,1,1,0] F h (fun F h=>n (F 0) (F 1) (F 2) (F 3) (F 9) (F 12) (F 13) (F 15) (F 16) (F 17) h) KR (bk 4 K4 (bk 3 K3 (bk 2 K2 KE)))=q20_119 C lf n (F 0) (F 1) (F 2) (F 3) (F 9) (F 12) (F 13) (F 15) (F 16) h:=by
 intro F h;kernel_rfl
noncomputable def q20_120(C:YC)(lf:Nat)(n:K8)(x0 x1 x2 x3 x9 x12 x13 x15 x16:O)(h:HW):Rs:=
 q20_119 C lf (fun x0 x1 x2 x3 x9 x12 x13 x15 x16 x17 h=>lp (l20_100 C lf n) lf (x0,x1,x2,x3,x9,x12,x13,x15,x16,x17) h) x0 x1 x2 x3 x9 x12 x13 x15 x16 h
theorem q20_120_eq(C:YC)(lf:Nat)(n:K8)(KR:KF)(K4:KF)(K3:KF)(K2:KF)(KE:KX):∀F h,evX fx20 C lf [1,1,1,1,1,0,0,0,1,0,1,1,1,1,1,1,0,1,1,1,1,1,0,1,0,1,1] F h (fun F h=>n (F 0) (F 1) (F 2) (F 3) (F 9) (F 12) (F 13) (F 16) h) KR (bk 4 K4 (bk 3 K3 (bk 2 K2 KE)))=q20_120 C lf n (F 0) (F 1) (F 2) (F 3) (F 9) (F 12) (F 13) (F 15) (F 16) h:=cSeq (a:=subX fx20 [1,1,1,1,1,0,0,0,1,0,1,1,1,1,1,1,0,1,1,1,1,1,0,1,0,1,1,0]) (b:=subX fx20 [1,1,1,1,1,0,0,0,1,0,1,1,1,1,1,1,0,1,1,1,1,1,0,1,0,1,1,1]) (by kernel_rfl) (B:=(fun F h=>lp (l20_100 C lf n) lf ((F 0),(F 1),(F 2),(F 3),(F 9),(F 12),(F 13),(F 15),(F 16),(F 17)) h)) (cBlock (id:=7) (a:=subX fx20 [1,1,1,1,1,0,0,0,1,0,1,1,1,1,1,1,0,1,1,1,1,1,0,1,0,1,1,1,0]) (by kernel_rfl) (cLoop (a:=subX fx20 [1,1,1,1,1,0,0,0,1,0,1,1,1,1,1,1,0,1,1,1,1,1,0,1,0,1,1,1,0,0]) (g:=fun F=>(F 0,F 1,F 2,F 3,F 9,F 12,F 13,F 15,F 16,F 17)) (body:=l20_100 C lf n) (by kernel_rfl) (fun k=>(q20_114_eq C lf (fun x0 x1 x2 x3 x9 x12 x13 x15 x16 x17 h=>k (x0,x1,x2,x3,x9,x12,x13,x15,x16,x17) h) n KR K4 K3 K2 KE)))) (q20_119_eq C lf (fun x0 x1 x2 x3 x9 x12 x13 x15 x16 x17 h=>lp (l20_100 C lf n) lf (x0,x1,x2,x3,x9,x12,x13,x15,x16,x17) h) KR K4 K3 K2 KE)
noncomputable def q20_122(C:YC)(lf:Nat)(n:K8)(x0 x1 x2 x3 x9 x12 x13 x15 x16 x173:O)(h:HW):Rs:=
 ob x173 fun a121=>
 yIf a121
 (q20_99 C lf n x0 x1 x2 x3 x9 x12 x13 x15 x16 h)
 (q20_120 C lf n x0 x1 x2 x3 x9 x12 x13 x15 x16 h)
theorem q20_122_eq(C:YC)(lf:Nat)(n:K8)(KR:KF)(K4:KF)(K3:KF)(K2:KF)(KE:KX):∀F h,evX fx20 C lf [1,1,1,1,1,0,0,0,1,0,1,1,1,1,1,1,0,1,1,1,1,1,0,1,0,1] F h (fun F h=>n (F 0) (F 1) (F 2) (F 3) (F 9) (F 12) (F 13) (F 16) h) KR (bk 4 K4 (bk 3 K3 (bk 2 K2 KE)))=q20_122 C lf n (F 0) (F 1) (F 2) (F 3) (F 9) (F 12) (F 13) (F 15) (F 16) (F 173) h:=cCond (x:= .tmp 173) (by kernel_rfl) (q20_99_eq C lf n KR K4 K3 K2 KE) (q20_120_eq C lf n KR K4 K3 K2 KE)
noncomputable def q20_127(C:YC)(lf:Nat)(n:K10)(x0 x1 x2 x3 x9 x12 x13 x15 x16:O)(h:HW):Rs:=
 ob x15 fun a123=>
 ob (fa 0 a123) fun y124=>
 ob (ld1 y124 h) fun y125=>
 ob (bin Try.prog .eql 3 y125 (.int .i64 3)) fun y126=>
 n x0 x1 x2 x3 x9 x12 x13 x15 x16 (some y126) h
theorem q20_127_eq(C:YC)(lf:Nat)(n:K10)(KR:KF)(K4:KF)(K3:KF)(K2:KF)(KE:KX):∀F h,evX fx20 C lf [1,1,1,1,1,0,0,0,1,0,1,1,1,1,1,1,0,1,1,1,1,1,0,1,0,0] F h (fun F h=>n (F 0) (F 1) (F 2) (F 3) (F 9) (F 12) (F 13) (F 15) (F 16) (F 173) h) KR (bk 4 K4 (bk 3 K3 (bk 2 K2 KE)))=q20_127 C lf n (F 0) (F 1) (F 2) (F 3) (F 9) (F 12) (F 13) (F 15) (F 16) h:=by
 intro F h;kernel_rfl
noncomputable def q20_128(C:YC)(lf:Nat)(n:K8)(x0 x1 x2 x3 x9 x12 x13 x15 x16:O)(h:HW):Rs:=
 q20_127 C lf (fun x0 x1 x2 x3 x9 x12 x13 x15 x16 x173 h=>q20_122 C lf n x0 x1 x2 x3 x9 x12 x13 x15 x16 x173 h) x0 x1 x2 x3 x9 x12 x13 x15 x16 h
theorem q20_128_eq(C:YC)(lf:Nat)(n:K8)(KR:KF)(K4:KF)(K3:KF)(K2:KF)(KE:KX):∀F h,evX fx20 C lf [1,1,1,1,1,0,0,0,1,0,1,1,1,1,1,1,0,1,1,1,1,1,0,1,0] F h (fun F h=>n (F 0) (F 1) (F 2) (F 3) (F 9) (F 12) (F 13) (F 16) h) KR (bk 4 K4 (bk 3 K3 (bk 2 K2 KE)))=q20_128 C lf n (F 0) (F 1) (F 2) (F 3) (F 9) (F 12) (F 13) (F 15) (F 16) h:=cSeq (a:=subX fx20 [1,1,1,1,1,0,0,0,1,0,1,1,1,1,1,1,0,1,1,1,1,1,0,1,0,0]) (b:=subX fx20 [1,1,1,1,1,0,0,0,1,0,1,1,1,1,1,1,0,1,1,1,1,1,0,1,0,1]) (by kernel_rfl) (B:=(fun F h=>q20_122 C lf n (F 0) (F 1) (F 2) (F 3) (F 9) (F 12) (F 13) (F 15) (F 16) (F 173) h)) (q20_122_eq C lf n KR K4 K3 K2 KE) (q20_127_eq C lf (fun x0 x1 x2 x3 x9 x12 x13 x15 x16 x173 h=>q20_122 C lf n x0 x1 x2 x3 x9 x12 x13 x15 x16 x173 h) KR K4 K3 K2 KE)
noncomputable def q20_129(C:YC)(lf:Nat)(n:K6)(x0 x1 x2 x3 x9 x12 x13 x15 x16:O)(h:HW):Rs:=
 q20_128 C lf (fun x0 x1 x2 x3 x9 x12 x13 x16 h=>q20_89 C lf n x0 x1 x2 x3 x9 x12 x13 x16 h) x0 x1 x2 x3 x9 x12 x13 x15 x16 h
theorem q20_129_eq(C:YC)(lf:Nat)(n:K6)(KR:KF)(K4:KF)(K3:KF)(K2:KF)(KE:KX):∀F h,evX fx20 C lf [1,1,1,1,1,0,0,0,1,0,1,1,1,1,1,1,0,1,1,1,1,1,0,1] F h (fun F h=>n (F 0) (F 1) (F 2) (F 3) (F 9) (F 12) h) KR (bk 4 K4 (bk 3 K3 (bk 2 K2 KE)))=q20_129 C lf n (F 0) (F 1) (F 2) (F 3) (F 9) (F 12) (F 13) (F 15) (F 16) h:=cSeq (a:=subX fx20 [1,1,1,1,1,0,0,0,1,0,1,1,1,1,1,1,0,1,1,1,1,1,0,1,0]) (b:=subX fx20 [1,1,1,1,1,0,0,0,1,0,1,1,1,1,1,1,0,1,1,1,1,1,0,1,1]) (by kernel_rfl) (B:=(fun F h=>q20_89 C lf n (F 0) (F 1) (F 2) (F 3) (F 9) (F 12) (F 13) (F 16) h)) (q20_89_eq C lf n KR K4 K3 K2 KE) (q20_128_eq C lf (fun x0 x1 x2 x3 x9 x12 x13 x16 h=>q20_89 C lf n x0 x1 x2 x3 x9 x12 x13 x16 h) KR K4 K3 K2 KE)
noncomputable def q20_134(C:YC)(lf:Nat)(n:K9)(x0 x1 x2 x3 x9 x12 x13 x15:O)(h:HW):Rs:=
 ob x13 fun a130=>
 ob (fa 3 a130) fun y131=>
 ob (ld1 y131 h) fun y132=>
 b2 (ybl Try.prog .append #[62,62] [(.val (.slice none 0 0)),y132] h) fun y133 h133=>
 n x0 x1 x2 x3 x9 x12 x13 x15 (some y133) h133
theorem q20_134_eq(C:YC)(lf:Nat)(n:K9)(KR:KF)(K4:KF)(K3:KF)(K2:KF)(KE:KX):∀F h,evX fx20 C lf [1,1,1,1,1,0,0,0,1,0,1,1,1,1,1,1,0,1,1,1,1,1,0,0] F h (fun F h=>n (F 0) (F 1) (F 2) (F 3) (F 9) (F 12) (F 13) (F 15) (F 16) h) KR (bk 4 K4 (bk 3 K3 (bk 2 K2 KE)))=q20_134 C lf n (F 0) (F 1) (F 2) (F 3) (F 9) (F 12) (F 13) (F 15) h:=by
 intro F h;kernel_rfl
noncomputable def q20_135(C:YC)(lf:Nat)(n:K6)(x0 x1 x2 x3 x9 x12 x13 x15:O)(h:HW):Rs:=
 q20_134 C lf (fun x0 x1 x2 x3 x9 x12 x13 x15 x16 h=>q20_129 C lf n x0 x1 x2 x3 x9 x12 x13 x15 x16 h) x0 x1 x2 x3 x9 x12 x13 x15 h
theorem q20_135_eq(C:YC)(lf:Nat)(n:K6)(KR:KF)(K4:KF)(K3:KF)(K2:KF)(KE:KX):∀F h,evX fx20 C lf [1,1,1,1,1,0,0,0,1,0,1,1,1,1,1,1,0,1,1,1,1,1,0] F h (fun F h=>n (F 0) (F 1) (F 2) (F 3) (F 9) (F 12) h) KR (bk 4 K4 (bk 3 K3 (bk 2 K2 KE)))=q20_135 C lf n (F 0) (F 1) (F 2) (F 3) (F 9) (F 12) (F 13) (F 15) h:=cSeq (a:=subX fx20 [1,1,1,1,1,0,0,0,1,0,1,1,1,1,1,1,0,1,1,1,1,1,0,0]) (b:=subX fx20 [1,1,1,1,1,0,0,0,1,0,1,1,1,1,1,1,0,1,1,1,1,1,0,1]) (by kernel_rfl) (B:=(fun F h=>q20_129 C lf n (F 0) (F 1) (F 2) (F 3) (F 9) (F 12) (F 13) (F 15) (F 16) h)) (q20_129_eq C lf n KR K4 K3 K2 KE) (q20_134_eq C lf (fun x0 x1 x2 x3 x9 x12 x13 x15 x16 h=>q20_129 C lf n x0 x1 x2 x3 x9 x12 x13 x15 x16 h) KR K4 K3 K2 KE)
noncomputable def q20_155(C:YC)(lf:Nat)(n:K9)(e5:K6)(x0 x1 x2 x3 x9 x12 x13 x18 x20:O)(h:HW):Rs:=
 ob x20 fun a137=>
 ob (bin Try.prog .geq 3 a137 (.int .i64 0)) fun y138=>
 yIf y138
 (ob x12 fun a139=>
 ob x20 fun a140=>
 ob x18 fun a141=>
 ob (ixA 2 2 a141 a140) fun y142=>
 ob (ldN 2 y142 h) fun y143=>
 ob x13 fun a144=>
 ob (fa 2 a144) fun y145=>
 ob (ld1 y145 h) fun y146=>
 ob x13 fun a147=>
 ob (fa 3 a147) fun y148=>
 ob (ld1 y148 h) fun y149=>
 ob (semBuild Try.prog 83 [0,1,2] [y143,y146,y149]) fun y150=>
 b2 (ybs Try.prog 84 1 [0] [y150] h) fun y151 h151=>
 b2 (ybl Try.prog .append #[84,84] [a139,y151] h151) fun y152 h152=>
 ob x20 fun a153=>
 ob (bin Try.prog .sub 3 a153 (.int .i64 1)) fun y154=>
 n x0 x1 x2 x3 x9 (some y152) x13 x18 (some y154) h152)
 (e5 x0 x1 x2 x3 x9 x12 h)
theorem q20_155_eq(C:YC)(lf:Nat)(n:K9)(e5:K6)(KR:KF)(K4:KF)(K3:KF)(K2:KF)(KE:KX):∀F h,evX fx20 C lf [1,1,1,1,1,0,0,0,1,0,1,1,1,1,1,1,0,1,1,1,1,1,1,1,1,0,0] F h (fun F h=>n (F 0) (F 1) (F 2) (F 3) (F 9) (F 12) (F 13) (F 18) (F 20) h) KR (bk 5 (fun F h=>e5 (F 0) (F 1) (F 2) (F 3) (F 9) (F 12) h) (bk 4 K4 (bk 3 K3 (bk 2 K2 KE))))=q20_155 C lf n e5 (F 0) (F 1) (F 2) (F 3) (F 9) (F 12) (F 13) (F 18) (F 20) h:=by
 intro F h;kernel_rfl
noncomputable def l20_136(C:YC)(lf:Nat)(e5:K6)(k:O×O×O×O×O×O×O×O×O→HW→Rs)(s:O×O×O×O×O×O×O×O×O)(h:HW):Rs:=
 q20_155 C lf (fun x0 x1 x2 x3 x9 x12 x13 x18 x20 h=>k (x0,x1,x2,x3,x9,x12,x13,x18,x20) h) e5 s.1 s.2.1 s.2.2.1 s.2.2.2.1 s.2.2.2.2.1 s.2.2.2.2.2.1 s.2.2.2.2.2.2.1 s.2.2.2.2.2.2.2.1 s.2.2.2.2.2.2.2.2 h
noncomputable def q20_158(C:YC)(lf:Nat)(n:K9)(x0 x1 x2 x3 x9 x12 x13 x18 x19:O)(h:HW):Rs:=
 ob x19 fun a156=>
 ob (bin Try.prog .sub 3 a156 (.int .i64 1)) fun y157=>
 n x0 x1 x2 x3 x9 x12 x13 x18 (some y157) h
theorem q20_158_eq(C:YC)(lf:Nat)(n:K9)(KR:KF)(K4:KF)(K3:KF)(K2:KF)(KE:KX):∀F h,evX fx20 C lf [1,1,1,1,1,0,0,0,1,0,1,1,1,1,1,1,0,1,1,1,1,1,1,1,0] F h (fun F h=>n (F 0) (F 1) (F 2) (F 3) (F 9) (F 12) (F 13) (F 18) (F 20) h) KR (bk 4 K4 (bk 3 K3 (bk 2 K2 KE)))=q20_158 C lf n (F 0) (F 1) (F 2) (F 3) (F 9) (F 12) (F 13) (F 18) (F 19) h:=by
 intro F h;kernel_rfl
noncomputable def q20_159(C:YC)(lf:Nat)(n:K6)(x0 x1 x2 x3 x9 x12 x13 x18 x19:O)(h:HW):Rs:=
 q20_158 C lf (fun x0 x1 x2 x3 x9 x12 x13 x18 x20 h=>lp (l20_136 C lf n) lf (x0,x1,x2,x3,x9,x12,x13,x18,x20) h) x0 x1 x2 x3 x9 x12 x13 x18 x19 h
theorem q20_159_eq(C:YC)(lf:Nat)(n:K6)(KR:KF)(K4:KF)(K3:KF)(K2:KF)(KE:KX):∀F h,evX fx20 C lf [1,1,1,1,1,0,0,0,1,0,1,1,1,1,1,1,0,1,1,1,1,1,1,1] F h (fun F h=>n (F 0) (F 1) (F 2) (F 3) (F 9) (F 12) h) KR (bk 4 K4 (bk 3 K3 (bk 2 K2 KE)))=q20_159 C lf n (F 0) (F 1) (F 2) (F 3) (F 9) (F 12) (F 13) (F 18) (F 19) h:=cSeq (a:=subX fx20 [1,1,1,1,1,0,0,0,1,0,1,1,1,1,1,1,0,1,1,1,1,1,1,1,0]) (b:=subX fx20 [1,1,1,1,1,0,0,0,1,0,1,1,1,1,1,1,0,1,1,1,1,1,1,1,1]) (by kernel_rfl) (B:=(fun F h=>lp (l20_136 C lf n) lf ((F 0),(F 1),(F 2),(F 3),(F 9),(F 12),(F 13),(F 18),(F 20)) h)) (cBlock (id:=5) (a:=subX fx20 [1,1,1,1,1,0,0,0,1,0,1,1,1,1,1,1,0,1,1,1,1,1,1,1,1,0]) (by kernel_rfl) (cLoop (a:=subX fx20 [1,1,1,1,1,0,0,0,1,0,1,1,1,1,1,1,0,1,1,1,1,1,1,1,1,0,0]) (g:=fun F=>(F 0,F 1,F 2,F 3,F 9,F 12,F 13,F 18,F 20)) (body:=l20_136 C lf n) (by kernel_rfl) (fun k=>(q20_155_eq C lf (fun x0 x1 x2 x3 x9 x12 x13 x18 x20 h=>k (x0,x1,x2,x3,x9,x12,x13,x18,x20) h) n KR K4 K3 K2 KE)))) (q20_158_eq C lf (fun x0 x1 x2 x3 x9 x12 x13 x18 x20 h=>lp (l20_136 C lf n) lf (x0,x1,x2,x3,x9,x12,x13,x18,x20) h) KR K4 K3 K2 KE)
noncomputable def q20_176(C:YC)(lf:Nat)(n:K9)(x0 x1 x2 x3 x9 x12 x13 x15:O)(h:HW):Rs:=
 ob x0 fun a160=>
 ob x15 fun a161=>
 ob (ldN 4 a161 h) fun y162=>
 ob x13 fun a163=>
 ob (fa 0 a163) fun y164=>
 ob (ldN 2 y164 h) fun y165=>
 ob x13 fun a166=>
 ob (fa 2 a166) fun y167=>
 ob (ld1 y167 h) fun y168=>
 ob x1 fun a169=>
 ob (lenE Try.prog 9 a169) fun y170=>
 bc (C (.fn 22) [a160,y162,y165,y168,y170] h) fun y171 h171=>
 ob (ext 0 y171) fun y172=>
 ob (ext 1 y171) fun y173=>
 b2 (yAl Try.prog 72 h171) fun y174 h174=>
 ob (st 4 y174 y172 h174) fun h175=>
 n x0 x1 x2 x3 x9 x12 x13 (some y174) (some y173) h175
theorem q20_176_eq(C:YC)(lf:Nat)(n:K9)(KR:KF)(K4:KF)(K3:KF)(K2:KF)(KE:KX):∀F h,evX fx20 C lf [1,1,1,1,1,0,0,0,1,0,1,1,1,1,1,1,0,1,1,1,1,1,1,0] F h (fun F h=>n (F 0) (F 1) (F 2) (F 3) (F 9) (F 12) (F 13) (F 18) (F 19) h) KR (bk 4 K4 (bk 3 K3 (bk 2 K2 KE)))=q20_176 C lf n (F 0) (F 1) (F 2) (F 3) (F 9) (F 12) (F 13) (F 15) h:=by
 intro F h;kernel_rfl
noncomputable def q20_177(C:YC)(lf:Nat)(n:K6)(x0 x1 x2 x3 x9 x12 x13 x15:O)(h:HW):Rs:=
 q20_176 C lf (fun x0 x1 x2 x3 x9 x12 x13 x18 x19 h=>q20_159 C lf n x0 x1 x2 x3 x9 x12 x13 x18 x19 h) x0 x1 x2 x3 x9 x12 x13 x15 h
theorem q20_177_eq(C:YC)(lf:Nat)(n:K6)(KR:KF)(K4:KF)(K3:KF)(K2:KF)(KE:KX):∀F h,evX fx20 C lf [1,1,1,1,1,0,0,0,1,0,1,1,1,1,1,1,0,1,1,1,1,1,1] F h (fun F h=>n (F 0) (F 1) (F 2) (F 3) (F 9) (F 12) h) KR (bk 4 K4 (bk 3 K3 (bk 2 K2 KE)))=q20_177 C lf n (F 0) (F 1) (F 2) (F 3) (F 9) (F 12) (F 13) (F 15) h:=cSeq (a:=subX fx20 [1,1,1,1,1,0,0,0,1,0,1,1,1,1,1,1,0,1,1,1,1,1,1,0]) (b:=subX fx20 [1,1,1,1,1,0,0,0,1,0,1,1,1,1,1,1,0,1,1,1,1,1,1,1]) (by kernel_rfl) (B:=(fun F h=>q20_159 C lf n (F 0) (F 1) (F 2) (F 3) (F 9) (F 12) (F 13) (F 18) (F 19) h)) (q20_159_eq C lf n KR K4 K3 K2 KE) (q20_176_eq C lf (fun x0 x1 x2 x3 x9 x12 x13 x18 x19 h=>q20_159 C lf n x0 x1 x2 x3 x9 x12 x13 x18 x19 h) KR K4 K3 K2 KE)
noncomputable def q20_179(C:YC)(lf:Nat)(n:K6)(x0 x1 x2 x3 x9 x12 x13 x15 x165:O)(h:HW):Rs:=
 ob x165 fun a178=>
 yIf a178
 (q20_135 C lf n x0 x1 x2 x3 x9 x12 x13 x15 h)
 (q20_177 C lf n x0 x1 x2 x3 x9 x12 x13 x15 h)
theorem q20_179_eq(C:YC)(lf:Nat)(n:K6)(KR:KF)(K4:KF)(K3:KF)(K2:KF)(KE:KX):∀F h,evX fx20 C lf [1,1,1,1,1,0,0,0,1,0,1,1,1,1,1,1,0,1,1,1,1,1] F h (fun F h=>n (F 0) (F 1) (F 2) (F 3) (F 9) (F 12) h) KR (bk 4 K4 (bk 3 K3 (bk 2 K2 KE)))=q20_179 C lf n (F 0) (F 1) (F 2) (F 3) (F 9) (F 12) (F 13) (F 15) (F 165) h:=cCond (x:= .tmp 165) (by kernel_rfl) (q20_135_eq C lf n KR K4 K3 K2 KE) (q20_177_eq C lf n KR K4 K3 K2 KE)
noncomputable def q20_184(C:YC)(lf:Nat)(n:K9)(x0 x1 x2 x3 x9 x12 x13 x15 x86:O)(h:HW):Rs:=
 ob x86 fun a180=>
 ob (bin Try.prog .eql 3 a180 (.int .i64 3)) fun y181=>
 yIf y181
 (n x0 x1 x2 x3 x9 x12 x13 x15 (some y181) h)
 (ob x86 fun a182=>
 ob (bin Try.prog .eql 3 a182 (.int .i64 4)) fun y183=>
 n x0 x1 x2 x3 x9 x12 x13 x15 (some y183) h)
theorem q20_184_eq(C:YC)(lf:Nat)(n:K9)(KR:KF)(K4:KF)(K3:KF)(K2:KF)(KE:KX):∀F h,evX fx20 C lf [1,1,1,1,1,0,0,0,1,0,1,1,1,1,1,1,0,1,1,1,1,0] F h (fun F h=>n (F 0) (F 1) (F 2) (F 3) (F 9) (F 12) (F 13) (F 15) (F 165) h) KR (bk 4 K4 (bk 3 K3 (bk 2 K2 KE)))=q20_184 C lf n (F 0) (F 1) (F 2) (F 3) (F 9) (F 12) (F 13) (F 15) (F 86) h:=by
 intro F h;kernel_rfl
noncomputable def q20_185(C:YC)(lf:Nat)(n:K6)(x0 x1 x2 x3 x9 x12 x13 x15 x86:O)(h:HW):Rs:=
 q20_184 C lf (fun x0 x1 x2 x3 x9 x12 x13 x15 x165 h=>q20_179 C lf n x0 x1 x2 x3 x9 x12 x13 x15 x165 h) x0 x1 x2 x3 x9 x12 x13 x15 x86 h
theorem q20_185_eq(C:YC)(lf:Nat)(n:K6)(KR:KF)(K4:KF)(K3:KF)(K2:KF)(KE:KX):∀F h,evX fx20 C lf [1,1,1,1,1,0,0,0,1,0,1,1,1,1,1,1,0,1,1,1,1] F h (fun F h=>n (F 0) (F 1) (F 2) (F 3) (F 9) (F 12) h) KR (bk 4 K4 (bk 3 K3 (bk 2 K2 KE)))=q20_185 C lf n (F 0) (F 1) (F 2) (F 3) (F 9) (F 12) (F 13) (F 15) (F 86) h:=cSeq (a:=subX fx20 [1,1,1,1,1,0,0,0,1,0,1,1,1,1,1,1,0,1,1,1,1,0]) (b:=subX fx20 [1,1,1,1,1,0,0,0,1,0,1,1,1,1,1,1,0,1,1,1,1,1]) (by kernel_rfl) (B:=(fun F h=>q20_179 C lf n (F 0) (F 1) (F 2) (F 3) (F 9) (F 12) (F 13) (F 15) (F 165) h)) (q20_179_eq C lf n KR K4 K3 K2 KE) (q20_184_eq C lf (fun x0 x1 x2 x3 x9 x12 x13 x15 x165 h=>q20_179 C lf n x0 x1 x2 x3 x9 x12 x13 x15 x165 h) KR K4 K3 K2 KE)
noncomputable def q20_187(C:YC)(lf:Nat)(n:K6)(r:K1)(x0 x1 x2 x3 x9 x12 x13 x15 x86 x149:O)(h:HW):Rs:=
 ob x149 fun a186=>
 yIf a186
 (q20_70 C lf n r x0 x1 x2 x3 x9 x12 x13 h)
 (q20_185 C lf n x0 x1 x2 x3 x9 x12 x13 x15 x86 h)
theorem q20_187_eq(C:YC)(lf:Nat)(n:K6)(r:K1)(K4:KF)(K3:KF)(K2:KF)(KE:KX):∀F h,evX fx20 C lf [1,1,1,1,1,0,0,0,1,0,1,1,1,1,1,1,0,1,1,1] F h (fun F h=>n (F 0) (F 1) (F 2) (F 3) (F 9) (F 12) h) (fun F h=>r (F 8) h) (bk 4 K4 (bk 3 K3 (bk 2 K2 KE)))=q20_187 C lf n r (F 0) (F 1) (F 2) (F 3) (F 9) (F 12) (F 13) (F 15) (F 86) (F 149) h:=cCond (x:= .tmp 149) (by kernel_rfl) (q20_70_eq C lf n r K4 K3 K2 KE) (q20_185_eq C lf n (fun F h=>r (F 8) h) K4 K3 K2 KE)
noncomputable def q20_190(C:YC)(lf:Nat)(n:K10)(x0 x1 x2 x3 x9 x12 x13 x15 x86:O)(h:HW):Rs:=
 ob x86 fun a188=>
 ob (bin Try.prog .eql 3 a188 (.int .i64 9)) fun y189=>
 n x0 x1 x2 x3 x9 x12 x13 x15 x86 (some y189) h
theorem q20_190_eq(C:YC)(lf:Nat)(n:K10)(KR:KF)(K4:KF)(K3:KF)(K2:KF)(KE:KX):∀F h,evX fx20 C lf [1,1,1,1,1,0,0,0,1,0,1,1,1,1,1,1,0,1,1,0] F h (fun F h=>n (F 0) (F 1) (F 2) (F 3) (F 9) (F 12) (F 13) (F 15) (F 86) (F 149) h) KR (bk 4 K4 (bk 3 K3 (bk 2 K2 KE)))=q20_190 C lf n (F 0) (F 1) (F 2) (F 3) (F 9) (F 12) (F 13) (F 15) (F 86) h:=by
 intro F h;kernel_rfl
noncomputable def q20_191(C:YC)(lf:Nat)(n:K6)(r:K1)(x0 x1 x2 x3 x9 x12 x13 x15 x86:O)(h:HW):Rs:=
 q20_190 C lf (fun x0 x1 x2 x3 x9 x12 x13 x15 x86 x149 h=>q20_187 C lf n r x0 x1 x2 x3 x9 x12 x13 x15 x86 x149 h) x0 x1 x2 x3 x9 x12 x13 x15 x86 h
theorem q20_191_eq(C:YC)(lf:Nat)(n:K6)(r:K1)(K4:KF)(K3:KF)(K2:KF)(KE:KX):∀F h,evX fx20 C lf [1,1,1,1,1,0,0,0,1,0,1,1,1,1,1,1,0,1,1] F h (fun F h=>n (F 0) (F 1) (F 2) (F 3) (F 9) (F 12) h) (fun F h=>r (F 8) h) (bk 4 K4 (bk 3 K3 (bk 2 K2 KE)))=q20_191 C lf n r (F 0) (F 1) (F 2) (F 3) (F 9) (F 12) (F 13) (F 15) (F 86) h:=cSeq (a:=subX fx20 [1,1,1,1,1,0,0,0,1,0,1,1,1,1,1,1,0,1,1,0]) (b:=subX fx20 [1,1,1,1,1,0,0,0,1,0,1,1,1,1,1,1,0,1,1,1]) (by kernel_rfl) (B:=(fun F h=>q20_187 C lf n r (F 0) (F 1) (F 2) (F 3) (F 9) (F 12) (F 13) (F 15) (F 86) (F 149) h)) (q20_187_eq C lf n r K4 K3 K2 KE) (q20_190_eq C lf (fun x0 x1 x2 x3 x9 x12 x13 x15 x86 x149 h=>q20_187 C lf n r x0 x1 x2 x3 x9 x12 x13 x15 x86 x149 h) (fun F h=>r (F 8) h) K4 K3 K2 KE)
noncomputable def q20_193(C:YC)(lf:Nat)(n:K6)(r:K1)(x0 x1 x2 x3 x9 x12 x13 x15 x86 x116:O)(h:HW):Rs:=
 ob x116 fun a192=>
 yIf a192
 (q20_49 C lf n x0 x1 x2 x3 x9 x12 x13 x15 h)
 (q20_191 C lf n r x0 x1 x2 x3 x9 x12 x13 x15 x86 h)
theorem q20_193_eq(C:YC)(lf:Nat)(n:K6)(r:K1)(K4:KF)(K3:KF)(K2:KF)(KE:KX):∀F h,evX fx20 C lf [1,1,1,1,1,0,0,0,1,0,1,1,1,1,1,1,0,1] F h (fun F h=>n (F 0) (F 1) (F 2) (F 3) (F 9) (F 12) h) (fun F h=>r (F 8) h) (bk 4 K4 (bk 3 K3 (bk 2 K2 KE)))=q20_193 C lf n r (F 0) (F 1) (F 2) (F 3) (F 9) (F 12) (F 13) (F 15) (F 86) (F 116) h:=cCond (x:= .tmp 116) (by kernel_rfl) (q20_49_eq C lf n (fun F h=>r (F 8) h) K4 K3 K2 KE) (q20_191_eq C lf n r K4 K3 K2 KE)
noncomputable def q20_196(C:YC)(lf:Nat)(n:K10)(x0 x1 x2 x3 x9 x12 x13 x15 x86:O)(h:HW):Rs:=
 ob x86 fun a194=>
 ob (bin Try.prog .eql 3 a194 (.int .i64 0)) fun y195=>
 n x0 x1 x2 x3 x9 x12 x13 x15 x86 (some y195) h
theorem q20_196_eq(C:YC)(lf:Nat)(n:K10)(KR:KF)(K4:KF)(K3:KF)(K2:KF)(KE:KX):∀F h,evX fx20 C lf [1,1,1,1,1,0,0,0,1,0,1,1,1,1,1,1,0,0] F h (fun F h=>n (F 0) (F 1) (F 2) (F 3) (F 9) (F 12) (F 13) (F 15) (F 86) (F 116) h) KR (bk 4 K4 (bk 3 K3 (bk 2 K2 KE)))=q20_196 C lf n (F 0) (F 1) (F 2) (F 3) (F 9) (F 12) (F 13) (F 15) (F 86) h:=by
 intro F h;kernel_rfl
noncomputable def q20_197(C:YC)(lf:Nat)(n:K6)(r:K1)(x0 x1 x2 x3 x9 x12 x13 x15 x86:O)(h:HW):Rs:=
 q20_196 C lf (fun x0 x1 x2 x3 x9 x12 x13 x15 x86 x116 h=>q20_193 C lf n r x0 x1 x2 x3 x9 x12 x13 x15 x86 x116 h) x0 x1 x2 x3 x9 x12 x13 x15 x86 h
theorem q20_197_eq(C:YC)(lf:Nat)(n:K6)(r:K1)(K4:KF)(K3:KF)(K2:KF)(KE:KX):∀F h,evX fx20 C lf [1,1,1,1,1,0,0,0,1,0,1,1,1,1,1,1,0] F h (fun F h=>n (F 0) (F 1) (F 2) (F 3) (F 9) (F 12) h) (fun F h=>r (F 8) h) (bk 4 K4 (bk 3 K3 (bk 2 K2 KE)))=q20_197 C lf n r (F 0) (F 1) (F 2) (F 3) (F 9) (F 12) (F 13) (F 15) (F 86) h:=cSeq (a:=subX fx20 [1,1,1,1,1,0,0,0,1,0,1,1,1,1,1,1,0,0]) (b:=subX fx20 [1,1,1,1,1,0,0,0,1,0,1,1,1,1,1,1,0,1]) (by kernel_rfl) (B:=(fun F h=>q20_193 C lf n r (F 0) (F 1) (F 2) (F 3) (F 9) (F 12) (F 13) (F 15) (F 86) (F 116) h)) (q20_193_eq C lf n r K4 K3 K2 KE) (q20_196_eq C lf (fun x0 x1 x2 x3 x9 x12 x13 x15 x86 x116 h=>q20_193 C lf n r x0 x1 x2 x3 x9 x12 x13 x15 x86 x116 h) (fun F h=>r (F 8) h) K4 K3 K2 KE)
noncomputable def q20_201(C:YC)(lf:Nat)(n:K9)(x0 x1 x2 x3 x9 x12 x13 x15:O)(h:HW):Rs:=
 ob x15 fun a198=>
 ob (fa 0 a198) fun y199=>
 ob (ld1 y199 h) fun y200=>
 n x0 x1 x2 x3 x9 x12 x13 x15 (some y200) h
theorem q20_201_eq(C:YC)(lf:Nat)(n:K9)(KR:KF)(K3:KF)(K2:KF)(KE:KX):∀F h,evX fx20 C lf [1,1,1,1,1,0,0,0,1,0,1,1,1,1,1,0] F h (fun F h=>n (F 0) (F 1) (F 2) (F 3) (F 9) (F 12) (F 13) (F 15) (F 86) h) KR (bk 3 K3 (bk 2 K2 KE))=q20_201 C lf n (F 0) (F 1) (F 2) (F 3) (F 9) (F 12) (F 13) (F 15) h:=by
 intro F h;kernel_rfl
noncomputable def q20_202(C:YC)(lf:Nat)(n:K6)(r:K1)(x0 x1 x2 x3 x9 x12 x13 x15:O)(h:HW):Rs:=
 q20_201 C lf (fun x0 x1 x2 x3 x9 x12 x13 x15 x86 h=>q20_197 C lf n r x0 x1 x2 x3 x9 x12 x13 x15 x86 h) x0 x1 x2 x3 x9 x12 x13 x15 h
theorem q20_202_eq(C:YC)(lf:Nat)(n:K6)(r:K1)(K3:KF)(K2:KF)(KE:KX):∀F h,evX fx20 C lf [1,1,1,1,1,0,0,0,1,0,1,1,1,1,1] F h (fun F h=>n (F 0) (F 1) (F 2) (F 3) (F 9) (F 12) h) (fun F h=>r (F 8) h) (bk 3 K3 (bk 2 K2 KE))=q20_202 C lf n r (F 0) (F 1) (F 2) (F 3) (F 9) (F 12) (F 13) (F 15) h:=cSeq (a:=subX fx20 [1,1,1,1,1,0,0,0,1,0,1,1,1,1,1,0]) (b:=subX fx20 [1,1,1,1,1,0,0,0,1,0,1,1,1,1,1,1]) (by kernel_rfl) (B:=(fun F h=>q20_197 C lf n r (F 0) (F 1) (F 2) (F 3) (F 9) (F 12) (F 13) (F 15) (F 86) h)) (cBlock (id:=4) (a:=subX fx20 [1,1,1,1,1,0,0,0,1,0,1,1,1,1,1,1,0]) (by kernel_rfl) (q20_197_eq C lf n r (fun F h=>n (F 0) (F 1) (F 2) (F 3) (F 9) (F 12) h) K3 K2 KE)) (q20_201_eq C lf (fun x0 x1 x2 x3 x9 x12 x13 x15 x86 h=>q20_197 C lf n r x0 x1 x2 x3 x9 x12 x13 x15 x86 h) (fun F h=>r (F 8) h) K3 K2 KE)
noncomputable def q20_215(C:YC)(lf:Nat)(n:K8)(x0 x1 x2 x3 x9 x12 x13:O)(h:HW):Rs:=
 ob x0 fun a203=>
 ob (semNil a203) fun y204=>
 ob (fa 0 y204) fun y205=>
 ob x13 fun a206=>
 ob (fa 0 a206) fun y207=>
 ob (fa 0 y207) fun y208=>
 ob (ld1 y205 h) fun y209=>
 ob (ld1 y208 h) fun y210=>
 ob (ixS 4 y209 y210) fun y211=>
 ob (ldN 4 y211 h) fun y212=>
 b2 (yAl Try.prog 71 h) fun y213 h213=>
 ck (chkH [(8,adrO (some y211)),(6,adrO (some y208)),(3,adrO (some y205))] h h213 [8,6,3]) <|
 ob (st 4 y213 y212 h213) fun h214=>
 n x0 x1 x2 x3 x9 x12 x13 (some y213) h214
theorem q20_215_eq(C:YC)(lf:Nat)(n:K8)(KR:KF)(K3:KF)(K2:KF)(KE:KX):∀F h,evX fx20 C lf [1,1,1,1,1,0,0,0,1,0,1,1,1,1,0] F h (fun F h=>n (F 0) (F 1) (F 2) (F 3) (F 9) (F 12) (F 13) (F 15) h) KR (bk 3 K3 (bk 2 K2 KE))=q20_215 C lf n (F 0) (F 1) (F 2) (F 3) (F 9) (F 12) (F 13) h:=by
 intro F h;kernel_rfl
noncomputable def q20_216(C:YC)(lf:Nat)(n:K6)(r:K1)(x0 x1 x2 x3 x9 x12 x13:O)(h:HW):Rs:=
 q20_215 C lf (fun x0 x1 x2 x3 x9 x12 x13 x15 h=>q20_202 C lf n r x0 x1 x2 x3 x9 x12 x13 x15 h) x0 x1 x2 x3 x9 x12 x13 h
theorem q20_216_eq(C:YC)(lf:Nat)(n:K6)(r:K1)(K3:KF)(K2:KF)(KE:KX):∀F h,evX fx20 C lf [1,1,1,1,1,0,0,0,1,0,1,1,1,1] F h (fun F h=>n (F 0) (F 1) (F 2) (F 3) (F 9) (F 12) h) (fun F h=>r (F 8) h) (bk 3 K3 (bk 2 K2 KE))=q20_216 C lf n r (F 0) (F 1) (F 2) (F 3) (F 9) (F 12) (F 13) h:=cSeq (a:=subX fx20 [1,1,1,1,1,0,0,0,1,0,1,1,1,1,0]) (b:=subX fx20 [1,1,1,1,1,0,0,0,1,0,1,1,1,1,1]) (by kernel_rfl) (B:=(fun F h=>q20_202 C lf n r (F 0) (F 1) (F 2) (F 3) (F 9) (F 12) (F 13) (F 15) h)) (q20_202_eq C lf n r K3 K2 KE) (q20_215_eq C lf (fun x0 x1 x2 x3 x9 x12 x13 x15 h=>q20_202 C lf n r x0 x1 x2 x3 x9 x12 x13 x15 h) (fun F h=>r (F 8) h) K3 K2 KE)
noncomputable def q20_230(C:YC)(lf:Nat)(n:K7)(e3:K6)(x0 x1 x2 x3 x9 x12 x13 x14:O)(h:HW):Rs:=
 ob x9 fun a217=>
 ob x14 fun a218=>
 ob (ldN 3 a218 h) fun y219=>
 ob (ylk Try.prog 81 false a217 y219 h) fun y220=>
 ob (bin Try.prog .add 3 y220 (.int .i64 1)) fun y221=>
 b2 (yet Try.prog 81 a217 y219 h) fun y222 h222=>
 ob (ext 1 y222) fun y223=>
 ob (yes a217 y223 y221 h222) fun h224=>
 ob x9 fun a225=>
 ob x14 fun a226=>
 ob (ldN 3 a226 h224) fun y227=>
 ob (ylk Try.prog 81 false a225 y227 h224) fun y228=>
 ob (bin Try.prog .gtr 3 y228 (.int .i64 1)) fun y229=>
 yIf y229
 (e3 x0 x1 x2 x3 x9 x12 h224)
 (n x0 x1 x2 x3 x9 x12 x13 h224)
theorem q20_230_eq(C:YC)(lf:Nat)(n:K7)(e3:K6)(KR:KF)(K2:KF)(KE:KX):∀F h,evX fx20 C lf [1,1,1,1,1,0,0,0,1,0,1,1,1,0] F h (fun F h=>n (F 0) (F 1) (F 2) (F 3) (F 9) (F 12) (F 13) h) KR (bk 3 (fun F h=>e3 (F 0) (F 1) (F 2) (F 3) (F 9) (F 12) h) (bk 2 K2 KE))=q20_230 C lf n e3 (F 0) (F 1) (F 2) (F 3) (F 9) (F 12) (F 13) (F 14) h:=by
 intro F h;kernel_rfl
noncomputable def q20_231(C:YC)(lf:Nat)(n:K6)(r:K1)(e3:K6)(x0 x1 x2 x3 x9 x12 x13 x14:O)(h:HW):Rs:=
 q20_230 C lf (fun x0 x1 x2 x3 x9 x12 x13 h=>q20_216 C lf n r x0 x1 x2 x3 x9 x12 x13 h) e3 x0 x1 x2 x3 x9 x12 x13 x14 h
theorem q20_231_eq(C:YC)(lf:Nat)(n:K6)(r:K1)(e3:K6)(K2:KF)(KE:KX):∀F h,evX fx20 C lf [1,1,1,1,1,0,0,0,1,0,1,1,1] F h (fun F h=>n (F 0) (F 1) (F 2) (F 3) (F 9) (F 12) h) (fun F h=>r (F 8) h) (bk 3 (fun F h=>e3 (F 0) (F 1) (F 2) (F 3) (F 9) (F 12) h) (bk 2 K2 KE))=q20_231 C lf n r e3 (F 0) (F 1) (F 2) (F 3) (F 9) (F 12) (F 13) (F 14) h:=cSeq (a:=subX fx20 [1,1,1,1,1,0,0,0,1,0,1,1,1,0]) (b:=subX fx20 [1,1,1,1,1,0,0,0,1,0,1,1,1,1]) (by kernel_rfl) (B:=(fun F h=>q20_216 C lf n r (F 0) (F 1) (F 2) (F 3) (F 9) (F 12) (F 13) h)) (q20_216_eq C lf n r (fun F h=>e3 (F 0) (F 1) (F 2) (F 3) (F 9) (F 12) h) K2 KE) (q20_230_eq C lf (fun x0 x1 x2 x3 x9 x12 x13 h=>q20_216 C lf n r x0 x1 x2 x3 x9 x12 x13 h) e3 (fun F h=>r (F 8) h) K2 KE)
noncomputable def q20_246(C:YC)(lf:Nat)(n:K8)(x0 x1 x2 x3 x9 x12 x13:O)(h:HW):Rs:=
 ob x13 fun a232=>
 ob (fa 0 a232) fun y233=>
 ob (fa 0 y233) fun y234=>
 ob (ld1 y234 h) fun y235=>
 ob x13 fun a236=>
 ob (fa 2 a236) fun y237=>
 ob (ld1 y237 h) fun y238=>
 ob x13 fun a239=>
 ob (fa 0 a239) fun y240=>
 ob (fa 1 y240) fun y241=>
 ob (ld1 y241 h) fun y242=>
 ob (semBuild Try.prog 85 [0,1,2] [y235,y238,y242]) fun y243=>
 b2 (yAl Try.prog 85 h) fun y244 h244=>
 ob (st 3 y244 y243 h244) fun h245=>
 n x0 x1 x2 x3 x9 x12 x13 (some y244) h245
theorem q20_246_eq(C:YC)(lf:Nat)(n:K8)(KR:KF)(K3:KF)(K2:KF)(KE:KX):∀F h,evX fx20 C lf [1,1,1,1,1,0,0,0,1,0,1,1,0] F h (fun F h=>n (F 0) (F 1) (F 2) (F 3) (F 9) (F 12) (F 13) (F 14) h) KR (bk 3 K3 (bk 2 K2 KE))=q20_246 C lf n (F 0) (F 1) (F 2) (F 3) (F 9) (F 12) (F 13) h:=by
 intro F h;kernel_rfl
noncomputable def q20_247(C:YC)(lf:Nat)(n:K6)(r:K1)(e3:K6)(x0 x1 x2 x3 x9 x12 x13:O)(h:HW):Rs:=
 q20_246 C lf (fun x0 x1 x2 x3 x9 x12 x13 x14 h=>q20_231 C lf n r e3 x0 x1 x2 x3 x9 x12 x13 x14 h) x0 x1 x2 x3 x9 x12 x13 h
theorem q20_247_eq(C:YC)(lf:Nat)(n:K6)(r:K1)(e3:K6)(K2:KF)(KE:KX):∀F h,evX fx20 C lf [1,1,1,1,1,0,0,0,1,0,1,1] F h (fun F h=>n (F 0) (F 1) (F 2) (F 3) (F 9) (F 12) h) (fun F h=>r (F 8) h) (bk 3 (fun F h=>e3 (F 0) (F 1) (F 2) (F 3) (F 9) (F 12) h) (bk 2 K2 KE))=q20_247 C lf n r e3 (F 0) (F 1) (F 2) (F 3) (F 9) (F 12) (F 13) h:=cSeq (a:=subX fx20 [1,1,1,1,1,0,0,0,1,0,1,1,0]) (b:=subX fx20 [1,1,1,1,1,0,0,0,1,0,1,1,1]) (by kernel_rfl) (B:=(fun F h=>q20_231 C lf n r e3 (F 0) (F 1) (F 2) (F 3) (F 9) (F 12) (F 13) (F 14) h)) (q20_231_eq C lf n r e3 K2 KE) (q20_246_eq C lf (fun x0 x1 x2 x3 x9 x12 x13 x14 h=>q20_231 C lf n r e3 x0 x1 x2 x3 x9 x12 x13 x14 h) (fun F h=>r (F 8) h) (fun F h=>e3 (F 0) (F 1) (F 2) (F 3) (F 9) (F 12) h) K2 KE)
noncomputable def q20_253(C:YC)(lf:Nat)(n:K7)(x0 x1 x2 x3 x9 x12 x13:O)(h:HW):Rs:=
 ob x12 fun a248=>
 ob x12 fun a249=>
 ob (lenE Try.prog 84 a249) fun y250=>
 ob (bin Try.prog .sub 3 y250 (.int .i64 1)) fun y251=>
 ob (semSlice Try.prog 84 a248 none (some y251)) fun y252=>
 n x0 x1 x2 x3 x9 (some y252) x13 h
theorem q20_253_eq(C:YC)(lf:Nat)(n:K7)(KR:KF)(K3:KF)(K2:KF)(KE:KX):∀F h,evX fx20 C lf [1,1,1,1,1,0,0,0,1,0,1,0] F h (fun F h=>n (F 0) (F 1) (F 2) (F 3) (F 9) (F 12) (F 13) h) KR (bk 3 K3 (bk 2 K2 KE))=q20_253 C lf n (F 0) (F 1) (F 2) (F 3) (F 9) (F 12) (F 13) h:=by
 intro F h;kernel_rfl
noncomputable def q20_254(C:YC)(lf:Nat)(n:K6)(r:K1)(e3:K6)(x0 x1 x2 x3 x9 x12 x13:O)(h:HW):Rs:=
 q20_253 C lf (fun x0 x1 x2 x3 x9 x12 x13 h=>q20_247 C lf n r e3 x0 x1 x2 x3 x9 x12 x13 h) x0 x1 x2 x3 x9 x12 x13 h
theorem q20_254_eq(C:YC)(lf:Nat)(n:K6)(r:K1)(e3:K6)(K2:KF)(KE:KX):∀F h,evX fx20 C lf [1,1,1,1,1,0,0,0,1,0,1] F h (fun F h=>n (F 0) (F 1) (F 2) (F 3) (F 9) (F 12) h) (fun F h=>r (F 8) h) (bk 3 (fun F h=>e3 (F 0) (F 1) (F 2) (F 3) (F 9) (F 12) h) (bk 2 K2 KE))=q20_254 C lf n r e3 (F 0) (F 1) (F 2) (F 3) (F 9) (F 12) (F 13) h:=cSeq (a:=subX fx20 [1,1,1,1,1,0,0,0,1,0,1,0]) (b:=subX fx20 [1,1,1,1,1,0,0,0,1,0,1,1]) (by kernel_rfl) (B:=(fun F h=>q20_247 C lf n r e3 (F 0) (F 1) (F 2) (F 3) (F 9) (F 12) (F 13) h)) (q20_247_eq C lf n r e3 K2 KE) (q20_253_eq C lf (fun x0 x1 x2 x3 x9 x12 x13 h=>q20_247 C lf n r e3 x0 x1 x2 x3 x9 x12 x13 h) (fun F h=>r (F 8) h) (fun F h=>e3 (F 0) (F 1) (F 2) (F 3) (F 9) (F 12) h) K2 KE)
noncomputable def q20_263(C:YC)(lf:Nat)(n:K7)(x0 x1 x2 x3 x9 x12:O)(h:HW):Rs:=
 ob x12 fun a255=>
 ob x12 fun a256=>
 ob (lenE Try.prog 84 a256) fun y257=>
 ob (bin Try.prog .sub 3 y257 (.int .i64 1)) fun y258=>
 ob (ixS 4 a255 y258) fun y259=>
 ob (ldN 4 y259 h) fun y260=>
 b2 (yAl Try.prog 83 h) fun y261 h261=>
 ob (st 4 y261 y260 h261) fun h262=>
 n x0 x1 x2 x3 x9 x12 (some y261) h262
theorem q20_263_eq(C:YC)(lf:Nat)(n:K7)(KR:KF)(K3:KF)(K2:KF)(KE:KX):∀F h,evX fx20 C lf [1,1,1,1,1,0,0,0,1,0,0] F h (fun F h=>n (F 0) (F 1) (F 2) (F 3) (F 9) (F 12) (F 13) h) KR (bk 3 K3 (bk 2 K2 KE))=q20_263 C lf n (F 0) (F 1) (F 2) (F 3) (F 9) (F 12) h:=by
 intro F h;kernel_rfl
noncomputable def q20_264(C:YC)(lf:Nat)(n:K6)(r:K1)(e3:K6)(x0 x1 x2 x3 x9 x12:O)(h:HW):Rs:=
 q20_263 C lf (fun x0 x1 x2 x3 x9 x12 x13 h=>q20_254 C lf n r e3 x0 x1 x2 x3 x9 x12 x13 h) x0 x1 x2 x3 x9 x12 h
theorem q20_264_eq(C:YC)(lf:Nat)(n:K6)(r:K1)(e3:K6)(K2:KF)(KE:KX):∀F h,evX fx20 C lf [1,1,1,1,1,0,0,0,1,0] F h (fun F h=>n (F 0) (F 1) (F 2) (F 3) (F 9) (F 12) h) (fun F h=>r (F 8) h) (bk 3 (fun F h=>e3 (F 0) (F 1) (F 2) (F 3) (F 9) (F 12) h) (bk 2 K2 KE))=q20_264 C lf n r e3 (F 0) (F 1) (F 2) (F 3) (F 9) (F 12) h:=cSeq (a:=subX fx20 [1,1,1,1,1,0,0,0,1,0,0]) (b:=subX fx20 [1,1,1,1,1,0,0,0,1,0,1]) (by kernel_rfl) (B:=(fun F h=>q20_254 C lf n r e3 (F 0) (F 1) (F 2) (F 3) (F 9) (F 12) (F 13) h)) (q20_254_eq C lf n r e3 K2 KE) (q20_263_eq C lf (fun x0 x1 x2 x3 x9 x12 x13 h=>q20_254 C lf n r e3 x0 x1 x2 x3 x9 x12 x13 h) (fun F h=>r (F 8) h) (fun F h=>e3 (F 0) (F 1) (F 2) (F 3) (F 9) (F 12) h) K2 KE)
noncomputable def q20_268(C:YC)(lf:Nat)(n:K6)(e2:K0)(x0 x1 x2 x3 x9 x12:O)(h:HW):Rs:=
 ob x12 fun a265=>
 ob (lenE Try.prog 84 a265) fun y266=>
 ob (bin Try.prog .gtr 3 y266 (.int .i64 0)) fun y267=>
 yIf y267
 (n x0 x1 x2 x3 x9 x12 h)
 (e2 h)
theorem q20_268_eq(C:YC)(lf:Nat)(n:K6)(e2:K0)(KR:KF)(KE:KX):∀F h,evX fx20 C lf [1,1,1,1,1,0,0,0,0] F h (fun F h=>n (F 0) (F 1) (F 2) (F 3) (F 9) (F 12) h) KR (bk 2 (fun F h=>e2 h) KE)=q20_268 C lf n e2 (F 0) (F 1) (F 2) (F 3) (F 9) (F 12) h:=by
 intro F h;kernel_rfl
noncomputable def q20_269(C:YC)(lf:Nat)(n:K6)(r:K1)(e2:K0)(x0 x1 x2 x3 x9 x12:O)(h:HW):Rs:=
 q20_268 C lf (fun x0 x1 x2 x3 x9 x12 h=>q20_264 C lf n r n x0 x1 x2 x3 x9 x12 h) e2 x0 x1 x2 x3 x9 x12 h
theorem q20_269_eq(C:YC)(lf:Nat)(n:K6)(r:K1)(e2:K0)(KE:KX):∀F h,evX fx20 C lf [1,1,1,1,1,0,0,0] F h (fun F h=>n (F 0) (F 1) (F 2) (F 3) (F 9) (F 12) h) (fun F h=>r (F 8) h) (bk 2 (fun F h=>e2 h) KE)=q20_269 C lf n r e2 (F 0) (F 1) (F 2) (F 3) (F 9) (F 12) h:=cSeq (a:=subX fx20 [1,1,1,1,1,0,0,0,0]) (b:=subX fx20 [1,1,1,1,1,0,0,0,1]) (by kernel_rfl) (B:=(fun F h=>q20_264 C lf n r n (F 0) (F 1) (F 2) (F 3) (F 9) (F 12) h)) (cBlock (id:=3) (a:=subX fx20 [1,1,1,1,1,0,0,0,1,0]) (by kernel_rfl) (q20_264_eq C lf n r n (fun F h=>e2 h) KE)) (q20_268_eq C lf (fun x0 x1 x2 x3 x9 x12 h=>q20_264 C lf n r n x0 x1 x2 x3 x9 x12 h) e2 (fun F h=>r (F 8) h) KE)
noncomputable def l20_2(C:YC)(lf:Nat)(r:K1)(e2:K0)(k:O×O×O×O×O×O→HW→Rs)(s:O×O×O×O×O×O)(h:HW):Rs:=
 q20_269 C lf (fun x0 x1 x2 x3 x9 x12 h=>k (x0,x1,x2,x3,x9,x12) h) r e2 s.1 s.2.1 s.2.2.1 s.2.2.2.1 s.2.2.2.2.1 s.2.2.2.2.2 h
noncomputable def q20_270(C:YC)(lf:Nat)(r:K1)(x0 x1 x2 x3 x9 x12:O)(h:HW):Rs:=
 lp (l20_2 C lf r (fun h=>q20_1 C lf r h)) lf (x0,x1,x2,x3,x9,x12) h
theorem q20_270_eq(C:YC)(lf:Nat)(r:K1)(KN:KF)(KE:KX):∀F h,evX fx20 C lf [1,1,1,1,1] F h KN (fun F h=>r (F 8) h) KE=q20_270 C lf r (F 0) (F 1) (F 2) (F 3) (F 9) (F 12) h:=cSeq (a:=subX fx20 [1,1,1,1,1,0]) (b:=subX fx20 [1,1,1,1,1,1]) (by kernel_rfl) (B:=(fun F h=>q20_1 C lf r h)) (q20_1_eq C lf r KN KE) (cBlock (id:=2) (a:=subX fx20 [1,1,1,1,1,0,0]) (by kernel_rfl) (cLoop (a:=subX fx20 [1,1,1,1,1,0,0,0]) (g:=fun F=>(F 0,F 1,F 2,F 3,F 9,F 12)) (body:=l20_2 C lf r (fun h=>q20_1 C lf r h)) (by kernel_rfl) (fun k=>(q20_269_eq C lf (fun x0 x1 x2 x3 x9 x12 h=>k (x0,x1,x2,x3,x9,x12) h) r (fun h=>q20_1 C lf r h) KE))))
noncomputable def q20_276(C:YC)(lf:Nat)(n:K6)(x0 x1 x2 x3 x9 x10:O)(h:HW):Rs:=
 ob (semBuild Try.prog 66 [0,1] [(.int .i64 0),(.int .i64 0)]) fun y271=>
 ob x2 fun a272=>
 ob x10 fun a273=>
 ob (semBuild Try.prog 83 [0,1,2] [y271,a272,a273]) fun y274=>
 b2 (ybs Try.prog 84 1 [0] [y274] h) fun y275 h275=>
 n x0 x1 x2 x3 x9 (some y275) h275
theorem q20_276_eq(C:YC)(lf:Nat)(n:K6)(KR:KF)(KE:KX):∀F h,evX fx20 C lf [1,1,1,1,0] F h (fun F h=>n (F 0) (F 1) (F 2) (F 3) (F 9) (F 12) h) KR KE=q20_276 C lf n (F 0) (F 1) (F 2) (F 3) (F 9) (F 10) h:=by
 intro F h;kernel_rfl
noncomputable def q20_277(C:YC)(lf:Nat)(r:K1)(x0 x1 x2 x3 x9 x10:O)(h:HW):Rs:=
 q20_276 C lf (fun x0 x1 x2 x3 x9 x12 h=>q20_270 C lf r x0 x1 x2 x3 x9 x12 h) x0 x1 x2 x3 x9 x10 h
theorem q20_277_eq(C:YC)(lf:Nat)(r:K1)(KN:KF)(KE:KX):∀F h,evX fx20 C lf [1,1,1,1] F h KN (fun F h=>r (F 8) h) KE=q20_277 C lf r (F 0) (F 1) (F 2) (F 3) (F 9) (F 10) h:=cSeq (a:=subX fx20 [1,1,1,1,0]) (b:=subX fx20 [1,1,1,1,1]) (by kernel_rfl) (B:=(fun F h=>q20_270 C lf r (F 0) (F 1) (F 2) (F 3) (F 9) (F 12) h)) (q20_270_eq C lf r KN KE) (q20_276_eq C lf (fun x0 x1 x2 x3 x9 x12 h=>q20_270 C lf r x0 x1 x2 x3 x9 x12 h) (fun F h=>r (F 8) h) KE)
noncomputable def q20_288(C:YC)(lf:Nat)(n:K8)(e0:K6)(x0 x1 x2 x3 x9 x10 x30 x31:O)(h:HW):Rs:=
 ob x31 fun a279=>
 ob x30 fun a280=>
 ob (bin Try.prog .lss 3 a279 a280) fun y281=>
 yIf y281
 (ob x31 fun a282=>
 ob x10 fun a283=>
 ob (ixS 1 a283 a282) fun y284=>
 ob (st 1 y284 (.int .i64 (-1)) h) fun h285=>
 ob x31 fun a286=>
 ob (bin Try.prog .add 3 a286 (.int .i64 1)) fun y287=>
 n x0 x1 x2 x3 x9 x10 x30 (some y287) h285)
 (e0 x0 x1 x2 x3 x9 x10 h)
theorem q20_288_eq(C:YC)(lf:Nat)(n:K8)(e0:K6)(KR:KF)(KE:KX):∀F h,evX fx20 C lf [1,1,1,0,1,0,0] F h (fun F h=>n (F 0) (F 1) (F 2) (F 3) (F 9) (F 10) (F 30) (F 31) h) KR (bk 0 (fun F h=>e0 (F 0) (F 1) (F 2) (F 3) (F 9) (F 10) h) KE)=q20_288 C lf n e0 (F 0) (F 1) (F 2) (F 3) (F 9) (F 10) (F 30) (F 31) h:=by
 intro F h;kernel_rfl
noncomputable def l20_278(C:YC)(lf:Nat)(e0:K6)(k:O×O×O×O×O×O×O×O→HW→Rs)(s:O×O×O×O×O×O×O×O)(h:HW):Rs:=
 q20_288 C lf (fun x0 x1 x2 x3 x9 x10 x30 x31 h=>k (x0,x1,x2,x3,x9,x10,x30,x31) h) e0 s.1 s.2.1 s.2.2.1 s.2.2.2.1 s.2.2.2.2.1 s.2.2.2.2.2.1 s.2.2.2.2.2.2.1 s.2.2.2.2.2.2.2 h
noncomputable def q20_291(C:YC)(lf:Nat)(n:K8)(x0 x1 x2 x3 x9 x10:O)(h:HW):Rs:=
 ob x10 fun a289=>
 ob (lenE Try.prog 62 a289) fun y290=>
 n x0 x1 x2 x3 x9 x10 (some y290) (some (.int .i64 0)) h
theorem q20_291_eq(C:YC)(lf:Nat)(n:K8)(KR:KF)(KE:KX):∀F h,evX fx20 C lf [1,1,1,0,0] F h (fun F h=>n (F 0) (F 1) (F 2) (F 3) (F 9) (F 10) (F 30) (F 31) h) KR KE=q20_291 C lf n (F 0) (F 1) (F 2) (F 3) (F 9) (F 10) h:=by
 intro F h;kernel_rfl
noncomputable def q20_292(C:YC)(lf:Nat)(n:K6)(x0 x1 x2 x3 x9 x10:O)(h:HW):Rs:=
 q20_291 C lf (fun x0 x1 x2 x3 x9 x10 x30 x31 h=>lp (l20_278 C lf n) lf (x0,x1,x2,x3,x9,x10,x30,x31) h) x0 x1 x2 x3 x9 x10 h
theorem q20_292_eq(C:YC)(lf:Nat)(n:K6)(KR:KF)(KE:KX):∀F h,evX fx20 C lf [1,1,1,0] F h (fun F h=>n (F 0) (F 1) (F 2) (F 3) (F 9) (F 10) h) KR KE=q20_292 C lf n (F 0) (F 1) (F 2) (F 3) (F 9) (F 10) h:=cSeq (a:=subX fx20 [1,1,1,0,0]) (b:=subX fx20 [1,1,1,0,1]) (by kernel_rfl) (B:=(fun F h=>lp (l20_278 C lf n) lf ((F 0),(F 1),(F 2),(F 3),(F 9),(F 10),(F 30),(F 31)) h)) (cBlock (id:=0) (a:=subX fx20 [1,1,1,0,1,0]) (by kernel_rfl) (cLoop (a:=subX fx20 [1,1,1,0,1,0,0]) (g:=fun F=>(F 0,F 1,F 2,F 3,F 9,F 10,F 30,F 31)) (body:=l20_278 C lf n) (by kernel_rfl) (fun k=>(q20_288_eq C lf (fun x0 x1 x2 x3 x9 x10 x30 x31 h=>k (x0,x1,x2,x3,x9,x10,x30,x31) h) n KR KE)))) (q20_291_eq C lf (fun x0 x1 x2 x3 x9 x10 x30 x31 h=>lp (l20_278 C lf n) lf (x0,x1,x2,x3,x9,x10,x30,x31) h) KR KE)
noncomputable def q20_293(C:YC)(lf:Nat)(r:K1)(x0 x1 x2 x3 x9 x10:O)(h:HW):Rs:=
 q20_292 C lf (fun x0 x1 x2 x3 x9 x10 h=>q20_277 C lf r x0 x1 x2 x3 x9 x10 h) x0 x1 x2 x3 x9 x10 h
theorem q20_293_eq(C:YC)(lf:Nat)(r:K1)(KN:KF)(KE:KX):∀F h,evX fx20 C lf [1,1,1] F h KN (fun F h=>r (F 8) h) KE=q20_293 C lf r (F 0) (F 1) (F 2) (F 3) (F 9) (F 10) h:=cSeq (a:=subX fx20 [1,1,1,0]) (b:=subX fx20 [1,1,1,1]) (by kernel_rfl) (B:=(fun F h=>q20_277 C lf r (F 0) (F 1) (F 2) (F 3) (F 9) (F 10) h)) (q20_277_eq C lf r KN KE) (q20_292_eq C lf (fun x0 x1 x2 x3 x9 x10 h=>q20_277 C lf r x0 x1 x2 x3 x9 x10 h) (fun F h=>r (F 8) h) KE)
noncomputable def q20_301(C:YC)(lf:Nat)(n:K6)(x0 x1 x2 x3 x9:O)(h:HW):Rs:=
 ob x0 fun a294=>
 ob (semNil a294) fun y295=>
 ob (fa 1 y295) fun y296=>
 ob (ld1 y296 h) fun y297=>
 ob (bin Try.prog .mul 3 (.int .i64 2) y297) fun y298=>
 ob (bin Try.prog .add 3 y298 (.int .i64 2)) fun y299=>
 b2 (ymk Try.prog 62 y299 y299 h) fun y300 h300=>
 n x0 x1 x2 x3 x9 (some y300) h300
theorem q20_301_eq(C:YC)(lf:Nat)(n:K6)(KR:KF)(KE:KX):∀F h,evX fx20 C lf [1,1,0] F h (fun F h=>n (F 0) (F 1) (F 2) (F 3) (F 9) (F 10) h) KR KE=q20_301 C lf n (F 0) (F 1) (F 2) (F 3) (F 9) h:=by
 intro F h;kernel_rfl
noncomputable def q20_302(C:YC)(lf:Nat)(r:K1)(x0 x1 x2 x3 x9:O)(h:HW):Rs:=
 q20_301 C lf (fun x0 x1 x2 x3 x9 x10 h=>q20_293 C lf r x0 x1 x2 x3 x9 x10 h) x0 x1 x2 x3 x9 h
theorem q20_302_eq(C:YC)(lf:Nat)(r:K1)(KN:KF)(KE:KX):∀F h,evX fx20 C lf [1,1] F h KN (fun F h=>r (F 8) h) KE=q20_302 C lf r (F 0) (F 1) (F 2) (F 3) (F 9) h:=cSeq (a:=subX fx20 [1,1,0]) (b:=subX fx20 [1,1,1]) (by kernel_rfl) (B:=(fun F h=>q20_293 C lf r (F 0) (F 1) (F 2) (F 3) (F 9) (F 10) h)) (q20_293_eq C lf r KN KE) (q20_301_eq C lf (fun x0 x1 x2 x3 x9 x10 h=>q20_293 C lf r x0 x1 x2 x3 x9 x10 h) (fun F h=>r (F 8) h) KE)
noncomputable def q20_304(C:YC)(lf:Nat)(n:K5)(x0 x1 x2 x3:O)(h:HW):Rs:=
 b2 (ymm h) fun y303 h303=>
 n x0 x1 x2 x3 (some y303) h303
theorem q20_304_eq(C:YC)(lf:Nat)(n:K5)(KR:KF)(KE:KX):∀F h,evX fx20 C lf [1,0] F h (fun F h=>n (F 0) (F 1) (F 2) (F 3) (F 9) h) KR KE=q20_304 C lf n (F 0) (F 1) (F 2) (F 3) h:=by
 intro F h;kernel_rfl
noncomputable def q20_305(C:YC)(lf:Nat)(r:K1)(x0 x1 x2 x3:O)(h:HW):Rs:=
 q20_304 C lf (fun x0 x1 x2 x3 x9 h=>q20_302 C lf r x0 x1 x2 x3 x9 h) x0 x1 x2 x3 h
theorem q20_305_eq(C:YC)(lf:Nat)(r:K1)(KN:KF)(KE:KX):∀F h,evX fx20 C lf [1] F h KN (fun F h=>r (F 8) h) KE=q20_305 C lf r (F 0) (F 1) (F 2) (F 3) h:=cSeq (a:=subX fx20 [1,0]) (b:=subX fx20 [1,1]) (by kernel_rfl) (B:=(fun F h=>q20_302 C lf r (F 0) (F 1) (F 2) (F 3) (F 9) h)) (q20_302_eq C lf r KN KE) (q20_304_eq C lf (fun x0 x1 x2 x3 x9 h=>q20_302 C lf r x0 x1 x2 x3 x9 h) (fun F h=>r (F 8) h) KE)
noncomputable def q20_306(C:YC)(lf:Nat)(n:K4)(x0 x1 x2 x3:O)(h:HW):Rs:=
 n x0 x1 x2 x3 h
theorem q20_306_eq(C:YC)(lf:Nat)(n:K4)(KR:KF)(KE:KX):∀F h,evX fx20 C lf [0] F h (fun F h=>n (F 0) (F 1) (F 2) (F 3) h) KR KE=q20_306 C lf n (F 0) (F 1) (F 2) (F 3) h:=by
 intro F h;kernel_rfl
noncomputable def q20_307(C:YC)(lf:Nat)(r:K1)(x0 x1 x2 x3:O)(h:HW):Rs:=
 q20_306 C lf (fun x0 x1 x2 x3 h=>q20_305 C lf r x0 x1 x2 x3 h) x0 x1 x2 x3 h
theorem q20_307_eq(C:YC)(lf:Nat)(r:K1)(KN:KF)(KE:KX):∀F h,evX fx20 C lf [] F h KN (fun F h=>r (F 8) h) KE=q20_307 C lf r (F 0) (F 1) (F 2) (F 3) h:=cSeq (a:=subX fx20 [0]) (b:=subX fx20 [1]) (by kernel_rfl) (B:=(fun F h=>q20_305 C lf r (F 0) (F 1) (F 2) (F 3) h)) (q20_305_eq C lf r KN KE) (q20_306_eq C lf (fun x0 x1 x2 x3 h=>q20_305 C lf r x0 x1 x2 x3 h) (fun F h=>r (F 8) h) KE)
noncomputable def fs20(C:YC)(lf:Nat)(a0 a1 a2 a3:SV)(h:HW):Rs:=q20_307 C lf ff20 (some a0) (some a1) (some a2) (some a3) h
theorem fs20_eq(C:YC)(lf:Nat)(a0 a1 a2 a3:SV)(h:HW):yFn Try.prog fx20 C lf [a0,a1,a2,a3] h=fs20 C lf a0 a1 a2 a3 h:=fnX (K:=(fun F h=>ff20 (F 8) h)) (by kernel_rfl) (((q20_307_eq C lf ff20 (fun F h=>ff20 (F 8) h) (fun _ _ _=>none)) _ h).trans (by kernel_rfl))
noncomputable def fy20:YX Try.prog:=Y4 fx20 fs20 fs20_eq (by kernel_rfl)
noncomputable def fx22:XF Try.prog:=⟨22,Try.f22,fun _=> .text,Try.func22,by kernel_rfl,by kernel_rfl,by kernel_rfl,by kernel_rfl⟩
noncomputable def ff22(x10 x11:O)(h:HW):Rs:=
 ob x10 fun a0=>
 ob (ldN 4 a0 h) fun y1=>
 ob x11 fun a2=>
 some (.ret (.tup [y1,a2]),h)
noncomputable def q22_85(C:YC)(lf:Nat)(r:K2)(x1 x2 x3 x4:O)(h:HW):Rs:=
 ob x1 fun a3=>
 b2 (ybx 71 a3 h) fun y4 h4=>
 ob x2 fun a5=>
 b2 (ybx 66 a5 h4) fun y6 h6=>
 b2 (yAl Try.prog 72 h6) fun y7 h7=>
 ob (fa 0 y6) fun y8=>
 ob (ld1 y8 h7) fun y9=>
 ob (bin Try.prog .add 3 y9 (.int .i64 1)) fun y10=>
 ob (fa 1 y6) fun y11=>
 ob (ld1 y11 h7) fun y12=>
 ob (semBuild Try.prog 66 [0,1] [y10,y12]) fun y13=>
 b2 (yAl Try.prog 66 h7) fun y14 h14=>
 ob (st 2 y14 y13 h14) fun h15=>
 ob (fa 0 y4) fun y16=>
 ob (ld1 y16 h15) fun y17=>
 ob (bin Try.prog .eql 3 y17 (.int .i64 1)) fun y18=>
 yIf y18
 (ob (fa 2 y4) fun y19=>
 ob (ld1 y19 h15) fun y20=>
 ob (fa 1 y6) fun y21=>
 ob (ld1 y21 h15) fun y22=>
 ob (semBuild Try.prog 66 [0,1] [y20,y22]) fun y23=>
 ob (fa 3 y4) fun y24=>
 ob (ld1 y24 h15) fun y25=>
 ob (fa 1 y6) fun y26=>
 ob (ld1 y26 h15) fun y27=>
 ob (semBuild Try.prog 66 [0,1] [y25,y27]) fun y28=>
 ob (semBuild Try.prog 72 [0,1] [y23,y28]) fun y29=>
 ob (st 4 y7 y29 h15) fun h30=>
 r (some y7) (some (.int .i64 2)) h30)
 (ob (bin Try.prog .eql 3 y17 (.int .i64 2)) fun y31=>
 yIf y31
 (ob (fa 2 y4) fun y32=>
 ob (ld1 y32 h15) fun y33=>
 ob (fa 1 y6) fun y34=>
 ob (ld1 y34 h15) fun y35=>
 ob (semBuild Try.prog 66 [0,1] [y33,y35]) fun y36=>
 ob (semBuild Try.prog 72 [0] [y36]) fun y37=>
 ob (st 4 y7 y37 h15) fun h38=>
 r (some y7) (some (.int .i64 1)) h38)
 (ob (bin Try.prog .eql 3 y17 (.int .i64 5)) fun y39=>
 yIf y39
 (ob (fa 1 y6) fun y40=>
 ob (ld1 y40 h15) fun y41=>
 ob (fa 2 y4) fun y42=>
 ob (ld1 y42 h15) fun y43=>
 b2 (ybl Try.prog .min #[3,3] [y41,y43] h15) fun y44 h44=>
 ob (fa 1 y14) fun y45=>
 ob (st 1 y45 y44 h44) fun h46=>
 ob (ldN 2 y14 h46) fun y47=>
 ob (semBuild Try.prog 72 [0] [y47]) fun y48=>
 ob (st 4 y7 y48 h46) fun h49=>
 r (some y7) (some (.int .i64 1)) h49)
 (ob (bin Try.prog .eql 3 y17 (.int .i64 6)) fun y50=>
 yIf y50
 (ob (fa 1 y6) fun y51=>
 ob (ld1 y51 h15) fun y52=>
 ob (fa 2 y4) fun y53=>
 ob (ld1 y53 h15) fun y54=>
 ob (bin Try.prog .leq 3 y52 y54) fun y55=>
 yIf y55
 (ob (semBuild Try.prog 72 [] []) fun y56=>
 ob (st 4 y7 y56 h15) fun h57=>
 r (some y7) (some (.int .i64 0)) h57)
 (ob (fa 2 y4) fun y58=>
 ob (ld1 y58 h15) fun y59=>
 ob (fa 1 y14) fun y60=>
 ob (st 1 y60 y59 h15) fun h61=>
 ob (ldN 2 y14 h61) fun y62=>
 ob (semBuild Try.prog 72 [0] [y62]) fun y63=>
 ob (st 4 y7 y63 h61) fun h64=>
 r (some y7) (some (.int .i64 1)) h64))
 (ob (bin Try.prog .eql 3 y17 (.int .i64 7)) fun y65=>
 yIf y65
 (ob x3 fun a66=>
 ob (bin Try.prog .neq 3 a66 (.int .i64 0)) fun y67=>
 yIf y67
 (ob (semBuild Try.prog 72 [] []) fun y68=>
 ob (st 4 y7 y68 h15) fun h69=>
 r (some y7) (some (.int .i64 0)) h69)
 (ob (ldN 2 y14 h15) fun y70=>
 ob (semBuild Try.prog 72 [0] [y70]) fun y71=>
 ob (st 4 y7 y71 h15) fun h72=>
 r (some y7) (some (.int .i64 1)) h72))
 (ob (bin Try.prog .eql 3 y17 (.int .i64 8)) fun y73=>
 yIf y73
 (ob x3 fun a74=>
 ob x4 fun a75=>
 ob (bin Try.prog .neq 3 a74 a75) fun y76=>
 yIf y76
 (ob (semBuild Try.prog 72 [] []) fun y77=>
 ob (st 4 y7 y77 h15) fun h78=>
 r (some y7) (some (.int .i64 0)) h78)
 (ob (ldN 2 y14 h15) fun y79=>
 ob (semBuild Try.prog 72 [0] [y79]) fun y80=>
 ob (st 4 y7 y80 h15) fun h81=>
 r (some y7) (some (.int .i64 1)) h81))
 (ob (ldN 2 y14 h15) fun y82=>
 ob (semBuild Try.prog 72 [0] [y82]) fun y83=>
 ob (st 4 y7 y83 h15) fun h84=>
 r (some y7) (some (.int .i64 1)) h84))))))
theorem q22_85_eq(C:YC)(lf:Nat)(r:K2)(KN:KF)(KE:KX):∀F h,evX fx22 C lf [] F h KN (fun F h=>r (F 10) (F 11) h) KE=q22_85 C lf r (F 1) (F 2) (F 3) (F 4) h:=by
 intro F h;kernel_rfl
noncomputable def fs22(C:YC)(lf:Nat)(a0 a1 a2 a3 a4:SV)(h:HW):Rs:=q22_85 C lf ff22 (some a1) (some a2) (some a3) (some a4) h
theorem fs22_eq(C:YC)(lf:Nat)(a0 a1 a2 a3 a4:SV)(h:HW):yFn Try.prog fx22 C lf [a0,a1,a2,a3,a4] h=fs22 C lf a0 a1 a2 a3 a4 h:=fnX (K:=(fun F h=>ff22 (F 10) (F 11) h)) (by kernel_rfl) (((q22_85_eq C lf ff22 (fun F h=>ff22 (F 10) (F 11) h) (fun _ _ _=>none)) _ h).trans (by kernel_rfl))
noncomputable def fy22:YX Try.prog:=Y5 fx22 fs22 fs22_eq (by kernel_rfl)
noncomputable def fx23:XF Try.prog:=⟨23,Try.f23,fun r=>bif Nat.beq r 8 then .ord [1,2,3,0,4,5,6,7] [(5,[4])] else .text,Try.func23,by kernel_rfl,by kernel_rfl,by kernel_rfl,by kernel_rfl⟩
noncomputable def fx24:XF Try.prog:=⟨24,Try.f24,fun _=> .text,Try.func24,by kernel_rfl,by kernel_rfl,by kernel_rfl,by kernel_rfl⟩
noncomputable def ff24(h:HW):Rs:=
 some (.ret (.tup []),h)
noncomputable def q24_9(C:YC)(lf:Nat)(n:K0)(x3 x5 x18:O)(h:HW):Rs:=
 ob x18 fun a0=>
 ob x3 fun a1=>
 ob (ld1 a1 h) fun y2=>
 ob (semNil a0) fun y3=>
 ob (fa 0 y3) fun y4=>
 ob x5 fun a5=>
 ob (ld1 a5 h) fun y6=>
 ob (semBuild Try.prog 71 [0,1,2] [(.int .i64 0),y4,y6]) fun y7=>
 bcn (C (.fn 25) [y2,y7] h) fun y8 h8=>
 n h8
theorem q24_9_eq(C:YC)(lf:Nat)(n:K0)(KR:KF)(K0:KF)(KE:KX):∀F h,evX fx24 C lf [1,1,0,1,0] F h (fun F h=>n h) KR (bk 0 K0 KE)=q24_9 C lf n (F 3) (F 5) (F 18) h:=by
 intro F h;kernel_rfl
noncomputable def q24_17(C:YC)(lf:Nat)(n:K0)(x3 x28:O)(h:HW):Rs:=
 b2 (yAl Try.prog 99 h) fun y10 h10=>
 ob x28 fun a11=>
 ob (st 0 y10 a11 h10) fun h12=>
 ob x3 fun a13=>
 ob (ld1 a13 h12) fun y14=>
 ob (semBuild Try.prog 71 [0] [(.int .i64 7)]) fun y15=>
 bc (C (.fn 25) [y14,y15] h12) fun y16 h16=>
 n h16
theorem q24_17_eq(C:YC)(lf:Nat)(n:K0)(KR:KF)(K0:KF)(KE:KX):∀F h,evX fx24 C lf [1,1,0,1,1,1,0] F h (fun F h=>n h) KR (bk 0 K0 KE)=q24_17 C lf n (F 3) (F 28) h:=by
 intro F h;kernel_rfl
noncomputable def q24_25(C:YC)(lf:Nat)(n:K0)(x3 x34:O)(h:HW):Rs:=
 b2 (yAl Try.prog 100 h) fun y18 h18=>
 ob x34 fun a19=>
 ob (st 0 y18 a19 h18) fun h20=>
 ob x3 fun a21=>
 ob (ld1 a21 h20) fun y22=>
 ob (semBuild Try.prog 71 [0] [(.int .i64 8)]) fun y23=>
 bc (C (.fn 25) [y22,y23] h20) fun y24 h24=>
 n h24
theorem q24_25_eq(C:YC)(lf:Nat)(n:K0)(KR:KF)(K0:KF)(KE:KX):∀F h,evX fx24 C lf [1,1,0,1,1,1,1,1,0] F h (fun F h=>n h) KR (bk 0 K0 KE)=q24_25 C lf n (F 3) (F 34) h:=by
 intro F h;kernel_rfl
noncomputable def q24_52(C:YC)(lf:Nat)(n:K0)(x3 x5 x40:O)(h:HW):Rs:=
 ob x40 fun a26=>
 ob x3 fun a27=>
 ob (ld1 a27 h) fun y28=>
 ob (semNil a26) fun y29=>
 ob (fa 0 y29) fun y30=>
 ob (ld1 y30 h) fun y31=>
 ob (bin Try.prog .mul 3 (.int .i64 2) y31) fun y32=>
 ob (semBuild Try.prog 71 [0,2] [(.int .i64 3),y32]) fun y33=>
 bcn (C (.fn 25) [y28,y33] h) fun y34 h34=>
 ob x3 fun a35=>
 ob (ld1 a35 h34) fun y36=>
 ob (semNil a26) fun y37=>
 ob (fa 1 y37) fun y38=>
 ob (ld1 y38 h34) fun y39=>
 ob x5 fun a40=>
 ob (ld1 a40 h34) fun y41=>
 bcn (C (.fn 24) [y36,y39,y41] h34) fun y42 h42=>
 ob x3 fun a43=>
 ob (ld1 a43 h42) fun y44=>
 ob (semNil a26) fun y45=>
 ob (fa 0 y45) fun y46=>
 ob (ld1 y46 h42) fun y47=>
 ob (bin Try.prog .mul 3 (.int .i64 2) y47) fun y48=>
 ob (bin Try.prog .add 3 y48 (.int .i64 1)) fun y49=>
 ob (semBuild Try.prog 71 [0,2] [(.int .i64 3),y49]) fun y50=>
 bcn (C (.fn 25) [y44,y50] h42) fun y51 h51=>
 n h51
theorem q24_52_eq(C:YC)(lf:Nat)(n:K0)(KR:KF)(K0:KF)(KE:KX):∀F h,evX fx24 C lf [1,1,0,1,1,1,1,1,1,1,0] F h (fun F h=>n h) KR (bk 0 K0 KE)=q24_52 C lf n (F 3) (F 5) (F 40) h:=by
 intro F h;kernel_rfl
noncomputable def q24_68(C:YC)(lf:Nat)(n:K5)(e1:K0)(x3 x5 x68 x69 x70:O)(h:HW):Rs:=
 ob x70 fun a54=>
 ob x69 fun a55=>
 ob (bin Try.prog .lss 3 a54 a55) fun y56=>
 yIf y56
 (ob x68 fun a57=>
 ob x70 fun a58=>
 ob (ixS 1 a57 a58) fun y59=>
 ob (ld1 y59 h) fun y60=>
 ob x3 fun a61=>
 ob (ld1 a61 h) fun y62=>
 ob x5 fun a63=>
 ob (ld1 a63 h) fun y64=>
 bc (C (.fn 24) [y62,y60,y64] h) fun y65 h65=>
 ob x70 fun a66=>
 ob (bin Try.prog .add 3 a66 (.int .i64 1)) fun y67=>
 n x3 x5 x68 x69 (some y67) h65)
 (e1 h)
theorem q24_68_eq(C:YC)(lf:Nat)(n:K5)(e1:K0)(KR:KF)(K0:KF)(KE:KX):∀F h,evX fx24 C lf [1,1,0,1,1,1,1,1,1,1,1,1,0,1,1,0,0] F h (fun F h=>n (F 3) (F 5) (F 68) (F 69) (F 70) h) KR (bk 1 (fun F h=>e1 h) (bk 0 K0 KE))=q24_68 C lf n e1 (F 3) (F 5) (F 68) (F 69) (F 70) h:=by
 intro F h;kernel_rfl
noncomputable def l24_53(C:YC)(lf:Nat)(e1:K0)(k:O×O×O×O×O→HW→Rs)(s:O×O×O×O×O)(h:HW):Rs:=
 q24_68 C lf (fun x3 x5 x68 x69 x70 h=>k (x3,x5,x68,x69,x70) h) e1 s.1 s.2.1 s.2.2.1 s.2.2.2.1 s.2.2.2.2 h
noncomputable def q24_71(C:YC)(lf:Nat)(n:K5)(x3 x5 x10:O)(h:HW):Rs:=
 ob x10 fun a69=>
 ob (lenE Try.prog 105 a69) fun y70=>
 n x3 x5 (some a69) (some y70) (some (.int .i64 0)) h
theorem q24_71_eq(C:YC)(lf:Nat)(n:K5)(KR:KF)(K0:KF)(KE:KX):∀F h,evX fx24 C lf [1,1,0,1,1,1,1,1,1,1,1,1,0,1,0] F h (fun F h=>n (F 3) (F 5) (F 68) (F 69) (F 70) h) KR (bk 0 K0 KE)=q24_71 C lf n (F 3) (F 5) (F 10) h:=by
 intro F h;kernel_rfl
noncomputable def q24_72(C:YC)(lf:Nat)(n:K0)(x3 x5 x10:O)(h:HW):Rs:=
 q24_71 C lf (fun x3 x5 x68 x69 x70 h=>lp (l24_53 C lf n) lf (x3,x5,x68,x69,x70) h) x3 x5 x10 h
theorem q24_72_eq(C:YC)(lf:Nat)(n:K0)(KR:KF)(K0:KF)(KE:KX):∀F h,evX fx24 C lf [1,1,0,1,1,1,1,1,1,1,1,1,0,1] F h (fun F h=>n h) KR (bk 0 K0 KE)=q24_72 C lf n (F 3) (F 5) (F 10) h:=cSeq (a:=subX fx24 [1,1,0,1,1,1,1,1,1,1,1,1,0,1,0]) (b:=subX fx24 [1,1,0,1,1,1,1,1,1,1,1,1,0,1,1]) (by kernel_rfl) (B:=(fun F h=>lp (l24_53 C lf n) lf ((F 3),(F 5),(F 68),(F 69),(F 70)) h)) (cBlock (id:=1) (a:=subX fx24 [1,1,0,1,1,1,1,1,1,1,1,1,0,1,1,0]) (by kernel_rfl) (cLoop (a:=subX fx24 [1,1,0,1,1,1,1,1,1,1,1,1,0,1,1,0,0]) (g:=fun F=>(F 3,F 5,F 68,F 69,F 70)) (body:=l24_53 C lf n) (by kernel_rfl) (fun k=>(q24_68_eq C lf (fun x3 x5 x68 x69 x70 h=>k (x3,x5,x68,x69,x70) h) n KR K0 KE)))) (q24_71_eq C lf (fun x3 x5 x68 x69 x70 h=>lp (l24_53 C lf n) lf (x3,x5,x68,x69,x70) h) KR K0 KE)
noncomputable def q24_74(C:YC)(lf:Nat)(n:K3)(x3 x5 x67:O)(h:HW):Rs:=
 ob x67 fun a73=>
 n x3 x5 (some a73) h
theorem q24_74_eq(C:YC)(lf:Nat)(n:K3)(KR:KF)(K0:KF)(KE:KX):∀F h,evX fx24 C lf [1,1,0,1,1,1,1,1,1,1,1,1,0,0] F h (fun F h=>n (F 3) (F 5) (F 10) h) KR (bk 0 K0 KE)=q24_74 C lf n (F 3) (F 5) (F 67) h:=by
 intro F h;kernel_rfl
noncomputable def q24_75(C:YC)(lf:Nat)(n:K0)(x3 x5 x67:O)(h:HW):Rs:=
 q24_74 C lf (fun x3 x5 x10 h=>q24_72 C lf n x3 x5 x10 h) x3 x5 x67 h
theorem q24_75_eq(C:YC)(lf:Nat)(n:K0)(KR:KF)(K0:KF)(KE:KX):∀F h,evX fx24 C lf [1,1,0,1,1,1,1,1,1,1,1,1,0] F h (fun F h=>n h) KR (bk 0 K0 KE)=q24_75 C lf n (F 3) (F 5) (F 67) h:=cSeq (a:=subX fx24 [1,1,0,1,1,1,1,1,1,1,1,1,0,0]) (b:=subX fx24 [1,1,0,1,1,1,1,1,1,1,1,1,0,1]) (by kernel_rfl) (B:=(fun F h=>q24_72 C lf n (F 3) (F 5) (F 10) h)) (q24_72_eq C lf n KR K0 KE) (q24_74_eq C lf (fun x3 x5 x10 h=>q24_72 C lf n x3 x5 x10 h) KR K0 KE)
noncomputable def q24_94(C:YC)(lf:Nat)(n:K0)(x3 x5 x15:O)(h:HW):Rs:=
 ob x15 fun a76=>
 ob (semAssert Try.prog a76 106 true) fun y77=>
 ob (ext 1 y77) fun y78=>
 ob (ext 0 y77) fun y79=>
 yIf y78
 (ob x3 fun a80=>
 ob (ld1 a80 h) fun y81=>
 ob x3 fun a82=>
 ob x5 fun a83=>
 bc (C (.fn 30) [y81,y79,(.fn (.func 31) [] [a82,a83])] h) fun y84 h84=>
 n h84)
 (ob x15 fun a85=>
 ob (semAssert Try.prog a85 109 true) fun y86=>
 ob (ext 1 y86) fun y87=>
 ob (ext 0 y86) fun y88=>
 yIf y87
 (ob x3 fun a89=>
 ob (ld1 a89 h) fun y90=>
 ob x5 fun a91=>
 ob (ld1 a91 h) fun y92=>
 bc (C (.fn 32) [y90,y88,y92] h) fun y93 h93=>
 n h93)
 (n h))
theorem q24_94_eq(C:YC)(lf:Nat)(n:K0)(KR:KF)(K0:KF)(KE:KX):∀F h,evX fx24 C lf [1,1,0,1,1,1,1,1,1,1,1,1,1] F h (fun F h=>n h) KR (bk 0 K0 KE)=q24_94 C lf n (F 3) (F 5) (F 15) h:=by
 intro F h;kernel_rfl
noncomputable def q24_96(C:YC)(lf:Nat)(n:K0)(x3 x5 x15 x66 x67:O)(h:HW):Rs:=
 ob x66 fun a95=>
 yIf a95
 (q24_75 C lf n x3 x5 x67 h)
 (q24_94 C lf n x3 x5 x15 h)
theorem q24_96_eq(C:YC)(lf:Nat)(n:K0)(KR:KF)(K0:KF)(KE:KX):∀F h,evX fx24 C lf [1,1,0,1,1,1,1,1,1,1,1,1] F h (fun F h=>n h) KR (bk 0 K0 KE)=q24_96 C lf n (F 3) (F 5) (F 15) (F 66) (F 67) h:=cCond (x:= .tmp 66) (by kernel_rfl) (q24_75_eq C lf n KR K0 KE) (q24_94_eq C lf n KR K0 KE)
noncomputable def q24_101(C:YC)(lf:Nat)(n:K5)(x3 x5 x15:O)(h:HW):Rs:=
 ob x15 fun a97=>
 ob (semAssert Try.prog a97 105 true) fun y98=>
 ob (ext 1 y98) fun y99=>
 ob (ext 0 y98) fun y100=>
 n x3 x5 x15 (some y99) (some y100) h
theorem q24_101_eq(C:YC)(lf:Nat)(n:K5)(KR:KF)(K0:KF)(KE:KX):∀F h,evX fx24 C lf [1,1,0,1,1,1,1,1,1,1,1,0] F h (fun F h=>n (F 3) (F 5) (F 15) (F 66) (F 67) h) KR (bk 0 K0 KE)=q24_101 C lf n (F 3) (F 5) (F 15) h:=by
 intro F h;kernel_rfl
noncomputable def q24_102(C:YC)(lf:Nat)(n:K0)(x3 x5 x15:O)(h:HW):Rs:=
 q24_101 C lf (fun x3 x5 x15 x66 x67 h=>q24_96 C lf n x3 x5 x15 x66 x67 h) x3 x5 x15 h
theorem q24_102_eq(C:YC)(lf:Nat)(n:K0)(KR:KF)(K0:KF)(KE:KX):∀F h,evX fx24 C lf [1,1,0,1,1,1,1,1,1,1,1] F h (fun F h=>n h) KR (bk 0 K0 KE)=q24_102 C lf n (F 3) (F 5) (F 15) h:=cSeq (a:=subX fx24 [1,1,0,1,1,1,1,1,1,1,1,0]) (b:=subX fx24 [1,1,0,1,1,1,1,1,1,1,1,1]) (by kernel_rfl) (B:=(fun F h=>q24_96 C lf n (F 3) (F 5) (F 15) (F 66) (F 67) h)) (q24_96_eq C lf n KR K0 KE) (q24_101_eq C lf (fun x3 x5 x15 x66 x67 h=>q24_96 C lf n x3 x5 x15 x66 x67 h) KR K0 KE)
noncomputable def q24_104(C:YC)(lf:Nat)(n:K0)(x3 x5 x15 x39 x40:O)(h:HW):Rs:=
 ob x39 fun a103=>
 yIf a103
 (q24_52 C lf n x3 x5 x40 h)
 (q24_102 C lf n x3 x5 x15 h)
theorem q24_104_eq(C:YC)(lf:Nat)(n:K0)(KR:KF)(K0:KF)(KE:KX):∀F h,evX fx24 C lf [1,1,0,1,1,1,1,1,1,1] F h (fun F h=>n h) KR (bk 0 K0 KE)=q24_104 C lf n (F 3) (F 5) (F 15) (F 39) (F 40) h:=cCond (x:= .tmp 39) (by kernel_rfl) (q24_52_eq C lf n KR K0 KE) (q24_102_eq C lf n KR K0 KE)
noncomputable def q24_109(C:YC)(lf:Nat)(n:K5)(x3 x5 x15:O)(h:HW):Rs:=
 ob x15 fun a105=>
 ob (semAssert Try.prog a105 101 true) fun y106=>
 ob (ext 1 y106) fun y107=>
 ob (ext 0 y106) fun y108=>
 n x3 x5 x15 (some y107) (some y108) h
theorem q24_109_eq(C:YC)(lf:Nat)(n:K5)(KR:KF)(K0:KF)(KE:KX):∀F h,evX fx24 C lf [1,1,0,1,1,1,1,1,1,0] F h (fun F h=>n (F 3) (F 5) (F 15) (F 39) (F 40) h) KR (bk 0 K0 KE)=q24_109 C lf n (F 3) (F 5) (F 15) h:=by
 intro F h;kernel_rfl
noncomputable def q24_110(C:YC)(lf:Nat)(n:K0)(x3 x5 x15:O)(h:HW):Rs:=
 q24_109 C lf (fun x3 x5 x15 x39 x40 h=>q24_104 C lf n x3 x5 x15 x39 x40 h) x3 x5 x15 h
theorem q24_110_eq(C:YC)(lf:Nat)(n:K0)(KR:KF)(K0:KF)(KE:KX):∀F h,evX fx24 C lf [1,1,0,1,1,1,1,1,1] F h (fun F h=>n h) KR (bk 0 K0 KE)=q24_110 C lf n (F 3) (F 5) (F 15) h:=cSeq (a:=subX fx24 [1,1,0,1,1,1,1,1,1,0]) (b:=subX fx24 [1,1,0,1,1,1,1,1,1,1]) (by kernel_rfl) (B:=(fun F h=>q24_104 C lf n (F 3) (F 5) (F 15) (F 39) (F 40) h)) (q24_104_eq C lf n KR K0 KE) (q24_109_eq C lf (fun x3 x5 x15 x39 x40 h=>q24_104 C lf n x3 x5 x15 x39 x40 h) KR K0 KE)
noncomputable def q24_112(C:YC)(lf:Nat)(n:K0)(x3 x5 x15 x33 x34:O)(h:HW):Rs:=
 ob x33 fun a111=>
 yIf a111
 (q24_25 C lf n x3 x34 h)
 (q24_110 C lf n x3 x5 x15 h)
theorem q24_112_eq(C:YC)(lf:Nat)(n:K0)(KR:KF)(K0:KF)(KE:KX):∀F h,evX fx24 C lf [1,1,0,1,1,1,1,1] F h (fun F h=>n h) KR (bk 0 K0 KE)=q24_112 C lf n (F 3) (F 5) (F 15) (F 33) (F 34) h:=cCond (x:= .tmp 33) (by kernel_rfl) (q24_25_eq C lf n KR K0 KE) (q24_110_eq C lf n KR K0 KE)
noncomputable def q24_117(C:YC)(lf:Nat)(n:K5)(x3 x5 x15:O)(h:HW):Rs:=
 ob x15 fun a113=>
 ob (semAssert Try.prog a113 100 true) fun y114=>
 ob (ext 1 y114) fun y115=>
 ob (ext 0 y114) fun y116=>
 n x3 x5 x15 (some y115) (some y116) h
theorem q24_117_eq(C:YC)(lf:Nat)(n:K5)(KR:KF)(K0:KF)(KE:KX):∀F h,evX fx24 C lf [1,1,0,1,1,1,1,0] F h (fun F h=>n (F 3) (F 5) (F 15) (F 33) (F 34) h) KR (bk 0 K0 KE)=q24_117 C lf n (F 3) (F 5) (F 15) h:=by
 intro F h;kernel_rfl
noncomputable def q24_118(C:YC)(lf:Nat)(n:K0)(x3 x5 x15:O)(h:HW):Rs:=
 q24_117 C lf (fun x3 x5 x15 x33 x34 h=>q24_112 C lf n x3 x5 x15 x33 x34 h) x3 x5 x15 h
theorem q24_118_eq(C:YC)(lf:Nat)(n:K0)(KR:KF)(K0:KF)(KE:KX):∀F h,evX fx24 C lf [1,1,0,1,1,1,1] F h (fun F h=>n h) KR (bk 0 K0 KE)=q24_118 C lf n (F 3) (F 5) (F 15) h:=cSeq (a:=subX fx24 [1,1,0,1,1,1,1,0]) (b:=subX fx24 [1,1,0,1,1,1,1,1]) (by kernel_rfl) (B:=(fun F h=>q24_112 C lf n (F 3) (F 5) (F 15) (F 33) (F 34) h)) (q24_112_eq C lf n KR K0 KE) (q24_117_eq C lf (fun x3 x5 x15 x33 x34 h=>q24_112 C lf n x3 x5 x15 x33 x34 h) KR K0 KE)
noncomputable def q24_120(C:YC)(lf:Nat)(n:K0)(x3 x5 x15 x27 x28:O)(h:HW):Rs:=
 ob x27 fun a119=>
 yIf a119
 (q24_17 C lf n x3 x28 h)
 (q24_118 C lf n x3 x5 x15 h)
theorem q24_120_eq(C:YC)(lf:Nat)(n:K0)(KR:KF)(K0:KF)(KE:KX):∀F h,evX fx24 C lf [1,1,0,1,1,1] F h (fun F h=>n h) KR (bk 0 K0 KE)=q24_120 C lf n (F 3) (F 5) (F 15) (F 27) (F 28) h:=cCond (x:= .tmp 27) (by kernel_rfl) (q24_17_eq C lf n KR K0 KE) (q24_118_eq C lf n KR K0 KE)
noncomputable def q24_125(C:YC)(lf:Nat)(n:K5)(x3 x5 x15:O)(h:HW):Rs:=
 ob x15 fun a121=>
 ob (semAssert Try.prog a121 99 true) fun y122=>
 ob (ext 1 y122) fun y123=>
 ob (ext 0 y122) fun y124=>
 n x3 x5 x15 (some y123) (some y124) h
theorem q24_125_eq(C:YC)(lf:Nat)(n:K5)(KR:KF)(K0:KF)(KE:KX):∀F h,evX fx24 C lf [1,1,0,1,1,0] F h (fun F h=>n (F 3) (F 5) (F 15) (F 27) (F 28) h) KR (bk 0 K0 KE)=q24_125 C lf n (F 3) (F 5) (F 15) h:=by
 intro F h;kernel_rfl
noncomputable def q24_126(C:YC)(lf:Nat)(n:K0)(x3 x5 x15:O)(h:HW):Rs:=
 q24_125 C lf (fun x3 x5 x15 x27 x28 h=>q24_120 C lf n x3 x5 x15 x27 x28 h) x3 x5 x15 h
theorem q24_126_eq(C:YC)(lf:Nat)(n:K0)(KR:KF)(K0:KF)(KE:KX):∀F h,evX fx24 C lf [1,1,0,1,1] F h (fun F h=>n h) KR (bk 0 K0 KE)=q24_126 C lf n (F 3) (F 5) (F 15) h:=cSeq (a:=subX fx24 [1,1,0,1,1,0]) (b:=subX fx24 [1,1,0,1,1,1]) (by kernel_rfl) (B:=(fun F h=>q24_120 C lf n (F 3) (F 5) (F 15) (F 27) (F 28) h)) (q24_120_eq C lf n KR K0 KE) (q24_125_eq C lf (fun x3 x5 x15 x27 x28 h=>q24_120 C lf n x3 x5 x15 x27 x28 h) KR K0 KE)
noncomputable def q24_128(C:YC)(lf:Nat)(n:K0)(x3 x5 x15 x17 x18:O)(h:HW):Rs:=
 ob x17 fun a127=>
 yIf a127
 (q24_9 C lf n x3 x5 x18 h)
 (q24_126 C lf n x3 x5 x15 h)
theorem q24_128_eq(C:YC)(lf:Nat)(n:K0)(KR:KF)(K0:KF)(KE:KX):∀F h,evX fx24 C lf [1,1,0,1] F h (fun F h=>n h) KR (bk 0 K0 KE)=q24_128 C lf n (F 3) (F 5) (F 15) (F 17) (F 18) h:=cCond (x:= .tmp 17) (by kernel_rfl) (q24_9_eq C lf n KR K0 KE) (q24_126_eq C lf n KR K0 KE)
noncomputable def q24_133(C:YC)(lf:Nat)(n:K5)(x3 x5 x15:O)(h:HW):Rs:=
 ob x15 fun a129=>
 ob (semAssert Try.prog a129 95 true) fun y130=>
 ob (ext 1 y130) fun y131=>
 ob (ext 0 y130) fun y132=>
 n x3 x5 x15 (some y131) (some y132) h
theorem q24_133_eq(C:YC)(lf:Nat)(n:K5)(KR:KF)(K0:KF)(KE:KX):∀F h,evX fx24 C lf [1,1,0,0] F h (fun F h=>n (F 3) (F 5) (F 15) (F 17) (F 18) h) KR (bk 0 K0 KE)=q24_133 C lf n (F 3) (F 5) (F 15) h:=by
 intro F h;kernel_rfl
noncomputable def q24_134(C:YC)(lf:Nat)(n:K0)(x3 x5 x15:O)(h:HW):Rs:=
 q24_133 C lf (fun x3 x5 x15 x17 x18 h=>q24_128 C lf n x3 x5 x15 x17 x18 h) x3 x5 x15 h
theorem q24_134_eq(C:YC)(lf:Nat)(n:K0)(KR:KF)(K0:KF)(KE:KX):∀F h,evX fx24 C lf [1,1,0] F h (fun F h=>n h) KR (bk 0 K0 KE)=q24_134 C lf n (F 3) (F 5) (F 15) h:=cSeq (a:=subX fx24 [1,1,0,0]) (b:=subX fx24 [1,1,0,1]) (by kernel_rfl) (B:=(fun F h=>q24_128 C lf n (F 3) (F 5) (F 15) (F 17) (F 18) h)) (q24_128_eq C lf n KR K0 KE) (q24_133_eq C lf (fun x3 x5 x15 x17 x18 h=>q24_128 C lf n x3 x5 x15 x17 x18 h) KR K0 KE)
noncomputable def q24_136(C:YC)(lf:Nat)(n:K3)(x1 x3 x5:O)(h:HW):Rs:=
 ob x1 fun a135=>
 n x3 x5 (some a135) h
theorem q24_136_eq(C:YC)(lf:Nat)(n:K3)(KR:KF)(KE:KX):∀F h,evX fx24 C lf [1,0] F h (fun F h=>n (F 3) (F 5) (F 15) h) KR KE=q24_136 C lf n (F 1) (F 3) (F 5) h:=by
 intro F h;kernel_rfl
noncomputable def q24_137(C:YC)(lf:Nat)(n:K0)(x1 x3 x5:O)(h:HW):Rs:=
 q24_136 C lf (fun x3 x5 x15 h=>q24_134 C lf n x3 x5 x15 h) x1 x3 x5 h
theorem q24_137_eq(C:YC)(lf:Nat)(n:K0)(KR:KF)(KE:KX):∀F h,evX fx24 C lf [1] F h (fun F h=>n h) KR KE=q24_137 C lf n (F 1) (F 3) (F 5) h:=cSeq (a:=subX fx24 [1,0]) (b:=subX fx24 [1,1]) (by kernel_rfl) (B:=(fun F h=>q24_134 C lf n (F 3) (F 5) (F 15) h)) (cBlock (id:=0) (a:=subX fx24 [1,1,0]) (by kernel_rfl) (q24_134_eq C lf n KR (fun F h=>n h) KE)) (q24_136_eq C lf (fun x3 x5 x15 h=>q24_134 C lf n x3 x5 x15 h) KR KE)
noncomputable def q24_142(C:YC)(lf:Nat)(n:K3)(x0 x1 x2:O)(h:HW):Rs:=
 ob x0 fun a138=>
 b2 (ybx 22 a138 h) fun y139 h139=>
 ob x2 fun a140=>
 b2 (ybx 3 a140 h139) fun y141 h141=>
 n x1 (some y139) (some y141) h141
theorem q24_142_eq(C:YC)(lf:Nat)(n:K3)(KR:KF)(KE:KX):∀F h,evX fx24 C lf [0] F h (fun F h=>n (F 1) (F 3) (F 5) h) KR KE=q24_142 C lf n (F 0) (F 1) (F 2) h:=by
 intro F h;kernel_rfl
noncomputable def q24_143(C:YC)(lf:Nat)(n:K0)(x0 x1 x2:O)(h:HW):Rs:=
 q24_142 C lf (fun x1 x3 x5 h=>q24_137 C lf n x1 x3 x5 h) x0 x1 x2 h
theorem q24_143_eq(C:YC)(lf:Nat)(n:K0)(KR:KF)(KE:KX):∀F h,evX fx24 C lf [] F h (fun F h=>n h) KR KE=q24_143 C lf n (F 0) (F 1) (F 2) h:=cSeq (a:=subX fx24 [0]) (b:=subX fx24 [1]) (by kernel_rfl) (B:=(fun F h=>q24_137 C lf n (F 1) (F 3) (F 5) h)) (q24_137_eq C lf n KR KE) (q24_142_eq C lf (fun x1 x3 x5 h=>q24_137 C lf n x1 x3 x5 h) KR KE)
noncomputable def fs24(C:YC)(lf:Nat)(a0 a1 a2:SV)(h:HW):Rs:=q24_143 C lf ff24 (some a0) (some a1) (some a2) h
theorem fs24_eq(C:YC)(lf:Nat)(a0 a1 a2:SV)(h:HW):yFn Try.prog fx24 C lf [a0,a1,a2] h=fs24 C lf a0 a1 a2 h:=fnX (K:=(fun F h=>ff24 h)) (by kernel_rfl) (((q24_143_eq C lf ff24 (fun F h=>ff24 h) (fun _ _ _=>none)) _ h).trans (by kernel_rfl))
noncomputable def fy24:YX Try.prog:=Y3 fx24 fs24 fs24_eq (by kernel_rfl)
noncomputable def fx25:XF Try.prog:=⟨25,Try.f25,fun r=>bif Nat.beq r 1 then .ord [0,1,2,3,4,5,6,7,8,9,10] [(6,[4])] else .text,Try.func25,by kernel_rfl,by kernel_rfl,by kernel_rfl,by kernel_rfl⟩
noncomputable def ff25(x4:O)(h:HW):Rs:=
 ob x4 fun a0=>
 some (.ret a0,h)
noncomputable def q25_20(C:YC)(lf:Nat)(r:K1)(x0 x1:O)(h:HW):Rs:=
 ob x1 fun a1=>
 b2 (ybx 71 a1 h) fun y2 h2=>
 ob x0 fun a3=>
 ob x0 fun a4=>
 ob (semNil a4) fun y5=>
 ob (fa 0 y5) fun y6=>
 ob (ld1 y6 h2) fun y7=>
 ob (ldN 4 y2 h2) fun y8=>
 b2 (ybs Try.prog 23 1 [0] [y8] h2) fun y9 h9=>
 ck (chkH [(5,adrO (some y2)),(4,adrO (some y6))] h2 h9 [4]) <|
 b2 (ybl Try.prog .append #[23,23] [y7,y9] h9) fun y10 h10=>
 ob (semNil a3) fun y11=>
 ob (fa 0 y11) fun y12=>
 ob (st 1 y12 y10 h10) fun h13=>
 ob x0 fun a14=>
 ob (semNil a14) fun y15=>
 ob (fa 0 y15) fun y16=>
 ob (ld1 y16 h13) fun y17=>
 ob (lenE Try.prog 23 y17) fun y18=>
 ob (bin Try.prog .sub 3 y18 (.int .i64 1)) fun y19=>
 r (some y19) h13
theorem q25_20_eq(C:YC)(lf:Nat)(r:K1)(KN:KF)(KE:KX):∀F h,evX fx25 C lf [] F h KN (fun F h=>r (F 4) h) KE=q25_20 C lf r (F 0) (F 1) h:=by
 intro F h;kernel_rfl
noncomputable def fs25(C:YC)(lf:Nat)(a0 a1:SV)(h:HW):Rs:=q25_20 C lf ff25 (some a0) (some a1) h
theorem fs25_eq(C:YC)(lf:Nat)(a0 a1:SV)(h:HW):yFn Try.prog fx25 C lf [a0,a1] h=fs25 C lf a0 a1 h:=fnX (K:=(fun F h=>ff25 (F 4) h)) (by kernel_rfl) (((q25_20_eq C lf ff25 (fun F h=>ff25 (F 4) h) (fun _ _ _=>none)) _ h).trans (by kernel_rfl))
noncomputable def fy25:YX Try.prog:=Y2 fx25 fs25 fs25_eq (by kernel_rfl)
noncomputable def fx27:XF Try.prog:=⟨27,Try.f27,fun _=> .text,Try.func27,by kernel_rfl,by kernel_rfl,by kernel_rfl,by kernel_rfl⟩
noncomputable def fx28:XF Try.prog:=⟨28,Try.f28,fun _=> .text,Try.func28,by kernel_rfl,by kernel_rfl,by kernel_rfl,by kernel_rfl⟩
noncomputable def ff28(x2:O)(h:HW):Rs:=
 ob x2 fun a0=>
 some (.ret a0,h)
noncomputable def q28_2(C:YC)(lf:Nat)(r:K1)(x3:O)(h:HW):Rs:=
 ob x3 fun a1=>
 r (some (.ifc 106 a1)) h
theorem q28_2_eq(C:YC)(lf:Nat)(r:K1)(KN:KF)(KE:KX):∀F h,evX fx28 C lf [1,1,1] F h KN (fun F h=>r (F 2) h) KE=q28_2 C lf r (F 3) h:=by
 intro F h;kernel_rfl
noncomputable def q28_18(C:YC)(lf:Nat)(n:K2)(e0:K1)(x0 x3:O)(h:HW):Rs:=
 ob x0 fun a4=>
 ob (semNil a4) fun y5=>
 ob (fa 2 y5) fun y6=>
 ob (ld1 y6 h) fun y7=>
 bc (gd true (some y7) (ob x0 fun a8=>
 some (.ret a8,h)) h) fun y9 h9=>
 bc (gd true (some y7) (bc (C (.fn 34) [y9,(.str (bs [124]))] h9) fun y10 h10=>
 some (.ret y10,h10)) h9) fun y11 h11=>
 ob (ypk y7 y11 (.bool false)) fun y12=>
 yIf y12
 (ob x3 fun a13=>
 ob x0 fun a14=>
 bc (C (.fn 33) [a14] h11) fun y15 h15=>
 b2 (ybs Try.prog 106 1 [0] [y15] h15) fun y16 h16=>
 b2 (ybl Try.prog .append #[106,106] [a13,y16] h16) fun y17 h17=>
 n x0 (some y17) h17)
 (e0 x3 h11)
theorem q28_18_eq(C:YC)(lf:Nat)(n:K2)(e0:K1)(KR:KF)(KE:KX):∀F h,evX fx28 C lf [1,1,0,0,0] F h (fun F h=>n (F 0) (F 3) h) KR (bk 0 (fun F h=>e0 (F 3) h) KE)=q28_18 C lf n e0 (F 0) (F 3) h:=by
 intro F h;kernel_rfl
noncomputable def l28_3(C:YC)(lf:Nat)(e0:K1)(k:O×O→HW→Rs)(s:O×O)(h:HW):Rs:=
 q28_18 C lf (fun x0 x3 h=>k (x0,x3) h) e0 s.1 s.2 h
noncomputable def q28_19(C:YC)(lf:Nat)(r:K1)(x0 x3:O)(h:HW):Rs:=
 lp (l28_3 C lf (fun x3 h=>q28_2 C lf r x3 h)) lf (x0,x3) h
theorem q28_19_eq(C:YC)(lf:Nat)(r:K1)(KN:KF)(KE:KX):∀F h,evX fx28 C lf [1,1] F h KN (fun F h=>r (F 2) h) KE=q28_19 C lf r (F 0) (F 3) h:=cSeq (a:=subX fx28 [1,1,0]) (b:=subX fx28 [1,1,1]) (by kernel_rfl) (B:=(fun F h=>q28_2 C lf r (F 3) h)) (q28_2_eq C lf r KN KE) (cBlock (id:=0) (a:=subX fx28 [1,1,0,0]) (by kernel_rfl) (cLoop (a:=subX fx28 [1,1,0,0,0]) (g:=fun F=>(F 0,F 3)) (body:=l28_3 C lf (fun x3 h=>q28_2 C lf r x3 h)) (by kernel_rfl) (fun k=>(q28_18_eq C lf (fun x0 x3 h=>k (x0,x3) h) (fun x3 h=>q28_2 C lf r x3 h) (fun F h=>r (F 2) h) KE))))
noncomputable def q28_23(C:YC)(lf:Nat)(n:K2)(x0:O)(h:HW):Rs:=
 ob x0 fun a20=>
 bc (C (.fn 33) [a20] h) fun y21 h21=>
 b2 (ybs Try.prog 106 1 [0] [y21] h21) fun y22 h22=>
 n x0 (some y22) h22
theorem q28_23_eq(C:YC)(lf:Nat)(n:K2)(KR:KF)(KE:KX):∀F h,evX fx28 C lf [1,0] F h (fun F h=>n (F 0) (F 3) h) KR KE=q28_23 C lf n (F 0) h:=by
 intro F h;kernel_rfl
noncomputable def q28_24(C:YC)(lf:Nat)(r:K1)(x0:O)(h:HW):Rs:=
 q28_23 C lf (fun x0 x3 h=>q28_19 C lf r x0 x3 h) x0 h
theorem q28_24_eq(C:YC)(lf:Nat)(r:K1)(KN:KF)(KE:KX):∀F h,evX fx28 C lf [1] F h KN (fun F h=>r (F 2) h) KE=q28_24 C lf r (F 0) h:=cSeq (a:=subX fx28 [1,0]) (b:=subX fx28 [1,1]) (by kernel_rfl) (B:=(fun F h=>q28_19 C lf r (F 0) (F 3) h)) (q28_19_eq C lf r KN KE) (q28_23_eq C lf (fun x0 x3 h=>q28_19 C lf r x0 x3 h) (fun F h=>r (F 2) h) KE)
noncomputable def q28_25(C:YC)(lf:Nat)(n:K1)(x0:O)(h:HW):Rs:=
 n x0 h
theorem q28_25_eq(C:YC)(lf:Nat)(n:K1)(KR:KF)(KE:KX):∀F h,evX fx28 C lf [0] F h (fun F h=>n (F 0) h) KR KE=q28_25 C lf n (F 0) h:=by
 intro F h;kernel_rfl
noncomputable def q28_26(C:YC)(lf:Nat)(r:K1)(x0:O)(h:HW):Rs:=
 q28_25 C lf (fun x0 h=>q28_24 C lf r x0 h) x0 h
theorem q28_26_eq(C:YC)(lf:Nat)(r:K1)(KN:KF)(KE:KX):∀F h,evX fx28 C lf [] F h KN (fun F h=>r (F 2) h) KE=q28_26 C lf r (F 0) h:=cSeq (a:=subX fx28 [0]) (b:=subX fx28 [1]) (by kernel_rfl) (B:=(fun F h=>q28_24 C lf r (F 0) h)) (q28_24_eq C lf r KN KE) (q28_25_eq C lf (fun x0 h=>q28_24 C lf r x0 h) (fun F h=>r (F 2) h) KE)
noncomputable def fs28(C:YC)(lf:Nat)(a0:SV)(h:HW):Rs:=q28_26 C lf ff28 (some a0) h
theorem fs28_eq(C:YC)(lf:Nat)(a0:SV)(h:HW):yFn Try.prog fx28 C lf [a0] h=fs28 C lf a0 h:=fnX (K:=(fun F h=>ff28 (F 2) h)) (by kernel_rfl) (((q28_26_eq C lf ff28 (fun F h=>ff28 (F 2) h) (fun _ _ _=>none)) _ h).trans (by kernel_rfl))
noncomputable def fy28:YX Try.prog:=Y1 fx28 fs28 fs28_eq (by kernel_rfl)
noncomputable def fx29:XF Try.prog:=⟨29,Try.f29,fun _=> .text,Try.func29,by kernel_rfl,by kernel_rfl,by kernel_rfl,by kernel_rfl⟩
noncomputable def ff29(x2:O)(h:HW):Rs:=
 ob x2 fun a0=>
 some (.ret a0,h)
noncomputable def q29_11(C:YC)(lf:Nat)(r:K1)(x0:O)(h:HW):Rs:=
 ob x0 fun a1=>
 ob (semNil a1) fun y2=>
 ob (fa 1 y2) fun y3=>
 ob (ld1 y3 h) fun y4=>
 ob x0 fun a5=>
 ob (semNil a5) fun y6=>
 ob (fa 0 y6) fun y7=>
 ob (ld1 y7 h) fun y8=>
 ob (lenE Try.prog 9 y8) fun y9=>
 ob (bin Try.prog .geq 3 y4 y9) fun y10=>
 r (some y10) h
theorem q29_11_eq(C:YC)(lf:Nat)(r:K1)(KN:KF)(KE:KX):∀F h,evX fx29 C lf [] F h KN (fun F h=>r (F 2) h) KE=q29_11 C lf r (F 0) h:=by
 intro F h;kernel_rfl
noncomputable def fs29(C:YC)(lf:Nat)(a0:SV)(h:HW):Rs:=q29_11 C lf ff29 (some a0) h
theorem fs29_eq(C:YC)(lf:Nat)(a0:SV)(h:HW):yFn Try.prog fx29 C lf [a0] h=fs29 C lf a0 h:=fnX (K:=(fun F h=>ff29 (F 2) h)) (by kernel_rfl) (((q29_11_eq C lf ff29 (fun F h=>ff29 (F 2) h) (fun _ _ _=>none)) _ h).trans (by kernel_rfl))
noncomputable def fy29:YX Try.prog:=Y1 fx29 fs29 fs29_eq (by kernel_rfl)
noncomputable def fx30:XF Try.prog:=⟨30,Try.f30,fun _=> .text,Try.func30,by kernel_rfl,by kernel_rfl,by kernel_rfl,by kernel_rfl⟩
noncomputable def ff30(h:HW):Rs:=
 some (.ret (.tup []),h)
noncomputable def q30_22(C:YC)(lf:Nat)(n:K4)(e2:K0)(x0 x64 x65 x66:O)(h:HW):Rs:=
 ob x66 fun a1=>
 ob x65 fun a2=>
 ob (bin Try.prog .lss 3 a1 a2) fun y3=>
 yIf y3
 (ob x64 fun a4=>
 ob x66 fun a5=>
 ob (ixS 1 a4 a5) fun y6=>
 ob (ld1 y6 h) fun y7=>
 ob x0 fun a8=>
 ob (semNil a8) fun y9=>
 ob (fa 0 y9) fun y10=>
 ob (ld1 y10 h) fun y11=>
 ob x0 fun a12=>
 ob (semNil a12) fun y13=>
 ob (fa 0 y13) fun y14=>
 ob (ld1 y14 h) fun y15=>
 ob (lenE Try.prog 23 y15) fun y16=>
 ob (ixS 4 y11 y7) fun y17=>
 ob (fa 2 y17) fun y18=>
 ob (st 1 y18 y16 h) fun h19=>
 ob x66 fun a20=>
 ob (bin Try.prog .add 3 a20 (.int .i64 1)) fun y21=>
 n x0 x64 x65 (some y21) h19)
 (e2 h)
theorem q30_22_eq(C:YC)(lf:Nat)(n:K4)(e2:K0)(KR:KF)(KE:KX):∀F h,evX fx30 C lf [1,1,1,0,0] F h (fun F h=>n (F 0) (F 64) (F 65) (F 66) h) KR (bk 2 (fun F h=>e2 h) KE)=q30_22 C lf n e2 (F 0) (F 64) (F 65) (F 66) h:=by
 intro F h;kernel_rfl
noncomputable def l30_0(C:YC)(lf:Nat)(e2:K0)(k:O×O×O×O→HW→Rs)(s:O×O×O×O)(h:HW):Rs:=
 q30_22 C lf (fun x0 x64 x65 x66 h=>k (x0,x64,x65,x66) h) e2 s.1 s.2.1 s.2.2.1 s.2.2.2 h
noncomputable def q30_25(C:YC)(lf:Nat)(n:K4)(x0 x6:O)(h:HW):Rs:=
 ob x6 fun a23=>
 ob (lenE Try.prog 62 a23) fun y24=>
 n x0 (some a23) (some y24) (some (.int .i64 0)) h
theorem q30_25_eq(C:YC)(lf:Nat)(n:K4)(KR:KF)(KE:KX):∀F h,evX fx30 C lf [1,1,0] F h (fun F h=>n (F 0) (F 64) (F 65) (F 66) h) KR KE=q30_25 C lf n (F 0) (F 6) h:=by
 intro F h;kernel_rfl
noncomputable def q30_26(C:YC)(lf:Nat)(n:K0)(x0 x6:O)(h:HW):Rs:=
 q30_25 C lf (fun x0 x64 x65 x66 h=>lp (l30_0 C lf n) lf (x0,x64,x65,x66) h) x0 x6 h
theorem q30_26_eq(C:YC)(lf:Nat)(n:K0)(KR:KF)(KE:KX):∀F h,evX fx30 C lf [1,1] F h (fun F h=>n h) KR KE=q30_26 C lf n (F 0) (F 6) h:=cSeq (a:=subX fx30 [1,1,0]) (b:=subX fx30 [1,1,1]) (by kernel_rfl) (B:=(fun F h=>lp (l30_0 C lf n) lf ((F 0),(F 64),(F 65),(F 66)) h)) (cBlock (id:=2) (a:=subX fx30 [1,1,1,0]) (by kernel_rfl) (cLoop (a:=subX fx30 [1,1,1,0,0]) (g:=fun F=>(F 0,F 64,F 65,F 66)) (body:=l30_0 C lf n) (by kernel_rfl) (fun k=>(q30_22_eq C lf (fun x0 x64 x65 x66 h=>k (x0,x64,x65,x66) h) n KR KE)))) (q30_25_eq C lf (fun x0 x64 x65 x66 h=>lp (l30_0 C lf n) lf (x0,x64,x65,x66) h) KR KE)
noncomputable def q30_79(C:YC)(lf:Nat)(n:K7)(e0:K2)(x0 x1 x2 x6 x12 x13 x14:O)(h:HW):Rs:=
 ob x14 fun a28=>
 ob x13 fun a29=>
 ob (bin Try.prog .lss 3 a28 a29) fun y30=>
 yIf y30
 (ob x14 fun a31=>
 ob x12 fun a32=>
 ob x14 fun a33=>
 ob (ixS 1 a32 a33) fun y34=>
 ob (ld1 y34 h) fun y35=>
 ob x1 fun a36=>
 ob (lenE Try.prog 106 a36) fun y37=>
 ob (bin Try.prog .sub 3 y37 (.int .i64 1)) fun y38=>
 ob (bin Try.prog .eql 3 a31 y38) fun y39=>
 yIf y39
 (ob x2 fun a40=>
 cv false C a40 [y35] h fun y41 h41=>
 e0 x0 x6 h41)
 (ob x0 fun a42=>
 ob (semBuild Try.prog 71 [0] [(.int .i64 1)]) fun y43=>
 bc (C (.fn 25) [a42,y43] h) fun y44 h44=>
 ob x0 fun a45=>
 ob (semNil a45) fun y46=>
 ob (fa 0 y46) fun y47=>
 ob (ld1 y47 h44) fun y48=>
 ob x0 fun a49=>
 ob (semNil a49) fun y50=>
 ob (fa 0 y50) fun y51=>
 ob (ld1 y51 h44) fun y52=>
 ob (lenE Try.prog 23 y52) fun y53=>
 ob (ixS 4 y48 y44) fun y54=>
 ob (fa 2 y54) fun y55=>
 ob (st 1 y55 y53 h44) fun h56=>
 ob x2 fun a57=>
 cv false C a57 [y35] h56 fun y58 h58=>
 ob x6 fun a59=>
 ob x0 fun a60=>
 ob (semBuild Try.prog 71 [0] [(.int .i64 2)]) fun y61=>
 bc (C (.fn 25) [a60,y61] h58) fun y62 h62=>
 b2 (ybs Try.prog 62 1 [0] [y62] h62) fun y63 h63=>
 b2 (ybl Try.prog .append #[62,62] [a59,y63] h63) fun y64 h64=>
 ob x0 fun a65=>
 ob (semNil a65) fun y66=>
 ob (fa 0 y66) fun y67=>
 ob (ld1 y67 h64) fun y68=>
 ob x0 fun a69=>
 ob (semNil a69) fun y70=>
 ob (fa 0 y70) fun y71=>
 ob (ld1 y71 h64) fun y72=>
 ob (lenE Try.prog 23 y72) fun y73=>
 ob (ixS 4 y68 y44) fun y74=>
 ob (fa 3 y74) fun y75=>
 ob (st 1 y75 y73 h64) fun h76=>
 ob x14 fun a77=>
 ob (bin Try.prog .add 3 a77 (.int .i64 1)) fun y78=>
 n x0 x1 x2 (some y64) x12 x13 (some y78) h76))
 (e0 x0 x6 h)
theorem q30_79_eq(C:YC)(lf:Nat)(n:K7)(e0:K2)(KR:KF)(KE:KX):∀F h,evX fx30 C lf [1,0,1,0,0] F h (fun F h=>n (F 0) (F 1) (F 2) (F 6) (F 12) (F 13) (F 14) h) KR (bk 0 (fun F h=>e0 (F 0) (F 6) h) KE)=q30_79 C lf n e0 (F 0) (F 1) (F 2) (F 6) (F 12) (F 13) (F 14) h:=by
 intro F h;kernel_rfl
noncomputable def l30_27(C:YC)(lf:Nat)(e0:K2)(k:O×O×O×O×O×O×O→HW→Rs)(s:O×O×O×O×O×O×O)(h:HW):Rs:=
 q30_79 C lf (fun x0 x1 x2 x6 x12 x13 x14 h=>k (x0,x1,x2,x6,x12,x13,x14) h) e0 s.1 s.2.1 s.2.2.1 s.2.2.2.1 s.2.2.2.2.1 s.2.2.2.2.2.1 s.2.2.2.2.2.2 h
noncomputable def q30_82(C:YC)(lf:Nat)(n:K7)(x0 x1 x2 x6:O)(h:HW):Rs:=
 ob x1 fun a80=>
 ob (lenE Try.prog 106 a80) fun y81=>
 n x0 x1 x2 x6 (some a80) (some y81) (some (.int .i64 0)) h
theorem q30_82_eq(C:YC)(lf:Nat)(n:K7)(KR:KF)(KE:KX):∀F h,evX fx30 C lf [1,0,0] F h (fun F h=>n (F 0) (F 1) (F 2) (F 6) (F 12) (F 13) (F 14) h) KR KE=q30_82 C lf n (F 0) (F 1) (F 2) (F 6) h:=by
 intro F h;kernel_rfl
noncomputable def q30_83(C:YC)(lf:Nat)(n:K2)(x0 x1 x2 x6:O)(h:HW):Rs:=
 q30_82 C lf (fun x0 x1 x2 x6 x12 x13 x14 h=>lp (l30_27 C lf n) lf (x0,x1,x2,x6,x12,x13,x14) h) x0 x1 x2 x6 h
theorem q30_83_eq(C:YC)(lf:Nat)(n:K2)(KR:KF)(KE:KX):∀F h,evX fx30 C lf [1,0] F h (fun F h=>n (F 0) (F 6) h) KR KE=q30_83 C lf n (F 0) (F 1) (F 2) (F 6) h:=cSeq (a:=subX fx30 [1,0,0]) (b:=subX fx30 [1,0,1]) (by kernel_rfl) (B:=(fun F h=>lp (l30_27 C lf n) lf ((F 0),(F 1),(F 2),(F 6),(F 12),(F 13),(F 14)) h)) (cBlock (id:=0) (a:=subX fx30 [1,0,1,0]) (by kernel_rfl) (cLoop (a:=subX fx30 [1,0,1,0,0]) (g:=fun F=>(F 0,F 1,F 2,F 6,F 12,F 13,F 14)) (body:=l30_27 C lf n) (by kernel_rfl) (fun k=>(q30_79_eq C lf (fun x0 x1 x2 x6 x12 x13 x14 h=>k (x0,x1,x2,x6,x12,x13,x14) h) n KR KE)))) (q30_82_eq C lf (fun x0 x1 x2 x6 x12 x13 x14 h=>lp (l30_27 C lf n) lf (x0,x1,x2,x6,x12,x13,x14) h) KR KE)
noncomputable def q30_84(C:YC)(lf:Nat)(n:K0)(x0 x1 x2 x6:O)(h:HW):Rs:=
 q30_83 C lf (fun x0 x6 h=>q30_26 C lf n x0 x6 h) x0 x1 x2 x6 h
theorem q30_84_eq(C:YC)(lf:Nat)(n:K0)(KR:KF)(KE:KX):∀F h,evX fx30 C lf [1] F h (fun F h=>n h) KR KE=q30_84 C lf n (F 0) (F 1) (F 2) (F 6) h:=cSeq (a:=subX fx30 [1,0]) (b:=subX fx30 [1,1]) (by kernel_rfl) (B:=(fun F h=>q30_26 C lf n (F 0) (F 6) h)) (q30_26_eq C lf n KR KE) (q30_83_eq C lf (fun x0 x6 h=>q30_26 C lf n x0 x6 h) KR KE)
noncomputable def q30_85(C:YC)(lf:Nat)(n:K4)(x0 x1 x2:O)(h:HW):Rs:=
 n x0 x1 x2 (some (.val (.slice none 0 0))) h
theorem q30_85_eq(C:YC)(lf:Nat)(n:K4)(KR:KF)(KE:KX):∀F h,evX fx30 C lf [0] F h (fun F h=>n (F 0) (F 1) (F 2) (F 6) h) KR KE=q30_85 C lf n (F 0) (F 1) (F 2) h:=by
 intro F h;kernel_rfl
noncomputable def q30_86(C:YC)(lf:Nat)(n:K0)(x0 x1 x2:O)(h:HW):Rs:=
 q30_85 C lf (fun x0 x1 x2 x6 h=>q30_84 C lf n x0 x1 x2 x6 h) x0 x1 x2 h
theorem q30_86_eq(C:YC)(lf:Nat)(n:K0)(KR:KF)(KE:KX):∀F h,evX fx30 C lf [] F h (fun F h=>n h) KR KE=q30_86 C lf n (F 0) (F 1) (F 2) h:=cSeq (a:=subX fx30 [0]) (b:=subX fx30 [1]) (by kernel_rfl) (B:=(fun F h=>q30_84 C lf n (F 0) (F 1) (F 2) (F 6) h)) (q30_84_eq C lf n KR KE) (q30_85_eq C lf (fun x0 x1 x2 x6 h=>q30_84 C lf n x0 x1 x2 x6 h) KR KE)
noncomputable def fs30(C:YC)(lf:Nat)(a0 a1 a2:SV)(h:HW):Rs:=q30_86 C lf ff30 (some a0) (some a1) (some a2) h
theorem fs30_eq(C:YC)(lf:Nat)(a0 a1 a2:SV)(h:HW):yFn Try.prog fx30 C lf [a0,a1,a2] h=fs30 C lf a0 a1 a2 h:=fnX (K:=(fun F h=>ff30 h)) (by kernel_rfl) (((q30_86_eq C lf ff30 (fun F h=>ff30 h) (fun _ _ _=>none)) _ h).trans (by kernel_rfl))
noncomputable def fy30:YX Try.prog:=Y3 fx30 fs30 fs30_eq (by kernel_rfl)
noncomputable def fx31:XF Try.prog:=⟨31,Try.f31,fun _=> .text,Try.func31,by kernel_rfl,by kernel_rfl,by kernel_rfl,by kernel_rfl⟩
noncomputable def ff31(h:HW):Rs:=
 some (.ret (.tup []),h)
noncomputable def q31_6(C:YC)(lf:Nat)(n:K0)(x0 x1 x2:O)(h:HW):Rs:=
 ob x1 fun a0=>
 ob (ld1 a0 h) fun y1=>
 ob x0 fun a2=>
 ob x2 fun a3=>
 ob (ld1 a3 h) fun y4=>
 bc (C (.fn 24) [y1,a2,y4] h) fun y5 h5=>
 n h5
theorem q31_6_eq(C:YC)(lf:Nat)(n:K0)(KR:KF)(KE:KX):∀F h,evX fx31 C lf [] F h (fun F h=>n h) KR KE=q31_6 C lf n (F 0) (F 1) (F 2) h:=by
 intro F h;kernel_rfl
noncomputable def fs31(C:YC)(lf:Nat)(a0 a1 a2:SV)(h:HW):Rs:=q31_6 C lf ff31 (some a0) (some a1) (some a2) h
theorem fs31_eq(C:YC)(lf:Nat)(a0 a1 a2:SV)(h:HW):yFn Try.prog fx31 C lf [a0,a1,a2] h=fs31 C lf a0 a1 a2 h:=fnX (K:=(fun F h=>ff31 h)) (by kernel_rfl) (((q31_6_eq C lf ff31 (fun F h=>ff31 h) (fun _ _ _=>none)) _ h).trans (by kernel_rfl))
noncomputable def fy31:YX Try.prog:=Y3 fx31 fs31 fs31_eq (by kernel_rfl)
noncomputable def fx32:XF Try.prog:=⟨32,Try.f32,fun _=> .text,Try.func32,by kernel_rfl,by kernel_rfl,by kernel_rfl,by kernel_rfl⟩
noncomputable def ff32(h:HW):Rs:=
 some (.ret (.tup []),h)
noncomputable def q32_22(C:YC)(lf:Nat)(n:K4)(e6:K0)(x0 x133 x134 x135:O)(h:HW):Rs:=
 ob x135 fun a1=>
 ob x134 fun a2=>
 ob (bin Try.prog .lss 3 a1 a2) fun y3=>
 yIf y3
 (ob x133 fun a4=>
 ob x135 fun a5=>
 ob (ixS 1 a4 a5) fun y6=>
 ob (ld1 y6 h) fun y7=>
 ob x0 fun a8=>
 ob (semNil a8) fun y9=>
 ob (fa 0 y9) fun y10=>
 ob (ld1 y10 h) fun y11=>
 ob x0 fun a12=>
 ob (semNil a12) fun y13=>
 ob (fa 0 y13) fun y14=>
 ob (ld1 y14 h) fun y15=>
 ob (lenE Try.prog 23 y15) fun y16=>
 ob (ixS 4 y11 y7) fun y17=>
 ob (fa 3 y17) fun y18=>
 ob (st 1 y18 y16 h) fun h19=>
 ob x135 fun a20=>
 ob (bin Try.prog .add 3 a20 (.int .i64 1)) fun y21=>
 n x0 x133 x134 (some y21) h19)
 (e6 h)
theorem q32_22_eq(C:YC)(lf:Nat)(n:K4)(e6:K0)(KR:KF)(KE:KX):∀F h,evX fx32 C lf [1,1,1,1,1,0,0] F h (fun F h=>n (F 0) (F 133) (F 134) (F 135) h) KR (bk 6 (fun F h=>e6 h) KE)=q32_22 C lf n e6 (F 0) (F 133) (F 134) (F 135) h:=by
 intro F h;kernel_rfl
noncomputable def l32_0(C:YC)(lf:Nat)(e6:K0)(k:O×O×O×O→HW→Rs)(s:O×O×O×O)(h:HW):Rs:=
 q32_22 C lf (fun x0 x133 x134 x135 h=>k (x0,x133,x134,x135) h) e6 s.1 s.2.1 s.2.2.1 s.2.2.2 h
noncomputable def q32_25(C:YC)(lf:Nat)(n:K4)(x0 x7:O)(h:HW):Rs:=
 ob x7 fun a23=>
 ob (lenE Try.prog 62 a23) fun y24=>
 n x0 (some a23) (some y24) (some (.int .i64 0)) h
theorem q32_25_eq(C:YC)(lf:Nat)(n:K4)(KR:KF)(KE:KX):∀F h,evX fx32 C lf [1,1,1,1,0] F h (fun F h=>n (F 0) (F 133) (F 134) (F 135) h) KR KE=q32_25 C lf n (F 0) (F 7) h:=by
 intro F h;kernel_rfl
noncomputable def q32_26(C:YC)(lf:Nat)(n:K0)(x0 x7:O)(h:HW):Rs:=
 q32_25 C lf (fun x0 x133 x134 x135 h=>lp (l32_0 C lf n) lf (x0,x133,x134,x135) h) x0 x7 h
theorem q32_26_eq(C:YC)(lf:Nat)(n:K0)(KR:KF)(KE:KX):∀F h,evX fx32 C lf [1,1,1,1] F h (fun F h=>n h) KR KE=q32_26 C lf n (F 0) (F 7) h:=cSeq (a:=subX fx32 [1,1,1,1,0]) (b:=subX fx32 [1,1,1,1,1]) (by kernel_rfl) (B:=(fun F h=>lp (l32_0 C lf n) lf ((F 0),(F 133),(F 134),(F 135)) h)) (cBlock (id:=6) (a:=subX fx32 [1,1,1,1,1,0]) (by kernel_rfl) (cLoop (a:=subX fx32 [1,1,1,1,1,0,0]) (g:=fun F=>(F 0,F 133,F 134,F 135)) (body:=l32_0 C lf n) (by kernel_rfl) (fun k=>(q32_22_eq C lf (fun x0 x133 x134 x135 h=>k (x0,x133,x134,x135) h) n KR KE)))) (q32_25_eq C lf (fun x0 x133 x134 x135 h=>lp (l32_0 C lf n) lf (x0,x133,x134,x135) h) KR KE)
noncomputable def q32_58(C:YC)(lf:Nat)(n:K6)(e4:K2)(x0 x1 x2 x7 x103 x104:O)(h:HW):Rs:=
 ob x104 fun a28=>
 ob x103 fun a29=>
 ob (bin Try.prog .lss 3 a28 a29) fun y30=>
 yIf y30
 (ob x0 fun a31=>
 ob (semBuild Try.prog 71 [0] [(.int .i64 1)]) fun y32=>
 bc (C (.fn 25) [a31,y32] h) fun y33 h33=>
 ob x7 fun a34=>
 b2 (ybs Try.prog 62 1 [0] [y33] h33) fun y35 h35=>
 b2 (ybl Try.prog .append #[62,62] [a34,y35] h35) fun y36 h36=>
 ob x0 fun a37=>
 ob (semNil a37) fun y38=>
 ob (fa 0 y38) fun y39=>
 ob (ld1 y39 h36) fun y40=>
 ob x0 fun a41=>
 ob (semNil a41) fun y42=>
 ob (fa 0 y42) fun y43=>
 ob (ld1 y43 h36) fun y44=>
 ob (lenE Try.prog 23 y44) fun y45=>
 ob (ixS 4 y40 y33) fun y46=>
 ob (fa 2 y46) fun y47=>
 ob (st 1 y47 y45 h36) fun h48=>
 ob x0 fun a49=>
 ob x1 fun a50=>
 ob (semNil a50) fun y51=>
 ob (fa 0 y51) fun y52=>
 ob (ld1 y52 h48) fun y53=>
 ob x2 fun a54=>
 bc (C (.fn 37) [a49,y53,a54] h48) fun y55 h55=>
 ob x104 fun a56=>
 ob (bin Try.prog .add 3 a56 (.int .i64 1)) fun y57=>
 n x0 x1 x2 (some y36) x103 (some y57) h55)
 (e4 x0 x7 h)
theorem q32_58_eq(C:YC)(lf:Nat)(n:K6)(e4:K2)(KR:KF)(KE:KX):∀F h,evX fx32 C lf [1,1,1,0,1,0,0] F h (fun F h=>n (F 0) (F 1) (F 2) (F 7) (F 103) (F 104) h) KR (bk 4 (fun F h=>e4 (F 0) (F 7) h) KE)=q32_58 C lf n e4 (F 0) (F 1) (F 2) (F 7) (F 103) (F 104) h:=by
 intro F h;kernel_rfl
noncomputable def l32_27(C:YC)(lf:Nat)(e4:K2)(k:O×O×O×O×O×O→HW→Rs)(s:O×O×O×O×O×O)(h:HW):Rs:=
 q32_58 C lf (fun x0 x1 x2 x7 x103 x104 h=>k (x0,x1,x2,x7,x103,x104) h) e4 s.1 s.2.1 s.2.2.1 s.2.2.2.1 s.2.2.2.2.1 s.2.2.2.2.2 h
noncomputable def q32_68(C:YC)(lf:Nat)(n:K6)(x0 x1 x2 x7:O)(h:HW):Rs:=
 ob x1 fun a59=>
 ob (semNil a59) fun y60=>
 ob (fa 2 y60) fun y61=>
 ob (ld1 y61 h) fun y62=>
 ob x1 fun a63=>
 ob (semNil a63) fun y64=>
 ob (fa 1 y64) fun y65=>
 ob (ld1 y65 h) fun y66=>
 ob (bin Try.prog .sub 3 y62 y66) fun y67=>
 n x0 x1 x2 x7 (some y67) (some (.int .i64 0)) h
theorem q32_68_eq(C:YC)(lf:Nat)(n:K6)(KR:KF)(KE:KX):∀F h,evX fx32 C lf [1,1,1,0,0] F h (fun F h=>n (F 0) (F 1) (F 2) (F 7) (F 103) (F 104) h) KR KE=q32_68 C lf n (F 0) (F 1) (F 2) (F 7) h:=by
 intro F h;kernel_rfl
noncomputable def q32_69(C:YC)(lf:Nat)(n:K2)(x0 x1 x2 x7:O)(h:HW):Rs:=
 q32_68 C lf (fun x0 x1 x2 x7 x103 x104 h=>lp (l32_27 C lf n) lf (x0,x1,x2,x7,x103,x104) h) x0 x1 x2 x7 h
theorem q32_69_eq(C:YC)(lf:Nat)(n:K2)(KR:KF)(KE:KX):∀F h,evX fx32 C lf [1,1,1,0] F h (fun F h=>n (F 0) (F 7) h) KR KE=q32_69 C lf n (F 0) (F 1) (F 2) (F 7) h:=cSeq (a:=subX fx32 [1,1,1,0,0]) (b:=subX fx32 [1,1,1,0,1]) (by kernel_rfl) (B:=(fun F h=>lp (l32_27 C lf n) lf ((F 0),(F 1),(F 2),(F 7),(F 103),(F 104)) h)) (cBlock (id:=4) (a:=subX fx32 [1,1,1,0,1,0]) (by kernel_rfl) (cLoop (a:=subX fx32 [1,1,1,0,1,0,0]) (g:=fun F=>(F 0,F 1,F 2,F 7,F 103,F 104)) (body:=l32_27 C lf n) (by kernel_rfl) (fun k=>(q32_58_eq C lf (fun x0 x1 x2 x7 x103 x104 h=>k (x0,x1,x2,x7,x103,x104) h) n KR KE)))) (q32_68_eq C lf (fun x0 x1 x2 x7 x103 x104 h=>lp (l32_27 C lf n) lf (x0,x1,x2,x7,x103,x104) h) KR KE)
noncomputable def q32_70(C:YC)(lf:Nat)(n:K0)(x0 x1 x2 x7:O)(h:HW):Rs:=
 q32_69 C lf (fun x0 x7 h=>q32_26 C lf n x0 x7 h) x0 x1 x2 x7 h
theorem q32_70_eq(C:YC)(lf:Nat)(n:K0)(KR:KF)(KE:KX):∀F h,evX fx32 C lf [1,1,1] F h (fun F h=>n h) KR KE=q32_70 C lf n (F 0) (F 1) (F 2) (F 7) h:=cSeq (a:=subX fx32 [1,1,1,0]) (b:=subX fx32 [1,1,1,1]) (by kernel_rfl) (B:=(fun F h=>q32_26 C lf n (F 0) (F 7) h)) (q32_26_eq C lf n KR KE) (q32_69_eq C lf (fun x0 x7 h=>q32_26 C lf n x0 x7 h) KR KE)
noncomputable def q32_71(C:YC)(lf:Nat)(n:K4)(x0 x1 x2:O)(h:HW):Rs:=
 n x0 x1 x2 (some (.val (.slice none 0 0))) h
theorem q32_71_eq(C:YC)(lf:Nat)(n:K4)(KR:KF)(KE:KX):∀F h,evX fx32 C lf [1,1,0] F h (fun F h=>n (F 0) (F 1) (F 2) (F 7) h) KR KE=q32_71 C lf n (F 0) (F 1) (F 2) h:=by
 intro F h;kernel_rfl
noncomputable def q32_72(C:YC)(lf:Nat)(n:K0)(x0 x1 x2:O)(h:HW):Rs:=
 q32_71 C lf (fun x0 x1 x2 x7 h=>q32_70 C lf n x0 x1 x2 x7 h) x0 x1 x2 h
theorem q32_72_eq(C:YC)(lf:Nat)(n:K0)(KR:KF)(KE:KX):∀F h,evX fx32 C lf [1,1] F h (fun F h=>n h) KR KE=q32_72 C lf n (F 0) (F 1) (F 2) h:=cSeq (a:=subX fx32 [1,1,0]) (b:=subX fx32 [1,1,1]) (by kernel_rfl) (B:=(fun F h=>q32_70 C lf n (F 0) (F 1) (F 2) (F 7) h)) (q32_70_eq C lf n KR KE) (q32_71_eq C lf (fun x0 x1 x2 x7 h=>q32_70 C lf n x0 x1 x2 x7 h) KR KE)
noncomputable def q32_86(C:YC)(lf:Nat)(n:K5)(e2:K3)(x0 x1 x2 x84 x85:O)(h:HW):Rs:=
 ob x85 fun a74=>
 ob x84 fun a75=>
 ob (bin Try.prog .lss 3 a74 a75) fun y76=>
 yIf y76
 (ob x0 fun a77=>
 ob x1 fun a78=>
 ob (semNil a78) fun y79=>
 ob (fa 0 y79) fun y80=>
 ob (ld1 y80 h) fun y81=>
 ob x2 fun a82=>
 bc (C (.fn 35) [a77,y81,a82] h) fun y83 h83=>
 ob x85 fun a84=>
 ob (bin Try.prog .add 3 a84 (.int .i64 1)) fun y85=>
 n x0 x1 x2 x84 (some y85) h83)
 (e2 x0 x1 x2 h)
theorem q32_86_eq(C:YC)(lf:Nat)(n:K5)(e2:K3)(KR:KF)(KE:KX):∀F h,evX fx32 C lf [1,0,1,0,0] F h (fun F h=>n (F 0) (F 1) (F 2) (F 84) (F 85) h) KR (bk 2 (fun F h=>e2 (F 0) (F 1) (F 2) h) KE)=q32_86 C lf n e2 (F 0) (F 1) (F 2) (F 84) (F 85) h:=by
 intro F h;kernel_rfl
noncomputable def l32_73(C:YC)(lf:Nat)(e2:K3)(k:O×O×O×O×O→HW→Rs)(s:O×O×O×O×O)(h:HW):Rs:=
 q32_86 C lf (fun x0 x1 x2 x84 x85 h=>k (x0,x1,x2,x84,x85) h) e2 s.1 s.2.1 s.2.2.1 s.2.2.2.1 s.2.2.2.2 h
noncomputable def q32_91(C:YC)(lf:Nat)(n:K5)(x0 x1 x2:O)(h:HW):Rs:=
 ob x1 fun a87=>
 ob (semNil a87) fun y88=>
 ob (fa 1 y88) fun y89=>
 ob (ld1 y89 h) fun y90=>
 n x0 x1 x2 (some y90) (some (.int .i64 0)) h
theorem q32_91_eq(C:YC)(lf:Nat)(n:K5)(KR:KF)(KE:KX):∀F h,evX fx32 C lf [1,0,0] F h (fun F h=>n (F 0) (F 1) (F 2) (F 84) (F 85) h) KR KE=q32_91 C lf n (F 0) (F 1) (F 2) h:=by
 intro F h;kernel_rfl
noncomputable def q32_92(C:YC)(lf:Nat)(n:K3)(x0 x1 x2:O)(h:HW):Rs:=
 q32_91 C lf (fun x0 x1 x2 x84 x85 h=>lp (l32_73 C lf n) lf (x0,x1,x2,x84,x85) h) x0 x1 x2 h
theorem q32_92_eq(C:YC)(lf:Nat)(n:K3)(KR:KF)(KE:KX):∀F h,evX fx32 C lf [1,0] F h (fun F h=>n (F 0) (F 1) (F 2) h) KR KE=q32_92 C lf n (F 0) (F 1) (F 2) h:=cSeq (a:=subX fx32 [1,0,0]) (b:=subX fx32 [1,0,1]) (by kernel_rfl) (B:=(fun F h=>lp (l32_73 C lf n) lf ((F 0),(F 1),(F 2),(F 84),(F 85)) h)) (cBlock (id:=2) (a:=subX fx32 [1,0,1,0]) (by kernel_rfl) (cLoop (a:=subX fx32 [1,0,1,0,0]) (g:=fun F=>(F 0,F 1,F 2,F 84,F 85)) (body:=l32_73 C lf n) (by kernel_rfl) (fun k=>(q32_86_eq C lf (fun x0 x1 x2 x84 x85 h=>k (x0,x1,x2,x84,x85) h) n KR KE)))) (q32_91_eq C lf (fun x0 x1 x2 x84 x85 h=>lp (l32_73 C lf n) lf (x0,x1,x2,x84,x85) h) KR KE)
noncomputable def q32_93(C:YC)(lf:Nat)(n:K0)(x0 x1 x2:O)(h:HW):Rs:=
 q32_92 C lf (fun x0 x1 x2 h=>q32_72 C lf n x0 x1 x2 h) x0 x1 x2 h
theorem q32_93_eq(C:YC)(lf:Nat)(n:K0)(KR:KF)(KE:KX):∀F h,evX fx32 C lf [1] F h (fun F h=>n h) KR KE=q32_93 C lf n (F 0) (F 1) (F 2) h:=cSeq (a:=subX fx32 [1,0]) (b:=subX fx32 [1,1]) (by kernel_rfl) (B:=(fun F h=>q32_72 C lf n (F 0) (F 1) (F 2) h)) (q32_72_eq C lf n KR KE) (q32_92_eq C lf (fun x0 x1 x2 h=>q32_72 C lf n x0 x1 x2 h) KR KE)
noncomputable def q32_143(C:YC)(lf:Nat)(r:K0)(x0 x1 x2:O)(h:HW):Rs:=
 ob x1 fun a94=>
 ob (semNil a94) fun y95=>
 ob (fa 1 y95) fun y96=>
 ob (ld1 y96 h) fun y97=>
 ob (bin Try.prog .gtr 3 y97 (.int .i64 0)) fun y98=>
 yIf y98
 (ob x0 fun a99=>
 ob x1 fun a100=>
 ob (semNil a100) fun y101=>
 ob (fa 0 y101) fun y102=>
 ob (ld1 y102 h) fun y103=>
 ob x2 fun a104=>
 bc (C (.fn 36) [a99,y103,a104] h) fun y105 h105=>
 r h105)
 (ob x0 fun a106=>
 ob (semBuild Try.prog 71 [0] [(.int .i64 1)]) fun y107=>
 bc (C (.fn 25) [a106,y107] h) fun y108 h108=>
 ob x0 fun a109=>
 ob (semNil a109) fun y110=>
 ob (fa 0 y110) fun y111=>
 ob (ld1 y111 h108) fun y112=>
 ob x0 fun a113=>
 ob (semNil a113) fun y114=>
 ob (fa 0 y114) fun y115=>
 ob (ld1 y115 h108) fun y116=>
 ob (lenE Try.prog 23 y116) fun y117=>
 ob (ixS 4 y112 y108) fun y118=>
 ob (fa 2 y118) fun y119=>
 ob (st 1 y119 y117 h108) fun h120=>
 ob x0 fun a121=>
 ob x1 fun a122=>
 ob (semNil a122) fun y123=>
 ob (fa 0 y123) fun y124=>
 ob (ld1 y124 h120) fun y125=>
 ob x2 fun a126=>
 bc (C (.fn 37) [a121,y125,a126] h120) fun y127 h127=>
 ob x0 fun a128=>
 ob (semBuild Try.prog 71 [0,2] [(.int .i64 2),y108]) fun y129=>
 bc (C (.fn 25) [a128,y129] h127) fun y130 h130=>
 ob x0 fun a131=>
 ob (semNil a131) fun y132=>
 ob (fa 0 y132) fun y133=>
 ob (ld1 y133 h130) fun y134=>
 ob x0 fun a135=>
 ob (semNil a135) fun y136=>
 ob (fa 0 y136) fun y137=>
 ob (ld1 y137 h130) fun y138=>
 ob (lenE Try.prog 23 y138) fun y139=>
 ob (ixS 4 y134 y108) fun y140=>
 ob (fa 3 y140) fun y141=>
 ob (st 1 y141 y139 h130) fun h142=>
 r h142)
theorem q32_143_eq(C:YC)(lf:Nat)(r:K0)(KN:KF)(KE:KX):∀F h,evX fx32 C lf [0,1,0,1] F h KN (fun F h=>r h) KE=q32_143 C lf r (F 0) (F 1) (F 2) h:=by
 intro F h;kernel_rfl
noncomputable def q32_157(C:YC)(lf:Nat)(n:K5)(e0:K3)(x0 x1 x2 x20 x21:O)(h:HW):Rs:=
 ob x21 fun a145=>
 ob x20 fun a146=>
 ob (bin Try.prog .lss 3 a145 a146) fun y147=>
 yIf y147
 (ob x0 fun a148=>
 ob x1 fun a149=>
 ob (semNil a149) fun y150=>
 ob (fa 0 y150) fun y151=>
 ob (ld1 y151 h) fun y152=>
 ob x2 fun a153=>
 bc (C (.fn 35) [a148,y152,a153] h) fun y154 h154=>
 ob x21 fun a155=>
 ob (bin Try.prog .add 3 a155 (.int .i64 1)) fun y156=>
 n x0 x1 x2 x20 (some y156) h154)
 (e0 x0 x1 x2 h)
theorem q32_157_eq(C:YC)(lf:Nat)(n:K5)(e0:K3)(KR:KF)(KE:KX):∀F h,evX fx32 C lf [0,1,0,0,1,0,0] F h (fun F h=>n (F 0) (F 1) (F 2) (F 20) (F 21) h) KR (bk 0 (fun F h=>e0 (F 0) (F 1) (F 2) h) KE)=q32_157 C lf n e0 (F 0) (F 1) (F 2) (F 20) (F 21) h:=by
 intro F h;kernel_rfl
noncomputable def l32_144(C:YC)(lf:Nat)(e0:K3)(k:O×O×O×O×O→HW→Rs)(s:O×O×O×O×O)(h:HW):Rs:=
 q32_157 C lf (fun x0 x1 x2 x20 x21 h=>k (x0,x1,x2,x20,x21) h) e0 s.1 s.2.1 s.2.2.1 s.2.2.2.1 s.2.2.2.2 h
noncomputable def q32_163(C:YC)(lf:Nat)(n:K5)(x0 x1 x2:O)(h:HW):Rs:=
 ob x1 fun a158=>
 ob (semNil a158) fun y159=>
 ob (fa 1 y159) fun y160=>
 ob (ld1 y160 h) fun y161=>
 ob (bin Try.prog .sub 3 y161 (.int .i64 1)) fun y162=>
 n x0 x1 x2 (some y162) (some (.int .i64 0)) h
theorem q32_163_eq(C:YC)(lf:Nat)(n:K5)(KR:KF)(KE:KX):∀F h,evX fx32 C lf [0,1,0,0,0] F h (fun F h=>n (F 0) (F 1) (F 2) (F 20) (F 21) h) KR KE=q32_163 C lf n (F 0) (F 1) (F 2) h:=by
 intro F h;kernel_rfl
noncomputable def q32_164(C:YC)(lf:Nat)(n:K3)(x0 x1 x2:O)(h:HW):Rs:=
 q32_163 C lf (fun x0 x1 x2 x20 x21 h=>lp (l32_144 C lf n) lf (x0,x1,x2,x20,x21) h) x0 x1 x2 h
theorem q32_164_eq(C:YC)(lf:Nat)(n:K3)(KR:KF)(KE:KX):∀F h,evX fx32 C lf [0,1,0,0] F h (fun F h=>n (F 0) (F 1) (F 2) h) KR KE=q32_164 C lf n (F 0) (F 1) (F 2) h:=cSeq (a:=subX fx32 [0,1,0,0,0]) (b:=subX fx32 [0,1,0,0,1]) (by kernel_rfl) (B:=(fun F h=>lp (l32_144 C lf n) lf ((F 0),(F 1),(F 2),(F 20),(F 21)) h)) (cBlock (id:=0) (a:=subX fx32 [0,1,0,0,1,0]) (by kernel_rfl) (cLoop (a:=subX fx32 [0,1,0,0,1,0,0]) (g:=fun F=>(F 0,F 1,F 2,F 20,F 21)) (body:=l32_144 C lf n) (by kernel_rfl) (fun k=>(q32_157_eq C lf (fun x0 x1 x2 x20 x21 h=>k (x0,x1,x2,x20,x21) h) n KR KE)))) (q32_163_eq C lf (fun x0 x1 x2 x20 x21 h=>lp (l32_144 C lf n) lf (x0,x1,x2,x20,x21) h) KR KE)
noncomputable def q32_165(C:YC)(lf:Nat)(r:K0)(x0 x1 x2:O)(h:HW):Rs:=
 q32_164 C lf (fun x0 x1 x2 h=>q32_143 C lf r x0 x1 x2 h) x0 x1 x2 h
theorem q32_165_eq(C:YC)(lf:Nat)(r:K0)(KN:KF)(KE:KX):∀F h,evX fx32 C lf [0,1,0] F h KN (fun F h=>r h) KE=q32_165 C lf r (F 0) (F 1) (F 2) h:=cSeq (a:=subX fx32 [0,1,0,0]) (b:=subX fx32 [0,1,0,1]) (by kernel_rfl) (B:=(fun F h=>q32_143 C lf r (F 0) (F 1) (F 2) h)) (q32_143_eq C lf r KN KE) (q32_164_eq C lf (fun x0 x1 x2 h=>q32_143 C lf r x0 x1 x2 h) (fun F h=>r h) KE)
noncomputable def q32_166(C:YC)(lf:Nat)(n:K3)(x0 x1 x2:O)(h:HW):Rs:=
 n x0 x1 x2 h
theorem q32_166_eq(C:YC)(lf:Nat)(n:K3)(KR:KF)(KE:KX):∀F h,evX fx32 C lf [0,1,1] F h (fun F h=>n (F 0) (F 1) (F 2) h) KR KE=q32_166 C lf n (F 0) (F 1) (F 2) h:=by
 intro F h;kernel_rfl
noncomputable def q32_168(C:YC)(lf:Nat)(n:K3)(r:K0)(x0 x1 x2 x15:O)(h:HW):Rs:=
 ob x15 fun a167=>
 yIf a167
 (q32_165 C lf r x0 x1 x2 h)
 (q32_166 C lf n x0 x1 x2 h)
theorem q32_168_eq(C:YC)(lf:Nat)(n:K3)(r:K0)(KE:KX):∀F h,evX fx32 C lf [0,1] F h (fun F h=>n (F 0) (F 1) (F 2) h) (fun F h=>r h) KE=q32_168 C lf n r (F 0) (F 1) (F 2) (F 15) h:=cCond (x:= .tmp 15) (by kernel_rfl) (q32_165_eq C lf r (fun F h=>n (F 0) (F 1) (F 2) h) KE) (q32_166_eq C lf n (fun F h=>r h) KE)
noncomputable def q32_174(C:YC)(lf:Nat)(n:K4)(x0 x1 x2:O)(h:HW):Rs:=
 ob x1 fun a169=>
 ob (semNil a169) fun y170=>
 ob (fa 2 y170) fun y171=>
 ob (ld1 y171 h) fun y172=>
 ob (bin Try.prog .lss 3 y172 (.int .i64 0)) fun y173=>
 n x0 x1 x2 (some y173) h
theorem q32_174_eq(C:YC)(lf:Nat)(n:K4)(KR:KF)(KE:KX):∀F h,evX fx32 C lf [0,0] F h (fun F h=>n (F 0) (F 1) (F 2) (F 15) h) KR KE=q32_174 C lf n (F 0) (F 1) (F 2) h:=by
 intro F h;kernel_rfl
noncomputable def q32_175(C:YC)(lf:Nat)(n:K3)(r:K0)(x0 x1 x2:O)(h:HW):Rs:=
 q32_174 C lf (fun x0 x1 x2 x15 h=>q32_168 C lf n r x0 x1 x2 x15 h) x0 x1 x2 h
theorem q32_175_eq(C:YC)(lf:Nat)(n:K3)(r:K0)(KE:KX):∀F h,evX fx32 C lf [0] F h (fun F h=>n (F 0) (F 1) (F 2) h) (fun F h=>r h) KE=q32_175 C lf n r (F 0) (F 1) (F 2) h:=cSeq (a:=subX fx32 [0,0]) (b:=subX fx32 [0,1]) (by kernel_rfl) (B:=(fun F h=>q32_168 C lf n r (F 0) (F 1) (F 2) (F 15) h)) (q32_168_eq C lf n r KE) (q32_174_eq C lf (fun x0 x1 x2 x15 h=>q32_168 C lf n r x0 x1 x2 x15 h) (fun F h=>r h) KE)
noncomputable def q32_176(C:YC)(lf:Nat)(n:K0)(r:K0)(x0 x1 x2:O)(h:HW):Rs:=
 q32_175 C lf (fun x0 x1 x2 h=>q32_93 C lf n x0 x1 x2 h) r x0 x1 x2 h
theorem q32_176_eq(C:YC)(lf:Nat)(n:K0)(r:K0)(KE:KX):∀F h,evX fx32 C lf [] F h (fun F h=>n h) (fun F h=>r h) KE=q32_176 C lf n r (F 0) (F 1) (F 2) h:=cSeq (a:=subX fx32 [0]) (b:=subX fx32 [1]) (by kernel_rfl) (B:=(fun F h=>q32_93 C lf n (F 0) (F 1) (F 2) h)) (q32_93_eq C lf n (fun F h=>r h) KE) (q32_175_eq C lf (fun x0 x1 x2 h=>q32_93 C lf n x0 x1 x2 h) r KE)
noncomputable def fs32(C:YC)(lf:Nat)(a0 a1 a2:SV)(h:HW):Rs:=q32_176 C lf ff32 ff32 (some a0) (some a1) (some a2) h
theorem fs32_eq(C:YC)(lf:Nat)(a0 a1 a2:SV)(h:HW):yFn Try.prog fx32 C lf [a0,a1,a2] h=fs32 C lf a0 a1 a2 h:=fnX (K:=(fun F h=>ff32 h)) (by kernel_rfl) (((q32_176_eq C lf ff32 ff32 (fun _ _ _=>none)) _ h).trans (by kernel_rfl))
noncomputable def fy32:YX Try.prog:=Y3 fx32 fs32 fs32_eq (by kernel_rfl)
noncomputable def fx33:XF Try.prog:=⟨33,Try.f33,fun _=> .text,Try.func33,by kernel_rfl,by kernel_rfl,by kernel_rfl,by kernel_rfl⟩
noncomputable def ff33(x2:O)(h:HW):Rs:=
 ob x2 fun a0=>
 some (.ret a0,h)
noncomputable def q33_2(C:YC)(lf:Nat)(r:K1)(x3:O)(h:HW):Rs:=
 ob x3 fun a1=>
 r (some (.ifc 105 a1)) h
theorem q33_2_eq(C:YC)(lf:Nat)(r:K1)(KN:KF)(KE:KX):∀F h,evX fx33 C lf [1,1,1,1] F h KN (fun F h=>r (F 2) h) KE=q33_2 C lf r (F 3) h:=by
 intro F h;kernel_rfl
noncomputable def q33_8(C:YC)(lf:Nat)(n:K3)(x0 x3 x4 x8:O)(h:HW):Rs:=
 ob x3 fun a4=>
 ob x8 fun a5=>
 b2 (ybs Try.prog 105 1 [0] [a5] h) fun y6 h6=>
 b2 (ybl Try.prog .append #[105,105] [a4,y6] h6) fun y7 h7=>
 n x0 (some y7) x4 h7
theorem q33_8_eq(C:YC)(lf:Nat)(n:K3)(KR:KF)(K1:KF)(K0:KF)(KE:KX):∀F h,evX fx33 C lf [1,1,1,0,0,0,1,0,1,1,1,1,1] F h (fun F h=>n (F 0) (F 3) (F 4) h) KR (bk 1 K1 (bk 0 K0 KE))=q33_8 C lf n (F 0) (F 3) (F 4) (F 8) h:=by
 intro F h;kernel_rfl
noncomputable def q33_16(C:YC)(lf:Nat)(n:K4)(e2:K4)(x0 x3 x4 x8:O)(h:HW):Rs:=
 ob x0 fun a10=>
 ob x8 fun a11=>
 bc (C (.fn 43) [a10,a11] h) fun y12 h12=>
 ob (ext 0 y12) fun y13=>
 ob (ext 1 y12) fun y14=>
 ob (unE .not y14) fun y15=>
 yIf y15
 (e2 x0 x3 x4 x8 h12)
 (n x0 x3 x4 (some y13) h12)
theorem q33_16_eq(C:YC)(lf:Nat)(n:K4)(e2:K4)(KR:KF)(K1:KF)(K0:KF)(KE:KX):∀F h,evX fx33 C lf [1,1,1,0,0,0,1,0,1,1,1,1,0,0,0] F h (fun F h=>n (F 0) (F 3) (F 4) (F 8) h) KR (bk 2 (fun F h=>e2 (F 0) (F 3) (F 4) (F 8) h) (bk 1 K1 (bk 0 K0 KE)))=q33_16 C lf n e2 (F 0) (F 3) (F 4) (F 8) h:=by
 intro F h;kernel_rfl
noncomputable def l33_9(C:YC)(lf:Nat)(e2:K4)(k:O×O×O×O→HW→Rs)(s:O×O×O×O)(h:HW):Rs:=
 q33_16 C lf (fun x0 x3 x4 x8 h=>k (x0,x3,x4,x8) h) e2 s.1 s.2.1 s.2.2.1 s.2.2.2 h
noncomputable def q33_17(C:YC)(lf:Nat)(n:K3)(x0 x3 x4 x8:O)(h:HW):Rs:=
 lp (l33_9 C lf (fun x0 x3 x4 x8 h=>q33_8 C lf n x0 x3 x4 x8 h)) lf (x0,x3,x4,x8) h
theorem q33_17_eq(C:YC)(lf:Nat)(n:K3)(KR:KF)(K1:KF)(K0:KF)(KE:KX):∀F h,evX fx33 C lf [1,1,1,0,0,0,1,0,1,1,1,1] F h (fun F h=>n (F 0) (F 3) (F 4) h) KR (bk 1 K1 (bk 0 K0 KE))=q33_17 C lf n (F 0) (F 3) (F 4) (F 8) h:=cSeq (a:=subX fx33 [1,1,1,0,0,0,1,0,1,1,1,1,0]) (b:=subX fx33 [1,1,1,0,0,0,1,0,1,1,1,1,1]) (by kernel_rfl) (B:=(fun F h=>q33_8 C lf n (F 0) (F 3) (F 4) (F 8) h)) (q33_8_eq C lf n KR K1 K0 KE) (cBlock (id:=2) (a:=subX fx33 [1,1,1,0,0,0,1,0,1,1,1,1,0,0]) (by kernel_rfl) (cLoop (a:=subX fx33 [1,1,1,0,0,0,1,0,1,1,1,1,0,0,0]) (g:=fun F=>(F 0,F 3,F 4,F 8)) (body:=l33_9 C lf (fun x0 x3 x4 x8 h=>q33_8 C lf n x0 x3 x4 x8 h)) (by kernel_rfl) (fun k=>(q33_16_eq C lf (fun x0 x3 x4 x8 h=>k (x0,x3,x4,x8) h) (fun x0 x3 x4 x8 h=>q33_8 C lf n x0 x3 x4 x8 h) KR K1 K0 KE))))
noncomputable def q33_18(C:YC)(lf:Nat)(n:K4)(x0 x3 x8:O)(h:HW):Rs:=
 n x0 x3 (some (.bool false)) x8 h
theorem q33_18_eq(C:YC)(lf:Nat)(n:K4)(KR:KF)(K1:KF)(K0:KF)(KE:KX):∀F h,evX fx33 C lf [1,1,1,0,0,0,1,0,1,1,1,0] F h (fun F h=>n (F 0) (F 3) (F 4) (F 8) h) KR (bk 1 K1 (bk 0 K0 KE))=q33_18 C lf n (F 0) (F 3) (F 8) h:=by
 intro F h;kernel_rfl
noncomputable def q33_19(C:YC)(lf:Nat)(n:K3)(x0 x3 x8:O)(h:HW):Rs:=
 q33_18 C lf (fun x0 x3 x4 x8 h=>q33_17 C lf n x0 x3 x4 x8 h) x0 x3 x8 h
theorem q33_19_eq(C:YC)(lf:Nat)(n:K3)(KR:KF)(K1:KF)(K0:KF)(KE:KX):∀F h,evX fx33 C lf [1,1,1,0,0,0,1,0,1,1,1] F h (fun F h=>n (F 0) (F 3) (F 4) h) KR (bk 1 K1 (bk 0 K0 KE))=q33_19 C lf n (F 0) (F 3) (F 8) h:=cSeq (a:=subX fx33 [1,1,1,0,0,0,1,0,1,1,1,0]) (b:=subX fx33 [1,1,1,0,0,0,1,0,1,1,1,1]) (by kernel_rfl) (B:=(fun F h=>q33_17 C lf n (F 0) (F 3) (F 4) (F 8) h)) (q33_17_eq C lf n KR K1 K0 KE) (q33_18_eq C lf (fun x0 x3 x4 x8 h=>q33_17 C lf n x0 x3 x4 x8 h) KR K1 K0 KE)
noncomputable def q33_23(C:YC)(lf:Nat)(n:K3)(x0 x3 x4:O)(h:HW):Rs:=
 ob x0 fun a20=>
 ob x4 fun a21=>
 bc (C (.fn 42) [a20,a21] h) fun y22 h22=>
 n x0 x3 (some y22) h22
theorem q33_23_eq(C:YC)(lf:Nat)(n:K3)(KR:KF)(K1:KF)(K0:KF)(KE:KX):∀F h,evX fx33 C lf [1,1,1,0,0,0,1,0,1,1,0] F h (fun F h=>n (F 0) (F 3) (F 8) h) KR (bk 1 K1 (bk 0 K0 KE))=q33_23 C lf n (F 0) (F 3) (F 4) h:=by
 intro F h;kernel_rfl
noncomputable def q33_24(C:YC)(lf:Nat)(n:K3)(x0 x3 x4:O)(h:HW):Rs:=
 q33_23 C lf (fun x0 x3 x8 h=>q33_19 C lf n x0 x3 x8 h) x0 x3 x4 h
theorem q33_24_eq(C:YC)(lf:Nat)(n:K3)(KR:KF)(K1:KF)(K0:KF)(KE:KX):∀F h,evX fx33 C lf [1,1,1,0,0,0,1,0,1,1] F h (fun F h=>n (F 0) (F 3) (F 4) h) KR (bk 1 K1 (bk 0 K0 KE))=q33_24 C lf n (F 0) (F 3) (F 4) h:=cSeq (a:=subX fx33 [1,1,1,0,0,0,1,0,1,1,0]) (b:=subX fx33 [1,1,1,0,0,0,1,0,1,1,1]) (by kernel_rfl) (B:=(fun F h=>q33_19 C lf n (F 0) (F 3) (F 8) h)) (q33_19_eq C lf n KR K1 K0 KE) (q33_23_eq C lf (fun x0 x3 x8 h=>q33_19 C lf n x0 x3 x8 h) KR K1 K0 KE)
noncomputable def q33_37(C:YC)(lf:Nat)(n:K3)(e1:K3)(x0 x3 x4 x5:O)(h:HW):Rs:=
 ob x0 fun a25=>
 ob x5 fun a26=>
 bc (C (.fn 40) [a25,a26] h) fun y27 h27=>
 ob (ext 0 y27) fun y28=>
 ob (ext 1 y27) fun y29=>
 yIf y29
 (ob x3 fun a30=>
 b2 (ybs Try.prog 105 1 [0] [y28] h27) fun y31 h31=>
 b2 (ybl Try.prog .append #[105,105] [a30,y31] h31) fun y32 h32=>
 ob x0 fun a33=>
 bc (C (.fn 41) [a33,(.bool false)] h32) fun y34 h34=>
 yIf y34
 (ob (semBuild Try.prog 89 [] []) fun y35=>
 yPan false [(.ifc 89 y35)] h34)
 (ob x5 fun a36=>
 e1 x0 (some y32) (some a36) h34))
 (n x0 x3 x4 h27)
theorem q33_37_eq(C:YC)(lf:Nat)(n:K3)(e1:K3)(KR:KF)(K0:KF)(KE:KX):∀F h,evX fx33 C lf [1,1,1,0,0,0,1,0,1,0] F h (fun F h=>n (F 0) (F 3) (F 4) h) KR (bk 1 (fun F h=>e1 (F 0) (F 3) (F 4) h) (bk 0 K0 KE))=q33_37 C lf n e1 (F 0) (F 3) (F 4) (F 5) h:=by
 intro F h;kernel_rfl
noncomputable def q33_38(C:YC)(lf:Nat)(n:K3)(e1:K3)(x0 x3 x4 x5:O)(h:HW):Rs:=
 q33_37 C lf (fun x0 x3 x4 h=>q33_24 C lf n x0 x3 x4 h) e1 x0 x3 x4 x5 h
theorem q33_38_eq(C:YC)(lf:Nat)(n:K3)(e1:K3)(KR:KF)(K0:KF)(KE:KX):∀F h,evX fx33 C lf [1,1,1,0,0,0,1,0,1] F h (fun F h=>n (F 0) (F 3) (F 4) h) KR (bk 1 (fun F h=>e1 (F 0) (F 3) (F 4) h) (bk 0 K0 KE))=q33_38 C lf n e1 (F 0) (F 3) (F 4) (F 5) h:=cSeq (a:=subX fx33 [1,1,1,0,0,0,1,0,1,0]) (b:=subX fx33 [1,1,1,0,0,0,1,0,1,1]) (by kernel_rfl) (B:=(fun F h=>q33_24 C lf n (F 0) (F 3) (F 4) h)) (q33_24_eq C lf n KR (fun F h=>e1 (F 0) (F 3) (F 4) h) K0 KE) (q33_37_eq C lf (fun x0 x3 x4 h=>q33_24 C lf n x0 x3 x4 h) e1 KR K0 KE)
noncomputable def q33_42(C:YC)(lf:Nat)(n:K4)(x0 x3 x4:O)(h:HW):Rs:=
 ob x3 fun a39=>
 ob (lenE Try.prog 105 a39) fun y40=>
 ob (bin Try.prog .eql 3 y40 (.int .i64 0)) fun y41=>
 n x0 x3 x4 (some y41) h
theorem q33_42_eq(C:YC)(lf:Nat)(n:K4)(KR:KF)(K1:KF)(K0:KF)(KE:KX):∀F h,evX fx33 C lf [1,1,1,0,0,0,1,0,0] F h (fun F h=>n (F 0) (F 3) (F 4) (F 5) h) KR (bk 1 K1 (bk 0 K0 KE))=q33_42 C lf n (F 0) (F 3) (F 4) h:=by
 intro F h;kernel_rfl
noncomputable def q33_43(C:YC)(lf:Nat)(n:K3)(e1:K3)(x0 x3 x4:O)(h:HW):Rs:=
 q33_42 C lf (fun x0 x3 x4 x5 h=>q33_38 C lf n e1 x0 x3 x4 x5 h) x0 x3 x4 h
theorem q33_43_eq(C:YC)(lf:Nat)(n:K3)(e1:K3)(KR:KF)(K0:KF)(KE:KX):∀F h,evX fx33 C lf [1,1,1,0,0,0,1,0] F h (fun F h=>n (F 0) (F 3) (F 4) h) KR (bk 1 (fun F h=>e1 (F 0) (F 3) (F 4) h) (bk 0 K0 KE))=q33_43 C lf n e1 (F 0) (F 3) (F 4) h:=cSeq (a:=subX fx33 [1,1,1,0,0,0,1,0,0]) (b:=subX fx33 [1,1,1,0,0,0,1,0,1]) (by kernel_rfl) (B:=(fun F h=>q33_38 C lf n e1 (F 0) (F 3) (F 4) (F 5) h)) (q33_38_eq C lf n e1 KR K0 KE) (q33_42_eq C lf (fun x0 x3 x4 x5 h=>q33_38 C lf n e1 x0 x3 x4 x5 h) KR (fun F h=>e1 (F 0) (F 3) (F 4) h) K0 KE)
noncomputable def q33_76(C:YC)(lf:Nat)(n:K3)(e0:K1)(x0 x3 x4:O)(h:HW):Rs:=
 ob x0 fun a44=>
 bc (C (.fn 29) [a44] h) fun y45 h45=>
 ob (unE .not y45) fun y46=>
 bc (gd true (some y46) (ob x0 fun a47=>
 some (.ret a47,h45)) h45) fun y48 h48=>
 bc (gd true (some y46) (ob x0 fun a49=>
 some (.ret a49,h48)) h48) fun y50 h50=>
 bc (gd true (some y46) (bc (C (.fn 39) [y50] h50) fun y51 h51=>
 some (.ret y51,h51)) h50) fun y52 h52=>
 bc (gd true (some y46) (bc (C (.fn 38) [y48,y52] h52) fun y53 h53=>
 some (.ret y53,h53)) h52) fun y54 h54=>
 bc (gd true (some y46) (ob (unE .not y54) fun y55=>
 some (.ret y55,h54)) h54) fun y56 h56=>
 ob (ypk y46 y56 (.bool false)) fun y57=>
 bc (gd true (some y57) (ob x0 fun a58=>
 some (.ret a58,h56)) h56) fun y59 h59=>
 bc (gd true (some y57) (ob (semNil y59) fun y60=>
 some (.ret y60,h59)) h59) fun y61 h61=>
 bc (gd true (some y57) (ob (fa 2 y61) fun y62=>
 some (.ret y62,h61)) h61) fun y63 h63=>
 bc (gd true (some y57) (ob (ld1 y63 h63) fun y64=>
 some (.ret y64,h63)) h63) fun y65 h65=>
 bc (gd true (some y57) (some (.ret y65,h65)) h65) fun y66 h66=>
 bc (gd true (some y66) (ob x0 fun a67=>
 some (.ret a67,h66)) h66) fun y68 h68=>
 bc (gd true (some y66) (bc (C (.fn 38) [y68,(.str (bs [124]))] h68) fun y69 h69=>
 some (.ret y69,h69)) h68) fun y70 h70=>
 bc (gd true (some y57) (ob (ypk y66 y70 (.bool false)) fun y71=>
 some (.ret y71,h70)) h70) fun y72 h72=>
 bc (gd true (some y57) (ob (unE .not y72) fun y73=>
 some (.ret y73,h72)) h72) fun y74 h74=>
 ob (ypk y57 y74 (.bool false)) fun y75=>
 yIf y75
 (n x0 x3 x4 h74)
 (e0 x3 h74)
theorem q33_76_eq(C:YC)(lf:Nat)(n:K3)(e0:K1)(KR:KF)(KE:KX):∀F h,evX fx33 C lf [1,1,1,0,0,0,0] F h (fun F h=>n (F 0) (F 3) (F 4) h) KR (bk 0 (fun F h=>e0 (F 3) h) KE)=q33_76 C lf n e0 (F 0) (F 3) (F 4) h:=by
 intro F h;kernel_rfl
noncomputable def q33_77(C:YC)(lf:Nat)(n:K3)(e0:K1)(x0 x3 x4:O)(h:HW):Rs:=
 q33_76 C lf (fun x0 x3 x4 h=>q33_43 C lf n n x0 x3 x4 h) e0 x0 x3 x4 h
theorem q33_77_eq(C:YC)(lf:Nat)(n:K3)(e0:K1)(KR:KF)(KE:KX):∀F h,evX fx33 C lf [1,1,1,0,0,0] F h (fun F h=>n (F 0) (F 3) (F 4) h) KR (bk 0 (fun F h=>e0 (F 3) h) KE)=q33_77 C lf n e0 (F 0) (F 3) (F 4) h:=cSeq (a:=subX fx33 [1,1,1,0,0,0,0]) (b:=subX fx33 [1,1,1,0,0,0,1]) (by kernel_rfl) (B:=(fun F h=>q33_43 C lf n n (F 0) (F 3) (F 4) h)) (cBlock (id:=1) (a:=subX fx33 [1,1,1,0,0,0,1,0]) (by kernel_rfl) (q33_43_eq C lf n n KR (fun F h=>e0 (F 3) h) KE)) (q33_76_eq C lf (fun x0 x3 x4 h=>q33_43 C lf n n x0 x3 x4 h) e0 KR KE)
noncomputable def l33_3(C:YC)(lf:Nat)(e0:K1)(k:O×O×O→HW→Rs)(s:O×O×O)(h:HW):Rs:=
 q33_77 C lf (fun x0 x3 x4 h=>k (x0,x3,x4) h) e0 s.1 s.2.1 s.2.2 h
noncomputable def q33_78(C:YC)(lf:Nat)(r:K1)(x0 x3 x4:O)(h:HW):Rs:=
 lp (l33_3 C lf (fun x3 h=>q33_2 C lf r x3 h)) lf (x0,x3,x4) h
theorem q33_78_eq(C:YC)(lf:Nat)(r:K1)(KN:KF)(KE:KX):∀F h,evX fx33 C lf [1,1,1] F h KN (fun F h=>r (F 2) h) KE=q33_78 C lf r (F 0) (F 3) (F 4) h:=cSeq (a:=subX fx33 [1,1,1,0]) (b:=subX fx33 [1,1,1,1]) (by kernel_rfl) (B:=(fun F h=>q33_2 C lf r (F 3) h)) (q33_2_eq C lf r KN KE) (cBlock (id:=0) (a:=subX fx33 [1,1,1,0,0]) (by kernel_rfl) (cLoop (a:=subX fx33 [1,1,1,0,0,0]) (g:=fun F=>(F 0,F 3,F 4)) (body:=l33_3 C lf (fun x3 h=>q33_2 C lf r x3 h)) (by kernel_rfl) (fun k=>(q33_77_eq C lf (fun x0 x3 x4 h=>k (x0,x3,x4) h) (fun x3 h=>q33_2 C lf r x3 h) (fun F h=>r (F 2) h) KE))))
noncomputable def q33_79(C:YC)(lf:Nat)(n:K3)(x0 x3:O)(h:HW):Rs:=
 n x0 x3 (some (.bool true)) h
theorem q33_79_eq(C:YC)(lf:Nat)(n:K3)(KR:KF)(KE:KX):∀F h,evX fx33 C lf [1,1,0] F h (fun F h=>n (F 0) (F 3) (F 4) h) KR KE=q33_79 C lf n (F 0) (F 3) h:=by
 intro F h;kernel_rfl
noncomputable def q33_80(C:YC)(lf:Nat)(r:K1)(x0 x3:O)(h:HW):Rs:=
 q33_79 C lf (fun x0 x3 x4 h=>q33_78 C lf r x0 x3 x4 h) x0 x3 h
theorem q33_80_eq(C:YC)(lf:Nat)(r:K1)(KN:KF)(KE:KX):∀F h,evX fx33 C lf [1,1] F h KN (fun F h=>r (F 2) h) KE=q33_80 C lf r (F 0) (F 3) h:=cSeq (a:=subX fx33 [1,1,0]) (b:=subX fx33 [1,1,1]) (by kernel_rfl) (B:=(fun F h=>q33_78 C lf r (F 0) (F 3) (F 4) h)) (q33_78_eq C lf r KN KE) (q33_79_eq C lf (fun x0 x3 x4 h=>q33_78 C lf r x0 x3 x4 h) (fun F h=>r (F 2) h) KE)
noncomputable def q33_81(C:YC)(lf:Nat)(n:K2)(x0:O)(h:HW):Rs:=
 n x0 (some (.val (.slice none 0 0))) h
theorem q33_81_eq(C:YC)(lf:Nat)(n:K2)(KR:KF)(KE:KX):∀F h,evX fx33 C lf [1,0] F h (fun F h=>n (F 0) (F 3) h) KR KE=q33_81 C lf n (F 0) h:=by
 intro F h;kernel_rfl
noncomputable def q33_82(C:YC)(lf:Nat)(r:K1)(x0:O)(h:HW):Rs:=
 q33_81 C lf (fun x0 x3 h=>q33_80 C lf r x0 x3 h) x0 h
theorem q33_82_eq(C:YC)(lf:Nat)(r:K1)(KN:KF)(KE:KX):∀F h,evX fx33 C lf [1] F h KN (fun F h=>r (F 2) h) KE=q33_82 C lf r (F 0) h:=cSeq (a:=subX fx33 [1,0]) (b:=subX fx33 [1,1]) (by kernel_rfl) (B:=(fun F h=>q33_80 C lf r (F 0) (F 3) h)) (q33_80_eq C lf r KN KE) (q33_81_eq C lf (fun x0 x3 h=>q33_80 C lf r x0 x3 h) (fun F h=>r (F 2) h) KE)
noncomputable def q33_83(C:YC)(lf:Nat)(n:K1)(x0:O)(h:HW):Rs:=
 n x0 h
theorem q33_83_eq(C:YC)(lf:Nat)(n:K1)(KR:KF)(KE:KX):∀F h,evX fx33 C lf [0] F h (fun F h=>n (F 0) h) KR KE=q33_83 C lf n (F 0) h:=by
 intro F h;kernel_rfl
noncomputable def q33_84(C:YC)(lf:Nat)(r:K1)(x0:O)(h:HW):Rs:=
 q33_83 C lf (fun x0 h=>q33_82 C lf r x0 h) x0 h
theorem q33_84_eq(C:YC)(lf:Nat)(r:K1)(KN:KF)(KE:KX):∀F h,evX fx33 C lf [] F h KN (fun F h=>r (F 2) h) KE=q33_84 C lf r (F 0) h:=cSeq (a:=subX fx33 [0]) (b:=subX fx33 [1]) (by kernel_rfl) (B:=(fun F h=>q33_82 C lf r (F 0) h)) (q33_82_eq C lf r KN KE) (q33_83_eq C lf (fun x0 h=>q33_82 C lf r x0 h) (fun F h=>r (F 2) h) KE)
noncomputable def fs33(C:YC)(lf:Nat)(a0:SV)(h:HW):Rs:=q33_84 C lf ff33 (some a0) h
theorem fs33_eq(C:YC)(lf:Nat)(a0:SV)(h:HW):yFn Try.prog fx33 C lf [a0] h=fs33 C lf a0 h:=fnX (K:=(fun F h=>ff33 (F 2) h)) (by kernel_rfl) (((q33_84_eq C lf ff33 (fun F h=>ff33 (F 2) h) (fun _ _ _=>none)) _ h).trans (by kernel_rfl))
noncomputable def fy33:YX Try.prog:=Y1 fx33 fs33 fs33_eq (by kernel_rfl)
noncomputable def fx34:XF Try.prog:=⟨34,Try.f34,fun _=> .text,Try.func34,by kernel_rfl,by kernel_rfl,by kernel_rfl,by kernel_rfl⟩
noncomputable def ff34(x4:O)(h:HW):Rs:=
 ob x4 fun a0=>
 some (.ret a0,h)
noncomputable def q34_14(C:YC)(lf:Nat)(r:K1)(x0 x1:O)(h:HW):Rs:=
 ob x0 fun a1=>
 ob x1 fun a2=>
 bc (C (.fn 38) [a1,a2] h) fun y3 h3=>
 yIf y3
 (ob x0 fun a4=>
 ob (semNil a4) fun y5=>
 ob (fa 1 y5) fun y6=>
 ob (ld1 y6 h3) fun y7=>
 ob x1 fun a8=>
 ob (lenE Try.prog 9 a8) fun y9=>
 ob (bin Try.prog .add 3 y7 y9) fun y10=>
 ob (semNil a4) fun y11=>
 ob (fa 1 y11) fun y12=>
 ob (st 1 y12 y10 h3) fun h13=>
 r (some (.bool true)) h13)
 (r (some (.bool false)) h3)
theorem q34_14_eq(C:YC)(lf:Nat)(r:K1)(KN:KF)(KE:KX):∀F h,evX fx34 C lf [] F h KN (fun F h=>r (F 4) h) KE=q34_14 C lf r (F 0) (F 1) h:=by
 intro F h;kernel_rfl
noncomputable def fs34(C:YC)(lf:Nat)(a0 a1:SV)(h:HW):Rs:=q34_14 C lf ff34 (some a0) (some a1) h
theorem fs34_eq(C:YC)(lf:Nat)(a0 a1:SV)(h:HW):yFn Try.prog fx34 C lf [a0,a1] h=fs34 C lf a0 a1 h:=fnX (K:=(fun F h=>ff34 (F 4) h)) (by kernel_rfl) (((q34_14_eq C lf ff34 (fun F h=>ff34 (F 4) h) (fun _ _ _=>none)) _ h).trans (by kernel_rfl))
noncomputable def fy34:YX Try.prog:=Y2 fx34 fs34 fs34_eq (by kernel_rfl)
noncomputable def fx35:XF Try.prog:=⟨35,Try.f35,fun _=> .text,Try.func35,by kernel_rfl,by kernel_rfl,by kernel_rfl,by kernel_rfl⟩
noncomputable def ff35(h:HW):Rs:=
 some (.ret (.tup []),h)
noncomputable def q35_7(C:YC)(lf:Nat)(n:K0)(x0 x1 x2:O)(h:HW):Rs:=
 ob x0 fun a0=>
 ob x1 fun a1=>
 bc (C (.fn 44) [a0,a1] h) fun y2 h2=>
 ob x0 fun a3=>
 ob x1 fun a4=>
 ob x2 fun a5=>
 bc (C (.fn 24) [a3,a4,a5] h2) fun y6 h6=>
 n h6
theorem q35_7_eq(C:YC)(lf:Nat)(n:K0)(KR:KF)(KE:KX):∀F h,evX fx35 C lf [] F h (fun F h=>n h) KR KE=q35_7 C lf n (F 0) (F 1) (F 2) h:=by
 intro F h;kernel_rfl
noncomputable def fs35(C:YC)(lf:Nat)(a0 a1 a2:SV)(h:HW):Rs:=q35_7 C lf ff35 (some a0) (some a1) (some a2) h
theorem fs35_eq(C:YC)(lf:Nat)(a0 a1 a2:SV)(h:HW):yFn Try.prog fx35 C lf [a0,a1,a2] h=fs35 C lf a0 a1 a2 h:=fnX (K:=(fun F h=>ff35 h)) (by kernel_rfl) (((q35_7_eq C lf ff35 (fun F h=>ff35 h) (fun _ _ _=>none)) _ h).trans (by kernel_rfl))
noncomputable def fy35:YX Try.prog:=Y3 fx35 fs35 fs35_eq (by kernel_rfl)
noncomputable def fx37:XF Try.prog:=⟨37,Try.f37,fun _=> .text,Try.func37,by kernel_rfl,by kernel_rfl,by kernel_rfl,by kernel_rfl⟩
noncomputable def ff37(h:HW):Rs:=
 some (.ret (.tup []),h)
noncomputable def q37_13(C:YC)(lf:Nat)(n:K0)(x0 x1 x2:O)(h:HW):Rs:=
 ob x0 fun a0=>
 ob x2 fun a1=>
 ob (semBuild Try.prog 71 [0,2] [(.int .i64 5),a1]) fun y2=>
 bc (C (.fn 25) [a0,y2] h) fun y3 h3=>
 ob x0 fun a4=>
 ob x1 fun a5=>
 ob x2 fun a6=>
 ob (bin Try.prog .add 3 a6 (.int .i64 1)) fun y7=>
 bc (C (.fn 35) [a4,a5,y7] h3) fun y8 h8=>
 ob x0 fun a9=>
 ob x2 fun a10=>
 ob (semBuild Try.prog 71 [0,2] [(.int .i64 6),a10]) fun y11=>
 bc (C (.fn 25) [a9,y11] h8) fun y12 h12=>
 n h12
theorem q37_13_eq(C:YC)(lf:Nat)(n:K0)(KR:KF)(KE:KX):∀F h,evX fx37 C lf [] F h (fun F h=>n h) KR KE=q37_13 C lf n (F 0) (F 1) (F 2) h:=by
 intro F h;kernel_rfl
noncomputable def fs37(C:YC)(lf:Nat)(a0 a1 a2:SV)(h:HW):Rs:=q37_13 C lf ff37 (some a0) (some a1) (some a2) h
theorem fs37_eq(C:YC)(lf:Nat)(a0 a1 a2:SV)(h:HW):yFn Try.prog fx37 C lf [a0,a1,a2] h=fs37 C lf a0 a1 a2 h:=fnX (K:=(fun F h=>ff37 h)) (by kernel_rfl) (((q37_13_eq C lf ff37 (fun F h=>ff37 h) (fun _ _ _=>none)) _ h).trans (by kernel_rfl))
noncomputable def fy37:YX Try.prog:=Y3 fx37 fs37 fs37_eq (by kernel_rfl)
noncomputable def fx38:XF Try.prog:=⟨38,Try.f38,fun _=> .text,Try.func38,by kernel_rfl,by kernel_rfl,by kernel_rfl,by kernel_rfl⟩
noncomputable def ff38(x4:O)(h:HW):Rs:=
 ob x4 fun a0=>
 some (.ret a0,h)
noncomputable def q38_12(C:YC)(lf:Nat)(r:K1)(x0 x1:O)(h:HW):Rs:=
 ob x0 fun a1=>
 ob (semNil a1) fun y2=>
 ob (fa 0 y2) fun y3=>
 ob (ld1 y3 h) fun y4=>
 ob x0 fun a5=>
 ob (semNil a5) fun y6=>
 ob (fa 1 y6) fun y7=>
 ob (ld1 y7 h) fun y8=>
 ob (semSlice Try.prog 9 y4 (some y8) none) fun y9=>
 ob x1 fun a10=>
 bcn (C (.fn 47) [y9,a10] h) fun y11 h11=>
 r (some y11) h11
theorem q38_12_eq(C:YC)(lf:Nat)(r:K1)(KN:KF)(KE:KX):∀F h,evX fx38 C lf [] F h KN (fun F h=>r (F 4) h) KE=q38_12 C lf r (F 0) (F 1) h:=by
 intro F h;kernel_rfl
noncomputable def fs38(C:YC)(lf:Nat)(a0 a1:SV)(h:HW):Rs:=q38_12 C lf ff38 (some a0) (some a1) h
theorem fs38_eq(C:YC)(lf:Nat)(a0 a1:SV)(h:HW):yFn Try.prog fx38 C lf [a0,a1] h=fs38 C lf a0 a1 h:=fnX (K:=(fun F h=>ff38 (F 4) h)) (by kernel_rfl) (((q38_12_eq C lf ff38 (fun F h=>ff38 (F 4) h) (fun _ _ _=>none)) _ h).trans (by kernel_rfl))
noncomputable def fy38:YX Try.prog:=Y2 fx38 fs38 fs38_eq (by kernel_rfl)
noncomputable def fx39:XF Try.prog:=⟨39,Try.f39,fun _=> .text,Try.func39,by kernel_rfl,by kernel_rfl,by kernel_rfl,by kernel_rfl⟩
noncomputable def ff39(x2:O)(h:HW):Rs:=
 ob x2 fun a0=>
 some (.ret a0,h)
noncomputable def q39_5(C:YC)(lf:Nat)(r:K1)(x0:O)(h:HW):Rs:=
 ob x0 fun a1=>
 ob (semNil a1) fun y2=>
 ob (fa 2 y2) fun y3=>
 ob (ld1 y3 h) fun y4=>
 yIf y4
 (r (some (.str (bs [41]))) h)
 (r (some (.str (bs [92,41]))) h)
theorem q39_5_eq(C:YC)(lf:Nat)(r:K1)(KN:KF)(KE:KX):∀F h,evX fx39 C lf [] F h KN (fun F h=>r (F 2) h) KE=q39_5 C lf r (F 0) h:=by
 intro F h;kernel_rfl
noncomputable def fs39(C:YC)(lf:Nat)(a0:SV)(h:HW):Rs:=q39_5 C lf ff39 (some a0) h
theorem fs39_eq(C:YC)(lf:Nat)(a0:SV)(h:HW):yFn Try.prog fx39 C lf [a0] h=fs39 C lf a0 h:=fnX (K:=(fun F h=>ff39 (F 2) h)) (by kernel_rfl) (((q39_5_eq C lf ff39 (fun F h=>ff39 (F 2) h) (fun _ _ _=>none)) _ h).trans (by kernel_rfl))
noncomputable def fy39:YX Try.prog:=Y1 fx39 fs39 fs39_eq (by kernel_rfl)
noncomputable def fx40:XF Try.prog:=⟨40,Try.f40,fun _=> .text,Try.func40,by kernel_rfl,by kernel_rfl,by kernel_rfl,by kernel_rfl⟩
noncomputable def ff40(x4 x5:O)(h:HW):Rs:=
 ob x4 fun a0=>
 ob x5 fun a1=>
 some (.ret (.tup [a0,a1]),h)
noncomputable def q40_77(C:YC)(lf:Nat)(r:K2)(x0 x1:O)(h:HW):Rs:=
 ob x0 fun a2=>
 ob (semNil a2) fun y3=>
 ob (fa 0 y3) fun y4=>
 ob (ld1 y4 h) fun y5=>
 ob x0 fun a6=>
 ob (semNil a6) fun y7=>
 ob (fa 1 y7) fun y8=>
 ob (ld1 y8 h) fun y9=>
 ob (semIndex Try.prog 9 y5 y9) fun y10=>
 ob (bin Try.prog .eql 5 y10 (.int .u8 94)) fun y11=>
 yIf y11
 (ob x0 fun a12=>
 ob (semNil a12) fun y13=>
 ob (fa 2 y13) fun y14=>
 ob (ld1 y14 h) fun y15=>
 bc (gd false (some y15) (ob x1 fun a16=>
 some (.ret a16,h)) h) fun y17 h17=>
 ob (ypk y15 (.bool true) y17) fun y18=>
 yIf y18
 (ob x0 fun a19=>
 ob (semNil a19) fun y20=>
 ob (fa 1 y20) fun y21=>
 ob (ld1 y21 h17) fun y22=>
 ob (bin Try.prog .add 3 y22 (.int .i64 1)) fun y23=>
 ob (semNil a19) fun y24=>
 ob (fa 1 y24) fun y25=>
 ob (st 1 y25 y23 h17) fun h26=>
 ob (semBuild Try.prog 99 [] []) fun y27=>
 r (some (.ifc 99 y27)) (some (.bool true)) h26)
 (r (some (.val .nilIface)) (some (.bool false)) h17))
 (ob (bin Try.prog .eql 5 y10 (.int .u8 36)) fun y28=>
 yIf y28
 (ob x0 fun a29=>
 ob (semNil a29) fun y30=>
 ob (fa 0 y30) fun y31=>
 ob (ld1 y31 h) fun y32=>
 ob x0 fun a33=>
 ob (semNil a33) fun y34=>
 ob (fa 1 y34) fun y35=>
 ob (ld1 y35 h) fun y36=>
 ob (bin Try.prog .add 3 y36 (.int .i64 1)) fun y37=>
 ob (semSlice Try.prog 9 y32 (some y37) none) fun y38=>
 ob x0 fun a39=>
 ob (semNil a39) fun y40=>
 ob (fa 2 y40) fun y41=>
 ob (ld1 y41 h) fun y42=>
 bc (gd false (some y42) (some (.ret y38,h)) h) fun y43 h43=>
 bc (gd false (some y42) (ob (bin Try.prog .eql 9 y43 (.str (bs []))) fun y44=>
 some (.ret y44,h43)) h43) fun y45 h45=>
 ob (ypk y42 (.bool true) y45) fun y46=>
 bc (gd false (some y46) (ob x0 fun a47=>
 some (.ret a47,h45)) h45) fun y48 h48=>
 bc (gd false (some y46) (ob (semNil y48) fun y49=>
 some (.ret y49,h48)) h48) fun y50 h50=>
 bc (gd false (some y46) (ob (fa 5 y50) fun y51=>
 some (.ret y51,h50)) h50) fun y52 h52=>
 bc (gd false (some y46) (ob (ld1 y52 h52) fun y53=>
 some (.ret y53,h52)) h52) fun y54 h54=>
 bc (gd false (some y46) (ob (bin Try.prog .gtr 3 y54 (.int .i64 0)) fun y55=>
 some (.ret y55,h54)) h54) fun y56 h56=>
 bc (gd false (some y46) (some (.ret y56,h56)) h56) fun y57 h57=>
 bc (gd true (some y57) (some (.ret y38,h57)) h57) fun y58 h58=>
 bc (gd true (some y57) (ob x0 fun a59=>
 some (.ret a59,h58)) h58) fun y60 h60=>
 bc (gd true (some y57) (bc (C (.fn 39) [y60] h60) fun y61 h61=>
 some (.ret y61,h61)) h60) fun y62 h62=>
 bc (gd true (some y57) (bc (C (.fn 47) [y58,y62] h62) fun y63 h63=>
 some (.ret y63,h63)) h62) fun y64 h64=>
 bc (gd false (some y46) (ob (ypk y57 y64 (.bool false)) fun y65=>
 some (.ret y65,h64)) h64) fun y66 h66=>
 ob (ypk y46 (.bool true) y66) fun y67=>
 yIf y67
 (ob x0 fun a68=>
 ob (semNil a68) fun y69=>
 ob (fa 1 y69) fun y70=>
 ob (ld1 y70 h66) fun y71=>
 ob (bin Try.prog .add 3 y71 (.int .i64 1)) fun y72=>
 ob (semNil a68) fun y73=>
 ob (fa 1 y73) fun y74=>
 ob (st 1 y74 y72 h66) fun h75=>
 ob (semBuild Try.prog 100 [] []) fun y76=>
 r (some (.ifc 100 y76)) (some (.bool true)) h75)
 (r (some (.val .nilIface)) (some (.bool false)) h66))
 (r (some (.val .nilIface)) (some (.bool false)) h))
theorem q40_77_eq(C:YC)(lf:Nat)(r:K2)(KN:KF)(KE:KX):∀F h,evX fx40 C lf [] F h KN (fun F h=>r (F 4) (F 5) h) KE=q40_77 C lf r (F 0) (F 1) h:=by
 intro F h;kernel_rfl
noncomputable def fs40(C:YC)(lf:Nat)(a0 a1:SV)(h:HW):Rs:=q40_77 C lf ff40 (some a0) (some a1) h
theorem fs40_eq(C:YC)(lf:Nat)(a0 a1:SV)(h:HW):yFn Try.prog fx40 C lf [a0,a1] h=fs40 C lf a0 a1 h:=fnX (K:=(fun F h=>ff40 (F 4) (F 5) h)) (by kernel_rfl) (((q40_77_eq C lf ff40 (fun F h=>ff40 (F 4) (F 5) h) (fun _ _ _=>none)) _ h).trans (by kernel_rfl))
noncomputable def fy40:YX Try.prog:=Y2 fx40 fs40 fs40_eq (by kernel_rfl)
noncomputable def fx41:XF Try.prog:=⟨41,Try.f41,fun _=> .text,Try.func41,by kernel_rfl,by kernel_rfl,by kernel_rfl,by kernel_rfl⟩
noncomputable def ff41(x4:O)(h:HW):Rs:=
 ob x4 fun a0=>
 some (.ret a0,h)
noncomputable def q41_29(C:YC)(lf:Nat)(r:K1)(x0 x1:O)(h:HW):Rs:=
 ob x0 fun a1=>
 bc (C (.fn 29) [a1] h) fun y2 h2=>
 yIf y2
 (r (some (.bool false)) h2)
 (ob x0 fun a3=>
 ob (semNil a3) fun y4=>
 ob (fa 2 y4) fun y5=>
 ob (ld1 y5 h2) fun y6=>
 yIf y6
 (ob x0 fun a7=>
 ob (semNil a7) fun y8=>
 ob (fa 0 y8) fun y9=>
 ob (ld1 y9 h2) fun y10=>
 ob x0 fun a11=>
 ob (semNil a11) fun y12=>
 ob (fa 1 y12) fun y13=>
 ob (ld1 y13 h2) fun y14=>
 ob (semIndex Try.prog 9 y10 y14) fun y15=>
 bcn (C (.fn 48) [(.str (bs [42,43,63,123])),y15] h2) fun y16 h16=>
 ob (bin Try.prog .geq 3 y16 (.int .i64 0)) fun y17=>
 r (some y17) h16)
 (ob x1 fun a18=>
 bc (gd true (some a18) (ob x0 fun a19=>
 some (.ret a19,h2)) h2) fun y20 h20=>
 bc (gd true (some a18) (bc (C (.fn 38) [y20,(.str (bs [42]))] h20) fun y21 h21=>
 some (.ret y21,h21)) h20) fun y22 h22=>
 ob (ypk a18 y22 (.bool false)) fun y23=>
 bc (gd false (some y23) (ob x0 fun a24=>
 some (.ret a24,h22)) h22) fun y25 h25=>
 bc (gd false (some y23) (bc (C (.fn 38) [y25,(.str (bs [92,123]))] h25) fun y26 h26=>
 some (.ret y26,h26)) h25) fun y27 h27=>
 ob (ypk y23 (.bool true) y27) fun y28=>
 r (some y28) h27))
theorem q41_29_eq(C:YC)(lf:Nat)(r:K1)(KN:KF)(KE:KX):∀F h,evX fx41 C lf [] F h KN (fun F h=>r (F 4) h) KE=q41_29 C lf r (F 0) (F 1) h:=by
 intro F h;kernel_rfl
noncomputable def fs41(C:YC)(lf:Nat)(a0 a1:SV)(h:HW):Rs:=q41_29 C lf ff41 (some a0) (some a1) h
theorem fs41_eq(C:YC)(lf:Nat)(a0 a1:SV)(h:HW):yFn Try.prog fx41 C lf [a0,a1] h=fs41 C lf a0 a1 h:=fnX (K:=(fun F h=>ff41 (F 4) h)) (by kernel_rfl) (((q41_29_eq C lf ff41 (fun F h=>ff41 (F 4) h) (fun _ _ _=>none)) _ h).trans (by kernel_rfl))
noncomputable def fy41:YX Try.prog:=Y2 fx41 fs41 fs41_eq (by kernel_rfl)
noncomputable def fx42:XF Try.prog:=⟨42,Try.f42,fun _=> .text,Try.func42,by kernel_rfl,by kernel_rfl,by kernel_rfl,by kernel_rfl⟩
noncomputable def ff42(x4:O)(h:HW):Rs:=
 ob x4 fun a0=>
 some (.ret a0,h)
noncomputable def q42_4(C:YC)(lf:Nat)(r:K1)(x0 x5:O)(h:HW):Rs:=
 ob x0 fun a1=>
 ob x5 fun a2=>
 bc (C (.fn 52) [a1,a2] h) fun y3 h3=>
 r (some (.ifc 95 y3)) h3
theorem q42_4_eq(C:YC)(lf:Nat)(r:K1)(KN:KF)(KE:KX):∀F h,evX fx42 C lf [1,1,1,1,1,1] F h KN (fun F h=>r (F 4) h) KE=q42_4 C lf r (F 0) (F 5) h:=by
 intro F h;kernel_rfl
noncomputable def q42_6(C:YC)(lf:Nat)(r:K1)(x6:O)(h:HW):Rs:=
 ob x6 fun a5=>
 r (some (.ifc 95 a5)) h
theorem q42_6_eq(C:YC)(lf:Nat)(r:K1)(KN:KF)(K0:KF)(KE:KX):∀F h,evX fx42 C lf [1,1,1,1,1,0,1,0,1,0,1,1] F h KN (fun F h=>r (F 4) h) (bk 0 K0 KE)=q42_6 C lf r (F 6) h:=by
 intro F h;kernel_rfl
noncomputable def q42_18(C:YC)(lf:Nat)(n:K2)(e1:K1)(x6 x42:O)(h:HW):Rs:=
 ob x42 fun a8=>
 ob (bin Try.prog .lss 3 a8 (.int .i64 256)) fun y9=>
 yIf y9
 (ob x42 fun a10=>
 ob x6 fun a11=>
 ob (semNil a11) fun y12=>
 ob (fa 0 y12) fun y13=>
 ob (ixA 256 1 y13 a10) fun y14=>
 ob (st 1 y14 (.bool true) h) fun h15=>
 ob x42 fun a16=>
 ob (bin Try.prog .add 3 a16 (.int .i64 1)) fun y17=>
 n x6 (some y17) h15)
 (e1 x6 h)
theorem q42_18_eq(C:YC)(lf:Nat)(n:K2)(e1:K1)(KR:KF)(K0:KF)(KE:KX):∀F h,evX fx42 C lf [1,1,1,1,1,0,1,0,1,0,1,0,1,0,0] F h (fun F h=>n (F 6) (F 42) h) KR (bk 1 (fun F h=>e1 (F 6) h) (bk 0 K0 KE))=q42_18 C lf n e1 (F 6) (F 42) h:=by
 intro F h;kernel_rfl
noncomputable def l42_7(C:YC)(lf:Nat)(e1:K1)(k:O×O→HW→Rs)(s:O×O)(h:HW):Rs:=
 q42_18 C lf (fun x6 x42 h=>k (x6,x42) h) e1 s.1 s.2 h
noncomputable def q42_19(C:YC)(lf:Nat)(n:K2)(x6:O)(h:HW):Rs:=
 n x6 (some (.int .i64 0)) h
theorem q42_19_eq(C:YC)(lf:Nat)(n:K2)(KR:KF)(K0:KF)(KE:KX):∀F h,evX fx42 C lf [1,1,1,1,1,0,1,0,1,0,1,0,0] F h (fun F h=>n (F 6) (F 42) h) KR (bk 0 K0 KE)=q42_19 C lf n (F 6) h:=by
 intro F h;kernel_rfl
noncomputable def q42_20(C:YC)(lf:Nat)(n:K1)(x6:O)(h:HW):Rs:=
 q42_19 C lf (fun x6 x42 h=>lp (l42_7 C lf n) lf (x6,x42) h) x6 h
theorem q42_20_eq(C:YC)(lf:Nat)(n:K1)(KR:KF)(K0:KF)(KE:KX):∀F h,evX fx42 C lf [1,1,1,1,1,0,1,0,1,0,1,0] F h (fun F h=>n (F 6) h) KR (bk 0 K0 KE)=q42_20 C lf n (F 6) h:=cSeq (a:=subX fx42 [1,1,1,1,1,0,1,0,1,0,1,0,0]) (b:=subX fx42 [1,1,1,1,1,0,1,0,1,0,1,0,1]) (by kernel_rfl) (B:=(fun F h=>lp (l42_7 C lf n) lf ((F 6),(F 42)) h)) (cBlock (id:=1) (a:=subX fx42 [1,1,1,1,1,0,1,0,1,0,1,0,1,0]) (by kernel_rfl) (cLoop (a:=subX fx42 [1,1,1,1,1,0,1,0,1,0,1,0,1,0,0]) (g:=fun F=>(F 6,F 42)) (body:=l42_7 C lf n) (by kernel_rfl) (fun k=>(q42_18_eq C lf (fun x6 x42 h=>k (x6,x42) h) n KR K0 KE)))) (q42_19_eq C lf (fun x6 x42 h=>lp (l42_7 C lf n) lf (x6,x42) h) KR K0 KE)
noncomputable def q42_21(C:YC)(lf:Nat)(r:K1)(x6:O)(h:HW):Rs:=
 q42_20 C lf (fun x6 h=>q42_6 C lf r x6 h) x6 h
theorem q42_21_eq(C:YC)(lf:Nat)(r:K1)(KN:KF)(K0:KF)(KE:KX):∀F h,evX fx42 C lf [1,1,1,1,1,0,1,0,1,0,1] F h KN (fun F h=>r (F 4) h) (bk 0 K0 KE)=q42_21 C lf r (F 6) h:=cSeq (a:=subX fx42 [1,1,1,1,1,0,1,0,1,0,1,0]) (b:=subX fx42 [1,1,1,1,1,0,1,0,1,0,1,1]) (by kernel_rfl) (B:=(fun F h=>q42_6 C lf r (F 6) h)) (q42_6_eq C lf r KN K0 KE) (q42_20_eq C lf (fun x6 h=>q42_6 C lf r x6 h) (fun F h=>r (F 4) h) K0 KE)
noncomputable def q42_24(C:YC)(lf:Nat)(n:K1)(h:HW):Rs:=
 ob (semBuild Try.prog 98 [] []) fun y22=>
 b2 (ybx 98 y22 h) fun y23 h23=>
 n (some y23) h23
theorem q42_24_eq(C:YC)(lf:Nat)(n:K1)(KR:KF)(K0:KF)(KE:KX):∀F h,evX fx42 C lf [1,1,1,1,1,0,1,0,1,0,0] F h (fun F h=>n (F 6) h) KR (bk 0 K0 KE)=q42_24 C lf n h:=by
 intro F h;kernel_rfl
noncomputable def q42_25(C:YC)(lf:Nat)(r:K1)(h:HW):Rs:=
 q42_24 C lf (fun x6 h=>q42_21 C lf r x6 h) h
theorem q42_25_eq(C:YC)(lf:Nat)(r:K1)(KN:KF)(K0:KF)(KE:KX):∀F h,evX fx42 C lf [1,1,1,1,1,0,1,0,1,0] F h KN (fun F h=>r (F 4) h) (bk 0 K0 KE)=q42_25 C lf r h:=cSeq (a:=subX fx42 [1,1,1,1,1,0,1,0,1,0,0]) (b:=subX fx42 [1,1,1,1,1,0,1,0,1,0,1]) (by kernel_rfl) (B:=(fun F h=>q42_21 C lf r (F 6) h)) (q42_21_eq C lf r KN K0 KE) (q42_24_eq C lf (fun x6 h=>q42_21 C lf r x6 h) (fun F h=>r (F 4) h) K0 KE)
noncomputable def q42_28(C:YC)(lf:Nat)(r:K1)(x0:O)(h:HW):Rs:=
 ob x0 fun a26=>
 bc (C (.fn 51) [a26] h) fun y27 h27=>
 r (some y27) h27
theorem q42_28_eq(C:YC)(lf:Nat)(r:K1)(KN:KF)(K0:KF)(KE:KX):∀F h,evX fx42 C lf [1,1,1,1,1,0,1,0,1,1,1,0] F h KN (fun F h=>r (F 4) h) (bk 0 K0 KE)=q42_28 C lf r (F 0) h:=by
 intro F h;kernel_rfl
noncomputable def q42_46(C:YC)(lf:Nat)(n:K2)(x0:O)(h:HW):Rs:=
 ob x0 fun a29=>
 ob (semNil a29) fun y30=>
 ob (fa 0 y30) fun y31=>
 ob (ld1 y31 h) fun y32=>
 ob x0 fun a33=>
 ob (semNil a33) fun y34=>
 ob (fa 1 y34) fun y35=>
 ob (ld1 y35 h) fun y36=>
 ob (semIndex Try.prog 9 y32 y36) fun y37=>
 ob x0 fun a38=>
 ob (semNil a38) fun y39=>
 ob (fa 1 y39) fun y40=>
 ob (ld1 y40 h) fun y41=>
 ob (bin Try.prog .add 3 y41 (.int .i64 1)) fun y42=>
 ob (semNil a38) fun y43=>
 ob (fa 1 y43) fun y44=>
 ob (st 1 y44 y42 h) fun h45=>
 n x0 (some y37) h45
theorem q42_46_eq(C:YC)(lf:Nat)(n:K2)(KR:KF)(K0:KF)(KE:KX):∀F h,evX fx42 C lf [1,1,1,1,1,0,1,0,1,1,1,1,1,0,1,1,1] F h (fun F h=>n (F 0) (F 5) h) KR (bk 0 K0 KE)=q42_46 C lf n (F 0) h:=by
 intro F h;kernel_rfl
noncomputable def q42_75(C:YC)(lf:Nat)(n:K1)(x0 x8:O)(h:HW):Rs:=
 ob x0 fun a47=>
 bcn (C (.fn 29) [a47] h) fun y48 h48=>
 bcn (gd false (some y48) (ob x8 fun a49=>
 some (.ret a49,h48)) h48) fun y50 h50=>
 bcn (gd false (some y48) (ob x0 fun a51=>
 some (.ret a51,h50)) h50) fun y52 h52=>
 bcn (gd false (some y48) (ob (semNil y52) fun y53=>
 some (.ret y53,h52)) h52) fun y54 h54=>
 bcn (gd false (some y48) (ob (fa 0 y54) fun y55=>
 some (.ret y55,h54)) h54) fun y56 h56=>
 bcn (gd false (some y48) (ob (ld1 y56 h56) fun y57=>
 some (.ret y57,h56)) h56) fun y58 h58=>
 bcn (gd false (some y48) (ob x0 fun a59=>
 some (.ret a59,h58)) h58) fun y60 h60=>
 bcn (gd false (some y48) (ob (semNil y60) fun y61=>
 some (.ret y61,h60)) h60) fun y62 h62=>
 bcn (gd false (some y48) (ob (fa 1 y62) fun y63=>
 some (.ret y63,h62)) h62) fun y64 h64=>
 bcn (gd false (some y48) (ob (ld1 y64 h64) fun y65=>
 some (.ret y65,h64)) h64) fun y66 h66=>
 bcn (gd false (some y48) (ob (semIndex Try.prog 9 y58 y66) fun y67=>
 some (.ret y67,h66)) h66) fun y68 h68=>
 bcn (gd false (some y48) (bcn (C (.fn 48) [y50,y68] h68) fun y69 h69=>
 some (.ret y69,h69)) h68) fun y70 h70=>
 bcn (gd false (some y48) (ob (bin Try.prog .lss 3 y70 (.int .i64 0)) fun y71=>
 some (.ret y71,h70)) h70) fun y72 h72=>
 ob (ypk y48 (.bool true) y72) fun y73=>
 yIf y73
 (ob (semBuild Try.prog 89 [] []) fun y74=>
 yPan false [(.ifc 89 y74)] h72)
 (n x0 h72)
theorem q42_75_eq(C:YC)(lf:Nat)(n:K1)(KR:KF)(K0:KF)(KE:KX):∀F h,evX fx42 C lf [1,1,1,1,1,0,1,0,1,1,1,1,1,0,1,1,0] F h (fun F h=>n (F 0) h) KR (bk 0 K0 KE)=q42_75 C lf n (F 0) (F 8) h:=by
 intro F h;kernel_rfl
noncomputable def q42_76(C:YC)(lf:Nat)(n:K2)(x0 x8:O)(h:HW):Rs:=
 q42_75 C lf (fun x0 h=>q42_46 C lf n x0 h) x0 x8 h
theorem q42_76_eq(C:YC)(lf:Nat)(n:K2)(KR:KF)(K0:KF)(KE:KX):∀F h,evX fx42 C lf [1,1,1,1,1,0,1,0,1,1,1,1,1,0,1,1] F h (fun F h=>n (F 0) (F 5) h) KR (bk 0 K0 KE)=q42_76 C lf n (F 0) (F 8) h:=cSeq (a:=subX fx42 [1,1,1,1,1,0,1,0,1,1,1,1,1,0,1,1,0]) (b:=subX fx42 [1,1,1,1,1,0,1,0,1,1,1,1,1,0,1,1,1]) (by kernel_rfl) (B:=(fun F h=>q42_46 C lf n (F 0) h)) (q42_46_eq C lf n KR K0 KE) (q42_75_eq C lf (fun x0 h=>q42_46 C lf n x0 h) KR K0 KE)
noncomputable def q42_83(C:YC)(lf:Nat)(n:K2)(x0 x8:O)(h:HW):Rs:=
 ob x0 fun a77=>
 ob (semNil a77) fun y78=>
 ob (fa 2 y78) fun y79=>
 ob (ld1 y79 h) fun y80=>
 yIf y80
 (ob x8 fun a81=>
 ob (bin Try.prog .add 9 a81 (.str (bs [40,41,124,43,63,123,125]))) fun y82=>
 n x0 (some y82) h)
 (n x0 x8 h)
theorem q42_83_eq(C:YC)(lf:Nat)(n:K2)(KR:KF)(K0:KF)(KE:KX):∀F h,evX fx42 C lf [1,1,1,1,1,0,1,0,1,1,1,1,1,0,1,0] F h (fun F h=>n (F 0) (F 8) h) KR (bk 0 K0 KE)=q42_83 C lf n (F 0) (F 8) h:=by
 intro F h;kernel_rfl
noncomputable def q42_84(C:YC)(lf:Nat)(n:K2)(x0 x8:O)(h:HW):Rs:=
 q42_83 C lf (fun x0 x8 h=>q42_76 C lf n x0 x8 h) x0 x8 h
theorem q42_84_eq(C:YC)(lf:Nat)(n:K2)(KR:KF)(K0:KF)(KE:KX):∀F h,evX fx42 C lf [1,1,1,1,1,0,1,0,1,1,1,1,1,0,1] F h (fun F h=>n (F 0) (F 5) h) KR (bk 0 K0 KE)=q42_84 C lf n (F 0) (F 8) h:=cSeq (a:=subX fx42 [1,1,1,1,1,0,1,0,1,1,1,1,1,0,1,0]) (b:=subX fx42 [1,1,1,1,1,0,1,0,1,1,1,1,1,0,1,1]) (by kernel_rfl) (B:=(fun F h=>q42_76 C lf n (F 0) (F 8) h)) (q42_76_eq C lf n KR K0 KE) (q42_83_eq C lf (fun x0 x8 h=>q42_76 C lf n x0 x8 h) KR K0 KE)
noncomputable def q42_85(C:YC)(lf:Nat)(n:K2)(x0:O)(h:HW):Rs:=
 n x0 (some (.str (bs [46,91,92,42,94,36,47]))) h
theorem q42_85_eq(C:YC)(lf:Nat)(n:K2)(KR:KF)(K0:KF)(KE:KX):∀F h,evX fx42 C lf [1,1,1,1,1,0,1,0,1,1,1,1,1,0,0] F h (fun F h=>n (F 0) (F 8) h) KR (bk 0 K0 KE)=q42_85 C lf n (F 0) h:=by
 intro F h;kernel_rfl
noncomputable def q42_86(C:YC)(lf:Nat)(n:K2)(x0:O)(h:HW):Rs:=
 q42_85 C lf (fun x0 x8 h=>q42_84 C lf n x0 x8 h) x0 h
theorem q42_86_eq(C:YC)(lf:Nat)(n:K2)(KR:KF)(K0:KF)(KE:KX):∀F h,evX fx42 C lf [1,1,1,1,1,0,1,0,1,1,1,1,1,0] F h (fun F h=>n (F 0) (F 5) h) KR (bk 0 K0 KE)=q42_86 C lf n (F 0) h:=cSeq (a:=subX fx42 [1,1,1,1,1,0,1,0,1,1,1,1,1,0,0]) (b:=subX fx42 [1,1,1,1,1,0,1,0,1,1,1,1,1,0,1]) (by kernel_rfl) (B:=(fun F h=>q42_84 C lf n (F 0) (F 8) h)) (q42_84_eq C lf n KR K0 KE) (q42_85_eq C lf (fun x0 x8 h=>q42_84 C lf n x0 x8 h) KR K0 KE)
noncomputable def q42_87(C:YC)(lf:Nat)(n:K2)(x0 x5:O)(h:HW):Rs:=
 n x0 x5 h
theorem q42_87_eq(C:YC)(lf:Nat)(n:K2)(KR:KF)(K0:KF)(KE:KX):∀F h,evX fx42 C lf [1,1,1,1,1,0,1,0,1,1,1,1,1,1] F h (fun F h=>n (F 0) (F 5) h) KR (bk 0 K0 KE)=q42_87 C lf n (F 0) (F 5) h:=by
 intro F h;kernel_rfl
noncomputable def q42_89(C:YC)(lf:Nat)(n:K2)(x0 x5 x57:O)(h:HW):Rs:=
 ob x57 fun a88=>
 yIf a88
 (q42_86 C lf n x0 h)
 (q42_87 C lf n x0 x5 h)
theorem q42_89_eq(C:YC)(lf:Nat)(n:K2)(KR:KF)(K0:KF)(KE:KX):∀F h,evX fx42 C lf [1,1,1,1,1,0,1,0,1,1,1,1,1] F h (fun F h=>n (F 0) (F 5) h) KR (bk 0 K0 KE)=q42_89 C lf n (F 0) (F 5) (F 57) h:=cCond (x:= .tmp 57) (by kernel_rfl) (q42_86_eq C lf n KR K0 KE) (q42_87_eq C lf n KR K0 KE)
noncomputable def q42_92(C:YC)(lf:Nat)(n:K3)(x0 x5 x37:O)(h:HW):Rs:=
 ob x37 fun a90=>
 ob (bin Try.prog .eql 5 a90 (.int .u8 92)) fun y91=>
 n x0 x5 (some y91) h
theorem q42_92_eq(C:YC)(lf:Nat)(n:K3)(KR:KF)(K0:KF)(KE:KX):∀F h,evX fx42 C lf [1,1,1,1,1,0,1,0,1,1,1,1,0] F h (fun F h=>n (F 0) (F 5) (F 57) h) KR (bk 0 K0 KE)=q42_92 C lf n (F 0) (F 5) (F 37) h:=by
 intro F h;kernel_rfl
noncomputable def q42_93(C:YC)(lf:Nat)(n:K2)(x0 x5 x37:O)(h:HW):Rs:=
 q42_92 C lf (fun x0 x5 x57 h=>q42_89 C lf n x0 x5 x57 h) x0 x5 x37 h
theorem q42_93_eq(C:YC)(lf:Nat)(n:K2)(KR:KF)(K0:KF)(KE:KX):∀F h,evX fx42 C lf [1,1,1,1,1,0,1,0,1,1,1,1] F h (fun F h=>n (F 0) (F 5) h) KR (bk 0 K0 KE)=q42_93 C lf n (F 0) (F 5) (F 37) h:=cSeq (a:=subX fx42 [1,1,1,1,1,0,1,0,1,1,1,1,0]) (b:=subX fx42 [1,1,1,1,1,0,1,0,1,1,1,1,1]) (by kernel_rfl) (B:=(fun F h=>q42_89 C lf n (F 0) (F 5) (F 57) h)) (q42_89_eq C lf n KR K0 KE) (q42_92_eq C lf (fun x0 x5 x57 h=>q42_89 C lf n x0 x5 x57 h) KR K0 KE)
noncomputable def q42_95(C:YC)(lf:Nat)(n:K2)(r:K1)(x0 x5 x37 x53:O)(h:HW):Rs:=
 ob x53 fun a94=>
 yIf a94
 (q42_28 C lf r x0 h)
 (q42_93 C lf n x0 x5 x37 h)
theorem q42_95_eq(C:YC)(lf:Nat)(n:K2)(r:K1)(K0:KF)(KE:KX):∀F h,evX fx42 C lf [1,1,1,1,1,0,1,0,1,1,1] F h (fun F h=>n (F 0) (F 5) h) (fun F h=>r (F 4) h) (bk 0 K0 KE)=q42_95 C lf n r (F 0) (F 5) (F 37) (F 53) h:=cCond (x:= .tmp 53) (by kernel_rfl) (q42_28_eq C lf r (fun F h=>n (F 0) (F 5) h) K0 KE) (q42_93_eq C lf n (fun F h=>r (F 4) h) K0 KE)
noncomputable def q42_98(C:YC)(lf:Nat)(n:K4)(x0 x5 x37:O)(h:HW):Rs:=
 ob x37 fun a96=>
 ob (bin Try.prog .eql 5 a96 (.int .u8 91)) fun y97=>
 n x0 x5 x37 (some y97) h
theorem q42_98_eq(C:YC)(lf:Nat)(n:K4)(KR:KF)(K0:KF)(KE:KX):∀F h,evX fx42 C lf [1,1,1,1,1,0,1,0,1,1,0] F h (fun F h=>n (F 0) (F 5) (F 37) (F 53) h) KR (bk 0 K0 KE)=q42_98 C lf n (F 0) (F 5) (F 37) h:=by
 intro F h;kernel_rfl
noncomputable def q42_99(C:YC)(lf:Nat)(n:K2)(r:K1)(x0 x5 x37:O)(h:HW):Rs:=
 q42_98 C lf (fun x0 x5 x37 x53 h=>q42_95 C lf n r x0 x5 x37 x53 h) x0 x5 x37 h
theorem q42_99_eq(C:YC)(lf:Nat)(n:K2)(r:K1)(K0:KF)(KE:KX):∀F h,evX fx42 C lf [1,1,1,1,1,0,1,0,1,1] F h (fun F h=>n (F 0) (F 5) h) (fun F h=>r (F 4) h) (bk 0 K0 KE)=q42_99 C lf n r (F 0) (F 5) (F 37) h:=cSeq (a:=subX fx42 [1,1,1,1,1,0,1,0,1,1,0]) (b:=subX fx42 [1,1,1,1,1,0,1,0,1,1,1]) (by kernel_rfl) (B:=(fun F h=>q42_95 C lf n r (F 0) (F 5) (F 37) (F 53) h)) (q42_95_eq C lf n r K0 KE) (q42_98_eq C lf (fun x0 x5 x37 x53 h=>q42_95 C lf n r x0 x5 x37 x53 h) (fun F h=>r (F 4) h) K0 KE)
noncomputable def q42_101(C:YC)(lf:Nat)(n:K2)(r:K1)(x0 x5 x37 x38:O)(h:HW):Rs:=
 ob x38 fun a100=>
 yIf a100
 (q42_25 C lf r h)
 (q42_99 C lf n r x0 x5 x37 h)
theorem q42_101_eq(C:YC)(lf:Nat)(n:K2)(r:K1)(K0:KF)(KE:KX):∀F h,evX fx42 C lf [1,1,1,1,1,0,1,0,1] F h (fun F h=>n (F 0) (F 5) h) (fun F h=>r (F 4) h) (bk 0 K0 KE)=q42_101 C lf n r (F 0) (F 5) (F 37) (F 38) h:=cCond (x:= .tmp 38) (by kernel_rfl) (q42_25_eq C lf r (fun F h=>n (F 0) (F 5) h) K0 KE) (q42_99_eq C lf n r K0 KE)
noncomputable def q42_104(C:YC)(lf:Nat)(n:K4)(x0 x5 x37:O)(h:HW):Rs:=
 ob x37 fun a102=>
 ob (bin Try.prog .eql 5 a102 (.int .u8 46)) fun y103=>
 n x0 x5 x37 (some y103) h
theorem q42_104_eq(C:YC)(lf:Nat)(n:K4)(KR:KF)(K0:KF)(KE:KX):∀F h,evX fx42 C lf [1,1,1,1,1,0,1,0,0] F h (fun F h=>n (F 0) (F 5) (F 37) (F 38) h) KR (bk 0 K0 KE)=q42_104 C lf n (F 0) (F 5) (F 37) h:=by
 intro F h;kernel_rfl
noncomputable def q42_105(C:YC)(lf:Nat)(n:K2)(r:K1)(x0 x5 x37:O)(h:HW):Rs:=
 q42_104 C lf (fun x0 x5 x37 x38 h=>q42_101 C lf n r x0 x5 x37 x38 h) x0 x5 x37 h
theorem q42_105_eq(C:YC)(lf:Nat)(n:K2)(r:K1)(K0:KF)(KE:KX):∀F h,evX fx42 C lf [1,1,1,1,1,0,1,0] F h (fun F h=>n (F 0) (F 5) h) (fun F h=>r (F 4) h) (bk 0 K0 KE)=q42_105 C lf n r (F 0) (F 5) (F 37) h:=cSeq (a:=subX fx42 [1,1,1,1,1,0,1,0,0]) (b:=subX fx42 [1,1,1,1,1,0,1,0,1]) (by kernel_rfl) (B:=(fun F h=>q42_101 C lf n r (F 0) (F 5) (F 37) (F 38) h)) (q42_101_eq C lf n r K0 KE) (q42_104_eq C lf (fun x0 x5 x37 x38 h=>q42_101 C lf n r x0 x5 x37 x38 h) (fun F h=>r (F 4) h) K0 KE)
noncomputable def q42_107(C:YC)(lf:Nat)(n:K3)(x0 x5:O)(h:HW):Rs:=
 ob x5 fun a106=>
 n x0 x5 (some a106) h
theorem q42_107_eq(C:YC)(lf:Nat)(n:K3)(KR:KF)(KE:KX):∀F h,evX fx42 C lf [1,1,1,1,1,0,0] F h (fun F h=>n (F 0) (F 5) (F 37) h) KR KE=q42_107 C lf n (F 0) (F 5) h:=by
 intro F h;kernel_rfl
noncomputable def q42_108(C:YC)(lf:Nat)(n:K2)(r:K1)(x0 x5:O)(h:HW):Rs:=
 q42_107 C lf (fun x0 x5 x37 h=>q42_105 C lf n r x0 x5 x37 h) x0 x5 h
theorem q42_108_eq(C:YC)(lf:Nat)(n:K2)(r:K1)(KE:KX):∀F h,evX fx42 C lf [1,1,1,1,1,0] F h (fun F h=>n (F 0) (F 5) h) (fun F h=>r (F 4) h) KE=q42_108 C lf n r (F 0) (F 5) h:=cSeq (a:=subX fx42 [1,1,1,1,1,0,0]) (b:=subX fx42 [1,1,1,1,1,0,1]) (by kernel_rfl) (B:=(fun F h=>q42_105 C lf n r (F 0) (F 5) (F 37) h)) (cBlock (id:=0) (a:=subX fx42 [1,1,1,1,1,0,1,0]) (by kernel_rfl) (q42_105_eq C lf n r (fun F h=>n (F 0) (F 5) h) KE)) (q42_107_eq C lf (fun x0 x5 x37 h=>q42_105 C lf n r x0 x5 x37 h) (fun F h=>r (F 4) h) KE)
noncomputable def q42_109(C:YC)(lf:Nat)(r:K1)(x0 x5:O)(h:HW):Rs:=
 q42_108 C lf (fun x0 x5 h=>q42_4 C lf r x0 x5 h) r x0 x5 h
theorem q42_109_eq(C:YC)(lf:Nat)(r:K1)(KN:KF)(KE:KX):∀F h,evX fx42 C lf [1,1,1,1,1] F h KN (fun F h=>r (F 4) h) KE=q42_109 C lf r (F 0) (F 5) h:=cSeq (a:=subX fx42 [1,1,1,1,1,0]) (b:=subX fx42 [1,1,1,1,1,1]) (by kernel_rfl) (B:=(fun F h=>q42_4 C lf r (F 0) (F 5) h)) (q42_4_eq C lf r KN KE) (q42_108_eq C lf (fun x0 x5 h=>q42_4 C lf r x0 x5 h) r KE)
noncomputable def q42_118(C:YC)(lf:Nat)(n:K2)(x0 x5:O)(h:HW):Rs:=
 ob x0 fun a110=>
 ob (semNil a110) fun y111=>
 ob (fa 1 y111) fun y112=>
 ob (ld1 y112 h) fun y113=>
 ob (bin Try.prog .add 3 y113 (.int .i64 1)) fun y114=>
 ob (semNil a110) fun y115=>
 ob (fa 1 y115) fun y116=>
 ob (st 1 y116 y114 h) fun h117=>
 n x0 x5 h117
theorem q42_118_eq(C:YC)(lf:Nat)(n:K2)(KR:KF)(KE:KX):∀F h,evX fx42 C lf [1,1,1,1,0] F h (fun F h=>n (F 0) (F 5) h) KR KE=q42_118 C lf n (F 0) (F 5) h:=by
 intro F h;kernel_rfl
noncomputable def q42_119(C:YC)(lf:Nat)(r:K1)(x0 x5:O)(h:HW):Rs:=
 q42_118 C lf (fun x0 x5 h=>q42_109 C lf r x0 x5 h) x0 x5 h
theorem q42_119_eq(C:YC)(lf:Nat)(r:K1)(KN:KF)(KE:KX):∀F h,evX fx42 C lf [1,1,1,1] F h KN (fun F h=>r (F 4) h) KE=q42_119 C lf r (F 0) (F 5) h:=cSeq (a:=subX fx42 [1,1,1,1,0]) (b:=subX fx42 [1,1,1,1,1]) (by kernel_rfl) (B:=(fun F h=>q42_109 C lf r (F 0) (F 5) h)) (q42_109_eq C lf r KN KE) (q42_118_eq C lf (fun x0 x5 h=>q42_109 C lf r x0 x5 h) (fun F h=>r (F 4) h) KE)
noncomputable def q42_129(C:YC)(lf:Nat)(n:K2)(x0:O)(h:HW):Rs:=
 ob x0 fun a120=>
 ob (semNil a120) fun y121=>
 ob (fa 0 y121) fun y122=>
 ob (ld1 y122 h) fun y123=>
 ob x0 fun a124=>
 ob (semNil a124) fun y125=>
 ob (fa 1 y125) fun y126=>
 ob (ld1 y126 h) fun y127=>
 ob (semIndex Try.prog 9 y123 y127) fun y128=>
 n x0 (some y128) h
theorem q42_129_eq(C:YC)(lf:Nat)(n:K2)(KR:KF)(KE:KX):∀F h,evX fx42 C lf [1,1,1,0] F h (fun F h=>n (F 0) (F 5) h) KR KE=q42_129 C lf n (F 0) h:=by
 intro F h;kernel_rfl
noncomputable def q42_130(C:YC)(lf:Nat)(r:K1)(x0:O)(h:HW):Rs:=
 q42_129 C lf (fun x0 x5 h=>q42_119 C lf r x0 x5 h) x0 h
theorem q42_130_eq(C:YC)(lf:Nat)(r:K1)(KN:KF)(KE:KX):∀F h,evX fx42 C lf [1,1,1] F h KN (fun F h=>r (F 4) h) KE=q42_130 C lf r (F 0) h:=cSeq (a:=subX fx42 [1,1,1,0]) (b:=subX fx42 [1,1,1,1]) (by kernel_rfl) (B:=(fun F h=>q42_119 C lf r (F 0) (F 5) h)) (q42_119_eq C lf r KN KE) (q42_129_eq C lf (fun x0 x5 h=>q42_119 C lf r x0 x5 h) (fun F h=>r (F 4) h) KE)
noncomputable def q42_136(C:YC)(lf:Nat)(n:K1)(x0 x1:O)(h:HW):Rs:=
 ob x0 fun a131=>
 ob x1 fun a132=>
 ob (unE .not a132) fun y133=>
 bc (C (.fn 41) [a131,y133] h) fun y134 h134=>
 yIf y134
 (ob (semBuild Try.prog 89 [] []) fun y135=>
 yPan false [(.ifc 89 y135)] h134)
 (n x0 h134)
theorem q42_136_eq(C:YC)(lf:Nat)(n:K1)(KR:KF)(KE:KX):∀F h,evX fx42 C lf [1,1,0] F h (fun F h=>n (F 0) h) KR KE=q42_136 C lf n (F 0) (F 1) h:=by
 intro F h;kernel_rfl
noncomputable def q42_137(C:YC)(lf:Nat)(r:K1)(x0 x1:O)(h:HW):Rs:=
 q42_136 C lf (fun x0 h=>q42_130 C lf r x0 h) x0 x1 h
theorem q42_137_eq(C:YC)(lf:Nat)(r:K1)(KN:KF)(KE:KX):∀F h,evX fx42 C lf [1,1] F h KN (fun F h=>r (F 4) h) KE=q42_137 C lf r (F 0) (F 1) h:=cSeq (a:=subX fx42 [1,1,0]) (b:=subX fx42 [1,1,1]) (by kernel_rfl) (B:=(fun F h=>q42_130 C lf r (F 0) h)) (q42_130_eq C lf r KN KE) (q42_136_eq C lf (fun x0 h=>q42_130 C lf r x0 h) (fun F h=>r (F 4) h) KE)
noncomputable def q42_144(C:YC)(lf:Nat)(n:K2)(r:K1)(x0 x1:O)(h:HW):Rs:=
 ob x0 fun a138=>
 ob x0 fun a139=>
 bc (C (.fn 49) [a139] h) fun y140 h140=>
 bc (C (.fn 34) [a138,y140] h140) fun y141 h141=>
 yIf y141
 (ob x0 fun a142=>
 bc (C (.fn 50) [a142] h141) fun y143 h143=>
 r (some y143) h143)
 (n x0 x1 h141)
theorem q42_144_eq(C:YC)(lf:Nat)(n:K2)(r:K1)(KE:KX):∀F h,evX fx42 C lf [1,0] F h (fun F h=>n (F 0) (F 1) h) (fun F h=>r (F 4) h) KE=q42_144 C lf n r (F 0) (F 1) h:=by
 intro F h;kernel_rfl
noncomputable def q42_145(C:YC)(lf:Nat)(r:K1)(x0 x1:O)(h:HW):Rs:=
 q42_144 C lf (fun x0 x1 h=>q42_137 C lf r x0 x1 h) r x0 x1 h
theorem q42_145_eq(C:YC)(lf:Nat)(r:K1)(KN:KF)(KE:KX):∀F h,evX fx42 C lf [1] F h KN (fun F h=>r (F 4) h) KE=q42_145 C lf r (F 0) (F 1) h:=cSeq (a:=subX fx42 [1,0]) (b:=subX fx42 [1,1]) (by kernel_rfl) (B:=(fun F h=>q42_137 C lf r (F 0) (F 1) h)) (q42_137_eq C lf r KN KE) (q42_144_eq C lf (fun x0 x1 h=>q42_137 C lf r x0 x1 h) r KE)
noncomputable def q42_146(C:YC)(lf:Nat)(n:K2)(x0 x1:O)(h:HW):Rs:=
 n x0 x1 h
theorem q42_146_eq(C:YC)(lf:Nat)(n:K2)(KR:KF)(KE:KX):∀F h,evX fx42 C lf [0] F h (fun F h=>n (F 0) (F 1) h) KR KE=q42_146 C lf n (F 0) (F 1) h:=by
 intro F h;kernel_rfl
noncomputable def q42_147(C:YC)(lf:Nat)(r:K1)(x0 x1:O)(h:HW):Rs:=
 q42_146 C lf (fun x0 x1 h=>q42_145 C lf r x0 x1 h) x0 x1 h
theorem q42_147_eq(C:YC)(lf:Nat)(r:K1)(KN:KF)(KE:KX):∀F h,evX fx42 C lf [] F h KN (fun F h=>r (F 4) h) KE=q42_147 C lf r (F 0) (F 1) h:=cSeq (a:=subX fx42 [0]) (b:=subX fx42 [1]) (by kernel_rfl) (B:=(fun F h=>q42_145 C lf r (F 0) (F 1) h)) (q42_145_eq C lf r KN KE) (q42_146_eq C lf (fun x0 x1 h=>q42_145 C lf r x0 x1 h) (fun F h=>r (F 4) h) KE)
noncomputable def fs42(C:YC)(lf:Nat)(a0 a1:SV)(h:HW):Rs:=q42_147 C lf ff42 (some a0) (some a1) h
theorem fs42_eq(C:YC)(lf:Nat)(a0 a1:SV)(h:HW):yFn Try.prog fx42 C lf [a0,a1] h=fs42 C lf a0 a1 h:=fnX (K:=(fun F h=>ff42 (F 4) h)) (by kernel_rfl) (((q42_147_eq C lf ff42 (fun F h=>ff42 (F 4) h) (fun _ _ _=>none)) _ h).trans (by kernel_rfl))
noncomputable def fy42:YX Try.prog:=Y2 fx42 fs42 fs42_eq (by kernel_rfl)
noncomputable def fx43:XF Try.prog:=⟨43,Try.f43,fun _=> .text,Try.func43,by kernel_rfl,by kernel_rfl,by kernel_rfl,by kernel_rfl⟩
noncomputable def ff43(x4 x5:O)(h:HW):Rs:=
 ob x4 fun a0=>
 ob x5 fun a1=>
 some (.ret (.tup [a0,a1]),h)
noncomputable def q43_62(C:YC)(lf:Nat)(r:K2)(x0 x6 x7:O)(h:HW):Rs:=
 ob x0 fun a2=>
 ob x6 fun a3=>
 bcn (C (.fn 34) [a2,a3] h) fun y4 h4=>
 ob (unE .not y4) fun y5=>
 bcn (gd false (some y5) (ob x7 fun a6=>
 some (.ret a6,h4)) h4) fun y7 h7=>
 bcn (gd false (some y5) (ob (semNil y7) fun y8=>
 some (.ret y8,h7)) h7) fun y9 h9=>
 bcn (gd false (some y5) (ob (fa 1 y9) fun y10=>
 some (.ret y10,h9)) h9) fun y11 h11=>
 bcn (gd false (some y5) (ob (ld1 y11 h11) fun y12=>
 some (.ret y12,h11)) h11) fun y13 h13=>
 bcn (gd false (some y5) (ob (bin Try.prog .gtr 3 y13 (.int .i64 255)) fun y14=>
 some (.ret y14,h13)) h13) fun y15 h15=>
 ob (ypk y5 (.bool true) y15) fun y16=>
 bcn (gd false (some y16) (ob x7 fun a17=>
 some (.ret a17,h15)) h15) fun y18 h18=>
 bcn (gd false (some y16) (ob (semNil y18) fun y19=>
 some (.ret y19,h18)) h18) fun y20 h20=>
 bcn (gd false (some y16) (ob (fa 2 y20) fun y21=>
 some (.ret y21,h20)) h20) fun y22 h22=>
 bcn (gd false (some y16) (ob (ld1 y22 h22) fun y23=>
 some (.ret y23,h22)) h22) fun y24 h24=>
 bcn (gd false (some y16) (ob (bin Try.prog .gtr 3 y24 (.int .i64 255)) fun y25=>
 some (.ret y25,h24)) h24) fun y26 h26=>
 ob (ypk y16 (.bool true) y26) fun y27=>
 bcn (gd false (some y27) (ob x7 fun a28=>
 some (.ret a28,h26)) h26) fun y29 h29=>
 bcn (gd false (some y27) (ob (semNil y29) fun y30=>
 some (.ret y30,h29)) h29) fun y31 h31=>
 bcn (gd false (some y27) (ob (fa 2 y31) fun y32=>
 some (.ret y32,h31)) h31) fun y33 h33=>
 bcn (gd false (some y27) (ob (ld1 y33 h33) fun y34=>
 some (.ret y34,h33)) h33) fun y35 h35=>
 bcn (gd false (some y27) (ob (bin Try.prog .geq 3 y35 (.int .i64 0)) fun y36=>
 some (.ret y36,h35)) h35) fun y37 h37=>
 bcn (gd false (some y27) (some (.ret y37,h37)) h37) fun y38 h38=>
 bcn (gd true (some y38) (ob x7 fun a39=>
 some (.ret a39,h38)) h38) fun y40 h40=>
 bcn (gd true (some y38) (ob (semNil y40) fun y41=>
 some (.ret y41,h40)) h40) fun y42 h42=>
 bcn (gd true (some y38) (ob (fa 2 y42) fun y43=>
 some (.ret y43,h42)) h42) fun y44 h44=>
 bcn (gd true (some y38) (ob (ld1 y44 h44) fun y45=>
 some (.ret y45,h44)) h44) fun y46 h46=>
 bcn (gd true (some y38) (ob x7 fun a47=>
 some (.ret a47,h46)) h46) fun y48 h48=>
 bcn (gd true (some y38) (ob (semNil y48) fun y49=>
 some (.ret y49,h48)) h48) fun y50 h50=>
 bcn (gd true (some y38) (ob (fa 1 y50) fun y51=>
 some (.ret y51,h50)) h50) fun y52 h52=>
 bcn (gd true (some y38) (ob (ld1 y52 h52) fun y53=>
 some (.ret y53,h52)) h52) fun y54 h54=>
 bcn (gd true (some y38) (ob (bin Try.prog .lss 3 y46 y54) fun y55=>
 some (.ret y55,h54)) h54) fun y56 h56=>
 bcn (gd false (some y27) (ob (ypk y38 y56 (.bool false)) fun y57=>
 some (.ret y57,h56)) h56) fun y58 h58=>
 ob (ypk y27 (.bool true) y58) fun y59=>
 yIf y59
 (ob (semBuild Try.prog 89 [] []) fun y60=>
 yPan false [(.ifc 89 y60)] h58)
 (ob x7 fun a61=>
 r (some (.ifc 109 a61)) (some (.bool true)) h58)
theorem q43_62_eq(C:YC)(lf:Nat)(r:K2)(KN:KF)(KE:KX):∀F h,evX fx43 C lf [1,1,1,1,1,1,1,1,1] F h KN (fun F h=>r (F 4) (F 5) h) KE=q43_62 C lf r (F 0) (F 6) (F 7) h:=by
 intro F h;kernel_rfl
noncomputable def q43_79(C:YC)(lf:Nat)(n:K3)(x0 x6 x7:O)(h:HW):Rs:=
 ob x0 fun a63=>
 bc (C (.fn 34) [a63,(.str (bs [44]))] h) fun y64 h64=>
 yIf y64
 (ob x7 fun a65=>
 ob (semNil a65) fun y66=>
 ob (fa 2 y66) fun y67=>
 ob (st 1 y67 (.int .i64 (-1)) h64) fun h68=>
 ob x0 fun a69=>
 ob x6 fun a70=>
 bc (C (.fn 38) [a69,a70] h68) fun y71 h71=>
 ob (unE .not y71) fun y72=>
 yIf y72
 (ob x7 fun a73=>
 ob x0 fun a74=>
 bc (C (.fn 54) [a74] h71) fun y75 h75=>
 ob (semNil a73) fun y76=>
 ob (fa 2 y76) fun y77=>
 ob (st 1 y77 y75 h75) fun h78=>
 n x0 x6 x7 h78)
 (n x0 x6 x7 h71))
 (n x0 x6 x7 h64)
theorem q43_79_eq(C:YC)(lf:Nat)(n:K3)(KR:KF)(KE:KX):∀F h,evX fx43 C lf [1,1,1,1,1,1,1,1,0] F h (fun F h=>n (F 0) (F 6) (F 7) h) KR KE=q43_79 C lf n (F 0) (F 6) (F 7) h:=by
 intro F h;kernel_rfl
noncomputable def q43_80(C:YC)(lf:Nat)(r:K2)(x0 x6 x7:O)(h:HW):Rs:=
 q43_79 C lf (fun x0 x6 x7 h=>q43_62 C lf r x0 x6 x7 h) x0 x6 x7 h
theorem q43_80_eq(C:YC)(lf:Nat)(r:K2)(KN:KF)(KE:KX):∀F h,evX fx43 C lf [1,1,1,1,1,1,1,1] F h KN (fun F h=>r (F 4) (F 5) h) KE=q43_80 C lf r (F 0) (F 6) (F 7) h:=cSeq (a:=subX fx43 [1,1,1,1,1,1,1,1,0]) (b:=subX fx43 [1,1,1,1,1,1,1,1,1]) (by kernel_rfl) (B:=(fun F h=>q43_62 C lf r (F 0) (F 6) (F 7) h)) (q43_62_eq C lf r KN KE) (q43_79_eq C lf (fun x0 x6 x7 h=>q43_62 C lf r x0 x6 x7 h) (fun F h=>r (F 4) (F 5) h) KE)
noncomputable def q43_89(C:YC)(lf:Nat)(n:K3)(x0 x6 x7:O)(h:HW):Rs:=
 ob x7 fun a81=>
 ob x7 fun a82=>
 ob (semNil a82) fun y83=>
 ob (fa 1 y83) fun y84=>
 ob (ld1 y84 h) fun y85=>
 ob (semNil a81) fun y86=>
 ob (fa 2 y86) fun y87=>
 ob (st 1 y87 y85 h) fun h88=>
 n x0 x6 x7 h88
theorem q43_89_eq(C:YC)(lf:Nat)(n:K3)(KR:KF)(KE:KX):∀F h,evX fx43 C lf [1,1,1,1,1,1,1,0] F h (fun F h=>n (F 0) (F 6) (F 7) h) KR KE=q43_89 C lf n (F 0) (F 6) (F 7) h:=by
 intro F h;kernel_rfl
noncomputable def q43_90(C:YC)(lf:Nat)(r:K2)(x0 x6 x7:O)(h:HW):Rs:=
 q43_89 C lf (fun x0 x6 x7 h=>q43_80 C lf r x0 x6 x7 h) x0 x6 x7 h
theorem q43_90_eq(C:YC)(lf:Nat)(r:K2)(KN:KF)(KE:KX):∀F h,evX fx43 C lf [1,1,1,1,1,1,1] F h KN (fun F h=>r (F 4) (F 5) h) KE=q43_90 C lf r (F 0) (F 6) (F 7) h:=cSeq (a:=subX fx43 [1,1,1,1,1,1,1,0]) (b:=subX fx43 [1,1,1,1,1,1,1,1]) (by kernel_rfl) (B:=(fun F h=>q43_80 C lf r (F 0) (F 6) (F 7) h)) (q43_80_eq C lf r KN KE) (q43_89_eq C lf (fun x0 x6 x7 h=>q43_80 C lf r x0 x6 x7 h) (fun F h=>r (F 4) (F 5) h) KE)
noncomputable def q43_97(C:YC)(lf:Nat)(n:K3)(x0 x6 x7:O)(h:HW):Rs:=
 ob x7 fun a91=>
 ob x0 fun a92=>
 bc (C (.fn 54) [a92] h) fun y93 h93=>
 ob (semNil a91) fun y94=>
 ob (fa 1 y94) fun y95=>
 ob (st 1 y95 y93 h93) fun h96=>
 n x0 x6 x7 h96
theorem q43_97_eq(C:YC)(lf:Nat)(n:K3)(KR:KF)(KE:KX):∀F h,evX fx43 C lf [1,1,1,1,1,1,0] F h (fun F h=>n (F 0) (F 6) (F 7) h) KR KE=q43_97 C lf n (F 0) (F 6) (F 7) h:=by
 intro F h;kernel_rfl
noncomputable def q43_98(C:YC)(lf:Nat)(r:K2)(x0 x6 x7:O)(h:HW):Rs:=
 q43_97 C lf (fun x0 x6 x7 h=>q43_90 C lf r x0 x6 x7 h) x0 x6 x7 h
theorem q43_98_eq(C:YC)(lf:Nat)(r:K2)(KN:KF)(KE:KX):∀F h,evX fx43 C lf [1,1,1,1,1,1] F h KN (fun F h=>r (F 4) (F 5) h) KE=q43_98 C lf r (F 0) (F 6) (F 7) h:=cSeq (a:=subX fx43 [1,1,1,1,1,1,0]) (b:=subX fx43 [1,1,1,1,1,1,1]) (by kernel_rfl) (B:=(fun F h=>q43_90 C lf r (F 0) (F 6) (F 7) h)) (q43_90_eq C lf r KN KE) (q43_97_eq C lf (fun x0 x6 x7 h=>q43_90 C lf r x0 x6 x7 h) (fun F h=>r (F 4) (F 5) h) KE)
noncomputable def q43_102(C:YC)(lf:Nat)(n:K3)(x0 x1 x6:O)(h:HW):Rs:=
 ob x1 fun a99=>
 ob (semBuild Try.prog 112 [0] [a99]) fun y100=>
 b2 (ybx 112 y100 h) fun y101 h101=>
 n x0 x6 (some y101) h101
theorem q43_102_eq(C:YC)(lf:Nat)(n:K3)(KR:KF)(KE:KX):∀F h,evX fx43 C lf [1,1,1,1,1,0] F h (fun F h=>n (F 0) (F 6) (F 7) h) KR KE=q43_102 C lf n (F 0) (F 1) (F 6) h:=by
 intro F h;kernel_rfl
noncomputable def q43_103(C:YC)(lf:Nat)(r:K2)(x0 x1 x6:O)(h:HW):Rs:=
 q43_102 C lf (fun x0 x6 x7 h=>q43_98 C lf r x0 x6 x7 h) x0 x1 x6 h
theorem q43_103_eq(C:YC)(lf:Nat)(r:K2)(KN:KF)(KE:KX):∀F h,evX fx43 C lf [1,1,1,1,1] F h KN (fun F h=>r (F 4) (F 5) h) KE=q43_103 C lf r (F 0) (F 1) (F 6) h:=cSeq (a:=subX fx43 [1,1,1,1,1,0]) (b:=subX fx43 [1,1,1,1,1,1]) (by kernel_rfl) (B:=(fun F h=>q43_98 C lf r (F 0) (F 6) (F 7) h)) (q43_98_eq C lf r KN KE) (q43_102_eq C lf (fun x0 x6 x7 h=>q43_98 C lf r x0 x6 x7 h) (fun F h=>r (F 4) (F 5) h) KE)
noncomputable def q43_124(C:YC)(lf:Nat)(n:K3)(x0 x1 x6:O)(h:HW):Rs:=
 ob x0 fun a104=>
 ob (semNil a104) fun y105=>
 ob (fa 2 y105) fun y106=>
 ob (ld1 y106 h) fun y107=>
 yIf y107
 (ob x0 fun a108=>
 ob (semNil a108) fun y109=>
 ob (fa 1 y109) fun y110=>
 ob (ld1 y110 h) fun y111=>
 ob (bin Try.prog .add 3 y111 (.int .i64 1)) fun y112=>
 ob (semNil a108) fun y113=>
 ob (fa 1 y113) fun y114=>
 ob (st 1 y114 y112 h) fun h115=>
 n x0 x1 x6 h115)
 (ob x0 fun a116=>
 ob (semNil a116) fun y117=>
 ob (fa 1 y117) fun y118=>
 ob (ld1 y118 h) fun y119=>
 ob (bin Try.prog .add 3 y119 (.int .i64 2)) fun y120=>
 ob (semNil a116) fun y121=>
 ob (fa 1 y121) fun y122=>
 ob (st 1 y122 y120 h) fun h123=>
 n x0 x1 (some (.str (bs [92,125]))) h123)
theorem q43_124_eq(C:YC)(lf:Nat)(n:K3)(KR:KF)(KE:KX):∀F h,evX fx43 C lf [1,1,1,1,0] F h (fun F h=>n (F 0) (F 1) (F 6) h) KR KE=q43_124 C lf n (F 0) (F 1) (F 6) h:=by
 intro F h;kernel_rfl
noncomputable def q43_125(C:YC)(lf:Nat)(r:K2)(x0 x1 x6:O)(h:HW):Rs:=
 q43_124 C lf (fun x0 x1 x6 h=>q43_103 C lf r x0 x1 x6 h) x0 x1 x6 h
theorem q43_125_eq(C:YC)(lf:Nat)(r:K2)(KN:KF)(KE:KX):∀F h,evX fx43 C lf [1,1,1,1] F h KN (fun F h=>r (F 4) (F 5) h) KE=q43_125 C lf r (F 0) (F 1) (F 6) h:=cSeq (a:=subX fx43 [1,1,1,1,0]) (b:=subX fx43 [1,1,1,1,1]) (by kernel_rfl) (B:=(fun F h=>q43_103 C lf r (F 0) (F 1) (F 6) h)) (q43_103_eq C lf r KN KE) (q43_124_eq C lf (fun x0 x1 x6 h=>q43_103 C lf r x0 x1 x6 h) (fun F h=>r (F 4) (F 5) h) KE)
noncomputable def q43_126(C:YC)(lf:Nat)(n:K3)(x0 x1:O)(h:HW):Rs:=
 n x0 x1 (some (.str (bs [125]))) h
theorem q43_126_eq(C:YC)(lf:Nat)(n:K3)(KR:KF)(KE:KX):∀F h,evX fx43 C lf [1,1,1,0] F h (fun F h=>n (F 0) (F 1) (F 6) h) KR KE=q43_126 C lf n (F 0) (F 1) h:=by
 intro F h;kernel_rfl
noncomputable def q43_127(C:YC)(lf:Nat)(r:K2)(x0 x1:O)(h:HW):Rs:=
 q43_126 C lf (fun x0 x1 x6 h=>q43_125 C lf r x0 x1 x6 h) x0 x1 h
theorem q43_127_eq(C:YC)(lf:Nat)(r:K2)(KN:KF)(KE:KX):∀F h,evX fx43 C lf [1,1,1] F h KN (fun F h=>r (F 4) (F 5) h) KE=q43_127 C lf r (F 0) (F 1) h:=cSeq (a:=subX fx43 [1,1,1,0]) (b:=subX fx43 [1,1,1,1]) (by kernel_rfl) (B:=(fun F h=>q43_125 C lf r (F 0) (F 1) (F 6) h)) (q43_125_eq C lf r KN KE) (q43_126_eq C lf (fun x0 x1 x6 h=>q43_125 C lf r x0 x1 x6 h) (fun F h=>r (F 4) (F 5) h) KE)
noncomputable def q43_140(C:YC)(lf:Nat)(n:K2)(r:K2)(x0 x1:O)(h:HW):Rs:=
 ob x0 fun a128=>
 bc (C (.fn 34) [a128,(.str (bs [42]))] h) fun y129 h129=>
 yIf y129
 (ob x1 fun a130=>
 bc (C (.fn 53) [a130,(.int .i64 0),(.int .i64 (-1))] h129) fun y131 h131=>
 r (some y131) (some (.bool true)) h131)
 (ob x0 fun a132=>
 bc (C (.fn 34) [a132,(.str (bs [43]))] h129) fun y133 h133=>
 yIf y133
 (ob x1 fun a134=>
 bc (C (.fn 53) [a134,(.int .i64 1),(.int .i64 (-1))] h133) fun y135 h135=>
 r (some y135) (some (.bool true)) h135)
 (ob x0 fun a136=>
 bc (C (.fn 34) [a136,(.str (bs [63]))] h133) fun y137 h137=>
 yIf y137
 (ob x1 fun a138=>
 bc (C (.fn 53) [a138,(.int .i64 0),(.int .i64 1)] h137) fun y139 h139=>
 r (some y139) (some (.bool true)) h139)
 (n x0 x1 h137)))
theorem q43_140_eq(C:YC)(lf:Nat)(n:K2)(r:K2)(KE:KX):∀F h,evX fx43 C lf [1,1,0] F h (fun F h=>n (F 0) (F 1) h) (fun F h=>r (F 4) (F 5) h) KE=q43_140 C lf n r (F 0) (F 1) h:=by
 intro F h;kernel_rfl
noncomputable def q43_141(C:YC)(lf:Nat)(r:K2)(x0 x1:O)(h:HW):Rs:=
 q43_140 C lf (fun x0 x1 h=>q43_127 C lf r x0 x1 h) r x0 x1 h
theorem q43_141_eq(C:YC)(lf:Nat)(r:K2)(KN:KF)(KE:KX):∀F h,evX fx43 C lf [1,1] F h KN (fun F h=>r (F 4) (F 5) h) KE=q43_141 C lf r (F 0) (F 1) h:=cSeq (a:=subX fx43 [1,1,0]) (b:=subX fx43 [1,1,1]) (by kernel_rfl) (B:=(fun F h=>q43_127 C lf r (F 0) (F 1) h)) (q43_127_eq C lf r KN KE) (q43_140_eq C lf (fun x0 x1 h=>q43_127 C lf r x0 x1 h) r KE)
noncomputable def q43_145(C:YC)(lf:Nat)(n:K2)(r:K2)(x0 x1:O)(h:HW):Rs:=
 ob x0 fun a142=>
 bc (C (.fn 41) [a142,(.bool true)] h) fun y143 h143=>
 ob (unE .not y143) fun y144=>
 yIf y144
 (r (some (.val .nilIface)) (some (.bool false)) h143)
 (n x0 x1 h143)
theorem q43_145_eq(C:YC)(lf:Nat)(n:K2)(r:K2)(KE:KX):∀F h,evX fx43 C lf [1,0] F h (fun F h=>n (F 0) (F 1) h) (fun F h=>r (F 4) (F 5) h) KE=q43_145 C lf n r (F 0) (F 1) h:=by
 intro F h;kernel_rfl
noncomputable def q43_146(C:YC)(lf:Nat)(r:K2)(x0 x1:O)(h:HW):Rs:=
 q43_145 C lf (fun x0 x1 h=>q43_141 C lf r x0 x1 h) r x0 x1 h
theorem q43_146_eq(C:YC)(lf:Nat)(r:K2)(KN:KF)(KE:KX):∀F h,evX fx43 C lf [1] F h KN (fun F h=>r (F 4) (F 5) h) KE=q43_146 C lf r (F 0) (F 1) h:=cSeq (a:=subX fx43 [1,0]) (b:=subX fx43 [1,1]) (by kernel_rfl) (B:=(fun F h=>q43_141 C lf r (F 0) (F 1) h)) (q43_141_eq C lf r KN KE) (q43_145_eq C lf (fun x0 x1 h=>q43_141 C lf r x0 x1 h) r KE)
noncomputable def q43_147(C:YC)(lf:Nat)(n:K2)(x0 x1:O)(h:HW):Rs:=
 n x0 x1 h
theorem q43_147_eq(C:YC)(lf:Nat)(n:K2)(KR:KF)(KE:KX):∀F h,evX fx43 C lf [0] F h (fun F h=>n (F 0) (F 1) h) KR KE=q43_147 C lf n (F 0) (F 1) h:=by
 intro F h;kernel_rfl
noncomputable def q43_148(C:YC)(lf:Nat)(r:K2)(x0 x1:O)(h:HW):Rs:=
 q43_147 C lf (fun x0 x1 h=>q43_146 C lf r x0 x1 h) x0 x1 h
theorem q43_148_eq(C:YC)(lf:Nat)(r:K2)(KN:KF)(KE:KX):∀F h,evX fx43 C lf [] F h KN (fun F h=>r (F 4) (F 5) h) KE=q43_148 C lf r (F 0) (F 1) h:=cSeq (a:=subX fx43 [0]) (b:=subX fx43 [1]) (by kernel_rfl) (B:=(fun F h=>q43_146 C lf r (F 0) (F 1) h)) (q43_146_eq C lf r KN KE) (q43_147_eq C lf (fun x0 x1 h=>q43_146 C lf r x0 x1 h) (fun F h=>r (F 4) (F 5) h) KE)
noncomputable def fs43(C:YC)(lf:Nat)(a0 a1:SV)(h:HW):Rs:=q43_148 C lf ff43 (some a0) (some a1) h
theorem fs43_eq(C:YC)(lf:Nat)(a0 a1:SV)(h:HW):yFn Try.prog fx43 C lf [a0,a1] h=fs43 C lf a0 a1 h:=fnX (K:=(fun F h=>ff43 (F 4) (F 5) h)) (by kernel_rfl) (((q43_148_eq C lf ff43 (fun F h=>ff43 (F 4) (F 5) h) (fun _ _ _=>none)) _ h).trans (by kernel_rfl))
noncomputable def fy43:YX Try.prog:=Y2 fx43 fs43 fs43_eq (by kernel_rfl)
noncomputable def fx44:XF Try.prog:=⟨44,Try.f44,fun _=> .text,Try.func44,by kernel_rfl,by kernel_rfl,by kernel_rfl,by kernel_rfl⟩
noncomputable def ff44(h:HW):Rs:=
 some (.ret (.tup []),h)
noncomputable def q44_13(C:YC)(lf:Nat)(n:K0)(x0 x1:O)(h:HW):Rs:=
 ob x1 fun a0=>
 bc (C (.fn 55) [a0] h) fun y1 h1=>
 ob (ext 0 y1) fun y2=>
 ob (ext 1 y1) fun y3=>
 ob (bin Try.prog .gtr 3 y2 (.int .i64 0)) fun y4=>
 bc (gd true (some y4) (some (.ret y3,h1)) h1) fun y5 h5=>
 bc (gd true (some y4) (some (.ret y2,h5)) h5) fun y6 h6=>
 bc (gd true (some y4) (ob (bin Try.prog .geq 3 y5 y6) fun y7=>
 some (.ret y7,h6)) h6) fun y8 h8=>
 ob (ypk y4 y8 (.bool false)) fun y9=>
 yIf y9
 (ob x0 fun a10=>
 ob (semBuild Try.prog 71 [0,2,3] [(.int .i64 4),y2,y3]) fun y11=>
 bc (C (.fn 25) [a10,y11] h8) fun y12 h12=>
 n h12)
 (n h8)
theorem q44_13_eq(C:YC)(lf:Nat)(n:K0)(KR:KF)(KE:KX):∀F h,evX fx44 C lf [] F h (fun F h=>n h) KR KE=q44_13 C lf n (F 0) (F 1) h:=by
 intro F h;kernel_rfl
noncomputable def fs44(C:YC)(lf:Nat)(a0 a1:SV)(h:HW):Rs:=q44_13 C lf ff44 (some a0) (some a1) h
theorem fs44_eq(C:YC)(lf:Nat)(a0 a1:SV)(h:HW):yFn Try.prog fx44 C lf [a0,a1] h=fs44 C lf a0 a1 h:=fnX (K:=(fun F h=>ff44 h)) (by kernel_rfl) (((q44_13_eq C lf ff44 (fun F h=>ff44 h) (fun _ _ _=>none)) _ h).trans (by kernel_rfl))
noncomputable def fy44:YX Try.prog:=Y2 fx44 fs44 fs44_eq (by kernel_rfl)
noncomputable def fx47:XF Try.prog:=⟨47,Try.f47,fun _=> .text,Try.func47,by kernel_rfl,by kernel_rfl,by kernel_rfl,by kernel_rfl⟩
noncomputable def ff47(x4:O)(h:HW):Rs:=
 ob x4 fun a0=>
 some (.ret a0,h)
noncomputable def q47_4(C:YC)(lf:Nat)(r:K1)(x0 x1:O)(h:HW):Rs:=
 ob x0 fun a1=>
 ob x1 fun a2=>
 bc (C (.fn 56) [a1,a2] h) fun y3 h3=>
 r (some y3) h3
theorem q47_4_eq(C:YC)(lf:Nat)(r:K1)(KN:KF)(KE:KX):∀F h,evX fx47 C lf [] F h KN (fun F h=>r (F 4) h) KE=q47_4 C lf r (F 0) (F 1) h:=by
 intro F h;kernel_rfl
noncomputable def fs47(C:YC)(lf:Nat)(a0 a1:SV)(h:HW):Rs:=q47_4 C lf ff47 (some a0) (some a1) h
theorem fs47_eq(C:YC)(lf:Nat)(a0 a1:SV)(h:HW):yFn Try.prog fx47 C lf [a0,a1] h=fs47 C lf a0 a1 h:=fnX (K:=(fun F h=>ff47 (F 4) h)) (by kernel_rfl) (((q47_4_eq C lf ff47 (fun F h=>ff47 (F 4) h) (fun _ _ _=>none)) _ h).trans (by kernel_rfl))
noncomputable def fy47:YX Try.prog:=Y2 fx47 fs47 fs47_eq (by kernel_rfl)
noncomputable def fx48:XF Try.prog:=⟨48,Try.f48,fun _=> .text,Try.func48,by kernel_rfl,by kernel_rfl,by kernel_rfl,by kernel_rfl⟩
noncomputable def ff48(x4:O)(h:HW):Rs:=
 ob x4 fun a0=>
 some (.ret a0,h)
noncomputable def q48_4(C:YC)(lf:Nat)(r:K1)(x0 x1:O)(h:HW):Rs:=
 ob x0 fun a1=>
 ob x1 fun a2=>
 bc (C (.fn 57) [a1,a2] h) fun y3 h3=>
 r (some y3) h3
theorem q48_4_eq(C:YC)(lf:Nat)(r:K1)(KN:KF)(KE:KX):∀F h,evX fx48 C lf [] F h KN (fun F h=>r (F 4) h) KE=q48_4 C lf r (F 0) (F 1) h:=by
 intro F h;kernel_rfl
noncomputable def fs48(C:YC)(lf:Nat)(a0 a1:SV)(h:HW):Rs:=q48_4 C lf ff48 (some a0) (some a1) h
theorem fs48_eq(C:YC)(lf:Nat)(a0 a1:SV)(h:HW):yFn Try.prog fx48 C lf [a0,a1] h=fs48 C lf a0 a1 h:=fnX (K:=(fun F h=>ff48 (F 4) h)) (by kernel_rfl) (((q48_4_eq C lf ff48 (fun F h=>ff48 (F 4) h) (fun _ _ _=>none)) _ h).trans (by kernel_rfl))
noncomputable def fy48:YX Try.prog:=Y2 fx48 fs48 fs48_eq (by kernel_rfl)
noncomputable def fx49:XF Try.prog:=⟨49,Try.f49,fun _=> .text,Try.func49,by kernel_rfl,by kernel_rfl,by kernel_rfl,by kernel_rfl⟩
noncomputable def ff49(x2:O)(h:HW):Rs:=
 ob x2 fun a0=>
 some (.ret a0,h)
noncomputable def q49_5(C:YC)(lf:Nat)(r:K1)(x0:O)(h:HW):Rs:=
 ob x0 fun a1=>
 ob (semNil a1) fun y2=>
 ob (fa 2 y2) fun y3=>
 ob (ld1 y3 h) fun y4=>
 yIf y4
 (r (some (.str (bs [40]))) h)
 (r (some (.str (bs [92,40]))) h)
theorem q49_5_eq(C:YC)(lf:Nat)(r:K1)(KN:KF)(KE:KX):∀F h,evX fx49 C lf [] F h KN (fun F h=>r (F 2) h) KE=q49_5 C lf r (F 0) h:=by
 intro F h;kernel_rfl
noncomputable def fs49(C:YC)(lf:Nat)(a0:SV)(h:HW):Rs:=q49_5 C lf ff49 (some a0) h
theorem fs49_eq(C:YC)(lf:Nat)(a0:SV)(h:HW):yFn Try.prog fx49 C lf [a0] h=fs49 C lf a0 h:=fnX (K:=(fun F h=>ff49 (F 2) h)) (by kernel_rfl) (((q49_5_eq C lf ff49 (fun F h=>ff49 (F 2) h) (fun _ _ _=>none)) _ h).trans (by kernel_rfl))
noncomputable def fy49:YX Try.prog:=Y1 fx49 fs49 fs49_eq (by kernel_rfl)
end Go.Proofs.Ytfldgookpokjeaa.Eva
