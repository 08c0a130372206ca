/- Texts of functions of the program. -/
import Derived.Test.YtoglpmfmnknlaaaGreatDoorCards
import Derived.Test.YtoglpmfmnknlaaaGreatDoorXeYh
namespace Go.Proofs.YtoglpmfmnknlaaaGreatDoor.Eva
open Go.Xe
set_option maxRecDepth 100000
set_option linter.unusedVariables false
/-! FN 3 tinsel/tinsellaw06.TreeNames -/
noncomputable def fx3 : XF Tryz.prog := ⟨3, Tryz.f3, fun _ => .text, Tryz.func3, by kernel_rfl, by kernel_rfl, by kernel_rfl, by kernel_rfl⟩
noncomputable def ff3 (x0 : O) (h : HW) : Rs :=
 ob x0 fun a0 =>
 some (.ret a0, h)
noncomputable def q3_32 (C : YC) (lf : Nat) (r : K1) (h : HW) : Rs :=
 bc (C (.fn 11) [(.int .i64 1)] h) fun y1 h1 =>
 ob (bin Tryz.prog .eql 3 y1 (.int .i64 1)) fun y2 =>
 bc (gd true (some y2) (bc (C (.fn 11) [(.int .i64 13)] h1) fun y3 h3 =>
 some (.ret y3, h3)) h1) fun y4 h4 =>
 bc (gd true (some y2) (ob (bin Tryz.prog .eql 3 y4 (.int .i64 13)) fun y5 =>
 some (.ret y5, h4)) h4) fun y6 h6 =>
 ob (ypk y2 y6 (.bool false)) fun y7 =>
 bc (gd true (some y7) (bc (C (.fn 11) [(.int .i64 16)] h6) fun y8 h8 =>
 some (.ret y8, h8)) h6) fun y9 h9 =>
 bc (gd true (some y7) (ob (bin Tryz.prog .eql 3 y9 (.int .i64 16)) fun y10 =>
 some (.ret y10, h9)) h9) fun y11 h11 =>
 ob (ypk y7 y11 (.bool false)) fun y12 =>
 bc (gd true (some y12) (bc (C (.fn 11) [(.int .i64 21)] h11) fun y13 h13 =>
 some (.ret y13, h13)) h11) fun y14 h14 =>
 bc (gd true (some y12) (ob (bin Tryz.prog .eql 3 y14 (.int .i64 21)) fun y15 =>
 some (.ret y15, h14)) h14) fun y16 h16 =>
 ob (ypk y12 y16 (.bool false)) fun y17 =>
 bc (gd true (some y17) (bc (C (.fn 11) [(.int .i64 39)] h16) fun y18 h18 =>
 some (.ret y18, h18)) h16) fun y19 h19 =>
 bc (gd true (some y17) (ob (bin Tryz.prog .eql 3 y19 (.int .i64 39)) fun y20 =>
 some (.ret y20, h19)) h19) fun y21 h21 =>
 ob (ypk y17 y21 (.bool false)) fun y22 =>
 bc (gd true (some y22) (bc (C (.fn 11) [(.int .i64 40)] h21) fun y23 h23 =>
 some (.ret y23, h23)) h21) fun y24 h24 =>
 bc (gd true (some y22) (ob (bin Tryz.prog .eql 3 y24 (.int .i64 40)) fun y25 =>
 some (.ret y25, h24)) h24) fun y26 h26 =>
 ob (ypk y22 y26 (.bool false)) fun y27 =>
 ob (ypk y27 (.bool true) (.bool false)) fun y28 =>
 bc (gd true (some y28) (bc (C (.fn 12) [] h26) fun y29 h29 =>
 some (.ret y29, h29)) h26) fun y30 h30 =>
 ob (ypk y28 y30 (.bool false)) fun y31 =>
 r (some y31) h30
theorem q3_32_eq (C : YC) (lf : Nat) (r : K1) (KN : KF) (KE : KX) : ∀ F h, evX fx3 C lf [] F h KN (fun F h => r (F 0) h) KE = q3_32 C lf r h := by
  intro F h; kernel_rfl
noncomputable def fs3 (C : YC) (lf : Nat) (h : HW) : Rs := q3_32 C lf ff3 h
theorem fs3_eq (C : YC) (lf : Nat) (h : HW) : yFn Tryz.prog fx3 C lf [] h = fs3 C lf h := fnX (K := (fun F h => ff3 (F 0) h)) (by kernel_rfl) (((q3_32_eq C lf ff3 (fun F h => ff3 (F 0) h) (fun _ _ _ => none)) _ h).trans (by kernel_rfl))
noncomputable def fy3 : YX Tryz.prog := Y0 fx3 fs3 fs3_eq (by kernel_rfl)

/-! FN 11 tinsel/tinsellaw06.num -/
noncomputable def fx11 : XF Tryz.prog := ⟨11, Tryz.f11, fun _ => .text, Tryz.func11, by kernel_rfl, by kernel_rfl, by kernel_rfl, by kernel_rfl⟩
noncomputable def ff11 (x2 : O) (h : HW) : Rs :=
 ob x2 fun a0 =>
 some (.ret a0, h)
noncomputable def q11_2 (C : YC) (lf : Nat) (r : K1) (x0 : O) (h : HW) : Rs :=
 ob x0 fun a1 =>
 r (some a1) h
theorem q11_2_eq (C : YC) (lf : Nat) (r : K1) (KN : KF) (KE : KX) : ∀ F h, evX fx11 C lf [] F h KN (fun F h => r (F 2) h) KE = q11_2 C lf r (F 0) h := by
  intro F h; kernel_rfl
noncomputable def fs11 (C : YC) (lf : Nat) (a0 : SV) (h : HW) : Rs := q11_2 C lf ff11 (some a0) h
theorem fs11_eq (C : YC) (lf : Nat) (a0 : SV) (h : HW) : yFn Tryz.prog fx11 C lf [a0] h = fs11 C lf a0 h := fnX (K := (fun F h => ff11 (F 2) h)) (by kernel_rfl) (((q11_2_eq C lf ff11 (fun F h => ff11 (F 2) h) (fun _ _ _ => none)) _ h).trans (by kernel_rfl))
noncomputable def fy11 : YX Tryz.prog := Y1 fx11 fs11 fs11_eq (by kernel_rfl)

/-! FN 12 tinsel/tinsellaw06.awake -/
noncomputable def fx12 : XF Tryz.prog := ⟨12, Tryz.f12, fun _ => .text, Tryz.func12, by kernel_rfl, by kernel_rfl, by kernel_rfl, by kernel_rfl⟩
noncomputable def ff12 (x0 : O) (h : HW) : Rs :=
 ob x0 fun a0 =>
 some (.ret a0, h)
noncomputable def q12_59 (C : YC) (lf : Nat) (r : K1) (h : HW) : Rs :=
 bc (C (.fn 77) [(.int .i64 64), (.int .i64 16)] h) fun y1 h1 =>
 ob (ext 0 y1) fun y2 =>
 ob (ext 1 y1) fun y3 =>
 ob (bin Tryz.prog .eql 43 y2 (.val (.pointer none))) fun y4 =>
 bc (gd false (some y4) (some (.ret y3, h1)) h1) fun y5 h5 =>
 bc (gd false (some y4) (bc (C (.fn 11) [y5] h5) fun y6 h6 =>
 some (.ret y6, h6)) h5) fun y7 h7 =>
 bc (gd false (some y4) (ob (bin Tryz.prog .neq 3 y7 (.int .i64 0)) fun y8 =>
 some (.ret y8, h7)) h7) fun y9 h9 =>
 ob (ypk y4 (.bool true) y9) fun y10 =>
 yIf y10
 (r (some (.bool false)) h9)
 (b2 (yAl Tryz.prog 46 h9) fun y11 h11 =>
 ob (ldN 5 y11 h11) fun y12 =>
 bc (C (.fn 78) [y2, y12, (.str (bs [47, 97])), (.int .i64 493)] h11) fun y13 h13 =>
 ob (ldN 5 y11 h13) fun y14 =>
 bc (C (.fn 79) [y2, y14, (.str (bs [97])), (.str (bs [47, 108]))] h13) fun y15 h15 =>
 ob (ldN 5 y11 h15) fun y16 =>
 bc (C (.fn 78) [y2, y16, (.str (bs [47, 108, 47, 98])), (.int .i64 493)] h15) fun y17 h17 =>
 ob (ldN 5 y11 h17) fun y18 =>
 bc (C (.fn 80) [y2, y18, (.str (bs [47, 97])), (.str (bs [47, 97, 47, 98, 47, 99]))] h17) fun y19 h19 =>
 ob (ldN 5 y11 h19) fun y20 =>
 bc (C (.fn 81) [y2, y20, (.str (bs [47, 97, 47, 98])), (.bool true)] h19) fun y21 h21 =>
 ob (ext 0 y21) fun y22 =>
 ob (ext 1 y21) fun y23 =>
 b2 (yAl Tryz.prog 58 h21) fun y24 h24 =>
 ob (st 10 y24 y22 h24) fun h25 =>
 bc (C (.fn 11) [y13] h25) fun y26 h26 =>
 ob (bin Tryz.prog .eql 3 y26 (.int .i64 0)) fun y27 =>
 bc (gd true (some y27) (some (.ret y15, h26)) h26) fun y28 h28 =>
 bc (gd true (some y27) (bc (C (.fn 11) [y28] h28) fun y29 h29 =>
 some (.ret y29, h29)) h28) fun y30 h30 =>
 bc (gd true (some y27) (ob (bin Tryz.prog .eql 3 y30 (.int .i64 0)) fun y31 =>
 some (.ret y31, h30)) h30) fun y32 h32 =>
 ob (ypk y27 y32 (.bool false)) fun y33 =>
 bc (gd true (some y33) (some (.ret y17, h32)) h32) fun y34 h34 =>
 bc (gd true (some y33) (bc (C (.fn 11) [y34] h34) fun y35 h35 =>
 some (.ret y35, h35)) h34) fun y36 h36 =>
 bc (gd true (some y33) (ob (bin Tryz.prog .eql 3 y36 (.int .i64 0)) fun y37 =>
 some (.ret y37, h36)) h36) fun y38 h38 =>
 ob (ypk y33 y38 (.bool false)) fun y39 =>
 bc (gd true (some y39) (some (.ret y19, h38)) h38) fun y40 h40 =>
 bc (gd true (some y39) (bc (C (.fn 11) [y40] h40) fun y41 h41 =>
 some (.ret y41, h41)) h40) fun y42 h42 =>
 bc (gd true (some y39) (ob (bin Tryz.prog .eql 3 y42 (.int .i64 22)) fun y43 =>
 some (.ret y43, h42)) h42) fun y44 h44 =>
 ob (ypk y39 y44 (.bool false)) fun y45 =>
 bc (gd true (some y45) (some (.ret y23, h44)) h44) fun y46 h46 =>
 bc (gd true (some y45) (bc (C (.fn 11) [y46] h46) fun y47 h47 =>
 some (.ret y47, h47)) h46) fun y48 h48 =>
 bc (gd true (some y45) (ob (bin Tryz.prog .eql 3 y48 (.int .i64 0)) fun y49 =>
 some (.ret y49, h48)) h48) fun y50 h50 =>
 ob (ypk y45 y50 (.bool false)) fun y51 =>
 bc (gd true (some y51) (ob (fa 1 y24) fun y52 =>
 some (.ret y52, h50)) h50) fun y53 h53 =>
 bc (gd true (some y51) (ob (ld1 y53 h53) fun y54 =>
 some (.ret y54, h53)) h53) fun y55 h55 =>
 bc (gd true (some y51) (ob (bin Tryz.prog .eql 3 y55 (.int .i64 2)) fun y56 =>
 some (.ret y56, h55)) h55) fun y57 h57 =>
 ob (ypk y51 y57 (.bool false)) fun y58 =>
 r (some y58) h57)
theorem q12_59_eq (C : YC) (lf : Nat) (r : K1) (KN : KF) (KE : KX) : ∀ F h, evX fx12 C lf [] F h KN (fun F h => r (F 0) h) KE = q12_59 C lf r h := by
  intro F h; kernel_rfl
noncomputable def fs12 (C : YC) (lf : Nat) (h : HW) : Rs := q12_59 C lf ff12 h
theorem fs12_eq (C : YC) (lf : Nat) (h : HW) : yFn Tryz.prog fx12 C lf [] h = fs12 C lf h := fnX (K := (fun F h => ff12 (F 0) h)) (by kernel_rfl) (((q12_59_eq C lf ff12 (fun F h => ff12 (F 0) h) (fun _ _ _ => none)) _ h).trans (by kernel_rfl))
noncomputable def fy12 : YX Tryz.prog := Y0 fx12 fs12 fs12_eq (by kernel_rfl)

/-! FN 77 tinsel/tree.New -/
noncomputable def fx77 : XF Tryz.prog := ⟨77, Tryz.f77, fun _ => .text, Tryz.func77, by kernel_rfl, by kernel_rfl, by kernel_rfl, by kernel_rfl⟩
noncomputable def ff77 (x4 x5 : O) (h : HW) : Rs :=
 ob x4 fun a0 =>
 ob x5 fun a1 =>
 some (.ret (.tup [a0, a1]), h)
noncomputable def q77_13 (C : YC) (lf : Nat) (r : K2) (x0 x1 : O) (h : HW) : Rs :=
 ob x0 fun a2 =>
 ob x1 fun a3 =>
 bc (C (.fn 137) [a2, a3] h) fun y4 h4 =>
 ob (ext 0 y4) fun y5 =>
 ob (ext 1 y4) fun y6 =>
 ob (bin Tryz.prog .neq 23 y6 (.int .i64 0)) fun y7 =>
 yIf y7
 (r (some (.val (.pointer none))) (some y6) h4)
 (bc (C (.fn 138) [y5, (.int .i64 16877), (.int .i64 0), (.int .i64 0)] h4) fun y8 h8 =>
 bc (C (.fn 139) [y5, (.int .i64 1), (.int .i64 1)] h8) fun y9 h9 =>
 bc (C (.fn 140) [y5, (.int .i64 1), (.int .i64 2)] h9) fun y10 h10 =>
 ob (semBuild Tryz.prog 220 [0] [y5]) fun y11 =>
 b2 (ybx 220 y11 h10) fun y12 h12 =>
 r (some y12) (some (.int .i64 0)) h12)
theorem q77_13_eq (C : YC) (lf : Nat) (r : K2) (KN : KF) (KE : KX) : ∀ F h, evX fx77 C lf [] F h KN (fun F h => r (F 4) (F 5) h) KE = q77_13 C lf r (F 0) (F 1) h := by
  intro F h; kernel_rfl
noncomputable def fs77 (C : YC) (lf : Nat) (a0 a1 : SV) (h : HW) : Rs := q77_13 C lf ff77 (some a0) (some a1) h
theorem fs77_eq (C : YC) (lf : Nat) (a0 a1 : SV) (h : HW) : yFn Tryz.prog fx77 C lf [a0, a1] h = fs77 C lf a0 a1 h := fnX (K := (fun F h => ff77 (F 4) (F 5) h)) (by kernel_rfl) (((q77_13_eq C lf ff77 (fun F h => ff77 (F 4) (F 5) h) (fun _ _ _ => none)) _ h).trans (by kernel_rfl))
noncomputable def fy77 : YX Tryz.prog := Y2 fx77 fs77 fs77_eq (by kernel_rfl)

/-! EV 78 (*tinsel/tree.FS).Mkdir: operation -/
noncomputable def fx78 : XF Tryz.prog := ⟨78, Tryz.f78, fun r => bif Nat.beq r 7 then .ord [2, 4, 7, 10, 0, 1, 3, 5, 6, 8, 9, 11, 12] [(8, [5, 3, 1, 0])] else .text, Tryz.func78, by kernel_rfl, by kernel_rfl, by kernel_rfl, by kernel_rfl⟩

/-! EV 79 (*tinsel/tree.FS).Symlink: operation -/
noncomputable def fx79 : XF Tryz.prog := ⟨79, Tryz.f79, fun _ => .text, Tryz.func79, by kernel_rfl, by kernel_rfl, by kernel_rfl, by kernel_rfl⟩

/-! EV 80 (*tinsel/tree.FS).Rename: operation -/
noncomputable def fx80 : XF Tryz.prog := ⟨80, Tryz.f80, fun r => bif Nat.beq r 3 then .news [0, 2, 4, 6, 1, 5, 3, 7, 8, 9, 10, 11] [8, 9] [(3, [5])] else bif Nat.beq r 10 then .ord [0, 1, 4, 5, 2, 6, 8, 3, 7, 9, 10, 11] [(7, [8]), (3, [8, 6])] else bif Nat.beq r 11 then .ord [0, 1, 2, 3, 4, 5, 8, 9, 6, 10, 12, 7, 11, 13, 14, 15, 16] [(11, [12]), (7, [12, 10])] else .text, Tryz.func80, by kernel_rfl, by kernel_rfl, by kernel_rfl, by kernel_rfl⟩

/-! EV 81 (*tinsel/tree.FS).Stat: operation -/
noncomputable def fx81 : XF Tryz.prog := ⟨81, Tryz.f81, fun r => bif Nat.beq r 2 then .ord [0, 1, 3, 4, 2, 5, 6, 7, 8, 9] [(5, [2])] else .text, Tryz.func81, by kernel_rfl, by kernel_rfl, by kernel_rfl, by kernel_rfl⟩

/-! FN 137 tinsel/inode.New -/
noncomputable def fx137 : XF Tryz.prog := ⟨137, Tryz.f137, fun _ => .text, Tryz.func137, by kernel_rfl, by kernel_rfl, by kernel_rfl, by kernel_rfl⟩
noncomputable def ff137 (x4 x5 : O) (h : HW) : Rs :=
 ob x4 fun a0 =>
 ob x5 fun a1 =>
 some (.ret (.tup [a0, a1]), h)
noncomputable def q137_18 (C : YC) (lf : Nat) (r : K2) (x0 x1 : O) (h : HW) : Rs :=
 ob x0 fun a2 =>
 bc (C (.fn 201) [a2] h) fun y3 h3 =>
 ob (ext 0 y3) fun y4 =>
 ob (ext 1 y3) fun y5 =>
 ob (bin Tryz.prog .neq 23 y5 (.int .i64 0)) fun y6 =>
 yIf y6
 (r (some (.val (.pointer none))) (some (.int .i64 22)) h3)
 (ob x1 fun a7 =>
 ob (bin Tryz.prog .lss 3 a7 (.int .i64 1)) fun y8 =>
 bc (gd false (some y8) (ob x1 fun a9 =>
 some (.ret a9, h3)) h3) fun y10 h10 =>
 bc (gd false (some y8) (ob (bin Tryz.prog .gtr 3 y10 (.int .i64 4096)) fun y11 =>
 some (.ret y11, h10)) h10) fun y12 h12 =>
 ob (ypk y8 (.bool true) y12) fun y13 =>
 yIf y13
 (r (some (.val (.pointer none))) (some (.int .i64 22)) h12)
 (ob x1 fun a14 =>
 b2 (ymk Tryz.prog 280 a14 a14 h12) fun y15 h15 =>
 ob (semBuild Tryz.prog 282 [0, 1] [y4, y15]) fun y16 =>
 b2 (ybx 282 y16 h15) fun y17 h17 =>
 r (some y17) (some (.int .i64 0)) h17))
theorem q137_18_eq (C : YC) (lf : Nat) (r : K2) (KN : KF) (KE : KX) : ∀ F h, evX fx137 C lf [] F h KN (fun F h => r (F 4) (F 5) h) KE = q137_18 C lf r (F 0) (F 1) h := by
  intro F h; kernel_rfl
noncomputable def fs137 (C : YC) (lf : Nat) (a0 a1 : SV) (h : HW) : Rs := q137_18 C lf ff137 (some a0) (some a1) h
theorem fs137_eq (C : YC) (lf : Nat) (a0 a1 : SV) (h : HW) : yFn Tryz.prog fx137 C lf [a0, a1] h = fs137 C lf a0 a1 h := fnX (K := (fun F h => ff137 (F 4) (F 5) h)) (by kernel_rfl) (((q137_18_eq C lf ff137 (fun F h => ff137 (F 4) (F 5) h) (fun _ _ _ => none)) _ h).trans (by kernel_rfl))
noncomputable def fy137 : YX Tryz.prog := Y2 fx137 fs137 fs137_eq (by kernel_rfl)

/-! FN 138 (*tinsel/inode.Table).Alloc -/
noncomputable def fx138 : XF Tryz.prog := ⟨138, Tryz.f138, fun _ => .text, Tryz.func138, by kernel_rfl, by kernel_rfl, by kernel_rfl, by kernel_rfl⟩
noncomputable def ff138 (x8 x9 : O) (h : HW) : Rs :=
 ob x8 fun a0 =>
 ob x9 fun a1 =>
 some (.ret (.tup [a0, a1]), h)
noncomputable def q138_2 (C : YC) (lf : Nat) (r : K2) (h : HW) : Rs :=
 r (some (.int .i64 0)) (some (.int .i64 28)) h
theorem q138_2_eq (C : YC) (lf : Nat) (r : K2) (KN : KF) (KE : KX) : ∀ F h, evX fx138 C lf [1, 1, 1, 1, 1] F h KN (fun F h => r (F 8) (F 9) h) KE = q138_2 C lf r h := by
  intro F h; kernel_rfl
noncomputable def q138_43 (C : YC) (lf : Nat) (n : K6) (r : K2) (e0 : K0) (x0 x1 x2 x3 x44 x45 : O) (h : HW) : Rs :=
 ob x45 fun a4 =>
 ob x44 fun a5 =>
 ob (bin Tryz.prog .lss 3 a4 a5) fun y6 =>
 yIf y6
 (ob x45 fun a7 =>
 ob x0 fun a8 =>
 ob (semNil a8) fun y9 =>
 ob (fa 1 y9) fun y10 =>
 ob (ld1 y10 h) fun y11 =>
 ob (ixS 308 y11 a7) fun y12 =>
 ob (fa 0 y12) fun y13 =>
 ob (ld1 y13 h) fun y14 =>
 ob (unE .not y14) fun y15 =>
 yIf y15
 (ob x0 fun a16 =>
 ob (semNil a16) fun y17 =>
 ob (fa 1 y17) fun y18 =>
 ob (ld1 y18 h) fun y19 =>
 ob (bin Tryz.prog .add 3 a7 (.int .i64 1)) fun y20 =>
 ob x2 fun a21 =>
 ob x3 fun a22 =>
 ob x1 fun a23 =>
 ob x0 fun a24 =>
 ob (semNil a24) fun y25 =>
 ob (fa 2 y25) fun y26 =>
 ob (ld1 y26 h) fun y27 =>
 ob x0 fun a28 =>
 ob (semNil a28) fun y29 =>
 ob (fa 2 y29) fun y30 =>
 ob (ld1 y30 h) fun y31 =>
 ob x0 fun a32 =>
 ob (semNil a32) fun y33 =>
 ob (fa 2 y33) fun y34 =>
 ob (ld1 y34 h) fun y35 =>
 ob (semBuild Tryz.prog 58 [0, 2, 3, 6, 7, 8, 9] [y20, a21, a22, a23, y27, y31, y35]) fun y36 =>
 ob (semBuild Tryz.prog 289 [0, 1] [(.bool true), y36]) fun y37 =>
 ob (ixS 308 y19 a7) fun y38 =>
 ob (st 308 y38 y37 h) fun h39 =>
 ob (bin Tryz.prog .add 3 a7 (.int .i64 1)) fun y40 =>
 r (some y40) (some (.int .i64 0)) h39)
 (ob x45 fun a41 =>
 ob (bin Tryz.prog .add 3 a41 (.int .i64 1)) fun y42 =>
 n x0 x1 x2 x3 x44 (some y42) h))
 (e0 h)
theorem q138_43_eq (C : YC) (lf : Nat) (n : K6) (r : K2) (e0 : K0) (KE : KX) : ∀ F h, evX fx138 C lf [1, 1, 1, 1, 0, 1, 0, 0] F h (fun F h => n (F 0) (F 1) (F 2) (F 3) (F 44) (F 45) h) (fun F h => r (F 8) (F 9) h) (bk 0 (fun F h => e0 h) KE) = q138_43 C lf n r e0 (F 0) (F 1) (F 2) (F 3) (F 44) (F 45) h := by
  intro F h; kernel_rfl
noncomputable def l138_3 (C : YC) (lf : Nat) (r : K2) (e0 : K0) (k : O × O × O × O × O × O → HW → Rs) (s : O × O × O × O × O × O) (h : HW) : Rs :=
 q138_43 C lf (fun x0 x1 x2 x3 x44 x45 h => k (x0, x1, x2, x3, x44, x45) h) r e0 s.1 s.2.1 s.2.2.1 s.2.2.2.1 s.2.2.2.2.1 s.2.2.2.2.2 h
noncomputable def q138_49 (C : YC) (lf : Nat) (n : K6) (x0 x1 x2 x3 : O) (h : HW) : Rs :=
 ob x0 fun a44 =>
 ob (semNil a44) fun y45 =>
 ob (fa 1 y45) fun y46 =>
 ob (ld1 y46 h) fun y47 =>
 ob (lenE Tryz.prog 280 y47) fun y48 =>
 n x0 x1 x2 x3 (some y48) (some (.int .i64 0)) h
theorem q138_49_eq (C : YC) (lf : Nat) (n : K6) (KR : KF) (KE : KX) : ∀ F h, evX fx138 C lf [1, 1, 1, 1, 0, 0] F h (fun F h => n (F 0) (F 1) (F 2) (F 3) (F 44) (F 45) h) KR KE = q138_49 C lf n (F 0) (F 1) (F 2) (F 3) h := by
  intro F h; kernel_rfl
noncomputable def q138_50 (C : YC) (lf : Nat) (n : K0) (r : K2) (x0 x1 x2 x3 : O) (h : HW) : Rs :=
 q138_49 C lf (fun x0 x1 x2 x3 x44 x45 h => lp (l138_3 C lf r n) lf (x0, x1, x2, x3, x44, x45) h) x0 x1 x2 x3 h
theorem q138_50_eq (C : YC) (lf : Nat) (n : K0) (r : K2) (KE : KX) : ∀ F h, evX fx138 C lf [1, 1, 1, 1, 0] F h (fun F h => n h) (fun F h => r (F 8) (F 9) h) KE = q138_50 C lf n r (F 0) (F 1) (F 2) (F 3) h := cSeq (a := subX fx138 [1, 1, 1, 1, 0, 0]) (b := subX fx138 [1, 1, 1, 1, 0, 1]) (by kernel_rfl) (B := (fun F h => lp (l138_3 C lf r n) lf ((F 0), (F 1), (F 2), (F 3), (F 44), (F 45)) h)) (cBlock (id := 0) (a := subX fx138 [1, 1, 1, 1, 0, 1, 0]) (by kernel_rfl) (cLoop (a := subX fx138 [1, 1, 1, 1, 0, 1, 0, 0]) (g := fun F => (F 0, F 1, F 2, F 3, F 44, F 45)) (body := l138_3 C lf r n) (by kernel_rfl) (fun k => (q138_43_eq C lf (fun x0 x1 x2 x3 x44 x45 h => k (x0, x1, x2, x3, x44, x45) h) r n KE)))) (q138_49_eq C lf (fun x0 x1 x2 x3 x44 x45 h => lp (l138_3 C lf r n) lf (x0, x1, x2, x3, x44, x45) h) (fun F h => r (F 8) (F 9) h) KE)
noncomputable def q138_51 (C : YC) (lf : Nat) (r : K2) (x0 x1 x2 x3 : O) (h : HW) : Rs :=
 q138_50 C lf (fun h => q138_2 C lf r h) r x0 x1 x2 x3 h
theorem q138_51_eq (C : YC) (lf : Nat) (r : K2) (KN : KF) (KE : KX) : ∀ F h, evX fx138 C lf [1, 1, 1, 1] F h KN (fun F h => r (F 8) (F 9) h) KE = q138_51 C lf r (F 0) (F 1) (F 2) (F 3) h := cSeq (a := subX fx138 [1, 1, 1, 1, 0]) (b := subX fx138 [1, 1, 1, 1, 1]) (by kernel_rfl) (B := (fun F h => q138_2 C lf r h)) (q138_2_eq C lf r KN KE) (q138_50_eq C lf (fun h => q138_2 C lf r h) r KE)
noncomputable def q138_84 (C : YC) (lf : Nat) (n : K4) (r : K2) (x0 x1 x2 x3 x10 : O) (h : HW) : Rs :=
 ob x1 fun a52 =>
 ob (bin Tryz.prog .andNot 30 a52 (.int .i64 65535)) fun y53 =>
 ob (bin Tryz.prog .neq 30 y53 (.int .i64 0)) fun y54 =>
 bc (gd false (some y54) (ob x10 fun a55 =>
 some (.ret a55, h)) h) fun y56 h56 =>
 bc (gd false (some y54) (ob (bin Tryz.prog .neq 30 y56 (.int .i64 32768)) fun y57 =>
 some (.ret y57, h56)) h56) fun y58 h58 =>
 bc (gd false (some y54) (some (.ret y58, h58)) h58) fun y59 h59 =>
 bc (gd true (some y59) (ob x10 fun a60 =>
 some (.ret a60, h59)) h59) fun y61 h61 =>
 bc (gd true (some y59) (ob (bin Tryz.prog .neq 30 y61 (.int .i64 16384)) fun y62 =>
 some (.ret y62, h61)) h61) fun y63 h63 =>
 bc (gd false (some y54) (ob (ypk y59 y63 (.bool false)) fun y64 =>
 some (.ret y64, h63)) h63) fun y65 h65 =>
 bc (gd false (some y54) (some (.ret y65, h65)) h65) fun y66 h66 =>
 bc (gd true (some y66) (ob x10 fun a67 =>
 some (.ret a67, h66)) h66) fun y68 h68 =>
 bc (gd true (some y66) (ob (bin Tryz.prog .neq 30 y68 (.int .i64 40960)) fun y69 =>
 some (.ret y69, h68)) h68) fun y70 h70 =>
 bc (gd false (some y54) (ob (ypk y66 y70 (.bool false)) fun y71 =>
 some (.ret y71, h70)) h70) fun y72 h72 =>
 ob (ypk y54 (.bool true) y72) fun y73 =>
 bc (gd false (some y73) (ob x2 fun a74 =>
 some (.ret a74, h72)) h72) fun y75 h75 =>
 bc (gd false (some y73) (ob (bin Tryz.prog .lss 3 y75 (.int .i64 0)) fun y76 =>
 some (.ret y76, h75)) h75) fun y77 h77 =>
 ob (ypk y73 (.bool true) y77) fun y78 =>
 bc (gd false (some y78) (ob x3 fun a79 =>
 some (.ret a79, h77)) h77) fun y80 h80 =>
 bc (gd false (some y78) (ob (bin Tryz.prog .lss 3 y80 (.int .i64 0)) fun y81 =>
 some (.ret y81, h80)) h80) fun y82 h82 =>
 ob (ypk y78 (.bool true) y82) fun y83 =>
 yIf y83
 (r (some (.int .i64 0)) (some (.int .i64 22)) h82)
 (n x0 x1 x2 x3 h82)
theorem q138_84_eq (C : YC) (lf : Nat) (n : K4) (r : K2) (KE : KX) : ∀ F h, evX fx138 C lf [1, 1, 1, 0] F h (fun F h => n (F 0) (F 1) (F 2) (F 3) h) (fun F h => r (F 8) (F 9) h) KE = q138_84 C lf n r (F 0) (F 1) (F 2) (F 3) (F 10) h := by
  intro F h; kernel_rfl
noncomputable def q138_85 (C : YC) (lf : Nat) (r : K2) (x0 x1 x2 x3 x10 : O) (h : HW) : Rs :=
 q138_84 C lf (fun x0 x1 x2 x3 h => q138_51 C lf r x0 x1 x2 x3 h) r x0 x1 x2 x3 x10 h
theorem q138_85_eq (C : YC) (lf : Nat) (r : K2) (KN : KF) (KE : KX) : ∀ F h, evX fx138 C lf [1, 1, 1] F h KN (fun F h => r (F 8) (F 9) h) KE = q138_85 C lf r (F 0) (F 1) (F 2) (F 3) (F 10) h := cSeq (a := subX fx138 [1, 1, 1, 0]) (b := subX fx138 [1, 1, 1, 1]) (by kernel_rfl) (B := (fun F h => q138_51 C lf r (F 0) (F 1) (F 2) (F 3) h)) (q138_51_eq C lf r KN KE) (q138_84_eq C lf (fun x0 x1 x2 x3 h => q138_51 C lf r x0 x1 x2 x3 h) r KE)
noncomputable def q138_88 (C : YC) (lf : Nat) (n : K5) (x0 x1 x2 x3 : O) (h : HW) : Rs :=
 ob x1 fun a86 =>
 ob (bin Tryz.prog .and 30 a86 (.int .i64 61440)) fun y87 =>
 n x0 x1 x2 x3 (some y87) h
theorem q138_88_eq (C : YC) (lf : Nat) (n : K5) (KR : KF) (KE : KX) : ∀ F h, evX fx138 C lf [1, 1, 0] F h (fun F h => n (F 0) (F 1) (F 2) (F 3) (F 10) h) KR KE = q138_88 C lf n (F 0) (F 1) (F 2) (F 3) h := by
  intro F h; kernel_rfl
noncomputable def q138_89 (C : YC) (lf : Nat) (r : K2) (x0 x1 x2 x3 : O) (h : HW) : Rs :=
 q138_88 C lf (fun x0 x1 x2 x3 x10 h => q138_85 C lf r x0 x1 x2 x3 x10 h) x0 x1 x2 x3 h
theorem q138_89_eq (C : YC) (lf : Nat) (r : K2) (KN : KF) (KE : KX) : ∀ F h, evX fx138 C lf [1, 1] F h KN (fun F h => r (F 8) (F 9) h) KE = q138_89 C lf r (F 0) (F 1) (F 2) (F 3) h := cSeq (a := subX fx138 [1, 1, 0]) (b := subX fx138 [1, 1, 1]) (by kernel_rfl) (B := (fun F h => q138_85 C lf r (F 0) (F 1) (F 2) (F 3) (F 10) h)) (q138_85_eq C lf r KN KE) (q138_88_eq C lf (fun x0 x1 x2 x3 x10 h => q138_85 C lf r x0 x1 x2 x3 x10 h) (fun F h => r (F 8) (F 9) h) KE)
noncomputable def q138_93 (C : YC) (lf : Nat) (n : K4) (r : K2) (x0 x1 x2 x3 : O) (h : HW) : Rs :=
 ob x0 fun a90 =>
 bc (C (.fn 202) [a90] h) fun y91 h91 =>
 ob (unE .not y91) fun y92 =>
 yIf y92
 (r (some (.int .i64 0)) (some (.int .i64 14)) h91)
 (n x0 x1 x2 x3 h91)
theorem q138_93_eq (C : YC) (lf : Nat) (n : K4) (r : K2) (KE : KX) : ∀ F h, evX fx138 C lf [1, 0] F h (fun F h => n (F 0) (F 1) (F 2) (F 3) h) (fun F h => r (F 8) (F 9) h) KE = q138_93 C lf n r (F 0) (F 1) (F 2) (F 3) h := by
  intro F h; kernel_rfl
noncomputable def q138_94 (C : YC) (lf : Nat) (r : K2) (x0 x1 x2 x3 : O) (h : HW) : Rs :=
 q138_93 C lf (fun x0 x1 x2 x3 h => q138_89 C lf r x0 x1 x2 x3 h) r x0 x1 x2 x3 h
theorem q138_94_eq (C : YC) (lf : Nat) (r : K2) (KN : KF) (KE : KX) : ∀ F h, evX fx138 C lf [1] F h KN (fun F h => r (F 8) (F 9) h) KE = q138_94 C lf r (F 0) (F 1) (F 2) (F 3) h := cSeq (a := subX fx138 [1, 0]) (b := subX fx138 [1, 1]) (by kernel_rfl) (B := (fun F h => q138_89 C lf r (F 0) (F 1) (F 2) (F 3) h)) (q138_89_eq C lf r KN KE) (q138_93_eq C lf (fun x0 x1 x2 x3 h => q138_89 C lf r x0 x1 x2 x3 h) r KE)
noncomputable def q138_95 (C : YC) (lf : Nat) (n : K4) (x0 x1 x2 x3 : O) (h : HW) : Rs :=
 n x0 x1 x2 x3 h
theorem q138_95_eq (C : YC) (lf : Nat) (n : K4) (KR : KF) (KE : KX) : ∀ F h, evX fx138 C lf [0] F h (fun F h => n (F 0) (F 1) (F 2) (F 3) h) KR KE = q138_95 C lf n (F 0) (F 1) (F 2) (F 3) h := by
  intro F h; kernel_rfl
noncomputable def q138_96 (C : YC) (lf : Nat) (r : K2) (x0 x1 x2 x3 : O) (h : HW) : Rs :=
 q138_95 C lf (fun x0 x1 x2 x3 h => q138_94 C lf r x0 x1 x2 x3 h) x0 x1 x2 x3 h
theorem q138_96_eq (C : YC) (lf : Nat) (r : K2) (KN : KF) (KE : KX) : ∀ F h, evX fx138 C lf [] F h KN (fun F h => r (F 8) (F 9) h) KE = q138_96 C lf r (F 0) (F 1) (F 2) (F 3) h := cSeq (a := subX fx138 [0]) (b := subX fx138 [1]) (by kernel_rfl) (B := (fun F h => q138_94 C lf r (F 0) (F 1) (F 2) (F 3) h)) (q138_94_eq C lf r KN KE) (q138_95_eq C lf (fun x0 x1 x2 x3 h => q138_94 C lf r x0 x1 x2 x3 h) (fun F h => r (F 8) (F 9) h) KE)
noncomputable def fs138 (C : YC) (lf : Nat) (a0 a1 a2 a3 : SV) (h : HW) : Rs := q138_96 C lf ff138 (some a0) (some a1) (some a2) (some a3) h
theorem fs138_eq (C : YC) (lf : Nat) (a0 a1 a2 a3 : SV) (h : HW) : yFn Tryz.prog fx138 C lf [a0, a1, a2, a3] h = fs138 C lf a0 a1 a2 a3 h := fnX (K := (fun F h => ff138 (F 8) (F 9) h)) (by kernel_rfl) (((q138_96_eq C lf ff138 (fun F h => ff138 (F 8) (F 9) h) (fun _ _ _ => none)) _ h).trans (by kernel_rfl))
noncomputable def fy138 : YX Tryz.prog := Y4 fx138 fs138 fs138_eq (by kernel_rfl)

/-! FN 139 tinsel/dir.Init -/
noncomputable def fx139 : XF Tryz.prog := ⟨139, Tryz.f139, fun _ => .text, Tryz.func139, by kernel_rfl, by kernel_rfl, by kernel_rfl, by kernel_rfl⟩
noncomputable def ff139 (x6 : O) (h : HW) : Rs :=
 ob x6 fun a0 =>
 some (.ret a0, h)
noncomputable def q139_35 (C : YC) (lf : Nat) (r : K1) (x0 x1 x2 : O) (h : HW) : Rs :=
 ob x0 fun a1 =>
 ob x1 fun a2 =>
 bc (C (.fn 203) [a1, a2] h) fun y3 h3 =>
 ob (bin Tryz.prog .neq 23 y3 (.int .i64 0)) fun y4 =>
 yIf y4
 (r (some y3) h3)
 (ob x0 fun a5 =>
 ob x1 fun a6 =>
 bc (C (.fn 184) [a5, a6] h3) fun y7 h7 =>
 ob (ext 0 y7) fun y8 =>
 ob (ext 1 y7) fun y9 =>
 b2 (yAl Tryz.prog 58 h7) fun y10 h10 =>
 ob (st 10 y10 y8 h10) fun h11 =>
 ob x0 fun a12 =>
 ob x2 fun a13 =>
 bc (C (.fn 204) [a12, a13] h11) fun y14 h14 =>
 ob (unE .not y14) fun y15 =>
 yIf y15
 (r (some (.int .i64 22)) h14)
 (ob (fa 4 y10) fun y16 =>
 ob (ld1 y16 h14) fun y17 =>
 ob (bin Tryz.prog .neq 3 y17 (.int .i64 0)) fun y18 =>
 yIf y18
 (r (some (.int .i64 17)) h14)
 (ob x1 fun a19 =>
 bc (C (.fn 205) [(.str (bs [46])), a19] h14) fun y20 h20 =>
 ob x2 fun a21 =>
 bc (C (.fn 205) [(.str (bs [46, 46])), a21] h20) fun y22 h22 =>
 b2 (yAl Tryz.prog 292 h22) fun y23 h23 =>
 b2 (yAl Tryz.prog 292 h23) fun y24 h24 =>
 ob (st 32 y23 y20 h24) fun h25 =>
 ob (st 32 y24 y22 h25) fun h26 =>
 ob x0 fun a27 =>
 ob x1 fun a28 =>
 ob (semSlice Tryz.prog 292 y23 none none) fun y29 =>
 ob (semSlice Tryz.prog 292 y24 none none) fun y30 =>
 b2 (ybl Tryz.prog .append #[31, 31] [y29, y30] h26) fun y31 h31 =>
 bcn (C (.fn 154) [a27, a28, (.int .i64 0), y31] h31) fun y32 h32 =>
 ob (ext 0 y32) fun y33 =>
 ob (ext 1 y32) fun y34 =>
 r (some y34) h32)))
theorem q139_35_eq (C : YC) (lf : Nat) (r : K1) (KN : KF) (KE : KX) : ∀ F h, evX fx139 C lf [] F h KN (fun F h => r (F 6) h) KE = q139_35 C lf r (F 0) (F 1) (F 2) h := by
  intro F h; kernel_rfl
noncomputable def fs139 (C : YC) (lf : Nat) (a0 a1 a2 : SV) (h : HW) : Rs := q139_35 C lf ff139 (some a0) (some a1) (some a2) h
theorem fs139_eq (C : YC) (lf : Nat) (a0 a1 a2 : SV) (h : HW) : yFn Tryz.prog fx139 C lf [a0, a1, a2] h = fs139 C lf a0 a1 a2 h := fnX (K := (fun F h => ff139 (F 6) h)) (by kernel_rfl) (((q139_35_eq C lf ff139 (fun F h => ff139 (F 6) h) (fun _ _ _ => none)) _ h).trans (by kernel_rfl))
noncomputable def fy139 : YX Tryz.prog := Y3 fx139 fs139 fs139_eq (by kernel_rfl)

/-! FN 140 (*tinsel/inode.Table).Links -/
noncomputable def fx140 : XF Tryz.prog := ⟨140, Tryz.f140, fun _ => .text, Tryz.func140, by kernel_rfl, by kernel_rfl, by kernel_rfl, by kernel_rfl⟩
noncomputable def ff140 (x6 : O) (h : HW) : Rs :=
 ob x6 fun a0 =>
 some (.ret a0, h)
noncomputable def q140_41 (C : YC) (lf : Nat) (r : K1) (x0 x1 x2 : O) (h : HW) : Rs :=
 ob x0 fun a1 =>
 ob x1 fun a2 =>
 bc (C (.fn 206) [a1, a2] h) fun y3 h3 =>
 ob (ext 0 y3) fun y4 =>
 ob (ext 1 y3) fun y5 =>
 ob (bin Tryz.prog .neq 23 y5 (.int .i64 0)) fun y6 =>
 yIf y6
 (r (some y5) h3)
 (ob x2 fun a7 =>
 ob (semNil y4) fun y8 =>
 ob (fa 1 y8) fun y9 =>
 ob (fa 1 y9) fun y10 =>
 ob (ld1 y10 h3) fun y11 =>
 ob (unE .neg y11) fun y12 =>
 ob (bin Tryz.prog .lss 3 a7 y12) fun y13 =>
 yIf y13
 (r (some (.int .i64 22)) h3)
 (ob x2 fun a14 =>
 ob (semNil y4) fun y15 =>
 ob (fa 1 y15) fun y16 =>
 ob (fa 1 y16) fun y17 =>
 ob (ld1 y17 h3) fun y18 =>
 ob (bin Tryz.prog .sub 3 (.int .i64 16) y18) fun y19 =>
 ob (bin Tryz.prog .gtr 3 a14 y19) fun y20 =>
 yIf y20
 (r (some (.int .i64 31)) h3)
 (ob (semNil y4) fun y21 =>
 ob (fa 1 y21) fun y22 =>
 ob (fa 1 y22) fun y23 =>
 ob (ld1 y23 h3) fun y24 =>
 ob x2 fun a25 =>
 ob (bin Tryz.prog .add 3 y24 a25) fun y26 =>
 ob (semNil y4) fun y27 =>
 ob (fa 1 y27) fun y28 =>
 ob (fa 1 y28) fun y29 =>
 ob (st 1 y29 y26 h3) fun h30 =>
 ob x0 fun a31 =>
 ob (semNil a31) fun y32 =>
 ob (fa 2 y32) fun y33 =>
 ob (ld1 y33 h30) fun y34 =>
 ob (semNil y4) fun y35 =>
 ob (fa 1 y35) fun y36 =>
 ob (fa 9 y36) fun y37 =>
 ob (st 1 y37 y34 h30) fun h38 =>
 ob x0 fun a39 =>
 bc (C (.fn 207) [a39, y4] h38) fun y40 h40 =>
 r (some (.int .i64 0)) h40)))
theorem q140_41_eq (C : YC) (lf : Nat) (r : K1) (KN : KF) (KE : KX) : ∀ F h, evX fx140 C lf [] F h KN (fun F h => r (F 6) h) KE = q140_41 C lf r (F 0) (F 1) (F 2) h := by
  intro F h; kernel_rfl
noncomputable def fs140 (C : YC) (lf : Nat) (a0 a1 a2 : SV) (h : HW) : Rs := q140_41 C lf ff140 (some a0) (some a1) (some a2) h
theorem fs140_eq (C : YC) (lf : Nat) (a0 a1 a2 : SV) (h : HW) : yFn Tryz.prog fx140 C lf [a0, a1, a2] h = fs140 C lf a0 a1 a2 h := fnX (K := (fun F h => ff140 (F 6) h)) (by kernel_rfl) (((q140_41_eq C lf ff140 (fun F h => ff140 (F 6) h) (fun _ _ _ => none)) _ h).trans (by kernel_rfl))
noncomputable def fy140 : YX Tryz.prog := Y3 fx140 fs140 fs140_eq (by kernel_rfl)

/-! EV 141 tinsel/tree.caught: builtin -/
noncomputable def fx141 : XF Tryz.prog := ⟨141, Tryz.f141, fun _ => .text, Tryz.func141, by kernel_rfl, by kernel_rfl, by kernel_rfl, by kernel_rfl⟩

/-! FN 142 (*tinsel/tree.FS).real -/
noncomputable def fx142 : XF Tryz.prog := ⟨142, Tryz.f142, fun _ => .text, Tryz.func142, by kernel_rfl, by kernel_rfl, by kernel_rfl, by kernel_rfl⟩
noncomputable def ff142 (h : HW) : Rs :=
 some (.ret (.tup []), h)
noncomputable def q142_4 (C : YC) (lf : Nat) (n : K0) (x0 : O) (h : HW) : Rs :=
 ob x0 fun a0 =>
 bc (C (.fn 181) [a0] h) fun y1 h1 =>
 ob (unE .not y1) fun y2 =>
 bc (C (.fn 146) [y2, (.int .i64 14)] h1) fun y3 h3 =>
 n h3
theorem q142_4_eq (C : YC) (lf : Nat) (n : K0) (KR : KF) (KE : KX) : ∀ F h, evX fx142 C lf [] F h (fun F h => n h) KR KE = q142_4 C lf n (F 0) h := by
  intro F h; kernel_rfl
noncomputable def fs142 (C : YC) (lf : Nat) (a0 : SV) (h : HW) : Rs := q142_4 C lf ff142 (some a0) h
theorem fs142_eq (C : YC) (lf : Nat) (a0 : SV) (h : HW) : yFn Tryz.prog fx142 C lf [a0] h = fs142 C lf a0 h := fnX (K := (fun F h => ff142 h)) (by kernel_rfl) (((q142_4_eq C lf ff142 (fun F h => ff142 h) (fun _ _ _ => none)) _ h).trans (by kernel_rfl))
noncomputable def fy142 : YX Tryz.prog := Y1 fx142 fs142 fs142_eq (by kernel_rfl)

/-! EV 143 (*tinsel/tree.FS).walk: scope -/
noncomputable def fx143 : XF Tryz.prog := ⟨143, Tryz.f143, fun r => bif Nat.beq r 4 then .ord [0, 1, 2, 4, 5, 6, 3, 7, 8, 9, 10] [(9, [7, 3])] else .text, Tryz.func143, by kernel_rfl, by kernel_rfl, by kernel_rfl, by kernel_rfl⟩

/-! FN 144 (*tinsel/tree.FS).fresh -/
noncomputable def fx144 : XF Tryz.prog := ⟨144, Tryz.f144, fun _ => .text, Tryz.func144, by kernel_rfl, by kernel_rfl, by kernel_rfl, by kernel_rfl⟩
noncomputable def ff144 (h : HW) : Rs :=
 some (.ret (.tup []), h)
noncomputable def q144_12 (C : YC) (lf : Nat) (n : K0) (x1 : O) (h : HW) : Rs :=
 ob x1 fun a0 =>
 b2 (ybx 224 a0 h) fun y1 h1 =>
 ob (ldN 5 y1 h1) fun y2 =>
 bc (C (.fn 155) [y2] h1) fun y3 h3 =>
 bc (gd false (some y3) (ob (fa 4 y1) fun y4 =>
 some (.ret y4, h3)) h3) fun y5 h5 =>
 bc (gd false (some y3) (ob (ld1 y5 h5) fun y6 =>
 some (.ret y6, h5)) h5) fun y7 h7 =>
 bc (gd false (some y3) (ob (bin Tryz.prog .neq 3 y7 (.int .i64 0)) fun y8 =>
 some (.ret y8, h7)) h7) fun y9 h9 =>
 ob (ypk y3 (.bool true) y9) fun y10 =>
 bc (C (.fn 146) [y10, (.int .i64 17)] h9) fun y11 h11 =>
 n h11
theorem q144_12_eq (C : YC) (lf : Nat) (n : K0) (KR : KF) (KE : KX) : ∀ F h, evX fx144 C lf [] F h (fun F h => n h) KR KE = q144_12 C lf n (F 1) h := by
  intro F h; kernel_rfl
noncomputable def fs144 (C : YC) (lf : Nat) (a0 a1 : SV) (h : HW) : Rs := q144_12 C lf ff144 (some a1) h
theorem fs144_eq (C : YC) (lf : Nat) (a0 a1 : SV) (h : HW) : yFn Tryz.prog fx144 C lf [a0, a1] h = fs144 C lf a0 a1 h := fnX (K := (fun F h => ff144 h)) (by kernel_rfl) (((q144_12_eq C lf ff144 (fun F h => ff144 h) (fun _ _ _ => none)) _ h).trans (by kernel_rfl))
noncomputable def fy144 : YX Tryz.prog := Y2 fx144 fs144 fs144_eq (by kernel_rfl)

/-! FN 145 (*tinsel/tree.FS).room -/
noncomputable def fx145 : XF Tryz.prog := ⟨145, Tryz.f145, fun _ => .text, Tryz.func145, by kernel_rfl, by kernel_rfl, by kernel_rfl, by kernel_rfl⟩
noncomputable def ff145 (h : HW) : Rs :=
 some (.ret (.tup []), h)
noncomputable def q145_31 (C : YC) (lf : Nat) (n : K0) (x0 x1 x2 x3 : O) (h : HW) : Rs :=
 ob x1 fun a0 =>
 b2 (ybx 46 a0 h) fun y1 h1 =>
 ob x2 fun a2 =>
 b2 (ybx 224 a2 h1) fun y3 h3 =>
 ob x3 fun a4 =>
 bc (gd true (some a4) (ob (fa 2 y3) fun y5 =>
 some (.ret y5, h3)) h3) fun y6 h6 =>
 bc (gd true (some a4) (ob (ld1 y6 h6) fun y7 =>
 some (.ret y7, h6)) h6) fun y8 h8 =>
 ob (ypk a4 y8 (.bool false)) fun y9 =>
 bc (gd false (some y9) (ob x0 fun a10 =>
 some (.ret a10, h8)) h8) fun y11 h11 =>
 bc (gd false (some y9) (ob (fa 0 y3) fun y12 =>
 some (.ret y12, h11)) h11) fun y13 h13 =>
 bc (gd false (some y9) (ob (ld1 y13 h13) fun y14 =>
 some (.ret y14, h13)) h13) fun y15 h15 =>
 bc (gd false (some y9) (bc (C (.fn 147) [y11, y15] h15) fun y16 h16 =>
 some (.ret y16, h16)) h15) fun y17 h17 =>
 bc (gd false (some y9) (ob (fd1 1 y17) fun y18 =>
 some (.ret y18, h17)) h17) fun y19 h19 =>
 bc (gd false (some y9) (ob (bin Tryz.prog .eql 3 y19 (.int .i64 0)) fun y20 =>
 some (.ret y20, h19)) h19) fun y21 h21 =>
 ob (ypk y9 (.bool true) y21) fun y22 =>
 bc (C (.fn 146) [y22, (.int .i64 2)] h21) fun y23 h23 =>
 ob x0 fun a24 =>
 ob (ldN 5 y1 h23) fun y25 =>
 ob (fa 0 y3) fun y26 =>
 ob (ld1 y26 h23) fun y27 =>
 bc (C (.fn 157) [a24, y25, y27, (.int .i64 2)] h23) fun y28 h28 =>
 ob (unE .not y28) fun y29 =>
 bc (C (.fn 146) [y29, (.int .i64 13)] h28) fun y30 h30 =>
 n h30
theorem q145_31_eq (C : YC) (lf : Nat) (n : K0) (KR : KF) (KE : KX) : ∀ F h, evX fx145 C lf [] F h (fun F h => n h) KR KE = q145_31 C lf n (F 0) (F 1) (F 2) (F 3) h := by
  intro F h; kernel_rfl
noncomputable def fs145 (C : YC) (lf : Nat) (a0 a1 a2 a3 : SV) (h : HW) : Rs := q145_31 C lf ff145 (some a0) (some a1) (some a2) (some a3) h
theorem fs145_eq (C : YC) (lf : Nat) (a0 a1 a2 a3 : SV) (h : HW) : yFn Tryz.prog fx145 C lf [a0, a1, a2, a3] h = fs145 C lf a0 a1 a2 a3 h := fnX (K := (fun F h => ff145 h)) (by kernel_rfl) (((q145_31_eq C lf ff145 (fun F h => ff145 h) (fun _ _ _ => none)) _ h).trans (by kernel_rfl))
noncomputable def fy145 : YX Tryz.prog := Y4 fx145 fs145 fs145_eq (by kernel_rfl)

/-! FN 146 tinsel/tree.need -/
noncomputable def fx146 : XF Tryz.prog := ⟨146, Tryz.f146, fun _ => .text, Tryz.func146, by kernel_rfl, by kernel_rfl, by kernel_rfl, by kernel_rfl⟩
noncomputable def ff146 (h : HW) : Rs :=
 some (.ret (.tup []), h)
noncomputable def q146_3 (C : YC) (lf : Nat) (n : K0) (x0 x1 : O) (h : HW) : Rs :=
 ob x0 fun a0 =>
 yIf a0
 (ob x1 fun a1 =>
 ob (semBuild Tryz.prog 299 [0] [a1]) fun y2 =>
 yPan false [(.ifc 299 y2)] h)
 (n h)
theorem q146_3_eq (C : YC) (lf : Nat) (n : K0) (KR : KF) (KE : KX) : ∀ F h, evX fx146 C lf [] F h (fun F h => n h) KR KE = q146_3 C lf n (F 0) (F 1) h := by
  intro F h; kernel_rfl
noncomputable def fs146 (C : YC) (lf : Nat) (a0 a1 : SV) (h : HW) : Rs := q146_3 C lf ff146 (some a0) (some a1) h
theorem fs146_eq (C : YC) (lf : Nat) (a0 a1 : SV) (h : HW) : yFn Tryz.prog fx146 C lf [a0, a1] h = fs146 C lf a0 a1 h := fnX (K := (fun F h => ff146 h)) (by kernel_rfl) (((q146_3_eq C lf ff146 (fun F h => ff146 h) (fun _ _ _ => none)) _ h).trans (by kernel_rfl))
noncomputable def fy146 : YX Tryz.prog := Y2 fx146 fs146 fs146_eq (by kernel_rfl)

/-! FN 147 (*tinsel/tree.FS).stat -/
noncomputable def fx147 : XF Tryz.prog := ⟨147, Tryz.f147, fun _ => .text, Tryz.func147, by kernel_rfl, by kernel_rfl, by kernel_rfl, by kernel_rfl⟩
noncomputable def ff147 (x4 : O) (h : HW) : Rs :=
 ob x4 fun a0 =>
 ob (ldN 10 a0 h) fun y1 =>
 some (.ret y1, h)
noncomputable def q147_15 (C : YC) (lf : Nat) (r : K1) (x0 x1 : O) (h : HW) : Rs :=
 b2 (yAl Tryz.prog 58 h) fun y2 h2 =>
 ob x0 fun a3 =>
 ob (semNil a3) fun y4 =>
 ob (fa 0 y4) fun y5 =>
 ob (ld1 y5 h2) fun y6 =>
 ob x1 fun a7 =>
 bc (C (.fn 184) [y6, a7] h2) fun y8 h8 =>
 ob (ext 0 y8) fun y9 =>
 ob (ext 1 y8) fun y10 =>
 b2 (yAl Tryz.prog 58 h8) fun y11 h11 =>
 ob (st 10 y11 y9 h11) fun h12 =>
 ob (ldN 10 y11 h12) fun y13 =>
 ob (st 10 y2 y13 h12) fun h14 =>
 r (some y2) h14
theorem q147_15_eq (C : YC) (lf : Nat) (r : K1) (KN : KF) (KE : KX) : ∀ F h, evX fx147 C lf [] F h KN (fun F h => r (F 4) h) KE = q147_15 C lf r (F 0) (F 1) h := by
  intro F h; kernel_rfl
noncomputable def fs147 (C : YC) (lf : Nat) (a0 a1 : SV) (h : HW) : Rs := q147_15 C lf ff147 (some a0) (some a1) h
theorem fs147_eq (C : YC) (lf : Nat) (a0 a1 : SV) (h : HW) : yFn Tryz.prog fx147 C lf [a0, a1] h = fs147 C lf a0 a1 h := fnX (K := (fun F h => ff147 (F 4) h)) (by kernel_rfl) (((q147_15_eq C lf ff147 (fun F h => ff147 (F 4) h) (fun _ _ _ => none)) _ h).trans (by kernel_rfl))
noncomputable def fy147 : YX Tryz.prog := Y2 fx147 fs147 fs147_eq (by kernel_rfl)

/-! EV 148 (*tinsel/tree.FS).make: operation -/
noncomputable def fx148 : XF Tryz.prog := ⟨148, Tryz.f148, fun _ => .text, Tryz.func148, by kernel_rfl, by kernel_rfl, by kernel_rfl, by kernel_rfl⟩

/-! FN 149 tinsel/tree.less -/
noncomputable def fx149 : XF Tryz.prog := ⟨149, Tryz.f149, fun _ => .text, Tryz.func149, by kernel_rfl, by kernel_rfl, by kernel_rfl, by kernel_rfl⟩
noncomputable def ff149 (x4 : O) (h : HW) : Rs :=
 ob x4 fun a0 =>
 some (.ret a0, h)
noncomputable def q149_8 (C : YC) (lf : Nat) (r : K1) (x0 x1 : O) (h : HW) : Rs :=
 ob x0 fun a1 =>
 b2 (ybx 46 a1 h) fun y2 h2 =>
 ob x1 fun a3 =>
 ob (bin Tryz.prog .and 30 a3 (.int .i64 4095)) fun y4 =>
 ob (fa 3 y2) fun y5 =>
 ob (ld1 y5 h2) fun y6 =>
 ob (bin Tryz.prog .andNot 30 y4 y6) fun y7 =>
 r (some y7) h2
theorem q149_8_eq (C : YC) (lf : Nat) (r : K1) (KN : KF) (KE : KX) : ∀ F h, evX fx149 C lf [] F h KN (fun F h => r (F 4) h) KE = q149_8 C lf r (F 0) (F 1) h := by
  intro F h; kernel_rfl
noncomputable def fs149 (C : YC) (lf : Nat) (a0 a1 : SV) (h : HW) : Rs := q149_8 C lf ff149 (some a0) (some a1) h
theorem fs149_eq (C : YC) (lf : Nat) (a0 a1 : SV) (h : HW) : yFn Tryz.prog fx149 C lf [a0, a1] h = fs149 C lf a0 a1 h := fnX (K := (fun F h => ff149 (F 4) h)) (by kernel_rfl) (((q149_8_eq C lf ff149 (fun F h => ff149 (F 4) h) (fun _ _ _ => none)) _ h).trans (by kernel_rfl))
noncomputable def fy149 : YX Tryz.prog := Y2 fx149 fs149 fs149_eq (by kernel_rfl)

/-! FN 150 (*tinsel/tree.FS).Mkdir$1 -/
noncomputable def fx150 : XF Tryz.prog := ⟨150, Tryz.f150, fun _ => .text, Tryz.func150, by kernel_rfl, by kernel_rfl, by kernel_rfl, by kernel_rfl⟩
noncomputable def ff150 (x4 : O) (h : HW) : Rs :=
 ob x4 fun a0 =>
 some (.ret a0, h)
noncomputable def q150_11 (C : YC) (lf : Nat) (r : K1) (x0 x1 x2 : O) (h : HW) : Rs :=
 ob x1 fun a1 =>
 ob (ld1 a1 h) fun y2 =>
 ob (semNil y2) fun y3 =>
 ob (fa 0 y3) fun y4 =>
 ob (ld1 y4 h) fun y5 =>
 ob x0 fun a6 =>
 ob x2 fun a7 =>
 ob (fa 0 a7) fun y8 =>
 ob (ld1 y8 h) fun y9 =>
 bcn (C (.fn 139) [y5, a6, y9] h) fun y10 h10 =>
 r (some y10) h10
theorem q150_11_eq (C : YC) (lf : Nat) (r : K1) (KN : KF) (KE : KX) : ∀ F h, evX fx150 C lf [] F h KN (fun F h => r (F 4) h) KE = q150_11 C lf r (F 0) (F 1) (F 2) h := by
  intro F h; kernel_rfl
noncomputable def fs150 (C : YC) (lf : Nat) (a0 a1 a2 : SV) (h : HW) : Rs := q150_11 C lf ff150 (some a0) (some a1) (some a2) h
theorem fs150_eq (C : YC) (lf : Nat) (a0 a1 a2 : SV) (h : HW) : yFn Tryz.prog fx150 C lf [a0, a1, a2] h = fs150 C lf a0 a1 a2 h := fnX (K := (fun F h => ff150 (F 4) h)) (by kernel_rfl) (((q150_11_eq C lf ff150 (fun F h => ff150 (F 4) h) (fun _ _ _ => none)) _ h).trans (by kernel_rfl))
noncomputable def fy150 : YX Tryz.prog := Y3 fx150 fs150 fs150_eq (by kernel_rfl)

/-! EV 151 tinsel/path.Split: rangeFunc -/
noncomputable def fx151 : XF Tryz.prog := ⟨151, Tryz.f151, fun _ => .text, Tryz.func151, by kernel_rfl, by kernel_rfl, by kernel_rfl, by kernel_rfl⟩

/-! FN 152 tinsel/tree.must -/
noncomputable def fx152 : XF Tryz.prog := ⟨152, Tryz.f152, fun _ => .text, Tryz.func152, by kernel_rfl, by kernel_rfl, by kernel_rfl, by kernel_rfl⟩
noncomputable def ff152 (h : HW) : Rs :=
 some (.ret (.tup []), h)
noncomputable def q152_4 (C : YC) (lf : Nat) (n : K0) (x0 : O) (h : HW) : Rs :=
 ob x0 fun a0 =>
 ob (bin Tryz.prog .neq 23 a0 (.int .i64 0)) fun y1 =>
 ob x0 fun a2 =>
 bc (C (.fn 146) [y1, a2] h) fun y3 h3 =>
 n h3
theorem q152_4_eq (C : YC) (lf : Nat) (n : K0) (KR : KF) (KE : KX) : ∀ F h, evX fx152 C lf [] F h (fun F h => n h) KR KE = q152_4 C lf n (F 0) h := by
  intro F h; kernel_rfl
noncomputable def fs152 (C : YC) (lf : Nat) (a0 : SV) (h : HW) : Rs := q152_4 C lf ff152 (some a0) h
theorem fs152_eq (C : YC) (lf : Nat) (a0 : SV) (h : HW) : yFn Tryz.prog fx152 C lf [a0] h = fs152 C lf a0 h := fnX (K := (fun F h => ff152 h)) (by kernel_rfl) (((q152_4_eq C lf ff152 (fun F h => ff152 h) (fun _ _ _ => none)) _ h).trans (by kernel_rfl))
noncomputable def fy152 : YX Tryz.prog := Y1 fx152 fs152 fs152_eq (by kernel_rfl)

/-! FN 153 (*tinsel/tree.FS).Symlink$1 -/
noncomputable def fx153 : XF Tryz.prog := ⟨153, Tryz.f153, fun r => bif Nat.beq r 1 then .ord [4, 0, 1, 2, 3, 5, 6, 7, 8, 9, 10, 11, 12] [(6, [3, 0])] else .text, Tryz.func153, by kernel_rfl, by kernel_rfl, by kernel_rfl, by kernel_rfl⟩
noncomputable def ff153 (x4 : O) (h : HW) : Rs :=
 ob x4 fun a0 =>
 some (.ret a0, h)
noncomputable def q153_23 (C : YC) (lf : Nat) (r : K1) (x0 x1 x2 : O) (h : HW) : Rs :=
 ob x0 fun a1 =>
 ob x1 fun a2 =>
 ob (ld1 a2 h) fun y3 =>
 ob (semNil y3) fun y4 =>
 ob (fa 0 y4) fun y5 =>
 ob (ld1 y5 h) fun y6 =>
 ob x2 fun a7 =>
 ob (ld1 a7 h) fun y8 =>
 b2 (ycv Tryz.prog 9 31 y8 h) fun y9 h9 =>
 ck (chkH [(5, adrO x2), (3, adrO (some y5)), (0, adrO x1)] h h9 [3, 0]) <|
 bcn (C (.fn 154) [y6, a1, (.int .i64 0), y9] h9) fun y10 h10 =>
 ob (ext 0 y10) fun y11 =>
 ob (ext 1 y10) fun y12 =>
 ob (bin Tryz.prog .eql 23 y12 (.int .i64 0)) fun y13 =>
 bc (gd true (some y13) (some (.ret y11, h10)) h10) fun y14 h14 =>
 bc (gd true (some y13) (ob x2 fun a15 =>
 ob (ld1 a15 h14) fun y16 =>
 some (.ret y16, h14)) h14) fun y17 h17 =>
 bc (gd true (some y13) (ob (lenE Tryz.prog 9 y17) fun y18 =>
 some (.ret y18, h17)) h17) fun y19 h19 =>
 bc (gd true (some y13) (ob (bin Tryz.prog .lss 3 y14 y19) fun y20 =>
 some (.ret y20, h19)) h19) fun y21 h21 =>
 ob (ypk y13 y21 (.bool false)) fun y22 =>
 yIf y22
 (r (some (.int .i64 28)) h21)
 (r (some y12) h21)
theorem q153_23_eq (C : YC) (lf : Nat) (r : K1) (KN : KF) (KE : KX) : ∀ F h, evX fx153 C lf [] F h KN (fun F h => r (F 4) h) KE = q153_23 C lf r (F 0) (F 1) (F 2) h := by
  intro F h; kernel_rfl
noncomputable def fs153 (C : YC) (lf : Nat) (a0 a1 a2 : SV) (h : HW) : Rs := q153_23 C lf ff153 (some a0) (some a1) (some a2) h
theorem fs153_eq (C : YC) (lf : Nat) (a0 a1 a2 : SV) (h : HW) : yFn Tryz.prog fx153 C lf [a0, a1, a2] h = fs153 C lf a0 a1 a2 h := fnX (K := (fun F h => ff153 (F 4) h)) (by kernel_rfl) (((q153_23_eq C lf ff153 (fun F h => ff153 (F 4) h) (fun _ _ _ => none)) _ h).trans (by kernel_rfl))
noncomputable def fy153 : YX Tryz.prog := Y3 fx153 fs153 fs153_eq (by kernel_rfl)

/-! FN 154 (*tinsel/inode.Table).Write -/
noncomputable def fx154 : XF Tryz.prog := ⟨154, Tryz.f154, fun r => bif Nat.beq r 16 then .ord [0, 1, 2, 4, 5, 10, 11, 12, 13, 14, 15, 16, 3, 6, 7, 8, 9, 17] [(6, [3])] else .text, Tryz.func154, by kernel_rfl, by kernel_rfl, by kernel_rfl, by kernel_rfl⟩
noncomputable def ff154 (x8 x9 : O) (h : HW) : Rs :=
 ob x8 fun a0 =>
 ob x9 fun a1 =>
 some (.ret (.tup [a0, a1]), h)
noncomputable def q154_22 (C : YC) (lf : Nat) (r : K2) (x0 x2 x10 x12 : O) (h : HW) : Rs :=
 ob x12 fun a2 =>
 ob (bin Tryz.prog .eql 3 a2 (.int .i64 0)) fun y3 =>
 yIf y3
 (r (some (.int .i64 0)) (some (.int .i64 28)) h)
 (ob x10 fun a4 =>
 ob x10 fun a5 =>
 ob (semNil a5) fun y6 =>
 ob (fa 1 y6) fun y7 =>
 ob (fa 4 y7) fun y8 =>
 ob (ld1 y8 h) fun y9 =>
 ob x2 fun a10 =>
 ob x12 fun a11 =>
 ob (bin Tryz.prog .add 3 a10 a11) fun y12 =>
 b2 (ybl Tryz.prog .max #[3, 3] [y9, y12] h) fun y13 h13 =>
 ob (semNil a4) fun y14 =>
 ob (fa 1 y14) fun y15 =>
 ob (fa 4 y15) fun y16 =>
 ob (st 1 y16 y13 h13) fun h17 =>
 ob x0 fun a18 =>
 ob x10 fun a19 =>
 bc (C (.fn 220) [a18, a19] h17) fun y20 h20 =>
 ob x12 fun a21 =>
 r (some a21) (some (.int .i64 0)) h20)
theorem q154_22_eq (C : YC) (lf : Nat) (r : K2) (KN : KF) (KE : KX) : ∀ F h, evX fx154 C lf [1, 1, 1, 1, 1, 1, 1] F h KN (fun F h => r (F 8) (F 9) h) KE = q154_22 C lf r (F 0) (F 2) (F 10) (F 12) h := by
  intro F h; kernel_rfl
noncomputable def q154_63 (C : YC) (lf : Nat) (n : K5) (e1 : K4) (x0 x2 x3 x10 x12 : O) (h : HW) : Rs :=
 ob x12 fun a24 =>
 ob x3 fun a25 =>
 ob (lenE Tryz.prog 31 a25) fun y26 =>
 ob (bin Tryz.prog .lss 3 a24 y26) fun y27 =>
 yIf y27
 (ob x2 fun a28 =>
 ob x12 fun a29 =>
 ob (bin Tryz.prog .add 3 a28 a29) fun y30 =>
 ob (bin Tryz.prog .quo 3 y30 (.int .i64 64)) fun y31 =>
 ob x2 fun a32 =>
 ob x12 fun a33 =>
 ob (bin Tryz.prog .add 3 a32 a33) fun y34 =>
 ob (bin Tryz.prog .rem 3 y34 (.int .i64 64)) fun y35 =>
 ob x0 fun a36 =>
 ob x10 fun a37 =>
 bc (C (.fn 217) [a36, a37, y31] h) fun y38 h38 =>
 ob (unE .not y38) fun y39 =>
 yIf y39
 (e1 x0 x2 x10 x12 h38)
 (ob (bin Tryz.prog .sub 3 (.int .i64 64) y35) fun y40 =>
 ob x3 fun a41 =>
 ob (lenE Tryz.prog 31 a41) fun y42 =>
 ob x12 fun a43 =>
 ob (bin Tryz.prog .sub 3 y42 a43) fun y44 =>
 b2 (ybl Tryz.prog .min #[3, 3] [y40, y44] h38) fun y45 h45 =>
 ob x0 fun a46 =>
 ob (semNil a46) fun y47 =>
 ob (fa 0 y47) fun y48 =>
 ob x10 fun a49 =>
 ob x3 fun a50 =>
 ob x12 fun a51 =>
 ob x12 fun a52 =>
 ob (bin Tryz.prog .add 3 a52 y45) fun y53 =>
 ob (semSlice Tryz.prog 31 a50 (some a51) (some y53)) fun y54 =>
 ob (ld1 y48 h45) fun y55 =>
 bcn (C (.fn 219) [a49, y31] h45) fun y56 h56 =>
 ck (chkH [(3, adrO (some y48))] h45 h56 [3]) <|
 ob (semNil y56) fun y57 =>
 ob (ld1 y57 h56) fun y58 =>
 ob (bin Tryz.prog .sub 3 y58 (.int .i64 1)) fun y59 =>
 bcn (C (.fn 218) [y55, y59, y35, y54] h56) fun y60 h60 =>
 ob x12 fun a61 =>
 ob (bin Tryz.prog .add 3 a61 y45) fun y62 =>
 n x0 x2 x3 x10 (some y62) h60))
 (e1 x0 x2 x10 x12 h)
theorem q154_63_eq (C : YC) (lf : Nat) (n : K5) (e1 : K4) (KR : KF) (KE : KX) : ∀ F h, evX fx154 C lf [1, 1, 1, 1, 1, 1, 0, 0, 0] F h (fun F h => n (F 0) (F 2) (F 3) (F 10) (F 12) h) KR (bk 1 (fun F h => e1 (F 0) (F 2) (F 10) (F 12) h) KE) = q154_63 C lf n e1 (F 0) (F 2) (F 3) (F 10) (F 12) h := by
  intro F h; kernel_rfl
noncomputable def l154_23 (C : YC) (lf : Nat) (e1 : K4) (k : O × O × O × O × O → HW → Rs) (s : O × O × O × O × O) (h : HW) : Rs :=
 q154_63 C lf (fun x0 x2 x3 x10 x12 h => k (x0, x2, x3, x10, x12) h) e1 s.1 s.2.1 s.2.2.1 s.2.2.2.1 s.2.2.2.2 h
noncomputable def q154_64 (C : YC) (lf : Nat) (r : K2) (x0 x2 x3 x10 x12 : O) (h : HW) : Rs :=
 lp (l154_23 C lf (fun x0 x2 x10 x12 h => q154_22 C lf r x0 x2 x10 x12 h)) lf (x0, x2, x3, x10, x12) h
theorem q154_64_eq (C : YC) (lf : Nat) (r : K2) (KN : KF) (KE : KX) : ∀ F h, evX fx154 C lf [1, 1, 1, 1, 1, 1] F h KN (fun F h => r (F 8) (F 9) h) KE = q154_64 C lf r (F 0) (F 2) (F 3) (F 10) (F 12) h := cSeq (a := subX fx154 [1, 1, 1, 1, 1, 1, 0]) (b := subX fx154 [1, 1, 1, 1, 1, 1, 1]) (by kernel_rfl) (B := (fun F h => q154_22 C lf r (F 0) (F 2) (F 10) (F 12) h)) (q154_22_eq C lf r KN KE) (cBlock (id := 1) (a := subX fx154 [1, 1, 1, 1, 1, 1, 0, 0]) (by kernel_rfl) (cLoop (a := subX fx154 [1, 1, 1, 1, 1, 1, 0, 0, 0]) (g := fun F => (F 0, F 2, F 3, F 10, F 12)) (body := l154_23 C lf (fun x0 x2 x10 x12 h => q154_22 C lf r x0 x2 x10 x12 h)) (by kernel_rfl) (fun k => (q154_63_eq C lf (fun x0 x2 x3 x10 x12 h => k (x0, x2, x3, x10, x12) h) (fun x0 x2 x10 x12 h => q154_22 C lf r x0 x2 x10 x12 h) (fun F h => r (F 8) (F 9) h) KE))))
noncomputable def q154_65 (C : YC) (lf : Nat) (n : K5) (x0 x2 x3 x10 : O) (h : HW) : Rs :=
 n x0 x2 x3 x10 (some (.int .i64 0)) h
theorem q154_65_eq (C : YC) (lf : Nat) (n : K5) (KR : KF) (KE : KX) : ∀ F h, evX fx154 C lf [1, 1, 1, 1, 1, 0] F h (fun F h => n (F 0) (F 2) (F 3) (F 10) (F 12) h) KR KE = q154_65 C lf n (F 0) (F 2) (F 3) (F 10) h := by
  intro F h; kernel_rfl
noncomputable def q154_66 (C : YC) (lf : Nat) (r : K2) (x0 x2 x3 x10 : O) (h : HW) : Rs :=
 q154_65 C lf (fun x0 x2 x3 x10 x12 h => q154_64 C lf r x0 x2 x3 x10 x12 h) x0 x2 x3 x10 h
theorem q154_66_eq (C : YC) (lf : Nat) (r : K2) (KN : KF) (KE : KX) : ∀ F h, evX fx154 C lf [1, 1, 1, 1, 1] F h KN (fun F h => r (F 8) (F 9) h) KE = q154_66 C lf r (F 0) (F 2) (F 3) (F 10) h := cSeq (a := subX fx154 [1, 1, 1, 1, 1, 0]) (b := subX fx154 [1, 1, 1, 1, 1, 1]) (by kernel_rfl) (B := (fun F h => q154_64 C lf r (F 0) (F 2) (F 3) (F 10) (F 12) h)) (q154_64_eq C lf r KN KE) (q154_65_eq C lf (fun x0 x2 x3 x10 x12 h => q154_64 C lf r x0 x2 x3 x10 x12 h) (fun F h => r (F 8) (F 9) h) KE)
noncomputable def q154_74 (C : YC) (lf : Nat) (n : K4) (x0 x2 x3 x10 : O) (h : HW) : Rs :=
 ob x3 fun a67 =>
 ob x3 fun a68 =>
 ob (lenE Tryz.prog 31 a68) fun y69 =>
 ob x2 fun a70 =>
 ob (bin Tryz.prog .sub 3 (.int .i64 17792) a70) fun y71 =>
 b2 (ybl Tryz.prog .min #[3, 3] [y69, y71] h) fun y72 h72 =>
 ob (semSlice Tryz.prog 31 a67 none (some y72)) fun y73 =>
 n x0 x2 (some y73) x10 h72
theorem q154_74_eq (C : YC) (lf : Nat) (n : K4) (KR : KF) (KE : KX) : ∀ F h, evX fx154 C lf [1, 1, 1, 1, 0] F h (fun F h => n (F 0) (F 2) (F 3) (F 10) h) KR KE = q154_74 C lf n (F 0) (F 2) (F 3) (F 10) h := by
  intro F h; kernel_rfl
noncomputable def q154_75 (C : YC) (lf : Nat) (r : K2) (x0 x2 x3 x10 : O) (h : HW) : Rs :=
 q154_74 C lf (fun x0 x2 x3 x10 h => q154_66 C lf r x0 x2 x3 x10 h) x0 x2 x3 x10 h
theorem q154_75_eq (C : YC) (lf : Nat) (r : K2) (KN : KF) (KE : KX) : ∀ F h, evX fx154 C lf [1, 1, 1, 1] F h KN (fun F h => r (F 8) (F 9) h) KE = q154_75 C lf r (F 0) (F 2) (F 3) (F 10) h := cSeq (a := subX fx154 [1, 1, 1, 1, 0]) (b := subX fx154 [1, 1, 1, 1, 1]) (by kernel_rfl) (B := (fun F h => q154_66 C lf r (F 0) (F 2) (F 3) (F 10) h)) (q154_66_eq C lf r KN KE) (q154_74_eq C lf (fun x0 x2 x3 x10 h => q154_66 C lf r x0 x2 x3 x10 h) (fun F h => r (F 8) (F 9) h) KE)
noncomputable def q154_83 (C : YC) (lf : Nat) (n : K4) (r : K2) (x0 x2 x3 x10 : O) (h : HW) : Rs :=
 ob x2 fun a76 =>
 ob (bin Tryz.prog .lss 3 a76 (.int .i64 0)) fun y77 =>
 yIf y77
 (r (some (.int .i64 0)) (some (.int .i64 22)) h)
 (ob x3 fun a78 =>
 ob (lenE Tryz.prog 31 a78) fun y79 =>
 ob (bin Tryz.prog .eql 3 y79 (.int .i64 0)) fun y80 =>
 yIf y80
 (r (some (.int .i64 0)) (some (.int .i64 0)) h)
 (ob x2 fun a81 =>
 ob (bin Tryz.prog .geq 3 a81 (.int .i64 17792)) fun y82 =>
 yIf y82
 (r (some (.int .i64 0)) (some (.int .i64 27)) h)
 (n x0 x2 x3 x10 h)))
theorem q154_83_eq (C : YC) (lf : Nat) (n : K4) (r : K2) (KE : KX) : ∀ F h, evX fx154 C lf [1, 1, 1, 0] F h (fun F h => n (F 0) (F 2) (F 3) (F 10) h) (fun F h => r (F 8) (F 9) h) KE = q154_83 C lf n r (F 0) (F 2) (F 3) (F 10) h := by
  intro F h; kernel_rfl
noncomputable def q154_84 (C : YC) (lf : Nat) (r : K2) (x0 x2 x3 x10 : O) (h : HW) : Rs :=
 q154_83 C lf (fun x0 x2 x3 x10 h => q154_75 C lf r x0 x2 x3 x10 h) r x0 x2 x3 x10 h
theorem q154_84_eq (C : YC) (lf : Nat) (r : K2) (KN : KF) (KE : KX) : ∀ F h, evX fx154 C lf [1, 1, 1] F h KN (fun F h => r (F 8) (F 9) h) KE = q154_84 C lf r (F 0) (F 2) (F 3) (F 10) h := cSeq (a := subX fx154 [1, 1, 1, 0]) (b := subX fx154 [1, 1, 1, 1]) (by kernel_rfl) (B := (fun F h => q154_75 C lf r (F 0) (F 2) (F 3) (F 10) h)) (q154_75_eq C lf r KN KE) (q154_83_eq C lf (fun x0 x2 x3 x10 h => q154_75 C lf r x0 x2 x3 x10 h) r KE)
noncomputable def q154_88 (C : YC) (lf : Nat) (n : K4) (r : K2) (x0 x2 x3 x10 x11 : O) (h : HW) : Rs :=
 ob x11 fun a85 =>
 ob (bin Tryz.prog .neq 23 a85 (.int .i64 0)) fun y86 =>
 yIf y86
 (ob x11 fun a87 =>
 r (some (.int .i64 0)) (some a87) h)
 (n x0 x2 x3 x10 h)
theorem q154_88_eq (C : YC) (lf : Nat) (n : K4) (r : K2) (KE : KX) : ∀ F h, evX fx154 C lf [1, 1, 0] F h (fun F h => n (F 0) (F 2) (F 3) (F 10) h) (fun F h => r (F 8) (F 9) h) KE = q154_88 C lf n r (F 0) (F 2) (F 3) (F 10) (F 11) h := by
  intro F h; kernel_rfl
noncomputable def q154_89 (C : YC) (lf : Nat) (r : K2) (x0 x2 x3 x10 x11 : O) (h : HW) : Rs :=
 q154_88 C lf (fun x0 x2 x3 x10 h => q154_84 C lf r x0 x2 x3 x10 h) r x0 x2 x3 x10 x11 h
theorem q154_89_eq (C : YC) (lf : Nat) (r : K2) (KN : KF) (KE : KX) : ∀ F h, evX fx154 C lf [1, 1] F h KN (fun F h => r (F 8) (F 9) h) KE = q154_89 C lf r (F 0) (F 2) (F 3) (F 10) (F 11) h := cSeq (a := subX fx154 [1, 1, 0]) (b := subX fx154 [1, 1, 1]) (by kernel_rfl) (B := (fun F h => q154_84 C lf r (F 0) (F 2) (F 3) (F 10) h)) (q154_84_eq C lf r KN KE) (q154_88_eq C lf (fun x0 x2 x3 x10 h => q154_84 C lf r x0 x2 x3 x10 h) r KE)
noncomputable def q154_95 (C : YC) (lf : Nat) (n : K5) (x0 x1 x2 x3 : O) (h : HW) : Rs :=
 ob x0 fun a90 =>
 ob x1 fun a91 =>
 bc (C (.fn 206) [a90, a91] h) fun y92 h92 =>
 ob (ext 0 y92) fun y93 =>
 ob (ext 1 y92) fun y94 =>
 n x0 x2 x3 (some y93) (some y94) h92
theorem q154_95_eq (C : YC) (lf : Nat) (n : K5) (KR : KF) (KE : KX) : ∀ F h, evX fx154 C lf [1, 0] F h (fun F h => n (F 0) (F 2) (F 3) (F 10) (F 11) h) KR KE = q154_95 C lf n (F 0) (F 1) (F 2) (F 3) h := by
  intro F h; kernel_rfl
noncomputable def q154_96 (C : YC) (lf : Nat) (r : K2) (x0 x1 x2 x3 : O) (h : HW) : Rs :=
 q154_95 C lf (fun x0 x2 x3 x10 x11 h => q154_89 C lf r x0 x2 x3 x10 x11 h) x0 x1 x2 x3 h
theorem q154_96_eq (C : YC) (lf : Nat) (r : K2) (KN : KF) (KE : KX) : ∀ F h, evX fx154 C lf [1] F h KN (fun F h => r (F 8) (F 9) h) KE = q154_96 C lf r (F 0) (F 1) (F 2) (F 3) h := cSeq (a := subX fx154 [1, 0]) (b := subX fx154 [1, 1]) (by kernel_rfl) (B := (fun F h => q154_89 C lf r (F 0) (F 2) (F 3) (F 10) (F 11) h)) (q154_89_eq C lf r KN KE) (q154_95_eq C lf (fun x0 x2 x3 x10 x11 h => q154_89 C lf r x0 x2 x3 x10 x11 h) (fun F h => r (F 8) (F 9) h) KE)
noncomputable def q154_97 (C : YC) (lf : Nat) (n : K4) (x0 x1 x2 x3 : O) (h : HW) : Rs :=
 n x0 x1 x2 x3 h
theorem q154_97_eq (C : YC) (lf : Nat) (n : K4) (KR : KF) (KE : KX) : ∀ F h, evX fx154 C lf [0] F h (fun F h => n (F 0) (F 1) (F 2) (F 3) h) KR KE = q154_97 C lf n (F 0) (F 1) (F 2) (F 3) h := by
  intro F h; kernel_rfl
noncomputable def q154_98 (C : YC) (lf : Nat) (r : K2) (x0 x1 x2 x3 : O) (h : HW) : Rs :=
 q154_97 C lf (fun x0 x1 x2 x3 h => q154_96 C lf r x0 x1 x2 x3 h) x0 x1 x2 x3 h
theorem q154_98_eq (C : YC) (lf : Nat) (r : K2) (KN : KF) (KE : KX) : ∀ F h, evX fx154 C lf [] F h KN (fun F h => r (F 8) (F 9) h) KE = q154_98 C lf r (F 0) (F 1) (F 2) (F 3) h := cSeq (a := subX fx154 [0]) (b := subX fx154 [1]) (by kernel_rfl) (B := (fun F h => q154_96 C lf r (F 0) (F 1) (F 2) (F 3) h)) (q154_96_eq C lf r KN KE) (q154_97_eq C lf (fun x0 x1 x2 x3 h => q154_96 C lf r x0 x1 x2 x3 h) (fun F h => r (F 8) (F 9) h) KE)
noncomputable def fs154 (C : YC) (lf : Nat) (a0 a1 a2 a3 : SV) (h : HW) : Rs := q154_98 C lf ff154 (some a0) (some a1) (some a2) (some a3) h
theorem fs154_eq (C : YC) (lf : Nat) (a0 a1 a2 a3 : SV) (h : HW) : yFn Tryz.prog fx154 C lf [a0, a1, a2, a3] h = fs154 C lf a0 a1 a2 a3 h := fnX (K := (fun F h => ff154 (F 8) (F 9) h)) (by kernel_rfl) (((q154_98_eq C lf ff154 (fun F h => ff154 (F 8) (F 9) h) (fun _ _ _ => none)) _ h).trans (by kernel_rfl))
noncomputable def fy154 : YX Tryz.prog := Y4 fx154 fs154 fs154_eq (by kernel_rfl)

/-! FN 155 (tinsel/tree.spot).bad -/
noncomputable def fx155 : XF Tryz.prog := ⟨155, Tryz.f155, fun _ => .text, Tryz.func155, by kernel_rfl, by kernel_rfl, by kernel_rfl, by kernel_rfl⟩
noncomputable def ff155 (x2 : O) (h : HW) : Rs :=
 ob x2 fun a0 =>
 some (.ret a0, h)
noncomputable def q155_19 (C : YC) (lf : Nat) (r : K1) (x0 : O) (h : HW) : Rs :=
 ob x0 fun a1 =>
 b2 (ybx 224 a1 h) fun y2 h2 =>
 ob (fa 3 y2) fun y3 =>
 ob (ld1 y3 h2) fun y4 =>
 bc (gd false (some y4) (ob (fa 1 y2) fun y5 =>
 some (.ret y5, h2)) h2) fun y6 h6 =>
 bc (gd false (some y4) (ob (ld1 y6 h6) fun y7 =>
 some (.ret y7, h6)) h6) fun y8 h8 =>
 bc (gd false (some y4) (ob (bin Tryz.prog .eql 9 y8 (.str (bs [46]))) fun y9 =>
 some (.ret y9, h8)) h8) fun y10 h10 =>
 ob (ypk y4 (.bool true) y10) fun y11 =>
 bc (gd false (some y11) (ob (fa 1 y2) fun y12 =>
 some (.ret y12, h10)) h10) fun y13 h13 =>
 bc (gd false (some y11) (ob (ld1 y13 h13) fun y14 =>
 some (.ret y14, h13)) h13) fun y15 h15 =>
 bc (gd false (some y11) (ob (bin Tryz.prog .eql 9 y15 (.str (bs [46, 46]))) fun y16 =>
 some (.ret y16, h15)) h15) fun y17 h17 =>
 ob (ypk y11 (.bool true) y17) fun y18 =>
 r (some y18) h17
theorem q155_19_eq (C : YC) (lf : Nat) (r : K1) (KN : KF) (KE : KX) : ∀ F h, evX fx155 C lf [] F h KN (fun F h => r (F 2) h) KE = q155_19 C lf r (F 0) h := by
  intro F h; kernel_rfl
noncomputable def fs155 (C : YC) (lf : Nat) (a0 : SV) (h : HW) : Rs := q155_19 C lf ff155 (some a0) h
theorem fs155_eq (C : YC) (lf : Nat) (a0 : SV) (h : HW) : yFn Tryz.prog fx155 C lf [a0] h = fs155 C lf a0 h := fnX (K := (fun F h => ff155 (F 2) h)) (by kernel_rfl) (((q155_19_eq C lf ff155 (fun F h => ff155 (F 2) h) (fun _ _ _ => none)) _ h).trans (by kernel_rfl))
noncomputable def fy155 : YX Tryz.prog := Y1 fx155 fs155 fs155_eq (by kernel_rfl)

/-! FN 156 (*tinsel/tree.FS).kind -/
noncomputable def fx156 : XF Tryz.prog := ⟨156, Tryz.f156, fun _ => .text, Tryz.func156, by kernel_rfl, by kernel_rfl, by kernel_rfl, by kernel_rfl⟩
noncomputable def ff156 (x4 : O) (h : HW) : Rs :=
 ob x4 fun a0 =>
 some (.ret a0, h)
noncomputable def q156_6 (C : YC) (lf : Nat) (r : K1) (x0 x1 : O) (h : HW) : Rs :=
 ob x0 fun a1 =>
 ob x1 fun a2 =>
 bc (C (.fn 147) [a1, a2] h) fun y3 h3 =>
 ob (fd1 6 y3) fun y4 =>
 ob (bin Tryz.prog .and 30 y4 (.int .i64 61440)) fun y5 =>
 r (some y5) h3
theorem q156_6_eq (C : YC) (lf : Nat) (r : K1) (KN : KF) (KE : KX) : ∀ F h, evX fx156 C lf [] F h KN (fun F h => r (F 4) h) KE = q156_6 C lf r (F 0) (F 1) h := by
  intro F h; kernel_rfl
noncomputable def fs156 (C : YC) (lf : Nat) (a0 a1 : SV) (h : HW) : Rs := q156_6 C lf ff156 (some a0) (some a1) h
theorem fs156_eq (C : YC) (lf : Nat) (a0 a1 : SV) (h : HW) : yFn Tryz.prog fx156 C lf [a0, a1] h = fs156 C lf a0 a1 h := fnX (K := (fun F h => ff156 (F 4) h)) (by kernel_rfl) (((q156_6_eq C lf ff156 (fun F h => ff156 (F 4) h) (fun _ _ _ => none)) _ h).trans (by kernel_rfl))
noncomputable def fy156 : YX Tryz.prog := Y2 fx156 fs156 fs156_eq (by kernel_rfl)

/-! FN 157 (*tinsel/tree.FS).may -/
noncomputable def fx157 : XF Tryz.prog := ⟨157, Tryz.f157, fun _ => .text, Tryz.func157, by kernel_rfl, by kernel_rfl, by kernel_rfl, by kernel_rfl⟩
noncomputable def ff157 (x8 : O) (h : HW) : Rs :=
 ob x8 fun a0 =>
 some (.ret a0, h)
noncomputable def q157_17 (C : YC) (lf : Nat) (r : K1) (x0 x1 x2 x3 : O) (h : HW) : Rs :=
 ob x1 fun a1 =>
 b2 (ybx 46 a1 h) fun y2 h2 =>
 ob x0 fun a3 =>
 ob x2 fun a4 =>
 bc (C (.fn 147) [a3, a4] h2) fun y5 h5 =>
 b2 (yAl Tryz.prog 58 h5) fun y6 h6 =>
 ob (st 10 y6 y5 h6) fun h7 =>
 ob (fa 6 y6) fun y8 =>
 ob (ld1 y8 h7) fun y9 =>
 ob (fa 2 y6) fun y10 =>
 ob (ld1 y10 h7) fun y11 =>
 ob (fa 3 y6) fun y12 =>
 ob (ld1 y12 h7) fun y13 =>
 ob (ldN 5 y2 h7) fun y14 =>
 ob x3 fun a15 =>
 bc (C (.fn 221) [y9, y11, y13, y14, a15] h7) fun y16 h16 =>
 r (some y16) h16
theorem q157_17_eq (C : YC) (lf : Nat) (r : K1) (KN : KF) (KE : KX) : ∀ F h, evX fx157 C lf [] F h KN (fun F h => r (F 8) h) KE = q157_17 C lf r (F 0) (F 1) (F 2) (F 3) h := by
  intro F h; kernel_rfl
noncomputable def fs157 (C : YC) (lf : Nat) (a0 a1 a2 a3 : SV) (h : HW) : Rs := q157_17 C lf ff157 (some a0) (some a1) (some a2) (some a3) h
theorem fs157_eq (C : YC) (lf : Nat) (a0 a1 a2 a3 : SV) (h : HW) : yFn Tryz.prog fx157 C lf [a0, a1, a2, a3] h = fs157 C lf a0 a1 a2 a3 h := fnX (K := (fun F h => ff157 (F 8) h)) (by kernel_rfl) (((q157_17_eq C lf ff157 (fun F h => ff157 (F 8) h) (fun _ _ _ => none)) _ h).trans (by kernel_rfl))
noncomputable def fy157 : YX Tryz.prog := Y4 fx157 fs157 fs157_eq (by kernel_rfl)

/-! FN 158 tinsel/perm.Remove -/
noncomputable def fx158 : XF Tryz.prog := ⟨158, Tryz.f158, fun _ => .text, Tryz.func158, by kernel_rfl, by kernel_rfl, by kernel_rfl, by kernel_rfl⟩
noncomputable def ff158 (x6 : O) (h : HW) : Rs :=
 ob x6 fun a0 =>
 some (.ret a0, h)
noncomputable def q158_40 (C : YC) (lf : Nat) (r : K1) (x0 x1 x2 : O) (h : HW) : Rs :=
 ob x0 fun a1 =>
 b2 (ybx 58 a1 h) fun y2 h2 =>
 ob x1 fun a3 =>
 b2 (ybx 58 a3 h2) fun y4 h4 =>
 ob x2 fun a5 =>
 b2 (ybx 46 a5 h4) fun y6 h6 =>
 ob (fa 6 y2) fun y7 =>
 ob (ld1 y7 h6) fun y8 =>
 ob (bin Tryz.prog .and 30 y8 (.int .i64 512)) fun y9 =>
 ob (bin Tryz.prog .eql 30 y9 (.int .i64 0)) fun y10 =>
 bc (gd false (some y10) (ob (fa 0 y6) fun y11 =>
 some (.ret y11, h6)) h6) fun y12 h12 =>
 bc (gd false (some y10) (ob (ld1 y12 h12) fun y13 =>
 some (.ret y13, h12)) h12) fun y14 h14 =>
 bc (gd false (some y10) (ob (bin Tryz.prog .eql 3 y14 (.int .i64 0)) fun y15 =>
 some (.ret y15, h14)) h14) fun y16 h16 =>
 ob (ypk y10 (.bool true) y16) fun y17 =>
 bc (gd false (some y17) (ob (fa 0 y6) fun y18 =>
 some (.ret y18, h16)) h16) fun y19 h19 =>
 bc (gd false (some y17) (ob (ld1 y19 h19) fun y20 =>
 some (.ret y20, h19)) h19) fun y21 h21 =>
 bc (gd false (some y17) (ob (fa 2 y4) fun y22 =>
 some (.ret y22, h21)) h21) fun y23 h23 =>
 bc (gd false (some y17) (ob (ld1 y23 h23) fun y24 =>
 some (.ret y24, h23)) h23) fun y25 h25 =>
 bc (gd false (some y17) (ob (bin Tryz.prog .eql 3 y21 y25) fun y26 =>
 some (.ret y26, h25)) h25) fun y27 h27 =>
 ob (ypk y17 (.bool true) y27) fun y28 =>
 bc (gd false (some y28) (ob (fa 0 y6) fun y29 =>
 some (.ret y29, h27)) h27) fun y30 h30 =>
 bc (gd false (some y28) (ob (ld1 y30 h30) fun y31 =>
 some (.ret y31, h30)) h30) fun y32 h32 =>
 bc (gd false (some y28) (ob (fa 2 y2) fun y33 =>
 some (.ret y33, h32)) h32) fun y34 h34 =>
 bc (gd false (some y28) (ob (ld1 y34 h34) fun y35 =>
 some (.ret y35, h34)) h34) fun y36 h36 =>
 bc (gd false (some y28) (ob (bin Tryz.prog .eql 3 y32 y36) fun y37 =>
 some (.ret y37, h36)) h36) fun y38 h38 =>
 ob (ypk y28 (.bool true) y38) fun y39 =>
 r (some y39) h38
theorem q158_40_eq (C : YC) (lf : Nat) (r : K1) (KN : KF) (KE : KX) : ∀ F h, evX fx158 C lf [] F h KN (fun F h => r (F 6) h) KE = q158_40 C lf r (F 0) (F 1) (F 2) h := by
  intro F h; kernel_rfl
noncomputable def fs158 (C : YC) (lf : Nat) (a0 a1 a2 : SV) (h : HW) : Rs := q158_40 C lf ff158 (some a0) (some a1) (some a2) h
theorem fs158_eq (C : YC) (lf : Nat) (a0 a1 a2 : SV) (h : HW) : yFn Tryz.prog fx158 C lf [a0, a1, a2] h = fs158 C lf a0 a1 a2 h := fnX (K := (fun F h => ff158 (F 6) h)) (by kernel_rfl) (((q158_40_eq C lf ff158 (fun F h => ff158 (F 6) h) (fun _ _ _ => none)) _ h).trans (by kernel_rfl))
noncomputable def fy158 : YX Tryz.prog := Y3 fx158 fs158 fs158_eq (by kernel_rfl)

/-! FN 159 (*tinsel/tree.FS).below -/
noncomputable def fx159 : XF Tryz.prog := ⟨159, Tryz.f159, fun _ => .text, Tryz.func159, by kernel_rfl, by kernel_rfl, by kernel_rfl, by kernel_rfl⟩
noncomputable def ff159 (x6 : O) (h : HW) : Rs :=
 ob x6 fun a0 =>
 some (.ret a0, h)
noncomputable def q159_1 (C : YC) (lf : Nat) (r : K1) (h : HW) : Rs :=
 r (some (.bool true)) h
theorem q159_1_eq (C : YC) (lf : Nat) (r : K1) (KN : KF) (KE : KX) : ∀ F h, evX fx159 C lf [1, 1] F h KN (fun F h => r (F 6) h) KE = q159_1 C lf r h := by
  intro F h; kernel_rfl
noncomputable def q159_21 (C : YC) (lf : Nat) (n : K3) (r : K1) (e0 : K0) (x0 x1 x2 : O) (h : HW) : Rs :=
 ob x1 fun a3 =>
 ob x2 fun a4 =>
 ob (bin Tryz.prog .neq 3 a3 a4) fun y5 =>
 yIf y5
 (ob x0 fun a6 =>
 ob (semNil a6) fun y7 =>
 ob (fa 0 y7) fun y8 =>
 ob (ld1 y8 h) fun y9 =>
 ob x1 fun a10 =>
 bc (C (.fn 178) [y9, a10, (.str (bs [46, 46]))] h) fun y11 h11 =>
 ob (ext 0 y11) fun y12 =>
 ob (ext 1 y11) fun y13 =>
 ob (bin Tryz.prog .neq 23 y13 (.int .i64 0)) fun y14 =>
 bc (gd false (some y14) (some (.ret y12, h11)) h11) fun y15 h15 =>
 bc (gd false (some y14) (ob x1 fun a16 =>
 some (.ret a16, h15)) h15) fun y17 h17 =>
 bc (gd false (some y14) (ob (bin Tryz.prog .eql 3 y15 y17) fun y18 =>
 some (.ret y18, h17)) h17) fun y19 h19 =>
 ob (ypk y14 (.bool true) y19) fun y20 =>
 yIf y20
 (r (some (.bool false)) h19)
 (n x0 (some y12) x2 h19))
 (e0 h)
theorem q159_21_eq (C : YC) (lf : Nat) (n : K3) (r : K1) (e0 : K0) (KE : KX) : ∀ F h, evX fx159 C lf [1, 0, 0, 0] F h (fun F h => n (F 0) (F 1) (F 2) h) (fun F h => r (F 6) h) (bk 0 (fun F h => e0 h) KE) = q159_21 C lf n r e0 (F 0) (F 1) (F 2) h := by
  intro F h; kernel_rfl
noncomputable def l159_2 (C : YC) (lf : Nat) (r : K1) (e0 : K0) (k : O × O × O → HW → Rs) (s : O × O × O) (h : HW) : Rs :=
 q159_21 C lf (fun x0 x1 x2 h => k (x0, x1, x2) h) r e0 s.1 s.2.1 s.2.2 h
noncomputable def q159_22 (C : YC) (lf : Nat) (r : K1) (x0 x1 x2 : O) (h : HW) : Rs :=
 lp (l159_2 C lf r (fun h => q159_1 C lf r h)) lf (x0, x1, x2) h
theorem q159_22_eq (C : YC) (lf : Nat) (r : K1) (KN : KF) (KE : KX) : ∀ F h, evX fx159 C lf [1] F h KN (fun F h => r (F 6) h) KE = q159_22 C lf r (F 0) (F 1) (F 2) h := cSeq (a := subX fx159 [1, 0]) (b := subX fx159 [1, 1]) (by kernel_rfl) (B := (fun F h => q159_1 C lf r h)) (q159_1_eq C lf r KN KE) (cBlock (id := 0) (a := subX fx159 [1, 0, 0]) (by kernel_rfl) (cLoop (a := subX fx159 [1, 0, 0, 0]) (g := fun F => (F 0, F 1, F 2)) (body := l159_2 C lf r (fun h => q159_1 C lf r h)) (by kernel_rfl) (fun k => (q159_21_eq C lf (fun x0 x1 x2 h => k (x0, x1, x2) h) r (fun h => q159_1 C lf r h) KE))))
noncomputable def q159_23 (C : YC) (lf : Nat) (n : K3) (x0 x1 x2 : O) (h : HW) : Rs :=
 n x0 x1 x2 h
theorem q159_23_eq (C : YC) (lf : Nat) (n : K3) (KR : KF) (KE : KX) : ∀ F h, evX fx159 C lf [0] F h (fun F h => n (F 0) (F 1) (F 2) h) KR KE = q159_23 C lf n (F 0) (F 1) (F 2) h := by
  intro F h; kernel_rfl
noncomputable def q159_24 (C : YC) (lf : Nat) (r : K1) (x0 x1 x2 : O) (h : HW) : Rs :=
 q159_23 C lf (fun x0 x1 x2 h => q159_22 C lf r x0 x1 x2 h) x0 x1 x2 h
theorem q159_24_eq (C : YC) (lf : Nat) (r : K1) (KN : KF) (KE : KX) : ∀ F h, evX fx159 C lf [] F h KN (fun F h => r (F 6) h) KE = q159_24 C lf r (F 0) (F 1) (F 2) h := cSeq (a := subX fx159 [0]) (b := subX fx159 [1]) (by kernel_rfl) (B := (fun F h => q159_22 C lf r (F 0) (F 1) (F 2) h)) (q159_22_eq C lf r KN KE) (q159_23_eq C lf (fun x0 x1 x2 h => q159_22 C lf r x0 x1 x2 h) (fun F h => r (F 6) h) KE)
noncomputable def fs159 (C : YC) (lf : Nat) (a0 a1 a2 : SV) (h : HW) : Rs := q159_24 C lf ff159 (some a0) (some a1) (some a2) h
theorem fs159_eq (C : YC) (lf : Nat) (a0 a1 a2 : SV) (h : HW) : yFn Tryz.prog fx159 C lf [a0, a1, a2] h = fs159 C lf a0 a1 a2 h := fnX (K := (fun F h => ff159 (F 6) h)) (by kernel_rfl) (((q159_24_eq C lf ff159 (fun F h => ff159 (F 6) h) (fun _ _ _ => none)) _ h).trans (by kernel_rfl))
noncomputable def fy159 : YX Tryz.prog := Y3 fx159 fs159 fs159_eq (by kernel_rfl)

/-! FN 162 (*tinsel/tree.FS).find -/
noncomputable def fx162 : XF Tryz.prog := ⟨162, Tryz.f162, fun _ => .text, Tryz.func162, by kernel_rfl, by kernel_rfl, by kernel_rfl, by kernel_rfl⟩
noncomputable def ff162 (x8 : O) (h : HW) : Rs :=
 ob x8 fun a0 =>
 some (.ret a0, h)
noncomputable def q162_18 (C : YC) (lf : Nat) (r : K1) (x0 x1 x2 x3 : O) (h : HW) : Rs :=
 ob x1 fun a1 =>
 b2 (ybx 46 a1 h) fun y2 h2 =>
 ob x0 fun a3 =>
 bc (C (.fn 142) [a3] h2) fun y4 h4 =>
 ob x0 fun a5 =>
 ob (ldN 5 y2 h4) fun y6 =>
 ob x2 fun a7 =>
 ob x3 fun a8 =>
 bc (C (.fn 143) [a5, y6, a7, a8] h4) fun y9 h9 =>
 b2 (yAl Tryz.prog 224 h9) fun y10 h10 =>
 ob (st 5 y10 y9 h10) fun h11 =>
 ob (fa 4 y10) fun y12 =>
 ob (ld1 y12 h11) fun y13 =>
 ob (bin Tryz.prog .eql 3 y13 (.int .i64 0)) fun y14 =>
 bc (C (.fn 146) [y14, (.int .i64 2)] h11) fun y15 h15 =>
 ob (fa 4 y10) fun y16 =>
 ob (ld1 y16 h15) fun y17 =>
 r (some y17) h15
theorem q162_18_eq (C : YC) (lf : Nat) (r : K1) (KN : KF) (KE : KX) : ∀ F h, evX fx162 C lf [] F h KN (fun F h => r (F 8) h) KE = q162_18 C lf r (F 0) (F 1) (F 2) (F 3) h := by
  intro F h; kernel_rfl
noncomputable def fs162 (C : YC) (lf : Nat) (a0 a1 a2 a3 : SV) (h : HW) : Rs := q162_18 C lf ff162 (some a0) (some a1) (some a2) (some a3) h
theorem fs162_eq (C : YC) (lf : Nat) (a0 a1 a2 a3 : SV) (h : HW) : yFn Tryz.prog fx162 C lf [a0, a1, a2, a3] h = fs162 C lf a0 a1 a2 a3 h := fnX (K := (fun F h => ff162 (F 8) h)) (by kernel_rfl) (((q162_18_eq C lf ff162 (fun F h => ff162 (F 8) h) (fun _ _ _ => none)) _ h).trans (by kernel_rfl))
noncomputable def fy162 : YX Tryz.prog := Y4 fx162 fs162 fs162_eq (by kernel_rfl)

/-! FN 163 tinsel/tree.way -/
noncomputable def fx163 : XF Tryz.prog := ⟨163, Tryz.f163, fun _ => .text, Tryz.func163, by kernel_rfl, by kernel_rfl, by kernel_rfl, by kernel_rfl⟩
noncomputable def ff163 (x2 : O) (h : HW) : Rs :=
 ob x2 fun a0 =>
 some (.ret a0, h)
noncomputable def q163_2 (C : YC) (lf : Nat) (r : K1) (x0 : O) (h : HW) : Rs :=
 ob x0 fun a1 =>
 yIf a1
 (r (some (.int .i64 1)) h)
 (r (some (.int .i64 0)) h)
theorem q163_2_eq (C : YC) (lf : Nat) (r : K1) (KN : KF) (KE : KX) : ∀ F h, evX fx163 C lf [] F h KN (fun F h => r (F 2) h) KE = q163_2 C lf r (F 0) h := by
  intro F h; kernel_rfl
noncomputable def fs163 (C : YC) (lf : Nat) (a0 : SV) (h : HW) : Rs := q163_2 C lf ff163 (some a0) h
theorem fs163_eq (C : YC) (lf : Nat) (a0 : SV) (h : HW) : yFn Tryz.prog fx163 C lf [a0] h = fs163 C lf a0 h := fnX (K := (fun F h => ff163 (F 2) h)) (by kernel_rfl) (((q163_2_eq C lf ff163 (fun F h => ff163 (F 2) h) (fun _ _ _ => none)) _ h).trans (by kernel_rfl))
noncomputable def fy163 : YX Tryz.prog := Y1 fx163 fs163 fs163_eq (by kernel_rfl)

/-! FN 178 tinsel/dir.Find -/
noncomputable def fx178 : XF Tryz.prog := ⟨178, Tryz.f178, fun _ => .text, Tryz.func178, by kernel_rfl, by kernel_rfl, by kernel_rfl, by kernel_rfl⟩
noncomputable def ff178 (x6 x7 : O) (h : HW) : Rs :=
 ob x6 fun a0 =>
 ob x7 fun a1 =>
 some (.ret (.tup [a0, a1]), h)
noncomputable def q178_16 (C : YC) (lf : Nat) (r : K2) (x0 x1 x2 : O) (h : HW) : Rs :=
 ob x0 fun a2 =>
 ob x1 fun a3 =>
 ob x2 fun a4 =>
 bc (C (.fn 247) [a2, a3, a4] h) fun y5 h5 =>
 ob (bin Tryz.prog .neq 23 y5 (.int .i64 0)) fun y6 =>
 yIf y6
 (r (some (.int .i64 0)) (some y5) h5)
 (ob x0 fun a7 =>
 ob x1 fun a8 =>
 bc (C (.fn 248) [a7, a8] h5) fun y9 h9 =>
 ob x2 fun a10 =>
 bc (C (.fn 249) [y9, a10] h9) fun y11 h11 =>
 ob (bin Tryz.prog .lss 3 y11 (.int .i64 0)) fun y12 =>
 yIf y12
 (r (some (.int .i64 0)) (some (.int .i64 2)) h11)
 (ob (ixS 32 y9 y11) fun y13 =>
 ob (ldN 32 y13 h11) fun y14 =>
 bc (C (.fn 250) [y14] h11) fun y15 h15 =>
 r (some y15) (some (.int .i64 0)) h15))
theorem q178_16_eq (C : YC) (lf : Nat) (r : K2) (KN : KF) (KE : KX) : ∀ F h, evX fx178 C lf [] F h KN (fun F h => r (F 6) (F 7) h) KE = q178_16 C lf r (F 0) (F 1) (F 2) h := by
  intro F h; kernel_rfl
noncomputable def fs178 (C : YC) (lf : Nat) (a0 a1 a2 : SV) (h : HW) : Rs := q178_16 C lf ff178 (some a0) (some a1) (some a2) h
theorem fs178_eq (C : YC) (lf : Nat) (a0 a1 a2 : SV) (h : HW) : yFn Tryz.prog fx178 C lf [a0, a1, a2] h = fs178 C lf a0 a1 a2 h := fnX (K := (fun F h => ff178 (F 6) (F 7) h)) (by kernel_rfl) (((q178_16_eq C lf ff178 (fun F h => ff178 (F 6) (F 7) h) (fun _ _ _ => none)) _ h).trans (by kernel_rfl))
noncomputable def fy178 : YX Tryz.prog := Y3 fx178 fs178 fs178_eq (by kernel_rfl)

/-! FN 181 (*tinsel/tree.FS).is -/
noncomputable def fx181 : XF Tryz.prog := ⟨181, Tryz.f181, fun _ => .text, Tryz.func181, by kernel_rfl, by kernel_rfl, by kernel_rfl, by kernel_rfl⟩
noncomputable def ff181 (x2 : O) (h : HW) : Rs :=
 ob x2 fun a0 =>
 some (.ret a0, h)
noncomputable def q181_14 (C : YC) (lf : Nat) (r : K1) (x0 : O) (h : HW) : Rs :=
 ob x0 fun a1 =>
 ob (bin Tryz.prog .neq 43 a1 (.val (.pointer none))) fun y2 =>
 bc (gd true (some y2) (ob x0 fun a3 =>
 some (.ret a3, h)) h) fun y4 h4 =>
 bc (gd true (some y2) (ob (semNil y4) fun y5 =>
 some (.ret y5, h4)) h4) fun y6 h6 =>
 bc (gd true (some y2) (ob (fa 0 y6) fun y7 =>
 some (.ret y7, h6)) h6) fun y8 h8 =>
 bc (gd true (some y2) (ob (ld1 y8 h8) fun y9 =>
 some (.ret y9, h8)) h8) fun y10 h10 =>
 bc (gd true (some y2) (ob (bin Tryz.prog .neq 213 y10 (.val (.pointer none))) fun y11 =>
 some (.ret y11, h10)) h10) fun y12 h12 =>
 ob (ypk y2 y12 (.bool false)) fun y13 =>
 r (some y13) h12
theorem q181_14_eq (C : YC) (lf : Nat) (r : K1) (KN : KF) (KE : KX) : ∀ F h, evX fx181 C lf [] F h KN (fun F h => r (F 2) h) KE = q181_14 C lf r (F 0) h := by
  intro F h; kernel_rfl
noncomputable def fs181 (C : YC) (lf : Nat) (a0 : SV) (h : HW) : Rs := q181_14 C lf ff181 (some a0) h
theorem fs181_eq (C : YC) (lf : Nat) (a0 : SV) (h : HW) : yFn Tryz.prog fx181 C lf [a0] h = fs181 C lf a0 h := fnX (K := (fun F h => ff181 (F 2) h)) (by kernel_rfl) (((q181_14_eq C lf ff181 (fun F h => ff181 (F 2) h) (fun _ _ _ => none)) _ h).trans (by kernel_rfl))
noncomputable def fy181 : YX Tryz.prog := Y1 fx181 fs181 fs181_eq (by kernel_rfl)

/-! FN 184 (*tinsel/inode.Table).Stat -/
noncomputable def fx184 : XF Tryz.prog := ⟨184, Tryz.f184, fun _ => .text, Tryz.func184, by kernel_rfl, by kernel_rfl, by kernel_rfl, by kernel_rfl⟩
noncomputable def ff184 (x4 x5 : O) (h : HW) : Rs :=
 ob x4 fun a0 =>
 ob (ldN 10 a0 h) fun y1 =>
 ob x5 fun a2 =>
 some (.ret (.tup [y1, a2]), h)
noncomputable def q184_23 (C : YC) (lf : Nat) (r : K2) (x0 x1 : O) (h : HW) : Rs :=
 b2 (yAl Tryz.prog 58 h) fun y3 h3 =>
 ob x0 fun a4 =>
 ob x1 fun a5 =>
 bc (C (.fn 206) [a4, a5] h3) fun y6 h6 =>
 ob (ext 0 y6) fun y7 =>
 ob (ext 1 y6) fun y8 =>
 ob (bin Tryz.prog .neq 23 y8 (.int .i64 0)) fun y9 =>
 yIf y9
 (ob (semBuild Tryz.prog 58 [] []) fun y10 =>
 ob (st 10 y3 y10 h6) fun h11 =>
 r (some y3) (some y8) h11)
 (ob (semNil y7) fun y12 =>
 ob (fa 1 y12) fun y13 =>
 ob (ldN 10 y13 h6) fun y14 =>
 b2 (yAl Tryz.prog 58 h6) fun y15 h15 =>
 ob (st 10 y15 y14 h15) fun h16 =>
 bc (C (.fn 256) [y7] h16) fun y17 h17 =>
 ob (lenE Tryz.prog 44 y17) fun y18 =>
 ob (fa 5 y15) fun y19 =>
 ob (st 1 y19 y18 h17) fun h20 =>
 ob (ldN 10 y15 h20) fun y21 =>
 ob (st 10 y3 y21 h20) fun h22 =>
 r (some y3) (some (.int .i64 0)) h22)
theorem q184_23_eq (C : YC) (lf : Nat) (r : K2) (KN : KF) (KE : KX) : ∀ F h, evX fx184 C lf [] F h KN (fun F h => r (F 4) (F 5) h) KE = q184_23 C lf r (F 0) (F 1) h := by
  intro F h; kernel_rfl
noncomputable def fs184 (C : YC) (lf : Nat) (a0 a1 : SV) (h : HW) : Rs := q184_23 C lf ff184 (some a0) (some a1) h
theorem fs184_eq (C : YC) (lf : Nat) (a0 a1 : SV) (h : HW) : yFn Tryz.prog fx184 C lf [a0, a1] h = fs184 C lf a0 a1 h := fnX (K := (fun F h => ff184 (F 4) (F 5) h)) (by kernel_rfl) (((q184_23_eq C lf ff184 (fun F h => ff184 (F 4) (F 5) h) (fun _ _ _ => none)) _ h).trans (by kernel_rfl))
noncomputable def fy184 : YX Tryz.prog := Y2 fx184 fs184 fs184_eq (by kernel_rfl)

/-! FN 201 tinsel/blocks.New -/
noncomputable def fx201 : XF Tryz.prog := ⟨201, Tryz.f201, fun _ => .text, Tryz.func201, by kernel_rfl, by kernel_rfl, by kernel_rfl, by kernel_rfl⟩
noncomputable def ff201 (x2 x3 : O) (h : HW) : Rs :=
 ob x2 fun a0 =>
 ob x3 fun a1 =>
 some (.ret (.tup [a0, a1]), h)
noncomputable def q201_14 (C : YC) (lf : Nat) (r : K2) (x0 : O) (h : HW) : Rs :=
 ob x0 fun a2 =>
 ob (bin Tryz.prog .lss 3 a2 (.int .i64 1)) fun y3 =>
 bc (gd false (some y3) (ob x0 fun a4 =>
 some (.ret a4, h)) h) fun y5 h5 =>
 bc (gd false (some y3) (ob (bin Tryz.prog .gtr 3 y5 (.int .i64 4096)) fun y6 =>
 some (.ret y6, h5)) h5) fun y7 h7 =>
 ob (ypk y3 (.bool true) y7) fun y8 =>
 yIf y8
 (r (some (.val (.pointer none))) (some (.int .i64 22)) h7)
 (ob x0 fun a9 =>
 ob x0 fun a10 =>
 b2 (ymk Tryz.prog 371 a10 a10 h7) fun y11 h11 =>
 ob (semBuild Tryz.prog 375 [0, 2] [a9, y11]) fun y12 =>
 b2 (ybx 375 y12 h11) fun y13 h13 =>
 r (some y13) (some (.int .i64 0)) h13)
theorem q201_14_eq (C : YC) (lf : Nat) (r : K2) (KN : KF) (KE : KX) : ∀ F h, evX fx201 C lf [] F h KN (fun F h => r (F 2) (F 3) h) KE = q201_14 C lf r (F 0) h := by
  intro F h; kernel_rfl
noncomputable def fs201 (C : YC) (lf : Nat) (a0 : SV) (h : HW) : Rs := q201_14 C lf ff201 (some a0) h
theorem fs201_eq (C : YC) (lf : Nat) (a0 : SV) (h : HW) : yFn Tryz.prog fx201 C lf [a0] h = fs201 C lf a0 h := fnX (K := (fun F h => ff201 (F 2) (F 3) h)) (by kernel_rfl) (((q201_14_eq C lf ff201 (fun F h => ff201 (F 2) (F 3) h) (fun _ _ _ => none)) _ h).trans (by kernel_rfl))
noncomputable def fy201 : YX Tryz.prog := Y1 fx201 fs201 fs201_eq (by kernel_rfl)

/-! FN 202 (*tinsel/inode.Table).is -/
noncomputable def fx202 : XF Tryz.prog := ⟨202, Tryz.f202, fun _ => .text, Tryz.func202, by kernel_rfl, by kernel_rfl, by kernel_rfl, by kernel_rfl⟩
noncomputable def ff202 (x2 : O) (h : HW) : Rs :=
 ob x2 fun a0 =>
 some (.ret a0, h)
noncomputable def q202_14 (C : YC) (lf : Nat) (r : K1) (x0 : O) (h : HW) : Rs :=
 ob x0 fun a1 =>
 ob (bin Tryz.prog .neq 213 a1 (.val (.pointer none))) fun y2 =>
 bc (gd true (some y2) (ob x0 fun a3 =>
 some (.ret a3, h)) h) fun y4 h4 =>
 bc (gd true (some y2) (ob (semNil y4) fun y5 =>
 some (.ret y5, h4)) h4) fun y6 h6 =>
 bc (gd true (some y2) (ob (fa 0 y6) fun y7 =>
 some (.ret y7, h6)) h6) fun y8 h8 =>
 bc (gd true (some y2) (ob (ld1 y8 h8) fun y9 =>
 some (.ret y9, h8)) h8) fun y10 h10 =>
 bc (gd true (some y2) (ob (bin Tryz.prog .neq 277 y10 (.val (.pointer none))) fun y11 =>
 some (.ret y11, h10)) h10) fun y12 h12 =>
 ob (ypk y2 y12 (.bool false)) fun y13 =>
 r (some y13) h12
theorem q202_14_eq (C : YC) (lf : Nat) (r : K1) (KN : KF) (KE : KX) : ∀ F h, evX fx202 C lf [] F h KN (fun F h => r (F 2) h) KE = q202_14 C lf r (F 0) h := by
  intro F h; kernel_rfl
noncomputable def fs202 (C : YC) (lf : Nat) (a0 : SV) (h : HW) : Rs := q202_14 C lf ff202 (some a0) h
theorem fs202_eq (C : YC) (lf : Nat) (a0 : SV) (h : HW) : yFn Tryz.prog fx202 C lf [a0] h = fs202 C lf a0 h := fnX (K := (fun F h => ff202 (F 2) h)) (by kernel_rfl) (((q202_14_eq C lf ff202 (fun F h => ff202 (F 2) h) (fun _ _ _ => none)) _ h).trans (by kernel_rfl))
noncomputable def fy202 : YX Tryz.prog := Y1 fx202 fs202 fs202_eq (by kernel_rfl)

/-! FN 203 tinsel/dir.check -/
noncomputable def fx203 : XF Tryz.prog := ⟨203, Tryz.f203, fun _ => .text, Tryz.func203, by kernel_rfl, by kernel_rfl, by kernel_rfl, by kernel_rfl⟩
noncomputable def ff203 (x4 : O) (h : HW) : Rs :=
 ob x4 fun a0 =>
 some (.ret a0, h)
noncomputable def q203_13 (C : YC) (lf : Nat) (r : K1) (x0 x1 : O) (h : HW) : Rs :=
 ob x0 fun a1 =>
 ob x1 fun a2 =>
 bc (C (.fn 184) [a1, a2] h) fun y3 h3 =>
 ob (ext 0 y3) fun y4 =>
 ob (ext 1 y3) fun y5 =>
 b2 (yAl Tryz.prog 58 h3) fun y6 h6 =>
 ob (st 10 y6 y4 h6) fun h7 =>
 ob (bin Tryz.prog .neq 23 y5 (.int .i64 0)) fun y8 =>
 yIf y8
 (r (some y5) h7)
 (ob (fa 6 y6) fun y9 =>
 ob (ld1 y9 h7) fun y10 =>
 ob (bin Tryz.prog .and 30 y10 (.int .i64 61440)) fun y11 =>
 ob (bin Tryz.prog .neq 30 y11 (.int .i64 16384)) fun y12 =>
 yIf y12
 (r (some (.int .i64 20)) h7)
 (r (some (.int .i64 0)) h7))
theorem q203_13_eq (C : YC) (lf : Nat) (r : K1) (KN : KF) (KE : KX) : ∀ F h, evX fx203 C lf [] F h KN (fun F h => r (F 4) h) KE = q203_13 C lf r (F 0) (F 1) h := by
  intro F h; kernel_rfl
noncomputable def fs203 (C : YC) (lf : Nat) (a0 a1 : SV) (h : HW) : Rs := q203_13 C lf ff203 (some a0) (some a1) h
theorem fs203_eq (C : YC) (lf : Nat) (a0 a1 : SV) (h : HW) : yFn Tryz.prog fx203 C lf [a0, a1] h = fs203 C lf a0 a1 h := fnX (K := (fun F h => ff203 (F 4) h)) (by kernel_rfl) (((q203_13_eq C lf ff203 (fun F h => ff203 (F 4) h) (fun _ _ _ => none)) _ h).trans (by kernel_rfl))
noncomputable def fy203 : YX Tryz.prog := Y2 fx203 fs203 fs203_eq (by kernel_rfl)

/-! FN 204 (*tinsel/inode.Table).Is -/
noncomputable def fx204 : XF Tryz.prog := ⟨204, Tryz.f204, fun _ => .text, Tryz.func204, by kernel_rfl, by kernel_rfl, by kernel_rfl, by kernel_rfl⟩
noncomputable def ff204 (x4 : O) (h : HW) : Rs :=
 ob x4 fun a0 =>
 some (.ret a0, h)
noncomputable def q204_42 (C : YC) (lf : Nat) (r : K1) (x0 x1 : O) (h : HW) : Rs :=
 ob x0 fun a1 =>
 bc (C (.fn 202) [a1] h) fun y2 h2 =>
 bc (gd true (some y2) (ob x1 fun a3 =>
 some (.ret a3, h2)) h2) fun y4 h4 =>
 bc (gd true (some y2) (ob (bin Tryz.prog .geq 3 y4 (.int .i64 1)) fun y5 =>
 some (.ret y5, h4)) h4) fun y6 h6 =>
 ob (ypk y2 y6 (.bool false)) fun y7 =>
 bc (gd true (some y7) (ob x1 fun a8 =>
 some (.ret a8, h6)) h6) fun y9 h9 =>
 bc (gd true (some y7) (ob x0 fun a10 =>
 some (.ret a10, h9)) h9) fun y11 h11 =>
 bc (gd true (some y7) (ob (semNil y11) fun y12 =>
 some (.ret y12, h11)) h11) fun y13 h13 =>
 bc (gd true (some y7) (ob (fa 1 y13) fun y14 =>
 some (.ret y14, h13)) h13) fun y15 h15 =>
 bc (gd true (some y7) (ob (ld1 y15 h15) fun y16 =>
 some (.ret y16, h15)) h15) fun y17 h17 =>
 bc (gd true (some y7) (ob (lenE Tryz.prog 280 y17) fun y18 =>
 some (.ret y18, h17)) h17) fun y19 h19 =>
 bc (gd true (some y7) (ob (bin Tryz.prog .leq 3 y9 y19) fun y20 =>
 some (.ret y20, h19)) h19) fun y21 h21 =>
 ob (ypk y7 y21 (.bool false)) fun y22 =>
 bc (gd true (some y22) (ob x0 fun a23 =>
 some (.ret a23, h21)) h21) fun y24 h24 =>
 bc (gd true (some y22) (ob (semNil y24) fun y25 =>
 some (.ret y25, h24)) h24) fun y26 h26 =>
 bc (gd true (some y22) (ob (fa 1 y26) fun y27 =>
 some (.ret y27, h26)) h26) fun y28 h28 =>
 bc (gd true (some y22) (ob (ld1 y28 h28) fun y29 =>
 some (.ret y29, h28)) h28) fun y30 h30 =>
 bc (gd true (some y22) (ob x1 fun a31 =>
 some (.ret a31, h30)) h30) fun y32 h32 =>
 bc (gd true (some y22) (ob (bin Tryz.prog .sub 3 y32 (.int .i64 1)) fun y33 =>
 some (.ret y33, h32)) h32) fun y34 h34 =>
 bc (gd true (some y22) (ob (ixS 308 y30 y34) fun y35 =>
 some (.ret y35, h34)) h34) fun y36 h36 =>
 bc (gd true (some y22) (ob (fa 0 y36) fun y37 =>
 some (.ret y37, h36)) h36) fun y38 h38 =>
 bc (gd true (some y22) (ob (ld1 y38 h38) fun y39 =>
 some (.ret y39, h38)) h38) fun y40 h40 =>
 ob (ypk y22 y40 (.bool false)) fun y41 =>
 r (some y41) h40
theorem q204_42_eq (C : YC) (lf : Nat) (r : K1) (KN : KF) (KE : KX) : ∀ F h, evX fx204 C lf [] F h KN (fun F h => r (F 4) h) KE = q204_42 C lf r (F 0) (F 1) h := by
  intro F h; kernel_rfl
noncomputable def fs204 (C : YC) (lf : Nat) (a0 a1 : SV) (h : HW) : Rs := q204_42 C lf ff204 (some a0) (some a1) h
theorem fs204_eq (C : YC) (lf : Nat) (a0 a1 : SV) (h : HW) : yFn Tryz.prog fx204 C lf [a0, a1] h = fs204 C lf a0 a1 h := fnX (K := (fun F h => ff204 (F 4) h)) (by kernel_rfl) (((q204_42_eq C lf ff204 (fun F h => ff204 (F 4) h) (fun _ _ _ => none)) _ h).trans (by kernel_rfl))
noncomputable def fy204 : YX Tryz.prog := Y2 fx204 fs204 fs204_eq (by kernel_rfl)

/-! FN 205 tinsel/dir.of -/
noncomputable def fx205 : XF Tryz.prog := ⟨205, Tryz.f205, fun _ => .text, Tryz.func205, by kernel_rfl, by kernel_rfl, by kernel_rfl, by kernel_rfl⟩
noncomputable def ff205 (x4 : O) (h : HW) : Rs :=
 ob x4 fun a0 =>
 ob (ldN 32 a0 h) fun y1 =>
 some (.ret y1, h)
noncomputable def q205_10 (C : YC) (lf : Nat) (r : K1) (x0 x4 x5 : O) (h : HW) : Rs :=
 ob x5 fun a2 =>
 ob (semSlice Tryz.prog 292 a2 (some (.int .i64 4)) none) fun y3 =>
 ob x0 fun a4 =>
 b2 (ybl Tryz.prog .copy #[31, 9] [y3, a4] h) fun y5 h5 =>
 ob x5 fun a6 =>
 ob (ldN 32 a6 h5) fun y7 =>
 ob x4 fun a8 =>
 ob (st 32 a8 y7 h5) fun h9 =>
 r x4 h9
theorem q205_10_eq (C : YC) (lf : Nat) (r : K1) (KN : KF) (KE : KX) : ∀ F h, evX fx205 C lf [1, 1, 1] F h KN (fun F h => r (F 4) h) KE = q205_10 C lf r (F 0) (F 4) (F 5) h := by
  intro F h; kernel_rfl
noncomputable def q205_24 (C : YC) (lf : Nat) (n : K5) (e0 : K3) (x0 x1 x4 x5 x7 : O) (h : HW) : Rs :=
 ob x7 fun a12 =>
 ob (bin Tryz.prog .lss 3 a12 (.int .i64 4)) fun y13 =>
 yIf y13
 (ob x7 fun a14 =>
 ob x1 fun a15 =>
 ob (bin Tryz.prog .mul 3 (.int .i64 8) a14) fun y16 =>
 ob (bin Tryz.prog .shr 3 a15 y16) fun y17 =>
 ob (cvI .u8 y17) fun y18 =>
 ob x5 fun a19 =>
 ob (ixA 32 1 a19 a14) fun y20 =>
 ob (st 1 y20 y18 h) fun h21 =>
 ob x7 fun a22 =>
 ob (bin Tryz.prog .add 3 a22 (.int .i64 1)) fun y23 =>
 n x0 x1 x4 x5 (some y23) h21)
 (e0 x0 x4 x5 h)
theorem q205_24_eq (C : YC) (lf : Nat) (n : K5) (e0 : K3) (KR : KF) (KE : KX) : ∀ F h, evX fx205 C lf [1, 1, 0, 1, 0, 0] F h (fun F h => n (F 0) (F 1) (F 4) (F 5) (F 7) h) KR (bk 0 (fun F h => e0 (F 0) (F 4) (F 5) h) KE) = q205_24 C lf n e0 (F 0) (F 1) (F 4) (F 5) (F 7) h := by
  intro F h; kernel_rfl
noncomputable def l205_11 (C : YC) (lf : Nat) (e0 : K3) (k : O × O × O × O × O → HW → Rs) (s : O × O × O × O × O) (h : HW) : Rs :=
 q205_24 C lf (fun x0 x1 x4 x5 x7 h => k (x0, x1, x4, x5, x7) h) e0 s.1 s.2.1 s.2.2.1 s.2.2.2.1 s.2.2.2.2 h
noncomputable def q205_25 (C : YC) (lf : Nat) (n : K5) (x0 x1 x4 x5 : O) (h : HW) : Rs :=
 n x0 x1 x4 x5 (some (.int .i64 0)) h
theorem q205_25_eq (C : YC) (lf : Nat) (n : K5) (KR : KF) (KE : KX) : ∀ F h, evX fx205 C lf [1, 1, 0, 0] F h (fun F h => n (F 0) (F 1) (F 4) (F 5) (F 7) h) KR KE = q205_25 C lf n (F 0) (F 1) (F 4) (F 5) h := by
  intro F h; kernel_rfl
noncomputable def q205_26 (C : YC) (lf : Nat) (n : K3) (x0 x1 x4 x5 : O) (h : HW) : Rs :=
 q205_25 C lf (fun x0 x1 x4 x5 x7 h => lp (l205_11 C lf n) lf (x0, x1, x4, x5, x7) h) x0 x1 x4 x5 h
theorem q205_26_eq (C : YC) (lf : Nat) (n : K3) (KR : KF) (KE : KX) : ∀ F h, evX fx205 C lf [1, 1, 0] F h (fun F h => n (F 0) (F 4) (F 5) h) KR KE = q205_26 C lf n (F 0) (F 1) (F 4) (F 5) h := cSeq (a := subX fx205 [1, 1, 0, 0]) (b := subX fx205 [1, 1, 0, 1]) (by kernel_rfl) (B := (fun F h => lp (l205_11 C lf n) lf ((F 0), (F 1), (F 4), (F 5), (F 7)) h)) (cBlock (id := 0) (a := subX fx205 [1, 1, 0, 1, 0]) (by kernel_rfl) (cLoop (a := subX fx205 [1, 1, 0, 1, 0, 0]) (g := fun F => (F 0, F 1, F 4, F 5, F 7)) (body := l205_11 C lf n) (by kernel_rfl) (fun k => (q205_24_eq C lf (fun x0 x1 x4 x5 x7 h => k (x0, x1, x4, x5, x7) h) n KR KE)))) (q205_25_eq C lf (fun x0 x1 x4 x5 x7 h => lp (l205_11 C lf n) lf (x0, x1, x4, x5, x7) h) KR KE)
noncomputable def q205_27 (C : YC) (lf : Nat) (r : K1) (x0 x1 x4 x5 : O) (h : HW) : Rs :=
 q205_26 C lf (fun x0 x4 x5 h => q205_10 C lf r x0 x4 x5 h) x0 x1 x4 x5 h
theorem q205_27_eq (C : YC) (lf : Nat) (r : K1) (KN : KF) (KE : KX) : ∀ F h, evX fx205 C lf [1, 1] F h KN (fun F h => r (F 4) h) KE = q205_27 C lf r (F 0) (F 1) (F 4) (F 5) h := cSeq (a := subX fx205 [1, 1, 0]) (b := subX fx205 [1, 1, 1]) (by kernel_rfl) (B := (fun F h => q205_10 C lf r (F 0) (F 4) (F 5) h)) (q205_10_eq C lf r KN KE) (q205_26_eq C lf (fun x0 x4 x5 h => q205_10 C lf r x0 x4 x5 h) (fun F h => r (F 4) h) KE)
noncomputable def q205_29 (C : YC) (lf : Nat) (n : K4) (x0 x1 x4 : O) (h : HW) : Rs :=
 b2 (yAl Tryz.prog 292 h) fun y28 h28 =>
 n x0 x1 x4 (some y28) h28
theorem q205_29_eq (C : YC) (lf : Nat) (n : K4) (KR : KF) (KE : KX) : ∀ F h, evX fx205 C lf [1, 0] F h (fun F h => n (F 0) (F 1) (F 4) (F 5) h) KR KE = q205_29 C lf n (F 0) (F 1) (F 4) h := by
  intro F h; kernel_rfl
noncomputable def q205_30 (C : YC) (lf : Nat) (r : K1) (x0 x1 x4 : O) (h : HW) : Rs :=
 q205_29 C lf (fun x0 x1 x4 x5 h => q205_27 C lf r x0 x1 x4 x5 h) x0 x1 x4 h
theorem q205_30_eq (C : YC) (lf : Nat) (r : K1) (KN : KF) (KE : KX) : ∀ F h, evX fx205 C lf [1] F h KN (fun F h => r (F 4) h) KE = q205_30 C lf r (F 0) (F 1) (F 4) h := cSeq (a := subX fx205 [1, 0]) (b := subX fx205 [1, 1]) (by kernel_rfl) (B := (fun F h => q205_27 C lf r (F 0) (F 1) (F 4) (F 5) h)) (q205_27_eq C lf r KN KE) (q205_29_eq C lf (fun x0 x1 x4 x5 h => q205_27 C lf r x0 x1 x4 x5 h) (fun F h => r (F 4) h) KE)
noncomputable def q205_32 (C : YC) (lf : Nat) (n : K3) (x0 x1 : O) (h : HW) : Rs :=
 b2 (yAl Tryz.prog 292 h) fun y31 h31 =>
 n x0 x1 (some y31) h31
theorem q205_32_eq (C : YC) (lf : Nat) (n : K3) (KR : KF) (KE : KX) : ∀ F h, evX fx205 C lf [0] F h (fun F h => n (F 0) (F 1) (F 4) h) KR KE = q205_32 C lf n (F 0) (F 1) h := by
  intro F h; kernel_rfl
noncomputable def q205_33 (C : YC) (lf : Nat) (r : K1) (x0 x1 : O) (h : HW) : Rs :=
 q205_32 C lf (fun x0 x1 x4 h => q205_30 C lf r x0 x1 x4 h) x0 x1 h
theorem q205_33_eq (C : YC) (lf : Nat) (r : K1) (KN : KF) (KE : KX) : ∀ F h, evX fx205 C lf [] F h KN (fun F h => r (F 4) h) KE = q205_33 C lf r (F 0) (F 1) h := cSeq (a := subX fx205 [0]) (b := subX fx205 [1]) (by kernel_rfl) (B := (fun F h => q205_30 C lf r (F 0) (F 1) (F 4) h)) (q205_30_eq C lf r KN KE) (q205_32_eq C lf (fun x0 x1 x4 h => q205_30 C lf r x0 x1 x4 h) (fun F h => r (F 4) h) KE)
noncomputable def fs205 (C : YC) (lf : Nat) (a0 a1 : SV) (h : HW) : Rs := q205_33 C lf ff205 (some a0) (some a1) h
theorem fs205_eq (C : YC) (lf : Nat) (a0 a1 : SV) (h : HW) : yFn Tryz.prog fx205 C lf [a0, a1] h = fs205 C lf a0 a1 h := fnX (K := (fun F h => ff205 (F 4) h)) (by kernel_rfl) (((q205_33_eq C lf ff205 (fun F h => ff205 (F 4) h) (fun _ _ _ => none)) _ h).trans (by kernel_rfl))
noncomputable def fy205 : YX Tryz.prog := Y2 fx205 fs205 fs205_eq (by kernel_rfl)

/-! FN 206 (*tinsel/inode.Table).get -/
noncomputable def fx206 : XF Tryz.prog := ⟨206, Tryz.f206, fun _ => .text, Tryz.func206, by kernel_rfl, by kernel_rfl, by kernel_rfl, by kernel_rfl⟩
noncomputable def ff206 (x4 x5 : O) (h : HW) : Rs :=
 ob x4 fun a0 =>
 ob x5 fun a1 =>
 some (.ret (.tup [a0, a1]), h)
noncomputable def q206_16 (C : YC) (lf : Nat) (r : K2) (x0 x1 : O) (h : HW) : Rs :=
 ob x0 fun a2 =>
 bc (C (.fn 202) [a2] h) fun y3 h3 =>
 ob (unE .not y3) fun y4 =>
 yIf y4
 (r (some (.val (.pointer none))) (some (.int .i64 14)) h3)
 (ob x0 fun a5 =>
 ob x1 fun a6 =>
 bc (C (.fn 204) [a5, a6] h3) fun y7 h7 =>
 ob (unE .not y7) fun y8 =>
 yIf y8
 (r (some (.val (.pointer none))) (some (.int .i64 2)) h7)
 (ob x0 fun a9 =>
 ob (semNil a9) fun y10 =>
 ob (fa 1 y10) fun y11 =>
 ob (ld1 y11 h7) fun y12 =>
 ob x1 fun a13 =>
 ob (bin Tryz.prog .sub 3 a13 (.int .i64 1)) fun y14 =>
 ob (ixS 308 y12 y14) fun y15 =>
 r (some y15) (some (.int .i64 0)) h7))
theorem q206_16_eq (C : YC) (lf : Nat) (r : K2) (KN : KF) (KE : KX) : ∀ F h, evX fx206 C lf [] F h KN (fun F h => r (F 4) (F 5) h) KE = q206_16 C lf r (F 0) (F 1) h := by
  intro F h; kernel_rfl
noncomputable def fs206 (C : YC) (lf : Nat) (a0 a1 : SV) (h : HW) : Rs := q206_16 C lf ff206 (some a0) (some a1) h
theorem fs206_eq (C : YC) (lf : Nat) (a0 a1 : SV) (h : HW) : yFn Tryz.prog fx206 C lf [a0, a1] h = fs206 C lf a0 a1 h := fnX (K := (fun F h => ff206 (F 4) (F 5) h)) (by kernel_rfl) (((q206_16_eq C lf ff206 (fun F h => ff206 (F 4) (F 5) h) (fun _ _ _ => none)) _ h).trans (by kernel_rfl))
noncomputable def fy206 : YX Tryz.prog := Y2 fx206 fs206 fs206_eq (by kernel_rfl)

/-! FN 207 (*tinsel/inode.Table).free -/
noncomputable def fx207 : XF Tryz.prog := ⟨207, Tryz.f207, fun _ => .text, Tryz.func207, by kernel_rfl, by kernel_rfl, by kernel_rfl, by kernel_rfl⟩
noncomputable def ff207 (h : HW) : Rs :=
 some (.ret (.tup []), h)
noncomputable def q207_24 (C : YC) (lf : Nat) (n : K0) (x0 x1 : O) (h : HW) : Rs :=
 ob x1 fun a0 =>
 ob (semNil a0) fun y1 =>
 ob (fa 1 y1) fun y2 =>
 ob (fa 1 y2) fun y3 =>
 ob (ld1 y3 h) fun y4 =>
 ob (bin Tryz.prog .eql 3 y4 (.int .i64 0)) fun y5 =>
 bc (gd true (some y5) (ob x1 fun a6 =>
 some (.ret a6, h)) h) fun y7 h7 =>
 bc (gd true (some y5) (ob (semNil y7) fun y8 =>
 some (.ret y8, h7)) h7) fun y9 h9 =>
 bc (gd true (some y5) (ob (fa 11 y9) fun y10 =>
 some (.ret y10, h9)) h9) fun y11 h11 =>
 bc (gd true (some y5) (ob (ld1 y11 h11) fun y12 =>
 some (.ret y12, h11)) h11) fun y13 h13 =>
 bc (gd true (some y5) (ob (bin Tryz.prog .eql 3 y13 (.int .i64 0)) fun y14 =>
 some (.ret y14, h13)) h13) fun y15 h15 =>
 ob (ypk y5 y15 (.bool false)) fun y16 =>
 yIf y16
 (ob x0 fun a17 =>
 ob x1 fun a18 =>
 bc (C (.fn 246) [a17, a18, (.int .i64 0)] h15) fun y19 h19 =>
 ob x1 fun a20 =>
 ob (semBuild Tryz.prog 289 [] []) fun y21 =>
 ob (semNil a20) fun y22 =>
 ob (st 308 y22 y21 h19) fun h23 =>
 n h23)
 (n h15)
theorem q207_24_eq (C : YC) (lf : Nat) (n : K0) (KR : KF) (KE : KX) : ∀ F h, evX fx207 C lf [] F h (fun F h => n h) KR KE = q207_24 C lf n (F 0) (F 1) h := by
  intro F h; kernel_rfl
noncomputable def fs207 (C : YC) (lf : Nat) (a0 a1 : SV) (h : HW) : Rs := q207_24 C lf ff207 (some a0) (some a1) h
theorem fs207_eq (C : YC) (lf : Nat) (a0 a1 : SV) (h : HW) : yFn Tryz.prog fx207 C lf [a0, a1] h = fs207 C lf a0 a1 h := fnX (K := (fun F h => ff207 h)) (by kernel_rfl) (((q207_24_eq C lf ff207 (fun F h => ff207 h) (fun _ _ _ => none)) _ h).trans (by kernel_rfl))
noncomputable def fy207 : YX Tryz.prog := Y2 fx207 fs207 fs207_eq (by kernel_rfl)

/-! FN 208 (*tinsel/tree.walker).begin -/
noncomputable def fx208 : XF Tryz.prog := ⟨208, Tryz.f208, fun r => bif Nat.beq r 8 then .ord [0, 1, 2, 4, 3, 6, 7, 5, 8, 9, 10, 11] [(8, [5])] else .text, Tryz.func208, by kernel_rfl, by kernel_rfl, by kernel_rfl, by kernel_rfl⟩
noncomputable def ff208 (x4 : O) (h : HW) : Rs :=
 ob x4 fun a0 =>
 some (.ret a0, h)
noncomputable def q208_20 (C : YC) (lf : Nat) (r : K1) (x0 x5 : O) (h : HW) : Rs :=
 ob x0 fun a1 =>
 ob x0 fun a2 =>
 ob x5 fun a3 =>
 ob (fa 1 a3) fun y4 =>
 ob x5 fun a5 =>
 ob (fa 2 a5) fun y6 =>
 ob (ld1 y4 h) fun y7 =>
 ob (semNil a1) fun y8 =>
 ob (fa 8 y8) fun y9 =>
 ob (ld1 y6 h) fun y10 =>
 ob (st 1 y9 y7 h) fun h11 =>
 ck (chkH [(5, adrO (some y6)), (3, adrO (some y4))] h h11 [5]) <|
 ob (semNil a2) fun y12 =>
 ob (fa 9 y12) fun y13 =>
 ob (st 1 y13 y10 h11) fun h14 =>
 ob x5 fun a15 =>
 ob (fa 1 a15) fun y16 =>
 ob (ld1 y16 h14) fun y17 =>
 ob (lenE Tryz.prog 25 y17) fun y18 =>
 ob (bin Tryz.prog .gtr 3 y18 (.int .i64 0)) fun y19 =>
 r (some y19) h14
theorem q208_20_eq (C : YC) (lf : Nat) (r : K1) (KN : KF) (KE : KX) : ∀ F h, evX fx208 C lf [1, 1, 1, 1, 1] F h KN (fun F h => r (F 4) h) KE = q208_20 C lf r (F 0) (F 5) h := by
  intro F h; kernel_rfl
noncomputable def q208_72 (C : YC) (lf : Nat) (n : K2) (x0 x5 : O) (h : HW) : Rs :=
 ob x5 fun a21 =>
 ob (fa 0 a21) fun y22 =>
 ob (ld1 y22 h) fun y23 =>
 ob (unE .not y23) fun y24 =>
 bc (gd true (some y24) (ob x0 fun a25 =>
 some (.ret a25, h)) h) fun y26 h26 =>
 bc (gd true (some y24) (ob (semNil y26) fun y27 =>
 some (.ret y27, h26)) h26) fun y28 h28 =>
 bc (gd true (some y24) (ob (fa 1 y28) fun y29 =>
 some (.ret y29, h28)) h28) fun y30 h30 =>
 bc (gd true (some y24) (ob (fa 4 y30) fun y31 =>
 some (.ret y31, h30)) h30) fun y32 h32 =>
 bc (gd true (some y24) (ob (ld1 y32 h32) fun y33 =>
 some (.ret y33, h32)) h32) fun y34 h34 =>
 bc (gd true (some y24) (ob (bin Tryz.prog .neq 3 y34 (.int .i64 0)) fun y35 =>
 some (.ret y35, h34)) h34) fun y36 h36 =>
 ob (ypk y24 y36 (.bool false)) fun y37 =>
 yIf y37
 (ob x0 fun a38 =>
 ob x0 fun a39 =>
 ob (semNil a39) fun y40 =>
 ob (fa 1 y40) fun y41 =>
 ob (fa 4 y41) fun y42 =>
 ob (ld1 y42 h36) fun y43 =>
 ob (semNil a38) fun y44 =>
 ob (fa 7 y44) fun y45 =>
 ob (st 1 y45 y43 h36) fun h46 =>
 ob x0 fun a47 =>
 ob (semNil a47) fun y48 =>
 ob (fa 0 y48) fun y49 =>
 ob (ld1 y49 h46) fun y50 =>
 ob (semNil y50) fun y51 =>
 ob (fa 0 y51) fun y52 =>
 ob (ld1 y52 h46) fun y53 =>
 ob x0 fun a54 =>
 ob (semNil a54) fun y55 =>
 ob (fa 7 y55) fun y56 =>
 ob (ld1 y56 h46) fun y57 =>
 bcn (C (.fn 204) [y53, y57] h46) fun y58 h58 =>
 ob (unE .not y58) fun y59 =>
 bcn (C (.fn 146) [y59, (.int .i64 2)] h58) fun y60 h60 =>
 ob x0 fun a61 =>
 ob (semNil a61) fun y62 =>
 ob (fa 0 y62) fun y63 =>
 ob (ld1 y63 h60) fun y64 =>
 ob x0 fun a65 =>
 ob (semNil a65) fun y66 =>
 ob (fa 7 y66) fun y67 =>
 ob (ld1 y67 h60) fun y68 =>
 bcn (C (.fn 156) [y64, y68] h60) fun y69 h69 =>
 ob (bin Tryz.prog .neq 30 y69 (.int .i64 16384)) fun y70 =>
 bcn (C (.fn 146) [y70, (.int .i64 20)] h69) fun y71 h71 =>
 n x0 x5 h71)
 (n x0 x5 h36)
theorem q208_72_eq (C : YC) (lf : Nat) (n : K2) (KR : KF) (KE : KX) : ∀ F h, evX fx208 C lf [1, 1, 1, 1, 0] F h (fun F h => n (F 0) (F 5) h) KR KE = q208_72 C lf n (F 0) (F 5) h := by
  intro F h; kernel_rfl
noncomputable def q208_73 (C : YC) (lf : Nat) (r : K1) (x0 x5 : O) (h : HW) : Rs :=
 q208_72 C lf (fun x0 x5 h => q208_20 C lf r x0 x5 h) x0 x5 h
theorem q208_73_eq (C : YC) (lf : Nat) (r : K1) (KN : KF) (KE : KX) : ∀ F h, evX fx208 C lf [1, 1, 1, 1] F h KN (fun F h => r (F 4) h) KE = q208_73 C lf r (F 0) (F 5) h := cSeq (a := subX fx208 [1, 1, 1, 1, 0]) (b := subX fx208 [1, 1, 1, 1, 1]) (by kernel_rfl) (B := (fun F h => q208_20 C lf r (F 0) (F 5) h)) (q208_20_eq C lf r KN KE) (q208_72_eq C lf (fun x0 x5 h => q208_20 C lf r x0 x5 h) (fun F h => r (F 4) h) KE)
noncomputable def q208_78 (C : YC) (lf : Nat) (n : K2) (x0 x5 : O) (h : HW) : Rs :=
 ob x0 fun a74 =>
 ob (semNil a74) fun y75 =>
 ob (fa 7 y75) fun y76 =>
 ob (st 1 y76 (.int .i64 1) h) fun h77 =>
 n x0 x5 h77
theorem q208_78_eq (C : YC) (lf : Nat) (n : K2) (KR : KF) (KE : KX) : ∀ F h, evX fx208 C lf [1, 1, 1, 0] F h (fun F h => n (F 0) (F 5) h) KR KE = q208_78 C lf n (F 0) (F 5) h := by
  intro F h; kernel_rfl
noncomputable def q208_79 (C : YC) (lf : Nat) (r : K1) (x0 x5 : O) (h : HW) : Rs :=
 q208_78 C lf (fun x0 x5 h => q208_73 C lf r x0 x5 h) x0 x5 h
theorem q208_79_eq (C : YC) (lf : Nat) (r : K1) (KN : KF) (KE : KX) : ∀ F h, evX fx208 C lf [1, 1, 1] F h KN (fun F h => r (F 4) h) KE = q208_79 C lf r (F 0) (F 5) h := cSeq (a := subX fx208 [1, 1, 1, 0]) (b := subX fx208 [1, 1, 1, 1]) (by kernel_rfl) (B := (fun F h => q208_73 C lf r (F 0) (F 5) h)) (q208_73_eq C lf r KN KE) (q208_78_eq C lf (fun x0 x5 h => q208_73 C lf r x0 x5 h) (fun F h => r (F 4) h) KE)
noncomputable def q208_82 (C : YC) (lf : Nat) (n : K2) (x0 x5 x6 : O) (h : HW) : Rs :=
 ob x6 fun a80 =>
 bc (C (.fn 152) [a80] h) fun y81 h81 =>
 n x0 x5 h81
theorem q208_82_eq (C : YC) (lf : Nat) (n : K2) (KR : KF) (KE : KX) : ∀ F h, evX fx208 C lf [1, 1, 0] F h (fun F h => n (F 0) (F 5) h) KR KE = q208_82 C lf n (F 0) (F 5) (F 6) h := by
  intro F h; kernel_rfl
noncomputable def q208_83 (C : YC) (lf : Nat) (r : K1) (x0 x5 x6 : O) (h : HW) : Rs :=
 q208_82 C lf (fun x0 x5 h => q208_79 C lf r x0 x5 h) x0 x5 x6 h
theorem q208_83_eq (C : YC) (lf : Nat) (r : K1) (KN : KF) (KE : KX) : ∀ F h, evX fx208 C lf [1, 1] F h KN (fun F h => r (F 4) h) KE = q208_83 C lf r (F 0) (F 5) (F 6) h := cSeq (a := subX fx208 [1, 1, 0]) (b := subX fx208 [1, 1, 1]) (by kernel_rfl) (B := (fun F h => q208_79 C lf r (F 0) (F 5) h)) (q208_79_eq C lf r KN KE) (q208_82_eq C lf (fun x0 x5 h => q208_79 C lf r x0 x5 h) (fun F h => r (F 4) h) KE)
noncomputable def q208_90 (C : YC) (lf : Nat) (n : K3) (x0 x1 : O) (h : HW) : Rs :=
 ob x1 fun a84 =>
 bc (C (.fn 151) [a84] h) fun y85 h85 =>
 ob (ext 0 y85) fun y86 =>
 ob (ext 1 y85) fun y87 =>
 b2 (yAl Tryz.prog 234 h85) fun y88 h88 =>
 ob (st 3 y88 y86 h88) fun h89 =>
 n x0 (some y88) (some y87) h89
theorem q208_90_eq (C : YC) (lf : Nat) (n : K3) (KR : KF) (KE : KX) : ∀ F h, evX fx208 C lf [1, 0] F h (fun F h => n (F 0) (F 5) (F 6) h) KR KE = q208_90 C lf n (F 0) (F 1) h := by
  intro F h; kernel_rfl
noncomputable def q208_91 (C : YC) (lf : Nat) (r : K1) (x0 x1 : O) (h : HW) : Rs :=
 q208_90 C lf (fun x0 x5 x6 h => q208_83 C lf r x0 x5 x6 h) x0 x1 h
theorem q208_91_eq (C : YC) (lf : Nat) (r : K1) (KN : KF) (KE : KX) : ∀ F h, evX fx208 C lf [1] F h KN (fun F h => r (F 4) h) KE = q208_91 C lf r (F 0) (F 1) h := cSeq (a := subX fx208 [1, 0]) (b := subX fx208 [1, 1]) (by kernel_rfl) (B := (fun F h => q208_83 C lf r (F 0) (F 5) (F 6) h)) (q208_83_eq C lf r KN KE) (q208_90_eq C lf (fun x0 x5 x6 h => q208_83 C lf r x0 x5 x6 h) (fun F h => r (F 4) h) KE)
noncomputable def q208_92 (C : YC) (lf : Nat) (n : K2) (x0 x1 : O) (h : HW) : Rs :=
 n x0 x1 h
theorem q208_92_eq (C : YC) (lf : Nat) (n : K2) (KR : KF) (KE : KX) : ∀ F h, evX fx208 C lf [0] F h (fun F h => n (F 0) (F 1) h) KR KE = q208_92 C lf n (F 0) (F 1) h := by
  intro F h; kernel_rfl
noncomputable def q208_93 (C : YC) (lf : Nat) (r : K1) (x0 x1 : O) (h : HW) : Rs :=
 q208_92 C lf (fun x0 x1 h => q208_91 C lf r x0 x1 h) x0 x1 h
theorem q208_93_eq (C : YC) (lf : Nat) (r : K1) (KN : KF) (KE : KX) : ∀ F h, evX fx208 C lf [] F h KN (fun F h => r (F 4) h) KE = q208_93 C lf r (F 0) (F 1) h := cSeq (a := subX fx208 [0]) (b := subX fx208 [1]) (by kernel_rfl) (B := (fun F h => q208_91 C lf r (F 0) (F 1) h)) (q208_91_eq C lf r KN KE) (q208_92_eq C lf (fun x0 x1 h => q208_91 C lf r x0 x1 h) (fun F h => r (F 4) h) KE)
noncomputable def fs208 (C : YC) (lf : Nat) (a0 a1 : SV) (h : HW) : Rs := q208_93 C lf ff208 (some a0) (some a1) h
theorem fs208_eq (C : YC) (lf : Nat) (a0 a1 : SV) (h : HW) : yFn Tryz.prog fx208 C lf [a0, a1] h = fs208 C lf a0 a1 h := fnX (K := (fun F h => ff208 (F 4) h)) (by kernel_rfl) (((q208_93_eq C lf ff208 (fun F h => ff208 (F 4) h) (fun _ _ _ => none)) _ h).trans (by kernel_rfl))
noncomputable def fy208 : YX Tryz.prog := Y2 fx208 fs208 fs208_eq (by kernel_rfl)

/-! FN 209 (*tinsel/tree.walker).look -/
noncomputable def fx209 : XF Tryz.prog := ⟨209, Tryz.f209, fun _ => .text, Tryz.func209, by kernel_rfl, by kernel_rfl, by kernel_rfl, by kernel_rfl⟩
noncomputable def ff209 (x4 : O) (h : HW) : Rs :=
 ob x4 fun a0 =>
 some (.ret a0, h)
noncomputable def q209_28 (C : YC) (lf : Nat) (r : K1) (x0 x1 : O) (h : HW) : Rs :=
 ob x1 fun a1 =>
 ob (bin Tryz.prog .eql 9 a1 (.str (bs [46]))) fun y2 =>
 yIf y2
 (ob x0 fun a3 =>
 ob (semNil a3) fun y4 =>
 ob (fa 7 y4) fun y5 =>
 ob (ld1 y5 h) fun y6 =>
 r (some y6) h)
 (ob x0 fun a7 =>
 ob (semNil a7) fun y8 =>
 ob (fa 0 y8) fun y9 =>
 ob (ld1 y9 h) fun y10 =>
 ob (semNil y10) fun y11 =>
 ob (fa 0 y11) fun y12 =>
 ob (ld1 y12 h) fun y13 =>
 ob x0 fun a14 =>
 ob (semNil a14) fun y15 =>
 ob (fa 7 y15) fun y16 =>
 ob (ld1 y16 h) fun y17 =>
 ob x1 fun a18 =>
 bcn (C (.fn 178) [y13, y17, a18] h) fun y19 h19 =>
 ob (ext 0 y19) fun y20 =>
 ob (ext 1 y19) fun y21 =>
 ob (bin Tryz.prog .neq 23 y21 (.int .i64 0)) fun y22 =>
 bc (gd true (some y22) (some (.ret y21, h19)) h19) fun y23 h23 =>
 bc (gd true (some y22) (ob (bin Tryz.prog .neq 23 y23 (.int .i64 2)) fun y24 =>
 some (.ret y24, h23)) h23) fun y25 h25 =>
 ob (ypk y22 y25 (.bool false)) fun y26 =>
 bc (C (.fn 146) [y26, y21] h25) fun y27 h27 =>
 r (some y20) h27)
theorem q209_28_eq (C : YC) (lf : Nat) (r : K1) (KN : KF) (KE : KX) : ∀ F h, evX fx209 C lf [] F h KN (fun F h => r (F 4) h) KE = q209_28 C lf r (F 0) (F 1) h := by
  intro F h; kernel_rfl
noncomputable def fs209 (C : YC) (lf : Nat) (a0 a1 : SV) (h : HW) : Rs := q209_28 C lf ff209 (some a0) (some a1) h
theorem fs209_eq (C : YC) (lf : Nat) (a0 a1 : SV) (h : HW) : yFn Tryz.prog fx209 C lf [a0, a1] h = fs209 C lf a0 a1 h := fnX (K := (fun F h => ff209 (F 4) h)) (by kernel_rfl) (((q209_28_eq C lf ff209 (fun F h => ff209 (F 4) h) (fun _ _ _ => none)) _ h).trans (by kernel_rfl))
noncomputable def fy209 : YX Tryz.prog := Y2 fx209 fs209 fs209_eq (by kernel_rfl)

/-! FN 210 (*tinsel/tree.walker).through -/
noncomputable def fx210 : XF Tryz.prog := ⟨210, Tryz.f210, fun _ => .text, Tryz.func210, by kernel_rfl, by kernel_rfl, by kernel_rfl, by kernel_rfl⟩
noncomputable def ff210 (h : HW) : Rs :=
 some (.ret (.tup []), h)
noncomputable def q210_9 (C : YC) (lf : Nat) (n : K0) (x0 x2 x8 : O) (h : HW) : Rs :=
 ob x0 fun a0 =>
 ob x8 fun a1 =>
 ob (fa 1 a1) fun y2 =>
 ob (ld1 y2 h) fun y3 =>
 ob x2 fun a4 =>
 b2 (ybl Tryz.prog .append #[25, 25] [y3, a4] h) fun y5 h5 =>
 ob (semNil a0) fun y6 =>
 ob (fa 8 y6) fun y7 =>
 ob (st 1 y7 y5 h5) fun h8 =>
 n h8
theorem q210_9_eq (C : YC) (lf : Nat) (n : K0) (KR : KF) (KE : KX) : ∀ F h, evX fx210 C lf [1, 1, 1, 1, 1, 1, 1] F h (fun F h => n h) KR KE = q210_9 C lf n (F 0) (F 2) (F 8) h := by
  intro F h; kernel_rfl
noncomputable def q210_27 (C : YC) (lf : Nat) (n : K3) (x0 x2 x8 : O) (h : HW) : Rs :=
 ob x2 fun a10 =>
 ob (lenE Tryz.prog 25 a10) fun y11 =>
 ob (bin Tryz.prog .eql 3 y11 (.int .i64 0)) fun y12 =>
 yIf y12
 (ob x0 fun a13 =>
 ob x0 fun a14 =>
 ob (semNil a14) fun y15 =>
 ob (fa 9 y15) fun y16 =>
 ob (ld1 y16 h) fun y17 =>
 bc (gd false (some y17) (ob x8 fun a18 =>
 ob (fa 2 a18) fun y19 =>
 some (.ret y19, h)) h) fun y20 h20 =>
 bc (gd false (some y17) (ob (ld1 y20 h20) fun y21 =>
 some (.ret y21, h20)) h20) fun y22 h22 =>
 ob (ypk y17 (.bool true) y22) fun y23 =>
 ob (semNil a13) fun y24 =>
 ob (fa 9 y24) fun y25 =>
 ob (st 1 y25 y23 h22) fun h26 =>
 n x0 x2 x8 h26)
 (n x0 x2 x8 h)
theorem q210_27_eq (C : YC) (lf : Nat) (n : K3) (KR : KF) (KE : KX) : ∀ F h, evX fx210 C lf [1, 1, 1, 1, 1, 1, 0] F h (fun F h => n (F 0) (F 2) (F 8) h) KR KE = q210_27 C lf n (F 0) (F 2) (F 8) h := by
  intro F h; kernel_rfl
noncomputable def q210_28 (C : YC) (lf : Nat) (n : K0) (x0 x2 x8 : O) (h : HW) : Rs :=
 q210_27 C lf (fun x0 x2 x8 h => q210_9 C lf n x0 x2 x8 h) x0 x2 x8 h
theorem q210_28_eq (C : YC) (lf : Nat) (n : K0) (KR : KF) (KE : KX) : ∀ F h, evX fx210 C lf [1, 1, 1, 1, 1, 1] F h (fun F h => n h) KR KE = q210_28 C lf n (F 0) (F 2) (F 8) h := cSeq (a := subX fx210 [1, 1, 1, 1, 1, 1, 0]) (b := subX fx210 [1, 1, 1, 1, 1, 1, 1]) (by kernel_rfl) (B := (fun F h => q210_9 C lf n (F 0) (F 2) (F 8) h)) (q210_9_eq C lf n KR KE) (q210_27_eq C lf (fun x0 x2 x8 h => q210_9 C lf n x0 x2 x8 h) KR KE)
noncomputable def q210_36 (C : YC) (lf : Nat) (n : K3) (x0 x2 x8 : O) (h : HW) : Rs :=
 ob x8 fun a29 =>
 ob (fa 0 a29) fun y30 =>
 ob (ld1 y30 h) fun y31 =>
 yIf y31
 (ob x0 fun a32 =>
 ob (semNil a32) fun y33 =>
 ob (fa 7 y33) fun y34 =>
 ob (st 1 y34 (.int .i64 1) h) fun h35 =>
 n x0 x2 x8 h35)
 (n x0 x2 x8 h)
theorem q210_36_eq (C : YC) (lf : Nat) (n : K3) (KR : KF) (KE : KX) : ∀ F h, evX fx210 C lf [1, 1, 1, 1, 1, 0] F h (fun F h => n (F 0) (F 2) (F 8) h) KR KE = q210_36 C lf n (F 0) (F 2) (F 8) h := by
  intro F h; kernel_rfl
noncomputable def q210_37 (C : YC) (lf : Nat) (n : K0) (x0 x2 x8 : O) (h : HW) : Rs :=
 q210_36 C lf (fun x0 x2 x8 h => q210_28 C lf n x0 x2 x8 h) x0 x2 x8 h
theorem q210_37_eq (C : YC) (lf : Nat) (n : K0) (KR : KF) (KE : KX) : ∀ F h, evX fx210 C lf [1, 1, 1, 1, 1] F h (fun F h => n h) KR KE = q210_37 C lf n (F 0) (F 2) (F 8) h := cSeq (a := subX fx210 [1, 1, 1, 1, 1, 0]) (b := subX fx210 [1, 1, 1, 1, 1, 1]) (by kernel_rfl) (B := (fun F h => q210_28 C lf n (F 0) (F 2) (F 8) h)) (q210_28_eq C lf n KR KE) (q210_36_eq C lf (fun x0 x2 x8 h => q210_28 C lf n x0 x2 x8 h) KR KE)
noncomputable def q210_40 (C : YC) (lf : Nat) (n : K3) (x0 x2 x8 x9 : O) (h : HW) : Rs :=
 ob x9 fun a38 =>
 bc (C (.fn 152) [a38] h) fun y39 h39 =>
 n x0 x2 x8 h39
theorem q210_40_eq (C : YC) (lf : Nat) (n : K3) (KR : KF) (KE : KX) : ∀ F h, evX fx210 C lf [1, 1, 1, 1, 0] F h (fun F h => n (F 0) (F 2) (F 8) h) KR KE = q210_40 C lf n (F 0) (F 2) (F 8) (F 9) h := by
  intro F h; kernel_rfl
noncomputable def q210_41 (C : YC) (lf : Nat) (n : K0) (x0 x2 x8 x9 : O) (h : HW) : Rs :=
 q210_40 C lf (fun x0 x2 x8 h => q210_37 C lf n x0 x2 x8 h) x0 x2 x8 x9 h
theorem q210_41_eq (C : YC) (lf : Nat) (n : K0) (KR : KF) (KE : KX) : ∀ F h, evX fx210 C lf [1, 1, 1, 1] F h (fun F h => n h) KR KE = q210_41 C lf n (F 0) (F 2) (F 8) (F 9) h := cSeq (a := subX fx210 [1, 1, 1, 1, 0]) (b := subX fx210 [1, 1, 1, 1, 1]) (by kernel_rfl) (B := (fun F h => q210_37 C lf n (F 0) (F 2) (F 8) h)) (q210_37_eq C lf n KR KE) (q210_40_eq C lf (fun x0 x2 x8 h => q210_37 C lf n x0 x2 x8 h) KR KE)
noncomputable def q210_49 (C : YC) (lf : Nat) (n : K4) (x0 x2 x6 : O) (h : HW) : Rs :=
 ob x6 fun a42 =>
 b2 (ycv Tryz.prog 31 9 a42 h) fun y43 h43 =>
 bc (C (.fn 151) [y43] h43) fun y44 h44 =>
 ob (ext 0 y44) fun y45 =>
 ob (ext 1 y44) fun y46 =>
 b2 (yAl Tryz.prog 234 h44) fun y47 h47 =>
 ob (st 3 y47 y45 h47) fun h48 =>
 n x0 x2 (some y47) (some y46) h48
theorem q210_49_eq (C : YC) (lf : Nat) (n : K4) (KR : KF) (KE : KX) : ∀ F h, evX fx210 C lf [1, 1, 1, 0] F h (fun F h => n (F 0) (F 2) (F 8) (F 9) h) KR KE = q210_49 C lf n (F 0) (F 2) (F 6) h := by
  intro F h; kernel_rfl
noncomputable def q210_50 (C : YC) (lf : Nat) (n : K0) (x0 x2 x6 : O) (h : HW) : Rs :=
 q210_49 C lf (fun x0 x2 x8 x9 h => q210_41 C lf n x0 x2 x8 x9 h) x0 x2 x6 h
theorem q210_50_eq (C : YC) (lf : Nat) (n : K0) (KR : KF) (KE : KX) : ∀ F h, evX fx210 C lf [1, 1, 1] F h (fun F h => n h) KR KE = q210_50 C lf n (F 0) (F 2) (F 6) h := cSeq (a := subX fx210 [1, 1, 1, 0]) (b := subX fx210 [1, 1, 1, 1]) (by kernel_rfl) (B := (fun F h => q210_41 C lf n (F 0) (F 2) (F 8) (F 9) h)) (q210_41_eq C lf n KR KE) (q210_49_eq C lf (fun x0 x2 x8 x9 h => q210_41 C lf n x0 x2 x8 x9 h) KR KE)
noncomputable def q210_62 (C : YC) (lf : Nat) (n : K3) (x0 x1 x2 : O) (h : HW) : Rs :=
 ob x0 fun a51 =>
 ob (semNil a51) fun y52 =>
 ob (fa 0 y52) fun y53 =>
 ob (ld1 y53 h) fun y54 =>
 ob (semNil y54) fun y55 =>
 ob (fa 0 y55) fun y56 =>
 ob (ld1 y56 h) fun y57 =>
 ob x1 fun a58 =>
 bc (C (.fn 278) [y57, a58, (.int .i64 0), (.int .i64 17792)] h) fun y59 h59 =>
 ob (ext 0 y59) fun y60 =>
 ob (ext 1 y59) fun y61 =>
 n x0 x2 (some y60) h59
theorem q210_62_eq (C : YC) (lf : Nat) (n : K3) (KR : KF) (KE : KX) : ∀ F h, evX fx210 C lf [1, 1, 0] F h (fun F h => n (F 0) (F 2) (F 6) h) KR KE = q210_62 C lf n (F 0) (F 1) (F 2) h := by
  intro F h; kernel_rfl
noncomputable def q210_63 (C : YC) (lf : Nat) (n : K0) (x0 x1 x2 : O) (h : HW) : Rs :=
 q210_62 C lf (fun x0 x2 x6 h => q210_50 C lf n x0 x2 x6 h) x0 x1 x2 h
theorem q210_63_eq (C : YC) (lf : Nat) (n : K0) (KR : KF) (KE : KX) : ∀ F h, evX fx210 C lf [1, 1] F h (fun F h => n h) KR KE = q210_63 C lf n (F 0) (F 1) (F 2) h := cSeq (a := subX fx210 [1, 1, 0]) (b := subX fx210 [1, 1, 1]) (by kernel_rfl) (B := (fun F h => q210_50 C lf n (F 0) (F 2) (F 6) h)) (q210_50_eq C lf n KR KE) (q210_62_eq C lf (fun x0 x2 x6 h => q210_50 C lf n x0 x2 x6 h) KR KE)
noncomputable def q210_70 (C : YC) (lf : Nat) (n : K3) (x0 x1 x2 : O) (h : HW) : Rs :=
 ob x0 fun a64 =>
 ob (semNil a64) fun y65 =>
 ob (fa 10 y65) fun y66 =>
 ob (ld1 y66 h) fun y67 =>
 ob (bin Tryz.prog .gtr 3 y67 (.int .i64 8)) fun y68 =>
 bc (C (.fn 146) [y68, (.int .i64 40)] h) fun y69 h69 =>
 n x0 x1 x2 h69
theorem q210_70_eq (C : YC) (lf : Nat) (n : K3) (KR : KF) (KE : KX) : ∀ F h, evX fx210 C lf [1, 0] F h (fun F h => n (F 0) (F 1) (F 2) h) KR KE = q210_70 C lf n (F 0) (F 1) (F 2) h := by
  intro F h; kernel_rfl
noncomputable def q210_71 (C : YC) (lf : Nat) (n : K0) (x0 x1 x2 : O) (h : HW) : Rs :=
 q210_70 C lf (fun x0 x1 x2 h => q210_63 C lf n x0 x1 x2 h) x0 x1 x2 h
theorem q210_71_eq (C : YC) (lf : Nat) (n : K0) (KR : KF) (KE : KX) : ∀ F h, evX fx210 C lf [1] F h (fun F h => n h) KR KE = q210_71 C lf n (F 0) (F 1) (F 2) h := cSeq (a := subX fx210 [1, 0]) (b := subX fx210 [1, 1]) (by kernel_rfl) (B := (fun F h => q210_63 C lf n (F 0) (F 1) (F 2) h)) (q210_63_eq C lf n KR KE) (q210_70_eq C lf (fun x0 x1 x2 h => q210_63 C lf n x0 x1 x2 h) KR KE)
noncomputable def q210_80 (C : YC) (lf : Nat) (n : K3) (x0 x1 x2 : O) (h : HW) : Rs :=
 ob x0 fun a72 =>
 ob (semNil a72) fun y73 =>
 ob (fa 10 y73) fun y74 =>
 ob (ld1 y74 h) fun y75 =>
 ob (bin Tryz.prog .add 3 y75 (.int .i64 1)) fun y76 =>
 ob (semNil a72) fun y77 =>
 ob (fa 10 y77) fun y78 =>
 ob (st 1 y78 y76 h) fun h79 =>
 n x0 x1 x2 h79
theorem q210_80_eq (C : YC) (lf : Nat) (n : K3) (KR : KF) (KE : KX) : ∀ F h, evX fx210 C lf [0] F h (fun F h => n (F 0) (F 1) (F 2) h) KR KE = q210_80 C lf n (F 0) (F 1) (F 2) h := by
  intro F h; kernel_rfl
noncomputable def q210_81 (C : YC) (lf : Nat) (n : K0) (x0 x1 x2 : O) (h : HW) : Rs :=
 q210_80 C lf (fun x0 x1 x2 h => q210_71 C lf n x0 x1 x2 h) x0 x1 x2 h
theorem q210_81_eq (C : YC) (lf : Nat) (n : K0) (KR : KF) (KE : KX) : ∀ F h, evX fx210 C lf [] F h (fun F h => n h) KR KE = q210_81 C lf n (F 0) (F 1) (F 2) h := cSeq (a := subX fx210 [0]) (b := subX fx210 [1]) (by kernel_rfl) (B := (fun F h => q210_71 C lf n (F 0) (F 1) (F 2) h)) (q210_71_eq C lf n KR KE) (q210_80_eq C lf (fun x0 x1 x2 h => q210_71 C lf n x0 x1 x2 h) KR KE)
noncomputable def fs210 (C : YC) (lf : Nat) (a0 a1 a2 : SV) (h : HW) : Rs := q210_81 C lf ff210 (some a0) (some a1) (some a2) h
theorem fs210_eq (C : YC) (lf : Nat) (a0 a1 a2 : SV) (h : HW) : yFn Tryz.prog fx210 C lf [a0, a1, a2] h = fs210 C lf a0 a1 a2 h := fnX (K := (fun F h => ff210 h)) (by kernel_rfl) (((q210_81_eq C lf ff210 (fun F h => ff210 h) (fun _ _ _ => none)) _ h).trans (by kernel_rfl))
noncomputable def fy210 : YX Tryz.prog := Y3 fx210 fs210 fs210_eq (by kernel_rfl)

/-! EV 211 (*tinsel/tree.undo).run: builtin -/
noncomputable def fx211 : XF Tryz.prog := ⟨211, Tryz.f211, fun _ => .text, Tryz.func211, by kernel_rfl, by kernel_rfl, by kernel_rfl, by kernel_rfl⟩

/-! FN 212 (*tinsel/tree.undo).add -/
noncomputable def fx212 : XF Tryz.prog := ⟨212, Tryz.f212, fun _ => .text, Tryz.func212, by kernel_rfl, by kernel_rfl, by kernel_rfl, by kernel_rfl⟩
noncomputable def ff212 (h : HW) : Rs :=
 some (.ret (.tup []), h)
noncomputable def q212_9 (C : YC) (lf : Nat) (n : K0) (x0 x1 : O) (h : HW) : Rs :=
 ob x0 fun a0 =>
 ob x0 fun a1 =>
 ob (semNil a1) fun y2 =>
 ob (ld1 y2 h) fun y3 =>
 ob x1 fun a4 =>
 b2 (ybs Tryz.prog 305 1 [0] [a4] h) fun y5 h5 =>
 b2 (ybl Tryz.prog .append #[305, 305] [y3, y5] h5) fun y6 h6 =>
 ob (semNil a0) fun y7 =>
 ob (st 1 y7 y6 h6) fun h8 =>
 n h8
theorem q212_9_eq (C : YC) (lf : Nat) (n : K0) (KR : KF) (KE : KX) : ∀ F h, evX fx212 C lf [] F h (fun F h => n h) KR KE = q212_9 C lf n (F 0) (F 1) h := by
  intro F h; kernel_rfl
noncomputable def fs212 (C : YC) (lf : Nat) (a0 a1 : SV) (h : HW) : Rs := q212_9 C lf ff212 (some a0) (some a1) h
theorem fs212_eq (C : YC) (lf : Nat) (a0 a1 : SV) (h : HW) : yFn Tryz.prog fx212 C lf [a0, a1] h = fs212 C lf a0 a1 h := fnX (K := (fun F h => ff212 h)) (by kernel_rfl) (((q212_9_eq C lf ff212 (fun F h => ff212 h) (fun _ _ _ => none)) _ h).trans (by kernel_rfl))
noncomputable def fy212 : YX Tryz.prog := Y2 fx212 fs212 fs212_eq (by kernel_rfl)

/-! FN 214 tinsel/dir.Add -/
noncomputable def fx214 : XF Tryz.prog := ⟨214, Tryz.f214, fun _ => .text, Tryz.func214, by kernel_rfl, by kernel_rfl, by kernel_rfl, by kernel_rfl⟩
noncomputable def ff214 (x8 : O) (h : HW) : Rs :=
 ob x8 fun a0 =>
 some (.ret a0, h)
noncomputable def q214_12 (C : YC) (lf : Nat) (r : K1) (x0 x1 x2 x3 x11 : O) (h : HW) : Rs :=
 ob x11 fun a1 =>
 ob (bin Tryz.prog .add 3 a1 (.int .i64 1)) fun y2 =>
 ob (bin Tryz.prog .mul 3 y2 (.int .i64 32)) fun y3 =>
 ob (bin Tryz.prog .gtr 3 y3 (.int .i64 17792)) fun y4 =>
 yIf y4
 (r (some (.int .i64 28)) h)
 (ob x0 fun a5 =>
 ob x1 fun a6 =>
 ob x11 fun a7 =>
 ob x2 fun a8 =>
 ob x3 fun a9 =>
 bc (C (.fn 205) [a8, a9] h) fun y10 h10 =>
 bc (C (.fn 279) [a5, a6, a7, y10] h10) fun y11 h11 =>
 r (some y11) h11)
theorem q214_12_eq (C : YC) (lf : Nat) (r : K1) (KN : KF) (KE : KX) : ∀ F h, evX fx214 C lf [1, 1, 1, 1, 1, 1] F h KN (fun F h => r (F 8) h) KE = q214_12 C lf r (F 0) (F 1) (F 2) (F 3) (F 11) h := by
  intro F h; kernel_rfl
noncomputable def q214_33 (C : YC) (lf : Nat) (n : K6) (e1 : K5) (x0 x1 x2 x3 x10 x11 : O) (h : HW) : Rs :=
 ob x11 fun a14 =>
 ob x10 fun a15 =>
 ob (lenE Tryz.prog 335 a15) fun y16 =>
 ob (bin Tryz.prog .lss 3 a14 y16) fun y17 =>
 bc (gd true (some y17) (ob x10 fun a18 =>
 some (.ret a18, h)) h) fun y19 h19 =>
 bc (gd true (some y17) (ob x11 fun a20 =>
 some (.ret a20, h19)) h19) fun y21 h21 =>
 bc (gd true (some y17) (ob (ixS 32 y19 y21) fun y22 =>
 some (.ret y22, h21)) h21) fun y23 h23 =>
 bc (gd true (some y17) (ob (ldN 32 y23 h23) fun y24 =>
 some (.ret y24, h23)) h23) fun y25 h25 =>
 bc (gd true (some y17) (bc (C (.fn 250) [y25] h25) fun y26 h26 =>
 some (.ret y26, h26)) h25) fun y27 h27 =>
 bc (gd true (some y17) (ob (bin Tryz.prog .neq 3 y27 (.int .i64 0)) fun y28 =>
 some (.ret y28, h27)) h27) fun y29 h29 =>
 ob (ypk y17 y29 (.bool false)) fun y30 =>
 yIf y30
 (ob x11 fun a31 =>
 ob (bin Tryz.prog .add 3 a31 (.int .i64 1)) fun y32 =>
 n x0 x1 x2 x3 x10 (some y32) h29)
 (e1 x0 x1 x2 x3 x11 h29)
theorem q214_33_eq (C : YC) (lf : Nat) (n : K6) (e1 : K5) (KR : KF) (KE : KX) : ∀ F h, evX fx214 C lf [1, 1, 1, 1, 1, 0, 0, 0] F h (fun F h => n (F 0) (F 1) (F 2) (F 3) (F 10) (F 11) h) KR (bk 1 (fun F h => e1 (F 0) (F 1) (F 2) (F 3) (F 11) h) KE) = q214_33 C lf n e1 (F 0) (F 1) (F 2) (F 3) (F 10) (F 11) h := by
  intro F h; kernel_rfl
noncomputable def l214_13 (C : YC) (lf : Nat) (e1 : K5) (k : O × O × O × O × O × O → HW → Rs) (s : O × O × O × O × O × O) (h : HW) : Rs :=
 q214_33 C lf (fun x0 x1 x2 x3 x10 x11 h => k (x0, x1, x2, x3, x10, x11) h) e1 s.1 s.2.1 s.2.2.1 s.2.2.2.1 s.2.2.2.2.1 s.2.2.2.2.2 h
noncomputable def q214_34 (C : YC) (lf : Nat) (r : K1) (x0 x1 x2 x3 x10 x11 : O) (h : HW) : Rs :=
 lp (l214_13 C lf (fun x0 x1 x2 x3 x11 h => q214_12 C lf r x0 x1 x2 x3 x11 h)) lf (x0, x1, x2, x3, x10, x11) h
theorem q214_34_eq (C : YC) (lf : Nat) (r : K1) (KN : KF) (KE : KX) : ∀ F h, evX fx214 C lf [1, 1, 1, 1, 1] F h KN (fun F h => r (F 8) h) KE = q214_34 C lf r (F 0) (F 1) (F 2) (F 3) (F 10) (F 11) h := cSeq (a := subX fx214 [1, 1, 1, 1, 1, 0]) (b := subX fx214 [1, 1, 1, 1, 1, 1]) (by kernel_rfl) (B := (fun F h => q214_12 C lf r (F 0) (F 1) (F 2) (F 3) (F 11) h)) (q214_12_eq C lf r KN KE) (cBlock (id := 1) (a := subX fx214 [1, 1, 1, 1, 1, 0, 0]) (by kernel_rfl) (cLoop (a := subX fx214 [1, 1, 1, 1, 1, 0, 0, 0]) (g := fun F => (F 0, F 1, F 2, F 3, F 10, F 11)) (body := l214_13 C lf (fun x0 x1 x2 x3 x11 h => q214_12 C lf r x0 x1 x2 x3 x11 h)) (by kernel_rfl) (fun k => (q214_33_eq C lf (fun x0 x1 x2 x3 x10 x11 h => k (x0, x1, x2, x3, x10, x11) h) (fun x0 x1 x2 x3 x11 h => q214_12 C lf r x0 x1 x2 x3 x11 h) (fun F h => r (F 8) h) KE))))
noncomputable def q214_35 (C : YC) (lf : Nat) (n : K6) (x0 x1 x2 x3 x10 : O) (h : HW) : Rs :=
 n x0 x1 x2 x3 x10 (some (.int .i64 0)) h
theorem q214_35_eq (C : YC) (lf : Nat) (n : K6) (KR : KF) (KE : KX) : ∀ F h, evX fx214 C lf [1, 1, 1, 1, 0] F h (fun F h => n (F 0) (F 1) (F 2) (F 3) (F 10) (F 11) h) KR KE = q214_35 C lf n (F 0) (F 1) (F 2) (F 3) (F 10) h := by
  intro F h; kernel_rfl
noncomputable def q214_36 (C : YC) (lf : Nat) (r : K1) (x0 x1 x2 x3 x10 : O) (h : HW) : Rs :=
 q214_35 C lf (fun x0 x1 x2 x3 x10 x11 h => q214_34 C lf r x0 x1 x2 x3 x10 x11 h) x0 x1 x2 x3 x10 h
theorem q214_36_eq (C : YC) (lf : Nat) (r : K1) (KN : KF) (KE : KX) : ∀ F h, evX fx214 C lf [1, 1, 1, 1] F h KN (fun F h => r (F 8) h) KE = q214_36 C lf r (F 0) (F 1) (F 2) (F 3) (F 10) h := cSeq (a := subX fx214 [1, 1, 1, 1, 0]) (b := subX fx214 [1, 1, 1, 1, 1]) (by kernel_rfl) (B := (fun F h => q214_34 C lf r (F 0) (F 1) (F 2) (F 3) (F 10) (F 11) h)) (q214_34_eq C lf r KN KE) (q214_35_eq C lf (fun x0 x1 x2 x3 x10 x11 h => q214_34 C lf r x0 x1 x2 x3 x10 x11 h) (fun F h => r (F 8) h) KE)
noncomputable def q214_45 (C : YC) (lf : Nat) (n : K5) (r : K1) (x0 x1 x2 x3 x10 : O) (h : HW) : Rs :=
 ob x0 fun a37 =>
 ob x3 fun a38 =>
 bc (C (.fn 204) [a37, a38] h) fun y39 h39 =>
 ob (unE .not y39) fun y40 =>
 yIf y40
 (r (some (.int .i64 22)) h39)
 (ob x10 fun a41 =>
 ob x2 fun a42 =>
 bc (C (.fn 249) [a41, a42] h39) fun y43 h43 =>
 ob (bin Tryz.prog .geq 3 y43 (.int .i64 0)) fun y44 =>
 yIf y44
 (r (some (.int .i64 17)) h43)
 (n x0 x1 x2 x3 x10 h43))
theorem q214_45_eq (C : YC) (lf : Nat) (n : K5) (r : K1) (KE : KX) : ∀ F h, evX fx214 C lf [1, 1, 1, 0] F h (fun F h => n (F 0) (F 1) (F 2) (F 3) (F 10) h) (fun F h => r (F 8) h) KE = q214_45 C lf n r (F 0) (F 1) (F 2) (F 3) (F 10) h := by
  intro F h; kernel_rfl
noncomputable def q214_46 (C : YC) (lf : Nat) (r : K1) (x0 x1 x2 x3 x10 : O) (h : HW) : Rs :=
 q214_45 C lf (fun x0 x1 x2 x3 x10 h => q214_36 C lf r x0 x1 x2 x3 x10 h) r x0 x1 x2 x3 x10 h
theorem q214_46_eq (C : YC) (lf : Nat) (r : K1) (KN : KF) (KE : KX) : ∀ F h, evX fx214 C lf [1, 1, 1] F h KN (fun F h => r (F 8) h) KE = q214_46 C lf r (F 0) (F 1) (F 2) (F 3) (F 10) h := cSeq (a := subX fx214 [1, 1, 1, 0]) (b := subX fx214 [1, 1, 1, 1]) (by kernel_rfl) (B := (fun F h => q214_36 C lf r (F 0) (F 1) (F 2) (F 3) (F 10) h)) (q214_36_eq C lf r KN KE) (q214_45_eq C lf (fun x0 x1 x2 x3 x10 h => q214_36 C lf r x0 x1 x2 x3 x10 h) r KE)
noncomputable def q214_50 (C : YC) (lf : Nat) (n : K5) (x0 x1 x2 x3 : O) (h : HW) : Rs :=
 ob x0 fun a47 =>
 ob x1 fun a48 =>
 bc (C (.fn 248) [a47, a48] h) fun y49 h49 =>
 n x0 x1 x2 x3 (some y49) h49
theorem q214_50_eq (C : YC) (lf : Nat) (n : K5) (KR : KF) (KE : KX) : ∀ F h, evX fx214 C lf [1, 1, 0] F h (fun F h => n (F 0) (F 1) (F 2) (F 3) (F 10) h) KR KE = q214_50 C lf n (F 0) (F 1) (F 2) (F 3) h := by
  intro F h; kernel_rfl
noncomputable def q214_51 (C : YC) (lf : Nat) (r : K1) (x0 x1 x2 x3 : O) (h : HW) : Rs :=
 q214_50 C lf (fun x0 x1 x2 x3 x10 h => q214_46 C lf r x0 x1 x2 x3 x10 h) x0 x1 x2 x3 h
theorem q214_51_eq (C : YC) (lf : Nat) (r : K1) (KN : KF) (KE : KX) : ∀ F h, evX fx214 C lf [1, 1] F h KN (fun F h => r (F 8) h) KE = q214_51 C lf r (F 0) (F 1) (F 2) (F 3) h := cSeq (a := subX fx214 [1, 1, 0]) (b := subX fx214 [1, 1, 1]) (by kernel_rfl) (B := (fun F h => q214_46 C lf r (F 0) (F 1) (F 2) (F 3) (F 10) h)) (q214_46_eq C lf r KN KE) (q214_50_eq C lf (fun x0 x1 x2 x3 x10 h => q214_46 C lf r x0 x1 x2 x3 x10 h) (fun F h => r (F 8) h) KE)
noncomputable def q214_57 (C : YC) (lf : Nat) (n : K4) (r : K1) (x0 x1 x2 x3 : O) (h : HW) : Rs :=
 ob x0 fun a52 =>
 ob x1 fun a53 =>
 ob x2 fun a54 =>
 bc (C (.fn 247) [a52, a53, a54] h) fun y55 h55 =>
 ob (bin Tryz.prog .neq 23 y55 (.int .i64 0)) fun y56 =>
 yIf y56
 (r (some y55) h55)
 (n x0 x1 x2 x3 h55)
theorem q214_57_eq (C : YC) (lf : Nat) (n : K4) (r : K1) (KE : KX) : ∀ F h, evX fx214 C lf [1, 0] F h (fun F h => n (F 0) (F 1) (F 2) (F 3) h) (fun F h => r (F 8) h) KE = q214_57 C lf n r (F 0) (F 1) (F 2) (F 3) h := by
  intro F h; kernel_rfl
noncomputable def q214_58 (C : YC) (lf : Nat) (r : K1) (x0 x1 x2 x3 : O) (h : HW) : Rs :=
 q214_57 C lf (fun x0 x1 x2 x3 h => q214_51 C lf r x0 x1 x2 x3 h) r x0 x1 x2 x3 h
theorem q214_58_eq (C : YC) (lf : Nat) (r : K1) (KN : KF) (KE : KX) : ∀ F h, evX fx214 C lf [1] F h KN (fun F h => r (F 8) h) KE = q214_58 C lf r (F 0) (F 1) (F 2) (F 3) h := cSeq (a := subX fx214 [1, 0]) (b := subX fx214 [1, 1]) (by kernel_rfl) (B := (fun F h => q214_51 C lf r (F 0) (F 1) (F 2) (F 3) h)) (q214_51_eq C lf r KN KE) (q214_57_eq C lf (fun x0 x1 x2 x3 h => q214_51 C lf r x0 x1 x2 x3 h) r KE)
noncomputable def q214_59 (C : YC) (lf : Nat) (n : K4) (x0 x1 x2 x3 : O) (h : HW) : Rs :=
 n x0 x1 x2 x3 h
theorem q214_59_eq (C : YC) (lf : Nat) (n : K4) (KR : KF) (KE : KX) : ∀ F h, evX fx214 C lf [0] F h (fun F h => n (F 0) (F 1) (F 2) (F 3) h) KR KE = q214_59 C lf n (F 0) (F 1) (F 2) (F 3) h := by
  intro F h; kernel_rfl
noncomputable def q214_60 (C : YC) (lf : Nat) (r : K1) (x0 x1 x2 x3 : O) (h : HW) : Rs :=
 q214_59 C lf (fun x0 x1 x2 x3 h => q214_58 C lf r x0 x1 x2 x3 h) x0 x1 x2 x3 h
theorem q214_60_eq (C : YC) (lf : Nat) (r : K1) (KN : KF) (KE : KX) : ∀ F h, evX fx214 C lf [] F h KN (fun F h => r (F 8) h) KE = q214_60 C lf r (F 0) (F 1) (F 2) (F 3) h := cSeq (a := subX fx214 [0]) (b := subX fx214 [1]) (by kernel_rfl) (B := (fun F h => q214_58 C lf r (F 0) (F 1) (F 2) (F 3) h)) (q214_58_eq C lf r KN KE) (q214_59_eq C lf (fun x0 x1 x2 x3 h => q214_58 C lf r x0 x1 x2 x3 h) (fun F h => r (F 8) h) KE)
noncomputable def fs214 (C : YC) (lf : Nat) (a0 a1 a2 a3 : SV) (h : HW) : Rs := q214_60 C lf ff214 (some a0) (some a1) (some a2) (some a3) h
theorem fs214_eq (C : YC) (lf : Nat) (a0 a1 a2 a3 : SV) (h : HW) : yFn Tryz.prog fx214 C lf [a0, a1, a2, a3] h = fs214 C lf a0 a1 a2 a3 h := fnX (K := (fun F h => ff214 (F 8) h)) (by kernel_rfl) (((q214_60_eq C lf ff214 (fun F h => ff214 (F 8) h) (fun _ _ _ => none)) _ h).trans (by kernel_rfl))
noncomputable def fy214 : YX Tryz.prog := Y4 fx214 fs214 fs214_eq (by kernel_rfl)

/-! FN 215 tinsel/path.names -/
noncomputable def fx215 : XF Tryz.prog := ⟨215, Tryz.f215, fun _ => .text, Tryz.func215, by kernel_rfl, by kernel_rfl, by kernel_rfl, by kernel_rfl⟩
noncomputable def ff215 (x2 : O) (h : HW) : Rs :=
 ob x2 fun a0 =>
 some (.ret a0, h)
noncomputable def q215_3 (C : YC) (lf : Nat) (r : K1) (x0 : O) (h : HW) : Rs :=
 ob x0 fun a1 =>
 b2 (ybx 9 a1 h) fun y2 h2 =>
 r (some (.fn (.func 280) [] [y2])) h2
theorem q215_3_eq (C : YC) (lf : Nat) (r : K1) (KN : KF) (KE : KX) : ∀ F h, evX fx215 C lf [] F h KN (fun F h => r (F 2) h) KE = q215_3 C lf r (F 0) h := by
  intro F h; kernel_rfl
noncomputable def fs215 (C : YC) (lf : Nat) (a0 : SV) (h : HW) : Rs := q215_3 C lf ff215 (some a0) h
theorem fs215_eq (C : YC) (lf : Nat) (a0 : SV) (h : HW) : yFn Tryz.prog fx215 C lf [a0] h = fs215 C lf a0 h := fnX (K := (fun F h => ff215 (F 2) h)) (by kernel_rfl) (((q215_3_eq C lf ff215 (fun F h => ff215 (F 2) h) (fun _ _ _ => none)) _ h).trans (by kernel_rfl))
noncomputable def fy215 : YX Tryz.prog := Y1 fx215 fs215 fs215_eq (by kernel_rfl)

/-! FN 216 strings.IndexByte -/
noncomputable def fx216 : XF Tryz.prog := ⟨216, Tryz.f216, fun _ => .text, Tryz.func216, by kernel_rfl, by kernel_rfl, by kernel_rfl, by kernel_rfl⟩
noncomputable def ff216 (x4 : O) (h : HW) : Rs :=
 ob x4 fun a0 =>
 some (.ret a0, h)
noncomputable def q216_4 (C : YC) (lf : Nat) (r : K1) (x0 x1 : O) (h : HW) : Rs :=
 ob x0 fun a1 =>
 ob x1 fun a2 =>
 bc (C (.fn 281) [a1, a2] h) fun y3 h3 =>
 r (some y3) h3
theorem q216_4_eq (C : YC) (lf : Nat) (r : K1) (KN : KF) (KE : KX) : ∀ F h, evX fx216 C lf [] F h KN (fun F h => r (F 4) h) KE = q216_4 C lf r (F 0) (F 1) h := by
  intro F h; kernel_rfl
noncomputable def fs216 (C : YC) (lf : Nat) (a0 a1 : SV) (h : HW) : Rs := q216_4 C lf ff216 (some a0) (some a1) h
theorem fs216_eq (C : YC) (lf : Nat) (a0 a1 : SV) (h : HW) : yFn Tryz.prog fx216 C lf [a0, a1] h = fs216 C lf a0 a1 h := fnX (K := (fun F h => ff216 (F 4) h)) (by kernel_rfl) (((q216_4_eq C lf ff216 (fun F h => ff216 (F 4) h) (fun _ _ _ => none)) _ h).trans (by kernel_rfl))
noncomputable def fy216 : YX Tryz.prog := Y2 fx216 fs216 fs216_eq (by kernel_rfl)

/-! FN 217 (*tinsel/inode.Table).fill -/
noncomputable def fx217 : XF Tryz.prog := ⟨217, Tryz.f217, fun _ => .text, Tryz.func217, by kernel_rfl, by kernel_rfl, by kernel_rfl, by kernel_rfl⟩
noncomputable def ff217 (x6 : O) (h : HW) : Rs :=
 ob x6 fun a0 =>
 some (.ret a0, h)
noncomputable def q217_1 (C : YC) (lf : Nat) (r : K1) (h : HW) : Rs :=
 r (some (.bool true)) h
theorem q217_1_eq (C : YC) (lf : Nat) (r : K1) (KN : KF) (KE : KX) : ∀ F h, evX fx217 C lf [1, 1, 1, 1, 1, 1] F h KN (fun F h => r (F 6) h) KE = q217_1 C lf r h := by
  intro F h; kernel_rfl
noncomputable def q217_37 (C : YC) (lf : Nat) (n : K6) (r : K1) (e1 : K0) (x3 x8 x9 x50 x51 x52 : O) (h : HW) : Rs :=
 ob x52 fun a3 =>
 ob x51 fun a4 =>
 ob (bin Tryz.prog .lss 3 a3 a4) fun y5 =>
 yIf y5
 (ob x50 fun a6 =>
 ob x52 fun a7 =>
 ob (ixS 1 a6 a7) fun y8 =>
 ob (ld1 y8 h) fun y9 =>
 ob (semNil y9) fun y10 =>
 ob (ld1 y10 h) fun y11 =>
 ob (bin Tryz.prog .gtr 3 y11 (.int .i64 0)) fun y12 =>
 yIf y12
 (ob x52 fun a13 =>
 ob (bin Tryz.prog .add 3 a13 (.int .i64 1)) fun y14 =>
 n x3 x8 x9 x50 x51 (some y14) h)
 (ob x3 fun a15 =>
 ob (ld1 a15 h) fun y16 =>
 ob (semNil y16) fun y17 =>
 ob (fa 0 y17) fun y18 =>
 ob (ld1 y18 h) fun y19 =>
 bc (C (.fn 284) [y19] h) fun y20 h20 =>
 ob (ext 0 y20) fun y21 =>
 ob (ext 1 y20) fun y22 =>
 ob (bin Tryz.prog .neq 23 y22 (.int .i64 0)) fun y23 =>
 yIf y23
 (ob x9 fun a24 =>
 cv false C a24 [] h20 fun y25 h25 =>
 r (some (.bool false)) h25)
 (ob (bin Tryz.prog .add 3 y21 (.int .i64 1)) fun y26 =>
 ob (semNil y9) fun y27 =>
 ob (st 1 y27 y26 h20) fun h28 =>
 ob x8 fun a29 =>
 ob (ld1 a29 h28) fun y30 =>
 b2 (ybs Tryz.prog 380 1 [0] [y9] h28) fun y31 h31 =>
 b2 (ybl Tryz.prog .append #[380, 380] [y30, y31] h31) fun y32 h32 =>
 ob x8 fun a33 =>
 ob (st 1 a33 y32 h32) fun h34 =>
 ob x52 fun a35 =>
 ob (bin Tryz.prog .add 3 a35 (.int .i64 1)) fun y36 =>
 n x3 x8 x9 x50 x51 (some y36) h34)))
 (e1 h)
theorem q217_37_eq (C : YC) (lf : Nat) (n : K6) (r : K1) (e1 : K0) (KE : KX) : ∀ F h, evX fx217 C lf [1, 1, 1, 1, 1, 0, 1, 0, 0] F h (fun F h => n (F 3) (F 8) (F 9) (F 50) (F 51) (F 52) h) (fun F h => r (F 6) h) (bk 1 (fun F h => e1 h) KE) = q217_37 C lf n r e1 (F 3) (F 8) (F 9) (F 50) (F 51) (F 52) h := by
  intro F h; kernel_rfl
noncomputable def l217_2 (C : YC) (lf : Nat) (r : K1) (e1 : K0) (k : O × O × O × O × O × O → HW → Rs) (s : O × O × O × O × O × O) (h : HW) : Rs :=
 q217_37 C lf (fun x3 x8 x9 x50 x51 x52 h => k (x3, x8, x9, x50, x51, x52) h) r e1 s.1 s.2.1 s.2.2.1 s.2.2.2.1 s.2.2.2.2.1 s.2.2.2.2.2 h
noncomputable def q217_45 (C : YC) (lf : Nat) (n : K6) (x1 x2 x3 x7 x8 x9 : O) (h : HW) : Rs :=
 ob x7 fun a38 =>
 ob x1 fun a39 =>
 ob x2 fun a40 =>
 bc (C (.fn 219) [a39, a40] h) fun y41 h41 =>
 b2 (ybs Tryz.prog 380 1 [0] [y41] h41) fun y42 h42 =>
 b2 (ybl Tryz.prog .append #[380, 380] [a38, y42] h42) fun y43 h43 =>
 ob (lenE Tryz.prog 380 y43) fun y44 =>
 n x3 x8 x9 (some y43) (some y44) (some (.int .i64 0)) h43
theorem q217_45_eq (C : YC) (lf : Nat) (n : K6) (KR : KF) (KE : KX) : ∀ F h, evX fx217 C lf [1, 1, 1, 1, 1, 0, 0] F h (fun F h => n (F 3) (F 8) (F 9) (F 50) (F 51) (F 52) h) KR KE = q217_45 C lf n (F 1) (F 2) (F 3) (F 7) (F 8) (F 9) h := by
  intro F h; kernel_rfl
noncomputable def q217_46 (C : YC) (lf : Nat) (n : K0) (r : K1) (x1 x2 x3 x7 x8 x9 : O) (h : HW) : Rs :=
 q217_45 C lf (fun x3 x8 x9 x50 x51 x52 h => lp (l217_2 C lf r n) lf (x3, x8, x9, x50, x51, x52) h) x1 x2 x3 x7 x8 x9 h
theorem q217_46_eq (C : YC) (lf : Nat) (n : K0) (r : K1) (KE : KX) : ∀ F h, evX fx217 C lf [1, 1, 1, 1, 1, 0] F h (fun F h => n h) (fun F h => r (F 6) h) KE = q217_46 C lf n r (F 1) (F 2) (F 3) (F 7) (F 8) (F 9) h := cSeq (a := subX fx217 [1, 1, 1, 1, 1, 0, 0]) (b := subX fx217 [1, 1, 1, 1, 1, 0, 1]) (by kernel_rfl) (B := (fun F h => lp (l217_2 C lf r n) lf ((F 3), (F 8), (F 9), (F 50), (F 51), (F 52)) h)) (cBlock (id := 1) (a := subX fx217 [1, 1, 1, 1, 1, 0, 1, 0]) (by kernel_rfl) (cLoop (a := subX fx217 [1, 1, 1, 1, 1, 0, 1, 0, 0]) (g := fun F => (F 3, F 8, F 9, F 50, F 51, F 52)) (body := l217_2 C lf r n) (by kernel_rfl) (fun k => (q217_37_eq C lf (fun x3 x8 x9 x50 x51 x52 h => k (x3, x8, x9, x50, x51, x52) h) r n KE)))) (q217_45_eq C lf (fun x3 x8 x9 x50 x51 x52 h => lp (l217_2 C lf r n) lf (x3, x8, x9, x50, x51, x52) h) (fun F h => r (F 6) h) KE)
noncomputable def q217_47 (C : YC) (lf : Nat) (r : K1) (x1 x2 x3 x7 x8 x9 : O) (h : HW) : Rs :=
 q217_46 C lf (fun h => q217_1 C lf r h) r x1 x2 x3 x7 x8 x9 h
theorem q217_47_eq (C : YC) (lf : Nat) (r : K1) (KN : KF) (KE : KX) : ∀ F h, evX fx217 C lf [1, 1, 1, 1, 1] F h KN (fun F h => r (F 6) h) KE = q217_47 C lf r (F 1) (F 2) (F 3) (F 7) (F 8) (F 9) h := cSeq (a := subX fx217 [1, 1, 1, 1, 1, 0]) (b := subX fx217 [1, 1, 1, 1, 1, 1]) (by kernel_rfl) (B := (fun F h => q217_1 C lf r h)) (q217_1_eq C lf r KN KE) (q217_46_eq C lf (fun h => q217_1 C lf r h) r KE)
noncomputable def q217_50 (C : YC) (lf : Nat) (n : K6) (x1 x2 x3 x7 x8 : O) (h : HW) : Rs :=
 ob x8 fun a48 =>
 ob x3 fun a49 =>
 n x1 x2 x3 x7 x8 (some (.fn (.func 282) [] [a48, a49])) h
theorem q217_50_eq (C : YC) (lf : Nat) (n : K6) (KR : KF) (KE : KX) : ∀ F h, evX fx217 C lf [1, 1, 1, 1, 0] F h (fun F h => n (F 1) (F 2) (F 3) (F 7) (F 8) (F 9) h) KR KE = q217_50 C lf n (F 1) (F 2) (F 3) (F 7) (F 8) h := by
  intro F h; kernel_rfl
noncomputable def q217_51 (C : YC) (lf : Nat) (r : K1) (x1 x2 x3 x7 x8 : O) (h : HW) : Rs :=
 q217_50 C lf (fun x1 x2 x3 x7 x8 x9 h => q217_47 C lf r x1 x2 x3 x7 x8 x9 h) x1 x2 x3 x7 x8 h
theorem q217_51_eq (C : YC) (lf : Nat) (r : K1) (KN : KF) (KE : KX) : ∀ F h, evX fx217 C lf [1, 1, 1, 1] F h KN (fun F h => r (F 6) h) KE = q217_51 C lf r (F 1) (F 2) (F 3) (F 7) (F 8) h := cSeq (a := subX fx217 [1, 1, 1, 1, 0]) (b := subX fx217 [1, 1, 1, 1, 1]) (by kernel_rfl) (B := (fun F h => q217_47 C lf r (F 1) (F 2) (F 3) (F 7) (F 8) (F 9) h)) (q217_47_eq C lf r KN KE) (q217_50_eq C lf (fun x1 x2 x3 x7 x8 x9 h => q217_47 C lf r x1 x2 x3 x7 x8 x9 h) (fun F h => r (F 6) h) KE)
noncomputable def q217_53 (C : YC) (lf : Nat) (n : K5) (x1 x2 x3 x7 : O) (h : HW) : Rs :=
 b2 (yAl Tryz.prog 380 h) fun y52 h52 =>
 n x1 x2 x3 x7 (some y52) h52
theorem q217_53_eq (C : YC) (lf : Nat) (n : K5) (KR : KF) (KE : KX) : ∀ F h, evX fx217 C lf [1, 1, 1, 0] F h (fun F h => n (F 1) (F 2) (F 3) (F 7) (F 8) h) KR KE = q217_53 C lf n (F 1) (F 2) (F 3) (F 7) h := by
  intro F h; kernel_rfl
noncomputable def q217_54 (C : YC) (lf : Nat) (r : K1) (x1 x2 x3 x7 : O) (h : HW) : Rs :=
 q217_53 C lf (fun x1 x2 x3 x7 x8 h => q217_51 C lf r x1 x2 x3 x7 x8 h) x1 x2 x3 x7 h
theorem q217_54_eq (C : YC) (lf : Nat) (r : K1) (KN : KF) (KE : KX) : ∀ F h, evX fx217 C lf [1, 1, 1] F h KN (fun F h => r (F 6) h) KE = q217_54 C lf r (F 1) (F 2) (F 3) (F 7) h := cSeq (a := subX fx217 [1, 1, 1, 0]) (b := subX fx217 [1, 1, 1, 1]) (by kernel_rfl) (B := (fun F h => q217_51 C lf r (F 1) (F 2) (F 3) (F 7) (F 8) h)) (q217_51_eq C lf r KN KE) (q217_53_eq C lf (fun x1 x2 x3 x7 x8 h => q217_51 C lf r x1 x2 x3 x7 x8 h) (fun F h => r (F 6) h) KE)
noncomputable def q217_82 (C : YC) (lf : Nat) (n : K4) (r : K1) (x1 x2 x3 x7 : O) (h : HW) : Rs :=
 ob x1 fun a55 =>
 ob x2 fun a56 =>
 bc (C (.fn 219) [a55, a56] h) fun y57 h57 =>
 ob (semNil y57) fun y58 =>
 ob (ld1 y58 h57) fun y59 =>
 ob (bin Tryz.prog .gtr 3 y59 (.int .i64 0)) fun y60 =>
 yIf y60
 (r (some (.bool true)) h57)
 (ob x2 fun a61 =>
 ob (bin Tryz.prog .geq 3 a61 (.int .i64 22)) fun y62 =>
 yIf y62
 (ob x1 fun a63 =>
 ob (semNil a63) fun y64 =>
 ob (fa 35 y64) fun y65 =>
 ob x1 fun a66 =>
 ob x2 fun a67 =>
 ob (bin Tryz.prog .sub 3 a67 (.int .i64 22)) fun y68 =>
 ob (bin Tryz.prog .quo 3 y68 (.int .i64 16)) fun y69 =>
 ob (semNil a66) fun y70 =>
 ob (fa 36 y70) fun y71 =>
 ob (ixA 16 17 y71 y69) fun y72 =>
 ob (fa 0 y72) fun y73 =>
 b2 (ybs Tryz.prog 380 2 [0, 1] [y65, y73] h57) fun y74 h74 =>
 n x1 x2 x3 (some y74) h74)
 (ob x2 fun a75 =>
 ob (bin Tryz.prog .geq 3 a75 (.int .i64 6)) fun y76 =>
 yIf y76
 (ob x1 fun a77 =>
 ob (semNil a77) fun y78 =>
 ob (fa 18 y78) fun y79 =>
 ob (fa 0 y79) fun y80 =>
 b2 (ybs Tryz.prog 380 1 [0] [y80] h57) fun y81 h81 =>
 n x1 x2 x3 (some y81) h81)
 (n x1 x2 x3 x7 h57)))
theorem q217_82_eq (C : YC) (lf : Nat) (n : K4) (r : K1) (KE : KX) : ∀ F h, evX fx217 C lf [1, 1, 0] F h (fun F h => n (F 1) (F 2) (F 3) (F 7) h) (fun F h => r (F 6) h) KE = q217_82 C lf n r (F 1) (F 2) (F 3) (F 7) h := by
  intro F h; kernel_rfl
noncomputable def q217_83 (C : YC) (lf : Nat) (r : K1) (x1 x2 x3 x7 : O) (h : HW) : Rs :=
 q217_82 C lf (fun x1 x2 x3 x7 h => q217_54 C lf r x1 x2 x3 x7 h) r x1 x2 x3 x7 h
theorem q217_83_eq (C : YC) (lf : Nat) (r : K1) (KN : KF) (KE : KX) : ∀ F h, evX fx217 C lf [1, 1] F h KN (fun F h => r (F 6) h) KE = q217_83 C lf r (F 1) (F 2) (F 3) (F 7) h := cSeq (a := subX fx217 [1, 1, 0]) (b := subX fx217 [1, 1, 1]) (by kernel_rfl) (B := (fun F h => q217_54 C lf r (F 1) (F 2) (F 3) (F 7) h)) (q217_54_eq C lf r KN KE) (q217_82_eq C lf (fun x1 x2 x3 x7 h => q217_54 C lf r x1 x2 x3 x7 h) r KE)
noncomputable def q217_84 (C : YC) (lf : Nat) (n : K4) (x1 x2 x3 : O) (h : HW) : Rs :=
 n x1 x2 x3 (some (.val (.slice none 0 0))) h
theorem q217_84_eq (C : YC) (lf : Nat) (n : K4) (KR : KF) (KE : KX) : ∀ F h, evX fx217 C lf [1, 0] F h (fun F h => n (F 1) (F 2) (F 3) (F 7) h) KR KE = q217_84 C lf n (F 1) (F 2) (F 3) h := by
  intro F h; kernel_rfl
noncomputable def q217_85 (C : YC) (lf : Nat) (r : K1) (x1 x2 x3 : O) (h : HW) : Rs :=
 q217_84 C lf (fun x1 x2 x3 x7 h => q217_83 C lf r x1 x2 x3 x7 h) x1 x2 x3 h
theorem q217_85_eq (C : YC) (lf : Nat) (r : K1) (KN : KF) (KE : KX) : ∀ F h, evX fx217 C lf [1] F h KN (fun F h => r (F 6) h) KE = q217_85 C lf r (F 1) (F 2) (F 3) h := cSeq (a := subX fx217 [1, 0]) (b := subX fx217 [1, 1]) (by kernel_rfl) (B := (fun F h => q217_83 C lf r (F 1) (F 2) (F 3) (F 7) h)) (q217_83_eq C lf r KN KE) (q217_84_eq C lf (fun x1 x2 x3 x7 h => q217_83 C lf r x1 x2 x3 x7 h) (fun F h => r (F 6) h) KE)
noncomputable def q217_88 (C : YC) (lf : Nat) (n : K3) (x0 x1 x2 : O) (h : HW) : Rs :=
 ob x0 fun a86 =>
 b2 (ybx 213 a86 h) fun y87 h87 =>
 n x1 x2 (some y87) h87
theorem q217_88_eq (C : YC) (lf : Nat) (n : K3) (KR : KF) (KE : KX) : ∀ F h, evX fx217 C lf [0] F h (fun F h => n (F 1) (F 2) (F 3) h) KR KE = q217_88 C lf n (F 0) (F 1) (F 2) h := by
  intro F h; kernel_rfl
noncomputable def q217_89 (C : YC) (lf : Nat) (r : K1) (x0 x1 x2 : O) (h : HW) : Rs :=
 q217_88 C lf (fun x1 x2 x3 h => q217_85 C lf r x1 x2 x3 h) x0 x1 x2 h
theorem q217_89_eq (C : YC) (lf : Nat) (r : K1) (KN : KF) (KE : KX) : ∀ F h, evX fx217 C lf [] F h KN (fun F h => r (F 6) h) KE = q217_89 C lf r (F 0) (F 1) (F 2) h := cSeq (a := subX fx217 [0]) (b := subX fx217 [1]) (by kernel_rfl) (B := (fun F h => q217_85 C lf r (F 1) (F 2) (F 3) h)) (q217_85_eq C lf r KN KE) (q217_88_eq C lf (fun x1 x2 x3 h => q217_85 C lf r x1 x2 x3 h) (fun F h => r (F 6) h) KE)
noncomputable def fs217 (C : YC) (lf : Nat) (a0 a1 a2 : SV) (h : HW) : Rs := q217_89 C lf ff217 (some a0) (some a1) (some a2) h
theorem fs217_eq (C : YC) (lf : Nat) (a0 a1 a2 : SV) (h : HW) : yFn Tryz.prog fx217 C lf [a0, a1, a2] h = fs217 C lf a0 a1 a2 h := fnX (K := (fun F h => ff217 (F 6) h)) (by kernel_rfl) (((q217_89_eq C lf ff217 (fun F h => ff217 (F 6) h) (fun _ _ _ => none)) _ h).trans (by kernel_rfl))
noncomputable def fy217 : YX Tryz.prog := Y3 fx217 fs217 fs217_eq (by kernel_rfl)

/-! FN 218 (*tinsel/blocks.Store).Write -/
noncomputable def fx218 : XF Tryz.prog := ⟨218, Tryz.f218, fun _ => .text, Tryz.func218, by kernel_rfl, by kernel_rfl, by kernel_rfl, by kernel_rfl⟩
noncomputable def ff218 (x8 : O) (h : HW) : Rs :=
 ob x8 fun a0 =>
 some (.ret a0, h)
noncomputable def q218_39 (C : YC) (lf : Nat) (r : K1) (x0 x1 x2 x3 : O) (h : HW) : Rs :=
 ob x0 fun a1 =>
 bc (C (.fn 285) [a1] h) fun y2 h2 =>
 ob (unE .not y2) fun y3 =>
 yIf y3
 (r (some (.int .i64 14)) h2)
 (ob x0 fun a4 =>
 ob x1 fun a5 =>
 bc (C (.fn 286) [a4, a5] h2) fun y6 h6 =>
 ob (unE .not y6) fun y7 =>
 bc (gd false (some y7) (ob x2 fun a8 =>
 some (.ret a8, h6)) h6) fun y9 h9 =>
 bc (gd false (some y7) (ob (bin Tryz.prog .lss 3 y9 (.int .i64 0)) fun y10 =>
 some (.ret y10, h9)) h9) fun y11 h11 =>
 ob (ypk y7 (.bool true) y11) fun y12 =>
 bc (gd false (some y12) (ob x2 fun a13 =>
 some (.ret a13, h11)) h11) fun y14 h14 =>
 bc (gd false (some y12) (ob (bin Tryz.prog .gtr 3 y14 (.int .i64 64)) fun y15 =>
 some (.ret y15, h14)) h14) fun y16 h16 =>
 ob (ypk y12 (.bool true) y16) fun y17 =>
 bc (gd false (some y17) (ob x3 fun a18 =>
 some (.ret a18, h16)) h16) fun y19 h19 =>
 bc (gd false (some y17) (ob (lenE Tryz.prog 31 y19) fun y20 =>
 some (.ret y20, h19)) h19) fun y21 h21 =>
 bc (gd false (some y17) (ob x2 fun a22 =>
 some (.ret a22, h21)) h21) fun y23 h23 =>
 bc (gd false (some y17) (ob (bin Tryz.prog .sub 3 (.int .i64 64) y23) fun y24 =>
 some (.ret y24, h23)) h23) fun y25 h25 =>
 bc (gd false (some y17) (ob (bin Tryz.prog .gtr 3 y21 y25) fun y26 =>
 some (.ret y26, h25)) h25) fun y27 h27 =>
 ob (ypk y17 (.bool true) y27) fun y28 =>
 yIf y28
 (r (some (.int .i64 22)) h27)
 (ob x0 fun a29 =>
 ob (semNil a29) fun y30 =>
 ob (fa 65 y30) fun y31 =>
 ob (ld1 y31 h27) fun y32 =>
 ob x1 fun a33 =>
 ob (ixS 64 y32 a33) fun y34 =>
 ob x2 fun a35 =>
 ob (semSlice Tryz.prog 182 y34 (some a35) none) fun y36 =>
 ob x3 fun a37 =>
 b2 (ybl Tryz.prog .copy #[31, 31] [y36, a37] h27) fun y38 h38 =>
 r (some (.int .i64 0)) h38))
theorem q218_39_eq (C : YC) (lf : Nat) (r : K1) (KN : KF) (KE : KX) : ∀ F h, evX fx218 C lf [] F h KN (fun F h => r (F 8) h) KE = q218_39 C lf r (F 0) (F 1) (F 2) (F 3) h := by
  intro F h; kernel_rfl
noncomputable def fs218 (C : YC) (lf : Nat) (a0 a1 a2 a3 : SV) (h : HW) : Rs := q218_39 C lf ff218 (some a0) (some a1) (some a2) (some a3) h
theorem fs218_eq (C : YC) (lf : Nat) (a0 a1 a2 a3 : SV) (h : HW) : yFn Tryz.prog fx218 C lf [a0, a1, a2, a3] h = fs218 C lf a0 a1 a2 a3 h := fnX (K := (fun F h => ff218 (F 8) h)) (by kernel_rfl) (((q218_39_eq C lf ff218 (fun F h => ff218 (F 8) h) (fun _ _ _ => none)) _ h).trans (by kernel_rfl))
noncomputable def fy218 : YX Tryz.prog := Y4 fx218 fs218 fs218_eq (by kernel_rfl)

/-! FN 219 (*tinsel/inode.node).place -/
noncomputable def fx219 : XF Tryz.prog := ⟨219, Tryz.f219, fun _ => .text, Tryz.func219, by kernel_rfl, by kernel_rfl, by kernel_rfl, by kernel_rfl⟩
noncomputable def ff219 (x4 : O) (h : HW) : Rs :=
 ob x4 fun a0 =>
 some (.ret a0, h)
noncomputable def q219_27 (C : YC) (lf : Nat) (r : K1) (x0 x1 : O) (h : HW) : Rs :=
 ob x1 fun a1 =>
 ob (bin Tryz.prog .lss 3 a1 (.int .i64 6)) fun y2 =>
 yIf y2
 (ob x0 fun a3 =>
 ob x1 fun a4 =>
 ob (semNil a3) fun y5 =>
 ob (fa 12 y5) fun y6 =>
 ob (ixA 6 1 y6 a4) fun y7 =>
 r (some y7) h)
 (ob x1 fun a8 =>
 ob (bin Tryz.prog .lss 3 a8 (.int .i64 22)) fun y9 =>
 yIf y9
 (ob x0 fun a10 =>
 ob x1 fun a11 =>
 ob (bin Tryz.prog .sub 3 a11 (.int .i64 6)) fun y12 =>
 ob (semNil a10) fun y13 =>
 ob (fa 18 y13) fun y14 =>
 ob (fa 1 y14) fun y15 =>
 ob (ixA 16 1 y15 y12) fun y16 =>
 r (some y16) h)
 (ob x1 fun a17 =>
 ob (bin Tryz.prog .sub 3 a17 (.int .i64 22)) fun y18 =>
 ob x0 fun a19 =>
 ob (bin Tryz.prog .quo 3 y18 (.int .i64 16)) fun y20 =>
 ob (bin Tryz.prog .rem 3 y18 (.int .i64 16)) fun y21 =>
 ob (semNil a19) fun y22 =>
 ob (fa 36 y22) fun y23 =>
 ob (ixA 16 17 y23 y20) fun y24 =>
 ob (fa 1 y24) fun y25 =>
 ob (ixA 16 1 y25 y21) fun y26 =>
 r (some y26) h))
theorem q219_27_eq (C : YC) (lf : Nat) (r : K1) (KN : KF) (KE : KX) : ∀ F h, evX fx219 C lf [] F h KN (fun F h => r (F 4) h) KE = q219_27 C lf r (F 0) (F 1) h := by
  intro F h; kernel_rfl
noncomputable def fs219 (C : YC) (lf : Nat) (a0 a1 : SV) (h : HW) : Rs := q219_27 C lf ff219 (some a0) (some a1) h
theorem fs219_eq (C : YC) (lf : Nat) (a0 a1 : SV) (h : HW) : yFn Tryz.prog fx219 C lf [a0, a1] h = fs219 C lf a0 a1 h := fnX (K := (fun F h => ff219 (F 4) h)) (by kernel_rfl) (((q219_27_eq C lf ff219 (fun F h => ff219 (F 4) h) (fun _ _ _ => none)) _ h).trans (by kernel_rfl))
noncomputable def fy219 : YX Tryz.prog := Y2 fx219 fs219 fs219_eq (by kernel_rfl)

/-! FN 220 (*tinsel/inode.Table).touch -/
noncomputable def fx220 : XF Tryz.prog := ⟨220, Tryz.f220, fun _ => .text, Tryz.func220, by kernel_rfl, by kernel_rfl, by kernel_rfl, by kernel_rfl⟩
noncomputable def ff220 (h : HW) : Rs :=
 some (.ret (.tup []), h)
noncomputable def q220_18 (C : YC) (lf : Nat) (n : K0) (x0 x1 : O) (h : HW) : Rs :=
 ob x1 fun a0 =>
 ob x1 fun a1 =>
 ob x0 fun a2 =>
 ob (semNil a2) fun y3 =>
 ob (fa 2 y3) fun y4 =>
 ob (ld1 y4 h) fun y5 =>
 ob x0 fun a6 =>
 ob (semNil a6) fun y7 =>
 ob (fa 2 y7) fun y8 =>
 ob (ld1 y8 h) fun y9 =>
 ob (semNil a0) fun y10 =>
 ob (fa 1 y10) fun y11 =>
 ob (fa 8 y11) fun y12 =>
 ob (st 1 y12 y5 h) fun h13 =>
 ob (semNil a1) fun y14 =>
 ob (fa 1 y14) fun y15 =>
 ob (fa 9 y15) fun y16 =>
 ob (st 1 y16 y9 h13) fun h17 =>
 n h17
theorem q220_18_eq (C : YC) (lf : Nat) (n : K0) (KR : KF) (KE : KX) : ∀ F h, evX fx220 C lf [] F h (fun F h => n h) KR KE = q220_18 C lf n (F 0) (F 1) h := by
  intro F h; kernel_rfl
noncomputable def fs220 (C : YC) (lf : Nat) (a0 a1 : SV) (h : HW) : Rs := q220_18 C lf ff220 (some a0) (some a1) h
theorem fs220_eq (C : YC) (lf : Nat) (a0 a1 : SV) (h : HW) : yFn Tryz.prog fx220 C lf [a0, a1] h = fs220 C lf a0 a1 h := fnX (K := (fun F h => ff220 h)) (by kernel_rfl) (((q220_18_eq C lf ff220 (fun F h => ff220 h) (fun _ _ _ => none)) _ h).trans (by kernel_rfl))
noncomputable def fy220 : YX Tryz.prog := Y2 fx220 fs220 fs220_eq (by kernel_rfl)

/-! FN 221 tinsel/perm.Access -/
noncomputable def fx221 : XF Tryz.prog := ⟨221, Tryz.f221, fun _ => .text, Tryz.func221, by kernel_rfl, by kernel_rfl, by kernel_rfl, by kernel_rfl⟩
noncomputable def ff221 (x10 : O) (h : HW) : Rs :=
 ob x10 fun a0 =>
 some (.ret a0, h)
noncomputable def q221_6 (C : YC) (lf : Nat) (r : K1) (x11 x12 : O) (h : HW) : Rs :=
 ob x12 fun a1 =>
 ob x11 fun a2 =>
 ob (bin Tryz.prog .and 30 a1 a2) fun y3 =>
 ob x11 fun a4 =>
 ob (bin Tryz.prog .eql 30 y3 a4) fun y5 =>
 r (some y5) h
theorem q221_6_eq (C : YC) (lf : Nat) (r : K1) (KN : KF) (KE : KX) : ∀ F h, evX fx221 C lf [1, 1, 1, 1, 1] F h KN (fun F h => r (F 10) h) KE = q221_6 C lf r (F 11) (F 12) h := by
  intro F h; kernel_rfl
noncomputable def q221_20 (C : YC) (lf : Nat) (n : K2) (x0 x1 x2 x8 x11 x12 : O) (h : HW) : Rs :=
 ob x8 fun a7 =>
 ob (fa 0 a7) fun y8 =>
 ob (ld1 y8 h) fun y9 =>
 ob x1 fun a10 =>
 ob (bin Tryz.prog .eql 3 y9 a10) fun y11 =>
 yIf y11
 (ob x0 fun a12 =>
 ob (bin Tryz.prog .shr 30 a12 (.int .u64 6)) fun y13 =>
 n x11 (some y13) h)
 (ob x8 fun a14 =>
 ob (ldN 5 a14 h) fun y15 =>
 ob x2 fun a16 =>
 bc (C (.fn 287) [y15, a16] h) fun y17 h17 =>
 yIf y17
 (ob x0 fun a18 =>
 ob (bin Tryz.prog .shr 30 a18 (.int .u64 3)) fun y19 =>
 n x11 (some y19) h17)
 (n x11 x12 h17))
theorem q221_20_eq (C : YC) (lf : Nat) (n : K2) (KR : KF) (KE : KX) : ∀ F h, evX fx221 C lf [1, 1, 1, 1, 0] F h (fun F h => n (F 11) (F 12) h) KR KE = q221_20 C lf n (F 0) (F 1) (F 2) (F 8) (F 11) (F 12) h := by
  intro F h; kernel_rfl
noncomputable def q221_21 (C : YC) (lf : Nat) (r : K1) (x0 x1 x2 x8 x11 x12 : O) (h : HW) : Rs :=
 q221_20 C lf (fun x11 x12 h => q221_6 C lf r x11 x12 h) x0 x1 x2 x8 x11 x12 h
theorem q221_21_eq (C : YC) (lf : Nat) (r : K1) (KN : KF) (KE : KX) : ∀ F h, evX fx221 C lf [1, 1, 1, 1] F h KN (fun F h => r (F 10) h) KE = q221_21 C lf r (F 0) (F 1) (F 2) (F 8) (F 11) (F 12) h := cSeq (a := subX fx221 [1, 1, 1, 1, 0]) (b := subX fx221 [1, 1, 1, 1, 1]) (by kernel_rfl) (B := (fun F h => q221_6 C lf r (F 11) (F 12) h)) (q221_6_eq C lf r KN KE) (q221_20_eq C lf (fun x11 x12 h => q221_6 C lf r x11 x12 h) (fun F h => r (F 10) h) KE)
noncomputable def q221_23 (C : YC) (lf : Nat) (n : K6) (x0 x1 x2 x8 x11 : O) (h : HW) : Rs :=
 ob x0 fun a22 =>
 n x0 x1 x2 x8 x11 (some a22) h
theorem q221_23_eq (C : YC) (lf : Nat) (n : K6) (KR : KF) (KE : KX) : ∀ F h, evX fx221 C lf [1, 1, 1, 0] F h (fun F h => n (F 0) (F 1) (F 2) (F 8) (F 11) (F 12) h) KR KE = q221_23 C lf n (F 0) (F 1) (F 2) (F 8) (F 11) h := by
  intro F h; kernel_rfl
noncomputable def q221_24 (C : YC) (lf : Nat) (r : K1) (x0 x1 x2 x8 x11 : O) (h : HW) : Rs :=
 q221_23 C lf (fun x0 x1 x2 x8 x11 x12 h => q221_21 C lf r x0 x1 x2 x8 x11 x12 h) x0 x1 x2 x8 x11 h
theorem q221_24_eq (C : YC) (lf : Nat) (r : K1) (KN : KF) (KE : KX) : ∀ F h, evX fx221 C lf [1, 1, 1] F h KN (fun F h => r (F 10) h) KE = q221_24 C lf r (F 0) (F 1) (F 2) (F 8) (F 11) h := cSeq (a := subX fx221 [1, 1, 1, 0]) (b := subX fx221 [1, 1, 1, 1]) (by kernel_rfl) (B := (fun F h => q221_21 C lf r (F 0) (F 1) (F 2) (F 8) (F 11) (F 12) h)) (q221_21_eq C lf r KN KE) (q221_23_eq C lf (fun x0 x1 x2 x8 x11 x12 h => q221_21 C lf r x0 x1 x2 x8 x11 x12 h) (fun F h => r (F 10) h) KE)
noncomputable def q221_46 (C : YC) (lf : Nat) (n : K5) (r : K1) (x0 x1 x2 x8 x11 : O) (h : HW) : Rs :=
 ob x8 fun a25 =>
 ob (fa 0 a25) fun y26 =>
 ob (ld1 y26 h) fun y27 =>
 ob (bin Tryz.prog .eql 3 y27 (.int .i64 0)) fun y28 =>
 yIf y28
 (ob x11 fun a29 =>
 ob (bin Tryz.prog .and 30 a29 (.int .i64 1)) fun y30 =>
 ob (bin Tryz.prog .eql 30 y30 (.int .i64 0)) fun y31 =>
 bc (gd false (some y31) (ob x0 fun a32 =>
 some (.ret a32, h)) h) fun y33 h33 =>
 bc (gd false (some y31) (ob (bin Tryz.prog .and 30 y33 (.int .i64 61440)) fun y34 =>
 some (.ret y34, h33)) h33) fun y35 h35 =>
 bc (gd false (some y31) (ob (bin Tryz.prog .eql 30 y35 (.int .i64 16384)) fun y36 =>
 some (.ret y36, h35)) h35) fun y37 h37 =>
 ob (ypk y31 (.bool true) y37) fun y38 =>
 bc (gd false (some y38) (ob x0 fun a39 =>
 some (.ret a39, h37)) h37) fun y40 h40 =>
 bc (gd false (some y38) (ob (bin Tryz.prog .and 30 y40 (.int .i64 73)) fun y41 =>
 some (.ret y41, h40)) h40) fun y42 h42 =>
 bc (gd false (some y38) (ob (bin Tryz.prog .neq 30 y42 (.int .i64 0)) fun y43 =>
 some (.ret y43, h42)) h42) fun y44 h44 =>
 ob (ypk y38 (.bool true) y44) fun y45 =>
 r (some y45) h44)
 (n x0 x1 x2 x8 x11 h)
theorem q221_46_eq (C : YC) (lf : Nat) (n : K5) (r : K1) (KE : KX) : ∀ F h, evX fx221 C lf [1, 1, 0] F h (fun F h => n (F 0) (F 1) (F 2) (F 8) (F 11) h) (fun F h => r (F 10) h) KE = q221_46 C lf n r (F 0) (F 1) (F 2) (F 8) (F 11) h := by
  intro F h; kernel_rfl
noncomputable def q221_47 (C : YC) (lf : Nat) (r : K1) (x0 x1 x2 x8 x11 : O) (h : HW) : Rs :=
 q221_46 C lf (fun x0 x1 x2 x8 x11 h => q221_24 C lf r x0 x1 x2 x8 x11 h) r x0 x1 x2 x8 x11 h
theorem q221_47_eq (C : YC) (lf : Nat) (r : K1) (KN : KF) (KE : KX) : ∀ F h, evX fx221 C lf [1, 1] F h KN (fun F h => r (F 10) h) KE = q221_47 C lf r (F 0) (F 1) (F 2) (F 8) (F 11) h := cSeq (a := subX fx221 [1, 1, 0]) (b := subX fx221 [1, 1, 1]) (by kernel_rfl) (B := (fun F h => q221_24 C lf r (F 0) (F 1) (F 2) (F 8) (F 11) h)) (q221_24_eq C lf r KN KE) (q221_46_eq C lf (fun x0 x1 x2 x8 x11 h => q221_24 C lf r x0 x1 x2 x8 x11 h) r KE)
noncomputable def q221_50 (C : YC) (lf : Nat) (n : K5) (x0 x1 x2 x4 x8 : O) (h : HW) : Rs :=
 ob x4 fun a48 =>
 ob (bin Tryz.prog .and 3 a48 (.int .i64 7)) fun y49 =>
 n x0 x1 x2 x8 (some y49) h
theorem q221_50_eq (C : YC) (lf : Nat) (n : K5) (KR : KF) (KE : KX) : ∀ F h, evX fx221 C lf [1, 0] F h (fun F h => n (F 0) (F 1) (F 2) (F 8) (F 11) h) KR KE = q221_50 C lf n (F 0) (F 1) (F 2) (F 4) (F 8) h := by
  intro F h; kernel_rfl
noncomputable def q221_51 (C : YC) (lf : Nat) (r : K1) (x0 x1 x2 x4 x8 : O) (h : HW) : Rs :=
 q221_50 C lf (fun x0 x1 x2 x8 x11 h => q221_47 C lf r x0 x1 x2 x8 x11 h) x0 x1 x2 x4 x8 h
theorem q221_51_eq (C : YC) (lf : Nat) (r : K1) (KN : KF) (KE : KX) : ∀ F h, evX fx221 C lf [1] F h KN (fun F h => r (F 10) h) KE = q221_51 C lf r (F 0) (F 1) (F 2) (F 4) (F 8) h := cSeq (a := subX fx221 [1, 0]) (b := subX fx221 [1, 1]) (by kernel_rfl) (B := (fun F h => q221_47 C lf r (F 0) (F 1) (F 2) (F 8) (F 11) h)) (q221_47_eq C lf r KN KE) (q221_50_eq C lf (fun x0 x1 x2 x8 x11 h => q221_47 C lf r x0 x1 x2 x8 x11 h) (fun F h => r (F 10) h) KE)
noncomputable def q221_54 (C : YC) (lf : Nat) (n : K5) (x0 x1 x2 x3 x4 : O) (h : HW) : Rs :=
 ob x3 fun a52 =>
 b2 (ybx 46 a52 h) fun y53 h53 =>
 n x0 x1 x2 x4 (some y53) h53
theorem q221_54_eq (C : YC) (lf : Nat) (n : K5) (KR : KF) (KE : KX) : ∀ F h, evX fx221 C lf [0] F h (fun F h => n (F 0) (F 1) (F 2) (F 4) (F 8) h) KR KE = q221_54 C lf n (F 0) (F 1) (F 2) (F 3) (F 4) h := by
  intro F h; kernel_rfl
noncomputable def q221_55 (C : YC) (lf : Nat) (r : K1) (x0 x1 x2 x3 x4 : O) (h : HW) : Rs :=
 q221_54 C lf (fun x0 x1 x2 x4 x8 h => q221_51 C lf r x0 x1 x2 x4 x8 h) x0 x1 x2 x3 x4 h
theorem q221_55_eq (C : YC) (lf : Nat) (r : K1) (KN : KF) (KE : KX) : ∀ F h, evX fx221 C lf [] F h KN (fun F h => r (F 10) h) KE = q221_55 C lf r (F 0) (F 1) (F 2) (F 3) (F 4) h := cSeq (a := subX fx221 [0]) (b := subX fx221 [1]) (by kernel_rfl) (B := (fun F h => q221_51 C lf r (F 0) (F 1) (F 2) (F 4) (F 8) h)) (q221_51_eq C lf r KN KE) (q221_54_eq C lf (fun x0 x1 x2 x4 x8 h => q221_51 C lf r x0 x1 x2 x4 x8 h) (fun F h => r (F 10) h) KE)
noncomputable def fs221 (C : YC) (lf : Nat) (a0 a1 a2 a3 a4 : SV) (h : HW) : Rs := q221_55 C lf ff221 (some a0) (some a1) (some a2) (some a3) (some a4) h
theorem fs221_eq (C : YC) (lf : Nat) (a0 a1 a2 a3 a4 : SV) (h : HW) : yFn Tryz.prog fx221 C lf [a0, a1, a2, a3, a4] h = fs221 C lf a0 a1 a2 a3 a4 h := fnX (K := (fun F h => ff221 (F 10) h)) (by kernel_rfl) (((q221_55_eq C lf ff221 (fun F h => ff221 (F 10) h) (fun _ _ _ => none)) _ h).trans (by kernel_rfl))
noncomputable def fy221 : YX Tryz.prog := Y5 fx221 fs221 fs221_eq (by kernel_rfl)

/-! FN 247 tinsel/dir.begin -/
noncomputable def fx247 : XF Tryz.prog := ⟨247, Tryz.f247, fun _ => .text, Tryz.func247, by kernel_rfl, by kernel_rfl, by kernel_rfl, by kernel_rfl⟩
noncomputable def ff247 (x6 : O) (h : HW) : Rs :=
 ob x6 fun a0 =>
 some (.ret a0, h)
noncomputable def q247_7 (C : YC) (lf : Nat) (r : K1) (x0 x1 x2 : O) (h : HW) : Rs :=
 ob x0 fun a1 =>
 ob x1 fun a2 =>
 bc (C (.fn 203) [a1, a2] h) fun y3 h3 =>
 ob (bin Tryz.prog .neq 23 y3 (.int .i64 0)) fun y4 =>
 yIf y4
 (r (some y3) h3)
 (ob x2 fun a5 =>
 bc (C (.fn 315) [a5] h3) fun y6 h6 =>
 r (some y6) h6)
theorem q247_7_eq (C : YC) (lf : Nat) (r : K1) (KN : KF) (KE : KX) : ∀ F h, evX fx247 C lf [] F h KN (fun F h => r (F 6) h) KE = q247_7 C lf r (F 0) (F 1) (F 2) h := by
  intro F h; kernel_rfl
noncomputable def fs247 (C : YC) (lf : Nat) (a0 a1 a2 : SV) (h : HW) : Rs := q247_7 C lf ff247 (some a0) (some a1) (some a2) h
theorem fs247_eq (C : YC) (lf : Nat) (a0 a1 a2 : SV) (h : HW) : yFn Tryz.prog fx247 C lf [a0, a1, a2] h = fs247 C lf a0 a1 a2 h := fnX (K := (fun F h => ff247 (F 6) h)) (by kernel_rfl) (((q247_7_eq C lf ff247 (fun F h => ff247 (F 6) h) (fun _ _ _ => none)) _ h).trans (by kernel_rfl))
noncomputable def fy247 : YX Tryz.prog := Y3 fx247 fs247 fs247_eq (by kernel_rfl)

/-! FN 248 tinsel/dir.slots -/
noncomputable def fx248 : XF Tryz.prog := ⟨248, Tryz.f248, fun _ => .text, Tryz.func248, by kernel_rfl, by kernel_rfl, by kernel_rfl, by kernel_rfl⟩
noncomputable def ff248 (x4 : O) (h : HW) : Rs :=
 ob x4 fun a0 =>
 some (.ret a0, h)
noncomputable def q248_2 (C : YC) (lf : Nat) (r : K1) (x7 : O) (h : HW) : Rs :=
 ob x7 fun a1 =>
 r (some a1) h
theorem q248_2_eq (C : YC) (lf : Nat) (r : K1) (KN : KF) (KE : KX) : ∀ F h, evX fx248 C lf [1, 1, 1, 1] F h KN (fun F h => r (F 4) h) KE = q248_2 C lf r (F 7) h := by
  intro F h; kernel_rfl
noncomputable def q248_16 (C : YC) (lf : Nat) (n : K2) (e0 : K1) (x5 x7 : O) (h : HW) : Rs :=
 ob x5 fun a4 =>
 ob (lenE Tryz.prog 31 a4) fun y5 =>
 ob (bin Tryz.prog .geq 3 y5 (.int .i64 32)) fun y6 =>
 yIf y6
 (ob x7 fun a7 =>
 ob x5 fun a8 =>
 ob (semSlice Tryz.prog 31 a8 none (some (.int .i64 32))) fun y9 =>
 ob (ysa Tryz.prog 292 y9) fun y10 =>
 ob (ldN 32 y10 h) fun y11 =>
 b2 (ybs Tryz.prog 335 1 [0] [y11] h) fun y12 h12 =>
 b2 (ybl Tryz.prog .append #[335, 335] [a7, y12] h12) fun y13 h13 =>
 ob x5 fun a14 =>
 ob (semSlice Tryz.prog 31 a14 (some (.int .i64 32)) none) fun y15 =>
 n (some y15) (some y13) h13)
 (e0 x7 h)
theorem q248_16_eq (C : YC) (lf : Nat) (n : K2) (e0 : K1) (KR : KF) (KE : KX) : ∀ F h, evX fx248 C lf [1, 1, 1, 0, 0, 0] F h (fun F h => n (F 5) (F 7) h) KR (bk 0 (fun F h => e0 (F 7) h) KE) = q248_16 C lf n e0 (F 5) (F 7) h := by
  intro F h; kernel_rfl
noncomputable def l248_3 (C : YC) (lf : Nat) (e0 : K1) (k : O × O → HW → Rs) (s : O × O) (h : HW) : Rs :=
 q248_16 C lf (fun x5 x7 h => k (x5, x7) h) e0 s.1 s.2 h
noncomputable def q248_17 (C : YC) (lf : Nat) (r : K1) (x5 x7 : O) (h : HW) : Rs :=
 lp (l248_3 C lf (fun x7 h => q248_2 C lf r x7 h)) lf (x5, x7) h
theorem q248_17_eq (C : YC) (lf : Nat) (r : K1) (KN : KF) (KE : KX) : ∀ F h, evX fx248 C lf [1, 1, 1] F h KN (fun F h => r (F 4) h) KE = q248_17 C lf r (F 5) (F 7) h := cSeq (a := subX fx248 [1, 1, 1, 0]) (b := subX fx248 [1, 1, 1, 1]) (by kernel_rfl) (B := (fun F h => q248_2 C lf r (F 7) h)) (q248_2_eq C lf r KN KE) (cBlock (id := 0) (a := subX fx248 [1, 1, 1, 0, 0]) (by kernel_rfl) (cLoop (a := subX fx248 [1, 1, 1, 0, 0, 0]) (g := fun F => (F 5, F 7)) (body := l248_3 C lf (fun x7 h => q248_2 C lf r x7 h)) (by kernel_rfl) (fun k => (q248_16_eq C lf (fun x5 x7 h => k (x5, x7) h) (fun x7 h => q248_2 C lf r x7 h) (fun F h => r (F 4) h) KE))))
noncomputable def q248_18 (C : YC) (lf : Nat) (n : K2) (x5 : O) (h : HW) : Rs :=
 n x5 (some (.val (.slice none 0 0))) h
theorem q248_18_eq (C : YC) (lf : Nat) (n : K2) (KR : KF) (KE : KX) : ∀ F h, evX fx248 C lf [1, 1, 0] F h (fun F h => n (F 5) (F 7) h) KR KE = q248_18 C lf n (F 5) h := by
  intro F h; kernel_rfl
noncomputable def q248_19 (C : YC) (lf : Nat) (r : K1) (x5 : O) (h : HW) : Rs :=
 q248_18 C lf (fun x5 x7 h => q248_17 C lf r x5 x7 h) x5 h
theorem q248_19_eq (C : YC) (lf : Nat) (r : K1) (KN : KF) (KE : KX) : ∀ F h, evX fx248 C lf [1, 1] F h KN (fun F h => r (F 4) h) KE = q248_19 C lf r (F 5) h := cSeq (a := subX fx248 [1, 1, 0]) (b := subX fx248 [1, 1, 1]) (by kernel_rfl) (B := (fun F h => q248_17 C lf r (F 5) (F 7) h)) (q248_17_eq C lf r KN KE) (q248_18_eq C lf (fun x5 x7 h => q248_17 C lf r x5 x7 h) (fun F h => r (F 4) h) KE)
noncomputable def q248_25 (C : YC) (lf : Nat) (n : K1) (x0 x1 : O) (h : HW) : Rs :=
 ob x0 fun a20 =>
 ob x1 fun a21 =>
 bc (C (.fn 278) [a20, a21, (.int .i64 0), (.int .i64 17792)] h) fun y22 h22 =>
 ob (ext 0 y22) fun y23 =>
 ob (ext 1 y22) fun y24 =>
 n (some y23) h22
theorem q248_25_eq (C : YC) (lf : Nat) (n : K1) (KR : KF) (KE : KX) : ∀ F h, evX fx248 C lf [1, 0] F h (fun F h => n (F 5) h) KR KE = q248_25 C lf n (F 0) (F 1) h := by
  intro F h; kernel_rfl
noncomputable def q248_26 (C : YC) (lf : Nat) (r : K1) (x0 x1 : O) (h : HW) : Rs :=
 q248_25 C lf (fun x5 h => q248_19 C lf r x5 h) x0 x1 h
theorem q248_26_eq (C : YC) (lf : Nat) (r : K1) (KN : KF) (KE : KX) : ∀ F h, evX fx248 C lf [1] F h KN (fun F h => r (F 4) h) KE = q248_26 C lf r (F 0) (F 1) h := cSeq (a := subX fx248 [1, 0]) (b := subX fx248 [1, 1]) (by kernel_rfl) (B := (fun F h => q248_19 C lf r (F 5) h)) (q248_19_eq C lf r KN KE) (q248_25_eq C lf (fun x5 h => q248_19 C lf r x5 h) (fun F h => r (F 4) h) KE)
noncomputable def q248_27 (C : YC) (lf : Nat) (n : K2) (x0 x1 : O) (h : HW) : Rs :=
 n x0 x1 h
theorem q248_27_eq (C : YC) (lf : Nat) (n : K2) (KR : KF) (KE : KX) : ∀ F h, evX fx248 C lf [0] F h (fun F h => n (F 0) (F 1) h) KR KE = q248_27 C lf n (F 0) (F 1) h := by
  intro F h; kernel_rfl
noncomputable def q248_28 (C : YC) (lf : Nat) (r : K1) (x0 x1 : O) (h : HW) : Rs :=
 q248_27 C lf (fun x0 x1 h => q248_26 C lf r x0 x1 h) x0 x1 h
theorem q248_28_eq (C : YC) (lf : Nat) (r : K1) (KN : KF) (KE : KX) : ∀ F h, evX fx248 C lf [] F h KN (fun F h => r (F 4) h) KE = q248_28 C lf r (F 0) (F 1) h := cSeq (a := subX fx248 [0]) (b := subX fx248 [1]) (by kernel_rfl) (B := (fun F h => q248_26 C lf r (F 0) (F 1) h)) (q248_26_eq C lf r KN KE) (q248_27_eq C lf (fun x0 x1 h => q248_26 C lf r x0 x1 h) (fun F h => r (F 4) h) KE)
noncomputable def fs248 (C : YC) (lf : Nat) (a0 a1 : SV) (h : HW) : Rs := q248_28 C lf ff248 (some a0) (some a1) h
theorem fs248_eq (C : YC) (lf : Nat) (a0 a1 : SV) (h : HW) : yFn Tryz.prog fx248 C lf [a0, a1] h = fs248 C lf a0 a1 h := fnX (K := (fun F h => ff248 (F 4) h)) (by kernel_rfl) (((q248_28_eq C lf ff248 (fun F h => ff248 (F 4) h) (fun _ _ _ => none)) _ h).trans (by kernel_rfl))
noncomputable def fy248 : YX Tryz.prog := Y2 fx248 fs248 fs248_eq (by kernel_rfl)

/-! FN 249 tinsel/dir.place -/
noncomputable def fx249 : XF Tryz.prog := ⟨249, Tryz.f249, fun r => bif Nat.beq r 5 then .ord [0, 1, 2, 3, 4, 6, 5, 7, 8, 9] [(5, [6])] else .text, Tryz.func249, by kernel_rfl, by kernel_rfl, by kernel_rfl, by kernel_rfl⟩
noncomputable def ff249 (x4 : O) (h : HW) : Rs :=
 ob x4 fun a0 =>
 some (.ret a0, h)
noncomputable def q249_1 (C : YC) (lf : Nat) (r : K1) (h : HW) : Rs :=
 r (some (.int .i64 (-1))) h
theorem q249_1_eq (C : YC) (lf : Nat) (r : K1) (KN : KF) (KE : KX) : ∀ F h, evX fx249 C lf [1, 1, 1] F h KN (fun F h => r (F 4) h) KE = q249_1 C lf r h := by
  intro F h; kernel_rfl
noncomputable def q249_30 (C : YC) (lf : Nat) (n : K4) (r : K1) (e0 : K0) (x5 x10 x11 x12 : O) (h : HW) : Rs :=
 ob x12 fun a3 =>
 ob x11 fun a4 =>
 ob (bin Tryz.prog .lss 3 a3 a4) fun y5 =>
 yIf y5
 (ob x12 fun a6 =>
 ob x10 fun a7 =>
 ob x12 fun a8 =>
 ob (ixS 32 a7 a8) fun y9 =>
 ob (ldN 32 y9 h) fun y10 =>
 b2 (yAl Tryz.prog 292 h) fun y11 h11 =>
 ob (st 32 y11 y10 h11) fun h12 =>
 ob (ldN 32 y11 h12) fun y13 =>
 bcn (C (.fn 250) [y13] h12) fun y14 h14 =>
 ob (bin Tryz.prog .neq 3 y14 (.int .i64 0)) fun y15 =>
 bcn (gd true (some y15) (ob (ldN 32 y11 h14) fun y16 =>
 some (.ret y16, h14)) h14) fun y17 h17 =>
 bcn (gd true (some y15) (ob x5 fun a18 =>
 ob (ldN 32 a18 h17) fun y19 =>
 some (.ret y19, h17)) h17) fun y20 h20 =>
 bcn (gd true (some y15) (bcn (C (.fn 316) [y17] h20) fun y21 h21 =>
 some (.ret y21, h21)) h20) fun y22 h22 =>
 ck (chkH [(6, gdA true (some y15) (adrO x5)), (4, gdA true (some y15) (adrO (some y11))), (0, adrO (some y11))] h20 h22 [6]) <|
 bcn (gd true (some y15) (bcn (C (.fn 316) [y20] h22) fun y23 h23 =>
 some (.ret y23, h23)) h22) fun y24 h24 =>
 bcn (gd true (some y15) (ob (bin Tryz.prog .eql 9 y22 y24) fun y25 =>
 some (.ret y25, h24)) h24) fun y26 h26 =>
 ob (ypk y15 y26 (.bool false)) fun y27 =>
 yIf y27
 (r (some a6) h26)
 (ob x12 fun a28 =>
 ob (bin Tryz.prog .add 3 a28 (.int .i64 1)) fun y29 =>
 n x5 x10 x11 (some y29) h26))
 (e0 h)
theorem q249_30_eq (C : YC) (lf : Nat) (n : K4) (r : K1) (e0 : K0) (KE : KX) : ∀ F h, evX fx249 C lf [1, 1, 0, 1, 0, 0] F h (fun F h => n (F 5) (F 10) (F 11) (F 12) h) (fun F h => r (F 4) h) (bk 0 (fun F h => e0 h) KE) = q249_30 C lf n r e0 (F 5) (F 10) (F 11) (F 12) h := by
  intro F h; kernel_rfl
noncomputable def l249_2 (C : YC) (lf : Nat) (r : K1) (e0 : K0) (k : O × O × O × O → HW → Rs) (s : O × O × O × O) (h : HW) : Rs :=
 q249_30 C lf (fun x5 x10 x11 x12 h => k (x5, x10, x11, x12) h) r e0 s.1 s.2.1 s.2.2.1 s.2.2.2 h
noncomputable def q249_33 (C : YC) (lf : Nat) (n : K4) (x0 x5 : O) (h : HW) : Rs :=
 ob x0 fun a31 =>
 ob (lenE Tryz.prog 335 a31) fun y32 =>
 n x5 (some a31) (some y32) (some (.int .i64 0)) h
theorem q249_33_eq (C : YC) (lf : Nat) (n : K4) (KR : KF) (KE : KX) : ∀ F h, evX fx249 C lf [1, 1, 0, 0] F h (fun F h => n (F 5) (F 10) (F 11) (F 12) h) KR KE = q249_33 C lf n (F 0) (F 5) h := by
  intro F h; kernel_rfl
noncomputable def q249_34 (C : YC) (lf : Nat) (n : K0) (r : K1) (x0 x5 : O) (h : HW) : Rs :=
 q249_33 C lf (fun x5 x10 x11 x12 h => lp (l249_2 C lf r n) lf (x5, x10, x11, x12) h) x0 x5 h
theorem q249_34_eq (C : YC) (lf : Nat) (n : K0) (r : K1) (KE : KX) : ∀ F h, evX fx249 C lf [1, 1, 0] F h (fun F h => n h) (fun F h => r (F 4) h) KE = q249_34 C lf n r (F 0) (F 5) h := cSeq (a := subX fx249 [1, 1, 0, 0]) (b := subX fx249 [1, 1, 0, 1]) (by kernel_rfl) (B := (fun F h => lp (l249_2 C lf r n) lf ((F 5), (F 10), (F 11), (F 12)) h)) (cBlock (id := 0) (a := subX fx249 [1, 1, 0, 1, 0]) (by kernel_rfl) (cLoop (a := subX fx249 [1, 1, 0, 1, 0, 0]) (g := fun F => (F 5, F 10, F 11, F 12)) (body := l249_2 C lf r n) (by kernel_rfl) (fun k => (q249_30_eq C lf (fun x5 x10 x11 x12 h => k (x5, x10, x11, x12) h) r n KE)))) (q249_33_eq C lf (fun x5 x10 x11 x12 h => lp (l249_2 C lf r n) lf (x5, x10, x11, x12) h) (fun F h => r (F 4) h) KE)
noncomputable def q249_35 (C : YC) (lf : Nat) (r : K1) (x0 x5 : O) (h : HW) : Rs :=
 q249_34 C lf (fun h => q249_1 C lf r h) r x0 x5 h
theorem q249_35_eq (C : YC) (lf : Nat) (r : K1) (KN : KF) (KE : KX) : ∀ F h, evX fx249 C lf [1, 1] F h KN (fun F h => r (F 4) h) KE = q249_35 C lf r (F 0) (F 5) h := cSeq (a := subX fx249 [1, 1, 0]) (b := subX fx249 [1, 1, 1]) (by kernel_rfl) (B := (fun F h => q249_1 C lf r h)) (q249_1_eq C lf r KN KE) (q249_34_eq C lf (fun h => q249_1 C lf r h) r KE)
noncomputable def q249_40 (C : YC) (lf : Nat) (n : K2) (x0 x1 : O) (h : HW) : Rs :=
 ob x1 fun a36 =>
 bc (C (.fn 205) [a36, (.int .i64 0)] h) fun y37 h37 =>
 b2 (yAl Tryz.prog 292 h37) fun y38 h38 =>
 ob (st 32 y38 y37 h38) fun h39 =>
 n x0 (some y38) h39
theorem q249_40_eq (C : YC) (lf : Nat) (n : K2) (KR : KF) (KE : KX) : ∀ F h, evX fx249 C lf [1, 0] F h (fun F h => n (F 0) (F 5) h) KR KE = q249_40 C lf n (F 0) (F 1) h := by
  intro F h; kernel_rfl
noncomputable def q249_41 (C : YC) (lf : Nat) (r : K1) (x0 x1 : O) (h : HW) : Rs :=
 q249_40 C lf (fun x0 x5 h => q249_35 C lf r x0 x5 h) x0 x1 h
theorem q249_41_eq (C : YC) (lf : Nat) (r : K1) (KN : KF) (KE : KX) : ∀ F h, evX fx249 C lf [1] F h KN (fun F h => r (F 4) h) KE = q249_41 C lf r (F 0) (F 1) h := cSeq (a := subX fx249 [1, 0]) (b := subX fx249 [1, 1]) (by kernel_rfl) (B := (fun F h => q249_35 C lf r (F 0) (F 5) h)) (q249_35_eq C lf r KN KE) (q249_40_eq C lf (fun x0 x5 h => q249_35 C lf r x0 x5 h) (fun F h => r (F 4) h) KE)
noncomputable def q249_42 (C : YC) (lf : Nat) (n : K2) (x0 x1 : O) (h : HW) : Rs :=
 n x0 x1 h
theorem q249_42_eq (C : YC) (lf : Nat) (n : K2) (KR : KF) (KE : KX) : ∀ F h, evX fx249 C lf [0] F h (fun F h => n (F 0) (F 1) h) KR KE = q249_42 C lf n (F 0) (F 1) h := by
  intro F h; kernel_rfl
noncomputable def q249_43 (C : YC) (lf : Nat) (r : K1) (x0 x1 : O) (h : HW) : Rs :=
 q249_42 C lf (fun x0 x1 h => q249_41 C lf r x0 x1 h) x0 x1 h
theorem q249_43_eq (C : YC) (lf : Nat) (r : K1) (KN : KF) (KE : KX) : ∀ F h, evX fx249 C lf [] F h KN (fun F h => r (F 4) h) KE = q249_43 C lf r (F 0) (F 1) h := cSeq (a := subX fx249 [0]) (b := subX fx249 [1]) (by kernel_rfl) (B := (fun F h => q249_41 C lf r (F 0) (F 1) h)) (q249_41_eq C lf r KN KE) (q249_42_eq C lf (fun x0 x1 h => q249_41 C lf r x0 x1 h) (fun F h => r (F 4) h) KE)
noncomputable def fs249 (C : YC) (lf : Nat) (a0 a1 : SV) (h : HW) : Rs := q249_43 C lf ff249 (some a0) (some a1) h
theorem fs249_eq (C : YC) (lf : Nat) (a0 a1 : SV) (h : HW) : yFn Tryz.prog fx249 C lf [a0, a1] h = fs249 C lf a0 a1 h := fnX (K := (fun F h => ff249 (F 4) h)) (by kernel_rfl) (((q249_43_eq C lf ff249 (fun F h => ff249 (F 4) h) (fun _ _ _ => none)) _ h).trans (by kernel_rfl))
noncomputable def fy249 : YX Tryz.prog := Y2 fx249 fs249 fs249_eq (by kernel_rfl)

/-! FN 250 (tinsel/dir.slot).ino -/
noncomputable def fx250 : XF Tryz.prog := ⟨250, Tryz.f250, fun _ => .text, Tryz.func250, by kernel_rfl, by kernel_rfl, by kernel_rfl, by kernel_rfl⟩
noncomputable def ff250 (x2 : O) (h : HW) : Rs :=
 ob x2 fun a0 =>
 some (.ret a0, h)
noncomputable def q250_2 (C : YC) (lf : Nat) (r : K1) (x3 : O) (h : HW) : Rs :=
 ob x3 fun a1 =>
 r (some a1) h
theorem q250_2_eq (C : YC) (lf : Nat) (r : K1) (KN : KF) (KE : KX) : ∀ F h, evX fx250 C lf [1, 1, 1] F h KN (fun F h => r (F 2) h) KE = q250_2 C lf r (F 3) h := by
  intro F h; kernel_rfl
noncomputable def q250_17 (C : YC) (lf : Nat) (n : K3) (e0 : K1) (x1 x3 x5 : O) (h : HW) : Rs :=
 ob x5 fun a4 =>
 ob (bin Tryz.prog .lss 3 a4 (.int .i64 4)) fun y5 =>
 yIf y5
 (ob x5 fun a6 =>
 ob x3 fun a7 =>
 ob x1 fun a8 =>
 ob (ixA 32 1 a8 a6) fun y9 =>
 ob (ld1 y9 h) fun y10 =>
 ob (cvI .i64 y10) fun y11 =>
 ob (bin Tryz.prog .mul 3 (.int .i64 8) a6) fun y12 =>
 ob (bin Tryz.prog .shl 3 y11 y12) fun y13 =>
 ob (bin Tryz.prog .or 3 a7 y13) fun y14 =>
 ob x5 fun a15 =>
 ob (bin Tryz.prog .add 3 a15 (.int .i64 1)) fun y16 =>
 n x1 (some y14) (some y16) h)
 (e0 x3 h)
theorem q250_17_eq (C : YC) (lf : Nat) (n : K3) (e0 : K1) (KR : KF) (KE : KX) : ∀ F h, evX fx250 C lf [1, 1, 0, 1, 0, 0] F h (fun F h => n (F 1) (F 3) (F 5) h) KR (bk 0 (fun F h => e0 (F 3) h) KE) = q250_17 C lf n e0 (F 1) (F 3) (F 5) h := by
  intro F h; kernel_rfl
noncomputable def l250_3 (C : YC) (lf : Nat) (e0 : K1) (k : O × O × O → HW → Rs) (s : O × O × O) (h : HW) : Rs :=
 q250_17 C lf (fun x1 x3 x5 h => k (x1, x3, x5) h) e0 s.1 s.2.1 s.2.2 h
noncomputable def q250_18 (C : YC) (lf : Nat) (n : K3) (x1 x3 : O) (h : HW) : Rs :=
 n x1 x3 (some (.int .i64 0)) h
theorem q250_18_eq (C : YC) (lf : Nat) (n : K3) (KR : KF) (KE : KX) : ∀ F h, evX fx250 C lf [1, 1, 0, 0] F h (fun F h => n (F 1) (F 3) (F 5) h) KR KE = q250_18 C lf n (F 1) (F 3) h := by
  intro F h; kernel_rfl
noncomputable def q250_19 (C : YC) (lf : Nat) (n : K1) (x1 x3 : O) (h : HW) : Rs :=
 q250_18 C lf (fun x1 x3 x5 h => lp (l250_3 C lf n) lf (x1, x3, x5) h) x1 x3 h
theorem q250_19_eq (C : YC) (lf : Nat) (n : K1) (KR : KF) (KE : KX) : ∀ F h, evX fx250 C lf [1, 1, 0] F h (fun F h => n (F 3) h) KR KE = q250_19 C lf n (F 1) (F 3) h := cSeq (a := subX fx250 [1, 1, 0, 0]) (b := subX fx250 [1, 1, 0, 1]) (by kernel_rfl) (B := (fun F h => lp (l250_3 C lf n) lf ((F 1), (F 3), (F 5)) h)) (cBlock (id := 0) (a := subX fx250 [1, 1, 0, 1, 0]) (by kernel_rfl) (cLoop (a := subX fx250 [1, 1, 0, 1, 0, 0]) (g := fun F => (F 1, F 3, F 5)) (body := l250_3 C lf n) (by kernel_rfl) (fun k => (q250_17_eq C lf (fun x1 x3 x5 h => k (x1, x3, x5) h) n KR KE)))) (q250_18_eq C lf (fun x1 x3 x5 h => lp (l250_3 C lf n) lf (x1, x3, x5) h) KR KE)
noncomputable def q250_20 (C : YC) (lf : Nat) (r : K1) (x1 x3 : O) (h : HW) : Rs :=
 q250_19 C lf (fun x3 h => q250_2 C lf r x3 h) x1 x3 h
theorem q250_20_eq (C : YC) (lf : Nat) (r : K1) (KN : KF) (KE : KX) : ∀ F h, evX fx250 C lf [1, 1] F h KN (fun F h => r (F 2) h) KE = q250_20 C lf r (F 1) (F 3) h := cSeq (a := subX fx250 [1, 1, 0]) (b := subX fx250 [1, 1, 1]) (by kernel_rfl) (B := (fun F h => q250_2 C lf r (F 3) h)) (q250_2_eq C lf r KN KE) (q250_19_eq C lf (fun x3 h => q250_2 C lf r x3 h) (fun F h => r (F 2) h) KE)
noncomputable def q250_21 (C : YC) (lf : Nat) (n : K2) (x1 : O) (h : HW) : Rs :=
 n x1 (some (.int .i64 0)) h
theorem q250_21_eq (C : YC) (lf : Nat) (n : K2) (KR : KF) (KE : KX) : ∀ F h, evX fx250 C lf [1, 0] F h (fun F h => n (F 1) (F 3) h) KR KE = q250_21 C lf n (F 1) h := by
  intro F h; kernel_rfl
noncomputable def q250_22 (C : YC) (lf : Nat) (r : K1) (x1 : O) (h : HW) : Rs :=
 q250_21 C lf (fun x1 x3 h => q250_20 C lf r x1 x3 h) x1 h
theorem q250_22_eq (C : YC) (lf : Nat) (r : K1) (KN : KF) (KE : KX) : ∀ F h, evX fx250 C lf [1] F h KN (fun F h => r (F 2) h) KE = q250_22 C lf r (F 1) h := cSeq (a := subX fx250 [1, 0]) (b := subX fx250 [1, 1]) (by kernel_rfl) (B := (fun F h => q250_20 C lf r (F 1) (F 3) h)) (q250_20_eq C lf r KN KE) (q250_21_eq C lf (fun x1 x3 h => q250_20 C lf r x1 x3 h) (fun F h => r (F 2) h) KE)
noncomputable def q250_25 (C : YC) (lf : Nat) (n : K1) (x0 : O) (h : HW) : Rs :=
 ob x0 fun a23 =>
 b2 (ybx 292 a23 h) fun y24 h24 =>
 n (some y24) h24
theorem q250_25_eq (C : YC) (lf : Nat) (n : K1) (KR : KF) (KE : KX) : ∀ F h, evX fx250 C lf [0] F h (fun F h => n (F 1) h) KR KE = q250_25 C lf n (F 0) h := by
  intro F h; kernel_rfl
noncomputable def q250_26 (C : YC) (lf : Nat) (r : K1) (x0 : O) (h : HW) : Rs :=
 q250_25 C lf (fun x1 h => q250_22 C lf r x1 h) x0 h
theorem q250_26_eq (C : YC) (lf : Nat) (r : K1) (KN : KF) (KE : KX) : ∀ F h, evX fx250 C lf [] F h KN (fun F h => r (F 2) h) KE = q250_26 C lf r (F 0) h := cSeq (a := subX fx250 [0]) (b := subX fx250 [1]) (by kernel_rfl) (B := (fun F h => q250_22 C lf r (F 1) h)) (q250_22_eq C lf r KN KE) (q250_25_eq C lf (fun x1 h => q250_22 C lf r x1 h) (fun F h => r (F 2) h) KE)
noncomputable def fs250 (C : YC) (lf : Nat) (a0 : SV) (h : HW) : Rs := q250_26 C lf ff250 (some a0) h
theorem fs250_eq (C : YC) (lf : Nat) (a0 : SV) (h : HW) : yFn Tryz.prog fx250 C lf [a0] h = fs250 C lf a0 h := fnX (K := (fun F h => ff250 (F 2) h)) (by kernel_rfl) (((q250_26_eq C lf ff250 (fun F h => ff250 (F 2) h) (fun _ _ _ => none)) _ h).trans (by kernel_rfl))
noncomputable def fy250 : YX Tryz.prog := Y1 fx250 fs250 fs250_eq (by kernel_rfl)

/-! FN 256 (*tinsel/inode.node).owned -/
noncomputable def fx256 : XF Tryz.prog := ⟨256, Tryz.f256, fun _ => .text, Tryz.func256, by kernel_rfl, by kernel_rfl, by kernel_rfl, by kernel_rfl⟩
noncomputable def ff256 (x2 : O) (h : HW) : Rs :=
 ob x2 fun a0 =>
 some (.ret a0, h)
noncomputable def q256_3 (C : YC) (lf : Nat) (r : K1) (x3 : O) (h : HW) : Rs :=
 ob x3 fun a1 =>
 ob (ld1 a1 h) fun y2 =>
 r (some y2) h
theorem q256_3_eq (C : YC) (lf : Nat) (r : K1) (KN : KF) (KE : KX) : ∀ F h, evX fx256 C lf [1, 1, 1, 1, 1, 1, 1, 1] F h KN (fun F h => r (F 2) h) KE = q256_3 C lf r (F 3) h := by
  intro F h; kernel_rfl
noncomputable def q256_23 (C : YC) (lf : Nat) (n : K4) (e0 : K1) (x3 x4 x39 x40 : O) (h : HW) : Rs :=
 ob x40 fun a5 =>
 ob (bin Tryz.prog .lss 3 a5 (.int .i64 16)) fun y6 =>
 yIf y6
 (ob x39 fun a7 =>
 ob x40 fun a8 =>
 ob (semIndex Tryz.prog 287 a7 a8) fun y9 =>
 b2 (yAl Tryz.prog 286 h) fun y10 h10 =>
 ob (st 17 y10 y9 h10) fun h11 =>
 ob x4 fun a12 =>
 ob (fa 0 y10) fun y13 =>
 ob (ld1 y13 h11) fun y14 =>
 b2 (ybs Tryz.prog 44 1 [0] [y14] h11) fun y15 h15 =>
 cv false C a12 [y15] h15 fun y16 h16 =>
 ob x4 fun a17 =>
 ob (fa 1 y10) fun y18 =>
 ob (semSlice Tryz.prog 284 y18 none none) fun y19 =>
 cv false C a17 [y19] h16 fun y20 h20 =>
 ob x40 fun a21 =>
 ob (bin Tryz.prog .add 3 a21 (.int .i64 1)) fun y22 =>
 n x3 x4 x39 (some y22) h20)
 (e0 x3 h)
theorem q256_23_eq (C : YC) (lf : Nat) (n : K4) (e0 : K1) (KR : KF) (KE : KX) : ∀ F h, evX fx256 C lf [1, 1, 1, 1, 1, 1, 1, 0, 1, 0, 0] F h (fun F h => n (F 3) (F 4) (F 39) (F 40) h) KR (bk 0 (fun F h => e0 (F 3) h) KE) = q256_23 C lf n e0 (F 3) (F 4) (F 39) (F 40) h := by
  intro F h; kernel_rfl
noncomputable def l256_4 (C : YC) (lf : Nat) (e0 : K1) (k : O × O × O × O → HW → Rs) (s : O × O × O × O) (h : HW) : Rs :=
 q256_23 C lf (fun x3 x4 x39 x40 h => k (x3, x4, x39, x40) h) e0 s.1 s.2.1 s.2.2.1 s.2.2.2 h
noncomputable def q256_28 (C : YC) (lf : Nat) (n : K4) (x0 x3 x4 : O) (h : HW) : Rs :=
 ob x0 fun a24 =>
 ob (semNil a24) fun y25 =>
 ob (fa 36 y25) fun y26 =>
 ob (ldN 272 y26 h) fun y27 =>
 n x3 x4 (some y27) (some (.int .i64 0)) h
theorem q256_28_eq (C : YC) (lf : Nat) (n : K4) (KR : KF) (KE : KX) : ∀ F h, evX fx256 C lf [1, 1, 1, 1, 1, 1, 1, 0, 0] F h (fun F h => n (F 3) (F 4) (F 39) (F 40) h) KR KE = q256_28 C lf n (F 0) (F 3) (F 4) h := by
  intro F h; kernel_rfl
noncomputable def q256_29 (C : YC) (lf : Nat) (n : K1) (x0 x3 x4 : O) (h : HW) : Rs :=
 q256_28 C lf (fun x3 x4 x39 x40 h => lp (l256_4 C lf n) lf (x3, x4, x39, x40) h) x0 x3 x4 h
theorem q256_29_eq (C : YC) (lf : Nat) (n : K1) (KR : KF) (KE : KX) : ∀ F h, evX fx256 C lf [1, 1, 1, 1, 1, 1, 1, 0] F h (fun F h => n (F 3) h) KR KE = q256_29 C lf n (F 0) (F 3) (F 4) h := cSeq (a := subX fx256 [1, 1, 1, 1, 1, 1, 1, 0, 0]) (b := subX fx256 [1, 1, 1, 1, 1, 1, 1, 0, 1]) (by kernel_rfl) (B := (fun F h => lp (l256_4 C lf n) lf ((F 3), (F 4), (F 39), (F 40)) h)) (cBlock (id := 0) (a := subX fx256 [1, 1, 1, 1, 1, 1, 1, 0, 1, 0]) (by kernel_rfl) (cLoop (a := subX fx256 [1, 1, 1, 1, 1, 1, 1, 0, 1, 0, 0]) (g := fun F => (F 3, F 4, F 39, F 40)) (body := l256_4 C lf n) (by kernel_rfl) (fun k => (q256_23_eq C lf (fun x3 x4 x39 x40 h => k (x3, x4, x39, x40) h) n KR KE)))) (q256_28_eq C lf (fun x3 x4 x39 x40 h => lp (l256_4 C lf n) lf (x3, x4, x39, x40) h) KR KE)
noncomputable def q256_30 (C : YC) (lf : Nat) (r : K1) (x0 x3 x4 : O) (h : HW) : Rs :=
 q256_29 C lf (fun x3 h => q256_3 C lf r x3 h) x0 x3 x4 h
theorem q256_30_eq (C : YC) (lf : Nat) (r : K1) (KN : KF) (KE : KX) : ∀ F h, evX fx256 C lf [1, 1, 1, 1, 1, 1, 1] F h KN (fun F h => r (F 2) h) KE = q256_30 C lf r (F 0) (F 3) (F 4) h := cSeq (a := subX fx256 [1, 1, 1, 1, 1, 1, 1, 0]) (b := subX fx256 [1, 1, 1, 1, 1, 1, 1, 1]) (by kernel_rfl) (B := (fun F h => q256_3 C lf r (F 3) h)) (q256_3_eq C lf r KN KE) (q256_29_eq C lf (fun x3 h => q256_3 C lf r x3 h) (fun F h => r (F 2) h) KE)
noncomputable def q256_38 (C : YC) (lf : Nat) (n : K3) (x0 x3 x4 : O) (h : HW) : Rs :=
 ob x4 fun a31 =>
 ob x0 fun a32 =>
 ob (semNil a32) fun y33 =>
 ob (fa 35 y33) fun y34 =>
 ob (ld1 y34 h) fun y35 =>
 b2 (ybs Tryz.prog 44 1 [0] [y35] h) fun y36 h36 =>
 cv false C a31 [y36] h36 fun y37 h37 =>
 n x0 x3 x4 h37
theorem q256_38_eq (C : YC) (lf : Nat) (n : K3) (KR : KF) (KE : KX) : ∀ F h, evX fx256 C lf [1, 1, 1, 1, 1, 1, 0] F h (fun F h => n (F 0) (F 3) (F 4) h) KR KE = q256_38 C lf n (F 0) (F 3) (F 4) h := by
  intro F h; kernel_rfl
noncomputable def q256_39 (C : YC) (lf : Nat) (r : K1) (x0 x3 x4 : O) (h : HW) : Rs :=
 q256_38 C lf (fun x0 x3 x4 h => q256_30 C lf r x0 x3 x4 h) x0 x3 x4 h
theorem q256_39_eq (C : YC) (lf : Nat) (r : K1) (KN : KF) (KE : KX) : ∀ F h, evX fx256 C lf [1, 1, 1, 1, 1, 1] F h KN (fun F h => r (F 2) h) KE = q256_39 C lf r (F 0) (F 3) (F 4) h := cSeq (a := subX fx256 [1, 1, 1, 1, 1, 1, 0]) (b := subX fx256 [1, 1, 1, 1, 1, 1, 1]) (by kernel_rfl) (B := (fun F h => q256_30 C lf r (F 0) (F 3) (F 4) h)) (q256_30_eq C lf r KN KE) (q256_38_eq C lf (fun x0 x3 x4 h => q256_30 C lf r x0 x3 x4 h) (fun F h => r (F 2) h) KE)
noncomputable def q256_47 (C : YC) (lf : Nat) (n : K3) (x0 x3 x4 : O) (h : HW) : Rs :=
 ob x4 fun a40 =>
 ob x0 fun a41 =>
 ob (semNil a41) fun y42 =>
 ob (fa 18 y42) fun y43 =>
 ob (fa 1 y43) fun y44 =>
 ob (semSlice Tryz.prog 284 y44 none none) fun y45 =>
 cv false C a40 [y45] h fun y46 h46 =>
 n x0 x3 x4 h46
theorem q256_47_eq (C : YC) (lf : Nat) (n : K3) (KR : KF) (KE : KX) : ∀ F h, evX fx256 C lf [1, 1, 1, 1, 1, 0] F h (fun F h => n (F 0) (F 3) (F 4) h) KR KE = q256_47 C lf n (F 0) (F 3) (F 4) h := by
  intro F h; kernel_rfl
noncomputable def q256_48 (C : YC) (lf : Nat) (r : K1) (x0 x3 x4 : O) (h : HW) : Rs :=
 q256_47 C lf (fun x0 x3 x4 h => q256_39 C lf r x0 x3 x4 h) x0 x3 x4 h
theorem q256_48_eq (C : YC) (lf : Nat) (r : K1) (KN : KF) (KE : KX) : ∀ F h, evX fx256 C lf [1, 1, 1, 1, 1] F h KN (fun F h => r (F 2) h) KE = q256_48 C lf r (F 0) (F 3) (F 4) h := cSeq (a := subX fx256 [1, 1, 1, 1, 1, 0]) (b := subX fx256 [1, 1, 1, 1, 1, 1]) (by kernel_rfl) (B := (fun F h => q256_39 C lf r (F 0) (F 3) (F 4) h)) (q256_39_eq C lf r KN KE) (q256_47_eq C lf (fun x0 x3 x4 h => q256_39 C lf r x0 x3 x4 h) (fun F h => r (F 2) h) KE)
noncomputable def q256_57 (C : YC) (lf : Nat) (n : K3) (x0 x3 x4 : O) (h : HW) : Rs :=
 ob x4 fun a49 =>
 ob x0 fun a50 =>
 ob (semNil a50) fun y51 =>
 ob (fa 18 y51) fun y52 =>
 ob (fa 0 y52) fun y53 =>
 ob (ld1 y53 h) fun y54 =>
 b2 (ybs Tryz.prog 44 1 [0] [y54] h) fun y55 h55 =>
 cv false C a49 [y55] h55 fun y56 h56 =>
 n x0 x3 x4 h56
theorem q256_57_eq (C : YC) (lf : Nat) (n : K3) (KR : KF) (KE : KX) : ∀ F h, evX fx256 C lf [1, 1, 1, 1, 0] F h (fun F h => n (F 0) (F 3) (F 4) h) KR KE = q256_57 C lf n (F 0) (F 3) (F 4) h := by
  intro F h; kernel_rfl
noncomputable def q256_58 (C : YC) (lf : Nat) (r : K1) (x0 x3 x4 : O) (h : HW) : Rs :=
 q256_57 C lf (fun x0 x3 x4 h => q256_48 C lf r x0 x3 x4 h) x0 x3 x4 h
theorem q256_58_eq (C : YC) (lf : Nat) (r : K1) (KN : KF) (KE : KX) : ∀ F h, evX fx256 C lf [1, 1, 1, 1] F h KN (fun F h => r (F 2) h) KE = q256_58 C lf r (F 0) (F 3) (F 4) h := cSeq (a := subX fx256 [1, 1, 1, 1, 0]) (b := subX fx256 [1, 1, 1, 1, 1]) (by kernel_rfl) (B := (fun F h => q256_48 C lf r (F 0) (F 3) (F 4) h)) (q256_48_eq C lf r KN KE) (q256_57_eq C lf (fun x0 x3 x4 h => q256_48 C lf r x0 x3 x4 h) (fun F h => r (F 2) h) KE)
noncomputable def q256_65 (C : YC) (lf : Nat) (n : K3) (x0 x3 x4 : O) (h : HW) : Rs :=
 ob x4 fun a59 =>
 ob x0 fun a60 =>
 ob (semNil a60) fun y61 =>
 ob (fa 12 y61) fun y62 =>
 ob (semSlice Tryz.prog 283 y62 none none) fun y63 =>
 cv false C a59 [y63] h fun y64 h64 =>
 n x0 x3 x4 h64
theorem q256_65_eq (C : YC) (lf : Nat) (n : K3) (KR : KF) (KE : KX) : ∀ F h, evX fx256 C lf [1, 1, 1, 0] F h (fun F h => n (F 0) (F 3) (F 4) h) KR KE = q256_65 C lf n (F 0) (F 3) (F 4) h := by
  intro F h; kernel_rfl
noncomputable def q256_66 (C : YC) (lf : Nat) (r : K1) (x0 x3 x4 : O) (h : HW) : Rs :=
 q256_65 C lf (fun x0 x3 x4 h => q256_58 C lf r x0 x3 x4 h) x0 x3 x4 h
theorem q256_66_eq (C : YC) (lf : Nat) (r : K1) (KN : KF) (KE : KX) : ∀ F h, evX fx256 C lf [1, 1, 1] F h KN (fun F h => r (F 2) h) KE = q256_66 C lf r (F 0) (F 3) (F 4) h := cSeq (a := subX fx256 [1, 1, 1, 0]) (b := subX fx256 [1, 1, 1, 1]) (by kernel_rfl) (B := (fun F h => q256_58 C lf r (F 0) (F 3) (F 4) h)) (q256_58_eq C lf r KN KE) (q256_65_eq C lf (fun x0 x3 x4 h => q256_58 C lf r x0 x3 x4 h) (fun F h => r (F 2) h) KE)
noncomputable def q256_68 (C : YC) (lf : Nat) (n : K3) (x0 x3 : O) (h : HW) : Rs :=
 ob x3 fun a67 =>
 n x0 x3 (some (.fn (.func 321) [] [a67])) h
theorem q256_68_eq (C : YC) (lf : Nat) (n : K3) (KR : KF) (KE : KX) : ∀ F h, evX fx256 C lf [1, 1, 0] F h (fun F h => n (F 0) (F 3) (F 4) h) KR KE = q256_68 C lf n (F 0) (F 3) h := by
  intro F h; kernel_rfl
noncomputable def q256_69 (C : YC) (lf : Nat) (r : K1) (x0 x3 : O) (h : HW) : Rs :=
 q256_68 C lf (fun x0 x3 x4 h => q256_66 C lf r x0 x3 x4 h) x0 x3 h
theorem q256_69_eq (C : YC) (lf : Nat) (r : K1) (KN : KF) (KE : KX) : ∀ F h, evX fx256 C lf [1, 1] F h KN (fun F h => r (F 2) h) KE = q256_69 C lf r (F 0) (F 3) h := cSeq (a := subX fx256 [1, 1, 0]) (b := subX fx256 [1, 1, 1]) (by kernel_rfl) (B := (fun F h => q256_66 C lf r (F 0) (F 3) (F 4) h)) (q256_66_eq C lf r KN KE) (q256_68_eq C lf (fun x0 x3 x4 h => q256_66 C lf r x0 x3 x4 h) (fun F h => r (F 2) h) KE)
noncomputable def q256_71 (C : YC) (lf : Nat) (n : K2) (x0 : O) (h : HW) : Rs :=
 b2 (yAl Tryz.prog 44 h) fun y70 h70 =>
 n x0 (some y70) h70
theorem q256_71_eq (C : YC) (lf : Nat) (n : K2) (KR : KF) (KE : KX) : ∀ F h, evX fx256 C lf [1, 0] F h (fun F h => n (F 0) (F 3) h) KR KE = q256_71 C lf n (F 0) h := by
  intro F h; kernel_rfl
noncomputable def q256_72 (C : YC) (lf : Nat) (r : K1) (x0 : O) (h : HW) : Rs :=
 q256_71 C lf (fun x0 x3 h => q256_69 C lf r x0 x3 h) x0 h
theorem q256_72_eq (C : YC) (lf : Nat) (r : K1) (KN : KF) (KE : KX) : ∀ F h, evX fx256 C lf [1] F h KN (fun F h => r (F 2) h) KE = q256_72 C lf r (F 0) h := cSeq (a := subX fx256 [1, 0]) (b := subX fx256 [1, 1]) (by kernel_rfl) (B := (fun F h => q256_69 C lf r (F 0) (F 3) h)) (q256_69_eq C lf r KN KE) (q256_71_eq C lf (fun x0 x3 h => q256_69 C lf r x0 x3 h) (fun F h => r (F 2) h) KE)
noncomputable def q256_73 (C : YC) (lf : Nat) (n : K1) (x0 : O) (h : HW) : Rs :=
 n x0 h
theorem q256_73_eq (C : YC) (lf : Nat) (n : K1) (KR : KF) (KE : KX) : ∀ F h, evX fx256 C lf [0] F h (fun F h => n (F 0) h) KR KE = q256_73 C lf n (F 0) h := by
  intro F h; kernel_rfl
noncomputable def q256_74 (C : YC) (lf : Nat) (r : K1) (x0 : O) (h : HW) : Rs :=
 q256_73 C lf (fun x0 h => q256_72 C lf r x0 h) x0 h
theorem q256_74_eq (C : YC) (lf : Nat) (r : K1) (KN : KF) (KE : KX) : ∀ F h, evX fx256 C lf [] F h KN (fun F h => r (F 2) h) KE = q256_74 C lf r (F 0) h := cSeq (a := subX fx256 [0]) (b := subX fx256 [1]) (by kernel_rfl) (B := (fun F h => q256_72 C lf r (F 0) h)) (q256_72_eq C lf r KN KE) (q256_73_eq C lf (fun x0 h => q256_72 C lf r x0 h) (fun F h => r (F 2) h) KE)
noncomputable def fs256 (C : YC) (lf : Nat) (a0 : SV) (h : HW) : Rs := q256_74 C lf ff256 (some a0) h
theorem fs256_eq (C : YC) (lf : Nat) (a0 : SV) (h : HW) : yFn Tryz.prog fx256 C lf [a0] h = fs256 C lf a0 h := fnX (K := (fun F h => ff256 (F 2) h)) (by kernel_rfl) (((q256_74_eq C lf ff256 (fun F h => ff256 (F 2) h) (fun _ _ _ => none)) _ h).trans (by kernel_rfl))
noncomputable def fy256 : YX Tryz.prog := Y1 fx256 fs256 fs256_eq (by kernel_rfl)

/-! FN 278 (*tinsel/inode.Table).Read -/
noncomputable def fx278 : XF Tryz.prog := ⟨278, Tryz.f278, fun _ => .text, Tryz.func278, by kernel_rfl, by kernel_rfl, by kernel_rfl, by kernel_rfl⟩
noncomputable def ff278 (x8 x9 : O) (h : HW) : Rs :=
 ob x8 fun a0 =>
 ob x9 fun a1 =>
 some (.ret (.tup [a0, a1]), h)
noncomputable def q278_3 (C : YC) (lf : Nat) (r : K2) (x13 : O) (h : HW) : Rs :=
 ob x13 fun a2 =>
 r (some a2) (some (.int .i64 0)) h
theorem q278_3_eq (C : YC) (lf : Nat) (r : K2) (KN : KF) (KE : KX) : ∀ F h, evX fx278 C lf [1, 1, 1, 1, 1, 1, 1, 1, 1] F h KN (fun F h => r (F 8) (F 9) h) KE = q278_3 C lf r (F 13) h := by
  intro F h; kernel_rfl
noncomputable def q278_40 (C : YC) (lf : Nat) (n : K5) (e0 : K1) (x0 x2 x10 x12 x13 : O) (h : HW) : Rs :=
 ob x2 fun a5 =>
 ob x12 fun a6 =>
 ob (bin Tryz.prog .lss 3 a5 a6) fun y7 =>
 yIf y7
 (ob x2 fun a8 =>
 ob (bin Tryz.prog .quo 3 a8 (.int .i64 64)) fun y9 =>
 ob x2 fun a10 =>
 ob (bin Tryz.prog .rem 3 a10 (.int .i64 64)) fun y11 =>
 ob (bin Tryz.prog .sub 3 (.int .i64 64) y11) fun y12 =>
 ob x12 fun a13 =>
 ob x2 fun a14 =>
 ob (bin Tryz.prog .sub 3 a13 a14) fun y15 =>
 b2 (ybl Tryz.prog .min #[3, 3] [y12, y15] h) fun y16 h16 =>
 ob x10 fun a17 =>
 bc (C (.fn 219) [a17, y9] h16) fun y18 h18 =>
 ob (semNil y18) fun y19 =>
 ob (ld1 y19 h18) fun y20 =>
 ob (bin Tryz.prog .gtr 3 y20 (.int .i64 0)) fun y21 =>
 yIf y21
 (ob x0 fun a22 =>
 ob (semNil a22) fun y23 =>
 ob (fa 0 y23) fun y24 =>
 ob (ld1 y24 h18) fun y25 =>
 ob (bin Tryz.prog .sub 3 y20 (.int .i64 1)) fun y26 =>
 bc (C (.fn 330) [y25, y26] h18) fun y27 h27 =>
 ob (ext 0 y27) fun y28 =>
 ob (ext 1 y27) fun y29 =>
 ob x13 fun a30 =>
 ob (bin Tryz.prog .add 3 y11 y16) fun y31 =>
 ob (semSlice Tryz.prog 31 y28 (some y11) (some y31)) fun y32 =>
 b2 (ybl Tryz.prog .append #[31, 31] [a30, y32] h27) fun y33 h33 =>
 ob x2 fun a34 =>
 ob (bin Tryz.prog .add 3 a34 y16) fun y35 =>
 n x0 (some y35) x10 x12 (some y33) h33)
 (ob x13 fun a36 =>
 b2 (ybl Tryz.prog .append #[31, 3] [a36, y16] h18) fun y37 h37 =>
 ob x2 fun a38 =>
 ob (bin Tryz.prog .add 3 a38 y16) fun y39 =>
 n x0 (some y39) x10 x12 (some y37) h37))
 (e0 x13 h)
theorem q278_40_eq (C : YC) (lf : Nat) (n : K5) (e0 : K1) (KR : KF) (KE : KX) : ∀ F h, evX fx278 C lf [1, 1, 1, 1, 1, 1, 1, 1, 0, 0, 0] F h (fun F h => n (F 0) (F 2) (F 10) (F 12) (F 13) h) KR (bk 0 (fun F h => e0 (F 13) h) KE) = q278_40 C lf n e0 (F 0) (F 2) (F 10) (F 12) (F 13) h := by
  intro F h; kernel_rfl
noncomputable def l278_4 (C : YC) (lf : Nat) (e0 : K1) (k : O × O × O × O × O → HW → Rs) (s : O × O × O × O × O) (h : HW) : Rs :=
 q278_40 C lf (fun x0 x2 x10 x12 x13 h => k (x0, x2, x10, x12, x13) h) e0 s.1 s.2.1 s.2.2.1 s.2.2.2.1 s.2.2.2.2 h
noncomputable def q278_41 (C : YC) (lf : Nat) (r : K2) (x0 x2 x10 x12 x13 : O) (h : HW) : Rs :=
 lp (l278_4 C lf (fun x13 h => q278_3 C lf r x13 h)) lf (x0, x2, x10, x12, x13) h
theorem q278_41_eq (C : YC) (lf : Nat) (r : K2) (KN : KF) (KE : KX) : ∀ F h, evX fx278 C lf [1, 1, 1, 1, 1, 1, 1, 1] F h KN (fun F h => r (F 8) (F 9) h) KE = q278_41 C lf r (F 0) (F 2) (F 10) (F 12) (F 13) h := cSeq (a := subX fx278 [1, 1, 1, 1, 1, 1, 1, 1, 0]) (b := subX fx278 [1, 1, 1, 1, 1, 1, 1, 1, 1]) (by kernel_rfl) (B := (fun F h => q278_3 C lf r (F 13) h)) (q278_3_eq C lf r KN KE) (cBlock (id := 0) (a := subX fx278 [1, 1, 1, 1, 1, 1, 1, 1, 0, 0]) (by kernel_rfl) (cLoop (a := subX fx278 [1, 1, 1, 1, 1, 1, 1, 1, 0, 0, 0]) (g := fun F => (F 0, F 2, F 10, F 12, F 13)) (body := l278_4 C lf (fun x13 h => q278_3 C lf r x13 h)) (by kernel_rfl) (fun k => (q278_40_eq C lf (fun x0 x2 x10 x12 x13 h => k (x0, x2, x10, x12, x13) h) (fun x13 h => q278_3 C lf r x13 h) (fun F h => r (F 8) (F 9) h) KE))))
noncomputable def q278_46 (C : YC) (lf : Nat) (n : K5) (x0 x2 x10 x12 : O) (h : HW) : Rs :=
 ob x12 fun a42 =>
 ob x2 fun a43 =>
 ob (bin Tryz.prog .sub 3 a42 a43) fun y44 =>
 b2 (ymk Tryz.prog 31 (.int .i64 0) y44 h) fun y45 h45 =>
 n x0 x2 x10 x12 (some y45) h45
theorem q278_46_eq (C : YC) (lf : Nat) (n : K5) (KR : KF) (KE : KX) : ∀ F h, evX fx278 C lf [1, 1, 1, 1, 1, 1, 1, 0] F h (fun F h => n (F 0) (F 2) (F 10) (F 12) (F 13) h) KR KE = q278_46 C lf n (F 0) (F 2) (F 10) (F 12) h := by
  intro F h; kernel_rfl
noncomputable def q278_47 (C : YC) (lf : Nat) (r : K2) (x0 x2 x10 x12 : O) (h : HW) : Rs :=
 q278_46 C lf (fun x0 x2 x10 x12 x13 h => q278_41 C lf r x0 x2 x10 x12 x13 h) x0 x2 x10 x12 h
theorem q278_47_eq (C : YC) (lf : Nat) (r : K2) (KN : KF) (KE : KX) : ∀ F h, evX fx278 C lf [1, 1, 1, 1, 1, 1, 1] F h KN (fun F h => r (F 8) (F 9) h) KE = q278_47 C lf r (F 0) (F 2) (F 10) (F 12) h := cSeq (a := subX fx278 [1, 1, 1, 1, 1, 1, 1, 0]) (b := subX fx278 [1, 1, 1, 1, 1, 1, 1, 1]) (by kernel_rfl) (B := (fun F h => q278_41 C lf r (F 0) (F 2) (F 10) (F 12) (F 13) h)) (q278_41_eq C lf r KN KE) (q278_46_eq C lf (fun x0 x2 x10 x12 x13 h => q278_41 C lf r x0 x2 x10 x12 x13 h) (fun F h => r (F 8) (F 9) h) KE)
noncomputable def q278_56 (C : YC) (lf : Nat) (n : K4) (x0 x2 x3 x10 x12 : O) (h : HW) : Rs :=
 ob x3 fun a48 =>
 ob x12 fun a49 =>
 ob x2 fun a50 =>
 ob (bin Tryz.prog .sub 3 a49 a50) fun y51 =>
 ob (bin Tryz.prog .lss 3 a48 y51) fun y52 =>
 yIf y52
 (ob x2 fun a53 =>
 ob x3 fun a54 =>
 ob (bin Tryz.prog .add 3 a53 a54) fun y55 =>
 n x0 x2 x10 (some y55) h)
 (n x0 x2 x10 x12 h)
theorem q278_56_eq (C : YC) (lf : Nat) (n : K4) (KR : KF) (KE : KX) : ∀ F h, evX fx278 C lf [1, 1, 1, 1, 1, 1, 0] F h (fun F h => n (F 0) (F 2) (F 10) (F 12) h) KR KE = q278_56 C lf n (F 0) (F 2) (F 3) (F 10) (F 12) h := by
  intro F h; kernel_rfl
noncomputable def q278_57 (C : YC) (lf : Nat) (r : K2) (x0 x2 x3 x10 x12 : O) (h : HW) : Rs :=
 q278_56 C lf (fun x0 x2 x10 x12 h => q278_47 C lf r x0 x2 x10 x12 h) x0 x2 x3 x10 x12 h
theorem q278_57_eq (C : YC) (lf : Nat) (r : K2) (KN : KF) (KE : KX) : ∀ F h, evX fx278 C lf [1, 1, 1, 1, 1, 1] F h KN (fun F h => r (F 8) (F 9) h) KE = q278_57 C lf r (F 0) (F 2) (F 3) (F 10) (F 12) h := cSeq (a := subX fx278 [1, 1, 1, 1, 1, 1, 0]) (b := subX fx278 [1, 1, 1, 1, 1, 1, 1]) (by kernel_rfl) (B := (fun F h => q278_47 C lf r (F 0) (F 2) (F 10) (F 12) h)) (q278_47_eq C lf r KN KE) (q278_56_eq C lf (fun x0 x2 x10 x12 h => q278_47 C lf r x0 x2 x10 x12 h) (fun F h => r (F 8) (F 9) h) KE)
noncomputable def q278_63 (C : YC) (lf : Nat) (n : K5) (x0 x2 x3 x10 : O) (h : HW) : Rs :=
 ob x10 fun a58 =>
 ob (semNil a58) fun y59 =>
 ob (fa 1 y59) fun y60 =>
 ob (fa 4 y60) fun y61 =>
 ob (ld1 y61 h) fun y62 =>
 n x0 x2 x3 x10 (some y62) h
theorem q278_63_eq (C : YC) (lf : Nat) (n : K5) (KR : KF) (KE : KX) : ∀ F h, evX fx278 C lf [1, 1, 1, 1, 1, 0] F h (fun F h => n (F 0) (F 2) (F 3) (F 10) (F 12) h) KR KE = q278_63 C lf n (F 0) (F 2) (F 3) (F 10) h := by
  intro F h; kernel_rfl
noncomputable def q278_64 (C : YC) (lf : Nat) (r : K2) (x0 x2 x3 x10 : O) (h : HW) : Rs :=
 q278_63 C lf (fun x0 x2 x3 x10 x12 h => q278_57 C lf r x0 x2 x3 x10 x12 h) x0 x2 x3 x10 h
theorem q278_64_eq (C : YC) (lf : Nat) (r : K2) (KN : KF) (KE : KX) : ∀ F h, evX fx278 C lf [1, 1, 1, 1, 1] F h KN (fun F h => r (F 8) (F 9) h) KE = q278_64 C lf r (F 0) (F 2) (F 3) (F 10) h := cSeq (a := subX fx278 [1, 1, 1, 1, 1, 0]) (b := subX fx278 [1, 1, 1, 1, 1, 1]) (by kernel_rfl) (B := (fun F h => q278_57 C lf r (F 0) (F 2) (F 3) (F 10) (F 12) h)) (q278_57_eq C lf r KN KE) (q278_63_eq C lf (fun x0 x2 x3 x10 x12 h => q278_57 C lf r x0 x2 x3 x10 x12 h) (fun F h => r (F 8) (F 9) h) KE)
noncomputable def q278_72 (C : YC) (lf : Nat) (n : K4) (r : K2) (x0 x2 x3 x10 : O) (h : HW) : Rs :=
 ob x2 fun a65 =>
 ob x10 fun a66 =>
 ob (semNil a66) fun y67 =>
 ob (fa 1 y67) fun y68 =>
 ob (fa 4 y68) fun y69 =>
 ob (ld1 y69 h) fun y70 =>
 ob (bin Tryz.prog .geq 3 a65 y70) fun y71 =>
 yIf y71
 (r (some (.val (.slice none 0 0))) (some (.int .i64 0)) h)
 (n x0 x2 x3 x10 h)
theorem q278_72_eq (C : YC) (lf : Nat) (n : K4) (r : K2) (KE : KX) : ∀ F h, evX fx278 C lf [1, 1, 1, 1, 0] F h (fun F h => n (F 0) (F 2) (F 3) (F 10) h) (fun F h => r (F 8) (F 9) h) KE = q278_72 C lf n r (F 0) (F 2) (F 3) (F 10) h := by
  intro F h; kernel_rfl
noncomputable def q278_73 (C : YC) (lf : Nat) (r : K2) (x0 x2 x3 x10 : O) (h : HW) : Rs :=
 q278_72 C lf (fun x0 x2 x3 x10 h => q278_64 C lf r x0 x2 x3 x10 h) r x0 x2 x3 x10 h
theorem q278_73_eq (C : YC) (lf : Nat) (r : K2) (KN : KF) (KE : KX) : ∀ F h, evX fx278 C lf [1, 1, 1, 1] F h KN (fun F h => r (F 8) (F 9) h) KE = q278_73 C lf r (F 0) (F 2) (F 3) (F 10) h := cSeq (a := subX fx278 [1, 1, 1, 1, 0]) (b := subX fx278 [1, 1, 1, 1, 1]) (by kernel_rfl) (B := (fun F h => q278_64 C lf r (F 0) (F 2) (F 3) (F 10) h)) (q278_64_eq C lf r KN KE) (q278_72_eq C lf (fun x0 x2 x3 x10 h => q278_64 C lf r x0 x2 x3 x10 h) r KE)
noncomputable def q278_81 (C : YC) (lf : Nat) (n : K4) (r : K2) (x0 x2 x3 x10 : O) (h : HW) : Rs :=
 ob x2 fun a74 =>
 ob (bin Tryz.prog .lss 3 a74 (.int .i64 0)) fun y75 =>
 bc (gd false (some y75) (ob x3 fun a76 =>
 some (.ret a76, h)) h) fun y77 h77 =>
 bc (gd false (some y75) (ob (bin Tryz.prog .lss 3 y77 (.int .i64 0)) fun y78 =>
 some (.ret y78, h77)) h77) fun y79 h79 =>
 ob (ypk y75 (.bool true) y79) fun y80 =>
 yIf y80
 (r (some (.val (.slice none 0 0))) (some (.int .i64 22)) h79)
 (n x0 x2 x3 x10 h79)
theorem q278_81_eq (C : YC) (lf : Nat) (n : K4) (r : K2) (KE : KX) : ∀ F h, evX fx278 C lf [1, 1, 1, 0] F h (fun F h => n (F 0) (F 2) (F 3) (F 10) h) (fun F h => r (F 8) (F 9) h) KE = q278_81 C lf n r (F 0) (F 2) (F 3) (F 10) h := by
  intro F h; kernel_rfl
noncomputable def q278_82 (C : YC) (lf : Nat) (r : K2) (x0 x2 x3 x10 : O) (h : HW) : Rs :=
 q278_81 C lf (fun x0 x2 x3 x10 h => q278_73 C lf r x0 x2 x3 x10 h) r x0 x2 x3 x10 h
theorem q278_82_eq (C : YC) (lf : Nat) (r : K2) (KN : KF) (KE : KX) : ∀ F h, evX fx278 C lf [1, 1, 1] F h KN (fun F h => r (F 8) (F 9) h) KE = q278_82 C lf r (F 0) (F 2) (F 3) (F 10) h := cSeq (a := subX fx278 [1, 1, 1, 0]) (b := subX fx278 [1, 1, 1, 1]) (by kernel_rfl) (B := (fun F h => q278_73 C lf r (F 0) (F 2) (F 3) (F 10) h)) (q278_73_eq C lf r KN KE) (q278_81_eq C lf (fun x0 x2 x3 x10 h => q278_73 C lf r x0 x2 x3 x10 h) r KE)
noncomputable def q278_86 (C : YC) (lf : Nat) (n : K4) (r : K2) (x0 x2 x3 x10 x11 : O) (h : HW) : Rs :=
 ob x11 fun a83 =>
 ob (bin Tryz.prog .neq 23 a83 (.int .i64 0)) fun y84 =>
 yIf y84
 (ob x11 fun a85 =>
 r (some (.val (.slice none 0 0))) (some a85) h)
 (n x0 x2 x3 x10 h)
theorem q278_86_eq (C : YC) (lf : Nat) (n : K4) (r : K2) (KE : KX) : ∀ F h, evX fx278 C lf [1, 1, 0] F h (fun F h => n (F 0) (F 2) (F 3) (F 10) h) (fun F h => r (F 8) (F 9) h) KE = q278_86 C lf n r (F 0) (F 2) (F 3) (F 10) (F 11) h := by
  intro F h; kernel_rfl
noncomputable def q278_87 (C : YC) (lf : Nat) (r : K2) (x0 x2 x3 x10 x11 : O) (h : HW) : Rs :=
 q278_86 C lf (fun x0 x2 x3 x10 h => q278_82 C lf r x0 x2 x3 x10 h) r x0 x2 x3 x10 x11 h
theorem q278_87_eq (C : YC) (lf : Nat) (r : K2) (KN : KF) (KE : KX) : ∀ F h, evX fx278 C lf [1, 1] F h KN (fun F h => r (F 8) (F 9) h) KE = q278_87 C lf r (F 0) (F 2) (F 3) (F 10) (F 11) h := cSeq (a := subX fx278 [1, 1, 0]) (b := subX fx278 [1, 1, 1]) (by kernel_rfl) (B := (fun F h => q278_82 C lf r (F 0) (F 2) (F 3) (F 10) h)) (q278_82_eq C lf r KN KE) (q278_86_eq C lf (fun x0 x2 x3 x10 h => q278_82 C lf r x0 x2 x3 x10 h) r KE)
noncomputable def q278_93 (C : YC) (lf : Nat) (n : K5) (x0 x1 x2 x3 : O) (h : HW) : Rs :=
 ob x0 fun a88 =>
 ob x1 fun a89 =>
 bc (C (.fn 206) [a88, a89] h) fun y90 h90 =>
 ob (ext 0 y90) fun y91 =>
 ob (ext 1 y90) fun y92 =>
 n x0 x2 x3 (some y91) (some y92) h90
theorem q278_93_eq (C : YC) (lf : Nat) (n : K5) (KR : KF) (KE : KX) : ∀ F h, evX fx278 C lf [1, 0] F h (fun F h => n (F 0) (F 2) (F 3) (F 10) (F 11) h) KR KE = q278_93 C lf n (F 0) (F 1) (F 2) (F 3) h := by
  intro F h; kernel_rfl
noncomputable def q278_94 (C : YC) (lf : Nat) (r : K2) (x0 x1 x2 x3 : O) (h : HW) : Rs :=
 q278_93 C lf (fun x0 x2 x3 x10 x11 h => q278_87 C lf r x0 x2 x3 x10 x11 h) x0 x1 x2 x3 h
theorem q278_94_eq (C : YC) (lf : Nat) (r : K2) (KN : KF) (KE : KX) : ∀ F h, evX fx278 C lf [1] F h KN (fun F h => r (F 8) (F 9) h) KE = q278_94 C lf r (F 0) (F 1) (F 2) (F 3) h := cSeq (a := subX fx278 [1, 0]) (b := subX fx278 [1, 1]) (by kernel_rfl) (B := (fun F h => q278_87 C lf r (F 0) (F 2) (F 3) (F 10) (F 11) h)) (q278_87_eq C lf r KN KE) (q278_93_eq C lf (fun x0 x2 x3 x10 x11 h => q278_87 C lf r x0 x2 x3 x10 x11 h) (fun F h => r (F 8) (F 9) h) KE)
noncomputable def q278_95 (C : YC) (lf : Nat) (n : K4) (x0 x1 x2 x3 : O) (h : HW) : Rs :=
 n x0 x1 x2 x3 h
theorem q278_95_eq (C : YC) (lf : Nat) (n : K4) (KR : KF) (KE : KX) : ∀ F h, evX fx278 C lf [0] F h (fun F h => n (F 0) (F 1) (F 2) (F 3) h) KR KE = q278_95 C lf n (F 0) (F 1) (F 2) (F 3) h := by
  intro F h; kernel_rfl
noncomputable def q278_96 (C : YC) (lf : Nat) (r : K2) (x0 x1 x2 x3 : O) (h : HW) : Rs :=
 q278_95 C lf (fun x0 x1 x2 x3 h => q278_94 C lf r x0 x1 x2 x3 h) x0 x1 x2 x3 h
theorem q278_96_eq (C : YC) (lf : Nat) (r : K2) (KN : KF) (KE : KX) : ∀ F h, evX fx278 C lf [] F h KN (fun F h => r (F 8) (F 9) h) KE = q278_96 C lf r (F 0) (F 1) (F 2) (F 3) h := cSeq (a := subX fx278 [0]) (b := subX fx278 [1]) (by kernel_rfl) (B := (fun F h => q278_94 C lf r (F 0) (F 1) (F 2) (F 3) h)) (q278_94_eq C lf r KN KE) (q278_95_eq C lf (fun x0 x1 x2 x3 h => q278_94 C lf r x0 x1 x2 x3 h) (fun F h => r (F 8) (F 9) h) KE)
noncomputable def fs278 (C : YC) (lf : Nat) (a0 a1 a2 a3 : SV) (h : HW) : Rs := q278_96 C lf ff278 (some a0) (some a1) (some a2) (some a3) h
theorem fs278_eq (C : YC) (lf : Nat) (a0 a1 a2 a3 : SV) (h : HW) : yFn Tryz.prog fx278 C lf [a0, a1, a2, a3] h = fs278 C lf a0 a1 a2 a3 h := fnX (K := (fun F h => ff278 (F 8) (F 9) h)) (by kernel_rfl) (((q278_96_eq C lf ff278 (fun F h => ff278 (F 8) (F 9) h) (fun _ _ _ => none)) _ h).trans (by kernel_rfl))
noncomputable def fy278 : YX Tryz.prog := Y4 fx278 fs278 fs278_eq (by kernel_rfl)

/-! FN 279 tinsel/dir.put -/
noncomputable def fx279 : XF Tryz.prog := ⟨279, Tryz.f279, fun _ => .text, Tryz.func279, by kernel_rfl, by kernel_rfl, by kernel_rfl, by kernel_rfl⟩
noncomputable def ff279 (x8 : O) (h : HW) : Rs :=
 ob x8 fun a0 =>
 some (.ret a0, h)
noncomputable def q279_22 (C : YC) (lf : Nat) (r : K1) (x0 x1 x2 x3 : O) (h : HW) : Rs :=
 ob x3 fun a1 =>
 b2 (ybx 292 a1 h) fun y2 h2 =>
 ob x0 fun a3 =>
 ob x1 fun a4 =>
 ob x2 fun a5 =>
 ob (bin Tryz.prog .mul 3 a5 (.int .i64 32)) fun y6 =>
 ob (semSlice Tryz.prog 292 y2 none none) fun y7 =>
 bc (C (.fn 154) [a3, a4, y6, y7] h2) fun y8 h8 =>
 ob (ext 0 y8) fun y9 =>
 ob (ext 1 y8) fun y10 =>
 ob (bin Tryz.prog .eql 23 y10 (.int .i64 27)) fun y11 =>
 bc (gd false (some y11) (some (.ret y10, h8)) h8) fun y12 h12 =>
 bc (gd false (some y11) (ob (bin Tryz.prog .eql 23 y12 (.int .i64 0)) fun y13 =>
 some (.ret y13, h12)) h12) fun y14 h14 =>
 bc (gd false (some y11) (some (.ret y14, h14)) h14) fun y15 h15 =>
 bc (gd true (some y15) (some (.ret y9, h15)) h15) fun y16 h16 =>
 bc (gd true (some y15) (ob (bin Tryz.prog .lss 3 y16 (.int .i64 32)) fun y17 =>
 some (.ret y17, h16)) h16) fun y18 h18 =>
 bc (gd false (some y11) (ob (ypk y15 y18 (.bool false)) fun y19 =>
 some (.ret y19, h18)) h18) fun y20 h20 =>
 ob (ypk y11 (.bool true) y20) fun y21 =>
 yIf y21
 (r (some (.int .i64 28)) h20)
 (r (some y10) h20)
theorem q279_22_eq (C : YC) (lf : Nat) (r : K1) (KN : KF) (KE : KX) : ∀ F h, evX fx279 C lf [] F h KN (fun F h => r (F 8) h) KE = q279_22 C lf r (F 0) (F 1) (F 2) (F 3) h := by
  intro F h; kernel_rfl
noncomputable def fs279 (C : YC) (lf : Nat) (a0 a1 a2 a3 : SV) (h : HW) : Rs := q279_22 C lf ff279 (some a0) (some a1) (some a2) (some a3) h
theorem fs279_eq (C : YC) (lf : Nat) (a0 a1 a2 a3 : SV) (h : HW) : yFn Tryz.prog fx279 C lf [a0, a1, a2, a3] h = fs279 C lf a0 a1 a2 a3 h := fnX (K := (fun F h => ff279 (F 8) h)) (by kernel_rfl) (((q279_22_eq C lf ff279 (fun F h => ff279 (F 8) h) (fun _ _ _ => none)) _ h).trans (by kernel_rfl))
noncomputable def fy279 : YX Tryz.prog := Y4 fx279 fs279 fs279_eq (by kernel_rfl)

/-! FN 280 tinsel/path.names$1 -/
noncomputable def fx280 : XF Tryz.prog := ⟨280, Tryz.f280, fun _ => .text, Tryz.func280, by kernel_rfl, by kernel_rfl, by kernel_rfl, by kernel_rfl⟩
noncomputable def ff280 (h : HW) : Rs :=
 some (.ret (.tup []), h)
noncomputable def q280_48 (C : YC) (lf : Nat) (n : K4) (r : K0) (e0 : K0) (x0 x1 x3 x4 : O) (h : HW) : Rs :=
 ob x4 fun a1 =>
 ob x1 fun a2 =>
 ob (ld1 a2 h) fun y3 =>
 ob (lenE Tryz.prog 9 y3) fun y4 =>
 ob (bin Tryz.prog .leq 3 a1 y4) fun y5 =>
 yIf y5
 (ob x4 fun a6 =>
 ob x1 fun a7 =>
 ob (ld1 a7 h) fun y8 =>
 ob (lenE Tryz.prog 9 y8) fun y9 =>
 ob (bin Tryz.prog .lss 3 a6 y9) fun y10 =>
 bc (gd true (some y10) (ob x1 fun a11 =>
 ob (ld1 a11 h) fun y12 =>
 some (.ret y12, h)) h) fun y13 h13 =>
 bc (gd true (some y10) (ob x4 fun a14 =>
 some (.ret a14, h13)) h13) fun y15 h15 =>
 bc (gd true (some y10) (ob (semIndex Tryz.prog 9 y13 y15) fun y16 =>
 some (.ret y16, h15)) h15) fun y17 h17 =>
 bc (gd true (some y10) (ob (bin Tryz.prog .neq 5 y17 (.int .u8 47)) fun y18 =>
 some (.ret y18, h17)) h17) fun y19 h19 =>
 ob (ypk y10 y19 (.bool false)) fun y20 =>
 yIf y20
 (ob x4 fun a21 =>
 ob (bin Tryz.prog .add 3 a21 (.int .i64 1)) fun y22 =>
 n x0 x1 x3 (some y22) h19)
 (ob x4 fun a23 =>
 ob x3 fun a24 =>
 ob (bin Tryz.prog .gtr 3 a23 a24) fun y25 =>
 bc (gd true (some y25) (ob x0 fun a26 =>
 some (.ret a26, h19)) h19) fun y27 h27 =>
 bc (gd true (some y25) (ob x4 fun a28 =>
 some (.ret a28, h27)) h27) fun y29 h29 =>
 bc (gd true (some y25) (ob x1 fun a30 =>
 ob (ld1 a30 h29) fun y31 =>
 some (.ret y31, h29)) h29) fun y32 h32 =>
 bc (gd true (some y25) (ob x3 fun a33 =>
 some (.ret a33, h32)) h32) fun y34 h34 =>
 bc (gd true (some y25) (ob x4 fun a35 =>
 some (.ret a35, h34)) h34) fun y36 h36 =>
 bc (gd true (some y25) (ob (semSlice Tryz.prog 9 y32 (some y34) (some y36)) fun y37 =>
 some (.ret y37, h36)) h36) fun y38 h38 =>
 bc (gd true (some y25) (cv false C y27 [y29, y38] h38 fun y39 h39 =>
 some (.ret y39, h39)) h38) fun y40 h40 =>
 bc (gd true (some y25) (ob (unE .not y40) fun y41 =>
 some (.ret y41, h40)) h40) fun y42 h42 =>
 ob (ypk y25 y42 (.bool false)) fun y43 =>
 yIf y43
 (r h42)
 (ob x4 fun a44 =>
 ob (bin Tryz.prog .add 3 a44 (.int .i64 1)) fun y45 =>
 ob x4 fun a46 =>
 ob (bin Tryz.prog .add 3 a46 (.int .i64 1)) fun y47 =>
 n x0 x1 (some y45) (some y47) h42)))
 (e0 h)
theorem q280_48_eq (C : YC) (lf : Nat) (n : K4) (r : K0) (e0 : K0) (KE : KX) : ∀ F h, evX fx280 C lf [1, 1, 0, 0] F h (fun F h => n (F 0) (F 1) (F 3) (F 4) h) (fun F h => r h) (bk 0 (fun F h => e0 h) KE) = q280_48 C lf n r e0 (F 0) (F 1) (F 3) (F 4) h := by
  intro F h; kernel_rfl
noncomputable def l280_0 (C : YC) (lf : Nat) (r : K0) (e0 : K0) (k : O × O × O × O → HW → Rs) (s : O × O × O × O) (h : HW) : Rs :=
 q280_48 C lf (fun x0 x1 x3 x4 h => k (x0, x1, x3, x4) h) r e0 s.1 s.2.1 s.2.2.1 s.2.2.2 h
noncomputable def q280_49 (C : YC) (lf : Nat) (n : K4) (x0 x1 x3 : O) (h : HW) : Rs :=
 n x0 x1 x3 (some (.int .i64 0)) h
theorem q280_49_eq (C : YC) (lf : Nat) (n : K4) (KR : KF) (KE : KX) : ∀ F h, evX fx280 C lf [1, 0] F h (fun F h => n (F 0) (F 1) (F 3) (F 4) h) KR KE = q280_49 C lf n (F 0) (F 1) (F 3) h := by
  intro F h; kernel_rfl
noncomputable def q280_50 (C : YC) (lf : Nat) (n : K0) (r : K0) (x0 x1 x3 : O) (h : HW) : Rs :=
 q280_49 C lf (fun x0 x1 x3 x4 h => lp (l280_0 C lf r n) lf (x0, x1, x3, x4) h) x0 x1 x3 h
theorem q280_50_eq (C : YC) (lf : Nat) (n : K0) (r : K0) (KE : KX) : ∀ F h, evX fx280 C lf [1] F h (fun F h => n h) (fun F h => r h) KE = q280_50 C lf n r (F 0) (F 1) (F 3) h := cSeq (a := subX fx280 [1, 0]) (b := subX fx280 [1, 1]) (by kernel_rfl) (B := (fun F h => lp (l280_0 C lf r n) lf ((F 0), (F 1), (F 3), (F 4)) h)) (cBlock (id := 0) (a := subX fx280 [1, 1, 0]) (by kernel_rfl) (cLoop (a := subX fx280 [1, 1, 0, 0]) (g := fun F => (F 0, F 1, F 3, F 4)) (body := l280_0 C lf r n) (by kernel_rfl) (fun k => (q280_48_eq C lf (fun x0 x1 x3 x4 h => k (x0, x1, x3, x4) h) r n KE)))) (q280_49_eq C lf (fun x0 x1 x3 x4 h => lp (l280_0 C lf r n) lf (x0, x1, x3, x4) h) (fun F h => r h) KE)
noncomputable def q280_51 (C : YC) (lf : Nat) (n : K3) (x0 x1 : O) (h : HW) : Rs :=
 n x0 x1 (some (.int .i64 0)) h
theorem q280_51_eq (C : YC) (lf : Nat) (n : K3) (KR : KF) (KE : KX) : ∀ F h, evX fx280 C lf [0] F h (fun F h => n (F 0) (F 1) (F 3) h) KR KE = q280_51 C lf n (F 0) (F 1) h := by
  intro F h; kernel_rfl
noncomputable def q280_52 (C : YC) (lf : Nat) (n : K0) (r : K0) (x0 x1 : O) (h : HW) : Rs :=
 q280_51 C lf (fun x0 x1 x3 h => q280_50 C lf n r x0 x1 x3 h) x0 x1 h
theorem q280_52_eq (C : YC) (lf : Nat) (n : K0) (r : K0) (KE : KX) : ∀ F h, evX fx280 C lf [] F h (fun F h => n h) (fun F h => r h) KE = q280_52 C lf n r (F 0) (F 1) h := cSeq (a := subX fx280 [0]) (b := subX fx280 [1]) (by kernel_rfl) (B := (fun F h => q280_50 C lf n r (F 0) (F 1) (F 3) h)) (q280_50_eq C lf n r KE) (q280_51_eq C lf (fun x0 x1 x3 h => q280_50 C lf n r x0 x1 x3 h) (fun F h => r h) KE)
noncomputable def fs280 (C : YC) (lf : Nat) (a0 a1 : SV) (h : HW) : Rs := q280_52 C lf ff280 ff280 (some a0) (some a1) h
theorem fs280_eq (C : YC) (lf : Nat) (a0 a1 : SV) (h : HW) : yFn Tryz.prog fx280 C lf [a0, a1] h = fs280 C lf a0 a1 h := fnX (K := (fun F h => ff280 h)) (by kernel_rfl) (((q280_52_eq C lf ff280 ff280 (fun _ _ _ => none)) _ h).trans (by kernel_rfl))
noncomputable def fy280 : YX Tryz.prog := Y2 fx280 fs280 fs280_eq (by kernel_rfl)

/-! FN 281 internal/stringslite.IndexByte -/
noncomputable def fx281 : XF Tryz.prog := ⟨281, Tryz.f281, fun _ => .text, Tryz.func281, by kernel_rfl, by kernel_rfl, by kernel_rfl, by kernel_rfl⟩
noncomputable def ff281 (x4 : O) (h : HW) : Rs :=
 ob x4 fun a0 =>
 some (.ret a0, h)
noncomputable def q281_4 (C : YC) (lf : Nat) (r : K1) (x0 x1 : O) (h : HW) : Rs :=
 ob x0 fun a1 =>
 ob x1 fun a2 =>
 bc (C (.fn 331) [a1, a2] h) fun y3 h3 =>
 r (some y3) h3
theorem q281_4_eq (C : YC) (lf : Nat) (r : K1) (KN : KF) (KE : KX) : ∀ F h, evX fx281 C lf [] F h KN (fun F h => r (F 4) h) KE = q281_4 C lf r (F 0) (F 1) h := by
  intro F h; kernel_rfl
noncomputable def fs281 (C : YC) (lf : Nat) (a0 a1 : SV) (h : HW) : Rs := q281_4 C lf ff281 (some a0) (some a1) h
theorem fs281_eq (C : YC) (lf : Nat) (a0 a1 : SV) (h : HW) : yFn Tryz.prog fx281 C lf [a0, a1] h = fs281 C lf a0 a1 h := fnX (K := (fun F h => ff281 (F 4) h)) (by kernel_rfl) (((q281_4_eq C lf ff281 (fun F h => ff281 (F 4) h) (fun _ _ _ => none)) _ h).trans (by kernel_rfl))
noncomputable def fy281 : YX Tryz.prog := Y2 fx281 fs281 fs281_eq (by kernel_rfl)

/-! FN 284 (*tinsel/blocks.Store).Alloc -/
noncomputable def fx284 : XF Tryz.prog := ⟨284, Tryz.f284, fun _ => .text, Tryz.func284, by kernel_rfl, by kernel_rfl, by kernel_rfl, by kernel_rfl⟩
noncomputable def ff284 (x2 x3 : O) (h : HW) : Rs :=
 ob x2 fun a0 =>
 ob x3 fun a1 =>
 some (.ret (.tup [a0, a1]), h)
noncomputable def q284_2 (C : YC) (lf : Nat) (r : K2) (h : HW) : Rs :=
 r (some (.int .i64 0)) (some (.int .i64 28)) h
theorem q284_2_eq (C : YC) (lf : Nat) (r : K2) (KN : KF) (KE : KX) : ∀ F h, evX fx284 C lf [1, 1, 1] F h KN (fun F h => r (F 2) (F 3) h) KE = q284_2 C lf r h := by
  intro F h; kernel_rfl
noncomputable def q284_55 (C : YC) (lf : Nat) (n : K2) (r : K2) (e0 : K0) (x0 x9 : O) (h : HW) : Rs :=
 ob x9 fun a4 =>
 ob (bin Tryz.prog .lss 3 a4 (.int .i64 64)) fun y5 =>
 yIf y5
 (ob x9 fun a6 =>
 ob (bin Tryz.prog .mul 3 a6 (.int .i64 64)) fun y7 =>
 ob x0 fun a8 =>
 ob (semNil a8) fun y9 =>
 ob (fa 1 y9) fun y10 =>
 ob (ixA 64 1 y10 a6) fun y11 =>
 ob (ld1 y11 h) fun y12 =>
 ob (unE .xor y12) fun y13 =>
 bc (C (.fn 332) [y13] h) fun y14 h14 =>
 ob (bin Tryz.prog .add 3 y7 y14) fun y15 =>
 ob x0 fun a16 =>
 ob (semNil a16) fun y17 =>
 ob (fa 1 y17) fun y18 =>
 ob (ixA 64 1 y18 a6) fun y19 =>
 ob (ld1 y19 h14) fun y20 =>
 ob (bin Tryz.prog .eql 372 y20 (.int .u64 18446744073709551615)) fun y21 =>
 bc (gd false (some y21) (some (.ret y15, h14)) h14) fun y22 h22 =>
 bc (gd false (some y21) (ob x0 fun a23 =>
 some (.ret a23, h22)) h22) fun y24 h24 =>
 bc (gd false (some y21) (ob (semNil y24) fun y25 =>
 some (.ret y25, h24)) h24) fun y26 h26 =>
 bc (gd false (some y21) (ob (fa 0 y26) fun y27 =>
 some (.ret y27, h26)) h26) fun y28 h28 =>
 bc (gd false (some y21) (ob (ld1 y28 h28) fun y29 =>
 some (.ret y29, h28)) h28) fun y30 h30 =>
 bc (gd false (some y21) (ob (bin Tryz.prog .geq 3 y22 y30) fun y31 =>
 some (.ret y31, h30)) h30) fun y32 h32 =>
 ob (ypk y21 (.bool true) y32) fun y33 =>
 yIf y33
 (ob x9 fun a34 =>
 ob (bin Tryz.prog .add 3 a34 (.int .i64 1)) fun y35 =>
 n x0 (some y35) h32)
 (ob x0 fun a36 =>
 ob (semNil a36) fun y37 =>
 ob (fa 1 y37) fun y38 =>
 ob (ixA 64 1 y38 a6) fun y39 =>
 ob (ld1 y39 h32) fun y40 =>
 ob (bin Tryz.prog .rem 3 y15 (.int .i64 64)) fun y41 =>
 ob (bin Tryz.prog .shl 372 (.int .u64 1) y41) fun y42 =>
 ob (bin Tryz.prog .or 372 y40 y42) fun y43 =>
 ob (semNil a36) fun y44 =>
 ob (fa 1 y44) fun y45 =>
 ob (ixA 64 1 y45 a6) fun y46 =>
 ob (st 1 y46 y43 h32) fun h47 =>
 ob x0 fun a48 =>
 ob (semNil a48) fun y49 =>
 ob (fa 65 y49) fun y50 =>
 ob (ld1 y50 h47) fun y51 =>
 ob (semBuild Tryz.prog 182 [] []) fun y52 =>
 ob (ixS 64 y51 y15) fun y53 =>
 ob (st 64 y53 y52 h47) fun h54 =>
 r (some y15) (some (.int .i64 0)) h54))
 (e0 h)
theorem q284_55_eq (C : YC) (lf : Nat) (n : K2) (r : K2) (e0 : K0) (KE : KX) : ∀ F h, evX fx284 C lf [1, 1, 0, 1, 0, 0] F h (fun F h => n (F 0) (F 9) h) (fun F h => r (F 2) (F 3) h) (bk 0 (fun F h => e0 h) KE) = q284_55 C lf n r e0 (F 0) (F 9) h := by
  intro F h; kernel_rfl
noncomputable def l284_3 (C : YC) (lf : Nat) (r : K2) (e0 : K0) (k : O × O → HW → Rs) (s : O × O) (h : HW) : Rs :=
 q284_55 C lf (fun x0 x9 h => k (x0, x9) h) r e0 s.1 s.2 h
noncomputable def q284_56 (C : YC) (lf : Nat) (n : K2) (x0 : O) (h : HW) : Rs :=
 n x0 (some (.int .i64 0)) h
theorem q284_56_eq (C : YC) (lf : Nat) (n : K2) (KR : KF) (KE : KX) : ∀ F h, evX fx284 C lf [1, 1, 0, 0] F h (fun F h => n (F 0) (F 9) h) KR KE = q284_56 C lf n (F 0) h := by
  intro F h; kernel_rfl
noncomputable def q284_57 (C : YC) (lf : Nat) (n : K0) (r : K2) (x0 : O) (h : HW) : Rs :=
 q284_56 C lf (fun x0 x9 h => lp (l284_3 C lf r n) lf (x0, x9) h) x0 h
theorem q284_57_eq (C : YC) (lf : Nat) (n : K0) (r : K2) (KE : KX) : ∀ F h, evX fx284 C lf [1, 1, 0] F h (fun F h => n h) (fun F h => r (F 2) (F 3) h) KE = q284_57 C lf n r (F 0) h := cSeq (a := subX fx284 [1, 1, 0, 0]) (b := subX fx284 [1, 1, 0, 1]) (by kernel_rfl) (B := (fun F h => lp (l284_3 C lf r n) lf ((F 0), (F 9)) h)) (cBlock (id := 0) (a := subX fx284 [1, 1, 0, 1, 0]) (by kernel_rfl) (cLoop (a := subX fx284 [1, 1, 0, 1, 0, 0]) (g := fun F => (F 0, F 9)) (body := l284_3 C lf r n) (by kernel_rfl) (fun k => (q284_55_eq C lf (fun x0 x9 h => k (x0, x9) h) r n KE)))) (q284_56_eq C lf (fun x0 x9 h => lp (l284_3 C lf r n) lf (x0, x9) h) (fun F h => r (F 2) (F 3) h) KE)
noncomputable def q284_58 (C : YC) (lf : Nat) (r : K2) (x0 : O) (h : HW) : Rs :=
 q284_57 C lf (fun h => q284_2 C lf r h) r x0 h
theorem q284_58_eq (C : YC) (lf : Nat) (r : K2) (KN : KF) (KE : KX) : ∀ F h, evX fx284 C lf [1, 1] F h KN (fun F h => r (F 2) (F 3) h) KE = q284_58 C lf r (F 0) h := cSeq (a := subX fx284 [1, 1, 0]) (b := subX fx284 [1, 1, 1]) (by kernel_rfl) (B := (fun F h => q284_2 C lf r h)) (q284_2_eq C lf r KN KE) (q284_57_eq C lf (fun h => q284_2 C lf r h) r KE)
noncomputable def q284_62 (C : YC) (lf : Nat) (n : K1) (r : K2) (x0 : O) (h : HW) : Rs :=
 ob x0 fun a59 =>
 bc (C (.fn 285) [a59] h) fun y60 h60 =>
 ob (unE .not y60) fun y61 =>
 yIf y61
 (r (some (.int .i64 0)) (some (.int .i64 14)) h60)
 (n x0 h60)
theorem q284_62_eq (C : YC) (lf : Nat) (n : K1) (r : K2) (KE : KX) : ∀ F h, evX fx284 C lf [1, 0] F h (fun F h => n (F 0) h) (fun F h => r (F 2) (F 3) h) KE = q284_62 C lf n r (F 0) h := by
  intro F h; kernel_rfl
noncomputable def q284_63 (C : YC) (lf : Nat) (r : K2) (x0 : O) (h : HW) : Rs :=
 q284_62 C lf (fun x0 h => q284_58 C lf r x0 h) r x0 h
theorem q284_63_eq (C : YC) (lf : Nat) (r : K2) (KN : KF) (KE : KX) : ∀ F h, evX fx284 C lf [1] F h KN (fun F h => r (F 2) (F 3) h) KE = q284_63 C lf r (F 0) h := cSeq (a := subX fx284 [1, 0]) (b := subX fx284 [1, 1]) (by kernel_rfl) (B := (fun F h => q284_58 C lf r (F 0) h)) (q284_58_eq C lf r KN KE) (q284_62_eq C lf (fun x0 h => q284_58 C lf r x0 h) r KE)
noncomputable def q284_64 (C : YC) (lf : Nat) (n : K1) (x0 : O) (h : HW) : Rs :=
 n x0 h
theorem q284_64_eq (C : YC) (lf : Nat) (n : K1) (KR : KF) (KE : KX) : ∀ F h, evX fx284 C lf [0] F h (fun F h => n (F 0) h) KR KE = q284_64 C lf n (F 0) h := by
  intro F h; kernel_rfl
noncomputable def q284_65 (C : YC) (lf : Nat) (r : K2) (x0 : O) (h : HW) : Rs :=
 q284_64 C lf (fun x0 h => q284_63 C lf r x0 h) x0 h
theorem q284_65_eq (C : YC) (lf : Nat) (r : K2) (KN : KF) (KE : KX) : ∀ F h, evX fx284 C lf [] F h KN (fun F h => r (F 2) (F 3) h) KE = q284_65 C lf r (F 0) h := cSeq (a := subX fx284 [0]) (b := subX fx284 [1]) (by kernel_rfl) (B := (fun F h => q284_63 C lf r (F 0) h)) (q284_63_eq C lf r KN KE) (q284_64_eq C lf (fun x0 h => q284_63 C lf r x0 h) (fun F h => r (F 2) (F 3) h) KE)
noncomputable def fs284 (C : YC) (lf : Nat) (a0 : SV) (h : HW) : Rs := q284_65 C lf ff284 (some a0) h
theorem fs284_eq (C : YC) (lf : Nat) (a0 : SV) (h : HW) : yFn Tryz.prog fx284 C lf [a0] h = fs284 C lf a0 h := fnX (K := (fun F h => ff284 (F 2) (F 3) h)) (by kernel_rfl) (((q284_65_eq C lf ff284 (fun F h => ff284 (F 2) (F 3) h) (fun _ _ _ => none)) _ h).trans (by kernel_rfl))
noncomputable def fy284 : YX Tryz.prog := Y1 fx284 fs284 fs284_eq (by kernel_rfl)

/-! FN 285 (*tinsel/blocks.Store).made -/
noncomputable def fx285 : XF Tryz.prog := ⟨285, Tryz.f285, fun _ => .text, Tryz.func285, by kernel_rfl, by kernel_rfl, by kernel_rfl, by kernel_rfl⟩
noncomputable def ff285 (x2 : O) (h : HW) : Rs :=
 ob x2 fun a0 =>
 some (.ret a0, h)
noncomputable def q285_14 (C : YC) (lf : Nat) (r : K1) (x0 : O) (h : HW) : Rs :=
 ob x0 fun a1 =>
 ob (bin Tryz.prog .neq 277 a1 (.val (.pointer none))) fun y2 =>
 bc (gd true (some y2) (ob x0 fun a3 =>
 some (.ret a3, h)) h) fun y4 h4 =>
 bc (gd true (some y2) (ob (semNil y4) fun y5 =>
 some (.ret y5, h4)) h4) fun y6 h6 =>
 bc (gd true (some y2) (ob (fa 0 y6) fun y7 =>
 some (.ret y7, h6)) h6) fun y8 h8 =>
 bc (gd true (some y2) (ob (ld1 y8 h8) fun y9 =>
 some (.ret y9, h8)) h8) fun y10 h10 =>
 bc (gd true (some y2) (ob (bin Tryz.prog .gtr 3 y10 (.int .i64 0)) fun y11 =>
 some (.ret y11, h10)) h10) fun y12 h12 =>
 ob (ypk y2 y12 (.bool false)) fun y13 =>
 r (some y13) h12
theorem q285_14_eq (C : YC) (lf : Nat) (r : K1) (KN : KF) (KE : KX) : ∀ F h, evX fx285 C lf [] F h KN (fun F h => r (F 2) h) KE = q285_14 C lf r (F 0) h := by
  intro F h; kernel_rfl
noncomputable def fs285 (C : YC) (lf : Nat) (a0 : SV) (h : HW) : Rs := q285_14 C lf ff285 (some a0) h
theorem fs285_eq (C : YC) (lf : Nat) (a0 : SV) (h : HW) : yFn Tryz.prog fx285 C lf [a0] h = fs285 C lf a0 h := fnX (K := (fun F h => ff285 (F 2) h)) (by kernel_rfl) (((q285_14_eq C lf ff285 (fun F h => ff285 (F 2) h) (fun _ _ _ => none)) _ h).trans (by kernel_rfl))
noncomputable def fy285 : YX Tryz.prog := Y1 fx285 fs285 fs285_eq (by kernel_rfl)

/-! FN 286 (*tinsel/blocks.Store).Is -/
noncomputable def fx286 : XF Tryz.prog := ⟨286, Tryz.f286, fun _ => .text, Tryz.func286, by kernel_rfl, by kernel_rfl, by kernel_rfl, by kernel_rfl⟩
noncomputable def ff286 (x4 : O) (h : HW) : Rs :=
 ob x4 fun a0 =>
 some (.ret a0, h)
noncomputable def q286_46 (C : YC) (lf : Nat) (r : K1) (x0 x1 : O) (h : HW) : Rs :=
 ob x0 fun a1 =>
 bc (C (.fn 285) [a1] h) fun y2 h2 =>
 bc (gd true (some y2) (ob x1 fun a3 =>
 some (.ret a3, h2)) h2) fun y4 h4 =>
 bc (gd true (some y2) (ob (bin Tryz.prog .geq 3 y4 (.int .i64 0)) fun y5 =>
 some (.ret y5, h4)) h4) fun y6 h6 =>
 ob (ypk y2 y6 (.bool false)) fun y7 =>
 bc (gd true (some y7) (ob x1 fun a8 =>
 some (.ret a8, h6)) h6) fun y9 h9 =>
 bc (gd true (some y7) (ob x0 fun a10 =>
 some (.ret a10, h9)) h9) fun y11 h11 =>
 bc (gd true (some y7) (ob (semNil y11) fun y12 =>
 some (.ret y12, h11)) h11) fun y13 h13 =>
 bc (gd true (some y7) (ob (fa 0 y13) fun y14 =>
 some (.ret y14, h13)) h13) fun y15 h15 =>
 bc (gd true (some y7) (ob (ld1 y15 h15) fun y16 =>
 some (.ret y16, h15)) h15) fun y17 h17 =>
 bc (gd true (some y7) (ob (bin Tryz.prog .lss 3 y9 y17) fun y18 =>
 some (.ret y18, h17)) h17) fun y19 h19 =>
 ob (ypk y7 y19 (.bool false)) fun y20 =>
 bc (gd true (some y20) (ob x0 fun a21 =>
 some (.ret a21, h19)) h19) fun y22 h22 =>
 bc (gd true (some y20) (ob x1 fun a23 =>
 some (.ret a23, h22)) h22) fun y24 h24 =>
 bc (gd true (some y20) (ob (bin Tryz.prog .quo 3 y24 (.int .i64 64)) fun y25 =>
 some (.ret y25, h24)) h24) fun y26 h26 =>
 bc (gd true (some y20) (ob (semNil y22) fun y27 =>
 some (.ret y27, h26)) h26) fun y28 h28 =>
 bc (gd true (some y20) (ob (fa 1 y28) fun y29 =>
 some (.ret y29, h28)) h28) fun y30 h30 =>
 bc (gd true (some y20) (ob (ixA 64 1 y30 y26) fun y31 =>
 some (.ret y31, h30)) h30) fun y32 h32 =>
 bc (gd true (some y20) (ob (ld1 y32 h32) fun y33 =>
 some (.ret y33, h32)) h32) fun y34 h34 =>
 bc (gd true (some y20) (ob x1 fun a35 =>
 some (.ret a35, h34)) h34) fun y36 h36 =>
 bc (gd true (some y20) (ob (bin Tryz.prog .rem 3 y36 (.int .i64 64)) fun y37 =>
 some (.ret y37, h36)) h36) fun y38 h38 =>
 bc (gd true (some y20) (ob (bin Tryz.prog .shr 372 y34 y38) fun y39 =>
 some (.ret y39, h38)) h38) fun y40 h40 =>
 bc (gd true (some y20) (ob (bin Tryz.prog .and 372 y40 (.int .u64 1)) fun y41 =>
 some (.ret y41, h40)) h40) fun y42 h42 =>
 bc (gd true (some y20) (ob (bin Tryz.prog .eql 372 y42 (.int .u64 1)) fun y43 =>
 some (.ret y43, h42)) h42) fun y44 h44 =>
 ob (ypk y20 y44 (.bool false)) fun y45 =>
 r (some y45) h44
theorem q286_46_eq (C : YC) (lf : Nat) (r : K1) (KN : KF) (KE : KX) : ∀ F h, evX fx286 C lf [] F h KN (fun F h => r (F 4) h) KE = q286_46 C lf r (F 0) (F 1) h := by
  intro F h; kernel_rfl
noncomputable def fs286 (C : YC) (lf : Nat) (a0 a1 : SV) (h : HW) : Rs := q286_46 C lf ff286 (some a0) (some a1) h
theorem fs286_eq (C : YC) (lf : Nat) (a0 a1 : SV) (h : HW) : yFn Tryz.prog fx286 C lf [a0, a1] h = fs286 C lf a0 a1 h := fnX (K := (fun F h => ff286 (F 4) h)) (by kernel_rfl) (((q286_46_eq C lf ff286 (fun F h => ff286 (F 4) h) (fun _ _ _ => none)) _ h).trans (by kernel_rfl))
noncomputable def fy286 : YX Tryz.prog := Y2 fx286 fs286 fs286_eq (by kernel_rfl)

/-! FN 315 tinsel/dir.good -/
noncomputable def fx315 : XF Tryz.prog := ⟨315, Tryz.f315, fun _ => .text, Tryz.func315, by kernel_rfl, by kernel_rfl, by kernel_rfl, by kernel_rfl⟩
noncomputable def ff315 (x2 : O) (h : HW) : Rs :=
 ob x2 fun a0 =>
 some (.ret a0, h)
noncomputable def q315_11 (C : YC) (lf : Nat) (r : K1) (x0 : O) (h : HW) : Rs :=
 ob x0 fun a1 =>
 ob (bin Tryz.prog .eql 9 a1 (.str (bs []))) fun y2 =>
 bc (gd false (some y2) (ob x0 fun a3 =>
 some (.ret a3, h)) h) fun y4 h4 =>
 bc (gd false (some y2) (bc (C (.fn 343) [y4, (.str (bs [47, 0]))] h4) fun y5 h5 =>
 some (.ret y5, h5)) h4) fun y6 h6 =>
 ob (ypk y2 (.bool true) y6) fun y7 =>
 yIf y7
 (r (some (.int .i64 22)) h6)
 (ob x0 fun a8 =>
 ob (lenE Tryz.prog 9 a8) fun y9 =>
 ob (bin Tryz.prog .gtr 3 y9 (.int .i64 27)) fun y10 =>
 yIf y10
 (r (some (.int .i64 36)) h6)
 (r (some (.int .i64 0)) h6))
theorem q315_11_eq (C : YC) (lf : Nat) (r : K1) (KN : KF) (KE : KX) : ∀ F h, evX fx315 C lf [] F h KN (fun F h => r (F 2) h) KE = q315_11 C lf r (F 0) h := by
  intro F h; kernel_rfl
noncomputable def fs315 (C : YC) (lf : Nat) (a0 : SV) (h : HW) : Rs := q315_11 C lf ff315 (some a0) h
theorem fs315_eq (C : YC) (lf : Nat) (a0 : SV) (h : HW) : yFn Tryz.prog fx315 C lf [a0] h = fs315 C lf a0 h := fnX (K := (fun F h => ff315 (F 2) h)) (by kernel_rfl) (((q315_11_eq C lf ff315 (fun F h => ff315 (F 2) h) (fun _ _ _ => none)) _ h).trans (by kernel_rfl))
noncomputable def fy315 : YX Tryz.prog := Y1 fx315 fs315 fs315_eq (by kernel_rfl)

/-! FN 316 (tinsel/dir.slot).name -/
noncomputable def fx316 : XF Tryz.prog := ⟨316, Tryz.f316, fun _ => .text, Tryz.func316, by kernel_rfl, by kernel_rfl, by kernel_rfl, by kernel_rfl⟩
noncomputable def ff316 (x2 : O) (h : HW) : Rs :=
 ob x2 fun a0 =>
 some (.ret a0, h)
noncomputable def q316_9 (C : YC) (lf : Nat) (r : K1) (x0 : O) (h : HW) : Rs :=
 ob x0 fun a1 =>
 b2 (ybx 292 a1 h) fun y2 h2 =>
 ob (semSlice Tryz.prog 292 y2 (some (.int .i64 4)) none) fun y3 =>
 bc (C (.fn 344) [y3, (.int .u8 0)] h2) fun y4 h4 =>
 ob (bin Tryz.prog .geq 3 y4 (.int .i64 0)) fun y5 =>
 yIf y5
 (ob (semSlice Tryz.prog 31 y3 none (some y4)) fun y6 =>
 b2 (ycv Tryz.prog 31 9 y6 h4) fun y7 h7 =>
 r (some y7) h7)
 (b2 (ycv Tryz.prog 31 9 y3 h4) fun y8 h8 =>
 r (some y8) h8)
theorem q316_9_eq (C : YC) (lf : Nat) (r : K1) (KN : KF) (KE : KX) : ∀ F h, evX fx316 C lf [] F h KN (fun F h => r (F 2) h) KE = q316_9 C lf r (F 0) h := by
  intro F h; kernel_rfl
noncomputable def fs316 (C : YC) (lf : Nat) (a0 : SV) (h : HW) : Rs := q316_9 C lf ff316 (some a0) h
theorem fs316_eq (C : YC) (lf : Nat) (a0 : SV) (h : HW) : yFn Tryz.prog fx316 C lf [a0] h = fs316 C lf a0 h := fnX (K := (fun F h => ff316 (F 2) h)) (by kernel_rfl) (((q316_9_eq C lf ff316 (fun F h => ff316 (F 2) h) (fun _ _ _ => none)) _ h).trans (by kernel_rfl))
noncomputable def fy316 : YX Tryz.prog := Y1 fx316 fs316 fs316_eq (by kernel_rfl)

/-! FN 321 (*tinsel/inode.node).owned$1 -/
noncomputable def fx321 : XF Tryz.prog := ⟨321, Tryz.f321, fun _ => .text, Tryz.func321, by kernel_rfl, by kernel_rfl, by kernel_rfl, by kernel_rfl⟩
noncomputable def ff321 (h : HW) : Rs :=
 some (.ret (.tup []), h)
noncomputable def q321_20 (C : YC) (lf : Nat) (n : K4) (e0 : K0) (x1 x5 x6 x7 : O) (h : HW) : Rs :=
 ob x7 fun a1 =>
 ob x6 fun a2 =>
 ob (bin Tryz.prog .lss 3 a1 a2) fun y3 =>
 yIf y3
 (ob x5 fun a4 =>
 ob x7 fun a5 =>
 ob (ixS 1 a4 a5) fun y6 =>
 ob (ld1 y6 h) fun y7 =>
 ob (bin Tryz.prog .gtr 3 y7 (.int .i64 0)) fun y8 =>
 yIf y8
 (ob x1 fun a9 =>
 ob (ld1 a9 h) fun y10 =>
 ob (bin Tryz.prog .sub 3 y7 (.int .i64 1)) fun y11 =>
 b2 (ybs Tryz.prog 44 1 [0] [y11] h) fun y12 h12 =>
 b2 (ybl Tryz.prog .append #[44, 44] [y10, y12] h12) fun y13 h13 =>
 ob x1 fun a14 =>
 ob (st 1 a14 y13 h13) fun h15 =>
 ob x7 fun a16 =>
 ob (bin Tryz.prog .add 3 a16 (.int .i64 1)) fun y17 =>
 n x1 x5 x6 (some y17) h15)
 (ob x7 fun a18 =>
 ob (bin Tryz.prog .add 3 a18 (.int .i64 1)) fun y19 =>
 n x1 x5 x6 (some y19) h))
 (e0 h)
theorem q321_20_eq (C : YC) (lf : Nat) (n : K4) (e0 : K0) (KR : KF) (KE : KX) : ∀ F h, evX fx321 C lf [1, 0, 0] F h (fun F h => n (F 1) (F 5) (F 6) (F 7) h) KR (bk 0 (fun F h => e0 h) KE) = q321_20 C lf n e0 (F 1) (F 5) (F 6) (F 7) h := by
  intro F h; kernel_rfl
noncomputable def l321_0 (C : YC) (lf : Nat) (e0 : K0) (k : O × O × O × O → HW → Rs) (s : O × O × O × O) (h : HW) : Rs :=
 q321_20 C lf (fun x1 x5 x6 x7 h => k (x1, x5, x6, x7) h) e0 s.1 s.2.1 s.2.2.1 s.2.2.2 h
noncomputable def q321_23 (C : YC) (lf : Nat) (n : K4) (x0 x1 : O) (h : HW) : Rs :=
 ob x0 fun a21 =>
 ob (lenE Tryz.prog 44 a21) fun y22 =>
 n x1 (some a21) (some y22) (some (.int .i64 0)) h
theorem q321_23_eq (C : YC) (lf : Nat) (n : K4) (KR : KF) (KE : KX) : ∀ F h, evX fx321 C lf [0] F h (fun F h => n (F 1) (F 5) (F 6) (F 7) h) KR KE = q321_23 C lf n (F 0) (F 1) h := by
  intro F h; kernel_rfl
noncomputable def q321_24 (C : YC) (lf : Nat) (n : K0) (x0 x1 : O) (h : HW) : Rs :=
 q321_23 C lf (fun x1 x5 x6 x7 h => lp (l321_0 C lf n) lf (x1, x5, x6, x7) h) x0 x1 h
theorem q321_24_eq (C : YC) (lf : Nat) (n : K0) (KR : KF) (KE : KX) : ∀ F h, evX fx321 C lf [] F h (fun F h => n h) KR KE = q321_24 C lf n (F 0) (F 1) h := cSeq (a := subX fx321 [0]) (b := subX fx321 [1]) (by kernel_rfl) (B := (fun F h => lp (l321_0 C lf n) lf ((F 1), (F 5), (F 6), (F 7)) h)) (cBlock (id := 0) (a := subX fx321 [1, 0]) (by kernel_rfl) (cLoop (a := subX fx321 [1, 0, 0]) (g := fun F => (F 1, F 5, F 6, F 7)) (body := l321_0 C lf n) (by kernel_rfl) (fun k => (q321_20_eq C lf (fun x1 x5 x6 x7 h => k (x1, x5, x6, x7) h) n KR KE)))) (q321_23_eq C lf (fun x1 x5 x6 x7 h => lp (l321_0 C lf n) lf (x1, x5, x6, x7) h) KR KE)
noncomputable def fs321 (C : YC) (lf : Nat) (a0 a1 : SV) (h : HW) : Rs := q321_24 C lf ff321 (some a0) (some a1) h
theorem fs321_eq (C : YC) (lf : Nat) (a0 a1 : SV) (h : HW) : yFn Tryz.prog fx321 C lf [a0, a1] h = fs321 C lf a0 a1 h := fnX (K := (fun F h => ff321 h)) (by kernel_rfl) (((q321_24_eq C lf ff321 (fun F h => ff321 h) (fun _ _ _ => none)) _ h).trans (by kernel_rfl))
noncomputable def fy321 : YX Tryz.prog := Y2 fx321 fs321 fs321_eq (by kernel_rfl)

/-! FN 330 (*tinsel/blocks.Store).Read -/
noncomputable def fx330 : XF Tryz.prog := ⟨330, Tryz.f330, fun _ => .text, Tryz.func330, by kernel_rfl, by kernel_rfl, by kernel_rfl, by kernel_rfl⟩
noncomputable def ff330 (x4 x5 : O) (h : HW) : Rs :=
 ob x4 fun a0 =>
 ob x5 fun a1 =>
 some (.ret (.tup [a0, a1]), h)
noncomputable def q330_19 (C : YC) (lf : Nat) (r : K2) (x0 x1 : O) (h : HW) : Rs :=
 ob x0 fun a2 =>
 bc (C (.fn 285) [a2] h) fun y3 h3 =>
 ob (unE .not y3) fun y4 =>
 yIf y4
 (r (some (.val (.slice none 0 0))) (some (.int .i64 14)) h3)
 (ob x0 fun a5 =>
 ob x1 fun a6 =>
 bc (C (.fn 286) [a5, a6] h3) fun y7 h7 =>
 ob (unE .not y7) fun y8 =>
 yIf y8
 (r (some (.val (.slice none 0 0))) (some (.int .i64 22)) h7)
 (ob x0 fun a9 =>
 ob (semNil a9) fun y10 =>
 ob (fa 65 y10) fun y11 =>
 ob (ld1 y11 h7) fun y12 =>
 ob x1 fun a13 =>
 ob (ixS 64 y12 a13) fun y14 =>
 ob (ldN 64 y14 h7) fun y15 =>
 b2 (yAl Tryz.prog 182 h7) fun y16 h16 =>
 ob (st 64 y16 y15 h16) fun h17 =>
 ob (semSlice Tryz.prog 182 y16 none none) fun y18 =>
 r (some y18) (some (.int .i64 0)) h17))
theorem q330_19_eq (C : YC) (lf : Nat) (r : K2) (KN : KF) (KE : KX) : ∀ F h, evX fx330 C lf [] F h KN (fun F h => r (F 4) (F 5) h) KE = q330_19 C lf r (F 0) (F 1) h := by
  intro F h; kernel_rfl
noncomputable def fs330 (C : YC) (lf : Nat) (a0 a1 : SV) (h : HW) : Rs := q330_19 C lf ff330 (some a0) (some a1) h
theorem fs330_eq (C : YC) (lf : Nat) (a0 a1 : SV) (h : HW) : yFn Tryz.prog fx330 C lf [a0, a1] h = fs330 C lf a0 a1 h := fnX (K := (fun F h => ff330 (F 4) (F 5) h)) (by kernel_rfl) (((q330_19_eq C lf ff330 (fun F h => ff330 (F 4) (F 5) h) (fun _ _ _ => none)) _ h).trans (by kernel_rfl))
noncomputable def fy330 : YX Tryz.prog := Y2 fx330 fs330 fs330_eq (by kernel_rfl)

/-! NAT 331 internal/bytealg.IndexByteString -/
noncomputable def gx331 : XN Tryz.prog := { f := 331, fn := Tryz.f331, k := .indexByte, isFn := Tryz.func331, isPlain := by kernel_rfl, noBody := by kernel_rfl, noNext := by kernel_rfl, isK := by kernel_rfl }

/-! FN 332 math/bits.TrailingZeros64 -/
noncomputable def fx332 : XF Tryz.prog := ⟨332, Tryz.f332, fun _ => .text, Tryz.func332, by kernel_rfl, by kernel_rfl, by kernel_rfl, by kernel_rfl⟩
noncomputable def ff332 (x2 : O) (h : HW) : Rs :=
 ob x2 fun a0 =>
 some (.ret a0, h)
noncomputable def q332_13 (C : YC) (lf : Nat) (r : K1) (x0 : O) (h : HW) : Rs :=
 ob x0 fun a1 =>
 ob (bin Tryz.prog .eql 372 a1 (.int .u64 0)) fun y2 =>
 yIf y2
 (r (some (.int .i64 64)) h)
 (ob x0 fun a3 =>
 ob x0 fun a4 =>
 ob (unE .neg a4) fun y5 =>
 ob (bin Tryz.prog .and 372 a3 y5) fun y6 =>
 ob (bin Tryz.prog .mul 372 y6 (.int .u64 285870213051353865)) fun y7 =>
 ob (bin Tryz.prog .shr 372 y7 (.int .u64 58)) fun y8 =>
 gl h.ng 1 fun a9 =>
 ob (ixA 64 1 a9 y8) fun y10 =>
 ob (ld1 y10 h) fun y11 =>
 ob (cvI .i64 y11) fun y12 =>
 r (some y12) h)
theorem q332_13_eq (C : YC) (lf : Nat) (r : K1) (KN : KF) (KE : KX) : ∀ F h, evX fx332 C lf [] F h KN (fun F h => r (F 2) h) KE = q332_13 C lf r (F 0) h := by
  intro F h; kernel_rfl
noncomputable def fs332 (C : YC) (lf : Nat) (a0 : SV) (h : HW) : Rs := q332_13 C lf ff332 (some a0) h
theorem fs332_eq (C : YC) (lf : Nat) (a0 : SV) (h : HW) : yFn Tryz.prog fx332 C lf [a0] h = fs332 C lf a0 h := fnX (K := (fun F h => ff332 (F 2) h)) (by kernel_rfl) (((q332_13_eq C lf ff332 (fun F h => ff332 (F 2) h) (fun _ _ _ => none)) _ h).trans (by kernel_rfl))
noncomputable def fy332 : YX Tryz.prog := Y1 fx332 fs332 fs332_eq (by kernel_rfl)

/-! FN 343 strings.ContainsAny -/
noncomputable def fx343 : XF Tryz.prog := ⟨343, Tryz.f343, fun _ => .text, Tryz.func343, by kernel_rfl, by kernel_rfl, by kernel_rfl, by kernel_rfl⟩
noncomputable def ff343 (x4 : O) (h : HW) : Rs :=
 ob x4 fun a0 =>
 some (.ret a0, h)
noncomputable def q343_5 (C : YC) (lf : Nat) (r : K1) (x0 x1 : O) (h : HW) : Rs :=
 ob x0 fun a1 =>
 ob x1 fun a2 =>
 bc (C (.fn 358) [a1, a2] h) fun y3 h3 =>
 ob (bin Tryz.prog .geq 3 y3 (.int .i64 0)) fun y4 =>
 r (some y4) h3
theorem q343_5_eq (C : YC) (lf : Nat) (r : K1) (KN : KF) (KE : KX) : ∀ F h, evX fx343 C lf [] F h KN (fun F h => r (F 4) h) KE = q343_5 C lf r (F 0) (F 1) h := by
  intro F h; kernel_rfl
noncomputable def fs343 (C : YC) (lf : Nat) (a0 a1 : SV) (h : HW) : Rs := q343_5 C lf ff343 (some a0) (some a1) h
theorem fs343_eq (C : YC) (lf : Nat) (a0 a1 : SV) (h : HW) : yFn Tryz.prog fx343 C lf [a0, a1] h = fs343 C lf a0 a1 h := fnX (K := (fun F h => ff343 (F 4) h)) (by kernel_rfl) (((q343_5_eq C lf ff343 (fun F h => ff343 (F 4) h) (fun _ _ _ => none)) _ h).trans (by kernel_rfl))
noncomputable def fy343 : YX Tryz.prog := Y2 fx343 fs343 fs343_eq (by kernel_rfl)

/-! FN 344 bytes.IndexByte -/
noncomputable def fx344 : XF Tryz.prog := ⟨344, Tryz.f344, fun _ => .text, Tryz.func344, by kernel_rfl, by kernel_rfl, by kernel_rfl, by kernel_rfl⟩
noncomputable def ff344 (x4 : O) (h : HW) : Rs :=
 ob x4 fun a0 =>
 some (.ret a0, h)
noncomputable def q344_4 (C : YC) (lf : Nat) (r : K1) (x0 x1 : O) (h : HW) : Rs :=
 ob x0 fun a1 =>
 ob x1 fun a2 =>
 bc (C (.fn 359) [a1, a2] h) fun y3 h3 =>
 r (some y3) h3
theorem q344_4_eq (C : YC) (lf : Nat) (r : K1) (KN : KF) (KE : KX) : ∀ F h, evX fx344 C lf [] F h KN (fun F h => r (F 4) h) KE = q344_4 C lf r (F 0) (F 1) h := by
  intro F h; kernel_rfl
noncomputable def fs344 (C : YC) (lf : Nat) (a0 a1 : SV) (h : HW) : Rs := q344_4 C lf ff344 (some a0) (some a1) h
theorem fs344_eq (C : YC) (lf : Nat) (a0 a1 : SV) (h : HW) : yFn Tryz.prog fx344 C lf [a0, a1] h = fs344 C lf a0 a1 h := fnX (K := (fun F h => ff344 (F 4) h)) (by kernel_rfl) (((q344_4_eq C lf ff344 (fun F h => ff344 (F 4) h) (fun _ _ _ => none)) _ h).trans (by kernel_rfl))
noncomputable def fy344 : YX Tryz.prog := Y2 fx344 fs344 fs344_eq (by kernel_rfl)

/-! FN 358 strings.IndexAny -/
noncomputable def fx358 : XF Tryz.prog := ⟨358, Tryz.f358, fun _ => .text, Tryz.func358, by kernel_rfl, by kernel_rfl, by kernel_rfl, by kernel_rfl⟩
noncomputable def ff358 (x4 : O) (h : HW) : Rs :=
 ob x4 fun a0 =>
 some (.ret a0, h)
noncomputable def q358_1 (C : YC) (lf : Nat) (r : K1) (h : HW) : Rs :=
 r (some (.int .i64 (-1))) h
theorem q358_1_eq (C : YC) (lf : Nat) (r : K1) (KN : KF) (KE : KX) : ∀ F h, evX fx358 C lf [1, 1, 1, 1, 1] F h KN (fun F h => r (F 4) h) KE = q358_1 C lf r h := by
  intro F h; kernel_rfl
noncomputable def q358_11 (C : YC) (lf : Nat) (n : K2) (r : K1) (e2 : K0) (x1 x45 : O) (h : HW) : Rs :=
 ob x45 fun a3 =>
 b2 (ynx a3 h) fun y4 h4 =>
 ob (ext 0 y4) fun y5 =>
 yIf y5
 (ob (ext 1 y4) fun y6 =>
 ob (ext 2 y4) fun y7 =>
 ob x1 fun a8 =>
 bc (C (.fn 363) [a8, y7] h4) fun y9 h9 =>
 ob (bin Tryz.prog .geq 3 y9 (.int .i64 0)) fun y10 =>
 yIf y10
 (r (some y6) h9)
 (n x1 x45 h9))
 (e2 h4)
theorem q358_11_eq (C : YC) (lf : Nat) (n : K2) (r : K1) (e2 : K0) (KE : KX) : ∀ F h, evX fx358 C lf [1, 1, 1, 1, 0, 1, 0, 0] F h (fun F h => n (F 1) (F 45) h) (fun F h => r (F 4) h) (bk 2 (fun F h => e2 h) KE) = q358_11 C lf n r e2 (F 1) (F 45) h := by
  intro F h; kernel_rfl
noncomputable def l358_2 (C : YC) (lf : Nat) (r : K1) (e2 : K0) (k : O × O → HW → Rs) (s : O × O) (h : HW) : Rs :=
 q358_11 C lf (fun x1 x45 h => k (x1, x45) h) r e2 s.1 s.2 h
noncomputable def q358_14 (C : YC) (lf : Nat) (n : K2) (x0 x1 : O) (h : HW) : Rs :=
 ob x0 fun a12 =>
 b2 (yrg Tryz.prog 9 a12 h) fun y13 h13 =>
 n x1 (some y13) h13
theorem q358_14_eq (C : YC) (lf : Nat) (n : K2) (KR : KF) (KE : KX) : ∀ F h, evX fx358 C lf [1, 1, 1, 1, 0, 0] F h (fun F h => n (F 1) (F 45) h) KR KE = q358_14 C lf n (F 0) (F 1) h := by
  intro F h; kernel_rfl
noncomputable def q358_15 (C : YC) (lf : Nat) (n : K0) (r : K1) (x0 x1 : O) (h : HW) : Rs :=
 q358_14 C lf (fun x1 x45 h => lp (l358_2 C lf r n) lf (x1, x45) h) x0 x1 h
theorem q358_15_eq (C : YC) (lf : Nat) (n : K0) (r : K1) (KE : KX) : ∀ F h, evX fx358 C lf [1, 1, 1, 1, 0] F h (fun F h => n h) (fun F h => r (F 4) h) KE = q358_15 C lf n r (F 0) (F 1) h := cSeq (a := subX fx358 [1, 1, 1, 1, 0, 0]) (b := subX fx358 [1, 1, 1, 1, 0, 1]) (by kernel_rfl) (B := (fun F h => lp (l358_2 C lf r n) lf ((F 1), (F 45)) h)) (cBlock (id := 2) (a := subX fx358 [1, 1, 1, 1, 0, 1, 0]) (by kernel_rfl) (cLoop (a := subX fx358 [1, 1, 1, 1, 0, 1, 0, 0]) (g := fun F => (F 1, F 45)) (body := l358_2 C lf r n) (by kernel_rfl) (fun k => (q358_11_eq C lf (fun x1 x45 h => k (x1, x45) h) r n KE)))) (q358_14_eq C lf (fun x1 x45 h => lp (l358_2 C lf r n) lf (x1, x45) h) (fun F h => r (F 4) h) KE)
noncomputable def q358_16 (C : YC) (lf : Nat) (r : K1) (x0 x1 : O) (h : HW) : Rs :=
 q358_15 C lf (fun h => q358_1 C lf r h) r x0 x1 h
theorem q358_16_eq (C : YC) (lf : Nat) (r : K1) (KN : KF) (KE : KX) : ∀ F h, evX fx358 C lf [1, 1, 1, 1] F h KN (fun F h => r (F 4) h) KE = q358_16 C lf r (F 0) (F 1) h := cSeq (a := subX fx358 [1, 1, 1, 1, 0]) (b := subX fx358 [1, 1, 1, 1, 1]) (by kernel_rfl) (B := (fun F h => q358_1 C lf r h)) (q358_1_eq C lf r KN KE) (q358_15_eq C lf (fun h => q358_1 C lf r h) r KE)
noncomputable def q358_17 (C : YC) (lf : Nat) (r : K1) (h : HW) : Rs :=
 r (some (.int .i64 (-1))) h
theorem q358_17_eq (C : YC) (lf : Nat) (r : K1) (KN : KF) (KE : KX) : ∀ F h, evX fx358 C lf [1, 1, 1, 0, 1, 0, 1, 1, 0, 1] F h KN (fun F h => r (F 4) h) KE = q358_17 C lf r h := by
  intro F h; kernel_rfl
noncomputable def q358_31 (C : YC) (lf : Nat) (n : K3) (r : K1) (e0 : K0) (x0 x6 x8 : O) (h : HW) : Rs :=
 ob x8 fun a19 =>
 ob x0 fun a20 =>
 ob (lenE Tryz.prog 9 a20) fun y21 =>
 ob (bin Tryz.prog .lss 3 a19 y21) fun y22 =>
 yIf y22
 (ob x0 fun a23 =>
 ob x8 fun a24 =>
 ob (semIndex Tryz.prog 9 a23 a24) fun y25 =>
 ob x6 fun a26 =>
 bc (C (.fn 366) [a26, y25] h) fun y27 h27 =>
 yIf y27
 (ob x8 fun a28 =>
 r (some a28) h27)
 (ob x8 fun a29 =>
 ob (bin Tryz.prog .add 3 a29 (.int .i64 1)) fun y30 =>
 n x0 x6 (some y30) h27))
 (e0 h)
theorem q358_31_eq (C : YC) (lf : Nat) (n : K3) (r : K1) (e0 : K0) (KE : KX) : ∀ F h, evX fx358 C lf [1, 1, 1, 0, 1, 0, 1, 1, 0, 0, 1, 0, 0] F h (fun F h => n (F 0) (F 6) (F 8) h) (fun F h => r (F 4) h) (bk 0 (fun F h => e0 h) KE) = q358_31 C lf n r e0 (F 0) (F 6) (F 8) h := by
  intro F h; kernel_rfl
noncomputable def l358_18 (C : YC) (lf : Nat) (r : K1) (e0 : K0) (k : O × O × O → HW → Rs) (s : O × O × O) (h : HW) : Rs :=
 q358_31 C lf (fun x0 x6 x8 h => k (x0, x6, x8) h) r e0 s.1 s.2.1 s.2.2 h
noncomputable def q358_32 (C : YC) (lf : Nat) (n : K3) (x0 x6 : O) (h : HW) : Rs :=
 n x0 x6 (some (.int .i64 0)) h
theorem q358_32_eq (C : YC) (lf : Nat) (n : K3) (KR : KF) (KE : KX) : ∀ F h, evX fx358 C lf [1, 1, 1, 0, 1, 0, 1, 1, 0, 0, 0] F h (fun F h => n (F 0) (F 6) (F 8) h) KR KE = q358_32 C lf n (F 0) (F 6) h := by
  intro F h; kernel_rfl
noncomputable def q358_33 (C : YC) (lf : Nat) (n : K0) (r : K1) (x0 x6 : O) (h : HW) : Rs :=
 q358_32 C lf (fun x0 x6 x8 h => lp (l358_18 C lf r n) lf (x0, x6, x8) h) x0 x6 h
theorem q358_33_eq (C : YC) (lf : Nat) (n : K0) (r : K1) (KE : KX) : ∀ F h, evX fx358 C lf [1, 1, 1, 0, 1, 0, 1, 1, 0, 0] F h (fun F h => n h) (fun F h => r (F 4) h) KE = q358_33 C lf n r (F 0) (F 6) h := cSeq (a := subX fx358 [1, 1, 1, 0, 1, 0, 1, 1, 0, 0, 0]) (b := subX fx358 [1, 1, 1, 0, 1, 0, 1, 1, 0, 0, 1]) (by kernel_rfl) (B := (fun F h => lp (l358_18 C lf r n) lf ((F 0), (F 6), (F 8)) h)) (cBlock (id := 0) (a := subX fx358 [1, 1, 1, 0, 1, 0, 1, 1, 0, 0, 1, 0]) (by kernel_rfl) (cLoop (a := subX fx358 [1, 1, 1, 0, 1, 0, 1, 1, 0, 0, 1, 0, 0]) (g := fun F => (F 0, F 6, F 8)) (body := l358_18 C lf r n) (by kernel_rfl) (fun k => (q358_31_eq C lf (fun x0 x6 x8 h => k (x0, x6, x8) h) r n KE)))) (q358_32_eq C lf (fun x0 x6 x8 h => lp (l358_18 C lf r n) lf (x0, x6, x8) h) (fun F h => r (F 4) h) KE)
noncomputable def q358_34 (C : YC) (lf : Nat) (r : K1) (x0 x6 : O) (h : HW) : Rs :=
 q358_33 C lf (fun h => q358_17 C lf r h) r x0 x6 h
theorem q358_34_eq (C : YC) (lf : Nat) (r : K1) (KN : KF) (KE : KX) : ∀ F h, evX fx358 C lf [1, 1, 1, 0, 1, 0, 1, 1, 0] F h KN (fun F h => r (F 4) h) KE = q358_34 C lf r (F 0) (F 6) h := cSeq (a := subX fx358 [1, 1, 1, 0, 1, 0, 1, 1, 0, 0]) (b := subX fx358 [1, 1, 1, 0, 1, 0, 1, 1, 0, 1]) (by kernel_rfl) (B := (fun F h => q358_17 C lf r h)) (q358_17_eq C lf r KN KE) (q358_33_eq C lf (fun h => q358_17 C lf r h) r KE)
noncomputable def q358_35 (C : YC) (lf : Nat) (n : K2) (x0 x1 : O) (h : HW) : Rs :=
 n x0 x1 h
theorem q358_35_eq (C : YC) (lf : Nat) (n : K2) (KR : KF) (KE : KX) : ∀ F h, evX fx358 C lf [1, 1, 1, 0, 1, 0, 1, 1, 1] F h (fun F h => n (F 0) (F 1) h) KR KE = q358_35 C lf n (F 0) (F 1) h := by
  intro F h; kernel_rfl
noncomputable def q358_37 (C : YC) (lf : Nat) (n : K2) (r : K1) (x0 x1 x6 x32 : O) (h : HW) : Rs :=
 ob x32 fun a36 =>
 yIf a36
 (q358_34 C lf r x0 x6 h)
 (q358_35 C lf n x0 x1 h)
theorem q358_37_eq (C : YC) (lf : Nat) (n : K2) (r : K1) (KE : KX) : ∀ F h, evX fx358 C lf [1, 1, 1, 0, 1, 0, 1, 1] F h (fun F h => n (F 0) (F 1) h) (fun F h => r (F 4) h) KE = q358_37 C lf n r (F 0) (F 1) (F 6) (F 32) h := cCond (x := .tmp 32) (by kernel_rfl) (q358_34_eq C lf r (fun F h => n (F 0) (F 1) h) KE) (q358_35_eq C lf n (fun F h => r (F 4) h) KE)
noncomputable def q358_39 (C : YC) (lf : Nat) (n : K4) (x0 x1 x6 x7 : O) (h : HW) : Rs :=
 ob x7 fun a38 =>
 n x0 x1 x6 (some a38) h
theorem q358_39_eq (C : YC) (lf : Nat) (n : K4) (KR : KF) (KE : KX) : ∀ F h, evX fx358 C lf [1, 1, 1, 0, 1, 0, 1, 0] F h (fun F h => n (F 0) (F 1) (F 6) (F 32) h) KR KE = q358_39 C lf n (F 0) (F 1) (F 6) (F 7) h := by
  intro F h; kernel_rfl
noncomputable def q358_40 (C : YC) (lf : Nat) (n : K2) (r : K1) (x0 x1 x6 x7 : O) (h : HW) : Rs :=
 q358_39 C lf (fun x0 x1 x6 x32 h => q358_37 C lf n r x0 x1 x6 x32 h) x0 x1 x6 x7 h
theorem q358_40_eq (C : YC) (lf : Nat) (n : K2) (r : K1) (KE : KX) : ∀ F h, evX fx358 C lf [1, 1, 1, 0, 1, 0, 1] F h (fun F h => n (F 0) (F 1) h) (fun F h => r (F 4) h) KE = q358_40 C lf n r (F 0) (F 1) (F 6) (F 7) h := cSeq (a := subX fx358 [1, 1, 1, 0, 1, 0, 1, 0]) (b := subX fx358 [1, 1, 1, 0, 1, 0, 1, 1]) (by kernel_rfl) (B := (fun F h => q358_37 C lf n r (F 0) (F 1) (F 6) (F 32) h)) (q358_37_eq C lf n r KE) (q358_39_eq C lf (fun x0 x1 x6 x32 h => q358_37 C lf n r x0 x1 x6 x32 h) (fun F h => r (F 4) h) KE)
noncomputable def q358_47 (C : YC) (lf : Nat) (n : K4) (x0 x1 : O) (h : HW) : Rs :=
 ob x1 fun a41 =>
 bc (C (.fn 365) [a41] h) fun y42 h42 =>
 ob (ext 0 y42) fun y43 =>
 ob (ext 1 y42) fun y44 =>
 b2 (yAl Tryz.prog 446 h42) fun y45 h45 =>
 ob (st 256 y45 y43 h45) fun h46 =>
 n x0 x1 (some y45) (some y44) h46
theorem q358_47_eq (C : YC) (lf : Nat) (n : K4) (KR : KF) (KE : KX) : ∀ F h, evX fx358 C lf [1, 1, 1, 0, 1, 0, 0] F h (fun F h => n (F 0) (F 1) (F 6) (F 7) h) KR KE = q358_47 C lf n (F 0) (F 1) h := by
  intro F h; kernel_rfl
noncomputable def q358_48 (C : YC) (lf : Nat) (n : K2) (r : K1) (x0 x1 : O) (h : HW) : Rs :=
 q358_47 C lf (fun x0 x1 x6 x7 h => q358_40 C lf n r x0 x1 x6 x7 h) x0 x1 h
theorem q358_48_eq (C : YC) (lf : Nat) (n : K2) (r : K1) (KE : KX) : ∀ F h, evX fx358 C lf [1, 1, 1, 0, 1, 0] F h (fun F h => n (F 0) (F 1) h) (fun F h => r (F 4) h) KE = q358_48 C lf n r (F 0) (F 1) h := cSeq (a := subX fx358 [1, 1, 1, 0, 1, 0, 0]) (b := subX fx358 [1, 1, 1, 0, 1, 0, 1]) (by kernel_rfl) (B := (fun F h => q358_40 C lf n r (F 0) (F 1) (F 6) (F 7) h)) (q358_40_eq C lf n r KE) (q358_47_eq C lf (fun x0 x1 x6 x7 h => q358_40 C lf n r x0 x1 x6 x7 h) (fun F h => r (F 4) h) KE)
noncomputable def q358_49 (C : YC) (lf : Nat) (n : K2) (x0 x1 : O) (h : HW) : Rs :=
 n x0 x1 h
theorem q358_49_eq (C : YC) (lf : Nat) (n : K2) (KR : KF) (KE : KX) : ∀ F h, evX fx358 C lf [1, 1, 1, 0, 1, 1] F h (fun F h => n (F 0) (F 1) h) KR KE = q358_49 C lf n (F 0) (F 1) h := by
  intro F h; kernel_rfl
noncomputable def q358_51 (C : YC) (lf : Nat) (n : K2) (r : K1) (x0 x1 x26 : O) (h : HW) : Rs :=
 ob x26 fun a50 =>
 yIf a50
 (q358_48 C lf n r x0 x1 h)
 (q358_49 C lf n x0 x1 h)
theorem q358_51_eq (C : YC) (lf : Nat) (n : K2) (r : K1) (KE : KX) : ∀ F h, evX fx358 C lf [1, 1, 1, 0, 1] F h (fun F h => n (F 0) (F 1) h) (fun F h => r (F 4) h) KE = q358_51 C lf n r (F 0) (F 1) (F 26) h := cCond (x := .tmp 26) (by kernel_rfl) (q358_48_eq C lf n r KE) (q358_49_eq C lf n (fun F h => r (F 4) h) KE)
noncomputable def q358_55 (C : YC) (lf : Nat) (n : K3) (x0 x1 : O) (h : HW) : Rs :=
 ob x0 fun a52 =>
 ob (lenE Tryz.prog 9 a52) fun y53 =>
 bc (C (.fn 364) [y53] h) fun y54 h54 =>
 n x0 x1 (some y54) h54
theorem q358_55_eq (C : YC) (lf : Nat) (n : K3) (KR : KF) (KE : KX) : ∀ F h, evX fx358 C lf [1, 1, 1, 0, 0] F h (fun F h => n (F 0) (F 1) (F 26) h) KR KE = q358_55 C lf n (F 0) (F 1) h := by
  intro F h; kernel_rfl
noncomputable def q358_56 (C : YC) (lf : Nat) (n : K2) (r : K1) (x0 x1 : O) (h : HW) : Rs :=
 q358_55 C lf (fun x0 x1 x26 h => q358_51 C lf n r x0 x1 x26 h) x0 x1 h
theorem q358_56_eq (C : YC) (lf : Nat) (n : K2) (r : K1) (KE : KX) : ∀ F h, evX fx358 C lf [1, 1, 1, 0] F h (fun F h => n (F 0) (F 1) h) (fun F h => r (F 4) h) KE = q358_56 C lf n r (F 0) (F 1) h := cSeq (a := subX fx358 [1, 1, 1, 0, 0]) (b := subX fx358 [1, 1, 1, 0, 1]) (by kernel_rfl) (B := (fun F h => q358_51 C lf n r (F 0) (F 1) (F 26) h)) (q358_51_eq C lf n r KE) (q358_55_eq C lf (fun x0 x1 x26 h => q358_51 C lf n r x0 x1 x26 h) (fun F h => r (F 4) h) KE)
noncomputable def q358_57 (C : YC) (lf : Nat) (r : K1) (x0 x1 : O) (h : HW) : Rs :=
 q358_56 C lf (fun x0 x1 h => q358_16 C lf r x0 x1 h) r x0 x1 h
theorem q358_57_eq (C : YC) (lf : Nat) (r : K1) (KN : KF) (KE : KX) : ∀ F h, evX fx358 C lf [1, 1, 1] F h KN (fun F h => r (F 4) h) KE = q358_57 C lf r (F 0) (F 1) h := cSeq (a := subX fx358 [1, 1, 1, 0]) (b := subX fx358 [1, 1, 1, 1]) (by kernel_rfl) (B := (fun F h => q358_16 C lf r (F 0) (F 1) h)) (q358_16_eq C lf r KN KE) (q358_56_eq C lf (fun x0 x1 h => q358_16 C lf r x0 x1 h) r KE)
noncomputable def q358_69 (C : YC) (lf : Nat) (n : K2) (r : K1) (x0 x1 : O) (h : HW) : Rs :=
 ob x1 fun a58 =>
 ob (lenE Tryz.prog 9 a58) fun y59 =>
 ob (bin Tryz.prog .eql 3 y59 (.int .i64 1)) fun y60 =>
 yIf y60
 (ob x1 fun a61 =>
 ob (semIndex Tryz.prog 9 a61 (.int .i64 0)) fun y62 =>
 ob (cvI .i32 y62) fun y63 =>
 ob (bin Tryz.prog .geq 21 y63 (.int .i32 128)) fun y64 =>
 yIf y64
 (ob x0 fun a65 =>
 bc (C (.fn 363) [a65, (.int .i32 65533)] h) fun y66 h66 =>
 r (some y66) h66)
 (ob x0 fun a67 =>
 bc (C (.fn 363) [a67, y63] h) fun y68 h68 =>
 r (some y68) h68))
 (n x0 x1 h)
theorem q358_69_eq (C : YC) (lf : Nat) (n : K2) (r : K1) (KE : KX) : ∀ F h, evX fx358 C lf [1, 1, 0] F h (fun F h => n (F 0) (F 1) h) (fun F h => r (F 4) h) KE = q358_69 C lf n r (F 0) (F 1) h := by
  intro F h; kernel_rfl
noncomputable def q358_70 (C : YC) (lf : Nat) (r : K1) (x0 x1 : O) (h : HW) : Rs :=
 q358_69 C lf (fun x0 x1 h => q358_57 C lf r x0 x1 h) r x0 x1 h
theorem q358_70_eq (C : YC) (lf : Nat) (r : K1) (KN : KF) (KE : KX) : ∀ F h, evX fx358 C lf [1, 1] F h KN (fun F h => r (F 4) h) KE = q358_70 C lf r (F 0) (F 1) h := cSeq (a := subX fx358 [1, 1, 0]) (b := subX fx358 [1, 1, 1]) (by kernel_rfl) (B := (fun F h => q358_57 C lf r (F 0) (F 1) h)) (q358_57_eq C lf r KN KE) (q358_69_eq C lf (fun x0 x1 h => q358_57 C lf r x0 x1 h) r KE)
noncomputable def q358_73 (C : YC) (lf : Nat) (n : K2) (r : K1) (x0 x1 : O) (h : HW) : Rs :=
 ob x1 fun a71 =>
 ob (bin Tryz.prog .eql 9 a71 (.str (bs []))) fun y72 =>
 yIf y72
 (r (some (.int .i64 (-1))) h)
 (n x0 x1 h)
theorem q358_73_eq (C : YC) (lf : Nat) (n : K2) (r : K1) (KE : KX) : ∀ F h, evX fx358 C lf [1, 0] F h (fun F h => n (F 0) (F 1) h) (fun F h => r (F 4) h) KE = q358_73 C lf n r (F 0) (F 1) h := by
  intro F h; kernel_rfl
noncomputable def q358_74 (C : YC) (lf : Nat) (r : K1) (x0 x1 : O) (h : HW) : Rs :=
 q358_73 C lf (fun x0 x1 h => q358_70 C lf r x0 x1 h) r x0 x1 h
theorem q358_74_eq (C : YC) (lf : Nat) (r : K1) (KN : KF) (KE : KX) : ∀ F h, evX fx358 C lf [1] F h KN (fun F h => r (F 4) h) KE = q358_74 C lf r (F 0) (F 1) h := cSeq (a := subX fx358 [1, 0]) (b := subX fx358 [1, 1]) (by kernel_rfl) (B := (fun F h => q358_70 C lf r (F 0) (F 1) h)) (q358_70_eq C lf r KN KE) (q358_73_eq C lf (fun x0 x1 h => q358_70 C lf r x0 x1 h) r KE)
noncomputable def q358_75 (C : YC) (lf : Nat) (n : K2) (x0 x1 : O) (h : HW) : Rs :=
 n x0 x1 h
theorem q358_75_eq (C : YC) (lf : Nat) (n : K2) (KR : KF) (KE : KX) : ∀ F h, evX fx358 C lf [0] F h (fun F h => n (F 0) (F 1) h) KR KE = q358_75 C lf n (F 0) (F 1) h := by
  intro F h; kernel_rfl
noncomputable def q358_76 (C : YC) (lf : Nat) (r : K1) (x0 x1 : O) (h : HW) : Rs :=
 q358_75 C lf (fun x0 x1 h => q358_74 C lf r x0 x1 h) x0 x1 h
theorem q358_76_eq (C : YC) (lf : Nat) (r : K1) (KN : KF) (KE : KX) : ∀ F h, evX fx358 C lf [] F h KN (fun F h => r (F 4) h) KE = q358_76 C lf r (F 0) (F 1) h := cSeq (a := subX fx358 [0]) (b := subX fx358 [1]) (by kernel_rfl) (B := (fun F h => q358_74 C lf r (F 0) (F 1) h)) (q358_74_eq C lf r KN KE) (q358_75_eq C lf (fun x0 x1 h => q358_74 C lf r x0 x1 h) (fun F h => r (F 4) h) KE)
noncomputable def fs358 (C : YC) (lf : Nat) (a0 a1 : SV) (h : HW) : Rs := q358_76 C lf ff358 (some a0) (some a1) h
theorem fs358_eq (C : YC) (lf : Nat) (a0 a1 : SV) (h : HW) : yFn Tryz.prog fx358 C lf [a0, a1] h = fs358 C lf a0 a1 h := fnX (K := (fun F h => ff358 (F 4) h)) (by kernel_rfl) (((q358_76_eq C lf ff358 (fun F h => ff358 (F 4) h) (fun _ _ _ => none)) _ h).trans (by kernel_rfl))
noncomputable def fy358 : YX Tryz.prog := Y2 fx358 fs358 fs358_eq (by kernel_rfl)

/-! NAT 359 internal/bytealg.IndexByte -/
noncomputable def gx359 : XN Tryz.prog := { f := 359, fn := Tryz.f359, k := .indexByte, isFn := Tryz.func359, isPlain := by kernel_rfl, noBody := by kernel_rfl, noNext := by kernel_rfl, isK := by kernel_rfl }

/-! EV 363 strings.IndexRune: scope -/
noncomputable def fx363 : XF Tryz.prog := ⟨363, Tryz.f363, fun _ => .text, Tryz.func363, by kernel_rfl, by kernel_rfl, by kernel_rfl, by kernel_rfl⟩

/-! FN 364 strings.shouldUseASCIISet -/
noncomputable def fx364 : XF Tryz.prog := ⟨364, Tryz.f364, fun _ => .text, Tryz.func364, by kernel_rfl, by kernel_rfl, by kernel_rfl, by kernel_rfl⟩
noncomputable def ff364 (x2 : O) (h : HW) : Rs :=
 ob x2 fun a0 =>
 some (.ret a0, h)
noncomputable def q364_3 (C : YC) (lf : Nat) (r : K1) (x0 : O) (h : HW) : Rs :=
 ob x0 fun a1 =>
 ob (bin Tryz.prog .gtr 3 a1 (.int .i64 8)) fun y2 =>
 r (some y2) h
theorem q364_3_eq (C : YC) (lf : Nat) (r : K1) (KN : KF) (KE : KX) : ∀ F h, evX fx364 C lf [] F h KN (fun F h => r (F 2) h) KE = q364_3 C lf r (F 0) h := by
  intro F h; kernel_rfl
noncomputable def fs364 (C : YC) (lf : Nat) (a0 : SV) (h : HW) : Rs := q364_3 C lf ff364 (some a0) h
theorem fs364_eq (C : YC) (lf : Nat) (a0 : SV) (h : HW) : yFn Tryz.prog fx364 C lf [a0] h = fs364 C lf a0 h := fnX (K := (fun F h => ff364 (F 2) h)) (by kernel_rfl) (((q364_3_eq C lf ff364 (fun F h => ff364 (F 2) h) (fun _ _ _ => none)) _ h).trans (by kernel_rfl))
noncomputable def fy364 : YX Tryz.prog := Y1 fx364 fs364 fs364_eq (by kernel_rfl)

end Go.Proofs.YtoglpmfmnknlaaaGreatDoor.Eva
