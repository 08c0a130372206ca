/- Texts of functions of the program. -/
import Derived.Test.YtoglpmfmnknlaaaGreatDoorCards
import Derived.Test.YtoglpmfmnknlaaaGreatDoorXeYh
namespace Go.Proofs.YtoglpmfmnknlaaaGreatDoor.Eva
open Go.Xe
set_option maxRecDepth 100000
set_option linter.unusedVariables false
noncomputable def fx9 : XF Tryz.prog := ⟨9, Tryz.f9, fun _ => .text, Tryz.func9, by kernel_rfl, by kernel_rfl, by kernel_rfl, by kernel_rfl⟩
noncomputable def ff9 (x0 : O) (h : HW) : Rs :=
 ob x0 fun a0 =>
 some (.ret a0, h)
noncomputable def q9_4 (C : YC) (lf : Nat) (r : K1) (h : HW) : Rs :=
 bc (gd true (some (.bool true)) (bc (C (.fn 68) [] h) fun y1 h1 =>
 some (.ret y1, h1)) h) fun y2 h2 =>
 ob (ypk (.bool true) y2 (.bool false)) fun y3 =>
 r (some y3) h2
theorem q9_4_eq (C : YC) (lf : Nat) (r : K1) (KN : KF) (KE : KX) : ∀ F h, evX fx9 C lf [] F h KN (fun F h => r (F 0) h) KE = q9_4 C lf r h := by
  intro F h; kernel_rfl
noncomputable def fs9 (C : YC) (lf : Nat) (h : HW) : Rs := q9_4 C lf ff9 h
theorem fs9_eq (C : YC) (lf : Nat) (h : HW) : yFn Tryz.prog fx9 C lf [] h = fs9 C lf h := fnX (K := (fun F h => ff9 (F 0) h)) (by kernel_rfl) (((q9_4_eq C lf ff9 (fun F h => ff9 (F 0) h) (fun _ _ _ => none)) _ h).trans (by kernel_rfl))
noncomputable def fy9 : YX Tryz.prog := Y0 fx9 fs9 fs9_eq (by kernel_rfl)

noncomputable def fx18 : XF Tryz.prog := ⟨18, Tryz.f18, fun _ => .text, Tryz.func18, by kernel_rfl, by kernel_rfl, by kernel_rfl, by kernel_rfl⟩
noncomputable def ff18 (x4 : O) (h : HW) : Rs :=
 ob x4 fun a0 =>
 some (.ret a0, h)
noncomputable def q18_17 (C : YC) (lf : Nat) (r : K1) (x0 x1 : O) (h : HW) : Rs :=
 ob x0 fun a1 =>
 bc (C (.fn 47) [a1] h) fun y2 h2 =>
 ob (bin Tryz.prog .eql 43 y2 (.val (.pointer none))) fun y3 =>
 yIf y3
 (ob (semBuild Tryz.prog 41 [] []) fun y4 =>
 b2 (ybx 41 y4 h2) fun y5 h5 =>
 r (some y5) h5)
 (ob x1 fun a6 =>
 ob x1 fun a7 =>
 ob (lenE Tryz.prog 34 a7) fun y8 =>
 b2 (ybl Tryz.prog .min #[3, 3] [y8, (.int .i64 1000)] h2) fun y9 h9 =>
 ob (semSlice Tryz.prog 34 a6 none (some y9)) fun y10 =>
 ob x0 fun a11 =>
 ob (semBuild Tryz.prog 38 [0] [a11]) fun y12 =>
 b2 (ybl Tryz.prog .append #[34, 34] [(.val (.slice none 0 0)), y10] h9) fun y13 h13 =>
 b2 (ymm h13) fun y14 h14 =>
 ob (semBuild Tryz.prog 41 [0, 1, 2] [y12, y13, y14]) fun y15 =>
 b2 (ybx 41 y15 h14) fun y16 h16 =>
 r (some y16) h16)
theorem q18_17_eq (C : YC) (lf : Nat) (r : K1) (KN : KF) (KE : KX) : ∀ F h, evX fx18 C lf [] F h KN (fun F h => r (F 4) h) KE = q18_17 C lf r (F 0) (F 1) h := by
  intro F h; kernel_rfl
noncomputable def fs18 (C : YC) (lf : Nat) (a0 a1 : SV) (h : HW) : Rs := q18_17 C lf ff18 (some a0) (some a1) h
theorem fs18_eq (C : YC) (lf : Nat) (a0 a1 : SV) (h : HW) : yFn Tryz.prog fx18 C lf [a0, a1] h = fs18 C lf a0 a1 h := fnX (K := (fun F h => ff18 (F 4) h)) (by kernel_rfl) (((q18_17_eq C lf ff18 (fun F h => ff18 (F 4) h) (fun _ _ _ => none)) _ h).trans (by kernel_rfl))
noncomputable def fy18 : YX Tryz.prog := Y2 fx18 fs18 fs18_eq (by kernel_rfl)

noncomputable def fx19 : XF Tryz.prog := ⟨19, Tryz.f19, fun _ => .text, Tryz.func19, by kernel_rfl, by kernel_rfl, by kernel_rfl, by kernel_rfl⟩
noncomputable def ff19 (x8 x9 : O) (h : HW) : Rs :=
 ob x8 fun a0 =>
 ob x9 fun a1 =>
 some (.ret (.tup [a0, a1]), h)
noncomputable def q19_14 (C : YC) (lf : Nat) (r : K2) (x0 x1 x2 x3 : O) (h : HW) : Rs :=
 ob x0 fun a2 =>
 b2 (ybx 35 a2 h) fun y3 h3 =>
 ob x1 fun a4 =>
 b2 (ybx 9 a4 h3) fun y5 h5 =>
 ob x2 fun a6 =>
 b2 (ybx 3 a6 h5) fun y7 h7 =>
 ob x3 fun a8 =>
 b2 (ybx 30 a8 h7) fun y9 h9 =>
 ob (ld1 y3 h9) fun y10 =>
 bc (C (.fn 87) [y10, (.str (bs [111, 112, 101, 110])), (.fn (.func 88) [] [y3, y5, y7, y9])] h9) fun y11 h11 =>
 ob (ext 0 y11) fun y12 =>
 ob (ext 1 y11) fun y13 =>
 r (some y12) (some y13) h11
theorem q19_14_eq (C : YC) (lf : Nat) (r : K2) (KN : KF) (KE : KX) : ∀ F h, evX fx19 C lf [] F h KN (fun F h => r (F 8) (F 9) h) KE = q19_14 C lf r (F 0) (F 1) (F 2) (F 3) h := by
  intro F h; kernel_rfl
noncomputable def fs19 (C : YC) (lf : Nat) (a0 a1 a2 a3 : SV) (h : HW) : Rs := q19_14 C lf ff19 (some a0) (some a1) (some a2) (some a3) h
theorem fs19_eq (C : YC) (lf : Nat) (a0 a1 a2 a3 : SV) (h : HW) : yFn Tryz.prog fx19 C lf [a0, a1, a2, a3] h = fs19 C lf a0 a1 a2 a3 h := fnX (K := (fun F h => ff19 (F 8) (F 9) h)) (by kernel_rfl) (((q19_14_eq C lf ff19 (fun F h => ff19 (F 8) (F 9) h) (fun _ _ _ => none)) _ h).trans (by kernel_rfl))
noncomputable def fy19 : YX Tryz.prog := Y4 fx19 fs19 fs19_eq (by kernel_rfl)

noncomputable def fx23 : XF Tryz.prog := ⟨23, Tryz.f23, fun _ => .text, Tryz.func23, by kernel_rfl, by kernel_rfl, by kernel_rfl, by kernel_rfl⟩
noncomputable def ff23 (x4 : O) (h : HW) : Rs :=
 ob x4 fun a0 =>
 some (.ret a0, h)
noncomputable def q23_7 (C : YC) (lf : Nat) (r : K1) (x0 x1 : O) (h : HW) : Rs :=
 ob x0 fun a1 =>
 b2 (ybx 35 a1 h) fun y2 h2 =>
 ob x1 fun a3 =>
 b2 (ybx 3 a3 h2) fun y4 h4 =>
 ob (ld1 y2 h4) fun y5 =>
 bc (C (.fn 94) [y5, (.str (bs [99, 108, 111, 115, 101])), (.fn (.func 95) [] [y2, y4])] h4) fun y6 h6 =>
 r (some y6) h6
theorem q23_7_eq (C : YC) (lf : Nat) (r : K1) (KN : KF) (KE : KX) : ∀ F h, evX fx23 C lf [] F h KN (fun F h => r (F 4) h) KE = q23_7 C lf r (F 0) (F 1) h := by
  intro F h; kernel_rfl
noncomputable def fs23 (C : YC) (lf : Nat) (a0 a1 : SV) (h : HW) : Rs := q23_7 C lf ff23 (some a0) (some a1) h
theorem fs23_eq (C : YC) (lf : Nat) (a0 a1 : SV) (h : HW) : yFn Tryz.prog fx23 C lf [a0, a1] h = fs23 C lf a0 a1 h := fnX (K := (fun F h => ff23 (F 4) h)) (by kernel_rfl) (((q23_7_eq C lf ff23 (fun F h => ff23 (F 4) h) (fun _ _ _ => none)) _ h).trans (by kernel_rfl))
noncomputable def fy23 : YX Tryz.prog := Y2 fx23 fs23 fs23_eq (by kernel_rfl)

noncomputable def fx29 : XF Tryz.prog := ⟨29, Tryz.f29, fun _ => .text, Tryz.func29, by kernel_rfl, by kernel_rfl, by kernel_rfl, by kernel_rfl⟩
noncomputable def ff29 (x2 : O) (h : HW) : Rs :=
 ob x2 fun a0 =>
 some (.ret a0, h)
noncomputable def q29_4 (C : YC) (lf : Nat) (r : K1) (x0 : O) (h : HW) : Rs :=
 ob x0 fun a1 =>
 bc (C (.fn 89) [a1] h) fun y2 h2 =>
 ob (fd1 0 y2) fun y3 =>
 r (some y3) h2
theorem q29_4_eq (C : YC) (lf : Nat) (r : K1) (KN : KF) (KE : KX) : ∀ F h, evX fx29 C lf [] F h KN (fun F h => r (F 2) h) KE = q29_4 C lf r (F 0) h := by
  intro F h; kernel_rfl
noncomputable def fs29 (C : YC) (lf : Nat) (a0 : SV) (h : HW) : Rs := q29_4 C lf ff29 (some a0) h
theorem fs29_eq (C : YC) (lf : Nat) (a0 : SV) (h : HW) : yFn Tryz.prog fx29 C lf [a0] h = fs29 C lf a0 h := fnX (K := (fun F h => ff29 (F 2) h)) (by kernel_rfl) (((q29_4_eq C lf ff29 (fun F h => ff29 (F 2) h) (fun _ _ _ => none)) _ h).trans (by kernel_rfl))
noncomputable def fy29 : YX Tryz.prog := Y1 fx29 fs29 fs29_eq (by kernel_rfl)

noncomputable def fx36 : XF Tryz.prog := ⟨36, Tryz.f36, fun _ => .text, Tryz.func36, by kernel_rfl, by kernel_rfl, by kernel_rfl, by kernel_rfl⟩
noncomputable def ff36 (x8 x9 : O) (h : HW) : Rs :=
 ob x8 fun a0 =>
 ob x9 fun a1 =>
 some (.ret (.tup [a0, a1]), h)
noncomputable def q36_47 (C : YC) (lf : Nat) (r : K2) (x0 x1 x2 x3 : O) (h : HW) : Rs :=
 ob x0 fun a2 =>
 bc (C (.fn 103) [a2] h) fun y3 h3 =>
 ob (unE .not y3) fun y4 =>
 yIf y4
 (r (some (.int .i64 0)) (some (.int .i64 14)) h3)
 (ob x2 fun a5 =>
 ob (bin Tryz.prog .and 3 a5 (.int .i64 3)) fun y6 =>
 ob (bin Tryz.prog .eql 3 y6 (.int .i64 0)) fun y7 =>
 bc (gd false (some y7) (ob x2 fun a8 =>
 some (.ret a8, h3)) h3) fun y9 h9 =>
 bc (gd false (some y7) (ob (bin Tryz.prog .andNot 3 y9 (.int .i64 255)) fun y10 =>
 some (.ret y10, h9)) h9) fun y11 h11 =>
 bc (gd false (some y7) (ob (bin Tryz.prog .neq 3 y11 (.int .i64 0)) fun y12 =>
 some (.ret y12, h11)) h11) fun y13 h13 =>
 ob (ypk y7 (.bool true) y13) fun y14 =>
 yIf y14
 (r (some (.int .i64 0)) (some (.int .i64 22)) h13)
 (ob x0 fun a15 =>
 bc (C (.fn 104) [a15] h13) fun y16 h16 =>
 ob (bin Tryz.prog .eql 3 y16 (.int .i64 0)) fun y17 =>
 yIf y17
 (r (some (.int .i64 0)) (some (.int .i64 24)) h16)
 (ob x0 fun a18 =>
 ob (semNil a18) fun y19 =>
 ob (fa 0 y19) fun y20 =>
 ob (ld1 y20 h16) fun y21 =>
 ob x0 fun a22 =>
 ob (semNil a22) fun y23 =>
 ob (fa 1 y23) fun y24 =>
 ob (ldN 5 y24 h16) fun y25 =>
 ob x1 fun a26 =>
 ob x2 fun a27 =>
 ob x3 fun a28 =>
 bcn (C (.fn 105) [y21, y25, a26, a27, a28] h16) fun y29 h29 =>
 ob (ext 0 y29) fun y30 =>
 ob (ext 1 y29) fun y31 =>
 ob (bin Tryz.prog .neq 23 y31 (.int .i64 0)) fun y32 =>
 yIf y32
 (r (some (.int .i64 0)) (some y31) h29)
 (ob x0 fun a33 =>
 ob x0 fun a34 =>
 ob (semNil a34) fun y35 =>
 ob (fa 0 y35) fun y36 =>
 ob (ld1 y36 h29) fun y37 =>
 ob x2 fun a38 =>
 ob (bin Tryz.prog .and 3 a38 (.int .i64 4)) fun y39 =>
 ob (bin Tryz.prog .neq 3 y39 (.int .i64 0)) fun y40 =>
 ob (semBuild Tryz.prog 157 [0, 1, 3] [y37, y30, y40]) fun y41 =>
 b2 (ybx 157 y41 h29) fun y42 h42 =>
 ob x2 fun a43 =>
 ob (semBuild Tryz.prog 161 [0, 1] [(.ifc 155 y42), a43]) fun y44 =>
 b2 (ybx 161 y44 h42) fun y45 h45 =>
 bc (C (.fn 106) [a33, y45] h45) fun y46 h46 =>
 r (some y46) (some (.int .i64 0)) h46))))
theorem q36_47_eq (C : YC) (lf : Nat) (r : K2) (KN : KF) (KE : KX) : ∀ F h, evX fx36 C lf [] F h KN (fun F h => r (F 8) (F 9) h) KE = q36_47 C lf r (F 0) (F 1) (F 2) (F 3) h := by
  intro F h; kernel_rfl
noncomputable def fs36 (C : YC) (lf : Nat) (a0 a1 a2 a3 : SV) (h : HW) : Rs := q36_47 C lf ff36 (some a0) (some a1) (some a2) (some a3) h
theorem fs36_eq (C : YC) (lf : Nat) (a0 a1 a2 a3 : SV) (h : HW) : yFn Tryz.prog fx36 C lf [a0, a1, a2, a3] h = fs36 C lf a0 a1 a2 a3 h := fnX (K := (fun F h => ff36 (F 8) (F 9) h)) (by kernel_rfl) (((q36_47_eq C lf ff36 (fun F h => ff36 (F 8) (F 9) h) (fun _ _ _ => none)) _ h).trans (by kernel_rfl))
noncomputable def fy36 : YX Tryz.prog := Y4 fx36 fs36 fs36_eq (by kernel_rfl)

noncomputable def fx42 : XF Tryz.prog := ⟨42, Tryz.f42, fun _ => .text, Tryz.func42, by kernel_rfl, by kernel_rfl, by kernel_rfl, by kernel_rfl⟩
noncomputable def ff42 (x4 x5 x6 : O) (h : HW) : Rs :=
 ob x4 fun a0 =>
 ob (ldN 3 a0 h) fun y1 =>
 ob x5 fun a2 =>
 ob x6 fun a3 =>
 some (.ret (.tup [y1, a2, a3]), h)
noncomputable def q42_33 (C : YC) (lf : Nat) (r : K3) (x4 x9 : O) (h : HW) : Rs :=
 ob x9 fun a4 =>
 ob (semNil a4) fun y5 =>
 ob (fa 4 y5) fun y6 =>
 ob (ld1 y6 h) fun y7 =>
 ob (lenE Tryz.prog 123 y7) fun y8 =>
 ob (bin Tryz.prog .eql 3 y8 (.int .i64 0)) fun y9 =>
 yIf y9
 (ob (semBuild Tryz.prog 81 [] []) fun y10 =>
 ob x4 fun a11 =>
 ob (st 3 a11 y10 h) fun h12 =>
 r x4 (some (.bool false)) (some (.int .i64 0)) h12)
 (ob x9 fun a13 =>
 ob (semNil a13) fun y14 =>
 ob (fa 4 y14) fun y15 =>
 ob (ld1 y15 h) fun y16 =>
 ob (ixS 3 y16 (.int .i64 0)) fun y17 =>
 ob (ldN 3 y17 h) fun y18 =>
 b2 (yAl Tryz.prog 81 h) fun y19 h19 =>
 ob (st 3 y19 y18 h19) fun h20 =>
 ob x9 fun a21 =>
 ob x9 fun a22 =>
 ob (semNil a22) fun y23 =>
 ob (fa 4 y23) fun y24 =>
 ob (ld1 y24 h20) fun y25 =>
 ob (semSlice Tryz.prog 123 y25 (some (.int .i64 1)) none) fun y26 =>
 ob (semNil a21) fun y27 =>
 ob (fa 4 y27) fun y28 =>
 ob (st 1 y28 y26 h20) fun h29 =>
 ob (ldN 3 y19 h29) fun y30 =>
 ob x4 fun a31 =>
 ob (st 3 a31 y30 h29) fun h32 =>
 r x4 (some (.bool true)) (some (.int .i64 0)) h32)
theorem q42_33_eq (C : YC) (lf : Nat) (r : K3) (KN : KF) (KE : KX) : ∀ F h, evX fx42 C lf [1, 1, 1, 1, 1, 1] F h KN (fun F h => r (F 4) (F 5) (F 6) h) KE = q42_33 C lf r (F 4) (F 9) h := by
  intro F h; kernel_rfl
noncomputable def q42_62 (C : YC) (lf : Nat) (n : K2) (r : K3) (x0 x4 x9 : O) (h : HW) : Rs :=
 ob x9 fun a34 =>
 ob (semNil a34) fun y35 =>
 ob (fa 5 y35) fun y36 =>
 ob (ld1 y36 h) fun y37 =>
 ob (unE .not y37) fun y38 =>
 yIf y38
 (ob x0 fun a39 =>
 ob (semNil a39) fun y40 =>
 ob (fa 0 y40) fun y41 =>
 ob (ld1 y41 h) fun y42 =>
 ob x9 fun a43 =>
 ob (semNil a43) fun y44 =>
 ob (fa 1 y44) fun y45 =>
 ob (ld1 y45 h) fun y46 =>
 bcn (C (.fn 110) [y42, y46] h) fun y47 h47 =>
 ob (ext 0 y47) fun y48 =>
 ob (ext 1 y47) fun y49 =>
 ob (bin Tryz.prog .neq 23 y49 (.int .i64 0)) fun y50 =>
 yIf y50
 (ob (semBuild Tryz.prog 81 [] []) fun y51 =>
 ob x4 fun a52 =>
 ob (st 3 a52 y51 h47) fun h53 =>
 r x4 (some (.bool false)) (some y49) h53)
 (ob x9 fun a54 =>
 ob x9 fun a55 =>
 ob (semNil a54) fun y56 =>
 ob (fa 4 y56) fun y57 =>
 ob (st 1 y57 y48 h47) fun h58 =>
 ob (semNil a55) fun y59 =>
 ob (fa 5 y59) fun y60 =>
 ob (st 1 y60 (.bool true) h58) fun h61 =>
 n x4 x9 h61))
 (n x4 x9 h)
theorem q42_62_eq (C : YC) (lf : Nat) (n : K2) (r : K3) (KE : KX) : ∀ F h, evX fx42 C lf [1, 1, 1, 1, 1, 0] F h (fun F h => n (F 4) (F 9) h) (fun F h => r (F 4) (F 5) (F 6) h) KE = q42_62 C lf n r (F 0) (F 4) (F 9) h := by
  intro F h; kernel_rfl
noncomputable def q42_63 (C : YC) (lf : Nat) (r : K3) (x0 x4 x9 : O) (h : HW) : Rs :=
 q42_62 C lf (fun x4 x9 h => q42_33 C lf r x4 x9 h) r x0 x4 x9 h
theorem q42_63_eq (C : YC) (lf : Nat) (r : K3) (KN : KF) (KE : KX) : ∀ F h, evX fx42 C lf [1, 1, 1, 1, 1] F h KN (fun F h => r (F 4) (F 5) (F 6) h) KE = q42_63 C lf r (F 0) (F 4) (F 9) h := cSeq (a := subX fx42 [1, 1, 1, 1, 1, 0]) (b := subX fx42 [1, 1, 1, 1, 1, 1]) (by kernel_rfl) (B := (fun F h => q42_33 C lf r (F 4) (F 9) h)) (q42_33_eq C lf r KN KE) (q42_62_eq C lf (fun x4 x9 h => q42_33 C lf r x4 x9 h) r KE)
noncomputable def q42_69 (C : YC) (lf : Nat) (n : K3) (r : K3) (x0 x4 x9 x10 : O) (h : HW) : Rs :=
 ob x10 fun a64 =>
 ob (unE .not a64) fun y65 =>
 yIf y65
 (ob (semBuild Tryz.prog 81 [] []) fun y66 =>
 ob x4 fun a67 =>
 ob (st 3 a67 y66 h) fun h68 =>
 r x4 (some (.bool false)) (some (.int .i64 20)) h68)
 (n x0 x4 x9 h)
theorem q42_69_eq (C : YC) (lf : Nat) (n : K3) (r : K3) (KE : KX) : ∀ F h, evX fx42 C lf [1, 1, 1, 1, 0] F h (fun F h => n (F 0) (F 4) (F 9) h) (fun F h => r (F 4) (F 5) (F 6) h) KE = q42_69 C lf n r (F 0) (F 4) (F 9) (F 10) h := by
  intro F h; kernel_rfl
noncomputable def q42_70 (C : YC) (lf : Nat) (r : K3) (x0 x4 x9 x10 : O) (h : HW) : Rs :=
 q42_69 C lf (fun x0 x4 x9 h => q42_63 C lf r x0 x4 x9 h) r x0 x4 x9 x10 h
theorem q42_70_eq (C : YC) (lf : Nat) (r : K3) (KN : KF) (KE : KX) : ∀ F h, evX fx42 C lf [1, 1, 1, 1] F h KN (fun F h => r (F 4) (F 5) (F 6) h) KE = q42_70 C lf r (F 0) (F 4) (F 9) (F 10) h := cSeq (a := subX fx42 [1, 1, 1, 1, 0]) (b := subX fx42 [1, 1, 1, 1, 1]) (by kernel_rfl) (B := (fun F h => q42_63 C lf r (F 0) (F 4) (F 9) h)) (q42_63_eq C lf r KN KE) (q42_69_eq C lf (fun x0 x4 x9 h => q42_63 C lf r x0 x4 x9 h) r KE)
noncomputable def q42_78 (C : YC) (lf : Nat) (n : K4) (x0 x4 x7 : O) (h : HW) : Rs :=
 ob x7 fun a71 =>
 ob (semNil a71) fun y72 =>
 ob (fa 0 y72) fun y73 =>
 ob (ld1 y73 h) fun y74 =>
 ob (semAssert Tryz.prog y74 155 true) fun y75 =>
 ob (ext 0 y75) fun y76 =>
 ob (ext 1 y75) fun y77 =>
 n x0 x4 (some y76) (some y77) h
theorem q42_78_eq (C : YC) (lf : Nat) (n : K4) (KR : KF) (KE : KX) : ∀ F h, evX fx42 C lf [1, 1, 1, 0] F h (fun F h => n (F 0) (F 4) (F 9) (F 10) h) KR KE = q42_78 C lf n (F 0) (F 4) (F 7) h := by
  intro F h; kernel_rfl
noncomputable def q42_79 (C : YC) (lf : Nat) (r : K3) (x0 x4 x7 : O) (h : HW) : Rs :=
 q42_78 C lf (fun x0 x4 x9 x10 h => q42_70 C lf r x0 x4 x9 x10 h) x0 x4 x7 h
theorem q42_79_eq (C : YC) (lf : Nat) (r : K3) (KN : KF) (KE : KX) : ∀ F h, evX fx42 C lf [1, 1, 1] F h KN (fun F h => r (F 4) (F 5) (F 6) h) KE = q42_79 C lf r (F 0) (F 4) (F 7) h := cSeq (a := subX fx42 [1, 1, 1, 0]) (b := subX fx42 [1, 1, 1, 1]) (by kernel_rfl) (B := (fun F h => q42_70 C lf r (F 0) (F 4) (F 9) (F 10) h)) (q42_70_eq C lf r KN KE) (q42_78_eq C lf (fun x0 x4 x9 x10 h => q42_70 C lf r x0 x4 x9 x10 h) (fun F h => r (F 4) (F 5) (F 6) h) KE)
noncomputable def q42_86 (C : YC) (lf : Nat) (n : K3) (r : K3) (x0 x4 x7 x8 : O) (h : HW) : Rs :=
 ob x8 fun a80 =>
 ob (bin Tryz.prog .neq 23 a80 (.int .i64 0)) fun y81 =>
 yIf y81
 (ob (semBuild Tryz.prog 81 [] []) fun y82 =>
 ob x8 fun a83 =>
 ob x4 fun a84 =>
 ob (st 3 a84 y82 h) fun h85 =>
 r x4 (some (.bool false)) (some a83) h85)
 (n x0 x4 x7 h)
theorem q42_86_eq (C : YC) (lf : Nat) (n : K3) (r : K3) (KE : KX) : ∀ F h, evX fx42 C lf [1, 1, 0] F h (fun F h => n (F 0) (F 4) (F 7) h) (fun F h => r (F 4) (F 5) (F 6) h) KE = q42_86 C lf n r (F 0) (F 4) (F 7) (F 8) h := by
  intro F h; kernel_rfl
noncomputable def q42_87 (C : YC) (lf : Nat) (r : K3) (x0 x4 x7 x8 : O) (h : HW) : Rs :=
 q42_86 C lf (fun x0 x4 x7 h => q42_79 C lf r x0 x4 x7 h) r x0 x4 x7 x8 h
theorem q42_87_eq (C : YC) (lf : Nat) (r : K3) (KN : KF) (KE : KX) : ∀ F h, evX fx42 C lf [1, 1] F h KN (fun F h => r (F 4) (F 5) (F 6) h) KE = q42_87 C lf r (F 0) (F 4) (F 7) (F 8) h := cSeq (a := subX fx42 [1, 1, 0]) (b := subX fx42 [1, 1, 1]) (by kernel_rfl) (B := (fun F h => q42_79 C lf r (F 0) (F 4) (F 7) h)) (q42_79_eq C lf r KN KE) (q42_86_eq C lf (fun x0 x4 x7 h => q42_79 C lf r x0 x4 x7 h) r KE)
noncomputable def q42_93 (C : YC) (lf : Nat) (n : K4) (x0 x1 x4 : O) (h : HW) : Rs :=
 ob x0 fun a88 =>
 ob x1 fun a89 =>
 bc (C (.fn 107) [a88, a89] h) fun y90 h90 =>
 ob (ext 0 y90) fun y91 =>
 ob (ext 1 y90) fun y92 =>
 n x0 x4 (some y91) (some y92) h90
theorem q42_93_eq (C : YC) (lf : Nat) (n : K4) (KR : KF) (KE : KX) : ∀ F h, evX fx42 C lf [1, 0] F h (fun F h => n (F 0) (F 4) (F 7) (F 8) h) KR KE = q42_93 C lf n (F 0) (F 1) (F 4) h := by
  intro F h; kernel_rfl
noncomputable def q42_94 (C : YC) (lf : Nat) (r : K3) (x0 x1 x4 : O) (h : HW) : Rs :=
 q42_93 C lf (fun x0 x4 x7 x8 h => q42_87 C lf r x0 x4 x7 x8 h) x0 x1 x4 h
theorem q42_94_eq (C : YC) (lf : Nat) (r : K3) (KN : KF) (KE : KX) : ∀ F h, evX fx42 C lf [1] F h KN (fun F h => r (F 4) (F 5) (F 6) h) KE = q42_94 C lf r (F 0) (F 1) (F 4) h := cSeq (a := subX fx42 [1, 0]) (b := subX fx42 [1, 1]) (by kernel_rfl) (B := (fun F h => q42_87 C lf r (F 0) (F 4) (F 7) (F 8) h)) (q42_87_eq C lf r KN KE) (q42_93_eq C lf (fun x0 x4 x7 x8 h => q42_87 C lf r x0 x4 x7 x8 h) (fun F h => r (F 4) (F 5) (F 6) h) KE)
noncomputable def q42_96 (C : YC) (lf : Nat) (n : K3) (x0 x1 : O) (h : HW) : Rs :=
 b2 (yAl Tryz.prog 81 h) fun y95 h95 =>
 n x0 x1 (some y95) h95
theorem q42_96_eq (C : YC) (lf : Nat) (n : K3) (KR : KF) (KE : KX) : ∀ F h, evX fx42 C lf [0] F h (fun F h => n (F 0) (F 1) (F 4) h) KR KE = q42_96 C lf n (F 0) (F 1) h := by
  intro F h; kernel_rfl
noncomputable def q42_97 (C : YC) (lf : Nat) (r : K3) (x0 x1 : O) (h : HW) : Rs :=
 q42_96 C lf (fun x0 x1 x4 h => q42_94 C lf r x0 x1 x4 h) x0 x1 h
theorem q42_97_eq (C : YC) (lf : Nat) (r : K3) (KN : KF) (KE : KX) : ∀ F h, evX fx42 C lf [] F h KN (fun F h => r (F 4) (F 5) (F 6) h) KE = q42_97 C lf r (F 0) (F 1) h := cSeq (a := subX fx42 [0]) (b := subX fx42 [1]) (by kernel_rfl) (B := (fun F h => q42_94 C lf r (F 0) (F 1) (F 4) h)) (q42_94_eq C lf r KN KE) (q42_96_eq C lf (fun x0 x1 x4 h => q42_94 C lf r x0 x1 x4 h) (fun F h => r (F 4) (F 5) (F 6) h) KE)
noncomputable def fs42 (C : YC) (lf : Nat) (a0 a1 : SV) (h : HW) : Rs := q42_97 C lf ff42 (some a0) (some a1) h
theorem fs42_eq (C : YC) (lf : Nat) (a0 a1 : SV) (h : HW) : yFn Tryz.prog fx42 C lf [a0, a1] h = fs42 C lf a0 a1 h := fnX (K := (fun F h => ff42 (F 4) (F 5) (F 6) h)) (by kernel_rfl) (((q42_97_eq C lf ff42 (fun F h => ff42 (F 4) (F 5) (F 6) h) (fun _ _ _ => none)) _ h).trans (by kernel_rfl))
noncomputable def fy42 : YX Tryz.prog := Y2 fx42 fs42 fs42_eq (by kernel_rfl)

noncomputable def fx45 : XF Tryz.prog := ⟨45, Tryz.f45, fun _ => .text, Tryz.func45, by kernel_rfl, by kernel_rfl, by kernel_rfl, by kernel_rfl⟩
noncomputable def ff45 (x4 : O) (h : HW) : Rs :=
 ob x4 fun a0 =>
 some (.ret a0, h)
noncomputable def q45_10 (C : YC) (lf : Nat) (r : K1) (x0 x1 : O) (h : HW) : Rs :=
 ob x0 fun a1 =>
 ob x1 fun a2 =>
 bc (C (.fn 107) [a1, a2] h) fun y3 h3 =>
 ob (ext 0 y3) fun y4 =>
 ob (ext 1 y3) fun y5 =>
 ob (bin Tryz.prog .neq 23 y5 (.int .i64 0)) fun y6 =>
 yIf y6
 (r (some y5) h3)
 (ob x0 fun a7 =>
 ob x1 fun a8 =>
 bc (C (.fn 111) [a7, a8] h3) fun y9 h9 =>
 r (some (.int .i64 0)) h9)
theorem q45_10_eq (C : YC) (lf : Nat) (r : K1) (KN : KF) (KE : KX) : ∀ F h, evX fx45 C lf [] F h KN (fun F h => r (F 4) h) KE = q45_10 C lf r (F 0) (F 1) h := by
  intro F h; kernel_rfl
noncomputable def fs45 (C : YC) (lf : Nat) (a0 a1 : SV) (h : HW) : Rs := q45_10 C lf ff45 (some a0) (some a1) h
theorem fs45_eq (C : YC) (lf : Nat) (a0 a1 : SV) (h : HW) : yFn Tryz.prog fx45 C lf [a0, a1] h = fs45 C lf a0 a1 h := fnX (K := (fun F h => ff45 (F 4) h)) (by kernel_rfl) (((q45_10_eq C lf ff45 (fun F h => ff45 (F 4) h) (fun _ _ _ => none)) _ h).trans (by kernel_rfl))
noncomputable def fy45 : YX Tryz.prog := Y2 fx45 fs45 fs45_eq (by kernel_rfl)

noncomputable def fx47 : XF Tryz.prog := ⟨47, Tryz.f47, fun _ => .text, Tryz.func47, by kernel_rfl, by kernel_rfl, by kernel_rfl, by kernel_rfl⟩
noncomputable def ff47 (x2 : O) (h : HW) : Rs :=
 ob x2 fun a0 =>
 some (.ret a0, h)
noncomputable def q47_8 (C : YC) (lf : Nat) (r : K1) (x0 : O) (h : HW) : Rs :=
 ob x0 fun a1 =>
 bc (C (.fn 103) [a1] h) fun y2 h2 =>
 ob (unE .not y2) fun y3 =>
 yIf y3
 (r (some (.val (.pointer none))) h2)
 (ob x0 fun a4 =>
 ob (semNil a4) fun y5 =>
 ob (fa 0 y5) fun y6 =>
 ob (ld1 y6 h2) fun y7 =>
 r (some y7) h2)
theorem q47_8_eq (C : YC) (lf : Nat) (r : K1) (KN : KF) (KE : KX) : ∀ F h, evX fx47 C lf [] F h KN (fun F h => r (F 2) h) KE = q47_8 C lf r (F 0) h := by
  intro F h; kernel_rfl
noncomputable def fs47 (C : YC) (lf : Nat) (a0 : SV) (h : HW) : Rs := q47_8 C lf ff47 (some a0) h
theorem fs47_eq (C : YC) (lf : Nat) (a0 : SV) (h : HW) : yFn Tryz.prog fx47 C lf [a0] h = fs47 C lf a0 h := fnX (K := (fun F h => ff47 (F 2) h)) (by kernel_rfl) (((q47_8_eq C lf ff47 (fun F h => ff47 (F 2) h) (fun _ _ _ => none)) _ h).trans (by kernel_rfl))
noncomputable def fy47 : YX Tryz.prog := Y1 fx47 fs47 fs47_eq (by kernel_rfl)

noncomputable def fx48 : XF Tryz.prog := ⟨48, Tryz.f48, fun _ => .text, Tryz.func48, by kernel_rfl, by kernel_rfl, by kernel_rfl, by kernel_rfl⟩
noncomputable def ff48 (x2 : O) (h : HW) : Rs :=
 ob x2 fun a0 =>
 some (.ret a0, h)
noncomputable def q48_2 (C : YC) (lf : Nat) (r : K1) (x3 : O) (h : HW) : Rs :=
 ob x3 fun a1 =>
 r (some a1) h
theorem q48_2_eq (C : YC) (lf : Nat) (r : K1) (KN : KF) (KE : KX) : ∀ F h, evX fx48 C lf [1, 1, 1, 1] F h KN (fun F h => r (F 2) h) KE = q48_2 C lf r (F 3) h := by
  intro F h; kernel_rfl
noncomputable def q48_20 (C : YC) (lf : Nat) (n : K3) (e0 : K1) (x0 x3 x8 : O) (h : HW) : Rs :=
 ob x8 fun a4 =>
 ob (bin Tryz.prog .lss 3 a4 (.int .i64 16)) fun y5 =>
 yIf y5
 (ob x8 fun a6 =>
 ob x0 fun a7 =>
 ob (semNil a7) fun y8 =>
 ob (fa 6 y8) fun y9 =>
 ob (ixA 16 1 y9 a6) fun y10 =>
 ob (ld1 y10 h) fun y11 =>
 ob (bin Tryz.prog .neq 47 y11 (.val (.pointer none))) fun y12 =>
 yIf y12
 (ob x3 fun a13 =>
 b2 (ybs Tryz.prog 44 1 [0] [a6] h) fun y14 h14 =>
 b2 (ybl Tryz.prog .append #[44, 44] [a13, y14] h14) fun y15 h15 =>
 ob x8 fun a16 =>
 ob (bin Tryz.prog .add 3 a16 (.int .i64 1)) fun y17 =>
 n x0 (some y15) (some y17) h15)
 (ob x8 fun a18 =>
 ob (bin Tryz.prog .add 3 a18 (.int .i64 1)) fun y19 =>
 n x0 x3 (some y19) h))
 (e0 x3 h)
theorem q48_20_eq (C : YC) (lf : Nat) (n : K3) (e0 : K1) (KR : KF) (KE : KX) : ∀ F h, evX fx48 C lf [1, 1, 1, 0, 1, 0, 0] F h (fun F h => n (F 0) (F 3) (F 8) h) KR (bk 0 (fun F h => e0 (F 3) h) KE) = q48_20 C lf n e0 (F 0) (F 3) (F 8) h := by
  intro F h; kernel_rfl
noncomputable def l48_3 (C : YC) (lf : Nat) (e0 : K1) (k : O × O × O → HW → Rs) (s : O × O × O) (h : HW) : Rs :=
 q48_20 C lf (fun x0 x3 x8 h => k (x0, x3, x8) h) e0 s.1 s.2.1 s.2.2 h
noncomputable def q48_21 (C : YC) (lf : Nat) (n : K3) (x0 x3 : O) (h : HW) : Rs :=
 n x0 x3 (some (.int .i64 0)) h
theorem q48_21_eq (C : YC) (lf : Nat) (n : K3) (KR : KF) (KE : KX) : ∀ F h, evX fx48 C lf [1, 1, 1, 0, 0] F h (fun F h => n (F 0) (F 3) (F 8) h) KR KE = q48_21 C lf n (F 0) (F 3) h := by
  intro F h; kernel_rfl
noncomputable def q48_22 (C : YC) (lf : Nat) (n : K1) (x0 x3 : O) (h : HW) : Rs :=
 q48_21 C lf (fun x0 x3 x8 h => lp (l48_3 C lf n) lf (x0, x3, x8) h) x0 x3 h
theorem q48_22_eq (C : YC) (lf : Nat) (n : K1) (KR : KF) (KE : KX) : ∀ F h, evX fx48 C lf [1, 1, 1, 0] F h (fun F h => n (F 3) h) KR KE = q48_22 C lf n (F 0) (F 3) h := cSeq (a := subX fx48 [1, 1, 1, 0, 0]) (b := subX fx48 [1, 1, 1, 0, 1]) (by kernel_rfl) (B := (fun F h => lp (l48_3 C lf n) lf ((F 0), (F 3), (F 8)) h)) (cBlock (id := 0) (a := subX fx48 [1, 1, 1, 0, 1, 0]) (by kernel_rfl) (cLoop (a := subX fx48 [1, 1, 1, 0, 1, 0, 0]) (g := fun F => (F 0, F 3, F 8)) (body := l48_3 C lf n) (by kernel_rfl) (fun k => (q48_20_eq C lf (fun x0 x3 x8 h => k (x0, x3, x8) h) n KR KE)))) (q48_21_eq C lf (fun x0 x3 x8 h => lp (l48_3 C lf n) lf (x0, x3, x8) h) KR KE)
noncomputable def q48_23 (C : YC) (lf : Nat) (r : K1) (x0 x3 : O) (h : HW) : Rs :=
 q48_22 C lf (fun x3 h => q48_2 C lf r x3 h) x0 x3 h
theorem q48_23_eq (C : YC) (lf : Nat) (r : K1) (KN : KF) (KE : KX) : ∀ F h, evX fx48 C lf [1, 1, 1] F h KN (fun F h => r (F 2) h) KE = q48_23 C lf r (F 0) (F 3) h := cSeq (a := subX fx48 [1, 1, 1, 0]) (b := subX fx48 [1, 1, 1, 1]) (by kernel_rfl) (B := (fun F h => q48_2 C lf r (F 3) h)) (q48_2_eq C lf r KN KE) (q48_22_eq C lf (fun x3 h => q48_2 C lf r x3 h) (fun F h => r (F 2) h) KE)
noncomputable def q48_24 (C : YC) (lf : Nat) (n : K2) (x0 : O) (h : HW) : Rs :=
 n x0 (some (.val (.slice none 0 0))) h
theorem q48_24_eq (C : YC) (lf : Nat) (n : K2) (KR : KF) (KE : KX) : ∀ F h, evX fx48 C lf [1, 1, 0] F h (fun F h => n (F 0) (F 3) h) KR KE = q48_24 C lf n (F 0) h := by
  intro F h; kernel_rfl
noncomputable def q48_25 (C : YC) (lf : Nat) (r : K1) (x0 : O) (h : HW) : Rs :=
 q48_24 C lf (fun x0 x3 h => q48_23 C lf r x0 x3 h) x0 h
theorem q48_25_eq (C : YC) (lf : Nat) (r : K1) (KN : KF) (KE : KX) : ∀ F h, evX fx48 C lf [1, 1] F h KN (fun F h => r (F 2) h) KE = q48_25 C lf r (F 0) h := cSeq (a := subX fx48 [1, 1, 0]) (b := subX fx48 [1, 1, 1]) (by kernel_rfl) (B := (fun F h => q48_23 C lf r (F 0) (F 3) h)) (q48_23_eq C lf r KN KE) (q48_24_eq C lf (fun x0 x3 h => q48_23 C lf r x0 x3 h) (fun F h => r (F 2) h) KE)
noncomputable def q48_29 (C : YC) (lf : Nat) (n : K1) (r : K1) (x0 : O) (h : HW) : Rs :=
 ob x0 fun a26 =>
 bc (C (.fn 103) [a26] h) fun y27 h27 =>
 ob (unE .not y27) fun y28 =>
 yIf y28
 (r (some (.val (.slice none 0 0))) h27)
 (n x0 h27)
theorem q48_29_eq (C : YC) (lf : Nat) (n : K1) (r : K1) (KE : KX) : ∀ F h, evX fx48 C lf [1, 0] F h (fun F h => n (F 0) h) (fun F h => r (F 2) h) KE = q48_29 C lf n r (F 0) h := by
  intro F h; kernel_rfl
noncomputable def q48_30 (C : YC) (lf : Nat) (r : K1) (x0 : O) (h : HW) : Rs :=
 q48_29 C lf (fun x0 h => q48_25 C lf r x0 h) r x0 h
theorem q48_30_eq (C : YC) (lf : Nat) (r : K1) (KN : KF) (KE : KX) : ∀ F h, evX fx48 C lf [1] F h KN (fun F h => r (F 2) h) KE = q48_30 C lf r (F 0) h := cSeq (a := subX fx48 [1, 0]) (b := subX fx48 [1, 1]) (by kernel_rfl) (B := (fun F h => q48_25 C lf r (F 0) h)) (q48_25_eq C lf r KN KE) (q48_29_eq C lf (fun x0 h => q48_25 C lf r x0 h) r KE)
noncomputable def q48_31 (C : YC) (lf : Nat) (n : K1) (x0 : O) (h : HW) : Rs :=
 n x0 h
theorem q48_31_eq (C : YC) (lf : Nat) (n : K1) (KR : KF) (KE : KX) : ∀ F h, evX fx48 C lf [0] F h (fun F h => n (F 0) h) KR KE = q48_31 C lf n (F 0) h := by
  intro F h; kernel_rfl
noncomputable def q48_32 (C : YC) (lf : Nat) (r : K1) (x0 : O) (h : HW) : Rs :=
 q48_31 C lf (fun x0 h => q48_30 C lf r x0 h) x0 h
theorem q48_32_eq (C : YC) (lf : Nat) (r : K1) (KN : KF) (KE : KX) : ∀ F h, evX fx48 C lf [] F h KN (fun F h => r (F 2) h) KE = q48_32 C lf r (F 0) h := cSeq (a := subX fx48 [0]) (b := subX fx48 [1]) (by kernel_rfl) (B := (fun F h => q48_30 C lf r (F 0) h)) (q48_30_eq C lf r KN KE) (q48_31_eq C lf (fun x0 h => q48_30 C lf r x0 h) (fun F h => r (F 2) h) KE)
noncomputable def fs48 (C : YC) (lf : Nat) (a0 : SV) (h : HW) : Rs := q48_32 C lf ff48 (some a0) h
theorem fs48_eq (C : YC) (lf : Nat) (a0 : SV) (h : HW) : yFn Tryz.prog fx48 C lf [a0] h = fs48 C lf a0 h := fnX (K := (fun F h => ff48 (F 2) h)) (by kernel_rfl) (((q48_32_eq C lf ff48 (fun F h => ff48 (F 2) h) (fun _ _ _ => none)) _ h).trans (by kernel_rfl))
noncomputable def fy48 : YX Tryz.prog := Y1 fx48 fs48 fs48_eq (by kernel_rfl)

noncomputable def fx51 : XF Tryz.prog := ⟨51, Tryz.f51, fun _ => .text, Tryz.func51, by kernel_rfl, by kernel_rfl, by kernel_rfl, by kernel_rfl⟩
noncomputable def ff51 (x4 x5 : O) (h : HW) : Rs :=
 ob x4 fun a0 =>
 ob x5 fun a1 =>
 some (.ret (.tup [a0, a1]), h)
noncomputable def q51_36 (C : YC) (lf : Nat) (r : K2) (x0 x3 x6 : O) (h : HW) : Rs :=
 ob x0 fun a2 =>
 ob x3 fun a3 =>
 ob (fa 4 a3) fun y4 =>
 ob (ld1 y4 h) fun y5 =>
 bc (C (.fn 118) [a2, y5] h) fun y6 h6 =>
 ob (ext 0 y6) fun y7 =>
 ob (ext 1 y6) fun y8 =>
 b2 (yAl Tryz.prog 58 h6) fun y9 h9 =>
 ob (st 10 y9 y7 h9) fun h10 =>
 ob x6 fun a11 =>
 bc (gd false (some a11) (some (.ret y8, h10)) h10) fun y12 h12 =>
 bc (gd false (some a11) (ob (bin Tryz.prog .neq 23 y12 (.int .i64 0)) fun y13 =>
 some (.ret y13, h12)) h12) fun y14 h14 =>
 ob (ypk a11 (.bool true) y14) fun y15 =>
 bc (gd false (some y15) (ob (fa 6 y9) fun y16 =>
 some (.ret y16, h14)) h14) fun y17 h17 =>
 bc (gd false (some y15) (ob (ld1 y17 h17) fun y18 =>
 some (.ret y18, h17)) h17) fun y19 h19 =>
 bc (gd false (some y15) (ob (bin Tryz.prog .and 30 y19 (.int .i64 61440)) fun y20 =>
 some (.ret y20, h19)) h19) fun y21 h21 =>
 bc (gd false (some y15) (ob (bin Tryz.prog .neq 30 y21 (.int .i64 16384)) fun y22 =>
 some (.ret y22, h21)) h21) fun y23 h23 =>
 ob (ypk y15 (.bool true) y23) fun y24 =>
 yIf y24
 (r (some (.val (.pointer none))) (some (.int .i64 22)) h23)
 (ob x0 fun a25 =>
 ob x3 fun a26 =>
 ob (fa 4 a26) fun y27 =>
 ob (ld1 y27 h23) fun y28 =>
 bc (C (.fn 119) [a25, y28] h23) fun y29 h29 =>
 ob x0 fun a30 =>
 ob x3 fun a31 =>
 ob (ldN 5 a31 h29) fun y32 =>
 bc (C (.fn 116) [y32] h29) fun y33 h33 =>
 ob (semBuild Tryz.prog 50 [0, 1] [a30, y33]) fun y34 =>
 b2 (ybx 50 y34 h33) fun y35 h35 =>
 r (some y35) (some (.int .i64 0)) h35)
theorem q51_36_eq (C : YC) (lf : Nat) (r : K2) (KN : KF) (KE : KX) : ∀ F h, evX fx51 C lf [1, 1, 1, 1, 1] F h KN (fun F h => r (F 4) (F 5) h) KE = q51_36 C lf r (F 0) (F 3) (F 6) h := by
  intro F h; kernel_rfl
noncomputable def q51_44 (C : YC) (lf : Nat) (n : K3) (x0 x3 x6 : O) (h : HW) : Rs :=
 ob x3 fun a37 =>
 ob (fa 4 a37) fun y38 =>
 ob (ld1 y38 h) fun y39 =>
 ob (bin Tryz.prog .eql 3 y39 (.int .i64 0)) fun y40 =>
 yIf y40
 (ob x3 fun a41 =>
 ob (fa 4 a41) fun y42 =>
 ob (st 1 y42 (.int .i64 1) h) fun h43 =>
 n x0 x3 x6 h43)
 (n x0 x3 x6 h)
theorem q51_44_eq (C : YC) (lf : Nat) (n : K3) (KR : KF) (KE : KX) : ∀ F h, evX fx51 C lf [1, 1, 1, 1, 0] F h (fun F h => n (F 0) (F 3) (F 6) h) KR KE = q51_44 C lf n (F 0) (F 3) (F 6) h := by
  intro F h; kernel_rfl
noncomputable def q51_45 (C : YC) (lf : Nat) (r : K2) (x0 x3 x6 : O) (h : HW) : Rs :=
 q51_44 C lf (fun x0 x3 x6 h => q51_36 C lf r x0 x3 x6 h) x0 x3 x6 h
theorem q51_45_eq (C : YC) (lf : Nat) (r : K2) (KN : KF) (KE : KX) : ∀ F h, evX fx51 C lf [1, 1, 1, 1] F h KN (fun F h => r (F 4) (F 5) h) KE = q51_45 C lf r (F 0) (F 3) (F 6) h := cSeq (a := subX fx51 [1, 1, 1, 1, 0]) (b := subX fx51 [1, 1, 1, 1, 1]) (by kernel_rfl) (B := (fun F h => q51_36 C lf r (F 0) (F 3) (F 6) h)) (q51_36_eq C lf r KN KE) (q51_44_eq C lf (fun x0 x3 x6 h => q51_36 C lf r x0 x3 x6 h) (fun F h => r (F 4) (F 5) h) KE)
noncomputable def q51_61 (C : YC) (lf : Nat) (n : K6) (e0 : K3) (x0 x3 x6 x38 x39 x40 : O) (h : HW) : Rs :=
 ob x40 fun a47 =>
 ob x39 fun a48 =>
 ob (bin Tryz.prog .lss 3 a47 a48) fun y49 =>
 yIf y49
 (ob x38 fun a50 =>
 ob x40 fun a51 =>
 ob (ixS 1 a50 a51) fun y52 =>
 ob (ld1 y52 h) fun y53 =>
 ob x6 fun a54 =>
 bc (gd false (some a54) (some (.ret y53, h)) h) fun y55 h55 =>
 bc (gd false (some a54) (ob (bin Tryz.prog .lss 3 y55 (.int .i64 0)) fun y56 =>
 some (.ret y56, h55)) h55) fun y57 h57 =>
 ob (ypk a54 (.bool true) y57) fun y58 =>
 ob x40 fun a59 =>
 ob (bin Tryz.prog .add 3 a59 (.int .i64 1)) fun y60 =>
 n x0 x3 (some y58) x38 x39 (some y60) h57)
 (e0 x0 x3 x6 h)
theorem q51_61_eq (C : YC) (lf : Nat) (n : K6) (e0 : K3) (KR : KF) (KE : KX) : ∀ F h, evX fx51 C lf [1, 1, 1, 0, 1, 0, 0] F h (fun F h => n (F 0) (F 3) (F 6) (F 38) (F 39) (F 40) h) KR (bk 0 (fun F h => e0 (F 0) (F 3) (F 6) h) KE) = q51_61 C lf n e0 (F 0) (F 3) (F 6) (F 38) (F 39) (F 40) h := by
  intro F h; kernel_rfl
noncomputable def l51_46 (C : YC) (lf : Nat) (e0 : K3) (k : O × O × O × O × O × O → HW → Rs) (s : O × O × O × O × O × O) (h : HW) : Rs :=
 q51_61 C lf (fun x0 x3 x6 x38 x39 x40 h => k (x0, x3, x6, x38, x39, x40) h) e0 s.1 s.2.1 s.2.2.1 s.2.2.2.1 s.2.2.2.2.1 s.2.2.2.2.2 h
noncomputable def q51_66 (C : YC) (lf : Nat) (n : K6) (x0 x3 x6 : O) (h : HW) : Rs :=
 ob x3 fun a62 =>
 ob (fa 2 a62) fun y63 =>
 ob (ld1 y63 h) fun y64 =>
 ob (lenE Tryz.prog 44 y64) fun y65 =>
 n x0 x3 x6 (some y64) (some y65) (some (.int .i64 0)) h
theorem q51_66_eq (C : YC) (lf : Nat) (n : K6) (KR : KF) (KE : KX) : ∀ F h, evX fx51 C lf [1, 1, 1, 0, 0] F h (fun F h => n (F 0) (F 3) (F 6) (F 38) (F 39) (F 40) h) KR KE = q51_66 C lf n (F 0) (F 3) (F 6) h := by
  intro F h; kernel_rfl
noncomputable def q51_67 (C : YC) (lf : Nat) (n : K3) (x0 x3 x6 : O) (h : HW) : Rs :=
 q51_66 C lf (fun x0 x3 x6 x38 x39 x40 h => lp (l51_46 C lf n) lf (x0, x3, x6, x38, x39, x40) h) x0 x3 x6 h
theorem q51_67_eq (C : YC) (lf : Nat) (n : K3) (KR : KF) (KE : KX) : ∀ F h, evX fx51 C lf [1, 1, 1, 0] F h (fun F h => n (F 0) (F 3) (F 6) h) KR KE = q51_67 C lf n (F 0) (F 3) (F 6) h := cSeq (a := subX fx51 [1, 1, 1, 0, 0]) (b := subX fx51 [1, 1, 1, 0, 1]) (by kernel_rfl) (B := (fun F h => lp (l51_46 C lf n) lf ((F 0), (F 3), (F 6), (F 38), (F 39), (F 40)) h)) (cBlock (id := 0) (a := subX fx51 [1, 1, 1, 0, 1, 0]) (by kernel_rfl) (cLoop (a := subX fx51 [1, 1, 1, 0, 1, 0, 0]) (g := fun F => (F 0, F 3, F 6, F 38, F 39, F 40)) (body := l51_46 C lf n) (by kernel_rfl) (fun k => (q51_61_eq C lf (fun x0 x3 x6 x38 x39 x40 h => k (x0, x3, x6, x38, x39, x40) h) n KR KE)))) (q51_66_eq C lf (fun x0 x3 x6 x38 x39 x40 h => lp (l51_46 C lf n) lf (x0, x3, x6, x38, x39, x40) h) KR KE)
noncomputable def q51_68 (C : YC) (lf : Nat) (r : K2) (x0 x3 x6 : O) (h : HW) : Rs :=
 q51_67 C lf (fun x0 x3 x6 h => q51_45 C lf r x0 x3 x6 h) x0 x3 x6 h
theorem q51_68_eq (C : YC) (lf : Nat) (r : K2) (KN : KF) (KE : KX) : ∀ F h, evX fx51 C lf [1, 1, 1] F h KN (fun F h => r (F 4) (F 5) h) KE = q51_68 C lf r (F 0) (F 3) (F 6) h := cSeq (a := subX fx51 [1, 1, 1, 0]) (b := subX fx51 [1, 1, 1, 1]) (by kernel_rfl) (B := (fun F h => q51_45 C lf r (F 0) (F 3) (F 6) h)) (q51_45_eq C lf r KN KE) (q51_67_eq C lf (fun x0 x3 x6 h => q51_45 C lf r x0 x3 x6 h) (fun F h => r (F 4) (F 5) h) KE)
noncomputable def q51_97 (C : YC) (lf : Nat) (n : K3) (x0 x3 : O) (h : HW) : Rs :=
 ob x3 fun a69 =>
 ob (fa 0 a69) fun y70 =>
 ob (ld1 y70 h) fun y71 =>
 ob (bin Tryz.prog .lss 3 y71 (.int .i64 0)) fun y72 =>
 bc (gd false (some y72) (ob x3 fun a73 =>
 ob (fa 1 a73) fun y74 =>
 some (.ret y74, h)) h) fun y75 h75 =>
 bc (gd false (some y72) (ob (ld1 y75 h75) fun y76 =>
 some (.ret y76, h75)) h75) fun y77 h77 =>
 bc (gd false (some y72) (ob (bin Tryz.prog .lss 3 y77 (.int .i64 0)) fun y78 =>
 some (.ret y78, h77)) h77) fun y79 h79 =>
 ob (ypk y72 (.bool true) y79) fun y80 =>
 bc (gd false (some y80) (ob x3 fun a81 =>
 ob (fa 3 a81) fun y82 =>
 some (.ret y82, h79)) h79) fun y83 h83 =>
 bc (gd false (some y80) (ob (ld1 y83 h83) fun y84 =>
 some (.ret y84, h83)) h83) fun y85 h85 =>
 bc (gd false (some y80) (ob (bin Tryz.prog .lss 3 y85 (.int .i64 0)) fun y86 =>
 some (.ret y86, h85)) h85) fun y87 h87 =>
 ob (ypk y80 (.bool true) y87) fun y88 =>
 bc (gd false (some y88) (ob x3 fun a89 =>
 ob (fa 3 a89) fun y90 =>
 some (.ret y90, h87)) h87) fun y91 h91 =>
 bc (gd false (some y88) (ob (ld1 y91 h91) fun y92 =>
 some (.ret y92, h91)) h91) fun y93 h93 =>
 bc (gd false (some y88) (ob (bin Tryz.prog .gtr 3 y93 (.int .i64 511)) fun y94 =>
 some (.ret y94, h93)) h93) fun y95 h95 =>
 ob (ypk y88 (.bool true) y95) fun y96 =>
 n x0 x3 (some y96) h95
theorem q51_97_eq (C : YC) (lf : Nat) (n : K3) (KR : KF) (KE : KX) : ∀ F h, evX fx51 C lf [1, 1, 0] F h (fun F h => n (F 0) (F 3) (F 6) h) KR KE = q51_97 C lf n (F 0) (F 3) h := by
  intro F h; kernel_rfl
noncomputable def q51_98 (C : YC) (lf : Nat) (r : K2) (x0 x3 : O) (h : HW) : Rs :=
 q51_97 C lf (fun x0 x3 x6 h => q51_68 C lf r x0 x3 x6 h) x0 x3 h
theorem q51_98_eq (C : YC) (lf : Nat) (r : K2) (KN : KF) (KE : KX) : ∀ F h, evX fx51 C lf [1, 1] F h KN (fun F h => r (F 4) (F 5) h) KE = q51_98 C lf r (F 0) (F 3) h := cSeq (a := subX fx51 [1, 1, 0]) (b := subX fx51 [1, 1, 1]) (by kernel_rfl) (B := (fun F h => q51_68 C lf r (F 0) (F 3) (F 6) h)) (q51_68_eq C lf r KN KE) (q51_97_eq C lf (fun x0 x3 x6 h => q51_68 C lf r x0 x3 x6 h) (fun F h => r (F 4) (F 5) h) KE)
noncomputable def q51_110 (C : YC) (lf : Nat) (n : K2) (r : K2) (x0 x3 : O) (h : HW) : Rs :=
 ob x0 fun a99 =>
 ob (bin Tryz.prog .eql 43 a99 (.val (.pointer none))) fun y100 =>
 bc (gd false (some y100) (ob x0 fun a101 =>
 some (.ret a101, h)) h) fun y102 h102 =>
 bc (gd false (some y100) (bc (C (.fn 117) [y102] h102) fun y103 h103 =>
 some (.ret y103, h103)) h102) fun y104 h104 =>
 bc (gd false (some y100) (ob (lenE Tryz.prog 44 y104) fun y105 =>
 some (.ret y105, h104)) h104) fun y106 h106 =>
 bc (gd false (some y100) (ob (bin Tryz.prog .eql 3 y106 (.int .i64 0)) fun y107 =>
 some (.ret y107, h106)) h106) fun y108 h108 =>
 ob (ypk y100 (.bool true) y108) fun y109 =>
 yIf y109
 (r (some (.val (.pointer none))) (some (.int .i64 14)) h108)
 (n x0 x3 h108)
theorem q51_110_eq (C : YC) (lf : Nat) (n : K2) (r : K2) (KE : KX) : ∀ F h, evX fx51 C lf [1, 0] F h (fun F h => n (F 0) (F 3) h) (fun F h => r (F 4) (F 5) h) KE = q51_110 C lf n r (F 0) (F 3) h := by
  intro F h; kernel_rfl
noncomputable def q51_111 (C : YC) (lf : Nat) (r : K2) (x0 x3 : O) (h : HW) : Rs :=
 q51_110 C lf (fun x0 x3 h => q51_98 C lf r x0 x3 h) r x0 x3 h
theorem q51_111_eq (C : YC) (lf : Nat) (r : K2) (KN : KF) (KE : KX) : ∀ F h, evX fx51 C lf [1] F h KN (fun F h => r (F 4) (F 5) h) KE = q51_111 C lf r (F 0) (F 3) h := cSeq (a := subX fx51 [1, 0]) (b := subX fx51 [1, 1]) (by kernel_rfl) (B := (fun F h => q51_98 C lf r (F 0) (F 3) h)) (q51_98_eq C lf r KN KE) (q51_110_eq C lf (fun x0 x3 h => q51_98 C lf r x0 x3 h) r KE)
noncomputable def q51_114 (C : YC) (lf : Nat) (n : K2) (x0 x1 : O) (h : HW) : Rs :=
 ob x1 fun a112 =>
 b2 (ybx 46 a112 h) fun y113 h113 =>
 n x0 (some y113) h113
theorem q51_114_eq (C : YC) (lf : Nat) (n : K2) (KR : KF) (KE : KX) : ∀ F h, evX fx51 C lf [0] F h (fun F h => n (F 0) (F 3) h) KR KE = q51_114 C lf n (F 0) (F 1) h := by
  intro F h; kernel_rfl
noncomputable def q51_115 (C : YC) (lf : Nat) (r : K2) (x0 x1 : O) (h : HW) : Rs :=
 q51_114 C lf (fun x0 x3 h => q51_111 C lf r x0 x3 h) x0 x1 h
theorem q51_115_eq (C : YC) (lf : Nat) (r : K2) (KN : KF) (KE : KX) : ∀ F h, evX fx51 C lf [] F h KN (fun F h => r (F 4) (F 5) h) KE = q51_115 C lf r (F 0) (F 1) h := cSeq (a := subX fx51 [0]) (b := subX fx51 [1]) (by kernel_rfl) (B := (fun F h => q51_111 C lf r (F 0) (F 3) h)) (q51_111_eq C lf r KN KE) (q51_114_eq C lf (fun x0 x3 h => q51_111 C lf r x0 x3 h) (fun F h => r (F 4) (F 5) h) KE)
noncomputable def fs51 (C : YC) (lf : Nat) (a0 a1 : SV) (h : HW) : Rs := q51_115 C lf ff51 (some a0) (some a1) h
theorem fs51_eq (C : YC) (lf : Nat) (a0 a1 : SV) (h : HW) : yFn Tryz.prog fx51 C lf [a0, a1] h = fs51 C lf a0 a1 h := fnX (K := (fun F h => ff51 (F 4) (F 5) h)) (by kernel_rfl) (((q51_115_eq C lf ff51 (fun F h => ff51 (F 4) (F 5) h) (fun _ _ _ => none)) _ h).trans (by kernel_rfl))
noncomputable def fy51 : YX Tryz.prog := Y2 fx51 fs51 fs51_eq (by kernel_rfl)

noncomputable def fx68 : XF Tryz.prog := ⟨68, Tryz.f68, fun _ => .text, Tryz.func68, by kernel_rfl, by kernel_rfl, by kernel_rfl, by kernel_rfl⟩
noncomputable def ff68 (x0 : O) (h : HW) : Rs :=
 ob x0 fun a0 =>
 some (.ret a0, h)
noncomputable def q68_68 (C : YC) (lf : Nat) (r : K1) (h : HW) : Rs :=
 ob (semBuild Tryz.prog 195 [0, 1, 3] [(.int .u8 0), (.str (bs [47, 97])), (.int .i64 493)]) fun y1 =>
 ob (semBuild Tryz.prog 195 [0, 1, 3] [(.int .u8 1), (.str (bs [47, 97, 47, 98])), (.int .i64 420)]) fun y2 =>
 b2 (ybs Tryz.prog 196 2 [0, 1] [y1, y2] h) fun y3 h3 =>
 bc (C (.fn 125) [y3, (.val (.slice none 0 0))] h3) fun y4 h4 =>
 ob (bin Tryz.prog .eql 193 y4 (.val (.pointer none))) fun y5 =>
 yIf y5
 (r (some (.bool false)) h4)
 (ob (semNil y4) fun y6 =>
 ob (fa 1 y6) fun y7 =>
 ob (ld1 y7 h4) fun y8 =>
 b2 (ybs Tryz.prog 25 1 [0] [(.str (bs [47, 97]))] h4) fun y9 h9 =>
 bc (C (.fn 70) [y8, (.int .i64 0), (.int .i64 (-1)), y9] h9) fun y10 h10 =>
 ob (bin Tryz.prog .eql 109 y10 (.val (.pointer none))) fun y11 =>
 yIf y11
 (r (some (.bool false)) h10)
 (bc (C (.fn 71) [y10] h10) fun y12 h12 =>
 ob (ext 0 y12) fun y13 =>
 ob (ext 1 y12) fun y14 =>
 b2 (yAl Tryz.prog 117 h12) fun y15 h15 =>
 ob (st 14 y15 y13 h15) fun h16 =>
 bc (C (.fn 71) [y10] h16) fun y17 h17 =>
 ob (ext 0 y17) fun y18 =>
 ob (ext 1 y17) fun y19 =>
 b2 (yAl Tryz.prog 117 h17) fun y20 h20 =>
 ob (st 14 y20 y18 h20) fun h21 =>
 bc (C (.fn 71) [y10] h21) fun y22 h22 =>
 ob (ext 0 y22) fun y23 =>
 ob (ext 1 y22) fun y24 =>
 b2 (yAl Tryz.prog 117 h22) fun y25 h25 =>
 ob (st 14 y25 y23 h25) fun h26 =>
 bc (gd true (some y14) (ob (fa 0 y15) fun y27 =>
 some (.ret y27, h26)) h26) fun y28 h28 =>
 bc (gd true (some y14) (ob (ld1 y28 h28) fun y29 =>
 some (.ret y29, h28)) h28) fun y30 h30 =>
 bc (gd true (some y14) (ob (bin Tryz.prog .eql 3 y30 (.int .i64 2)) fun y31 =>
 some (.ret y31, h30)) h30) fun y32 h32 =>
 ob (ypk y14 y32 (.bool false)) fun y33 =>
 bc (gd true (some y33) (ob (fa 1 y15) fun y34 =>
 some (.ret y34, h32)) h32) fun y35 h35 =>
 bc (gd true (some y33) (ob (ld1 y35 h35) fun y36 =>
 some (.ret y36, h35)) h35) fun y37 h37 =>
 bc (gd true (some y33) (ob (bin Tryz.prog .eql 9 y37 (.str (bs [47, 97]))) fun y38 =>
 some (.ret y38, h37)) h37) fun y39 h39 =>
 ob (ypk y33 y39 (.bool false)) fun y40 =>
 bc (gd true (some y40) (some (.ret y19, h39)) h39) fun y41 h41 =>
 ob (ypk y40 y41 (.bool false)) fun y42 =>
 bc (gd true (some y42) (ob (fa 0 y20) fun y43 =>
 some (.ret y43, h41)) h41) fun y44 h44 =>
 bc (gd true (some y42) (ob (ld1 y44 h44) fun y45 =>
 some (.ret y45, h44)) h44) fun y46 h46 =>
 bc (gd true (some y42) (ob (bin Tryz.prog .eql 3 y46 (.int .i64 1)) fun y47 =>
 some (.ret y47, h46)) h46) fun y48 h48 =>
 ob (ypk y42 y48 (.bool false)) fun y49 =>
 bc (gd true (some y49) (ob (fa 1 y20) fun y50 =>
 some (.ret y50, h48)) h48) fun y51 h51 =>
 bc (gd true (some y49) (ob (ld1 y51 h51) fun y52 =>
 some (.ret y52, h51)) h51) fun y53 h53 =>
 bc (gd true (some y49) (ob (bin Tryz.prog .eql 9 y53 (.str (bs [47, 97, 47, 98]))) fun y54 =>
 some (.ret y54, h53)) h53) fun y55 h55 =>
 ob (ypk y49 y55 (.bool false)) fun y56 =>
 bc (gd true (some y56) (ob (fa 2 y20) fun y57 =>
 some (.ret y57, h55)) h55) fun y58 h58 =>
 bc (gd true (some y56) (ob (ld1 y58 h58) fun y59 =>
 some (.ret y59, h58)) h58) fun y60 h60 =>
 bc (gd true (some y56) (ob (bin Tryz.prog .eql 3 y60 (.int .i64 1)) fun y61 =>
 some (.ret y61, h60)) h60) fun y62 h62 =>
 ob (ypk y56 y62 (.bool false)) fun y63 =>
 bc (gd true (some y63) (some (.ret y24, h62)) h62) fun y64 h64 =>
 bc (gd true (some y63) (ob (unE .not y64) fun y65 =>
 some (.ret y65, h64)) h64) fun y66 h66 =>
 ob (ypk y63 y66 (.bool false)) fun y67 =>
 r (some y67) h66))
theorem q68_68_eq (C : YC) (lf : Nat) (r : K1) (KN : KF) (KE : KX) : ∀ F h, evX fx68 C lf [] F h KN (fun F h => r (F 0) h) KE = q68_68 C lf r h := by
  intro F h; kernel_rfl
noncomputable def fs68 (C : YC) (lf : Nat) (h : HW) : Rs := q68_68 C lf ff68 h
theorem fs68_eq (C : YC) (lf : Nat) (h : HW) : yFn Tryz.prog fx68 C lf [] h = fs68 C lf h := fnX (K := (fun F h => ff68 (F 0) h)) (by kernel_rfl) (((q68_68_eq C lf ff68 (fun F h => ff68 (F 0) h) (fun _ _ _ => none)) _ h).trans (by kernel_rfl))
noncomputable def fy68 : YX Tryz.prog := Y0 fx68 fs68 fs68_eq (by kernel_rfl)

noncomputable def fx70 : XF Tryz.prog := ⟨70, Tryz.f70, fun _ => .text, Tryz.func70, by kernel_rfl, by kernel_rfl, by kernel_rfl, by kernel_rfl⟩
noncomputable def ff70 (x8 : O) (h : HW) : Rs :=
 ob x8 fun a0 =>
 some (.ret a0, h)
noncomputable def q70_8 (C : YC) (lf : Nat) (r : K1) (x0 x1 x2 x3 : O) (h : HW) : Rs :=
 ob x0 fun a1 =>
 ob x1 fun a2 =>
 ob x2 fun a3 =>
 ob x3 fun a4 =>
 bc (C (.fn 126) [a4] h) fun y5 h5 =>
 ob (semBuild Tryz.prog 113 [0, 1, 2, 3] [a1, a2, a3, y5]) fun y6 =>
 b2 (ybx 113 y6 h5) fun y7 h7 =>
 r (some y7) h7
theorem q70_8_eq (C : YC) (lf : Nat) (r : K1) (KN : KF) (KE : KX) : ∀ F h, evX fx70 C lf [] F h KN (fun F h => r (F 8) h) KE = q70_8 C lf r (F 0) (F 1) (F 2) (F 3) h := by
  intro F h; kernel_rfl
noncomputable def fs70 (C : YC) (lf : Nat) (a0 a1 a2 a3 : SV) (h : HW) : Rs := q70_8 C lf ff70 (some a0) (some a1) (some a2) (some a3) h
theorem fs70_eq (C : YC) (lf : Nat) (a0 a1 a2 a3 : SV) (h : HW) : yFn Tryz.prog fx70 C lf [a0, a1, a2, a3] h = fs70 C lf a0 a1 a2 a3 h := fnX (K := (fun F h => ff70 (F 8) h)) (by kernel_rfl) (((q70_8_eq C lf ff70 (fun F h => ff70 (F 8) h) (fun _ _ _ => none)) _ h).trans (by kernel_rfl))
noncomputable def fy70 : YX Tryz.prog := Y4 fx70 fs70 fs70_eq (by kernel_rfl)

noncomputable def fx71 : XF Tryz.prog := ⟨71, Tryz.f71, fun r => bif Nat.beq r 11 then .ord [0, 1, 2, 3, 4, 6, 8, 9, 10, 11, 5, 12, 13, 7, 14, 15, 16] [(7, [12])] else .text, Tryz.func71, by kernel_rfl, by kernel_rfl, by kernel_rfl, by kernel_rfl⟩
noncomputable def ff71 (x2 x3 : O) (h : HW) : Rs :=
 ob x2 fun a0 =>
 ob (ldN 14 a0 h) fun y1 =>
 ob x3 fun a2 =>
 some (.ret (.tup [y1, a2]), h)
noncomputable def q71_31 (C : YC) (lf : Nat) (r : K2) (x0 x2 : O) (h : HW) : Rs :=
 ob x0 fun a3 =>
 ob (semNil a3) fun y4 =>
 ob (fa 3 y4) fun y5 =>
 ob (ld1 y5 h) fun y6 =>
 ob (lenE Tryz.prog 25 y6) fun y7 =>
 ob (bin Tryz.prog .eql 3 y7 (.int .i64 0)) fun y8 =>
 yIf y8
 (ob (semBuild Tryz.prog 117 [] []) fun y9 =>
 ob x2 fun a10 =>
 ob (st 14 a10 y9 h) fun h11 =>
 r x2 (some (.bool false)) h11)
 (ob x0 fun a12 =>
 ob (semNil a12) fun y13 =>
 ob (fa 3 y13) fun y14 =>
 ob (ld1 y14 h) fun y15 =>
 ob (ixS 1 y15 (.int .i64 0)) fun y16 =>
 ob (ld1 y16 h) fun y17 =>
 ob x0 fun a18 =>
 ob x0 fun a19 =>
 ob (semNil a19) fun y20 =>
 ob (fa 3 y20) fun y21 =>
 ob (ld1 y21 h) fun y22 =>
 ob (semSlice Tryz.prog 25 y22 (some (.int .i64 1)) none) fun y23 =>
 ob (semNil a18) fun y24 =>
 ob (fa 3 y24) fun y25 =>
 ob (st 1 y25 y23 h) fun h26 =>
 ob x0 fun a27 =>
 bc (C (.fn 129) [a27, y17, (.int .i64 0)] h26) fun y28 h28 =>
 ob x2 fun a29 =>
 ob (st 14 a29 y28 h28) fun h30 =>
 r x2 (some (.bool true)) h30)
theorem q71_31_eq (C : YC) (lf : Nat) (r : K2) (KN : KF) (KE : KX) : ∀ F h, evX fx71 C lf [1, 1, 1, 1] F h KN (fun F h => r (F 2) (F 3) h) KE = q71_31 C lf r (F 0) (F 2) h := by
  intro F h; kernel_rfl
noncomputable def q71_95 (C : YC) (lf : Nat) (n : K2) (r : K2) (e0 : K2) (x0 x2 : O) (h : HW) : Rs :=
 ob x0 fun a33 =>
 ob (semNil a33) fun y34 =>
 ob (fa 4 y34) fun y35 =>
 ob (ld1 y35 h) fun y36 =>
 ob (lenE Tryz.prog 110 y36) fun y37 =>
 ob (bin Tryz.prog .gtr 3 y37 (.int .i64 0)) fun y38 =>
 yIf y38
 (ob x0 fun a39 =>
 ob (semNil a39) fun y40 =>
 ob (fa 4 y40) fun y41 =>
 ob (ld1 y41 h) fun y42 =>
 ob x0 fun a43 =>
 ob (semNil a43) fun y44 =>
 ob (fa 4 y44) fun y45 =>
 ob (ld1 y45 h) fun y46 =>
 ob (lenE Tryz.prog 110 y46) fun y47 =>
 ob (bin Tryz.prog .sub 3 y47 (.int .i64 1)) fun y48 =>
 ob (ixS 1 y42 y48) fun y49 =>
 ob (ld1 y49 h) fun y50 =>
 bc (C (.fn 128) [y50] h) fun y51 h51 =>
 ob (ext 0 y51) fun y52 =>
 ob (ext 1 y51) fun y53 =>
 yIf y53
 (ob x0 fun a54 =>
 ob (semNil y50) fun y55 =>
 ob (fa 0 y55) fun y56 =>
 ob (fa 1 y56) fun y57 =>
 ob (semNil y50) fun y58 =>
 ob (fa 0 y58) fun y59 =>
 ob (fa 2 y59) fun y60 =>
 ob (ld1 y57 h51) fun y61 =>
 ob (ld1 y60 h51) fun y62 =>
 ob (bin Tryz.prog .add 3 y62 (.int .i64 1)) fun y63 =>
 bcn (C (.fn 130) [y61, y52] h51) fun y64 h64 =>
 ck (chkH [(12, adrO (some y60)), (5, adrO (some y57))] h51 h64 [12]) <|
 bcn (C (.fn 129) [a54, y64, y63] h64) fun y65 h65 =>
 ob x2 fun a66 =>
 ob (st 14 a66 y65 h65) fun h67 =>
 r x2 (some (.bool true)) h67)
 (ob x0 fun a68 =>
 ob x0 fun a69 =>
 ob (semNil a69) fun y70 =>
 ob (fa 4 y70) fun y71 =>
 ob (ld1 y71 h51) fun y72 =>
 ob x0 fun a73 =>
 ob (semNil a73) fun y74 =>
 ob (fa 4 y74) fun y75 =>
 ob (ld1 y75 h51) fun y76 =>
 ob (lenE Tryz.prog 110 y76) fun y77 =>
 ob (bin Tryz.prog .sub 3 y77 (.int .i64 1)) fun y78 =>
 ob (semSlice Tryz.prog 110 y72 none (some y78)) fun y79 =>
 ob (semNil a68) fun y80 =>
 ob (fa 4 y80) fun y81 =>
 ob (st 1 y81 y79 h51) fun h82 =>
 ob x0 fun a83 =>
 bc (C (.fn 131) [a83, (.int .i64 8)] h82) fun y84 h84 =>
 yIf y84
 (ob (semNil y50) fun y85 =>
 ob (fa 0 y85) fun y86 =>
 ob (ldN 14 y86 h84) fun y87 =>
 b2 (yAl Tryz.prog 117 h84) fun y88 h88 =>
 ob (st 14 y88 y87 h88) fun h89 =>
 ob (fa 0 y88) fun y90 =>
 ob (st 1 y90 (.int .i64 3) h89) fun h91 =>
 ob (ldN 14 y88 h91) fun y92 =>
 ob x2 fun a93 =>
 ob (st 14 a93 y92 h91) fun h94 =>
 r x2 (some (.bool true)) h94)
 (n x0 x2 h84)))
 (e0 x0 x2 h)
theorem q71_95_eq (C : YC) (lf : Nat) (n : K2) (r : K2) (e0 : K2) (KE : KX) : ∀ F h, evX fx71 C lf [1, 1, 1, 0, 0, 0] F h (fun F h => n (F 0) (F 2) h) (fun F h => r (F 2) (F 3) h) (bk 0 (fun F h => e0 (F 0) (F 2) h) KE) = q71_95 C lf n r e0 (F 0) (F 2) h := by
  intro F h; kernel_rfl
noncomputable def l71_32 (C : YC) (lf : Nat) (r : K2) (e0 : K2) (k : O × O → HW → Rs) (s : O × O) (h : HW) : Rs :=
 q71_95 C lf (fun x0 x2 h => k (x0, x2) h) r e0 s.1 s.2 h
noncomputable def q71_96 (C : YC) (lf : Nat) (r : K2) (x0 x2 : O) (h : HW) : Rs :=
 lp (l71_32 C lf r (fun x0 x2 h => q71_31 C lf r x0 x2 h)) lf (x0, x2) h
theorem q71_96_eq (C : YC) (lf : Nat) (r : K2) (KN : KF) (KE : KX) : ∀ F h, evX fx71 C lf [1, 1, 1] F h KN (fun F h => r (F 2) (F 3) h) KE = q71_96 C lf r (F 0) (F 2) h := cSeq (a := subX fx71 [1, 1, 1, 0]) (b := subX fx71 [1, 1, 1, 1]) (by kernel_rfl) (B := (fun F h => q71_31 C lf r (F 0) (F 2) h)) (q71_31_eq C lf r KN KE) (cBlock (id := 0) (a := subX fx71 [1, 1, 1, 0, 0]) (by kernel_rfl) (cLoop (a := subX fx71 [1, 1, 1, 0, 0, 0]) (g := fun F => (F 0, F 2)) (body := l71_32 C lf r (fun x0 x2 h => q71_31 C lf r x0 x2 h)) (by kernel_rfl) (fun k => (q71_95_eq C lf (fun x0 x2 h => k (x0, x2) h) r (fun x0 x2 h => q71_31 C lf r x0 x2 h) KE))))
noncomputable def q71_111 (C : YC) (lf : Nat) (n : K2) (r : K2) (x0 x2 : O) (h : HW) : Rs :=
 ob x0 fun a97 =>
 ob (semNil a97) fun y98 =>
 ob (fa 5 y98) fun y99 =>
 ob (ld1 y99 h) fun y100 =>
 ob (bin Tryz.prog .neq 111 y100 (.val (.pointer none))) fun y101 =>
 yIf y101
 (ob x0 fun a102 =>
 bc (C (.fn 127) [a102] h) fun y103 h103 =>
 ob (ext 0 y103) fun y104 =>
 ob (ext 1 y103) fun y105 =>
 b2 (yAl Tryz.prog 117 h103) fun y106 h106 =>
 ob (st 14 y106 y104 h106) fun h107 =>
 yIf y105
 (ob (ldN 14 y106 h107) fun y108 =>
 ob x2 fun a109 =>
 ob (st 14 a109 y108 h107) fun h110 =>
 r x2 (some (.bool true)) h110)
 (n x0 x2 h107))
 (n x0 x2 h)
theorem q71_111_eq (C : YC) (lf : Nat) (n : K2) (r : K2) (KE : KX) : ∀ F h, evX fx71 C lf [1, 1, 0] F h (fun F h => n (F 0) (F 2) h) (fun F h => r (F 2) (F 3) h) KE = q71_111 C lf n r (F 0) (F 2) h := by
  intro F h; kernel_rfl
noncomputable def q71_112 (C : YC) (lf : Nat) (r : K2) (x0 x2 : O) (h : HW) : Rs :=
 q71_111 C lf (fun x0 x2 h => q71_96 C lf r x0 x2 h) r x0 x2 h
theorem q71_112_eq (C : YC) (lf : Nat) (r : K2) (KN : KF) (KE : KX) : ∀ F h, evX fx71 C lf [1, 1] F h KN (fun F h => r (F 2) (F 3) h) KE = q71_112 C lf r (F 0) (F 2) h := cSeq (a := subX fx71 [1, 1, 0]) (b := subX fx71 [1, 1, 1]) (by kernel_rfl) (B := (fun F h => q71_96 C lf r (F 0) (F 2) h)) (q71_96_eq C lf r KN KE) (q71_111_eq C lf (fun x0 x2 h => q71_96 C lf r x0 x2 h) r KE)
noncomputable def q71_131 (C : YC) (lf : Nat) (n : K2) (r : K2) (x0 x2 : O) (h : HW) : Rs :=
 ob x0 fun a113 =>
 ob (bin Tryz.prog .eql 109 a113 (.val (.pointer none))) fun y114 =>
 bc (gd false (some y114) (ob x0 fun a115 =>
 some (.ret a115, h)) h) fun y116 h116 =>
 bc (gd false (some y114) (ob (semNil y116) fun y117 =>
 some (.ret y117, h116)) h116) fun y118 h118 =>
 bc (gd false (some y114) (ob (fa 0 y118) fun y119 =>
 some (.ret y119, h118)) h118) fun y120 h120 =>
 bc (gd false (some y114) (ob (ld1 y120 h120) fun y121 =>
 some (.ret y121, h120)) h120) fun y122 h122 =>
 bc (gd false (some y114) (bc (C (.fn 29) [y122] h122) fun y123 h123 =>
 some (.ret y123, h123)) h122) fun y124 h124 =>
 bc (gd false (some y114) (ob (bin Tryz.prog .eql 36 y124 (.val (.pointer none))) fun y125 =>
 some (.ret y125, h124)) h124) fun y126 h126 =>
 ob (ypk y114 (.bool true) y126) fun y127 =>
 yIf y127
 (ob (semBuild Tryz.prog 117 [] []) fun y128 =>
 ob x2 fun a129 =>
 ob (st 14 a129 y128 h126) fun h130 =>
 r x2 (some (.bool false)) h130)
 (n x0 x2 h126)
theorem q71_131_eq (C : YC) (lf : Nat) (n : K2) (r : K2) (KE : KX) : ∀ F h, evX fx71 C lf [1, 0] F h (fun F h => n (F 0) (F 2) h) (fun F h => r (F 2) (F 3) h) KE = q71_131 C lf n r (F 0) (F 2) h := by
  intro F h; kernel_rfl
noncomputable def q71_132 (C : YC) (lf : Nat) (r : K2) (x0 x2 : O) (h : HW) : Rs :=
 q71_131 C lf (fun x0 x2 h => q71_112 C lf r x0 x2 h) r x0 x2 h
theorem q71_132_eq (C : YC) (lf : Nat) (r : K2) (KN : KF) (KE : KX) : ∀ F h, evX fx71 C lf [1] F h KN (fun F h => r (F 2) (F 3) h) KE = q71_132 C lf r (F 0) (F 2) h := cSeq (a := subX fx71 [1, 0]) (b := subX fx71 [1, 1]) (by kernel_rfl) (B := (fun F h => q71_112 C lf r (F 0) (F 2) h)) (q71_112_eq C lf r KN KE) (q71_131_eq C lf (fun x0 x2 h => q71_112 C lf r x0 x2 h) r KE)
noncomputable def q71_134 (C : YC) (lf : Nat) (n : K2) (x0 : O) (h : HW) : Rs :=
 b2 (yAl Tryz.prog 117 h) fun y133 h133 =>
 n x0 (some y133) h133
theorem q71_134_eq (C : YC) (lf : Nat) (n : K2) (KR : KF) (KE : KX) : ∀ F h, evX fx71 C lf [0] F h (fun F h => n (F 0) (F 2) h) KR KE = q71_134 C lf n (F 0) h := by
  intro F h; kernel_rfl
noncomputable def q71_135 (C : YC) (lf : Nat) (r : K2) (x0 : O) (h : HW) : Rs :=
 q71_134 C lf (fun x0 x2 h => q71_132 C lf r x0 x2 h) x0 h
theorem q71_135_eq (C : YC) (lf : Nat) (r : K2) (KN : KF) (KE : KX) : ∀ F h, evX fx71 C lf [] F h KN (fun F h => r (F 2) (F 3) h) KE = q71_135 C lf r (F 0) h := cSeq (a := subX fx71 [0]) (b := subX fx71 [1]) (by kernel_rfl) (B := (fun F h => q71_132 C lf r (F 0) (F 2) h)) (q71_132_eq C lf r KN KE) (q71_134_eq C lf (fun x0 x2 h => q71_132 C lf r x0 x2 h) (fun F h => r (F 2) (F 3) h) KE)
noncomputable def fs71 (C : YC) (lf : Nat) (a0 : SV) (h : HW) : Rs := q71_135 C lf ff71 (some a0) h
theorem fs71_eq (C : YC) (lf : Nat) (a0 : SV) (h : HW) : yFn Tryz.prog fx71 C lf [a0] h = fs71 C lf a0 h := fnX (K := (fun F h => ff71 (F 2) (F 3) h)) (by kernel_rfl) (((q71_135_eq C lf ff71 (fun F h => ff71 (F 2) (F 3) h) (fun _ _ _ => none)) _ h).trans (by kernel_rfl))
noncomputable def fy71 : YX Tryz.prog := Y1 fx71 fs71 fs71_eq (by kernel_rfl)

noncomputable def fx74 : XF Tryz.prog := ⟨74, Tryz.f74, fun _ => .text, Tryz.func74, by kernel_rfl, by kernel_rfl, by kernel_rfl, by kernel_rfl⟩
noncomputable def ff74 (x6 x7 : O) (h : HW) : Rs :=
 ob x6 fun a0 =>
 ob x7 fun a1 =>
 some (.ret (.tup [a0, a1]), h)
noncomputable def q74_9 (C : YC) (lf : Nat) (r : K2) (x2 x9 x10 : O) (h : HW) : Rs :=
 ob x2 fun a2 =>
 yIf a2
 (ob x10 fun a3 =>
 bc (C (.fn 134) [a3, (.fn (.func 135) [] [])] h) fun y4 h4 =>
 ob x10 fun a5 =>
 ob x9 fun a6 =>
 r (some a5) (some a6) h4)
 (ob x10 fun a7 =>
 ob x9 fun a8 =>
 r (some a7) (some a8) h)
theorem q74_9_eq (C : YC) (lf : Nat) (r : K2) (KN : KF) (KE : KX) : ∀ F h, evX fx74 C lf [1, 1, 1, 1, 1, 1] F h KN (fun F h => r (F 6) (F 7) h) KE = q74_9 C lf r (F 2) (F 9) (F 10) h := by
  intro F h; kernel_rfl
noncomputable def q74_15 (C : YC) (lf : Nat) (n : K3) (x0 x2 x8 x9 x10 : O) (h : HW) : Rs :=
 ob x0 fun a10 =>
 ob x8 fun a11 =>
 bc (C (.fn 23) [a10, a11] h) fun y12 h12 =>
 ob x9 fun a13 =>
 ob (bin Tryz.prog .eql 23 a13 (.int .i64 0)) fun y14 =>
 yIf y14
 (n x2 (some y12) x10 h12)
 (n x2 x9 x10 h12)
theorem q74_15_eq (C : YC) (lf : Nat) (n : K3) (KR : KF) (KE : KX) : ∀ F h, evX fx74 C lf [1, 1, 1, 1, 1, 0] F h (fun F h => n (F 2) (F 9) (F 10) h) KR KE = q74_15 C lf n (F 0) (F 2) (F 8) (F 9) (F 10) h := by
  intro F h; kernel_rfl
noncomputable def q74_16 (C : YC) (lf : Nat) (r : K2) (x0 x2 x8 x9 x10 : O) (h : HW) : Rs :=
 q74_15 C lf (fun x2 x9 x10 h => q74_9 C lf r x2 x9 x10 h) x0 x2 x8 x9 x10 h
theorem q74_16_eq (C : YC) (lf : Nat) (r : K2) (KN : KF) (KE : KX) : ∀ F h, evX fx74 C lf [1, 1, 1, 1, 1] F h KN (fun F h => r (F 6) (F 7) h) KE = q74_16 C lf r (F 0) (F 2) (F 8) (F 9) (F 10) h := cSeq (a := subX fx74 [1, 1, 1, 1, 1, 0]) (b := subX fx74 [1, 1, 1, 1, 1, 1]) (by kernel_rfl) (B := (fun F h => q74_9 C lf r (F 2) (F 9) (F 10) h)) (q74_9_eq C lf r KN KE) (q74_15_eq C lf (fun x2 x9 x10 h => q74_9 C lf r x2 x9 x10 h) (fun F h => r (F 6) (F 7) h) KE)
noncomputable def q74_45 (C : YC) (lf : Nat) (n : K4) (e0 : K5) (x0 x2 x8 x10 : O) (h : HW) : Rs :=
 b2 (yAl Tryz.prog 81 h) fun y18 h18 =>
 ob x0 fun a19 =>
 ob x8 fun a20 =>
 bc (C (.fn 133) [a19, a20] h18) fun y21 h21 =>
 ob (ext 0 y21) fun y22 =>
 ob (ext 1 y21) fun y23 =>
 ob (ext 2 y21) fun y24 =>
 ob (st 3 y18 y22 h21) fun h25 =>
 ob (bin Tryz.prog .neq 23 y24 (.int .i64 0)) fun y26 =>
 bc (gd false (some y26) (some (.ret y23, h25)) h25) fun y27 h27 =>
 bc (gd false (some y26) (ob (unE .not y27) fun y28 =>
 some (.ret y28, h27)) h27) fun y29 h29 =>
 ob (ypk y26 (.bool true) y29) fun y30 =>
 yIf y30
 (e0 x0 x2 x8 (some y24) x10 h29)
 (ob (fa 0 y18) fun y31 =>
 ob (ld1 y31 h29) fun y32 =>
 ob (bin Tryz.prog .neq 9 y32 (.str (bs [46]))) fun y33 =>
 bc (gd true (some y33) (ob (fa 0 y18) fun y34 =>
 some (.ret y34, h29)) h29) fun y35 h35 =>
 bc (gd true (some y33) (ob (ld1 y35 h35) fun y36 =>
 some (.ret y36, h35)) h35) fun y37 h37 =>
 bc (gd true (some y33) (ob (bin Tryz.prog .neq 9 y37 (.str (bs [46, 46]))) fun y38 =>
 some (.ret y38, h37)) h37) fun y39 h39 =>
 ob (ypk y33 y39 (.bool false)) fun y40 =>
 yIf y40
 (ob x10 fun a41 =>
 ob (ldN 3 y18 h39) fun y42 =>
 b2 (ybs Tryz.prog 123 1 [0] [y42] h39) fun y43 h43 =>
 b2 (ybl Tryz.prog .append #[123, 123] [a41, y43] h43) fun y44 h44 =>
 n x0 x2 x8 (some y44) h44)
 (n x0 x2 x8 x10 h39))
theorem q74_45_eq (C : YC) (lf : Nat) (n : K4) (e0 : K5) (KR : KF) (KE : KX) : ∀ F h, evX fx74 C lf [1, 1, 1, 1, 0, 0, 0] F h (fun F h => n (F 0) (F 2) (F 8) (F 10) h) KR (bk 0 (fun F h => e0 (F 0) (F 2) (F 8) (F 9) (F 10) h) KE) = q74_45 C lf n e0 (F 0) (F 2) (F 8) (F 10) h := by
  intro F h; kernel_rfl
noncomputable def l74_17 (C : YC) (lf : Nat) (e0 : K5) (k : O × O × O × O → HW → Rs) (s : O × O × O × O) (h : HW) : Rs :=
 q74_45 C lf (fun x0 x2 x8 x10 h => k (x0, x2, x8, x10) h) e0 s.1 s.2.1 s.2.2.1 s.2.2.2 h
noncomputable def q74_46 (C : YC) (lf : Nat) (r : K2) (x0 x2 x8 x10 : O) (h : HW) : Rs :=
 lp (l74_17 C lf (fun x0 x2 x8 x9 x10 h => q74_16 C lf r x0 x2 x8 x9 x10 h)) lf (x0, x2, x8, x10) h
theorem q74_46_eq (C : YC) (lf : Nat) (r : K2) (KN : KF) (KE : KX) : ∀ F h, evX fx74 C lf [1, 1, 1, 1] F h KN (fun F h => r (F 6) (F 7) h) KE = q74_46 C lf r (F 0) (F 2) (F 8) (F 10) h := cSeq (a := subX fx74 [1, 1, 1, 1, 0]) (b := subX fx74 [1, 1, 1, 1, 1]) (by kernel_rfl) (B := (fun F h => q74_16 C lf r (F 0) (F 2) (F 8) (F 9) (F 10) h)) (q74_16_eq C lf r KN KE) (cBlock (id := 0) (a := subX fx74 [1, 1, 1, 1, 0, 0]) (by kernel_rfl) (cLoop (a := subX fx74 [1, 1, 1, 1, 0, 0, 0]) (g := fun F => (F 0, F 2, F 8, F 10)) (body := l74_17 C lf (fun x0 x2 x8 x9 x10 h => q74_16 C lf r x0 x2 x8 x9 x10 h)) (by kernel_rfl) (fun k => (q74_45_eq C lf (fun x0 x2 x8 x10 h => k (x0, x2, x8, x10) h) (fun x0 x2 x8 x9 x10 h => q74_16 C lf r x0 x2 x8 x9 x10 h) (fun F h => r (F 6) (F 7) h) KE))))
noncomputable def q74_47 (C : YC) (lf : Nat) (n : K4) (x0 x2 x8 : O) (h : HW) : Rs :=
 n x0 x2 x8 (some (.val (.slice none 0 0))) h
theorem q74_47_eq (C : YC) (lf : Nat) (n : K4) (KR : KF) (KE : KX) : ∀ F h, evX fx74 C lf [1, 1, 1, 0] F h (fun F h => n (F 0) (F 2) (F 8) (F 10) h) KR KE = q74_47 C lf n (F 0) (F 2) (F 8) h := by
  intro F h; kernel_rfl
noncomputable def q74_48 (C : YC) (lf : Nat) (r : K2) (x0 x2 x8 : O) (h : HW) : Rs :=
 q74_47 C lf (fun x0 x2 x8 x10 h => q74_46 C lf r x0 x2 x8 x10 h) x0 x2 x8 h
theorem q74_48_eq (C : YC) (lf : Nat) (r : K2) (KN : KF) (KE : KX) : ∀ F h, evX fx74 C lf [1, 1, 1] F h KN (fun F h => r (F 6) (F 7) h) KE = q74_48 C lf r (F 0) (F 2) (F 8) h := cSeq (a := subX fx74 [1, 1, 1, 0]) (b := subX fx74 [1, 1, 1, 1]) (by kernel_rfl) (B := (fun F h => q74_46 C lf r (F 0) (F 2) (F 8) (F 10) h)) (q74_46_eq C lf r KN KE) (q74_47_eq C lf (fun x0 x2 x8 x10 h => q74_46 C lf r x0 x2 x8 x10 h) (fun F h => r (F 6) (F 7) h) KE)
noncomputable def q74_52 (C : YC) (lf : Nat) (n : K3) (r : K2) (x0 x2 x8 x9 : O) (h : HW) : Rs :=
 ob x9 fun a49 =>
 ob (bin Tryz.prog .neq 23 a49 (.int .i64 0)) fun y50 =>
 yIf y50
 (ob x9 fun a51 =>
 r (some (.val (.slice none 0 0))) (some a51) h)
 (n x0 x2 x8 h)
theorem q74_52_eq (C : YC) (lf : Nat) (n : K3) (r : K2) (KE : KX) : ∀ F h, evX fx74 C lf [1, 1, 0] F h (fun F h => n (F 0) (F 2) (F 8) h) (fun F h => r (F 6) (F 7) h) KE = q74_52 C lf n r (F 0) (F 2) (F 8) (F 9) h := by
  intro F h; kernel_rfl
noncomputable def q74_53 (C : YC) (lf : Nat) (r : K2) (x0 x2 x8 x9 : O) (h : HW) : Rs :=
 q74_52 C lf (fun x0 x2 x8 h => q74_48 C lf r x0 x2 x8 h) r x0 x2 x8 x9 h
theorem q74_53_eq (C : YC) (lf : Nat) (r : K2) (KN : KF) (KE : KX) : ∀ F h, evX fx74 C lf [1, 1] F h KN (fun F h => r (F 6) (F 7) h) KE = q74_53 C lf r (F 0) (F 2) (F 8) (F 9) h := cSeq (a := subX fx74 [1, 1, 0]) (b := subX fx74 [1, 1, 1]) (by kernel_rfl) (B := (fun F h => q74_48 C lf r (F 0) (F 2) (F 8) h)) (q74_48_eq C lf r KN KE) (q74_52_eq C lf (fun x0 x2 x8 h => q74_48 C lf r x0 x2 x8 h) r KE)
noncomputable def q74_59 (C : YC) (lf : Nat) (n : K4) (x0 x1 x2 : O) (h : HW) : Rs :=
 ob x0 fun a54 =>
 ob x1 fun a55 =>
 bc (C (.fn 19) [a54, a55, (.int .i64 65), (.int .i64 0)] h) fun y56 h56 =>
 ob (ext 0 y56) fun y57 =>
 ob (ext 1 y56) fun y58 =>
 n x0 x2 (some y57) (some y58) h56
theorem q74_59_eq (C : YC) (lf : Nat) (n : K4) (KR : KF) (KE : KX) : ∀ F h, evX fx74 C lf [1, 0] F h (fun F h => n (F 0) (F 2) (F 8) (F 9) h) KR KE = q74_59 C lf n (F 0) (F 1) (F 2) h := by
  intro F h; kernel_rfl
noncomputable def q74_60 (C : YC) (lf : Nat) (r : K2) (x0 x1 x2 : O) (h : HW) : Rs :=
 q74_59 C lf (fun x0 x2 x8 x9 h => q74_53 C lf r x0 x2 x8 x9 h) x0 x1 x2 h
theorem q74_60_eq (C : YC) (lf : Nat) (r : K2) (KN : KF) (KE : KX) : ∀ F h, evX fx74 C lf [1] F h KN (fun F h => r (F 6) (F 7) h) KE = q74_60 C lf r (F 0) (F 1) (F 2) h := cSeq (a := subX fx74 [1, 0]) (b := subX fx74 [1, 1]) (by kernel_rfl) (B := (fun F h => q74_53 C lf r (F 0) (F 2) (F 8) (F 9) h)) (q74_53_eq C lf r KN KE) (q74_59_eq C lf (fun x0 x2 x8 x9 h => q74_53 C lf r x0 x2 x8 x9 h) (fun F h => r (F 6) (F 7) h) KE)
noncomputable def q74_61 (C : YC) (lf : Nat) (n : K3) (x0 x1 x2 : O) (h : HW) : Rs :=
 n x0 x1 x2 h
theorem q74_61_eq (C : YC) (lf : Nat) (n : K3) (KR : KF) (KE : KX) : ∀ F h, evX fx74 C lf [0] F h (fun F h => n (F 0) (F 1) (F 2) h) KR KE = q74_61 C lf n (F 0) (F 1) (F 2) h := by
  intro F h; kernel_rfl
noncomputable def q74_62 (C : YC) (lf : Nat) (r : K2) (x0 x1 x2 : O) (h : HW) : Rs :=
 q74_61 C lf (fun x0 x1 x2 h => q74_60 C lf r x0 x1 x2 h) x0 x1 x2 h
theorem q74_62_eq (C : YC) (lf : Nat) (r : K2) (KN : KF) (KE : KX) : ∀ F h, evX fx74 C lf [] F h KN (fun F h => r (F 6) (F 7) h) KE = q74_62 C lf r (F 0) (F 1) (F 2) h := cSeq (a := subX fx74 [0]) (b := subX fx74 [1]) (by kernel_rfl) (B := (fun F h => q74_60 C lf r (F 0) (F 1) (F 2) h)) (q74_60_eq C lf r KN KE) (q74_61_eq C lf (fun x0 x1 x2 h => q74_60 C lf r x0 x1 x2 h) (fun F h => r (F 6) (F 7) h) KE)
noncomputable def fs74 (C : YC) (lf : Nat) (a0 a1 a2 : SV) (h : HW) : Rs := q74_62 C lf ff74 (some a0) (some a1) (some a2) h
theorem fs74_eq (C : YC) (lf : Nat) (a0 a1 a2 : SV) (h : HW) : yFn Tryz.prog fx74 C lf [a0, a1, a2] h = fs74 C lf a0 a1 a2 h := fnX (K := (fun F h => ff74 (F 6) (F 7) h)) (by kernel_rfl) (((q74_62_eq C lf ff74 (fun F h => ff74 (F 6) (F 7) h) (fun _ _ _ => none)) _ h).trans (by kernel_rfl))
noncomputable def fy74 : YX Tryz.prog := Y3 fx74 fs74 fs74_eq (by kernel_rfl)

noncomputable def fx76 : XF Tryz.prog := ⟨76, Tryz.f76, fun _ => .text, Tryz.func76, by kernel_rfl, by kernel_rfl, by kernel_rfl, by kernel_rfl⟩
noncomputable def ff76 (x2 : O) (h : HW) : Rs :=
 ob x2 fun a0 =>
 some (.ret a0, h)
noncomputable def q76_2 (C : YC) (lf : Nat) (r : K1) (x0 : O) (h : HW) : Rs :=
 ob x0 fun a1 =>
 r (some a1) h
theorem q76_2_eq (C : YC) (lf : Nat) (r : K1) (KN : KF) (KE : KX) : ∀ F h, evX fx76 C lf [] F h KN (fun F h => r (F 2) h) KE = q76_2 C lf r (F 0) h := by
  intro F h; kernel_rfl
noncomputable def fs76 (C : YC) (lf : Nat) (a0 : SV) (h : HW) : Rs := q76_2 C lf ff76 (some a0) h
theorem fs76_eq (C : YC) (lf : Nat) (a0 : SV) (h : HW) : yFn Tryz.prog fx76 C lf [a0] h = fs76 C lf a0 h := fnX (K := (fun F h => ff76 (F 2) h)) (by kernel_rfl) (((q76_2_eq C lf ff76 (fun F h => ff76 (F 2) h) (fun _ _ _ => none)) _ h).trans (by kernel_rfl))
noncomputable def fy76 : YX Tryz.prog := Y1 fx76 fs76 fs76_eq (by kernel_rfl)

noncomputable def fx77 : XF Tryz.prog := ⟨77, Tryz.f77, fun _ => .text, Tryz.func77, by kernel_rfl, by kernel_rfl, by kernel_rfl, by kernel_rfl⟩
noncomputable def ff77 (x4 x5 : O) (h : HW) : Rs :=
 ob x4 fun a0 =>
 ob x5 fun a1 =>
 some (.ret (.tup [a0, a1]), h)
noncomputable def q77_13 (C : YC) (lf : Nat) (r : K2) (x0 x1 : O) (h : HW) : Rs :=
 ob x0 fun a2 =>
 ob x1 fun a3 =>
 bc (C (.fn 137) [a2, a3] h) fun y4 h4 =>
 ob (ext 0 y4) fun y5 =>
 ob (ext 1 y4) fun y6 =>
 ob (bin Tryz.prog .neq 23 y6 (.int .i64 0)) fun y7 =>
 yIf y7
 (r (some (.val (.pointer none))) (some y6) h4)
 (bc (C (.fn 138) [y5, (.int .i64 16877), (.int .i64 0), (.int .i64 0)] h4) fun y8 h8 =>
 bc (C (.fn 139) [y5, (.int .i64 1), (.int .i64 1)] h8) fun y9 h9 =>
 bc (C (.fn 140) [y5, (.int .i64 1), (.int .i64 2)] h9) fun y10 h10 =>
 ob (semBuild Tryz.prog 220 [0] [y5]) fun y11 =>
 b2 (ybx 220 y11 h10) fun y12 h12 =>
 r (some y12) (some (.int .i64 0)) h12)
theorem q77_13_eq (C : YC) (lf : Nat) (r : K2) (KN : KF) (KE : KX) : ∀ F h, evX fx77 C lf [] F h KN (fun F h => r (F 4) (F 5) h) KE = q77_13 C lf r (F 0) (F 1) h := by
  intro F h; kernel_rfl
noncomputable def fs77 (C : YC) (lf : Nat) (a0 a1 : SV) (h : HW) : Rs := q77_13 C lf ff77 (some a0) (some a1) h
theorem fs77_eq (C : YC) (lf : Nat) (a0 a1 : SV) (h : HW) : yFn Tryz.prog fx77 C lf [a0, a1] h = fs77 C lf a0 a1 h := fnX (K := (fun F h => ff77 (F 4) (F 5) h)) (by kernel_rfl) (((q77_13_eq C lf ff77 (fun F h => ff77 (F 4) (F 5) h) (fun _ _ _ => none)) _ h).trans (by kernel_rfl))
noncomputable def fy77 : YX Tryz.prog := Y2 fx77 fs77 fs77_eq (by kernel_rfl)

noncomputable def fx78 : XF Tryz.prog := ⟨78, Tryz.f78, fun r => bif Nat.beq r 7 then .ord [2, 4, 7, 10, 0, 1, 3, 5, 6, 8, 9, 11, 12] [(8, [5, 3, 1, 0])] else .text, Tryz.func78, by kernel_rfl, by kernel_rfl, by kernel_rfl, by kernel_rfl⟩

noncomputable def fx81 : XF Tryz.prog := ⟨81, Tryz.f81, fun r => bif Nat.beq r 2 then .ord [0, 1, 3, 4, 2, 5, 6, 7, 8, 9] [(5, [2])] else .text, Tryz.func81, by kernel_rfl, by kernel_rfl, by kernel_rfl, by kernel_rfl⟩

noncomputable def fx87 : XF Tryz.prog := ⟨87, Tryz.f87, fun _ => .text, Tryz.func87, by kernel_rfl, by kernel_rfl, by kernel_rfl, by kernel_rfl⟩
noncomputable def ff87 (x6 x7 : O) (h : HW) : Rs :=
 ob x6 fun a0 =>
 ob x7 fun a1 =>
 some (.ret (.tup [a0, a1]), h)
noncomputable def q87_25 (C : YC) (lf : Nat) (r : K2) (x0 x1 x2 : O) (h : HW) : Rs :=
 ob x0 fun a2 =>
 bc (C (.fn 90) [a2] h) fun y3 h3 =>
 ob (unE .not y3) fun y4 =>
 yIf y4
 (r (some (.int .i64 0)) (some (.int .i64 14)) h3)
 (ob x0 fun a5 =>
 ob x1 fun a6 =>
 bc (C (.fn 166) [a5, a6] h3) fun y7 h7 =>
 ob (ext 0 y7) fun y8 =>
 ob (ext 1 y7) fun y9 =>
 b2 (yAl Tryz.prog 142 h7) fun y10 h10 =>
 ob (st 4 y10 y8 h10) fun h11 =>
 bc (gd true (some y9) (ob (fa 2 y10) fun y12 =>
 some (.ret y12, h11)) h11) fun y13 h13 =>
 bc (gd true (some y9) (ob (ld1 y13 h13) fun y14 =>
 some (.ret y14, h13)) h13) fun y15 h15 =>
 bc (gd true (some y9) (ob (bin Tryz.prog .neq 23 y15 (.int .i64 0)) fun y16 =>
 some (.ret y16, h15)) h15) fun y17 h17 =>
 ob (ypk y9 y17 (.bool false)) fun y18 =>
 yIf y18
 (ob (fa 2 y10) fun y19 =>
 ob (ld1 y19 h17) fun y20 =>
 r (some (.int .i64 0)) (some y20) h17)
 (ob x2 fun a21 =>
 cv false C a21 [] h17 fun y22 h22 =>
 ob (ext 0 y22) fun y23 =>
 ob (ext 1 y22) fun y24 =>
 r (some y23) (some y24) h22))
theorem q87_25_eq (C : YC) (lf : Nat) (r : K2) (KN : KF) (KE : KX) : ∀ F h, evX fx87 C lf [] F h KN (fun F h => r (F 6) (F 7) h) KE = q87_25 C lf r (F 0) (F 1) (F 2) h := by
  intro F h; kernel_rfl
noncomputable def fs87 (C : YC) (lf : Nat) (a0 a1 a2 : SV) (h : HW) : Rs := q87_25 C lf ff87 (some a0) (some a1) (some a2) h
theorem fs87_eq (C : YC) (lf : Nat) (a0 a1 a2 : SV) (h : HW) : yFn Tryz.prog fx87 C lf [a0, a1, a2] h = fs87 C lf a0 a1 a2 h := fnX (K := (fun F h => ff87 (F 6) (F 7) h)) (by kernel_rfl) (((q87_25_eq C lf ff87 (fun F h => ff87 (F 6) (F 7) h) (fun _ _ _ => none)) _ h).trans (by kernel_rfl))
noncomputable def fy87 : YX Tryz.prog := Y3 fx87 fs87 fs87_eq (by kernel_rfl)

noncomputable def fx88 : XF Tryz.prog := ⟨88, Tryz.f88, fun r => bif Nat.beq r 1 then .ord [0, 3, 4, 5, 1, 2, 6, 7, 8, 9, 10] [(1, [5, 4, 3])] else .text, Tryz.func88, by kernel_rfl, by kernel_rfl, by kernel_rfl, by kernel_rfl⟩
noncomputable def ff88 (x4 x5 : O) (h : HW) : Rs :=
 ob x4 fun a0 =>
 ob x5 fun a1 =>
 some (.ret (.tup [a0, a1]), h)
noncomputable def q88_15 (C : YC) (lf : Nat) (r : K2) (x0 x1 x2 x3 : O) (h : HW) : Rs :=
 ob x0 fun a2 =>
 ob (ld1 a2 h) fun y3 =>
 ob x1 fun a4 =>
 ob (ld1 a4 h) fun y5 =>
 ob x2 fun a6 =>
 ob (ld1 a6 h) fun y7 =>
 ob x3 fun a8 =>
 ob (ld1 a8 h) fun y9 =>
 bcn (C (.fn 89) [y3] h) fun y10 h10 =>
 ck (chkH [(5, adrO x3), (4, adrO x2), (3, adrO x1), (0, adrO x0)] h h10 [5, 4, 3]) <|
 ob (fd1 0 y10) fun y11 =>
 bcn (C (.fn 36) [y11, y5, y7, y9] h10) fun y12 h12 =>
 ob (ext 0 y12) fun y13 =>
 ob (ext 1 y12) fun y14 =>
 r (some y13) (some y14) h12
theorem q88_15_eq (C : YC) (lf : Nat) (r : K2) (KN : KF) (KE : KX) : ∀ F h, evX fx88 C lf [] F h KN (fun F h => r (F 4) (F 5) h) KE = q88_15 C lf r (F 0) (F 1) (F 2) (F 3) h := by
  intro F h; kernel_rfl
noncomputable def fs88 (C : YC) (lf : Nat) (a0 a1 a2 a3 : SV) (h : HW) : Rs := q88_15 C lf ff88 (some a0) (some a1) (some a2) (some a3) h
theorem fs88_eq (C : YC) (lf : Nat) (a0 a1 a2 a3 : SV) (h : HW) : yFn Tryz.prog fx88 C lf [a0, a1, a2, a3] h = fs88 C lf a0 a1 a2 a3 h := fnX (K := (fun F h => ff88 (F 4) (F 5) h)) (by kernel_rfl) (((q88_15_eq C lf ff88 (fun F h => ff88 (F 4) (F 5) h) (fun _ _ _ => none)) _ h).trans (by kernel_rfl))
noncomputable def fy88 : YX Tryz.prog := Y4 fx88 fs88 fs88_eq (by kernel_rfl)

noncomputable def fx89 : XF Tryz.prog := ⟨89, Tryz.f89, fun _ => .text, Tryz.func89, by kernel_rfl, by kernel_rfl, by kernel_rfl, by kernel_rfl⟩
noncomputable def ff89 (x2 : O) (h : HW) : Rs :=
 ob x2 fun a0 =>
 ob (ldN 1 a0 h) fun y1 =>
 some (.ret y1, h)
noncomputable def q89_13 (C : YC) (lf : Nat) (r : K1) (x0 : O) (h : HW) : Rs :=
 b2 (yAl Tryz.prog 38 h) fun y2 h2 =>
 ob x0 fun a3 =>
 bc (C (.fn 90) [a3] h2) fun y4 h4 =>
 ob (unE .not y4) fun y5 =>
 yIf y5
 (ob (semBuild Tryz.prog 38 [] []) fun y6 =>
 ob (st 1 y2 y6 h4) fun h7 =>
 r (some y2) h7)
 (ob x0 fun a8 =>
 ob (semNil a8) fun y9 =>
 ob (fa 0 y9) fun y10 =>
 ob (ldN 1 y10 h4) fun y11 =>
 ob (st 1 y2 y11 h4) fun h12 =>
 r (some y2) h12)
theorem q89_13_eq (C : YC) (lf : Nat) (r : K1) (KN : KF) (KE : KX) : ∀ F h, evX fx89 C lf [] F h KN (fun F h => r (F 2) h) KE = q89_13 C lf r (F 0) h := by
  intro F h; kernel_rfl
noncomputable def fs89 (C : YC) (lf : Nat) (a0 : SV) (h : HW) : Rs := q89_13 C lf ff89 (some a0) h
theorem fs89_eq (C : YC) (lf : Nat) (a0 : SV) (h : HW) : yFn Tryz.prog fx89 C lf [a0] h = fs89 C lf a0 h := fnX (K := (fun F h => ff89 (F 2) h)) (by kernel_rfl) (((q89_13_eq C lf ff89 (fun F h => ff89 (F 2) h) (fun _ _ _ => none)) _ h).trans (by kernel_rfl))
noncomputable def fy89 : YX Tryz.prog := Y1 fx89 fs89 fs89_eq (by kernel_rfl)

noncomputable def fx90 : XF Tryz.prog := ⟨90, Tryz.f90, fun _ => .text, Tryz.func90, by kernel_rfl, by kernel_rfl, by kernel_rfl, by kernel_rfl⟩
noncomputable def ff90 (x2 : O) (h : HW) : Rs :=
 ob x2 fun a0 =>
 some (.ret a0, h)
noncomputable def q90_14 (C : YC) (lf : Nat) (r : K1) (x0 : O) (h : HW) : Rs :=
 ob x0 fun a1 =>
 ob (bin Tryz.prog .neq 35 a1 (.val (.pointer none))) fun y2 =>
 bc (gd true (some y2) (ob x0 fun a3 =>
 some (.ret a3, h)) h) fun y4 h4 =>
 bc (gd true (some y2) (ob (semNil y4) fun y5 =>
 some (.ret y5, h4)) h4) fun y6 h6 =>
 bc (gd true (some y2) (ob (fa 2 y6) fun y7 =>
 some (.ret y7, h6)) h6) fun y8 h8 =>
 bc (gd true (some y2) (ob (ld1 y8 h8) fun y9 =>
 some (.ret y9, h8)) h8) fun y10 h10 =>
 bc (gd true (some y2) (ob (bin Tryz.prog .neq 39 y10 (.val (.map none))) fun y11 =>
 some (.ret y11, h10)) h10) fun y12 h12 =>
 ob (ypk y2 y12 (.bool false)) fun y13 =>
 r (some y13) h12
theorem q90_14_eq (C : YC) (lf : Nat) (r : K1) (KN : KF) (KE : KX) : ∀ F h, evX fx90 C lf [] F h KN (fun F h => r (F 2) h) KE = q90_14 C lf r (F 0) h := by
  intro F h; kernel_rfl
noncomputable def fs90 (C : YC) (lf : Nat) (a0 : SV) (h : HW) : Rs := q90_14 C lf ff90 (some a0) h
theorem fs90_eq (C : YC) (lf : Nat) (a0 : SV) (h : HW) : yFn Tryz.prog fx90 C lf [a0] h = fs90 C lf a0 h := fnX (K := (fun F h => ff90 (F 2) h)) (by kernel_rfl) (((q90_14_eq C lf ff90 (fun F h => ff90 (F 2) h) (fun _ _ _ => none)) _ h).trans (by kernel_rfl))
noncomputable def fy90 : YX Tryz.prog := Y1 fx90 fs90 fs90_eq (by kernel_rfl)

noncomputable def fx92 : XF Tryz.prog := ⟨92, Tryz.f92, fun r => bif Nat.beq r 6 then .ord [1, 0, 2, 3, 4] [(3, [2])] else .text, Tryz.func92, by kernel_rfl, by kernel_rfl, by kernel_rfl, by kernel_rfl⟩
noncomputable def ff92 (x6 x7 : O) (h : HW) : Rs :=
 ob x6 fun a0 =>
 ob (ldN 10 a0 h) fun y1 =>
 ob x7 fun a2 =>
 some (.ret (.tup [y1, a2]), h)
noncomputable def q92_33 (C : YC) (lf : Nat) (r : K2) (x0 x1 x2 : O) (h : HW) : Rs :=
 b2 (yAl Tryz.prog 58 h) fun y3 h3 =>
 b2 (yAl Tryz.prog 58 h3) fun y4 h4 =>
 ob x0 fun a5 =>
 bc (C (.fn 90) [a5] h4) fun y6 h6 =>
 ob (unE .not y6) fun y7 =>
 yIf y7
 (ob (ldN 10 y4 h6) fun y8 =>
 ob (st 10 y3 y8 h6) fun h9 =>
 r (some y3) (some (.int .i64 14)) h9)
 (ob x0 fun a10 =>
 ob x1 fun a11 =>
 bc (C (.fn 166) [a10, a11] h6) fun y12 h12 =>
 ob (ext 0 y12) fun y13 =>
 ob (ext 1 y12) fun y14 =>
 b2 (yAl Tryz.prog 142 h12) fun y15 h15 =>
 ob (st 4 y15 y13 h15) fun h16 =>
 bc (gd true (some y14) (ob (fa 2 y15) fun y17 =>
 some (.ret y17, h16)) h16) fun y18 h18 =>
 bc (gd true (some y14) (ob (ld1 y18 h18) fun y19 =>
 some (.ret y19, h18)) h18) fun y20 h20 =>
 bc (gd true (some y14) (ob (bin Tryz.prog .neq 23 y20 (.int .i64 0)) fun y21 =>
 some (.ret y21, h20)) h20) fun y22 h22 =>
 ob (ypk y14 y22 (.bool false)) fun y23 =>
 yIf y23
 (ob (fa 2 y15) fun y24 =>
 ob (ldN 10 y4 h22) fun y25 =>
 ob (ld1 y24 h22) fun y26 =>
 ob (st 10 y3 y25 h22) fun h27 =>
 ck (chkH [(2, adrO (some y24)), (0, adrO (some y4))] h22 h27 [2]) <|
 r (some y3) (some y26) h27)
 (ob x2 fun a28 =>
 cv false C a28 [] h22 fun y29 h29 =>
 ob (ext 0 y29) fun y30 =>
 ob (ext 1 y29) fun y31 =>
 ob (st 10 y3 y30 h29) fun h32 =>
 r (some y3) (some y31) h32))
theorem q92_33_eq (C : YC) (lf : Nat) (r : K2) (KN : KF) (KE : KX) : ∀ F h, evX fx92 C lf [] F h KN (fun F h => r (F 6) (F 7) h) KE = q92_33 C lf r (F 0) (F 1) (F 2) h := by
  intro F h; kernel_rfl
noncomputable def fs92 (C : YC) (lf : Nat) (a0 a1 a2 : SV) (h : HW) : Rs := q92_33 C lf ff92 (some a0) (some a1) (some a2) h
theorem fs92_eq (C : YC) (lf : Nat) (a0 a1 a2 : SV) (h : HW) : yFn Tryz.prog fx92 C lf [a0, a1, a2] h = fs92 C lf a0 a1 a2 h := fnX (K := (fun F h => ff92 (F 6) (F 7) h)) (by kernel_rfl) (((q92_33_eq C lf ff92 (fun F h => ff92 (F 6) (F 7) h) (fun _ _ _ => none)) _ h).trans (by kernel_rfl))
noncomputable def fy92 : YX Tryz.prog := Y3 fx92 fs92 fs92_eq (by kernel_rfl)

noncomputable def fx94 : XF Tryz.prog := ⟨94, Tryz.f94, fun _ => .text, Tryz.func94, by kernel_rfl, by kernel_rfl, by kernel_rfl, by kernel_rfl⟩
noncomputable def ff94 (x6 : O) (h : HW) : Rs :=
 ob x6 fun a0 =>
 some (.ret a0, h)
noncomputable def q94_8 (C : YC) (lf : Nat) (r : K1) (x0 x1 x2 : O) (h : HW) : Rs :=
 ob x2 fun a1 =>
 b2 (ybx 97 a1 h) fun y2 h2 =>
 ob x0 fun a3 =>
 ob x1 fun a4 =>
 bc (C (.fn 87) [a3, a4, (.fn (.func 167) [] [y2])] h2) fun y5 h5 =>
 ob (ext 0 y5) fun y6 =>
 ob (ext 1 y5) fun y7 =>
 r (some y7) h5
theorem q94_8_eq (C : YC) (lf : Nat) (r : K1) (KN : KF) (KE : KX) : ∀ F h, evX fx94 C lf [] F h KN (fun F h => r (F 6) h) KE = q94_8 C lf r (F 0) (F 1) (F 2) h := by
  intro F h; kernel_rfl
noncomputable def fs94 (C : YC) (lf : Nat) (a0 a1 a2 : SV) (h : HW) : Rs := q94_8 C lf ff94 (some a0) (some a1) (some a2) h
theorem fs94_eq (C : YC) (lf : Nat) (a0 a1 a2 : SV) (h : HW) : yFn Tryz.prog fx94 C lf [a0, a1, a2] h = fs94 C lf a0 a1 a2 h := fnX (K := (fun F h => ff94 (F 6) h)) (by kernel_rfl) (((q94_8_eq C lf ff94 (fun F h => ff94 (F 6) h) (fun _ _ _ => none)) _ h).trans (by kernel_rfl))
noncomputable def fy94 : YX Tryz.prog := Y3 fx94 fs94 fs94_eq (by kernel_rfl)

noncomputable def fx95 : XF Tryz.prog := ⟨95, Tryz.f95, fun r => bif Nat.beq r 1 then .ord [0, 3, 1, 2, 4, 5] [(1, [3])] else .text, Tryz.func95, by kernel_rfl, by kernel_rfl, by kernel_rfl, by kernel_rfl⟩
noncomputable def ff95 (x2 : O) (h : HW) : Rs :=
 ob x2 fun a0 =>
 some (.ret a0, h)
noncomputable def q95_8 (C : YC) (lf : Nat) (r : K1) (x0 x1 : O) (h : HW) : Rs :=
 ob x0 fun a1 =>
 ob (ld1 a1 h) fun y2 =>
 ob x1 fun a3 =>
 ob (ld1 a3 h) fun y4 =>
 bcn (C (.fn 89) [y2] h) fun y5 h5 =>
 ck (chkH [(3, adrO x1), (0, adrO x0)] h h5 [3]) <|
 ob (fd1 0 y5) fun y6 =>
 bcn (C (.fn 45) [y6, y4] h5) fun y7 h7 =>
 r (some y7) h7
theorem q95_8_eq (C : YC) (lf : Nat) (r : K1) (KN : KF) (KE : KX) : ∀ F h, evX fx95 C lf [] F h KN (fun F h => r (F 2) h) KE = q95_8 C lf r (F 0) (F 1) h := by
  intro F h; kernel_rfl
noncomputable def fs95 (C : YC) (lf : Nat) (a0 a1 : SV) (h : HW) : Rs := q95_8 C lf ff95 (some a0) (some a1) h
theorem fs95_eq (C : YC) (lf : Nat) (a0 a1 : SV) (h : HW) : yFn Tryz.prog fx95 C lf [a0, a1] h = fs95 C lf a0 a1 h := fnX (K := (fun F h => ff95 (F 2) h)) (by kernel_rfl) (((q95_8_eq C lf ff95 (fun F h => ff95 (F 2) h) (fun _ _ _ => none)) _ h).trans (by kernel_rfl))
noncomputable def fy95 : YX Tryz.prog := Y2 fx95 fs95 fs95_eq (by kernel_rfl)

noncomputable def fx103 : XF Tryz.prog := ⟨103, Tryz.f103, fun _ => .text, Tryz.func103, by kernel_rfl, by kernel_rfl, by kernel_rfl, by kernel_rfl⟩
noncomputable def ff103 (x2 : O) (h : HW) : Rs :=
 ob x2 fun a0 =>
 some (.ret a0, h)
noncomputable def q103_14 (C : YC) (lf : Nat) (r : K1) (x0 : O) (h : HW) : Rs :=
 ob x0 fun a1 =>
 ob (bin Tryz.prog .neq 36 a1 (.val (.pointer none))) fun y2 =>
 bc (gd true (some y2) (ob x0 fun a3 =>
 some (.ret a3, h)) h) fun y4 h4 =>
 bc (gd true (some y2) (ob (semNil y4) fun y5 =>
 some (.ret y5, h4)) h4) fun y6 h6 =>
 bc (gd true (some y2) (ob (fa 0 y6) fun y7 =>
 some (.ret y7, h6)) h6) fun y8 h8 =>
 bc (gd true (some y2) (ob (ld1 y8 h8) fun y9 =>
 some (.ret y9, h8)) h8) fun y10 h10 =>
 bc (gd true (some y2) (ob (bin Tryz.prog .neq 43 y10 (.val (.pointer none))) fun y11 =>
 some (.ret y11, h10)) h10) fun y12 h12 =>
 ob (ypk y2 y12 (.bool false)) fun y13 =>
 r (some y13) h12
theorem q103_14_eq (C : YC) (lf : Nat) (r : K1) (KN : KF) (KE : KX) : ∀ F h, evX fx103 C lf [] F h KN (fun F h => r (F 2) h) KE = q103_14 C lf r (F 0) h := by
  intro F h; kernel_rfl
noncomputable def fs103 (C : YC) (lf : Nat) (a0 : SV) (h : HW) : Rs := q103_14 C lf ff103 (some a0) h
theorem fs103_eq (C : YC) (lf : Nat) (a0 : SV) (h : HW) : yFn Tryz.prog fx103 C lf [a0] h = fs103 C lf a0 h := fnX (K := (fun F h => ff103 (F 2) h)) (by kernel_rfl) (((q103_14_eq C lf ff103 (fun F h => ff103 (F 2) h) (fun _ _ _ => none)) _ h).trans (by kernel_rfl))
noncomputable def fy103 : YX Tryz.prog := Y1 fx103 fs103 fs103_eq (by kernel_rfl)

noncomputable def fx104 : XF Tryz.prog := ⟨104, Tryz.f104, fun _ => .text, Tryz.func104, by kernel_rfl, by kernel_rfl, by kernel_rfl, by kernel_rfl⟩
noncomputable def ff104 (x2 : O) (h : HW) : Rs :=
 ob x2 fun a0 =>
 some (.ret a0, h)
noncomputable def q104_5 (C : YC) (lf : Nat) (r : K1) (x0 : O) (h : HW) : Rs :=
 ob x0 fun a1 =>
 bc (C (.fn 48) [a1] h) fun y2 h2 =>
 ob (lenE Tryz.prog 44 y2) fun y3 =>
 ob (bin Tryz.prog .sub 3 (.int .i64 16) y3) fun y4 =>
 r (some y4) h2
theorem q104_5_eq (C : YC) (lf : Nat) (r : K1) (KN : KF) (KE : KX) : ∀ F h, evX fx104 C lf [] F h KN (fun F h => r (F 2) h) KE = q104_5 C lf r (F 0) h := by
  intro F h; kernel_rfl
noncomputable def fs104 (C : YC) (lf : Nat) (a0 : SV) (h : HW) : Rs := q104_5 C lf ff104 (some a0) h
theorem fs104_eq (C : YC) (lf : Nat) (a0 : SV) (h : HW) : yFn Tryz.prog fx104 C lf [a0] h = fs104 C lf a0 h := fnX (K := (fun F h => ff104 (F 2) h)) (by kernel_rfl) (((q104_5_eq C lf ff104 (fun F h => ff104 (F 2) h) (fun _ _ _ => none)) _ h).trans (by kernel_rfl))
noncomputable def fy104 : YX Tryz.prog := Y1 fx104 fs104 fs104_eq (by kernel_rfl)

noncomputable def fx105 : XF Tryz.prog := ⟨105, Tryz.f105, fun r => bif Nat.beq r 7 then .news [0, 2, 3, 1, 4, 5, 6, 7, 8, 9, 10, 11, 12, 13] [12] [(10, [1]), (4, [1])] else .text, Tryz.func105, by kernel_rfl, by kernel_rfl, by kernel_rfl, by kernel_rfl⟩

noncomputable def fx106 : XF Tryz.prog := ⟨106, Tryz.f106, fun _ => .text, Tryz.func106, by kernel_rfl, by kernel_rfl, by kernel_rfl, by kernel_rfl⟩
noncomputable def ff106 (x4 : O) (h : HW) : Rs :=
 ob x4 fun a0 =>
 some (.ret a0, h)
noncomputable def q106_1 (C : YC) (lf : Nat) (r : K1) (h : HW) : Rs :=
 r (some (.int .i64 (-1))) h
theorem q106_1_eq (C : YC) (lf : Nat) (r : K1) (KN : KF) (KE : KX) : ∀ F h, evX fx106 C lf [1, 1] F h KN (fun F h => r (F 4) h) KE = q106_1 C lf r h := by
  intro F h; kernel_rfl
noncomputable def q106_28 (C : YC) (lf : Nat) (n : K3) (r : K1) (e0 : K0) (x0 x1 x6 : O) (h : HW) : Rs :=
 ob x6 fun a3 =>
 ob (bin Tryz.prog .lss 3 a3 (.int .i64 16)) fun y4 =>
 yIf y4
 (ob x6 fun a5 =>
 ob x0 fun a6 =>
 ob (semNil a6) fun y7 =>
 ob (fa 6 y7) fun y8 =>
 ob (ixA 16 1 y8 a5) fun y9 =>
 ob (ld1 y9 h) fun y10 =>
 ob (bin Tryz.prog .eql 47 y10 (.val (.pointer none))) fun y11 =>
 yIf y11
 (ob x0 fun a12 =>
 ob x1 fun a13 =>
 ob (semNil a12) fun y14 =>
 ob (fa 6 y14) fun y15 =>
 ob (ixA 16 1 y15 a5) fun y16 =>
 ob (st 1 y16 a13 h) fun h17 =>
 ob x1 fun a18 =>
 ob (semNil a18) fun y19 =>
 ob (fa 2 y19) fun y20 =>
 ob (ld1 y20 h17) fun y21 =>
 ob (bin Tryz.prog .add 3 y21 (.int .i64 1)) fun y22 =>
 ob (semNil a18) fun y23 =>
 ob (fa 2 y23) fun y24 =>
 ob (st 1 y24 y22 h17) fun h25 =>
 r (some a5) h25)
 (ob x6 fun a26 =>
 ob (bin Tryz.prog .add 3 a26 (.int .i64 1)) fun y27 =>
 n x0 x1 (some y27) h))
 (e0 h)
theorem q106_28_eq (C : YC) (lf : Nat) (n : K3) (r : K1) (e0 : K0) (KE : KX) : ∀ F h, evX fx106 C lf [1, 0, 1, 0, 0] F h (fun F h => n (F 0) (F 1) (F 6) h) (fun F h => r (F 4) h) (bk 0 (fun F h => e0 h) KE) = q106_28 C lf n r e0 (F 0) (F 1) (F 6) h := by
  intro F h; kernel_rfl
noncomputable def l106_2 (C : YC) (lf : Nat) (r : K1) (e0 : K0) (k : O × O × O → HW → Rs) (s : O × O × O) (h : HW) : Rs :=
 q106_28 C lf (fun x0 x1 x6 h => k (x0, x1, x6) h) r e0 s.1 s.2.1 s.2.2 h
noncomputable def q106_29 (C : YC) (lf : Nat) (n : K3) (x0 x1 : O) (h : HW) : Rs :=
 n x0 x1 (some (.int .i64 0)) h
theorem q106_29_eq (C : YC) (lf : Nat) (n : K3) (KR : KF) (KE : KX) : ∀ F h, evX fx106 C lf [1, 0, 0] F h (fun F h => n (F 0) (F 1) (F 6) h) KR KE = q106_29 C lf n (F 0) (F 1) h := by
  intro F h; kernel_rfl
noncomputable def q106_30 (C : YC) (lf : Nat) (n : K0) (r : K1) (x0 x1 : O) (h : HW) : Rs :=
 q106_29 C lf (fun x0 x1 x6 h => lp (l106_2 C lf r n) lf (x0, x1, x6) h) x0 x1 h
theorem q106_30_eq (C : YC) (lf : Nat) (n : K0) (r : K1) (KE : KX) : ∀ F h, evX fx106 C lf [1, 0] F h (fun F h => n h) (fun F h => r (F 4) h) KE = q106_30 C lf n r (F 0) (F 1) h := cSeq (a := subX fx106 [1, 0, 0]) (b := subX fx106 [1, 0, 1]) (by kernel_rfl) (B := (fun F h => lp (l106_2 C lf r n) lf ((F 0), (F 1), (F 6)) h)) (cBlock (id := 0) (a := subX fx106 [1, 0, 1, 0]) (by kernel_rfl) (cLoop (a := subX fx106 [1, 0, 1, 0, 0]) (g := fun F => (F 0, F 1, F 6)) (body := l106_2 C lf r n) (by kernel_rfl) (fun k => (q106_28_eq C lf (fun x0 x1 x6 h => k (x0, x1, x6) h) r n KE)))) (q106_29_eq C lf (fun x0 x1 x6 h => lp (l106_2 C lf r n) lf (x0, x1, x6) h) (fun F h => r (F 4) h) KE)
noncomputable def q106_31 (C : YC) (lf : Nat) (r : K1) (x0 x1 : O) (h : HW) : Rs :=
 q106_30 C lf (fun h => q106_1 C lf r h) r x0 x1 h
theorem q106_31_eq (C : YC) (lf : Nat) (r : K1) (KN : KF) (KE : KX) : ∀ F h, evX fx106 C lf [1] F h KN (fun F h => r (F 4) h) KE = q106_31 C lf r (F 0) (F 1) h := cSeq (a := subX fx106 [1, 0]) (b := subX fx106 [1, 1]) (by kernel_rfl) (B := (fun F h => q106_1 C lf r h)) (q106_1_eq C lf r KN KE) (q106_30_eq C lf (fun h => q106_1 C lf r h) r KE)
noncomputable def q106_32 (C : YC) (lf : Nat) (n : K2) (x0 x1 : O) (h : HW) : Rs :=
 n x0 x1 h
theorem q106_32_eq (C : YC) (lf : Nat) (n : K2) (KR : KF) (KE : KX) : ∀ F h, evX fx106 C lf [0] F h (fun F h => n (F 0) (F 1) h) KR KE = q106_32 C lf n (F 0) (F 1) h := by
  intro F h; kernel_rfl
noncomputable def q106_33 (C : YC) (lf : Nat) (r : K1) (x0 x1 : O) (h : HW) : Rs :=
 q106_32 C lf (fun x0 x1 h => q106_31 C lf r x0 x1 h) x0 x1 h
theorem q106_33_eq (C : YC) (lf : Nat) (r : K1) (KN : KF) (KE : KX) : ∀ F h, evX fx106 C lf [] F h KN (fun F h => r (F 4) h) KE = q106_33 C lf r (F 0) (F 1) h := cSeq (a := subX fx106 [0]) (b := subX fx106 [1]) (by kernel_rfl) (B := (fun F h => q106_31 C lf r (F 0) (F 1) h)) (q106_31_eq C lf r KN KE) (q106_32_eq C lf (fun x0 x1 h => q106_31 C lf r x0 x1 h) (fun F h => r (F 4) h) KE)
noncomputable def fs106 (C : YC) (lf : Nat) (a0 a1 : SV) (h : HW) : Rs := q106_33 C lf ff106 (some a0) (some a1) h
theorem fs106_eq (C : YC) (lf : Nat) (a0 a1 : SV) (h : HW) : yFn Tryz.prog fx106 C lf [a0, a1] h = fs106 C lf a0 a1 h := fnX (K := (fun F h => ff106 (F 4) h)) (by kernel_rfl) (((q106_33_eq C lf ff106 (fun F h => ff106 (F 4) h) (fun _ _ _ => none)) _ h).trans (by kernel_rfl))
noncomputable def fy106 : YX Tryz.prog := Y2 fx106 fs106 fs106_eq (by kernel_rfl)

noncomputable def fx107 : XF Tryz.prog := ⟨107, Tryz.f107, fun _ => .text, Tryz.func107, by kernel_rfl, by kernel_rfl, by kernel_rfl, by kernel_rfl⟩
noncomputable def ff107 (x4 x5 : O) (h : HW) : Rs :=
 ob x4 fun a0 =>
 ob x5 fun a1 =>
 some (.ret (.tup [a0, a1]), h)
noncomputable def q107_33 (C : YC) (lf : Nat) (r : K2) (x0 x1 : O) (h : HW) : Rs :=
 ob x0 fun a2 =>
 bc (C (.fn 103) [a2] h) fun y3 h3 =>
 ob (unE .not y3) fun y4 =>
 yIf y4
 (r (some (.val (.pointer none))) (some (.int .i64 14)) h3)
 (ob x1 fun a5 =>
 ob (bin Tryz.prog .lss 3 a5 (.int .i64 0)) fun y6 =>
 bc (gd false (some y6) (ob x1 fun a7 =>
 some (.ret a7, h3)) h3) fun y8 h8 =>
 bc (gd false (some y6) (ob (bin Tryz.prog .geq 3 y8 (.int .i64 16)) fun y9 =>
 some (.ret y9, h8)) h8) fun y10 h10 =>
 ob (ypk y6 (.bool true) y10) fun y11 =>
 bc (gd false (some y11) (ob x0 fun a12 =>
 some (.ret a12, h10)) h10) fun y13 h13 =>
 bc (gd false (some y11) (ob x1 fun a14 =>
 some (.ret a14, h13)) h13) fun y15 h15 =>
 bc (gd false (some y11) (ob (semNil y13) fun y16 =>
 some (.ret y16, h15)) h15) fun y17 h17 =>
 bc (gd false (some y11) (ob (fa 6 y17) fun y18 =>
 some (.ret y18, h17)) h17) fun y19 h19 =>
 bc (gd false (some y11) (ob (ixA 16 1 y19 y15) fun y20 =>
 some (.ret y20, h19)) h19) fun y21 h21 =>
 bc (gd false (some y11) (ob (ld1 y21 h21) fun y22 =>
 some (.ret y22, h21)) h21) fun y23 h23 =>
 bc (gd false (some y11) (ob (bin Tryz.prog .eql 47 y23 (.val (.pointer none))) fun y24 =>
 some (.ret y24, h23)) h23) fun y25 h25 =>
 ob (ypk y11 (.bool true) y25) fun y26 =>
 yIf y26
 (r (some (.val (.pointer none))) (some (.int .i64 9)) h25)
 (ob x0 fun a27 =>
 ob x1 fun a28 =>
 ob (semNil a27) fun y29 =>
 ob (fa 6 y29) fun y30 =>
 ob (ixA 16 1 y30 a28) fun y31 =>
 ob (ld1 y31 h25) fun y32 =>
 r (some y32) (some (.int .i64 0)) h25))
theorem q107_33_eq (C : YC) (lf : Nat) (r : K2) (KN : KF) (KE : KX) : ∀ F h, evX fx107 C lf [] F h KN (fun F h => r (F 4) (F 5) h) KE = q107_33 C lf r (F 0) (F 1) h := by
  intro F h; kernel_rfl
noncomputable def fs107 (C : YC) (lf : Nat) (a0 a1 : SV) (h : HW) : Rs := q107_33 C lf ff107 (some a0) (some a1) h
theorem fs107_eq (C : YC) (lf : Nat) (a0 a1 : SV) (h : HW) : yFn Tryz.prog fx107 C lf [a0, a1] h = fs107 C lf a0 a1 h := fnX (K := (fun F h => ff107 (F 4) (F 5) h)) (by kernel_rfl) (((q107_33_eq C lf ff107 (fun F h => ff107 (F 4) (F 5) h) (fun _ _ _ => none)) _ h).trans (by kernel_rfl))
noncomputable def fy107 : YX Tryz.prog := Y2 fx107 fs107 fs107_eq (by kernel_rfl)

noncomputable def fx108 : XF Tryz.prog := ⟨108, Tryz.f108, fun _ => .text, Tryz.func108, by kernel_rfl, by kernel_rfl, by kernel_rfl, by kernel_rfl⟩
noncomputable def ff108 (x6 x7 : O) (h : HW) : Rs :=
 ob x6 fun a0 =>
 ob (ldN 10 a0 h) fun y1 =>
 ob x7 fun a2 =>
 some (.ret (.tup [y1, a2]), h)
noncomputable def q108_23 (C : YC) (lf : Nat) (r : K2) (x0 x1 x2 : O) (h : HW) : Rs :=
 b2 (yAl Tryz.prog 58 h) fun y3 h3 =>
 ob x0 fun a4 =>
 bc (C (.fn 103) [a4] h3) fun y5 h5 =>
 ob (unE .not y5) fun y6 =>
 yIf y6
 (ob (semBuild Tryz.prog 58 [] []) fun y7 =>
 ob (st 10 y3 y7 h5) fun h8 =>
 r (some y3) (some (.int .i64 14)) h8)
 (ob x0 fun a9 =>
 ob (semNil a9) fun y10 =>
 ob (fa 0 y10) fun y11 =>
 ob (ld1 y11 h5) fun y12 =>
 ob x0 fun a13 =>
 ob (semNil a13) fun y14 =>
 ob (fa 1 y14) fun y15 =>
 ob (ldN 5 y15 h5) fun y16 =>
 ob x1 fun a17 =>
 ob x2 fun a18 =>
 bcn (C (.fn 81) [y12, y16, a17, a18] h5) fun y19 h19 =>
 ob (ext 0 y19) fun y20 =>
 ob (ext 1 y19) fun y21 =>
 ob (st 10 y3 y20 h19) fun h22 =>
 r (some y3) (some y21) h22)
theorem q108_23_eq (C : YC) (lf : Nat) (r : K2) (KN : KF) (KE : KX) : ∀ F h, evX fx108 C lf [] F h KN (fun F h => r (F 6) (F 7) h) KE = q108_23 C lf r (F 0) (F 1) (F 2) h := by
  intro F h; kernel_rfl
noncomputable def fs108 (C : YC) (lf : Nat) (a0 a1 a2 : SV) (h : HW) : Rs := q108_23 C lf ff108 (some a0) (some a1) (some a2) h
theorem fs108_eq (C : YC) (lf : Nat) (a0 a1 a2 : SV) (h : HW) : yFn Tryz.prog fx108 C lf [a0, a1, a2] h = fs108 C lf a0 a1 a2 h := fnX (K := (fun F h => ff108 (F 6) (F 7) h)) (by kernel_rfl) (((q108_23_eq C lf ff108 (fun F h => ff108 (F 6) (F 7) h) (fun _ _ _ => none)) _ h).trans (by kernel_rfl))
noncomputable def fy108 : YX Tryz.prog := Y3 fx108 fs108 fs108_eq (by kernel_rfl)

noncomputable def fx110 : XF Tryz.prog := ⟨110, Tryz.f110, fun _ => .text, Tryz.func110, by kernel_rfl, by kernel_rfl, by kernel_rfl, by kernel_rfl⟩
noncomputable def ff110 (x4 x5 : O) (h : HW) : Rs :=
 ob x4 fun a0 =>
 ob x5 fun a1 =>
 some (.ret (.tup [a0, a1]), h)
noncomputable def q110_13 (C : YC) (lf : Nat) (r : K2) (x0 x1 : O) (h : HW) : Rs :=
 ob x0 fun a2 =>
 bc (C (.fn 181) [a2] h) fun y3 h3 =>
 ob (unE .not y3) fun y4 =>
 yIf y4
 (r (some (.val (.slice none 0 0))) (some (.int .i64 14)) h3)
 (ob x0 fun a5 =>
 ob (semNil a5) fun y6 =>
 ob (fa 0 y6) fun y7 =>
 ob (ld1 y7 h3) fun y8 =>
 ob x1 fun a9 =>
 bc (C (.fn 182) [y8, a9] h3) fun y10 h10 =>
 ob (ext 0 y10) fun y11 =>
 ob (ext 1 y10) fun y12 =>
 r (some y11) (some y12) h10)
theorem q110_13_eq (C : YC) (lf : Nat) (r : K2) (KN : KF) (KE : KX) : ∀ F h, evX fx110 C lf [] F h KN (fun F h => r (F 4) (F 5) h) KE = q110_13 C lf r (F 0) (F 1) h := by
  intro F h; kernel_rfl
noncomputable def fs110 (C : YC) (lf : Nat) (a0 a1 : SV) (h : HW) : Rs := q110_13 C lf ff110 (some a0) (some a1) h
theorem fs110_eq (C : YC) (lf : Nat) (a0 a1 : SV) (h : HW) : yFn Tryz.prog fx110 C lf [a0, a1] h = fs110 C lf a0 a1 h := fnX (K := (fun F h => ff110 (F 4) (F 5) h)) (by kernel_rfl) (((q110_13_eq C lf ff110 (fun F h => ff110 (F 4) (F 5) h) (fun _ _ _ => none)) _ h).trans (by kernel_rfl))
noncomputable def fy110 : YX Tryz.prog := Y2 fx110 fs110 fs110_eq (by kernel_rfl)

noncomputable def fx111 : XF Tryz.prog := ⟨111, Tryz.f111, fun _ => .text, Tryz.func111, by kernel_rfl, by kernel_rfl, by kernel_rfl, by kernel_rfl⟩
noncomputable def ff111 (h : HW) : Rs :=
 some (.ret (.tup []), h)
noncomputable def q111_27 (C : YC) (lf : Nat) (n : K0) (x0 x1 : O) (h : HW) : Rs :=
 ob x0 fun a0 =>
 ob x1 fun a1 =>
 ob (semNil a0) fun y2 =>
 ob (fa 6 y2) fun y3 =>
 ob (ixA 16 1 y3 a1) fun y4 =>
 ob (ld1 y4 h) fun y5 =>
 ob x0 fun a6 =>
 ob x1 fun a7 =>
 ob (semNil a6) fun y8 =>
 ob (fa 6 y8) fun y9 =>
 ob (ixA 16 1 y9 a7) fun y10 =>
 ob (st 1 y10 (.val (.pointer none)) h) fun h11 =>
 ob (semNil y5) fun y12 =>
 ob (fa 2 y12) fun y13 =>
 ob (ld1 y13 h11) fun y14 =>
 ob (bin Tryz.prog .sub 3 y14 (.int .i64 1)) fun y15 =>
 ob (semNil y5) fun y16 =>
 ob (fa 2 y16) fun y17 =>
 ob (st 1 y17 y15 h11) fun h18 =>
 ob (semNil y5) fun y19 =>
 ob (fa 2 y19) fun y20 =>
 ob (ld1 y20 h18) fun y21 =>
 ob (bin Tryz.prog .eql 3 y21 (.int .i64 0)) fun y22 =>
 yIf y22
 (ob (semNil y5) fun y23 =>
 ob (fa 0 y23) fun y24 =>
 ob (ld1 y24 h18) fun y25 =>
 bc (iv Tryz.prog C "tinsel/desc.close" y25 [] h18) fun y26 h26 =>
 n h26)
 (n h18)
theorem q111_27_eq (C : YC) (lf : Nat) (n : K0) (KR : KF) (KE : KX) : ∀ F h, evX fx111 C lf [] F h (fun F h => n h) KR KE = q111_27 C lf n (F 0) (F 1) h := by
  intro F h; kernel_rfl
noncomputable def fs111 (C : YC) (lf : Nat) (a0 a1 : SV) (h : HW) : Rs := q111_27 C lf ff111 (some a0) (some a1) h
theorem fs111_eq (C : YC) (lf : Nat) (a0 a1 : SV) (h : HW) : yFn Tryz.prog fx111 C lf [a0, a1] h = fs111 C lf a0 a1 h := fnX (K := (fun F h => ff111 h)) (by kernel_rfl) (((q111_27_eq C lf ff111 (fun F h => ff111 h) (fun _ _ _ => none)) _ h).trans (by kernel_rfl))
noncomputable def fy111 : YX Tryz.prog := Y2 fx111 fs111 fs111_eq (by kernel_rfl)

noncomputable def fx116 : XF Tryz.prog := ⟨116, Tryz.f116, fun _ => .text, Tryz.func116, by kernel_rfl, by kernel_rfl, by kernel_rfl, by kernel_rfl⟩
noncomputable def ff116 (x2 : O) (h : HW) : Rs :=
 ob x2 fun a0 =>
 ob (ldN 5 a0 h) fun y1 =>
 some (.ret y1, h)
noncomputable def q116_12 (C : YC) (lf : Nat) (r : K1) (x0 : O) (h : HW) : Rs :=
 ob x0 fun a2 =>
 b2 (ybx 46 a2 h) fun y3 h3 =>
 b2 (yAl Tryz.prog 46 h3) fun y4 h4 =>
 ob (fa 2 y3) fun y5 =>
 ob (ld1 y5 h4) fun y6 =>
 b2 (ybl Tryz.prog .append #[44, 44] [(.val (.slice none 0 0)), y6] h4) fun y7 h7 =>
 ob (fa 2 y3) fun y8 =>
 ob (st 1 y8 y7 h7) fun h9 =>
 ob (ldN 5 y3 h9) fun y10 =>
 ob (st 5 y4 y10 h9) fun h11 =>
 r (some y4) h11
theorem q116_12_eq (C : YC) (lf : Nat) (r : K1) (KN : KF) (KE : KX) : ∀ F h, evX fx116 C lf [] F h KN (fun F h => r (F 2) h) KE = q116_12 C lf r (F 0) h := by
  intro F h; kernel_rfl
noncomputable def fs116 (C : YC) (lf : Nat) (a0 : SV) (h : HW) : Rs := q116_12 C lf ff116 (some a0) h
theorem fs116_eq (C : YC) (lf : Nat) (a0 : SV) (h : HW) : yFn Tryz.prog fx116 C lf [a0] h = fs116 C lf a0 h := fnX (K := (fun F h => ff116 (F 2) h)) (by kernel_rfl) (((q116_12_eq C lf ff116 (fun F h => ff116 (F 2) h) (fun _ _ _ => none)) _ h).trans (by kernel_rfl))
noncomputable def fy116 : YX Tryz.prog := Y1 fx116 fs116 fs116_eq (by kernel_rfl)

noncomputable def fx117 : XF Tryz.prog := ⟨117, Tryz.f117, fun _ => .text, Tryz.func117, by kernel_rfl, by kernel_rfl, by kernel_rfl, by kernel_rfl⟩
noncomputable def ff117 (x2 : O) (h : HW) : Rs :=
 ob x2 fun a0 =>
 some (.ret a0, h)
noncomputable def q117_9 (C : YC) (lf : Nat) (r : K1) (x0 : O) (h : HW) : Rs :=
 ob x0 fun a1 =>
 bc (C (.fn 181) [a1] h) fun y2 h2 =>
 ob (unE .not y2) fun y3 =>
 yIf y3
 (r (some (.val (.slice none 0 0))) h2)
 (ob x0 fun a4 =>
 ob (semNil a4) fun y5 =>
 ob (fa 0 y5) fun y6 =>
 ob (ld1 y6 h2) fun y7 =>
 bc (C (.fn 183) [y7] h2) fun y8 h8 =>
 r (some y8) h8)
theorem q117_9_eq (C : YC) (lf : Nat) (r : K1) (KN : KF) (KE : KX) : ∀ F h, evX fx117 C lf [] F h KN (fun F h => r (F 2) h) KE = q117_9 C lf r (F 0) h := by
  intro F h; kernel_rfl
noncomputable def fs117 (C : YC) (lf : Nat) (a0 : SV) (h : HW) : Rs := q117_9 C lf ff117 (some a0) h
theorem fs117_eq (C : YC) (lf : Nat) (a0 : SV) (h : HW) : yFn Tryz.prog fx117 C lf [a0] h = fs117 C lf a0 h := fnX (K := (fun F h => ff117 (F 2) h)) (by kernel_rfl) (((q117_9_eq C lf ff117 (fun F h => ff117 (F 2) h) (fun _ _ _ => none)) _ h).trans (by kernel_rfl))
noncomputable def fy117 : YX Tryz.prog := Y1 fx117 fs117 fs117_eq (by kernel_rfl)

noncomputable def fx118 : XF Tryz.prog := ⟨118, Tryz.f118, fun _ => .text, Tryz.func118, by kernel_rfl, by kernel_rfl, by kernel_rfl, by kernel_rfl⟩
noncomputable def ff118 (x4 x5 : O) (h : HW) : Rs :=
 ob x4 fun a0 =>
 ob (ldN 10 a0 h) fun y1 =>
 ob x5 fun a2 =>
 some (.ret (.tup [y1, a2]), h)
noncomputable def q118_18 (C : YC) (lf : Nat) (r : K2) (x0 x1 : O) (h : HW) : Rs :=
 b2 (yAl Tryz.prog 58 h) fun y3 h3 =>
 ob x0 fun a4 =>
 bc (C (.fn 181) [a4] h3) fun y5 h5 =>
 ob (unE .not y5) fun y6 =>
 yIf y6
 (ob (semBuild Tryz.prog 58 [] []) fun y7 =>
 ob (st 10 y3 y7 h5) fun h8 =>
 r (some y3) (some (.int .i64 14)) h8)
 (ob x0 fun a9 =>
 ob (semNil a9) fun y10 =>
 ob (fa 0 y10) fun y11 =>
 ob (ld1 y11 h5) fun y12 =>
 ob x1 fun a13 =>
 bc (C (.fn 184) [y12, a13] h5) fun y14 h14 =>
 ob (ext 0 y14) fun y15 =>
 ob (ext 1 y14) fun y16 =>
 ob (st 10 y3 y15 h14) fun h17 =>
 r (some y3) (some y16) h17)
theorem q118_18_eq (C : YC) (lf : Nat) (r : K2) (KN : KF) (KE : KX) : ∀ F h, evX fx118 C lf [] F h KN (fun F h => r (F 4) (F 5) h) KE = q118_18 C lf r (F 0) (F 1) h := by
  intro F h; kernel_rfl
noncomputable def fs118 (C : YC) (lf : Nat) (a0 a1 : SV) (h : HW) : Rs := q118_18 C lf ff118 (some a0) (some a1) h
theorem fs118_eq (C : YC) (lf : Nat) (a0 a1 : SV) (h : HW) : yFn Tryz.prog fx118 C lf [a0, a1] h = fs118 C lf a0 a1 h := fnX (K := (fun F h => ff118 (F 4) (F 5) h)) (by kernel_rfl) (((q118_18_eq C lf ff118 (fun F h => ff118 (F 4) (F 5) h) (fun _ _ _ => none)) _ h).trans (by kernel_rfl))
noncomputable def fy118 : YX Tryz.prog := Y2 fx118 fs118 fs118_eq (by kernel_rfl)

noncomputable def fx119 : XF Tryz.prog := ⟨119, Tryz.f119, fun _ => .text, Tryz.func119, by kernel_rfl, by kernel_rfl, by kernel_rfl, by kernel_rfl⟩
noncomputable def ff119 (x4 : O) (h : HW) : Rs :=
 ob x4 fun a0 =>
 some (.ret a0, h)
noncomputable def q119_10 (C : YC) (lf : Nat) (r : K1) (x0 x1 : O) (h : HW) : Rs :=
 ob x0 fun a1 =>
 bc (C (.fn 181) [a1] h) fun y2 h2 =>
 ob (unE .not y2) fun y3 =>
 yIf y3
 (r (some (.int .i64 14)) h2)
 (ob x0 fun a4 =>
 ob (semNil a4) fun y5 =>
 ob (fa 0 y5) fun y6 =>
 ob (ld1 y6 h2) fun y7 =>
 ob x1 fun a8 =>
 bc (C (.fn 176) [y7, a8] h2) fun y9 h9 =>
 r (some y9) h9)
theorem q119_10_eq (C : YC) (lf : Nat) (r : K1) (KN : KF) (KE : KX) : ∀ F h, evX fx119 C lf [] F h KN (fun F h => r (F 4) h) KE = q119_10 C lf r (F 0) (F 1) h := by
  intro F h; kernel_rfl
noncomputable def fs119 (C : YC) (lf : Nat) (a0 a1 : SV) (h : HW) : Rs := q119_10 C lf ff119 (some a0) (some a1) h
theorem fs119_eq (C : YC) (lf : Nat) (a0 a1 : SV) (h : HW) : yFn Tryz.prog fx119 C lf [a0, a1] h = fs119 C lf a0 a1 h := fnX (K := (fun F h => ff119 (F 4) h)) (by kernel_rfl) (((q119_10_eq C lf ff119 (fun F h => ff119 (F 4) h) (fun _ _ _ => none)) _ h).trans (by kernel_rfl))
noncomputable def fy119 : YX Tryz.prog := Y2 fx119 fs119 fs119_eq (by kernel_rfl)

noncomputable def fx125 : XF Tryz.prog := ⟨125, Tryz.f125, fun _ => .text, Tryz.func125, by kernel_rfl, by kernel_rfl, by kernel_rfl, by kernel_rfl⟩
noncomputable def ff125 (x4 : O) (h : HW) : Rs :=
 ob x4 fun a0 =>
 some (.ret a0, h)
noncomputable def q125_32 (C : YC) (lf : Nat) (r : K1) (x0 x1 : O) (h : HW) : Rs :=
 ob x0 fun a1 =>
 bc (C (.fn 193) [a1] h) fun y2 h2 =>
 ob (bin Tryz.prog .eql 197 y2 (.val (.pointer none))) fun y3 =>
 yIf y3
 (r (some (.val (.pointer none))) h2)
 (ob (semNil y2) fun y4 =>
 ob (fa 0 y4) fun y5 =>
 ob (ld1 y5 h2) fun y6 =>
 ob (semBuild Tryz.prog 46 [] []) fun y7 =>
 bc (C (.fn 51) [y6, y7] h2) fun y8 h8 =>
 ob (ext 0 y8) fun y9 =>
 ob (ext 1 y8) fun y10 =>
 ob (semNil y2) fun y11 =>
 ob (fa 1 y11) fun y12 =>
 ob (ld1 y12 h8) fun y13 =>
 ob (semBuild Tryz.prog 46 [] []) fun y14 =>
 bc (C (.fn 189) [y13, y14] h8) fun y15 h15 =>
 ob (ext 0 y15) fun y16 =>
 ob (ext 1 y15) fun y17 =>
 ob (bin Tryz.prog .eql 36 y9 (.val (.pointer none))) fun y18 =>
 bc (gd false (some y18) (some (.ret y10, h15)) h15) fun y19 h19 =>
 bc (gd false (some y18) (bc (C (.fn 76) [y19] h19) fun y20 h20 =>
 some (.ret y20, h20)) h19) fun y21 h21 =>
 bc (gd false (some y18) (ob (bin Tryz.prog .neq 3 y21 (.int .i64 0)) fun y22 =>
 some (.ret y22, h21)) h21) fun y23 h23 =>
 ob (ypk y18 (.bool true) y23) fun y24 =>
 yIf y24
 (r (some (.val (.pointer none))) h23)
 (ob x1 fun a25 =>
 bc (C (.fn 18) [y9, a25] h23) fun y26 h26 =>
 ob (bin Tryz.prog .eql 35 y26 (.val (.pointer none))) fun y27 =>
 yIf y27
 (r (some (.val (.pointer none))) h26)
 (ob x1 fun a28 =>
 bc (C (.fn 192) [y16, a28] h26) fun y29 h29 =>
 ob (semBuild Tryz.prog 199 [0, 1, 2] [y2, y26, y29]) fun y30 =>
 b2 (ybx 199 y30 h29) fun y31 h31 =>
 r (some y31) h31)))
theorem q125_32_eq (C : YC) (lf : Nat) (r : K1) (KN : KF) (KE : KX) : ∀ F h, evX fx125 C lf [] F h KN (fun F h => r (F 4) h) KE = q125_32 C lf r (F 0) (F 1) h := by
  intro F h; kernel_rfl
noncomputable def fs125 (C : YC) (lf : Nat) (a0 a1 : SV) (h : HW) : Rs := q125_32 C lf ff125 (some a0) (some a1) h
theorem fs125_eq (C : YC) (lf : Nat) (a0 a1 : SV) (h : HW) : yFn Tryz.prog fx125 C lf [a0, a1] h = fs125 C lf a0 a1 h := fnX (K := (fun F h => ff125 (F 4) h)) (by kernel_rfl) (((q125_32_eq C lf ff125 (fun F h => ff125 (F 4) h) (fun _ _ _ => none)) _ h).trans (by kernel_rfl))
noncomputable def fy125 : YX Tryz.prog := Y2 fx125 fs125 fs125_eq (by kernel_rfl)

noncomputable def fx126 : XF Tryz.prog := ⟨126, Tryz.f126, fun _ => .text, Tryz.func126, by kernel_rfl, by kernel_rfl, by kernel_rfl, by kernel_rfl⟩
noncomputable def ff126 (x2 : O) (h : HW) : Rs :=
 ob x2 fun a0 =>
 some (.ret a0, h)
noncomputable def q126_6 (C : YC) (lf : Nat) (r : K1) (x0 : O) (h : HW) : Rs :=
 ob x0 fun a1 =>
 ob (bin Tryz.prog .eql 25 a1 (.val (.slice none 0 0))) fun y2 =>
 yIf y2
 (r (some (.val (.slice none 0 0))) h)
 (b2 (ybs Tryz.prog 25 0 [] [] h) fun y3 h3 =>
 ob x0 fun a4 =>
 b2 (ybl Tryz.prog .append #[25, 25] [y3, a4] h3) fun y5 h5 =>
 r (some y5) h5)
theorem q126_6_eq (C : YC) (lf : Nat) (r : K1) (KN : KF) (KE : KX) : ∀ F h, evX fx126 C lf [] F h KN (fun F h => r (F 2) h) KE = q126_6 C lf r (F 0) h := by
  intro F h; kernel_rfl
noncomputable def fs126 (C : YC) (lf : Nat) (a0 : SV) (h : HW) : Rs := q126_6 C lf ff126 (some a0) h
theorem fs126_eq (C : YC) (lf : Nat) (a0 : SV) (h : HW) : yFn Tryz.prog fx126 C lf [a0] h = fs126 C lf a0 h := fnX (K := (fun F h => ff126 (F 2) h)) (by kernel_rfl) (((q126_6_eq C lf ff126 (fun F h => ff126 (F 2) h) (fun _ _ _ => none)) _ h).trans (by kernel_rfl))
noncomputable def fy126 : YX Tryz.prog := Y1 fx126 fs126 fs126_eq (by kernel_rfl)

noncomputable def fx127 : XF Tryz.prog := ⟨127, Tryz.f127, fun r => bif Nat.beq r 6 then .ord [0, 1, 2, 4, 5, 6, 7, 9, 3, 8, 10, 11, 12, 13, 14, 15, 16] [(10, [8, 3])] else .text, Tryz.func127, by kernel_rfl, by kernel_rfl, by kernel_rfl, by kernel_rfl⟩
noncomputable def ff127 (x2 x3 : O) (h : HW) : Rs :=
 ob x2 fun a0 =>
 ob (ldN 14 a0 h) fun y1 =>
 ob x3 fun a2 =>
 some (.ret (.tup [y1, a2]), h)
noncomputable def q127_89 (C : YC) (lf : Nat) (r : K2) (x0 : O) (h : HW) : Rs :=
 b2 (yAl Tryz.prog 117 h) fun y3 h3 =>
 ob x0 fun a4 =>
 ob (semNil a4) fun y5 =>
 ob (fa 5 y5) fun y6 =>
 ob (ld1 y6 h3) fun y7 =>
 ob x0 fun a8 =>
 ob (semNil a8) fun y9 =>
 ob (fa 5 y9) fun y10 =>
 ob (st 1 y10 (.val (.pointer none)) h3) fun h11 =>
 ob x0 fun a12 =>
 ob x0 fun a13 =>
 ob (semNil a13) fun y14 =>
 ob (fa 4 y14) fun y15 =>
 ob (ld1 y15 h11) fun y16 =>
 b2 (ybs Tryz.prog 110 1 [0] [y7] h11) fun y17 h17 =>
 b2 (ybl Tryz.prog .append #[110, 110] [y16, y17] h17) fun y18 h18 =>
 ob (semNil a12) fun y19 =>
 ob (fa 4 y19) fun y20 =>
 ob (st 1 y20 y18 h18) fun h21 =>
 ob x0 fun a22 =>
 ob (semNil a22) fun y23 =>
 ob (fa 6 y23) fun y24 =>
 ob (ld1 y24 h21) fun y25 =>
 bcn (gd false (some y25) (ob x0 fun a26 =>
 some (.ret a26, h21)) h21) fun y27 h27 =>
 bcn (gd false (some y25) (ob (semNil y27) fun y28 =>
 some (.ret y28, h27)) h27) fun y29 h29 =>
 bcn (gd false (some y25) (ob (fa 2 y29) fun y30 =>
 some (.ret y30, h29)) h29) fun y31 h31 =>
 bcn (gd false (some y25) (ob (ld1 y31 h31) fun y32 =>
 some (.ret y32, h31)) h31) fun y33 h33 =>
 bcn (gd false (some y25) (ob (bin Tryz.prog .geq 3 y33 (.int .i64 0)) fun y34 =>
 some (.ret y34, h33)) h33) fun y35 h35 =>
 bcn (gd false (some y25) (some (.ret y35, h35)) h35) fun y36 h36 =>
 bcn (gd true (some y36) (some (.ret y7, h36)) h36) fun y37 h37 =>
 bcn (gd true (some y36) (ob (semNil y37) fun y38 =>
 some (.ret y38, h37)) h37) fun y39 h39 =>
 bcn (gd true (some y36) (ob (fa 0 y39) fun y40 =>
 some (.ret y40, h39)) h39) fun y41 h41 =>
 bcn (gd true (some y36) (ob (fa 2 y41) fun y42 =>
 some (.ret y42, h41)) h41) fun y43 h43 =>
 bcn (gd true (some y36) (ob (ld1 y43 h43) fun y44 =>
 some (.ret y44, h43)) h43) fun y45 h45 =>
 bcn (gd true (some y36) (ob x0 fun a46 =>
 some (.ret a46, h45)) h45) fun y47 h47 =>
 bcn (gd true (some y36) (ob (semNil y47) fun y48 =>
 some (.ret y48, h47)) h47) fun y49 h49 =>
 bcn (gd true (some y36) (ob (fa 2 y49) fun y50 =>
 some (.ret y50, h49)) h49) fun y51 h51 =>
 bcn (gd true (some y36) (ob (ld1 y51 h51) fun y52 =>
 some (.ret y52, h51)) h51) fun y53 h53 =>
 bcn (gd true (some y36) (ob (bin Tryz.prog .geq 3 y45 y53) fun y54 =>
 some (.ret y54, h53)) h53) fun y55 h55 =>
 bcn (gd false (some y25) (ob (ypk y36 y55 (.bool false)) fun y56 =>
 some (.ret y56, h55)) h55) fun y57 h57 =>
 ob (ypk y25 (.bool true) y57) fun y58 =>
 yIf y58
 (ob (semBuild Tryz.prog 117 [] []) fun y59 =>
 ob (st 14 y3 y59 h57) fun h60 =>
 r (some y3) (some (.bool false)) h60)
 (ob x0 fun a61 =>
 ob (semNil a61) fun y62 =>
 ob (fa 0 y62) fun y63 =>
 ob (semNil y7) fun y64 =>
 ob (fa 0 y64) fun y65 =>
 ob (fa 1 y65) fun y66 =>
 ob x0 fun a67 =>
 ob (ld1 y63 h57) fun y68 =>
 ob (ld1 y66 h57) fun y69 =>
 bcn (C (.fn 131) [a67, (.int .i64 4)] h57) fun y70 h70 =>
 ck (chkH [(8, adrO (some y66)), (3, adrO (some y63))] h57 h70 [8, 3]) <|
 bcn (C (.fn 74) [y68, y69, y70] h70) fun y71 h71 =>
 ob (ext 0 y71) fun y72 =>
 ob (ext 1 y71) fun y73 =>
 ob (semNil y7) fun y74 =>
 ob (fa 14 y74) fun y75 =>
 ob (st 1 y75 y72 h71) fun h76 =>
 ob (semNil y7) fun y77 =>
 ob (fa 0 y77) fun y78 =>
 ob (ldN 14 y78 h76) fun y79 =>
 b2 (yAl Tryz.prog 117 h76) fun y80 h80 =>
 ob (st 14 y80 y79 h80) fun h81 =>
 ob (fa 0 y80) fun y82 =>
 ob (st 1 y82 (.int .i64 4) h81) fun h83 =>
 ob (fa 13 y80) fun y84 =>
 ob (st 1 y84 y73 h83) fun h85 =>
 ob (ldN 14 y80 h85) fun y86 =>
 ob (bin Tryz.prog .neq 23 y73 (.int .i64 0)) fun y87 =>
 ob (st 14 y3 y86 h85) fun h88 =>
 r (some y3) (some y87) h88)
theorem q127_89_eq (C : YC) (lf : Nat) (r : K2) (KN : KF) (KE : KX) : ∀ F h, evX fx127 C lf [] F h KN (fun F h => r (F 2) (F 3) h) KE = q127_89 C lf r (F 0) h := by
  intro F h; kernel_rfl
noncomputable def fs127 (C : YC) (lf : Nat) (a0 : SV) (h : HW) : Rs := q127_89 C lf ff127 (some a0) h
theorem fs127_eq (C : YC) (lf : Nat) (a0 : SV) (h : HW) : yFn Tryz.prog fx127 C lf [a0] h = fs127 C lf a0 h := fnX (K := (fun F h => ff127 (F 2) (F 3) h)) (by kernel_rfl) (((q127_89_eq C lf ff127 (fun F h => ff127 (F 2) (F 3) h) (fun _ _ _ => none)) _ h).trans (by kernel_rfl))
noncomputable def fy127 : YX Tryz.prog := Y1 fx127 fs127 fs127_eq (by kernel_rfl)

noncomputable def fx128 : XF Tryz.prog := ⟨128, Tryz.f128, fun _ => .text, Tryz.func128, by kernel_rfl, by kernel_rfl, by kernel_rfl, by kernel_rfl⟩
noncomputable def ff128 (x2 x3 : O) (h : HW) : Rs :=
 ob x2 fun a0 =>
 ob x3 fun a1 =>
 some (.ret (.tup [a0, a1]), h)
noncomputable def q128_24 (C : YC) (lf : Nat) (r : K2) (x0 : O) (h : HW) : Rs :=
 ob x0 fun a2 =>
 ob (semNil a2) fun y3 =>
 ob (fa 14 y3) fun y4 =>
 ob (ld1 y4 h) fun y5 =>
 ob (lenE Tryz.prog 123 y5) fun y6 =>
 ob (bin Tryz.prog .eql 3 y6 (.int .i64 0)) fun y7 =>
 yIf y7
 (r (some (.str (bs []))) (some (.bool false)) h)
 (ob x0 fun a8 =>
 ob (semNil a8) fun y9 =>
 ob (fa 14 y9) fun y10 =>
 ob (ld1 y10 h) fun y11 =>
 ob (ixS 3 y11 (.int .i64 0)) fun y12 =>
 ob (fa 0 y12) fun y13 =>
 ob (ld1 y13 h) fun y14 =>
 ob x0 fun a15 =>
 ob x0 fun a16 =>
 ob (semNil a16) fun y17 =>
 ob (fa 14 y17) fun y18 =>
 ob (ld1 y18 h) fun y19 =>
 ob (semSlice Tryz.prog 123 y19 (some (.int .i64 1)) none) fun y20 =>
 ob (semNil a15) fun y21 =>
 ob (fa 14 y21) fun y22 =>
 ob (st 1 y22 y20 h) fun h23 =>
 r (some y14) (some (.bool true)) h23)
theorem q128_24_eq (C : YC) (lf : Nat) (r : K2) (KN : KF) (KE : KX) : ∀ F h, evX fx128 C lf [] F h KN (fun F h => r (F 2) (F 3) h) KE = q128_24 C lf r (F 0) h := by
  intro F h; kernel_rfl
noncomputable def fs128 (C : YC) (lf : Nat) (a0 : SV) (h : HW) : Rs := q128_24 C lf ff128 (some a0) h
theorem fs128_eq (C : YC) (lf : Nat) (a0 : SV) (h : HW) : yFn Tryz.prog fx128 C lf [a0] h = fs128 C lf a0 h := fnX (K := (fun F h => ff128 (F 2) (F 3) h)) (by kernel_rfl) (((q128_24_eq C lf ff128 (fun F h => ff128 (F 2) (F 3) h) (fun _ _ _ => none)) _ h).trans (by kernel_rfl))
noncomputable def fy128 : YX Tryz.prog := Y1 fx128 fs128 fs128_eq (by kernel_rfl)

noncomputable def fx129 : XF Tryz.prog := ⟨129, Tryz.f129, fun _ => .text, Tryz.func129, by kernel_rfl, by kernel_rfl, by kernel_rfl, by kernel_rfl⟩
noncomputable def ff129 (x6 : O) (h : HW) : Rs :=
 ob x6 fun a0 =>
 ob (ldN 14 a0 h) fun y1 =>
 some (.ret y1, h)
noncomputable def q129_54 (C : YC) (lf : Nat) (r : K1) (x0 x1 x2 x6 x9 x10 : O) (h : HW) : Rs :=
 ob x1 fun a2 =>
 ob x2 fun a3 =>
 ob x9 fun a4 =>
 ob (ldN 10 a4 h) fun y5 =>
 ob x10 fun a6 =>
 ob (semBuild Tryz.prog 117 [0, 1, 2, 3, 4] [(.int .i64 1), a2, a3, y5, a6]) fun y7 =>
 b2 (yAl Tryz.prog 117 h) fun y8 h8 =>
 ob (st 14 y8 y7 h8) fun h9 =>
 ob x10 fun a10 =>
 ob (bin Tryz.prog .neq 23 a10 (.int .i64 0)) fun y11 =>
 yIf y11
 (ob (semBuild Tryz.prog 58 [] []) fun y12 =>
 ob (fa 0 y8) fun y13 =>
 ob (st 1 y13 (.int .i64 4) h9) fun h14 =>
 ob (fa 3 y8) fun y15 =>
 ob (st 10 y15 y12 h14) fun h16 =>
 ob (ldN 14 y8 h16) fun y17 =>
 ob x6 fun a18 =>
 ob (st 14 a18 y17 h16) fun h19 =>
 r x6 h19)
 (ob x9 fun a20 =>
 ob (fa 6 a20) fun y21 =>
 ob (ld1 y21 h9) fun y22 =>
 ob (bin Tryz.prog .and 30 y22 (.int .i64 61440)) fun y23 =>
 ob (bin Tryz.prog .neq 30 y23 (.int .i64 16384)) fun y24 =>
 yIf y24
 (ob (ldN 14 y8 h9) fun y25 =>
 ob x6 fun a26 =>
 ob (st 14 a26 y25 h9) fun h27 =>
 r x6 h27)
 (ob x0 fun a28 =>
 ob x9 fun a29 =>
 ob (fa 0 a29) fun y30 =>
 ob (ld1 y30 h9) fun y31 =>
 bc (C (.fn 195) [a28, y31] h9) fun y32 h32 =>
 yIf y32
 (ob (fa 0 y8) fun y33 =>
 ob (st 1 y33 (.int .i64 5) h32) fun h34 =>
 ob (ldN 14 y8 h34) fun y35 =>
 ob x6 fun a36 =>
 ob (st 14 a36 y35 h34) fun h37 =>
 r x6 h37)
 (ob (fa 0 y8) fun y38 =>
 ob (st 1 y38 (.int .i64 2) h32) fun h39 =>
 ob x0 fun a40 =>
 ob x0 fun a41 =>
 ob (ldN 14 y8 h39) fun y42 =>
 ob (semBuild Tryz.prog 206 [0] [y42]) fun y43 =>
 b2 (ybx 206 y43 h39) fun y44 h44 =>
 ob (semNil a40) fun y45 =>
 ob (fa 5 y45) fun y46 =>
 ob (st 1 y46 y44 h44) fun h47 =>
 ob (semNil a41) fun y48 =>
 ob (fa 6 y48) fun y49 =>
 ob (st 1 y49 (.bool false) h47) fun h50 =>
 ob (ldN 14 y8 h50) fun y51 =>
 ob x6 fun a52 =>
 ob (st 14 a52 y51 h50) fun h53 =>
 r x6 h53)))
theorem q129_54_eq (C : YC) (lf : Nat) (r : K1) (KN : KF) (KE : KX) : ∀ F h, evX fx129 C lf [1, 1, 1, 1, 1, 1] F h KN (fun F h => r (F 6) h) KE = q129_54 C lf r (F 0) (F 1) (F 2) (F 6) (F 9) (F 10) h := by
  intro F h; kernel_rfl
noncomputable def q129_78 (C : YC) (lf : Nat) (n : K6) (x0 x1 x2 x6 x8 x9 x10 : O) (h : HW) : Rs :=
 ob x8 fun a55 =>
 bc (gd true (some a55) (ob x10 fun a56 =>
 some (.ret a56, h)) h) fun y57 h57 =>
 bc (gd true (some a55) (ob (bin Tryz.prog .eql 23 y57 (.int .i64 2)) fun y58 =>
 some (.ret y58, h57)) h57) fun y59 h59 =>
 bc (gd true (some a55) (some (.ret y59, h59)) h59) fun y60 h60 =>
 bc (gd false (some y60) (ob x10 fun a61 =>
 some (.ret a61, h60)) h60) fun y62 h62 =>
 bc (gd false (some y60) (ob (bin Tryz.prog .eql 23 y62 (.int .i64 40)) fun y63 =>
 some (.ret y63, h62)) h62) fun y64 h64 =>
 bc (gd true (some a55) (ob (ypk y60 (.bool true) y64) fun y65 =>
 some (.ret y65, h64)) h64) fun y66 h66 =>
 ob (ypk a55 y66 (.bool false)) fun y67 =>
 yIf y67
 (ob x0 fun a68 =>
 ob (semNil a68) fun y69 =>
 ob (fa 0 y69) fun y70 =>
 ob (ld1 y70 h66) fun y71 =>
 ob x1 fun a72 =>
 bc (C (.fn 194) [y71, a72] h66) fun y73 h73 =>
 ob (ext 0 y73) fun y74 =>
 ob (ext 1 y73) fun y75 =>
 ob x9 fun a76 =>
 ob (st 10 a76 y74 h73) fun h77 =>
 n x0 x1 x2 x6 x9 (some y75) h77)
 (n x0 x1 x2 x6 x9 x10 h66)
theorem q129_78_eq (C : YC) (lf : Nat) (n : K6) (KR : KF) (KE : KX) : ∀ F h, evX fx129 C lf [1, 1, 1, 1, 1, 0] F h (fun F h => n (F 0) (F 1) (F 2) (F 6) (F 9) (F 10) h) KR KE = q129_78 C lf n (F 0) (F 1) (F 2) (F 6) (F 8) (F 9) (F 10) h := by
  intro F h; kernel_rfl
noncomputable def q129_79 (C : YC) (lf : Nat) (r : K1) (x0 x1 x2 x6 x8 x9 x10 : O) (h : HW) : Rs :=
 q129_78 C lf (fun x0 x1 x2 x6 x9 x10 h => q129_54 C lf r x0 x1 x2 x6 x9 x10 h) x0 x1 x2 x6 x8 x9 x10 h
theorem q129_79_eq (C : YC) (lf : Nat) (r : K1) (KN : KF) (KE : KX) : ∀ F h, evX fx129 C lf [1, 1, 1, 1, 1] F h KN (fun F h => r (F 6) h) KE = q129_79 C lf r (F 0) (F 1) (F 2) (F 6) (F 8) (F 9) (F 10) h := cSeq (a := subX fx129 [1, 1, 1, 1, 1, 0]) (b := subX fx129 [1, 1, 1, 1, 1, 1]) (by kernel_rfl) (B := (fun F h => q129_54 C lf r (F 0) (F 1) (F 2) (F 6) (F 9) (F 10) h)) (q129_54_eq C lf r KN KE) (q129_78_eq C lf (fun x0 x1 x2 x6 x9 x10 h => q129_54 C lf r x0 x1 x2 x6 x9 x10 h) (fun F h => r (F 6) h) KE)
noncomputable def q129_87 (C : YC) (lf : Nat) (n : K7) (x0 x1 x2 x6 x7 x8 : O) (h : HW) : Rs :=
 ob x7 fun a80 =>
 ob x1 fun a81 =>
 cv false C a80 [a81] h fun y82 h82 =>
 ob (ext 0 y82) fun y83 =>
 ob (ext 1 y82) fun y84 =>
 b2 (yAl Tryz.prog 58 h82) fun y85 h85 =>
 ob (st 10 y85 y83 h85) fun h86 =>
 n x0 x1 x2 x6 x8 (some y85) (some y84) h86
theorem q129_87_eq (C : YC) (lf : Nat) (n : K7) (KR : KF) (KE : KX) : ∀ F h, evX fx129 C lf [1, 1, 1, 1, 0] F h (fun F h => n (F 0) (F 1) (F 2) (F 6) (F 8) (F 9) (F 10) h) KR KE = q129_87 C lf n (F 0) (F 1) (F 2) (F 6) (F 7) (F 8) h := by
  intro F h; kernel_rfl
noncomputable def q129_88 (C : YC) (lf : Nat) (r : K1) (x0 x1 x2 x6 x7 x8 : O) (h : HW) : Rs :=
 q129_87 C lf (fun x0 x1 x2 x6 x8 x9 x10 h => q129_79 C lf r x0 x1 x2 x6 x8 x9 x10 h) x0 x1 x2 x6 x7 x8 h
theorem q129_88_eq (C : YC) (lf : Nat) (r : K1) (KN : KF) (KE : KX) : ∀ F h, evX fx129 C lf [1, 1, 1, 1] F h KN (fun F h => r (F 6) h) KE = q129_88 C lf r (F 0) (F 1) (F 2) (F 6) (F 7) (F 8) h := cSeq (a := subX fx129 [1, 1, 1, 1, 0]) (b := subX fx129 [1, 1, 1, 1, 1]) (by kernel_rfl) (B := (fun F h => q129_79 C lf r (F 0) (F 1) (F 2) (F 6) (F 8) (F 9) (F 10) h)) (q129_79_eq C lf r KN KE) (q129_87_eq C lf (fun x0 x1 x2 x6 x8 x9 x10 h => q129_79 C lf r x0 x1 x2 x6 x8 x9 x10 h) (fun F h => r (F 6) h) KE)
noncomputable def q129_94 (C : YC) (lf : Nat) (n : K6) (x0 x1 x2 x6 x7 x8 : O) (h : HW) : Rs :=
 ob x8 fun a89 =>
 yIf a89
 (ob x0 fun a90 =>
 ob (semNil a90) fun y91 =>
 ob (fa 0 y91) fun y92 =>
 ob (ld1 y92 h) fun y93 =>
 n x0 x1 x2 x6 (some (.fn (.func 22) [y93] [])) x8 h)
 (n x0 x1 x2 x6 x7 x8 h)
theorem q129_94_eq (C : YC) (lf : Nat) (n : K6) (KR : KF) (KE : KX) : ∀ F h, evX fx129 C lf [1, 1, 1, 0] F h (fun F h => n (F 0) (F 1) (F 2) (F 6) (F 7) (F 8) h) KR KE = q129_94 C lf n (F 0) (F 1) (F 2) (F 6) (F 7) (F 8) h := by
  intro F h; kernel_rfl
noncomputable def q129_95 (C : YC) (lf : Nat) (r : K1) (x0 x1 x2 x6 x7 x8 : O) (h : HW) : Rs :=
 q129_94 C lf (fun x0 x1 x2 x6 x7 x8 h => q129_88 C lf r x0 x1 x2 x6 x7 x8 h) x0 x1 x2 x6 x7 x8 h
theorem q129_95_eq (C : YC) (lf : Nat) (r : K1) (KN : KF) (KE : KX) : ∀ F h, evX fx129 C lf [1, 1, 1] F h KN (fun F h => r (F 6) h) KE = q129_95 C lf r (F 0) (F 1) (F 2) (F 6) (F 7) (F 8) h := cSeq (a := subX fx129 [1, 1, 1, 0]) (b := subX fx129 [1, 1, 1, 1]) (by kernel_rfl) (B := (fun F h => q129_88 C lf r (F 0) (F 1) (F 2) (F 6) (F 7) (F 8) h)) (q129_88_eq C lf r KN KE) (q129_94_eq C lf (fun x0 x1 x2 x6 x7 x8 h => q129_88 C lf r x0 x1 x2 x6 x7 x8 h) (fun F h => r (F 6) h) KE)
noncomputable def q129_110 (C : YC) (lf : Nat) (n : K6) (x0 x1 x2 x6 x7 : O) (h : HW) : Rs :=
 ob x0 fun a96 =>
 bc (C (.fn 131) [a96, (.int .i64 1)] h) fun y97 h97 =>
 bc (gd false (some y97) (ob x2 fun a98 =>
 some (.ret a98, h97)) h97) fun y99 h99 =>
 bc (gd false (some y97) (ob (bin Tryz.prog .eql 3 y99 (.int .i64 0)) fun y100 =>
 some (.ret y100, h99)) h99) fun y101 h101 =>
 bc (gd false (some y97) (some (.ret y101, h101)) h101) fun y102 h102 =>
 bc (gd true (some y102) (ob x0 fun a103 =>
 some (.ret a103, h102)) h102) fun y104 h104 =>
 bc (gd true (some y102) (bc (C (.fn 131) [y104, (.int .i64 2)] h104) fun y105 h105 =>
 some (.ret y105, h105)) h104) fun y106 h106 =>
 bc (gd false (some y97) (ob (ypk y102 y106 (.bool false)) fun y107 =>
 some (.ret y107, h106)) h106) fun y108 h108 =>
 ob (ypk y97 (.bool true) y108) fun y109 =>
 n x0 x1 x2 x6 x7 (some y109) h108
theorem q129_110_eq (C : YC) (lf : Nat) (n : K6) (KR : KF) (KE : KX) : ∀ F h, evX fx129 C lf [1, 1, 0] F h (fun F h => n (F 0) (F 1) (F 2) (F 6) (F 7) (F 8) h) KR KE = q129_110 C lf n (F 0) (F 1) (F 2) (F 6) (F 7) h := by
  intro F h; kernel_rfl
noncomputable def q129_111 (C : YC) (lf : Nat) (r : K1) (x0 x1 x2 x6 x7 : O) (h : HW) : Rs :=
 q129_110 C lf (fun x0 x1 x2 x6 x7 x8 h => q129_95 C lf r x0 x1 x2 x6 x7 x8 h) x0 x1 x2 x6 x7 h
theorem q129_111_eq (C : YC) (lf : Nat) (r : K1) (KN : KF) (KE : KX) : ∀ F h, evX fx129 C lf [1, 1] F h KN (fun F h => r (F 6) h) KE = q129_111 C lf r (F 0) (F 1) (F 2) (F 6) (F 7) h := cSeq (a := subX fx129 [1, 1, 0]) (b := subX fx129 [1, 1, 1]) (by kernel_rfl) (B := (fun F h => q129_95 C lf r (F 0) (F 1) (F 2) (F 6) (F 7) (F 8) h)) (q129_95_eq C lf r KN KE) (q129_110_eq C lf (fun x0 x1 x2 x6 x7 x8 h => q129_95 C lf r x0 x1 x2 x6 x7 x8 h) (fun F h => r (F 6) h) KE)
noncomputable def q129_116 (C : YC) (lf : Nat) (n : K5) (x0 x1 x2 x6 : O) (h : HW) : Rs :=
 ob x0 fun a112 =>
 ob (semNil a112) fun y113 =>
 ob (fa 0 y113) fun y114 =>
 ob (ld1 y114 h) fun y115 =>
 n x0 x1 x2 x6 (some (.fn (.func 194) [y115] [])) h
theorem q129_116_eq (C : YC) (lf : Nat) (n : K5) (KR : KF) (KE : KX) : ∀ F h, evX fx129 C lf [1, 0] F h (fun F h => n (F 0) (F 1) (F 2) (F 6) (F 7) h) KR KE = q129_116 C lf n (F 0) (F 1) (F 2) (F 6) h := by
  intro F h; kernel_rfl
noncomputable def q129_117 (C : YC) (lf : Nat) (r : K1) (x0 x1 x2 x6 : O) (h : HW) : Rs :=
 q129_116 C lf (fun x0 x1 x2 x6 x7 h => q129_111 C lf r x0 x1 x2 x6 x7 h) x0 x1 x2 x6 h
theorem q129_117_eq (C : YC) (lf : Nat) (r : K1) (KN : KF) (KE : KX) : ∀ F h, evX fx129 C lf [1] F h KN (fun F h => r (F 6) h) KE = q129_117 C lf r (F 0) (F 1) (F 2) (F 6) h := cSeq (a := subX fx129 [1, 0]) (b := subX fx129 [1, 1]) (by kernel_rfl) (B := (fun F h => q129_111 C lf r (F 0) (F 1) (F 2) (F 6) (F 7) h)) (q129_111_eq C lf r KN KE) (q129_116_eq C lf (fun x0 x1 x2 x6 x7 h => q129_111 C lf r x0 x1 x2 x6 x7 h) (fun F h => r (F 6) h) KE)
noncomputable def q129_119 (C : YC) (lf : Nat) (n : K4) (x0 x1 x2 : O) (h : HW) : Rs :=
 b2 (yAl Tryz.prog 117 h) fun y118 h118 =>
 n x0 x1 x2 (some y118) h118
theorem q129_119_eq (C : YC) (lf : Nat) (n : K4) (KR : KF) (KE : KX) : ∀ F h, evX fx129 C lf [0] F h (fun F h => n (F 0) (F 1) (F 2) (F 6) h) KR KE = q129_119 C lf n (F 0) (F 1) (F 2) h := by
  intro F h; kernel_rfl
noncomputable def q129_120 (C : YC) (lf : Nat) (r : K1) (x0 x1 x2 : O) (h : HW) : Rs :=
 q129_119 C lf (fun x0 x1 x2 x6 h => q129_117 C lf r x0 x1 x2 x6 h) x0 x1 x2 h
theorem q129_120_eq (C : YC) (lf : Nat) (r : K1) (KN : KF) (KE : KX) : ∀ F h, evX fx129 C lf [] F h KN (fun F h => r (F 6) h) KE = q129_120 C lf r (F 0) (F 1) (F 2) h := cSeq (a := subX fx129 [0]) (b := subX fx129 [1]) (by kernel_rfl) (B := (fun F h => q129_117 C lf r (F 0) (F 1) (F 2) (F 6) h)) (q129_117_eq C lf r KN KE) (q129_119_eq C lf (fun x0 x1 x2 x6 h => q129_117 C lf r x0 x1 x2 x6 h) (fun F h => r (F 6) h) KE)
noncomputable def fs129 (C : YC) (lf : Nat) (a0 a1 a2 : SV) (h : HW) : Rs := q129_120 C lf ff129 (some a0) (some a1) (some a2) h
theorem fs129_eq (C : YC) (lf : Nat) (a0 a1 a2 : SV) (h : HW) : yFn Tryz.prog fx129 C lf [a0, a1, a2] h = fs129 C lf a0 a1 a2 h := fnX (K := (fun F h => ff129 (F 6) h)) (by kernel_rfl) (((q129_120_eq C lf ff129 (fun F h => ff129 (F 6) h) (fun _ _ _ => none)) _ h).trans (by kernel_rfl))
noncomputable def fy129 : YX Tryz.prog := Y3 fx129 fs129 fs129_eq (by kernel_rfl)

noncomputable def fx130 : XF Tryz.prog := ⟨130, Tryz.f130, fun _ => .text, Tryz.func130, by kernel_rfl, by kernel_rfl, by kernel_rfl, by kernel_rfl⟩
noncomputable def ff130 (x4 : O) (h : HW) : Rs :=
 ob x4 fun a0 =>
 some (.ret a0, h)
noncomputable def q130_17 (C : YC) (lf : Nat) (r : K1) (x0 x1 : O) (h : HW) : Rs :=
 ob x0 fun a1 =>
 ob (bin Tryz.prog .neq 9 a1 (.str (bs []))) fun y2 =>
 bc (gd true (some y2) (ob x0 fun a3 =>
 some (.ret a3, h)) h) fun y4 h4 =>
 bc (gd true (some y2) (bc (C (.fn 196) [y4, (.str (bs [47]))] h4) fun y5 h5 =>
 some (.ret y5, h5)) h4) fun y6 h6 =>
 bc (gd true (some y2) (ob (unE .not y6) fun y7 =>
 some (.ret y7, h6)) h6) fun y8 h8 =>
 ob (ypk y2 y8 (.bool false)) fun y9 =>
 yIf y9
 (ob x0 fun a10 =>
 ob (bin Tryz.prog .add 9 a10 (.str (bs [47]))) fun y11 =>
 ob x1 fun a12 =>
 ob (bin Tryz.prog .add 9 y11 a12) fun y13 =>
 r (some y13) h8)
 (ob x0 fun a14 =>
 ob x1 fun a15 =>
 ob (bin Tryz.prog .add 9 a14 a15) fun y16 =>
 r (some y16) h8)
theorem q130_17_eq (C : YC) (lf : Nat) (r : K1) (KN : KF) (KE : KX) : ∀ F h, evX fx130 C lf [] F h KN (fun F h => r (F 4) h) KE = q130_17 C lf r (F 0) (F 1) h := by
  intro F h; kernel_rfl
noncomputable def fs130 (C : YC) (lf : Nat) (a0 a1 : SV) (h : HW) : Rs := q130_17 C lf ff130 (some a0) (some a1) h
theorem fs130_eq (C : YC) (lf : Nat) (a0 a1 : SV) (h : HW) : yFn Tryz.prog fx130 C lf [a0, a1] h = fs130 C lf a0 a1 h := fnX (K := (fun F h => ff130 (F 4) h)) (by kernel_rfl) (((q130_17_eq C lf ff130 (fun F h => ff130 (F 4) h) (fun _ _ _ => none)) _ h).trans (by kernel_rfl))
noncomputable def fy130 : YX Tryz.prog := Y2 fx130 fs130 fs130_eq (by kernel_rfl)

noncomputable def fx131 : XF Tryz.prog := ⟨131, Tryz.f131, fun _ => .text, Tryz.func131, by kernel_rfl, by kernel_rfl, by kernel_rfl, by kernel_rfl⟩
noncomputable def ff131 (x4 : O) (h : HW) : Rs :=
 ob x4 fun a0 =>
 some (.ret a0, h)
noncomputable def q131_8 (C : YC) (lf : Nat) (r : K1) (x0 x1 : O) (h : HW) : Rs :=
 ob x0 fun a1 =>
 ob (semNil a1) fun y2 =>
 ob (fa 1 y2) fun y3 =>
 ob (ld1 y3 h) fun y4 =>
 ob x1 fun a5 =>
 ob (bin Tryz.prog .and 3 y4 a5) fun y6 =>
 ob (bin Tryz.prog .neq 3 y6 (.int .i64 0)) fun y7 =>
 r (some y7) h
theorem q131_8_eq (C : YC) (lf : Nat) (r : K1) (KN : KF) (KE : KX) : ∀ F h, evX fx131 C lf [] F h KN (fun F h => r (F 4) h) KE = q131_8 C lf r (F 0) (F 1) h := by
  intro F h; kernel_rfl
noncomputable def fs131 (C : YC) (lf : Nat) (a0 a1 : SV) (h : HW) : Rs := q131_8 C lf ff131 (some a0) (some a1) h
theorem fs131_eq (C : YC) (lf : Nat) (a0 a1 : SV) (h : HW) : yFn Tryz.prog fx131 C lf [a0, a1] h = fs131 C lf a0 a1 h := fnX (K := (fun F h => ff131 (F 4) h)) (by kernel_rfl) (((q131_8_eq C lf ff131 (fun F h => ff131 (F 4) h) (fun _ _ _ => none)) _ h).trans (by kernel_rfl))
noncomputable def fy131 : YX Tryz.prog := Y2 fx131 fs131 fs131_eq (by kernel_rfl)

noncomputable def fx133 : XF Tryz.prog := ⟨133, Tryz.f133, fun r => bif Nat.beq r 2 then .ord [0, 2, 4, 1, 3, 5, 6, 7] [(5, [3])] else .text, Tryz.func133, by kernel_rfl, by kernel_rfl, by kernel_rfl, by kernel_rfl⟩
noncomputable def ff133 (x4 x5 x6 : O) (h : HW) : Rs :=
 ob x4 fun a0 =>
 ob (ldN 3 a0 h) fun y1 =>
 ob x5 fun a2 =>
 ob x6 fun a3 =>
 some (.ret (.tup [y1, a2, a3]), h)
noncomputable def q133_20 (C : YC) (lf : Nat) (r : K3) (x0 x1 : O) (h : HW) : Rs :=
 ob x0 fun a4 =>
 b2 (ybx 35 a4 h) fun y5 h5 =>
 ob x1 fun a6 =>
 b2 (ybx 3 a6 h5) fun y7 h7 =>
 b2 (yAl Tryz.prog 81 h7) fun y8 h8 =>
 ob (ld1 y5 h8) fun y9 =>
 bc (C (.fn 197) [y9, (.str (bs [114, 101, 97, 100, 100, 105, 114])), (.fn (.func 198) [] [y5, y7])] h8) fun y10 h10 =>
 ob (ext 0 y10) fun y11 =>
 ob (ext 1 y10) fun y12 =>
 b2 (yAl Tryz.prog 272 h10) fun y13 h13 =>
 ob (st 4 y13 y11 h13) fun h14 =>
 ob (fa 0 y13) fun y15 =>
 ob (fa 3 y13) fun y16 =>
 ob (ldN 3 y15 h14) fun y17 =>
 ob (ld1 y16 h14) fun y18 =>
 ob (st 3 y8 y17 h14) fun h19 =>
 ck (chkH [(3, adrO (some y16)), (1, adrO (some y15))] h14 h19 [3]) <|
 r (some y8) (some y18) (some y12) h19
theorem q133_20_eq (C : YC) (lf : Nat) (r : K3) (KN : KF) (KE : KX) : ∀ F h, evX fx133 C lf [] F h KN (fun F h => r (F 4) (F 5) (F 6) h) KE = q133_20 C lf r (F 0) (F 1) h := by
  intro F h; kernel_rfl
noncomputable def fs133 (C : YC) (lf : Nat) (a0 a1 : SV) (h : HW) : Rs := q133_20 C lf ff133 (some a0) (some a1) h
theorem fs133_eq (C : YC) (lf : Nat) (a0 a1 : SV) (h : HW) : yFn Tryz.prog fx133 C lf [a0, a1] h = fs133 C lf a0 a1 h := fnX (K := (fun F h => ff133 (F 4) (F 5) (F 6) h)) (by kernel_rfl) (((q133_20_eq C lf ff133 (fun F h => ff133 (F 4) (F 5) (F 6) h) (fun _ _ _ => none)) _ h).trans (by kernel_rfl))
noncomputable def fy133 : YX Tryz.prog := Y2 fx133 fs133 fs133_eq (by kernel_rfl)

noncomputable def fx137 : XF Tryz.prog := ⟨137, Tryz.f137, fun _ => .text, Tryz.func137, by kernel_rfl, by kernel_rfl, by kernel_rfl, by kernel_rfl⟩
noncomputable def ff137 (x4 x5 : O) (h : HW) : Rs :=
 ob x4 fun a0 =>
 ob x5 fun a1 =>
 some (.ret (.tup [a0, a1]), h)
noncomputable def q137_18 (C : YC) (lf : Nat) (r : K2) (x0 x1 : O) (h : HW) : Rs :=
 ob x0 fun a2 =>
 bc (C (.fn 201) [a2] h) fun y3 h3 =>
 ob (ext 0 y3) fun y4 =>
 ob (ext 1 y3) fun y5 =>
 ob (bin Tryz.prog .neq 23 y5 (.int .i64 0)) fun y6 =>
 yIf y6
 (r (some (.val (.pointer none))) (some (.int .i64 22)) h3)
 (ob x1 fun a7 =>
 ob (bin Tryz.prog .lss 3 a7 (.int .i64 1)) fun y8 =>
 bc (gd false (some y8) (ob x1 fun a9 =>
 some (.ret a9, h3)) h3) fun y10 h10 =>
 bc (gd false (some y8) (ob (bin Tryz.prog .gtr 3 y10 (.int .i64 4096)) fun y11 =>
 some (.ret y11, h10)) h10) fun y12 h12 =>
 ob (ypk y8 (.bool true) y12) fun y13 =>
 yIf y13
 (r (some (.val (.pointer none))) (some (.int .i64 22)) h12)
 (ob x1 fun a14 =>
 b2 (ymk Tryz.prog 280 a14 a14 h12) fun y15 h15 =>
 ob (semBuild Tryz.prog 282 [0, 1] [y4, y15]) fun y16 =>
 b2 (ybx 282 y16 h15) fun y17 h17 =>
 r (some y17) (some (.int .i64 0)) h17))
theorem q137_18_eq (C : YC) (lf : Nat) (r : K2) (KN : KF) (KE : KX) : ∀ F h, evX fx137 C lf [] F h KN (fun F h => r (F 4) (F 5) h) KE = q137_18 C lf r (F 0) (F 1) h := by
  intro F h; kernel_rfl
noncomputable def fs137 (C : YC) (lf : Nat) (a0 a1 : SV) (h : HW) : Rs := q137_18 C lf ff137 (some a0) (some a1) h
theorem fs137_eq (C : YC) (lf : Nat) (a0 a1 : SV) (h : HW) : yFn Tryz.prog fx137 C lf [a0, a1] h = fs137 C lf a0 a1 h := fnX (K := (fun F h => ff137 (F 4) (F 5) h)) (by kernel_rfl) (((q137_18_eq C lf ff137 (fun F h => ff137 (F 4) (F 5) h) (fun _ _ _ => none)) _ h).trans (by kernel_rfl))
noncomputable def fy137 : YX Tryz.prog := Y2 fx137 fs137 fs137_eq (by kernel_rfl)

noncomputable def fx138 : XF Tryz.prog := ⟨138, Tryz.f138, fun _ => .text, Tryz.func138, by kernel_rfl, by kernel_rfl, by kernel_rfl, by kernel_rfl⟩
noncomputable def ff138 (x8 x9 : O) (h : HW) : Rs :=
 ob x8 fun a0 =>
 ob x9 fun a1 =>
 some (.ret (.tup [a0, a1]), h)
noncomputable def q138_2 (C : YC) (lf : Nat) (r : K2) (h : HW) : Rs :=
 r (some (.int .i64 0)) (some (.int .i64 28)) h
theorem q138_2_eq (C : YC) (lf : Nat) (r : K2) (KN : KF) (KE : KX) : ∀ F h, evX fx138 C lf [1, 1, 1, 1, 1] F h KN (fun F h => r (F 8) (F 9) h) KE = q138_2 C lf r h := by
  intro F h; kernel_rfl
noncomputable def q138_43 (C : YC) (lf : Nat) (n : K6) (r : K2) (e0 : K0) (x0 x1 x2 x3 x44 x45 : O) (h : HW) : Rs :=
 ob x45 fun a4 =>
 ob x44 fun a5 =>
 ob (bin Tryz.prog .lss 3 a4 a5) fun y6 =>
 yIf y6
 (ob x45 fun a7 =>
 ob x0 fun a8 =>
 ob (semNil a8) fun y9 =>
 ob (fa 1 y9) fun y10 =>
 ob (ld1 y10 h) fun y11 =>
 ob (ixS 308 y11 a7) fun y12 =>
 ob (fa 0 y12) fun y13 =>
 ob (ld1 y13 h) fun y14 =>
 ob (unE .not y14) fun y15 =>
 yIf y15
 (ob x0 fun a16 =>
 ob (semNil a16) fun y17 =>
 ob (fa 1 y17) fun y18 =>
 ob (ld1 y18 h) fun y19 =>
 ob (bin Tryz.prog .add 3 a7 (.int .i64 1)) fun y20 =>
 ob x2 fun a21 =>
 ob x3 fun a22 =>
 ob x1 fun a23 =>
 ob x0 fun a24 =>
 ob (semNil a24) fun y25 =>
 ob (fa 2 y25) fun y26 =>
 ob (ld1 y26 h) fun y27 =>
 ob x0 fun a28 =>
 ob (semNil a28) fun y29 =>
 ob (fa 2 y29) fun y30 =>
 ob (ld1 y30 h) fun y31 =>
 ob x0 fun a32 =>
 ob (semNil a32) fun y33 =>
 ob (fa 2 y33) fun y34 =>
 ob (ld1 y34 h) fun y35 =>
 ob (semBuild Tryz.prog 58 [0, 2, 3, 6, 7, 8, 9] [y20, a21, a22, a23, y27, y31, y35]) fun y36 =>
 ob (semBuild Tryz.prog 289 [0, 1] [(.bool true), y36]) fun y37 =>
 ob (ixS 308 y19 a7) fun y38 =>
 ob (st 308 y38 y37 h) fun h39 =>
 ob (bin Tryz.prog .add 3 a7 (.int .i64 1)) fun y40 =>
 r (some y40) (some (.int .i64 0)) h39)
 (ob x45 fun a41 =>
 ob (bin Tryz.prog .add 3 a41 (.int .i64 1)) fun y42 =>
 n x0 x1 x2 x3 x44 (some y42) h))
 (e0 h)
theorem q138_43_eq (C : YC) (lf : Nat) (n : K6) (r : K2) (e0 : K0) (KE : KX) : ∀ F h, evX fx138 C lf [1, 1, 1, 1, 0, 1, 0, 0] F h (fun F h => n (F 0) (F 1) (F 2) (F 3) (F 44) (F 45) h) (fun F h => r (F 8) (F 9) h) (bk 0 (fun F h => e0 h) KE) = q138_43 C lf n r e0 (F 0) (F 1) (F 2) (F 3) (F 44) (F 45) h := by
  intro F h; kernel_rfl
noncomputable def l138_3 (C : YC) (lf : Nat) (r : K2) (e0 : K0) (k : O × O × O × O × O × O → HW → Rs) (s : O × O × O × O × O × O) (h : HW) : Rs :=
 q138_43 C lf (fun x0 x1 x2 x3 x44 x45 h => k (x0, x1, x2, x3, x44, x45) h) r e0 s.1 s.2.1 s.2.2.1 s.2.2.2.1 s.2.2.2.2.1 s.2.2.2.2.2 h
noncomputable def q138_49 (C : YC) (lf : Nat) (n : K6) (x0 x1 x2 x3 : O) (h : HW) : Rs :=
 ob x0 fun a44 =>
 ob (semNil a44) fun y45 =>
 ob (fa 1 y45) fun y46 =>
 ob (ld1 y46 h) fun y47 =>
 ob (lenE Tryz.prog 280 y47) fun y48 =>
 n x0 x1 x2 x3 (some y48) (some (.int .i64 0)) h
theorem q138_49_eq (C : YC) (lf : Nat) (n : K6) (KR : KF) (KE : KX) : ∀ F h, evX fx138 C lf [1, 1, 1, 1, 0, 0] F h (fun F h => n (F 0) (F 1) (F 2) (F 3) (F 44) (F 45) h) KR KE = q138_49 C lf n (F 0) (F 1) (F 2) (F 3) h := by
  intro F h; kernel_rfl
noncomputable def q138_50 (C : YC) (lf : Nat) (n : K0) (r : K2) (x0 x1 x2 x3 : O) (h : HW) : Rs :=
 q138_49 C lf (fun x0 x1 x2 x3 x44 x45 h => lp (l138_3 C lf r n) lf (x0, x1, x2, x3, x44, x45) h) x0 x1 x2 x3 h
theorem q138_50_eq (C : YC) (lf : Nat) (n : K0) (r : K2) (KE : KX) : ∀ F h, evX fx138 C lf [1, 1, 1, 1, 0] F h (fun F h => n h) (fun F h => r (F 8) (F 9) h) KE = q138_50 C lf n r (F 0) (F 1) (F 2) (F 3) h := cSeq (a := subX fx138 [1, 1, 1, 1, 0, 0]) (b := subX fx138 [1, 1, 1, 1, 0, 1]) (by kernel_rfl) (B := (fun F h => lp (l138_3 C lf r n) lf ((F 0), (F 1), (F 2), (F 3), (F 44), (F 45)) h)) (cBlock (id := 0) (a := subX fx138 [1, 1, 1, 1, 0, 1, 0]) (by kernel_rfl) (cLoop (a := subX fx138 [1, 1, 1, 1, 0, 1, 0, 0]) (g := fun F => (F 0, F 1, F 2, F 3, F 44, F 45)) (body := l138_3 C lf r n) (by kernel_rfl) (fun k => (q138_43_eq C lf (fun x0 x1 x2 x3 x44 x45 h => k (x0, x1, x2, x3, x44, x45) h) r n KE)))) (q138_49_eq C lf (fun x0 x1 x2 x3 x44 x45 h => lp (l138_3 C lf r n) lf (x0, x1, x2, x3, x44, x45) h) (fun F h => r (F 8) (F 9) h) KE)
noncomputable def q138_51 (C : YC) (lf : Nat) (r : K2) (x0 x1 x2 x3 : O) (h : HW) : Rs :=
 q138_50 C lf (fun h => q138_2 C lf r h) r x0 x1 x2 x3 h
theorem q138_51_eq (C : YC) (lf : Nat) (r : K2) (KN : KF) (KE : KX) : ∀ F h, evX fx138 C lf [1, 1, 1, 1] F h KN (fun F h => r (F 8) (F 9) h) KE = q138_51 C lf r (F 0) (F 1) (F 2) (F 3) h := cSeq (a := subX fx138 [1, 1, 1, 1, 0]) (b := subX fx138 [1, 1, 1, 1, 1]) (by kernel_rfl) (B := (fun F h => q138_2 C lf r h)) (q138_2_eq C lf r KN KE) (q138_50_eq C lf (fun h => q138_2 C lf r h) r KE)
noncomputable def q138_84 (C : YC) (lf : Nat) (n : K4) (r : K2) (x0 x1 x2 x3 x10 : O) (h : HW) : Rs :=
 ob x1 fun a52 =>
 ob (bin Tryz.prog .andNot 30 a52 (.int .i64 65535)) fun y53 =>
 ob (bin Tryz.prog .neq 30 y53 (.int .i64 0)) fun y54 =>
 bc (gd false (some y54) (ob x10 fun a55 =>
 some (.ret a55, h)) h) fun y56 h56 =>
 bc (gd false (some y54) (ob (bin Tryz.prog .neq 30 y56 (.int .i64 32768)) fun y57 =>
 some (.ret y57, h56)) h56) fun y58 h58 =>
 bc (gd false (some y54) (some (.ret y58, h58)) h58) fun y59 h59 =>
 bc (gd true (some y59) (ob x10 fun a60 =>
 some (.ret a60, h59)) h59) fun y61 h61 =>
 bc (gd true (some y59) (ob (bin Tryz.prog .neq 30 y61 (.int .i64 16384)) fun y62 =>
 some (.ret y62, h61)) h61) fun y63 h63 =>
 bc (gd false (some y54) (ob (ypk y59 y63 (.bool false)) fun y64 =>
 some (.ret y64, h63)) h63) fun y65 h65 =>
 bc (gd false (some y54) (some (.ret y65, h65)) h65) fun y66 h66 =>
 bc (gd true (some y66) (ob x10 fun a67 =>
 some (.ret a67, h66)) h66) fun y68 h68 =>
 bc (gd true (some y66) (ob (bin Tryz.prog .neq 30 y68 (.int .i64 40960)) fun y69 =>
 some (.ret y69, h68)) h68) fun y70 h70 =>
 bc (gd false (some y54) (ob (ypk y66 y70 (.bool false)) fun y71 =>
 some (.ret y71, h70)) h70) fun y72 h72 =>
 ob (ypk y54 (.bool true) y72) fun y73 =>
 bc (gd false (some y73) (ob x2 fun a74 =>
 some (.ret a74, h72)) h72) fun y75 h75 =>
 bc (gd false (some y73) (ob (bin Tryz.prog .lss 3 y75 (.int .i64 0)) fun y76 =>
 some (.ret y76, h75)) h75) fun y77 h77 =>
 ob (ypk y73 (.bool true) y77) fun y78 =>
 bc (gd false (some y78) (ob x3 fun a79 =>
 some (.ret a79, h77)) h77) fun y80 h80 =>
 bc (gd false (some y78) (ob (bin Tryz.prog .lss 3 y80 (.int .i64 0)) fun y81 =>
 some (.ret y81, h80)) h80) fun y82 h82 =>
 ob (ypk y78 (.bool true) y82) fun y83 =>
 yIf y83
 (r (some (.int .i64 0)) (some (.int .i64 22)) h82)
 (n x0 x1 x2 x3 h82)
theorem q138_84_eq (C : YC) (lf : Nat) (n : K4) (r : K2) (KE : KX) : ∀ F h, evX fx138 C lf [1, 1, 1, 0] F h (fun F h => n (F 0) (F 1) (F 2) (F 3) h) (fun F h => r (F 8) (F 9) h) KE = q138_84 C lf n r (F 0) (F 1) (F 2) (F 3) (F 10) h := by
  intro F h; kernel_rfl
noncomputable def q138_85 (C : YC) (lf : Nat) (r : K2) (x0 x1 x2 x3 x10 : O) (h : HW) : Rs :=
 q138_84 C lf (fun x0 x1 x2 x3 h => q138_51 C lf r x0 x1 x2 x3 h) r x0 x1 x2 x3 x10 h
theorem q138_85_eq (C : YC) (lf : Nat) (r : K2) (KN : KF) (KE : KX) : ∀ F h, evX fx138 C lf [1, 1, 1] F h KN (fun F h => r (F 8) (F 9) h) KE = q138_85 C lf r (F 0) (F 1) (F 2) (F 3) (F 10) h := cSeq (a := subX fx138 [1, 1, 1, 0]) (b := subX fx138 [1, 1, 1, 1]) (by kernel_rfl) (B := (fun F h => q138_51 C lf r (F 0) (F 1) (F 2) (F 3) h)) (q138_51_eq C lf r KN KE) (q138_84_eq C lf (fun x0 x1 x2 x3 h => q138_51 C lf r x0 x1 x2 x3 h) r KE)
noncomputable def q138_88 (C : YC) (lf : Nat) (n : K5) (x0 x1 x2 x3 : O) (h : HW) : Rs :=
 ob x1 fun a86 =>
 ob (bin Tryz.prog .and 30 a86 (.int .i64 61440)) fun y87 =>
 n x0 x1 x2 x3 (some y87) h
theorem q138_88_eq (C : YC) (lf : Nat) (n : K5) (KR : KF) (KE : KX) : ∀ F h, evX fx138 C lf [1, 1, 0] F h (fun F h => n (F 0) (F 1) (F 2) (F 3) (F 10) h) KR KE = q138_88 C lf n (F 0) (F 1) (F 2) (F 3) h := by
  intro F h; kernel_rfl
noncomputable def q138_89 (C : YC) (lf : Nat) (r : K2) (x0 x1 x2 x3 : O) (h : HW) : Rs :=
 q138_88 C lf (fun x0 x1 x2 x3 x10 h => q138_85 C lf r x0 x1 x2 x3 x10 h) x0 x1 x2 x3 h
theorem q138_89_eq (C : YC) (lf : Nat) (r : K2) (KN : KF) (KE : KX) : ∀ F h, evX fx138 C lf [1, 1] F h KN (fun F h => r (F 8) (F 9) h) KE = q138_89 C lf r (F 0) (F 1) (F 2) (F 3) h := cSeq (a := subX fx138 [1, 1, 0]) (b := subX fx138 [1, 1, 1]) (by kernel_rfl) (B := (fun F h => q138_85 C lf r (F 0) (F 1) (F 2) (F 3) (F 10) h)) (q138_85_eq C lf r KN KE) (q138_88_eq C lf (fun x0 x1 x2 x3 x10 h => q138_85 C lf r x0 x1 x2 x3 x10 h) (fun F h => r (F 8) (F 9) h) KE)
noncomputable def q138_93 (C : YC) (lf : Nat) (n : K4) (r : K2) (x0 x1 x2 x3 : O) (h : HW) : Rs :=
 ob x0 fun a90 =>
 bc (C (.fn 202) [a90] h) fun y91 h91 =>
 ob (unE .not y91) fun y92 =>
 yIf y92
 (r (some (.int .i64 0)) (some (.int .i64 14)) h91)
 (n x0 x1 x2 x3 h91)
theorem q138_93_eq (C : YC) (lf : Nat) (n : K4) (r : K2) (KE : KX) : ∀ F h, evX fx138 C lf [1, 0] F h (fun F h => n (F 0) (F 1) (F 2) (F 3) h) (fun F h => r (F 8) (F 9) h) KE = q138_93 C lf n r (F 0) (F 1) (F 2) (F 3) h := by
  intro F h; kernel_rfl
noncomputable def q138_94 (C : YC) (lf : Nat) (r : K2) (x0 x1 x2 x3 : O) (h : HW) : Rs :=
 q138_93 C lf (fun x0 x1 x2 x3 h => q138_89 C lf r x0 x1 x2 x3 h) r x0 x1 x2 x3 h
theorem q138_94_eq (C : YC) (lf : Nat) (r : K2) (KN : KF) (KE : KX) : ∀ F h, evX fx138 C lf [1] F h KN (fun F h => r (F 8) (F 9) h) KE = q138_94 C lf r (F 0) (F 1) (F 2) (F 3) h := cSeq (a := subX fx138 [1, 0]) (b := subX fx138 [1, 1]) (by kernel_rfl) (B := (fun F h => q138_89 C lf r (F 0) (F 1) (F 2) (F 3) h)) (q138_89_eq C lf r KN KE) (q138_93_eq C lf (fun x0 x1 x2 x3 h => q138_89 C lf r x0 x1 x2 x3 h) r KE)
noncomputable def q138_95 (C : YC) (lf : Nat) (n : K4) (x0 x1 x2 x3 : O) (h : HW) : Rs :=
 n x0 x1 x2 x3 h
theorem q138_95_eq (C : YC) (lf : Nat) (n : K4) (KR : KF) (KE : KX) : ∀ F h, evX fx138 C lf [0] F h (fun F h => n (F 0) (F 1) (F 2) (F 3) h) KR KE = q138_95 C lf n (F 0) (F 1) (F 2) (F 3) h := by
  intro F h; kernel_rfl
noncomputable def q138_96 (C : YC) (lf : Nat) (r : K2) (x0 x1 x2 x3 : O) (h : HW) : Rs :=
 q138_95 C lf (fun x0 x1 x2 x3 h => q138_94 C lf r x0 x1 x2 x3 h) x0 x1 x2 x3 h
theorem q138_96_eq (C : YC) (lf : Nat) (r : K2) (KN : KF) (KE : KX) : ∀ F h, evX fx138 C lf [] F h KN (fun F h => r (F 8) (F 9) h) KE = q138_96 C lf r (F 0) (F 1) (F 2) (F 3) h := cSeq (a := subX fx138 [0]) (b := subX fx138 [1]) (by kernel_rfl) (B := (fun F h => q138_94 C lf r (F 0) (F 1) (F 2) (F 3) h)) (q138_94_eq C lf r KN KE) (q138_95_eq C lf (fun x0 x1 x2 x3 h => q138_94 C lf r x0 x1 x2 x3 h) (fun F h => r (F 8) (F 9) h) KE)
noncomputable def fs138 (C : YC) (lf : Nat) (a0 a1 a2 a3 : SV) (h : HW) : Rs := q138_96 C lf ff138 (some a0) (some a1) (some a2) (some a3) h
theorem fs138_eq (C : YC) (lf : Nat) (a0 a1 a2 a3 : SV) (h : HW) : yFn Tryz.prog fx138 C lf [a0, a1, a2, a3] h = fs138 C lf a0 a1 a2 a3 h := fnX (K := (fun F h => ff138 (F 8) (F 9) h)) (by kernel_rfl) (((q138_96_eq C lf ff138 (fun F h => ff138 (F 8) (F 9) h) (fun _ _ _ => none)) _ h).trans (by kernel_rfl))
noncomputable def fy138 : YX Tryz.prog := Y4 fx138 fs138 fs138_eq (by kernel_rfl)

noncomputable def fx139 : XF Tryz.prog := ⟨139, Tryz.f139, fun _ => .text, Tryz.func139, by kernel_rfl, by kernel_rfl, by kernel_rfl, by kernel_rfl⟩
noncomputable def ff139 (x6 : O) (h : HW) : Rs :=
 ob x6 fun a0 =>
 some (.ret a0, h)
noncomputable def q139_35 (C : YC) (lf : Nat) (r : K1) (x0 x1 x2 : O) (h : HW) : Rs :=
 ob x0 fun a1 =>
 ob x1 fun a2 =>
 bc (C (.fn 203) [a1, a2] h) fun y3 h3 =>
 ob (bin Tryz.prog .neq 23 y3 (.int .i64 0)) fun y4 =>
 yIf y4
 (r (some y3) h3)
 (ob x0 fun a5 =>
 ob x1 fun a6 =>
 bc (C (.fn 184) [a5, a6] h3) fun y7 h7 =>
 ob (ext 0 y7) fun y8 =>
 ob (ext 1 y7) fun y9 =>
 b2 (yAl Tryz.prog 58 h7) fun y10 h10 =>
 ob (st 10 y10 y8 h10) fun h11 =>
 ob x0 fun a12 =>
 ob x2 fun a13 =>
 bc (C (.fn 204) [a12, a13] h11) fun y14 h14 =>
 ob (unE .not y14) fun y15 =>
 yIf y15
 (r (some (.int .i64 22)) h14)
 (ob (fa 4 y10) fun y16 =>
 ob (ld1 y16 h14) fun y17 =>
 ob (bin Tryz.prog .neq 3 y17 (.int .i64 0)) fun y18 =>
 yIf y18
 (r (some (.int .i64 17)) h14)
 (ob x1 fun a19 =>
 bc (C (.fn 205) [(.str (bs [46])), a19] h14) fun y20 h20 =>
 ob x2 fun a21 =>
 bc (C (.fn 205) [(.str (bs [46, 46])), a21] h20) fun y22 h22 =>
 b2 (yAl Tryz.prog 292 h22) fun y23 h23 =>
 b2 (yAl Tryz.prog 292 h23) fun y24 h24 =>
 ob (st 32 y23 y20 h24) fun h25 =>
 ob (st 32 y24 y22 h25) fun h26 =>
 ob x0 fun a27 =>
 ob x1 fun a28 =>
 ob (semSlice Tryz.prog 292 y23 none none) fun y29 =>
 ob (semSlice Tryz.prog 292 y24 none none) fun y30 =>
 b2 (ybl Tryz.prog .append #[31, 31] [y29, y30] h26) fun y31 h31 =>
 bcn (C (.fn 154) [a27, a28, (.int .i64 0), y31] h31) fun y32 h32 =>
 ob (ext 0 y32) fun y33 =>
 ob (ext 1 y32) fun y34 =>
 r (some y34) h32)))
theorem q139_35_eq (C : YC) (lf : Nat) (r : K1) (KN : KF) (KE : KX) : ∀ F h, evX fx139 C lf [] F h KN (fun F h => r (F 6) h) KE = q139_35 C lf r (F 0) (F 1) (F 2) h := by
  intro F h; kernel_rfl
noncomputable def fs139 (C : YC) (lf : Nat) (a0 a1 a2 : SV) (h : HW) : Rs := q139_35 C lf ff139 (some a0) (some a1) (some a2) h
theorem fs139_eq (C : YC) (lf : Nat) (a0 a1 a2 : SV) (h : HW) : yFn Tryz.prog fx139 C lf [a0, a1, a2] h = fs139 C lf a0 a1 a2 h := fnX (K := (fun F h => ff139 (F 6) h)) (by kernel_rfl) (((q139_35_eq C lf ff139 (fun F h => ff139 (F 6) h) (fun _ _ _ => none)) _ h).trans (by kernel_rfl))
noncomputable def fy139 : YX Tryz.prog := Y3 fx139 fs139 fs139_eq (by kernel_rfl)

noncomputable def fx140 : XF Tryz.prog := ⟨140, Tryz.f140, fun _ => .text, Tryz.func140, by kernel_rfl, by kernel_rfl, by kernel_rfl, by kernel_rfl⟩
noncomputable def ff140 (x6 : O) (h : HW) : Rs :=
 ob x6 fun a0 =>
 some (.ret a0, h)
noncomputable def q140_41 (C : YC) (lf : Nat) (r : K1) (x0 x1 x2 : O) (h : HW) : Rs :=
 ob x0 fun a1 =>
 ob x1 fun a2 =>
 bc (C (.fn 206) [a1, a2] h) fun y3 h3 =>
 ob (ext 0 y3) fun y4 =>
 ob (ext 1 y3) fun y5 =>
 ob (bin Tryz.prog .neq 23 y5 (.int .i64 0)) fun y6 =>
 yIf y6
 (r (some y5) h3)
 (ob x2 fun a7 =>
 ob (semNil y4) fun y8 =>
 ob (fa 1 y8) fun y9 =>
 ob (fa 1 y9) fun y10 =>
 ob (ld1 y10 h3) fun y11 =>
 ob (unE .neg y11) fun y12 =>
 ob (bin Tryz.prog .lss 3 a7 y12) fun y13 =>
 yIf y13
 (r (some (.int .i64 22)) h3)
 (ob x2 fun a14 =>
 ob (semNil y4) fun y15 =>
 ob (fa 1 y15) fun y16 =>
 ob (fa 1 y16) fun y17 =>
 ob (ld1 y17 h3) fun y18 =>
 ob (bin Tryz.prog .sub 3 (.int .i64 16) y18) fun y19 =>
 ob (bin Tryz.prog .gtr 3 a14 y19) fun y20 =>
 yIf y20
 (r (some (.int .i64 31)) h3)
 (ob (semNil y4) fun y21 =>
 ob (fa 1 y21) fun y22 =>
 ob (fa 1 y22) fun y23 =>
 ob (ld1 y23 h3) fun y24 =>
 ob x2 fun a25 =>
 ob (bin Tryz.prog .add 3 y24 a25) fun y26 =>
 ob (semNil y4) fun y27 =>
 ob (fa 1 y27) fun y28 =>
 ob (fa 1 y28) fun y29 =>
 ob (st 1 y29 y26 h3) fun h30 =>
 ob x0 fun a31 =>
 ob (semNil a31) fun y32 =>
 ob (fa 2 y32) fun y33 =>
 ob (ld1 y33 h30) fun y34 =>
 ob (semNil y4) fun y35 =>
 ob (fa 1 y35) fun y36 =>
 ob (fa 9 y36) fun y37 =>
 ob (st 1 y37 y34 h30) fun h38 =>
 ob x0 fun a39 =>
 bc (C (.fn 207) [a39, y4] h38) fun y40 h40 =>
 r (some (.int .i64 0)) h40)))
theorem q140_41_eq (C : YC) (lf : Nat) (r : K1) (KN : KF) (KE : KX) : ∀ F h, evX fx140 C lf [] F h KN (fun F h => r (F 6) h) KE = q140_41 C lf r (F 0) (F 1) (F 2) h := by
  intro F h; kernel_rfl
noncomputable def fs140 (C : YC) (lf : Nat) (a0 a1 a2 : SV) (h : HW) : Rs := q140_41 C lf ff140 (some a0) (some a1) (some a2) h
theorem fs140_eq (C : YC) (lf : Nat) (a0 a1 a2 : SV) (h : HW) : yFn Tryz.prog fx140 C lf [a0, a1, a2] h = fs140 C lf a0 a1 a2 h := fnX (K := (fun F h => ff140 (F 6) h)) (by kernel_rfl) (((q140_41_eq C lf ff140 (fun F h => ff140 (F 6) h) (fun _ _ _ => none)) _ h).trans (by kernel_rfl))
noncomputable def fy140 : YX Tryz.prog := Y3 fx140 fs140 fs140_eq (by kernel_rfl)

noncomputable def fx141 : XF Tryz.prog := ⟨141, Tryz.f141, fun _ => .text, Tryz.func141, by kernel_rfl, by kernel_rfl, by kernel_rfl, by kernel_rfl⟩

noncomputable def fx142 : XF Tryz.prog := ⟨142, Tryz.f142, fun _ => .text, Tryz.func142, by kernel_rfl, by kernel_rfl, by kernel_rfl, by kernel_rfl⟩
noncomputable def ff142 (h : HW) : Rs :=
 some (.ret (.tup []), h)
noncomputable def q142_4 (C : YC) (lf : Nat) (n : K0) (x0 : O) (h : HW) : Rs :=
 ob x0 fun a0 =>
 bc (C (.fn 181) [a0] h) fun y1 h1 =>
 ob (unE .not y1) fun y2 =>
 bc (C (.fn 146) [y2, (.int .i64 14)] h1) fun y3 h3 =>
 n h3
theorem q142_4_eq (C : YC) (lf : Nat) (n : K0) (KR : KF) (KE : KX) : ∀ F h, evX fx142 C lf [] F h (fun F h => n h) KR KE = q142_4 C lf n (F 0) h := by
  intro F h; kernel_rfl
noncomputable def fs142 (C : YC) (lf : Nat) (a0 : SV) (h : HW) : Rs := q142_4 C lf ff142 (some a0) h
theorem fs142_eq (C : YC) (lf : Nat) (a0 : SV) (h : HW) : yFn Tryz.prog fx142 C lf [a0] h = fs142 C lf a0 h := fnX (K := (fun F h => ff142 h)) (by kernel_rfl) (((q142_4_eq C lf ff142 (fun F h => ff142 h) (fun _ _ _ => none)) _ h).trans (by kernel_rfl))
noncomputable def fy142 : YX Tryz.prog := Y1 fx142 fs142 fs142_eq (by kernel_rfl)

noncomputable def fx143 : XF Tryz.prog := ⟨143, Tryz.f143, fun r => bif Nat.beq r 4 then .ord [0, 1, 2, 4, 5, 6, 3, 7, 8, 9, 10] [(9, [7, 3])] else .text, Tryz.func143, by kernel_rfl, by kernel_rfl, by kernel_rfl, by kernel_rfl⟩

noncomputable def fx144 : XF Tryz.prog := ⟨144, Tryz.f144, fun _ => .text, Tryz.func144, by kernel_rfl, by kernel_rfl, by kernel_rfl, by kernel_rfl⟩
noncomputable def ff144 (h : HW) : Rs :=
 some (.ret (.tup []), h)
noncomputable def q144_12 (C : YC) (lf : Nat) (n : K0) (x1 : O) (h : HW) : Rs :=
 ob x1 fun a0 =>
 b2 (ybx 224 a0 h) fun y1 h1 =>
 ob (ldN 5 y1 h1) fun y2 =>
 bc (C (.fn 155) [y2] h1) fun y3 h3 =>
 bc (gd false (some y3) (ob (fa 4 y1) fun y4 =>
 some (.ret y4, h3)) h3) fun y5 h5 =>
 bc (gd false (some y3) (ob (ld1 y5 h5) fun y6 =>
 some (.ret y6, h5)) h5) fun y7 h7 =>
 bc (gd false (some y3) (ob (bin Tryz.prog .neq 3 y7 (.int .i64 0)) fun y8 =>
 some (.ret y8, h7)) h7) fun y9 h9 =>
 ob (ypk y3 (.bool true) y9) fun y10 =>
 bc (C (.fn 146) [y10, (.int .i64 17)] h9) fun y11 h11 =>
 n h11
theorem q144_12_eq (C : YC) (lf : Nat) (n : K0) (KR : KF) (KE : KX) : ∀ F h, evX fx144 C lf [] F h (fun F h => n h) KR KE = q144_12 C lf n (F 1) h := by
  intro F h; kernel_rfl
noncomputable def fs144 (C : YC) (lf : Nat) (a0 a1 : SV) (h : HW) : Rs := q144_12 C lf ff144 (some a1) h
theorem fs144_eq (C : YC) (lf : Nat) (a0 a1 : SV) (h : HW) : yFn Tryz.prog fx144 C lf [a0, a1] h = fs144 C lf a0 a1 h := fnX (K := (fun F h => ff144 h)) (by kernel_rfl) (((q144_12_eq C lf ff144 (fun F h => ff144 h) (fun _ _ _ => none)) _ h).trans (by kernel_rfl))
noncomputable def fy144 : YX Tryz.prog := Y2 fx144 fs144 fs144_eq (by kernel_rfl)

noncomputable def fx145 : XF Tryz.prog := ⟨145, Tryz.f145, fun _ => .text, Tryz.func145, by kernel_rfl, by kernel_rfl, by kernel_rfl, by kernel_rfl⟩
noncomputable def ff145 (h : HW) : Rs :=
 some (.ret (.tup []), h)
noncomputable def q145_31 (C : YC) (lf : Nat) (n : K0) (x0 x1 x2 x3 : O) (h : HW) : Rs :=
 ob x1 fun a0 =>
 b2 (ybx 46 a0 h) fun y1 h1 =>
 ob x2 fun a2 =>
 b2 (ybx 224 a2 h1) fun y3 h3 =>
 ob x3 fun a4 =>
 bc (gd true (some a4) (ob (fa 2 y3) fun y5 =>
 some (.ret y5, h3)) h3) fun y6 h6 =>
 bc (gd true (some a4) (ob (ld1 y6 h6) fun y7 =>
 some (.ret y7, h6)) h6) fun y8 h8 =>
 ob (ypk a4 y8 (.bool false)) fun y9 =>
 bc (gd false (some y9) (ob x0 fun a10 =>
 some (.ret a10, h8)) h8) fun y11 h11 =>
 bc (gd false (some y9) (ob (fa 0 y3) fun y12 =>
 some (.ret y12, h11)) h11) fun y13 h13 =>
 bc (gd false (some y9) (ob (ld1 y13 h13) fun y14 =>
 some (.ret y14, h13)) h13) fun y15 h15 =>
 bc (gd false (some y9) (bc (C (.fn 147) [y11, y15] h15) fun y16 h16 =>
 some (.ret y16, h16)) h15) fun y17 h17 =>
 bc (gd false (some y9) (ob (fd1 1 y17) fun y18 =>
 some (.ret y18, h17)) h17) fun y19 h19 =>
 bc (gd false (some y9) (ob (bin Tryz.prog .eql 3 y19 (.int .i64 0)) fun y20 =>
 some (.ret y20, h19)) h19) fun y21 h21 =>
 ob (ypk y9 (.bool true) y21) fun y22 =>
 bc (C (.fn 146) [y22, (.int .i64 2)] h21) fun y23 h23 =>
 ob x0 fun a24 =>
 ob (ldN 5 y1 h23) fun y25 =>
 ob (fa 0 y3) fun y26 =>
 ob (ld1 y26 h23) fun y27 =>
 bc (C (.fn 157) [a24, y25, y27, (.int .i64 2)] h23) fun y28 h28 =>
 ob (unE .not y28) fun y29 =>
 bc (C (.fn 146) [y29, (.int .i64 13)] h28) fun y30 h30 =>
 n h30
theorem q145_31_eq (C : YC) (lf : Nat) (n : K0) (KR : KF) (KE : KX) : ∀ F h, evX fx145 C lf [] F h (fun F h => n h) KR KE = q145_31 C lf n (F 0) (F 1) (F 2) (F 3) h := by
  intro F h; kernel_rfl
noncomputable def fs145 (C : YC) (lf : Nat) (a0 a1 a2 a3 : SV) (h : HW) : Rs := q145_31 C lf ff145 (some a0) (some a1) (some a2) (some a3) h
theorem fs145_eq (C : YC) (lf : Nat) (a0 a1 a2 a3 : SV) (h : HW) : yFn Tryz.prog fx145 C lf [a0, a1, a2, a3] h = fs145 C lf a0 a1 a2 a3 h := fnX (K := (fun F h => ff145 h)) (by kernel_rfl) (((q145_31_eq C lf ff145 (fun F h => ff145 h) (fun _ _ _ => none)) _ h).trans (by kernel_rfl))
noncomputable def fy145 : YX Tryz.prog := Y4 fx145 fs145 fs145_eq (by kernel_rfl)

noncomputable def fx146 : XF Tryz.prog := ⟨146, Tryz.f146, fun _ => .text, Tryz.func146, by kernel_rfl, by kernel_rfl, by kernel_rfl, by kernel_rfl⟩
noncomputable def ff146 (h : HW) : Rs :=
 some (.ret (.tup []), h)
noncomputable def q146_3 (C : YC) (lf : Nat) (n : K0) (x0 x1 : O) (h : HW) : Rs :=
 ob x0 fun a0 =>
 yIf a0
 (ob x1 fun a1 =>
 ob (semBuild Tryz.prog 299 [0] [a1]) fun y2 =>
 yPan false [(.ifc 299 y2)] h)
 (n h)
theorem q146_3_eq (C : YC) (lf : Nat) (n : K0) (KR : KF) (KE : KX) : ∀ F h, evX fx146 C lf [] F h (fun F h => n h) KR KE = q146_3 C lf n (F 0) (F 1) h := by
  intro F h; kernel_rfl
noncomputable def fs146 (C : YC) (lf : Nat) (a0 a1 : SV) (h : HW) : Rs := q146_3 C lf ff146 (some a0) (some a1) h
theorem fs146_eq (C : YC) (lf : Nat) (a0 a1 : SV) (h : HW) : yFn Tryz.prog fx146 C lf [a0, a1] h = fs146 C lf a0 a1 h := fnX (K := (fun F h => ff146 h)) (by kernel_rfl) (((q146_3_eq C lf ff146 (fun F h => ff146 h) (fun _ _ _ => none)) _ h).trans (by kernel_rfl))
noncomputable def fy146 : YX Tryz.prog := Y2 fx146 fs146 fs146_eq (by kernel_rfl)

noncomputable def fx147 : XF Tryz.prog := ⟨147, Tryz.f147, fun _ => .text, Tryz.func147, by kernel_rfl, by kernel_rfl, by kernel_rfl, by kernel_rfl⟩
noncomputable def ff147 (x4 : O) (h : HW) : Rs :=
 ob x4 fun a0 =>
 ob (ldN 10 a0 h) fun y1 =>
 some (.ret y1, h)
noncomputable def q147_15 (C : YC) (lf : Nat) (r : K1) (x0 x1 : O) (h : HW) : Rs :=
 b2 (yAl Tryz.prog 58 h) fun y2 h2 =>
 ob x0 fun a3 =>
 ob (semNil a3) fun y4 =>
 ob (fa 0 y4) fun y5 =>
 ob (ld1 y5 h2) fun y6 =>
 ob x1 fun a7 =>
 bc (C (.fn 184) [y6, a7] h2) fun y8 h8 =>
 ob (ext 0 y8) fun y9 =>
 ob (ext 1 y8) fun y10 =>
 b2 (yAl Tryz.prog 58 h8) fun y11 h11 =>
 ob (st 10 y11 y9 h11) fun h12 =>
 ob (ldN 10 y11 h12) fun y13 =>
 ob (st 10 y2 y13 h12) fun h14 =>
 r (some y2) h14
theorem q147_15_eq (C : YC) (lf : Nat) (r : K1) (KN : KF) (KE : KX) : ∀ F h, evX fx147 C lf [] F h KN (fun F h => r (F 4) h) KE = q147_15 C lf r (F 0) (F 1) h := by
  intro F h; kernel_rfl
noncomputable def fs147 (C : YC) (lf : Nat) (a0 a1 : SV) (h : HW) : Rs := q147_15 C lf ff147 (some a0) (some a1) h
theorem fs147_eq (C : YC) (lf : Nat) (a0 a1 : SV) (h : HW) : yFn Tryz.prog fx147 C lf [a0, a1] h = fs147 C lf a0 a1 h := fnX (K := (fun F h => ff147 (F 4) h)) (by kernel_rfl) (((q147_15_eq C lf ff147 (fun F h => ff147 (F 4) h) (fun _ _ _ => none)) _ h).trans (by kernel_rfl))
noncomputable def fy147 : YX Tryz.prog := Y2 fx147 fs147 fs147_eq (by kernel_rfl)

noncomputable def fx148 : XF Tryz.prog := ⟨148, Tryz.f148, fun _ => .text, Tryz.func148, by kernel_rfl, by kernel_rfl, by kernel_rfl, by kernel_rfl⟩

noncomputable def fx149 : XF Tryz.prog := ⟨149, Tryz.f149, fun _ => .text, Tryz.func149, by kernel_rfl, by kernel_rfl, by kernel_rfl, by kernel_rfl⟩
noncomputable def ff149 (x4 : O) (h : HW) : Rs :=
 ob x4 fun a0 =>
 some (.ret a0, h)
noncomputable def q149_8 (C : YC) (lf : Nat) (r : K1) (x0 x1 : O) (h : HW) : Rs :=
 ob x0 fun a1 =>
 b2 (ybx 46 a1 h) fun y2 h2 =>
 ob x1 fun a3 =>
 ob (bin Tryz.prog .and 30 a3 (.int .i64 4095)) fun y4 =>
 ob (fa 3 y2) fun y5 =>
 ob (ld1 y5 h2) fun y6 =>
 ob (bin Tryz.prog .andNot 30 y4 y6) fun y7 =>
 r (some y7) h2
theorem q149_8_eq (C : YC) (lf : Nat) (r : K1) (KN : KF) (KE : KX) : ∀ F h, evX fx149 C lf [] F h KN (fun F h => r (F 4) h) KE = q149_8 C lf r (F 0) (F 1) h := by
  intro F h; kernel_rfl
noncomputable def fs149 (C : YC) (lf : Nat) (a0 a1 : SV) (h : HW) : Rs := q149_8 C lf ff149 (some a0) (some a1) h
theorem fs149_eq (C : YC) (lf : Nat) (a0 a1 : SV) (h : HW) : yFn Tryz.prog fx149 C lf [a0, a1] h = fs149 C lf a0 a1 h := fnX (K := (fun F h => ff149 (F 4) h)) (by kernel_rfl) (((q149_8_eq C lf ff149 (fun F h => ff149 (F 4) h) (fun _ _ _ => none)) _ h).trans (by kernel_rfl))
noncomputable def fy149 : YX Tryz.prog := Y2 fx149 fs149 fs149_eq (by kernel_rfl)

noncomputable def fx150 : XF Tryz.prog := ⟨150, Tryz.f150, fun _ => .text, Tryz.func150, by kernel_rfl, by kernel_rfl, by kernel_rfl, by kernel_rfl⟩
noncomputable def ff150 (x4 : O) (h : HW) : Rs :=
 ob x4 fun a0 =>
 some (.ret a0, h)
noncomputable def q150_11 (C : YC) (lf : Nat) (r : K1) (x0 x1 x2 : O) (h : HW) : Rs :=
 ob x1 fun a1 =>
 ob (ld1 a1 h) fun y2 =>
 ob (semNil y2) fun y3 =>
 ob (fa 0 y3) fun y4 =>
 ob (ld1 y4 h) fun y5 =>
 ob x0 fun a6 =>
 ob x2 fun a7 =>
 ob (fa 0 a7) fun y8 =>
 ob (ld1 y8 h) fun y9 =>
 bcn (C (.fn 139) [y5, a6, y9] h) fun y10 h10 =>
 r (some y10) h10
theorem q150_11_eq (C : YC) (lf : Nat) (r : K1) (KN : KF) (KE : KX) : ∀ F h, evX fx150 C lf [] F h KN (fun F h => r (F 4) h) KE = q150_11 C lf r (F 0) (F 1) (F 2) h := by
  intro F h; kernel_rfl
noncomputable def fs150 (C : YC) (lf : Nat) (a0 a1 a2 : SV) (h : HW) : Rs := q150_11 C lf ff150 (some a0) (some a1) (some a2) h
theorem fs150_eq (C : YC) (lf : Nat) (a0 a1 a2 : SV) (h : HW) : yFn Tryz.prog fx150 C lf [a0, a1, a2] h = fs150 C lf a0 a1 a2 h := fnX (K := (fun F h => ff150 (F 4) h)) (by kernel_rfl) (((q150_11_eq C lf ff150 (fun F h => ff150 (F 4) h) (fun _ _ _ => none)) _ h).trans (by kernel_rfl))
noncomputable def fy150 : YX Tryz.prog := Y3 fx150 fs150 fs150_eq (by kernel_rfl)

noncomputable def fx151 : XF Tryz.prog := ⟨151, Tryz.f151, fun _ => .text, Tryz.func151, by kernel_rfl, by kernel_rfl, by kernel_rfl, by kernel_rfl⟩

noncomputable def fx152 : XF Tryz.prog := ⟨152, Tryz.f152, fun _ => .text, Tryz.func152, by kernel_rfl, by kernel_rfl, by kernel_rfl, by kernel_rfl⟩
noncomputable def ff152 (h : HW) : Rs :=
 some (.ret (.tup []), h)
noncomputable def q152_4 (C : YC) (lf : Nat) (n : K0) (x0 : O) (h : HW) : Rs :=
 ob x0 fun a0 =>
 ob (bin Tryz.prog .neq 23 a0 (.int .i64 0)) fun y1 =>
 ob x0 fun a2 =>
 bc (C (.fn 146) [y1, a2] h) fun y3 h3 =>
 n h3
theorem q152_4_eq (C : YC) (lf : Nat) (n : K0) (KR : KF) (KE : KX) : ∀ F h, evX fx152 C lf [] F h (fun F h => n h) KR KE = q152_4 C lf n (F 0) h := by
  intro F h; kernel_rfl
noncomputable def fs152 (C : YC) (lf : Nat) (a0 : SV) (h : HW) : Rs := q152_4 C lf ff152 (some a0) h
theorem fs152_eq (C : YC) (lf : Nat) (a0 : SV) (h : HW) : yFn Tryz.prog fx152 C lf [a0] h = fs152 C lf a0 h := fnX (K := (fun F h => ff152 h)) (by kernel_rfl) (((q152_4_eq C lf ff152 (fun F h => ff152 h) (fun _ _ _ => none)) _ h).trans (by kernel_rfl))
noncomputable def fy152 : YX Tryz.prog := Y1 fx152 fs152 fs152_eq (by kernel_rfl)

noncomputable def fx154 : XF Tryz.prog := ⟨154, Tryz.f154, fun r => bif Nat.beq r 16 then .ord [0, 1, 2, 4, 5, 10, 11, 12, 13, 14, 15, 16, 3, 6, 7, 8, 9, 17] [(6, [3])] else .text, Tryz.func154, by kernel_rfl, by kernel_rfl, by kernel_rfl, by kernel_rfl⟩
noncomputable def ff154 (x8 x9 : O) (h : HW) : Rs :=
 ob x8 fun a0 =>
 ob x9 fun a1 =>
 some (.ret (.tup [a0, a1]), h)
noncomputable def q154_22 (C : YC) (lf : Nat) (r : K2) (x0 x2 x10 x12 : O) (h : HW) : Rs :=
 ob x12 fun a2 =>
 ob (bin Tryz.prog .eql 3 a2 (.int .i64 0)) fun y3 =>
 yIf y3
 (r (some (.int .i64 0)) (some (.int .i64 28)) h)
 (ob x10 fun a4 =>
 ob x10 fun a5 =>
 ob (semNil a5) fun y6 =>
 ob (fa 1 y6) fun y7 =>
 ob (fa 4 y7) fun y8 =>
 ob (ld1 y8 h) fun y9 =>
 ob x2 fun a10 =>
 ob x12 fun a11 =>
 ob (bin Tryz.prog .add 3 a10 a11) fun y12 =>
 b2 (ybl Tryz.prog .max #[3, 3] [y9, y12] h) fun y13 h13 =>
 ob (semNil a4) fun y14 =>
 ob (fa 1 y14) fun y15 =>
 ob (fa 4 y15) fun y16 =>
 ob (st 1 y16 y13 h13) fun h17 =>
 ob x0 fun a18 =>
 ob x10 fun a19 =>
 bc (C (.fn 220) [a18, a19] h17) fun y20 h20 =>
 ob x12 fun a21 =>
 r (some a21) (some (.int .i64 0)) h20)
theorem q154_22_eq (C : YC) (lf : Nat) (r : K2) (KN : KF) (KE : KX) : ∀ F h, evX fx154 C lf [1, 1, 1, 1, 1, 1, 1] F h KN (fun F h => r (F 8) (F 9) h) KE = q154_22 C lf r (F 0) (F 2) (F 10) (F 12) h := by
  intro F h; kernel_rfl
noncomputable def q154_63 (C : YC) (lf : Nat) (n : K5) (e1 : K4) (x0 x2 x3 x10 x12 : O) (h : HW) : Rs :=
 ob x12 fun a24 =>
 ob x3 fun a25 =>
 ob (lenE Tryz.prog 31 a25) fun y26 =>
 ob (bin Tryz.prog .lss 3 a24 y26) fun y27 =>
 yIf y27
 (ob x2 fun a28 =>
 ob x12 fun a29 =>
 ob (bin Tryz.prog .add 3 a28 a29) fun y30 =>
 ob (bin Tryz.prog .quo 3 y30 (.int .i64 64)) fun y31 =>
 ob x2 fun a32 =>
 ob x12 fun a33 =>
 ob (bin Tryz.prog .add 3 a32 a33) fun y34 =>
 ob (bin Tryz.prog .rem 3 y34 (.int .i64 64)) fun y35 =>
 ob x0 fun a36 =>
 ob x10 fun a37 =>
 bc (C (.fn 217) [a36, a37, y31] h) fun y38 h38 =>
 ob (unE .not y38) fun y39 =>
 yIf y39
 (e1 x0 x2 x10 x12 h38)
 (ob (bin Tryz.prog .sub 3 (.int .i64 64) y35) fun y40 =>
 ob x3 fun a41 =>
 ob (lenE Tryz.prog 31 a41) fun y42 =>
 ob x12 fun a43 =>
 ob (bin Tryz.prog .sub 3 y42 a43) fun y44 =>
 b2 (ybl Tryz.prog .min #[3, 3] [y40, y44] h38) fun y45 h45 =>
 ob x0 fun a46 =>
 ob (semNil a46) fun y47 =>
 ob (fa 0 y47) fun y48 =>
 ob x10 fun a49 =>
 ob x3 fun a50 =>
 ob x12 fun a51 =>
 ob x12 fun a52 =>
 ob (bin Tryz.prog .add 3 a52 y45) fun y53 =>
 ob (semSlice Tryz.prog 31 a50 (some a51) (some y53)) fun y54 =>
 ob (ld1 y48 h45) fun y55 =>
 bcn (C (.fn 219) [a49, y31] h45) fun y56 h56 =>
 ck (chkH [(3, adrO (some y48))] h45 h56 [3]) <|
 ob (semNil y56) fun y57 =>
 ob (ld1 y57 h56) fun y58 =>
 ob (bin Tryz.prog .sub 3 y58 (.int .i64 1)) fun y59 =>
 bcn (C (.fn 218) [y55, y59, y35, y54] h56) fun y60 h60 =>
 ob x12 fun a61 =>
 ob (bin Tryz.prog .add 3 a61 y45) fun y62 =>
 n x0 x2 x3 x10 (some y62) h60))
 (e1 x0 x2 x10 x12 h)
theorem q154_63_eq (C : YC) (lf : Nat) (n : K5) (e1 : K4) (KR : KF) (KE : KX) : ∀ F h, evX fx154 C lf [1, 1, 1, 1, 1, 1, 0, 0, 0] F h (fun F h => n (F 0) (F 2) (F 3) (F 10) (F 12) h) KR (bk 1 (fun F h => e1 (F 0) (F 2) (F 10) (F 12) h) KE) = q154_63 C lf n e1 (F 0) (F 2) (F 3) (F 10) (F 12) h := by
  intro F h; kernel_rfl
noncomputable def l154_23 (C : YC) (lf : Nat) (e1 : K4) (k : O × O × O × O × O → HW → Rs) (s : O × O × O × O × O) (h : HW) : Rs :=
 q154_63 C lf (fun x0 x2 x3 x10 x12 h => k (x0, x2, x3, x10, x12) h) e1 s.1 s.2.1 s.2.2.1 s.2.2.2.1 s.2.2.2.2 h
noncomputable def q154_64 (C : YC) (lf : Nat) (r : K2) (x0 x2 x3 x10 x12 : O) (h : HW) : Rs :=
 lp (l154_23 C lf (fun x0 x2 x10 x12 h => q154_22 C lf r x0 x2 x10 x12 h)) lf (x0, x2, x3, x10, x12) h
theorem q154_64_eq (C : YC) (lf : Nat) (r : K2) (KN : KF) (KE : KX) : ∀ F h, evX fx154 C lf [1, 1, 1, 1, 1, 1] F h KN (fun F h => r (F 8) (F 9) h) KE = q154_64 C lf r (F 0) (F 2) (F 3) (F 10) (F 12) h := cSeq (a := subX fx154 [1, 1, 1, 1, 1, 1, 0]) (b := subX fx154 [1, 1, 1, 1, 1, 1, 1]) (by kernel_rfl) (B := (fun F h => q154_22 C lf r (F 0) (F 2) (F 10) (F 12) h)) (q154_22_eq C lf r KN KE) (cBlock (id := 1) (a := subX fx154 [1, 1, 1, 1, 1, 1, 0, 0]) (by kernel_rfl) (cLoop (a := subX fx154 [1, 1, 1, 1, 1, 1, 0, 0, 0]) (g := fun F => (F 0, F 2, F 3, F 10, F 12)) (body := l154_23 C lf (fun x0 x2 x10 x12 h => q154_22 C lf r x0 x2 x10 x12 h)) (by kernel_rfl) (fun k => (q154_63_eq C lf (fun x0 x2 x3 x10 x12 h => k (x0, x2, x3, x10, x12) h) (fun x0 x2 x10 x12 h => q154_22 C lf r x0 x2 x10 x12 h) (fun F h => r (F 8) (F 9) h) KE))))
noncomputable def q154_65 (C : YC) (lf : Nat) (n : K5) (x0 x2 x3 x10 : O) (h : HW) : Rs :=
 n x0 x2 x3 x10 (some (.int .i64 0)) h
theorem q154_65_eq (C : YC) (lf : Nat) (n : K5) (KR : KF) (KE : KX) : ∀ F h, evX fx154 C lf [1, 1, 1, 1, 1, 0] F h (fun F h => n (F 0) (F 2) (F 3) (F 10) (F 12) h) KR KE = q154_65 C lf n (F 0) (F 2) (F 3) (F 10) h := by
  intro F h; kernel_rfl
noncomputable def q154_66 (C : YC) (lf : Nat) (r : K2) (x0 x2 x3 x10 : O) (h : HW) : Rs :=
 q154_65 C lf (fun x0 x2 x3 x10 x12 h => q154_64 C lf r x0 x2 x3 x10 x12 h) x0 x2 x3 x10 h
theorem q154_66_eq (C : YC) (lf : Nat) (r : K2) (KN : KF) (KE : KX) : ∀ F h, evX fx154 C lf [1, 1, 1, 1, 1] F h KN (fun F h => r (F 8) (F 9) h) KE = q154_66 C lf r (F 0) (F 2) (F 3) (F 10) h := cSeq (a := subX fx154 [1, 1, 1, 1, 1, 0]) (b := subX fx154 [1, 1, 1, 1, 1, 1]) (by kernel_rfl) (B := (fun F h => q154_64 C lf r (F 0) (F 2) (F 3) (F 10) (F 12) h)) (q154_64_eq C lf r KN KE) (q154_65_eq C lf (fun x0 x2 x3 x10 x12 h => q154_64 C lf r x0 x2 x3 x10 x12 h) (fun F h => r (F 8) (F 9) h) KE)
noncomputable def q154_74 (C : YC) (lf : Nat) (n : K4) (x0 x2 x3 x10 : O) (h : HW) : Rs :=
 ob x3 fun a67 =>
 ob x3 fun a68 =>
 ob (lenE Tryz.prog 31 a68) fun y69 =>
 ob x2 fun a70 =>
 ob (bin Tryz.prog .sub 3 (.int .i64 17792) a70) fun y71 =>
 b2 (ybl Tryz.prog .min #[3, 3] [y69, y71] h) fun y72 h72 =>
 ob (semSlice Tryz.prog 31 a67 none (some y72)) fun y73 =>
 n x0 x2 (some y73) x10 h72
theorem q154_74_eq (C : YC) (lf : Nat) (n : K4) (KR : KF) (KE : KX) : ∀ F h, evX fx154 C lf [1, 1, 1, 1, 0] F h (fun F h => n (F 0) (F 2) (F 3) (F 10) h) KR KE = q154_74 C lf n (F 0) (F 2) (F 3) (F 10) h := by
  intro F h; kernel_rfl
noncomputable def q154_75 (C : YC) (lf : Nat) (r : K2) (x0 x2 x3 x10 : O) (h : HW) : Rs :=
 q154_74 C lf (fun x0 x2 x3 x10 h => q154_66 C lf r x0 x2 x3 x10 h) x0 x2 x3 x10 h
theorem q154_75_eq (C : YC) (lf : Nat) (r : K2) (KN : KF) (KE : KX) : ∀ F h, evX fx154 C lf [1, 1, 1, 1] F h KN (fun F h => r (F 8) (F 9) h) KE = q154_75 C lf r (F 0) (F 2) (F 3) (F 10) h := cSeq (a := subX fx154 [1, 1, 1, 1, 0]) (b := subX fx154 [1, 1, 1, 1, 1]) (by kernel_rfl) (B := (fun F h => q154_66 C lf r (F 0) (F 2) (F 3) (F 10) h)) (q154_66_eq C lf r KN KE) (q154_74_eq C lf (fun x0 x2 x3 x10 h => q154_66 C lf r x0 x2 x3 x10 h) (fun F h => r (F 8) (F 9) h) KE)
noncomputable def q154_83 (C : YC) (lf : Nat) (n : K4) (r : K2) (x0 x2 x3 x10 : O) (h : HW) : Rs :=
 ob x2 fun a76 =>
 ob (bin Tryz.prog .lss 3 a76 (.int .i64 0)) fun y77 =>
 yIf y77
 (r (some (.int .i64 0)) (some (.int .i64 22)) h)
 (ob x3 fun a78 =>
 ob (lenE Tryz.prog 31 a78) fun y79 =>
 ob (bin Tryz.prog .eql 3 y79 (.int .i64 0)) fun y80 =>
 yIf y80
 (r (some (.int .i64 0)) (some (.int .i64 0)) h)
 (ob x2 fun a81 =>
 ob (bin Tryz.prog .geq 3 a81 (.int .i64 17792)) fun y82 =>
 yIf y82
 (r (some (.int .i64 0)) (some (.int .i64 27)) h)
 (n x0 x2 x3 x10 h)))
theorem q154_83_eq (C : YC) (lf : Nat) (n : K4) (r : K2) (KE : KX) : ∀ F h, evX fx154 C lf [1, 1, 1, 0] F h (fun F h => n (F 0) (F 2) (F 3) (F 10) h) (fun F h => r (F 8) (F 9) h) KE = q154_83 C lf n r (F 0) (F 2) (F 3) (F 10) h := by
  intro F h; kernel_rfl
noncomputable def q154_84 (C : YC) (lf : Nat) (r : K2) (x0 x2 x3 x10 : O) (h : HW) : Rs :=
 q154_83 C lf (fun x0 x2 x3 x10 h => q154_75 C lf r x0 x2 x3 x10 h) r x0 x2 x3 x10 h
theorem q154_84_eq (C : YC) (lf : Nat) (r : K2) (KN : KF) (KE : KX) : ∀ F h, evX fx154 C lf [1, 1, 1] F h KN (fun F h => r (F 8) (F 9) h) KE = q154_84 C lf r (F 0) (F 2) (F 3) (F 10) h := cSeq (a := subX fx154 [1, 1, 1, 0]) (b := subX fx154 [1, 1, 1, 1]) (by kernel_rfl) (B := (fun F h => q154_75 C lf r (F 0) (F 2) (F 3) (F 10) h)) (q154_75_eq C lf r KN KE) (q154_83_eq C lf (fun x0 x2 x3 x10 h => q154_75 C lf r x0 x2 x3 x10 h) r KE)
noncomputable def q154_88 (C : YC) (lf : Nat) (n : K4) (r : K2) (x0 x2 x3 x10 x11 : O) (h : HW) : Rs :=
 ob x11 fun a85 =>
 ob (bin Tryz.prog .neq 23 a85 (.int .i64 0)) fun y86 =>
 yIf y86
 (ob x11 fun a87 =>
 r (some (.int .i64 0)) (some a87) h)
 (n x0 x2 x3 x10 h)
theorem q154_88_eq (C : YC) (lf : Nat) (n : K4) (r : K2) (KE : KX) : ∀ F h, evX fx154 C lf [1, 1, 0] F h (fun F h => n (F 0) (F 2) (F 3) (F 10) h) (fun F h => r (F 8) (F 9) h) KE = q154_88 C lf n r (F 0) (F 2) (F 3) (F 10) (F 11) h := by
  intro F h; kernel_rfl
noncomputable def q154_89 (C : YC) (lf : Nat) (r : K2) (x0 x2 x3 x10 x11 : O) (h : HW) : Rs :=
 q154_88 C lf (fun x0 x2 x3 x10 h => q154_84 C lf r x0 x2 x3 x10 h) r x0 x2 x3 x10 x11 h
theorem q154_89_eq (C : YC) (lf : Nat) (r : K2) (KN : KF) (KE : KX) : ∀ F h, evX fx154 C lf [1, 1] F h KN (fun F h => r (F 8) (F 9) h) KE = q154_89 C lf r (F 0) (F 2) (F 3) (F 10) (F 11) h := cSeq (a := subX fx154 [1, 1, 0]) (b := subX fx154 [1, 1, 1]) (by kernel_rfl) (B := (fun F h => q154_84 C lf r (F 0) (F 2) (F 3) (F 10) h)) (q154_84_eq C lf r KN KE) (q154_88_eq C lf (fun x0 x2 x3 x10 h => q154_84 C lf r x0 x2 x3 x10 h) r KE)
noncomputable def q154_95 (C : YC) (lf : Nat) (n : K5) (x0 x1 x2 x3 : O) (h : HW) : Rs :=
 ob x0 fun a90 =>
 ob x1 fun a91 =>
 bc (C (.fn 206) [a90, a91] h) fun y92 h92 =>
 ob (ext 0 y92) fun y93 =>
 ob (ext 1 y92) fun y94 =>
 n x0 x2 x3 (some y93) (some y94) h92
theorem q154_95_eq (C : YC) (lf : Nat) (n : K5) (KR : KF) (KE : KX) : ∀ F h, evX fx154 C lf [1, 0] F h (fun F h => n (F 0) (F 2) (F 3) (F 10) (F 11) h) KR KE = q154_95 C lf n (F 0) (F 1) (F 2) (F 3) h := by
  intro F h; kernel_rfl
noncomputable def q154_96 (C : YC) (lf : Nat) (r : K2) (x0 x1 x2 x3 : O) (h : HW) : Rs :=
 q154_95 C lf (fun x0 x2 x3 x10 x11 h => q154_89 C lf r x0 x2 x3 x10 x11 h) x0 x1 x2 x3 h
theorem q154_96_eq (C : YC) (lf : Nat) (r : K2) (KN : KF) (KE : KX) : ∀ F h, evX fx154 C lf [1] F h KN (fun F h => r (F 8) (F 9) h) KE = q154_96 C lf r (F 0) (F 1) (F 2) (F 3) h := cSeq (a := subX fx154 [1, 0]) (b := subX fx154 [1, 1]) (by kernel_rfl) (B := (fun F h => q154_89 C lf r (F 0) (F 2) (F 3) (F 10) (F 11) h)) (q154_89_eq C lf r KN KE) (q154_95_eq C lf (fun x0 x2 x3 x10 x11 h => q154_89 C lf r x0 x2 x3 x10 x11 h) (fun F h => r (F 8) (F 9) h) KE)
noncomputable def q154_97 (C : YC) (lf : Nat) (n : K4) (x0 x1 x2 x3 : O) (h : HW) : Rs :=
 n x0 x1 x2 x3 h
theorem q154_97_eq (C : YC) (lf : Nat) (n : K4) (KR : KF) (KE : KX) : ∀ F h, evX fx154 C lf [0] F h (fun F h => n (F 0) (F 1) (F 2) (F 3) h) KR KE = q154_97 C lf n (F 0) (F 1) (F 2) (F 3) h := by
  intro F h; kernel_rfl
noncomputable def q154_98 (C : YC) (lf : Nat) (r : K2) (x0 x1 x2 x3 : O) (h : HW) : Rs :=
 q154_97 C lf (fun x0 x1 x2 x3 h => q154_96 C lf r x0 x1 x2 x3 h) x0 x1 x2 x3 h
theorem q154_98_eq (C : YC) (lf : Nat) (r : K2) (KN : KF) (KE : KX) : ∀ F h, evX fx154 C lf [] F h KN (fun F h => r (F 8) (F 9) h) KE = q154_98 C lf r (F 0) (F 1) (F 2) (F 3) h := cSeq (a := subX fx154 [0]) (b := subX fx154 [1]) (by kernel_rfl) (B := (fun F h => q154_96 C lf r (F 0) (F 1) (F 2) (F 3) h)) (q154_96_eq C lf r KN KE) (q154_97_eq C lf (fun x0 x1 x2 x3 h => q154_96 C lf r x0 x1 x2 x3 h) (fun F h => r (F 8) (F 9) h) KE)
noncomputable def fs154 (C : YC) (lf : Nat) (a0 a1 a2 a3 : SV) (h : HW) : Rs := q154_98 C lf ff154 (some a0) (some a1) (some a2) (some a3) h
theorem fs154_eq (C : YC) (lf : Nat) (a0 a1 a2 a3 : SV) (h : HW) : yFn Tryz.prog fx154 C lf [a0, a1, a2, a3] h = fs154 C lf a0 a1 a2 a3 h := fnX (K := (fun F h => ff154 (F 8) (F 9) h)) (by kernel_rfl) (((q154_98_eq C lf ff154 (fun F h => ff154 (F 8) (F 9) h) (fun _ _ _ => none)) _ h).trans (by kernel_rfl))
noncomputable def fy154 : YX Tryz.prog := Y4 fx154 fs154 fs154_eq (by kernel_rfl)

noncomputable def fx155 : XF Tryz.prog := ⟨155, Tryz.f155, fun _ => .text, Tryz.func155, by kernel_rfl, by kernel_rfl, by kernel_rfl, by kernel_rfl⟩
noncomputable def ff155 (x2 : O) (h : HW) : Rs :=
 ob x2 fun a0 =>
 some (.ret a0, h)
noncomputable def q155_19 (C : YC) (lf : Nat) (r : K1) (x0 : O) (h : HW) : Rs :=
 ob x0 fun a1 =>
 b2 (ybx 224 a1 h) fun y2 h2 =>
 ob (fa 3 y2) fun y3 =>
 ob (ld1 y3 h2) fun y4 =>
 bc (gd false (some y4) (ob (fa 1 y2) fun y5 =>
 some (.ret y5, h2)) h2) fun y6 h6 =>
 bc (gd false (some y4) (ob (ld1 y6 h6) fun y7 =>
 some (.ret y7, h6)) h6) fun y8 h8 =>
 bc (gd false (some y4) (ob (bin Tryz.prog .eql 9 y8 (.str (bs [46]))) fun y9 =>
 some (.ret y9, h8)) h8) fun y10 h10 =>
 ob (ypk y4 (.bool true) y10) fun y11 =>
 bc (gd false (some y11) (ob (fa 1 y2) fun y12 =>
 some (.ret y12, h10)) h10) fun y13 h13 =>
 bc (gd false (some y11) (ob (ld1 y13 h13) fun y14 =>
 some (.ret y14, h13)) h13) fun y15 h15 =>
 bc (gd false (some y11) (ob (bin Tryz.prog .eql 9 y15 (.str (bs [46, 46]))) fun y16 =>
 some (.ret y16, h15)) h15) fun y17 h17 =>
 ob (ypk y11 (.bool true) y17) fun y18 =>
 r (some y18) h17
theorem q155_19_eq (C : YC) (lf : Nat) (r : K1) (KN : KF) (KE : KX) : ∀ F h, evX fx155 C lf [] F h KN (fun F h => r (F 2) h) KE = q155_19 C lf r (F 0) h := by
  intro F h; kernel_rfl
noncomputable def fs155 (C : YC) (lf : Nat) (a0 : SV) (h : HW) : Rs := q155_19 C lf ff155 (some a0) h
theorem fs155_eq (C : YC) (lf : Nat) (a0 : SV) (h : HW) : yFn Tryz.prog fx155 C lf [a0] h = fs155 C lf a0 h := fnX (K := (fun F h => ff155 (F 2) h)) (by kernel_rfl) (((q155_19_eq C lf ff155 (fun F h => ff155 (F 2) h) (fun _ _ _ => none)) _ h).trans (by kernel_rfl))
noncomputable def fy155 : YX Tryz.prog := Y1 fx155 fs155 fs155_eq (by kernel_rfl)

noncomputable def fx156 : XF Tryz.prog := ⟨156, Tryz.f156, fun _ => .text, Tryz.func156, by kernel_rfl, by kernel_rfl, by kernel_rfl, by kernel_rfl⟩
noncomputable def ff156 (x4 : O) (h : HW) : Rs :=
 ob x4 fun a0 =>
 some (.ret a0, h)
noncomputable def q156_6 (C : YC) (lf : Nat) (r : K1) (x0 x1 : O) (h : HW) : Rs :=
 ob x0 fun a1 =>
 ob x1 fun a2 =>
 bc (C (.fn 147) [a1, a2] h) fun y3 h3 =>
 ob (fd1 6 y3) fun y4 =>
 ob (bin Tryz.prog .and 30 y4 (.int .i64 61440)) fun y5 =>
 r (some y5) h3
theorem q156_6_eq (C : YC) (lf : Nat) (r : K1) (KN : KF) (KE : KX) : ∀ F h, evX fx156 C lf [] F h KN (fun F h => r (F 4) h) KE = q156_6 C lf r (F 0) (F 1) h := by
  intro F h; kernel_rfl
noncomputable def fs156 (C : YC) (lf : Nat) (a0 a1 : SV) (h : HW) : Rs := q156_6 C lf ff156 (some a0) (some a1) h
theorem fs156_eq (C : YC) (lf : Nat) (a0 a1 : SV) (h : HW) : yFn Tryz.prog fx156 C lf [a0, a1] h = fs156 C lf a0 a1 h := fnX (K := (fun F h => ff156 (F 4) h)) (by kernel_rfl) (((q156_6_eq C lf ff156 (fun F h => ff156 (F 4) h) (fun _ _ _ => none)) _ h).trans (by kernel_rfl))
noncomputable def fy156 : YX Tryz.prog := Y2 fx156 fs156 fs156_eq (by kernel_rfl)

noncomputable def fx157 : XF Tryz.prog := ⟨157, Tryz.f157, fun _ => .text, Tryz.func157, by kernel_rfl, by kernel_rfl, by kernel_rfl, by kernel_rfl⟩
noncomputable def ff157 (x8 : O) (h : HW) : Rs :=
 ob x8 fun a0 =>
 some (.ret a0, h)
noncomputable def q157_17 (C : YC) (lf : Nat) (r : K1) (x0 x1 x2 x3 : O) (h : HW) : Rs :=
 ob x1 fun a1 =>
 b2 (ybx 46 a1 h) fun y2 h2 =>
 ob x0 fun a3 =>
 ob x2 fun a4 =>
 bc (C (.fn 147) [a3, a4] h2) fun y5 h5 =>
 b2 (yAl Tryz.prog 58 h5) fun y6 h6 =>
 ob (st 10 y6 y5 h6) fun h7 =>
 ob (fa 6 y6) fun y8 =>
 ob (ld1 y8 h7) fun y9 =>
 ob (fa 2 y6) fun y10 =>
 ob (ld1 y10 h7) fun y11 =>
 ob (fa 3 y6) fun y12 =>
 ob (ld1 y12 h7) fun y13 =>
 ob (ldN 5 y2 h7) fun y14 =>
 ob x3 fun a15 =>
 bc (C (.fn 221) [y9, y11, y13, y14, a15] h7) fun y16 h16 =>
 r (some y16) h16
theorem q157_17_eq (C : YC) (lf : Nat) (r : K1) (KN : KF) (KE : KX) : ∀ F h, evX fx157 C lf [] F h KN (fun F h => r (F 8) h) KE = q157_17 C lf r (F 0) (F 1) (F 2) (F 3) h := by
  intro F h; kernel_rfl
noncomputable def fs157 (C : YC) (lf : Nat) (a0 a1 a2 a3 : SV) (h : HW) : Rs := q157_17 C lf ff157 (some a0) (some a1) (some a2) (some a3) h
theorem fs157_eq (C : YC) (lf : Nat) (a0 a1 a2 a3 : SV) (h : HW) : yFn Tryz.prog fx157 C lf [a0, a1, a2, a3] h = fs157 C lf a0 a1 a2 a3 h := fnX (K := (fun F h => ff157 (F 8) h)) (by kernel_rfl) (((q157_17_eq C lf ff157 (fun F h => ff157 (F 8) h) (fun _ _ _ => none)) _ h).trans (by kernel_rfl))
noncomputable def fy157 : YX Tryz.prog := Y4 fx157 fs157 fs157_eq (by kernel_rfl)

noncomputable def fx162 : XF Tryz.prog := ⟨162, Tryz.f162, fun _ => .text, Tryz.func162, by kernel_rfl, by kernel_rfl, by kernel_rfl, by kernel_rfl⟩
noncomputable def ff162 (x8 : O) (h : HW) : Rs :=
 ob x8 fun a0 =>
 some (.ret a0, h)
noncomputable def q162_18 (C : YC) (lf : Nat) (r : K1) (x0 x1 x2 x3 : O) (h : HW) : Rs :=
 ob x1 fun a1 =>
 b2 (ybx 46 a1 h) fun y2 h2 =>
 ob x0 fun a3 =>
 bc (C (.fn 142) [a3] h2) fun y4 h4 =>
 ob x0 fun a5 =>
 ob (ldN 5 y2 h4) fun y6 =>
 ob x2 fun a7 =>
 ob x3 fun a8 =>
 bc (C (.fn 143) [a5, y6, a7, a8] h4) fun y9 h9 =>
 b2 (yAl Tryz.prog 224 h9) fun y10 h10 =>
 ob (st 5 y10 y9 h10) fun h11 =>
 ob (fa 4 y10) fun y12 =>
 ob (ld1 y12 h11) fun y13 =>
 ob (bin Tryz.prog .eql 3 y13 (.int .i64 0)) fun y14 =>
 bc (C (.fn 146) [y14, (.int .i64 2)] h11) fun y15 h15 =>
 ob (fa 4 y10) fun y16 =>
 ob (ld1 y16 h15) fun y17 =>
 r (some y17) h15
theorem q162_18_eq (C : YC) (lf : Nat) (r : K1) (KN : KF) (KE : KX) : ∀ F h, evX fx162 C lf [] F h KN (fun F h => r (F 8) h) KE = q162_18 C lf r (F 0) (F 1) (F 2) (F 3) h := by
  intro F h; kernel_rfl
noncomputable def fs162 (C : YC) (lf : Nat) (a0 a1 a2 a3 : SV) (h : HW) : Rs := q162_18 C lf ff162 (some a0) (some a1) (some a2) (some a3) h
theorem fs162_eq (C : YC) (lf : Nat) (a0 a1 a2 a3 : SV) (h : HW) : yFn Tryz.prog fx162 C lf [a0, a1, a2, a3] h = fs162 C lf a0 a1 a2 a3 h := fnX (K := (fun F h => ff162 (F 8) h)) (by kernel_rfl) (((q162_18_eq C lf ff162 (fun F h => ff162 (F 8) h) (fun _ _ _ => none)) _ h).trans (by kernel_rfl))
noncomputable def fy162 : YX Tryz.prog := Y4 fx162 fs162 fs162_eq (by kernel_rfl)

noncomputable def fx163 : XF Tryz.prog := ⟨163, Tryz.f163, fun _ => .text, Tryz.func163, by kernel_rfl, by kernel_rfl, by kernel_rfl, by kernel_rfl⟩
noncomputable def ff163 (x2 : O) (h : HW) : Rs :=
 ob x2 fun a0 =>
 some (.ret a0, h)
noncomputable def q163_2 (C : YC) (lf : Nat) (r : K1) (x0 : O) (h : HW) : Rs :=
 ob x0 fun a1 =>
 yIf a1
 (r (some (.int .i64 1)) h)
 (r (some (.int .i64 0)) h)
theorem q163_2_eq (C : YC) (lf : Nat) (r : K1) (KN : KF) (KE : KX) : ∀ F h, evX fx163 C lf [] F h KN (fun F h => r (F 2) h) KE = q163_2 C lf r (F 0) h := by
  intro F h; kernel_rfl
noncomputable def fs163 (C : YC) (lf : Nat) (a0 : SV) (h : HW) : Rs := q163_2 C lf ff163 (some a0) h
theorem fs163_eq (C : YC) (lf : Nat) (a0 : SV) (h : HW) : yFn Tryz.prog fx163 C lf [a0] h = fs163 C lf a0 h := fnX (K := (fun F h => ff163 (F 2) h)) (by kernel_rfl) (((q163_2_eq C lf ff163 (fun F h => ff163 (F 2) h) (fun _ _ _ => none)) _ h).trans (by kernel_rfl))
noncomputable def fy163 : YX Tryz.prog := Y1 fx163 fs163 fs163_eq (by kernel_rfl)

noncomputable def fx164 : XF Tryz.prog := ⟨164, Tryz.f164, fun _ => .text, Tryz.func164, by kernel_rfl, by kernel_rfl, by kernel_rfl, by kernel_rfl⟩
noncomputable def ff164 (x4 x5 : O) (h : HW) : Rs :=
 ob x4 fun a0 =>
 ob x5 fun a1 =>
 some (.ret (.tup [a0, a1]), h)
noncomputable def q164_15 (C : YC) (lf : Nat) (r : K2) (x0 x1 : O) (h : HW) : Rs :=
 ob x0 fun a2 =>
 ob x1 fun a3 =>
 bc (C (.fn 226) [a2, a3] h) fun y4 h4 =>
 ob (ext 0 y4) fun y5 =>
 ob (ext 1 y4) fun y6 =>
 ob (bin Tryz.prog .neq 3 y6 (.int .i64 0)) fun y7 =>
 yIf y7
 (r (some (.val (.pointer none))) (some y6) h4)
 (bc (C (.fn 227) [y5, (.int .i64 16877), (.int .i64 0), (.int .i64 0)] h4) fun y8 h8 =>
 ob (ext 0 y8) fun y9 =>
 ob (ext 1 y8) fun y10 =>
 bc (C (.fn 228) [y5, y9, y9] h8) fun y11 h11 =>
 bc (C (.fn 229) [y5, y9, (.int .i64 2)] h11) fun y12 h12 =>
 ob (semBuild Tryz.prog 325 [0] [y5]) fun y13 =>
 b2 (ybx 325 y13 h12) fun y14 h14 =>
 r (some y14) (some (.int .i64 0)) h14)
theorem q164_15_eq (C : YC) (lf : Nat) (r : K2) (KN : KF) (KE : KX) : ∀ F h, evX fx164 C lf [] F h KN (fun F h => r (F 4) (F 5) h) KE = q164_15 C lf r (F 0) (F 1) h := by
  intro F h; kernel_rfl
noncomputable def fs164 (C : YC) (lf : Nat) (a0 a1 : SV) (h : HW) : Rs := q164_15 C lf ff164 (some a0) (some a1) h
theorem fs164_eq (C : YC) (lf : Nat) (a0 a1 : SV) (h : HW) : yFn Tryz.prog fx164 C lf [a0, a1] h = fs164 C lf a0 a1 h := fnX (K := (fun F h => ff164 (F 4) (F 5) h)) (by kernel_rfl) (((q164_15_eq C lf ff164 (fun F h => ff164 (F 4) (F 5) h) (fun _ _ _ => none)) _ h).trans (by kernel_rfl))
noncomputable def fy164 : YX Tryz.prog := Y2 fx164 fs164 fs164_eq (by kernel_rfl)

noncomputable def fx166 : XF Tryz.prog := ⟨166, Tryz.f166, fun r => bif Nat.beq r 6 then .ord [0, 2, 1, 3, 4, 5, 7, 8, 9, 11, 6, 10, 12, 13, 14, 15, 16, 17, 18] [(12, [6])] else bif Nat.beq r 7 then .ord [0, 1, 2, 3, 4, 5, 6, 7, 8, 9, 10] [(6, [4])] else .text, Tryz.func166, by kernel_rfl, by kernel_rfl, by kernel_rfl, by kernel_rfl⟩
noncomputable def ff166 (x4 x5 : O) (h : HW) : Rs :=
 ob x4 fun a0 =>
 ob (ldN 4 a0 h) fun y1 =>
 ob x5 fun a2 =>
 some (.ret (.tup [y1, a2]), h)
noncomputable def q166_6 (C : YC) (lf : Nat) (r : K2) (x4 : O) (h : HW) : Rs :=
 ob (semBuild Tryz.prog 142 [] []) fun y3 =>
 ob x4 fun a4 =>
 ob (st 4 a4 y3 h) fun h5 =>
 r x4 (some (.bool false)) h5
theorem q166_6_eq (C : YC) (lf : Nat) (r : K2) (KN : KF) (KE : KX) : ∀ F h, evX fx166 C lf [1, 1, 1, 1] F h KN (fun F h => r (F 4) (F 5) h) KE = q166_6 C lf r (F 4) h := by
  intro F h; kernel_rfl
noncomputable def q166_61 (C : YC) (lf : Nat) (n : K6) (r : K2) (e0 : K1) (x0 x1 x4 x25 x26 x27 : O) (h : HW) : Rs :=
 ob x27 fun a8 =>
 ob x26 fun a9 =>
 ob (bin Tryz.prog .lss 3 a8 a9) fun y10 =>
 yIf y10
 (ob x25 fun a11 =>
 ob x27 fun a12 =>
 ob (ixS 4 a11 a12) fun y13 =>
 ob (ldN 4 y13 h) fun y14 =>
 b2 (yAl Tryz.prog 142 h) fun y15 h15 =>
 ob (st 4 y15 y14 h15) fun h16 =>
 ob (fa 0 y15) fun y17 =>
 ob x1 fun a18 =>
 ob (ld1 y17 h16) fun y19 =>
 ob (bin Tryz.prog .eql 9 y19 a18) fun y20 =>
 bcn (gd true (some y20) (ob (fa 1 y15) fun y21 =>
 some (.ret y21, h16)) h16) fun y22 h22 =>
 bcn (gd true (some y20) (ob x0 fun a23 =>
 some (.ret a23, h22)) h22) fun y24 h24 =>
 bcn (gd true (some y20) (ob (semNil y24) fun y25 =>
 some (.ret y25, h24)) h24) fun y26 h26 =>
 bcn (gd true (some y20) (ob (fa 2 y26) fun y27 =>
 some (.ret y27, h26)) h26) fun y28 h28 =>
 bcn (gd true (some y20) (ob x1 fun a29 =>
 some (.ret a29, h28)) h28) fun y30 h30 =>
 bcn (gd true (some y20) (ob (ld1 y22 h30) fun y31 =>
 some (.ret y31, h30)) h30) fun y32 h32 =>
 bcn (gd true (some y20) (ob (ld1 y28 h32) fun y33 =>
 some (.ret y33, h32)) h32) fun y34 h34 =>
 bcn (gd true (some y20) (ob (ylk Tryz.prog 39 false y34 y30 h34) fun y35 =>
 some (.ret y35, h34)) h34) fun y36 h36 =>
 ck (chkH [(10, gdA true (some y20) (adrO (some y28))), (6, gdA true (some y20) (adrO (some y22))), (1, adrO (some y17))] h34 h36 [6]) <|
 bcn (gd true (some y20) (ob (bin Tryz.prog .eql 3 y32 y36) fun y37 =>
 some (.ret y37, h36)) h36) fun y38 h38 =>
 ob (ypk y20 y38 (.bool false)) fun y39 =>
 bcn (gd true (some y39) (ob (ldN 4 y15 h38) fun y40 =>
 some (.ret y40, h38)) h38) fun y41 h41 =>
 bcn (gd true (some y39) (bcn (C (.fn 240) [y41] h41) fun y42 h42 =>
 some (.ret y42, h42)) h41) fun y43 h43 =>
 ob (ypk y39 y43 (.bool false)) fun y44 =>
 yIf y44
 (ob x0 fun a45 =>
 ob x0 fun a46 =>
 ob (semNil a46) fun y47 =>
 ob (fa 4 y47) fun y48 =>
 ob (ld1 y48 h43) fun y49 =>
 ob (ldN 4 y15 h43) fun y50 =>
 b2 (ybs Tryz.prog 34 1 [0] [y50] h43) fun y51 h51 =>
 ck (chkH [(5, adrO (some y15)), (4, adrO (some y48))] h43 h51 [4]) <|
 b2 (ybl Tryz.prog .append #[34, 34] [y49, y51] h51) fun y52 h52 =>
 ob (semNil a45) fun y53 =>
 ob (fa 4 y53) fun y54 =>
 ob (st 1 y54 y52 h52) fun h55 =>
 ob (ldN 4 y15 h55) fun y56 =>
 ob x4 fun a57 =>
 ob (st 4 a57 y56 h55) fun h58 =>
 r x4 (some (.bool true)) h58)
 (ob x27 fun a59 =>
 ob (bin Tryz.prog .add 3 a59 (.int .i64 1)) fun y60 =>
 n x0 x1 x4 x25 x26 (some y60) h43))
 (e0 x4 h)
theorem q166_61_eq (C : YC) (lf : Nat) (n : K6) (r : K2) (e0 : K1) (KE : KX) : ∀ F h, evX fx166 C lf [1, 1, 1, 0, 1, 0, 0] F h (fun F h => n (F 0) (F 1) (F 4) (F 25) (F 26) (F 27) h) (fun F h => r (F 4) (F 5) h) (bk 0 (fun F h => e0 (F 4) h) KE) = q166_61 C lf n r e0 (F 0) (F 1) (F 4) (F 25) (F 26) (F 27) h := by
  intro F h; kernel_rfl
noncomputable def l166_7 (C : YC) (lf : Nat) (r : K2) (e0 : K1) (k : O × O × O × O × O × O → HW → Rs) (s : O × O × O × O × O × O) (h : HW) : Rs :=
 q166_61 C lf (fun x0 x1 x4 x25 x26 x27 h => k (x0, x1, x4, x25, x26, x27) h) r e0 s.1 s.2.1 s.2.2.1 s.2.2.2.1 s.2.2.2.2.1 s.2.2.2.2.2 h
noncomputable def q166_67 (C : YC) (lf : Nat) (n : K6) (x0 x1 x4 : O) (h : HW) : Rs :=
 ob x0 fun a62 =>
 ob (semNil a62) fun y63 =>
 ob (fa 1 y63) fun y64 =>
 ob (ld1 y64 h) fun y65 =>
 ob (lenE Tryz.prog 34 y65) fun y66 =>
 n x0 x1 x4 (some y65) (some y66) (some (.int .i64 0)) h
theorem q166_67_eq (C : YC) (lf : Nat) (n : K6) (KR : KF) (KE : KX) : ∀ F h, evX fx166 C lf [1, 1, 1, 0, 0] F h (fun F h => n (F 0) (F 1) (F 4) (F 25) (F 26) (F 27) h) KR KE = q166_67 C lf n (F 0) (F 1) (F 4) h := by
  intro F h; kernel_rfl
noncomputable def q166_68 (C : YC) (lf : Nat) (n : K1) (r : K2) (x0 x1 x4 : O) (h : HW) : Rs :=
 q166_67 C lf (fun x0 x1 x4 x25 x26 x27 h => lp (l166_7 C lf r n) lf (x0, x1, x4, x25, x26, x27) h) x0 x1 x4 h
theorem q166_68_eq (C : YC) (lf : Nat) (n : K1) (r : K2) (KE : KX) : ∀ F h, evX fx166 C lf [1, 1, 1, 0] F h (fun F h => n (F 4) h) (fun F h => r (F 4) (F 5) h) KE = q166_68 C lf n r (F 0) (F 1) (F 4) h := cSeq (a := subX fx166 [1, 1, 1, 0, 0]) (b := subX fx166 [1, 1, 1, 0, 1]) (by kernel_rfl) (B := (fun F h => lp (l166_7 C lf r n) lf ((F 0), (F 1), (F 4), (F 25), (F 26), (F 27)) h)) (cBlock (id := 0) (a := subX fx166 [1, 1, 1, 0, 1, 0]) (by kernel_rfl) (cLoop (a := subX fx166 [1, 1, 1, 0, 1, 0, 0]) (g := fun F => (F 0, F 1, F 4, F 25, F 26, F 27)) (body := l166_7 C lf r n) (by kernel_rfl) (fun k => (q166_61_eq C lf (fun x0 x1 x4 x25 x26 x27 h => k (x0, x1, x4, x25, x26, x27) h) r n KE)))) (q166_67_eq C lf (fun x0 x1 x4 x25 x26 x27 h => lp (l166_7 C lf r n) lf (x0, x1, x4, x25, x26, x27) h) (fun F h => r (F 4) (F 5) h) KE)
noncomputable def q166_69 (C : YC) (lf : Nat) (r : K2) (x0 x1 x4 : O) (h : HW) : Rs :=
 q166_68 C lf (fun x4 h => q166_6 C lf r x4 h) r x0 x1 x4 h
theorem q166_69_eq (C : YC) (lf : Nat) (r : K2) (KN : KF) (KE : KX) : ∀ F h, evX fx166 C lf [1, 1, 1] F h KN (fun F h => r (F 4) (F 5) h) KE = q166_69 C lf r (F 0) (F 1) (F 4) h := cSeq (a := subX fx166 [1, 1, 1, 0]) (b := subX fx166 [1, 1, 1, 1]) (by kernel_rfl) (B := (fun F h => q166_6 C lf r (F 4) h)) (q166_6_eq C lf r KN KE) (q166_68_eq C lf (fun x4 h => q166_6 C lf r x4 h) r KE)
noncomputable def q166_78 (C : YC) (lf : Nat) (n : K3) (x0 x1 x4 : O) (h : HW) : Rs :=
 ob x0 fun a70 =>
 ob (semNil a70) fun y71 =>
 ob (fa 2 y71) fun y72 =>
 ob (ld1 y72 h) fun y73 =>
 ob x1 fun a74 =>
 ob (ylk Tryz.prog 39 false y73 a74 h) fun y75 =>
 ob (bin Tryz.prog .add 3 y75 (.int .i64 1)) fun y76 =>
 ob (yup Tryz.prog 39 y73 a74 y76 h) fun h77 =>
 n x0 x1 x4 h77
theorem q166_78_eq (C : YC) (lf : Nat) (n : K3) (KR : KF) (KE : KX) : ∀ F h, evX fx166 C lf [1, 1, 0] F h (fun F h => n (F 0) (F 1) (F 4) h) KR KE = q166_78 C lf n (F 0) (F 1) (F 4) h := by
  intro F h; kernel_rfl
noncomputable def q166_79 (C : YC) (lf : Nat) (r : K2) (x0 x1 x4 : O) (h : HW) : Rs :=
 q166_78 C lf (fun x0 x1 x4 h => q166_69 C lf r x0 x1 x4 h) x0 x1 x4 h
theorem q166_79_eq (C : YC) (lf : Nat) (r : K2) (KN : KF) (KE : KX) : ∀ F h, evX fx166 C lf [1, 1] F h KN (fun F h => r (F 4) (F 5) h) KE = q166_79 C lf r (F 0) (F 1) (F 4) h := cSeq (a := subX fx166 [1, 1, 0]) (b := subX fx166 [1, 1, 1]) (by kernel_rfl) (B := (fun F h => q166_69 C lf r (F 0) (F 1) (F 4) h)) (q166_69_eq C lf r KN KE) (q166_78_eq C lf (fun x0 x1 x4 h => q166_69 C lf r x0 x1 x4 h) (fun F h => r (F 4) (F 5) h) KE)
noncomputable def q166_88 (C : YC) (lf : Nat) (n : K3) (x0 x1 x4 : O) (h : HW) : Rs :=
 ob x0 fun a80 =>
 ob (semNil a80) fun y81 =>
 ob (fa 3 y81) fun y82 =>
 ob (ld1 y82 h) fun y83 =>
 ob (bin Tryz.prog .add 3 y83 (.int .i64 1)) fun y84 =>
 ob (semNil a80) fun y85 =>
 ob (fa 3 y85) fun y86 =>
 ob (st 1 y86 y84 h) fun h87 =>
 n x0 x1 x4 h87
theorem q166_88_eq (C : YC) (lf : Nat) (n : K3) (KR : KF) (KE : KX) : ∀ F h, evX fx166 C lf [1, 0] F h (fun F h => n (F 0) (F 1) (F 4) h) KR KE = q166_88 C lf n (F 0) (F 1) (F 4) h := by
  intro F h; kernel_rfl
noncomputable def q166_89 (C : YC) (lf : Nat) (r : K2) (x0 x1 x4 : O) (h : HW) : Rs :=
 q166_88 C lf (fun x0 x1 x4 h => q166_79 C lf r x0 x1 x4 h) x0 x1 x4 h
theorem q166_89_eq (C : YC) (lf : Nat) (r : K2) (KN : KF) (KE : KX) : ∀ F h, evX fx166 C lf [1] F h KN (fun F h => r (F 4) (F 5) h) KE = q166_89 C lf r (F 0) (F 1) (F 4) h := cSeq (a := subX fx166 [1, 0]) (b := subX fx166 [1, 1]) (by kernel_rfl) (B := (fun F h => q166_79 C lf r (F 0) (F 1) (F 4) h)) (q166_79_eq C lf r KN KE) (q166_88_eq C lf (fun x0 x1 x4 h => q166_79 C lf r x0 x1 x4 h) (fun F h => r (F 4) (F 5) h) KE)
noncomputable def q166_91 (C : YC) (lf : Nat) (n : K3) (x0 x1 : O) (h : HW) : Rs :=
 b2 (yAl Tryz.prog 142 h) fun y90 h90 =>
 n x0 x1 (some y90) h90
theorem q166_91_eq (C : YC) (lf : Nat) (n : K3) (KR : KF) (KE : KX) : ∀ F h, evX fx166 C lf [0] F h (fun F h => n (F 0) (F 1) (F 4) h) KR KE = q166_91 C lf n (F 0) (F 1) h := by
  intro F h; kernel_rfl
noncomputable def q166_92 (C : YC) (lf : Nat) (r : K2) (x0 x1 : O) (h : HW) : Rs :=
 q166_91 C lf (fun x0 x1 x4 h => q166_89 C lf r x0 x1 x4 h) x0 x1 h
theorem q166_92_eq (C : YC) (lf : Nat) (r : K2) (KN : KF) (KE : KX) : ∀ F h, evX fx166 C lf [] F h KN (fun F h => r (F 4) (F 5) h) KE = q166_92 C lf r (F 0) (F 1) h := cSeq (a := subX fx166 [0]) (b := subX fx166 [1]) (by kernel_rfl) (B := (fun F h => q166_89 C lf r (F 0) (F 1) (F 4) h)) (q166_89_eq C lf r KN KE) (q166_91_eq C lf (fun x0 x1 x4 h => q166_89 C lf r x0 x1 x4 h) (fun F h => r (F 4) (F 5) h) KE)
noncomputable def fs166 (C : YC) (lf : Nat) (a0 a1 : SV) (h : HW) : Rs := q166_92 C lf ff166 (some a0) (some a1) h
theorem fs166_eq (C : YC) (lf : Nat) (a0 a1 : SV) (h : HW) : yFn Tryz.prog fx166 C lf [a0, a1] h = fs166 C lf a0 a1 h := fnX (K := (fun F h => ff166 (F 4) (F 5) h)) (by kernel_rfl) (((q166_92_eq C lf ff166 (fun F h => ff166 (F 4) (F 5) h) (fun _ _ _ => none)) _ h).trans (by kernel_rfl))
noncomputable def fy166 : YX Tryz.prog := Y2 fx166 fs166 fs166_eq (by kernel_rfl)

noncomputable def fx167 : XF Tryz.prog := ⟨167, Tryz.f167, fun _ => .text, Tryz.func167, by kernel_rfl, by kernel_rfl, by kernel_rfl, by kernel_rfl⟩
noncomputable def ff167 (x1 x2 : O) (h : HW) : Rs :=
 ob x1 fun a0 =>
 ob x2 fun a1 =>
 some (.ret (.tup [a0, a1]), h)
noncomputable def q167_5 (C : YC) (lf : Nat) (r : K2) (x0 : O) (h : HW) : Rs :=
 ob x0 fun a2 =>
 ob (ld1 a2 h) fun y3 =>
 cv false C y3 [] h fun y4 h4 =>
 r (some (.int .i64 0)) (some y4) h4
theorem q167_5_eq (C : YC) (lf : Nat) (r : K2) (KN : KF) (KE : KX) : ∀ F h, evX fx167 C lf [] F h KN (fun F h => r (F 1) (F 2) h) KE = q167_5 C lf r (F 0) h := by
  intro F h; kernel_rfl
noncomputable def fs167 (C : YC) (lf : Nat) (a0 : SV) (h : HW) : Rs := q167_5 C lf ff167 (some a0) h
theorem fs167_eq (C : YC) (lf : Nat) (a0 : SV) (h : HW) : yFn Tryz.prog fx167 C lf [a0] h = fs167 C lf a0 h := fnX (K := (fun F h => ff167 (F 1) (F 2) h)) (by kernel_rfl) (((q167_5_eq C lf ff167 (fun F h => ff167 (F 1) (F 2) h) (fun _ _ _ => none)) _ h).trans (by kernel_rfl))
noncomputable def fy167 : YX Tryz.prog := Y1 fx167 fs167 fs167_eq (by kernel_rfl)

noncomputable def fx169 : XF Tryz.prog := ⟨169, Tryz.f169, fun _ => .text, Tryz.func169, by kernel_rfl, by kernel_rfl, by kernel_rfl, by kernel_rfl⟩
noncomputable def ff169 (x4 : O) (h : HW) : Rs :=
 ob x4 fun a0 =>
 some (.ret a0, h)
noncomputable def q169_10 (C : YC) (lf : Nat) (r : K1) (x0 x1 : O) (h : HW) : Rs :=
 ob x0 fun a1 =>
 bc (C (.fn 181) [a1] h) fun y2 h2 =>
 ob (unE .not y2) fun y3 =>
 yIf y3
 (r (some (.int .i64 14)) h2)
 (ob x0 fun a4 =>
 ob (semNil a4) fun y5 =>
 ob (fa 0 y5) fun y6 =>
 ob (ld1 y6 h2) fun y7 =>
 ob x1 fun a8 =>
 bc (C (.fn 242) [y7, a8] h2) fun y9 h9 =>
 r (some y9) h9)
theorem q169_10_eq (C : YC) (lf : Nat) (r : K1) (KN : KF) (KE : KX) : ∀ F h, evX fx169 C lf [] F h KN (fun F h => r (F 4) h) KE = q169_10 C lf r (F 0) (F 1) h := by
  intro F h; kernel_rfl
noncomputable def fs169 (C : YC) (lf : Nat) (a0 a1 : SV) (h : HW) : Rs := q169_10 C lf ff169 (some a0) (some a1) h
theorem fs169_eq (C : YC) (lf : Nat) (a0 a1 : SV) (h : HW) : yFn Tryz.prog fx169 C lf [a0, a1] h = fs169 C lf a0 a1 h := fnX (K := (fun F h => ff169 (F 4) h)) (by kernel_rfl) (((q169_10_eq C lf ff169 (fun F h => ff169 (F 4) h) (fun _ _ _ => none)) _ h).trans (by kernel_rfl))
noncomputable def fy169 : YX Tryz.prog := Y2 fx169 fs169 fs169_eq (by kernel_rfl)

noncomputable def fx172 : XF Tryz.prog := ⟨172, Tryz.f172, fun _ => .text, Tryz.func172, by kernel_rfl, by kernel_rfl, by kernel_rfl, by kernel_rfl⟩
noncomputable def ff172 (h : HW) : Rs :=
 some (.ret (.tup []), h)
noncomputable def q172_5 (C : YC) (lf : Nat) (n : K0) (x0 x1 : O) (h : HW) : Rs :=
 ob x0 fun a0 =>
 ob (ld1 a0 h) fun y1 =>
 ob (bin Tryz.prog .neq 23 y1 (.int .i64 0)) fun y2 =>
 yIf y2
 (ob x1 fun a3 =>
 ob (st 1 a3 (.int .i64 0) h) fun h4 =>
 n h4)
 (n h)
theorem q172_5_eq (C : YC) (lf : Nat) (n : K0) (KR : KF) (KE : KX) : ∀ F h, evX fx172 C lf [] F h (fun F h => n h) KR KE = q172_5 C lf n (F 0) (F 1) h := by
  intro F h; kernel_rfl
noncomputable def fs172 (C : YC) (lf : Nat) (a0 a1 : SV) (h : HW) : Rs := q172_5 C lf ff172 (some a0) (some a1) h
theorem fs172_eq (C : YC) (lf : Nat) (a0 a1 : SV) (h : HW) : yFn Tryz.prog fx172 C lf [a0, a1] h = fs172 C lf a0 a1 h := fnX (K := (fun F h => ff172 h)) (by kernel_rfl) (((q172_5_eq C lf ff172 (fun F h => ff172 h) (fun _ _ _ => none)) _ h).trans (by kernel_rfl))
noncomputable def fy172 : YX Tryz.prog := Y2 fx172 fs172 fs172_eq (by kernel_rfl)

noncomputable def fx173 : XF Tryz.prog := ⟨173, Tryz.f173, fun _ => .text, Tryz.func173, by kernel_rfl, by kernel_rfl, by kernel_rfl, by kernel_rfl⟩
noncomputable def ff173 (x2 : O) (h : HW) : Rs :=
 ob x2 fun a0 =>
 some (.ret a0, h)
noncomputable def q173_34 (C : YC) (lf : Nat) (r : K1) (x0 : O) (h : HW) : Rs :=
 ob x0 fun a1 =>
 b2 (ybx 3 a1 h) fun y2 h2 =>
 ob (ld1 y2 h2) fun y3 =>
 ob (bin Tryz.prog .andNot 3 y3 (.int .i64 255)) fun y4 =>
 ob (bin Tryz.prog .eql 3 y4 (.int .i64 0)) fun y5 =>
 bc (gd true (some y5) (some (.ret (.fn (.func 244) [] [y2]), h2)) h2) fun y6 h6 =>
 bc (gd true (some y5) (cv false C y6 [(.int .i64 3)] h6 fun y7 h7 =>
 some (.ret y7, h7)) h6) fun y8 h8 =>
 ob (ypk y5 y8 (.bool false)) fun y9 =>
 bc (gd true (some y9) (some (.ret (.fn (.func 244) [] [y2]), h8)) h8) fun y10 h10 =>
 bc (gd true (some y9) (cv false C y10 [(.int .i64 2)] h10 fun y11 h11 =>
 some (.ret y11, h11)) h10) fun y12 h12 =>
 bc (gd true (some y9) (some (.ret y12, h12)) h12) fun y13 h13 =>
 bc (gd false (some y13) (some (.ret (.fn (.func 244) [] [y2]), h13)) h13) fun y14 h14 =>
 bc (gd false (some y13) (cv false C y14 [(.int .i64 36)] h14 fun y15 h15 =>
 some (.ret y15, h15)) h14) fun y16 h16 =>
 bc (gd false (some y13) (ob (unE .not y16) fun y17 =>
 some (.ret y17, h16)) h16) fun y18 h18 =>
 bc (gd true (some y9) (ob (ypk y13 (.bool true) y18) fun y19 =>
 some (.ret y19, h18)) h18) fun y20 h20 =>
 ob (ypk y9 y20 (.bool false)) fun y21 =>
 bc (gd true (some y21) (some (.ret (.fn (.func 244) [] [y2]), h20)) h20) fun y22 h22 =>
 bc (gd true (some y21) (cv false C y22 [(.int .i64 64)] h22 fun y23 h23 =>
 some (.ret y23, h23)) h22) fun y24 h24 =>
 bc (gd true (some y21) (some (.ret y24, h24)) h24) fun y25 h25 =>
 bc (gd true (some y25) (some (.ret (.fn (.func 244) [] [y2]), h25)) h25) fun y26 h26 =>
 bc (gd true (some y25) (cv false C y26 [(.int .i64 8)] h26 fun y27 h27 =>
 some (.ret y27, h27)) h26) fun y28 h28 =>
 bc (gd true (some y21) (ob (ypk y25 y28 (.bool false)) fun y29 =>
 some (.ret y29, h28)) h28) fun y30 h30 =>
 bc (gd true (some y21) (ob (unE .not y30) fun y31 =>
 some (.ret y31, h30)) h30) fun y32 h32 =>
 ob (ypk y21 y32 (.bool false)) fun y33 =>
 r (some y33) h32
theorem q173_34_eq (C : YC) (lf : Nat) (r : K1) (KN : KF) (KE : KX) : ∀ F h, evX fx173 C lf [] F h KN (fun F h => r (F 2) h) KE = q173_34 C lf r (F 0) h := by
  intro F h; kernel_rfl
noncomputable def fs173 (C : YC) (lf : Nat) (a0 : SV) (h : HW) : Rs := q173_34 C lf ff173 (some a0) h
theorem fs173_eq (C : YC) (lf : Nat) (a0 : SV) (h : HW) : yFn Tryz.prog fx173 C lf [a0] h = fs173 C lf a0 h := fnX (K := (fun F h => ff173 (F 2) h)) (by kernel_rfl) (((q173_34_eq C lf ff173 (fun F h => ff173 (F 2) h) (fun _ _ _ => none)) _ h).trans (by kernel_rfl))
noncomputable def fy173 : YX Tryz.prog := Y1 fx173 fs173 fs173_eq (by kernel_rfl)

noncomputable def fx174 : XF Tryz.prog := ⟨174, Tryz.f174, fun _ => .text, Tryz.func174, by kernel_rfl, by kernel_rfl, by kernel_rfl, by kernel_rfl⟩
noncomputable def ff174 (x3 : O) (h : HW) : Rs :=
 ob x3 fun a0 =>
 some (.ret a0, h)
noncomputable def q174_6 (C : YC) (lf : Nat) (r : K1) (x0 x1 : O) (h : HW) : Rs :=
 ob x1 fun a1 =>
 ob (ld1 a1 h) fun y2 =>
 ob x0 fun a3 =>
 ob (bin Tryz.prog .and 3 y2 a3) fun y4 =>
 ob (bin Tryz.prog .neq 3 y4 (.int .i64 0)) fun y5 =>
 r (some y5) h
theorem q174_6_eq (C : YC) (lf : Nat) (r : K1) (KN : KF) (KE : KX) : ∀ F h, evX fx174 C lf [] F h KN (fun F h => r (F 3) h) KE = q174_6 C lf r (F 0) (F 1) h := by
  intro F h; kernel_rfl
noncomputable def fs174 (C : YC) (lf : Nat) (a0 a1 : SV) (h : HW) : Rs := q174_6 C lf ff174 (some a0) (some a1) h
theorem fs174_eq (C : YC) (lf : Nat) (a0 a1 : SV) (h : HW) : yFn Tryz.prog fx174 C lf [a0, a1] h = fs174 C lf a0 a1 h := fnX (K := (fun F h => ff174 (F 3) h)) (by kernel_rfl) (((q174_6_eq C lf ff174 (fun F h => ff174 (F 3) h) (fun _ _ _ => none)) _ h).trans (by kernel_rfl))
noncomputable def fy174 : YX Tryz.prog := Y2 fx174 fs174 fs174_eq (by kernel_rfl)

noncomputable def fx175 : XF Tryz.prog := ⟨175, Tryz.f175, fun r => bif Nat.beq r 3 then .ord [0, 2, 4, 7, 1, 3, 5, 6, 8, 9, 10, 11] [(8, [5, 3, 1])] else .text, Tryz.func175, by kernel_rfl, by kernel_rfl, by kernel_rfl, by kernel_rfl⟩
noncomputable def ff175 (x8 : O) (h : HW) : Rs :=
 ob x8 fun a0 =>
 some (.ret a0, h)
noncomputable def q175_28 (C : YC) (lf : Nat) (r : K1) (x0 x1 x2 x3 : O) (h : HW) : Rs :=
 ob x1 fun a1 =>
 b2 (ybx 46 a1 h) fun y2 h2 =>
 ob x2 fun a3 =>
 b2 (ybx 224 a3 h2) fun y4 h4 =>
 ob (fa 2 y4) fun y5 =>
 ob (ld1 y5 h4) fun y6 =>
 bc (C (.fn 146) [y6, (.int .i64 21)] h4) fun y7 h7 =>
 ob x0 fun a8 =>
 ob (ldN 5 y2 h7) fun y9 =>
 ob (ldN 5 y4 h7) fun y10 =>
 bc (C (.fn 145) [a8, y9, y10, (.bool false)] h7) fun y11 h11 =>
 ob x0 fun a12 =>
 ob (fa 0 y4) fun y13 =>
 ob (fa 1 y4) fun y14 =>
 ob x3 fun a15 =>
 ob (ldN 5 y2 h11) fun y16 =>
 ob (ld1 y13 h11) fun y17 =>
 ob (ld1 y14 h11) fun y18 =>
 ob (ldN 5 y2 h11) fun y19 =>
 bcn (C (.fn 149) [y19, a15] h11) fun y20 h20 =>
 ck (chkH [(6, adrO (some y2)), (5, adrO (some y14)), (3, adrO (some y13)), (1, adrO (some y2))] h11 h20 [5, 3, 1]) <|
 ob (bin Tryz.prog .or 30 (.int .i64 32768) y20) fun y21 =>
 bcn (C (.fn 148) [a12, y16, y17, y18, y21, (.fn (.func 245) [] [])] h20) fun y22 h22 =>
 ob x0 fun a23 =>
 ob (semNil a23) fun y24 =>
 ob (fa 0 y24) fun y25 =>
 ob (ld1 y25 h22) fun y26 =>
 bc (C (.fn 140) [y26, y22, (.int .i64 1)] h22) fun y27 h27 =>
 r (some y22) h27
theorem q175_28_eq (C : YC) (lf : Nat) (r : K1) (KN : KF) (KE : KX) : ∀ F h, evX fx175 C lf [] F h KN (fun F h => r (F 8) h) KE = q175_28 C lf r (F 0) (F 1) (F 2) (F 3) h := by
  intro F h; kernel_rfl
noncomputable def fs175 (C : YC) (lf : Nat) (a0 a1 a2 a3 : SV) (h : HW) : Rs := q175_28 C lf ff175 (some a0) (some a1) (some a2) (some a3) h
theorem fs175_eq (C : YC) (lf : Nat) (a0 a1 a2 a3 : SV) (h : HW) : yFn Tryz.prog fx175 C lf [a0, a1, a2, a3] h = fs175 C lf a0 a1 a2 a3 h := fnX (K := (fun F h => ff175 (F 8) h)) (by kernel_rfl) (((q175_28_eq C lf ff175 (fun F h => ff175 (F 8) h) (fun _ _ _ => none)) _ h).trans (by kernel_rfl))
noncomputable def fy175 : YX Tryz.prog := Y4 fx175 fs175 fs175_eq (by kernel_rfl)

noncomputable def fx176 : XF Tryz.prog := ⟨176, Tryz.f176, fun _ => .text, Tryz.func176, by kernel_rfl, by kernel_rfl, by kernel_rfl, by kernel_rfl⟩
noncomputable def ff176 (x4 : O) (h : HW) : Rs :=
 ob x4 fun a0 =>
 some (.ret a0, h)
noncomputable def q176_14 (C : YC) (lf : Nat) (r : K1) (x0 x1 : O) (h : HW) : Rs :=
 ob x0 fun a1 =>
 ob x1 fun a2 =>
 bc (C (.fn 206) [a1, a2] h) fun y3 h3 =>
 ob (ext 0 y3) fun y4 =>
 ob (ext 1 y3) fun y5 =>
 ob (bin Tryz.prog .neq 23 y5 (.int .i64 0)) fun y6 =>
 yIf y6
 (r (some y5) h3)
 (ob (semNil y4) fun y7 =>
 ob (fa 11 y7) fun y8 =>
 ob (ld1 y8 h3) fun y9 =>
 ob (bin Tryz.prog .add 3 y9 (.int .i64 1)) fun y10 =>
 ob (semNil y4) fun y11 =>
 ob (fa 11 y11) fun y12 =>
 ob (st 1 y12 y10 h3) fun h13 =>
 r (some (.int .i64 0)) h13)
theorem q176_14_eq (C : YC) (lf : Nat) (r : K1) (KN : KF) (KE : KX) : ∀ F h, evX fx176 C lf [] F h KN (fun F h => r (F 4) h) KE = q176_14 C lf r (F 0) (F 1) h := by
  intro F h; kernel_rfl
noncomputable def fs176 (C : YC) (lf : Nat) (a0 a1 : SV) (h : HW) : Rs := q176_14 C lf ff176 (some a0) (some a1) h
theorem fs176_eq (C : YC) (lf : Nat) (a0 a1 : SV) (h : HW) : yFn Tryz.prog fx176 C lf [a0, a1] h = fs176 C lf a0 a1 h := fnX (K := (fun F h => ff176 (F 4) h)) (by kernel_rfl) (((q176_14_eq C lf ff176 (fun F h => ff176 (F 4) h) (fun _ _ _ => none)) _ h).trans (by kernel_rfl))
noncomputable def fy176 : YX Tryz.prog := Y2 fx176 fs176 fs176_eq (by kernel_rfl)

noncomputable def fx178 : XF Tryz.prog := ⟨178, Tryz.f178, fun _ => .text, Tryz.func178, by kernel_rfl, by kernel_rfl, by kernel_rfl, by kernel_rfl⟩
noncomputable def ff178 (x6 x7 : O) (h : HW) : Rs :=
 ob x6 fun a0 =>
 ob x7 fun a1 =>
 some (.ret (.tup [a0, a1]), h)
noncomputable def q178_16 (C : YC) (lf : Nat) (r : K2) (x0 x1 x2 : O) (h : HW) : Rs :=
 ob x0 fun a2 =>
 ob x1 fun a3 =>
 ob x2 fun a4 =>
 bc (C (.fn 247) [a2, a3, a4] h) fun y5 h5 =>
 ob (bin Tryz.prog .neq 23 y5 (.int .i64 0)) fun y6 =>
 yIf y6
 (r (some (.int .i64 0)) (some y5) h5)
 (ob x0 fun a7 =>
 ob x1 fun a8 =>
 bc (C (.fn 248) [a7, a8] h5) fun y9 h9 =>
 ob x2 fun a10 =>
 bc (C (.fn 249) [y9, a10] h9) fun y11 h11 =>
 ob (bin Tryz.prog .lss 3 y11 (.int .i64 0)) fun y12 =>
 yIf y12
 (r (some (.int .i64 0)) (some (.int .i64 2)) h11)
 (ob (ixS 32 y9 y11) fun y13 =>
 ob (ldN 32 y13 h11) fun y14 =>
 bc (C (.fn 250) [y14] h11) fun y15 h15 =>
 r (some y15) (some (.int .i64 0)) h15))
theorem q178_16_eq (C : YC) (lf : Nat) (r : K2) (KN : KF) (KE : KX) : ∀ F h, evX fx178 C lf [] F h KN (fun F h => r (F 6) (F 7) h) KE = q178_16 C lf r (F 0) (F 1) (F 2) h := by
  intro F h; kernel_rfl
noncomputable def fs178 (C : YC) (lf : Nat) (a0 a1 a2 : SV) (h : HW) : Rs := q178_16 C lf ff178 (some a0) (some a1) (some a2) h
theorem fs178_eq (C : YC) (lf : Nat) (a0 a1 a2 : SV) (h : HW) : yFn Tryz.prog fx178 C lf [a0, a1, a2] h = fs178 C lf a0 a1 a2 h := fnX (K := (fun F h => ff178 (F 6) (F 7) h)) (by kernel_rfl) (((q178_16_eq C lf ff178 (fun F h => ff178 (F 6) (F 7) h) (fun _ _ _ => none)) _ h).trans (by kernel_rfl))
noncomputable def fy178 : YX Tryz.prog := Y3 fx178 fs178 fs178_eq (by kernel_rfl)

noncomputable def fx181 : XF Tryz.prog := ⟨181, Tryz.f181, fun _ => .text, Tryz.func181, by kernel_rfl, by kernel_rfl, by kernel_rfl, by kernel_rfl⟩
noncomputable def ff181 (x2 : O) (h : HW) : Rs :=
 ob x2 fun a0 =>
 some (.ret a0, h)
noncomputable def q181_14 (C : YC) (lf : Nat) (r : K1) (x0 : O) (h : HW) : Rs :=
 ob x0 fun a1 =>
 ob (bin Tryz.prog .neq 43 a1 (.val (.pointer none))) fun y2 =>
 bc (gd true (some y2) (ob x0 fun a3 =>
 some (.ret a3, h)) h) fun y4 h4 =>
 bc (gd true (some y2) (ob (semNil y4) fun y5 =>
 some (.ret y5, h4)) h4) fun y6 h6 =>
 bc (gd true (some y2) (ob (fa 0 y6) fun y7 =>
 some (.ret y7, h6)) h6) fun y8 h8 =>
 bc (gd true (some y2) (ob (ld1 y8 h8) fun y9 =>
 some (.ret y9, h8)) h8) fun y10 h10 =>
 bc (gd true (some y2) (ob (bin Tryz.prog .neq 213 y10 (.val (.pointer none))) fun y11 =>
 some (.ret y11, h10)) h10) fun y12 h12 =>
 ob (ypk y2 y12 (.bool false)) fun y13 =>
 r (some y13) h12
theorem q181_14_eq (C : YC) (lf : Nat) (r : K1) (KN : KF) (KE : KX) : ∀ F h, evX fx181 C lf [] F h KN (fun F h => r (F 2) h) KE = q181_14 C lf r (F 0) h := by
  intro F h; kernel_rfl
noncomputable def fs181 (C : YC) (lf : Nat) (a0 : SV) (h : HW) : Rs := q181_14 C lf ff181 (some a0) h
theorem fs181_eq (C : YC) (lf : Nat) (a0 : SV) (h : HW) : yFn Tryz.prog fx181 C lf [a0] h = fs181 C lf a0 h := fnX (K := (fun F h => ff181 (F 2) h)) (by kernel_rfl) (((q181_14_eq C lf ff181 (fun F h => ff181 (F 2) h) (fun _ _ _ => none)) _ h).trans (by kernel_rfl))
noncomputable def fy181 : YX Tryz.prog := Y1 fx181 fs181 fs181_eq (by kernel_rfl)

noncomputable def fx182 : XF Tryz.prog := ⟨182, Tryz.f182, fun _ => .text, Tryz.func182, by kernel_rfl, by kernel_rfl, by kernel_rfl, by kernel_rfl⟩

noncomputable def fx183 : XF Tryz.prog := ⟨183, Tryz.f183, fun _ => .text, Tryz.func183, by kernel_rfl, by kernel_rfl, by kernel_rfl, by kernel_rfl⟩

noncomputable def fx184 : XF Tryz.prog := ⟨184, Tryz.f184, fun _ => .text, Tryz.func184, by kernel_rfl, by kernel_rfl, by kernel_rfl, by kernel_rfl⟩
noncomputable def ff184 (x4 x5 : O) (h : HW) : Rs :=
 ob x4 fun a0 =>
 ob (ldN 10 a0 h) fun y1 =>
 ob x5 fun a2 =>
 some (.ret (.tup [y1, a2]), h)
noncomputable def q184_23 (C : YC) (lf : Nat) (r : K2) (x0 x1 : O) (h : HW) : Rs :=
 b2 (yAl Tryz.prog 58 h) fun y3 h3 =>
 ob x0 fun a4 =>
 ob x1 fun a5 =>
 bc (C (.fn 206) [a4, a5] h3) fun y6 h6 =>
 ob (ext 0 y6) fun y7 =>
 ob (ext 1 y6) fun y8 =>
 ob (bin Tryz.prog .neq 23 y8 (.int .i64 0)) fun y9 =>
 yIf y9
 (ob (semBuild Tryz.prog 58 [] []) fun y10 =>
 ob (st 10 y3 y10 h6) fun h11 =>
 r (some y3) (some y8) h11)
 (ob (semNil y7) fun y12 =>
 ob (fa 1 y12) fun y13 =>
 ob (ldN 10 y13 h6) fun y14 =>
 b2 (yAl Tryz.prog 58 h6) fun y15 h15 =>
 ob (st 10 y15 y14 h15) fun h16 =>
 bc (C (.fn 256) [y7] h16) fun y17 h17 =>
 ob (lenE Tryz.prog 44 y17) fun y18 =>
 ob (fa 5 y15) fun y19 =>
 ob (st 1 y19 y18 h17) fun h20 =>
 ob (ldN 10 y15 h20) fun y21 =>
 ob (st 10 y3 y21 h20) fun h22 =>
 r (some y3) (some (.int .i64 0)) h22)
theorem q184_23_eq (C : YC) (lf : Nat) (r : K2) (KN : KF) (KE : KX) : ∀ F h, evX fx184 C lf [] F h KN (fun F h => r (F 4) (F 5) h) KE = q184_23 C lf r (F 0) (F 1) h := by
  intro F h; kernel_rfl
noncomputable def fs184 (C : YC) (lf : Nat) (a0 a1 : SV) (h : HW) : Rs := q184_23 C lf ff184 (some a0) (some a1) h
theorem fs184_eq (C : YC) (lf : Nat) (a0 a1 : SV) (h : HW) : yFn Tryz.prog fx184 C lf [a0, a1] h = fs184 C lf a0 a1 h := fnX (K := (fun F h => ff184 (F 4) (F 5) h)) (by kernel_rfl) (((q184_23_eq C lf ff184 (fun F h => ff184 (F 4) (F 5) h) (fun _ _ _ => none)) _ h).trans (by kernel_rfl))
noncomputable def fy184 : YX Tryz.prog := Y2 fx184 fs184 fs184_eq (by kernel_rfl)

noncomputable def fx185 : XF Tryz.prog := ⟨185, Tryz.f185, fun _ => .text, Tryz.func185, by kernel_rfl, by kernel_rfl, by kernel_rfl, by kernel_rfl⟩
noncomputable def ff185 (x10 x11 : O) (h : HW) : Rs :=
 ob x10 fun a0 =>
 ob x11 fun a1 =>
 some (.ret (.tup [a0, a1]), h)
noncomputable def q185_13 (C : YC) (lf : Nat) (r : K2) (x0 x15 : O) (h : HW) : Rs :=
 ob x0 fun a2 =>
 ob (semNil a2) fun y3 =>
 ob (fa 0 y3) fun y4 =>
 ob (ld1 y4 h) fun y5 =>
 ob x15 fun a6 =>
 ob (fa 1 a6) fun y7 =>
 ob (ld1 y7 h) fun y8 =>
 bcn (C (.fn 263) [y5, y8] h) fun y9 h9 =>
 ob x15 fun a10 =>
 ob (fa 1 a10) fun y11 =>
 ob (ld1 y11 h9) fun y12 =>
 r (some y12) (some (.int .i64 0)) h9
theorem q185_13_eq (C : YC) (lf : Nat) (r : K2) (KN : KF) (KE : KX) : ∀ F h, evX fx185 C lf [1, 1, 1, 1, 1, 1, 1, 1, 1, 1, 1, 1, 1, 1, 1, 1] F h KN (fun F h => r (F 10) (F 11) h) KE = q185_13 C lf r (F 0) (F 15) h := by
  intro F h; kernel_rfl
noncomputable def q185_25 (C : YC) (lf : Nat) (n : K2) (x0 x3 x15 : O) (h : HW) : Rs :=
 ob x3 fun a14 =>
 ob (bin Tryz.prog .and 3 a14 (.int .i64 32)) fun y15 =>
 ob (bin Tryz.prog .neq 3 y15 (.int .i64 0)) fun y16 =>
 yIf y16
 (ob x0 fun a17 =>
 ob (semNil a17) fun y18 =>
 ob (fa 0 y18) fun y19 =>
 ob (ld1 y19 h) fun y20 =>
 ob x15 fun a21 =>
 ob (fa 1 a21) fun y22 =>
 ob (ld1 y22 h) fun y23 =>
 bcn (C (.fn 262) [y20, y23, (.int .i64 0)] h) fun y24 h24 =>
 n x0 x15 h24)
 (n x0 x15 h)
theorem q185_25_eq (C : YC) (lf : Nat) (n : K2) (KR : KF) (KE : KX) : ∀ F h, evX fx185 C lf [1, 1, 1, 1, 1, 1, 1, 1, 1, 1, 1, 1, 1, 1, 1, 0] F h (fun F h => n (F 0) (F 15) h) KR KE = q185_25 C lf n (F 0) (F 3) (F 15) h := by
  intro F h; kernel_rfl
noncomputable def q185_26 (C : YC) (lf : Nat) (r : K2) (x0 x3 x15 : O) (h : HW) : Rs :=
 q185_25 C lf (fun x0 x15 h => q185_13 C lf r x0 x15 h) x0 x3 x15 h
theorem q185_26_eq (C : YC) (lf : Nat) (r : K2) (KN : KF) (KE : KX) : ∀ F h, evX fx185 C lf [1, 1, 1, 1, 1, 1, 1, 1, 1, 1, 1, 1, 1, 1, 1] F h KN (fun F h => r (F 10) (F 11) h) KE = q185_26 C lf r (F 0) (F 3) (F 15) h := cSeq (a := subX fx185 [1, 1, 1, 1, 1, 1, 1, 1, 1, 1, 1, 1, 1, 1, 1, 0]) (b := subX fx185 [1, 1, 1, 1, 1, 1, 1, 1, 1, 1, 1, 1, 1, 1, 1, 1]) (by kernel_rfl) (B := (fun F h => q185_13 C lf r (F 0) (F 15) h)) (q185_13_eq C lf r KN KE) (q185_25_eq C lf (fun x0 x15 h => q185_13 C lf r x0 x15 h) (fun F h => r (F 10) (F 11) h) KE)
noncomputable def q185_69 (C : YC) (lf : Nat) (n : K3) (r : K2) (x0 x3 x6 x15 : O) (h : HW) : Rs :=
 ob x3 fun a27 =>
 ob (bin Tryz.prog .and 3 a27 (.int .i64 1)) fun y28 =>
 ob (bin Tryz.prog .neq 3 y28 (.int .i64 0)) fun y29 =>
 bc (gd true (some y29) (ob x0 fun a30 =>
 some (.ret a30, h)) h) fun y31 h31 =>
 bc (gd true (some y29) (ob x6 fun a32 =>
 ob (ldN 5 a32 h31) fun y33 =>
 some (.ret y33, h31)) h31) fun y34 h34 =>
 bc (gd true (some y29) (ob x15 fun a35 =>
 ob (fa 1 a35) fun y36 =>
 some (.ret y36, h34)) h34) fun y37 h37 =>
 bc (gd true (some y29) (ob (ld1 y37 h37) fun y38 =>
 some (.ret y38, h37)) h37) fun y39 h39 =>
 bc (gd true (some y29) (bc (C (.fn 261) [y31, y34, y39, (.int .i64 4)] h39) fun y40 h40 =>
 some (.ret y40, h40)) h39) fun y41 h41 =>
 bc (gd true (some y29) (ob (unE .not y41) fun y42 =>
 some (.ret y42, h41)) h41) fun y43 h43 =>
 ob (ypk y29 y43 (.bool false)) fun y44 =>
 bc (gd false (some y44) (ob x3 fun a45 =>
 some (.ret a45, h43)) h43) fun y46 h46 =>
 bc (gd false (some y44) (ob (bin Tryz.prog .and 3 y46 (.int .i64 2)) fun y47 =>
 some (.ret y47, h46)) h46) fun y48 h48 =>
 bc (gd false (some y44) (ob (bin Tryz.prog .neq 3 y48 (.int .i64 0)) fun y49 =>
 some (.ret y49, h48)) h48) fun y50 h50 =>
 bc (gd false (some y44) (some (.ret y50, h50)) h50) fun y51 h51 =>
 bc (gd true (some y51) (ob x0 fun a52 =>
 some (.ret a52, h51)) h51) fun y53 h53 =>
 bc (gd true (some y51) (ob x6 fun a54 =>
 ob (ldN 5 a54 h53) fun y55 =>
 some (.ret y55, h53)) h53) fun y56 h56 =>
 bc (gd true (some y51) (ob x15 fun a57 =>
 ob (fa 1 a57) fun y58 =>
 some (.ret y58, h56)) h56) fun y59 h59 =>
 bc (gd true (some y51) (ob (ld1 y59 h59) fun y60 =>
 some (.ret y60, h59)) h59) fun y61 h61 =>
 bc (gd true (some y51) (bc (C (.fn 261) [y53, y56, y61, (.int .i64 2)] h61) fun y62 h62 =>
 some (.ret y62, h62)) h61) fun y63 h63 =>
 bc (gd true (some y51) (ob (unE .not y63) fun y64 =>
 some (.ret y64, h63)) h63) fun y65 h65 =>
 bc (gd false (some y44) (ob (ypk y51 y65 (.bool false)) fun y66 =>
 some (.ret y66, h65)) h65) fun y67 h67 =>
 ob (ypk y44 (.bool true) y67) fun y68 =>
 yIf y68
 (r (some (.int .i64 0)) (some (.int .i64 13)) h67)
 (n x0 x3 x15 h67)
theorem q185_69_eq (C : YC) (lf : Nat) (n : K3) (r : K2) (KE : KX) : ∀ F h, evX fx185 C lf [1, 1, 1, 1, 1, 1, 1, 1, 1, 1, 1, 1, 1, 1, 0] F h (fun F h => n (F 0) (F 3) (F 15) h) (fun F h => r (F 10) (F 11) h) KE = q185_69 C lf n r (F 0) (F 3) (F 6) (F 15) h := by
  intro F h; kernel_rfl
noncomputable def q185_70 (C : YC) (lf : Nat) (r : K2) (x0 x3 x6 x15 : O) (h : HW) : Rs :=
 q185_69 C lf (fun x0 x3 x15 h => q185_26 C lf r x0 x3 x15 h) r x0 x3 x6 x15 h
theorem q185_70_eq (C : YC) (lf : Nat) (r : K2) (KN : KF) (KE : KX) : ∀ F h, evX fx185 C lf [1, 1, 1, 1, 1, 1, 1, 1, 1, 1, 1, 1, 1, 1] F h KN (fun F h => r (F 10) (F 11) h) KE = q185_70 C lf r (F 0) (F 3) (F 6) (F 15) h := cSeq (a := subX fx185 [1, 1, 1, 1, 1, 1, 1, 1, 1, 1, 1, 1, 1, 1, 0]) (b := subX fx185 [1, 1, 1, 1, 1, 1, 1, 1, 1, 1, 1, 1, 1, 1, 1]) (by kernel_rfl) (B := (fun F h => q185_26 C lf r (F 0) (F 3) (F 15) h)) (q185_26_eq C lf r KN KE) (q185_69_eq C lf (fun x0 x3 x15 h => q185_26 C lf r x0 x3 x15 h) r KE)
noncomputable def q185_84 (C : YC) (lf : Nat) (n : K4) (r : K2) (x0 x3 x6 x12 x15 x17 : O) (h : HW) : Rs :=
 ob x17 fun a71 =>
 bc (gd true (some a71) (ob x3 fun a72 =>
 some (.ret a72, h)) h) fun y73 h73 =>
 bc (gd true (some a71) (ob (bin Tryz.prog .and 3 y73 (.int .i64 2)) fun y74 =>
 some (.ret y74, h73)) h73) fun y75 h75 =>
 bc (gd true (some a71) (ob (bin Tryz.prog .neq 3 y75 (.int .i64 0)) fun y76 =>
 some (.ret y76, h75)) h75) fun y77 h77 =>
 bc (gd true (some a71) (some (.ret y77, h77)) h77) fun y78 h78 =>
 bc (gd false (some y78) (ob x12 fun a79 =>
 some (.ret a79, h78)) h78) fun y80 h80 =>
 bc (gd true (some a71) (ob (ypk y78 (.bool true) y80) fun y81 =>
 some (.ret y81, h80)) h80) fun y82 h82 =>
 ob (ypk a71 y82 (.bool false)) fun y83 =>
 yIf y83
 (r (some (.int .i64 0)) (some (.int .i64 21)) h82)
 (n x0 x3 x6 x15 h82)
theorem q185_84_eq (C : YC) (lf : Nat) (n : K4) (r : K2) (KE : KX) : ∀ F h, evX fx185 C lf [1, 1, 1, 1, 1, 1, 1, 1, 1, 1, 1, 1, 1, 0] F h (fun F h => n (F 0) (F 3) (F 6) (F 15) h) (fun F h => r (F 10) (F 11) h) KE = q185_84 C lf n r (F 0) (F 3) (F 6) (F 12) (F 15) (F 17) h := by
  intro F h; kernel_rfl
noncomputable def q185_85 (C : YC) (lf : Nat) (r : K2) (x0 x3 x6 x12 x15 x17 : O) (h : HW) : Rs :=
 q185_84 C lf (fun x0 x3 x6 x15 h => q185_70 C lf r x0 x3 x6 x15 h) r x0 x3 x6 x12 x15 x17 h
theorem q185_85_eq (C : YC) (lf : Nat) (r : K2) (KN : KF) (KE : KX) : ∀ F h, evX fx185 C lf [1, 1, 1, 1, 1, 1, 1, 1, 1, 1, 1, 1, 1] F h KN (fun F h => r (F 10) (F 11) h) KE = q185_85 C lf r (F 0) (F 3) (F 6) (F 12) (F 15) (F 17) h := cSeq (a := subX fx185 [1, 1, 1, 1, 1, 1, 1, 1, 1, 1, 1, 1, 1, 0]) (b := subX fx185 [1, 1, 1, 1, 1, 1, 1, 1, 1, 1, 1, 1, 1, 1]) (by kernel_rfl) (B := (fun F h => q185_70 C lf r (F 0) (F 3) (F 6) (F 15) h)) (q185_70_eq C lf r KN KE) (q185_84_eq C lf (fun x0 x3 x6 x15 h => q185_70 C lf r x0 x3 x6 x15 h) r KE)
noncomputable def q185_94 (C : YC) (lf : Nat) (n : K6) (r : K2) (x0 x3 x6 x12 x15 x17 : O) (h : HW) : Rs :=
 ob x3 fun a86 =>
 ob (bin Tryz.prog .and 3 a86 (.int .i64 64)) fun y87 =>
 ob (bin Tryz.prog .neq 3 y87 (.int .i64 0)) fun y88 =>
 bc (gd true (some y88) (ob x17 fun a89 =>
 some (.ret a89, h)) h) fun y90 h90 =>
 bc (gd true (some y88) (ob (unE .not y90) fun y91 =>
 some (.ret y91, h90)) h90) fun y92 h92 =>
 ob (ypk y88 y92 (.bool false)) fun y93 =>
 yIf y93
 (r (some (.int .i64 0)) (some (.int .i64 20)) h92)
 (n x0 x3 x6 x12 x15 x17 h92)
theorem q185_94_eq (C : YC) (lf : Nat) (n : K6) (r : K2) (KE : KX) : ∀ F h, evX fx185 C lf [1, 1, 1, 1, 1, 1, 1, 1, 1, 1, 1, 1, 0] F h (fun F h => n (F 0) (F 3) (F 6) (F 12) (F 15) (F 17) h) (fun F h => r (F 10) (F 11) h) KE = q185_94 C lf n r (F 0) (F 3) (F 6) (F 12) (F 15) (F 17) h := by
  intro F h; kernel_rfl
noncomputable def q185_95 (C : YC) (lf : Nat) (r : K2) (x0 x3 x6 x12 x15 x17 : O) (h : HW) : Rs :=
 q185_94 C lf (fun x0 x3 x6 x12 x15 x17 h => q185_85 C lf r x0 x3 x6 x12 x15 x17 h) r x0 x3 x6 x12 x15 x17 h
theorem q185_95_eq (C : YC) (lf : Nat) (r : K2) (KN : KF) (KE : KX) : ∀ F h, evX fx185 C lf [1, 1, 1, 1, 1, 1, 1, 1, 1, 1, 1, 1] F h KN (fun F h => r (F 10) (F 11) h) KE = q185_95 C lf r (F 0) (F 3) (F 6) (F 12) (F 15) (F 17) h := cSeq (a := subX fx185 [1, 1, 1, 1, 1, 1, 1, 1, 1, 1, 1, 1, 0]) (b := subX fx185 [1, 1, 1, 1, 1, 1, 1, 1, 1, 1, 1, 1, 1]) (by kernel_rfl) (B := (fun F h => q185_85 C lf r (F 0) (F 3) (F 6) (F 12) (F 15) (F 17) h)) (q185_85_eq C lf r KN KE) (q185_94_eq C lf (fun x0 x3 x6 x12 x15 x17 h => q185_85 C lf r x0 x3 x6 x12 x15 x17 h) r KE)
noncomputable def q185_102 (C : YC) (lf : Nat) (n : K6) (x0 x3 x6 x12 x15 : O) (h : HW) : Rs :=
 ob x0 fun a96 =>
 ob x15 fun a97 =>
 ob (fa 1 a97) fun y98 =>
 ob (ld1 y98 h) fun y99 =>
 bc (C (.fn 260) [a96, y99] h) fun y100 h100 =>
 ob (bin Tryz.prog .eql 30 y100 (.int .i64 16384)) fun y101 =>
 n x0 x3 x6 x12 x15 (some y101) h100
theorem q185_102_eq (C : YC) (lf : Nat) (n : K6) (KR : KF) (KE : KX) : ∀ F h, evX fx185 C lf [1, 1, 1, 1, 1, 1, 1, 1, 1, 1, 1, 0] F h (fun F h => n (F 0) (F 3) (F 6) (F 12) (F 15) (F 17) h) KR KE = q185_102 C lf n (F 0) (F 3) (F 6) (F 12) (F 15) h := by
  intro F h; kernel_rfl
noncomputable def q185_103 (C : YC) (lf : Nat) (r : K2) (x0 x3 x6 x12 x15 : O) (h : HW) : Rs :=
 q185_102 C lf (fun x0 x3 x6 x12 x15 x17 h => q185_95 C lf r x0 x3 x6 x12 x15 x17 h) x0 x3 x6 x12 x15 h
theorem q185_103_eq (C : YC) (lf : Nat) (r : K2) (KN : KF) (KE : KX) : ∀ F h, evX fx185 C lf [1, 1, 1, 1, 1, 1, 1, 1, 1, 1, 1] F h KN (fun F h => r (F 10) (F 11) h) KE = q185_103 C lf r (F 0) (F 3) (F 6) (F 12) (F 15) h := cSeq (a := subX fx185 [1, 1, 1, 1, 1, 1, 1, 1, 1, 1, 1, 0]) (b := subX fx185 [1, 1, 1, 1, 1, 1, 1, 1, 1, 1, 1, 1]) (by kernel_rfl) (B := (fun F h => q185_95 C lf r (F 0) (F 3) (F 6) (F 12) (F 15) (F 17) h)) (q185_95_eq C lf r KN KE) (q185_102_eq C lf (fun x0 x3 x6 x12 x15 x17 h => q185_95 C lf r x0 x3 x6 x12 x15 x17 h) (fun F h => r (F 10) (F 11) h) KE)
noncomputable def q185_110 (C : YC) (lf : Nat) (n : K5) (r : K2) (x0 x3 x6 x12 x15 : O) (h : HW) : Rs :=
 ob x0 fun a104 =>
 ob x15 fun a105 =>
 ob (fa 1 a105) fun y106 =>
 ob (ld1 y106 h) fun y107 =>
 bc (C (.fn 260) [a104, y107] h) fun y108 h108 =>
 ob (bin Tryz.prog .eql 30 y108 (.int .i64 40960)) fun y109 =>
 yIf y109
 (r (some (.int .i64 0)) (some (.int .i64 40)) h108)
 (n x0 x3 x6 x12 x15 h108)
theorem q185_110_eq (C : YC) (lf : Nat) (n : K5) (r : K2) (KE : KX) : ∀ F h, evX fx185 C lf [1, 1, 1, 1, 1, 1, 1, 1, 1, 1, 0] F h (fun F h => n (F 0) (F 3) (F 6) (F 12) (F 15) h) (fun F h => r (F 10) (F 11) h) KE = q185_110 C lf n r (F 0) (F 3) (F 6) (F 12) (F 15) h := by
  intro F h; kernel_rfl
noncomputable def q185_111 (C : YC) (lf : Nat) (r : K2) (x0 x3 x6 x12 x15 : O) (h : HW) : Rs :=
 q185_110 C lf (fun x0 x3 x6 x12 x15 h => q185_103 C lf r x0 x3 x6 x12 x15 h) r x0 x3 x6 x12 x15 h
theorem q185_111_eq (C : YC) (lf : Nat) (r : K2) (KN : KF) (KE : KX) : ∀ F h, evX fx185 C lf [1, 1, 1, 1, 1, 1, 1, 1, 1, 1] F h KN (fun F h => r (F 10) (F 11) h) KE = q185_111 C lf r (F 0) (F 3) (F 6) (F 12) (F 15) h := cSeq (a := subX fx185 [1, 1, 1, 1, 1, 1, 1, 1, 1, 1, 0]) (b := subX fx185 [1, 1, 1, 1, 1, 1, 1, 1, 1, 1, 1]) (by kernel_rfl) (B := (fun F h => q185_103 C lf r (F 0) (F 3) (F 6) (F 12) (F 15) h)) (q185_103_eq C lf r KN KE) (q185_110_eq C lf (fun x0 x3 x6 x12 x15 h => q185_103 C lf r x0 x3 x6 x12 x15 h) r KE)
noncomputable def q185_116 (C : YC) (lf : Nat) (n : K5) (r : K2) (x0 x3 x6 x12 x13 x15 : O) (h : HW) : Rs :=
 ob x12 fun a112 =>
 bc (gd true (some a112) (ob x13 fun a113 =>
 some (.ret a113, h)) h) fun y114 h114 =>
 ob (ypk a112 y114 (.bool false)) fun y115 =>
 yIf y115
 (r (some (.int .i64 0)) (some (.int .i64 17)) h114)
 (n x0 x3 x6 x12 x15 h114)
theorem q185_116_eq (C : YC) (lf : Nat) (n : K5) (r : K2) (KE : KX) : ∀ F h, evX fx185 C lf [1, 1, 1, 1, 1, 1, 1, 1, 1, 0] F h (fun F h => n (F 0) (F 3) (F 6) (F 12) (F 15) h) (fun F h => r (F 10) (F 11) h) KE = q185_116 C lf n r (F 0) (F 3) (F 6) (F 12) (F 13) (F 15) h := by
  intro F h; kernel_rfl
noncomputable def q185_117 (C : YC) (lf : Nat) (r : K2) (x0 x3 x6 x12 x13 x15 : O) (h : HW) : Rs :=
 q185_116 C lf (fun x0 x3 x6 x12 x15 h => q185_111 C lf r x0 x3 x6 x12 x15 h) r x0 x3 x6 x12 x13 x15 h
theorem q185_117_eq (C : YC) (lf : Nat) (r : K2) (KN : KF) (KE : KX) : ∀ F h, evX fx185 C lf [1, 1, 1, 1, 1, 1, 1, 1, 1] F h KN (fun F h => r (F 10) (F 11) h) KE = q185_117 C lf r (F 0) (F 3) (F 6) (F 12) (F 13) (F 15) h := cSeq (a := subX fx185 [1, 1, 1, 1, 1, 1, 1, 1, 1, 0]) (b := subX fx185 [1, 1, 1, 1, 1, 1, 1, 1, 1, 1]) (by kernel_rfl) (B := (fun F h => q185_111 C lf r (F 0) (F 3) (F 6) (F 12) (F 15) h)) (q185_111_eq C lf r KN KE) (q185_116_eq C lf (fun x0 x3 x6 x12 x15 h => q185_111 C lf r x0 x3 x6 x12 x15 h) r KE)
noncomputable def q185_133 (C : YC) (lf : Nat) (n : K6) (r : K2) (x0 x3 x6 x12 x13 x15 : O) (h : HW) : Rs :=
 ob x15 fun a118 =>
 ob (fa 3 a118) fun y119 =>
 ob (ld1 y119 h) fun y120 =>
 bc (gd true (some y120) (ob x0 fun a121 =>
 some (.ret a121, h)) h) fun y122 h122 =>
 bc (gd true (some y120) (ob x15 fun a123 =>
 ob (fa 1 a123) fun y124 =>
 some (.ret y124, h122)) h122) fun y125 h125 =>
 bc (gd true (some y120) (ob (ld1 y125 h125) fun y126 =>
 some (.ret y126, h125)) h125) fun y127 h127 =>
 bc (gd true (some y120) (bc (C (.fn 260) [y122, y127] h127) fun y128 h128 =>
 some (.ret y128, h128)) h127) fun y129 h129 =>
 bc (gd true (some y120) (ob (bin Tryz.prog .neq 30 y129 (.int .i64 16384)) fun y130 =>
 some (.ret y130, h129)) h129) fun y131 h131 =>
 ob (ypk y120 y131 (.bool false)) fun y132 =>
 yIf y132
 (r (some (.int .i64 0)) (some (.int .i64 20)) h131)
 (n x0 x3 x6 x12 x13 x15 h131)
theorem q185_133_eq (C : YC) (lf : Nat) (n : K6) (r : K2) (KE : KX) : ∀ F h, evX fx185 C lf [1, 1, 1, 1, 1, 1, 1, 1, 0] F h (fun F h => n (F 0) (F 3) (F 6) (F 12) (F 13) (F 15) h) (fun F h => r (F 10) (F 11) h) KE = q185_133 C lf n r (F 0) (F 3) (F 6) (F 12) (F 13) (F 15) h := by
  intro F h; kernel_rfl
noncomputable def q185_134 (C : YC) (lf : Nat) (r : K2) (x0 x3 x6 x12 x13 x15 : O) (h : HW) : Rs :=
 q185_133 C lf (fun x0 x3 x6 x12 x13 x15 h => q185_117 C lf r x0 x3 x6 x12 x13 x15 h) r x0 x3 x6 x12 x13 x15 h
theorem q185_134_eq (C : YC) (lf : Nat) (r : K2) (KN : KF) (KE : KX) : ∀ F h, evX fx185 C lf [1, 1, 1, 1, 1, 1, 1, 1] F h KN (fun F h => r (F 10) (F 11) h) KE = q185_134 C lf r (F 0) (F 3) (F 6) (F 12) (F 13) (F 15) h := cSeq (a := subX fx185 [1, 1, 1, 1, 1, 1, 1, 1, 0]) (b := subX fx185 [1, 1, 1, 1, 1, 1, 1, 1, 1]) (by kernel_rfl) (B := (fun F h => q185_117 C lf r (F 0) (F 3) (F 6) (F 12) (F 13) (F 15) h)) (q185_117_eq C lf r KN KE) (q185_133_eq C lf (fun x0 x3 x6 x12 x13 x15 h => q185_117 C lf r x0 x3 x6 x12 x13 x15 h) r KE)
noncomputable def q185_139 (C : YC) (lf : Nat) (n : K6) (r : K2) (x0 x3 x6 x12 x13 x15 : O) (h : HW) : Rs :=
 ob x15 fun a135 =>
 ob (fa 1 a135) fun y136 =>
 ob (ld1 y136 h) fun y137 =>
 ob (bin Tryz.prog .eql 3 y137 (.int .i64 0)) fun y138 =>
 yIf y138
 (r (some (.int .i64 0)) (some (.int .i64 2)) h)
 (n x0 x3 x6 x12 x13 x15 h)
theorem q185_139_eq (C : YC) (lf : Nat) (n : K6) (r : K2) (KE : KX) : ∀ F h, evX fx185 C lf [1, 1, 1, 1, 1, 1, 1, 0] F h (fun F h => n (F 0) (F 3) (F 6) (F 12) (F 13) (F 15) h) (fun F h => r (F 10) (F 11) h) KE = q185_139 C lf n r (F 0) (F 3) (F 6) (F 12) (F 13) (F 15) h := by
  intro F h; kernel_rfl
noncomputable def q185_140 (C : YC) (lf : Nat) (r : K2) (x0 x3 x6 x12 x13 x15 : O) (h : HW) : Rs :=
 q185_139 C lf (fun x0 x3 x6 x12 x13 x15 h => q185_134 C lf r x0 x3 x6 x12 x13 x15 h) r x0 x3 x6 x12 x13 x15 h
theorem q185_140_eq (C : YC) (lf : Nat) (r : K2) (KN : KF) (KE : KX) : ∀ F h, evX fx185 C lf [1, 1, 1, 1, 1, 1, 1] F h KN (fun F h => r (F 10) (F 11) h) KE = q185_140 C lf r (F 0) (F 3) (F 6) (F 12) (F 13) (F 15) h := cSeq (a := subX fx185 [1, 1, 1, 1, 1, 1, 1, 0]) (b := subX fx185 [1, 1, 1, 1, 1, 1, 1, 1]) (by kernel_rfl) (B := (fun F h => q185_134 C lf r (F 0) (F 3) (F 6) (F 12) (F 13) (F 15) h)) (q185_134_eq C lf r KN KE) (q185_139_eq C lf (fun x0 x3 x6 x12 x13 x15 h => q185_134 C lf r x0 x3 x6 x12 x13 x15 h) r KE)
noncomputable def q185_157 (C : YC) (lf : Nat) (n : K6) (r : K2) (x0 x3 x4 x6 x12 x13 x15 : O) (h : HW) : Rs :=
 ob x15 fun a141 =>
 ob (fa 1 a141) fun y142 =>
 ob (ld1 y142 h) fun y143 =>
 ob (bin Tryz.prog .eql 3 y143 (.int .i64 0)) fun y144 =>
 bc (gd true (some y144) (ob x12 fun a145 =>
 some (.ret a145, h)) h) fun y146 h146 =>
 ob (ypk y144 y146 (.bool false)) fun y147 =>
 yIf y147
 (ob x0 fun a148 =>
 ob x6 fun a149 =>
 ob (ldN 5 a149 h146) fun y150 =>
 ob x15 fun a151 =>
 ob (ldN 5 a151 h146) fun y152 =>
 ob x4 fun a153 =>
 bc (C (.fn 259) [a148, y150, y152, a153] h146) fun y154 h154 =>
 ob (ext 0 y154) fun y155 =>
 ob (ext 1 y154) fun y156 =>
 r (some y155) (some y156) h154)
 (n x0 x3 x6 x12 x13 x15 h146)
theorem q185_157_eq (C : YC) (lf : Nat) (n : K6) (r : K2) (KE : KX) : ∀ F h, evX fx185 C lf [1, 1, 1, 1, 1, 1, 0] F h (fun F h => n (F 0) (F 3) (F 6) (F 12) (F 13) (F 15) h) (fun F h => r (F 10) (F 11) h) KE = q185_157 C lf n r (F 0) (F 3) (F 4) (F 6) (F 12) (F 13) (F 15) h := by
  intro F h; kernel_rfl
noncomputable def q185_158 (C : YC) (lf : Nat) (r : K2) (x0 x3 x4 x6 x12 x13 x15 : O) (h : HW) : Rs :=
 q185_157 C lf (fun x0 x3 x6 x12 x13 x15 h => q185_140 C lf r x0 x3 x6 x12 x13 x15 h) r x0 x3 x4 x6 x12 x13 x15 h
theorem q185_158_eq (C : YC) (lf : Nat) (r : K2) (KN : KF) (KE : KX) : ∀ F h, evX fx185 C lf [1, 1, 1, 1, 1, 1] F h KN (fun F h => r (F 10) (F 11) h) KE = q185_158 C lf r (F 0) (F 3) (F 4) (F 6) (F 12) (F 13) (F 15) h := cSeq (a := subX fx185 [1, 1, 1, 1, 1, 1, 0]) (b := subX fx185 [1, 1, 1, 1, 1, 1, 1]) (by kernel_rfl) (B := (fun F h => q185_140 C lf r (F 0) (F 3) (F 6) (F 12) (F 13) (F 15) h)) (q185_140_eq C lf r KN KE) (q185_157_eq C lf (fun x0 x3 x6 x12 x13 x15 h => q185_140 C lf r x0 x3 x6 x12 x13 x15 h) r KE)
noncomputable def q185_162 (C : YC) (lf : Nat) (n : K7) (r : K2) (x0 x3 x4 x6 x12 x13 x15 x16 : O) (h : HW) : Rs :=
 ob x16 fun a159 =>
 ob (bin Tryz.prog .neq 3 a159 (.int .i64 0)) fun y160 =>
 yIf y160
 (ob x16 fun a161 =>
 r (some (.int .i64 0)) (some a161) h)
 (n x0 x3 x4 x6 x12 x13 x15 h)
theorem q185_162_eq (C : YC) (lf : Nat) (n : K7) (r : K2) (KE : KX) : ∀ F h, evX fx185 C lf [1, 1, 1, 1, 1, 0] F h (fun F h => n (F 0) (F 3) (F 4) (F 6) (F 12) (F 13) (F 15) h) (fun F h => r (F 10) (F 11) h) KE = q185_162 C lf n r (F 0) (F 3) (F 4) (F 6) (F 12) (F 13) (F 15) (F 16) h := by
  intro F h; kernel_rfl
noncomputable def q185_163 (C : YC) (lf : Nat) (r : K2) (x0 x3 x4 x6 x12 x13 x15 x16 : O) (h : HW) : Rs :=
 q185_162 C lf (fun x0 x3 x4 x6 x12 x13 x15 h => q185_158 C lf r x0 x3 x4 x6 x12 x13 x15 h) r x0 x3 x4 x6 x12 x13 x15 x16 h
theorem q185_163_eq (C : YC) (lf : Nat) (r : K2) (KN : KF) (KE : KX) : ∀ F h, evX fx185 C lf [1, 1, 1, 1, 1] F h KN (fun F h => r (F 10) (F 11) h) KE = q185_163 C lf r (F 0) (F 3) (F 4) (F 6) (F 12) (F 13) (F 15) (F 16) h := cSeq (a := subX fx185 [1, 1, 1, 1, 1, 0]) (b := subX fx185 [1, 1, 1, 1, 1, 1]) (by kernel_rfl) (B := (fun F h => q185_158 C lf r (F 0) (F 3) (F 4) (F 6) (F 12) (F 13) (F 15) h)) (q185_158_eq C lf r KN KE) (q185_162_eq C lf (fun x0 x3 x4 x6 x12 x13 x15 h => q185_158 C lf r x0 x3 x4 x6 x12 x13 x15 h) r KE)
noncomputable def q185_174 (C : YC) (lf : Nat) (n : K8) (x0 x2 x3 x4 x6 x12 x13 x14 : O) (h : HW) : Rs :=
 ob x0 fun a164 =>
 ob x6 fun a165 =>
 ob (ldN 5 a165 h) fun y166 =>
 ob x2 fun a167 =>
 ob x14 fun a168 =>
 bc (C (.fn 258) [a164, y166, a167, a168, (.bool true)] h) fun y169 h169 =>
 ob (ext 0 y169) fun y170 =>
 ob (ext 1 y169) fun y171 =>
 b2 (yAl Tryz.prog 351 h169) fun y172 h172 =>
 ob (st 5 y172 y170 h172) fun h173 =>
 n x0 x3 x4 x6 x12 x13 (some y172) (some y171) h173
theorem q185_174_eq (C : YC) (lf : Nat) (n : K8) (KR : KF) (KE : KX) : ∀ F h, evX fx185 C lf [1, 1, 1, 1, 0] F h (fun F h => n (F 0) (F 3) (F 4) (F 6) (F 12) (F 13) (F 15) (F 16) h) KR KE = q185_174 C lf n (F 0) (F 2) (F 3) (F 4) (F 6) (F 12) (F 13) (F 14) h := by
  intro F h; kernel_rfl
noncomputable def q185_175 (C : YC) (lf : Nat) (r : K2) (x0 x2 x3 x4 x6 x12 x13 x14 : O) (h : HW) : Rs :=
 q185_174 C lf (fun x0 x3 x4 x6 x12 x13 x15 x16 h => q185_163 C lf r x0 x3 x4 x6 x12 x13 x15 x16 h) x0 x2 x3 x4 x6 x12 x13 x14 h
theorem q185_175_eq (C : YC) (lf : Nat) (r : K2) (KN : KF) (KE : KX) : ∀ F h, evX fx185 C lf [1, 1, 1, 1] F h KN (fun F h => r (F 10) (F 11) h) KE = q185_175 C lf r (F 0) (F 2) (F 3) (F 4) (F 6) (F 12) (F 13) (F 14) h := cSeq (a := subX fx185 [1, 1, 1, 1, 0]) (b := subX fx185 [1, 1, 1, 1, 1]) (by kernel_rfl) (B := (fun F h => q185_163 C lf r (F 0) (F 3) (F 4) (F 6) (F 12) (F 13) (F 15) (F 16) h)) (q185_163_eq C lf r KN KE) (q185_174_eq C lf (fun x0 x3 x4 x6 x12 x13 x15 x16 h => q185_163 C lf r x0 x3 x4 x6 x12 x13 x15 x16 h) (fun F h => r (F 10) (F 11) h) KE)
noncomputable def q185_189 (C : YC) (lf : Nat) (n : K8) (x0 x2 x3 x4 x6 x12 x13 : O) (h : HW) : Rs :=
 ob x3 fun a176 =>
 ob (bin Tryz.prog .and 3 a176 (.int .i64 128)) fun y177 =>
 ob (bin Tryz.prog .eql 3 y177 (.int .i64 0)) fun y178 =>
 bc (gd true (some y178) (ob x12 fun a179 =>
 some (.ret a179, h)) h) fun y180 h180 =>
 bc (gd true (some y178) (some (.ret y180, h180)) h180) fun y181 h181 =>
 bc (gd true (some y181) (ob x13 fun a182 =>
 some (.ret a182, h181)) h181) fun y183 h183 =>
 bc (gd true (some y178) (ob (ypk y181 y183 (.bool false)) fun y184 =>
 some (.ret y184, h183)) h183) fun y185 h185 =>
 bc (gd true (some y178) (ob (unE .not y185) fun y186 =>
 some (.ret y186, h185)) h185) fun y187 h187 =>
 ob (ypk y178 y187 (.bool false)) fun y188 =>
 n x0 x2 x3 x4 x6 x12 x13 (some y188) h187
theorem q185_189_eq (C : YC) (lf : Nat) (n : K8) (KR : KF) (KE : KX) : ∀ F h, evX fx185 C lf [1, 1, 1, 0] F h (fun F h => n (F 0) (F 2) (F 3) (F 4) (F 6) (F 12) (F 13) (F 14) h) KR KE = q185_189 C lf n (F 0) (F 2) (F 3) (F 4) (F 6) (F 12) (F 13) h := by
  intro F h; kernel_rfl
noncomputable def q185_190 (C : YC) (lf : Nat) (r : K2) (x0 x2 x3 x4 x6 x12 x13 : O) (h : HW) : Rs :=
 q185_189 C lf (fun x0 x2 x3 x4 x6 x12 x13 x14 h => q185_175 C lf r x0 x2 x3 x4 x6 x12 x13 x14 h) x0 x2 x3 x4 x6 x12 x13 h
theorem q185_190_eq (C : YC) (lf : Nat) (r : K2) (KN : KF) (KE : KX) : ∀ F h, evX fx185 C lf [1, 1, 1] F h KN (fun F h => r (F 10) (F 11) h) KE = q185_190 C lf r (F 0) (F 2) (F 3) (F 4) (F 6) (F 12) (F 13) h := cSeq (a := subX fx185 [1, 1, 1, 0]) (b := subX fx185 [1, 1, 1, 1]) (by kernel_rfl) (B := (fun F h => q185_175 C lf r (F 0) (F 2) (F 3) (F 4) (F 6) (F 12) (F 13) (F 14) h)) (q185_175_eq C lf r KN KE) (q185_189_eq C lf (fun x0 x2 x3 x4 x6 x12 x13 x14 h => q185_175 C lf r x0 x2 x3 x4 x6 x12 x13 x14 h) (fun F h => r (F 10) (F 11) h) KE)
noncomputable def q185_197 (C : YC) (lf : Nat) (n : K7) (x0 x2 x3 x4 x6 : O) (h : HW) : Rs :=
 ob x3 fun a191 =>
 ob (bin Tryz.prog .and 3 a191 (.int .i64 8)) fun y192 =>
 ob (bin Tryz.prog .neq 3 y192 (.int .i64 0)) fun y193 =>
 ob x3 fun a194 =>
 ob (bin Tryz.prog .and 3 a194 (.int .i64 16)) fun y195 =>
 ob (bin Tryz.prog .neq 3 y195 (.int .i64 0)) fun y196 =>
 n x0 x2 x3 x4 x6 (some y193) (some y196) h
theorem q185_197_eq (C : YC) (lf : Nat) (n : K7) (KR : KF) (KE : KX) : ∀ F h, evX fx185 C lf [1, 1, 0] F h (fun F h => n (F 0) (F 2) (F 3) (F 4) (F 6) (F 12) (F 13) h) KR KE = q185_197 C lf n (F 0) (F 2) (F 3) (F 4) (F 6) h := by
  intro F h; kernel_rfl
noncomputable def q185_198 (C : YC) (lf : Nat) (r : K2) (x0 x2 x3 x4 x6 : O) (h : HW) : Rs :=
 q185_197 C lf (fun x0 x2 x3 x4 x6 x12 x13 h => q185_190 C lf r x0 x2 x3 x4 x6 x12 x13 h) x0 x2 x3 x4 x6 h
theorem q185_198_eq (C : YC) (lf : Nat) (r : K2) (KN : KF) (KE : KX) : ∀ F h, evX fx185 C lf [1, 1] F h KN (fun F h => r (F 10) (F 11) h) KE = q185_198 C lf r (F 0) (F 2) (F 3) (F 4) (F 6) h := cSeq (a := subX fx185 [1, 1, 0]) (b := subX fx185 [1, 1, 1]) (by kernel_rfl) (B := (fun F h => q185_190 C lf r (F 0) (F 2) (F 3) (F 4) (F 6) (F 12) (F 13) h)) (q185_190_eq C lf r KN KE) (q185_197_eq C lf (fun x0 x2 x3 x4 x6 x12 x13 h => q185_190 C lf r x0 x2 x3 x4 x6 x12 x13 h) (fun F h => r (F 10) (F 11) h) KE)
noncomputable def q185_202 (C : YC) (lf : Nat) (n : K5) (r : K2) (x0 x2 x3 x4 x6 : O) (h : HW) : Rs :=
 ob x3 fun a199 =>
 bc (C (.fn 257) [a199] h) fun y200 h200 =>
 ob (unE .not y200) fun y201 =>
 yIf y201
 (r (some (.int .i64 0)) (some (.int .i64 22)) h200)
 (n x0 x2 x3 x4 x6 h200)
theorem q185_202_eq (C : YC) (lf : Nat) (n : K5) (r : K2) (KE : KX) : ∀ F h, evX fx185 C lf [1, 0] F h (fun F h => n (F 0) (F 2) (F 3) (F 4) (F 6) h) (fun F h => r (F 10) (F 11) h) KE = q185_202 C lf n r (F 0) (F 2) (F 3) (F 4) (F 6) h := by
  intro F h; kernel_rfl
noncomputable def q185_203 (C : YC) (lf : Nat) (r : K2) (x0 x2 x3 x4 x6 : O) (h : HW) : Rs :=
 q185_202 C lf (fun x0 x2 x3 x4 x6 h => q185_198 C lf r x0 x2 x3 x4 x6 h) r x0 x2 x3 x4 x6 h
theorem q185_203_eq (C : YC) (lf : Nat) (r : K2) (KN : KF) (KE : KX) : ∀ F h, evX fx185 C lf [1] F h KN (fun F h => r (F 10) (F 11) h) KE = q185_203 C lf r (F 0) (F 2) (F 3) (F 4) (F 6) h := cSeq (a := subX fx185 [1, 0]) (b := subX fx185 [1, 1]) (by kernel_rfl) (B := (fun F h => q185_198 C lf r (F 0) (F 2) (F 3) (F 4) (F 6) h)) (q185_198_eq C lf r KN KE) (q185_202_eq C lf (fun x0 x2 x3 x4 x6 h => q185_198 C lf r x0 x2 x3 x4 x6 h) r KE)
noncomputable def q185_206 (C : YC) (lf : Nat) (n : K5) (x0 x1 x2 x3 x4 : O) (h : HW) : Rs :=
 ob x1 fun a204 =>
 b2 (ybx 46 a204 h) fun y205 h205 =>
 n x0 x2 x3 x4 (some y205) h205
theorem q185_206_eq (C : YC) (lf : Nat) (n : K5) (KR : KF) (KE : KX) : ∀ F h, evX fx185 C lf [0] F h (fun F h => n (F 0) (F 2) (F 3) (F 4) (F 6) h) KR KE = q185_206 C lf n (F 0) (F 1) (F 2) (F 3) (F 4) h := by
  intro F h; kernel_rfl
noncomputable def q185_207 (C : YC) (lf : Nat) (r : K2) (x0 x1 x2 x3 x4 : O) (h : HW) : Rs :=
 q185_206 C lf (fun x0 x2 x3 x4 x6 h => q185_203 C lf r x0 x2 x3 x4 x6 h) x0 x1 x2 x3 x4 h
theorem q185_207_eq (C : YC) (lf : Nat) (r : K2) (KN : KF) (KE : KX) : ∀ F h, evX fx185 C lf [] F h KN (fun F h => r (F 10) (F 11) h) KE = q185_207 C lf r (F 0) (F 1) (F 2) (F 3) (F 4) h := cSeq (a := subX fx185 [0]) (b := subX fx185 [1]) (by kernel_rfl) (B := (fun F h => q185_203 C lf r (F 0) (F 2) (F 3) (F 4) (F 6) h)) (q185_203_eq C lf r KN KE) (q185_206_eq C lf (fun x0 x2 x3 x4 x6 h => q185_203 C lf r x0 x2 x3 x4 x6 h) (fun F h => r (F 10) (F 11) h) KE)
noncomputable def fs185 (C : YC) (lf : Nat) (a0 a1 a2 a3 a4 : SV) (h : HW) : Rs := q185_207 C lf ff185 (some a0) (some a1) (some a2) (some a3) (some a4) h
theorem fs185_eq (C : YC) (lf : Nat) (a0 a1 a2 a3 a4 : SV) (h : HW) : yFn Tryz.prog fx185 C lf [a0, a1, a2, a3, a4] h = fs185 C lf a0 a1 a2 a3 a4 h := fnX (K := (fun F h => ff185 (F 10) (F 11) h)) (by kernel_rfl) (((q185_207_eq C lf ff185 (fun F h => ff185 (F 10) (F 11) h) (fun _ _ _ => none)) _ h).trans (by kernel_rfl))
noncomputable def fy185 : YX Tryz.prog := Y5 fx185 fs185 fs185_eq (by kernel_rfl)

noncomputable def fx186 : XF Tryz.prog := ⟨186, Tryz.f186, fun _ => .text, Tryz.func186, by kernel_rfl, by kernel_rfl, by kernel_rfl, by kernel_rfl⟩
noncomputable def ff186 (x8 x9 : O) (h : HW) : Rs :=
 ob x8 fun a0 =>
 ob x9 fun a1 =>
 some (.ret (.tup [a0, a1]), h)
noncomputable def q186_16 (C : YC) (lf : Nat) (r : K2) (x0 x1 x2 x3 : O) (h : HW) : Rs :=
 ob x0 fun a2 =>
 ob x1 fun a3 =>
 bc (C (.fn 264) [a2, a3] h) fun y4 h4 =>
 ob (bin Tryz.prog .neq 23 y4 (.int .i64 0)) fun y5 =>
 yIf y5
 (r (some (.int .i64 0)) (some y4) h4)
 (ob x0 fun a6 =>
 ob (semNil a6) fun y7 =>
 ob (fa 0 y7) fun y8 =>
 ob (ld1 y8 h4) fun y9 =>
 ob x1 fun a10 =>
 ob x2 fun a11 =>
 ob x3 fun a12 =>
 bc (C (.fn 154) [y9, a10, a11, a12] h4) fun y13 h13 =>
 ob (ext 0 y13) fun y14 =>
 ob (ext 1 y13) fun y15 =>
 r (some y14) (some y15) h13)
theorem q186_16_eq (C : YC) (lf : Nat) (r : K2) (KN : KF) (KE : KX) : ∀ F h, evX fx186 C lf [] F h KN (fun F h => r (F 8) (F 9) h) KE = q186_16 C lf r (F 0) (F 1) (F 2) (F 3) h := by
  intro F h; kernel_rfl
noncomputable def fs186 (C : YC) (lf : Nat) (a0 a1 a2 a3 : SV) (h : HW) : Rs := q186_16 C lf ff186 (some a0) (some a1) (some a2) (some a3) h
theorem fs186_eq (C : YC) (lf : Nat) (a0 a1 a2 a3 : SV) (h : HW) : yFn Tryz.prog fx186 C lf [a0, a1, a2, a3] h = fs186 C lf a0 a1 a2 a3 h := fnX (K := (fun F h => ff186 (F 8) (F 9) h)) (by kernel_rfl) (((q186_16_eq C lf ff186 (fun F h => ff186 (F 8) (F 9) h) (fun _ _ _ => none)) _ h).trans (by kernel_rfl))
noncomputable def fy186 : YX Tryz.prog := Y4 fx186 fs186 fs186_eq (by kernel_rfl)

noncomputable def fx187 : XF Tryz.prog := ⟨187, Tryz.f187, fun _ => .text, Tryz.func187, by kernel_rfl, by kernel_rfl, by kernel_rfl, by kernel_rfl⟩
noncomputable def ff187 (x8 x9 : O) (h : HW) : Rs :=
 ob x8 fun a0 =>
 ob x9 fun a1 =>
 some (.ret (.tup [a0, a1]), h)
noncomputable def q187_16 (C : YC) (lf : Nat) (r : K2) (x0 x1 x2 x3 : O) (h : HW) : Rs :=
 ob x0 fun a2 =>
 ob x1 fun a3 =>
 bc (C (.fn 265) [a2, a3] h) fun y4 h4 =>
 ob (bin Tryz.prog .neq 3 y4 (.int .i64 0)) fun y5 =>
 yIf y5
 (r (some (.int .i64 0)) (some y4) h4)
 (ob x0 fun a6 =>
 ob (semNil a6) fun y7 =>
 ob (fa 0 y7) fun y8 =>
 ob (ld1 y8 h4) fun y9 =>
 ob x1 fun a10 =>
 ob x2 fun a11 =>
 ob x3 fun a12 =>
 bc (C (.fn 266) [y9, a10, a11, a12] h4) fun y13 h13 =>
 ob (ext 0 y13) fun y14 =>
 ob (ext 1 y13) fun y15 =>
 r (some y14) (some y15) h13)
theorem q187_16_eq (C : YC) (lf : Nat) (r : K2) (KN : KF) (KE : KX) : ∀ F h, evX fx187 C lf [] F h KN (fun F h => r (F 8) (F 9) h) KE = q187_16 C lf r (F 0) (F 1) (F 2) (F 3) h := by
  intro F h; kernel_rfl
noncomputable def fs187 (C : YC) (lf : Nat) (a0 a1 a2 a3 : SV) (h : HW) : Rs := q187_16 C lf ff187 (some a0) (some a1) (some a2) (some a3) h
theorem fs187_eq (C : YC) (lf : Nat) (a0 a1 a2 a3 : SV) (h : HW) : yFn Tryz.prog fx187 C lf [a0, a1, a2, a3] h = fs187 C lf a0 a1 a2 a3 h := fnX (K := (fun F h => ff187 (F 8) (F 9) h)) (by kernel_rfl) (((q187_16_eq C lf ff187 (fun F h => ff187 (F 8) (F 9) h) (fun _ _ _ => none)) _ h).trans (by kernel_rfl))
noncomputable def fy187 : YX Tryz.prog := Y4 fx187 fs187 fs187_eq (by kernel_rfl)

noncomputable def fx188 : XF Tryz.prog := ⟨188, Tryz.f188, fun _ => .text, Tryz.func188, by kernel_rfl, by kernel_rfl, by kernel_rfl, by kernel_rfl⟩
noncomputable def ff188 (x4 : O) (h : HW) : Rs :=
 ob x4 fun a0 =>
 some (.ret a0, h)
noncomputable def q188_7 (C : YC) (lf : Nat) (r : K1) (x0 x1 : O) (h : HW) : Rs :=
 ob x0 fun a1 =>
 ob (semNil a1) fun y2 =>
 ob (fa 0 y2) fun y3 =>
 ob (ld1 y3 h) fun y4 =>
 ob x1 fun a5 =>
 bc (C (.fn 267) [y4, a5] h) fun y6 h6 =>
 r (some y6) h6
theorem q188_7_eq (C : YC) (lf : Nat) (r : K1) (KN : KF) (KE : KX) : ∀ F h, evX fx188 C lf [] F h KN (fun F h => r (F 4) h) KE = q188_7 C lf r (F 0) (F 1) h := by
  intro F h; kernel_rfl
noncomputable def fs188 (C : YC) (lf : Nat) (a0 a1 : SV) (h : HW) : Rs := q188_7 C lf ff188 (some a0) (some a1) h
theorem fs188_eq (C : YC) (lf : Nat) (a0 a1 : SV) (h : HW) : yFn Tryz.prog fx188 C lf [a0, a1] h = fs188 C lf a0 a1 h := fnX (K := (fun F h => ff188 (F 4) h)) (by kernel_rfl) (((q188_7_eq C lf ff188 (fun F h => ff188 (F 4) h) (fun _ _ _ => none)) _ h).trans (by kernel_rfl))
noncomputable def fy188 : YX Tryz.prog := Y2 fx188 fs188 fs188_eq (by kernel_rfl)

noncomputable def fx189 : XF Tryz.prog := ⟨189, Tryz.f189, fun _ => .text, Tryz.func189, by kernel_rfl, by kernel_rfl, by kernel_rfl, by kernel_rfl⟩
noncomputable def ff189 (x4 x5 : O) (h : HW) : Rs :=
 ob x4 fun a0 =>
 ob x5 fun a1 =>
 some (.ret (.tup [a0, a1]), h)
noncomputable def q189_12 (C : YC) (lf : Nat) (r : K2) (x0 x3 : O) (h : HW) : Rs :=
 ob x0 fun a2 =>
 ob x3 fun a3 =>
 ob (fa 4 a3) fun y4 =>
 ob (ld1 y4 h) fun y5 =>
 bc (C (.fn 269) [a2, y5] h) fun y6 h6 =>
 ob x0 fun a7 =>
 ob x3 fun a8 =>
 ob (ldN 5 a8 h6) fun y9 =>
 ob (semBuild Tryz.prog 359 [0, 1] [a7, y9]) fun y10 =>
 b2 (ybx 359 y10 h6) fun y11 h11 =>
 r (some y11) (some (.int .i64 0)) h11
theorem q189_12_eq (C : YC) (lf : Nat) (r : K2) (KN : KF) (KE : KX) : ∀ F h, evX fx189 C lf [1, 1, 1, 1] F h KN (fun F h => r (F 4) (F 5) h) KE = q189_12 C lf r (F 0) (F 3) h := by
  intro F h; kernel_rfl
noncomputable def q189_20 (C : YC) (lf : Nat) (n : K2) (x0 x3 : O) (h : HW) : Rs :=
 ob x3 fun a13 =>
 ob (fa 4 a13) fun y14 =>
 ob (ld1 y14 h) fun y15 =>
 ob (bin Tryz.prog .eql 3 y15 (.int .i64 0)) fun y16 =>
 yIf y16
 (ob x3 fun a17 =>
 ob (fa 4 a17) fun y18 =>
 ob (st 1 y18 (.int .i64 1) h) fun h19 =>
 n x0 x3 h19)
 (n x0 x3 h)
theorem q189_20_eq (C : YC) (lf : Nat) (n : K2) (KR : KF) (KE : KX) : ∀ F h, evX fx189 C lf [1, 1, 1, 0] F h (fun F h => n (F 0) (F 3) h) KR KE = q189_20 C lf n (F 0) (F 3) h := by
  intro F h; kernel_rfl
noncomputable def q189_21 (C : YC) (lf : Nat) (r : K2) (x0 x3 : O) (h : HW) : Rs :=
 q189_20 C lf (fun x0 x3 h => q189_12 C lf r x0 x3 h) x0 x3 h
theorem q189_21_eq (C : YC) (lf : Nat) (r : K2) (KN : KF) (KE : KX) : ∀ F h, evX fx189 C lf [1, 1, 1] F h KN (fun F h => r (F 4) (F 5) h) KE = q189_21 C lf r (F 0) (F 3) h := cSeq (a := subX fx189 [1, 1, 1, 0]) (b := subX fx189 [1, 1, 1, 1]) (by kernel_rfl) (B := (fun F h => q189_12 C lf r (F 0) (F 3) h)) (q189_12_eq C lf r KN KE) (q189_20_eq C lf (fun x0 x3 h => q189_12 C lf r x0 x3 h) (fun F h => r (F 4) (F 5) h) KE)
noncomputable def q189_30 (C : YC) (lf : Nat) (n : K2) (x0 x3 : O) (h : HW) : Rs :=
 b2 (ybs Tryz.prog 44 0 [] [] h) fun y22 h22 =>
 ob x3 fun a23 =>
 ob (fa 2 a23) fun y24 =>
 ob (ld1 y24 h22) fun y25 =>
 b2 (ybl Tryz.prog .append #[44, 44] [y22, y25] h22) fun y26 h26 =>
 ob x3 fun a27 =>
 ob (fa 2 a27) fun y28 =>
 ob (st 1 y28 y26 h26) fun h29 =>
 n x0 x3 h29
theorem q189_30_eq (C : YC) (lf : Nat) (n : K2) (KR : KF) (KE : KX) : ∀ F h, evX fx189 C lf [1, 1, 0] F h (fun F h => n (F 0) (F 3) h) KR KE = q189_30 C lf n (F 0) (F 3) h := by
  intro F h; kernel_rfl
noncomputable def q189_31 (C : YC) (lf : Nat) (r : K2) (x0 x3 : O) (h : HW) : Rs :=
 q189_30 C lf (fun x0 x3 h => q189_21 C lf r x0 x3 h) x0 x3 h
theorem q189_31_eq (C : YC) (lf : Nat) (r : K2) (KN : KF) (KE : KX) : ∀ F h, evX fx189 C lf [1, 1] F h KN (fun F h => r (F 4) (F 5) h) KE = q189_31 C lf r (F 0) (F 3) h := cSeq (a := subX fx189 [1, 1, 0]) (b := subX fx189 [1, 1, 1]) (by kernel_rfl) (B := (fun F h => q189_21 C lf r (F 0) (F 3) h)) (q189_21_eq C lf r KN KE) (q189_30_eq C lf (fun x0 x3 h => q189_21 C lf r x0 x3 h) (fun F h => r (F 4) (F 5) h) KE)
noncomputable def q189_37 (C : YC) (lf : Nat) (n : K2) (r : K2) (x0 x3 : O) (h : HW) : Rs :=
 ob x0 fun a32 =>
 ob x3 fun a33 =>
 ob (ldN 5 a33 h) fun y34 =>
 bc (C (.fn 268) [a32, y34] h) fun y35 h35 =>
 ob (unE .not y35) fun y36 =>
 yIf y36
 (r (some (.val (.pointer none))) (some (.int .i64 22)) h35)
 (n x0 x3 h35)
theorem q189_37_eq (C : YC) (lf : Nat) (n : K2) (r : K2) (KE : KX) : ∀ F h, evX fx189 C lf [1, 0] F h (fun F h => n (F 0) (F 3) h) (fun F h => r (F 4) (F 5) h) KE = q189_37 C lf n r (F 0) (F 3) h := by
  intro F h; kernel_rfl
noncomputable def q189_38 (C : YC) (lf : Nat) (r : K2) (x0 x3 : O) (h : HW) : Rs :=
 q189_37 C lf (fun x0 x3 h => q189_31 C lf r x0 x3 h) r x0 x3 h
theorem q189_38_eq (C : YC) (lf : Nat) (r : K2) (KN : KF) (KE : KX) : ∀ F h, evX fx189 C lf [1] F h KN (fun F h => r (F 4) (F 5) h) KE = q189_38 C lf r (F 0) (F 3) h := cSeq (a := subX fx189 [1, 0]) (b := subX fx189 [1, 1]) (by kernel_rfl) (B := (fun F h => q189_31 C lf r (F 0) (F 3) h)) (q189_31_eq C lf r KN KE) (q189_37_eq C lf (fun x0 x3 h => q189_31 C lf r x0 x3 h) r KE)
noncomputable def q189_41 (C : YC) (lf : Nat) (n : K2) (x0 x1 : O) (h : HW) : Rs :=
 ob x1 fun a39 =>
 b2 (ybx 46 a39 h) fun y40 h40 =>
 n x0 (some y40) h40
theorem q189_41_eq (C : YC) (lf : Nat) (n : K2) (KR : KF) (KE : KX) : ∀ F h, evX fx189 C lf [0] F h (fun F h => n (F 0) (F 3) h) KR KE = q189_41 C lf n (F 0) (F 1) h := by
  intro F h; kernel_rfl
noncomputable def q189_42 (C : YC) (lf : Nat) (r : K2) (x0 x1 : O) (h : HW) : Rs :=
 q189_41 C lf (fun x0 x3 h => q189_38 C lf r x0 x3 h) x0 x1 h
theorem q189_42_eq (C : YC) (lf : Nat) (r : K2) (KN : KF) (KE : KX) : ∀ F h, evX fx189 C lf [] F h KN (fun F h => r (F 4) (F 5) h) KE = q189_42 C lf r (F 0) (F 1) h := cSeq (a := subX fx189 [0]) (b := subX fx189 [1]) (by kernel_rfl) (B := (fun F h => q189_38 C lf r (F 0) (F 3) h)) (q189_38_eq C lf r KN KE) (q189_41_eq C lf (fun x0 x3 h => q189_38 C lf r x0 x3 h) (fun F h => r (F 4) (F 5) h) KE)
noncomputable def fs189 (C : YC) (lf : Nat) (a0 a1 : SV) (h : HW) : Rs := q189_42 C lf ff189 (some a0) (some a1) h
theorem fs189_eq (C : YC) (lf : Nat) (a0 a1 : SV) (h : HW) : yFn Tryz.prog fx189 C lf [a0, a1] h = fs189 C lf a0 a1 h := fnX (K := (fun F h => ff189 (F 4) (F 5) h)) (by kernel_rfl) (((q189_42_eq C lf ff189 (fun F h => ff189 (F 4) (F 5) h) (fun _ _ _ => none)) _ h).trans (by kernel_rfl))
noncomputable def fy189 : YX Tryz.prog := Y2 fx189 fs189 fs189_eq (by kernel_rfl)

noncomputable def fx192 : XF Tryz.prog := ⟨192, Tryz.f192, fun _ => .text, Tryz.func192, by kernel_rfl, by kernel_rfl, by kernel_rfl, by kernel_rfl⟩
noncomputable def ff192 (x4 : O) (h : HW) : Rs :=
 ob x4 fun a0 =>
 some (.ret a0, h)
noncomputable def q192_7 (C : YC) (lf : Nat) (r : K1) (x0 x1 : O) (h : HW) : Rs :=
 ob x0 fun a1 =>
 b2 (ybs Tryz.prog 34 0 [] [] h) fun y2 h2 =>
 ob x1 fun a3 =>
 b2 (ybl Tryz.prog .append #[34, 34] [y2, a3] h2) fun y4 h4 =>
 ob (semBuild Tryz.prog 367 [0, 1] [a1, y4]) fun y5 =>
 b2 (ybx 367 y5 h4) fun y6 h6 =>
 r (some y6) h6
theorem q192_7_eq (C : YC) (lf : Nat) (r : K1) (KN : KF) (KE : KX) : ∀ F h, evX fx192 C lf [1, 1] F h KN (fun F h => r (F 4) h) KE = q192_7 C lf r (F 0) (F 1) h := by
  intro F h; kernel_rfl
noncomputable def q192_13 (C : YC) (lf : Nat) (n : K2) (x0 x1 : O) (h : HW) : Rs :=
 ob x1 fun a8 =>
 ob (lenE Tryz.prog 34 a8) fun y9 =>
 ob (bin Tryz.prog .gtr 3 y9 (.int .i64 1000)) fun y10 =>
 yIf y10
 (ob x1 fun a11 =>
 ob (semSlice Tryz.prog 34 a11 none (some (.int .i64 1000))) fun y12 =>
 n x0 (some y12) h)
 (n x0 x1 h)
theorem q192_13_eq (C : YC) (lf : Nat) (n : K2) (KR : KF) (KE : KX) : ∀ F h, evX fx192 C lf [1, 0] F h (fun F h => n (F 0) (F 1) h) KR KE = q192_13 C lf n (F 0) (F 1) h := by
  intro F h; kernel_rfl
noncomputable def q192_14 (C : YC) (lf : Nat) (r : K1) (x0 x1 : O) (h : HW) : Rs :=
 q192_13 C lf (fun x0 x1 h => q192_7 C lf r x0 x1 h) x0 x1 h
theorem q192_14_eq (C : YC) (lf : Nat) (r : K1) (KN : KF) (KE : KX) : ∀ F h, evX fx192 C lf [1] F h KN (fun F h => r (F 4) h) KE = q192_14 C lf r (F 0) (F 1) h := cSeq (a := subX fx192 [1, 0]) (b := subX fx192 [1, 1]) (by kernel_rfl) (B := (fun F h => q192_7 C lf r (F 0) (F 1) h)) (q192_7_eq C lf r KN KE) (q192_13_eq C lf (fun x0 x1 h => q192_7 C lf r x0 x1 h) (fun F h => r (F 4) h) KE)
noncomputable def q192_15 (C : YC) (lf : Nat) (n : K2) (x0 x1 : O) (h : HW) : Rs :=
 n x0 x1 h
theorem q192_15_eq (C : YC) (lf : Nat) (n : K2) (KR : KF) (KE : KX) : ∀ F h, evX fx192 C lf [0] F h (fun F h => n (F 0) (F 1) h) KR KE = q192_15 C lf n (F 0) (F 1) h := by
  intro F h; kernel_rfl
noncomputable def q192_16 (C : YC) (lf : Nat) (r : K1) (x0 x1 : O) (h : HW) : Rs :=
 q192_15 C lf (fun x0 x1 h => q192_14 C lf r x0 x1 h) x0 x1 h
theorem q192_16_eq (C : YC) (lf : Nat) (r : K1) (KN : KF) (KE : KX) : ∀ F h, evX fx192 C lf [] F h KN (fun F h => r (F 4) h) KE = q192_16 C lf r (F 0) (F 1) h := cSeq (a := subX fx192 [0]) (b := subX fx192 [1]) (by kernel_rfl) (B := (fun F h => q192_14 C lf r (F 0) (F 1) h)) (q192_14_eq C lf r KN KE) (q192_15_eq C lf (fun x0 x1 h => q192_14 C lf r x0 x1 h) (fun F h => r (F 4) h) KE)
noncomputable def fs192 (C : YC) (lf : Nat) (a0 a1 : SV) (h : HW) : Rs := q192_16 C lf ff192 (some a0) (some a1) h
theorem fs192_eq (C : YC) (lf : Nat) (a0 a1 : SV) (h : HW) : yFn Tryz.prog fx192 C lf [a0, a1] h = fs192 C lf a0 a1 h := fnX (K := (fun F h => ff192 (F 4) h)) (by kernel_rfl) (((q192_16_eq C lf ff192 (fun F h => ff192 (F 4) h) (fun _ _ _ => none)) _ h).trans (by kernel_rfl))
noncomputable def fy192 : YX Tryz.prog := Y2 fx192 fs192 fs192_eq (by kernel_rfl)

noncomputable def fx193 : XF Tryz.prog := ⟨193, Tryz.f193, fun _ => .text, Tryz.func193, by kernel_rfl, by kernel_rfl, by kernel_rfl, by kernel_rfl⟩
noncomputable def ff193 (x2 : O) (h : HW) : Rs :=
 ob x2 fun a0 =>
 some (.ret a0, h)
noncomputable def q193_2 (C : YC) (lf : Nat) (r : K1) (x7 : O) (h : HW) : Rs :=
 ob x7 fun a1 =>
 r (some a1) h
theorem q193_2_eq (C : YC) (lf : Nat) (r : K1) (KN : KF) (KE : KX) : ∀ F h, evX fx193 C lf [1, 1, 1, 1, 1, 1] F h KN (fun F h => r (F 2) h) KE = q193_2 C lf r (F 7) h := by
  intro F h; kernel_rfl
noncomputable def q193_19 (C : YC) (lf : Nat) (n : K4) (r : K1) (e0 : K1) (x7 x29 x30 x31 : O) (h : HW) : Rs :=
 ob x31 fun a4 =>
 ob x30 fun a5 =>
 ob (bin Tryz.prog .lss 3 a4 a5) fun y6 =>
 yIf y6
 (ob x29 fun a7 =>
 ob x31 fun a8 =>
 ob (ixS 6 a7 a8) fun y9 =>
 ob (ldN 6 y9 h) fun y10 =>
 b2 (yAl Tryz.prog 195 h) fun y11 h11 =>
 ob (st 6 y11 y10 h11) fun h12 =>
 ob x7 fun a13 =>
 ob (ldN 6 y11 h12) fun y14 =>
 bc (C (.fn 271) [a13, y14] h12) fun y15 h15 =>
 ob (unE .not y15) fun y16 =>
 yIf y16
 (r (some (.val (.pointer none))) h15)
 (ob x31 fun a17 =>
 ob (bin Tryz.prog .add 3 a17 (.int .i64 1)) fun y18 =>
 n x7 x29 x30 (some y18) h15))
 (e0 x7 h)
theorem q193_19_eq (C : YC) (lf : Nat) (n : K4) (r : K1) (e0 : K1) (KE : KX) : ∀ F h, evX fx193 C lf [1, 1, 1, 1, 1, 0, 1, 0, 0] F h (fun F h => n (F 7) (F 29) (F 30) (F 31) h) (fun F h => r (F 2) h) (bk 0 (fun F h => e0 (F 7) h) KE) = q193_19 C lf n r e0 (F 7) (F 29) (F 30) (F 31) h := by
  intro F h; kernel_rfl
noncomputable def l193_3 (C : YC) (lf : Nat) (r : K1) (e0 : K1) (k : O × O × O × O → HW → Rs) (s : O × O × O × O) (h : HW) : Rs :=
 q193_19 C lf (fun x7 x29 x30 x31 h => k (x7, x29, x30, x31) h) r e0 s.1 s.2.1 s.2.2.1 s.2.2.2 h
noncomputable def q193_22 (C : YC) (lf : Nat) (n : K4) (x0 x7 : O) (h : HW) : Rs :=
 ob x0 fun a20 =>
 ob (lenE Tryz.prog 196 a20) fun y21 =>
 n x7 (some a20) (some y21) (some (.int .i64 0)) h
theorem q193_22_eq (C : YC) (lf : Nat) (n : K4) (KR : KF) (KE : KX) : ∀ F h, evX fx193 C lf [1, 1, 1, 1, 1, 0, 0] F h (fun F h => n (F 7) (F 29) (F 30) (F 31) h) KR KE = q193_22 C lf n (F 0) (F 7) h := by
  intro F h; kernel_rfl
noncomputable def q193_23 (C : YC) (lf : Nat) (n : K1) (r : K1) (x0 x7 : O) (h : HW) : Rs :=
 q193_22 C lf (fun x7 x29 x30 x31 h => lp (l193_3 C lf r n) lf (x7, x29, x30, x31) h) x0 x7 h
theorem q193_23_eq (C : YC) (lf : Nat) (n : K1) (r : K1) (KE : KX) : ∀ F h, evX fx193 C lf [1, 1, 1, 1, 1, 0] F h (fun F h => n (F 7) h) (fun F h => r (F 2) h) KE = q193_23 C lf n r (F 0) (F 7) h := cSeq (a := subX fx193 [1, 1, 1, 1, 1, 0, 0]) (b := subX fx193 [1, 1, 1, 1, 1, 0, 1]) (by kernel_rfl) (B := (fun F h => lp (l193_3 C lf r n) lf ((F 7), (F 29), (F 30), (F 31)) h)) (cBlock (id := 0) (a := subX fx193 [1, 1, 1, 1, 1, 0, 1, 0]) (by kernel_rfl) (cLoop (a := subX fx193 [1, 1, 1, 1, 1, 0, 1, 0, 0]) (g := fun F => (F 7, F 29, F 30, F 31)) (body := l193_3 C lf r n) (by kernel_rfl) (fun k => (q193_19_eq C lf (fun x7 x29 x30 x31 h => k (x7, x29, x30, x31) h) r n KE)))) (q193_22_eq C lf (fun x7 x29 x30 x31 h => lp (l193_3 C lf r n) lf (x7, x29, x30, x31) h) (fun F h => r (F 2) h) KE)
noncomputable def q193_24 (C : YC) (lf : Nat) (r : K1) (x0 x7 : O) (h : HW) : Rs :=
 q193_23 C lf (fun x7 h => q193_2 C lf r x7 h) r x0 x7 h
theorem q193_24_eq (C : YC) (lf : Nat) (r : K1) (KN : KF) (KE : KX) : ∀ F h, evX fx193 C lf [1, 1, 1, 1, 1] F h KN (fun F h => r (F 2) h) KE = q193_24 C lf r (F 0) (F 7) h := cSeq (a := subX fx193 [1, 1, 1, 1, 1, 0]) (b := subX fx193 [1, 1, 1, 1, 1, 1]) (by kernel_rfl) (B := (fun F h => q193_2 C lf r (F 7) h)) (q193_2_eq C lf r KN KE) (q193_23_eq C lf (fun x7 h => q193_2 C lf r x7 h) r KE)
noncomputable def q193_29 (C : YC) (lf : Nat) (n : K2) (x0 x3 x5 : O) (h : HW) : Rs :=
 ob x3 fun a25 =>
 ob x5 fun a26 =>
 ob (semBuild Tryz.prog 270 [0, 1] [a25, a26]) fun y27 =>
 b2 (ybx 270 y27 h) fun y28 h28 =>
 n x0 (some y28) h28
theorem q193_29_eq (C : YC) (lf : Nat) (n : K2) (KR : KF) (KE : KX) : ∀ F h, evX fx193 C lf [1, 1, 1, 1, 0] F h (fun F h => n (F 0) (F 7) h) KR KE = q193_29 C lf n (F 0) (F 3) (F 5) h := by
  intro F h; kernel_rfl
noncomputable def q193_30 (C : YC) (lf : Nat) (r : K1) (x0 x3 x5 : O) (h : HW) : Rs :=
 q193_29 C lf (fun x0 x7 h => q193_24 C lf r x0 x7 h) x0 x3 x5 h
theorem q193_30_eq (C : YC) (lf : Nat) (r : K1) (KN : KF) (KE : KX) : ∀ F h, evX fx193 C lf [1, 1, 1, 1] F h KN (fun F h => r (F 2) h) KE = q193_30 C lf r (F 0) (F 3) (F 5) h := cSeq (a := subX fx193 [1, 1, 1, 1, 0]) (b := subX fx193 [1, 1, 1, 1, 1]) (by kernel_rfl) (B := (fun F h => q193_24 C lf r (F 0) (F 7) h)) (q193_24_eq C lf r KN KE) (q193_29_eq C lf (fun x0 x7 h => q193_24 C lf r x0 x7 h) (fun F h => r (F 2) h) KE)
noncomputable def q193_40 (C : YC) (lf : Nat) (n : K3) (r : K1) (x0 x3 x4 x5 : O) (h : HW) : Rs :=
 ob x3 fun a31 =>
 ob (bin Tryz.prog .eql 43 a31 (.val (.pointer none))) fun y32 =>
 bc (gd false (some y32) (ob x4 fun a33 =>
 some (.ret a33, h)) h) fun y34 h34 =>
 bc (gd false (some y32) (bc (C (.fn 76) [y34] h34) fun y35 h35 =>
 some (.ret y35, h35)) h34) fun y36 h36 =>
 bc (gd false (some y32) (ob (bin Tryz.prog .neq 3 y36 (.int .i64 0)) fun y37 =>
 some (.ret y37, h36)) h36) fun y38 h38 =>
 ob (ypk y32 (.bool true) y38) fun y39 =>
 yIf y39
 (r (some (.val (.pointer none))) h38)
 (n x0 x3 x5 h38)
theorem q193_40_eq (C : YC) (lf : Nat) (n : K3) (r : K1) (KE : KX) : ∀ F h, evX fx193 C lf [1, 1, 1, 0] F h (fun F h => n (F 0) (F 3) (F 5) h) (fun F h => r (F 2) h) KE = q193_40 C lf n r (F 0) (F 3) (F 4) (F 5) h := by
  intro F h; kernel_rfl
noncomputable def q193_41 (C : YC) (lf : Nat) (r : K1) (x0 x3 x4 x5 : O) (h : HW) : Rs :=
 q193_40 C lf (fun x0 x3 x5 h => q193_30 C lf r x0 x3 x5 h) r x0 x3 x4 x5 h
theorem q193_41_eq (C : YC) (lf : Nat) (r : K1) (KN : KF) (KE : KX) : ∀ F h, evX fx193 C lf [1, 1, 1] F h KN (fun F h => r (F 2) h) KE = q193_41 C lf r (F 0) (F 3) (F 4) (F 5) h := cSeq (a := subX fx193 [1, 1, 1, 0]) (b := subX fx193 [1, 1, 1, 1]) (by kernel_rfl) (B := (fun F h => q193_30 C lf r (F 0) (F 3) (F 5) h)) (q193_30_eq C lf r KN KE) (q193_40_eq C lf (fun x0 x3 x5 h => q193_30 C lf r x0 x3 x5 h) r KE)
noncomputable def q193_45 (C : YC) (lf : Nat) (n : K4) (x0 x3 x4 : O) (h : HW) : Rs :=
 bc (C (.fn 164) [(.int .i64 600), (.int .i64 60)] h) fun y42 h42 =>
 ob (ext 0 y42) fun y43 =>
 ob (ext 1 y42) fun y44 =>
 n x0 x3 x4 (some y43) h42
theorem q193_45_eq (C : YC) (lf : Nat) (n : K4) (KR : KF) (KE : KX) : ∀ F h, evX fx193 C lf [1, 1, 0] F h (fun F h => n (F 0) (F 3) (F 4) (F 5) h) KR KE = q193_45 C lf n (F 0) (F 3) (F 4) h := by
  intro F h; kernel_rfl
noncomputable def q193_46 (C : YC) (lf : Nat) (r : K1) (x0 x3 x4 : O) (h : HW) : Rs :=
 q193_45 C lf (fun x0 x3 x4 x5 h => q193_41 C lf r x0 x3 x4 x5 h) x0 x3 x4 h
theorem q193_46_eq (C : YC) (lf : Nat) (r : K1) (KN : KF) (KE : KX) : ∀ F h, evX fx193 C lf [1, 1] F h KN (fun F h => r (F 2) h) KE = q193_46 C lf r (F 0) (F 3) (F 4) h := cSeq (a := subX fx193 [1, 1, 0]) (b := subX fx193 [1, 1, 1]) (by kernel_rfl) (B := (fun F h => q193_41 C lf r (F 0) (F 3) (F 4) (F 5) h)) (q193_41_eq C lf r KN KE) (q193_45_eq C lf (fun x0 x3 x4 x5 h => q193_41 C lf r x0 x3 x4 x5 h) (fun F h => r (F 2) h) KE)
noncomputable def q193_50 (C : YC) (lf : Nat) (n : K3) (x0 : O) (h : HW) : Rs :=
 bc (C (.fn 77) [(.int .i64 600), (.int .i64 60)] h) fun y47 h47 =>
 ob (ext 0 y47) fun y48 =>
 ob (ext 1 y47) fun y49 =>
 n x0 (some y48) (some y49) h47
theorem q193_50_eq (C : YC) (lf : Nat) (n : K3) (KR : KF) (KE : KX) : ∀ F h, evX fx193 C lf [1, 0] F h (fun F h => n (F 0) (F 3) (F 4) h) KR KE = q193_50 C lf n (F 0) h := by
  intro F h; kernel_rfl
noncomputable def q193_51 (C : YC) (lf : Nat) (r : K1) (x0 : O) (h : HW) : Rs :=
 q193_50 C lf (fun x0 x3 x4 h => q193_46 C lf r x0 x3 x4 h) x0 h
theorem q193_51_eq (C : YC) (lf : Nat) (r : K1) (KN : KF) (KE : KX) : ∀ F h, evX fx193 C lf [1] F h KN (fun F h => r (F 2) h) KE = q193_51 C lf r (F 0) h := cSeq (a := subX fx193 [1, 0]) (b := subX fx193 [1, 1]) (by kernel_rfl) (B := (fun F h => q193_46 C lf r (F 0) (F 3) (F 4) h)) (q193_46_eq C lf r KN KE) (q193_50_eq C lf (fun x0 x3 x4 h => q193_46 C lf r x0 x3 x4 h) (fun F h => r (F 2) h) KE)
noncomputable def q193_52 (C : YC) (lf : Nat) (n : K1) (x0 : O) (h : HW) : Rs :=
 n x0 h
theorem q193_52_eq (C : YC) (lf : Nat) (n : K1) (KR : KF) (KE : KX) : ∀ F h, evX fx193 C lf [0] F h (fun F h => n (F 0) h) KR KE = q193_52 C lf n (F 0) h := by
  intro F h; kernel_rfl
noncomputable def q193_53 (C : YC) (lf : Nat) (r : K1) (x0 : O) (h : HW) : Rs :=
 q193_52 C lf (fun x0 h => q193_51 C lf r x0 h) x0 h
theorem q193_53_eq (C : YC) (lf : Nat) (r : K1) (KN : KF) (KE : KX) : ∀ F h, evX fx193 C lf [] F h KN (fun F h => r (F 2) h) KE = q193_53 C lf r (F 0) h := cSeq (a := subX fx193 [0]) (b := subX fx193 [1]) (by kernel_rfl) (B := (fun F h => q193_51 C lf r (F 0) h)) (q193_51_eq C lf r KN KE) (q193_52_eq C lf (fun x0 h => q193_51 C lf r x0 h) (fun F h => r (F 2) h) KE)
noncomputable def fs193 (C : YC) (lf : Nat) (a0 : SV) (h : HW) : Rs := q193_53 C lf ff193 (some a0) h
theorem fs193_eq (C : YC) (lf : Nat) (a0 : SV) (h : HW) : yFn Tryz.prog fx193 C lf [a0] h = fs193 C lf a0 h := fnX (K := (fun F h => ff193 (F 2) h)) (by kernel_rfl) (((q193_53_eq C lf ff193 (fun F h => ff193 (F 2) h) (fun _ _ _ => none)) _ h).trans (by kernel_rfl))
noncomputable def fy193 : YX Tryz.prog := Y1 fx193 fs193 fs193_eq (by kernel_rfl)

noncomputable def fx194 : XF Tryz.prog := ⟨194, Tryz.f194, fun _ => .text, Tryz.func194, by kernel_rfl, by kernel_rfl, by kernel_rfl, by kernel_rfl⟩
noncomputable def ff194 (x4 x5 : O) (h : HW) : Rs :=
 ob x4 fun a0 =>
 ob (ldN 10 a0 h) fun y1 =>
 ob x5 fun a2 =>
 some (.ret (.tup [y1, a2]), h)
noncomputable def q194_13 (C : YC) (lf : Nat) (r : K2) (x0 x1 : O) (h : HW) : Rs :=
 ob x0 fun a3 =>
 b2 (ybx 35 a3 h) fun y4 h4 =>
 ob x1 fun a5 =>
 b2 (ybx 9 a5 h4) fun y6 h6 =>
 b2 (yAl Tryz.prog 58 h6) fun y7 h7 =>
 ob (ld1 y4 h7) fun y8 =>
 bc (C (.fn 92) [y8, (.str (bs [108, 115, 116, 97, 116])), (.fn (.func 272) [] [y4, y6])] h7) fun y9 h9 =>
 ob (ext 0 y9) fun y10 =>
 ob (ext 1 y9) fun y11 =>
 ob (st 10 y7 y10 h9) fun h12 =>
 r (some y7) (some y11) h12
theorem q194_13_eq (C : YC) (lf : Nat) (r : K2) (KN : KF) (KE : KX) : ∀ F h, evX fx194 C lf [] F h KN (fun F h => r (F 4) (F 5) h) KE = q194_13 C lf r (F 0) (F 1) h := by
  intro F h; kernel_rfl
noncomputable def fs194 (C : YC) (lf : Nat) (a0 a1 : SV) (h : HW) : Rs := q194_13 C lf ff194 (some a0) (some a1) h
theorem fs194_eq (C : YC) (lf : Nat) (a0 a1 : SV) (h : HW) : yFn Tryz.prog fx194 C lf [a0, a1] h = fs194 C lf a0 a1 h := fnX (K := (fun F h => ff194 (F 4) (F 5) h)) (by kernel_rfl) (((q194_13_eq C lf ff194 (fun F h => ff194 (F 4) (F 5) h) (fun _ _ _ => none)) _ h).trans (by kernel_rfl))
noncomputable def fy194 : YX Tryz.prog := Y2 fx194 fs194 fs194_eq (by kernel_rfl)

noncomputable def fx195 : XF Tryz.prog := ⟨195, Tryz.f195, fun _ => .text, Tryz.func195, by kernel_rfl, by kernel_rfl, by kernel_rfl, by kernel_rfl⟩

noncomputable def fx196 : XF Tryz.prog := ⟨196, Tryz.f196, fun _ => .text, Tryz.func196, by kernel_rfl, by kernel_rfl, by kernel_rfl, by kernel_rfl⟩
noncomputable def ff196 (x4 : O) (h : HW) : Rs :=
 ob x4 fun a0 =>
 some (.ret a0, h)
noncomputable def q196_4 (C : YC) (lf : Nat) (r : K1) (x0 x1 : O) (h : HW) : Rs :=
 ob x0 fun a1 =>
 ob x1 fun a2 =>
 bc (C (.fn 274) [a1, a2] h) fun y3 h3 =>
 r (some y3) h3
theorem q196_4_eq (C : YC) (lf : Nat) (r : K1) (KN : KF) (KE : KX) : ∀ F h, evX fx196 C lf [] F h KN (fun F h => r (F 4) h) KE = q196_4 C lf r (F 0) (F 1) h := by
  intro F h; kernel_rfl
noncomputable def fs196 (C : YC) (lf : Nat) (a0 a1 : SV) (h : HW) : Rs := q196_4 C lf ff196 (some a0) (some a1) h
theorem fs196_eq (C : YC) (lf : Nat) (a0 a1 : SV) (h : HW) : yFn Tryz.prog fx196 C lf [a0, a1] h = fs196 C lf a0 a1 h := fnX (K := (fun F h => ff196 (F 4) h)) (by kernel_rfl) (((q196_4_eq C lf ff196 (fun F h => ff196 (F 4) h) (fun _ _ _ => none)) _ h).trans (by kernel_rfl))
noncomputable def fy196 : YX Tryz.prog := Y2 fx196 fs196 fs196_eq (by kernel_rfl)

noncomputable def fx197 : XF Tryz.prog := ⟨197, Tryz.f197, fun r => bif Nat.beq r 6 then .ord [1, 0, 2, 3, 4] [(3, [2])] else .text, Tryz.func197, by kernel_rfl, by kernel_rfl, by kernel_rfl, by kernel_rfl⟩
noncomputable def ff197 (x6 x7 : O) (h : HW) : Rs :=
 ob x6 fun a0 =>
 ob (ldN 4 a0 h) fun y1 =>
 ob x7 fun a2 =>
 some (.ret (.tup [y1, a2]), h)
noncomputable def q197_33 (C : YC) (lf : Nat) (r : K2) (x0 x1 x2 : O) (h : HW) : Rs :=
 b2 (yAl Tryz.prog 272 h) fun y3 h3 =>
 b2 (yAl Tryz.prog 272 h3) fun y4 h4 =>
 ob x0 fun a5 =>
 bc (C (.fn 90) [a5] h4) fun y6 h6 =>
 ob (unE .not y6) fun y7 =>
 yIf y7
 (ob (ldN 4 y4 h6) fun y8 =>
 ob (st 4 y3 y8 h6) fun h9 =>
 r (some y3) (some (.int .i64 14)) h9)
 (ob x0 fun a10 =>
 ob x1 fun a11 =>
 bc (C (.fn 166) [a10, a11] h6) fun y12 h12 =>
 ob (ext 0 y12) fun y13 =>
 ob (ext 1 y12) fun y14 =>
 b2 (yAl Tryz.prog 142 h12) fun y15 h15 =>
 ob (st 4 y15 y13 h15) fun h16 =>
 bc (gd true (some y14) (ob (fa 2 y15) fun y17 =>
 some (.ret y17, h16)) h16) fun y18 h18 =>
 bc (gd true (some y14) (ob (ld1 y18 h18) fun y19 =>
 some (.ret y19, h18)) h18) fun y20 h20 =>
 bc (gd true (some y14) (ob (bin Tryz.prog .neq 23 y20 (.int .i64 0)) fun y21 =>
 some (.ret y21, h20)) h20) fun y22 h22 =>
 ob (ypk y14 y22 (.bool false)) fun y23 =>
 yIf y23
 (ob (fa 2 y15) fun y24 =>
 ob (ldN 4 y4 h22) fun y25 =>
 ob (ld1 y24 h22) fun y26 =>
 ob (st 4 y3 y25 h22) fun h27 =>
 ck (chkH [(2, adrO (some y24)), (0, adrO (some y4))] h22 h27 [2]) <|
 r (some y3) (some y26) h27)
 (ob x2 fun a28 =>
 cv false C a28 [] h22 fun y29 h29 =>
 ob (ext 0 y29) fun y30 =>
 ob (ext 1 y29) fun y31 =>
 ob (st 4 y3 y30 h29) fun h32 =>
 r (some y3) (some y31) h32))
theorem q197_33_eq (C : YC) (lf : Nat) (r : K2) (KN : KF) (KE : KX) : ∀ F h, evX fx197 C lf [] F h KN (fun F h => r (F 6) (F 7) h) KE = q197_33 C lf r (F 0) (F 1) (F 2) h := by
  intro F h; kernel_rfl
noncomputable def fs197 (C : YC) (lf : Nat) (a0 a1 a2 : SV) (h : HW) : Rs := q197_33 C lf ff197 (some a0) (some a1) (some a2) h
theorem fs197_eq (C : YC) (lf : Nat) (a0 a1 a2 : SV) (h : HW) : yFn Tryz.prog fx197 C lf [a0, a1, a2] h = fs197 C lf a0 a1 a2 h := fnX (K := (fun F h => ff197 (F 6) (F 7) h)) (by kernel_rfl) (((q197_33_eq C lf ff197 (fun F h => ff197 (F 6) (F 7) h) (fun _ _ _ => none)) _ h).trans (by kernel_rfl))
noncomputable def fy197 : YX Tryz.prog := Y3 fx197 fs197 fs197_eq (by kernel_rfl)

noncomputable def fx198 : XF Tryz.prog := ⟨198, Tryz.f198, fun r => bif Nat.beq r 1 then .news [0, 3, 1, 2, 4, 5, 6, 7, 8, 9, 10, 11, 12] [9] [(1, [3])] else .text, Tryz.func198, by kernel_rfl, by kernel_rfl, by kernel_rfl, by kernel_rfl⟩
noncomputable def ff198 (x2 x3 : O) (h : HW) : Rs :=
 ob x2 fun a0 =>
 ob (ldN 4 a0 h) fun y1 =>
 ob x3 fun a2 =>
 some (.ret (.tup [y1, a2]), h)
noncomputable def q198_20 (C : YC) (lf : Nat) (r : K2) (x0 x1 : O) (h : HW) : Rs :=
 b2 (yAl Tryz.prog 272 h) fun y3 h3 =>
 nwB [9] 13 h3 fun b4 h4 =>
 ck (lowA b4 (adrO x0)) <|
 ob x0 fun a5 =>
 ob (ld1 a5 h4) fun y6 =>
 ck (lowA b4 (adrO x1)) <|
 ob x1 fun a7 =>
 ob (ld1 a7 h4) fun y8 =>
 bcn (C (.fn 89) [y6] h4) fun y9 h9 =>
 ck (chkH [(3, adrO x1), (0, adrO x0)] h4 h9 [3]) <|
 ob (fd1 0 y9) fun y10 =>
 bcn (C (.fn 42) [y10, y8] h9) fun y11 h11 =>
 ob (ext 0 y11) fun y12 =>
 ob (ext 1 y11) fun y13 =>
 ob (ext 2 y11) fun y14 =>
 b2 (ynf (yAl Tryz.prog 81) b4 9 h11) fun y15 h15 =>
 ob (st 3 y15 y12 h15) fun h16 =>
 ob (ldN 3 y15 h16) fun y17 =>
 ob (semBuild Tryz.prog 272 [0, 1] [y17, y13]) fun y18 =>
 ob (st 4 y3 y18 h16) fun h19 =>
 r (some y3) (some y14) h19
theorem q198_20_eq (C : YC) (lf : Nat) (r : K2) (KN : KF) (KE : KX) : ∀ F h, evX fx198 C lf [] F h KN (fun F h => r (F 2) (F 3) h) KE = q198_20 C lf r (F 0) (F 1) h := by
  intro F h; kernel_rfl
noncomputable def fs198 (C : YC) (lf : Nat) (a0 a1 : SV) (h : HW) : Rs := q198_20 C lf ff198 (some a0) (some a1) h
theorem fs198_eq (C : YC) (lf : Nat) (a0 a1 : SV) (h : HW) : yFn Tryz.prog fx198 C lf [a0, a1] h = fs198 C lf a0 a1 h := fnX (K := (fun F h => ff198 (F 2) (F 3) h)) (by kernel_rfl) (((q198_20_eq C lf ff198 (fun F h => ff198 (F 2) (F 3) h) (fun _ _ _ => none)) _ h).trans (by kernel_rfl))
noncomputable def fy198 : YX Tryz.prog := Y2 fx198 fs198 fs198_eq (by kernel_rfl)

noncomputable def fx201 : XF Tryz.prog := ⟨201, Tryz.f201, fun _ => .text, Tryz.func201, by kernel_rfl, by kernel_rfl, by kernel_rfl, by kernel_rfl⟩
noncomputable def ff201 (x2 x3 : O) (h : HW) : Rs :=
 ob x2 fun a0 =>
 ob x3 fun a1 =>
 some (.ret (.tup [a0, a1]), h)
noncomputable def q201_14 (C : YC) (lf : Nat) (r : K2) (x0 : O) (h : HW) : Rs :=
 ob x0 fun a2 =>
 ob (bin Tryz.prog .lss 3 a2 (.int .i64 1)) fun y3 =>
 bc (gd false (some y3) (ob x0 fun a4 =>
 some (.ret a4, h)) h) fun y5 h5 =>
 bc (gd false (some y3) (ob (bin Tryz.prog .gtr 3 y5 (.int .i64 4096)) fun y6 =>
 some (.ret y6, h5)) h5) fun y7 h7 =>
 ob (ypk y3 (.bool true) y7) fun y8 =>
 yIf y8
 (r (some (.val (.pointer none))) (some (.int .i64 22)) h7)
 (ob x0 fun a9 =>
 ob x0 fun a10 =>
 b2 (ymk Tryz.prog 371 a10 a10 h7) fun y11 h11 =>
 ob (semBuild Tryz.prog 375 [0, 2] [a9, y11]) fun y12 =>
 b2 (ybx 375 y12 h11) fun y13 h13 =>
 r (some y13) (some (.int .i64 0)) h13)
theorem q201_14_eq (C : YC) (lf : Nat) (r : K2) (KN : KF) (KE : KX) : ∀ F h, evX fx201 C lf [] F h KN (fun F h => r (F 2) (F 3) h) KE = q201_14 C lf r (F 0) h := by
  intro F h; kernel_rfl
noncomputable def fs201 (C : YC) (lf : Nat) (a0 : SV) (h : HW) : Rs := q201_14 C lf ff201 (some a0) h
theorem fs201_eq (C : YC) (lf : Nat) (a0 : SV) (h : HW) : yFn Tryz.prog fx201 C lf [a0] h = fs201 C lf a0 h := fnX (K := (fun F h => ff201 (F 2) (F 3) h)) (by kernel_rfl) (((q201_14_eq C lf ff201 (fun F h => ff201 (F 2) (F 3) h) (fun _ _ _ => none)) _ h).trans (by kernel_rfl))
noncomputable def fy201 : YX Tryz.prog := Y1 fx201 fs201 fs201_eq (by kernel_rfl)

noncomputable def fx202 : XF Tryz.prog := ⟨202, Tryz.f202, fun _ => .text, Tryz.func202, by kernel_rfl, by kernel_rfl, by kernel_rfl, by kernel_rfl⟩
noncomputable def ff202 (x2 : O) (h : HW) : Rs :=
 ob x2 fun a0 =>
 some (.ret a0, h)
noncomputable def q202_14 (C : YC) (lf : Nat) (r : K1) (x0 : O) (h : HW) : Rs :=
 ob x0 fun a1 =>
 ob (bin Tryz.prog .neq 213 a1 (.val (.pointer none))) fun y2 =>
 bc (gd true (some y2) (ob x0 fun a3 =>
 some (.ret a3, h)) h) fun y4 h4 =>
 bc (gd true (some y2) (ob (semNil y4) fun y5 =>
 some (.ret y5, h4)) h4) fun y6 h6 =>
 bc (gd true (some y2) (ob (fa 0 y6) fun y7 =>
 some (.ret y7, h6)) h6) fun y8 h8 =>
 bc (gd true (some y2) (ob (ld1 y8 h8) fun y9 =>
 some (.ret y9, h8)) h8) fun y10 h10 =>
 bc (gd true (some y2) (ob (bin Tryz.prog .neq 277 y10 (.val (.pointer none))) fun y11 =>
 some (.ret y11, h10)) h10) fun y12 h12 =>
 ob (ypk y2 y12 (.bool false)) fun y13 =>
 r (some y13) h12
theorem q202_14_eq (C : YC) (lf : Nat) (r : K1) (KN : KF) (KE : KX) : ∀ F h, evX fx202 C lf [] F h KN (fun F h => r (F 2) h) KE = q202_14 C lf r (F 0) h := by
  intro F h; kernel_rfl
noncomputable def fs202 (C : YC) (lf : Nat) (a0 : SV) (h : HW) : Rs := q202_14 C lf ff202 (some a0) h
theorem fs202_eq (C : YC) (lf : Nat) (a0 : SV) (h : HW) : yFn Tryz.prog fx202 C lf [a0] h = fs202 C lf a0 h := fnX (K := (fun F h => ff202 (F 2) h)) (by kernel_rfl) (((q202_14_eq C lf ff202 (fun F h => ff202 (F 2) h) (fun _ _ _ => none)) _ h).trans (by kernel_rfl))
noncomputable def fy202 : YX Tryz.prog := Y1 fx202 fs202 fs202_eq (by kernel_rfl)

noncomputable def fx203 : XF Tryz.prog := ⟨203, Tryz.f203, fun _ => .text, Tryz.func203, by kernel_rfl, by kernel_rfl, by kernel_rfl, by kernel_rfl⟩
noncomputable def ff203 (x4 : O) (h : HW) : Rs :=
 ob x4 fun a0 =>
 some (.ret a0, h)
noncomputable def q203_13 (C : YC) (lf : Nat) (r : K1) (x0 x1 : O) (h : HW) : Rs :=
 ob x0 fun a1 =>
 ob x1 fun a2 =>
 bc (C (.fn 184) [a1, a2] h) fun y3 h3 =>
 ob (ext 0 y3) fun y4 =>
 ob (ext 1 y3) fun y5 =>
 b2 (yAl Tryz.prog 58 h3) fun y6 h6 =>
 ob (st 10 y6 y4 h6) fun h7 =>
 ob (bin Tryz.prog .neq 23 y5 (.int .i64 0)) fun y8 =>
 yIf y8
 (r (some y5) h7)
 (ob (fa 6 y6) fun y9 =>
 ob (ld1 y9 h7) fun y10 =>
 ob (bin Tryz.prog .and 30 y10 (.int .i64 61440)) fun y11 =>
 ob (bin Tryz.prog .neq 30 y11 (.int .i64 16384)) fun y12 =>
 yIf y12
 (r (some (.int .i64 20)) h7)
 (r (some (.int .i64 0)) h7))
theorem q203_13_eq (C : YC) (lf : Nat) (r : K1) (KN : KF) (KE : KX) : ∀ F h, evX fx203 C lf [] F h KN (fun F h => r (F 4) h) KE = q203_13 C lf r (F 0) (F 1) h := by
  intro F h; kernel_rfl
noncomputable def fs203 (C : YC) (lf : Nat) (a0 a1 : SV) (h : HW) : Rs := q203_13 C lf ff203 (some a0) (some a1) h
theorem fs203_eq (C : YC) (lf : Nat) (a0 a1 : SV) (h : HW) : yFn Tryz.prog fx203 C lf [a0, a1] h = fs203 C lf a0 a1 h := fnX (K := (fun F h => ff203 (F 4) h)) (by kernel_rfl) (((q203_13_eq C lf ff203 (fun F h => ff203 (F 4) h) (fun _ _ _ => none)) _ h).trans (by kernel_rfl))
noncomputable def fy203 : YX Tryz.prog := Y2 fx203 fs203 fs203_eq (by kernel_rfl)

noncomputable def fx204 : XF Tryz.prog := ⟨204, Tryz.f204, fun _ => .text, Tryz.func204, by kernel_rfl, by kernel_rfl, by kernel_rfl, by kernel_rfl⟩
noncomputable def ff204 (x4 : O) (h : HW) : Rs :=
 ob x4 fun a0 =>
 some (.ret a0, h)
noncomputable def q204_42 (C : YC) (lf : Nat) (r : K1) (x0 x1 : O) (h : HW) : Rs :=
 ob x0 fun a1 =>
 bc (C (.fn 202) [a1] h) fun y2 h2 =>
 bc (gd true (some y2) (ob x1 fun a3 =>
 some (.ret a3, h2)) h2) fun y4 h4 =>
 bc (gd true (some y2) (ob (bin Tryz.prog .geq 3 y4 (.int .i64 1)) fun y5 =>
 some (.ret y5, h4)) h4) fun y6 h6 =>
 ob (ypk y2 y6 (.bool false)) fun y7 =>
 bc (gd true (some y7) (ob x1 fun a8 =>
 some (.ret a8, h6)) h6) fun y9 h9 =>
 bc (gd true (some y7) (ob x0 fun a10 =>
 some (.ret a10, h9)) h9) fun y11 h11 =>
 bc (gd true (some y7) (ob (semNil y11) fun y12 =>
 some (.ret y12, h11)) h11) fun y13 h13 =>
 bc (gd true (some y7) (ob (fa 1 y13) fun y14 =>
 some (.ret y14, h13)) h13) fun y15 h15 =>
 bc (gd true (some y7) (ob (ld1 y15 h15) fun y16 =>
 some (.ret y16, h15)) h15) fun y17 h17 =>
 bc (gd true (some y7) (ob (lenE Tryz.prog 280 y17) fun y18 =>
 some (.ret y18, h17)) h17) fun y19 h19 =>
 bc (gd true (some y7) (ob (bin Tryz.prog .leq 3 y9 y19) fun y20 =>
 some (.ret y20, h19)) h19) fun y21 h21 =>
 ob (ypk y7 y21 (.bool false)) fun y22 =>
 bc (gd true (some y22) (ob x0 fun a23 =>
 some (.ret a23, h21)) h21) fun y24 h24 =>
 bc (gd true (some y22) (ob (semNil y24) fun y25 =>
 some (.ret y25, h24)) h24) fun y26 h26 =>
 bc (gd true (some y22) (ob (fa 1 y26) fun y27 =>
 some (.ret y27, h26)) h26) fun y28 h28 =>
 bc (gd true (some y22) (ob (ld1 y28 h28) fun y29 =>
 some (.ret y29, h28)) h28) fun y30 h30 =>
 bc (gd true (some y22) (ob x1 fun a31 =>
 some (.ret a31, h30)) h30) fun y32 h32 =>
 bc (gd true (some y22) (ob (bin Tryz.prog .sub 3 y32 (.int .i64 1)) fun y33 =>
 some (.ret y33, h32)) h32) fun y34 h34 =>
 bc (gd true (some y22) (ob (ixS 308 y30 y34) fun y35 =>
 some (.ret y35, h34)) h34) fun y36 h36 =>
 bc (gd true (some y22) (ob (fa 0 y36) fun y37 =>
 some (.ret y37, h36)) h36) fun y38 h38 =>
 bc (gd true (some y22) (ob (ld1 y38 h38) fun y39 =>
 some (.ret y39, h38)) h38) fun y40 h40 =>
 ob (ypk y22 y40 (.bool false)) fun y41 =>
 r (some y41) h40
theorem q204_42_eq (C : YC) (lf : Nat) (r : K1) (KN : KF) (KE : KX) : ∀ F h, evX fx204 C lf [] F h KN (fun F h => r (F 4) h) KE = q204_42 C lf r (F 0) (F 1) h := by
  intro F h; kernel_rfl
noncomputable def fs204 (C : YC) (lf : Nat) (a0 a1 : SV) (h : HW) : Rs := q204_42 C lf ff204 (some a0) (some a1) h
theorem fs204_eq (C : YC) (lf : Nat) (a0 a1 : SV) (h : HW) : yFn Tryz.prog fx204 C lf [a0, a1] h = fs204 C lf a0 a1 h := fnX (K := (fun F h => ff204 (F 4) h)) (by kernel_rfl) (((q204_42_eq C lf ff204 (fun F h => ff204 (F 4) h) (fun _ _ _ => none)) _ h).trans (by kernel_rfl))
noncomputable def fy204 : YX Tryz.prog := Y2 fx204 fs204 fs204_eq (by kernel_rfl)

noncomputable def fx205 : XF Tryz.prog := ⟨205, Tryz.f205, fun _ => .text, Tryz.func205, by kernel_rfl, by kernel_rfl, by kernel_rfl, by kernel_rfl⟩
noncomputable def ff205 (x4 : O) (h : HW) : Rs :=
 ob x4 fun a0 =>
 ob (ldN 32 a0 h) fun y1 =>
 some (.ret y1, h)
noncomputable def q205_10 (C : YC) (lf : Nat) (r : K1) (x0 x4 x5 : O) (h : HW) : Rs :=
 ob x5 fun a2 =>
 ob (semSlice Tryz.prog 292 a2 (some (.int .i64 4)) none) fun y3 =>
 ob x0 fun a4 =>
 b2 (ybl Tryz.prog .copy #[31, 9] [y3, a4] h) fun y5 h5 =>
 ob x5 fun a6 =>
 ob (ldN 32 a6 h5) fun y7 =>
 ob x4 fun a8 =>
 ob (st 32 a8 y7 h5) fun h9 =>
 r x4 h9
theorem q205_10_eq (C : YC) (lf : Nat) (r : K1) (KN : KF) (KE : KX) : ∀ F h, evX fx205 C lf [1, 1, 1] F h KN (fun F h => r (F 4) h) KE = q205_10 C lf r (F 0) (F 4) (F 5) h := by
  intro F h; kernel_rfl
noncomputable def q205_24 (C : YC) (lf : Nat) (n : K5) (e0 : K3) (x0 x1 x4 x5 x7 : O) (h : HW) : Rs :=
 ob x7 fun a12 =>
 ob (bin Tryz.prog .lss 3 a12 (.int .i64 4)) fun y13 =>
 yIf y13
 (ob x7 fun a14 =>
 ob x1 fun a15 =>
 ob (bin Tryz.prog .mul 3 (.int .i64 8) a14) fun y16 =>
 ob (bin Tryz.prog .shr 3 a15 y16) fun y17 =>
 ob (cvI .u8 y17) fun y18 =>
 ob x5 fun a19 =>
 ob (ixA 32 1 a19 a14) fun y20 =>
 ob (st 1 y20 y18 h) fun h21 =>
 ob x7 fun a22 =>
 ob (bin Tryz.prog .add 3 a22 (.int .i64 1)) fun y23 =>
 n x0 x1 x4 x5 (some y23) h21)
 (e0 x0 x4 x5 h)
theorem q205_24_eq (C : YC) (lf : Nat) (n : K5) (e0 : K3) (KR : KF) (KE : KX) : ∀ F h, evX fx205 C lf [1, 1, 0, 1, 0, 0] F h (fun F h => n (F 0) (F 1) (F 4) (F 5) (F 7) h) KR (bk 0 (fun F h => e0 (F 0) (F 4) (F 5) h) KE) = q205_24 C lf n e0 (F 0) (F 1) (F 4) (F 5) (F 7) h := by
  intro F h; kernel_rfl
noncomputable def l205_11 (C : YC) (lf : Nat) (e0 : K3) (k : O × O × O × O × O → HW → Rs) (s : O × O × O × O × O) (h : HW) : Rs :=
 q205_24 C lf (fun x0 x1 x4 x5 x7 h => k (x0, x1, x4, x5, x7) h) e0 s.1 s.2.1 s.2.2.1 s.2.2.2.1 s.2.2.2.2 h
noncomputable def q205_25 (C : YC) (lf : Nat) (n : K5) (x0 x1 x4 x5 : O) (h : HW) : Rs :=
 n x0 x1 x4 x5 (some (.int .i64 0)) h
theorem q205_25_eq (C : YC) (lf : Nat) (n : K5) (KR : KF) (KE : KX) : ∀ F h, evX fx205 C lf [1, 1, 0, 0] F h (fun F h => n (F 0) (F 1) (F 4) (F 5) (F 7) h) KR KE = q205_25 C lf n (F 0) (F 1) (F 4) (F 5) h := by
  intro F h; kernel_rfl
noncomputable def q205_26 (C : YC) (lf : Nat) (n : K3) (x0 x1 x4 x5 : O) (h : HW) : Rs :=
 q205_25 C lf (fun x0 x1 x4 x5 x7 h => lp (l205_11 C lf n) lf (x0, x1, x4, x5, x7) h) x0 x1 x4 x5 h
theorem q205_26_eq (C : YC) (lf : Nat) (n : K3) (KR : KF) (KE : KX) : ∀ F h, evX fx205 C lf [1, 1, 0] F h (fun F h => n (F 0) (F 4) (F 5) h) KR KE = q205_26 C lf n (F 0) (F 1) (F 4) (F 5) h := cSeq (a := subX fx205 [1, 1, 0, 0]) (b := subX fx205 [1, 1, 0, 1]) (by kernel_rfl) (B := (fun F h => lp (l205_11 C lf n) lf ((F 0), (F 1), (F 4), (F 5), (F 7)) h)) (cBlock (id := 0) (a := subX fx205 [1, 1, 0, 1, 0]) (by kernel_rfl) (cLoop (a := subX fx205 [1, 1, 0, 1, 0, 0]) (g := fun F => (F 0, F 1, F 4, F 5, F 7)) (body := l205_11 C lf n) (by kernel_rfl) (fun k => (q205_24_eq C lf (fun x0 x1 x4 x5 x7 h => k (x0, x1, x4, x5, x7) h) n KR KE)))) (q205_25_eq C lf (fun x0 x1 x4 x5 x7 h => lp (l205_11 C lf n) lf (x0, x1, x4, x5, x7) h) KR KE)
noncomputable def q205_27 (C : YC) (lf : Nat) (r : K1) (x0 x1 x4 x5 : O) (h : HW) : Rs :=
 q205_26 C lf (fun x0 x4 x5 h => q205_10 C lf r x0 x4 x5 h) x0 x1 x4 x5 h
theorem q205_27_eq (C : YC) (lf : Nat) (r : K1) (KN : KF) (KE : KX) : ∀ F h, evX fx205 C lf [1, 1] F h KN (fun F h => r (F 4) h) KE = q205_27 C lf r (F 0) (F 1) (F 4) (F 5) h := cSeq (a := subX fx205 [1, 1, 0]) (b := subX fx205 [1, 1, 1]) (by kernel_rfl) (B := (fun F h => q205_10 C lf r (F 0) (F 4) (F 5) h)) (q205_10_eq C lf r KN KE) (q205_26_eq C lf (fun x0 x4 x5 h => q205_10 C lf r x0 x4 x5 h) (fun F h => r (F 4) h) KE)
noncomputable def q205_29 (C : YC) (lf : Nat) (n : K4) (x0 x1 x4 : O) (h : HW) : Rs :=
 b2 (yAl Tryz.prog 292 h) fun y28 h28 =>
 n x0 x1 x4 (some y28) h28
theorem q205_29_eq (C : YC) (lf : Nat) (n : K4) (KR : KF) (KE : KX) : ∀ F h, evX fx205 C lf [1, 0] F h (fun F h => n (F 0) (F 1) (F 4) (F 5) h) KR KE = q205_29 C lf n (F 0) (F 1) (F 4) h := by
  intro F h; kernel_rfl
noncomputable def q205_30 (C : YC) (lf : Nat) (r : K1) (x0 x1 x4 : O) (h : HW) : Rs :=
 q205_29 C lf (fun x0 x1 x4 x5 h => q205_27 C lf r x0 x1 x4 x5 h) x0 x1 x4 h
theorem q205_30_eq (C : YC) (lf : Nat) (r : K1) (KN : KF) (KE : KX) : ∀ F h, evX fx205 C lf [1] F h KN (fun F h => r (F 4) h) KE = q205_30 C lf r (F 0) (F 1) (F 4) h := cSeq (a := subX fx205 [1, 0]) (b := subX fx205 [1, 1]) (by kernel_rfl) (B := (fun F h => q205_27 C lf r (F 0) (F 1) (F 4) (F 5) h)) (q205_27_eq C lf r KN KE) (q205_29_eq C lf (fun x0 x1 x4 x5 h => q205_27 C lf r x0 x1 x4 x5 h) (fun F h => r (F 4) h) KE)
noncomputable def q205_32 (C : YC) (lf : Nat) (n : K3) (x0 x1 : O) (h : HW) : Rs :=
 b2 (yAl Tryz.prog 292 h) fun y31 h31 =>
 n x0 x1 (some y31) h31
theorem q205_32_eq (C : YC) (lf : Nat) (n : K3) (KR : KF) (KE : KX) : ∀ F h, evX fx205 C lf [0] F h (fun F h => n (F 0) (F 1) (F 4) h) KR KE = q205_32 C lf n (F 0) (F 1) h := by
  intro F h; kernel_rfl
noncomputable def q205_33 (C : YC) (lf : Nat) (r : K1) (x0 x1 : O) (h : HW) : Rs :=
 q205_32 C lf (fun x0 x1 x4 h => q205_30 C lf r x0 x1 x4 h) x0 x1 h
theorem q205_33_eq (C : YC) (lf : Nat) (r : K1) (KN : KF) (KE : KX) : ∀ F h, evX fx205 C lf [] F h KN (fun F h => r (F 4) h) KE = q205_33 C lf r (F 0) (F 1) h := cSeq (a := subX fx205 [0]) (b := subX fx205 [1]) (by kernel_rfl) (B := (fun F h => q205_30 C lf r (F 0) (F 1) (F 4) h)) (q205_30_eq C lf r KN KE) (q205_32_eq C lf (fun x0 x1 x4 h => q205_30 C lf r x0 x1 x4 h) (fun F h => r (F 4) h) KE)
noncomputable def fs205 (C : YC) (lf : Nat) (a0 a1 : SV) (h : HW) : Rs := q205_33 C lf ff205 (some a0) (some a1) h
theorem fs205_eq (C : YC) (lf : Nat) (a0 a1 : SV) (h : HW) : yFn Tryz.prog fx205 C lf [a0, a1] h = fs205 C lf a0 a1 h := fnX (K := (fun F h => ff205 (F 4) h)) (by kernel_rfl) (((q205_33_eq C lf ff205 (fun F h => ff205 (F 4) h) (fun _ _ _ => none)) _ h).trans (by kernel_rfl))
noncomputable def fy205 : YX Tryz.prog := Y2 fx205 fs205 fs205_eq (by kernel_rfl)

noncomputable def fx206 : XF Tryz.prog := ⟨206, Tryz.f206, fun _ => .text, Tryz.func206, by kernel_rfl, by kernel_rfl, by kernel_rfl, by kernel_rfl⟩
noncomputable def ff206 (x4 x5 : O) (h : HW) : Rs :=
 ob x4 fun a0 =>
 ob x5 fun a1 =>
 some (.ret (.tup [a0, a1]), h)
noncomputable def q206_16 (C : YC) (lf : Nat) (r : K2) (x0 x1 : O) (h : HW) : Rs :=
 ob x0 fun a2 =>
 bc (C (.fn 202) [a2] h) fun y3 h3 =>
 ob (unE .not y3) fun y4 =>
 yIf y4
 (r (some (.val (.pointer none))) (some (.int .i64 14)) h3)
 (ob x0 fun a5 =>
 ob x1 fun a6 =>
 bc (C (.fn 204) [a5, a6] h3) fun y7 h7 =>
 ob (unE .not y7) fun y8 =>
 yIf y8
 (r (some (.val (.pointer none))) (some (.int .i64 2)) h7)
 (ob x0 fun a9 =>
 ob (semNil a9) fun y10 =>
 ob (fa 1 y10) fun y11 =>
 ob (ld1 y11 h7) fun y12 =>
 ob x1 fun a13 =>
 ob (bin Tryz.prog .sub 3 a13 (.int .i64 1)) fun y14 =>
 ob (ixS 308 y12 y14) fun y15 =>
 r (some y15) (some (.int .i64 0)) h7))
theorem q206_16_eq (C : YC) (lf : Nat) (r : K2) (KN : KF) (KE : KX) : ∀ F h, evX fx206 C lf [] F h KN (fun F h => r (F 4) (F 5) h) KE = q206_16 C lf r (F 0) (F 1) h := by
  intro F h; kernel_rfl
noncomputable def fs206 (C : YC) (lf : Nat) (a0 a1 : SV) (h : HW) : Rs := q206_16 C lf ff206 (some a0) (some a1) h
theorem fs206_eq (C : YC) (lf : Nat) (a0 a1 : SV) (h : HW) : yFn Tryz.prog fx206 C lf [a0, a1] h = fs206 C lf a0 a1 h := fnX (K := (fun F h => ff206 (F 4) (F 5) h)) (by kernel_rfl) (((q206_16_eq C lf ff206 (fun F h => ff206 (F 4) (F 5) h) (fun _ _ _ => none)) _ h).trans (by kernel_rfl))
noncomputable def fy206 : YX Tryz.prog := Y2 fx206 fs206 fs206_eq (by kernel_rfl)

noncomputable def fx207 : XF Tryz.prog := ⟨207, Tryz.f207, fun _ => .text, Tryz.func207, by kernel_rfl, by kernel_rfl, by kernel_rfl, by kernel_rfl⟩
noncomputable def ff207 (h : HW) : Rs :=
 some (.ret (.tup []), h)
noncomputable def q207_24 (C : YC) (lf : Nat) (n : K0) (x0 x1 : O) (h : HW) : Rs :=
 ob x1 fun a0 =>
 ob (semNil a0) fun y1 =>
 ob (fa 1 y1) fun y2 =>
 ob (fa 1 y2) fun y3 =>
 ob (ld1 y3 h) fun y4 =>
 ob (bin Tryz.prog .eql 3 y4 (.int .i64 0)) fun y5 =>
 bc (gd true (some y5) (ob x1 fun a6 =>
 some (.ret a6, h)) h) fun y7 h7 =>
 bc (gd true (some y5) (ob (semNil y7) fun y8 =>
 some (.ret y8, h7)) h7) fun y9 h9 =>
 bc (gd true (some y5) (ob (fa 11 y9) fun y10 =>
 some (.ret y10, h9)) h9) fun y11 h11 =>
 bc (gd true (some y5) (ob (ld1 y11 h11) fun y12 =>
 some (.ret y12, h11)) h11) fun y13 h13 =>
 bc (gd true (some y5) (ob (bin Tryz.prog .eql 3 y13 (.int .i64 0)) fun y14 =>
 some (.ret y14, h13)) h13) fun y15 h15 =>
 ob (ypk y5 y15 (.bool false)) fun y16 =>
 yIf y16
 (ob x0 fun a17 =>
 ob x1 fun a18 =>
 bc (C (.fn 246) [a17, a18, (.int .i64 0)] h15) fun y19 h19 =>
 ob x1 fun a20 =>
 ob (semBuild Tryz.prog 289 [] []) fun y21 =>
 ob (semNil a20) fun y22 =>
 ob (st 308 y22 y21 h19) fun h23 =>
 n h23)
 (n h15)
theorem q207_24_eq (C : YC) (lf : Nat) (n : K0) (KR : KF) (KE : KX) : ∀ F h, evX fx207 C lf [] F h (fun F h => n h) KR KE = q207_24 C lf n (F 0) (F 1) h := by
  intro F h; kernel_rfl
noncomputable def fs207 (C : YC) (lf : Nat) (a0 a1 : SV) (h : HW) : Rs := q207_24 C lf ff207 (some a0) (some a1) h
theorem fs207_eq (C : YC) (lf : Nat) (a0 a1 : SV) (h : HW) : yFn Tryz.prog fx207 C lf [a0, a1] h = fs207 C lf a0 a1 h := fnX (K := (fun F h => ff207 h)) (by kernel_rfl) (((q207_24_eq C lf ff207 (fun F h => ff207 h) (fun _ _ _ => none)) _ h).trans (by kernel_rfl))
noncomputable def fy207 : YX Tryz.prog := Y2 fx207 fs207 fs207_eq (by kernel_rfl)

end Go.Proofs.YtoglpmfmnknlaaaGreatDoor.Eva
