/- The example of the chapter lives: a run from the one table alone. -/
import Derived.Test.YtomialandfplkaaDoorCards
import Derived.Deep.DeepHandedRow
import Derived.Test.YtomialandfplkaaDoorTie
import Derived.WalkKit
import Derived.ProofKit
import Derived.OpenShut
import Derived.Lib.LaidTab
import Derived.Test.YtomialandfplkaaDoorWInodeBytesm2
import Derived.Test.YtomialandfplkaaDoorWInodeBytesm4
import Derived.Test.YtomialandfplkaaDoorWInodeBytesm3
set_option linter.unusedSimpArgs false
set_option linter.unusedVariables false
namespace Go.Proofs.YtomialandfplkaaDoor.Eva
open Go.Xe
set_option maxRecDepth 100000
set_option maxHeartbeats 400000
set_option linter.unusedVariables false
noncomputable section
noncomputable def fx9 : XF Tryd.prog := ⟨9, Tryd.f9, fun r => bif Nat.beq r 17 then .ord [1, 3, 5, 6, 4, 7, 0, 2, 8, 9] [(2, [4]), (0, [4])] else bif Nat.beq r 26 then .ord [1, 3, 5, 7, 8, 4, 6, 9, 0, 2, 10, 11] [(2, [4]), (0, [4])] else .text, Tryd.func9, by kernel_rfl, by kernel_rfl, by kernel_rfl, by kernel_rfl⟩
noncomputable def ff9 (x2 : O) (h : HW) : Rs :=
 ob x2 fun a0 =>
 some (.ret a0, h)
noncomputable def q9_41 (C : YC) (lf : Nat) (r : K1) (x3 x5 x6 : O) (h : HW) : Rs :=
 ob x3 fun a1 =>
 ob x5 fun a2 =>
 bc (C (.fn 41) [a1, a2, (.int .i64 0), (.int .i64 17793)] h) fun y3 h3 =>
 ob (ext 0 y3) fun y4 =>
 ob (ext 1 y3) fun y5 =>
 ob x3 fun a6 =>
 ob x5 fun a7 =>
 bc (C (.fn 42) [a6, a7] h3) fun y8 h8 =>
 ob (ext 0 y8) fun y9 =>
 ob (ext 1 y8) fun y10 =>
 b2 (yAl Tryd.prog 78 h8) fun y11 h11 =>
 ob (st 10 y11 y9 h11) fun h12 =>
 bc (C (.fn 34) [y5] h12) fun y13 h13 =>
 ob (bin Tryd.prog .eql 3 y13 (.int .i64 0)) fun y14 =>
 bc (gd true (some y14) (some (.ret y10, h13)) h13) fun y15 h15 =>
 bc (gd true (some y14) (bc (C (.fn 34) [y15] h15) fun y16 h16 =>
 some (.ret y16, h16)) h15) fun y17 h17 =>
 bc (gd true (some y14) (ob (bin Tryd.prog .eql 3 y17 (.int .i64 0)) fun y18 =>
 some (.ret y18, h17)) h17) fun y19 h19 =>
 ob (ypk y14 y19 (.bool false)) fun y20 =>
 bc (gd true (some y20) (ob (fa 4 y11) fun y21 =>
 some (.ret y21, h19)) h19) fun y22 h22 =>
 bc (gd true (some y20) (ob (ld1 y22 h22) fun y23 =>
 some (.ret y23, h22)) h22) fun y24 h24 =>
 bc (gd true (some y20) (ob x6 fun a25 =>
 some (.ret a25, h24)) h24) fun y26 h26 =>
 bc (gd true (some y20) (ob (lenE Tryd.prog 24 y26) fun y27 =>
 some (.ret y27, h26)) h26) fun y28 h28 =>
 bc (gd true (some y20) (ob (bin Tryd.prog .eql 3 y24 y28) fun y29 =>
 some (.ret y29, h28)) h28) fun y30 h30 =>
 ob (ypk y20 y30 (.bool false)) fun y31 =>
 bc (gd true (some y31) (some (.ret y4, h30)) h30) fun y32 h32 =>
 bc (gd true (some y31) (ob x6 fun a33 =>
 some (.ret a33, h32)) h32) fun y34 h34 =>
 bc (gd true (some y31) (bc (C (.fn 43) [y32, y34] h34) fun y35 h35 =>
 some (.ret y35, h35)) h34) fun y36 h36 =>
 ob (ypk y31 y36 (.bool false)) fun y37 =>
 bc (gd true (some y37) (bc (C (.fn 35) [] h36) fun y38 h38 =>
 some (.ret y38, h38)) h36) fun y39 h39 =>
 ob (ypk y37 y39 (.bool false)) fun y40 =>
 r (some y40) h39
theorem q9_41_eq (C : YC) (lf : Nat) (r : K1) (KN : KF) (KE : KX) : ∀ F h, evX fx9 C lf [1, 1, 1, 1, 1, 1, 1] F h KN (fun F h => r (F 2) h) KE = q9_41 C lf r (F 3) (F 5) (F 6) h := by
  intro F h; kernel_rfl
noncomputable def q9_45 (C : YC) (lf : Nat) (n : K6) (x3 x5 x6 x35 x36 x37 : O) (h : HW) : Rs :=
 ob x37 fun a43 =>
 ob (bin Tryd.prog .add 3 a43 (.int .i64 1)) fun y44 =>
 n x3 x5 x6 x35 x36 (some y44) h
theorem q9_45_eq (C : YC) (lf : Nat) (n : K6) (KR : KF) (K0 : KF) (KE : KX) : ∀ F h, evX fx9 C lf [1, 1, 1, 1, 1, 1, 0, 1, 0, 0, 1, 1, 1] F h (fun F h => n (F 3) (F 5) (F 6) (F 35) (F 36) (F 37) h) KR (bk 0 K0 KE) = q9_45 C lf n (F 3) (F 5) (F 6) (F 35) (F 36) (F 37) h := by
  intro F h; kernel_rfl
noncomputable def q9_57 (C : YC) (lf : Nat) (n : K6) (x3 x5 x6 x8 x9 x35 x36 x37 : O) (h : HW) : Rs :=
 ob x6 fun a46 =>
 ob x8 fun a47 =>
 ob (fa 0 a47) fun y48 =>
 ob (ld1 y48 h) fun y49 =>
 ob (semSlice Tryd.prog 24 a46 (some y49) none) fun y50 =>
 ob x8 fun a51 =>
 ob (fa 1 a51) fun y52 =>
 ob (ld1 y52 h) fun y53 =>
 ob x9 fun a54 =>
 ob (semSlice Tryd.prog 24 y53 none (some a54)) fun y55 =>
 b2 (ybl Tryd.prog .copy #[24, 24] [y50, y55] h) fun y56 h56 =>
 n x3 x5 x6 x35 x36 x37 h56
theorem q9_57_eq (C : YC) (lf : Nat) (n : K6) (KR : KF) (K1 : KF) (K0 : KF) (KE : KX) : ∀ F h, evX fx9 C lf [1, 1, 1, 1, 1, 1, 0, 1, 0, 0, 1, 1, 0, 0, 1, 1, 1, 1, 1, 1, 1, 1, 1] F h (fun F h => n (F 3) (F 5) (F 6) (F 35) (F 36) (F 37) h) KR (bk 1 K1 (bk 0 K0 KE)) = q9_57 C lf n (F 3) (F 5) (F 6) (F 8) (F 9) (F 35) (F 36) (F 37) h := by
  intro F h; kernel_rfl
noncomputable def q9_78 (C : YC) (lf : Nat) (n : K8) (x3 x5 x6 x8 x9 x35 x36 x37 : O) (h : HW) : Rs :=
 ob x8 fun a58 =>
 ob (fa 0 a58) fun y59 =>
 ob (ld1 y59 h) fun y60 =>
 ob x9 fun a61 =>
 ob (bin Tryd.prog .add 3 y60 a61) fun y62 =>
 ob x6 fun a63 =>
 ob (lenE Tryd.prog 24 a63) fun y64 =>
 ob (bin Tryd.prog .gtr 3 y62 y64) fun y65 =>
 yIf y65
 (ob x6 fun a66 =>
 ob x8 fun a67 =>
 ob (fa 0 a67) fun y68 =>
 ob x9 fun a69 =>
 ob x6 fun a70 =>
 ob (lenE Tryd.prog 24 a70) fun y71 =>
 ob (ld1 y68 h) fun y72 =>
 ob (bin Tryd.prog .add 3 y72 a69) fun y73 =>
 ob (bin Tryd.prog .sub 3 y73 y71) fun y74 =>
 b2 (ybs Tryd.prog 24 0 [] [] h) fun y75 h75 =>
 ck (chkH [(4, adrO (some y68))] h h75 [4]) <|
 b2 (ybl Tryd.prog .append #[24, 24] [y75, a66] h75) fun y76 h76 =>
 ck (chkH [(4, adrO (some y68))] h75 h76 [4]) <|
 b2 (ybl Tryd.prog .append #[24, 3] [y76, y74] h76) fun y77 h77 =>
 n x3 x5 (some y77) x8 x9 x35 x36 x37 h77)
 (n x3 x5 x6 x8 x9 x35 x36 x37 h)
theorem q9_78_eq (C : YC) (lf : Nat) (n : K8) (KR : KF) (K1 : KF) (K0 : KF) (KE : KX) : ∀ F h, evX fx9 C lf [1, 1, 1, 1, 1, 1, 0, 1, 0, 0, 1, 1, 0, 0, 1, 1, 1, 1, 1, 1, 1, 1, 0] F h (fun F h => n (F 3) (F 5) (F 6) (F 8) (F 9) (F 35) (F 36) (F 37) h) KR (bk 1 K1 (bk 0 K0 KE)) = q9_78 C lf n (F 3) (F 5) (F 6) (F 8) (F 9) (F 35) (F 36) (F 37) h := by
  intro F h; kernel_rfl
noncomputable def q9_79 (C : YC) (lf : Nat) (n : K6) (x3 x5 x6 x8 x9 x35 x36 x37 : O) (h : HW) : Rs :=
 q9_78 C lf (fun x3 x5 x6 x8 x9 x35 x36 x37 h => q9_57 C lf n x3 x5 x6 x8 x9 x35 x36 x37 h) x3 x5 x6 x8 x9 x35 x36 x37 h
theorem q9_79_eq (C : YC) (lf : Nat) (n : K6) (KR : KF) (K1 : KF) (K0 : KF) (KE : KX) : ∀ F h, evX fx9 C lf [1, 1, 1, 1, 1, 1, 0, 1, 0, 0, 1, 1, 0, 0, 1, 1, 1, 1, 1, 1, 1, 1] F h (fun F h => n (F 3) (F 5) (F 6) (F 35) (F 36) (F 37) h) KR (bk 1 K1 (bk 0 K0 KE)) = q9_79 C lf n (F 3) (F 5) (F 6) (F 8) (F 9) (F 35) (F 36) (F 37) h := cSeq (a := subX fx9 [1, 1, 1, 1, 1, 1, 0, 1, 0, 0, 1, 1, 0, 0, 1, 1, 1, 1, 1, 1, 1, 1, 0]) (b := subX fx9 [1, 1, 1, 1, 1, 1, 0, 1, 0, 0, 1, 1, 0, 0, 1, 1, 1, 1, 1, 1, 1, 1, 1]) (by kernel_rfl) (B := (fun F h => q9_57 C lf n (F 3) (F 5) (F 6) (F 8) (F 9) (F 35) (F 36) (F 37) h)) (q9_57_eq C lf n KR K1 K0 KE) (q9_78_eq C lf (fun x3 x5 x6 x8 x9 x35 x36 x37 h => q9_57 C lf n x3 x5 x6 x8 x9 x35 x36 x37 h) KR K1 K0 KE)
noncomputable def q9_90 (C : YC) (lf : Nat) (n : K8) (r : K1) (x3 x5 x6 x8 x9 x10 x11 x35 x36 x37 : O) (h : HW) : Rs :=
 ob x10 fun a80 =>
 ob x9 fun a81 =>
 ob (bin Tryd.prog .neq 3 a80 a81) fun y82 =>
 bc (gd false (some y82) (ob x11 fun a83 =>
 some (.ret a83, h)) h) fun y84 h84 =>
 bc (gd false (some y82) (bc (C (.fn 34) [y84] h84) fun y85 h85 =>
 some (.ret y85, h85)) h84) fun y86 h86 =>
 bc (gd false (some y82) (ob (bin Tryd.prog .neq 3 y86 (.int .i64 0)) fun y87 =>
 some (.ret y87, h86)) h86) fun y88 h88 =>
 ob (ypk y82 (.bool true) y88) fun y89 =>
 yIf y89
 (r (some (.bool false)) h88)
 (n x3 x5 x6 x8 x9 x35 x36 x37 h88)
theorem q9_90_eq (C : YC) (lf : Nat) (n : K8) (r : K1) (K1 : KF) (K0 : KF) (KE : KX) : ∀ F h, evX fx9 C lf [1, 1, 1, 1, 1, 1, 0, 1, 0, 0, 1, 1, 0, 0, 1, 1, 1, 1, 1, 1, 1, 0] F h (fun F h => n (F 3) (F 5) (F 6) (F 8) (F 9) (F 35) (F 36) (F 37) h) (fun F h => r (F 2) h) (bk 1 K1 (bk 0 K0 KE)) = q9_90 C lf n r (F 3) (F 5) (F 6) (F 8) (F 9) (F 10) (F 11) (F 35) (F 36) (F 37) h := by
  intro F h; kernel_rfl
noncomputable def q9_91 (C : YC) (lf : Nat) (n : K6) (r : K1) (x3 x5 x6 x8 x9 x10 x11 x35 x36 x37 : O) (h : HW) : Rs :=
 q9_90 C lf (fun x3 x5 x6 x8 x9 x35 x36 x37 h => q9_79 C lf n x3 x5 x6 x8 x9 x35 x36 x37 h) r x3 x5 x6 x8 x9 x10 x11 x35 x36 x37 h
theorem q9_91_eq (C : YC) (lf : Nat) (n : K6) (r : K1) (K1 : KF) (K0 : KF) (KE : KX) : ∀ F h, evX fx9 C lf [1, 1, 1, 1, 1, 1, 0, 1, 0, 0, 1, 1, 0, 0, 1, 1, 1, 1, 1, 1, 1] F h (fun F h => n (F 3) (F 5) (F 6) (F 35) (F 36) (F 37) h) (fun F h => r (F 2) h) (bk 1 K1 (bk 0 K0 KE)) = q9_91 C lf n r (F 3) (F 5) (F 6) (F 8) (F 9) (F 10) (F 11) (F 35) (F 36) (F 37) h := cSeq (a := subX fx9 [1, 1, 1, 1, 1, 1, 0, 1, 0, 0, 1, 1, 0, 0, 1, 1, 1, 1, 1, 1, 1, 0]) (b := subX fx9 [1, 1, 1, 1, 1, 1, 0, 1, 0, 0, 1, 1, 0, 0, 1, 1, 1, 1, 1, 1, 1, 1]) (by kernel_rfl) (B := (fun F h => q9_79 C lf n (F 3) (F 5) (F 6) (F 8) (F 9) (F 35) (F 36) (F 37) h)) (q9_79_eq C lf n (fun F h => r (F 2) h) K1 K0 KE) (q9_90_eq C lf (fun x3 x5 x6 x8 x9 x35 x36 x37 h => q9_79 C lf n x3 x5 x6 x8 x9 x35 x36 x37 h) r K1 K0 KE)
noncomputable def q9_94 (C : YC) (lf : Nat) (n : K10) (e1 : K6) (x3 x5 x6 x8 x9 x10 x11 x35 x36 x37 : O) (h : HW) : Rs :=
 ob x9 fun a92 =>
 ob (bin Tryd.prog .eql 3 a92 (.int .i64 0)) fun y93 =>
 yIf y93
 (e1 x3 x5 x6 x35 x36 x37 h)
 (n x3 x5 x6 x8 x9 x10 x11 x35 x36 x37 h)
theorem q9_94_eq (C : YC) (lf : Nat) (n : K10) (e1 : K6) (KR : KF) (K0 : KF) (KE : KX) : ∀ F h, evX fx9 C lf [1, 1, 1, 1, 1, 1, 0, 1, 0, 0, 1, 1, 0, 0, 1, 1, 1, 1, 1, 1, 0] F h (fun F h => n (F 3) (F 5) (F 6) (F 8) (F 9) (F 10) (F 11) (F 35) (F 36) (F 37) h) KR (bk 1 (fun F h => e1 (F 3) (F 5) (F 6) (F 35) (F 36) (F 37) h) (bk 0 K0 KE)) = q9_94 C lf n e1 (F 3) (F 5) (F 6) (F 8) (F 9) (F 10) (F 11) (F 35) (F 36) (F 37) h := by
  intro F h; kernel_rfl
noncomputable def q9_95 (C : YC) (lf : Nat) (n : K6) (r : K1) (e1 : K6) (x3 x5 x6 x8 x9 x10 x11 x35 x36 x37 : O) (h : HW) : Rs :=
 q9_94 C lf (fun x3 x5 x6 x8 x9 x10 x11 x35 x36 x37 h => q9_91 C lf n r x3 x5 x6 x8 x9 x10 x11 x35 x36 x37 h) e1 x3 x5 x6 x8 x9 x10 x11 x35 x36 x37 h
theorem q9_95_eq (C : YC) (lf : Nat) (n : K6) (r : K1) (e1 : K6) (K0 : KF) (KE : KX) : ∀ F h, evX fx9 C lf [1, 1, 1, 1, 1, 1, 0, 1, 0, 0, 1, 1, 0, 0, 1, 1, 1, 1, 1, 1] F h (fun F h => n (F 3) (F 5) (F 6) (F 35) (F 36) (F 37) h) (fun F h => r (F 2) h) (bk 1 (fun F h => e1 (F 3) (F 5) (F 6) (F 35) (F 36) (F 37) h) (bk 0 K0 KE)) = q9_95 C lf n r e1 (F 3) (F 5) (F 6) (F 8) (F 9) (F 10) (F 11) (F 35) (F 36) (F 37) h := cSeq (a := subX fx9 [1, 1, 1, 1, 1, 1, 0, 1, 0, 0, 1, 1, 0, 0, 1, 1, 1, 1, 1, 1, 0]) (b := subX fx9 [1, 1, 1, 1, 1, 1, 0, 1, 0, 0, 1, 1, 0, 0, 1, 1, 1, 1, 1, 1, 1]) (by kernel_rfl) (B := (fun F h => q9_91 C lf n r (F 3) (F 5) (F 6) (F 8) (F 9) (F 10) (F 11) (F 35) (F 36) (F 37) h)) (q9_91_eq C lf n r (fun F h => e1 (F 3) (F 5) (F 6) (F 35) (F 36) (F 37) h) K0 KE) (q9_94_eq C lf (fun x3 x5 x6 x8 x9 x10 x11 x35 x36 x37 h => q9_91 C lf n r x3 x5 x6 x8 x9 x10 x11 x35 x36 x37 h) e1 (fun F h => r (F 2) h) K0 KE)
noncomputable def q9_107 (C : YC) (lf : Nat) (n : K10) (x3 x5 x6 x8 x9 x35 x36 x37 : O) (h : HW) : Rs :=
 ob x3 fun a96 =>
 ob x5 fun a97 =>
 ob x8 fun a98 =>
 ob (fa 0 a98) fun y99 =>
 ob (ld1 y99 h) fun y100 =>
 ob x8 fun a101 =>
 ob (fa 1 a101) fun y102 =>
 ob (ld1 y102 h) fun y103 =>
 bc (C (.fn 38) [a96, a97, y100, y103] h) fun y104 h104 =>
 ob (ext 0 y104) fun y105 =>
 ob (ext 1 y104) fun y106 =>
 n x3 x5 x6 x8 x9 (some y105) (some y106) x35 x36 x37 h104
theorem q9_107_eq (C : YC) (lf : Nat) (n : K10) (KR : KF) (K1 : KF) (K0 : KF) (KE : KX) : ∀ F h, evX fx9 C lf [1, 1, 1, 1, 1, 1, 0, 1, 0, 0, 1, 1, 0, 0, 1, 1, 1, 1, 1, 0] F h (fun F h => n (F 3) (F 5) (F 6) (F 8) (F 9) (F 10) (F 11) (F 35) (F 36) (F 37) h) KR (bk 1 K1 (bk 0 K0 KE)) = q9_107 C lf n (F 3) (F 5) (F 6) (F 8) (F 9) (F 35) (F 36) (F 37) h := by
  intro F h; kernel_rfl
noncomputable def q9_108 (C : YC) (lf : Nat) (n : K6) (r : K1) (e1 : K6) (x3 x5 x6 x8 x9 x35 x36 x37 : O) (h : HW) : Rs :=
 q9_107 C lf (fun x3 x5 x6 x8 x9 x10 x11 x35 x36 x37 h => q9_95 C lf n r e1 x3 x5 x6 x8 x9 x10 x11 x35 x36 x37 h) x3 x5 x6 x8 x9 x35 x36 x37 h
theorem q9_108_eq (C : YC) (lf : Nat) (n : K6) (r : K1) (e1 : K6) (K0 : KF) (KE : KX) : ∀ F h, evX fx9 C lf [1, 1, 1, 1, 1, 1, 0, 1, 0, 0, 1, 1, 0, 0, 1, 1, 1, 1, 1] F h (fun F h => n (F 3) (F 5) (F 6) (F 35) (F 36) (F 37) h) (fun F h => r (F 2) h) (bk 1 (fun F h => e1 (F 3) (F 5) (F 6) (F 35) (F 36) (F 37) h) (bk 0 K0 KE)) = q9_108 C lf n r e1 (F 3) (F 5) (F 6) (F 8) (F 9) (F 35) (F 36) (F 37) h := cSeq (a := subX fx9 [1, 1, 1, 1, 1, 1, 0, 1, 0, 0, 1, 1, 0, 0, 1, 1, 1, 1, 1, 0]) (b := subX fx9 [1, 1, 1, 1, 1, 1, 0, 1, 0, 0, 1, 1, 0, 0, 1, 1, 1, 1, 1, 1]) (by kernel_rfl) (B := (fun F h => q9_95 C lf n r e1 (F 3) (F 5) (F 6) (F 8) (F 9) (F 10) (F 11) (F 35) (F 36) (F 37) h)) (q9_95_eq C lf n r e1 K0 KE) (q9_107_eq C lf (fun x3 x5 x6 x8 x9 x10 x11 x35 x36 x37 h => q9_95 C lf n r e1 x3 x5 x6 x8 x9 x10 x11 x35 x36 x37 h) (fun F h => r (F 2) h) (fun F h => e1 (F 3) (F 5) (F 6) (F 35) (F 36) (F 37) h) K0 KE)
noncomputable def q9_119 (C : YC) (lf : Nat) (n : K8) (x3 x5 x6 x8 x9 x35 x36 x37 : O) (h : HW) : Rs :=
 ob x9 fun a109 =>
 ob x8 fun a110 =>
 ob (fa 0 a110) fun y111 =>
 ob (ld1 y111 h) fun y112 =>
 ob (bin Tryd.prog .sub 3 (.int .i64 17792) y112) fun y113 =>
 ob (bin Tryd.prog .gtr 3 a109 y113) fun y114 =>
 yIf y114
 (ob x8 fun a115 =>
 ob (fa 0 a115) fun y116 =>
 ob (ld1 y116 h) fun y117 =>
 ob (bin Tryd.prog .sub 3 (.int .i64 17792) y117) fun y118 =>
 n x3 x5 x6 x8 (some y118) x35 x36 x37 h)
 (n x3 x5 x6 x8 x9 x35 x36 x37 h)
theorem q9_119_eq (C : YC) (lf : Nat) (n : K8) (KR : KF) (K1 : KF) (K0 : KF) (KE : KX) : ∀ F h, evX fx9 C lf [1, 1, 1, 1, 1, 1, 0, 1, 0, 0, 1, 1, 0, 0, 1, 1, 1, 1, 0] F h (fun F h => n (F 3) (F 5) (F 6) (F 8) (F 9) (F 35) (F 36) (F 37) h) KR (bk 1 K1 (bk 0 K0 KE)) = q9_119 C lf n (F 3) (F 5) (F 6) (F 8) (F 9) (F 35) (F 36) (F 37) h := by
  intro F h; kernel_rfl
noncomputable def q9_120 (C : YC) (lf : Nat) (n : K6) (r : K1) (e1 : K6) (x3 x5 x6 x8 x9 x35 x36 x37 : O) (h : HW) : Rs :=
 q9_119 C lf (fun x3 x5 x6 x8 x9 x35 x36 x37 h => q9_108 C lf n r e1 x3 x5 x6 x8 x9 x35 x36 x37 h) x3 x5 x6 x8 x9 x35 x36 x37 h
theorem q9_120_eq (C : YC) (lf : Nat) (n : K6) (r : K1) (e1 : K6) (K0 : KF) (KE : KX) : ∀ F h, evX fx9 C lf [1, 1, 1, 1, 1, 1, 0, 1, 0, 0, 1, 1, 0, 0, 1, 1, 1, 1] F h (fun F h => n (F 3) (F 5) (F 6) (F 35) (F 36) (F 37) h) (fun F h => r (F 2) h) (bk 1 (fun F h => e1 (F 3) (F 5) (F 6) (F 35) (F 36) (F 37) h) (bk 0 K0 KE)) = q9_120 C lf n r e1 (F 3) (F 5) (F 6) (F 8) (F 9) (F 35) (F 36) (F 37) h := cSeq (a := subX fx9 [1, 1, 1, 1, 1, 1, 0, 1, 0, 0, 1, 1, 0, 0, 1, 1, 1, 1, 0]) (b := subX fx9 [1, 1, 1, 1, 1, 1, 0, 1, 0, 0, 1, 1, 0, 0, 1, 1, 1, 1, 1]) (by kernel_rfl) (B := (fun F h => q9_108 C lf n r e1 (F 3) (F 5) (F 6) (F 8) (F 9) (F 35) (F 36) (F 37) h)) (q9_108_eq C lf n r e1 K0 KE) (q9_119_eq C lf (fun x3 x5 x6 x8 x9 x35 x36 x37 h => q9_108 C lf n r e1 x3 x5 x6 x8 x9 x35 x36 x37 h) (fun F h => r (F 2) h) (fun F h => e1 (F 3) (F 5) (F 6) (F 35) (F 36) (F 37) h) K0 KE)
noncomputable def q9_125 (C : YC) (lf : Nat) (n : K8) (x3 x5 x6 x8 x35 x36 x37 : O) (h : HW) : Rs :=
 ob x8 fun a121 =>
 ob (fa 1 a121) fun y122 =>
 ob (ld1 y122 h) fun y123 =>
 ob (lenE Tryd.prog 24 y123) fun y124 =>
 n x3 x5 x6 x8 (some y124) x35 x36 x37 h
theorem q9_125_eq (C : YC) (lf : Nat) (n : K8) (KR : KF) (K1 : KF) (K0 : KF) (KE : KX) : ∀ F h, evX fx9 C lf [1, 1, 1, 1, 1, 1, 0, 1, 0, 0, 1, 1, 0, 0, 1, 1, 1, 0] F h (fun F h => n (F 3) (F 5) (F 6) (F 8) (F 9) (F 35) (F 36) (F 37) h) KR (bk 1 K1 (bk 0 K0 KE)) = q9_125 C lf n (F 3) (F 5) (F 6) (F 8) (F 35) (F 36) (F 37) h := by
  intro F h; kernel_rfl
noncomputable def q9_126 (C : YC) (lf : Nat) (n : K6) (r : K1) (e1 : K6) (x3 x5 x6 x8 x35 x36 x37 : O) (h : HW) : Rs :=
 q9_125 C lf (fun x3 x5 x6 x8 x9 x35 x36 x37 h => q9_120 C lf n r e1 x3 x5 x6 x8 x9 x35 x36 x37 h) x3 x5 x6 x8 x35 x36 x37 h
theorem q9_126_eq (C : YC) (lf : Nat) (n : K6) (r : K1) (e1 : K6) (K0 : KF) (KE : KX) : ∀ F h, evX fx9 C lf [1, 1, 1, 1, 1, 1, 0, 1, 0, 0, 1, 1, 0, 0, 1, 1, 1] F h (fun F h => n (F 3) (F 5) (F 6) (F 35) (F 36) (F 37) h) (fun F h => r (F 2) h) (bk 1 (fun F h => e1 (F 3) (F 5) (F 6) (F 35) (F 36) (F 37) h) (bk 0 K0 KE)) = q9_126 C lf n r e1 (F 3) (F 5) (F 6) (F 8) (F 35) (F 36) (F 37) h := cSeq (a := subX fx9 [1, 1, 1, 1, 1, 1, 0, 1, 0, 0, 1, 1, 0, 0, 1, 1, 1, 0]) (b := subX fx9 [1, 1, 1, 1, 1, 1, 0, 1, 0, 0, 1, 1, 0, 0, 1, 1, 1, 1]) (by kernel_rfl) (B := (fun F h => q9_120 C lf n r e1 (F 3) (F 5) (F 6) (F 8) (F 9) (F 35) (F 36) (F 37) h)) (q9_120_eq C lf n r e1 K0 KE) (q9_125_eq C lf (fun x3 x5 x6 x8 x9 x35 x36 x37 h => q9_120 C lf n r e1 x3 x5 x6 x8 x9 x35 x36 x37 h) (fun F h => r (F 2) h) (fun F h => e1 (F 3) (F 5) (F 6) (F 35) (F 36) (F 37) h) K0 KE)
noncomputable def q9_137 (C : YC) (lf : Nat) (e1 : K6) (x3 x5 x6 x8 x35 x36 x37 : O) (h : HW) : Rs :=
 ob x6 fun a127 =>
 ob x8 fun a128 =>
 ob (fa 0 a128) fun y129 =>
 ob x6 fun a130 =>
 ob (lenE Tryd.prog 24 a130) fun y131 =>
 ob (ld1 y129 h) fun y132 =>
 ob (bin Tryd.prog .sub 3 y132 y131) fun y133 =>
 b2 (ybs Tryd.prog 24 0 [] [] h) fun y134 h134 =>
 ck (chkH [(4, adrO (some y129))] h h134 [4]) <|
 b2 (ybl Tryd.prog .append #[24, 24] [y134, a127] h134) fun y135 h135 =>
 ck (chkH [(4, adrO (some y129))] h134 h135 [4]) <|
 b2 (ybl Tryd.prog .append #[24, 3] [y135, y133] h135) fun y136 h136 =>
 e1 x3 x5 (some y136) x35 x36 x37 h136
theorem q9_137_eq (C : YC) (lf : Nat) (e1 : K6) (KN : KF) (KR : KF) (K0 : KF) (KE : KX) : ∀ F h, evX fx9 C lf [1, 1, 1, 1, 1, 1, 0, 1, 0, 0, 1, 1, 0, 0, 1, 1, 0, 1, 0, 1, 1] F h KN KR (bk 1 (fun F h => e1 (F 3) (F 5) (F 6) (F 35) (F 36) (F 37) h) (bk 0 K0 KE)) = q9_137 C lf e1 (F 3) (F 5) (F 6) (F 8) (F 35) (F 36) (F 37) h := by
  intro F h; kernel_rfl
noncomputable def q9_149 (C : YC) (lf : Nat) (n : K7) (x3 x5 x6 x8 x35 x36 x37 : O) (h : HW) : Rs :=
 ob x8 fun a138 =>
 ob (fa 0 a138) fun y139 =>
 ob (ld1 y139 h) fun y140 =>
 ob x6 fun a141 =>
 ob (lenE Tryd.prog 24 a141) fun y142 =>
 ob (bin Tryd.prog .lss 3 y140 y142) fun y143 =>
 yIf y143
 (ob x6 fun a144 =>
 ob x8 fun a145 =>
 ob (fa 0 a145) fun y146 =>
 ob (ld1 y146 h) fun y147 =>
 ob (semSlice Tryd.prog 24 a144 none (some y147)) fun y148 =>
 n x3 x5 (some y148) x8 x35 x36 x37 h)
 (n x3 x5 x6 x8 x35 x36 x37 h)
theorem q9_149_eq (C : YC) (lf : Nat) (n : K7) (KR : KF) (K1 : KF) (K0 : KF) (KE : KX) : ∀ F h, evX fx9 C lf [1, 1, 1, 1, 1, 1, 0, 1, 0, 0, 1, 1, 0, 0, 1, 1, 0, 1, 0, 1, 0] F h (fun F h => n (F 3) (F 5) (F 6) (F 8) (F 35) (F 36) (F 37) h) KR (bk 1 K1 (bk 0 K0 KE)) = q9_149 C lf n (F 3) (F 5) (F 6) (F 8) (F 35) (F 36) (F 37) h := by
  intro F h; kernel_rfl
noncomputable def q9_150 (C : YC) (lf : Nat) (e1 : K6) (x3 x5 x6 x8 x35 x36 x37 : O) (h : HW) : Rs :=
 q9_149 C lf (fun x3 x5 x6 x8 x35 x36 x37 h => q9_137 C lf e1 x3 x5 x6 x8 x35 x36 x37 h) x3 x5 x6 x8 x35 x36 x37 h
theorem q9_150_eq (C : YC) (lf : Nat) (e1 : K6) (KN : KF) (KR : KF) (K0 : KF) (KE : KX) : ∀ F h, evX fx9 C lf [1, 1, 1, 1, 1, 1, 0, 1, 0, 0, 1, 1, 0, 0, 1, 1, 0, 1, 0, 1] F h KN KR (bk 1 (fun F h => e1 (F 3) (F 5) (F 6) (F 35) (F 36) (F 37) h) (bk 0 K0 KE)) = q9_150 C lf e1 (F 3) (F 5) (F 6) (F 8) (F 35) (F 36) (F 37) h := cSeq (a := subX fx9 [1, 1, 1, 1, 1, 1, 0, 1, 0, 0, 1, 1, 0, 0, 1, 1, 0, 1, 0, 1, 0]) (b := subX fx9 [1, 1, 1, 1, 1, 1, 0, 1, 0, 0, 1, 1, 0, 0, 1, 1, 0, 1, 0, 1, 1]) (by kernel_rfl) (B := (fun F h => q9_137 C lf e1 (F 3) (F 5) (F 6) (F 8) (F 35) (F 36) (F 37) h)) (q9_137_eq C lf e1 KN KR K0 KE) (q9_149_eq C lf (fun x3 x5 x6 x8 x35 x36 x37 h => q9_137 C lf e1 x3 x5 x6 x8 x35 x36 x37 h) KR (fun F h => e1 (F 3) (F 5) (F 6) (F 35) (F 36) (F 37) h) K0 KE)
noncomputable def q9_159 (C : YC) (lf : Nat) (n : K7) (r : K1) (x3 x5 x6 x8 x35 x36 x37 : O) (h : HW) : Rs :=
 ob x3 fun a151 =>
 ob x5 fun a152 =>
 ob x8 fun a153 =>
 ob (fa 0 a153) fun y154 =>
 ob (ld1 y154 h) fun y155 =>
 bc (C (.fn 40) [a151, a152, y155] h) fun y156 h156 =>
 bc (C (.fn 34) [y156] h156) fun y157 h157 =>
 ob (bin Tryd.prog .neq 3 y157 (.int .i64 0)) fun y158 =>
 yIf y158
 (r (some (.bool false)) h157)
 (n x3 x5 x6 x8 x35 x36 x37 h157)
theorem q9_159_eq (C : YC) (lf : Nat) (n : K7) (r : K1) (K1 : KF) (K0 : KF) (KE : KX) : ∀ F h, evX fx9 C lf [1, 1, 1, 1, 1, 1, 0, 1, 0, 0, 1, 1, 0, 0, 1, 1, 0, 1, 0, 0] F h (fun F h => n (F 3) (F 5) (F 6) (F 8) (F 35) (F 36) (F 37) h) (fun F h => r (F 2) h) (bk 1 K1 (bk 0 K0 KE)) = q9_159 C lf n r (F 3) (F 5) (F 6) (F 8) (F 35) (F 36) (F 37) h := by
  intro F h; kernel_rfl
noncomputable def q9_160 (C : YC) (lf : Nat) (r : K1) (e1 : K6) (x3 x5 x6 x8 x35 x36 x37 : O) (h : HW) : Rs :=
 q9_159 C lf (fun x3 x5 x6 x8 x35 x36 x37 h => q9_150 C lf e1 x3 x5 x6 x8 x35 x36 x37 h) r x3 x5 x6 x8 x35 x36 x37 h
theorem q9_160_eq (C : YC) (lf : Nat) (r : K1) (e1 : K6) (KN : KF) (K0 : KF) (KE : KX) : ∀ F h, evX fx9 C lf [1, 1, 1, 1, 1, 1, 0, 1, 0, 0, 1, 1, 0, 0, 1, 1, 0, 1, 0] F h KN (fun F h => r (F 2) h) (bk 1 (fun F h => e1 (F 3) (F 5) (F 6) (F 35) (F 36) (F 37) h) (bk 0 K0 KE)) = q9_160 C lf r e1 (F 3) (F 5) (F 6) (F 8) (F 35) (F 36) (F 37) h := cSeq (a := subX fx9 [1, 1, 1, 1, 1, 1, 0, 1, 0, 0, 1, 1, 0, 0, 1, 1, 0, 1, 0, 0]) (b := subX fx9 [1, 1, 1, 1, 1, 1, 0, 1, 0, 0, 1, 1, 0, 0, 1, 1, 0, 1, 0, 1]) (by kernel_rfl) (B := (fun F h => q9_150 C lf e1 (F 3) (F 5) (F 6) (F 8) (F 35) (F 36) (F 37) h)) (q9_150_eq C lf e1 KN (fun F h => r (F 2) h) K0 KE) (q9_159_eq C lf (fun x3 x5 x6 x8 x35 x36 x37 h => q9_150 C lf e1 x3 x5 x6 x8 x35 x36 x37 h) r (fun F h => e1 (F 3) (F 5) (F 6) (F 35) (F 36) (F 37) h) K0 KE)
noncomputable def q9_161 (C : YC) (lf : Nat) (n : K7) (x3 x5 x6 x8 x35 x36 x37 : O) (h : HW) : Rs :=
 n x3 x5 x6 x8 x35 x36 x37 h
theorem q9_161_eq (C : YC) (lf : Nat) (n : K7) (KR : KF) (K1 : KF) (K0 : KF) (KE : KX) : ∀ F h, evX fx9 C lf [1, 1, 1, 1, 1, 1, 0, 1, 0, 0, 1, 1, 0, 0, 1, 1, 0, 1, 1] F h (fun F h => n (F 3) (F 5) (F 6) (F 8) (F 35) (F 36) (F 37) h) KR (bk 1 K1 (bk 0 K0 KE)) = q9_161 C lf n (F 3) (F 5) (F 6) (F 8) (F 35) (F 36) (F 37) h := by
  intro F h; kernel_rfl
noncomputable def q9_163 (C : YC) (lf : Nat) (n : K7) (r : K1) (e1 : K6) (x3 x5 x6 x8 x35 x36 x37 x50 : O) (h : HW) : Rs :=
 ob x50 fun a162 =>
 yIf a162
 (q9_160 C lf r e1 x3 x5 x6 x8 x35 x36 x37 h)
 (q9_161 C lf n x3 x5 x6 x8 x35 x36 x37 h)
theorem q9_163_eq (C : YC) (lf : Nat) (n : K7) (r : K1) (e1 : K6) (K0 : KF) (KE : KX) : ∀ F h, evX fx9 C lf [1, 1, 1, 1, 1, 1, 0, 1, 0, 0, 1, 1, 0, 0, 1, 1, 0, 1] F h (fun F h => n (F 3) (F 5) (F 6) (F 8) (F 35) (F 36) (F 37) h) (fun F h => r (F 2) h) (bk 1 (fun F h => e1 (F 3) (F 5) (F 6) (F 35) (F 36) (F 37) h) (bk 0 K0 KE)) = q9_163 C lf n r e1 (F 3) (F 5) (F 6) (F 8) (F 35) (F 36) (F 37) (F 50) h := cCond (x := .tmp 50) (by kernel_rfl) (q9_160_eq C lf r e1 (fun F h => n (F 3) (F 5) (F 6) (F 8) (F 35) (F 36) (F 37) h) K0 KE) (q9_161_eq C lf n (fun F h => r (F 2) h) (fun F h => e1 (F 3) (F 5) (F 6) (F 35) (F 36) (F 37) h) K0 KE)
noncomputable def q9_167 (C : YC) (lf : Nat) (n : K8) (x3 x5 x6 x8 x35 x36 x37 : O) (h : HW) : Rs :=
 ob x8 fun a164 =>
 ob (fa 2 a164) fun y165 =>
 ob (ld1 y165 h) fun y166 =>
 n x3 x5 x6 x8 x35 x36 x37 (some y166) h
theorem q9_167_eq (C : YC) (lf : Nat) (n : K8) (KR : KF) (K1 : KF) (K0 : KF) (KE : KX) : ∀ F h, evX fx9 C lf [1, 1, 1, 1, 1, 1, 0, 1, 0, 0, 1, 1, 0, 0, 1, 1, 0, 0] F h (fun F h => n (F 3) (F 5) (F 6) (F 8) (F 35) (F 36) (F 37) (F 50) h) KR (bk 1 K1 (bk 0 K0 KE)) = q9_167 C lf n (F 3) (F 5) (F 6) (F 8) (F 35) (F 36) (F 37) h := by
  intro F h; kernel_rfl
noncomputable def q9_168 (C : YC) (lf : Nat) (n : K7) (r : K1) (e1 : K6) (x3 x5 x6 x8 x35 x36 x37 : O) (h : HW) : Rs :=
 q9_167 C lf (fun x3 x5 x6 x8 x35 x36 x37 x50 h => q9_163 C lf n r e1 x3 x5 x6 x8 x35 x36 x37 x50 h) x3 x5 x6 x8 x35 x36 x37 h
theorem q9_168_eq (C : YC) (lf : Nat) (n : K7) (r : K1) (e1 : K6) (K0 : KF) (KE : KX) : ∀ F h, evX fx9 C lf [1, 1, 1, 1, 1, 1, 0, 1, 0, 0, 1, 1, 0, 0, 1, 1, 0] F h (fun F h => n (F 3) (F 5) (F 6) (F 8) (F 35) (F 36) (F 37) h) (fun F h => r (F 2) h) (bk 1 (fun F h => e1 (F 3) (F 5) (F 6) (F 35) (F 36) (F 37) h) (bk 0 K0 KE)) = q9_168 C lf n r e1 (F 3) (F 5) (F 6) (F 8) (F 35) (F 36) (F 37) h := cSeq (a := subX fx9 [1, 1, 1, 1, 1, 1, 0, 1, 0, 0, 1, 1, 0, 0, 1, 1, 0, 0]) (b := subX fx9 [1, 1, 1, 1, 1, 1, 0, 1, 0, 0, 1, 1, 0, 0, 1, 1, 0, 1]) (by kernel_rfl) (B := (fun F h => q9_163 C lf n r e1 (F 3) (F 5) (F 6) (F 8) (F 35) (F 36) (F 37) (F 50) h)) (q9_163_eq C lf n r e1 K0 KE) (q9_167_eq C lf (fun x3 x5 x6 x8 x35 x36 x37 x50 h => q9_163 C lf n r e1 x3 x5 x6 x8 x35 x36 x37 x50 h) (fun F h => r (F 2) h) (fun F h => e1 (F 3) (F 5) (F 6) (F 35) (F 36) (F 37) h) K0 KE)
noncomputable def q9_169 (C : YC) (lf : Nat) (n : K6) (r : K1) (e1 : K6) (x3 x5 x6 x8 x35 x36 x37 : O) (h : HW) : Rs :=
 q9_168 C lf (fun x3 x5 x6 x8 x35 x36 x37 h => q9_126 C lf n r e1 x3 x5 x6 x8 x35 x36 x37 h) r e1 x3 x5 x6 x8 x35 x36 x37 h
theorem q9_169_eq (C : YC) (lf : Nat) (n : K6) (r : K1) (e1 : K6) (K0 : KF) (KE : KX) : ∀ F h, evX fx9 C lf [1, 1, 1, 1, 1, 1, 0, 1, 0, 0, 1, 1, 0, 0, 1, 1] F h (fun F h => n (F 3) (F 5) (F 6) (F 35) (F 36) (F 37) h) (fun F h => r (F 2) h) (bk 1 (fun F h => e1 (F 3) (F 5) (F 6) (F 35) (F 36) (F 37) h) (bk 0 K0 KE)) = q9_169 C lf n r e1 (F 3) (F 5) (F 6) (F 8) (F 35) (F 36) (F 37) h := cSeq (a := subX fx9 [1, 1, 1, 1, 1, 1, 0, 1, 0, 0, 1, 1, 0, 0, 1, 1, 0]) (b := subX fx9 [1, 1, 1, 1, 1, 1, 0, 1, 0, 0, 1, 1, 0, 0, 1, 1, 1]) (by kernel_rfl) (B := (fun F h => q9_126 C lf n r e1 (F 3) (F 5) (F 6) (F 8) (F 35) (F 36) (F 37) h)) (q9_126_eq C lf n r e1 K0 KE) (q9_168_eq C lf (fun x3 x5 x6 x8 x35 x36 x37 h => q9_126 C lf n r e1 x3 x5 x6 x8 x35 x36 x37 h) r e1 K0 KE)
noncomputable def q9_182 (C : YC) (lf : Nat) (n : K7) (e1 : K6) (x3 x5 x6 x8 x35 x36 x37 : O) (h : HW) : Rs :=
 ob x8 fun a170 =>
 ob (fa 0 a170) fun y171 =>
 ob (ld1 y171 h) fun y172 =>
 ob (bin Tryd.prog .lss 3 y172 (.int .i64 0)) fun y173 =>
 bc (gd false (some y173) (ob x8 fun a174 =>
 ob (fa 0 a174) fun y175 =>
 some (.ret y175, h)) h) fun y176 h176 =>
 bc (gd false (some y173) (ob (ld1 y176 h176) fun y177 =>
 some (.ret y177, h176)) h176) fun y178 h178 =>
 bc (gd false (some y173) (ob (bin Tryd.prog .gtr 3 y178 (.int .i64 17792)) fun y179 =>
 some (.ret y179, h178)) h178) fun y180 h180 =>
 ob (ypk y173 (.bool true) y180) fun y181 =>
 yIf y181
 (e1 x3 x5 x6 x35 x36 x37 h180)
 (n x3 x5 x6 x8 x35 x36 x37 h180)
theorem q9_182_eq (C : YC) (lf : Nat) (n : K7) (e1 : K6) (KR : KF) (K0 : KF) (KE : KX) : ∀ F h, evX fx9 C lf [1, 1, 1, 1, 1, 1, 0, 1, 0, 0, 1, 1, 0, 0, 1, 0] F h (fun F h => n (F 3) (F 5) (F 6) (F 8) (F 35) (F 36) (F 37) h) KR (bk 1 (fun F h => e1 (F 3) (F 5) (F 6) (F 35) (F 36) (F 37) h) (bk 0 K0 KE)) = q9_182 C lf n e1 (F 3) (F 5) (F 6) (F 8) (F 35) (F 36) (F 37) h := by
  intro F h; kernel_rfl
noncomputable def q9_183 (C : YC) (lf : Nat) (n : K6) (r : K1) (e1 : K6) (x3 x5 x6 x8 x35 x36 x37 : O) (h : HW) : Rs :=
 q9_182 C lf (fun x3 x5 x6 x8 x35 x36 x37 h => q9_169 C lf n r e1 x3 x5 x6 x8 x35 x36 x37 h) e1 x3 x5 x6 x8 x35 x36 x37 h
theorem q9_183_eq (C : YC) (lf : Nat) (n : K6) (r : K1) (e1 : K6) (K0 : KF) (KE : KX) : ∀ F h, evX fx9 C lf [1, 1, 1, 1, 1, 1, 0, 1, 0, 0, 1, 1, 0, 0, 1] F h (fun F h => n (F 3) (F 5) (F 6) (F 35) (F 36) (F 37) h) (fun F h => r (F 2) h) (bk 1 (fun F h => e1 (F 3) (F 5) (F 6) (F 35) (F 36) (F 37) h) (bk 0 K0 KE)) = q9_183 C lf n r e1 (F 3) (F 5) (F 6) (F 8) (F 35) (F 36) (F 37) h := cSeq (a := subX fx9 [1, 1, 1, 1, 1, 1, 0, 1, 0, 0, 1, 1, 0, 0, 1, 0]) (b := subX fx9 [1, 1, 1, 1, 1, 1, 0, 1, 0, 0, 1, 1, 0, 0, 1, 1]) (by kernel_rfl) (B := (fun F h => q9_169 C lf n r e1 (F 3) (F 5) (F 6) (F 8) (F 35) (F 36) (F 37) h)) (q9_169_eq C lf n r e1 K0 KE) (q9_182_eq C lf (fun x3 x5 x6 x8 x35 x36 x37 h => q9_169 C lf n r e1 x3 x5 x6 x8 x35 x36 x37 h) e1 (fun F h => r (F 2) h) K0 KE)
noncomputable def q9_190 (C : YC) (lf : Nat) (n : K7) (x3 x5 x6 x35 x36 x37 : O) (h : HW) : Rs :=
 ob x35 fun a184 =>
 ob x37 fun a185 =>
 ob (ixS 3 a184 a185) fun y186 =>
 ob (ldN 3 y186 h) fun y187 =>
 b2 (yAl Tryd.prog 74 h) fun y188 h188 =>
 ob (st 3 y188 y187 h188) fun h189 =>
 n x3 x5 x6 (some y188) x35 x36 x37 h189
theorem q9_190_eq (C : YC) (lf : Nat) (n : K7) (KR : KF) (K1 : KF) (K0 : KF) (KE : KX) : ∀ F h, evX fx9 C lf [1, 1, 1, 1, 1, 1, 0, 1, 0, 0, 1, 1, 0, 0, 0] F h (fun F h => n (F 3) (F 5) (F 6) (F 8) (F 35) (F 36) (F 37) h) KR (bk 1 K1 (bk 0 K0 KE)) = q9_190 C lf n (F 3) (F 5) (F 6) (F 35) (F 36) (F 37) h := by
  intro F h; kernel_rfl
noncomputable def q9_191 (C : YC) (lf : Nat) (n : K6) (r : K1) (e1 : K6) (x3 x5 x6 x35 x36 x37 : O) (h : HW) : Rs :=
 q9_190 C lf (fun x3 x5 x6 x8 x35 x36 x37 h => q9_183 C lf n r e1 x3 x5 x6 x8 x35 x36 x37 h) x3 x5 x6 x35 x36 x37 h
theorem q9_191_eq (C : YC) (lf : Nat) (n : K6) (r : K1) (e1 : K6) (K0 : KF) (KE : KX) : ∀ F h, evX fx9 C lf [1, 1, 1, 1, 1, 1, 0, 1, 0, 0, 1, 1, 0, 0] F h (fun F h => n (F 3) (F 5) (F 6) (F 35) (F 36) (F 37) h) (fun F h => r (F 2) h) (bk 1 (fun F h => e1 (F 3) (F 5) (F 6) (F 35) (F 36) (F 37) h) (bk 0 K0 KE)) = q9_191 C lf n r e1 (F 3) (F 5) (F 6) (F 35) (F 36) (F 37) h := cSeq (a := subX fx9 [1, 1, 1, 1, 1, 1, 0, 1, 0, 0, 1, 1, 0, 0, 0]) (b := subX fx9 [1, 1, 1, 1, 1, 1, 0, 1, 0, 0, 1, 1, 0, 0, 1]) (by kernel_rfl) (B := (fun F h => q9_183 C lf n r e1 (F 3) (F 5) (F 6) (F 8) (F 35) (F 36) (F 37) h)) (q9_183_eq C lf n r e1 K0 KE) (q9_190_eq C lf (fun x3 x5 x6 x8 x35 x36 x37 h => q9_183 C lf n r e1 x3 x5 x6 x8 x35 x36 x37 h) (fun F h => r (F 2) h) (fun F h => e1 (F 3) (F 5) (F 6) (F 35) (F 36) (F 37) h) K0 KE)
noncomputable def q9_192 (C : YC) (lf : Nat) (n : K6) (r : K1) (x3 x5 x6 x35 x36 x37 : O) (h : HW) : Rs :=
 q9_191 C lf (fun x3 x5 x6 x35 x36 x37 h => q9_45 C lf n x3 x5 x6 x35 x36 x37 h) r (fun x3 x5 x6 x35 x36 x37 h => q9_45 C lf n x3 x5 x6 x35 x36 x37 h) x3 x5 x6 x35 x36 x37 h
theorem q9_192_eq (C : YC) (lf : Nat) (n : K6) (r : K1) (K0 : KF) (KE : KX) : ∀ F h, evX fx9 C lf [1, 1, 1, 1, 1, 1, 0, 1, 0, 0, 1, 1] F h (fun F h => n (F 3) (F 5) (F 6) (F 35) (F 36) (F 37) h) (fun F h => r (F 2) h) (bk 0 K0 KE) = q9_192 C lf n r (F 3) (F 5) (F 6) (F 35) (F 36) (F 37) h := cSeq (a := subX fx9 [1, 1, 1, 1, 1, 1, 0, 1, 0, 0, 1, 1, 0]) (b := subX fx9 [1, 1, 1, 1, 1, 1, 0, 1, 0, 0, 1, 1, 1]) (by kernel_rfl) (B := (fun F h => q9_45 C lf n (F 3) (F 5) (F 6) (F 35) (F 36) (F 37) h)) (q9_45_eq C lf n (fun F h => r (F 2) h) K0 KE) (cBlock (id := 1) (a := subX fx9 [1, 1, 1, 1, 1, 1, 0, 1, 0, 0, 1, 1, 0, 0]) (by kernel_rfl) (q9_191_eq C lf (fun x3 x5 x6 x35 x36 x37 h => q9_45 C lf n x3 x5 x6 x35 x36 x37 h) r (fun x3 x5 x6 x35 x36 x37 h => q9_45 C lf n x3 x5 x6 x35 x36 x37 h) K0 KE))
noncomputable def q9_194 (C : YC) (lf : Nat) (n : K6) (e0 : K3) (x3 x5 x6 x35 x36 x37 x38 : O) (h : HW) : Rs :=
 ob x38 fun a193 =>
 yIf a193
 (n x3 x5 x6 x35 x36 x37 h)
 (e0 x3 x5 x6 h)
theorem q9_194_eq (C : YC) (lf : Nat) (n : K6) (e0 : K3) (KR : KF) (KE : KX) : ∀ F h, evX fx9 C lf [1, 1, 1, 1, 1, 1, 0, 1, 0, 0, 1, 0] F h (fun F h => n (F 3) (F 5) (F 6) (F 35) (F 36) (F 37) h) KR (bk 0 (fun F h => e0 (F 3) (F 5) (F 6) h) KE) = q9_194 C lf n e0 (F 3) (F 5) (F 6) (F 35) (F 36) (F 37) (F 38) h := by
  intro F h; kernel_rfl
noncomputable def q9_195 (C : YC) (lf : Nat) (n : K6) (r : K1) (e0 : K3) (x3 x5 x6 x35 x36 x37 x38 : O) (h : HW) : Rs :=
 q9_194 C lf (fun x3 x5 x6 x35 x36 x37 h => q9_192 C lf n r x3 x5 x6 x35 x36 x37 h) e0 x3 x5 x6 x35 x36 x37 x38 h
theorem q9_195_eq (C : YC) (lf : Nat) (n : K6) (r : K1) (e0 : K3) (KE : KX) : ∀ F h, evX fx9 C lf [1, 1, 1, 1, 1, 1, 0, 1, 0, 0, 1] F h (fun F h => n (F 3) (F 5) (F 6) (F 35) (F 36) (F 37) h) (fun F h => r (F 2) h) (bk 0 (fun F h => e0 (F 3) (F 5) (F 6) h) KE) = q9_195 C lf n r e0 (F 3) (F 5) (F 6) (F 35) (F 36) (F 37) (F 38) h := cSeq (a := subX fx9 [1, 1, 1, 1, 1, 1, 0, 1, 0, 0, 1, 0]) (b := subX fx9 [1, 1, 1, 1, 1, 1, 0, 1, 0, 0, 1, 1]) (by kernel_rfl) (B := (fun F h => q9_192 C lf n r (F 3) (F 5) (F 6) (F 35) (F 36) (F 37) h)) (q9_192_eq C lf n r (fun F h => e0 (F 3) (F 5) (F 6) h) KE) (q9_194_eq C lf (fun x3 x5 x6 x35 x36 x37 h => q9_192 C lf n r x3 x5 x6 x35 x36 x37 h) e0 (fun F h => r (F 2) h) KE)
noncomputable def q9_199 (C : YC) (lf : Nat) (n : K7) (x3 x5 x6 x35 x36 x37 : O) (h : HW) : Rs :=
 ob x37 fun a196 =>
 ob x36 fun a197 =>
 ob (bin Tryd.prog .lss 3 a196 a197) fun y198 =>
 n x3 x5 x6 x35 x36 x37 (some y198) h
theorem q9_199_eq (C : YC) (lf : Nat) (n : K7) (KR : KF) (K0 : KF) (KE : KX) : ∀ F h, evX fx9 C lf [1, 1, 1, 1, 1, 1, 0, 1, 0, 0, 0] F h (fun F h => n (F 3) (F 5) (F 6) (F 35) (F 36) (F 37) (F 38) h) KR (bk 0 K0 KE) = q9_199 C lf n (F 3) (F 5) (F 6) (F 35) (F 36) (F 37) h := by
  intro F h; kernel_rfl
noncomputable def q9_200 (C : YC) (lf : Nat) (n : K6) (r : K1) (e0 : K3) (x3 x5 x6 x35 x36 x37 : O) (h : HW) : Rs :=
 q9_199 C lf (fun x3 x5 x6 x35 x36 x37 x38 h => q9_195 C lf n r e0 x3 x5 x6 x35 x36 x37 x38 h) x3 x5 x6 x35 x36 x37 h
theorem q9_200_eq (C : YC) (lf : Nat) (n : K6) (r : K1) (e0 : K3) (KE : KX) : ∀ F h, evX fx9 C lf [1, 1, 1, 1, 1, 1, 0, 1, 0, 0] F h (fun F h => n (F 3) (F 5) (F 6) (F 35) (F 36) (F 37) h) (fun F h => r (F 2) h) (bk 0 (fun F h => e0 (F 3) (F 5) (F 6) h) KE) = q9_200 C lf n r e0 (F 3) (F 5) (F 6) (F 35) (F 36) (F 37) h := cSeq (a := subX fx9 [1, 1, 1, 1, 1, 1, 0, 1, 0, 0, 0]) (b := subX fx9 [1, 1, 1, 1, 1, 1, 0, 1, 0, 0, 1]) (by kernel_rfl) (B := (fun F h => q9_195 C lf n r e0 (F 3) (F 5) (F 6) (F 35) (F 36) (F 37) (F 38) h)) (q9_195_eq C lf n r e0 KE) (q9_199_eq C lf (fun x3 x5 x6 x35 x36 x37 x38 h => q9_195 C lf n r e0 x3 x5 x6 x35 x36 x37 x38 h) (fun F h => r (F 2) h) (fun F h => e0 (F 3) (F 5) (F 6) h) KE)
noncomputable def l9_42 (C : YC) (lf : Nat) (r : K1) (e0 : K3) (k : O × O × O × O × O × O → HW → Rs) (s : O × O × O × O × O × O) (h : HW) : Rs :=
 q9_200 C lf (fun x3 x5 x6 x35 x36 x37 h => k (x3, x5, x6, x35, x36, x37) h) r e0 s.1 s.2.1 s.2.2.1 s.2.2.2.1 s.2.2.2.2.1 s.2.2.2.2.2 h
noncomputable def q9_203 (C : YC) (lf : Nat) (n : K6) (x0 x3 x5 x6 : O) (h : HW) : Rs :=
 ob x0 fun a201 =>
 ob (lenE Tryd.prog 72 a201) fun y202 =>
 n x3 x5 x6 (some a201) (some y202) (some (.int .i64 0)) h
theorem q9_203_eq (C : YC) (lf : Nat) (n : K6) (KR : KF) (KE : KX) : ∀ F h, evX fx9 C lf [1, 1, 1, 1, 1, 1, 0, 0] F h (fun F h => n (F 3) (F 5) (F 6) (F 35) (F 36) (F 37) h) KR KE = q9_203 C lf n (F 0) (F 3) (F 5) (F 6) h := by
  intro F h; kernel_rfl
noncomputable def q9_204 (C : YC) (lf : Nat) (n : K3) (r : K1) (x0 x3 x5 x6 : O) (h : HW) : Rs :=
 q9_203 C lf (fun x3 x5 x6 x35 x36 x37 h => lp (l9_42 C lf r n) lf (x3, x5, x6, x35, x36, x37) h) x0 x3 x5 x6 h
theorem q9_204_eq (C : YC) (lf : Nat) (n : K3) (r : K1) (KE : KX) : ∀ F h, evX fx9 C lf [1, 1, 1, 1, 1, 1, 0] F h (fun F h => n (F 3) (F 5) (F 6) h) (fun F h => r (F 2) h) KE = q9_204 C lf n r (F 0) (F 3) (F 5) (F 6) h := cSeq (a := subX fx9 [1, 1, 1, 1, 1, 1, 0, 0]) (b := subX fx9 [1, 1, 1, 1, 1, 1, 0, 1]) (by kernel_rfl) (B := (fun F h => lp (l9_42 C lf r n) lf ((F 3), (F 5), (F 6), (F 35), (F 36), (F 37)) h)) (cBlock (id := 0) (a := subX fx9 [1, 1, 1, 1, 1, 1, 0, 1, 0]) (by kernel_rfl) (cLoop (a := subX fx9 [1, 1, 1, 1, 1, 1, 0, 1, 0, 0]) (g := fun F => (F 3, F 5, F 6, F 35, F 36, F 37)) (body := l9_42 C lf r n) (by kernel_rfl) (fun k => (q9_200_eq C lf (fun x3 x5 x6 x35 x36 x37 h => k (x3, x5, x6, x35, x36, x37) h) r n KE)))) (q9_203_eq C lf (fun x3 x5 x6 x35 x36 x37 h => lp (l9_42 C lf r n) lf (x3, x5, x6, x35, x36, x37) h) (fun F h => r (F 2) h) KE)
noncomputable def q9_205 (C : YC) (lf : Nat) (r : K1) (x0 x3 x5 x6 : O) (h : HW) : Rs :=
 q9_204 C lf (fun x3 x5 x6 h => q9_41 C lf r x3 x5 x6 h) r x0 x3 x5 x6 h
theorem q9_205_eq (C : YC) (lf : Nat) (r : K1) (KN : KF) (KE : KX) : ∀ F h, evX fx9 C lf [1, 1, 1, 1, 1, 1] F h KN (fun F h => r (F 2) h) KE = q9_205 C lf r (F 0) (F 3) (F 5) (F 6) h := cSeq (a := subX fx9 [1, 1, 1, 1, 1, 1, 0]) (b := subX fx9 [1, 1, 1, 1, 1, 1, 1]) (by kernel_rfl) (B := (fun F h => q9_41 C lf r (F 3) (F 5) (F 6) h)) (q9_41_eq C lf r KN KE) (q9_204_eq C lf (fun x3 x5 x6 h => q9_41 C lf r x3 x5 x6 h) r KE)
noncomputable def q9_206 (C : YC) (lf : Nat) (n : K4) (x0 x3 x5 : O) (h : HW) : Rs :=
 n x0 x3 x5 (some (.val (.slice none 0 0))) h
theorem q9_206_eq (C : YC) (lf : Nat) (n : K4) (KR : KF) (KE : KX) : ∀ F h, evX fx9 C lf [1, 1, 1, 1, 1, 0] F h (fun F h => n (F 0) (F 3) (F 5) (F 6) h) KR KE = q9_206 C lf n (F 0) (F 3) (F 5) h := by
  intro F h; kernel_rfl
noncomputable def q9_207 (C : YC) (lf : Nat) (r : K1) (x0 x3 x5 : O) (h : HW) : Rs :=
 q9_206 C lf (fun x0 x3 x5 x6 h => q9_205 C lf r x0 x3 x5 x6 h) x0 x3 x5 h
theorem q9_207_eq (C : YC) (lf : Nat) (r : K1) (KN : KF) (KE : KX) : ∀ F h, evX fx9 C lf [1, 1, 1, 1, 1] F h KN (fun F h => r (F 2) h) KE = q9_207 C lf r (F 0) (F 3) (F 5) h := cSeq (a := subX fx9 [1, 1, 1, 1, 1, 0]) (b := subX fx9 [1, 1, 1, 1, 1, 1]) (by kernel_rfl) (B := (fun F h => q9_205 C lf r (F 0) (F 3) (F 5) (F 6) h)) (q9_205_eq C lf r KN KE) (q9_206_eq C lf (fun x0 x3 x5 x6 h => q9_205 C lf r x0 x3 x5 x6 h) (fun F h => r (F 2) h) KE)
noncomputable def q9_211 (C : YC) (lf : Nat) (n : K3) (r : K1) (x0 x3 x4 x5 : O) (h : HW) : Rs :=
 ob x4 fun a208 =>
 bc (C (.fn 34) [a208] h) fun y209 h209 =>
 ob (bin Tryd.prog .neq 3 y209 (.int .i64 0)) fun y210 =>
 yIf y210
 (r (some (.bool false)) h209)
 (n x0 x3 x5 h209)
theorem q9_211_eq (C : YC) (lf : Nat) (n : K3) (r : K1) (KE : KX) : ∀ F h, evX fx9 C lf [1, 1, 1, 1, 0] F h (fun F h => n (F 0) (F 3) (F 5) h) (fun F h => r (F 2) h) KE = q9_211 C lf n r (F 0) (F 3) (F 4) (F 5) h := by
  intro F h; kernel_rfl
noncomputable def q9_212 (C : YC) (lf : Nat) (r : K1) (x0 x3 x4 x5 : O) (h : HW) : Rs :=
 q9_211 C lf (fun x0 x3 x5 h => q9_207 C lf r x0 x3 x5 h) r x0 x3 x4 x5 h
theorem q9_212_eq (C : YC) (lf : Nat) (r : K1) (KN : KF) (KE : KX) : ∀ F h, evX fx9 C lf [1, 1, 1, 1] F h KN (fun F h => r (F 2) h) KE = q9_212 C lf r (F 0) (F 3) (F 4) (F 5) h := cSeq (a := subX fx9 [1, 1, 1, 1, 0]) (b := subX fx9 [1, 1, 1, 1, 1]) (by kernel_rfl) (B := (fun F h => q9_207 C lf r (F 0) (F 3) (F 5) h)) (q9_207_eq C lf r KN KE) (q9_211_eq C lf (fun x0 x3 x5 h => q9_207 C lf r x0 x3 x5 h) r KE)
noncomputable def q9_217 (C : YC) (lf : Nat) (n : K4) (x0 x3 : O) (h : HW) : Rs :=
 ob x3 fun a213 =>
 bc (C (.fn 37) [a213, (.int .i64 33152), (.int .i64 0), (.int .i64 0)] h) fun y214 h214 =>
 ob (ext 0 y214) fun y215 =>
 ob (ext 1 y214) fun y216 =>
 n x0 x3 (some y216) (some y215) h214
theorem q9_217_eq (C : YC) (lf : Nat) (n : K4) (KR : KF) (KE : KX) : ∀ F h, evX fx9 C lf [1, 1, 1, 0] F h (fun F h => n (F 0) (F 3) (F 4) (F 5) h) KR KE = q9_217 C lf n (F 0) (F 3) h := by
  intro F h; kernel_rfl
noncomputable def q9_218 (C : YC) (lf : Nat) (r : K1) (x0 x3 : O) (h : HW) : Rs :=
 q9_217 C lf (fun x0 x3 x4 x5 h => q9_212 C lf r x0 x3 x4 x5 h) x0 x3 h
theorem q9_218_eq (C : YC) (lf : Nat) (r : K1) (KN : KF) (KE : KX) : ∀ F h, evX fx9 C lf [1, 1, 1] F h KN (fun F h => r (F 2) h) KE = q9_218 C lf r (F 0) (F 3) h := cSeq (a := subX fx9 [1, 1, 1, 0]) (b := subX fx9 [1, 1, 1, 1]) (by kernel_rfl) (B := (fun F h => q9_212 C lf r (F 0) (F 3) (F 4) (F 5) h)) (q9_212_eq C lf r KN KE) (q9_217_eq C lf (fun x0 x3 x4 x5 h => q9_212 C lf r x0 x3 x4 x5 h) (fun F h => r (F 2) h) KE)
noncomputable def q9_227 (C : YC) (lf : Nat) (n : K2) (r : K1) (x0 x3 x4 : O) (h : HW) : Rs :=
 ob x4 fun a219 =>
 bc (C (.fn 34) [a219] h) fun y220 h220 =>
 ob (bin Tryd.prog .neq 3 y220 (.int .i64 0)) fun y221 =>
 bc (gd false (some y221) (ob x3 fun a222 =>
 some (.ret a222, h220)) h220) fun y223 h223 =>
 bc (gd false (some y221) (ob (bin Tryd.prog .eql 64 y223 (.val (.pointer none))) fun y224 =>
 some (.ret y224, h223)) h223) fun y225 h225 =>
 ob (ypk y221 (.bool true) y225) fun y226 =>
 yIf y226
 (r (some (.bool false)) h225)
 (n x0 x3 h225)
theorem q9_227_eq (C : YC) (lf : Nat) (n : K2) (r : K1) (KE : KX) : ∀ F h, evX fx9 C lf [1, 1, 0] F h (fun F h => n (F 0) (F 3) h) (fun F h => r (F 2) h) KE = q9_227 C lf n r (F 0) (F 3) (F 4) h := by
  intro F h; kernel_rfl
noncomputable def q9_228 (C : YC) (lf : Nat) (r : K1) (x0 x3 x4 : O) (h : HW) : Rs :=
 q9_227 C lf (fun x0 x3 h => q9_218 C lf r x0 x3 h) r x0 x3 x4 h
theorem q9_228_eq (C : YC) (lf : Nat) (r : K1) (KN : KF) (KE : KX) : ∀ F h, evX fx9 C lf [1, 1] F h KN (fun F h => r (F 2) h) KE = q9_228 C lf r (F 0) (F 3) (F 4) h := cSeq (a := subX fx9 [1, 1, 0]) (b := subX fx9 [1, 1, 1]) (by kernel_rfl) (B := (fun F h => q9_218 C lf r (F 0) (F 3) h)) (q9_218_eq C lf r KN KE) (q9_227_eq C lf (fun x0 x3 h => q9_218 C lf r x0 x3 h) r KE)
noncomputable def q9_232 (C : YC) (lf : Nat) (n : K3) (x0 : O) (h : HW) : Rs :=
 bc (C (.fn 36) [(.int .i64 1000), (.int .i64 1)] h) fun y229 h229 =>
 ob (ext 0 y229) fun y230 =>
 ob (ext 1 y229) fun y231 =>
 n x0 (some y230) (some y231) h229
theorem q9_232_eq (C : YC) (lf : Nat) (n : K3) (KR : KF) (KE : KX) : ∀ F h, evX fx9 C lf [1, 0] F h (fun F h => n (F 0) (F 3) (F 4) h) KR KE = q9_232 C lf n (F 0) h := by
  intro F h; kernel_rfl
noncomputable def q9_233 (C : YC) (lf : Nat) (r : K1) (x0 : O) (h : HW) : Rs :=
 q9_232 C lf (fun x0 x3 x4 h => q9_228 C lf r x0 x3 x4 h) x0 h
theorem q9_233_eq (C : YC) (lf : Nat) (r : K1) (KN : KF) (KE : KX) : ∀ F h, evX fx9 C lf [1] F h KN (fun F h => r (F 2) h) KE = q9_233 C lf r (F 0) h := cSeq (a := subX fx9 [1, 0]) (b := subX fx9 [1, 1]) (by kernel_rfl) (B := (fun F h => q9_228 C lf r (F 0) (F 3) (F 4) h)) (q9_228_eq C lf r KN KE) (q9_232_eq C lf (fun x0 x3 x4 h => q9_228 C lf r x0 x3 x4 h) (fun F h => r (F 2) h) KE)
noncomputable def q9_234 (C : YC) (lf : Nat) (n : K1) (x0 : O) (h : HW) : Rs :=
 n x0 h
theorem q9_234_eq (C : YC) (lf : Nat) (n : K1) (KR : KF) (KE : KX) : ∀ F h, evX fx9 C lf [0] F h (fun F h => n (F 0) h) KR KE = q9_234 C lf n (F 0) h := by
  intro F h; kernel_rfl
noncomputable def q9_235 (C : YC) (lf : Nat) (r : K1) (x0 : O) (h : HW) : Rs :=
 q9_234 C lf (fun x0 h => q9_233 C lf r x0 h) x0 h
theorem q9_235_eq (C : YC) (lf : Nat) (r : K1) (KN : KF) (KE : KX) : ∀ F h, evX fx9 C lf [] F h KN (fun F h => r (F 2) h) KE = q9_235 C lf r (F 0) h := cSeq (a := subX fx9 [0]) (b := subX fx9 [1]) (by kernel_rfl) (B := (fun F h => q9_233 C lf r (F 0) h)) (q9_233_eq C lf r KN KE) (q9_234_eq C lf (fun x0 h => q9_233 C lf r x0 h) (fun F h => r (F 2) h) KE)
noncomputable def fs9 (C : YC) (lf : Nat) (a0 : SV) (h : HW) : Rs := q9_235 C lf ff9 (some a0) h
theorem fs9_eq (C : YC) (lf : Nat) (a0 : SV) (h : HW) : yFn Tryd.prog fx9 C lf [a0] h = fs9 C lf a0 h := fnX (K := (fun F h => ff9 (F 2) h)) (by kernel_rfl) (((q9_235_eq C lf ff9 (fun F h => ff9 (F 2) h) (fun _ _ _ => none)) _ h).trans (by kernel_rfl))
noncomputable def fy9 : YX Tryd.prog := Y1 fx9 fs9 fs9_eq (by kernel_rfl)
noncomputable def fx40 : XF Tryd.prog := ⟨40, Tryd.f40, fun r => bif Nat.beq r 13 then .ord [0, 1, 2, 4, 5, 6, 7, 8, 3, 9, 10] [(9, [3])] else .text, Tryd.func40, by kernel_rfl, by kernel_rfl, by kernel_rfl, by kernel_rfl⟩
noncomputable def ff40 (x6 : O) (h : HW) : Rs :=
 ob x6 fun a0 =>
 some (.ret a0, h)
noncomputable def q40_10 (C : YC) (lf : Nat) (r : K1) (x0 x2 x7 : O) (h : HW) : Rs :=
 ob x7 fun a1 =>
 ob x2 fun a2 =>
 ob (semNil a1) fun y3 =>
 ob (fa 1 y3) fun y4 =>
 ob (fa 4 y4) fun y5 =>
 ob (st 1 y5 a2 h) fun h6 =>
 ob x0 fun a7 =>
 ob x7 fun a8 =>
 bc (C (.fn 77) [a7, a8] h6) fun y9 h9 =>
 r (some (.int .i64 0)) h9
theorem q40_10_eq (C : YC) (lf : Nat) (r : K1) (KN : KF) (KE : KX) : ∀ F h, evX fx40 C lf [1, 1, 1, 1, 1] F h KN (fun F h => r (F 6) h) KE = q40_10 C lf r (F 0) (F 2) (F 7) h := by
  intro F h; kernel_rfl
noncomputable def q40_29 (C : YC) (lf : Nat) (n : K3) (x0 x2 x7 : O) (h : HW) : Rs :=
 ob x2 fun a11 =>
 ob (bin Tryd.prog .rem 3 a11 (.int .i64 64)) fun y12 =>
 ob (bin Tryd.prog .gtr 3 y12 (.int .i64 0)) fun y13 =>
 yIf y13
 (ob x7 fun a14 =>
 ob x2 fun a15 =>
 ob (bin Tryd.prog .quo 3 a15 (.int .i64 64)) fun y16 =>
 bc (C (.fn 76) [a14, y16] h) fun y17 h17 =>
 ob (semNil y17) fun y18 =>
 ob (ld1 y18 h17) fun y19 =>
 ob (bin Tryd.prog .gtr 3 y19 (.int .i64 0)) fun y20 =>
 yIf y20
 (ob x0 fun a21 =>
 ob (semNil a21) fun y22 =>
 ob (fa 0 y22) fun y23 =>
 ob (bin Tryd.prog .sub 3 y19 (.int .i64 1)) fun y24 =>
 ob (bin Tryd.prog .sub 3 (.int .i64 64) y12) fun y25 =>
 ob (ld1 y23 h17) fun y26 =>
 b2 (ymk Tryd.prog 24 y25 y25 h17) fun y27 h27 =>
 ck (chkH [(3, adrO (some y23))] h17 h27 [3]) <|
 bcn (C (.fn 18) [y26, y24, y12, y27] h27) fun y28 h28 =>
 n x0 x2 x7 h28)
 (n x0 x2 x7 h17))
 (n x0 x2 x7 h)
theorem q40_29_eq (C : YC) (lf : Nat) (n : K3) (KR : KF) (KE : KX) : ∀ F h, evX fx40 C lf [1, 1, 1, 1, 0] F h (fun F h => n (F 0) (F 2) (F 7) h) KR KE = q40_29 C lf n (F 0) (F 2) (F 7) h := by
  intro F h; kernel_rfl
noncomputable def q40_30 (C : YC) (lf : Nat) (r : K1) (x0 x2 x7 : O) (h : HW) : Rs :=
 q40_29 C lf (fun x0 x2 x7 h => q40_10 C lf r x0 x2 x7 h) x0 x2 x7 h
theorem q40_30_eq (C : YC) (lf : Nat) (r : K1) (KN : KF) (KE : KX) : ∀ F h, evX fx40 C lf [1, 1, 1, 1] F h KN (fun F h => r (F 6) h) KE = q40_30 C lf r (F 0) (F 2) (F 7) h := cSeq (a := subX fx40 [1, 1, 1, 1, 0]) (b := subX fx40 [1, 1, 1, 1, 1]) (by kernel_rfl) (B := (fun F h => q40_10 C lf r (F 0) (F 2) (F 7) h)) (q40_10_eq C lf r KN KE) (q40_29_eq C lf (fun x0 x2 x7 h => q40_10 C lf r x0 x2 x7 h) (fun F h => r (F 6) h) KE)
noncomputable def q40_38 (C : YC) (lf : Nat) (n : K3) (x0 x2 x7 : O) (h : HW) : Rs :=
 ob x0 fun a31 =>
 ob x7 fun a32 =>
 ob x2 fun a33 =>
 ob (bin Tryd.prog .add 3 a33 (.int .i64 64)) fun y34 =>
 ob (bin Tryd.prog .sub 3 y34 (.int .i64 1)) fun y35 =>
 ob (bin Tryd.prog .quo 3 y35 (.int .i64 64)) fun y36 =>
 bc (C (.fn 78) [a31, a32, y36] h) fun y37 h37 =>
 n x0 x2 x7 h37
theorem q40_38_eq (C : YC) (lf : Nat) (n : K3) (KR : KF) (KE : KX) : ∀ F h, evX fx40 C lf [1, 1, 1, 0] F h (fun F h => n (F 0) (F 2) (F 7) h) KR KE = q40_38 C lf n (F 0) (F 2) (F 7) h := by
  intro F h; kernel_rfl
noncomputable def q40_39 (C : YC) (lf : Nat) (r : K1) (x0 x2 x7 : O) (h : HW) : Rs :=
 q40_38 C lf (fun x0 x2 x7 h => q40_30 C lf r x0 x2 x7 h) x0 x2 x7 h
theorem q40_39_eq (C : YC) (lf : Nat) (r : K1) (KN : KF) (KE : KX) : ∀ F h, evX fx40 C lf [1, 1, 1] F h KN (fun F h => r (F 6) h) KE = q40_39 C lf r (F 0) (F 2) (F 7) h := cSeq (a := subX fx40 [1, 1, 1, 0]) (b := subX fx40 [1, 1, 1, 1]) (by kernel_rfl) (B := (fun F h => q40_30 C lf r (F 0) (F 2) (F 7) h)) (q40_30_eq C lf r KN KE) (q40_38_eq C lf (fun x0 x2 x7 h => q40_30 C lf r x0 x2 x7 h) (fun F h => r (F 6) h) KE)
noncomputable def q40_47 (C : YC) (lf : Nat) (n : K3) (r : K1) (x0 x2 x7 x8 : O) (h : HW) : Rs :=
 ob x8 fun a40 =>
 ob (bin Tryd.prog .neq 26 a40 (.int .i64 0)) fun y41 =>
 yIf y41
 (ob x8 fun a42 =>
 r (some a42) h)
 (ob x2 fun a43 =>
 ob (bin Tryd.prog .lss 3 a43 (.int .i64 0)) fun y44 =>
 yIf y44
 (r (some (.int .i64 22)) h)
 (ob x2 fun a45 =>
 ob (bin Tryd.prog .gtr 3 a45 (.int .i64 17792)) fun y46 =>
 yIf y46
 (r (some (.int .i64 27)) h)
 (n x0 x2 x7 h)))
theorem q40_47_eq (C : YC) (lf : Nat) (n : K3) (r : K1) (KE : KX) : ∀ F h, evX fx40 C lf [1, 1, 0] F h (fun F h => n (F 0) (F 2) (F 7) h) (fun F h => r (F 6) h) KE = q40_47 C lf n r (F 0) (F 2) (F 7) (F 8) h := by
  intro F h; kernel_rfl
noncomputable def q40_48 (C : YC) (lf : Nat) (r : K1) (x0 x2 x7 x8 : O) (h : HW) : Rs :=
 q40_47 C lf (fun x0 x2 x7 h => q40_39 C lf r x0 x2 x7 h) r x0 x2 x7 x8 h
theorem q40_48_eq (C : YC) (lf : Nat) (r : K1) (KN : KF) (KE : KX) : ∀ F h, evX fx40 C lf [1, 1] F h KN (fun F h => r (F 6) h) KE = q40_48 C lf r (F 0) (F 2) (F 7) (F 8) h := cSeq (a := subX fx40 [1, 1, 0]) (b := subX fx40 [1, 1, 1]) (by kernel_rfl) (B := (fun F h => q40_39 C lf r (F 0) (F 2) (F 7) h)) (q40_39_eq C lf r KN KE) (q40_47_eq C lf (fun x0 x2 x7 h => q40_39 C lf r x0 x2 x7 h) r KE)
noncomputable def q40_54 (C : YC) (lf : Nat) (n : K4) (x0 x1 x2 : O) (h : HW) : Rs :=
 ob x0 fun a49 =>
 ob x1 fun a50 =>
 bc (C (.fn 74) [a49, a50] h) fun y51 h51 =>
 ob (ext 0 y51) fun y52 =>
 ob (ext 1 y51) fun y53 =>
 n x0 x2 (some y52) (some y53) h51
theorem q40_54_eq (C : YC) (lf : Nat) (n : K4) (KR : KF) (KE : KX) : ∀ F h, evX fx40 C lf [1, 0] F h (fun F h => n (F 0) (F 2) (F 7) (F 8) h) KR KE = q40_54 C lf n (F 0) (F 1) (F 2) h := by
  intro F h; kernel_rfl
noncomputable def q40_55 (C : YC) (lf : Nat) (r : K1) (x0 x1 x2 : O) (h : HW) : Rs :=
 q40_54 C lf (fun x0 x2 x7 x8 h => q40_48 C lf r x0 x2 x7 x8 h) x0 x1 x2 h
theorem q40_55_eq (C : YC) (lf : Nat) (r : K1) (KN : KF) (KE : KX) : ∀ F h, evX fx40 C lf [1] F h KN (fun F h => r (F 6) h) KE = q40_55 C lf r (F 0) (F 1) (F 2) h := cSeq (a := subX fx40 [1, 0]) (b := subX fx40 [1, 1]) (by kernel_rfl) (B := (fun F h => q40_48 C lf r (F 0) (F 2) (F 7) (F 8) h)) (q40_48_eq C lf r KN KE) (q40_54_eq C lf (fun x0 x2 x7 x8 h => q40_48 C lf r x0 x2 x7 x8 h) (fun F h => r (F 6) h) KE)
noncomputable def q40_56 (C : YC) (lf : Nat) (n : K3) (x0 x1 x2 : O) (h : HW) : Rs :=
 n x0 x1 x2 h
theorem q40_56_eq (C : YC) (lf : Nat) (n : K3) (KR : KF) (KE : KX) : ∀ F h, evX fx40 C lf [0] F h (fun F h => n (F 0) (F 1) (F 2) h) KR KE = q40_56 C lf n (F 0) (F 1) (F 2) h := by
  intro F h; kernel_rfl
noncomputable def q40_57 (C : YC) (lf : Nat) (r : K1) (x0 x1 x2 : O) (h : HW) : Rs :=
 q40_56 C lf (fun x0 x1 x2 h => q40_55 C lf r x0 x1 x2 h) x0 x1 x2 h
theorem q40_57_eq (C : YC) (lf : Nat) (r : K1) (KN : KF) (KE : KX) : ∀ F h, evX fx40 C lf [] F h KN (fun F h => r (F 6) h) KE = q40_57 C lf r (F 0) (F 1) (F 2) h := cSeq (a := subX fx40 [0]) (b := subX fx40 [1]) (by kernel_rfl) (B := (fun F h => q40_55 C lf r (F 0) (F 1) (F 2) h)) (q40_55_eq C lf r KN KE) (q40_56_eq C lf (fun x0 x1 x2 h => q40_55 C lf r x0 x1 x2 h) (fun F h => r (F 6) h) KE)
noncomputable def fs40 (C : YC) (lf : Nat) (a0 a1 a2 : SV) (h : HW) : Rs := q40_57 C lf ff40 (some a0) (some a1) (some a2) h
theorem fs40_eq (C : YC) (lf : Nat) (a0 a1 a2 : SV) (h : HW) : yFn Tryd.prog fx40 C lf [a0, a1, a2] h = fs40 C lf a0 a1 a2 h := fnX (K := (fun F h => ff40 (F 6) h)) (by kernel_rfl) (((q40_57_eq C lf ff40 (fun F h => ff40 (F 6) h) (fun _ _ _ => none)) _ h).trans (by kernel_rfl))
noncomputable def fy40 : YX Tryd.prog := Y3 fx40 fs40 fs40_eq (by kernel_rfl)
noncomputable def fx93 : XF Tryd.prog := ⟨93, Tryd.f93, fun _ => .text, Tryd.func93, by kernel_rfl, by kernel_rfl, by kernel_rfl, by kernel_rfl⟩
noncomputable def ff93 (h : HW) : Rs :=
 some (.ret (.tup []), h)
noncomputable def q93_20 (C : YC) (lf : Nat) (n : K4) (e0 : K0) (x1 x5 x6 x7 : O) (h : HW) : Rs :=
 ob x7 fun a1 =>
 ob x6 fun a2 =>
 ob (bin Tryd.prog .lss 3 a1 a2) fun y3 =>
 yIf y3
 (ob x5 fun a4 =>
 ob x7 fun a5 =>
 ob (ixS 1 a4 a5) fun y6 =>
 ob (ld1 y6 h) fun y7 =>
 ob (bin Tryd.prog .gtr 3 y7 (.int .i64 0)) fun y8 =>
 yIf y8
 (ob x1 fun a9 =>
 ob (ld1 a9 h) fun y10 =>
 ob (bin Tryd.prog .sub 3 y7 (.int .i64 1)) fun y11 =>
 b2 (ybs Tryd.prog 33 1 [0] [y11] h) fun y12 h12 =>
 b2 (ybl Tryd.prog .append #[33, 33] [y10, y12] h12) fun y13 h13 =>
 ob x1 fun a14 =>
 ob (st 1 a14 y13 h13) fun h15 =>
 ob x7 fun a16 =>
 ob (bin Tryd.prog .add 3 a16 (.int .i64 1)) fun y17 =>
 n x1 x5 x6 (some y17) h15)
 (ob x7 fun a18 =>
 ob (bin Tryd.prog .add 3 a18 (.int .i64 1)) fun y19 =>
 n x1 x5 x6 (some y19) h))
 (e0 h)
theorem q93_20_eq (C : YC) (lf : Nat) (n : K4) (e0 : K0) (KR : KF) (KE : KX) : ∀ F h, evX fx93 C lf [1, 0, 0] F h (fun F h => n (F 1) (F 5) (F 6) (F 7) h) KR (bk 0 (fun F h => e0 h) KE) = q93_20 C lf n e0 (F 1) (F 5) (F 6) (F 7) h := by
  intro F h; kernel_rfl
noncomputable def l93_0 (C : YC) (lf : Nat) (e0 : K0) (k : O × O × O × O → HW → Rs) (s : O × O × O × O) (h : HW) : Rs :=
 q93_20 C lf (fun x1 x5 x6 x7 h => k (x1, x5, x6, x7) h) e0 s.1 s.2.1 s.2.2.1 s.2.2.2 h
noncomputable def q93_23 (C : YC) (lf : Nat) (n : K4) (x0 x1 : O) (h : HW) : Rs :=
 ob x0 fun a21 =>
 ob (lenE Tryd.prog 33 a21) fun y22 =>
 n x1 (some a21) (some y22) (some (.int .i64 0)) h
theorem q93_23_eq (C : YC) (lf : Nat) (n : K4) (KR : KF) (KE : KX) : ∀ F h, evX fx93 C lf [0] F h (fun F h => n (F 1) (F 5) (F 6) (F 7) h) KR KE = q93_23 C lf n (F 0) (F 1) h := by
  intro F h; kernel_rfl
noncomputable def q93_24 (C : YC) (lf : Nat) (n : K0) (x0 x1 : O) (h : HW) : Rs :=
 q93_23 C lf (fun x1 x5 x6 x7 h => lp (l93_0 C lf n) lf (x1, x5, x6, x7) h) x0 x1 h
theorem q93_24_eq (C : YC) (lf : Nat) (n : K0) (KR : KF) (KE : KX) : ∀ F h, evX fx93 C lf [] F h (fun F h => n h) KR KE = q93_24 C lf n (F 0) (F 1) h := cSeq (a := subX fx93 [0]) (b := subX fx93 [1]) (by kernel_rfl) (B := (fun F h => lp (l93_0 C lf n) lf ((F 1), (F 5), (F 6), (F 7)) h)) (cBlock (id := 0) (a := subX fx93 [1, 0]) (by kernel_rfl) (cLoop (a := subX fx93 [1, 0, 0]) (g := fun F => (F 1, F 5, F 6, F 7)) (body := l93_0 C lf n) (by kernel_rfl) (fun k => (q93_20_eq C lf (fun x1 x5 x6 x7 h => k (x1, x5, x6, x7) h) n KR KE)))) (q93_23_eq C lf (fun x1 x5 x6 x7 h => lp (l93_0 C lf n) lf (x1, x5, x6, x7) h) KR KE)
noncomputable def fs93 (C : YC) (lf : Nat) (a0 a1 : SV) (h : HW) : Rs := q93_24 C lf ff93 (some a0) (some a1) h
theorem fs93_eq (C : YC) (lf : Nat) (a0 a1 : SV) (h : HW) : yFn Tryd.prog fx93 C lf [a0, a1] h = fs93 C lf a0 a1 h := fnX (K := (fun F h => ff93 h)) (by kernel_rfl) (((q93_24_eq C lf ff93 (fun F h => ff93 h) (fun _ _ _ => none)) _ h).trans (by kernel_rfl))
noncomputable def fy93 : YX Tryd.prog := Y2 fx93 fs93 fs93_eq (by kernel_rfl)
end
end Go.Proofs.YtomialandfplkaaDoor.Eva
namespace Go.Proofs.YtomialandfplkaaDoor.Eva
open Go.Xe
set_option linter.unusedSimpArgs false
section
variable {lf : Nat} {n N i : Nat} {s : S4}
theorem filter_full {n : Nat} {f : Nat → Bool} (h : ∀ j, j < n → f j = true) : ((List.range n).filter f).length = n := by
  rw [List.filter_eq_self.2 fun j hj => h j (List.mem_range.1 hj)]; simp
theorem fillR_short {k : Nat} (hi : i < N) (W : Well n N s) (hk : k < 278) (hb : (fillR n i k s).2 = false) : (fillR n i k s).1.wd = s.wd ∧ n ≤ (usedL s.wd n).length + 2 := by
  unfold fillR at hb ⊢
  by_cases h1 : 0 < s.bl i (plOff k)
  · rw [if_pos h1] at hb; cases hb
  · rw [if_neg h1] at hb ⊢
    by_cases h2 : (fillF n i (needC k) s []).2.2 = true
    · rw [if_pos h2] at hb; cases hb
    · rw [if_neg h2]
      refine ⟨rfl, ?_⟩
      obtain ⟨f1, f2⟩ := fillF_false (n := n) (i := i) (needC k) s [] (by simpa using h2)
      have t : Taken n i s (fillF n i (needC k) s []).2.1 (fillF n i (needC k) s []).1 := fillF_taken (needC k) s [] .nil (needC_lt hk)
      have P := t.props hi W.M W.w
      have h3 := P.cnt
      rw [filter_full f1] at h3
      have h4 := needC_len k
      have h5 : (usedL s.wd n).length = ((List.range n).filter (onB s.wd)).length := rfl
      simp only [List.length_nil, Nat.zero_add] at f2
      omega
def nd1 : Nat → Nat → SV := updR (fun _ => zeroN) 0 (newN ((0 + 1 : Nat) : Int) 0 0 33152 0)
def us1 : Nat → Bool := upd (fun _ => false) 0 true
def s1 : S4 := ⟨fun _ => 0, fun _ => 0, nd1, fun _ _ => 0⟩
theorem map1 (n : Nat) : MapAt n 1 s1.wd s1.nd s1.bl := by
  refine ⟨fun i c hi h12 hc => ?_, fun _ _ => Nat.zero_le _, fun i c _ _ _ h => absurd h (Nat.lt_irrefl 0), fun i c i' c' _ _ _ _ _ _ h => absurd h (Nat.lt_irrefl 0)⟩
  have : i = 0 := by omega
  subst this
  show updR (fun _ => zeroN) 0 (newN ((0 + 1 : Nat) : Int) 0 0 33152 0) 0 c = .int .i64 ((0 : Nat) : Int)
  rw [updR_same]
  unfold newN
  rw [if_neg (by omega), if_neg (by omega), if_neg (by omega), if_neg (by omega), if_neg (by omega), if_neg (by omega)]
  rfl
theorem good1 : ¬ badA 33152 0 0 := by
  have h1 : modeX 33152 = 0 := by decide
  have h2 : modeK 33152 = 32768 := by decide
  unfold badA
  rw [h1, h2]
  simp
theorem oldT_new {h h' : HW} (hn : h'.next = h.next + 4) (hg : gT < h.next) : OldT h' ⟨h.next + 3, h.next + 1, h.next, h.next + 2⟩ :=
  ⟨by show h.next + 3 < _; omega, by show h.next + 1 < _; omega, by show h.next < _; omega, by show h.next + 2 < _; omega, by omega, ⟨by show gT ≠ h.next + 1; omega, by show gT ≠ h.next; omega, by show gT ≠ h.next + 2; omega⟩⟩
end
end Go.Proofs.YtomialandfplkaaDoor.Eva
namespace Go.Xe
section
variable {H : Type} {enc : TypeId × Value → H}
end
end Go.Xe
namespace Go.Xe
open Go.ChangeShapes Go.WideShapes Go.ChangeAt Go.RowKit
section
variable {P : Program} {H : Type} {enc : TypeId × Value → H} {w : World}
theorem weightsAll_mem {e : TypeId} : ∀ {l : List (DataW H)} {d : DataW H}, d ∈ l → ∀ n ∈ d.weights P e, n ∈ DataW.weightsAll P e l
  | d' :: r, d, hd, n, hn => by
    simp only [DataW.weightsAll, List.mem_append]
    rcases List.mem_cons.1 hd with rfl | h
    · exact Or.inl hn
    · exact Or.inr (weightsAll_mem h n hn)
def Wt (P : Program) (t : TypeId) (d : DataW H) : Prop := ∀ n ∈ d.weights P t, n ≤ 140737488351232
theorem wt_top {ts : List TypeId} {ds : List (DataW H)} {j : Nat} {t : TypeId} {d : DataW H} (h : (DataW.weightsEach P ts ds).all (· ≤ reachBytes) = true) (ht : ts[j]? = some t) (hd : ds[j]? = some d) : Wt P t d := fun n hn => by
  have := List.all_eq_true.1 h _ (DataW.weights_mem_each ht hd n hn)
  have hr : reachBytes = 140737488351232 := rfl
  rw [hr] at this
  simpa using this
theorem Wt.len {t e : TypeId} {el sp : List (DataW H)} (h : Wt P t (.slice el sp)) (hu : P.underlying t = some (.slice e)) : (el.length + sp.length) * P.bytesOf e ≤ 140737488351232 :=
  h _ (by simp [DataW.weights, hu])
theorem Wt.elem {t e : TypeId} {el sp : List (DataW H)} (h : Wt P t (.slice el sp)) (hu : P.underlying t = some (.slice e)) {x : DataW H} (hx : x ∈ el) : Wt P e x := fun n hn =>
  h n (by
    simp only [DataW.weights, hu, List.mem_cons, List.mem_append]
    exact .inr (.inl (weightsAll_mem hx n hn)))
theorem Wt.field {t : TypeId} {fs : Array Field} {ds : List (DataW H)} (h : Wt P t (.agg ds)) (hu : P.underlying t = some (.struct fs)) {i : Nat} {f : Field} {d : DataW H} (hf : fs[i]? = some f) (hd : ds[i]? = some d) : Wt P f.type d := fun n hn =>
  h n (by
    simp only [DataW.weights, hu]
    exact DataW.weights_mem_each (j := i) (by simp [hf]) hd n hn)
theorem Wt.str {t : TypeId} {bytes : List UInt8} (h : Wt P t (.lit (.string bytes) : DataW H)) : bytes.length ≤ 140737488351232 := h _ (by simp [DataW.weights])
theorem slice_trod {t e s fuel : Nat} {v : Value} {d : DataW H} {ps : List MemPlace} (ht : P.underlying t = some (.slice e)) (hs : P.cellsOf e = s) (h1 : 1 ≤ s)
    (hf : DataW.trod enc P w 0 (fun _ => true) true fuel t [v] = some (d, ps)) :
    liftA w.heap.size v = lift w.heap.size v ∧ ((lift w.heap.size v = .val (.slice none 0 0) ∧ d = .nil) ∨ (lift w.heap.size v = .se 0 ∧ d = .slice [] []) ∨
      ∃ (id off len cap : Nat) (m : Mt) (el sp : List (DataW H)), lift w.heap.size v = .sl id off len (some cap) 0 ∧ len ≤ cap ∧ (hw0 w).mt id = some m ∧ d = .slice el sp ∧ el.length = len ∧
        ∀ i, i < len → ∃ (cs : List Value) (fuel' : Nat) (d' : DataW H) (ps' : List MemPlace), cs.length = s ∧ el[i]? = some d' ∧ (∀ j, j < s → (hw0 w).cell id (off + i * s + j) = (cs[j]?).map (lift w.heap.size)) ∧
          DataW.trod enc P w 0 (fun _ => true) true fuel' e cs = some (d', ps')) := by
  subst hs
  rcases DataW.trod_slice ht hf with ⟨hcs, hx⟩ | ⟨a, len, cap, elems, rest, n, _, hcs, hx, _, hl, hm, hlen, hel, hsp, _⟩
  · simp only [List.cons.injEq, and_true] at hcs
    subst hcs
    exact ⟨rfl, .inl ⟨rfl, (Prod.mk.inj hx).1⟩⟩
  · simp only [List.cons.injEq, and_true] at hcs
    subst hcs
    refine ⟨rfl, .inr ?_⟩
    have hd := (Prod.mk.inj hx).1
    obtain ⟨hr1, hr2⟩ := hsp rfl
    by_cases h0 : len = 0 ∧ cap = 0
    · obtain ⟨rfl, rfl⟩ := h0
      have e1 : elems = [] := List.length_eq_zero_iff.1 hlen
      have e2 : rest = [] := List.length_eq_zero_iff.1 (by simpa using hr1)
      rw [e1, e2] at hd
      exact .inl ⟨rfl, hd⟩
    · have hp : 0 < cap := by omega
      obtain ⟨id, off, spot⟩ := a
      -- a first element, in use or spare
      have first : ∃ cs, w.cells? 0 (Addr.add ⟨id, off, spot⟩ 0) (P.cellsOf e) = some cs := by
        by_cases hl0 : 0 < len
        · have h2 := hel 0 hl0
          have h3 : 0 < elems.length := by omega
          rw [List.getElem?_eq_getElem h3] at h2
          obtain ⟨cs, g1, _⟩ := Option.bind_eq_some_iff.1 h2
          exact ⟨cs, by simpa using g1⟩
        · have hl0 : len = 0 := by omega
          have h2 := hr2 0 (by omega)
          have h3 : 0 < rest.length := by omega
          rw [List.getElem?_eq_getElem h3] at h2
          obtain ⟨cs, g1, _⟩ := Option.bind_eq_some_iff.1 h2
          rw [hl0] at g1
          exact ⟨cs, by simpa using g1⟩
      obtain ⟨c0, hc0⟩ := first
      obtain ⟨_, hlc, hcc⟩ := World.cells?_some hc0
      have hcell0 := hcc 0 (by omega)
      have hlt0 : 0 < c0.length := by omega
      rw [List.getElem?_eq_getElem hlt0] at hcell0
      have hs : spot = none := add_spot (add_spot (World.cell?_spot hcell0))
      subst hs
      rw [addr_add, addr_add] at hcell0
      have hid : id < w.heap.size := cell_lt hcell0
      obtain ⟨m, hmt⟩ := hw0_mt hcell0
      refine .inr ⟨id, off, len, cap, m, _, _, lift_sl (off := off) hid h0, hl, hmt, hd, by simpa using hlen, fun i hi => ?_⟩
      have h2 := hel i hi
      have h3 : i < elems.length := by omega
      rw [List.getElem?_eq_getElem h3] at h2
      obtain ⟨cs, g1, g2⟩ := Option.bind_eq_some_iff.1 h2
      obtain ⟨_, k1, k2⟩ := World.cells?_some g1
      refine ⟨cs, n, elems[i].1, elems[i].2, k1, by simp [List.getElem?_eq_getElem h3], fun j hj => ?_, g2⟩
      have := k2 j hj
      rw [addr_add, addr_add] at this
      rw [hw0_cell, this]
theorem field_trod {t fuel i : Nat} {fs : Array Field} {cs : List Value} {d : DataW H} {ps : List MemPlace} {f : Field} (ht : P.underlying t = some (.struct fs)) (h : DataW.trod enc P w 0 (fun _ => true) true fuel t cs = some (d, ps)) (hf : fs[i]? = some f) :
    ∃ (fuel' : Nat) (ds : List (DataW H)) (d' : DataW H) (ps' : List MemPlace), d = .agg ds ∧ ds[i]? = some d' ∧ DataW.trod enc P w 0 (fun _ => true) true fuel' f.type ((cs.drop f.offset).take (P.cellsOf f.type)) = some (d', ps') := by
  obtain ⟨xs, n, _, hx, _, hl, hall⟩ := DataW.trod_struct ht h
  have h1 := hall i f hf
  have hi : i < xs.length := by
    rw [hl]
    exact (Array.getElem?_eq_some_iff.1 hf).1
  rw [List.getElem?_eq_getElem hi] at h1
  exact ⟨n, _, xs[i].1, xs[i].2, (Prod.mk.inj hx).1, by simp [List.getElem?_eq_getElem hi], h1⟩
theorem one_trod {t fuel o : Nat} {cs : List Value} {d : DataW H} {ps : List MemPlace} (hl : o < cs.length) (h : DataW.trod enc P w 0 (fun _ => true) true fuel t ((cs.drop o).take 1) = some (d, ps)) :
    ∃ v, cs[o]? = some v ∧ DataW.trod enc P w 0 (fun _ => true) true fuel t [v] = some (d, ps) := by
  have : (cs.drop o).take 1 = [cs[o]] := by
    rw [List.drop_eq_getElem_cons hl]; rfl
  rw [this] at h
  exact ⟨cs[o], List.getElem?_eq_getElem hl, h⟩
theorem fld {t ty fuel i o : Nat} {fs : Array Field} {cs : List Value} {d : DataW H} {ps : List MemPlace} {f : Field} (ht : P.underlying t = some (.struct fs)) (h : DataW.trod enc P w 0 (fun _ => true) true fuel t cs = some (d, ps)) (hf : fs[i]? = some f)
    (hty : f.type = ty) (ho : f.offset = o) (hc : P.cellsOf ty = 1) (hl : o < cs.length) :
    ∃ (v : Value) (fuel' : Nat) (ds : List (DataW H)) (d' : DataW H) (ps' : List MemPlace), cs[o]? = some v ∧ d = .agg ds ∧ ds[i]? = some d' ∧ DataW.trod enc P w 0 (fun _ => true) true fuel' ty [v] = some (d', ps') := by
  obtain ⟨f', ds, d', ps', h1, h2, h3⟩ := field_trod ht h hf
  rw [hty, ho, hc] at h3
  obtain ⟨v, h4, h5⟩ := one_trod hl h3
  exact ⟨v, f', ds, d', ps', h4, h1, h2, h5⟩
theorem Wt.fld {t ty i : Nat} {fs : Array Field} {f : Field} {ds : List (DataW H)} {d : DataW H} (h : Wt P t (.agg ds)) (hu : P.underlying t = some (.struct fs)) (hf : fs[i]? = some f) (hty : f.type = ty) (hd : ds[i]? = some d) : Wt P ty d := by
  rw [← hty]; exact h.field hu hf hd
theorem int_trod {t fuel : Nat} {k : IntKind} {v : Value} {d : DataW H} {ps : List MemPlace} (ht : P.underlying t = some (.int k)) (h : DataW.trod enc P w 0 (fun _ => true) true fuel t [v] = some (d, ps)) :
    ∃ n, v = .int k n ∧ k.min ≤ n ∧ n ≤ k.max := by
  obtain ⟨n, h1, _, hw⟩ := DataW.trod_int ht h
  simp only [List.cons.injEq, and_true] at h1
  exact ⟨n, h1, by simpa [Lit.wf] using hw⟩
theorem bool_trod {t fuel : Nat} {v : Value} {d : DataW H} {ps : List MemPlace} (ht : P.underlying t = some .bool) (h : DataW.trod enc P w 0 (fun _ => true) true fuel t [v] = some (d, ps)) : ∃ b, v = .bool b := by
  obtain ⟨b, h1, _⟩ := DataW.trod_bool ht h
  simp only [List.cons.injEq, and_true] at h1
  exact ⟨b, h1⟩
theorem slice_arg {t e s j : Nat} {v : Value} {d : DataW H} {ps : List MemPlace} {r : Reach} {b0 : Nat} {ts : List TypeId} {ds : List (DataW H)} (ht : P.underlying t = some (.slice e)) (hs : P.cellsOf e = s) (h1 : 1 ≤ s)
    (hval : Value.okWide P w r b0 t v) (h : DataW.Trod enc P w 0 (fun _ => true) true t v d ps) (hts : ts[j]? = some t) (hds : ds[j]? = some d) (hz : (DataW.weightsEach P ts ds).all (· ≤ reachBytes) = true) :
    Emp (liftA w.heap.size v) ∨
      ∃ (id off len cap : Nat) (m : Mt), liftA w.heap.size v = .sl id off len (some cap) 0 ∧ len ≤ cap ∧ (hw0 w).mt id = some m ∧ len * P.bytesOf e ≤ 140737488351232 ∧
        ∀ i, i < len → ∃ (cs : List Value) (fuel' : Nat) (d' : DataW H) (ps' : List MemPlace), cs.length = s ∧ Wt P e d' ∧ (∀ j, j < s → (hw0 w).cell id (off + i * s + j) = (cs[j]?).map (lift w.heap.size)) ∧
          DataW.trod enc P w 0 (fun _ => true) true fuel' e cs = some (d', ps') := by
  have hwt := wt_top hz hts hds
  obtain ⟨fuel, hf⟩ := h
  obtain ⟨a0, len0, cap0, rfl⟩ := okWide_slice ht hval
  have hf : DataW.trod enc P w 0 (fun _ => true) true fuel t [.slice a0 len0 cap0] = some (d, ps) := hf
  obtain ⟨e0, e1⟩ := slice_trod ht hs h1 hf
  rw [e0]
  rcases e1 with ⟨e1, rfl⟩ | ⟨e1, rfl⟩ | ⟨id, off, len, cap, m, el, sp, e1, hlc, hm, rfl, hlen, hall⟩
  · exact .inl (.inl e1)
  · exact .inl (.inr ⟨_, e1⟩)
  · have h3 := hwt.len ht
    have h4 : len * P.bytesOf e ≤ (el.length + sp.length) * P.bytesOf e := Nat.mul_le_mul_right _ (by omega)
    refine .inr ⟨id, off, len, cap, m, e1, hlc, hm, by omega, fun i hi => ?_⟩
    obtain ⟨cs, fuel', d', ps', g1, g2, g3, g4⟩ := hall i hi
    exact ⟨cs, fuel', d', ps', g1, hwt.elem ht (List.mem_of_getElem? g2), g3, g4⟩
theorem bytes_trodW {t e fuel : Nat} {v : Value} {d : DataW H} {ps : List MemPlace} (ht : P.underlying t = some (.slice e)) (he : P.underlying e = some (.int .u8)) (hc : P.cellsOf e = 1) (hb : P.bytesOf e = 1)
    (hf : DataW.trod enc P w 0 (fun _ => true) true fuel t [v] = some (d, ps)) (hw : Wt P t d) :
    ∃ l : List Nat, Bytes (hw0 w) (lift w.heap.size v) l ∧ CapOK (lift w.heap.size v) ∧ l.length ≤ 140737488351232 := by
  obtain ⟨l, B, C, _, hd⟩ := bytes_trod ht he hc hf
  refine ⟨l, B, C, ?_⟩
  rcases hd with ⟨_, rfl⟩ | ⟨el, sp, rfl, hl⟩
  · simp
  · have := hw.len ht
    rw [hb] at this
    omega
end
theorem choose_list {α : Type} {p : Nat → α → Prop} : ∀ {n : Nat}, (∀ i, i < n → ∃ a, p i a) → ∃ L : List α, L.length = n ∧ ∀ i (hi : i < L.length), p i L[i]
  | 0, _ => ⟨[], rfl, fun i hi => by simp at hi⟩
  | n + 1, h => by
    obtain ⟨L, h1, h2⟩ := choose_list (p := p) (n := n) fun i hi => h i (by omega)
    obtain ⟨a, ha⟩ := h n (by omega)
    refine ⟨L ++ [a], by simp [h1], fun i hi => ?_⟩
    by_cases hn : i < L.length
    · rw [List.getElem_append_left hn]; exact h2 i hn
    · have : i = n := by simp at hi; omega
      subst this
      rw [List.getElem_append_right (by omega)]
      simpa [h1] using ha
end Go.Xe
namespace Go.Xe
section
variable {P : Program} {t u e b : Nat} {h : HW} {c : SV} {n k off len lo : Nat} {cap : Option Nat}
structure AppZ (P : Program) (t u e b : Nat) (c : SV) : Prop where
  hu : P.underlying t = some (.slice e)
  hs : tySize P e = some 1
  hz : ∃ z, tyZero P e = some z ∧ (mkV z).cells = [c]
  hb : tyBytes P e = some b
  hi : ∃ k, P.underlying u = some (.int k)
  h1 : c.one = true
theorem ybl_appendZ {kd : IntKind} (T : AppZ P t u e b c) (h1 : n ≤ 140737488355328) (h2 : n * b ≤ 140737488355328) :
    ybl P .append #[t, u] [.sl k off len cap lo, .int kd (n : Int)] h = hx (appTo e 1 b k off len cap lo n (List.replicate n c) h.x0) := by
  obtain ⟨hu, hs, ⟨z, hz, hzc⟩, hb, ⟨k0, hi⟩, hc1⟩ := T
  have e0 : bltE P .append #[t, u] [.sl k off len cap lo, .int kd (n : Int)] h.x0 = semAppendZ P t (.sl k off len cap lo) (.int kd (n : Int)) h.x0 := by
    show (match P.underlying u with | some d => bif noInt d then semAppend P t _ _ h.x0 else (bif yesInt d then semAppendZ P t _ _ h.x0 else none) | none => none) = _
    simp only [hi, noInt, yesInt, cond_false, cond_true]
  have c1 : (Nat.beq 1 1 && (c.one && (Nat.ble n 140737488355328 && Nat.ble (n * b) 140737488355328))) = true := by
    rw [hc1, Nat.ble_eq_true_of_le h1, Nat.ble_eq_true_of_le h2]; rfl
  unfold ybl
  rw [e0]
  show hx (match P.underlying t, SV.int kd (Int.ofNat n) with
    | some (.slice e), .int _ (.ofNat n) => match tySize P e, tyZero P e, tyBytes P e with
      | some sz, some z, some b => match (mkV z).cells with
        | [c] => bif Nat.beq sz 1 && (c.one && (Nat.ble n 140737488355328 && Nat.ble (n * b) 140737488355328)) then appTo e 1 b k off len cap lo n (List.replicate n c) h.x0 else none
        | _ => none
      | _, _, _ => none
    | _, _ => none) = _
  simp only [hu, hs, hz, hb, hzc, c1, cond_true]
theorem appTo_cap {sz cp N : Nat} {news : List SV} (hw : h.wr k N) (hN : off + (len + n) * sz ≤ N) (hc : len + n ≤ cp) :
    hx (appTo e sz b k off len (some cp) lo n news h.x0) = some (.sl k off (len + n) (some cp) lo, h.set k (off + len * sz) news) := by
  obtain ⟨m, hm, hr, hn⟩ := hw
  unfold HW.mt at hm
  cases ho : h.objs.get k with
  | none => simp [ho] at hm
  | some o =>
    simp only [ho, Option.some.injEq] at hm
    subst hm
    simp only [Ob.mt] at hr hn
    have b1 : Nat.ble (len + n) cp = true := Nat.ble_eq_true_of_le hc
    have b2 : (Nat.ble (off + (len + n) * sz) o.n && !o.ro) = true := by rw [Nat.ble_eq_true_of_le (by omega), hr]; rfl
    simp only [appTo, HW.x0_objs, ho, force_eq, b1, cond_true, appIn, b2]
    unfold HW.set
    simp only [ho, obSet_eq, hr]
    rfl
theorem app_cap {sz cp N d : Nat} {y : SV} {news : List SV} (T : AppT P t u e sz d) (he : appElems h.x0 sz y = some (n, news)) (hnl : news.length = n * sz) (hone : allOne news = true) (hw : h.wr k N) (hN : off + (len + n) * sz ≤ N) (hc : len + n ≤ cp) :
    ybl P .append #[t, u] [.sl k off len (some cp) lo, y] h = some (.sl k off (len + n) (some cp) lo, h.set k (off + len * sz) news) :=
  (ybl_append T he hnl hone).trans (appTo_cap hw hN hc)
theorem appZ_cap {kd : IntKind} {cp N : Nat} (T : AppZ P t u e b c) (h1 : n ≤ 140737488355328) (h2 : n * b ≤ 140737488355328) (hw : h.wr k N) (hN : off + (len + n) ≤ N) (hc : len + n ≤ cp) :
    ybl P .append #[t, u] [.sl k off len (some cp) lo, .int kd (n : Int)] h = some (.sl k off (len + n) (some cp) lo, h.set k (off + len) (List.replicate n c)) := by
  have := (ybl_appendZ (h := h) (k := k) (off := off) (len := len) (cap := some cp) (lo := lo) (kd := kd) T h1 h2).trans (appTo_cap hw (by omega) hc)
  rwa [Nat.mul_one] at this
theorem appZ_sl {kd : IntKind} {ys : List SV} (T : AppZ P t u e b c) (hys : ys.length = len) (A : SlAt h k e 1 len ys) (hc : len + n ≤ 140737488355328) (hcb : (len + n) * b ≤ 140737488355328) :
    ∃ x' h', ybl P .append #[t, u] [.sl k 0 len none 0, .int kd (n : Int)] h = some (x', h') ∧ Sl h' e 1 x' (len + n) (ys ++ List.replicate n c) ∧ h.next ≤ h'.next ∧ h'.ng = h.ng ∧
      (∀ j, j < h.next → rowOf (.sl k 0 len none 0) ≠ some j → SameOb h h' j) ∧ (∀ j, rowOf x' = some j → rowOf (.sl k 0 len none 0) = some j ∨ h.next ≤ j) ∧ (Fresh h → Fresh h') := by
  rw [ybl_appendZ T (by omega) (Nat.le_trans (Nat.mul_le_mul_right _ (Nat.le_add_left _ _)) hcb)]
  exact appTo_sl (by omega) A (by simp) hc hcb
theorem appZ_none {kd : IntKind} (T : AppZ P t u e b c) (hk : ∃ m, h.mt k = some m) (hn : 1 ≤ n) (h1 : n ≤ 140737488355328) (h2 : n * b ≤ 140737488355328) :
    ybl P .append #[t, u] [.sl k off 0 (some 0) lo, .int kd (n : Int)] h = some (.sl h.next 0 n none 0, h.new (looseOb e 1 (List.replicate n c))) := by
  rw [ybl_appendZ T h1 h2]
  obtain ⟨m, hm⟩ := hk
  unfold HW.mt at hm
  cases ho : h.objs.get k with
  | none => simp [ho] at hm
  | some o =>
    have b1 : Nat.ble n 0 = false := by
      cases hb : Nat.ble n 0 with
      | false => rfl
      | true => exact absurd (Nat.le_of_ble_eq_true hb) (by omega)
    simp only [appTo, HW.x0_objs, ho, force_eq, Nat.zero_add, b1, cond_false, Nat.zero_mul, loadN, List.nil_append]
    exact appNew_hx h1 h2
end
end Go.Xe
namespace Go.Proofs.YtomialandfplkaaDoor.Eva
open Go.Xe
set_option linter.unusedSimpArgs false
def byteAt (s : S4) (i p : Nat) : Nat := if s.bl i (plOff (p / 64)) = 0 then 0 else s.b ((s.bl i (plOff (p / 64)) - 1) * 64 + p % 64)
def contL (s : S4) (i off n : Nat) : List Nat := (List.range n).map fun j => byteAt s i (off + j)
theorem contL_length (s : S4) (i off n : Nat) : (contL s i off n).length = n := by simp [contL]
theorem contL_get (s : S4) (i off : Nat) {n j : Nat} (hj : j < n) : (contL s i off n).getD j 0 = byteAt s i (off + j) := by simp [contL, List.getD, hj]
theorem appT_b : AppT Tryd.prog 24 24 5 1 1 :=
  ⟨Tryd.underlying24, by kernel_rfl, ⟨.int .u8 0, by kernel_rfl, rfl⟩, by kernel_rfl, ⟨_, Tryd.underlying24, rfl⟩, Nat.le_refl 1⟩
theorem appZ_b : AppZ Tryd.prog 24 3 5 1 (.int .u8 0) :=
  ⟨Tryd.underlying24, by kernel_rfl, ⟨.int .u8 0, by kernel_rfl, rfl⟩, by kernel_rfl, ⟨_, Tryd.underlying3⟩, rfl⟩
theorem zeros_get {n j : Nat} (hj : j < n) : (List.replicate n (SV.int .u8 0))[j]? = some (.int .u8 0) := by simp [hj]
section
variable {lf : Nat} {h : HW} {T : TN} {n N : Nat} {now : Int} {us : Nat → Bool} {s : S4} {i : Nat}
theorem Frm.old {h h1 h2 : HW} {k : Nat} (a : Frm h h1 (fun _ => False)) (b : Frm h1 h2 (· = k)) (hk : h.next ≤ k) : Frm h h2 (fun _ => False) :=
  ⟨b.ng.trans a.ng, Nat.le_trans a.next b.next, fun j hj _ => (b.same j (Nat.lt_of_lt_of_le hj a.next) (by omega)).trans (a.same j hj (fun e => e)), fun hf => b.fr (a.fr hf)⟩
theorem TableAt.keep {wd b : Nat → Nat} {nd : Nat → Nat → SV} {h' : HW} (A : TableAt h T n N wd b now us nd) (F : Frm h h' (fun _ => False)) : TableAt h' T n N wd b now us nd :=
  A.frame F.next fun j hj => F.same j (by
    rcases hj with rfl | rfl | rfl | rfl
    · exact A.lt
    · exact A.st.lk
    · exact A.st.ldk
    · exact A.ln) (fun e => e)
theorem read_loop {C : YC} (Pl : PlaceOK C) (Rd : ReadOK C) (hi : i < N) {h0 : HW} {off cap : Nat} (A : TableAt h0 T n N s.wd s.b now us s.nd) (M : MapAt n N s.wd s.nd s.bl) (hoff : off + cap ≤ 17792) {k : Nat} (hk0 : h0.next ≤ k) (e0 : K1) :
    ∀ (g d : Nat), cap - d ≤ g → d ≤ cap → ∀ f, g < f → ∀ h, Frm h0 h (fun _ => False) → k < h.next → h.wr k cap → (∀ j, j < d → h.cell k j = some (.int .u8 ((byteAt s i (off + j) : Nat) : Int))) →
    ∃ h', lp (l41_4 C lf e0) f (some (.ptr T.kt 0), some (.int .i64 ((off + d : Nat) : Int)), some (.ptr T.kn (i * 308)), some (.int .i64 ((off + cap : Nat) : Int)), some (.sl k 0 d (some cap) 0)) h =
        e0 (some (.sl k 0 cap (some cap) 0)) h' ∧ Frm h0 h' (fun _ => False) ∧ k < h'.next ∧ h'.wr k cap ∧ (∀ j, j < cap → h'.cell k j = some (.int .u8 ((byteAt s i (off + j) : Nat) : Int))) := by
  intro g
  induction g with
  | zero =>
    intro d hg hd f hf h F hk hw hc
    obtain ⟨f, rfl⟩ : ∃ g, f = g + 1 := ⟨f - 1, by omega⟩
    have hdc : d = cap := by omega
    subst hdc
    have hlt : decide (((off + d : Nat) : Int) < ((off + d : Nat) : Int)) = false := decide_eq_false (by omega)
    refine ⟨h, ?_, F, hk, hw, hc⟩
    rw [lp_succ]
    unfold l41_4 q41_40
    simp only [ob_some, b2_some, bc_ret, bcn_ret, gd_tt, gd_ff, gd_tf, gd_ft, ypk_true, ypk_false, yIf_true, yIf_false, semNil_ptr, fa_ptr, ld1_ptr, ext_tup, fd1_agg, un_not, bin_add, bin_sub, bin_mul, bin_eql, bin_neq, bin_lss, bin_leq, bin_gtr, bin_geq, Nat.zero_add, Nat.mul_one, hlt]
  | succ g ih =>
    intro d hg hd f hf h F hk hw hc
    obtain ⟨f, rfl⟩ : ∃ g, f = g + 1 := ⟨f - 1, by omega⟩
    rw [lp_succ]
    show ∃ h', q41_40 C lf (fun x0 x2 x10 x12 x13 h => lp (l41_4 C lf e0) f (x0, x2, x10, x12, x13) h) e0 (some (.ptr T.kt 0)) (some (.int .i64 ((off + d : Nat) : Int))) (some (.ptr T.kn (i * 308))) (some (.int .i64 ((off + cap : Nat) : Int))) (some (.sl k 0 d (some cap) 0)) h = _ ∧ _
    unfold q41_40
    by_cases hdl : d < cap
    · have hlt : decide (((off + d : Nat) : Int) < ((off + cap : Nat) : Int)) = true := decide_eq_true (by omega)
      have hq : IntKind.i64.wrap (((off + d : Nat) : Int).tdiv 64) = (((off + d) / 64 : Nat) : Int) := by
        rw [Int.tdiv_eq_ediv_of_nonneg (by omega), wrap_i64 (by omega) (by omega)]; rfl
      have hr : ((off + d : Nat) : Int).tmod 64 = (((off + d) % 64 : Nat) : Int) := by
        rw [Int.tmod_eq_emod_of_nonneg (by omega)]; rfl
      have hkk : (off + d) / 64 < 278 := by omega
      have hbyte : ∀ j, j < min (64 - (off + d) % 64) (cap - d) → byteAt s i (off + (d + j)) = if s.bl i (plOff ((off + d) / 64)) = 0 then 0 else s.b ((s.bl i (plOff ((off + d) / 64)) - 1) * 64 + ((off + d) % 64 + j)) := fun j hj => by
        unfold byteAt
        rw [show (off + (d + j)) / 64 = (off + d) / 64 by omega, show (off + (d + j)) % 64 = (off + d) % 64 + j by omega]
      generalize hkv : (off + d) / 64 = kk at *
      generalize hav : (off + d) % 64 = a at *
      have ha : a < 64 := by omega
      obtain ⟨p1, p2⟩ := plOff_lt hkk
      generalize hmv : min (64 - a) (cap - d) = m at *
      have hm1 : 1 ≤ m := by omega
      have hm2 : m ≤ 64 - a := by omega
      have hm3 : d + m ≤ cap := by omega
      have hs64 : IntKind.i64.wrap (64 - (a : Int)) = ((64 - a : Nat) : Int) := by rw [wrap_i64 (by omega) (by omega)]; omega
      have hsl : IntKind.i64.wrap (((off + cap : Nat) : Int) - ((off + d : Nat) : Int)) = ((cap - d : Nat) : Int) := by rw [wrap_i64 (by omega) (by omega)]; omega
      have hmin : min ((64 - a : Nat) : Int) ((cap - d : Nat) : Int) = (m : Int) := by omega
      have hdm : IntKind.i64.wrap (((off + d : Nat) : Int) + (m : Int)) = ((off + (d + m) : Nat) : Int) := by rw [wrap_i64 (by omega) (by omega)]; omega
      have ham : IntKind.i64.wrap ((a : Int) + (m : Int)) = ((a + m : Nat) : Int) := by rw [wrap_i64 (by omega) (by omega)]; omega
      have Ah := A.keep F
      have hpl : C (.fn 76) [.ptr T.kn (i * 308), .int .i64 (kk : Int)] h = some (.ret (.ptr T.kn (i * 308 + plOff kk)), h) := Pl h T.kn (i * 308) kk hkk
      have hcell := Ah.cn i (plOff kk) hi p2
      rw [M.cell i _ hi p1 p2] at hcell
      have hle := M.le i (plOff kk)
      have hn2 := A.st.n2
      by_cases hz : s.bl i (plOff kk) = 0
      · have hgt : decide ((0 : Int) < ((s.bl i (plOff kk) : Nat) : Int)) = false := decide_eq_false (by omega)
        have hap := appZ_cap (h := h) (k := k) (off := 0) (len := d) (lo := 0) (kd := .i64) (n := m) (cp := cap) appZ_b (by omega) (by omega) hw (by omega) hm3
        have F1 : Frm h (h.set k (0 + d) (List.replicate m (.int .u8 0))) (· = k) := frm_set rfl
        obtain ⟨h3, r1, r2⟩ := ih (d + m) (by omega) hm3 f (by omega) (h.set k (0 + d) (List.replicate m (.int .u8 0))) (F.old F1 hk0) (by rw [set_next]; exact hk) (wr_set hw) (fun j hj => by
          by_cases hjd : j < d
          · rw [cell_set_off (.inr (.inl (by omega)))]; exact hc j hjd
          · rw [cell_set_same hw (by simp; omega) (by omega) (by simp; omega), zeros_get (by omega)]
            have := hbyte (j - d) (by omega)
            rw [show d + (j - d) = j by omega, if_pos hz] at this
            rw [this]; rfl)
        refine ⟨h3, ?_, r2⟩
        simp only [ob_some, b2_some, bc_ret, bcn_ret, gd_tt, gd_ff, gd_tf, gd_ft, ypk_true, ypk_false, yIf_true, yIf_false, semNil_ptr, fa_ptr, ld1_ptr, ext_tup, fd1_agg, un_not, bin_add, bin_sub, bin_mul, bin_eql, bin_neq, bin_lss, bin_leq, bin_gtr, bin_geq, Nat.zero_add, Nat.mul_one, hlt, bin_quo (show (64 : Int) ≠ 0 by omega), hq, bin_rem (show (64 : Int) ≠ 0 by omega), hr, hs64, hsl, ybl_min, hmin, hpl, hcell, hgt, hap, hdm]
        rw [Nat.zero_add] at r1
        exact r1
      · have hgt : decide ((0 : Int) < ((s.bl i (plOff kk) : Nat) : Int)) = true := decide_eq_true (by omega)
        have hon := M.on i (plOff kk) hi p1 p2 (by omega)
        have hs1 : IntKind.i64.wrap ((s.bl i (plOff kk) : Int) - 1) = ((s.bl i (plOff kk) - 1 : Nat) : Int) := by rw [wrap_i64 (by omega) (by omega)]; omega
        have hin : inUse n s.wd ((s.bl i (plOff kk) - 1 : Nat) : Int) = true := by
          simp only [inUse, Int.toNat_natCast, hon, Bool.and_true, Bool.and_eq_true, decide_eq_true_eq]; omega
        obtain ⟨h1, c1, n1, w1, g1, F1⟩ := (Rd h T.ks T.kd n s.wd s.b ((s.bl i (plOff kk) - 1 : Nat) : Int) Ah.st (by omega) (by omega)).2 hin
        rw [Int.toNat_natCast] at g1
        generalize hv : s.bl i (plOff kk) - 1 = v at *
        have hblt := A.st.blt
        generalize hbl : (List.range 64).map (fun j => s.b (v * 64 + j)) = bk
        have hbk : bk.length = 64 := by rw [← hbl]; simp
        have hbg : ∀ j, j < 64 → bk.getD j 0 = s.b (v * 64 + j) := fun j hj => by rw [← hbl]; simp [List.getD, hj]
        have hb256 : ∀ c ∈ bk, c < 256 := fun c hc => by
          rw [← hbl] at hc
          obtain ⟨j, _, rfl⟩ := List.mem_map.1 hc
          exact hblt _
        obtain ⟨mm, hmm, _⟩ := w1
        have B1 : Bytes h1 (.sl h.next 0 64 (some 64) 0) bk := ⟨hb256, .inr ⟨h.next, 0, some 64, 0, mm, by rw [hbk], hmm, fun j hj => by rw [hbk] at hj; rw [Nat.zero_add, g1 j hj, hbg j hj]⟩⟩
        obtain ⟨x', q1, q2, q3⟩ := bytes_mid (P := Tryd.prog) (t := 24) (lo := a) (hi := a + m) (k1 := .i64) (k2 := .i64) Tryd.underlying24 (s := 1) (by kernel_rfl) rfl B1 (Nat.le_refl 64) (by omega) (by omega)
        rw [Nat.add_sub_cancel_left] at q2
        have hlen2 : ((bk.drop a).take m).length = m := by simp; omega
        have hw1 : h1.wr k cap := by
          obtain ⟨m2, a1, a2, a3⟩ := hw
          exact ⟨m2, by rw [(F1.same k hk (fun e => e)).mt]; exact a1, a2, a3⟩
        have hc1 : ∀ j, j < d → h1.cell k j = some (.int .u8 ((byteAt s i (off + j) : Nat) : Int)) := fun j hj => by rw [(F1.same k hk (fun e => e)).cell]; exact hc j hj
        have hel := elems_bytes q2
        rw [hlen2] at hel
        have hap := app_cap (h := h1) (k := k) (off := 0) (len := d) (lo := 0) (n := m) (cp := cap) (N := cap) appT_b hel (by rw [u8s_length, hlen2, Nat.mul_one]) (u8s_one _) hw1 (by omega) hm3
        rw [Nat.mul_one] at hap
        generalize hnw : u8s ((bk.drop a).take m) = nw at *
        have hnl : nw.length = m := by rw [← hnw, u8s_length, hlen2]
        have F2 : Frm h1 (h1.set k (0 + d) nw) (· = k) := frm_set rfl
        have F01 : Frm h0 h1 (fun _ => False) := F.trans F1
        obtain ⟨h3, r1, r2⟩ := ih (d + m) (by omega) hm3 f (by omega) (h1.set k (0 + d) nw) (F01.old F2 hk0) (by rw [set_next, n1]; omega) (wr_set hw1) (fun j hj => by
          by_cases hjd : j < d
          · rw [cell_set_off (.inr (.inl (by omega)))]; exact hc1 j hjd
          · rw [cell_set_same hw1 (by omega) (by omega) (by omega), ← hnw, u8s_get _ (by omega)]
            have := hbyte (j - d) (by omega)
            rw [show d + (j - d) = j by omega, if_neg hz] at this
            rw [this]
            have e1 : ((bk.drop a).take m).getD (j - (0 + d)) 0 = bk.getD (a + (j - d)) 0 := by
              rw [Nat.zero_add]
              simp [List.getD, List.getElem?_take, show j - d < m by omega, List.getElem?_drop]
            rw [e1, hbg _ (by omega)])
        refine ⟨h3, ?_, r2⟩
        have hc0 := Ah.c0
        simp only [ob_some, b2_some, bc_ret, bcn_ret, gd_tt, gd_ff, gd_tf, gd_ft, ypk_true, ypk_false, yIf_true, yIf_false, semNil_ptr, fa_ptr, ld1_ptr, ext_tup, fd1_agg, un_not, bin_add, bin_sub, bin_mul, bin_eql, bin_neq, bin_lss, bin_leq, bin_gtr, bin_geq, Nat.zero_add, Nat.mul_one, hlt, bin_quo (show (64 : Int) ≠ 0 by omega), hq, bin_rem (show (64 : Int) ≠ 0 by omega), hr, hs64, hsl, ybl_min, hmin, hpl, hcell, hgt, hc0, hs1, c1, List.getElem?_cons_zero, List.getElem?_cons_succ, ham, q1, hap, hdm]
        rw [Nat.zero_add] at r1
        exact r1
    · have hdc : d = cap := by omega
      subst hdc
      have hlt : decide (((off + d : Nat) : Int) < ((off + d : Nat) : Int)) = false := decide_eq_false (by omega)
      refine ⟨h, ?_, F, hk, hw, hc⟩
      simp only [ob_some, b2_some, bc_ret, bcn_ret, gd_tt, gd_ff, gd_tf, gd_ft, ypk_true, ypk_false, yIf_true, yIf_false, semNil_ptr, fa_ptr, ld1_ptr, ext_tup, fd1_agg, un_not, bin_add, bin_sub, bin_mul, bin_eql, bin_neq, bin_lss, bin_leq, bin_gtr, bin_geq, Nat.zero_add, Nat.mul_one, hlt]
def TReadOK (C : YC) : Prop := ∀ h T n N now us s i (off m : Int) (sz : Nat), TableAt h T n N s.wd s.b now us s.nd → MapAt n N s.wd s.nd s.bl → i < N → us i = true → s.nd i 5 = .int .i64 (sz : Int) → sz ≤ 17792 →
  -9223372036854775808 ≤ off → off < 9223372036854775808 → -9223372036854775808 ≤ m → m < 9223372036854775808 →
  ((off < 0 ∨ m < 0) → C (.fn 41) [.ptr T.kt 0, .int .i64 ((i + 1 : Nat) : Int), .int .i64 off, .int .i64 m] h = some (.ret (.tup [.val (.slice none 0 0), .int .i64 22]), h)) ∧
  (0 ≤ off → 0 ≤ m → (sz : Int) ≤ off → C (.fn 41) [.ptr T.kt 0, .int .i64 ((i + 1 : Nat) : Int), .int .i64 off, .int .i64 m] h = some (.ret (.tup [.val (.slice none 0 0), .int .i64 0]), h)) ∧
  (0 ≤ off → 0 ≤ m → off < sz → ∃ h', C (.fn 41) [.ptr T.kt 0, .int .i64 ((i + 1 : Nat) : Int), .int .i64 off, .int .i64 m] h =
      some (.ret (.tup [.sl h.next 0 (min m.toNat (sz - off.toNat)) (some (min m.toNat (sz - off.toNat))) 0, .int .i64 0]), h') ∧ Frm h h' (fun _ => False) ∧ h.next < h'.next ∧ h'.wr h.next (min m.toNat (sz - off.toNat)) ∧
      Bytes h' (.sl h.next 0 (min m.toNat (sz - off.toNat)) (some (min m.toNat (sz - off.toNat))) 0) (contL s i off.toNat (min m.toNat (sz - off.toNat))))
theorem tread_ok {C : YC} (hlf : 20000 ≤ lf) (Ge : GetOK C) (Pl : PlaceOK C) (Rd : ReadOK C) {off m : Int} {sz : Nat} (A : TableAt h T n N s.wd s.b now us s.nd) (M : MapAt n N s.wd s.nd s.bl) (hi : i < N) (hu : us i = true) (hsz : s.nd i 5 = .int .i64 (sz : Int)) (hsz2 : sz ≤ 17792)
    (o1 : -9223372036854775808 ≤ off) (o2 : off < 9223372036854775808) (m1 : -9223372036854775808 ≤ m) (m2 : m < 9223372036854775808) :
    ((off < 0 ∨ m < 0) → fs41 C lf (.ptr T.kt 0) (.int .i64 ((i + 1 : Nat) : Int)) (.int .i64 off) (.int .i64 m) h = some (.ret (.tup [.val (.slice none 0 0), .int .i64 22]), h)) ∧
    (0 ≤ off → 0 ≤ m → (sz : Int) ≤ off → fs41 C lf (.ptr T.kt 0) (.int .i64 ((i + 1 : Nat) : Int)) (.int .i64 off) (.int .i64 m) h = some (.ret (.tup [.val (.slice none 0 0), .int .i64 0]), h)) ∧
    (0 ≤ off → 0 ≤ m → off < sz → ∃ h', fs41 C lf (.ptr T.kt 0) (.int .i64 ((i + 1 : Nat) : Int)) (.int .i64 off) (.int .i64 m) h =
        some (.ret (.tup [.sl h.next 0 (min m.toNat (sz - off.toNat)) (some (min m.toNat (sz - off.toNat))) 0, .int .i64 0]), h') ∧ Frm h h' (fun _ => False) ∧ h.next < h'.next ∧ h'.wr h.next (min m.toNat (sz - off.toNat)) ∧
        Bytes h' (.sl h.next 0 (min m.toNat (sz - off.toNat)) (some (min m.toNat (sz - off.toNat))) 0) (contL s i off.toNat (min m.toNat (sz - off.toNat)))) := by
  have hN := A.N2
  have hg := Ge h T n N s.wd s.b now us s.nd ((i + 1 : Nat) : Int) A (by omega) (by omega)
  rw [inoB_yes hi hu, if_pos rfl, show ((i + 1 : Nat) : Int).toNat - 1 = i by omega] at hg
  have hne : decide ((0 : Int) ≠ 0) = false := rfl
  have pre : fs41 C lf (.ptr T.kt 0) (.int .i64 ((i + 1 : Nat) : Int)) (.int .i64 off) (.int .i64 m) h = q41_82 C lf ff41 (some (.ptr T.kt 0)) (some (.int .i64 off)) (some (.int .i64 m)) (some (.ptr T.kn (i * 308))) h := by
    unfold fs41 q41_96 q41_95 q41_94 q41_93
    simp only [ob_some, bc_ret, hg, ext_tup, List.getElem?_cons_zero, List.getElem?_cons_succ]
    unfold q41_87 q41_86
    simp only [ob_some, bin_neq, hne, yIf_false]
  rw [pre]
  refine ⟨fun hb => ?_, fun b1 b2 hb => ?_, fun b1 b2 hb => ?_⟩
  · unfold q41_82 q41_81 ff41
    by_cases d1 : off < 0
    · simp only [ob_some, b2_some, bc_ret, bcn_ret, gd_tt, gd_ff, gd_tf, gd_ft, ypk_true, ypk_false, yIf_true, yIf_false, semNil_ptr, fa_ptr, ld1_ptr, ext_tup, fd1_agg, un_not, bin_add, bin_sub, bin_mul, bin_eql, bin_neq, bin_lss, bin_leq, bin_gtr, bin_geq, Nat.zero_add, Nat.mul_one, decide_eq_true d1]
    · have d2 : m < 0 := by omega
      simp only [ob_some, b2_some, bc_ret, bcn_ret, gd_tt, gd_ff, gd_tf, gd_ft, ypk_true, ypk_false, yIf_true, yIf_false, semNil_ptr, fa_ptr, ld1_ptr, ext_tup, fd1_agg, un_not, bin_add, bin_sub, bin_mul, bin_eql, bin_neq, bin_lss, bin_leq, bin_gtr, bin_geq, Nat.zero_add, Nat.mul_one, decide_eq_false d1, decide_eq_true d2]
  · have d1 : decide (off < 0) = false := decide_eq_false (by omega)
    have d2 : decide (m < 0) = false := decide_eq_false (by omega)
    have hc5 := A.cn i 5 hi (by omega)
    rw [hsz] at hc5
    have e1 : i * 308 + 1 + 4 = i * 308 + 5 := Nat.add_assoc _ 1 4
    unfold q41_82 q41_81 
    simp only [ob_some, b2_some, bc_ret, bcn_ret, gd_tt, gd_ff, gd_tf, gd_ft, ypk_true, ypk_false, yIf_true, yIf_false, semNil_ptr, fa_ptr, ld1_ptr, ext_tup, fd1_agg, un_not, bin_add, bin_sub, bin_mul, bin_eql, bin_neq, bin_lss, bin_leq, bin_gtr, bin_geq, Nat.zero_add, Nat.mul_one, d1, d2]
    unfold q41_73 q41_72 ff41
    simp only [ob_some, b2_some, bc_ret, bcn_ret, gd_tt, gd_ff, gd_tf, gd_ft, ypk_true, ypk_false, yIf_true, yIf_false, semNil_ptr, fa_ptr, ld1_ptr, ext_tup, fd1_agg, un_not, bin_add, bin_sub, bin_mul, bin_eql, bin_neq, bin_lss, bin_leq, bin_gtr, bin_geq, Nat.zero_add, Nat.mul_one, e1, hc5, decide_eq_true hb]
  · obtain ⟨o, rfl⟩ : ∃ o : Nat, off = o := ⟨off.toNat, by omega⟩
    obtain ⟨q, rfl⟩ : ∃ q : Nat, m = q := ⟨m.toNat, by omega⟩
    rw [Int.toNat_natCast, Int.toNat_natCast]
    have d1 : decide ((o : Int) < 0) = false := decide_eq_false (by omega)
    have d2 : decide ((q : Int) < 0) = false := decide_eq_false (by omega)
    have d3 : decide (((sz : Nat) : Int) ≤ (o : Int)) = false := decide_eq_false (by omega)
    have hc5 := A.cn i 5 hi (by omega)
    rw [hsz] at hc5
    have e1 : i * 308 + 1 + 4 = i * 308 + 5 := Nat.add_assoc _ 1 4
    have hs1 : IntKind.i64.wrap (((sz : Nat) : Int) - (o : Int)) = ((sz - o : Nat) : Int) := by rw [wrap_i64 (by omega) (by omega)]; omega
    generalize hcv : min q (sz - o) = cap at *
    have mid : q41_82 C lf ff41 (some (.ptr T.kt 0)) (some (.int .i64 (o : Int))) (some (.int .i64 (q : Int))) (some (.ptr T.kn (i * 308))) h =
        q41_47 C lf ff41 (some (.ptr T.kt 0)) (some (.int .i64 (o : Int))) (some (.ptr T.kn (i * 308))) (some (.int .i64 ((o + cap : Nat) : Int))) h := by
      unfold q41_82 q41_81
      simp only [ob_some, b2_some, bc_ret, bcn_ret, gd_tt, gd_ff, gd_tf, gd_ft, ypk_true, ypk_false, yIf_true, yIf_false, semNil_ptr, fa_ptr, ld1_ptr, ext_tup, fd1_agg, un_not, bin_add, bin_sub, bin_mul, bin_eql, bin_neq, bin_lss, bin_leq, bin_gtr, bin_geq, Nat.zero_add, Nat.mul_one, d1, d2]
      unfold q41_73 q41_72
      simp only [ob_some, b2_some, bc_ret, bcn_ret, gd_tt, gd_ff, gd_tf, gd_ft, ypk_true, ypk_false, yIf_true, yIf_false, semNil_ptr, fa_ptr, ld1_ptr, ext_tup, fd1_agg, un_not, bin_add, bin_sub, bin_mul, bin_eql, bin_neq, bin_lss, bin_leq, bin_gtr, bin_geq, Nat.zero_add, Nat.mul_one, e1, hc5, d3]
      unfold q41_64 q41_63
      simp only [ob_some, b2_some, bc_ret, bcn_ret, gd_tt, gd_ff, gd_tf, gd_ft, ypk_true, ypk_false, yIf_true, yIf_false, semNil_ptr, fa_ptr, ld1_ptr, ext_tup, fd1_agg, un_not, bin_add, bin_sub, bin_mul, bin_eql, bin_neq, bin_lss, bin_leq, bin_gtr, bin_geq, Nat.zero_add, Nat.mul_one, e1, hc5]
      unfold q41_57 q41_56
      by_cases d4 : ((q : Nat) : Int) < ((sz - o : Nat) : Int)
      · have e3 : IntKind.i64.wrap ((o : Int) + (q : Int)) = ((o + cap : Nat) : Int) := by rw [wrap_i64 (by omega) (by omega)]; omega
        simp only [ob_some, b2_some, bc_ret, bcn_ret, gd_tt, gd_ff, gd_tf, gd_ft, ypk_true, ypk_false, yIf_true, yIf_false, semNil_ptr, fa_ptr, ld1_ptr, ext_tup, fd1_agg, un_not, bin_add, bin_sub, bin_mul, bin_eql, bin_neq, bin_lss, bin_leq, bin_gtr, bin_geq, Nat.zero_add, Nat.mul_one, hs1, decide_eq_true d4, e3]
      · have e3 : ((sz : Nat) : Int) = ((o + cap : Nat) : Int) := by omega
        simp only [ob_some, b2_some, bc_ret, bcn_ret, gd_tt, gd_ff, gd_tf, gd_ft, ypk_true, ypk_false, yIf_true, yIf_false, semNil_ptr, fa_ptr, ld1_ptr, ext_tup, fd1_agg, un_not, bin_add, bin_sub, bin_mul, bin_eql, bin_neq, bin_lss, bin_leq, bin_gtr, bin_geq, Nat.zero_add, Nat.mul_one, hs1, decide_eq_false d4]
        rw [e3]
    rw [mid]
    have e4 : IntKind.i64.wrap (((o + cap : Nat) : Int) - (o : Int)) = ((cap : Nat) : Int) := by rw [wrap_i64 (by omega) (by omega)]; omega
    have hmk := ymk_eq (P := Tryd.prog) (t := 24) (e := 5) (s := 1) (b := 1) (z := .int .u8 0) (k1 := .i64) (k2 := .i64) (l := 0) (c := cap) (h := h)
      Tryd.underlying24 (by kernel_rfl) (by kernel_rfl) (by kernel_rfl) (Nat.zero_le _) (by omega) (by omega) rfl (by omega)
    generalize ho : patOb 5 (cap * 1) (mkV (.int .u8 0)).cells = ob at *
    have hw : (h.new ob).wr h.next cap := by
      have := wr_new (h := h) (o := ob) (by rw [← ho]; rfl)
      rw [show ob.n = cap by rw [← ho]; exact Nat.mul_one _] at this
      exact this
    obtain ⟨h', r1, r2, r3, r4, r5⟩ := read_loop (lf := lf) (C := C) Pl Rd hi (h0 := h) (off := o) (cap := cap) A M (by omega) (k := h.next) (Nat.le_refl _) (fun x13 h => q41_3 C lf ff41 x13 h) cap 0 (by omega) (by omega) lf (by omega)
      (h.new ob) (Frm.new _ _ _) (by simp) hw (fun j hj => by omega)
    obtain ⟨mm, hmm, hmr⟩ := id r4
    refine ⟨h', ?_, r2, r3, r4, ⟨fun c hc => ?_, .inr ⟨h.next, 0, some cap, 0, mm, by rw [contL_length], hmm, fun j hj => ?_⟩⟩⟩
    · unfold q41_47 q41_46
      have hmk' : ymk Tryd.prog 24 (.int .i64 0) (.int .i64 (cap : Int)) h = some (.sl h.next 0 0 (some cap) 0, h.new ob) := hmk
      simp only [ob_some, b2_some, bc_ret, bcn_ret, gd_tt, gd_ff, gd_tf, gd_ft, ypk_true, ypk_false, yIf_true, yIf_false, semNil_ptr, fa_ptr, ld1_ptr, ext_tup, fd1_agg, un_not, bin_add, bin_sub, bin_mul, bin_eql, bin_neq, bin_lss, bin_leq, bin_gtr, bin_geq, Nat.zero_add, Nat.mul_one, e4, hmk']
      unfold q41_41
      refine Eq.trans r1 ?_
      unfold q41_3 ff41
      simp only [ob_some, b2_some, bc_ret, bcn_ret, gd_tt, gd_ff, gd_tf, gd_ft, ypk_true, ypk_false, yIf_true, yIf_false, semNil_ptr, fa_ptr, ld1_ptr, ext_tup, fd1_agg, un_not, bin_add, bin_sub, bin_mul, bin_eql, bin_neq, bin_lss, bin_leq, bin_gtr, bin_geq, Nat.zero_add, Nat.mul_one]
    · obtain ⟨j, _, rfl⟩ := List.mem_map.1 hc
      unfold byteAt
      split
      · omega
      · exact A.st.blt _
    · rw [contL_length] at hj
      rw [Nat.zero_add, r5 j hj, contL_get _ _ _ hj]
end
end Go.Proofs.YtomialandfplkaaDoor.Eva
namespace Go.Proofs.YtomialandfplkaaDoor.Eva
open Go.Xe
set_option linter.unusedSimpArgs false
def tailB (b : Nat → Nat) (bl : Nat → Nat → Nat) (i sz : Nat) : Nat → Nat :=
  if 0 < sz % 64 ∧ 0 < bl i (plOff (sz / 64)) then over b ((bl i (plOff (sz / 64)) - 1) * 64 + sz % 64) (List.replicate (64 - sz % 64) 0) else b
structure CutR (i sz : Nat) (s s' : S4) : Prop where
  nd : s'.nd = clrN s.nd i (cutS s.bl i ((sz + 63) / 64))
  bl : s'.bl = clrB s.bl i (cutS s.bl i ((sz + 63) / 64))
  b : s'.b = tailB s.b s'.bl i sz
  on : ∀ j, onB s'.wd j = true ↔ (onB s.wd j = true ∧ ∀ c, 12 ≤ c → c < 308 → cutS s.bl i ((sz + 63) / 64) c → s.bl i c ≠ j + 1)
section
variable {lf : Nat} {h : HW} {T : TN} {n N : Nat} {now : Int} {us : Nat → Bool} {s : S4} {i : Nat}
def TruncOK (C : YC) : Prop := ∀ h T n N now us s i (sz : Int), TableAt h T n N s.wd s.b now us s.nd → MapAt n N s.wd s.nd s.bl → i < N → us i = true →
  -9223372036854775808 ≤ sz → sz < 9223372036854775808 →
  (sz < 0 → C (.fn 40) [.ptr T.kt 0, .int .i64 ((i + 1 : Nat) : Int), .int .i64 sz] h = some (.ret (.int .i64 22), h)) ∧
  (17792 < sz → C (.fn 40) [.ptr T.kt 0, .int .i64 ((i + 1 : Nat) : Int), .int .i64 sz] h = some (.ret (.int .i64 27), h)) ∧
  (0 ≤ sz → sz ≤ 17792 → ∃ h' s', C (.fn 40) [.ptr T.kt 0, .int .i64 ((i + 1 : Nat) : Int), .int .i64 sz] h = some (.ret (.int .i64 0), h') ∧
    TableAt h' T n N s'.wd s'.b now us (grown s'.nd i sz.toNat now) ∧ MapAt n N s'.wd (grown s'.nd i sz.toNat now) s'.bl ∧ Frm h h' (fun j => j = T.ks ∨ j = T.kd ∨ j = T.kn) ∧ CutR i sz.toNat s s')
theorem trunc_ok {C : YC} (Ge : GetOK C) (Pl : PlaceOK C) (Ct : CutOK C) (Wr : WriteOK C) (To : TouchOK C) {sz : Int} (A : TableAt h T n N s.wd s.b now us s.nd) (M : MapAt n N s.wd s.nd s.bl) (hi : i < N) (hu : us i = true) (o1 : -9223372036854775808 ≤ sz) (o2 : sz < 9223372036854775808) :
    (sz < 0 → fs40 C lf (.ptr T.kt 0) (.int .i64 ((i + 1 : Nat) : Int)) (.int .i64 sz) h = some (.ret (.int .i64 22), h)) ∧
    (17792 < sz → fs40 C lf (.ptr T.kt 0) (.int .i64 ((i + 1 : Nat) : Int)) (.int .i64 sz) h = some (.ret (.int .i64 27), h)) ∧
    (0 ≤ sz → sz ≤ 17792 → ∃ h' s', fs40 C lf (.ptr T.kt 0) (.int .i64 ((i + 1 : Nat) : Int)) (.int .i64 sz) h = some (.ret (.int .i64 0), h') ∧
      TableAt h' T n N s'.wd s'.b now us (grown s'.nd i sz.toNat now) ∧ MapAt n N s'.wd (grown s'.nd i sz.toNat now) s'.bl ∧ Frm h h' (fun j => j = T.ks ∨ j = T.kd ∨ j = T.kn) ∧ CutR i sz.toNat s s') := by
  have hN := A.N2
  have hg := Ge h T n N s.wd s.b now us s.nd ((i + 1 : Nat) : Int) A (by omega) (by omega)
  rw [inoB_yes hi hu, if_pos rfl, show ((i + 1 : Nat) : Int).toNat - 1 = i by omega] at hg
  have hne : decide ((0 : Int) ≠ 0) = false := rfl
  have pre : fs40 C lf (.ptr T.kt 0) (.int .i64 ((i + 1 : Nat) : Int)) (.int .i64 sz) h = q40_47 C lf (fun x0 x2 x7 h => q40_39 C lf ff40 x0 x2 x7 h) ff40 (some (.ptr T.kt 0)) (some (.int .i64 sz)) (some (.ptr T.kn (i * 308))) (some (.int .i64 0)) h := by
    unfold fs40 q40_57 q40_56 q40_55 q40_54
    simp only [ob_some, bc_ret, hg, ext_tup, List.getElem?_cons_zero, List.getElem?_cons_succ]
    rfl
  rw [pre]
  unfold q40_47
  refine ⟨fun hb => ?_, fun hb => ?_, fun b1 b2 => ?_⟩
  · unfold ff40
    simp only [ob_some, b2_some, bc_ret, bcn_ret, gd_tt, gd_ff, gd_tf, gd_ft, ypk_true, ypk_false, yIf_true, yIf_false, semNil_ptr, fa_ptr, ld1_ptr, ext_tup, fd1_agg, un_not, bin_add, bin_sub, bin_mul, bin_eql, bin_neq, bin_lss, bin_leq, bin_gtr, bin_geq, Nat.zero_add, Nat.mul_one, hne, decide_eq_true hb]
  · have d1 : decide (sz < 0) = false := decide_eq_false (by omega)
    unfold ff40
    simp only [ob_some, b2_some, bc_ret, bcn_ret, gd_tt, gd_ff, gd_tf, gd_ft, ypk_true, ypk_false, yIf_true, yIf_false, semNil_ptr, fa_ptr, ld1_ptr, ext_tup, fd1_agg, un_not, bin_add, bin_sub, bin_mul, bin_eql, bin_neq, bin_lss, bin_leq, bin_gtr, bin_geq, Nat.zero_add, Nat.mul_one, hne, d1, decide_eq_true hb]
  · obtain ⟨z, rfl⟩ : ∃ z : Nat, sz = z := ⟨sz.toNat, by omega⟩
    rw [Int.toNat_natCast]
    have d1 : decide ((z : Int) < 0) = false := decide_eq_false (by omega)
    have d2 : decide ((17792 : Int) < (z : Int)) = false := decide_eq_false (by omega)
    have e1 : IntKind.i64.wrap ((z : Int) + 64) = ((z + 64 : Nat) : Int) := by rw [wrap_i64 (by omega) (by omega)]; omega
    have e2 : IntKind.i64.wrap (((z + 64 : Nat) : Int) - 1) = ((z + 63 : Nat) : Int) := by rw [wrap_i64 (by omega) (by omega)]; omega
    have e3 : IntKind.i64.wrap (((z + 63 : Nat) : Int).tdiv 64) = (((z + 63) / 64 : Nat) : Int) := by
      rw [Int.tdiv_eq_ediv_of_nonneg (by omega), wrap_i64 (by omega) (by omega)]; rfl
    obtain ⟨h1, wd1, c1, D⟩ := Ct h T n N s.wd s.b now us s.nd s.bl i ((z + 63) / 64) A M hi (by omega)
    have hq : IntKind.i64.wrap ((z : Int).tdiv 64) = ((z / 64 : Nat) : Int) := by
      rw [Int.tdiv_eq_ediv_of_nonneg (by omega), wrap_i64 (by omega) (by omega)]; rfl
    have hr : (z : Int).tmod 64 = ((z % 64 : Nat) : Int) := by
      rw [Int.tmod_eq_emod_of_nonneg (by omega)]; rfl
    generalize hS : cutS s.bl i ((z + 63) / 64) = S at *
    have F1 : Frm h h1 (fun j => j = T.ks ∨ j = T.kd ∨ j = T.kn) := D.F.weak fun _ e => by rcases e with e | e; exact .inl e; exact .inr (.inr e)
    -- the rest
    have fin : ∀ h2 b2, TableAt h2 T n N wd1 b2 now us (clrN s.nd i S) → Frm h1 h2 (fun j => j = T.ks ∨ j = T.kd ∨ j = T.kn) →
        ∃ h', q40_10 C lf ff40 (some (.ptr T.kt 0)) (some (.int .i64 (z : Int))) (some (.ptr T.kn (i * 308))) h2 = some (.ret (.int .i64 0), h') ∧
          TableAt h' T n N wd1 b2 now us (grown (clrN s.nd i S) i z now) ∧ Frm h h' (fun j => j = T.ks ∨ j = T.kd ∨ j = T.kn) := fun h2 b2 A2 F2 => by
      have st2 := st_node A2 (i := i) (c := 5) (y := .int .i64 (z : Int)) hi (by omega) rfl rfl
      have A3 := A2.setNode (i := i) (c := 5) (y := .int .i64 (z : Int)) hi (by omega) (by omega)
      have F3 : Frm h2 (h2.set T.kn (i * 308 + 5) [.int .i64 (z : Int)]) (· = T.kn) := frm_set rfl
      generalize hg2 : h2.set T.kn (i * 308 + 5) [.int .i64 (z : Int)] = h3 at *
      obtain ⟨h4, c4, A4, n4, F4⟩ := To h3 T n N _ _ now us _ i A3 hi
      refine ⟨h4, ?_, A4, (F1.trans F2).trans ((F3.trans F4).weak fun _ e => .inr (.inr e))⟩
      have e1 : i * 308 + 1 + 4 = i * 308 + 5 := Nat.add_assoc _ 1 4
      unfold q40_10 ff40
      simp only [ob_some, b2_some, bc_ret, bcn_ret, gd_tt, gd_ff, gd_tf, gd_ft, ypk_true, ypk_false, yIf_true, yIf_false, semNil_ptr, fa_ptr, ld1_ptr, ext_tup, fd1_agg, un_not, bin_add, bin_sub, bin_mul, bin_eql, bin_neq, bin_lss, bin_leq, bin_gtr, bin_geq, Nat.zero_add, Nat.mul_one, e1, st2, c4]
    have mid : ∀ r1 : Rs, q40_29 C lf (fun x0 x2 x7 h => q40_10 C lf ff40 x0 x2 x7 h) (some (.ptr T.kt 0)) (some (.int .i64 (z : Int))) (some (.ptr T.kn (i * 308))) h1 = r1 →
        q40_47 C lf (fun x0 x2 x7 h => q40_39 C lf ff40 x0 x2 x7 h) ff40 (some (.ptr T.kt 0)) (some (.int .i64 (z : Int))) (some (.ptr T.kn (i * 308))) (some (.int .i64 0)) h = r1 := fun r1 hr1 => by
      unfold q40_47
      simp only [ob_some, b2_some, bc_ret, bcn_ret, gd_tt, gd_ff, gd_tf, gd_ft, ypk_true, ypk_false, yIf_true, yIf_false, semNil_ptr, fa_ptr, ld1_ptr, ext_tup, fd1_agg, un_not, bin_add, bin_sub, bin_mul, bin_eql, bin_neq, bin_lss, bin_leq, bin_gtr, bin_geq, Nat.zero_add, Nat.mul_one, hne, d1, d2]
      unfold q40_39 q40_38
      simp only [ob_some, b2_some, bc_ret, bcn_ret, gd_tt, gd_ff, gd_tf, gd_ft, ypk_true, ypk_false, yIf_true, yIf_false, semNil_ptr, fa_ptr, ld1_ptr, ext_tup, fd1_agg, un_not, bin_add, bin_sub, bin_mul, bin_eql, bin_neq, bin_lss, bin_leq, bin_gtr, bin_geq, Nat.zero_add, Nat.mul_one, e1, e2, bin_quo (show (64 : Int) ≠ 0 by omega), e3, c1]
      exact hr1
    have hb0 : (∃ h' b2, q40_29 C lf (fun x0 x2 x7 h => q40_10 C lf ff40 x0 x2 x7 h) (some (.ptr T.kt 0)) (some (.int .i64 (z : Int))) (some (.ptr T.kn (i * 308))) h1 = some (.ret (.int .i64 0), h') ∧
        b2 = tailB s.b (clrB s.bl i S) i z ∧ TableAt h' T n N wd1 b2 now us (grown (clrN s.nd i S) i z now) ∧ Frm h h' (fun j => j = T.ks ∨ j = T.kd ∨ j = T.kn)) := by
      unfold q40_29
      by_cases ha : 0 < z % 64
      · have hgt : decide ((0 : Int) < ((z % 64 : Nat) : Int)) = true := decide_eq_true (by omega)
        have hkk : z / 64 < 278 := by omega
        obtain ⟨p1, p2⟩ := plOff_lt hkk
        have hpl : C (.fn 76) [.ptr T.kn (i * 308), .int .i64 ((z / 64 : Nat) : Int)] h1 = some (.ret (.ptr T.kn (i * 308 + plOff (z / 64))), h1) := Pl h1 T.kn (i * 308) (z / 64) hkk
        have hcell := D.A.cn i (plOff (z / 64)) hi p2
        rw [D.M.cell i _ hi p1 p2] at hcell
        have hle := D.M.le i (plOff (z / 64))
        have hon := D.M.on i (plOff (z / 64)) hi p1 p2
        have hn2 := A.st.n2
        by_cases hv0 : clrB s.bl i S i (plOff (z / 64)) = 0
        · have htb : tailB s.b (clrB s.bl i S) i z = s.b := by
            unfold tailB
            rw [if_neg (by omega)]
          generalize hv : clrB s.bl i S i (plOff (z / 64)) = v at *
          have hg2 : decide ((0 : Int) < ((v : Nat) : Int)) = false := decide_eq_false (by omega)
          obtain ⟨h', r1, r2, r3⟩ := fin h1 s.b D.A (Frm.refl _ _)
          refine ⟨h', s.b, ?_, htb.symm, r2, r3⟩
          simp only [ob_some, b2_some, bc_ret, bcn_ret, gd_tt, gd_ff, gd_tf, gd_ft, ypk_true, ypk_false, yIf_true, yIf_false, semNil_ptr, fa_ptr, ld1_ptr, ext_tup, fd1_agg, un_not, bin_add, bin_sub, bin_mul, bin_eql, bin_neq, bin_lss, bin_leq, bin_gtr, bin_geq, Nat.zero_add, Nat.mul_one, bin_rem (show (64 : Int) ≠ 0 by omega), hr, hgt, bin_quo (show (64 : Int) ≠ 0 by omega), hq, hpl, hcell, hg2]
          exact r1
        · have htb : tailB s.b (clrB s.bl i S) i z = over s.b ((clrB s.bl i S i (plOff (z / 64)) - 1) * 64 + z % 64) (List.replicate (64 - z % 64) 0) := by
            unfold tailB
            rw [if_pos (by omega)]
          have hon := hon (by omega)
          generalize hv : clrB s.bl i S i (plOff (z / 64)) = v at *
          have hg2 : decide ((0 : Int) < ((v : Nat) : Int)) = true := decide_eq_true (by omega)
          have hs1 : IntKind.i64.wrap ((v : Int) - 1) = ((v - 1 : Nat) : Int) := by rw [wrap_i64 (by omega) (by omega)]; omega
          have hs2 : IntKind.i64.wrap (64 - ((z % 64 : Nat) : Int)) = ((64 - z % 64 : Nat) : Int) := by rw [wrap_i64 (by omega) (by omega)]; omega
          have hmk := ymk_eq (P := Tryd.prog) (t := 24) (e := 5) (s := 1) (b := 1) (z := .int .u8 0) (k1 := .i64) (k2 := .i64) (l := 64 - z % 64) (c := 64 - z % 64) (h := h1)
            Tryd.underlying24 (by kernel_rfl) (by kernel_rfl) (by kernel_rfl) (Nat.le_refl _) (by omega) (by omega) rfl (by omega)
          generalize ho : patOb 5 ((64 - z % 64) * 1) (mkV (.int .u8 0)).cells = ob at *
          have hin : inUse n wd1 ((v - 1 : Nat) : Int) = true := by
            simp only [inUse, Int.toNat_natCast, hon, Bool.and_true, Bool.and_eq_true, decide_eq_true_eq]; omega
          have hnb : ¬ badW n wd1 ((v - 1 : Nat) : Int) ((z % 64 : Nat) : Int) (List.replicate (64 - z % 64) 0) := by
            unfold badW
            rw [hin, List.length_replicate]
            simp only [Bool.true_eq_false, false_or]
            omega
          have B1 : Bytes (h1.new ob) (.sl h1.next 0 (64 - z % 64) (some (64 - z % 64)) 0) (List.replicate (64 - z % 64) 0) := by
            refine ⟨fun c hc => by rw [List.eq_of_mem_replicate hc]; omega, .inr ⟨h1.next, 0, some (64 - z % 64), 0, ob.mt, by rw [List.length_replicate], by rw [mt_new, if_pos rfl], fun j hj => ?_⟩⟩
            rw [List.length_replicate] at hj
            rw [Nat.zero_add, cell_new_same, ← ho]
            have e5 : (List.replicate (64 - z % 64) 0).getD j 0 = 0 := by simp [List.getD, hj]
            have hmc : (mkV (.int .u8 0)).cells = [.int .u8 0] := rfl
            rw [e5, patOb_get _ _ (by omega), hmc]
            simp [Nat.mod_one]
          have A2 := D.A.keep (Frm.new h1 ob (fun _ => False))
          obtain ⟨h2, c2, S2, n2, F2⟩ := (Wr (h1.new ob) T.ks T.kd n wd1 s.b ((v - 1 : Nat) : Int) ((z % 64 : Nat) : Int) _ (List.replicate (64 - z % 64) 0) A2.st B1 (by rw [List.length_replicate]; omega) (by omega) (by omega) (by omega) (by omega)).2 hnb
          rw [Int.toNat_natCast, Int.toNat_natCast] at S2
          have A3 := A2.store S2 F2.next (F2.same _ A2.lt (fun e => A.d2 e)) (F2.same _ A2.ln (fun e => A.d5 e))
          have hck : ∀ r, ck (chkH [(3, adrO (some (SV.ptr T.kt 0)))] h1 (h1.new ob) [3]) r = r := fun r => ck_one rfl D.A.lt (wr_mt D.A.wt) (new_other h1 ob (Nat.ne_of_lt D.A.lt))
          obtain ⟨h', r1, r2, r3⟩ := fin h2 _ A3 ((Frm.new h1 ob _).trans (F2.weak fun _ e => .inr (.inl e)))
          refine ⟨h', _, ?_, htb.symm, r2, r3⟩
          have hc0 := D.A.c0
          simp only [ob_some, b2_some, bc_ret, bcn_ret, gd_tt, gd_ff, gd_tf, gd_ft, ypk_true, ypk_false, yIf_true, yIf_false, semNil_ptr, fa_ptr, ld1_ptr, ext_tup, fd1_agg, un_not, bin_add, bin_sub, bin_mul, bin_eql, bin_neq, bin_lss, bin_leq, bin_gtr, bin_geq, Nat.zero_add, Nat.mul_one, bin_rem (show (64 : Int) ≠ 0 by omega), hr, hgt, bin_quo (show (64 : Int) ≠ 0 by omega), hq, hpl, hcell, hg2, hs1, hs2, hc0, hmk, hck, c2]
          exact r1
      · have hgt : decide ((0 : Int) < ((z % 64 : Nat) : Int)) = false := decide_eq_false (by omega)
        have htb : tailB s.b (clrB s.bl i S) i z = s.b := by
          unfold tailB
          rw [if_neg (by omega)]
        obtain ⟨h', r1, r2, r3⟩ := fin h1 s.b D.A (Frm.refl _ _)
        refine ⟨h', s.b, ?_, htb.symm, r2, r3⟩
        simp only [ob_some, b2_some, bc_ret, bcn_ret, gd_tt, gd_ff, gd_tf, gd_ft, ypk_true, ypk_false, yIf_true, yIf_false, semNil_ptr, fa_ptr, ld1_ptr, ext_tup, fd1_agg, un_not, bin_add, bin_sub, bin_mul, bin_eql, bin_neq, bin_lss, bin_leq, bin_gtr, bin_geq, Nat.zero_add, Nat.mul_one, bin_rem (show (64 : Int) ≠ 0 by omega), hr, hgt]
        exact r1
    obtain ⟨h', b2, r1, rfl, r3, r4⟩ := hb0
    exact ⟨h', ⟨wd1, tailB s.b (clrB s.bl i S) i z, clrN s.nd i S, clrB s.bl i S⟩, mid _ r1, r3, D.M.grown _ _ _, r4, ⟨by rw [hS], by rw [hS], rfl, by rw [hS]; exact D.O⟩⟩
end
end Go.Proofs.YtomialandfplkaaDoor.Eva
namespace Go.Proofs.YtomialandfplkaaDoor.Eva
open Go.Xe
set_option linter.unusedSimpArgs false
def Own (N : Nat) (s : S4) : Prop := ∀ j, onB s.wd j = true → ∃ i c, i < N ∧ 12 ≤ c ∧ c < 308 ∧ s.bl i c = j + 1
theorem nodup_le {α : Type} [DecidableEq α] : ∀ {l m : List α}, l.Nodup → (∀ x ∈ l, x ∈ m) → l.length ≤ m.length
  | [], _, _, _ => Nat.zero_le _
  | a :: l, m, hn, hs => by
    obtain ⟨h1, h2⟩ := List.nodup_cons.1 hn
    have := nodup_le (l := l) (m := m.erase a) h2 fun x hx => (List.mem_erase_of_ne (fun e => h1 (by rw [← e]; exact hx))).2 (hs x (List.mem_cons_of_mem _ hx))
    have h3 := List.length_erase_of_mem (hs a (List.mem_cons_self ..))
    have h4 := List.length_pos_of_mem (hs a (List.mem_cons_self ..))
    simp only [List.length_cons]
    omega
theorem own_few {n : Nat} {s : S4} (O : Own 1 s) : (usedL s.wd n).length ≤ 296 := by
  have h1 : (usedL s.wd n).Nodup := List.Nodup.sublist List.filter_sublist List.nodup_range
  have := nodup_le (m := (List.range 296).map fun c => s.bl 0 (12 + c) - 1) h1 fun j hj => by
    obtain ⟨_, hj⟩ := List.mem_filter.1 hj
    obtain ⟨i, c, hi, c1, c2, e⟩ := O j hj
    have : i = 0 := by omega
    subst this
    exact List.mem_map.2 ⟨c - 12, List.mem_range.2 (by omega), by rw [show 12 + (c - 12) = c by omega, e]; rfl⟩
  rwa [List.length_map, List.length_range] at this
section
variable {n N i z : Nat} {s s' : S4}
theorem fillR_yes {k : Nat} (hi : i < N) (W : Well n N s) (hk : k < 278) (hb : (fillR n i k s).2 = true) :
    (∀ i' p, i' < N → p < 17792 → byteAt (fillR n i k s).1 i' p = byteAt s i' p) ∧ (Own N s → Own N (fillR n i k s).1) := by
  unfold fillR at hb ⊢
  by_cases h1 : 0 < s.bl i (plOff k)
  · rw [if_pos h1]; exact ⟨fun _ _ _ _ => rfl, fun O => O⟩
  · rw [if_neg h1] at hb ⊢
    by_cases h2 : (fillF n i (needC k) s []).2.2 = true
    · rw [if_pos h2]
      have t : Taken n i s (fillF n i (needC k) s []).2.1 (fillF n i (needC k) s []).1 := fillF_taken (needC k) s [] .nil (needC_lt hk)
      have P := t.props hi W.M W.w
      generalize (fillF n i (needC k) s []).1 = s' at *
      generalize (fillF n i (needC k) s []).2.1 = tk at *
      refine ⟨fun i' p hi' hp => ?_, fun O j hj => ?_⟩
      · unfold byteAt
        obtain ⟨p1, p2⟩ := plOff_lt (k := p / 64) (by omega)
        by_cases ht : i' = i ∧ plOff (p / 64) ∈ tk
        · obtain ⟨rfl, ht⟩ := ht
          obtain ⟨w1, _, _, w4, _⟩ := P.was _ ht
          rw [if_neg (by omega), if_pos w1]
          exact P.z _ ht _ (by omega)
        · have e := P.out i' (plOff (p / 64)) (by
            by_cases e : i' = i
            · exact .inr fun e2 => ht ⟨e, e2⟩
            · exact .inl e)
          rw [e]
          by_cases hz : s.bl i' (plOff (p / 64)) = 0
          · rw [if_pos hz, if_pos hz]
          · rw [if_neg hz, if_neg hz]
            refine P.by' _ ?_
            rw [show ((s.bl i' (plOff (p / 64)) - 1) * 64 + p % 64) / 64 = s.bl i' (plOff (p / 64)) - 1 by omega]
            exact W.M.on i' _ hi' p1 p2 (by omega)
      · rcases (P.on j).1 hj with h3 | ⟨c, h3, h4⟩
        · obtain ⟨i', c, c0, c1, c2, e⟩ := O j h3
          refine ⟨i', c, c0, c1, c2, ?_⟩
          rw [P.out i' c (by
            by_cases e2 : i' = i
            · refine .inr fun e3 => ?_
              subst e2
              have := (P.was c e3).1
              omega
            · exact .inl e2)]
          exact e
        · obtain ⟨_, w2, w3, _⟩ := P.was c h3
          exact ⟨i, c, hi, w2, w3, h4⟩
    · rw [if_neg h2] at hb; cases hb
theorem over_byte (W : Well n N s) (hi : i < N) {q : Nat} {l : List Nat} (hq : q / 64 < 278) (hv : 0 < s.bl i (plOff (q / 64))) (hl : q % 64 + l.length ≤ 64) {i' p : Nat} (hi' : i' < N) (hp : p < 17792) :
    byteAt ⟨s.wd, over s.b ((s.bl i (plOff (q / 64)) - 1) * 64 + q % 64) l, s.nd, s.bl⟩ i' p = if i' = i ∧ q ≤ p ∧ p < q + l.length then l.getD (p - q) 0 else byteAt s i' p := by
  obtain ⟨p1, p2⟩ := plOff_lt (k := p / 64) (by omega)
  obtain ⟨q1, q2⟩ := plOff_lt hq
  unfold byteAt
  simp only
  by_cases hz : s.bl i' (plOff (p / 64)) = 0
  · rw [if_pos hz, if_pos hz, if_neg]
    rintro ⟨rfl, h1, h2⟩
    rw [show p / 64 = q / 64 by omega] at hz
    omega
  · rw [if_neg hz, if_neg hz]
    unfold over
    by_cases hs : s.bl i' (plOff (p / 64)) = s.bl i (plOff (q / 64))
    · obtain ⟨e1, e2⟩ := W.M.inj i' _ i _ hi' p1 p2 hi q1 q2 (by omega) hs
      have e3 := plOff_inj e2 (by omega) hq
      subst e1
      rw [hs]
      generalize s.bl i' (plOff (q / 64)) - 1 = v at *
      by_cases hc : v * 64 + q % 64 ≤ v * 64 + p % 64 ∧ v * 64 + p % 64 < v * 64 + q % 64 + l.length
      · rw [if_pos hc, if_pos ⟨rfl, by omega, by omega⟩]
        congr 1; omega
      · rw [if_neg hc, if_neg (by omega)]
    · have hne : ¬ (i' = i ∧ q ≤ p ∧ p < q + l.length) := by
        rintro ⟨rfl, h1, h2⟩
        rw [show p / 64 = q / 64 by omega] at hs
        exact hs rfl
      rw [if_neg hne, if_neg]
      generalize s.bl i' (plOff (p / 64)) = a at *
      generalize s.bl i (plOff (q / 64)) = c at *
      omega
theorem writeF_all {off : Nat} {l : List Nat} (hoff : off + l.length ≤ 17792) (hi : i < N) (hroom : ∀ s', Well n N s' → Own N s' → (usedL s'.wd n).length + 2 < n) : ∀ (g done : Nat) (s : S4), l.length - done ≤ g → done ≤ l.length → Well n N s → Own N s →
    (writeF n i off l g done s).2 = l.length ∧ Own N (writeF n i off l g done s).1 ∧ Well n N (writeF n i off l g done s).1 ∧
    ∀ i' p, i' < N → p < 17792 → byteAt (writeF n i off l g done s).1 i' p = if i' = i ∧ off + done ≤ p ∧ p < off + l.length then l.getD (p - off) 0 else byteAt s i' p
  | 0, done, s, hg, hd, W, O => by
    have e : done = l.length := by omega
    refine ⟨e, O, W, fun i' p _ _ => ?_⟩
    rw [if_neg (by omega)]; rfl
  | g + 1, done, s, hg, hd, W, O => by
    unfold writeF
    by_cases h1 : done < l.length
    · rw [if_pos h1]
      have hk : (off + done) / 64 < 278 := by omega
      have W1 := fillR_well (i := i) W hi hk
      have h2 : (fillR n i ((off + done) / 64) s).2 = true := by
        cases hb : (fillR n i ((off + done) / 64) s).2 with
        | true => rfl
        | false =>
          have := (fillR_short hi W hk hb).2
          have := hroom s W O
          omega
      rw [if_pos h2]
      obtain ⟨b1, O1⟩ := fillR_yes hi W hk h2
      have hpos := fillR_pos h2
      have O1 := O1 O
      generalize (fillR n i ((off + done) / 64) s).1 = s1 at *
      generalize hm : min (64 - (off + done) % 64) (l.length - done) = m at *
      have hlen2 : ((l.drop done).take m).length = m := by simp; omega
      have ob := fun i' p hi' hp => over_byte W1 hi (q := off + done) (l := (l.drop done).take m) hk hpos (by omega) (i' := i') (p := p) hi' hp
      rw [hlen2] at ob
      obtain ⟨r1, r2, r3, r4⟩ := writeF_all hoff hi hroom g (done + m) ⟨s1.wd, over s1.b ((s1.bl i (plOff ((off + done) / 64)) - 1) * 64 + (off + done) % 64) ((l.drop done).take m), s1.nd, s1.bl⟩ (by omega) (by omega) ⟨W1.M, W1.w⟩ O1
      refine ⟨r1, r2, r3, fun i' p hi' hp => ?_⟩
      rw [r4 i' p hi' hp, ob i' p hi' hp, b1 i' p hi' hp]
      by_cases c1 : i' = i ∧ off + (done + m) ≤ p ∧ p < off + l.length
      · rw [if_pos c1, if_pos ⟨c1.1, by omega, c1.2.2⟩]
      · rw [if_neg c1]
        by_cases c2 : i' = i ∧ off + done ≤ p ∧ p < off + done + m
        · rw [if_pos c2, if_pos ⟨c2.1, c2.2.1, by omega⟩]
          simp only [List.getD, List.getElem?_take, show p - (off + done) < m by omega, if_true, List.getElem?_drop]
          rw [show done + (p - (off + done)) = p - off by omega]
        · rw [if_neg c2, if_neg (by omega)]
    · rw [if_neg h1]
      have e : done = l.length := by omega
      refine ⟨e, O, W, fun i' p _ _ => ?_⟩
      rw [if_neg (by omega)]
theorem cutR_byte (C : CutR i z s s') (hz : z ≤ 17792) (hi : i < N) (W' : Well n N s') {i' p : Nat} (hi' : i' < N) (hp : p < 17792) : byteAt s' i' p = if i' = i ∧ z ≤ p then 0 else byteAt s i' p := by
  obtain ⟨p1, p2⟩ := plOff_lt (k := p / 64) (by omega)
  have hbl := C.bl
  have h1 : byteAt ⟨s'.wd, s.b, s'.nd, s'.bl⟩ i' p = if i' = i ∧ (z + 63) / 64 ≤ p / 64 then 0 else byteAt s i' p := by
    unfold byteAt
    simp only [hbl]
    by_cases hc : i' = i ∧ (z + 63) / 64 ≤ p / 64
    · rw [if_pos hc]
      obtain ⟨rfl, hc⟩ := hc
      rw [clrB_yes ((Str.cut_place (by omega)).2 hc)]
      rfl
    · rw [if_neg hc, clrB_no fun e => hc ⟨e.1, (Str.cut_place (by omega)).1 e.2⟩]
  have hb := C.b
  unfold tailB at hb
  by_cases ht : 0 < z % 64 ∧ 0 < s'.bl i (plOff (z / 64))
  · rw [if_pos ht] at hb
    have ob := over_byte (s := ⟨s'.wd, s.b, s'.nd, s'.bl⟩) (n := n) (N := N) (i := i) (q := z) (l := List.replicate (64 - z % 64) 0) ⟨W'.M, W'.w⟩ hi (by omega) ht.2 (by simp; omega) hi' hp
    simp only at ob
    have es : (⟨s'.wd, over s.b ((s'.bl i (plOff (z / 64)) - 1) * 64 + z % 64) (List.replicate (64 - z % 64) 0), s'.nd, s'.bl⟩ : S4) = s' := by rw [← hb]
    rw [es] at ob
    rw [ob, h1, List.length_replicate]
    by_cases hc : i' = i ∧ z ≤ p ∧ p < z + (64 - z % 64)
    · rw [if_pos hc, if_pos ⟨hc.1, hc.2.1⟩]
      simp [List.getD, show p - z < 64 - z % 64 by omega]
    · rw [if_neg hc]
      by_cases hd : i' = i ∧ z ≤ p
      · rw [if_pos hd, if_pos ⟨hd.1, by omega⟩]
      · rw [if_neg hd, if_neg (by omega)]
  · rw [if_neg ht] at hb
    have es : (⟨s'.wd, s.b, s'.nd, s'.bl⟩ : S4) = s' := by rw [← hb]
    rw [es] at h1
    rw [h1]
    by_cases hd : i' = i ∧ z ≤ p
    · rw [if_pos hd]
      by_cases hc : (z + 63) / 64 ≤ p / 64
      · rw [if_pos ⟨hd.1, hc⟩]
      · rw [if_neg (by omega)]
        obtain ⟨rfl, hd⟩ := hd
        have hq : p / 64 = z / 64 := by omega
        have h0 : s'.bl i' (plOff (z / 64)) = 0 := by omega
        rw [hbl] at h0
        rw [clrB_no fun e => by have := (Str.cut_place (by omega)).1 e.2; omega] at h0
        unfold byteAt
        rw [hq, if_pos h0]
    · rw [if_neg hd, if_neg (by omega)]
theorem cutR_own (C : CutR i z s s') (O : Own N s) : Own N s' := fun j hj => by
  obtain ⟨h1, h2⟩ := (C.on j).1 hj
  obtain ⟨i', c, c0, c1, c2, e⟩ := O j h1
  refine ⟨i', c, c0, c1, c2, ?_⟩
  rw [C.bl, clrB_no fun e2 => ?_]
  · exact e
  · obtain ⟨rfl, e3⟩ := e2
    exact h2 c c1 c2 e3 e
end
end Go.Proofs.YtomialandfplkaaDoor.Eva
namespace Go.Proofs.YtomialandfplkaaDoor.Eva
open Go.Xe
set_option linter.unusedSimpArgs false
def ownV (vs : List Nat) : List Nat := (vs.filter fun v => decide (0 < v)).map (· - 1)
theorem ownV_append (a b : List Nat) : ownV (a ++ b) = ownV a ++ ownV b := by simp [ownV]
theorem ownV_le (vs : List Nat) : (ownV vs).length ≤ vs.length := by
  unfold ownV
  rw [List.length_map]; exact List.length_filter_le _ _
def segV (f : Nat → Nat) (a n : Nat) : List Nat := (List.range n).map fun j => f (a + j)
theorem segV_length (f : Nat → Nat) (a n : Nat) : (segV f a n).length = n := by simp [segV]
theorem segV_get (f : Nat → Nat) (a : Nat) {n j : Nat} (hj : j < n) : (segV f a n).getD j 0 = f (a + j) := by simp [segV, List.getD, hj]
theorem segV_add (f : Nat → Nat) (a n m : Nat) : segV f a (n + m) = segV f a n ++ segV f (a + n) m := by
  unfold segV
  rw [List.range_add, List.map_append, List.map_map]
  congr 1
  apply List.map_congr_left
  intro j _
  show f (a + (n + j)) = f (a + n + j)
  rw [Nat.add_assoc]
theorem segV_one (f : Nat → Nat) (a : Nat) : segV f a 1 = [f a] := rfl
def ownL (bl : Nat → Nat → Nat) (i : Nat) : List Nat := ownV (segV (bl i) 12 296)
def Away (h : HW) (kv j : Nat) : Prop := j < h.next ∧ j ≠ kv ∧ ∀ x, h.cell kv 0 = some x → rowOf x ≠ some j
structure Stp (h h' : HW) (kv : Nat) : Prop where
  n : h.next ≤ h'.next
  a : ∀ j, Away h kv j → Away h' kv j ∧ SameOb h h' j
theorem Stp.refl (h : HW) (kv : Nat) : Stp h h kv := ⟨Nat.le_refl _, fun _ a => ⟨a, rfl⟩⟩
theorem Stp.trans {h h' h'' : HW} {kv : Nat} (a : Stp h h' kv) (b : Stp h' h'' kv) : Stp h h'' kv :=
  ⟨Nat.le_trans a.n b.n, fun j hj => ⟨(b.a j (a.a j hj).1).1, (b.a j (a.a j hj).1).2.trans (a.a j hj).2⟩⟩
structure OwSt (h0 h : HW) (kv : Nat) (l : List Nat) : Prop where
  c : ∃ x, h.cell kv 0 = some x ∧ IntsAt h0 h x l ∧ rowOf x ≠ some kv
  w : h.wr kv 1
  n : h0.next ≤ kv
  lt : kv < h.next
  F : Frm h0 h (fun _ => False)
section
variable {lf : Nat} {h h0 : HW} {kv : Nat} {l : List Nat}
theorem OwSt.new (O : OwSt h0 h kv l) (o : Ob) : OwSt h0 (h.new o) kv l ∧ Stp h (h.new o) kv ∧ Away (h.new o) kv h.next := by
  obtain ⟨x, c1, c2, c3⟩ := O.c
  have hs : SameOb h (h.new o) kv := new_other h o (Nat.ne_of_lt O.lt)
  have hc : (h.new o).cell kv 0 = some x := by rw [hs.cell]; exact c1
  have hrl : ∀ j, rowOf x = some j → j < h.next := fun j hj => c2.sl.row_lt hj
  refine ⟨⟨⟨x, hc, ⟨c2.sl.frame (by simp) fun k hk => new_other h o (Nat.ne_of_lt (hrl k hk)), c2.new⟩, c3⟩, wr_same O.w hs, O.n, by simp; have := O.lt; omega, O.F.trans (Frm.new _ _ _)⟩, ⟨by simp, fun j hj => ⟨⟨by simp; have := hj.1; omega, hj.2.1, fun y hy => hj.2.2 y (by rw [← hs.cell]; exact hy)⟩, new_other h o (Nat.ne_of_lt hj.1)⟩⟩,
    ⟨by simp, fun e => by have := O.lt; omega, fun y hy e => ?_⟩⟩
  rw [hc] at hy
  cases hy
  have := hrl _ e
  omega
theorem OwSt.set (O : OwSt h0 h kv l) {k off : Nat} {ys : List SV} (hk : Away h kv k) (hn : h0.next ≤ k) : OwSt h0 (h.set k off ys) kv l ∧ (∀ j, Away h kv j → Away (h.set k off ys) kv j) := by
  obtain ⟨x, c1, c2, c3⟩ := O.c
  have hs : SameOb h (h.set k off ys) kv := set_other _ _ _ (Ne.symm hk.2.1)
  have hc : (h.set k off ys).cell kv 0 = some x := by rw [hs.cell]; exact c1
  refine ⟨⟨⟨x, hc, ⟨c2.sl.frame (by rw [set_next]; exact Nat.le_refl _) fun j hj => set_other _ _ _ fun e => hk.2.2 x c1 (by rw [hj, e]), c2.new⟩, c3⟩, wr_same O.w hs, O.n, by rw [set_next]; exact O.lt, O.F.old (frm_set rfl) hn⟩, fun j hj => ⟨by rw [set_next]; exact hj.1, hj.2.1, fun y hy => hj.2.2 y (by rw [← hs.cell]; exact hy)⟩⟩
theorem add_loop {C : YC} {kb ob : Nat} {cap : Option Nat} {lo : Nat} {vs : List Nat} (hv : ∀ v ∈ vs, v ≤ 4096) (e0 : K0) : ∀ (d t : Nat), t + d = vs.length → ∀ f, d < f → ∀ h l, OwSt h0 h kv l → Away h kv kb →
    (∀ j, j < vs.length → h.cell kb (ob + j) = some (.int .i64 ((vs.getD j 0 : Nat) : Int))) → vs.length ≤ 300 → l.length + d ≤ 100000 →
    ∃ h', lp (l93_0 C lf e0) f (some (.ptr kv 0), some (.sl kb ob vs.length cap lo), some (.int .i64 (vs.length : Int)), some (.int .i64 (t : Int))) h = e0 h' ∧ OwSt h0 h' kv (l ++ ownV (vs.drop t)) ∧ Stp h h' kv
  | 0, t, hd, f, hf, h, l, O, W, hc, hl, hll => by
    obtain ⟨f, rfl⟩ : ∃ g, f = g + 1 := ⟨f - 1, by omega⟩
    have e : t = vs.length := by omega
    subst e
    refine ⟨h, ?_, by simpa [ownV] using O, Stp.refl _ _⟩
    rw [lp_succ]
    unfold l93_0 q93_20
    have hlt : decide ((vs.length : Int) < (vs.length : Int)) = false := by simp
    simp only [ob_some, b2_some, bc_ret, bcn_ret, gd_tt, gd_ff, gd_tf, gd_ft, ypk_true, ypk_false, yIf_true, yIf_false, semNil_ptr, fa_ptr, ld1_ptr, ext_tup, fd1_agg, un_not, bin_add, bin_sub, bin_mul, bin_eql, bin_neq, bin_lss, bin_leq, bin_gtr, bin_geq, Nat.zero_add, Nat.mul_one, hlt]
  | d + 1, t, hd, f, hf, h, l, O, W, hc, hl, hll => by
    obtain ⟨f, rfl⟩ : ∃ g, f = g + 1 := ⟨f - 1, by omega⟩
    have ht : t < vs.length := by omega
    have hlt : decide ((t : Int) < (vs.length : Int)) = true := decide_eq_true (by omega)
    have hinc : IntKind.i64.wrap ((t : Int) + 1) = ((t + 1 : Nat) : Int) := by rw [wrap_i64 (by omega) (by omega)]; omega
    have hix := ixS_sl (s := 1) (k := kb) (off := ob) (len := vs.length) (lo := lo) (cap := cap) (kd := .i64) (i := (t : Int)) (by omega) (by omega)
    rw [Int.toNat_natCast, Nat.mul_one] at hix
    have hct := hc t ht
    have hvt : vs.getD t 0 ≤ 4096 := by
      rw [List.getD, List.getElem?_eq_getElem ht]
      exact hv _ (List.getElem_mem ht)
    have hdrop : vs.drop t = vs.getD t 0 :: vs.drop (t + 1) := by
      rw [List.drop_eq_getElem_cons ht, List.getD, List.getElem?_eq_getElem ht]; rfl
    rw [lp_succ]
    show ∃ h', q93_20 C lf (fun x1 x5 x6 x7 h => lp (l93_0 C lf e0) f (x1, x5, x6, x7) h) e0 (some (.ptr kv 0)) (some (.sl kb ob vs.length cap lo)) (some (.int .i64 (vs.length : Int))) (some (.int .i64 (t : Int))) h = e0 h' ∧ _
    unfold q93_20
    rw [hdrop]
    generalize hv' : vs.getD t 0 = v at *
    by_cases hz : v = 0
    · have hgt : decide ((0 : Int) < (v : Int)) = false := decide_eq_false (by omega)
      obtain ⟨h', r1, r2, r3⟩ := add_loop (C := C) (lo := lo) (cap := cap) hv e0 d (t + 1) (by omega) f (by omega) h l O W hc hl (by omega)
      refine ⟨h', ?_, ?_, r3⟩
      · simp only [ob_some, b2_some, bc_ret, bcn_ret, gd_tt, gd_ff, gd_tf, gd_ft, ypk_true, ypk_false, yIf_true, yIf_false, semNil_ptr, fa_ptr, ld1_ptr, ext_tup, fd1_agg, un_not, bin_add, bin_sub, bin_mul, bin_eql, bin_neq, bin_lss, bin_leq, bin_gtr, bin_geq, Nat.zero_add, Nat.mul_one, hlt, hix, hct, hgt, hinc]
        exact r1
      · have e : ownV (v :: vs.drop (t + 1)) = ownV (vs.drop (t + 1)) := by simp [ownV, hz]
        rw [e]; exact r2
    · have hgt : decide ((0 : Int) < (v : Int)) = true := decide_eq_true (by omega)
      have hs1 : IntKind.i64.wrap ((v : Int) - 1) = ((v - 1 : Nat) : Int) := by rw [wrap_i64 (by omega) (by omega)]; omega
      obtain ⟨x, c1, c2, c3⟩ := O.c
      obtain ⟨x', h1, a1, a2, a3, a4, a5, a6, a7, a8⟩ := app_one (y := .int .i64 ((v - 1 : Nat) : Int)) appT_int rfl rfl rfl c2.sl (by omega) (by omega)
      have hone : x'.cells = [x'] ∧ allOne [x'] = true := by
        rcases a3.2 with ⟨rfl, _⟩ | ⟨k, rfl, _⟩ <;> exact ⟨rfl, rfl⟩
      have hskv : SameOb h h1 kv := a6 kv O.lt c3
      have hst := st_ptr (n := 1) (off := 0) (y := x') (wr_same O.w hskv) (by rw [hone.1]; rfl) (by omega) (by rw [hone.1]; exact hone.2)
      rw [hone.1] at hst
      generalize hg2 : h1.set kv 0 [x'] = h2 at *
      have n2 : h2.next = h1.next := by rw [← hg2, set_next]
      have hc2 : h2.cell kv 0 = some x' := by
        rw [← hg2, cell_set_same (wr_same O.w hskv) (by simp) (Nat.le_refl _) (by simp)]; rfl
      have hs2 : ∀ j, j ≠ kv → SameOb h1 h2 j := fun j hj => by rw [← hg2]; exact set_other _ _ _ hj
      have hr : ∀ j, rowOf x' = some j → j ≠ kv := fun j hj e => by
        rcases a7 j hj with h7 | h7
        · exact c3 (by rw [h7, e])
        · have := O.lt; omega
      have e3 : ints (l ++ [v - 1]) = ints l ++ [.int .i64 ((v - 1 : Nat) : Int)] := by simp [ints]
      have O2 : OwSt h0 h2 kv (l ++ [v - 1]) := by
        refine ⟨⟨x', hc2, ⟨?_, fun j hj => ?_⟩, fun e => hr kv e rfl⟩, ?_, O.n, by rw [n2]; exact Nat.lt_of_lt_of_le O.lt a4, ?_⟩
        · rw [e3, List.length_append]
          exact a3.frame (by rw [n2]; exact Nat.le_refl _) fun j hj => hs2 j (hr j hj)
        · rcases a7 j hj with h7 | h7
          · exact c2.new j h7
          · have := O.F.next; omega
        · rw [← hg2]; exact wr_set (wr_same O.w hskv)
        · refine ⟨by rw [← hg2, set_ng, a5]; exact O.F.ng, by rw [n2]; exact Nat.le_trans O.F.next a4, fun j hj _ => ?_, fun hf => ?_⟩
          · have hn := O.n
            have hjn := Nat.lt_of_lt_of_le hj O.F.next
            exact (hs2 j (by omega)).trans ((a6 j hjn (fun e => absurd (c2.new j e) (by omega))).trans (O.F.same j hj (fun e => e)))
          · rw [← hg2]; exact fresh_set (a8 (O.F.fr hf)) _ _ _
      have St2 : Stp h h2 kv := ⟨by rw [n2]; exact a4, fun j hj => ⟨⟨by rw [n2]; exact Nat.lt_of_lt_of_le hj.1 a4, hj.2.1, fun y hy e => by
          rw [hc2] at hy
          cases hy
          rcases a7 j e with h7 | h7
          · exact hj.2.2 x c1 h7
          · have := hj.1; omega⟩, (hs2 j hj.2.1).trans (a6 j hj.1 (hj.2.2 x c1))⟩⟩
      obtain ⟨h', r1, r2, r3⟩ := add_loop (C := C) (lo := lo) (cap := cap) hv e0 d (t + 1) (by omega) f (by omega) h2 (l ++ [v - 1]) O2 (St2.a kb W).1 (fun j hj => by rw [(St2.a kb W).2.cell]; exact hc j hj) hl (by simp; omega)
      refine ⟨h', ?_, ?_, St2.trans r3⟩
      · simp only [ob_some, b2_some, bc_ret, bcn_ret, gd_tt, gd_ff, gd_tf, gd_ft, ypk_true, ypk_false, yIf_true, yIf_false, semNil_ptr, fa_ptr, ld1_ptr, ext_tup, fd1_agg, un_not, bin_add, bin_sub, bin_mul, bin_eql, bin_neq, bin_lss, bin_leq, bin_gtr, bin_geq, Nat.zero_add, Nat.mul_one, hlt, hix, hct, hgt, c1, hs1, a1, a2, hst, hinc]
        exact r1
      · have e : ownV (v :: vs.drop (t + 1)) = (v - 1) :: ownV (vs.drop (t + 1)) := by simp [ownV, show 0 < v by omega]
        rw [e]
        simpa using r2
def AddOK (C : YC) : Prop := ∀ h0 h kv l kb ob cap lo vs, OwSt h0 h kv l → Away h kv kb → (∀ j, j < vs.length → h.cell kb (ob + j) = some (.int .i64 ((vs.getD j 0 : Nat) : Int))) → (∀ v ∈ vs, v ≤ 4096) → vs.length ≤ 300 → l.length ≤ 90000 →
  ∃ h', C (.fn 93) [.sl kb ob vs.length cap lo, .ptr kv 0] h = some (.ret (.tup []), h') ∧ OwSt h0 h' kv (l ++ ownV vs) ∧ Stp h h' kv
theorem add_ok {C : YC} (hlf : 1000 ≤ lf) {kb ob : Nat} {cap : Option Nat} {lo : Nat} {vs : List Nat} (O : OwSt h0 h kv l) (W : Away h kv kb) (hc : ∀ j, j < vs.length → h.cell kb (ob + j) = some (.int .i64 ((vs.getD j 0 : Nat) : Int))) (hv : ∀ v ∈ vs, v ≤ 4096) (hl : vs.length ≤ 300) (hll : l.length ≤ 90000) :
    ∃ h', fs93 C lf (.sl kb ob vs.length cap lo) (.ptr kv 0) h = some (.ret (.tup []), h') ∧ OwSt h0 h' kv (l ++ ownV vs) ∧ Stp h h' kv := by
  obtain ⟨h', r1, r2, r3⟩ := add_loop (lf := lf) (C := C) (cap := cap) (lo := lo) hv ff93 vs.length 0 (by omega) lf (by omega) h l O W hc hl (by omega)
  refine ⟨h', ?_, r2, r3⟩
  have hlen : lenE Tryd.prog 33 (.sl kb ob vs.length cap lo) = some (.int .i64 (vs.length : Int)) := by
    simp [lenE, Tryd.underlying33]
  unfold fs93 q93_24 q93_23
  simp only [ob_some, hlen]
  exact r1
theorem slice_whole {P : Program} {t e s n k off : Nat} (hu : P.underlying t = some (.array n e)) (hs : tySize P e = some s) (hn : 1 ≤ n) : semSlice P t (.ptr k off) none none = some (.sl k off n (some n) 0) := by
  have h1 : sliceB n n none none = some (0, n) := by
    simp only [sliceB]
    have : (Nat.ble n n && Nat.ble 0 n) = true := by rw [Nat.ble_eq_true_of_le (Nat.le_refl n), Nat.ble_eq_true_of_le (Nat.zero_le n)]; rfl
    simp only [this, cond_true]
  unfold semSlice
  simp only [hu, hs, h1, slAt, force_eq, Nat.sub_zero, Nat.zero_mul, Nat.add_zero]
  have b1 : Nat.beq n 0 = false := by
    cases hb : Nat.beq n 0 with
    | false => rfl
    | true => exact absurd (Nat.eq_of_beq_eq_true hb) (by omega)
  simp only [b1, cond_false]
theorem add_one {C : YC} (Ad : AddOK C) (O : OwSt h0 h kv l) {v : Nat} (hv : v ≤ 4096) (hll : l.length ≤ 90000) :
    ∃ x h1 h', ybs Tryd.prog 33 1 [0] [.int .i64 (v : Int)] h = some (x, h1) ∧ C (.fn 93) [x, .ptr kv 0] h1 = some (.ret (.tup []), h') ∧ OwSt h0 h' kv (l ++ ownV [v]) ∧ Stp h h' kv := by
  obtain ⟨z, hz, hzl⟩ := appT_int.hz
  have hb := ybs_one (h := h) (y := .int .i64 (v : Int)) appT_int.hu appT_int.hs hz hzl rfl rfl
  obtain ⟨O1, s1, w1⟩ := O.new (rowOb 3 [.int .i64 (v : Int)])
  obtain ⟨h', c1, O2, s2⟩ := Ad h0 _ kv l h.next 0 (some 1) 0 [v] O1 w1 (fun j hj => by
    have : j = 0 := by simpa using hj
    subst this
    rw [Nat.zero_add, cell_new_same, rowOb_get]; rfl) (fun u hu => by simp at hu; omega) (by simp) hll
  exact ⟨_, _, h', hb, c1, O2, s1.trans s2⟩
theorem segV_le {f : Nat → Nat} {b : Nat} (hf : ∀ c, f c ≤ b) (a n : Nat) : ∀ v ∈ segV f a n, v ≤ b := fun v hv => by
  obtain ⟨j, _, rfl⟩ := List.mem_map.1 hv
  exact hf _
theorem add_seg {C : YC} (Ad : AddOK C) (O : OwSt h0 h kv l) {k off : Nat} {f : Nat → Nat} {a n : Nat} (W : Away h kv k) (hc : ∀ j, j < n → h.cell k (off + j) = some (.int .i64 ((f (a + j) : Nat) : Int))) (hf : ∀ c, f c ≤ 4096) (hn : n ≤ 300) (hll : l.length ≤ 90000) :
    ∃ h', C (.fn 93) [.sl k off n (some n) 0, .ptr kv 0] h = some (.ret (.tup []), h') ∧ OwSt h0 h' kv (l ++ ownV (segV f a n)) ∧ Stp h h' kv := by
  have := Ad h0 h kv l k off (some n) 0 (segV f a n) O W (fun j hj => by rw [segV_length] at hj; rw [segV_get _ _ hj]; exact hc j hj) (segV_le hf a n) (by rw [segV_length]; exact hn) hll
  rwa [segV_length] at this
end
end Go.Proofs.YtomialandfplkaaDoor.Eva
namespace Go.Proofs.YtomialandfplkaaDoor.Eva
open Go.Xe
set_option linter.unusedSimpArgs false
theorem ints_cut {f : Nat → Nat} {q : Nat} (hq : q < 16) : ((ints (segV f 36 272)).drop (q * 17)).take 17 = ints (segV f (36 + 17 * q) 17) := by
  unfold ints segV
  rw [List.map_map, List.map_map, ← List.map_drop, ← List.map_take]
  apply List.ext_getElem
  · simp; omega
  · intro j h1 h2
    simp at h1 h2
    simp
    congr 2; omega
theorem add_137 (q j : Nat) : 36 + 17 * q + (1 + j) = 37 + 17 * q + j := by omega
theorem own_step (f : Nat → Nat) (q : Nat) : ownV (segV f 12 (24 + 17 * q)) ++ ownV [f (36 + 17 * q)] ++ ownV (segV f (37 + 17 * q) 16) = ownV (segV f 12 (24 + 17 * (q + 1))) := by
  have e1 : 24 + 17 * (q + 1) = 24 + 17 * q + 1 + 16 := by omega
  have e2 : 12 + (24 + 17 * q) = 36 + 17 * q := by omega
  have e3 : 12 + (24 + 17 * q + 1) = 37 + 17 * q := by omega
  rw [e1, segV_add f 12 (24 + 17 * q + 1) 16, segV_add f 12 (24 + 17 * q) 1, e2, e3, ownV_append, ownV_append, segV_one]
theorem own_join {f : Nat → Nat} {m a k : Nat} (e : a = 12 + m) : ownV (segV f 12 m) ++ ownV (segV f a k) = ownV (segV f 12 (m + k)) := by rw [e, ← ownV_append, segV_add]
theorem zero_of {o : Option Value} {n : Nat} (h : o.map (fun z => (mkV z).cells.length) = some n) : ∃ z, o = some z ∧ (mkV z).cells.length = n := by
  cases o with
  | none => cases h
  | some z => exact ⟨z, rfl, by simpa using h⟩
section
variable {lf : Nat} {h : HW} {T : TN} {n N : Nat} {wd b : Nat → Nat} {now : Int} {us : Nat → Bool} {nd : Nat → Nat → SV} {bl : Nat → Nat → Nat} {i : Nat}
theorem seg_cells (A : TableAt h T n N wd b now us nd) (M : MapAt n N wd nd bl) (hi : i < N) {a m : Nat} (h12 : 12 ≤ a) (hm : a + m ≤ 308) : ∀ j, j < m → h.cell T.kn (i * 308 + a + j) = some (.int .i64 ((bl i (a + j) : Nat) : Int)) := fun j hj => by
  rw [Nat.add_assoc, A.cn i (a + j) hi (by omega), M.cell i (a + j) hi (by omega) (by omega)]
theorem TableAt.ow {h0 : HW} {kv : Nat} {l : List Nat} (A : TableAt h0 T n N wd b now us nd) (O : OwSt h0 h kv l) : TableAt h T n N wd b now us nd ∧ Away h kv T.kn := by
  refine ⟨A.keep O.F, Nat.lt_of_lt_of_le A.ln O.F.next, fun e => by have := O.n; have := A.ln; omega, fun x hx e => ?_⟩
  obtain ⟨x', c1, c2, _⟩ := O.c
  rw [c1] at hx
  cases hx
  have := c2.new _ e
  have := A.ln
  omega
theorem owned_forks {C : YC} (Ad : AddOK C) {h0 : HW} {kv : Nat} (A : TableAt h0 T n N wd b now us nd) (M : MapAt n N wd nd bl) (hi : i < N) (e0 : K1) : ∀ (d q : Nat), q + d = 16 → ∀ f, d < f → ∀ h, OwSt h0 h kv (ownV (segV (bl i) 12 (24 + 17 * q))) →
    ∃ h', lp (l79_4 C lf e0) f (some (.ptr kv 0), some (.fn (.func 93) [] [.ptr kv 0]), some (.agg (ints (segV (bl i) 36 272))), some (.int .i64 (q : Int))) h = e0 (some (.ptr kv 0)) h' ∧ OwSt h0 h' kv (ownL bl i)
  | 0, q, hd, f, hf, h, O => by
    obtain ⟨f, rfl⟩ : ∃ g, f = g + 1 := ⟨f - 1, by omega⟩
    have e : q = 16 := by omega
    subst e
    refine ⟨h, ?_, O⟩
    rw [lp_succ]
    unfold l79_4 q79_23
    have hlt : decide (((16 : Nat) : Int) < (16 : Int)) = false := by simp
    simp only [ob_some, b2_some, bc_ret, bcn_ret, gd_tt, gd_ff, gd_tf, gd_ft, ypk_true, ypk_false, yIf_true, yIf_false, semNil_ptr, fa_ptr, ld1_ptr, ext_tup, fd1_agg, un_not, bin_add, bin_sub, bin_mul, bin_eql, bin_neq, bin_lss, bin_leq, bin_gtr, bin_geq, Nat.zero_add, Nat.mul_one, hlt]
  | d + 1, q, hd, f, hf, h, O => by
    obtain ⟨f, rfl⟩ : ∃ g, f = g + 1 := ⟨f - 1, by omega⟩
    have hlt : decide ((q : Int) < (16 : Int)) = true := decide_eq_true (by omega)
    have hinc : IntKind.i64.wrap ((q : Int) + 1) = ((q + 1 : Nat) : Int) := by rw [wrap_i64 (by omega) (by omega)]; omega
    have hn2 := A.st.n2
    have hle : ∀ c, bl i c ≤ 4096 := fun c => Nat.le_trans (M.le i c) hn2
    have hix : semIndex Tryd.prog 123 (.agg (ints (segV (bl i) 36 272))) (.int .i64 (q : Int)) = some (.agg (ints (segV (bl i) (36 + 17 * q) 17))) := by
      have hu : Tryd.prog.underlying 123 = some (.array 16 122) := Tryd.underlying123
      have hs : tySize Tryd.prog 122 = some 17 := by kernel_rfl
      have ha : tyAgg Tryd.prog 122 = some true := by kernel_rfl
      have hb : Nat.blt q 16 = true := by rw [Nat.blt_eq]; omega
      have hc : Nat.ble (q * 17 + 17) (ints (segV (bl i) 36 272)).length = true := by rw [ints, List.length_map, segV_length]; exact Nat.ble_eq_true_of_le (by omega)
      have hnat : natOf (.int .i64 (q : Int)) = some q := rfl
      unfold semIndex
      simp only [hnat, hu, hs, hb, cond_true, partE, ha, hc]
      rw [ints_cut (by omega)]
    obtain ⟨z, hz, hzl⟩ : ∃ z, tyZero Tryd.prog 122 = some z ∧ (mkV z).cells.length = 17 := zero_of (by kernel_rfl)
    have al := yAl_eq (P := Tryd.prog) (e := 122) (h := h) hz
    generalize hob : rowOb 122 (mkV z).cells = ob at *
    have hw1 : (h.new ob).wr h.next 17 := by
      have := wr_new (h := h) (o := ob) (by rw [← hob]; rfl)
      rw [show ob.n = 17 by rw [← hob]; exact hzl] at this
      exact this
    obtain ⟨O1, s1, w1⟩ := O.new ob
    have hyl : (SV.agg (ints (segV (bl i) (36 + 17 * q) 17))).cells.length = 17 := by
      show (ints (segV (bl i) (36 + 17 * q) 17)).length = 17
      rw [ints, List.length_map, segV_length]
    have hone : allOne (SV.agg (ints (segV (bl i) (36 + 17 * q) 17))).cells = true := allOne_ints .i64 (fun (i : Nat) => (i : Int)) _
    have hst := st_ptr (n := 17) (off := 0) (y := .agg (ints (segV (bl i) (36 + 17 * q) 17))) hw1 hyl (by omega) hone
    have hcc : (SV.agg (ints (segV (bl i) (36 + 17 * q) 17))).cells = ints (segV (bl i) (36 + 17 * q) 17) := rfl
    rw [hcc] at hst hyl
    have hn0 : h0.next ≤ h.next := O.F.next
    obtain ⟨O2, w2⟩ := O1.set (off := 0) (ys := ints (segV (bl i) (36 + 17 * q) 17)) w1 hn0
    have hcell : ∀ j, j < 17 → ((h.new ob).set h.next 0 (ints (segV (bl i) (36 + 17 * q) 17))).cell h.next j = some (.int .i64 ((bl i (36 + 17 * q + j) : Nat) : Int)) := fun j hj => by
      rw [cell_set_same hw1 (by omega) (Nat.zero_le _) (by omega), Nat.sub_zero]
      simp [ints, segV, hj]
    generalize hg : (h.new ob).set h.next 0 (ints (segV (bl i) (36 + 17 * q) 17)) = g at *
    have c0 := hcell 0 (by omega)
    rw [Nat.add_zero] at c0
    have wg := w2 h.next w1
    have ll := ownV_le (segV (bl i) 12 (24 + 17 * q))
    rw [segV_length] at ll
    obtain ⟨x3, g3, g4, a1, a2, O4, s4⟩ := add_one Ad O2 (v := bl i (36 + 17 * q)) (hle _) (by omega)
    have hsl := slice_whole (P := Tryd.prog) (t := 120) (n := 16) (s := 1) (k := h.next) (off := 1) Tryd.underlying120 (by kernel_rfl) (by omega)
    have l1 := ownV_le [bl i (36 + 17 * q)]
    simp only [List.length_cons, List.length_nil] at l1
    obtain ⟨g5, b1, O5, s5⟩ := add_seg Ad O4 (k := h.next) (off := 1) (f := bl i) (a := 37 + 17 * q) (n := 16) (s4.a _ wg).1 (fun j hj => by
      rw [(s4.a _ wg).2.cell, hcell (1 + j) (by omega), add_137]) hle (by omega) (by rw [List.length_append]; omega)
    have e5 := own_step (bl i) q
    rw [e5] at O5
    obtain ⟨h', r1, r2⟩ := owned_forks Ad A M hi e0 d (q + 1) (by omega) f (by omega) g5 O5
    refine ⟨h', ?_, r2⟩
    rw [lp_succ]
    show q79_23 C lf (fun x3 x4 x39 x40 h => lp (l79_4 C lf e0) f (x3, x4, x39, x40) h) e0 (some (.ptr kv 0)) (some (.fn (.func 93) [] [.ptr kv 0])) (some (.agg (ints (segV (bl i) 36 272)))) (some (.int .i64 (q : Int))) h = _
    unfold q79_23
    simp only [ob_some, b2_some, bc_ret, bcn_ret, gd_tt, gd_ff, gd_tf, gd_ft, ypk_true, ypk_false, yIf_true, yIf_false, semNil_ptr, fa_ptr, ld1_ptr, ext_tup, fd1_agg, un_not, bin_add, bin_sub, bin_mul, bin_eql, bin_neq, bin_lss, bin_leq, bin_gtr, bin_geq, Nat.zero_add, Nat.mul_one, hlt, hix, al, hst, c0, a1, cv, bcd, List.nil_append, List.cons_append, a2, hsl, b1, hinc]
    exact r1
def OwnedOK (C : YC) : Prop := ∀ h T n N wd b now us nd bl i, TableAt h T n N wd b now us nd → MapAt n N wd nd bl → i < N → ∃ x h', C (.fn 79) [.ptr T.kn (i * 308)] h = some (.ret x, h') ∧ IntsAt h h' x (ownL bl i) ∧ Frm h h' (fun _ => False)
theorem owned_ok {C : YC} (hlf : 1000 ≤ lf) (Ad : AddOK C) (A : TableAt h T n N wd b now us nd) (M : MapAt n N wd nd bl) (hi : i < N) :
    ∃ x h', fs79 C lf (.ptr T.kn (i * 308)) h = some (.ret x, h') ∧ IntsAt h h' x (ownL bl i) ∧ Frm h h' (fun _ => False) := by
  have hn2 := A.st.n2
  have hle : ∀ c, bl i c ≤ 4096 := fun c => Nat.le_trans (M.le i c) hn2
  have hz : tyZero Tryd.prog 33 = some (.slice none 0 0) := by kernel_rfl
  have al := yAl_eq (P := Tryd.prog) (e := 33) (h := h) hz
  have hzc : (mkV (.slice none 0 0)).cells = [.val (.slice none 0 0)] := rfl
  rw [hzc] at al
  generalize ho1 : rowOb 33 [.val (.slice none 0 0)] = o1 at *
  have w1 : (h.new o1).wr h.next 1 := by
    have := wr_new (h := h) (o := o1) (by rw [← ho1]; rfl)
    rw [show o1.n = 1 by rw [← ho1]; rfl] at this
    exact this
  have c1 : (h.new o1).cell h.next 0 = some (.val (.slice none 0 0)) := by rw [cell_new_same, ← ho1, rowOb_get]; rfl
  have O1 : OwSt h (h.new o1) h.next (ownV (segV (bl i) 12 0)) := ⟨⟨_, c1, ⟨Sl.nil _ _ _, fun j hj => by cases hj⟩, fun e => by cases e⟩, w1, Nat.le_refl _, by simp, Frm.new _ _ _⟩
  generalize hg1 : h.new o1 = g1 at *
  have ll : ∀ m, m ≤ 300 → (ownV (segV (bl i) 12 m)).length ≤ 300 := fun m hm => by have := ownV_le (segV (bl i) 12 m); rw [segV_length] at this; omega
  -- direct
  obtain ⟨A1, y1⟩ := A.ow O1
  have sl1 := slice_whole (P := Tryd.prog) (t := 119) (n := 6) (s := 1) (k := T.kn) (off := i * 308 + 12) Tryd.underlying119 (by kernel_rfl) (by omega)
  obtain ⟨g2, d1, O2, _⟩ := add_seg Ad O1 (k := T.kn) (off := i * 308 + 12) (f := bl i) (a := 12) (n := 6) y1 (seg_cells A1 M hi (by omega) (by omega)) hle (by omega) (Nat.le_trans (ll 0 (by omega)) (by omega))
  rw [own_join rfl] at O2
  -- one
  obtain ⟨A2, y2⟩ := A.ow O2
  have hc18 := A2.cn i 18 hi (by omega)
  rw [M.cell i 18 hi (by omega) (by omega)] at hc18
  obtain ⟨x3, g3, g4, a1, a2, O4, s4⟩ := add_one Ad O2 (v := bl i 18) (hle _) (Nat.le_trans (ll _ (by omega)) (by omega))
  rw [← segV_one (bl i) 18, own_join rfl] at O4
  obtain ⟨A4, y4⟩ := A.ow O4
  have sl4 := slice_whole (P := Tryd.prog) (t := 120) (n := 16) (s := 1) (k := T.kn) (off := i * 308 + 19) Tryd.underlying120 (by kernel_rfl) (by omega)
  obtain ⟨g5, d5, O5, _⟩ := add_seg Ad O4 (k := T.kn) (off := i * 308 + 19) (f := bl i) (a := 19) (n := 16) y4 (seg_cells A4 M hi (by omega) (by omega)) hle (by omega) (Nat.le_trans (ll _ (by omega)) (by omega))
  rw [own_join rfl] at O5
  -- two
  obtain ⟨A5, y5⟩ := A.ow O5
  have hc35 := A5.cn i 35 hi (by omega)
  rw [M.cell i 35 hi (by omega) (by omega)] at hc35
  obtain ⟨x6, g6, g7, a6, a7, O7, s7⟩ := add_one Ad O5 (v := bl i 35) (hle _) (Nat.le_trans (ll _ (by omega)) (by omega))
  rw [← segV_one (bl i) 35, own_join rfl] at O7
  obtain ⟨A7, y7⟩ := A.ow O7
  obtain ⟨md, hmd, _, _⟩ := A7.wn
  have hld : ldN 272 (.ptr T.kn (i * 308 + 36)) g7 = some (.agg (ints (segV (bl i) 36 272))) := by
    rw [ldN_ptr hmd, cells_of (ys := ints (segV (bl i) 36 272)) (by rw [ints, List.length_map, segV_length]) fun j hj => ?_]
    · rfl
    · rw [seg_cells A7 M hi (by omega) (by omega) j hj]
      simp [ints, segV, hj]
  obtain ⟨h', r1, r2⟩ := owned_forks (lf := lf) (C := C) Ad A M hi (fun x3 h => q79_3 C lf ff79 x3 h) 16 0 (by omega) lf (by omega) g7 O7
  obtain ⟨x, p1, p2, p3⟩ := r2.c
  refine ⟨x, h', ?_, p2, r2.F⟩
  unfold fs79 q79_74 q79_73 q79_72 q79_71
  simp only [ob_some, b2_some, bc_ret, bcn_ret, gd_tt, gd_ff, gd_tf, gd_ft, ypk_true, ypk_false, yIf_true, yIf_false, semNil_ptr, fa_ptr, ld1_ptr, ext_tup, fd1_agg, un_not, bin_add, bin_sub, bin_mul, bin_eql, bin_neq, bin_lss, bin_leq, bin_gtr, bin_geq, Nat.zero_add, Nat.mul_one, al]
  unfold q79_69 q79_68
  simp only [ob_some, b2_some, bc_ret, bcn_ret, gd_tt, gd_ff, gd_tf, gd_ft, ypk_true, ypk_false, yIf_true, yIf_false, semNil_ptr, fa_ptr, ld1_ptr, ext_tup, fd1_agg, un_not, bin_add, bin_sub, bin_mul, bin_eql, bin_neq, bin_lss, bin_leq, bin_gtr, bin_geq, Nat.zero_add, Nat.mul_one]
  unfold q79_66 q79_65
  simp only [ob_some, b2_some, bc_ret, bcn_ret, gd_tt, gd_ff, gd_tf, gd_ft, ypk_true, ypk_false, yIf_true, yIf_false, semNil_ptr, fa_ptr, ld1_ptr, ext_tup, fd1_agg, un_not, bin_add, bin_sub, bin_mul, bin_eql, bin_neq, bin_lss, bin_leq, bin_gtr, bin_geq, Nat.zero_add, Nat.mul_one, sl1, cv, bcd, List.nil_append, List.cons_append, d1]
  unfold q79_58 q79_57
  have z18 : i * 308 + 18 + 0 = i * 308 + 18 := rfl
  simp only [ob_some, b2_some, bc_ret, bcn_ret, gd_tt, gd_ff, gd_tf, gd_ft, ypk_true, ypk_false, yIf_true, yIf_false, semNil_ptr, fa_ptr, ld1_ptr, ext_tup, fd1_agg, un_not, bin_add, bin_sub, bin_mul, bin_eql, bin_neq, bin_lss, bin_leq, bin_gtr, bin_geq, Nat.zero_add, Nat.mul_one, z18, hc18, a1, cv, bcd, List.nil_append, List.cons_append, a2]
  unfold q79_48 q79_47
  have e19 : i * 308 + 18 + 1 = i * 308 + 19 := rfl
  simp only [ob_some, b2_some, bc_ret, bcn_ret, gd_tt, gd_ff, gd_tf, gd_ft, ypk_true, ypk_false, yIf_true, yIf_false, semNil_ptr, fa_ptr, ld1_ptr, ext_tup, fd1_agg, un_not, bin_add, bin_sub, bin_mul, bin_eql, bin_neq, bin_lss, bin_leq, bin_gtr, bin_geq, Nat.zero_add, Nat.mul_one, e19, sl4, cv, bcd, List.nil_append, List.cons_append, d5]
  unfold q79_39 q79_38
  simp only [ob_some, b2_some, bc_ret, bcn_ret, gd_tt, gd_ff, gd_tf, gd_ft, ypk_true, ypk_false, yIf_true, yIf_false, semNil_ptr, fa_ptr, ld1_ptr, ext_tup, fd1_agg, un_not, bin_add, bin_sub, bin_mul, bin_eql, bin_neq, bin_lss, bin_leq, bin_gtr, bin_geq, Nat.zero_add, Nat.mul_one, hc35, a6, cv, bcd, List.nil_append, List.cons_append, a7]
  unfold q79_30 q79_29 q79_28
  simp only [ob_some, b2_some, bc_ret, bcn_ret, gd_tt, gd_ff, gd_tf, gd_ft, ypk_true, ypk_false, yIf_true, yIf_false, semNil_ptr, fa_ptr, ld1_ptr, ext_tup, fd1_agg, un_not, bin_add, bin_sub, bin_mul, bin_eql, bin_neq, bin_lss, bin_leq, bin_gtr, bin_geq, Nat.zero_add, Nat.mul_one, hld]
  refine Eq.trans r1 ?_
  unfold q79_3 ff79
  simp only [ob_some, b2_some, bc_ret, bcn_ret, gd_tt, gd_ff, gd_tf, gd_ft, ypk_true, ypk_false, yIf_true, yIf_false, semNil_ptr, fa_ptr, ld1_ptr, ext_tup, fd1_agg, un_not, bin_add, bin_sub, bin_mul, bin_eql, bin_neq, bin_lss, bin_leq, bin_gtr, bin_geq, Nat.zero_add, Nat.mul_one, p1]
end
end Go.Proofs.YtomialandfplkaaDoor.Eva
namespace Go.Proofs.YtomialandfplkaaDoor.Eva
open Go.Xe
set_option linter.unusedSimpArgs false
def statL (nd : Nat → Nat → SV) (i k : Nat) : List SV := (List.range 10).map fun j => if j = 5 then .int .i64 (k : Int) else nd i (1 + j)
theorem allOne_of {f : Nat → SV} : ∀ {l : List Nat}, (∀ j ∈ l, (f j).one = true) → allOne (l.map f) = true
  | [], _ => rfl
  | a :: l, h => by
    show ((f a).one && allOne (l.map f)) = true
    rw [h a (List.mem_cons_self ..), allOne_of fun j hj => h j (List.mem_cons_of_mem _ hj)]; rfl
theorem len_sl {P : Program} {h : HW} {t e s : Nat} {x : SV} {n : Nat} {ys : List SV} (hu : P.underlying t = some (.slice e)) (S : Sl h e s x n ys) : lenE P t x = some (.int .i64 (n : Int)) := by
  rcases S.2 with ⟨rfl, rfl⟩ | ⟨k, rfl, _⟩
  · simp [lenE, hu, forceI_eq]
  · simp [lenE, hu]
section
variable {lf : Nat} {h : HW} {T : TN} {n N : Nat} {wd b : Nat → Nat} {now : Int} {us : Nat → Bool} {nd : Nat → Nat → SV} {bl : Nat → Nat → Nat} {i : Nat}
def StatOK (C : YC) : Prop := ∀ h T n N wd b now us nd bl i, TableAt h T n N wd b now us nd → MapAt n N wd nd bl → i < N → us i = true → (∀ c, c < 12 → (nd i c).one = true) →
  ∃ h', C (.fn 42) [.ptr T.kt 0, .int .i64 ((i + 1 : Nat) : Int)] h = some (.ret (.tup [.agg (statL nd i (ownL bl i).length), .int .i64 0]), h') ∧ Frm h h' (fun _ => False)
theorem stat_ok {C : YC} (Ge : GetOK C) (Ow : OwnedOK C) (A : TableAt h T n N wd b now us nd) (M : MapAt n N wd nd bl) (hi : i < N) (hu : us i = true) (hone : ∀ c, c < 12 → (nd i c).one = true) :
    ∃ h', fs42 C lf (.ptr T.kt 0) (.int .i64 ((i + 1 : Nat) : Int)) h = some (.ret (.tup [.agg (statL nd i (ownL bl i).length), .int .i64 0]), h') ∧ Frm h h' (fun _ => False) := by
  have hN := A.N2
  obtain ⟨z, hz, hzl⟩ : ∃ z, tyZero Tryd.prog 78 = some z ∧ (mkV z).cells.length = 10 := zero_of (by kernel_rfl)
  have al1 := yAl_eq (P := Tryd.prog) (e := 78) (h := h) hz
  generalize hob : rowOb 78 (mkV z).cells = ob at *
  have hwo : ∀ h : HW, (h.new ob).wr h.next 10 := fun h => by
    have := wr_new (h := h) (o := ob) (by rw [← hob]; rfl)
    rw [show ob.n = 10 by rw [← hob]; exact hzl] at this
    exact this
  have w1 := hwo h
  have n1 : (h.new ob).next = h.next + 1 := by simp
  have F1 : Frm h (h.new ob) (fun _ => False) := Frm.new _ _ _
  generalize hg1 : h.new ob = g1 at *
  have A1 := A.keep F1
  have hg := Ge g1 T n N wd b now us nd ((i + 1 : Nat) : Int) A1 (by omega) (by omega)
  rw [inoB_yes hi hu, if_pos rfl, show ((i + 1 : Nat) : Int).toNat - 1 = i by omega] at hg
  have hne : decide ((0 : Int) ≠ 0) = false := rfl
  obtain ⟨md, hmd, _, _⟩ := A1.wn
  have hld : ldN 10 (.ptr T.kn (i * 308 + 1)) g1 = some (.agg ((List.range 10).map fun j => nd i (1 + j))) := by
    rw [ldN_ptr hmd, cells_of (ys := (List.range 10).map fun j => nd i (1 + j)) (by simp) fun j hj => ?_]
    · rfl
    · rw [Nat.add_assoc, A1.cn i (1 + j) hi (by omega)]
      simp [hj]
  have al2 := yAl_eq (P := Tryd.prog) (e := 78) (h := g1) hz
  rw [hob] at al2
  have w2 := hwo g1
  have hcc : (SV.agg ((List.range 10).map fun j => nd i (1 + j))).cells = (List.range 10).map fun j => nd i (1 + j) := rfl
  have hall : allOne ((List.range 10).map fun j => nd i (1 + j)) = true := allOne_of fun j hj => hone _ (by have := List.mem_range.1 hj; omega)
  have st2 := st_ptr (n := 10) (off := 0) (y := .agg ((List.range 10).map fun j => nd i (1 + j))) w2 (by rw [hcc]; simp) (by omega) (by rw [hcc]; exact hall)
  rw [hcc] at st2
  have hcell2 : ∀ j, j < 10 → ((g1.new ob).set g1.next 0 ((List.range 10).map fun j => nd i (1 + j))).cell g1.next j = some (nd i (1 + j)) := fun j hj => by
    rw [cell_set_same w2 (by simp) (Nat.zero_le _) (by simpa using hj), Nat.sub_zero]
    simp [hj]
  have w2' : ((g1.new ob).set g1.next 0 ((List.range 10).map fun j => nd i (1 + j))).wr g1.next 10 := wr_set w2
  have F2 : Frm g1 ((g1.new ob).set g1.next 0 ((List.range 10).map fun j => nd i (1 + j))) (fun _ => False) := (Frm.new g1 ob _).old (frm_set rfl) (Nat.le_refl _)
  have n2 : ((g1.new ob).set g1.next 0 ((List.range 10).map fun j => nd i (1 + j))).next = g1.next + 1 := by simp
  generalize hg2 : (g1.new ob).set g1.next 0 ((List.range 10).map fun j => nd i (1 + j)) = g2 at *
  obtain ⟨x, g3, c3, I3, F3⟩ := Ow g2 T n N wd b now us nd bl i (A1.keep F2) M hi
  have hlen := len_sl (P := Tryd.prog) Tryd.underlying33 I3.sl
  generalize hk : (ownL bl i).length = k at *
  have s3 : ∀ j, j < g2.next → SameOb g2 g3 j := fun j hj => F3.same j hj (fun e => e)
  have w3 : g3.wr g1.next 10 := wr_same w2' (s3 _ (by omega))
  have st3 := st_ptr (n := 1) (off := 5) (y := .int .i64 (k : Int)) w3 rfl (by omega) rfl
  have hc1 : (SV.int .i64 (k : Int)).cells = [.int .i64 (k : Int)] := rfl
  rw [hc1] at st3
  have hcell4 : ∀ j, j < 10 → (g3.set g1.next 5 [.int .i64 (k : Int)]).cell g1.next (0 + j) = (statL nd i k)[j]? := fun j hj => by
    rw [Nat.zero_add]
    by_cases e : j = 5
    · subst e
      rw [cell_set_same w3 (by simp) (Nat.le_refl _) (by simp)]
      simp [statL]
    · rw [cell_set_off (.inr (by simp; omega)), (s3 _ (by omega)).cell, hcell2 j hj]
      simp [statL, hj, e]
  have n4 : (g3.set g1.next 5 [.int .i64 (k : Int)]).next = g3.next := by simp
  have w4 : (g3.set g1.next 5 [.int .i64 (k : Int)]).wr g1.next 10 := wr_set w3
  have w4b : (g3.set g1.next 5 [.int .i64 (k : Int)]).wr h.next 10 := by
    have e1 : SameOb g1 g2 h.next := F2.same _ (by omega) (fun e => e)
    have e2 : SameOb g3 (g3.set g1.next 5 [.int .i64 (k : Int)]) h.next := set_other _ _ _ (by omega)
    exact wr_same (wr_same (wr_same w1 e1) (s3 _ (by have := F2.next; omega))) e2
  have F4 : Frm g1 (g3.set g1.next 5 [.int .i64 (k : Int)]) (fun _ => False) := (F2.trans F3).old (frm_set rfl) (Nat.le_refl _)
  generalize hg4 : g3.set g1.next 5 [.int .i64 (k : Int)] = g4 at *
  have hsl : (statL nd i k).length = 10 := by simp [statL]
  have hld4 : ldN 10 (.ptr g1.next 0) g4 = some (.agg (statL nd i k)) := by
    obtain ⟨m4, hm4, _⟩ := w4
    rw [ldN_ptr hm4, cells_of hsl hcell4]; rfl
  have hall4 : allOne (statL nd i k) = true := allOne_of fun j hj => by
    have := List.mem_range.1 hj
    split
    · rfl
    · exact hone _ (by omega)
  have st5 := st_ptr (n := 10) (off := 0) (y := .agg (statL nd i k)) w4b hsl (by omega) hall4
  have hcc5 : (SV.agg (statL nd i k)).cells = statL nd i k := rfl
  rw [hcc5] at st5
  have hld5 : ldN 10 (.ptr h.next 0) (g4.set h.next 0 (statL nd i k)) = some (.agg (statL nd i k)) := by
    obtain ⟨m4, hm4, _⟩ := wr_set (off := 0) (k := h.next) (ys := statL nd i k) w4b
    rw [ldN_ptr hm4, cells_of hsl fun j hj => ?_]
    · rfl
    · rw [Nat.zero_add, cell_set_same w4b (by omega) (Nat.zero_le _) (by omega), Nat.sub_zero]
  refine ⟨g4.set h.next 0 (statL nd i k), ?_, (F1.trans F4).old (frm_set rfl) (Nat.le_refl _)⟩
  unfold fs42 q42_23 ff42
  simp only [ob_some, b2_some, bc_ret, bcn_ret, gd_tt, gd_ff, gd_tf, gd_ft, ypk_true, ypk_false, yIf_true, yIf_false, semNil_ptr, fa_ptr, ld1_ptr, ext_tup, fd1_agg, un_not, bin_add, bin_sub, bin_mul, bin_eql, bin_neq, bin_lss, bin_leq, bin_gtr, bin_geq, Nat.zero_add, Nat.mul_one, al1, hg, List.getElem?_cons_zero, List.getElem?_cons_succ, hne, hld, al2, st2, c3, hlen, st3, hld4, st5, hld5]
end
end Go.Proofs.YtomialandfplkaaDoor.Eva
namespace Go.Proofs.YtomialandfplkaaDoor.Eva
open Go.Xe
set_option linter.unusedSimpArgs false
structure WantAt (h0 h : HW) (T : TN) (x : SV) (l : List Nat) : Prop where
  b : Bytes h x l
  c : CapOK x
  w : x = .val (.slice none 0 0) ∨ ∃ k cap, x = .sl k 0 l.length cap 0 ∧ (∃ N, h.wr k N ∧ l.length ≤ N)
  n : ∀ j, rowOf x = some j → h0.next ≤ j ∧ j < h.next
  t : apartT T x
theorem sl_bytes {h : HW} {x : SV} {l : List Nat} {n : Nat} (hb : ∀ c ∈ l, c < 256) (hn : l.length = n) (S : Sl h 5 1 x n (u8s l)) :
    Bytes h x l ∧ CapOK x ∧ (x = .val (.slice none 0 0) ∨ ∃ k cap, x = .sl k 0 l.length cap 0 ∧ (∃ N, h.wr k N ∧ l.length ≤ N)) := by
  subst hn
  rcases S.2 with ⟨rfl, e⟩ | ⟨k, rfl, A⟩
  · have : l = [] := List.eq_nil_of_length_eq_zero e
    subst this
    exact ⟨⟨hb, .inl ⟨.inl rfl, rfl⟩⟩, trivial, .inl rfl⟩
  · obtain ⟨m, hm, m1, m2, m3, m4, m5⟩ := A.mt
    exact ⟨⟨hb, .inr ⟨k, 0, none, 0, m, rfl, hm, fun j hj => by rw [Nat.zero_add, A.cs j (by omega), u8s_get l hj]⟩⟩, trivial, .inr ⟨k, none, rfl, l.length, ⟨m, hm, m5, by omega⟩, Nat.le_refl _⟩⟩
theorem u8s_app (l : List Nat) (d : Nat) : u8s l ++ List.replicate d (.int .u8 0) = u8s (l ++ List.replicate d 0) := by
  simp [u8s]
section
variable {h : HW} {y : SV} {l : List Nat} {d : Nat}
theorem rebuild (B : Bytes h y l) (hy : ∀ j, rowOf y = some j → j < h.next) (hl : l.length + d ≤ 17792) :
    ∃ h1 x2 h2 x3 h3, ybs Tryd.prog 24 0 [] [] h = some (.sl h.next 0 0 (some 0) 0, h1) ∧
      ybl Tryd.prog .append #[24, 24] [.sl h.next 0 0 (some 0) 0, y] h1 = some (x2, h2) ∧
      ybl Tryd.prog .append #[24, 3] [x2, .int .i64 (d : Int)] h2 = some (x3, h3) ∧
      Frm h h1 (fun _ => False) ∧ Frm h h2 (fun _ => False) ∧ Frm h h3 (fun _ => False) ∧ Bytes h3 x3 (l ++ List.replicate d 0) ∧ CapOK x3 ∧ (x3 = .val (.slice none 0 0) ∨ ∃ k cap, x3 = .sl k 0 (l ++ List.replicate d 0).length cap 0 ∧ (∃ N, h3.wr k N ∧ (l ++ List.replicate d 0).length ≤ N)) ∧
      (∀ j, rowOf x3 = some j → h.next ≤ j ∧ j < h3.next) := by
  obtain ⟨z, hz, hzl⟩ := appT_b.hz
  have h1 := ybs_none (h := h) appT_b.hu appT_b.hs hz hzl (Nat.le_refl 1)
  have F1 : Frm h (h.new (rowOb 5 [])) (fun _ => False) := Frm.new _ _ _
  have w1 : (h.new (rowOb 5 [])).wr h.next 0 := wr_new (h := h) (o := rowOb 5 []) rfl
  have n1 : (h.new (rowOb 5 [])).next = h.next + 1 := by simp
  generalize hg1 : h.new (rowOb 5 []) = g1 at *
  have B1 : Bytes g1 y l := B.frame fun kb ob len cap lo e => F1.same kb (hy kb (by rw [e]; rfl)) (fun e => e)
  have he := elems_bytes B1
  have hb : ∀ c ∈ l ++ List.replicate d 0, c < 256 := fun c hc => by
    rcases List.mem_append.1 hc with h | h
    · exact B.1 c h
    · rw [List.eq_of_mem_replicate h]; omega
  by_cases hl0 : l = []
  · subst hl0
    have h2 := app_empty0 (h := g1) (k := h.next) appT_b ⟨0, w1⟩ he
    have F2 : Frm g1 (g1.set h.next 0 []) (· = h.next) := frm_set rfl
    have w2 : (g1.set h.next 0 []).wr h.next 0 := wr_set w1
    have n2 : (g1.set h.next 0 []).next = h.next + 1 := by rw [set_next, n1]
    have F02 := F1.old F2 (Nat.le_refl _)
    generalize hg2 : g1.set h.next 0 [] = g2 at *
    by_cases hd : d = 0
    · subst hd
      have h3 := appZ_cap (h := g2) (k := h.next) (off := 0) (len := 0) (lo := 0) (kd := .i64) (n := 0) (cp := 0) appZ_b (by omega) (by omega) w2 (Nat.le_refl 0) (Nat.le_refl 0)
      have F3 : Frm g2 (g2.set h.next (0 + 0) (List.replicate 0 (.int .u8 0))) (· = h.next) := frm_set rfl
      have w3 : (g2.set h.next (0 + 0) (List.replicate 0 (.int .u8 0))).wr h.next 0 := wr_set w2
      obtain ⟨mm, hmm, hmr⟩ := id w3
      refine ⟨g1, _, g2, _, _, h1, h2, h3, F1, F02, F02.old F3 (Nat.le_refl _), ⟨hb, .inr ⟨h.next, 0, some 0, 0, mm, rfl, hmm, fun j hj => absurd hj (Nat.not_lt_zero j)⟩⟩, Nat.le_refl 0, .inr ⟨h.next, some 0, rfl, 0, w3, Nat.le_refl 0⟩, fun j hj => ?_⟩
      cases hj
      exact ⟨Nat.le_refl _, by rw [set_next, n2]; omega⟩
    · have h3 := appZ_none (h := g2) (k := h.next) (off := 0) (lo := 0) (kd := .i64) (n := d) appZ_b (by obtain ⟨m, hm, _⟩ := w2; exact ⟨m, hm⟩) (by omega) (by omega) (by omega)
      have w3 := wr_new (h := g2) (o := looseOb 5 1 (List.replicate d (.int .u8 0))) rfl
      have hsl : SlAt (g2.new (looseOb 5 1 (List.replicate d (.int .u8 0)))) g2.next 5 1 d (List.replicate d (.int .u8 0)) := slAt_new (by simp)
      have hS : Sl (g2.new (looseOb 5 1 (List.replicate d (.int .u8 0)))) 5 1 (.sl g2.next 0 d none 0) d (u8s (List.replicate d 0)) := by
        have e := u8s_app [] d
        rw [show u8s [] = ([] : List SV) from rfl, List.nil_append, List.nil_append] at e
        rw [← e]
        exact ⟨by simp, .inr ⟨_, rfl, hsl⟩⟩
      obtain ⟨b1, b2, b3⟩ := sl_bytes (l := List.replicate d 0) hb (by simp) hS
      refine ⟨g1, _, g2, _, _, h1, h2, h3, F1, F02, F02.trans (Frm.new _ _ _), b1, b2, b3, fun j hj => ?_⟩
      cases hj
      exact ⟨by omega, by simp⟩
  · have hlp : 1 ≤ l.length := List.length_pos_iff.2 hl0
    have h2 := app_empty (h := g1) (k := h.next) appT_b (by obtain ⟨m, hm, _⟩ := w1; exact ⟨m, hm⟩) he (by rw [u8s_length, Nat.mul_one]) (u8s_one l) hlp (by omega) (by omega)
    have F2 : Frm g1 (g1.new (looseOb 5 1 (u8s l))) (fun _ => False) := Frm.new _ _ _
    have A2 : SlAt (g1.new (looseOb 5 1 (u8s l))) g1.next 5 1 l.length (u8s l) := slAt_new (by rw [u8s_length, Nat.mul_one])
    obtain ⟨x3, g3, h3, S3, n3, ng3, fr3, row3, fre3⟩ := appZ_sl (kd := .i64) (n := d) appZ_b (u8s_length l) A2 (by omega) (by omega)
    have n2 : (g1.new (looseOb 5 1 (u8s l))).next = g1.next + 1 := by simp
    generalize hg2 : g1.new (looseOb 5 1 (u8s l)) = g2 at *
    have F02 := F1.trans F2
    rw [u8s_app] at S3
    obtain ⟨b1, b2, b3⟩ := sl_bytes (l := l ++ List.replicate d 0) hb (by simp) S3
    refine ⟨g1, _, g2, x3, g3, h1, h2, h3, F1, F02, ⟨ng3.trans F02.ng, Nat.le_trans F02.next n3, fun j hj _ => ?_, fun hf => fre3 (F02.fr hf)⟩, b1, b2, b3, fun j hj => ?_⟩
    · exact (fr3 j (by omega) (fun e => by cases e; omega)).trans (F02.same j hj (fun e => e))
    · have := S3.row_lt hj
      rcases row3 j hj with e | e
      · cases e; omega
      · omega
end
structure WSt (h0 h : HW) (T : TN) (s : S4) (want : List Nat) (x : SV) : Prop where
  A : TableAt h T 1000 1 s.wd s.b 0 us1 s.nd
  M : MapAt 1000 1 s.wd s.nd s.bl
  O : Own 1 s
  sz : s.nd 0 5 = .int .i64 (want.length : Int)
  le : want.length ≤ 17792
  one : ∀ c, c < 12 → (s.nd 0 c).one = true
  by' : ∀ p, p < 17792 → byteAt s 0 p = want.getD p 0
  W : WantAt h0 h T x want
  Tt : TabAt h
  Ot : OldT h T
  t0 : h0.next ≤ T.kt ∧ h0.next ≤ T.ks ∧ h0.next ≤ T.kd ∧ h0.next ≤ T.kn
  F : Frm h0 h (fun _ => False)
  g : gT < h0.next
theorem WSt.well {h0 h : HW} {T : TN} {s : S4} {want : List Nat} {x : SV} (A : WSt h0 h T s want x) : Well 1000 1 s := ⟨A.M, A.A.st.wlt⟩
theorem byte_cut {want : List Nat} {a p : Nat} (f : Nat → Nat) (h : f p = want.getD p 0) : (if a ≤ p then 0 else f p) = (want.take a ++ List.replicate (a - (want.take a).length) 0).getD p 0 := by
  by_cases h1 : a ≤ p
  · rw [if_pos h1, List.getD, List.getElem?_eq_none (by simp; omega)]; rfl
  · rw [if_neg h1, h]
    simp only [List.getD]
    by_cases h2 : p < want.length
    · rw [List.getElem?_append_left (by simp; omega), List.getElem?_take, if_pos (by omega)]
    · rw [List.getElem?_append_right (by simp; omega), List.getElem?_eq_none (Nat.le_of_not_lt h2)]
      simp only [List.length_take]
      rw [List.getElem?_replicate]
      split <;> rfl
def overL (w : List Nat) (a : Nat) (l : List Nat) : List Nat := w.take a ++ l ++ w.drop (a + l.length)
theorem overL_length {w : List Nat} {a : Nat} {l : List Nat} (h : a + l.length ≤ w.length) : (overL w a l).length = w.length := by
  simp [overL]; omega
theorem overL_get {w : List Nat} {a : Nat} {l : List Nat} (h : a + l.length ≤ w.length) (p : Nat) : (overL w a l).getD p 0 = if a ≤ p ∧ p < a + l.length then l.getD (p - a) 0 else w.getD p 0 := by
  unfold overL
  simp only [List.getD]
  by_cases h1 : p < a
  · rw [if_neg (by omega), List.append_assoc, List.getElem?_append_left (by simp; omega), List.getElem?_take, if_pos h1]
  · by_cases h2 : p < a + l.length
    · rw [if_pos ⟨by omega, h2⟩, List.append_assoc, List.getElem?_append_right (by simp; omega), List.getElem?_append_left (by simp; omega)]
      congr 2; simp; omega
    · rw [if_neg (by omega), List.getElem?_append_right (by simp; omega), List.getElem?_drop]
      congr 2; simp; omega
end Go.Proofs.YtomialandfplkaaDoor.Eva
namespace Go.Proofs.YtomialandfplkaaDoor.Eva
open Go.Xe
set_option linter.unusedSimpArgs false
theorem slice_lo {P : Program} {t e k n a : Nat} {cap : Option Nat} {kd : IntKind} (hu : P.underlying t = some (.slice e)) (hs : tySize P e = some 1) (hc : CapOK (.sl k 0 n cap 0)) (ha : a < n) :
    ∃ cap' lo', semSlice P t (.sl k 0 n cap 0) (some (.int kd (a : Int))) none = some (.sl k a (n - a) cap' lo') := by
  have q1 : natOf (.int kd (a : Int)) = some a := rfl
  unfold semSlice
  cases cap with
  | none =>
    have h3 : sliceB n n (some (.int kd (a : Int))) none = some (a, n) := by
      simp only [sliceB, q1]
      have : (Nat.ble n n && Nat.ble a n) = true := by simp [Nat.ble_eq_true_of_le (Nat.le_of_lt ha)]
      simp only [this, cond_true]
    have b1 : Nat.blt a n = true := by rw [Nat.blt_eq]; omega
    simp only [hu, hs, h3, slAt, force_eq, Nat.ble_eq_true_of_le (Nat.le_refl n), cond_true, b1, Nat.mul_one, Nat.zero_add]
    exact ⟨_, _, rfl⟩
  | some c =>
    have hc : n ≤ c := hc
    have h3 : sliceB n c (some (.int kd (a : Int))) none = some (a, n) := by
      simp only [sliceB, q1]
      have : (Nat.ble n c && Nat.ble a n) = true := by simp [Nat.ble_eq_true_of_le (Nat.le_of_lt ha), Nat.ble_eq_true_of_le hc]
      simp only [this, cond_true]
    have b1 : Nat.beq (c - a) 0 = false := by
      cases hb : Nat.beq (c - a) 0 with
      | false => rfl
      | true => exact absurd (Nat.eq_of_beq_eq_true hb) (by omega)
    simp only [hu, hs, h3, slAt, force_eq, b1, cond_false, Nat.mul_one, Nat.zero_add]
    exact ⟨_, _, rfl⟩
theorem WantAt.frm {h0 h h' : HW} {T : TN} {x : SV} {l : List Nat} (W : WantAt h0 h T x l) {Q : Nat → Prop} (F : Frm h h' Q) (hq : ∀ j, rowOf x = some j → ¬ Q j) : WantAt h0 h' T x l := by
  have hs : ∀ j, rowOf x = some j → SameOb h h' j := fun j hj => F.same j (W.n j hj).2 (hq j hj)
  refine ⟨W.b.frame fun kb ob len cap lo e => hs kb (by rw [e]; rfl), W.c, ?_, fun j hj => ⟨(W.n j hj).1, Nat.lt_of_lt_of_le (W.n j hj).2 F.next⟩, W.t⟩
  rcases W.w with e | ⟨k, cap, rfl, N, h1, h2⟩
  · exact .inl e
  · exact .inr ⟨k, cap, rfl, N, wr_same h1 (hs k rfl), h2⟩
theorem WSt.fold {h0 h h' : HW} {T : TN} {s : S4} {want : List Nat} {x : SV} (S : WSt h0 h T s want x) (F : Frm h h' (fun j => j = T.ks ∨ j = T.kd ∨ j = T.kn)) :
    Frm h0 h' (fun _ => False) ∧ WantAt h0 h' T x want ∧ TabAt h' ∧ OldT h' T := by
  have t := S.t0
  refine ⟨⟨F.ng.trans S.F.ng, Nat.le_trans S.F.next F.next, fun j hj e => (F.same j (Nat.lt_of_lt_of_le hj S.F.next) (fun e => by omega)).trans (S.F.same j hj e), fun hf => F.fr (S.F.fr hf)⟩, S.W.frm F (fun j hj e => ?_), S.Tt.fr F S.Ot.g (fun e => ?_), S.Ot.mono F.next⟩
  · have := S.W.t j hj
    omega
  · rcases e with e | e | e
    · exact S.Ot.ng.s e
    · exact S.Ot.ng.d e
    · exact S.Ot.ng.n e
theorem grown_hi {nd : Nat → Nat → SV} {i sz : Nat} {now : Int} {i' c : Nat} (hc : 12 ≤ c) : grown nd i sz now i' c = nd i' c := by
  unfold grown
  rw [upd2_ne _ _ (by omega), upd2_ne _ _ (by omega), upd2_ne _ _ (by omega)]
theorem grown_sz {nd : Nat → Nat → SV} {i sz : Nat} {now : Int} : grown nd i sz now i 5 = .int .i64 (sz : Int) := by
  unfold grown
  rw [upd2_ne _ _ (by omega), upd2_ne _ _ (by omega), upd2_same]
theorem grown_one {nd : Nat → Nat → SV} {i sz : Nat} {now : Int} {c : Nat} (h : (nd i c).one = true) : (grown nd i sz now i c).one = true := by
  unfold grown
  by_cases e1 : c = 10
  · subst e1; rw [upd2_same]; rfl
  rw [upd2_ne _ _ (by omega)]
  by_cases e2 : c = 9
  · subst e2; rw [upd2_same]; rfl
  rw [upd2_ne _ _ (by omega)]
  by_cases e3 : c = 5
  · subst e3; rw [upd2_same]; rfl
  rw [upd2_ne _ _ (by omega)]
  exact h
theorem cutS_hi {bl : Nat → Nat → Nat} {i k c : Nat} (h : cutS bl i k c) : 12 ≤ c := by
  rcases h with ⟨j, _, _, rfl⟩ | ⟨rfl, _⟩ | ⟨j, _, rfl, _⟩ | ⟨rfl, _⟩
  · exact plOff_lo
  · omega
  · omega
  · omega
section
variable {lf : Nat} {h h0 : HW} {T : TN} {s : S4} {want : List Nat} {x : SV} {x35 x36 x37 : O}
theorem wst_next {h1 h' : HW} {s' : S4} {want' : List Nat} {x' : SV} (t0 : h0.next ≤ T.kt ∧ h0.next ≤ T.ks ∧ h0.next ≤ T.kd ∧ h0.next ≤ T.kn) (A : TableAt h1 T 1000 1 s'.wd s'.b 0 us1 s'.nd) (M : MapAt 1000 1 s'.wd s'.nd s'.bl) (O : Own 1 s') (sz : s'.nd 0 5 = .int .i64 (want'.length : Int)) (le : want'.length ≤ 17792) (one : ∀ c, c < 12 → (s'.nd 0 c).one = true)
    (hb : ∀ p, p < 17792 → byteAt s' 0 p = want'.getD p 0) (F01 : Frm h0 h1 (fun _ => False)) (Tt : TabAt h1) (Ot : OldT h1 T) (F : Frm h1 h' (fun _ => False)) (W : WantAt h0 h' T x' want') (hg : gT < h0.next) : WSt h0 h' T s' want' x' :=
  ⟨A.keep F, M, O, sz, le, one, hb, W, Tt.fr F Ot.g (fun e => e), Ot.mono F.next, t0, F01.trans F, hg⟩
theorem cut_round {C : YC} (Tr : TruncOK C) (Nm : NumOK C) (S : WSt h0 h T s want x) {p a : Nat} (hp : p < h.next) (hpt : p ≠ T.ks ∧ p ≠ T.kd ∧ p ≠ T.kn) (hm : ∃ m, h.mt p = some m) (c0 : h.cell p 0 = some (.int .i64 (a : Int))) (ha : a ≤ 17792) (r : K1) (e1 : K6) :
    ∃ h' s' x', q9_160 C lf r e1 (some (.ptr T.kt 0)) (some (.int .i64 ((0 + 1 : Nat) : Int))) (some x) (some (.ptr p 0)) x35 x36 x37 h = e1 (some (.ptr T.kt 0)) (some (.int .i64 ((0 + 1 : Nat) : Int))) (some x') x35 x36 x37 h' ∧
      WSt h0 h' T s' (want.take a ++ List.replicate (a - (want.take a).length) 0) x' := by
  have Nm' : ∀ h (e : Int), C (.fn 34) [.int .i64 e] h = some (.ret (.int .i64 e), h) := Nm
  obtain ⟨h1, s1, c1, A1, M1, F1, R⟩ := (Tr h T 1000 1 0 us1 s 0 (a : Int) S.A S.M (by omega) rfl (by omega) (by omega)).2.2 (by omega) (by omega)
  rw [Int.toNat_natCast] at A1 M1 R
  obtain ⟨F01, W1, Tt1, Ot1⟩ := S.fold F1
  have W' : Well 1000 1 s1 := ⟨⟨fun i c hi h12 hc => by have := M1.cell i c hi h12 hc; rwa [grown_hi h12] at this, M1.le, M1.on, M1.inj⟩, A1.st.wlt⟩
  have hbyte : ∀ p, p < 17792 → byteAt ⟨s1.wd, s1.b, grown s1.nd 0 a 0, s1.bl⟩ 0 p = (want.take a ++ List.replicate (a - (want.take a).length) 0).getD p 0 := fun p hp => by
    have := cutR_byte R ha (N := 1) (by omega) W' (i' := 0) (p := p) (by omega) hp
    have e : byteAt ⟨s1.wd, s1.b, grown s1.nd 0 a 0, s1.bl⟩ 0 p = byteAt s1 0 p := rfl
    rw [e, this]
    simp only [true_and]
    exact byte_cut (byteAt s 0) (S.by' p hp)
  have hone : ∀ c, c < 12 → (grown s1.nd 0 a 0 0 c).one = true := fun c hc => grown_one (by
    rw [R.nd, clrN_no fun e => by have := cutS_hi e.2; omega]
    exact S.one c hc)
  have hO : Own 1 (⟨s1.wd, s1.b, grown s1.nd 0 a 0, s1.bl⟩ : S4) := fun j hj => cutR_own R S.O j hj
  have hlt : (want.take a ++ List.replicate (a - (want.take a).length) 0).length = a := by simp; omega
  have sp : SameOb h h1 p := F1.same p hp (by omega)
  have c01 : h1.cell p 0 = some (.int .i64 (a : Int)) := by rw [sp.cell]; exact c0
  have hm1 : ∃ m, h1.mt p = some m := by rw [sp.mt]; exact hm
  have hp1 : p < h1.next := Nat.lt_of_lt_of_le hp F1.next
  have hle := S.le
  -- the list is made shorter
  have cutx : ∃ x2, q9_149 C lf (fun x3 x5 x6 x8 x35 x36 x37 h => q9_137 C lf e1 x3 x5 x6 x8 x35 x36 x37 h) (some (.ptr T.kt 0)) (some (.int .i64 ((0 + 1 : Nat) : Int))) (some x) (some (.ptr p 0)) x35 x36 x37 h1 =
        q9_137 C lf e1 (some (.ptr T.kt 0)) (some (.int .i64 ((0 + 1 : Nat) : Int))) (some x2) (some (.ptr p 0)) x35 x36 x37 h1 ∧ Bytes h1 x2 (want.take a) ∧ (∀ j, rowOf x2 = some j → j < h1.next) := by
    have hlen := len_bytes (P := Tryd.prog) Tryd.underlying24 W1.b
    unfold q9_149
    by_cases hc : a < want.length
    · obtain ⟨x2, q1, q2, q3⟩ := bytes_hi (P := Tryd.prog) (t := 24) (q := a) (kd := .i64) Tryd.underlying24 (s := 1) (by kernel_rfl) W1.b W1.c (by omega)
      have hrow : ∀ j, rowOf x2 = some j → j < h1.next := by
        rcases W1.w with rfl | ⟨k, cap, rfl, _⟩
        · have q0 : semSlice Tryd.prog 24 (.val (.slice none 0 0)) none (some (.int .i64 (a : Int))) = some x2 := q1
          rcases W1.b.2 with ⟨_, e⟩ | ⟨_, _, _, _, _, e, _⟩
          · rw [e] at hc; simp at hc
          · cases e
        · obtain ⟨cap', lo', u1, _⟩ := slice_hi (P := Tryd.prog) (t := 24) (q := a) (kd := .i64) Tryd.underlying24 (s := 1) (by kernel_rfl) W1.c (by omega)
          rw [u1] at q1
          cases q1
          exact fun j hj => (W1.n j hj).2
      refine ⟨x2, ?_, q2, hrow⟩
      have d1 : decide ((a : Int) < (want.length : Int)) = true := decide_eq_true (by omega)
      simp only [ob_some, b2_some, bc_ret, bcn_ret, gd_tt, gd_ff, gd_tf, gd_ft, ypk_true, ypk_false, yIf_true, yIf_false, semNil_ptr, fa_ptr, ld1_ptr, ext_tup, fd1_agg, un_not, bin_add, bin_sub, bin_mul, bin_eql, bin_neq, bin_lss, bin_leq, bin_gtr, bin_geq, Nat.zero_add, Nat.mul_one, c01, hlen, d1, q1]
    · refine ⟨x, ?_, by rw [List.take_of_length_le (by omega)]; exact W1.b, fun j hj => (W1.n j hj).2⟩
      have d1 : decide ((a : Int) < (want.length : Int)) = false := decide_eq_false (by omega)
      simp only [ob_some, b2_some, bc_ret, bcn_ret, gd_tt, gd_ff, gd_tf, gd_ft, ypk_true, ypk_false, yIf_true, yIf_false, semNil_ptr, fa_ptr, ld1_ptr, ext_tup, fd1_agg, un_not, bin_add, bin_sub, bin_mul, bin_eql, bin_neq, bin_lss, bin_leq, bin_gtr, bin_geq, Nat.zero_add, Nat.mul_one, c01, hlen, d1]
  obtain ⟨x2, t1, B2, r2⟩ := cutx
  obtain ⟨g1, y2, g2, x3, g3, b1, b2, b3, f1, f2, f3, B3, C3, w3, n3⟩ := rebuild (d := a - (want.take a).length) B2 r2 (by simp; omega)
  have hlen2 := len_bytes (P := Tryd.prog) Tryd.underlying24 B2
  have hsub : IntKind.i64.wrap ((a : Int) - ((want.take a).length : Int)) = ((a - (want.take a).length : Nat) : Int) := by
    have : (want.take a).length ≤ a := by simp; omega
    rw [wrap_i64 (by omega) (by omega)]; omega
  have k1 : ∀ r, ck (chkH [(4, adrO (some (SV.ptr p 0)))] h1 g1 [4]) r = r := fun r => ck_one rfl hp1 hm1 (f1.same p hp1 (fun e => e))
  have s1' : SameOb h1 g1 p := f1.same p hp1 (fun e => e)
  have k2 : ∀ r, ck (chkH [(4, adrO (some (SV.ptr p 0)))] g1 g2 [4]) r = r := fun r => ck_one rfl (Nat.lt_of_lt_of_le hp1 f1.next) (by rw [s1'.mt]; exact hm1) ((f2.same p hp1 (fun e => e)).trans s1'.symm)
  have t0 := S.t0
  have Ot := Ot1
  refine ⟨g3, ⟨s1.wd, s1.b, grown s1.nd 0 a 0, s1.bl⟩, x3, ?_, wst_next S.t0 A1 M1 hO (by rw [hlt]; exact (grown_sz : grown s1.nd 0 a 0 0 5 = _)) (by rw [hlt]; exact ha) hone hbyte F01 Tt1 Ot1 f3 ⟨B3, C3, w3, fun j hj => ⟨Nat.le_trans F01.next (n3 j hj).1, (n3 j hj).2⟩, fun j hj => ?_⟩ S.g⟩
  · have d0 : decide ((0 : Int) ≠ 0) = false := rfl
    unfold q9_160 q9_159
    simp only [ob_some, b2_some, bc_ret, bcn_ret, gd_tt, gd_ff, gd_tf, gd_ft, ypk_true, ypk_false, yIf_true, yIf_false, semNil_ptr, fa_ptr, ld1_ptr, ext_tup, fd1_agg, un_not, bin_add, bin_sub, bin_mul, bin_eql, bin_neq, bin_lss, bin_leq, bin_gtr, bin_geq, Nat.zero_add, Nat.mul_one, c0, c1, Nm', d0]
    unfold q9_150
    refine t1.trans ?_
    unfold q9_137
    simp only [ob_some, b2_some, bc_ret, bcn_ret, gd_tt, gd_ff, gd_tf, gd_ft, ypk_true, ypk_false, yIf_true, yIf_false, semNil_ptr, fa_ptr, ld1_ptr, ext_tup, fd1_agg, un_not, bin_add, bin_sub, bin_mul, bin_eql, bin_neq, bin_lss, bin_leq, bin_gtr, bin_geq, Nat.zero_add, Nat.mul_one, hlen2, c01, hsub, b1, k1, b2, k2, b3]
  · have := (n3 j hj).1
    have := Ot.t; have := Ot.s; have := Ot.d; have := Ot.n
    omega
end
end Go.Proofs.YtomialandfplkaaDoor.Eva
namespace Go.Proofs.YtomialandfplkaaDoor.Eva
open Go.Xe
set_option linter.unusedSimpArgs false
section
variable {lf : Nat} {h h0 : HW} {T : TN} {s : S4} {want : List Nat} {x : SV} {x35 x36 x37 : O}
theorem room1000 (s' : S4) (_ : Well 1000 1 s') (O : Own 1 s') : (usedL s'.wd 1000).length + 2 < 1000 := by
  have := own_few (n := 1000) O
  omega
def wroteL (want : List Nat) (a : Nat) (l : List Nat) : List Nat := overL (want ++ List.replicate (a + l.length - want.length) 0) a l
theorem wroteL_length (want : List Nat) (a : Nat) (l : List Nat) : (wroteL want a l).length = max want.length (a + l.length) := by
  unfold wroteL
  rw [overL_length (by simp; omega)]
  simp; omega
theorem wroteL_get (want : List Nat) (a : Nat) (l : List Nat) (p : Nat) : (wroteL want a l).getD p 0 = if a ≤ p ∧ p < a + l.length then l.getD (p - a) 0 else want.getD p 0 := by
  unfold wroteL
  rw [overL_get (by simp; omega)]
  by_cases hc : a ≤ p ∧ p < a + l.length
  · rw [if_pos hc, if_pos hc]
  · rw [if_neg hc, if_neg hc]
    simp only [List.getD]
    by_cases h2 : p < want.length
    · rw [List.getElem?_append_left h2]
    · rw [List.getElem?_append_right (by omega), List.getElem?_eq_none (Nat.le_of_not_lt h2), List.getElem?_replicate]
      split <;> rfl
theorem copy_round {C : YC} {h1 h2 : HW} {w : List Nat} {tx : SV} {l : List Nat} {p a m : Nat} (F12 : Frm h1 h2 (fun _ => False)) (W : WantAt h0 h2 T x w) (hp : p < h1.next) (c0 : h1.cell p 0 = some (.int .i64 (a : Int))) (c1 : h1.cell p 1 = some tx) (B : Bytes h1 tx l) (hcap : CapOK tx) (hr : ∀ j, rowOf tx = some j → j < h1.next) (hm1 : 1 ≤ m) (hml : m ≤ l.length) (ham : a + m ≤ w.length) (n : K6) :
    ∃ h', q9_57 C lf n (some (.ptr T.kt 0)) (some (.int .i64 ((0 + 1 : Nat) : Int))) (some x) (some (.ptr p 0)) (some (.int .i64 (m : Int))) x35 x36 x37 h2 = n (some (.ptr T.kt 0)) (some (.int .i64 ((0 + 1 : Nat) : Int))) (some x) x35 x36 x37 h' ∧
      Frm h2 h' (fun j => rowOf x = some j) ∧ WantAt h0 h' T x (overL w a (l.take m)) := by
  have s12 := F12.same p hp (fun e => e)
  have c0' : h2.cell p 0 = some (.int .i64 (a : Int)) := by rw [s12.cell]; exact c0
  have c1' : h2.cell p 1 = some tx := by rw [s12.cell]; exact c1
  have B2 : Bytes h2 tx l := B.frame fun kb ob len cap lo e => F12.same kb (hr kb (by rw [e]; rfl)) (fun e => e)
  rcases W.w with e | ⟨k, cap, rfl, N, hw, hN⟩
  · subst e
    rcases W.b.2 with ⟨_, e⟩ | ⟨_, _, _, _, _, e, _⟩
    · rw [e] at ham; simp at ham; omega
    · cases e
  obtain ⟨cap', lo', q1⟩ := slice_lo (P := Tryd.prog) (t := 24) (kd := .i64) (a := a) Tryd.underlying24 (by kernel_rfl) W.c (by omega)
  obtain ⟨y, q2, q3, q4⟩ := bytes_hi (P := Tryd.prog) (t := 24) (q := m) (kd := .i64) Tryd.underlying24 (s := 1) (by kernel_rfl) B2 hcap hml
  have hlen : (l.take m).length = m := by simp; omega
  have hcp := copy_bytes (P := Tryd.prog) (t := 24) (t2 := 24) (kd := k) (od := a) (ld := w.length - a) (cap := cap') (lo := lo') Tryd.underlying24 (by kernel_rfl) q3 hw (by omega)
  have hmin : min (l.take m).length (w.length - a) = m := by omega
  have htk : (l.take m).take m = l.take m := by rw [List.take_take, Nat.min_self]
  rw [hmin, htk] at hcp
  refine ⟨h2.set k a (u8s (l.take m)), ?_, frm_set rfl, ⟨?_, W.c, .inr ⟨k, cap, by rw [overL_length (by omega)], N, wr_set hw, by rw [overL_length (by omega)]; exact hN⟩, fun j hj => ⟨(W.n j hj).1, by rw [set_next]; exact (W.n j hj).2⟩, W.t⟩⟩
  · unfold q9_57
    simp only [ob_some, b2_some, bc_ret, bcn_ret, gd_tt, gd_ff, gd_tf, gd_ft, ypk_true, ypk_false, yIf_true, yIf_false, semNil_ptr, fa_ptr, ld1_ptr, ext_tup, fd1_agg, un_not, bin_add, bin_sub, bin_mul, bin_eql, bin_neq, bin_lss, bin_leq, bin_gtr, bin_geq, Nat.zero_add, Nat.mul_one, c0', c1', q1, q2, hcp]
  · obtain ⟨mm, hmm, _⟩ := wr_set (off := a) (k := k) (ys := u8s (l.take m)) hw
    refine ⟨fun c hc => ?_, .inr ⟨k, 0, cap, 0, mm, by rw [overL_length (by omega)], hmm, fun j hj => ?_⟩⟩
    · unfold overL at hc
      rcases List.mem_append.1 hc with h | h
      · rcases List.mem_append.1 h with h | h
        · exact W.b.1 c (List.mem_of_mem_take h)
        · exact B.1 c (List.mem_of_mem_take h)
      · exact W.b.1 c (List.mem_of_mem_drop h)
    · rw [overL_length (by omega)] at hj
      rw [Nat.zero_add, overL_get (by omega), hlen]
      by_cases hc : a ≤ j ∧ j < a + m
      · rw [if_pos hc, cell_set_same hw (by rw [u8s_length, hlen]; omega) hc.1 (by rw [u8s_length, hlen]; exact hc.2), u8s_get _ (by omega)]
      · rw [if_neg hc, cell_set_off (by rw [u8s_length, hlen]; omega)]
        rcases W.b.2 with ⟨⟨e⟩ | ⟨_, e⟩, _⟩ | ⟨kb, ob, cap2, lo2, m2, e, _, hcs⟩
        · cases e
        · cases e
        · cases e
          have := hcs j hj
          rwa [Nat.zero_add] at this
theorem write_round {C : YC} (Wr : TWriteOK C) (Nm : NumOK C) (S : WSt h0 h T s want x) {p a : Nat} {tx : SV} {l : List Nat} (hp : p < h.next) (hpt : p ≠ T.ks ∧ p ≠ T.kd ∧ p ≠ T.kn) (hm : ∃ m, h.mt p = some m) (c0 : h.cell p 0 = some (.int .i64 (a : Int))) (c1 : h.cell p 1 = some tx) (ha : a ≤ 17792) (B0 : Bytes h0 tx l) (hcap : CapOK tx) (hr : ∀ j, rowOf tx = some j → j < h0.next) (hll : l.length ≤ 140737488351232) (r : K1) (n : K6) :
    ∃ h' s' want' x', q9_126 C lf n r n (some (.ptr T.kt 0)) (some (.int .i64 ((0 + 1 : Nat) : Int))) (some x) (some (.ptr p 0)) x35 x36 x37 h = n (some (.ptr T.kt 0)) (some (.int .i64 ((0 + 1 : Nat) : Int))) (some x') x35 x36 x37 h' ∧
      WSt h0 h' T s' want' x' := by
  have Nm' : ∀ h (e : Int), C (.fn 34) [.int .i64 e] h = some (.ret (.int .i64 e), h) := Nm
  have B : Bytes h tx l := B0.frame fun kb ob len cap lo e => S.F.same kb (hr kb (by rw [e]; rfl)) (fun e => e)
  have hlen := len_bytes (P := Tryd.prog) Tryd.underlying24 B
  have hs : IntKind.i64.wrap (17792 - (a : Int)) = ((17792 - a : Nat) : Int) := by rw [wrap_i64 (by omega) (by omega)]; omega
  have t0 := S.t0
  have hap : apartT T tx := fun j hj => by have := hr j hj; omega
  have hrn : ∀ j, rowOf tx = some j → j < h.next := fun j hj => Nat.lt_of_lt_of_le (hr j hj) S.F.next
  have hcl : (cutL a l).length = min l.length (17792 - a) := by simp [cutL]
  generalize hmv : min l.length (17792 - a) = m at *
  have pre : q9_126 C lf n r n (some (.ptr T.kt 0)) (some (.int .i64 ((0 + 1 : Nat) : Int))) (some x) (some (.ptr p 0)) x35 x36 x37 h =
      q9_108 C lf n r n (some (.ptr T.kt 0)) (some (.int .i64 ((0 + 1 : Nat) : Int))) (some x) (some (.ptr p 0)) (some (.int .i64 (m : Int))) x35 x36 x37 h := by
    unfold q9_126 q9_125
    simp only [ob_some, b2_some, bc_ret, bcn_ret, gd_tt, gd_ff, gd_tf, gd_ft, ypk_true, ypk_false, yIf_true, yIf_false, semNil_ptr, fa_ptr, ld1_ptr, ext_tup, fd1_agg, un_not, bin_add, bin_sub, bin_mul, bin_eql, bin_neq, bin_lss, bin_leq, bin_gtr, bin_geq, Nat.zero_add, Nat.mul_one, c1, hlen]
    unfold q9_120 q9_119
    by_cases hc : ((17792 - a : Nat) : Int) < (l.length : Int)
    · simp only [ob_some, b2_some, bc_ret, bcn_ret, gd_tt, gd_ff, gd_tf, gd_ft, ypk_true, ypk_false, yIf_true, yIf_false, semNil_ptr, fa_ptr, ld1_ptr, ext_tup, fd1_agg, un_not, bin_add, bin_sub, bin_mul, bin_eql, bin_neq, bin_lss, bin_leq, bin_gtr, bin_geq, Nat.zero_add, Nat.mul_one, c0, hs, decide_eq_true hc]
      rw [show 17792 - a = m by omega]
    · simp only [ob_some, b2_some, bc_ret, bcn_ret, gd_tt, gd_ff, gd_tf, gd_ft, ypk_true, ypk_false, yIf_true, yIf_false, semNil_ptr, fa_ptr, ld1_ptr, ext_tup, fd1_agg, un_not, bin_add, bin_sub, bin_mul, bin_eql, bin_neq, bin_lss, bin_leq, bin_gtr, bin_geq, Nat.zero_add, Nat.mul_one, c0, hs, decide_eq_false hc]
      rw [show l.length = m by omega]
  rw [pre]
  unfold q9_108 q9_107
  have w := Wr h T 1000 1 0 us1 s 0 (a : Int) tx l want.length S.A S.M S.Tt S.Ot (by omega) rfl S.sz S.le B hcap hap hrn hll (by omega) (by omega)
  by_cases hm0 : m = 0
  · subst hm0
    refine ⟨h, s, want, x, ?_, S⟩
    have d1 : decide ((((0 : Nat)) : Int) = 0) = true := rfl
    by_cases hl0 : l = []
    · have w1 := w.2.1 (by omega) hl0
      simp only [ob_some, b2_some, bc_ret, bcn_ret, gd_tt, gd_ff, gd_tf, gd_ft, ypk_true, ypk_false, yIf_true, yIf_false, semNil_ptr, fa_ptr, ld1_ptr, ext_tup, fd1_agg, un_not, bin_add, bin_sub, bin_mul, bin_eql, bin_neq, bin_lss, bin_leq, bin_gtr, bin_geq, Nat.zero_add, Nat.mul_one, c0, c1, w1, List.getElem?_cons_zero, List.getElem?_cons_succ]
      unfold q9_95 q9_94
      simp only [ob_some, b2_some, bc_ret, bcn_ret, gd_tt, gd_ff, gd_tf, gd_ft, ypk_true, ypk_false, yIf_true, yIf_false, semNil_ptr, fa_ptr, ld1_ptr, ext_tup, fd1_agg, un_not, bin_add, bin_sub, bin_mul, bin_eql, bin_neq, bin_lss, bin_leq, bin_gtr, bin_geq, Nat.zero_add, Nat.mul_one, d1]
    · have hlp := List.length_pos_iff.2 hl0
      have w1 := w.2.2.1 hl0 (by omega)
      simp only [ob_some, b2_some, bc_ret, bcn_ret, gd_tt, gd_ff, gd_tf, gd_ft, ypk_true, ypk_false, yIf_true, yIf_false, semNil_ptr, fa_ptr, ld1_ptr, ext_tup, fd1_agg, un_not, bin_add, bin_sub, bin_mul, bin_eql, bin_neq, bin_lss, bin_leq, bin_gtr, bin_geq, Nat.zero_add, Nat.mul_one, c0, c1, w1, List.getElem?_cons_zero, List.getElem?_cons_succ]
      unfold q9_95 q9_94
      simp only [ob_some, b2_some, bc_ret, bcn_ret, gd_tt, gd_ff, gd_tf, gd_ft, ypk_true, ypk_false, yIf_true, yIf_false, semNil_ptr, fa_ptr, ld1_ptr, ext_tup, fd1_agg, un_not, bin_add, bin_sub, bin_mul, bin_eql, bin_neq, bin_lss, bin_leq, bin_gtr, bin_geq, Nat.zero_add, Nat.mul_one, d1]
  · have hlp : 0 < l.length := by omega
    have hl0 : l ≠ [] := List.length_pos_iff.1 hlp
    obtain ⟨h1, F1, Tt1, _, w2⟩ := w.2.2.2 hl0 (by omega) (by omega)
    rw [Int.toNat_natCast] at w2
    obtain ⟨r1, r2, r3, r4⟩ := writeF_all (n := 1000) (N := 1) (i := 0) (off := a) (l := cutL a l) (by omega) (by omega) room1000 (cutL a l).length 0 s (by omega) (by omega) S.well S.O
    obtain ⟨_, _, _, _⟩ := writeF_low (n := 1000) (N := 1) (i := 0) (off := a) (l := cutL a l) (by omega) (i' := 0) (c := 0) (by omega) (by omega) (cutL a l).length 0 s (by omega) S.well
    have low := fun c (hc : c < 12) => (writeF_low (n := 1000) (N := 1) (i := 0) (off := a) (l := cutL a l) (by omega) (i' := 0) (c := c) (by omega) hc (cutL a l).length 0 s (by omega) S.well).1
    have hwr : writeF 1000 0 a (cutL a l) (cutL a l).length 0 s = wrF 1000 0 a l s := rfl
    rw [hwr] at r1 r2 r3 r4 low
    generalize hfr : wrF 1000 0 a l s = fr at *
    rw [hcl] at r1
    obtain ⟨e1, A1, M1⟩ := w2 (by omega)
    rw [r1] at e1 A1 M1
    obtain ⟨F01, W1, _, Ot1⟩ := S.fold F1
    have sp : SameOb h h1 p := F1.same p hp (by omega)
    have c01 : h1.cell p 0 = some (.int .i64 (a : Int)) := by rw [sp.cell]; exact c0
    have c11 : h1.cell p 1 = some tx := by rw [sp.cell]; exact c1
    have hm1 : ∃ m, h1.mt p = some m := by rw [sp.mt]; exact hm
    have hp1 : p < h1.next := Nat.lt_of_lt_of_le hp F1.next
    have B1 : Bytes h1 tx l := B.frame fun kb ob len cap lo e => F1.same kb (hrn kb (by rw [e]; rfl)) (fun e2 => by have := hap kb (by rw [e]; rfl); omega)
    have hr1 : ∀ j, rowOf tx = some j → j < h1.next := fun j hj => Nat.lt_of_lt_of_le (hrn j hj) F1.next
    have hle := S.le
    have hcut : cutL a l = l.take m := by unfold cutL; rw [hmv]
    have hlm : (l.take m).length = m := by rw [← hcut, hcl]
    -- the list gets long enough
    have grow : ∃ h2 x2, q9_78 C lf (fun x3 x5 x6 x8 x9 x35 x36 x37 h => q9_57 C lf n x3 x5 x6 x8 x9 x35 x36 x37 h) (some (.ptr T.kt 0)) (some (.int .i64 ((0 + 1 : Nat) : Int))) (some x) (some (.ptr p 0)) (some (.int .i64 (m : Int))) x35 x36 x37 h1 =
          q9_57 C lf n (some (.ptr T.kt 0)) (some (.int .i64 ((0 + 1 : Nat) : Int))) (some x2) (some (.ptr p 0)) (some (.int .i64 (m : Int))) x35 x36 x37 h2 ∧ Frm h1 h2 (fun _ => False) ∧ WantAt h0 h2 T x2 (want ++ List.replicate (a + m - want.length) 0) := by
      have hlenw := len_bytes (P := Tryd.prog) Tryd.underlying24 W1.b
      have hadd : IntKind.i64.wrap ((a : Int) + (m : Int)) = ((a + m : Nat) : Int) := by rw [wrap_i64 (by omega) (by omega)]; omega
      by_cases hc : want.length < a + m
      · obtain ⟨g1, y2, g2, x3, g3, b1, b2, b3, f1, f2, f3, B3, C3, w3, n3⟩ := rebuild (d := a + m - want.length) W1.b (fun j hj => (W1.n j hj).2) (by omega)
        have hsub : IntKind.i64.wrap (((a + m : Nat) : Int) - (want.length : Int)) = ((a + m - want.length : Nat) : Int) := by rw [wrap_i64 (by omega) (by omega)]; omega
        have k1 : ∀ r, ck (chkH [(4, adrO (some (SV.ptr p 0)))] h1 g1 [4]) r = r := fun r => ck_one rfl hp1 hm1 (f1.same p hp1 (fun e => e))
        have s1' : SameOb h1 g1 p := f1.same p hp1 (fun e => e)
        have k2 : ∀ r, ck (chkH [(4, adrO (some (SV.ptr p 0)))] g1 g2 [4]) r = r := fun r => ck_one rfl (Nat.lt_of_lt_of_le hp1 f1.next) (by rw [s1'.mt]; exact hm1) ((f2.same p hp1 (fun e => e)).trans s1'.symm)
        have d1 : decide ((want.length : Int) < ((a + m : Nat) : Int)) = true := decide_eq_true (by omega)
        refine ⟨g3, x3, ?_, f3, ⟨B3, C3, w3, fun j hj => ⟨Nat.le_trans F01.next (n3 j hj).1, (n3 j hj).2⟩, fun j hj => ?_⟩⟩
        · unfold q9_78
          simp only [ob_some, b2_some, bc_ret, bcn_ret, gd_tt, gd_ff, gd_tf, gd_ft, ypk_true, ypk_false, yIf_true, yIf_false, semNil_ptr, fa_ptr, ld1_ptr, ext_tup, fd1_agg, un_not, bin_add, bin_sub, bin_mul, bin_eql, bin_neq, bin_lss, bin_leq, bin_gtr, bin_geq, Nat.zero_add, Nat.mul_one, c01, hlenw, hadd, d1, hsub, b1, k1, b2, k2, b3]
        · have := (n3 j hj).1
          have := Ot1.t; have := Ot1.s; have := Ot1.d; have := Ot1.n
          omega
      · have d1 : decide ((want.length : Int) < ((a + m : Nat) : Int)) = false := decide_eq_false (by omega)
        refine ⟨h1, x, ?_, Frm.refl _ _, ?_⟩
        · unfold q9_78
          simp only [ob_some, b2_some, bc_ret, bcn_ret, gd_tt, gd_ff, gd_tf, gd_ft, ypk_true, ypk_false, yIf_true, yIf_false, semNil_ptr, fa_ptr, ld1_ptr, ext_tup, fd1_agg, un_not, bin_add, bin_sub, bin_mul, bin_eql, bin_neq, bin_lss, bin_leq, bin_gtr, bin_geq, Nat.zero_add, Nat.mul_one, c01, hlenw, hadd, d1]
        · rw [show a + m - want.length = 0 by omega]
          simpa using W1
    obtain ⟨h2, x2, g1, F2, W2⟩ := grow
    obtain ⟨h3, g2, F3, W3⟩ := copy_round (lf := lf) (C := C) (x35 := x35) (x36 := x36) (x37 := x37) F2 W2 hp1 c01 c11 B1 hcap hr1 (m := m) (by omega) (by omega) (by simp; omega) n
    have F13 : Frm h1 h3 (fun j => rowOf x2 = some j) := (F2.weak fun _ e => e.elim).trans F3
    have e3 : overL (want ++ List.replicate (a + m - want.length) 0) a (l.take m) = wroteL want a (l.take m) := by unfold wroteL; rw [hlm]
    rw [e3] at W3
    have hwl := wroteL_length want a (l.take m)
    rw [hlm] at hwl
    have hb3 : ∀ p, p < 17792 → byteAt fr.1 0 p = (wroteL want a (l.take m)).getD p 0 := fun p hp => by
      rw [r4 0 p (by omega) hp, wroteL_get, hlm, hcl, hcut, S.by' p hp]
      simp only [true_and, Nat.add_zero]
    have A3 : TableAt h3 T 1000 1 fr.1.wd fr.1.b 0 us1 (grown fr.1.nd 0 (max want.length (a + m)) 0) := A1.frm F13 fun j e => W2.t j e
    have F03 : Frm h0 h3 (fun _ => False) := ⟨F13.ng.trans F01.ng, Nat.le_trans F01.next F13.next, fun j hj e => (F13.same j (Nat.lt_of_lt_of_le hj F01.next) (fun e2 => by have := (W2.n j e2).1; omega)).trans (F01.same j hj e), fun hf => F13.fr (F01.fr hf)⟩
    have hgT : ¬ rowOf x2 = some gT := fun e => by
      have h1 := (W2.n _ e).1
      exact absurd h1 (by have := S.g; omega)
    refine ⟨h3, ⟨fr.1.wd, fr.1.b, grown fr.1.nd 0 (max want.length (a + m)) 0, fr.1.bl⟩, wroteL want a (l.take m), x2, ?_, ⟨A3, M1, r2, by rw [hwl]; exact (grown_sz : grown fr.1.nd 0 _ 0 0 5 = _), by rw [hwl]; omega, fun c hc => grown_one (by rw [low c hc]; exact S.one c hc), hb3, W3, Tt1.fr F13 Ot1.g hgT, Ot1.mono F13.next, t0, F03, S.g⟩⟩
    have d0 : decide ((m : Int) = 0) = false := decide_eq_false (by omega)
    have d1 : decide ((m : Int) ≠ (m : Int)) = false := by simp
    have d2 : decide ((0 : Int) ≠ 0) = false := rfl
    simp only [ob_some, b2_some, bc_ret, bcn_ret, gd_tt, gd_ff, gd_tf, gd_ft, ypk_true, ypk_false, yIf_true, yIf_false, semNil_ptr, fa_ptr, ld1_ptr, ext_tup, fd1_agg, un_not, bin_add, bin_sub, bin_mul, bin_eql, bin_neq, bin_lss, bin_leq, bin_gtr, bin_geq, Nat.zero_add, Nat.mul_one, c0, c1, e1, List.getElem?_cons_zero, List.getElem?_cons_succ]
    unfold q9_95 q9_94
    simp only [ob_some, b2_some, bc_ret, bcn_ret, gd_tt, gd_ff, gd_tf, gd_ft, ypk_true, ypk_false, yIf_true, yIf_false, semNil_ptr, fa_ptr, ld1_ptr, ext_tup, fd1_agg, un_not, bin_add, bin_sub, bin_mul, bin_eql, bin_neq, bin_lss, bin_leq, bin_gtr, bin_geq, Nat.zero_add, Nat.mul_one, d0]
    unfold q9_91 q9_90
    simp only [ob_some, b2_some, bc_ret, bcn_ret, gd_tt, gd_ff, gd_tf, gd_ft, ypk_true, ypk_false, yIf_true, yIf_false, semNil_ptr, fa_ptr, ld1_ptr, ext_tup, fd1_agg, un_not, bin_add, bin_sub, bin_mul, bin_eql, bin_neq, bin_lss, bin_leq, bin_gtr, bin_geq, Nat.zero_add, Nat.mul_one, d1, Nm', d2]
    unfold q9_79
    exact g1.trans g2
end
end Go.Proofs.YtomialandfplkaaDoor.Eva
namespace Go.Proofs.YtomialandfplkaaDoor.Eva
open Go.Xe
set_option linter.unusedSimpArgs false
structure PcR where
  at_ : Int
  tx : SV
  l : List Nat
  cut : Bool
def PcR.cells (a : PcR) : List SV := [.int .i64 a.at_, a.tx, .bool a.cut]
structure PcR.Ok (h : HW) (a : PcR) : Prop where
  a1 : -9223372036854775808 ≤ a.at_
  a2 : a.at_ < 9223372036854775808
  b : Bytes h a.tx a.l
  c : CapOK a.tx
  l : a.l.length ≤ 140737488351232
  z : ∀ j, rowOf a.tx = some j → j < h.next
def PcsAt (h : HW) (x : SV) (L : List PcR) : Prop := (Emp x ∧ L = []) ∨ ∃ ka oa cap lo m, x = .sl ka oa L.length cap lo ∧ h.mt ka = some m ∧ ka < h.next ∧
  ∀ t (ht : t < L.length), (∀ c, c < 3 → h.cell ka (oa + t * 3 + c) = L[t].cells[c]?) ∧ L[t].Ok h
theorem PcsAt.len {h : HW} {x : SV} {L : List PcR} (A : PcsAt h x L) : lenE Tryd.prog 72 x = some (.int .i64 (L.length : Int)) := by
  rcases A with ⟨rfl | ⟨_, rfl⟩, rfl⟩ | ⟨ka, oa, cap, lo, m, rfl, _⟩
  · simp [lenE, Tryd.underlying72, forceI_eq]
  · simp [lenE, Tryd.underlying72, forceI_eq]
  · exact lenE_sl Tryd.underlying72
section
variable {lf : Nat} {h h0 : HW} {T : TN} {s : S4} {want : List Nat} {x : SV}
theorem wst_keep {h1 : HW} (S : WSt h0 h T s want x) (F : Frm h h1 (fun _ => False)) : WSt h0 h1 T s want x :=
  wst_next S.t0 S.A S.M S.O S.sz S.le S.one S.by' S.F S.Tt S.Ot F (S.W.frm F fun _ _ e => e) S.g
theorem q163_no {C : YC} {n : K7} {r : K1} {e1 : K6} {x3 x5 x6 x8 x35 x36 x37 : O} : q9_163 C lf n r e1 x3 x5 x6 x8 x35 x36 x37 (some (.bool false)) h = n x3 x5 x6 x8 x35 x36 x37 h := by
  unfold q9_163 q9_161
  simp only [ob_some, yIf_false]
theorem q163_yes {C : YC} {n : K7} {r : K1} {e1 : K6} {x3 x5 x6 x8 x35 x36 x37 : O} : q9_163 C lf n r e1 x3 x5 x6 x8 x35 x36 x37 (some (.bool true)) h = q9_160 C lf r e1 x3 x5 x6 x8 x35 x36 x37 h := by
  unfold q9_163
  simp only [ob_some, yIf_true]
theorem piece_round {C : YC} (Tr : TruncOK C) (Wr : TWriteOK C) (Nm : NumOK C) (S : WSt h0 h T s want x) {a : PcR} (ok : a.Ok h0) {ka oa len : Nat} {cap : Option Nat} {lo t : Nat} {m : Mt} (ht : t < len) (hlen : len ≤ 140737488355328) (hm : h0.mt ka = some m) (hka : ka < h0.next)
    (hc : ∀ c, c < 3 → h0.cell ka (oa + t * 3 + c) = a.cells[c]?) (r : K1) (n : K6) :
    ∃ h' s' want' x', q9_192 C lf n r (some (.ptr T.kt 0)) (some (.int .i64 ((0 + 1 : Nat) : Int))) (some x) (some (.sl ka oa len cap lo)) (some (.int .i64 (len : Int))) (some (.int .i64 (t : Int))) h =
        n (some (.ptr T.kt 0)) (some (.int .i64 ((0 + 1 : Nat) : Int))) (some x') (some (.sl ka oa len cap lo)) (some (.int .i64 (len : Int))) (some (.int .i64 ((t + 1 : Nat) : Int))) h' ∧ WSt h0 h' T s' want' x' := by
  have hinc : IntKind.i64.wrap ((t : Int) + 1) = ((t + 1 : Nat) : Int) := by rw [wrap_i64 (by omega) (by omega)]; omega
  have hix := ixS_sl (s := 3) (k := ka) (off := oa) (len := len) (lo := lo) (cap := cap) (kd := .i64) (i := (t : Int)) (by omega) (by omega)
  rw [Int.toNat_natCast] at hix
  have sk := S.F.same ka hka (fun e => e)
  have hld : ldN 3 (.ptr ka (oa + t * 3)) h = some (.agg a.cells) := by
    rw [ldN_ptr (m := m) (by rw [sk.mt]; exact hm), cells_of (n := 3) (ys := a.cells) rfl fun i hi => by rw [sk.cell]; exact hc i hi]
    rfl
  obtain ⟨z, hz, hzl⟩ : ∃ z, tyZero Tryd.prog 74 = some z ∧ (mkV z).cells.length = 3 := zero_of (by kernel_rfl)
  have al := yAl_eq (P := Tryd.prog) (e := 74) (h := h) hz
  generalize ho : rowOb 74 (mkV z).cells = o at *
  have w1 : (h.new o).wr h.next 3 := by
    have := wr_new (h := h) (o := o) (by rw [← ho]; rfl)
    rw [show o.n = 3 by rw [← ho]; exact hzl] at this
    exact this
  have one : allOne a.cells = true := by
    unfold PcR.cells
    rcases ok.b.2 with ⟨e | ⟨_, e⟩, _⟩ | ⟨_, _, _, _, _, e, _⟩ <;> rw [e] <;> rfl
  have st1 := st_ptr (n := 3) (off := 0) (y := .agg a.cells) w1 rfl (by omega) one
  have hcy : (SV.agg a.cells).cells = a.cells := rfl
  rw [hcy] at st1
  have F1 : Frm h ((h.new o).set h.next 0 a.cells) (fun _ => False) := (Frm.new h o _).old (frm_set rfl) (Nat.le_refl _)
  have n1 : ((h.new o).set h.next 0 a.cells).next = h.next + 1 := by simp
  have wg : ((h.new o).set h.next 0 a.cells).wr h.next 3 := wr_set w1
  have cg : ∀ j, j < 3 → ((h.new o).set h.next 0 a.cells).cell h.next j = a.cells[j]? := fun j hj => by
    rw [cell_set_same w1 (show 0 + a.cells.length ≤ 3 from Nat.le_refl 3) (Nat.zero_le _) (show j < 0 + a.cells.length by show j < 0 + 3; omega), Nat.sub_zero]
  generalize hg1 : (h.new o).set h.next 0 a.cells = g1 at *
  have S1 := wst_keep S F1
  have d0 : g1.cell h.next 0 = some (.int .i64 a.at_) := cg 0 (by omega)
  have d1 : g1.cell h.next 1 = some a.tx := cg 1 (by omega)
  have d2 : g1.cell h.next 2 = some (.bool a.cut) := cg 2 (by omega)
  have hpt : h.next ≠ T.ks ∧ h.next ≠ T.kd ∧ h.next ≠ T.kn := by
    have := S.Ot.t; have := S.Ot.s; have := S.Ot.d; have := S.Ot.n
    omega
  have hmg : ∃ m, g1.mt h.next = some m := by obtain ⟨m, e, _⟩ := wg; exact ⟨m, e⟩
  have pre : q9_192 C lf n r (some (.ptr T.kt 0)) (some (.int .i64 ((0 + 1 : Nat) : Int))) (some x) (some (.sl ka oa len cap lo)) (some (.int .i64 (len : Int))) (some (.int .i64 (t : Int))) h =
      q9_183 C lf (fun x3 x5 x6 x35 x36 x37 h => q9_45 C lf n x3 x5 x6 x35 x36 x37 h) r (fun x3 x5 x6 x35 x36 x37 h => q9_45 C lf n x3 x5 x6 x35 x36 x37 h) (some (.ptr T.kt 0)) (some (.int .i64 ((0 + 1 : Nat) : Int))) (some x) (some (.ptr h.next 0)) (some (.sl ka oa len cap lo)) (some (.int .i64 (len : Int))) (some (.int .i64 (t : Int))) g1 := by
    unfold q9_192 q9_191 q9_190
    simp only [ob_some, b2_some, bc_ret, bcn_ret, gd_tt, gd_ff, gd_tf, gd_ft, ypk_true, ypk_false, yIf_true, yIf_false, semNil_ptr, fa_ptr, ld1_ptr, ext_tup, fd1_agg, un_not, bin_add, bin_sub, bin_mul, bin_eql, bin_neq, bin_lss, bin_leq, bin_gtr, bin_geq, Nat.zero_add, Nat.mul_one, hix, hld, al, st1]
  have fin : ∀ x' g, q9_45 C lf n (some (.ptr T.kt 0)) (some (.int .i64 ((0 + 1 : Nat) : Int))) x' (some (.sl ka oa len cap lo)) (some (.int .i64 (len : Int))) (some (.int .i64 (t : Int))) g =
      n (some (.ptr T.kt 0)) (some (.int .i64 ((0 + 1 : Nat) : Int))) x' (some (.sl ka oa len cap lo)) (some (.int .i64 (len : Int))) (some (.int .i64 ((t + 1 : Nat) : Int))) g := fun x' g => by
    unfold q9_45
    simp only [ob_some, b2_some, bc_ret, bcn_ret, gd_tt, gd_ff, gd_tf, gd_ft, ypk_true, ypk_false, yIf_true, yIf_false, semNil_ptr, fa_ptr, ld1_ptr, ext_tup, fd1_agg, un_not, bin_add, bin_sub, bin_mul, bin_eql, bin_neq, bin_lss, bin_leq, bin_gtr, bin_geq, Nat.zero_add, Nat.mul_one, hinc]
  rw [pre]
  unfold q9_183 q9_182
  by_cases b1 : a.at_ < 0
  · refine ⟨g1, s, want, x, ?_, S1⟩
    simp only [ob_some, b2_some, bc_ret, bcn_ret, gd_tt, gd_ff, gd_tf, gd_ft, ypk_true, ypk_false, yIf_true, yIf_false, semNil_ptr, fa_ptr, ld1_ptr, ext_tup, fd1_agg, un_not, bin_add, bin_sub, bin_mul, bin_eql, bin_neq, bin_lss, bin_leq, bin_gtr, bin_geq, Nat.zero_add, Nat.mul_one, d0, decide_eq_true b1, gd_un]
    exact fin _ _
  by_cases b2 : 17792 < a.at_
  · refine ⟨g1, s, want, x, ?_, S1⟩
    simp only [ob_some, b2_some, bc_ret, bcn_ret, gd_tt, gd_ff, gd_tf, gd_ft, ypk_true, ypk_false, yIf_true, yIf_false, semNil_ptr, fa_ptr, ld1_ptr, ext_tup, fd1_agg, un_not, bin_add, bin_sub, bin_mul, bin_eql, bin_neq, bin_lss, bin_leq, bin_gtr, bin_geq, Nat.zero_add, Nat.mul_one, d0, decide_eq_false b1, decide_eq_true b2, gd_un]
    exact fin _ _
  obtain ⟨p, hp⟩ : ∃ p : Nat, a.at_ = p := ⟨a.at_.toNat, by omega⟩
  rw [hp] at d0 b1 b2
  simp only [ob_some, b2_some, bc_ret, bcn_ret, gd_tt, gd_ff, gd_tf, gd_ft, ypk_true, ypk_false, yIf_true, yIf_false, semNil_ptr, fa_ptr, ld1_ptr, ext_tup, fd1_agg, un_not, bin_add, bin_sub, bin_mul, bin_eql, bin_neq, bin_lss, bin_leq, bin_gtr, bin_geq, Nat.zero_add, Nat.mul_one, d0, decide_eq_false b1, decide_eq_false b2]
  unfold q9_169 q9_168 q9_167
  simp only [ob_some, b2_some, bc_ret, bcn_ret, gd_tt, gd_ff, gd_tf, gd_ft, ypk_true, ypk_false, yIf_true, yIf_false, semNil_ptr, fa_ptr, ld1_ptr, ext_tup, fd1_agg, un_not, bin_add, bin_sub, bin_mul, bin_eql, bin_neq, bin_lss, bin_leq, bin_gtr, bin_geq, Nat.zero_add, Nat.mul_one, d2]
  simp only [Nat.zero_add] at fin
  cases hcut : a.cut with
  | true =>
    obtain ⟨h', s', x', r1, r2⟩ := cut_round (lf := lf) (x35 := some (.sl ka oa len cap lo)) (x36 := some (.int .i64 (len : Int))) (x37 := some (.int .i64 (t : Int))) Tr Nm S1 (by omega) hpt hmg d0 (by omega) r (fun x3 x5 x6 x35 x36 x37 h => q9_45 C lf n x3 x5 x6 x35 x36 x37 h)
    refine ⟨h', s', _, x', ?_, r2⟩
    simp only [Nat.zero_add] at r1
    rw [q163_yes]
    exact r1.trans (fin _ _)
  | false =>
    obtain ⟨h', s', want', x', r1, r2⟩ := write_round (lf := lf) (x35 := some (.sl ka oa len cap lo)) (x36 := some (.int .i64 (len : Int))) (x37 := some (.int .i64 (t : Int))) Wr Nm S1 (by omega) hpt hmg d0 d1 (by omega) ok.b ok.c ok.z ok.l r (fun x3 x5 x6 x35 x36 x37 h => q9_45 C lf n x3 x5 x6 x35 x36 x37 h)
    refine ⟨h', s', want', x', ?_, r2⟩
    simp only [Nat.zero_add] at r1
    rw [q163_no]
    exact r1.trans (fin _ _)
theorem piece_loop {C : YC} (Tr : TruncOK C) (Wr : TWriteOK C) (Nm : NumOK C) {xL : SV} {L : List PcR} (P : PcsAt h0 xL L) (hL : L.length ≤ 140737488355328) (r : K1) (e0 : K3) : ∀ (d t : Nat), t + d = L.length → ∀ f, d < f → ∀ h s want x, WSt h0 h T s want x →
    ∃ h' s' want' x', lp (l9_42 C lf r e0) f (some (.ptr T.kt 0), some (.int .i64 ((0 + 1 : Nat) : Int)), some x, some xL, some (.int .i64 (L.length : Int)), some (.int .i64 (t : Int))) h = e0 (some (.ptr T.kt 0)) (some (.int .i64 ((0 + 1 : Nat) : Int))) (some x') h' ∧ WSt h0 h' T s' want' x'
  | 0, t, hd, f, hf, h, s, want, x, S => by
    obtain ⟨f, rfl⟩ : ∃ g, f = g + 1 := ⟨f - 1, by omega⟩
    have e : t = L.length := by omega
    subst e
    refine ⟨h, s, want, x, ?_, S⟩
    rw [lp_succ]
    unfold l9_42 q9_200 q9_199 q9_195 q9_194
    have hlt : decide ((L.length : Int) < (L.length : Int)) = false := by simp
    simp only [ob_some, b2_some, bc_ret, bcn_ret, gd_tt, gd_ff, gd_tf, gd_ft, ypk_true, ypk_false, yIf_true, yIf_false, semNil_ptr, fa_ptr, ld1_ptr, ext_tup, fd1_agg, un_not, bin_add, bin_sub, bin_mul, bin_eql, bin_neq, bin_lss, bin_leq, bin_gtr, bin_geq, Nat.zero_add, Nat.mul_one, hlt]
  | d + 1, t, hd, f, hf, h, s, want, x, S => by
    obtain ⟨f, rfl⟩ : ∃ g, f = g + 1 := ⟨f - 1, by omega⟩
    have ht : t < L.length := by omega
    have hlt : decide ((t : Int) < (L.length : Int)) = true := decide_eq_true (by omega)
    have P' := P
    rcases P' with ⟨_, e⟩ | ⟨ka, oa, cap, lo, m, rfl, hm, hka, hall⟩
    · rw [e] at ht; simp at ht
    obtain ⟨hc, ok⟩ := hall t ht
    obtain ⟨h1, s1, w1, x1, r1, S1⟩ := piece_round (lf := lf) (len := L.length) (cap := cap) (lo := lo) Tr Wr Nm S ok ht hL hm hka hc r (fun x3 x5 x6 x35 x36 x37 h => lp (l9_42 C lf r e0) f (x3, x5, x6, x35, x36, x37) h)
    obtain ⟨h', s', want', x', r2, S2⟩ := piece_loop Tr Wr Nm P hL r e0 d (t + 1) (by omega) f (by omega) h1 s1 w1 x1 S1
    refine ⟨h', s', want', x', ?_, S2⟩
    rw [lp_succ]
    show q9_200 C lf (fun x3 x5 x6 x35 x36 x37 h => lp (l9_42 C lf r e0) f (x3, x5, x6, x35, x36, x37) h) r e0 (some (.ptr T.kt 0)) (some (.int .i64 ((0 + 1 : Nat) : Int))) (some x) (some (.sl ka oa L.length cap lo)) (some (.int .i64 (L.length : Int))) (some (.int .i64 (t : Int))) h = _
    unfold q9_200 q9_199 q9_195 q9_194
    simp only [ob_some, b2_some, bc_ret, bcn_ret, gd_tt, gd_ff, gd_tf, gd_ft, ypk_true, ypk_false, yIf_true, yIf_false, semNil_ptr, fa_ptr, ld1_ptr, ext_tup, fd1_agg, un_not, bin_add, bin_sub, bin_mul, bin_eql, bin_neq, bin_lss, bin_leq, bin_gtr, bin_geq, Nat.zero_add, Nat.mul_one, hlt]
    exact r1.trans r2
def SameTOK (C : YC) : Prop := ∀ h x y l l', Bytes h x l → Bytes h y l' → C (.fn 43) [x, y] h = some (.ret (.bool (decide (l = l'))), h)
theorem sameT_ok {C : YC} {x y : SV} {l l' : List Nat} (B : Bytes h x l) (B' : Bytes h y l') : fs43 C lf x y h = some (.ret (.bool (decide (l = l'))), h) := by
  have e1 := ycv_bytes (P := Tryd.prog) (s := 24) (d := 9) Tryd.underlying24 Tryd.underlying9 (by kernel_rfl) B
  have e2 := ycv_bytes (P := Tryd.prog) (s := 24) (d := 9) Tryd.underlying24 Tryd.underlying9 (by kernel_rfl) B'
  have e3 : decide (u8str l = u8str l') = decide (l = l') := by
    have := u8str_inj B.1 B'.1
    by_cases e : l = l'
    · simp [e]
    · simp [e, this]
  unfold fs43 q43_6 ff43
  simp only [ob_some, b2_some, e1, e2, bin_eql_str, e3]
end
end Go.Proofs.YtomialandfplkaaDoor.Eva
namespace Go.Proofs.YtomialandfplkaaDoor.Eva
open Go.Xe
set_option linter.unusedSimpArgs false
section
variable {lf : Nat} {h h0 : HW} {T : TN} {s : S4} {want : List Nat} {x : SV}
theorem contL_want (S : WSt h0 h T s want x) : contL s 0 0 want.length = want := by
  apply List.ext_getElem
  · rw [contL_length]
  · intro j h1 h2
    have e := S.by' j (by have := S.le; omega)
    simp only [contL, List.getElem_map, List.getElem_range, Nat.zero_add]
    rw [e]
    simp [List.getD, h2]
theorem bytes_end {C : YC} (Rd : TReadOK C) (St : StatOK C) (Nm : NumOK C) (Sa : SameTOK C) (hLv : ∀ h, Frm h0 h (fun _ => False) → C (.fn 35) [] h = some (.ret (.bool true), h)) (S : WSt h0 h T s want x) :
    ∃ h', q9_41 C lf ff9 (some (.ptr T.kt 0)) (some (.int .i64 ((0 + 1 : Nat) : Int))) (some x) h = some (.ret (.bool true), h') := by
  have Nm' : ∀ h (e : Int), C (.fn 34) [.int .i64 e] h = some (.ret (.int .i64 e), h) := Nm
  have hle := S.le
  obtain ⟨y, h1, c1, F1, B1, hy⟩ : ∃ y h1, C (.fn 41) [.ptr T.kt 0, .int .i64 ((0 + 1 : Nat) : Int), .int .i64 0, .int .i64 17793] h = some (.ret (.tup [y, .int .i64 0]), h1) ∧ Frm h h1 (fun _ => False) ∧ Bytes h1 y want ∧ (∀ j, rowOf y = some j → j < h1.next) := by
    have r := Rd h T 1000 1 0 us1 s 0 0 17793 want.length S.A S.M (by omega) rfl S.sz S.le (by omega) (by omega) (by omega) (by omega)
    by_cases hz : want.length = 0
    · have e : want = [] := List.eq_nil_of_length_eq_zero hz
      exact ⟨_, h, r.2.1 (by omega) (by omega) (by omega), Frm.refl _ _, by rw [e]; exact ⟨by simp, .inl ⟨.inl rfl, rfl⟩⟩, fun j hj => by cases hj⟩
    · obtain ⟨h1, e1, e2, e4, _, e3⟩ := r.2.2 (by omega) (by omega) (by omega)
      have em : min (17793 : Int).toNat (want.length - (0 : Int).toNat) = want.length := by
        have e1 : (17793 : Int).toNat = 17793 := rfl
        have e2 : (0 : Int).toNat = 0 := rfl
        rw [e1, e2]; omega
      rw [em] at e1 e3
      have e0 : (0 : Int).toNat = 0 := rfl
      rw [e0, contL_want S] at e3
      exact ⟨_, h1, e1, e2, e3, fun j hj => by cases hj; exact e4⟩
  have S1 := wst_keep S F1
  obtain ⟨h2, c2, F2⟩ := St h1 T 1000 1 s.wd s.b 0 us1 s.nd s.bl 0 S1.A S1.M (by omega) rfl S1.one
  generalize hk : (ownL s.bl 0).length = k at *
  have hsl : (statL s.nd 0 k).length = 10 := by simp [statL]
  obtain ⟨z, hz, hzl⟩ : ∃ z, tyZero Tryd.prog 78 = some z ∧ (mkV z).cells.length = 10 := zero_of (by kernel_rfl)
  have al := yAl_eq (P := Tryd.prog) (e := 78) (h := h2) hz
  generalize hob : rowOb 78 (mkV z).cells = ob at *
  have w2 : (h2.new ob).wr h2.next 10 := by
    have := wr_new (h := h2) (o := ob) (by rw [← hob]; rfl)
    rw [show ob.n = 10 by rw [← hob]; exact hzl] at this
    exact this
  have hall : allOne (statL s.nd 0 k) = true := allOne_of fun j hj => by
    have := List.mem_range.1 hj
    split
    · rfl
    · exact S.one _ (by omega)
  have st3 := st_ptr (n := 10) (off := 0) (y := .agg (statL s.nd 0 k)) w2 hsl (by omega) hall
  have hcc : (SV.agg (statL s.nd 0 k)).cells = statL s.nd 0 k := rfl
  rw [hcc] at st3
  have F3 : Frm h2 ((h2.new ob).set h2.next 0 (statL s.nd 0 k)) (fun _ => False) := (Frm.new h2 ob _).old (frm_set rfl) (Nat.le_refl _)
  have c4 : ((h2.new ob).set h2.next 0 (statL s.nd 0 k)).cell h2.next 4 = some (.int .i64 (want.length : Int)) := by
    rw [cell_set_same w2 (by omega) (Nat.zero_le _) (by omega), Nat.sub_zero]
    have : (statL s.nd 0 k)[4]? = some (s.nd 0 5) := by simp [statL]
    rw [this, S.sz]
  generalize hg : (h2.new ob).set h2.next 0 (statL s.nd 0 k) = g at *
  have F2g := F2.trans F3
  have S3 := wst_keep S1 F2g
  have B3 : Bytes g y want := B1.frame fun kb ob len cap lo e => F2g.same kb (hy kb (by rw [e]; rfl)) (fun e => e)
  have hlenw := len_bytes (P := Tryd.prog) Tryd.underlying24 S3.W.b
  have hsame := Sa g y x want want B3 S3.W.b
  rw [decide_eq_true (rfl : want = want)] at hsame
  have hl := hLv g S3.F
  refine ⟨g, ?_⟩
  unfold q9_41 ff9
  simp only [ob_some, b2_some, bc_ret, bcn_ret, gd_tt, gd_ff, gd_tf, gd_ft, ypk_true, ypk_false, yIf_true, yIf_false, semNil_ptr, fa_ptr, ld1_ptr, ext_tup, fd1_agg, un_not, bin_add, bin_sub, bin_mul, bin_eql, bin_neq, bin_lss, bin_leq, bin_gtr, bin_geq, Nat.zero_add, Nat.mul_one, c1, c2, List.getElem?_cons_zero, List.getElem?_cons_succ, al, st3, Nm', decide_true, c4, hlenw, hsame, hl]
theorem own_s1 : Own 1 s1 := fun j hj => by
  have : onB (fun _ => 0) j = false := by unfold onB; simp
  have hj : onB (fun _ => 0) j = true := hj
  rw [this] at hj
  cases hj
theorem bytes_main {C : YC} {h0 : HW} (hlf : 140737488355329 ≤ lf) (hgn : gT < h0.next) (Tt : TabAt h0) (Nw : NewTOK C) (Al : AllocTOK C) (Nm : NumOK C) (Wr : TWriteOK C) (Tr : TruncOK C) (Rd : TReadOK C) (Sx : StatOK C) (Sa : SameTOK C) (hLv : ∀ h, Frm h0 h (fun _ => False) → C (.fn 35) [] h = some (.ret (.bool true), h))
    {x : SV} {L : List PcR} (P : PcsAt h0 x L) (hL : L.length ≤ 140737488355328) : ∃ h', fs9 C lf x h0 = some (.ret (.bool true), h') := by
  have Nm' : ∀ h (e : Int), C (.fn 34) [.int .i64 e] h = some (.ret (.int .i64 e), h) := Nm
  obtain ⟨h1, e1, k1, T1, F1⟩ := (Nw h0 1000 1 (by omega) (by omega) (by omega) (by omega)).2 (by omega) (by omega) (by omega) (by omega)
  rw [show (1000 : Int).toNat = 1000 from rfl, show (1 : Int).toNat = 1 from rfl] at T1
  generalize hT : (⟨h0.next + 3, h0.next + 1, h0.next, h0.next + 2⟩ : TN) = T at *
  have hTt : T.kt = h0.next + 3 := by rw [← hT]
  obtain ⟨h2, e2, T2, k2, F2⟩ := (Al h1 T 1000 1 _ _ 0 _ _ 33152 0 0 T1).2.2 good1 0 (by omega) rfl (fun j hj => by omega)
  have hTn : T.kn = h0.next + 2 := by rw [← hT]
  have hTs : T.ks = h0.next + 1 := by rw [← hT]
  have hTd : T.kd = h0.next := by rw [← hT]
  have F02 : Frm h0 h2 (fun _ => False) := ⟨F2.ng.trans F1.ng, Nat.le_trans F1.next F2.next, fun j hj e => (F2.same j (by omega) (fun e => by omega)).trans (F1.same j hj e), fun hf => F2.fr (F1.fr hf)⟩
  have O2 : OldT h2 T := by rw [← hT]; exact oldT_new (by omega) hgn
  have T2' : TableAt h2 T 1000 1 s1.wd s1.b 0 us1 s1.nd := T2
  have S2 : WSt h0 h2 T s1 [] (.val (.slice none 0 0)) := by
    refine ⟨T2', map1 1000, own_s1, rfl, Nat.zero_le _, fun c hc => ?_, fun p _ => ?_, ⟨⟨fun c hc => (List.not_mem_nil hc).elim, .inl ⟨.inl rfl, rfl⟩⟩, trivial, .inl rfl, fun j hj => (by cases hj), fun j hj => (by cases hj)⟩, Tt.fr F02 hgn (fun e => e), O2, by omega, F02, hgn⟩
    · match c, hc with
      | 0, _ => rfl
      | 1, _ => rfl
      | 2, _ => rfl
      | 3, _ => rfl
      | 4, _ => rfl
      | 5, _ => rfl
      | 6, _ => rfl
      | 7, _ => rfl
      | 8, _ => rfl
      | 9, _ => rfl
      | 10, _ => rfl
      | 11, _ => rfl
    · have e : byteAt s1 0 p = 0 := if_pos rfl
      rw [e]; rfl
  obtain ⟨h3, s3, w3, x3, r3, S3⟩ := piece_loop (lf := lf) (T := T) Tr Wr Nm P hL ff9 (fun x3 x5 x6 h => q9_41 C lf ff9 x3 x5 x6 h) L.length 0 (by omega) lf (by omega) h2 s1 [] _ S2
  obtain ⟨h4, r4⟩ := bytes_end (lf := lf) Rd Sx Nm Sa hLv S3
  refine ⟨h4, ?_⟩
  have hp := eql_ptr_nil (k := T.kt) (off := 0) Tryd.underlying64
  have hne : decide ((0 : Int) ≠ 0) = false := rfl
  have e1' : C (.fn 36) [.int .i64 1000, .int .i64 1] h0 = some (.ret (.tup [.ptr T.kt 0, .int .i64 0]), h1) := by rw [hTt]; exact e1
  have hlen := P.len
  unfold fs9 q9_235 q9_234 q9_233 q9_232
  simp only [ob_some, b2_some, bc_ret, bcn_ret, gd_tt, gd_ff, gd_tf, gd_ft, ypk_true, ypk_false, yIf_true, yIf_false, semNil_ptr, fa_ptr, ld1_ptr, ext_tup, fd1_agg, un_not, bin_add, bin_sub, bin_mul, bin_eql, bin_neq, bin_lss, bin_leq, bin_gtr, bin_geq, Nat.zero_add, Nat.mul_one, e1', List.getElem?_cons_zero, List.getElem?_cons_succ]
  unfold q9_228 q9_227
  simp only [ob_some, b2_some, bc_ret, bcn_ret, gd_tt, gd_ff, gd_tf, gd_ft, ypk_true, ypk_false, yIf_true, yIf_false, semNil_ptr, fa_ptr, ld1_ptr, ext_tup, fd1_agg, un_not, bin_add, bin_sub, bin_mul, bin_eql, bin_neq, bin_lss, bin_leq, bin_gtr, bin_geq, Nat.zero_add, Nat.mul_one, Nm', hne, hp]
  unfold q9_218 q9_217
  simp only [ob_some, bc_ret, ext_tup, e2, List.getElem?_cons_zero, List.getElem?_cons_succ]
  unfold q9_212 q9_211
  simp only [ob_some, bc_ret, bin_neq, yIf_false, Nm', hne]
  unfold q9_207 q9_206 q9_205 q9_204 q9_203
  simp only [ob_some, hlen]
  have z0 : ((0 : Nat) : Int) = 0 := rfl
  rw [z0] at r3
  exact r3.trans r4
end
end Go.Proofs.YtomialandfplkaaDoor.Eva
namespace Go.Proofs.YtomialandfplkaaDoor.Eva
open Go.Xe
set_option maxRecDepth 100000
set_option linter.unusedVariables false
noncomputable def fx35 : XF Tryd.prog := ⟨35, Tryd.f35, fun _ => .text, Tryd.func35, by kernel_rfl, by kernel_rfl, by kernel_rfl, by kernel_rfl⟩
noncomputable def ff35 (x0 : O) (h : HW) : Rs :=
 ob x0 fun a0 =>
 some (.ret a0, h)
noncomputable def q35_51 (C : YC) (lf : Nat) (r : K1) (h : HW) : Rs :=
 bc (C (.fn 36) [(.int .i64 4), (.int .i64 2)] h) fun y1 h1 =>
 ob (ext 0 y1) fun y2 =>
 ob (ext 1 y1) fun y3 =>
 ob (bin Tryd.prog .eql 64 y2 (.val (.pointer none))) fun y4 =>
 bc (gd false (some y4) (some (.ret y3, h1)) h1) fun y5 h5 =>
 bc (gd false (some y4) (bc (C (.fn 34) [y5] h5) fun y6 h6 =>
 some (.ret y6, h6)) h5) fun y7 h7 =>
 bc (gd false (some y4) (ob (bin Tryd.prog .neq 3 y7 (.int .i64 0)) fun y8 =>
 some (.ret y8, h7)) h7) fun y9 h9 =>
 ob (ypk y4 (.bool true) y9) fun y10 =>
 yIf y10
 (r (some (.bool false)) h9)
 (bc (C (.fn 37) [y2, (.int .i64 33188), (.int .i64 0), (.int .i64 0)] h9) fun y11 h11 =>
 ob (ext 0 y11) fun y12 =>
 ob (ext 1 y11) fun y13 =>
 b2 (ybs Tryd.prog 24 2 [0, 1] [(.int .u8 97), (.int .u8 98)] h11) fun y14 h14 =>
 b2 (ycv Tryd.prog 24 24 y14 h14) fun y15 h15 =>
 bc (C (.fn 38) [y2, y12, (.int .i64 100), y15] h15) fun y16 h16 =>
 ob (ext 0 y16) fun y17 =>
 ob (ext 1 y16) fun y18 =>
 bc (C (.fn 41) [y2, y12, (.int .i64 98), (.int .i64 10)] h16) fun y19 h19 =>
 ob (ext 0 y19) fun y20 =>
 ob (ext 1 y19) fun y21 =>
 ob (bin Tryd.prog .eql 3 y12 (.int .i64 1)) fun y22 =>
 bc (gd true (some y22) (some (.ret y13, h19)) h19) fun y23 h23 =>
 bc (gd true (some y22) (bc (C (.fn 34) [y23] h23) fun y24 h24 =>
 some (.ret y24, h24)) h23) fun y25 h25 =>
 bc (gd true (some y22) (ob (bin Tryd.prog .eql 3 y25 (.int .i64 0)) fun y26 =>
 some (.ret y26, h25)) h25) fun y27 h27 =>
 ob (ypk y22 y27 (.bool false)) fun y28 =>
 bc (gd true (some y28) (some (.ret y17, h27)) h27) fun y29 h29 =>
 bc (gd true (some y28) (ob (bin Tryd.prog .eql 3 y29 (.int .i64 2)) fun y30 =>
 some (.ret y30, h29)) h29) fun y31 h31 =>
 ob (ypk y28 y31 (.bool false)) fun y32 =>
 bc (gd true (some y32) (some (.ret y18, h31)) h31) fun y33 h33 =>
 bc (gd true (some y32) (bc (C (.fn 34) [y33] h33) fun y34 h34 =>
 some (.ret y34, h34)) h33) fun y35 h35 =>
 bc (gd true (some y32) (ob (bin Tryd.prog .eql 3 y35 (.int .i64 0)) fun y36 =>
 some (.ret y36, h35)) h35) fun y37 h37 =>
 ob (ypk y32 y37 (.bool false)) fun y38 =>
 bc (gd true (some y38) (some (.ret y21, h37)) h37) fun y39 h39 =>
 bc (gd true (some y38) (bc (C (.fn 34) [y39] h39) fun y40 h40 =>
 some (.ret y40, h40)) h39) fun y41 h41 =>
 bc (gd true (some y38) (ob (bin Tryd.prog .eql 3 y41 (.int .i64 0)) fun y42 =>
 some (.ret y42, h41)) h41) fun y43 h43 =>
 ob (ypk y38 y43 (.bool false)) fun y44 =>
 bc (gd true (some y44) (some (.ret y20, h43)) h43) fun y45 h45 =>
 bc (gd true (some y44) (b2 (ycv Tryd.prog 24 9 y45 h45) fun y46 h46 =>
 some (.ret y46, h46)) h45) fun y47 h47 =>
 bc (gd true (some y44) (ob (bin Tryd.prog .eql 9 y47 (.str (bs [0, 0, 97, 98]))) fun y48 =>
 some (.ret y48, h47)) h47) fun y49 h49 =>
 ob (ypk y44 y49 (.bool false)) fun y50 =>
 r (some y50) h49)
theorem q35_51_eq (C : YC) (lf : Nat) (r : K1) (KN : KF) (KE : KX) : ∀ F h, evX fx35 C lf [] F h KN (fun F h => r (F 0) h) KE = q35_51 C lf r h := by
  intro F h; kernel_rfl
noncomputable def fs35 (C : YC) (lf : Nat) (h : HW) : Rs := q35_51 C lf ff35 h
theorem fs35_eq (C : YC) (lf : Nat) (h : HW) : yFn Tryd.prog fx35 C lf [] h = fs35 C lf h := fnX (K := (fun F h => ff35 (F 0) h)) (by kernel_rfl) (((q35_51_eq C lf ff35 (fun F h => ff35 (F 0) h) (fun _ _ _ => none)) _ h).trans (by kernel_rfl))
noncomputable def fy35 : YX Tryd.prog := Y0 fx35 fs35 fs35_eq (by kernel_rfl)
end Go.Proofs.YtomialandfplkaaDoor.Eva
namespace Go.Proofs.YtomialandfplkaaDoor.Eva
open Go.ChangeShapes Go.WideShapes Go.ChangeAt Go.RowKit Go.Xe
noncomputable def tabL {P : Program} : List (FuncId × YE P) → Tr (YE P)
  | [] => .nil
  | (f, x) :: xs => (tabL xs).put f x
noncomputable def tab : Tr (YE Tryd.prog) := tabL [(16, .fn fy16), (17, .fn fy17), (18, .fn fy18), (21, .fn fy21), (33, .fn fy33), (34, .fn fy34), (36, .fn fy36), (37, .fn fy37), (38, .fn fy38), (41, .fn fy41), (62, .fn fy62), (63, .fn fy63), (64, .fn fy64), (73, .fn fy73), (74, .fn fy74), (75, .fn fy75), (76, .fn fy76), (77, .fn fy77), (35, .fn fy35)]
def zs : List Int := [0, 1, 56, 2, 57, 49, 28, 3, 61, 58, 42, 50, 38, 29, 17, 4, 62, 47, 59, 36, 45, 43, 51, 22, 53, 39, 33, 30, 24, 18, 12, 5, 63, 55, 48, 27, 60, 41, 37, 16, 46, 35, 44, 21, 52, 32, 23, 11, 54, 26, 40, 15, 34, 20, 31, 10, 25, 14, 19, 9, 13, 8, 7, 6]
theorem mixed : Tryd.prog.follows .mixedOrders = true := by kernel_rfl
theorem laidOut : laidOutB Tryd.prog = true := by kernel_rfl
theorem own : ownKnob Tryd.prog.godebug = none := by kernel_rfl
theorem gTab : Tryd.prog.globalNamed "math/bits.deBruijn64tab" = some 0 := by kernel_rfl
theorem gTabType : (Tryd.prog.globals[0]?).map (·.type) = some 110 := by kernel_rfl
theorem cellsArr : Tryd.prog.cellsOf 110 = 64 := by kernel_rfl
theorem cellsEl : Tryd.prog.cellsOf 5 = 1 := by kernel_rfl
theorem table {W : World} (h : laidMetH Tryd.prog [("math/bits.deBruijn64tab", Rows.laid_math_bits_deBruijn64tab)] W) : Lib.TabIs Tryd.prog W "math/bits.deBruijn64tab" .u8 zs :=
  Lib.tabIs_of_head (rest := []) gTab gTabType Tryd.underlying110 Tryd.underlying5 cellsEl cellsArr h
noncomputable def objs : Hp := tabObjs 0 110 64 (zs.map (.int .u8))
noncomputable def laidWorld (os : Os) : World :=
  { World.holding Tryd.prog os ⟨#[], #[], []⟩ with heap := (World.holding Tryd.prog os ⟨#[], #[], []⟩).heap.modify 0 fun
      | .cells _ t frozen => .cells #[.int .u8 0, .int .u8 1, .int .u8 56, .int .u8 2, .int .u8 57, .int .u8 49, .int .u8 28, .int .u8 3, .int .u8 61, .int .u8 58, .int .u8 42, .int .u8 50, .int .u8 38, .int .u8 29, .int .u8 17, .int .u8 4, .int .u8 62, .int .u8 47, .int .u8 59, .int .u8 36, .int .u8 45, .int .u8 43, .int .u8 51, .int .u8 22, .int .u8 53, .int .u8 39, .int .u8 33, .int .u8 30, .int .u8 24, .int .u8 18, .int .u8 12, .int .u8 5, .int .u8 63, .int .u8 55, .int .u8 48, .int .u8 27, .int .u8 60, .int .u8 41, .int .u8 37, .int .u8 16, .int .u8 46, .int .u8 35, .int .u8 44, .int .u8 21, .int .u8 52, .int .u8 32, .int .u8 23, .int .u8 11, .int .u8 54, .int .u8 26, .int .u8 40, .int .u8 15, .int .u8 34, .int .u8 20, .int .u8 31, .int .u8 10, .int .u8 25, .int .u8 14, .int .u8 19, .int .u8 9, .int .u8 13, .int .u8 8, .int .u8 7, .int .u8 6] t frozen
      | o => o }
end Go.Proofs.YtomialandfplkaaDoor.Eva
namespace Go.Proofs.YtomialandfplkaaDoor.Eva
open Go.Xe Go.ChangeShapes Go.WideShapes Go.ChangeAt Go.RowKit
set_option linter.unusedSimpArgs false
section
variable {H : Type} {enc : TypeId × Value → H} {w : World}
abbrev tyPc : TypeId := 74
abbrev tyPcs : TypeId := 72
theorem cellsPc : Tryd.prog.cellsOf tyPc = 3 := by kernel_rfl
theorem bytesPc : Tryd.prog.bytesOf tyPc = 40 := by kernel_rfl
theorem cellsIn : ∀ t ∈ [24, 3, 4], Tryd.prog.cellsOf t = 1 := by
  intro t ht
  simp only [List.mem_cons, List.not_mem_nil, or_false] at ht
  rcases ht with rfl | rfl | rfl <;> kernel_rfl
theorem bytesB : Tryd.prog.bytesOf 5 = 1 := by kernel_rfl
theorem hw0_ltB {x : SV} {l : List Nat} (B : Bytes (hw0 w) x l) {j : Nat} (e : rowOf x = some j) : j < (hw0 w).next := by
  rcases B.2 with ⟨rfl | ⟨_, rfl⟩, _⟩ | ⟨k1, ob, cap, lo, m, rfl, hm, _⟩
  · cases e
  · cases e
  · cases e; exact hw0_row hm
theorem pc_trod {fuel : Nat} {cs : List Value} {d : DataW H} {ps : List MemPlace} (hl : cs.length = 3) (hf : DataW.trod enc Tryd.prog w 0 (fun _ => true) true fuel tyPc cs = some (d, ps)) (hw : Wt Tryd.prog tyPc d) :
    ∃ a : PcR, (∀ j, j < 3 → (cs[j]?).map (lift w.heap.size) = a.cells[j]?) ∧ a.Ok (hw0 w) := by
  have hu := Tryd.underlying74
  have cb : Tryd.prog.cellsOf 24 = 1 := cellsIn _ (by simp)
  have ci : Tryd.prog.cellsOf 3 = 1 := cellsIn _ (by simp)
  have co : Tryd.prog.cellsOf 4 = 1 := cellsIn _ (by simp)
  obtain ⟨v0, _, _, _, _, c0, _, _, t0⟩ := fld (i := 0) (o := 0) hu hf rfl rfl rfl ci (by omega)
  obtain ⟨v1, _, _, _, _, c1, rfl, e1, t1⟩ := fld (i := 1) (o := 1) hu hf rfl rfl rfl cb (by omega)
  obtain ⟨v2, _, _, _, _, c2, _, _, t2⟩ := fld (i := 2) (o := 2) hu hf rfl rfl rfl co (by omega)
  obtain ⟨n0, rfl, g0⟩ := int_trod Tryd.underlying3 t0
  obtain ⟨b2, rfl⟩ := bool_trod Tryd.underlying4 t2
  obtain ⟨l, B, hcap, hl3⟩ := bytes_trodW Tryd.underlying24 Tryd.underlying5 cellsEl bytesB t1 (hw.fld hu rfl rfl e1)
  have m1 : IntKind.i64.min = -9223372036854775808 := rfl
  have m2 : IntKind.i64.max = 9223372036854775807 := rfl
  refine ⟨⟨n0, lift w.heap.size v1, l, b2⟩, fun j hj => ?_, ⟨by show _ ≤ n0; omega, by show n0 < _; omega, B, hcap, hl3, fun j hj => hw0_ltB B hj⟩⟩
  match j, hj with
  | 0, _ => rw [c0]; rfl
  | 1, _ => rw [c1]; rfl
  | 2, _ => rw [c2]; rfl
set_option maxRecDepth 100000 in
theorem pcs_arg {v : Value} {d : DataW H} {ps : List MemPlace} {r : Reach} {b0 j : Nat} {ts : List TypeId} {ds : List (DataW H)} (hval : Value.okWide Tryd.prog w r b0 tyPcs v)
    (h : DataW.Trod enc Tryd.prog w 0 (fun _ => true) true tyPcs v d ps) (hts : ts[j]? = some tyPcs) (hds : ds[j]? = some d) (hz : (DataW.weightsEach Tryd.prog ts ds).all (· ≤ reachBytes) = true) :
    ∃ L, PcsAt (hw0 w) (liftA w.heap.size v) L ∧ L.length ≤ 140737488355328 := by
  rcases slice_arg Tryd.underlying72 cellsPc (by omega) hval h hts hds hz with e1 | ⟨id, off, len, cap, m, e1, _, hm, h3, hall⟩
  · exact ⟨[], .inl ⟨e1, rfl⟩, Nat.zero_le _⟩
  · have each : ∀ i, i < len → ∃ a : PcR, (∀ j, j < 3 → (hw0 w).cell id (off + i * 3 + j) = a.cells[j]?) ∧ a.Ok (hw0 w) := fun i hi => by
      obtain ⟨cs, fuel', d', ps', g1, g2, g3, g4⟩ := hall i hi
      obtain ⟨a, k1, k2⟩ := pc_trod g1 g4 g2
      exact ⟨a, fun j hj => (g3 j hj).trans (k1 j hj), k2⟩
    obtain ⟨L, h1, h2⟩ := choose_list each
    rw [bytesPc] at h3
    exact ⟨L, .inr ⟨id, off, some cap, 0, m, by rw [e1, h1], hm, hw0_row hm, fun t ht => h2 t ht⟩, by omega⟩
end
end Go.Proofs.YtomialandfplkaaDoor.Eva
namespace Go.Proofs.YtomialandfplkaaDoor.Eva
open Go.Xe
set_option linter.unusedSimpArgs false
@[irreducible] def LF : Nat := 2 ^ 64
theorem le_LF {n : Nat} (h : n ≤ 2 ^ 64) : n ≤ LF := by unfold LF; exact h
theorem call_fn {P : Program} {tab : Tr (YE P)} {lf n k : Nat} {y : YX P} {f : FuncId} {args : List SV} {h : HW} (hk : k = n + 1) (hy : y.x.f = f) (hg : getP (path f) tab = some (.fn y)) : (runY tab lf k).call (.fn f) args h = y.s (runY tab lf n).call lf args h := by
  subst hk
  have : (runY tab lf (n + 1)).call (.fn f) args h = runE (runY tab lf n) lf f args h (getP (path f) tab) := rfl
  rw [this, hg]
  simp only [runE, hy, Nat.beq_refl, cond_true]
noncomputable def tabLC {P : Program} : List (FuncId × YE P) → Tr (YE P)
  | [] => .nil
  | (f, x) :: xs => (tabLC xs).put f x
end Go.Proofs.YtomialandfplkaaDoor.Eva
namespace Go.Proofs.YtomialandfplkaaDoor.Eva
open Go.Xe
set_option maxRecDepth 100000 in
theorem livesK : saysY ((runY tab 100000 1000).call (.ent 35) [] ⟨1, 1, objs⟩) = true := by kernel_rfl
theorem saysY_spec {r : Rs} (h : saysY r = true) : ∃ h', r = some (.ret (.bool true), h') := by
  unfold saysY at h
  split at h
  · exact ⟨_, rfl⟩
  · cases h
noncomputable def conG : List SV → Option SV
  | [] => some (.bool true)
  | _ => none
noncomputable def conLives : Con Tryd.prog := conOf (tab := tab) (lf := 100000) (fuel := 1000) mixed 0 110 64 .u8 zs (by decide) 35 conG
  (fun args y h => by
    cases args with
    | nil => cases h; exact ⟨rfl, rfl⟩
    | cons a l => cases h)
  (fun args y h => by
    cases args with
    | nil =>
      cases h
      exact saysY_spec livesK
    | cons a l => cases h)
noncomputable def cons : List (Con Tryd.prog) := [conLives]
theorem con_lives {C : YC} {h : HW} (ht : hasTab 0 .u8 zs h = true) : conY cons C (.fn 35) [] h = some (.ret (.bool true), h) := by
  have h1 : conF cons 35 = some conLives := rfl
  have h2 : conLives.g [] h = some (.bool true) := by
    show (bif hasTab 0 .u8 zs h then conG [] else none) = _
    rw [ht]; rfl
  simp only [conY, h1, h2]
theorem con_other {C : YC} {f : Nat} (hf : Nat.beq 35 f = false) (args : List SV) (h : HW) : conY cons C (.fn f) args h = C (.fn f) args h := by
  have h1 : conF cons f = none := by
    show (bif Nat.beq 35 f then some conLives else none) = none
    rw [hf]; rfl
  simp only [conY, h1]
end Go.Proofs.YtomialandfplkaaDoor.Eva
