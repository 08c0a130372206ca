/- Texts of functions of the program. -/
import Derived.Test.YtoglpmfmnknlaaaGreatDoorCards
import Derived.Test.YtoglpmfmnknlaaaGreatDoorXeYh
namespace Go.Proofs.YtoglpmfmnknlaaaGreatDoor.Eva
open Go.Xe
set_option maxRecDepth 100000
set_option linter.unusedVariables false
/-! FN 347 (*tinsel/tinselref02.Table).Read -/
noncomputable def fx347 : XF Tryz.prog := ⟨347, Tryz.f347, fun _ => .text, Tryz.func347, by kernel_rfl, by kernel_rfl, by kernel_rfl, by kernel_rfl⟩
noncomputable def ff347 (x8 x9 : O) (h : HW) : Rs :=
 ob x8 fun a0 =>
 ob x9 fun a1 =>
 some (.ret (.tup [a0, a1]), h)
noncomputable def q347_3 (C : YC) (lf : Nat) (r : K2) (x10 : O) (h : HW) : Rs :=
 ob x10 fun a2 =>
 r (some a2) (some (.int .i64 0)) h
theorem q347_3_eq (C : YC) (lf : Nat) (r : K2) (KN : KF) (KE : KX) : ∀ F h, evX fx347 C lf [1, 1, 1, 1, 1, 1] F h KN (fun F h => r (F 8) (F 9) h) KE = q347_3 C lf r (F 10) h := by
  intro F h; kernel_rfl
noncomputable def q347_7 (C : YC) (lf : Nat) (n : K6) (x0 x1 x3 x10 x11 x12 : O) (h : HW) : Rs :=
 ob x12 fun a5 =>
 ob (bin Tryz.prog .add 3 a5 (.int .i64 1)) fun y6 =>
 n x0 x1 x3 x10 x11 (some y6) h
theorem q347_7_eq (C : YC) (lf : Nat) (n : K6) (KR : KF) (K0 : KF) (KE : KX) : ∀ F h, evX fx347 C lf [1, 1, 1, 1, 1, 0, 1, 0, 0, 1, 1] F h (fun F h => n (F 0) (F 1) (F 3) (F 10) (F 11) (F 12) h) KR (bk 0 K0 KE) = q347_7 C lf n (F 0) (F 1) (F 3) (F 10) (F 11) (F 12) h := by
  intro F h; kernel_rfl
noncomputable def q347_12 (C : YC) (lf : Nat) (n : K6) (x0 x1 x3 x10 x11 x12 x14 : O) (h : HW) : Rs :=
 ob x10 fun a8 =>
 ob x14 fun a9 =>
 b2 (ybs Tryz.prog 31 1 [0] [a9] h) fun y10 h10 =>
 b2 (ybl Tryz.prog .append #[31, 31] [a8, y10] h10) fun y11 h11 =>
 n x0 x1 x3 (some y11) x11 x12 h11
theorem q347_12_eq (C : YC) (lf : Nat) (n : K6) (KR : KF) (K1 : KF) (K0 : KF) (KE : KX) : ∀ F h, evX fx347 C lf [1, 1, 1, 1, 1, 0, 1, 0, 0, 1, 0, 0, 1, 1, 1] F h (fun F h => n (F 0) (F 1) (F 3) (F 10) (F 11) (F 12) h) KR (bk 1 K1 (bk 0 K0 KE)) = q347_12 C lf n (F 0) (F 1) (F 3) (F 10) (F 11) (F 12) (F 14) h := by
  intro F h; kernel_rfl
noncomputable def q347_28 (C : YC) (lf : Nat) (n : K7) (x0 x1 x3 x10 x11 x12 x13 x14 : O) (h : HW) : Rs :=
 ob x13 fun a13 =>
 ob (bin Tryz.prog .gtr 3 a13 (.int .i64 0)) fun y14 =>
 yIf y14
 (ob x0 fun a15 =>
 ob (semNil a15) fun y16 =>
 ob (fa 0 y16) fun y17 =>
 ob (fa 1 y17) fun y18 =>
 ob (ld1 y18 h) fun y19 =>
 ob x13 fun a20 =>
 ob (bin Tryz.prog .sub 3 a20 (.int .i64 1)) fun y21 =>
 ob (ixS 1 y19 y21) fun y22 =>
 ob (ld1 y22 h) fun y23 =>
 ob x12 fun a24 =>
 ob (bin Tryz.prog .rem 3 a24 (.int .i64 64)) fun y25 =>
 ob (ixS 1 y23 y25) fun y26 =>
 ob (ld1 y26 h) fun y27 =>
 n x0 x1 x3 x10 x11 x12 (some y27) h)
 (n x0 x1 x3 x10 x11 x12 x14 h)
theorem q347_28_eq (C : YC) (lf : Nat) (n : K7) (KR : KF) (K1 : KF) (K0 : KF) (KE : KX) : ∀ F h, evX fx347 C lf [1, 1, 1, 1, 1, 0, 1, 0, 0, 1, 0, 0, 1, 1, 0] F h (fun F h => n (F 0) (F 1) (F 3) (F 10) (F 11) (F 12) (F 14) h) KR (bk 1 K1 (bk 0 K0 KE)) = q347_28 C lf n (F 0) (F 1) (F 3) (F 10) (F 11) (F 12) (F 13) (F 14) h := by
  intro F h; kernel_rfl
noncomputable def q347_29 (C : YC) (lf : Nat) (n : K6) (x0 x1 x3 x10 x11 x12 x13 x14 : O) (h : HW) : Rs :=
 q347_28 C lf (fun x0 x1 x3 x10 x11 x12 x14 h => q347_12 C lf n x0 x1 x3 x10 x11 x12 x14 h) x0 x1 x3 x10 x11 x12 x13 x14 h
theorem q347_29_eq (C : YC) (lf : Nat) (n : K6) (KR : KF) (K1 : KF) (K0 : KF) (KE : KX) : ∀ F h, evX fx347 C lf [1, 1, 1, 1, 1, 0, 1, 0, 0, 1, 0, 0, 1, 1] F h (fun F h => n (F 0) (F 1) (F 3) (F 10) (F 11) (F 12) h) KR (bk 1 K1 (bk 0 K0 KE)) = q347_29 C lf n (F 0) (F 1) (F 3) (F 10) (F 11) (F 12) (F 13) (F 14) h := cSeq (a := subX fx347 [1, 1, 1, 1, 1, 0, 1, 0, 0, 1, 0, 0, 1, 1, 0]) (b := subX fx347 [1, 1, 1, 1, 1, 0, 1, 0, 0, 1, 0, 0, 1, 1, 1]) (by kernel_rfl) (B := (fun F h => q347_12 C lf n (F 0) (F 1) (F 3) (F 10) (F 11) (F 12) (F 14) h)) (q347_12_eq C lf n KR K1 K0 KE) (q347_28_eq C lf (fun x0 x1 x3 x10 x11 x12 x14 h => q347_12 C lf n x0 x1 x3 x10 x11 x12 x14 h) KR K1 K0 KE)
noncomputable def q347_30 (C : YC) (lf : Nat) (n : K8) (x0 x1 x3 x10 x11 x12 x13 : O) (h : HW) : Rs :=
 n x0 x1 x3 x10 x11 x12 x13 (some (.int .u8 0)) h
theorem q347_30_eq (C : YC) (lf : Nat) (n : K8) (KR : KF) (K1 : KF) (K0 : KF) (KE : KX) : ∀ F h, evX fx347 C lf [1, 1, 1, 1, 1, 0, 1, 0, 0, 1, 0, 0, 1, 0] F h (fun F h => n (F 0) (F 1) (F 3) (F 10) (F 11) (F 12) (F 13) (F 14) h) KR (bk 1 K1 (bk 0 K0 KE)) = q347_30 C lf n (F 0) (F 1) (F 3) (F 10) (F 11) (F 12) (F 13) h := by
  intro F h; kernel_rfl
noncomputable def q347_31 (C : YC) (lf : Nat) (n : K6) (x0 x1 x3 x10 x11 x12 x13 : O) (h : HW) : Rs :=
 q347_30 C lf (fun x0 x1 x3 x10 x11 x12 x13 x14 h => q347_29 C lf n x0 x1 x3 x10 x11 x12 x13 x14 h) x0 x1 x3 x10 x11 x12 x13 h
theorem q347_31_eq (C : YC) (lf : Nat) (n : K6) (KR : KF) (K1 : KF) (K0 : KF) (KE : KX) : ∀ F h, evX fx347 C lf [1, 1, 1, 1, 1, 0, 1, 0, 0, 1, 0, 0, 1] F h (fun F h => n (F 0) (F 1) (F 3) (F 10) (F 11) (F 12) h) KR (bk 1 K1 (bk 0 K0 KE)) = q347_31 C lf n (F 0) (F 1) (F 3) (F 10) (F 11) (F 12) (F 13) h := cSeq (a := subX fx347 [1, 1, 1, 1, 1, 0, 1, 0, 0, 1, 0, 0, 1, 0]) (b := subX fx347 [1, 1, 1, 1, 1, 0, 1, 0, 0, 1, 0, 0, 1, 1]) (by kernel_rfl) (B := (fun F h => q347_29 C lf n (F 0) (F 1) (F 3) (F 10) (F 11) (F 12) (F 13) (F 14) h)) (q347_29_eq C lf n KR K1 K0 KE) (q347_30_eq C lf (fun x0 x1 x3 x10 x11 x12 x13 x14 h => q347_29 C lf n x0 x1 x3 x10 x11 x12 x13 x14 h) KR K1 K0 KE)
noncomputable def q347_43 (C : YC) (lf : Nat) (n : K7) (x0 x1 x3 x10 x11 x12 : O) (h : HW) : Rs :=
 ob x0 fun a32 =>
 ob (semNil a32) fun y33 =>
 ob (fa 4 y33) fun y34 =>
 ob (ld1 y34 h) fun y35 =>
 ob x1 fun a36 =>
 ob x12 fun a37 =>
 ob (bin Tryz.prog .quo 3 a37 (.int .i64 64)) fun y38 =>
 ob (ixS 308 y35 a36) fun y39 =>
 ob (fa 12 y39) fun y40 =>
 ob (ixA 278 1 y40 y38) fun y41 =>
 ob (ld1 y41 h) fun y42 =>
 n x0 x1 x3 x10 x11 x12 (some y42) h
theorem q347_43_eq (C : YC) (lf : Nat) (n : K7) (KR : KF) (K1 : KF) (K0 : KF) (KE : KX) : ∀ F h, evX fx347 C lf [1, 1, 1, 1, 1, 0, 1, 0, 0, 1, 0, 0, 0] F h (fun F h => n (F 0) (F 1) (F 3) (F 10) (F 11) (F 12) (F 13) h) KR (bk 1 K1 (bk 0 K0 KE)) = q347_43 C lf n (F 0) (F 1) (F 3) (F 10) (F 11) (F 12) h := by
  intro F h; kernel_rfl
noncomputable def q347_44 (C : YC) (lf : Nat) (n : K6) (x0 x1 x3 x10 x11 x12 : O) (h : HW) : Rs :=
 q347_43 C lf (fun x0 x1 x3 x10 x11 x12 x13 h => q347_31 C lf n x0 x1 x3 x10 x11 x12 x13 h) x0 x1 x3 x10 x11 x12 h
theorem q347_44_eq (C : YC) (lf : Nat) (n : K6) (KR : KF) (K1 : KF) (K0 : KF) (KE : KX) : ∀ F h, evX fx347 C lf [1, 1, 1, 1, 1, 0, 1, 0, 0, 1, 0, 0] F h (fun F h => n (F 0) (F 1) (F 3) (F 10) (F 11) (F 12) h) KR (bk 1 K1 (bk 0 K0 KE)) = q347_44 C lf n (F 0) (F 1) (F 3) (F 10) (F 11) (F 12) h := cSeq (a := subX fx347 [1, 1, 1, 1, 1, 0, 1, 0, 0, 1, 0, 0, 0]) (b := subX fx347 [1, 1, 1, 1, 1, 0, 1, 0, 0, 1, 0, 0, 1]) (by kernel_rfl) (B := (fun F h => q347_31 C lf n (F 0) (F 1) (F 3) (F 10) (F 11) (F 12) (F 13) h)) (q347_31_eq C lf n KR K1 K0 KE) (q347_43_eq C lf (fun x0 x1 x3 x10 x11 x12 x13 h => q347_31 C lf n x0 x1 x3 x10 x11 x12 x13 h) KR K1 K0 KE)
noncomputable def q347_45 (C : YC) (lf : Nat) (n : K6) (x0 x1 x3 x10 x11 x12 : O) (h : HW) : Rs :=
 q347_44 C lf (fun x0 x1 x3 x10 x11 x12 h => q347_7 C lf n x0 x1 x3 x10 x11 x12 h) x0 x1 x3 x10 x11 x12 h
theorem q347_45_eq (C : YC) (lf : Nat) (n : K6) (KR : KF) (K0 : KF) (KE : KX) : ∀ F h, evX fx347 C lf [1, 1, 1, 1, 1, 0, 1, 0, 0, 1] F h (fun F h => n (F 0) (F 1) (F 3) (F 10) (F 11) (F 12) h) KR (bk 0 K0 KE) = q347_45 C lf n (F 0) (F 1) (F 3) (F 10) (F 11) (F 12) h := cSeq (a := subX fx347 [1, 1, 1, 1, 1, 0, 1, 0, 0, 1, 0]) (b := subX fx347 [1, 1, 1, 1, 1, 0, 1, 0, 0, 1, 1]) (by kernel_rfl) (B := (fun F h => q347_7 C lf n (F 0) (F 1) (F 3) (F 10) (F 11) (F 12) h)) (q347_7_eq C lf n KR K0 KE) (cBlock (id := 1) (a := subX fx347 [1, 1, 1, 1, 1, 0, 1, 0, 0, 1, 0, 0]) (by kernel_rfl) (q347_44_eq C lf (fun x0 x1 x3 x10 x11 x12 h => q347_7 C lf n x0 x1 x3 x10 x11 x12 h) KR (fun F h => n (F 0) (F 1) (F 3) (F 10) (F 11) (F 12) h) K0 KE))
noncomputable def q347_58 (C : YC) (lf : Nat) (n : K6) (e0 : K1) (x0 x1 x3 x10 x11 x12 : O) (h : HW) : Rs :=
 ob x12 fun a46 =>
 ob x11 fun a47 =>
 ob (bin Tryz.prog .lss 3 a46 a47) fun y48 =>
 bc (gd true (some y48) (ob x10 fun a49 =>
 some (.ret a49, h)) h) fun y50 h50 =>
 bc (gd true (some y48) (ob (lenE Tryz.prog 31 y50) fun y51 =>
 some (.ret y51, h50)) h50) fun y52 h52 =>
 bc (gd true (some y48) (ob x3 fun a53 =>
 some (.ret a53, h52)) h52) fun y54 h54 =>
 bc (gd true (some y48) (ob (bin Tryz.prog .lss 3 y52 y54) fun y55 =>
 some (.ret y55, h54)) h54) fun y56 h56 =>
 ob (ypk y48 y56 (.bool false)) fun y57 =>
 yIf y57
 (n x0 x1 x3 x10 x11 x12 h56)
 (e0 x10 h56)
theorem q347_58_eq (C : YC) (lf : Nat) (n : K6) (e0 : K1) (KR : KF) (KE : KX) : ∀ F h, evX fx347 C lf [1, 1, 1, 1, 1, 0, 1, 0, 0, 0] F h (fun F h => n (F 0) (F 1) (F 3) (F 10) (F 11) (F 12) h) KR (bk 0 (fun F h => e0 (F 10) h) KE) = q347_58 C lf n e0 (F 0) (F 1) (F 3) (F 10) (F 11) (F 12) h := by
  intro F h; kernel_rfl
noncomputable def q347_59 (C : YC) (lf : Nat) (n : K6) (e0 : K1) (x0 x1 x3 x10 x11 x12 : O) (h : HW) : Rs :=
 q347_58 C lf (fun x0 x1 x3 x10 x11 x12 h => q347_45 C lf n x0 x1 x3 x10 x11 x12 h) e0 x0 x1 x3 x10 x11 x12 h
theorem q347_59_eq (C : YC) (lf : Nat) (n : K6) (e0 : K1) (KR : KF) (KE : KX) : ∀ F h, evX fx347 C lf [1, 1, 1, 1, 1, 0, 1, 0, 0] F h (fun F h => n (F 0) (F 1) (F 3) (F 10) (F 11) (F 12) h) KR (bk 0 (fun F h => e0 (F 10) h) KE) = q347_59 C lf n e0 (F 0) (F 1) (F 3) (F 10) (F 11) (F 12) h := cSeq (a := subX fx347 [1, 1, 1, 1, 1, 0, 1, 0, 0, 0]) (b := subX fx347 [1, 1, 1, 1, 1, 0, 1, 0, 0, 1]) (by kernel_rfl) (B := (fun F h => q347_45 C lf n (F 0) (F 1) (F 3) (F 10) (F 11) (F 12) h)) (q347_45_eq C lf n KR (fun F h => e0 (F 10) h) KE) (q347_58_eq C lf (fun x0 x1 x3 x10 x11 x12 h => q347_45 C lf n x0 x1 x3 x10 x11 x12 h) e0 KR KE)
noncomputable def l347_4 (C : YC) (lf : Nat) (e0 : K1) (k : O × O × O × O × O × O → HW → Rs) (s : O × O × O × O × O × O) (h : HW) : Rs :=
 q347_59 C lf (fun x0 x1 x3 x10 x11 x12 h => k (x0, x1, x3, x10, x11, x12) h) e0 s.1 s.2.1 s.2.2.1 s.2.2.2.1 s.2.2.2.2.1 s.2.2.2.2.2 h
noncomputable def q347_61 (C : YC) (lf : Nat) (n : K6) (x0 x1 x2 x3 x10 x11 : O) (h : HW) : Rs :=
 ob x2 fun a60 =>
 n x0 x1 x3 x10 x11 (some a60) h
theorem q347_61_eq (C : YC) (lf : Nat) (n : K6) (KR : KF) (KE : KX) : ∀ F h, evX fx347 C lf [1, 1, 1, 1, 1, 0, 0] F h (fun F h => n (F 0) (F 1) (F 3) (F 10) (F 11) (F 12) h) KR KE = q347_61 C lf n (F 0) (F 1) (F 2) (F 3) (F 10) (F 11) h := by
  intro F h; kernel_rfl
noncomputable def q347_62 (C : YC) (lf : Nat) (n : K1) (x0 x1 x2 x3 x10 x11 : O) (h : HW) : Rs :=
 q347_61 C lf (fun x0 x1 x3 x10 x11 x12 h => lp (l347_4 C lf n) lf (x0, x1, x3, x10, x11, x12) h) x0 x1 x2 x3 x10 x11 h
theorem q347_62_eq (C : YC) (lf : Nat) (n : K1) (KR : KF) (KE : KX) : ∀ F h, evX fx347 C lf [1, 1, 1, 1, 1, 0] F h (fun F h => n (F 10) h) KR KE = q347_62 C lf n (F 0) (F 1) (F 2) (F 3) (F 10) (F 11) h := cSeq (a := subX fx347 [1, 1, 1, 1, 1, 0, 0]) (b := subX fx347 [1, 1, 1, 1, 1, 0, 1]) (by kernel_rfl) (B := (fun F h => lp (l347_4 C lf n) lf ((F 0), (F 1), (F 3), (F 10), (F 11), (F 12)) h)) (cBlock (id := 0) (a := subX fx347 [1, 1, 1, 1, 1, 0, 1, 0]) (by kernel_rfl) (cLoop (a := subX fx347 [1, 1, 1, 1, 1, 0, 1, 0, 0]) (g := fun F => (F 0, F 1, F 3, F 10, F 11, F 12)) (body := l347_4 C lf n) (by kernel_rfl) (fun k => (q347_59_eq C lf (fun x0 x1 x3 x10 x11 x12 h => k (x0, x1, x3, x10, x11, x12) h) n KR KE)))) (q347_61_eq C lf (fun x0 x1 x3 x10 x11 x12 h => lp (l347_4 C lf n) lf (x0, x1, x3, x10, x11, x12) h) KR KE)
noncomputable def q347_63 (C : YC) (lf : Nat) (r : K2) (x0 x1 x2 x3 x10 x11 : O) (h : HW) : Rs :=
 q347_62 C lf (fun x10 h => q347_3 C lf r x10 h) x0 x1 x2 x3 x10 x11 h
theorem q347_63_eq (C : YC) (lf : Nat) (r : K2) (KN : KF) (KE : KX) : ∀ F h, evX fx347 C lf [1, 1, 1, 1, 1] F h KN (fun F h => r (F 8) (F 9) h) KE = q347_63 C lf r (F 0) (F 1) (F 2) (F 3) (F 10) (F 11) h := cSeq (a := subX fx347 [1, 1, 1, 1, 1, 0]) (b := subX fx347 [1, 1, 1, 1, 1, 1]) (by kernel_rfl) (B := (fun F h => q347_3 C lf r (F 10) h)) (q347_3_eq C lf r KN KE) (q347_62_eq C lf (fun x10 h => q347_3 C lf r x10 h) (fun F h => r (F 8) (F 9) h) KE)
noncomputable def q347_73 (C : YC) (lf : Nat) (n : K6) (x0 x1 x2 x3 x10 : O) (h : HW) : Rs :=
 ob x0 fun a64 =>
 ob (semNil a64) fun y65 =>
 ob (fa 4 y65) fun y66 =>
 ob (ld1 y66 h) fun y67 =>
 ob x1 fun a68 =>
 ob (ixS 308 y67 a68) fun y69 =>
 ob (fa 1 y69) fun y70 =>
 ob (fa 4 y70) fun y71 =>
 ob (ld1 y71 h) fun y72 =>
 n x0 x1 x2 x3 x10 (some y72) h
theorem q347_73_eq (C : YC) (lf : Nat) (n : K6) (KR : KF) (KE : KX) : ∀ F h, evX fx347 C lf [1, 1, 1, 1, 0] F h (fun F h => n (F 0) (F 1) (F 2) (F 3) (F 10) (F 11) h) KR KE = q347_73 C lf n (F 0) (F 1) (F 2) (F 3) (F 10) h := by
  intro F h; kernel_rfl
noncomputable def q347_74 (C : YC) (lf : Nat) (r : K2) (x0 x1 x2 x3 x10 : O) (h : HW) : Rs :=
 q347_73 C lf (fun x0 x1 x2 x3 x10 x11 h => q347_63 C lf r x0 x1 x2 x3 x10 x11 h) x0 x1 x2 x3 x10 h
theorem q347_74_eq (C : YC) (lf : Nat) (r : K2) (KN : KF) (KE : KX) : ∀ F h, evX fx347 C lf [1, 1, 1, 1] F h KN (fun F h => r (F 8) (F 9) h) KE = q347_74 C lf r (F 0) (F 1) (F 2) (F 3) (F 10) h := cSeq (a := subX fx347 [1, 1, 1, 1, 0]) (b := subX fx347 [1, 1, 1, 1, 1]) (by kernel_rfl) (B := (fun F h => q347_63 C lf r (F 0) (F 1) (F 2) (F 3) (F 10) (F 11) h)) (q347_63_eq C lf r KN KE) (q347_73_eq C lf (fun x0 x1 x2 x3 x10 x11 h => q347_63 C lf r x0 x1 x2 x3 x10 x11 h) (fun F h => r (F 8) (F 9) h) KE)
noncomputable def q347_75 (C : YC) (lf : Nat) (n : K5) (x0 x1 x2 x3 : O) (h : HW) : Rs :=
 n x0 x1 x2 x3 (some (.val (.slice none 0 0))) h
theorem q347_75_eq (C : YC) (lf : Nat) (n : K5) (KR : KF) (KE : KX) : ∀ F h, evX fx347 C lf [1, 1, 1, 0] F h (fun F h => n (F 0) (F 1) (F 2) (F 3) (F 10) h) KR KE = q347_75 C lf n (F 0) (F 1) (F 2) (F 3) h := by
  intro F h; kernel_rfl
noncomputable def q347_76 (C : YC) (lf : Nat) (r : K2) (x0 x1 x2 x3 : O) (h : HW) : Rs :=
 q347_75 C lf (fun x0 x1 x2 x3 x10 h => q347_74 C lf r x0 x1 x2 x3 x10 h) x0 x1 x2 x3 h
theorem q347_76_eq (C : YC) (lf : Nat) (r : K2) (KN : KF) (KE : KX) : ∀ F h, evX fx347 C lf [1, 1, 1] F h KN (fun F h => r (F 8) (F 9) h) KE = q347_76 C lf r (F 0) (F 1) (F 2) (F 3) h := cSeq (a := subX fx347 [1, 1, 1, 0]) (b := subX fx347 [1, 1, 1, 1]) (by kernel_rfl) (B := (fun F h => q347_74 C lf r (F 0) (F 1) (F 2) (F 3) (F 10) h)) (q347_74_eq C lf r KN KE) (q347_75_eq C lf (fun x0 x1 x2 x3 x10 h => q347_74 C lf r x0 x1 x2 x3 x10 h) (fun F h => r (F 8) (F 9) h) KE)
noncomputable def q347_84 (C : YC) (lf : Nat) (n : K4) (r : K2) (x0 x1 x2 x3 : O) (h : HW) : Rs :=
 ob x2 fun a77 =>
 ob (bin Tryz.prog .lss 3 a77 (.int .i64 0)) fun y78 =>
 bc (gd false (some y78) (ob x3 fun a79 =>
 some (.ret a79, h)) h) fun y80 h80 =>
 bc (gd false (some y78) (ob (bin Tryz.prog .lss 3 y80 (.int .i64 0)) fun y81 =>
 some (.ret y81, h80)) h80) fun y82 h82 =>
 ob (ypk y78 (.bool true) y82) fun y83 =>
 yIf y83
 (r (some (.val (.slice none 0 0))) (some (.int .i64 22)) h82)
 (n x0 x1 x2 x3 h82)
theorem q347_84_eq (C : YC) (lf : Nat) (n : K4) (r : K2) (KE : KX) : ∀ F h, evX fx347 C lf [1, 1, 0] F h (fun F h => n (F 0) (F 1) (F 2) (F 3) h) (fun F h => r (F 8) (F 9) h) KE = q347_84 C lf n r (F 0) (F 1) (F 2) (F 3) h := by
  intro F h; kernel_rfl
noncomputable def q347_85 (C : YC) (lf : Nat) (r : K2) (x0 x1 x2 x3 : O) (h : HW) : Rs :=
 q347_84 C lf (fun x0 x1 x2 x3 h => q347_76 C lf r x0 x1 x2 x3 h) r x0 x1 x2 x3 h
theorem q347_85_eq (C : YC) (lf : Nat) (r : K2) (KN : KF) (KE : KX) : ∀ F h, evX fx347 C lf [1, 1] F h KN (fun F h => r (F 8) (F 9) h) KE = q347_85 C lf r (F 0) (F 1) (F 2) (F 3) h := cSeq (a := subX fx347 [1, 1, 0]) (b := subX fx347 [1, 1, 1]) (by kernel_rfl) (B := (fun F h => q347_76 C lf r (F 0) (F 1) (F 2) (F 3) h)) (q347_76_eq C lf r KN KE) (q347_84_eq C lf (fun x0 x1 x2 x3 h => q347_76 C lf r x0 x1 x2 x3 h) r KE)
noncomputable def q347_90 (C : YC) (lf : Nat) (n : K4) (r : K2) (x0 x1 x2 x3 : O) (h : HW) : Rs :=
 ob x0 fun a86 =>
 ob x1 fun a87 =>
 bc (C (.fn 292) [a86, a87] h) fun y88 h88 =>
 ob (unE .not y88) fun y89 =>
 yIf y89
 (r (some (.val (.slice none 0 0))) (some (.int .i64 2)) h88)
 (n x0 x1 x2 x3 h88)
theorem q347_90_eq (C : YC) (lf : Nat) (n : K4) (r : K2) (KE : KX) : ∀ F h, evX fx347 C lf [1, 0] F h (fun F h => n (F 0) (F 1) (F 2) (F 3) h) (fun F h => r (F 8) (F 9) h) KE = q347_90 C lf n r (F 0) (F 1) (F 2) (F 3) h := by
  intro F h; kernel_rfl
noncomputable def q347_91 (C : YC) (lf : Nat) (r : K2) (x0 x1 x2 x3 : O) (h : HW) : Rs :=
 q347_90 C lf (fun x0 x1 x2 x3 h => q347_85 C lf r x0 x1 x2 x3 h) r x0 x1 x2 x3 h
theorem q347_91_eq (C : YC) (lf : Nat) (r : K2) (KN : KF) (KE : KX) : ∀ F h, evX fx347 C lf [1] F h KN (fun F h => r (F 8) (F 9) h) KE = q347_91 C lf r (F 0) (F 1) (F 2) (F 3) h := cSeq (a := subX fx347 [1, 0]) (b := subX fx347 [1, 1]) (by kernel_rfl) (B := (fun F h => q347_85 C lf r (F 0) (F 1) (F 2) (F 3) h)) (q347_85_eq C lf r KN KE) (q347_90_eq C lf (fun x0 x1 x2 x3 h => q347_85 C lf r x0 x1 x2 x3 h) r KE)
noncomputable def q347_92 (C : YC) (lf : Nat) (n : K4) (x0 x1 x2 x3 : O) (h : HW) : Rs :=
 n x0 x1 x2 x3 h
theorem q347_92_eq (C : YC) (lf : Nat) (n : K4) (KR : KF) (KE : KX) : ∀ F h, evX fx347 C lf [0] F h (fun F h => n (F 0) (F 1) (F 2) (F 3) h) KR KE = q347_92 C lf n (F 0) (F 1) (F 2) (F 3) h := by
  intro F h; kernel_rfl
noncomputable def q347_93 (C : YC) (lf : Nat) (r : K2) (x0 x1 x2 x3 : O) (h : HW) : Rs :=
 q347_92 C lf (fun x0 x1 x2 x3 h => q347_91 C lf r x0 x1 x2 x3 h) x0 x1 x2 x3 h
theorem q347_93_eq (C : YC) (lf : Nat) (r : K2) (KN : KF) (KE : KX) : ∀ F h, evX fx347 C lf [] F h KN (fun F h => r (F 8) (F 9) h) KE = q347_93 C lf r (F 0) (F 1) (F 2) (F 3) h := cSeq (a := subX fx347 [0]) (b := subX fx347 [1]) (by kernel_rfl) (B := (fun F h => q347_91 C lf r (F 0) (F 1) (F 2) (F 3) h)) (q347_91_eq C lf r KN KE) (q347_92_eq C lf (fun x0 x1 x2 x3 h => q347_91 C lf r x0 x1 x2 x3 h) (fun F h => r (F 8) (F 9) h) KE)
noncomputable def fs347 (C : YC) (lf : Nat) (a0 a1 a2 a3 : SV) (h : HW) : Rs := q347_93 C lf ff347 (some a0) (some a1) (some a2) (some a3) h
theorem fs347_eq (C : YC) (lf : Nat) (a0 a1 a2 a3 : SV) (h : HW) : yFn Tryz.prog fx347 C lf [a0, a1, a2, a3] h = fs347 C lf a0 a1 a2 a3 h := fnX (K := (fun F h => ff347 (F 8) (F 9) h)) (by kernel_rfl) (((q347_93_eq C lf ff347 (fun F h => ff347 (F 8) (F 9) h) (fun _ _ _ => none)) _ h).trans (by kernel_rfl))
noncomputable def fy347 : YX Tryz.prog := Y4 fx347 fs347 fs347_eq (by kernel_rfl)

/-! FN 349 tinsel/tinselref02.group -/
noncomputable def fx349 : XF Tryz.prog := ⟨349, Tryz.f349, fun _ => .text, Tryz.func349, by kernel_rfl, by kernel_rfl, by kernel_rfl, by kernel_rfl⟩
noncomputable def ff349 (x2 : O) (h : HW) : Rs :=
 ob x2 fun a0 =>
 some (.ret a0, h)
noncomputable def q349_6 (C : YC) (lf : Nat) (r : K1) (x0 : O) (h : HW) : Rs :=
 ob x0 fun a1 =>
 ob (bin Tryz.prog .lss 3 a1 (.int .i64 6)) fun y2 =>
 yIf y2
 (r (some (.int .i64 (-1))) h)
 (ob x0 fun a3 =>
 ob (bin Tryz.prog .sub 3 a3 (.int .i64 6)) fun y4 =>
 ob (bin Tryz.prog .quo 3 y4 (.int .i64 16)) fun y5 =>
 r (some y5) h)
theorem q349_6_eq (C : YC) (lf : Nat) (r : K1) (KN : KF) (KE : KX) : ∀ F h, evX fx349 C lf [] F h KN (fun F h => r (F 2) h) KE = q349_6 C lf r (F 0) h := by
  intro F h; kernel_rfl
noncomputable def fs349 (C : YC) (lf : Nat) (a0 : SV) (h : HW) : Rs := q349_6 C lf ff349 (some a0) h
theorem fs349_eq (C : YC) (lf : Nat) (a0 : SV) (h : HW) : yFn Tryz.prog fx349 C lf [a0] h = fs349 C lf a0 h := fnX (K := (fun F h => ff349 (F 2) h)) (by kernel_rfl) (((q349_6_eq C lf ff349 (fun F h => ff349 (F 2) h) (fun _ _ _ => none)) _ h).trans (by kernel_rfl))
noncomputable def fy349 : YX Tryz.prog := Y1 fx349 fs349 fs349_eq (by kernel_rfl)

/-! FN 350 (*tinsel/tinselref02.Table).Need -/
noncomputable def fx350 : XF Tryz.prog := ⟨350, Tryz.f350, fun _ => .text, Tryz.func350, by kernel_rfl, by kernel_rfl, by kernel_rfl, by kernel_rfl⟩
noncomputable def ff350 (x6 : O) (h : HW) : Rs :=
 ob x6 fun a0 =>
 some (.ret a0, h)
noncomputable def q350_17 (C : YC) (lf : Nat) (r : K1) (x7 x8 x9 : O) (h : HW) : Rs :=
 ob x8 fun a1 =>
 ob (bin Tryz.prog .gtr 3 a1 (.int .i64 0)) fun y2 =>
 bc (gd true (some y2) (ob x7 fun a3 =>
 some (.ret a3, h)) h) fun y4 h4 =>
 bc (gd true (some y2) (ob (semNil y4) fun y5 =>
 some (.ret y5, h4)) h4) fun y6 h6 =>
 bc (gd true (some y2) (ob (fa 307 y6) fun y7 =>
 some (.ret y7, h6)) h6) fun y8 h8 =>
 bc (gd true (some y2) (ob (ld1 y8 h8) fun y9 =>
 some (.ret y9, h8)) h8) fun y10 h10 =>
 bc (gd true (some y2) (ob (bin Tryz.prog .eql 3 y10 (.int .i64 0)) fun y11 =>
 some (.ret y11, h10)) h10) fun y12 h12 =>
 ob (ypk y2 y12 (.bool false)) fun y13 =>
 yIf y13
 (ob x9 fun a14 =>
 ob (bin Tryz.prog .add 3 a14 (.int .i64 1)) fun y15 =>
 r (some y15) h12)
 (ob x9 fun a16 =>
 r (some a16) h12)
theorem q350_17_eq (C : YC) (lf : Nat) (r : K1) (KN : KF) (KE : KX) : ∀ F h, evX fx350 C lf [1, 1, 1, 1, 1, 1] F h KN (fun F h => r (F 6) h) KE = q350_17 C lf r (F 7) (F 8) (F 9) h := by
  intro F h; kernel_rfl
noncomputable def q350_37 (C : YC) (lf : Nat) (n : K3) (x7 x8 x9 : O) (h : HW) : Rs :=
 ob x8 fun a18 =>
 ob (bin Tryz.prog .geq 3 a18 (.int .i64 0)) fun y19 =>
 bc (gd true (some y19) (ob x7 fun a20 =>
 some (.ret a20, h)) h) fun y21 h21 =>
 bc (gd true (some y19) (ob x8 fun a22 =>
 some (.ret a22, h21)) h21) fun y23 h23 =>
 bc (gd true (some y19) (ob (semNil y21) fun y24 =>
 some (.ret y24, h23)) h23) fun y25 h25 =>
 bc (gd true (some y19) (ob (fa 290 y25) fun y26 =>
 some (.ret y26, h25)) h25) fun y27 h27 =>
 bc (gd true (some y19) (ob (ixA 17 1 y27 y23) fun y28 =>
 some (.ret y28, h27)) h27) fun y29 h29 =>
 bc (gd true (some y19) (ob (ld1 y29 h29) fun y30 =>
 some (.ret y30, h29)) h29) fun y31 h31 =>
 bc (gd true (some y19) (ob (bin Tryz.prog .eql 3 y31 (.int .i64 0)) fun y32 =>
 some (.ret y32, h31)) h31) fun y33 h33 =>
 ob (ypk y19 y33 (.bool false)) fun y34 =>
 yIf y34
 (ob x9 fun a35 =>
 ob (bin Tryz.prog .add 3 a35 (.int .i64 1)) fun y36 =>
 n x7 x8 (some y36) h33)
 (n x7 x8 x9 h33)
theorem q350_37_eq (C : YC) (lf : Nat) (n : K3) (KR : KF) (KE : KX) : ∀ F h, evX fx350 C lf [1, 1, 1, 1, 1, 0] F h (fun F h => n (F 7) (F 8) (F 9) h) KR KE = q350_37 C lf n (F 7) (F 8) (F 9) h := by
  intro F h; kernel_rfl
noncomputable def q350_38 (C : YC) (lf : Nat) (r : K1) (x7 x8 x9 : O) (h : HW) : Rs :=
 q350_37 C lf (fun x7 x8 x9 h => q350_17 C lf r x7 x8 x9 h) x7 x8 x9 h
theorem q350_38_eq (C : YC) (lf : Nat) (r : K1) (KN : KF) (KE : KX) : ∀ F h, evX fx350 C lf [1, 1, 1, 1, 1] F h KN (fun F h => r (F 6) h) KE = q350_38 C lf r (F 7) (F 8) (F 9) h := cSeq (a := subX fx350 [1, 1, 1, 1, 1, 0]) (b := subX fx350 [1, 1, 1, 1, 1, 1]) (by kernel_rfl) (B := (fun F h => q350_17 C lf r (F 7) (F 8) (F 9) h)) (q350_17_eq C lf r KN KE) (q350_37_eq C lf (fun x7 x8 x9 h => q350_17 C lf r x7 x8 x9 h) (fun F h => r (F 6) h) KE)
noncomputable def q350_39 (C : YC) (lf : Nat) (n : K3) (x7 x8 : O) (h : HW) : Rs :=
 n x7 x8 (some (.int .i64 1)) h
theorem q350_39_eq (C : YC) (lf : Nat) (n : K3) (KR : KF) (KE : KX) : ∀ F h, evX fx350 C lf [1, 1, 1, 1, 0] F h (fun F h => n (F 7) (F 8) (F 9) h) KR KE = q350_39 C lf n (F 7) (F 8) h := by
  intro F h; kernel_rfl
noncomputable def q350_40 (C : YC) (lf : Nat) (r : K1) (x7 x8 : O) (h : HW) : Rs :=
 q350_39 C lf (fun x7 x8 x9 h => q350_38 C lf r x7 x8 x9 h) x7 x8 h
theorem q350_40_eq (C : YC) (lf : Nat) (r : K1) (KN : KF) (KE : KX) : ∀ F h, evX fx350 C lf [1, 1, 1, 1] F h KN (fun F h => r (F 6) h) KE = q350_40 C lf r (F 7) (F 8) h := cSeq (a := subX fx350 [1, 1, 1, 1, 0]) (b := subX fx350 [1, 1, 1, 1, 1]) (by kernel_rfl) (B := (fun F h => q350_38 C lf r (F 7) (F 8) (F 9) h)) (q350_38_eq C lf r KN KE) (q350_39_eq C lf (fun x7 x8 x9 h => q350_38 C lf r x7 x8 x9 h) (fun F h => r (F 6) h) KE)
noncomputable def q350_43 (C : YC) (lf : Nat) (n : K2) (x2 x7 : O) (h : HW) : Rs :=
 ob x2 fun a41 =>
 bc (C (.fn 349) [a41] h) fun y42 h42 =>
 n x7 (some y42) h42
theorem q350_43_eq (C : YC) (lf : Nat) (n : K2) (KR : KF) (KE : KX) : ∀ F h, evX fx350 C lf [1, 1, 1, 0] F h (fun F h => n (F 7) (F 8) h) KR KE = q350_43 C lf n (F 2) (F 7) h := by
  intro F h; kernel_rfl
noncomputable def q350_44 (C : YC) (lf : Nat) (r : K1) (x2 x7 : O) (h : HW) : Rs :=
 q350_43 C lf (fun x7 x8 h => q350_40 C lf r x7 x8 h) x2 x7 h
theorem q350_44_eq (C : YC) (lf : Nat) (r : K1) (KN : KF) (KE : KX) : ∀ F h, evX fx350 C lf [1, 1, 1] F h KN (fun F h => r (F 6) h) KE = q350_44 C lf r (F 2) (F 7) h := cSeq (a := subX fx350 [1, 1, 1, 0]) (b := subX fx350 [1, 1, 1, 1]) (by kernel_rfl) (B := (fun F h => q350_40 C lf r (F 7) (F 8) h)) (q350_40_eq C lf r KN KE) (q350_43_eq C lf (fun x7 x8 h => q350_40 C lf r x7 x8 h) (fun F h => r (F 6) h) KE)
noncomputable def q350_52 (C : YC) (lf : Nat) (n : K2) (r : K1) (x2 x7 : O) (h : HW) : Rs :=
 ob x7 fun a45 =>
 ob x2 fun a46 =>
 ob (semNil a45) fun y47 =>
 ob (fa 12 y47) fun y48 =>
 ob (ixA 278 1 y48 a46) fun y49 =>
 ob (ld1 y49 h) fun y50 =>
 ob (bin Tryz.prog .gtr 3 y50 (.int .i64 0)) fun y51 =>
 yIf y51
 (r (some (.int .i64 0)) h)
 (n x2 x7 h)
theorem q350_52_eq (C : YC) (lf : Nat) (n : K2) (r : K1) (KE : KX) : ∀ F h, evX fx350 C lf [1, 1, 0] F h (fun F h => n (F 2) (F 7) h) (fun F h => r (F 6) h) KE = q350_52 C lf n r (F 2) (F 7) h := by
  intro F h; kernel_rfl
noncomputable def q350_53 (C : YC) (lf : Nat) (r : K1) (x2 x7 : O) (h : HW) : Rs :=
 q350_52 C lf (fun x2 x7 h => q350_44 C lf r x2 x7 h) r x2 x7 h
theorem q350_53_eq (C : YC) (lf : Nat) (r : K1) (KN : KF) (KE : KX) : ∀ F h, evX fx350 C lf [1, 1] F h KN (fun F h => r (F 6) h) KE = q350_53 C lf r (F 2) (F 7) h := cSeq (a := subX fx350 [1, 1, 0]) (b := subX fx350 [1, 1, 1]) (by kernel_rfl) (B := (fun F h => q350_44 C lf r (F 2) (F 7) h)) (q350_44_eq C lf r KN KE) (q350_52_eq C lf (fun x2 x7 h => q350_44 C lf r x2 x7 h) r KE)
noncomputable def q350_60 (C : YC) (lf : Nat) (n : K2) (x0 x1 x2 : O) (h : HW) : Rs :=
 ob x0 fun a54 =>
 ob (semNil a54) fun y55 =>
 ob (fa 4 y55) fun y56 =>
 ob (ld1 y56 h) fun y57 =>
 ob x1 fun a58 =>
 ob (ixS 308 y57 a58) fun y59 =>
 n x2 (some y59) h
theorem q350_60_eq (C : YC) (lf : Nat) (n : K2) (KR : KF) (KE : KX) : ∀ F h, evX fx350 C lf [1, 0] F h (fun F h => n (F 2) (F 7) h) KR KE = q350_60 C lf n (F 0) (F 1) (F 2) h := by
  intro F h; kernel_rfl
noncomputable def q350_61 (C : YC) (lf : Nat) (r : K1) (x0 x1 x2 : O) (h : HW) : Rs :=
 q350_60 C lf (fun x2 x7 h => q350_53 C lf r x2 x7 h) x0 x1 x2 h
theorem q350_61_eq (C : YC) (lf : Nat) (r : K1) (KN : KF) (KE : KX) : ∀ F h, evX fx350 C lf [1] F h KN (fun F h => r (F 6) h) KE = q350_61 C lf r (F 0) (F 1) (F 2) h := cSeq (a := subX fx350 [1, 0]) (b := subX fx350 [1, 1]) (by kernel_rfl) (B := (fun F h => q350_53 C lf r (F 2) (F 7) h)) (q350_53_eq C lf r KN KE) (q350_60_eq C lf (fun x2 x7 h => q350_53 C lf r x2 x7 h) (fun F h => r (F 6) h) KE)
noncomputable def q350_62 (C : YC) (lf : Nat) (n : K3) (x0 x1 x2 : O) (h : HW) : Rs :=
 n x0 x1 x2 h
theorem q350_62_eq (C : YC) (lf : Nat) (n : K3) (KR : KF) (KE : KX) : ∀ F h, evX fx350 C lf [0] F h (fun F h => n (F 0) (F 1) (F 2) h) KR KE = q350_62 C lf n (F 0) (F 1) (F 2) h := by
  intro F h; kernel_rfl
noncomputable def q350_63 (C : YC) (lf : Nat) (r : K1) (x0 x1 x2 : O) (h : HW) : Rs :=
 q350_62 C lf (fun x0 x1 x2 h => q350_61 C lf r x0 x1 x2 h) x0 x1 x2 h
theorem q350_63_eq (C : YC) (lf : Nat) (r : K1) (KN : KF) (KE : KX) : ∀ F h, evX fx350 C lf [] F h KN (fun F h => r (F 6) h) KE = q350_63 C lf r (F 0) (F 1) (F 2) h := cSeq (a := subX fx350 [0]) (b := subX fx350 [1]) (by kernel_rfl) (B := (fun F h => q350_61 C lf r (F 0) (F 1) (F 2) h)) (q350_61_eq C lf r KN KE) (q350_62_eq C lf (fun x0 x1 x2 h => q350_61 C lf r x0 x1 x2 h) (fun F h => r (F 6) h) KE)
noncomputable def fs350 (C : YC) (lf : Nat) (a0 a1 a2 : SV) (h : HW) : Rs := q350_63 C lf ff350 (some a0) (some a1) (some a2) h
theorem fs350_eq (C : YC) (lf : Nat) (a0 a1 a2 : SV) (h : HW) : yFn Tryz.prog fx350 C lf [a0, a1, a2] h = fs350 C lf a0 a1 a2 h := fnX (K := (fun F h => ff350 (F 6) h)) (by kernel_rfl) (((q350_63_eq C lf ff350 (fun F h => ff350 (F 6) h) (fun _ _ _ => none)) _ h).trans (by kernel_rfl))
noncomputable def fy350 : YX Tryz.prog := Y3 fx350 fs350 fs350_eq (by kernel_rfl)

/-! FN 351 (*tinsel/tinselref01.Store).Alloc -/
noncomputable def fx351 : XF Tryz.prog := ⟨351, Tryz.f351, fun r => bif Nat.beq r 6 then .ord [0, 1, 2, 4, 3, 5, 6, 7] [(5, [3])] else .text, Tryz.func351, by kernel_rfl, by kernel_rfl, by kernel_rfl, by kernel_rfl⟩
noncomputable def ff351 (x2 x3 : O) (h : HW) : Rs :=
 ob x2 fun a0 =>
 ob x3 fun a1 =>
 some (.ret (.tup [a0, a1]), h)
noncomputable def q351_2 (C : YC) (lf : Nat) (r : K2) (h : HW) : Rs :=
 r (some (.int .i64 0)) (some (.int .i64 28)) h
theorem q351_2_eq (C : YC) (lf : Nat) (r : K2) (KN : KF) (KE : KX) : ∀ F h, evX fx351 C lf [1, 1] F h KN (fun F h => r (F 2) (F 3) h) KE = q351_2 C lf r h := by
  intro F h; kernel_rfl
noncomputable def q351_28 (C : YC) (lf : Nat) (n : K4) (r : K2) (e0 : K0) (x0 x9 x10 x11 : O) (h : HW) : Rs :=
 ob x11 fun a4 =>
 ob x10 fun a5 =>
 ob (bin Tryz.prog .lss 3 a4 a5) fun y6 =>
 yIf y6
 (ob x11 fun a7 =>
 ob x9 fun a8 =>
 ob x11 fun a9 =>
 ob (ixS 1 a8 a9) fun y10 =>
 ob (ld1 y10 h) fun y11 =>
 ob (unE .not y11) fun y12 =>
 yIf y12
 (ob x0 fun a13 =>
 ob (semNil a13) fun y14 =>
 ob (fa 0 y14) fun y15 =>
 ob (ld1 y15 h) fun y16 =>
 ob (ixS 1 y16 a7) fun y17 =>
 ob (st 1 y17 (.bool true) h) fun h18 =>
 ob x0 fun a19 =>
 ob (semNil a19) fun y20 =>
 ob (fa 1 y20) fun y21 =>
 ob (ld1 y21 h18) fun y22 =>
 b2 (ymk Tryz.prog 31 (.int .i64 64) (.int .i64 64) h18) fun y23 h23 =>
 ck (chkH [(3, adrO (some y21))] h18 h23 [3]) <|
 ob (ixS 1 y22 a7) fun y24 =>
 ob (st 1 y24 y23 h23) fun h25 =>
 r (some a7) (some (.int .i64 0)) h25)
 (ob x11 fun a26 =>
 ob (bin Tryz.prog .add 3 a26 (.int .i64 1)) fun y27 =>
 n x0 x9 x10 (some y27) h))
 (e0 h)
theorem q351_28_eq (C : YC) (lf : Nat) (n : K4) (r : K2) (e0 : K0) (KE : KX) : ∀ F h, evX fx351 C lf [1, 0, 1, 0, 0] F h (fun F h => n (F 0) (F 9) (F 10) (F 11) h) (fun F h => r (F 2) (F 3) h) (bk 0 (fun F h => e0 h) KE) = q351_28 C lf n r e0 (F 0) (F 9) (F 10) (F 11) h := by
  intro F h; kernel_rfl
noncomputable def l351_3 (C : YC) (lf : Nat) (r : K2) (e0 : K0) (k : O × O × O × O → HW → Rs) (s : O × O × O × O) (h : HW) : Rs :=
 q351_28 C lf (fun x0 x9 x10 x11 h => k (x0, x9, x10, x11) h) r e0 s.1 s.2.1 s.2.2.1 s.2.2.2 h
noncomputable def q351_34 (C : YC) (lf : Nat) (n : K4) (x0 : O) (h : HW) : Rs :=
 ob x0 fun a29 =>
 ob (semNil a29) fun y30 =>
 ob (fa 0 y30) fun y31 =>
 ob (ld1 y31 h) fun y32 =>
 ob (lenE Tryz.prog 106 y32) fun y33 =>
 n x0 (some y32) (some y33) (some (.int .i64 0)) h
theorem q351_34_eq (C : YC) (lf : Nat) (n : K4) (KR : KF) (KE : KX) : ∀ F h, evX fx351 C lf [1, 0, 0] F h (fun F h => n (F 0) (F 9) (F 10) (F 11) h) KR KE = q351_34 C lf n (F 0) h := by
  intro F h; kernel_rfl
noncomputable def q351_35 (C : YC) (lf : Nat) (n : K0) (r : K2) (x0 : O) (h : HW) : Rs :=
 q351_34 C lf (fun x0 x9 x10 x11 h => lp (l351_3 C lf r n) lf (x0, x9, x10, x11) h) x0 h
theorem q351_35_eq (C : YC) (lf : Nat) (n : K0) (r : K2) (KE : KX) : ∀ F h, evX fx351 C lf [1, 0] F h (fun F h => n h) (fun F h => r (F 2) (F 3) h) KE = q351_35 C lf n r (F 0) h := cSeq (a := subX fx351 [1, 0, 0]) (b := subX fx351 [1, 0, 1]) (by kernel_rfl) (B := (fun F h => lp (l351_3 C lf r n) lf ((F 0), (F 9), (F 10), (F 11)) h)) (cBlock (id := 0) (a := subX fx351 [1, 0, 1, 0]) (by kernel_rfl) (cLoop (a := subX fx351 [1, 0, 1, 0, 0]) (g := fun F => (F 0, F 9, F 10, F 11)) (body := l351_3 C lf r n) (by kernel_rfl) (fun k => (q351_28_eq C lf (fun x0 x9 x10 x11 h => k (x0, x9, x10, x11) h) r n KE)))) (q351_34_eq C lf (fun x0 x9 x10 x11 h => lp (l351_3 C lf r n) lf (x0, x9, x10, x11) h) (fun F h => r (F 2) (F 3) h) KE)
noncomputable def q351_36 (C : YC) (lf : Nat) (r : K2) (x0 : O) (h : HW) : Rs :=
 q351_35 C lf (fun h => q351_2 C lf r h) r x0 h
theorem q351_36_eq (C : YC) (lf : Nat) (r : K2) (KN : KF) (KE : KX) : ∀ F h, evX fx351 C lf [1] F h KN (fun F h => r (F 2) (F 3) h) KE = q351_36 C lf r (F 0) h := cSeq (a := subX fx351 [1, 0]) (b := subX fx351 [1, 1]) (by kernel_rfl) (B := (fun F h => q351_2 C lf r h)) (q351_2_eq C lf r KN KE) (q351_35_eq C lf (fun h => q351_2 C lf r h) r KE)
noncomputable def q351_37 (C : YC) (lf : Nat) (n : K1) (x0 : O) (h : HW) : Rs :=
 n x0 h
theorem q351_37_eq (C : YC) (lf : Nat) (n : K1) (KR : KF) (KE : KX) : ∀ F h, evX fx351 C lf [0] F h (fun F h => n (F 0) h) KR KE = q351_37 C lf n (F 0) h := by
  intro F h; kernel_rfl
noncomputable def q351_38 (C : YC) (lf : Nat) (r : K2) (x0 : O) (h : HW) : Rs :=
 q351_37 C lf (fun x0 h => q351_36 C lf r x0 h) x0 h
theorem q351_38_eq (C : YC) (lf : Nat) (r : K2) (KN : KF) (KE : KX) : ∀ F h, evX fx351 C lf [] F h KN (fun F h => r (F 2) (F 3) h) KE = q351_38 C lf r (F 0) h := cSeq (a := subX fx351 [0]) (b := subX fx351 [1]) (by kernel_rfl) (B := (fun F h => q351_36 C lf r (F 0) h)) (q351_36_eq C lf r KN KE) (q351_37_eq C lf (fun x0 h => q351_36 C lf r x0 h) (fun F h => r (F 2) (F 3) h) KE)
noncomputable def fs351 (C : YC) (lf : Nat) (a0 : SV) (h : HW) : Rs := q351_38 C lf ff351 (some a0) h
theorem fs351_eq (C : YC) (lf : Nat) (a0 : SV) (h : HW) : yFn Tryz.prog fx351 C lf [a0] h = fs351 C lf a0 h := fnX (K := (fun F h => ff351 (F 2) (F 3) h)) (by kernel_rfl) (((q351_38_eq C lf ff351 (fun F h => ff351 (F 2) (F 3) h) (fun _ _ _ => none)) _ h).trans (by kernel_rfl))
noncomputable def fy351 : YX Tryz.prog := Y1 fx351 fs351 fs351_eq (by kernel_rfl)

/-! FN 355 tinsel/tinselref04.Spare -/
noncomputable def fx355 : XF Tryz.prog := ⟨355, Tryz.f355, fun _ => .text, Tryz.func355, by kernel_rfl, by kernel_rfl, by kernel_rfl, by kernel_rfl⟩
noncomputable def ff355 (x4 x5 : O) (h : HW) : Rs :=
 ob x4 fun a0 =>
 ob x5 fun a1 =>
 some (.ret (.tup [a0, a1]), h)
noncomputable def q355_15 (C : YC) (lf : Nat) (r : K2) (x0 x1 : O) (h : HW) : Rs :=
 ob x0 fun a2 =>
 ob x1 fun a3 =>
 bc (C (.fn 362) [a2, a3] h) fun y4 h4 =>
 ob (ext 0 y4) fun y5 =>
 ob (ext 1 y4) fun y6 =>
 ob (ext 2 y4) fun y7 =>
 ob (bin Tryz.prog .neq 3 y7 (.int .i64 0)) fun y8 =>
 yIf y8
 (r (some (.int .i64 0)) (some y7) h4)
 (ob x0 fun a9 =>
 ob x1 fun a10 =>
 bc (C (.fn 339) [a9, a10] h4) fun y11 h11 =>
 ob (lenE Tryz.prog 385 y11) fun y12 =>
 ob (lenE Tryz.prog 123 y5) fun y13 =>
 ob (bin Tryz.prog .sub 3 y12 y13) fun y14 =>
 r (some y14) (some (.int .i64 0)) h11)
theorem q355_15_eq (C : YC) (lf : Nat) (r : K2) (KN : KF) (KE : KX) : ∀ F h, evX fx355 C lf [] F h KN (fun F h => r (F 4) (F 5) h) KE = q355_15 C lf r (F 0) (F 1) h := by
  intro F h; kernel_rfl
noncomputable def fs355 (C : YC) (lf : Nat) (a0 a1 : SV) (h : HW) : Rs := q355_15 C lf ff355 (some a0) (some a1) h
theorem fs355_eq (C : YC) (lf : Nat) (a0 a1 : SV) (h : HW) : yFn Tryz.prog fx355 C lf [a0, a1] h = fs355 C lf a0 a1 h := fnX (K := (fun F h => ff355 (F 4) (F 5) h)) (by kernel_rfl) (((q355_15_eq C lf ff355 (fun F h => ff355 (F 4) (F 5) h) (fun _ _ _ => none)) _ h).trans (by kernel_rfl))
noncomputable def fy355 : YX Tryz.prog := Y2 fx355 fs355 fs355_eq (by kernel_rfl)

/-! FN 356 tinsel/tinselref04.Name -/
noncomputable def fx356 : XF Tryz.prog := ⟨356, Tryz.f356, fun _ => .text, Tryz.func356, by kernel_rfl, by kernel_rfl, by kernel_rfl, by kernel_rfl⟩
noncomputable def ff356 (x2 : O) (h : HW) : Rs :=
 ob x2 fun a0 =>
 some (.ret a0, h)
noncomputable def q356_6 (C : YC) (lf : Nat) (r : K1) (x0 : O) (h : HW) : Rs :=
 ob x0 fun a1 =>
 ob (bin Tryz.prog .eql 9 a1 (.str (bs []))) fun y2 =>
 yIf y2
 (r (some (.int .i64 22)) h)
 (ob x0 fun a3 =>
 ob (lenE Tryz.prog 9 a3) fun y4 =>
 ob (bin Tryz.prog .gtr 3 y4 (.int .i64 27)) fun y5 =>
 yIf y5
 (r (some (.int .i64 36)) h)
 (r (some (.int .i64 0)) h))
theorem q356_6_eq (C : YC) (lf : Nat) (r : K1) (KN : KF) (KE : KX) : ∀ F h, evX fx356 C lf [1, 1] F h KN (fun F h => r (F 2) h) KE = q356_6 C lf r (F 0) h := by
  intro F h; kernel_rfl
noncomputable def q356_25 (C : YC) (lf : Nat) (n : K3) (r : K1) (e0 : K1) (x0 x5 x6 : O) (h : HW) : Rs :=
 ob x6 fun a8 =>
 ob x5 fun a9 =>
 ob (bin Tryz.prog .lss 3 a8 a9) fun y10 =>
 yIf y10
 (ob x6 fun a11 =>
 ob x0 fun a12 =>
 ob (semIndex Tryz.prog 9 a12 a11) fun y13 =>
 ob (bin Tryz.prog .eql 5 y13 (.int .u8 47)) fun y14 =>
 bc (gd false (some y14) (ob x0 fun a15 =>
 some (.ret a15, h)) h) fun y16 h16 =>
 bc (gd false (some y14) (some (.ret a11, h16)) h16) fun y17 h17 =>
 bc (gd false (some y14) (ob (semIndex Tryz.prog 9 y16 y17) fun y18 =>
 some (.ret y18, h17)) h17) fun y19 h19 =>
 bc (gd false (some y14) (ob (bin Tryz.prog .eql 5 y19 (.int .u8 0)) fun y20 =>
 some (.ret y20, h19)) h19) fun y21 h21 =>
 ob (ypk y14 (.bool true) y21) fun y22 =>
 yIf y22
 (r (some (.int .i64 22)) h21)
 (ob x6 fun a23 =>
 ob (bin Tryz.prog .add 3 a23 (.int .i64 1)) fun y24 =>
 n x0 x5 (some y24) h21))
 (e0 x0 h)
theorem q356_25_eq (C : YC) (lf : Nat) (n : K3) (r : K1) (e0 : K1) (KE : KX) : ∀ F h, evX fx356 C lf [1, 0, 1, 0, 0] F h (fun F h => n (F 0) (F 5) (F 6) h) (fun F h => r (F 2) h) (bk 0 (fun F h => e0 (F 0) h) KE) = q356_25 C lf n r e0 (F 0) (F 5) (F 6) h := by
  intro F h; kernel_rfl
noncomputable def l356_7 (C : YC) (lf : Nat) (r : K1) (e0 : K1) (k : O × O × O → HW → Rs) (s : O × O × O) (h : HW) : Rs :=
 q356_25 C lf (fun x0 x5 x6 h => k (x0, x5, x6) h) r e0 s.1 s.2.1 s.2.2 h
noncomputable def q356_28 (C : YC) (lf : Nat) (n : K3) (x0 : O) (h : HW) : Rs :=
 ob x0 fun a26 =>
 ob (lenE Tryz.prog 9 a26) fun y27 =>
 n x0 (some y27) (some (.int .i64 0)) h
theorem q356_28_eq (C : YC) (lf : Nat) (n : K3) (KR : KF) (KE : KX) : ∀ F h, evX fx356 C lf [1, 0, 0] F h (fun F h => n (F 0) (F 5) (F 6) h) KR KE = q356_28 C lf n (F 0) h := by
  intro F h; kernel_rfl
noncomputable def q356_29 (C : YC) (lf : Nat) (n : K1) (r : K1) (x0 : O) (h : HW) : Rs :=
 q356_28 C lf (fun x0 x5 x6 h => lp (l356_7 C lf r n) lf (x0, x5, x6) h) x0 h
theorem q356_29_eq (C : YC) (lf : Nat) (n : K1) (r : K1) (KE : KX) : ∀ F h, evX fx356 C lf [1, 0] F h (fun F h => n (F 0) h) (fun F h => r (F 2) h) KE = q356_29 C lf n r (F 0) h := cSeq (a := subX fx356 [1, 0, 0]) (b := subX fx356 [1, 0, 1]) (by kernel_rfl) (B := (fun F h => lp (l356_7 C lf r n) lf ((F 0), (F 5), (F 6)) h)) (cBlock (id := 0) (a := subX fx356 [1, 0, 1, 0]) (by kernel_rfl) (cLoop (a := subX fx356 [1, 0, 1, 0, 0]) (g := fun F => (F 0, F 5, F 6)) (body := l356_7 C lf r n) (by kernel_rfl) (fun k => (q356_25_eq C lf (fun x0 x5 x6 h => k (x0, x5, x6) h) r n KE)))) (q356_28_eq C lf (fun x0 x5 x6 h => lp (l356_7 C lf r n) lf (x0, x5, x6) h) (fun F h => r (F 2) h) KE)
noncomputable def q356_30 (C : YC) (lf : Nat) (r : K1) (x0 : O) (h : HW) : Rs :=
 q356_29 C lf (fun x0 h => q356_6 C lf r x0 h) r x0 h
theorem q356_30_eq (C : YC) (lf : Nat) (r : K1) (KN : KF) (KE : KX) : ∀ F h, evX fx356 C lf [1] F h KN (fun F h => r (F 2) h) KE = q356_30 C lf r (F 0) h := cSeq (a := subX fx356 [1, 0]) (b := subX fx356 [1, 1]) (by kernel_rfl) (B := (fun F h => q356_6 C lf r (F 0) h)) (q356_6_eq C lf r KN KE) (q356_29_eq C lf (fun x0 h => q356_6 C lf r x0 h) r KE)
noncomputable def q356_31 (C : YC) (lf : Nat) (n : K1) (x0 : O) (h : HW) : Rs :=
 n x0 h
theorem q356_31_eq (C : YC) (lf : Nat) (n : K1) (KR : KF) (KE : KX) : ∀ F h, evX fx356 C lf [0] F h (fun F h => n (F 0) h) KR KE = q356_31 C lf n (F 0) h := by
  intro F h; kernel_rfl
noncomputable def q356_32 (C : YC) (lf : Nat) (r : K1) (x0 : O) (h : HW) : Rs :=
 q356_31 C lf (fun x0 h => q356_30 C lf r x0 h) x0 h
theorem q356_32_eq (C : YC) (lf : Nat) (r : K1) (KN : KF) (KE : KX) : ∀ F h, evX fx356 C lf [] F h KN (fun F h => r (F 2) h) KE = q356_32 C lf r (F 0) h := cSeq (a := subX fx356 [0]) (b := subX fx356 [1]) (by kernel_rfl) (B := (fun F h => q356_30 C lf r (F 0) h)) (q356_30_eq C lf r KN KE) (q356_31_eq C lf (fun x0 h => q356_30 C lf r x0 h) (fun F h => r (F 2) h) KE)
noncomputable def fs356 (C : YC) (lf : Nat) (a0 : SV) (h : HW) : Rs := q356_32 C lf ff356 (some a0) h
theorem fs356_eq (C : YC) (lf : Nat) (a0 : SV) (h : HW) : yFn Tryz.prog fx356 C lf [a0] h = fs356 C lf a0 h := fnX (K := (fun F h => ff356 (F 2) h)) (by kernel_rfl) (((q356_32_eq C lf ff356 (fun F h => ff356 (F 2) h) (fun _ _ _ => none)) _ h).trans (by kernel_rfl))
noncomputable def fy356 : YX Tryz.prog := Y1 fx356 fs356 fs356_eq (by kernel_rfl)

/-! FN 357 tinsel/tinselref04.name -/
noncomputable def fx357 : XF Tryz.prog := ⟨357, Tryz.f357, fun _ => .text, Tryz.func357, by kernel_rfl, by kernel_rfl, by kernel_rfl, by kernel_rfl⟩
noncomputable def ff357 (x2 : O) (h : HW) : Rs :=
 ob x2 fun a0 =>
 some (.ret a0, h)
noncomputable def q357_5 (C : YC) (lf : Nat) (r : K1) (x0 x3 : O) (h : HW) : Rs :=
 ob x0 fun a1 =>
 ob x3 fun a2 =>
 ob (semSlice Tryz.prog 31 a1 (some (.int .i64 4)) (some a2)) fun y3 =>
 b2 (ycv Tryz.prog 31 9 y3 h) fun y4 h4 =>
 r (some y4) h4
theorem q357_5_eq (C : YC) (lf : Nat) (r : K1) (KN : KF) (KE : KX) : ∀ F h, evX fx357 C lf [1, 1, 1] F h KN (fun F h => r (F 2) h) KE = q357_5 C lf r (F 0) (F 3) h := by
  intro F h; kernel_rfl
noncomputable def q357_22 (C : YC) (lf : Nat) (n : K2) (e0 : K2) (x0 x3 : O) (h : HW) : Rs :=
 ob x3 fun a7 =>
 ob (bin Tryz.prog .lss 3 a7 (.int .i64 32)) fun y8 =>
 bc (gd true (some y8) (ob x0 fun a9 =>
 some (.ret a9, h)) h) fun y10 h10 =>
 bc (gd true (some y8) (ob x3 fun a11 =>
 some (.ret a11, h10)) h10) fun y12 h12 =>
 bc (gd true (some y8) (ob (ixS 1 y10 y12) fun y13 =>
 some (.ret y13, h12)) h12) fun y14 h14 =>
 bc (gd true (some y8) (ob (ld1 y14 h14) fun y15 =>
 some (.ret y15, h14)) h14) fun y16 h16 =>
 bc (gd true (some y8) (ob (bin Tryz.prog .neq 5 y16 (.int .u8 0)) fun y17 =>
 some (.ret y17, h16)) h16) fun y18 h18 =>
 ob (ypk y8 y18 (.bool false)) fun y19 =>
 yIf y19
 (ob x3 fun a20 =>
 ob (bin Tryz.prog .add 3 a20 (.int .i64 1)) fun y21 =>
 n x0 (some y21) h18)
 (e0 x0 x3 h18)
theorem q357_22_eq (C : YC) (lf : Nat) (n : K2) (e0 : K2) (KR : KF) (KE : KX) : ∀ F h, evX fx357 C lf [1, 1, 0, 0, 0] F h (fun F h => n (F 0) (F 3) h) KR (bk 0 (fun F h => e0 (F 0) (F 3) h) KE) = q357_22 C lf n e0 (F 0) (F 3) h := by
  intro F h; kernel_rfl
noncomputable def l357_6 (C : YC) (lf : Nat) (e0 : K2) (k : O × O → HW → Rs) (s : O × O) (h : HW) : Rs :=
 q357_22 C lf (fun x0 x3 h => k (x0, x3) h) e0 s.1 s.2 h
noncomputable def q357_23 (C : YC) (lf : Nat) (r : K1) (x0 x3 : O) (h : HW) : Rs :=
 lp (l357_6 C lf (fun x0 x3 h => q357_5 C lf r x0 x3 h)) lf (x0, x3) h
theorem q357_23_eq (C : YC) (lf : Nat) (r : K1) (KN : KF) (KE : KX) : ∀ F h, evX fx357 C lf [1, 1] F h KN (fun F h => r (F 2) h) KE = q357_23 C lf r (F 0) (F 3) h := cSeq (a := subX fx357 [1, 1, 0]) (b := subX fx357 [1, 1, 1]) (by kernel_rfl) (B := (fun F h => q357_5 C lf r (F 0) (F 3) h)) (q357_5_eq C lf r KN KE) (cBlock (id := 0) (a := subX fx357 [1, 1, 0, 0]) (by kernel_rfl) (cLoop (a := subX fx357 [1, 1, 0, 0, 0]) (g := fun F => (F 0, F 3)) (body := l357_6 C lf (fun x0 x3 h => q357_5 C lf r x0 x3 h)) (by kernel_rfl) (fun k => (q357_22_eq C lf (fun x0 x3 h => k (x0, x3) h) (fun x0 x3 h => q357_5 C lf r x0 x3 h) (fun F h => r (F 2) h) KE))))
noncomputable def q357_24 (C : YC) (lf : Nat) (n : K2) (x0 : O) (h : HW) : Rs :=
 n x0 (some (.int .i64 4)) h
theorem q357_24_eq (C : YC) (lf : Nat) (n : K2) (KR : KF) (KE : KX) : ∀ F h, evX fx357 C lf [1, 0] F h (fun F h => n (F 0) (F 3) h) KR KE = q357_24 C lf n (F 0) h := by
  intro F h; kernel_rfl
noncomputable def q357_25 (C : YC) (lf : Nat) (r : K1) (x0 : O) (h : HW) : Rs :=
 q357_24 C lf (fun x0 x3 h => q357_23 C lf r x0 x3 h) x0 h
theorem q357_25_eq (C : YC) (lf : Nat) (r : K1) (KN : KF) (KE : KX) : ∀ F h, evX fx357 C lf [1] F h KN (fun F h => r (F 2) h) KE = q357_25 C lf r (F 0) h := cSeq (a := subX fx357 [1, 0]) (b := subX fx357 [1, 1]) (by kernel_rfl) (B := (fun F h => q357_23 C lf r (F 0) (F 3) h)) (q357_23_eq C lf r KN KE) (q357_24_eq C lf (fun x0 x3 h => q357_23 C lf r x0 x3 h) (fun F h => r (F 2) h) KE)
noncomputable def q357_26 (C : YC) (lf : Nat) (n : K1) (x0 : O) (h : HW) : Rs :=
 n x0 h
theorem q357_26_eq (C : YC) (lf : Nat) (n : K1) (KR : KF) (KE : KX) : ∀ F h, evX fx357 C lf [0] F h (fun F h => n (F 0) h) KR KE = q357_26 C lf n (F 0) h := by
  intro F h; kernel_rfl
noncomputable def q357_27 (C : YC) (lf : Nat) (r : K1) (x0 : O) (h : HW) : Rs :=
 q357_26 C lf (fun x0 h => q357_25 C lf r x0 h) x0 h
theorem q357_27_eq (C : YC) (lf : Nat) (r : K1) (KN : KF) (KE : KX) : ∀ F h, evX fx357 C lf [] F h KN (fun F h => r (F 2) h) KE = q357_27 C lf r (F 0) h := cSeq (a := subX fx357 [0]) (b := subX fx357 [1]) (by kernel_rfl) (B := (fun F h => q357_25 C lf r (F 0) h)) (q357_25_eq C lf r KN KE) (q357_26_eq C lf (fun x0 h => q357_25 C lf r x0 h) (fun F h => r (F 2) h) KE)
noncomputable def fs357 (C : YC) (lf : Nat) (a0 : SV) (h : HW) : Rs := q357_27 C lf ff357 (some a0) h
theorem fs357_eq (C : YC) (lf : Nat) (a0 : SV) (h : HW) : yFn Tryz.prog fx357 C lf [a0] h = fs357 C lf a0 h := fnX (K := (fun F h => ff357 (F 2) h)) (by kernel_rfl) (((q357_27_eq C lf ff357 (fun F h => ff357 (F 2) h) (fun _ _ _ => none)) _ h).trans (by kernel_rfl))
noncomputable def fy357 : YX Tryz.prog := Y1 fx357 fs357 fs357_eq (by kernel_rfl)

/-! FN 358 strings.IndexAny -/
noncomputable def fx358 : XF Tryz.prog := ⟨358, Tryz.f358, fun _ => .text, Tryz.func358, by kernel_rfl, by kernel_rfl, by kernel_rfl, by kernel_rfl⟩
noncomputable def ff358 (x4 : O) (h : HW) : Rs :=
 ob x4 fun a0 =>
 some (.ret a0, h)
noncomputable def q358_1 (C : YC) (lf : Nat) (r : K1) (h : HW) : Rs :=
 r (some (.int .i64 (-1))) h
theorem q358_1_eq (C : YC) (lf : Nat) (r : K1) (KN : KF) (KE : KX) : ∀ F h, evX fx358 C lf [1, 1, 1, 1, 1] F h KN (fun F h => r (F 4) h) KE = q358_1 C lf r h := by
  intro F h; kernel_rfl
noncomputable def q358_11 (C : YC) (lf : Nat) (n : K2) (r : K1) (e2 : K0) (x1 x45 : O) (h : HW) : Rs :=
 ob x45 fun a3 =>
 b2 (ynx a3 h) fun y4 h4 =>
 ob (ext 0 y4) fun y5 =>
 yIf y5
 (ob (ext 1 y4) fun y6 =>
 ob (ext 2 y4) fun y7 =>
 ob x1 fun a8 =>
 bc (C (.fn 363) [a8, y7] h4) fun y9 h9 =>
 ob (bin Tryz.prog .geq 3 y9 (.int .i64 0)) fun y10 =>
 yIf y10
 (r (some y6) h9)
 (n x1 x45 h9))
 (e2 h4)
theorem q358_11_eq (C : YC) (lf : Nat) (n : K2) (r : K1) (e2 : K0) (KE : KX) : ∀ F h, evX fx358 C lf [1, 1, 1, 1, 0, 1, 0, 0] F h (fun F h => n (F 1) (F 45) h) (fun F h => r (F 4) h) (bk 2 (fun F h => e2 h) KE) = q358_11 C lf n r e2 (F 1) (F 45) h := by
  intro F h; kernel_rfl
noncomputable def l358_2 (C : YC) (lf : Nat) (r : K1) (e2 : K0) (k : O × O → HW → Rs) (s : O × O) (h : HW) : Rs :=
 q358_11 C lf (fun x1 x45 h => k (x1, x45) h) r e2 s.1 s.2 h
noncomputable def q358_14 (C : YC) (lf : Nat) (n : K2) (x0 x1 : O) (h : HW) : Rs :=
 ob x0 fun a12 =>
 b2 (yrg Tryz.prog 9 a12 h) fun y13 h13 =>
 n x1 (some y13) h13
theorem q358_14_eq (C : YC) (lf : Nat) (n : K2) (KR : KF) (KE : KX) : ∀ F h, evX fx358 C lf [1, 1, 1, 1, 0, 0] F h (fun F h => n (F 1) (F 45) h) KR KE = q358_14 C lf n (F 0) (F 1) h := by
  intro F h; kernel_rfl
noncomputable def q358_15 (C : YC) (lf : Nat) (n : K0) (r : K1) (x0 x1 : O) (h : HW) : Rs :=
 q358_14 C lf (fun x1 x45 h => lp (l358_2 C lf r n) lf (x1, x45) h) x0 x1 h
theorem q358_15_eq (C : YC) (lf : Nat) (n : K0) (r : K1) (KE : KX) : ∀ F h, evX fx358 C lf [1, 1, 1, 1, 0] F h (fun F h => n h) (fun F h => r (F 4) h) KE = q358_15 C lf n r (F 0) (F 1) h := cSeq (a := subX fx358 [1, 1, 1, 1, 0, 0]) (b := subX fx358 [1, 1, 1, 1, 0, 1]) (by kernel_rfl) (B := (fun F h => lp (l358_2 C lf r n) lf ((F 1), (F 45)) h)) (cBlock (id := 2) (a := subX fx358 [1, 1, 1, 1, 0, 1, 0]) (by kernel_rfl) (cLoop (a := subX fx358 [1, 1, 1, 1, 0, 1, 0, 0]) (g := fun F => (F 1, F 45)) (body := l358_2 C lf r n) (by kernel_rfl) (fun k => (q358_11_eq C lf (fun x1 x45 h => k (x1, x45) h) r n KE)))) (q358_14_eq C lf (fun x1 x45 h => lp (l358_2 C lf r n) lf (x1, x45) h) (fun F h => r (F 4) h) KE)
noncomputable def q358_16 (C : YC) (lf : Nat) (r : K1) (x0 x1 : O) (h : HW) : Rs :=
 q358_15 C lf (fun h => q358_1 C lf r h) r x0 x1 h
theorem q358_16_eq (C : YC) (lf : Nat) (r : K1) (KN : KF) (KE : KX) : ∀ F h, evX fx358 C lf [1, 1, 1, 1] F h KN (fun F h => r (F 4) h) KE = q358_16 C lf r (F 0) (F 1) h := cSeq (a := subX fx358 [1, 1, 1, 1, 0]) (b := subX fx358 [1, 1, 1, 1, 1]) (by kernel_rfl) (B := (fun F h => q358_1 C lf r h)) (q358_1_eq C lf r KN KE) (q358_15_eq C lf (fun h => q358_1 C lf r h) r KE)
noncomputable def q358_17 (C : YC) (lf : Nat) (r : K1) (h : HW) : Rs :=
 r (some (.int .i64 (-1))) h
theorem q358_17_eq (C : YC) (lf : Nat) (r : K1) (KN : KF) (KE : KX) : ∀ F h, evX fx358 C lf [1, 1, 1, 0, 1, 0, 1, 1, 0, 1] F h KN (fun F h => r (F 4) h) KE = q358_17 C lf r h := by
  intro F h; kernel_rfl
noncomputable def q358_31 (C : YC) (lf : Nat) (n : K3) (r : K1) (e0 : K0) (x0 x6 x8 : O) (h : HW) : Rs :=
 ob x8 fun a19 =>
 ob x0 fun a20 =>
 ob (lenE Tryz.prog 9 a20) fun y21 =>
 ob (bin Tryz.prog .lss 3 a19 y21) fun y22 =>
 yIf y22
 (ob x0 fun a23 =>
 ob x8 fun a24 =>
 ob (semIndex Tryz.prog 9 a23 a24) fun y25 =>
 ob x6 fun a26 =>
 bc (C (.fn 366) [a26, y25] h) fun y27 h27 =>
 yIf y27
 (ob x8 fun a28 =>
 r (some a28) h27)
 (ob x8 fun a29 =>
 ob (bin Tryz.prog .add 3 a29 (.int .i64 1)) fun y30 =>
 n x0 x6 (some y30) h27))
 (e0 h)
theorem q358_31_eq (C : YC) (lf : Nat) (n : K3) (r : K1) (e0 : K0) (KE : KX) : ∀ F h, evX fx358 C lf [1, 1, 1, 0, 1, 0, 1, 1, 0, 0, 1, 0, 0] F h (fun F h => n (F 0) (F 6) (F 8) h) (fun F h => r (F 4) h) (bk 0 (fun F h => e0 h) KE) = q358_31 C lf n r e0 (F 0) (F 6) (F 8) h := by
  intro F h; kernel_rfl
noncomputable def l358_18 (C : YC) (lf : Nat) (r : K1) (e0 : K0) (k : O × O × O → HW → Rs) (s : O × O × O) (h : HW) : Rs :=
 q358_31 C lf (fun x0 x6 x8 h => k (x0, x6, x8) h) r e0 s.1 s.2.1 s.2.2 h
noncomputable def q358_32 (C : YC) (lf : Nat) (n : K3) (x0 x6 : O) (h : HW) : Rs :=
 n x0 x6 (some (.int .i64 0)) h
theorem q358_32_eq (C : YC) (lf : Nat) (n : K3) (KR : KF) (KE : KX) : ∀ F h, evX fx358 C lf [1, 1, 1, 0, 1, 0, 1, 1, 0, 0, 0] F h (fun F h => n (F 0) (F 6) (F 8) h) KR KE = q358_32 C lf n (F 0) (F 6) h := by
  intro F h; kernel_rfl
noncomputable def q358_33 (C : YC) (lf : Nat) (n : K0) (r : K1) (x0 x6 : O) (h : HW) : Rs :=
 q358_32 C lf (fun x0 x6 x8 h => lp (l358_18 C lf r n) lf (x0, x6, x8) h) x0 x6 h
theorem q358_33_eq (C : YC) (lf : Nat) (n : K0) (r : K1) (KE : KX) : ∀ F h, evX fx358 C lf [1, 1, 1, 0, 1, 0, 1, 1, 0, 0] F h (fun F h => n h) (fun F h => r (F 4) h) KE = q358_33 C lf n r (F 0) (F 6) h := cSeq (a := subX fx358 [1, 1, 1, 0, 1, 0, 1, 1, 0, 0, 0]) (b := subX fx358 [1, 1, 1, 0, 1, 0, 1, 1, 0, 0, 1]) (by kernel_rfl) (B := (fun F h => lp (l358_18 C lf r n) lf ((F 0), (F 6), (F 8)) h)) (cBlock (id := 0) (a := subX fx358 [1, 1, 1, 0, 1, 0, 1, 1, 0, 0, 1, 0]) (by kernel_rfl) (cLoop (a := subX fx358 [1, 1, 1, 0, 1, 0, 1, 1, 0, 0, 1, 0, 0]) (g := fun F => (F 0, F 6, F 8)) (body := l358_18 C lf r n) (by kernel_rfl) (fun k => (q358_31_eq C lf (fun x0 x6 x8 h => k (x0, x6, x8) h) r n KE)))) (q358_32_eq C lf (fun x0 x6 x8 h => lp (l358_18 C lf r n) lf (x0, x6, x8) h) (fun F h => r (F 4) h) KE)
noncomputable def q358_34 (C : YC) (lf : Nat) (r : K1) (x0 x6 : O) (h : HW) : Rs :=
 q358_33 C lf (fun h => q358_17 C lf r h) r x0 x6 h
theorem q358_34_eq (C : YC) (lf : Nat) (r : K1) (KN : KF) (KE : KX) : ∀ F h, evX fx358 C lf [1, 1, 1, 0, 1, 0, 1, 1, 0] F h KN (fun F h => r (F 4) h) KE = q358_34 C lf r (F 0) (F 6) h := cSeq (a := subX fx358 [1, 1, 1, 0, 1, 0, 1, 1, 0, 0]) (b := subX fx358 [1, 1, 1, 0, 1, 0, 1, 1, 0, 1]) (by kernel_rfl) (B := (fun F h => q358_17 C lf r h)) (q358_17_eq C lf r KN KE) (q358_33_eq C lf (fun h => q358_17 C lf r h) r KE)
noncomputable def q358_35 (C : YC) (lf : Nat) (n : K2) (x0 x1 : O) (h : HW) : Rs :=
 n x0 x1 h
theorem q358_35_eq (C : YC) (lf : Nat) (n : K2) (KR : KF) (KE : KX) : ∀ F h, evX fx358 C lf [1, 1, 1, 0, 1, 0, 1, 1, 1] F h (fun F h => n (F 0) (F 1) h) KR KE = q358_35 C lf n (F 0) (F 1) h := by
  intro F h; kernel_rfl
noncomputable def q358_37 (C : YC) (lf : Nat) (n : K2) (r : K1) (x0 x1 x6 x32 : O) (h : HW) : Rs :=
 ob x32 fun a36 =>
 yIf a36
 (q358_34 C lf r x0 x6 h)
 (q358_35 C lf n x0 x1 h)
theorem q358_37_eq (C : YC) (lf : Nat) (n : K2) (r : K1) (KE : KX) : ∀ F h, evX fx358 C lf [1, 1, 1, 0, 1, 0, 1, 1] F h (fun F h => n (F 0) (F 1) h) (fun F h => r (F 4) h) KE = q358_37 C lf n r (F 0) (F 1) (F 6) (F 32) h := cCond (x := .tmp 32) (by kernel_rfl) (q358_34_eq C lf r (fun F h => n (F 0) (F 1) h) KE) (q358_35_eq C lf n (fun F h => r (F 4) h) KE)
noncomputable def q358_39 (C : YC) (lf : Nat) (n : K4) (x0 x1 x6 x7 : O) (h : HW) : Rs :=
 ob x7 fun a38 =>
 n x0 x1 x6 (some a38) h
theorem q358_39_eq (C : YC) (lf : Nat) (n : K4) (KR : KF) (KE : KX) : ∀ F h, evX fx358 C lf [1, 1, 1, 0, 1, 0, 1, 0] F h (fun F h => n (F 0) (F 1) (F 6) (F 32) h) KR KE = q358_39 C lf n (F 0) (F 1) (F 6) (F 7) h := by
  intro F h; kernel_rfl
noncomputable def q358_40 (C : YC) (lf : Nat) (n : K2) (r : K1) (x0 x1 x6 x7 : O) (h : HW) : Rs :=
 q358_39 C lf (fun x0 x1 x6 x32 h => q358_37 C lf n r x0 x1 x6 x32 h) x0 x1 x6 x7 h
theorem q358_40_eq (C : YC) (lf : Nat) (n : K2) (r : K1) (KE : KX) : ∀ F h, evX fx358 C lf [1, 1, 1, 0, 1, 0, 1] F h (fun F h => n (F 0) (F 1) h) (fun F h => r (F 4) h) KE = q358_40 C lf n r (F 0) (F 1) (F 6) (F 7) h := cSeq (a := subX fx358 [1, 1, 1, 0, 1, 0, 1, 0]) (b := subX fx358 [1, 1, 1, 0, 1, 0, 1, 1]) (by kernel_rfl) (B := (fun F h => q358_37 C lf n r (F 0) (F 1) (F 6) (F 32) h)) (q358_37_eq C lf n r KE) (q358_39_eq C lf (fun x0 x1 x6 x32 h => q358_37 C lf n r x0 x1 x6 x32 h) (fun F h => r (F 4) h) KE)
noncomputable def q358_47 (C : YC) (lf : Nat) (n : K4) (x0 x1 : O) (h : HW) : Rs :=
 ob x1 fun a41 =>
 bc (C (.fn 365) [a41] h) fun y42 h42 =>
 ob (ext 0 y42) fun y43 =>
 ob (ext 1 y42) fun y44 =>
 b2 (yAl Tryz.prog 446 h42) fun y45 h45 =>
 ob (st 256 y45 y43 h45) fun h46 =>
 n x0 x1 (some y45) (some y44) h46
theorem q358_47_eq (C : YC) (lf : Nat) (n : K4) (KR : KF) (KE : KX) : ∀ F h, evX fx358 C lf [1, 1, 1, 0, 1, 0, 0] F h (fun F h => n (F 0) (F 1) (F 6) (F 7) h) KR KE = q358_47 C lf n (F 0) (F 1) h := by
  intro F h; kernel_rfl
noncomputable def q358_48 (C : YC) (lf : Nat) (n : K2) (r : K1) (x0 x1 : O) (h : HW) : Rs :=
 q358_47 C lf (fun x0 x1 x6 x7 h => q358_40 C lf n r x0 x1 x6 x7 h) x0 x1 h
theorem q358_48_eq (C : YC) (lf : Nat) (n : K2) (r : K1) (KE : KX) : ∀ F h, evX fx358 C lf [1, 1, 1, 0, 1, 0] F h (fun F h => n (F 0) (F 1) h) (fun F h => r (F 4) h) KE = q358_48 C lf n r (F 0) (F 1) h := cSeq (a := subX fx358 [1, 1, 1, 0, 1, 0, 0]) (b := subX fx358 [1, 1, 1, 0, 1, 0, 1]) (by kernel_rfl) (B := (fun F h => q358_40 C lf n r (F 0) (F 1) (F 6) (F 7) h)) (q358_40_eq C lf n r KE) (q358_47_eq C lf (fun x0 x1 x6 x7 h => q358_40 C lf n r x0 x1 x6 x7 h) (fun F h => r (F 4) h) KE)
noncomputable def q358_49 (C : YC) (lf : Nat) (n : K2) (x0 x1 : O) (h : HW) : Rs :=
 n x0 x1 h
theorem q358_49_eq (C : YC) (lf : Nat) (n : K2) (KR : KF) (KE : KX) : ∀ F h, evX fx358 C lf [1, 1, 1, 0, 1, 1] F h (fun F h => n (F 0) (F 1) h) KR KE = q358_49 C lf n (F 0) (F 1) h := by
  intro F h; kernel_rfl
noncomputable def q358_51 (C : YC) (lf : Nat) (n : K2) (r : K1) (x0 x1 x26 : O) (h : HW) : Rs :=
 ob x26 fun a50 =>
 yIf a50
 (q358_48 C lf n r x0 x1 h)
 (q358_49 C lf n x0 x1 h)
theorem q358_51_eq (C : YC) (lf : Nat) (n : K2) (r : K1) (KE : KX) : ∀ F h, evX fx358 C lf [1, 1, 1, 0, 1] F h (fun F h => n (F 0) (F 1) h) (fun F h => r (F 4) h) KE = q358_51 C lf n r (F 0) (F 1) (F 26) h := cCond (x := .tmp 26) (by kernel_rfl) (q358_48_eq C lf n r KE) (q358_49_eq C lf n (fun F h => r (F 4) h) KE)
noncomputable def q358_55 (C : YC) (lf : Nat) (n : K3) (x0 x1 : O) (h : HW) : Rs :=
 ob x0 fun a52 =>
 ob (lenE Tryz.prog 9 a52) fun y53 =>
 bc (C (.fn 364) [y53] h) fun y54 h54 =>
 n x0 x1 (some y54) h54
theorem q358_55_eq (C : YC) (lf : Nat) (n : K3) (KR : KF) (KE : KX) : ∀ F h, evX fx358 C lf [1, 1, 1, 0, 0] F h (fun F h => n (F 0) (F 1) (F 26) h) KR KE = q358_55 C lf n (F 0) (F 1) h := by
  intro F h; kernel_rfl
noncomputable def q358_56 (C : YC) (lf : Nat) (n : K2) (r : K1) (x0 x1 : O) (h : HW) : Rs :=
 q358_55 C lf (fun x0 x1 x26 h => q358_51 C lf n r x0 x1 x26 h) x0 x1 h
theorem q358_56_eq (C : YC) (lf : Nat) (n : K2) (r : K1) (KE : KX) : ∀ F h, evX fx358 C lf [1, 1, 1, 0] F h (fun F h => n (F 0) (F 1) h) (fun F h => r (F 4) h) KE = q358_56 C lf n r (F 0) (F 1) h := cSeq (a := subX fx358 [1, 1, 1, 0, 0]) (b := subX fx358 [1, 1, 1, 0, 1]) (by kernel_rfl) (B := (fun F h => q358_51 C lf n r (F 0) (F 1) (F 26) h)) (q358_51_eq C lf n r KE) (q358_55_eq C lf (fun x0 x1 x26 h => q358_51 C lf n r x0 x1 x26 h) (fun F h => r (F 4) h) KE)
noncomputable def q358_57 (C : YC) (lf : Nat) (r : K1) (x0 x1 : O) (h : HW) : Rs :=
 q358_56 C lf (fun x0 x1 h => q358_16 C lf r x0 x1 h) r x0 x1 h
theorem q358_57_eq (C : YC) (lf : Nat) (r : K1) (KN : KF) (KE : KX) : ∀ F h, evX fx358 C lf [1, 1, 1] F h KN (fun F h => r (F 4) h) KE = q358_57 C lf r (F 0) (F 1) h := cSeq (a := subX fx358 [1, 1, 1, 0]) (b := subX fx358 [1, 1, 1, 1]) (by kernel_rfl) (B := (fun F h => q358_16 C lf r (F 0) (F 1) h)) (q358_16_eq C lf r KN KE) (q358_56_eq C lf (fun x0 x1 h => q358_16 C lf r x0 x1 h) r KE)
noncomputable def q358_69 (C : YC) (lf : Nat) (n : K2) (r : K1) (x0 x1 : O) (h : HW) : Rs :=
 ob x1 fun a58 =>
 ob (lenE Tryz.prog 9 a58) fun y59 =>
 ob (bin Tryz.prog .eql 3 y59 (.int .i64 1)) fun y60 =>
 yIf y60
 (ob x1 fun a61 =>
 ob (semIndex Tryz.prog 9 a61 (.int .i64 0)) fun y62 =>
 ob (cvI .i32 y62) fun y63 =>
 ob (bin Tryz.prog .geq 21 y63 (.int .i32 128)) fun y64 =>
 yIf y64
 (ob x0 fun a65 =>
 bc (C (.fn 363) [a65, (.int .i32 65533)] h) fun y66 h66 =>
 r (some y66) h66)
 (ob x0 fun a67 =>
 bc (C (.fn 363) [a67, y63] h) fun y68 h68 =>
 r (some y68) h68))
 (n x0 x1 h)
theorem q358_69_eq (C : YC) (lf : Nat) (n : K2) (r : K1) (KE : KX) : ∀ F h, evX fx358 C lf [1, 1, 0] F h (fun F h => n (F 0) (F 1) h) (fun F h => r (F 4) h) KE = q358_69 C lf n r (F 0) (F 1) h := by
  intro F h; kernel_rfl
noncomputable def q358_70 (C : YC) (lf : Nat) (r : K1) (x0 x1 : O) (h : HW) : Rs :=
 q358_69 C lf (fun x0 x1 h => q358_57 C lf r x0 x1 h) r x0 x1 h
theorem q358_70_eq (C : YC) (lf : Nat) (r : K1) (KN : KF) (KE : KX) : ∀ F h, evX fx358 C lf [1, 1] F h KN (fun F h => r (F 4) h) KE = q358_70 C lf r (F 0) (F 1) h := cSeq (a := subX fx358 [1, 1, 0]) (b := subX fx358 [1, 1, 1]) (by kernel_rfl) (B := (fun F h => q358_57 C lf r (F 0) (F 1) h)) (q358_57_eq C lf r KN KE) (q358_69_eq C lf (fun x0 x1 h => q358_57 C lf r x0 x1 h) r KE)
noncomputable def q358_73 (C : YC) (lf : Nat) (n : K2) (r : K1) (x0 x1 : O) (h : HW) : Rs :=
 ob x1 fun a71 =>
 ob (bin Tryz.prog .eql 9 a71 (.str (bs []))) fun y72 =>
 yIf y72
 (r (some (.int .i64 (-1))) h)
 (n x0 x1 h)
theorem q358_73_eq (C : YC) (lf : Nat) (n : K2) (r : K1) (KE : KX) : ∀ F h, evX fx358 C lf [1, 0] F h (fun F h => n (F 0) (F 1) h) (fun F h => r (F 4) h) KE = q358_73 C lf n r (F 0) (F 1) h := by
  intro F h; kernel_rfl
noncomputable def q358_74 (C : YC) (lf : Nat) (r : K1) (x0 x1 : O) (h : HW) : Rs :=
 q358_73 C lf (fun x0 x1 h => q358_70 C lf r x0 x1 h) r x0 x1 h
theorem q358_74_eq (C : YC) (lf : Nat) (r : K1) (KN : KF) (KE : KX) : ∀ F h, evX fx358 C lf [1] F h KN (fun F h => r (F 4) h) KE = q358_74 C lf r (F 0) (F 1) h := cSeq (a := subX fx358 [1, 0]) (b := subX fx358 [1, 1]) (by kernel_rfl) (B := (fun F h => q358_70 C lf r (F 0) (F 1) h)) (q358_70_eq C lf r KN KE) (q358_73_eq C lf (fun x0 x1 h => q358_70 C lf r x0 x1 h) r KE)
noncomputable def q358_75 (C : YC) (lf : Nat) (n : K2) (x0 x1 : O) (h : HW) : Rs :=
 n x0 x1 h
theorem q358_75_eq (C : YC) (lf : Nat) (n : K2) (KR : KF) (KE : KX) : ∀ F h, evX fx358 C lf [0] F h (fun F h => n (F 0) (F 1) h) KR KE = q358_75 C lf n (F 0) (F 1) h := by
  intro F h; kernel_rfl
noncomputable def q358_76 (C : YC) (lf : Nat) (r : K1) (x0 x1 : O) (h : HW) : Rs :=
 q358_75 C lf (fun x0 x1 h => q358_74 C lf r x0 x1 h) x0 x1 h
theorem q358_76_eq (C : YC) (lf : Nat) (r : K1) (KN : KF) (KE : KX) : ∀ F h, evX fx358 C lf [] F h KN (fun F h => r (F 4) h) KE = q358_76 C lf r (F 0) (F 1) h := cSeq (a := subX fx358 [0]) (b := subX fx358 [1]) (by kernel_rfl) (B := (fun F h => q358_74 C lf r (F 0) (F 1) h)) (q358_74_eq C lf r KN KE) (q358_75_eq C lf (fun x0 x1 h => q358_74 C lf r x0 x1 h) (fun F h => r (F 4) h) KE)
noncomputable def fs358 (C : YC) (lf : Nat) (a0 a1 : SV) (h : HW) : Rs := q358_76 C lf ff358 (some a0) (some a1) h
theorem fs358_eq (C : YC) (lf : Nat) (a0 a1 : SV) (h : HW) : yFn Tryz.prog fx358 C lf [a0, a1] h = fs358 C lf a0 a1 h := fnX (K := (fun F h => ff358 (F 4) h)) (by kernel_rfl) (((q358_76_eq C lf ff358 (fun F h => ff358 (F 4) h) (fun _ _ _ => none)) _ h).trans (by kernel_rfl))
noncomputable def fy358 : YX Tryz.prog := Y2 fx358 fs358 fs358_eq (by kernel_rfl)

/-! NAT 359 internal/bytealg.IndexByte -/
noncomputable def gx359 : XN Tryz.prog := { f := 359, fn := Tryz.f359, k := .indexByte, isFn := Tryz.func359, isPlain := by kernel_rfl, noBody := by kernel_rfl, noNext := by kernel_rfl, isK := by kernel_rfl }

/-! FN 362 tinsel/tinselref04.List -/
noncomputable def fx362 : XF Tryz.prog := ⟨362, Tryz.f362, fun _ => .text, Tryz.func362, by kernel_rfl, by kernel_rfl, by kernel_rfl, by kernel_rfl⟩
noncomputable def ff362 (x4 x5 x6 : O) (h : HW) : Rs :=
 ob x4 fun a0 =>
 ob x5 fun a1 =>
 ob x6 fun a2 =>
 some (.ret (.tup [a0, a1, a2]), h)
noncomputable def q362_5 (C : YC) (lf : Nat) (r : K3) (x8 x9 : O) (h : HW) : Rs :=
 ob x8 fun a3 =>
 ob x9 fun a4 =>
 r (some a3) (some a4) (some (.int .i64 0)) h
theorem q362_5_eq (C : YC) (lf : Nat) (r : K3) (KN : KF) (KE : KX) : ∀ F h, evX fx362 C lf [1, 1, 1, 1, 1, 1] F h KN (fun F h => r (F 4) (F 5) (F 6) h) KE = q362_5 C lf r (F 8) (F 9) h := by
  intro F h; kernel_rfl
noncomputable def q362_29 (C : YC) (lf : Nat) (n : K6) (e0 : K2) (x0 x8 x9 x20 x21 x22 : O) (h : HW) : Rs :=
 ob x22 fun a7 =>
 ob x21 fun a8 =>
 ob (bin Tryz.prog .lss 3 a7 a8) fun y9 =>
 yIf y9
 (ob x22 fun a10 =>
 ob x20 fun a11 =>
 ob x22 fun a12 =>
 ob (ixS 1 a11 a12) fun y13 =>
 ob (ld1 y13 h) fun y14 =>
 bc (C (.fn 340) [y14] h) fun y15 h15 =>
 ob (bin Tryz.prog .gtr 3 y15 (.int .i64 0)) fun y16 =>
 yIf y16
 (ob x8 fun a17 =>
 ob x0 fun a18 =>
 bc (C (.fn 367) [a18, y14] h15) fun y19 h19 =>
 b2 (ybs Tryz.prog 123 1 [0] [y19] h19) fun y20 h20 =>
 b2 (ybl Tryz.prog .append #[123, 123] [a17, y20] h20) fun y21 h21 =>
 ob x9 fun a22 =>
 b2 (ybs Tryz.prog 44 1 [0] [a10] h21) fun y23 h23 =>
 b2 (ybl Tryz.prog .append #[44, 44] [a22, y23] h23) fun y24 h24 =>
 ob x22 fun a25 =>
 ob (bin Tryz.prog .add 3 a25 (.int .i64 1)) fun y26 =>
 n x0 (some y21) (some y24) x20 x21 (some y26) h24)
 (ob x22 fun a27 =>
 ob (bin Tryz.prog .add 3 a27 (.int .i64 1)) fun y28 =>
 n x0 x8 x9 x20 x21 (some y28) h15))
 (e0 x8 x9 h)
theorem q362_29_eq (C : YC) (lf : Nat) (n : K6) (e0 : K2) (KR : KF) (KE : KX) : ∀ F h, evX fx362 C lf [1, 1, 1, 1, 1, 0, 1, 0, 0] F h (fun F h => n (F 0) (F 8) (F 9) (F 20) (F 21) (F 22) h) KR (bk 0 (fun F h => e0 (F 8) (F 9) h) KE) = q362_29 C lf n e0 (F 0) (F 8) (F 9) (F 20) (F 21) (F 22) h := by
  intro F h; kernel_rfl
noncomputable def l362_6 (C : YC) (lf : Nat) (e0 : K2) (k : O × O × O × O × O × O → HW → Rs) (s : O × O × O × O × O × O) (h : HW) : Rs :=
 q362_29 C lf (fun x0 x8 x9 x20 x21 x22 h => k (x0, x8, x9, x20, x21, x22) h) e0 s.1 s.2.1 s.2.2.1 s.2.2.2.1 s.2.2.2.2.1 s.2.2.2.2.2 h
noncomputable def q362_34 (C : YC) (lf : Nat) (n : K6) (x0 x1 x8 x9 : O) (h : HW) : Rs :=
 ob x0 fun a30 =>
 ob x1 fun a31 =>
 bc (C (.fn 339) [a30, a31] h) fun y32 h32 =>
 ob (lenE Tryz.prog 385 y32) fun y33 =>
 n x0 x8 x9 (some y32) (some y33) (some (.int .i64 0)) h32
theorem q362_34_eq (C : YC) (lf : Nat) (n : K6) (KR : KF) (KE : KX) : ∀ F h, evX fx362 C lf [1, 1, 1, 1, 1, 0, 0] F h (fun F h => n (F 0) (F 8) (F 9) (F 20) (F 21) (F 22) h) KR KE = q362_34 C lf n (F 0) (F 1) (F 8) (F 9) h := by
  intro F h; kernel_rfl
noncomputable def q362_35 (C : YC) (lf : Nat) (n : K2) (x0 x1 x8 x9 : O) (h : HW) : Rs :=
 q362_34 C lf (fun x0 x8 x9 x20 x21 x22 h => lp (l362_6 C lf n) lf (x0, x8, x9, x20, x21, x22) h) x0 x1 x8 x9 h
theorem q362_35_eq (C : YC) (lf : Nat) (n : K2) (KR : KF) (KE : KX) : ∀ F h, evX fx362 C lf [1, 1, 1, 1, 1, 0] F h (fun F h => n (F 8) (F 9) h) KR KE = q362_35 C lf n (F 0) (F 1) (F 8) (F 9) h := cSeq (a := subX fx362 [1, 1, 1, 1, 1, 0, 0]) (b := subX fx362 [1, 1, 1, 1, 1, 0, 1]) (by kernel_rfl) (B := (fun F h => lp (l362_6 C lf n) lf ((F 0), (F 8), (F 9), (F 20), (F 21), (F 22)) h)) (cBlock (id := 0) (a := subX fx362 [1, 1, 1, 1, 1, 0, 1, 0]) (by kernel_rfl) (cLoop (a := subX fx362 [1, 1, 1, 1, 1, 0, 1, 0, 0]) (g := fun F => (F 0, F 8, F 9, F 20, F 21, F 22)) (body := l362_6 C lf n) (by kernel_rfl) (fun k => (q362_29_eq C lf (fun x0 x8 x9 x20 x21 x22 h => k (x0, x8, x9, x20, x21, x22) h) n KR KE)))) (q362_34_eq C lf (fun x0 x8 x9 x20 x21 x22 h => lp (l362_6 C lf n) lf (x0, x8, x9, x20, x21, x22) h) KR KE)
noncomputable def q362_36 (C : YC) (lf : Nat) (r : K3) (x0 x1 x8 x9 : O) (h : HW) : Rs :=
 q362_35 C lf (fun x8 x9 h => q362_5 C lf r x8 x9 h) x0 x1 x8 x9 h
theorem q362_36_eq (C : YC) (lf : Nat) (r : K3) (KN : KF) (KE : KX) : ∀ F h, evX fx362 C lf [1, 1, 1, 1, 1] F h KN (fun F h => r (F 4) (F 5) (F 6) h) KE = q362_36 C lf r (F 0) (F 1) (F 8) (F 9) h := cSeq (a := subX fx362 [1, 1, 1, 1, 1, 0]) (b := subX fx362 [1, 1, 1, 1, 1, 1]) (by kernel_rfl) (B := (fun F h => q362_5 C lf r (F 8) (F 9) h)) (q362_5_eq C lf r KN KE) (q362_35_eq C lf (fun x8 x9 h => q362_5 C lf r x8 x9 h) (fun F h => r (F 4) (F 5) (F 6) h) KE)
noncomputable def q362_37 (C : YC) (lf : Nat) (n : K4) (x0 x1 x8 : O) (h : HW) : Rs :=
 n x0 x1 x8 (some (.val (.slice none 0 0))) h
theorem q362_37_eq (C : YC) (lf : Nat) (n : K4) (KR : KF) (KE : KX) : ∀ F h, evX fx362 C lf [1, 1, 1, 1, 0] F h (fun F h => n (F 0) (F 1) (F 8) (F 9) h) KR KE = q362_37 C lf n (F 0) (F 1) (F 8) h := by
  intro F h; kernel_rfl
noncomputable def q362_38 (C : YC) (lf : Nat) (r : K3) (x0 x1 x8 : O) (h : HW) : Rs :=
 q362_37 C lf (fun x0 x1 x8 x9 h => q362_36 C lf r x0 x1 x8 x9 h) x0 x1 x8 h
theorem q362_38_eq (C : YC) (lf : Nat) (r : K3) (KN : KF) (KE : KX) : ∀ F h, evX fx362 C lf [1, 1, 1, 1] F h KN (fun F h => r (F 4) (F 5) (F 6) h) KE = q362_38 C lf r (F 0) (F 1) (F 8) h := cSeq (a := subX fx362 [1, 1, 1, 1, 0]) (b := subX fx362 [1, 1, 1, 1, 1]) (by kernel_rfl) (B := (fun F h => q362_36 C lf r (F 0) (F 1) (F 8) (F 9) h)) (q362_36_eq C lf r KN KE) (q362_37_eq C lf (fun x0 x1 x8 x9 h => q362_36 C lf r x0 x1 x8 x9 h) (fun F h => r (F 4) (F 5) (F 6) h) KE)
noncomputable def q362_39 (C : YC) (lf : Nat) (n : K3) (x0 x1 : O) (h : HW) : Rs :=
 n x0 x1 (some (.val (.slice none 0 0))) h
theorem q362_39_eq (C : YC) (lf : Nat) (n : K3) (KR : KF) (KE : KX) : ∀ F h, evX fx362 C lf [1, 1, 1, 0] F h (fun F h => n (F 0) (F 1) (F 8) h) KR KE = q362_39 C lf n (F 0) (F 1) h := by
  intro F h; kernel_rfl
noncomputable def q362_40 (C : YC) (lf : Nat) (r : K3) (x0 x1 : O) (h : HW) : Rs :=
 q362_39 C lf (fun x0 x1 x8 h => q362_38 C lf r x0 x1 x8 h) x0 x1 h
theorem q362_40_eq (C : YC) (lf : Nat) (r : K3) (KN : KF) (KE : KX) : ∀ F h, evX fx362 C lf [1, 1, 1] F h KN (fun F h => r (F 4) (F 5) (F 6) h) KE = q362_40 C lf r (F 0) (F 1) h := cSeq (a := subX fx362 [1, 1, 1, 0]) (b := subX fx362 [1, 1, 1, 1]) (by kernel_rfl) (B := (fun F h => q362_38 C lf r (F 0) (F 1) (F 8) h)) (q362_38_eq C lf r KN KE) (q362_39_eq C lf (fun x0 x1 x8 h => q362_38 C lf r x0 x1 x8 h) (fun F h => r (F 4) (F 5) (F 6) h) KE)
noncomputable def q362_44 (C : YC) (lf : Nat) (n : K2) (r : K3) (x0 x1 x7 : O) (h : HW) : Rs :=
 ob x7 fun a41 =>
 ob (bin Tryz.prog .neq 3 a41 (.int .i64 0)) fun y42 =>
 yIf y42
 (ob x7 fun a43 =>
 r (some (.val (.slice none 0 0))) (some (.val (.slice none 0 0))) (some a43) h)
 (n x0 x1 h)
theorem q362_44_eq (C : YC) (lf : Nat) (n : K2) (r : K3) (KE : KX) : ∀ F h, evX fx362 C lf [1, 1, 0] F h (fun F h => n (F 0) (F 1) h) (fun F h => r (F 4) (F 5) (F 6) h) KE = q362_44 C lf n r (F 0) (F 1) (F 7) h := by
  intro F h; kernel_rfl
noncomputable def q362_45 (C : YC) (lf : Nat) (r : K3) (x0 x1 x7 : O) (h : HW) : Rs :=
 q362_44 C lf (fun x0 x1 h => q362_40 C lf r x0 x1 h) r x0 x1 x7 h
theorem q362_45_eq (C : YC) (lf : Nat) (r : K3) (KN : KF) (KE : KX) : ∀ F h, evX fx362 C lf [1, 1] F h KN (fun F h => r (F 4) (F 5) (F 6) h) KE = q362_45 C lf r (F 0) (F 1) (F 7) h := cSeq (a := subX fx362 [1, 1, 0]) (b := subX fx362 [1, 1, 1]) (by kernel_rfl) (B := (fun F h => q362_40 C lf r (F 0) (F 1) h)) (q362_40_eq C lf r KN KE) (q362_44_eq C lf (fun x0 x1 h => q362_40 C lf r x0 x1 h) r KE)
noncomputable def q362_49 (C : YC) (lf : Nat) (n : K3) (x0 x1 : O) (h : HW) : Rs :=
 ob x0 fun a46 =>
 ob x1 fun a47 =>
 bc (C (.fn 291) [a46, a47] h) fun y48 h48 =>
 n x0 x1 (some y48) h48
theorem q362_49_eq (C : YC) (lf : Nat) (n : K3) (KR : KF) (KE : KX) : ∀ F h, evX fx362 C lf [1, 0] F h (fun F h => n (F 0) (F 1) (F 7) h) KR KE = q362_49 C lf n (F 0) (F 1) h := by
  intro F h; kernel_rfl
noncomputable def q362_50 (C : YC) (lf : Nat) (r : K3) (x0 x1 : O) (h : HW) : Rs :=
 q362_49 C lf (fun x0 x1 x7 h => q362_45 C lf r x0 x1 x7 h) x0 x1 h
theorem q362_50_eq (C : YC) (lf : Nat) (r : K3) (KN : KF) (KE : KX) : ∀ F h, evX fx362 C lf [1] F h KN (fun F h => r (F 4) (F 5) (F 6) h) KE = q362_50 C lf r (F 0) (F 1) h := cSeq (a := subX fx362 [1, 0]) (b := subX fx362 [1, 1]) (by kernel_rfl) (B := (fun F h => q362_45 C lf r (F 0) (F 1) (F 7) h)) (q362_45_eq C lf r KN KE) (q362_49_eq C lf (fun x0 x1 x7 h => q362_45 C lf r x0 x1 x7 h) (fun F h => r (F 4) (F 5) (F 6) h) KE)
noncomputable def q362_51 (C : YC) (lf : Nat) (n : K2) (x0 x1 : O) (h : HW) : Rs :=
 n x0 x1 h
theorem q362_51_eq (C : YC) (lf : Nat) (n : K2) (KR : KF) (KE : KX) : ∀ F h, evX fx362 C lf [0] F h (fun F h => n (F 0) (F 1) h) KR KE = q362_51 C lf n (F 0) (F 1) h := by
  intro F h; kernel_rfl
noncomputable def q362_52 (C : YC) (lf : Nat) (r : K3) (x0 x1 : O) (h : HW) : Rs :=
 q362_51 C lf (fun x0 x1 h => q362_50 C lf r x0 x1 h) x0 x1 h
theorem q362_52_eq (C : YC) (lf : Nat) (r : K3) (KN : KF) (KE : KX) : ∀ F h, evX fx362 C lf [] F h KN (fun F h => r (F 4) (F 5) (F 6) h) KE = q362_52 C lf r (F 0) (F 1) h := cSeq (a := subX fx362 [0]) (b := subX fx362 [1]) (by kernel_rfl) (B := (fun F h => q362_50 C lf r (F 0) (F 1) h)) (q362_50_eq C lf r KN KE) (q362_51_eq C lf (fun x0 x1 h => q362_50 C lf r x0 x1 h) (fun F h => r (F 4) (F 5) (F 6) h) KE)
noncomputable def fs362 (C : YC) (lf : Nat) (a0 a1 : SV) (h : HW) : Rs := q362_52 C lf ff362 (some a0) (some a1) h
theorem fs362_eq (C : YC) (lf : Nat) (a0 a1 : SV) (h : HW) : yFn Tryz.prog fx362 C lf [a0, a1] h = fs362 C lf a0 a1 h := fnX (K := (fun F h => ff362 (F 4) (F 5) (F 6) h)) (by kernel_rfl) (((q362_52_eq C lf ff362 (fun F h => ff362 (F 4) (F 5) (F 6) h) (fun _ _ _ => none)) _ h).trans (by kernel_rfl))
noncomputable def fy362 : YX Tryz.prog := Y2 fx362 fs362 fs362_eq (by kernel_rfl)

/-! EV 363 strings.IndexRune: scope -/
noncomputable def fx363 : XF Tryz.prog := ⟨363, Tryz.f363, fun _ => .text, Tryz.func363, by kernel_rfl, by kernel_rfl, by kernel_rfl, by kernel_rfl⟩

/-! FN 364 strings.shouldUseASCIISet -/
noncomputable def fx364 : XF Tryz.prog := ⟨364, Tryz.f364, fun _ => .text, Tryz.func364, by kernel_rfl, by kernel_rfl, by kernel_rfl, by kernel_rfl⟩
noncomputable def ff364 (x2 : O) (h : HW) : Rs :=
 ob x2 fun a0 =>
 some (.ret a0, h)
noncomputable def q364_3 (C : YC) (lf : Nat) (r : K1) (x0 : O) (h : HW) : Rs :=
 ob x0 fun a1 =>
 ob (bin Tryz.prog .gtr 3 a1 (.int .i64 8)) fun y2 =>
 r (some y2) h
theorem q364_3_eq (C : YC) (lf : Nat) (r : K1) (KN : KF) (KE : KX) : ∀ F h, evX fx364 C lf [] F h KN (fun F h => r (F 2) h) KE = q364_3 C lf r (F 0) h := by
  intro F h; kernel_rfl
noncomputable def fs364 (C : YC) (lf : Nat) (a0 : SV) (h : HW) : Rs := q364_3 C lf ff364 (some a0) h
theorem fs364_eq (C : YC) (lf : Nat) (a0 : SV) (h : HW) : yFn Tryz.prog fx364 C lf [a0] h = fs364 C lf a0 h := fnX (K := (fun F h => ff364 (F 2) h)) (by kernel_rfl) (((q364_3_eq C lf ff364 (fun F h => ff364 (F 2) h) (fun _ _ _ => none)) _ h).trans (by kernel_rfl))
noncomputable def fy364 : YX Tryz.prog := Y1 fx364 fs364 fs364_eq (by kernel_rfl)

/-! FN 367 tinsel/tinselref04.entry -/
noncomputable def fx367 : XF Tryz.prog := ⟨367, Tryz.f367, fun _ => .text, Tryz.func367, by kernel_rfl, by kernel_rfl, by kernel_rfl, by kernel_rfl⟩
noncomputable def ff367 (x4 : O) (h : HW) : Rs :=
 ob x4 fun a0 =>
 ob (ldN 3 a0 h) fun y1 =>
 some (.ret y1, h)
noncomputable def q367_31 (C : YC) (lf : Nat) (r : K1) (x0 x1 : O) (h : HW) : Rs :=
 b2 (yAl Tryz.prog 81 h) fun y2 h2 =>
 ob x1 fun a3 =>
 bc (C (.fn 357) [a3] h2) fun y4 h4 =>
 ob x1 fun a5 =>
 bc (C (.fn 340) [a5] h4) fun y6 h6 =>
 ob (semBuild Tryz.prog 81 [0, 1] [y4, y6]) fun y7 =>
 b2 (yAl Tryz.prog 81 h6) fun y8 h8 =>
 ob (st 3 y8 y7 h8) fun h9 =>
 ob x0 fun a10 =>
 ob (fa 1 y8) fun y11 =>
 ob (ld1 y11 h9) fun y12 =>
 bc (C (.fn 292) [a10, y12] h9) fun y13 h13 =>
 yIf y13
 (ob x0 fun a14 =>
 ob (semNil a14) fun y15 =>
 ob (fa 4 y15) fun y16 =>
 ob (ld1 y16 h13) fun y17 =>
 ob (fa 1 y8) fun y18 =>
 ob (ld1 y18 h13) fun y19 =>
 ob (ixS 308 y17 y19) fun y20 =>
 ob (fa 1 y20) fun y21 =>
 ob (fa 6 y21) fun y22 =>
 ob (ld1 y22 h13) fun y23 =>
 ob (bin Tryz.prog .and 30 y23 (.int .i64 61440)) fun y24 =>
 ob (fa 2 y8) fun y25 =>
 ob (st 1 y25 y24 h13) fun h26 =>
 ob (ldN 3 y8 h26) fun y27 =>
 ob (st 3 y2 y27 h26) fun h28 =>
 r (some y2) h28)
 (ob (ldN 3 y8 h13) fun y29 =>
 ob (st 3 y2 y29 h13) fun h30 =>
 r (some y2) h30)
theorem q367_31_eq (C : YC) (lf : Nat) (r : K1) (KN : KF) (KE : KX) : ∀ F h, evX fx367 C lf [] F h KN (fun F h => r (F 4) h) KE = q367_31 C lf r (F 0) (F 1) h := by
  intro F h; kernel_rfl
noncomputable def fs367 (C : YC) (lf : Nat) (a0 a1 : SV) (h : HW) : Rs := q367_31 C lf ff367 (some a0) (some a1) h
theorem fs367_eq (C : YC) (lf : Nat) (a0 a1 : SV) (h : HW) : yFn Tryz.prog fx367 C lf [a0, a1] h = fs367 C lf a0 a1 h := fnX (K := (fun F h => ff367 (F 4) h)) (by kernel_rfl) (((q367_31_eq C lf ff367 (fun F h => ff367 (F 4) h) (fun _ _ _ => none)) _ h).trans (by kernel_rfl))
noncomputable def fy367 : YX Tryz.prog := Y2 fx367 fs367 fs367_eq (by kernel_rfl)

end Go.Proofs.YtoglpmfmnknlaaaGreatDoor.Eva
