/- One call on both stores. -/
import Derived.Test.YtomialandfplkaaDoorCards
import Derived.Test.YtomialandfplkaaDoorTie
import Derived.WalkKit
import Derived.ProofKit
import Derived.OpenShut
import Derived.Deep.DeepHandedRow
import Derived.Lib.LaidTab
import Derived.Test.YtomialandfplkaaDoorWBlocksActsm2
import Derived.Test.YtomialandfplkaaDoorWBlocksActsm3
set_option linter.unusedSimpArgs false
set_option linter.unusedVariables false
namespace Go.Proofs.YtomialandfplkaaDoor.Eva
open Go.Xe
set_option maxRecDepth 100000
set_option maxHeartbeats 400000
set_option linter.unusedVariables false
noncomputable section
/-! FN 24 tinsel/tinselref01.New -/
noncomputable def fx24 : XF Tryd.prog := ⟨24, Tryd.f24, fun r => bif Nat.beq r 1 then .news [0, 2, 1, 3, 4, 5] [1, 3] [] else .text, Tryd.func24, by kernel_rfl, by kernel_rfl, by kernel_rfl, by kernel_rfl⟩
noncomputable def ff24 (x2 : O) (h : HW) : Rs :=
 ob x2 fun a0 =>
 ob (ldN 2 a0 h) fun y1 =>
 some (.ret y1, h)
noncomputable def q24_10 (C : YC) (lf : Nat) (r : K1) (x0 : O) (h : HW) : Rs :=
 b2 (yAl Tryd.prog 44 h) fun y2 h2 =>
 nwB [1, 3] 6 h2 fun b3 h3 =>
 ob x0 fun a4 =>
 ob x0 fun a5 =>
 ck (lowV b3 a4 && lowV b3 a4) <|
 b2 (ynf (ymk Tryd.prog 41 a4 a4) b3 1 h3) fun y6 h6 =>
 ck (lowV b3 a5 && lowV b3 a5) <|
 b2 (ynf (ymk Tryd.prog 42 a5 a5) b3 3 h6) fun y7 h7 =>
 ob (semBuild Tryd.prog 44 [0, 1] [y6, y7]) fun y8 =>
 ob (st 2 y2 y8 h7) fun h9 =>
 r (some y2) h9
theorem q24_10_eq (C : YC) (lf : Nat) (r : K1) (KN : KF) (KE : KX) : ∀ F h, evX fx24 C lf [] F h KN (fun F h => r (F 2) h) KE = q24_10 C lf r (F 0) h := by
  intro F h; kernel_rfl
noncomputable def fs24 (C : YC) (lf : Nat) (a0 : SV) (h : HW) : Rs := q24_10 C lf ff24 (some a0) h
theorem fs24_eq (C : YC) (lf : Nat) (a0 : SV) (h : HW) : yFn Tryd.prog fx24 C lf [a0] h = fs24 C lf a0 h := fnX (K := (fun F h => ff24 (F 2) h)) (by kernel_rfl) (((q24_10_eq C lf ff24 (fun F h => ff24 (F 2) h) (fun _ _ _ => none)) _ h).trans (by kernel_rfl))
noncomputable def fy24 : YX Tryd.prog := Y1 fx24 fs24 fs24_eq (by kernel_rfl)
/-! FN 26 (*tinsel/blocks.Store).Copy -/
noncomputable def fx26 : XF Tryd.prog := ⟨26, Tryd.f26, fun _ => .text, Tryd.func26, by kernel_rfl, by kernel_rfl, by kernel_rfl, by kernel_rfl⟩
noncomputable def ff26 (x2 : O) (h : HW) : Rs :=
 ob x2 fun a0 =>
 some (.ret a0, h)
noncomputable def q26_16 (C : YC) (lf : Nat) (r : K1) (x0 : O) (h : HW) : Rs :=
 ob x0 fun a1 =>
 bc (C (.fn 63) [a1] h) fun y2 h2 =>
 ob (unE .not y2) fun y3 =>
 yIf y3
 (r (some (.val (.pointer none))) h2)
 (ob x0 fun a4 =>
 ob (semNil a4) fun y5 =>
 ob (ldN 66 y5 h2) fun y6 =>
 b2 (yAl Tryd.prog 59 h2) fun y7 h7 =>
 ob (st 66 y7 y6 h7) fun h8 =>
 ob x0 fun a9 =>
 ob (semNil a9) fun y10 =>
 ob (fa 65 y10) fun y11 =>
 ob (ld1 y11 h8) fun y12 =>
 b2 (ybl Tryd.prog .append #[57, 57] [(.val (.slice none 0 0)), y12] h8) fun y13 h13 =>
 ob (fa 65 y7) fun y14 =>
 ob (st 1 y14 y13 h13) fun h15 =>
 r (some y7) h15)
theorem q26_16_eq (C : YC) (lf : Nat) (r : K1) (KN : KF) (KE : KX) : ∀ F h, evX fx26 C lf [] F h KN (fun F h => r (F 2) h) KE = q26_16 C lf r (F 0) h := by
  intro F h; kernel_rfl
noncomputable def fs26 (C : YC) (lf : Nat) (a0 : SV) (h : HW) : Rs := q26_16 C lf ff26 (some a0) h
theorem fs26_eq (C : YC) (lf : Nat) (a0 : SV) (h : HW) : yFn Tryd.prog fx26 C lf [a0] h = fs26 C lf a0 h := fnX (K := (fun F h => ff26 (F 2) h)) (by kernel_rfl) (((q26_16_eq C lf ff26 (fun F h => ff26 (F 2) h) (fun _ _ _ => none)) _ h).trans (by kernel_rfl))
noncomputable def fy26 : YX Tryd.prog := Y1 fx26 fs26 fs26_eq (by kernel_rfl)
/-! FN 27 (*tinsel/tinselref01.Store).Copy -/
noncomputable def fx27 : XF Tryd.prog := ⟨27, Tryd.f27, fun r => bif Nat.beq r 5 then .ord [0, 3, 1, 2, 4, 5, 6, 7, 8] [(5, [1]), (4, [1]), (2, [1])] else .text, Tryd.func27, by kernel_rfl, by kernel_rfl, by kernel_rfl, by kernel_rfl⟩
noncomputable def ff27 (x2 : O) (h : HW) : Rs :=
 ob x2 fun a0 =>
 ob (ldN 2 a0 h) fun y1 =>
 some (.ret y1, h)
noncomputable def q27_6 (C : YC) (lf : Nat) (r : K1) (x2 x3 : O) (h : HW) : Rs :=
 ob x3 fun a2 =>
 ob (ldN 2 a2 h) fun y3 =>
 ob x2 fun a4 =>
 ob (st 2 a4 y3 h) fun h5 =>
 r x2 h5
theorem q27_6_eq (C : YC) (lf : Nat) (r : K1) (KN : KF) (KE : KX) : ∀ F h, evX fx27 C lf [1, 1, 1] F h KN (fun F h => r (F 2) h) KE = q27_6 C lf r (F 2) (F 3) h := by
  intro F h; kernel_rfl
noncomputable def q27_27 (C : YC) (lf : Nat) (n : K5) (e0 : K2) (x2 x3 x16 x17 x18 : O) (h : HW) : Rs :=
 ob x18 fun a8 =>
 ob x17 fun a9 =>
 ob (bin Tryd.prog .lss 3 a8 a9) fun y10 =>
 yIf y10
 (ob x16 fun a11 =>
 ob x18 fun a12 =>
 ob (ixS 1 a11 a12) fun y13 =>
 ob (ld1 y13 h) fun y14 =>
 ob x3 fun a15 =>
 ob (fa 1 a15) fun y16 =>
 ob (ld1 y16 h) fun y17 =>
 b2 (ybs Tryd.prog 24 0 [] [] h) fun y18 h18 =>
 ck (chkH [(1, adrO (some y16))] h h18 [1]) <|
 b2 (ybl Tryd.prog .append #[24, 24] [y18, y14] h18) fun y19 h19 =>
 ck (chkH [(1, adrO (some y16))] h18 h19 [1]) <|
 b2 (ybs Tryd.prog 42 1 [0] [y19] h19) fun y20 h20 =>
 ck (chkH [(1, adrO (some y16))] h19 h20 [1]) <|
 b2 (ybl Tryd.prog .append #[42, 42] [y17, y20] h20) fun y21 h21 =>
 ob x3 fun a22 =>
 ob (fa 1 a22) fun y23 =>
 ob (st 1 y23 y21 h21) fun h24 =>
 ob x18 fun a25 =>
 ob (bin Tryd.prog .add 3 a25 (.int .i64 1)) fun y26 =>
 n x2 x3 x16 x17 (some y26) h24)
 (e0 x2 x3 h)
theorem q27_27_eq (C : YC) (lf : Nat) (n : K5) (e0 : K2) (KR : KF) (KE : KX) : ∀ F h, evX fx27 C lf [1, 1, 0, 1, 0, 0] F h (fun F h => n (F 2) (F 3) (F 16) (F 17) (F 18) h) KR (bk 0 (fun F h => e0 (F 2) (F 3) h) KE) = q27_27 C lf n e0 (F 2) (F 3) (F 16) (F 17) (F 18) h := by
  intro F h; kernel_rfl
noncomputable def l27_7 (C : YC) (lf : Nat) (e0 : K2) (k : O × O × O × O × O → HW → Rs) (s : O × O × O × O × O) (h : HW) : Rs :=
 q27_27 C lf (fun x2 x3 x16 x17 x18 h => k (x2, x3, x16, x17, x18) h) e0 s.1 s.2.1 s.2.2.1 s.2.2.2.1 s.2.2.2.2 h
noncomputable def q27_33 (C : YC) (lf : Nat) (n : K5) (x0 x2 x3 : O) (h : HW) : Rs :=
 ob x0 fun a28 =>
 ob (semNil a28) fun y29 =>
 ob (fa 1 y29) fun y30 =>
 ob (ld1 y30 h) fun y31 =>
 ob (lenE Tryd.prog 42 y31) fun y32 =>
 n x2 x3 (some y31) (some y32) (some (.int .i64 0)) h
theorem q27_33_eq (C : YC) (lf : Nat) (n : K5) (KR : KF) (KE : KX) : ∀ F h, evX fx27 C lf [1, 1, 0, 0] F h (fun F h => n (F 2) (F 3) (F 16) (F 17) (F 18) h) KR KE = q27_33 C lf n (F 0) (F 2) (F 3) h := by
  intro F h; kernel_rfl
noncomputable def q27_34 (C : YC) (lf : Nat) (n : K2) (x0 x2 x3 : O) (h : HW) : Rs :=
 q27_33 C lf (fun x2 x3 x16 x17 x18 h => lp (l27_7 C lf n) lf (x2, x3, x16, x17, x18) h) x0 x2 x3 h
theorem q27_34_eq (C : YC) (lf : Nat) (n : K2) (KR : KF) (KE : KX) : ∀ F h, evX fx27 C lf [1, 1, 0] F h (fun F h => n (F 2) (F 3) h) KR KE = q27_34 C lf n (F 0) (F 2) (F 3) h := cSeq (a := subX fx27 [1, 1, 0, 0]) (b := subX fx27 [1, 1, 0, 1]) (by kernel_rfl) (B := (fun F h => lp (l27_7 C lf n) lf ((F 2), (F 3), (F 16), (F 17), (F 18)) h)) (cBlock (id := 0) (a := subX fx27 [1, 1, 0, 1, 0]) (by kernel_rfl) (cLoop (a := subX fx27 [1, 1, 0, 1, 0, 0]) (g := fun F => (F 2, F 3, F 16, F 17, F 18)) (body := l27_7 C lf n) (by kernel_rfl) (fun k => (q27_27_eq C lf (fun x2 x3 x16 x17 x18 h => k (x2, x3, x16, x17, x18) h) n KR KE)))) (q27_33_eq C lf (fun x2 x3 x16 x17 x18 h => lp (l27_7 C lf n) lf (x2, x3, x16, x17, x18) h) KR KE)
noncomputable def q27_35 (C : YC) (lf : Nat) (r : K1) (x0 x2 x3 : O) (h : HW) : Rs :=
 q27_34 C lf (fun x2 x3 h => q27_6 C lf r x2 x3 h) x0 x2 x3 h
theorem q27_35_eq (C : YC) (lf : Nat) (r : K1) (KN : KF) (KE : KX) : ∀ F h, evX fx27 C lf [1, 1] F h KN (fun F h => r (F 2) h) KE = q27_35 C lf r (F 0) (F 2) (F 3) h := cSeq (a := subX fx27 [1, 1, 0]) (b := subX fx27 [1, 1, 1]) (by kernel_rfl) (B := (fun F h => q27_6 C lf r (F 2) (F 3) h)) (q27_6_eq C lf r KN KE) (q27_34_eq C lf (fun x2 x3 h => q27_6 C lf r x2 x3 h) (fun F h => r (F 2) h) KE)
noncomputable def q27_45 (C : YC) (lf : Nat) (n : K3) (x0 x2 : O) (h : HW) : Rs :=
 b2 (ybs Tryd.prog 41 0 [] [] h) fun y36 h36 =>
 ob x0 fun a37 =>
 ob (semNil a37) fun y38 =>
 ob (fa 0 y38) fun y39 =>
 ob (ld1 y39 h36) fun y40 =>
 b2 (ybl Tryd.prog .append #[41, 41] [y36, y40] h36) fun y41 h41 =>
 ob (semBuild Tryd.prog 44 [0] [y41]) fun y42 =>
 b2 (yAl Tryd.prog 44 h41) fun y43 h43 =>
 ob (st 2 y43 y42 h43) fun h44 =>
 n x0 x2 (some y43) h44
theorem q27_45_eq (C : YC) (lf : Nat) (n : K3) (KR : KF) (KE : KX) : ∀ F h, evX fx27 C lf [1, 0] F h (fun F h => n (F 0) (F 2) (F 3) h) KR KE = q27_45 C lf n (F 0) (F 2) h := by
  intro F h; kernel_rfl
noncomputable def q27_46 (C : YC) (lf : Nat) (r : K1) (x0 x2 : O) (h : HW) : Rs :=
 q27_45 C lf (fun x0 x2 x3 h => q27_35 C lf r x0 x2 x3 h) x0 x2 h
theorem q27_46_eq (C : YC) (lf : Nat) (r : K1) (KN : KF) (KE : KX) : ∀ F h, evX fx27 C lf [1] F h KN (fun F h => r (F 2) h) KE = q27_46 C lf r (F 0) (F 2) h := cSeq (a := subX fx27 [1, 0]) (b := subX fx27 [1, 1]) (by kernel_rfl) (B := (fun F h => q27_35 C lf r (F 0) (F 2) (F 3) h)) (q27_35_eq C lf r KN KE) (q27_45_eq C lf (fun x0 x2 x3 h => q27_35 C lf r x0 x2 x3 h) (fun F h => r (F 2) h) KE)
noncomputable def q27_48 (C : YC) (lf : Nat) (n : K2) (x0 : O) (h : HW) : Rs :=
 b2 (yAl Tryd.prog 44 h) fun y47 h47 =>
 n x0 (some y47) h47
theorem q27_48_eq (C : YC) (lf : Nat) (n : K2) (KR : KF) (KE : KX) : ∀ F h, evX fx27 C lf [0] F h (fun F h => n (F 0) (F 2) h) KR KE = q27_48 C lf n (F 0) h := by
  intro F h; kernel_rfl
noncomputable def q27_49 (C : YC) (lf : Nat) (r : K1) (x0 : O) (h : HW) : Rs :=
 q27_48 C lf (fun x0 x2 h => q27_46 C lf r x0 x2 h) x0 h
theorem q27_49_eq (C : YC) (lf : Nat) (r : K1) (KN : KF) (KE : KX) : ∀ F h, evX fx27 C lf [] F h KN (fun F h => r (F 2) h) KE = q27_49 C lf r (F 0) h := cSeq (a := subX fx27 [0]) (b := subX fx27 [1]) (by kernel_rfl) (B := (fun F h => q27_46 C lf r (F 0) (F 2) h)) (q27_46_eq C lf r KN KE) (q27_48_eq C lf (fun x0 x2 h => q27_46 C lf r x0 x2 h) (fun F h => r (F 2) h) KE)
noncomputable def fs27 (C : YC) (lf : Nat) (a0 : SV) (h : HW) : Rs := q27_49 C lf ff27 (some a0) h
theorem fs27_eq (C : YC) (lf : Nat) (a0 : SV) (h : HW) : yFn Tryd.prog fx27 C lf [a0] h = fs27 C lf a0 h := fnX (K := (fun F h => ff27 (F 2) h)) (by kernel_rfl) (((q27_49_eq C lf ff27 (fun F h => ff27 (F 2) h) (fun _ _ _ => none)) _ h).trans (by kernel_rfl))
noncomputable def fy27 : YX Tryd.prog := Y1 fx27 fs27 fs27_eq (by kernel_rfl)
/-! FN 29 (*tinsel/blocks.Store).Total -/
noncomputable def fx29 : XF Tryd.prog := ⟨29, Tryd.f29, fun _ => .text, Tryd.func29, by kernel_rfl, by kernel_rfl, by kernel_rfl, by kernel_rfl⟩
noncomputable def ff29 (x2 : O) (h : HW) : Rs :=
 ob x2 fun a0 =>
 some (.ret a0, h)
noncomputable def q29_8 (C : YC) (lf : Nat) (r : K1) (x0 : O) (h : HW) : Rs :=
 ob x0 fun a1 =>
 bc (C (.fn 63) [a1] h) fun y2 h2 =>
 ob (unE .not y2) fun y3 =>
 yIf y3
 (r (some (.int .i64 0)) h2)
 (ob x0 fun a4 =>
 ob (semNil a4) fun y5 =>
 ob (fa 0 y5) fun y6 =>
 ob (ld1 y6 h2) fun y7 =>
 r (some y7) h2)
theorem q29_8_eq (C : YC) (lf : Nat) (r : K1) (KN : KF) (KE : KX) : ∀ F h, evX fx29 C lf [] F h KN (fun F h => r (F 2) h) KE = q29_8 C lf r (F 0) h := by
  intro F h; kernel_rfl
noncomputable def fs29 (C : YC) (lf : Nat) (a0 : SV) (h : HW) : Rs := q29_8 C lf ff29 (some a0) h
theorem fs29_eq (C : YC) (lf : Nat) (a0 : SV) (h : HW) : yFn Tryd.prog fx29 C lf [a0] h = fs29 C lf a0 h := fnX (K := (fun F h => ff29 (F 2) h)) (by kernel_rfl) (((q29_8_eq C lf ff29 (fun F h => ff29 (F 2) h) (fun _ _ _ => none)) _ h).trans (by kernel_rfl))
noncomputable def fy29 : YX Tryd.prog := Y1 fx29 fs29 fs29_eq (by kernel_rfl)
/-! FN 30 (*tinsel/tinselref01.Store).Left -/
noncomputable def fx30 : XF Tryd.prog := ⟨30, Tryd.f30, fun _ => .text, Tryd.func30, by kernel_rfl, by kernel_rfl, by kernel_rfl, by kernel_rfl⟩
noncomputable def ff30 (x2 : O) (h : HW) : Rs :=
 ob x2 fun a0 =>
 some (.ret a0, h)
noncomputable def q30_2 (C : YC) (lf : Nat) (r : K1) (x3 : O) (h : HW) : Rs :=
 ob x3 fun a1 =>
 r (some a1) h
theorem q30_2_eq (C : YC) (lf : Nat) (r : K1) (KN : KF) (KE : KX) : ∀ F h, evX fx30 C lf [1, 1, 1] F h KN (fun F h => r (F 2) h) KE = q30_2 C lf r (F 3) h := by
  intro F h; kernel_rfl
noncomputable def q30_18 (C : YC) (lf : Nat) (n : K4) (e0 : K1) (x3 x9 x10 x11 : O) (h : HW) : Rs :=
 ob x11 fun a4 =>
 ob x10 fun a5 =>
 ob (bin Tryd.prog .lss 3 a4 a5) fun y6 =>
 yIf y6
 (ob x9 fun a7 =>
 ob x11 fun a8 =>
 ob (ixS 1 a7 a8) fun y9 =>
 ob (ld1 y9 h) fun y10 =>
 ob (unE .not y10) fun y11 =>
 yIf y11
 (ob x3 fun a12 =>
 ob (bin Tryd.prog .add 3 a12 (.int .i64 1)) fun y13 =>
 ob x11 fun a14 =>
 ob (bin Tryd.prog .add 3 a14 (.int .i64 1)) fun y15 =>
 n (some y13) x9 x10 (some y15) h)
 (ob x11 fun a16 =>
 ob (bin Tryd.prog .add 3 a16 (.int .i64 1)) fun y17 =>
 n x3 x9 x10 (some y17) h))
 (e0 x3 h)
theorem q30_18_eq (C : YC) (lf : Nat) (n : K4) (e0 : K1) (KR : KF) (KE : KX) : ∀ F h, evX fx30 C lf [1, 1, 0, 1, 0, 0] F h (fun F h => n (F 3) (F 9) (F 10) (F 11) h) KR (bk 0 (fun F h => e0 (F 3) h) KE) = q30_18 C lf n e0 (F 3) (F 9) (F 10) (F 11) h := by
  intro F h; kernel_rfl
noncomputable def l30_3 (C : YC) (lf : Nat) (e0 : K1) (k : O × O × O × O → HW → Rs) (s : O × O × O × O) (h : HW) : Rs :=
 q30_18 C lf (fun x3 x9 x10 x11 h => k (x3, x9, x10, x11) h) e0 s.1 s.2.1 s.2.2.1 s.2.2.2 h
noncomputable def q30_24 (C : YC) (lf : Nat) (n : K4) (x0 x3 : O) (h : HW) : Rs :=
 ob x0 fun a19 =>
 ob (semNil a19) fun y20 =>
 ob (fa 0 y20) fun y21 =>
 ob (ld1 y21 h) fun y22 =>
 ob (lenE Tryd.prog 41 y22) fun y23 =>
 n x3 (some y22) (some y23) (some (.int .i64 0)) h
theorem q30_24_eq (C : YC) (lf : Nat) (n : K4) (KR : KF) (KE : KX) : ∀ F h, evX fx30 C lf [1, 1, 0, 0] F h (fun F h => n (F 3) (F 9) (F 10) (F 11) h) KR KE = q30_24 C lf n (F 0) (F 3) h := by
  intro F h; kernel_rfl
noncomputable def q30_25 (C : YC) (lf : Nat) (n : K1) (x0 x3 : O) (h : HW) : Rs :=
 q30_24 C lf (fun x3 x9 x10 x11 h => lp (l30_3 C lf n) lf (x3, x9, x10, x11) h) x0 x3 h
theorem q30_25_eq (C : YC) (lf : Nat) (n : K1) (KR : KF) (KE : KX) : ∀ F h, evX fx30 C lf [1, 1, 0] F h (fun F h => n (F 3) h) KR KE = q30_25 C lf n (F 0) (F 3) h := cSeq (a := subX fx30 [1, 1, 0, 0]) (b := subX fx30 [1, 1, 0, 1]) (by kernel_rfl) (B := (fun F h => lp (l30_3 C lf n) lf ((F 3), (F 9), (F 10), (F 11)) h)) (cBlock (id := 0) (a := subX fx30 [1, 1, 0, 1, 0]) (by kernel_rfl) (cLoop (a := subX fx30 [1, 1, 0, 1, 0, 0]) (g := fun F => (F 3, F 9, F 10, F 11)) (body := l30_3 C lf n) (by kernel_rfl) (fun k => (q30_18_eq C lf (fun x3 x9 x10 x11 h => k (x3, x9, x10, x11) h) n KR KE)))) (q30_24_eq C lf (fun x3 x9 x10 x11 h => lp (l30_3 C lf n) lf (x3, x9, x10, x11) h) KR KE)
noncomputable def q30_26 (C : YC) (lf : Nat) (r : K1) (x0 x3 : O) (h : HW) : Rs :=
 q30_25 C lf (fun x3 h => q30_2 C lf r x3 h) x0 x3 h
theorem q30_26_eq (C : YC) (lf : Nat) (r : K1) (KN : KF) (KE : KX) : ∀ F h, evX fx30 C lf [1, 1] F h KN (fun F h => r (F 2) h) KE = q30_26 C lf r (F 0) (F 3) h := cSeq (a := subX fx30 [1, 1, 0]) (b := subX fx30 [1, 1, 1]) (by kernel_rfl) (B := (fun F h => q30_2 C lf r (F 3) h)) (q30_2_eq C lf r KN KE) (q30_25_eq C lf (fun x3 h => q30_2 C lf r x3 h) (fun F h => r (F 2) h) KE)
noncomputable def q30_27 (C : YC) (lf : Nat) (n : K2) (x0 : O) (h : HW) : Rs :=
 n x0 (some (.int .i64 0)) h
theorem q30_27_eq (C : YC) (lf : Nat) (n : K2) (KR : KF) (KE : KX) : ∀ F h, evX fx30 C lf [1, 0] F h (fun F h => n (F 0) (F 3) h) KR KE = q30_27 C lf n (F 0) h := by
  intro F h; kernel_rfl
noncomputable def q30_28 (C : YC) (lf : Nat) (r : K1) (x0 : O) (h : HW) : Rs :=
 q30_27 C lf (fun x0 x3 h => q30_26 C lf r x0 x3 h) x0 h
theorem q30_28_eq (C : YC) (lf : Nat) (r : K1) (KN : KF) (KE : KX) : ∀ F h, evX fx30 C lf [1] F h KN (fun F h => r (F 2) h) KE = q30_28 C lf r (F 0) h := cSeq (a := subX fx30 [1, 0]) (b := subX fx30 [1, 1]) (by kernel_rfl) (B := (fun F h => q30_26 C lf r (F 0) (F 3) h)) (q30_26_eq C lf r KN KE) (q30_27_eq C lf (fun x0 x3 h => q30_26 C lf r x0 x3 h) (fun F h => r (F 2) h) KE)
noncomputable def q30_29 (C : YC) (lf : Nat) (n : K1) (x0 : O) (h : HW) : Rs :=
 n x0 h
theorem q30_29_eq (C : YC) (lf : Nat) (n : K1) (KR : KF) (KE : KX) : ∀ F h, evX fx30 C lf [0] F h (fun F h => n (F 0) h) KR KE = q30_29 C lf n (F 0) h := by
  intro F h; kernel_rfl
noncomputable def q30_30 (C : YC) (lf : Nat) (r : K1) (x0 : O) (h : HW) : Rs :=
 q30_29 C lf (fun x0 h => q30_28 C lf r x0 h) x0 h
theorem q30_30_eq (C : YC) (lf : Nat) (r : K1) (KN : KF) (KE : KX) : ∀ F h, evX fx30 C lf [] F h KN (fun F h => r (F 2) h) KE = q30_30 C lf r (F 0) h := cSeq (a := subX fx30 [0]) (b := subX fx30 [1]) (by kernel_rfl) (B := (fun F h => q30_28 C lf r (F 0) h)) (q30_28_eq C lf r KN KE) (q30_29_eq C lf (fun x0 h => q30_28 C lf r x0 h) (fun F h => r (F 2) h) KE)
noncomputable def fs30 (C : YC) (lf : Nat) (a0 : SV) (h : HW) : Rs := q30_30 C lf ff30 (some a0) h
theorem fs30_eq (C : YC) (lf : Nat) (a0 : SV) (h : HW) : yFn Tryd.prog fx30 C lf [a0] h = fs30 C lf a0 h := fnX (K := (fun F h => ff30 (F 2) h)) (by kernel_rfl) (((q30_30_eq C lf ff30 (fun F h => ff30 (F 2) h) (fun _ _ _ => none)) _ h).trans (by kernel_rfl))
noncomputable def fy30 : YX Tryd.prog := Y1 fx30 fs30 fs30_eq (by kernel_rfl)
/-! FN 31 tinsel/tinselref01.Ints -/
noncomputable def fx31 : XF Tryd.prog := ⟨31, Tryd.f31, fun _ => .text, Tryd.func31, by kernel_rfl, by kernel_rfl, by kernel_rfl, by kernel_rfl⟩
noncomputable def ff31 (x4 : O) (h : HW) : Rs :=
 ob x4 fun a0 =>
 some (.ret a0, h)
noncomputable def q31_1 (C : YC) (lf : Nat) (r : K1) (h : HW) : Rs :=
 r (some (.bool true)) h
theorem q31_1_eq (C : YC) (lf : Nat) (r : K1) (KN : KF) (KE : KX) : ∀ F h, evX fx31 C lf [1, 1, 1] F h KN (fun F h => r (F 4) h) KE = q31_1 C lf r h := by
  intro F h; kernel_rfl
noncomputable def q31_16 (C : YC) (lf : Nat) (n : K4) (r : K1) (e0 : K0) (x0 x1 x12 x13 : O) (h : HW) : Rs :=
 ob x13 fun a3 =>
 ob x12 fun a4 =>
 ob (bin Tryd.prog .lss 3 a3 a4) fun y5 =>
 yIf y5
 (ob x13 fun a6 =>
 ob x0 fun a7 =>
 ob (ixS 1 a7 a6) fun y8 =>
 ob (ld1 y8 h) fun y9 =>
 ob x1 fun a10 =>
 ob (ixS 1 a10 a6) fun y11 =>
 ob (ld1 y11 h) fun y12 =>
 ob (bin Tryd.prog .neq 3 y9 y12) fun y13 =>
 yIf y13
 (r (some (.bool false)) h)
 (ob x13 fun a14 =>
 ob (bin Tryd.prog .add 3 a14 (.int .i64 1)) fun y15 =>
 n x0 x1 x12 (some y15) h))
 (e0 h)
theorem q31_16_eq (C : YC) (lf : Nat) (n : K4) (r : K1) (e0 : K0) (KE : KX) : ∀ F h, evX fx31 C lf [1, 1, 0, 1, 0, 0] F h (fun F h => n (F 0) (F 1) (F 12) (F 13) h) (fun F h => r (F 4) h) (bk 0 (fun F h => e0 h) KE) = q31_16 C lf n r e0 (F 0) (F 1) (F 12) (F 13) h := by
  intro F h; kernel_rfl
noncomputable def l31_2 (C : YC) (lf : Nat) (r : K1) (e0 : K0) (k : O × O × O × O → HW → Rs) (s : O × O × O × O) (h : HW) : Rs :=
 q31_16 C lf (fun x0 x1 x12 x13 h => k (x0, x1, x12, x13) h) r e0 s.1 s.2.1 s.2.2.1 s.2.2.2 h
noncomputable def q31_19 (C : YC) (lf : Nat) (n : K4) (x0 x1 : O) (h : HW) : Rs :=
 ob x0 fun a17 =>
 ob (lenE Tryd.prog 33 a17) fun y18 =>
 n x0 x1 (some y18) (some (.int .i64 0)) h
theorem q31_19_eq (C : YC) (lf : Nat) (n : K4) (KR : KF) (KE : KX) : ∀ F h, evX fx31 C lf [1, 1, 0, 0] F h (fun F h => n (F 0) (F 1) (F 12) (F 13) h) KR KE = q31_19 C lf n (F 0) (F 1) h := by
  intro F h; kernel_rfl
noncomputable def q31_20 (C : YC) (lf : Nat) (n : K0) (r : K1) (x0 x1 : O) (h : HW) : Rs :=
 q31_19 C lf (fun x0 x1 x12 x13 h => lp (l31_2 C lf r n) lf (x0, x1, x12, x13) h) x0 x1 h
theorem q31_20_eq (C : YC) (lf : Nat) (n : K0) (r : K1) (KE : KX) : ∀ F h, evX fx31 C lf [1, 1, 0] F h (fun F h => n h) (fun F h => r (F 4) h) KE = q31_20 C lf n r (F 0) (F 1) h := cSeq (a := subX fx31 [1, 1, 0, 0]) (b := subX fx31 [1, 1, 0, 1]) (by kernel_rfl) (B := (fun F h => lp (l31_2 C lf r n) lf ((F 0), (F 1), (F 12), (F 13)) h)) (cBlock (id := 0) (a := subX fx31 [1, 1, 0, 1, 0]) (by kernel_rfl) (cLoop (a := subX fx31 [1, 1, 0, 1, 0, 0]) (g := fun F => (F 0, F 1, F 12, F 13)) (body := l31_2 C lf r n) (by kernel_rfl) (fun k => (q31_16_eq C lf (fun x0 x1 x12 x13 h => k (x0, x1, x12, x13) h) r n KE)))) (q31_19_eq C lf (fun x0 x1 x12 x13 h => lp (l31_2 C lf r n) lf (x0, x1, x12, x13) h) (fun F h => r (F 4) h) KE)
noncomputable def q31_21 (C : YC) (lf : Nat) (r : K1) (x0 x1 : O) (h : HW) : Rs :=
 q31_20 C lf (fun h => q31_1 C lf r h) r x0 x1 h
theorem q31_21_eq (C : YC) (lf : Nat) (r : K1) (KN : KF) (KE : KX) : ∀ F h, evX fx31 C lf [1, 1] F h KN (fun F h => r (F 4) h) KE = q31_21 C lf r (F 0) (F 1) h := cSeq (a := subX fx31 [1, 1, 0]) (b := subX fx31 [1, 1, 1]) (by kernel_rfl) (B := (fun F h => q31_1 C lf r h)) (q31_1_eq C lf r KN KE) (q31_20_eq C lf (fun h => q31_1 C lf r h) r KE)
noncomputable def q31_27 (C : YC) (lf : Nat) (n : K2) (r : K1) (x0 x1 : O) (h : HW) : Rs :=
 ob x0 fun a22 =>
 ob (lenE Tryd.prog 33 a22) fun y23 =>
 ob x1 fun a24 =>
 ob (lenE Tryd.prog 33 a24) fun y25 =>
 ob (bin Tryd.prog .neq 3 y23 y25) fun y26 =>
 yIf y26
 (r (some (.bool false)) h)
 (n x0 x1 h)
theorem q31_27_eq (C : YC) (lf : Nat) (n : K2) (r : K1) (KE : KX) : ∀ F h, evX fx31 C lf [1, 0] F h (fun F h => n (F 0) (F 1) h) (fun F h => r (F 4) h) KE = q31_27 C lf n r (F 0) (F 1) h := by
  intro F h; kernel_rfl
noncomputable def q31_28 (C : YC) (lf : Nat) (r : K1) (x0 x1 : O) (h : HW) : Rs :=
 q31_27 C lf (fun x0 x1 h => q31_21 C lf r x0 x1 h) r x0 x1 h
theorem q31_28_eq (C : YC) (lf : Nat) (r : K1) (KN : KF) (KE : KX) : ∀ F h, evX fx31 C lf [1] F h KN (fun F h => r (F 4) h) KE = q31_28 C lf r (F 0) (F 1) h := cSeq (a := subX fx31 [1, 0]) (b := subX fx31 [1, 1]) (by kernel_rfl) (B := (fun F h => q31_21 C lf r (F 0) (F 1) h)) (q31_21_eq C lf r KN KE) (q31_27_eq C lf (fun x0 x1 h => q31_21 C lf r x0 x1 h) r KE)
noncomputable def q31_29 (C : YC) (lf : Nat) (n : K2) (x0 x1 : O) (h : HW) : Rs :=
 n x0 x1 h
theorem q31_29_eq (C : YC) (lf : Nat) (n : K2) (KR : KF) (KE : KX) : ∀ F h, evX fx31 C lf [0] F h (fun F h => n (F 0) (F 1) h) KR KE = q31_29 C lf n (F 0) (F 1) h := by
  intro F h; kernel_rfl
noncomputable def q31_30 (C : YC) (lf : Nat) (r : K1) (x0 x1 : O) (h : HW) : Rs :=
 q31_29 C lf (fun x0 x1 h => q31_28 C lf r x0 x1 h) x0 x1 h
theorem q31_30_eq (C : YC) (lf : Nat) (r : K1) (KN : KF) (KE : KX) : ∀ F h, evX fx31 C lf [] F h KN (fun F h => r (F 4) h) KE = q31_30 C lf r (F 0) (F 1) h := cSeq (a := subX fx31 [0]) (b := subX fx31 [1]) (by kernel_rfl) (B := (fun F h => q31_28 C lf r (F 0) (F 1) h)) (q31_28_eq C lf r KN KE) (q31_29_eq C lf (fun x0 x1 h => q31_28 C lf r x0 x1 h) (fun F h => r (F 4) h) KE)
noncomputable def fs31 (C : YC) (lf : Nat) (a0 a1 : SV) (h : HW) : Rs := q31_30 C lf ff31 (some a0) (some a1) h
theorem fs31_eq (C : YC) (lf : Nat) (a0 a1 : SV) (h : HW) : yFn Tryd.prog fx31 C lf [a0, a1] h = fs31 C lf a0 a1 h := fnX (K := (fun F h => ff31 (F 4) h)) (by kernel_rfl) (((q31_30_eq C lf ff31 (fun F h => ff31 (F 4) h) (fun _ _ _ => none)) _ h).trans (by kernel_rfl))
noncomputable def fy31 : YX Tryd.prog := Y2 fx31 fs31 fs31_eq (by kernel_rfl)
/-! FN 32 (*tinsel/tinselref01.Store).Used -/
noncomputable def fx32 : XF Tryd.prog := ⟨32, Tryd.f32, fun _ => .text, Tryd.func32, by kernel_rfl, by kernel_rfl, by kernel_rfl, by kernel_rfl⟩
noncomputable def ff32 (x2 : O) (h : HW) : Rs :=
 ob x2 fun a0 =>
 some (.ret a0, h)
noncomputable def q32_2 (C : YC) (lf : Nat) (r : K1) (x3 : O) (h : HW) : Rs :=
 ob x3 fun a1 =>
 r (some a1) h
theorem q32_2_eq (C : YC) (lf : Nat) (r : K1) (KN : KF) (KE : KX) : ∀ F h, evX fx32 C lf [1, 1, 1] F h KN (fun F h => r (F 2) h) KE = q32_2 C lf r (F 3) h := by
  intro F h; kernel_rfl
noncomputable def q32_19 (C : YC) (lf : Nat) (n : K4) (e0 : K1) (x3 x9 x10 x11 : O) (h : HW) : Rs :=
 ob x11 fun a4 =>
 ob x10 fun a5 =>
 ob (bin Tryd.prog .lss 3 a4 a5) fun y6 =>
 yIf y6
 (ob x11 fun a7 =>
 ob x9 fun a8 =>
 ob x11 fun a9 =>
 ob (ixS 1 a8 a9) fun y10 =>
 ob (ld1 y10 h) fun y11 =>
 yIf y11
 (ob x3 fun a12 =>
 b2 (ybs Tryd.prog 33 1 [0] [a7] h) fun y13 h13 =>
 b2 (ybl Tryd.prog .append #[33, 33] [a12, y13] h13) fun y14 h14 =>
 ob x11 fun a15 =>
 ob (bin Tryd.prog .add 3 a15 (.int .i64 1)) fun y16 =>
 n (some y14) x9 x10 (some y16) h14)
 (ob x11 fun a17 =>
 ob (bin Tryd.prog .add 3 a17 (.int .i64 1)) fun y18 =>
 n x3 x9 x10 (some y18) h))
 (e0 x3 h)
theorem q32_19_eq (C : YC) (lf : Nat) (n : K4) (e0 : K1) (KR : KF) (KE : KX) : ∀ F h, evX fx32 C lf [1, 1, 0, 1, 0, 0] F h (fun F h => n (F 3) (F 9) (F 10) (F 11) h) KR (bk 0 (fun F h => e0 (F 3) h) KE) = q32_19 C lf n e0 (F 3) (F 9) (F 10) (F 11) h := by
  intro F h; kernel_rfl
noncomputable def l32_3 (C : YC) (lf : Nat) (e0 : K1) (k : O × O × O × O → HW → Rs) (s : O × O × O × O) (h : HW) : Rs :=
 q32_19 C lf (fun x3 x9 x10 x11 h => k (x3, x9, x10, x11) h) e0 s.1 s.2.1 s.2.2.1 s.2.2.2 h
noncomputable def q32_25 (C : YC) (lf : Nat) (n : K4) (x0 x3 : O) (h : HW) : Rs :=
 ob x0 fun a20 =>
 ob (semNil a20) fun y21 =>
 ob (fa 0 y21) fun y22 =>
 ob (ld1 y22 h) fun y23 =>
 ob (lenE Tryd.prog 41 y23) fun y24 =>
 n x3 (some y23) (some y24) (some (.int .i64 0)) h
theorem q32_25_eq (C : YC) (lf : Nat) (n : K4) (KR : KF) (KE : KX) : ∀ F h, evX fx32 C lf [1, 1, 0, 0] F h (fun F h => n (F 3) (F 9) (F 10) (F 11) h) KR KE = q32_25 C lf n (F 0) (F 3) h := by
  intro F h; kernel_rfl
noncomputable def q32_26 (C : YC) (lf : Nat) (n : K1) (x0 x3 : O) (h : HW) : Rs :=
 q32_25 C lf (fun x3 x9 x10 x11 h => lp (l32_3 C lf n) lf (x3, x9, x10, x11) h) x0 x3 h
theorem q32_26_eq (C : YC) (lf : Nat) (n : K1) (KR : KF) (KE : KX) : ∀ F h, evX fx32 C lf [1, 1, 0] F h (fun F h => n (F 3) h) KR KE = q32_26 C lf n (F 0) (F 3) h := cSeq (a := subX fx32 [1, 1, 0, 0]) (b := subX fx32 [1, 1, 0, 1]) (by kernel_rfl) (B := (fun F h => lp (l32_3 C lf n) lf ((F 3), (F 9), (F 10), (F 11)) h)) (cBlock (id := 0) (a := subX fx32 [1, 1, 0, 1, 0]) (by kernel_rfl) (cLoop (a := subX fx32 [1, 1, 0, 1, 0, 0]) (g := fun F => (F 3, F 9, F 10, F 11)) (body := l32_3 C lf n) (by kernel_rfl) (fun k => (q32_19_eq C lf (fun x3 x9 x10 x11 h => k (x3, x9, x10, x11) h) n KR KE)))) (q32_25_eq C lf (fun x3 x9 x10 x11 h => lp (l32_3 C lf n) lf (x3, x9, x10, x11) h) KR KE)
noncomputable def q32_27 (C : YC) (lf : Nat) (r : K1) (x0 x3 : O) (h : HW) : Rs :=
 q32_26 C lf (fun x3 h => q32_2 C lf r x3 h) x0 x3 h
theorem q32_27_eq (C : YC) (lf : Nat) (r : K1) (KN : KF) (KE : KX) : ∀ F h, evX fx32 C lf [1, 1] F h KN (fun F h => r (F 2) h) KE = q32_27 C lf r (F 0) (F 3) h := cSeq (a := subX fx32 [1, 1, 0]) (b := subX fx32 [1, 1, 1]) (by kernel_rfl) (B := (fun F h => q32_2 C lf r (F 3) h)) (q32_2_eq C lf r KN KE) (q32_26_eq C lf (fun x3 h => q32_2 C lf r x3 h) (fun F h => r (F 2) h) KE)
noncomputable def q32_28 (C : YC) (lf : Nat) (n : K2) (x0 : O) (h : HW) : Rs :=
 n x0 (some (.val (.slice none 0 0))) h
theorem q32_28_eq (C : YC) (lf : Nat) (n : K2) (KR : KF) (KE : KX) : ∀ F h, evX fx32 C lf [1, 0] F h (fun F h => n (F 0) (F 3) h) KR KE = q32_28 C lf n (F 0) h := by
  intro F h; kernel_rfl
noncomputable def q32_29 (C : YC) (lf : Nat) (r : K1) (x0 : O) (h : HW) : Rs :=
 q32_28 C lf (fun x0 x3 h => q32_27 C lf r x0 x3 h) x0 h
theorem q32_29_eq (C : YC) (lf : Nat) (r : K1) (KN : KF) (KE : KX) : ∀ F h, evX fx32 C lf [1] F h KN (fun F h => r (F 2) h) KE = q32_29 C lf r (F 0) h := cSeq (a := subX fx32 [1, 0]) (b := subX fx32 [1, 1]) (by kernel_rfl) (B := (fun F h => q32_27 C lf r (F 0) (F 3) h)) (q32_27_eq C lf r KN KE) (q32_28_eq C lf (fun x0 x3 h => q32_27 C lf r x0 x3 h) (fun F h => r (F 2) h) KE)
noncomputable def q32_30 (C : YC) (lf : Nat) (n : K1) (x0 : O) (h : HW) : Rs :=
 n x0 h
theorem q32_30_eq (C : YC) (lf : Nat) (n : K1) (KR : KF) (KE : KX) : ∀ F h, evX fx32 C lf [0] F h (fun F h => n (F 0) h) KR KE = q32_30 C lf n (F 0) h := by
  intro F h; kernel_rfl
noncomputable def q32_31 (C : YC) (lf : Nat) (r : K1) (x0 : O) (h : HW) : Rs :=
 q32_30 C lf (fun x0 h => q32_29 C lf r x0 h) x0 h
theorem q32_31_eq (C : YC) (lf : Nat) (r : K1) (KN : KF) (KE : KX) : ∀ F h, evX fx32 C lf [] F h KN (fun F h => r (F 2) h) KE = q32_31 C lf r (F 0) h := cSeq (a := subX fx32 [0]) (b := subX fx32 [1]) (by kernel_rfl) (B := (fun F h => q32_29 C lf r (F 0) h)) (q32_29_eq C lf r KN KE) (q32_30_eq C lf (fun x0 h => q32_29 C lf r x0 h) (fun F h => r (F 2) h) KE)
noncomputable def fs32 (C : YC) (lf : Nat) (a0 : SV) (h : HW) : Rs := q32_31 C lf ff32 (some a0) h
theorem fs32_eq (C : YC) (lf : Nat) (a0 : SV) (h : HW) : yFn Tryd.prog fx32 C lf [a0] h = fs32 C lf a0 h := fnX (K := (fun F h => ff32 (F 2) h)) (by kernel_rfl) (((q32_31_eq C lf ff32 (fun F h => ff32 (F 2) h) (fun _ _ _ => none)) _ h).trans (by kernel_rfl))
noncomputable def fy32 : YX Tryd.prog := Y1 fx32 fs32 fs32_eq (by kernel_rfl)
/-! FN 25 tinsel/tinsellaw01.act -/
noncomputable def fx25 : XF Tryd.prog := ⟨25, Tryd.f25, fun r => bif Nat.beq r 7 then .ord [0, 1, 4, 5, 2, 6, 3, 7, 8, 9] [(3, [6])] else bif Nat.beq r 20 then .ord [0, 1, 3, 5, 7, 8, 10, 12, 2, 4, 9, 11, 13, 6, 14, 15, 16, 17, 18, 19, 20, 21, 22] [(6, [13, 11, 9])] else bif Nat.beq r 21 then .ord [0, 1, 4, 5, 2, 6, 3, 7, 8, 9] [(3, [6])] else .text, Tryd.func25, by kernel_rfl, by kernel_rfl, by kernel_rfl, by kernel_rfl⟩
noncomputable def ff25 (x6 : O) (h : HW) : Rs :=
 ob x6 fun a0 =>
 some (.ret a0, h)
noncomputable def q25_12 (C : YC) (lf : Nat) (r : K1) (x0 x1 x5 : O) (h : HW) : Rs :=
 ob x0 fun a1 =>
 ob x5 fun a2 =>
 ob (fa 1 a2) fun y3 =>
 ob x1 fun a4 =>
 ob x5 fun a5 =>
 ob (fa 1 a5) fun y6 =>
 ob (ld1 y3 h) fun y7 =>
 ob (ld1 y6 h) fun y8 =>
 bcn (C (.fn 33) [a1, y7] h) fun y9 h9 =>
 ck (chkH [(6, adrO (some y6)), (2, adrO (some y3))] h h9 [6]) <|
 bcn (C (.fn 72) [a4, y8] h9) fun y10 h10 =>
 ob (bin Tryd.prog .eql 4 y9 y10) fun y11 =>
 r (some y11) h10
theorem q25_12_eq (C : YC) (lf : Nat) (r : K1) (KN : KF) (KE : KX) : ∀ F h, evX fx25 C lf [1, 1] F h KN (fun F h => r (F 6) h) KE = q25_12 C lf r (F 0) (F 1) (F 5) h := by
  intro F h; kernel_rfl
noncomputable def q25_27 (C : YC) (lf : Nat) (r : K1) (x0 x1 : O) (h : HW) : Rs :=
 ob x0 fun a13 =>
 bc (C (.fn 17) [a13] h) fun y14 h14 =>
 ob (ext 0 y14) fun y15 =>
 ob (ext 1 y14) fun y16 =>
 ob x1 fun a17 =>
 bc (C (.fn 66) [a17] h14) fun y18 h18 =>
 ob (ext 0 y18) fun y19 =>
 ob (ext 1 y18) fun y20 =>
 ob (bin Tryd.prog .eql 3 y15 y19) fun y21 =>
 bc (gd true (some y21) (some (.ret y16, h18)) h18) fun y22 h22 =>
 bc (gd true (some y21) (some (.ret y20, h22)) h22) fun y23 h23 =>
 bc (gd true (some y21) (ob (bin Tryd.prog .eql 3 y22 y23) fun y24 =>
 some (.ret y24, h23)) h23) fun y25 h25 =>
 ob (ypk y21 y25 (.bool false)) fun y26 =>
 r (some y26) h25
theorem q25_27_eq (C : YC) (lf : Nat) (r : K1) (KN : KF) (K0 : KF) (KE : KX) : ∀ F h, evX fx25 C lf [1, 0, 1, 0, 1, 0] F h KN (fun F h => r (F 6) h) (bk 0 K0 KE) = q25_27 C lf r (F 0) (F 1) h := by
  intro F h; kernel_rfl
noncomputable def q25_39 (C : YC) (lf : Nat) (r : K1) (x0 x1 x5 : O) (h : HW) : Rs :=
 ob x0 fun a28 =>
 ob x5 fun a29 =>
 ob (fa 1 a29) fun y30 =>
 ob x1 fun a31 =>
 ob x5 fun a32 =>
 ob (fa 1 a32) fun y33 =>
 ob (ld1 y30 h) fun y34 =>
 ob (ld1 y33 h) fun y35 =>
 bcn (C (.fn 23) [a28, y34] h) fun y36 h36 =>
 ck (chkH [(6, adrO (some y33)), (2, adrO (some y30))] h h36 [6]) <|
 bcn (C (.fn 67) [a31, y35] h36) fun y37 h37 =>
 ob (bin Tryd.prog .eql 3 y36 y37) fun y38 =>
 r (some y38) h37
theorem q25_39_eq (C : YC) (lf : Nat) (r : K1) (KN : KF) (K0 : KF) (KE : KX) : ∀ F h, evX fx25 C lf [1, 0, 1, 0, 1, 1, 1, 0] F h KN (fun F h => r (F 6) h) (bk 0 K0 KE) = q25_39 C lf r (F 0) (F 1) (F 5) h := by
  intro F h; kernel_rfl
noncomputable def q25_67 (C : YC) (lf : Nat) (r : K1) (x0 x5 x11 x12 x13 x14 : O) (h : HW) : Rs :=
 ob x0 fun a40 =>
 ob x5 fun a41 =>
 ob (fa 1 a41) fun y42 =>
 ob (ld1 y42 h) fun y43 =>
 bc (C (.fn 21) [a40, y43] h) fun y44 h44 =>
 ob (ext 0 y44) fun y45 =>
 ob (ext 1 y44) fun y46 =>
 ob x12 fun a47 =>
 ob x14 fun a48 =>
 ob (bin Tryd.prog .eql 3 a47 a48) fun y49 =>
 bc (gd true (some y49) (some (.ret y45, h44)) h44) fun y50 h50 =>
 bc (gd true (some y49) (ob x13 fun a51 =>
 some (.ret a51, h50)) h50) fun y52 h52 =>
 bc (gd true (some y49) (bc (C (.fn 22) [y50, y52] h52) fun y53 h53 =>
 some (.ret y53, h53)) h52) fun y54 h54 =>
 ob (ypk y49 y54 (.bool false)) fun y55 =>
 bc (gd true (some y55) (ob x11 fun a56 =>
 some (.ret a56, h54)) h54) fun y57 h57 =>
 bc (gd true (some y55) (ob (lenE Tryd.prog 24 y57) fun y58 =>
 some (.ret y58, h57)) h57) fun y59 h59 =>
 bc (gd true (some y55) (ob x13 fun a60 =>
 some (.ret a60, h59)) h59) fun y61 h61 =>
 bc (gd true (some y55) (ob (lenE Tryd.prog 24 y61) fun y62 =>
 some (.ret y62, h61)) h61) fun y63 h63 =>
 bc (gd true (some y55) (ob (bin Tryd.prog .eql 3 y59 y63) fun y64 =>
 some (.ret y64, h63)) h63) fun y65 h65 =>
 ob (ypk y55 y65 (.bool false)) fun y66 =>
 r (some y66) h65
theorem q25_67_eq (C : YC) (lf : Nat) (r : K1) (KN : KF) (K0 : KF) (KE : KX) : ∀ F h, evX fx25 C lf [1, 0, 1, 0, 1, 1, 1, 1, 1, 0, 1, 1, 1] F h KN (fun F h => r (F 6) h) (bk 0 K0 KE) = q25_67 C lf r (F 0) (F 5) (F 11) (F 12) (F 13) (F 14) h := by
  intro F h; kernel_rfl
noncomputable def q25_81 (C : YC) (lf : Nat) (n : K8) (e1 : K6) (x0 x5 x11 x12 x13 x14 x70 x71 : O) (h : HW) : Rs :=
 ob x71 fun a69 =>
 ob x70 fun a70 =>
 ob (bin Tryd.prog .lss 3 a69 a70) fun y71 =>
 yIf y71
 (ob x71 fun a72 =>
 ob x11 fun a73 =>
 ob (ixS 1 a73 a72) fun y74 =>
 ob (ld1 y74 h) fun y75 =>
 ob (bin Tryd.prog .xor 5 y75 (.int .u8 255)) fun y76 =>
 ob (ixS 1 a73 a72) fun y77 =>
 ob (st 1 y77 y76 h) fun h78 =>
 ob x71 fun a79 =>
 ob (bin Tryd.prog .add 3 a79 (.int .i64 1)) fun y80 =>
 n x0 x5 x11 x12 x13 x14 x70 (some y80) h78)
 (e1 x0 x5 x11 x12 x13 x14 h)
theorem q25_81_eq (C : YC) (lf : Nat) (n : K8) (e1 : K6) (KR : KF) (K0 : KF) (KE : KX) : ∀ F h, evX fx25 C lf [1, 0, 1, 0, 1, 1, 1, 1, 1, 0, 1, 1, 0, 1, 0, 0] F h (fun F h => n (F 0) (F 5) (F 11) (F 12) (F 13) (F 14) (F 70) (F 71) h) KR (bk 1 (fun F h => e1 (F 0) (F 5) (F 11) (F 12) (F 13) (F 14) h) (bk 0 K0 KE)) = q25_81 C lf n e1 (F 0) (F 5) (F 11) (F 12) (F 13) (F 14) (F 70) (F 71) h := by
  intro F h; kernel_rfl
noncomputable def l25_68 (C : YC) (lf : Nat) (e1 : K6) (k : O × O × O × O × O × O × O × O → HW → Rs) (s : O × O × O × O × O × O × O × O) (h : HW) : Rs :=
 q25_81 C lf (fun x0 x5 x11 x12 x13 x14 x70 x71 h => k (x0, x5, x11, x12, x13, x14, x70, x71) h) e1 s.1 s.2.1 s.2.2.1 s.2.2.2.1 s.2.2.2.2.1 s.2.2.2.2.2.1 s.2.2.2.2.2.2.1 s.2.2.2.2.2.2.2 h
noncomputable def q25_84 (C : YC) (lf : Nat) (n : K8) (x0 x5 x11 x12 x13 x14 : O) (h : HW) : Rs :=
 ob x11 fun a82 =>
 ob (lenE Tryd.prog 24 a82) fun y83 =>
 n x0 x5 x11 x12 x13 x14 (some y83) (some (.int .i64 0)) h
theorem q25_84_eq (C : YC) (lf : Nat) (n : K8) (KR : KF) (K0 : KF) (KE : KX) : ∀ F h, evX fx25 C lf [1, 0, 1, 0, 1, 1, 1, 1, 1, 0, 1, 1, 0, 0] F h (fun F h => n (F 0) (F 5) (F 11) (F 12) (F 13) (F 14) (F 70) (F 71) h) KR (bk 0 K0 KE) = q25_84 C lf n (F 0) (F 5) (F 11) (F 12) (F 13) (F 14) h := by
  intro F h; kernel_rfl
noncomputable def q25_85 (C : YC) (lf : Nat) (n : K6) (x0 x5 x11 x12 x13 x14 : O) (h : HW) : Rs :=
 q25_84 C lf (fun x0 x5 x11 x12 x13 x14 x70 x71 h => lp (l25_68 C lf n) lf (x0, x5, x11, x12, x13, x14, x70, x71) h) x0 x5 x11 x12 x13 x14 h
theorem q25_85_eq (C : YC) (lf : Nat) (n : K6) (KR : KF) (K0 : KF) (KE : KX) : ∀ F h, evX fx25 C lf [1, 0, 1, 0, 1, 1, 1, 1, 1, 0, 1, 1, 0] F h (fun F h => n (F 0) (F 5) (F 11) (F 12) (F 13) (F 14) h) KR (bk 0 K0 KE) = q25_85 C lf n (F 0) (F 5) (F 11) (F 12) (F 13) (F 14) h := cSeq (a := subX fx25 [1, 0, 1, 0, 1, 1, 1, 1, 1, 0, 1, 1, 0, 0]) (b := subX fx25 [1, 0, 1, 0, 1, 1, 1, 1, 1, 0, 1, 1, 0, 1]) (by kernel_rfl) (B := (fun F h => lp (l25_68 C lf n) lf ((F 0), (F 5), (F 11), (F 12), (F 13), (F 14), (F 70), (F 71)) h)) (cBlock (id := 1) (a := subX fx25 [1, 0, 1, 0, 1, 1, 1, 1, 1, 0, 1, 1, 0, 1, 0]) (by kernel_rfl) (cLoop (a := subX fx25 [1, 0, 1, 0, 1, 1, 1, 1, 1, 0, 1, 1, 0, 1, 0, 0]) (g := fun F => (F 0, F 5, F 11, F 12, F 13, F 14, F 70, F 71)) (body := l25_68 C lf n) (by kernel_rfl) (fun k => (q25_81_eq C lf (fun x0 x5 x11 x12 x13 x14 x70 x71 h => k (x0, x5, x11, x12, x13, x14, x70, x71) h) n KR K0 KE)))) (q25_84_eq C lf (fun x0 x5 x11 x12 x13 x14 x70 x71 h => lp (l25_68 C lf n) lf (x0, x5, x11, x12, x13, x14, x70, x71) h) KR K0 KE)
noncomputable def q25_86 (C : YC) (lf : Nat) (r : K1) (x0 x5 x11 x12 x13 x14 : O) (h : HW) : Rs :=
 q25_85 C lf (fun x0 x5 x11 x12 x13 x14 h => q25_67 C lf r x0 x5 x11 x12 x13 x14 h) x0 x5 x11 x12 x13 x14 h
theorem q25_86_eq (C : YC) (lf : Nat) (r : K1) (KN : KF) (K0 : KF) (KE : KX) : ∀ F h, evX fx25 C lf [1, 0, 1, 0, 1, 1, 1, 1, 1, 0, 1, 1] F h KN (fun F h => r (F 6) h) (bk 0 K0 KE) = q25_86 C lf r (F 0) (F 5) (F 11) (F 12) (F 13) (F 14) h := cSeq (a := subX fx25 [1, 0, 1, 0, 1, 1, 1, 1, 1, 0, 1, 1, 0]) (b := subX fx25 [1, 0, 1, 0, 1, 1, 1, 1, 1, 0, 1, 1, 1]) (by kernel_rfl) (B := (fun F h => q25_67 C lf r (F 0) (F 5) (F 11) (F 12) (F 13) (F 14) h)) (q25_67_eq C lf r KN K0 KE) (q25_85_eq C lf (fun x0 x5 x11 x12 x13 x14 h => q25_67 C lf r x0 x5 x11 x12 x13 x14 h) (fun F h => r (F 6) h) K0 KE)
noncomputable def q25_94 (C : YC) (lf : Nat) (n : K6) (x0 x1 x5 x11 x12 : O) (h : HW) : Rs :=
 ob x1 fun a87 =>
 ob x5 fun a88 =>
 ob (fa 1 a88) fun y89 =>
 ob (ld1 y89 h) fun y90 =>
 bc (C (.fn 68) [a87, y90] h) fun y91 h91 =>
 ob (ext 0 y91) fun y92 =>
 ob (ext 1 y91) fun y93 =>
 n x0 x5 x11 x12 (some y92) (some y93) h91
theorem q25_94_eq (C : YC) (lf : Nat) (n : K6) (KR : KF) (K0 : KF) (KE : KX) : ∀ F h, evX fx25 C lf [1, 0, 1, 0, 1, 1, 1, 1, 1, 0, 1, 0] F h (fun F h => n (F 0) (F 5) (F 11) (F 12) (F 13) (F 14) h) KR (bk 0 K0 KE) = q25_94 C lf n (F 0) (F 1) (F 5) (F 11) (F 12) h := by
  intro F h; kernel_rfl
noncomputable def q25_95 (C : YC) (lf : Nat) (r : K1) (x0 x1 x5 x11 x12 : O) (h : HW) : Rs :=
 q25_94 C lf (fun x0 x5 x11 x12 x13 x14 h => q25_86 C lf r x0 x5 x11 x12 x13 x14 h) x0 x1 x5 x11 x12 h
theorem q25_95_eq (C : YC) (lf : Nat) (r : K1) (KN : KF) (K0 : KF) (KE : KX) : ∀ F h, evX fx25 C lf [1, 0, 1, 0, 1, 1, 1, 1, 1, 0, 1] F h KN (fun F h => r (F 6) h) (bk 0 K0 KE) = q25_95 C lf r (F 0) (F 1) (F 5) (F 11) (F 12) h := cSeq (a := subX fx25 [1, 0, 1, 0, 1, 1, 1, 1, 1, 0, 1, 0]) (b := subX fx25 [1, 0, 1, 0, 1, 1, 1, 1, 1, 0, 1, 1]) (by kernel_rfl) (B := (fun F h => q25_86 C lf r (F 0) (F 5) (F 11) (F 12) (F 13) (F 14) h)) (q25_86_eq C lf r KN K0 KE) (q25_94_eq C lf (fun x0 x5 x11 x12 x13 x14 h => q25_86 C lf r x0 x5 x11 x12 x13 x14 h) (fun F h => r (F 6) h) K0 KE)
noncomputable def q25_103 (C : YC) (lf : Nat) (n : K5) (x0 x1 x5 : O) (h : HW) : Rs :=
 ob x0 fun a96 =>
 ob x5 fun a97 =>
 ob (fa 1 a97) fun y98 =>
 ob (ld1 y98 h) fun y99 =>
 bc (C (.fn 21) [a96, y99] h) fun y100 h100 =>
 ob (ext 0 y100) fun y101 =>
 ob (ext 1 y100) fun y102 =>
 n x0 x1 x5 (some y101) (some y102) h100
theorem q25_103_eq (C : YC) (lf : Nat) (n : K5) (KR : KF) (K0 : KF) (KE : KX) : ∀ F h, evX fx25 C lf [1, 0, 1, 0, 1, 1, 1, 1, 1, 0, 0] F h (fun F h => n (F 0) (F 1) (F 5) (F 11) (F 12) h) KR (bk 0 K0 KE) = q25_103 C lf n (F 0) (F 1) (F 5) h := by
  intro F h; kernel_rfl
noncomputable def q25_104 (C : YC) (lf : Nat) (r : K1) (x0 x1 x5 : O) (h : HW) : Rs :=
 q25_103 C lf (fun x0 x1 x5 x11 x12 h => q25_95 C lf r x0 x1 x5 x11 x12 h) x0 x1 x5 h
theorem q25_104_eq (C : YC) (lf : Nat) (r : K1) (KN : KF) (K0 : KF) (KE : KX) : ∀ F h, evX fx25 C lf [1, 0, 1, 0, 1, 1, 1, 1, 1, 0] F h KN (fun F h => r (F 6) h) (bk 0 K0 KE) = q25_104 C lf r (F 0) (F 1) (F 5) h := cSeq (a := subX fx25 [1, 0, 1, 0, 1, 1, 1, 1, 1, 0, 0]) (b := subX fx25 [1, 0, 1, 0, 1, 1, 1, 1, 1, 0, 1]) (by kernel_rfl) (B := (fun F h => q25_95 C lf r (F 0) (F 1) (F 5) (F 11) (F 12) h)) (q25_95_eq C lf r KN K0 KE) (q25_103_eq C lf (fun x0 x1 x5 x11 x12 h => q25_95 C lf r x0 x1 x5 x11 x12 h) (fun F h => r (F 6) h) K0 KE)
noncomputable def q25_142 (C : YC) (lf : Nat) (n : K3) (r : K1) (x0 x1 x5 x21 : O) (h : HW) : Rs :=
 ob x21 fun a105 =>
 ob (bin Tryd.prog .eql 3 a105 (.int .i64 3)) fun y106 =>
 yIf y106
 (ob x5 fun a107 =>
 ob (fa 3 a107) fun y108 =>
 ob (ld1 y108 h) fun y109 =>
 bc (C (.fn 69) [y109] h) fun y110 h110 =>
 ob (ext 0 y110) fun y111 =>
 ob (ext 1 y110) fun y112 =>
 ob x0 fun a113 =>
 ob x5 fun a114 =>
 ob (fa 1 a114) fun y115 =>
 ob x5 fun a116 =>
 ob (fa 2 a116) fun y117 =>
 ob x1 fun a118 =>
 ob x5 fun a119 =>
 ob (fa 1 a119) fun y120 =>
 ob x5 fun a121 =>
 ob (fa 2 a121) fun y122 =>
 ob x5 fun a123 =>
 ob (fa 3 a123) fun y124 =>
 ob (ld1 y115 h110) fun y125 =>
 ob (ld1 y117 h110) fun y126 =>
 ob (ld1 y120 h110) fun y127 =>
 ob (ld1 y122 h110) fun y128 =>
 ob (ld1 y124 h110) fun y129 =>
 bcn (C (.fn 18) [a113, y125, y126, y112] h110) fun y130 h130 =>
 ck (chkH [(13, adrO (some y124)), (11, adrO (some y122)), (9, adrO (some y120)), (4, adrO (some y117)), (2, adrO (some y115))] h110 h130 [13, 11, 9]) <|
 bcn (C (.fn 70) [a118, y127, y128, y129] h130) fun y131 h131 =>
 ob (bin Tryd.prog .eql 3 y130 y131) fun y132 =>
 bcn (gd true (some y132) (some (.ret y111, h131)) h131) fun y133 h133 =>
 bcn (gd true (some y132) (ob x5 fun a134 =>
 ob (fa 3 a134) fun y135 =>
 some (.ret y135, h133)) h133) fun y136 h136 =>
 bcn (gd true (some y132) (ob (ld1 y136 h136) fun y137 =>
 some (.ret y137, h136)) h136) fun y138 h138 =>
 bcn (gd true (some y132) (bcn (C (.fn 71) [y133, y138] h138) fun y139 h139 =>
 some (.ret y139, h139)) h138) fun y140 h140 =>
 ob (ypk y132 y140 (.bool false)) fun y141 =>
 r (some y141) h140)
 (n x0 x1 x5 h)
theorem q25_142_eq (C : YC) (lf : Nat) (n : K3) (r : K1) (K0 : KF) (KE : KX) : ∀ F h, evX fx25 C lf [1, 0, 1, 0, 1, 1, 1, 1, 1, 1] F h (fun F h => n (F 0) (F 1) (F 5) h) (fun F h => r (F 6) h) (bk 0 K0 KE) = q25_142 C lf n r (F 0) (F 1) (F 5) (F 21) h := by
  intro F h; kernel_rfl
noncomputable def q25_144 (C : YC) (lf : Nat) (n : K3) (r : K1) (x0 x1 x5 x21 x53 : O) (h : HW) : Rs :=
 ob x53 fun a143 =>
 yIf a143
 (q25_104 C lf r x0 x1 x5 h)
 (q25_142 C lf n r x0 x1 x5 x21 h)
theorem q25_144_eq (C : YC) (lf : Nat) (n : K3) (r : K1) (K0 : KF) (KE : KX) : ∀ F h, evX fx25 C lf [1, 0, 1, 0, 1, 1, 1, 1, 1] F h (fun F h => n (F 0) (F 1) (F 5) h) (fun F h => r (F 6) h) (bk 0 K0 KE) = q25_144 C lf n r (F 0) (F 1) (F 5) (F 21) (F 53) h := cCond (x := .tmp 53) (by kernel_rfl) (q25_104_eq C lf r (fun F h => n (F 0) (F 1) (F 5) h) K0 KE) (q25_142_eq C lf n r K0 KE)
noncomputable def q25_147 (C : YC) (lf : Nat) (n : K5) (x0 x1 x5 x21 : O) (h : HW) : Rs :=
 ob x21 fun a145 =>
 ob (bin Tryd.prog .eql 3 a145 (.int .i64 2)) fun y146 =>
 n x0 x1 x5 x21 (some y146) h
theorem q25_147_eq (C : YC) (lf : Nat) (n : K5) (KR : KF) (K0 : KF) (KE : KX) : ∀ F h, evX fx25 C lf [1, 0, 1, 0, 1, 1, 1, 1, 0] F h (fun F h => n (F 0) (F 1) (F 5) (F 21) (F 53) h) KR (bk 0 K0 KE) = q25_147 C lf n (F 0) (F 1) (F 5) (F 21) h := by
  intro F h; kernel_rfl
noncomputable def q25_148 (C : YC) (lf : Nat) (n : K3) (r : K1) (x0 x1 x5 x21 : O) (h : HW) : Rs :=
 q25_147 C lf (fun x0 x1 x5 x21 x53 h => q25_144 C lf n r x0 x1 x5 x21 x53 h) x0 x1 x5 x21 h
theorem q25_148_eq (C : YC) (lf : Nat) (n : K3) (r : K1) (K0 : KF) (KE : KX) : ∀ F h, evX fx25 C lf [1, 0, 1, 0, 1, 1, 1, 1] F h (fun F h => n (F 0) (F 1) (F 5) h) (fun F h => r (F 6) h) (bk 0 K0 KE) = q25_148 C lf n r (F 0) (F 1) (F 5) (F 21) h := cSeq (a := subX fx25 [1, 0, 1, 0, 1, 1, 1, 1, 0]) (b := subX fx25 [1, 0, 1, 0, 1, 1, 1, 1, 1]) (by kernel_rfl) (B := (fun F h => q25_144 C lf n r (F 0) (F 1) (F 5) (F 21) (F 53) h)) (q25_144_eq C lf n r K0 KE) (q25_147_eq C lf (fun x0 x1 x5 x21 x53 h => q25_144 C lf n r x0 x1 x5 x21 x53 h) (fun F h => r (F 6) h) K0 KE)
noncomputable def q25_150 (C : YC) (lf : Nat) (n : K3) (r : K1) (x0 x1 x5 x21 x42 : O) (h : HW) : Rs :=
 ob x42 fun a149 =>
 yIf a149
 (q25_39 C lf r x0 x1 x5 h)
 (q25_148 C lf n r x0 x1 x5 x21 h)
theorem q25_150_eq (C : YC) (lf : Nat) (n : K3) (r : K1) (K0 : KF) (KE : KX) : ∀ F h, evX fx25 C lf [1, 0, 1, 0, 1, 1, 1] F h (fun F h => n (F 0) (F 1) (F 5) h) (fun F h => r (F 6) h) (bk 0 K0 KE) = q25_150 C lf n r (F 0) (F 1) (F 5) (F 21) (F 42) h := cCond (x := .tmp 42) (by kernel_rfl) (q25_39_eq C lf r (fun F h => n (F 0) (F 1) (F 5) h) K0 KE) (q25_148_eq C lf n r K0 KE)
noncomputable def q25_153 (C : YC) (lf : Nat) (n : K5) (x0 x1 x5 x21 : O) (h : HW) : Rs :=
 ob x21 fun a151 =>
 ob (bin Tryd.prog .eql 3 a151 (.int .i64 1)) fun y152 =>
 n x0 x1 x5 x21 (some y152) h
theorem q25_153_eq (C : YC) (lf : Nat) (n : K5) (KR : KF) (K0 : KF) (KE : KX) : ∀ F h, evX fx25 C lf [1, 0, 1, 0, 1, 1, 0] F h (fun F h => n (F 0) (F 1) (F 5) (F 21) (F 42) h) KR (bk 0 K0 KE) = q25_153 C lf n (F 0) (F 1) (F 5) (F 21) h := by
  intro F h; kernel_rfl
noncomputable def q25_154 (C : YC) (lf : Nat) (n : K3) (r : K1) (x0 x1 x5 x21 : O) (h : HW) : Rs :=
 q25_153 C lf (fun x0 x1 x5 x21 x42 h => q25_150 C lf n r x0 x1 x5 x21 x42 h) x0 x1 x5 x21 h
theorem q25_154_eq (C : YC) (lf : Nat) (n : K3) (r : K1) (K0 : KF) (KE : KX) : ∀ F h, evX fx25 C lf [1, 0, 1, 0, 1, 1] F h (fun F h => n (F 0) (F 1) (F 5) h) (fun F h => r (F 6) h) (bk 0 K0 KE) = q25_154 C lf n r (F 0) (F 1) (F 5) (F 21) h := cSeq (a := subX fx25 [1, 0, 1, 0, 1, 1, 0]) (b := subX fx25 [1, 0, 1, 0, 1, 1, 1]) (by kernel_rfl) (B := (fun F h => q25_150 C lf n r (F 0) (F 1) (F 5) (F 21) (F 42) h)) (q25_150_eq C lf n r K0 KE) (q25_153_eq C lf (fun x0 x1 x5 x21 x42 h => q25_150 C lf n r x0 x1 x5 x21 x42 h) (fun F h => r (F 6) h) K0 KE)
noncomputable def q25_156 (C : YC) (lf : Nat) (n : K3) (r : K1) (x0 x1 x5 x21 x22 : O) (h : HW) : Rs :=
 ob x22 fun a155 =>
 yIf a155
 (q25_27 C lf r x0 x1 h)
 (q25_154 C lf n r x0 x1 x5 x21 h)
theorem q25_156_eq (C : YC) (lf : Nat) (n : K3) (r : K1) (K0 : KF) (KE : KX) : ∀ F h, evX fx25 C lf [1, 0, 1, 0, 1] F h (fun F h => n (F 0) (F 1) (F 5) h) (fun F h => r (F 6) h) (bk 0 K0 KE) = q25_156 C lf n r (F 0) (F 1) (F 5) (F 21) (F 22) h := cCond (x := .tmp 22) (by kernel_rfl) (q25_27_eq C lf r (fun F h => n (F 0) (F 1) (F 5) h) K0 KE) (q25_154_eq C lf n r K0 KE)
noncomputable def q25_159 (C : YC) (lf : Nat) (n : K5) (x0 x1 x5 x21 : O) (h : HW) : Rs :=
 ob x21 fun a157 =>
 ob (bin Tryd.prog .eql 3 a157 (.int .i64 0)) fun y158 =>
 n x0 x1 x5 x21 (some y158) h
theorem q25_159_eq (C : YC) (lf : Nat) (n : K5) (KR : KF) (K0 : KF) (KE : KX) : ∀ F h, evX fx25 C lf [1, 0, 1, 0, 0] F h (fun F h => n (F 0) (F 1) (F 5) (F 21) (F 22) h) KR (bk 0 K0 KE) = q25_159 C lf n (F 0) (F 1) (F 5) (F 21) h := by
  intro F h; kernel_rfl
noncomputable def q25_160 (C : YC) (lf : Nat) (n : K3) (r : K1) (x0 x1 x5 x21 : O) (h : HW) : Rs :=
 q25_159 C lf (fun x0 x1 x5 x21 x22 h => q25_156 C lf n r x0 x1 x5 x21 x22 h) x0 x1 x5 x21 h
theorem q25_160_eq (C : YC) (lf : Nat) (n : K3) (r : K1) (K0 : KF) (KE : KX) : ∀ F h, evX fx25 C lf [1, 0, 1, 0] F h (fun F h => n (F 0) (F 1) (F 5) h) (fun F h => r (F 6) h) (bk 0 K0 KE) = q25_160 C lf n r (F 0) (F 1) (F 5) (F 21) h := cSeq (a := subX fx25 [1, 0, 1, 0, 0]) (b := subX fx25 [1, 0, 1, 0, 1]) (by kernel_rfl) (B := (fun F h => q25_156 C lf n r (F 0) (F 1) (F 5) (F 21) (F 22) h)) (q25_156_eq C lf n r K0 KE) (q25_159_eq C lf (fun x0 x1 x5 x21 x22 h => q25_156 C lf n r x0 x1 x5 x21 x22 h) (fun F h => r (F 6) h) K0 KE)
noncomputable def q25_164 (C : YC) (lf : Nat) (n : K4) (x0 x1 x5 : O) (h : HW) : Rs :=
 ob x5 fun a161 =>
 ob (fa 0 a161) fun y162 =>
 ob (ld1 y162 h) fun y163 =>
 n x0 x1 x5 (some y163) h
theorem q25_164_eq (C : YC) (lf : Nat) (n : K4) (KR : KF) (KE : KX) : ∀ F h, evX fx25 C lf [1, 0, 0] F h (fun F h => n (F 0) (F 1) (F 5) (F 21) h) KR KE = q25_164 C lf n (F 0) (F 1) (F 5) h := by
  intro F h; kernel_rfl
noncomputable def q25_165 (C : YC) (lf : Nat) (n : K3) (r : K1) (x0 x1 x5 : O) (h : HW) : Rs :=
 q25_164 C lf (fun x0 x1 x5 x21 h => q25_160 C lf n r x0 x1 x5 x21 h) x0 x1 x5 h
theorem q25_165_eq (C : YC) (lf : Nat) (n : K3) (r : K1) (KE : KX) : ∀ F h, evX fx25 C lf [1, 0] F h (fun F h => n (F 0) (F 1) (F 5) h) (fun F h => r (F 6) h) KE = q25_165 C lf n r (F 0) (F 1) (F 5) h := cSeq (a := subX fx25 [1, 0, 0]) (b := subX fx25 [1, 0, 1]) (by kernel_rfl) (B := (fun F h => q25_160 C lf n r (F 0) (F 1) (F 5) (F 21) h)) (cBlock (id := 0) (a := subX fx25 [1, 0, 1, 0]) (by kernel_rfl) (q25_160_eq C lf n r (fun F h => n (F 0) (F 1) (F 5) h) KE)) (q25_164_eq C lf (fun x0 x1 x5 x21 h => q25_160 C lf n r x0 x1 x5 x21 h) (fun F h => r (F 6) h) KE)
noncomputable def q25_166 (C : YC) (lf : Nat) (r : K1) (x0 x1 x5 : O) (h : HW) : Rs :=
 q25_165 C lf (fun x0 x1 x5 h => q25_12 C lf r x0 x1 x5 h) r x0 x1 x5 h
theorem q25_166_eq (C : YC) (lf : Nat) (r : K1) (KN : KF) (KE : KX) : ∀ F h, evX fx25 C lf [1] F h KN (fun F h => r (F 6) h) KE = q25_166 C lf r (F 0) (F 1) (F 5) h := cSeq (a := subX fx25 [1, 0]) (b := subX fx25 [1, 1]) (by kernel_rfl) (B := (fun F h => q25_12 C lf r (F 0) (F 1) (F 5) h)) (q25_12_eq C lf r KN KE) (q25_165_eq C lf (fun x0 x1 x5 h => q25_12 C lf r x0 x1 x5 h) r KE)
noncomputable def q25_169 (C : YC) (lf : Nat) (n : K3) (x0 x1 x2 : O) (h : HW) : Rs :=
 ob x2 fun a167 =>
 b2 (ybx 47 a167 h) fun y168 h168 =>
 n x0 x1 (some y168) h168
theorem q25_169_eq (C : YC) (lf : Nat) (n : K3) (KR : KF) (KE : KX) : ∀ F h, evX fx25 C lf [0] F h (fun F h => n (F 0) (F 1) (F 5) h) KR KE = q25_169 C lf n (F 0) (F 1) (F 2) h := by
  intro F h; kernel_rfl
noncomputable def q25_170 (C : YC) (lf : Nat) (r : K1) (x0 x1 x2 : O) (h : HW) : Rs :=
 q25_169 C lf (fun x0 x1 x5 h => q25_166 C lf r x0 x1 x5 h) x0 x1 x2 h
theorem q25_170_eq (C : YC) (lf : Nat) (r : K1) (KN : KF) (KE : KX) : ∀ F h, evX fx25 C lf [] F h KN (fun F h => r (F 6) h) KE = q25_170 C lf r (F 0) (F 1) (F 2) h := cSeq (a := subX fx25 [0]) (b := subX fx25 [1]) (by kernel_rfl) (B := (fun F h => q25_166 C lf r (F 0) (F 1) (F 5) h)) (q25_166_eq C lf r KN KE) (q25_169_eq C lf (fun x0 x1 x5 h => q25_166 C lf r x0 x1 x5 h) (fun F h => r (F 6) h) KE)
noncomputable def fs25 (C : YC) (lf : Nat) (a0 a1 a2 : SV) (h : HW) : Rs := q25_170 C lf ff25 (some a0) (some a1) (some a2) h
theorem fs25_eq (C : YC) (lf : Nat) (a0 a1 a2 : SV) (h : HW) : yFn Tryd.prog fx25 C lf [a0, a1, a2] h = fs25 C lf a0 a1 a2 h := fnX (K := (fun F h => ff25 (F 6) h)) (by kernel_rfl) (((q25_170_eq C lf ff25 (fun F h => ff25 (F 6) h) (fun _ _ _ => none)) _ h).trans (by kernel_rfl))
noncomputable def fy25 : YX Tryd.prog := Y3 fx25 fs25 fs25_eq (by kernel_rfl)
/-! FN 28 tinsel/tinsellaw01.turned -/
noncomputable def fx28 : XF Tryd.prog := ⟨28, Tryd.f28, fun _ => .text, Tryd.func28, by kernel_rfl, by kernel_rfl, by kernel_rfl, by kernel_rfl⟩
noncomputable def ff28 (x4 : O) (h : HW) : Rs :=
 ob x4 fun a0 =>
 some (.ret a0, h)
noncomputable def q28_6 (C : YC) (lf : Nat) (r : K1) (x0 : O) (h : HW) : Rs :=
 ob x0 fun a1 =>
 bc (C (.fn 19) [a1] h) fun y2 h2 =>
 ob x0 fun a3 =>
 bc (C (.fn 29) [a3] h2) fun y4 h4 =>
 ob (bin Tryd.prog .eql 3 y2 y4) fun y5 =>
 r (some y5) h4
theorem q28_6_eq (C : YC) (lf : Nat) (r : K1) (KN : KF) (KE : KX) : ∀ F h, evX fx28 C lf [1, 1] F h KN (fun F h => r (F 4) h) KE = q28_6 C lf r (F 0) h := by
  intro F h; kernel_rfl
noncomputable def q28_29 (C : YC) (lf : Nat) (n : K4) (r : K1) (e0 : K1) (x0 x8 x9 x10 : O) (h : HW) : Rs :=
 ob x10 fun a8 =>
 ob x9 fun a9 =>
 ob (bin Tryd.prog .lss 3 a8 a9) fun y10 =>
 yIf y10
 (ob x8 fun a11 =>
 ob x10 fun a12 =>
 ob (ixS 1 a11 a12) fun y13 =>
 ob (ld1 y13 h) fun y14 =>
 ob x0 fun a15 =>
 b2 (ybs Tryd.prog 24 2 [0, 1] [(.int .u8 9), (.int .u8 9)] h) fun y16 h16 =>
 bc (C (.fn 18) [a15, y14, (.int .i64 0), y16] h16) fun y17 h17 =>
 ob (bin Tryd.prog .neq 26 y17 (.int .i64 0)) fun y18 =>
 bc (gd false (some y18) (ob x0 fun a19 =>
 some (.ret a19, h17)) h17) fun y20 h20 =>
 bc (gd false (some y18) (some (.ret y14, h20)) h20) fun y21 h21 =>
 bc (gd false (some y18) (bc (C (.fn 23) [y20, y21] h21) fun y22 h22 =>
 some (.ret y22, h22)) h21) fun y23 h23 =>
 bc (gd false (some y18) (ob (bin Tryd.prog .neq 26 y23 (.int .i64 0)) fun y24 =>
 some (.ret y24, h23)) h23) fun y25 h25 =>
 ob (ypk y18 (.bool true) y25) fun y26 =>
 yIf y26
 (r (some (.bool false)) h25)
 (ob x10 fun a27 =>
 ob (bin Tryd.prog .add 3 a27 (.int .i64 1)) fun y28 =>
 n x0 x8 x9 (some y28) h25))
 (e0 x0 h)
theorem q28_29_eq (C : YC) (lf : Nat) (n : K4) (r : K1) (e0 : K1) (KE : KX) : ∀ F h, evX fx28 C lf [1, 0, 1, 0, 0] F h (fun F h => n (F 0) (F 8) (F 9) (F 10) h) (fun F h => r (F 4) h) (bk 0 (fun F h => e0 (F 0) h) KE) = q28_29 C lf n r e0 (F 0) (F 8) (F 9) (F 10) h := by
  intro F h; kernel_rfl
noncomputable def l28_7 (C : YC) (lf : Nat) (r : K1) (e0 : K1) (k : O × O × O × O → HW → Rs) (s : O × O × O × O) (h : HW) : Rs :=
 q28_29 C lf (fun x0 x8 x9 x10 h => k (x0, x8, x9, x10) h) r e0 s.1 s.2.1 s.2.2.1 s.2.2.2 h
noncomputable def q28_33 (C : YC) (lf : Nat) (n : K4) (x0 x1 : O) (h : HW) : Rs :=
 ob x1 fun a30 =>
 bc (C (.fn 32) [a30] h) fun y31 h31 =>
 ob (lenE Tryd.prog 33 y31) fun y32 =>
 n x0 (some y31) (some y32) (some (.int .i64 0)) h31
theorem q28_33_eq (C : YC) (lf : Nat) (n : K4) (KR : KF) (KE : KX) : ∀ F h, evX fx28 C lf [1, 0, 0] F h (fun F h => n (F 0) (F 8) (F 9) (F 10) h) KR KE = q28_33 C lf n (F 0) (F 1) h := by
  intro F h; kernel_rfl
noncomputable def q28_34 (C : YC) (lf : Nat) (n : K1) (r : K1) (x0 x1 : O) (h : HW) : Rs :=
 q28_33 C lf (fun x0 x8 x9 x10 h => lp (l28_7 C lf r n) lf (x0, x8, x9, x10) h) x0 x1 h
theorem q28_34_eq (C : YC) (lf : Nat) (n : K1) (r : K1) (KE : KX) : ∀ F h, evX fx28 C lf [1, 0] F h (fun F h => n (F 0) h) (fun F h => r (F 4) h) KE = q28_34 C lf n r (F 0) (F 1) h := cSeq (a := subX fx28 [1, 0, 0]) (b := subX fx28 [1, 0, 1]) (by kernel_rfl) (B := (fun F h => lp (l28_7 C lf r n) lf ((F 0), (F 8), (F 9), (F 10)) h)) (cBlock (id := 0) (a := subX fx28 [1, 0, 1, 0]) (by kernel_rfl) (cLoop (a := subX fx28 [1, 0, 1, 0, 0]) (g := fun F => (F 0, F 8, F 9, F 10)) (body := l28_7 C lf r n) (by kernel_rfl) (fun k => (q28_29_eq C lf (fun x0 x8 x9 x10 h => k (x0, x8, x9, x10) h) r n KE)))) (q28_33_eq C lf (fun x0 x8 x9 x10 h => lp (l28_7 C lf r n) lf (x0, x8, x9, x10) h) (fun F h => r (F 4) h) KE)
noncomputable def q28_35 (C : YC) (lf : Nat) (r : K1) (x0 x1 : O) (h : HW) : Rs :=
 q28_34 C lf (fun x0 h => q28_6 C lf r x0 h) r x0 x1 h
theorem q28_35_eq (C : YC) (lf : Nat) (r : K1) (KN : KF) (KE : KX) : ∀ F h, evX fx28 C lf [1] F h KN (fun F h => r (F 4) h) KE = q28_35 C lf r (F 0) (F 1) h := cSeq (a := subX fx28 [1, 0]) (b := subX fx28 [1, 1]) (by kernel_rfl) (B := (fun F h => q28_6 C lf r (F 0) h)) (q28_6_eq C lf r KN KE) (q28_34_eq C lf (fun x0 h => q28_6 C lf r x0 h) r KE)
noncomputable def q28_36 (C : YC) (lf : Nat) (n : K2) (x0 x1 : O) (h : HW) : Rs :=
 n x0 x1 h
theorem q28_36_eq (C : YC) (lf : Nat) (n : K2) (KR : KF) (KE : KX) : ∀ F h, evX fx28 C lf [0] F h (fun F h => n (F 0) (F 1) h) KR KE = q28_36 C lf n (F 0) (F 1) h := by
  intro F h; kernel_rfl
noncomputable def q28_37 (C : YC) (lf : Nat) (r : K1) (x0 x1 : O) (h : HW) : Rs :=
 q28_36 C lf (fun x0 x1 h => q28_35 C lf r x0 x1 h) x0 x1 h
theorem q28_37_eq (C : YC) (lf : Nat) (r : K1) (KN : KF) (KE : KX) : ∀ F h, evX fx28 C lf [] F h KN (fun F h => r (F 4) h) KE = q28_37 C lf r (F 0) (F 1) h := cSeq (a := subX fx28 [0]) (b := subX fx28 [1]) (by kernel_rfl) (B := (fun F h => q28_35 C lf r (F 0) (F 1) h)) (q28_35_eq C lf r KN KE) (q28_36_eq C lf (fun x0 x1 h => q28_35 C lf r x0 x1 h) (fun F h => r (F 4) h) KE)
noncomputable def fs28 (C : YC) (lf : Nat) (a0 a1 : SV) (h : HW) : Rs := q28_37 C lf ff28 (some a0) (some a1) h
theorem fs28_eq (C : YC) (lf : Nat) (a0 a1 : SV) (h : HW) : yFn Tryd.prog fx28 C lf [a0, a1] h = fs28 C lf a0 a1 h := fnX (K := (fun F h => ff28 (F 4) h)) (by kernel_rfl) (((q28_37_eq C lf ff28 (fun F h => ff28 (F 4) h) (fun _ _ _ => none)) _ h).trans (by kernel_rfl))
noncomputable def fy28 : YX Tryd.prog := Y2 fx28 fs28 fs28_eq (by kernel_rfl)
/-! FN 66 (*tinsel/tinselref01.Store).Alloc -/
noncomputable def fx66 : XF Tryd.prog := ⟨66, Tryd.f66, fun r => bif Nat.beq r 6 then .ord [0, 1, 2, 4, 3, 5, 6, 7] [(5, [3])] else .text, Tryd.func66, by kernel_rfl, by kernel_rfl, by kernel_rfl, by kernel_rfl⟩
noncomputable def ff66 (x2 x3 : O) (h : HW) : Rs :=
 ob x2 fun a0 =>
 ob x3 fun a1 =>
 some (.ret (.tup [a0, a1]), h)
noncomputable def q66_2 (C : YC) (lf : Nat) (r : K2) (h : HW) : Rs :=
 r (some (.int .i64 0)) (some (.int .i64 28)) h
theorem q66_2_eq (C : YC) (lf : Nat) (r : K2) (KN : KF) (KE : KX) : ∀ F h, evX fx66 C lf [1, 1] F h KN (fun F h => r (F 2) (F 3) h) KE = q66_2 C lf r h := by
  intro F h; kernel_rfl
noncomputable def q66_28 (C : YC) (lf : Nat) (n : K4) (r : K2) (e0 : K0) (x0 x9 x10 x11 : O) (h : HW) : Rs :=
 ob x11 fun a4 =>
 ob x10 fun a5 =>
 ob (bin Tryd.prog .lss 3 a4 a5) fun y6 =>
 yIf y6
 (ob x11 fun a7 =>
 ob x9 fun a8 =>
 ob x11 fun a9 =>
 ob (ixS 1 a8 a9) fun y10 =>
 ob (ld1 y10 h) fun y11 =>
 ob (unE .not y11) fun y12 =>
 yIf y12
 (ob x0 fun a13 =>
 ob (semNil a13) fun y14 =>
 ob (fa 0 y14) fun y15 =>
 ob (ld1 y15 h) fun y16 =>
 ob (ixS 1 y16 a7) fun y17 =>
 ob (st 1 y17 (.bool true) h) fun h18 =>
 ob x0 fun a19 =>
 ob (semNil a19) fun y20 =>
 ob (fa 1 y20) fun y21 =>
 ob (ld1 y21 h18) fun y22 =>
 b2 (ymk Tryd.prog 24 (.int .i64 64) (.int .i64 64) h18) fun y23 h23 =>
 ck (chkH [(3, adrO (some y21))] h18 h23 [3]) <|
 ob (ixS 1 y22 a7) fun y24 =>
 ob (st 1 y24 y23 h23) fun h25 =>
 r (some a7) (some (.int .i64 0)) h25)
 (ob x11 fun a26 =>
 ob (bin Tryd.prog .add 3 a26 (.int .i64 1)) fun y27 =>
 n x0 x9 x10 (some y27) h))
 (e0 h)
theorem q66_28_eq (C : YC) (lf : Nat) (n : K4) (r : K2) (e0 : K0) (KE : KX) : ∀ F h, evX fx66 C lf [1, 0, 1, 0, 0] F h (fun F h => n (F 0) (F 9) (F 10) (F 11) h) (fun F h => r (F 2) (F 3) h) (bk 0 (fun F h => e0 h) KE) = q66_28 C lf n r e0 (F 0) (F 9) (F 10) (F 11) h := by
  intro F h; kernel_rfl
noncomputable def l66_3 (C : YC) (lf : Nat) (r : K2) (e0 : K0) (k : O × O × O × O → HW → Rs) (s : O × O × O × O) (h : HW) : Rs :=
 q66_28 C lf (fun x0 x9 x10 x11 h => k (x0, x9, x10, x11) h) r e0 s.1 s.2.1 s.2.2.1 s.2.2.2 h
noncomputable def q66_34 (C : YC) (lf : Nat) (n : K4) (x0 : O) (h : HW) : Rs :=
 ob x0 fun a29 =>
 ob (semNil a29) fun y30 =>
 ob (fa 0 y30) fun y31 =>
 ob (ld1 y31 h) fun y32 =>
 ob (lenE Tryd.prog 41 y32) fun y33 =>
 n x0 (some y32) (some y33) (some (.int .i64 0)) h
theorem q66_34_eq (C : YC) (lf : Nat) (n : K4) (KR : KF) (KE : KX) : ∀ F h, evX fx66 C lf [1, 0, 0] F h (fun F h => n (F 0) (F 9) (F 10) (F 11) h) KR KE = q66_34 C lf n (F 0) h := by
  intro F h; kernel_rfl
noncomputable def q66_35 (C : YC) (lf : Nat) (n : K0) (r : K2) (x0 : O) (h : HW) : Rs :=
 q66_34 C lf (fun x0 x9 x10 x11 h => lp (l66_3 C lf r n) lf (x0, x9, x10, x11) h) x0 h
theorem q66_35_eq (C : YC) (lf : Nat) (n : K0) (r : K2) (KE : KX) : ∀ F h, evX fx66 C lf [1, 0] F h (fun F h => n h) (fun F h => r (F 2) (F 3) h) KE = q66_35 C lf n r (F 0) h := cSeq (a := subX fx66 [1, 0, 0]) (b := subX fx66 [1, 0, 1]) (by kernel_rfl) (B := (fun F h => lp (l66_3 C lf r n) lf ((F 0), (F 9), (F 10), (F 11)) h)) (cBlock (id := 0) (a := subX fx66 [1, 0, 1, 0]) (by kernel_rfl) (cLoop (a := subX fx66 [1, 0, 1, 0, 0]) (g := fun F => (F 0, F 9, F 10, F 11)) (body := l66_3 C lf r n) (by kernel_rfl) (fun k => (q66_28_eq C lf (fun x0 x9 x10 x11 h => k (x0, x9, x10, x11) h) r n KE)))) (q66_34_eq C lf (fun x0 x9 x10 x11 h => lp (l66_3 C lf r n) lf (x0, x9, x10, x11) h) (fun F h => r (F 2) (F 3) h) KE)
noncomputable def q66_36 (C : YC) (lf : Nat) (r : K2) (x0 : O) (h : HW) : Rs :=
 q66_35 C lf (fun h => q66_2 C lf r h) r x0 h
theorem q66_36_eq (C : YC) (lf : Nat) (r : K2) (KN : KF) (KE : KX) : ∀ F h, evX fx66 C lf [1] F h KN (fun F h => r (F 2) (F 3) h) KE = q66_36 C lf r (F 0) h := cSeq (a := subX fx66 [1, 0]) (b := subX fx66 [1, 1]) (by kernel_rfl) (B := (fun F h => q66_2 C lf r h)) (q66_2_eq C lf r KN KE) (q66_35_eq C lf (fun h => q66_2 C lf r h) r KE)
noncomputable def q66_37 (C : YC) (lf : Nat) (n : K1) (x0 : O) (h : HW) : Rs :=
 n x0 h
theorem q66_37_eq (C : YC) (lf : Nat) (n : K1) (KR : KF) (KE : KX) : ∀ F h, evX fx66 C lf [0] F h (fun F h => n (F 0) h) KR KE = q66_37 C lf n (F 0) h := by
  intro F h; kernel_rfl
noncomputable def q66_38 (C : YC) (lf : Nat) (r : K2) (x0 : O) (h : HW) : Rs :=
 q66_37 C lf (fun x0 h => q66_36 C lf r x0 h) x0 h
theorem q66_38_eq (C : YC) (lf : Nat) (r : K2) (KN : KF) (KE : KX) : ∀ F h, evX fx66 C lf [] F h KN (fun F h => r (F 2) (F 3) h) KE = q66_38 C lf r (F 0) h := cSeq (a := subX fx66 [0]) (b := subX fx66 [1]) (by kernel_rfl) (B := (fun F h => q66_36 C lf r (F 0) h)) (q66_36_eq C lf r KN KE) (q66_37_eq C lf (fun x0 h => q66_36 C lf r x0 h) (fun F h => r (F 2) (F 3) h) KE)
noncomputable def fs66 (C : YC) (lf : Nat) (a0 : SV) (h : HW) : Rs := q66_38 C lf ff66 (some a0) h
theorem fs66_eq (C : YC) (lf : Nat) (a0 : SV) (h : HW) : yFn Tryd.prog fx66 C lf [a0] h = fs66 C lf a0 h := fnX (K := (fun F h => ff66 (F 2) (F 3) h)) (by kernel_rfl) (((q66_38_eq C lf ff66 (fun F h => ff66 (F 2) (F 3) h) (fun _ _ _ => none)) _ h).trans (by kernel_rfl))
noncomputable def fy66 : YX Tryd.prog := Y1 fx66 fs66 fs66_eq (by kernel_rfl)
/-! FN 67 (*tinsel/tinselref01.Store).Free -/
noncomputable def fx67 : XF Tryd.prog := ⟨67, Tryd.f67, fun _ => .text, Tryd.func67, by kernel_rfl, by kernel_rfl, by kernel_rfl, by kernel_rfl⟩
noncomputable def ff67 (x4 : O) (h : HW) : Rs :=
 ob x4 fun a0 =>
 some (.ret a0, h)
noncomputable def q67_12 (C : YC) (lf : Nat) (r : K1) (x0 x1 : O) (h : HW) : Rs :=
 ob x0 fun a1 =>
 ob x1 fun a2 =>
 bc (C (.fn 72) [a1, a2] h) fun y3 h3 =>
 ob (unE .not y3) fun y4 =>
 yIf y4
 (r (some (.int .i64 22)) h3)
 (ob x0 fun a5 =>
 ob (semNil a5) fun y6 =>
 ob (fa 0 y6) fun y7 =>
 ob (ld1 y7 h3) fun y8 =>
 ob x1 fun a9 =>
 ob (ixS 1 y8 a9) fun y10 =>
 ob (st 1 y10 (.bool false) h3) fun h11 =>
 r (some (.int .i64 0)) h11)
theorem q67_12_eq (C : YC) (lf : Nat) (r : K1) (KN : KF) (KE : KX) : ∀ F h, evX fx67 C lf [] F h KN (fun F h => r (F 4) h) KE = q67_12 C lf r (F 0) (F 1) h := by
  intro F h; kernel_rfl
noncomputable def fs67 (C : YC) (lf : Nat) (a0 a1 : SV) (h : HW) : Rs := q67_12 C lf ff67 (some a0) (some a1) h
theorem fs67_eq (C : YC) (lf : Nat) (a0 a1 : SV) (h : HW) : yFn Tryd.prog fx67 C lf [a0, a1] h = fs67 C lf a0 a1 h := fnX (K := (fun F h => ff67 (F 4) h)) (by kernel_rfl) (((q67_12_eq C lf ff67 (fun F h => ff67 (F 4) h) (fun _ _ _ => none)) _ h).trans (by kernel_rfl))
noncomputable def fy67 : YX Tryd.prog := Y2 fx67 fs67 fs67_eq (by kernel_rfl)
/-! FN 68 (*tinsel/tinselref01.Store).Read -/
noncomputable def fx68 : XF Tryd.prog := ⟨68, Tryd.f68, fun _ => .text, Tryd.func68, by kernel_rfl, by kernel_rfl, by kernel_rfl, by kernel_rfl⟩
noncomputable def ff68 (x4 x5 : O) (h : HW) : Rs :=
 ob x4 fun a0 =>
 ob x5 fun a1 =>
 some (.ret (.tup [a0, a1]), h)
noncomputable def q68_15 (C : YC) (lf : Nat) (r : K2) (x0 x1 : O) (h : HW) : Rs :=
 ob x0 fun a2 =>
 ob x1 fun a3 =>
 bc (C (.fn 72) [a2, a3] h) fun y4 h4 =>
 ob (unE .not y4) fun y5 =>
 yIf y5
 (r (some (.val (.slice none 0 0))) (some (.int .i64 22)) h4)
 (b2 (ybs Tryd.prog 24 0 [] [] h4) fun y6 h6 =>
 ob x0 fun a7 =>
 ob (semNil a7) fun y8 =>
 ob (fa 1 y8) fun y9 =>
 ob (ld1 y9 h6) fun y10 =>
 ob x1 fun a11 =>
 ob (ixS 1 y10 a11) fun y12 =>
 ob (ld1 y12 h6) fun y13 =>
 b2 (ybl Tryd.prog .append #[24, 24] [y6, y13] h6) fun y14 h14 =>
 r (some y14) (some (.int .i64 0)) h14)
theorem q68_15_eq (C : YC) (lf : Nat) (r : K2) (KN : KF) (KE : KX) : ∀ F h, evX fx68 C lf [] F h KN (fun F h => r (F 4) (F 5) h) KE = q68_15 C lf r (F 0) (F 1) h := by
  intro F h; kernel_rfl
noncomputable def fs68 (C : YC) (lf : Nat) (a0 a1 : SV) (h : HW) : Rs := q68_15 C lf ff68 (some a0) (some a1) h
theorem fs68_eq (C : YC) (lf : Nat) (a0 a1 : SV) (h : HW) : yFn Tryd.prog fx68 C lf [a0, a1] h = fs68 C lf a0 a1 h := fnX (K := (fun F h => ff68 (F 4) (F 5) h)) (by kernel_rfl) (((q68_15_eq C lf ff68 (fun F h => ff68 (F 4) (F 5) h) (fun _ _ _ => none)) _ h).trans (by kernel_rfl))
noncomputable def fy68 : YX Tryd.prog := Y2 fx68 fs68 fs68_eq (by kernel_rfl)
/-! FN 69 tinsel/tinselref01.Lend -/
noncomputable def fx69 : XF Tryd.prog := ⟨69, Tryd.f69, fun _ => .text, Tryd.func69, by kernel_rfl, by kernel_rfl, by kernel_rfl, by kernel_rfl⟩
noncomputable def ff69 (x2 x3 : O) (h : HW) : Rs :=
 ob x2 fun a0 =>
 ob x3 fun a1 =>
 some (.ret (.tup [a0, a1]), h)
noncomputable def q69_8 (C : YC) (lf : Nat) (r : K2) (x0 x4 : O) (h : HW) : Rs :=
 ob x4 fun a2 =>
 ob x4 fun a3 =>
 ob x0 fun a4 =>
 ob (lenE Tryd.prog 24 a4) fun y5 =>
 ob (bin Tryd.prog .add 3 y5 (.int .i64 1)) fun y6 =>
 ob (semSlice Tryd.prog 24 a3 (some (.int .i64 1)) (some y6)) fun y7 =>
 r (some a2) (some y7) h
theorem q69_8_eq (C : YC) (lf : Nat) (r : K2) (KN : KF) (KE : KX) : ∀ F h, evX fx69 C lf [1, 1, 1, 1] F h KN (fun F h => r (F 2) (F 3) h) KE = q69_8 C lf r (F 0) (F 4) h := by
  intro F h; kernel_rfl
noncomputable def q69_24 (C : YC) (lf : Nat) (n : K5) (e0 : K2) (x0 x4 x18 x19 x20 : O) (h : HW) : Rs :=
 ob x20 fun a10 =>
 ob x19 fun a11 =>
 ob (bin Tryd.prog .lss 3 a10 a11) fun y12 =>
 yIf y12
 (ob x20 fun a13 =>
 ob x18 fun a14 =>
 ob x20 fun a15 =>
 ob (ixS 1 a14 a15) fun y16 =>
 ob (ld1 y16 h) fun y17 =>
 ob x4 fun a18 =>
 ob (bin Tryd.prog .add 3 a13 (.int .i64 1)) fun y19 =>
 ob (ixS 1 a18 y19) fun y20 =>
 ob (st 1 y20 y17 h) fun h21 =>
 ob x20 fun a22 =>
 ob (bin Tryd.prog .add 3 a22 (.int .i64 1)) fun y23 =>
 n x0 x4 x18 x19 (some y23) h21)
 (e0 x0 x4 h)
theorem q69_24_eq (C : YC) (lf : Nat) (n : K5) (e0 : K2) (KR : KF) (KE : KX) : ∀ F h, evX fx69 C lf [1, 1, 1, 0, 1, 0, 0] F h (fun F h => n (F 0) (F 4) (F 18) (F 19) (F 20) h) KR (bk 0 (fun F h => e0 (F 0) (F 4) h) KE) = q69_24 C lf n e0 (F 0) (F 4) (F 18) (F 19) (F 20) h := by
  intro F h; kernel_rfl
noncomputable def l69_9 (C : YC) (lf : Nat) (e0 : K2) (k : O × O × O × O × O → HW → Rs) (s : O × O × O × O × O) (h : HW) : Rs :=
 q69_24 C lf (fun x0 x4 x18 x19 x20 h => k (x0, x4, x18, x19, x20) h) e0 s.1 s.2.1 s.2.2.1 s.2.2.2.1 s.2.2.2.2 h
noncomputable def q69_27 (C : YC) (lf : Nat) (n : K5) (x0 x4 : O) (h : HW) : Rs :=
 ob x0 fun a25 =>
 ob (lenE Tryd.prog 24 a25) fun y26 =>
 n x0 x4 (some a25) (some y26) (some (.int .i64 0)) h
theorem q69_27_eq (C : YC) (lf : Nat) (n : K5) (KR : KF) (KE : KX) : ∀ F h, evX fx69 C lf [1, 1, 1, 0, 0] F h (fun F h => n (F 0) (F 4) (F 18) (F 19) (F 20) h) KR KE = q69_27 C lf n (F 0) (F 4) h := by
  intro F h; kernel_rfl
noncomputable def q69_28 (C : YC) (lf : Nat) (n : K2) (x0 x4 : O) (h : HW) : Rs :=
 q69_27 C lf (fun x0 x4 x18 x19 x20 h => lp (l69_9 C lf n) lf (x0, x4, x18, x19, x20) h) x0 x4 h
theorem q69_28_eq (C : YC) (lf : Nat) (n : K2) (KR : KF) (KE : KX) : ∀ F h, evX fx69 C lf [1, 1, 1, 0] F h (fun F h => n (F 0) (F 4) h) KR KE = q69_28 C lf n (F 0) (F 4) h := cSeq (a := subX fx69 [1, 1, 1, 0, 0]) (b := subX fx69 [1, 1, 1, 0, 1]) (by kernel_rfl) (B := (fun F h => lp (l69_9 C lf n) lf ((F 0), (F 4), (F 18), (F 19), (F 20)) h)) (cBlock (id := 0) (a := subX fx69 [1, 1, 1, 0, 1, 0]) (by kernel_rfl) (cLoop (a := subX fx69 [1, 1, 1, 0, 1, 0, 0]) (g := fun F => (F 0, F 4, F 18, F 19, F 20)) (body := l69_9 C lf n) (by kernel_rfl) (fun k => (q69_24_eq C lf (fun x0 x4 x18 x19 x20 h => k (x0, x4, x18, x19, x20) h) n KR KE)))) (q69_27_eq C lf (fun x0 x4 x18 x19 x20 h => lp (l69_9 C lf n) lf (x0, x4, x18, x19, x20) h) KR KE)
noncomputable def q69_29 (C : YC) (lf : Nat) (r : K2) (x0 x4 : O) (h : HW) : Rs :=
 q69_28 C lf (fun x0 x4 h => q69_8 C lf r x0 x4 h) x0 x4 h
theorem q69_29_eq (C : YC) (lf : Nat) (r : K2) (KN : KF) (KE : KX) : ∀ F h, evX fx69 C lf [1, 1, 1] F h KN (fun F h => r (F 2) (F 3) h) KE = q69_29 C lf r (F 0) (F 4) h := cSeq (a := subX fx69 [1, 1, 1, 0]) (b := subX fx69 [1, 1, 1, 1]) (by kernel_rfl) (B := (fun F h => q69_8 C lf r (F 0) (F 4) h)) (q69_8_eq C lf r KN KE) (q69_28_eq C lf (fun x0 x4 h => q69_8 C lf r x0 x4 h) (fun F h => r (F 2) (F 3) h) KE)
noncomputable def q69_39 (C : YC) (lf : Nat) (n : K2) (x0 x4 : O) (h : HW) : Rs :=
 ob x4 fun a30 =>
 ob x4 fun a31 =>
 ob x0 fun a32 =>
 ob (lenE Tryd.prog 24 a32) fun y33 =>
 ob (bin Tryd.prog .add 3 y33 (.int .i64 1)) fun y34 =>
 ob (ixS 1 a30 (.int .i64 0)) fun y35 =>
 ob (st 1 y35 (.int .u8 165) h) fun h36 =>
 ob (ixS 1 a31 y34) fun y37 =>
 ob (st 1 y37 (.int .u8 90) h36) fun h38 =>
 n x0 x4 h38
theorem q69_39_eq (C : YC) (lf : Nat) (n : K2) (KR : KF) (KE : KX) : ∀ F h, evX fx69 C lf [1, 1, 0] F h (fun F h => n (F 0) (F 4) h) KR KE = q69_39 C lf n (F 0) (F 4) h := by
  intro F h; kernel_rfl
noncomputable def q69_40 (C : YC) (lf : Nat) (r : K2) (x0 x4 : O) (h : HW) : Rs :=
 q69_39 C lf (fun x0 x4 h => q69_29 C lf r x0 x4 h) x0 x4 h
theorem q69_40_eq (C : YC) (lf : Nat) (r : K2) (KN : KF) (KE : KX) : ∀ F h, evX fx69 C lf [1, 1] F h KN (fun F h => r (F 2) (F 3) h) KE = q69_40 C lf r (F 0) (F 4) h := cSeq (a := subX fx69 [1, 1, 0]) (b := subX fx69 [1, 1, 1]) (by kernel_rfl) (B := (fun F h => q69_29 C lf r (F 0) (F 4) h)) (q69_29_eq C lf r KN KE) (q69_39_eq C lf (fun x0 x4 h => q69_29 C lf r x0 x4 h) (fun F h => r (F 2) (F 3) h) KE)
noncomputable def q69_45 (C : YC) (lf : Nat) (n : K2) (x0 : O) (h : HW) : Rs :=
 ob x0 fun a41 =>
 ob (lenE Tryd.prog 24 a41) fun y42 =>
 ob (bin Tryd.prog .add 3 y42 (.int .i64 2)) fun y43 =>
 b2 (ymk Tryd.prog 24 y43 y43 h) fun y44 h44 =>
 n x0 (some y44) h44
theorem q69_45_eq (C : YC) (lf : Nat) (n : K2) (KR : KF) (KE : KX) : ∀ F h, evX fx69 C lf [1, 0] F h (fun F h => n (F 0) (F 4) h) KR KE = q69_45 C lf n (F 0) h := by
  intro F h; kernel_rfl
noncomputable def q69_46 (C : YC) (lf : Nat) (r : K2) (x0 : O) (h : HW) : Rs :=
 q69_45 C lf (fun x0 x4 h => q69_40 C lf r x0 x4 h) x0 h
theorem q69_46_eq (C : YC) (lf : Nat) (r : K2) (KN : KF) (KE : KX) : ∀ F h, evX fx69 C lf [1] F h KN (fun F h => r (F 2) (F 3) h) KE = q69_46 C lf r (F 0) h := cSeq (a := subX fx69 [1, 0]) (b := subX fx69 [1, 1]) (by kernel_rfl) (B := (fun F h => q69_40 C lf r (F 0) (F 4) h)) (q69_40_eq C lf r KN KE) (q69_45_eq C lf (fun x0 x4 h => q69_40 C lf r x0 x4 h) (fun F h => r (F 2) (F 3) h) KE)
noncomputable def q69_47 (C : YC) (lf : Nat) (n : K1) (x0 : O) (h : HW) : Rs :=
 n x0 h
theorem q69_47_eq (C : YC) (lf : Nat) (n : K1) (KR : KF) (KE : KX) : ∀ F h, evX fx69 C lf [0] F h (fun F h => n (F 0) h) KR KE = q69_47 C lf n (F 0) h := by
  intro F h; kernel_rfl
noncomputable def q69_48 (C : YC) (lf : Nat) (r : K2) (x0 : O) (h : HW) : Rs :=
 q69_47 C lf (fun x0 h => q69_46 C lf r x0 h) x0 h
theorem q69_48_eq (C : YC) (lf : Nat) (r : K2) (KN : KF) (KE : KX) : ∀ F h, evX fx69 C lf [] F h KN (fun F h => r (F 2) (F 3) h) KE = q69_48 C lf r (F 0) h := cSeq (a := subX fx69 [0]) (b := subX fx69 [1]) (by kernel_rfl) (B := (fun F h => q69_46 C lf r (F 0) h)) (q69_46_eq C lf r KN KE) (q69_47_eq C lf (fun x0 h => q69_46 C lf r x0 h) (fun F h => r (F 2) (F 3) h) KE)
noncomputable def fs69 (C : YC) (lf : Nat) (a0 : SV) (h : HW) : Rs := q69_48 C lf ff69 (some a0) h
theorem fs69_eq (C : YC) (lf : Nat) (a0 : SV) (h : HW) : yFn Tryd.prog fx69 C lf [a0] h = fs69 C lf a0 h := fnX (K := (fun F h => ff69 (F 2) (F 3) h)) (by kernel_rfl) (((q69_48_eq C lf ff69 (fun F h => ff69 (F 2) (F 3) h) (fun _ _ _ => none)) _ h).trans (by kernel_rfl))
noncomputable def fy69 : YX Tryd.prog := Y1 fx69 fs69 fs69_eq (by kernel_rfl)
/-! FN 70 (*tinsel/tinselref01.Store).Write -/
noncomputable def fx70 : XF Tryd.prog := ⟨70, Tryd.f70, fun _ => .text, Tryd.func70, by kernel_rfl, by kernel_rfl, by kernel_rfl, by kernel_rfl⟩
noncomputable def ff70 (x8 : O) (h : HW) : Rs :=
 ob x8 fun a0 =>
 some (.ret a0, h)
noncomputable def q70_1 (C : YC) (lf : Nat) (r : K1) (h : HW) : Rs :=
 r (some (.int .i64 0)) h
theorem q70_1_eq (C : YC) (lf : Nat) (r : K1) (KN : KF) (KE : KX) : ∀ F h, evX fx70 C lf [1, 1, 1] F h KN (fun F h => r (F 8) h) KE = q70_1 C lf r h := by
  intro F h; kernel_rfl
noncomputable def q70_24 (C : YC) (lf : Nat) (n : K6) (e0 : K0) (x0 x1 x2 x30 x31 x32 : O) (h : HW) : Rs :=
 ob x32 fun a3 =>
 ob x31 fun a4 =>
 ob (bin Tryd.prog .lss 3 a3 a4) fun y5 =>
 yIf y5
 (ob x32 fun a6 =>
 ob x30 fun a7 =>
 ob x32 fun a8 =>
 ob (ixS 1 a7 a8) fun y9 =>
 ob (ld1 y9 h) fun y10 =>
 ob x0 fun a11 =>
 ob (semNil a11) fun y12 =>
 ob (fa 1 y12) fun y13 =>
 ob (ld1 y13 h) fun y14 =>
 ob x1 fun a15 =>
 ob (ixS 1 y14 a15) fun y16 =>
 ob (ld1 y16 h) fun y17 =>
 ob x2 fun a18 =>
 ob (bin Tryd.prog .add 3 a18 a6) fun y19 =>
 ob (ixS 1 y17 y19) fun y20 =>
 ob (st 1 y20 y10 h) fun h21 =>
 ob x32 fun a22 =>
 ob (bin Tryd.prog .add 3 a22 (.int .i64 1)) fun y23 =>
 n x0 x1 x2 x30 x31 (some y23) h21)
 (e0 h)
theorem q70_24_eq (C : YC) (lf : Nat) (n : K6) (e0 : K0) (KR : KF) (KE : KX) : ∀ F h, evX fx70 C lf [1, 1, 0, 1, 0, 0] F h (fun F h => n (F 0) (F 1) (F 2) (F 30) (F 31) (F 32) h) KR (bk 0 (fun F h => e0 h) KE) = q70_24 C lf n e0 (F 0) (F 1) (F 2) (F 30) (F 31) (F 32) h := by
  intro F h; kernel_rfl
noncomputable def l70_2 (C : YC) (lf : Nat) (e0 : K0) (k : O × O × O × O × O × O → HW → Rs) (s : O × O × O × O × O × O) (h : HW) : Rs :=
 q70_24 C lf (fun x0 x1 x2 x30 x31 x32 h => k (x0, x1, x2, x30, x31, x32) h) e0 s.1 s.2.1 s.2.2.1 s.2.2.2.1 s.2.2.2.2.1 s.2.2.2.2.2 h
noncomputable def q70_27 (C : YC) (lf : Nat) (n : K6) (x0 x1 x2 x3 : O) (h : HW) : Rs :=
 ob x3 fun a25 =>
 ob (lenE Tryd.prog 24 a25) fun y26 =>
 n x0 x1 x2 (some a25) (some y26) (some (.int .i64 0)) h
theorem q70_27_eq (C : YC) (lf : Nat) (n : K6) (KR : KF) (KE : KX) : ∀ F h, evX fx70 C lf [1, 1, 0, 0] F h (fun F h => n (F 0) (F 1) (F 2) (F 30) (F 31) (F 32) h) KR KE = q70_27 C lf n (F 0) (F 1) (F 2) (F 3) h := by
  intro F h; kernel_rfl
noncomputable def q70_28 (C : YC) (lf : Nat) (n : K0) (x0 x1 x2 x3 : O) (h : HW) : Rs :=
 q70_27 C lf (fun x0 x1 x2 x30 x31 x32 h => lp (l70_2 C lf n) lf (x0, x1, x2, x30, x31, x32) h) x0 x1 x2 x3 h
theorem q70_28_eq (C : YC) (lf : Nat) (n : K0) (KR : KF) (KE : KX) : ∀ F h, evX fx70 C lf [1, 1, 0] F h (fun F h => n h) KR KE = q70_28 C lf n (F 0) (F 1) (F 2) (F 3) h := cSeq (a := subX fx70 [1, 1, 0, 0]) (b := subX fx70 [1, 1, 0, 1]) (by kernel_rfl) (B := (fun F h => lp (l70_2 C lf n) lf ((F 0), (F 1), (F 2), (F 30), (F 31), (F 32)) h)) (cBlock (id := 0) (a := subX fx70 [1, 1, 0, 1, 0]) (by kernel_rfl) (cLoop (a := subX fx70 [1, 1, 0, 1, 0, 0]) (g := fun F => (F 0, F 1, F 2, F 30, F 31, F 32)) (body := l70_2 C lf n) (by kernel_rfl) (fun k => (q70_24_eq C lf (fun x0 x1 x2 x30 x31 x32 h => k (x0, x1, x2, x30, x31, x32) h) n KR KE)))) (q70_27_eq C lf (fun x0 x1 x2 x30 x31 x32 h => lp (l70_2 C lf n) lf (x0, x1, x2, x30, x31, x32) h) KR KE)
noncomputable def q70_29 (C : YC) (lf : Nat) (r : K1) (x0 x1 x2 x3 : O) (h : HW) : Rs :=
 q70_28 C lf (fun h => q70_1 C lf r h) x0 x1 x2 x3 h
theorem q70_29_eq (C : YC) (lf : Nat) (r : K1) (KN : KF) (KE : KX) : ∀ F h, evX fx70 C lf [1, 1] F h KN (fun F h => r (F 8) h) KE = q70_29 C lf r (F 0) (F 1) (F 2) (F 3) h := cSeq (a := subX fx70 [1, 1, 0]) (b := subX fx70 [1, 1, 1]) (by kernel_rfl) (B := (fun F h => q70_1 C lf r h)) (q70_1_eq C lf r KN KE) (q70_28_eq C lf (fun h => q70_1 C lf r h) (fun F h => r (F 8) h) KE)
noncomputable def q70_55 (C : YC) (lf : Nat) (n : K4) (r : K1) (x0 x1 x2 x3 : O) (h : HW) : Rs :=
 ob x0 fun a30 =>
 ob x1 fun a31 =>
 bc (C (.fn 72) [a30, a31] h) fun y32 h32 =>
 ob (unE .not y32) fun y33 =>
 bc (gd false (some y33) (ob x2 fun a34 =>
 some (.ret a34, h32)) h32) fun y35 h35 =>
 bc (gd false (some y33) (ob (bin Tryd.prog .lss 3 y35 (.int .i64 0)) fun y36 =>
 some (.ret y36, h35)) h35) fun y37 h37 =>
 ob (ypk y33 (.bool true) y37) fun y38 =>
 bc (gd false (some y38) (ob x2 fun a39 =>
 some (.ret a39, h37)) h37) fun y40 h40 =>
 bc (gd false (some y38) (ob (bin Tryd.prog .gtr 3 y40 (.int .i64 64)) fun y41 =>
 some (.ret y41, h40)) h40) fun y42 h42 =>
 ob (ypk y38 (.bool true) y42) fun y43 =>
 bc (gd false (some y43) (ob x3 fun a44 =>
 some (.ret a44, h42)) h42) fun y45 h45 =>
 bc (gd false (some y43) (ob (lenE Tryd.prog 24 y45) fun y46 =>
 some (.ret y46, h45)) h45) fun y47 h47 =>
 bc (gd false (some y43) (ob x2 fun a48 =>
 some (.ret a48, h47)) h47) fun y49 h49 =>
 bc (gd false (some y43) (ob (bin Tryd.prog .sub 3 (.int .i64 64) y49) fun y50 =>
 some (.ret y50, h49)) h49) fun y51 h51 =>
 bc (gd false (some y43) (ob (bin Tryd.prog .gtr 3 y47 y51) fun y52 =>
 some (.ret y52, h51)) h51) fun y53 h53 =>
 ob (ypk y43 (.bool true) y53) fun y54 =>
 yIf y54
 (r (some (.int .i64 22)) h53)
 (n x0 x1 x2 x3 h53)
theorem q70_55_eq (C : YC) (lf : Nat) (n : K4) (r : K1) (KE : KX) : ∀ F h, evX fx70 C lf [1, 0] F h (fun F h => n (F 0) (F 1) (F 2) (F 3) h) (fun F h => r (F 8) h) KE = q70_55 C lf n r (F 0) (F 1) (F 2) (F 3) h := by
  intro F h; kernel_rfl
noncomputable def q70_56 (C : YC) (lf : Nat) (r : K1) (x0 x1 x2 x3 : O) (h : HW) : Rs :=
 q70_55 C lf (fun x0 x1 x2 x3 h => q70_29 C lf r x0 x1 x2 x3 h) r x0 x1 x2 x3 h
theorem q70_56_eq (C : YC) (lf : Nat) (r : K1) (KN : KF) (KE : KX) : ∀ F h, evX fx70 C lf [1] F h KN (fun F h => r (F 8) h) KE = q70_56 C lf r (F 0) (F 1) (F 2) (F 3) h := cSeq (a := subX fx70 [1, 0]) (b := subX fx70 [1, 1]) (by kernel_rfl) (B := (fun F h => q70_29 C lf r (F 0) (F 1) (F 2) (F 3) h)) (q70_29_eq C lf r KN KE) (q70_55_eq C lf (fun x0 x1 x2 x3 h => q70_29 C lf r x0 x1 x2 x3 h) r KE)
noncomputable def q70_57 (C : YC) (lf : Nat) (n : K4) (x0 x1 x2 x3 : O) (h : HW) : Rs :=
 n x0 x1 x2 x3 h
theorem q70_57_eq (C : YC) (lf : Nat) (n : K4) (KR : KF) (KE : KX) : ∀ F h, evX fx70 C lf [0] F h (fun F h => n (F 0) (F 1) (F 2) (F 3) h) KR KE = q70_57 C lf n (F 0) (F 1) (F 2) (F 3) h := by
  intro F h; kernel_rfl
noncomputable def q70_58 (C : YC) (lf : Nat) (r : K1) (x0 x1 x2 x3 : O) (h : HW) : Rs :=
 q70_57 C lf (fun x0 x1 x2 x3 h => q70_56 C lf r x0 x1 x2 x3 h) x0 x1 x2 x3 h
theorem q70_58_eq (C : YC) (lf : Nat) (r : K1) (KN : KF) (KE : KX) : ∀ F h, evX fx70 C lf [] F h KN (fun F h => r (F 8) h) KE = q70_58 C lf r (F 0) (F 1) (F 2) (F 3) h := cSeq (a := subX fx70 [0]) (b := subX fx70 [1]) (by kernel_rfl) (B := (fun F h => q70_56 C lf r (F 0) (F 1) (F 2) (F 3) h)) (q70_56_eq C lf r KN KE) (q70_57_eq C lf (fun x0 x1 x2 x3 h => q70_56 C lf r x0 x1 x2 x3 h) (fun F h => r (F 8) h) KE)
noncomputable def fs70 (C : YC) (lf : Nat) (a0 a1 a2 a3 : SV) (h : HW) : Rs := q70_58 C lf ff70 (some a0) (some a1) (some a2) (some a3) h
theorem fs70_eq (C : YC) (lf : Nat) (a0 a1 a2 a3 : SV) (h : HW) : yFn Tryd.prog fx70 C lf [a0, a1, a2, a3] h = fs70 C lf a0 a1 a2 a3 h := fnX (K := (fun F h => ff70 (F 8) h)) (by kernel_rfl) (((q70_58_eq C lf ff70 (fun F h => ff70 (F 8) h) (fun _ _ _ => none)) _ h).trans (by kernel_rfl))
noncomputable def fy70 : YX Tryd.prog := Y4 fx70 fs70 fs70_eq (by kernel_rfl)
/-! FN 71 tinsel/tinselref01.Kept -/
noncomputable def fx71 : XF Tryd.prog := ⟨71, Tryd.f71, fun _ => .text, Tryd.func71, by kernel_rfl, by kernel_rfl, by kernel_rfl, by kernel_rfl⟩
noncomputable def ff71 (x4 : O) (h : HW) : Rs :=
 ob x4 fun a0 =>
 some (.ret a0, h)
noncomputable def q71_50 (C : YC) (lf : Nat) (r : K1) (x0 x1 : O) (h : HW) : Rs :=
 ob x0 fun a1 =>
 ob (lenE Tryd.prog 24 a1) fun y2 =>
 ob x1 fun a3 =>
 ob (lenE Tryd.prog 24 a3) fun y4 =>
 ob (bin Tryd.prog .add 3 y4 (.int .i64 2)) fun y5 =>
 ob (bin Tryd.prog .eql 3 y2 y5) fun y6 =>
 bcn (gd true (some y6) (ob x0 fun a7 =>
 some (.ret a7, h)) h) fun y8 h8 =>
 bcn (gd true (some y6) (ob (ixS 1 y8 (.int .i64 0)) fun y9 =>
 some (.ret y9, h8)) h8) fun y10 h10 =>
 bcn (gd true (some y6) (ob (ld1 y10 h10) fun y11 =>
 some (.ret y11, h10)) h10) fun y12 h12 =>
 bcn (gd true (some y6) (ob (bin Tryd.prog .eql 5 y12 (.int .u8 165)) fun y13 =>
 some (.ret y13, h12)) h12) fun y14 h14 =>
 ob (ypk y6 y14 (.bool false)) fun y15 =>
 bcn (gd true (some y15) (ob x0 fun a16 =>
 some (.ret a16, h14)) h14) fun y17 h17 =>
 bcn (gd true (some y15) (ob x1 fun a18 =>
 some (.ret a18, h17)) h17) fun y19 h19 =>
 bcn (gd true (some y15) (ob (lenE Tryd.prog 24 y19) fun y20 =>
 some (.ret y20, h19)) h19) fun y21 h21 =>
 bcn (gd true (some y15) (ob (bin Tryd.prog .add 3 y21 (.int .i64 1)) fun y22 =>
 some (.ret y22, h21)) h21) fun y23 h23 =>
 bcn (gd true (some y15) (ob (ixS 1 y17 y23) fun y24 =>
 some (.ret y24, h23)) h23) fun y25 h25 =>
 bcn (gd true (some y15) (ob (ld1 y25 h25) fun y26 =>
 some (.ret y26, h25)) h25) fun y27 h27 =>
 bcn (gd true (some y15) (ob (bin Tryd.prog .eql 5 y27 (.int .u8 90)) fun y28 =>
 some (.ret y28, h27)) h27) fun y29 h29 =>
 ob (ypk y15 y29 (.bool false)) fun y30 =>
 bcn (gd true (some y30) (ob x0 fun a31 =>
 some (.ret a31, h29)) h29) fun y32 h32 =>
 bcn (gd true (some y30) (ob x1 fun a33 =>
 some (.ret a33, h32)) h32) fun y34 h34 =>
 bcn (gd true (some y30) (ob (lenE Tryd.prog 24 y34) fun y35 =>
 some (.ret y35, h34)) h34) fun y36 h36 =>
 bcn (gd true (some y30) (ob (bin Tryd.prog .add 3 y36 (.int .i64 1)) fun y37 =>
 some (.ret y37, h36)) h36) fun y38 h38 =>
 bcn (gd true (some y30) (ob (semSlice Tryd.prog 24 y32 (some (.int .i64 1)) (some y38)) fun y39 =>
 some (.ret y39, h38)) h38) fun y40 h40 =>
 bcn (gd true (some y30) (b2 (ycv Tryd.prog 24 9 y40 h40) fun y41 h41 =>
 some (.ret y41, h41)) h40) fun y42 h42 =>
 bcn (gd true (some y30) (ob x1 fun a43 =>
 some (.ret a43, h42)) h42) fun y44 h44 =>
 bcn (gd true (some y30) (b2 (ycv Tryd.prog 24 9 y44 h44) fun y45 h45 =>
 some (.ret y45, h45)) h44) fun y46 h46 =>
 bcn (gd true (some y30) (ob (bin Tryd.prog .eql 9 y42 y46) fun y47 =>
 some (.ret y47, h46)) h46) fun y48 h48 =>
 ob (ypk y30 y48 (.bool false)) fun y49 =>
 r (some y49) h48
theorem q71_50_eq (C : YC) (lf : Nat) (r : K1) (KN : KF) (KE : KX) : ∀ F h, evX fx71 C lf [] F h KN (fun F h => r (F 4) h) KE = q71_50 C lf r (F 0) (F 1) h := by
  intro F h; kernel_rfl
noncomputable def fs71 (C : YC) (lf : Nat) (a0 a1 : SV) (h : HW) : Rs := q71_50 C lf ff71 (some a0) (some a1) h
theorem fs71_eq (C : YC) (lf : Nat) (a0 a1 : SV) (h : HW) : yFn Tryd.prog fx71 C lf [a0, a1] h = fs71 C lf a0 a1 h := fnX (K := (fun F h => ff71 (F 4) h)) (by kernel_rfl) (((q71_50_eq C lf ff71 (fun F h => ff71 (F 4) h) (fun _ _ _ => none)) _ h).trans (by kernel_rfl))
noncomputable def fy71 : YX Tryd.prog := Y2 fx71 fs71 fs71_eq (by kernel_rfl)
/-! FN 72 (*tinsel/tinselref01.Store).Is -/
noncomputable def fx72 : XF Tryd.prog := ⟨72, Tryd.f72, fun _ => .text, Tryd.func72, by kernel_rfl, by kernel_rfl, by kernel_rfl, by kernel_rfl⟩
noncomputable def ff72 (x4 : O) (h : HW) : Rs :=
 ob x4 fun a0 =>
 some (.ret a0, h)
noncomputable def q72_33 (C : YC) (lf : Nat) (r : K1) (x0 x1 : O) (h : HW) : Rs :=
 ob x1 fun a1 =>
 ob (bin Tryd.prog .geq 3 a1 (.int .i64 0)) fun y2 =>
 bc (gd true (some y2) (ob x1 fun a3 =>
 some (.ret a3, h)) h) fun y4 h4 =>
 bc (gd true (some y2) (ob x0 fun a5 =>
 some (.ret a5, h4)) h4) fun y6 h6 =>
 bc (gd true (some y2) (ob (semNil y6) fun y7 =>
 some (.ret y7, h6)) h6) fun y8 h8 =>
 bc (gd true (some y2) (ob (fa 0 y8) fun y9 =>
 some (.ret y9, h8)) h8) fun y10 h10 =>
 bc (gd true (some y2) (ob (ld1 y10 h10) fun y11 =>
 some (.ret y11, h10)) h10) fun y12 h12 =>
 bc (gd true (some y2) (ob (lenE Tryd.prog 41 y12) fun y13 =>
 some (.ret y13, h12)) h12) fun y14 h14 =>
 bc (gd true (some y2) (ob (bin Tryd.prog .lss 3 y4 y14) fun y15 =>
 some (.ret y15, h14)) h14) fun y16 h16 =>
 ob (ypk y2 y16 (.bool false)) fun y17 =>
 bc (gd true (some y17) (ob x0 fun a18 =>
 some (.ret a18, h16)) h16) fun y19 h19 =>
 bc (gd true (some y17) (ob (semNil y19) fun y20 =>
 some (.ret y20, h19)) h19) fun y21 h21 =>
 bc (gd true (some y17) (ob (fa 0 y21) fun y22 =>
 some (.ret y22, h21)) h21) fun y23 h23 =>
 bc (gd true (some y17) (ob (ld1 y23 h23) fun y24 =>
 some (.ret y24, h23)) h23) fun y25 h25 =>
 bc (gd true (some y17) (ob x1 fun a26 =>
 some (.ret a26, h25)) h25) fun y27 h27 =>
 bc (gd true (some y17) (ob (ixS 1 y25 y27) fun y28 =>
 some (.ret y28, h27)) h27) fun y29 h29 =>
 bc (gd true (some y17) (ob (ld1 y29 h29) fun y30 =>
 some (.ret y30, h29)) h29) fun y31 h31 =>
 ob (ypk y17 y31 (.bool false)) fun y32 =>
 r (some y32) h31
theorem q72_33_eq (C : YC) (lf : Nat) (r : K1) (KN : KF) (KE : KX) : ∀ F h, evX fx72 C lf [] F h KN (fun F h => r (F 4) h) KE = q72_33 C lf r (F 0) (F 1) h := by
  intro F h; kernel_rfl
noncomputable def fs72 (C : YC) (lf : Nat) (a0 a1 : SV) (h : HW) : Rs := q72_33 C lf ff72 (some a0) (some a1) h
theorem fs72_eq (C : YC) (lf : Nat) (a0 a1 : SV) (h : HW) : yFn Tryd.prog fx72 C lf [a0, a1] h = fs72 C lf a0 a1 h := fnX (K := (fun F h => ff72 (F 4) h)) (by kernel_rfl) (((q72_33_eq C lf ff72 (fun F h => ff72 (F 4) h) (fun _ _ _ => none)) _ h).trans (by kernel_rfl))
noncomputable def fy72 : YX Tryd.prog := Y2 fx72 fs72 fs72_eq (by kernel_rfl)
end
end Go.Proofs.YtomialandfplkaaDoor.Eva
namespace Go.Proofs.YtomialandfplkaaDoor.Eva
open Go.Xe
set_option linter.unusedSimpArgs false

/-- A block's bytes, in a row of its own. -/
structure BlkAt (h : HW) (x : SV) (q : Nat) (b : Nat → Nat) (i : Nat) : Prop where
  sl : ∃ cap lo, x = .sl q 0 64 cap lo
  ok : CapOK x
  w : h.wr q 64
  cs : ∀ j, j < 64 → h.cell q j = some (.int .u8 (b (i * 64 + j) : Int))
  lt : q < h.next
/-- A row of a block: its bytes; or none (the copy of one that was never had). -/
def RowAt (h : HW) (x : SV) (k : Nat) (b : Nat → Nat) (i : Nat) (o : Bool) : Prop := BlkAt h x k b i ∨ (o = false ∧ (∃ cap lo, x = .sl k 0 0 cap lo) ∧ (∃ N, h.wr k N) ∧ k < h.next)
/-- The two lists: which are in use, and their bytes (q: the rows of those that have been had). -/
structure RefV (h : HW) (x0 x1 : SV) (ro rb n : Nat) (on : Nat → Bool) (q : Nat → Option Nat) (b : Nat → Nat) : Prop where
  n1 : 1 ≤ n
  n2 : n ≤ 4096
  e0 : ∃ cap lo, x0 = .sl ro 0 n cap lo
  e1 : ∃ cap lo, x1 = .sl rb 0 n cap lo
  wro : h.wr ro n
  wrb : h.wr rb n
  con : ∀ i, i < n → h.cell ro i = some (.bool (on i))
  off : ∀ i, i < n → q i = none → on i = false ∧ h.cell rb i = some (.val (.slice none 0 0))
  has : ∀ i k, i < n → q i = some k → k ≠ ro ∧ k ≠ rb ∧ ∃ x, h.cell rb i = some x ∧ RowAt h x k b i (on i)
  inj : ∀ i j k, i < n → j < n → q i = some k → q j = some k → i = j
  ne : ro ≠ rb
  lto : ro < h.next
  ltb : rb < h.next
  blt : ∀ j, b j < 256
structure RefAt (h : HW) (r ro rb n : Nat) (on : Nat → Bool) (q : Nat → Option Nat) (b : Nat → Nat) : Prop where
  v : ∃ x0 x1, h.cell r 0 = some x0 ∧ h.cell r 1 = some x1 ∧ RefV h x0 x1 ro rb n on q b
  wr : h.wr r 2
  nro : r ≠ ro
  nrb : r ≠ rb
  nq : ∀ i k, i < n → q i = some k → k ≠ r
  lt : r < h.next
/-- The rows of the two lists. -/
def rowsV (ro rb n : Nat) (q : Nat → Option Nat) (j : Nat) : Prop := j = ro ∨ j = rb ∨ ∃ i, i < n ∧ q i = some j
def rowsR (r ro rb n : Nat) (q : Nat → Option Nat) (j : Nat) : Prop := j = r ∨ rowsV ro rb n q j

section
variable {lf m : Nat} {h : HW} {r ro rb n : Nat} {on : Nat → Bool} {q : Nat → Option Nat} {b : Nat → Nat} {x0 x1 : SV}
theorem wr_same {h h' : HW} {k N : Nat} (w : h.wr k N) (e : SameOb h h' k) : h'.wr k N := let ⟨m, a, c⟩ := w; ⟨m, by rw [e.mt]; exact a, c⟩
theorem BlkAt.frame {x : SV} {k i : Nat} (A : BlkAt h x k b i) {h' : HW} (hn : h.next ≤ h'.next) (e : SameOb h h' k) : BlkAt h' x k b i :=
  ⟨A.sl, A.ok, wr_same A.w e, fun j hj => by rw [e.cell]; exact A.cs j hj, Nat.lt_of_lt_of_le A.lt hn⟩
theorem RowAt.lt {x : SV} {k i : Nat} {o : Bool} (A : RowAt h x k b i o) : k < h.next := by
  rcases A with A | ⟨_, _, _, A⟩
  · exact A.lt
  · exact A
theorem RowAt.row {x : SV} {k i : Nat} {o : Bool} (A : RowAt h x k b i o) : rowOf x = some k := by
  rcases A with A | ⟨_, ⟨cap, lo, rfl⟩, _, _⟩
  · obtain ⟨cap, lo, rfl⟩ := A.sl; rfl
  · rfl
theorem RowAt.blk {x : SV} {k i : Nat} {o : Bool} (A : RowAt h x k b i o) (ho : o = true) : BlkAt h x k b i := by
  rcases A with A | ⟨e, _⟩
  · exact A
  · rw [ho] at e; cases e
theorem RowAt.frame {x : SV} {k i : Nat} {o : Bool} (A : RowAt h x k b i o) {h' : HW} (hn : h.next ≤ h'.next) (e : SameOb h h' k) : RowAt h' x k b i o := by
  rcases A with A | ⟨h1, h2, ⟨N, h3⟩, h4⟩
  · exact .inl (A.frame hn e)
  · exact .inr ⟨h1, h2, ⟨N, wr_same h3 e⟩, Nat.lt_of_lt_of_le h4 hn⟩
theorem RowAt.off {x : SV} {k i : Nat} {o o' : Bool} (A : RowAt h x k b i o) (ho : o' = o ∨ o' = false) : RowAt h x k b i o' := by
  rcases A with A | ⟨h1, h2⟩
  · exact .inl A
  · refine .inr ⟨?_, h2⟩
    rcases ho with e | e
    · rw [e]; exact h1
    · exact e
theorem RefV.frame (A : RefV h x0 x1 ro rb n on q b) {h' : HW} (hn : h.next ≤ h'.next) (hs : ∀ j, rowsV ro rb n q j → SameOb h h' j) : RefV h' x0 x1 ro rb n on q b := by
  have so := hs ro (.inl rfl)
  have sb := hs rb (.inr (.inl rfl))
  refine ⟨A.n1, A.n2, A.e0, A.e1, wr_same A.wro so, wr_same A.wrb sb, fun i hi => by rw [so.cell]; exact A.con i hi, fun i hi hq => by rw [sb.cell]; exact A.off i hi hq, fun i k hi hq => ?_, A.inj, A.ne, Nat.lt_of_lt_of_le A.lto hn, Nat.lt_of_lt_of_le A.ltb hn, A.blt⟩
  obtain ⟨h1, h2, x, h3, h4⟩ := A.has i k hi hq
  exact ⟨h1, h2, x, by rw [sb.cell]; exact h3, h4.frame hn (hs k (.inr (.inr ⟨i, hi, hq⟩)))⟩
theorem RefAt.frame (A : RefAt h r ro rb n on q b) {h' : HW} (hn : h.next ≤ h'.next) (hs : ∀ j, rowsR r ro rb n q j → SameOb h h' j) : RefAt h' r ro rb n on q b := by
  have sr := hs r (.inl rfl)
  obtain ⟨x0, x1, c0, c1, V⟩ := A.v
  exact ⟨⟨x0, x1, by rw [sr.cell]; exact c0, by rw [sr.cell]; exact c1, V.frame hn fun j hj => hs j (.inr hj)⟩, wr_same A.wr sr, A.nro, A.nrb, A.nq, Nat.lt_of_lt_of_le A.lt hn⟩
theorem RefV.row_lt (A : RefV h x0 x1 ro rb n on q b) {j : Nat} (hj : rowsV ro rb n q j) : j < h.next := by
  rcases hj with rfl | rfl | ⟨i, hi, hq⟩
  · exact A.lto
  · exact A.ltb
  · obtain ⟨_, _, x, _, B⟩ := A.has i j hi hq
    exact B.lt
theorem RefAt.row_lt (A : RefAt h r ro rb n on q b) {j : Nat} (hj : rowsR r ro rb n q j) : j < h.next := by
  obtain ⟨x0, x1, _, _, V⟩ := A.v
  rcases hj with rfl | hj
  · exact A.lt
  · exact V.row_lt hj
theorem RefAt.frm (A : RefAt h r ro rb n on q b) {h' : HW} {Q : Nat → Prop} (F : Frm h h' Q) (hs : ∀ j, rowsR r ro rb n q j → ¬ Q j) : RefAt h' r ro rb n on q b :=
  A.frame F.next fun j hj => F.same j (A.row_lt hj) (hs j hj)

/-! Is. -/
def inR (n : Nat) (on : Nat → Bool) (i : Int) : Bool := decide (0 ≤ i) && (decide (i < n) && on i.toNat)
def RIsOK (C : YC) : Prop := ∀ h r ro rb n on q b i, RefAt h r ro rb n on q b → C (.fn 72) [.ptr r 0, .int .i64 i] h = some (.ret (.bool (inR n on i)), h)
theorem lenE_sl {t e k off len lo : Nat} {cap : Option Nat} (hu : (Tryd.prog).underlying t = some (.slice e)) : lenE Tryd.prog t (.sl k off len cap lo) = some (.int .i64 (len : Int)) := by simp [lenE, hu]
theorem ris_ok {C : YC} (A : RefAt h r ro rb n on q b) {i : Int} : fs72 C lf (.ptr r 0) (.int .i64 i) h = some (.ret (.bool (inR n on i)), h) := by
  obtain ⟨x0, x1, c0, c1, V⟩ := A.v
  obtain ⟨cap, lo, rfl⟩ := V.e0
  have hl := lenE_sl (k := ro) (off := 0) (len := n) (cap := cap) (lo := lo) Tryd.underlying41
  unfold fs72 q72_33 ff72
  by_cases h1 : 0 ≤ i
  · by_cases h2 : i < n
    · have hix := ixS_sl (s := 1) (k := ro) (off := 0) (len := n) (lo := lo) (cap := cap) (kd := .i64) (i := i) h1 (by omega)
      have hc := V.con i.toNat (by omega)
      have e : inR n on i = on i.toNat := by simp [inR, h1, h2]
      simp only [ob_some, b2_some, bc_ret, bcn_ret, gd_tt, gd_ff, gd_tf, gd_ft, ypk_true, ypk_false, yIf_true, yIf_false, semNil_ptr, fa_ptr, ld1_ptr, ext_tup, fd1_agg, un_not, bin_add, bin_sub, bin_mul, bin_eql, bin_neq, bin_lss, bin_leq, bin_gtr, bin_geq, Nat.zero_add, Nat.mul_one, h1, h2, decide_true, c0, hl, hix, hc, e]
    · have e : inR n on i = false := by simp [inR, h2]
      simp only [ob_some, b2_some, bc_ret, bcn_ret, gd_tt, gd_ff, gd_tf, gd_ft, ypk_true, ypk_false, yIf_true, yIf_false, semNil_ptr, fa_ptr, ld1_ptr, ext_tup, fd1_agg, un_not, bin_add, bin_sub, bin_mul, bin_eql, bin_neq, bin_lss, bin_leq, bin_gtr, bin_geq, Nat.zero_add, Nat.mul_one, h1, h2, decide_true, decide_false, c0, hl, e]
  · have e : inR n on i = false := by simp [inR, h1]
    simp only [ob_some, b2_some, bc_ret, bcn_ret, gd_tt, gd_ff, gd_tf, gd_ft, ypk_true, ypk_false, yIf_true, yIf_false, semNil_ptr, fa_ptr, ld1_ptr, ext_tup, fd1_agg, un_not, bin_add, bin_sub, bin_mul, bin_eql, bin_neq, bin_lss, bin_leq, bin_gtr, bin_geq, Nat.zero_add, Nat.mul_one, h1, decide_false, e]
end
end Go.Proofs.YtomialandfplkaaDoor.Eva
namespace Go.Proofs.YtomialandfplkaaDoor.Eva
open Go.Xe
set_option linter.unusedSimpArgs false

section
variable {lf m : Nat} {h : HW} {r ro rb n : Nat} {on : Nat → Bool} {q : Nat → Option Nat} {b : Nat → Nat} {x0 x1 : SV}
def usedR (on : Nat → Bool) (n : Nat) : List Nat := (List.range n).filter on
theorem usedR_succ (on : Nat → Bool) (i : Nat) : usedR on (i + 1) = usedR on i ++ (if on i then [i] else []) := by
  unfold usedR
  rw [List.range_succ, List.filter_append]
  cases h : on i <;> simp [List.filter, h]
theorem usedR_le (on : Nat → Bool) (n : Nat) : (usedR on n).length ≤ n := by
  have := List.length_filter_le on (List.range n)
  simpa [usedR] using this

def RLeftOK (C : YC) : Prop := ∀ h r ro rb n on q b, RefAt h r ro rb n on q b → C (.fn 30) [.ptr r 0] h = some (.ret (.int .i64 ((n - (usedR on n).length : Nat) : Int)), h)
theorem rleft_loop {C : YC} {lf lo : Nat} {cap : Option Nat} (V : RefV h x0 x1 ro rb n on q b) (e0 : K1) : ∀ (d i : Nat), i + d = n → ∀ f, d < f →
    lp (l30_3 C lf e0) f (some (.int .i64 ((i - (usedR on i).length : Nat) : Int)), some (.sl ro 0 n cap lo), some (.int .i64 (n : Int)), some (.int .i64 (i : Int))) h = e0 (some (.int .i64 ((n - (usedR on n).length : Nat) : Int))) h
  | 0, i, hw, f, hf => by
    obtain ⟨f, rfl⟩ : ∃ g, f = g + 1 := ⟨f - 1, by omega⟩
    have : i = n := by omega
    subst this
    rw [lp_succ]
    unfold l30_3 q30_18
    have hlt : decide ((i : Int) < (i : Int)) = false := by simp
    simp only [ob_some, b2_some, bc_ret, bcn_ret, gd_tt, gd_ff, gd_tf, gd_ft, ypk_true, ypk_false, yIf_true, yIf_false, semNil_ptr, fa_ptr, ld1_ptr, ext_tup, fd1_agg, un_not, bin_add, bin_sub, bin_mul, bin_eql, bin_neq, bin_lss, bin_leq, bin_gtr, bin_geq, Nat.zero_add, Nat.mul_one, hlt]
  | d + 1, i, hw, f, hf => by
    obtain ⟨f, rfl⟩ : ∃ g, f = g + 1 := ⟨f - 1, by omega⟩
    have h2 := V.n2
    have hlt : decide ((i : Int) < (n : Int)) = true := decide_eq_true (by omega)
    have hinc : IntKind.i64.wrap ((i : Int) + 1) = ((i + 1 : Nat) : Int) := by rw [wrap_i64 (by omega) (by omega)]; omega
    have hix := ixS_sl (s := 1) (k := ro) (off := 0) (len := n) (lo := lo) (cap := cap) (kd := .i64) (i := (i : Int)) (by omega) (by omega)
    rw [Int.toNat_natCast, Nat.mul_one, Nat.zero_add] at hix
    have hc := V.con i (by omega)
    have hle := usedR_le on i
    have ih := rleft_loop (lf := lf) (C := C) (lo := lo) (cap := cap) V e0 d (i + 1) (by omega) f (by omega)
    rw [lp_succ]
    show q30_18 C lf (fun x3 x9 x10 x11 h => lp (l30_3 C lf e0) f (x3, x9, x10, x11) h) e0 (some (.int .i64 ((i - (usedR on i).length : Nat) : Int))) (some (.sl ro 0 n cap lo)) (some (.int .i64 (n : Int))) (some (.int .i64 (i : Int))) h = _
    unfold q30_18
    cases ho : on i with
    | true =>
      have e : i + 1 - (usedR on (i + 1)).length = i - (usedR on i).length := by rw [usedR_succ, ho]; simp
      rw [ho] at hc
      rw [e] at ih
      simp only [ob_some, b2_some, bc_ret, bcn_ret, gd_tt, gd_ff, gd_tf, gd_ft, ypk_true, ypk_false, yIf_true, yIf_false, semNil_ptr, fa_ptr, ld1_ptr, ext_tup, fd1_agg, un_not, bin_add, bin_sub, bin_mul, bin_eql, bin_neq, bin_lss, bin_leq, bin_gtr, bin_geq, Nat.zero_add, Nat.mul_one, hlt, hix, hc, hinc, Bool.not_true]
      exact ih
    | false =>
      have e : i + 1 - (usedR on (i + 1)).length = i - (usedR on i).length + 1 := by rw [usedR_succ, ho]; simp; omega
      rw [ho] at hc
      rw [e] at ih
      have hadd : IntKind.i64.wrap (((i - (usedR on i).length : Nat) : Int) + 1) = ((i - (usedR on i).length + 1 : Nat) : Int) := by rw [wrap_i64 (by omega) (by omega)]; omega
      simp only [ob_some, b2_some, bc_ret, bcn_ret, gd_tt, gd_ff, gd_tf, gd_ft, ypk_true, ypk_false, yIf_true, yIf_false, semNil_ptr, fa_ptr, ld1_ptr, ext_tup, fd1_agg, un_not, bin_add, bin_sub, bin_mul, bin_eql, bin_neq, bin_lss, bin_leq, bin_gtr, bin_geq, Nat.zero_add, Nat.mul_one, hlt, hix, hc, hinc, Bool.not_false, hadd]
      exact ih
theorem rleft_ok {C : YC} (hlf : 4097 ≤ lf) (A : RefAt h r ro rb n on q b) : fs30 C lf (.ptr r 0) h = some (.ret (.int .i64 ((n - (usedR on n).length : Nat) : Int)), h) := by
  obtain ⟨x0, x1, c0, c1, V⟩ := A.v
  obtain ⟨cap, lo, rfl⟩ := V.e0
  have h2 := V.n2
  have hl := lenE_sl (k := ro) (off := 0) (len := n) (cap := cap) (lo := lo) Tryd.underlying41
  have := rleft_loop (lf := lf) (C := C) (lo := lo) (cap := cap) V (fun x3 h => q30_2 C lf ff30 x3 h) n 0 (by omega) lf (by omega)
  unfold fs30 q30_30 q30_29 q30_28 q30_27 q30_26 q30_25 q30_24
  simp only [ob_some, b2_some, bc_ret, bcn_ret, gd_tt, gd_ff, gd_tf, gd_ft, ypk_true, ypk_false, yIf_true, yIf_false, semNil_ptr, fa_ptr, ld1_ptr, ext_tup, fd1_agg, un_not, bin_add, bin_sub, bin_mul, bin_eql, bin_neq, bin_lss, bin_leq, bin_gtr, bin_geq, Nat.zero_add, Nat.mul_one, c0, hl]
  refine Eq.trans this ?_
  unfold q30_2 ff30
  simp only [ob_some]

/-! Used. -/
def RUsedOK (C : YC) : Prop := ∀ h r ro rb n on q b, RefAt h r ro rb n on q b → ∃ x h', C (.fn 32) [.ptr r 0] h = some (.ret x, h') ∧ IntsAt h h' x (usedR on n) ∧ Frm h h' (fun _ => False)
theorem rused_loop {C : YC} {lf lo : Nat} {cap : Option Nat} {h0 : HW} (V : RefV h0 x0 x1 ro rb n on q b) (e0 : K1) : ∀ (d i : Nat), i + d = n → ∀ f, d < f → ∀ h x, IntsAt h0 h x (usedR on i) → Frm h0 h (fun _ => False) →
    ∃ x' h', lp (l32_3 C lf e0) f (some x, some (.sl ro 0 n cap lo), some (.int .i64 (n : Int)), some (.int .i64 (i : Int))) h = e0 (some x') h' ∧ IntsAt h0 h' x' (usedR on n) ∧ Frm h0 h' (fun _ => False)
  | 0, i, hw, f, hf, h, x, A, F => by
    obtain ⟨f, rfl⟩ : ∃ g, f = g + 1 := ⟨f - 1, by omega⟩
    have : i = n := by omega
    subst this
    refine ⟨x, h, ?_, A, F⟩
    rw [lp_succ]
    unfold l32_3 q32_19
    have hlt : decide ((i : Int) < (i : Int)) = false := by simp
    simp only [ob_some, b2_some, bc_ret, bcn_ret, gd_tt, gd_ff, gd_tf, gd_ft, ypk_true, ypk_false, yIf_true, yIf_false, semNil_ptr, fa_ptr, ld1_ptr, ext_tup, fd1_agg, un_not, bin_add, bin_sub, bin_mul, bin_eql, bin_neq, bin_lss, bin_leq, bin_gtr, bin_geq, Nat.zero_add, Nat.mul_one, hlt]
  | d + 1, i, hw, f, hf, h, x, A, F => by
    obtain ⟨f, rfl⟩ : ∃ g, f = g + 1 := ⟨f - 1, by omega⟩
    have h2 := V.n2
    have hlt : decide ((i : Int) < (n : Int)) = true := decide_eq_true (by omega)
    have hinc : IntKind.i64.wrap ((i : Int) + 1) = ((i + 1 : Nat) : Int) := by rw [wrap_i64 (by omega) (by omega)]; omega
    have hix := ixS_sl (s := 1) (k := ro) (off := 0) (len := n) (lo := lo) (cap := cap) (kd := .i64) (i := (i : Int)) (by omega) (by omega)
    rw [Int.toNat_natCast, Nat.mul_one, Nat.zero_add] at hix
    have hc : h.cell ro i = some (.bool (on i)) := by rw [(F.same ro V.lto (fun e => e)).cell]; exact V.con i (by omega)
    rw [lp_succ]
    show ∃ x' h', q32_19 C lf (fun x3 x9 x10 x11 h => lp (l32_3 C lf e0) f (x3, x9, x10, x11) h) e0 (some x) (some (.sl ro 0 n cap lo)) (some (.int .i64 (n : Int))) (some (.int .i64 (i : Int))) h = e0 (some x') h' ∧ _
    unfold q32_19
    cases ho : on i with
    | false =>
      rw [ho] at hc
      simp only [ob_some, b2_some, bc_ret, bcn_ret, gd_tt, gd_ff, gd_tf, gd_ft, ypk_true, ypk_false, yIf_true, yIf_false, semNil_ptr, fa_ptr, ld1_ptr, ext_tup, fd1_agg, un_not, bin_add, bin_sub, bin_mul, bin_eql, bin_neq, bin_lss, bin_leq, bin_gtr, bin_geq, Nat.zero_add, Nat.mul_one, hlt, hix, hc, hinc]
      have e : usedR on (i + 1) = usedR on i := by rw [usedR_succ, ho]; simp
      exact rused_loop V e0 d (i + 1) (by omega) f (by omega) h x (by rw [e]; exact A) F
    | true =>
      rw [ho] at hc
      have e : usedR on (i + 1) = usedR on i ++ [i] := by rw [usedR_succ, ho]; rfl
      have hl := usedR_le on i
      obtain ⟨x', h', a1, a2, a3, a4, a5, a6, a7, a8⟩ := app_one (y := .int .i64 (i : Int)) appT_int rfl rfl rfl A.sl (by omega) (by omega)
      simp only [ob_some, b2_some, bc_ret, bcn_ret, gd_tt, gd_ff, gd_tf, gd_ft, ypk_true, ypk_false, yIf_true, yIf_false, semNil_ptr, fa_ptr, ld1_ptr, ext_tup, fd1_agg, un_not, bin_add, bin_sub, bin_mul, bin_eql, bin_neq, bin_lss, bin_leq, bin_gtr, bin_geq, Nat.zero_add, Nat.mul_one, hlt, hix, hc, hinc, a1, a2]
      refine rused_loop V e0 d (i + 1) (by omega) f (by omega) h' x' ⟨?_, fun j hj => ?_⟩ ⟨a5.trans F.ng, Nat.le_trans F.next a4, fun j hj _ => (a6 j (Nat.lt_of_lt_of_le hj F.next) (fun hr => absurd (A.new j hr) (by omega))).trans (F.same j hj (fun e => e)), fun hf => a8 (F.fr hf)⟩
      · rw [e]
        have : ints (usedR on i ++ [i]) = ints (usedR on i) ++ [.int .i64 (i : Int)] := by simp [ints]
        rw [this, List.length_append]; exact a3
      · rcases a7 j hj with hr | hr
        · exact A.new j hr
        · exact Nat.le_trans F.next hr
theorem rused_ok {C : YC} (hlf : 4097 ≤ lf) (A : RefAt h r ro rb n on q b) : ∃ x h', fs32 C lf (.ptr r 0) h = some (.ret x, h') ∧ IntsAt h h' x (usedR on n) ∧ Frm h h' (fun _ => False) := by
  obtain ⟨x0, x1, c0, c1, V⟩ := A.v
  obtain ⟨cap, lo, rfl⟩ := V.e0
  have h2 := V.n2
  have hl := lenE_sl (k := ro) (off := 0) (len := n) (cap := cap) (lo := lo) Tryd.underlying41
  obtain ⟨x', h', l1, l2, l3⟩ := rused_loop (lf := lf) (C := C) (lo := lo) (cap := cap) V (fun x3 h => q32_2 C lf ff32 x3 h) n 0 (by omega) lf (by omega) h (.val (.slice none 0 0)) ⟨Sl.nil _ _ _, fun j hj => by cases hj⟩ (Frm.refl h _)
  refine ⟨x', h', ?_, l2, l3⟩
  unfold fs32 q32_31 q32_30 q32_29 q32_28 q32_27 q32_26 q32_25
  simp only [ob_some, b2_some, bc_ret, bcn_ret, gd_tt, gd_ff, gd_tf, gd_ft, ypk_true, ypk_false, yIf_true, yIf_false, semNil_ptr, fa_ptr, ld1_ptr, ext_tup, fd1_agg, un_not, bin_add, bin_sub, bin_mul, bin_eql, bin_neq, bin_lss, bin_leq, bin_gtr, bin_geq, Nat.zero_add, Nat.mul_one, c0, hl]
  refine Eq.trans l1 ?_
  unfold q32_2 ff32
  simp only [ob_some]

/-! Ints. -/
def IntsIn (h : HW) (x : SV) (l : List Nat) : Prop := l.length ≤ 4096 ∧ ((x = .val (.slice none 0 0) ∧ l = []) ∨ ∃ k cap lo, x = .sl k 0 l.length cap lo ∧ ∀ j, j < l.length → h.cell k j = some (.int .i64 ((l.getD j 0 : Nat) : Int)))
theorem IntsAt.inn {h0 h : HW} {x : SV} {l : List Nat} (A : IntsAt h0 h x l) (hl : l.length ≤ 4096) : IntsIn h x l := by
  refine ⟨hl, ?_⟩
  rcases A.sl.2 with ⟨h1, h2⟩ | ⟨k, h1, h2⟩
  · exact .inl ⟨h1, List.eq_nil_of_length_eq_zero h2⟩
  · refine .inr ⟨k, none, 0, h1, fun j hj => ?_⟩
    rw [h2.cs j (by omega)]
    simp [ints, List.getD, hj]
theorem IntsIn.frame {h h' : HW} {x : SV} {l : List Nat} (A : IntsIn h x l) (hs : ∀ k, rowOf x = some k → SameOb h h' k) : IntsIn h' x l := by
  refine ⟨A.1, ?_⟩
  rcases A.2 with h1 | ⟨k, cap, lo, rfl, h2⟩
  · exact .inl h1
  · exact .inr ⟨k, cap, lo, rfl, fun j hj => by rw [(hs k rfl).cell]; exact h2 j hj⟩
theorem IntsIn.len {x : SV} {l : List Nat} (A : IntsIn h x l) : lenE Tryd.prog 33 x = some (.int .i64 (l.length : Int)) := by
  rcases A.2 with ⟨rfl, rfl⟩ | ⟨k, cap, lo, rfl, _⟩
  · simp [lenE, Tryd.underlying33, forceI_eq]
  · simp [lenE, Tryd.underlying33]
theorem IntsIn.at {x : SV} {l : List Nat} (A : IntsIn h x l) {i : Nat} (hi : i < l.length) : ∃ a, ixS 1 x (.int .i64 (i : Int)) = some a ∧ ld1 a h = some (.int .i64 ((l.getD i 0 : Nat) : Int)) := by
  rcases A.2 with ⟨rfl, rfl⟩ | ⟨k, cap, lo, rfl, h2⟩
  · simp at hi
  · have hix := ixS_sl (s := 1) (k := k) (off := 0) (len := l.length) (lo := lo) (cap := cap) (kd := .i64) (i := (i : Int)) (by omega) (by omega)
    rw [Int.toNat_natCast, Nat.mul_one, Nat.zero_add] at hix
    exact ⟨_, hix, h2 i hi⟩
def SameIntsOK (C : YC) : Prop := ∀ h x y l l', IntsIn h x l → IntsIn h y l' → C (.fn 31) [x, y] h = some (.ret (.bool (decide (l = l'))), h)
theorem ints_loop {C : YC} {lf : Nat} {x y : SV} {l l' : List Nat} (A : IntsIn h x l) (B : IntsIn h y l') (hll : l.length = l'.length) (r : K1) (e0 : K0) : ∀ (d i : Nat), i + d = l.length → (∀ j, j < i → l.getD j 0 = l'.getD j 0) → ∀ f, d < f →
    (l = l' → lp (l31_2 C lf r e0) f (some x, some y, some (.int .i64 (l.length : Int)), some (.int .i64 (i : Int))) h = e0 h) ∧
    (l ≠ l' → lp (l31_2 C lf r e0) f (some x, some y, some (.int .i64 (l.length : Int)), some (.int .i64 (i : Int))) h = r (some (.bool false)) h)
  | 0, i, hw, hj, f, hf => by
    obtain ⟨f, rfl⟩ : ∃ g, f = g + 1 := ⟨f - 1, by omega⟩
    have : i = l.length := by omega
    subst this
    have hlt : decide ((l.length : Int) < (l.length : Int)) = false := by simp
    refine ⟨fun _ => ?_, fun hne => ?_⟩
    · rw [lp_succ]
      unfold l31_2 q31_16
      simp only [ob_some, b2_some, bc_ret, bcn_ret, gd_tt, gd_ff, gd_tf, gd_ft, ypk_true, ypk_false, yIf_true, yIf_false, semNil_ptr, fa_ptr, ld1_ptr, ext_tup, fd1_agg, un_not, bin_add, bin_sub, bin_mul, bin_eql, bin_neq, bin_lss, bin_leq, bin_gtr, bin_geq, Nat.zero_add, Nat.mul_one, hlt]
    · exfalso; apply hne
      apply List.ext_getElem hll
      intro j h1 h2
      have := hj j h1
      simpa [List.getD, h1, h2] using this
  | d + 1, i, hw, hj, f, hf => by
    obtain ⟨f, rfl⟩ : ∃ g, f = g + 1 := ⟨f - 1, by omega⟩
    have h2 := A.1
    have hlt : decide ((i : Int) < (l.length : Int)) = true := decide_eq_true (by omega)
    have hinc : IntKind.i64.wrap ((i : Int) + 1) = ((i + 1 : Nat) : Int) := by rw [wrap_i64 (by omega) (by omega)]; omega
    obtain ⟨a, a1, a2⟩ := A.at (i := i) (by omega)
    obtain ⟨c, b1, b2⟩ := B.at (i := i) (by omega)
    have step : l.getD i 0 = l'.getD i 0 → lp (l31_2 C lf r e0) (f + 1) (some x, some y, some (.int .i64 (l.length : Int)), some (.int .i64 (i : Int))) h = lp (l31_2 C lf r e0) f (some x, some y, some (.int .i64 (l.length : Int)), some (.int .i64 ((i + 1 : Nat) : Int))) h := fun e => by
      have hne : decide (((l.getD i 0 : Nat) : Int) ≠ ((l'.getD i 0 : Nat) : Int)) = false := by rw [e]; simp
      rw [lp_succ]
      show q31_16 C lf (fun x0 x1 x12 x13 h => lp (l31_2 C lf r e0) f (x0, x1, x12, x13) h) r e0 (some x) (some y) (some (.int .i64 (l.length : Int))) (some (.int .i64 (i : Int))) h = _
      unfold q31_16
      simp only [ob_some, bin_lss, hlt, yIf_true, a1, a2, b1, b2, bin_neq, hne, yIf_false, bin_add, hinc]
    by_cases e : l.getD i 0 = l'.getD i 0
    · obtain ⟨i1, i2⟩ := ints_loop (lf := lf) (C := C) A B hll r e0 d (i + 1) (by omega) (fun j h1 => by
        by_cases e2 : j = i
        · rw [e2]; exact e
        · exact hj j (by omega)) f (by omega)
      exact ⟨fun h1 => (step e).trans (i1 h1), fun h1 => (step e).trans (i2 h1)⟩
    · refine ⟨fun h1 => absurd (by rw [h1]) e, fun _ => ?_⟩
      have hne : decide (((l.getD i 0 : Nat) : Int) ≠ ((l'.getD i 0 : Nat) : Int)) = true := decide_eq_true (by omega)
      rw [lp_succ]
      unfold l31_2 q31_16
      simp only [ob_some, bin_lss, hlt, yIf_true, a1, a2, b1, b2, bin_neq, hne]
theorem ints_ok {C : YC} {x y : SV} {l l' : List Nat} (hlf : 4097 ≤ lf) (A : IntsIn h x l) (B : IntsIn h y l') : fs31 C lf x y h = some (.ret (.bool (decide (l = l'))), h) := by
  have h2 := A.1
  have e1 := A.len
  have e2 := B.len
  unfold fs31 q31_30 q31_29 q31_28 q31_27
  by_cases hll : l.length = l'.length
  · have hne : decide ((l.length : Int) ≠ (l'.length : Int)) = false := by rw [hll]; simp
    simp only [ob_some, b2_some, bc_ret, bcn_ret, gd_tt, gd_ff, gd_tf, gd_ft, ypk_true, ypk_false, yIf_true, yIf_false, semNil_ptr, fa_ptr, ld1_ptr, ext_tup, fd1_agg, un_not, bin_add, bin_sub, bin_mul, bin_eql, bin_neq, bin_lss, bin_leq, bin_gtr, bin_geq, Nat.zero_add, Nat.mul_one, e1, e2, hne]
    unfold q31_21 q31_20 q31_19
    simp only [ob_some, b2_some, bc_ret, bcn_ret, gd_tt, gd_ff, gd_tf, gd_ft, ypk_true, ypk_false, yIf_true, yIf_false, semNil_ptr, fa_ptr, ld1_ptr, ext_tup, fd1_agg, un_not, bin_add, bin_sub, bin_mul, bin_eql, bin_neq, bin_lss, bin_leq, bin_gtr, bin_geq, Nat.zero_add, Nat.mul_one, e1]
    obtain ⟨i1, i2⟩ := ints_loop (lf := lf) (C := C) A B hll ff31 (fun h => q31_1 C lf ff31 h) l.length 0 (by omega) (fun j hj => by omega) lf (by omega)
    by_cases e : l = l'
    · refine (i1 e).trans ?_
      rw [decide_eq_true e]
      unfold q31_1 ff31
      simp only [ob_some]
    · refine (i2 e).trans ?_
      rw [decide_eq_false e]
      unfold ff31
      simp only [ob_some]
  · have hne : decide ((l.length : Int) ≠ (l'.length : Int)) = true := decide_eq_true (by omega)
    have e : l ≠ l' := fun e => hll (by rw [e])
    simp only [ob_some, b2_some, bc_ret, bcn_ret, gd_tt, gd_ff, gd_tf, gd_ft, ypk_true, ypk_false, yIf_true, yIf_false, semNil_ptr, fa_ptr, ld1_ptr, ext_tup, fd1_agg, un_not, bin_add, bin_sub, bin_mul, bin_eql, bin_neq, bin_lss, bin_leq, bin_gtr, bin_geq, Nat.zero_add, Nat.mul_one, e1, e2, hne, decide_eq_false e]
    unfold ff31
    simp only [ob_some]
end
end Go.Proofs.YtomialandfplkaaDoor.Eva
namespace Go.Xe
section
variable {P : Program} {t u e sz b : Nat} {h : HW}
theorem sameH_of {h h' : HW} {k : Nat} (hk : k < h.next) (hm : ∃ m, h.mt k = some m) (e : SameOb h h' k) : sameH h h' k = true := by
  obtain ⟨m, hm⟩ := hm
  have hb : Nat.blt k h.next = true := by rw [Nat.blt_eq]; exact hk
  unfold HW.mt at hm
  cases ho : h.objs.get k with
  | none => simp [ho] at hm
  | some o =>
    have e : h'.objs.get k = h.objs.get k := e
    unfold sameH
    simp only [hb, cond_true, ho, e, Nat.beq_refl]
theorem ck_one {h h' : HW} {k i : Nat} {x : SV} {r : Rs} (hx : adr x = some k) (hk : k < h.next) (hm : ∃ m, h.mt k = some m) (e : SameOb h h' k) : ck (chkH [(i, adrO (some x))] h h' [i]) r = r := by
  have h1 := sameH_of hk hm e
  have h2 : findK [(i, adrO (some x))] i = some k := by
    simp [findK, adrO, hx]
  simp only [chkH, h2, h1, Bool.and_self, ck_true]
/-- The empty row. -/
theorem ybs_none {z : Value} (hu : P.underlying t = some (.slice e)) (hs : tySize P e = some sz) (hz : tyZero P e = some z) (hzl : (mkV z).cells.length = sz) (h1 : 1 ≤ sz) :
    ybs P t 0 [] [] h = some (.sl h.next 0 0 (some 0) 0, h.new (rowOb e [])) := by
  unfold ybs semBuildSlice
  have h2 : (Nat.ble (0 * sz) 65536 && Nat.ble 1 sz && Nat.beq (mkV z).cells.length sz) = true := by
    rw [Nat.zero_mul, hzl, Nat.beq_refl, Nat.ble_eq_true_of_le h1]; rfl
  have h3 : fillL (fun i => some (i * sz, sz)) (reps (mkV z).cells 0) ([].zip []) = some [] := rfl
  simp only [hu, hs, hz, h2, cond_true, h3, newRow, force_eq]
  rfl
/-- An append to the empty row, of something. -/
theorem app_empty {k : Nat} {y : SV} {n : Nat} {news : List SV} (T : AppT P t u e sz b) (hk : ∃ m, h.mt k = some m) (he : appElems h.x0 sz y = some (n, news)) (hnl : news.length = n * sz) (hone : allOne news = true) (hn : 1 ≤ n)
    (hc : n ≤ 140737488355328) (hcb : n * b ≤ 140737488355328) :
    ybl P .append #[t, u] [.sl k 0 0 (some 0) 0, y] h = some (.sl h.next 0 n none 0, h.new (looseOb e sz news)) := by
  rw [ybl_append T he hnl hone]
  obtain ⟨m, hm⟩ := hk
  unfold HW.mt at hm
  cases ho : h.objs.get k with
  | none => simp [ho] at hm
  | some o =>
    have b1 : Nat.ble n 0 = false := by
      cases hb : Nat.ble n 0 with
      | false => rfl
      | true => exact absurd (Nat.le_of_ble_eq_true hb) (by omega)
    have hl : loadN o 0 (0 * sz) = some [] := by rw [Nat.zero_mul]; rfl
    simp only [appTo, HW.x0_objs, ho, force_eq, Nat.zero_add, b1, cond_false, hl, List.nil_append]
    exact appNew_hx hc hcb
end
end Go.Xe
namespace Go.Proofs.YtomialandfplkaaDoor.Eva
open Go.Xe
set_option linter.unusedSimpArgs false

section
variable {lf m : Nat} {h : HW} {r ro rb n : Nat} {on : Nat → Bool} {q : Nat → Option Nat} {b : Nat → Nat} {x0 x1 : SV}
def RAllocOK (C : YC) : Prop := ∀ h r ro rb n on q b, RefAt h r ro rb n on q b →
  ((∀ j, j < n → on j = true) → C (.fn 66) [.ptr r 0] h = some (.ret (.tup [.int .i64 0, .int .i64 28]), h)) ∧
  (∀ i, i < n → on i = false → (∀ j, j < i → on j = true) → ∃ h', C (.fn 66) [.ptr r 0] h = some (.ret (.tup [.int .i64 (i : Int), .int .i64 0]), h') ∧
    RefAt h' r ro rb n (upd on i true) (upd q i (some h.next)) (zero64 b i) ∧ Frm h h' (fun j => j = ro ∨ j = rb) ∧ h'.next = h.next + 1)

theorem RefAt.had (A : RefAt h r ro rb n on q b) {i : Nat} (hi : i < n) {h1 h2 h3 : HW} (e1 : h1 = h.set ro i [.bool true]) (e2 : h2 = h1.new (patOb 5 (64 * 1) [.int .u8 0])) (e3 : h3 = h2.set rb i [.sl h.next 0 64 (some 64) 0]) :
    RefAt h3 r ro rb n (upd on i true) (upd q i (some h.next)) (zero64 b i) ∧ Frm h h3 (fun j => j = ro ∨ j = rb) ∧ h3.next = h.next + 1 ∧ h1.next = h.next := by
  obtain ⟨x0, x1, c0, c1, V⟩ := A.v
  have n1 : h1.next = h.next := by rw [e1, set_next]
  have n2 : h2.next = h.next + 1 := by rw [e2, new_next, n1]
  have n3 : h3.next = h.next + 1 := by rw [e3, set_next, n2]
  have F1 : Frm h h1 (fun j => j = ro ∨ j = rb) := by rw [e1]; exact frm_set (.inl rfl)
  have F2 : Frm h1 h2 (fun j => j = ro ∨ j = rb) := by rw [e2]; exact frm_new _ _ _
  have F3 : Frm h2 h3 (fun j => j = ro ∨ j = rb) := by rw [e3]; exact frm_set (.inr rfl)
  have F := (F1.trans F2).trans F3
  have lto := V.lto
  have ltb := V.ltb
  have lr := A.lt
  have nrn : r ≠ ro := A.nro
  have nrb : r ≠ rb := A.nrb
  have neb := V.ne
  have w1 : h1.wr ro n := by rw [e1]; exact wr_set V.wro
  have w1b : h1.wr rb n := by rw [e1]; exact wr_set V.wrb
  have w2 : h2.wr ro n := by rw [e2]; exact wr_new_other w1 (by omega)
  have w2b : h2.wr rb n := by rw [e2]; exact wr_new_other w1b (by omega)
  have w2n : h2.wr h.next 64 := by rw [e2, ← n1]; exact wr_new rfl
  -- cells of ro
  have cro : ∀ j, h3.cell ro j = h1.cell ro j := fun j => by
    rw [e3, cell_set_off (.inl neb), e2, cell_new_other (by omega)]
  -- cells of rb
  have crb : ∀ j, j ≠ i → h3.cell rb j = h.cell rb j := fun j hj => by
    rw [e3, cell_set_off (.inr (by simp; omega)), e2, cell_new_other (by omega), e1, cell_set_off (.inl neb.symm)]
  have crbi : h3.cell rb i = some (.sl h.next 0 64 (some 64) 0) := by
    rw [e3, cell_set_same w2b (by simp; omega) (Nat.le_refl _) (by simp)]; simp
  refine ⟨⟨⟨x0, x1, ?_, ?_, ?_⟩, ?_, nrn, nrb, fun j k hj hq => ?_, by omega⟩, F, n3, n1⟩
  · rw [(F.same r lr (fun e => by rcases e with e | e; exact nrn e; exact nrb e)).cell]; exact c0
  · rw [(F.same r lr (fun e => by rcases e with e | e; exact nrn e; exact nrb e)).cell]; exact c1
  · refine ⟨V.n1, V.n2, V.e0, V.e1, ?_, ?_, fun j hj => ?_, fun j hj hq => ?_, fun j k hj hq => ?_, fun j j' k hj hj' hq hq' => ?_, neb, by omega, by omega, fun j => ?_⟩
    · rw [e3]; exact wr_set w2
    · rw [e3]; exact wr_set w2b
    · rw [cro, e1]
      by_cases e : j = i
      · subst e
        rw [cell_set_same V.wro (by simp; omega) (Nat.le_refl _) (by simp), upd_same]; simp
      · rw [cell_set_off (.inr (by simp; omega)), upd_ne _ _ e]; exact V.con j hj
    · by_cases e : j = i
      · rw [e, upd_same] at hq; cases hq
      · rw [upd_ne _ _ e] at hq ⊢
        obtain ⟨o1, o2⟩ := V.off j hj hq
        exact ⟨o1, by rw [crb j e]; exact o2⟩
    · by_cases e : j = i
      · rw [e, upd_same] at hq
        cases hq
        refine ⟨by omega, by omega, _, by rw [e]; exact crbi, .inl ⟨⟨some 64, 0, rfl⟩, Nat.le_refl _, ?_, fun c hc => ?_, by omega⟩⟩
        · rw [e3]; exact wr_set w2n
        · rw [e3, cell_set_off (.inl (by omega)), e2, ← n1, cell_new_same, patOb_get _ _ (by omega)]
          unfold zero64
          rw [if_pos (by omega)]
          simp [Nat.mod_one]
      · rw [upd_ne _ _ e] at hq
        obtain ⟨o1, o2, x, o3, B⟩ := V.has j k hj hq
        have hk := B.lt
        refine ⟨o1, o2, x, by rw [crb j e]; exact o3, ?_⟩
        rw [upd_ne _ _ e]
        rcases B.frame (h' := h3) F.next (F.same k hk (fun e => by rcases e with e | e; exact o1 e; exact o2 e)) with B' | B'
        · refine .inl ⟨B'.sl, B'.ok, B'.w, fun c hc => ?_, B'.lt⟩
          rw [B'.cs c hc]
          unfold zero64
          rw [if_neg (by omega)]
        · exact .inr B'
    · by_cases e : j = i
      · by_cases e' : j' = i
        · omega
        · rw [e, upd_same] at hq
          rw [upd_ne _ _ e'] at hq'
          cases hq
          obtain ⟨_, _, x, _, B⟩ := V.has j' _ hj' hq'
          exact absurd B.lt (Nat.lt_irrefl _)
      · by_cases e' : j' = i
        · rw [e', upd_same] at hq'
          rw [upd_ne _ _ e] at hq
          cases hq'
          obtain ⟨_, _, x, _, B⟩ := V.has j _ hj hq
          exact absurd B.lt (Nat.lt_irrefl _)
        · rw [upd_ne _ _ e] at hq
          rw [upd_ne _ _ e'] at hq'
          exact V.inj j j' k hj hj' hq hq'
    · unfold zero64; split
      · omega
      · exact V.blt j
  · exact wr_same A.wr (F.same r lr (fun e => by rcases e with e | e; exact nrn e; exact nrb e))
  · by_cases e : j = i
    · rw [e, upd_same] at hq; cases hq; omega
    · rw [upd_ne _ _ e] at hq; exact A.nq j k hj hq

theorem ralloc_loop {C : YC} {lf lo : Nat} {cap : Option Nat} (A : RefAt h r ro rb n on q b) (hc0 : h.cell r 0 = some (.sl ro 0 n cap lo)) (rr : K2) (e0 : K0) : ∀ (d i : Nat), i + d = n → ∀ f, d < f →
    ((∀ j, i ≤ j → j < n → on j = true) → lp (l66_3 C lf rr e0) f (some (.ptr r 0), some (.sl ro 0 n cap lo), some (.int .i64 (n : Int)), some (.int .i64 (i : Int))) h = e0 h) ∧
    (∀ t, i ≤ t → t < n → on t = false → (∀ j, i ≤ j → j < t → on j = true) → ∃ h', lp (l66_3 C lf rr e0) f (some (.ptr r 0), some (.sl ro 0 n cap lo), some (.int .i64 (n : Int)), some (.int .i64 (i : Int))) h = rr (some (.int .i64 (t : Int))) (some (.int .i64 0)) h' ∧
      RefAt h' r ro rb n (upd on t true) (upd q t (some h.next)) (zero64 b t) ∧ Frm h h' (fun j => j = ro ∨ j = rb) ∧ h'.next = h.next + 1)
  | 0, i, hw, f, hf => by
    obtain ⟨f, rfl⟩ : ∃ g, f = g + 1 := ⟨f - 1, by omega⟩
    have : i = n := by omega
    subst this
    have hlt : decide ((i : Int) < (i : Int)) = false := by simp
    refine ⟨fun _ => ?_, fun t h1 h2 => by omega⟩
    rw [lp_succ]
    unfold l66_3 q66_28
    simp only [ob_some, b2_some, bc_ret, bcn_ret, gd_tt, gd_ff, gd_tf, gd_ft, ypk_true, ypk_false, yIf_true, yIf_false, semNil_ptr, fa_ptr, ld1_ptr, ext_tup, fd1_agg, un_not, bin_add, bin_sub, bin_mul, bin_eql, bin_neq, bin_lss, bin_leq, bin_gtr, bin_geq, Nat.zero_add, Nat.mul_one, hlt]
  | d + 1, i, hw, f, hf => by
    obtain ⟨f, rfl⟩ : ∃ g, f = g + 1 := ⟨f - 1, by omega⟩
    obtain ⟨x0, x1, c0, c1, V⟩ := A.v
    rw [hc0] at c0
    cases c0
    obtain ⟨capb, lob, rfl⟩ := V.e1
    have h2 := V.n2
    have hlt : decide ((i : Int) < (n : Int)) = true := decide_eq_true (by omega)
    have hinc : IntKind.i64.wrap ((i : Int) + 1) = ((i + 1 : Nat) : Int) := by rw [wrap_i64 (by omega) (by omega)]; omega
    have hix := ixS_sl (s := 1) (k := ro) (off := 0) (len := n) (lo := lo) (cap := cap) (kd := .i64) (i := (i : Int)) (by omega) (by omega)
    rw [Int.toNat_natCast, Nat.mul_one, Nat.zero_add] at hix
    have hixb := ixS_sl (s := 1) (k := rb) (off := 0) (len := n) (lo := lob) (cap := capb) (kd := .i64) (i := (i : Int)) (by omega) (by omega)
    rw [Int.toNat_natCast, Nat.mul_one, Nat.zero_add] at hixb
    have hc := V.con i (by omega)
    obtain ⟨i1, i2⟩ := ralloc_loop (lf := lf) (C := C) A hc0 rr e0 d (i + 1) (by omega) f (by omega)
    have step : on i = true → lp (l66_3 C lf rr e0) (f + 1) (some (.ptr r 0), some (.sl ro 0 n cap lo), some (.int .i64 (n : Int)), some (.int .i64 (i : Int))) h = lp (l66_3 C lf rr e0) f (some (.ptr r 0), some (.sl ro 0 n cap lo), some (.int .i64 (n : Int)), some (.int .i64 ((i + 1 : Nat) : Int))) h := fun e => by
      rw [e] at hc
      rw [lp_succ]
      show q66_28 C lf (fun x0 x9 x10 x11 h => lp (l66_3 C lf rr e0) f (x0, x9, x10, x11) h) rr e0 (some (.ptr r 0)) (some (.sl ro 0 n cap lo)) (some (.int .i64 (n : Int))) (some (.int .i64 (i : Int))) h = _
      unfold q66_28
      simp only [ob_some, b2_some, bc_ret, bcn_ret, gd_tt, gd_ff, gd_tf, gd_ft, ypk_true, ypk_false, yIf_true, yIf_false, semNil_ptr, fa_ptr, ld1_ptr, ext_tup, fd1_agg, un_not, bin_add, bin_sub, bin_mul, bin_eql, bin_neq, bin_lss, bin_leq, bin_gtr, bin_geq, Nat.zero_add, Nat.mul_one, hlt, hix, hc, Bool.not_true, hinc]
    refine ⟨fun hall => (step (hall i (Nat.le_refl _) (by omega))).trans (i1 fun j h1 h2 => hall j (by omega) h2), fun t h1 h2 hoff hon => ?_⟩
    by_cases e : t = i
    · subst e
      rw [hoff] at hc
      have hst := st_ptr (n := 1) (off := t) (y := .bool true) V.wro rfl (by omega) rfl
      obtain ⟨R, F, n3, n1⟩ := A.had (i := t) h2 (h1 := h.set ro t [.bool true]) (h2 := (h.set ro t [.bool true]).new (patOb 5 (64 * 1) [.int .u8 0])) (h3 := ((h.set ro t [.bool true]).new (patOb 5 (64 * 1) [.int .u8 0])).set rb t [.sl h.next 0 64 (some 64) 0]) rfl rfl rfl
      have hmk := ymk_eq (P := Tryd.prog) (t := 24) (e := 5) (s := 1) (b := 1) (z := .int .u8 0) (k1 := .i64) (k2 := .i64) (l := 64) (c := 64) (h := h.set ro t [.bool true])
        Tryd.underlying24 (by kernel_rfl) (by kernel_rfl) (by kernel_rfl) (Nat.le_refl _) (by omega) (by omega) rfl (by omega)
      have hz : (mkV (.int .u8 0)).cells = [.int .u8 0] := rfl
      rw [hz, n1] at hmk
      have hmk' : ymk Tryd.prog 24 (.int .i64 64) (.int .i64 64) (h.set ro t [.bool true]) = some (.sl h.next 0 64 (some 64) 0, (h.set ro t [.bool true]).new (patOb 5 (64 * 1) [.int .u8 0])) := hmk
      have hw2 : ((h.set ro t [.bool true]).new (patOb 5 (64 * 1) [.int .u8 0])).wr rb n := wr_new_other (wr_set V.wrb) (by rw [n1]; have := V.ltb; omega)
      have hst2 := st_ptr (n := 1) (off := t) (y := .sl h.next 0 64 (some 64) 0) hw2 rfl (by omega) rfl
      have cr1 : (h.set ro t [.bool true]).cell r 1 = some (.sl rb 0 n capb lob) := by rw [cell_set_off (.inl A.nro)]; exact c1
      have lr := A.lt
      have hck : ∀ R : Rs, ck (chkH [(3, adrO (some (.ptr r 1)))] (h.set ro t [.bool true]) ((h.set ro t [.bool true]).new (patOb 5 (64 * 1) [.int .u8 0])) [3]) R = R := fun R =>
        ck_one (k := r) rfl (by rw [n1]; exact lr) (by obtain ⟨mm, hm, _⟩ := (wr_set (k := ro) (off := t) (ys := [.bool true]) A.wr); exact ⟨mm, hm⟩) (new_other _ _ (by rw [n1]; omega))
      refine ⟨_, ?_, R, F, n3⟩
      rw [lp_succ]
      unfold l66_3 q66_28
      simp only [ob_some, b2_some, bc_ret, bcn_ret, gd_tt, gd_ff, gd_tf, gd_ft, ypk_true, ypk_false, yIf_true, yIf_false, semNil_ptr, fa_ptr, ld1_ptr, ext_tup, fd1_agg, un_not, bin_add, bin_sub, bin_mul, bin_eql, bin_neq, bin_lss, bin_leq, bin_gtr, bin_geq, Nat.zero_add, Nat.mul_one, hlt, hix, hc, Bool.not_false, hc0, hst, SV.cells, cr1, hmk', hck, hixb, hst2]
    · obtain ⟨h', a1, a2⟩ := i2 t (by omega) h2 hoff (fun j h3 h4 => hon j (by omega) h4)
      exact ⟨h', (step (hon i (Nat.le_refl _) (by omega))).trans a1, a2⟩
theorem ralloc_ok {C : YC} (hlf : 4097 ≤ lf) (A : RefAt h r ro rb n on q b) :
    ((∀ j, j < n → on j = true) → fs66 C lf (.ptr r 0) h = some (.ret (.tup [.int .i64 0, .int .i64 28]), h)) ∧
    (∀ i, i < n → on i = false → (∀ j, j < i → on j = true) → ∃ h', fs66 C lf (.ptr r 0) h = some (.ret (.tup [.int .i64 (i : Int), .int .i64 0]), h') ∧
      RefAt h' r ro rb n (upd on i true) (upd q i (some h.next)) (zero64 b i) ∧ Frm h h' (fun j => j = ro ∨ j = rb) ∧ h'.next = h.next + 1) := by
  obtain ⟨x0, x1, c0, c1, V⟩ := A.v
  obtain ⟨cap, lo, rfl⟩ := V.e0
  have h2 := V.n2
  have hl := lenE_sl (k := ro) (off := 0) (len := n) (cap := cap) (lo := lo) Tryd.underlying41
  obtain ⟨i1, i2⟩ := ralloc_loop (lf := lf) (C := C) A c0 ff66 (fun h => q66_2 C lf ff66 h) n 0 (by omega) lf (by omega)
  have pre : fs66 C lf (.ptr r 0) h = lp (l66_3 C lf ff66 (fun h => q66_2 C lf ff66 h)) lf (some (.ptr r 0), some (.sl ro 0 n cap lo), some (.int .i64 (n : Int)), some (.int .i64 ((0 : Nat) : Int))) h := by
    unfold fs66 q66_38 q66_37 q66_36 q66_35 q66_34
    simp only [ob_some, b2_some, bc_ret, bcn_ret, gd_tt, gd_ff, gd_tf, gd_ft, ypk_true, ypk_false, yIf_true, yIf_false, semNil_ptr, fa_ptr, ld1_ptr, ext_tup, fd1_agg, un_not, bin_add, bin_sub, bin_mul, bin_eql, bin_neq, bin_lss, bin_leq, bin_gtr, bin_geq, Nat.zero_add, Nat.mul_one, c0, hl]
    rfl
  rw [pre]
  refine ⟨fun hall => ?_, fun i hi hoff hon => ?_⟩
  · rw [i1 fun j _ hj => hall j hj]
    unfold q66_2 ff66
    simp only [ob_some]
  · obtain ⟨h', a1, a2⟩ := i2 i (Nat.zero_le _) hi hoff (fun j _ hj => hon j hj)
    refine ⟨h', ?_, a2⟩
    rw [a1]
    unfold ff66
    simp only [ob_some]
end
end Go.Proofs.YtomialandfplkaaDoor.Eva
namespace Go.Proofs.YtomialandfplkaaDoor.Eva
open Go.Xe
set_option linter.unusedSimpArgs false

section
variable {lf m : Nat} {h : HW} {r ro rb n : Nat} {on : Nat → Bool} {q : Nat → Option Nat} {b : Nat → Nat} {x0 x1 : SV}
def RFreeOK (C : YC) : Prop := ∀ h r ro rb n on q b i, RefAt h r ro rb n on q b →
  (inR n on i = false → C (.fn 67) [.ptr r 0, .int .i64 i] h = some (.ret (.int .i64 22), h)) ∧
  (inR n on i = true → ∃ h', C (.fn 67) [.ptr r 0, .int .i64 i] h = some (.ret (.int .i64 0), h') ∧ RefAt h' r ro rb n (upd on i.toNat false) q b ∧ Frm h h' (· = ro) ∧ h'.next = h.next)
theorem RefAt.setOn (A : RefAt h r ro rb n on q b) {i : Nat} (hi : i < n) (hon : on i = true) : RefAt (h.set ro i [.bool false]) r ro rb n (upd on i false) q b := by
  obtain ⟨x0, x1, c0, c1, V⟩ := A.v
  have F : Frm h (h.set ro i [.bool false]) (· = ro) := frm_set rfl
  have sb : SameOb h (h.set ro i [.bool false]) rb := set_other _ _ _ V.ne.symm
  have sr : SameOb h (h.set ro i [.bool false]) r := set_other _ _ _ A.nro
  refine ⟨⟨x0, x1, by rw [sr.cell]; exact c0, by rw [sr.cell]; exact c1, V.n1, V.n2, V.e0, V.e1, wr_set V.wro, wr_set V.wrb, fun j hj => ?_, fun j hj hq => ?_, fun j k hj hq => ?_, V.inj, V.ne, by rw [set_next]; exact V.lto, by rw [set_next]; exact V.ltb, V.blt⟩, wr_set A.wr, A.nro, A.nrb, A.nq, by rw [set_next]; exact A.lt⟩
  · by_cases e : j = i
    · subst e
      rw [cell_set_same V.wro (by simp; omega) (Nat.le_refl _) (by simp), upd_same]; simp
    · rw [cell_set_off (.inr (by simp; omega)), upd_ne _ _ e]; exact V.con j hj
  · obtain ⟨o1, o2⟩ := V.off j hj hq
    refine ⟨?_, by rw [sb.cell]; exact o2⟩
    by_cases e : j = i
    · subst e; rw [hon] at o1; cases o1
    · rw [upd_ne _ _ e]; exact o1
  · obtain ⟨o1, o2, x, o3, B⟩ := V.has j k hj hq
    refine ⟨o1, o2, x, by rw [sb.cell]; exact o3, (B.frame (Nat.le_of_eq (set_next ..).symm) (set_other _ _ _ o1)).off ?_⟩
    by_cases e : j = i
    · right; rw [e, upd_same]
    · left; rw [upd_ne _ _ e]
theorem rfree_ok {C : YC} (hi : RIsOK C) (A : RefAt h r ro rb n on q b) {i : Int} :
    (inR n on i = false → fs67 C lf (.ptr r 0) (.int .i64 i) h = some (.ret (.int .i64 22), h)) ∧
    (inR n on i = true → ∃ h', fs67 C lf (.ptr r 0) (.int .i64 i) h = some (.ret (.int .i64 0), h') ∧ RefAt h' r ro rb n (upd on i.toNat false) q b ∧ Frm h h' (· = ro) ∧ h'.next = h.next) := by
  have his := hi h r ro rb n on q b i A
  unfold fs67 q67_12 ff67
  simp only [ob_some, b2_some, bc_ret, bcn_ret, gd_tt, gd_ff, gd_tf, gd_ft, ypk_true, ypk_false, yIf_true, yIf_false, semNil_ptr, fa_ptr, ld1_ptr, ext_tup, fd1_agg, un_not, bin_add, bin_sub, bin_mul, bin_eql, bin_neq, bin_lss, bin_leq, bin_gtr, bin_geq, Nat.zero_add, Nat.mul_one, his]
  refine ⟨fun hu => ?_, fun hu => ?_⟩
  · simp only [hu, Bool.not_false, ob_some, b2_some, bc_ret, bcn_ret, gd_tt, gd_ff, gd_tf, gd_ft, ypk_true, ypk_false, yIf_true, yIf_false, semNil_ptr, fa_ptr, ld1_ptr, ext_tup, fd1_agg, un_not, bin_add, bin_sub, bin_mul, bin_eql, bin_neq, bin_lss, bin_leq, bin_gtr, bin_geq, Nat.zero_add, Nat.mul_one]
  · obtain ⟨x0, x1, c0, c1, V⟩ := A.v
    obtain ⟨cap, lo, rfl⟩ := V.e0
    have hu' := hu
    simp only [inR, Bool.and_eq_true, decide_eq_true_eq] at hu'
    obtain ⟨h3, h4, h5⟩ := hu'
    have hix := ixS_sl (s := 1) (k := ro) (off := 0) (len := n) (lo := lo) (cap := cap) (kd := .i64) (i := i) h3 h4
    rw [Nat.mul_one, Nat.zero_add] at hix
    have hst := st_ptr (n := 1) (off := i.toNat) (y := .bool false) V.wro rfl (by omega) rfl
    refine ⟨_, ?_, A.setOn (by omega) h5, frm_set rfl, set_next ..⟩
    simp only [hu, Bool.not_true, ob_some, b2_some, bc_ret, bcn_ret, gd_tt, gd_ff, gd_tf, gd_ft, ypk_true, ypk_false, yIf_true, yIf_false, semNil_ptr, fa_ptr, ld1_ptr, ext_tup, fd1_agg, un_not, bin_add, bin_sub, bin_mul, bin_eql, bin_neq, bin_lss, bin_leq, bin_gtr, bin_geq, Nat.zero_add, Nat.mul_one, c0, hix, hst, SV.cells]

/-! A block is read. -/
def blkL (b : Nat → Nat) (i : Nat) : List Nat := (List.range 64).map fun j => b (i * 64 + j)
theorem blkL_length (b : Nat → Nat) (i : Nat) : (blkL b i).length = 64 := by simp [blkL]
theorem blkL_get (b : Nat → Nat) (i : Nat) {j : Nat} (hj : j < 64) : (blkL b i).getD j 0 = b (i * 64 + j) := by simp [blkL, List.getD, hj]
theorem BlkAt.bytes {x : SV} {k i : Nat} (B : BlkAt h x k b i) (hb : ∀ j, b j < 256) : Bytes h x (blkL b i) := by
  obtain ⟨cap, lo, rfl⟩ := B.sl
  obtain ⟨mm, hm, _⟩ := B.w
  refine ⟨fun c hc => ?_, .inr ⟨k, 0, cap, lo, mm, by rw [blkL_length], hm, fun j hj => ?_⟩⟩
  · obtain ⟨j, _, rfl⟩ := List.mem_map.1 hc
    exact hb _
  · rw [blkL_length] at hj
    rw [Nat.zero_add, B.cs j hj, blkL_get b i hj]
/-- Bytes in a row of their own, that is new. -/
structure NewB (h0 h : HW) (x : SV) (l : List Nat) : Prop where
  b : Bytes h x l
  w : ∀ j, rowOf x = some j → h0.next ≤ j ∧ j < h.next ∧ ∃ N, h.wr j N ∧ l.length ≤ N
  o : ∃ k cap lo, x = .sl k 0 l.length cap lo
theorem appT_u8 : AppT Tryd.prog 24 24 5 1 1 :=
  ⟨Tryd.underlying24, by kernel_rfl, ⟨.int .u8 0, by kernel_rfl, rfl⟩, by kernel_rfl, ⟨_, Tryd.underlying24, rfl⟩, Nat.le_refl 1⟩
/-- append([]byte{}, y...) of at least one byte. -/
theorem fresh_bytes {y : SV} {l : List Nat} (B : Bytes h y l) (hl : 1 ≤ l.length) (hc : l.length ≤ 140737488355328) (hr : ∀ k, rowOf y = some k → k < h.next) :
    ybs Tryd.prog 24 0 [] [] h = some (.sl h.next 0 0 (some 0) 0, h.new (rowOb 5 [])) ∧
    ∃ h', ybl Tryd.prog .append #[24, 24] [.sl h.next 0 0 (some 0) 0, y] (h.new (rowOb 5 [])) = some (.sl (h.next + 1) 0 l.length none 0, h') ∧
      NewB h h' (.sl (h.next + 1) 0 l.length none 0) l ∧ Frm h h' (fun _ => False) ∧ h'.next = h.next + 2 := by
  obtain ⟨z, hz, hzl⟩ := appT_u8.hz
  refine ⟨ybs_none appT_u8.hu appT_u8.hs hz hzl (Nat.le_refl 1), ?_⟩
  have B1 : Bytes (h.new (rowOb 5 [])) y l := B.frame fun kb ob len cap lo e => new_other _ _ (Nat.ne_of_lt (hr kb (by rw [e]; rfl)))
  have he := elems_bytes B1
  have ha := app_empty (h := h.new (rowOb 5 [])) (k := h.next) appT_u8 ⟨_, by rw [mt_new, if_pos rfl]⟩ he (by rw [u8s_length, Nat.mul_one]) (u8s_one l) hl hc (by omega)
  refine ⟨_, ha, ⟨⟨B.1, .inr ⟨h.next + 1, 0, none, 0, (looseOb 5 1 (u8s l)).mt, rfl, ?_, fun j hj => ?_⟩⟩, fun j hj => ?_, ⟨_, none, 0, rfl⟩⟩, (frm_new h _ _).trans (frm_new _ _ _), rfl⟩
  · rw [mt_new, if_pos (show h.next + 1 = (h.new (rowOb 5 [])).next from rfl)]
  · rw [Nat.zero_add]
    show HW.cell ((h.new (rowOb 5 [])).new (looseOb 5 1 (u8s l))) (h.new (rowOb 5 [])).next j = _
    rw [cell_new_same, looseOb_get, u8s_get l hj]
  · cases hj
    exact ⟨Nat.le_succ _, Nat.lt_succ_self _, l.length, by
      have := wr_new (h := h.new (rowOb 5 [])) (o := looseOb 5 1 (u8s l)) rfl
      have e : (looseOb 5 1 (u8s l)).n = l.length := u8s_length l
      rw [e] at this
      exact this, Nat.le_refl _⟩
def RReadOK (C : YC) : Prop := ∀ h r ro rb n on q b i, RefAt h r ro rb n on q b →
  (inR n on i = false → C (.fn 68) [.ptr r 0, .int .i64 i] h = some (.ret (.tup [.val (.slice none 0 0), .int .i64 22]), h)) ∧
  (inR n on i = true → ∃ x h', C (.fn 68) [.ptr r 0, .int .i64 i] h = some (.ret (.tup [x, .int .i64 0]), h') ∧ NewB h h' x (blkL b i.toNat) ∧ Frm h h' (fun _ => False))
theorem rread_ok {C : YC} (hi : RIsOK C) (A : RefAt h r ro rb n on q b) {i : Int} :
    (inR n on i = false → fs68 C lf (.ptr r 0) (.int .i64 i) h = some (.ret (.tup [.val (.slice none 0 0), .int .i64 22]), h)) ∧
    (inR n on i = true → ∃ x h', fs68 C lf (.ptr r 0) (.int .i64 i) h = some (.ret (.tup [x, .int .i64 0]), h') ∧ NewB h h' x (blkL b i.toNat) ∧ Frm h h' (fun _ => False)) := by
  have his := hi h r ro rb n on q b i A
  unfold fs68 q68_15 ff68
  simp only [ob_some, b2_some, bc_ret, bcn_ret, gd_tt, gd_ff, gd_tf, gd_ft, ypk_true, ypk_false, yIf_true, yIf_false, semNil_ptr, fa_ptr, ld1_ptr, ext_tup, fd1_agg, un_not, bin_add, bin_sub, bin_mul, bin_eql, bin_neq, bin_lss, bin_leq, bin_gtr, bin_geq, Nat.zero_add, Nat.mul_one, his]
  refine ⟨fun hu => ?_, fun hu => ?_⟩
  · simp only [hu, Bool.not_false, ob_some, b2_some, bc_ret, bcn_ret, gd_tt, gd_ff, gd_tf, gd_ft, ypk_true, ypk_false, yIf_true, yIf_false, semNil_ptr, fa_ptr, ld1_ptr, ext_tup, fd1_agg, un_not, bin_add, bin_sub, bin_mul, bin_eql, bin_neq, bin_lss, bin_leq, bin_gtr, bin_geq, Nat.zero_add, Nat.mul_one]
  · obtain ⟨x0, x1, c0, c1, V⟩ := A.v
    obtain ⟨cap, lo, rfl⟩ := V.e1
    have hu' := hu
    simp only [inR, Bool.and_eq_true, decide_eq_true_eq] at hu'
    obtain ⟨h3, h4, h5⟩ := hu'
    have hix := ixS_sl (s := 1) (k := rb) (off := 0) (len := n) (lo := lo) (cap := cap) (kd := .i64) (i := i) h3 h4
    rw [Nat.mul_one, Nat.zero_add] at hix
    cases hq : q i.toNat with
    | none =>
      have := (V.off i.toNat (by omega) hq).1
      rw [h5] at this; cases this
    | some k =>
      obtain ⟨_, _, x, o3, B⟩ := V.has i.toNat k (by omega) hq
      replace B := B.blk h5
      have Bb := B.bytes V.blt
      have hrow : ∀ j, rowOf x = some j → j < h.next := fun j hj => by
        obtain ⟨cap', lo', rfl⟩ := B.sl
        cases hj; exact B.lt
      obtain ⟨f1, h', f2, f3, f4, f5⟩ := fresh_bytes Bb (by rw [blkL_length]; omega) (by rw [blkL_length]; omega) hrow
      have lb := V.ltb
      have lr := A.lt
      have cr : (h.new (rowOb 5 [])).cell r 1 = some (.sl rb 0 n cap lo) := by rw [cell_new_other (by omega)]; exact c1
      have cb : (h.new (rowOb 5 [])).cell rb i.toNat = some x := by rw [cell_new_other (by omega)]; exact o3
      refine ⟨_, h', ?_, f3, f4⟩
      simp only [hu, Bool.not_true, ob_some, b2_some, bc_ret, bcn_ret, gd_tt, gd_ff, gd_tf, gd_ft, ypk_true, ypk_false, yIf_true, yIf_false, semNil_ptr, fa_ptr, ld1_ptr, ext_tup, fd1_agg, un_not, bin_add, bin_sub, bin_mul, bin_eql, bin_neq, bin_lss, bin_leq, bin_gtr, bin_geq, Nat.zero_add, Nat.mul_one, f1, cr, hix, cb, f2]

/-! A block is written. -/
def badR (n : Nat) (on : Nat → Bool) (i at_ : Int) (l : List Nat) : Prop := inR n on i = false ∨ at_ < 0 ∨ 64 < at_ ∨ 64 - at_ < l.length
def RWriteOK (C : YC) : Prop := ∀ h r ro rb n on q b (i at_ : Int) x l, RefAt h r ro rb n on q b → Bytes h x l → (∀ j, rowOf x = some j → j < h.next ∧ ¬ rowsR r ro rb n q j) → l.length ≤ 140737488355328 → -9223372036854775808 ≤ at_ → at_ < 9223372036854775808 →
  (badR n on i at_ l → C (.fn 70) [.ptr r 0, .int .i64 i, .int .i64 at_, x] h = some (.ret (.int .i64 22), h)) ∧
  (¬ badR n on i at_ l → ∃ h', C (.fn 70) [.ptr r 0, .int .i64 i, .int .i64 at_, x] h = some (.ret (.int .i64 0), h') ∧ RefAt h' r ro rb n on q (over b (i.toNat * 64 + at_.toNat) l) ∧ h'.next = h.next ∧ Frm h h' (fun j => q i.toNat = some j))
theorem over_succ (b : Nat → Nat) (p : Nat) (l : List Nat) {k : Nat} (hk : k < l.length) (j : Nat) : over b p (l.take (k + 1)) j = if j = p + k then l.getD k 0 else over b p (l.take k) j := by
  unfold over
  have e1 : (l.take (k + 1)).length = k + 1 := by simp; omega
  have e2 : (l.take k).length = k := by simp; omega
  rw [e1, e2]
  by_cases h1 : j = p + k
  · subst h1
    rw [if_pos (by omega), if_pos rfl, show p + k - p = k by omega]
    simp [List.getD, hk]
  · rw [if_neg h1]
    by_cases h2 : p ≤ j ∧ j < p + k
    · rw [if_pos (by omega), if_pos h2]
      have h3 : j - p < k := by omega
      simp [List.getD, h3, show j - p < k + 1 by omega]
    · rw [if_neg (by omega), if_neg h2]
theorem over_nil (b : Nat → Nat) (p : Nat) : over b p [] = b := by
  funext j
  unfold over
  rw [if_neg (by simp only [List.length_nil]; omega)]
theorem RefAt.put (A : RefAt h r ro rb n on q b) {i k p v : Nat} (hi : i < n) (hon : on i = true) (hq : q i = some k) (hp : p < 64) (hv : v < 256) {b' : Nat → Nat} (hb : ∀ j, b' j = if j = i * 64 + p then v else b j) :
    RefAt (h.set k p [.int .u8 (v : Int)]) r ro rb n on q b' := by
  obtain ⟨x0, x1, c0, c1, V⟩ := A.v
  obtain ⟨k1, k2, x, k3, B⟩ := V.has i k hi hq
  replace B := B.blk hon
  have kr := A.nq i k hi hq
  have so : SameOb h (h.set k p [.int .u8 (v : Int)]) ro := set_other _ _ _ k1.symm
  have sb : SameOb h (h.set k p [.int .u8 (v : Int)]) rb := set_other _ _ _ k2.symm
  have sr : SameOb h (h.set k p [.int .u8 (v : Int)]) r := set_other _ _ _ kr.symm
  refine ⟨⟨x0, x1, by rw [sr.cell]; exact c0, by rw [sr.cell]; exact c1, V.n1, V.n2, V.e0, V.e1, wr_set V.wro, wr_set V.wrb, fun j hj => by rw [so.cell]; exact V.con j hj, fun j hj hq => by rw [sb.cell]; exact V.off j hj hq, fun j k' hj hq' => ?_, V.inj, V.ne, by rw [set_next]; exact V.lto, by rw [set_next]; exact V.ltb, fun j => ?_⟩, wr_set A.wr, A.nro, A.nrb, A.nq, by rw [set_next]; exact A.lt⟩
  · obtain ⟨o1, o2, x', o3, B'⟩ := V.has j k' hj hq'
    refine ⟨o1, o2, x', by rw [sb.cell]; exact o3, ?_⟩
    rcases B' with B' | ⟨u1, u2, ⟨N, u3⟩, u4⟩
    rotate_left
    · exact .inr ⟨u1, u2, ⟨N, wr_set u3⟩, by rw [set_next]; exact u4⟩
    refine .inl ⟨B'.sl, B'.ok, wr_set B'.w, fun c hc => ?_, by rw [set_next]; exact B'.lt⟩
    by_cases e : j = i
    · subst e
      rw [hq] at hq'
      cases hq'
      by_cases e2 : c = p
      · subst e2
        rw [cell_set_same B.w (by simp; omega) (Nat.le_refl _) (by simp), hb, if_pos rfl]; simp
      · rw [cell_set_off (.inr (by simp; omega)), B'.cs c hc, hb, if_neg (by omega)]
    · have hne : k' ≠ k := fun e2 => e (V.inj j i k' hj hi hq' (by rw [e2]; exact hq))
      rw [cell_set_off (.inl hne), B'.cs c hc, hb, if_neg (by omega)]
  · rw [hb]; split
    · exact hv
    · exact V.blt j
theorem rwrite_loop {C : YC} {lf : Nat} {x : SV} {l : List Nat} {i k a : Nat} {h0 : HW} (hi : i < n) (hon : on i = true) (hq : q i = some k) (hal : a + l.length ≤ 64) (Bx : Bytes h0 x l) (hx : ∀ j, rowOf x = some j → ¬ rowsR r ro rb n q j) (hxl : ∀ j, rowOf x = some j → j < h0.next) (e0 : K0) : ∀ (d t : Nat), t + d = l.length → ∀ f, d < f → ∀ h, RefAt h r ro rb n on q (over b (i * 64 + a) (l.take t)) → Frm h0 h (· = k) → h.next = h0.next →
    ∃ h', lp (l70_2 C lf e0) f (some (.ptr r 0), some (.int .i64 (i : Int)), some (.int .i64 (a : Int)), some x, some (.int .i64 (l.length : Int)), some (.int .i64 (t : Int))) h = e0 h' ∧ RefAt h' r ro rb n on q (over b (i * 64 + a) l) ∧ Frm h0 h' (· = k) ∧ h'.next = h0.next
  | 0, t, hw, f, hf, h, A, F, hn => by
    obtain ⟨f, rfl⟩ : ∃ g, f = g + 1 := ⟨f - 1, by omega⟩
    have : t = l.length := by omega
    subst this
    rw [List.take_length] at A
    refine ⟨h, ?_, A, F, hn⟩
    rw [lp_succ]
    unfold l70_2 q70_24
    have hlt : decide ((l.length : Int) < (l.length : Int)) = false := by simp
    simp only [ob_some, b2_some, bc_ret, bcn_ret, gd_tt, gd_ff, gd_tf, gd_ft, ypk_true, ypk_false, yIf_true, yIf_false, semNil_ptr, fa_ptr, ld1_ptr, ext_tup, fd1_agg, un_not, bin_add, bin_sub, bin_mul, bin_eql, bin_neq, bin_lss, bin_leq, bin_gtr, bin_geq, Nat.zero_add, Nat.mul_one, hlt]
  | d + 1, t, hw, f, hf, h, A, F, hn => by
    obtain ⟨f, rfl⟩ : ∃ g, f = g + 1 := ⟨f - 1, by omega⟩
    obtain ⟨x0, x1, c0, c1, V⟩ := A.v
    obtain ⟨cap, lo, rfl⟩ := V.e1
    obtain ⟨k1, k2, y, k3, B⟩ := V.has i k hi hq
    replace B := B.blk hon
    obtain ⟨cy, ly, rfl⟩ := B.sl
    have h2 := V.n2
    have hlt : decide ((t : Int) < (l.length : Int)) = true := decide_eq_true (by omega)
    have hinc : IntKind.i64.wrap ((t : Int) + 1) = ((t + 1 : Nat) : Int) := by rw [wrap_i64 (by omega) (by omega)]; omega
    have hadd : IntKind.i64.wrap ((a : Int) + (t : Int)) = ((a + t : Nat) : Int) := by rw [wrap_i64 (by omega) (by omega)]; omega
    have Bh : Bytes h x l := Bx.frame fun kb ob len cap lo e => F.same kb (hxl kb (by rw [e]; rfl)) (fun e2 => hx kb (by rw [e]; rfl) (.inr (.inr (.inr ⟨i, hi, by rw [hq, e2]⟩))))
    have ht : t < l.length := by omega
    obtain ⟨ax, a1, a2⟩ : ∃ ax, ixS 1 x (.int .i64 (t : Int)) = some ax ∧ ld1 ax h = some (.int .u8 ((l.getD t 0 : Nat) : Int)) := by
      rcases Bh.2 with ⟨_, rfl⟩ | ⟨kb, ob, cap, lo, mm, rfl, _, hc⟩
      · simp at ht
      · have hix := ixS_sl (s := 1) (k := kb) (off := ob) (len := l.length) (lo := lo) (cap := cap) (kd := .i64) (i := (t : Int)) (by omega) (by omega)
        rw [Int.toNat_natCast, Nat.mul_one] at hix
        exact ⟨_, hix, hc t ht⟩
    have hixb := ixS_sl (s := 1) (k := rb) (off := 0) (len := n) (lo := lo) (cap := cap) (kd := .i64) (i := (i : Int)) (by omega) (by omega)
    rw [Int.toNat_natCast, Nat.mul_one, Nat.zero_add] at hixb
    have hixk := ixS_sl (s := 1) (k := k) (off := 0) (len := 64) (lo := ly) (cap := cy) (kd := .i64) (i := ((a + t : Nat) : Int)) (by omega) (by omega)
    rw [Int.toNat_natCast, Nat.mul_one, Nat.zero_add] at hixk
    have hst := st_ptr (n := 1) (off := a + t) (y := .int .u8 ((l.getD t 0 : Nat) : Int)) B.w rfl (by omega) rfl
    have hv : l.getD t 0 < 256 := by
      have : l.getD t 0 = l[t] := by simp [List.getD, ht]
      rw [this]; exact Bx.1 _ (List.getElem_mem ht)
    have A' := A.put (i := i) (k := k) (p := a + t) (v := l.getD t 0) hi hon hq (by omega) hv (b' := over b (i * 64 + a) (l.take (t + 1))) (fun j => by rw [over_succ b _ l ht, Nat.add_assoc])
    obtain ⟨h', e1, e2⟩ := rwrite_loop (lf := lf) (C := C) hi hon hq hal Bx hx hxl e0 d (t + 1) (by omega) f (by omega) _ A' (F.trans (frm_set rfl)) (by rw [set_next]; exact hn)
    refine ⟨h', ?_, e2⟩
    refine Eq.trans ?_ e1
    rw [lp_succ]
    show q70_24 C lf (fun x0 x1 x2 x30 x31 x32 h => lp (l70_2 C lf e0) f (x0, x1, x2, x30, x31, x32) h) e0 (some (.ptr r 0)) (some (.int .i64 (i : Int))) (some (.int .i64 (a : Int))) (some x) (some (.int .i64 (l.length : Int))) (some (.int .i64 (t : Int))) h = _
    unfold q70_24
    simp only [ob_some, bin_lss, hlt, yIf_true, a1, a2, semNil_ptr, fa_ptr, ld1_ptr, Nat.zero_add, c1, hixb, k3, bin_add, hadd, hixk, hst, SV.cells, hinc]
theorem rwrite_ok {C : YC} (hlf : 65 ≤ lf) (his : RIsOK C) (A : RefAt h r ro rb n on q b) {i at_ : Int} {x : SV} {l : List Nat} (B : Bytes h x l) (hx : ∀ j, rowOf x = some j → j < h.next ∧ ¬ rowsR r ro rb n q j) (hl : l.length ≤ 140737488355328)
    (a1 : -9223372036854775808 ≤ at_) (a2 : at_ < 9223372036854775808) :
    (badR n on i at_ l → fs70 C lf (.ptr r 0) (.int .i64 i) (.int .i64 at_) x h = some (.ret (.int .i64 22), h)) ∧
    (¬ badR n on i at_ l → ∃ h', fs70 C lf (.ptr r 0) (.int .i64 i) (.int .i64 at_) x h = some (.ret (.int .i64 0), h') ∧ RefAt h' r ro rb n on q (over b (i.toNat * 64 + at_.toNat) l) ∧ h'.next = h.next ∧ Frm h h' (fun j => q i.toNat = some j)) := by
  have hi := his h r ro rb n on q b i A
  have hlen := len_bytes (P := Tryd.prog) Tryd.underlying24 B
  unfold fs70 q70_58 q70_57 q70_56 q70_55
  simp only [ob_some, b2_some, bc_ret, bcn_ret, gd_tt, gd_ff, gd_tf, gd_ft, ypk_true, ypk_false, yIf_true, yIf_false, semNil_ptr, fa_ptr, ld1_ptr, ext_tup, fd1_agg, un_not, bin_add, bin_sub, bin_mul, bin_eql, bin_neq, bin_lss, bin_leq, bin_gtr, bin_geq, Nat.zero_add, Nat.mul_one, hi]
  refine ⟨fun hbad => ?_, fun hbad => ?_⟩
  · cases hu : inR n on i with
    | false => simp only [Bool.not_false, ob_some, b2_some, bc_ret, bcn_ret, gd_tt, gd_ff, gd_tf, gd_ft, ypk_true, ypk_false, yIf_true, yIf_false, semNil_ptr, fa_ptr, ld1_ptr, ext_tup, fd1_agg, un_not, bin_add, bin_sub, bin_mul, bin_eql, bin_neq, bin_lss, bin_leq, bin_gtr, bin_geq, Nat.zero_add, Nat.mul_one]; rfl
    | true =>
      by_cases h1 : at_ < 0
      · simp only [Bool.not_true, decide_eq_true h1, ob_some, b2_some, bc_ret, bcn_ret, gd_tt, gd_ff, gd_tf, gd_ft, ypk_true, ypk_false, yIf_true, yIf_false, semNil_ptr, fa_ptr, ld1_ptr, ext_tup, fd1_agg, un_not, bin_add, bin_sub, bin_mul, bin_eql, bin_neq, bin_lss, bin_leq, bin_gtr, bin_geq, Nat.zero_add, Nat.mul_one]; rfl
      · by_cases h2 : 64 < at_
        · simp only [Bool.not_true, decide_eq_false h1, decide_eq_true h2, ob_some, b2_some, bc_ret, bcn_ret, gd_tt, gd_ff, gd_tf, gd_ft, ypk_true, ypk_false, yIf_true, yIf_false, semNil_ptr, fa_ptr, ld1_ptr, ext_tup, fd1_agg, un_not, bin_add, bin_sub, bin_mul, bin_eql, bin_neq, bin_lss, bin_leq, bin_gtr, bin_geq, Nat.zero_add, Nat.mul_one]; rfl
        · have h3 : 64 - at_ < l.length := by
            rcases hbad with h | h | h | h
            · rw [hu] at h; cases h
            · exact absurd h h1
            · exact absurd h h2
            · exact h
          have hs : IntKind.i64.wrap (64 - at_) = 64 - at_ := wrap_i64 (by omega) (by omega)
          simp only [Bool.not_true, decide_eq_false h1, decide_eq_false h2, ob_some, b2_some, bc_ret, bcn_ret, gd_tt, gd_ff, gd_tf, gd_ft, ypk_true, ypk_false, yIf_true, yIf_false, semNil_ptr, fa_ptr, ld1_ptr, ext_tup, fd1_agg, un_not, bin_add, bin_sub, bin_mul, bin_eql, bin_neq, bin_lss, bin_leq, bin_gtr, bin_geq, Nat.zero_add, Nat.mul_one, hlen, hs, decide_eq_true h3]; rfl
  · unfold badR at hbad
    have hu : inR n on i = true := by
      cases hu : inR n on i with
      | true => rfl
      | false => exact absurd (.inl hu) hbad
    have h1 : ¬ at_ < 0 := fun e => hbad (.inr (.inl e))
    have h2 : ¬ 64 < at_ := fun e => hbad (.inr (.inr (.inl e)))
    have h3 : ¬ 64 - at_ < l.length := fun e => hbad (.inr (.inr (.inr e)))
    have hs : IntKind.i64.wrap (64 - at_) = 64 - at_ := wrap_i64 (by omega) (by omega)
    have hu' := hu
    simp only [inR, Bool.and_eq_true, decide_eq_true_eq] at hu'
    obtain ⟨g3, g4, g5⟩ := hu'
    obtain ⟨I, rfl⟩ : ∃ I : Nat, i = I := ⟨i.toNat, by omega⟩
    obtain ⟨a, rfl⟩ : ∃ a : Nat, at_ = a := ⟨at_.toNat, by omega⟩
    obtain ⟨x0, x1, c0, c1, V⟩ := A.v
    rw [Int.toNat_natCast] at g5
    cases hq : q I with
    | none =>
      have := (V.off I (by omega) hq).1
      rw [g5] at this; cases this
    | some k =>
      obtain ⟨h', e1, e2, e3, e4⟩ := rwrite_loop (lf := lf) (C := C) (i := I) (k := k) (a := a) (x := x) (l := l) (h0 := h) (by omega) g5 hq (by omega) B (fun j hj => (hx j hj).2) (fun j hj => (hx j hj).1) (fun h => q70_1 C lf ff70 h) l.length 0 (by omega) lf (by omega) h (by rw [List.take_zero, over_nil]; exact A) (Frm.refl _ _) rfl
      refine ⟨h', ?_, ?_, e4, e3.weak fun j e => ?_⟩
      · simp only [hu, Bool.not_true, decide_eq_false h1, decide_eq_false h2, ob_some, b2_some, bc_ret, bcn_ret, gd_tt, gd_ff, gd_tf, gd_ft, ypk_true, ypk_false, yIf_true, yIf_false, semNil_ptr, fa_ptr, ld1_ptr, ext_tup, fd1_agg, un_not, bin_add, bin_sub, bin_mul, bin_eql, bin_neq, bin_lss, bin_leq, bin_gtr, bin_geq, Nat.zero_add, Nat.mul_one, hlen, hs, decide_eq_false h3]
        unfold q70_29 q70_28 q70_27
        simp only [ob_some, b2_some, bc_ret, bcn_ret, gd_tt, gd_ff, gd_tf, gd_ft, ypk_true, ypk_false, yIf_true, yIf_false, semNil_ptr, fa_ptr, ld1_ptr, ext_tup, fd1_agg, un_not, bin_add, bin_sub, bin_mul, bin_eql, bin_neq, bin_lss, bin_leq, bin_gtr, bin_geq, Nat.zero_add, Nat.mul_one, hlen]
        refine Eq.trans e1 ?_
        unfold q70_1 ff70
        simp only [ob_some]
      · rw [Int.toNat_natCast, Int.toNat_natCast]; exact e2
      · rw [Int.toNat_natCast, hq, e]
end
end Go.Proofs.YtomialandfplkaaDoor.Eva
namespace Go.Xe

/-! An object at a place that is named beforehand. -/
def HW.at (h : HW) (k : Nat) (o : Ob) : HW := ⟨h.ng, h.next, h.objs.put k o⟩
theorem at_get (h : HW) (k : Nat) (o : Ob) (j : Nat) : (h.at k o).objs.get j = if j = k then some o else h.objs.get j := Hp.get_put _ _ _ _
theorem at_other (h : HW) {k j : Nat} (o : Ob) (e : j ≠ k) : (h.at k o).objs.get j = h.objs.get j := by rw [at_get, if_neg e]
theorem cell_at_same (h : HW) (k : Nat) (o : Ob) (i : Nat) : (h.at k o).cell k i = o.get i := by unfold HW.cell; rw [at_get, if_pos rfl]
theorem cell_at_other {h : HW} {k j : Nat} (o : Ob) (e : j ≠ k) (i : Nat) : (h.at k o).cell j i = h.cell j i := by unfold HW.cell; rw [at_other h o e]
theorem wr_at {h : HW} {k : Nat} {o : Ob} (hr : o.ro = false) : (h.at k o).wr k o.n := ⟨o.mt, by unfold HW.mt; rw [at_get, if_pos rfl], hr, rfl⟩
theorem wr_at_other {h : HW} {k j N : Nat} {o : Ob} (w : h.wr j N) (e : j ≠ k) : (h.at k o).wr j N := by
  obtain ⟨m, h1, h2, h3⟩ := w
  exact ⟨m, by unfold HW.mt; rw [at_other h o e]; exact h1, h2, h3⟩
section
variable {P : Program} {h : HW}
theorem ynf_ymk {t e s b base i : Nat} {z : Value} {k1 k2 : IntKind} {l c : Nat} (hu : P.underlying t = some (.slice e)) (hs : tySize P e = some s) (hz : tyZero P e = some z) (hb : tyBytes P e = some b)
    (h1 : l ≤ c) (h2 : c * b ≤ 140737488355328) (h3 : c ≤ 140737488355328) (h4 : (mkV z).cells.length = s) (h5 : 1 ≤ s) :
    ynf (ymk P t (.int k1 (l : Int)) (.int k2 (c : Int))) base i h = some (.sl (base + i) 0 l (some c) 0, h.at (base + i) (patOb e (c * s) (mkV z).cells)) := by
  unfold ynf
  rw [ymk_eq hu hs hz hb h1 h2 h3 h4 h5]
  rfl
theorem nwB_eq {rs : List Nat} {n : Nat} {k : Nat → HW → Rs} (hf : Fresh h) : nwB rs n h k = k h.next ⟨h.ng, h.next + n, h.objs⟩ := by
  have hd : ∀ rs : List Nat, deadH h h.next rs = true := fun rs => by
    induction rs with
    | nil => rfl
    | cons r rs ih => simp only [deadH, hf (h.next + r) (Nat.le_add_right _ _), ih, Bool.and_self]
  unfold nwB
  simp only [force_eq, hd, ck_true]
/-- The elements of a slice whose cells are known. -/
theorem elems_cells {k off n sz lo : Nat} {cap : Option Nat} {ys : List SV} (hm : ∃ m, h.mt k = some m) (hc : h.cells k off (n * sz) = some ys) : appElems h.x0 sz (.sl k off n cap lo) = some (n, ys) := by
  obtain ⟨m, hm⟩ := hm
  unfold HW.mt at hm
  cases ho : h.objs.get k with
  | none => simp [ho] at hm
  | some o => simp only [appElems, HW.x0_objs, ho, loadN_cells ho, hc]
/-- An append to nothing, of something. -/
theorem app_nil {t u e sz b : Nat} {y : SV} {n : Nat} {news : List SV} (T : AppT P t u e sz b) (he : appElems h.x0 sz y = some (n, news)) (hnl : news.length = n * sz) (hone : allOne news = true) (hn : 1 ≤ n)
    (hc : n ≤ 140737488355328) (hcb : n * b ≤ 140737488355328) :
    ybl P .append #[t, u] [.val (.slice none 0 0), y] h = some (.sl h.next 0 n none 0, h.new (looseOb e sz news)) := by
  rw [ybl_append T he hnl hone]
  have b1 : Nat.beq n 0 = false := by
    cases hb : Nat.beq n 0 with
    | false => rfl
    | true => exact absurd (Nat.eq_of_beq_eq_true hb) (by omega)
  simp only [show (Nat.beq 0 0 && Nat.beq 0 0) = true from rfl, cond_true, b1, cond_false]
  exact appNew_hx hc hcb
/-- An append of nothing to the empty row. -/
theorem app_empty0 {t u e sz b : Nat} {k : Nat} {y : SV} (T : AppT P t u e sz b) (hk : ∃ N, h.wr k N) (he : appElems h.x0 sz y = some (0, [])) :
    ybl P .append #[t, u] [.sl k 0 0 (some 0) 0, y] h = some (.sl k 0 0 (some 0) 0, h.set k 0 []) := by
  rw [ybl_append T he (by simp) rfl]
  obtain ⟨N, m, hm, hr, _⟩ := hk
  unfold HW.mt at hm
  cases ho : h.objs.get k with
  | none => simp [ho] at hm
  | some o =>
    simp only [ho, Option.some.injEq] at hm
    subst hm
    simp only [Ob.mt] at hr
    have b1 : (Nat.ble (0 + 0 * sz) o.n && !o.ro) = true := by rw [hr, Nat.zero_mul, Nat.ble_eq_true_of_le (Nat.zero_le _)]; rfl
    simp only [appTo, HW.x0_objs, ho, force_eq, Nat.add_zero, show Nat.ble 0 0 = true from rfl, cond_true, appIn, b1]
    unfold HW.set
    simp only [ho, obSet_eq, Nat.zero_mul, Nat.zero_add, Nat.add_zero]
    rfl
end
theorem allOne_map {α : Type} (l : List α) (f : α → SV) (hf : ∀ x, (f x).one = true) : allOne (l.map f) = true := by
  induction l with
  | nil => rfl
  | cons x l ih => simp [allOne, hf, ih]
end Go.Xe
namespace Go.Proofs.YtomialandfplkaaDoor.Eva
open Go.Xe
set_option linter.unusedSimpArgs false

section
variable {lf m : Nat} {h : HW} {k dk n : Nat} {wd b : Nat → Nat}
def TotalOK (C : YC) : Prop := ∀ h k dk n wd b, StoreAt h k dk n wd b → C (.fn 29) [.ptr k 0] h = some (.ret (.int .i64 (n : Int)), h)
theorem total_ok {C : YC} (hm : MadeOK C) (S : StoreAt h k dk n wd b) : fs29 C lf (.ptr k 0) h = some (.ret (.int .i64 (n : Int)), h) := by
  unfold fs29 q29_8 ff29
  simp only [ob_some, b2_some, bc_ret, bcn_ret, gd_tt, gd_ff, gd_tf, gd_ft, ypk_true, ypk_false, yIf_true, yIf_false, semNil_ptr, fa_ptr, ld1_ptr, ext_tup, fd1_agg, un_not, bin_add, bin_sub, bin_mul, bin_eql, bin_neq, bin_lss, bin_leq, bin_gtr, bin_geq, Nat.zero_add, Nat.mul_one, hm _ _ _ _ _ _ S, Bool.not_true, S.cn]

/-! A copy of the program's. -/
def CopyOK (C : YC) : Prop := ∀ h k dk n wd b, StoreAt h k dk n wd b → ∃ h', C (.fn 26) [.ptr k 0] h = some (.ret (.ptr h.next 0), h') ∧ StoreAt h' h.next (h.next + 1) n wd b ∧ Frm h h' (fun _ => False) ∧ h'.next = h.next + 2
def storeL (n dk : Nat) (cap : Option Nat) (wd : Nat → Nat) : List SV := .int .i64 (n : Int) :: ((List.range 64).map (fun i => SV.int .u64 (wd i : Int)) ++ [.sl dk 0 n cap 0])
theorem storeL_length (n dk : Nat) (cap : Option Nat) (wd : Nat → Nat) : (storeL n dk cap wd).length = 66 := by simp [storeL]
theorem storeL_w (n dk : Nat) (cap : Option Nat) (wd : Nat → Nat) {i : Nat} (hi : i < 64) : (storeL n dk cap wd)[1 + i]? = some (.int .u64 (wd i : Int)) := by
  rw [show 1 + i = i + 1 by omega, storeL, List.getElem?_cons_succ, List.getElem?_append_left (by simp; omega)]
  simp [hi]
theorem storeL_s (n dk : Nat) (cap : Option Nat) (wd : Nat → Nat) : (storeL n dk cap wd)[65]? = some (.sl dk 0 n cap 0) := by
  rw [storeL, List.getElem?_cons_succ, List.getElem?_append_right (by simp)]
  simp
theorem storeL_one (n dk : Nat) (cap : Option Nat) (wd : Nat → Nat) : allOne (storeL n dk cap wd) = true := by
  have : ∀ l : List Nat, allOne (l.map (fun i => SV.int .u64 (wd i : Int)) ++ [.sl dk 0 n cap 0]) = true := fun l => by
    induction l with
    | nil => rfl
    | cons x l ih => simp only [List.map_cons, List.cons_append, allOne, ih, Bool.and_true]; rfl
  simp only [storeL, allOne, this, Bool.and_true]; rfl
theorem appT_blk : AppT Tryd.prog 57 57 110 64 64 :=
  ⟨Tryd.underlying57, by kernel_rfl, ⟨.agg (Array.replicate 64 (.int .u8 0)), by kernel_rfl, rfl⟩, by kernel_rfl, ⟨_, Tryd.underlying57, rfl⟩, by omega⟩
theorem copy_ok {C : YC} (hm : MadeOK C) (S : StoreAt h k dk n wd b) : ∃ h', fs26 C lf (.ptr k 0) h = some (.ret (.ptr h.next 0), h') ∧ StoreAt h' h.next (h.next + 1) n wd b ∧ Frm h h' (fun _ => False) ∧ h'.next = h.next + 2 := by
  obtain ⟨cap, hcs⟩ := S.cs
  have h1 := S.n1
  have h2 := S.n2
  obtain ⟨mk, hmk, hkr, hkn⟩ := S.wk
  have hcells : h.cells k 0 66 = some (storeL n dk cap wd) := cells_of (storeL_length ..) fun i hi => by
    rw [Nat.zero_add]
    by_cases e0 : i = 0
    · subst e0; rw [S.cn]; rfl
    · by_cases e1 : i = 65
      · subst e1; rw [hcs, storeL_s]
      · obtain ⟨c, rfl⟩ : ∃ c, i = 1 + c := ⟨i - 1, by omega⟩
        rw [S.cw c (by omega), storeL_w _ _ _ _ (by omega)]
  have hld : ldN 66 (.ptr k 0) h = some (.agg (storeL n dk cap wd)) := by rw [ldN_ptr hmk, hcells]; rfl
  obtain ⟨z, hz, hzl⟩ : ∃ z, tyZero Tryd.prog 59 = some z ∧ (mkV z).cells.length = 66 := ⟨.agg (#[.int .i64 0] ++ Array.replicate 64 (.int .u64 0) ++ #[.slice none 0 0]), by kernel_rfl, rfl⟩
  have hal := yAl_eq (P := Tryd.prog) (e := 59) (h := h) hz
  generalize ho1 : rowOb 59 (mkV z).cells = o1 at *
  have hn1 : o1.n = 66 := by rw [← ho1]; exact hzl
  have hw1 : (h.new o1).wr h.next 66 := by rw [← hn1]; exact wr_new (by rw [← ho1]; rfl)
  have hst := st_ptr (n := 66) (off := 0) (y := .agg (storeL n dk cap wd)) hw1 (storeL_length ..) (by omega) (storeL_one ..)
  have hcy : (SV.agg (storeL n dk cap wd)).cells = storeL n dk cap wd := rfl
  rw [hcy] at hst
  generalize hh8 : (h.new o1).set h.next 0 (storeL n dk cap wd) = h8 at *
  have n8 : h8.next = h.next + 1 := by rw [← hh8, set_next, new_next]
  have F8 : Frm h h8 (fun _ => False) := by
    rw [← hh8]
    exact ⟨by simp, by simp, fun j hj _ => (set_other _ _ _ (by omega)).trans (new_other h _ (by omega)), fun hf => fresh_set (fresh_new hf _) _ _ _⟩
  have c8 : ∀ i, i < 66 → h8.cell h.next i = (storeL n dk cap wd)[i]? := fun i hi => by
    rw [← hh8, cell_set_same hw1 (by rw [storeL_length]; omega) (Nat.zero_le _) (by rw [storeL_length]; omega), Nat.sub_zero]
  have w8 : h8.wr h.next 66 := by rw [← hh8]; exact wr_set hw1
  have ldk := S.ldk
  have lk := S.lk
  have cs8 : h8.cell k 65 = some (.sl dk 0 n cap 0) := by rw [(F8.same k lk (fun e => e)).cell]; exact hcs
  have wd8 := wr_same S.wdk (F8.same dk ldk (fun e => e))
  obtain ⟨md, hmd, _⟩ := wd8
  have hce : h8.cells dk 0 (n * 64) = some ((List.range (n * 64)).map fun j => SV.int .u8 (b j : Int)) := cells_of (by simp) fun j hj => by
    rw [Nat.zero_add, (F8.same dk ldk (fun e => e)).cell, S.cb j hj]
    simp [hj]
  have hel := elems_cells (cap := cap) (lo := 0) ⟨md, hmd⟩ hce
  have hap := app_nil (h := h8) appT_blk hel (by simp) (allOne_map _ _ fun _ => rfl) h1 (by omega) (by omega)
  rw [n8] at hap
  generalize ho2 : looseOb 110 64 ((List.range (n * 64)).map fun j => SV.int .u8 (b j : Int)) = o2 at *
  have hn2 : o2.n = n * 64 := by rw [← ho2]; simp [looseOb]
  have w9 : (h8.new o2).wr h.next 66 := wr_new_other w8 (by omega)
  have hst2 := st_ptr (n := 1) (off := 65) (y := .sl (h.next + 1) 0 n none 0) w9 rfl (by omega) rfl
  refine ⟨(h8.new o2).set h.next 65 [.sl (h.next + 1) 0 n none 0], ?_, ⟨h1, h2, ?_, fun i hi => ?_, S.wlt, S.out, ⟨none, ?_⟩, wr_set w9, ?_, fun j hj => ?_, S.blt, by omega, by rw [set_next, new_next]; omega, by rw [set_next, new_next]; omega⟩, ?_, by rw [set_next, new_next]; omega⟩
  · unfold fs26 q26_16 ff26
    simp only [ob_some, b2_some, bc_ret, bcn_ret, gd_tt, gd_ff, gd_tf, gd_ft, ypk_true, ypk_false, yIf_true, yIf_false, semNil_ptr, fa_ptr, ld1_ptr, ext_tup, fd1_agg, un_not, bin_add, bin_sub, bin_mul, bin_eql, bin_neq, bin_lss, bin_leq, bin_gtr, bin_geq, Nat.zero_add, Nat.mul_one, hm _ _ _ _ _ _ S, Bool.not_true, hld, hal, hst, cs8, hap, hst2, SV.cells]
  · rw [cell_set_off (by omega), cell_new_other (by omega), c8 0 (by omega)]; rfl
  · rw [cell_set_off (by omega), cell_new_other (by omega), c8 _ (by omega), storeL_w _ _ _ _ hi]
  · rw [cell_set_same w9 (by simp) (Nat.le_refl _) (by simp)]; rfl
  · rw [← hn2, ← n8]; exact wr_set (wr_new (by rw [← ho2]; rfl))
  · rw [cell_set_off (.inl (by omega)), ← n8, cell_new_same, ← ho2, looseOb_get]
    simp [hj]
  · exact ⟨by rw [set_ng, new_ng]; exact F8.ng, by rw [set_next, new_next]; omega, fun j hj hs => (set_other _ _ _ (by omega)).trans ((new_other _ _ (by omega)).trans (F8.same j hj hs)), fun hf => fresh_set (fresh_new (F8.fr hf) _) _ _ _⟩

/-! The document's is made. -/
@[simp] theorem lowV_int (bb : Nat) (kd : IntKind) (i : Int) : lowV bb (.int kd i) = true := noRfl rfl
def RNewOK (C : YC) : Prop := ∀ h (n : Nat), 1 ≤ n → n ≤ 4096 → Fresh h → ∃ h' x0 x1 ro rb, C (.fn 24) [.int .i64 (n : Int)] h = some (.ret (.agg [x0, x1]), h') ∧ RefV h' x0 x1 ro rb n (fun _ => false) (fun _ => none) (fun _ => 0) ∧ Frm h h' (fun _ => False) ∧ h.next ≤ ro ∧ h.next ≤ rb
theorem rnew_ok {C : YC} {n : Nat} (h1 : 1 ≤ n) (h2 : n ≤ 4096) (hf : Fresh h) : ∃ h' x0 x1 ro rb, fs24 C lf (.int .i64 (n : Int)) h = some (.ret (.agg [x0, x1]), h') ∧ RefV h' x0 x1 ro rb n (fun _ => false) (fun _ => none) (fun _ => 0) ∧ Frm h h' (fun _ => False) ∧ h.next ≤ ro ∧ h.next ≤ rb := by
  have hz : tyZero Tryd.prog 44 = some (.agg #[.slice none 0 0, .slice none 0 0]) := by kernel_rfl
  have hal := yAl_eq (P := Tryd.prog) (e := 44) (h := h) hz
  generalize ho1 : rowOb 44 (mkV (.agg #[.slice none 0 0, .slice none 0 0])).cells = o1 at *
  have hn1 : o1.n = 2 := by rw [← ho1]; rfl
  have hw1 : (h.new o1).wr h.next 2 := by rw [← hn1]; exact wr_new (by rw [← ho1]; rfl)
  have hf2 := fresh_new hf o1
  generalize hh3 : (⟨(h.new o1).ng, h.next + 1 + 6, (h.new o1).objs⟩ : HW) = h3
  have n3 : h3.next = h.next + 7 := by rw [← hh3]
  have g3 : ∀ j, h3.objs.get j = (h.new o1).objs.get j := fun j => by rw [← hh3]
  have w3 : h3.wr h.next 2 := by rw [← hh3]; exact hw1
  have m1 := ynf_ymk (P := Tryd.prog) (t := 41) (e := 4) (s := 1) (b := 1) (z := .bool false) (k1 := .i64) (k2 := .i64) (l := n) (c := n) (base := h.next + 1) (i := 1) (h := h3)
    Tryd.underlying41 (by kernel_rfl) (by kernel_rfl) (by kernel_rfl) (Nat.le_refl _) (by omega) (by omega) rfl (by omega)
  generalize ho2 : patOb 4 (n * 1) (mkV (.bool false)).cells = o2 at *
  generalize hh4 : h3.at (h.next + 1 + 1) o2 = h4 at *
  have m2 := ynf_ymk (P := Tryd.prog) (t := 42) (e := 24) (s := 1) (b := 24) (z := .slice none 0 0) (k1 := .i64) (k2 := .i64) (l := n) (c := n) (base := h.next + 1) (i := 3) (h := h4)
    Tryd.underlying42 (by kernel_rfl) (by kernel_rfl) (by kernel_rfl) (Nat.le_refl _) (by omega) (by omega) rfl (by omega)
  generalize ho3 : patOb 24 (n * 1) (mkV (.slice none 0 0)).cells = o3 at *
  generalize hh5 : h4.at (h.next + 1 + 3) o3 = h5 at *
  have hb : semBuild Tryd.prog 44 [0, 1] [.sl (h.next + 1 + 1) 0 n (some n) 0, .sl (h.next + 1 + 3) 0 n (some n) 0] = some (.agg [.sl (h.next + 1 + 1) 0 n (some n) 0, .sl (h.next + 1 + 3) 0 n (some n) 0]) := by kernel_rfl
  have w5 : h5.wr h.next 2 := by rw [← hh5, ← hh4]; exact wr_at_other (wr_at_other w3 (by omega)) (by omega)
  have hst := st_ptr (n := 2) (off := 0) (y := .agg [.sl (h.next + 1 + 1) 0 n (some n) 0, .sl (h.next + 1 + 3) 0 n (some n) 0]) w5 rfl (by omega) rfl
  have hcy : (SV.agg [.sl (h.next + 1 + 1) 0 n (some n) 0, .sl (h.next + 1 + 3) 0 n (some n) 0]).cells = [.sl (h.next + 1 + 1) 0 n (some n) 0, .sl (h.next + 1 + 3) 0 n (some n) 0] := rfl
  rw [hcy] at hst
  generalize hh6 : h5.set h.next 0 [.sl (h.next + 1 + 1) 0 n (some n) 0, .sl (h.next + 1 + 3) 0 n (some n) 0] = h6 at *
  have n6 : h6.next = h.next + 7 := by rw [← hh6, set_next, ← hh5, ← hh4]; exact n3
  have hld : ldN 2 (.ptr h.next 0) h6 = some (.agg [.sl (h.next + 1 + 1) 0 n (some n) 0, .sl (h.next + 1 + 3) 0 n (some n) 0]) := by
    have w5' := w5
    obtain ⟨mm, hmm, _⟩ := w5'
    have : ∃ m', h6.mt h.next = some m' := by rw [← hh6, mt_set, if_pos rfl, hmm]; exact ⟨_, rfl⟩
    obtain ⟨m', hm'⟩ := this
    rw [ldN_ptr hm', cells_of (n := 2) (ys := [.sl (h.next + 1 + 1) 0 n (some n) 0, .sl (h.next + 1 + 3) 0 n (some n) 0]) rfl fun i hi => by
      rw [Nat.zero_add, ← hh6, cell_set_same w5 (by simp) (Nat.zero_le _) (by simpa using hi), Nat.sub_zero]]
    rfl
  refine ⟨h6, _, _, h.next + 1 + 1, h.next + 1 + 3, ?_, ⟨h1, h2, ⟨some n, 0, rfl⟩, ⟨some n, 0, rfl⟩, ?_, ?_, fun i hi => ?_, fun i hi _ => ⟨rfl, ?_⟩, (fun i k hi hq => by cases hq), (fun i j k _ _ hq => by cases hq), by omega, by omega, by omega, fun j => by omega⟩, ⟨?_, by omega, fun j hj _ => ?_, fun hf j hj => ?_⟩, by omega, by omega⟩
  · unfold fs24 q24_10 ff24
    simp only [ob_some, b2_some, bc_ret, bcn_ret, gd_tt, gd_ff, gd_tf, gd_ft, ypk_true, ypk_false, yIf_true, yIf_false, semNil_ptr, fa_ptr, ld1_ptr, ext_tup, fd1_agg, un_not, bin_add, bin_sub, bin_mul, bin_eql, bin_neq, bin_lss, bin_leq, bin_gtr, bin_geq, Nat.zero_add, Nat.mul_one, hal, nwB_eq hf2, new_next, hh3, lowV_int, Bool.and_self, ck_true, m1, m2, hb, hst, hld]
  · rw [← hh6]
    refine wr_set ?_
    rw [← hh5, ← hh4]
    have : (h3.at (h.next + 1 + 1) o2).wr (h.next + 1 + 1) o2.n := wr_at (by rw [← ho2]; rfl)
    rw [show o2.n = n by rw [← ho2]; exact Nat.mul_one n] at this
    exact wr_at_other this (by omega)
  · rw [← hh6]
    refine wr_set ?_
    rw [← hh5]
    have : (h4.at (h.next + 1 + 3) o3).wr (h.next + 1 + 3) o3.n := wr_at (by rw [← ho3]; rfl)
    rw [show o3.n = n by rw [← ho3]; exact Nat.mul_one n] at this
    exact this
  · rw [← hh6, cell_set_off (.inl (by omega)), ← hh5, cell_at_other _ (by omega), ← hh4, cell_at_same, ← ho2, patOb_get _ _ (by omega)]
    show [SV.bool false][i % 1]? = _
    rw [Nat.mod_one]; rfl
  · rw [← hh6, cell_set_off (.inl (by omega)), ← hh5, cell_at_same, ← ho3, patOb_get _ _ (by omega)]
    show [SV.val (.slice none 0 0)][i % 1]? = _
    rw [Nat.mod_one]; rfl
  · rw [← hh6, set_ng, ← hh5, ← hh4, ← hh3]; rfl
  · show h6.objs.get j = h.objs.get j
    rw [← hh6, set_other _ _ _ (by omega), ← hh5, at_other _ _ (by omega), ← hh4, at_other _ _ (by omega), g3, new_other _ _ (by omega)]
  · rw [n6] at hj
    rw [← hh6, set_other _ _ _ (by omega), ← hh5, at_other _ _ (by omega), ← hh4, at_other _ _ (by omega), g3]
    exact hf2 j (by rw [new_next]; omega)
end
end Go.Proofs.YtomialandfplkaaDoor.Eva
namespace Go.Proofs.YtomialandfplkaaDoor.Eva
open Go.Xe
set_option linter.unusedSimpArgs false

section
variable {lf m : Nat} {h : HW} {r ro rb n : Nat} {on : Nat → Bool} {q : Nat → Option Nat} {b : Nat → Nat} {x0 x1 : SV}
theorem appT_rows : AppT Tryd.prog 42 42 24 1 24 :=
  ⟨Tryd.underlying42, by kernel_rfl, ⟨.slice none 0 0, by kernel_rfl, rfl⟩, by kernel_rfl, ⟨_, Tryd.underlying42, rfl⟩, Nat.le_refl 1⟩
theorem appT_bool : AppT Tryd.prog 41 41 4 1 1 :=
  ⟨Tryd.underlying41, by kernel_rfl, ⟨.bool false, by kernel_rfl, rfl⟩, by kernel_rfl, ⟨_, Tryd.underlying41, rfl⟩, Nat.le_refl 1⟩
/-- append([]byte{}, x...) of a block's row. -/
theorem cp_elem (V : RefV h x0 x1 ro rb n on q b) {i : Nat} (hi : i < n) : ∃ x h1 y h2 k, h.cell rb i = some x ∧ ybs Tryd.prog 24 0 [] [] h = some (.sl h.next 0 0 (some 0) 0, h1) ∧
    ybl Tryd.prog .append #[24, 24] [.sl h.next 0 0 (some 0) 0, x] h1 = some (y, h2) ∧
    RowAt h2 y k b i (on i) ∧ h.next ≤ k ∧ y.cells = [y] ∧ y.flat = true ∧ allOne [y] = true ∧ Frm h h2 (fun _ => False) ∧ h.next ≤ h1.next ∧ (∀ j, j < h.next → SameOb h h1 j ∧ SameOb h1 h2 j) := by
  obtain ⟨z, hz, hzl⟩ := appT_u8.hz
  have hy := ybs_none (h := h) appT_u8.hu appT_u8.hs hz hzl (Nat.le_refl 1)
  have none_case : ∀ x, h.cell rb i = some x → on i = false → appElems (h.new (rowOb 5 [])).x0 1 x = some (0, []) → ∃ x h1 y h2 k, h.cell rb i = some x ∧ ybs Tryd.prog 24 0 [] [] h = some (.sl h.next 0 0 (some 0) 0, h1) ∧
    ybl Tryd.prog .append #[24, 24] [.sl h.next 0 0 (some 0) 0, x] h1 = some (y, h2) ∧
    RowAt h2 y k b i (on i) ∧ h.next ≤ k ∧ y.cells = [y] ∧ y.flat = true ∧ allOne [y] = true ∧ Frm h h2 (fun _ => False) ∧ h.next ≤ h1.next ∧ (∀ j, j < h.next → SameOb h h1 j ∧ SameOb h1 h2 j) := by
    intro x hx ho he
    have hw : (h.new (rowOb 5 [])).wr h.next 0 := wr_new (o := rowOb _ []) rfl
    have ha := app_empty0 (h := h.new (rowOb 5 [])) (k := h.next) appT_u8 ⟨0, hw⟩ he
    refine ⟨x, _, _, _, h.next, hx, hy, ha, .inr ⟨ho, ⟨_, _, rfl⟩, ⟨0, wr_set hw⟩, by rw [set_next, new_next]; omega⟩, Nat.le_refl _, rfl, rfl, rfl, ⟨by simp, by simp, fun j hj _ => (set_other _ _ _ (by omega)).trans (new_other h _ (by omega)), fun hf => fresh_set (fresh_new hf _) _ _ _⟩, by simp, fun j hj => ⟨new_other h _ (by omega), set_other _ _ _ (by omega)⟩⟩
  cases hq : q i with
  | none =>
    obtain ⟨o1, o2⟩ := V.off i hi hq
    exact none_case _ o2 o1 rfl
  | some k =>
    obtain ⟨o1, o2, x, o3, R⟩ := V.has i k hi hq
    rcases R with B | ⟨u1, ⟨cap, lo, rfl⟩, ⟨N, u3⟩, u4⟩
    · have hrow : ∀ j, rowOf x = some j → j < h.next := fun j hj => by
        obtain ⟨cap', lo', rfl⟩ := B.sl
        cases hj; exact B.lt
      obtain ⟨f1, h', f2, f3, f4, f5⟩ := fresh_bytes (B.bytes V.blt) (by rw [blkL_length]; omega) (by rw [blkL_length]; omega) hrow
      rw [blkL_length] at f2 f3
      obtain ⟨g1, g2, N, g3, g4⟩ := f3.w (h.next + 1) rfl
      have hc : ∀ j, j < 64 → h'.cell (h.next + 1) j = some (.int .u8 (b (i * 64 + j) : Int)) := fun j hj => by
        rcases f3.b.2 with ⟨e | ⟨_, e⟩, _⟩ | ⟨kb, ob, cap, lo, mm, e, hm, hc⟩
        · cases e
        · cases e
        · rw [blkL_length] at e hc
          cases e
          have := hc j hj
          rw [Nat.zero_add] at this
          rw [this, blkL_get b i hj]
      refine ⟨x, _, _, h', h.next + 1, o3, f1, f2, .inl ⟨⟨none, 0, rfl⟩, trivial, ?_, hc, g2⟩, by omega, rfl, rfl, rfl, f4, by simp, fun j hj => ⟨new_other h _ (by omega), ?_⟩⟩
      · have ha := f2
        have he := elems_bytes ((B.bytes V.blt).frame (h' := h.new (rowOb 5 [])) fun kb ob len cap lo e => new_other _ _ (Nat.ne_of_lt (hrow kb (by rw [e]; rfl))))
        have ha2 := app_empty (h := h.new (rowOb 5 [])) (k := h.next) appT_u8 ⟨_, by rw [mt_new, if_pos rfl]⟩ he (by rw [u8s_length, Nat.mul_one]) (u8s_one _) (by rw [blkL_length]; omega) (by rw [blkL_length]; omega) (by rw [blkL_length]; omega)
        rw [blkL_length] at ha2
        rw [ha2] at ha
        cases ha
        have := wr_new (h := h.new (rowOb 5 [])) (o := looseOb 5 1 (u8s (blkL b i))) rfl
        have e : (looseOb 5 1 (u8s (blkL b i))).n = 64 := by show (u8s (blkL b i)).length = 64; rw [u8s_length, blkL_length]
        rw [e] at this
        exact this
      · have s1 := f4.same j hj (fun e => e)
        have s2 : SameOb h (h.new (rowOb 5 [])) j := new_other h _ (by omega)
        exact s1.trans s2.symm
    · exact none_case _ o3 u1 (elems_cells (n := 0) (by obtain ⟨mm, hm, _⟩ := u3; exact ⟨mm, by rw [mt_new, if_neg (by omega)]; exact hm⟩) rfl)

/-- So far the rows are copied. -/
structure Cp (h0 h : HW) (ko : Nat) (xO xB : SV) (i : Nat) (k : Nat → Nat) (on : Nat → Bool) (b : Nat → Nat) : Prop where
  F : Frm h0 h (· = ko)
  w : h.wr ko 2
  c0 : h.cell ko 0 = some xO
  c1 : h.cell ko 1 = some xB
  ys : ∃ ys, Sl h 24 1 xB i ys ∧ ∀ j, j < i → ∃ x, ys[j]? = some x ∧ RowAt h x (k j) b j (on j)
  new : ∀ j, j < i → h0.next ≤ k j ∧ rowOf xB ≠ some (k j)
  rowB : ∀ j, rowOf xB = some j → h0.next ≤ j
  inj : ∀ j j', j < i → j' < i → k j = k j' → j = j'
theorem cp_loop {C : YC} {lf capb lob ko : Nat} {x2 xO : SV} {h0 : HW} (V : RefV h0 x0 x1 ro rb n on q b) (hko : ko < h0.next) (hkr : ¬ rowsV ro rb n q ko) {capB : Option Nat} (e0 : K2) : ∀ (d i : Nat), i + d = n → ∀ f, d < f → ∀ h xB k, Cp h0 h ko xO xB i k on b →
    ∃ h' xB' k', lp (l27_7 C lf e0) f (some x2, some (.ptr ko 0), some (.sl rb 0 n capB lob), some (.int .i64 (n : Int)), some (.int .i64 (i : Int))) h = e0 (some x2) (some (.ptr ko 0)) h' ∧ Cp h0 h' ko xO xB' n k' on b
  | 0, i, hw, f, hf, h, xB, k, A => by
    obtain ⟨f, rfl⟩ : ∃ g, f = g + 1 := ⟨f - 1, by omega⟩
    have : i = n := by omega
    subst this
    refine ⟨h, xB, k, ?_, A⟩
    rw [lp_succ]
    unfold l27_7 q27_27
    have hlt : decide ((i : Int) < (i : Int)) = false := by simp
    simp only [ob_some, b2_some, bc_ret, bcn_ret, gd_tt, gd_ff, gd_tf, gd_ft, ypk_true, ypk_false, yIf_true, yIf_false, semNil_ptr, fa_ptr, ld1_ptr, ext_tup, fd1_agg, un_not, bin_add, bin_sub, bin_mul, bin_eql, bin_neq, bin_lss, bin_leq, bin_gtr, bin_geq, Nat.zero_add, Nat.mul_one, hlt]
  | d + 1, i, hw, f, hf, h, xB, k, A => by
    obtain ⟨f, rfl⟩ : ∃ g, f = g + 1 := ⟨f - 1, by omega⟩
    have Vh : RefV h x0 x1 ro rb n on q b := V.frame A.F.next fun j hj => A.F.same j (V.row_lt hj) (fun e => hkr (by rw [← e]; exact hj))
    have h2 := V.n2
    have hlt : decide ((i : Int) < (n : Int)) = true := decide_eq_true (by omega)
    have hinc : IntKind.i64.wrap ((i : Int) + 1) = ((i + 1 : Nat) : Int) := by rw [wrap_i64 (by omega) (by omega)]; omega
    have hix := ixS_sl (s := 1) (k := rb) (off := 0) (len := n) (lo := lob) (cap := capB) (kd := .i64) (i := (i : Int)) (by omega) (by omega)
    rw [Int.toNat_natCast, Nat.mul_one, Nat.zero_add] at hix
    obtain ⟨x, h18, y, h19, kk, e1, e2, e3, R, hk, y1, y2, y3, F19, n18, hs⟩ := cp_elem Vh (i := i) (by omega)
    obtain ⟨ys, Sy, hys⟩ := A.ys
    have hkoh : ko < h.next := Nat.lt_of_lt_of_le hko A.F.next
    have rowlt : ∀ j, rowOf xB = some j → j < h.next := fun j hj => Sy.row_lt hj
    have S19 : Sl h19 24 1 xB i ys := Sy.frame F19.next fun j hj => F19.same j (rowlt j hj) (fun e => e)
    obtain ⟨xB', h21, a1, a2, a3, a4, a5, a6, a7, a8⟩ := app_one (h := h19) (y := y) appT_rows y1 y2 y3 S19 (by omega) (by omega)
    have hmt : ∀ {g : HW}, SameOb h g ko → ∃ mm, g.mt ko = some mm := fun e => by obtain ⟨mm, hm, _⟩ := A.w; exact ⟨mm, by rw [e.mt]; exact hm⟩
    obtain ⟨s18, s1819⟩ := hs ko hkoh
    have s19 : SameOb h h19 ko := s1819.trans s18
    have c1 : ∀ R : Rs, ck (chkH [(1, adrO (some (.ptr ko 1)))] h h18 [1]) R = R := fun R => ck_one (k := ko) rfl hkoh (hmt rfl) s18
    have c2 : ∀ R : Rs, ck (chkH [(1, adrO (some (.ptr ko 1)))] h18 h19 [1]) R = R := fun R => ck_one (k := ko) rfl (by omega) (hmt s18) s1819
    have n19 := F19.next
    have c3 : ∀ R : Rs, ck (chkH [(1, adrO (some (.ptr ko 1)))] h19 (h19.new (rowOb 24 [y])) [1]) R = R := fun R => ck_one (k := ko) rfl (by omega) (hmt s19) (new_other _ _ (by omega))
    have hne : rowOf xB ≠ some ko := fun e => absurd (A.rowB ko e) (by omega)
    have s21 : SameOb h19 h21 ko := a6 ko (by omega) hne
    have w21 : h21.wr ko 2 := wr_same (wr_same A.w s19) s21
    have hst := st_ptr (n := 1) (off := 1) (y := xB') w21 (by
      rcases a3.2 with ⟨rfl, _⟩ | ⟨_, rfl, _⟩ <;> rfl) (by omega) (by
      rcases a3.2 with ⟨rfl, _⟩ | ⟨_, rfl, _⟩ <;> rfl)
    have hcx : xB'.cells = [xB'] := by rcases a3.2 with ⟨rfl, _⟩ | ⟨_, rfl, _⟩ <;> rfl
    rw [hcx] at hst
    have hkk : kk < h19.next := R.lt
    have rowB' : ∀ j, rowOf xB' = some j → h0.next ≤ j := fun j hj => by
      rcases a7 j hj with e | e
      · exact A.rowB j e
      · have := A.F.next; omega
    have nek : ∀ j, rowOf xB' = some j → j ≠ ko := fun j hj e => absurd (rowB' j hj) (by omega)
    have F21 : Frm h0 (h21.set ko 1 [xB']) (· = ko) := by
      refine ⟨by rw [set_ng]; exact a5.trans (F19.ng.trans A.F.ng), by rw [set_next]; exact Nat.le_trans A.F.next (Nat.le_trans n19 a4), fun j hj hs => ?_, fun hf => fresh_set (a8 (F19.fr (A.F.fr hf))) _ _ _⟩
      have hjh := Nat.lt_of_lt_of_le hj A.F.next
      exact (set_other _ _ _ hs).trans ((a6 j (by omega) (fun e => absurd (A.rowB j e) (by omega))).trans ((F19.same j hjh (fun e => e)).trans (A.F.same j hj hs)))
    have rowS : ∀ {x : SV} {kj j : Nat} {o : Bool}, RowAt h19 x kj b j o → rowOf xB ≠ some kj → kj ≠ ko → RowAt (h21.set ko 1 [xB']) x kj b j o := fun R hx hk => R.frame (by rw [set_next]; exact a4) ((set_other _ _ _ hk).trans (a6 _ R.lt hx))
    have hni : i + 1 ≤ n := by omega
    obtain ⟨h', xf, kf, l1, l2⟩ := cp_loop (lf := lf) (C := C) (x2 := x2) (xO := xO) (lob := lob) (capb := capb) V hko hkr (capB := capB) e0 d (i + 1) (by omega) f (by omega) (h21.set ko 1 [xB']) xB' (upd k i kk) (by
      refine ⟨F21, wr_set w21, ?_, ?_, ⟨ys ++ [y], ?_, fun j hj => ?_⟩, fun j hj => ?_, rowB', fun j j' hj hj' e => ?_⟩
      · rw [cell_set_off (by simp), s21.cell, s19.cell]; exact A.c0
      · rw [cell_set_same w21 (by simp) (Nat.le_refl _) (by simp)]; rfl
      · exact a3.frame (by rw [set_next]; exact Nat.le_refl _) fun j hj => set_other _ _ _ (nek j hj)
      · by_cases e : j = i
        · subst e
          refine ⟨y, ?_, ?_⟩
          · have hl : ys.length = j := by simpa using Sy.1
            rw [List.getElem?_append_right (by omega), hl, Nat.sub_self]; rfl
          · rw [upd_same]
            exact rowS R (fun e => absurd (rowlt _ e) (by omega)) (by omega)
        · obtain ⟨xj, hj1, hj2⟩ := hys j (by omega)
          refine ⟨xj, ?_, ?_⟩
          · have hl : ys.length = i := by simpa using Sy.1
            rw [List.getElem?_append_left (by omega)]; exact hj1
          · rw [upd_ne _ _ e]
            have hn := A.new j (by omega)
            exact rowS (hj2.frame n19 (F19.same _ hj2.lt (fun e => e))) hn.2 (by omega)
      · by_cases e : j = i
        · subst e
          rw [upd_same]
          refine ⟨by have := A.F.next; omega, fun e => ?_⟩
          rcases a7 _ e with e2 | e2
          · exact absurd (rowlt _ e2) (by omega)
          · omega
        · rw [upd_ne _ _ e]
          have hn := A.new j (by omega)
          obtain ⟨xj, hj1, hj2⟩ := hys j (by omega)
          refine ⟨hn.1, fun e => ?_⟩
          rcases a7 _ e with e2 | e2
          · exact hn.2 e2
          · have := hj2.lt; omega
      · have old : ∀ j, j < i + 1 → j ≠ i → k j < h.next := fun j hj e => by
          obtain ⟨xj, hj1, hj2⟩ := hys j (by omega)
          exact hj2.lt
        by_cases e1 : j = i
        · by_cases e2 : j' = i
          · omega
          · rw [e1, upd_same, upd_ne _ _ e2] at e
            have := old j' hj' e2; omega
        · by_cases e2 : j' = i
          · rw [e2, upd_same, upd_ne _ _ e1] at e
            have := old j hj e1; omega
          · rw [upd_ne _ _ e1, upd_ne _ _ e2] at e
            exact A.inj j j' (by omega) (by omega) e)
    refine ⟨h', xf, kf, ?_, l2⟩
    refine Eq.trans ?_ l1
    rw [lp_succ]
    show q27_27 C lf (fun x2 x3 x16 x17 x18 h => lp (l27_7 C lf e0) f (x2, x3, x16, x17, x18) h) e0 (some x2) (some (.ptr ko 0)) (some (.sl rb 0 n capB lob)) (some (.int .i64 (n : Int))) (some (.int .i64 (i : Int))) h = _
    unfold q27_27
    simp only [ob_some, b2_some, bc_ret, bcn_ret, gd_tt, gd_ff, gd_tf, gd_ft, ypk_true, ypk_false, yIf_true, yIf_false, semNil_ptr, fa_ptr, ld1_ptr, ext_tup, fd1_agg, un_not, bin_add, bin_sub, bin_mul, bin_eql, bin_neq, bin_lss, bin_leq, bin_gtr, bin_geq, Nat.zero_add, Nat.mul_one, hlt, hix, e1, A.c1, e2, c1, e3, c2, a1, c3, a2, hst, hinc]
def RCopyOK (C : YC) : Prop := ∀ h r ro rb n on q b, RefAt h r ro rb n on q b → ∃ h' y0 y1 ro' rb' q', C (.fn 27) [.ptr r 0] h = some (.ret (.agg [y0, y1]), h') ∧ RefV h' y0 y1 ro' rb' n on q' b ∧ Frm h h' (fun _ => False) ∧ ∀ j, rowsV ro' rb' n q' j → h.next ≤ j
theorem rcopy_ok {C : YC} (hlf : 4097 ≤ lf) (A : RefAt h r ro rb n on q b) : ∃ h' y0 y1 ro' rb' q', fs27 C lf (.ptr r 0) h = some (.ret (.agg [y0, y1]), h') ∧ RefV h' y0 y1 ro' rb' n on q' b ∧ Frm h h' (fun _ => False) ∧ ∀ j, rowsV ro' rb' n q' j → h.next ≤ j := by
  obtain ⟨x0, x1, c0, c1, V⟩ := A.v
  obtain ⟨cap0, lo0, rfl⟩ := V.e0
  obtain ⟨capB, lob, rfl⟩ := V.e1
  have h1 := V.n1
  have h2 := V.n2
  have hz : tyZero Tryd.prog 44 = some (.agg #[.slice none 0 0, .slice none 0 0]) := by kernel_rfl
  have hzc : (mkV (.agg #[.slice none 0 0, .slice none 0 0])).cells = [.val (.slice none 0 0), .val (.slice none 0 0)] := rfl
  -- the result's variable
  have al1 := yAl_eq (P := Tryd.prog) (e := 44) (h := h) hz
  rw [hzc] at al1
  generalize hg1 : h.new (rowOb 44 [.val (.slice none 0 0), .val (.slice none 0 0)]) = g1 at *
  have n1 : g1.next = h.next + 1 := by rw [← hg1]; rfl
  have F1 : Frm h g1 (fun _ => False) := by rw [← hg1]; exact frm_new _ _ _
  have w1 : g1.wr h.next 2 := by rw [← hg1]; exact wr_new (o := rowOb _ [.val (.slice none 0 0), .val (.slice none 0 0)]) rfl
  -- the list of those in use
  obtain ⟨z, hzb, hzl⟩ := appT_bool.hz
  have yb := ybs_none (h := g1) appT_bool.hu appT_bool.hs hzb hzl (Nat.le_refl 1)
  rw [n1] at yb
  generalize hg2 : g1.new (rowOb 4 []) = g2 at *
  have n2 : g2.next = h.next + 2 := by rw [← hg2, new_next, n1]
  have F2 : Frm g1 g2 (fun _ => False) := by rw [← hg2]; exact frm_new _ _ _
  have F02 := F1.trans F2
  have hm2 : ∃ mm, g2.mt (h.next + 1) = some mm := by rw [← hg2, mt_new, if_pos n1.symm]; exact ⟨_, rfl⟩
  have w2 : g2.wr h.next 2 := by rw [← hg2]; exact wr_new_other w1 (by omega)
  have lr := A.lt
  have V2 : RefV g2 (.sl ro 0 n cap0 lo0) (.sl rb 0 n capB lob) ro rb n on q b := V.frame F02.next fun j hj => F02.same j (V.row_lt hj) (fun e => e)
  have c0' : g2.cell r 0 = some (.sl ro 0 n cap0 lo0) := by rw [(F02.same r lr (fun e => e)).cell]; exact c0
  have hce : g2.cells ro 0 (n * 1) = some ((List.range n).map fun j => SV.bool (on j)) := cells_of (by simp) fun j hj => by
    rw [Nat.zero_add, V2.con j (by omega)]
    simp [show j < n by omega]
  have hel := elems_cells (cap := cap0) (lo := lo0) (by obtain ⟨mm, hm, _⟩ := V2.wro; exact ⟨mm, hm⟩) hce
  have hap := app_empty (h := g2) (k := h.next + 1) appT_bool hm2 hel (by simp) (allOne_map _ _ fun _ => rfl) h1 (by omega) (by omega)
  rw [n2] at hap
  generalize ho3 : looseOb 4 1 ((List.range n).map fun j => SV.bool (on j)) = o3 at *
  generalize hg3 : g2.new o3 = g3 at *
  have n3 : g3.next = h.next + 3 := by rw [← hg3, new_next, n2]
  have F3 : Frm g2 g3 (fun _ => False) := by rw [← hg3]; exact frm_new _ _ _
  have w3 : g3.wr h.next 2 := by rw [← hg3]; exact wr_new_other w2 (by omega)
  have wo3 : g3.wr (h.next + 2) n := by
    have := wr_new (h := g2) (o := o3) (by rw [← ho3]; rfl)
    rw [hg3, n2, show o3.n = n by rw [← ho3]; simp [looseOb]] at this
    exact this
  have co3 : ∀ j, j < n → g3.cell (h.next + 2) j = some (.bool (on j)) := fun j hj => by
    rw [← hg3, ← n2, cell_new_same, ← ho3, looseOb_get]; simp [hj]
  have hb : semBuild Tryd.prog 44 [0] [.sl (h.next + 2) 0 n none 0] = some (.agg [.sl (h.next + 2) 0 n none 0, .val (.slice none 0 0)]) := by kernel_rfl
  -- the copy's variable
  have al4 := yAl_eq (P := Tryd.prog) (e := 44) (h := g3) hz
  rw [hzc, n3] at al4
  generalize hg4 : g3.new (rowOb 44 [.val (.slice none 0 0), .val (.slice none 0 0)]) = g4 at *
  have n4 : g4.next = h.next + 4 := by rw [← hg4, new_next, n3]
  have F4 : Frm g3 g4 (fun _ => False) := by rw [← hg4]; exact frm_new _ _ _
  have w4 : g4.wr (h.next + 3) 2 := by
    have := wr_new (h := g3) (o := rowOb 44 [.val (.slice none 0 0), .val (.slice none 0 0)]) rfl
    rw [hg4, n3] at this
    exact this
  have w4r : g4.wr h.next 2 := by rw [← hg4]; exact wr_new_other w3 (by omega)
  have hst := st_ptr (n := 2) (off := 0) (y := .agg [.sl (h.next + 2) 0 n none 0, .val (.slice none 0 0)]) w4 rfl (by omega) rfl
  have hcy : (SV.agg [.sl (h.next + 2) 0 n none 0, .val (.slice none 0 0)]).cells = [.sl (h.next + 2) 0 n none 0, .val (.slice none 0 0)] := rfl
  rw [hcy] at hst
  generalize hg5 : g4.set (h.next + 3) 0 [.sl (h.next + 2) 0 n none 0, .val (.slice none 0 0)] = g5 at *
  have n5 : g5.next = h.next + 4 := by rw [← hg5, set_next, n4]
  have w5 : g5.wr (h.next + 3) 2 := by rw [← hg5]; exact wr_set w4
  have w5r : g5.wr h.next 2 := by rw [← hg5]; exact wr_set w4r
  have so5 : SameOb g3 g5 (h.next + 2) := by rw [← hg5, ← hg4]; exact (set_other _ _ _ (by omega)).trans (new_other _ _ (by omega))
  have F05 : Frm h g5 (fun _ => False) := by
    have F04 := (F02.trans F3).trans F4
    refine ⟨by rw [← hg5, set_ng]; exact F04.ng, by omega, fun j hj hs => ?_, fun hf => by rw [← hg5]; exact fresh_set (F04.fr hf) _ _ _⟩
    have : SameOb g4 g5 j := by rw [← hg5]; exact set_other _ _ _ (by omega)
    exact this.trans (F04.same j hj hs)
  have V5 : RefV g5 (.sl ro 0 n cap0 lo0) (.sl rb 0 n capB lob) ro rb n on q b := V.frame F05.next fun j hj => F05.same j (V.row_lt hj) (fun e => e)
  have c15 : g5.cell r 1 = some (.sl rb 0 n capB lob) := by rw [(F05.same r lr (fun e => e)).cell]; exact c1
  have cell0 : g5.cell (h.next + 3) 0 = some (.sl (h.next + 2) 0 n none 0) := by rw [← hg5, cell_set_same w4 (by simp) (Nat.le_refl _) (by simp)]; rfl
  have cell1 : g5.cell (h.next + 3) 1 = some (.val (.slice none 0 0)) := by rw [← hg5, cell_set_same w4 (by simp) (by omega) (by simp)]; rfl
  have hl := lenE_sl (k := rb) (off := 0) (len := n) (cap := capB) (lo := lob) Tryd.underlying42
  obtain ⟨g6, xB, kf, l1, l2⟩ := cp_loop (lf := lf) (C := C) (x2 := .ptr h.next 0) (xO := .sl (h.next + 2) 0 n none 0) (lob := lob) (capb := 0) (ko := h.next + 3) V5 (by omega) (fun e => by have := V.row_lt e; omega) (capB := capB)
    (fun x2 x3 h => q27_6 C lf ff27 x2 x3 h) n 0 (by omega) lf (by omega) g5 (.val (.slice none 0 0)) (fun _ => 0)
    ⟨Frm.refl _ _, w5, cell0, cell1, ⟨[], Sl.nil _ _ _, fun j hj => by omega⟩, fun j hj => by omega, (fun j hj => by cases hj), fun j j' hj => by omega⟩
  obtain ⟨ys, Sy, hys⟩ := l2.ys
  rcases Sy.2 with ⟨_, e⟩ | ⟨kb, rfl, Ak⟩
  · omega
  have hkb := l2.rowB kb rfl
  have l6 := l2.F.next
  have w6r : g6.wr h.next 2 := wr_same w5r (l2.F.same _ (by omega) (by omega))
  have hld : ldN 2 (.ptr (h.next + 3) 0) g6 = some (.agg [.sl (h.next + 2) 0 n none 0, .sl kb 0 n none 0]) := by
    obtain ⟨mm, hm, _⟩ := l2.w
    rw [ldN_ptr hm, cells_of (n := 2) (ys := [.sl (h.next + 2) 0 n none 0, .sl kb 0 n none 0]) rfl fun i hi => by
      rw [Nat.zero_add]
      rcases (show i = 0 ∨ i = 1 by omega) with rfl | rfl
      · exact l2.c0
      · exact l2.c1]
    rfl
  have hst2 := st_ptr (n := 2) (off := 0) (y := .agg [.sl (h.next + 2) 0 n none 0, .sl kb 0 n none 0]) w6r rfl (by omega) rfl
  have hcy2 : (SV.agg [.sl (h.next + 2) 0 n none 0, .sl kb 0 n none 0]).cells = [.sl (h.next + 2) 0 n none 0, .sl kb 0 n none 0] := rfl
  rw [hcy2] at hst2
  generalize hg7 : g6.set h.next 0 [.sl (h.next + 2) 0 n none 0, .sl kb 0 n none 0] = g7 at *
  have hld2 : ldN 2 (.ptr h.next 0) g7 = some (.agg [.sl (h.next + 2) 0 n none 0, .sl kb 0 n none 0]) := by
    have w7 : g7.wr h.next 2 := by rw [← hg7]; exact wr_set w6r
    obtain ⟨mm, hm, _⟩ := w7
    rw [ldN_ptr hm, cells_of (n := 2) (ys := [.sl (h.next + 2) 0 n none 0, .sl kb 0 n none 0]) rfl fun i hi => by
      rw [Nat.zero_add, ← hg7, cell_set_same w6r (by simp) (Nat.zero_le _) (by simpa using hi), Nat.sub_zero]]
    rfl
  have s7 : ∀ j, j ≠ h.next → SameOb g6 g7 j := fun j hj => by rw [← hg7]; exact set_other _ _ _ hj
  have n7 : g7.next = g6.next := by rw [← hg7, set_next]
  refine ⟨g7, .sl (h.next + 2) 0 n none 0, .sl kb 0 n none 0, h.next + 2, kb, fun i => some (kf i), ?_, ?_, ?_, ?_⟩
  · unfold fs27 q27_49 q27_48 q27_46 q27_45 q27_35 q27_34 q27_33
    simp only [ob_some, b2_some, bc_ret, bcn_ret, gd_tt, gd_ff, gd_tf, gd_ft, ypk_true, ypk_false, yIf_true, yIf_false, semNil_ptr, fa_ptr, ld1_ptr, ext_tup, fd1_agg, un_not, bin_add, bin_sub, bin_mul, bin_eql, bin_neq, bin_lss, bin_leq, bin_gtr, bin_geq, Nat.zero_add, Nat.mul_one, al1, n1, yb, c0', hap, hb, al4, hst, c15, hl]
    refine Eq.trans l1 ?_
    unfold q27_6 ff27
    simp only [ob_some, b2_some, bc_ret, bcn_ret, gd_tt, gd_ff, gd_tf, gd_ft, ypk_true, ypk_false, yIf_true, yIf_false, semNil_ptr, fa_ptr, ld1_ptr, ext_tup, fd1_agg, un_not, bin_add, bin_sub, bin_mul, bin_eql, bin_neq, bin_lss, bin_leq, bin_gtr, bin_geq, Nat.zero_add, Nat.mul_one, hld, hst2, hld2]
  · have so7 : SameOb g3 g7 (h.next + 2) := (s7 _ (by omega)).trans ((l2.F.same _ (by omega) (by omega)).trans so5)
    obtain ⟨mb, hmb, m1, m2, m3, m4, m5⟩ := Ak.mt
    refine ⟨h1, h2, ⟨none, 0, rfl⟩, ⟨none, 0, rfl⟩, wr_same wo3 so7, ⟨mb, by rw [(s7 kb (by omega)).mt]; exact hmb, m5, by omega⟩, fun i hi => by rw [so7.cell]; exact co3 i hi, (fun i hi hq => by cases hq), fun i k hi hq => ?_, fun i j k hi hj hq hq' => ?_, by omega, by omega, by have := Ak.lt; omega, V.blt⟩
    · cases hq
      obtain ⟨x, hx1, hx2⟩ := hys i hi
      have hn := l2.new i hi
      refine ⟨by omega, fun e => hn.2 (by rw [e]; rfl), x, ?_, hx2.frame (by omega) (s7 _ (by omega))⟩
      rw [(s7 kb (by omega)).cell, Ak.cs i (by omega)]; exact hx1
    · cases hq
      exact l2.inj i j hi hj (Option.some.inj hq').symm
  · refine ⟨by rw [← hg7, set_ng]; exact l2.F.ng.trans F05.ng, by omega, fun j hj hs => (s7 j (by omega)).trans ((l2.F.same j (by omega) (by omega)).trans (F05.same j hj hs)), fun hf => by rw [← hg7]; exact fresh_set (l2.F.fr (F05.fr hf)) _ _ _⟩
  · intro j hj
    rcases hj with rfl | rfl | ⟨i, hi, hq⟩
    · omega
    · omega
    · cases hq
      have := (l2.new i hi).1; omega
end
end Go.Proofs.YtomialandfplkaaDoor.Eva
namespace Go.Proofs.YtomialandfplkaaDoor.Eva
open Go.Xe
set_option linter.unusedSimpArgs false

section
variable {lf m : Nat} {h : HW}
/-- Bytes in the middle of a row, a mark at each end. -/
structure Whole (h : HW) (k : Nat) (l : List Nat) : Prop where
  w : h.wr k (l.length + 2)
  c0 : h.cell k 0 = some (.int .u8 165)
  c1 : h.cell k (l.length + 1) = some (.int .u8 90)
  cs : ∀ j, j < l.length → h.cell k (1 + j) = some (.int .u8 ((l.getD j 0 : Nat) : Int))
  lt : k < h.next
def wholeX (k n : Nat) : SV := .sl k 0 (n + 2) (some (n + 2)) 0
def lentX (k n : Nat) : SV := .sl k 1 n (some (n + 1)) 0
theorem slice_mid {P : Program} {t e k n : Nat} (hu : P.underlying t = some (.slice e)) (hs : tySize P e = some 1) : semSlice P t (wholeX k n) (some (.int .i64 1)) (some (.int .i64 ((n + 1 : Nat) : Int))) = some (lentX k n) := by
  have h1 : sliceB (n + 2) (n + 2) (some (.int .i64 1)) (some (.int .i64 ((n + 1 : Nat) : Int))) = some (1, n + 1) := by
    have e1 : natOf (.int .i64 1) = some 1 := rfl
    have e2 : natOf (.int .i64 ((n + 1 : Nat) : Int)) = some (n + 1) := rfl
    simp only [sliceB, e1, e2]
    have : (Nat.ble (n + 1) (n + 2) && Nat.ble 1 (n + 1)) = true := by rw [Nat.ble_eq_true_of_le (by omega), Nat.ble_eq_true_of_le (by omega)]; rfl
    simp only [this, cond_true]
  unfold semSlice wholeX
  simp only [hu, hs, h1, slAt, force_eq]
  have b1 : Nat.beq (n + 2 - 1) 0 = false := by
    cases hb : Nat.beq (n + 2 - 1) 0 with
    | false => rfl
    | true => exact absurd (Nat.eq_of_beq_eq_true hb) (by omega)
  simp only [b1, cond_false, lentX]
  rfl
def LendOK (C : YC) : Prop := ∀ h x l, Bytes h x l → l.length ≤ 140737488351232 → (∀ j, rowOf x = some j → j < h.next) → ∃ h', C (.fn 69) [x] h = some (.ret (.tup [wholeX h.next l.length, lentX h.next l.length]), h') ∧ Whole h' h.next l ∧ Frm h h' (fun _ => False) ∧ h'.next = h.next + 1
theorem lend_loop {C : YC} {lf k : Nat} {x : SV} {l : List Nat} {h0 : HW} (hlen : l.length ≤ 140737488351232) (Bx : Bytes h0 x l) (hx : ∀ j, rowOf x = some j → j < h0.next ∧ j ≠ k) (e0 : K2) : ∀ (d t : Nat), t + d = l.length → ∀ f, d < f → ∀ h, h.wr k (l.length + 2) → h.cell k 0 = some (.int .u8 165) → h.cell k (l.length + 1) = some (.int .u8 90) →
    (∀ j, j < t → h.cell k (1 + j) = some (.int .u8 ((l.getD j 0 : Nat) : Int))) → Frm h0 h (· = k) → h.next = h0.next →
    ∃ h', lp (l69_9 C lf e0) f (some x, some (wholeX k l.length), some x, some (.int .i64 (l.length : Int)), some (.int .i64 (t : Int))) h = e0 (some x) (some (wholeX k l.length)) h' ∧
      h'.wr k (l.length + 2) ∧ h'.cell k 0 = some (.int .u8 165) ∧ h'.cell k (l.length + 1) = some (.int .u8 90) ∧ (∀ j, j < l.length → h'.cell k (1 + j) = some (.int .u8 ((l.getD j 0 : Nat) : Int))) ∧ Frm h0 h' (· = k) ∧ h'.next = h0.next
  | 0, t, hw, f, hf, h, a1, a2, a3, a4, a5, a6 => by
    obtain ⟨f, rfl⟩ : ∃ g, f = g + 1 := ⟨f - 1, by omega⟩
    have : t = l.length := by omega
    subst this
    refine ⟨h, ?_, a1, a2, a3, a4, a5, a6⟩
    rw [lp_succ]
    unfold l69_9 q69_24
    have hlt : decide ((l.length : Int) < (l.length : Int)) = false := by simp
    simp only [ob_some, b2_some, bc_ret, bcn_ret, gd_tt, gd_ff, gd_tf, gd_ft, ypk_true, ypk_false, yIf_true, yIf_false, semNil_ptr, fa_ptr, ld1_ptr, ext_tup, fd1_agg, un_not, bin_add, bin_sub, bin_mul, bin_eql, bin_neq, bin_lss, bin_leq, bin_gtr, bin_geq, Nat.zero_add, Nat.mul_one, hlt]
  | d + 1, t, hw, f, hf, h, a1, a2, a3, a4, a5, a6 => by
    obtain ⟨f, rfl⟩ : ∃ g, f = g + 1 := ⟨f - 1, by omega⟩
    have ht : t < l.length := by omega
    have hlt : decide ((t : Int) < (l.length : Int)) = true := decide_eq_true (by omega)
    have hinc : IntKind.i64.wrap ((t : Int) + 1) = ((t + 1 : Nat) : Int) := by rw [wrap_i64 (by omega) (by omega)]; omega
    have Bh : Bytes h x l := Bx.frame fun kb ob len cap lo e => a5.same kb (hx kb (by rw [e]; rfl)).1 (hx kb (by rw [e]; rfl)).2
    obtain ⟨ax, b1, b2⟩ : ∃ ax, ixS 1 x (.int .i64 (t : Int)) = some ax ∧ ld1 ax h = some (.int .u8 ((l.getD t 0 : Nat) : Int)) := by
      rcases Bh.2 with ⟨_, rfl⟩ | ⟨kb, ob, cap, lo, mm, rfl, _, hc⟩
      · simp at ht
      · have hix := ixS_sl (s := 1) (k := kb) (off := ob) (len := l.length) (lo := lo) (cap := cap) (kd := .i64) (i := (t : Int)) (by omega) (by omega)
        rw [Int.toNat_natCast, Nat.mul_one] at hix
        exact ⟨_, hix, hc t ht⟩
    have hixw := ixS_sl (s := 1) (k := k) (off := 0) (len := l.length + 2) (lo := 0) (cap := some (l.length + 2)) (kd := .i64) (i := ((t + 1 : Nat) : Int)) (by omega) (by omega)
    rw [Int.toNat_natCast, Nat.mul_one, Nat.zero_add] at hixw
    have hixw' : ixS 1 (wholeX k l.length) (.int .i64 ((t + 1 : Nat) : Int)) = some (.ptr k (t + 1)) := hixw
    have hst := st_ptr (n := 1) (off := t + 1) (y := .int .u8 ((l.getD t 0 : Nat) : Int)) a1 rfl (by omega) rfl
    obtain ⟨h', e1, e2⟩ := lend_loop (lf := lf) (C := C) (x := x) hlen Bx hx e0 d (t + 1) (by omega) f (by omega) (h.set k (t + 1) [.int .u8 ((l.getD t 0 : Nat) : Int)]) (wr_set a1) (by rw [cell_set_off (.inr (by simp))]; exact a2) (by rw [cell_set_off (.inr (by simp; omega))]; exact a3)
      (fun j hj => by
        by_cases e : j = t
        · subst e
          rw [show 1 + j = j + 1 by omega, cell_set_same a1 (by simp; omega) (Nat.le_refl _) (by simp)]; simp
        · rw [cell_set_off (.inr (by simp; omega))]; exact a4 j (by omega)) (a5.trans (frm_set rfl)) (by rw [set_next]; exact a6)
    refine ⟨h', ?_, e2⟩
    refine Eq.trans ?_ e1
    rw [lp_succ]
    show q69_24 C lf (fun x0 x4 x18 x19 x20 h => lp (l69_9 C lf e0) f (x0, x4, x18, x19, x20) h) e0 (some x) (some (wholeX k l.length)) (some x) (some (.int .i64 (l.length : Int))) (some (.int .i64 (t : Int))) h = _
    unfold q69_24
    simp only [ob_some, bin_lss, hlt, yIf_true, b1, b2, bin_add, hinc, hixw', hst, SV.cells]
theorem lend_ok {C : YC} {x : SV} {l : List Nat} (hlf : 140737488355328 ≤ lf) (B : Bytes h x l) (hl : l.length ≤ 140737488351232) (hx : ∀ j, rowOf x = some j → j < h.next) :
    ∃ h', fs69 C lf x h = some (.ret (.tup [wholeX h.next l.length, lentX h.next l.length]), h') ∧ Whole h' h.next l ∧ Frm h h' (fun _ => False) ∧ h'.next = h.next + 1 := by
  have hlen := len_bytes (P := Tryd.prog) Tryd.underlying24 B
  have e2 : IntKind.i64.wrap ((l.length : Int) + 2) = ((l.length + 2 : Nat) : Int) := by rw [wrap_i64 (by omega) (by omega)]; omega
  have e1 : IntKind.i64.wrap ((l.length : Int) + 1) = ((l.length + 1 : Nat) : Int) := by rw [wrap_i64 (by omega) (by omega)]; omega
  have hmk := ymk_eq (P := Tryd.prog) (t := 24) (e := 5) (s := 1) (b := 1) (z := .int .u8 0) (k1 := .i64) (k2 := .i64) (l := l.length + 2) (c := l.length + 2) (h := h)
    Tryd.underlying24 (by kernel_rfl) (by kernel_rfl) (by kernel_rfl) (Nat.le_refl _) (by omega) (by omega) rfl (by omega)
  generalize ho : patOb 5 ((l.length + 2) * 1) (mkV (.int .u8 0)).cells = o at *
  have hw : (h.new o).wr h.next (l.length + 2) := by
    have := wr_new (h := h) (o := o) (by rw [← ho]; rfl)
    rw [show o.n = l.length + 2 by rw [← ho]; exact Nat.mul_one _] at this
    exact this
  have i0 := ixS_sl (s := 1) (k := h.next) (off := 0) (len := l.length + 2) (lo := 0) (cap := some (l.length + 2)) (kd := .i64) (i := 0) (by omega) (by omega)
  have i1 := ixS_sl (s := 1) (k := h.next) (off := 0) (len := l.length + 2) (lo := 0) (cap := some (l.length + 2)) (kd := .i64) (i := ((l.length + 1 : Nat) : Int)) (by omega) (by omega)
  rw [Int.toNat_natCast, Nat.mul_one, Nat.zero_add] at i1
  have st0 := st_ptr (n := 1) (off := 0) (y := .int .u8 165) hw rfl (by omega) rfl
  have hc0 : (SV.int .u8 165).cells = [.int .u8 165] := rfl
  rw [hc0] at st0
  have hw2 : ((h.new o).set h.next 0 [.int .u8 165]).wr h.next (l.length + 2) := wr_set hw
  have st1 := st_ptr (n := 1) (off := l.length + 1) (y := .int .u8 90) hw2 rfl (by omega) rfl
  have hc1 : (SV.int .u8 90).cells = [.int .u8 90] := rfl
  rw [hc1] at st1
  generalize hg : ((h.new o).set h.next 0 [.int .u8 165]).set h.next (l.length + 1) [.int .u8 90] = g at *
  have ng : g.next = h.next + 1 := by rw [← hg, set_next, set_next, new_next]
  have wg : g.wr h.next (l.length + 2) := by rw [← hg]; exact wr_set hw2
  have F : Frm h g (fun _ => False) := by
    rw [← hg]
    exact ⟨by simp, by simp, fun j hj _ => (set_other _ _ _ (by omega)).trans ((set_other _ _ _ (by omega)).trans (new_other h _ (by omega))), fun hf => fresh_set (fresh_set (fresh_new hf _) _ _ _) _ _ _⟩
  have Bg : Bytes g x l := B.frame fun kb ob len cap lo e => F.same kb (hx kb (by rw [e]; rfl)) (fun e => e)
  have hsl := slice_mid (P := Tryd.prog) (t := 24) (k := h.next) (n := l.length) Tryd.underlying24 (by kernel_rfl)
  obtain ⟨h', l1, l2, l3, l4, l5, l6, l7⟩ := lend_loop (lf := lf) (C := C) (k := h.next) (x := x) (h0 := g) hl Bg (fun j hj => by have := hx j hj; omega) (fun x0 x4 h => q69_8 C lf ff69 x0 x4 h) l.length 0 (by omega) lf (by omega) g wg
    (by rw [← hg, cell_set_off (.inr (by simp)), cell_set_same hw (by simp) (Nat.le_refl _) (by simp)]; rfl)
    (by rw [← hg, cell_set_same hw2 (by simp) (Nat.le_refl _) (by simp)]; simp) (fun j hj => by omega) (Frm.refl _ _) rfl
  refine ⟨h', ?_, ⟨l2, l3, l4, l5, by omega⟩, ⟨l6.ng.trans F.ng, by omega, fun j hj hs => (l6.same j (by omega) (by omega)).trans (F.same j hj hs), fun hf => l6.fr (F.fr hf)⟩, by omega⟩
  unfold fs69 q69_48 q69_47 q69_46 q69_45 q69_40 q69_39 q69_29 q69_28 q69_27
  have i0' : ixS 1 (.sl h.next 0 (l.length + 2) (some (l.length + 2)) 0) (.int .i64 0) = some (.ptr h.next 0) := i0
  simp only [ob_some, b2_some, bc_ret, bcn_ret, gd_tt, gd_ff, gd_tf, gd_ft, ypk_true, ypk_false, yIf_true, yIf_false, semNil_ptr, fa_ptr, ld1_ptr, ext_tup, fd1_agg, un_not, bin_add, bin_sub, bin_mul, bin_eql, bin_neq, bin_lss, bin_leq, bin_gtr, bin_geq, Nat.zero_add, Nat.mul_one, hlen, e2, hmk, e1, i0', st0, i1, st1]
  refine Eq.trans l1 ?_
  unfold q69_8 ff69
  simp only [ob_some, b2_some, bc_ret, bcn_ret, gd_tt, gd_ff, gd_tf, gd_ft, ypk_true, ypk_false, yIf_true, yIf_false, semNil_ptr, fa_ptr, ld1_ptr, ext_tup, fd1_agg, un_not, bin_add, bin_sub, bin_mul, bin_eql, bin_neq, bin_lss, bin_leq, bin_gtr, bin_geq, Nat.zero_add, Nat.mul_one, hlen, e1, hsl]

/-! Kept. -/
def KeptOK (C : YC) : Prop := ∀ h k x l, Whole h k l → Bytes h x l → l.length ≤ 140737488351232 → C (.fn 71) [wholeX k l.length, x] h = some (.ret (.bool true), h)
theorem Whole.bytes {k : Nat} {l : List Nat} (W : Whole h k l) (hb : ∀ c ∈ l, c < 256) : Bytes h (lentX k l.length) l := by
  obtain ⟨mm, hm, _⟩ := W.w
  exact ⟨hb, .inr ⟨k, 1, _, 0, mm, rfl, hm, W.cs⟩⟩
theorem kept_ok {C : YC} {k : Nat} {x : SV} {l : List Nat} (W : Whole h k l) (B : Bytes h x l) (hl : l.length ≤ 140737488351232) : fs71 C lf (wholeX k l.length) x h = some (.ret (.bool true), h) := by
  have hlen := len_bytes (P := Tryd.prog) Tryd.underlying24 B
  have hlw : lenE Tryd.prog 24 (wholeX k l.length) = some (.int .i64 ((l.length + 2 : Nat) : Int)) := lenE_sl Tryd.underlying24
  have e2 : IntKind.i64.wrap ((l.length : Int) + 2) = ((l.length + 2 : Nat) : Int) := by rw [wrap_i64 (by omega) (by omega)]; omega
  have e1 : IntKind.i64.wrap ((l.length : Int) + 1) = ((l.length + 1 : Nat) : Int) := by rw [wrap_i64 (by omega) (by omega)]; omega
  have i0 : ixS 1 (wholeX k l.length) (.int .i64 0) = some (.ptr k 0) := ixS_sl (s := 1) (k := k) (off := 0) (len := l.length + 2) (lo := 0) (cap := some (l.length + 2)) (kd := .i64) (i := 0) (by omega) (by omega)
  have i1 := ixS_sl (s := 1) (k := k) (off := 0) (len := l.length + 2) (lo := 0) (cap := some (l.length + 2)) (kd := .i64) (i := ((l.length + 1 : Nat) : Int)) (by omega) (by omega)
  rw [Int.toNat_natCast, Nat.mul_one, Nat.zero_add] at i1
  have i1' : ixS 1 (wholeX k l.length) (.int .i64 ((l.length + 1 : Nat) : Int)) = some (.ptr k (l.length + 1)) := i1
  have hsl := slice_mid (P := Tryd.prog) (t := 24) (k := k) (n := l.length) Tryd.underlying24 (by kernel_rfl)
  have v1 := ycv_bytes (P := Tryd.prog) (s := 24) (d := 9) Tryd.underlying24 Tryd.underlying9 (by kernel_rfl) (W.bytes B.1)
  have v2 := ycv_bytes (P := Tryd.prog) (s := 24) (d := 9) Tryd.underlying24 Tryd.underlying9 (by kernel_rfl) B
  have d1 : decide (((l.length + 2 : Nat) : Int) = ((l.length + 2 : Nat) : Int)) = true := by simp
  have d2 : decide ((165 : Int) = 165) = true := rfl
  have d3 : decide ((90 : Int) = 90) = true := rfl
  have d4 : decide (u8str l = u8str l) = true := by simp
  unfold fs71 q71_50 ff71
  simp only [ob_some, b2_some, bc_ret, bcn_ret, gd_tt, gd_ff, gd_tf, gd_ft, ypk_true, ypk_false, yIf_true, yIf_false, semNil_ptr, fa_ptr, ld1_ptr, ext_tup, fd1_agg, un_not, bin_add, bin_sub, bin_mul, bin_eql, bin_neq, bin_lss, bin_leq, bin_gtr, bin_geq, Nat.zero_add, Nat.mul_one, hlw, hlen, e2, d1, decide_true, i0, W.c0, e1, i1', W.c1, hsl, v1, v2, bin_eql_str]
end
end Go.Proofs.YtomialandfplkaaDoor.Eva
namespace Go.Proofs.YtomialandfplkaaDoor.Eva
open Go.Xe
set_option linter.unusedSimpArgs false

/-- Rounds enough for any loop over what lies in memory. -/
@[irreducible] def LF : Nat := 2 ^ 64
theorem le_LF {n : Nat} (h : n ≤ 2 ^ 64) : n ≤ LF := by unfold LF; exact h
theorem call_fn {P : Program} {tab : Tr (YE P)} {lf n k : Nat} {y : YX P} {f : FuncId} {args : List SV} {h : HW} (hk : k = n + 1) (hy : y.x.f = f) (hg : getP (path f) tab = some (.fn y)) : (runY tab lf k).call (.fn f) args h = y.s (runY tab lf n).call lf args h := by
  subst hk
  have : (runY tab lf (n + 1)).call (.fn f) args h = runE (runY tab lf n) lf f args h (getP (path f) tab) := rfl
  rw [this, hg]
  simp only [runE, hy, Nat.beq_refl, cond_true]
noncomputable def tabLC {P : Program} : List (FuncId × YE P) → Tr (YE P)
  | [] => .nil
  | (f, x) :: xs => (tabLC xs).put f x
noncomputable def tabC : Tr (YE Tryd.prog) := tabLC [(64, .fn fy64), (63, .fn fy63), (33, .fn fy33), (23, .fn fy23), (16, .fn fy16), (17, .fn fy17), (21, .fn fy21), (18, .fn fy18), (65, .fn fy65), (19, .fn fy19), (20, .fn fy20), (22, .fn fy22)]
theorem tabC_64 : getP (path 64) tabC = some (.fn fy64) := by kernel_rfl
theorem tabC_63 : getP (path 63) tabC = some (.fn fy63) := by kernel_rfl
theorem tabC_33 : getP (path 33) tabC = some (.fn fy33) := by kernel_rfl
theorem tabC_23 : getP (path 23) tabC = some (.fn fy23) := by kernel_rfl
theorem tabC_16 : getP (path 16) tabC = some (.fn fy16) := by kernel_rfl
theorem tabC_17 : getP (path 17) tabC = some (.fn fy17) := by kernel_rfl
theorem tabC_21 : getP (path 21) tabC = some (.fn fy21) := by kernel_rfl
theorem tabC_18 : getP (path 18) tabC = some (.fn fy18) := by kernel_rfl
theorem tabC_65 : getP (path 65) tabC = some (.fn fy65) := by kernel_rfl
theorem tabC_19 : getP (path 19) tabC = some (.fn fy19) := by kernel_rfl
theorem tabC_20 : getP (path 20) tabC = some (.fn fy20) := by kernel_rfl
theorem tabC_22 : getP (path 22) tabC = some (.fn fy22) := by kernel_rfl
theorem tabC_s64 {C : YC} {lf : Nat} {a0 : SV} {h : HW} : fy64.s C lf [a0] h = fs64 C lf a0 h := by kernel_rfl
theorem tabC_s63 {C : YC} {lf : Nat} {a0 : SV} {h : HW} : fy63.s C lf [a0] h = fs63 C lf a0 h := by kernel_rfl
theorem tabC_s33 {C : YC} {lf : Nat} {a0 a1 : SV} {h : HW} : fy33.s C lf [a0, a1] h = fs33 C lf a0 a1 h := by kernel_rfl
theorem tabC_s23 {C : YC} {lf : Nat} {a0 a1 : SV} {h : HW} : fy23.s C lf [a0, a1] h = fs23 C lf a0 a1 h := by kernel_rfl
theorem tabC_s16 {C : YC} {lf : Nat} {a0 : SV} {h : HW} : fy16.s C lf [a0] h = fs16 C lf a0 h := by kernel_rfl
theorem tabC_s17 {C : YC} {lf : Nat} {a0 : SV} {h : HW} : fy17.s C lf [a0] h = fs17 C lf a0 h := by kernel_rfl
theorem tabC_s21 {C : YC} {lf : Nat} {a0 a1 : SV} {h : HW} : fy21.s C lf [a0, a1] h = fs21 C lf a0 a1 h := by kernel_rfl
theorem tabC_s18 {C : YC} {lf : Nat} {a0 a1 a2 a3 : SV} {h : HW} : fy18.s C lf [a0, a1, a2, a3] h = fs18 C lf a0 a1 a2 a3 h := by kernel_rfl
theorem tabC_s65 {C : YC} {lf : Nat} {a0 : SV} {h : HW} : fy65.s C lf [a0] h = fs65 C lf a0 h := by kernel_rfl
theorem tabC_s19 {C : YC} {lf : Nat} {a0 : SV} {h : HW} : fy19.s C lf [a0] h = fs19 C lf a0 h := by kernel_rfl
theorem tabC_s20 {C : YC} {lf : Nat} {a0 : SV} {h : HW} : fy20.s C lf [a0] h = fs20 C lf a0 h := by kernel_rfl
theorem tabC_s22 {C : YC} {lf : Nat} {a0 a1 : SV} {h : HW} : fy22.s C lf [a0, a1] h = fs22 C lf a0 a1 h := by kernel_rfl
theorem tabC_TzOK (m : Nat) : TzOK (runY tabC LF (m + 1)).call := by
  unfold TzOK; intros; simp only [call_fn (tab := tabC) (lf := LF) (n := m + 0) (k := m + 1) (y := fy64) (f := 64) rfl rfl tabC_64]; simp only [tabC_s64]
  apply tz_ok (C := (runY tabC LF (m + 0)).call) (lf := LF)   <;> assumption
theorem tabC_MadeOK (m : Nat) : MadeOK (runY tabC LF (m + 1)).call := by
  unfold MadeOK; intros; simp only [call_fn (tab := tabC) (lf := LF) (n := m + 0) (k := m + 1) (y := fy63) (f := 63) rfl rfl tabC_63]; simp only [tabC_s63]
  apply made_ok (C := (runY tabC LF (m + 0)).call) (lf := LF)   <;> assumption
theorem tabC_IsOK (m : Nat) : IsOK (runY tabC LF (m + 2)).call := by
  unfold IsOK; intros; simp only [call_fn (tab := tabC) (lf := LF) (n := m + 1) (k := m + 2) (y := fy33) (f := 33) rfl rfl tabC_33]; simp only [tabC_s33]
  apply is_ok (C := (runY tabC LF (m + 1)).call) (lf := LF)  (tabC_MadeOK (m + 0)) <;> assumption
theorem tabC_FreeOK (m : Nat) : FreeOK (runY tabC LF (m + 3)).call := by
  unfold FreeOK; intros; simp only [call_fn (tab := tabC) (lf := LF) (n := m + 2) (k := m + 3) (y := fy23) (f := 23) rfl rfl tabC_23]; simp only [tabC_s23]
  apply free_ok (C := (runY tabC LF (m + 2)).call) (lf := LF)  (tabC_MadeOK (m + 1)) (tabC_IsOK (m + 0)) <;> assumption
theorem tabC_NewOK (m : Nat) : NewOK (runY tabC LF (m + 1)).call := by
  unfold NewOK; intros; simp only [call_fn (tab := tabC) (lf := LF) (n := m + 0) (k := m + 1) (y := fy16) (f := 16) rfl rfl tabC_16]; simp only [tabC_s16]
  apply new_ok (C := (runY tabC LF (m + 0)).call) (lf := LF)   <;> assumption
theorem tabC_AllocOK (m : Nat) : AllocOK (runY tabC LF (m + 2)).call := by
  unfold AllocOK; intros; simp only [call_fn (tab := tabC) (lf := LF) (n := m + 1) (k := m + 2) (y := fy17) (f := 17) rfl rfl tabC_17]; simp only [tabC_s17]
  apply alloc_ok (C := (runY tabC LF (m + 1)).call) (lf := LF) (le_LF (by omega)) (tabC_MadeOK (m + 0)) (tabC_TzOK (m + 0)) <;> assumption
theorem tabC_ReadOK (m : Nat) : ReadOK (runY tabC LF (m + 3)).call := by
  unfold ReadOK; intros; simp only [call_fn (tab := tabC) (lf := LF) (n := m + 2) (k := m + 3) (y := fy21) (f := 21) rfl rfl tabC_21]; simp only [tabC_s21]
  apply read_ok (C := (runY tabC LF (m + 2)).call) (lf := LF)  (tabC_MadeOK (m + 1)) (tabC_IsOK (m + 0)) <;> assumption
theorem tabC_WriteOK (m : Nat) : WriteOK (runY tabC LF (m + 3)).call := by
  unfold WriteOK; intros; simp only [call_fn (tab := tabC) (lf := LF) (n := m + 2) (k := m + 3) (y := fy18) (f := 18) rfl rfl tabC_18]; simp only [tabC_s18]
  apply write_ok (C := (runY tabC LF (m + 2)).call) (lf := LF)  (tabC_MadeOK (m + 1)) (tabC_IsOK (m + 0)) <;> assumption
theorem tabC_OnesOK (m : Nat) : OnesOK (runY tabC LF (m + 1)).call := by
  unfold OnesOK; intros; simp only [call_fn (tab := tabC) (lf := LF) (n := m + 0) (k := m + 1) (y := fy65) (f := 65) rfl rfl tabC_65]; simp only [tabC_s65]
  apply ones_ok (C := (runY tabC LF (m + 0)).call) (lf := LF)   <;> assumption
theorem tabC_LeftOK (m : Nat) : LeftOK (runY tabC LF (m + 2)).call := by
  unfold LeftOK; intros; simp only [call_fn (tab := tabC) (lf := LF) (n := m + 1) (k := m + 2) (y := fy19) (f := 19) rfl rfl tabC_19]; simp only [tabC_s19]
  apply left_ok (C := (runY tabC LF (m + 1)).call) (lf := LF) (le_LF (by omega)) (tabC_MadeOK (m + 0)) (tabC_OnesOK (m + 0)) <;> assumption
theorem tabC_UsedOK (m : Nat) : UsedOK (runY tabC LF (m + 3)).call := by
  unfold UsedOK; intros; simp only [call_fn (tab := tabC) (lf := LF) (n := m + 2) (k := m + 3) (y := fy20) (f := 20) rfl rfl tabC_20]; simp only [tabC_s20]
  apply used_ok (C := (runY tabC LF (m + 2)).call) (lf := LF) (le_LF (by omega)) (tabC_MadeOK (m + 1)) (tabC_IsOK (m + 0)) <;> assumption
theorem tabC_SameOK (m : Nat) : SameOK (runY tabC LF (m + 1)).call := by
  unfold SameOK; intros; simp only [call_fn (tab := tabC) (lf := LF) (n := m + 0) (k := m + 1) (y := fy22) (f := 22) rfl rfl tabC_22]; simp only [tabC_s22]
  apply same_ok (C := (runY tabC LF (m + 0)).call) (lf := LF)   <;> assumption
end Go.Proofs.YtomialandfplkaaDoor.Eva
namespace Go.Proofs.YtomialandfplkaaDoor.Eva
open Go.Xe
set_option maxRecDepth 100000
set_option linter.unusedVariables false
noncomputable def fx15 : XF Tryd.prog := ⟨15, Tryd.f15, fun _ => .text, Tryd.func15, by kernel_rfl, by kernel_rfl, by kernel_rfl, by kernel_rfl⟩
noncomputable def ff15 (x0 : O) (h : HW) : Rs :=
 ob x0 fun a0 =>
 some (.ret a0, h)
noncomputable def q15_47 (C : YC) (lf : Nat) (r : K1) (h : HW) : Rs :=
 bc (C (.fn 16) [(.int .i64 2)] h) fun y1 h1 =>
 ob (ext 0 y1) fun y2 =>
 ob (ext 1 y1) fun y3 =>
 ob (bin Tryd.prog .neq 26 y3 (.int .i64 0)) fun y4 =>
 bc (gd false (some y4) (some (.ret y2, h1)) h1) fun y5 h5 =>
 bc (gd false (some y4) (ob (bin Tryd.prog .eql 25 y5 (.val (.pointer none))) fun y6 =>
 some (.ret y6, h5)) h5) fun y7 h7 =>
 ob (ypk y4 (.bool true) y7) fun y8 =>
 yIf y8
 (r (some (.bool false)) h7)
 (bc (C (.fn 17) [y2] h7) fun y9 h9 =>
 ob (ext 0 y9) fun y10 =>
 ob (ext 1 y9) fun y11 =>
 bc (C (.fn 17) [y2] h9) fun y12 h12 =>
 ob (ext 0 y12) fun y13 =>
 ob (ext 1 y12) fun y14 =>
 bc (C (.fn 17) [y2] h12) fun y15 h15 =>
 ob (ext 0 y15) fun y16 =>
 ob (ext 1 y15) fun y17 =>
 ob (bin Tryd.prog .eql 3 y10 (.int .i64 0)) fun y18 =>
 bc (gd true (some y18) (some (.ret y13, h15)) h15) fun y19 h19 =>
 bc (gd true (some y18) (ob (bin Tryd.prog .eql 3 y19 (.int .i64 1)) fun y20 =>
 some (.ret y20, h19)) h19) fun y21 h21 =>
 ob (ypk y18 y21 (.bool false)) fun y22 =>
 bc (gd true (some y22) (some (.ret y11, h21)) h21) fun y23 h23 =>
 bc (gd true (some y22) (ob (bin Tryd.prog .eql 26 y23 (.int .i64 0)) fun y24 =>
 some (.ret y24, h23)) h23) fun y25 h25 =>
 ob (ypk y22 y25 (.bool false)) fun y26 =>
 bc (gd true (some y26) (some (.ret y14, h25)) h25) fun y27 h27 =>
 bc (gd true (some y26) (ob (bin Tryd.prog .eql 26 y27 (.int .i64 0)) fun y28 =>
 some (.ret y28, h27)) h27) fun y29 h29 =>
 ob (ypk y26 y29 (.bool false)) fun y30 =>
 bc (gd true (some y30) (some (.ret y17, h29)) h29) fun y31 h31 =>
 bc (gd true (some y30) (ob (bin Tryd.prog .eql 26 y31 (.int .i64 28)) fun y32 =>
 some (.ret y32, h31)) h31) fun y33 h33 =>
 ob (ypk y30 y33 (.bool false)) fun y34 =>
 bc (gd true (some y34) (some (.ret y2, h33)) h33) fun y35 h35 =>
 bc (gd true (some y34) (bc (C (.fn 23) [y35, (.int .i64 0)] h35) fun y36 h36 =>
 some (.ret y36, h36)) h35) fun y37 h37 =>
 bc (gd true (some y34) (ob (bin Tryd.prog .eql 26 y37 (.int .i64 0)) fun y38 =>
 some (.ret y38, h37)) h37) fun y39 h39 =>
 ob (ypk y34 y39 (.bool false)) fun y40 =>
 bc (gd true (some y40) (some (.ret y2, h39)) h39) fun y41 h41 =>
 bc (gd true (some y40) (bc (C (.fn 19) [y41] h41) fun y42 h42 =>
 some (.ret y42, h42)) h41) fun y43 h43 =>
 bc (gd true (some y40) (ob (bin Tryd.prog .eql 3 y43 (.int .i64 1)) fun y44 =>
 some (.ret y44, h43)) h43) fun y45 h45 =>
 ob (ypk y40 y45 (.bool false)) fun y46 =>
 r (some y46) h45)
theorem q15_47_eq (C : YC) (lf : Nat) (r : K1) (KN : KF) (KE : KX) : ∀ F h, evX fx15 C lf [] F h KN (fun F h => r (F 0) h) KE = q15_47 C lf r h := by
  intro F h; kernel_rfl
noncomputable def fs15 (C : YC) (lf : Nat) (h : HW) : Rs := q15_47 C lf ff15 h
theorem fs15_eq (C : YC) (lf : Nat) (h : HW) : yFn Tryd.prog fx15 C lf [] h = fs15 C lf h := fnX (K := (fun F h => ff15 (F 0) h)) (by kernel_rfl) (((q15_47_eq C lf ff15 (fun F h => ff15 (F 0) h) (fun _ _ _ => none)) _ h).trans (by kernel_rfl))
noncomputable def fy15 : YX Tryd.prog := Y0 fx15 fs15 fs15_eq (by kernel_rfl)

end Go.Proofs.YtomialandfplkaaDoor.Eva
namespace Go.Proofs.YtomialandfplkaaDoor.Eva
open Go.ChangeShapes Go.WideShapes Go.ChangeAt Go.RowKit Go.Xe

noncomputable def tabL {P : Program} : List (FuncId × YE P) → Tr (YE P)
  | [] => .nil
  | (f, x) :: xs => (tabL xs).put f x
noncomputable def tab : Tr (YE Tryd.prog) := tabL [(16, .fn fy16), (17, .fn fy17), (19, .fn fy19), (23, .fn fy23), (33, .fn fy33), (63, .fn fy63), (64, .fn fy64), (65, .fn fy65), (15, .fn fy15)]
def zs : List Int := [0, 1, 56, 2, 57, 49, 28, 3, 61, 58, 42, 50, 38, 29, 17, 4, 62, 47, 59, 36, 45, 43, 51, 22, 53, 39, 33, 30, 24, 18, 12, 5, 63, 55, 48, 27, 60, 41, 37, 16, 46, 35, 44, 21, 52, 32, 23, 11, 54, 26, 40, 15, 34, 20, 31, 10, 25, 14, 19, 9, 13, 8, 7, 6]
theorem mixed : Tryd.prog.follows .mixedOrders = true := by kernel_rfl
theorem laidOut : laidOutB Tryd.prog = true := by kernel_rfl
theorem own : ownKnob Tryd.prog.godebug = none := by kernel_rfl
theorem gTab : Tryd.prog.globalNamed "math/bits.deBruijn64tab" = some 0 := by kernel_rfl
theorem gTabType : (Tryd.prog.globals[0]?).map (·.type) = some 110 := by kernel_rfl
theorem cellsArr : Tryd.prog.cellsOf 110 = 64 := by kernel_rfl
theorem cellsEl : Tryd.prog.cellsOf 5 = 1 := by kernel_rfl
theorem table {W : World} (h : laidMetH Tryd.prog [("math/bits.deBruijn64tab", Rows.laid_math_bits_deBruijn64tab)] W) : Lib.TabIs Tryd.prog W "math/bits.deBruijn64tab" .u8 zs :=
  Lib.tabIs_of_head (rest := []) gTab gTabType Tryd.underlying110 Tryd.underlying5 cellsEl cellsArr h
noncomputable def objs : Hp := tabObjs 0 110 64 (zs.map (.int .u8))
theorem startT {W : World} (h : laidMetH Tryd.prog [("math/bits.deBruijn64tab", Rows.laid_math_bits_deBruijn64tab)] W) : Go.Xe.Start (0 + 1) objs W :=
  start_tab (fun i hi => (table h).cell gTab i hi) (by decide)
noncomputable def laidWorld (os : Os) : World :=
  { World.holding Tryd.prog os ⟨#[], #[], []⟩ with heap := (World.holding Tryd.prog os ⟨#[], #[], []⟩).heap.modify 0 fun
      | .cells _ t frozen => .cells #[.int .u8 0, .int .u8 1, .int .u8 56, .int .u8 2, .int .u8 57, .int .u8 49, .int .u8 28, .int .u8 3, .int .u8 61, .int .u8 58, .int .u8 42, .int .u8 50, .int .u8 38, .int .u8 29, .int .u8 17, .int .u8 4, .int .u8 62, .int .u8 47, .int .u8 59, .int .u8 36, .int .u8 45, .int .u8 43, .int .u8 51, .int .u8 22, .int .u8 53, .int .u8 39, .int .u8 33, .int .u8 30, .int .u8 24, .int .u8 18, .int .u8 12, .int .u8 5, .int .u8 63, .int .u8 55, .int .u8 48, .int .u8 27, .int .u8 60, .int .u8 41, .int .u8 37, .int .u8 16, .int .u8 46, .int .u8 35, .int .u8 44, .int .u8 21, .int .u8 52, .int .u8 32, .int .u8 23, .int .u8 11, .int .u8 54, .int .u8 26, .int .u8 40, .int .u8 15, .int .u8 34, .int .u8 20, .int .u8 31, .int .u8 10, .int .u8 25, .int .u8 14, .int .u8 19, .int .u8 9, .int .u8 13, .int .u8 8, .int .u8 7, .int .u8 6] t frozen
      | o => o }
end Go.Proofs.YtomialandfplkaaDoor.Eva
namespace Go.Proofs.YtomialandfplkaaDoor.Eva
open Go.Xe
set_option maxRecDepth 100000 in
theorem livesK : saysY ((runY tab 100000 1000).call (.ent 15) [] ⟨1, 1, objs⟩) = true := by kernel_rfl
theorem saysY_spec {r : Rs} (h : saysY r = true) : ∃ h', r = some (.ret (.bool true), h') := by
  unfold saysY at h
  split at h
  · exact ⟨_, rfl⟩
  · cases h
noncomputable def conG : List SV → Option SV
  | [] => some (.bool true)
  | _ => none
noncomputable def conLives : Con Tryd.prog := conOf (tab := tab) (lf := 100000) (fuel := 1000) mixed 0 110 64 .u8 zs (by decide) 15 conG
  (fun args y h => by
    cases args with
    | nil => cases h; exact ⟨rfl, rfl⟩
    | cons a l => cases h)
  (fun args y h => by
    cases args with
    | nil =>
      cases h
      exact saysY_spec livesK
    | cons a l => cases h)
noncomputable def cons : List (Con Tryd.prog) := [conLives]
theorem con_lives {C : YC} {h : HW} (ht : hasTab 0 .u8 zs h = true) : conY cons C (.fn 15) [] h = some (.ret (.bool true), h) := by
  have h1 : conF cons 15 = some conLives := rfl
  have h2 : conLives.g [] h = some (.bool true) := by
    show (bif hasTab 0 .u8 zs h then conG [] else none) = _
    rw [ht]; rfl
  simp only [conY, h1, h2]
theorem con_other {C : YC} {f : Nat} (hf : Nat.beq 15 f = false) (args : List SV) (h : HW) : conY cons C (.fn f) args h = C (.fn f) args h := by
  have h1 : conF cons f = none := by
    show (bif Nat.beq 15 f then some conLives else none) = none
    rw [hf]; rfl
  simp only [conY, h1]
end Go.Proofs.YtomialandfplkaaDoor.Eva
namespace Go.Proofs.YtomialandfplkaaDoor.Eva
open Go.Xe
set_option linter.unusedSimpArgs false

section
variable {C : YC} {lf : Nat}
theorem onB_put {wd : Nat → Nat} {i j : Nat} : onB (upd wd (i / 64) (put1 (wd (i / 64)) (i % 64))) j = (onB wd j || decide (j = i)) := by
  rw [onB_upd]
  by_cases e : j / 64 = i / 64
  · rw [if_pos e, put1_bit]
    have : (j % 64 = i % 64) ↔ j = i := by omega
    simp only [onB, e, this]
  · rw [if_neg e]
    have : j ≠ i := fun h => e (by rw [h])
    simp [this]
theorem onB_clr {wd : Nat → Nat} {i j : Nat} (hw : wd (i / 64) < 2 ^ 64) : onB (upd wd (i / 64) (clr (wd (i / 64)) (i % 64))) j = (onB wd j && decide (j ≠ i)) := by
  rw [onB_upd]
  by_cases e : j / 64 = i / 64
  · rw [if_pos e, clr_bit hw (by omega)]
    have : (j % 64 ≠ i % 64) ↔ j ≠ i := by omega
    simp only [onB, e, this]
  · rw [if_neg e]
    have : j ≠ i := fun h => e (by rw [h])
    simp [this]
theorem TabAt.frm {h h' : HW} {S : Nat → Prop} (T : TabAt h) (F : Frm h h' S) (hn : 0 < h.next) (hs : ¬ S 0) : TabAt h' :=
  ⟨by rw [F.ng]; exact T.1, fun i hi => by rw [(F.same _ hn hs).cell]; exact T.2 i hi⟩
theorem tabAt_of {h : HW} (ht : hasTab 0 .u8 zs h = true) : TabAt h := by
  obtain ⟨h1, _, h2⟩ := hasTab_cell ht
  refine ⟨h1, fun i hi => ?_⟩
  have e : ∀ i, i < 64 → zs.getD i 0 = ((Lib.deBruijn64tab.getD i 0 : Nat) : Int) := by decide
  rw [h2 i hi, e i hi]
theorem take_loop (hA : AllocOK C) {h0 : HW} {k dk n K : Nat} {x : SV} (hK : K < n) (hn : n ≤ 4096) (hg : 0 < h0.next) (hgk : k ≠ 0) (hgd : dk ≠ 0) (r : K1) (e0 : K4) :
    ∀ (d i : Nat), i + d = K + 1 → ∀ f, d < f → ∀ h wd b, StoreAt h k dk n wd b → TabAt h → (∀ j, onB wd j = decide (j < i)) → (∀ j, b j = 0) → Frm h0 h (fun j => j = k ∨ j = dk) →
      ∃ h' wd' b', lp (l4_91 C lf r e0) f (some x, some (.int .i64 (n : Int)), some (.ptr k 0), some (.int .i64 (K : Int)), some (.int .i64 (i : Int))) h = e0 (some x) (some (.int .i64 (n : Int))) (some (.ptr k 0)) (some (.int .i64 (K : Int))) h' ∧
        StoreAt h' k dk n wd' b' ∧ TabAt h' ∧ (∀ j, onB wd' j = decide (j < K + 1)) ∧ (∀ j, b' j = 0) ∧ Frm h0 h' (fun j => j = k ∨ j = dk)
  | 0, i, hw, f, hf, h, wd, b, S, T, on, hb, F => by
    obtain ⟨f, rfl⟩ : ∃ g, f = g + 1 := ⟨f - 1, by omega⟩
    have : i = K + 1 := by omega
    subst this
    refine ⟨h, wd, b, ?_, S, T, on, hb, F⟩
    rw [lp_succ]
    unfold l4_91 q4_107
    have hlt : decide (((K + 1 : Nat) : Int) ≤ (K : Int)) = false := decide_eq_false (by omega)
    simp only [ob_some, b2_some, bc_ret, bcn_ret, gd_tt, gd_ff, gd_tf, gd_ft, ypk_true, ypk_false, yIf_true, yIf_false, semNil_ptr, fa_ptr, ld1_ptr, ext_tup, fd1_agg, un_not, bin_add, bin_sub, bin_mul, bin_eql, bin_neq, bin_lss, bin_leq, bin_gtr, bin_geq, Nat.zero_add, Nat.mul_one, hlt]
  | d + 1, i, hw, f, hf, h, wd, b, S, T, on, hb, F => by
    obtain ⟨f, rfl⟩ : ∃ g, f = g + 1 := ⟨f - 1, by omega⟩
    have hlt : decide ((i : Int) ≤ (K : Int)) = true := decide_eq_true (by omega)
    have hinc : IntKind.i64.wrap ((i : Int) + 1) = ((i + 1 : Nat) : Int) := by rw [wrap_i64 (by omega) (by omega)]; omega
    obtain ⟨h', a1, a2, a3⟩ := (hA h k dk n wd b S T).2 i (by omega) (by rw [on]; simp) (fun j hj => by rw [on]; simp [hj])
    have F' := F.trans a3
    have T' := T.frm a3 (Nat.lt_of_lt_of_le hg F.next) (fun e => by rcases e with e | e <;> omega)
    rw [lp_succ]
    show ∃ h' wd' b', q4_107 C lf (fun x2 x7 x8 x10 x11 h => lp (l4_91 C lf r e0) f (x2, x7, x8, x10, x11) h) r e0 (some x) (some (.int .i64 (n : Int))) (some (.ptr k 0)) (some (.int .i64 (K : Int))) (some (.int .i64 (i : Int))) h = _ ∧ _
    have hne : decide ((i : Int) ≠ (i : Int)) = false := by simp
    have hne0 : decide ((0 : Int) ≠ 0) = false := by simp
    unfold q4_107
    simp only [ob_some, b2_some, bc_ret, bcn_ret, gd_tt, gd_ff, gd_tf, gd_ft, ypk_true, ypk_false, yIf_true, yIf_false, semNil_ptr, fa_ptr, ld1_ptr, ext_tup, fd1_agg, un_not, bin_add, bin_sub, bin_mul, bin_eql, bin_neq, bin_lss, bin_leq, bin_gtr, bin_geq, Nat.zero_add, Nat.mul_one, hlt, a1, List.getElem?_cons_zero, List.getElem?_cons_succ, hne, hne0, hinc]
    refine take_loop hA hK hn hg hgk hgd r e0 d (i + 1) (by omega) f (by omega) h' _ _ a2 T' (fun j => ?_) (fun j => ?_) F'
    · rw [onB_put, on]
      by_cases e : j = i
      · subst e; simp
      · by_cases e2 : j < i
        · simp [e2, Nat.lt_succ_of_lt e2]
        · have : ¬ j < i + 1 := by omega
          simp [e, e2, this]
    · unfold zero64; split
      · rfl
      · exact hb j
end
end Go.Proofs.YtomialandfplkaaDoor.Eva
namespace Go.Proofs.YtomialandfplkaaDoor.Eva
open Go.Xe
set_option linter.unusedSimpArgs false

section
variable {C : YC} {lf : Nat}
theorem neF : decide ((0 : Int) ≠ 0) = false := by simp
theorem read_bytes {h : HW} {kb : Nat} {f : Nat → Nat} (hf : ∀ j, f j < 256) (hw : h.wr kb 64) (hc : ∀ j, j < 64 → h.cell kb j = some (.int .u8 (f j : Int))) : Bytes h (.sl kb 0 64 (some 64) 0) ((List.range 64).map f) := by
  obtain ⟨m, hm, _⟩ := hw
  refine ⟨fun c hc => ?_, .inr ⟨kb, 0, some 64, 0, m, by simp, hm, fun j hj => ?_⟩⟩
  · obtain ⟨j, _, rfl⟩ := List.mem_map.1 hc
    exact hf j
  · have hj : j < 64 := by simpa using hj
    rw [Nat.zero_add, hc j hj]
    simp [List.getD, hj]
/-- The calls of blocks that have their contracts. -/
structure BlocksOK (C : YC) : Prop where
  new : NewOK C
  alloc : AllocOK C
  free : FreeOK C
  read : ReadOK C
  write : WriteOK C
  left : LeftOK C
  used : UsedOK C
  same : SameOK C
theorem quo2 {K : Nat} (hK : K ≤ 4096) {t : TypeId} : bin Tryd.prog .quo t (.int .i64 (K : Int)) (.int .i64 2) = some (.int .i64 ((K / 2 : Nat) : Int)) := by
  rw [bin_quo (by decide)]
  have : (K : Int).tdiv 2 = ((K / 2 : Nat) : Int) := by rw [Int.tdiv_eq_ediv_of_nonneg (by omega)]; omega
  rw [this, wrap_i64 (by omega) (by omega)]
theorem back_tail (H : BlocksOK C) {h : HW} {k dk n K : Nat} {wd b : Nat → Nat} {x : SV} {l : List Nat} (S : StoreAt h k dk n wd b) (T : TabAt h) (hg : 0 < h.next) (hgk : k ≠ 0) (hgd : dk ≠ 0)
    (on : ∀ j, onB wd j = decide (j < K + 1)) (hK : K < n) (B : Bytes h x l) (hr : CapOK x) (hl : l.length ≤ 64) (hx : ∀ kb, rowOf x = some kb → kb ≠ k ∧ kb ≠ dk ∧ kb < h.next)
    (hL : ∀ h', Frm h h' (fun j => j = k ∨ j = dk) → C (.fn 15) [] h' = some (.ret (.bool true), h')) :
    ∃ h', q4_83 C lf ff4 (some x) (some (.int .i64 (n : Int))) (some (.ptr k 0)) (some (.int .i64 (K : Int))) h = some (.ret (.bool true), h') := by
  have hn := S.n2
  have hx' : ∀ kb ob len cap lo, x = .sl kb ob len cap lo → kb ≠ k ∧ kb ≠ dk ∧ kb < h.next := fun kb ob len cap lo e => hx kb (by rw [e]; rfl)
  generalize hh : K / 2 = half
  have hhK : half ≤ K := by omega
  have hq := quo2 (K := K) (by omega) (t := 3)
  rw [hh] at hq
  have hu : inUse n wd (half : Int) = true := by
    have : (half : Int) < n := by omega
    simp [inUse, this, on, show half < K + 1 by omega]
  have hbad : ¬ badW n wd (half : Int) 0 l := by
    unfold badW
    rw [hu]
    simp; omega
  obtain ⟨h1, w1, S1, w3, w4⟩ := (H.write h k dk n wd b (half : Int) 0 x l S B (by omega) (by omega) (by omega) (by omega) (by omega)).2 hbad
  have F1 : Frm h h1 (fun j => j = k ∨ j = dk) := w4.weak fun _ e => .inr e
  rw [Int.toNat_natCast, show (0 : Int).toNat = 0 from rfl, Nat.add_zero] at S1
  have wl := H.left h1 k dk n wd _ S1
  obtain ⟨xu, h2, u1, u2, u3⟩ := H.used h1 k dk n wd _ S1
  have F2 := F1.trans (u3.weak fun _ e => e.elim)
  have hul := usedL_le wd n
  have S2 := S1.frm u3 (fun e => e) (fun e => e)
  have hlu := len_ints u2
  have hsum : IntKind.i64.wrap (((n - (usedL wd n).length : Nat) : Int) + ((usedL wd n).length : Int)) = (n : Int) := by rw [wrap_i64 (by omega) (by omega)]; omega
  have hnn : decide ((n : Int) ≠ (n : Int)) = false := by simp
  obtain ⟨h3, r1, r2, r3, r4, r5⟩ := (H.read h2 k dk n wd _ (half : Int) S2 (by omega) (by omega)).2 hu
  have F3 := F2.trans (r5.weak fun _ e => e.elim)
  have S3 := S2.frm r5 (fun e => e) (fun e => e)
  rw [Int.toNat_natCast] at r4
  have Bc := read_bytes (f := fun j => over b (half * 64) l (half * 64 + j)) (fun j => S3.blt _) r3 r4
  have hlc : lenE Tryd.prog 24 (.sl h2.next 0 64 (some 64) 0) = some (.int .i64 64) := by
    have := len_bytes (P := Tryd.prog) Tryd.underlying24 Bc
    simpa using this
  have hlx := len_bytes (P := Tryd.prog) Tryd.underlying24 B
  obtain ⟨xc, c1, c2, _⟩ := bytes_hi (P := Tryd.prog) (t := 24) (q := l.length) (kd := .i64) Tryd.underlying24 (s := 1) (by kernel_rfl) Bc (show 64 ≤ 64 from Nat.le_refl _) (by simpa using hl)
  have htake : ((List.range 64).map fun j => over b (half * 64) l (half * 64 + j)).take l.length = l := by
    apply List.ext_getElem
    · simp; omega
    · intro j h1 h2
      have hj : j < l.length := h2
      simp only [List.getElem_take, List.getElem_map, List.getElem_range]
      unfold over
      rw [if_pos (by omega), show half * 64 + j - half * 64 = j by omega]
      simp [List.getD, hj]
  rw [htake] at c2
  have B3 : Bytes h3 x l := B.frame fun kb ob len cap lo e => F3.same _ (hx' _ _ _ _ _ e).2.2 fun e2 => by
    have := hx' _ _ _ _ _ e
    rcases e2 with e2 | e2
    · exact this.1 e2
    · exact this.2.1 e2
  have s1 := H.same h3 xc x l l c2 B3
  have hdl : decide (l = l) = true := by simp
  rw [hdl] at s1
  obtain ⟨h4, f1, S4, f3⟩ := (H.free h3 k dk n wd _ (half : Int) S3 (by omega) (by omega)).2 hu
  have F4 := F3.trans (f3.weak fun _ e => .inl e)
  rw [Int.toNat_natCast] at S4
  have T4 := T.frm F4 hg (fun e => by rcases e with e | e <;> omega)
  have on4 : ∀ j, onB (upd wd (half / 64) (clr (wd (half / 64)) (half % 64))) j = (decide (j < K + 1) && decide (j ≠ half)) := fun j => by rw [onB_clr (S.wlt _), on]
  obtain ⟨h5, a1, S5, a3⟩ := (H.alloc h4 k dk n _ _ S4 T4).2 half (by omega) (by rw [on4]; simp) (fun j hj => by
    rw [on4]
    simp [show j < K + 1 by omega, show j ≠ half by omega])
  have F5 := F4.trans a3
  have hu5 : inUse n (upd (upd wd (half / 64) (clr (wd (half / 64)) (half % 64))) (half / 64) (put1 (upd wd (half / 64) (clr (wd (half / 64)) (half % 64)) (half / 64)) (half % 64))) (half : Int) = true := by
    have h9 : (half : Int) < n := by omega
    simp only [inUse, h9, decide_true, Bool.true_and, Int.toNat_natCast, onB_put]
    simp
  obtain ⟨h6, g1, g2, g3, g4, g5⟩ := (H.read h5 k dk n _ _ (half : Int) S5 (by omega) (by omega)).2 hu5
  have F6 := F5.trans (g5.weak fun _ e => e.elim)
  rw [Int.toNat_natCast] at g4
  have Bd := read_bytes (f := fun _ => 0) (fun j => by omega) g3 (fun j hj => by
    rw [g4 j hj]
    unfold zero64
    rw [if_pos (by omega)])
  have hmk := ymk_eq (P := Tryd.prog) (t := 24) (e := 5) (s := 1) (b := 1) (z := .int .u8 0) (k1 := .i64) (k2 := .i64) (l := 64) (c := 64) (h := h6)
    Tryd.underlying24 (by kernel_rfl) (by kernel_rfl) (by kernel_rfl) (Nat.le_refl _) (by omega) (by omega) rfl (by omega)
  generalize hh7 : h6.new (patOb 5 (64 * 1) (mkV (.int .u8 0)).cells) = h7 at *
  have F67 : Frm h6 h7 (fun _ => False) := by rw [← hh7]; exact Frm.new _ _ _
  have F7 := F6.trans (F67.weak fun _ e => e.elim)
  have Be : Bytes h7 (.sl h6.next 0 64 (some 64) 0) ((List.range 64).map fun _ => 0) := by
    refine read_bytes (fun j => by omega) ?_ fun j hj => ?_
    · rw [← hh7]; exact wr_new rfl
    · rw [← hh7, cell_new_same, patOb_get _ _ (by omega)]
      show [SV.int .u8 0][j % 1]? = _
      rw [Nat.mod_one]; rfl
  have Bd7 : Bytes h7 (.sl h5.next 0 64 (some 64) 0) ((List.range 64).map fun _ => 0) := Bd.frame fun kb ob len cap lo e => by
    cases e
    exact F67.same _ (by rw [g2]; exact Nat.lt_succ_self _) fun e => e
  have s2 := H.same h7 _ _ _ _ Bd7 Be
  have hdz : decide (((List.range 64).map fun _ => 0) = ((List.range 64).map fun _ => 0)) = true := by simp
  rw [hdz] at s2
  have hlv := hL h7 F7
  have hhh : decide ((half : Int) = (half : Int)) = true := by simp
  have h00 : decide ((0 : Int) = 0) = true := by simp
  have h64 : decide ((64 : Int) ≠ 64) = false := by simp
  refine ⟨h7, ?_⟩
  have hmk' : ymk Tryd.prog 24 (.int .i64 64) (.int .i64 64) h6 = some (.sl h6.next 0 64 (some 64) 0, h7) := hmk
  unfold q4_83 ff4
  simp only [ob_some, b2_some, bc_ret, bcn_ret, gd_tt, gd_ff, gd_tf, gd_ft, ypk_true, ypk_false, yIf_true, yIf_false, semNil_ptr, fa_ptr, ld1_ptr, ext_tup, fd1_agg, un_not, bin_add, bin_sub, bin_mul, bin_eql, bin_neq, bin_lss, bin_leq, bin_gtr, bin_geq, Nat.zero_add, Nat.mul_one, hq, w1, neF, wl, u1, hlu, hsum, hnn, r1, List.getElem?_cons_zero, List.getElem?_cons_succ, hlc, h64, hlx, c1, s1, Bool.not_true, f1, a1, g1, hhh, h00, decide_true, hmk', s2, hlv]
end
end Go.Proofs.YtomialandfplkaaDoor.Eva
namespace Go.Proofs.YtomialandfplkaaDoor.Eva
open Go.Xe
set_option linter.unusedSimpArgs false

/-- Both stores, apart from the rows of Z, with the same blocks. -/
structure St (Z : Nat → Prop) (h : HW) (k dk r ro rb n : Nat) (wd : Nat → Nat) (q : Nat → Option Nat) (b : Nat → Nat) : Prop where
  S : StoreAt h k dk n wd b
  R : RefAt h r ro rb n (onB wd) q b
  nk : ∀ j, rowsR r ro rb n q j → j ≠ k ∧ j ≠ dk
  lok : ¬ Z k
  lod : ¬ Z dk
  lor : ∀ j, rowsR r ro rb n q j → ¬ Z j
  T : TabAt h
  fr : Fresh h
  gb : Z 0
  bn : ∀ j, Z j → j < h.next
section
variable {lf m : Nat} {Z : Nat → Prop} {h : HW} {k dk r ro rb n : Nat} {wd b : Nat → Nat} {q : Nat → Option Nat}
theorem lowest (p : Nat → Bool) : ∀ n, (∀ j, j < n → p j = true) ∨ ∃ i, i < n ∧ p i = false ∧ ∀ j, j < i → p j = true
  | 0 => .inl fun j hj => by omega
  | n + 1 => by
    rcases lowest p n with h | ⟨i, h1, h2, h3⟩
    · cases e : p n with
      | true =>
        refine .inl fun j hj => ?_
        by_cases e2 : j = n
        · rw [e2]; exact e
        · exact h j (by omega)
      | false => exact .inr ⟨n, by omega, e, h⟩
    · exact .inr ⟨i, by omega, h2, h3⟩
theorem St.frame (A : St Z h k dk r ro rb n wd q b) {h' : HW} {Q : Nat → Prop} (F : Frm h h' Q) (hk : ¬ Q k) (hd : ¬ Q dk) (hr : ∀ j, rowsR r ro rb n q j → ¬ Q j) (hg : ∀ j, Q j → ¬ Z j) : St Z h' k dk r ro rb n wd q b :=
  ⟨A.S.frm F hk hd, A.R.frm F hr, A.nk, A.lok, A.lod, A.lor, A.T.frm F (A.bn _ A.gb) (fun e => hg _ e A.gb), F.fr A.fr, A.gb, fun j hj => Nat.lt_of_lt_of_le (A.bn j hj) F.next⟩
theorem onB_put' (wd : Nat → Nat) (i : Nat) : onB (upd wd (i / 64) (put1 (wd (i / 64)) (i % 64))) = upd (onB wd) i true := by
  funext j
  rw [onB_put]
  unfold upd
  by_cases e : j = i <;> simp [e]
theorem onB_clr' (wd : Nat → Nat) (i : Nat) (hw : wd (i / 64) < 2 ^ 64) : onB (upd wd (i / 64) (clr (wd (i / 64)) (i % 64))) = upd (onB wd) i false := by
  funext j
  rw [onB_clr hw]
  unfold upd
  by_cases e : j = i <;> simp [e]
/-- What is kept by a call on both. -/
def Step (Z : Nat → Prop) (h h' : HW) : Prop := Frm h h' (fun j => ¬ Z j)
theorem Step.of {h h' : HW} {Q : Nat → Prop} (F : Frm h h' Q) (hq : ∀ j, Q j → ¬ Z j) : Step Z h h' := F.weak hq
theorem inUse_inR (n : Nat) (wd : Nat → Nat) (i : Int) : inUse n wd i = inR n (onB wd) i := rfl

structure RefOK (C : YC) : Prop where
  is : RIsOK C
  left : RLeftOK C
  used : RUsedOK C
  ints : SameIntsOK C
  alloc : RAllocOK C
  free : RFreeOK C
  read : RReadOK C
  write : RWriteOK C
  new : RNewOK C
  copy : RCopyOK C
  lend : LendOK C
  kept : KeptOK C
  total : TotalOK C
  pcopy : CopyOK C
  pis : IsOK C

/-- Alloc. -/
theorem act0 {C : YC} (P : BlocksOK C) (Q : RefOK C) (A : St Z h k dk r ro rb n wd q b) (rr : K1) : ∃ h' wd' q' b', q25_27 C lf rr (some (.ptr k 0)) (some (.ptr r 0)) h = rr (some (.bool true)) h' ∧ St Z h' k dk r ro rb n wd' q' b' ∧ Step Z h h' := by
  have d0 : decide ((0 : Int) = 0) = true := rfl
  have d28 : decide ((28 : Int) = 28) = true := rfl
  rcases lowest (onB wd) n with hall | ⟨i, h1, h2, h3⟩
  · have e1 := (P.alloc h k dk n wd b A.S A.T).1 hall
    have e2 := (Q.alloc h r ro rb n _ q b A.R).1 hall
    refine ⟨h, wd, q, b, ?_, A, Frm.refl _ _⟩
    unfold q25_27
    simp only [ob_some, b2_some, bc_ret, bcn_ret, gd_tt, gd_ff, gd_tf, gd_ft, ypk_true, ypk_false, yIf_true, yIf_false, semNil_ptr, fa_ptr, ld1_ptr, ext_tup, fd1_agg, un_not, bin_add, bin_sub, bin_mul, bin_eql, bin_neq, bin_lss, bin_leq, bin_gtr, bin_geq, Nat.zero_add, Nat.mul_one, e1, e2, List.getElem?_cons_zero, List.getElem?_cons_succ, d0, d28, decide_true]
  · obtain ⟨g1, e1, S1, F1⟩ := (P.alloc h k dk n wd b A.S A.T).2 i h1 h2 h3
    have R1 : RefAt g1 r ro rb n (onB wd) q b := A.R.frm F1 fun j hj e => by rcases e with e | e; exact (A.nk j hj).1 e; exact (A.nk j hj).2 e
    obtain ⟨g2, e2, R2, F2, n2⟩ := (Q.alloc g1 r ro rb n _ q b R1).2 i h1 h2 h3
    have hro := A.nk ro (.inr (.inl rfl))
    have hrb := A.nk rb (.inr (.inr (.inl rfl)))
    have S2 := S1.frm F2 (fun e => by rcases e with e | e; exact hro.1 e.symm; exact hrb.1 e.symm) (fun e => by rcases e with e | e; exact hro.2 e.symm; exact hrb.2 e.symm)
    have hdi : decide ((i : Int) = (i : Int)) = true := by simp
    have rows : ∀ j, rowsR r ro rb n (upd q i (some g1.next)) j → rowsR r ro rb n q j ∨ j = g1.next := fun j hj => by
      rcases hj with hj | hj | hj | ⟨i', hi', hq'⟩
      · exact .inl (.inl hj)
      · exact .inl (.inr (.inl hj))
      · exact .inl (.inr (.inr (.inl hj)))
      · by_cases e : i' = i
        · rw [e, upd_same] at hq'; cases hq'; exact .inr rfl
        · rw [upd_ne _ _ e] at hq'; exact .inl (.inr (.inr (.inr ⟨i', hi', hq'⟩)))
    have F12 : Step Z h g2 := (Step.of F1 fun j e => by rcases e with rfl | rfl; exact A.lok; exact A.lod).trans (Step.of F2 fun j e => by rcases e with rfl | rfl; exact A.lor _ (.inr (.inl rfl)); exact A.lor _ (.inr (.inr (.inl rfl))))
    refine ⟨g2, _, upd q i (some g1.next), _, ?_, ⟨S2, ?_, fun j hj => ?_, A.lok, A.lod, fun j hj => ?_, A.T.frm F12 (A.bn _ A.gb) (fun e => e A.gb), F12.fr A.fr, A.gb, fun j hj => Nat.lt_of_lt_of_le (A.bn j hj) F12.next⟩, F12⟩
    · unfold q25_27
      simp only [ob_some, b2_some, bc_ret, bcn_ret, gd_tt, gd_ff, gd_tf, gd_ft, ypk_true, ypk_false, yIf_true, yIf_false, semNil_ptr, fa_ptr, ld1_ptr, ext_tup, fd1_agg, un_not, bin_add, bin_sub, bin_mul, bin_eql, bin_neq, bin_lss, bin_leq, bin_gtr, bin_geq, Nat.zero_add, Nat.mul_one, e1, e2, List.getElem?_cons_zero, List.getElem?_cons_succ, d0, hdi, decide_true]
    · rw [onB_put']; exact R2
    · rcases rows j hj with hj | rfl
      · exact A.nk j hj
      · have := S1.lk; have := S1.ldk; omega
    · rcases rows j hj with hj | rfl
      · exact A.lor j hj
      · intro e; have := A.bn _ e; have := F1.next; omega

/-- Free. -/
theorem act1 {C : YC} (P : BlocksOK C) (Q : RefOK C) (A : St Z h k dk r ro rb n wd q b) {kx : Nat} {i : Int} (hi1 : -9223372036854775808 ≤ i) (hi2 : i < 9223372036854775808) (hx : h.cell kx 1 = some (.int .i64 i)) (hxl : kx < h.next) (hxm : ∃ mm, h.mt kx = some mm)
    (hxk : kx ≠ k ∧ kx ≠ dk ∧ ¬ rowsR r ro rb n q kx) (rr : K1) : ∃ h' wd' q' b', q25_39 C lf rr (some (.ptr k 0)) (some (.ptr r 0)) (some (.ptr kx 0)) h = rr (some (.bool true)) h' ∧ St Z h' k dk r ro rb n wd' q' b' ∧ Step Z h h' := by
  cases hu : inUse n wd i with
  | false =>
    have e1 := (P.free h k dk n wd b i A.S hi1 hi2).1 hu
    have e2 := (Q.free h r ro rb n _ q b i A.R).1 hu
    have hck : ∀ R : Rs, ck (chkH [(6, adrO (some (.ptr kx 1))), (2, adrO (some (.ptr kx 1)))] h h [6]) R = R := fun R => by
      have := sameH_of (h' := h) hxl hxm rfl
      show ck (sameH h h kx && true) R = R
      rw [this]; rfl
    have d22 : decide ((22 : Int) = 22) = true := rfl
    refine ⟨h, wd, q, b, ?_, A, Frm.refl _ _⟩
    unfold q25_39
    simp only [ob_some, b2_some, bc_ret, bcn_ret, gd_tt, gd_ff, gd_tf, gd_ft, ypk_true, ypk_false, yIf_true, yIf_false, semNil_ptr, fa_ptr, ld1_ptr, ext_tup, fd1_agg, un_not, bin_add, bin_sub, bin_mul, bin_eql, bin_neq, bin_lss, bin_leq, bin_gtr, bin_geq, Nat.zero_add, Nat.mul_one, hx, e1, hck, e2, d22, decide_true]
  | true =>
    obtain ⟨g1, e1, S1, F1⟩ := (P.free h k dk n wd b i A.S hi1 hi2).2 hu
    have R1 : RefAt g1 r ro rb n (onB wd) q b := A.R.frm F1 fun j hj e => (A.nk j hj).1 e
    obtain ⟨g2, e2, R2, F2, n2⟩ := (Q.free g1 r ro rb n _ q b i R1).2 hu
    have hro := A.nk ro (.inr (.inl rfl))
    have S2 := S1.frm F2 (fun e => hro.1 e.symm) (fun e => hro.2 e.symm)
    have hck : ∀ R : Rs, ck (chkH [(6, adrO (some (.ptr kx 1))), (2, adrO (some (.ptr kx 1)))] h g1 [6]) R = R := fun R => by
      have := sameH_of (h' := g1) hxl hxm (F1.same kx hxl hxk.1)
      show ck (sameH h g1 kx && true) R = R
      rw [this]; rfl
    have F12 : Step Z h g2 := (Step.of F1 fun j e => by rw [e]; exact A.lok).trans (Step.of F2 fun j e => by rw [e]; exact A.lor _ (.inr (.inl rfl)))
    have d0 : decide ((0 : Int) = 0) = true := rfl
    refine ⟨g2, _, q, b, ?_, ⟨S2, ?_, A.nk, A.lok, A.lod, A.lor, A.T.frm F12 (A.bn _ A.gb) (fun e => e A.gb), F12.fr A.fr, A.gb, fun j hj => Nat.lt_of_lt_of_le (A.bn j hj) F12.next⟩, F12⟩
    · unfold q25_39
      simp only [ob_some, b2_some, bc_ret, bcn_ret, gd_tt, gd_ff, gd_tf, gd_ft, ypk_true, ypk_false, yIf_true, yIf_false, semNil_ptr, fa_ptr, ld1_ptr, ext_tup, fd1_agg, un_not, bin_add, bin_sub, bin_mul, bin_eql, bin_neq, bin_lss, bin_leq, bin_gtr, bin_geq, Nat.zero_add, Nat.mul_one, hx, e1, hck, e2, d0, decide_true]
    · rw [onB_clr' _ _ (A.S.wlt _)]; exact R2

/-- Is. -/
theorem act4 {C : YC} (P : BlocksOK C) (Q : RefOK C) (A : St Z h k dk r ro rb n wd q b) {kx : Nat} {i : Int} (hi1 : -9223372036854775808 ≤ i) (hi2 : i < 9223372036854775808) (hx : h.cell kx 1 = some (.int .i64 i)) (hxl : kx < h.next) (hxm : ∃ mm, h.mt kx = some mm) (rr : K1) :
    q25_12 C lf rr (some (.ptr k 0)) (some (.ptr r 0)) (some (.ptr kx 0)) h = rr (some (.bool true)) h := by
  have e1 := Q.pis h k dk n wd b i A.S hi1 hi2
  have e2 := Q.is h r ro rb n _ q b i A.R
  have hck : ∀ R : Rs, ck (chkH [(6, adrO (some (.ptr kx 1))), (2, adrO (some (.ptr kx 1)))] h h [6]) R = R := fun R => by
    have := sameH_of (h' := h) hxl hxm rfl
    show ck (sameH h h kx && true) R = R
    rw [this]; rfl
  have hb : ∀ (t : TypeId) (c : Bool), (Tryd.prog).underlying t = some .bool → bin Tryd.prog .eql t (.bool c) (.bool c) = some (.bool true) := fun t c ht => by
    rw [bin_eq]
    show eqOp Tryd.prog .eql t (.bool c) (.bool c) = _
    simp [eqOp, eqTop, eqE, ht]
  have hb' := hb _ (inR n (onB wd) i) Tryd.underlying4
  unfold q25_12
  simp only [ob_some, fa_ptr, ld1_ptr, Nat.zero_add, hx, e1, bcn_ret, hck, e2, inUse_inR, hb']
end
end Go.Proofs.YtomialandfplkaaDoor.Eva
