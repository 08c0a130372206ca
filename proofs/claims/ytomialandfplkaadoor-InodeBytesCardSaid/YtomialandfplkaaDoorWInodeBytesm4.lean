/- The inodes of the program: bytes are written (the whole call). -/
import Derived.Test.YtomialandfplkaaDoorCards
import Derived.SizedLaws
import Derived.Test.YtomialandfplkaaDoorWInodeBytesm2
import Derived.Test.YtomialandfplkaaDoorWInodeBytesm3
set_option linter.unusedSimpArgs false
set_option linter.unusedVariables false
namespace Go.Proofs.YtomialandfplkaaDoor.Eva
open Go.Xe
set_option maxRecDepth 100000
set_option maxHeartbeats 400000
set_option linter.unusedVariables false
noncomputable section
noncomputable def fx38 : XF Tryd.prog := ⟨38, Tryd.f38, fun r => bif Nat.beq r 16 then .ord [0, 1, 2, 4, 5, 10, 11, 12, 13, 14, 15, 16, 3, 6, 7, 8, 9, 17] [(6, [3])] else .text, Tryd.func38, by kernel_rfl, by kernel_rfl, by kernel_rfl, by kernel_rfl⟩
noncomputable def ff38 (x8 x9 : O) (h : HW) : Rs :=
 ob x8 fun a0 =>
 ob x9 fun a1 =>
 some (.ret (.tup [a0, a1]), h)
noncomputable def q38_22 (C : YC) (lf : Nat) (r : K2) (x0 x2 x10 x12 : O) (h : HW) : Rs :=
 ob x12 fun a2 =>
 ob (bin Tryd.prog .eql 3 a2 (.int .i64 0)) fun y3 =>
 yIf y3
 (r (some (.int .i64 0)) (some (.int .i64 28)) h)
 (ob x10 fun a4 =>
 ob x10 fun a5 =>
 ob (semNil a5) fun y6 =>
 ob (fa 1 y6) fun y7 =>
 ob (fa 4 y7) fun y8 =>
 ob (ld1 y8 h) fun y9 =>
 ob x2 fun a10 =>
 ob x12 fun a11 =>
 ob (bin Tryd.prog .add 3 a10 a11) fun y12 =>
 b2 (ybl Tryd.prog .max #[3, 3] [y9, y12] h) fun y13 h13 =>
 ob (semNil a4) fun y14 =>
 ob (fa 1 y14) fun y15 =>
 ob (fa 4 y15) fun y16 =>
 ob (st 1 y16 y13 h13) fun h17 =>
 ob x0 fun a18 =>
 ob x10 fun a19 =>
 bc (C (.fn 77) [a18, a19] h17) fun y20 h20 =>
 ob x12 fun a21 =>
 r (some a21) (some (.int .i64 0)) h20)
theorem q38_22_eq (C : YC) (lf : Nat) (r : K2) (KN : KF) (KE : KX) : ∀ F h, evX fx38 C lf [1, 1, 1, 1, 1, 1, 1] F h KN (fun F h => r (F 8) (F 9) h) KE = q38_22 C lf r (F 0) (F 2) (F 10) (F 12) h := by
  intro F h; kernel_rfl
noncomputable def q38_63 (C : YC) (lf : Nat) (n : K5) (e1 : K4) (x0 x2 x3 x10 x12 : O) (h : HW) : Rs :=
 ob x12 fun a24 =>
 ob x3 fun a25 =>
 ob (lenE Tryd.prog 24 a25) fun y26 =>
 ob (bin Tryd.prog .lss 3 a24 y26) fun y27 =>
 yIf y27
 (ob x2 fun a28 =>
 ob x12 fun a29 =>
 ob (bin Tryd.prog .add 3 a28 a29) fun y30 =>
 ob (bin Tryd.prog .quo 3 y30 (.int .i64 64)) fun y31 =>
 ob x2 fun a32 =>
 ob x12 fun a33 =>
 ob (bin Tryd.prog .add 3 a32 a33) fun y34 =>
 ob (bin Tryd.prog .rem 3 y34 (.int .i64 64)) fun y35 =>
 ob x0 fun a36 =>
 ob x10 fun a37 =>
 bc (C (.fn 75) [a36, a37, y31] h) fun y38 h38 =>
 ob (unE .not y38) fun y39 =>
 yIf y39
 (e1 x0 x2 x10 x12 h38)
 (ob (bin Tryd.prog .sub 3 (.int .i64 64) y35) fun y40 =>
 ob x3 fun a41 =>
 ob (lenE Tryd.prog 24 a41) fun y42 =>
 ob x12 fun a43 =>
 ob (bin Tryd.prog .sub 3 y42 a43) fun y44 =>
 b2 (ybl Tryd.prog .min #[3, 3] [y40, y44] h38) fun y45 h45 =>
 ob x0 fun a46 =>
 ob (semNil a46) fun y47 =>
 ob (fa 0 y47) fun y48 =>
 ob x10 fun a49 =>
 ob x3 fun a50 =>
 ob x12 fun a51 =>
 ob x12 fun a52 =>
 ob (bin Tryd.prog .add 3 a52 y45) fun y53 =>
 ob (semSlice Tryd.prog 24 a50 (some a51) (some y53)) fun y54 =>
 ob (ld1 y48 h45) fun y55 =>
 bcn (C (.fn 76) [a49, y31] h45) fun y56 h56 =>
 ck (chkH [(3, adrO (some y48))] h45 h56 [3]) <|
 ob (semNil y56) fun y57 =>
 ob (ld1 y57 h56) fun y58 =>
 ob (bin Tryd.prog .sub 3 y58 (.int .i64 1)) fun y59 =>
 bcn (C (.fn 18) [y55, y59, y35, y54] h56) fun y60 h60 =>
 ob x12 fun a61 =>
 ob (bin Tryd.prog .add 3 a61 y45) fun y62 =>
 n x0 x2 x3 x10 (some y62) h60))
 (e1 x0 x2 x10 x12 h)
theorem q38_63_eq (C : YC) (lf : Nat) (n : K5) (e1 : K4) (KR : KF) (KE : KX) : ∀ F h, evX fx38 C lf [1, 1, 1, 1, 1, 1, 0, 0, 0] F h (fun F h => n (F 0) (F 2) (F 3) (F 10) (F 12) h) KR (bk 1 (fun F h => e1 (F 0) (F 2) (F 10) (F 12) h) KE) = q38_63 C lf n e1 (F 0) (F 2) (F 3) (F 10) (F 12) h := by
  intro F h; kernel_rfl
noncomputable def l38_23 (C : YC) (lf : Nat) (e1 : K4) (k : O × O × O × O × O → HW → Rs) (s : O × O × O × O × O) (h : HW) : Rs :=
 q38_63 C lf (fun x0 x2 x3 x10 x12 h => k (x0, x2, x3, x10, x12) h) e1 s.1 s.2.1 s.2.2.1 s.2.2.2.1 s.2.2.2.2 h
noncomputable def q38_64 (C : YC) (lf : Nat) (r : K2) (x0 x2 x3 x10 x12 : O) (h : HW) : Rs :=
 lp (l38_23 C lf (fun x0 x2 x10 x12 h => q38_22 C lf r x0 x2 x10 x12 h)) lf (x0, x2, x3, x10, x12) h
theorem q38_64_eq (C : YC) (lf : Nat) (r : K2) (KN : KF) (KE : KX) : ∀ F h, evX fx38 C lf [1, 1, 1, 1, 1, 1] F h KN (fun F h => r (F 8) (F 9) h) KE = q38_64 C lf r (F 0) (F 2) (F 3) (F 10) (F 12) h := cSeq (a := subX fx38 [1, 1, 1, 1, 1, 1, 0]) (b := subX fx38 [1, 1, 1, 1, 1, 1, 1]) (by kernel_rfl) (B := (fun F h => q38_22 C lf r (F 0) (F 2) (F 10) (F 12) h)) (q38_22_eq C lf r KN KE) (cBlock (id := 1) (a := subX fx38 [1, 1, 1, 1, 1, 1, 0, 0]) (by kernel_rfl) (cLoop (a := subX fx38 [1, 1, 1, 1, 1, 1, 0, 0, 0]) (g := fun F => (F 0, F 2, F 3, F 10, F 12)) (body := l38_23 C lf (fun x0 x2 x10 x12 h => q38_22 C lf r x0 x2 x10 x12 h)) (by kernel_rfl) (fun k => (q38_63_eq C lf (fun x0 x2 x3 x10 x12 h => k (x0, x2, x3, x10, x12) h) (fun x0 x2 x10 x12 h => q38_22 C lf r x0 x2 x10 x12 h) (fun F h => r (F 8) (F 9) h) KE))))
noncomputable def q38_65 (C : YC) (lf : Nat) (n : K5) (x0 x2 x3 x10 : O) (h : HW) : Rs :=
 n x0 x2 x3 x10 (some (.int .i64 0)) h
theorem q38_65_eq (C : YC) (lf : Nat) (n : K5) (KR : KF) (KE : KX) : ∀ F h, evX fx38 C lf [1, 1, 1, 1, 1, 0] F h (fun F h => n (F 0) (F 2) (F 3) (F 10) (F 12) h) KR KE = q38_65 C lf n (F 0) (F 2) (F 3) (F 10) h := by
  intro F h; kernel_rfl
noncomputable def q38_66 (C : YC) (lf : Nat) (r : K2) (x0 x2 x3 x10 : O) (h : HW) : Rs :=
 q38_65 C lf (fun x0 x2 x3 x10 x12 h => q38_64 C lf r x0 x2 x3 x10 x12 h) x0 x2 x3 x10 h
theorem q38_66_eq (C : YC) (lf : Nat) (r : K2) (KN : KF) (KE : KX) : ∀ F h, evX fx38 C lf [1, 1, 1, 1, 1] F h KN (fun F h => r (F 8) (F 9) h) KE = q38_66 C lf r (F 0) (F 2) (F 3) (F 10) h := cSeq (a := subX fx38 [1, 1, 1, 1, 1, 0]) (b := subX fx38 [1, 1, 1, 1, 1, 1]) (by kernel_rfl) (B := (fun F h => q38_64 C lf r (F 0) (F 2) (F 3) (F 10) (F 12) h)) (q38_64_eq C lf r KN KE) (q38_65_eq C lf (fun x0 x2 x3 x10 x12 h => q38_64 C lf r x0 x2 x3 x10 x12 h) (fun F h => r (F 8) (F 9) h) KE)
noncomputable def q38_74 (C : YC) (lf : Nat) (n : K4) (x0 x2 x3 x10 : O) (h : HW) : Rs :=
 ob x3 fun a67 =>
 ob x3 fun a68 =>
 ob (lenE Tryd.prog 24 a68) fun y69 =>
 ob x2 fun a70 =>
 ob (bin Tryd.prog .sub 3 (.int .i64 17792) a70) fun y71 =>
 b2 (ybl Tryd.prog .min #[3, 3] [y69, y71] h) fun y72 h72 =>
 ob (semSlice Tryd.prog 24 a67 none (some y72)) fun y73 =>
 n x0 x2 (some y73) x10 h72
theorem q38_74_eq (C : YC) (lf : Nat) (n : K4) (KR : KF) (KE : KX) : ∀ F h, evX fx38 C lf [1, 1, 1, 1, 0] F h (fun F h => n (F 0) (F 2) (F 3) (F 10) h) KR KE = q38_74 C lf n (F 0) (F 2) (F 3) (F 10) h := by
  intro F h; kernel_rfl
noncomputable def q38_75 (C : YC) (lf : Nat) (r : K2) (x0 x2 x3 x10 : O) (h : HW) : Rs :=
 q38_74 C lf (fun x0 x2 x3 x10 h => q38_66 C lf r x0 x2 x3 x10 h) x0 x2 x3 x10 h
theorem q38_75_eq (C : YC) (lf : Nat) (r : K2) (KN : KF) (KE : KX) : ∀ F h, evX fx38 C lf [1, 1, 1, 1] F h KN (fun F h => r (F 8) (F 9) h) KE = q38_75 C lf r (F 0) (F 2) (F 3) (F 10) h := cSeq (a := subX fx38 [1, 1, 1, 1, 0]) (b := subX fx38 [1, 1, 1, 1, 1]) (by kernel_rfl) (B := (fun F h => q38_66 C lf r (F 0) (F 2) (F 3) (F 10) h)) (q38_66_eq C lf r KN KE) (q38_74_eq C lf (fun x0 x2 x3 x10 h => q38_66 C lf r x0 x2 x3 x10 h) (fun F h => r (F 8) (F 9) h) KE)
noncomputable def q38_83 (C : YC) (lf : Nat) (n : K4) (r : K2) (x0 x2 x3 x10 : O) (h : HW) : Rs :=
 ob x2 fun a76 =>
 ob (bin Tryd.prog .lss 3 a76 (.int .i64 0)) fun y77 =>
 yIf y77
 (r (some (.int .i64 0)) (some (.int .i64 22)) h)
 (ob x3 fun a78 =>
 ob (lenE Tryd.prog 24 a78) fun y79 =>
 ob (bin Tryd.prog .eql 3 y79 (.int .i64 0)) fun y80 =>
 yIf y80
 (r (some (.int .i64 0)) (some (.int .i64 0)) h)
 (ob x2 fun a81 =>
 ob (bin Tryd.prog .geq 3 a81 (.int .i64 17792)) fun y82 =>
 yIf y82
 (r (some (.int .i64 0)) (some (.int .i64 27)) h)
 (n x0 x2 x3 x10 h)))
theorem q38_83_eq (C : YC) (lf : Nat) (n : K4) (r : K2) (KE : KX) : ∀ F h, evX fx38 C lf [1, 1, 1, 0] F h (fun F h => n (F 0) (F 2) (F 3) (F 10) h) (fun F h => r (F 8) (F 9) h) KE = q38_83 C lf n r (F 0) (F 2) (F 3) (F 10) h := by
  intro F h; kernel_rfl
noncomputable def q38_84 (C : YC) (lf : Nat) (r : K2) (x0 x2 x3 x10 : O) (h : HW) : Rs :=
 q38_83 C lf (fun x0 x2 x3 x10 h => q38_75 C lf r x0 x2 x3 x10 h) r x0 x2 x3 x10 h
theorem q38_84_eq (C : YC) (lf : Nat) (r : K2) (KN : KF) (KE : KX) : ∀ F h, evX fx38 C lf [1, 1, 1] F h KN (fun F h => r (F 8) (F 9) h) KE = q38_84 C lf r (F 0) (F 2) (F 3) (F 10) h := cSeq (a := subX fx38 [1, 1, 1, 0]) (b := subX fx38 [1, 1, 1, 1]) (by kernel_rfl) (B := (fun F h => q38_75 C lf r (F 0) (F 2) (F 3) (F 10) h)) (q38_75_eq C lf r KN KE) (q38_83_eq C lf (fun x0 x2 x3 x10 h => q38_75 C lf r x0 x2 x3 x10 h) r KE)
noncomputable def q38_88 (C : YC) (lf : Nat) (n : K4) (r : K2) (x0 x2 x3 x10 x11 : O) (h : HW) : Rs :=
 ob x11 fun a85 =>
 ob (bin Tryd.prog .neq 26 a85 (.int .i64 0)) fun y86 =>
 yIf y86
 (ob x11 fun a87 =>
 r (some (.int .i64 0)) (some a87) h)
 (n x0 x2 x3 x10 h)
theorem q38_88_eq (C : YC) (lf : Nat) (n : K4) (r : K2) (KE : KX) : ∀ F h, evX fx38 C lf [1, 1, 0] F h (fun F h => n (F 0) (F 2) (F 3) (F 10) h) (fun F h => r (F 8) (F 9) h) KE = q38_88 C lf n r (F 0) (F 2) (F 3) (F 10) (F 11) h := by
  intro F h; kernel_rfl
noncomputable def q38_89 (C : YC) (lf : Nat) (r : K2) (x0 x2 x3 x10 x11 : O) (h : HW) : Rs :=
 q38_88 C lf (fun x0 x2 x3 x10 h => q38_84 C lf r x0 x2 x3 x10 h) r x0 x2 x3 x10 x11 h
theorem q38_89_eq (C : YC) (lf : Nat) (r : K2) (KN : KF) (KE : KX) : ∀ F h, evX fx38 C lf [1, 1] F h KN (fun F h => r (F 8) (F 9) h) KE = q38_89 C lf r (F 0) (F 2) (F 3) (F 10) (F 11) h := cSeq (a := subX fx38 [1, 1, 0]) (b := subX fx38 [1, 1, 1]) (by kernel_rfl) (B := (fun F h => q38_84 C lf r (F 0) (F 2) (F 3) (F 10) h)) (q38_84_eq C lf r KN KE) (q38_88_eq C lf (fun x0 x2 x3 x10 h => q38_84 C lf r x0 x2 x3 x10 h) r KE)
noncomputable def q38_95 (C : YC) (lf : Nat) (n : K5) (x0 x1 x2 x3 : O) (h : HW) : Rs :=
 ob x0 fun a90 =>
 ob x1 fun a91 =>
 bc (C (.fn 74) [a90, a91] h) fun y92 h92 =>
 ob (ext 0 y92) fun y93 =>
 ob (ext 1 y92) fun y94 =>
 n x0 x2 x3 (some y93) (some y94) h92
theorem q38_95_eq (C : YC) (lf : Nat) (n : K5) (KR : KF) (KE : KX) : ∀ F h, evX fx38 C lf [1, 0] F h (fun F h => n (F 0) (F 2) (F 3) (F 10) (F 11) h) KR KE = q38_95 C lf n (F 0) (F 1) (F 2) (F 3) h := by
  intro F h; kernel_rfl
noncomputable def q38_96 (C : YC) (lf : Nat) (r : K2) (x0 x1 x2 x3 : O) (h : HW) : Rs :=
 q38_95 C lf (fun x0 x2 x3 x10 x11 h => q38_89 C lf r x0 x2 x3 x10 x11 h) x0 x1 x2 x3 h
theorem q38_96_eq (C : YC) (lf : Nat) (r : K2) (KN : KF) (KE : KX) : ∀ F h, evX fx38 C lf [1] F h KN (fun F h => r (F 8) (F 9) h) KE = q38_96 C lf r (F 0) (F 1) (F 2) (F 3) h := cSeq (a := subX fx38 [1, 0]) (b := subX fx38 [1, 1]) (by kernel_rfl) (B := (fun F h => q38_89 C lf r (F 0) (F 2) (F 3) (F 10) (F 11) h)) (q38_89_eq C lf r KN KE) (q38_95_eq C lf (fun x0 x2 x3 x10 x11 h => q38_89 C lf r x0 x2 x3 x10 x11 h) (fun F h => r (F 8) (F 9) h) KE)
noncomputable def q38_97 (C : YC) (lf : Nat) (n : K4) (x0 x1 x2 x3 : O) (h : HW) : Rs :=
 n x0 x1 x2 x3 h
theorem q38_97_eq (C : YC) (lf : Nat) (n : K4) (KR : KF) (KE : KX) : ∀ F h, evX fx38 C lf [0] F h (fun F h => n (F 0) (F 1) (F 2) (F 3) h) KR KE = q38_97 C lf n (F 0) (F 1) (F 2) (F 3) h := by
  intro F h; kernel_rfl
noncomputable def q38_98 (C : YC) (lf : Nat) (r : K2) (x0 x1 x2 x3 : O) (h : HW) : Rs :=
 q38_97 C lf (fun x0 x1 x2 x3 h => q38_96 C lf r x0 x1 x2 x3 h) x0 x1 x2 x3 h
theorem q38_98_eq (C : YC) (lf : Nat) (r : K2) (KN : KF) (KE : KX) : ∀ F h, evX fx38 C lf [] F h KN (fun F h => r (F 8) (F 9) h) KE = q38_98 C lf r (F 0) (F 1) (F 2) (F 3) h := cSeq (a := subX fx38 [0]) (b := subX fx38 [1]) (by kernel_rfl) (B := (fun F h => q38_96 C lf r (F 0) (F 1) (F 2) (F 3) h)) (q38_96_eq C lf r KN KE) (q38_97_eq C lf (fun x0 x1 x2 x3 h => q38_96 C lf r x0 x1 x2 x3 h) (fun F h => r (F 8) (F 9) h) KE)
noncomputable def fs38 (C : YC) (lf : Nat) (a0 a1 a2 a3 : SV) (h : HW) : Rs := q38_98 C lf ff38 (some a0) (some a1) (some a2) (some a3) h
theorem fs38_eq (C : YC) (lf : Nat) (a0 a1 a2 a3 : SV) (h : HW) : yFn Tryd.prog fx38 C lf [a0, a1, a2, a3] h = fs38 C lf a0 a1 a2 a3 h := fnX (K := (fun F h => ff38 (F 8) (F 9) h)) (by kernel_rfl) (((q38_98_eq C lf ff38 (fun F h => ff38 (F 8) (F 9) h) (fun _ _ _ => none)) _ h).trans (by kernel_rfl))
noncomputable def fy38 : YX Tryd.prog := Y4 fx38 fs38 fs38_eq (by kernel_rfl)
noncomputable def fx41 : XF Tryd.prog := ⟨41, Tryd.f41, fun _ => .text, Tryd.func41, by kernel_rfl, by kernel_rfl, by kernel_rfl, by kernel_rfl⟩
noncomputable def ff41 (x8 x9 : O) (h : HW) : Rs :=
 ob x8 fun a0 =>
 ob x9 fun a1 =>
 some (.ret (.tup [a0, a1]), h)
noncomputable def q41_3 (C : YC) (lf : Nat) (r : K2) (x13 : O) (h : HW) : Rs :=
 ob x13 fun a2 =>
 r (some a2) (some (.int .i64 0)) h
theorem q41_3_eq (C : YC) (lf : Nat) (r : K2) (KN : KF) (KE : KX) : ∀ F h, evX fx41 C lf [1, 1, 1, 1, 1, 1, 1, 1, 1] F h KN (fun F h => r (F 8) (F 9) h) KE = q41_3 C lf r (F 13) h := by
  intro F h; kernel_rfl
noncomputable def q41_40 (C : YC) (lf : Nat) (n : K5) (e0 : K1) (x0 x2 x10 x12 x13 : O) (h : HW) : Rs :=
 ob x2 fun a5 =>
 ob x12 fun a6 =>
 ob (bin Tryd.prog .lss 3 a5 a6) fun y7 =>
 yIf y7
 (ob x2 fun a8 =>
 ob (bin Tryd.prog .quo 3 a8 (.int .i64 64)) fun y9 =>
 ob x2 fun a10 =>
 ob (bin Tryd.prog .rem 3 a10 (.int .i64 64)) fun y11 =>
 ob (bin Tryd.prog .sub 3 (.int .i64 64) y11) fun y12 =>
 ob x12 fun a13 =>
 ob x2 fun a14 =>
 ob (bin Tryd.prog .sub 3 a13 a14) fun y15 =>
 b2 (ybl Tryd.prog .min #[3, 3] [y12, y15] h) fun y16 h16 =>
 ob x10 fun a17 =>
 bc (C (.fn 76) [a17, y9] h16) fun y18 h18 =>
 ob (semNil y18) fun y19 =>
 ob (ld1 y19 h18) fun y20 =>
 ob (bin Tryd.prog .gtr 3 y20 (.int .i64 0)) fun y21 =>
 yIf y21
 (ob x0 fun a22 =>
 ob (semNil a22) fun y23 =>
 ob (fa 0 y23) fun y24 =>
 ob (ld1 y24 h18) fun y25 =>
 ob (bin Tryd.prog .sub 3 y20 (.int .i64 1)) fun y26 =>
 bc (C (.fn 21) [y25, y26] h18) fun y27 h27 =>
 ob (ext 0 y27) fun y28 =>
 ob (ext 1 y27) fun y29 =>
 ob x13 fun a30 =>
 ob (bin Tryd.prog .add 3 y11 y16) fun y31 =>
 ob (semSlice Tryd.prog 24 y28 (some y11) (some y31)) fun y32 =>
 b2 (ybl Tryd.prog .append #[24, 24] [a30, y32] h27) fun y33 h33 =>
 ob x2 fun a34 =>
 ob (bin Tryd.prog .add 3 a34 y16) fun y35 =>
 n x0 (some y35) x10 x12 (some y33) h33)
 (ob x13 fun a36 =>
 b2 (ybl Tryd.prog .append #[24, 3] [a36, y16] h18) fun y37 h37 =>
 ob x2 fun a38 =>
 ob (bin Tryd.prog .add 3 a38 y16) fun y39 =>
 n x0 (some y39) x10 x12 (some y37) h37))
 (e0 x13 h)
theorem q41_40_eq (C : YC) (lf : Nat) (n : K5) (e0 : K1) (KR : KF) (KE : KX) : ∀ F h, evX fx41 C lf [1, 1, 1, 1, 1, 1, 1, 1, 0, 0, 0] F h (fun F h => n (F 0) (F 2) (F 10) (F 12) (F 13) h) KR (bk 0 (fun F h => e0 (F 13) h) KE) = q41_40 C lf n e0 (F 0) (F 2) (F 10) (F 12) (F 13) h := by
  intro F h; kernel_rfl
noncomputable def l41_4 (C : YC) (lf : Nat) (e0 : K1) (k : O × O × O × O × O → HW → Rs) (s : O × O × O × O × O) (h : HW) : Rs :=
 q41_40 C lf (fun x0 x2 x10 x12 x13 h => k (x0, x2, x10, x12, x13) h) e0 s.1 s.2.1 s.2.2.1 s.2.2.2.1 s.2.2.2.2 h
noncomputable def q41_41 (C : YC) (lf : Nat) (r : K2) (x0 x2 x10 x12 x13 : O) (h : HW) : Rs :=
 lp (l41_4 C lf (fun x13 h => q41_3 C lf r x13 h)) lf (x0, x2, x10, x12, x13) h
theorem q41_41_eq (C : YC) (lf : Nat) (r : K2) (KN : KF) (KE : KX) : ∀ F h, evX fx41 C lf [1, 1, 1, 1, 1, 1, 1, 1] F h KN (fun F h => r (F 8) (F 9) h) KE = q41_41 C lf r (F 0) (F 2) (F 10) (F 12) (F 13) h := cSeq (a := subX fx41 [1, 1, 1, 1, 1, 1, 1, 1, 0]) (b := subX fx41 [1, 1, 1, 1, 1, 1, 1, 1, 1]) (by kernel_rfl) (B := (fun F h => q41_3 C lf r (F 13) h)) (q41_3_eq C lf r KN KE) (cBlock (id := 0) (a := subX fx41 [1, 1, 1, 1, 1, 1, 1, 1, 0, 0]) (by kernel_rfl) (cLoop (a := subX fx41 [1, 1, 1, 1, 1, 1, 1, 1, 0, 0, 0]) (g := fun F => (F 0, F 2, F 10, F 12, F 13)) (body := l41_4 C lf (fun x13 h => q41_3 C lf r x13 h)) (by kernel_rfl) (fun k => (q41_40_eq C lf (fun x0 x2 x10 x12 x13 h => k (x0, x2, x10, x12, x13) h) (fun x13 h => q41_3 C lf r x13 h) (fun F h => r (F 8) (F 9) h) KE))))
noncomputable def q41_46 (C : YC) (lf : Nat) (n : K5) (x0 x2 x10 x12 : O) (h : HW) : Rs :=
 ob x12 fun a42 =>
 ob x2 fun a43 =>
 ob (bin Tryd.prog .sub 3 a42 a43) fun y44 =>
 b2 (ymk Tryd.prog 24 (.int .i64 0) y44 h) fun y45 h45 =>
 n x0 x2 x10 x12 (some y45) h45
theorem q41_46_eq (C : YC) (lf : Nat) (n : K5) (KR : KF) (KE : KX) : ∀ F h, evX fx41 C lf [1, 1, 1, 1, 1, 1, 1, 0] F h (fun F h => n (F 0) (F 2) (F 10) (F 12) (F 13) h) KR KE = q41_46 C lf n (F 0) (F 2) (F 10) (F 12) h := by
  intro F h; kernel_rfl
noncomputable def q41_47 (C : YC) (lf : Nat) (r : K2) (x0 x2 x10 x12 : O) (h : HW) : Rs :=
 q41_46 C lf (fun x0 x2 x10 x12 x13 h => q41_41 C lf r x0 x2 x10 x12 x13 h) x0 x2 x10 x12 h
theorem q41_47_eq (C : YC) (lf : Nat) (r : K2) (KN : KF) (KE : KX) : ∀ F h, evX fx41 C lf [1, 1, 1, 1, 1, 1, 1] F h KN (fun F h => r (F 8) (F 9) h) KE = q41_47 C lf r (F 0) (F 2) (F 10) (F 12) h := cSeq (a := subX fx41 [1, 1, 1, 1, 1, 1, 1, 0]) (b := subX fx41 [1, 1, 1, 1, 1, 1, 1, 1]) (by kernel_rfl) (B := (fun F h => q41_41 C lf r (F 0) (F 2) (F 10) (F 12) (F 13) h)) (q41_41_eq C lf r KN KE) (q41_46_eq C lf (fun x0 x2 x10 x12 x13 h => q41_41 C lf r x0 x2 x10 x12 x13 h) (fun F h => r (F 8) (F 9) h) KE)
noncomputable def q41_56 (C : YC) (lf : Nat) (n : K4) (x0 x2 x3 x10 x12 : O) (h : HW) : Rs :=
 ob x3 fun a48 =>
 ob x12 fun a49 =>
 ob x2 fun a50 =>
 ob (bin Tryd.prog .sub 3 a49 a50) fun y51 =>
 ob (bin Tryd.prog .lss 3 a48 y51) fun y52 =>
 yIf y52
 (ob x2 fun a53 =>
 ob x3 fun a54 =>
 ob (bin Tryd.prog .add 3 a53 a54) fun y55 =>
 n x0 x2 x10 (some y55) h)
 (n x0 x2 x10 x12 h)
theorem q41_56_eq (C : YC) (lf : Nat) (n : K4) (KR : KF) (KE : KX) : ∀ F h, evX fx41 C lf [1, 1, 1, 1, 1, 1, 0] F h (fun F h => n (F 0) (F 2) (F 10) (F 12) h) KR KE = q41_56 C lf n (F 0) (F 2) (F 3) (F 10) (F 12) h := by
  intro F h; kernel_rfl
noncomputable def q41_57 (C : YC) (lf : Nat) (r : K2) (x0 x2 x3 x10 x12 : O) (h : HW) : Rs :=
 q41_56 C lf (fun x0 x2 x10 x12 h => q41_47 C lf r x0 x2 x10 x12 h) x0 x2 x3 x10 x12 h
theorem q41_57_eq (C : YC) (lf : Nat) (r : K2) (KN : KF) (KE : KX) : ∀ F h, evX fx41 C lf [1, 1, 1, 1, 1, 1] F h KN (fun F h => r (F 8) (F 9) h) KE = q41_57 C lf r (F 0) (F 2) (F 3) (F 10) (F 12) h := cSeq (a := subX fx41 [1, 1, 1, 1, 1, 1, 0]) (b := subX fx41 [1, 1, 1, 1, 1, 1, 1]) (by kernel_rfl) (B := (fun F h => q41_47 C lf r (F 0) (F 2) (F 10) (F 12) h)) (q41_47_eq C lf r KN KE) (q41_56_eq C lf (fun x0 x2 x10 x12 h => q41_47 C lf r x0 x2 x10 x12 h) (fun F h => r (F 8) (F 9) h) KE)
noncomputable def q41_63 (C : YC) (lf : Nat) (n : K5) (x0 x2 x3 x10 : O) (h : HW) : Rs :=
 ob x10 fun a58 =>
 ob (semNil a58) fun y59 =>
 ob (fa 1 y59) fun y60 =>
 ob (fa 4 y60) fun y61 =>
 ob (ld1 y61 h) fun y62 =>
 n x0 x2 x3 x10 (some y62) h
theorem q41_63_eq (C : YC) (lf : Nat) (n : K5) (KR : KF) (KE : KX) : ∀ F h, evX fx41 C lf [1, 1, 1, 1, 1, 0] F h (fun F h => n (F 0) (F 2) (F 3) (F 10) (F 12) h) KR KE = q41_63 C lf n (F 0) (F 2) (F 3) (F 10) h := by
  intro F h; kernel_rfl
noncomputable def q41_64 (C : YC) (lf : Nat) (r : K2) (x0 x2 x3 x10 : O) (h : HW) : Rs :=
 q41_63 C lf (fun x0 x2 x3 x10 x12 h => q41_57 C lf r x0 x2 x3 x10 x12 h) x0 x2 x3 x10 h
theorem q41_64_eq (C : YC) (lf : Nat) (r : K2) (KN : KF) (KE : KX) : ∀ F h, evX fx41 C lf [1, 1, 1, 1, 1] F h KN (fun F h => r (F 8) (F 9) h) KE = q41_64 C lf r (F 0) (F 2) (F 3) (F 10) h := cSeq (a := subX fx41 [1, 1, 1, 1, 1, 0]) (b := subX fx41 [1, 1, 1, 1, 1, 1]) (by kernel_rfl) (B := (fun F h => q41_57 C lf r (F 0) (F 2) (F 3) (F 10) (F 12) h)) (q41_57_eq C lf r KN KE) (q41_63_eq C lf (fun x0 x2 x3 x10 x12 h => q41_57 C lf r x0 x2 x3 x10 x12 h) (fun F h => r (F 8) (F 9) h) KE)
noncomputable def q41_72 (C : YC) (lf : Nat) (n : K4) (r : K2) (x0 x2 x3 x10 : O) (h : HW) : Rs :=
 ob x2 fun a65 =>
 ob x10 fun a66 =>
 ob (semNil a66) fun y67 =>
 ob (fa 1 y67) fun y68 =>
 ob (fa 4 y68) fun y69 =>
 ob (ld1 y69 h) fun y70 =>
 ob (bin Tryd.prog .geq 3 a65 y70) fun y71 =>
 yIf y71
 (r (some (.val (.slice none 0 0))) (some (.int .i64 0)) h)
 (n x0 x2 x3 x10 h)
theorem q41_72_eq (C : YC) (lf : Nat) (n : K4) (r : K2) (KE : KX) : ∀ F h, evX fx41 C lf [1, 1, 1, 1, 0] F h (fun F h => n (F 0) (F 2) (F 3) (F 10) h) (fun F h => r (F 8) (F 9) h) KE = q41_72 C lf n r (F 0) (F 2) (F 3) (F 10) h := by
  intro F h; kernel_rfl
noncomputable def q41_73 (C : YC) (lf : Nat) (r : K2) (x0 x2 x3 x10 : O) (h : HW) : Rs :=
 q41_72 C lf (fun x0 x2 x3 x10 h => q41_64 C lf r x0 x2 x3 x10 h) r x0 x2 x3 x10 h
theorem q41_73_eq (C : YC) (lf : Nat) (r : K2) (KN : KF) (KE : KX) : ∀ F h, evX fx41 C lf [1, 1, 1, 1] F h KN (fun F h => r (F 8) (F 9) h) KE = q41_73 C lf r (F 0) (F 2) (F 3) (F 10) h := cSeq (a := subX fx41 [1, 1, 1, 1, 0]) (b := subX fx41 [1, 1, 1, 1, 1]) (by kernel_rfl) (B := (fun F h => q41_64 C lf r (F 0) (F 2) (F 3) (F 10) h)) (q41_64_eq C lf r KN KE) (q41_72_eq C lf (fun x0 x2 x3 x10 h => q41_64 C lf r x0 x2 x3 x10 h) r KE)
noncomputable def q41_81 (C : YC) (lf : Nat) (n : K4) (r : K2) (x0 x2 x3 x10 : O) (h : HW) : Rs :=
 ob x2 fun a74 =>
 ob (bin Tryd.prog .lss 3 a74 (.int .i64 0)) fun y75 =>
 bc (gd false (some y75) (ob x3 fun a76 =>
 some (.ret a76, h)) h) fun y77 h77 =>
 bc (gd false (some y75) (ob (bin Tryd.prog .lss 3 y77 (.int .i64 0)) fun y78 =>
 some (.ret y78, h77)) h77) fun y79 h79 =>
 ob (ypk y75 (.bool true) y79) fun y80 =>
 yIf y80
 (r (some (.val (.slice none 0 0))) (some (.int .i64 22)) h79)
 (n x0 x2 x3 x10 h79)
theorem q41_81_eq (C : YC) (lf : Nat) (n : K4) (r : K2) (KE : KX) : ∀ F h, evX fx41 C lf [1, 1, 1, 0] F h (fun F h => n (F 0) (F 2) (F 3) (F 10) h) (fun F h => r (F 8) (F 9) h) KE = q41_81 C lf n r (F 0) (F 2) (F 3) (F 10) h := by
  intro F h; kernel_rfl
noncomputable def q41_82 (C : YC) (lf : Nat) (r : K2) (x0 x2 x3 x10 : O) (h : HW) : Rs :=
 q41_81 C lf (fun x0 x2 x3 x10 h => q41_73 C lf r x0 x2 x3 x10 h) r x0 x2 x3 x10 h
theorem q41_82_eq (C : YC) (lf : Nat) (r : K2) (KN : KF) (KE : KX) : ∀ F h, evX fx41 C lf [1, 1, 1] F h KN (fun F h => r (F 8) (F 9) h) KE = q41_82 C lf r (F 0) (F 2) (F 3) (F 10) h := cSeq (a := subX fx41 [1, 1, 1, 0]) (b := subX fx41 [1, 1, 1, 1]) (by kernel_rfl) (B := (fun F h => q41_73 C lf r (F 0) (F 2) (F 3) (F 10) h)) (q41_73_eq C lf r KN KE) (q41_81_eq C lf (fun x0 x2 x3 x10 h => q41_73 C lf r x0 x2 x3 x10 h) r KE)
noncomputable def q41_86 (C : YC) (lf : Nat) (n : K4) (r : K2) (x0 x2 x3 x10 x11 : O) (h : HW) : Rs :=
 ob x11 fun a83 =>
 ob (bin Tryd.prog .neq 26 a83 (.int .i64 0)) fun y84 =>
 yIf y84
 (ob x11 fun a85 =>
 r (some (.val (.slice none 0 0))) (some a85) h)
 (n x0 x2 x3 x10 h)
theorem q41_86_eq (C : YC) (lf : Nat) (n : K4) (r : K2) (KE : KX) : ∀ F h, evX fx41 C lf [1, 1, 0] F h (fun F h => n (F 0) (F 2) (F 3) (F 10) h) (fun F h => r (F 8) (F 9) h) KE = q41_86 C lf n r (F 0) (F 2) (F 3) (F 10) (F 11) h := by
  intro F h; kernel_rfl
noncomputable def q41_87 (C : YC) (lf : Nat) (r : K2) (x0 x2 x3 x10 x11 : O) (h : HW) : Rs :=
 q41_86 C lf (fun x0 x2 x3 x10 h => q41_82 C lf r x0 x2 x3 x10 h) r x0 x2 x3 x10 x11 h
theorem q41_87_eq (C : YC) (lf : Nat) (r : K2) (KN : KF) (KE : KX) : ∀ F h, evX fx41 C lf [1, 1] F h KN (fun F h => r (F 8) (F 9) h) KE = q41_87 C lf r (F 0) (F 2) (F 3) (F 10) (F 11) h := cSeq (a := subX fx41 [1, 1, 0]) (b := subX fx41 [1, 1, 1]) (by kernel_rfl) (B := (fun F h => q41_82 C lf r (F 0) (F 2) (F 3) (F 10) h)) (q41_82_eq C lf r KN KE) (q41_86_eq C lf (fun x0 x2 x3 x10 h => q41_82 C lf r x0 x2 x3 x10 h) r KE)
noncomputable def q41_93 (C : YC) (lf : Nat) (n : K5) (x0 x1 x2 x3 : O) (h : HW) : Rs :=
 ob x0 fun a88 =>
 ob x1 fun a89 =>
 bc (C (.fn 74) [a88, a89] h) fun y90 h90 =>
 ob (ext 0 y90) fun y91 =>
 ob (ext 1 y90) fun y92 =>
 n x0 x2 x3 (some y91) (some y92) h90
theorem q41_93_eq (C : YC) (lf : Nat) (n : K5) (KR : KF) (KE : KX) : ∀ F h, evX fx41 C lf [1, 0] F h (fun F h => n (F 0) (F 2) (F 3) (F 10) (F 11) h) KR KE = q41_93 C lf n (F 0) (F 1) (F 2) (F 3) h := by
  intro F h; kernel_rfl
noncomputable def q41_94 (C : YC) (lf : Nat) (r : K2) (x0 x1 x2 x3 : O) (h : HW) : Rs :=
 q41_93 C lf (fun x0 x2 x3 x10 x11 h => q41_87 C lf r x0 x2 x3 x10 x11 h) x0 x1 x2 x3 h
theorem q41_94_eq (C : YC) (lf : Nat) (r : K2) (KN : KF) (KE : KX) : ∀ F h, evX fx41 C lf [1] F h KN (fun F h => r (F 8) (F 9) h) KE = q41_94 C lf r (F 0) (F 1) (F 2) (F 3) h := cSeq (a := subX fx41 [1, 0]) (b := subX fx41 [1, 1]) (by kernel_rfl) (B := (fun F h => q41_87 C lf r (F 0) (F 2) (F 3) (F 10) (F 11) h)) (q41_87_eq C lf r KN KE) (q41_93_eq C lf (fun x0 x2 x3 x10 x11 h => q41_87 C lf r x0 x2 x3 x10 x11 h) (fun F h => r (F 8) (F 9) h) KE)
noncomputable def q41_95 (C : YC) (lf : Nat) (n : K4) (x0 x1 x2 x3 : O) (h : HW) : Rs :=
 n x0 x1 x2 x3 h
theorem q41_95_eq (C : YC) (lf : Nat) (n : K4) (KR : KF) (KE : KX) : ∀ F h, evX fx41 C lf [0] F h (fun F h => n (F 0) (F 1) (F 2) (F 3) h) KR KE = q41_95 C lf n (F 0) (F 1) (F 2) (F 3) h := by
  intro F h; kernel_rfl
noncomputable def q41_96 (C : YC) (lf : Nat) (r : K2) (x0 x1 x2 x3 : O) (h : HW) : Rs :=
 q41_95 C lf (fun x0 x1 x2 x3 h => q41_94 C lf r x0 x1 x2 x3 h) x0 x1 x2 x3 h
theorem q41_96_eq (C : YC) (lf : Nat) (r : K2) (KN : KF) (KE : KX) : ∀ F h, evX fx41 C lf [] F h KN (fun F h => r (F 8) (F 9) h) KE = q41_96 C lf r (F 0) (F 1) (F 2) (F 3) h := cSeq (a := subX fx41 [0]) (b := subX fx41 [1]) (by kernel_rfl) (B := (fun F h => q41_94 C lf r (F 0) (F 1) (F 2) (F 3) h)) (q41_94_eq C lf r KN KE) (q41_95_eq C lf (fun x0 x1 x2 x3 h => q41_94 C lf r x0 x1 x2 x3 h) (fun F h => r (F 8) (F 9) h) KE)
noncomputable def fs41 (C : YC) (lf : Nat) (a0 a1 a2 a3 : SV) (h : HW) : Rs := q41_96 C lf ff41 (some a0) (some a1) (some a2) (some a3) h
theorem fs41_eq (C : YC) (lf : Nat) (a0 a1 a2 a3 : SV) (h : HW) : yFn Tryd.prog fx41 C lf [a0, a1, a2, a3] h = fs41 C lf a0 a1 a2 a3 h := fnX (K := (fun F h => ff41 (F 8) (F 9) h)) (by kernel_rfl) (((q41_96_eq C lf ff41 (fun F h => ff41 (F 8) (F 9) h) (fun _ _ _ => none)) _ h).trans (by kernel_rfl))
noncomputable def fy41 : YX Tryd.prog := Y4 fx41 fs41 fs41_eq (by kernel_rfl)
noncomputable def fx75 : XF Tryd.prog := ⟨75, Tryd.f75, fun _ => .text, Tryd.func75, by kernel_rfl, by kernel_rfl, by kernel_rfl, by kernel_rfl⟩
noncomputable def ff75 (x6 : O) (h : HW) : Rs :=
 ob x6 fun a0 =>
 some (.ret a0, h)
noncomputable def q75_1 (C : YC) (lf : Nat) (r : K1) (h : HW) : Rs :=
 r (some (.bool true)) h
theorem q75_1_eq (C : YC) (lf : Nat) (r : K1) (KN : KF) (KE : KX) : ∀ F h, evX fx75 C lf [1, 1, 1, 1, 1, 1] F h KN (fun F h => r (F 6) h) KE = q75_1 C lf r h := by
  intro F h; kernel_rfl
noncomputable def q75_37 (C : YC) (lf : Nat) (n : K6) (r : K1) (e1 : K0) (x3 x8 x9 x50 x51 x52 : O) (h : HW) : Rs :=
 ob x52 fun a3 =>
 ob x51 fun a4 =>
 ob (bin Tryd.prog .lss 3 a3 a4) fun y5 =>
 yIf y5
 (ob x50 fun a6 =>
 ob x52 fun a7 =>
 ob (ixS 1 a6 a7) fun y8 =>
 ob (ld1 y8 h) fun y9 =>
 ob (semNil y9) fun y10 =>
 ob (ld1 y10 h) fun y11 =>
 ob (bin Tryd.prog .gtr 3 y11 (.int .i64 0)) fun y12 =>
 yIf y12
 (ob x52 fun a13 =>
 ob (bin Tryd.prog .add 3 a13 (.int .i64 1)) fun y14 =>
 n x3 x8 x9 x50 x51 (some y14) h)
 (ob x3 fun a15 =>
 ob (ld1 a15 h) fun y16 =>
 ob (semNil y16) fun y17 =>
 ob (fa 0 y17) fun y18 =>
 ob (ld1 y18 h) fun y19 =>
 bc (C (.fn 17) [y19] h) fun y20 h20 =>
 ob (ext 0 y20) fun y21 =>
 ob (ext 1 y20) fun y22 =>
 ob (bin Tryd.prog .neq 26 y22 (.int .i64 0)) fun y23 =>
 yIf y23
 (ob x9 fun a24 =>
 cv false C a24 [] h20 fun y25 h25 =>
 r (some (.bool false)) h25)
 (ob (bin Tryd.prog .add 3 y21 (.int .i64 1)) fun y26 =>
 ob (semNil y9) fun y27 =>
 ob (st 1 y27 y26 h20) fun h28 =>
 ob x8 fun a29 =>
 ob (ld1 a29 h28) fun y30 =>
 b2 (ybs Tryd.prog 143 1 [0] [y9] h28) fun y31 h31 =>
 b2 (ybl Tryd.prog .append #[143, 143] [y30, y31] h31) fun y32 h32 =>
 ob x8 fun a33 =>
 ob (st 1 a33 y32 h32) fun h34 =>
 ob x52 fun a35 =>
 ob (bin Tryd.prog .add 3 a35 (.int .i64 1)) fun y36 =>
 n x3 x8 x9 x50 x51 (some y36) h34)))
 (e1 h)
theorem q75_37_eq (C : YC) (lf : Nat) (n : K6) (r : K1) (e1 : K0) (KE : KX) : ∀ F h, evX fx75 C lf [1, 1, 1, 1, 1, 0, 1, 0, 0] F h (fun F h => n (F 3) (F 8) (F 9) (F 50) (F 51) (F 52) h) (fun F h => r (F 6) h) (bk 1 (fun F h => e1 h) KE) = q75_37 C lf n r e1 (F 3) (F 8) (F 9) (F 50) (F 51) (F 52) h := by
  intro F h; kernel_rfl
noncomputable def l75_2 (C : YC) (lf : Nat) (r : K1) (e1 : K0) (k : O × O × O × O × O × O → HW → Rs) (s : O × O × O × O × O × O) (h : HW) : Rs :=
 q75_37 C lf (fun x3 x8 x9 x50 x51 x52 h => k (x3, x8, x9, x50, x51, x52) h) r e1 s.1 s.2.1 s.2.2.1 s.2.2.2.1 s.2.2.2.2.1 s.2.2.2.2.2 h
noncomputable def q75_45 (C : YC) (lf : Nat) (n : K6) (x1 x2 x3 x7 x8 x9 : O) (h : HW) : Rs :=
 ob x7 fun a38 =>
 ob x1 fun a39 =>
 ob x2 fun a40 =>
 bc (C (.fn 76) [a39, a40] h) fun y41 h41 =>
 b2 (ybs Tryd.prog 143 1 [0] [y41] h41) fun y42 h42 =>
 b2 (ybl Tryd.prog .append #[143, 143] [a38, y42] h42) fun y43 h43 =>
 ob (lenE Tryd.prog 143 y43) fun y44 =>
 n x3 x8 x9 (some y43) (some y44) (some (.int .i64 0)) h43
theorem q75_45_eq (C : YC) (lf : Nat) (n : K6) (KR : KF) (KE : KX) : ∀ F h, evX fx75 C lf [1, 1, 1, 1, 1, 0, 0] F h (fun F h => n (F 3) (F 8) (F 9) (F 50) (F 51) (F 52) h) KR KE = q75_45 C lf n (F 1) (F 2) (F 3) (F 7) (F 8) (F 9) h := by
  intro F h; kernel_rfl
noncomputable def q75_46 (C : YC) (lf : Nat) (n : K0) (r : K1) (x1 x2 x3 x7 x8 x9 : O) (h : HW) : Rs :=
 q75_45 C lf (fun x3 x8 x9 x50 x51 x52 h => lp (l75_2 C lf r n) lf (x3, x8, x9, x50, x51, x52) h) x1 x2 x3 x7 x8 x9 h
theorem q75_46_eq (C : YC) (lf : Nat) (n : K0) (r : K1) (KE : KX) : ∀ F h, evX fx75 C lf [1, 1, 1, 1, 1, 0] F h (fun F h => n h) (fun F h => r (F 6) h) KE = q75_46 C lf n r (F 1) (F 2) (F 3) (F 7) (F 8) (F 9) h := cSeq (a := subX fx75 [1, 1, 1, 1, 1, 0, 0]) (b := subX fx75 [1, 1, 1, 1, 1, 0, 1]) (by kernel_rfl) (B := (fun F h => lp (l75_2 C lf r n) lf ((F 3), (F 8), (F 9), (F 50), (F 51), (F 52)) h)) (cBlock (id := 1) (a := subX fx75 [1, 1, 1, 1, 1, 0, 1, 0]) (by kernel_rfl) (cLoop (a := subX fx75 [1, 1, 1, 1, 1, 0, 1, 0, 0]) (g := fun F => (F 3, F 8, F 9, F 50, F 51, F 52)) (body := l75_2 C lf r n) (by kernel_rfl) (fun k => (q75_37_eq C lf (fun x3 x8 x9 x50 x51 x52 h => k (x3, x8, x9, x50, x51, x52) h) r n KE)))) (q75_45_eq C lf (fun x3 x8 x9 x50 x51 x52 h => lp (l75_2 C lf r n) lf (x3, x8, x9, x50, x51, x52) h) (fun F h => r (F 6) h) KE)
noncomputable def q75_47 (C : YC) (lf : Nat) (r : K1) (x1 x2 x3 x7 x8 x9 : O) (h : HW) : Rs :=
 q75_46 C lf (fun h => q75_1 C lf r h) r x1 x2 x3 x7 x8 x9 h
theorem q75_47_eq (C : YC) (lf : Nat) (r : K1) (KN : KF) (KE : KX) : ∀ F h, evX fx75 C lf [1, 1, 1, 1, 1] F h KN (fun F h => r (F 6) h) KE = q75_47 C lf r (F 1) (F 2) (F 3) (F 7) (F 8) (F 9) h := cSeq (a := subX fx75 [1, 1, 1, 1, 1, 0]) (b := subX fx75 [1, 1, 1, 1, 1, 1]) (by kernel_rfl) (B := (fun F h => q75_1 C lf r h)) (q75_1_eq C lf r KN KE) (q75_46_eq C lf (fun h => q75_1 C lf r h) r KE)
noncomputable def q75_50 (C : YC) (lf : Nat) (n : K6) (x1 x2 x3 x7 x8 : O) (h : HW) : Rs :=
 ob x8 fun a48 =>
 ob x3 fun a49 =>
 n x1 x2 x3 x7 x8 (some (.fn (.func 90) [] [a48, a49])) h
theorem q75_50_eq (C : YC) (lf : Nat) (n : K6) (KR : KF) (KE : KX) : ∀ F h, evX fx75 C lf [1, 1, 1, 1, 0] F h (fun F h => n (F 1) (F 2) (F 3) (F 7) (F 8) (F 9) h) KR KE = q75_50 C lf n (F 1) (F 2) (F 3) (F 7) (F 8) h := by
  intro F h; kernel_rfl
noncomputable def q75_51 (C : YC) (lf : Nat) (r : K1) (x1 x2 x3 x7 x8 : O) (h : HW) : Rs :=
 q75_50 C lf (fun x1 x2 x3 x7 x8 x9 h => q75_47 C lf r x1 x2 x3 x7 x8 x9 h) x1 x2 x3 x7 x8 h
theorem q75_51_eq (C : YC) (lf : Nat) (r : K1) (KN : KF) (KE : KX) : ∀ F h, evX fx75 C lf [1, 1, 1, 1] F h KN (fun F h => r (F 6) h) KE = q75_51 C lf r (F 1) (F 2) (F 3) (F 7) (F 8) h := cSeq (a := subX fx75 [1, 1, 1, 1, 0]) (b := subX fx75 [1, 1, 1, 1, 1]) (by kernel_rfl) (B := (fun F h => q75_47 C lf r (F 1) (F 2) (F 3) (F 7) (F 8) (F 9) h)) (q75_47_eq C lf r KN KE) (q75_50_eq C lf (fun x1 x2 x3 x7 x8 x9 h => q75_47 C lf r x1 x2 x3 x7 x8 x9 h) (fun F h => r (F 6) h) KE)
noncomputable def q75_53 (C : YC) (lf : Nat) (n : K5) (x1 x2 x3 x7 : O) (h : HW) : Rs :=
 b2 (yAl Tryd.prog 143 h) fun y52 h52 =>
 n x1 x2 x3 x7 (some y52) h52
theorem q75_53_eq (C : YC) (lf : Nat) (n : K5) (KR : KF) (KE : KX) : ∀ F h, evX fx75 C lf [1, 1, 1, 0] F h (fun F h => n (F 1) (F 2) (F 3) (F 7) (F 8) h) KR KE = q75_53 C lf n (F 1) (F 2) (F 3) (F 7) h := by
  intro F h; kernel_rfl
noncomputable def q75_54 (C : YC) (lf : Nat) (r : K1) (x1 x2 x3 x7 : O) (h : HW) : Rs :=
 q75_53 C lf (fun x1 x2 x3 x7 x8 h => q75_51 C lf r x1 x2 x3 x7 x8 h) x1 x2 x3 x7 h
theorem q75_54_eq (C : YC) (lf : Nat) (r : K1) (KN : KF) (KE : KX) : ∀ F h, evX fx75 C lf [1, 1, 1] F h KN (fun F h => r (F 6) h) KE = q75_54 C lf r (F 1) (F 2) (F 3) (F 7) h := cSeq (a := subX fx75 [1, 1, 1, 0]) (b := subX fx75 [1, 1, 1, 1]) (by kernel_rfl) (B := (fun F h => q75_51 C lf r (F 1) (F 2) (F 3) (F 7) (F 8) h)) (q75_51_eq C lf r KN KE) (q75_53_eq C lf (fun x1 x2 x3 x7 x8 h => q75_51 C lf r x1 x2 x3 x7 x8 h) (fun F h => r (F 6) h) KE)
noncomputable def q75_82 (C : YC) (lf : Nat) (n : K4) (r : K1) (x1 x2 x3 x7 : O) (h : HW) : Rs :=
 ob x1 fun a55 =>
 ob x2 fun a56 =>
 bc (C (.fn 76) [a55, a56] h) fun y57 h57 =>
 ob (semNil y57) fun y58 =>
 ob (ld1 y58 h57) fun y59 =>
 ob (bin Tryd.prog .gtr 3 y59 (.int .i64 0)) fun y60 =>
 yIf y60
 (r (some (.bool true)) h57)
 (ob x2 fun a61 =>
 ob (bin Tryd.prog .geq 3 a61 (.int .i64 22)) fun y62 =>
 yIf y62
 (ob x1 fun a63 =>
 ob (semNil a63) fun y64 =>
 ob (fa 35 y64) fun y65 =>
 ob x1 fun a66 =>
 ob x2 fun a67 =>
 ob (bin Tryd.prog .sub 3 a67 (.int .i64 22)) fun y68 =>
 ob (bin Tryd.prog .quo 3 y68 (.int .i64 16)) fun y69 =>
 ob (semNil a66) fun y70 =>
 ob (fa 36 y70) fun y71 =>
 ob (ixA 16 17 y71 y69) fun y72 =>
 ob (fa 0 y72) fun y73 =>
 b2 (ybs Tryd.prog 143 2 [0, 1] [y65, y73] h57) fun y74 h74 =>
 n x1 x2 x3 (some y74) h74)
 (ob x2 fun a75 =>
 ob (bin Tryd.prog .geq 3 a75 (.int .i64 6)) fun y76 =>
 yIf y76
 (ob x1 fun a77 =>
 ob (semNil a77) fun y78 =>
 ob (fa 18 y78) fun y79 =>
 ob (fa 0 y79) fun y80 =>
 b2 (ybs Tryd.prog 143 1 [0] [y80] h57) fun y81 h81 =>
 n x1 x2 x3 (some y81) h81)
 (n x1 x2 x3 x7 h57)))
theorem q75_82_eq (C : YC) (lf : Nat) (n : K4) (r : K1) (KE : KX) : ∀ F h, evX fx75 C lf [1, 1, 0] F h (fun F h => n (F 1) (F 2) (F 3) (F 7) h) (fun F h => r (F 6) h) KE = q75_82 C lf n r (F 1) (F 2) (F 3) (F 7) h := by
  intro F h; kernel_rfl
noncomputable def q75_83 (C : YC) (lf : Nat) (r : K1) (x1 x2 x3 x7 : O) (h : HW) : Rs :=
 q75_82 C lf (fun x1 x2 x3 x7 h => q75_54 C lf r x1 x2 x3 x7 h) r x1 x2 x3 x7 h
theorem q75_83_eq (C : YC) (lf : Nat) (r : K1) (KN : KF) (KE : KX) : ∀ F h, evX fx75 C lf [1, 1] F h KN (fun F h => r (F 6) h) KE = q75_83 C lf r (F 1) (F 2) (F 3) (F 7) h := cSeq (a := subX fx75 [1, 1, 0]) (b := subX fx75 [1, 1, 1]) (by kernel_rfl) (B := (fun F h => q75_54 C lf r (F 1) (F 2) (F 3) (F 7) h)) (q75_54_eq C lf r KN KE) (q75_82_eq C lf (fun x1 x2 x3 x7 h => q75_54 C lf r x1 x2 x3 x7 h) r KE)
noncomputable def q75_84 (C : YC) (lf : Nat) (n : K4) (x1 x2 x3 : O) (h : HW) : Rs :=
 n x1 x2 x3 (some (.val (.slice none 0 0))) h
theorem q75_84_eq (C : YC) (lf : Nat) (n : K4) (KR : KF) (KE : KX) : ∀ F h, evX fx75 C lf [1, 0] F h (fun F h => n (F 1) (F 2) (F 3) (F 7) h) KR KE = q75_84 C lf n (F 1) (F 2) (F 3) h := by
  intro F h; kernel_rfl
noncomputable def q75_85 (C : YC) (lf : Nat) (r : K1) (x1 x2 x3 : O) (h : HW) : Rs :=
 q75_84 C lf (fun x1 x2 x3 x7 h => q75_83 C lf r x1 x2 x3 x7 h) x1 x2 x3 h
theorem q75_85_eq (C : YC) (lf : Nat) (r : K1) (KN : KF) (KE : KX) : ∀ F h, evX fx75 C lf [1] F h KN (fun F h => r (F 6) h) KE = q75_85 C lf r (F 1) (F 2) (F 3) h := cSeq (a := subX fx75 [1, 0]) (b := subX fx75 [1, 1]) (by kernel_rfl) (B := (fun F h => q75_83 C lf r (F 1) (F 2) (F 3) (F 7) h)) (q75_83_eq C lf r KN KE) (q75_84_eq C lf (fun x1 x2 x3 x7 h => q75_83 C lf r x1 x2 x3 x7 h) (fun F h => r (F 6) h) KE)
noncomputable def q75_88 (C : YC) (lf : Nat) (n : K3) (x0 x1 x2 : O) (h : HW) : Rs :=
 ob x0 fun a86 =>
 b2 (ybx 64 a86 h) fun y87 h87 =>
 n x1 x2 (some y87) h87
theorem q75_88_eq (C : YC) (lf : Nat) (n : K3) (KR : KF) (KE : KX) : ∀ F h, evX fx75 C lf [0] F h (fun F h => n (F 1) (F 2) (F 3) h) KR KE = q75_88 C lf n (F 0) (F 1) (F 2) h := by
  intro F h; kernel_rfl
noncomputable def q75_89 (C : YC) (lf : Nat) (r : K1) (x0 x1 x2 : O) (h : HW) : Rs :=
 q75_88 C lf (fun x1 x2 x3 h => q75_85 C lf r x1 x2 x3 h) x0 x1 x2 h
theorem q75_89_eq (C : YC) (lf : Nat) (r : K1) (KN : KF) (KE : KX) : ∀ F h, evX fx75 C lf [] F h KN (fun F h => r (F 6) h) KE = q75_89 C lf r (F 0) (F 1) (F 2) h := cSeq (a := subX fx75 [0]) (b := subX fx75 [1]) (by kernel_rfl) (B := (fun F h => q75_85 C lf r (F 1) (F 2) (F 3) h)) (q75_85_eq C lf r KN KE) (q75_88_eq C lf (fun x1 x2 x3 h => q75_85 C lf r x1 x2 x3 h) (fun F h => r (F 6) h) KE)
noncomputable def fs75 (C : YC) (lf : Nat) (a0 a1 a2 : SV) (h : HW) : Rs := q75_89 C lf ff75 (some a0) (some a1) (some a2) h
theorem fs75_eq (C : YC) (lf : Nat) (a0 a1 a2 : SV) (h : HW) : yFn Tryd.prog fx75 C lf [a0, a1, a2] h = fs75 C lf a0 a1 a2 h := fnX (K := (fun F h => ff75 (F 6) h)) (by kernel_rfl) (((q75_89_eq C lf ff75 (fun F h => ff75 (F 6) h) (fun _ _ _ => none)) _ h).trans (by kernel_rfl))
noncomputable def fy75 : YX Tryd.prog := Y3 fx75 fs75 fs75_eq (by kernel_rfl)
noncomputable def fx90 : XF Tryd.prog := ⟨90, Tryd.f90, fun _ => .text, Tryd.func90, by kernel_rfl, by kernel_rfl, by kernel_rfl, by kernel_rfl⟩
noncomputable def ff90 (h : HW) : Rs :=
 some (.ret (.tup []), h)
noncomputable def q90_21 (C : YC) (lf : Nat) (n : K4) (e0 : K0) (x1 x4 x5 x6 : O) (h : HW) : Rs :=
 ob x6 fun a1 =>
 ob x5 fun a2 =>
 ob (bin Tryd.prog .lss 3 a1 a2) fun y3 =>
 yIf y3
 (ob x4 fun a4 =>
 ob x6 fun a5 =>
 ob (ixS 1 a4 a5) fun y6 =>
 ob (ld1 y6 h) fun y7 =>
 ob x1 fun a8 =>
 ob (ld1 a8 h) fun y9 =>
 ob (semNil y9) fun y10 =>
 ob (fa 0 y10) fun y11 =>
 ob (ld1 y11 h) fun y12 =>
 ob (semNil y7) fun y13 =>
 ob (ld1 y13 h) fun y14 =>
 ob (bin Tryd.prog .sub 3 y14 (.int .i64 1)) fun y15 =>
 bcn (C (.fn 23) [y12, y15] h) fun y16 h16 =>
 ob (semNil y7) fun y17 =>
 ob (st 1 y17 (.int .i64 0) h16) fun h18 =>
 ob x6 fun a19 =>
 ob (bin Tryd.prog .add 3 a19 (.int .i64 1)) fun y20 =>
 n x1 x4 x5 (some y20) h18)
 (e0 h)
theorem q90_21_eq (C : YC) (lf : Nat) (n : K4) (e0 : K0) (KR : KF) (KE : KX) : ∀ F h, evX fx90 C lf [1, 0, 0] F h (fun F h => n (F 1) (F 4) (F 5) (F 6) h) KR (bk 0 (fun F h => e0 h) KE) = q90_21 C lf n e0 (F 1) (F 4) (F 5) (F 6) h := by
  intro F h; kernel_rfl
noncomputable def l90_0 (C : YC) (lf : Nat) (e0 : K0) (k : O × O × O × O → HW → Rs) (s : O × O × O × O) (h : HW) : Rs :=
 q90_21 C lf (fun x1 x4 x5 x6 h => k (x1, x4, x5, x6) h) e0 s.1 s.2.1 s.2.2.1 s.2.2.2 h
noncomputable def q90_25 (C : YC) (lf : Nat) (n : K4) (x0 x1 : O) (h : HW) : Rs :=
 ob x0 fun a22 =>
 ob (ld1 a22 h) fun y23 =>
 ob (lenE Tryd.prog 143 y23) fun y24 =>
 n x1 (some y23) (some y24) (some (.int .i64 0)) h
theorem q90_25_eq (C : YC) (lf : Nat) (n : K4) (KR : KF) (KE : KX) : ∀ F h, evX fx90 C lf [0] F h (fun F h => n (F 1) (F 4) (F 5) (F 6) h) KR KE = q90_25 C lf n (F 0) (F 1) h := by
  intro F h; kernel_rfl
noncomputable def q90_26 (C : YC) (lf : Nat) (n : K0) (x0 x1 : O) (h : HW) : Rs :=
 q90_25 C lf (fun x1 x4 x5 x6 h => lp (l90_0 C lf n) lf (x1, x4, x5, x6) h) x0 x1 h
theorem q90_26_eq (C : YC) (lf : Nat) (n : K0) (KR : KF) (KE : KX) : ∀ F h, evX fx90 C lf [] F h (fun F h => n h) KR KE = q90_26 C lf n (F 0) (F 1) h := cSeq (a := subX fx90 [0]) (b := subX fx90 [1]) (by kernel_rfl) (B := (fun F h => lp (l90_0 C lf n) lf ((F 1), (F 4), (F 5), (F 6)) h)) (cBlock (id := 0) (a := subX fx90 [1, 0]) (by kernel_rfl) (cLoop (a := subX fx90 [1, 0, 0]) (g := fun F => (F 1, F 4, F 5, F 6)) (body := l90_0 C lf n) (by kernel_rfl) (fun k => (q90_21_eq C lf (fun x1 x4 x5 x6 h => k (x1, x4, x5, x6) h) n KR KE)))) (q90_25_eq C lf (fun x1 x4 x5 x6 h => lp (l90_0 C lf n) lf (x1, x4, x5, x6) h) KR KE)
noncomputable def fs90 (C : YC) (lf : Nat) (a0 a1 : SV) (h : HW) : Rs := q90_26 C lf ff90 (some a0) (some a1) h
theorem fs90_eq (C : YC) (lf : Nat) (a0 a1 : SV) (h : HW) : yFn Tryd.prog fx90 C lf [a0, a1] h = fs90 C lf a0 a1 h := fnX (K := (fun F h => ff90 h)) (by kernel_rfl) (((q90_26_eq C lf ff90 (fun F h => ff90 h) (fun _ _ _ => none)) _ h).trans (by kernel_rfl))
noncomputable def fy90 : YX Tryd.prog := Y2 fx90 fs90 fs90_eq (by kernel_rfl)
noncomputable def fx78 : XF Tryd.prog := ⟨78, Tryd.f78, fun _ => .text, Tryd.func78, by kernel_rfl, by kernel_rfl, by kernel_rfl, by kernel_rfl⟩
noncomputable def ff78 (h : HW) : Rs :=
 some (.ret (.tup []), h)
noncomputable def q78_7 (C : YC) (lf : Nat) (n : K0) (x0 x1 x6 : O) (h : HW) : Rs :=
 ob x6 fun a0 =>
 ob (unE .not a0) fun y1 =>
 yIf y1
 (ob x0 fun a2 =>
 ob x1 fun a3 =>
 ob (semNil a3) fun y4 =>
 ob (fa 35 y4) fun y5 =>
 bc (C (.fn 91) [a2, y5] h) fun y6 h6 =>
 n h6)
 (n h)
theorem q78_7_eq (C : YC) (lf : Nat) (n : K0) (KR : KF) (KE : KX) : ∀ F h, evX fx78 C lf [1, 1, 1, 1] F h (fun F h => n h) KR KE = q78_7 C lf n (F 0) (F 1) (F 6) h := by
  intro F h; kernel_rfl
noncomputable def q78_11 (C : YC) (lf : Nat) (n : K4) (x0 x1 x6 x28 : O) (h : HW) : Rs :=
 ob x28 fun a9 =>
 ob (bin Tryd.prog .add 3 a9 (.int .i64 1)) fun y10 =>
 n x0 x1 x6 (some y10) h
theorem q78_11_eq (C : YC) (lf : Nat) (n : K4) (KR : KF) (K2 : KF) (KE : KX) : ∀ F h, evX fx78 C lf [1, 1, 1, 0, 1, 0, 0, 1, 1, 1] F h (fun F h => n (F 0) (F 1) (F 6) (F 28) h) KR (bk 2 K2 KE) = q78_11 C lf n (F 0) (F 1) (F 6) (F 28) h := by
  intro F h; kernel_rfl
noncomputable def q78_30 (C : YC) (lf : Nat) (n : K4) (x0 x1 x6 x7 x28 : O) (h : HW) : Rs :=
 ob x6 fun a12 =>
 bc (gd false (some a12) (ob x1 fun a13 =>
 some (.ret a13, h)) h) fun y14 h14 =>
 bc (gd false (some a12) (ob x7 fun a15 =>
 some (.ret a15, h14)) h14) fun y16 h16 =>
 bc (gd false (some a12) (ob (semNil y14) fun y17 =>
 some (.ret y17, h16)) h16) fun y18 h18 =>
 bc (gd false (some a12) (ob (fa 36 y18) fun y19 =>
 some (.ret y19, h18)) h18) fun y20 h20 =>
 bc (gd false (some a12) (ob (ixA 16 17 y20 y16) fun y21 =>
 some (.ret y21, h20)) h20) fun y22 h22 =>
 bc (gd false (some a12) (ob (fa 0 y22) fun y23 =>
 some (.ret y23, h22)) h22) fun y24 h24 =>
 bc (gd false (some a12) (ob (ld1 y24 h24) fun y25 =>
 some (.ret y25, h24)) h24) fun y26 h26 =>
 bc (gd false (some a12) (ob (bin Tryd.prog .gtr 3 y26 (.int .i64 0)) fun y27 =>
 some (.ret y27, h26)) h26) fun y28 h28 =>
 ob (ypk a12 (.bool true) y28) fun y29 =>
 n x0 x1 (some y29) x28 h28
theorem q78_30_eq (C : YC) (lf : Nat) (n : K4) (KR : KF) (K3 : KF) (K2 : KF) (KE : KX) : ∀ F h, evX fx78 C lf [1, 1, 1, 0, 1, 0, 0, 1, 1, 0, 0, 1, 1] F h (fun F h => n (F 0) (F 1) (F 6) (F 28) h) KR (bk 3 K3 (bk 2 K2 KE)) = q78_30 C lf n (F 0) (F 1) (F 6) (F 7) (F 28) h := by
  intro F h; kernel_rfl
noncomputable def q78_46 (C : YC) (lf : Nat) (n : K5) (x0 x1 x6 x7 x28 : O) (h : HW) : Rs :=
 ob x1 fun a31 =>
 ob x7 fun a32 =>
 ob (semNil a31) fun y33 =>
 ob (fa 36 y33) fun y34 =>
 ob (ixA 16 17 y34 a32) fun y35 =>
 ob (ldN 17 y35 h) fun y36 =>
 bc (C (.fn 92) [y36] h) fun y37 h37 =>
 yIf y37
 (ob x0 fun a38 =>
 ob x1 fun a39 =>
 ob x7 fun a40 =>
 ob (semNil a39) fun y41 =>
 ob (fa 36 y41) fun y42 =>
 ob (ixA 16 17 y42 a40) fun y43 =>
 ob (fa 0 y43) fun y44 =>
 bc (C (.fn 91) [a38, y44] h37) fun y45 h45 =>
 n x0 x1 x6 x7 x28 h45)
 (n x0 x1 x6 x7 x28 h37)
theorem q78_46_eq (C : YC) (lf : Nat) (n : K5) (KR : KF) (K3 : KF) (K2 : KF) (KE : KX) : ∀ F h, evX fx78 C lf [1, 1, 1, 0, 1, 0, 0, 1, 1, 0, 0, 1, 0] F h (fun F h => n (F 0) (F 1) (F 6) (F 7) (F 28) h) KR (bk 3 K3 (bk 2 K2 KE)) = q78_46 C lf n (F 0) (F 1) (F 6) (F 7) (F 28) h := by
  intro F h; kernel_rfl
noncomputable def q78_47 (C : YC) (lf : Nat) (n : K4) (x0 x1 x6 x7 x28 : O) (h : HW) : Rs :=
 q78_46 C lf (fun x0 x1 x6 x7 x28 h => q78_30 C lf n x0 x1 x6 x7 x28 h) x0 x1 x6 x7 x28 h
theorem q78_47_eq (C : YC) (lf : Nat) (n : K4) (KR : KF) (K3 : KF) (K2 : KF) (KE : KX) : ∀ F h, evX fx78 C lf [1, 1, 1, 0, 1, 0, 0, 1, 1, 0, 0, 1] F h (fun F h => n (F 0) (F 1) (F 6) (F 28) h) KR (bk 3 K3 (bk 2 K2 KE)) = q78_47 C lf n (F 0) (F 1) (F 6) (F 7) (F 28) h := cSeq (a := subX fx78 [1, 1, 1, 0, 1, 0, 0, 1, 1, 0, 0, 1, 0]) (b := subX fx78 [1, 1, 1, 0, 1, 0, 0, 1, 1, 0, 0, 1, 1]) (by kernel_rfl) (B := (fun F h => q78_30 C lf n (F 0) (F 1) (F 6) (F 7) (F 28) h)) (q78_30_eq C lf n KR K3 K2 KE) (q78_46_eq C lf (fun x0 x1 x6 x7 x28 h => q78_30 C lf n x0 x1 x6 x7 x28 h) KR K3 K2 KE)
noncomputable def q78_49 (C : YC) (lf : Nat) (n : K5) (x0 x1 x6 x28 : O) (h : HW) : Rs :=
 ob x28 fun a48 =>
 n x0 x1 x6 (some a48) x28 h
theorem q78_49_eq (C : YC) (lf : Nat) (n : K5) (KR : KF) (K3 : KF) (K2 : KF) (KE : KX) : ∀ F h, evX fx78 C lf [1, 1, 1, 0, 1, 0, 0, 1, 1, 0, 0, 0] F h (fun F h => n (F 0) (F 1) (F 6) (F 7) (F 28) h) KR (bk 3 K3 (bk 2 K2 KE)) = q78_49 C lf n (F 0) (F 1) (F 6) (F 28) h := by
  intro F h; kernel_rfl
noncomputable def q78_50 (C : YC) (lf : Nat) (n : K4) (x0 x1 x6 x28 : O) (h : HW) : Rs :=
 q78_49 C lf (fun x0 x1 x6 x7 x28 h => q78_47 C lf n x0 x1 x6 x7 x28 h) x0 x1 x6 x28 h
theorem q78_50_eq (C : YC) (lf : Nat) (n : K4) (KR : KF) (K3 : KF) (K2 : KF) (KE : KX) : ∀ F h, evX fx78 C lf [1, 1, 1, 0, 1, 0, 0, 1, 1, 0, 0] F h (fun F h => n (F 0) (F 1) (F 6) (F 28) h) KR (bk 3 K3 (bk 2 K2 KE)) = q78_50 C lf n (F 0) (F 1) (F 6) (F 28) h := cSeq (a := subX fx78 [1, 1, 1, 0, 1, 0, 0, 1, 1, 0, 0, 0]) (b := subX fx78 [1, 1, 1, 0, 1, 0, 0, 1, 1, 0, 0, 1]) (by kernel_rfl) (B := (fun F h => q78_47 C lf n (F 0) (F 1) (F 6) (F 7) (F 28) h)) (q78_47_eq C lf n KR K3 K2 KE) (q78_49_eq C lf (fun x0 x1 x6 x7 x28 h => q78_47 C lf n x0 x1 x6 x7 x28 h) KR K3 K2 KE)
noncomputable def q78_51 (C : YC) (lf : Nat) (n : K4) (x0 x1 x6 x28 : O) (h : HW) : Rs :=
 q78_50 C lf (fun x0 x1 x6 x28 h => q78_11 C lf n x0 x1 x6 x28 h) x0 x1 x6 x28 h
theorem q78_51_eq (C : YC) (lf : Nat) (n : K4) (KR : KF) (K2 : KF) (KE : KX) : ∀ F h, evX fx78 C lf [1, 1, 1, 0, 1, 0, 0, 1, 1] F h (fun F h => n (F 0) (F 1) (F 6) (F 28) h) KR (bk 2 K2 KE) = q78_51 C lf n (F 0) (F 1) (F 6) (F 28) h := cSeq (a := subX fx78 [1, 1, 1, 0, 1, 0, 0, 1, 1, 0]) (b := subX fx78 [1, 1, 1, 0, 1, 0, 0, 1, 1, 1]) (by kernel_rfl) (B := (fun F h => q78_11 C lf n (F 0) (F 1) (F 6) (F 28) h)) (q78_11_eq C lf n KR K2 KE) (cBlock (id := 3) (a := subX fx78 [1, 1, 1, 0, 1, 0, 0, 1, 1, 0, 0]) (by kernel_rfl) (q78_50_eq C lf (fun x0 x1 x6 x28 h => q78_11 C lf n x0 x1 x6 x28 h) KR (fun F h => q78_11 C lf n (F 0) (F 1) (F 6) (F 28) h) K2 KE))
noncomputable def q78_53 (C : YC) (lf : Nat) (n : K4) (e2 : K3) (x0 x1 x6 x28 x29 : O) (h : HW) : Rs :=
 ob x29 fun a52 =>
 yIf a52
 (n x0 x1 x6 x28 h)
 (e2 x0 x1 x6 h)
theorem q78_53_eq (C : YC) (lf : Nat) (n : K4) (e2 : K3) (KR : KF) (KE : KX) : ∀ F h, evX fx78 C lf [1, 1, 1, 0, 1, 0, 0, 1, 0] F h (fun F h => n (F 0) (F 1) (F 6) (F 28) h) KR (bk 2 (fun F h => e2 (F 0) (F 1) (F 6) h) KE) = q78_53 C lf n e2 (F 0) (F 1) (F 6) (F 28) (F 29) h := by
  intro F h; kernel_rfl
noncomputable def q78_54 (C : YC) (lf : Nat) (n : K4) (e2 : K3) (x0 x1 x6 x28 x29 : O) (h : HW) : Rs :=
 q78_53 C lf (fun x0 x1 x6 x28 h => q78_51 C lf n x0 x1 x6 x28 h) e2 x0 x1 x6 x28 x29 h
theorem q78_54_eq (C : YC) (lf : Nat) (n : K4) (e2 : K3) (KR : KF) (KE : KX) : ∀ F h, evX fx78 C lf [1, 1, 1, 0, 1, 0, 0, 1] F h (fun F h => n (F 0) (F 1) (F 6) (F 28) h) KR (bk 2 (fun F h => e2 (F 0) (F 1) (F 6) h) KE) = q78_54 C lf n e2 (F 0) (F 1) (F 6) (F 28) (F 29) h := cSeq (a := subX fx78 [1, 1, 1, 0, 1, 0, 0, 1, 0]) (b := subX fx78 [1, 1, 1, 0, 1, 0, 0, 1, 1]) (by kernel_rfl) (B := (fun F h => q78_51 C lf n (F 0) (F 1) (F 6) (F 28) h)) (q78_51_eq C lf n KR (fun F h => e2 (F 0) (F 1) (F 6) h) KE) (q78_53_eq C lf (fun x0 x1 x6 x28 h => q78_51 C lf n x0 x1 x6 x28 h) e2 KR KE)
noncomputable def q78_57 (C : YC) (lf : Nat) (n : K5) (x0 x1 x6 x28 : O) (h : HW) : Rs :=
 ob x28 fun a55 =>
 ob (bin Tryd.prog .lss 3 a55 (.int .i64 16)) fun y56 =>
 n x0 x1 x6 x28 (some y56) h
theorem q78_57_eq (C : YC) (lf : Nat) (n : K5) (KR : KF) (K2 : KF) (KE : KX) : ∀ F h, evX fx78 C lf [1, 1, 1, 0, 1, 0, 0, 0] F h (fun F h => n (F 0) (F 1) (F 6) (F 28) (F 29) h) KR (bk 2 K2 KE) = q78_57 C lf n (F 0) (F 1) (F 6) (F 28) h := by
  intro F h; kernel_rfl
noncomputable def q78_58 (C : YC) (lf : Nat) (n : K4) (e2 : K3) (x0 x1 x6 x28 : O) (h : HW) : Rs :=
 q78_57 C lf (fun x0 x1 x6 x28 x29 h => q78_54 C lf n e2 x0 x1 x6 x28 x29 h) x0 x1 x6 x28 h
theorem q78_58_eq (C : YC) (lf : Nat) (n : K4) (e2 : K3) (KR : KF) (KE : KX) : ∀ F h, evX fx78 C lf [1, 1, 1, 0, 1, 0, 0] F h (fun F h => n (F 0) (F 1) (F 6) (F 28) h) KR (bk 2 (fun F h => e2 (F 0) (F 1) (F 6) h) KE) = q78_58 C lf n e2 (F 0) (F 1) (F 6) (F 28) h := cSeq (a := subX fx78 [1, 1, 1, 0, 1, 0, 0, 0]) (b := subX fx78 [1, 1, 1, 0, 1, 0, 0, 1]) (by kernel_rfl) (B := (fun F h => q78_54 C lf n e2 (F 0) (F 1) (F 6) (F 28) (F 29) h)) (q78_54_eq C lf n e2 KR KE) (q78_57_eq C lf (fun x0 x1 x6 x28 x29 h => q78_54 C lf n e2 x0 x1 x6 x28 x29 h) KR (fun F h => e2 (F 0) (F 1) (F 6) h) KE)
noncomputable def l78_8 (C : YC) (lf : Nat) (e2 : K3) (k : O × O × O × O → HW → Rs) (s : O × O × O × O) (h : HW) : Rs :=
 q78_58 C lf (fun x0 x1 x6 x28 h => k (x0, x1, x6, x28) h) e2 s.1 s.2.1 s.2.2.1 s.2.2.2 h
noncomputable def q78_59 (C : YC) (lf : Nat) (n : K4) (x0 x1 x6 : O) (h : HW) : Rs :=
 n x0 x1 x6 (some (.int .i64 0)) h
theorem q78_59_eq (C : YC) (lf : Nat) (n : K4) (KR : KF) (KE : KX) : ∀ F h, evX fx78 C lf [1, 1, 1, 0, 0] F h (fun F h => n (F 0) (F 1) (F 6) (F 28) h) KR KE = q78_59 C lf n (F 0) (F 1) (F 6) h := by
  intro F h; kernel_rfl
noncomputable def q78_60 (C : YC) (lf : Nat) (n : K3) (x0 x1 x6 : O) (h : HW) : Rs :=
 q78_59 C lf (fun x0 x1 x6 x28 h => lp (l78_8 C lf n) lf (x0, x1, x6, x28) h) x0 x1 x6 h
theorem q78_60_eq (C : YC) (lf : Nat) (n : K3) (KR : KF) (KE : KX) : ∀ F h, evX fx78 C lf [1, 1, 1, 0] F h (fun F h => n (F 0) (F 1) (F 6) h) KR KE = q78_60 C lf n (F 0) (F 1) (F 6) h := cSeq (a := subX fx78 [1, 1, 1, 0, 0]) (b := subX fx78 [1, 1, 1, 0, 1]) (by kernel_rfl) (B := (fun F h => lp (l78_8 C lf n) lf ((F 0), (F 1), (F 6), (F 28)) h)) (cBlock (id := 2) (a := subX fx78 [1, 1, 1, 0, 1, 0]) (by kernel_rfl) (cLoop (a := subX fx78 [1, 1, 1, 0, 1, 0, 0]) (g := fun F => (F 0, F 1, F 6, F 28)) (body := l78_8 C lf n) (by kernel_rfl) (fun k => (q78_58_eq C lf (fun x0 x1 x6 x28 h => k (x0, x1, x6, x28) h) n KR KE)))) (q78_59_eq C lf (fun x0 x1 x6 x28 h => lp (l78_8 C lf n) lf (x0, x1, x6, x28) h) KR KE)
noncomputable def q78_61 (C : YC) (lf : Nat) (n : K0) (x0 x1 x6 : O) (h : HW) : Rs :=
 q78_60 C lf (fun x0 x1 x6 h => q78_7 C lf n x0 x1 x6 h) x0 x1 x6 h
theorem q78_61_eq (C : YC) (lf : Nat) (n : K0) (KR : KF) (KE : KX) : ∀ F h, evX fx78 C lf [1, 1, 1] F h (fun F h => n h) KR KE = q78_61 C lf n (F 0) (F 1) (F 6) h := cSeq (a := subX fx78 [1, 1, 1, 0]) (b := subX fx78 [1, 1, 1, 1]) (by kernel_rfl) (B := (fun F h => q78_7 C lf n (F 0) (F 1) (F 6) h)) (q78_7_eq C lf n KR KE) (q78_60_eq C lf (fun x0 x1 x6 h => q78_7 C lf n x0 x1 x6 h) KR KE)
noncomputable def q78_62 (C : YC) (lf : Nat) (n : K3) (x0 x1 : O) (h : HW) : Rs :=
 n x0 x1 (some (.bool false)) h
theorem q78_62_eq (C : YC) (lf : Nat) (n : K3) (KR : KF) (KE : KX) : ∀ F h, evX fx78 C lf [1, 1, 0] F h (fun F h => n (F 0) (F 1) (F 6) h) KR KE = q78_62 C lf n (F 0) (F 1) h := by
  intro F h; kernel_rfl
noncomputable def q78_63 (C : YC) (lf : Nat) (n : K0) (x0 x1 : O) (h : HW) : Rs :=
 q78_62 C lf (fun x0 x1 x6 h => q78_61 C lf n x0 x1 x6 h) x0 x1 h
theorem q78_63_eq (C : YC) (lf : Nat) (n : K0) (KR : KF) (KE : KX) : ∀ F h, evX fx78 C lf [1, 1] F h (fun F h => n h) KR KE = q78_63 C lf n (F 0) (F 1) h := cSeq (a := subX fx78 [1, 1, 0]) (b := subX fx78 [1, 1, 1]) (by kernel_rfl) (B := (fun F h => q78_61 C lf n (F 0) (F 1) (F 6) h)) (q78_61_eq C lf n KR KE) (q78_62_eq C lf (fun x0 x1 x6 h => q78_61 C lf n x0 x1 x6 h) KR KE)
noncomputable def q78_75 (C : YC) (lf : Nat) (n : K2) (x0 x1 : O) (h : HW) : Rs :=
 ob x1 fun a64 =>
 ob (semNil a64) fun y65 =>
 ob (fa 18 y65) fun y66 =>
 ob (ldN 17 y66 h) fun y67 =>
 bc (C (.fn 92) [y67] h) fun y68 h68 =>
 yIf y68
 (ob x0 fun a69 =>
 ob x1 fun a70 =>
 ob (semNil a70) fun y71 =>
 ob (fa 18 y71) fun y72 =>
 ob (fa 0 y72) fun y73 =>
 bc (C (.fn 91) [a69, y73] h68) fun y74 h74 =>
 n x0 x1 h74)
 (n x0 x1 h68)
theorem q78_75_eq (C : YC) (lf : Nat) (n : K2) (KR : KF) (KE : KX) : ∀ F h, evX fx78 C lf [1, 0] F h (fun F h => n (F 0) (F 1) h) KR KE = q78_75 C lf n (F 0) (F 1) h := by
  intro F h; kernel_rfl
noncomputable def q78_76 (C : YC) (lf : Nat) (n : K0) (x0 x1 : O) (h : HW) : Rs :=
 q78_75 C lf (fun x0 x1 h => q78_63 C lf n x0 x1 h) x0 x1 h
theorem q78_76_eq (C : YC) (lf : Nat) (n : K0) (KR : KF) (KE : KX) : ∀ F h, evX fx78 C lf [1] F h (fun F h => n h) KR KE = q78_76 C lf n (F 0) (F 1) h := cSeq (a := subX fx78 [1, 0]) (b := subX fx78 [1, 1]) (by kernel_rfl) (B := (fun F h => q78_63 C lf n (F 0) (F 1) h)) (q78_63_eq C lf n KR KE) (q78_75_eq C lf (fun x0 x1 h => q78_63 C lf n x0 x1 h) KR KE)
noncomputable def q78_87 (C : YC) (lf : Nat) (n : K3) (e0 : K2) (x0 x1 x2 : O) (h : HW) : Rs :=
 ob x2 fun a78 =>
 ob (bin Tryd.prog .lss 3 a78 (.int .i64 278)) fun y79 =>
 yIf y79
 (ob x0 fun a80 =>
 ob x1 fun a81 =>
 ob x2 fun a82 =>
 bc (C (.fn 76) [a81, a82] h) fun y83 h83 =>
 bc (C (.fn 91) [a80, y83] h83) fun y84 h84 =>
 ob x2 fun a85 =>
 ob (bin Tryd.prog .add 3 a85 (.int .i64 1)) fun y86 =>
 n x0 x1 (some y86) h84)
 (e0 x0 x1 h)
theorem q78_87_eq (C : YC) (lf : Nat) (n : K3) (e0 : K2) (KR : KF) (KE : KX) : ∀ F h, evX fx78 C lf [0, 0, 0] F h (fun F h => n (F 0) (F 1) (F 2) h) KR (bk 0 (fun F h => e0 (F 0) (F 1) h) KE) = q78_87 C lf n e0 (F 0) (F 1) (F 2) h := by
  intro F h; kernel_rfl
noncomputable def l78_77 (C : YC) (lf : Nat) (e0 : K2) (k : O × O × O → HW → Rs) (s : O × O × O) (h : HW) : Rs :=
 q78_87 C lf (fun x0 x1 x2 h => k (x0, x1, x2) h) e0 s.1 s.2.1 s.2.2 h
noncomputable def q78_88 (C : YC) (lf : Nat) (n : K0) (x0 x1 x2 : O) (h : HW) : Rs :=
 lp (l78_77 C lf (fun x0 x1 h => q78_76 C lf n x0 x1 h)) lf (x0, x1, x2) h
theorem q78_88_eq (C : YC) (lf : Nat) (n : K0) (KR : KF) (KE : KX) : ∀ F h, evX fx78 C lf [] F h (fun F h => n h) KR KE = q78_88 C lf n (F 0) (F 1) (F 2) h := cSeq (a := subX fx78 [0]) (b := subX fx78 [1]) (by kernel_rfl) (B := (fun F h => q78_76 C lf n (F 0) (F 1) h)) (q78_76_eq C lf n KR KE) (cBlock (id := 0) (a := subX fx78 [0, 0]) (by kernel_rfl) (cLoop (a := subX fx78 [0, 0, 0]) (g := fun F => (F 0, F 1, F 2)) (body := l78_77 C lf (fun x0 x1 h => q78_76 C lf n x0 x1 h)) (by kernel_rfl) (fun k => (q78_87_eq C lf (fun x0 x1 x2 h => k (x0, x1, x2) h) (fun x0 x1 h => q78_76 C lf n x0 x1 h) KR KE))))
noncomputable def fs78 (C : YC) (lf : Nat) (a0 a1 a2 : SV) (h : HW) : Rs := q78_88 C lf ff78 (some a0) (some a1) (some a2) h
theorem fs78_eq (C : YC) (lf : Nat) (a0 a1 a2 : SV) (h : HW) : yFn Tryd.prog fx78 C lf [a0, a1, a2] h = fs78 C lf a0 a1 a2 h := fnX (K := (fun F h => ff78 h)) (by kernel_rfl) (((q78_88_eq C lf ff78 (fun F h => ff78 h) (fun _ _ _ => none)) _ h).trans (by kernel_rfl))
noncomputable def fy78 : YX Tryd.prog := Y3 fx78 fs78 fs78_eq (by kernel_rfl)
end
end Go.Proofs.YtomialandfplkaaDoor.Eva
namespace Go.Proofs.YtomialandfplkaaDoor.Eva
open Go.Xe
open Classical
set_option linter.unusedSimpArgs false
noncomputable def clrN (nd : Nat → Nat → SV) (i : Nat) (S : Nat → Prop) : Nat → Nat → SV := fun i' c' => if i' = i ∧ S c' then .int .i64 0 else nd i' c'
noncomputable def clrB (bl : Nat → Nat → Nat) (i : Nat) (S : Nat → Prop) : Nat → Nat → Nat := fun i' c' => if i' = i ∧ S c' then 0 else bl i' c'
theorem clrN_yes {nd : Nat → Nat → SV} {i : Nat} {S : Nat → Prop} {c : Nat} (h : S c) : clrN nd i S i c = .int .i64 0 := if_pos ⟨rfl, h⟩
theorem clrN_no {nd : Nat → Nat → SV} {i : Nat} {S : Nat → Prop} {i' c : Nat} (h : ¬ (i' = i ∧ S c)) : clrN nd i S i' c = nd i' c := if_neg h
theorem clrB_yes {bl : Nat → Nat → Nat} {i : Nat} {S : Nat → Prop} {c : Nat} (h : S c) : clrB bl i S i c = 0 := if_pos ⟨rfl, h⟩
theorem clrB_no {bl : Nat → Nat → Nat} {i : Nat} {S : Nat → Prop} {i' c : Nat} (h : ¬ (i' = i ∧ S c)) : clrB bl i S i' c = bl i' c := if_neg h
theorem clrN_or (nd : Nat → Nat → SV) (i : Nat) (S S' : Nat → Prop) : clrN (clrN nd i S) i S' = clrN nd i (fun c => S c ∨ S' c) := by
  funext i' c
  unfold clrN
  by_cases e : i' = i <;> by_cases a : S c <;> by_cases a' : S' c <;> simp [e, a, a']
theorem clrB_or (bl : Nat → Nat → Nat) (i : Nat) (S S' : Nat → Prop) : clrB (clrB bl i S) i S' = clrB bl i (fun c => S c ∨ S' c) := by
  funext i' c
  unfold clrB
  by_cases e : i' = i <;> by_cases a : S c <;> by_cases a' : S' c <;> simp [e, a, a']
theorem clrN_one (nd : Nat → Nat → SV) (i c : Nat) : upd2 nd i c (.int .i64 0) = clrN nd i (· = c) := by
  funext i' c'; unfold upd2 clrN; by_cases e : i' = i ∧ c' = c
  · rw [if_pos e, if_pos e]
  · rw [if_neg e, if_neg e]
theorem clrB_one (bl : Nat → Nat → Nat) (i c : Nat) : updB bl i c 0 = clrB bl i (· = c) := by
  funext i' c'; unfold updB clrB; by_cases e : i' = i ∧ c' = c
  · rw [if_pos e, if_pos e]
  · rw [if_neg e, if_neg e]
theorem clrN_none (nd : Nat → Nat → SV) (i : Nat) {S : Nat → Prop} (h : ∀ c, ¬ S c) : clrN nd i S = nd := by
  funext i' c; exact clrN_no fun e => h c e.2
theorem clrB_none (bl : Nat → Nat → Nat) (i : Nat) {S : Nat → Prop} (h : ∀ c, ¬ S c) : clrB bl i S = bl := by
  funext i' c; exact clrB_no fun e => h c e.2
structure DS (h h' : HW) (T : TN) (n N : Nat) (wd wd' b : Nat → Nat) (now : Int) (us : Nat → Bool) (nd : Nat → Nat → SV) (bl : Nat → Nat → Nat) (i : Nat) (S : Nat → Prop) : Prop where
  A : TableAt h' T n N wd' b now us (clrN nd i S)
  M : MapAt n N wd' (clrN nd i S) (clrB bl i S)
  O : ∀ j, onB wd' j = true ↔ (onB wd j = true ∧ ∀ c, 12 ≤ c → c < 308 → S c → bl i c ≠ j + 1)
  F : Frm h h' (fun j => j = T.ks ∨ j = T.kn)
section
variable {lf : Nat} {h h' h'' : HW} {T : TN} {n N : Nat} {wd wd' wd'' b : Nat → Nat} {now : Int} {us : Nat → Bool} {nd : Nat → Nat → SV} {bl : Nat → Nat → Nat} {i : Nat} {S S' : Nat → Prop}
theorem DS.refl (A : TableAt h T n N wd b now us nd) (M : MapAt n N wd nd bl) (hS : ∀ c, ¬ S c) : DS h h T n N wd wd b now us nd bl i S :=
  ⟨by rw [clrN_none nd i hS]; exact A, by rw [clrN_none nd i hS, clrB_none bl i hS]; exact M, fun j => ⟨fun e => ⟨e, fun c _ _ hc => absurd hc (hS c)⟩, fun e => e.1⟩, Frm.refl _ _⟩
theorem DS.trans (a : DS h h' T n N wd wd' b now us nd bl i S) (c : DS h' h'' T n N wd' wd'' b now us (clrN nd i S) (clrB bl i S) i S') : DS h h'' T n N wd wd'' b now us nd bl i (fun c => S c ∨ S' c) := by
  refine ⟨by rw [← clrN_or]; exact c.A, by rw [← clrN_or, ← clrB_or]; exact c.M, fun j => ?_, a.F.trans c.F⟩
  rw [c.O, a.O]
  constructor
  · rintro ⟨⟨h1, h2⟩, h3⟩
    refine ⟨h1, fun c h12 hc hS => ?_⟩
    by_cases e : S c
    · exact h2 c h12 hc e
    · have := h3 c h12 hc (hS.resolve_left e)
      rw [clrB_no (fun x => e x.2)] at this
      exact this
  · rintro ⟨h1, h2⟩
    refine ⟨⟨h1, fun c h12 hc hS => h2 c h12 hc (.inl hS)⟩, fun c h12 hc hS => ?_⟩
    by_cases e : S c
    · rw [clrB_yes e]; omega
    · rw [clrB_no (fun x => e x.2)]; exact h2 c h12 hc (.inr hS)
theorem DS.ext (a : DS h h' T n N wd wd' b now us nd bl i S) (hS : ∀ c, S c ↔ S' c) : DS h h' T n N wd wd' b now us nd bl i S' := by
  have : S = S' := funext fun c => propext (hS c)
  rw [← this]; exact a
theorem DS.after (F : Frm h h' (fun _ => False)) (A : TableAt h T n N wd b now us nd) (a : TableAt h' T n N wd b now us nd → DS h' h'' T n N wd wd' b now us nd bl i S) : DS h h'' T n N wd wd' b now us nd bl i S := by
  have A' : TableAt h' T n N wd b now us nd := A.frame F.next fun j hj => F.same j (by
    rcases hj with rfl | rfl | rfl | rfl
    · exact A.lt
    · exact A.st.lk
    · exact A.st.ldk
    · exact A.ln) (fun x => x)
  have d := a A'
  exact ⟨d.A, d.M, d.O, (Frm.weak F (fun _ x => x.elim)).trans d.F⟩
theorem drop_ds {C : YC} (D : DropOK C) (A : TableAt h T n N wd b now us nd) (M : MapAt n N wd nd bl) (hi : i < N) {c : Nat} (h12 : 12 ≤ c) (hc : c < 308) :
    ∃ h' wd', C (.fn 91) [.ptr T.kt 0, .ptr T.kn (i * 308 + c)] h = some (.ret (.tup []), h') ∧ DS h h' T n N wd wd' b now us nd bl i (· = c) := by
  obtain ⟨h', e, A1, M1, F1⟩ := drop_call D A M hi h12 hc
  rw [clrN_one] at A1 M1
  rw [clrB_one] at M1
  refine ⟨h', _, e, ⟨A1, M1, fun j => ?_, F1⟩⟩
  unfold dropW
  by_cases e0 : bl i c = 0
  · rw [if_pos e0]
    exact ⟨fun x => ⟨x, fun c' _ _ h => by rw [h, e0]; omega⟩, fun x => x.1⟩
  · rw [if_neg e0, onB_off A.st.wlt, Bool.and_eq_true, decide_eq_true_eq]
    exact ⟨fun x => ⟨x.1, fun c' _ _ h => by rw [h]; omega⟩, fun x => ⟨x.1, fun e => x.2 c h12 hc rfl (by omega)⟩⟩
theorem plOff_lo {m : Nat} : 12 ≤ plOff m := by unfold plOff; split <;> (try split) <;> omega
theorem plOff_hi {m : Nat} (hm : m < 278) : plOff m < 308 := by unfold plOff; split <;> (try split) <;> omega
def plS (k m : Nat) (c : Nat) : Prop := ∃ j, k ≤ j ∧ j < m ∧ c = plOff j
theorem cut_places {C : YC} (D : DropOK C) (Pl : PlaceOK C) (e0 : K2) (hi : i < N) : ∀ (d : Nat) (m : Nat) (h : HW) (wd : Nat → Nat) (nd : Nat → Nat → SV) (bl : Nat → Nat → Nat), m + d = 278 → ∀ f, d < f →
    TableAt h T n N wd b now us nd → MapAt n N wd nd bl → ∃ h' wd', lp (l78_77 C lf e0) f (some (.ptr T.kt 0), some (.ptr T.kn (i * 308)), some (.int .i64 (m : Int))) h = e0 (some (.ptr T.kt 0)) (some (.ptr T.kn (i * 308))) h' ∧
      DS h h' T n N wd wd' b now us nd bl i (plS m 278) := by
  intro d
  induction d with
  | zero =>
    intro m h wd nd bl hm f hf A M
    obtain ⟨f, rfl⟩ : ∃ g, f = g + 1 := ⟨f - 1, by omega⟩
    refine ⟨h, wd, ?_, DS.refl A M fun c ⟨j, h1, h2, _⟩ => by omega⟩
    rw [lp_succ]
    unfold l78_77 q78_87
    have hlt : decide ((m : Int) < 278) = false := decide_eq_false (by omega)
    simp only [ob_some, b2_some, bc_ret, bcn_ret, gd_tt, gd_ff, gd_tf, gd_ft, ypk_true, ypk_false, yIf_true, yIf_false, semNil_ptr, fa_ptr, ld1_ptr, ext_tup, fd1_agg, un_not, bin_add, bin_sub, bin_mul, bin_eql, bin_neq, bin_lss, bin_leq, bin_gtr, bin_geq, Nat.zero_add, Nat.mul_one, hlt]
  | succ d ih =>
    intro m h wd nd bl hm f hf A M
    obtain ⟨f, rfl⟩ : ∃ g, f = g + 1 := ⟨f - 1, by omega⟩
    have hm' : m < 278 := by omega
    obtain ⟨h1, wd1, e1, d1⟩ := drop_ds D A M hi (plOff_lo (m := m)) (plOff_hi hm')
    obtain ⟨h2, wd2, e2, d2⟩ := ih (m + 1) h1 wd1 _ _ (by omega) f (by omega) d1.A d1.M
    refine ⟨h2, wd2, ?_, (d1.trans d2).ext fun c => ?_⟩
    · rw [lp_succ, ← e2]
      have hlt : decide ((m : Int) < 278) = true := decide_eq_true (by omega)
      have hs : IntKind.i64.wrap ((m : Int) + 1) = ((m + 1 : Nat) : Int) := by rw [wrap_i64 (by omega) (by omega)]; omega
      have hp := Pl h T.kn (i * 308) m hm'
      show q78_87 C lf (fun x0 x1 x2 h => lp (l78_77 C lf e0) f (x0, x1, x2) h) e0 (some (.ptr T.kt 0)) (some (.ptr T.kn (i * 308))) (some (.int .i64 (m : Int))) h = _
      unfold q78_87
      simp only [ob_some, b2_some, bc_ret, bcn_ret, gd_tt, gd_ff, gd_tf, gd_ft, ypk_true, ypk_false, yIf_true, yIf_false, semNil_ptr, fa_ptr, ld1_ptr, ext_tup, fd1_agg, un_not, bin_add, bin_sub, bin_mul, bin_eql, bin_neq, bin_lss, bin_leq, bin_gtr, bin_geq, Nat.zero_add, Nat.mul_one, hlt, hp, e1, hs]
    · constructor
      · rintro (rfl | ⟨j, a, b, c⟩)
        · exact ⟨m, Nat.le_refl _, hm', rfl⟩
        · exact ⟨j, by omega, b, c⟩
      · rintro ⟨j, a, b, c⟩
        by_cases e : j = m
        · subst e; exact .inl c
        · exact .inr ⟨j, by omega, b, c⟩
end
end Go.Proofs.YtomialandfplkaaDoor.Eva
namespace Go.Proofs.YtomialandfplkaaDoor.Eva
open Go.Xe
open Classical
set_option linter.unusedSimpArgs false
section
variable {lf : Nat} {h h' h'' : HW} {T : TN} {n N : Nat} {wd wd' wd'' b : Nat → Nat} {now : Int} {us : Nat → Bool} {nd : Nat → Nat → SV} {bl : Nat → Nat → Nat} {i : Nat} {S S' : Nat → Prop}
theorem fork_ld (A : TableAt h T n N wd b now us nd) (M : MapAt n N wd nd bl) (hi : i < N) {c : Nat} (h12 : 12 ≤ c) (hc : c + 17 ≤ 308) : ldN 17 (.ptr T.kn (i * 308 + c)) h = some (.agg (forkV fun j => bl i (c + j))) := by
  obtain ⟨md, hmd, _, _⟩ := A.wn
  have : h.cells T.kn (i * 308 + c) 17 = some (forkV fun j => bl i (c + j)) := by
    refine cells_of (by simp [forkV]) fun j hj => ?_
    rw [Nat.add_assoc, A.cn i (c + j) hi (by omega), M.cell i (c + j) hi (by omega) (by omega)]
    simp [forkV, hj]
  rw [ldN_ptr hmd, this]; rfl
def hole (bl : Nat → Nat → Nat) (i c : Nat) : Bool := (List.range 16).all fun j => bl i (c + (1 + j)) == 0
theorem hole_yes {bl : Nat → Nat → Nat} {i c : Nat} : hole bl i c = true ↔ ∀ j, j < 16 → bl i (c + (1 + j)) = 0 := by
  simp [hole]
def fkS (bl : Nat → Nat → Nat) (i p q : Nat) (c : Nat) : Prop := ∃ j, p ≤ j ∧ j < q ∧ c = 36 + 17 * j ∧ hole bl i (36 + 17 * j) = true
def anyF (bl : Nat → Nat → Nat) (i p q : Nat) : Prop := ∃ j, p ≤ j ∧ j < q ∧ 0 < bl i (36 + 17 * j) ∧ hole bl i (36 + 17 * j) = false
theorem hole_clr (bl : Nat → Nat → Nat) (i q j : Nat) : hole (clrB bl i (· = 36 + 17 * q)) i (36 + 17 * j) = hole bl i (36 + 17 * j) := by
  have h1 : ∀ t, t < 16 → clrB bl i (· = 36 + 17 * q) i (36 + 17 * j + (1 + t)) = bl i (36 + 17 * j + (1 + t)) := fun t ht => clrB_no (by omega)
  rw [Bool.eq_iff_iff, hole_yes, hole_yes]
  exact ⟨fun h t ht => by rw [← h1 t ht]; exact h t ht, fun h t ht => by rw [h1 t ht]; exact h t ht⟩
theorem any_clr (bl : Nat → Nat → Nat) (i q : Nat) : anyF (clrB bl i (· = 36 + 17 * q)) i (q + 1) 16 ↔ anyF bl i (q + 1) 16 := by
  constructor
  · rintro ⟨j, h1, h2, h3, h4⟩
    rw [hole_clr] at h4
    rw [clrB_no (by omega)] at h3
    exact ⟨j, h1, h2, h3, h4⟩
  · rintro ⟨j, h1, h2, h3, h4⟩
    refine ⟨j, h1, h2, ?_, by rw [hole_clr]; exact h4⟩
    rw [clrB_no (by omega)]; exact h3
theorem any_step (bl : Nat → Nat → Nat) (i q : Nat) (hq : q < 16) : anyF bl i q 16 ↔ ((0 < bl i (36 + 17 * q) ∧ hole bl i (36 + 17 * q) = false) ∨ anyF bl i (q + 1) 16) := by
  constructor
  · rintro ⟨j, h1, h2, h3, h4⟩
    by_cases e : j = q
    · subst e; exact .inl ⟨h3, h4⟩
    · exact .inr ⟨j, by omega, h2, h3, h4⟩
  · rintro (⟨h3, h4⟩ | ⟨j, h1, h2, h3, h4⟩)
    · exact ⟨q, Nat.le_refl _, hq, h3, h4⟩
    · exact ⟨j, by omega, h2, h3, h4⟩
theorem fk_clr (bl : Nat → Nat → Nat) (i q c : Nat) (hq : q < 16) (hh : hole bl i (36 + 17 * q) = true) : (c = 36 + 17 * q ∨ fkS (clrB bl i (· = 36 + 17 * q)) i (q + 1) 16 c) ↔ fkS bl i q 16 c := by
  constructor
  · rintro (rfl | ⟨j, h1, h2, h3, h4⟩)
    · exact ⟨q, Nat.le_refl _, hq, rfl, hh⟩
    · rw [hole_clr] at h4
      exact ⟨j, by omega, h2, h3, h4⟩
  · rintro ⟨j, h1, h2, h3, h4⟩
    by_cases e : j = q
    · subst e; exact .inl h3
    · exact .inr ⟨j, by omega, h2, h3, by rw [hole_clr]; exact h4⟩
theorem fk_next (bl : Nat → Nat → Nat) (i q c : Nat) (hh : hole bl i (36 + 17 * q) = false) : fkS bl i (q + 1) 16 c ↔ fkS bl i q 16 c := by
  constructor
  · rintro ⟨j, h1, h2, h3, h4⟩
    exact ⟨j, by omega, h2, h3, h4⟩
  · rintro ⟨j, h1, h2, h3, h4⟩
    by_cases e : j = q
    · subst e; rw [hh] at h4; cases h4
    · exact ⟨j, by omega, h2, h3, h4⟩
theorem cut_forks {C : YC} (D : DropOK C) (E : EmptyOK C) (e2 : K3) (hi : i < N) : ∀ (d : Nat) (q : Nat) (any : Bool) (h : HW) (wd : Nat → Nat) (nd : Nat → Nat → SV) (bl : Nat → Nat → Nat), q + d = 16 → ∀ f, d < f →
    TableAt h T n N wd b now us nd → MapAt n N wd nd bl → ∃ h' wd', lp (l78_8 C lf e2) f (some (.ptr T.kt 0), some (.ptr T.kn (i * 308)), some (.bool any), some (.int .i64 (q : Int))) h =
        e2 (some (.ptr T.kt 0)) (some (.ptr T.kn (i * 308))) (some (.bool (any || decide (anyF bl i q 16)))) h' ∧
      DS h h' T n N wd wd' b now us nd bl i (fkS bl i q 16) := by
  intro d
  induction d with
  | zero =>
    intro q any h wd nd bl hm f hf A M
    obtain ⟨f, rfl⟩ : ∃ g, f = g + 1 := ⟨f - 1, by omega⟩
    have hno : decide (anyF bl i q 16) = false := decide_eq_false fun ⟨j, h1, h2, _⟩ => by omega
    refine ⟨h, wd, ?_, DS.refl A M fun c ⟨j, h1, h2, _⟩ => by omega⟩
    rw [lp_succ, hno, Bool.or_false]
    unfold l78_8 q78_58 q78_57 q78_54 q78_53
    have hlt : decide ((q : Int) < 16) = false := decide_eq_false (by omega)
    simp only [ob_some, b2_some, bc_ret, bcn_ret, gd_tt, gd_ff, gd_tf, gd_ft, ypk_true, ypk_false, yIf_true, yIf_false, semNil_ptr, fa_ptr, ld1_ptr, ext_tup, fd1_agg, un_not, bin_add, bin_sub, bin_mul, bin_eql, bin_neq, bin_lss, bin_leq, bin_gtr, bin_geq, Nat.zero_add, Nat.mul_one, hlt]
  | succ d ih =>
    intro q any h wd nd bl hm f hf A M
    obtain ⟨f, rfl⟩ : ∃ g, f = g + 1 := ⟨f - 1, by omega⟩
    have hq : q < 16 := by omega
    have hlt : decide ((q : Int) < 16) = true := decide_eq_true (by omega)
    have hs : IntKind.i64.wrap ((q : Int) + 1) = ((q + 1 : Nat) : Int) := by rw [wrap_i64 (by omega) (by omega)]; omega
    have hix := ixA_ptr (n := 16) (s := 17) (k := T.kn) (off := i * 308 + 36) (kd := .i64) (i := (q : Int)) (by omega) (by omega)
    rw [Int.toNat_natCast, show i * 308 + 36 + q * 17 = i * 308 + (36 + 17 * q) by omega] at hix
    have hld := fork_ld A M hi (c := 36 + 17 * q) (by omega) (by omega)
    obtain ⟨h1, em, F1⟩ := E h (fun j => bl i (36 + 17 * q + j))
    have hE : ((List.range 16).all fun j => bl i (36 + 17 * q + (1 + j)) == 0) = hole bl i (36 + 17 * q) := rfl
    rw [hE] at em
    have A1 : TableAt h1 T n N wd b now us nd := (DS.after F1 A fun A' => DS.refl (S := fun _ => False) A' M (fun _ x => x)).A |> fun a => by
      rw [clrN_none nd i (fun _ x => x)] at a; exact a
    cases hh : hole bl i (36 + 17 * q) with
    | true =>
      obtain ⟨h2, wd2, e2', d2⟩ := drop_ds D A1 M hi (c := 36 + 17 * q) (by omega) (by omega)
      have d2' := DS.after F1 A fun _ => d2
      have hv : (clrN nd i (· = 36 + 17 * q)) i (36 + 17 * q) = .int .i64 0 := clrN_yes rfl
      have hc0 := d2.A.cn i (36 + 17 * q) hi (by omega)
      rw [hv] at hc0
      obtain ⟨h3, wd3, e3, d3⟩ := ih (q + 1) any h2 wd2 _ _ (by omega) f (by omega) d2.A d2.M
      refine ⟨h3, wd3, ?_, (d2'.trans d3).ext fun c => ?_⟩
      · rw [lp_succ]
        show q78_58 C lf (fun x0 x1 x6 x28 h => lp (l78_8 C lf e2) f (x0, x1, x6, x28) h) e2 (some (.ptr T.kt 0)) (some (.ptr T.kn (i * 308))) (some (.bool any)) (some (.int .i64 (q : Int))) h = _
        unfold q78_58 q78_57 q78_54 q78_53 q78_51 q78_50 q78_49 q78_47 q78_46 q78_30 q78_11
        have hz : decide ((0 : Int) < 0) = false := by decide
        have hany : decide (anyF (clrB bl i (· = 36 + 17 * q)) i (q + 1) 16) = decide (anyF bl i q 16) := by
          rw [decide_eq_decide, any_clr, any_step bl i q hq, hh]; simp
        rw [hany] at e3
        rw [← e3]
        rw [hh] at em
        cases any with
        | true => simp only [ob_some, b2_some, bc_ret, bcn_ret, gd_tt, gd_ff, gd_tf, gd_ft, ypk_true, ypk_false, yIf_true, yIf_false, semNil_ptr, fa_ptr, ld1_ptr, ext_tup, fd1_agg, un_not, bin_add, bin_sub, bin_mul, bin_eql, bin_neq, bin_lss, bin_leq, bin_gtr, bin_geq, Nat.zero_add, Nat.mul_one, Nat.add_zero, hlt, hix, hld, em, e2', hs]
        | false => simp only [ob_some, b2_some, bc_ret, bcn_ret, gd_tt, gd_ff, gd_tf, gd_ft, ypk_true, ypk_false, yIf_true, yIf_false, semNil_ptr, fa_ptr, ld1_ptr, ext_tup, fd1_agg, un_not, bin_add, bin_sub, bin_mul, bin_eql, bin_neq, bin_lss, bin_leq, bin_gtr, bin_geq, Nat.zero_add, Nat.mul_one, Nat.add_zero, hlt, hix, hld, em, e2', hs, hc0, hz]
      · exact fk_clr bl i q c hq hh
    | false =>
      have A1c := A1.cn i (36 + 17 * q) hi (by omega)
      rw [M.cell i (36 + 17 * q) hi (by omega) (by omega)] at A1c
      obtain ⟨h3, wd3, e3, d3⟩ := ih (q + 1) (any || decide (0 < bl i (36 + 17 * q))) h1 wd nd bl (by omega) f (by omega) A1 M
      refine ⟨h3, wd3, ?_, (DS.after F1 A fun _ => d3).ext fun c => fk_next bl i q c hh⟩
      rw [lp_succ]
      show q78_58 C lf (fun x0 x1 x6 x28 h => lp (l78_8 C lf e2) f (x0, x1, x6, x28) h) e2 (some (.ptr T.kt 0)) (some (.ptr T.kn (i * 308))) (some (.bool any)) (some (.int .i64 (q : Int))) h = _
      unfold q78_58 q78_57 q78_54 q78_53 q78_51 q78_50 q78_49 q78_47 q78_46 q78_30 q78_11
      have hz : decide ((0 : Int) < (bl i (36 + 17 * q) : Int)) = decide (0 < bl i (36 + 17 * q)) := by rw [decide_eq_decide]; omega
      have hany : (any || decide (0 < bl i (36 + 17 * q)) || decide (anyF bl i (q + 1) 16)) = (any || decide (anyF bl i q 16)) := by
        rw [Bool.or_assoc, ← Bool.decide_or]
        congr 1
        rw [decide_eq_decide, any_step bl i q hq, hh]; simp
      rw [hany] at e3
      rw [← e3]
      rw [hh] at em
      cases any with
      | true => simp only [ob_some, b2_some, bc_ret, bcn_ret, gd_tt, gd_ff, gd_tf, gd_ft, ypk_true, ypk_false, yIf_true, yIf_false, semNil_ptr, fa_ptr, ld1_ptr, ext_tup, fd1_agg, un_not, bin_add, bin_sub, bin_mul, bin_eql, bin_neq, bin_lss, bin_leq, bin_gtr, bin_geq, Nat.zero_add, Nat.mul_one, Nat.add_zero, hlt, hix, hld, em, hs, Bool.true_or]
      | false => simp only [ob_some, b2_some, bc_ret, bcn_ret, gd_tt, gd_ff, gd_tf, gd_ft, ypk_true, ypk_false, yIf_true, yIf_false, semNil_ptr, fa_ptr, ld1_ptr, ext_tup, fd1_agg, un_not, bin_add, bin_sub, bin_mul, bin_eql, bin_neq, bin_lss, bin_leq, bin_gtr, bin_geq, Nat.zero_add, Nat.mul_one, Nat.add_zero, hlt, hix, hld, em, hs, A1c, hz, Bool.false_or]
end
end Go.Proofs.YtomialandfplkaaDoor.Eva
namespace Go.Proofs.YtomialandfplkaaDoor.Eva
open Go.Xe
open Classical
set_option linter.unusedSimpArgs false
section
variable {lf : Nat} {h h' h'' : HW} {T : TN} {n N : Nat} {wd wd' wd'' b : Nat → Nat} {now : Int} {us : Nat → Bool} {nd : Nat → Nat → SV} {bl : Nat → Nat → Nat} {i : Nat} {S S' : Nat → Prop}
theorem plOff_ne {m : Nat} (hm : m < 278) : plOff m ≠ 18 ∧ plOff m ≠ 35 ∧ ∀ q, q < 16 → plOff m ≠ 36 + 17 * q := by
  unfold plOff; split
  · exact ⟨by omega, by omega, fun q hq => by omega⟩
  · split
    · exact ⟨by omega, by omega, fun q hq => by omega⟩
    · exact ⟨by omega, by omega, fun q hq => by omega⟩
theorem plOff_inj {m m' : Nat} (h : plOff m = plOff m') (hm : m < 278) (hm' : m' < 278) : m = m' := by
  unfold plOff at h; split at h <;> split at h <;> (try split at h) <;> (try split at h) <;> omega
noncomputable def hol (bl : Nat → Nat → Nat) (i k c : Nat) : Bool := hole (clrB bl i (plS k 278)) i c
def cutS (bl : Nat → Nat → Nat) (i k c : Nat) : Prop := plS k 278 c ∨ (c = 18 ∧ hol bl i k 18 = true) ∨ (∃ j, j < 16 ∧ c = 36 + 17 * j ∧ hol bl i k (36 + 17 * j) = true) ∨
  (c = 35 ∧ ∀ j, j < 16 → bl i (36 + 17 * j) = 0 ∨ hol bl i k (36 + 17 * j) = true)
theorem hole_congr {bl bl' : Nat → Nat → Nat} {i c : Nat} (h : ∀ t, t < 16 → bl' i (c + (1 + t)) = bl i (c + (1 + t))) : hole bl' i c = hole bl i c := by
  rw [Bool.eq_iff_iff, hole_yes, hole_yes]
  exact ⟨fun e t ht => by rw [← h t ht]; exact e t ht, fun e t ht => by rw [h t ht]; exact e t ht⟩
theorem fork_step {C : YC} (D : DropOK C) (E : EmptyOK C) (A : TableAt h T n N wd b now us nd) (M : MapAt n N wd nd bl) (hi : i < N) {c : Nat} (h12 : 12 ≤ c) (hc : c + 17 ≤ 308) :
    ∃ h1, C (.fn 92) [.agg (forkV fun j => bl i (c + j))] h = some (.ret (.bool (hole bl i c)), h1) ∧ TableAt h1 T n N wd b now us nd ∧
      (hole bl i c = true → ∃ h2 wd2, C (.fn 91) [.ptr T.kt 0, .ptr T.kn (i * 308 + c)] h1 = some (.ret (.tup []), h2) ∧ DS h h2 T n N wd wd2 b now us nd bl i (fun x => x = c ∧ hole bl i c = true)) ∧
      (hole bl i c = false → DS h h1 T n N wd wd b now us nd bl i (fun x => x = c ∧ hole bl i c = true)) := by
  obtain ⟨h1, em, F1⟩ := E h (fun j => bl i (c + j))
  have hE : ((List.range 16).all fun j => bl i (c + (1 + j)) == 0) = hole bl i c := rfl
  rw [hE] at em
  have A1 : TableAt h1 T n N wd b now us nd := (DS.after F1 A fun A' => DS.refl (S := fun _ => False) A' M (fun _ x => x)).A |> fun a => by
    rw [clrN_none nd i (fun _ x => x)] at a; exact a
  refine ⟨h1, em, A1, fun hh => ?_, fun hh => ?_⟩
  · obtain ⟨h2, wd2, e2, d2⟩ := drop_ds D A1 M hi (c := c) (by omega) (by omega)
    exact ⟨h2, wd2, e2, (DS.after F1 A fun _ => d2).ext fun x => ⟨fun e => ⟨e, hh⟩, fun e => e.1⟩⟩
  · refine (DS.after F1 A fun A' => DS.refl (S := fun _ => False) A' M (fun _ x => x)).ext fun x => ⟨fun e => e.elim, fun e => ?_⟩
    rw [hh] at e; exact absurd e.2 (by simp)
theorem pl_at {k q : Nat} (hq : q < 16) : ¬ plS k 278 (36 + 17 * q) := fun ⟨_, _, hm, e⟩ => (plOff_ne hm).2.2 q hq e.symm
theorem mid_hole {k q : Nat} {p : Prop} (hq : q < 16) : hole (clrB bl i (fun c => plS k 278 c ∨ (c = 18 ∧ p))) i (36 + 17 * q) = hol bl i k (36 + 17 * q) := by
  unfold hol
  refine hole_congr fun t ht => ?_
  by_cases e : plS k 278 (36 + 17 * q + (1 + t))
  · rw [clrB_yes e, clrB_yes (.inl e)]
  · rw [clrB_no (fun x => e x.2), clrB_no (fun x => x.2.elim e (fun y => by omega))]
theorem mid_at {k q : Nat} {p : Prop} (hq : q < 16) : clrB bl i (fun c => plS k 278 c ∨ (c = 18 ∧ p)) i (36 + 17 * q) = bl i (36 + 17 * q) :=
  clrB_no (fun x => x.2.elim (pl_at hq) (fun y => by omega))
theorem mid_any {k : Nat} {p : Prop} : anyF (clrB bl i (fun c => plS k 278 c ∨ (c = 18 ∧ p))) i 0 16 ↔ ¬ ∀ j, j < 16 → bl i (36 + 17 * j) = 0 ∨ hol bl i k (36 + 17 * j) = true := by
  constructor
  · rintro ⟨j, _, hj, h1, h2⟩ hall
    rw [mid_at hj] at h1
    rw [mid_hole hj] at h2
    rcases hall j hj with e | e
    · omega
    · rw [h2] at e; cases e
  · intro hn
    apply Classical.byContradiction
    intro hno
    refine hn fun j hj => ?_
    by_cases e : bl i (36 + 17 * j) = 0
    · exact .inl e
    · right
      cases hh : hol bl i k (36 + 17 * j) with
      | true => rfl
      | false => exact absurd ⟨j, by omega, hj, by rw [mid_at hj]; omega, by rw [mid_hole hj]; exact hh⟩ hno
theorem mid_fk {k c : Nat} {p : Prop} : fkS (clrB bl i (fun c => plS k 278 c ∨ (c = 18 ∧ p))) i 0 16 c ↔ ∃ j, j < 16 ∧ c = 36 + 17 * j ∧ hol bl i k (36 + 17 * j) = true := by
  constructor
  · rintro ⟨j, _, hj, h1, h2⟩
    rw [mid_hole hj] at h2
    exact ⟨j, hj, h1, h2⟩
  · rintro ⟨j, hj, h1, h2⟩
    exact ⟨j, by omega, hj, h1, by rw [mid_hole hj]; exact h2⟩
def CutOK (C : YC) : Prop := ∀ h T n N wd b now us nd bl i (k : Nat), TableAt h T n N wd b now us nd → MapAt n N wd nd bl → i < N → k ≤ 278 →
  ∃ h' wd', C (.fn 78) [.ptr T.kt 0, .ptr T.kn (i * 308), .int .i64 (k : Int)] h = some (.ret (.tup []), h') ∧ DS h h' T n N wd wd' b now us nd bl i (cutS bl i k)
theorem cut_ok {C : YC} (hlf : 300 ≤ lf) (D : DropOK C) (Pl : PlaceOK C) (E : EmptyOK C) (A : TableAt h T n N wd b now us nd) (M : MapAt n N wd nd bl) (hi : i < N) {k : Nat} (hk : k ≤ 278) :
    ∃ h' wd', fs78 C lf (.ptr T.kt 0) (.ptr T.kn (i * 308)) (.int .i64 (k : Int)) h = some (.ret (.tup []), h') ∧ DS h h' T n N wd wd' b now us nd bl i (cutS bl i k) := by
  obtain ⟨h1, wd1, e1, d1⟩ := cut_places (lf := lf) D Pl (fun x0 x1 h => q78_76 C lf ff78 x0 x1 h) hi (278 - k) k h wd nd bl (by omega) lf (by omega) A M
  have hfs : fs78 C lf (.ptr T.kt 0) (.ptr T.kn (i * 308)) (.int .i64 (k : Int)) h = lp (l78_77 C lf (fun x0 x1 h => q78_76 C lf ff78 x0 x1 h)) lf (some (.ptr T.kt 0), some (.ptr T.kn (i * 308)), some (.int .i64 (k : Int))) h := rfl
  rw [hfs, e1]
  obtain ⟨h2, em, A2, y2, n2⟩ := fork_step D E d1.A d1.M hi (c := 18) (by omega) (by omega)
  have hld := fork_ld d1.A d1.M hi (c := 18) (by omega) (by omega)
  have hH18 : hole (clrB bl i (plS k 278)) i 18 = hol bl i k 18 := rfl
  have h75 : ∃ h3 wd3, q78_76 C lf ff78 (some (.ptr T.kt 0)) (some (.ptr T.kn (i * 308))) h1 = q78_63 C lf ff78 (some (.ptr T.kt 0)) (some (.ptr T.kn (i * 308))) h3 ∧
      DS h1 h3 T n N wd1 wd3 b now us (clrN nd i (plS k 278)) (clrB bl i (plS k 278)) i (fun x => x = 18 ∧ hole (clrB bl i (plS k 278)) i 18 = true) := by
    cases hh : hole (clrB bl i (plS k 278)) i 18 with
    | true =>
      obtain ⟨h3, wd3, e3, d3⟩ := y2 hh
      refine ⟨h3, wd3, ?_, by rw [hh] at d3; exact d3⟩
      rw [hh] at em
      unfold q78_76 q78_75
      simp only [ob_some, b2_some, bc_ret, bcn_ret, gd_tt, gd_ff, gd_tf, gd_ft, ypk_true, ypk_false, yIf_true, yIf_false, semNil_ptr, fa_ptr, ld1_ptr, ext_tup, fd1_agg, un_not, bin_add, bin_sub, bin_mul, bin_eql, bin_neq, bin_lss, bin_leq, bin_gtr, bin_geq, Nat.zero_add, Nat.mul_one, Nat.add_zero, hld, em, e3]
    | false =>
      refine ⟨h2, wd1, ?_, by have := n2 hh; rw [hh] at this; exact this⟩
      rw [hh] at em
      unfold q78_76 q78_75
      simp only [ob_some, b2_some, bc_ret, bcn_ret, gd_tt, gd_ff, gd_tf, gd_ft, ypk_true, ypk_false, yIf_true, yIf_false, semNil_ptr, fa_ptr, ld1_ptr, ext_tup, fd1_agg, un_not, bin_add, bin_sub, bin_mul, bin_eql, bin_neq, bin_lss, bin_leq, bin_gtr, bin_geq, Nat.zero_add, Nat.mul_one, Nat.add_zero, hld, em]
  obtain ⟨h3, wd3, e3, d3⟩ := h75
  rw [e3]
  obtain ⟨h4, wd4, e4, d4⟩ := cut_forks (lf := lf) D E (fun x0 x1 x6 h => q78_7 C lf ff78 x0 x1 x6 h) hi 16 0 false h3 wd3 _ _ rfl lf (by omega) d3.A d3.M
  have hf4 : q78_63 C lf ff78 (some (.ptr T.kt 0)) (some (.ptr T.kn (i * 308))) h3 = lp (l78_8 C lf (fun x0 x1 x6 h => q78_7 C lf ff78 x0 x1 x6 h)) lf (some (.ptr T.kt 0), some (.ptr T.kn (i * 308)), some (.bool false), some (.int .i64 ((0 : Nat) : Int))) h3 := rfl
  rw [hf4, e4]
  have d14 := (d1.trans d3).trans (by rw [clrN_or, clrB_or] at d4; exact d4)
  rw [clrB_or, Bool.false_or]
  by_cases ha : ∀ j, j < 16 → bl i (36 + 17 * j) = 0 ∨ hol bl i k (36 + 17 * j) = true
  · have hd : decide (anyF (clrB bl i (fun c => plS k 278 c ∨ (c = 18 ∧ hole (clrB bl i (plS k 278)) i 18 = true))) i 0 16) = false := decide_eq_false fun e => mid_any.1 e ha
    obtain ⟨h5, wd5, e5, d5⟩ := drop_ds D d14.A d14.M hi (c := 35) (by omega) (by omega)
    refine ⟨h5, wd5, ?_, (d14.trans d5).ext fun c => ?_⟩
    · rw [hd]
      unfold q78_7
      simp only [ob_some, b2_some, bc_ret, bcn_ret, gd_tt, gd_ff, gd_tf, gd_ft, ypk_true, ypk_false, yIf_true, yIf_false, semNil_ptr, fa_ptr, ld1_ptr, ext_tup, fd1_agg, un_not, bin_add, bin_sub, bin_mul, bin_eql, bin_neq, bin_lss, bin_leq, bin_gtr, bin_geq, Nat.zero_add, Nat.mul_one, Bool.not_false, e5]
      rfl
    · rw [mid_fk]
      unfold cutS
      constructor
      · rintro (((h | h) | h) | h)
        · exact .inl h
        · exact .inr (.inl h)
        · exact .inr (.inr (.inl h))
        · exact .inr (.inr (.inr ⟨h, ha⟩))
      · rintro (h | h | h | h)
        · exact .inl (.inl (.inl h))
        · exact .inl (.inl (.inr h))
        · exact .inl (.inr h)
        · exact .inr h.1
  · have hd : decide (anyF (clrB bl i (fun c => plS k 278 c ∨ (c = 18 ∧ hole (clrB bl i (plS k 278)) i 18 = true))) i 0 16) = true := decide_eq_true (mid_any.2 ha)
    refine ⟨h4, wd4, ?_, d14.ext fun c => ?_⟩
    · rw [hd]
      unfold q78_7
      simp only [ob_some, b2_some, bc_ret, bcn_ret, gd_tt, gd_ff, gd_tf, gd_ft, ypk_true, ypk_false, yIf_true, yIf_false, semNil_ptr, fa_ptr, ld1_ptr, ext_tup, fd1_agg, un_not, bin_add, bin_sub, bin_mul, bin_eql, bin_neq, bin_lss, bin_leq, bin_gtr, bin_geq, Nat.zero_add, Nat.mul_one, Bool.not_true]
      rfl
    · rw [mid_fk]
      unfold cutS
      constructor
      · rintro ((h | h) | h)
        · exact .inl h
        · exact .inr (.inl h)
        · exact .inr (.inr (.inl h))
      · rintro (h | h | h | h)
        · exact .inl (.inl h)
        · exact .inl (.inr h)
        · exact .inr h
        · exact absurd h.2 ha
end
end Go.Proofs.YtomialandfplkaaDoor.Eva
namespace Go.Proofs.YtomialandfplkaaDoor.Eva
open Go.Xe
open Classical
set_option linter.unusedSimpArgs false
def updR (nd : Nat → Nat → SV) (i : Nat) (g : Nat → SV) : Nat → Nat → SV := fun i' c => if i' = i then g c else nd i' c
theorem updR_same (nd : Nat → Nat → SV) (i : Nat) (g : Nat → SV) (c : Nat) : updR nd i g i c = g c := if_pos rfl
theorem updR_ne (nd : Nat → Nat → SV) {i i' : Nat} (g : Nat → SV) (c : Nat) (h : i' ≠ i) : updR nd i g i' c = nd i' c := if_neg h
def zeroN (c : Nat) : SV := if c = 0 then .bool false else .int .i64 0
def rowN (g : Nat → SV) : List SV := (List.range 308).map g
section
variable {lf : Nat} {h h' h'' : HW} {T : TN} {n N : Nat} {wd wd' wd'' b : Nat → Nat} {now : Int} {us : Nat → Bool} {nd : Nat → Nat → SV} {bl : Nat → Nat → Nat} {i : Nat} {S S' : Nat → Prop}
theorem TableAt.setRow (A : TableAt h T n N wd b now us nd) (hi : i < N) {g : Nat → SV} {v : Bool} (h0 : g 0 = .bool v) : TableAt (h.set T.kn (i * 308) (rowN g)) T n N wd b now (upd us i v) (updR nd i g) := by
  have hl : (rowN g).length = 308 := by rw [rowN, List.length_map, List.length_range]
  have hb : i * 308 + (rowN g).length ≤ N * 308 := by rw [hl]; omega
  refine ⟨A.N1, A.N2, A.st.frame (Nat.le_of_eq (set_next ..).symm) (set_other _ _ _ (fun e => A.d4 e.symm)) (set_other _ _ _ (fun e => A.d5 e.symm)), ?_, ?_, ?_, wr_set A.wt, wr_set A.wn, fun i' c' hi' hc' => ?_, fun i' hi' => ?_, A.d1, A.d2, A.d3, A.d4, A.d5, by rw [set_next]; exact A.lt, by rw [set_next]; exact A.ln⟩
  · rw [cell_set_off (.inl A.d3)]; exact A.c0
  · rw [cell_set_off (.inl A.d3)]; exact A.c1
  · rw [cell_set_off (.inl A.d3)]; exact A.c2
  · by_cases e : i' = i
    · subst e
      rw [cell_set_same A.wn hb (Nat.le_add_right _ _) (by rw [hl]; exact Nat.add_lt_add_left hc' _), updR_same, Nat.add_sub_cancel_left]
      simp [rowN, hc']
    · rw [cell_set_off (.inr (by rw [hl]; omega)), updR_ne _ _ _ e]; exact A.cn i' c' hi' hc'
  · by_cases e : i' = i
    · subst e; rw [updR_same, upd_same, h0]
    · rw [updR_ne _ _ _ e, upd_ne _ _ e]; exact A.u0 i' hi'
theorem st_row (A : TableAt h T n N wd b now us nd) (hi : i < N) {g : Nat → SV} (hg : allOne (rowN g) = true) : st 308 (.ptr T.kn (i * 308)) (.agg (rowN g)) h = some (h.set T.kn (i * 308) (rowN g)) := by
  have hl : (rowN g).length = 308 := by rw [rowN, List.length_map, List.length_range]
  exact st_ptr (n := 308) (off := i * 308) (y := .agg (rowN g)) A.wn hl (by omega) hg
theorem MapAt.row (M : MapAt n N wd nd bl) {g : Nat → SV} (hg : ∀ c, 12 ≤ c → c < 308 → g c = .int .i64 0) (h0 : ∀ c, 12 ≤ c → c < 308 → bl i c = 0) : MapAt n N wd (updR nd i g) bl :=
  ⟨fun i' c hi' h12 hc => by
    by_cases e : i' = i
    · subst e; rw [updR_same, hg c h12 hc, h0 c h12 hc]; rfl
    · rw [updR_ne _ _ _ e]; exact M.cell i' c hi' h12 hc, M.le, M.on, M.inj⟩
end
end Go.Proofs.YtomialandfplkaaDoor.Eva
namespace Go.Proofs.YtomialandfplkaaDoor.Eva
open Go.Xe
set_option linter.unusedSimpArgs false
section
variable {lf : Nat} {h : HW}
theorem two0 {a b : SV} : ([a, b] : List SV)[0]? = some a := noRfl rfl
theorem two1 {a b : SV} : ([a, b] : List SV)[1]? = some b := noRfl rfl
def zeroV : List Value := .bool false :: List.replicate 307 (.int .i64 0)
def NewTOK (C : YC) : Prop := ∀ h (n m : Int), -9223372036854775808 ≤ n → n < 9223372036854775808 → -9223372036854775808 ≤ m → m < 9223372036854775808 →
  ((n < 1 ∨ 4096 < n ∨ m < 1 ∨ 4096 < m) → ∃ h', C (.fn 36) [.int .i64 n, .int .i64 m] h = some (.ret (.tup [.val (.pointer none), .int .i64 22]), h') ∧ Frm h h' (fun _ => False)) ∧
  (1 ≤ n → n ≤ 4096 → 1 ≤ m → m ≤ 4096 → ∃ h', C (.fn 36) [.int .i64 n, .int .i64 m] h = some (.ret (.tup [.ptr (h.next + 3) 0, .int .i64 0]), h') ∧ h'.next = h.next + 4 ∧
    TableAt h' ⟨h.next + 3, h.next + 1, h.next, h.next + 2⟩ n.toNat m.toNat (fun _ => 0) (fun _ => 0) 0 (fun _ => false) (fun _ => zeroN) ∧ Frm h h' (fun _ => False))
theorem newT_ok {C : YC} (Nw : NewOK C) {n m : Int} (n1 : -9223372036854775808 ≤ n) (n2 : n < 9223372036854775808) :
    ((n < 1 ∨ 4096 < n ∨ m < 1 ∨ 4096 < m) → ∃ h', fs36 C lf (.int .i64 n) (.int .i64 m) h = some (.ret (.tup [.val (.pointer none), .int .i64 22]), h') ∧ Frm h h' (fun _ => False)) ∧
    (1 ≤ n → n ≤ 4096 → 1 ≤ m → m ≤ 4096 → ∃ h', fs36 C lf (.int .i64 n) (.int .i64 m) h = some (.ret (.tup [.ptr (h.next + 3) 0, .int .i64 0]), h') ∧ h'.next = h.next + 4 ∧
      TableAt h' ⟨h.next + 3, h.next + 1, h.next, h.next + 2⟩ n.toNat m.toNat (fun _ => 0) (fun _ => 0) 0 (fun _ => false) (fun _ => zeroN) ∧ Frm h h' (fun _ => False)) := by
  obtain ⟨w1, w2⟩ := Nw h n n1 n2
  have x0 : decide ((22 : Int) ≠ 0) = true := by decide
  have x1 : decide ((0 : Int) ≠ 0) = false := by decide
  unfold fs36 q36_18 ff36
  simp only [ob_some, b2_some, bc_ret, bcn_ret, gd_tt, gd_ff, gd_tf, gd_ft, ypk_true, ypk_false, yIf_true, yIf_false, semNil_ptr, fa_ptr, ld1_ptr, ext_tup, fd1_agg, un_not, bin_add, bin_sub, bin_mul, bin_eql, bin_neq, bin_lss, bin_leq, bin_gtr, bin_geq, Nat.zero_add, Nat.mul_one]
  refine ⟨fun hb => ?_, fun h1 h2 h3 h4 => ?_⟩
  · by_cases hn : n < 1 ∨ 4096 < n
    · refine ⟨h, ?_, Frm.refl _ _⟩
      simp only [w1 hn, ob_some, b2_some, bc_ret, bcn_ret, gd_tt, gd_ff, gd_tf, gd_ft, ypk_true, ypk_false, yIf_true, yIf_false, semNil_ptr, fa_ptr, ld1_ptr, ext_tup, fd1_agg, un_not, bin_add, bin_sub, bin_mul, bin_eql, bin_neq, bin_lss, bin_leq, bin_gtr, bin_geq, Nat.zero_add, Nat.mul_one, two0, two1, x0]
    · obtain ⟨hs, e1, _, _, F1⟩ := w2 (by omega) (by omega)
      refine ⟨hs, ?_, F1⟩
      by_cases hm : m < 1
      · simp only [e1, ob_some, b2_some, bc_ret, bcn_ret, gd_tt, gd_ff, gd_tf, gd_ft, ypk_true, ypk_false, yIf_true, yIf_false, semNil_ptr, fa_ptr, ld1_ptr, ext_tup, fd1_agg, un_not, bin_add, bin_sub, bin_mul, bin_eql, bin_neq, bin_lss, bin_leq, bin_gtr, bin_geq, Nat.zero_add, Nat.mul_one, two0, two1, x1, decide_eq_true hm]
      · have hm' : 4096 < m := by omega
        simp only [e1, ob_some, b2_some, bc_ret, bcn_ret, gd_tt, gd_ff, gd_tf, gd_ft, ypk_true, ypk_false, yIf_true, yIf_false, semNil_ptr, fa_ptr, ld1_ptr, ext_tup, fd1_agg, un_not, bin_add, bin_sub, bin_mul, bin_eql, bin_neq, bin_lss, bin_leq, bin_gtr, bin_geq, Nat.zero_add, Nat.mul_one, two0, two1, x1, decide_eq_false hm, decide_eq_true hm']
  · obtain ⟨hs, e1, hnx, S1, F1⟩ := w2 h1 h2
    obtain ⟨M, rfl⟩ : ∃ M : Nat, m = M := ⟨m.toNat, by omega⟩
    have d1 : decide ((M : Int) < 1) = false := decide_eq_false (by omega)
    have d2 : decide ((4096 : Int) < (M : Int)) = false := decide_eq_false (by omega)
    have hz : tyZero Tryd.prog 125 = some (.agg ⟨zeroV⟩) := by kernel_rfl
    have hc : (mkV (.agg ⟨zeroV⟩)).cells = rowN zeroN := by kernel_rfl
    have hlen : (rowN zeroN).length = 308 := by rw [rowN, List.length_map, List.length_range]
    have hmk := ymk_eq (P := Tryd.prog) (t := 100) (e := 125) (s := 308) (b := 2464) (k1 := .i64) (k2 := .i64) (l := M) (c := M) (h := hs)
      Tryd.underlying100 (by kernel_rfl) hz (by kernel_rfl) (Nat.le_refl _) (by omega) (by omega) (by rw [hc, hlen]) (by omega)
    rw [hc] at hmk
    have hbd : semBuild Tryd.prog 102 [0, 1] [.ptr (h.next + 1) 0, .sl hs.next 0 M (some M) 0] = some (.agg [.ptr (h.next + 1) 0, .sl hs.next 0 M (some M) 0, .int .i64 0]) := by kernel_rfl
    have hbx := ybx_eq (e := 102) (x := .agg [.ptr (h.next + 1) 0, .sl hs.next 0 M (some M) 0, .int .i64 0]) (h := hs.new (patOb 125 (M * 308) (rowN zeroN))) rfl
    have hcells : (SV.agg [.ptr (h.next + 1) 0, .sl hs.next 0 M (some M) 0, .int .i64 0]).cells = [.ptr (h.next + 1) 0, .sl hs.next 0 M (some M) 0, .int .i64 0] := rfl
    rw [hcells, new_next, hnx] at hbx
    rw [hnx] at hmk hbd
    simp only [e1, ob_some, b2_some, bc_ret, bcn_ret, gd_tt, gd_ff, gd_tf, gd_ft, ypk_true, ypk_false, yIf_true, yIf_false, semNil_ptr, fa_ptr, ld1_ptr, ext_tup, fd1_agg, un_not, bin_add, bin_sub, bin_mul, bin_eql, bin_neq, bin_lss, bin_leq, bin_gtr, bin_geq, Nat.zero_add, Nat.mul_one, two0, two1, x1, d1, d2, hmk, hbd, hbx]
    refine ⟨_, rfl, by rw [new_next, new_next, hnx], ?_, F1.trans ((Frm.new _ _ _).trans (Frm.new _ _ _))⟩
    rw [Int.toNat_natCast]
    have hcell : ∀ i, (((hs.new (patOb 125 (M * 308) (rowN zeroN))).new (rowOb 102 [.ptr (h.next + 1) 0, .sl (h.next + 2) 0 M (some M) 0, .int .i64 0])).cell (h.next + 3) i) =
        ([.ptr (h.next + 1) 0, .sl (h.next + 2) 0 M (some M) 0, .int .i64 0] : List SV)[i]? := fun i => by
      have e : h.next + 3 = (hs.new (patOb 125 (M * 308) (rowN zeroN))).next := by rw [new_next, hnx]
      rw [e, cell_new_same, rowOb_get]
    have e3 : (hs.new (patOb 125 (M * 308) (rowN zeroN))).next = h.next + 3 := by rw [new_next, hnx]
    have S2 : StoreAt ((hs.new (patOb 125 (M * 308) (rowN zeroN))).new (rowOb 102 [.ptr (h.next + 1) 0, .sl (h.next + 2) 0 M (some M) 0, .int .i64 0])) (h.next + 1) h.next n.toNat (fun _ => 0) (fun _ => 0) :=
      S1.frm ((Frm.new hs _ (fun _ => False)).trans (Frm.new _ _ _)) (fun x => x) (fun x => x)
    refine ⟨by omega, by omega, S2, by rw [hcell]; rfl, by rw [hcell]; rfl, by rw [hcell]; rfl, ?_, ?_, fun i c hi hc => ?_, fun i _ => rfl, by show h.next + 3 ≠ h.next + 1; omega, by show h.next + 3 ≠ h.next; omega, by show h.next + 3 ≠ h.next + 2; omega, by show h.next + 2 ≠ h.next + 1; omega, by show h.next + 2 ≠ h.next; omega, ?_, ?_⟩
    · have := wr_new (h := hs.new (patOb 125 (M * 308) (rowN zeroN))) (o := rowOb 102 [.ptr (h.next + 1) 0, .sl (h.next + 2) 0 M (some M) 0, .int .i64 0]) rfl
      rw [e3] at this; exact this
    · have := wr_new (h := hs) (o := patOb 125 (M * 308) (rowN zeroN)) rfl
      rw [hnx] at this
      exact wr_new_other this (by rw [e3]; show h.next + 2 ≠ h.next + 3; omega)
    · have e2 : h.next + 2 = hs.next := hnx.symm
      show _ = some (zeroN c)
      rw [cell_new_other (by rw [e3]; show h.next + 2 ≠ h.next + 3; omega)]
      show HW.cell _ (h.next + 2) _ = _
      have hlt : i * 308 + c < M * 308 := by omega
      have hmod : (i * 308 + c) % 308 = c := by omega
      rw [e2, cell_new_same, patOb_get _ _ hlt, hlen, hmod, rowN, List.getElem?_map, List.getElem?_range hc]; rfl
    · show h.next + 3 < _
      rw [new_next, new_next, hnx]; omega
    · show h.next + 2 < _
      rw [new_next, new_next, hnx]; omega
end
end Go.Proofs.YtomialandfplkaaDoor.Eva
namespace Go.Proofs.YtomialandfplkaaDoor.Eva
open Go.Xe
set_option linter.unusedSimpArgs false
theorem bin_andI {P : Program} {t : TypeId} {a b : Int} : bin P .and t (.int .i64 a) (.int .i64 b) = some (.int .i64 (IntKind.i64.wrap ((BitVec.ofInt 64 a &&& BitVec.ofInt 64 b).toNat : Int))) := by
  rw [bin_bits _ (.inl rfl)]; simp only [arith, forceI_eq]; rfl
theorem bin_andNotI {P : Program} {t : TypeId} {a b : Int} : bin P .andNot t (.int .i64 a) (.int .i64 b) = some (.int .i64 (IntKind.i64.wrap ((BitVec.ofInt 64 a &&& ~~~BitVec.ofInt 64 b).toNat : Int))) := by
  rw [bin_bits _ (.inr (.inr (.inr rfl)))]; simp only [arith, forceI_eq]; rfl
def modeX (mo : Int) : Int := IntKind.i64.wrap ((BitVec.ofInt 64 mo &&& ~~~BitVec.ofInt 64 65535).toNat : Int)
def modeK (mo : Int) : Int := IntKind.i64.wrap ((BitVec.ofInt 64 mo &&& BitVec.ofInt 64 61440).toNat : Int)
def badA (mo uid gid : Int) : Prop := modeX mo ≠ 0 ∨ (modeK mo ≠ 32768 ∧ modeK mo ≠ 16384 ∧ modeK mo ≠ 40960) ∨ uid < 0 ∨ gid < 0
def newN (ino uid gid mo now : Int) (c : Nat) : SV := if c = 0 then .bool true else if c = 1 then .int .i64 ino else if c = 3 then .int .i64 uid else if c = 4 then .int .i64 gid else if c = 7 then .int .i64 mo else
  if c = 8 ∨ c = 9 ∨ c = 10 then .int .i64 now else .int .i64 0
section
variable {lf : Nat} {h : HW} {T : TN} {n N : Nat} {wd b : Nat → Nat} {now : Int} {us : Nat → Bool} {nd : Nat → Nat → SV} {mo uid gid : Int}
theorem allocT_loop {C : YC} (r : K2) (e0 : K0) (A : TableAt h T n N wd b now us nd) : ∀ (d q : Nat), q + d = N → ∀ f, d < f →
    ((∀ j, q ≤ j → j < N → us j = true) → lp (l37_3 C lf r e0) f (some (.ptr T.kt 0), some (.int .i64 mo), some (.int .i64 uid), some (.int .i64 gid), some (.int .i64 (N : Int)), some (.int .i64 (q : Int))) h = e0 h) ∧
    (∀ i, q ≤ i → i < N → us i = false → (∀ j, q ≤ j → j < i → us j = true) → lp (l37_3 C lf r e0) f (some (.ptr T.kt 0), some (.int .i64 mo), some (.int .i64 uid), some (.int .i64 gid), some (.int .i64 (N : Int)), some (.int .i64 (q : Int))) h =
      r (some (.int .i64 ((i + 1 : Nat) : Int))) (some (.int .i64 0)) (h.set T.kn (i * 308) (rowN (newN ((i + 1 : Nat) : Int) uid gid mo now)))) := by
  intro d
  induction d with
  | zero =>
    intro q hq f hf
    obtain ⟨f, rfl⟩ : ∃ g, f = g + 1 := ⟨f - 1, by omega⟩
    refine ⟨fun _ => ?_, fun i h1 h2 => by omega⟩
    rw [lp_succ]
    unfold l37_3 q37_43
    have hlt : decide ((q : Int) < (N : Int)) = false := decide_eq_false (by omega)
    simp only [ob_some, b2_some, bc_ret, bcn_ret, gd_tt, gd_ff, gd_tf, gd_ft, ypk_true, ypk_false, yIf_true, yIf_false, semNil_ptr, fa_ptr, ld1_ptr, ext_tup, fd1_agg, un_not, bin_add, bin_sub, bin_mul, bin_eql, bin_neq, bin_lss, bin_leq, bin_gtr, bin_geq, Nat.zero_add, Nat.mul_one, hlt]
  | succ d ih =>
    intro q hq f hf
    obtain ⟨f, rfl⟩ : ∃ g, f = g + 1 := ⟨f - 1, by omega⟩
    obtain ⟨ih1, ih2⟩ := ih (q + 1) (by omega) f (by omega)
    have hN := A.N2
    have hqN : q < N := by omega
    have hlt : decide ((q : Int) < (N : Int)) = true := decide_eq_true (by omega)
    have hs : IntKind.i64.wrap ((q : Int) + 1) = ((q + 1 : Nat) : Int) := by rw [wrap_i64 (by omega) (by omega)]; omega
    have hix := ixS_sl (s := 308) (k := T.kn) (off := 0) (len := N) (lo := 0) (cap := some N) (kd := .i64) (i := (q : Int)) (by omega) (by omega)
    rw [Int.toNat_natCast, Nat.zero_add] at hix
    have hc := A.cn q 0 hqN (by omega)
    rw [A.u0 q hqN] at hc
    have step : us q = true → lp (l37_3 C lf r e0) (f + 1) (some (.ptr T.kt 0), some (.int .i64 mo), some (.int .i64 uid), some (.int .i64 gid), some (.int .i64 (N : Int)), some (.int .i64 (q : Int))) h =
        lp (l37_3 C lf r e0) f (some (.ptr T.kt 0), some (.int .i64 mo), some (.int .i64 uid), some (.int .i64 gid), some (.int .i64 (N : Int)), some (.int .i64 ((q + 1 : Nat) : Int))) h := by
      intro hu
      rw [hu] at hc
      rw [lp_succ]
      show q37_43 C lf (fun x0 x1 x2 x3 x44 x45 h => lp (l37_3 C lf r e0) f (x0, x1, x2, x3, x44, x45) h) r e0 (some (.ptr T.kt 0)) (some (.int .i64 mo)) (some (.int .i64 uid)) (some (.int .i64 gid)) (some (.int .i64 (N : Int))) (some (.int .i64 (q : Int))) h = _
      unfold q37_43
      simp only [ob_some, b2_some, bc_ret, bcn_ret, gd_tt, gd_ff, gd_tf, gd_ft, ypk_true, ypk_false, yIf_true, yIf_false, semNil_ptr, fa_ptr, ld1_ptr, ext_tup, fd1_agg, un_not, bin_add, bin_sub, bin_mul, bin_eql, bin_neq, bin_lss, bin_leq, bin_gtr, bin_geq, Nat.zero_add, Nat.mul_one, hlt, A.c1, hix, hc, Bool.not_true, hs]
    refine ⟨fun hall => ?_, fun i h1 h2 hu hbef => ?_⟩
    · rw [step (hall q (Nat.le_refl _) hqN)]
      exact ih1 fun j hj hj' => hall j (by omega) hj'
    · by_cases e : i = q
      · subst e
        rw [hu] at hc
        have hb1 : semBuild Tryd.prog 78 [0, 2, 3, 6, 7, 8, 9] [.int .i64 ((i + 1 : Nat) : Int), .int .i64 uid, .int .i64 gid, .int .i64 mo, .int .i64 now, .int .i64 now, .int .i64 now] =
          some (.agg [.int .i64 ((i + 1 : Nat) : Int), .int .i64 0, .int .i64 uid, .int .i64 gid, .int .i64 0, .int .i64 0, .int .i64 mo, .int .i64 now, .int .i64 now, .int .i64 now]) := by kernel_rfl
        have hb2 : semBuild Tryd.prog 125 [0, 1] [.bool true, .agg [.int .i64 ((i + 1 : Nat) : Int), .int .i64 0, .int .i64 uid, .int .i64 gid, .int .i64 0, .int .i64 0, .int .i64 mo, .int .i64 now, .int .i64 now, .int .i64 now]] =
          some (.agg (rowN (newN ((i + 1 : Nat) : Int) uid gid mo now))) := by kernel_rfl
        have hst := st_row A hqN (g := newN ((i + 1 : Nat) : Int) uid gid mo now) (by kernel_rfl)
        rw [lp_succ]
        unfold l37_3 q37_43
        simp only [ob_some, b2_some, bc_ret, bcn_ret, gd_tt, gd_ff, gd_tf, gd_ft, ypk_true, ypk_false, yIf_true, yIf_false, semNil_ptr, fa_ptr, ld1_ptr, ext_tup, fd1_agg, un_not, bin_add, bin_sub, bin_mul, bin_eql, bin_neq, bin_lss, bin_leq, bin_gtr, bin_geq, Nat.zero_add, Nat.mul_one, hlt, A.c1, A.c2, hix, hc, Bool.not_false, hs, hb1, hb2, hst]
      · rw [step (hbef q (Nat.le_refl _) (by omega))]
        exact ih2 i (by omega) h2 hu fun j hj hj' => hbef j (by omega) hj'
end
end Go.Proofs.YtomialandfplkaaDoor.Eva
namespace Go.Proofs.YtomialandfplkaaDoor.Eva
open Go.Xe
set_option linter.unusedSimpArgs false
section
variable {lf : Nat} {h : HW} {T : TN} {n N : Nat} {wd b : Nat → Nat} {now : Int} {us : Nat → Bool} {nd : Nat → Nat → SV} {mo uid gid : Int}
def AllocTOK (C : YC) : Prop := ∀ h T n N wd b now us nd (mo uid gid : Int), TableAt h T n N wd b now us nd →
  (badA mo uid gid → C (.fn 37) [.ptr T.kt 0, .int .i64 mo, .int .i64 uid, .int .i64 gid] h = some (.ret (.tup [.int .i64 0, .int .i64 22]), h)) ∧
  (¬ badA mo uid gid → (∀ j, j < N → us j = true) → C (.fn 37) [.ptr T.kt 0, .int .i64 mo, .int .i64 uid, .int .i64 gid] h = some (.ret (.tup [.int .i64 0, .int .i64 28]), h)) ∧
  (¬ badA mo uid gid → ∀ i, i < N → us i = false → (∀ j, j < i → us j = true) → ∃ h', C (.fn 37) [.ptr T.kt 0, .int .i64 mo, .int .i64 uid, .int .i64 gid] h = some (.ret (.tup [.int .i64 ((i + 1 : Nat) : Int), .int .i64 0]), h') ∧
    TableAt h' T n N wd b now (upd us i true) (updR nd i (newN ((i + 1 : Nat) : Int) uid gid mo now)) ∧ h'.next = h.next ∧ Frm h h' (· = T.kn))
theorem ffA {a c : SV} : ff37 (some a) (some c) h = some (.ret (.tup [a, c]), h) := noRfl rfl
theorem gd_un {w : Bool} {r : Rs} : gd w (some (.val undef)) r h = some (.ret (.val undef), h) := by cases w <;> exact noRfl rfl
theorem allocT_pre {C : YC} (It : IsTOK C) (A : TableAt h T n N wd b now us nd) :
    (badA mo uid gid → fs37 C lf (.ptr T.kt 0) (.int .i64 mo) (.int .i64 uid) (.int .i64 gid) h = some (.ret (.tup [.int .i64 0, .int .i64 22]), h)) ∧
    (¬ badA mo uid gid → fs37 C lf (.ptr T.kt 0) (.int .i64 mo) (.int .i64 uid) (.int .i64 gid) h = q37_51 C lf ff37 (some (.ptr T.kt 0)) (some (.int .i64 mo)) (some (.int .i64 uid)) (some (.int .i64 gid)) h) := by
  have hx : IntKind.i64.wrap ((BitVec.ofInt 64 mo &&& ~~~BitVec.ofInt 64 65535).toNat : Int) = modeX mo := rfl
  have hk : IntKind.i64.wrap ((BitVec.ofInt 64 mo &&& BitVec.ofInt 64 61440).toNat : Int) = modeK mo := rfl
  unfold fs37 q37_96 q37_95 q37_94 q37_93 q37_89 q37_88 q37_85 q37_84
  generalize hq : q37_51 C lf ff37 (some (.ptr T.kt 0)) (some (.int .i64 mo)) (some (.int .i64 uid)) (some (.int .i64 gid)) h = Q
  simp only [ob_some, b2_some, bc_ret, bcn_ret, gd_tt, gd_ff, gd_tf, gd_ft, ypk_true, ypk_false, yIf_true, yIf_false, semNil_ptr, fa_ptr, ld1_ptr, ext_tup, fd1_agg, un_not, bin_add, bin_sub, bin_mul, bin_eql, bin_neq, bin_lss, bin_leq, bin_gtr, bin_geq, Nat.zero_add, Nat.mul_one, It _ _ _ _ _ _ _ _ _ A, Bool.not_true, bin_andI, bin_andNotI, hx, hk, hq]
  unfold badA
  by_cases a1 : modeX mo = 0 <;> by_cases a2 : modeK mo = 32768 <;> by_cases a3 : modeK mo = 16384 <;> by_cases a4 : modeK mo = 40960 <;> by_cases a5 : uid < 0 <;> by_cases a6 : gid < 0 <;>
    simp [a1, a2, a3, a4, a5, a6, hq, ffA, gd_un]
theorem allocT_ok {C : YC} (hlf : 4097 ≤ lf) (It : IsTOK C) (A : TableAt h T n N wd b now us nd) :
    (badA mo uid gid → fs37 C lf (.ptr T.kt 0) (.int .i64 mo) (.int .i64 uid) (.int .i64 gid) h = some (.ret (.tup [.int .i64 0, .int .i64 22]), h)) ∧
    (¬ badA mo uid gid → (∀ j, j < N → us j = true) → fs37 C lf (.ptr T.kt 0) (.int .i64 mo) (.int .i64 uid) (.int .i64 gid) h = some (.ret (.tup [.int .i64 0, .int .i64 28]), h)) ∧
    (¬ badA mo uid gid → ∀ i, i < N → us i = false → (∀ j, j < i → us j = true) → ∃ h', fs37 C lf (.ptr T.kt 0) (.int .i64 mo) (.int .i64 uid) (.int .i64 gid) h = some (.ret (.tup [.int .i64 ((i + 1 : Nat) : Int), .int .i64 0]), h') ∧
      TableAt h' T n N wd b now (upd us i true) (updR nd i (newN ((i + 1 : Nat) : Int) uid gid mo now)) ∧ h'.next = h.next ∧ Frm h h' (· = T.kn)) := by
  have hN := A.N2
  obtain ⟨p1, p2⟩ := allocT_pre (lf := lf) (mo := mo) (uid := uid) (gid := gid) It A
  have hl : lenE Tryd.prog 100 (.sl T.kn 0 N (some N) 0) = some (.int .i64 (N : Int)) := by
    simp [lenE, Tryd.underlying100]
  obtain ⟨l1, l2⟩ := allocT_loop (lf := lf) (mo := mo) (uid := uid) (gid := gid) (C := C) ff37 (fun h => q37_2 C lf ff37 h) A N 0 (by omega) lf (by omega)
  have hq : q37_51 C lf ff37 (some (.ptr T.kt 0)) (some (.int .i64 mo)) (some (.int .i64 uid)) (some (.int .i64 gid)) h =
      lp (l37_3 C lf ff37 (fun h => q37_2 C lf ff37 h)) lf (some (.ptr T.kt 0), some (.int .i64 mo), some (.int .i64 uid), some (.int .i64 gid), some (.int .i64 (N : Int)), some (.int .i64 ((0 : Nat) : Int))) h := by
    unfold q37_51 q37_50 q37_49
    simp only [ob_some, b2_some, bc_ret, bcn_ret, gd_tt, gd_ff, gd_tf, gd_ft, ypk_true, ypk_false, yIf_true, yIf_false, semNil_ptr, fa_ptr, ld1_ptr, ext_tup, fd1_agg, un_not, bin_add, bin_sub, bin_mul, bin_eql, bin_neq, bin_lss, bin_leq, bin_gtr, bin_geq, Nat.zero_add, Nat.mul_one, A.c1, hl]
    rfl
  refine ⟨p1, fun hg hall => ?_, fun hg i hi hu hb => ⟨_, ?_, A.setRow hi rfl, set_next .., frm_set rfl⟩⟩
  · rw [p2 hg, hq, l1 fun j _ hj => hall j hj]; rfl
  · rw [p2 hg, hq, l2 i (Nat.zero_le _) hi hu fun j _ hj => hb j hj]; rfl
end
end Go.Proofs.YtomialandfplkaaDoor.Eva
namespace Go.Proofs.YtomialandfplkaaDoor.Eva
open Go.Xe
open Classical
set_option linter.unusedSimpArgs false
structure Str (bl : Nat → Nat → Nat) (i : Nat) : Prop where
  one : bl i 18 = 0 ↔ hole bl i 18 = true
  fk : ∀ q, q < 16 → (bl i (36 + 17 * q) = 0 ↔ hole bl i (36 + 17 * q) = true)
  two : bl i 35 = 0 ↔ ∀ q, q < 16 → bl i (36 + 17 * q) = 0
theorem Str.cut_place {bl : Nat → Nat → Nat} {i k m : Nat} (hm : m < 278) : cutS bl i k (plOff m) ↔ k ≤ m := by
  obtain ⟨h1, h2, h3⟩ := plOff_ne hm
  unfold cutS
  constructor
  · rintro (⟨j, a, b, e⟩ | ⟨e, _⟩ | ⟨j, a, e, _⟩ | ⟨e, _⟩)
    · rw [plOff_inj e hm b]; exact a
    · exact absurd e h1
    · exact absurd e (h3 j a)
    · exact absurd e h2
  · exact fun e => .inl ⟨m, e, hm, rfl⟩
end Go.Proofs.YtomialandfplkaaDoor.Eva
namespace Go.Proofs.YtomialandfplkaaDoor.Eva
open Go.Xe
set_option maxRecDepth 100000
set_option maxHeartbeats 400000
set_option linter.unusedVariables false
noncomputable section
noncomputable def fx47 : XF Tryd.prog := ⟨47, Tryd.f47, fun r => bif Nat.beq r 1000004 then .ord [3] [] else .text, Tryd.func47, by kernel_rfl, by kernel_rfl, by kernel_rfl, by kernel_rfl⟩
noncomputable def fx34 : XF Tryd.prog := ⟨34, Tryd.f34, fun _ => .text, Tryd.func34, by kernel_rfl, by kernel_rfl, by kernel_rfl, by kernel_rfl⟩
noncomputable def ff34 (x2 : O) (h : HW) : Rs :=
 ob x2 fun a0 =>
 some (.ret a0, h)
noncomputable def q34_2 (C : YC) (lf : Nat) (r : K1) (x0 : O) (h : HW) : Rs :=
 ob x0 fun a1 =>
 r (some a1) h
theorem q34_2_eq (C : YC) (lf : Nat) (r : K1) (KN : KF) (KE : KX) : ∀ F h, evX fx34 C lf [] F h KN (fun F h => r (F 2) h) KE = q34_2 C lf r (F 0) h := by
  intro F h; kernel_rfl
noncomputable def fs34 (C : YC) (lf : Nat) (a0 : SV) (h : HW) : Rs := q34_2 C lf ff34 (some a0) h
theorem fs34_eq (C : YC) (lf : Nat) (a0 : SV) (h : HW) : yFn Tryd.prog fx34 C lf [a0] h = fs34 C lf a0 h := fnX (K := (fun F h => ff34 (F 2) h)) (by kernel_rfl) (((q34_2_eq C lf ff34 (fun F h => ff34 (F 2) h) (fun _ _ _ => none)) _ h).trans (by kernel_rfl))
noncomputable def fy34 : YX Tryd.prog := Y1 fx34 fs34 fs34_eq (by kernel_rfl)
noncomputable def fx43 : XF Tryd.prog := ⟨43, Tryd.f43, fun _ => .text, Tryd.func43, by kernel_rfl, by kernel_rfl, by kernel_rfl, by kernel_rfl⟩
noncomputable def ff43 (x4 : O) (h : HW) : Rs :=
 ob x4 fun a0 =>
 some (.ret a0, h)
noncomputable def q43_6 (C : YC) (lf : Nat) (r : K1) (x0 x1 : O) (h : HW) : Rs :=
 ob x0 fun a1 =>
 b2 (ycv Tryd.prog 24 9 a1 h) fun y2 h2 =>
 ob x1 fun a3 =>
 b2 (ycv Tryd.prog 24 9 a3 h2) fun y4 h4 =>
 ob (bin Tryd.prog .eql 9 y2 y4) fun y5 =>
 r (some y5) h4
theorem q43_6_eq (C : YC) (lf : Nat) (r : K1) (KN : KF) (KE : KX) : ∀ F h, evX fx43 C lf [] F h KN (fun F h => r (F 4) h) KE = q43_6 C lf r (F 0) (F 1) h := by
  intro F h; kernel_rfl
noncomputable def fs43 (C : YC) (lf : Nat) (a0 a1 : SV) (h : HW) : Rs := q43_6 C lf ff43 (some a0) (some a1) h
theorem fs43_eq (C : YC) (lf : Nat) (a0 a1 : SV) (h : HW) : yFn Tryd.prog fx43 C lf [a0, a1] h = fs43 C lf a0 a1 h := fnX (K := (fun F h => ff43 (F 4) h)) (by kernel_rfl) (((q43_6_eq C lf ff43 (fun F h => ff43 (F 4) h) (fun _ _ _ => none)) _ h).trans (by kernel_rfl))
noncomputable def fy43 : YX Tryd.prog := Y2 fx43 fs43 fs43_eq (by kernel_rfl)
end
end Go.Proofs.YtomialandfplkaaDoor.Eva
namespace Go.Xe
def s1 (M x : Nat) : Nat := (x / 2 &&& M) + (x &&& M)
def s2 (M x : Nat) : Nat := (x / 4 &&& M) + (x &&& M)
def s3 (M x : Nat) : Nat := (x / 16 + x) &&& M
def s4 (x : Nat) : Nat := x + x / 256
def s5 (x : Nat) : Nat := x + x / 65536
end Go.Xe
namespace Go.Proofs.YtomialandfplkaaDoor.Eva
open Go.Xe
set_option maxRecDepth 100000
set_option maxHeartbeats 400000
set_option linter.unusedVariables false
noncomputable section
end
end Go.Proofs.YtomialandfplkaaDoor.Eva
namespace Go.Proofs.YtomialandfplkaaDoor.Eva
open Go.Xe
set_option linter.unusedSimpArgs false
def usedL (wd : Nat → Nat) (n : Nat) : List Nat := (List.range n).filter (onB wd)
section
variable {lf m : Nat} {h : HW} {k dk n : Nat} {wd b : Nat → Nat}
end
end Go.Proofs.YtomialandfplkaaDoor.Eva
namespace Go.Xe
def u8str (l : List Nat) : ByteArray := bytesStr (l.map fun (c : Nat) => (c : Int))
theorem foldl_push : ∀ (ns : List Int) (r : ByteArray), (ns.foldl (fun r n => r.push (UInt8.ofNat n.toNat)) r).data.toList = r.data.toList ++ ns.map fun n => UInt8.ofNat n.toNat
  | [], r => by simp
  | n :: ns, r => by
    rw [List.foldl_cons, foldl_push ns]
    simp [ByteArray.push]
theorem u8str_data (l : List Nat) : (u8str l).data.toList = l.map UInt8.ofNat := by
  unfold u8str bytesStr
  rw [foldl_push]
  simp [Function.comp_def]
theorem u8str_inj {l l' : List Nat} (h : ∀ c ∈ l, c < 256) (h' : ∀ c ∈ l', c < 256) : u8str l = u8str l' ↔ l = l' := by
  refine ⟨fun e => ?_, fun e => by rw [e]⟩
  have e2 : l.map UInt8.ofNat = l'.map UInt8.ofNat := by rw [← u8str_data, ← u8str_data, e]
  have : ∀ (l : List Nat), (∀ c ∈ l, c < 256) → (l.map UInt8.ofNat).map UInt8.toNat = l := by
    intro l hl
    rw [List.map_map]
    conv => rhs; rw [← List.map_id l]
    apply List.map_congr_left
    intro c hc
    have := hl c hc
    simp [Function.comp, UInt8.toNat_ofNat]
    omega
  rw [← this l h, ← this l' h', e2]
theorem bytesOf_u8s : ∀ l : List Nat, bytesOf (u8s l) = some (l.map fun (c : Nat) => (c : Int))
  | [] => rfl
  | c :: l => by
    have := bytesOf_u8s l
    unfold u8s at this
    simp [u8s, bytesOf, this]
section
variable {P : Program}
theorem ycv_bytes {s d e : TypeId} {h : HW} {x : SV} {l : List Nat} (hs : P.underlying s = some (.slice e)) (hd : P.underlying d = some .string) (hu : isU8 P e = true) (B : Bytes h x l) : ycv P s d x h = some (.str (u8str l), h) := by
  rcases B.2 with ⟨rfl | ⟨k, rfl⟩, rfl⟩ | ⟨kb, ob, cap, lo, m, rfl, hm, hc⟩
  · have h1 : semConv P s d (.val (.slice none 0 0)) = none := by simp [semConv, hs, hd]
    unfold ycv
    simp only [h1, convX, hs, hd, hu, cond_true, hx]
    rfl
  · have h1 : semConv P s d (.se k) = none := by simp [semConv, hs, hd]
    unfold ycv
    simp only [h1, convX, hs, hd, hu, cond_true, hx]
    rfl
  · have h1 : semConv P s d (.sl kb ob l.length cap lo) = none := by simp [semConv, hs, hd]
    unfold HW.mt at hm
    cases ho : h.objs.get kb with
    | none => simp [ho] at hm
    | some o =>
      unfold ycv
      simp only [h1, convX, hs, hd, hu, cond_true, HW.x0_objs, ho, loadN_cells ho, bytes_cells hc, bytesOf_u8s, hx]
      rfl
theorem bin_eql_str {t : TypeId} {a b : ByteArray} : bin P .eql t (.str a) (.str b) = some (.bool (decide (a = b))) := by
  rw [bin_eq]
  show (some (SV.bool (a.toList == b.toList)) : Option SV) = _
  have : (a.toList == b.toList) = decide (a = b) := by
    by_cases e : a = b
    · subst e; simp
    · have h : ¬ a.toList = b.toList := fun h => e (by
        rw [ByteArray.toList_eq, ByteArray.toList_eq] at h
        obtain ⟨a⟩ := a
        obtain ⟨b⟩ := b
        simp only at h
        rw [Array.ext' h])
      simp [e, h]
  rw [this]
end
end Go.Xe
namespace Go.Xe
open Go.ChangeShapes Go.WideShapes Go.ChangeAt Go.RowKit
section
variable {P : Program} {H : Type} {enc : TypeId × Value → H} {w : World}
end
end Go.Xe
namespace Go.Xe
section
variable {P : Program} {t e : TypeId} {h : HW}
theorem ybs_one {z : Value} {y : SV} (hu : P.underlying t = some (.slice e)) (hs : tySize P e = some 1) (hz : tyZero P e = some z) (hzl : (mkV z).cells.length = 1) (hy : y.cells = [y]) (hf : y.flat = true) :
    ybs P t 1 [0] [y] h = some (.sl h.next 0 1 (some 1) 0, h.new (rowOb e [y])) := by
  obtain ⟨c, hc⟩ : ∃ c, (mkV z).cells = [c] := by
    match hm : (mkV z).cells, hzl with
    | [c], _ => exact ⟨c, rfl⟩
  unfold ybs semBuildSlice
  have h1 : (Nat.ble (1 * 1) 65536 && Nat.ble 1 1 && Nat.beq [c].length 1) = true := rfl
  have h2 : fillL (fun i => some (i * 1, 1)) (reps [c] 1) ([0].zip [y]) = some [y] := by
    simp [reps, fillL, splice, hy, hf, show Nat.ble 1 1 = true from rfl]
  simp only [hu, hs, hz, hc, h1, cond_true, h2, newRow, force_eq]
  rfl
theorem elems_row {y : SV} {e : TypeId} : appElems (h.new (rowOb e [y])).x0 1 (.sl h.next 0 1 (some 1) 0) = some (1, [y]) := by
  have ho : (h.new (rowOb e [y])).objs.get h.next = some (rowOb e [y]) := by rw [new_get, if_pos rfl]
  have hc : (rowOb e [y]).get 0 = some y := by rw [rowOb_get]; rfl
  simp only [appElems, HW.x0_objs, ho, Nat.mul_one]
  show (match loadN (rowOb e [y]) 0 1 with | some ys => some (1, ys) | none => none) = _
  simp only [loadN, hc]
theorem app_one {x y : SV} {b len : Nat} {ys : List SV} (T : AppT P t t e 1 b) (hy : y.cells = [y]) (hf : y.flat = true) (ho : allOne [y] = true) (S : Sl h e 1 x len ys)
    (hc : len + 1 ≤ 140737488355328) (hcb : (len + 1) * b ≤ 140737488355328) :
    ∃ x' h', ybs P t 1 [0] [y] h = some (.sl h.next 0 1 (some 1) 0, h.new (rowOb e [y])) ∧ ybl P .append #[t, t] [x, .sl h.next 0 1 (some 1) 0] (h.new (rowOb e [y])) = some (x', h') ∧ Sl h' e 1 x' (len + 1) (ys ++ [y]) ∧ h.next ≤ h'.next ∧ h'.ng = h.ng ∧
      (∀ j, j < h.next → rowOf x ≠ some j → SameOb h h' j) ∧ (∀ j, rowOf x' = some j → rowOf x = some j ∨ h.next ≤ j) ∧ (Fresh h → Fresh h') := by
  obtain ⟨z, hz, hzl⟩ := T.hz
  have hb := ybs_one (h := h) T.hu T.hs hz hzl hy hf
  have S' : Sl (h.new (rowOb e [y])) e 1 x len ys := S.frame (by simp) (fun k hk => new_other h _ (Nat.ne_of_lt (S.row_lt hk)))
  obtain ⟨x', h', h1, h2, h3, h4, h5, h6, h7⟩ := app_sl T S' elems_row rfl ho hc hcb
  refine ⟨x', h', hb, h1, h2, ?_, h4, fun j hj hr => (h5 j (by simp; omega) hr).trans (new_other h _ (Nat.ne_of_lt hj)), fun j hj => ?_, fun hf => h7 (fresh_new hf _)⟩
  · simp at h3; omega
  · rcases h6 j hj with h7 | h7
    · exact .inl h7
    · right; simp at h7; omega
end
end Go.Xe
namespace Go.Proofs.YtomialandfplkaaDoor.Eva
open Go.Xe
set_option linter.unusedSimpArgs false
section
variable {lf m : Nat} {h : HW} {k dk n : Nat} {wd b : Nat → Nat}
def ints (l : List Nat) : List SV := l.map fun (i : Nat) => SV.int .i64 (i : Int)
theorem appT_int : AppT Tryd.prog 33 33 3 1 8 :=
  ⟨Tryd.underlying33, by kernel_rfl, ⟨.int .i64 0, by kernel_rfl, rfl⟩, by kernel_rfl, ⟨_, Tryd.underlying33, rfl⟩, Nat.le_refl 1⟩
structure IntsAt (h0 h : HW) (x : SV) (l : List Nat) : Prop where
  sl : Sl h 3 1 x l.length (ints l)
  new : ∀ j, rowOf x = some j → h0.next ≤ j
end
end Go.Proofs.YtomialandfplkaaDoor.Eva
namespace Go.Xe
open Go.ChangeShapes Go.WideShapes Go.ChangeAt Go.RowKit
section
variable {P : Program}
theorem slice_hi {t e s kb ob len lo q : Nat} {cap : Option Nat} {kd : IntKind} (hu : P.underlying t = some (.slice e)) (hs : tySize P e = some s) (hr : CapOK (.sl kb ob len cap lo)) (hq : q ≤ len) :
    ∃ cap' lo', semSlice P t (.sl kb ob len cap lo) none (some (.int kd (q : Int))) = some (.sl kb ob q cap' lo') ∧ CapOK (.sl kb ob q cap' lo') := by
  have h0 : natOf (.int kd (q : Int)) = some q := rfl
  unfold semSlice
  cases cap with
  | none =>
    have h1 : sliceB len len none (some (.int kd (q : Int))) = some (0, q) := by
      simp only [sliceB, h0]
      have : (Nat.ble q len && Nat.ble 0 q) = true := by simp [Nat.ble_eq_true_of_le hq, Nat.ble_eq_true_of_le (Nat.zero_le q)]
      simp only [this, cond_true]
    simp only [hu, hs, h1, slAt, force_eq, Nat.ble_eq_true_of_le hq, cond_true, Nat.sub_zero, Nat.add_zero, Nat.zero_mul]
    cases hb : Nat.blt 0 len with
    | true => exact ⟨none, lo, by simp only [cond_true], trivial⟩
    | false => exact ⟨none, lo, by simp only [cond_false, show Nat.beq 0 0 = true from rfl, cond_true], trivial⟩
  | some c =>
    have hr : len ≤ c := hr
    have h1 : sliceB len c none (some (.int kd (q : Int))) = some (0, q) := by
      simp only [sliceB, h0]
      have : (Nat.ble q c && Nat.ble 0 q) = true := by simp [Nat.ble_eq_true_of_le (Nat.le_trans hq hr), Nat.ble_eq_true_of_le (Nat.zero_le q)]
      simp only [this, cond_true]
    simp only [hu, hs, h1, slAt, force_eq, Nat.sub_zero, Nat.add_zero, Nat.zero_mul]
    refine ⟨some c, 0, ?_, Nat.le_trans hq hr⟩
    cases hb : Nat.beq c 0 with
    | true => simp only [cond_true]
    | false => simp only [cond_false]
theorem bytes_hi {t e s q : Nat} {kd : IntKind} {h : HW} {x : SV} {l : List Nat} (hu : P.underlying t = some (.slice e)) (hs : tySize P e = some s) (B : Bytes h x l) (hr : CapOK x) (hq : q ≤ l.length) :
    ∃ x', semSlice P t x none (some (.int kd (q : Int))) = some x' ∧ Bytes h x' (l.take q) ∧ CapOK x' := by
  rcases B.2 with ⟨rfl | ⟨k, rfl⟩, rfl⟩ | ⟨kb, ob, cap, lo, m, rfl, hm, hc⟩
  · have hq : q = 0 := by simpa using hq
    subst hq
    refine ⟨.val (.slice none 0 0), ?_, by simpa using B, trivial⟩
    have h0 : sliceB 0 0 none (some (.int kd ((0 : Nat) : Int))) = some (0, 0) := rfl
    unfold semSlice
    simp only [hu, hs, show (Nat.beq 0 0 && Nat.beq 0 0) = true from rfl, cond_true, h0]
  · have hq : q = 0 := by simpa using hq
    subst hq
    refine ⟨.se k, ?_, by simpa using B, trivial⟩
    have h0 : sliceB 0 0 none (some (.int kd ((0 : Nat) : Int))) = some (0, 0) := rfl
    unfold semSlice
    simp only [hu, hs, h0]
  · obtain ⟨cap', lo', h1, h2⟩ := slice_hi (kd := kd) hu hs hr hq
    have hl : (l.take q).length = q := by simp; omega
    refine ⟨_, h1, ⟨fun c hc => B.1 c (List.mem_of_mem_take hc), .inr ⟨kb, ob, cap', lo', m, by rw [hl], hm, fun j hj => ?_⟩⟩, h2⟩
    rw [hc j (by omega)]
    have : j < l.length := by omega
    simp [List.getD, this, show j < q by omega]
end
theorem hasTab_cell {g : Nat} {k : IntKind} {zs : List Int} {h : HW} (ht : hasTab g k zs h = true) : g < h.ng ∧ (∃ m, h.mt g = some m) ∧ ∀ i, i < zs.length → h.cell g i = some (.int k (zs.getD i 0)) := by
  unfold hasTab at ht
  simp only [Bool.and_eq_true] at ht
  obtain ⟨hg, ht⟩ := ht
  have hg : g < h.ng := by rw [Nat.blt_eq] at hg; exact hg
  split at ht <;> try (cases ht; done)
  rename_i o ho
  split at ht <;> try (cases ht; done)
  split at ht <;> try (cases ht; done)
  rename_i ys hys
  have hys' := eqInts_spec ht
  subst hys'
  refine ⟨hg, ⟨o.mt, by unfold HW.mt; rw [ho]⟩, fun i hi => ?_⟩
  have := loadN_get hys i (by simpa using hi)
  rw [Nat.zero_add] at this
  unfold HW.cell
  rw [ho]
  simp only [this]
  simp [List.getD, hi]
theorem hasTab_same {g : Nat} {k : IntKind} {zs : List Int} {h h' : HW} (hn : h'.ng = h.ng) (hs : SameOb h h' g) : hasTab g k zs h' = hasTab g k zs h := by
  unfold hasTab
  rw [hn, hs]
theorem hw0_row {w : World} {k : Nat} {m : Mt} (h : (hw0 w).mt k = some m) : k < (hw0 w).next := by
  apply Nat.lt_of_not_le
  intro hle
  unfold HW.mt at h
  rw [hw0_dead w hle] at h
  cases h
end Go.Xe
namespace Go.Proofs.YtomialandfplkaaDoor.Eva
open Go.Xe
set_option maxRecDepth 100000
set_option maxHeartbeats 400000
set_option linter.unusedVariables false
noncomputable section
end
end Go.Proofs.YtomialandfplkaaDoor.Eva
namespace Go.Proofs.YtomialandfplkaaDoor.Eva
open Go.Xe
set_option linter.unusedSimpArgs false
structure BlkAt (h : HW) (x : SV) (q : Nat) (b : Nat → Nat) (i : Nat) : Prop where
  sl : ∃ cap lo, x = .sl q 0 64 cap lo
  ok : CapOK x
  w : h.wr q 64
  cs : ∀ j, j < 64 → h.cell q j = some (.int .u8 (b (i * 64 + j) : Int))
  lt : q < h.next
def RowAt (h : HW) (x : SV) (k : Nat) (b : Nat → Nat) (i : Nat) (o : Bool) : Prop := BlkAt h x k b i ∨ (o = false ∧ (∃ cap lo, x = .sl k 0 0 cap lo) ∧ (∃ N, h.wr k N) ∧ k < h.next)
structure RefV (h : HW) (x0 x1 : SV) (ro rb n : Nat) (on : Nat → Bool) (q : Nat → Option Nat) (b : Nat → Nat) : Prop where
  n1 : 1 ≤ n
  n2 : n ≤ 4096
  e0 : ∃ cap lo, x0 = .sl ro 0 n cap lo
  e1 : ∃ cap lo, x1 = .sl rb 0 n cap lo
  wro : h.wr ro n
  wrb : h.wr rb n
  con : ∀ i, i < n → h.cell ro i = some (.bool (on i))
  off : ∀ i, i < n → q i = none → on i = false ∧ h.cell rb i = some (.val (.slice none 0 0))
  has : ∀ i k, i < n → q i = some k → k ≠ ro ∧ k ≠ rb ∧ ∃ x, h.cell rb i = some x ∧ RowAt h x k b i (on i)
  inj : ∀ i j k, i < n → j < n → q i = some k → q j = some k → i = j
  ne : ro ≠ rb
  lto : ro < h.next
  ltb : rb < h.next
  blt : ∀ j, b j < 256
structure RefAt (h : HW) (r ro rb n : Nat) (on : Nat → Bool) (q : Nat → Option Nat) (b : Nat → Nat) : Prop where
  v : ∃ x0 x1, h.cell r 0 = some x0 ∧ h.cell r 1 = some x1 ∧ RefV h x0 x1 ro rb n on q b
  wr : ∃ M, 2 ≤ M ∧ h.wr r M
  nro : r ≠ ro
  nrb : r ≠ rb
  nq : ∀ i k, i < n → q i = some k → k ≠ r
  lt : r < h.next
def rowsV (ro rb n : Nat) (q : Nat → Option Nat) (j : Nat) : Prop := j = ro ∨ j = rb ∨ ∃ i, i < n ∧ q i = some j
def rowsR (r ro rb n : Nat) (q : Nat → Option Nat) (j : Nat) : Prop := j = r ∨ rowsV ro rb n q j
section
variable {lf m : Nat} {h : HW} {r ro rb n : Nat} {on : Nat → Bool} {q : Nat → Option Nat} {b : Nat → Nat} {x0 x1 : SV}
theorem wr_same {h h' : HW} {k N : Nat} (w : h.wr k N) (e : SameOb h h' k) : h'.wr k N := let ⟨m, a, c⟩ := w; ⟨m, by rw [e.mt]; exact a, c⟩
theorem BlkAt.frame {x : SV} {k i : Nat} (A : BlkAt h x k b i) {h' : HW} (hn : h.next ≤ h'.next) (e : SameOb h h' k) : BlkAt h' x k b i :=
  ⟨A.sl, A.ok, wr_same A.w e, fun j hj => by rw [e.cell]; exact A.cs j hj, Nat.lt_of_lt_of_le A.lt hn⟩
theorem RowAt.lt {x : SV} {k i : Nat} {o : Bool} (A : RowAt h x k b i o) : k < h.next := by
  rcases A with A | ⟨_, _, _, A⟩
  · exact A.lt
  · exact A
theorem RowAt.row {x : SV} {k i : Nat} {o : Bool} (A : RowAt h x k b i o) : rowOf x = some k := by
  rcases A with A | ⟨_, ⟨cap, lo, rfl⟩, _, _⟩
  · obtain ⟨cap, lo, rfl⟩ := A.sl; rfl
  · rfl
theorem RowAt.blk {x : SV} {k i : Nat} {o : Bool} (A : RowAt h x k b i o) (ho : o = true) : BlkAt h x k b i := by
  rcases A with A | ⟨e, _⟩
  · exact A
  · rw [ho] at e; cases e
theorem RowAt.frame {x : SV} {k i : Nat} {o : Bool} (A : RowAt h x k b i o) {h' : HW} (hn : h.next ≤ h'.next) (e : SameOb h h' k) : RowAt h' x k b i o := by
  rcases A with A | ⟨h1, h2, ⟨N, h3⟩, h4⟩
  · exact .inl (A.frame hn e)
  · exact .inr ⟨h1, h2, ⟨N, wr_same h3 e⟩, Nat.lt_of_lt_of_le h4 hn⟩
theorem RowAt.off {x : SV} {k i : Nat} {o o' : Bool} (A : RowAt h x k b i o) (ho : o' = o ∨ o' = false) : RowAt h x k b i o' := by
  rcases A with A | ⟨h1, h2⟩
  · exact .inl A
  · refine .inr ⟨?_, h2⟩
    rcases ho with e | e
    · rw [e]; exact h1
    · exact e
theorem RefV.frame (A : RefV h x0 x1 ro rb n on q b) {h' : HW} (hn : h.next ≤ h'.next) (hs : ∀ j, rowsV ro rb n q j → SameOb h h' j) : RefV h' x0 x1 ro rb n on q b := by
  have so := hs ro (.inl rfl)
  have sb := hs rb (.inr (.inl rfl))
  refine ⟨A.n1, A.n2, A.e0, A.e1, wr_same A.wro so, wr_same A.wrb sb, fun i hi => by rw [so.cell]; exact A.con i hi, fun i hi hq => by rw [sb.cell]; exact A.off i hi hq, fun i k hi hq => ?_, A.inj, A.ne, Nat.lt_of_lt_of_le A.lto hn, Nat.lt_of_lt_of_le A.ltb hn, A.blt⟩
  obtain ⟨h1, h2, x, h3, h4⟩ := A.has i k hi hq
  exact ⟨h1, h2, x, by rw [sb.cell]; exact h3, h4.frame hn (hs k (.inr (.inr ⟨i, hi, hq⟩)))⟩
theorem RefAt.frame (A : RefAt h r ro rb n on q b) {h' : HW} (hn : h.next ≤ h'.next) (hs : ∀ j, rowsR r ro rb n q j → SameOb h h' j) : RefAt h' r ro rb n on q b := by
  have sr := hs r (.inl rfl)
  obtain ⟨x0, x1, c0, c1, V⟩ := A.v
  exact ⟨⟨x0, x1, by rw [sr.cell]; exact c0, by rw [sr.cell]; exact c1, V.frame hn fun j hj => hs j (.inr hj)⟩, (let ⟨M, a, c⟩ := A.wr; ⟨M, a, wr_same c sr⟩), A.nro, A.nrb, A.nq, Nat.lt_of_lt_of_le A.lt hn⟩
theorem RefV.row_lt (A : RefV h x0 x1 ro rb n on q b) {j : Nat} (hj : rowsV ro rb n q j) : j < h.next := by
  rcases hj with rfl | rfl | ⟨i, hi, hq⟩
  · exact A.lto
  · exact A.ltb
  · obtain ⟨_, _, x, _, B⟩ := A.has i j hi hq
    exact B.lt
theorem RefAt.row_lt (A : RefAt h r ro rb n on q b) {j : Nat} (hj : rowsR r ro rb n q j) : j < h.next := by
  obtain ⟨x0, x1, _, _, V⟩ := A.v
  rcases hj with rfl | hj
  · exact A.lt
  · exact V.row_lt hj
theorem RefAt.frm (A : RefAt h r ro rb n on q b) {h' : HW} {Q : Nat → Prop} (F : Frm h h' Q) (hs : ∀ j, rowsR r ro rb n q j → ¬ Q j) : RefAt h' r ro rb n on q b :=
  A.frame F.next fun j hj => F.same j (A.row_lt hj) (hs j hj)
def inR (n : Nat) (on : Nat → Bool) (i : Int) : Bool := decide (0 ≤ i) && (decide (i < n) && on i.toNat)
theorem lenE_sl {t e k off len lo : Nat} {cap : Option Nat} (hu : (Tryd.prog).underlying t = some (.slice e)) : lenE Tryd.prog t (.sl k off len cap lo) = some (.int .i64 (len : Int)) := by simp [lenE, hu]
end
end Go.Proofs.YtomialandfplkaaDoor.Eva
namespace Go.Proofs.YtomialandfplkaaDoor.Eva
open Go.Xe
set_option linter.unusedSimpArgs false
section
variable {lf m : Nat} {h : HW} {r ro rb n : Nat} {on : Nat → Bool} {q : Nat → Option Nat} {b : Nat → Nat} {x0 x1 : SV}
def IntsIn (h : HW) (x : SV) (l : List Nat) : Prop := l.length ≤ 4096 ∧ ((x = .val (.slice none 0 0) ∧ l = []) ∨ ∃ k cap lo, x = .sl k 0 l.length cap lo ∧ ∀ j, j < l.length → h.cell k j = some (.int .i64 ((l.getD j 0 : Nat) : Int)))
theorem IntsIn.frame {h h' : HW} {x : SV} {l : List Nat} (A : IntsIn h x l) (hs : ∀ k, rowOf x = some k → SameOb h h' k) : IntsIn h' x l := by
  refine ⟨A.1, ?_⟩
  rcases A.2 with h1 | ⟨k, cap, lo, rfl, h2⟩
  · exact .inl h1
  · exact .inr ⟨k, cap, lo, rfl, fun j hj => by rw [(hs k rfl).cell]; exact h2 j hj⟩
theorem IntsIn.len {x : SV} {l : List Nat} (A : IntsIn h x l) : lenE Tryd.prog 33 x = some (.int .i64 (l.length : Int)) := by
  rcases A.2 with ⟨rfl, rfl⟩ | ⟨k, cap, lo, rfl, _⟩
  · simp [lenE, Tryd.underlying33, forceI_eq]
  · simp [lenE, Tryd.underlying33]
theorem IntsIn.at {x : SV} {l : List Nat} (A : IntsIn h x l) {i : Nat} (hi : i < l.length) : ∃ a, ixS 1 x (.int .i64 (i : Int)) = some a ∧ ld1 a h = some (.int .i64 ((l.getD i 0 : Nat) : Int)) := by
  rcases A.2 with ⟨rfl, rfl⟩ | ⟨k, cap, lo, rfl, h2⟩
  · simp at hi
  · have hix := ixS_sl (s := 1) (k := k) (off := 0) (len := l.length) (lo := lo) (cap := cap) (kd := .i64) (i := (i : Int)) (by omega) (by omega)
    rw [Int.toNat_natCast, Nat.mul_one, Nat.zero_add] at hix
    exact ⟨_, hix, h2 i hi⟩
end
end Go.Proofs.YtomialandfplkaaDoor.Eva
namespace Go.Xe
section
variable {P : Program}
end
end Go.Xe
namespace Go.Xe
section
variable {P : Program} {t u e sz b : Nat} {h : HW}
theorem sameH_of {h h' : HW} {k : Nat} (hk : k < h.next) (hm : ∃ m, h.mt k = some m) (e : SameOb h h' k) : sameH h h' k = true := by
  obtain ⟨m, hm⟩ := hm
  have hb : Nat.blt k h.next = true := by rw [Nat.blt_eq]; exact hk
  unfold HW.mt at hm
  cases ho : h.objs.get k with
  | none => simp [ho] at hm
  | some o =>
    have e : h'.objs.get k = h.objs.get k := e
    unfold sameH
    simp only [hb, cond_true, ho, e, Nat.beq_refl]
theorem ck_one {h h' : HW} {k i : Nat} {x : SV} {r : Rs} (hx : adr x = some k) (hk : k < h.next) (hm : ∃ m, h.mt k = some m) (e : SameOb h h' k) : ck (chkH [(i, adrO (some x))] h h' [i]) r = r := by
  have h1 := sameH_of hk hm e
  have h2 : findK [(i, adrO (some x))] i = some k := by
    simp [findK, adrO, hx]
  simp only [chkH, h2, h1, Bool.and_self, ck_true]
theorem ybs_none {z : Value} (hu : P.underlying t = some (.slice e)) (hs : tySize P e = some sz) (hz : tyZero P e = some z) (hzl : (mkV z).cells.length = sz) (h1 : 1 ≤ sz) :
    ybs P t 0 [] [] h = some (.sl h.next 0 0 (some 0) 0, h.new (rowOb e [])) := by
  unfold ybs semBuildSlice
  have h2 : (Nat.ble (0 * sz) 65536 && Nat.ble 1 sz && Nat.beq (mkV z).cells.length sz) = true := by
    rw [Nat.zero_mul, hzl, Nat.beq_refl, Nat.ble_eq_true_of_le h1]; rfl
  have h3 : fillL (fun i => some (i * sz, sz)) (reps (mkV z).cells 0) ([].zip []) = some [] := rfl
  simp only [hu, hs, hz, h2, cond_true, h3, newRow, force_eq]
  rfl
theorem app_empty {k : Nat} {y : SV} {n : Nat} {news : List SV} (T : AppT P t u e sz b) (hk : ∃ m, h.mt k = some m) (he : appElems h.x0 sz y = some (n, news)) (hnl : news.length = n * sz) (hone : allOne news = true) (hn : 1 ≤ n)
    (hc : n ≤ 140737488355328) (hcb : n * b ≤ 140737488355328) :
    ybl P .append #[t, u] [.sl k 0 0 (some 0) 0, y] h = some (.sl h.next 0 n none 0, h.new (looseOb e sz news)) := by
  rw [ybl_append T he hnl hone]
  obtain ⟨m, hm⟩ := hk
  unfold HW.mt at hm
  cases ho : h.objs.get k with
  | none => simp [ho] at hm
  | some o =>
    have b1 : Nat.ble n 0 = false := by
      cases hb : Nat.ble n 0 with
      | false => rfl
      | true => exact absurd (Nat.le_of_ble_eq_true hb) (by omega)
    have hl : loadN o 0 (0 * sz) = some [] := by rw [Nat.zero_mul]; rfl
    simp only [appTo, HW.x0_objs, ho, force_eq, Nat.zero_add, b1, cond_false, hl, List.nil_append]
    exact appNew_hx hc hcb
end
end Go.Xe
namespace Go.Xe
def HW.at (h : HW) (k : Nat) (o : Ob) : HW := ⟨h.ng, h.next, h.objs.put k o⟩
section
variable {P : Program} {h : HW}
theorem app_nil {t u e sz b : Nat} {y : SV} {n : Nat} {news : List SV} (T : AppT P t u e sz b) (he : appElems h.x0 sz y = some (n, news)) (hnl : news.length = n * sz) (hone : allOne news = true) (hn : 1 ≤ n)
    (hc : n ≤ 140737488355328) (hcb : n * b ≤ 140737488355328) :
    ybl P .append #[t, u] [.val (.slice none 0 0), y] h = some (.sl h.next 0 n none 0, h.new (looseOb e sz news)) := by
  rw [ybl_append T he hnl hone]
  have b1 : Nat.beq n 0 = false := by
    cases hb : Nat.beq n 0 with
    | false => rfl
    | true => exact absurd (Nat.eq_of_beq_eq_true hb) (by omega)
  simp only [show (Nat.beq 0 0 && Nat.beq 0 0) = true from rfl, cond_true, b1, cond_false]
  exact appNew_hx hc hcb
theorem app_empty0 {t u e sz b : Nat} {k : Nat} {y : SV} (T : AppT P t u e sz b) (hk : ∃ N, h.wr k N) (he : appElems h.x0 sz y = some (0, [])) :
    ybl P .append #[t, u] [.sl k 0 0 (some 0) 0, y] h = some (.sl k 0 0 (some 0) 0, h.set k 0 []) := by
  rw [ybl_append T he (by simp) rfl]
  obtain ⟨N, m, hm, hr, _⟩ := hk
  unfold HW.mt at hm
  cases ho : h.objs.get k with
  | none => simp [ho] at hm
  | some o =>
    simp only [ho, Option.some.injEq] at hm
    subst hm
    simp only [Ob.mt] at hr
    have b1 : (Nat.ble (0 + 0 * sz) o.n && !o.ro) = true := by rw [hr, Nat.zero_mul, Nat.ble_eq_true_of_le (Nat.zero_le _)]; rfl
    simp only [appTo, HW.x0_objs, ho, force_eq, Nat.add_zero, show Nat.ble 0 0 = true from rfl, cond_true, appIn, b1]
    unfold HW.set
    simp only [ho, obSet_eq, Nat.zero_mul, Nat.zero_add, Nat.add_zero]
    rfl
end
end Go.Xe
namespace Go.Proofs.YtomialandfplkaaDoor.Eva
open Go.Xe
set_option linter.unusedSimpArgs false
section
variable {lf : Nat} {h : HW} {T : TN} {n N : Nat} {wd b : Nat → Nat} {now : Int} {us : Nat → Bool} {nd : Nat → Nat → SV}
theorem TableAt.frm (A : TableAt h T n N wd b now us nd) {h' : HW} {S : Nat → Prop} (F : Frm h h' S) (hs : ∀ j, S j → j ≠ T.kt ∧ j ≠ T.ks ∧ j ≠ T.kd ∧ j ≠ T.kn) : TableAt h' T n N wd b now us nd :=
  A.frame F.next fun j hj => F.same j (by rcases hj with rfl | rfl | rfl | rfl; exact A.lt; exact A.st.lk; exact A.st.ldk; exact A.ln) (fun e => by have := hs j e; rcases hj with rfl | rfl | rfl | rfl <;> simp at this)
noncomputable def lpSp (p kb : Nat) : Sp := .loop .ready .none fx47.ord 47 13 (layT [(3, some (.ptr p 0))]) #[7] (subX fx47 [1, 1, 0, 1, 0, 0]) (subX fx47 [1, 1, 0, 1, 0, 1]) kb
structure LpAt (h : HW) (kb kl p : Nat) : Prop where
  ol : ∃ o, h.objs.get kl = some o ∧ o.sp = lpSp p kb
  ob : ∃ o, h.objs.get kb = some o ∧ o.sp = .blk false
theorem LpAt.same {kb kl p : Nat} (A : LpAt h kb kl p) {h' : HW} (h1 : SameOb h h' kb) (h2 : SameOb h h' kl) : LpAt h' kb kl p :=
  ⟨let ⟨o, a, c⟩ := A.ol; ⟨o, h2.trans a, c⟩, let ⟨o, a, c⟩ := A.ob; ⟨o, h1.trans a, c⟩⟩
end
end Go.Proofs.YtomialandfplkaaDoor.Eva
namespace Go.Proofs.YtomialandfplkaaDoor.Eva
open Go.Xe
set_option linter.unusedSimpArgs false
section
variable {lf m : Nat} {h : HW} {r ro rb n : Nat} {on : Nat → Bool} {q : Nat → Option Nat} {b : Nat → Nat} {x0 x1 : SV}
theorem RefAt.had (A : RefAt h r ro rb n on q b) {i : Nat} (hi : i < n) {h1 h2 h3 : HW} (e1 : h1 = h.set ro i [.bool true]) (e2 : h2 = h1.new (patOb 5 (64 * 1) [.int .u8 0])) (e3 : h3 = h2.set rb i [.sl h.next 0 64 (some 64) 0]) :
    RefAt h3 r ro rb n (upd on i true) (upd q i (some h.next)) (zero64 b i) ∧ Frm h h3 (fun j => j = ro ∨ j = rb) ∧ h3.next = h.next + 1 ∧ h1.next = h.next := by
  obtain ⟨x0, x1, c0, c1, V⟩ := A.v
  have n1 : h1.next = h.next := by rw [e1, set_next]
  have n2 : h2.next = h.next + 1 := by rw [e2, new_next, n1]
  have n3 : h3.next = h.next + 1 := by rw [e3, set_next, n2]
  have F1 : Frm h h1 (fun j => j = ro ∨ j = rb) := by rw [e1]; exact frm_set (.inl rfl)
  have F2 : Frm h1 h2 (fun j => j = ro ∨ j = rb) := by rw [e2]; exact frm_new _ _ _
  have F3 : Frm h2 h3 (fun j => j = ro ∨ j = rb) := by rw [e3]; exact frm_set (.inr rfl)
  have F := (F1.trans F2).trans F3
  have lto := V.lto
  have ltb := V.ltb
  have lr := A.lt
  have nrn : r ≠ ro := A.nro
  have nrb : r ≠ rb := A.nrb
  have neb := V.ne
  have w1 : h1.wr ro n := by rw [e1]; exact wr_set V.wro
  have w1b : h1.wr rb n := by rw [e1]; exact wr_set V.wrb
  have w2 : h2.wr ro n := by rw [e2]; exact wr_new_other w1 (by omega)
  have w2b : h2.wr rb n := by rw [e2]; exact wr_new_other w1b (by omega)
  have w2n : h2.wr h.next 64 := by rw [e2, ← n1]; exact wr_new rfl
  -- cells of ro
  have cro : ∀ j, h3.cell ro j = h1.cell ro j := fun j => by
    rw [e3, cell_set_off (.inl neb), e2, cell_new_other (by omega)]
  -- cells of rb
  have crb : ∀ j, j ≠ i → h3.cell rb j = h.cell rb j := fun j hj => by
    rw [e3, cell_set_off (.inr (by simp; omega)), e2, cell_new_other (by omega), e1, cell_set_off (.inl neb.symm)]
  have crbi : h3.cell rb i = some (.sl h.next 0 64 (some 64) 0) := by
    rw [e3, cell_set_same w2b (by simp; omega) (Nat.le_refl _) (by simp)]; simp
  refine ⟨⟨⟨x0, x1, ?_, ?_, ?_⟩, ?_, nrn, nrb, fun j k hj hq => ?_, by omega⟩, F, n3, n1⟩
  · rw [(F.same r lr (fun e => by rcases e with e | e; exact nrn e; exact nrb e)).cell]; exact c0
  · rw [(F.same r lr (fun e => by rcases e with e | e; exact nrn e; exact nrb e)).cell]; exact c1
  · refine ⟨V.n1, V.n2, V.e0, V.e1, ?_, ?_, fun j hj => ?_, fun j hj hq => ?_, fun j k hj hq => ?_, fun j j' k hj hj' hq hq' => ?_, neb, by omega, by omega, fun j => ?_⟩
    · rw [e3]; exact wr_set w2
    · rw [e3]; exact wr_set w2b
    · rw [cro, e1]
      by_cases e : j = i
      · subst e
        rw [cell_set_same V.wro (by simp; omega) (Nat.le_refl _) (by simp), upd_same]; simp
      · rw [cell_set_off (.inr (by simp; omega)), upd_ne _ _ e]; exact V.con j hj
    · by_cases e : j = i
      · rw [e, upd_same] at hq; cases hq
      · rw [upd_ne _ _ e] at hq ⊢
        obtain ⟨o1, o2⟩ := V.off j hj hq
        exact ⟨o1, by rw [crb j e]; exact o2⟩
    · by_cases e : j = i
      · rw [e, upd_same] at hq
        cases hq
        refine ⟨by omega, by omega, _, by rw [e]; exact crbi, .inl ⟨⟨some 64, 0, rfl⟩, Nat.le_refl _, ?_, fun c hc => ?_, by omega⟩⟩
        · rw [e3]; exact wr_set w2n
        · rw [e3, cell_set_off (.inl (by omega)), e2, ← n1, cell_new_same, patOb_get _ _ (by omega)]
          unfold zero64
          rw [if_pos (by omega)]
          simp [Nat.mod_one]
      · rw [upd_ne _ _ e] at hq
        obtain ⟨o1, o2, x, o3, B⟩ := V.has j k hj hq
        have hk := B.lt
        refine ⟨o1, o2, x, by rw [crb j e]; exact o3, ?_⟩
        rw [upd_ne _ _ e]
        rcases B.frame (h' := h3) F.next (F.same k hk (fun e => by rcases e with e | e; exact o1 e; exact o2 e)) with B' | B'
        · refine .inl ⟨B'.sl, B'.ok, B'.w, fun c hc => ?_, B'.lt⟩
          rw [B'.cs c hc]
          unfold zero64
          rw [if_neg (by omega)]
        · exact .inr B'
    · by_cases e : j = i
      · by_cases e' : j' = i
        · omega
        · rw [e, upd_same] at hq
          rw [upd_ne _ _ e'] at hq'
          cases hq
          obtain ⟨_, _, x, _, B⟩ := V.has j' _ hj' hq'
          exact absurd B.lt (Nat.lt_irrefl _)
      · by_cases e' : j' = i
        · rw [e', upd_same] at hq'
          rw [upd_ne _ _ e] at hq
          cases hq'
          obtain ⟨_, _, x, _, B⟩ := V.has j _ hj hq
          exact absurd B.lt (Nat.lt_irrefl _)
        · rw [upd_ne _ _ e] at hq
          rw [upd_ne _ _ e'] at hq'
          exact V.inj j j' k hj hj' hq hq'
    · unfold zero64; split
      · omega
      · exact V.blt j
  · obtain ⟨M, a, c⟩ := A.wr
    exact ⟨M, a, wr_same c (F.same r lr (fun e => by rcases e with e | e; exact nrn e; exact nrb e))⟩
  · by_cases e : j = i
    · rw [e, upd_same] at hq; cases hq; omega
    · rw [upd_ne _ _ e] at hq; exact A.nq j k hj hq
end
end Go.Proofs.YtomialandfplkaaDoor.Eva
namespace Go.Proofs.YtomialandfplkaaDoor.Eva
open Go.Xe
set_option linter.unusedSimpArgs false
section
variable {lf m : Nat} {h : HW} {r ro rb n : Nat} {on : Nat → Bool} {q : Nat → Option Nat} {b : Nat → Nat} {x0 x1 : SV}
def blkL (b : Nat → Nat) (i : Nat) : List Nat := (List.range 64).map fun j => b (i * 64 + j)
theorem blkL_length (b : Nat → Nat) (i : Nat) : (blkL b i).length = 64 := by simp [blkL]
theorem blkL_get (b : Nat → Nat) (i : Nat) {j : Nat} (hj : j < 64) : (blkL b i).getD j 0 = b (i * 64 + j) := by simp [blkL, List.getD, hj]
theorem BlkAt.bytes {x : SV} {k i : Nat} (B : BlkAt h x k b i) (hb : ∀ j, b j < 256) : Bytes h x (blkL b i) := by
  obtain ⟨cap, lo, rfl⟩ := B.sl
  obtain ⟨mm, hm, _⟩ := B.w
  refine ⟨fun c hc => ?_, .inr ⟨k, 0, cap, lo, mm, by rw [blkL_length], hm, fun j hj => ?_⟩⟩
  · obtain ⟨j, _, rfl⟩ := List.mem_map.1 hc
    exact hb _
  · rw [blkL_length] at hj
    rw [Nat.zero_add, B.cs j hj, blkL_get b i hj]
theorem RefAt.put (A : RefAt h r ro rb n on q b) {i k p v : Nat} (hi : i < n) (hon : on i = true) (hq : q i = some k) (hp : p < 64) (hv : v < 256) {b' : Nat → Nat} (hb : ∀ j, b' j = if j = i * 64 + p then v else b j) :
    RefAt (h.set k p [.int .u8 (v : Int)]) r ro rb n on q b' := by
  obtain ⟨x0, x1, c0, c1, V⟩ := A.v
  obtain ⟨k1, k2, x, k3, B⟩ := V.has i k hi hq
  replace B := B.blk hon
  have kr := A.nq i k hi hq
  have so : SameOb h (h.set k p [.int .u8 (v : Int)]) ro := set_other _ _ _ k1.symm
  have sb : SameOb h (h.set k p [.int .u8 (v : Int)]) rb := set_other _ _ _ k2.symm
  have sr : SameOb h (h.set k p [.int .u8 (v : Int)]) r := set_other _ _ _ kr.symm
  refine ⟨⟨x0, x1, by rw [sr.cell]; exact c0, by rw [sr.cell]; exact c1, V.n1, V.n2, V.e0, V.e1, wr_set V.wro, wr_set V.wrb, fun j hj => by rw [so.cell]; exact V.con j hj, fun j hj hq => by rw [sb.cell]; exact V.off j hj hq, fun j k' hj hq' => ?_, V.inj, V.ne, by rw [set_next]; exact V.lto, by rw [set_next]; exact V.ltb, fun j => ?_⟩, (let ⟨M, a, c⟩ := A.wr; ⟨M, a, wr_set c⟩), A.nro, A.nrb, A.nq, by rw [set_next]; exact A.lt⟩
  · obtain ⟨o1, o2, x', o3, B'⟩ := V.has j k' hj hq'
    refine ⟨o1, o2, x', by rw [sb.cell]; exact o3, ?_⟩
    rcases B' with B' | ⟨u1, u2, ⟨N, u3⟩, u4⟩
    rotate_left
    · exact .inr ⟨u1, u2, ⟨N, wr_set u3⟩, by rw [set_next]; exact u4⟩
    refine .inl ⟨B'.sl, B'.ok, wr_set B'.w, fun c hc => ?_, by rw [set_next]; exact B'.lt⟩
    by_cases e : j = i
    · subst e
      rw [hq] at hq'
      cases hq'
      by_cases e2 : c = p
      · subst e2
        rw [cell_set_same B.w (by simp; omega) (Nat.le_refl _) (by simp), hb, if_pos rfl]; simp
      · rw [cell_set_off (.inr (by simp; omega)), B'.cs c hc, hb, if_neg (by omega)]
    · have hne : k' ≠ k := fun e2 => e (V.inj j i k' hj hi hq' (by rw [e2]; exact hq))
      rw [cell_set_off (.inl hne), B'.cs c hc, hb, if_neg (by omega)]
  · rw [hb]; split
    · exact hv
    · exact V.blt j
end
end Go.Proofs.YtomialandfplkaaDoor.Eva
namespace Go.Proofs.YtomialandfplkaaDoor.Eva
open Go.Xe
set_option linter.unusedSimpArgs false
section
variable {lf m : Nat} {h : HW} {k dk n : Nat} {wd b : Nat → Nat}
@[simp] theorem lowV_int (bb : Nat) (kd : IntKind) (i : Int) : lowV bb (.int kd i) = true := noRfl rfl
end
end Go.Proofs.YtomialandfplkaaDoor.Eva
namespace Go.Proofs.YtomialandfplkaaDoor.Eva
open Go.Xe
set_option linter.unusedSimpArgs false
section
variable {lf m : Nat} {h : HW} {r ro rb n : Nat} {on : Nat → Bool} {q : Nat → Option Nat} {b : Nat → Nat} {x0 x1 : SV}
end
end Go.Proofs.YtomialandfplkaaDoor.Eva
namespace Go.Proofs.YtomialandfplkaaDoor.Eva
open Go.Xe
set_option linter.unusedSimpArgs false
section
variable {lf m : Nat} {h : HW}
structure Whole (h : HW) (k : Nat) (l : List Nat) : Prop where
  w : h.wr k (l.length + 2)
  c0 : h.cell k 0 = some (.int .u8 165)
  c1 : h.cell k (l.length + 1) = some (.int .u8 90)
  cs : ∀ j, j < l.length → h.cell k (1 + j) = some (.int .u8 ((l.getD j 0 : Nat) : Int))
  lt : k < h.next
def lentX (k n : Nat) : SV := .sl k 1 n (some (n + 1)) 0
theorem Whole.bytes {k : Nat} {l : List Nat} (W : Whole h k l) (hb : ∀ c ∈ l, c < 256) : Bytes h (lentX k l.length) l := by
  obtain ⟨mm, hm, _⟩ := W.w
  exact ⟨hb, .inr ⟨k, 1, _, 0, mm, rfl, hm, W.cs⟩⟩
end
end Go.Proofs.YtomialandfplkaaDoor.Eva
namespace Go.Proofs.YtomialandfplkaaDoor.Eva
open Go.Xe
set_option linter.unusedSimpArgs false
section
variable {lf : Nat} {h : HW} {T : TN} {n N : Nat} {wd b : Nat → Nat} {now : Int} {us : Nat → Bool} {nd : Nat → Nat → SV}
end
end Go.Proofs.YtomialandfplkaaDoor.Eva
namespace Go.Proofs.YtomialandfplkaaDoor.Eva
open Go.Xe
set_option linter.unusedSimpArgs false
section
variable {lf : Nat} {h : HW} {T : TN} {n N : Nat} {wd b : Nat → Nat} {now : Int} {us : Nat → Bool} {nd : Nat → Nat → SV}
theorem wr_mt {h : HW} {k M : Nat} (w : h.wr k M) : ∃ m, h.mt k = some m := let ⟨m, a, _⟩ := w; ⟨m, a⟩
end
structure RN where
  rt : Nat
  ro : Nat
  rb : Nat
  rl : Nat
structure RTabAt (h : HW) (R : RN) (n N : Nat) (on : Nat → Bool) (q : Nat → Option Nat) (b : Nat → Nat) (now : Int) (us : Nat → Bool) (rd : Nat → Nat → SV) : Prop where
  N1 : 1 ≤ N
  N2 : N ≤ 4096
  ref : RefAt h R.rt R.ro R.rb n on q b
  c2 : h.cell R.rt 2 = some (.int .i64 (N : Int))
  c3 : h.cell R.rt 3 = some (.int .i64 now)
  c4 : ∃ cap lo, h.cell R.rt 4 = some (.sl R.rl 0 (N + 1) cap lo)
  wt : h.wr R.rt 5
  wl : h.wr R.rl ((N + 1) * 308)
  cl : ∀ i c, i < N + 1 → c < 308 → h.cell R.rl (i * 308 + c) = some (rd i c)
  u0 : ∀ i, i < N → rd (i + 1) 0 = .bool (us i)
  d1 : R.rl ≠ R.rt
  d2 : R.rl ≠ R.ro
  d3 : R.rl ≠ R.rb
  d4 : ∀ i k, i < n → q i = some k → k ≠ R.rl
  ll : R.rl < h.next
def rowsT (R : RN) (n : Nat) (q : Nat → Option Nat) (j : Nat) : Prop := j = R.rl ∨ rowsR R.rt R.ro R.rb n q j
section
variable {lf : Nat} {h : HW} {R : RN} {n N : Nat} {on : Nat → Bool} {q : Nat → Option Nat} {b : Nat → Nat} {now : Int} {us : Nat → Bool} {rd : Nat → Nat → SV}
theorem RTabAt.row_lt (A : RTabAt h R n N on q b now us rd) {j : Nat} (hj : rowsT R n q j) : j < h.next := by
  rcases hj with rfl | hj
  · exact A.ll
  · exact A.ref.row_lt hj
theorem RTabAt.frm (A : RTabAt h R n N on q b now us rd) {h' : HW} {S : Nat → Prop} (F : Frm h h' S) (hs : ∀ j, rowsT R n q j → ¬ S j) : RTabAt h' R n N on q b now us rd := by
  have st : SameOb h h' R.rt := F.same _ A.ref.lt (hs _ (.inr (.inl rfl)))
  have sl : SameOb h h' R.rl := F.same _ A.ll (hs _ (.inl rfl))
  exact ⟨A.N1, A.N2, A.ref.frm F fun j hj => hs j (.inr hj), by rw [st.cell]; exact A.c2, by rw [st.cell]; exact A.c3, let ⟨cap, lo, e⟩ := A.c4; ⟨cap, lo, by rw [st.cell]; exact e⟩, wr_same A.wt st, wr_same A.wl sl, fun i c hi hc => by rw [sl.cell]; exact A.cl i c hi hc, A.u0, A.d1, A.d2, A.d3, A.d4, Nat.lt_of_lt_of_le A.ll F.next⟩
end
end Go.Proofs.YtomialandfplkaaDoor.Eva
namespace Go.Proofs.YtomialandfplkaaDoor.Eva
open Go.Xe
set_option linter.unusedSimpArgs false
section
variable {lf : Nat} {h : HW} {R : RN} {n N : Nat} {on : Nat → Bool} {q : Nat → Option Nat} {b : Nat → Nat} {now : Int} {us : Nat → Bool} {rd : Nat → Nat → SV}
def NumOK (C : YC) : Prop := ∀ h (e : Int), C (.fn 34) [.int .i64 e] h = some (.ret (.int .i64 e), h)
theorem num_ok {C : YC} {e : Int} : fs34 C lf (.int .i64 e) h = some (.ret (.int .i64 e), h) := by
  unfold fs34 q34_2 ff34
  simp only [ob_some, b2_some, bc_ret, bcn_ret, gd_tt, gd_ff, gd_tf, gd_ft, ypk_true, ypk_false, yIf_true, yIf_false, semNil_ptr, fa_ptr, ld1_ptr, ext_tup, fd1_agg, un_not, bin_add, bin_sub, bin_mul, bin_eql, bin_neq, bin_lss, bin_leq, bin_gtr, bin_geq, Nat.zero_add, Nat.mul_one]
end
end Go.Proofs.YtomialandfplkaaDoor.Eva
namespace Go.Proofs.YtomialandfplkaaDoor.Eva
open Go.Xe
set_option linter.unusedSimpArgs false
section
theorem eql_ptr_nil {P : Program} {t e : TypeId} {k off : Nat} (hu : P.underlying t = some (.pointer e)) : bin P .eql t (.ptr k off) (.val (.pointer none)) = some (.bool false) := bin_eql_ptr hu
variable {lf : Nat} {C : YC}
end
end Go.Proofs.YtomialandfplkaaDoor.Eva
namespace Go.Proofs.YtomialandfplkaaDoor.Eva
open Go.Xe
set_option linter.unusedSimpArgs false
structure S4 where
  wd : Nat → Nat
  b : Nat → Nat
  nd : Nat → Nat → SV
  bl : Nat → Nat → Nat
def onW (wd : Nat → Nat) (j : Nat) : Nat → Nat := upd wd (j / 64) (put1 (wd (j / 64)) (j % 64))
def S4.take (s : S4) (i c j : Nat) : S4 := ⟨onW s.wd j, zero64 s.b j, upd2 s.nd i c (.int .i64 ((j + 1 : Nat) : Int)), updB s.bl i c (j + 1)⟩
def S4.back (s : S4) (i c : Nat) : S4 := ⟨offW s.wd (s.bl i c - 1), s.b, upd2 s.nd i c (.int .i64 0), updB s.bl i c 0⟩
def backF (i : Nat) (tk : List Nat) (s : S4) : S4 := tk.foldl (fun s c => s.back i c) s
def low (n : Nat) (wd : Nat → Nat) : Option Nat := (List.range n).find? fun j => !onB wd j
theorem low_none {n : Nat} {wd : Nat → Nat} (h : low n wd = none) : ∀ j, j < n → onB wd j = true := fun j hj => by
  have := List.find?_eq_none.1 h j (List.mem_range.2 hj)
  simpa using this
theorem low_some {n : Nat} {wd : Nat → Nat} {i : Nat} (h : low n wd = some i) : i < n ∧ onB wd i = false ∧ ∀ j, j < i → onB wd j = true := by
  unfold low at h
  obtain ⟨h1, l1, l2, h2, h3⟩ := List.find?_eq_some_iff_append.1 h
  have hi : i ∈ List.range n := by rw [h2]; simp
  have hin := List.mem_range.1 hi
  refine ⟨hin, by simpa using h1, fun j hj => ?_⟩
  have hl : l1.length = i := by
    have h4 : (List.range n)[l1.length]? = some i := by rw [h2]; simp
    have h5 : l1.length < n := by
      have h6 := (List.getElem?_eq_some_iff.1 h4).1
      simpa using h6
    rw [List.getElem?_range h5] at h4
    simpa using h4
  have h7 : j ∈ l1 := by
    have h8 : (List.range n)[j]? = some j := List.getElem?_range (by omega)
    rw [h2, List.getElem?_append_left (by omega)] at h8
    exact List.mem_of_getElem? h8
  simpa using h3 j h7
def fillF (n i : Nat) : List Nat → S4 → List Nat → S4 × List Nat × Bool
  | [], s, tk => (s, tk, true)
  | c :: cs, s, tk => if 0 < s.bl i c then fillF n i cs s tk else match low n s.wd with
    | none => (s, tk, false)
    | some j => fillF n i cs (s.take i c j) (tk ++ [c])
section
variable {h h' : HW} {T : TN} {n N : Nat} {wd b wd' b' : Nat → Nat} {now : Int} {us : Nat → Bool} {nd : Nat → Nat → SV} {bl : Nat → Nat → Nat} {i c j : Nat}
theorem onB_on (_ : ∀ i, wd i < 2 ^ 64) {j j' : Nat} : onB (onW wd j) j' = (onB wd j' || decide (j' = j)) := by
  unfold onW
  rw [onB_upd]
  split
  · rename_i e
    rw [put1_bit]
    unfold onB
    rw [e]
    congr 1
    by_cases h : j' = j
    · subst h; simp
    · have : j' % 64 ≠ j % 64 := by omega
      simp [h, this]
  · rename_i e
    have : j' ≠ j := fun h => e (by rw [h])
    simp [this]
theorem onW_lt (hw : ∀ i, wd i < 2 ^ 64) (j : Nat) : ∀ i, onW wd j i < 2 ^ 64 := fun i => by
  unfold onW
  by_cases e : i = j / 64
  · subst e; rw [upd_same]; exact put1_lt (hw _) (Nat.mod_lt _ (by omega))
  · rw [upd_ne _ _ e]; exact hw i
theorem offW_lt (hw : ∀ i, wd i < 2 ^ 64) (j : Nat) : ∀ i, offW wd j i < 2 ^ 64 := fun i => by
  unfold offW
  by_cases e : i = j / 64
  · subst e; rw [upd_same]; exact Nat.and_lt_two_pow _ (by have : 2 ^ (j % 64) > 0 := Nat.two_pow_pos _; omega)
  · rw [upd_ne _ _ e]; exact hw i
theorem words_ext (h1 : ∀ i, wd i < 2 ^ 64) (h2 : ∀ i, wd' i < 2 ^ 64) (h : ∀ j, onB wd j = onB wd' j) : wd = wd' := by
  funext i
  apply Nat.eq_of_testBit_eq
  intro c
  by_cases hc : c < 64
  · have := h (i * 64 + c)
    unfold onB at this
    rw [show (i * 64 + c) / 64 = i by omega, show (i * 64 + c) % 64 = c by omega] at this
    exact this
  · rw [Nat.testBit_lt_two_pow (Nat.lt_of_lt_of_le (h1 i) (Nat.pow_le_pow_right (by omega) (by omega))), Nat.testBit_lt_two_pow (Nat.lt_of_lt_of_le (h2 i) (Nat.pow_le_pow_right (by omega) (by omega)))]
theorem MapAt.take (M : MapAt n N wd nd bl) (hw : ∀ i, wd i < 2 ^ 64) (hi : i < N) (h12 : 12 ≤ c) (hc : c < 308) (hj : j < n) (hoff : onB wd j = false) :
    MapAt n N (onW wd j) (upd2 nd i c (.int .i64 ((j + 1 : Nat) : Int))) (updB bl i c (j + 1)) := by
  have hne : ∀ i' c', i' < N → 12 ≤ c' → c' < 308 → bl i' c' ≠ j + 1 := fun i' c' a1 a2 a3 e => by
    have := M.on i' c' a1 a2 a3 (by omega)
    rw [e, Nat.add_sub_cancel, hoff] at this
    cases this
  refine ⟨fun i' c' hi' h12' hc' => ?_, fun i' c' => ?_, fun i' c' hi' h12' hc' hp => ?_, fun i1 c1 i2 c2 hi1 h1 hc1 hi2 h2 hc2 hp he => ?_⟩
  · by_cases e : i' = i ∧ c' = c
    · obtain ⟨rfl, rfl⟩ := e
      rw [upd2_same, updB_same]
    · rw [upd2_ne _ _ (by omega), updB_ne _ _ (by omega)]; exact M.cell i' c' hi' h12' hc'
  · unfold updB; split
    · omega
    · exact M.le i' c'
  · rw [onB_on hw]
    by_cases e : i' = i ∧ c' = c
    · obtain ⟨rfl, rfl⟩ := e
      rw [updB_same, Nat.add_sub_cancel]; simp
    · rw [updB_ne _ _ (by omega)] at hp ⊢
      rw [M.on i' c' hi' h12' hc' hp]; rfl
  · by_cases e1 : i1 = i ∧ c1 = c
    · by_cases e2 : i2 = i ∧ c2 = c
      · omega
      · obtain ⟨rfl, rfl⟩ := e1
        rw [updB_same, updB_ne _ _ (by omega)] at he
        exact absurd he.symm (hne i2 c2 hi2 h2 hc2)
    · rw [updB_ne _ _ (by omega)] at hp he
      by_cases e2 : i2 = i ∧ c2 = c
      · obtain ⟨rfl, rfl⟩ := e2
        rw [updB_same] at he
        exact absurd he (hne i1 c1 hi1 h1 hc1)
      · rw [updB_ne _ _ (by omega)] at he
        exact M.inj i1 c1 i2 c2 hi1 h1 hc1 hi2 h2 hc2 hp he
end
inductive Taken (n i : Nat) (s0 : S4) : List Nat → S4 → Prop
  | nil : Taken n i s0 [] s0
  | snoc {tk : List Nat} {s : S4} {c j : Nat} : Taken n i s0 tk s → s.bl i c = 0 → 12 ≤ c → c < 308 → j < n → onB s.wd j = false → Taken n i s0 (tk ++ [c]) (s.take i c j)
section
variable {n N i : Nat} {s0 s : S4} {tk : List Nat}
structure TakenP (n N i : Nat) (s0 : S4) (tk : List Nat) (s : S4) : Prop where
  M : MapAt n N s.wd s.nd s.bl
  wlt : ∀ j, s.wd j < 2 ^ 64
  out : ∀ i' c, i' ≠ i ∨ c ∉ tk → s.bl i' c = s0.bl i' c
  outn : ∀ i' c, i' ≠ i ∨ c ∉ tk → s.nd i' c = s0.nd i' c
  was : ∀ c, c ∈ tk → s0.bl i c = 0 ∧ 12 ≤ c ∧ c < 308 ∧ 0 < s.bl i c ∧ onB s0.wd (s.bl i c - 1) = false ∧ s.bl i c ≤ n
  on : ∀ j, onB s.wd j = true ↔ (onB s0.wd j = true ∨ ∃ c, c ∈ tk ∧ s.bl i c = j + 1)
  by' : ∀ p, onB s0.wd (p / 64) = true → s.b p = s0.b p
  z : ∀ c, c ∈ tk → ∀ t, t < 64 → s.b ((s.bl i c - 1) * 64 + t) = 0
  nd' : tk.Nodup
  cnt : ((List.range n).filter (onB s.wd)).length = ((List.range n).filter (onB s0.wd)).length + tk.length
theorem count_on {n j : Nat} {f g : Nat → Bool} (hj : j < n) (hf : f j = false) (hg : ∀ k, g k = (f k || decide (k = j))) : ((List.range n).filter g).length = ((List.range n).filter f).length + 1 := by
  induction n with
  | zero => omega
  | succ n ih =>
    rw [List.range_succ, List.filter_append, List.filter_append, List.length_append, List.length_append]
    by_cases e : j = n
    · subst e
      have h1 : (List.range j).filter g = (List.range j).filter f := List.filter_congr fun k hk => by
        have := List.mem_range.1 hk
        rw [hg]; simp; omega
      rw [h1]
      simp [List.filter, hf, hg]
    · rw [ih (by omega)]
      have h2 : g n = f n := by rw [hg]; simp; omega
      simp only [List.filter, h2]
      omega
theorem Taken.props (t : Taken n i s0 tk s) (hi : i < N) (M : MapAt n N s0.wd s0.nd s0.bl) (hw : ∀ j, s0.wd j < 2 ^ 64) : TakenP n N i s0 tk s := by
  induction t with
  | nil => exact ⟨M, hw, fun _ _ _ => rfl, fun _ _ _ => rfl, fun c hc => (by cases hc), fun j => (by simp), fun _ _ => rfl, fun c hc => (by cases hc), List.nodup_nil, (by simp)⟩
  | @snoc tk s c j t h0 h12 hc hj hoff ih =>
    have hnot : c ∉ tk := fun e => by have := (ih.was c e).2.2.2.1; omega
    have hoff0 : onB s0.wd j = false := by
      cases hb : onB s0.wd j with
      | false => rfl
      | true => have := (ih.on j).2 (.inl hb); rw [hoff] at this; cases this
    have hbl : ∀ c', c' ∈ tk → (s.take i c j).bl i c' = s.bl i c' := fun c' hc' => updB_ne _ _ (.inr fun e => hnot (e ▸ hc'))
    have hblc : (s.take i c j).bl i c = j + 1 := updB_same _ _ _ _
    refine ⟨ih.M.take ih.wlt hi h12 hc hj hoff, onW_lt ih.wlt j, fun i' c' h => ?_, fun i' c' h => ?_, fun c' h => ?_, fun j' => ?_, fun p hp => ?_, fun c' h t ht => ?_, ?_, ?_⟩
    · have : i' ≠ i ∨ c' ≠ c := by
        rcases h with h | h
        · exact .inl h
        · exact .inr fun e => h (by simp [e])
      show updB s.bl i c (j + 1) i' c' = _
      rw [updB_ne _ _ this]
      exact ih.out i' c' (h.imp id fun h e => h (by simp [e]))
    · have : i' ≠ i ∨ c' ≠ c := by
        rcases h with h | h
        · exact .inl h
        · exact .inr fun e => h (by simp [e])
      show upd2 s.nd i c _ i' c' = _
      rw [upd2_ne _ _ this]
      exact ih.outn i' c' (h.imp id fun h e => h (by simp [e]))
    · rcases List.mem_append.1 h with h | h
      · rw [hbl c' h]; exact ih.was c' h
      · have e : c' = c := by simpa using h
        subst e
        rw [hblc, Nat.add_sub_cancel]
        exact ⟨by rw [← ih.out i c' (.inr hnot)]; exact h0, h12, hc, by omega, hoff0, by omega⟩
    · show onB (onW s.wd j) j' = true ↔ _
      rw [onB_on ih.wlt, Bool.or_eq_true, ih.on j', decide_eq_true_eq]
      constructor
      · rintro ((e | ⟨c', e1, e2⟩) | e)
        · exact .inl e
        · exact .inr ⟨c', by simp [e1], by rw [hbl c' e1]; exact e2⟩
        · exact .inr ⟨c, by simp, by rw [hblc, e]⟩
      · rintro (e | ⟨c', e1, e2⟩)
        · exact .inl (.inl e)
        · rcases List.mem_append.1 e1 with h | h
          · exact .inl (.inr ⟨c', h, by rw [← hbl c' h]; exact e2⟩)
          · have e : c' = c := by simpa using h
            subst e
            rw [hblc] at e2
            exact .inr (by omega)
    · show zero64 s.b j p = _
      unfold zero64
      rw [if_neg fun e => by
        have : p / 64 = j := by omega
        rw [this, hoff0] at hp; cases hp]
      exact ih.by' p hp
    · show zero64 s.b j _ = 0
      unfold zero64
      rcases List.mem_append.1 h with h | h
      · rw [hbl c' h]
        split
        · rfl
        · exact ih.z c' h t ht
      · have e : c' = c := by simpa using h
        subst e
        rw [hblc, if_pos (by omega)]
    · exact List.nodup_append.2 ⟨ih.nd', by simp, fun a ha b hb e => hnot (by
        have : b = c := by simpa using hb
        rw [← this, ← e]; exact ha)⟩
    · show ((List.range n).filter (onB (onW s.wd j))).length = _
      rw [count_on (g := onB (onW s.wd j)) hj hoff fun k => onB_on ih.wlt, ih.cnt, List.length_append]; rfl
theorem back_props : ∀ (tk : List Nat) (s : S4), tk.Nodup → (∀ j, s.wd j < 2 ^ 64) → (∀ c, c ∈ tk → 0 < s.bl i c) →
    (∀ j, (backF i tk s).wd j < 2 ^ 64) ∧ (backF i tk s).b = s.b ∧ (∀ i' c, (backF i tk s).bl i' c = if i' = i ∧ c ∈ tk then 0 else s.bl i' c) ∧ (∀ i' c, (backF i tk s).nd i' c = if i' = i ∧ c ∈ tk then .int .i64 0 else s.nd i' c) ∧
      (∀ j, onB (backF i tk s).wd j = true ↔ (onB s.wd j = true ∧ ∀ c, c ∈ tk → s.bl i c ≠ j + 1))
  | [], s, _, hw, _ => ⟨hw, rfl, fun i' c => by simp [backF], fun i' c => by simp [backF], fun j => by simp [backF]⟩
  | c :: tk, s, hn, hw, hp => by
    obtain ⟨hn1, hn2⟩ := List.nodup_cons.1 hn
    have hne : ∀ c', c' ∈ tk → (s.back i c).bl i c' = s.bl i c' := fun c' h => updB_ne _ _ (.inr fun e => hn1 (e ▸ h))
    obtain ⟨a1, a2, a3, a4, a5⟩ := back_props tk (s.back i c) hn2 (offW_lt hw _) fun c' h => by rw [hne c' h]; exact hp c' (by simp [h])
    have hc := hp c (by simp)
    refine ⟨a1, a2, fun i' c' => ?_, fun i' c' => ?_, fun j => ?_⟩
    · show (backF i tk (s.back i c)).bl i' c' = _
      rw [a3]
      by_cases e : i' = i ∧ c' ∈ tk
      · rw [if_pos e, if_pos ⟨e.1, by simp [e.2]⟩]
      · rw [if_neg e]
        show updB s.bl i c 0 i' c' = _
        unfold updB
        by_cases e2 : i' = i ∧ c' = c
        · rw [if_pos e2, if_pos ⟨e2.1, by simp [e2.2]⟩]
        · rw [if_neg e2, if_neg fun h => by
            rcases List.mem_cons.1 h.2 with h3 | h3
            · exact e2 ⟨h.1, h3⟩
            · exact e ⟨h.1, h3⟩]
    · show (backF i tk (s.back i c)).nd i' c' = _
      rw [a4]
      by_cases e : i' = i ∧ c' ∈ tk
      · rw [if_pos e, if_pos ⟨e.1, by simp [e.2]⟩]
      · rw [if_neg e]
        show upd2 s.nd i c (.int .i64 0) i' c' = _
        unfold upd2
        by_cases e2 : i' = i ∧ c' = c
        · rw [if_pos e2, if_pos ⟨e2.1, by simp [e2.2]⟩]
        · rw [if_neg e2, if_neg fun h => by
            rcases List.mem_cons.1 h.2 with h3 | h3
            · exact e2 ⟨h.1, h3⟩
            · exact e ⟨h.1, h3⟩]
    · show onB (backF i tk (s.back i c)).wd j = true ↔ _
      rw [a5]
      show (onB (offW s.wd (s.bl i c - 1)) j = true ∧ _) ↔ _
      rw [onB_off hw, Bool.and_eq_true, decide_eq_true_eq]
      constructor
      · rintro ⟨⟨e1, e2⟩, e3⟩
        refine ⟨e1, fun c' h => ?_⟩
        rcases List.mem_cons.1 h with rfl | h
        · omega
        · rw [← hne c' h]; exact e3 c' h
      · rintro ⟨e1, e2⟩
        refine ⟨⟨e1, fun e => e2 c (by simp) (by omega)⟩, fun c' h => ?_⟩
        rw [hne c' h]; exact e2 c' (by simp [h])
theorem Taken.undo (t : Taken n i s0 tk s) (hi : i < N) (M : MapAt n N s0.wd s0.nd s0.bl) (hw : ∀ j, s0.wd j < 2 ^ 64) :
    (backF i tk s).wd = s0.wd ∧ (backF i tk s).nd = s0.nd ∧ (backF i tk s).bl = s0.bl ∧ ∀ p, onB s0.wd (p / 64) = true → (backF i tk s).b p = s0.b p := by
  have P := t.props hi M hw
  obtain ⟨a1, a2, a3, a4, a5⟩ := back_props (i := i) tk s P.nd' P.wlt fun c h => (P.was c h).2.2.2.1
  refine ⟨words_ext a1 hw fun j => ?_, ?_, ?_, fun p hp => by rw [a2]; exact P.by' p hp⟩
  · rw [Bool.eq_iff_iff, a5, P.on]
    constructor
    · rintro ⟨e | ⟨c, e1, e2⟩, e3⟩
      · exact e
      · exact absurd e2 (e3 c e1)
    · intro e
      refine ⟨.inl e, fun c h e2 => ?_⟩
      have := (P.was c h).2.2.2.2.1
      rw [e2, Nat.add_sub_cancel, e] at this
      cases this
  · funext i' c
    rw [a4]
    by_cases e : i' = i ∧ c ∈ tk
    · rw [if_pos e, e.1]
      obtain ⟨w1, w2, w3, _⟩ := P.was c e.2
      rw [M.cell i c hi w2 w3, w1]; rfl
    · rw [if_neg e]; exact P.outn i' c (by by_cases h : i' = i; exact .inr fun h2 => e ⟨h, h2⟩; exact .inl h)
  · funext i' c
    rw [a3]
    by_cases e : i' = i ∧ c ∈ tk
    · rw [if_pos e, e.1, (P.was c e.2).1]
    · rw [if_neg e]; exact P.out i' c (by by_cases h : i' = i; exact .inr fun h2 => e ⟨h, h2⟩; exact .inl h)
theorem fillF_taken : ∀ (cs : List Nat) (s : S4) (tk : List Nat), Taken n i s0 tk s → (∀ c, c ∈ cs → 12 ≤ c ∧ c < 308) → Taken n i s0 (fillF n i cs s tk).2.1 (fillF n i cs s tk).1
  | [], s, tk, t, _ => t
  | c :: cs, s, tk, t, hc => by
    unfold fillF
    by_cases e : 0 < s.bl i c
    · rw [if_pos e]; exact fillF_taken cs s tk t fun c' h => hc c' (by simp [h])
    · rw [if_neg e]
      cases hl : low n s.wd with
      | none => exact t
      | some j =>
        obtain ⟨l1, l2, _⟩ := low_some hl
        exact fillF_taken cs _ _ (.snoc t (by omega) (hc c (by simp)).1 (hc c (by simp)).2 l1 l2) fun c' h => hc c' (by simp [h])
theorem fillF_false : ∀ (cs : List Nat) (s : S4) (tk : List Nat), (fillF n i cs s tk).2.2 = false → (∀ j, j < n → onB (fillF n i cs s tk).1.wd j = true) ∧ (fillF n i cs s tk).2.1.length < tk.length + cs.length
  | [], s, tk, h => by cases h
  | c :: cs, s, tk, h => by
    unfold fillF at h ⊢
    by_cases e : 0 < s.bl i c
    · rw [if_pos e] at h ⊢
      obtain ⟨h1, h2⟩ := fillF_false cs s tk h
      exact ⟨h1, by simp only [List.length_cons]; omega⟩
    · rw [if_neg e] at h ⊢
      cases hl : low n s.wd with
      | none => exact ⟨low_none hl, by simp only [List.length_cons]; omega⟩
      | some j =>
        rw [hl] at h
        obtain ⟨h1, h2⟩ := fillF_false cs _ _ h
        exact ⟨h1, by simp only [List.length_append, List.length_cons, List.length_nil] at h2 ⊢; omega⟩
theorem fillF_true : ∀ (cs : List Nat) (s : S4) (tk : List Nat), (fillF n i cs s tk).2.2 = true → (∀ c, 0 < s.bl i c → 0 < (fillF n i cs s tk).1.bl i c) ∧ (∀ c, c ∈ cs → 0 < (fillF n i cs s tk).1.bl i c)
  | [], s, tk, _ => ⟨fun _ h => h, fun c h => by cases h⟩
  | c :: cs, s, tk, h => by
    unfold fillF at h ⊢
    by_cases e : 0 < s.bl i c
    · rw [if_pos e] at h ⊢
      obtain ⟨h1, h2⟩ := fillF_true cs s tk h
      refine ⟨h1, fun c' hc => ?_⟩
      rcases List.mem_cons.1 hc with rfl | hc
      · exact h1 c' e
      · exact h2 c' hc
    · rw [if_neg e] at h ⊢
      cases hl : low n s.wd with
      | none => rw [hl] at h; cases h
      | some j =>
        rw [hl] at h
        obtain ⟨h1, h2⟩ := fillF_true cs _ _ h
        have h3 : 0 < (s.take i c j).bl i c := by
          show 0 < updB s.bl i c (j + 1) i c
          rw [updB_same]; omega
        refine ⟨fun c' hp => h1 c' ?_, fun c' hc => ?_⟩
        · show 0 < updB s.bl i c (j + 1) i c'
          unfold updB
          split
          · omega
          · exact hp
        · rcases List.mem_cons.1 hc with rfl | hc
          · exact h1 c' h3
          · exact h2 c' hc
end
end Go.Proofs.YtomialandfplkaaDoor.Eva
namespace Go.Proofs.YtomialandfplkaaDoor.Eva
open Go.Xe
set_option linter.unusedSimpArgs false
theorem app_full {P : Program} {h : HW} {t u e sz b k off len lo n : Nat} {y : SV} {olds news : List SV} (T : AppT P t u e sz b) (hm : ∃ m, h.mt k = some m) (ho : h.cells k off (len * sz) = some olds) (he : appElems h.x0 sz y = some (n, news)) (hnl : news.length = n * sz)
    (hone : allOne news = true) (hn : 1 ≤ n) (hc : len + n ≤ 140737488355328) (hcb : (len + n) * b ≤ 140737488355328) :
    ybl P .append #[t, u] [.sl k off len (some len) lo, y] h = some (.sl h.next 0 (len + n) none 0, h.new (looseOb e sz (olds ++ news))) := by
  rw [ybl_append T he hnl hone]
  obtain ⟨m, hm⟩ := hm
  unfold HW.mt at hm
  cases hob : h.objs.get k with
  | none => simp [hob] at hm
  | some o =>
    have b1 : Nat.ble (len + n) len = false := by
      cases hb : Nat.ble (len + n) len with
      | false => rfl
      | true => exact absurd (Nat.le_of_ble_eq_true hb) (by omega)
    have hl : loadN o off (len * sz) = some olds := by rw [loadN_cells hob]; exact ho
    simp only [appTo, HW.x0_objs, hob, force_eq, b1, cond_false, hl]
    exact appNew_hx hc hcb
abbrev gT : Nat := 0
noncomputable def eP : TypeId := match Tryd.prog.underlying 143 with
  | some (.slice e) => e
  | _ => 0
theorem appT_ptr : AppT Tryd.prog 143 143 eP 1 8 :=
  ⟨by kernel_rfl, by kernel_rfl, ⟨.pointer none, by kernel_rfl, rfl⟩, by kernel_rfl, ⟨_, Tryd.underlying143, rfl⟩, Nat.le_refl 1⟩
theorem TabAt.same {h h' : HW} (A : TabAt h) (s : SameOb h h' gT) (hn : h'.ng = h.ng) : TabAt h' := ⟨by rw [hn]; exact A.1, fun i hi => by rw [s.cell]; exact A.2 i hi⟩
theorem TabAt.fr {h h' : HW} {S : Nat → Prop} (A : TabAt h) (F : Frm h h' S) (hn : gT < h.next) (hs : ¬ S gT) : TabAt h' := A.same (F.same _ hn hs) F.ng
def ptrs (kn i : Nat) (cs : List Nat) : List SV := cs.map fun c => SV.ptr kn (i * 308 + c)
structure NotG (T : TN) : Prop where
  s : gT ≠ T.ks
  d : gT ≠ T.kd
  n : gT ≠ T.kn
structure FlSt (h0 h : HW) (T : TN) (n N : Nat) (now : Int) (us : Nat → Bool) (s : S4) (i v3 v8 : Nat) (tk : List Nat) : Prop where
  A : TableAt h T n N s.wd s.b now us s.nd
  M : MapAt n N s.wd s.nd s.bl
  Tt : TabAt h
  F : Frm h0 h (fun j => j = T.ks ∨ j = T.kd ∨ j = T.kn)
  c3 : h.cell v3 0 = some (.ptr T.kt 0)
  n3 : h0.next ≤ v3
  l3 : v3 < h.next
  c8 : ∃ x, h.cell v8 0 = some x ∧ Sl h eP 1 x tk.length (ptrs T.kn i tk) ∧ ∀ j, rowOf x = some j → h0.next ≤ j ∧ j ≠ v3 ∧ j ≠ v8
  w8 : h.wr v8 1
  n8 : h0.next ≤ v8
  l8 : v8 < h.next
  d : v3 ≠ v8
structure OldT (h0 : HW) (T : TN) : Prop where
  t : T.kt < h0.next
  s : T.ks < h0.next
  d : T.kd < h0.next
  n : T.kn < h0.next
  g : gT < h0.next
  ng : NotG T
section
variable {lf : Nat} {h0 h : HW} {T : TN} {n N : Nat} {now : Int} {us : Nat → Bool} {s : S4} {i v3 v8 : Nat} {tk : List Nat}
theorem fl_take {C : YC} (Al : AllocOK C) (O : OldT h0 T) (hi : i < N) (X : FlSt h0 h T n N now us s i v3 v8 tk) {c j : Nat} (h12 : 12 ≤ c) (hc : c < 308) (hl : low n s.wd = some j) (ht : tk.length ≤ 1000) :
    ∃ h1 h2 h3 h4 x x', C (.fn 17) [.ptr T.ks 0] h = some (.ret (.tup [.int .i64 (j : Int), .int .i64 0]), h1) ∧
      st 1 (.ptr T.kn (i * 308 + c)) (.int .i64 ((j + 1 : Nat) : Int)) h1 = some h2 ∧
      h2.cell v8 0 = some x ∧
      ybs Tryd.prog 143 1 [0] [.ptr T.kn (i * 308 + c)] h2 = some (.sl h1.next 0 1 (some 1) 0, h2.new (rowOb eP [.ptr T.kn (i * 308 + c)])) ∧
      ybl Tryd.prog .append #[143, 143] [x, .sl h1.next 0 1 (some 1) 0] (h2.new (rowOb eP [.ptr T.kn (i * 308 + c)])) = some (x', h3) ∧
      st 1 (.ptr v8 0) x' h3 = some h4 ∧ FlSt h0 h4 T n N now us (s.take i c j) i v3 v8 (tk ++ [c]) ∧ h.cell v8 0 = some x ∧ h4.cell v8 0 = some x' ∧ (∀ j, rowOf x' = some j → rowOf x = some j ∨ h.next ≤ j) ∧ h.next ≤ h4.next ∧
      (∀ j, h0.next ≤ j → j < h.next → j ≠ v8 → rowOf x ≠ some j → SameOb h h4 j) := by
  obtain ⟨l1, l2, l3⟩ := low_some hl
  have hn2 := X.A.st.n2
  obtain ⟨h1, e1, S1, F1⟩ := (Al h T.ks T.kd n s.wd s.b X.A.st X.Tt).2 j l1 l2 l3
  have hF := X.F.next
  have skt : SameOb h h1 T.kt := F1.same _ X.A.lt (fun e => by rcases e with e | e; exact X.A.d1 e; exact X.A.d2 e)
  have skn : SameOb h h1 T.kn := F1.same _ X.A.ln (fun e => by rcases e with e | e; exact X.A.d4 e; exact X.A.d5 e)
  have A1 : TableAt h1 T n N (onW s.wd j) (zero64 s.b j) now us s.nd := X.A.store S1 F1.next skt skn
  have s2 := st_node A1 (i := i) (c := c) (y := .int .i64 ((j + 1 : Nat) : Int)) hi hc rfl rfl
  have A2 := A1.setNode (i := i) (c := c) (y := .int .i64 ((j + 1 : Nat) : Int)) hi hc (by omega)
  have F2 : Frm h1 (h1.set T.kn (i * 308 + c) [.int .i64 ((j + 1 : Nat) : Int)]) (· = T.kn) := frm_set rfl
  have nx2 : (h1.set T.kn (i * 308 + c) [.int .i64 ((j + 1 : Nat) : Int)]).next = h1.next := set_next ..
  generalize hg2 : h1.set T.kn (i * 308 + c) [.int .i64 ((j + 1 : Nat) : Int)] = h2 at *
  have s02 : ∀ j, h0.next ≤ j → j < h.next → SameOb h h2 j := fun j hj hl => by
    have o1 := O.s; have o2 := O.d; have o3 := O.n
    have a : SameOb h h1 j := F1.same j hl (fun e => by omega)
    exact (F2.same j (Nat.lt_of_lt_of_le hl F1.next) (fun e => by omega)).trans a
  have n1 := F1.next
  obtain ⟨x, x1, x2, x3⟩ := X.c8
  have c8 : h2.cell v8 0 = some x := by rw [(s02 v8 X.n8 X.l8).cell]; exact x1
  have hS : Sl h2 eP 1 x tk.length (ptrs T.kn i tk) := x2.frame (by omega) fun k hk => s02 k (x3 k hk).1 (x2.row_lt hk)
  obtain ⟨x', h3, a1, a2, a3, a4, a5, a6, a7, a8⟩ := app_one (y := .ptr T.kn (i * 308 + c)) appT_ptr rfl rfl rfl hS (by omega) (by omega)
  rw [nx2] at a1 a2
  have s23 : ∀ j, j < h2.next → rowOf x ≠ some j → SameOb h2 h3 j := a6
  have hnr : ∀ j, j = v3 ∨ j = v8 ∨ j < h0.next → rowOf x ≠ some j := fun j hj e => by have := x3 j e; omega
  have l8' := X.l8
  have l3' := X.l3
  have w3 : h3.wr v8 1 := wr_same (wr_same X.w8 (s02 v8 X.n8 X.l8)) (s23 v8 (by omega) (hnr _ (.inr (.inl rfl))))
  have hone : allOne [x'] = true := by rcases a3.2 with ⟨rfl, _⟩ | ⟨_, rfl, _⟩ <;> rfl
  have hcx : x'.cells = [x'] := by rcases a3.2 with ⟨rfl, _⟩ | ⟨_, rfl, _⟩ <;> rfl
  have st4 := st_ptr (n := 1) (off := 0) (y := x') w3 (by rw [hcx]; rfl) (by omega) (by rw [hcx]; exact hone)
  rw [hcx] at st4
  have F4 : Frm h3 (h3.set v8 0 [x']) (· = v8) := frm_set rfl
  generalize hg4 : h3.set v8 0 [x'] = h4 at *
  have n4 : h4.next = h3.next := by rw [← hg4, set_next]
  have s34 : ∀ j, j ≠ v8 → SameOb h3 h4 j := fun j hj => by rw [← hg4]; exact set_other _ _ _ hj
  have s24 : ∀ j, j < h2.next → rowOf x ≠ some j → j ≠ v8 → SameOb h2 h4 j := fun j h1 h2 h3 => (s34 j h3).trans (s23 j h1 h2)
  have old : ∀ j, j < h0.next → SameOb h2 h4 j := fun j hj => s24 j (by omega) (hnr j (.inr (.inr hj))) (by have := X.n8; omega)
  have c4 : h4.cell v8 0 = some x' := by rw [← hg4, cell_set_same w3 (by simp) (Nat.zero_le _) (by simp)]; rfl
  refine ⟨h1, h2, h3, h4, x, x', e1, s2, c8, a1, a2, st4, ⟨?_, X.M.take X.A.st.wlt hi h12 hc l1 l2, ?_, ?_, ?_, X.n3, by omega, ⟨x', c4, ?_, fun j hj => ?_⟩, ?_, X.n8, by omega, X.d⟩, x1, c4, fun j hj => (a7 j hj).imp id fun e => by omega, by omega, fun j h1 h2 h3 h4 => (s24 j (by omega) h4 h3).trans (s02 j h1 h2)⟩
  · exact A2.frame (by omega) fun j hj => old j (by rcases hj with rfl | rfl | rfl | rfl; exact O.t; exact O.s; exact O.d; exact O.n)
  · have t1 := X.Tt.fr F1 (by have := O.g; omega) (fun e => by rcases e with e | e; exact O.ng.s e; exact O.ng.d e)
    have t2 := t1.fr F2 (by have := O.g; omega) (fun e => O.ng.n e)
    exact t2.same (old gT O.g) (by
      have : h4.ng = h2.ng := F4.ng.trans a5
      exact this)
  · refine ⟨F4.ng.trans (a5.trans (F2.ng.trans (F1.ng.trans X.F.ng))), by omega, fun j hj hn => ?_, fun hf => F4.fr (a8 (F2.fr (F1.fr (X.F.fr hf))))⟩
    have b1 := X.F.same j hj hn
    have b2 : SameOb h h1 j := F1.same j (by omega) (fun e => hn (by rcases e with e | e; exact .inl e; exact .inr (.inl e)))
    have b3 : SameOb h1 h2 j := F2.same j (by omega) (fun e => hn (.inr (.inr e)))
    exact (old j hj).trans (b3.trans (b2.trans b1))
  · rw [(s24 v3 (by omega) (hnr _ (.inl rfl)) X.d).cell, (s02 v3 X.n3 X.l3).cell]; exact X.c3
  · have : ptrs T.kn i (tk ++ [c]) = ptrs T.kn i tk ++ [.ptr T.kn (i * 308 + c)] := by simp [ptrs]
    rw [this, List.length_append]
    exact a3.frame (by omega) fun k hk => s34 k (by rcases a7 k hk with e | e; exact (x3 k e).2.2; omega)
  · rcases a7 j hj with e | e
    · exact x3 j e
    · have := X.n8; have := X.n3; omega
  · rw [← hg4]; exact wr_set w3
theorem ptrs_get (kn i : Nat) (cs : List Nat) {t : Nat} (ht : t < cs.length) : (ptrs kn i cs)[t]? = some (.ptr kn (i * 308 + cs[t])) := by simp [ptrs, ht]
theorem backF_step {tk : List Nat} {t : Nat} (ht : t < tk.length) : backF i (tk.take (t + 1)) s = (backF i (tk.take t) s).back i tk[t] := by
  unfold backF
  rw [List.take_succ_eq_append_getElem ht, List.foldl_append]; rfl
theorem back_loop {C : YC} (Fr : FreeOK C) (O : OldT h0 T) (hi : i < N) {x : SV} {q : Nat} (hq : tk = [] ∨ x = .sl q 0 tk.length none 0) (hnd : tk.Nodup) (hin : ∀ c, c ∈ tk → 12 ≤ c ∧ c < 308 ∧ 0 < s.bl i c) (hlen : tk.length ≤ 1000) (hqn : q ≠ T.ks ∧ q ≠ T.kn ∧ q ≠ v3) (hv : v3 ≠ T.ks ∧ v3 ≠ T.kn) (e0 : K0) :
    ∀ (d t : Nat), t + d = tk.length → ∀ f, d < f → ∀ h, TableAt h T n N (backF i (tk.take t) s).wd (backF i (tk.take t) s).b now us (backF i (tk.take t) s).nd → MapAt n N (backF i (tk.take t) s).wd (backF i (tk.take t) s).nd (backF i (tk.take t) s).bl →
    h.cell v3 0 = some (.ptr T.kt 0) → v3 < h.next → (∀ j, j < tk.length → q < h.next ∧ h.cell q j = (ptrs T.kn i tk)[j]?) →
    ∃ h', lp (l90_0 C lf e0) f (some (.ptr v3 0), some x, some (.int .i64 (tk.length : Int)), some (.int .i64 (t : Int))) h = e0 h' ∧ TableAt h' T n N (backF i tk s).wd (backF i tk s).b now us (backF i tk s).nd ∧ MapAt n N (backF i tk s).wd (backF i tk s).nd (backF i tk s).bl ∧ Frm h h' (fun j => j = T.ks ∨ j = T.kn)
  | 0, t, hw, f, hf, h, A, M, c3, l3, hc => by
    obtain ⟨f, rfl⟩ : ∃ g, f = g + 1 := ⟨f - 1, by omega⟩
    have : t = tk.length := by omega
    subst this
    rw [List.take_length] at A M
    refine ⟨h, ?_, A, M, Frm.refl _ _⟩
    rw [lp_succ]
    unfold l90_0 q90_21
    have hlt : decide ((tk.length : Int) < (tk.length : Int)) = false := by simp
    simp only [ob_some, b2_some, bc_ret, bcn_ret, gd_tt, gd_ff, gd_tf, gd_ft, ypk_true, ypk_false, yIf_true, yIf_false, semNil_ptr, fa_ptr, ld1_ptr, ext_tup, fd1_agg, un_not, bin_add, bin_sub, bin_mul, bin_eql, bin_neq, bin_lss, bin_leq, bin_gtr, bin_geq, Nat.zero_add, Nat.mul_one, hlt]
  | d + 1, t, hw, f, hf, h, A, M, c3, l3, hc => by
    obtain ⟨f, rfl⟩ : ∃ g, f = g + 1 := ⟨f - 1, by omega⟩
    have ht : t < tk.length := by omega
    have hx : x = .sl q 0 tk.length none 0 := by
      rcases hq with e | e
      · rw [e] at ht; simp at ht
      · exact e
    subst hx
    have hlt : decide ((t : Int) < (tk.length : Int)) = true := decide_eq_true (by omega)
    have hinc : IntKind.i64.wrap ((t : Int) + 1) = ((t + 1 : Nat) : Int) := by rw [wrap_i64 (by omega) (by omega)]; omega
    have hix := ixS_sl (s := 1) (k := q) (off := 0) (len := tk.length) (lo := 0) (cap := none) (kd := .i64) (i := (t : Int)) (by omega) (by omega)
    rw [Int.toNat_natCast, Nat.mul_one, Nat.zero_add] at hix
    have hcell := (hc t ht).2
    rw [ptrs_get _ _ _ ht] at hcell
    have hmem : tk[t] ∈ tk := List.getElem_mem ht
    obtain ⟨b1, b2, b3⟩ := hin _ hmem
    generalize hcc : tk[t] = c at *
    -- what the cell leads to is as it was
    have hnot : c ∉ tk.take t := fun e => by
      obtain ⟨k, hk, e2⟩ := List.getElem_of_mem e
      rw [List.length_take] at hk
      rw [List.getElem_take] at e2
      exact absurd (e2.trans hcc.symm) (List.pairwise_iff_getElem.1 hnd k t (by omega) ht (by omega))
    have hblc : (backF i (tk.take t) s).bl i c = s.bl i c := by
      have : ∀ (l : List Nat) (s : S4), c ∉ l → (backF i l s).bl i c = s.bl i c := by
        intro l
        induction l with
        | nil => intro s _; rfl
        | cons a l ih =>
          intro s h
          show (backF i l (s.back i a)).bl i c = _
          rw [ih _ (fun e => h (by simp [e]))]
          exact updB_ne _ _ (.inr fun e => h (by simp [e]))
      exact this _ s hnot
    have step := backF_step (i := i) (s := s) ht
    rw [hcc] at step
    generalize hs1 : backF i (tk.take t) s = s1 at *
    have hle := M.le i c
    have hon := M.on i c hi b1 b2 (by omega)
    have hcv := A.cn i c hi b2
    rw [M.cell i c hi b1 b2] at hcv
    have hn2 := A.st.n2
    have hs : IntKind.i64.wrap ((s1.bl i c : Int) - 1) = ((s1.bl i c - 1 : Nat) : Int) := by rw [wrap_i64 (by omega) (by omega)]; omega
    have hinu : inUse n s1.wd ((s1.bl i c - 1 : Nat) : Int) = true := by
      simp only [inUse, Int.toNat_natCast, hon, Bool.and_true, Bool.and_eq_true, decide_eq_true_eq]; omega
    obtain ⟨h1, e1, S1, F1⟩ := (Fr h T.ks T.kd n s1.wd s1.b ((s1.bl i c - 1 : Nat) : Int) A.st (by omega) (by omega)).2 hinu
    rw [Int.toNat_natCast] at S1
    have A1 := A.store S1 F1.next (F1.same _ A.lt (fun e => A.d1 e)) (F1.same _ A.ln (fun e => A.d4 e))
    have hst := st_node A1 (i := i) (c := c) (y := .int .i64 0) hi b2 rfl rfl
    have A2 := A1.setNode (i := i) (c := c) (y := .int .i64 0) hi b2 (by omega)
    have M2 := M.drop A.st.wlt hi b1 b2 (by omega)
    have F2 : Frm h1 (h1.set T.kn (i * 308 + c) [.int .i64 0]) (· = T.kn) := frm_set rfl
    have F12 : Frm h (h1.set T.kn (i * 308 + c) [.int .i64 0]) (fun j => j = T.ks ∨ j = T.kn) := (F1.weak fun _ e => .inl e).trans (F2.weak fun _ e => .inr e)
    generalize hg2 : h1.set T.kn (i * 308 + c) [.int .i64 0] = h2 at *
    have A2' : TableAt h2 T n N (backF i (tk.take (t + 1)) s).wd (backF i (tk.take (t + 1)) s).b now us (backF i (tk.take (t + 1)) s).nd := by rw [step]; exact A2
    have M2' : MapAt n N (backF i (tk.take (t + 1)) s).wd (backF i (tk.take (t + 1)) s).nd (backF i (tk.take (t + 1)) s).bl := by rw [step]; exact M2
    obtain ⟨h', r1, r2, r3, r4⟩ := back_loop Fr O hi (.inr rfl) hnd hin hlen hqn hv e0 d (t + 1) (by omega) f (by omega) h2 A2' M2'
      (by rw [(F12.same v3 l3 (fun e => by rcases e with e | e; exact hv.1 e; exact hv.2 e)).cell]; exact c3) (Nat.lt_of_lt_of_le l3 F12.next)
      (fun j hj => ⟨Nat.lt_of_lt_of_le (hc j hj).1 F12.next, by rw [(F12.same q (hc j hj).1 (fun e => by rcases e with e | e; exact hqn.1 e; exact hqn.2.1 e)).cell]; exact (hc j hj).2⟩)
    refine ⟨h', ?_, r2, r3, F12.trans r4⟩
    rw [lp_succ]
    show q90_21 C lf (fun x1 x4 x5 x6 h => lp (l90_0 C lf e0) f (x1, x4, x5, x6) h) e0 (some (.ptr v3 0)) (some (.sl q 0 tk.length none 0)) (some (.int .i64 (tk.length : Int))) (some (.int .i64 (t : Int))) h = _
    unfold q90_21
    simp only [ob_some, b2_some, bc_ret, bcn_ret, gd_tt, gd_ff, gd_tf, gd_ft, ypk_true, ypk_false, yIf_true, yIf_false, semNil_ptr, fa_ptr, ld1_ptr, ext_tup, fd1_agg, un_not, bin_add, bin_sub, bin_mul, bin_eql, bin_neq, bin_lss, bin_leq, bin_gtr, bin_geq, Nat.zero_add, Nat.mul_one, hlt, hix, hcell, c3, A.c0, hcv, hs, e1, hst, hinc]
    exact r1
def BackOK (C : YC) : Prop := ∀ h0 h T n N now us s i v3 v8 tk, OldT h0 T → i < N → FlSt h0 h T n N now us s i v3 v8 tk → tk.Nodup → (∀ c, c ∈ tk → 12 ≤ c ∧ c < 308 ∧ 0 < s.bl i c) → tk.length ≤ 1000 →
  ∃ h', C (.fn 90) [.ptr v8 0, .ptr v3 0] h = some (.ret (.tup []), h') ∧ TableAt h' T n N (backF i tk s).wd (backF i tk s).b now us (backF i tk s).nd ∧ MapAt n N (backF i tk s).wd (backF i tk s).nd (backF i tk s).bl ∧ Frm h h' (fun j => j = T.ks ∨ j = T.kn)
theorem back_ok {C : YC} (hlf : 1001 ≤ lf) (Fr : FreeOK C) (O : OldT h0 T) (hi : i < N) (X : FlSt h0 h T n N now us s i v3 v8 tk) (hnd : tk.Nodup) (hin : ∀ c, c ∈ tk → 12 ≤ c ∧ c < 308 ∧ 0 < s.bl i c) (hlen : tk.length ≤ 1000) :
    ∃ h', fs90 C lf (.ptr v8 0) (.ptr v3 0) h = some (.ret (.tup []), h') ∧ TableAt h' T n N (backF i tk s).wd (backF i tk s).b now us (backF i tk s).nd ∧ MapAt n N (backF i tk s).wd (backF i tk s).nd (backF i tk s).bl ∧ Frm h h' (fun j => j = T.ks ∨ j = T.kn) := by
  obtain ⟨x, x1, x2, x3⟩ := X.c8
  have o1 := O.s
  have o2 := O.n
  have n3 := X.n3
  have hlx : lenE Tryd.prog 143 x = some (.int .i64 (tk.length : Int)) := by
    rcases x2.2 with ⟨rfl, h1⟩ | ⟨k, rfl, _⟩
    · rw [h1]; simp [lenE, Tryd.underlying143, forceI_eq]
    · simp [lenE, Tryd.underlying143]
  obtain ⟨q, hq, hqn, hqc⟩ : ∃ q, (tk = [] ∨ x = .sl q 0 tk.length none 0) ∧ (q ≠ T.ks ∧ q ≠ T.kn ∧ q ≠ v3) ∧ ∀ j, j < tk.length → q < h.next ∧ h.cell q j = (ptrs T.kn i tk)[j]? := by
    rcases x2.2 with ⟨_, h1⟩ | ⟨k, rfl, hk⟩
    · exact ⟨v8, .inl (List.length_eq_zero_iff.1 h1), ⟨by have := X.n8; omega, by have := X.n8; omega, fun e => X.d e.symm⟩, fun j hj => by omega⟩
    · have := x3 k rfl
      exact ⟨k, .inr rfl, ⟨by omega, by omega, this.2.1⟩, fun j hj => ⟨hk.lt, hk.cs j (by omega)⟩⟩
  obtain ⟨h', r1, r2, r3, r4⟩ := back_loop (lf := lf) (s := s) Fr O hi hq hnd hin hlen hqn ⟨by omega, by omega⟩ ff90 tk.length 0 (by omega) lf (by omega) h X.A X.M X.c3 X.l3 hqc
  refine ⟨h', ?_, r2, r3, r4⟩
  unfold fs90 q90_26 q90_25
  simp only [ob_some, b2_some, bc_ret, bcn_ret, gd_tt, gd_ff, gd_tf, gd_ft, ypk_true, ypk_false, yIf_true, yIf_false, semNil_ptr, fa_ptr, ld1_ptr, ext_tup, fd1_agg, un_not, bin_add, bin_sub, bin_mul, bin_eql, bin_neq, bin_lss, bin_leq, bin_gtr, bin_geq, Nat.zero_add, Nat.mul_one, x1, hlx]
  exact r1
theorem fill_loop {C : YC} (Al : AllocOK C) (O : OldT h0 T) (hi : i < N) {kx : Nat} {cs0 : List Nat} (hcs : ∀ c, c ∈ cs0 → 12 ≤ c ∧ c < 308) (hl0 : cs0.length ≤ 500) (hkx : h0.next ≤ kx ∧ kx ≠ v8) (clo : SV) (r : K1) (e1 : K0) :
    ∀ (cs : List Nat) (t : Nat), cs0.drop t = cs → t ≤ cs0.length → ∀ f, cs.length < f → ∀ h s tk, FlSt h0 h T n N now us s i v3 v8 tk → tk.length ≤ t → kx < h.next → (∀ j, j < cs0.length → h.cell kx j = (ptrs T.kn i cs0)[j]?) → (∀ j, rowOf (((h.cell v8 0).getD (.bool true))) = some j → j ≠ kx) →
    ∃ h', FlSt h0 h' T n N now us (fillF n i cs s tk).1 i v3 v8 (fillF n i cs s tk).2.1 ∧
      lp (l75_2 C lf r e1) f (some (.ptr v3 0), some (.ptr v8 0), some clo, some (.sl kx 0 cs0.length none 0), some (.int .i64 (cs0.length : Int)), some (.int .i64 (t : Int))) h =
        (if (fillF n i cs s tk).2.2 = true then e1 h' else cv false C clo [] h' fun _ h25 => r (some (.bool false)) h25)
  | [], t, hd, ht, f, hf, h, s, tk, X, hle, lkx, hc, _ => by
    obtain ⟨f, rfl⟩ : ∃ g, f = g + 1 := ⟨f - 1, by omega⟩
    have : t = cs0.length := by
      have := congrArg List.length hd
      rw [List.length_drop] at this
      simp at this; omega
    subst this
    refine ⟨h, X, ?_⟩
    show _ = e1 h
    rw [lp_succ]
    unfold l75_2 q75_37
    have hlt : decide ((cs0.length : Int) < (cs0.length : Int)) = false := by simp
    simp only [ob_some, b2_some, bc_ret, bcn_ret, gd_tt, gd_ff, gd_tf, gd_ft, ypk_true, ypk_false, yIf_true, yIf_false, semNil_ptr, fa_ptr, ld1_ptr, ext_tup, fd1_agg, un_not, bin_add, bin_sub, bin_mul, bin_eql, bin_neq, bin_lss, bin_leq, bin_gtr, bin_geq, Nat.zero_add, Nat.mul_one, hlt]
  | c :: cs, t, hd, ht, f, hf, h, s, tk, X, hle, lkx, hc, hrx => by
    obtain ⟨f, rfl⟩ : ∃ g, f = g + 1 := ⟨f - 1, by simp at hf; omega⟩
    have htl : t < cs0.length := by
      have := congrArg List.length hd
      rw [List.length_drop] at this
      simp at this; omega
    have hct : cs0[t] = c := by
      have := congrArg (·[0]?) hd
      simp [List.getElem?_drop, htl] at this
      exact this
    have hd' : cs0.drop (t + 1) = cs := by
      rw [← List.tail_drop, hd]; rfl
    obtain ⟨b1, b2⟩ := hcs c (by rw [← hct]; exact List.getElem_mem htl)
    have hlt : decide ((t : Int) < (cs0.length : Int)) = true := decide_eq_true (by omega)
    have hinc : IntKind.i64.wrap ((t : Int) + 1) = ((t + 1 : Nat) : Int) := by rw [wrap_i64 (by omega) (by omega)]; omega
    have hix := ixS_sl (s := 1) (k := kx) (off := 0) (len := cs0.length) (lo := 0) (cap := none) (kd := .i64) (i := (t : Int)) (by omega) (by omega)
    rw [Int.toNat_natCast, Nat.mul_one, Nat.zero_add] at hix
    have hcell := hc t htl
    rw [ptrs_get _ _ _ htl, hct] at hcell
    have hcv := X.A.cn i c hi b2
    rw [X.M.cell i c hi b1 b2] at hcv
    rw [lp_succ]
    show ∃ h', _ ∧ q75_37 C lf (fun x3 x8 x9 x50 x51 x52 h => lp (l75_2 C lf r e1) f (x3, x8, x9, x50, x51, x52) h) r e1 (some (.ptr v3 0)) (some (.ptr v8 0)) (some clo) (some (.sl kx 0 cs0.length none 0)) (some (.int .i64 (cs0.length : Int))) (some (.int .i64 (t : Int))) h = _
    unfold q75_37
    by_cases hp : 0 < s.bl i c
    · have hd1 : decide ((0 : Int) < (s.bl i c : Int)) = true := decide_eq_true (by omega)
      have hff : fillF n i (c :: cs) s tk = fillF n i cs s tk := by
        rw [fillF, if_pos hp]
      rw [hff]
      obtain ⟨h', r1, r2⟩ := fill_loop Al O hi hcs hl0 hkx clo r e1 cs (t + 1) hd' (by omega) f (by simp at hf; omega) h s tk X (by omega) lkx hc hrx
      refine ⟨h', r1, ?_⟩
      simp only [ob_some, b2_some, bc_ret, bcn_ret, gd_tt, gd_ff, gd_tf, gd_ft, ypk_true, ypk_false, yIf_true, yIf_false, semNil_ptr, fa_ptr, ld1_ptr, ext_tup, fd1_agg, un_not, bin_add, bin_sub, bin_mul, bin_eql, bin_neq, bin_lss, bin_leq, bin_gtr, bin_geq, Nat.zero_add, Nat.mul_one, hlt, hix, hcell, hcv, hd1, hinc]
      exact r2
    · have hz : s.bl i c = 0 := by omega
      have hd1 : decide ((0 : Int) < (s.bl i c : Int)) = false := decide_eq_false (by omega)
      cases hl : low n s.wd with
      | none =>
        have hff : fillF n i (c :: cs) s tk = (s, tk, false) := by rw [fillF, if_neg hp, hl]
        rw [hff]
        have e1 := (Al h T.ks T.kd n s.wd s.b X.A.st X.Tt).1 (low_none hl)
        have hne : decide ((28 : Int) ≠ 0) = true := rfl
        refine ⟨h, X, ?_⟩
        simp only [ob_some, b2_some, bc_ret, bcn_ret, gd_tt, gd_ff, gd_tf, gd_ft, ypk_true, ypk_false, yIf_true, yIf_false, semNil_ptr, fa_ptr, ld1_ptr, ext_tup, fd1_agg, un_not, bin_add, bin_sub, bin_mul, bin_eql, bin_neq, bin_lss, bin_leq, bin_gtr, bin_geq, Nat.zero_add, Nat.mul_one, hlt, hix, hcell, hcv, hd1, X.c3, X.A.c0, e1, List.getElem?_cons_zero, List.getElem?_cons_succ, hne]
        rfl
      | some j =>
        have hff : fillF n i (c :: cs) s tk = fillF n i cs (s.take i c j) (tk ++ [c]) := by rw [fillF, if_neg hp, hl]
        rw [hff]
        have hjn := (low_some hl).1
        have hn2 := X.A.st.n2
        obtain ⟨h1, h2, h3, h4, x, x', e1', s2, c8, a1, a2, st4, X4, y1, y2, y3, y4, y5⟩ := fl_take Al O hi X b1 b2 hl (by omega)
        have hne : decide ((0 : Int) ≠ 0) = false := rfl
        have hadd : IntKind.i64.wrap ((j : Int) + 1) = ((j + 1 : Nat) : Int) := by rw [wrap_i64 (by omega) (by omega)]; omega
        obtain ⟨k1, k2, k3⟩ : kx < h4.next ∧ (∀ j, j < cs0.length → h4.cell kx j = (ptrs T.kn i cs0)[j]?) ∧ (∀ j, rowOf (((h4.cell v8 0).getD (.bool true))) = some j → j ≠ kx) := by
          rw [y1] at hrx
          have hne : rowOf x ≠ some kx := fun e => hrx kx e rfl
          have sk := y5 kx hkx.1 lkx hkx.2 hne
          refine ⟨by omega, fun j hj => by rw [sk.cell]; exact hc j hj, fun j hj => ?_⟩
          rw [y2] at hj
          rcases y3 j hj with e | e
          · exact hrx j e
          · omega
        obtain ⟨h', r1, r2⟩ := fill_loop Al O hi hcs hl0 hkx clo r e1 cs (t + 1) hd' (by omega) f (by simp at hf; omega) h4 (s.take i c j) (tk ++ [c]) X4 (by simp; omega) k1 k2 k3
        refine ⟨h', r1, ?_⟩
        simp only [ob_some, b2_some, bc_ret, bcn_ret, gd_tt, gd_ff, gd_tf, gd_ft, ypk_true, ypk_false, yIf_true, yIf_false, semNil_ptr, fa_ptr, ld1_ptr, ext_tup, fd1_agg, un_not, bin_add, bin_sub, bin_mul, bin_eql, bin_neq, bin_lss, bin_leq, bin_gtr, bin_geq, Nat.zero_add, Nat.mul_one, hlt, hix, hcell, hcv, hd1, X.c3, X.A.c0, e1', List.getElem?_cons_zero, List.getElem?_cons_succ, hne, hadd, s2, c8, a1, a2, st4, hinc]
        exact r2
end
end Go.Proofs.YtomialandfplkaaDoor.Eva
namespace Go.Proofs.YtomialandfplkaaDoor.Eva
open Go.Xe
set_option linter.unusedSimpArgs false
def needC (k : Nat) : List Nat := if k < 6 then [plOff k] else if k < 22 then [18, plOff k] else [35, 36 + 17 * ((k - 22) / 16), plOff k]
def wantC (k : Nat) : List Nat := if k < 6 then [] else if k < 22 then [18] else [35, 36 + 17 * ((k - 22) / 16)]
theorem needC_want (k : Nat) : needC k = wantC k ++ [plOff k] := by
  unfold needC wantC
  split
  · rfl
  · split <;> rfl
theorem plOff_lt {k : Nat} (h : k < 278) : 12 ≤ plOff k ∧ plOff k < 308 := by
  unfold plOff; split
  · omega
  · split
    · omega
    · have := Nat.div_add_mod (k - 22) 16
      have := Nat.mod_lt (k - 22) (show 16 > 0 by omega)
      omega
theorem needC_lt {k : Nat} (h : k < 278) : ∀ c, c ∈ needC k → 12 ≤ c ∧ c < 308 := by
  intro c hc
  have := plOff_lt h
  unfold needC at hc
  split at hc
  · simp only [List.mem_cons, List.not_mem_nil, or_false] at hc; subst hc; exact this
  · split at hc
    · simp only [List.mem_cons, List.not_mem_nil, or_false] at hc
      rcases hc with rfl | rfl
      · omega
      · exact this
    · simp only [List.mem_cons, List.not_mem_nil, or_false] at hc
      rcases hc with rfl | rfl | rfl
      · omega
      · omega
      · exact this
theorem needC_len (k : Nat) : (needC k).length ≤ 3 := by unfold needC; split <;> (try split) <;> simp
def fillR (n i k : Nat) (s : S4) : S4 × Bool := if 0 < s.bl i (plOff k) then (s, true) else
  if (fillF n i (needC k) s []).2.2 = true then ((fillF n i (needC k) s []).1, true) else (⟨s.wd, (fillF n i (needC k) s []).1.b, s.nd, s.bl⟩, false)
theorem ybs_two {P : Program} {h : HW} {t e : TypeId} {z : Value} {y0 y1 : SV} (hu : P.underlying t = some (.slice e)) (hs : tySize P e = some 1) (hz : tyZero P e = some z) (hzl : (mkV z).cells.length = 1) (h0 : y0.cells = [y0]) (f0 : y0.flat = true) (h1 : y1.cells = [y1]) (f1 : y1.flat = true) :
    ybs P t 2 [0, 1] [y0, y1] h = some (.sl h.next 0 2 (some 2) 0, h.new (rowOb e [y0, y1])) := by
  obtain ⟨c, hc⟩ : ∃ c, (mkV z).cells = [c] := by
    match hm : (mkV z).cells, hzl with
    | [c], _ => exact ⟨c, rfl⟩
  unfold ybs semBuildSlice
  have q1 : (Nat.ble (2 * 1) 65536 && Nat.ble 1 1 && Nat.beq [c].length 1) = true := rfl
  have q2 : fillL (fun i => some (i * 1, 1)) (reps [c] 2) ([0, 1].zip [y0, y1]) = some [y0, y1] := by
    simp [reps, fillL, splice, h0, f0, h1, f1, show Nat.ble 1 1 = true from rfl, show Nat.ble 1 2 = true from rfl, show Nat.ble 2 2 = true from rfl]
  simp only [hu, hs, hz, hc, q1, cond_true, q2, newRow, force_eq]
  rfl
section
variable {lf : Nat} {h : HW} {T : TN} {n N : Nat} {now : Int} {us : Nat → Bool} {s : S4} {i : Nat}
theorem want_app {x7 : SV} {kn : Nat} {wcs : List Nat} (c : Nat) (hw : (x7 = .val (.slice none 0 0) ∧ wcs = []) ∨ ∃ kw m, x7 = .sl kw 0 wcs.length (some wcs.length) 0 ∧ h.mt kw = some m ∧ kw < h.next ∧ (∀ j, j < wcs.length → h.cell kw j = (ptrs kn i wcs)[j]?)) (hl : wcs.length ≤ 2) :
    ∃ h', ybs Tryd.prog 143 1 [0] [.ptr kn (i * 308 + c)] h = some (.sl h.next 0 1 (some 1) 0, h.new (rowOb eP [.ptr kn (i * 308 + c)])) ∧
      ybl Tryd.prog .append #[143, 143] [x7, .sl h.next 0 1 (some 1) 0] (h.new (rowOb eP [.ptr kn (i * 308 + c)])) = some (.sl (h.next + 1) 0 (wcs ++ [c]).length none 0, h') ∧ h'.next = h.next + 2 ∧
      (∀ j, j < (wcs ++ [c]).length → h'.cell (h.next + 1) j = (ptrs kn i (wcs ++ [c]))[j]?) ∧ Frm h h' (fun _ => False) := by
  obtain ⟨z, hz, hzl⟩ := appT_ptr.hz
  have hb := ybs_one (h := h) (y := .ptr kn (i * 308 + c)) appT_ptr.hu appT_ptr.hs hz hzl rfl rfl
  have hel := elems_row (h := h) (y := .ptr kn (i * 308 + c)) (e := eP)
  generalize ho : rowOb eP [.ptr kn (i * 308 + c)] = o at *
  have F1 := frm_new h o (fun _ => False)
  have n1 : (h.new o).next = h.next + 1 := new_next ..
  have e1 : ptrs kn i (wcs ++ [c]) = ptrs kn i wcs ++ [.ptr kn (i * 308 + c)] := by simp [ptrs]
  have hpl : (ptrs kn i wcs).length = wcs.length := by simp [ptrs]
  have fin : ∀ cells : List SV, cells = ptrs kn i (wcs ++ [c]) → ∃ h', (some (SV.sl (h.new o).next 0 (wcs.length + 1) none 0, (h.new o).new (looseOb eP 1 cells)) : Option (SV × HW)) = some (.sl (h.next + 1) 0 (wcs ++ [c]).length none 0, h') ∧ h'.next = h.next + 2 ∧
      (∀ j, j < (wcs ++ [c]).length → h'.cell (h.next + 1) j = (ptrs kn i (wcs ++ [c]))[j]?) ∧ Frm h h' (fun _ => False) := fun cells hc => by
    refine ⟨(h.new o).new (looseOb eP 1 cells), by rw [n1]; simp, by rw [new_next, n1], fun j _ => ?_, F1.trans (frm_new _ _ _)⟩
    rw [← n1, cell_new_same, looseOb_get, hc]
  rcases hw with ⟨rfl, rfl⟩ | ⟨kw, m, rfl, hm, hk, hc⟩
  · have := app_nil (P := Tryd.prog) (h := h.new o) (y := .sl h.next 0 1 (some 1) 0) appT_ptr hel rfl rfl (Nat.le_refl 1) (by omega) (by omega)
    obtain ⟨h', q1, q2⟩ := fin [.ptr kn (i * 308 + c)] (by simp [ptrs])
    exact ⟨h', hb, by rw [this]; exact q1, q2⟩
  · have hs : SameOb h (h.new o) kw := new_other h o (by omega)
    have hcs : (h.new o).cells kw 0 (wcs.length * 1) = some (ptrs kn i wcs) := cells_of (by rw [hpl, Nat.mul_one]) fun j hj => by
      rw [Nat.zero_add, hs.cell]; exact hc j (by omega)
    have := app_full (P := Tryd.prog) (h := h.new o) (y := .sl h.next 0 1 (some 1) 0) (lo := 0) appT_ptr ⟨m, by rw [hs.mt]; exact hm⟩ hcs hel rfl rfl (Nat.le_refl 1) (by omega) (by omega)
    obtain ⟨h', q1, q2⟩ := fin _ e1.symm
    exact ⟨h', hb, by rw [this]; exact q1, q2⟩
def FillOK (C : YC) : Prop := ∀ h T n N now us s i (k : Nat), TableAt h T n N s.wd s.b now us s.nd → MapAt n N s.wd s.nd s.bl → TabAt h → OldT h T → i < N → k < 278 →
  ∃ h', C (.fn 75) [.ptr T.kt 0, .ptr T.kn (i * 308), .int .i64 (k : Int)] h = some (.ret (.bool (fillR n i k s).2), h') ∧ TableAt h' T n N (fillR n i k s).1.wd (fillR n i k s).1.b now us (fillR n i k s).1.nd ∧
    MapAt n N (fillR n i k s).1.wd (fillR n i k s).1.nd (fillR n i k s).1.bl ∧ TabAt h' ∧ Frm h h' (fun j => j = T.ks ∨ j = T.kd ∨ j = T.kn)
theorem fill_ok {C : YC} (hlf : 1001 ≤ lf) (Pl : PlaceOK C) (Al : AllocOK C) (Bk : BackOK C) (A : TableAt h T n N s.wd s.b now us s.nd) (M : MapAt n N s.wd s.nd s.bl) (Tt : TabAt h) (O : OldT h T) (hi : i < N) {k : Nat} (hk : k < 278) :
    ∃ h', fs75 C lf (.ptr T.kt 0) (.ptr T.kn (i * 308)) (.int .i64 (k : Int)) h = some (.ret (.bool (fillR n i k s).2), h') ∧ TableAt h' T n N (fillR n i k s).1.wd (fillR n i k s).1.b now us (fillR n i k s).1.nd ∧
      MapAt n N (fillR n i k s).1.wd (fillR n i k s).1.nd (fillR n i k s).1.bl ∧ TabAt h' ∧ Frm h h' (fun j => j = T.ks ∨ j = T.kd ∨ j = T.kn) := by
  obtain ⟨p1, p2⟩ := plOff_lt hk
  have hbx := ybx_eq (e := 64) (x := .ptr T.kt 0) (h := h) rfl
  have hcc : (SV.ptr T.kt 0).cells = [.ptr T.kt 0] := rfl
  rw [hcc] at hbx
  generalize ho1 : rowOb 64 [.ptr T.kt 0] = o1 at *
  generalize hg1 : h.new o1 = h1 at *
  have n1 : h1.next = h.next + 1 := by rw [← hg1, new_next]
  have F1 : Frm h h1 (fun _ => False) := by rw [← hg1]; exact frm_new _ _ _
  have A1 := A.frm F1 fun _ e => e.elim
  have Tt1 : TabAt h1 := Tt.fr F1 O.g (fun e => e)
  have cv3 : h1.cell h.next 0 = some (.ptr T.kt 0) := by rw [← hg1, cell_new_same, ← ho1, rowOb_get]; rfl
  have hpl : ∀ h, C (.fn 76) [.ptr T.kn (i * 308), .int .i64 (k : Int)] h = some (.ret (.ptr T.kn (i * 308 + plOff k)), h) := fun h => Pl h T.kn (i * 308) k hk
  have hcell := A1.cn i (plOff k) hi p2
  rw [M.cell i _ hi p1 p2] at hcell
  have hfs : fs75 C lf (.ptr T.kt 0) (.ptr T.kn (i * 308)) (.int .i64 (k : Int)) h = q75_82 C lf (fun x1 x2 x3 x7 h => q75_54 C lf ff75 x1 x2 x3 x7 h) ff75 (some (.ptr T.kn (i * 308))) (some (.int .i64 (k : Int))) (some (.ptr h.next 0)) (some (.val (.slice none 0 0))) h1 := by
    unfold fs75 q75_89 q75_88
    simp only [ob_some, b2_some, hbx]
    rfl
  rw [hfs]
  by_cases hp : 0 < s.bl i (plOff k)
  · have hr : fillR n i k s = (s, true) := by unfold fillR; rw [if_pos hp]
    rw [hr]
    have hd : decide ((0 : Int) < (s.bl i (plOff k) : Int)) = true := decide_eq_true (by omega)
    refine ⟨h1, ?_, A1, M, Tt1, F1.weak fun _ e => e.elim⟩
    unfold q75_82 ff75
    simp only [ob_some, b2_some, bc_ret, bcn_ret, gd_tt, gd_ff, gd_tf, gd_ft, ypk_true, ypk_false, yIf_true, yIf_false, semNil_ptr, fa_ptr, ld1_ptr, ext_tup, fd1_agg, un_not, bin_add, bin_sub, bin_mul, bin_eql, bin_neq, bin_lss, bin_leq, bin_gtr, bin_geq, Nat.zero_add, Nat.mul_one, hpl, hcell, hd]
  have hd0 : decide ((0 : Int) < (s.bl i (plOff k) : Int)) = false := decide_eq_false (by omega)
  -- the list of what leads to the place
  obtain ⟨z, hz, hzl⟩ := appT_ptr.hz
  have want : ∃ x7 h2, q75_82 C lf (fun x1 x2 x3 x7 h => q75_54 C lf ff75 x1 x2 x3 x7 h) ff75 (some (.ptr T.kn (i * 308))) (some (.int .i64 (k : Int))) (some (.ptr h.next 0)) (some (.val (.slice none 0 0))) h1 =
      q75_54 C lf ff75 (some (.ptr T.kn (i * 308))) (some (.int .i64 (k : Int))) (some (.ptr h.next 0)) (some x7) h2 ∧ Frm h1 h2 (fun _ => False) ∧
      ((x7 = .val (.slice none 0 0) ∧ wantC k = []) ∨ ∃ kw m, x7 = .sl kw 0 (wantC k).length (some (wantC k).length) 0 ∧ h2.mt kw = some m ∧ kw < h2.next ∧ (∀ j, j < (wantC k).length → h2.cell kw j = (ptrs T.kn i (wantC k))[j]?)) := by
    by_cases k6 : k < 6
    · have d1 : decide ((22 : Int) ≤ (k : Int)) = false := decide_eq_false (by omega)
      have d2 : decide ((6 : Int) ≤ (k : Int)) = false := decide_eq_false (by omega)
      refine ⟨_, h1, ?_, Frm.refl _ _, .inl ⟨rfl, by unfold wantC; rw [if_pos k6]⟩⟩
      unfold q75_82
      simp only [ob_some, b2_some, bc_ret, bcn_ret, gd_tt, gd_ff, gd_tf, gd_ft, ypk_true, ypk_false, yIf_true, yIf_false, semNil_ptr, fa_ptr, ld1_ptr, ext_tup, fd1_agg, un_not, bin_add, bin_sub, bin_mul, bin_eql, bin_neq, bin_lss, bin_leq, bin_gtr, bin_geq, Nat.zero_add, Nat.mul_one, hpl, hcell, hd0, d1, d2]
    · by_cases k22 : k < 22
      · have d1 : decide ((22 : Int) ≤ (k : Int)) = false := decide_eq_false (by omega)
        have d2 : decide ((6 : Int) ≤ (k : Int)) = true := decide_eq_true (by omega)
        have hw : wantC k = [18] := by unfold wantC; rw [if_neg k6, if_pos k22]
        have hb := ybs_one (h := h1) (y := .ptr T.kn (i * 308 + 18)) appT_ptr.hu appT_ptr.hs hz hzl rfl rfl
        refine ⟨.sl h1.next 0 1 (some 1) 0, h1.new (rowOb eP [.ptr T.kn (i * 308 + 18)]), ?_, frm_new _ _ _, .inr ⟨h1.next, (rowOb eP [.ptr T.kn (i * 308 + 18)]).mt, by rw [hw]; rfl, by rw [mt_new, if_pos rfl], by rw [new_next]; omega, fun j hj => ?_⟩⟩
        · unfold q75_82
          simp only [ob_some, b2_some, bc_ret, bcn_ret, gd_tt, gd_ff, gd_tf, gd_ft, ypk_true, ypk_false, yIf_true, yIf_false, semNil_ptr, fa_ptr, ld1_ptr, ext_tup, fd1_agg, un_not, bin_add, bin_sub, bin_mul, bin_eql, bin_neq, bin_lss, bin_leq, bin_gtr, bin_geq, Nat.zero_add, Nat.mul_one, hpl, hcell, hd0, d1, d2, Nat.add_zero, hb]
        · rw [cell_new_same, rowOb_get, hw]; rfl
      · have d1 : decide ((22 : Int) ≤ (k : Int)) = true := decide_eq_true (by omega)
        have hw : wantC k = [35, 36 + 17 * ((k - 22) / 16)] := by unfold wantC; rw [if_neg k6, if_neg k22]
        have hs : IntKind.i64.wrap ((k : Int) - 22) = ((k - 22 : Nat) : Int) := by rw [wrap_i64 (by omega) (by omega)]; omega
        have hq : IntKind.i64.wrap (((k - 22 : Nat) : Int).tdiv 16) = (((k - 22) / 16 : Nat) : Int) := by
          rw [Int.tdiv_eq_ediv_of_nonneg (by omega), wrap_i64 (by omega) (by omega)]; rfl
        have hix := ixA_ptr (n := 16) (s := 17) (k := T.kn) (off := i * 308 + 36) (kd := .i64) (i := (((k - 22) / 16 : Nat) : Int)) (by omega) (by omega)
        rw [Int.toNat_natCast] at hix
        have ea : i * 308 + 36 + (k - 22) / 16 * 17 = i * 308 + (36 + 17 * ((k - 22) / 16)) := by omega
        rw [ea] at hix
        have hb := ybs_two (h := h1) (y0 := .ptr T.kn (i * 308 + 35)) (y1 := .ptr T.kn (i * 308 + (36 + 17 * ((k - 22) / 16)))) appT_ptr.hu appT_ptr.hs hz hzl rfl rfl rfl rfl
        refine ⟨.sl h1.next 0 2 (some 2) 0, h1.new (rowOb eP [.ptr T.kn (i * 308 + 35), .ptr T.kn (i * 308 + (36 + 17 * ((k - 22) / 16)))]), ?_, frm_new _ _ _, .inr ⟨h1.next, (rowOb eP [.ptr T.kn (i * 308 + 35), .ptr T.kn (i * 308 + (36 + 17 * ((k - 22) / 16)))]).mt, by rw [hw]; rfl, by rw [mt_new, if_pos rfl], by rw [new_next]; omega, fun j hj => ?_⟩⟩
        · unfold q75_82
          simp only [ob_some, b2_some, bc_ret, bcn_ret, gd_tt, gd_ff, gd_tf, gd_ft, ypk_true, ypk_false, yIf_true, yIf_false, semNil_ptr, fa_ptr, ld1_ptr, ext_tup, fd1_agg, un_not, bin_add, bin_sub, bin_mul, bin_eql, bin_neq, bin_lss, bin_leq, bin_gtr, bin_geq, Nat.zero_add, Nat.mul_one, hpl, hcell, hd0, d1, hs, bin_quo (show (16 : Int) ≠ 0 by omega), hq, hix, Nat.add_zero, hb]
        · rw [cell_new_same, rowOb_get, hw]; rfl
  obtain ⟨x7, h2, q1, F2, hw⟩ := want
  rw [q1]
  have hwl : (wantC k).length ≤ 2 := by unfold wantC; split <;> (try split) <;> simp
  -- the variable of what is taken
  have hz3 : tyZero Tryd.prog 143 = some (.slice none 0 0) := by kernel_rfl
  have al := yAl_eq (P := Tryd.prog) (e := 143) (h := h2) hz3
  have hzc : (mkV (.slice none 0 0)).cells = [.val (.slice none 0 0)] := rfl
  rw [hzc] at al
  generalize ho3 : rowOb 143 [.val (.slice none 0 0)] = o3 at *
  generalize hg3 : h2.new o3 = h3 at *
  have n3 : h3.next = h2.next + 1 := by rw [← hg3, new_next]
  have F3 : Frm h2 h3 (fun _ => False) := by rw [← hg3]; exact frm_new _ _ _
  have w8 : h3.wr h2.next 1 := by
    have := wr_new (h := h2) (o := o3) (by rw [← ho3]; rfl)
    rw [show o3.n = 1 by rw [← ho3]; rfl, hg3] at this
    exact this
  have c8 : h3.cell h2.next 0 = some (.val (.slice none 0 0)) := by rw [← hg3, cell_new_same, ← ho3, rowOb_get]; rfl
  have hw3 : (x7 = .val (.slice none 0 0) ∧ wantC k = []) ∨ ∃ kw m, x7 = .sl kw 0 (wantC k).length (some (wantC k).length) 0 ∧ h3.mt kw = some m ∧ kw < h3.next ∧ (∀ j, j < (wantC k).length → h3.cell kw j = (ptrs T.kn i (wantC k))[j]?) := by
    rcases hw with e | ⟨kw, m, e1, e2, e3, e4⟩
    · exact .inl e
    · have sk := F3.same kw e3 (fun e => e)
      exact .inr ⟨kw, m, e1, by rw [sk.mt]; exact e2, by omega, fun j hj => by rw [sk.cell]; exact e4 j hj⟩
  obtain ⟨h4, b1, b2, n4, b4, F4⟩ := want_app (plOff k) hw3 hwl
  rw [← needC_want] at b2 b4
  have F14 : Frm h1 h4 (fun _ => False) := (F2.trans F3).trans F4
  have F04 : Frm h h4 (fun _ => False) := F1.trans F14
  have nx2 := F2.next
  have keep : ∀ j, j < h3.next → SameOb h3 h4 j := fun j hj => F4.same j hj (fun e => e)
  have X : FlSt h h4 T n N now us s i h.next h2.next [] :=
    ⟨A.frm F04 fun _ e => e.elim, M, Tt.fr F04 O.g (fun e => e), F04.weak fun _ e => e.elim, by rw [(F14.same h.next (by omega) (fun e => e)).cell]; exact cv3, by omega, by omega,
      ⟨.val (.slice none 0 0), by rw [(keep h2.next (by omega)).cell]; exact c8, Sl.nil _ _ _, fun j hj => by cases hj⟩, wr_same w8 (keep _ (by omega)), by omega, by omega, by omega⟩
  have hnl := needC_len k
  obtain ⟨h5, X5, l5⟩ := fill_loop (lf := lf) (h0 := h) Al O hi (kx := h3.next + 1) (cs0 := needC k) (needC_lt hk) (by omega) ⟨by omega, by omega⟩ (.fn (.func 90) [] [.ptr h2.next 0, .ptr h.next 0]) ff75 (fun h => q75_1 C lf ff75 h)
    (needC k) 0 rfl (by omega) lf (by omega) h4 s [] X (by simp) (by omega) b4 (fun j hj => by rw [(keep h2.next (by omega)).cell, c8] at hj; cases hj)
  have hlx : lenE Tryd.prog 143 (.sl (h3.next + 1) 0 (needC k).length none 0) = some (.int .i64 ((needC k).length : Int)) := by
    simp [lenE, Tryd.underlying143]
  have pre : q75_54 C lf ff75 (some (.ptr T.kn (i * 308))) (some (.int .i64 (k : Int))) (some (.ptr h.next 0)) (some x7) h2 =
      lp (l75_2 C lf ff75 (fun h => q75_1 C lf ff75 h)) lf (some (.ptr h.next 0), some (.ptr h2.next 0), some (.fn (.func 90) [] [.ptr h2.next 0, .ptr h.next 0]), some (.sl (h3.next + 1) 0 (needC k).length none 0), some (.int .i64 ((needC k).length : Int)), some (.int .i64 ((0 : Nat) : Int))) h4 := by
    unfold q75_54 q75_53
    simp only [ob_some, b2_some, al]
    unfold q75_51 q75_50
    simp only [ob_some]
    unfold q75_47 q75_46 q75_45
    simp only [ob_some, bc_ret, b2_some, hpl, b1, b2, hlx]
    rfl
  rw [pre, l5]
  have tkn : Taken n i s (fillF n i (needC k) s []).2.1 (fillF n i (needC k) s []).1 := fillF_taken (needC k) s [] .nil (needC_lt hk)
  by_cases hb : (fillF n i (needC k) s []).2.2 = true
  · have hr : fillR n i k s = ((fillF n i (needC k) s []).1, true) := by unfold fillR; rw [if_neg hp, if_pos hb]
    rw [if_pos hb, hr]
    refine ⟨h5, ?_, X5.A, X5.M, X5.Tt, X5.F⟩
    unfold q75_1 ff75
    simp only [ob_some]
  · have hr : fillR n i k s = (⟨s.wd, (fillF n i (needC k) s []).1.b, s.nd, s.bl⟩, false) := by unfold fillR; rw [if_neg hp, if_neg hb]
    rw [if_neg hb, hr]
    have P := tkn.props hi M A.st.wlt
    have hfl := fillF_false (n := n) (i := i) (needC k) s [] (by simpa using hb)
    have hlt : (fillF n i (needC k) s []).2.1.length ≤ 1000 := by have := hfl.2; simp at this; omega
    obtain ⟨h6, c6, A6, M6, F6⟩ := Bk h h5 T n N now us _ i _ _ _ O hi X5 P.nd' (fun c hc => ⟨(P.was c hc).2.1, (P.was c hc).2.2.1, (P.was c hc).2.2.2.1⟩) hlt
    obtain ⟨u1, u2, u3, _⟩ := tkn.undo hi M A.st.wlt
    have u4 : (backF i (fillF n i (needC k) s []).2.1 (fillF n i (needC k) s []).1).b = (fillF n i (needC k) s []).1.b := (back_props (i := i) _ _ P.nd' P.wlt fun c h => (P.was c h).2.2.2.1).2.1
    rw [u1, u2, u4] at A6
    rw [u1, u2, u3] at M6
    refine ⟨h6, ?_, A6, M6, X5.Tt.fr F6 (Nat.lt_of_lt_of_le O.g X5.F.next) (fun e => by rcases e with e | e; exact O.ng.s e; exact O.ng.n e), X5.F.trans (F6.weak fun _ e => by rcases e with e | e; exact .inl e; exact .inr (.inr e))⟩
    show bc (C (.fn 90) ([] ++ [] ++ [.ptr h2.next 0, .ptr h.next 0]) h5) _ = _
    simp only [List.nil_append, c6, bc_ret]
    unfold ff75
    simp only [ob_some]
end
end Go.Proofs.YtomialandfplkaaDoor.Eva
namespace Go.Proofs.YtomialandfplkaaDoor.Eva
open Go.Xe
set_option linter.unusedSimpArgs false
section
variable {P : Program} {h : HW} {t : TypeId}
theorem ybl_min {ts : Array TypeId} {a b : Int} {k : IntKind} : ybl P .min ts [.int k a, .int k b] h = some (.int k (min a b), h) := by
  have e : (bif decide (b < a) then b else a) = min a b := by
    by_cases c : b < a
    · rw [decide_eq_true c, cond_true]; omega
    · rw [decide_eq_false c, cond_false]; omega
  show hx (withX h.x0 (minE (.int k a) (.int k b))) = _
  simp only [minE, e]
  rfl
theorem ybl_max {ts : Array TypeId} {a b : Int} {k : IntKind} : ybl P .max ts [.int k a, .int k b] h = some (.int k (max a b), h) := by
  have e : (bif decide (b > a) then b else a) = max a b := by
    by_cases c : b > a
    · rw [decide_eq_true c, cond_true]; omega
    · rw [decide_eq_false c, cond_false]; omega
  show hx (withX h.x0 (maxE (.int k a) (.int k b))) = _
  simp only [maxE, e]
  rfl
theorem bytes_mid {e s lo hi : Nat} {k1 k2 : IntKind} {x : SV} {l : List Nat} (hu : P.underlying t = some (.slice e)) (hs : tySize P e = some s) (h1 : s = 1) (B : Bytes h x l) (hc : CapOK x) (hl : lo < hi) (hh : hi ≤ l.length) :
    ∃ x', semSlice P t x (some (.int k1 (lo : Int))) (some (.int k2 (hi : Int))) = some x' ∧ Bytes h x' ((l.drop lo).take (hi - lo)) ∧ rowOf x' = rowOf x := by
  subst h1
  rcases B.2 with ⟨_, rfl⟩ | ⟨kb, ob, cap, lo', m, rfl, hm, hcs⟩
  · simp at hh; omega
  · have q1 : natOf (.int k1 (lo : Int)) = some lo := rfl
    have q2 : natOf (.int k2 (hi : Int)) = some hi := rfl
    have hlen : ((l.drop lo).take (hi - lo)).length = hi - lo := by simp; omega
    have hb : ∀ off', off' = ob + lo → ∀ cap'' lo'', Bytes h (.sl kb off' (hi - lo) cap'' lo'') ((l.drop lo).take (hi - lo)) := fun off' e cap'' lo'' => by
      subst e
      refine ⟨fun c hc => B.1 c (List.mem_of_mem_drop (List.mem_of_mem_take hc)), .inr ⟨kb, ob + lo, cap'', lo'', m, by rw [hlen], hm, fun j hj => ?_⟩⟩
      rw [hlen] at hj
      rw [Nat.add_assoc, hcs (lo + j) (by omega)]
      congr 3
      simp [List.getD, List.getElem?_take, hj, List.getElem?_drop]
    unfold semSlice
    cases cap with
    | none =>
      have h3 : sliceB l.length l.length (some (.int k1 (lo : Int))) (some (.int k2 (hi : Int))) = some (lo, hi) := by
        simp only [sliceB, q1, q2]
        have : (Nat.ble hi l.length && Nat.ble lo hi) = true := by simp [Nat.ble_eq_true_of_le hh, Nat.ble_eq_true_of_le (Nat.le_of_lt hl)]
        simp only [this, cond_true]
      have b1 : Nat.blt lo l.length = true := by rw [Nat.blt_eq]; omega
      simp only [hu, hs, h3, slAt, force_eq, Nat.ble_eq_true_of_le hh, cond_true, b1, Nat.mul_one]
      exact ⟨_, rfl, hb _ rfl _ _, rfl⟩
    | some c =>
      have hc : l.length ≤ c := hc
      have h3 : sliceB l.length c (some (.int k1 (lo : Int))) (some (.int k2 (hi : Int))) = some (lo, hi) := by
        simp only [sliceB, q1, q2]
        have : (Nat.ble hi c && Nat.ble lo hi) = true := by simp [Nat.ble_eq_true_of_le (Nat.le_trans hh hc), Nat.ble_eq_true_of_le (Nat.le_of_lt hl)]
        simp only [this, cond_true]
      have b1 : Nat.beq (c - lo) 0 = false := by
        cases hb : Nat.beq (c - lo) 0 with
        | false => rfl
        | true => exact absurd (Nat.eq_of_beq_eq_true hb) (by omega)
      simp only [hu, hs, h3, slAt, force_eq, b1, cond_false, Nat.mul_one]
      exact ⟨_, rfl, hb _ rfl _ _, rfl⟩
end
def writeF (n i off : Nat) (l : List Nat) : Nat → Nat → S4 → S4 × Nat
  | 0, done, s => (s, done)
  | f + 1, done, s => if done < l.length then
      (if (fillR n i ((off + done) / 64) s).2 = true then
        writeF n i off l f (done + min (64 - (off + done) % 64) (l.length - done)) ⟨(fillR n i ((off + done) / 64) s).1.wd,
          over (fillR n i ((off + done) / 64) s).1.b (((fillR n i ((off + done) / 64) s).1.bl i (plOff ((off + done) / 64)) - 1) * 64 + (off + done) % 64) ((l.drop done).take (min (64 - (off + done) % 64) (l.length - done))),
          (fillR n i ((off + done) / 64) s).1.nd, (fillR n i ((off + done) / 64) s).1.bl⟩
      else ((fillR n i ((off + done) / 64) s).1, done)) else (s, done)
theorem OldT.mono {h h' : HW} {T : TN} (O : OldT h T) (hn : h.next ≤ h'.next) : OldT h' T := ⟨Nat.lt_of_lt_of_le O.t hn, Nat.lt_of_lt_of_le O.s hn, Nat.lt_of_lt_of_le O.d hn, Nat.lt_of_lt_of_le O.n hn, Nat.lt_of_lt_of_le O.g hn, O.ng⟩
def apartT (T : TN) (x : SV) : Prop := ∀ j, rowOf x = some j → j ≠ T.kt ∧ j ≠ T.ks ∧ j ≠ T.kd ∧ j ≠ T.kn
theorem fillR_pos {n i k : Nat} {s : S4} (hp : (fillR n i k s).2 = true) : 0 < (fillR n i k s).1.bl i (plOff k) := by
  unfold fillR at hp ⊢
  by_cases h1 : 0 < s.bl i (plOff k)
  · rw [if_pos h1]; exact h1
  · rw [if_neg h1] at hp ⊢
    by_cases h2 : (fillF n i (needC k) s []).2.2 = true
    · rw [if_pos h2]
      exact (fillF_true (needC k) s [] h2).2 _ (by rw [needC_want]; simp)
    · rw [if_neg h2] at hp; cases hp
section
variable {lf : Nat} {h : HW} {T : TN} {n N : Nat} {now : Int} {us : Nat → Bool} {s : S4} {i : Nat}
theorem write_loop {C : YC} (Pl : PlaceOK C) (Fi : FillOK C) (Wr : WriteOK C) (hi : i < N) {off : Nat} {x : SV} {l : List Nat} (hcap : CapOK x) (hap : apartT T x) (hoff : off + l.length ≤ 17792) (e1 : K4) :
    ∀ (g done : Nat), l.length - done ≤ g → done ≤ l.length → ∀ f, g < f → ∀ h s, TableAt h T n N s.wd s.b now us s.nd → MapAt n N s.wd s.nd s.bl → TabAt h → OldT h T → Bytes h x l → (∀ j, rowOf x = some j → j < h.next) →
    ∃ h', lp (l38_23 C lf e1) f (some (.ptr T.kt 0), some (.int .i64 (off : Int)), some x, some (.ptr T.kn (i * 308)), some (.int .i64 (done : Int))) h =
        e1 (some (.ptr T.kt 0)) (some (.int .i64 (off : Int))) (some (.ptr T.kn (i * 308))) (some (.int .i64 ((writeF n i off l g done s).2 : Int))) h' ∧
      TableAt h' T n N (writeF n i off l g done s).1.wd (writeF n i off l g done s).1.b now us (writeF n i off l g done s).1.nd ∧ MapAt n N (writeF n i off l g done s).1.wd (writeF n i off l g done s).1.nd (writeF n i off l g done s).1.bl ∧
      TabAt h' ∧ Frm h h' (fun j => j = T.ks ∨ j = T.kd ∨ j = T.kn) := by
  intro g
  induction g with
  | zero =>
    intro done hg hd f hf h s A M Tt O B hx
    obtain ⟨f, rfl⟩ : ∃ g, f = g + 1 := ⟨f - 1, by omega⟩
    have hlen := len_bytes (P := Tryd.prog) Tryd.underlying24 B
    have hlt : decide ((done : Int) < (l.length : Int)) = false := decide_eq_false (by omega)
    refine ⟨h, ?_, A, M, Tt, Frm.refl _ _⟩
    rw [lp_succ]
    unfold l38_23 q38_63
    simp only [ob_some, b2_some, bc_ret, bcn_ret, gd_tt, gd_ff, gd_tf, gd_ft, ypk_true, ypk_false, yIf_true, yIf_false, semNil_ptr, fa_ptr, ld1_ptr, ext_tup, fd1_agg, un_not, bin_add, bin_sub, bin_mul, bin_eql, bin_neq, bin_lss, bin_leq, bin_gtr, bin_geq, Nat.zero_add, Nat.mul_one, hlen, hlt]
    rfl
  | succ g ih =>
    intro done hg hd f hf h s A M Tt O B hx
    obtain ⟨f, rfl⟩ : ∃ g, f = g + 1 := ⟨f - 1, by omega⟩
    have hlen := fun (h : HW) (B : Bytes h x l) => len_bytes (P := Tryd.prog) Tryd.underlying24 B
    rw [lp_succ]
    show ∃ h', q38_63 C lf (fun x0 x2 x3 x10 x12 h => lp (l38_23 C lf e1) f (x0, x2, x3, x10, x12) h) e1 (some (.ptr T.kt 0)) (some (.int .i64 (off : Int))) (some x) (some (.ptr T.kn (i * 308))) (some (.int .i64 (done : Int))) h = _ ∧ _
    unfold q38_63
    by_cases hdl : done < l.length
    · have hlt : decide ((done : Int) < (l.length : Int)) = true := decide_eq_true (by omega)
      have hadd : IntKind.i64.wrap ((off : Int) + (done : Int)) = ((off + done : Nat) : Int) := by rw [wrap_i64 (by omega) (by omega)]; omega
      have hq : IntKind.i64.wrap (((off + done : Nat) : Int).tdiv 64) = (((off + done) / 64 : Nat) : Int) := by
        rw [Int.tdiv_eq_ediv_of_nonneg (by omega), wrap_i64 (by omega) (by omega)]; rfl
      have hr : ((off + done : Nat) : Int).tmod 64 = (((off + done) % 64 : Nat) : Int) := by
        rw [Int.tmod_eq_emod_of_nonneg (by omega)]; rfl
      have hk : (off + done) / 64 < 278 := by omega
      obtain ⟨h1, c1, A1, M1, Tt1, F1⟩ := Fi h T n N now us s i ((off + done) / 64) A M Tt O hi hk
      have hw : writeF n i off l (g + 1) done s = if (fillR n i ((off + done) / 64) s).2 = true then
          writeF n i off l g (done + min (64 - (off + done) % 64) (l.length - done)) ⟨(fillR n i ((off + done) / 64) s).1.wd,
            over (fillR n i ((off + done) / 64) s).1.b (((fillR n i ((off + done) / 64) s).1.bl i (plOff ((off + done) / 64)) - 1) * 64 + (off + done) % 64) ((l.drop done).take (min (64 - (off + done) % 64) (l.length - done))),
            (fillR n i ((off + done) / 64) s).1.nd, (fillR n i ((off + done) / 64) s).1.bl⟩
          else ((fillR n i ((off + done) / 64) s).1, done) := by
        show (if done < l.length then _ else _) = _
        rw [if_pos hdl]
      rw [hw]
      have hpos := fillR_pos (n := n) (i := i) (k := (off + done) / 64) (s := s)
      generalize hfr : fillR n i ((off + done) / 64) s = fr at *
      generalize hkk : (off + done) / 64 = k at *
      generalize haa : (off + done) % 64 = a at *
      have ha : a < 64 := by omega
      by_cases hb : fr.2 = true
      · rw [hb] at c1
        rw [if_pos hb]
        have hpos := hpos hb
        obtain ⟨p1, p2⟩ := plOff_lt hk
        generalize hm : min (64 - a) (l.length - done) = m at *
        have hm1 : 1 ≤ m := by omega
        have hm2 : m ≤ 64 - a := by omega
        have hm3 : done + m ≤ l.length := by omega
        have B1 : Bytes h1 x l := B.frame fun kb ob len cap lo e => F1.same kb (hx kb (by rw [e]; rfl)) (fun e2 => by have := hap kb (by rw [e]; rfl); omega)
        have hs64 : IntKind.i64.wrap (64 - (a : Int)) = ((64 - a : Nat) : Int) := by rw [wrap_i64 (by omega) (by omega)]; omega
        have hsl : IntKind.i64.wrap ((l.length : Int) - (done : Int)) = ((l.length - done : Nat) : Int) := by rw [wrap_i64 (by omega) (by omega)]; omega
        have hmin : min ((64 - a : Nat) : Int) ((l.length - done : Nat) : Int) = (m : Int) := by omega
        have hdm : IntKind.i64.wrap ((done : Int) + (m : Int)) = ((done + m : Nat) : Int) := by rw [wrap_i64 (by omega) (by omega)]; omega
        obtain ⟨x', q1, q2, q3⟩ := bytes_mid (P := Tryd.prog) (t := 24) (lo := done) (hi := done + m) (k1 := .i64) (k2 := .i64) Tryd.underlying24 (s := 1) (by kernel_rfl) rfl B1 hcap (by omega) hm3
        rw [Nat.add_sub_cancel_left] at q2
        have hpl : C (.fn 76) [.ptr T.kn (i * 308), .int .i64 (k : Int)] h1 = some (.ret (.ptr T.kn (i * 308 + plOff k)), h1) := Pl h1 T.kn (i * 308) k hk
        have hcell := A1.cn i (plOff k) hi p2
        rw [M1.cell i _ hi p1 p2] at hcell
        have hle := M1.le i (plOff k)
        have hn2 := A1.st.n2
        have hs1 : IntKind.i64.wrap ((fr.1.bl i (plOff k) : Int) - 1) = ((fr.1.bl i (plOff k) - 1 : Nat) : Int) := by rw [wrap_i64 (by omega) (by omega)]; omega
        have hon := M1.on i (plOff k) hi p1 p2 hpos
        have hlen2 : ((l.drop done).take m).length = m := by simp; omega
        have hnb : ¬ badW n fr.1.wd ((fr.1.bl i (plOff k) - 1 : Nat) : Int) (a : Int) ((l.drop done).take m) := by
          have hin : inUse n fr.1.wd ((fr.1.bl i (plOff k) - 1 : Nat) : Int) = true := by
            simp only [inUse, Int.toNat_natCast, hon, Bool.and_true, Bool.and_eq_true, decide_eq_true_eq]; omega
          unfold badW
          rw [hin, hlen2]
          simp only [Bool.true_eq_false, false_or]
          omega
        obtain ⟨h2, c2, S2, n2, F2⟩ := (Wr h1 T.ks T.kd n fr.1.wd fr.1.b ((fr.1.bl i (plOff k) - 1 : Nat) : Int) (a : Int) x' ((l.drop done).take m) A1.st q2 (by omega) (by omega) (by omega) (by omega) (by omega)).2 hnb
        rw [Int.toNat_natCast, Int.toNat_natCast] at S2
        have A2 := A1.store S2 F2.next (F2.same _ A1.lt (fun e => A1.d2 e)) (F2.same _ A1.ln (fun e => A1.d5 e))
        have F12 : Frm h h2 (fun j => j = T.ks ∨ j = T.kd ∨ j = T.kn) := F1.trans (F2.weak fun _ e => .inr (.inl e))
        have hck : ∀ r, ck (chkH [(3, adrO (some (SV.ptr T.kt 0)))] h1 h1 [3]) r = r := fun r => ck_one rfl A1.lt (wr_mt A1.wt) rfl
        obtain ⟨h3, r1, r2, r3, r4, r5⟩ := ih (done + m) (by omega) hm3 f (by omega) h2 ⟨fr.1.wd, over fr.1.b ((fr.1.bl i (plOff k) - 1) * 64 + a) ((l.drop done).take m), fr.1.nd, fr.1.bl⟩ A2 M1 (Tt1.fr F2 (Nat.lt_of_lt_of_le O.g F1.next) (fun e => O.ng.d e)) (O.mono F12.next)
          (B1.frame fun kb ob len cap lo e => F2.same kb (Nat.lt_of_lt_of_le (hx kb (by rw [e]; rfl)) F1.next) (fun e2 => by have := hap kb (by rw [e]; rfl); omega)) (fun j hj => Nat.lt_of_lt_of_le (hx j hj) F12.next)
        refine ⟨h3, ?_, r2, r3, r4, F12.trans r5⟩
        simp only [ob_some, b2_some, bc_ret, bcn_ret, gd_tt, gd_ff, gd_tf, gd_ft, ypk_true, ypk_false, yIf_true, yIf_false, semNil_ptr, fa_ptr, ld1_ptr, ext_tup, fd1_agg, un_not, bin_add, bin_sub, bin_mul, bin_eql, bin_neq, bin_lss, bin_leq, bin_gtr, bin_geq, Nat.zero_add, Nat.mul_one, hlen h B, hlt, hadd, bin_quo (show (64 : Int) ≠ 0 by omega), hq, bin_rem (show (64 : Int) ≠ 0 by omega), hr, c1, Bool.not_true, hs64, hlen h1 B1, hsl, ybl_min, hmin, hdm, q1, A1.c0, hpl, hck, hcell, hs1, c2]
        exact r1
      · have hb' : fr.2 = false := by simpa using hb
        rw [hb'] at c1
        rw [if_neg hb]
        refine ⟨h1, ?_, A1, M1, Tt1, F1⟩
        simp only [ob_some, b2_some, bc_ret, bcn_ret, gd_tt, gd_ff, gd_tf, gd_ft, ypk_true, ypk_false, yIf_true, yIf_false, semNil_ptr, fa_ptr, ld1_ptr, ext_tup, fd1_agg, un_not, bin_add, bin_sub, bin_mul, bin_eql, bin_neq, bin_lss, bin_leq, bin_gtr, bin_geq, Nat.zero_add, Nat.mul_one, hlen h B, hlt, hadd, bin_quo (show (64 : Int) ≠ 0 by omega), hq, bin_rem (show (64 : Int) ≠ 0 by omega), hr, c1, Bool.not_false]
    · have hlt : decide ((done : Int) < (l.length : Int)) = false := decide_eq_false (by omega)
      have hw : writeF n i off l (g + 1) done s = (s, done) := by
        show (if done < l.length then _ else _) = _
        rw [if_neg hdl]
      rw [hw]
      refine ⟨h, ?_, A, M, Tt, Frm.refl _ _⟩
      simp only [ob_some, b2_some, bc_ret, bcn_ret, gd_tt, gd_ff, gd_tf, gd_ft, ypk_true, ypk_false, yIf_true, yIf_false, semNil_ptr, fa_ptr, ld1_ptr, ext_tup, fd1_agg, un_not, bin_add, bin_sub, bin_mul, bin_eql, bin_neq, bin_lss, bin_leq, bin_gtr, bin_geq, Nat.zero_add, Nat.mul_one, hlen h B, hlt]
end
end Go.Proofs.YtomialandfplkaaDoor.Eva
namespace Go.Proofs.YtomialandfplkaaDoor.Eva
open Go.Xe
set_option linter.unusedSimpArgs false
def cutL (off : Nat) (l : List Nat) : List Nat := l.take (min l.length (17792 - off))
def wrF (n i off : Nat) (l : List Nat) (s : S4) : S4 × Nat := writeF n i off (cutL off l) (cutL off l).length 0 s
def grown (nd : Nat → Nat → SV) (i sz : Nat) (now : Int) : Nat → Nat → SV := upd2 (upd2 (upd2 nd i 5 (.int .i64 (sz : Int))) i 9 (.int .i64 now)) i 10 (.int .i64 now)
theorem MapAt.grown {n N : Nat} {wd : Nat → Nat} {nd : Nat → Nat → SV} {bl : Nat → Nat → Nat} (M : MapAt n N wd nd bl) (i sz : Nat) (now : Int) : MapAt n N wd (grown nd i sz now) bl :=
  ((M.cellOff (by omega)).cellOff (by omega)).cellOff (by omega)
section
variable {lf : Nat} {h : HW} {T : TN} {n N : Nat} {now : Int} {us : Nat → Bool} {s : S4} {i : Nat}
theorem inoB_yes (hi : i < N) (hu : us i = true) : inoB N us ((i + 1 : Nat) : Int) = true := by
  have h1 : decide ((1 : Int) ≤ ((i + 1 : Nat) : Int)) = true := decide_eq_true (by omega)
  have h2 : decide (((i + 1 : Nat) : Int) ≤ (N : Int)) = true := decide_eq_true (by omega)
  have e : ((i + 1 : Nat) : Int).toNat - 1 = i := by omega
  simp only [inoB, h1, h2, Bool.true_and, e, hu]
theorem fillR_low {k i' c : Nat} (hi : i < N) (M : MapAt n N s.wd s.nd s.bl) (hw : ∀ j, s.wd j < 2 ^ 64) (hk : k < 278) (hc : c < 12) : (fillR n i k s).1.nd i' c = s.nd i' c := by
  unfold fillR
  by_cases h1 : 0 < s.bl i (plOff k)
  · rw [if_pos h1]
  · rw [if_neg h1]
    by_cases h2 : (fillF n i (needC k) s []).2.2 = true
    · rw [if_pos h2]
      have t : Taken n i s (fillF n i (needC k) s []).2.1 (fillF n i (needC k) s []).1 := fillF_taken (needC k) s [] .nil (needC_lt hk)
      have P := t.props hi M hw
      exact P.outn i' c (.inr fun e => by have := (P.was c e).2.1; omega)
    · rw [if_neg h2]
structure Well (n N : Nat) (s : S4) : Prop where
  M : MapAt n N s.wd s.nd s.bl
  w : ∀ j, s.wd j < 2 ^ 64
theorem fillR_well {k : Nat} (W : Well n N s) (hi : i < N) (hk : k < 278) : Well n N (fillR n i k s).1 := by
  unfold fillR
  by_cases h1 : 0 < s.bl i (plOff k)
  · rw [if_pos h1]; exact W
  · rw [if_neg h1]
    by_cases h2 : (fillF n i (needC k) s []).2.2 = true
    · rw [if_pos h2]
      have t : Taken n i s (fillF n i (needC k) s []).2.1 (fillF n i (needC k) s []).1 := fillF_taken (needC k) s [] .nil (needC_lt hk)
      have P := t.props hi W.M W.w
      exact ⟨P.M, P.wlt⟩
    · rw [if_neg h2]; exact ⟨W.M, W.w⟩
theorem writeF_low {off : Nat} {l : List Nat} (hoff : off + l.length ≤ 17792) {i' c : Nat} (hi : i < N) (hc : c < 12) : ∀ (g done : Nat) (s : S4), done ≤ l.length → Well n N s → (writeF n i off l g done s).1.nd i' c = s.nd i' c ∧ done ≤ (writeF n i off l g done s).2 ∧ (writeF n i off l g done s).2 ≤ l.length ∧ Well n N (writeF n i off l g done s).1
  | 0, done, s, hd, W => ⟨rfl, Nat.le_refl _, hd, W⟩
  | g + 1, done, s, hd, W => by
    unfold writeF
    by_cases h1 : done < l.length
    · rw [if_pos h1]
      have hk : (off + done) / 64 < 278 := by omega
      have e1 := fillR_low (i := i) (i' := i') (c := c) hi W.M W.w hk hc
      have W1 := fillR_well (i := i) W hi hk
      by_cases h2 : (fillR n i ((off + done) / 64) s).2 = true
      · rw [if_pos h2]
        obtain ⟨a1, a2, a3, a4⟩ := writeF_low hoff (i' := i') hi hc g (done + min (64 - (off + done) % 64) (l.length - done)) ⟨(fillR n i ((off + done) / 64) s).1.wd,
          over (fillR n i ((off + done) / 64) s).1.b (((fillR n i ((off + done) / 64) s).1.bl i (plOff ((off + done) / 64)) - 1) * 64 + (off + done) % 64) ((l.drop done).take (min (64 - (off + done) % 64) (l.length - done))),
          (fillR n i ((off + done) / 64) s).1.nd, (fillR n i ((off + done) / 64) s).1.bl⟩ (by omega) ⟨W1.M, W1.w⟩
        exact ⟨a1.trans e1, by omega, a3, a4⟩
      · rw [if_neg h2]
        exact ⟨e1, Nat.le_refl _, hd, W1⟩
    · rw [if_neg h1]
      exact ⟨rfl, Nat.le_refl _, hd, W⟩
def TWriteOK (C : YC) : Prop := ∀ h T n N now us s i (off : Int) x l (sz : Nat), TableAt h T n N s.wd s.b now us s.nd → MapAt n N s.wd s.nd s.bl → TabAt h → OldT h T → i < N → us i = true → s.nd i 5 = .int .i64 (sz : Int) → sz ≤ 17792 → Bytes h x l → CapOK x → apartT T x →
  (∀ j, rowOf x = some j → j < h.next) → l.length ≤ 140737488351232 → -9223372036854775808 ≤ off → off < 9223372036854775808 →
  (off < 0 → C (.fn 38) [.ptr T.kt 0, .int .i64 ((i + 1 : Nat) : Int), .int .i64 off, x] h = some (.ret (.tup [.int .i64 0, .int .i64 22]), h)) ∧
  (0 ≤ off → l = [] → C (.fn 38) [.ptr T.kt 0, .int .i64 ((i + 1 : Nat) : Int), .int .i64 off, x] h = some (.ret (.tup [.int .i64 0, .int .i64 0]), h)) ∧
  (l ≠ [] → 17792 ≤ off → C (.fn 38) [.ptr T.kt 0, .int .i64 ((i + 1 : Nat) : Int), .int .i64 off, x] h = some (.ret (.tup [.int .i64 0, .int .i64 27]), h)) ∧
  (l ≠ [] → 0 ≤ off → off < 17792 → ∃ h', Frm h h' (fun j => j = T.ks ∨ j = T.kd ∨ j = T.kn) ∧ TabAt h' ∧
    ((wrF n i off.toNat l s).2 = 0 → C (.fn 38) [.ptr T.kt 0, .int .i64 ((i + 1 : Nat) : Int), .int .i64 off, x] h = some (.ret (.tup [.int .i64 0, .int .i64 28]), h') ∧
      TableAt h' T n N (wrF n i off.toNat l s).1.wd (wrF n i off.toNat l s).1.b now us (wrF n i off.toNat l s).1.nd ∧ MapAt n N (wrF n i off.toNat l s).1.wd (wrF n i off.toNat l s).1.nd (wrF n i off.toNat l s).1.bl) ∧
    ((wrF n i off.toNat l s).2 ≠ 0 → C (.fn 38) [.ptr T.kt 0, .int .i64 ((i + 1 : Nat) : Int), .int .i64 off, x] h = some (.ret (.tup [.int .i64 ((wrF n i off.toNat l s).2 : Int), .int .i64 0]), h') ∧
      TableAt h' T n N (wrF n i off.toNat l s).1.wd (wrF n i off.toNat l s).1.b now us (grown (wrF n i off.toNat l s).1.nd i (max sz (off.toNat + (wrF n i off.toNat l s).2)) now) ∧
      MapAt n N (wrF n i off.toNat l s).1.wd (grown (wrF n i off.toNat l s).1.nd i (max sz (off.toNat + (wrF n i off.toNat l s).2)) now) (wrF n i off.toNat l s).1.bl))
theorem twrite_ok {C : YC} (hlf : 20000 ≤ lf) (Ge : GetOK C) (Pl : PlaceOK C) (Fi : FillOK C) (Wr : WriteOK C) (To : TouchOK C) {off : Int} {x : SV} {l : List Nat} {sz : Nat} (A : TableAt h T n N s.wd s.b now us s.nd) (M : MapAt n N s.wd s.nd s.bl) (Tt : TabAt h) (O : OldT h T) (hi : i < N) (hu : us i = true) (hsz : s.nd i 5 = .int .i64 (sz : Int)) (hsz2 : sz ≤ 17792) (B : Bytes h x l) (hcap : CapOK x) (hap : apartT T x)
    (hx : ∀ j, rowOf x = some j → j < h.next) (hll : l.length ≤ 140737488351232) (o1 : -9223372036854775808 ≤ off) (o2 : off < 9223372036854775808) :
    (off < 0 → fs38 C lf (.ptr T.kt 0) (.int .i64 ((i + 1 : Nat) : Int)) (.int .i64 off) x h = some (.ret (.tup [.int .i64 0, .int .i64 22]), h)) ∧
    (0 ≤ off → l = [] → fs38 C lf (.ptr T.kt 0) (.int .i64 ((i + 1 : Nat) : Int)) (.int .i64 off) x h = some (.ret (.tup [.int .i64 0, .int .i64 0]), h)) ∧
    (l ≠ [] → 17792 ≤ off → fs38 C lf (.ptr T.kt 0) (.int .i64 ((i + 1 : Nat) : Int)) (.int .i64 off) x h = some (.ret (.tup [.int .i64 0, .int .i64 27]), h)) ∧
    (l ≠ [] → 0 ≤ off → off < 17792 → ∃ h', Frm h h' (fun j => j = T.ks ∨ j = T.kd ∨ j = T.kn) ∧ TabAt h' ∧
      ((wrF n i off.toNat l s).2 = 0 → fs38 C lf (.ptr T.kt 0) (.int .i64 ((i + 1 : Nat) : Int)) (.int .i64 off) x h = some (.ret (.tup [.int .i64 0, .int .i64 28]), h') ∧
        TableAt h' T n N (wrF n i off.toNat l s).1.wd (wrF n i off.toNat l s).1.b now us (wrF n i off.toNat l s).1.nd ∧ MapAt n N (wrF n i off.toNat l s).1.wd (wrF n i off.toNat l s).1.nd (wrF n i off.toNat l s).1.bl) ∧
      ((wrF n i off.toNat l s).2 ≠ 0 → fs38 C lf (.ptr T.kt 0) (.int .i64 ((i + 1 : Nat) : Int)) (.int .i64 off) x h = some (.ret (.tup [.int .i64 ((wrF n i off.toNat l s).2 : Int), .int .i64 0]), h') ∧
        TableAt h' T n N (wrF n i off.toNat l s).1.wd (wrF n i off.toNat l s).1.b now us (grown (wrF n i off.toNat l s).1.nd i (max sz (off.toNat + (wrF n i off.toNat l s).2)) now) ∧
        MapAt n N (wrF n i off.toNat l s).1.wd (grown (wrF n i off.toNat l s).1.nd i (max sz (off.toNat + (wrF n i off.toNat l s).2)) now) (wrF n i off.toNat l s).1.bl)) := by
  have hN := A.N2
  have hg := Ge h T n N s.wd s.b now us s.nd ((i + 1 : Nat) : Int) A (by omega) (by omega)
  rw [inoB_yes hi hu, if_pos rfl, show ((i + 1 : Nat) : Int).toNat - 1 = i by omega] at hg
  have hne : decide ((0 : Int) ≠ 0) = false := rfl
  have hlen := fun (h : HW) (x : SV) (l : List Nat) (B : Bytes h x l) => len_bytes (P := Tryd.prog) Tryd.underlying24 B
  have pre : fs38 C lf (.ptr T.kt 0) (.int .i64 ((i + 1 : Nat) : Int)) (.int .i64 off) x h = q38_84 C lf ff38 (some (.ptr T.kt 0)) (some (.int .i64 off)) (some x) (some (.ptr T.kn (i * 308))) h := by
    unfold fs38 q38_98 q38_97 q38_96 q38_95
    simp only [ob_some, bc_ret, hg, ext_tup, List.getElem?_cons_zero, List.getElem?_cons_succ]
    unfold q38_89 q38_88
    simp only [ob_some, bin_neq, hne, yIf_false]
  rw [pre]
  refine ⟨fun hb => ?_, fun hb hl => ?_, fun hl hb => ?_, fun hl b1 b2 => ?_⟩
  · unfold q38_84 q38_83 ff38
    simp only [ob_some, b2_some, bc_ret, bcn_ret, gd_tt, gd_ff, gd_tf, gd_ft, ypk_true, ypk_false, yIf_true, yIf_false, semNil_ptr, fa_ptr, ld1_ptr, ext_tup, fd1_agg, un_not, bin_add, bin_sub, bin_mul, bin_eql, bin_neq, bin_lss, bin_leq, bin_gtr, bin_geq, Nat.zero_add, Nat.mul_one, decide_eq_true hb]
  · have d1 : decide (off < 0) = false := decide_eq_false (by omega)
    have d2 : decide ((l.length : Int) = 0) = true := decide_eq_true (by rw [hl]; rfl)
    unfold q38_84 q38_83 ff38
    simp only [ob_some, b2_some, bc_ret, bcn_ret, gd_tt, gd_ff, gd_tf, gd_ft, ypk_true, ypk_false, yIf_true, yIf_false, semNil_ptr, fa_ptr, ld1_ptr, ext_tup, fd1_agg, un_not, bin_add, bin_sub, bin_mul, bin_eql, bin_neq, bin_lss, bin_leq, bin_gtr, bin_geq, Nat.zero_add, Nat.mul_one, d1, hlen h x l B, d2]
  · have d1 : decide (off < 0) = false := decide_eq_false (by omega)
    have hlp : 0 < l.length := List.length_pos_iff.2 hl
    have d2 : decide ((l.length : Int) = 0) = false := decide_eq_false (by omega)
    unfold q38_84 q38_83 ff38
    simp only [ob_some, b2_some, bc_ret, bcn_ret, gd_tt, gd_ff, gd_tf, gd_ft, ypk_true, ypk_false, yIf_true, yIf_false, semNil_ptr, fa_ptr, ld1_ptr, ext_tup, fd1_agg, un_not, bin_add, bin_sub, bin_mul, bin_eql, bin_neq, bin_lss, bin_leq, bin_gtr, bin_geq, Nat.zero_add, Nat.mul_one, d1, hlen h x l B, d2, decide_eq_true hb]
  · obtain ⟨o, rfl⟩ : ∃ o : Nat, off = o := ⟨off.toNat, by omega⟩
    rw [Int.toNat_natCast]
    have d1 : decide ((o : Int) < 0) = false := decide_eq_false (by omega)
    have hlp : 0 < l.length := List.length_pos_iff.2 hl
    have d2 : decide ((l.length : Int) = 0) = false := decide_eq_false (by omega)
    have d3 : decide ((17792 : Int) ≤ (o : Int)) = false := decide_eq_false (by omega)
    have hs : IntKind.i64.wrap (17792 - (o : Int)) = ((17792 - o : Nat) : Int) := by rw [wrap_i64 (by omega) (by omega)]; omega
    have hmin : min (l.length : Int) ((17792 - o : Nat) : Int) = ((min l.length (17792 - o) : Nat) : Int) := by omega
    obtain ⟨x', q1, q2, q3⟩ := bytes_hi (P := Tryd.prog) (t := 24) (q := min l.length (17792 - o)) (kd := .i64) Tryd.underlying24 (s := 1) (by kernel_rfl) B hcap (by omega)
    have hrow : rowOf x' = rowOf x := by
      rcases B.2 with ⟨_, rfl⟩ | ⟨k1, ob, cap, lo, m, rfl, _, _⟩
      · simp at hlp
      · obtain ⟨cap', lo', u1, _⟩ := slice_hi (P := Tryd.prog) (t := 24) (q := min l.length (17792 - o)) (kd := .i64) Tryd.underlying24 (s := 1) (by kernel_rfl) hcap (by omega)
        rw [u1] at q1
        cases q1
        rfl
    have hcl : (cutL o l).length = min l.length (17792 - o) := by simp [cutL]
    obtain ⟨h1, r1, A1, M1, Tt1, F1⟩ := write_loop (lf := lf) (N := N) (now := now) (us := us) Pl Fi Wr hi (off := o) (x := x') (l := cutL o l) q3 (fun j hj => hap j (by rw [← hrow]; exact hj)) (by omega) (fun x0 x2 x10 x12 h => q38_22 C lf ff38 x0 x2 x10 x12 h)
      (cutL o l).length 0 (by omega) (by omega) lf (by omega) h s A M Tt O q2 (fun j hj => hx j (by rw [← hrow]; exact hj))
    have hw : writeF n i o (cutL o l) (cutL o l).length 0 s = wrF n i o l s := rfl
    rw [hw] at r1 A1 M1
    have mid : q38_84 C lf ff38 (some (.ptr T.kt 0)) (some (.int .i64 (o : Int))) (some x) (some (.ptr T.kn (i * 308))) h = q38_22 C lf ff38 (some (.ptr T.kt 0)) (some (.int .i64 (o : Int))) (some (.ptr T.kn (i * 308))) (some (.int .i64 ((wrF n i o l s).2 : Int))) h1 := by
      unfold q38_84 q38_83
      simp only [ob_some, b2_some, bc_ret, bcn_ret, gd_tt, gd_ff, gd_tf, gd_ft, ypk_true, ypk_false, yIf_true, yIf_false, semNil_ptr, fa_ptr, ld1_ptr, ext_tup, fd1_agg, un_not, bin_add, bin_sub, bin_mul, bin_eql, bin_neq, bin_lss, bin_leq, bin_gtr, bin_geq, Nat.zero_add, Nat.mul_one, d1, hlen h x l B, d2, d3]
      unfold q38_75 q38_74
      simp only [ob_some, b2_some, bc_ret, bcn_ret, gd_tt, gd_ff, gd_tf, gd_ft, ypk_true, ypk_false, yIf_true, yIf_false, semNil_ptr, fa_ptr, ld1_ptr, ext_tup, fd1_agg, un_not, bin_add, bin_sub, bin_mul, bin_eql, bin_neq, bin_lss, bin_leq, bin_gtr, bin_geq, Nat.zero_add, Nat.mul_one, hlen h x l B, hs, ybl_min, hmin, q1]
      unfold q38_66 q38_65 q38_64
      exact r1
    rw [mid]
    obtain ⟨w1, w2, w3, w4⟩ := writeF_low (n := n) (N := N) (i := i) (off := o) (l := cutL o l) (by omega) (i' := i) (c := 5) hi (by omega) (cutL o l).length 0 s (by omega) ⟨M, A.st.wlt⟩
    rw [hw] at w1 w2 w3 w4
    by_cases hz : (wrF n i o l s).2 = 0
    · refine ⟨h1, F1, Tt1, fun _ => ⟨?_, A1, M1⟩, fun e => absurd hz e⟩
      have d4 : decide (((wrF n i o l s).2 : Int) = 0) = true := decide_eq_true (by omega)
      unfold q38_22 ff38
      simp only [ob_some, b2_some, bc_ret, bcn_ret, gd_tt, gd_ff, gd_tf, gd_ft, ypk_true, ypk_false, yIf_true, yIf_false, semNil_ptr, fa_ptr, ld1_ptr, ext_tup, fd1_agg, un_not, bin_add, bin_sub, bin_mul, bin_eql, bin_neq, bin_lss, bin_leq, bin_gtr, bin_geq, Nat.zero_add, Nat.mul_one, d4]
    · have d4 : decide (((wrF n i o l s).2 : Int) = 0) = false := decide_eq_false (by omega)
      have hc5 := A1.cn i 5 hi (by omega)
      rw [w1, hsz] at hc5
      have hadd : IntKind.i64.wrap ((o : Int) + ((wrF n i o l s).2 : Int)) = ((o + (wrF n i o l s).2 : Nat) : Int) := by rw [wrap_i64 (by omega) (by omega)]; omega
      have hmax : max (sz : Int) ((o + (wrF n i o l s).2 : Nat) : Int) = ((max sz (o + (wrF n i o l s).2) : Nat) : Int) := by omega
      generalize hsz' : max sz (o + (wrF n i o l s).2) = sz' at *
      have st2 := st_node A1 (i := i) (c := 5) (y := .int .i64 (sz' : Int)) hi (by omega) rfl rfl
      have A2 := A1.setNode (i := i) (c := 5) (y := .int .i64 (sz' : Int)) hi (by omega) (by omega)
      have F2 : Frm h1 (h1.set T.kn (i * 308 + 5) [.int .i64 (sz' : Int)]) (· = T.kn) := frm_set rfl
      generalize hg2 : h1.set T.kn (i * 308 + 5) [.int .i64 (sz' : Int)] = h2 at *
      obtain ⟨h3, c3, A3, n3, F3⟩ := To h2 T n N _ _ now us _ i A2 hi
      have F23 : Frm h1 h3 (· = T.kn) := F2.trans F3
      refine ⟨h3, F1.trans (F23.weak fun _ e => .inr (.inr e)), Tt1.fr F23 (Nat.lt_of_lt_of_le O.g F1.next) (fun e => O.ng.n e), fun e => absurd e hz, fun _ => ⟨?_, A3, M1.grown _ _ _⟩⟩
      have e1 : i * 308 + 1 + 4 = i * 308 + 5 := Nat.add_assoc _ 1 4
      unfold q38_22 ff38
      simp only [ob_some, b2_some, bc_ret, bcn_ret, gd_tt, gd_ff, gd_tf, gd_ft, ypk_true, ypk_false, yIf_true, yIf_false, semNil_ptr, fa_ptr, ld1_ptr, ext_tup, fd1_agg, un_not, bin_add, bin_sub, bin_mul, bin_eql, bin_neq, bin_lss, bin_leq, bin_gtr, bin_geq, Nat.zero_add, Nat.mul_one, d4, e1, hc5, hadd, ybl_max, hmax, st2, c3]
end
end Go.Proofs.YtomialandfplkaaDoor.Eva
