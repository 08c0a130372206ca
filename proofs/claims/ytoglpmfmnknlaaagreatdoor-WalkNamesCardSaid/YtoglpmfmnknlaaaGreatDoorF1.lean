/- Texts of functions of the program. -/
import Derived.Test.YtoglpmfmnknlaaaGreatDoorCards
import Derived.Test.YtoglpmfmnknlaaaGreatDoorXeYh
namespace Go.Proofs.YtoglpmfmnknlaaaGreatDoor.Eva
open Go.Xe
set_option maxRecDepth 100000
set_option linter.unusedVariables false
noncomputable def fx208 : XF Tryz.prog := ⟨208, Tryz.f208, fun r => bif Nat.beq r 8 then .ord [0, 1, 2, 4, 3, 6, 7, 5, 8, 9, 10, 11] [(8, [5])] else .text, Tryz.func208, by kernel_rfl, by kernel_rfl, by kernel_rfl, by kernel_rfl⟩
noncomputable def ff208 (x4 : O) (h : HW) : Rs :=
 ob x4 fun a0 =>
 some (.ret a0, h)
noncomputable def q208_20 (C : YC) (lf : Nat) (r : K1) (x0 x5 : O) (h : HW) : Rs :=
 ob x0 fun a1 =>
 ob x0 fun a2 =>
 ob x5 fun a3 =>
 ob (fa 1 a3) fun y4 =>
 ob x5 fun a5 =>
 ob (fa 2 a5) fun y6 =>
 ob (ld1 y4 h) fun y7 =>
 ob (semNil a1) fun y8 =>
 ob (fa 8 y8) fun y9 =>
 ob (ld1 y6 h) fun y10 =>
 ob (st 1 y9 y7 h) fun h11 =>
 ck (chkH [(5, adrO (some y6)), (3, adrO (some y4))] h h11 [5]) <|
 ob (semNil a2) fun y12 =>
 ob (fa 9 y12) fun y13 =>
 ob (st 1 y13 y10 h11) fun h14 =>
 ob x5 fun a15 =>
 ob (fa 1 a15) fun y16 =>
 ob (ld1 y16 h14) fun y17 =>
 ob (lenE Tryz.prog 25 y17) fun y18 =>
 ob (bin Tryz.prog .gtr 3 y18 (.int .i64 0)) fun y19 =>
 r (some y19) h14
theorem q208_20_eq (C : YC) (lf : Nat) (r : K1) (KN : KF) (KE : KX) : ∀ F h, evX fx208 C lf [1, 1, 1, 1, 1] F h KN (fun F h => r (F 4) h) KE = q208_20 C lf r (F 0) (F 5) h := by
  intro F h; kernel_rfl
noncomputable def q208_72 (C : YC) (lf : Nat) (n : K2) (x0 x5 : O) (h : HW) : Rs :=
 ob x5 fun a21 =>
 ob (fa 0 a21) fun y22 =>
 ob (ld1 y22 h) fun y23 =>
 ob (unE .not y23) fun y24 =>
 bc (gd true (some y24) (ob x0 fun a25 =>
 some (.ret a25, h)) h) fun y26 h26 =>
 bc (gd true (some y24) (ob (semNil y26) fun y27 =>
 some (.ret y27, h26)) h26) fun y28 h28 =>
 bc (gd true (some y24) (ob (fa 1 y28) fun y29 =>
 some (.ret y29, h28)) h28) fun y30 h30 =>
 bc (gd true (some y24) (ob (fa 4 y30) fun y31 =>
 some (.ret y31, h30)) h30) fun y32 h32 =>
 bc (gd true (some y24) (ob (ld1 y32 h32) fun y33 =>
 some (.ret y33, h32)) h32) fun y34 h34 =>
 bc (gd true (some y24) (ob (bin Tryz.prog .neq 3 y34 (.int .i64 0)) fun y35 =>
 some (.ret y35, h34)) h34) fun y36 h36 =>
 ob (ypk y24 y36 (.bool false)) fun y37 =>
 yIf y37
 (ob x0 fun a38 =>
 ob x0 fun a39 =>
 ob (semNil a39) fun y40 =>
 ob (fa 1 y40) fun y41 =>
 ob (fa 4 y41) fun y42 =>
 ob (ld1 y42 h36) fun y43 =>
 ob (semNil a38) fun y44 =>
 ob (fa 7 y44) fun y45 =>
 ob (st 1 y45 y43 h36) fun h46 =>
 ob x0 fun a47 =>
 ob (semNil a47) fun y48 =>
 ob (fa 0 y48) fun y49 =>
 ob (ld1 y49 h46) fun y50 =>
 ob (semNil y50) fun y51 =>
 ob (fa 0 y51) fun y52 =>
 ob (ld1 y52 h46) fun y53 =>
 ob x0 fun a54 =>
 ob (semNil a54) fun y55 =>
 ob (fa 7 y55) fun y56 =>
 ob (ld1 y56 h46) fun y57 =>
 bcn (C (.fn 204) [y53, y57] h46) fun y58 h58 =>
 ob (unE .not y58) fun y59 =>
 bcn (C (.fn 146) [y59, (.int .i64 2)] h58) fun y60 h60 =>
 ob x0 fun a61 =>
 ob (semNil a61) fun y62 =>
 ob (fa 0 y62) fun y63 =>
 ob (ld1 y63 h60) fun y64 =>
 ob x0 fun a65 =>
 ob (semNil a65) fun y66 =>
 ob (fa 7 y66) fun y67 =>
 ob (ld1 y67 h60) fun y68 =>
 bcn (C (.fn 156) [y64, y68] h60) fun y69 h69 =>
 ob (bin Tryz.prog .neq 30 y69 (.int .i64 16384)) fun y70 =>
 bcn (C (.fn 146) [y70, (.int .i64 20)] h69) fun y71 h71 =>
 n x0 x5 h71)
 (n x0 x5 h36)
theorem q208_72_eq (C : YC) (lf : Nat) (n : K2) (KR : KF) (KE : KX) : ∀ F h, evX fx208 C lf [1, 1, 1, 1, 0] F h (fun F h => n (F 0) (F 5) h) KR KE = q208_72 C lf n (F 0) (F 5) h := by
  intro F h; kernel_rfl
noncomputable def q208_73 (C : YC) (lf : Nat) (r : K1) (x0 x5 : O) (h : HW) : Rs :=
 q208_72 C lf (fun x0 x5 h => q208_20 C lf r x0 x5 h) x0 x5 h
theorem q208_73_eq (C : YC) (lf : Nat) (r : K1) (KN : KF) (KE : KX) : ∀ F h, evX fx208 C lf [1, 1, 1, 1] F h KN (fun F h => r (F 4) h) KE = q208_73 C lf r (F 0) (F 5) h := cSeq (a := subX fx208 [1, 1, 1, 1, 0]) (b := subX fx208 [1, 1, 1, 1, 1]) (by kernel_rfl) (B := (fun F h => q208_20 C lf r (F 0) (F 5) h)) (q208_20_eq C lf r KN KE) (q208_72_eq C lf (fun x0 x5 h => q208_20 C lf r x0 x5 h) (fun F h => r (F 4) h) KE)
noncomputable def q208_78 (C : YC) (lf : Nat) (n : K2) (x0 x5 : O) (h : HW) : Rs :=
 ob x0 fun a74 =>
 ob (semNil a74) fun y75 =>
 ob (fa 7 y75) fun y76 =>
 ob (st 1 y76 (.int .i64 1) h) fun h77 =>
 n x0 x5 h77
theorem q208_78_eq (C : YC) (lf : Nat) (n : K2) (KR : KF) (KE : KX) : ∀ F h, evX fx208 C lf [1, 1, 1, 0] F h (fun F h => n (F 0) (F 5) h) KR KE = q208_78 C lf n (F 0) (F 5) h := by
  intro F h; kernel_rfl
noncomputable def q208_79 (C : YC) (lf : Nat) (r : K1) (x0 x5 : O) (h : HW) : Rs :=
 q208_78 C lf (fun x0 x5 h => q208_73 C lf r x0 x5 h) x0 x5 h
theorem q208_79_eq (C : YC) (lf : Nat) (r : K1) (KN : KF) (KE : KX) : ∀ F h, evX fx208 C lf [1, 1, 1] F h KN (fun F h => r (F 4) h) KE = q208_79 C lf r (F 0) (F 5) h := cSeq (a := subX fx208 [1, 1, 1, 0]) (b := subX fx208 [1, 1, 1, 1]) (by kernel_rfl) (B := (fun F h => q208_73 C lf r (F 0) (F 5) h)) (q208_73_eq C lf r KN KE) (q208_78_eq C lf (fun x0 x5 h => q208_73 C lf r x0 x5 h) (fun F h => r (F 4) h) KE)
noncomputable def q208_82 (C : YC) (lf : Nat) (n : K2) (x0 x5 x6 : O) (h : HW) : Rs :=
 ob x6 fun a80 =>
 bc (C (.fn 152) [a80] h) fun y81 h81 =>
 n x0 x5 h81
theorem q208_82_eq (C : YC) (lf : Nat) (n : K2) (KR : KF) (KE : KX) : ∀ F h, evX fx208 C lf [1, 1, 0] F h (fun F h => n (F 0) (F 5) h) KR KE = q208_82 C lf n (F 0) (F 5) (F 6) h := by
  intro F h; kernel_rfl
noncomputable def q208_83 (C : YC) (lf : Nat) (r : K1) (x0 x5 x6 : O) (h : HW) : Rs :=
 q208_82 C lf (fun x0 x5 h => q208_79 C lf r x0 x5 h) x0 x5 x6 h
theorem q208_83_eq (C : YC) (lf : Nat) (r : K1) (KN : KF) (KE : KX) : ∀ F h, evX fx208 C lf [1, 1] F h KN (fun F h => r (F 4) h) KE = q208_83 C lf r (F 0) (F 5) (F 6) h := cSeq (a := subX fx208 [1, 1, 0]) (b := subX fx208 [1, 1, 1]) (by kernel_rfl) (B := (fun F h => q208_79 C lf r (F 0) (F 5) h)) (q208_79_eq C lf r KN KE) (q208_82_eq C lf (fun x0 x5 h => q208_79 C lf r x0 x5 h) (fun F h => r (F 4) h) KE)
noncomputable def q208_90 (C : YC) (lf : Nat) (n : K3) (x0 x1 : O) (h : HW) : Rs :=
 ob x1 fun a84 =>
 bc (C (.fn 151) [a84] h) fun y85 h85 =>
 ob (ext 0 y85) fun y86 =>
 ob (ext 1 y85) fun y87 =>
 b2 (yAl Tryz.prog 234 h85) fun y88 h88 =>
 ob (st 3 y88 y86 h88) fun h89 =>
 n x0 (some y88) (some y87) h89
theorem q208_90_eq (C : YC) (lf : Nat) (n : K3) (KR : KF) (KE : KX) : ∀ F h, evX fx208 C lf [1, 0] F h (fun F h => n (F 0) (F 5) (F 6) h) KR KE = q208_90 C lf n (F 0) (F 1) h := by
  intro F h; kernel_rfl
noncomputable def q208_91 (C : YC) (lf : Nat) (r : K1) (x0 x1 : O) (h : HW) : Rs :=
 q208_90 C lf (fun x0 x5 x6 h => q208_83 C lf r x0 x5 x6 h) x0 x1 h
theorem q208_91_eq (C : YC) (lf : Nat) (r : K1) (KN : KF) (KE : KX) : ∀ F h, evX fx208 C lf [1] F h KN (fun F h => r (F 4) h) KE = q208_91 C lf r (F 0) (F 1) h := cSeq (a := subX fx208 [1, 0]) (b := subX fx208 [1, 1]) (by kernel_rfl) (B := (fun F h => q208_83 C lf r (F 0) (F 5) (F 6) h)) (q208_83_eq C lf r KN KE) (q208_90_eq C lf (fun x0 x5 x6 h => q208_83 C lf r x0 x5 x6 h) (fun F h => r (F 4) h) KE)
noncomputable def q208_92 (C : YC) (lf : Nat) (n : K2) (x0 x1 : O) (h : HW) : Rs :=
 n x0 x1 h
theorem q208_92_eq (C : YC) (lf : Nat) (n : K2) (KR : KF) (KE : KX) : ∀ F h, evX fx208 C lf [0] F h (fun F h => n (F 0) (F 1) h) KR KE = q208_92 C lf n (F 0) (F 1) h := by
  intro F h; kernel_rfl
noncomputable def q208_93 (C : YC) (lf : Nat) (r : K1) (x0 x1 : O) (h : HW) : Rs :=
 q208_92 C lf (fun x0 x1 h => q208_91 C lf r x0 x1 h) x0 x1 h
theorem q208_93_eq (C : YC) (lf : Nat) (r : K1) (KN : KF) (KE : KX) : ∀ F h, evX fx208 C lf [] F h KN (fun F h => r (F 4) h) KE = q208_93 C lf r (F 0) (F 1) h := cSeq (a := subX fx208 [0]) (b := subX fx208 [1]) (by kernel_rfl) (B := (fun F h => q208_91 C lf r (F 0) (F 1) h)) (q208_91_eq C lf r KN KE) (q208_92_eq C lf (fun x0 x1 h => q208_91 C lf r x0 x1 h) (fun F h => r (F 4) h) KE)
noncomputable def fs208 (C : YC) (lf : Nat) (a0 a1 : SV) (h : HW) : Rs := q208_93 C lf ff208 (some a0) (some a1) h
theorem fs208_eq (C : YC) (lf : Nat) (a0 a1 : SV) (h : HW) : yFn Tryz.prog fx208 C lf [a0, a1] h = fs208 C lf a0 a1 h := fnX (K := (fun F h => ff208 (F 4) h)) (by kernel_rfl) (((q208_93_eq C lf ff208 (fun F h => ff208 (F 4) h) (fun _ _ _ => none)) _ h).trans (by kernel_rfl))
noncomputable def fy208 : YX Tryz.prog := Y2 fx208 fs208 fs208_eq (by kernel_rfl)

noncomputable def fx209 : XF Tryz.prog := ⟨209, Tryz.f209, fun _ => .text, Tryz.func209, by kernel_rfl, by kernel_rfl, by kernel_rfl, by kernel_rfl⟩
noncomputable def ff209 (x4 : O) (h : HW) : Rs :=
 ob x4 fun a0 =>
 some (.ret a0, h)
noncomputable def q209_28 (C : YC) (lf : Nat) (r : K1) (x0 x1 : O) (h : HW) : Rs :=
 ob x1 fun a1 =>
 ob (bin Tryz.prog .eql 9 a1 (.str (bs [46]))) fun y2 =>
 yIf y2
 (ob x0 fun a3 =>
 ob (semNil a3) fun y4 =>
 ob (fa 7 y4) fun y5 =>
 ob (ld1 y5 h) fun y6 =>
 r (some y6) h)
 (ob x0 fun a7 =>
 ob (semNil a7) fun y8 =>
 ob (fa 0 y8) fun y9 =>
 ob (ld1 y9 h) fun y10 =>
 ob (semNil y10) fun y11 =>
 ob (fa 0 y11) fun y12 =>
 ob (ld1 y12 h) fun y13 =>
 ob x0 fun a14 =>
 ob (semNil a14) fun y15 =>
 ob (fa 7 y15) fun y16 =>
 ob (ld1 y16 h) fun y17 =>
 ob x1 fun a18 =>
 bcn (C (.fn 178) [y13, y17, a18] h) fun y19 h19 =>
 ob (ext 0 y19) fun y20 =>
 ob (ext 1 y19) fun y21 =>
 ob (bin Tryz.prog .neq 23 y21 (.int .i64 0)) fun y22 =>
 bc (gd true (some y22) (some (.ret y21, h19)) h19) fun y23 h23 =>
 bc (gd true (some y22) (ob (bin Tryz.prog .neq 23 y23 (.int .i64 2)) fun y24 =>
 some (.ret y24, h23)) h23) fun y25 h25 =>
 ob (ypk y22 y25 (.bool false)) fun y26 =>
 bc (C (.fn 146) [y26, y21] h25) fun y27 h27 =>
 r (some y20) h27)
theorem q209_28_eq (C : YC) (lf : Nat) (r : K1) (KN : KF) (KE : KX) : ∀ F h, evX fx209 C lf [] F h KN (fun F h => r (F 4) h) KE = q209_28 C lf r (F 0) (F 1) h := by
  intro F h; kernel_rfl
noncomputable def fs209 (C : YC) (lf : Nat) (a0 a1 : SV) (h : HW) : Rs := q209_28 C lf ff209 (some a0) (some a1) h
theorem fs209_eq (C : YC) (lf : Nat) (a0 a1 : SV) (h : HW) : yFn Tryz.prog fx209 C lf [a0, a1] h = fs209 C lf a0 a1 h := fnX (K := (fun F h => ff209 (F 4) h)) (by kernel_rfl) (((q209_28_eq C lf ff209 (fun F h => ff209 (F 4) h) (fun _ _ _ => none)) _ h).trans (by kernel_rfl))
noncomputable def fy209 : YX Tryz.prog := Y2 fx209 fs209 fs209_eq (by kernel_rfl)

noncomputable def fx211 : XF Tryz.prog := ⟨211, Tryz.f211, fun _ => .text, Tryz.func211, by kernel_rfl, by kernel_rfl, by kernel_rfl, by kernel_rfl⟩

noncomputable def fx212 : XF Tryz.prog := ⟨212, Tryz.f212, fun _ => .text, Tryz.func212, by kernel_rfl, by kernel_rfl, by kernel_rfl, by kernel_rfl⟩
noncomputable def ff212 (h : HW) : Rs :=
 some (.ret (.tup []), h)
noncomputable def q212_9 (C : YC) (lf : Nat) (n : K0) (x0 x1 : O) (h : HW) : Rs :=
 ob x0 fun a0 =>
 ob x0 fun a1 =>
 ob (semNil a1) fun y2 =>
 ob (ld1 y2 h) fun y3 =>
 ob x1 fun a4 =>
 b2 (ybs Tryz.prog 305 1 [0] [a4] h) fun y5 h5 =>
 b2 (ybl Tryz.prog .append #[305, 305] [y3, y5] h5) fun y6 h6 =>
 ob (semNil a0) fun y7 =>
 ob (st 1 y7 y6 h6) fun h8 =>
 n h8
theorem q212_9_eq (C : YC) (lf : Nat) (n : K0) (KR : KF) (KE : KX) : ∀ F h, evX fx212 C lf [] F h (fun F h => n h) KR KE = q212_9 C lf n (F 0) (F 1) h := by
  intro F h; kernel_rfl
noncomputable def fs212 (C : YC) (lf : Nat) (a0 a1 : SV) (h : HW) : Rs := q212_9 C lf ff212 (some a0) (some a1) h
theorem fs212_eq (C : YC) (lf : Nat) (a0 a1 : SV) (h : HW) : yFn Tryz.prog fx212 C lf [a0, a1] h = fs212 C lf a0 a1 h := fnX (K := (fun F h => ff212 h)) (by kernel_rfl) (((q212_9_eq C lf ff212 (fun F h => ff212 h) (fun _ _ _ => none)) _ h).trans (by kernel_rfl))
noncomputable def fy212 : YX Tryz.prog := Y2 fx212 fs212 fs212_eq (by kernel_rfl)

noncomputable def fx214 : XF Tryz.prog := ⟨214, Tryz.f214, fun _ => .text, Tryz.func214, by kernel_rfl, by kernel_rfl, by kernel_rfl, by kernel_rfl⟩
noncomputable def ff214 (x8 : O) (h : HW) : Rs :=
 ob x8 fun a0 =>
 some (.ret a0, h)
noncomputable def q214_12 (C : YC) (lf : Nat) (r : K1) (x0 x1 x2 x3 x11 : O) (h : HW) : Rs :=
 ob x11 fun a1 =>
 ob (bin Tryz.prog .add 3 a1 (.int .i64 1)) fun y2 =>
 ob (bin Tryz.prog .mul 3 y2 (.int .i64 32)) fun y3 =>
 ob (bin Tryz.prog .gtr 3 y3 (.int .i64 17792)) fun y4 =>
 yIf y4
 (r (some (.int .i64 28)) h)
 (ob x0 fun a5 =>
 ob x1 fun a6 =>
 ob x11 fun a7 =>
 ob x2 fun a8 =>
 ob x3 fun a9 =>
 bc (C (.fn 205) [a8, a9] h) fun y10 h10 =>
 bc (C (.fn 279) [a5, a6, a7, y10] h10) fun y11 h11 =>
 r (some y11) h11)
theorem q214_12_eq (C : YC) (lf : Nat) (r : K1) (KN : KF) (KE : KX) : ∀ F h, evX fx214 C lf [1, 1, 1, 1, 1, 1] F h KN (fun F h => r (F 8) h) KE = q214_12 C lf r (F 0) (F 1) (F 2) (F 3) (F 11) h := by
  intro F h; kernel_rfl
noncomputable def q214_33 (C : YC) (lf : Nat) (n : K6) (e1 : K5) (x0 x1 x2 x3 x10 x11 : O) (h : HW) : Rs :=
 ob x11 fun a14 =>
 ob x10 fun a15 =>
 ob (lenE Tryz.prog 335 a15) fun y16 =>
 ob (bin Tryz.prog .lss 3 a14 y16) fun y17 =>
 bc (gd true (some y17) (ob x10 fun a18 =>
 some (.ret a18, h)) h) fun y19 h19 =>
 bc (gd true (some y17) (ob x11 fun a20 =>
 some (.ret a20, h19)) h19) fun y21 h21 =>
 bc (gd true (some y17) (ob (ixS 32 y19 y21) fun y22 =>
 some (.ret y22, h21)) h21) fun y23 h23 =>
 bc (gd true (some y17) (ob (ldN 32 y23 h23) fun y24 =>
 some (.ret y24, h23)) h23) fun y25 h25 =>
 bc (gd true (some y17) (bc (C (.fn 250) [y25] h25) fun y26 h26 =>
 some (.ret y26, h26)) h25) fun y27 h27 =>
 bc (gd true (some y17) (ob (bin Tryz.prog .neq 3 y27 (.int .i64 0)) fun y28 =>
 some (.ret y28, h27)) h27) fun y29 h29 =>
 ob (ypk y17 y29 (.bool false)) fun y30 =>
 yIf y30
 (ob x11 fun a31 =>
 ob (bin Tryz.prog .add 3 a31 (.int .i64 1)) fun y32 =>
 n x0 x1 x2 x3 x10 (some y32) h29)
 (e1 x0 x1 x2 x3 x11 h29)
theorem q214_33_eq (C : YC) (lf : Nat) (n : K6) (e1 : K5) (KR : KF) (KE : KX) : ∀ F h, evX fx214 C lf [1, 1, 1, 1, 1, 0, 0, 0] F h (fun F h => n (F 0) (F 1) (F 2) (F 3) (F 10) (F 11) h) KR (bk 1 (fun F h => e1 (F 0) (F 1) (F 2) (F 3) (F 11) h) KE) = q214_33 C lf n e1 (F 0) (F 1) (F 2) (F 3) (F 10) (F 11) h := by
  intro F h; kernel_rfl
noncomputable def l214_13 (C : YC) (lf : Nat) (e1 : K5) (k : O × O × O × O × O × O → HW → Rs) (s : O × O × O × O × O × O) (h : HW) : Rs :=
 q214_33 C lf (fun x0 x1 x2 x3 x10 x11 h => k (x0, x1, x2, x3, x10, x11) h) e1 s.1 s.2.1 s.2.2.1 s.2.2.2.1 s.2.2.2.2.1 s.2.2.2.2.2 h
noncomputable def q214_34 (C : YC) (lf : Nat) (r : K1) (x0 x1 x2 x3 x10 x11 : O) (h : HW) : Rs :=
 lp (l214_13 C lf (fun x0 x1 x2 x3 x11 h => q214_12 C lf r x0 x1 x2 x3 x11 h)) lf (x0, x1, x2, x3, x10, x11) h
theorem q214_34_eq (C : YC) (lf : Nat) (r : K1) (KN : KF) (KE : KX) : ∀ F h, evX fx214 C lf [1, 1, 1, 1, 1] F h KN (fun F h => r (F 8) h) KE = q214_34 C lf r (F 0) (F 1) (F 2) (F 3) (F 10) (F 11) h := cSeq (a := subX fx214 [1, 1, 1, 1, 1, 0]) (b := subX fx214 [1, 1, 1, 1, 1, 1]) (by kernel_rfl) (B := (fun F h => q214_12 C lf r (F 0) (F 1) (F 2) (F 3) (F 11) h)) (q214_12_eq C lf r KN KE) (cBlock (id := 1) (a := subX fx214 [1, 1, 1, 1, 1, 0, 0]) (by kernel_rfl) (cLoop (a := subX fx214 [1, 1, 1, 1, 1, 0, 0, 0]) (g := fun F => (F 0, F 1, F 2, F 3, F 10, F 11)) (body := l214_13 C lf (fun x0 x1 x2 x3 x11 h => q214_12 C lf r x0 x1 x2 x3 x11 h)) (by kernel_rfl) (fun k => (q214_33_eq C lf (fun x0 x1 x2 x3 x10 x11 h => k (x0, x1, x2, x3, x10, x11) h) (fun x0 x1 x2 x3 x11 h => q214_12 C lf r x0 x1 x2 x3 x11 h) (fun F h => r (F 8) h) KE))))
noncomputable def q214_35 (C : YC) (lf : Nat) (n : K6) (x0 x1 x2 x3 x10 : O) (h : HW) : Rs :=
 n x0 x1 x2 x3 x10 (some (.int .i64 0)) h
theorem q214_35_eq (C : YC) (lf : Nat) (n : K6) (KR : KF) (KE : KX) : ∀ F h, evX fx214 C lf [1, 1, 1, 1, 0] F h (fun F h => n (F 0) (F 1) (F 2) (F 3) (F 10) (F 11) h) KR KE = q214_35 C lf n (F 0) (F 1) (F 2) (F 3) (F 10) h := by
  intro F h; kernel_rfl
noncomputable def q214_36 (C : YC) (lf : Nat) (r : K1) (x0 x1 x2 x3 x10 : O) (h : HW) : Rs :=
 q214_35 C lf (fun x0 x1 x2 x3 x10 x11 h => q214_34 C lf r x0 x1 x2 x3 x10 x11 h) x0 x1 x2 x3 x10 h
theorem q214_36_eq (C : YC) (lf : Nat) (r : K1) (KN : KF) (KE : KX) : ∀ F h, evX fx214 C lf [1, 1, 1, 1] F h KN (fun F h => r (F 8) h) KE = q214_36 C lf r (F 0) (F 1) (F 2) (F 3) (F 10) h := cSeq (a := subX fx214 [1, 1, 1, 1, 0]) (b := subX fx214 [1, 1, 1, 1, 1]) (by kernel_rfl) (B := (fun F h => q214_34 C lf r (F 0) (F 1) (F 2) (F 3) (F 10) (F 11) h)) (q214_34_eq C lf r KN KE) (q214_35_eq C lf (fun x0 x1 x2 x3 x10 x11 h => q214_34 C lf r x0 x1 x2 x3 x10 x11 h) (fun F h => r (F 8) h) KE)
noncomputable def q214_45 (C : YC) (lf : Nat) (n : K5) (r : K1) (x0 x1 x2 x3 x10 : O) (h : HW) : Rs :=
 ob x0 fun a37 =>
 ob x3 fun a38 =>
 bc (C (.fn 204) [a37, a38] h) fun y39 h39 =>
 ob (unE .not y39) fun y40 =>
 yIf y40
 (r (some (.int .i64 22)) h39)
 (ob x10 fun a41 =>
 ob x2 fun a42 =>
 bc (C (.fn 249) [a41, a42] h39) fun y43 h43 =>
 ob (bin Tryz.prog .geq 3 y43 (.int .i64 0)) fun y44 =>
 yIf y44
 (r (some (.int .i64 17)) h43)
 (n x0 x1 x2 x3 x10 h43))
theorem q214_45_eq (C : YC) (lf : Nat) (n : K5) (r : K1) (KE : KX) : ∀ F h, evX fx214 C lf [1, 1, 1, 0] F h (fun F h => n (F 0) (F 1) (F 2) (F 3) (F 10) h) (fun F h => r (F 8) h) KE = q214_45 C lf n r (F 0) (F 1) (F 2) (F 3) (F 10) h := by
  intro F h; kernel_rfl
noncomputable def q214_46 (C : YC) (lf : Nat) (r : K1) (x0 x1 x2 x3 x10 : O) (h : HW) : Rs :=
 q214_45 C lf (fun x0 x1 x2 x3 x10 h => q214_36 C lf r x0 x1 x2 x3 x10 h) r x0 x1 x2 x3 x10 h
theorem q214_46_eq (C : YC) (lf : Nat) (r : K1) (KN : KF) (KE : KX) : ∀ F h, evX fx214 C lf [1, 1, 1] F h KN (fun F h => r (F 8) h) KE = q214_46 C lf r (F 0) (F 1) (F 2) (F 3) (F 10) h := cSeq (a := subX fx214 [1, 1, 1, 0]) (b := subX fx214 [1, 1, 1, 1]) (by kernel_rfl) (B := (fun F h => q214_36 C lf r (F 0) (F 1) (F 2) (F 3) (F 10) h)) (q214_36_eq C lf r KN KE) (q214_45_eq C lf (fun x0 x1 x2 x3 x10 h => q214_36 C lf r x0 x1 x2 x3 x10 h) r KE)
noncomputable def q214_50 (C : YC) (lf : Nat) (n : K5) (x0 x1 x2 x3 : O) (h : HW) : Rs :=
 ob x0 fun a47 =>
 ob x1 fun a48 =>
 bc (C (.fn 248) [a47, a48] h) fun y49 h49 =>
 n x0 x1 x2 x3 (some y49) h49
theorem q214_50_eq (C : YC) (lf : Nat) (n : K5) (KR : KF) (KE : KX) : ∀ F h, evX fx214 C lf [1, 1, 0] F h (fun F h => n (F 0) (F 1) (F 2) (F 3) (F 10) h) KR KE = q214_50 C lf n (F 0) (F 1) (F 2) (F 3) h := by
  intro F h; kernel_rfl
noncomputable def q214_51 (C : YC) (lf : Nat) (r : K1) (x0 x1 x2 x3 : O) (h : HW) : Rs :=
 q214_50 C lf (fun x0 x1 x2 x3 x10 h => q214_46 C lf r x0 x1 x2 x3 x10 h) x0 x1 x2 x3 h
theorem q214_51_eq (C : YC) (lf : Nat) (r : K1) (KN : KF) (KE : KX) : ∀ F h, evX fx214 C lf [1, 1] F h KN (fun F h => r (F 8) h) KE = q214_51 C lf r (F 0) (F 1) (F 2) (F 3) h := cSeq (a := subX fx214 [1, 1, 0]) (b := subX fx214 [1, 1, 1]) (by kernel_rfl) (B := (fun F h => q214_46 C lf r (F 0) (F 1) (F 2) (F 3) (F 10) h)) (q214_46_eq C lf r KN KE) (q214_50_eq C lf (fun x0 x1 x2 x3 x10 h => q214_46 C lf r x0 x1 x2 x3 x10 h) (fun F h => r (F 8) h) KE)
noncomputable def q214_57 (C : YC) (lf : Nat) (n : K4) (r : K1) (x0 x1 x2 x3 : O) (h : HW) : Rs :=
 ob x0 fun a52 =>
 ob x1 fun a53 =>
 ob x2 fun a54 =>
 bc (C (.fn 247) [a52, a53, a54] h) fun y55 h55 =>
 ob (bin Tryz.prog .neq 23 y55 (.int .i64 0)) fun y56 =>
 yIf y56
 (r (some y55) h55)
 (n x0 x1 x2 x3 h55)
theorem q214_57_eq (C : YC) (lf : Nat) (n : K4) (r : K1) (KE : KX) : ∀ F h, evX fx214 C lf [1, 0] F h (fun F h => n (F 0) (F 1) (F 2) (F 3) h) (fun F h => r (F 8) h) KE = q214_57 C lf n r (F 0) (F 1) (F 2) (F 3) h := by
  intro F h; kernel_rfl
noncomputable def q214_58 (C : YC) (lf : Nat) (r : K1) (x0 x1 x2 x3 : O) (h : HW) : Rs :=
 q214_57 C lf (fun x0 x1 x2 x3 h => q214_51 C lf r x0 x1 x2 x3 h) r x0 x1 x2 x3 h
theorem q214_58_eq (C : YC) (lf : Nat) (r : K1) (KN : KF) (KE : KX) : ∀ F h, evX fx214 C lf [1] F h KN (fun F h => r (F 8) h) KE = q214_58 C lf r (F 0) (F 1) (F 2) (F 3) h := cSeq (a := subX fx214 [1, 0]) (b := subX fx214 [1, 1]) (by kernel_rfl) (B := (fun F h => q214_51 C lf r (F 0) (F 1) (F 2) (F 3) h)) (q214_51_eq C lf r KN KE) (q214_57_eq C lf (fun x0 x1 x2 x3 h => q214_51 C lf r x0 x1 x2 x3 h) r KE)
noncomputable def q214_59 (C : YC) (lf : Nat) (n : K4) (x0 x1 x2 x3 : O) (h : HW) : Rs :=
 n x0 x1 x2 x3 h
theorem q214_59_eq (C : YC) (lf : Nat) (n : K4) (KR : KF) (KE : KX) : ∀ F h, evX fx214 C lf [0] F h (fun F h => n (F 0) (F 1) (F 2) (F 3) h) KR KE = q214_59 C lf n (F 0) (F 1) (F 2) (F 3) h := by
  intro F h; kernel_rfl
noncomputable def q214_60 (C : YC) (lf : Nat) (r : K1) (x0 x1 x2 x3 : O) (h : HW) : Rs :=
 q214_59 C lf (fun x0 x1 x2 x3 h => q214_58 C lf r x0 x1 x2 x3 h) x0 x1 x2 x3 h
theorem q214_60_eq (C : YC) (lf : Nat) (r : K1) (KN : KF) (KE : KX) : ∀ F h, evX fx214 C lf [] F h KN (fun F h => r (F 8) h) KE = q214_60 C lf r (F 0) (F 1) (F 2) (F 3) h := cSeq (a := subX fx214 [0]) (b := subX fx214 [1]) (by kernel_rfl) (B := (fun F h => q214_58 C lf r (F 0) (F 1) (F 2) (F 3) h)) (q214_58_eq C lf r KN KE) (q214_59_eq C lf (fun x0 x1 x2 x3 h => q214_58 C lf r x0 x1 x2 x3 h) (fun F h => r (F 8) h) KE)
noncomputable def fs214 (C : YC) (lf : Nat) (a0 a1 a2 a3 : SV) (h : HW) : Rs := q214_60 C lf ff214 (some a0) (some a1) (some a2) (some a3) h
theorem fs214_eq (C : YC) (lf : Nat) (a0 a1 a2 a3 : SV) (h : HW) : yFn Tryz.prog fx214 C lf [a0, a1, a2, a3] h = fs214 C lf a0 a1 a2 a3 h := fnX (K := (fun F h => ff214 (F 8) h)) (by kernel_rfl) (((q214_60_eq C lf ff214 (fun F h => ff214 (F 8) h) (fun _ _ _ => none)) _ h).trans (by kernel_rfl))
noncomputable def fy214 : YX Tryz.prog := Y4 fx214 fs214 fs214_eq (by kernel_rfl)

noncomputable def fx215 : XF Tryz.prog := ⟨215, Tryz.f215, fun _ => .text, Tryz.func215, by kernel_rfl, by kernel_rfl, by kernel_rfl, by kernel_rfl⟩
noncomputable def ff215 (x2 : O) (h : HW) : Rs :=
 ob x2 fun a0 =>
 some (.ret a0, h)
noncomputable def q215_3 (C : YC) (lf : Nat) (r : K1) (x0 : O) (h : HW) : Rs :=
 ob x0 fun a1 =>
 b2 (ybx 9 a1 h) fun y2 h2 =>
 r (some (.fn (.func 280) [] [y2])) h2
theorem q215_3_eq (C : YC) (lf : Nat) (r : K1) (KN : KF) (KE : KX) : ∀ F h, evX fx215 C lf [] F h KN (fun F h => r (F 2) h) KE = q215_3 C lf r (F 0) h := by
  intro F h; kernel_rfl
noncomputable def fs215 (C : YC) (lf : Nat) (a0 : SV) (h : HW) : Rs := q215_3 C lf ff215 (some a0) h
theorem fs215_eq (C : YC) (lf : Nat) (a0 : SV) (h : HW) : yFn Tryz.prog fx215 C lf [a0] h = fs215 C lf a0 h := fnX (K := (fun F h => ff215 (F 2) h)) (by kernel_rfl) (((q215_3_eq C lf ff215 (fun F h => ff215 (F 2) h) (fun _ _ _ => none)) _ h).trans (by kernel_rfl))
noncomputable def fy215 : YX Tryz.prog := Y1 fx215 fs215 fs215_eq (by kernel_rfl)

noncomputable def fx216 : XF Tryz.prog := ⟨216, Tryz.f216, fun _ => .text, Tryz.func216, by kernel_rfl, by kernel_rfl, by kernel_rfl, by kernel_rfl⟩
noncomputable def ff216 (x4 : O) (h : HW) : Rs :=
 ob x4 fun a0 =>
 some (.ret a0, h)
noncomputable def q216_4 (C : YC) (lf : Nat) (r : K1) (x0 x1 : O) (h : HW) : Rs :=
 ob x0 fun a1 =>
 ob x1 fun a2 =>
 bc (C (.fn 281) [a1, a2] h) fun y3 h3 =>
 r (some y3) h3
theorem q216_4_eq (C : YC) (lf : Nat) (r : K1) (KN : KF) (KE : KX) : ∀ F h, evX fx216 C lf [] F h KN (fun F h => r (F 4) h) KE = q216_4 C lf r (F 0) (F 1) h := by
  intro F h; kernel_rfl
noncomputable def fs216 (C : YC) (lf : Nat) (a0 a1 : SV) (h : HW) : Rs := q216_4 C lf ff216 (some a0) (some a1) h
theorem fs216_eq (C : YC) (lf : Nat) (a0 a1 : SV) (h : HW) : yFn Tryz.prog fx216 C lf [a0, a1] h = fs216 C lf a0 a1 h := fnX (K := (fun F h => ff216 (F 4) h)) (by kernel_rfl) (((q216_4_eq C lf ff216 (fun F h => ff216 (F 4) h) (fun _ _ _ => none)) _ h).trans (by kernel_rfl))
noncomputable def fy216 : YX Tryz.prog := Y2 fx216 fs216 fs216_eq (by kernel_rfl)

noncomputable def fx217 : XF Tryz.prog := ⟨217, Tryz.f217, fun _ => .text, Tryz.func217, by kernel_rfl, by kernel_rfl, by kernel_rfl, by kernel_rfl⟩
noncomputable def ff217 (x6 : O) (h : HW) : Rs :=
 ob x6 fun a0 =>
 some (.ret a0, h)
noncomputable def q217_1 (C : YC) (lf : Nat) (r : K1) (h : HW) : Rs :=
 r (some (.bool true)) h
theorem q217_1_eq (C : YC) (lf : Nat) (r : K1) (KN : KF) (KE : KX) : ∀ F h, evX fx217 C lf [1, 1, 1, 1, 1, 1] F h KN (fun F h => r (F 6) h) KE = q217_1 C lf r h := by
  intro F h; kernel_rfl
noncomputable def q217_37 (C : YC) (lf : Nat) (n : K6) (r : K1) (e1 : K0) (x3 x8 x9 x50 x51 x52 : O) (h : HW) : Rs :=
 ob x52 fun a3 =>
 ob x51 fun a4 =>
 ob (bin Tryz.prog .lss 3 a3 a4) fun y5 =>
 yIf y5
 (ob x50 fun a6 =>
 ob x52 fun a7 =>
 ob (ixS 1 a6 a7) fun y8 =>
 ob (ld1 y8 h) fun y9 =>
 ob (semNil y9) fun y10 =>
 ob (ld1 y10 h) fun y11 =>
 ob (bin Tryz.prog .gtr 3 y11 (.int .i64 0)) fun y12 =>
 yIf y12
 (ob x52 fun a13 =>
 ob (bin Tryz.prog .add 3 a13 (.int .i64 1)) fun y14 =>
 n x3 x8 x9 x50 x51 (some y14) h)
 (ob x3 fun a15 =>
 ob (ld1 a15 h) fun y16 =>
 ob (semNil y16) fun y17 =>
 ob (fa 0 y17) fun y18 =>
 ob (ld1 y18 h) fun y19 =>
 bc (C (.fn 284) [y19] h) fun y20 h20 =>
 ob (ext 0 y20) fun y21 =>
 ob (ext 1 y20) fun y22 =>
 ob (bin Tryz.prog .neq 23 y22 (.int .i64 0)) fun y23 =>
 yIf y23
 (ob x9 fun a24 =>
 cv false C a24 [] h20 fun y25 h25 =>
 r (some (.bool false)) h25)
 (ob (bin Tryz.prog .add 3 y21 (.int .i64 1)) fun y26 =>
 ob (semNil y9) fun y27 =>
 ob (st 1 y27 y26 h20) fun h28 =>
 ob x8 fun a29 =>
 ob (ld1 a29 h28) fun y30 =>
 b2 (ybs Tryz.prog 380 1 [0] [y9] h28) fun y31 h31 =>
 b2 (ybl Tryz.prog .append #[380, 380] [y30, y31] h31) fun y32 h32 =>
 ob x8 fun a33 =>
 ob (st 1 a33 y32 h32) fun h34 =>
 ob x52 fun a35 =>
 ob (bin Tryz.prog .add 3 a35 (.int .i64 1)) fun y36 =>
 n x3 x8 x9 x50 x51 (some y36) h34)))
 (e1 h)
theorem q217_37_eq (C : YC) (lf : Nat) (n : K6) (r : K1) (e1 : K0) (KE : KX) : ∀ F h, evX fx217 C lf [1, 1, 1, 1, 1, 0, 1, 0, 0] F h (fun F h => n (F 3) (F 8) (F 9) (F 50) (F 51) (F 52) h) (fun F h => r (F 6) h) (bk 1 (fun F h => e1 h) KE) = q217_37 C lf n r e1 (F 3) (F 8) (F 9) (F 50) (F 51) (F 52) h := by
  intro F h; kernel_rfl
noncomputable def l217_2 (C : YC) (lf : Nat) (r : K1) (e1 : K0) (k : O × O × O × O × O × O → HW → Rs) (s : O × O × O × O × O × O) (h : HW) : Rs :=
 q217_37 C lf (fun x3 x8 x9 x50 x51 x52 h => k (x3, x8, x9, x50, x51, x52) h) r e1 s.1 s.2.1 s.2.2.1 s.2.2.2.1 s.2.2.2.2.1 s.2.2.2.2.2 h
noncomputable def q217_45 (C : YC) (lf : Nat) (n : K6) (x1 x2 x3 x7 x8 x9 : O) (h : HW) : Rs :=
 ob x7 fun a38 =>
 ob x1 fun a39 =>
 ob x2 fun a40 =>
 bc (C (.fn 219) [a39, a40] h) fun y41 h41 =>
 b2 (ybs Tryz.prog 380 1 [0] [y41] h41) fun y42 h42 =>
 b2 (ybl Tryz.prog .append #[380, 380] [a38, y42] h42) fun y43 h43 =>
 ob (lenE Tryz.prog 380 y43) fun y44 =>
 n x3 x8 x9 (some y43) (some y44) (some (.int .i64 0)) h43
theorem q217_45_eq (C : YC) (lf : Nat) (n : K6) (KR : KF) (KE : KX) : ∀ F h, evX fx217 C lf [1, 1, 1, 1, 1, 0, 0] F h (fun F h => n (F 3) (F 8) (F 9) (F 50) (F 51) (F 52) h) KR KE = q217_45 C lf n (F 1) (F 2) (F 3) (F 7) (F 8) (F 9) h := by
  intro F h; kernel_rfl
noncomputable def q217_46 (C : YC) (lf : Nat) (n : K0) (r : K1) (x1 x2 x3 x7 x8 x9 : O) (h : HW) : Rs :=
 q217_45 C lf (fun x3 x8 x9 x50 x51 x52 h => lp (l217_2 C lf r n) lf (x3, x8, x9, x50, x51, x52) h) x1 x2 x3 x7 x8 x9 h
theorem q217_46_eq (C : YC) (lf : Nat) (n : K0) (r : K1) (KE : KX) : ∀ F h, evX fx217 C lf [1, 1, 1, 1, 1, 0] F h (fun F h => n h) (fun F h => r (F 6) h) KE = q217_46 C lf n r (F 1) (F 2) (F 3) (F 7) (F 8) (F 9) h := cSeq (a := subX fx217 [1, 1, 1, 1, 1, 0, 0]) (b := subX fx217 [1, 1, 1, 1, 1, 0, 1]) (by kernel_rfl) (B := (fun F h => lp (l217_2 C lf r n) lf ((F 3), (F 8), (F 9), (F 50), (F 51), (F 52)) h)) (cBlock (id := 1) (a := subX fx217 [1, 1, 1, 1, 1, 0, 1, 0]) (by kernel_rfl) (cLoop (a := subX fx217 [1, 1, 1, 1, 1, 0, 1, 0, 0]) (g := fun F => (F 3, F 8, F 9, F 50, F 51, F 52)) (body := l217_2 C lf r n) (by kernel_rfl) (fun k => (q217_37_eq C lf (fun x3 x8 x9 x50 x51 x52 h => k (x3, x8, x9, x50, x51, x52) h) r n KE)))) (q217_45_eq C lf (fun x3 x8 x9 x50 x51 x52 h => lp (l217_2 C lf r n) lf (x3, x8, x9, x50, x51, x52) h) (fun F h => r (F 6) h) KE)
noncomputable def q217_47 (C : YC) (lf : Nat) (r : K1) (x1 x2 x3 x7 x8 x9 : O) (h : HW) : Rs :=
 q217_46 C lf (fun h => q217_1 C lf r h) r x1 x2 x3 x7 x8 x9 h
theorem q217_47_eq (C : YC) (lf : Nat) (r : K1) (KN : KF) (KE : KX) : ∀ F h, evX fx217 C lf [1, 1, 1, 1, 1] F h KN (fun F h => r (F 6) h) KE = q217_47 C lf r (F 1) (F 2) (F 3) (F 7) (F 8) (F 9) h := cSeq (a := subX fx217 [1, 1, 1, 1, 1, 0]) (b := subX fx217 [1, 1, 1, 1, 1, 1]) (by kernel_rfl) (B := (fun F h => q217_1 C lf r h)) (q217_1_eq C lf r KN KE) (q217_46_eq C lf (fun h => q217_1 C lf r h) r KE)
noncomputable def q217_50 (C : YC) (lf : Nat) (n : K6) (x1 x2 x3 x7 x8 : O) (h : HW) : Rs :=
 ob x8 fun a48 =>
 ob x3 fun a49 =>
 n x1 x2 x3 x7 x8 (some (.fn (.func 282) [] [a48, a49])) h
theorem q217_50_eq (C : YC) (lf : Nat) (n : K6) (KR : KF) (KE : KX) : ∀ F h, evX fx217 C lf [1, 1, 1, 1, 0] F h (fun F h => n (F 1) (F 2) (F 3) (F 7) (F 8) (F 9) h) KR KE = q217_50 C lf n (F 1) (F 2) (F 3) (F 7) (F 8) h := by
  intro F h; kernel_rfl
noncomputable def q217_51 (C : YC) (lf : Nat) (r : K1) (x1 x2 x3 x7 x8 : O) (h : HW) : Rs :=
 q217_50 C lf (fun x1 x2 x3 x7 x8 x9 h => q217_47 C lf r x1 x2 x3 x7 x8 x9 h) x1 x2 x3 x7 x8 h
theorem q217_51_eq (C : YC) (lf : Nat) (r : K1) (KN : KF) (KE : KX) : ∀ F h, evX fx217 C lf [1, 1, 1, 1] F h KN (fun F h => r (F 6) h) KE = q217_51 C lf r (F 1) (F 2) (F 3) (F 7) (F 8) h := cSeq (a := subX fx217 [1, 1, 1, 1, 0]) (b := subX fx217 [1, 1, 1, 1, 1]) (by kernel_rfl) (B := (fun F h => q217_47 C lf r (F 1) (F 2) (F 3) (F 7) (F 8) (F 9) h)) (q217_47_eq C lf r KN KE) (q217_50_eq C lf (fun x1 x2 x3 x7 x8 x9 h => q217_47 C lf r x1 x2 x3 x7 x8 x9 h) (fun F h => r (F 6) h) KE)
noncomputable def q217_53 (C : YC) (lf : Nat) (n : K5) (x1 x2 x3 x7 : O) (h : HW) : Rs :=
 b2 (yAl Tryz.prog 380 h) fun y52 h52 =>
 n x1 x2 x3 x7 (some y52) h52
theorem q217_53_eq (C : YC) (lf : Nat) (n : K5) (KR : KF) (KE : KX) : ∀ F h, evX fx217 C lf [1, 1, 1, 0] F h (fun F h => n (F 1) (F 2) (F 3) (F 7) (F 8) h) KR KE = q217_53 C lf n (F 1) (F 2) (F 3) (F 7) h := by
  intro F h; kernel_rfl
noncomputable def q217_54 (C : YC) (lf : Nat) (r : K1) (x1 x2 x3 x7 : O) (h : HW) : Rs :=
 q217_53 C lf (fun x1 x2 x3 x7 x8 h => q217_51 C lf r x1 x2 x3 x7 x8 h) x1 x2 x3 x7 h
theorem q217_54_eq (C : YC) (lf : Nat) (r : K1) (KN : KF) (KE : KX) : ∀ F h, evX fx217 C lf [1, 1, 1] F h KN (fun F h => r (F 6) h) KE = q217_54 C lf r (F 1) (F 2) (F 3) (F 7) h := cSeq (a := subX fx217 [1, 1, 1, 0]) (b := subX fx217 [1, 1, 1, 1]) (by kernel_rfl) (B := (fun F h => q217_51 C lf r (F 1) (F 2) (F 3) (F 7) (F 8) h)) (q217_51_eq C lf r KN KE) (q217_53_eq C lf (fun x1 x2 x3 x7 x8 h => q217_51 C lf r x1 x2 x3 x7 x8 h) (fun F h => r (F 6) h) KE)
noncomputable def q217_82 (C : YC) (lf : Nat) (n : K4) (r : K1) (x1 x2 x3 x7 : O) (h : HW) : Rs :=
 ob x1 fun a55 =>
 ob x2 fun a56 =>
 bc (C (.fn 219) [a55, a56] h) fun y57 h57 =>
 ob (semNil y57) fun y58 =>
 ob (ld1 y58 h57) fun y59 =>
 ob (bin Tryz.prog .gtr 3 y59 (.int .i64 0)) fun y60 =>
 yIf y60
 (r (some (.bool true)) h57)
 (ob x2 fun a61 =>
 ob (bin Tryz.prog .geq 3 a61 (.int .i64 22)) fun y62 =>
 yIf y62
 (ob x1 fun a63 =>
 ob (semNil a63) fun y64 =>
 ob (fa 35 y64) fun y65 =>
 ob x1 fun a66 =>
 ob x2 fun a67 =>
 ob (bin Tryz.prog .sub 3 a67 (.int .i64 22)) fun y68 =>
 ob (bin Tryz.prog .quo 3 y68 (.int .i64 16)) fun y69 =>
 ob (semNil a66) fun y70 =>
 ob (fa 36 y70) fun y71 =>
 ob (ixA 16 17 y71 y69) fun y72 =>
 ob (fa 0 y72) fun y73 =>
 b2 (ybs Tryz.prog 380 2 [0, 1] [y65, y73] h57) fun y74 h74 =>
 n x1 x2 x3 (some y74) h74)
 (ob x2 fun a75 =>
 ob (bin Tryz.prog .geq 3 a75 (.int .i64 6)) fun y76 =>
 yIf y76
 (ob x1 fun a77 =>
 ob (semNil a77) fun y78 =>
 ob (fa 18 y78) fun y79 =>
 ob (fa 0 y79) fun y80 =>
 b2 (ybs Tryz.prog 380 1 [0] [y80] h57) fun y81 h81 =>
 n x1 x2 x3 (some y81) h81)
 (n x1 x2 x3 x7 h57)))
theorem q217_82_eq (C : YC) (lf : Nat) (n : K4) (r : K1) (KE : KX) : ∀ F h, evX fx217 C lf [1, 1, 0] F h (fun F h => n (F 1) (F 2) (F 3) (F 7) h) (fun F h => r (F 6) h) KE = q217_82 C lf n r (F 1) (F 2) (F 3) (F 7) h := by
  intro F h; kernel_rfl
noncomputable def q217_83 (C : YC) (lf : Nat) (r : K1) (x1 x2 x3 x7 : O) (h : HW) : Rs :=
 q217_82 C lf (fun x1 x2 x3 x7 h => q217_54 C lf r x1 x2 x3 x7 h) r x1 x2 x3 x7 h
theorem q217_83_eq (C : YC) (lf : Nat) (r : K1) (KN : KF) (KE : KX) : ∀ F h, evX fx217 C lf [1, 1] F h KN (fun F h => r (F 6) h) KE = q217_83 C lf r (F 1) (F 2) (F 3) (F 7) h := cSeq (a := subX fx217 [1, 1, 0]) (b := subX fx217 [1, 1, 1]) (by kernel_rfl) (B := (fun F h => q217_54 C lf r (F 1) (F 2) (F 3) (F 7) h)) (q217_54_eq C lf r KN KE) (q217_82_eq C lf (fun x1 x2 x3 x7 h => q217_54 C lf r x1 x2 x3 x7 h) r KE)
noncomputable def q217_84 (C : YC) (lf : Nat) (n : K4) (x1 x2 x3 : O) (h : HW) : Rs :=
 n x1 x2 x3 (some (.val (.slice none 0 0))) h
theorem q217_84_eq (C : YC) (lf : Nat) (n : K4) (KR : KF) (KE : KX) : ∀ F h, evX fx217 C lf [1, 0] F h (fun F h => n (F 1) (F 2) (F 3) (F 7) h) KR KE = q217_84 C lf n (F 1) (F 2) (F 3) h := by
  intro F h; kernel_rfl
noncomputable def q217_85 (C : YC) (lf : Nat) (r : K1) (x1 x2 x3 : O) (h : HW) : Rs :=
 q217_84 C lf (fun x1 x2 x3 x7 h => q217_83 C lf r x1 x2 x3 x7 h) x1 x2 x3 h
theorem q217_85_eq (C : YC) (lf : Nat) (r : K1) (KN : KF) (KE : KX) : ∀ F h, evX fx217 C lf [1] F h KN (fun F h => r (F 6) h) KE = q217_85 C lf r (F 1) (F 2) (F 3) h := cSeq (a := subX fx217 [1, 0]) (b := subX fx217 [1, 1]) (by kernel_rfl) (B := (fun F h => q217_83 C lf r (F 1) (F 2) (F 3) (F 7) h)) (q217_83_eq C lf r KN KE) (q217_84_eq C lf (fun x1 x2 x3 x7 h => q217_83 C lf r x1 x2 x3 x7 h) (fun F h => r (F 6) h) KE)
noncomputable def q217_88 (C : YC) (lf : Nat) (n : K3) (x0 x1 x2 : O) (h : HW) : Rs :=
 ob x0 fun a86 =>
 b2 (ybx 213 a86 h) fun y87 h87 =>
 n x1 x2 (some y87) h87
theorem q217_88_eq (C : YC) (lf : Nat) (n : K3) (KR : KF) (KE : KX) : ∀ F h, evX fx217 C lf [0] F h (fun F h => n (F 1) (F 2) (F 3) h) KR KE = q217_88 C lf n (F 0) (F 1) (F 2) h := by
  intro F h; kernel_rfl
noncomputable def q217_89 (C : YC) (lf : Nat) (r : K1) (x0 x1 x2 : O) (h : HW) : Rs :=
 q217_88 C lf (fun x1 x2 x3 h => q217_85 C lf r x1 x2 x3 h) x0 x1 x2 h
theorem q217_89_eq (C : YC) (lf : Nat) (r : K1) (KN : KF) (KE : KX) : ∀ F h, evX fx217 C lf [] F h KN (fun F h => r (F 6) h) KE = q217_89 C lf r (F 0) (F 1) (F 2) h := cSeq (a := subX fx217 [0]) (b := subX fx217 [1]) (by kernel_rfl) (B := (fun F h => q217_85 C lf r (F 1) (F 2) (F 3) h)) (q217_85_eq C lf r KN KE) (q217_88_eq C lf (fun x1 x2 x3 h => q217_85 C lf r x1 x2 x3 h) (fun F h => r (F 6) h) KE)
noncomputable def fs217 (C : YC) (lf : Nat) (a0 a1 a2 : SV) (h : HW) : Rs := q217_89 C lf ff217 (some a0) (some a1) (some a2) h
theorem fs217_eq (C : YC) (lf : Nat) (a0 a1 a2 : SV) (h : HW) : yFn Tryz.prog fx217 C lf [a0, a1, a2] h = fs217 C lf a0 a1 a2 h := fnX (K := (fun F h => ff217 (F 6) h)) (by kernel_rfl) (((q217_89_eq C lf ff217 (fun F h => ff217 (F 6) h) (fun _ _ _ => none)) _ h).trans (by kernel_rfl))
noncomputable def fy217 : YX Tryz.prog := Y3 fx217 fs217 fs217_eq (by kernel_rfl)

noncomputable def fx218 : XF Tryz.prog := ⟨218, Tryz.f218, fun _ => .text, Tryz.func218, by kernel_rfl, by kernel_rfl, by kernel_rfl, by kernel_rfl⟩
noncomputable def ff218 (x8 : O) (h : HW) : Rs :=
 ob x8 fun a0 =>
 some (.ret a0, h)
noncomputable def q218_39 (C : YC) (lf : Nat) (r : K1) (x0 x1 x2 x3 : O) (h : HW) : Rs :=
 ob x0 fun a1 =>
 bc (C (.fn 285) [a1] h) fun y2 h2 =>
 ob (unE .not y2) fun y3 =>
 yIf y3
 (r (some (.int .i64 14)) h2)
 (ob x0 fun a4 =>
 ob x1 fun a5 =>
 bc (C (.fn 286) [a4, a5] h2) fun y6 h6 =>
 ob (unE .not y6) fun y7 =>
 bc (gd false (some y7) (ob x2 fun a8 =>
 some (.ret a8, h6)) h6) fun y9 h9 =>
 bc (gd false (some y7) (ob (bin Tryz.prog .lss 3 y9 (.int .i64 0)) fun y10 =>
 some (.ret y10, h9)) h9) fun y11 h11 =>
 ob (ypk y7 (.bool true) y11) fun y12 =>
 bc (gd false (some y12) (ob x2 fun a13 =>
 some (.ret a13, h11)) h11) fun y14 h14 =>
 bc (gd false (some y12) (ob (bin Tryz.prog .gtr 3 y14 (.int .i64 64)) fun y15 =>
 some (.ret y15, h14)) h14) fun y16 h16 =>
 ob (ypk y12 (.bool true) y16) fun y17 =>
 bc (gd false (some y17) (ob x3 fun a18 =>
 some (.ret a18, h16)) h16) fun y19 h19 =>
 bc (gd false (some y17) (ob (lenE Tryz.prog 31 y19) fun y20 =>
 some (.ret y20, h19)) h19) fun y21 h21 =>
 bc (gd false (some y17) (ob x2 fun a22 =>
 some (.ret a22, h21)) h21) fun y23 h23 =>
 bc (gd false (some y17) (ob (bin Tryz.prog .sub 3 (.int .i64 64) y23) fun y24 =>
 some (.ret y24, h23)) h23) fun y25 h25 =>
 bc (gd false (some y17) (ob (bin Tryz.prog .gtr 3 y21 y25) fun y26 =>
 some (.ret y26, h25)) h25) fun y27 h27 =>
 ob (ypk y17 (.bool true) y27) fun y28 =>
 yIf y28
 (r (some (.int .i64 22)) h27)
 (ob x0 fun a29 =>
 ob (semNil a29) fun y30 =>
 ob (fa 65 y30) fun y31 =>
 ob (ld1 y31 h27) fun y32 =>
 ob x1 fun a33 =>
 ob (ixS 64 y32 a33) fun y34 =>
 ob x2 fun a35 =>
 ob (semSlice Tryz.prog 182 y34 (some a35) none) fun y36 =>
 ob x3 fun a37 =>
 b2 (ybl Tryz.prog .copy #[31, 31] [y36, a37] h27) fun y38 h38 =>
 r (some (.int .i64 0)) h38))
theorem q218_39_eq (C : YC) (lf : Nat) (r : K1) (KN : KF) (KE : KX) : ∀ F h, evX fx218 C lf [] F h KN (fun F h => r (F 8) h) KE = q218_39 C lf r (F 0) (F 1) (F 2) (F 3) h := by
  intro F h; kernel_rfl
noncomputable def fs218 (C : YC) (lf : Nat) (a0 a1 a2 a3 : SV) (h : HW) : Rs := q218_39 C lf ff218 (some a0) (some a1) (some a2) (some a3) h
theorem fs218_eq (C : YC) (lf : Nat) (a0 a1 a2 a3 : SV) (h : HW) : yFn Tryz.prog fx218 C lf [a0, a1, a2, a3] h = fs218 C lf a0 a1 a2 a3 h := fnX (K := (fun F h => ff218 (F 8) h)) (by kernel_rfl) (((q218_39_eq C lf ff218 (fun F h => ff218 (F 8) h) (fun _ _ _ => none)) _ h).trans (by kernel_rfl))
noncomputable def fy218 : YX Tryz.prog := Y4 fx218 fs218 fs218_eq (by kernel_rfl)

noncomputable def fx219 : XF Tryz.prog := ⟨219, Tryz.f219, fun _ => .text, Tryz.func219, by kernel_rfl, by kernel_rfl, by kernel_rfl, by kernel_rfl⟩
noncomputable def ff219 (x4 : O) (h : HW) : Rs :=
 ob x4 fun a0 =>
 some (.ret a0, h)
noncomputable def q219_27 (C : YC) (lf : Nat) (r : K1) (x0 x1 : O) (h : HW) : Rs :=
 ob x1 fun a1 =>
 ob (bin Tryz.prog .lss 3 a1 (.int .i64 6)) fun y2 =>
 yIf y2
 (ob x0 fun a3 =>
 ob x1 fun a4 =>
 ob (semNil a3) fun y5 =>
 ob (fa 12 y5) fun y6 =>
 ob (ixA 6 1 y6 a4) fun y7 =>
 r (some y7) h)
 (ob x1 fun a8 =>
 ob (bin Tryz.prog .lss 3 a8 (.int .i64 22)) fun y9 =>
 yIf y9
 (ob x0 fun a10 =>
 ob x1 fun a11 =>
 ob (bin Tryz.prog .sub 3 a11 (.int .i64 6)) fun y12 =>
 ob (semNil a10) fun y13 =>
 ob (fa 18 y13) fun y14 =>
 ob (fa 1 y14) fun y15 =>
 ob (ixA 16 1 y15 y12) fun y16 =>
 r (some y16) h)
 (ob x1 fun a17 =>
 ob (bin Tryz.prog .sub 3 a17 (.int .i64 22)) fun y18 =>
 ob x0 fun a19 =>
 ob (bin Tryz.prog .quo 3 y18 (.int .i64 16)) fun y20 =>
 ob (bin Tryz.prog .rem 3 y18 (.int .i64 16)) fun y21 =>
 ob (semNil a19) fun y22 =>
 ob (fa 36 y22) fun y23 =>
 ob (ixA 16 17 y23 y20) fun y24 =>
 ob (fa 1 y24) fun y25 =>
 ob (ixA 16 1 y25 y21) fun y26 =>
 r (some y26) h))
theorem q219_27_eq (C : YC) (lf : Nat) (r : K1) (KN : KF) (KE : KX) : ∀ F h, evX fx219 C lf [] F h KN (fun F h => r (F 4) h) KE = q219_27 C lf r (F 0) (F 1) h := by
  intro F h; kernel_rfl
noncomputable def fs219 (C : YC) (lf : Nat) (a0 a1 : SV) (h : HW) : Rs := q219_27 C lf ff219 (some a0) (some a1) h
theorem fs219_eq (C : YC) (lf : Nat) (a0 a1 : SV) (h : HW) : yFn Tryz.prog fx219 C lf [a0, a1] h = fs219 C lf a0 a1 h := fnX (K := (fun F h => ff219 (F 4) h)) (by kernel_rfl) (((q219_27_eq C lf ff219 (fun F h => ff219 (F 4) h) (fun _ _ _ => none)) _ h).trans (by kernel_rfl))
noncomputable def fy219 : YX Tryz.prog := Y2 fx219 fs219 fs219_eq (by kernel_rfl)

noncomputable def fx220 : XF Tryz.prog := ⟨220, Tryz.f220, fun _ => .text, Tryz.func220, by kernel_rfl, by kernel_rfl, by kernel_rfl, by kernel_rfl⟩
noncomputable def ff220 (h : HW) : Rs :=
 some (.ret (.tup []), h)
noncomputable def q220_18 (C : YC) (lf : Nat) (n : K0) (x0 x1 : O) (h : HW) : Rs :=
 ob x1 fun a0 =>
 ob x1 fun a1 =>
 ob x0 fun a2 =>
 ob (semNil a2) fun y3 =>
 ob (fa 2 y3) fun y4 =>
 ob (ld1 y4 h) fun y5 =>
 ob x0 fun a6 =>
 ob (semNil a6) fun y7 =>
 ob (fa 2 y7) fun y8 =>
 ob (ld1 y8 h) fun y9 =>
 ob (semNil a0) fun y10 =>
 ob (fa 1 y10) fun y11 =>
 ob (fa 8 y11) fun y12 =>
 ob (st 1 y12 y5 h) fun h13 =>
 ob (semNil a1) fun y14 =>
 ob (fa 1 y14) fun y15 =>
 ob (fa 9 y15) fun y16 =>
 ob (st 1 y16 y9 h13) fun h17 =>
 n h17
theorem q220_18_eq (C : YC) (lf : Nat) (n : K0) (KR : KF) (KE : KX) : ∀ F h, evX fx220 C lf [] F h (fun F h => n h) KR KE = q220_18 C lf n (F 0) (F 1) h := by
  intro F h; kernel_rfl
noncomputable def fs220 (C : YC) (lf : Nat) (a0 a1 : SV) (h : HW) : Rs := q220_18 C lf ff220 (some a0) (some a1) h
theorem fs220_eq (C : YC) (lf : Nat) (a0 a1 : SV) (h : HW) : yFn Tryz.prog fx220 C lf [a0, a1] h = fs220 C lf a0 a1 h := fnX (K := (fun F h => ff220 h)) (by kernel_rfl) (((q220_18_eq C lf ff220 (fun F h => ff220 h) (fun _ _ _ => none)) _ h).trans (by kernel_rfl))
noncomputable def fy220 : YX Tryz.prog := Y2 fx220 fs220 fs220_eq (by kernel_rfl)

noncomputable def fx221 : XF Tryz.prog := ⟨221, Tryz.f221, fun _ => .text, Tryz.func221, by kernel_rfl, by kernel_rfl, by kernel_rfl, by kernel_rfl⟩
noncomputable def ff221 (x10 : O) (h : HW) : Rs :=
 ob x10 fun a0 =>
 some (.ret a0, h)
noncomputable def q221_6 (C : YC) (lf : Nat) (r : K1) (x11 x12 : O) (h : HW) : Rs :=
 ob x12 fun a1 =>
 ob x11 fun a2 =>
 ob (bin Tryz.prog .and 30 a1 a2) fun y3 =>
 ob x11 fun a4 =>
 ob (bin Tryz.prog .eql 30 y3 a4) fun y5 =>
 r (some y5) h
theorem q221_6_eq (C : YC) (lf : Nat) (r : K1) (KN : KF) (KE : KX) : ∀ F h, evX fx221 C lf [1, 1, 1, 1, 1] F h KN (fun F h => r (F 10) h) KE = q221_6 C lf r (F 11) (F 12) h := by
  intro F h; kernel_rfl
noncomputable def q221_20 (C : YC) (lf : Nat) (n : K2) (x0 x1 x2 x8 x11 x12 : O) (h : HW) : Rs :=
 ob x8 fun a7 =>
 ob (fa 0 a7) fun y8 =>
 ob (ld1 y8 h) fun y9 =>
 ob x1 fun a10 =>
 ob (bin Tryz.prog .eql 3 y9 a10) fun y11 =>
 yIf y11
 (ob x0 fun a12 =>
 ob (bin Tryz.prog .shr 30 a12 (.int .u64 6)) fun y13 =>
 n x11 (some y13) h)
 (ob x8 fun a14 =>
 ob (ldN 5 a14 h) fun y15 =>
 ob x2 fun a16 =>
 bc (C (.fn 287) [y15, a16] h) fun y17 h17 =>
 yIf y17
 (ob x0 fun a18 =>
 ob (bin Tryz.prog .shr 30 a18 (.int .u64 3)) fun y19 =>
 n x11 (some y19) h17)
 (n x11 x12 h17))
theorem q221_20_eq (C : YC) (lf : Nat) (n : K2) (KR : KF) (KE : KX) : ∀ F h, evX fx221 C lf [1, 1, 1, 1, 0] F h (fun F h => n (F 11) (F 12) h) KR KE = q221_20 C lf n (F 0) (F 1) (F 2) (F 8) (F 11) (F 12) h := by
  intro F h; kernel_rfl
noncomputable def q221_21 (C : YC) (lf : Nat) (r : K1) (x0 x1 x2 x8 x11 x12 : O) (h : HW) : Rs :=
 q221_20 C lf (fun x11 x12 h => q221_6 C lf r x11 x12 h) x0 x1 x2 x8 x11 x12 h
theorem q221_21_eq (C : YC) (lf : Nat) (r : K1) (KN : KF) (KE : KX) : ∀ F h, evX fx221 C lf [1, 1, 1, 1] F h KN (fun F h => r (F 10) h) KE = q221_21 C lf r (F 0) (F 1) (F 2) (F 8) (F 11) (F 12) h := cSeq (a := subX fx221 [1, 1, 1, 1, 0]) (b := subX fx221 [1, 1, 1, 1, 1]) (by kernel_rfl) (B := (fun F h => q221_6 C lf r (F 11) (F 12) h)) (q221_6_eq C lf r KN KE) (q221_20_eq C lf (fun x11 x12 h => q221_6 C lf r x11 x12 h) (fun F h => r (F 10) h) KE)
noncomputable def q221_23 (C : YC) (lf : Nat) (n : K6) (x0 x1 x2 x8 x11 : O) (h : HW) : Rs :=
 ob x0 fun a22 =>
 n x0 x1 x2 x8 x11 (some a22) h
theorem q221_23_eq (C : YC) (lf : Nat) (n : K6) (KR : KF) (KE : KX) : ∀ F h, evX fx221 C lf [1, 1, 1, 0] F h (fun F h => n (F 0) (F 1) (F 2) (F 8) (F 11) (F 12) h) KR KE = q221_23 C lf n (F 0) (F 1) (F 2) (F 8) (F 11) h := by
  intro F h; kernel_rfl
noncomputable def q221_24 (C : YC) (lf : Nat) (r : K1) (x0 x1 x2 x8 x11 : O) (h : HW) : Rs :=
 q221_23 C lf (fun x0 x1 x2 x8 x11 x12 h => q221_21 C lf r x0 x1 x2 x8 x11 x12 h) x0 x1 x2 x8 x11 h
theorem q221_24_eq (C : YC) (lf : Nat) (r : K1) (KN : KF) (KE : KX) : ∀ F h, evX fx221 C lf [1, 1, 1] F h KN (fun F h => r (F 10) h) KE = q221_24 C lf r (F 0) (F 1) (F 2) (F 8) (F 11) h := cSeq (a := subX fx221 [1, 1, 1, 0]) (b := subX fx221 [1, 1, 1, 1]) (by kernel_rfl) (B := (fun F h => q221_21 C lf r (F 0) (F 1) (F 2) (F 8) (F 11) (F 12) h)) (q221_21_eq C lf r KN KE) (q221_23_eq C lf (fun x0 x1 x2 x8 x11 x12 h => q221_21 C lf r x0 x1 x2 x8 x11 x12 h) (fun F h => r (F 10) h) KE)
noncomputable def q221_46 (C : YC) (lf : Nat) (n : K5) (r : K1) (x0 x1 x2 x8 x11 : O) (h : HW) : Rs :=
 ob x8 fun a25 =>
 ob (fa 0 a25) fun y26 =>
 ob (ld1 y26 h) fun y27 =>
 ob (bin Tryz.prog .eql 3 y27 (.int .i64 0)) fun y28 =>
 yIf y28
 (ob x11 fun a29 =>
 ob (bin Tryz.prog .and 30 a29 (.int .i64 1)) fun y30 =>
 ob (bin Tryz.prog .eql 30 y30 (.int .i64 0)) fun y31 =>
 bc (gd false (some y31) (ob x0 fun a32 =>
 some (.ret a32, h)) h) fun y33 h33 =>
 bc (gd false (some y31) (ob (bin Tryz.prog .and 30 y33 (.int .i64 61440)) fun y34 =>
 some (.ret y34, h33)) h33) fun y35 h35 =>
 bc (gd false (some y31) (ob (bin Tryz.prog .eql 30 y35 (.int .i64 16384)) fun y36 =>
 some (.ret y36, h35)) h35) fun y37 h37 =>
 ob (ypk y31 (.bool true) y37) fun y38 =>
 bc (gd false (some y38) (ob x0 fun a39 =>
 some (.ret a39, h37)) h37) fun y40 h40 =>
 bc (gd false (some y38) (ob (bin Tryz.prog .and 30 y40 (.int .i64 73)) fun y41 =>
 some (.ret y41, h40)) h40) fun y42 h42 =>
 bc (gd false (some y38) (ob (bin Tryz.prog .neq 30 y42 (.int .i64 0)) fun y43 =>
 some (.ret y43, h42)) h42) fun y44 h44 =>
 ob (ypk y38 (.bool true) y44) fun y45 =>
 r (some y45) h44)
 (n x0 x1 x2 x8 x11 h)
theorem q221_46_eq (C : YC) (lf : Nat) (n : K5) (r : K1) (KE : KX) : ∀ F h, evX fx221 C lf [1, 1, 0] F h (fun F h => n (F 0) (F 1) (F 2) (F 8) (F 11) h) (fun F h => r (F 10) h) KE = q221_46 C lf n r (F 0) (F 1) (F 2) (F 8) (F 11) h := by
  intro F h; kernel_rfl
noncomputable def q221_47 (C : YC) (lf : Nat) (r : K1) (x0 x1 x2 x8 x11 : O) (h : HW) : Rs :=
 q221_46 C lf (fun x0 x1 x2 x8 x11 h => q221_24 C lf r x0 x1 x2 x8 x11 h) r x0 x1 x2 x8 x11 h
theorem q221_47_eq (C : YC) (lf : Nat) (r : K1) (KN : KF) (KE : KX) : ∀ F h, evX fx221 C lf [1, 1] F h KN (fun F h => r (F 10) h) KE = q221_47 C lf r (F 0) (F 1) (F 2) (F 8) (F 11) h := cSeq (a := subX fx221 [1, 1, 0]) (b := subX fx221 [1, 1, 1]) (by kernel_rfl) (B := (fun F h => q221_24 C lf r (F 0) (F 1) (F 2) (F 8) (F 11) h)) (q221_24_eq C lf r KN KE) (q221_46_eq C lf (fun x0 x1 x2 x8 x11 h => q221_24 C lf r x0 x1 x2 x8 x11 h) r KE)
noncomputable def q221_50 (C : YC) (lf : Nat) (n : K5) (x0 x1 x2 x4 x8 : O) (h : HW) : Rs :=
 ob x4 fun a48 =>
 ob (bin Tryz.prog .and 3 a48 (.int .i64 7)) fun y49 =>
 n x0 x1 x2 x8 (some y49) h
theorem q221_50_eq (C : YC) (lf : Nat) (n : K5) (KR : KF) (KE : KX) : ∀ F h, evX fx221 C lf [1, 0] F h (fun F h => n (F 0) (F 1) (F 2) (F 8) (F 11) h) KR KE = q221_50 C lf n (F 0) (F 1) (F 2) (F 4) (F 8) h := by
  intro F h; kernel_rfl
noncomputable def q221_51 (C : YC) (lf : Nat) (r : K1) (x0 x1 x2 x4 x8 : O) (h : HW) : Rs :=
 q221_50 C lf (fun x0 x1 x2 x8 x11 h => q221_47 C lf r x0 x1 x2 x8 x11 h) x0 x1 x2 x4 x8 h
theorem q221_51_eq (C : YC) (lf : Nat) (r : K1) (KN : KF) (KE : KX) : ∀ F h, evX fx221 C lf [1] F h KN (fun F h => r (F 10) h) KE = q221_51 C lf r (F 0) (F 1) (F 2) (F 4) (F 8) h := cSeq (a := subX fx221 [1, 0]) (b := subX fx221 [1, 1]) (by kernel_rfl) (B := (fun F h => q221_47 C lf r (F 0) (F 1) (F 2) (F 8) (F 11) h)) (q221_47_eq C lf r KN KE) (q221_50_eq C lf (fun x0 x1 x2 x8 x11 h => q221_47 C lf r x0 x1 x2 x8 x11 h) (fun F h => r (F 10) h) KE)
noncomputable def q221_54 (C : YC) (lf : Nat) (n : K5) (x0 x1 x2 x3 x4 : O) (h : HW) : Rs :=
 ob x3 fun a52 =>
 b2 (ybx 46 a52 h) fun y53 h53 =>
 n x0 x1 x2 x4 (some y53) h53
theorem q221_54_eq (C : YC) (lf : Nat) (n : K5) (KR : KF) (KE : KX) : ∀ F h, evX fx221 C lf [0] F h (fun F h => n (F 0) (F 1) (F 2) (F 4) (F 8) h) KR KE = q221_54 C lf n (F 0) (F 1) (F 2) (F 3) (F 4) h := by
  intro F h; kernel_rfl
noncomputable def q221_55 (C : YC) (lf : Nat) (r : K1) (x0 x1 x2 x3 x4 : O) (h : HW) : Rs :=
 q221_54 C lf (fun x0 x1 x2 x4 x8 h => q221_51 C lf r x0 x1 x2 x4 x8 h) x0 x1 x2 x3 x4 h
theorem q221_55_eq (C : YC) (lf : Nat) (r : K1) (KN : KF) (KE : KX) : ∀ F h, evX fx221 C lf [] F h KN (fun F h => r (F 10) h) KE = q221_55 C lf r (F 0) (F 1) (F 2) (F 3) (F 4) h := cSeq (a := subX fx221 [0]) (b := subX fx221 [1]) (by kernel_rfl) (B := (fun F h => q221_51 C lf r (F 0) (F 1) (F 2) (F 4) (F 8) h)) (q221_51_eq C lf r KN KE) (q221_54_eq C lf (fun x0 x1 x2 x4 x8 h => q221_51 C lf r x0 x1 x2 x4 x8 h) (fun F h => r (F 10) h) KE)
noncomputable def fs221 (C : YC) (lf : Nat) (a0 a1 a2 a3 a4 : SV) (h : HW) : Rs := q221_55 C lf ff221 (some a0) (some a1) (some a2) (some a3) (some a4) h
theorem fs221_eq (C : YC) (lf : Nat) (a0 a1 a2 a3 a4 : SV) (h : HW) : yFn Tryz.prog fx221 C lf [a0, a1, a2, a3, a4] h = fs221 C lf a0 a1 a2 a3 a4 h := fnX (K := (fun F h => ff221 (F 10) h)) (by kernel_rfl) (((q221_55_eq C lf ff221 (fun F h => ff221 (F 10) h) (fun _ _ _ => none)) _ h).trans (by kernel_rfl))
noncomputable def fy221 : YX Tryz.prog := Y5 fx221 fs221 fs221_eq (by kernel_rfl)

noncomputable def fx226 : XF Tryz.prog := ⟨226, Tryz.f226, fun r => bif Nat.beq r 3 then .news [0, 2, 3, 4, 1, 5, 6, 7, 8, 9] [5] [] else .text, Tryz.func226, by kernel_rfl, by kernel_rfl, by kernel_rfl, by kernel_rfl⟩
noncomputable def ff226 (x4 x5 : O) (h : HW) : Rs :=
 ob x4 fun a0 =>
 ob x5 fun a1 =>
 some (.ret (.tup [a0, a1]), h)
noncomputable def q226_28 (C : YC) (lf : Nat) (r : K2) (x0 x1 : O) (h : HW) : Rs :=
 ob x0 fun a2 =>
 ob (bin Tryz.prog .lss 3 a2 (.int .i64 1)) fun y3 =>
 bc (gd false (some y3) (ob x0 fun a4 =>
 some (.ret a4, h)) h) fun y5 h5 =>
 bc (gd false (some y3) (ob (bin Tryz.prog .gtr 3 y5 (.int .i64 4096)) fun y6 =>
 some (.ret y6, h5)) h5) fun y7 h7 =>
 ob (ypk y3 (.bool true) y7) fun y8 =>
 bc (gd false (some y8) (ob x1 fun a9 =>
 some (.ret a9, h7)) h7) fun y10 h10 =>
 bc (gd false (some y8) (ob (bin Tryz.prog .lss 3 y10 (.int .i64 1)) fun y11 =>
 some (.ret y11, h10)) h10) fun y12 h12 =>
 ob (ypk y8 (.bool true) y12) fun y13 =>
 bc (gd false (some y13) (ob x1 fun a14 =>
 some (.ret a14, h12)) h12) fun y15 h15 =>
 bc (gd false (some y13) (ob (bin Tryz.prog .gtr 3 y15 (.int .i64 4096)) fun y16 =>
 some (.ret y16, h15)) h15) fun y17 h17 =>
 ob (ypk y13 (.bool true) y17) fun y18 =>
 yIf y18
 (r (some (.val (.pointer none))) (some (.int .i64 22)) h17)
 (nwB [5] 10 h17 fun b19 h19 =>
 ob x0 fun a20 =>
 ob x1 fun a21 =>
 ob x1 fun a22 =>
 ob (bin Tryz.prog .add 3 a22 (.int .i64 1)) fun y23 =>
 bcn (C (.fn 289) [a20] h19) fun y24 h24 =>
 ck (lowV b19 y23 && lowV b19 y23) <|
 b2 (ynf (ymk Tryz.prog 389 y23 y23) b19 5 h24) fun y25 h25 =>
 ob (semBuild Tryz.prog 391 [0, 1, 3] [y24, a21, y25]) fun y26 =>
 b2 (ybx 391 y26 h25) fun y27 h27 =>
 r (some y27) (some (.int .i64 0)) h27)
theorem q226_28_eq (C : YC) (lf : Nat) (r : K2) (KN : KF) (KE : KX) : ∀ F h, evX fx226 C lf [] F h KN (fun F h => r (F 4) (F 5) h) KE = q226_28 C lf r (F 0) (F 1) h := by
  intro F h; kernel_rfl
noncomputable def fs226 (C : YC) (lf : Nat) (a0 a1 : SV) (h : HW) : Rs := q226_28 C lf ff226 (some a0) (some a1) h
theorem fs226_eq (C : YC) (lf : Nat) (a0 a1 : SV) (h : HW) : yFn Tryz.prog fx226 C lf [a0, a1] h = fs226 C lf a0 a1 h := fnX (K := (fun F h => ff226 (F 4) (F 5) h)) (by kernel_rfl) (((q226_28_eq C lf ff226 (fun F h => ff226 (F 4) (F 5) h) (fun _ _ _ => none)) _ h).trans (by kernel_rfl))
noncomputable def fy226 : YX Tryz.prog := Y2 fx226 fs226 fs226_eq (by kernel_rfl)

noncomputable def fx227 : XF Tryz.prog := ⟨227, Tryz.f227, fun _ => .text, Tryz.func227, by kernel_rfl, by kernel_rfl, by kernel_rfl, by kernel_rfl⟩
noncomputable def ff227 (x8 x9 : O) (h : HW) : Rs :=
 ob x8 fun a0 =>
 ob x9 fun a1 =>
 some (.ret (.tup [a0, a1]), h)
noncomputable def q227_2 (C : YC) (lf : Nat) (r : K2) (h : HW) : Rs :=
 r (some (.int .i64 0)) (some (.int .i64 28)) h
theorem q227_2_eq (C : YC) (lf : Nat) (r : K2) (KN : KF) (KE : KX) : ∀ F h, evX fx227 C lf [1, 1, 1, 1] F h KN (fun F h => r (F 8) (F 9) h) KE = q227_2 C lf r h := by
  intro F h; kernel_rfl
noncomputable def q227_47 (C : YC) (lf : Nat) (n : K5) (r : K2) (e0 : K0) (x0 x1 x2 x3 x11 : O) (h : HW) : Rs :=
 ob x11 fun a4 =>
 ob x0 fun a5 =>
 ob (semNil a5) fun y6 =>
 ob (fa 2 y6) fun y7 =>
 ob (ld1 y7 h) fun y8 =>
 ob (bin Tryz.prog .leq 3 a4 y8) fun y9 =>
 yIf y9
 (ob x0 fun a10 =>
 ob (semNil a10) fun y11 =>
 ob (fa 4 y11) fun y12 =>
 ob (ld1 y12 h) fun y13 =>
 ob x11 fun a14 =>
 ob (ixS 308 y13 a14) fun y15 =>
 ob (fa 0 y15) fun y16 =>
 ob (ld1 y16 h) fun y17 =>
 ob (unE .not y17) fun y18 =>
 yIf y18
 (ob x0 fun a19 =>
 ob (semNil a19) fun y20 =>
 ob (fa 4 y20) fun y21 =>
 ob (ld1 y21 h) fun y22 =>
 ob x11 fun a23 =>
 ob x11 fun a24 =>
 ob x2 fun a25 =>
 ob x3 fun a26 =>
 ob x1 fun a27 =>
 ob x0 fun a28 =>
 ob (semNil a28) fun y29 =>
 ob (fa 3 y29) fun y30 =>
 ob (ld1 y30 h) fun y31 =>
 ob x0 fun a32 =>
 ob (semNil a32) fun y33 =>
 ob (fa 3 y33) fun y34 =>
 ob (ld1 y34 h) fun y35 =>
 ob x0 fun a36 =>
 ob (semNil a36) fun y37 =>
 ob (fa 3 y37) fun y38 =>
 ob (ld1 y38 h) fun y39 =>
 ob (semBuild Tryz.prog 58 [0, 2, 3, 6, 7, 8, 9] [a24, a25, a26, a27, y31, y35, y39]) fun y40 =>
 ob (semBuild Tryz.prog 395 [0, 1] [(.bool true), y40]) fun y41 =>
 ob (ixS 308 y22 a23) fun y42 =>
 ob (st 308 y42 y41 h) fun h43 =>
 ob x11 fun a44 =>
 r (some a44) (some (.int .i64 0)) h43)
 (ob x11 fun a45 =>
 ob (bin Tryz.prog .add 3 a45 (.int .i64 1)) fun y46 =>
 n x0 x1 x2 x3 (some y46) h))
 (e0 h)
theorem q227_47_eq (C : YC) (lf : Nat) (n : K5) (r : K2) (e0 : K0) (KE : KX) : ∀ F h, evX fx227 C lf [1, 1, 1, 0, 1, 0, 0] F h (fun F h => n (F 0) (F 1) (F 2) (F 3) (F 11) h) (fun F h => r (F 8) (F 9) h) (bk 0 (fun F h => e0 h) KE) = q227_47 C lf n r e0 (F 0) (F 1) (F 2) (F 3) (F 11) h := by
  intro F h; kernel_rfl
noncomputable def l227_3 (C : YC) (lf : Nat) (r : K2) (e0 : K0) (k : O × O × O × O × O → HW → Rs) (s : O × O × O × O × O) (h : HW) : Rs :=
 q227_47 C lf (fun x0 x1 x2 x3 x11 h => k (x0, x1, x2, x3, x11) h) r e0 s.1 s.2.1 s.2.2.1 s.2.2.2.1 s.2.2.2.2 h
noncomputable def q227_48 (C : YC) (lf : Nat) (n : K5) (x0 x1 x2 x3 : O) (h : HW) : Rs :=
 n x0 x1 x2 x3 (some (.int .i64 1)) h
theorem q227_48_eq (C : YC) (lf : Nat) (n : K5) (KR : KF) (KE : KX) : ∀ F h, evX fx227 C lf [1, 1, 1, 0, 0] F h (fun F h => n (F 0) (F 1) (F 2) (F 3) (F 11) h) KR KE = q227_48 C lf n (F 0) (F 1) (F 2) (F 3) h := by
  intro F h; kernel_rfl
noncomputable def q227_49 (C : YC) (lf : Nat) (n : K0) (r : K2) (x0 x1 x2 x3 : O) (h : HW) : Rs :=
 q227_48 C lf (fun x0 x1 x2 x3 x11 h => lp (l227_3 C lf r n) lf (x0, x1, x2, x3, x11) h) x0 x1 x2 x3 h
theorem q227_49_eq (C : YC) (lf : Nat) (n : K0) (r : K2) (KE : KX) : ∀ F h, evX fx227 C lf [1, 1, 1, 0] F h (fun F h => n h) (fun F h => r (F 8) (F 9) h) KE = q227_49 C lf n r (F 0) (F 1) (F 2) (F 3) h := cSeq (a := subX fx227 [1, 1, 1, 0, 0]) (b := subX fx227 [1, 1, 1, 0, 1]) (by kernel_rfl) (B := (fun F h => lp (l227_3 C lf r n) lf ((F 0), (F 1), (F 2), (F 3), (F 11)) h)) (cBlock (id := 0) (a := subX fx227 [1, 1, 1, 0, 1, 0]) (by kernel_rfl) (cLoop (a := subX fx227 [1, 1, 1, 0, 1, 0, 0]) (g := fun F => (F 0, F 1, F 2, F 3, F 11)) (body := l227_3 C lf r n) (by kernel_rfl) (fun k => (q227_47_eq C lf (fun x0 x1 x2 x3 x11 h => k (x0, x1, x2, x3, x11) h) r n KE)))) (q227_48_eq C lf (fun x0 x1 x2 x3 x11 h => lp (l227_3 C lf r n) lf (x0, x1, x2, x3, x11) h) (fun F h => r (F 8) (F 9) h) KE)
noncomputable def q227_50 (C : YC) (lf : Nat) (r : K2) (x0 x1 x2 x3 : O) (h : HW) : Rs :=
 q227_49 C lf (fun h => q227_2 C lf r h) r x0 x1 x2 x3 h
theorem q227_50_eq (C : YC) (lf : Nat) (r : K2) (KN : KF) (KE : KX) : ∀ F h, evX fx227 C lf [1, 1, 1] F h KN (fun F h => r (F 8) (F 9) h) KE = q227_50 C lf r (F 0) (F 1) (F 2) (F 3) h := cSeq (a := subX fx227 [1, 1, 1, 0]) (b := subX fx227 [1, 1, 1, 1]) (by kernel_rfl) (B := (fun F h => q227_2 C lf r h)) (q227_2_eq C lf r KN KE) (q227_49_eq C lf (fun h => q227_2 C lf r h) r KE)
noncomputable def q227_87 (C : YC) (lf : Nat) (n : K4) (r : K2) (x0 x1 x2 x3 x10 : O) (h : HW) : Rs :=
 ob x10 fun a51 =>
 ob (bin Tryz.prog .neq 30 a51 (.int .i64 32768)) fun y52 =>
 bc (gd true (some y52) (ob x10 fun a53 =>
 some (.ret a53, h)) h) fun y54 h54 =>
 bc (gd true (some y52) (ob (bin Tryz.prog .neq 30 y54 (.int .i64 16384)) fun y55 =>
 some (.ret y55, h54)) h54) fun y56 h56 =>
 ob (ypk y52 y56 (.bool false)) fun y57 =>
 bc (gd true (some y57) (ob x10 fun a58 =>
 some (.ret a58, h56)) h56) fun y59 h59 =>
 bc (gd true (some y57) (ob (bin Tryz.prog .neq 30 y59 (.int .i64 40960)) fun y60 =>
 some (.ret y60, h59)) h59) fun y61 h61 =>
 ob (ypk y57 y61 (.bool false)) fun y62 =>
 bc (gd false (some y62) (ob x1 fun a63 =>
 some (.ret a63, h61)) h61) fun y64 h64 =>
 bc (gd false (some y62) (ob x1 fun a65 =>
 some (.ret a65, h64)) h64) fun y66 h66 =>
 bc (gd false (some y62) (ob (bin Tryz.prog .and 30 y66 (.int .i64 65535)) fun y67 =>
 some (.ret y67, h66)) h66) fun y68 h68 =>
 bc (gd false (some y62) (ob (bin Tryz.prog .neq 30 y64 y68) fun y69 =>
 some (.ret y69, h68)) h68) fun y70 h70 =>
 ob (ypk y62 (.bool true) y70) fun y71 =>
 bc (gd false (some y71) (ob x1 fun a72 =>
 some (.ret a72, h70)) h70) fun y73 h73 =>
 bc (gd false (some y71) (ob (bin Tryz.prog .lss 30 y73 (.int .i64 0)) fun y74 =>
 some (.ret y74, h73)) h73) fun y75 h75 =>
 ob (ypk y71 (.bool true) y75) fun y76 =>
 bc (gd false (some y76) (ob x2 fun a77 =>
 some (.ret a77, h75)) h75) fun y78 h78 =>
 bc (gd false (some y76) (ob (bin Tryz.prog .lss 3 y78 (.int .i64 0)) fun y79 =>
 some (.ret y79, h78)) h78) fun y80 h80 =>
 ob (ypk y76 (.bool true) y80) fun y81 =>
 bc (gd false (some y81) (ob x3 fun a82 =>
 some (.ret a82, h80)) h80) fun y83 h83 =>
 bc (gd false (some y81) (ob (bin Tryz.prog .lss 3 y83 (.int .i64 0)) fun y84 =>
 some (.ret y84, h83)) h83) fun y85 h85 =>
 ob (ypk y81 (.bool true) y85) fun y86 =>
 yIf y86
 (r (some (.int .i64 0)) (some (.int .i64 22)) h85)
 (n x0 x1 x2 x3 h85)
theorem q227_87_eq (C : YC) (lf : Nat) (n : K4) (r : K2) (KE : KX) : ∀ F h, evX fx227 C lf [1, 1, 0] F h (fun F h => n (F 0) (F 1) (F 2) (F 3) h) (fun F h => r (F 8) (F 9) h) KE = q227_87 C lf n r (F 0) (F 1) (F 2) (F 3) (F 10) h := by
  intro F h; kernel_rfl
noncomputable def q227_88 (C : YC) (lf : Nat) (r : K2) (x0 x1 x2 x3 x10 : O) (h : HW) : Rs :=
 q227_87 C lf (fun x0 x1 x2 x3 h => q227_50 C lf r x0 x1 x2 x3 h) r x0 x1 x2 x3 x10 h
theorem q227_88_eq (C : YC) (lf : Nat) (r : K2) (KN : KF) (KE : KX) : ∀ F h, evX fx227 C lf [1, 1] F h KN (fun F h => r (F 8) (F 9) h) KE = q227_88 C lf r (F 0) (F 1) (F 2) (F 3) (F 10) h := cSeq (a := subX fx227 [1, 1, 0]) (b := subX fx227 [1, 1, 1]) (by kernel_rfl) (B := (fun F h => q227_50 C lf r (F 0) (F 1) (F 2) (F 3) h)) (q227_50_eq C lf r KN KE) (q227_87_eq C lf (fun x0 x1 x2 x3 h => q227_50 C lf r x0 x1 x2 x3 h) r KE)
noncomputable def q227_91 (C : YC) (lf : Nat) (n : K5) (x0 x1 x2 x3 : O) (h : HW) : Rs :=
 ob x1 fun a89 =>
 bc (C (.fn 290) [a89] h) fun y90 h90 =>
 n x0 x1 x2 x3 (some y90) h90
theorem q227_91_eq (C : YC) (lf : Nat) (n : K5) (KR : KF) (KE : KX) : ∀ F h, evX fx227 C lf [1, 0] F h (fun F h => n (F 0) (F 1) (F 2) (F 3) (F 10) h) KR KE = q227_91 C lf n (F 0) (F 1) (F 2) (F 3) h := by
  intro F h; kernel_rfl
noncomputable def q227_92 (C : YC) (lf : Nat) (r : K2) (x0 x1 x2 x3 : O) (h : HW) : Rs :=
 q227_91 C lf (fun x0 x1 x2 x3 x10 h => q227_88 C lf r x0 x1 x2 x3 x10 h) x0 x1 x2 x3 h
theorem q227_92_eq (C : YC) (lf : Nat) (r : K2) (KN : KF) (KE : KX) : ∀ F h, evX fx227 C lf [1] F h KN (fun F h => r (F 8) (F 9) h) KE = q227_92 C lf r (F 0) (F 1) (F 2) (F 3) h := cSeq (a := subX fx227 [1, 0]) (b := subX fx227 [1, 1]) (by kernel_rfl) (B := (fun F h => q227_88 C lf r (F 0) (F 1) (F 2) (F 3) (F 10) h)) (q227_88_eq C lf r KN KE) (q227_91_eq C lf (fun x0 x1 x2 x3 x10 h => q227_88 C lf r x0 x1 x2 x3 x10 h) (fun F h => r (F 8) (F 9) h) KE)
noncomputable def q227_93 (C : YC) (lf : Nat) (n : K4) (x0 x1 x2 x3 : O) (h : HW) : Rs :=
 n x0 x1 x2 x3 h
theorem q227_93_eq (C : YC) (lf : Nat) (n : K4) (KR : KF) (KE : KX) : ∀ F h, evX fx227 C lf [0] F h (fun F h => n (F 0) (F 1) (F 2) (F 3) h) KR KE = q227_93 C lf n (F 0) (F 1) (F 2) (F 3) h := by
  intro F h; kernel_rfl
noncomputable def q227_94 (C : YC) (lf : Nat) (r : K2) (x0 x1 x2 x3 : O) (h : HW) : Rs :=
 q227_93 C lf (fun x0 x1 x2 x3 h => q227_92 C lf r x0 x1 x2 x3 h) x0 x1 x2 x3 h
theorem q227_94_eq (C : YC) (lf : Nat) (r : K2) (KN : KF) (KE : KX) : ∀ F h, evX fx227 C lf [] F h KN (fun F h => r (F 8) (F 9) h) KE = q227_94 C lf r (F 0) (F 1) (F 2) (F 3) h := cSeq (a := subX fx227 [0]) (b := subX fx227 [1]) (by kernel_rfl) (B := (fun F h => q227_92 C lf r (F 0) (F 1) (F 2) (F 3) h)) (q227_92_eq C lf r KN KE) (q227_93_eq C lf (fun x0 x1 x2 x3 h => q227_92 C lf r x0 x1 x2 x3 h) (fun F h => r (F 8) (F 9) h) KE)
noncomputable def fs227 (C : YC) (lf : Nat) (a0 a1 a2 a3 : SV) (h : HW) : Rs := q227_94 C lf ff227 (some a0) (some a1) (some a2) (some a3) h
theorem fs227_eq (C : YC) (lf : Nat) (a0 a1 a2 a3 : SV) (h : HW) : yFn Tryz.prog fx227 C lf [a0, a1, a2, a3] h = fs227 C lf a0 a1 a2 a3 h := fnX (K := (fun F h => ff227 (F 8) (F 9) h)) (by kernel_rfl) (((q227_94_eq C lf ff227 (fun F h => ff227 (F 8) (F 9) h) (fun _ _ _ => none)) _ h).trans (by kernel_rfl))
noncomputable def fy227 : YX Tryz.prog := Y4 fx227 fs227 fs227_eq (by kernel_rfl)

noncomputable def fx228 : XF Tryz.prog := ⟨228, Tryz.f228, fun _ => .text, Tryz.func228, by kernel_rfl, by kernel_rfl, by kernel_rfl, by kernel_rfl⟩
noncomputable def ff228 (x6 : O) (h : HW) : Rs :=
 ob x6 fun a0 =>
 some (.ret a0, h)
noncomputable def q228_30 (C : YC) (lf : Nat) (r : K1) (x0 x1 x2 : O) (h : HW) : Rs :=
 ob x0 fun a1 =>
 ob x1 fun a2 =>
 bc (C (.fn 291) [a1, a2] h) fun y3 h3 =>
 ob (bin Tryz.prog .neq 3 y3 (.int .i64 0)) fun y4 =>
 yIf y4
 (r (some y3) h3)
 (ob x0 fun a5 =>
 ob x2 fun a6 =>
 bc (C (.fn 292) [a5, a6] h3) fun y7 h7 =>
 ob (unE .not y7) fun y8 =>
 yIf y8
 (r (some (.int .i64 22)) h7)
 (ob x0 fun a9 =>
 ob (semNil a9) fun y10 =>
 ob (fa 4 y10) fun y11 =>
 ob (ld1 y11 h7) fun y12 =>
 ob x1 fun a13 =>
 ob (ixS 308 y12 a13) fun y14 =>
 ob (fa 1 y14) fun y15 =>
 ob (fa 4 y15) fun y16 =>
 ob (ld1 y16 h7) fun y17 =>
 ob (bin Tryz.prog .neq 3 y17 (.int .i64 0)) fun y18 =>
 yIf y18
 (r (some (.int .i64 17)) h7)
 (ob x0 fun a19 =>
 ob x1 fun a20 =>
 ob x1 fun a21 =>
 bc (C (.fn 293) [a21, (.str (bs [46]))] h7) fun y22 h22 =>
 ob x2 fun a23 =>
 bc (C (.fn 293) [a23, (.str (bs [46, 46]))] h22) fun y24 h24 =>
 b2 (ybl Tryz.prog .append #[31, 31] [y22, y24] h24) fun y25 h25 =>
 bc (C (.fn 266) [a19, a20, (.int .i64 0), y25] h25) fun y26 h26 =>
 ob (ext 0 y26) fun y27 =>
 ob (ext 1 y26) fun y28 =>
 ob (bin Tryz.prog .eql 3 y27 (.int .i64 0)) fun y29 =>
 yIf y29
 (r (some (.int .i64 28)) h26)
 (r (some (.int .i64 0)) h26))))
theorem q228_30_eq (C : YC) (lf : Nat) (r : K1) (KN : KF) (KE : KX) : ∀ F h, evX fx228 C lf [] F h KN (fun F h => r (F 6) h) KE = q228_30 C lf r (F 0) (F 1) (F 2) h := by
  intro F h; kernel_rfl
noncomputable def fs228 (C : YC) (lf : Nat) (a0 a1 a2 : SV) (h : HW) : Rs := q228_30 C lf ff228 (some a0) (some a1) (some a2) h
theorem fs228_eq (C : YC) (lf : Nat) (a0 a1 a2 : SV) (h : HW) : yFn Tryz.prog fx228 C lf [a0, a1, a2] h = fs228 C lf a0 a1 a2 h := fnX (K := (fun F h => ff228 (F 6) h)) (by kernel_rfl) (((q228_30_eq C lf ff228 (fun F h => ff228 (F 6) h) (fun _ _ _ => none)) _ h).trans (by kernel_rfl))
noncomputable def fy228 : YX Tryz.prog := Y3 fx228 fs228 fs228_eq (by kernel_rfl)

noncomputable def fx229 : XF Tryz.prog := ⟨229, Tryz.f229, fun _ => .text, Tryz.func229, by kernel_rfl, by kernel_rfl, by kernel_rfl, by kernel_rfl⟩
noncomputable def ff229 (x6 : O) (h : HW) : Rs :=
 ob x6 fun a0 =>
 some (.ret a0, h)
noncomputable def q229_42 (C : YC) (lf : Nat) (r : K1) (x0 x1 x2 : O) (h : HW) : Rs :=
 ob x0 fun a1 =>
 ob x1 fun a2 =>
 bc (C (.fn 292) [a1, a2] h) fun y3 h3 =>
 ob (unE .not y3) fun y4 =>
 yIf y4
 (r (some (.int .i64 2)) h3)
 (ob x0 fun a5 =>
 ob (semNil a5) fun y6 =>
 ob (fa 4 y6) fun y7 =>
 ob (ld1 y7 h3) fun y8 =>
 ob x1 fun a9 =>
 ob (ixS 308 y8 a9) fun y10 =>
 ob (fa 1 y10) fun y11 =>
 ob x2 fun a12 =>
 ob (semNil y11) fun y13 =>
 ob (fa 1 y13) fun y14 =>
 ob (ld1 y14 h3) fun y15 =>
 ob (unE .neg y15) fun y16 =>
 ob (bin Tryz.prog .lss 3 a12 y16) fun y17 =>
 yIf y17
 (r (some (.int .i64 22)) h3)
 (ob x2 fun a18 =>
 ob (semNil y11) fun y19 =>
 ob (fa 1 y19) fun y20 =>
 ob (ld1 y20 h3) fun y21 =>
 ob (bin Tryz.prog .sub 3 (.int .i64 16) y21) fun y22 =>
 ob (bin Tryz.prog .gtr 3 a18 y22) fun y23 =>
 yIf y23
 (r (some (.int .i64 31)) h3)
 (ob (semNil y11) fun y24 =>
 ob (fa 1 y24) fun y25 =>
 ob (ld1 y25 h3) fun y26 =>
 ob x2 fun a27 =>
 ob (bin Tryz.prog .add 3 y26 a27) fun y28 =>
 ob (semNil y11) fun y29 =>
 ob (fa 1 y29) fun y30 =>
 ob (st 1 y30 y28 h3) fun h31 =>
 ob x0 fun a32 =>
 ob (semNil a32) fun y33 =>
 ob (fa 3 y33) fun y34 =>
 ob (ld1 y34 h31) fun y35 =>
 ob (semNil y11) fun y36 =>
 ob (fa 9 y36) fun y37 =>
 ob (st 1 y37 y35 h31) fun h38 =>
 ob x0 fun a39 =>
 ob x1 fun a40 =>
 bc (C (.fn 294) [a39, a40] h38) fun y41 h41 =>
 r (some (.int .i64 0)) h41)))
theorem q229_42_eq (C : YC) (lf : Nat) (r : K1) (KN : KF) (KE : KX) : ∀ F h, evX fx229 C lf [] F h KN (fun F h => r (F 6) h) KE = q229_42 C lf r (F 0) (F 1) (F 2) h := by
  intro F h; kernel_rfl
noncomputable def fs229 (C : YC) (lf : Nat) (a0 a1 a2 : SV) (h : HW) : Rs := q229_42 C lf ff229 (some a0) (some a1) (some a2) h
theorem fs229_eq (C : YC) (lf : Nat) (a0 a1 a2 : SV) (h : HW) : yFn Tryz.prog fx229 C lf [a0, a1, a2] h = fs229 C lf a0 a1 a2 h := fnX (K := (fun F h => ff229 (F 6) h)) (by kernel_rfl) (((q229_42_eq C lf ff229 (fun F h => ff229 (F 6) h) (fun _ _ _ => none)) _ h).trans (by kernel_rfl))
noncomputable def fy229 : YX Tryz.prog := Y3 fx229 fs229 fs229_eq (by kernel_rfl)

noncomputable def fx230 : XF Tryz.prog := ⟨230, Tryz.f230, fun r => bif Nat.beq r 12 then .ord [0, 1, 2, 6, 7, 8, 3, 9, 10, 11, 12, 4, 5, 13, 14, 15, 16, 17, 18, 19, 20] [(4, [12, 9])] else bif Nat.beq r 17 then .ord [0, 1, 2, 4, 5, 7, 9, 3, 6, 8, 10, 11, 12, 13, 14, 15, 16, 17] [(11, [6, 3])] else .text, Tryz.func230, by kernel_rfl, by kernel_rfl, by kernel_rfl, by kernel_rfl⟩
noncomputable def ff230 (x8 : O) (h : HW) : Rs :=
 ob x8 fun a0 =>
 some (.ret a0, h)
noncomputable def q230_51 (C : YC) (lf : Nat) (r : K1) (x0 x5 x9 x11 : O) (h : HW) : Rs :=
 ob x0 fun a1 =>
 ob (semNil a1) fun y2 =>
 ob (fa 0 y2) fun y3 =>
 ob x11 fun a4 =>
 ob x5 fun a5 =>
 ob (fa 0 a5) fun y6 =>
 ob x0 fun a7 =>
 ob x9 fun a8 =>
 ob (fa 0 a8) fun y9 =>
 ob (ld1 y3 h) fun y10 =>
 ob (ld1 y6 h) fun y11 =>
 ob x5 fun a12 =>
 ob (ldN 5 a12 h) fun y13 =>
 ob (ld1 y9 h) fun y14 =>
 bcn (C (.fn 299) [a7, y13, y14] h) fun y15 h15 =>
 ck (chkH [(10, adrO (some y9)), (8, adrO x5), (6, adrO (some y6)), (3, adrO (some y3))] h h15 [6, 3]) <|
 bcn (C (.fn 227) [y10, a4, y11, y15] h15) fun y16 h16 =>
 ob (ext 0 y16) fun y17 =>
 ob (ext 1 y16) fun y18 =>
 ob x0 fun a19 =>
 ob (semNil a19) fun y20 =>
 ob (fa 0 y20) fun y21 =>
 ob (ld1 y21 h16) fun y22 =>
 ob x9 fun a23 =>
 ob (fa 0 a23) fun y24 =>
 ob (ld1 y24 h16) fun y25 =>
 bcn (C (.fn 228) [y22, y17, y25] h16) fun y26 h26 =>
 ob x0 fun a27 =>
 ob (semNil a27) fun y28 =>
 ob (fa 0 y28) fun y29 =>
 ob (ld1 y29 h26) fun y30 =>
 bc (C (.fn 229) [y30, y17, (.int .i64 2)] h26) fun y31 h31 =>
 ob x0 fun a32 =>
 ob (semNil a32) fun y33 =>
 ob (fa 0 y33) fun y34 =>
 ob (ld1 y34 h31) fun y35 =>
 ob x9 fun a36 =>
 ob (fa 0 a36) fun y37 =>
 ob (ld1 y37 h31) fun y38 =>
 ob x9 fun a39 =>
 ob (fa 2 a39) fun y40 =>
 ob (ld1 y40 h31) fun y41 =>
 bcn (C (.fn 300) [y35, y38, y41, y17] h31) fun y42 h42 =>
 ob x0 fun a43 =>
 ob (semNil a43) fun y44 =>
 ob (fa 0 y44) fun y45 =>
 ob (ld1 y45 h42) fun y46 =>
 ob x9 fun a47 =>
 ob (fa 0 a47) fun y48 =>
 ob (ld1 y48 h42) fun y49 =>
 bcn (C (.fn 229) [y46, y49, (.int .i64 1)] h42) fun y50 h50 =>
 r (some (.int .i64 0)) h50
theorem q230_51_eq (C : YC) (lf : Nat) (r : K1) (KN : KF) (KE : KX) : ∀ F h, evX fx230 C lf [1, 1, 1, 1, 1, 1, 1, 1, 1, 1] F h KN (fun F h => r (F 8) h) KE = q230_51 C lf r (F 0) (F 5) (F 9) (F 11) h := by
  intro F h; kernel_rfl
noncomputable def q230_70 (C : YC) (lf : Nat) (n : K4) (x0 x5 x9 x11 : O) (h : HW) : Rs :=
 ob x0 fun a52 =>
 ob (semNil a52) fun y53 =>
 ob (fa 0 y53) fun y54 =>
 ob (ld1 y54 h) fun y55 =>
 ob (semNil y55) fun y56 =>
 ob (fa 4 y56) fun y57 =>
 ob (ld1 y57 h) fun y58 =>
 ob x9 fun a59 =>
 ob (fa 0 a59) fun y60 =>
 ob (ld1 y60 h) fun y61 =>
 ob (ixS 308 y58 y61) fun y62 =>
 ob (fa 1 y62) fun y63 =>
 ob (fa 6 y63) fun y64 =>
 ob (ld1 y64 h) fun y65 =>
 ob (bin Tryz.prog .and 30 y65 (.int .i64 1024)) fun y66 =>
 ob (bin Tryz.prog .neq 30 y66 (.int .i64 0)) fun y67 =>
 yIf y67
 (ob x11 fun a68 =>
 ob (bin Tryz.prog .or 30 a68 (.int .i64 1024)) fun y69 =>
 n x0 x5 x9 (some y69) h)
 (n x0 x5 x9 x11 h)
theorem q230_70_eq (C : YC) (lf : Nat) (n : K4) (KR : KF) (KE : KX) : ∀ F h, evX fx230 C lf [1, 1, 1, 1, 1, 1, 1, 1, 1, 0] F h (fun F h => n (F 0) (F 5) (F 9) (F 11) h) KR KE = q230_70 C lf n (F 0) (F 5) (F 9) (F 11) h := by
  intro F h; kernel_rfl
noncomputable def q230_71 (C : YC) (lf : Nat) (r : K1) (x0 x5 x9 x11 : O) (h : HW) : Rs :=
 q230_70 C lf (fun x0 x5 x9 x11 h => q230_51 C lf r x0 x5 x9 x11 h) x0 x5 x9 x11 h
theorem q230_71_eq (C : YC) (lf : Nat) (r : K1) (KN : KF) (KE : KX) : ∀ F h, evX fx230 C lf [1, 1, 1, 1, 1, 1, 1, 1, 1] F h KN (fun F h => r (F 8) h) KE = q230_71 C lf r (F 0) (F 5) (F 9) (F 11) h := cSeq (a := subX fx230 [1, 1, 1, 1, 1, 1, 1, 1, 1, 0]) (b := subX fx230 [1, 1, 1, 1, 1, 1, 1, 1, 1, 1]) (by kernel_rfl) (B := (fun F h => q230_51 C lf r (F 0) (F 5) (F 9) (F 11) h)) (q230_51_eq C lf r KN KE) (q230_70_eq C lf (fun x0 x5 x9 x11 h => q230_51 C lf r x0 x5 x9 x11 h) (fun F h => r (F 8) h) KE)
noncomputable def q230_79 (C : YC) (lf : Nat) (n : K4) (x0 x3 x5 x9 : O) (h : HW) : Rs :=
 ob x3 fun a72 =>
 ob (bin Tryz.prog .and 30 a72 (.int .i64 4095)) fun y73 =>
 ob x5 fun a74 =>
 ob (fa 3 a74) fun y75 =>
 ob (ld1 y75 h) fun y76 =>
 ob (bin Tryz.prog .andNot 30 y73 y76) fun y77 =>
 ob (bin Tryz.prog .or 30 (.int .i64 16384) y77) fun y78 =>
 n x0 x5 x9 (some y78) h
theorem q230_79_eq (C : YC) (lf : Nat) (n : K4) (KR : KF) (KE : KX) : ∀ F h, evX fx230 C lf [1, 1, 1, 1, 1, 1, 1, 1, 0] F h (fun F h => n (F 0) (F 5) (F 9) (F 11) h) KR KE = q230_79 C lf n (F 0) (F 3) (F 5) (F 9) h := by
  intro F h; kernel_rfl
noncomputable def q230_80 (C : YC) (lf : Nat) (r : K1) (x0 x3 x5 x9 : O) (h : HW) : Rs :=
 q230_79 C lf (fun x0 x5 x9 x11 h => q230_71 C lf r x0 x5 x9 x11 h) x0 x3 x5 x9 h
theorem q230_80_eq (C : YC) (lf : Nat) (r : K1) (KN : KF) (KE : KX) : ∀ F h, evX fx230 C lf [1, 1, 1, 1, 1, 1, 1, 1] F h KN (fun F h => r (F 8) h) KE = q230_80 C lf r (F 0) (F 3) (F 5) (F 9) h := cSeq (a := subX fx230 [1, 1, 1, 1, 1, 1, 1, 1, 0]) (b := subX fx230 [1, 1, 1, 1, 1, 1, 1, 1, 1]) (by kernel_rfl) (B := (fun F h => q230_71 C lf r (F 0) (F 5) (F 9) (F 11) h)) (q230_71_eq C lf r KN KE) (q230_79_eq C lf (fun x0 x5 x9 x11 h => q230_71 C lf r x0 x5 x9 x11 h) (fun F h => r (F 8) h) KE)
noncomputable def q230_107 (C : YC) (lf : Nat) (n : K4) (r : K1) (x0 x3 x5 x9 : O) (h : HW) : Rs :=
 ob x0 fun a81 =>
 ob (semNil a81) fun y82 =>
 ob (fa 0 y82) fun y83 =>
 ob x0 fun a84 =>
 ob (semNil a84) fun y85 =>
 ob (fa 0 y85) fun y86 =>
 ob (ld1 y83 h) fun y87 =>
 ob (ld1 y86 h) fun y88 =>
 ob (semNil y88) fun y89 =>
 ob (fa 2 y89) fun y90 =>
 ob (ld1 y90 h) fun y91 =>
 bcn (C (.fn 297) [y87] h) fun y92 h92 =>
 ck (chkH [(12, adrO (some y90)), (9, adrO (some y86)), (3, adrO (some y83))] h h92 [12, 9]) <|
 ob (lenE Tryz.prog 44 y92) fun y93 =>
 ob (bin Tryz.prog .eql 3 y93 y91) fun y94 =>
 bcn (gd false (some y94) (ob x0 fun a95 =>
 some (.ret a95, h92)) h92) fun y96 h96 =>
 bcn (gd false (some y94) (ob x9 fun a97 =>
 ob (fa 0 a97) fun y98 =>
 some (.ret y98, h96)) h96) fun y99 h99 =>
 bcn (gd false (some y94) (ob (ld1 y99 h99) fun y100 =>
 some (.ret y100, h99)) h99) fun y101 h101 =>
 bcn (gd false (some y94) (bcn (C (.fn 298) [y96, y101, (.int .i64 1)] h101) fun y102 h102 =>
 some (.ret y102, h102)) h101) fun y103 h103 =>
 bcn (gd false (some y94) (ob (unE .not y103) fun y104 =>
 some (.ret y104, h103)) h103) fun y105 h105 =>
 ob (ypk y94 (.bool true) y105) fun y106 =>
 yIf y106
 (r (some (.int .i64 28)) h105)
 (n x0 x3 x5 x9 h105)
theorem q230_107_eq (C : YC) (lf : Nat) (n : K4) (r : K1) (KE : KX) : ∀ F h, evX fx230 C lf [1, 1, 1, 1, 1, 1, 1, 0] F h (fun F h => n (F 0) (F 3) (F 5) (F 9) h) (fun F h => r (F 8) h) KE = q230_107 C lf n r (F 0) (F 3) (F 5) (F 9) h := by
  intro F h; kernel_rfl
noncomputable def q230_108 (C : YC) (lf : Nat) (r : K1) (x0 x3 x5 x9 : O) (h : HW) : Rs :=
 q230_107 C lf (fun x0 x3 x5 x9 h => q230_80 C lf r x0 x3 x5 x9 h) r x0 x3 x5 x9 h
theorem q230_108_eq (C : YC) (lf : Nat) (r : K1) (KN : KF) (KE : KX) : ∀ F h, evX fx230 C lf [1, 1, 1, 1, 1, 1, 1] F h KN (fun F h => r (F 8) h) KE = q230_108 C lf r (F 0) (F 3) (F 5) (F 9) h := cSeq (a := subX fx230 [1, 1, 1, 1, 1, 1, 1, 0]) (b := subX fx230 [1, 1, 1, 1, 1, 1, 1, 1]) (by kernel_rfl) (B := (fun F h => q230_80 C lf r (F 0) (F 3) (F 5) (F 9) h)) (q230_80_eq C lf r KN KE) (q230_107_eq C lf (fun x0 x3 x5 x9 h => q230_80 C lf r x0 x3 x5 x9 h) r KE)
noncomputable def q230_124 (C : YC) (lf : Nat) (n : K4) (r : K1) (x0 x3 x5 x9 : O) (h : HW) : Rs :=
 ob x0 fun a109 =>
 ob (semNil a109) fun y110 =>
 ob (fa 0 y110) fun y111 =>
 ob (ld1 y111 h) fun y112 =>
 ob (semNil y112) fun y113 =>
 ob (fa 4 y113) fun y114 =>
 ob (ld1 y114 h) fun y115 =>
 ob x9 fun a116 =>
 ob (fa 0 a116) fun y117 =>
 ob (ld1 y117 h) fun y118 =>
 ob (ixS 308 y115 y118) fun y119 =>
 ob (fa 1 y119) fun y120 =>
 ob (fa 1 y120) fun y121 =>
 ob (ld1 y121 h) fun y122 =>
 ob (bin Tryz.prog .geq 3 y122 (.int .i64 16)) fun y123 =>
 yIf y123
 (r (some (.int .i64 31)) h)
 (n x0 x3 x5 x9 h)
theorem q230_124_eq (C : YC) (lf : Nat) (n : K4) (r : K1) (KE : KX) : ∀ F h, evX fx230 C lf [1, 1, 1, 1, 1, 1, 0] F h (fun F h => n (F 0) (F 3) (F 5) (F 9) h) (fun F h => r (F 8) h) KE = q230_124 C lf n r (F 0) (F 3) (F 5) (F 9) h := by
  intro F h; kernel_rfl
noncomputable def q230_125 (C : YC) (lf : Nat) (r : K1) (x0 x3 x5 x9 : O) (h : HW) : Rs :=
 q230_124 C lf (fun x0 x3 x5 x9 h => q230_108 C lf r x0 x3 x5 x9 h) r x0 x3 x5 x9 h
theorem q230_125_eq (C : YC) (lf : Nat) (r : K1) (KN : KF) (KE : KX) : ∀ F h, evX fx230 C lf [1, 1, 1, 1, 1, 1] F h KN (fun F h => r (F 8) h) KE = q230_125 C lf r (F 0) (F 3) (F 5) (F 9) h := cSeq (a := subX fx230 [1, 1, 1, 1, 1, 1, 0]) (b := subX fx230 [1, 1, 1, 1, 1, 1, 1]) (by kernel_rfl) (B := (fun F h => q230_108 C lf r (F 0) (F 3) (F 5) (F 9) h)) (q230_108_eq C lf r KN KE) (q230_124_eq C lf (fun x0 x3 x5 x9 h => q230_108 C lf r x0 x3 x5 x9 h) r KE)
noncomputable def q230_134 (C : YC) (lf : Nat) (n : K4) (r : K1) (x0 x3 x5 x9 : O) (h : HW) : Rs :=
 ob x0 fun a126 =>
 ob x5 fun a127 =>
 ob (ldN 5 a127 h) fun y128 =>
 ob x9 fun a129 =>
 ob (fa 0 a129) fun y130 =>
 ob (ld1 y130 h) fun y131 =>
 bc (C (.fn 261) [a126, y128, y131, (.int .i64 2)] h) fun y132 h132 =>
 ob (unE .not y132) fun y133 =>
 yIf y133
 (r (some (.int .i64 13)) h132)
 (n x0 x3 x5 x9 h132)
theorem q230_134_eq (C : YC) (lf : Nat) (n : K4) (r : K1) (KE : KX) : ∀ F h, evX fx230 C lf [1, 1, 1, 1, 1, 0] F h (fun F h => n (F 0) (F 3) (F 5) (F 9) h) (fun F h => r (F 8) h) KE = q230_134 C lf n r (F 0) (F 3) (F 5) (F 9) h := by
  intro F h; kernel_rfl
noncomputable def q230_135 (C : YC) (lf : Nat) (r : K1) (x0 x3 x5 x9 : O) (h : HW) : Rs :=
 q230_134 C lf (fun x0 x3 x5 x9 h => q230_125 C lf r x0 x3 x5 x9 h) r x0 x3 x5 x9 h
theorem q230_135_eq (C : YC) (lf : Nat) (r : K1) (KN : KF) (KE : KX) : ∀ F h, evX fx230 C lf [1, 1, 1, 1, 1] F h KN (fun F h => r (F 8) h) KE = q230_135 C lf r (F 0) (F 3) (F 5) (F 9) h := cSeq (a := subX fx230 [1, 1, 1, 1, 1, 0]) (b := subX fx230 [1, 1, 1, 1, 1, 1]) (by kernel_rfl) (B := (fun F h => q230_125 C lf r (F 0) (F 3) (F 5) (F 9) h)) (q230_125_eq C lf r KN KE) (q230_134_eq C lf (fun x0 x3 x5 x9 h => q230_125 C lf r x0 x3 x5 x9 h) r KE)
noncomputable def q230_141 (C : YC) (lf : Nat) (n : K4) (r : K1) (x0 x3 x5 x9 : O) (h : HW) : Rs :=
 ob x0 fun a136 =>
 ob x9 fun a137 =>
 ob (fa 0 a137) fun y138 =>
 ob (ld1 y138 h) fun y139 =>
 bc (C (.fn 296) [a136, y139] h) fun y140 h140 =>
 yIf y140
 (r (some (.int .i64 2)) h140)
 (n x0 x3 x5 x9 h140)
theorem q230_141_eq (C : YC) (lf : Nat) (n : K4) (r : K1) (KE : KX) : ∀ F h, evX fx230 C lf [1, 1, 1, 1, 0] F h (fun F h => n (F 0) (F 3) (F 5) (F 9) h) (fun F h => r (F 8) h) KE = q230_141 C lf n r (F 0) (F 3) (F 5) (F 9) h := by
  intro F h; kernel_rfl
noncomputable def q230_142 (C : YC) (lf : Nat) (r : K1) (x0 x3 x5 x9 : O) (h : HW) : Rs :=
 q230_141 C lf (fun x0 x3 x5 x9 h => q230_135 C lf r x0 x3 x5 x9 h) r x0 x3 x5 x9 h
theorem q230_142_eq (C : YC) (lf : Nat) (r : K1) (KN : KF) (KE : KX) : ∀ F h, evX fx230 C lf [1, 1, 1, 1] F h KN (fun F h => r (F 8) h) KE = q230_142 C lf r (F 0) (F 3) (F 5) (F 9) h := cSeq (a := subX fx230 [1, 1, 1, 1, 0]) (b := subX fx230 [1, 1, 1, 1, 1]) (by kernel_rfl) (B := (fun F h => q230_135 C lf r (F 0) (F 3) (F 5) (F 9) h)) (q230_135_eq C lf r KN KE) (q230_141_eq C lf (fun x0 x3 x5 x9 h => q230_135 C lf r x0 x3 x5 x9 h) r KE)
noncomputable def q230_154 (C : YC) (lf : Nat) (n : K4) (r : K1) (x0 x3 x5 x9 : O) (h : HW) : Rs :=
 ob x9 fun a143 =>
 ob (ldN 5 a143 h) fun y144 =>
 bc (C (.fn 295) [y144] h) fun y145 h145 =>
 bc (gd false (some y145) (ob x9 fun a146 =>
 ob (fa 1 a146) fun y147 =>
 some (.ret y147, h145)) h145) fun y148 h148 =>
 bc (gd false (some y145) (ob (ld1 y148 h148) fun y149 =>
 some (.ret y149, h148)) h148) fun y150 h150 =>
 bc (gd false (some y145) (ob (bin Tryz.prog .neq 3 y150 (.int .i64 0)) fun y151 =>
 some (.ret y151, h150)) h150) fun y152 h152 =>
 ob (ypk y145 (.bool true) y152) fun y153 =>
 yIf y153
 (r (some (.int .i64 17)) h152)
 (n x0 x3 x5 x9 h152)
theorem q230_154_eq (C : YC) (lf : Nat) (n : K4) (r : K1) (KE : KX) : ∀ F h, evX fx230 C lf [1, 1, 1, 0] F h (fun F h => n (F 0) (F 3) (F 5) (F 9) h) (fun F h => r (F 8) h) KE = q230_154 C lf n r (F 0) (F 3) (F 5) (F 9) h := by
  intro F h; kernel_rfl
noncomputable def q230_155 (C : YC) (lf : Nat) (r : K1) (x0 x3 x5 x9 : O) (h : HW) : Rs :=
 q230_154 C lf (fun x0 x3 x5 x9 h => q230_142 C lf r x0 x3 x5 x9 h) r x0 x3 x5 x9 h
theorem q230_155_eq (C : YC) (lf : Nat) (r : K1) (KN : KF) (KE : KX) : ∀ F h, evX fx230 C lf [1, 1, 1] F h KN (fun F h => r (F 8) h) KE = q230_155 C lf r (F 0) (F 3) (F 5) (F 9) h := cSeq (a := subX fx230 [1, 1, 1, 0]) (b := subX fx230 [1, 1, 1, 1]) (by kernel_rfl) (B := (fun F h => q230_142 C lf r (F 0) (F 3) (F 5) (F 9) h)) (q230_142_eq C lf r KN KE) (q230_154_eq C lf (fun x0 x3 x5 x9 h => q230_142 C lf r x0 x3 x5 x9 h) r KE)
noncomputable def q230_159 (C : YC) (lf : Nat) (n : K4) (r : K1) (x0 x3 x5 x9 x10 : O) (h : HW) : Rs :=
 ob x10 fun a156 =>
 ob (bin Tryz.prog .neq 3 a156 (.int .i64 0)) fun y157 =>
 yIf y157
 (ob x10 fun a158 =>
 r (some a158) h)
 (n x0 x3 x5 x9 h)
theorem q230_159_eq (C : YC) (lf : Nat) (n : K4) (r : K1) (KE : KX) : ∀ F h, evX fx230 C lf [1, 1, 0] F h (fun F h => n (F 0) (F 3) (F 5) (F 9) h) (fun F h => r (F 8) h) KE = q230_159 C lf n r (F 0) (F 3) (F 5) (F 9) (F 10) h := by
  intro F h; kernel_rfl
noncomputable def q230_160 (C : YC) (lf : Nat) (r : K1) (x0 x3 x5 x9 x10 : O) (h : HW) : Rs :=
 q230_159 C lf (fun x0 x3 x5 x9 h => q230_155 C lf r x0 x3 x5 x9 h) r x0 x3 x5 x9 x10 h
theorem q230_160_eq (C : YC) (lf : Nat) (r : K1) (KN : KF) (KE : KX) : ∀ F h, evX fx230 C lf [1, 1] F h KN (fun F h => r (F 8) h) KE = q230_160 C lf r (F 0) (F 3) (F 5) (F 9) (F 10) h := cSeq (a := subX fx230 [1, 1, 0]) (b := subX fx230 [1, 1, 1]) (by kernel_rfl) (B := (fun F h => q230_155 C lf r (F 0) (F 3) (F 5) (F 9) h)) (q230_155_eq C lf r KN KE) (q230_159_eq C lf (fun x0 x3 x5 x9 h => q230_155 C lf r x0 x3 x5 x9 h) r KE)
noncomputable def q230_170 (C : YC) (lf : Nat) (n : K5) (x0 x2 x3 x5 : O) (h : HW) : Rs :=
 ob x0 fun a161 =>
 ob x5 fun a162 =>
 ob (ldN 5 a162 h) fun y163 =>
 ob x2 fun a164 =>
 bc (C (.fn 258) [a161, y163, a164, (.bool false), (.bool false)] h) fun y165 h165 =>
 ob (ext 0 y165) fun y166 =>
 ob (ext 1 y165) fun y167 =>
 b2 (yAl Tryz.prog 351 h165) fun y168 h168 =>
 ob (st 5 y168 y166 h168) fun h169 =>
 n x0 x3 x5 (some y168) (some y167) h169
theorem q230_170_eq (C : YC) (lf : Nat) (n : K5) (KR : KF) (KE : KX) : ∀ F h, evX fx230 C lf [1, 0] F h (fun F h => n (F 0) (F 3) (F 5) (F 9) (F 10) h) KR KE = q230_170 C lf n (F 0) (F 2) (F 3) (F 5) h := by
  intro F h; kernel_rfl
noncomputable def q230_171 (C : YC) (lf : Nat) (r : K1) (x0 x2 x3 x5 : O) (h : HW) : Rs :=
 q230_170 C lf (fun x0 x3 x5 x9 x10 h => q230_160 C lf r x0 x3 x5 x9 x10 h) x0 x2 x3 x5 h
theorem q230_171_eq (C : YC) (lf : Nat) (r : K1) (KN : KF) (KE : KX) : ∀ F h, evX fx230 C lf [1] F h KN (fun F h => r (F 8) h) KE = q230_171 C lf r (F 0) (F 2) (F 3) (F 5) h := cSeq (a := subX fx230 [1, 0]) (b := subX fx230 [1, 1]) (by kernel_rfl) (B := (fun F h => q230_160 C lf r (F 0) (F 3) (F 5) (F 9) (F 10) h)) (q230_160_eq C lf r KN KE) (q230_170_eq C lf (fun x0 x3 x5 x9 x10 h => q230_160 C lf r x0 x3 x5 x9 x10 h) (fun F h => r (F 8) h) KE)
noncomputable def q230_174 (C : YC) (lf : Nat) (n : K4) (x0 x1 x2 x3 : O) (h : HW) : Rs :=
 ob x1 fun a172 =>
 b2 (ybx 46 a172 h) fun y173 h173 =>
 n x0 x2 x3 (some y173) h173
theorem q230_174_eq (C : YC) (lf : Nat) (n : K4) (KR : KF) (KE : KX) : ∀ F h, evX fx230 C lf [0] F h (fun F h => n (F 0) (F 2) (F 3) (F 5) h) KR KE = q230_174 C lf n (F 0) (F 1) (F 2) (F 3) h := by
  intro F h; kernel_rfl
noncomputable def q230_175 (C : YC) (lf : Nat) (r : K1) (x0 x1 x2 x3 : O) (h : HW) : Rs :=
 q230_174 C lf (fun x0 x2 x3 x5 h => q230_171 C lf r x0 x2 x3 x5 h) x0 x1 x2 x3 h
theorem q230_175_eq (C : YC) (lf : Nat) (r : K1) (KN : KF) (KE : KX) : ∀ F h, evX fx230 C lf [] F h KN (fun F h => r (F 8) h) KE = q230_175 C lf r (F 0) (F 1) (F 2) (F 3) h := cSeq (a := subX fx230 [0]) (b := subX fx230 [1]) (by kernel_rfl) (B := (fun F h => q230_171 C lf r (F 0) (F 2) (F 3) (F 5) h)) (q230_171_eq C lf r KN KE) (q230_174_eq C lf (fun x0 x2 x3 x5 h => q230_171 C lf r x0 x2 x3 x5 h) (fun F h => r (F 8) h) KE)
noncomputable def fs230 (C : YC) (lf : Nat) (a0 a1 a2 a3 : SV) (h : HW) : Rs := q230_175 C lf ff230 (some a0) (some a1) (some a2) (some a3) h
theorem fs230_eq (C : YC) (lf : Nat) (a0 a1 a2 a3 : SV) (h : HW) : yFn Tryz.prog fx230 C lf [a0, a1, a2, a3] h = fs230 C lf a0 a1 a2 a3 h := fnX (K := (fun F h => ff230 (F 8) h)) (by kernel_rfl) (((q230_175_eq C lf ff230 (fun F h => ff230 (F 8) h) (fun _ _ _ => none)) _ h).trans (by kernel_rfl))
noncomputable def fy230 : YX Tryz.prog := Y4 fx230 fs230 fs230_eq (by kernel_rfl)

noncomputable def fx242 : XF Tryz.prog := ⟨242, Tryz.f242, fun _ => .text, Tryz.func242, by kernel_rfl, by kernel_rfl, by kernel_rfl, by kernel_rfl⟩
noncomputable def ff242 (x4 : O) (h : HW) : Rs :=
 ob x4 fun a0 =>
 some (.ret a0, h)
noncomputable def q242_20 (C : YC) (lf : Nat) (r : K1) (x0 x1 : O) (h : HW) : Rs :=
 ob x0 fun a1 =>
 ob x1 fun a2 =>
 bc (C (.fn 206) [a1, a2] h) fun y3 h3 =>
 ob (ext 0 y3) fun y4 =>
 ob (ext 1 y3) fun y5 =>
 ob (bin Tryz.prog .neq 23 y5 (.int .i64 0)) fun y6 =>
 yIf y6
 (r (some y5) h3)
 (ob (semNil y4) fun y7 =>
 ob (fa 11 y7) fun y8 =>
 ob (ld1 y8 h3) fun y9 =>
 ob (bin Tryz.prog .eql 3 y9 (.int .i64 0)) fun y10 =>
 yIf y10
 (r (some (.int .i64 22)) h3)
 (ob (semNil y4) fun y11 =>
 ob (fa 11 y11) fun y12 =>
 ob (ld1 y12 h3) fun y13 =>
 ob (bin Tryz.prog .sub 3 y13 (.int .i64 1)) fun y14 =>
 ob (semNil y4) fun y15 =>
 ob (fa 11 y15) fun y16 =>
 ob (st 1 y16 y14 h3) fun h17 =>
 ob x0 fun a18 =>
 bc (C (.fn 207) [a18, y4] h17) fun y19 h19 =>
 r (some (.int .i64 0)) h19))
theorem q242_20_eq (C : YC) (lf : Nat) (r : K1) (KN : KF) (KE : KX) : ∀ F h, evX fx242 C lf [] F h KN (fun F h => r (F 4) h) KE = q242_20 C lf r (F 0) (F 1) h := by
  intro F h; kernel_rfl
noncomputable def fs242 (C : YC) (lf : Nat) (a0 a1 : SV) (h : HW) : Rs := q242_20 C lf ff242 (some a0) (some a1) h
theorem fs242_eq (C : YC) (lf : Nat) (a0 a1 : SV) (h : HW) : yFn Tryz.prog fx242 C lf [a0, a1] h = fs242 C lf a0 a1 h := fnX (K := (fun F h => ff242 (F 4) h)) (by kernel_rfl) (((q242_20_eq C lf ff242 (fun F h => ff242 (F 4) h) (fun _ _ _ => none)) _ h).trans (by kernel_rfl))
noncomputable def fy242 : YX Tryz.prog := Y2 fx242 fs242 fs242_eq (by kernel_rfl)

noncomputable def fx244 : XF Tryz.prog := ⟨244, Tryz.f244, fun _ => .text, Tryz.func244, by kernel_rfl, by kernel_rfl, by kernel_rfl, by kernel_rfl⟩
noncomputable def ff244 (x3 : O) (h : HW) : Rs :=
 ob x3 fun a0 =>
 some (.ret a0, h)
noncomputable def q244_6 (C : YC) (lf : Nat) (r : K1) (x0 x1 : O) (h : HW) : Rs :=
 ob x1 fun a1 =>
 ob (ld1 a1 h) fun y2 =>
 ob x0 fun a3 =>
 ob (bin Tryz.prog .and 3 y2 a3) fun y4 =>
 ob (bin Tryz.prog .neq 3 y4 (.int .i64 0)) fun y5 =>
 r (some y5) h
theorem q244_6_eq (C : YC) (lf : Nat) (r : K1) (KN : KF) (KE : KX) : ∀ F h, evX fx244 C lf [] F h KN (fun F h => r (F 3) h) KE = q244_6 C lf r (F 0) (F 1) h := by
  intro F h; kernel_rfl
noncomputable def fs244 (C : YC) (lf : Nat) (a0 a1 : SV) (h : HW) : Rs := q244_6 C lf ff244 (some a0) (some a1) h
theorem fs244_eq (C : YC) (lf : Nat) (a0 a1 : SV) (h : HW) : yFn Tryz.prog fx244 C lf [a0, a1] h = fs244 C lf a0 a1 h := fnX (K := (fun F h => ff244 (F 3) h)) (by kernel_rfl) (((q244_6_eq C lf ff244 (fun F h => ff244 (F 3) h) (fun _ _ _ => none)) _ h).trans (by kernel_rfl))
noncomputable def fy244 : YX Tryz.prog := Y2 fx244 fs244 fs244_eq (by kernel_rfl)

noncomputable def fx245 : XF Tryz.prog := ⟨245, Tryz.f245, fun _ => .text, Tryz.func245, by kernel_rfl, by kernel_rfl, by kernel_rfl, by kernel_rfl⟩
noncomputable def ff245 (x2 : O) (h : HW) : Rs :=
 ob x2 fun a0 =>
 some (.ret a0, h)
noncomputable def q245_1 (C : YC) (lf : Nat) (r : K1) (h : HW) : Rs :=
 r (some (.int .i64 0)) h
theorem q245_1_eq (C : YC) (lf : Nat) (r : K1) (KN : KF) (KE : KX) : ∀ F h, evX fx245 C lf [] F h KN (fun F h => r (F 2) h) KE = q245_1 C lf r h := by
  intro F h; kernel_rfl
noncomputable def fs245 (C : YC) (lf : Nat) (a0 : SV) (h : HW) : Rs := q245_1 C lf ff245 h
theorem fs245_eq (C : YC) (lf : Nat) (a0 : SV) (h : HW) : yFn Tryz.prog fx245 C lf [a0] h = fs245 C lf a0 h := fnX (K := (fun F h => ff245 (F 2) h)) (by kernel_rfl) (((q245_1_eq C lf ff245 (fun F h => ff245 (F 2) h) (fun _ _ _ => none)) _ h).trans (by kernel_rfl))
noncomputable def fy245 : YX Tryz.prog := Y1 fx245 fs245 fs245_eq (by kernel_rfl)

noncomputable def fx247 : XF Tryz.prog := ⟨247, Tryz.f247, fun _ => .text, Tryz.func247, by kernel_rfl, by kernel_rfl, by kernel_rfl, by kernel_rfl⟩
noncomputable def ff247 (x6 : O) (h : HW) : Rs :=
 ob x6 fun a0 =>
 some (.ret a0, h)
noncomputable def q247_7 (C : YC) (lf : Nat) (r : K1) (x0 x1 x2 : O) (h : HW) : Rs :=
 ob x0 fun a1 =>
 ob x1 fun a2 =>
 bc (C (.fn 203) [a1, a2] h) fun y3 h3 =>
 ob (bin Tryz.prog .neq 23 y3 (.int .i64 0)) fun y4 =>
 yIf y4
 (r (some y3) h3)
 (ob x2 fun a5 =>
 bc (C (.fn 315) [a5] h3) fun y6 h6 =>
 r (some y6) h6)
theorem q247_7_eq (C : YC) (lf : Nat) (r : K1) (KN : KF) (KE : KX) : ∀ F h, evX fx247 C lf [] F h KN (fun F h => r (F 6) h) KE = q247_7 C lf r (F 0) (F 1) (F 2) h := by
  intro F h; kernel_rfl
noncomputable def fs247 (C : YC) (lf : Nat) (a0 a1 a2 : SV) (h : HW) : Rs := q247_7 C lf ff247 (some a0) (some a1) (some a2) h
theorem fs247_eq (C : YC) (lf : Nat) (a0 a1 a2 : SV) (h : HW) : yFn Tryz.prog fx247 C lf [a0, a1, a2] h = fs247 C lf a0 a1 a2 h := fnX (K := (fun F h => ff247 (F 6) h)) (by kernel_rfl) (((q247_7_eq C lf ff247 (fun F h => ff247 (F 6) h) (fun _ _ _ => none)) _ h).trans (by kernel_rfl))
noncomputable def fy247 : YX Tryz.prog := Y3 fx247 fs247 fs247_eq (by kernel_rfl)

noncomputable def fx248 : XF Tryz.prog := ⟨248, Tryz.f248, fun _ => .text, Tryz.func248, by kernel_rfl, by kernel_rfl, by kernel_rfl, by kernel_rfl⟩
noncomputable def ff248 (x4 : O) (h : HW) : Rs :=
 ob x4 fun a0 =>
 some (.ret a0, h)
noncomputable def q248_2 (C : YC) (lf : Nat) (r : K1) (x7 : O) (h : HW) : Rs :=
 ob x7 fun a1 =>
 r (some a1) h
theorem q248_2_eq (C : YC) (lf : Nat) (r : K1) (KN : KF) (KE : KX) : ∀ F h, evX fx248 C lf [1, 1, 1, 1] F h KN (fun F h => r (F 4) h) KE = q248_2 C lf r (F 7) h := by
  intro F h; kernel_rfl
noncomputable def q248_16 (C : YC) (lf : Nat) (n : K2) (e0 : K1) (x5 x7 : O) (h : HW) : Rs :=
 ob x5 fun a4 =>
 ob (lenE Tryz.prog 31 a4) fun y5 =>
 ob (bin Tryz.prog .geq 3 y5 (.int .i64 32)) fun y6 =>
 yIf y6
 (ob x7 fun a7 =>
 ob x5 fun a8 =>
 ob (semSlice Tryz.prog 31 a8 none (some (.int .i64 32))) fun y9 =>
 ob (ysa Tryz.prog 292 y9) fun y10 =>
 ob (ldN 32 y10 h) fun y11 =>
 b2 (ybs Tryz.prog 335 1 [0] [y11] h) fun y12 h12 =>
 b2 (ybl Tryz.prog .append #[335, 335] [a7, y12] h12) fun y13 h13 =>
 ob x5 fun a14 =>
 ob (semSlice Tryz.prog 31 a14 (some (.int .i64 32)) none) fun y15 =>
 n (some y15) (some y13) h13)
 (e0 x7 h)
theorem q248_16_eq (C : YC) (lf : Nat) (n : K2) (e0 : K1) (KR : KF) (KE : KX) : ∀ F h, evX fx248 C lf [1, 1, 1, 0, 0, 0] F h (fun F h => n (F 5) (F 7) h) KR (bk 0 (fun F h => e0 (F 7) h) KE) = q248_16 C lf n e0 (F 5) (F 7) h := by
  intro F h; kernel_rfl
noncomputable def l248_3 (C : YC) (lf : Nat) (e0 : K1) (k : O × O → HW → Rs) (s : O × O) (h : HW) : Rs :=
 q248_16 C lf (fun x5 x7 h => k (x5, x7) h) e0 s.1 s.2 h
noncomputable def q248_17 (C : YC) (lf : Nat) (r : K1) (x5 x7 : O) (h : HW) : Rs :=
 lp (l248_3 C lf (fun x7 h => q248_2 C lf r x7 h)) lf (x5, x7) h
theorem q248_17_eq (C : YC) (lf : Nat) (r : K1) (KN : KF) (KE : KX) : ∀ F h, evX fx248 C lf [1, 1, 1] F h KN (fun F h => r (F 4) h) KE = q248_17 C lf r (F 5) (F 7) h := cSeq (a := subX fx248 [1, 1, 1, 0]) (b := subX fx248 [1, 1, 1, 1]) (by kernel_rfl) (B := (fun F h => q248_2 C lf r (F 7) h)) (q248_2_eq C lf r KN KE) (cBlock (id := 0) (a := subX fx248 [1, 1, 1, 0, 0]) (by kernel_rfl) (cLoop (a := subX fx248 [1, 1, 1, 0, 0, 0]) (g := fun F => (F 5, F 7)) (body := l248_3 C lf (fun x7 h => q248_2 C lf r x7 h)) (by kernel_rfl) (fun k => (q248_16_eq C lf (fun x5 x7 h => k (x5, x7) h) (fun x7 h => q248_2 C lf r x7 h) (fun F h => r (F 4) h) KE))))
noncomputable def q248_18 (C : YC) (lf : Nat) (n : K2) (x5 : O) (h : HW) : Rs :=
 n x5 (some (.val (.slice none 0 0))) h
theorem q248_18_eq (C : YC) (lf : Nat) (n : K2) (KR : KF) (KE : KX) : ∀ F h, evX fx248 C lf [1, 1, 0] F h (fun F h => n (F 5) (F 7) h) KR KE = q248_18 C lf n (F 5) h := by
  intro F h; kernel_rfl
noncomputable def q248_19 (C : YC) (lf : Nat) (r : K1) (x5 : O) (h : HW) : Rs :=
 q248_18 C lf (fun x5 x7 h => q248_17 C lf r x5 x7 h) x5 h
theorem q248_19_eq (C : YC) (lf : Nat) (r : K1) (KN : KF) (KE : KX) : ∀ F h, evX fx248 C lf [1, 1] F h KN (fun F h => r (F 4) h) KE = q248_19 C lf r (F 5) h := cSeq (a := subX fx248 [1, 1, 0]) (b := subX fx248 [1, 1, 1]) (by kernel_rfl) (B := (fun F h => q248_17 C lf r (F 5) (F 7) h)) (q248_17_eq C lf r KN KE) (q248_18_eq C lf (fun x5 x7 h => q248_17 C lf r x5 x7 h) (fun F h => r (F 4) h) KE)
noncomputable def q248_25 (C : YC) (lf : Nat) (n : K1) (x0 x1 : O) (h : HW) : Rs :=
 ob x0 fun a20 =>
 ob x1 fun a21 =>
 bc (C (.fn 278) [a20, a21, (.int .i64 0), (.int .i64 17792)] h) fun y22 h22 =>
 ob (ext 0 y22) fun y23 =>
 ob (ext 1 y22) fun y24 =>
 n (some y23) h22
theorem q248_25_eq (C : YC) (lf : Nat) (n : K1) (KR : KF) (KE : KX) : ∀ F h, evX fx248 C lf [1, 0] F h (fun F h => n (F 5) h) KR KE = q248_25 C lf n (F 0) (F 1) h := by
  intro F h; kernel_rfl
noncomputable def q248_26 (C : YC) (lf : Nat) (r : K1) (x0 x1 : O) (h : HW) : Rs :=
 q248_25 C lf (fun x5 h => q248_19 C lf r x5 h) x0 x1 h
theorem q248_26_eq (C : YC) (lf : Nat) (r : K1) (KN : KF) (KE : KX) : ∀ F h, evX fx248 C lf [1] F h KN (fun F h => r (F 4) h) KE = q248_26 C lf r (F 0) (F 1) h := cSeq (a := subX fx248 [1, 0]) (b := subX fx248 [1, 1]) (by kernel_rfl) (B := (fun F h => q248_19 C lf r (F 5) h)) (q248_19_eq C lf r KN KE) (q248_25_eq C lf (fun x5 h => q248_19 C lf r x5 h) (fun F h => r (F 4) h) KE)
noncomputable def q248_27 (C : YC) (lf : Nat) (n : K2) (x0 x1 : O) (h : HW) : Rs :=
 n x0 x1 h
theorem q248_27_eq (C : YC) (lf : Nat) (n : K2) (KR : KF) (KE : KX) : ∀ F h, evX fx248 C lf [0] F h (fun F h => n (F 0) (F 1) h) KR KE = q248_27 C lf n (F 0) (F 1) h := by
  intro F h; kernel_rfl
noncomputable def q248_28 (C : YC) (lf : Nat) (r : K1) (x0 x1 : O) (h : HW) : Rs :=
 q248_27 C lf (fun x0 x1 h => q248_26 C lf r x0 x1 h) x0 x1 h
theorem q248_28_eq (C : YC) (lf : Nat) (r : K1) (KN : KF) (KE : KX) : ∀ F h, evX fx248 C lf [] F h KN (fun F h => r (F 4) h) KE = q248_28 C lf r (F 0) (F 1) h := cSeq (a := subX fx248 [0]) (b := subX fx248 [1]) (by kernel_rfl) (B := (fun F h => q248_26 C lf r (F 0) (F 1) h)) (q248_26_eq C lf r KN KE) (q248_27_eq C lf (fun x0 x1 h => q248_26 C lf r x0 x1 h) (fun F h => r (F 4) h) KE)
noncomputable def fs248 (C : YC) (lf : Nat) (a0 a1 : SV) (h : HW) : Rs := q248_28 C lf ff248 (some a0) (some a1) h
theorem fs248_eq (C : YC) (lf : Nat) (a0 a1 : SV) (h : HW) : yFn Tryz.prog fx248 C lf [a0, a1] h = fs248 C lf a0 a1 h := fnX (K := (fun F h => ff248 (F 4) h)) (by kernel_rfl) (((q248_28_eq C lf ff248 (fun F h => ff248 (F 4) h) (fun _ _ _ => none)) _ h).trans (by kernel_rfl))
noncomputable def fy248 : YX Tryz.prog := Y2 fx248 fs248 fs248_eq (by kernel_rfl)

noncomputable def fx249 : XF Tryz.prog := ⟨249, Tryz.f249, fun r => bif Nat.beq r 5 then .ord [0, 1, 2, 3, 4, 6, 5, 7, 8, 9] [(5, [6])] else .text, Tryz.func249, by kernel_rfl, by kernel_rfl, by kernel_rfl, by kernel_rfl⟩
noncomputable def ff249 (x4 : O) (h : HW) : Rs :=
 ob x4 fun a0 =>
 some (.ret a0, h)
noncomputable def q249_1 (C : YC) (lf : Nat) (r : K1) (h : HW) : Rs :=
 r (some (.int .i64 (-1))) h
theorem q249_1_eq (C : YC) (lf : Nat) (r : K1) (KN : KF) (KE : KX) : ∀ F h, evX fx249 C lf [1, 1, 1] F h KN (fun F h => r (F 4) h) KE = q249_1 C lf r h := by
  intro F h; kernel_rfl
noncomputable def q249_30 (C : YC) (lf : Nat) (n : K4) (r : K1) (e0 : K0) (x5 x10 x11 x12 : O) (h : HW) : Rs :=
 ob x12 fun a3 =>
 ob x11 fun a4 =>
 ob (bin Tryz.prog .lss 3 a3 a4) fun y5 =>
 yIf y5
 (ob x12 fun a6 =>
 ob x10 fun a7 =>
 ob x12 fun a8 =>
 ob (ixS 32 a7 a8) fun y9 =>
 ob (ldN 32 y9 h) fun y10 =>
 b2 (yAl Tryz.prog 292 h) fun y11 h11 =>
 ob (st 32 y11 y10 h11) fun h12 =>
 ob (ldN 32 y11 h12) fun y13 =>
 bcn (C (.fn 250) [y13] h12) fun y14 h14 =>
 ob (bin Tryz.prog .neq 3 y14 (.int .i64 0)) fun y15 =>
 bcn (gd true (some y15) (ob (ldN 32 y11 h14) fun y16 =>
 some (.ret y16, h14)) h14) fun y17 h17 =>
 bcn (gd true (some y15) (ob x5 fun a18 =>
 ob (ldN 32 a18 h17) fun y19 =>
 some (.ret y19, h17)) h17) fun y20 h20 =>
 bcn (gd true (some y15) (bcn (C (.fn 316) [y17] h20) fun y21 h21 =>
 some (.ret y21, h21)) h20) fun y22 h22 =>
 ck (chkH [(6, gdA true (some y15) (adrO x5)), (4, gdA true (some y15) (adrO (some y11))), (0, adrO (some y11))] h20 h22 [6]) <|
 bcn (gd true (some y15) (bcn (C (.fn 316) [y20] h22) fun y23 h23 =>
 some (.ret y23, h23)) h22) fun y24 h24 =>
 bcn (gd true (some y15) (ob (bin Tryz.prog .eql 9 y22 y24) fun y25 =>
 some (.ret y25, h24)) h24) fun y26 h26 =>
 ob (ypk y15 y26 (.bool false)) fun y27 =>
 yIf y27
 (r (some a6) h26)
 (ob x12 fun a28 =>
 ob (bin Tryz.prog .add 3 a28 (.int .i64 1)) fun y29 =>
 n x5 x10 x11 (some y29) h26))
 (e0 h)
theorem q249_30_eq (C : YC) (lf : Nat) (n : K4) (r : K1) (e0 : K0) (KE : KX) : ∀ F h, evX fx249 C lf [1, 1, 0, 1, 0, 0] F h (fun F h => n (F 5) (F 10) (F 11) (F 12) h) (fun F h => r (F 4) h) (bk 0 (fun F h => e0 h) KE) = q249_30 C lf n r e0 (F 5) (F 10) (F 11) (F 12) h := by
  intro F h; kernel_rfl
noncomputable def l249_2 (C : YC) (lf : Nat) (r : K1) (e0 : K0) (k : O × O × O × O → HW → Rs) (s : O × O × O × O) (h : HW) : Rs :=
 q249_30 C lf (fun x5 x10 x11 x12 h => k (x5, x10, x11, x12) h) r e0 s.1 s.2.1 s.2.2.1 s.2.2.2 h
noncomputable def q249_33 (C : YC) (lf : Nat) (n : K4) (x0 x5 : O) (h : HW) : Rs :=
 ob x0 fun a31 =>
 ob (lenE Tryz.prog 335 a31) fun y32 =>
 n x5 (some a31) (some y32) (some (.int .i64 0)) h
theorem q249_33_eq (C : YC) (lf : Nat) (n : K4) (KR : KF) (KE : KX) : ∀ F h, evX fx249 C lf [1, 1, 0, 0] F h (fun F h => n (F 5) (F 10) (F 11) (F 12) h) KR KE = q249_33 C lf n (F 0) (F 5) h := by
  intro F h; kernel_rfl
noncomputable def q249_34 (C : YC) (lf : Nat) (n : K0) (r : K1) (x0 x5 : O) (h : HW) : Rs :=
 q249_33 C lf (fun x5 x10 x11 x12 h => lp (l249_2 C lf r n) lf (x5, x10, x11, x12) h) x0 x5 h
theorem q249_34_eq (C : YC) (lf : Nat) (n : K0) (r : K1) (KE : KX) : ∀ F h, evX fx249 C lf [1, 1, 0] F h (fun F h => n h) (fun F h => r (F 4) h) KE = q249_34 C lf n r (F 0) (F 5) h := cSeq (a := subX fx249 [1, 1, 0, 0]) (b := subX fx249 [1, 1, 0, 1]) (by kernel_rfl) (B := (fun F h => lp (l249_2 C lf r n) lf ((F 5), (F 10), (F 11), (F 12)) h)) (cBlock (id := 0) (a := subX fx249 [1, 1, 0, 1, 0]) (by kernel_rfl) (cLoop (a := subX fx249 [1, 1, 0, 1, 0, 0]) (g := fun F => (F 5, F 10, F 11, F 12)) (body := l249_2 C lf r n) (by kernel_rfl) (fun k => (q249_30_eq C lf (fun x5 x10 x11 x12 h => k (x5, x10, x11, x12) h) r n KE)))) (q249_33_eq C lf (fun x5 x10 x11 x12 h => lp (l249_2 C lf r n) lf (x5, x10, x11, x12) h) (fun F h => r (F 4) h) KE)
noncomputable def q249_35 (C : YC) (lf : Nat) (r : K1) (x0 x5 : O) (h : HW) : Rs :=
 q249_34 C lf (fun h => q249_1 C lf r h) r x0 x5 h
theorem q249_35_eq (C : YC) (lf : Nat) (r : K1) (KN : KF) (KE : KX) : ∀ F h, evX fx249 C lf [1, 1] F h KN (fun F h => r (F 4) h) KE = q249_35 C lf r (F 0) (F 5) h := cSeq (a := subX fx249 [1, 1, 0]) (b := subX fx249 [1, 1, 1]) (by kernel_rfl) (B := (fun F h => q249_1 C lf r h)) (q249_1_eq C lf r KN KE) (q249_34_eq C lf (fun h => q249_1 C lf r h) r KE)
noncomputable def q249_40 (C : YC) (lf : Nat) (n : K2) (x0 x1 : O) (h : HW) : Rs :=
 ob x1 fun a36 =>
 bc (C (.fn 205) [a36, (.int .i64 0)] h) fun y37 h37 =>
 b2 (yAl Tryz.prog 292 h37) fun y38 h38 =>
 ob (st 32 y38 y37 h38) fun h39 =>
 n x0 (some y38) h39
theorem q249_40_eq (C : YC) (lf : Nat) (n : K2) (KR : KF) (KE : KX) : ∀ F h, evX fx249 C lf [1, 0] F h (fun F h => n (F 0) (F 5) h) KR KE = q249_40 C lf n (F 0) (F 1) h := by
  intro F h; kernel_rfl
noncomputable def q249_41 (C : YC) (lf : Nat) (r : K1) (x0 x1 : O) (h : HW) : Rs :=
 q249_40 C lf (fun x0 x5 h => q249_35 C lf r x0 x5 h) x0 x1 h
theorem q249_41_eq (C : YC) (lf : Nat) (r : K1) (KN : KF) (KE : KX) : ∀ F h, evX fx249 C lf [1] F h KN (fun F h => r (F 4) h) KE = q249_41 C lf r (F 0) (F 1) h := cSeq (a := subX fx249 [1, 0]) (b := subX fx249 [1, 1]) (by kernel_rfl) (B := (fun F h => q249_35 C lf r (F 0) (F 5) h)) (q249_35_eq C lf r KN KE) (q249_40_eq C lf (fun x0 x5 h => q249_35 C lf r x0 x5 h) (fun F h => r (F 4) h) KE)
noncomputable def q249_42 (C : YC) (lf : Nat) (n : K2) (x0 x1 : O) (h : HW) : Rs :=
 n x0 x1 h
theorem q249_42_eq (C : YC) (lf : Nat) (n : K2) (KR : KF) (KE : KX) : ∀ F h, evX fx249 C lf [0] F h (fun F h => n (F 0) (F 1) h) KR KE = q249_42 C lf n (F 0) (F 1) h := by
  intro F h; kernel_rfl
noncomputable def q249_43 (C : YC) (lf : Nat) (r : K1) (x0 x1 : O) (h : HW) : Rs :=
 q249_42 C lf (fun x0 x1 h => q249_41 C lf r x0 x1 h) x0 x1 h
theorem q249_43_eq (C : YC) (lf : Nat) (r : K1) (KN : KF) (KE : KX) : ∀ F h, evX fx249 C lf [] F h KN (fun F h => r (F 4) h) KE = q249_43 C lf r (F 0) (F 1) h := cSeq (a := subX fx249 [0]) (b := subX fx249 [1]) (by kernel_rfl) (B := (fun F h => q249_41 C lf r (F 0) (F 1) h)) (q249_41_eq C lf r KN KE) (q249_42_eq C lf (fun x0 x1 h => q249_41 C lf r x0 x1 h) (fun F h => r (F 4) h) KE)
noncomputable def fs249 (C : YC) (lf : Nat) (a0 a1 : SV) (h : HW) : Rs := q249_43 C lf ff249 (some a0) (some a1) h
theorem fs249_eq (C : YC) (lf : Nat) (a0 a1 : SV) (h : HW) : yFn Tryz.prog fx249 C lf [a0, a1] h = fs249 C lf a0 a1 h := fnX (K := (fun F h => ff249 (F 4) h)) (by kernel_rfl) (((q249_43_eq C lf ff249 (fun F h => ff249 (F 4) h) (fun _ _ _ => none)) _ h).trans (by kernel_rfl))
noncomputable def fy249 : YX Tryz.prog := Y2 fx249 fs249 fs249_eq (by kernel_rfl)

noncomputable def fx250 : XF Tryz.prog := ⟨250, Tryz.f250, fun _ => .text, Tryz.func250, by kernel_rfl, by kernel_rfl, by kernel_rfl, by kernel_rfl⟩
noncomputable def ff250 (x2 : O) (h : HW) : Rs :=
 ob x2 fun a0 =>
 some (.ret a0, h)
noncomputable def q250_2 (C : YC) (lf : Nat) (r : K1) (x3 : O) (h : HW) : Rs :=
 ob x3 fun a1 =>
 r (some a1) h
theorem q250_2_eq (C : YC) (lf : Nat) (r : K1) (KN : KF) (KE : KX) : ∀ F h, evX fx250 C lf [1, 1, 1] F h KN (fun F h => r (F 2) h) KE = q250_2 C lf r (F 3) h := by
  intro F h; kernel_rfl
noncomputable def q250_17 (C : YC) (lf : Nat) (n : K3) (e0 : K1) (x1 x3 x5 : O) (h : HW) : Rs :=
 ob x5 fun a4 =>
 ob (bin Tryz.prog .lss 3 a4 (.int .i64 4)) fun y5 =>
 yIf y5
 (ob x5 fun a6 =>
 ob x3 fun a7 =>
 ob x1 fun a8 =>
 ob (ixA 32 1 a8 a6) fun y9 =>
 ob (ld1 y9 h) fun y10 =>
 ob (cvI .i64 y10) fun y11 =>
 ob (bin Tryz.prog .mul 3 (.int .i64 8) a6) fun y12 =>
 ob (bin Tryz.prog .shl 3 y11 y12) fun y13 =>
 ob (bin Tryz.prog .or 3 a7 y13) fun y14 =>
 ob x5 fun a15 =>
 ob (bin Tryz.prog .add 3 a15 (.int .i64 1)) fun y16 =>
 n x1 (some y14) (some y16) h)
 (e0 x3 h)
theorem q250_17_eq (C : YC) (lf : Nat) (n : K3) (e0 : K1) (KR : KF) (KE : KX) : ∀ F h, evX fx250 C lf [1, 1, 0, 1, 0, 0] F h (fun F h => n (F 1) (F 3) (F 5) h) KR (bk 0 (fun F h => e0 (F 3) h) KE) = q250_17 C lf n e0 (F 1) (F 3) (F 5) h := by
  intro F h; kernel_rfl
noncomputable def l250_3 (C : YC) (lf : Nat) (e0 : K1) (k : O × O × O → HW → Rs) (s : O × O × O) (h : HW) : Rs :=
 q250_17 C lf (fun x1 x3 x5 h => k (x1, x3, x5) h) e0 s.1 s.2.1 s.2.2 h
noncomputable def q250_18 (C : YC) (lf : Nat) (n : K3) (x1 x3 : O) (h : HW) : Rs :=
 n x1 x3 (some (.int .i64 0)) h
theorem q250_18_eq (C : YC) (lf : Nat) (n : K3) (KR : KF) (KE : KX) : ∀ F h, evX fx250 C lf [1, 1, 0, 0] F h (fun F h => n (F 1) (F 3) (F 5) h) KR KE = q250_18 C lf n (F 1) (F 3) h := by
  intro F h; kernel_rfl
noncomputable def q250_19 (C : YC) (lf : Nat) (n : K1) (x1 x3 : O) (h : HW) : Rs :=
 q250_18 C lf (fun x1 x3 x5 h => lp (l250_3 C lf n) lf (x1, x3, x5) h) x1 x3 h
theorem q250_19_eq (C : YC) (lf : Nat) (n : K1) (KR : KF) (KE : KX) : ∀ F h, evX fx250 C lf [1, 1, 0] F h (fun F h => n (F 3) h) KR KE = q250_19 C lf n (F 1) (F 3) h := cSeq (a := subX fx250 [1, 1, 0, 0]) (b := subX fx250 [1, 1, 0, 1]) (by kernel_rfl) (B := (fun F h => lp (l250_3 C lf n) lf ((F 1), (F 3), (F 5)) h)) (cBlock (id := 0) (a := subX fx250 [1, 1, 0, 1, 0]) (by kernel_rfl) (cLoop (a := subX fx250 [1, 1, 0, 1, 0, 0]) (g := fun F => (F 1, F 3, F 5)) (body := l250_3 C lf n) (by kernel_rfl) (fun k => (q250_17_eq C lf (fun x1 x3 x5 h => k (x1, x3, x5) h) n KR KE)))) (q250_18_eq C lf (fun x1 x3 x5 h => lp (l250_3 C lf n) lf (x1, x3, x5) h) KR KE)
noncomputable def q250_20 (C : YC) (lf : Nat) (r : K1) (x1 x3 : O) (h : HW) : Rs :=
 q250_19 C lf (fun x3 h => q250_2 C lf r x3 h) x1 x3 h
theorem q250_20_eq (C : YC) (lf : Nat) (r : K1) (KN : KF) (KE : KX) : ∀ F h, evX fx250 C lf [1, 1] F h KN (fun F h => r (F 2) h) KE = q250_20 C lf r (F 1) (F 3) h := cSeq (a := subX fx250 [1, 1, 0]) (b := subX fx250 [1, 1, 1]) (by kernel_rfl) (B := (fun F h => q250_2 C lf r (F 3) h)) (q250_2_eq C lf r KN KE) (q250_19_eq C lf (fun x3 h => q250_2 C lf r x3 h) (fun F h => r (F 2) h) KE)
noncomputable def q250_21 (C : YC) (lf : Nat) (n : K2) (x1 : O) (h : HW) : Rs :=
 n x1 (some (.int .i64 0)) h
theorem q250_21_eq (C : YC) (lf : Nat) (n : K2) (KR : KF) (KE : KX) : ∀ F h, evX fx250 C lf [1, 0] F h (fun F h => n (F 1) (F 3) h) KR KE = q250_21 C lf n (F 1) h := by
  intro F h; kernel_rfl
noncomputable def q250_22 (C : YC) (lf : Nat) (r : K1) (x1 : O) (h : HW) : Rs :=
 q250_21 C lf (fun x1 x3 h => q250_20 C lf r x1 x3 h) x1 h
theorem q250_22_eq (C : YC) (lf : Nat) (r : K1) (KN : KF) (KE : KX) : ∀ F h, evX fx250 C lf [1] F h KN (fun F h => r (F 2) h) KE = q250_22 C lf r (F 1) h := cSeq (a := subX fx250 [1, 0]) (b := subX fx250 [1, 1]) (by kernel_rfl) (B := (fun F h => q250_20 C lf r (F 1) (F 3) h)) (q250_20_eq C lf r KN KE) (q250_21_eq C lf (fun x1 x3 h => q250_20 C lf r x1 x3 h) (fun F h => r (F 2) h) KE)
noncomputable def q250_25 (C : YC) (lf : Nat) (n : K1) (x0 : O) (h : HW) : Rs :=
 ob x0 fun a23 =>
 b2 (ybx 292 a23 h) fun y24 h24 =>
 n (some y24) h24
theorem q250_25_eq (C : YC) (lf : Nat) (n : K1) (KR : KF) (KE : KX) : ∀ F h, evX fx250 C lf [0] F h (fun F h => n (F 1) h) KR KE = q250_25 C lf n (F 0) h := by
  intro F h; kernel_rfl
noncomputable def q250_26 (C : YC) (lf : Nat) (r : K1) (x0 : O) (h : HW) : Rs :=
 q250_25 C lf (fun x1 h => q250_22 C lf r x1 h) x0 h
theorem q250_26_eq (C : YC) (lf : Nat) (r : K1) (KN : KF) (KE : KX) : ∀ F h, evX fx250 C lf [] F h KN (fun F h => r (F 2) h) KE = q250_26 C lf r (F 0) h := cSeq (a := subX fx250 [0]) (b := subX fx250 [1]) (by kernel_rfl) (B := (fun F h => q250_22 C lf r (F 1) h)) (q250_22_eq C lf r KN KE) (q250_25_eq C lf (fun x1 h => q250_22 C lf r x1 h) (fun F h => r (F 2) h) KE)
noncomputable def fs250 (C : YC) (lf : Nat) (a0 : SV) (h : HW) : Rs := q250_26 C lf ff250 (some a0) h
theorem fs250_eq (C : YC) (lf : Nat) (a0 : SV) (h : HW) : yFn Tryz.prog fx250 C lf [a0] h = fs250 C lf a0 h := fnX (K := (fun F h => ff250 (F 2) h)) (by kernel_rfl) (((q250_26_eq C lf ff250 (fun F h => ff250 (F 2) h) (fun _ _ _ => none)) _ h).trans (by kernel_rfl))
noncomputable def fy250 : YX Tryz.prog := Y1 fx250 fs250 fs250_eq (by kernel_rfl)

noncomputable def fx254 : XF Tryz.prog := ⟨254, Tryz.f254, fun r => bif Nat.beq r 8 then .ord [1, 2, 0, 3, 4, 5, 6] [(4, [0])] else .text, Tryz.func254, by kernel_rfl, by kernel_rfl, by kernel_rfl, by kernel_rfl⟩
noncomputable def ff254 (x4 : O) (h : HW) : Rs :=
 ob x4 fun a0 =>
 some (.ret a0, h)
noncomputable def q254_3 (C : YC) (lf : Nat) (r : K1) (x5 x6 : O) (h : HW) : Rs :=
 ob x5 fun a1 =>
 ob x6 fun a2 =>
 r (some (.fn (.func 320) [] [a1, a2])) h
theorem q254_3_eq (C : YC) (lf : Nat) (r : K1) (KN : KF) (KE : KX) : ∀ F h, evX fx254 C lf [1, 1, 1, 1, 1] F h KN (fun F h => r (F 4) h) KE = q254_3 C lf r (F 5) (F 6) h := by
  intro F h; kernel_rfl
noncomputable def q254_24 (C : YC) (lf : Nat) (n : K6) (e0 : K2) (x0 x5 x6 x19 x20 x21 : O) (h : HW) : Rs :=
 ob x21 fun a5 =>
 ob x20 fun a6 =>
 ob (bin Tryz.prog .lss 3 a5 a6) fun y7 =>
 yIf y7
 (ob x21 fun a8 =>
 ob x19 fun a9 =>
 ob x21 fun a10 =>
 ob (ixS 32 a9 a10) fun y11 =>
 ob (ldN 32 y11 h) fun y12 =>
 b2 (yAl Tryz.prog 292 h) fun y13 h13 =>
 ob (st 32 y13 y12 h13) fun h14 =>
 ob x0 fun a15 =>
 ob x6 fun a16 =>
 ob (ld1 a16 h14) fun y17 =>
 ob (ldN 32 y13 h14) fun y18 =>
 bcn (C (.fn 319) [a15, y18] h14) fun y19 h19 =>
 ck (chkH [(3, adrO (some y13)), (0, adrO x6)] h14 h19 [0]) <|
 ob (ixS 3 y17 a8) fun y20 =>
 ob (st 3 y20 y19 h19) fun h21 =>
 ob x21 fun a22 =>
 ob (bin Tryz.prog .add 3 a22 (.int .i64 1)) fun y23 =>
 n x0 x5 x6 x19 x20 (some y23) h21)
 (e0 x5 x6 h)
theorem q254_24_eq (C : YC) (lf : Nat) (n : K6) (e0 : K2) (KR : KF) (KE : KX) : ∀ F h, evX fx254 C lf [1, 1, 1, 1, 0, 1, 0, 0] F h (fun F h => n (F 0) (F 5) (F 6) (F 19) (F 20) (F 21) h) KR (bk 0 (fun F h => e0 (F 5) (F 6) h) KE) = q254_24 C lf n e0 (F 0) (F 5) (F 6) (F 19) (F 20) (F 21) h := by
  intro F h; kernel_rfl
noncomputable def l254_4 (C : YC) (lf : Nat) (e0 : K2) (k : O × O × O × O × O × O → HW → Rs) (s : O × O × O × O × O × O) (h : HW) : Rs :=
 q254_24 C lf (fun x0 x5 x6 x19 x20 x21 h => k (x0, x5, x6, x19, x20, x21) h) e0 s.1 s.2.1 s.2.2.1 s.2.2.2.1 s.2.2.2.2.1 s.2.2.2.2.2 h
noncomputable def q254_28 (C : YC) (lf : Nat) (n : K6) (x0 x5 x6 : O) (h : HW) : Rs :=
 ob x5 fun a25 =>
 ob (ld1 a25 h) fun y26 =>
 ob (lenE Tryz.prog 335 y26) fun y27 =>
 n x0 x5 x6 (some y26) (some y27) (some (.int .i64 0)) h
theorem q254_28_eq (C : YC) (lf : Nat) (n : K6) (KR : KF) (KE : KX) : ∀ F h, evX fx254 C lf [1, 1, 1, 1, 0, 0] F h (fun F h => n (F 0) (F 5) (F 6) (F 19) (F 20) (F 21) h) KR KE = q254_28 C lf n (F 0) (F 5) (F 6) h := by
  intro F h; kernel_rfl
noncomputable def q254_29 (C : YC) (lf : Nat) (n : K2) (x0 x5 x6 : O) (h : HW) : Rs :=
 q254_28 C lf (fun x0 x5 x6 x19 x20 x21 h => lp (l254_4 C lf n) lf (x0, x5, x6, x19, x20, x21) h) x0 x5 x6 h
theorem q254_29_eq (C : YC) (lf : Nat) (n : K2) (KR : KF) (KE : KX) : ∀ F h, evX fx254 C lf [1, 1, 1, 1, 0] F h (fun F h => n (F 5) (F 6) h) KR KE = q254_29 C lf n (F 0) (F 5) (F 6) h := cSeq (a := subX fx254 [1, 1, 1, 1, 0, 0]) (b := subX fx254 [1, 1, 1, 1, 0, 1]) (by kernel_rfl) (B := (fun F h => lp (l254_4 C lf n) lf ((F 0), (F 5), (F 6), (F 19), (F 20), (F 21)) h)) (cBlock (id := 0) (a := subX fx254 [1, 1, 1, 1, 0, 1, 0]) (by kernel_rfl) (cLoop (a := subX fx254 [1, 1, 1, 1, 0, 1, 0, 0]) (g := fun F => (F 0, F 5, F 6, F 19, F 20, F 21)) (body := l254_4 C lf n) (by kernel_rfl) (fun k => (q254_24_eq C lf (fun x0 x5 x6 x19 x20 x21 h => k (x0, x5, x6, x19, x20, x21) h) n KR KE)))) (q254_28_eq C lf (fun x0 x5 x6 x19 x20 x21 h => lp (l254_4 C lf n) lf (x0, x5, x6, x19, x20, x21) h) KR KE)
noncomputable def q254_30 (C : YC) (lf : Nat) (r : K1) (x0 x5 x6 : O) (h : HW) : Rs :=
 q254_29 C lf (fun x5 x6 h => q254_3 C lf r x5 x6 h) x0 x5 x6 h
theorem q254_30_eq (C : YC) (lf : Nat) (r : K1) (KN : KF) (KE : KX) : ∀ F h, evX fx254 C lf [1, 1, 1, 1] F h KN (fun F h => r (F 4) h) KE = q254_30 C lf r (F 0) (F 5) (F 6) h := cSeq (a := subX fx254 [1, 1, 1, 1, 0]) (b := subX fx254 [1, 1, 1, 1, 1]) (by kernel_rfl) (B := (fun F h => q254_3 C lf r (F 5) (F 6) h)) (q254_3_eq C lf r KN KE) (q254_29_eq C lf (fun x5 x6 h => q254_3 C lf r x5 x6 h) (fun F h => r (F 4) h) KE)
noncomputable def q254_37 (C : YC) (lf : Nat) (n : K3) (x0 x5 : O) (h : HW) : Rs :=
 ob x5 fun a31 =>
 ob (ld1 a31 h) fun y32 =>
 ob (lenE Tryz.prog 335 y32) fun y33 =>
 b2 (ymk Tryz.prog 123 y33 y33 h) fun y34 h34 =>
 b2 (yAl Tryz.prog 123 h34) fun y35 h35 =>
 ob (st 1 y35 y34 h35) fun h36 =>
 n x0 x5 (some y35) h36
theorem q254_37_eq (C : YC) (lf : Nat) (n : K3) (KR : KF) (KE : KX) : ∀ F h, evX fx254 C lf [1, 1, 1, 0] F h (fun F h => n (F 0) (F 5) (F 6) h) KR KE = q254_37 C lf n (F 0) (F 5) h := by
  intro F h; kernel_rfl
noncomputable def q254_38 (C : YC) (lf : Nat) (r : K1) (x0 x5 : O) (h : HW) : Rs :=
 q254_37 C lf (fun x0 x5 x6 h => q254_30 C lf r x0 x5 x6 h) x0 x5 h
theorem q254_38_eq (C : YC) (lf : Nat) (r : K1) (KN : KF) (KE : KX) : ∀ F h, evX fx254 C lf [1, 1, 1] F h KN (fun F h => r (F 4) h) KE = q254_38 C lf r (F 0) (F 5) h := cSeq (a := subX fx254 [1, 1, 1, 0]) (b := subX fx254 [1, 1, 1, 1]) (by kernel_rfl) (B := (fun F h => q254_30 C lf r (F 0) (F 5) (F 6) h)) (q254_30_eq C lf r KN KE) (q254_37_eq C lf (fun x0 x5 x6 h => q254_30 C lf r x0 x5 x6 h) (fun F h => r (F 4) h) KE)
noncomputable def q254_48 (C : YC) (lf : Nat) (n : K2) (x0 x1 x5 : O) (h : HW) : Rs :=
 ob x0 fun a39 =>
 ob x1 fun a40 =>
 bc (C (.fn 203) [a39, a40] h) fun y41 h41 =>
 ob (bin Tryz.prog .eql 23 y41 (.int .i64 0)) fun y42 =>
 yIf y42
 (ob x0 fun a43 =>
 ob x1 fun a44 =>
 bc (C (.fn 248) [a43, a44] h41) fun y45 h45 =>
 ob x5 fun a46 =>
 ob (st 1 a46 y45 h45) fun h47 =>
 n x0 x5 h47)
 (n x0 x5 h41)
theorem q254_48_eq (C : YC) (lf : Nat) (n : K2) (KR : KF) (KE : KX) : ∀ F h, evX fx254 C lf [1, 1, 0] F h (fun F h => n (F 0) (F 5) h) KR KE = q254_48 C lf n (F 0) (F 1) (F 5) h := by
  intro F h; kernel_rfl
noncomputable def q254_49 (C : YC) (lf : Nat) (r : K1) (x0 x1 x5 : O) (h : HW) : Rs :=
 q254_48 C lf (fun x0 x5 h => q254_38 C lf r x0 x5 h) x0 x1 x5 h
theorem q254_49_eq (C : YC) (lf : Nat) (r : K1) (KN : KF) (KE : KX) : ∀ F h, evX fx254 C lf [1, 1] F h KN (fun F h => r (F 4) h) KE = q254_49 C lf r (F 0) (F 1) (F 5) h := cSeq (a := subX fx254 [1, 1, 0]) (b := subX fx254 [1, 1, 1]) (by kernel_rfl) (B := (fun F h => q254_38 C lf r (F 0) (F 5) h)) (q254_38_eq C lf r KN KE) (q254_48_eq C lf (fun x0 x5 h => q254_38 C lf r x0 x5 h) (fun F h => r (F 4) h) KE)
noncomputable def q254_51 (C : YC) (lf : Nat) (n : K3) (x0 x1 : O) (h : HW) : Rs :=
 b2 (yAl Tryz.prog 335 h) fun y50 h50 =>
 n x0 x1 (some y50) h50
theorem q254_51_eq (C : YC) (lf : Nat) (n : K3) (KR : KF) (KE : KX) : ∀ F h, evX fx254 C lf [1, 0] F h (fun F h => n (F 0) (F 1) (F 5) h) KR KE = q254_51 C lf n (F 0) (F 1) h := by
  intro F h; kernel_rfl
noncomputable def q254_52 (C : YC) (lf : Nat) (r : K1) (x0 x1 : O) (h : HW) : Rs :=
 q254_51 C lf (fun x0 x1 x5 h => q254_49 C lf r x0 x1 x5 h) x0 x1 h
theorem q254_52_eq (C : YC) (lf : Nat) (r : K1) (KN : KF) (KE : KX) : ∀ F h, evX fx254 C lf [1] F h KN (fun F h => r (F 4) h) KE = q254_52 C lf r (F 0) (F 1) h := cSeq (a := subX fx254 [1, 0]) (b := subX fx254 [1, 1]) (by kernel_rfl) (B := (fun F h => q254_49 C lf r (F 0) (F 1) (F 5) h)) (q254_49_eq C lf r KN KE) (q254_51_eq C lf (fun x0 x1 x5 h => q254_49 C lf r x0 x1 x5 h) (fun F h => r (F 4) h) KE)
noncomputable def q254_53 (C : YC) (lf : Nat) (n : K2) (x0 x1 : O) (h : HW) : Rs :=
 n x0 x1 h
theorem q254_53_eq (C : YC) (lf : Nat) (n : K2) (KR : KF) (KE : KX) : ∀ F h, evX fx254 C lf [0] F h (fun F h => n (F 0) (F 1) h) KR KE = q254_53 C lf n (F 0) (F 1) h := by
  intro F h; kernel_rfl
noncomputable def q254_54 (C : YC) (lf : Nat) (r : K1) (x0 x1 : O) (h : HW) : Rs :=
 q254_53 C lf (fun x0 x1 h => q254_52 C lf r x0 x1 h) x0 x1 h
theorem q254_54_eq (C : YC) (lf : Nat) (r : K1) (KN : KF) (KE : KX) : ∀ F h, evX fx254 C lf [] F h KN (fun F h => r (F 4) h) KE = q254_54 C lf r (F 0) (F 1) h := cSeq (a := subX fx254 [0]) (b := subX fx254 [1]) (by kernel_rfl) (B := (fun F h => q254_52 C lf r (F 0) (F 1) h)) (q254_52_eq C lf r KN KE) (q254_53_eq C lf (fun x0 x1 h => q254_52 C lf r x0 x1 h) (fun F h => r (F 4) h) KE)
noncomputable def fs254 (C : YC) (lf : Nat) (a0 a1 : SV) (h : HW) : Rs := q254_54 C lf ff254 (some a0) (some a1) h
theorem fs254_eq (C : YC) (lf : Nat) (a0 a1 : SV) (h : HW) : yFn Tryz.prog fx254 C lf [a0, a1] h = fs254 C lf a0 a1 h := fnX (K := (fun F h => ff254 (F 4) h)) (by kernel_rfl) (((q254_54_eq C lf ff254 (fun F h => ff254 (F 4) h) (fun _ _ _ => none)) _ h).trans (by kernel_rfl))
noncomputable def fy254 : YX Tryz.prog := Y2 fx254 fs254 fs254_eq (by kernel_rfl)

noncomputable def fx255 : XF Tryz.prog := ⟨255, Tryz.f255, fun _ => .text, Tryz.func255, by kernel_rfl, by kernel_rfl, by kernel_rfl, by kernel_rfl⟩
noncomputable def ff255 (h : HW) : Rs :=
 some (.ret (.tup []), h)
noncomputable def q255_24 (C : YC) (lf : Nat) (n : K4) (r : K0) (e0 : K0) (x0 x1 x12 x13 : O) (h : HW) : Rs :=
 ob x13 fun a1 =>
 ob x12 fun a2 =>
 ob (bin Tryz.prog .lss 3 a1 a2) fun y3 =>
 yIf y3
 (ob x13 fun a4 =>
 ob x0 fun a5 =>
 ob (semNil a5) fun y6 =>
 ob (fa 1 y6) fun y7 =>
 ob (ld1 y7 h) fun y8 =>
 ob (ixS 308 y8 a4) fun y9 =>
 ob (fa 0 y9) fun y10 =>
 ob (ld1 y10 h) fun y11 =>
 bc (gd true (some y11) (ob x1 fun a12 =>
 some (.ret a12, h)) h) fun y13 h13 =>
 bc (gd true (some y11) (some (.ret a4, h13)) h13) fun y14 h14 =>
 bc (gd true (some y11) (ob (bin Tryz.prog .add 3 y14 (.int .i64 1)) fun y15 =>
 some (.ret y15, h14)) h14) fun y16 h16 =>
 bc (gd true (some y11) (cv false C y13 [y16] h16 fun y17 h17 =>
 some (.ret y17, h17)) h16) fun y18 h18 =>
 bc (gd true (some y11) (ob (unE .not y18) fun y19 =>
 some (.ret y19, h18)) h18) fun y20 h20 =>
 ob (ypk y11 y20 (.bool false)) fun y21 =>
 yIf y21
 (r h20)
 (ob x13 fun a22 =>
 ob (bin Tryz.prog .add 3 a22 (.int .i64 1)) fun y23 =>
 n x0 x1 x12 (some y23) h20))
 (e0 h)
theorem q255_24_eq (C : YC) (lf : Nat) (n : K4) (r : K0) (e0 : K0) (KE : KX) : ∀ F h, evX fx255 C lf [1, 1, 0, 0] F h (fun F h => n (F 0) (F 1) (F 12) (F 13) h) (fun F h => r h) (bk 0 (fun F h => e0 h) KE) = q255_24 C lf n r e0 (F 0) (F 1) (F 12) (F 13) h := by
  intro F h; kernel_rfl
noncomputable def l255_0 (C : YC) (lf : Nat) (r : K0) (e0 : K0) (k : O × O × O × O → HW → Rs) (s : O × O × O × O) (h : HW) : Rs :=
 q255_24 C lf (fun x0 x1 x12 x13 h => k (x0, x1, x12, x13) h) r e0 s.1 s.2.1 s.2.2.1 s.2.2.2 h
noncomputable def q255_30 (C : YC) (lf : Nat) (n : K4) (x0 x1 : O) (h : HW) : Rs :=
 ob x0 fun a25 =>
 ob (semNil a25) fun y26 =>
 ob (fa 1 y26) fun y27 =>
 ob (ld1 y27 h) fun y28 =>
 ob (lenE Tryz.prog 280 y28) fun y29 =>
 n x0 x1 (some y29) (some (.int .i64 0)) h
theorem q255_30_eq (C : YC) (lf : Nat) (n : K4) (KR : KF) (KE : KX) : ∀ F h, evX fx255 C lf [1, 0] F h (fun F h => n (F 0) (F 1) (F 12) (F 13) h) KR KE = q255_30 C lf n (F 0) (F 1) h := by
  intro F h; kernel_rfl
noncomputable def q255_31 (C : YC) (lf : Nat) (n : K0) (r : K0) (x0 x1 : O) (h : HW) : Rs :=
 q255_30 C lf (fun x0 x1 x12 x13 h => lp (l255_0 C lf r n) lf (x0, x1, x12, x13) h) x0 x1 h
theorem q255_31_eq (C : YC) (lf : Nat) (n : K0) (r : K0) (KE : KX) : ∀ F h, evX fx255 C lf [1] F h (fun F h => n h) (fun F h => r h) KE = q255_31 C lf n r (F 0) (F 1) h := cSeq (a := subX fx255 [1, 0]) (b := subX fx255 [1, 1]) (by kernel_rfl) (B := (fun F h => lp (l255_0 C lf r n) lf ((F 0), (F 1), (F 12), (F 13)) h)) (cBlock (id := 0) (a := subX fx255 [1, 1, 0]) (by kernel_rfl) (cLoop (a := subX fx255 [1, 1, 0, 0]) (g := fun F => (F 0, F 1, F 12, F 13)) (body := l255_0 C lf r n) (by kernel_rfl) (fun k => (q255_24_eq C lf (fun x0 x1 x12 x13 h => k (x0, x1, x12, x13) h) r n KE)))) (q255_30_eq C lf (fun x0 x1 x12 x13 h => lp (l255_0 C lf r n) lf (x0, x1, x12, x13) h) (fun F h => r h) KE)
noncomputable def q255_35 (C : YC) (lf : Nat) (n : K2) (r : K0) (x0 x1 : O) (h : HW) : Rs :=
 ob x0 fun a32 =>
 bc (C (.fn 202) [a32] h) fun y33 h33 =>
 ob (unE .not y33) fun y34 =>
 yIf y34
 (r h33)
 (n x0 x1 h33)
theorem q255_35_eq (C : YC) (lf : Nat) (n : K2) (r : K0) (KE : KX) : ∀ F h, evX fx255 C lf [0] F h (fun F h => n (F 0) (F 1) h) (fun F h => r h) KE = q255_35 C lf n r (F 0) (F 1) h := by
  intro F h; kernel_rfl
noncomputable def q255_36 (C : YC) (lf : Nat) (n : K0) (r : K0) (x0 x1 : O) (h : HW) : Rs :=
 q255_35 C lf (fun x0 x1 h => q255_31 C lf n r x0 x1 h) r x0 x1 h
theorem q255_36_eq (C : YC) (lf : Nat) (n : K0) (r : K0) (KE : KX) : ∀ F h, evX fx255 C lf [] F h (fun F h => n h) (fun F h => r h) KE = q255_36 C lf n r (F 0) (F 1) h := cSeq (a := subX fx255 [0]) (b := subX fx255 [1]) (by kernel_rfl) (B := (fun F h => q255_31 C lf n r (F 0) (F 1) h)) (q255_31_eq C lf n r KE) (q255_35_eq C lf (fun x0 x1 h => q255_31 C lf n r x0 x1 h) r KE)
noncomputable def fs255 (C : YC) (lf : Nat) (a0 a1 : SV) (h : HW) : Rs := q255_36 C lf ff255 ff255 (some a0) (some a1) h
theorem fs255_eq (C : YC) (lf : Nat) (a0 a1 : SV) (h : HW) : yFn Tryz.prog fx255 C lf [a0, a1] h = fs255 C lf a0 a1 h := fnX (K := (fun F h => ff255 h)) (by kernel_rfl) (((q255_36_eq C lf ff255 ff255 (fun _ _ _ => none)) _ h).trans (by kernel_rfl))
noncomputable def fy255 : YX Tryz.prog := Y2 fx255 fs255 fs255_eq (by kernel_rfl)

noncomputable def fx256 : XF Tryz.prog := ⟨256, Tryz.f256, fun _ => .text, Tryz.func256, by kernel_rfl, by kernel_rfl, by kernel_rfl, by kernel_rfl⟩
noncomputable def ff256 (x2 : O) (h : HW) : Rs :=
 ob x2 fun a0 =>
 some (.ret a0, h)
noncomputable def q256_3 (C : YC) (lf : Nat) (r : K1) (x3 : O) (h : HW) : Rs :=
 ob x3 fun a1 =>
 ob (ld1 a1 h) fun y2 =>
 r (some y2) h
theorem q256_3_eq (C : YC) (lf : Nat) (r : K1) (KN : KF) (KE : KX) : ∀ F h, evX fx256 C lf [1, 1, 1, 1, 1, 1, 1, 1] F h KN (fun F h => r (F 2) h) KE = q256_3 C lf r (F 3) h := by
  intro F h; kernel_rfl
noncomputable def q256_23 (C : YC) (lf : Nat) (n : K4) (e0 : K1) (x3 x4 x39 x40 : O) (h : HW) : Rs :=
 ob x40 fun a5 =>
 ob (bin Tryz.prog .lss 3 a5 (.int .i64 16)) fun y6 =>
 yIf y6
 (ob x39 fun a7 =>
 ob x40 fun a8 =>
 ob (semIndex Tryz.prog 287 a7 a8) fun y9 =>
 b2 (yAl Tryz.prog 286 h) fun y10 h10 =>
 ob (st 17 y10 y9 h10) fun h11 =>
 ob x4 fun a12 =>
 ob (fa 0 y10) fun y13 =>
 ob (ld1 y13 h11) fun y14 =>
 b2 (ybs Tryz.prog 44 1 [0] [y14] h11) fun y15 h15 =>
 cv false C a12 [y15] h15 fun y16 h16 =>
 ob x4 fun a17 =>
 ob (fa 1 y10) fun y18 =>
 ob (semSlice Tryz.prog 284 y18 none none) fun y19 =>
 cv false C a17 [y19] h16 fun y20 h20 =>
 ob x40 fun a21 =>
 ob (bin Tryz.prog .add 3 a21 (.int .i64 1)) fun y22 =>
 n x3 x4 x39 (some y22) h20)
 (e0 x3 h)
theorem q256_23_eq (C : YC) (lf : Nat) (n : K4) (e0 : K1) (KR : KF) (KE : KX) : ∀ F h, evX fx256 C lf [1, 1, 1, 1, 1, 1, 1, 0, 1, 0, 0] F h (fun F h => n (F 3) (F 4) (F 39) (F 40) h) KR (bk 0 (fun F h => e0 (F 3) h) KE) = q256_23 C lf n e0 (F 3) (F 4) (F 39) (F 40) h := by
  intro F h; kernel_rfl
noncomputable def l256_4 (C : YC) (lf : Nat) (e0 : K1) (k : O × O × O × O → HW → Rs) (s : O × O × O × O) (h : HW) : Rs :=
 q256_23 C lf (fun x3 x4 x39 x40 h => k (x3, x4, x39, x40) h) e0 s.1 s.2.1 s.2.2.1 s.2.2.2 h
noncomputable def q256_28 (C : YC) (lf : Nat) (n : K4) (x0 x3 x4 : O) (h : HW) : Rs :=
 ob x0 fun a24 =>
 ob (semNil a24) fun y25 =>
 ob (fa 36 y25) fun y26 =>
 ob (ldN 272 y26 h) fun y27 =>
 n x3 x4 (some y27) (some (.int .i64 0)) h
theorem q256_28_eq (C : YC) (lf : Nat) (n : K4) (KR : KF) (KE : KX) : ∀ F h, evX fx256 C lf [1, 1, 1, 1, 1, 1, 1, 0, 0] F h (fun F h => n (F 3) (F 4) (F 39) (F 40) h) KR KE = q256_28 C lf n (F 0) (F 3) (F 4) h := by
  intro F h; kernel_rfl
noncomputable def q256_29 (C : YC) (lf : Nat) (n : K1) (x0 x3 x4 : O) (h : HW) : Rs :=
 q256_28 C lf (fun x3 x4 x39 x40 h => lp (l256_4 C lf n) lf (x3, x4, x39, x40) h) x0 x3 x4 h
theorem q256_29_eq (C : YC) (lf : Nat) (n : K1) (KR : KF) (KE : KX) : ∀ F h, evX fx256 C lf [1, 1, 1, 1, 1, 1, 1, 0] F h (fun F h => n (F 3) h) KR KE = q256_29 C lf n (F 0) (F 3) (F 4) h := cSeq (a := subX fx256 [1, 1, 1, 1, 1, 1, 1, 0, 0]) (b := subX fx256 [1, 1, 1, 1, 1, 1, 1, 0, 1]) (by kernel_rfl) (B := (fun F h => lp (l256_4 C lf n) lf ((F 3), (F 4), (F 39), (F 40)) h)) (cBlock (id := 0) (a := subX fx256 [1, 1, 1, 1, 1, 1, 1, 0, 1, 0]) (by kernel_rfl) (cLoop (a := subX fx256 [1, 1, 1, 1, 1, 1, 1, 0, 1, 0, 0]) (g := fun F => (F 3, F 4, F 39, F 40)) (body := l256_4 C lf n) (by kernel_rfl) (fun k => (q256_23_eq C lf (fun x3 x4 x39 x40 h => k (x3, x4, x39, x40) h) n KR KE)))) (q256_28_eq C lf (fun x3 x4 x39 x40 h => lp (l256_4 C lf n) lf (x3, x4, x39, x40) h) KR KE)
noncomputable def q256_30 (C : YC) (lf : Nat) (r : K1) (x0 x3 x4 : O) (h : HW) : Rs :=
 q256_29 C lf (fun x3 h => q256_3 C lf r x3 h) x0 x3 x4 h
theorem q256_30_eq (C : YC) (lf : Nat) (r : K1) (KN : KF) (KE : KX) : ∀ F h, evX fx256 C lf [1, 1, 1, 1, 1, 1, 1] F h KN (fun F h => r (F 2) h) KE = q256_30 C lf r (F 0) (F 3) (F 4) h := cSeq (a := subX fx256 [1, 1, 1, 1, 1, 1, 1, 0]) (b := subX fx256 [1, 1, 1, 1, 1, 1, 1, 1]) (by kernel_rfl) (B := (fun F h => q256_3 C lf r (F 3) h)) (q256_3_eq C lf r KN KE) (q256_29_eq C lf (fun x3 h => q256_3 C lf r x3 h) (fun F h => r (F 2) h) KE)
noncomputable def q256_38 (C : YC) (lf : Nat) (n : K3) (x0 x3 x4 : O) (h : HW) : Rs :=
 ob x4 fun a31 =>
 ob x0 fun a32 =>
 ob (semNil a32) fun y33 =>
 ob (fa 35 y33) fun y34 =>
 ob (ld1 y34 h) fun y35 =>
 b2 (ybs Tryz.prog 44 1 [0] [y35] h) fun y36 h36 =>
 cv false C a31 [y36] h36 fun y37 h37 =>
 n x0 x3 x4 h37
theorem q256_38_eq (C : YC) (lf : Nat) (n : K3) (KR : KF) (KE : KX) : ∀ F h, evX fx256 C lf [1, 1, 1, 1, 1, 1, 0] F h (fun F h => n (F 0) (F 3) (F 4) h) KR KE = q256_38 C lf n (F 0) (F 3) (F 4) h := by
  intro F h; kernel_rfl
noncomputable def q256_39 (C : YC) (lf : Nat) (r : K1) (x0 x3 x4 : O) (h : HW) : Rs :=
 q256_38 C lf (fun x0 x3 x4 h => q256_30 C lf r x0 x3 x4 h) x0 x3 x4 h
theorem q256_39_eq (C : YC) (lf : Nat) (r : K1) (KN : KF) (KE : KX) : ∀ F h, evX fx256 C lf [1, 1, 1, 1, 1, 1] F h KN (fun F h => r (F 2) h) KE = q256_39 C lf r (F 0) (F 3) (F 4) h := cSeq (a := subX fx256 [1, 1, 1, 1, 1, 1, 0]) (b := subX fx256 [1, 1, 1, 1, 1, 1, 1]) (by kernel_rfl) (B := (fun F h => q256_30 C lf r (F 0) (F 3) (F 4) h)) (q256_30_eq C lf r KN KE) (q256_38_eq C lf (fun x0 x3 x4 h => q256_30 C lf r x0 x3 x4 h) (fun F h => r (F 2) h) KE)
noncomputable def q256_47 (C : YC) (lf : Nat) (n : K3) (x0 x3 x4 : O) (h : HW) : Rs :=
 ob x4 fun a40 =>
 ob x0 fun a41 =>
 ob (semNil a41) fun y42 =>
 ob (fa 18 y42) fun y43 =>
 ob (fa 1 y43) fun y44 =>
 ob (semSlice Tryz.prog 284 y44 none none) fun y45 =>
 cv false C a40 [y45] h fun y46 h46 =>
 n x0 x3 x4 h46
theorem q256_47_eq (C : YC) (lf : Nat) (n : K3) (KR : KF) (KE : KX) : ∀ F h, evX fx256 C lf [1, 1, 1, 1, 1, 0] F h (fun F h => n (F 0) (F 3) (F 4) h) KR KE = q256_47 C lf n (F 0) (F 3) (F 4) h := by
  intro F h; kernel_rfl
noncomputable def q256_48 (C : YC) (lf : Nat) (r : K1) (x0 x3 x4 : O) (h : HW) : Rs :=
 q256_47 C lf (fun x0 x3 x4 h => q256_39 C lf r x0 x3 x4 h) x0 x3 x4 h
theorem q256_48_eq (C : YC) (lf : Nat) (r : K1) (KN : KF) (KE : KX) : ∀ F h, evX fx256 C lf [1, 1, 1, 1, 1] F h KN (fun F h => r (F 2) h) KE = q256_48 C lf r (F 0) (F 3) (F 4) h := cSeq (a := subX fx256 [1, 1, 1, 1, 1, 0]) (b := subX fx256 [1, 1, 1, 1, 1, 1]) (by kernel_rfl) (B := (fun F h => q256_39 C lf r (F 0) (F 3) (F 4) h)) (q256_39_eq C lf r KN KE) (q256_47_eq C lf (fun x0 x3 x4 h => q256_39 C lf r x0 x3 x4 h) (fun F h => r (F 2) h) KE)
noncomputable def q256_57 (C : YC) (lf : Nat) (n : K3) (x0 x3 x4 : O) (h : HW) : Rs :=
 ob x4 fun a49 =>
 ob x0 fun a50 =>
 ob (semNil a50) fun y51 =>
 ob (fa 18 y51) fun y52 =>
 ob (fa 0 y52) fun y53 =>
 ob (ld1 y53 h) fun y54 =>
 b2 (ybs Tryz.prog 44 1 [0] [y54] h) fun y55 h55 =>
 cv false C a49 [y55] h55 fun y56 h56 =>
 n x0 x3 x4 h56
theorem q256_57_eq (C : YC) (lf : Nat) (n : K3) (KR : KF) (KE : KX) : ∀ F h, evX fx256 C lf [1, 1, 1, 1, 0] F h (fun F h => n (F 0) (F 3) (F 4) h) KR KE = q256_57 C lf n (F 0) (F 3) (F 4) h := by
  intro F h; kernel_rfl
noncomputable def q256_58 (C : YC) (lf : Nat) (r : K1) (x0 x3 x4 : O) (h : HW) : Rs :=
 q256_57 C lf (fun x0 x3 x4 h => q256_48 C lf r x0 x3 x4 h) x0 x3 x4 h
theorem q256_58_eq (C : YC) (lf : Nat) (r : K1) (KN : KF) (KE : KX) : ∀ F h, evX fx256 C lf [1, 1, 1, 1] F h KN (fun F h => r (F 2) h) KE = q256_58 C lf r (F 0) (F 3) (F 4) h := cSeq (a := subX fx256 [1, 1, 1, 1, 0]) (b := subX fx256 [1, 1, 1, 1, 1]) (by kernel_rfl) (B := (fun F h => q256_48 C lf r (F 0) (F 3) (F 4) h)) (q256_48_eq C lf r KN KE) (q256_57_eq C lf (fun x0 x3 x4 h => q256_48 C lf r x0 x3 x4 h) (fun F h => r (F 2) h) KE)
noncomputable def q256_65 (C : YC) (lf : Nat) (n : K3) (x0 x3 x4 : O) (h : HW) : Rs :=
 ob x4 fun a59 =>
 ob x0 fun a60 =>
 ob (semNil a60) fun y61 =>
 ob (fa 12 y61) fun y62 =>
 ob (semSlice Tryz.prog 283 y62 none none) fun y63 =>
 cv false C a59 [y63] h fun y64 h64 =>
 n x0 x3 x4 h64
theorem q256_65_eq (C : YC) (lf : Nat) (n : K3) (KR : KF) (KE : KX) : ∀ F h, evX fx256 C lf [1, 1, 1, 0] F h (fun F h => n (F 0) (F 3) (F 4) h) KR KE = q256_65 C lf n (F 0) (F 3) (F 4) h := by
  intro F h; kernel_rfl
noncomputable def q256_66 (C : YC) (lf : Nat) (r : K1) (x0 x3 x4 : O) (h : HW) : Rs :=
 q256_65 C lf (fun x0 x3 x4 h => q256_58 C lf r x0 x3 x4 h) x0 x3 x4 h
theorem q256_66_eq (C : YC) (lf : Nat) (r : K1) (KN : KF) (KE : KX) : ∀ F h, evX fx256 C lf [1, 1, 1] F h KN (fun F h => r (F 2) h) KE = q256_66 C lf r (F 0) (F 3) (F 4) h := cSeq (a := subX fx256 [1, 1, 1, 0]) (b := subX fx256 [1, 1, 1, 1]) (by kernel_rfl) (B := (fun F h => q256_58 C lf r (F 0) (F 3) (F 4) h)) (q256_58_eq C lf r KN KE) (q256_65_eq C lf (fun x0 x3 x4 h => q256_58 C lf r x0 x3 x4 h) (fun F h => r (F 2) h) KE)
noncomputable def q256_68 (C : YC) (lf : Nat) (n : K3) (x0 x3 : O) (h : HW) : Rs :=
 ob x3 fun a67 =>
 n x0 x3 (some (.fn (.func 321) [] [a67])) h
theorem q256_68_eq (C : YC) (lf : Nat) (n : K3) (KR : KF) (KE : KX) : ∀ F h, evX fx256 C lf [1, 1, 0] F h (fun F h => n (F 0) (F 3) (F 4) h) KR KE = q256_68 C lf n (F 0) (F 3) h := by
  intro F h; kernel_rfl
noncomputable def q256_69 (C : YC) (lf : Nat) (r : K1) (x0 x3 : O) (h : HW) : Rs :=
 q256_68 C lf (fun x0 x3 x4 h => q256_66 C lf r x0 x3 x4 h) x0 x3 h
theorem q256_69_eq (C : YC) (lf : Nat) (r : K1) (KN : KF) (KE : KX) : ∀ F h, evX fx256 C lf [1, 1] F h KN (fun F h => r (F 2) h) KE = q256_69 C lf r (F 0) (F 3) h := cSeq (a := subX fx256 [1, 1, 0]) (b := subX fx256 [1, 1, 1]) (by kernel_rfl) (B := (fun F h => q256_66 C lf r (F 0) (F 3) (F 4) h)) (q256_66_eq C lf r KN KE) (q256_68_eq C lf (fun x0 x3 x4 h => q256_66 C lf r x0 x3 x4 h) (fun F h => r (F 2) h) KE)
noncomputable def q256_71 (C : YC) (lf : Nat) (n : K2) (x0 : O) (h : HW) : Rs :=
 b2 (yAl Tryz.prog 44 h) fun y70 h70 =>
 n x0 (some y70) h70
theorem q256_71_eq (C : YC) (lf : Nat) (n : K2) (KR : KF) (KE : KX) : ∀ F h, evX fx256 C lf [1, 0] F h (fun F h => n (F 0) (F 3) h) KR KE = q256_71 C lf n (F 0) h := by
  intro F h; kernel_rfl
noncomputable def q256_72 (C : YC) (lf : Nat) (r : K1) (x0 : O) (h : HW) : Rs :=
 q256_71 C lf (fun x0 x3 h => q256_69 C lf r x0 x3 h) x0 h
theorem q256_72_eq (C : YC) (lf : Nat) (r : K1) (KN : KF) (KE : KX) : ∀ F h, evX fx256 C lf [1] F h KN (fun F h => r (F 2) h) KE = q256_72 C lf r (F 0) h := cSeq (a := subX fx256 [1, 0]) (b := subX fx256 [1, 1]) (by kernel_rfl) (B := (fun F h => q256_69 C lf r (F 0) (F 3) h)) (q256_69_eq C lf r KN KE) (q256_71_eq C lf (fun x0 x3 h => q256_69 C lf r x0 x3 h) (fun F h => r (F 2) h) KE)
noncomputable def q256_73 (C : YC) (lf : Nat) (n : K1) (x0 : O) (h : HW) : Rs :=
 n x0 h
theorem q256_73_eq (C : YC) (lf : Nat) (n : K1) (KR : KF) (KE : KX) : ∀ F h, evX fx256 C lf [0] F h (fun F h => n (F 0) h) KR KE = q256_73 C lf n (F 0) h := by
  intro F h; kernel_rfl
noncomputable def q256_74 (C : YC) (lf : Nat) (r : K1) (x0 : O) (h : HW) : Rs :=
 q256_73 C lf (fun x0 h => q256_72 C lf r x0 h) x0 h
theorem q256_74_eq (C : YC) (lf : Nat) (r : K1) (KN : KF) (KE : KX) : ∀ F h, evX fx256 C lf [] F h KN (fun F h => r (F 2) h) KE = q256_74 C lf r (F 0) h := cSeq (a := subX fx256 [0]) (b := subX fx256 [1]) (by kernel_rfl) (B := (fun F h => q256_72 C lf r (F 0) h)) (q256_72_eq C lf r KN KE) (q256_73_eq C lf (fun x0 h => q256_72 C lf r x0 h) (fun F h => r (F 2) h) KE)
noncomputable def fs256 (C : YC) (lf : Nat) (a0 : SV) (h : HW) : Rs := q256_74 C lf ff256 (some a0) h
theorem fs256_eq (C : YC) (lf : Nat) (a0 : SV) (h : HW) : yFn Tryz.prog fx256 C lf [a0] h = fs256 C lf a0 h := fnX (K := (fun F h => ff256 (F 2) h)) (by kernel_rfl) (((q256_74_eq C lf ff256 (fun F h => ff256 (F 2) h) (fun _ _ _ => none)) _ h).trans (by kernel_rfl))
noncomputable def fy256 : YX Tryz.prog := Y1 fx256 fs256 fs256_eq (by kernel_rfl)

noncomputable def fx257 : XF Tryz.prog := ⟨257, Tryz.f257, fun _ => .text, Tryz.func257, by kernel_rfl, by kernel_rfl, by kernel_rfl, by kernel_rfl⟩
noncomputable def ff257 (x2 : O) (h : HW) : Rs :=
 ob x2 fun a0 =>
 some (.ret a0, h)
noncomputable def q257_50 (C : YC) (lf : Nat) (r : K1) (x0 : O) (h : HW) : Rs :=
 ob x0 fun a1 =>
 ob (bin Tryz.prog .lss 3 a1 (.int .i64 0)) fun y2 =>
 bc (gd false (some y2) (ob x0 fun a3 =>
 some (.ret a3, h)) h) fun y4 h4 =>
 bc (gd false (some y2) (ob (bin Tryz.prog .gtr 3 y4 (.int .i64 255)) fun y5 =>
 some (.ret y5, h4)) h4) fun y6 h6 =>
 ob (ypk y2 (.bool true) y6) fun y7 =>
 bc (gd false (some y7) (ob x0 fun a8 =>
 some (.ret a8, h6)) h6) fun y9 h9 =>
 bc (gd false (some y7) (ob (bin Tryz.prog .and 3 y9 (.int .i64 3)) fun y10 =>
 some (.ret y10, h9)) h9) fun y11 h11 =>
 bc (gd false (some y7) (ob (bin Tryz.prog .eql 3 y11 (.int .i64 0)) fun y12 =>
 some (.ret y12, h11)) h11) fun y13 h13 =>
 ob (ypk y7 (.bool true) y13) fun y14 =>
 yIf y14
 (r (some (.bool false)) h13)
 (ob x0 fun a15 =>
 ob (bin Tryz.prog .and 3 a15 (.int .i64 2)) fun y16 =>
 ob (bin Tryz.prog .neq 3 y16 (.int .i64 0)) fun y17 =>
 ob x0 fun a18 =>
 ob (bin Tryz.prog .and 3 a18 (.int .i64 4)) fun y19 =>
 ob (bin Tryz.prog .neq 3 y19 (.int .i64 0)) fun y20 =>
 ob x0 fun a21 =>
 ob (bin Tryz.prog .and 3 a21 (.int .i64 32)) fun y22 =>
 ob (bin Tryz.prog .neq 3 y22 (.int .i64 0)) fun y23 =>
 bc (gd false (some y17) (some (.ret y20, h13)) h13) fun y24 h24 =>
 bc (gd false (some y17) (ob (unE .not y24) fun y25 =>
 some (.ret y25, h24)) h24) fun y26 h26 =>
 bc (gd false (some y17) (some (.ret y26, h26)) h26) fun y27 h27 =>
 bc (gd true (some y27) (some (.ret y23, h27)) h27) fun y28 h28 =>
 bc (gd true (some y27) (ob (unE .not y28) fun y29 =>
 some (.ret y29, h28)) h28) fun y30 h30 =>
 bc (gd false (some y17) (ob (ypk y27 y30 (.bool false)) fun y31 =>
 some (.ret y31, h30)) h30) fun y32 h32 =>
 ob (ypk y17 (.bool true) y32) fun y33 =>
 bc (gd true (some y33) (ob x0 fun a34 =>
 some (.ret a34, h32)) h32) fun y35 h35 =>
 bc (gd true (some y33) (ob (bin Tryz.prog .and 3 y35 (.int .i64 64)) fun y36 =>
 some (.ret y36, h35)) h35) fun y37 h37 =>
 bc (gd true (some y33) (ob (bin Tryz.prog .eql 3 y37 (.int .i64 0)) fun y38 =>
 some (.ret y38, h37)) h37) fun y39 h39 =>
 bc (gd true (some y33) (some (.ret y39, h39)) h39) fun y40 h40 =>
 bc (gd false (some y40) (ob x0 fun a41 =>
 some (.ret a41, h40)) h40) fun y42 h42 =>
 bc (gd false (some y40) (ob (bin Tryz.prog .and 3 y42 (.int .i64 8)) fun y43 =>
 some (.ret y43, h42)) h42) fun y44 h44 =>
 bc (gd false (some y40) (ob (bin Tryz.prog .eql 3 y44 (.int .i64 0)) fun y45 =>
 some (.ret y45, h44)) h44) fun y46 h46 =>
 bc (gd true (some y33) (ob (ypk y40 (.bool true) y46) fun y47 =>
 some (.ret y47, h46)) h46) fun y48 h48 =>
 ob (ypk y33 y48 (.bool false)) fun y49 =>
 r (some y49) h48)
theorem q257_50_eq (C : YC) (lf : Nat) (r : K1) (KN : KF) (KE : KX) : ∀ F h, evX fx257 C lf [] F h KN (fun F h => r (F 2) h) KE = q257_50 C lf r (F 0) h := by
  intro F h; kernel_rfl
noncomputable def fs257 (C : YC) (lf : Nat) (a0 : SV) (h : HW) : Rs := q257_50 C lf ff257 (some a0) h
theorem fs257_eq (C : YC) (lf : Nat) (a0 : SV) (h : HW) : yFn Tryz.prog fx257 C lf [a0] h = fs257 C lf a0 h := fnX (K := (fun F h => ff257 (F 2) h)) (by kernel_rfl) (((q257_50_eq C lf ff257 (fun F h => ff257 (F 2) h) (fun _ _ _ => none)) _ h).trans (by kernel_rfl))
noncomputable def fy257 : YX Tryz.prog := Y1 fx257 fs257 fs257_eq (by kernel_rfl)

noncomputable def fx258 : XF Tryz.prog := ⟨258, Tryz.f258, fun _ => .text, Tryz.func258, by kernel_rfl, by kernel_rfl, by kernel_rfl, by kernel_rfl⟩
noncomputable def ff258 (x10 x11 : O) (h : HW) : Rs :=
 ob x10 fun a0 =>
 ob (ldN 5 a0 h) fun y1 =>
 ob x11 fun a2 =>
 some (.ret (.tup [y1, a2]), h)
noncomputable def q258_13 (C : YC) (lf : Nat) (n : K9) (r : K2) (x0 x3 x4 x6 x10 x14 x15 x16 x17 x18 x19 x21 : O) (h : HW) : Rs :=
 ob x21 fun a4 =>
 yIf a4
 (ob x14 fun a5 =>
 ob x19 fun a6 =>
 ob x18 fun a7 =>
 ob x16 fun a8 =>
 ob (semBuild Tryz.prog 351 [0, 1, 2, 3] [a5, a6, a7, a8]) fun y9 =>
 ob x10 fun a10 =>
 ob (st 5 a10 y9 h) fun h11 =>
 r x10 (some (.int .i64 0)) h11)
 (ob x19 fun a12 =>
 n x0 x3 x4 x6 x10 (some a12) x15 x16 x17 h)
theorem q258_13_eq (C : YC) (lf : Nat) (n : K9) (r : K2) (K1 : KF) (K0 : KF) (KE : KX) : ∀ F h, evX fx258 C lf [1, 1, 1, 1, 1, 1, 1, 1, 1, 0, 0, 0, 1, 1, 1, 1, 1, 1, 1, 1, 1] F h (fun F h => n (F 0) (F 3) (F 4) (F 6) (F 10) (F 14) (F 15) (F 16) (F 17) h) (fun F h => r (F 10) (F 11) h) (bk 1 K1 (bk 0 K0 KE)) = q258_13 C lf n r (F 0) (F 3) (F 4) (F 6) (F 10) (F 14) (F 15) (F 16) (F 17) (F 18) (F 19) (F 21) h := by
  intro F h; kernel_rfl
noncomputable def q258_29 (C : YC) (lf : Nat) (r : K2) (e1 : K9) (x0 x3 x4 x6 x10 x14 x15 x16 x17 x22 : O) (h : HW) : Rs :=
 b2 (ybs Tryz.prog 25 0 [] [] h) fun y14 h14 =>
 ob x22 fun a15 =>
 ob (fa 1 a15) fun y16 =>
 ob (ld1 y16 h14) fun y17 =>
 b2 (ybl Tryz.prog .append #[25, 25] [y14, y17] h14) fun y18 h18 =>
 ob x15 fun a19 =>
 b2 (ybl Tryz.prog .append #[25, 25] [y18, a19] h18) fun y20 h20 =>
 ob (lenE Tryz.prog 25 y20) fun y21 =>
 ob (bin Tryz.prog .eql 3 y21 (.int .i64 0)) fun y22 =>
 yIf y22
 (ob x14 fun a23 =>
 ob x14 fun a24 =>
 ob x16 fun a25 =>
 ob (semBuild Tryz.prog 351 [0, 1, 4, 3] [a23, a24, (.bool true), a25]) fun y26 =>
 ob x10 fun a27 =>
 ob (st 5 a27 y26 h20) fun h28 =>
 r x10 (some (.int .i64 0)) h28)
 (e1 x0 x3 x4 x6 x10 x14 (some y20) x16 x17 h20)
theorem q258_29_eq (C : YC) (lf : Nat) (r : K2) (e1 : K9) (KN : KF) (K0 : KF) (KE : KX) : ∀ F h, evX fx258 C lf [1, 1, 1, 1, 1, 1, 1, 1, 1, 0, 0, 0, 1, 1, 1, 1, 1, 1, 1, 1, 0, 1, 0, 1, 1, 1, 1, 1] F h KN (fun F h => r (F 10) (F 11) h) (bk 1 (fun F h => e1 (F 0) (F 3) (F 4) (F 6) (F 10) (F 14) (F 15) (F 16) (F 17) h) (bk 0 K0 KE)) = q258_29 C lf r e1 (F 0) (F 3) (F 4) (F 6) (F 10) (F 14) (F 15) (F 16) (F 17) (F 22) h := by
  intro F h; kernel_rfl
noncomputable def q258_38 (C : YC) (lf : Nat) (n : K10) (x0 x3 x4 x6 x10 x14 x15 x16 x17 x21 x22 : O) (h : HW) : Rs :=
 ob x21 fun a30 =>
 yIf a30
 (ob x16 fun a31 =>
 bc (gd false (some a31) (ob x22 fun a32 =>
 ob (fa 2 a32) fun y33 =>
 some (.ret y33, h)) h) fun y34 h34 =>
 bc (gd false (some a31) (ob (ld1 y34 h34) fun y35 =>
 some (.ret y35, h34)) h34) fun y36 h36 =>
 ob (ypk a31 (.bool true) y36) fun y37 =>
 n x0 x3 x4 x6 x10 x14 x15 (some y37) x17 x22 h36)
 (n x0 x3 x4 x6 x10 x14 x15 x16 x17 x22 h)
theorem q258_38_eq (C : YC) (lf : Nat) (n : K10) (KR : KF) (K1 : KF) (K0 : KF) (KE : KX) : ∀ F h, evX fx258 C lf [1, 1, 1, 1, 1, 1, 1, 1, 1, 0, 0, 0, 1, 1, 1, 1, 1, 1, 1, 1, 0, 1, 0, 1, 1, 1, 1, 0] F h (fun F h => n (F 0) (F 3) (F 4) (F 6) (F 10) (F 14) (F 15) (F 16) (F 17) (F 22) h) KR (bk 1 K1 (bk 0 K0 KE)) = q258_38 C lf n (F 0) (F 3) (F 4) (F 6) (F 10) (F 14) (F 15) (F 16) (F 17) (F 21) (F 22) h := by
  intro F h; kernel_rfl
noncomputable def q258_39 (C : YC) (lf : Nat) (r : K2) (e1 : K9) (x0 x3 x4 x6 x10 x14 x15 x16 x17 x21 x22 : O) (h : HW) : Rs :=
 q258_38 C lf (fun x0 x3 x4 x6 x10 x14 x15 x16 x17 x22 h => q258_29 C lf r e1 x0 x3 x4 x6 x10 x14 x15 x16 x17 x22 h) x0 x3 x4 x6 x10 x14 x15 x16 x17 x21 x22 h
theorem q258_39_eq (C : YC) (lf : Nat) (r : K2) (e1 : K9) (KN : KF) (K0 : KF) (KE : KX) : ∀ F h, evX fx258 C lf [1, 1, 1, 1, 1, 1, 1, 1, 1, 0, 0, 0, 1, 1, 1, 1, 1, 1, 1, 1, 0, 1, 0, 1, 1, 1, 1] F h KN (fun F h => r (F 10) (F 11) h) (bk 1 (fun F h => e1 (F 0) (F 3) (F 4) (F 6) (F 10) (F 14) (F 15) (F 16) (F 17) h) (bk 0 K0 KE)) = q258_39 C lf r e1 (F 0) (F 3) (F 4) (F 6) (F 10) (F 14) (F 15) (F 16) (F 17) (F 21) (F 22) h := cSeq (a := subX fx258 [1, 1, 1, 1, 1, 1, 1, 1, 1, 0, 0, 0, 1, 1, 1, 1, 1, 1, 1, 1, 0, 1, 0, 1, 1, 1, 1, 0]) (b := subX fx258 [1, 1, 1, 1, 1, 1, 1, 1, 1, 0, 0, 0, 1, 1, 1, 1, 1, 1, 1, 1, 0, 1, 0, 1, 1, 1, 1, 1]) (by kernel_rfl) (B := (fun F h => q258_29 C lf r e1 (F 0) (F 3) (F 4) (F 6) (F 10) (F 14) (F 15) (F 16) (F 17) (F 22) h)) (q258_29_eq C lf r e1 KN K0 KE) (q258_38_eq C lf (fun x0 x3 x4 x6 x10 x14 x15 x16 x17 x22 h => q258_29 C lf r e1 x0 x3 x4 x6 x10 x14 x15 x16 x17 x22 h) (fun F h => r (F 10) (F 11) h) (fun F h => e1 (F 0) (F 3) (F 4) (F 6) (F 10) (F 14) (F 15) (F 16) (F 17) h) K0 KE)
noncomputable def q258_43 (C : YC) (lf : Nat) (n : K11) (x0 x3 x4 x6 x10 x14 x15 x16 x17 x21 x22 : O) (h : HW) : Rs :=
 ob x22 fun a40 =>
 ob (fa 0 a40) fun y41 =>
 ob (ld1 y41 h) fun y42 =>
 yIf y42
 (n x0 x3 x4 x6 x10 (some (.int .i64 1)) x15 x16 x17 x21 x22 h)
 (n x0 x3 x4 x6 x10 x14 x15 x16 x17 x21 x22 h)
theorem q258_43_eq (C : YC) (lf : Nat) (n : K11) (KR : KF) (K1 : KF) (K0 : KF) (KE : KX) : ∀ F h, evX fx258 C lf [1, 1, 1, 1, 1, 1, 1, 1, 1, 0, 0, 0, 1, 1, 1, 1, 1, 1, 1, 1, 0, 1, 0, 1, 1, 1, 0] F h (fun F h => n (F 0) (F 3) (F 4) (F 6) (F 10) (F 14) (F 15) (F 16) (F 17) (F 21) (F 22) h) KR (bk 1 K1 (bk 0 K0 KE)) = q258_43 C lf n (F 0) (F 3) (F 4) (F 6) (F 10) (F 14) (F 15) (F 16) (F 17) (F 21) (F 22) h := by
  intro F h; kernel_rfl
noncomputable def q258_44 (C : YC) (lf : Nat) (r : K2) (e1 : K9) (x0 x3 x4 x6 x10 x14 x15 x16 x17 x21 x22 : O) (h : HW) : Rs :=
 q258_43 C lf (fun x0 x3 x4 x6 x10 x14 x15 x16 x17 x21 x22 h => q258_39 C lf r e1 x0 x3 x4 x6 x10 x14 x15 x16 x17 x21 x22 h) x0 x3 x4 x6 x10 x14 x15 x16 x17 x21 x22 h
theorem q258_44_eq (C : YC) (lf : Nat) (r : K2) (e1 : K9) (KN : KF) (K0 : KF) (KE : KX) : ∀ F h, evX fx258 C lf [1, 1, 1, 1, 1, 1, 1, 1, 1, 0, 0, 0, 1, 1, 1, 1, 1, 1, 1, 1, 0, 1, 0, 1, 1, 1] F h KN (fun F h => r (F 10) (F 11) h) (bk 1 (fun F h => e1 (F 0) (F 3) (F 4) (F 6) (F 10) (F 14) (F 15) (F 16) (F 17) h) (bk 0 K0 KE)) = q258_44 C lf r e1 (F 0) (F 3) (F 4) (F 6) (F 10) (F 14) (F 15) (F 16) (F 17) (F 21) (F 22) h := cSeq (a := subX fx258 [1, 1, 1, 1, 1, 1, 1, 1, 1, 0, 0, 0, 1, 1, 1, 1, 1, 1, 1, 1, 0, 1, 0, 1, 1, 1, 0]) (b := subX fx258 [1, 1, 1, 1, 1, 1, 1, 1, 1, 0, 0, 0, 1, 1, 1, 1, 1, 1, 1, 1, 0, 1, 0, 1, 1, 1, 1]) (by kernel_rfl) (B := (fun F h => q258_39 C lf r e1 (F 0) (F 3) (F 4) (F 6) (F 10) (F 14) (F 15) (F 16) (F 17) (F 21) (F 22) h)) (q258_39_eq C lf r e1 KN K0 KE) (q258_43_eq C lf (fun x0 x3 x4 x6 x10 x14 x15 x16 x17 x21 x22 h => q258_39 C lf r e1 x0 x3 x4 x6 x10 x14 x15 x16 x17 x21 x22 h) (fun F h => r (F 10) (F 11) h) (fun F h => e1 (F 0) (F 3) (F 4) (F 6) (F 10) (F 14) (F 15) (F 16) (F 17) h) K0 KE)
noncomputable def q258_53 (C : YC) (lf : Nat) (n : K11) (x0 x3 x4 x6 x10 x14 x15 x16 x17 x19 x21 : O) (h : HW) : Rs :=
 ob x0 fun a45 =>
 ob x19 fun a46 =>
 bc (C (.fn 324) [a45, a46] h) fun y47 h47 =>
 bc (C (.fn 301) [y47] h47) fun y48 h48 =>
 ob (ext 0 y48) fun y49 =>
 ob (ext 1 y48) fun y50 =>
 b2 (yAl Tryz.prog 234 h48) fun y51 h51 =>
 ob (st 3 y51 y49 h51) fun h52 =>
 n x0 x3 x4 x6 x10 x14 x15 x16 x17 x21 (some y51) h52
theorem q258_53_eq (C : YC) (lf : Nat) (n : K11) (KR : KF) (K1 : KF) (K0 : KF) (KE : KX) : ∀ F h, evX fx258 C lf [1, 1, 1, 1, 1, 1, 1, 1, 1, 0, 0, 0, 1, 1, 1, 1, 1, 1, 1, 1, 0, 1, 0, 1, 1, 0] F h (fun F h => n (F 0) (F 3) (F 4) (F 6) (F 10) (F 14) (F 15) (F 16) (F 17) (F 21) (F 22) h) KR (bk 1 K1 (bk 0 K0 KE)) = q258_53 C lf n (F 0) (F 3) (F 4) (F 6) (F 10) (F 14) (F 15) (F 16) (F 17) (F 19) (F 21) h := by
  intro F h; kernel_rfl
noncomputable def q258_54 (C : YC) (lf : Nat) (r : K2) (e1 : K9) (x0 x3 x4 x6 x10 x14 x15 x16 x17 x19 x21 : O) (h : HW) : Rs :=
 q258_53 C lf (fun x0 x3 x4 x6 x10 x14 x15 x16 x17 x21 x22 h => q258_44 C lf r e1 x0 x3 x4 x6 x10 x14 x15 x16 x17 x21 x22 h) x0 x3 x4 x6 x10 x14 x15 x16 x17 x19 x21 h
theorem q258_54_eq (C : YC) (lf : Nat) (r : K2) (e1 : K9) (KN : KF) (K0 : KF) (KE : KX) : ∀ F h, evX fx258 C lf [1, 1, 1, 1, 1, 1, 1, 1, 1, 0, 0, 0, 1, 1, 1, 1, 1, 1, 1, 1, 0, 1, 0, 1, 1] F h KN (fun F h => r (F 10) (F 11) h) (bk 1 (fun F h => e1 (F 0) (F 3) (F 4) (F 6) (F 10) (F 14) (F 15) (F 16) (F 17) h) (bk 0 K0 KE)) = q258_54 C lf r e1 (F 0) (F 3) (F 4) (F 6) (F 10) (F 14) (F 15) (F 16) (F 17) (F 19) (F 21) h := cSeq (a := subX fx258 [1, 1, 1, 1, 1, 1, 1, 1, 1, 0, 0, 0, 1, 1, 1, 1, 1, 1, 1, 1, 0, 1, 0, 1, 1, 0]) (b := subX fx258 [1, 1, 1, 1, 1, 1, 1, 1, 1, 0, 0, 0, 1, 1, 1, 1, 1, 1, 1, 1, 0, 1, 0, 1, 1, 1]) (by kernel_rfl) (B := (fun F h => q258_44 C lf r e1 (F 0) (F 3) (F 4) (F 6) (F 10) (F 14) (F 15) (F 16) (F 17) (F 21) (F 22) h)) (q258_44_eq C lf r e1 KN K0 KE) (q258_53_eq C lf (fun x0 x3 x4 x6 x10 x14 x15 x16 x17 x21 x22 h => q258_44 C lf r e1 x0 x3 x4 x6 x10 x14 x15 x16 x17 x21 x22 h) (fun F h => r (F 10) (F 11) h) (fun F h => e1 (F 0) (F 3) (F 4) (F 6) (F 10) (F 14) (F 15) (F 16) (F 17) h) K0 KE)
noncomputable def q258_60 (C : YC) (lf : Nat) (n : K11) (r : K2) (x0 x3 x4 x6 x10 x14 x15 x16 x17 x19 x21 : O) (h : HW) : Rs :=
 ob x17 fun a55 =>
 ob (bin Tryz.prog .gtr 3 a55 (.int .i64 8)) fun y56 =>
 yIf y56
 (ob (semBuild Tryz.prog 351 [] []) fun y57 =>
 ob x10 fun a58 =>
 ob (st 5 a58 y57 h) fun h59 =>
 r x10 (some (.int .i64 40)) h59)
 (n x0 x3 x4 x6 x10 x14 x15 x16 x17 x19 x21 h)
theorem q258_60_eq (C : YC) (lf : Nat) (n : K11) (r : K2) (K1 : KF) (K0 : KF) (KE : KX) : ∀ F h, evX fx258 C lf [1, 1, 1, 1, 1, 1, 1, 1, 1, 0, 0, 0, 1, 1, 1, 1, 1, 1, 1, 1, 0, 1, 0, 1, 0] F h (fun F h => n (F 0) (F 3) (F 4) (F 6) (F 10) (F 14) (F 15) (F 16) (F 17) (F 19) (F 21) h) (fun F h => r (F 10) (F 11) h) (bk 1 K1 (bk 0 K0 KE)) = q258_60 C lf n r (F 0) (F 3) (F 4) (F 6) (F 10) (F 14) (F 15) (F 16) (F 17) (F 19) (F 21) h := by
  intro F h; kernel_rfl
noncomputable def q258_61 (C : YC) (lf : Nat) (r : K2) (e1 : K9) (x0 x3 x4 x6 x10 x14 x15 x16 x17 x19 x21 : O) (h : HW) : Rs :=
 q258_60 C lf (fun x0 x3 x4 x6 x10 x14 x15 x16 x17 x19 x21 h => q258_54 C lf r e1 x0 x3 x4 x6 x10 x14 x15 x16 x17 x19 x21 h) r x0 x3 x4 x6 x10 x14 x15 x16 x17 x19 x21 h
theorem q258_61_eq (C : YC) (lf : Nat) (r : K2) (e1 : K9) (KN : KF) (K0 : KF) (KE : KX) : ∀ F h, evX fx258 C lf [1, 1, 1, 1, 1, 1, 1, 1, 1, 0, 0, 0, 1, 1, 1, 1, 1, 1, 1, 1, 0, 1, 0, 1] F h KN (fun F h => r (F 10) (F 11) h) (bk 1 (fun F h => e1 (F 0) (F 3) (F 4) (F 6) (F 10) (F 14) (F 15) (F 16) (F 17) h) (bk 0 K0 KE)) = q258_61 C lf r e1 (F 0) (F 3) (F 4) (F 6) (F 10) (F 14) (F 15) (F 16) (F 17) (F 19) (F 21) h := cSeq (a := subX fx258 [1, 1, 1, 1, 1, 1, 1, 1, 1, 0, 0, 0, 1, 1, 1, 1, 1, 1, 1, 1, 0, 1, 0, 1, 0]) (b := subX fx258 [1, 1, 1, 1, 1, 1, 1, 1, 1, 0, 0, 0, 1, 1, 1, 1, 1, 1, 1, 1, 0, 1, 0, 1, 1]) (by kernel_rfl) (B := (fun F h => q258_54 C lf r e1 (F 0) (F 3) (F 4) (F 6) (F 10) (F 14) (F 15) (F 16) (F 17) (F 19) (F 21) h)) (q258_54_eq C lf r e1 KN K0 KE) (q258_60_eq C lf (fun x0 x3 x4 x6 x10 x14 x15 x16 x17 x19 x21 h => q258_54 C lf r e1 x0 x3 x4 x6 x10 x14 x15 x16 x17 x19 x21 h) r (fun F h => e1 (F 0) (F 3) (F 4) (F 6) (F 10) (F 14) (F 15) (F 16) (F 17) h) K0 KE)
noncomputable def q258_64 (C : YC) (lf : Nat) (n : K11) (x0 x3 x4 x6 x10 x14 x15 x16 x17 x19 x21 : O) (h : HW) : Rs :=
 ob x17 fun a62 =>
 ob (bin Tryz.prog .add 3 a62 (.int .i64 1)) fun y63 =>
 n x0 x3 x4 x6 x10 x14 x15 x16 (some y63) x19 x21 h
theorem q258_64_eq (C : YC) (lf : Nat) (n : K11) (KR : KF) (K1 : KF) (K0 : KF) (KE : KX) : ∀ F h, evX fx258 C lf [1, 1, 1, 1, 1, 1, 1, 1, 1, 0, 0, 0, 1, 1, 1, 1, 1, 1, 1, 1, 0, 1, 0, 0] F h (fun F h => n (F 0) (F 3) (F 4) (F 6) (F 10) (F 14) (F 15) (F 16) (F 17) (F 19) (F 21) h) KR (bk 1 K1 (bk 0 K0 KE)) = q258_64 C lf n (F 0) (F 3) (F 4) (F 6) (F 10) (F 14) (F 15) (F 16) (F 17) (F 19) (F 21) h := by
  intro F h; kernel_rfl
noncomputable def q258_65 (C : YC) (lf : Nat) (r : K2) (e1 : K9) (x0 x3 x4 x6 x10 x14 x15 x16 x17 x19 x21 : O) (h : HW) : Rs :=
 q258_64 C lf (fun x0 x3 x4 x6 x10 x14 x15 x16 x17 x19 x21 h => q258_61 C lf r e1 x0 x3 x4 x6 x10 x14 x15 x16 x17 x19 x21 h) x0 x3 x4 x6 x10 x14 x15 x16 x17 x19 x21 h
theorem q258_65_eq (C : YC) (lf : Nat) (r : K2) (e1 : K9) (KN : KF) (K0 : KF) (KE : KX) : ∀ F h, evX fx258 C lf [1, 1, 1, 1, 1, 1, 1, 1, 1, 0, 0, 0, 1, 1, 1, 1, 1, 1, 1, 1, 0, 1, 0] F h KN (fun F h => r (F 10) (F 11) h) (bk 1 (fun F h => e1 (F 0) (F 3) (F 4) (F 6) (F 10) (F 14) (F 15) (F 16) (F 17) h) (bk 0 K0 KE)) = q258_65 C lf r e1 (F 0) (F 3) (F 4) (F 6) (F 10) (F 14) (F 15) (F 16) (F 17) (F 19) (F 21) h := cSeq (a := subX fx258 [1, 1, 1, 1, 1, 1, 1, 1, 1, 0, 0, 0, 1, 1, 1, 1, 1, 1, 1, 1, 0, 1, 0, 0]) (b := subX fx258 [1, 1, 1, 1, 1, 1, 1, 1, 1, 0, 0, 0, 1, 1, 1, 1, 1, 1, 1, 1, 0, 1, 0, 1]) (by kernel_rfl) (B := (fun F h => q258_61 C lf r e1 (F 0) (F 3) (F 4) (F 6) (F 10) (F 14) (F 15) (F 16) (F 17) (F 19) (F 21) h)) (q258_61_eq C lf r e1 KN K0 KE) (q258_64_eq C lf (fun x0 x3 x4 x6 x10 x14 x15 x16 x17 x19 x21 h => q258_61 C lf r e1 x0 x3 x4 x6 x10 x14 x15 x16 x17 x19 x21 h) (fun F h => r (F 10) (F 11) h) (fun F h => e1 (F 0) (F 3) (F 4) (F 6) (F 10) (F 14) (F 15) (F 16) (F 17) h) K0 KE)
noncomputable def q258_66 (C : YC) (lf : Nat) (n : K12) (x0 x3 x4 x6 x10 x14 x15 x16 x17 x18 x19 x21 : O) (h : HW) : Rs :=
 n x0 x3 x4 x6 x10 x14 x15 x16 x17 x18 x19 x21 h
theorem q258_66_eq (C : YC) (lf : Nat) (n : K12) (KR : KF) (K1 : KF) (K0 : KF) (KE : KX) : ∀ F h, evX fx258 C lf [1, 1, 1, 1, 1, 1, 1, 1, 1, 0, 0, 0, 1, 1, 1, 1, 1, 1, 1, 1, 0, 1, 1] F h (fun F h => n (F 0) (F 3) (F 4) (F 6) (F 10) (F 14) (F 15) (F 16) (F 17) (F 18) (F 19) (F 21) h) KR (bk 1 K1 (bk 0 K0 KE)) = q258_66 C lf n (F 0) (F 3) (F 4) (F 6) (F 10) (F 14) (F 15) (F 16) (F 17) (F 18) (F 19) (F 21) h := by
  intro F h; kernel_rfl
noncomputable def q258_68 (C : YC) (lf : Nat) (n : K12) (r : K2) (e1 : K9) (x0 x3 x4 x6 x10 x14 x15 x16 x17 x18 x19 x21 x112 : O) (h : HW) : Rs :=
 ob x112 fun a67 =>
 yIf a67
 (q258_65 C lf r e1 x0 x3 x4 x6 x10 x14 x15 x16 x17 x19 x21 h)
 (q258_66 C lf n x0 x3 x4 x6 x10 x14 x15 x16 x17 x18 x19 x21 h)
theorem q258_68_eq (C : YC) (lf : Nat) (n : K12) (r : K2) (e1 : K9) (K0 : KF) (KE : KX) : ∀ F h, evX fx258 C lf [1, 1, 1, 1, 1, 1, 1, 1, 1, 0, 0, 0, 1, 1, 1, 1, 1, 1, 1, 1, 0, 1] F h (fun F h => n (F 0) (F 3) (F 4) (F 6) (F 10) (F 14) (F 15) (F 16) (F 17) (F 18) (F 19) (F 21) h) (fun F h => r (F 10) (F 11) h) (bk 1 (fun F h => e1 (F 0) (F 3) (F 4) (F 6) (F 10) (F 14) (F 15) (F 16) (F 17) h) (bk 0 K0 KE)) = q258_68 C lf n r e1 (F 0) (F 3) (F 4) (F 6) (F 10) (F 14) (F 15) (F 16) (F 17) (F 18) (F 19) (F 21) (F 112) h := cCond (x := .tmp 112) (by kernel_rfl) (q258_65_eq C lf r e1 (fun F h => n (F 0) (F 3) (F 4) (F 6) (F 10) (F 14) (F 15) (F 16) (F 17) (F 18) (F 19) (F 21) h) K0 KE) (q258_66_eq C lf n (fun F h => r (F 10) (F 11) h) (fun F h => e1 (F 0) (F 3) (F 4) (F 6) (F 10) (F 14) (F 15) (F 16) (F 17) h) K0 KE)
noncomputable def q258_93 (C : YC) (lf : Nat) (n : K13) (x0 x3 x4 x6 x10 x14 x15 x16 x17 x18 x19 x21 : O) (h : HW) : Rs :=
 ob x0 fun a69 =>
 ob x19 fun a70 =>
 bc (C (.fn 260) [a69, a70] h) fun y71 h71 =>
 ob (bin Tryz.prog .eql 30 y71 (.int .i64 40960)) fun y72 =>
 bc (gd true (some y72) (ob x21 fun a73 =>
 some (.ret a73, h71)) h71) fun y74 h74 =>
 bc (gd true (some y72) (ob (unE .not y74) fun y75 =>
 some (.ret y75, h74)) h74) fun y76 h76 =>
 bc (gd true (some y72) (some (.ret y76, h76)) h76) fun y77 h77 =>
 bc (gd false (some y77) (ob x3 fun a78 =>
 some (.ret a78, h77)) h77) fun y79 h79 =>
 bc (gd true (some y72) (ob (ypk y77 (.bool true) y79) fun y80 =>
 some (.ret y80, h79)) h79) fun y81 h81 =>
 bc (gd true (some y72) (some (.ret y81, h81)) h81) fun y82 h82 =>
 bc (gd false (some y82) (ob x16 fun a83 =>
 some (.ret a83, h82)) h82) fun y84 h84 =>
 bc (gd false (some y82) (some (.ret y84, h84)) h84) fun y85 h85 =>
 bc (gd true (some y85) (ob x4 fun a86 =>
 some (.ret a86, h85)) h85) fun y87 h87 =>
 bc (gd false (some y82) (ob (ypk y85 y87 (.bool false)) fun y88 =>
 some (.ret y88, h87)) h87) fun y89 h89 =>
 bc (gd true (some y72) (ob (ypk y82 (.bool true) y89) fun y90 =>
 some (.ret y90, h89)) h89) fun y91 h91 =>
 ob (ypk y72 y91 (.bool false)) fun y92 =>
 n x0 x3 x4 x6 x10 x14 x15 x16 x17 x18 x19 x21 (some y92) h91
theorem q258_93_eq (C : YC) (lf : Nat) (n : K13) (KR : KF) (K1 : KF) (K0 : KF) (KE : KX) : ∀ F h, evX fx258 C lf [1, 1, 1, 1, 1, 1, 1, 1, 1, 0, 0, 0, 1, 1, 1, 1, 1, 1, 1, 1, 0, 0] F h (fun F h => n (F 0) (F 3) (F 4) (F 6) (F 10) (F 14) (F 15) (F 16) (F 17) (F 18) (F 19) (F 21) (F 112) h) KR (bk 1 K1 (bk 0 K0 KE)) = q258_93 C lf n (F 0) (F 3) (F 4) (F 6) (F 10) (F 14) (F 15) (F 16) (F 17) (F 18) (F 19) (F 21) h := by
  intro F h; kernel_rfl
noncomputable def q258_94 (C : YC) (lf : Nat) (n : K12) (r : K2) (e1 : K9) (x0 x3 x4 x6 x10 x14 x15 x16 x17 x18 x19 x21 : O) (h : HW) : Rs :=
 q258_93 C lf (fun x0 x3 x4 x6 x10 x14 x15 x16 x17 x18 x19 x21 x112 h => q258_68 C lf n r e1 x0 x3 x4 x6 x10 x14 x15 x16 x17 x18 x19 x21 x112 h) x0 x3 x4 x6 x10 x14 x15 x16 x17 x18 x19 x21 h
theorem q258_94_eq (C : YC) (lf : Nat) (n : K12) (r : K2) (e1 : K9) (K0 : KF) (KE : KX) : ∀ F h, evX fx258 C lf [1, 1, 1, 1, 1, 1, 1, 1, 1, 0, 0, 0, 1, 1, 1, 1, 1, 1, 1, 1, 0] F h (fun F h => n (F 0) (F 3) (F 4) (F 6) (F 10) (F 14) (F 15) (F 16) (F 17) (F 18) (F 19) (F 21) h) (fun F h => r (F 10) (F 11) h) (bk 1 (fun F h => e1 (F 0) (F 3) (F 4) (F 6) (F 10) (F 14) (F 15) (F 16) (F 17) h) (bk 0 K0 KE)) = q258_94 C lf n r e1 (F 0) (F 3) (F 4) (F 6) (F 10) (F 14) (F 15) (F 16) (F 17) (F 18) (F 19) (F 21) h := cSeq (a := subX fx258 [1, 1, 1, 1, 1, 1, 1, 1, 1, 0, 0, 0, 1, 1, 1, 1, 1, 1, 1, 1, 0, 0]) (b := subX fx258 [1, 1, 1, 1, 1, 1, 1, 1, 1, 0, 0, 0, 1, 1, 1, 1, 1, 1, 1, 1, 0, 1]) (by kernel_rfl) (B := (fun F h => q258_68 C lf n r e1 (F 0) (F 3) (F 4) (F 6) (F 10) (F 14) (F 15) (F 16) (F 17) (F 18) (F 19) (F 21) (F 112) h)) (q258_68_eq C lf n r e1 K0 KE) (q258_93_eq C lf (fun x0 x3 x4 x6 x10 x14 x15 x16 x17 x18 x19 x21 x112 h => q258_68 C lf n r e1 x0 x3 x4 x6 x10 x14 x15 x16 x17 x18 x19 x21 x112 h) (fun F h => r (F 10) (F 11) h) (fun F h => e1 (F 0) (F 3) (F 4) (F 6) (F 10) (F 14) (F 15) (F 16) (F 17) h) K0 KE)
noncomputable def q258_95 (C : YC) (lf : Nat) (n : K9) (r : K2) (e1 : K9) (x0 x3 x4 x6 x10 x14 x15 x16 x17 x18 x19 x21 : O) (h : HW) : Rs :=
 q258_94 C lf (fun x0 x3 x4 x6 x10 x14 x15 x16 x17 x18 x19 x21 h => q258_13 C lf n r x0 x3 x4 x6 x10 x14 x15 x16 x17 x18 x19 x21 h) r e1 x0 x3 x4 x6 x10 x14 x15 x16 x17 x18 x19 x21 h
theorem q258_95_eq (C : YC) (lf : Nat) (n : K9) (r : K2) (e1 : K9) (K0 : KF) (KE : KX) : ∀ F h, evX fx258 C lf [1, 1, 1, 1, 1, 1, 1, 1, 1, 0, 0, 0, 1, 1, 1, 1, 1, 1, 1, 1] F h (fun F h => n (F 0) (F 3) (F 4) (F 6) (F 10) (F 14) (F 15) (F 16) (F 17) h) (fun F h => r (F 10) (F 11) h) (bk 1 (fun F h => e1 (F 0) (F 3) (F 4) (F 6) (F 10) (F 14) (F 15) (F 16) (F 17) h) (bk 0 K0 KE)) = q258_95 C lf n r e1 (F 0) (F 3) (F 4) (F 6) (F 10) (F 14) (F 15) (F 16) (F 17) (F 18) (F 19) (F 21) h := cSeq (a := subX fx258 [1, 1, 1, 1, 1, 1, 1, 1, 1, 0, 0, 0, 1, 1, 1, 1, 1, 1, 1, 1, 0]) (b := subX fx258 [1, 1, 1, 1, 1, 1, 1, 1, 1, 0, 0, 0, 1, 1, 1, 1, 1, 1, 1, 1, 1]) (by kernel_rfl) (B := (fun F h => q258_13 C lf n r (F 0) (F 3) (F 4) (F 6) (F 10) (F 14) (F 15) (F 16) (F 17) (F 18) (F 19) (F 21) h)) (q258_13_eq C lf n r (fun F h => e1 (F 0) (F 3) (F 4) (F 6) (F 10) (F 14) (F 15) (F 16) (F 17) h) K0 KE) (q258_94_eq C lf (fun x0 x3 x4 x6 x10 x14 x15 x16 x17 x18 x19 x21 h => q258_13 C lf n r x0 x3 x4 x6 x10 x14 x15 x16 x17 x18 x19 x21 h) r e1 K0 KE)
noncomputable def q258_108 (C : YC) (lf : Nat) (n : K12) (r : K2) (x0 x3 x4 x6 x10 x14 x15 x16 x17 x18 x19 x20 x21 : O) (h : HW) : Rs :=
 ob x20 fun a96 =>
 ob (bin Tryz.prog .neq 3 a96 (.int .i64 0)) fun y97 =>
 yIf y97
 (ob x21 fun a98 =>
 yIf a98
 (ob x14 fun a99 =>
 ob x18 fun a100 =>
 ob x16 fun a101 =>
 ob (semBuild Tryz.prog 351 [0, 2, 3] [a99, a100, a101]) fun y102 =>
 ob x10 fun a103 =>
 ob (st 5 a103 y102 h) fun h104 =>
 r x10 (some (.int .i64 0)) h104)
 (ob (semBuild Tryz.prog 351 [] []) fun y105 =>
 ob x10 fun a106 =>
 ob (st 5 a106 y105 h) fun h107 =>
 r x10 (some (.int .i64 2)) h107))
 (n x0 x3 x4 x6 x10 x14 x15 x16 x17 x18 x19 x21 h)
theorem q258_108_eq (C : YC) (lf : Nat) (n : K12) (r : K2) (K1 : KF) (K0 : KF) (KE : KX) : ∀ F h, evX fx258 C lf [1, 1, 1, 1, 1, 1, 1, 1, 1, 0, 0, 0, 1, 1, 1, 1, 1, 1, 1, 0] F h (fun F h => n (F 0) (F 3) (F 4) (F 6) (F 10) (F 14) (F 15) (F 16) (F 17) (F 18) (F 19) (F 21) h) (fun F h => r (F 10) (F 11) h) (bk 1 K1 (bk 0 K0 KE)) = q258_108 C lf n r (F 0) (F 3) (F 4) (F 6) (F 10) (F 14) (F 15) (F 16) (F 17) (F 18) (F 19) (F 20) (F 21) h := by
  intro F h; kernel_rfl
noncomputable def q258_109 (C : YC) (lf : Nat) (n : K9) (r : K2) (e1 : K9) (x0 x3 x4 x6 x10 x14 x15 x16 x17 x18 x19 x20 x21 : O) (h : HW) : Rs :=
 q258_108 C lf (fun x0 x3 x4 x6 x10 x14 x15 x16 x17 x18 x19 x21 h => q258_95 C lf n r e1 x0 x3 x4 x6 x10 x14 x15 x16 x17 x18 x19 x21 h) r x0 x3 x4 x6 x10 x14 x15 x16 x17 x18 x19 x20 x21 h
theorem q258_109_eq (C : YC) (lf : Nat) (n : K9) (r : K2) (e1 : K9) (K0 : KF) (KE : KX) : ∀ F h, evX fx258 C lf [1, 1, 1, 1, 1, 1, 1, 1, 1, 0, 0, 0, 1, 1, 1, 1, 1, 1, 1] F h (fun F h => n (F 0) (F 3) (F 4) (F 6) (F 10) (F 14) (F 15) (F 16) (F 17) h) (fun F h => r (F 10) (F 11) h) (bk 1 (fun F h => e1 (F 0) (F 3) (F 4) (F 6) (F 10) (F 14) (F 15) (F 16) (F 17) h) (bk 0 K0 KE)) = q258_109 C lf n r e1 (F 0) (F 3) (F 4) (F 6) (F 10) (F 14) (F 15) (F 16) (F 17) (F 18) (F 19) (F 20) (F 21) h := cSeq (a := subX fx258 [1, 1, 1, 1, 1, 1, 1, 1, 1, 0, 0, 0, 1, 1, 1, 1, 1, 1, 1, 0]) (b := subX fx258 [1, 1, 1, 1, 1, 1, 1, 1, 1, 0, 0, 0, 1, 1, 1, 1, 1, 1, 1, 1]) (by kernel_rfl) (B := (fun F h => q258_95 C lf n r e1 (F 0) (F 3) (F 4) (F 6) (F 10) (F 14) (F 15) (F 16) (F 17) (F 18) (F 19) (F 21) h)) (q258_95_eq C lf n r e1 K0 KE) (q258_108_eq C lf (fun x0 x3 x4 x6 x10 x14 x15 x16 x17 x18 x19 x21 h => q258_95 C lf n r e1 x0 x3 x4 x6 x10 x14 x15 x16 x17 x18 x19 x21 h) r (fun F h => e1 (F 0) (F 3) (F 4) (F 6) (F 10) (F 14) (F 15) (F 16) (F 17) h) K0 KE)
noncomputable def q258_113 (C : YC) (lf : Nat) (n : K13) (x0 x3 x4 x6 x10 x14 x15 x16 x17 x18 x19 x20 : O) (h : HW) : Rs :=
 ob x15 fun a110 =>
 ob (lenE Tryz.prog 25 a110) fun y111 =>
 ob (bin Tryz.prog .eql 3 y111 (.int .i64 0)) fun y112 =>
 n x0 x3 x4 x6 x10 x14 x15 x16 x17 x18 x19 x20 (some y112) h
theorem q258_113_eq (C : YC) (lf : Nat) (n : K13) (KR : KF) (K1 : KF) (K0 : KF) (KE : KX) : ∀ F h, evX fx258 C lf [1, 1, 1, 1, 1, 1, 1, 1, 1, 0, 0, 0, 1, 1, 1, 1, 1, 1, 0] F h (fun F h => n (F 0) (F 3) (F 4) (F 6) (F 10) (F 14) (F 15) (F 16) (F 17) (F 18) (F 19) (F 20) (F 21) h) KR (bk 1 K1 (bk 0 K0 KE)) = q258_113 C lf n (F 0) (F 3) (F 4) (F 6) (F 10) (F 14) (F 15) (F 16) (F 17) (F 18) (F 19) (F 20) h := by
  intro F h; kernel_rfl
noncomputable def q258_114 (C : YC) (lf : Nat) (n : K9) (r : K2) (e1 : K9) (x0 x3 x4 x6 x10 x14 x15 x16 x17 x18 x19 x20 : O) (h : HW) : Rs :=
 q258_113 C lf (fun x0 x3 x4 x6 x10 x14 x15 x16 x17 x18 x19 x20 x21 h => q258_109 C lf n r e1 x0 x3 x4 x6 x10 x14 x15 x16 x17 x18 x19 x20 x21 h) x0 x3 x4 x6 x10 x14 x15 x16 x17 x18 x19 x20 h
theorem q258_114_eq (C : YC) (lf : Nat) (n : K9) (r : K2) (e1 : K9) (K0 : KF) (KE : KX) : ∀ F h, evX fx258 C lf [1, 1, 1, 1, 1, 1, 1, 1, 1, 0, 0, 0, 1, 1, 1, 1, 1, 1] F h (fun F h => n (F 0) (F 3) (F 4) (F 6) (F 10) (F 14) (F 15) (F 16) (F 17) h) (fun F h => r (F 10) (F 11) h) (bk 1 (fun F h => e1 (F 0) (F 3) (F 4) (F 6) (F 10) (F 14) (F 15) (F 16) (F 17) h) (bk 0 K0 KE)) = q258_114 C lf n r e1 (F 0) (F 3) (F 4) (F 6) (F 10) (F 14) (F 15) (F 16) (F 17) (F 18) (F 19) (F 20) h := cSeq (a := subX fx258 [1, 1, 1, 1, 1, 1, 1, 1, 1, 0, 0, 0, 1, 1, 1, 1, 1, 1, 0]) (b := subX fx258 [1, 1, 1, 1, 1, 1, 1, 1, 1, 0, 0, 0, 1, 1, 1, 1, 1, 1, 1]) (by kernel_rfl) (B := (fun F h => q258_109 C lf n r e1 (F 0) (F 3) (F 4) (F 6) (F 10) (F 14) (F 15) (F 16) (F 17) (F 18) (F 19) (F 20) (F 21) h)) (q258_109_eq C lf n r e1 K0 KE) (q258_113_eq C lf (fun x0 x3 x4 x6 x10 x14 x15 x16 x17 x18 x19 x20 x21 h => q258_109 C lf n r e1 x0 x3 x4 x6 x10 x14 x15 x16 x17 x18 x19 x20 x21 h) (fun F h => r (F 10) (F 11) h) (fun F h => e1 (F 0) (F 3) (F 4) (F 6) (F 10) (F 14) (F 15) (F 16) (F 17) h) K0 KE)
noncomputable def q258_126 (C : YC) (lf : Nat) (n : K12) (x0 x3 x4 x6 x10 x14 x15 x16 x17 x18 x19 x20 : O) (h : HW) : Rs :=
 ob x18 fun a115 =>
 ob (bin Tryz.prog .neq 9 a115 (.str (bs [46]))) fun y116 =>
 yIf y116
 (ob x0 fun a117 =>
 ob (semNil a117) fun y118 =>
 ob (fa 0 y118) fun y119 =>
 ob (ld1 y119 h) fun y120 =>
 ob x14 fun a121 =>
 ob x18 fun a122 =>
 bc (C (.fn 323) [y120, a121, a122] h) fun y123 h123 =>
 ob (ext 0 y123) fun y124 =>
 ob (ext 1 y123) fun y125 =>
 n x0 x3 x4 x6 x10 x14 x15 x16 x17 x18 (some y124) (some y125) h123)
 (n x0 x3 x4 x6 x10 x14 x15 x16 x17 x18 x19 x20 h)
theorem q258_126_eq (C : YC) (lf : Nat) (n : K12) (KR : KF) (K1 : KF) (K0 : KF) (KE : KX) : ∀ F h, evX fx258 C lf [1, 1, 1, 1, 1, 1, 1, 1, 1, 0, 0, 0, 1, 1, 1, 1, 1, 0] F h (fun F h => n (F 0) (F 3) (F 4) (F 6) (F 10) (F 14) (F 15) (F 16) (F 17) (F 18) (F 19) (F 20) h) KR (bk 1 K1 (bk 0 K0 KE)) = q258_126 C lf n (F 0) (F 3) (F 4) (F 6) (F 10) (F 14) (F 15) (F 16) (F 17) (F 18) (F 19) (F 20) h := by
  intro F h; kernel_rfl
noncomputable def q258_127 (C : YC) (lf : Nat) (n : K9) (r : K2) (e1 : K9) (x0 x3 x4 x6 x10 x14 x15 x16 x17 x18 x19 x20 : O) (h : HW) : Rs :=
 q258_126 C lf (fun x0 x3 x4 x6 x10 x14 x15 x16 x17 x18 x19 x20 h => q258_114 C lf n r e1 x0 x3 x4 x6 x10 x14 x15 x16 x17 x18 x19 x20 h) x0 x3 x4 x6 x10 x14 x15 x16 x17 x18 x19 x20 h
theorem q258_127_eq (C : YC) (lf : Nat) (n : K9) (r : K2) (e1 : K9) (K0 : KF) (KE : KX) : ∀ F h, evX fx258 C lf [1, 1, 1, 1, 1, 1, 1, 1, 1, 0, 0, 0, 1, 1, 1, 1, 1] F h (fun F h => n (F 0) (F 3) (F 4) (F 6) (F 10) (F 14) (F 15) (F 16) (F 17) h) (fun F h => r (F 10) (F 11) h) (bk 1 (fun F h => e1 (F 0) (F 3) (F 4) (F 6) (F 10) (F 14) (F 15) (F 16) (F 17) h) (bk 0 K0 KE)) = q258_127 C lf n r e1 (F 0) (F 3) (F 4) (F 6) (F 10) (F 14) (F 15) (F 16) (F 17) (F 18) (F 19) (F 20) h := cSeq (a := subX fx258 [1, 1, 1, 1, 1, 1, 1, 1, 1, 0, 0, 0, 1, 1, 1, 1, 1, 0]) (b := subX fx258 [1, 1, 1, 1, 1, 1, 1, 1, 1, 0, 0, 0, 1, 1, 1, 1, 1, 1]) (by kernel_rfl) (B := (fun F h => q258_114 C lf n r e1 (F 0) (F 3) (F 4) (F 6) (F 10) (F 14) (F 15) (F 16) (F 17) (F 18) (F 19) (F 20) h)) (q258_114_eq C lf n r e1 K0 KE) (q258_126_eq C lf (fun x0 x3 x4 x6 x10 x14 x15 x16 x17 x18 x19 x20 h => q258_114 C lf n r e1 x0 x3 x4 x6 x10 x14 x15 x16 x17 x18 x19 x20 h) (fun F h => r (F 10) (F 11) h) (fun F h => e1 (F 0) (F 3) (F 4) (F 6) (F 10) (F 14) (F 15) (F 16) (F 17) h) K0 KE)
noncomputable def q258_129 (C : YC) (lf : Nat) (n : K12) (x0 x3 x4 x6 x10 x14 x15 x16 x17 x18 : O) (h : HW) : Rs :=
 ob x14 fun a128 =>
 n x0 x3 x4 x6 x10 x14 x15 x16 x17 x18 (some a128) (some (.int .i64 0)) h
theorem q258_129_eq (C : YC) (lf : Nat) (n : K12) (KR : KF) (K1 : KF) (K0 : KF) (KE : KX) : ∀ F h, evX fx258 C lf [1, 1, 1, 1, 1, 1, 1, 1, 1, 0, 0, 0, 1, 1, 1, 1, 0] F h (fun F h => n (F 0) (F 3) (F 4) (F 6) (F 10) (F 14) (F 15) (F 16) (F 17) (F 18) (F 19) (F 20) h) KR (bk 1 K1 (bk 0 K0 KE)) = q258_129 C lf n (F 0) (F 3) (F 4) (F 6) (F 10) (F 14) (F 15) (F 16) (F 17) (F 18) h := by
  intro F h; kernel_rfl
noncomputable def q258_130 (C : YC) (lf : Nat) (n : K9) (r : K2) (e1 : K9) (x0 x3 x4 x6 x10 x14 x15 x16 x17 x18 : O) (h : HW) : Rs :=
 q258_129 C lf (fun x0 x3 x4 x6 x10 x14 x15 x16 x17 x18 x19 x20 h => q258_127 C lf n r e1 x0 x3 x4 x6 x10 x14 x15 x16 x17 x18 x19 x20 h) x0 x3 x4 x6 x10 x14 x15 x16 x17 x18 h
theorem q258_130_eq (C : YC) (lf : Nat) (n : K9) (r : K2) (e1 : K9) (K0 : KF) (KE : KX) : ∀ F h, evX fx258 C lf [1, 1, 1, 1, 1, 1, 1, 1, 1, 0, 0, 0, 1, 1, 1, 1] F h (fun F h => n (F 0) (F 3) (F 4) (F 6) (F 10) (F 14) (F 15) (F 16) (F 17) h) (fun F h => r (F 10) (F 11) h) (bk 1 (fun F h => e1 (F 0) (F 3) (F 4) (F 6) (F 10) (F 14) (F 15) (F 16) (F 17) h) (bk 0 K0 KE)) = q258_130 C lf n r e1 (F 0) (F 3) (F 4) (F 6) (F 10) (F 14) (F 15) (F 16) (F 17) (F 18) h := cSeq (a := subX fx258 [1, 1, 1, 1, 1, 1, 1, 1, 1, 0, 0, 0, 1, 1, 1, 1, 0]) (b := subX fx258 [1, 1, 1, 1, 1, 1, 1, 1, 1, 0, 0, 0, 1, 1, 1, 1, 1]) (by kernel_rfl) (B := (fun F h => q258_127 C lf n r e1 (F 0) (F 3) (F 4) (F 6) (F 10) (F 14) (F 15) (F 16) (F 17) (F 18) (F 19) (F 20) h)) (q258_127_eq C lf n r e1 K0 KE) (q258_129_eq C lf (fun x0 x3 x4 x6 x10 x14 x15 x16 x17 x18 x19 x20 h => q258_127 C lf n r e1 x0 x3 x4 x6 x10 x14 x15 x16 x17 x18 x19 x20 h) (fun F h => r (F 10) (F 11) h) (fun F h => e1 (F 0) (F 3) (F 4) (F 6) (F 10) (F 14) (F 15) (F 16) (F 17) h) K0 KE)
noncomputable def q258_140 (C : YC) (lf : Nat) (n : K10) (r : K2) (x0 x3 x4 x6 x10 x14 x15 x16 x17 x18 : O) (h : HW) : Rs :=
 ob x0 fun a131 =>
 ob x6 fun a132 =>
 ob (ldN 5 a132 h) fun y133 =>
 ob x14 fun a134 =>
 bc (C (.fn 261) [a131, y133, a134, (.int .i64 1)] h) fun y135 h135 =>
 ob (unE .not y135) fun y136 =>
 yIf y136
 (ob (semBuild Tryz.prog 351 [] []) fun y137 =>
 ob x10 fun a138 =>
 ob (st 5 a138 y137 h135) fun h139 =>
 r x10 (some (.int .i64 13)) h139)
 (n x0 x3 x4 x6 x10 x14 x15 x16 x17 x18 h135)
theorem q258_140_eq (C : YC) (lf : Nat) (n : K10) (r : K2) (K1 : KF) (K0 : KF) (KE : KX) : ∀ F h, evX fx258 C lf [1, 1, 1, 1, 1, 1, 1, 1, 1, 0, 0, 0, 1, 1, 1, 0] F h (fun F h => n (F 0) (F 3) (F 4) (F 6) (F 10) (F 14) (F 15) (F 16) (F 17) (F 18) h) (fun F h => r (F 10) (F 11) h) (bk 1 K1 (bk 0 K0 KE)) = q258_140 C lf n r (F 0) (F 3) (F 4) (F 6) (F 10) (F 14) (F 15) (F 16) (F 17) (F 18) h := by
  intro F h; kernel_rfl
noncomputable def q258_141 (C : YC) (lf : Nat) (n : K9) (r : K2) (e1 : K9) (x0 x3 x4 x6 x10 x14 x15 x16 x17 x18 : O) (h : HW) : Rs :=
 q258_140 C lf (fun x0 x3 x4 x6 x10 x14 x15 x16 x17 x18 h => q258_130 C lf n r e1 x0 x3 x4 x6 x10 x14 x15 x16 x17 x18 h) r x0 x3 x4 x6 x10 x14 x15 x16 x17 x18 h
theorem q258_141_eq (C : YC) (lf : Nat) (n : K9) (r : K2) (e1 : K9) (K0 : KF) (KE : KX) : ∀ F h, evX fx258 C lf [1, 1, 1, 1, 1, 1, 1, 1, 1, 0, 0, 0, 1, 1, 1] F h (fun F h => n (F 0) (F 3) (F 4) (F 6) (F 10) (F 14) (F 15) (F 16) (F 17) h) (fun F h => r (F 10) (F 11) h) (bk 1 (fun F h => e1 (F 0) (F 3) (F 4) (F 6) (F 10) (F 14) (F 15) (F 16) (F 17) h) (bk 0 K0 KE)) = q258_141 C lf n r e1 (F 0) (F 3) (F 4) (F 6) (F 10) (F 14) (F 15) (F 16) (F 17) (F 18) h := cSeq (a := subX fx258 [1, 1, 1, 1, 1, 1, 1, 1, 1, 0, 0, 0, 1, 1, 1, 0]) (b := subX fx258 [1, 1, 1, 1, 1, 1, 1, 1, 1, 0, 0, 0, 1, 1, 1, 1]) (by kernel_rfl) (B := (fun F h => q258_130 C lf n r e1 (F 0) (F 3) (F 4) (F 6) (F 10) (F 14) (F 15) (F 16) (F 17) (F 18) h)) (q258_130_eq C lf n r e1 K0 KE) (q258_140_eq C lf (fun x0 x3 x4 x6 x10 x14 x15 x16 x17 x18 h => q258_130 C lf n r e1 x0 x3 x4 x6 x10 x14 x15 x16 x17 x18 h) r (fun F h => e1 (F 0) (F 3) (F 4) (F 6) (F 10) (F 14) (F 15) (F 16) (F 17) h) K0 KE)
noncomputable def q258_149 (C : YC) (lf : Nat) (n : K10) (r : K2) (x0 x3 x4 x6 x10 x14 x15 x16 x17 x18 : O) (h : HW) : Rs :=
 ob x0 fun a142 =>
 ob x14 fun a143 =>
 bc (C (.fn 260) [a142, a143] h) fun y144 h144 =>
 ob (bin Tryz.prog .neq 30 y144 (.int .i64 16384)) fun y145 =>
 yIf y145
 (ob (semBuild Tryz.prog 351 [] []) fun y146 =>
 ob x10 fun a147 =>
 ob (st 5 a147 y146 h144) fun h148 =>
 r x10 (some (.int .i64 20)) h148)
 (n x0 x3 x4 x6 x10 x14 x15 x16 x17 x18 h144)
theorem q258_149_eq (C : YC) (lf : Nat) (n : K10) (r : K2) (K1 : KF) (K0 : KF) (KE : KX) : ∀ F h, evX fx258 C lf [1, 1, 1, 1, 1, 1, 1, 1, 1, 0, 0, 0, 1, 1, 0] F h (fun F h => n (F 0) (F 3) (F 4) (F 6) (F 10) (F 14) (F 15) (F 16) (F 17) (F 18) h) (fun F h => r (F 10) (F 11) h) (bk 1 K1 (bk 0 K0 KE)) = q258_149 C lf n r (F 0) (F 3) (F 4) (F 6) (F 10) (F 14) (F 15) (F 16) (F 17) (F 18) h := by
  intro F h; kernel_rfl
noncomputable def q258_150 (C : YC) (lf : Nat) (n : K9) (r : K2) (e1 : K9) (x0 x3 x4 x6 x10 x14 x15 x16 x17 x18 : O) (h : HW) : Rs :=
 q258_149 C lf (fun x0 x3 x4 x6 x10 x14 x15 x16 x17 x18 h => q258_141 C lf n r e1 x0 x3 x4 x6 x10 x14 x15 x16 x17 x18 h) r x0 x3 x4 x6 x10 x14 x15 x16 x17 x18 h
theorem q258_150_eq (C : YC) (lf : Nat) (n : K9) (r : K2) (e1 : K9) (K0 : KF) (KE : KX) : ∀ F h, evX fx258 C lf [1, 1, 1, 1, 1, 1, 1, 1, 1, 0, 0, 0, 1, 1] F h (fun F h => n (F 0) (F 3) (F 4) (F 6) (F 10) (F 14) (F 15) (F 16) (F 17) h) (fun F h => r (F 10) (F 11) h) (bk 1 (fun F h => e1 (F 0) (F 3) (F 4) (F 6) (F 10) (F 14) (F 15) (F 16) (F 17) h) (bk 0 K0 KE)) = q258_150 C lf n r e1 (F 0) (F 3) (F 4) (F 6) (F 10) (F 14) (F 15) (F 16) (F 17) (F 18) h := cSeq (a := subX fx258 [1, 1, 1, 1, 1, 1, 1, 1, 1, 0, 0, 0, 1, 1, 0]) (b := subX fx258 [1, 1, 1, 1, 1, 1, 1, 1, 1, 0, 0, 0, 1, 1, 1]) (by kernel_rfl) (B := (fun F h => q258_141 C lf n r e1 (F 0) (F 3) (F 4) (F 6) (F 10) (F 14) (F 15) (F 16) (F 17) (F 18) h)) (q258_141_eq C lf n r e1 K0 KE) (q258_149_eq C lf (fun x0 x3 x4 x6 x10 x14 x15 x16 x17 x18 h => q258_141 C lf n r e1 x0 x3 x4 x6 x10 x14 x15 x16 x17 x18 h) r (fun F h => e1 (F 0) (F 3) (F 4) (F 6) (F 10) (F 14) (F 15) (F 16) (F 17) h) K0 KE)
noncomputable def q258_153 (C : YC) (lf : Nat) (n : K10) (x0 x3 x4 x6 x10 x14 x15 x16 x17 x18 : O) (h : HW) : Rs :=
 ob x15 fun a151 =>
 ob (semSlice Tryz.prog 25 a151 (some (.int .i64 1)) none) fun y152 =>
 n x0 x3 x4 x6 x10 x14 (some y152) x16 x17 x18 h
theorem q258_153_eq (C : YC) (lf : Nat) (n : K10) (KR : KF) (K1 : KF) (K0 : KF) (KE : KX) : ∀ F h, evX fx258 C lf [1, 1, 1, 1, 1, 1, 1, 1, 1, 0, 0, 0, 1, 0] F h (fun F h => n (F 0) (F 3) (F 4) (F 6) (F 10) (F 14) (F 15) (F 16) (F 17) (F 18) h) KR (bk 1 K1 (bk 0 K0 KE)) = q258_153 C lf n (F 0) (F 3) (F 4) (F 6) (F 10) (F 14) (F 15) (F 16) (F 17) (F 18) h := by
  intro F h; kernel_rfl
noncomputable def q258_154 (C : YC) (lf : Nat) (n : K9) (r : K2) (e1 : K9) (x0 x3 x4 x6 x10 x14 x15 x16 x17 x18 : O) (h : HW) : Rs :=
 q258_153 C lf (fun x0 x3 x4 x6 x10 x14 x15 x16 x17 x18 h => q258_150 C lf n r e1 x0 x3 x4 x6 x10 x14 x15 x16 x17 x18 h) x0 x3 x4 x6 x10 x14 x15 x16 x17 x18 h
theorem q258_154_eq (C : YC) (lf : Nat) (n : K9) (r : K2) (e1 : K9) (K0 : KF) (KE : KX) : ∀ F h, evX fx258 C lf [1, 1, 1, 1, 1, 1, 1, 1, 1, 0, 0, 0, 1] F h (fun F h => n (F 0) (F 3) (F 4) (F 6) (F 10) (F 14) (F 15) (F 16) (F 17) h) (fun F h => r (F 10) (F 11) h) (bk 1 (fun F h => e1 (F 0) (F 3) (F 4) (F 6) (F 10) (F 14) (F 15) (F 16) (F 17) h) (bk 0 K0 KE)) = q258_154 C lf n r e1 (F 0) (F 3) (F 4) (F 6) (F 10) (F 14) (F 15) (F 16) (F 17) (F 18) h := cSeq (a := subX fx258 [1, 1, 1, 1, 1, 1, 1, 1, 1, 0, 0, 0, 1, 0]) (b := subX fx258 [1, 1, 1, 1, 1, 1, 1, 1, 1, 0, 0, 0, 1, 1]) (by kernel_rfl) (B := (fun F h => q258_150 C lf n r e1 (F 0) (F 3) (F 4) (F 6) (F 10) (F 14) (F 15) (F 16) (F 17) (F 18) h)) (q258_150_eq C lf n r e1 K0 KE) (q258_153_eq C lf (fun x0 x3 x4 x6 x10 x14 x15 x16 x17 x18 h => q258_150 C lf n r e1 x0 x3 x4 x6 x10 x14 x15 x16 x17 x18 h) (fun F h => r (F 10) (F 11) h) (fun F h => e1 (F 0) (F 3) (F 4) (F 6) (F 10) (F 14) (F 15) (F 16) (F 17) h) K0 KE)
noncomputable def q258_158 (C : YC) (lf : Nat) (n : K10) (x0 x3 x4 x6 x10 x14 x15 x16 x17 : O) (h : HW) : Rs :=
 ob x15 fun a155 =>
 ob (ixS 1 a155 (.int .i64 0)) fun y156 =>
 ob (ld1 y156 h) fun y157 =>
 n x0 x3 x4 x6 x10 x14 x15 x16 x17 (some y157) h
theorem q258_158_eq (C : YC) (lf : Nat) (n : K10) (KR : KF) (K1 : KF) (K0 : KF) (KE : KX) : ∀ F h, evX fx258 C lf [1, 1, 1, 1, 1, 1, 1, 1, 1, 0, 0, 0, 0] F h (fun F h => n (F 0) (F 3) (F 4) (F 6) (F 10) (F 14) (F 15) (F 16) (F 17) (F 18) h) KR (bk 1 K1 (bk 0 K0 KE)) = q258_158 C lf n (F 0) (F 3) (F 4) (F 6) (F 10) (F 14) (F 15) (F 16) (F 17) h := by
  intro F h; kernel_rfl
noncomputable def q258_159 (C : YC) (lf : Nat) (n : K9) (r : K2) (e1 : K9) (x0 x3 x4 x6 x10 x14 x15 x16 x17 : O) (h : HW) : Rs :=
 q258_158 C lf (fun x0 x3 x4 x6 x10 x14 x15 x16 x17 x18 h => q258_154 C lf n r e1 x0 x3 x4 x6 x10 x14 x15 x16 x17 x18 h) x0 x3 x4 x6 x10 x14 x15 x16 x17 h
theorem q258_159_eq (C : YC) (lf : Nat) (n : K9) (r : K2) (e1 : K9) (K0 : KF) (KE : KX) : ∀ F h, evX fx258 C lf [1, 1, 1, 1, 1, 1, 1, 1, 1, 0, 0, 0] F h (fun F h => n (F 0) (F 3) (F 4) (F 6) (F 10) (F 14) (F 15) (F 16) (F 17) h) (fun F h => r (F 10) (F 11) h) (bk 1 (fun F h => e1 (F 0) (F 3) (F 4) (F 6) (F 10) (F 14) (F 15) (F 16) (F 17) h) (bk 0 K0 KE)) = q258_159 C lf n r e1 (F 0) (F 3) (F 4) (F 6) (F 10) (F 14) (F 15) (F 16) (F 17) h := cSeq (a := subX fx258 [1, 1, 1, 1, 1, 1, 1, 1, 1, 0, 0, 0, 0]) (b := subX fx258 [1, 1, 1, 1, 1, 1, 1, 1, 1, 0, 0, 0, 1]) (by kernel_rfl) (B := (fun F h => q258_154 C lf n r e1 (F 0) (F 3) (F 4) (F 6) (F 10) (F 14) (F 15) (F 16) (F 17) (F 18) h)) (q258_154_eq C lf n r e1 K0 KE) (q258_158_eq C lf (fun x0 x3 x4 x6 x10 x14 x15 x16 x17 x18 h => q258_154 C lf n r e1 x0 x3 x4 x6 x10 x14 x15 x16 x17 x18 h) (fun F h => r (F 10) (F 11) h) (fun F h => e1 (F 0) (F 3) (F 4) (F 6) (F 10) (F 14) (F 15) (F 16) (F 17) h) K0 KE)
noncomputable def l258_3 (C : YC) (lf : Nat) (r : K2) (k : O × O × O × O × O × O × O × O × O → HW → Rs) (s : O × O × O × O × O × O × O × O × O) (h : HW) : Rs :=
 q258_159 C lf (fun x0 x3 x4 x6 x10 x14 x15 x16 x17 h => k (x0, x3, x4, x6, x10, x14, x15, x16, x17) h) r (fun x0 x3 x4 x6 x10 x14 x15 x16 x17 h => k (x0, x3, x4, x6, x10, x14, x15, x16, x17) h) s.1 s.2.1 s.2.2.1 s.2.2.2.1 s.2.2.2.2.1 s.2.2.2.2.2.1 s.2.2.2.2.2.2.1 s.2.2.2.2.2.2.2.1 s.2.2.2.2.2.2.2.2 h
noncomputable def q258_168 (C : YC) (lf : Nat) (n : K9) (r : K2) (x0 x3 x4 x6 x10 x14 x15 x16 x17 : O) (h : HW) : Rs :=
 ob x15 fun a160 =>
 ob (lenE Tryz.prog 25 a160) fun y161 =>
 ob (bin Tryz.prog .eql 3 y161 (.int .i64 0)) fun y162 =>
 yIf y162
 (ob x14 fun a163 =>
 ob x14 fun a164 =>
 ob (semBuild Tryz.prog 351 [0, 1, 4] [a163, a164, (.bool true)]) fun y165 =>
 ob x10 fun a166 =>
 ob (st 5 a166 y165 h) fun h167 =>
 r x10 (some (.int .i64 0)) h167)
 (n x0 x3 x4 x6 x10 x14 x15 x16 x17 h)
theorem q258_168_eq (C : YC) (lf : Nat) (n : K9) (r : K2) (KE : KX) : ∀ F h, evX fx258 C lf [1, 1, 1, 1, 1, 1, 1, 1, 0] F h (fun F h => n (F 0) (F 3) (F 4) (F 6) (F 10) (F 14) (F 15) (F 16) (F 17) h) (fun F h => r (F 10) (F 11) h) KE = q258_168 C lf n r (F 0) (F 3) (F 4) (F 6) (F 10) (F 14) (F 15) (F 16) (F 17) h := by
  intro F h; kernel_rfl
noncomputable def q258_169 (C : YC) (lf : Nat) (r : K2) (x0 x3 x4 x6 x10 x14 x15 x16 x17 : O) (h : HW) : Rs :=
 q258_168 C lf (fun x0 x3 x4 x6 x10 x14 x15 x16 x17 h => lp (l258_3 C lf r) lf (x0, x3, x4, x6, x10, x14, x15, x16, x17) h) r x0 x3 x4 x6 x10 x14 x15 x16 x17 h
theorem q258_169_eq (C : YC) (lf : Nat) (r : K2) (KN : KF) (KE : KX) : ∀ F h, evX fx258 C lf [1, 1, 1, 1, 1, 1, 1, 1] F h KN (fun F h => r (F 10) (F 11) h) KE = q258_169 C lf r (F 0) (F 3) (F 4) (F 6) (F 10) (F 14) (F 15) (F 16) (F 17) h := cSeq (a := subX fx258 [1, 1, 1, 1, 1, 1, 1, 1, 0]) (b := subX fx258 [1, 1, 1, 1, 1, 1, 1, 1, 1]) (by kernel_rfl) (B := (fun F h => lp (l258_3 C lf r) lf ((F 0), (F 3), (F 4), (F 6), (F 10), (F 14), (F 15), (F 16), (F 17)) h)) (cBlock (id := 0) (a := subX fx258 [1, 1, 1, 1, 1, 1, 1, 1, 1, 0]) (by kernel_rfl) (cLoop (a := subX fx258 [1, 1, 1, 1, 1, 1, 1, 1, 1, 0, 0]) (g := fun F => (F 0, F 3, F 4, F 6, F 10, F 14, F 15, F 16, F 17)) (body := l258_3 C lf r) (by kernel_rfl) (fun k => (cBlock (id := 1) (a := subX fx258 [1, 1, 1, 1, 1, 1, 1, 1, 1, 0, 0, 0]) (by kernel_rfl) (q258_159_eq C lf (fun x0 x3 x4 x6 x10 x14 x15 x16 x17 h => k (x0, x3, x4, x6, x10, x14, x15, x16, x17) h) r (fun x0 x3 x4 x6 x10 x14 x15 x16 x17 h => k (x0, x3, x4, x6, x10, x14, x15, x16, x17) h) KN KE))))) (q258_168_eq C lf (fun x0 x3 x4 x6 x10 x14 x15 x16 x17 h => lp (l258_3 C lf r) lf (x0, x3, x4, x6, x10, x14, x15, x16, x17) h) r KE)
noncomputable def q258_170 (C : YC) (lf : Nat) (n : K9) (x0 x3 x4 x6 x10 x14 x15 x16 : O) (h : HW) : Rs :=
 n x0 x3 x4 x6 x10 x14 x15 x16 (some (.int .i64 0)) h
theorem q258_170_eq (C : YC) (lf : Nat) (n : K9) (KR : KF) (KE : KX) : ∀ F h, evX fx258 C lf [1, 1, 1, 1, 1, 1, 1, 0] F h (fun F h => n (F 0) (F 3) (F 4) (F 6) (F 10) (F 14) (F 15) (F 16) (F 17) h) KR KE = q258_170 C lf n (F 0) (F 3) (F 4) (F 6) (F 10) (F 14) (F 15) (F 16) h := by
  intro F h; kernel_rfl
noncomputable def q258_171 (C : YC) (lf : Nat) (r : K2) (x0 x3 x4 x6 x10 x14 x15 x16 : O) (h : HW) : Rs :=
 q258_170 C lf (fun x0 x3 x4 x6 x10 x14 x15 x16 x17 h => q258_169 C lf r x0 x3 x4 x6 x10 x14 x15 x16 x17 h) x0 x3 x4 x6 x10 x14 x15 x16 h
theorem q258_171_eq (C : YC) (lf : Nat) (r : K2) (KN : KF) (KE : KX) : ∀ F h, evX fx258 C lf [1, 1, 1, 1, 1, 1, 1] F h KN (fun F h => r (F 10) (F 11) h) KE = q258_171 C lf r (F 0) (F 3) (F 4) (F 6) (F 10) (F 14) (F 15) (F 16) h := cSeq (a := subX fx258 [1, 1, 1, 1, 1, 1, 1, 0]) (b := subX fx258 [1, 1, 1, 1, 1, 1, 1, 1]) (by kernel_rfl) (B := (fun F h => q258_169 C lf r (F 0) (F 3) (F 4) (F 6) (F 10) (F 14) (F 15) (F 16) (F 17) h)) (q258_169_eq C lf r KN KE) (q258_170_eq C lf (fun x0 x3 x4 x6 x10 x14 x15 x16 x17 h => q258_169 C lf r x0 x3 x4 x6 x10 x14 x15 x16 x17 h) (fun F h => r (F 10) (F 11) h) KE)
noncomputable def q258_175 (C : YC) (lf : Nat) (n : K8) (x0 x3 x4 x6 x10 x12 x14 x15 : O) (h : HW) : Rs :=
 ob x12 fun a172 =>
 ob (fa 2 a172) fun y173 =>
 ob (ld1 y173 h) fun y174 =>
 n x0 x3 x4 x6 x10 x14 x15 (some y174) h
theorem q258_175_eq (C : YC) (lf : Nat) (n : K8) (KR : KF) (KE : KX) : ∀ F h, evX fx258 C lf [1, 1, 1, 1, 1, 1, 0] F h (fun F h => n (F 0) (F 3) (F 4) (F 6) (F 10) (F 14) (F 15) (F 16) h) KR KE = q258_175 C lf n (F 0) (F 3) (F 4) (F 6) (F 10) (F 12) (F 14) (F 15) h := by
  intro F h; kernel_rfl
noncomputable def q258_176 (C : YC) (lf : Nat) (r : K2) (x0 x3 x4 x6 x10 x12 x14 x15 : O) (h : HW) : Rs :=
 q258_175 C lf (fun x0 x3 x4 x6 x10 x14 x15 x16 h => q258_171 C lf r x0 x3 x4 x6 x10 x14 x15 x16 h) x0 x3 x4 x6 x10 x12 x14 x15 h
theorem q258_176_eq (C : YC) (lf : Nat) (r : K2) (KN : KF) (KE : KX) : ∀ F h, evX fx258 C lf [1, 1, 1, 1, 1, 1] F h KN (fun F h => r (F 10) (F 11) h) KE = q258_176 C lf r (F 0) (F 3) (F 4) (F 6) (F 10) (F 12) (F 14) (F 15) h := cSeq (a := subX fx258 [1, 1, 1, 1, 1, 1, 0]) (b := subX fx258 [1, 1, 1, 1, 1, 1, 1]) (by kernel_rfl) (B := (fun F h => q258_171 C lf r (F 0) (F 3) (F 4) (F 6) (F 10) (F 14) (F 15) (F 16) h)) (q258_171_eq C lf r KN KE) (q258_175_eq C lf (fun x0 x3 x4 x6 x10 x14 x15 x16 h => q258_171 C lf r x0 x3 x4 x6 x10 x14 x15 x16 h) (fun F h => r (F 10) (F 11) h) KE)
noncomputable def q258_180 (C : YC) (lf : Nat) (n : K8) (x0 x3 x4 x6 x10 x12 x14 : O) (h : HW) : Rs :=
 ob x12 fun a177 =>
 ob (fa 1 a177) fun y178 =>
 ob (ld1 y178 h) fun y179 =>
 n x0 x3 x4 x6 x10 x12 x14 (some y179) h
theorem q258_180_eq (C : YC) (lf : Nat) (n : K8) (KR : KF) (KE : KX) : ∀ F h, evX fx258 C lf [1, 1, 1, 1, 1, 0] F h (fun F h => n (F 0) (F 3) (F 4) (F 6) (F 10) (F 12) (F 14) (F 15) h) KR KE = q258_180 C lf n (F 0) (F 3) (F 4) (F 6) (F 10) (F 12) (F 14) h := by
  intro F h; kernel_rfl
noncomputable def q258_181 (C : YC) (lf : Nat) (r : K2) (x0 x3 x4 x6 x10 x12 x14 : O) (h : HW) : Rs :=
 q258_180 C lf (fun x0 x3 x4 x6 x10 x12 x14 x15 h => q258_176 C lf r x0 x3 x4 x6 x10 x12 x14 x15 h) x0 x3 x4 x6 x10 x12 x14 h
theorem q258_181_eq (C : YC) (lf : Nat) (r : K2) (KN : KF) (KE : KX) : ∀ F h, evX fx258 C lf [1, 1, 1, 1, 1] F h KN (fun F h => r (F 10) (F 11) h) KE = q258_181 C lf r (F 0) (F 3) (F 4) (F 6) (F 10) (F 12) (F 14) h := cSeq (a := subX fx258 [1, 1, 1, 1, 1, 0]) (b := subX fx258 [1, 1, 1, 1, 1, 1]) (by kernel_rfl) (B := (fun F h => q258_176 C lf r (F 0) (F 3) (F 4) (F 6) (F 10) (F 12) (F 14) (F 15) h)) (q258_176_eq C lf r KN KE) (q258_180_eq C lf (fun x0 x3 x4 x6 x10 x12 x14 x15 h => q258_176 C lf r x0 x3 x4 x6 x10 x12 x14 x15 h) (fun F h => r (F 10) (F 11) h) KE)
noncomputable def q258_196 (C : YC) (lf : Nat) (n : K7) (r : K2) (x0 x3 x4 x6 x10 x12 x14 : O) (h : HW) : Rs :=
 ob x12 fun a182 =>
 ob (fa 0 a182) fun y183 =>
 ob (ld1 y183 h) fun y184 =>
 ob (unE .not y184) fun y185 =>
 yIf y185
 (ob x0 fun a186 =>
 ob x6 fun a187 =>
 ob (ldN 5 a187 h) fun y188 =>
 bc (C (.fn 322) [a186, y188] h) fun y189 h189 =>
 ob (ext 0 y189) fun y190 =>
 ob (ext 1 y189) fun y191 =>
 ob (bin Tryz.prog .neq 3 y191 (.int .i64 0)) fun y192 =>
 yIf y192
 (ob (semBuild Tryz.prog 351 [] []) fun y193 =>
 ob x10 fun a194 =>
 ob (st 5 a194 y193 h189) fun h195 =>
 r x10 (some y191) h195)
 (n x0 x3 x4 x6 x10 x12 (some y190) h189))
 (n x0 x3 x4 x6 x10 x12 x14 h)
theorem q258_196_eq (C : YC) (lf : Nat) (n : K7) (r : K2) (KE : KX) : ∀ F h, evX fx258 C lf [1, 1, 1, 1, 0] F h (fun F h => n (F 0) (F 3) (F 4) (F 6) (F 10) (F 12) (F 14) h) (fun F h => r (F 10) (F 11) h) KE = q258_196 C lf n r (F 0) (F 3) (F 4) (F 6) (F 10) (F 12) (F 14) h := by
  intro F h; kernel_rfl
noncomputable def q258_197 (C : YC) (lf : Nat) (r : K2) (x0 x3 x4 x6 x10 x12 x14 : O) (h : HW) : Rs :=
 q258_196 C lf (fun x0 x3 x4 x6 x10 x12 x14 h => q258_181 C lf r x0 x3 x4 x6 x10 x12 x14 h) r x0 x3 x4 x6 x10 x12 x14 h
theorem q258_197_eq (C : YC) (lf : Nat) (r : K2) (KN : KF) (KE : KX) : ∀ F h, evX fx258 C lf [1, 1, 1, 1] F h KN (fun F h => r (F 10) (F 11) h) KE = q258_197 C lf r (F 0) (F 3) (F 4) (F 6) (F 10) (F 12) (F 14) h := cSeq (a := subX fx258 [1, 1, 1, 1, 0]) (b := subX fx258 [1, 1, 1, 1, 1]) (by kernel_rfl) (B := (fun F h => q258_181 C lf r (F 0) (F 3) (F 4) (F 6) (F 10) (F 12) (F 14) h)) (q258_181_eq C lf r KN KE) (q258_196_eq C lf (fun x0 x3 x4 x6 x10 x12 x14 h => q258_181 C lf r x0 x3 x4 x6 x10 x12 x14 h) r KE)
noncomputable def q258_198 (C : YC) (lf : Nat) (n : K7) (x0 x3 x4 x6 x10 x12 : O) (h : HW) : Rs :=
 n x0 x3 x4 x6 x10 x12 (some (.int .i64 1)) h
theorem q258_198_eq (C : YC) (lf : Nat) (n : K7) (KR : KF) (KE : KX) : ∀ F h, evX fx258 C lf [1, 1, 1, 0] F h (fun F h => n (F 0) (F 3) (F 4) (F 6) (F 10) (F 12) (F 14) h) KR KE = q258_198 C lf n (F 0) (F 3) (F 4) (F 6) (F 10) (F 12) h := by
  intro F h; kernel_rfl
noncomputable def q258_199 (C : YC) (lf : Nat) (r : K2) (x0 x3 x4 x6 x10 x12 : O) (h : HW) : Rs :=
 q258_198 C lf (fun x0 x3 x4 x6 x10 x12 x14 h => q258_197 C lf r x0 x3 x4 x6 x10 x12 x14 h) x0 x3 x4 x6 x10 x12 h
theorem q258_199_eq (C : YC) (lf : Nat) (r : K2) (KN : KF) (KE : KX) : ∀ F h, evX fx258 C lf [1, 1, 1] F h KN (fun F h => r (F 10) (F 11) h) KE = q258_199 C lf r (F 0) (F 3) (F 4) (F 6) (F 10) (F 12) h := cSeq (a := subX fx258 [1, 1, 1, 0]) (b := subX fx258 [1, 1, 1, 1]) (by kernel_rfl) (B := (fun F h => q258_197 C lf r (F 0) (F 3) (F 4) (F 6) (F 10) (F 12) (F 14) h)) (q258_197_eq C lf r KN KE) (q258_198_eq C lf (fun x0 x3 x4 x6 x10 x12 x14 h => q258_197 C lf r x0 x3 x4 x6 x10 x12 x14 h) (fun F h => r (F 10) (F 11) h) KE)
noncomputable def q258_206 (C : YC) (lf : Nat) (n : K6) (r : K2) (x0 x3 x4 x6 x10 x12 x13 : O) (h : HW) : Rs :=
 ob x13 fun a200 =>
 ob (bin Tryz.prog .neq 3 a200 (.int .i64 0)) fun y201 =>
 yIf y201
 (ob (semBuild Tryz.prog 351 [] []) fun y202 =>
 ob x13 fun a203 =>
 ob x10 fun a204 =>
 ob (st 5 a204 y202 h) fun h205 =>
 r x10 (some a203) h205)
 (n x0 x3 x4 x6 x10 x12 h)
theorem q258_206_eq (C : YC) (lf : Nat) (n : K6) (r : K2) (KE : KX) : ∀ F h, evX fx258 C lf [1, 1, 0] F h (fun F h => n (F 0) (F 3) (F 4) (F 6) (F 10) (F 12) h) (fun F h => r (F 10) (F 11) h) KE = q258_206 C lf n r (F 0) (F 3) (F 4) (F 6) (F 10) (F 12) (F 13) h := by
  intro F h; kernel_rfl
noncomputable def q258_207 (C : YC) (lf : Nat) (r : K2) (x0 x3 x4 x6 x10 x12 x13 : O) (h : HW) : Rs :=
 q258_206 C lf (fun x0 x3 x4 x6 x10 x12 h => q258_199 C lf r x0 x3 x4 x6 x10 x12 h) r x0 x3 x4 x6 x10 x12 x13 h
theorem q258_207_eq (C : YC) (lf : Nat) (r : K2) (KN : KF) (KE : KX) : ∀ F h, evX fx258 C lf [1, 1] F h KN (fun F h => r (F 10) (F 11) h) KE = q258_207 C lf r (F 0) (F 3) (F 4) (F 6) (F 10) (F 12) (F 13) h := cSeq (a := subX fx258 [1, 1, 0]) (b := subX fx258 [1, 1, 1]) (by kernel_rfl) (B := (fun F h => q258_199 C lf r (F 0) (F 3) (F 4) (F 6) (F 10) (F 12) h)) (q258_199_eq C lf r KN KE) (q258_206_eq C lf (fun x0 x3 x4 x6 x10 x12 h => q258_199 C lf r x0 x3 x4 x6 x10 x12 h) r KE)
noncomputable def q258_214 (C : YC) (lf : Nat) (n : K7) (x0 x2 x3 x4 x6 x10 : O) (h : HW) : Rs :=
 ob x2 fun a208 =>
 bc (C (.fn 301) [a208] h) fun y209 h209 =>
 ob (ext 0 y209) fun y210 =>
 ob (ext 1 y209) fun y211 =>
 b2 (yAl Tryz.prog 234 h209) fun y212 h212 =>
 ob (st 3 y212 y210 h212) fun h213 =>
 n x0 x3 x4 x6 x10 (some y212) (some y211) h213
theorem q258_214_eq (C : YC) (lf : Nat) (n : K7) (KR : KF) (KE : KX) : ∀ F h, evX fx258 C lf [1, 0] F h (fun F h => n (F 0) (F 3) (F 4) (F 6) (F 10) (F 12) (F 13) h) KR KE = q258_214 C lf n (F 0) (F 2) (F 3) (F 4) (F 6) (F 10) h := by
  intro F h; kernel_rfl
noncomputable def q258_215 (C : YC) (lf : Nat) (r : K2) (x0 x2 x3 x4 x6 x10 : O) (h : HW) : Rs :=
 q258_214 C lf (fun x0 x3 x4 x6 x10 x12 x13 h => q258_207 C lf r x0 x3 x4 x6 x10 x12 x13 h) x0 x2 x3 x4 x6 x10 h
theorem q258_215_eq (C : YC) (lf : Nat) (r : K2) (KN : KF) (KE : KX) : ∀ F h, evX fx258 C lf [1] F h KN (fun F h => r (F 10) (F 11) h) KE = q258_215 C lf r (F 0) (F 2) (F 3) (F 4) (F 6) (F 10) h := cSeq (a := subX fx258 [1, 0]) (b := subX fx258 [1, 1]) (by kernel_rfl) (B := (fun F h => q258_207 C lf r (F 0) (F 3) (F 4) (F 6) (F 10) (F 12) (F 13) h)) (q258_207_eq C lf r KN KE) (q258_214_eq C lf (fun x0 x3 x4 x6 x10 x12 x13 h => q258_207 C lf r x0 x3 x4 x6 x10 x12 x13 h) (fun F h => r (F 10) (F 11) h) KE)
noncomputable def q258_219 (C : YC) (lf : Nat) (n : K6) (x0 x1 x2 x3 x4 : O) (h : HW) : Rs :=
 ob x1 fun a216 =>
 b2 (ybx 46 a216 h) fun y217 h217 =>
 b2 (yAl Tryz.prog 351 h217) fun y218 h218 =>
 n x0 x2 x3 x4 (some y217) (some y218) h218
theorem q258_219_eq (C : YC) (lf : Nat) (n : K6) (KR : KF) (KE : KX) : ∀ F h, evX fx258 C lf [0] F h (fun F h => n (F 0) (F 2) (F 3) (F 4) (F 6) (F 10) h) KR KE = q258_219 C lf n (F 0) (F 1) (F 2) (F 3) (F 4) h := by
  intro F h; kernel_rfl
noncomputable def q258_220 (C : YC) (lf : Nat) (r : K2) (x0 x1 x2 x3 x4 : O) (h : HW) : Rs :=
 q258_219 C lf (fun x0 x2 x3 x4 x6 x10 h => q258_215 C lf r x0 x2 x3 x4 x6 x10 h) x0 x1 x2 x3 x4 h
theorem q258_220_eq (C : YC) (lf : Nat) (r : K2) (KN : KF) (KE : KX) : ∀ F h, evX fx258 C lf [] F h KN (fun F h => r (F 10) (F 11) h) KE = q258_220 C lf r (F 0) (F 1) (F 2) (F 3) (F 4) h := cSeq (a := subX fx258 [0]) (b := subX fx258 [1]) (by kernel_rfl) (B := (fun F h => q258_215 C lf r (F 0) (F 2) (F 3) (F 4) (F 6) (F 10) h)) (q258_215_eq C lf r KN KE) (q258_219_eq C lf (fun x0 x2 x3 x4 x6 x10 h => q258_215 C lf r x0 x2 x3 x4 x6 x10 h) (fun F h => r (F 10) (F 11) h) KE)
noncomputable def fs258 (C : YC) (lf : Nat) (a0 a1 a2 a3 a4 : SV) (h : HW) : Rs := q258_220 C lf ff258 (some a0) (some a1) (some a2) (some a3) (some a4) h
theorem fs258_eq (C : YC) (lf : Nat) (a0 a1 a2 a3 a4 : SV) (h : HW) : yFn Tryz.prog fx258 C lf [a0, a1, a2, a3, a4] h = fs258 C lf a0 a1 a2 a3 a4 h := fnX (K := (fun F h => ff258 (F 10) (F 11) h)) (by kernel_rfl) (((q258_220_eq C lf ff258 (fun F h => ff258 (F 10) (F 11) h) (fun _ _ _ => none)) _ h).trans (by kernel_rfl))
noncomputable def fy258 : YX Tryz.prog := Y5 fx258 fs258 fs258_eq (by kernel_rfl)

noncomputable def fx259 : XF Tryz.prog := ⟨259, Tryz.f259, fun r => bif Nat.beq r 7 then .ord [0, 1, 2, 6, 7, 8, 3, 9, 10, 11, 12, 4, 5, 13, 14, 15, 16, 17, 18, 19, 20] [(4, [12, 9])] else bif Nat.beq r 9 then .ord [0, 1, 2, 4, 5, 6, 10, 12, 14, 3, 7, 8, 9, 11, 13, 15, 16, 17, 18, 19, 20, 21, 22] [(16, [11, 7, 3])] else .text, Tryz.func259, by kernel_rfl, by kernel_rfl, by kernel_rfl, by kernel_rfl⟩
noncomputable def ff259 (x8 x9 : O) (h : HW) : Rs :=
 ob x8 fun a0 =>
 ob x9 fun a1 =>
 some (.ret (.tup [a0, a1]), h)
noncomputable def q259_82 (C : YC) (lf : Nat) (r : K2) (x0 x1 x2 x3 : O) (h : HW) : Rs :=
 ob x1 fun a2 =>
 b2 (ybx 46 a2 h) fun y3 h3 =>
 ob x2 fun a4 =>
 b2 (ybx 351 a4 h3) fun y5 h5 =>
 ob (fa 3 y5) fun y6 =>
 ob (ld1 y6 h5) fun y7 =>
 yIf y7
 (r (some (.int .i64 0)) (some (.int .i64 21)) h5)
 (ob x0 fun a8 =>
 ob (fa 0 y5) fun y9 =>
 ob (ld1 y9 h5) fun y10 =>
 bc (C (.fn 296) [a8, y10] h5) fun y11 h11 =>
 yIf y11
 (r (some (.int .i64 0)) (some (.int .i64 2)) h11)
 (ob x0 fun a12 =>
 ob (ldN 5 y3 h11) fun y13 =>
 ob (fa 0 y5) fun y14 =>
 ob (ld1 y14 h11) fun y15 =>
 bc (C (.fn 261) [a12, y13, y15, (.int .i64 2)] h11) fun y16 h16 =>
 ob (unE .not y16) fun y17 =>
 yIf y17
 (r (some (.int .i64 0)) (some (.int .i64 13)) h16)
 (ob x0 fun a18 =>
 ob (semNil a18) fun y19 =>
 ob (fa 0 y19) fun y20 =>
 ob x0 fun a21 =>
 ob (semNil a21) fun y22 =>
 ob (fa 0 y22) fun y23 =>
 ob (ld1 y20 h16) fun y24 =>
 ob (ld1 y23 h16) fun y25 =>
 ob (semNil y25) fun y26 =>
 ob (fa 2 y26) fun y27 =>
 ob (ld1 y27 h16) fun y28 =>
 bcn (C (.fn 297) [y24] h16) fun y29 h29 =>
 ck (chkH [(12, adrO (some y27)), (9, adrO (some y23)), (3, adrO (some y20))] h16 h29 [12, 9]) <|
 ob (lenE Tryz.prog 44 y29) fun y30 =>
 ob (bin Tryz.prog .eql 3 y30 y28) fun y31 =>
 bcn (gd false (some y31) (ob x0 fun a32 =>
 some (.ret a32, h29)) h29) fun y33 h33 =>
 bcn (gd false (some y31) (ob (fa 0 y5) fun y34 =>
 some (.ret y34, h33)) h33) fun y35 h35 =>
 bcn (gd false (some y31) (ob (ld1 y35 h35) fun y36 =>
 some (.ret y36, h35)) h35) fun y37 h37 =>
 bcn (gd false (some y31) (bcn (C (.fn 298) [y33, y37, (.int .i64 0)] h37) fun y38 h38 =>
 some (.ret y38, h38)) h37) fun y39 h39 =>
 bcn (gd false (some y31) (ob (unE .not y39) fun y40 =>
 some (.ret y40, h39)) h39) fun y41 h41 =>
 ob (ypk y31 (.bool true) y41) fun y42 =>
 yIf y42
 (r (some (.int .i64 0)) (some (.int .i64 28)) h41)
 (ob x0 fun a43 =>
 ob (semNil a43) fun y44 =>
 ob (fa 0 y44) fun y45 =>
 ob x3 fun a46 =>
 ob (bin Tryz.prog .and 30 a46 (.int .i64 4095)) fun y47 =>
 ob (fa 3 y3) fun y48 =>
 ob (fa 0 y3) fun y49 =>
 ob x0 fun a50 =>
 ob (fa 0 y5) fun y51 =>
 ob (ld1 y45 h41) fun y52 =>
 ob (ld1 y48 h41) fun y53 =>
 ob (bin Tryz.prog .andNot 30 y47 y53) fun y54 =>
 ob (bin Tryz.prog .or 30 (.int .i64 32768) y54) fun y55 =>
 ob (ld1 y49 h41) fun y56 =>
 ob (ldN 5 y3 h41) fun y57 =>
 ob (ld1 y51 h41) fun y58 =>
 bcn (C (.fn 299) [a50, y57, y58] h41) fun y59 h59 =>
 ck (chkH [(15, adrO (some y51)), (13, adrO (some y3)), (11, adrO (some y49)), (7, adrO (some y48)), (3, adrO (some y45))] h41 h59 [11, 7, 3]) <|
 bcn (C (.fn 227) [y52, y55, y56, y59] h59) fun y60 h60 =>
 ob (ext 0 y60) fun y61 =>
 ob (ext 1 y60) fun y62 =>
 ob x0 fun a63 =>
 ob (semNil a63) fun y64 =>
 ob (fa 0 y64) fun y65 =>
 ob (ld1 y65 h60) fun y66 =>
 ob (fa 0 y5) fun y67 =>
 ob (ld1 y67 h60) fun y68 =>
 ob (fa 2 y5) fun y69 =>
 ob (ld1 y69 h60) fun y70 =>
 bcn (C (.fn 300) [y66, y68, y70, y61] h60) fun y71 h71 =>
 ob x0 fun a72 =>
 ob (semNil a72) fun y73 =>
 ob (fa 0 y73) fun y74 =>
 ob (ld1 y74 h71) fun y75 =>
 bc (C (.fn 229) [y75, y61, (.int .i64 1)] h71) fun y76 h76 =>
 ob x0 fun a77 =>
 ob (semNil a77) fun y78 =>
 ob (fa 0 y78) fun y79 =>
 ob (ld1 y79 h76) fun y80 =>
 bc (C (.fn 263) [y80, y61] h76) fun y81 h81 =>
 r (some y61) (some (.int .i64 0)) h81))))
theorem q259_82_eq (C : YC) (lf : Nat) (r : K2) (KN : KF) (KE : KX) : ∀ F h, evX fx259 C lf [] F h KN (fun F h => r (F 8) (F 9) h) KE = q259_82 C lf r (F 0) (F 1) (F 2) (F 3) h := by
  intro F h; kernel_rfl
noncomputable def fs259 (C : YC) (lf : Nat) (a0 a1 a2 a3 : SV) (h : HW) : Rs := q259_82 C lf ff259 (some a0) (some a1) (some a2) (some a3) h
theorem fs259_eq (C : YC) (lf : Nat) (a0 a1 a2 a3 : SV) (h : HW) : yFn Tryz.prog fx259 C lf [a0, a1, a2, a3] h = fs259 C lf a0 a1 a2 a3 h := fnX (K := (fun F h => ff259 (F 8) (F 9) h)) (by kernel_rfl) (((q259_82_eq C lf ff259 (fun F h => ff259 (F 8) (F 9) h) (fun _ _ _ => none)) _ h).trans (by kernel_rfl))
noncomputable def fy259 : YX Tryz.prog := Y4 fx259 fs259 fs259_eq (by kernel_rfl)

noncomputable def fx260 : XF Tryz.prog := ⟨260, Tryz.f260, fun _ => .text, Tryz.func260, by kernel_rfl, by kernel_rfl, by kernel_rfl, by kernel_rfl⟩
noncomputable def ff260 (x4 : O) (h : HW) : Rs :=
 ob x4 fun a0 =>
 some (.ret a0, h)
noncomputable def q260_14 (C : YC) (lf : Nat) (r : K1) (x0 x1 : O) (h : HW) : Rs :=
 ob x0 fun a1 =>
 ob (semNil a1) fun y2 =>
 ob (fa 0 y2) fun y3 =>
 ob (ld1 y3 h) fun y4 =>
 ob (semNil y4) fun y5 =>
 ob (fa 4 y5) fun y6 =>
 ob (ld1 y6 h) fun y7 =>
 ob x1 fun a8 =>
 ob (ixS 308 y7 a8) fun y9 =>
 ob (fa 1 y9) fun y10 =>
 ob (fa 6 y10) fun y11 =>
 ob (ld1 y11 h) fun y12 =>
 ob (bin Tryz.prog .and 30 y12 (.int .i64 61440)) fun y13 =>
 r (some y13) h
theorem q260_14_eq (C : YC) (lf : Nat) (r : K1) (KN : KF) (KE : KX) : ∀ F h, evX fx260 C lf [] F h KN (fun F h => r (F 4) h) KE = q260_14 C lf r (F 0) (F 1) h := by
  intro F h; kernel_rfl
noncomputable def fs260 (C : YC) (lf : Nat) (a0 a1 : SV) (h : HW) : Rs := q260_14 C lf ff260 (some a0) (some a1) h
theorem fs260_eq (C : YC) (lf : Nat) (a0 a1 : SV) (h : HW) : yFn Tryz.prog fx260 C lf [a0, a1] h = fs260 C lf a0 a1 h := fnX (K := (fun F h => ff260 (F 4) h)) (by kernel_rfl) (((q260_14_eq C lf ff260 (fun F h => ff260 (F 4) h) (fun _ _ _ => none)) _ h).trans (by kernel_rfl))
noncomputable def fy260 : YX Tryz.prog := Y2 fx260 fs260 fs260_eq (by kernel_rfl)

noncomputable def fx261 : XF Tryz.prog := ⟨261, Tryz.f261, fun _ => .text, Tryz.func261, by kernel_rfl, by kernel_rfl, by kernel_rfl, by kernel_rfl⟩
noncomputable def ff261 (x8 : O) (h : HW) : Rs :=
 ob x8 fun a0 =>
 some (.ret a0, h)
noncomputable def q261_25 (C : YC) (lf : Nat) (r : K1) (x0 x1 x2 x3 : O) (h : HW) : Rs :=
 ob x1 fun a1 =>
 b2 (ybx 46 a1 h) fun y2 h2 =>
 ob x0 fun a3 =>
 ob (semNil a3) fun y4 =>
 ob (fa 0 y4) fun y5 =>
 ob (ld1 y5 h2) fun y6 =>
 ob (semNil y6) fun y7 =>
 ob (fa 4 y7) fun y8 =>
 ob (ld1 y8 h2) fun y9 =>
 ob x2 fun a10 =>
 ob (ixS 308 y9 a10) fun y11 =>
 ob (fa 1 y11) fun y12 =>
 ob (ldN 10 y12 h2) fun y13 =>
 b2 (yAl Tryz.prog 58 h2) fun y14 h14 =>
 ob (st 10 y14 y13 h14) fun h15 =>
 ob (fa 6 y14) fun y16 =>
 ob (ld1 y16 h15) fun y17 =>
 ob (fa 2 y14) fun y18 =>
 ob (ld1 y18 h15) fun y19 =>
 ob (fa 3 y14) fun y20 =>
 ob (ld1 y20 h15) fun y21 =>
 ob (ldN 5 y2 h15) fun y22 =>
 ob x3 fun a23 =>
 bc (C (.fn 325) [y17, y19, y21, y22, a23] h15) fun y24 h24 =>
 r (some y24) h24
theorem q261_25_eq (C : YC) (lf : Nat) (r : K1) (KN : KF) (KE : KX) : ∀ F h, evX fx261 C lf [] F h KN (fun F h => r (F 8) h) KE = q261_25 C lf r (F 0) (F 1) (F 2) (F 3) h := by
  intro F h; kernel_rfl
noncomputable def fs261 (C : YC) (lf : Nat) (a0 a1 a2 a3 : SV) (h : HW) : Rs := q261_25 C lf ff261 (some a0) (some a1) (some a2) (some a3) h
theorem fs261_eq (C : YC) (lf : Nat) (a0 a1 a2 a3 : SV) (h : HW) : yFn Tryz.prog fx261 C lf [a0, a1, a2, a3] h = fs261 C lf a0 a1 a2 a3 h := fnX (K := (fun F h => ff261 (F 8) h)) (by kernel_rfl) (((q261_25_eq C lf ff261 (fun F h => ff261 (F 8) h) (fun _ _ _ => none)) _ h).trans (by kernel_rfl))
noncomputable def fy261 : YX Tryz.prog := Y4 fx261 fs261 fs261_eq (by kernel_rfl)

noncomputable def fx263 : XF Tryz.prog := ⟨263, Tryz.f263, fun _ => .text, Tryz.func263, by kernel_rfl, by kernel_rfl, by kernel_rfl, by kernel_rfl⟩
noncomputable def ff263 (x4 : O) (h : HW) : Rs :=
 ob x4 fun a0 =>
 some (.ret a0, h)
noncomputable def q263_17 (C : YC) (lf : Nat) (r : K1) (x0 x1 : O) (h : HW) : Rs :=
 ob x0 fun a1 =>
 ob x1 fun a2 =>
 bc (C (.fn 292) [a1, a2] h) fun y3 h3 =>
 ob (unE .not y3) fun y4 =>
 yIf y4
 (r (some (.int .i64 2)) h3)
 (ob x0 fun a5 =>
 ob (semNil a5) fun y6 =>
 ob (fa 4 y6) fun y7 =>
 ob (ld1 y7 h3) fun y8 =>
 ob x1 fun a9 =>
 ob (ixS 308 y8 a9) fun y10 =>
 ob (fa 11 y10) fun y11 =>
 ob (ld1 y11 h3) fun y12 =>
 ob (bin Tryz.prog .add 3 y12 (.int .i64 1)) fun y13 =>
 ob (ixS 308 y8 a9) fun y14 =>
 ob (fa 11 y14) fun y15 =>
 ob (st 1 y15 y13 h3) fun h16 =>
 r (some (.int .i64 0)) h16)
theorem q263_17_eq (C : YC) (lf : Nat) (r : K1) (KN : KF) (KE : KX) : ∀ F h, evX fx263 C lf [] F h KN (fun F h => r (F 4) h) KE = q263_17 C lf r (F 0) (F 1) h := by
  intro F h; kernel_rfl
noncomputable def fs263 (C : YC) (lf : Nat) (a0 a1 : SV) (h : HW) : Rs := q263_17 C lf ff263 (some a0) (some a1) h
theorem fs263_eq (C : YC) (lf : Nat) (a0 a1 : SV) (h : HW) : yFn Tryz.prog fx263 C lf [a0, a1] h = fs263 C lf a0 a1 h := fnX (K := (fun F h => ff263 (F 4) h)) (by kernel_rfl) (((q263_17_eq C lf ff263 (fun F h => ff263 (F 4) h) (fun _ _ _ => none)) _ h).trans (by kernel_rfl))
noncomputable def fy263 : YX Tryz.prog := Y2 fx263 fs263 fs263_eq (by kernel_rfl)

noncomputable def fx264 : XF Tryz.prog := ⟨264, Tryz.f264, fun _ => .text, Tryz.func264, by kernel_rfl, by kernel_rfl, by kernel_rfl, by kernel_rfl⟩
noncomputable def ff264 (x4 : O) (h : HW) : Rs :=
 ob x4 fun a0 =>
 some (.ret a0, h)
noncomputable def q264_17 (C : YC) (lf : Nat) (r : K1) (x0 x1 : O) (h : HW) : Rs :=
 ob x0 fun a1 =>
 ob x1 fun a2 =>
 bc (C (.fn 118) [a1, a2] h) fun y3 h3 =>
 ob (ext 0 y3) fun y4 =>
 ob (ext 1 y3) fun y5 =>
 b2 (yAl Tryz.prog 58 h3) fun y6 h6 =>
 ob (st 10 y6 y4 h6) fun h7 =>
 ob (bin Tryz.prog .neq 23 y5 (.int .i64 0)) fun y8 =>
 yIf y8
 (r (some y5) h7)
 (ob (fa 6 y6) fun y9 =>
 ob (ld1 y9 h7) fun y10 =>
 ob (bin Tryz.prog .and 30 y10 (.int .i64 61440)) fun y11 =>
 ob (bin Tryz.prog .eql 30 y11 (.int .i64 16384)) fun y12 =>
 yIf y12
 (r (some (.int .i64 21)) h7)
 (ob (fa 6 y6) fun y13 =>
 ob (ld1 y13 h7) fun y14 =>
 ob (bin Tryz.prog .and 30 y14 (.int .i64 61440)) fun y15 =>
 ob (bin Tryz.prog .eql 30 y15 (.int .i64 40960)) fun y16 =>
 yIf y16
 (r (some (.int .i64 22)) h7)
 (r (some (.int .i64 0)) h7)))
theorem q264_17_eq (C : YC) (lf : Nat) (r : K1) (KN : KF) (KE : KX) : ∀ F h, evX fx264 C lf [] F h KN (fun F h => r (F 4) h) KE = q264_17 C lf r (F 0) (F 1) h := by
  intro F h; kernel_rfl
noncomputable def fs264 (C : YC) (lf : Nat) (a0 a1 : SV) (h : HW) : Rs := q264_17 C lf ff264 (some a0) (some a1) h
theorem fs264_eq (C : YC) (lf : Nat) (a0 a1 : SV) (h : HW) : yFn Tryz.prog fx264 C lf [a0, a1] h = fs264 C lf a0 a1 h := fnX (K := (fun F h => ff264 (F 4) h)) (by kernel_rfl) (((q264_17_eq C lf ff264 (fun F h => ff264 (F 4) h) (fun _ _ _ => none)) _ h).trans (by kernel_rfl))
noncomputable def fy264 : YX Tryz.prog := Y2 fx264 fs264 fs264_eq (by kernel_rfl)

noncomputable def fx265 : XF Tryz.prog := ⟨265, Tryz.f265, fun _ => .text, Tryz.func265, by kernel_rfl, by kernel_rfl, by kernel_rfl, by kernel_rfl⟩
noncomputable def ff265 (x4 : O) (h : HW) : Rs :=
 ob x4 fun a0 =>
 some (.ret a0, h)
noncomputable def q265_16 (C : YC) (lf : Nat) (r : K1) (x0 x1 : O) (h : HW) : Rs :=
 ob x0 fun a1 =>
 ob (semNil a1) fun y2 =>
 ob (fa 0 y2) fun y3 =>
 ob (ld1 y3 h) fun y4 =>
 ob x1 fun a5 =>
 bc (C (.fn 292) [y4, a5] h) fun y6 h6 =>
 ob (unE .not y6) fun y7 =>
 yIf y7
 (r (some (.int .i64 2)) h6)
 (ob x0 fun a8 =>
 ob x1 fun a9 =>
 bc (C (.fn 260) [a8, a9] h6) fun y10 h10 =>
 ob (bin Tryz.prog .eql 30 y10 (.int .i64 16384)) fun y11 =>
 yIf y11
 (r (some (.int .i64 21)) h10)
 (ob x0 fun a12 =>
 ob x1 fun a13 =>
 bc (C (.fn 260) [a12, a13] h10) fun y14 h14 =>
 ob (bin Tryz.prog .neq 30 y14 (.int .i64 32768)) fun y15 =>
 yIf y15
 (r (some (.int .i64 22)) h14)
 (r (some (.int .i64 0)) h14)))
theorem q265_16_eq (C : YC) (lf : Nat) (r : K1) (KN : KF) (KE : KX) : ∀ F h, evX fx265 C lf [] F h KN (fun F h => r (F 4) h) KE = q265_16 C lf r (F 0) (F 1) h := by
  intro F h; kernel_rfl
noncomputable def fs265 (C : YC) (lf : Nat) (a0 a1 : SV) (h : HW) : Rs := q265_16 C lf ff265 (some a0) (some a1) h
theorem fs265_eq (C : YC) (lf : Nat) (a0 a1 : SV) (h : HW) : yFn Tryz.prog fx265 C lf [a0, a1] h = fs265 C lf a0 a1 h := fnX (K := (fun F h => ff265 (F 4) h)) (by kernel_rfl) (((q265_16_eq C lf ff265 (fun F h => ff265 (F 4) h) (fun _ _ _ => none)) _ h).trans (by kernel_rfl))
noncomputable def fy265 : YX Tryz.prog := Y2 fx265 fs265 fs265_eq (by kernel_rfl)

noncomputable def fx266 : XF Tryz.prog := ⟨266, Tryz.f266, fun _ => .text, Tryz.func266, by kernel_rfl, by kernel_rfl, by kernel_rfl, by kernel_rfl⟩
noncomputable def ff266 (x8 x9 : O) (h : HW) : Rs :=
 ob x8 fun a0 =>
 ob x9 fun a1 =>
 some (.ret (.tup [a0, a1]), h)
noncomputable def q266_21 (C : YC) (lf : Nat) (r : K2) (x0 x10 x11 : O) (h : HW) : Rs :=
 ob x10 fun a2 =>
 ob x10 fun a3 =>
 ob x0 fun a4 =>
 ob (semNil a4) fun y5 =>
 ob (fa 3 y5) fun y6 =>
 ob (ld1 y6 h) fun y7 =>
 ob x0 fun a8 =>
 ob (semNil a8) fun y9 =>
 ob (fa 3 y9) fun y10 =>
 ob (ld1 y10 h) fun y11 =>
 ob (semNil a2) fun y12 =>
 ob (fa 1 y12) fun y13 =>
 ob (fa 8 y13) fun y14 =>
 ob (st 1 y14 y7 h) fun h15 =>
 ob (semNil a3) fun y16 =>
 ob (fa 1 y16) fun y17 =>
 ob (fa 9 y17) fun y18 =>
 ob (st 1 y18 y11 h15) fun h19 =>
 ob x11 fun a20 =>
 r (some a20) (some (.int .i64 0)) h19
theorem q266_21_eq (C : YC) (lf : Nat) (r : K2) (KN : KF) (KE : KX) : ∀ F h, evX fx266 C lf [1, 1, 1, 1, 1, 1, 1, 1, 1, 1] F h KN (fun F h => r (F 8) (F 9) h) KE = q266_21 C lf r (F 0) (F 10) (F 11) h := by
  intro F h; kernel_rfl
noncomputable def q266_39 (C : YC) (lf : Nat) (n : K3) (x0 x2 x10 x11 : O) (h : HW) : Rs :=
 ob x2 fun a22 =>
 ob x11 fun a23 =>
 ob (bin Tryz.prog .add 3 a22 a23) fun y24 =>
 ob x10 fun a25 =>
 ob (semNil a25) fun y26 =>
 ob (fa 1 y26) fun y27 =>
 ob (fa 4 y27) fun y28 =>
 ob (ld1 y28 h) fun y29 =>
 ob (bin Tryz.prog .gtr 3 y24 y29) fun y30 =>
 yIf y30
 (ob x10 fun a31 =>
 ob x2 fun a32 =>
 ob x11 fun a33 =>
 ob (bin Tryz.prog .add 3 a32 a33) fun y34 =>
 ob (semNil a31) fun y35 =>
 ob (fa 1 y35) fun y36 =>
 ob (fa 4 y36) fun y37 =>
 ob (st 1 y37 y34 h) fun h38 =>
 n x0 x10 x11 h38)
 (n x0 x10 x11 h)
theorem q266_39_eq (C : YC) (lf : Nat) (n : K3) (KR : KF) (KE : KX) : ∀ F h, evX fx266 C lf [1, 1, 1, 1, 1, 1, 1, 1, 1, 0] F h (fun F h => n (F 0) (F 10) (F 11) h) KR KE = q266_39 C lf n (F 0) (F 2) (F 10) (F 11) h := by
  intro F h; kernel_rfl
noncomputable def q266_40 (C : YC) (lf : Nat) (r : K2) (x0 x2 x10 x11 : O) (h : HW) : Rs :=
 q266_39 C lf (fun x0 x10 x11 h => q266_21 C lf r x0 x10 x11 h) x0 x2 x10 x11 h
theorem q266_40_eq (C : YC) (lf : Nat) (r : K2) (KN : KF) (KE : KX) : ∀ F h, evX fx266 C lf [1, 1, 1, 1, 1, 1, 1, 1, 1] F h KN (fun F h => r (F 8) (F 9) h) KE = q266_40 C lf r (F 0) (F 2) (F 10) (F 11) h := cSeq (a := subX fx266 [1, 1, 1, 1, 1, 1, 1, 1, 1, 0]) (b := subX fx266 [1, 1, 1, 1, 1, 1, 1, 1, 1, 1]) (by kernel_rfl) (B := (fun F h => q266_21 C lf r (F 0) (F 10) (F 11) h)) (q266_21_eq C lf r KN KE) (q266_39_eq C lf (fun x0 x10 x11 h => q266_21 C lf r x0 x10 x11 h) (fun F h => r (F 8) (F 9) h) KE)
noncomputable def q266_43 (C : YC) (lf : Nat) (n : K4) (r : K2) (x0 x2 x10 x11 : O) (h : HW) : Rs :=
 ob x11 fun a41 =>
 ob (bin Tryz.prog .eql 3 a41 (.int .i64 0)) fun y42 =>
 yIf y42
 (r (some (.int .i64 0)) (some (.int .i64 28)) h)
 (n x0 x2 x10 x11 h)
theorem q266_43_eq (C : YC) (lf : Nat) (n : K4) (r : K2) (KE : KX) : ∀ F h, evX fx266 C lf [1, 1, 1, 1, 1, 1, 1, 1, 0] F h (fun F h => n (F 0) (F 2) (F 10) (F 11) h) (fun F h => r (F 8) (F 9) h) KE = q266_43 C lf n r (F 0) (F 2) (F 10) (F 11) h := by
  intro F h; kernel_rfl
noncomputable def q266_44 (C : YC) (lf : Nat) (r : K2) (x0 x2 x10 x11 : O) (h : HW) : Rs :=
 q266_43 C lf (fun x0 x2 x10 x11 h => q266_40 C lf r x0 x2 x10 x11 h) r x0 x2 x10 x11 h
theorem q266_44_eq (C : YC) (lf : Nat) (r : K2) (KN : KF) (KE : KX) : ∀ F h, evX fx266 C lf [1, 1, 1, 1, 1, 1, 1, 1] F h KN (fun F h => r (F 8) (F 9) h) KE = q266_44 C lf r (F 0) (F 2) (F 10) (F 11) h := cSeq (a := subX fx266 [1, 1, 1, 1, 1, 1, 1, 1, 0]) (b := subX fx266 [1, 1, 1, 1, 1, 1, 1, 1, 1]) (by kernel_rfl) (B := (fun F h => q266_40 C lf r (F 0) (F 2) (F 10) (F 11) h)) (q266_40_eq C lf r KN KE) (q266_43_eq C lf (fun x0 x2 x10 x11 h => q266_40 C lf r x0 x2 x10 x11 h) r KE)
noncomputable def q266_96 (C : YC) (lf : Nat) (n : K6) (e0 : K4) (x0 x1 x2 x3 x10 x11 : O) (h : HW) : Rs :=
 ob x11 fun a46 =>
 ob x3 fun a47 =>
 ob (lenE Tryz.prog 31 a47) fun y48 =>
 ob (bin Tryz.prog .lss 3 a46 y48) fun y49 =>
 bc (gd true (some y49) (ob x2 fun a50 =>
 some (.ret a50, h)) h) fun y51 h51 =>
 bc (gd true (some y49) (ob x11 fun a52 =>
 some (.ret a52, h51)) h51) fun y53 h53 =>
 bc (gd true (some y49) (ob (bin Tryz.prog .add 3 y51 y53) fun y54 =>
 some (.ret y54, h53)) h53) fun y55 h55 =>
 bc (gd true (some y49) (ob (bin Tryz.prog .lss 3 y55 (.int .i64 17792)) fun y56 =>
 some (.ret y56, h55)) h55) fun y57 h57 =>
 ob (ypk y49 y57 (.bool false)) fun y58 =>
 yIf y58
 (ob x0 fun a59 =>
 ob x1 fun a60 =>
 ob x2 fun a61 =>
 ob x11 fun a62 =>
 ob (bin Tryz.prog .add 3 a61 a62) fun y63 =>
 ob (bin Tryz.prog .quo 3 y63 (.int .i64 64)) fun y64 =>
 bc (C (.fn 327) [a59, a60, y64] h57) fun y65 h65 =>
 ob (unE .not y65) fun y66 =>
 yIf y66
 (e0 x0 x2 x10 x11 h65)
 (ob x10 fun a67 =>
 ob x2 fun a68 =>
 ob x11 fun a69 =>
 ob (bin Tryz.prog .add 3 a68 a69) fun y70 =>
 ob (bin Tryz.prog .quo 3 y70 (.int .i64 64)) fun y71 =>
 ob (semNil a67) fun y72 =>
 ob (fa 12 y72) fun y73 =>
 ob (ixA 278 1 y73 y71) fun y74 =>
 ob (ld1 y74 h65) fun y75 =>
 ob (bin Tryz.prog .sub 3 y75 (.int .i64 1)) fun y76 =>
 ob x0 fun a77 =>
 ob (semNil a77) fun y78 =>
 ob (fa 0 y78) fun y79 =>
 ob (fa 1 y79) fun y80 =>
 ob (ld1 y80 h65) fun y81 =>
 ob (ixS 1 y81 y76) fun y82 =>
 ob (ld1 y82 h65) fun y83 =>
 ob x2 fun a84 =>
 ob x11 fun a85 =>
 ob (bin Tryz.prog .add 3 a84 a85) fun y86 =>
 ob (bin Tryz.prog .rem 3 y86 (.int .i64 64)) fun y87 =>
 ob x3 fun a88 =>
 ob x11 fun a89 =>
 ob (ixS 1 a88 a89) fun y90 =>
 ob (ld1 y90 h65) fun y91 =>
 ob (ixS 1 y83 y87) fun y92 =>
 ob (st 1 y92 y91 h65) fun h93 =>
 ob x11 fun a94 =>
 ob (bin Tryz.prog .add 3 a94 (.int .i64 1)) fun y95 =>
 n x0 x1 x2 x3 x10 (some y95) h93))
 (e0 x0 x2 x10 x11 h57)
theorem q266_96_eq (C : YC) (lf : Nat) (n : K6) (e0 : K4) (KR : KF) (KE : KX) : ∀ F h, evX fx266 C lf [1, 1, 1, 1, 1, 1, 1, 0, 0, 0] F h (fun F h => n (F 0) (F 1) (F 2) (F 3) (F 10) (F 11) h) KR (bk 0 (fun F h => e0 (F 0) (F 2) (F 10) (F 11) h) KE) = q266_96 C lf n e0 (F 0) (F 1) (F 2) (F 3) (F 10) (F 11) h := by
  intro F h; kernel_rfl
noncomputable def l266_45 (C : YC) (lf : Nat) (e0 : K4) (k : O × O × O × O × O × O → HW → Rs) (s : O × O × O × O × O × O) (h : HW) : Rs :=
 q266_96 C lf (fun x0 x1 x2 x3 x10 x11 h => k (x0, x1, x2, x3, x10, x11) h) e0 s.1 s.2.1 s.2.2.1 s.2.2.2.1 s.2.2.2.2.1 s.2.2.2.2.2 h
noncomputable def q266_97 (C : YC) (lf : Nat) (r : K2) (x0 x1 x2 x3 x10 x11 : O) (h : HW) : Rs :=
 lp (l266_45 C lf (fun x0 x2 x10 x11 h => q266_44 C lf r x0 x2 x10 x11 h)) lf (x0, x1, x2, x3, x10, x11) h
theorem q266_97_eq (C : YC) (lf : Nat) (r : K2) (KN : KF) (KE : KX) : ∀ F h, evX fx266 C lf [1, 1, 1, 1, 1, 1, 1] F h KN (fun F h => r (F 8) (F 9) h) KE = q266_97 C lf r (F 0) (F 1) (F 2) (F 3) (F 10) (F 11) h := cSeq (a := subX fx266 [1, 1, 1, 1, 1, 1, 1, 0]) (b := subX fx266 [1, 1, 1, 1, 1, 1, 1, 1]) (by kernel_rfl) (B := (fun F h => q266_44 C lf r (F 0) (F 2) (F 10) (F 11) h)) (q266_44_eq C lf r KN KE) (cBlock (id := 0) (a := subX fx266 [1, 1, 1, 1, 1, 1, 1, 0, 0]) (by kernel_rfl) (cLoop (a := subX fx266 [1, 1, 1, 1, 1, 1, 1, 0, 0, 0]) (g := fun F => (F 0, F 1, F 2, F 3, F 10, F 11)) (body := l266_45 C lf (fun x0 x2 x10 x11 h => q266_44 C lf r x0 x2 x10 x11 h)) (by kernel_rfl) (fun k => (q266_96_eq C lf (fun x0 x1 x2 x3 x10 x11 h => k (x0, x1, x2, x3, x10, x11) h) (fun x0 x2 x10 x11 h => q266_44 C lf r x0 x2 x10 x11 h) (fun F h => r (F 8) (F 9) h) KE))))
noncomputable def q266_98 (C : YC) (lf : Nat) (n : K6) (x0 x1 x2 x3 x10 : O) (h : HW) : Rs :=
 n x0 x1 x2 x3 x10 (some (.int .i64 0)) h
theorem q266_98_eq (C : YC) (lf : Nat) (n : K6) (KR : KF) (KE : KX) : ∀ F h, evX fx266 C lf [1, 1, 1, 1, 1, 1, 0] F h (fun F h => n (F 0) (F 1) (F 2) (F 3) (F 10) (F 11) h) KR KE = q266_98 C lf n (F 0) (F 1) (F 2) (F 3) (F 10) h := by
  intro F h; kernel_rfl
noncomputable def q266_99 (C : YC) (lf : Nat) (r : K2) (x0 x1 x2 x3 x10 : O) (h : HW) : Rs :=
 q266_98 C lf (fun x0 x1 x2 x3 x10 x11 h => q266_97 C lf r x0 x1 x2 x3 x10 x11 h) x0 x1 x2 x3 x10 h
theorem q266_99_eq (C : YC) (lf : Nat) (r : K2) (KN : KF) (KE : KX) : ∀ F h, evX fx266 C lf [1, 1, 1, 1, 1, 1] F h KN (fun F h => r (F 8) (F 9) h) KE = q266_99 C lf r (F 0) (F 1) (F 2) (F 3) (F 10) h := cSeq (a := subX fx266 [1, 1, 1, 1, 1, 1, 0]) (b := subX fx266 [1, 1, 1, 1, 1, 1, 1]) (by kernel_rfl) (B := (fun F h => q266_97 C lf r (F 0) (F 1) (F 2) (F 3) (F 10) (F 11) h)) (q266_97_eq C lf r KN KE) (q266_98_eq C lf (fun x0 x1 x2 x3 x10 x11 h => q266_97 C lf r x0 x1 x2 x3 x10 x11 h) (fun F h => r (F 8) (F 9) h) KE)
noncomputable def q266_106 (C : YC) (lf : Nat) (n : K5) (x0 x1 x2 x3 : O) (h : HW) : Rs :=
 ob x0 fun a100 =>
 ob (semNil a100) fun y101 =>
 ob (fa 4 y101) fun y102 =>
 ob (ld1 y102 h) fun y103 =>
 ob x1 fun a104 =>
 ob (ixS 308 y103 a104) fun y105 =>
 n x0 x1 x2 x3 (some y105) h
theorem q266_106_eq (C : YC) (lf : Nat) (n : K5) (KR : KF) (KE : KX) : ∀ F h, evX fx266 C lf [1, 1, 1, 1, 1, 0] F h (fun F h => n (F 0) (F 1) (F 2) (F 3) (F 10) h) KR KE = q266_106 C lf n (F 0) (F 1) (F 2) (F 3) h := by
  intro F h; kernel_rfl
noncomputable def q266_107 (C : YC) (lf : Nat) (r : K2) (x0 x1 x2 x3 : O) (h : HW) : Rs :=
 q266_106 C lf (fun x0 x1 x2 x3 x10 h => q266_99 C lf r x0 x1 x2 x3 x10 h) x0 x1 x2 x3 h
theorem q266_107_eq (C : YC) (lf : Nat) (r : K2) (KN : KF) (KE : KX) : ∀ F h, evX fx266 C lf [1, 1, 1, 1, 1] F h KN (fun F h => r (F 8) (F 9) h) KE = q266_107 C lf r (F 0) (F 1) (F 2) (F 3) h := cSeq (a := subX fx266 [1, 1, 1, 1, 1, 0]) (b := subX fx266 [1, 1, 1, 1, 1, 1]) (by kernel_rfl) (B := (fun F h => q266_99 C lf r (F 0) (F 1) (F 2) (F 3) (F 10) h)) (q266_99_eq C lf r KN KE) (q266_106_eq C lf (fun x0 x1 x2 x3 x10 h => q266_99 C lf r x0 x1 x2 x3 x10 h) (fun F h => r (F 8) (F 9) h) KE)
noncomputable def q266_110 (C : YC) (lf : Nat) (n : K4) (r : K2) (x0 x1 x2 x3 : O) (h : HW) : Rs :=
 ob x2 fun a108 =>
 ob (bin Tryz.prog .geq 3 a108 (.int .i64 17792)) fun y109 =>
 yIf y109
 (r (some (.int .i64 0)) (some (.int .i64 27)) h)
 (n x0 x1 x2 x3 h)
theorem q266_110_eq (C : YC) (lf : Nat) (n : K4) (r : K2) (KE : KX) : ∀ F h, evX fx266 C lf [1, 1, 1, 1, 0] F h (fun F h => n (F 0) (F 1) (F 2) (F 3) h) (fun F h => r (F 8) (F 9) h) KE = q266_110 C lf n r (F 0) (F 1) (F 2) (F 3) h := by
  intro F h; kernel_rfl
noncomputable def q266_111 (C : YC) (lf : Nat) (r : K2) (x0 x1 x2 x3 : O) (h : HW) : Rs :=
 q266_110 C lf (fun x0 x1 x2 x3 h => q266_107 C lf r x0 x1 x2 x3 h) r x0 x1 x2 x3 h
theorem q266_111_eq (C : YC) (lf : Nat) (r : K2) (KN : KF) (KE : KX) : ∀ F h, evX fx266 C lf [1, 1, 1, 1] F h KN (fun F h => r (F 8) (F 9) h) KE = q266_111 C lf r (F 0) (F 1) (F 2) (F 3) h := cSeq (a := subX fx266 [1, 1, 1, 1, 0]) (b := subX fx266 [1, 1, 1, 1, 1]) (by kernel_rfl) (B := (fun F h => q266_107 C lf r (F 0) (F 1) (F 2) (F 3) h)) (q266_107_eq C lf r KN KE) (q266_110_eq C lf (fun x0 x1 x2 x3 h => q266_107 C lf r x0 x1 x2 x3 h) r KE)
noncomputable def q266_115 (C : YC) (lf : Nat) (n : K4) (r : K2) (x0 x1 x2 x3 : O) (h : HW) : Rs :=
 ob x3 fun a112 =>
 ob (lenE Tryz.prog 31 a112) fun y113 =>
 ob (bin Tryz.prog .eql 3 y113 (.int .i64 0)) fun y114 =>
 yIf y114
 (r (some (.int .i64 0)) (some (.int .i64 0)) h)
 (n x0 x1 x2 x3 h)
theorem q266_115_eq (C : YC) (lf : Nat) (n : K4) (r : K2) (KE : KX) : ∀ F h, evX fx266 C lf [1, 1, 1, 0] F h (fun F h => n (F 0) (F 1) (F 2) (F 3) h) (fun F h => r (F 8) (F 9) h) KE = q266_115 C lf n r (F 0) (F 1) (F 2) (F 3) h := by
  intro F h; kernel_rfl
noncomputable def q266_116 (C : YC) (lf : Nat) (r : K2) (x0 x1 x2 x3 : O) (h : HW) : Rs :=
 q266_115 C lf (fun x0 x1 x2 x3 h => q266_111 C lf r x0 x1 x2 x3 h) r x0 x1 x2 x3 h
theorem q266_116_eq (C : YC) (lf : Nat) (r : K2) (KN : KF) (KE : KX) : ∀ F h, evX fx266 C lf [1, 1, 1] F h KN (fun F h => r (F 8) (F 9) h) KE = q266_116 C lf r (F 0) (F 1) (F 2) (F 3) h := cSeq (a := subX fx266 [1, 1, 1, 0]) (b := subX fx266 [1, 1, 1, 1]) (by kernel_rfl) (B := (fun F h => q266_111 C lf r (F 0) (F 1) (F 2) (F 3) h)) (q266_111_eq C lf r KN KE) (q266_115_eq C lf (fun x0 x1 x2 x3 h => q266_111 C lf r x0 x1 x2 x3 h) r KE)
noncomputable def q266_119 (C : YC) (lf : Nat) (n : K4) (r : K2) (x0 x1 x2 x3 : O) (h : HW) : Rs :=
 ob x2 fun a117 =>
 ob (bin Tryz.prog .lss 3 a117 (.int .i64 0)) fun y118 =>
 yIf y118
 (r (some (.int .i64 0)) (some (.int .i64 22)) h)
 (n x0 x1 x2 x3 h)
theorem q266_119_eq (C : YC) (lf : Nat) (n : K4) (r : K2) (KE : KX) : ∀ F h, evX fx266 C lf [1, 1, 0] F h (fun F h => n (F 0) (F 1) (F 2) (F 3) h) (fun F h => r (F 8) (F 9) h) KE = q266_119 C lf n r (F 0) (F 1) (F 2) (F 3) h := by
  intro F h; kernel_rfl
noncomputable def q266_120 (C : YC) (lf : Nat) (r : K2) (x0 x1 x2 x3 : O) (h : HW) : Rs :=
 q266_119 C lf (fun x0 x1 x2 x3 h => q266_116 C lf r x0 x1 x2 x3 h) r x0 x1 x2 x3 h
theorem q266_120_eq (C : YC) (lf : Nat) (r : K2) (KN : KF) (KE : KX) : ∀ F h, evX fx266 C lf [1, 1] F h KN (fun F h => r (F 8) (F 9) h) KE = q266_120 C lf r (F 0) (F 1) (F 2) (F 3) h := cSeq (a := subX fx266 [1, 1, 0]) (b := subX fx266 [1, 1, 1]) (by kernel_rfl) (B := (fun F h => q266_116 C lf r (F 0) (F 1) (F 2) (F 3) h)) (q266_116_eq C lf r KN KE) (q266_119_eq C lf (fun x0 x1 x2 x3 h => q266_116 C lf r x0 x1 x2 x3 h) r KE)
noncomputable def q266_125 (C : YC) (lf : Nat) (n : K4) (r : K2) (x0 x1 x2 x3 : O) (h : HW) : Rs :=
 ob x0 fun a121 =>
 ob x1 fun a122 =>
 bc (C (.fn 292) [a121, a122] h) fun y123 h123 =>
 ob (unE .not y123) fun y124 =>
 yIf y124
 (r (some (.int .i64 0)) (some (.int .i64 2)) h123)
 (n x0 x1 x2 x3 h123)
theorem q266_125_eq (C : YC) (lf : Nat) (n : K4) (r : K2) (KE : KX) : ∀ F h, evX fx266 C lf [1, 0] F h (fun F h => n (F 0) (F 1) (F 2) (F 3) h) (fun F h => r (F 8) (F 9) h) KE = q266_125 C lf n r (F 0) (F 1) (F 2) (F 3) h := by
  intro F h; kernel_rfl
noncomputable def q266_126 (C : YC) (lf : Nat) (r : K2) (x0 x1 x2 x3 : O) (h : HW) : Rs :=
 q266_125 C lf (fun x0 x1 x2 x3 h => q266_120 C lf r x0 x1 x2 x3 h) r x0 x1 x2 x3 h
theorem q266_126_eq (C : YC) (lf : Nat) (r : K2) (KN : KF) (KE : KX) : ∀ F h, evX fx266 C lf [1] F h KN (fun F h => r (F 8) (F 9) h) KE = q266_126 C lf r (F 0) (F 1) (F 2) (F 3) h := cSeq (a := subX fx266 [1, 0]) (b := subX fx266 [1, 1]) (by kernel_rfl) (B := (fun F h => q266_120 C lf r (F 0) (F 1) (F 2) (F 3) h)) (q266_120_eq C lf r KN KE) (q266_125_eq C lf (fun x0 x1 x2 x3 h => q266_120 C lf r x0 x1 x2 x3 h) r KE)
noncomputable def q266_127 (C : YC) (lf : Nat) (n : K4) (x0 x1 x2 x3 : O) (h : HW) : Rs :=
 n x0 x1 x2 x3 h
theorem q266_127_eq (C : YC) (lf : Nat) (n : K4) (KR : KF) (KE : KX) : ∀ F h, evX fx266 C lf [0] F h (fun F h => n (F 0) (F 1) (F 2) (F 3) h) KR KE = q266_127 C lf n (F 0) (F 1) (F 2) (F 3) h := by
  intro F h; kernel_rfl
noncomputable def q266_128 (C : YC) (lf : Nat) (r : K2) (x0 x1 x2 x3 : O) (h : HW) : Rs :=
 q266_127 C lf (fun x0 x1 x2 x3 h => q266_126 C lf r x0 x1 x2 x3 h) x0 x1 x2 x3 h
theorem q266_128_eq (C : YC) (lf : Nat) (r : K2) (KN : KF) (KE : KX) : ∀ F h, evX fx266 C lf [] F h KN (fun F h => r (F 8) (F 9) h) KE = q266_128 C lf r (F 0) (F 1) (F 2) (F 3) h := cSeq (a := subX fx266 [0]) (b := subX fx266 [1]) (by kernel_rfl) (B := (fun F h => q266_126 C lf r (F 0) (F 1) (F 2) (F 3) h)) (q266_126_eq C lf r KN KE) (q266_127_eq C lf (fun x0 x1 x2 x3 h => q266_126 C lf r x0 x1 x2 x3 h) (fun F h => r (F 8) (F 9) h) KE)
noncomputable def fs266 (C : YC) (lf : Nat) (a0 a1 a2 a3 : SV) (h : HW) : Rs := q266_128 C lf ff266 (some a0) (some a1) (some a2) (some a3) h
theorem fs266_eq (C : YC) (lf : Nat) (a0 a1 a2 a3 : SV) (h : HW) : yFn Tryz.prog fx266 C lf [a0, a1, a2, a3] h = fs266 C lf a0 a1 a2 a3 h := fnX (K := (fun F h => ff266 (F 8) (F 9) h)) (by kernel_rfl) (((q266_128_eq C lf ff266 (fun F h => ff266 (F 8) (F 9) h) (fun _ _ _ => none)) _ h).trans (by kernel_rfl))
noncomputable def fy266 : YX Tryz.prog := Y4 fx266 fs266 fs266_eq (by kernel_rfl)

noncomputable def fx267 : XF Tryz.prog := ⟨267, Tryz.f267, fun _ => .text, Tryz.func267, by kernel_rfl, by kernel_rfl, by kernel_rfl, by kernel_rfl⟩
noncomputable def ff267 (x4 : O) (h : HW) : Rs :=
 ob x4 fun a0 =>
 some (.ret a0, h)
noncomputable def q267_29 (C : YC) (lf : Nat) (r : K1) (x0 x1 : O) (h : HW) : Rs :=
 ob x0 fun a1 =>
 ob x1 fun a2 =>
 bc (C (.fn 292) [a1, a2] h) fun y3 h3 =>
 ob (unE .not y3) fun y4 =>
 yIf y4
 (r (some (.int .i64 2)) h3)
 (ob x0 fun a5 =>
 ob (semNil a5) fun y6 =>
 ob (fa 4 y6) fun y7 =>
 ob (ld1 y7 h3) fun y8 =>
 ob x1 fun a9 =>
 ob (ixS 308 y8 a9) fun y10 =>
 ob (fa 11 y10) fun y11 =>
 ob (ld1 y11 h3) fun y12 =>
 ob (bin Tryz.prog .eql 3 y12 (.int .i64 0)) fun y13 =>
 yIf y13
 (r (some (.int .i64 22)) h3)
 (ob x0 fun a14 =>
 ob (semNil a14) fun y15 =>
 ob (fa 4 y15) fun y16 =>
 ob (ld1 y16 h3) fun y17 =>
 ob x1 fun a18 =>
 ob (ixS 308 y17 a18) fun y19 =>
 ob (fa 11 y19) fun y20 =>
 ob (ld1 y20 h3) fun y21 =>
 ob (bin Tryz.prog .sub 3 y21 (.int .i64 1)) fun y22 =>
 ob (ixS 308 y17 a18) fun y23 =>
 ob (fa 11 y23) fun y24 =>
 ob (st 1 y24 y22 h3) fun h25 =>
 ob x0 fun a26 =>
 ob x1 fun a27 =>
 bc (C (.fn 294) [a26, a27] h25) fun y28 h28 =>
 r (some (.int .i64 0)) h28))
theorem q267_29_eq (C : YC) (lf : Nat) (r : K1) (KN : KF) (KE : KX) : ∀ F h, evX fx267 C lf [] F h KN (fun F h => r (F 4) h) KE = q267_29 C lf r (F 0) (F 1) h := by
  intro F h; kernel_rfl
noncomputable def fs267 (C : YC) (lf : Nat) (a0 a1 : SV) (h : HW) : Rs := q267_29 C lf ff267 (some a0) (some a1) h
theorem fs267_eq (C : YC) (lf : Nat) (a0 a1 : SV) (h : HW) : yFn Tryz.prog fx267 C lf [a0, a1] h = fs267 C lf a0 a1 h := fnX (K := (fun F h => ff267 (F 4) h)) (by kernel_rfl) (((q267_29_eq C lf ff267 (fun F h => ff267 (F 4) h) (fun _ _ _ => none)) _ h).trans (by kernel_rfl))
noncomputable def fy267 : YX Tryz.prog := Y2 fx267 fs267 fs267_eq (by kernel_rfl)

noncomputable def fx268 : XF Tryz.prog := ⟨268, Tryz.f268, fun _ => .text, Tryz.func268, by kernel_rfl, by kernel_rfl, by kernel_rfl, by kernel_rfl⟩
noncomputable def ff268 (x4 : O) (h : HW) : Rs :=
 ob x4 fun a0 =>
 some (.ret a0, h)
noncomputable def q268_24 (C : YC) (lf : Nat) (r : K1) (x0 x3 : O) (h : HW) : Rs :=
 ob x3 fun a1 =>
 ob (fa 4 a1) fun y2 =>
 ob (ld1 y2 h) fun y3 =>
 ob (bin Tryz.prog .eql 3 y3 (.int .i64 0)) fun y4 =>
 yIf y4
 (r (some (.bool true)) h)
 (ob x0 fun a5 =>
 ob x3 fun a6 =>
 ob (fa 4 a6) fun y7 =>
 ob (ld1 y7 h) fun y8 =>
 bc (C (.fn 328) [a5, y8] h) fun y9 h9 =>
 ob (ext 0 y9) fun y10 =>
 ob (ext 1 y9) fun y11 =>
 b2 (yAl Tryz.prog 58 h9) fun y12 h12 =>
 ob (st 10 y12 y10 h12) fun h13 =>
 ob (bin Tryz.prog .eql 3 y11 (.int .i64 0)) fun y14 =>
 bc (gd true (some y14) (ob (fa 6 y12) fun y15 =>
 some (.ret y15, h13)) h13) fun y16 h16 =>
 bc (gd true (some y14) (ob (ld1 y16 h16) fun y17 =>
 some (.ret y17, h16)) h16) fun y18 h18 =>
 bc (gd true (some y14) (ob (bin Tryz.prog .and 30 y18 (.int .i64 61440)) fun y19 =>
 some (.ret y19, h18)) h18) fun y20 h20 =>
 bc (gd true (some y14) (ob (bin Tryz.prog .eql 30 y20 (.int .i64 16384)) fun y21 =>
 some (.ret y21, h20)) h20) fun y22 h22 =>
 ob (ypk y14 y22 (.bool false)) fun y23 =>
 r (some y23) h22)
theorem q268_24_eq (C : YC) (lf : Nat) (r : K1) (KN : KF) (KE : KX) : ∀ F h, evX fx268 C lf [1, 1, 1] F h KN (fun F h => r (F 4) h) KE = q268_24 C lf r (F 0) (F 3) h := by
  intro F h; kernel_rfl
noncomputable def q268_36 (C : YC) (lf : Nat) (n : K5) (r : K1) (e0 : K2) (x0 x3 x28 x29 x30 : O) (h : HW) : Rs :=
 ob x30 fun a26 =>
 ob x29 fun a27 =>
 ob (bin Tryz.prog .lss 3 a26 a27) fun y28 =>
 yIf y28
 (ob x28 fun a29 =>
 ob x30 fun a30 =>
 ob (ixS 1 a29 a30) fun y31 =>
 ob (ld1 y31 h) fun y32 =>
 ob (bin Tryz.prog .lss 3 y32 (.int .i64 0)) fun y33 =>
 yIf y33
 (r (some (.bool false)) h)
 (ob x30 fun a34 =>
 ob (bin Tryz.prog .add 3 a34 (.int .i64 1)) fun y35 =>
 n x0 x3 x28 x29 (some y35) h))
 (e0 x0 x3 h)
theorem q268_36_eq (C : YC) (lf : Nat) (n : K5) (r : K1) (e0 : K2) (KE : KX) : ∀ F h, evX fx268 C lf [1, 1, 0, 1, 0, 0] F h (fun F h => n (F 0) (F 3) (F 28) (F 29) (F 30) h) (fun F h => r (F 4) h) (bk 0 (fun F h => e0 (F 0) (F 3) h) KE) = q268_36 C lf n r e0 (F 0) (F 3) (F 28) (F 29) (F 30) h := by
  intro F h; kernel_rfl
noncomputable def l268_25 (C : YC) (lf : Nat) (r : K1) (e0 : K2) (k : O × O × O × O × O → HW → Rs) (s : O × O × O × O × O) (h : HW) : Rs :=
 q268_36 C lf (fun x0 x3 x28 x29 x30 h => k (x0, x3, x28, x29, x30) h) r e0 s.1 s.2.1 s.2.2.1 s.2.2.2.1 s.2.2.2.2 h
noncomputable def q268_41 (C : YC) (lf : Nat) (n : K5) (x0 x3 : O) (h : HW) : Rs :=
 ob x3 fun a37 =>
 ob (fa 2 a37) fun y38 =>
 ob (ld1 y38 h) fun y39 =>
 ob (lenE Tryz.prog 44 y39) fun y40 =>
 n x0 x3 (some y39) (some y40) (some (.int .i64 0)) h
theorem q268_41_eq (C : YC) (lf : Nat) (n : K5) (KR : KF) (KE : KX) : ∀ F h, evX fx268 C lf [1, 1, 0, 0] F h (fun F h => n (F 0) (F 3) (F 28) (F 29) (F 30) h) KR KE = q268_41 C lf n (F 0) (F 3) h := by
  intro F h; kernel_rfl
noncomputable def q268_42 (C : YC) (lf : Nat) (n : K2) (r : K1) (x0 x3 : O) (h : HW) : Rs :=
 q268_41 C lf (fun x0 x3 x28 x29 x30 h => lp (l268_25 C lf r n) lf (x0, x3, x28, x29, x30) h) x0 x3 h
theorem q268_42_eq (C : YC) (lf : Nat) (n : K2) (r : K1) (KE : KX) : ∀ F h, evX fx268 C lf [1, 1, 0] F h (fun F h => n (F 0) (F 3) h) (fun F h => r (F 4) h) KE = q268_42 C lf n r (F 0) (F 3) h := cSeq (a := subX fx268 [1, 1, 0, 0]) (b := subX fx268 [1, 1, 0, 1]) (by kernel_rfl) (B := (fun F h => lp (l268_25 C lf r n) lf ((F 0), (F 3), (F 28), (F 29), (F 30)) h)) (cBlock (id := 0) (a := subX fx268 [1, 1, 0, 1, 0]) (by kernel_rfl) (cLoop (a := subX fx268 [1, 1, 0, 1, 0, 0]) (g := fun F => (F 0, F 3, F 28, F 29, F 30)) (body := l268_25 C lf r n) (by kernel_rfl) (fun k => (q268_36_eq C lf (fun x0 x3 x28 x29 x30 h => k (x0, x3, x28, x29, x30) h) r n KE)))) (q268_41_eq C lf (fun x0 x3 x28 x29 x30 h => lp (l268_25 C lf r n) lf (x0, x3, x28, x29, x30) h) (fun F h => r (F 4) h) KE)
noncomputable def q268_43 (C : YC) (lf : Nat) (r : K1) (x0 x3 : O) (h : HW) : Rs :=
 q268_42 C lf (fun x0 x3 h => q268_24 C lf r x0 x3 h) r x0 x3 h
theorem q268_43_eq (C : YC) (lf : Nat) (r : K1) (KN : KF) (KE : KX) : ∀ F h, evX fx268 C lf [1, 1] F h KN (fun F h => r (F 4) h) KE = q268_43 C lf r (F 0) (F 3) h := cSeq (a := subX fx268 [1, 1, 0]) (b := subX fx268 [1, 1, 1]) (by kernel_rfl) (B := (fun F h => q268_24 C lf r (F 0) (F 3) h)) (q268_24_eq C lf r KN KE) (q268_42_eq C lf (fun x0 x3 h => q268_24 C lf r x0 x3 h) r KE)
noncomputable def q268_72 (C : YC) (lf : Nat) (n : K2) (r : K1) (x0 x3 : O) (h : HW) : Rs :=
 ob x3 fun a44 =>
 ob (fa 0 a44) fun y45 =>
 ob (ld1 y45 h) fun y46 =>
 ob (bin Tryz.prog .lss 3 y46 (.int .i64 0)) fun y47 =>
 bc (gd false (some y47) (ob x3 fun a48 =>
 ob (fa 1 a48) fun y49 =>
 some (.ret y49, h)) h) fun y50 h50 =>
 bc (gd false (some y47) (ob (ld1 y50 h50) fun y51 =>
 some (.ret y51, h50)) h50) fun y52 h52 =>
 bc (gd false (some y47) (ob (bin Tryz.prog .lss 3 y52 (.int .i64 0)) fun y53 =>
 some (.ret y53, h52)) h52) fun y54 h54 =>
 ob (ypk y47 (.bool true) y54) fun y55 =>
 bc (gd false (some y55) (ob x3 fun a56 =>
 ob (fa 3 a56) fun y57 =>
 some (.ret y57, h54)) h54) fun y58 h58 =>
 bc (gd false (some y55) (ob (ld1 y58 h58) fun y59 =>
 some (.ret y59, h58)) h58) fun y60 h60 =>
 bc (gd false (some y55) (ob (bin Tryz.prog .lss 3 y60 (.int .i64 0)) fun y61 =>
 some (.ret y61, h60)) h60) fun y62 h62 =>
 ob (ypk y55 (.bool true) y62) fun y63 =>
 bc (gd false (some y63) (ob x3 fun a64 =>
 ob (fa 3 a64) fun y65 =>
 some (.ret y65, h62)) h62) fun y66 h66 =>
 bc (gd false (some y63) (ob (ld1 y66 h66) fun y67 =>
 some (.ret y67, h66)) h66) fun y68 h68 =>
 bc (gd false (some y63) (ob (bin Tryz.prog .gtr 3 y68 (.int .i64 511)) fun y69 =>
 some (.ret y69, h68)) h68) fun y70 h70 =>
 ob (ypk y63 (.bool true) y70) fun y71 =>
 yIf y71
 (r (some (.bool false)) h70)
 (n x0 x3 h70)
theorem q268_72_eq (C : YC) (lf : Nat) (n : K2) (r : K1) (KE : KX) : ∀ F h, evX fx268 C lf [1, 0] F h (fun F h => n (F 0) (F 3) h) (fun F h => r (F 4) h) KE = q268_72 C lf n r (F 0) (F 3) h := by
  intro F h; kernel_rfl
noncomputable def q268_73 (C : YC) (lf : Nat) (r : K1) (x0 x3 : O) (h : HW) : Rs :=
 q268_72 C lf (fun x0 x3 h => q268_43 C lf r x0 x3 h) r x0 x3 h
theorem q268_73_eq (C : YC) (lf : Nat) (r : K1) (KN : KF) (KE : KX) : ∀ F h, evX fx268 C lf [1] F h KN (fun F h => r (F 4) h) KE = q268_73 C lf r (F 0) (F 3) h := cSeq (a := subX fx268 [1, 0]) (b := subX fx268 [1, 1]) (by kernel_rfl) (B := (fun F h => q268_43 C lf r (F 0) (F 3) h)) (q268_43_eq C lf r KN KE) (q268_72_eq C lf (fun x0 x3 h => q268_43 C lf r x0 x3 h) r KE)
noncomputable def q268_76 (C : YC) (lf : Nat) (n : K2) (x0 x1 : O) (h : HW) : Rs :=
 ob x1 fun a74 =>
 b2 (ybx 46 a74 h) fun y75 h75 =>
 n x0 (some y75) h75
theorem q268_76_eq (C : YC) (lf : Nat) (n : K2) (KR : KF) (KE : KX) : ∀ F h, evX fx268 C lf [0] F h (fun F h => n (F 0) (F 3) h) KR KE = q268_76 C lf n (F 0) (F 1) h := by
  intro F h; kernel_rfl
noncomputable def q268_77 (C : YC) (lf : Nat) (r : K1) (x0 x1 : O) (h : HW) : Rs :=
 q268_76 C lf (fun x0 x3 h => q268_73 C lf r x0 x3 h) x0 x1 h
theorem q268_77_eq (C : YC) (lf : Nat) (r : K1) (KN : KF) (KE : KX) : ∀ F h, evX fx268 C lf [] F h KN (fun F h => r (F 4) h) KE = q268_77 C lf r (F 0) (F 1) h := cSeq (a := subX fx268 [0]) (b := subX fx268 [1]) (by kernel_rfl) (B := (fun F h => q268_73 C lf r (F 0) (F 3) h)) (q268_73_eq C lf r KN KE) (q268_76_eq C lf (fun x0 x3 h => q268_73 C lf r x0 x3 h) (fun F h => r (F 4) h) KE)
noncomputable def fs268 (C : YC) (lf : Nat) (a0 a1 : SV) (h : HW) : Rs := q268_77 C lf ff268 (some a0) (some a1) h
theorem fs268_eq (C : YC) (lf : Nat) (a0 a1 : SV) (h : HW) : yFn Tryz.prog fx268 C lf [a0, a1] h = fs268 C lf a0 a1 h := fnX (K := (fun F h => ff268 (F 4) h)) (by kernel_rfl) (((q268_77_eq C lf ff268 (fun F h => ff268 (F 4) h) (fun _ _ _ => none)) _ h).trans (by kernel_rfl))
noncomputable def fy268 : YX Tryz.prog := Y2 fx268 fs268 fs268_eq (by kernel_rfl)

noncomputable def fx269 : XF Tryz.prog := ⟨269, Tryz.f269, fun _ => .text, Tryz.func269, by kernel_rfl, by kernel_rfl, by kernel_rfl, by kernel_rfl⟩
noncomputable def ff269 (x4 : O) (h : HW) : Rs :=
 ob x4 fun a0 =>
 some (.ret a0, h)
noncomputable def q269_7 (C : YC) (lf : Nat) (r : K1) (x0 x1 : O) (h : HW) : Rs :=
 ob x0 fun a1 =>
 ob (semNil a1) fun y2 =>
 ob (fa 0 y2) fun y3 =>
 ob (ld1 y3 h) fun y4 =>
 ob x1 fun a5 =>
 bc (C (.fn 263) [y4, a5] h) fun y6 h6 =>
 r (some y6) h6
theorem q269_7_eq (C : YC) (lf : Nat) (r : K1) (KN : KF) (KE : KX) : ∀ F h, evX fx269 C lf [] F h KN (fun F h => r (F 4) h) KE = q269_7 C lf r (F 0) (F 1) h := by
  intro F h; kernel_rfl
noncomputable def fs269 (C : YC) (lf : Nat) (a0 a1 : SV) (h : HW) : Rs := q269_7 C lf ff269 (some a0) (some a1) h
theorem fs269_eq (C : YC) (lf : Nat) (a0 a1 : SV) (h : HW) : yFn Tryz.prog fx269 C lf [a0, a1] h = fs269 C lf a0 a1 h := fnX (K := (fun F h => ff269 (F 4) h)) (by kernel_rfl) (((q269_7_eq C lf ff269 (fun F h => ff269 (F 4) h) (fun _ _ _ => none)) _ h).trans (by kernel_rfl))
noncomputable def fy269 : YX Tryz.prog := Y2 fx269 fs269 fs269_eq (by kernel_rfl)

noncomputable def fx271 : XF Tryz.prog := ⟨271, Tryz.f271, fun r => bif Nat.beq r 4 then .ord [0, 1, 2, 5, 7, 11, 12, 13, 16, 18, 3, 4, 6, 8, 14, 15, 17, 19, 9, 10, 20, 21, 22] [(10, [19, 17, 15, 14]), (9, [19, 17, 15, 14])] else bif Nat.beq r 12 then .ord [0, 1, 2, 4, 6, 3, 7, 5, 8, 9, 10, 11, 12, 13, 14] [(5, [7, 3]), (8, [3])] else bif Nat.beq r 14 then .ord [0, 1, 2, 3, 4, 6, 5, 7, 8, 9, 10, 11, 12, 14, 17, 18, 19, 21, 13, 20, 15, 16, 22, 23, 24, 25] [(16, [20]), (15, [20])] else bif Nat.beq r 16 then .ord [0, 1, 2, 5, 7, 11, 12, 13, 16, 18, 3, 4, 6, 8, 14, 15, 17, 19, 9, 10, 20, 21, 22] [(10, [19, 17, 15, 14]), (9, [19, 17, 15, 14])] else bif Nat.beq r 18 then .ord [0, 1, 2, 5, 7, 11, 12, 13, 16, 18, 3, 4, 6, 8, 14, 15, 17, 19, 9, 10, 20, 21, 22] [(10, [19, 17, 15, 14]), (9, [19, 17, 15, 14])] else bif Nat.beq r 20 then .ord [0, 1, 2, 5, 7, 11, 12, 13, 16, 18, 3, 4, 6, 8, 14, 15, 17, 19, 9, 10, 20, 21, 22] [(10, [19, 17, 15, 14]), (9, [19, 17, 15, 14])] else bif Nat.beq r 22 then .ord [0, 1, 2, 5, 7, 9, 13, 14, 15, 18, 20, 22, 3, 4, 6, 8, 10, 16, 17, 19, 21, 23, 11, 12, 24, 25, 26] [(12, [23, 21, 19, 17, 16]), (11, [23, 21, 19, 17, 16])] else bif Nat.beq r 23 then .ord [0, 1, 2, 5, 7, 9, 13, 14, 15, 18, 20, 22, 3, 4, 6, 8, 10, 16, 17, 19, 21, 23, 11, 12, 24, 25, 26] [(12, [23, 21, 19, 17, 16]), (11, [23, 21, 19, 17, 16])] else .text, Tryz.func271, by kernel_rfl, by kernel_rfl, by kernel_rfl, by kernel_rfl⟩
noncomputable def ff271 (x4 : O) (h : HW) : Rs :=
 ob x4 fun a0 =>
 some (.ret a0, h)
noncomputable def q271_241 (C : YC) (lf : Nat) (r : K1) (x0 x1 : O) (h : HW) : Rs :=
 ob x1 fun a1 =>
 b2 (ybx 195 a1 h) fun y2 h2 =>
 b2 (yAl Tryz.prog 46 h2) fun y3 h3 =>
 ob (fa 0 y2) fun y4 =>
 ob (ld1 y4 h3) fun y5 =>
 ob (bin Tryz.prog .rem 5 y5 (.int .u8 7)) fun y6 =>
 ob (bin Tryz.prog .eql 5 y6 (.int .u8 0)) fun y7 =>
 yIf y7
 (ob x0 fun a8 =>
 ob (semNil a8) fun y9 =>
 ob (fa 0 y9) fun y10 =>
 ob (fa 1 y2) fun y11 =>
 ob (fa 3 y2) fun y12 =>
 ob x0 fun a13 =>
 ob (semNil a13) fun y14 =>
 ob (fa 1 y14) fun y15 =>
 ob (fa 1 y2) fun y16 =>
 ob (fa 3 y2) fun y17 =>
 ob (ld1 y10 h3) fun y18 =>
 ob (ldN 5 y3 h3) fun y19 =>
 ob (ld1 y11 h3) fun y20 =>
 ob (ld1 y12 h3) fun y21 =>
 ob (ld1 y15 h3) fun y22 =>
 ob (ldN 5 y3 h3) fun y23 =>
 ob (ld1 y16 h3) fun y24 =>
 ob (ld1 y17 h3) fun y25 =>
 bcn (C (.fn 78) [y18, y19, y20, y21] h3) fun y26 h26 =>
 ck (chkH [(19, adrO (some y17)), (17, adrO (some y16)), (15, adrO (some y3)), (14, adrO (some y15)), (8, adrO (some y12)), (6, adrO (some y11)), (4, adrO (some y3)), (3, adrO (some y10))] h3 h26 [19, 17, 15, 14]) <|
 bcn (C (.fn 76) [y26] h26) fun y27 h27 =>
 ck (chkH [(19, adrO (some y17)), (17, adrO (some y16)), (15, adrO (some y3)), (14, adrO (some y15)), (8, adrO (some y12)), (6, adrO (some y11)), (4, adrO (some y3)), (3, adrO (some y10))] h26 h27 [19, 17, 15, 14]) <|
 bcn (C (.fn 230) [y22, y23, y24, y25] h27) fun y28 h28 =>
 ob (bin Tryz.prog .eql 3 y27 y28) fun y29 =>
 r (some y29) h28)
 (ob (bin Tryz.prog .eql 5 y6 (.int .u8 1)) fun y30 =>
 yIf y30
 (ob x0 fun a31 =>
 ob (semNil a31) fun y32 =>
 ob (fa 0 y32) fun y33 =>
 ob (ld1 y33 h3) fun y34 =>
 ob (ldN 5 y3 h3) fun y35 =>
 ob (fa 1 y2) fun y36 =>
 ob (ld1 y36 h3) fun y37 =>
 ob (fa 3 y2) fun y38 =>
 ob (ld1 y38 h3) fun y39 =>
 bcn (C (.fn 105) [y34, y35, y37, (.int .i64 42), y39] h3) fun y40 h40 =>
 ob (ext 0 y40) fun y41 =>
 ob (ext 1 y40) fun y42 =>
 ob x0 fun a43 =>
 ob (semNil a43) fun y44 =>
 ob (fa 1 y44) fun y45 =>
 ob (ld1 y45 h40) fun y46 =>
 ob (ldN 5 y3 h40) fun y47 =>
 ob (fa 1 y2) fun y48 =>
 ob (ld1 y48 h40) fun y49 =>
 ob (fa 3 y2) fun y50 =>
 ob (ld1 y50 h40) fun y51 =>
 bcn (C (.fn 185) [y46, y47, y49, (.int .i64 42), y51] h40) fun y52 h52 =>
 ob (ext 0 y52) fun y53 =>
 ob (ext 1 y52) fun y54 =>
 ob (bin Tryz.prog .neq 3 y41 y53) fun y55 =>
 bc (gd false (some y55) (some (.ret y42, h52)) h52) fun y56 h56 =>
 bc (gd false (some y55) (bc (C (.fn 76) [y56] h56) fun y57 h57 =>
 some (.ret y57, h57)) h56) fun y58 h58 =>
 bc (gd false (some y55) (some (.ret y54, h58)) h58) fun y59 h59 =>
 bc (gd false (some y55) (ob (bin Tryz.prog .neq 3 y58 y59) fun y60 =>
 some (.ret y60, h59)) h59) fun y61 h61 =>
 ob (ypk y55 (.bool true) y61) fun y62 =>
 yIf y62
 (r (some (.bool false)) h61)
 (ob (bin Tryz.prog .neq 3 y54 (.int .i64 0)) fun y63 =>
 yIf y63
 (r (some (.bool true)) h61)
 (ob x0 fun a64 =>
 ob (semNil a64) fun y65 =>
 ob (fa 0 y65) fun y66 =>
 ob (fa 5 y2) fun y67 =>
 ob (ld1 y66 h61) fun y68 =>
 ob (ld1 y67 h61) fun y69 =>
 b2 (ybs Tryz.prog 31 0 [] [] h61) fun y70 h70 =>
 ck (chkH [(7, adrO (some y67)), (3, adrO (some y66))] h61 h70 [7, 3]) <|
 b2 (ybl Tryz.prog .append #[31, 31] [y70, y69] h70) fun y71 h71 =>
 ck (chkH [(7, adrO (some y67)), (3, adrO (some y66))] h70 h71 [3]) <|
 bcn (C (.fn 186) [y68, y41, (.int .i64 0), y71] h71) fun y72 h72 =>
 ob (ext 0 y72) fun y73 =>
 ob (ext 1 y72) fun y74 =>
 ob x0 fun a75 =>
 ob (semNil a75) fun y76 =>
 ob (fa 1 y76) fun y77 =>
 ob (ld1 y77 h72) fun y78 =>
 ob (fa 5 y2) fun y79 =>
 ob (ld1 y79 h72) fun y80 =>
 bcn (C (.fn 187) [y78, y53, (.int .i64 0), y80] h72) fun y81 h81 =>
 ob (ext 0 y81) fun y82 =>
 ob (ext 1 y81) fun y83 =>
 ob (bin Tryz.prog .eql 3 y73 y82) fun y84 =>
 bcn (gd true (some y84) (some (.ret y74, h81)) h81) fun y85 h85 =>
 bcn (gd true (some y84) (some (.ret y83, h85)) h85) fun y86 h86 =>
 bcn (gd true (some y84) (bcn (C (.fn 76) [y85] h86) fun y87 h87 =>
 some (.ret y87, h87)) h86) fun y88 h88 =>
 bcn (gd true (some y84) (ob (bin Tryz.prog .eql 3 y88 y86) fun y89 =>
 some (.ret y89, h88)) h88) fun y90 h90 =>
 ob (ypk y84 y90 (.bool false)) fun y91 =>
 bcn (gd true (some y91) (ob x0 fun a92 =>
 some (.ret a92, h90)) h90) fun y93 h93 =>
 bcn (gd true (some y91) (ob (semNil y93) fun y94 =>
 some (.ret y94, h93)) h93) fun y95 h95 =>
 bcn (gd true (some y91) (ob (fa 0 y95) fun y96 =>
 some (.ret y96, h95)) h95) fun y97 h97 =>
 bcn (gd true (some y91) (some (.ret y41, h97)) h97) fun y98 h98 =>
 bcn (gd true (some y91) (ob x0 fun a99 =>
 some (.ret a99, h98)) h98) fun y100 h100 =>
 bcn (gd true (some y91) (ob (semNil y100) fun y101 =>
 some (.ret y101, h100)) h100) fun y102 h102 =>
 bcn (gd true (some y91) (ob (fa 1 y102) fun y103 =>
 some (.ret y103, h102)) h102) fun y104 h104 =>
 bcn (gd true (some y91) (some (.ret y53, h104)) h104) fun y105 h105 =>
 bcn (gd true (some y91) (ob (ld1 y97 h105) fun y106 =>
 some (.ret y106, h105)) h105) fun y107 h107 =>
 bcn (gd true (some y91) (ob (ld1 y104 h107) fun y108 =>
 some (.ret y108, h107)) h107) fun y109 h109 =>
 bcn (gd true (some y91) (bcn (C (.fn 169) [y107, y98] h109) fun y110 h110 =>
 some (.ret y110, h110)) h109) fun y111 h111 =>
 ck (chkH [(20, gdA true (some y91) (adrO (some y104))), (13, gdA true (some y91) (adrO (some y97)))] h109 h111 [20]) <|
 bcn (gd true (some y91) (bcn (C (.fn 76) [y111] h111) fun y112 h112 =>
 some (.ret y112, h112)) h111) fun y113 h113 =>
 ck (chkH [(20, gdA true (some y91) (adrO (some y104))), (13, gdA true (some y91) (adrO (some y97)))] h111 h113 [20]) <|
 bcn (gd true (some y91) (bcn (C (.fn 188) [y109, y105] h113) fun y114 h114 =>
 some (.ret y114, h114)) h113) fun y115 h115 =>
 bcn (gd true (some y91) (ob (bin Tryz.prog .eql 3 y113 y115) fun y116 =>
 some (.ret y116, h115)) h115) fun y117 h117 =>
 ob (ypk y91 y117 (.bool false)) fun y118 =>
 r (some y118) h117)))
 (ob (bin Tryz.prog .eql 5 y6 (.int .u8 2)) fun y119 =>
 yIf y119
 (ob x0 fun a120 =>
 ob (semNil a120) fun y121 =>
 ob (fa 0 y121) fun y122 =>
 ob (fa 2 y2) fun y123 =>
 ob (fa 1 y2) fun y124 =>
 ob x0 fun a125 =>
 ob (semNil a125) fun y126 =>
 ob (fa 1 y126) fun y127 =>
 ob (fa 2 y2) fun y128 =>
 ob (fa 1 y2) fun y129 =>
 ob (ld1 y122 h3) fun y130 =>
 ob (ldN 5 y3 h3) fun y131 =>
 ob (ld1 y123 h3) fun y132 =>
 ob (ld1 y124 h3) fun y133 =>
 ob (ld1 y127 h3) fun y134 =>
 ob (ldN 5 y3 h3) fun y135 =>
 ob (ld1 y128 h3) fun y136 =>
 ob (ld1 y129 h3) fun y137 =>
 bcn (C (.fn 79) [y130, y131, y132, y133] h3) fun y138 h138 =>
 ck (chkH [(19, adrO (some y129)), (17, adrO (some y128)), (15, adrO (some y3)), (14, adrO (some y127)), (8, adrO (some y124)), (6, adrO (some y123)), (4, adrO (some y3)), (3, adrO (some y122))] h3 h138 [19, 17, 15, 14]) <|
 bcn (C (.fn 76) [y138] h138) fun y139 h139 =>
 ck (chkH [(19, adrO (some y129)), (17, adrO (some y128)), (15, adrO (some y3)), (14, adrO (some y127)), (8, adrO (some y124)), (6, adrO (some y123)), (4, adrO (some y3)), (3, adrO (some y122))] h138 h139 [19, 17, 15, 14]) <|
 bcn (C (.fn 231) [y134, y135, y136, y137] h139) fun y140 h140 =>
 ob (bin Tryz.prog .eql 3 y139 y140) fun y141 =>
 r (some y141) h140)
 (ob (bin Tryz.prog .eql 5 y6 (.int .u8 3)) fun y142 =>
 yIf y142
 (ob x0 fun a143 =>
 ob (semNil a143) fun y144 =>
 ob (fa 0 y144) fun y145 =>
 ob (fa 2 y2) fun y146 =>
 ob (fa 1 y2) fun y147 =>
 ob x0 fun a148 =>
 ob (semNil a148) fun y149 =>
 ob (fa 1 y149) fun y150 =>
 ob (fa 2 y2) fun y151 =>
 ob (fa 1 y2) fun y152 =>
 ob (ld1 y145 h3) fun y153 =>
 ob (ldN 5 y3 h3) fun y154 =>
 ob (ld1 y146 h3) fun y155 =>
 ob (ld1 y147 h3) fun y156 =>
 ob (ld1 y150 h3) fun y157 =>
 ob (ldN 5 y3 h3) fun y158 =>
 ob (ld1 y151 h3) fun y159 =>
 ob (ld1 y152 h3) fun y160 =>
 bcn (C (.fn 232) [y153, y154, y155, y156] h3) fun y161 h161 =>
 ck (chkH [(19, adrO (some y152)), (17, adrO (some y151)), (15, adrO (some y3)), (14, adrO (some y150)), (8, adrO (some y147)), (6, adrO (some y146)), (4, adrO (some y3)), (3, adrO (some y145))] h3 h161 [19, 17, 15, 14]) <|
 bcn (C (.fn 76) [y161] h161) fun y162 h162 =>
 ck (chkH [(19, adrO (some y152)), (17, adrO (some y151)), (15, adrO (some y3)), (14, adrO (some y150)), (8, adrO (some y147)), (6, adrO (some y146)), (4, adrO (some y3)), (3, adrO (some y145))] h161 h162 [19, 17, 15, 14]) <|
 bcn (C (.fn 233) [y157, y158, y159, y160] h162) fun y163 h163 =>
 ob (bin Tryz.prog .eql 3 y162 y163) fun y164 =>
 r (some y164) h163)
 (ob (bin Tryz.prog .eql 5 y6 (.int .u8 4)) fun y165 =>
 yIf y165
 (ob x0 fun a166 =>
 ob (semNil a166) fun y167 =>
 ob (fa 0 y167) fun y168 =>
 ob (fa 1 y2) fun y169 =>
 ob (fa 3 y2) fun y170 =>
 ob x0 fun a171 =>
 ob (semNil a171) fun y172 =>
 ob (fa 1 y172) fun y173 =>
 ob (fa 1 y2) fun y174 =>
 ob (fa 3 y2) fun y175 =>
 ob (ld1 y168 h3) fun y176 =>
 ob (ldN 5 y3 h3) fun y177 =>
 ob (ld1 y169 h3) fun y178 =>
 ob (ld1 y170 h3) fun y179 =>
 ob (ld1 y173 h3) fun y180 =>
 ob (ldN 5 y3 h3) fun y181 =>
 ob (ld1 y174 h3) fun y182 =>
 ob (ld1 y175 h3) fun y183 =>
 bcn (C (.fn 234) [y176, y177, y178, y179] h3) fun y184 h184 =>
 ck (chkH [(19, adrO (some y175)), (17, adrO (some y174)), (15, adrO (some y3)), (14, adrO (some y173)), (8, adrO (some y170)), (6, adrO (some y169)), (4, adrO (some y3)), (3, adrO (some y168))] h3 h184 [19, 17, 15, 14]) <|
 bcn (C (.fn 76) [y184] h184) fun y185 h185 =>
 ck (chkH [(19, adrO (some y175)), (17, adrO (some y174)), (15, adrO (some y3)), (14, adrO (some y173)), (8, adrO (some y170)), (6, adrO (some y169)), (4, adrO (some y3)), (3, adrO (some y168))] h184 h185 [19, 17, 15, 14]) <|
 bcn (C (.fn 235) [y180, y181, y182, y183] h185) fun y186 h186 =>
 ob (bin Tryz.prog .eql 3 y185 y186) fun y187 =>
 r (some y187) h186)
 (ob (bin Tryz.prog .eql 5 y6 (.int .u8 5)) fun y188 =>
 yIf y188
 (ob x0 fun a189 =>
 ob (semNil a189) fun y190 =>
 ob (fa 0 y190) fun y191 =>
 ob (fa 1 y2) fun y192 =>
 ob (fa 4 y2) fun y193 =>
 ob (fa 4 y2) fun y194 =>
 ob x0 fun a195 =>
 ob (semNil a195) fun y196 =>
 ob (fa 1 y196) fun y197 =>
 ob (fa 1 y2) fun y198 =>
 ob (fa 4 y2) fun y199 =>
 ob (fa 4 y2) fun y200 =>
 ob (ld1 y191 h3) fun y201 =>
 ob (ldN 5 y3 h3) fun y202 =>
 ob (ld1 y192 h3) fun y203 =>
 ob (ld1 y193 h3) fun y204 =>
 ob (ld1 y194 h3) fun y205 =>
 ob (ld1 y197 h3) fun y206 =>
 ob (ldN 5 y3 h3) fun y207 =>
 ob (ld1 y198 h3) fun y208 =>
 ob (ld1 y199 h3) fun y209 =>
 ob (ld1 y200 h3) fun y210 =>
 bcn (C (.fn 236) [y201, y202, y203, y204, y205, (.bool false)] h3) fun y211 h211 =>
 ck (chkH [(23, adrO (some y200)), (21, adrO (some y199)), (19, adrO (some y198)), (17, adrO (some y3)), (16, adrO (some y197)), (10, adrO (some y194)), (8, adrO (some y193)), (6, adrO (some y192)), (4, adrO (some y3)), (3, adrO (some y191))] h3 h211 [23, 21, 19, 17, 16]) <|
 bcn (C (.fn 76) [y211] h211) fun y212 h212 =>
 ck (chkH [(23, adrO (some y200)), (21, adrO (some y199)), (19, adrO (some y198)), (17, adrO (some y3)), (16, adrO (some y197)), (10, adrO (some y194)), (8, adrO (some y193)), (6, adrO (some y192)), (4, adrO (some y3)), (3, adrO (some y191))] h211 h212 [23, 21, 19, 17, 16]) <|
 bcn (C (.fn 237) [y206, y207, y208, y209, y210, (.bool false)] h212) fun y213 h213 =>
 ob (bin Tryz.prog .eql 3 y212 y213) fun y214 =>
 r (some y214) h213)
 (ob x0 fun a215 =>
 ob (semNil a215) fun y216 =>
 ob (fa 0 y216) fun y217 =>
 ob (fa 1 y2) fun y218 =>
 ob (fa 4 y2) fun y219 =>
 ob (fa 4 y2) fun y220 =>
 ob x0 fun a221 =>
 ob (semNil a221) fun y222 =>
 ob (fa 1 y222) fun y223 =>
 ob (fa 1 y2) fun y224 =>
 ob (fa 4 y2) fun y225 =>
 ob (fa 4 y2) fun y226 =>
 ob (ld1 y217 h3) fun y227 =>
 ob (ldN 5 y3 h3) fun y228 =>
 ob (ld1 y218 h3) fun y229 =>
 ob (ld1 y219 h3) fun y230 =>
 ob (ld1 y220 h3) fun y231 =>
 ob (ld1 y223 h3) fun y232 =>
 ob (ldN 5 y3 h3) fun y233 =>
 ob (ld1 y224 h3) fun y234 =>
 ob (ld1 y225 h3) fun y235 =>
 ob (ld1 y226 h3) fun y236 =>
 bcn (C (.fn 238) [y227, y228, y229, y230, y231, (.bool false)] h3) fun y237 h237 =>
 ck (chkH [(23, adrO (some y226)), (21, adrO (some y225)), (19, adrO (some y224)), (17, adrO (some y3)), (16, adrO (some y223)), (10, adrO (some y220)), (8, adrO (some y219)), (6, adrO (some y218)), (4, adrO (some y3)), (3, adrO (some y217))] h3 h237 [23, 21, 19, 17, 16]) <|
 bcn (C (.fn 76) [y237] h237) fun y238 h238 =>
 ck (chkH [(23, adrO (some y226)), (21, adrO (some y225)), (19, adrO (some y224)), (17, adrO (some y3)), (16, adrO (some y223)), (10, adrO (some y220)), (8, adrO (some y219)), (6, adrO (some y218)), (4, adrO (some y3)), (3, adrO (some y217))] h237 h238 [23, 21, 19, 17, 16]) <|
 bcn (C (.fn 239) [y232, y233, y234, y235, y236, (.bool false)] h238) fun y239 h239 =>
 ob (bin Tryz.prog .eql 3 y238 y239) fun y240 =>
 r (some y240) h239))))))
theorem q271_241_eq (C : YC) (lf : Nat) (r : K1) (KN : KF) (KE : KX) : ∀ F h, evX fx271 C lf [] F h KN (fun F h => r (F 4) h) KE = q271_241 C lf r (F 0) (F 1) h := by
  intro F h; kernel_rfl
noncomputable def fs271 (C : YC) (lf : Nat) (a0 a1 : SV) (h : HW) : Rs := q271_241 C lf ff271 (some a0) (some a1) h
theorem fs271_eq (C : YC) (lf : Nat) (a0 a1 : SV) (h : HW) : yFn Tryz.prog fx271 C lf [a0, a1] h = fs271 C lf a0 a1 h := fnX (K := (fun F h => ff271 (F 4) h)) (by kernel_rfl) (((q271_241_eq C lf ff271 (fun F h => ff271 (F 4) h) (fun _ _ _ => none)) _ h).trans (by kernel_rfl))
noncomputable def fy271 : YX Tryz.prog := Y2 fx271 fs271 fs271_eq (by kernel_rfl)

noncomputable def fx272 : XF Tryz.prog := ⟨272, Tryz.f272, fun r => bif Nat.beq r 1 then .ord [0, 3, 1, 2, 4, 5, 6, 7, 8] [(1, [3])] else .text, Tryz.func272, by kernel_rfl, by kernel_rfl, by kernel_rfl, by kernel_rfl⟩
noncomputable def ff272 (x2 x3 : O) (h : HW) : Rs :=
 ob x2 fun a0 =>
 ob (ldN 10 a0 h) fun y1 =>
 ob x3 fun a2 =>
 some (.ret (.tup [y1, a2]), h)
noncomputable def q272_14 (C : YC) (lf : Nat) (r : K2) (x0 x1 : O) (h : HW) : Rs :=
 b2 (yAl Tryz.prog 58 h) fun y3 h3 =>
 ob x0 fun a4 =>
 ob (ld1 a4 h3) fun y5 =>
 ob x1 fun a6 =>
 ob (ld1 a6 h3) fun y7 =>
 bcn (C (.fn 89) [y5] h3) fun y8 h8 =>
 ck (chkH [(3, adrO x1), (0, adrO x0)] h3 h8 [3]) <|
 ob (fd1 0 y8) fun y9 =>
 bcn (C (.fn 273) [y9, y7] h8) fun y10 h10 =>
 ob (ext 0 y10) fun y11 =>
 ob (ext 1 y10) fun y12 =>
 ob (st 10 y3 y11 h10) fun h13 =>
 r (some y3) (some y12) h13
theorem q272_14_eq (C : YC) (lf : Nat) (r : K2) (KN : KF) (KE : KX) : ∀ F h, evX fx272 C lf [] F h KN (fun F h => r (F 2) (F 3) h) KE = q272_14 C lf r (F 0) (F 1) h := by
  intro F h; kernel_rfl
noncomputable def fs272 (C : YC) (lf : Nat) (a0 a1 : SV) (h : HW) : Rs := q272_14 C lf ff272 (some a0) (some a1) h
theorem fs272_eq (C : YC) (lf : Nat) (a0 a1 : SV) (h : HW) : yFn Tryz.prog fx272 C lf [a0, a1] h = fs272 C lf a0 a1 h := fnX (K := (fun F h => ff272 (F 2) (F 3) h)) (by kernel_rfl) (((q272_14_eq C lf ff272 (fun F h => ff272 (F 2) (F 3) h) (fun _ _ _ => none)) _ h).trans (by kernel_rfl))
noncomputable def fy272 : YX Tryz.prog := Y2 fx272 fs272 fs272_eq (by kernel_rfl)

noncomputable def fx273 : XF Tryz.prog := ⟨273, Tryz.f273, fun _ => .text, Tryz.func273, by kernel_rfl, by kernel_rfl, by kernel_rfl, by kernel_rfl⟩
noncomputable def ff273 (x4 x5 : O) (h : HW) : Rs :=
 ob x4 fun a0 =>
 ob (ldN 10 a0 h) fun y1 =>
 ob x5 fun a2 =>
 some (.ret (.tup [y1, a2]), h)
noncomputable def q273_10 (C : YC) (lf : Nat) (r : K2) (x0 x1 : O) (h : HW) : Rs :=
 b2 (yAl Tryz.prog 58 h) fun y3 h3 =>
 ob x0 fun a4 =>
 ob x1 fun a5 =>
 bc (C (.fn 108) [a4, a5, (.bool false)] h3) fun y6 h6 =>
 ob (ext 0 y6) fun y7 =>
 ob (ext 1 y6) fun y8 =>
 ob (st 10 y3 y7 h6) fun h9 =>
 r (some y3) (some y8) h9
theorem q273_10_eq (C : YC) (lf : Nat) (r : K2) (KN : KF) (KE : KX) : ∀ F h, evX fx273 C lf [] F h KN (fun F h => r (F 4) (F 5) h) KE = q273_10 C lf r (F 0) (F 1) h := by
  intro F h; kernel_rfl
noncomputable def fs273 (C : YC) (lf : Nat) (a0 a1 : SV) (h : HW) : Rs := q273_10 C lf ff273 (some a0) (some a1) h
theorem fs273_eq (C : YC) (lf : Nat) (a0 a1 : SV) (h : HW) : yFn Tryz.prog fx273 C lf [a0, a1] h = fs273 C lf a0 a1 h := fnX (K := (fun F h => ff273 (F 4) (F 5) h)) (by kernel_rfl) (((q273_10_eq C lf ff273 (fun F h => ff273 (F 4) (F 5) h) (fun _ _ _ => none)) _ h).trans (by kernel_rfl))
noncomputable def fy273 : YX Tryz.prog := Y2 fx273 fs273 fs273_eq (by kernel_rfl)

noncomputable def fx274 : XF Tryz.prog := ⟨274, Tryz.f274, fun _ => .text, Tryz.func274, by kernel_rfl, by kernel_rfl, by kernel_rfl, by kernel_rfl⟩
noncomputable def ff274 (x4 : O) (h : HW) : Rs :=
 ob x4 fun a0 =>
 some (.ret a0, h)
noncomputable def q274_25 (C : YC) (lf : Nat) (r : K1) (x0 x1 : O) (h : HW) : Rs :=
 ob x0 fun a1 =>
 ob (lenE Tryz.prog 9 a1) fun y2 =>
 ob x1 fun a3 =>
 ob (lenE Tryz.prog 9 a3) fun y4 =>
 ob (bin Tryz.prog .geq 3 y2 y4) fun y5 =>
 bc (gd true (some y5) (ob x0 fun a6 =>
 some (.ret a6, h)) h) fun y7 h7 =>
 bc (gd true (some y5) (ob x0 fun a8 =>
 some (.ret a8, h7)) h7) fun y9 h9 =>
 bc (gd true (some y5) (ob (lenE Tryz.prog 9 y9) fun y10 =>
 some (.ret y10, h9)) h9) fun y11 h11 =>
 bc (gd true (some y5) (ob x1 fun a12 =>
 some (.ret a12, h11)) h11) fun y13 h13 =>
 bc (gd true (some y5) (ob (lenE Tryz.prog 9 y13) fun y14 =>
 some (.ret y14, h13)) h13) fun y15 h15 =>
 bc (gd true (some y5) (ob (bin Tryz.prog .sub 3 y11 y15) fun y16 =>
 some (.ret y16, h15)) h15) fun y17 h17 =>
 bc (gd true (some y5) (ob (semSlice Tryz.prog 9 y7 (some y17) none) fun y18 =>
 some (.ret y18, h17)) h17) fun y19 h19 =>
 bc (gd true (some y5) (ob x1 fun a20 =>
 some (.ret a20, h19)) h19) fun y21 h21 =>
 bc (gd true (some y5) (ob (bin Tryz.prog .eql 9 y19 y21) fun y22 =>
 some (.ret y22, h21)) h21) fun y23 h23 =>
 ob (ypk y5 y23 (.bool false)) fun y24 =>
 r (some y24) h23
theorem q274_25_eq (C : YC) (lf : Nat) (r : K1) (KN : KF) (KE : KX) : ∀ F h, evX fx274 C lf [] F h KN (fun F h => r (F 4) h) KE = q274_25 C lf r (F 0) (F 1) h := by
  intro F h; kernel_rfl
noncomputable def fs274 (C : YC) (lf : Nat) (a0 a1 : SV) (h : HW) : Rs := q274_25 C lf ff274 (some a0) (some a1) h
theorem fs274_eq (C : YC) (lf : Nat) (a0 a1 : SV) (h : HW) : yFn Tryz.prog fx274 C lf [a0, a1] h = fs274 C lf a0 a1 h := fnX (K := (fun F h => ff274 (F 4) h)) (by kernel_rfl) (((q274_25_eq C lf ff274 (fun F h => ff274 (F 4) h) (fun _ _ _ => none)) _ h).trans (by kernel_rfl))
noncomputable def fy274 : YX Tryz.prog := Y2 fx274 fs274 fs274_eq (by kernel_rfl)

noncomputable def fx278 : XF Tryz.prog := ⟨278, Tryz.f278, fun _ => .text, Tryz.func278, by kernel_rfl, by kernel_rfl, by kernel_rfl, by kernel_rfl⟩
noncomputable def ff278 (x8 x9 : O) (h : HW) : Rs :=
 ob x8 fun a0 =>
 ob x9 fun a1 =>
 some (.ret (.tup [a0, a1]), h)
noncomputable def q278_3 (C : YC) (lf : Nat) (r : K2) (x13 : O) (h : HW) : Rs :=
 ob x13 fun a2 =>
 r (some a2) (some (.int .i64 0)) h
theorem q278_3_eq (C : YC) (lf : Nat) (r : K2) (KN : KF) (KE : KX) : ∀ F h, evX fx278 C lf [1, 1, 1, 1, 1, 1, 1, 1, 1] F h KN (fun F h => r (F 8) (F 9) h) KE = q278_3 C lf r (F 13) h := by
  intro F h; kernel_rfl
noncomputable def q278_40 (C : YC) (lf : Nat) (n : K5) (e0 : K1) (x0 x2 x10 x12 x13 : O) (h : HW) : Rs :=
 ob x2 fun a5 =>
 ob x12 fun a6 =>
 ob (bin Tryz.prog .lss 3 a5 a6) fun y7 =>
 yIf y7
 (ob x2 fun a8 =>
 ob (bin Tryz.prog .quo 3 a8 (.int .i64 64)) fun y9 =>
 ob x2 fun a10 =>
 ob (bin Tryz.prog .rem 3 a10 (.int .i64 64)) fun y11 =>
 ob (bin Tryz.prog .sub 3 (.int .i64 64) y11) fun y12 =>
 ob x12 fun a13 =>
 ob x2 fun a14 =>
 ob (bin Tryz.prog .sub 3 a13 a14) fun y15 =>
 b2 (ybl Tryz.prog .min #[3, 3] [y12, y15] h) fun y16 h16 =>
 ob x10 fun a17 =>
 bc (C (.fn 219) [a17, y9] h16) fun y18 h18 =>
 ob (semNil y18) fun y19 =>
 ob (ld1 y19 h18) fun y20 =>
 ob (bin Tryz.prog .gtr 3 y20 (.int .i64 0)) fun y21 =>
 yIf y21
 (ob x0 fun a22 =>
 ob (semNil a22) fun y23 =>
 ob (fa 0 y23) fun y24 =>
 ob (ld1 y24 h18) fun y25 =>
 ob (bin Tryz.prog .sub 3 y20 (.int .i64 1)) fun y26 =>
 bc (C (.fn 330) [y25, y26] h18) fun y27 h27 =>
 ob (ext 0 y27) fun y28 =>
 ob (ext 1 y27) fun y29 =>
 ob x13 fun a30 =>
 ob (bin Tryz.prog .add 3 y11 y16) fun y31 =>
 ob (semSlice Tryz.prog 31 y28 (some y11) (some y31)) fun y32 =>
 b2 (ybl Tryz.prog .append #[31, 31] [a30, y32] h27) fun y33 h33 =>
 ob x2 fun a34 =>
 ob (bin Tryz.prog .add 3 a34 y16) fun y35 =>
 n x0 (some y35) x10 x12 (some y33) h33)
 (ob x13 fun a36 =>
 b2 (ybl Tryz.prog .append #[31, 3] [a36, y16] h18) fun y37 h37 =>
 ob x2 fun a38 =>
 ob (bin Tryz.prog .add 3 a38 y16) fun y39 =>
 n x0 (some y39) x10 x12 (some y37) h37))
 (e0 x13 h)
theorem q278_40_eq (C : YC) (lf : Nat) (n : K5) (e0 : K1) (KR : KF) (KE : KX) : ∀ F h, evX fx278 C lf [1, 1, 1, 1, 1, 1, 1, 1, 0, 0, 0] F h (fun F h => n (F 0) (F 2) (F 10) (F 12) (F 13) h) KR (bk 0 (fun F h => e0 (F 13) h) KE) = q278_40 C lf n e0 (F 0) (F 2) (F 10) (F 12) (F 13) h := by
  intro F h; kernel_rfl
noncomputable def l278_4 (C : YC) (lf : Nat) (e0 : K1) (k : O × O × O × O × O → HW → Rs) (s : O × O × O × O × O) (h : HW) : Rs :=
 q278_40 C lf (fun x0 x2 x10 x12 x13 h => k (x0, x2, x10, x12, x13) h) e0 s.1 s.2.1 s.2.2.1 s.2.2.2.1 s.2.2.2.2 h
noncomputable def q278_41 (C : YC) (lf : Nat) (r : K2) (x0 x2 x10 x12 x13 : O) (h : HW) : Rs :=
 lp (l278_4 C lf (fun x13 h => q278_3 C lf r x13 h)) lf (x0, x2, x10, x12, x13) h
theorem q278_41_eq (C : YC) (lf : Nat) (r : K2) (KN : KF) (KE : KX) : ∀ F h, evX fx278 C lf [1, 1, 1, 1, 1, 1, 1, 1] F h KN (fun F h => r (F 8) (F 9) h) KE = q278_41 C lf r (F 0) (F 2) (F 10) (F 12) (F 13) h := cSeq (a := subX fx278 [1, 1, 1, 1, 1, 1, 1, 1, 0]) (b := subX fx278 [1, 1, 1, 1, 1, 1, 1, 1, 1]) (by kernel_rfl) (B := (fun F h => q278_3 C lf r (F 13) h)) (q278_3_eq C lf r KN KE) (cBlock (id := 0) (a := subX fx278 [1, 1, 1, 1, 1, 1, 1, 1, 0, 0]) (by kernel_rfl) (cLoop (a := subX fx278 [1, 1, 1, 1, 1, 1, 1, 1, 0, 0, 0]) (g := fun F => (F 0, F 2, F 10, F 12, F 13)) (body := l278_4 C lf (fun x13 h => q278_3 C lf r x13 h)) (by kernel_rfl) (fun k => (q278_40_eq C lf (fun x0 x2 x10 x12 x13 h => k (x0, x2, x10, x12, x13) h) (fun x13 h => q278_3 C lf r x13 h) (fun F h => r (F 8) (F 9) h) KE))))
noncomputable def q278_46 (C : YC) (lf : Nat) (n : K5) (x0 x2 x10 x12 : O) (h : HW) : Rs :=
 ob x12 fun a42 =>
 ob x2 fun a43 =>
 ob (bin Tryz.prog .sub 3 a42 a43) fun y44 =>
 b2 (ymk Tryz.prog 31 (.int .i64 0) y44 h) fun y45 h45 =>
 n x0 x2 x10 x12 (some y45) h45
theorem q278_46_eq (C : YC) (lf : Nat) (n : K5) (KR : KF) (KE : KX) : ∀ F h, evX fx278 C lf [1, 1, 1, 1, 1, 1, 1, 0] F h (fun F h => n (F 0) (F 2) (F 10) (F 12) (F 13) h) KR KE = q278_46 C lf n (F 0) (F 2) (F 10) (F 12) h := by
  intro F h; kernel_rfl
noncomputable def q278_47 (C : YC) (lf : Nat) (r : K2) (x0 x2 x10 x12 : O) (h : HW) : Rs :=
 q278_46 C lf (fun x0 x2 x10 x12 x13 h => q278_41 C lf r x0 x2 x10 x12 x13 h) x0 x2 x10 x12 h
theorem q278_47_eq (C : YC) (lf : Nat) (r : K2) (KN : KF) (KE : KX) : ∀ F h, evX fx278 C lf [1, 1, 1, 1, 1, 1, 1] F h KN (fun F h => r (F 8) (F 9) h) KE = q278_47 C lf r (F 0) (F 2) (F 10) (F 12) h := cSeq (a := subX fx278 [1, 1, 1, 1, 1, 1, 1, 0]) (b := subX fx278 [1, 1, 1, 1, 1, 1, 1, 1]) (by kernel_rfl) (B := (fun F h => q278_41 C lf r (F 0) (F 2) (F 10) (F 12) (F 13) h)) (q278_41_eq C lf r KN KE) (q278_46_eq C lf (fun x0 x2 x10 x12 x13 h => q278_41 C lf r x0 x2 x10 x12 x13 h) (fun F h => r (F 8) (F 9) h) KE)
noncomputable def q278_56 (C : YC) (lf : Nat) (n : K4) (x0 x2 x3 x10 x12 : O) (h : HW) : Rs :=
 ob x3 fun a48 =>
 ob x12 fun a49 =>
 ob x2 fun a50 =>
 ob (bin Tryz.prog .sub 3 a49 a50) fun y51 =>
 ob (bin Tryz.prog .lss 3 a48 y51) fun y52 =>
 yIf y52
 (ob x2 fun a53 =>
 ob x3 fun a54 =>
 ob (bin Tryz.prog .add 3 a53 a54) fun y55 =>
 n x0 x2 x10 (some y55) h)
 (n x0 x2 x10 x12 h)
theorem q278_56_eq (C : YC) (lf : Nat) (n : K4) (KR : KF) (KE : KX) : ∀ F h, evX fx278 C lf [1, 1, 1, 1, 1, 1, 0] F h (fun F h => n (F 0) (F 2) (F 10) (F 12) h) KR KE = q278_56 C lf n (F 0) (F 2) (F 3) (F 10) (F 12) h := by
  intro F h; kernel_rfl
noncomputable def q278_57 (C : YC) (lf : Nat) (r : K2) (x0 x2 x3 x10 x12 : O) (h : HW) : Rs :=
 q278_56 C lf (fun x0 x2 x10 x12 h => q278_47 C lf r x0 x2 x10 x12 h) x0 x2 x3 x10 x12 h
theorem q278_57_eq (C : YC) (lf : Nat) (r : K2) (KN : KF) (KE : KX) : ∀ F h, evX fx278 C lf [1, 1, 1, 1, 1, 1] F h KN (fun F h => r (F 8) (F 9) h) KE = q278_57 C lf r (F 0) (F 2) (F 3) (F 10) (F 12) h := cSeq (a := subX fx278 [1, 1, 1, 1, 1, 1, 0]) (b := subX fx278 [1, 1, 1, 1, 1, 1, 1]) (by kernel_rfl) (B := (fun F h => q278_47 C lf r (F 0) (F 2) (F 10) (F 12) h)) (q278_47_eq C lf r KN KE) (q278_56_eq C lf (fun x0 x2 x10 x12 h => q278_47 C lf r x0 x2 x10 x12 h) (fun F h => r (F 8) (F 9) h) KE)
noncomputable def q278_63 (C : YC) (lf : Nat) (n : K5) (x0 x2 x3 x10 : O) (h : HW) : Rs :=
 ob x10 fun a58 =>
 ob (semNil a58) fun y59 =>
 ob (fa 1 y59) fun y60 =>
 ob (fa 4 y60) fun y61 =>
 ob (ld1 y61 h) fun y62 =>
 n x0 x2 x3 x10 (some y62) h
theorem q278_63_eq (C : YC) (lf : Nat) (n : K5) (KR : KF) (KE : KX) : ∀ F h, evX fx278 C lf [1, 1, 1, 1, 1, 0] F h (fun F h => n (F 0) (F 2) (F 3) (F 10) (F 12) h) KR KE = q278_63 C lf n (F 0) (F 2) (F 3) (F 10) h := by
  intro F h; kernel_rfl
noncomputable def q278_64 (C : YC) (lf : Nat) (r : K2) (x0 x2 x3 x10 : O) (h : HW) : Rs :=
 q278_63 C lf (fun x0 x2 x3 x10 x12 h => q278_57 C lf r x0 x2 x3 x10 x12 h) x0 x2 x3 x10 h
theorem q278_64_eq (C : YC) (lf : Nat) (r : K2) (KN : KF) (KE : KX) : ∀ F h, evX fx278 C lf [1, 1, 1, 1, 1] F h KN (fun F h => r (F 8) (F 9) h) KE = q278_64 C lf r (F 0) (F 2) (F 3) (F 10) h := cSeq (a := subX fx278 [1, 1, 1, 1, 1, 0]) (b := subX fx278 [1, 1, 1, 1, 1, 1]) (by kernel_rfl) (B := (fun F h => q278_57 C lf r (F 0) (F 2) (F 3) (F 10) (F 12) h)) (q278_57_eq C lf r KN KE) (q278_63_eq C lf (fun x0 x2 x3 x10 x12 h => q278_57 C lf r x0 x2 x3 x10 x12 h) (fun F h => r (F 8) (F 9) h) KE)
noncomputable def q278_72 (C : YC) (lf : Nat) (n : K4) (r : K2) (x0 x2 x3 x10 : O) (h : HW) : Rs :=
 ob x2 fun a65 =>
 ob x10 fun a66 =>
 ob (semNil a66) fun y67 =>
 ob (fa 1 y67) fun y68 =>
 ob (fa 4 y68) fun y69 =>
 ob (ld1 y69 h) fun y70 =>
 ob (bin Tryz.prog .geq 3 a65 y70) fun y71 =>
 yIf y71
 (r (some (.val (.slice none 0 0))) (some (.int .i64 0)) h)
 (n x0 x2 x3 x10 h)
theorem q278_72_eq (C : YC) (lf : Nat) (n : K4) (r : K2) (KE : KX) : ∀ F h, evX fx278 C lf [1, 1, 1, 1, 0] F h (fun F h => n (F 0) (F 2) (F 3) (F 10) h) (fun F h => r (F 8) (F 9) h) KE = q278_72 C lf n r (F 0) (F 2) (F 3) (F 10) h := by
  intro F h; kernel_rfl
noncomputable def q278_73 (C : YC) (lf : Nat) (r : K2) (x0 x2 x3 x10 : O) (h : HW) : Rs :=
 q278_72 C lf (fun x0 x2 x3 x10 h => q278_64 C lf r x0 x2 x3 x10 h) r x0 x2 x3 x10 h
theorem q278_73_eq (C : YC) (lf : Nat) (r : K2) (KN : KF) (KE : KX) : ∀ F h, evX fx278 C lf [1, 1, 1, 1] F h KN (fun F h => r (F 8) (F 9) h) KE = q278_73 C lf r (F 0) (F 2) (F 3) (F 10) h := cSeq (a := subX fx278 [1, 1, 1, 1, 0]) (b := subX fx278 [1, 1, 1, 1, 1]) (by kernel_rfl) (B := (fun F h => q278_64 C lf r (F 0) (F 2) (F 3) (F 10) h)) (q278_64_eq C lf r KN KE) (q278_72_eq C lf (fun x0 x2 x3 x10 h => q278_64 C lf r x0 x2 x3 x10 h) r KE)
noncomputable def q278_81 (C : YC) (lf : Nat) (n : K4) (r : K2) (x0 x2 x3 x10 : O) (h : HW) : Rs :=
 ob x2 fun a74 =>
 ob (bin Tryz.prog .lss 3 a74 (.int .i64 0)) fun y75 =>
 bc (gd false (some y75) (ob x3 fun a76 =>
 some (.ret a76, h)) h) fun y77 h77 =>
 bc (gd false (some y75) (ob (bin Tryz.prog .lss 3 y77 (.int .i64 0)) fun y78 =>
 some (.ret y78, h77)) h77) fun y79 h79 =>
 ob (ypk y75 (.bool true) y79) fun y80 =>
 yIf y80
 (r (some (.val (.slice none 0 0))) (some (.int .i64 22)) h79)
 (n x0 x2 x3 x10 h79)
theorem q278_81_eq (C : YC) (lf : Nat) (n : K4) (r : K2) (KE : KX) : ∀ F h, evX fx278 C lf [1, 1, 1, 0] F h (fun F h => n (F 0) (F 2) (F 3) (F 10) h) (fun F h => r (F 8) (F 9) h) KE = q278_81 C lf n r (F 0) (F 2) (F 3) (F 10) h := by
  intro F h; kernel_rfl
noncomputable def q278_82 (C : YC) (lf : Nat) (r : K2) (x0 x2 x3 x10 : O) (h : HW) : Rs :=
 q278_81 C lf (fun x0 x2 x3 x10 h => q278_73 C lf r x0 x2 x3 x10 h) r x0 x2 x3 x10 h
theorem q278_82_eq (C : YC) (lf : Nat) (r : K2) (KN : KF) (KE : KX) : ∀ F h, evX fx278 C lf [1, 1, 1] F h KN (fun F h => r (F 8) (F 9) h) KE = q278_82 C lf r (F 0) (F 2) (F 3) (F 10) h := cSeq (a := subX fx278 [1, 1, 1, 0]) (b := subX fx278 [1, 1, 1, 1]) (by kernel_rfl) (B := (fun F h => q278_73 C lf r (F 0) (F 2) (F 3) (F 10) h)) (q278_73_eq C lf r KN KE) (q278_81_eq C lf (fun x0 x2 x3 x10 h => q278_73 C lf r x0 x2 x3 x10 h) r KE)
noncomputable def q278_86 (C : YC) (lf : Nat) (n : K4) (r : K2) (x0 x2 x3 x10 x11 : O) (h : HW) : Rs :=
 ob x11 fun a83 =>
 ob (bin Tryz.prog .neq 23 a83 (.int .i64 0)) fun y84 =>
 yIf y84
 (ob x11 fun a85 =>
 r (some (.val (.slice none 0 0))) (some a85) h)
 (n x0 x2 x3 x10 h)
theorem q278_86_eq (C : YC) (lf : Nat) (n : K4) (r : K2) (KE : KX) : ∀ F h, evX fx278 C lf [1, 1, 0] F h (fun F h => n (F 0) (F 2) (F 3) (F 10) h) (fun F h => r (F 8) (F 9) h) KE = q278_86 C lf n r (F 0) (F 2) (F 3) (F 10) (F 11) h := by
  intro F h; kernel_rfl
noncomputable def q278_87 (C : YC) (lf : Nat) (r : K2) (x0 x2 x3 x10 x11 : O) (h : HW) : Rs :=
 q278_86 C lf (fun x0 x2 x3 x10 h => q278_82 C lf r x0 x2 x3 x10 h) r x0 x2 x3 x10 x11 h
theorem q278_87_eq (C : YC) (lf : Nat) (r : K2) (KN : KF) (KE : KX) : ∀ F h, evX fx278 C lf [1, 1] F h KN (fun F h => r (F 8) (F 9) h) KE = q278_87 C lf r (F 0) (F 2) (F 3) (F 10) (F 11) h := cSeq (a := subX fx278 [1, 1, 0]) (b := subX fx278 [1, 1, 1]) (by kernel_rfl) (B := (fun F h => q278_82 C lf r (F 0) (F 2) (F 3) (F 10) h)) (q278_82_eq C lf r KN KE) (q278_86_eq C lf (fun x0 x2 x3 x10 h => q278_82 C lf r x0 x2 x3 x10 h) r KE)
noncomputable def q278_93 (C : YC) (lf : Nat) (n : K5) (x0 x1 x2 x3 : O) (h : HW) : Rs :=
 ob x0 fun a88 =>
 ob x1 fun a89 =>
 bc (C (.fn 206) [a88, a89] h) fun y90 h90 =>
 ob (ext 0 y90) fun y91 =>
 ob (ext 1 y90) fun y92 =>
 n x0 x2 x3 (some y91) (some y92) h90
theorem q278_93_eq (C : YC) (lf : Nat) (n : K5) (KR : KF) (KE : KX) : ∀ F h, evX fx278 C lf [1, 0] F h (fun F h => n (F 0) (F 2) (F 3) (F 10) (F 11) h) KR KE = q278_93 C lf n (F 0) (F 1) (F 2) (F 3) h := by
  intro F h; kernel_rfl
noncomputable def q278_94 (C : YC) (lf : Nat) (r : K2) (x0 x1 x2 x3 : O) (h : HW) : Rs :=
 q278_93 C lf (fun x0 x2 x3 x10 x11 h => q278_87 C lf r x0 x2 x3 x10 x11 h) x0 x1 x2 x3 h
theorem q278_94_eq (C : YC) (lf : Nat) (r : K2) (KN : KF) (KE : KX) : ∀ F h, evX fx278 C lf [1] F h KN (fun F h => r (F 8) (F 9) h) KE = q278_94 C lf r (F 0) (F 1) (F 2) (F 3) h := cSeq (a := subX fx278 [1, 0]) (b := subX fx278 [1, 1]) (by kernel_rfl) (B := (fun F h => q278_87 C lf r (F 0) (F 2) (F 3) (F 10) (F 11) h)) (q278_87_eq C lf r KN KE) (q278_93_eq C lf (fun x0 x2 x3 x10 x11 h => q278_87 C lf r x0 x2 x3 x10 x11 h) (fun F h => r (F 8) (F 9) h) KE)
noncomputable def q278_95 (C : YC) (lf : Nat) (n : K4) (x0 x1 x2 x3 : O) (h : HW) : Rs :=
 n x0 x1 x2 x3 h
theorem q278_95_eq (C : YC) (lf : Nat) (n : K4) (KR : KF) (KE : KX) : ∀ F h, evX fx278 C lf [0] F h (fun F h => n (F 0) (F 1) (F 2) (F 3) h) KR KE = q278_95 C lf n (F 0) (F 1) (F 2) (F 3) h := by
  intro F h; kernel_rfl
noncomputable def q278_96 (C : YC) (lf : Nat) (r : K2) (x0 x1 x2 x3 : O) (h : HW) : Rs :=
 q278_95 C lf (fun x0 x1 x2 x3 h => q278_94 C lf r x0 x1 x2 x3 h) x0 x1 x2 x3 h
theorem q278_96_eq (C : YC) (lf : Nat) (r : K2) (KN : KF) (KE : KX) : ∀ F h, evX fx278 C lf [] F h KN (fun F h => r (F 8) (F 9) h) KE = q278_96 C lf r (F 0) (F 1) (F 2) (F 3) h := cSeq (a := subX fx278 [0]) (b := subX fx278 [1]) (by kernel_rfl) (B := (fun F h => q278_94 C lf r (F 0) (F 1) (F 2) (F 3) h)) (q278_94_eq C lf r KN KE) (q278_95_eq C lf (fun x0 x1 x2 x3 h => q278_94 C lf r x0 x1 x2 x3 h) (fun F h => r (F 8) (F 9) h) KE)
noncomputable def fs278 (C : YC) (lf : Nat) (a0 a1 a2 a3 : SV) (h : HW) : Rs := q278_96 C lf ff278 (some a0) (some a1) (some a2) (some a3) h
theorem fs278_eq (C : YC) (lf : Nat) (a0 a1 a2 a3 : SV) (h : HW) : yFn Tryz.prog fx278 C lf [a0, a1, a2, a3] h = fs278 C lf a0 a1 a2 a3 h := fnX (K := (fun F h => ff278 (F 8) (F 9) h)) (by kernel_rfl) (((q278_96_eq C lf ff278 (fun F h => ff278 (F 8) (F 9) h) (fun _ _ _ => none)) _ h).trans (by kernel_rfl))
noncomputable def fy278 : YX Tryz.prog := Y4 fx278 fs278 fs278_eq (by kernel_rfl)

noncomputable def fx279 : XF Tryz.prog := ⟨279, Tryz.f279, fun _ => .text, Tryz.func279, by kernel_rfl, by kernel_rfl, by kernel_rfl, by kernel_rfl⟩
noncomputable def ff279 (x8 : O) (h : HW) : Rs :=
 ob x8 fun a0 =>
 some (.ret a0, h)
noncomputable def q279_22 (C : YC) (lf : Nat) (r : K1) (x0 x1 x2 x3 : O) (h : HW) : Rs :=
 ob x3 fun a1 =>
 b2 (ybx 292 a1 h) fun y2 h2 =>
 ob x0 fun a3 =>
 ob x1 fun a4 =>
 ob x2 fun a5 =>
 ob (bin Tryz.prog .mul 3 a5 (.int .i64 32)) fun y6 =>
 ob (semSlice Tryz.prog 292 y2 none none) fun y7 =>
 bc (C (.fn 154) [a3, a4, y6, y7] h2) fun y8 h8 =>
 ob (ext 0 y8) fun y9 =>
 ob (ext 1 y8) fun y10 =>
 ob (bin Tryz.prog .eql 23 y10 (.int .i64 27)) fun y11 =>
 bc (gd false (some y11) (some (.ret y10, h8)) h8) fun y12 h12 =>
 bc (gd false (some y11) (ob (bin Tryz.prog .eql 23 y12 (.int .i64 0)) fun y13 =>
 some (.ret y13, h12)) h12) fun y14 h14 =>
 bc (gd false (some y11) (some (.ret y14, h14)) h14) fun y15 h15 =>
 bc (gd true (some y15) (some (.ret y9, h15)) h15) fun y16 h16 =>
 bc (gd true (some y15) (ob (bin Tryz.prog .lss 3 y16 (.int .i64 32)) fun y17 =>
 some (.ret y17, h16)) h16) fun y18 h18 =>
 bc (gd false (some y11) (ob (ypk y15 y18 (.bool false)) fun y19 =>
 some (.ret y19, h18)) h18) fun y20 h20 =>
 ob (ypk y11 (.bool true) y20) fun y21 =>
 yIf y21
 (r (some (.int .i64 28)) h20)
 (r (some y10) h20)
theorem q279_22_eq (C : YC) (lf : Nat) (r : K1) (KN : KF) (KE : KX) : ∀ F h, evX fx279 C lf [] F h KN (fun F h => r (F 8) h) KE = q279_22 C lf r (F 0) (F 1) (F 2) (F 3) h := by
  intro F h; kernel_rfl
noncomputable def fs279 (C : YC) (lf : Nat) (a0 a1 a2 a3 : SV) (h : HW) : Rs := q279_22 C lf ff279 (some a0) (some a1) (some a2) (some a3) h
theorem fs279_eq (C : YC) (lf : Nat) (a0 a1 a2 a3 : SV) (h : HW) : yFn Tryz.prog fx279 C lf [a0, a1, a2, a3] h = fs279 C lf a0 a1 a2 a3 h := fnX (K := (fun F h => ff279 (F 8) h)) (by kernel_rfl) (((q279_22_eq C lf ff279 (fun F h => ff279 (F 8) h) (fun _ _ _ => none)) _ h).trans (by kernel_rfl))
noncomputable def fy279 : YX Tryz.prog := Y4 fx279 fs279 fs279_eq (by kernel_rfl)

noncomputable def fx280 : XF Tryz.prog := ⟨280, Tryz.f280, fun _ => .text, Tryz.func280, by kernel_rfl, by kernel_rfl, by kernel_rfl, by kernel_rfl⟩
noncomputable def ff280 (h : HW) : Rs :=
 some (.ret (.tup []), h)
noncomputable def q280_48 (C : YC) (lf : Nat) (n : K4) (r : K0) (e0 : K0) (x0 x1 x3 x4 : O) (h : HW) : Rs :=
 ob x4 fun a1 =>
 ob x1 fun a2 =>
 ob (ld1 a2 h) fun y3 =>
 ob (lenE Tryz.prog 9 y3) fun y4 =>
 ob (bin Tryz.prog .leq 3 a1 y4) fun y5 =>
 yIf y5
 (ob x4 fun a6 =>
 ob x1 fun a7 =>
 ob (ld1 a7 h) fun y8 =>
 ob (lenE Tryz.prog 9 y8) fun y9 =>
 ob (bin Tryz.prog .lss 3 a6 y9) fun y10 =>
 bc (gd true (some y10) (ob x1 fun a11 =>
 ob (ld1 a11 h) fun y12 =>
 some (.ret y12, h)) h) fun y13 h13 =>
 bc (gd true (some y10) (ob x4 fun a14 =>
 some (.ret a14, h13)) h13) fun y15 h15 =>
 bc (gd true (some y10) (ob (semIndex Tryz.prog 9 y13 y15) fun y16 =>
 some (.ret y16, h15)) h15) fun y17 h17 =>
 bc (gd true (some y10) (ob (bin Tryz.prog .neq 5 y17 (.int .u8 47)) fun y18 =>
 some (.ret y18, h17)) h17) fun y19 h19 =>
 ob (ypk y10 y19 (.bool false)) fun y20 =>
 yIf y20
 (ob x4 fun a21 =>
 ob (bin Tryz.prog .add 3 a21 (.int .i64 1)) fun y22 =>
 n x0 x1 x3 (some y22) h19)
 (ob x4 fun a23 =>
 ob x3 fun a24 =>
 ob (bin Tryz.prog .gtr 3 a23 a24) fun y25 =>
 bc (gd true (some y25) (ob x0 fun a26 =>
 some (.ret a26, h19)) h19) fun y27 h27 =>
 bc (gd true (some y25) (ob x4 fun a28 =>
 some (.ret a28, h27)) h27) fun y29 h29 =>
 bc (gd true (some y25) (ob x1 fun a30 =>
 ob (ld1 a30 h29) fun y31 =>
 some (.ret y31, h29)) h29) fun y32 h32 =>
 bc (gd true (some y25) (ob x3 fun a33 =>
 some (.ret a33, h32)) h32) fun y34 h34 =>
 bc (gd true (some y25) (ob x4 fun a35 =>
 some (.ret a35, h34)) h34) fun y36 h36 =>
 bc (gd true (some y25) (ob (semSlice Tryz.prog 9 y32 (some y34) (some y36)) fun y37 =>
 some (.ret y37, h36)) h36) fun y38 h38 =>
 bc (gd true (some y25) (cv false C y27 [y29, y38] h38 fun y39 h39 =>
 some (.ret y39, h39)) h38) fun y40 h40 =>
 bc (gd true (some y25) (ob (unE .not y40) fun y41 =>
 some (.ret y41, h40)) h40) fun y42 h42 =>
 ob (ypk y25 y42 (.bool false)) fun y43 =>
 yIf y43
 (r h42)
 (ob x4 fun a44 =>
 ob (bin Tryz.prog .add 3 a44 (.int .i64 1)) fun y45 =>
 ob x4 fun a46 =>
 ob (bin Tryz.prog .add 3 a46 (.int .i64 1)) fun y47 =>
 n x0 x1 (some y45) (some y47) h42)))
 (e0 h)
theorem q280_48_eq (C : YC) (lf : Nat) (n : K4) (r : K0) (e0 : K0) (KE : KX) : ∀ F h, evX fx280 C lf [1, 1, 0, 0] F h (fun F h => n (F 0) (F 1) (F 3) (F 4) h) (fun F h => r h) (bk 0 (fun F h => e0 h) KE) = q280_48 C lf n r e0 (F 0) (F 1) (F 3) (F 4) h := by
  intro F h; kernel_rfl
noncomputable def l280_0 (C : YC) (lf : Nat) (r : K0) (e0 : K0) (k : O × O × O × O → HW → Rs) (s : O × O × O × O) (h : HW) : Rs :=
 q280_48 C lf (fun x0 x1 x3 x4 h => k (x0, x1, x3, x4) h) r e0 s.1 s.2.1 s.2.2.1 s.2.2.2 h
noncomputable def q280_49 (C : YC) (lf : Nat) (n : K4) (x0 x1 x3 : O) (h : HW) : Rs :=
 n x0 x1 x3 (some (.int .i64 0)) h
theorem q280_49_eq (C : YC) (lf : Nat) (n : K4) (KR : KF) (KE : KX) : ∀ F h, evX fx280 C lf [1, 0] F h (fun F h => n (F 0) (F 1) (F 3) (F 4) h) KR KE = q280_49 C lf n (F 0) (F 1) (F 3) h := by
  intro F h; kernel_rfl
noncomputable def q280_50 (C : YC) (lf : Nat) (n : K0) (r : K0) (x0 x1 x3 : O) (h : HW) : Rs :=
 q280_49 C lf (fun x0 x1 x3 x4 h => lp (l280_0 C lf r n) lf (x0, x1, x3, x4) h) x0 x1 x3 h
theorem q280_50_eq (C : YC) (lf : Nat) (n : K0) (r : K0) (KE : KX) : ∀ F h, evX fx280 C lf [1] F h (fun F h => n h) (fun F h => r h) KE = q280_50 C lf n r (F 0) (F 1) (F 3) h := cSeq (a := subX fx280 [1, 0]) (b := subX fx280 [1, 1]) (by kernel_rfl) (B := (fun F h => lp (l280_0 C lf r n) lf ((F 0), (F 1), (F 3), (F 4)) h)) (cBlock (id := 0) (a := subX fx280 [1, 1, 0]) (by kernel_rfl) (cLoop (a := subX fx280 [1, 1, 0, 0]) (g := fun F => (F 0, F 1, F 3, F 4)) (body := l280_0 C lf r n) (by kernel_rfl) (fun k => (q280_48_eq C lf (fun x0 x1 x3 x4 h => k (x0, x1, x3, x4) h) r n KE)))) (q280_49_eq C lf (fun x0 x1 x3 x4 h => lp (l280_0 C lf r n) lf (x0, x1, x3, x4) h) (fun F h => r h) KE)
noncomputable def q280_51 (C : YC) (lf : Nat) (n : K3) (x0 x1 : O) (h : HW) : Rs :=
 n x0 x1 (some (.int .i64 0)) h
theorem q280_51_eq (C : YC) (lf : Nat) (n : K3) (KR : KF) (KE : KX) : ∀ F h, evX fx280 C lf [0] F h (fun F h => n (F 0) (F 1) (F 3) h) KR KE = q280_51 C lf n (F 0) (F 1) h := by
  intro F h; kernel_rfl
noncomputable def q280_52 (C : YC) (lf : Nat) (n : K0) (r : K0) (x0 x1 : O) (h : HW) : Rs :=
 q280_51 C lf (fun x0 x1 x3 h => q280_50 C lf n r x0 x1 x3 h) x0 x1 h
theorem q280_52_eq (C : YC) (lf : Nat) (n : K0) (r : K0) (KE : KX) : ∀ F h, evX fx280 C lf [] F h (fun F h => n h) (fun F h => r h) KE = q280_52 C lf n r (F 0) (F 1) h := cSeq (a := subX fx280 [0]) (b := subX fx280 [1]) (by kernel_rfl) (B := (fun F h => q280_50 C lf n r (F 0) (F 1) (F 3) h)) (q280_50_eq C lf n r KE) (q280_51_eq C lf (fun x0 x1 x3 h => q280_50 C lf n r x0 x1 x3 h) (fun F h => r h) KE)
noncomputable def fs280 (C : YC) (lf : Nat) (a0 a1 : SV) (h : HW) : Rs := q280_52 C lf ff280 ff280 (some a0) (some a1) h
theorem fs280_eq (C : YC) (lf : Nat) (a0 a1 : SV) (h : HW) : yFn Tryz.prog fx280 C lf [a0, a1] h = fs280 C lf a0 a1 h := fnX (K := (fun F h => ff280 h)) (by kernel_rfl) (((q280_52_eq C lf ff280 ff280 (fun _ _ _ => none)) _ h).trans (by kernel_rfl))
noncomputable def fy280 : YX Tryz.prog := Y2 fx280 fs280 fs280_eq (by kernel_rfl)

noncomputable def fx281 : XF Tryz.prog := ⟨281, Tryz.f281, fun _ => .text, Tryz.func281, by kernel_rfl, by kernel_rfl, by kernel_rfl, by kernel_rfl⟩
noncomputable def ff281 (x4 : O) (h : HW) : Rs :=
 ob x4 fun a0 =>
 some (.ret a0, h)
noncomputable def q281_4 (C : YC) (lf : Nat) (r : K1) (x0 x1 : O) (h : HW) : Rs :=
 ob x0 fun a1 =>
 ob x1 fun a2 =>
 bc (C (.fn 331) [a1, a2] h) fun y3 h3 =>
 r (some y3) h3
theorem q281_4_eq (C : YC) (lf : Nat) (r : K1) (KN : KF) (KE : KX) : ∀ F h, evX fx281 C lf [] F h KN (fun F h => r (F 4) h) KE = q281_4 C lf r (F 0) (F 1) h := by
  intro F h; kernel_rfl
noncomputable def fs281 (C : YC) (lf : Nat) (a0 a1 : SV) (h : HW) : Rs := q281_4 C lf ff281 (some a0) (some a1) h
theorem fs281_eq (C : YC) (lf : Nat) (a0 a1 : SV) (h : HW) : yFn Tryz.prog fx281 C lf [a0, a1] h = fs281 C lf a0 a1 h := fnX (K := (fun F h => ff281 (F 4) h)) (by kernel_rfl) (((q281_4_eq C lf ff281 (fun F h => ff281 (F 4) h) (fun _ _ _ => none)) _ h).trans (by kernel_rfl))
noncomputable def fy281 : YX Tryz.prog := Y2 fx281 fs281 fs281_eq (by kernel_rfl)

noncomputable def fx284 : XF Tryz.prog := ⟨284, Tryz.f284, fun _ => .text, Tryz.func284, by kernel_rfl, by kernel_rfl, by kernel_rfl, by kernel_rfl⟩
noncomputable def ff284 (x2 x3 : O) (h : HW) : Rs :=
 ob x2 fun a0 =>
 ob x3 fun a1 =>
 some (.ret (.tup [a0, a1]), h)
noncomputable def q284_2 (C : YC) (lf : Nat) (r : K2) (h : HW) : Rs :=
 r (some (.int .i64 0)) (some (.int .i64 28)) h
theorem q284_2_eq (C : YC) (lf : Nat) (r : K2) (KN : KF) (KE : KX) : ∀ F h, evX fx284 C lf [1, 1, 1] F h KN (fun F h => r (F 2) (F 3) h) KE = q284_2 C lf r h := by
  intro F h; kernel_rfl
noncomputable def q284_55 (C : YC) (lf : Nat) (n : K2) (r : K2) (e0 : K0) (x0 x9 : O) (h : HW) : Rs :=
 ob x9 fun a4 =>
 ob (bin Tryz.prog .lss 3 a4 (.int .i64 64)) fun y5 =>
 yIf y5
 (ob x9 fun a6 =>
 ob (bin Tryz.prog .mul 3 a6 (.int .i64 64)) fun y7 =>
 ob x0 fun a8 =>
 ob (semNil a8) fun y9 =>
 ob (fa 1 y9) fun y10 =>
 ob (ixA 64 1 y10 a6) fun y11 =>
 ob (ld1 y11 h) fun y12 =>
 ob (unE .xor y12) fun y13 =>
 bc (C (.fn 332) [y13] h) fun y14 h14 =>
 ob (bin Tryz.prog .add 3 y7 y14) fun y15 =>
 ob x0 fun a16 =>
 ob (semNil a16) fun y17 =>
 ob (fa 1 y17) fun y18 =>
 ob (ixA 64 1 y18 a6) fun y19 =>
 ob (ld1 y19 h14) fun y20 =>
 ob (bin Tryz.prog .eql 372 y20 (.int .u64 18446744073709551615)) fun y21 =>
 bc (gd false (some y21) (some (.ret y15, h14)) h14) fun y22 h22 =>
 bc (gd false (some y21) (ob x0 fun a23 =>
 some (.ret a23, h22)) h22) fun y24 h24 =>
 bc (gd false (some y21) (ob (semNil y24) fun y25 =>
 some (.ret y25, h24)) h24) fun y26 h26 =>
 bc (gd false (some y21) (ob (fa 0 y26) fun y27 =>
 some (.ret y27, h26)) h26) fun y28 h28 =>
 bc (gd false (some y21) (ob (ld1 y28 h28) fun y29 =>
 some (.ret y29, h28)) h28) fun y30 h30 =>
 bc (gd false (some y21) (ob (bin Tryz.prog .geq 3 y22 y30) fun y31 =>
 some (.ret y31, h30)) h30) fun y32 h32 =>
 ob (ypk y21 (.bool true) y32) fun y33 =>
 yIf y33
 (ob x9 fun a34 =>
 ob (bin Tryz.prog .add 3 a34 (.int .i64 1)) fun y35 =>
 n x0 (some y35) h32)
 (ob x0 fun a36 =>
 ob (semNil a36) fun y37 =>
 ob (fa 1 y37) fun y38 =>
 ob (ixA 64 1 y38 a6) fun y39 =>
 ob (ld1 y39 h32) fun y40 =>
 ob (bin Tryz.prog .rem 3 y15 (.int .i64 64)) fun y41 =>
 ob (bin Tryz.prog .shl 372 (.int .u64 1) y41) fun y42 =>
 ob (bin Tryz.prog .or 372 y40 y42) fun y43 =>
 ob (semNil a36) fun y44 =>
 ob (fa 1 y44) fun y45 =>
 ob (ixA 64 1 y45 a6) fun y46 =>
 ob (st 1 y46 y43 h32) fun h47 =>
 ob x0 fun a48 =>
 ob (semNil a48) fun y49 =>
 ob (fa 65 y49) fun y50 =>
 ob (ld1 y50 h47) fun y51 =>
 ob (semBuild Tryz.prog 182 [] []) fun y52 =>
 ob (ixS 64 y51 y15) fun y53 =>
 ob (st 64 y53 y52 h47) fun h54 =>
 r (some y15) (some (.int .i64 0)) h54))
 (e0 h)
theorem q284_55_eq (C : YC) (lf : Nat) (n : K2) (r : K2) (e0 : K0) (KE : KX) : ∀ F h, evX fx284 C lf [1, 1, 0, 1, 0, 0] F h (fun F h => n (F 0) (F 9) h) (fun F h => r (F 2) (F 3) h) (bk 0 (fun F h => e0 h) KE) = q284_55 C lf n r e0 (F 0) (F 9) h := by
  intro F h; kernel_rfl
noncomputable def l284_3 (C : YC) (lf : Nat) (r : K2) (e0 : K0) (k : O × O → HW → Rs) (s : O × O) (h : HW) : Rs :=
 q284_55 C lf (fun x0 x9 h => k (x0, x9) h) r e0 s.1 s.2 h
noncomputable def q284_56 (C : YC) (lf : Nat) (n : K2) (x0 : O) (h : HW) : Rs :=
 n x0 (some (.int .i64 0)) h
theorem q284_56_eq (C : YC) (lf : Nat) (n : K2) (KR : KF) (KE : KX) : ∀ F h, evX fx284 C lf [1, 1, 0, 0] F h (fun F h => n (F 0) (F 9) h) KR KE = q284_56 C lf n (F 0) h := by
  intro F h; kernel_rfl
noncomputable def q284_57 (C : YC) (lf : Nat) (n : K0) (r : K2) (x0 : O) (h : HW) : Rs :=
 q284_56 C lf (fun x0 x9 h => lp (l284_3 C lf r n) lf (x0, x9) h) x0 h
theorem q284_57_eq (C : YC) (lf : Nat) (n : K0) (r : K2) (KE : KX) : ∀ F h, evX fx284 C lf [1, 1, 0] F h (fun F h => n h) (fun F h => r (F 2) (F 3) h) KE = q284_57 C lf n r (F 0) h := cSeq (a := subX fx284 [1, 1, 0, 0]) (b := subX fx284 [1, 1, 0, 1]) (by kernel_rfl) (B := (fun F h => lp (l284_3 C lf r n) lf ((F 0), (F 9)) h)) (cBlock (id := 0) (a := subX fx284 [1, 1, 0, 1, 0]) (by kernel_rfl) (cLoop (a := subX fx284 [1, 1, 0, 1, 0, 0]) (g := fun F => (F 0, F 9)) (body := l284_3 C lf r n) (by kernel_rfl) (fun k => (q284_55_eq C lf (fun x0 x9 h => k (x0, x9) h) r n KE)))) (q284_56_eq C lf (fun x0 x9 h => lp (l284_3 C lf r n) lf (x0, x9) h) (fun F h => r (F 2) (F 3) h) KE)
noncomputable def q284_58 (C : YC) (lf : Nat) (r : K2) (x0 : O) (h : HW) : Rs :=
 q284_57 C lf (fun h => q284_2 C lf r h) r x0 h
theorem q284_58_eq (C : YC) (lf : Nat) (r : K2) (KN : KF) (KE : KX) : ∀ F h, evX fx284 C lf [1, 1] F h KN (fun F h => r (F 2) (F 3) h) KE = q284_58 C lf r (F 0) h := cSeq (a := subX fx284 [1, 1, 0]) (b := subX fx284 [1, 1, 1]) (by kernel_rfl) (B := (fun F h => q284_2 C lf r h)) (q284_2_eq C lf r KN KE) (q284_57_eq C lf (fun h => q284_2 C lf r h) r KE)
noncomputable def q284_62 (C : YC) (lf : Nat) (n : K1) (r : K2) (x0 : O) (h : HW) : Rs :=
 ob x0 fun a59 =>
 bc (C (.fn 285) [a59] h) fun y60 h60 =>
 ob (unE .not y60) fun y61 =>
 yIf y61
 (r (some (.int .i64 0)) (some (.int .i64 14)) h60)
 (n x0 h60)
theorem q284_62_eq (C : YC) (lf : Nat) (n : K1) (r : K2) (KE : KX) : ∀ F h, evX fx284 C lf [1, 0] F h (fun F h => n (F 0) h) (fun F h => r (F 2) (F 3) h) KE = q284_62 C lf n r (F 0) h := by
  intro F h; kernel_rfl
noncomputable def q284_63 (C : YC) (lf : Nat) (r : K2) (x0 : O) (h : HW) : Rs :=
 q284_62 C lf (fun x0 h => q284_58 C lf r x0 h) r x0 h
theorem q284_63_eq (C : YC) (lf : Nat) (r : K2) (KN : KF) (KE : KX) : ∀ F h, evX fx284 C lf [1] F h KN (fun F h => r (F 2) (F 3) h) KE = q284_63 C lf r (F 0) h := cSeq (a := subX fx284 [1, 0]) (b := subX fx284 [1, 1]) (by kernel_rfl) (B := (fun F h => q284_58 C lf r (F 0) h)) (q284_58_eq C lf r KN KE) (q284_62_eq C lf (fun x0 h => q284_58 C lf r x0 h) r KE)
noncomputable def q284_64 (C : YC) (lf : Nat) (n : K1) (x0 : O) (h : HW) : Rs :=
 n x0 h
theorem q284_64_eq (C : YC) (lf : Nat) (n : K1) (KR : KF) (KE : KX) : ∀ F h, evX fx284 C lf [0] F h (fun F h => n (F 0) h) KR KE = q284_64 C lf n (F 0) h := by
  intro F h; kernel_rfl
noncomputable def q284_65 (C : YC) (lf : Nat) (r : K2) (x0 : O) (h : HW) : Rs :=
 q284_64 C lf (fun x0 h => q284_63 C lf r x0 h) x0 h
theorem q284_65_eq (C : YC) (lf : Nat) (r : K2) (KN : KF) (KE : KX) : ∀ F h, evX fx284 C lf [] F h KN (fun F h => r (F 2) (F 3) h) KE = q284_65 C lf r (F 0) h := cSeq (a := subX fx284 [0]) (b := subX fx284 [1]) (by kernel_rfl) (B := (fun F h => q284_63 C lf r (F 0) h)) (q284_63_eq C lf r KN KE) (q284_64_eq C lf (fun x0 h => q284_63 C lf r x0 h) (fun F h => r (F 2) (F 3) h) KE)
noncomputable def fs284 (C : YC) (lf : Nat) (a0 : SV) (h : HW) : Rs := q284_65 C lf ff284 (some a0) h
theorem fs284_eq (C : YC) (lf : Nat) (a0 : SV) (h : HW) : yFn Tryz.prog fx284 C lf [a0] h = fs284 C lf a0 h := fnX (K := (fun F h => ff284 (F 2) (F 3) h)) (by kernel_rfl) (((q284_65_eq C lf ff284 (fun F h => ff284 (F 2) (F 3) h) (fun _ _ _ => none)) _ h).trans (by kernel_rfl))
noncomputable def fy284 : YX Tryz.prog := Y1 fx284 fs284 fs284_eq (by kernel_rfl)

noncomputable def fx285 : XF Tryz.prog := ⟨285, Tryz.f285, fun _ => .text, Tryz.func285, by kernel_rfl, by kernel_rfl, by kernel_rfl, by kernel_rfl⟩
noncomputable def ff285 (x2 : O) (h : HW) : Rs :=
 ob x2 fun a0 =>
 some (.ret a0, h)
noncomputable def q285_14 (C : YC) (lf : Nat) (r : K1) (x0 : O) (h : HW) : Rs :=
 ob x0 fun a1 =>
 ob (bin Tryz.prog .neq 277 a1 (.val (.pointer none))) fun y2 =>
 bc (gd true (some y2) (ob x0 fun a3 =>
 some (.ret a3, h)) h) fun y4 h4 =>
 bc (gd true (some y2) (ob (semNil y4) fun y5 =>
 some (.ret y5, h4)) h4) fun y6 h6 =>
 bc (gd true (some y2) (ob (fa 0 y6) fun y7 =>
 some (.ret y7, h6)) h6) fun y8 h8 =>
 bc (gd true (some y2) (ob (ld1 y8 h8) fun y9 =>
 some (.ret y9, h8)) h8) fun y10 h10 =>
 bc (gd true (some y2) (ob (bin Tryz.prog .gtr 3 y10 (.int .i64 0)) fun y11 =>
 some (.ret y11, h10)) h10) fun y12 h12 =>
 ob (ypk y2 y12 (.bool false)) fun y13 =>
 r (some y13) h12
theorem q285_14_eq (C : YC) (lf : Nat) (r : K1) (KN : KF) (KE : KX) : ∀ F h, evX fx285 C lf [] F h KN (fun F h => r (F 2) h) KE = q285_14 C lf r (F 0) h := by
  intro F h; kernel_rfl
noncomputable def fs285 (C : YC) (lf : Nat) (a0 : SV) (h : HW) : Rs := q285_14 C lf ff285 (some a0) h
theorem fs285_eq (C : YC) (lf : Nat) (a0 : SV) (h : HW) : yFn Tryz.prog fx285 C lf [a0] h = fs285 C lf a0 h := fnX (K := (fun F h => ff285 (F 2) h)) (by kernel_rfl) (((q285_14_eq C lf ff285 (fun F h => ff285 (F 2) h) (fun _ _ _ => none)) _ h).trans (by kernel_rfl))
noncomputable def fy285 : YX Tryz.prog := Y1 fx285 fs285 fs285_eq (by kernel_rfl)

noncomputable def fx286 : XF Tryz.prog := ⟨286, Tryz.f286, fun _ => .text, Tryz.func286, by kernel_rfl, by kernel_rfl, by kernel_rfl, by kernel_rfl⟩
noncomputable def ff286 (x4 : O) (h : HW) : Rs :=
 ob x4 fun a0 =>
 some (.ret a0, h)
noncomputable def q286_46 (C : YC) (lf : Nat) (r : K1) (x0 x1 : O) (h : HW) : Rs :=
 ob x0 fun a1 =>
 bc (C (.fn 285) [a1] h) fun y2 h2 =>
 bc (gd true (some y2) (ob x1 fun a3 =>
 some (.ret a3, h2)) h2) fun y4 h4 =>
 bc (gd true (some y2) (ob (bin Tryz.prog .geq 3 y4 (.int .i64 0)) fun y5 =>
 some (.ret y5, h4)) h4) fun y6 h6 =>
 ob (ypk y2 y6 (.bool false)) fun y7 =>
 bc (gd true (some y7) (ob x1 fun a8 =>
 some (.ret a8, h6)) h6) fun y9 h9 =>
 bc (gd true (some y7) (ob x0 fun a10 =>
 some (.ret a10, h9)) h9) fun y11 h11 =>
 bc (gd true (some y7) (ob (semNil y11) fun y12 =>
 some (.ret y12, h11)) h11) fun y13 h13 =>
 bc (gd true (some y7) (ob (fa 0 y13) fun y14 =>
 some (.ret y14, h13)) h13) fun y15 h15 =>
 bc (gd true (some y7) (ob (ld1 y15 h15) fun y16 =>
 some (.ret y16, h15)) h15) fun y17 h17 =>
 bc (gd true (some y7) (ob (bin Tryz.prog .lss 3 y9 y17) fun y18 =>
 some (.ret y18, h17)) h17) fun y19 h19 =>
 ob (ypk y7 y19 (.bool false)) fun y20 =>
 bc (gd true (some y20) (ob x0 fun a21 =>
 some (.ret a21, h19)) h19) fun y22 h22 =>
 bc (gd true (some y20) (ob x1 fun a23 =>
 some (.ret a23, h22)) h22) fun y24 h24 =>
 bc (gd true (some y20) (ob (bin Tryz.prog .quo 3 y24 (.int .i64 64)) fun y25 =>
 some (.ret y25, h24)) h24) fun y26 h26 =>
 bc (gd true (some y20) (ob (semNil y22) fun y27 =>
 some (.ret y27, h26)) h26) fun y28 h28 =>
 bc (gd true (some y20) (ob (fa 1 y28) fun y29 =>
 some (.ret y29, h28)) h28) fun y30 h30 =>
 bc (gd true (some y20) (ob (ixA 64 1 y30 y26) fun y31 =>
 some (.ret y31, h30)) h30) fun y32 h32 =>
 bc (gd true (some y20) (ob (ld1 y32 h32) fun y33 =>
 some (.ret y33, h32)) h32) fun y34 h34 =>
 bc (gd true (some y20) (ob x1 fun a35 =>
 some (.ret a35, h34)) h34) fun y36 h36 =>
 bc (gd true (some y20) (ob (bin Tryz.prog .rem 3 y36 (.int .i64 64)) fun y37 =>
 some (.ret y37, h36)) h36) fun y38 h38 =>
 bc (gd true (some y20) (ob (bin Tryz.prog .shr 372 y34 y38) fun y39 =>
 some (.ret y39, h38)) h38) fun y40 h40 =>
 bc (gd true (some y20) (ob (bin Tryz.prog .and 372 y40 (.int .u64 1)) fun y41 =>
 some (.ret y41, h40)) h40) fun y42 h42 =>
 bc (gd true (some y20) (ob (bin Tryz.prog .eql 372 y42 (.int .u64 1)) fun y43 =>
 some (.ret y43, h42)) h42) fun y44 h44 =>
 ob (ypk y20 y44 (.bool false)) fun y45 =>
 r (some y45) h44
theorem q286_46_eq (C : YC) (lf : Nat) (r : K1) (KN : KF) (KE : KX) : ∀ F h, evX fx286 C lf [] F h KN (fun F h => r (F 4) h) KE = q286_46 C lf r (F 0) (F 1) h := by
  intro F h; kernel_rfl
noncomputable def fs286 (C : YC) (lf : Nat) (a0 a1 : SV) (h : HW) : Rs := q286_46 C lf ff286 (some a0) (some a1) h
theorem fs286_eq (C : YC) (lf : Nat) (a0 a1 : SV) (h : HW) : yFn Tryz.prog fx286 C lf [a0, a1] h = fs286 C lf a0 a1 h := fnX (K := (fun F h => ff286 (F 4) h)) (by kernel_rfl) (((q286_46_eq C lf ff286 (fun F h => ff286 (F 4) h) (fun _ _ _ => none)) _ h).trans (by kernel_rfl))
noncomputable def fy286 : YX Tryz.prog := Y2 fx286 fs286 fs286_eq (by kernel_rfl)

noncomputable def fx289 : XF Tryz.prog := ⟨289, Tryz.f289, fun r => bif Nat.beq r 1 then .news [0, 2, 1, 3, 4, 5] [1, 3] [] else .text, Tryz.func289, by kernel_rfl, by kernel_rfl, by kernel_rfl, by kernel_rfl⟩
noncomputable def ff289 (x2 : O) (h : HW) : Rs :=
 ob x2 fun a0 =>
 ob (ldN 2 a0 h) fun y1 =>
 some (.ret y1, h)
noncomputable def q289_10 (C : YC) (lf : Nat) (r : K1) (x0 : O) (h : HW) : Rs :=
 b2 (yAl Tryz.prog 387 h) fun y2 h2 =>
 nwB [1, 3] 6 h2 fun b3 h3 =>
 ob x0 fun a4 =>
 ob x0 fun a5 =>
 ck (lowV b3 a4 && lowV b3 a4) <|
 b2 (ynf (ymk Tryz.prog 106 a4 a4) b3 1 h3) fun y6 h6 =>
 ck (lowV b3 a5 && lowV b3 a5) <|
 b2 (ynf (ymk Tryz.prog 385 a5 a5) b3 3 h6) fun y7 h7 =>
 ob (semBuild Tryz.prog 387 [0, 1] [y6, y7]) fun y8 =>
 ob (st 2 y2 y8 h7) fun h9 =>
 r (some y2) h9
theorem q289_10_eq (C : YC) (lf : Nat) (r : K1) (KN : KF) (KE : KX) : ∀ F h, evX fx289 C lf [] F h KN (fun F h => r (F 2) h) KE = q289_10 C lf r (F 0) h := by
  intro F h; kernel_rfl
noncomputable def fs289 (C : YC) (lf : Nat) (a0 : SV) (h : HW) : Rs := q289_10 C lf ff289 (some a0) h
theorem fs289_eq (C : YC) (lf : Nat) (a0 : SV) (h : HW) : yFn Tryz.prog fx289 C lf [a0] h = fs289 C lf a0 h := fnX (K := (fun F h => ff289 (F 2) h)) (by kernel_rfl) (((q289_10_eq C lf ff289 (fun F h => ff289 (F 2) h) (fun _ _ _ => none)) _ h).trans (by kernel_rfl))
noncomputable def fy289 : YX Tryz.prog := Y1 fx289 fs289 fs289_eq (by kernel_rfl)

noncomputable def fx290 : XF Tryz.prog := ⟨290, Tryz.f290, fun _ => .text, Tryz.func290, by kernel_rfl, by kernel_rfl, by kernel_rfl, by kernel_rfl⟩
noncomputable def ff290 (x2 : O) (h : HW) : Rs :=
 ob x2 fun a0 =>
 some (.ret a0, h)
noncomputable def q290_3 (C : YC) (lf : Nat) (r : K1) (x0 : O) (h : HW) : Rs :=
 ob x0 fun a1 =>
 ob (bin Tryz.prog .and 30 a1 (.int .i64 61440)) fun y2 =>
 r (some y2) h
theorem q290_3_eq (C : YC) (lf : Nat) (r : K1) (KN : KF) (KE : KX) : ∀ F h, evX fx290 C lf [] F h KN (fun F h => r (F 2) h) KE = q290_3 C lf r (F 0) h := by
  intro F h; kernel_rfl
noncomputable def fs290 (C : YC) (lf : Nat) (a0 : SV) (h : HW) : Rs := q290_3 C lf ff290 (some a0) h
theorem fs290_eq (C : YC) (lf : Nat) (a0 : SV) (h : HW) : yFn Tryz.prog fx290 C lf [a0] h = fs290 C lf a0 h := fnX (K := (fun F h => ff290 (F 2) h)) (by kernel_rfl) (((q290_3_eq C lf ff290 (fun F h => ff290 (F 2) h) (fun _ _ _ => none)) _ h).trans (by kernel_rfl))
noncomputable def fy290 : YX Tryz.prog := Y1 fx290 fs290 fs290_eq (by kernel_rfl)

end Go.Proofs.YtoglpmfmnknlaaaGreatDoor.Eva
