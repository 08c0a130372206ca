/- Texts of functions of the program. -/
import Derived.Test.YtoglpmfmnknlaaaGreatDoorCards
import Derived.Test.YtoglpmfmnknlaaaGreatDoorXeYh
namespace Go.Proofs.YtoglpmfmnknlaaaGreatDoor.Eva
open Go.Xe
set_option maxRecDepth 100000
set_option linter.unusedVariables false
noncomputable def fx291 : XF Tryz.prog := ⟨291, Tryz.f291, fun _ => .text, Tryz.func291, by kernel_rfl, by kernel_rfl, by kernel_rfl, by kernel_rfl⟩
noncomputable def ff291 (x4 : O) (h : HW) : Rs :=
 ob x4 fun a0 =>
 some (.ret a0, h)
noncomputable def q291_16 (C : YC) (lf : Nat) (r : K1) (x0 x1 : O) (h : HW) : Rs :=
 ob x0 fun a1 =>
 ob x1 fun a2 =>
 bc (C (.fn 292) [a1, a2] h) fun y3 h3 =>
 ob (unE .not y3) fun y4 =>
 yIf y4
 (r (some (.int .i64 2)) h3)
 (ob x0 fun a5 =>
 ob (semNil a5) fun y6 =>
 ob (fa 4 y6) fun y7 =>
 ob (ld1 y7 h3) fun y8 =>
 ob x1 fun a9 =>
 ob (ixS 308 y8 a9) fun y10 =>
 ob (fa 1 y10) fun y11 =>
 ob (fa 6 y11) fun y12 =>
 ob (ld1 y12 h3) fun y13 =>
 ob (bin Tryz.prog .and 30 y13 (.int .i64 61440)) fun y14 =>
 ob (bin Tryz.prog .neq 30 y14 (.int .i64 16384)) fun y15 =>
 yIf y15
 (r (some (.int .i64 20)) h3)
 (r (some (.int .i64 0)) h3))
theorem q291_16_eq (C : YC) (lf : Nat) (r : K1) (KN : KF) (KE : KX) : ∀ F h, evX fx291 C lf [] F h KN (fun F h => r (F 4) h) KE = q291_16 C lf r (F 0) (F 1) h := by
  intro F h; kernel_rfl
noncomputable def fs291 (C : YC) (lf : Nat) (a0 a1 : SV) (h : HW) : Rs := q291_16 C lf ff291 (some a0) (some a1) h
theorem fs291_eq (C : YC) (lf : Nat) (a0 a1 : SV) (h : HW) : yFn Tryz.prog fx291 C lf [a0, a1] h = fs291 C lf a0 a1 h := fnX (K := (fun F h => ff291 (F 4) h)) (by kernel_rfl) (((q291_16_eq C lf ff291 (fun F h => ff291 (F 4) h) (fun _ _ _ => none)) _ h).trans (by kernel_rfl))
noncomputable def fy291 : YX Tryz.prog := Y2 fx291 fs291 fs291_eq (by kernel_rfl)

noncomputable def fx292 : XF Tryz.prog := ⟨292, Tryz.f292, fun _ => .text, Tryz.func292, by kernel_rfl, by kernel_rfl, by kernel_rfl, by kernel_rfl⟩
noncomputable def ff292 (x4 : O) (h : HW) : Rs :=
 ob x4 fun a0 =>
 some (.ret a0, h)
noncomputable def q292_33 (C : YC) (lf : Nat) (r : K1) (x0 x1 : O) (h : HW) : Rs :=
 ob x1 fun a1 =>
 ob (bin Tryz.prog .gtr 3 a1 (.int .i64 0)) fun y2 =>
 bc (gd true (some y2) (ob x1 fun a3 =>
 some (.ret a3, h)) h) fun y4 h4 =>
 bc (gd true (some y2) (ob x0 fun a5 =>
 some (.ret a5, h4)) h4) fun y6 h6 =>
 bc (gd true (some y2) (ob (semNil y6) fun y7 =>
 some (.ret y7, h6)) h6) fun y8 h8 =>
 bc (gd true (some y2) (ob (fa 2 y8) fun y9 =>
 some (.ret y9, h8)) h8) fun y10 h10 =>
 bc (gd true (some y2) (ob (ld1 y10 h10) fun y11 =>
 some (.ret y11, h10)) h10) fun y12 h12 =>
 bc (gd true (some y2) (ob (bin Tryz.prog .leq 3 y4 y12) fun y13 =>
 some (.ret y13, h12)) h12) fun y14 h14 =>
 ob (ypk y2 y14 (.bool false)) fun y15 =>
 bc (gd true (some y15) (ob x0 fun a16 =>
 some (.ret a16, h14)) h14) fun y17 h17 =>
 bc (gd true (some y15) (ob (semNil y17) fun y18 =>
 some (.ret y18, h17)) h17) fun y19 h19 =>
 bc (gd true (some y15) (ob (fa 4 y19) fun y20 =>
 some (.ret y20, h19)) h19) fun y21 h21 =>
 bc (gd true (some y15) (ob (ld1 y21 h21) fun y22 =>
 some (.ret y22, h21)) h21) fun y23 h23 =>
 bc (gd true (some y15) (ob x1 fun a24 =>
 some (.ret a24, h23)) h23) fun y25 h25 =>
 bc (gd true (some y15) (ob (ixS 308 y23 y25) fun y26 =>
 some (.ret y26, h25)) h25) fun y27 h27 =>
 bc (gd true (some y15) (ob (fa 0 y27) fun y28 =>
 some (.ret y28, h27)) h27) fun y29 h29 =>
 bc (gd true (some y15) (ob (ld1 y29 h29) fun y30 =>
 some (.ret y30, h29)) h29) fun y31 h31 =>
 ob (ypk y15 y31 (.bool false)) fun y32 =>
 r (some y32) h31
theorem q292_33_eq (C : YC) (lf : Nat) (r : K1) (KN : KF) (KE : KX) : ∀ F h, evX fx292 C lf [] F h KN (fun F h => r (F 4) h) KE = q292_33 C lf r (F 0) (F 1) h := by
  intro F h; kernel_rfl
noncomputable def fs292 (C : YC) (lf : Nat) (a0 a1 : SV) (h : HW) : Rs := q292_33 C lf ff292 (some a0) (some a1) h
theorem fs292_eq (C : YC) (lf : Nat) (a0 a1 : SV) (h : HW) : yFn Tryz.prog fx292 C lf [a0, a1] h = fs292 C lf a0 a1 h := fnX (K := (fun F h => ff292 (F 4) h)) (by kernel_rfl) (((q292_33_eq C lf ff292 (fun F h => ff292 (F 4) h) (fun _ _ _ => none)) _ h).trans (by kernel_rfl))
noncomputable def fy292 : YX Tryz.prog := Y2 fx292 fs292 fs292_eq (by kernel_rfl)

noncomputable def fx293 : XF Tryz.prog := ⟨293, Tryz.f293, fun _ => .text, Tryz.func293, by kernel_rfl, by kernel_rfl, by kernel_rfl, by kernel_rfl⟩
noncomputable def ff293 (x4 : O) (h : HW) : Rs :=
 ob x4 fun a0 =>
 some (.ret a0, h)
noncomputable def q293_6 (C : YC) (lf : Nat) (r : K1) (x1 x5 : O) (h : HW) : Rs :=
 ob x5 fun a1 =>
 ob (semSlice Tryz.prog 31 a1 (some (.int .i64 4)) none) fun y2 =>
 ob x1 fun a3 =>
 b2 (ybl Tryz.prog .copy #[31, 9] [y2, a3] h) fun y4 h4 =>
 ob x5 fun a5 =>
 r (some a5) h4
theorem q293_6_eq (C : YC) (lf : Nat) (r : K1) (KN : KF) (KE : KX) : ∀ F h, evX fx293 C lf [1, 1, 1] F h KN (fun F h => r (F 4) h) KE = q293_6 C lf r (F 1) (F 5) h := by
  intro F h; kernel_rfl
noncomputable def q293_20 (C : YC) (lf : Nat) (n : K4) (e0 : K2) (x0 x1 x5 x8 : O) (h : HW) : Rs :=
 ob x8 fun a8 =>
 ob (bin Tryz.prog .lss 3 a8 (.int .i64 4)) fun y9 =>
 yIf y9
 (ob x8 fun a10 =>
 ob x5 fun a11 =>
 ob x0 fun a12 =>
 ob (bin Tryz.prog .mul 3 (.int .i64 8) a10) fun y13 =>
 ob (bin Tryz.prog .shr 3 a12 y13) fun y14 =>
 ob (cvI .u8 y14) fun y15 =>
 ob (ixS 1 a11 a10) fun y16 =>
 ob (st 1 y16 y15 h) fun h17 =>
 ob x8 fun a18 =>
 ob (bin Tryz.prog .add 3 a18 (.int .i64 1)) fun y19 =>
 n x0 x1 x5 (some y19) h17)
 (e0 x1 x5 h)
theorem q293_20_eq (C : YC) (lf : Nat) (n : K4) (e0 : K2) (KR : KF) (KE : KX) : ∀ F h, evX fx293 C lf [1, 1, 0, 1, 0, 0] F h (fun F h => n (F 0) (F 1) (F 5) (F 8) h) KR (bk 0 (fun F h => e0 (F 1) (F 5) h) KE) = q293_20 C lf n e0 (F 0) (F 1) (F 5) (F 8) h := by
  intro F h; kernel_rfl
noncomputable def l293_7 (C : YC) (lf : Nat) (e0 : K2) (k : O × O × O × O → HW → Rs) (s : O × O × O × O) (h : HW) : Rs :=
 q293_20 C lf (fun x0 x1 x5 x8 h => k (x0, x1, x5, x8) h) e0 s.1 s.2.1 s.2.2.1 s.2.2.2 h
noncomputable def q293_21 (C : YC) (lf : Nat) (n : K4) (x0 x1 x5 : O) (h : HW) : Rs :=
 n x0 x1 x5 (some (.int .i64 0)) h
theorem q293_21_eq (C : YC) (lf : Nat) (n : K4) (KR : KF) (KE : KX) : ∀ F h, evX fx293 C lf [1, 1, 0, 0] F h (fun F h => n (F 0) (F 1) (F 5) (F 8) h) KR KE = q293_21 C lf n (F 0) (F 1) (F 5) h := by
  intro F h; kernel_rfl
noncomputable def q293_22 (C : YC) (lf : Nat) (n : K2) (x0 x1 x5 : O) (h : HW) : Rs :=
 q293_21 C lf (fun x0 x1 x5 x8 h => lp (l293_7 C lf n) lf (x0, x1, x5, x8) h) x0 x1 x5 h
theorem q293_22_eq (C : YC) (lf : Nat) (n : K2) (KR : KF) (KE : KX) : ∀ F h, evX fx293 C lf [1, 1, 0] F h (fun F h => n (F 1) (F 5) h) KR KE = q293_22 C lf n (F 0) (F 1) (F 5) h := cSeq (a := subX fx293 [1, 1, 0, 0]) (b := subX fx293 [1, 1, 0, 1]) (by kernel_rfl) (B := (fun F h => lp (l293_7 C lf n) lf ((F 0), (F 1), (F 5), (F 8)) h)) (cBlock (id := 0) (a := subX fx293 [1, 1, 0, 1, 0]) (by kernel_rfl) (cLoop (a := subX fx293 [1, 1, 0, 1, 0, 0]) (g := fun F => (F 0, F 1, F 5, F 8)) (body := l293_7 C lf n) (by kernel_rfl) (fun k => (q293_20_eq C lf (fun x0 x1 x5 x8 h => k (x0, x1, x5, x8) h) n KR KE)))) (q293_21_eq C lf (fun x0 x1 x5 x8 h => lp (l293_7 C lf n) lf (x0, x1, x5, x8) h) KR KE)
noncomputable def q293_23 (C : YC) (lf : Nat) (r : K1) (x0 x1 x5 : O) (h : HW) : Rs :=
 q293_22 C lf (fun x1 x5 h => q293_6 C lf r x1 x5 h) x0 x1 x5 h
theorem q293_23_eq (C : YC) (lf : Nat) (r : K1) (KN : KF) (KE : KX) : ∀ F h, evX fx293 C lf [1, 1] F h KN (fun F h => r (F 4) h) KE = q293_23 C lf r (F 0) (F 1) (F 5) h := cSeq (a := subX fx293 [1, 1, 0]) (b := subX fx293 [1, 1, 1]) (by kernel_rfl) (B := (fun F h => q293_6 C lf r (F 1) (F 5) h)) (q293_6_eq C lf r KN KE) (q293_22_eq C lf (fun x1 x5 h => q293_6 C lf r x1 x5 h) (fun F h => r (F 4) h) KE)
noncomputable def q293_25 (C : YC) (lf : Nat) (n : K3) (x0 x1 : O) (h : HW) : Rs :=
 b2 (ymk Tryz.prog 31 (.int .i64 32) (.int .i64 32) h) fun y24 h24 =>
 n x0 x1 (some y24) h24
theorem q293_25_eq (C : YC) (lf : Nat) (n : K3) (KR : KF) (KE : KX) : ∀ F h, evX fx293 C lf [1, 0] F h (fun F h => n (F 0) (F 1) (F 5) h) KR KE = q293_25 C lf n (F 0) (F 1) h := by
  intro F h; kernel_rfl
noncomputable def q293_26 (C : YC) (lf : Nat) (r : K1) (x0 x1 : O) (h : HW) : Rs :=
 q293_25 C lf (fun x0 x1 x5 h => q293_23 C lf r x0 x1 x5 h) x0 x1 h
theorem q293_26_eq (C : YC) (lf : Nat) (r : K1) (KN : KF) (KE : KX) : ∀ F h, evX fx293 C lf [1] F h KN (fun F h => r (F 4) h) KE = q293_26 C lf r (F 0) (F 1) h := cSeq (a := subX fx293 [1, 0]) (b := subX fx293 [1, 1]) (by kernel_rfl) (B := (fun F h => q293_23 C lf r (F 0) (F 1) (F 5) h)) (q293_23_eq C lf r KN KE) (q293_25_eq C lf (fun x0 x1 x5 h => q293_23 C lf r x0 x1 x5 h) (fun F h => r (F 4) h) KE)
noncomputable def q293_27 (C : YC) (lf : Nat) (n : K2) (x0 x1 : O) (h : HW) : Rs :=
 n x0 x1 h
theorem q293_27_eq (C : YC) (lf : Nat) (n : K2) (KR : KF) (KE : KX) : ∀ F h, evX fx293 C lf [0] F h (fun F h => n (F 0) (F 1) h) KR KE = q293_27 C lf n (F 0) (F 1) h := by
  intro F h; kernel_rfl
noncomputable def q293_28 (C : YC) (lf : Nat) (r : K1) (x0 x1 : O) (h : HW) : Rs :=
 q293_27 C lf (fun x0 x1 h => q293_26 C lf r x0 x1 h) x0 x1 h
theorem q293_28_eq (C : YC) (lf : Nat) (r : K1) (KN : KF) (KE : KX) : ∀ F h, evX fx293 C lf [] F h KN (fun F h => r (F 4) h) KE = q293_28 C lf r (F 0) (F 1) h := cSeq (a := subX fx293 [0]) (b := subX fx293 [1]) (by kernel_rfl) (B := (fun F h => q293_26 C lf r (F 0) (F 1) h)) (q293_26_eq C lf r KN KE) (q293_27_eq C lf (fun x0 x1 h => q293_26 C lf r x0 x1 h) (fun F h => r (F 4) h) KE)
noncomputable def fs293 (C : YC) (lf : Nat) (a0 a1 : SV) (h : HW) : Rs := q293_28 C lf ff293 (some a0) (some a1) h
theorem fs293_eq (C : YC) (lf : Nat) (a0 a1 : SV) (h : HW) : yFn Tryz.prog fx293 C lf [a0, a1] h = fs293 C lf a0 a1 h := fnX (K := (fun F h => ff293 (F 4) h)) (by kernel_rfl) (((q293_28_eq C lf ff293 (fun F h => ff293 (F 4) h) (fun _ _ _ => none)) _ h).trans (by kernel_rfl))
noncomputable def fy293 : YX Tryz.prog := Y2 fx293 fs293 fs293_eq (by kernel_rfl)

noncomputable def fx294 : XF Tryz.prog := ⟨294, Tryz.f294, fun _ => .text, Tryz.func294, by kernel_rfl, by kernel_rfl, by kernel_rfl, by kernel_rfl⟩
noncomputable def ff294 (h : HW) : Rs :=
 some (.ret (.tup []), h)
noncomputable def q294_40 (C : YC) (lf : Nat) (n : K0) (x0 x1 : O) (h : HW) : Rs :=
 ob x0 fun a0 =>
 ob (semNil a0) fun y1 =>
 ob (fa 4 y1) fun y2 =>
 ob (ld1 y2 h) fun y3 =>
 ob x1 fun a4 =>
 ob (ixS 308 y3 a4) fun y5 =>
 ob (fa 1 y5) fun y6 =>
 ob (fa 1 y6) fun y7 =>
 ob (ld1 y7 h) fun y8 =>
 ob (bin Tryz.prog .eql 3 y8 (.int .i64 0)) fun y9 =>
 bc (gd true (some y9) (ob x0 fun a10 =>
 some (.ret a10, h)) h) fun y11 h11 =>
 bc (gd true (some y9) (ob (semNil y11) fun y12 =>
 some (.ret y12, h11)) h11) fun y13 h13 =>
 bc (gd true (some y9) (ob (fa 4 y13) fun y14 =>
 some (.ret y14, h13)) h13) fun y15 h15 =>
 bc (gd true (some y9) (ob (ld1 y15 h15) fun y16 =>
 some (.ret y16, h15)) h15) fun y17 h17 =>
 bc (gd true (some y9) (ob x1 fun a18 =>
 some (.ret a18, h17)) h17) fun y19 h19 =>
 bc (gd true (some y9) (ob (ixS 308 y17 y19) fun y20 =>
 some (.ret y20, h19)) h19) fun y21 h21 =>
 bc (gd true (some y9) (ob (fa 11 y21) fun y22 =>
 some (.ret y22, h21)) h21) fun y23 h23 =>
 bc (gd true (some y9) (ob (ld1 y23 h23) fun y24 =>
 some (.ret y24, h23)) h23) fun y25 h25 =>
 bc (gd true (some y9) (ob (bin Tryz.prog .eql 3 y25 (.int .i64 0)) fun y26 =>
 some (.ret y26, h25)) h25) fun y27 h27 =>
 ob (ypk y9 y27 (.bool false)) fun y28 =>
 yIf y28
 (ob x0 fun a29 =>
 ob x1 fun a30 =>
 bc (C (.fn 326) [a29, a30, (.int .i64 0)] h27) fun y31 h31 =>
 ob x0 fun a32 =>
 ob (semNil a32) fun y33 =>
 ob (fa 4 y33) fun y34 =>
 ob (ld1 y34 h31) fun y35 =>
 ob x1 fun a36 =>
 ob (semBuild Tryz.prog 395 [] []) fun y37 =>
 ob (ixS 308 y35 a36) fun y38 =>
 ob (st 308 y38 y37 h31) fun h39 =>
 n h39)
 (n h27)
theorem q294_40_eq (C : YC) (lf : Nat) (n : K0) (KR : KF) (KE : KX) : ∀ F h, evX fx294 C lf [] F h (fun F h => n h) KR KE = q294_40 C lf n (F 0) (F 1) h := by
  intro F h; kernel_rfl
noncomputable def fs294 (C : YC) (lf : Nat) (a0 a1 : SV) (h : HW) : Rs := q294_40 C lf ff294 (some a0) (some a1) h
theorem fs294_eq (C : YC) (lf : Nat) (a0 a1 : SV) (h : HW) : yFn Tryz.prog fx294 C lf [a0, a1] h = fs294 C lf a0 a1 h := fnX (K := (fun F h => ff294 h)) (by kernel_rfl) (((q294_40_eq C lf ff294 (fun F h => ff294 h) (fun _ _ _ => none)) _ h).trans (by kernel_rfl))
noncomputable def fy294 : YX Tryz.prog := Y2 fx294 fs294 fs294_eq (by kernel_rfl)

noncomputable def fx295 : XF Tryz.prog := ⟨295, Tryz.f295, fun _ => .text, Tryz.func295, by kernel_rfl, by kernel_rfl, by kernel_rfl, by kernel_rfl⟩
noncomputable def ff295 (x2 : O) (h : HW) : Rs :=
 ob x2 fun a0 =>
 some (.ret a0, h)
noncomputable def q295_12 (C : YC) (lf : Nat) (r : K1) (x0 : O) (h : HW) : Rs :=
 ob x0 fun a1 =>
 b2 (ybx 351 a1 h) fun y2 h2 =>
 ob (fa 4 y2) fun y3 =>
 ob (ld1 y3 h2) fun y4 =>
 bc (gd false (some y4) (ob (fa 2 y2) fun y5 =>
 some (.ret y5, h2)) h2) fun y6 h6 =>
 bc (gd false (some y4) (ob (ld1 y6 h6) fun y7 =>
 some (.ret y7, h6)) h6) fun y8 h8 =>
 bc (gd false (some y4) (bc (C (.fn 334) [y8] h8) fun y9 h9 =>
 some (.ret y9, h9)) h8) fun y10 h10 =>
 ob (ypk y4 (.bool true) y10) fun y11 =>
 r (some y11) h10
theorem q295_12_eq (C : YC) (lf : Nat) (r : K1) (KN : KF) (KE : KX) : ∀ F h, evX fx295 C lf [] F h KN (fun F h => r (F 2) h) KE = q295_12 C lf r (F 0) h := by
  intro F h; kernel_rfl
noncomputable def fs295 (C : YC) (lf : Nat) (a0 : SV) (h : HW) : Rs := q295_12 C lf ff295 (some a0) h
theorem fs295_eq (C : YC) (lf : Nat) (a0 : SV) (h : HW) : yFn Tryz.prog fx295 C lf [a0] h = fs295 C lf a0 h := fnX (K := (fun F h => ff295 (F 2) h)) (by kernel_rfl) (((q295_12_eq C lf ff295 (fun F h => ff295 (F 2) h) (fun _ _ _ => none)) _ h).trans (by kernel_rfl))
noncomputable def fy295 : YX Tryz.prog := Y1 fx295 fs295 fs295_eq (by kernel_rfl)

noncomputable def fx296 : XF Tryz.prog := ⟨296, Tryz.f296, fun _ => .text, Tryz.func296, by kernel_rfl, by kernel_rfl, by kernel_rfl, by kernel_rfl⟩
noncomputable def ff296 (x4 : O) (h : HW) : Rs :=
 ob x4 fun a0 =>
 some (.ret a0, h)
noncomputable def q296_14 (C : YC) (lf : Nat) (r : K1) (x0 x1 : O) (h : HW) : Rs :=
 ob x0 fun a1 =>
 ob (semNil a1) fun y2 =>
 ob (fa 0 y2) fun y3 =>
 ob (ld1 y3 h) fun y4 =>
 ob (semNil y4) fun y5 =>
 ob (fa 4 y5) fun y6 =>
 ob (ld1 y6 h) fun y7 =>
 ob x1 fun a8 =>
 ob (ixS 308 y7 a8) fun y9 =>
 ob (fa 1 y9) fun y10 =>
 ob (fa 1 y10) fun y11 =>
 ob (ld1 y11 h) fun y12 =>
 ob (bin Tryz.prog .eql 3 y12 (.int .i64 0)) fun y13 =>
 r (some y13) h
theorem q296_14_eq (C : YC) (lf : Nat) (r : K1) (KN : KF) (KE : KX) : ∀ F h, evX fx296 C lf [] F h KN (fun F h => r (F 4) h) KE = q296_14 C lf r (F 0) (F 1) h := by
  intro F h; kernel_rfl
noncomputable def fs296 (C : YC) (lf : Nat) (a0 a1 : SV) (h : HW) : Rs := q296_14 C lf ff296 (some a0) (some a1) h
theorem fs296_eq (C : YC) (lf : Nat) (a0 a1 : SV) (h : HW) : yFn Tryz.prog fx296 C lf [a0, a1] h = fs296 C lf a0 a1 h := fnX (K := (fun F h => ff296 (F 4) h)) (by kernel_rfl) (((q296_14_eq C lf ff296 (fun F h => ff296 (F 4) h) (fun _ _ _ => none)) _ h).trans (by kernel_rfl))
noncomputable def fy296 : YX Tryz.prog := Y2 fx296 fs296 fs296_eq (by kernel_rfl)

noncomputable def fx297 : XF Tryz.prog := ⟨297, Tryz.f297, fun _ => .text, Tryz.func297, by kernel_rfl, by kernel_rfl, by kernel_rfl, by kernel_rfl⟩
noncomputable def ff297 (x2 : O) (h : HW) : Rs :=
 ob x2 fun a0 =>
 some (.ret a0, h)
noncomputable def q297_2 (C : YC) (lf : Nat) (r : K1) (x3 : O) (h : HW) : Rs :=
 ob x3 fun a1 =>
 r (some a1) h
theorem q297_2_eq (C : YC) (lf : Nat) (r : K1) (KN : KF) (KE : KX) : ∀ F h, evX fx297 C lf [1, 1, 1] F h KN (fun F h => r (F 2) h) KE = q297_2 C lf r (F 3) h := by
  intro F h; kernel_rfl
noncomputable def q297_26 (C : YC) (lf : Nat) (n : K3) (e0 : K1) (x0 x3 x4 : O) (h : HW) : Rs :=
 ob x4 fun a4 =>
 ob x0 fun a5 =>
 ob (semNil a5) fun y6 =>
 ob (fa 2 y6) fun y7 =>
 ob (ld1 y7 h) fun y8 =>
 ob (bin Tryz.prog .leq 3 a4 y8) fun y9 =>
 yIf y9
 (ob x0 fun a10 =>
 ob (semNil a10) fun y11 =>
 ob (fa 4 y11) fun y12 =>
 ob (ld1 y12 h) fun y13 =>
 ob x4 fun a14 =>
 ob (ixS 308 y13 a14) fun y15 =>
 ob (fa 0 y15) fun y16 =>
 ob (ld1 y16 h) fun y17 =>
 yIf y17
 (ob x3 fun a18 =>
 ob x4 fun a19 =>
 b2 (ybs Tryz.prog 44 1 [0] [a19] h) fun y20 h20 =>
 b2 (ybl Tryz.prog .append #[44, 44] [a18, y20] h20) fun y21 h21 =>
 ob x4 fun a22 =>
 ob (bin Tryz.prog .add 3 a22 (.int .i64 1)) fun y23 =>
 n x0 (some y21) (some y23) h21)
 (ob x4 fun a24 =>
 ob (bin Tryz.prog .add 3 a24 (.int .i64 1)) fun y25 =>
 n x0 x3 (some y25) h))
 (e0 x3 h)
theorem q297_26_eq (C : YC) (lf : Nat) (n : K3) (e0 : K1) (KR : KF) (KE : KX) : ∀ F h, evX fx297 C lf [1, 1, 0, 1, 0, 0] F h (fun F h => n (F 0) (F 3) (F 4) h) KR (bk 0 (fun F h => e0 (F 3) h) KE) = q297_26 C lf n e0 (F 0) (F 3) (F 4) h := by
  intro F h; kernel_rfl
noncomputable def l297_3 (C : YC) (lf : Nat) (e0 : K1) (k : O × O × O → HW → Rs) (s : O × O × O) (h : HW) : Rs :=
 q297_26 C lf (fun x0 x3 x4 h => k (x0, x3, x4) h) e0 s.1 s.2.1 s.2.2 h
noncomputable def q297_27 (C : YC) (lf : Nat) (n : K3) (x0 x3 : O) (h : HW) : Rs :=
 n x0 x3 (some (.int .i64 1)) h
theorem q297_27_eq (C : YC) (lf : Nat) (n : K3) (KR : KF) (KE : KX) : ∀ F h, evX fx297 C lf [1, 1, 0, 0] F h (fun F h => n (F 0) (F 3) (F 4) h) KR KE = q297_27 C lf n (F 0) (F 3) h := by
  intro F h; kernel_rfl
noncomputable def q297_28 (C : YC) (lf : Nat) (n : K1) (x0 x3 : O) (h : HW) : Rs :=
 q297_27 C lf (fun x0 x3 x4 h => lp (l297_3 C lf n) lf (x0, x3, x4) h) x0 x3 h
theorem q297_28_eq (C : YC) (lf : Nat) (n : K1) (KR : KF) (KE : KX) : ∀ F h, evX fx297 C lf [1, 1, 0] F h (fun F h => n (F 3) h) KR KE = q297_28 C lf n (F 0) (F 3) h := cSeq (a := subX fx297 [1, 1, 0, 0]) (b := subX fx297 [1, 1, 0, 1]) (by kernel_rfl) (B := (fun F h => lp (l297_3 C lf n) lf ((F 0), (F 3), (F 4)) h)) (cBlock (id := 0) (a := subX fx297 [1, 1, 0, 1, 0]) (by kernel_rfl) (cLoop (a := subX fx297 [1, 1, 0, 1, 0, 0]) (g := fun F => (F 0, F 3, F 4)) (body := l297_3 C lf n) (by kernel_rfl) (fun k => (q297_26_eq C lf (fun x0 x3 x4 h => k (x0, x3, x4) h) n KR KE)))) (q297_27_eq C lf (fun x0 x3 x4 h => lp (l297_3 C lf n) lf (x0, x3, x4) h) KR KE)
noncomputable def q297_29 (C : YC) (lf : Nat) (r : K1) (x0 x3 : O) (h : HW) : Rs :=
 q297_28 C lf (fun x3 h => q297_2 C lf r x3 h) x0 x3 h
theorem q297_29_eq (C : YC) (lf : Nat) (r : K1) (KN : KF) (KE : KX) : ∀ F h, evX fx297 C lf [1, 1] F h KN (fun F h => r (F 2) h) KE = q297_29 C lf r (F 0) (F 3) h := cSeq (a := subX fx297 [1, 1, 0]) (b := subX fx297 [1, 1, 1]) (by kernel_rfl) (B := (fun F h => q297_2 C lf r (F 3) h)) (q297_2_eq C lf r KN KE) (q297_28_eq C lf (fun x3 h => q297_2 C lf r x3 h) (fun F h => r (F 2) h) KE)
noncomputable def q297_30 (C : YC) (lf : Nat) (n : K2) (x0 : O) (h : HW) : Rs :=
 n x0 (some (.val (.slice none 0 0))) h
theorem q297_30_eq (C : YC) (lf : Nat) (n : K2) (KR : KF) (KE : KX) : ∀ F h, evX fx297 C lf [1, 0] F h (fun F h => n (F 0) (F 3) h) KR KE = q297_30 C lf n (F 0) h := by
  intro F h; kernel_rfl
noncomputable def q297_31 (C : YC) (lf : Nat) (r : K1) (x0 : O) (h : HW) : Rs :=
 q297_30 C lf (fun x0 x3 h => q297_29 C lf r x0 x3 h) x0 h
theorem q297_31_eq (C : YC) (lf : Nat) (r : K1) (KN : KF) (KE : KX) : ∀ F h, evX fx297 C lf [1] F h KN (fun F h => r (F 2) h) KE = q297_31 C lf r (F 0) h := cSeq (a := subX fx297 [1, 0]) (b := subX fx297 [1, 1]) (by kernel_rfl) (B := (fun F h => q297_29 C lf r (F 0) (F 3) h)) (q297_29_eq C lf r KN KE) (q297_30_eq C lf (fun x0 x3 h => q297_29 C lf r x0 x3 h) (fun F h => r (F 2) h) KE)
noncomputable def q297_32 (C : YC) (lf : Nat) (n : K1) (x0 : O) (h : HW) : Rs :=
 n x0 h
theorem q297_32_eq (C : YC) (lf : Nat) (n : K1) (KR : KF) (KE : KX) : ∀ F h, evX fx297 C lf [0] F h (fun F h => n (F 0) h) KR KE = q297_32 C lf n (F 0) h := by
  intro F h; kernel_rfl
noncomputable def q297_33 (C : YC) (lf : Nat) (r : K1) (x0 : O) (h : HW) : Rs :=
 q297_32 C lf (fun x0 h => q297_31 C lf r x0 h) x0 h
theorem q297_33_eq (C : YC) (lf : Nat) (r : K1) (KN : KF) (KE : KX) : ∀ F h, evX fx297 C lf [] F h KN (fun F h => r (F 2) h) KE = q297_33 C lf r (F 0) h := cSeq (a := subX fx297 [0]) (b := subX fx297 [1]) (by kernel_rfl) (B := (fun F h => q297_31 C lf r (F 0) h)) (q297_31_eq C lf r KN KE) (q297_32_eq C lf (fun x0 h => q297_31 C lf r x0 h) (fun F h => r (F 2) h) KE)
noncomputable def fs297 (C : YC) (lf : Nat) (a0 : SV) (h : HW) : Rs := q297_33 C lf ff297 (some a0) h
theorem fs297_eq (C : YC) (lf : Nat) (a0 : SV) (h : HW) : yFn Tryz.prog fx297 C lf [a0] h = fs297 C lf a0 h := fnX (K := (fun F h => ff297 (F 2) h)) (by kernel_rfl) (((q297_33_eq C lf ff297 (fun F h => ff297 (F 2) h) (fun _ _ _ => none)) _ h).trans (by kernel_rfl))
noncomputable def fy297 : YX Tryz.prog := Y1 fx297 fs297 fs297_eq (by kernel_rfl)

noncomputable def fx298 : XF Tryz.prog := ⟨298, Tryz.f298, fun _ => .text, Tryz.func298, by kernel_rfl, by kernel_rfl, by kernel_rfl, by kernel_rfl⟩
noncomputable def ff298 (x6 : O) (h : HW) : Rs :=
 ob x6 fun a0 =>
 some (.ret a0, h)
noncomputable def q298_27 (C : YC) (lf : Nat) (r : K1) (x0 x1 x2 : O) (h : HW) : Rs :=
 ob x0 fun a1 =>
 ob x1 fun a2 =>
 bc (C (.fn 335) [a1, a2] h) fun y3 h3 =>
 ob (bin Tryz.prog .geq 3 y3 (.int .i64 0)) fun y4 =>
 bc (gd true (some y4) (ob x0 fun a5 =>
 some (.ret a5, h3)) h3) fun y6 h6 =>
 bc (gd true (some y4) (ob (semNil y6) fun y7 =>
 some (.ret y7, h6)) h6) fun y8 h8 =>
 bc (gd true (some y4) (ob (fa 0 y8) fun y9 =>
 some (.ret y9, h8)) h8) fun y10 h10 =>
 bc (gd true (some y4) (ob (ld1 y10 h10) fun y11 =>
 some (.ret y11, h10)) h10) fun y12 h12 =>
 bc (gd true (some y4) (ob (semNil y12) fun y13 =>
 some (.ret y13, h12)) h12) fun y14 h14 =>
 bc (gd true (some y4) (ob (fa 0 y14) fun y15 =>
 some (.ret y15, h14)) h14) fun y16 h16 =>
 bc (gd true (some y4) (bc (C (.fn 336) [y16] h16) fun y17 h17 =>
 some (.ret y17, h17)) h16) fun y18 h18 =>
 bc (gd true (some y4) (some (.ret y3, h18)) h18) fun y19 h19 =>
 bc (gd true (some y4) (ob x2 fun a20 =>
 some (.ret a20, h19)) h19) fun y21 h21 =>
 bc (gd true (some y4) (ob (bin Tryz.prog .add 3 y19 y21) fun y22 =>
 some (.ret y22, h21)) h21) fun y23 h23 =>
 bc (gd true (some y4) (ob (bin Tryz.prog .geq 3 y18 y23) fun y24 =>
 some (.ret y24, h23)) h23) fun y25 h25 =>
 ob (ypk y4 y25 (.bool false)) fun y26 =>
 r (some y26) h25
theorem q298_27_eq (C : YC) (lf : Nat) (r : K1) (KN : KF) (KE : KX) : ∀ F h, evX fx298 C lf [] F h KN (fun F h => r (F 6) h) KE = q298_27 C lf r (F 0) (F 1) (F 2) h := by
  intro F h; kernel_rfl
noncomputable def fs298 (C : YC) (lf : Nat) (a0 a1 a2 : SV) (h : HW) : Rs := q298_27 C lf ff298 (some a0) (some a1) (some a2) h
theorem fs298_eq (C : YC) (lf : Nat) (a0 a1 a2 : SV) (h : HW) : yFn Tryz.prog fx298 C lf [a0, a1, a2] h = fs298 C lf a0 a1 a2 h := fnX (K := (fun F h => ff298 (F 6) h)) (by kernel_rfl) (((q298_27_eq C lf ff298 (fun F h => ff298 (F 6) h) (fun _ _ _ => none)) _ h).trans (by kernel_rfl))
noncomputable def fy298 : YX Tryz.prog := Y3 fx298 fs298 fs298_eq (by kernel_rfl)

noncomputable def fx299 : XF Tryz.prog := ⟨299, Tryz.f299, fun _ => .text, Tryz.func299, by kernel_rfl, by kernel_rfl, by kernel_rfl, by kernel_rfl⟩
noncomputable def ff299 (x6 : O) (h : HW) : Rs :=
 ob x6 fun a0 =>
 some (.ret a0, h)
noncomputable def q299_31 (C : YC) (lf : Nat) (r : K1) (x0 x1 x2 : O) (h : HW) : Rs :=
 ob x1 fun a1 =>
 b2 (ybx 46 a1 h) fun y2 h2 =>
 ob x0 fun a3 =>
 ob (semNil a3) fun y4 =>
 ob (fa 0 y4) fun y5 =>
 ob (ld1 y5 h2) fun y6 =>
 ob (semNil y6) fun y7 =>
 ob (fa 4 y7) fun y8 =>
 ob (ld1 y8 h2) fun y9 =>
 ob x2 fun a10 =>
 ob (ixS 308 y9 a10) fun y11 =>
 ob (fa 1 y11) fun y12 =>
 ob (fa 6 y12) fun y13 =>
 ob (ld1 y13 h2) fun y14 =>
 ob (bin Tryz.prog .and 30 y14 (.int .i64 1024)) fun y15 =>
 ob (bin Tryz.prog .neq 30 y15 (.int .i64 0)) fun y16 =>
 yIf y16
 (ob x0 fun a17 =>
 ob (semNil a17) fun y18 =>
 ob (fa 0 y18) fun y19 =>
 ob (ld1 y19 h2) fun y20 =>
 ob (semNil y20) fun y21 =>
 ob (fa 4 y21) fun y22 =>
 ob (ld1 y22 h2) fun y23 =>
 ob x2 fun a24 =>
 ob (ixS 308 y23 a24) fun y25 =>
 ob (fa 1 y25) fun y26 =>
 ob (fa 3 y26) fun y27 =>
 ob (ld1 y27 h2) fun y28 =>
 r (some y28) h2)
 (ob (fa 1 y2) fun y29 =>
 ob (ld1 y29 h2) fun y30 =>
 r (some y30) h2)
theorem q299_31_eq (C : YC) (lf : Nat) (r : K1) (KN : KF) (KE : KX) : ∀ F h, evX fx299 C lf [] F h KN (fun F h => r (F 6) h) KE = q299_31 C lf r (F 0) (F 1) (F 2) h := by
  intro F h; kernel_rfl
noncomputable def fs299 (C : YC) (lf : Nat) (a0 a1 a2 : SV) (h : HW) : Rs := q299_31 C lf ff299 (some a0) (some a1) (some a2) h
theorem fs299_eq (C : YC) (lf : Nat) (a0 a1 a2 : SV) (h : HW) : yFn Tryz.prog fx299 C lf [a0, a1, a2] h = fs299 C lf a0 a1 a2 h := fnX (K := (fun F h => ff299 (F 6) h)) (by kernel_rfl) (((q299_31_eq C lf ff299 (fun F h => ff299 (F 6) h) (fun _ _ _ => none)) _ h).trans (by kernel_rfl))
noncomputable def fy299 : YX Tryz.prog := Y3 fx299 fs299 fs299_eq (by kernel_rfl)

noncomputable def fx300 : XF Tryz.prog := ⟨300, Tryz.f300, fun _ => .text, Tryz.func300, by kernel_rfl, by kernel_rfl, by kernel_rfl, by kernel_rfl⟩
noncomputable def ff300 (x8 : O) (h : HW) : Rs :=
 ob x8 fun a0 =>
 some (.ret a0, h)
noncomputable def q300_16 (C : YC) (lf : Nat) (r : K1) (x0 x1 x2 x3 x11 : O) (h : HW) : Rs :=
 ob x11 fun a1 =>
 ob (bin Tryz.prog .add 3 a1 (.int .i64 1)) fun y2 =>
 ob (bin Tryz.prog .mul 3 y2 (.int .i64 32)) fun y3 =>
 ob (bin Tryz.prog .gtr 3 y3 (.int .i64 17792)) fun y4 =>
 yIf y4
 (r (some (.int .i64 28)) h)
 (ob x0 fun a5 =>
 ob x1 fun a6 =>
 ob x11 fun a7 =>
 ob (bin Tryz.prog .mul 3 a7 (.int .i64 32)) fun y8 =>
 ob x3 fun a9 =>
 ob x2 fun a10 =>
 bc (C (.fn 293) [a9, a10] h) fun y11 h11 =>
 bc (C (.fn 266) [a5, a6, y8, y11] h11) fun y12 h12 =>
 ob (ext 0 y12) fun y13 =>
 ob (ext 1 y12) fun y14 =>
 ob (bin Tryz.prog .eql 3 y13 (.int .i64 0)) fun y15 =>
 yIf y15
 (r (some (.int .i64 28)) h12)
 (r (some (.int .i64 0)) h12))
theorem q300_16_eq (C : YC) (lf : Nat) (r : K1) (KN : KF) (KE : KX) : ∀ F h, evX fx300 C lf [1, 1, 1, 1, 1, 1, 1, 1] F h KN (fun F h => r (F 8) h) KE = q300_16 C lf r (F 0) (F 1) (F 2) (F 3) (F 11) h := by
  intro F h; kernel_rfl
noncomputable def q300_31 (C : YC) (lf : Nat) (n : K7) (e0 : K5) (x0 x1 x2 x3 x10 x11 x12 : O) (h : HW) : Rs :=
 ob x12 fun a18 =>
 ob (bin Tryz.prog .geq 3 a18 (.int .i64 0)) fun y19 =>
 yIf y19
 (ob x10 fun a20 =>
 ob x12 fun a21 =>
 ob (ixS 1 a20 a21) fun y22 =>
 ob (ld1 y22 h) fun y23 =>
 bc (C (.fn 340) [y23] h) fun y24 h24 =>
 ob (bin Tryz.prog .eql 3 y24 (.int .i64 0)) fun y25 =>
 yIf y25
 (ob x12 fun a26 =>
 ob x12 fun a27 =>
 ob (bin Tryz.prog .sub 3 a27 (.int .i64 1)) fun y28 =>
 n x0 x1 x2 x3 x10 (some a26) (some y28) h24)
 (ob x12 fun a29 =>
 ob (bin Tryz.prog .sub 3 a29 (.int .i64 1)) fun y30 =>
 n x0 x1 x2 x3 x10 x11 (some y30) h24))
 (e0 x0 x1 x2 x3 x11 h)
theorem q300_31_eq (C : YC) (lf : Nat) (n : K7) (e0 : K5) (KR : KF) (KE : KX) : ∀ F h, evX fx300 C lf [1, 1, 1, 1, 1, 1, 1, 0, 1, 0, 0] F h (fun F h => n (F 0) (F 1) (F 2) (F 3) (F 10) (F 11) (F 12) h) KR (bk 0 (fun F h => e0 (F 0) (F 1) (F 2) (F 3) (F 11) h) KE) = q300_31 C lf n e0 (F 0) (F 1) (F 2) (F 3) (F 10) (F 11) (F 12) h := by
  intro F h; kernel_rfl
noncomputable def l300_17 (C : YC) (lf : Nat) (e0 : K5) (k : O × O × O × O × O × O × O → HW → Rs) (s : O × O × O × O × O × O × O) (h : HW) : Rs :=
 q300_31 C lf (fun x0 x1 x2 x3 x10 x11 x12 h => k (x0, x1, x2, x3, x10, x11, x12) h) e0 s.1 s.2.1 s.2.2.1 s.2.2.2.1 s.2.2.2.2.1 s.2.2.2.2.2.1 s.2.2.2.2.2.2 h
noncomputable def q300_35 (C : YC) (lf : Nat) (n : K7) (x0 x1 x2 x3 x10 x11 : O) (h : HW) : Rs :=
 ob x10 fun a32 =>
 ob (lenE Tryz.prog 385 a32) fun y33 =>
 ob (bin Tryz.prog .sub 3 y33 (.int .i64 1)) fun y34 =>
 n x0 x1 x2 x3 x10 x11 (some y34) h
theorem q300_35_eq (C : YC) (lf : Nat) (n : K7) (KR : KF) (KE : KX) : ∀ F h, evX fx300 C lf [1, 1, 1, 1, 1, 1, 1, 0, 0] F h (fun F h => n (F 0) (F 1) (F 2) (F 3) (F 10) (F 11) (F 12) h) KR KE = q300_35 C lf n (F 0) (F 1) (F 2) (F 3) (F 10) (F 11) h := by
  intro F h; kernel_rfl
noncomputable def q300_36 (C : YC) (lf : Nat) (n : K5) (x0 x1 x2 x3 x10 x11 : O) (h : HW) : Rs :=
 q300_35 C lf (fun x0 x1 x2 x3 x10 x11 x12 h => lp (l300_17 C lf n) lf (x0, x1, x2, x3, x10, x11, x12) h) x0 x1 x2 x3 x10 x11 h
theorem q300_36_eq (C : YC) (lf : Nat) (n : K5) (KR : KF) (KE : KX) : ∀ F h, evX fx300 C lf [1, 1, 1, 1, 1, 1, 1, 0] F h (fun F h => n (F 0) (F 1) (F 2) (F 3) (F 11) h) KR KE = q300_36 C lf n (F 0) (F 1) (F 2) (F 3) (F 10) (F 11) h := cSeq (a := subX fx300 [1, 1, 1, 1, 1, 1, 1, 0, 0]) (b := subX fx300 [1, 1, 1, 1, 1, 1, 1, 0, 1]) (by kernel_rfl) (B := (fun F h => lp (l300_17 C lf n) lf ((F 0), (F 1), (F 2), (F 3), (F 10), (F 11), (F 12)) h)) (cBlock (id := 0) (a := subX fx300 [1, 1, 1, 1, 1, 1, 1, 0, 1, 0]) (by kernel_rfl) (cLoop (a := subX fx300 [1, 1, 1, 1, 1, 1, 1, 0, 1, 0, 0]) (g := fun F => (F 0, F 1, F 2, F 3, F 10, F 11, F 12)) (body := l300_17 C lf n) (by kernel_rfl) (fun k => (q300_31_eq C lf (fun x0 x1 x2 x3 x10 x11 x12 h => k (x0, x1, x2, x3, x10, x11, x12) h) n KR KE)))) (q300_35_eq C lf (fun x0 x1 x2 x3 x10 x11 x12 h => lp (l300_17 C lf n) lf (x0, x1, x2, x3, x10, x11, x12) h) KR KE)
noncomputable def q300_37 (C : YC) (lf : Nat) (r : K1) (x0 x1 x2 x3 x10 x11 : O) (h : HW) : Rs :=
 q300_36 C lf (fun x0 x1 x2 x3 x11 h => q300_16 C lf r x0 x1 x2 x3 x11 h) x0 x1 x2 x3 x10 x11 h
theorem q300_37_eq (C : YC) (lf : Nat) (r : K1) (KN : KF) (KE : KX) : ∀ F h, evX fx300 C lf [1, 1, 1, 1, 1, 1, 1] F h KN (fun F h => r (F 8) h) KE = q300_37 C lf r (F 0) (F 1) (F 2) (F 3) (F 10) (F 11) h := cSeq (a := subX fx300 [1, 1, 1, 1, 1, 1, 1, 0]) (b := subX fx300 [1, 1, 1, 1, 1, 1, 1, 1]) (by kernel_rfl) (B := (fun F h => q300_16 C lf r (F 0) (F 1) (F 2) (F 3) (F 11) h)) (q300_16_eq C lf r KN KE) (q300_36_eq C lf (fun x0 x1 x2 x3 x11 h => q300_16 C lf r x0 x1 x2 x3 x11 h) (fun F h => r (F 8) h) KE)
noncomputable def q300_40 (C : YC) (lf : Nat) (n : K6) (x0 x1 x2 x3 x10 : O) (h : HW) : Rs :=
 ob x10 fun a38 =>
 ob (lenE Tryz.prog 385 a38) fun y39 =>
 n x0 x1 x2 x3 x10 (some y39) h
theorem q300_40_eq (C : YC) (lf : Nat) (n : K6) (KR : KF) (KE : KX) : ∀ F h, evX fx300 C lf [1, 1, 1, 1, 1, 1, 0] F h (fun F h => n (F 0) (F 1) (F 2) (F 3) (F 10) (F 11) h) KR KE = q300_40 C lf n (F 0) (F 1) (F 2) (F 3) (F 10) h := by
  intro F h; kernel_rfl
noncomputable def q300_41 (C : YC) (lf : Nat) (r : K1) (x0 x1 x2 x3 x10 : O) (h : HW) : Rs :=
 q300_40 C lf (fun x0 x1 x2 x3 x10 x11 h => q300_37 C lf r x0 x1 x2 x3 x10 x11 h) x0 x1 x2 x3 x10 h
theorem q300_41_eq (C : YC) (lf : Nat) (r : K1) (KN : KF) (KE : KX) : ∀ F h, evX fx300 C lf [1, 1, 1, 1, 1, 1] F h KN (fun F h => r (F 8) h) KE = q300_41 C lf r (F 0) (F 1) (F 2) (F 3) (F 10) h := cSeq (a := subX fx300 [1, 1, 1, 1, 1, 1, 0]) (b := subX fx300 [1, 1, 1, 1, 1, 1, 1]) (by kernel_rfl) (B := (fun F h => q300_37 C lf r (F 0) (F 1) (F 2) (F 3) (F 10) (F 11) h)) (q300_37_eq C lf r KN KE) (q300_40_eq C lf (fun x0 x1 x2 x3 x10 x11 h => q300_37 C lf r x0 x1 x2 x3 x10 x11 h) (fun F h => r (F 8) h) KE)
noncomputable def q300_45 (C : YC) (lf : Nat) (n : K5) (x0 x1 x2 x3 : O) (h : HW) : Rs :=
 ob x0 fun a42 =>
 ob x1 fun a43 =>
 bc (C (.fn 339) [a42, a43] h) fun y44 h44 =>
 n x0 x1 x2 x3 (some y44) h44
theorem q300_45_eq (C : YC) (lf : Nat) (n : K5) (KR : KF) (KE : KX) : ∀ F h, evX fx300 C lf [1, 1, 1, 1, 1, 0] F h (fun F h => n (F 0) (F 1) (F 2) (F 3) (F 10) h) KR KE = q300_45 C lf n (F 0) (F 1) (F 2) (F 3) h := by
  intro F h; kernel_rfl
noncomputable def q300_46 (C : YC) (lf : Nat) (r : K1) (x0 x1 x2 x3 : O) (h : HW) : Rs :=
 q300_45 C lf (fun x0 x1 x2 x3 x10 h => q300_41 C lf r x0 x1 x2 x3 x10 h) x0 x1 x2 x3 h
theorem q300_46_eq (C : YC) (lf : Nat) (r : K1) (KN : KF) (KE : KX) : ∀ F h, evX fx300 C lf [1, 1, 1, 1, 1] F h KN (fun F h => r (F 8) h) KE = q300_46 C lf r (F 0) (F 1) (F 2) (F 3) h := cSeq (a := subX fx300 [1, 1, 1, 1, 1, 0]) (b := subX fx300 [1, 1, 1, 1, 1, 1]) (by kernel_rfl) (B := (fun F h => q300_41 C lf r (F 0) (F 1) (F 2) (F 3) (F 10) h)) (q300_41_eq C lf r KN KE) (q300_45_eq C lf (fun x0 x1 x2 x3 x10 h => q300_41 C lf r x0 x1 x2 x3 x10 h) (fun F h => r (F 8) h) KE)
noncomputable def q300_52 (C : YC) (lf : Nat) (n : K4) (r : K1) (x0 x1 x2 x3 : O) (h : HW) : Rs :=
 ob x0 fun a47 =>
 ob x1 fun a48 =>
 ob x2 fun a49 =>
 bc (C (.fn 338) [a47, a48, a49] h) fun y50 h50 =>
 ob (bin Tryz.prog .geq 3 y50 (.int .i64 0)) fun y51 =>
 yIf y51
 (r (some (.int .i64 17)) h50)
 (n x0 x1 x2 x3 h50)
theorem q300_52_eq (C : YC) (lf : Nat) (n : K4) (r : K1) (KE : KX) : ∀ F h, evX fx300 C lf [1, 1, 1, 1, 0] F h (fun F h => n (F 0) (F 1) (F 2) (F 3) h) (fun F h => r (F 8) h) KE = q300_52 C lf n r (F 0) (F 1) (F 2) (F 3) h := by
  intro F h; kernel_rfl
noncomputable def q300_53 (C : YC) (lf : Nat) (r : K1) (x0 x1 x2 x3 : O) (h : HW) : Rs :=
 q300_52 C lf (fun x0 x1 x2 x3 h => q300_46 C lf r x0 x1 x2 x3 h) r x0 x1 x2 x3 h
theorem q300_53_eq (C : YC) (lf : Nat) (r : K1) (KN : KF) (KE : KX) : ∀ F h, evX fx300 C lf [1, 1, 1, 1] F h KN (fun F h => r (F 8) h) KE = q300_53 C lf r (F 0) (F 1) (F 2) (F 3) h := cSeq (a := subX fx300 [1, 1, 1, 1, 0]) (b := subX fx300 [1, 1, 1, 1, 1]) (by kernel_rfl) (B := (fun F h => q300_46 C lf r (F 0) (F 1) (F 2) (F 3) h)) (q300_46_eq C lf r KN KE) (q300_52_eq C lf (fun x0 x1 x2 x3 h => q300_46 C lf r x0 x1 x2 x3 h) r KE)
noncomputable def q300_58 (C : YC) (lf : Nat) (n : K4) (r : K1) (x0 x1 x2 x3 : O) (h : HW) : Rs :=
 ob x0 fun a54 =>
 ob x3 fun a55 =>
 bc (C (.fn 292) [a54, a55] h) fun y56 h56 =>
 ob (unE .not y56) fun y57 =>
 yIf y57
 (r (some (.int .i64 22)) h56)
 (n x0 x1 x2 x3 h56)
theorem q300_58_eq (C : YC) (lf : Nat) (n : K4) (r : K1) (KE : KX) : ∀ F h, evX fx300 C lf [1, 1, 1, 0] F h (fun F h => n (F 0) (F 1) (F 2) (F 3) h) (fun F h => r (F 8) h) KE = q300_58 C lf n r (F 0) (F 1) (F 2) (F 3) h := by
  intro F h; kernel_rfl
noncomputable def q300_59 (C : YC) (lf : Nat) (r : K1) (x0 x1 x2 x3 : O) (h : HW) : Rs :=
 q300_58 C lf (fun x0 x1 x2 x3 h => q300_53 C lf r x0 x1 x2 x3 h) r x0 x1 x2 x3 h
theorem q300_59_eq (C : YC) (lf : Nat) (r : K1) (KN : KF) (KE : KX) : ∀ F h, evX fx300 C lf [1, 1, 1] F h KN (fun F h => r (F 8) h) KE = q300_59 C lf r (F 0) (F 1) (F 2) (F 3) h := cSeq (a := subX fx300 [1, 1, 1, 0]) (b := subX fx300 [1, 1, 1, 1]) (by kernel_rfl) (B := (fun F h => q300_53 C lf r (F 0) (F 1) (F 2) (F 3) h)) (q300_53_eq C lf r KN KE) (q300_58_eq C lf (fun x0 x1 x2 x3 h => q300_53 C lf r x0 x1 x2 x3 h) r KE)
noncomputable def q300_63 (C : YC) (lf : Nat) (n : K4) (r : K1) (x0 x1 x2 x3 x9 : O) (h : HW) : Rs :=
 ob x9 fun a60 =>
 ob (bin Tryz.prog .neq 3 a60 (.int .i64 0)) fun y61 =>
 yIf y61
 (ob x9 fun a62 =>
 r (some a62) h)
 (n x0 x1 x2 x3 h)
theorem q300_63_eq (C : YC) (lf : Nat) (n : K4) (r : K1) (KE : KX) : ∀ F h, evX fx300 C lf [1, 1, 0] F h (fun F h => n (F 0) (F 1) (F 2) (F 3) h) (fun F h => r (F 8) h) KE = q300_63 C lf n r (F 0) (F 1) (F 2) (F 3) (F 9) h := by
  intro F h; kernel_rfl
noncomputable def q300_64 (C : YC) (lf : Nat) (r : K1) (x0 x1 x2 x3 x9 : O) (h : HW) : Rs :=
 q300_63 C lf (fun x0 x1 x2 x3 h => q300_59 C lf r x0 x1 x2 x3 h) r x0 x1 x2 x3 x9 h
theorem q300_64_eq (C : YC) (lf : Nat) (r : K1) (KN : KF) (KE : KX) : ∀ F h, evX fx300 C lf [1, 1] F h KN (fun F h => r (F 8) h) KE = q300_64 C lf r (F 0) (F 1) (F 2) (F 3) (F 9) h := cSeq (a := subX fx300 [1, 1, 0]) (b := subX fx300 [1, 1, 1]) (by kernel_rfl) (B := (fun F h => q300_59 C lf r (F 0) (F 1) (F 2) (F 3) h)) (q300_59_eq C lf r KN KE) (q300_63_eq C lf (fun x0 x1 x2 x3 h => q300_59 C lf r x0 x1 x2 x3 h) r KE)
noncomputable def q300_69 (C : YC) (lf : Nat) (n : K5) (x0 x1 x2 x3 : O) (h : HW) : Rs :=
 ob x0 fun a65 =>
 ob x1 fun a66 =>
 ob x2 fun a67 =>
 bc (C (.fn 337) [a65, a66, a67] h) fun y68 h68 =>
 n x0 x1 x2 x3 (some y68) h68
theorem q300_69_eq (C : YC) (lf : Nat) (n : K5) (KR : KF) (KE : KX) : ∀ F h, evX fx300 C lf [1, 0] F h (fun F h => n (F 0) (F 1) (F 2) (F 3) (F 9) h) KR KE = q300_69 C lf n (F 0) (F 1) (F 2) (F 3) h := by
  intro F h; kernel_rfl
noncomputable def q300_70 (C : YC) (lf : Nat) (r : K1) (x0 x1 x2 x3 : O) (h : HW) : Rs :=
 q300_69 C lf (fun x0 x1 x2 x3 x9 h => q300_64 C lf r x0 x1 x2 x3 x9 h) x0 x1 x2 x3 h
theorem q300_70_eq (C : YC) (lf : Nat) (r : K1) (KN : KF) (KE : KX) : ∀ F h, evX fx300 C lf [1] F h KN (fun F h => r (F 8) h) KE = q300_70 C lf r (F 0) (F 1) (F 2) (F 3) h := cSeq (a := subX fx300 [1, 0]) (b := subX fx300 [1, 1]) (by kernel_rfl) (B := (fun F h => q300_64 C lf r (F 0) (F 1) (F 2) (F 3) (F 9) h)) (q300_64_eq C lf r KN KE) (q300_69_eq C lf (fun x0 x1 x2 x3 x9 h => q300_64 C lf r x0 x1 x2 x3 x9 h) (fun F h => r (F 8) h) KE)
noncomputable def q300_71 (C : YC) (lf : Nat) (n : K4) (x0 x1 x2 x3 : O) (h : HW) : Rs :=
 n x0 x1 x2 x3 h
theorem q300_71_eq (C : YC) (lf : Nat) (n : K4) (KR : KF) (KE : KX) : ∀ F h, evX fx300 C lf [0] F h (fun F h => n (F 0) (F 1) (F 2) (F 3) h) KR KE = q300_71 C lf n (F 0) (F 1) (F 2) (F 3) h := by
  intro F h; kernel_rfl
noncomputable def q300_72 (C : YC) (lf : Nat) (r : K1) (x0 x1 x2 x3 : O) (h : HW) : Rs :=
 q300_71 C lf (fun x0 x1 x2 x3 h => q300_70 C lf r x0 x1 x2 x3 h) x0 x1 x2 x3 h
theorem q300_72_eq (C : YC) (lf : Nat) (r : K1) (KN : KF) (KE : KX) : ∀ F h, evX fx300 C lf [] F h KN (fun F h => r (F 8) h) KE = q300_72 C lf r (F 0) (F 1) (F 2) (F 3) h := cSeq (a := subX fx300 [0]) (b := subX fx300 [1]) (by kernel_rfl) (B := (fun F h => q300_70 C lf r (F 0) (F 1) (F 2) (F 3) h)) (q300_70_eq C lf r KN KE) (q300_71_eq C lf (fun x0 x1 x2 x3 h => q300_70 C lf r x0 x1 x2 x3 h) (fun F h => r (F 8) h) KE)
noncomputable def fs300 (C : YC) (lf : Nat) (a0 a1 a2 a3 : SV) (h : HW) : Rs := q300_72 C lf ff300 (some a0) (some a1) (some a2) (some a3) h
theorem fs300_eq (C : YC) (lf : Nat) (a0 a1 a2 a3 : SV) (h : HW) : yFn Tryz.prog fx300 C lf [a0, a1, a2, a3] h = fs300 C lf a0 a1 a2 a3 h := fnX (K := (fun F h => ff300 (F 8) h)) (by kernel_rfl) (((q300_72_eq C lf ff300 (fun F h => ff300 (F 8) h) (fun _ _ _ => none)) _ h).trans (by kernel_rfl))
noncomputable def fy300 : YX Tryz.prog := Y4 fx300 fs300 fs300_eq (by kernel_rfl)

noncomputable def fx301 : XF Tryz.prog := ⟨301, Tryz.f301, fun _ => .text, Tryz.func301, by kernel_rfl, by kernel_rfl, by kernel_rfl, by kernel_rfl⟩
noncomputable def ff301 (x2 x3 : O) (h : HW) : Rs :=
 ob x2 fun a0 =>
 ob (ldN 3 a0 h) fun y1 =>
 ob x3 fun a2 =>
 some (.ret (.tup [y1, a2]), h)
noncomputable def q301_25 (C : YC) (lf : Nat) (r : K2) (x0 x2 x4 : O) (h : HW) : Rs :=
 ob x0 fun a3 =>
 bc (C (.fn 342) [a3] h) fun y4 h4 =>
 ob x4 fun a5 =>
 ob x4 fun a6 =>
 ob (lenE Tryz.prog 25 a6) fun y7 =>
 ob (bin Tryz.prog .gtr 3 y7 (.int .i64 0)) fun y8 =>
 bc (gd true (some y8) (ob x0 fun a9 =>
 some (.ret a9, h4)) h4) fun y10 h10 =>
 bc (gd true (some y8) (ob x0 fun a11 =>
 some (.ret a11, h10)) h10) fun y12 h12 =>
 bc (gd true (some y8) (ob (lenE Tryz.prog 9 y12) fun y13 =>
 some (.ret y13, h12)) h12) fun y14 h14 =>
 bc (gd true (some y8) (ob (bin Tryz.prog .sub 3 y14 (.int .i64 1)) fun y15 =>
 some (.ret y15, h14)) h14) fun y16 h16 =>
 bc (gd true (some y8) (ob (semIndex Tryz.prog 9 y10 y16) fun y17 =>
 some (.ret y17, h16)) h16) fun y18 h18 =>
 bc (gd true (some y8) (ob (bin Tryz.prog .eql 5 y18 (.int .u8 47)) fun y19 =>
 some (.ret y19, h18)) h18) fun y20 h20 =>
 ob (ypk y8 y20 (.bool false)) fun y21 =>
 ob (semBuild Tryz.prog 234 [0, 1, 2] [y4, a5, y21]) fun y22 =>
 ob x2 fun a23 =>
 ob (st 3 a23 y22 h20) fun h24 =>
 r x2 (some (.int .i64 0)) h24
theorem q301_25_eq (C : YC) (lf : Nat) (r : K2) (KN : KF) (KE : KX) : ∀ F h, evX fx301 C lf [1, 1, 1, 1, 1, 1] F h KN (fun F h => r (F 2) (F 3) h) KE = q301_25 C lf r (F 0) (F 2) (F 4) h := by
  intro F h; kernel_rfl
noncomputable def q301_40 (C : YC) (lf : Nat) (n : K4) (r : K2) (e2 : K3) (x0 x2 x4 x7 : O) (h : HW) : Rs :=
 ob x7 fun a27 =>
 ob x0 fun a28 =>
 ob (lenE Tryz.prog 9 a28) fun y29 =>
 ob (bin Tryz.prog .lss 3 a27 y29) fun y30 =>
 yIf y30
 (ob x0 fun a31 =>
 ob x7 fun a32 =>
 ob (semIndex Tryz.prog 9 a31 a32) fun y33 =>
 ob (bin Tryz.prog .eql 5 y33 (.int .u8 0)) fun y34 =>
 yIf y34
 (ob (semBuild Tryz.prog 234 [] []) fun y35 =>
 ob x2 fun a36 =>
 ob (st 3 a36 y35 h) fun h37 =>
 r x2 (some (.int .i64 22)) h37)
 (ob x7 fun a38 =>
 ob (bin Tryz.prog .add 3 a38 (.int .i64 1)) fun y39 =>
 n x0 x2 x4 (some y39) h))
 (e2 x0 x2 x4 h)
theorem q301_40_eq (C : YC) (lf : Nat) (n : K4) (r : K2) (e2 : K3) (KE : KX) : ∀ F h, evX fx301 C lf [1, 1, 1, 1, 1, 0, 1, 0, 0] F h (fun F h => n (F 0) (F 2) (F 4) (F 7) h) (fun F h => r (F 2) (F 3) h) (bk 2 (fun F h => e2 (F 0) (F 2) (F 4) h) KE) = q301_40 C lf n r e2 (F 0) (F 2) (F 4) (F 7) h := by
  intro F h; kernel_rfl
noncomputable def l301_26 (C : YC) (lf : Nat) (r : K2) (e2 : K3) (k : O × O × O × O → HW → Rs) (s : O × O × O × O) (h : HW) : Rs :=
 q301_40 C lf (fun x0 x2 x4 x7 h => k (x0, x2, x4, x7) h) r e2 s.1 s.2.1 s.2.2.1 s.2.2.2 h
noncomputable def q301_41 (C : YC) (lf : Nat) (n : K4) (x0 x2 x4 : O) (h : HW) : Rs :=
 n x0 x2 x4 (some (.int .i64 0)) h
theorem q301_41_eq (C : YC) (lf : Nat) (n : K4) (KR : KF) (KE : KX) : ∀ F h, evX fx301 C lf [1, 1, 1, 1, 1, 0, 0] F h (fun F h => n (F 0) (F 2) (F 4) (F 7) h) KR KE = q301_41 C lf n (F 0) (F 2) (F 4) h := by
  intro F h; kernel_rfl
noncomputable def q301_42 (C : YC) (lf : Nat) (n : K3) (r : K2) (x0 x2 x4 : O) (h : HW) : Rs :=
 q301_41 C lf (fun x0 x2 x4 x7 h => lp (l301_26 C lf r n) lf (x0, x2, x4, x7) h) x0 x2 x4 h
theorem q301_42_eq (C : YC) (lf : Nat) (n : K3) (r : K2) (KE : KX) : ∀ F h, evX fx301 C lf [1, 1, 1, 1, 1, 0] F h (fun F h => n (F 0) (F 2) (F 4) h) (fun F h => r (F 2) (F 3) h) KE = q301_42 C lf n r (F 0) (F 2) (F 4) h := cSeq (a := subX fx301 [1, 1, 1, 1, 1, 0, 0]) (b := subX fx301 [1, 1, 1, 1, 1, 0, 1]) (by kernel_rfl) (B := (fun F h => lp (l301_26 C lf r n) lf ((F 0), (F 2), (F 4), (F 7)) h)) (cBlock (id := 2) (a := subX fx301 [1, 1, 1, 1, 1, 0, 1, 0]) (by kernel_rfl) (cLoop (a := subX fx301 [1, 1, 1, 1, 1, 0, 1, 0, 0]) (g := fun F => (F 0, F 2, F 4, F 7)) (body := l301_26 C lf r n) (by kernel_rfl) (fun k => (q301_40_eq C lf (fun x0 x2 x4 x7 h => k (x0, x2, x4, x7) h) r n KE)))) (q301_41_eq C lf (fun x0 x2 x4 x7 h => lp (l301_26 C lf r n) lf (x0, x2, x4, x7) h) (fun F h => r (F 2) (F 3) h) KE)
noncomputable def q301_43 (C : YC) (lf : Nat) (r : K2) (x0 x2 x4 : O) (h : HW) : Rs :=
 q301_42 C lf (fun x0 x2 x4 h => q301_25 C lf r x0 x2 x4 h) r x0 x2 x4 h
theorem q301_43_eq (C : YC) (lf : Nat) (r : K2) (KN : KF) (KE : KX) : ∀ F h, evX fx301 C lf [1, 1, 1, 1, 1] F h KN (fun F h => r (F 2) (F 3) h) KE = q301_43 C lf r (F 0) (F 2) (F 4) h := cSeq (a := subX fx301 [1, 1, 1, 1, 1, 0]) (b := subX fx301 [1, 1, 1, 1, 1, 1]) (by kernel_rfl) (B := (fun F h => q301_25 C lf r (F 0) (F 2) (F 4) h)) (q301_25_eq C lf r KN KE) (q301_42_eq C lf (fun x0 x2 x4 h => q301_25 C lf r x0 x2 x4 h) r KE)
noncomputable def q301_59 (C : YC) (lf : Nat) (n : K6) (r : K2) (e0 : K3) (x0 x2 x4 x17 x18 x19 : O) (h : HW) : Rs :=
 ob x19 fun a45 =>
 ob x18 fun a46 =>
 ob (bin Tryz.prog .lss 3 a45 a46) fun y47 =>
 yIf y47
 (ob x17 fun a48 =>
 ob x19 fun a49 =>
 ob (ixS 1 a48 a49) fun y50 =>
 ob (ld1 y50 h) fun y51 =>
 ob (lenE Tryz.prog 9 y51) fun y52 =>
 ob (bin Tryz.prog .gtr 3 y52 (.int .i64 27)) fun y53 =>
 yIf y53
 (ob (semBuild Tryz.prog 234 [] []) fun y54 =>
 ob x2 fun a55 =>
 ob (st 3 a55 y54 h) fun h56 =>
 r x2 (some (.int .i64 36)) h56)
 (ob x19 fun a57 =>
 ob (bin Tryz.prog .add 3 a57 (.int .i64 1)) fun y58 =>
 n x0 x2 x4 x17 x18 (some y58) h))
 (e0 x0 x2 x4 h)
theorem q301_59_eq (C : YC) (lf : Nat) (n : K6) (r : K2) (e0 : K3) (KE : KX) : ∀ F h, evX fx301 C lf [1, 1, 1, 1, 0, 1, 0, 0] F h (fun F h => n (F 0) (F 2) (F 4) (F 17) (F 18) (F 19) h) (fun F h => r (F 2) (F 3) h) (bk 0 (fun F h => e0 (F 0) (F 2) (F 4) h) KE) = q301_59 C lf n r e0 (F 0) (F 2) (F 4) (F 17) (F 18) (F 19) h := by
  intro F h; kernel_rfl
noncomputable def l301_44 (C : YC) (lf : Nat) (r : K2) (e0 : K3) (k : O × O × O × O × O × O → HW → Rs) (s : O × O × O × O × O × O) (h : HW) : Rs :=
 q301_59 C lf (fun x0 x2 x4 x17 x18 x19 h => k (x0, x2, x4, x17, x18, x19) h) r e0 s.1 s.2.1 s.2.2.1 s.2.2.2.1 s.2.2.2.2.1 s.2.2.2.2.2 h
noncomputable def q301_62 (C : YC) (lf : Nat) (n : K6) (x0 x2 x4 : O) (h : HW) : Rs :=
 ob x4 fun a60 =>
 ob (lenE Tryz.prog 25 a60) fun y61 =>
 n x0 x2 x4 (some a60) (some y61) (some (.int .i64 0)) h
theorem q301_62_eq (C : YC) (lf : Nat) (n : K6) (KR : KF) (KE : KX) : ∀ F h, evX fx301 C lf [1, 1, 1, 1, 0, 0] F h (fun F h => n (F 0) (F 2) (F 4) (F 17) (F 18) (F 19) h) KR KE = q301_62 C lf n (F 0) (F 2) (F 4) h := by
  intro F h; kernel_rfl
noncomputable def q301_63 (C : YC) (lf : Nat) (n : K3) (r : K2) (x0 x2 x4 : O) (h : HW) : Rs :=
 q301_62 C lf (fun x0 x2 x4 x17 x18 x19 h => lp (l301_44 C lf r n) lf (x0, x2, x4, x17, x18, x19) h) x0 x2 x4 h
theorem q301_63_eq (C : YC) (lf : Nat) (n : K3) (r : K2) (KE : KX) : ∀ F h, evX fx301 C lf [1, 1, 1, 1, 0] F h (fun F h => n (F 0) (F 2) (F 4) h) (fun F h => r (F 2) (F 3) h) KE = q301_63 C lf n r (F 0) (F 2) (F 4) h := cSeq (a := subX fx301 [1, 1, 1, 1, 0, 0]) (b := subX fx301 [1, 1, 1, 1, 0, 1]) (by kernel_rfl) (B := (fun F h => lp (l301_44 C lf r n) lf ((F 0), (F 2), (F 4), (F 17), (F 18), (F 19)) h)) (cBlock (id := 0) (a := subX fx301 [1, 1, 1, 1, 0, 1, 0]) (by kernel_rfl) (cLoop (a := subX fx301 [1, 1, 1, 1, 0, 1, 0, 0]) (g := fun F => (F 0, F 2, F 4, F 17, F 18, F 19)) (body := l301_44 C lf r n) (by kernel_rfl) (fun k => (q301_59_eq C lf (fun x0 x2 x4 x17 x18 x19 h => k (x0, x2, x4, x17, x18, x19) h) r n KE)))) (q301_62_eq C lf (fun x0 x2 x4 x17 x18 x19 h => lp (l301_44 C lf r n) lf (x0, x2, x4, x17, x18, x19) h) (fun F h => r (F 2) (F 3) h) KE)
noncomputable def q301_64 (C : YC) (lf : Nat) (r : K2) (x0 x2 x4 : O) (h : HW) : Rs :=
 q301_63 C lf (fun x0 x2 x4 h => q301_43 C lf r x0 x2 x4 h) r x0 x2 x4 h
theorem q301_64_eq (C : YC) (lf : Nat) (r : K2) (KN : KF) (KE : KX) : ∀ F h, evX fx301 C lf [1, 1, 1, 1] F h KN (fun F h => r (F 2) (F 3) h) KE = q301_64 C lf r (F 0) (F 2) (F 4) h := cSeq (a := subX fx301 [1, 1, 1, 1, 0]) (b := subX fx301 [1, 1, 1, 1, 1]) (by kernel_rfl) (B := (fun F h => q301_43 C lf r (F 0) (F 2) (F 4) h)) (q301_43_eq C lf r KN KE) (q301_63_eq C lf (fun x0 x2 x4 h => q301_43 C lf r x0 x2 x4 h) r KE)
noncomputable def q301_71 (C : YC) (lf : Nat) (n : K3) (r : K2) (x0 x2 x4 : O) (h : HW) : Rs :=
 ob x0 fun a65 =>
 ob (lenE Tryz.prog 9 a65) fun y66 =>
 ob (bin Tryz.prog .gtr 3 y66 (.int .i64 255)) fun y67 =>
 yIf y67
 (ob (semBuild Tryz.prog 234 [] []) fun y68 =>
 ob x2 fun a69 =>
 ob (st 3 a69 y68 h) fun h70 =>
 r x2 (some (.int .i64 36)) h70)
 (n x0 x2 x4 h)
theorem q301_71_eq (C : YC) (lf : Nat) (n : K3) (r : K2) (KE : KX) : ∀ F h, evX fx301 C lf [1, 1, 1, 0] F h (fun F h => n (F 0) (F 2) (F 4) h) (fun F h => r (F 2) (F 3) h) KE = q301_71 C lf n r (F 0) (F 2) (F 4) h := by
  intro F h; kernel_rfl
noncomputable def q301_72 (C : YC) (lf : Nat) (r : K2) (x0 x2 x4 : O) (h : HW) : Rs :=
 q301_71 C lf (fun x0 x2 x4 h => q301_64 C lf r x0 x2 x4 h) r x0 x2 x4 h
theorem q301_72_eq (C : YC) (lf : Nat) (r : K2) (KN : KF) (KE : KX) : ∀ F h, evX fx301 C lf [1, 1, 1] F h KN (fun F h => r (F 2) (F 3) h) KE = q301_72 C lf r (F 0) (F 2) (F 4) h := cSeq (a := subX fx301 [1, 1, 1, 0]) (b := subX fx301 [1, 1, 1, 1]) (by kernel_rfl) (B := (fun F h => q301_64 C lf r (F 0) (F 2) (F 4) h)) (q301_64_eq C lf r KN KE) (q301_71_eq C lf (fun x0 x2 x4 h => q301_64 C lf r x0 x2 x4 h) r KE)
noncomputable def q301_75 (C : YC) (lf : Nat) (n : K3) (x0 x2 : O) (h : HW) : Rs :=
 ob x0 fun a73 =>
 bc (C (.fn 341) [a73] h) fun y74 h74 =>
 n x0 x2 (some y74) h74
theorem q301_75_eq (C : YC) (lf : Nat) (n : K3) (KR : KF) (KE : KX) : ∀ F h, evX fx301 C lf [1, 1, 0] F h (fun F h => n (F 0) (F 2) (F 4) h) KR KE = q301_75 C lf n (F 0) (F 2) h := by
  intro F h; kernel_rfl
noncomputable def q301_76 (C : YC) (lf : Nat) (r : K2) (x0 x2 : O) (h : HW) : Rs :=
 q301_75 C lf (fun x0 x2 x4 h => q301_72 C lf r x0 x2 x4 h) x0 x2 h
theorem q301_76_eq (C : YC) (lf : Nat) (r : K2) (KN : KF) (KE : KX) : ∀ F h, evX fx301 C lf [1, 1] F h KN (fun F h => r (F 2) (F 3) h) KE = q301_76 C lf r (F 0) (F 2) h := cSeq (a := subX fx301 [1, 1, 0]) (b := subX fx301 [1, 1, 1]) (by kernel_rfl) (B := (fun F h => q301_72 C lf r (F 0) (F 2) (F 4) h)) (q301_72_eq C lf r KN KE) (q301_75_eq C lf (fun x0 x2 x4 h => q301_72 C lf r x0 x2 x4 h) (fun F h => r (F 2) (F 3) h) KE)
noncomputable def q301_82 (C : YC) (lf : Nat) (n : K2) (r : K2) (x0 x2 : O) (h : HW) : Rs :=
 ob x0 fun a77 =>
 ob (bin Tryz.prog .eql 9 a77 (.str (bs []))) fun y78 =>
 yIf y78
 (ob (semBuild Tryz.prog 234 [] []) fun y79 =>
 ob x2 fun a80 =>
 ob (st 3 a80 y79 h) fun h81 =>
 r x2 (some (.int .i64 2)) h81)
 (n x0 x2 h)
theorem q301_82_eq (C : YC) (lf : Nat) (n : K2) (r : K2) (KE : KX) : ∀ F h, evX fx301 C lf [1, 0] F h (fun F h => n (F 0) (F 2) h) (fun F h => r (F 2) (F 3) h) KE = q301_82 C lf n r (F 0) (F 2) h := by
  intro F h; kernel_rfl
noncomputable def q301_83 (C : YC) (lf : Nat) (r : K2) (x0 x2 : O) (h : HW) : Rs :=
 q301_82 C lf (fun x0 x2 h => q301_76 C lf r x0 x2 h) r x0 x2 h
theorem q301_83_eq (C : YC) (lf : Nat) (r : K2) (KN : KF) (KE : KX) : ∀ F h, evX fx301 C lf [1] F h KN (fun F h => r (F 2) (F 3) h) KE = q301_83 C lf r (F 0) (F 2) h := cSeq (a := subX fx301 [1, 0]) (b := subX fx301 [1, 1]) (by kernel_rfl) (B := (fun F h => q301_76 C lf r (F 0) (F 2) h)) (q301_76_eq C lf r KN KE) (q301_82_eq C lf (fun x0 x2 h => q301_76 C lf r x0 x2 h) r KE)
noncomputable def q301_85 (C : YC) (lf : Nat) (n : K2) (x0 : O) (h : HW) : Rs :=
 b2 (yAl Tryz.prog 234 h) fun y84 h84 =>
 n x0 (some y84) h84
theorem q301_85_eq (C : YC) (lf : Nat) (n : K2) (KR : KF) (KE : KX) : ∀ F h, evX fx301 C lf [0] F h (fun F h => n (F 0) (F 2) h) KR KE = q301_85 C lf n (F 0) h := by
  intro F h; kernel_rfl
noncomputable def q301_86 (C : YC) (lf : Nat) (r : K2) (x0 : O) (h : HW) : Rs :=
 q301_85 C lf (fun x0 x2 h => q301_83 C lf r x0 x2 h) x0 h
theorem q301_86_eq (C : YC) (lf : Nat) (r : K2) (KN : KF) (KE : KX) : ∀ F h, evX fx301 C lf [] F h KN (fun F h => r (F 2) (F 3) h) KE = q301_86 C lf r (F 0) h := cSeq (a := subX fx301 [0]) (b := subX fx301 [1]) (by kernel_rfl) (B := (fun F h => q301_83 C lf r (F 0) (F 2) h)) (q301_83_eq C lf r KN KE) (q301_85_eq C lf (fun x0 x2 h => q301_83 C lf r x0 x2 h) (fun F h => r (F 2) (F 3) h) KE)
noncomputable def fs301 (C : YC) (lf : Nat) (a0 : SV) (h : HW) : Rs := q301_86 C lf ff301 (some a0) h
theorem fs301_eq (C : YC) (lf : Nat) (a0 : SV) (h : HW) : yFn Tryz.prog fx301 C lf [a0] h = fs301 C lf a0 h := fnX (K := (fun F h => ff301 (F 2) (F 3) h)) (by kernel_rfl) (((q301_86_eq C lf ff301 (fun F h => ff301 (F 2) (F 3) h) (fun _ _ _ => none)) _ h).trans (by kernel_rfl))
noncomputable def fy301 : YX Tryz.prog := Y1 fx301 fs301 fs301_eq (by kernel_rfl)

noncomputable def fx315 : XF Tryz.prog := ⟨315, Tryz.f315, fun _ => .text, Tryz.func315, by kernel_rfl, by kernel_rfl, by kernel_rfl, by kernel_rfl⟩
noncomputable def ff315 (x2 : O) (h : HW) : Rs :=
 ob x2 fun a0 =>
 some (.ret a0, h)
noncomputable def q315_11 (C : YC) (lf : Nat) (r : K1) (x0 : O) (h : HW) : Rs :=
 ob x0 fun a1 =>
 ob (bin Tryz.prog .eql 9 a1 (.str (bs []))) fun y2 =>
 bc (gd false (some y2) (ob x0 fun a3 =>
 some (.ret a3, h)) h) fun y4 h4 =>
 bc (gd false (some y2) (bc (C (.fn 343) [y4, (.str (bs [47, 0]))] h4) fun y5 h5 =>
 some (.ret y5, h5)) h4) fun y6 h6 =>
 ob (ypk y2 (.bool true) y6) fun y7 =>
 yIf y7
 (r (some (.int .i64 22)) h6)
 (ob x0 fun a8 =>
 ob (lenE Tryz.prog 9 a8) fun y9 =>
 ob (bin Tryz.prog .gtr 3 y9 (.int .i64 27)) fun y10 =>
 yIf y10
 (r (some (.int .i64 36)) h6)
 (r (some (.int .i64 0)) h6))
theorem q315_11_eq (C : YC) (lf : Nat) (r : K1) (KN : KF) (KE : KX) : ∀ F h, evX fx315 C lf [] F h KN (fun F h => r (F 2) h) KE = q315_11 C lf r (F 0) h := by
  intro F h; kernel_rfl
noncomputable def fs315 (C : YC) (lf : Nat) (a0 : SV) (h : HW) : Rs := q315_11 C lf ff315 (some a0) h
theorem fs315_eq (C : YC) (lf : Nat) (a0 : SV) (h : HW) : yFn Tryz.prog fx315 C lf [a0] h = fs315 C lf a0 h := fnX (K := (fun F h => ff315 (F 2) h)) (by kernel_rfl) (((q315_11_eq C lf ff315 (fun F h => ff315 (F 2) h) (fun _ _ _ => none)) _ h).trans (by kernel_rfl))
noncomputable def fy315 : YX Tryz.prog := Y1 fx315 fs315 fs315_eq (by kernel_rfl)

noncomputable def fx316 : XF Tryz.prog := ⟨316, Tryz.f316, fun _ => .text, Tryz.func316, by kernel_rfl, by kernel_rfl, by kernel_rfl, by kernel_rfl⟩
noncomputable def ff316 (x2 : O) (h : HW) : Rs :=
 ob x2 fun a0 =>
 some (.ret a0, h)
noncomputable def q316_9 (C : YC) (lf : Nat) (r : K1) (x0 : O) (h : HW) : Rs :=
 ob x0 fun a1 =>
 b2 (ybx 292 a1 h) fun y2 h2 =>
 ob (semSlice Tryz.prog 292 y2 (some (.int .i64 4)) none) fun y3 =>
 bc (C (.fn 344) [y3, (.int .u8 0)] h2) fun y4 h4 =>
 ob (bin Tryz.prog .geq 3 y4 (.int .i64 0)) fun y5 =>
 yIf y5
 (ob (semSlice Tryz.prog 31 y3 none (some y4)) fun y6 =>
 b2 (ycv Tryz.prog 31 9 y6 h4) fun y7 h7 =>
 r (some y7) h7)
 (b2 (ycv Tryz.prog 31 9 y3 h4) fun y8 h8 =>
 r (some y8) h8)
theorem q316_9_eq (C : YC) (lf : Nat) (r : K1) (KN : KF) (KE : KX) : ∀ F h, evX fx316 C lf [] F h KN (fun F h => r (F 2) h) KE = q316_9 C lf r (F 0) h := by
  intro F h; kernel_rfl
noncomputable def fs316 (C : YC) (lf : Nat) (a0 : SV) (h : HW) : Rs := q316_9 C lf ff316 (some a0) h
theorem fs316_eq (C : YC) (lf : Nat) (a0 : SV) (h : HW) : yFn Tryz.prog fx316 C lf [a0] h = fs316 C lf a0 h := fnX (K := (fun F h => ff316 (F 2) h)) (by kernel_rfl) (((q316_9_eq C lf ff316 (fun F h => ff316 (F 2) h) (fun _ _ _ => none)) _ h).trans (by kernel_rfl))
noncomputable def fy316 : YX Tryz.prog := Y1 fx316 fs316 fs316_eq (by kernel_rfl)

noncomputable def fx319 : XF Tryz.prog := ⟨319, Tryz.f319, fun r => bif Nat.beq r 2 then .ord [4, 0, 2, 5, 6, 1, 3, 7, 8] [(3, [5]), (1, [5, 2])] else .text, Tryz.func319, by kernel_rfl, by kernel_rfl, by kernel_rfl, by kernel_rfl⟩
noncomputable def ff319 (x4 : O) (h : HW) : Rs :=
 ob x4 fun a0 =>
 ob (ldN 3 a0 h) fun y1 =>
 some (.ret y1, h)
noncomputable def q319_22 (C : YC) (lf : Nat) (r : K1) (x0 x1 : O) (h : HW) : Rs :=
 ob x1 fun a2 =>
 b2 (ybx 292 a2 h) fun y3 h3 =>
 b2 (yAl Tryz.prog 81 h3) fun y4 h4 =>
 ob x0 fun a5 =>
 ob (ldN 32 y3 h4) fun y6 =>
 bc (C (.fn 250) [y6] h4) fun y7 h7 =>
 bc (C (.fn 184) [a5, y7] h7) fun y8 h8 =>
 ob (ext 0 y8) fun y9 =>
 ob (ext 1 y8) fun y10 =>
 b2 (yAl Tryz.prog 58 h8) fun y11 h11 =>
 ob (st 10 y11 y9 h11) fun h12 =>
 ob (fa 6 y11) fun y13 =>
 ob (ldN 32 y3 h12) fun y14 =>
 ob (ldN 32 y3 h12) fun y15 =>
 ob (ld1 y13 h12) fun y16 =>
 ob (bin Tryz.prog .and 30 y16 (.int .i64 61440)) fun y17 =>
 bcn (C (.fn 316) [y14] h12) fun y18 h18 =>
 ck (chkH [(5, adrO (some y13)), (2, adrO (some y3)), (0, adrO (some y3))] h12 h18 [5, 2]) <|
 bcn (C (.fn 250) [y15] h18) fun y19 h19 =>
 ck (chkH [(5, adrO (some y13)), (2, adrO (some y3)), (0, adrO (some y3))] h18 h19 [5]) <|
 ob (semBuild Tryz.prog 81 [0, 1, 2] [y18, y19, y17]) fun y20 =>
 ob (st 3 y4 y20 h19) fun h21 =>
 r (some y4) h21
theorem q319_22_eq (C : YC) (lf : Nat) (r : K1) (KN : KF) (KE : KX) : ∀ F h, evX fx319 C lf [] F h KN (fun F h => r (F 4) h) KE = q319_22 C lf r (F 0) (F 1) h := by
  intro F h; kernel_rfl
noncomputable def fs319 (C : YC) (lf : Nat) (a0 a1 : SV) (h : HW) : Rs := q319_22 C lf ff319 (some a0) (some a1) h
theorem fs319_eq (C : YC) (lf : Nat) (a0 a1 : SV) (h : HW) : yFn Tryz.prog fx319 C lf [a0, a1] h = fs319 C lf a0 a1 h := fnX (K := (fun F h => ff319 (F 4) h)) (by kernel_rfl) (((q319_22_eq C lf ff319 (fun F h => ff319 (F 4) h) (fun _ _ _ => none)) _ h).trans (by kernel_rfl))
noncomputable def fy319 : YX Tryz.prog := Y2 fx319 fs319 fs319_eq (by kernel_rfl)

noncomputable def fx320 : XF Tryz.prog := ⟨320, Tryz.f320, fun _ => .text, Tryz.func320, by kernel_rfl, by kernel_rfl, by kernel_rfl, by kernel_rfl⟩
noncomputable def ff320 (h : HW) : Rs :=
 some (.ret (.tup []), h)
noncomputable def q320_32 (C : YC) (lf : Nat) (n : K5) (r : K0) (e0 : K0) (x0 x2 x6 x7 x8 : O) (h : HW) : Rs :=
 ob x8 fun a1 =>
 ob x7 fun a2 =>
 ob (bin Tryz.prog .lss 3 a1 a2) fun y3 =>
 yIf y3
 (ob x8 fun a4 =>
 ob x6 fun a5 =>
 ob x8 fun a6 =>
 ob (ixS 32 a5 a6) fun y7 =>
 ob (ldN 32 y7 h) fun y8 =>
 b2 (yAl Tryz.prog 292 h) fun y9 h9 =>
 ob (st 32 y9 y8 h9) fun h10 =>
 ob (ldN 32 y9 h10) fun y11 =>
 bc (C (.fn 250) [y11] h10) fun y12 h12 =>
 ob (bin Tryz.prog .neq 3 y12 (.int .i64 0)) fun y13 =>
 bc (gd true (some y13) (ob x0 fun a14 =>
 some (.ret a14, h12)) h12) fun y15 h15 =>
 bc (gd true (some y13) (some (.ret a4, h15)) h15) fun y16 h16 =>
 bc (gd true (some y13) (ob x2 fun a17 =>
 ob (ld1 a17 h16) fun y18 =>
 some (.ret y18, h16)) h16) fun y19 h19 =>
 bc (gd true (some y13) (some (.ret a4, h19)) h19) fun y20 h20 =>
 bc (gd true (some y13) (ob (ixS 3 y19 y20) fun y21 =>
 some (.ret y21, h20)) h20) fun y22 h22 =>
 bc (gd true (some y13) (ob (ldN 3 y22 h22) fun y23 =>
 some (.ret y23, h22)) h22) fun y24 h24 =>
 bc (gd true (some y13) (cv false C y15 [y16, y24] h24 fun y25 h25 =>
 some (.ret y25, h25)) h24) fun y26 h26 =>
 bc (gd true (some y13) (ob (unE .not y26) fun y27 =>
 some (.ret y27, h26)) h26) fun y28 h28 =>
 ob (ypk y13 y28 (.bool false)) fun y29 =>
 yIf y29
 (r h28)
 (ob x8 fun a30 =>
 ob (bin Tryz.prog .add 3 a30 (.int .i64 1)) fun y31 =>
 n x0 x2 x6 x7 (some y31) h28))
 (e0 h)
theorem q320_32_eq (C : YC) (lf : Nat) (n : K5) (r : K0) (e0 : K0) (KE : KX) : ∀ F h, evX fx320 C lf [1, 0, 0] F h (fun F h => n (F 0) (F 2) (F 6) (F 7) (F 8) h) (fun F h => r h) (bk 0 (fun F h => e0 h) KE) = q320_32 C lf n r e0 (F 0) (F 2) (F 6) (F 7) (F 8) h := by
  intro F h; kernel_rfl
noncomputable def l320_0 (C : YC) (lf : Nat) (r : K0) (e0 : K0) (k : O × O × O × O × O → HW → Rs) (s : O × O × O × O × O) (h : HW) : Rs :=
 q320_32 C lf (fun x0 x2 x6 x7 x8 h => k (x0, x2, x6, x7, x8) h) r e0 s.1 s.2.1 s.2.2.1 s.2.2.2.1 s.2.2.2.2 h
noncomputable def q320_36 (C : YC) (lf : Nat) (n : K5) (x0 x1 x2 : O) (h : HW) : Rs :=
 ob x1 fun a33 =>
 ob (ld1 a33 h) fun y34 =>
 ob (lenE Tryz.prog 335 y34) fun y35 =>
 n x0 x2 (some y34) (some y35) (some (.int .i64 0)) h
theorem q320_36_eq (C : YC) (lf : Nat) (n : K5) (KR : KF) (KE : KX) : ∀ F h, evX fx320 C lf [0] F h (fun F h => n (F 0) (F 2) (F 6) (F 7) (F 8) h) KR KE = q320_36 C lf n (F 0) (F 1) (F 2) h := by
  intro F h; kernel_rfl
noncomputable def q320_37 (C : YC) (lf : Nat) (n : K0) (r : K0) (x0 x1 x2 : O) (h : HW) : Rs :=
 q320_36 C lf (fun x0 x2 x6 x7 x8 h => lp (l320_0 C lf r n) lf (x0, x2, x6, x7, x8) h) x0 x1 x2 h
theorem q320_37_eq (C : YC) (lf : Nat) (n : K0) (r : K0) (KE : KX) : ∀ F h, evX fx320 C lf [] F h (fun F h => n h) (fun F h => r h) KE = q320_37 C lf n r (F 0) (F 1) (F 2) h := cSeq (a := subX fx320 [0]) (b := subX fx320 [1]) (by kernel_rfl) (B := (fun F h => lp (l320_0 C lf r n) lf ((F 0), (F 2), (F 6), (F 7), (F 8)) h)) (cBlock (id := 0) (a := subX fx320 [1, 0]) (by kernel_rfl) (cLoop (a := subX fx320 [1, 0, 0]) (g := fun F => (F 0, F 2, F 6, F 7, F 8)) (body := l320_0 C lf r n) (by kernel_rfl) (fun k => (q320_32_eq C lf (fun x0 x2 x6 x7 x8 h => k (x0, x2, x6, x7, x8) h) r n KE)))) (q320_36_eq C lf (fun x0 x2 x6 x7 x8 h => lp (l320_0 C lf r n) lf (x0, x2, x6, x7, x8) h) (fun F h => r h) KE)
noncomputable def fs320 (C : YC) (lf : Nat) (a0 a1 a2 : SV) (h : HW) : Rs := q320_37 C lf ff320 ff320 (some a0) (some a1) (some a2) h
theorem fs320_eq (C : YC) (lf : Nat) (a0 a1 a2 : SV) (h : HW) : yFn Tryz.prog fx320 C lf [a0, a1, a2] h = fs320 C lf a0 a1 a2 h := fnX (K := (fun F h => ff320 h)) (by kernel_rfl) (((q320_37_eq C lf ff320 ff320 (fun _ _ _ => none)) _ h).trans (by kernel_rfl))
noncomputable def fy320 : YX Tryz.prog := Y3 fx320 fs320 fs320_eq (by kernel_rfl)

noncomputable def fx321 : XF Tryz.prog := ⟨321, Tryz.f321, fun _ => .text, Tryz.func321, by kernel_rfl, by kernel_rfl, by kernel_rfl, by kernel_rfl⟩
noncomputable def ff321 (h : HW) : Rs :=
 some (.ret (.tup []), h)
noncomputable def q321_20 (C : YC) (lf : Nat) (n : K4) (e0 : K0) (x1 x5 x6 x7 : O) (h : HW) : Rs :=
 ob x7 fun a1 =>
 ob x6 fun a2 =>
 ob (bin Tryz.prog .lss 3 a1 a2) fun y3 =>
 yIf y3
 (ob x5 fun a4 =>
 ob x7 fun a5 =>
 ob (ixS 1 a4 a5) fun y6 =>
 ob (ld1 y6 h) fun y7 =>
 ob (bin Tryz.prog .gtr 3 y7 (.int .i64 0)) fun y8 =>
 yIf y8
 (ob x1 fun a9 =>
 ob (ld1 a9 h) fun y10 =>
 ob (bin Tryz.prog .sub 3 y7 (.int .i64 1)) fun y11 =>
 b2 (ybs Tryz.prog 44 1 [0] [y11] h) fun y12 h12 =>
 b2 (ybl Tryz.prog .append #[44, 44] [y10, y12] h12) fun y13 h13 =>
 ob x1 fun a14 =>
 ob (st 1 a14 y13 h13) fun h15 =>
 ob x7 fun a16 =>
 ob (bin Tryz.prog .add 3 a16 (.int .i64 1)) fun y17 =>
 n x1 x5 x6 (some y17) h15)
 (ob x7 fun a18 =>
 ob (bin Tryz.prog .add 3 a18 (.int .i64 1)) fun y19 =>
 n x1 x5 x6 (some y19) h))
 (e0 h)
theorem q321_20_eq (C : YC) (lf : Nat) (n : K4) (e0 : K0) (KR : KF) (KE : KX) : ∀ F h, evX fx321 C lf [1, 0, 0] F h (fun F h => n (F 1) (F 5) (F 6) (F 7) h) KR (bk 0 (fun F h => e0 h) KE) = q321_20 C lf n e0 (F 1) (F 5) (F 6) (F 7) h := by
  intro F h; kernel_rfl
noncomputable def l321_0 (C : YC) (lf : Nat) (e0 : K0) (k : O × O × O × O → HW → Rs) (s : O × O × O × O) (h : HW) : Rs :=
 q321_20 C lf (fun x1 x5 x6 x7 h => k (x1, x5, x6, x7) h) e0 s.1 s.2.1 s.2.2.1 s.2.2.2 h
noncomputable def q321_23 (C : YC) (lf : Nat) (n : K4) (x0 x1 : O) (h : HW) : Rs :=
 ob x0 fun a21 =>
 ob (lenE Tryz.prog 44 a21) fun y22 =>
 n x1 (some a21) (some y22) (some (.int .i64 0)) h
theorem q321_23_eq (C : YC) (lf : Nat) (n : K4) (KR : KF) (KE : KX) : ∀ F h, evX fx321 C lf [0] F h (fun F h => n (F 1) (F 5) (F 6) (F 7) h) KR KE = q321_23 C lf n (F 0) (F 1) h := by
  intro F h; kernel_rfl
noncomputable def q321_24 (C : YC) (lf : Nat) (n : K0) (x0 x1 : O) (h : HW) : Rs :=
 q321_23 C lf (fun x1 x5 x6 x7 h => lp (l321_0 C lf n) lf (x1, x5, x6, x7) h) x0 x1 h
theorem q321_24_eq (C : YC) (lf : Nat) (n : K0) (KR : KF) (KE : KX) : ∀ F h, evX fx321 C lf [] F h (fun F h => n h) KR KE = q321_24 C lf n (F 0) (F 1) h := cSeq (a := subX fx321 [0]) (b := subX fx321 [1]) (by kernel_rfl) (B := (fun F h => lp (l321_0 C lf n) lf ((F 1), (F 5), (F 6), (F 7)) h)) (cBlock (id := 0) (a := subX fx321 [1, 0]) (by kernel_rfl) (cLoop (a := subX fx321 [1, 0, 0]) (g := fun F => (F 1, F 5, F 6, F 7)) (body := l321_0 C lf n) (by kernel_rfl) (fun k => (q321_20_eq C lf (fun x1 x5 x6 x7 h => k (x1, x5, x6, x7) h) n KR KE)))) (q321_23_eq C lf (fun x1 x5 x6 x7 h => lp (l321_0 C lf n) lf (x1, x5, x6, x7) h) KR KE)
noncomputable def fs321 (C : YC) (lf : Nat) (a0 a1 : SV) (h : HW) : Rs := q321_24 C lf ff321 (some a0) (some a1) h
theorem fs321_eq (C : YC) (lf : Nat) (a0 a1 : SV) (h : HW) : yFn Tryz.prog fx321 C lf [a0, a1] h = fs321 C lf a0 a1 h := fnX (K := (fun F h => ff321 h)) (by kernel_rfl) (((q321_24_eq C lf ff321 (fun F h => ff321 h) (fun _ _ _ => none)) _ h).trans (by kernel_rfl))
noncomputable def fy321 : YX Tryz.prog := Y2 fx321 fs321 fs321_eq (by kernel_rfl)

noncomputable def fx323 : XF Tryz.prog := ⟨323, Tryz.f323, fun _ => .text, Tryz.func323, by kernel_rfl, by kernel_rfl, by kernel_rfl, by kernel_rfl⟩
noncomputable def ff323 (x6 x7 : O) (h : HW) : Rs :=
 ob x6 fun a0 =>
 ob x7 fun a1 =>
 some (.ret (.tup [a0, a1]), h)
noncomputable def q323_18 (C : YC) (lf : Nat) (r : K2) (x0 x1 x2 : O) (h : HW) : Rs :=
 ob x0 fun a2 =>
 ob x1 fun a3 =>
 ob x2 fun a4 =>
 bc (C (.fn 337) [a2, a3, a4] h) fun y5 h5 =>
 ob (bin Tryz.prog .neq 3 y5 (.int .i64 0)) fun y6 =>
 yIf y6
 (r (some (.int .i64 0)) (some y5) h5)
 (ob x0 fun a7 =>
 ob x1 fun a8 =>
 ob x2 fun a9 =>
 bc (C (.fn 338) [a7, a8, a9] h5) fun y10 h10 =>
 ob (bin Tryz.prog .lss 3 y10 (.int .i64 0)) fun y11 =>
 yIf y11
 (r (some (.int .i64 0)) (some (.int .i64 2)) h10)
 (ob x0 fun a12 =>
 ob x1 fun a13 =>
 bc (C (.fn 339) [a12, a13] h10) fun y14 h14 =>
 ob (ixS 1 y14 y10) fun y15 =>
 ob (ld1 y15 h14) fun y16 =>
 bc (C (.fn 340) [y16] h14) fun y17 h17 =>
 r (some y17) (some (.int .i64 0)) h17))
theorem q323_18_eq (C : YC) (lf : Nat) (r : K2) (KN : KF) (KE : KX) : ∀ F h, evX fx323 C lf [] F h KN (fun F h => r (F 6) (F 7) h) KE = q323_18 C lf r (F 0) (F 1) (F 2) h := by
  intro F h; kernel_rfl
noncomputable def fs323 (C : YC) (lf : Nat) (a0 a1 a2 : SV) (h : HW) : Rs := q323_18 C lf ff323 (some a0) (some a1) (some a2) h
theorem fs323_eq (C : YC) (lf : Nat) (a0 a1 a2 : SV) (h : HW) : yFn Tryz.prog fx323 C lf [a0, a1, a2] h = fs323 C lf a0 a1 a2 h := fnX (K := (fun F h => ff323 (F 6) (F 7) h)) (by kernel_rfl) (((q323_18_eq C lf ff323 (fun F h => ff323 (F 6) (F 7) h) (fun _ _ _ => none)) _ h).trans (by kernel_rfl))
noncomputable def fy323 : YX Tryz.prog := Y3 fx323 fs323 fs323_eq (by kernel_rfl)

noncomputable def fx325 : XF Tryz.prog := ⟨325, Tryz.f325, fun _ => .text, Tryz.func325, by kernel_rfl, by kernel_rfl, by kernel_rfl, by kernel_rfl⟩
noncomputable def ff325 (x10 : O) (h : HW) : Rs :=
 ob x10 fun a0 =>
 some (.ret a0, h)
noncomputable def q325_42 (C : YC) (lf : Nat) (r : K1) (x0 x1 x2 x3 x4 : O) (h : HW) : Rs :=
 ob x3 fun a1 =>
 b2 (ybx 46 a1 h) fun y2 h2 =>
 ob x4 fun a3 =>
 ob (bin Tryz.prog .and 3 a3 (.int .i64 7)) fun y4 =>
 ob (fa 0 y2) fun y5 =>
 ob (ld1 y5 h2) fun y6 =>
 ob (bin Tryz.prog .eql 3 y6 (.int .i64 0)) fun y7 =>
 yIf y7
 (ob (bin Tryz.prog .and 30 y4 (.int .i64 1)) fun y8 =>
 ob (bin Tryz.prog .eql 30 y8 (.int .i64 0)) fun y9 =>
 bc (gd false (some y9) (ob x0 fun a10 =>
 some (.ret a10, h2)) h2) fun y11 h11 =>
 bc (gd false (some y9) (ob (bin Tryz.prog .and 30 y11 (.int .i64 61440)) fun y12 =>
 some (.ret y12, h11)) h11) fun y13 h13 =>
 bc (gd false (some y9) (ob (bin Tryz.prog .eql 30 y13 (.int .i64 16384)) fun y14 =>
 some (.ret y14, h13)) h13) fun y15 h15 =>
 ob (ypk y9 (.bool true) y15) fun y16 =>
 bc (gd false (some y16) (ob x0 fun a17 =>
 some (.ret a17, h15)) h15) fun y18 h18 =>
 bc (gd false (some y16) (ob (bin Tryz.prog .and 30 y18 (.int .i64 73)) fun y19 =>
 some (.ret y19, h18)) h18) fun y20 h20 =>
 bc (gd false (some y16) (ob (bin Tryz.prog .neq 30 y20 (.int .i64 0)) fun y21 =>
 some (.ret y21, h20)) h20) fun y22 h22 =>
 ob (ypk y16 (.bool true) y22) fun y23 =>
 r (some y23) h22)
 (ob (fa 0 y2) fun y24 =>
 ob (ld1 y24 h2) fun y25 =>
 ob x1 fun a26 =>
 ob (bin Tryz.prog .eql 3 y25 a26) fun y27 =>
 yIf y27
 (ob x0 fun a28 =>
 ob (bin Tryz.prog .shr 30 a28 (.int .u64 6)) fun y29 =>
 ob (bin Tryz.prog .and 30 y29 y4) fun y30 =>
 ob (bin Tryz.prog .eql 30 y30 y4) fun y31 =>
 r (some y31) h2)
 (ob (ldN 5 y2 h2) fun y32 =>
 ob x2 fun a33 =>
 bc (C (.fn 307) [y32, a33] h2) fun y34 h34 =>
 yIf y34
 (ob x0 fun a35 =>
 ob (bin Tryz.prog .shr 30 a35 (.int .u64 3)) fun y36 =>
 ob (bin Tryz.prog .and 30 y36 y4) fun y37 =>
 ob (bin Tryz.prog .eql 30 y37 y4) fun y38 =>
 r (some y38) h34)
 (ob x0 fun a39 =>
 ob (bin Tryz.prog .and 30 a39 y4) fun y40 =>
 ob (bin Tryz.prog .eql 30 y40 y4) fun y41 =>
 r (some y41) h34)))
theorem q325_42_eq (C : YC) (lf : Nat) (r : K1) (KN : KF) (KE : KX) : ∀ F h, evX fx325 C lf [] F h KN (fun F h => r (F 10) h) KE = q325_42 C lf r (F 0) (F 1) (F 2) (F 3) (F 4) h := by
  intro F h; kernel_rfl
noncomputable def fs325 (C : YC) (lf : Nat) (a0 a1 a2 a3 a4 : SV) (h : HW) : Rs := q325_42 C lf ff325 (some a0) (some a1) (some a2) (some a3) (some a4) h
theorem fs325_eq (C : YC) (lf : Nat) (a0 a1 a2 a3 a4 : SV) (h : HW) : yFn Tryz.prog fx325 C lf [a0, a1, a2, a3, a4] h = fs325 C lf a0 a1 a2 a3 a4 h := fnX (K := (fun F h => ff325 (F 10) h)) (by kernel_rfl) (((q325_42_eq C lf ff325 (fun F h => ff325 (F 10) h) (fun _ _ _ => none)) _ h).trans (by kernel_rfl))
noncomputable def fy325 : YX Tryz.prog := Y5 fx325 fs325 fs325_eq (by kernel_rfl)

noncomputable def fx327 : XF Tryz.prog := ⟨327, Tryz.f327, fun _ => .text, Tryz.func327, by kernel_rfl, by kernel_rfl, by kernel_rfl, by kernel_rfl⟩
noncomputable def ff327 (x6 : O) (h : HW) : Rs :=
 ob x6 fun a0 =>
 some (.ret a0, h)
noncomputable def q327_10 (C : YC) (lf : Nat) (r : K1) (x2 x7 x9 : O) (h : HW) : Rs :=
 ob x7 fun a1 =>
 ob x2 fun a2 =>
 ob x9 fun a3 =>
 ob (ixS 1 a3 (.int .i64 0)) fun y4 =>
 ob (ld1 y4 h) fun y5 =>
 ob (semNil a1) fun y6 =>
 ob (fa 12 y6) fun y7 =>
 ob (ixA 278 1 y7 a2) fun y8 =>
 ob (st 1 y8 y5 h) fun h9 =>
 r (some (.bool true)) h9
theorem q327_10_eq (C : YC) (lf : Nat) (r : K1) (KN : KF) (KE : KX) : ∀ F h, evX fx327 C lf [1, 1, 1, 1, 1, 1, 1, 1, 1, 1] F h KN (fun F h => r (F 6) h) KE = q327_10 C lf r (F 2) (F 7) (F 9) h := by
  intro F h; kernel_rfl
noncomputable def q327_39 (C : YC) (lf : Nat) (n : K3) (x2 x7 x8 x9 : O) (h : HW) : Rs :=
 ob x8 fun a11 =>
 ob (bin Tryz.prog .geq 3 a11 (.int .i64 0)) fun y12 =>
 bc (gd true (some y12) (ob x7 fun a13 =>
 some (.ret a13, h)) h) fun y14 h14 =>
 bc (gd true (some y12) (ob x8 fun a15 =>
 some (.ret a15, h14)) h14) fun y16 h16 =>
 bc (gd true (some y12) (ob (semNil y14) fun y17 =>
 some (.ret y17, h16)) h16) fun y18 h18 =>
 bc (gd true (some y12) (ob (fa 290 y18) fun y19 =>
 some (.ret y19, h18)) h18) fun y20 h20 =>
 bc (gd true (some y12) (ob (ixA 17 1 y20 y16) fun y21 =>
 some (.ret y21, h20)) h20) fun y22 h22 =>
 bc (gd true (some y12) (ob (ld1 y22 h22) fun y23 =>
 some (.ret y23, h22)) h22) fun y24 h24 =>
 bc (gd true (some y12) (ob (bin Tryz.prog .eql 3 y24 (.int .i64 0)) fun y25 =>
 some (.ret y25, h24)) h24) fun y26 h26 =>
 ob (ypk y12 y26 (.bool false)) fun y27 =>
 yIf y27
 (ob x7 fun a28 =>
 ob x8 fun a29 =>
 ob x9 fun a30 =>
 ob (ixS 1 a30 (.int .i64 0)) fun y31 =>
 ob (ld1 y31 h26) fun y32 =>
 ob (semNil a28) fun y33 =>
 ob (fa 290 y33) fun y34 =>
 ob (ixA 17 1 y34 a29) fun y35 =>
 ob (st 1 y35 y32 h26) fun h36 =>
 ob x9 fun a37 =>
 ob (semSlice Tryz.prog 44 a37 (some (.int .i64 1)) none) fun y38 =>
 n x2 x7 (some y38) h36)
 (n x2 x7 x9 h26)
theorem q327_39_eq (C : YC) (lf : Nat) (n : K3) (KR : KF) (KE : KX) : ∀ F h, evX fx327 C lf [1, 1, 1, 1, 1, 1, 1, 1, 1, 0] F h (fun F h => n (F 2) (F 7) (F 9) h) KR KE = q327_39 C lf n (F 2) (F 7) (F 8) (F 9) h := by
  intro F h; kernel_rfl
noncomputable def q327_40 (C : YC) (lf : Nat) (r : K1) (x2 x7 x8 x9 : O) (h : HW) : Rs :=
 q327_39 C lf (fun x2 x7 x9 h => q327_10 C lf r x2 x7 x9 h) x2 x7 x8 x9 h
theorem q327_40_eq (C : YC) (lf : Nat) (r : K1) (KN : KF) (KE : KX) : ∀ F h, evX fx327 C lf [1, 1, 1, 1, 1, 1, 1, 1, 1] F h KN (fun F h => r (F 6) h) KE = q327_40 C lf r (F 2) (F 7) (F 8) (F 9) h := cSeq (a := subX fx327 [1, 1, 1, 1, 1, 1, 1, 1, 1, 0]) (b := subX fx327 [1, 1, 1, 1, 1, 1, 1, 1, 1, 1]) (by kernel_rfl) (B := (fun F h => q327_10 C lf r (F 2) (F 7) (F 9) h)) (q327_10_eq C lf r KN KE) (q327_39_eq C lf (fun x2 x7 x9 h => q327_10 C lf r x2 x7 x9 h) (fun F h => r (F 6) h) KE)
noncomputable def q327_63 (C : YC) (lf : Nat) (n : K4) (x2 x7 x8 x9 : O) (h : HW) : Rs :=
 ob x8 fun a41 =>
 ob (bin Tryz.prog .gtr 3 a41 (.int .i64 0)) fun y42 =>
 bc (gd true (some y42) (ob x7 fun a43 =>
 some (.ret a43, h)) h) fun y44 h44 =>
 bc (gd true (some y42) (ob (semNil y44) fun y45 =>
 some (.ret y45, h44)) h44) fun y46 h46 =>
 bc (gd true (some y42) (ob (fa 307 y46) fun y47 =>
 some (.ret y47, h46)) h46) fun y48 h48 =>
 bc (gd true (some y42) (ob (ld1 y48 h48) fun y49 =>
 some (.ret y49, h48)) h48) fun y50 h50 =>
 bc (gd true (some y42) (ob (bin Tryz.prog .eql 3 y50 (.int .i64 0)) fun y51 =>
 some (.ret y51, h50)) h50) fun y52 h52 =>
 ob (ypk y42 y52 (.bool false)) fun y53 =>
 yIf y53
 (ob x7 fun a54 =>
 ob x9 fun a55 =>
 ob (ixS 1 a55 (.int .i64 0)) fun y56 =>
 ob (ld1 y56 h52) fun y57 =>
 ob (semNil a54) fun y58 =>
 ob (fa 307 y58) fun y59 =>
 ob (st 1 y59 y57 h52) fun h60 =>
 ob x9 fun a61 =>
 ob (semSlice Tryz.prog 44 a61 (some (.int .i64 1)) none) fun y62 =>
 n x2 x7 x8 (some y62) h60)
 (n x2 x7 x8 x9 h52)
theorem q327_63_eq (C : YC) (lf : Nat) (n : K4) (KR : KF) (KE : KX) : ∀ F h, evX fx327 C lf [1, 1, 1, 1, 1, 1, 1, 1, 0] F h (fun F h => n (F 2) (F 7) (F 8) (F 9) h) KR KE = q327_63 C lf n (F 2) (F 7) (F 8) (F 9) h := by
  intro F h; kernel_rfl
noncomputable def q327_64 (C : YC) (lf : Nat) (r : K1) (x2 x7 x8 x9 : O) (h : HW) : Rs :=
 q327_63 C lf (fun x2 x7 x8 x9 h => q327_40 C lf r x2 x7 x8 x9 h) x2 x7 x8 x9 h
theorem q327_64_eq (C : YC) (lf : Nat) (r : K1) (KN : KF) (KE : KX) : ∀ F h, evX fx327 C lf [1, 1, 1, 1, 1, 1, 1, 1] F h KN (fun F h => r (F 6) h) KE = q327_64 C lf r (F 2) (F 7) (F 8) (F 9) h := cSeq (a := subX fx327 [1, 1, 1, 1, 1, 1, 1, 1, 0]) (b := subX fx327 [1, 1, 1, 1, 1, 1, 1, 1, 1]) (by kernel_rfl) (B := (fun F h => q327_40 C lf r (F 2) (F 7) (F 8) (F 9) h)) (q327_40_eq C lf r KN KE) (q327_63_eq C lf (fun x2 x7 x8 x9 h => q327_40 C lf r x2 x7 x8 x9 h) (fun F h => r (F 6) h) KE)
noncomputable def q327_81 (C : YC) (lf : Nat) (n : K7) (e0 : K4) (x0 x2 x7 x8 x9 x38 x39 : O) (h : HW) : Rs :=
 ob x39 fun a66 =>
 ob x38 fun a67 =>
 ob (bin Tryz.prog .lss 3 a66 a67) fun y68 =>
 yIf y68
 (ob x0 fun a69 =>
 ob (semNil a69) fun y70 =>
 ob (fa 0 y70) fun y71 =>
 bc (C (.fn 351) [y71] h) fun y72 h72 =>
 ob (ext 0 y72) fun y73 =>
 ob (ext 1 y72) fun y74 =>
 ob x9 fun a75 =>
 ob (bin Tryz.prog .add 3 y73 (.int .i64 1)) fun y76 =>
 b2 (ybs Tryz.prog 44 1 [0] [y76] h72) fun y77 h77 =>
 b2 (ybl Tryz.prog .append #[44, 44] [a75, y77] h77) fun y78 h78 =>
 ob x39 fun a79 =>
 ob (bin Tryz.prog .add 3 a79 (.int .i64 1)) fun y80 =>
 n x0 x2 x7 x8 (some y78) x38 (some y80) h78)
 (e0 x2 x7 x8 x9 h)
theorem q327_81_eq (C : YC) (lf : Nat) (n : K7) (e0 : K4) (KR : KF) (KE : KX) : ∀ F h, evX fx327 C lf [1, 1, 1, 1, 1, 1, 1, 0, 1, 0, 0] F h (fun F h => n (F 0) (F 2) (F 7) (F 8) (F 9) (F 38) (F 39) h) KR (bk 0 (fun F h => e0 (F 2) (F 7) (F 8) (F 9) h) KE) = q327_81 C lf n e0 (F 0) (F 2) (F 7) (F 8) (F 9) (F 38) (F 39) h := by
  intro F h; kernel_rfl
noncomputable def l327_65 (C : YC) (lf : Nat) (e0 : K4) (k : O × O × O × O × O × O × O → HW → Rs) (s : O × O × O × O × O × O × O) (h : HW) : Rs :=
 q327_81 C lf (fun x0 x2 x7 x8 x9 x38 x39 h => k (x0, x2, x7, x8, x9, x38, x39) h) e0 s.1 s.2.1 s.2.2.1 s.2.2.2.1 s.2.2.2.2.1 s.2.2.2.2.2.1 s.2.2.2.2.2.2 h
noncomputable def q327_83 (C : YC) (lf : Nat) (n : K7) (x0 x2 x7 x8 x9 x10 : O) (h : HW) : Rs :=
 ob x10 fun a82 =>
 n x0 x2 x7 x8 x9 (some a82) (some (.int .i64 0)) h
theorem q327_83_eq (C : YC) (lf : Nat) (n : K7) (KR : KF) (KE : KX) : ∀ F h, evX fx327 C lf [1, 1, 1, 1, 1, 1, 1, 0, 0] F h (fun F h => n (F 0) (F 2) (F 7) (F 8) (F 9) (F 38) (F 39) h) KR KE = q327_83 C lf n (F 0) (F 2) (F 7) (F 8) (F 9) (F 10) h := by
  intro F h; kernel_rfl
noncomputable def q327_84 (C : YC) (lf : Nat) (n : K4) (x0 x2 x7 x8 x9 x10 : O) (h : HW) : Rs :=
 q327_83 C lf (fun x0 x2 x7 x8 x9 x38 x39 h => lp (l327_65 C lf n) lf (x0, x2, x7, x8, x9, x38, x39) h) x0 x2 x7 x8 x9 x10 h
theorem q327_84_eq (C : YC) (lf : Nat) (n : K4) (KR : KF) (KE : KX) : ∀ F h, evX fx327 C lf [1, 1, 1, 1, 1, 1, 1, 0] F h (fun F h => n (F 2) (F 7) (F 8) (F 9) h) KR KE = q327_84 C lf n (F 0) (F 2) (F 7) (F 8) (F 9) (F 10) h := cSeq (a := subX fx327 [1, 1, 1, 1, 1, 1, 1, 0, 0]) (b := subX fx327 [1, 1, 1, 1, 1, 1, 1, 0, 1]) (by kernel_rfl) (B := (fun F h => lp (l327_65 C lf n) lf ((F 0), (F 2), (F 7), (F 8), (F 9), (F 38), (F 39)) h)) (cBlock (id := 0) (a := subX fx327 [1, 1, 1, 1, 1, 1, 1, 0, 1, 0]) (by kernel_rfl) (cLoop (a := subX fx327 [1, 1, 1, 1, 1, 1, 1, 0, 1, 0, 0]) (g := fun F => (F 0, F 2, F 7, F 8, F 9, F 38, F 39)) (body := l327_65 C lf n) (by kernel_rfl) (fun k => (q327_81_eq C lf (fun x0 x2 x7 x8 x9 x38 x39 h => k (x0, x2, x7, x8, x9, x38, x39) h) n KR KE)))) (q327_83_eq C lf (fun x0 x2 x7 x8 x9 x38 x39 h => lp (l327_65 C lf n) lf (x0, x2, x7, x8, x9, x38, x39) h) KR KE)
noncomputable def q327_85 (C : YC) (lf : Nat) (r : K1) (x0 x2 x7 x8 x9 x10 : O) (h : HW) : Rs :=
 q327_84 C lf (fun x2 x7 x8 x9 h => q327_64 C lf r x2 x7 x8 x9 h) x0 x2 x7 x8 x9 x10 h
theorem q327_85_eq (C : YC) (lf : Nat) (r : K1) (KN : KF) (KE : KX) : ∀ F h, evX fx327 C lf [1, 1, 1, 1, 1, 1, 1] F h KN (fun F h => r (F 6) h) KE = q327_85 C lf r (F 0) (F 2) (F 7) (F 8) (F 9) (F 10) h := cSeq (a := subX fx327 [1, 1, 1, 1, 1, 1, 1, 0]) (b := subX fx327 [1, 1, 1, 1, 1, 1, 1, 1]) (by kernel_rfl) (B := (fun F h => q327_64 C lf r (F 2) (F 7) (F 8) (F 9) h)) (q327_64_eq C lf r KN KE) (q327_84_eq C lf (fun x2 x7 x8 x9 h => q327_64 C lf r x2 x7 x8 x9 h) (fun F h => r (F 6) h) KE)
noncomputable def q327_92 (C : YC) (lf : Nat) (n : K6) (r : K1) (x0 x2 x7 x8 x9 x10 : O) (h : HW) : Rs :=
 ob x0 fun a86 =>
 ob (semNil a86) fun y87 =>
 ob (fa 0 y87) fun y88 =>
 bc (C (.fn 336) [y88] h) fun y89 h89 =>
 ob x10 fun a90 =>
 ob (bin Tryz.prog .lss 3 y89 a90) fun y91 =>
 yIf y91
 (r (some (.bool false)) h89)
 (n x0 x2 x7 x8 x9 x10 h89)
theorem q327_92_eq (C : YC) (lf : Nat) (n : K6) (r : K1) (KE : KX) : ∀ F h, evX fx327 C lf [1, 1, 1, 1, 1, 1, 0] F h (fun F h => n (F 0) (F 2) (F 7) (F 8) (F 9) (F 10) h) (fun F h => r (F 6) h) KE = q327_92 C lf n r (F 0) (F 2) (F 7) (F 8) (F 9) (F 10) h := by
  intro F h; kernel_rfl
noncomputable def q327_93 (C : YC) (lf : Nat) (r : K1) (x0 x2 x7 x8 x9 x10 : O) (h : HW) : Rs :=
 q327_92 C lf (fun x0 x2 x7 x8 x9 x10 h => q327_85 C lf r x0 x2 x7 x8 x9 x10 h) r x0 x2 x7 x8 x9 x10 h
theorem q327_93_eq (C : YC) (lf : Nat) (r : K1) (KN : KF) (KE : KX) : ∀ F h, evX fx327 C lf [1, 1, 1, 1, 1, 1] F h KN (fun F h => r (F 6) h) KE = q327_93 C lf r (F 0) (F 2) (F 7) (F 8) (F 9) (F 10) h := cSeq (a := subX fx327 [1, 1, 1, 1, 1, 1, 0]) (b := subX fx327 [1, 1, 1, 1, 1, 1, 1]) (by kernel_rfl) (B := (fun F h => q327_85 C lf r (F 0) (F 2) (F 7) (F 8) (F 9) (F 10) h)) (q327_85_eq C lf r KN KE) (q327_92_eq C lf (fun x0 x2 x7 x8 x9 x10 h => q327_85 C lf r x0 x2 x7 x8 x9 x10 h) r KE)
noncomputable def q327_98 (C : YC) (lf : Nat) (n : K6) (x0 x1 x2 x7 x8 x9 : O) (h : HW) : Rs :=
 ob x0 fun a94 =>
 ob x1 fun a95 =>
 ob x2 fun a96 =>
 bc (C (.fn 350) [a94, a95, a96] h) fun y97 h97 =>
 n x0 x2 x7 x8 x9 (some y97) h97
theorem q327_98_eq (C : YC) (lf : Nat) (n : K6) (KR : KF) (KE : KX) : ∀ F h, evX fx327 C lf [1, 1, 1, 1, 1, 0] F h (fun F h => n (F 0) (F 2) (F 7) (F 8) (F 9) (F 10) h) KR KE = q327_98 C lf n (F 0) (F 1) (F 2) (F 7) (F 8) (F 9) h := by
  intro F h; kernel_rfl
noncomputable def q327_99 (C : YC) (lf : Nat) (r : K1) (x0 x1 x2 x7 x8 x9 : O) (h : HW) : Rs :=
 q327_98 C lf (fun x0 x2 x7 x8 x9 x10 h => q327_93 C lf r x0 x2 x7 x8 x9 x10 h) x0 x1 x2 x7 x8 x9 h
theorem q327_99_eq (C : YC) (lf : Nat) (r : K1) (KN : KF) (KE : KX) : ∀ F h, evX fx327 C lf [1, 1, 1, 1, 1] F h KN (fun F h => r (F 6) h) KE = q327_99 C lf r (F 0) (F 1) (F 2) (F 7) (F 8) (F 9) h := cSeq (a := subX fx327 [1, 1, 1, 1, 1, 0]) (b := subX fx327 [1, 1, 1, 1, 1, 1]) (by kernel_rfl) (B := (fun F h => q327_93 C lf r (F 0) (F 2) (F 7) (F 8) (F 9) (F 10) h)) (q327_93_eq C lf r KN KE) (q327_98_eq C lf (fun x0 x2 x7 x8 x9 x10 h => q327_93 C lf r x0 x2 x7 x8 x9 x10 h) (fun F h => r (F 6) h) KE)
noncomputable def q327_100 (C : YC) (lf : Nat) (n : K6) (x0 x1 x2 x7 x8 : O) (h : HW) : Rs :=
 n x0 x1 x2 x7 x8 (some (.val (.slice none 0 0))) h
theorem q327_100_eq (C : YC) (lf : Nat) (n : K6) (KR : KF) (KE : KX) : ∀ F h, evX fx327 C lf [1, 1, 1, 1, 0] F h (fun F h => n (F 0) (F 1) (F 2) (F 7) (F 8) (F 9) h) KR KE = q327_100 C lf n (F 0) (F 1) (F 2) (F 7) (F 8) h := by
  intro F h; kernel_rfl
noncomputable def q327_101 (C : YC) (lf : Nat) (r : K1) (x0 x1 x2 x7 x8 : O) (h : HW) : Rs :=
 q327_100 C lf (fun x0 x1 x2 x7 x8 x9 h => q327_99 C lf r x0 x1 x2 x7 x8 x9 h) x0 x1 x2 x7 x8 h
theorem q327_101_eq (C : YC) (lf : Nat) (r : K1) (KN : KF) (KE : KX) : ∀ F h, evX fx327 C lf [1, 1, 1, 1] F h KN (fun F h => r (F 6) h) KE = q327_101 C lf r (F 0) (F 1) (F 2) (F 7) (F 8) h := cSeq (a := subX fx327 [1, 1, 1, 1, 0]) (b := subX fx327 [1, 1, 1, 1, 1]) (by kernel_rfl) (B := (fun F h => q327_99 C lf r (F 0) (F 1) (F 2) (F 7) (F 8) (F 9) h)) (q327_99_eq C lf r KN KE) (q327_100_eq C lf (fun x0 x1 x2 x7 x8 x9 h => q327_99 C lf r x0 x1 x2 x7 x8 x9 h) (fun F h => r (F 6) h) KE)
noncomputable def q327_104 (C : YC) (lf : Nat) (n : K5) (x0 x1 x2 x7 : O) (h : HW) : Rs :=
 ob x2 fun a102 =>
 bc (C (.fn 349) [a102] h) fun y103 h103 =>
 n x0 x1 x2 x7 (some y103) h103
theorem q327_104_eq (C : YC) (lf : Nat) (n : K5) (KR : KF) (KE : KX) : ∀ F h, evX fx327 C lf [1, 1, 1, 0] F h (fun F h => n (F 0) (F 1) (F 2) (F 7) (F 8) h) KR KE = q327_104 C lf n (F 0) (F 1) (F 2) (F 7) h := by
  intro F h; kernel_rfl
noncomputable def q327_105 (C : YC) (lf : Nat) (r : K1) (x0 x1 x2 x7 : O) (h : HW) : Rs :=
 q327_104 C lf (fun x0 x1 x2 x7 x8 h => q327_101 C lf r x0 x1 x2 x7 x8 h) x0 x1 x2 x7 h
theorem q327_105_eq (C : YC) (lf : Nat) (r : K1) (KN : KF) (KE : KX) : ∀ F h, evX fx327 C lf [1, 1, 1] F h KN (fun F h => r (F 6) h) KE = q327_105 C lf r (F 0) (F 1) (F 2) (F 7) h := cSeq (a := subX fx327 [1, 1, 1, 0]) (b := subX fx327 [1, 1, 1, 1]) (by kernel_rfl) (B := (fun F h => q327_101 C lf r (F 0) (F 1) (F 2) (F 7) (F 8) h)) (q327_101_eq C lf r KN KE) (q327_104_eq C lf (fun x0 x1 x2 x7 x8 h => q327_101 C lf r x0 x1 x2 x7 x8 h) (fun F h => r (F 6) h) KE)
noncomputable def q327_113 (C : YC) (lf : Nat) (n : K4) (r : K1) (x0 x1 x2 x7 : O) (h : HW) : Rs :=
 ob x7 fun a106 =>
 ob x2 fun a107 =>
 ob (semNil a106) fun y108 =>
 ob (fa 12 y108) fun y109 =>
 ob (ixA 278 1 y109 a107) fun y110 =>
 ob (ld1 y110 h) fun y111 =>
 ob (bin Tryz.prog .gtr 3 y111 (.int .i64 0)) fun y112 =>
 yIf y112
 (r (some (.bool true)) h)
 (n x0 x1 x2 x7 h)
theorem q327_113_eq (C : YC) (lf : Nat) (n : K4) (r : K1) (KE : KX) : ∀ F h, evX fx327 C lf [1, 1, 0] F h (fun F h => n (F 0) (F 1) (F 2) (F 7) h) (fun F h => r (F 6) h) KE = q327_113 C lf n r (F 0) (F 1) (F 2) (F 7) h := by
  intro F h; kernel_rfl
noncomputable def q327_114 (C : YC) (lf : Nat) (r : K1) (x0 x1 x2 x7 : O) (h : HW) : Rs :=
 q327_113 C lf (fun x0 x1 x2 x7 h => q327_105 C lf r x0 x1 x2 x7 h) r x0 x1 x2 x7 h
theorem q327_114_eq (C : YC) (lf : Nat) (r : K1) (KN : KF) (KE : KX) : ∀ F h, evX fx327 C lf [1, 1] F h KN (fun F h => r (F 6) h) KE = q327_114 C lf r (F 0) (F 1) (F 2) (F 7) h := cSeq (a := subX fx327 [1, 1, 0]) (b := subX fx327 [1, 1, 1]) (by kernel_rfl) (B := (fun F h => q327_105 C lf r (F 0) (F 1) (F 2) (F 7) h)) (q327_105_eq C lf r KN KE) (q327_113_eq C lf (fun x0 x1 x2 x7 h => q327_105 C lf r x0 x1 x2 x7 h) r KE)
noncomputable def q327_121 (C : YC) (lf : Nat) (n : K4) (x0 x1 x2 : O) (h : HW) : Rs :=
 ob x0 fun a115 =>
 ob (semNil a115) fun y116 =>
 ob (fa 4 y116) fun y117 =>
 ob (ld1 y117 h) fun y118 =>
 ob x1 fun a119 =>
 ob (ixS 308 y118 a119) fun y120 =>
 n x0 x1 x2 (some y120) h
theorem q327_121_eq (C : YC) (lf : Nat) (n : K4) (KR : KF) (KE : KX) : ∀ F h, evX fx327 C lf [1, 0] F h (fun F h => n (F 0) (F 1) (F 2) (F 7) h) KR KE = q327_121 C lf n (F 0) (F 1) (F 2) h := by
  intro F h; kernel_rfl
noncomputable def q327_122 (C : YC) (lf : Nat) (r : K1) (x0 x1 x2 : O) (h : HW) : Rs :=
 q327_121 C lf (fun x0 x1 x2 x7 h => q327_114 C lf r x0 x1 x2 x7 h) x0 x1 x2 h
theorem q327_122_eq (C : YC) (lf : Nat) (r : K1) (KN : KF) (KE : KX) : ∀ F h, evX fx327 C lf [1] F h KN (fun F h => r (F 6) h) KE = q327_122 C lf r (F 0) (F 1) (F 2) h := cSeq (a := subX fx327 [1, 0]) (b := subX fx327 [1, 1]) (by kernel_rfl) (B := (fun F h => q327_114 C lf r (F 0) (F 1) (F 2) (F 7) h)) (q327_114_eq C lf r KN KE) (q327_121_eq C lf (fun x0 x1 x2 x7 h => q327_114 C lf r x0 x1 x2 x7 h) (fun F h => r (F 6) h) KE)
noncomputable def q327_123 (C : YC) (lf : Nat) (n : K3) (x0 x1 x2 : O) (h : HW) : Rs :=
 n x0 x1 x2 h
theorem q327_123_eq (C : YC) (lf : Nat) (n : K3) (KR : KF) (KE : KX) : ∀ F h, evX fx327 C lf [0] F h (fun F h => n (F 0) (F 1) (F 2) h) KR KE = q327_123 C lf n (F 0) (F 1) (F 2) h := by
  intro F h; kernel_rfl
noncomputable def q327_124 (C : YC) (lf : Nat) (r : K1) (x0 x1 x2 : O) (h : HW) : Rs :=
 q327_123 C lf (fun x0 x1 x2 h => q327_122 C lf r x0 x1 x2 h) x0 x1 x2 h
theorem q327_124_eq (C : YC) (lf : Nat) (r : K1) (KN : KF) (KE : KX) : ∀ F h, evX fx327 C lf [] F h KN (fun F h => r (F 6) h) KE = q327_124 C lf r (F 0) (F 1) (F 2) h := cSeq (a := subX fx327 [0]) (b := subX fx327 [1]) (by kernel_rfl) (B := (fun F h => q327_122 C lf r (F 0) (F 1) (F 2) h)) (q327_122_eq C lf r KN KE) (q327_123_eq C lf (fun x0 x1 x2 h => q327_122 C lf r x0 x1 x2 h) (fun F h => r (F 6) h) KE)
noncomputable def fs327 (C : YC) (lf : Nat) (a0 a1 a2 : SV) (h : HW) : Rs := q327_124 C lf ff327 (some a0) (some a1) (some a2) h
theorem fs327_eq (C : YC) (lf : Nat) (a0 a1 a2 : SV) (h : HW) : yFn Tryz.prog fx327 C lf [a0, a1, a2] h = fs327 C lf a0 a1 a2 h := fnX (K := (fun F h => ff327 (F 6) h)) (by kernel_rfl) (((q327_124_eq C lf ff327 (fun F h => ff327 (F 6) h) (fun _ _ _ => none)) _ h).trans (by kernel_rfl))
noncomputable def fy327 : YX Tryz.prog := Y3 fx327 fs327 fs327_eq (by kernel_rfl)

noncomputable def fx330 : XF Tryz.prog := ⟨330, Tryz.f330, fun _ => .text, Tryz.func330, by kernel_rfl, by kernel_rfl, by kernel_rfl, by kernel_rfl⟩
noncomputable def ff330 (x4 x5 : O) (h : HW) : Rs :=
 ob x4 fun a0 =>
 ob x5 fun a1 =>
 some (.ret (.tup [a0, a1]), h)
noncomputable def q330_19 (C : YC) (lf : Nat) (r : K2) (x0 x1 : O) (h : HW) : Rs :=
 ob x0 fun a2 =>
 bc (C (.fn 285) [a2] h) fun y3 h3 =>
 ob (unE .not y3) fun y4 =>
 yIf y4
 (r (some (.val (.slice none 0 0))) (some (.int .i64 14)) h3)
 (ob x0 fun a5 =>
 ob x1 fun a6 =>
 bc (C (.fn 286) [a5, a6] h3) fun y7 h7 =>
 ob (unE .not y7) fun y8 =>
 yIf y8
 (r (some (.val (.slice none 0 0))) (some (.int .i64 22)) h7)
 (ob x0 fun a9 =>
 ob (semNil a9) fun y10 =>
 ob (fa 65 y10) fun y11 =>
 ob (ld1 y11 h7) fun y12 =>
 ob x1 fun a13 =>
 ob (ixS 64 y12 a13) fun y14 =>
 ob (ldN 64 y14 h7) fun y15 =>
 b2 (yAl Tryz.prog 182 h7) fun y16 h16 =>
 ob (st 64 y16 y15 h16) fun h17 =>
 ob (semSlice Tryz.prog 182 y16 none none) fun y18 =>
 r (some y18) (some (.int .i64 0)) h17))
theorem q330_19_eq (C : YC) (lf : Nat) (r : K2) (KN : KF) (KE : KX) : ∀ F h, evX fx330 C lf [] F h KN (fun F h => r (F 4) (F 5) h) KE = q330_19 C lf r (F 0) (F 1) h := by
  intro F h; kernel_rfl
noncomputable def fs330 (C : YC) (lf : Nat) (a0 a1 : SV) (h : HW) : Rs := q330_19 C lf ff330 (some a0) (some a1) h
theorem fs330_eq (C : YC) (lf : Nat) (a0 a1 : SV) (h : HW) : yFn Tryz.prog fx330 C lf [a0, a1] h = fs330 C lf a0 a1 h := fnX (K := (fun F h => ff330 (F 4) (F 5) h)) (by kernel_rfl) (((q330_19_eq C lf ff330 (fun F h => ff330 (F 4) (F 5) h) (fun _ _ _ => none)) _ h).trans (by kernel_rfl))
noncomputable def fy330 : YX Tryz.prog := Y2 fx330 fs330 fs330_eq (by kernel_rfl)

noncomputable def gx331 : XN Tryz.prog := { f := 331, fn := Tryz.f331, k := .indexByte, isFn := Tryz.func331, isPlain := by kernel_rfl, noBody := by kernel_rfl, noNext := by kernel_rfl, isK := by kernel_rfl }

noncomputable def fx332 : XF Tryz.prog := ⟨332, Tryz.f332, fun _ => .text, Tryz.func332, by kernel_rfl, by kernel_rfl, by kernel_rfl, by kernel_rfl⟩
noncomputable def ff332 (x2 : O) (h : HW) : Rs :=
 ob x2 fun a0 =>
 some (.ret a0, h)
noncomputable def q332_13 (C : YC) (lf : Nat) (r : K1) (x0 : O) (h : HW) : Rs :=
 ob x0 fun a1 =>
 ob (bin Tryz.prog .eql 372 a1 (.int .u64 0)) fun y2 =>
 yIf y2
 (r (some (.int .i64 64)) h)
 (ob x0 fun a3 =>
 ob x0 fun a4 =>
 ob (unE .neg a4) fun y5 =>
 ob (bin Tryz.prog .and 372 a3 y5) fun y6 =>
 ob (bin Tryz.prog .mul 372 y6 (.int .u64 285870213051353865)) fun y7 =>
 ob (bin Tryz.prog .shr 372 y7 (.int .u64 58)) fun y8 =>
 gl h.ng 1 fun a9 =>
 ob (ixA 64 1 a9 y8) fun y10 =>
 ob (ld1 y10 h) fun y11 =>
 ob (cvI .i64 y11) fun y12 =>
 r (some y12) h)
theorem q332_13_eq (C : YC) (lf : Nat) (r : K1) (KN : KF) (KE : KX) : ∀ F h, evX fx332 C lf [] F h KN (fun F h => r (F 2) h) KE = q332_13 C lf r (F 0) h := by
  intro F h; kernel_rfl
noncomputable def fs332 (C : YC) (lf : Nat) (a0 : SV) (h : HW) : Rs := q332_13 C lf ff332 (some a0) h
theorem fs332_eq (C : YC) (lf : Nat) (a0 : SV) (h : HW) : yFn Tryz.prog fx332 C lf [a0] h = fs332 C lf a0 h := fnX (K := (fun F h => ff332 (F 2) h)) (by kernel_rfl) (((q332_13_eq C lf ff332 (fun F h => ff332 (F 2) h) (fun _ _ _ => none)) _ h).trans (by kernel_rfl))
noncomputable def fy332 : YX Tryz.prog := Y1 fx332 fs332 fs332_eq (by kernel_rfl)

noncomputable def fx334 : XF Tryz.prog := ⟨334, Tryz.f334, fun _ => .text, Tryz.func334, by kernel_rfl, by kernel_rfl, by kernel_rfl, by kernel_rfl⟩
noncomputable def ff334 (x2 : O) (h : HW) : Rs :=
 ob x2 fun a0 =>
 some (.ret a0, h)
noncomputable def q334_8 (C : YC) (lf : Nat) (r : K1) (x0 : O) (h : HW) : Rs :=
 ob x0 fun a1 =>
 ob (bin Tryz.prog .eql 9 a1 (.str (bs [46]))) fun y2 =>
 bc (gd false (some y2) (ob x0 fun a3 =>
 some (.ret a3, h)) h) fun y4 h4 =>
 bc (gd false (some y2) (ob (bin Tryz.prog .eql 9 y4 (.str (bs [46, 46]))) fun y5 =>
 some (.ret y5, h4)) h4) fun y6 h6 =>
 ob (ypk y2 (.bool true) y6) fun y7 =>
 r (some y7) h6
theorem q334_8_eq (C : YC) (lf : Nat) (r : K1) (KN : KF) (KE : KX) : ∀ F h, evX fx334 C lf [] F h KN (fun F h => r (F 2) h) KE = q334_8 C lf r (F 0) h := by
  intro F h; kernel_rfl
noncomputable def fs334 (C : YC) (lf : Nat) (a0 : SV) (h : HW) : Rs := q334_8 C lf ff334 (some a0) h
theorem fs334_eq (C : YC) (lf : Nat) (a0 : SV) (h : HW) : yFn Tryz.prog fx334 C lf [a0] h = fs334 C lf a0 h := fnX (K := (fun F h => ff334 (F 2) h)) (by kernel_rfl) (((q334_8_eq C lf ff334 (fun F h => ff334 (F 2) h) (fun _ _ _ => none)) _ h).trans (by kernel_rfl))
noncomputable def fy334 : YX Tryz.prog := Y1 fx334 fs334 fs334_eq (by kernel_rfl)

noncomputable def fx335 : XF Tryz.prog := ⟨335, Tryz.f335, fun _ => .text, Tryz.func335, by kernel_rfl, by kernel_rfl, by kernel_rfl, by kernel_rfl⟩
noncomputable def ff335 (x4 : O) (h : HW) : Rs :=
 ob x4 fun a0 =>
 some (.ret a0, h)
noncomputable def q335_33 (C : YC) (lf : Nat) (r : K1) (x0 x1 : O) (h : HW) : Rs :=
 ob x0 fun a1 =>
 ob (semNil a1) fun y2 =>
 ob (fa 0 y2) fun y3 =>
 ob (ld1 y3 h) fun y4 =>
 ob x1 fun a5 =>
 bc (C (.fn 355) [y4, a5] h) fun y6 h6 =>
 ob (ext 0 y6) fun y7 =>
 ob (ext 1 y6) fun y8 =>
 ob (bin Tryz.prog .gtr 3 y7 (.int .i64 0)) fun y9 =>
 yIf y9
 (r (some (.int .i64 0)) h6)
 (ob x0 fun a10 =>
 ob (semNil a10) fun y11 =>
 ob (fa 0 y11) fun y12 =>
 ob (ld1 y12 h6) fun y13 =>
 ob (semNil y13) fun y14 =>
 ob (fa 4 y14) fun y15 =>
 ob (ld1 y15 h6) fun y16 =>
 ob x1 fun a17 =>
 ob (ixS 308 y16 a17) fun y18 =>
 ob (fa 1 y18) fun y19 =>
 ob (fa 4 y19) fun y20 =>
 ob (ld1 y20 h6) fun y21 =>
 ob (bin Tryz.prog .quo 3 y21 (.int .i64 32)) fun y22 =>
 ob (bin Tryz.prog .mul 3 y22 (.int .i64 32)) fun y23 =>
 ob (bin Tryz.prog .add 3 y23 (.int .i64 32)) fun y24 =>
 ob (bin Tryz.prog .gtr 3 y24 (.int .i64 17792)) fun y25 =>
 yIf y25
 (r (some (.int .i64 (-1))) h6)
 (ob x0 fun a26 =>
 ob (semNil a26) fun y27 =>
 ob (fa 0 y27) fun y28 =>
 ob (ld1 y28 h6) fun y29 =>
 ob x1 fun a30 =>
 ob (bin Tryz.prog .quo 3 y23 (.int .i64 64)) fun y31 =>
 bc (C (.fn 350) [y29, a30, y31] h6) fun y32 h32 =>
 r (some y32) h32))
theorem q335_33_eq (C : YC) (lf : Nat) (r : K1) (KN : KF) (KE : KX) : ∀ F h, evX fx335 C lf [] F h KN (fun F h => r (F 4) h) KE = q335_33 C lf r (F 0) (F 1) h := by
  intro F h; kernel_rfl
noncomputable def fs335 (C : YC) (lf : Nat) (a0 a1 : SV) (h : HW) : Rs := q335_33 C lf ff335 (some a0) (some a1) h
theorem fs335_eq (C : YC) (lf : Nat) (a0 a1 : SV) (h : HW) : yFn Tryz.prog fx335 C lf [a0, a1] h = fs335 C lf a0 a1 h := fnX (K := (fun F h => ff335 (F 4) h)) (by kernel_rfl) (((q335_33_eq C lf ff335 (fun F h => ff335 (F 4) h) (fun _ _ _ => none)) _ h).trans (by kernel_rfl))
noncomputable def fy335 : YX Tryz.prog := Y2 fx335 fs335 fs335_eq (by kernel_rfl)

noncomputable def fx336 : XF Tryz.prog := ⟨336, Tryz.f336, fun _ => .text, Tryz.func336, by kernel_rfl, by kernel_rfl, by kernel_rfl, by kernel_rfl⟩
noncomputable def ff336 (x2 : O) (h : HW) : Rs :=
 ob x2 fun a0 =>
 some (.ret a0, h)
noncomputable def q336_2 (C : YC) (lf : Nat) (r : K1) (x3 : O) (h : HW) : Rs :=
 ob x3 fun a1 =>
 r (some a1) h
theorem q336_2_eq (C : YC) (lf : Nat) (r : K1) (KN : KF) (KE : KX) : ∀ F h, evX fx336 C lf [1, 1, 1] F h KN (fun F h => r (F 2) h) KE = q336_2 C lf r (F 3) h := by
  intro F h; kernel_rfl
noncomputable def q336_18 (C : YC) (lf : Nat) (n : K4) (e0 : K1) (x3 x9 x10 x11 : O) (h : HW) : Rs :=
 ob x11 fun a4 =>
 ob x10 fun a5 =>
 ob (bin Tryz.prog .lss 3 a4 a5) fun y6 =>
 yIf y6
 (ob x9 fun a7 =>
 ob x11 fun a8 =>
 ob (ixS 1 a7 a8) fun y9 =>
 ob (ld1 y9 h) fun y10 =>
 ob (unE .not y10) fun y11 =>
 yIf y11
 (ob x3 fun a12 =>
 ob (bin Tryz.prog .add 3 a12 (.int .i64 1)) fun y13 =>
 ob x11 fun a14 =>
 ob (bin Tryz.prog .add 3 a14 (.int .i64 1)) fun y15 =>
 n (some y13) x9 x10 (some y15) h)
 (ob x11 fun a16 =>
 ob (bin Tryz.prog .add 3 a16 (.int .i64 1)) fun y17 =>
 n x3 x9 x10 (some y17) h))
 (e0 x3 h)
theorem q336_18_eq (C : YC) (lf : Nat) (n : K4) (e0 : K1) (KR : KF) (KE : KX) : ∀ F h, evX fx336 C lf [1, 1, 0, 1, 0, 0] F h (fun F h => n (F 3) (F 9) (F 10) (F 11) h) KR (bk 0 (fun F h => e0 (F 3) h) KE) = q336_18 C lf n e0 (F 3) (F 9) (F 10) (F 11) h := by
  intro F h; kernel_rfl
noncomputable def l336_3 (C : YC) (lf : Nat) (e0 : K1) (k : O × O × O × O → HW → Rs) (s : O × O × O × O) (h : HW) : Rs :=
 q336_18 C lf (fun x3 x9 x10 x11 h => k (x3, x9, x10, x11) h) e0 s.1 s.2.1 s.2.2.1 s.2.2.2 h
noncomputable def q336_24 (C : YC) (lf : Nat) (n : K4) (x0 x3 : O) (h : HW) : Rs :=
 ob x0 fun a19 =>
 ob (semNil a19) fun y20 =>
 ob (fa 0 y20) fun y21 =>
 ob (ld1 y21 h) fun y22 =>
 ob (lenE Tryz.prog 106 y22) fun y23 =>
 n x3 (some y22) (some y23) (some (.int .i64 0)) h
theorem q336_24_eq (C : YC) (lf : Nat) (n : K4) (KR : KF) (KE : KX) : ∀ F h, evX fx336 C lf [1, 1, 0, 0] F h (fun F h => n (F 3) (F 9) (F 10) (F 11) h) KR KE = q336_24 C lf n (F 0) (F 3) h := by
  intro F h; kernel_rfl
noncomputable def q336_25 (C : YC) (lf : Nat) (n : K1) (x0 x3 : O) (h : HW) : Rs :=
 q336_24 C lf (fun x3 x9 x10 x11 h => lp (l336_3 C lf n) lf (x3, x9, x10, x11) h) x0 x3 h
theorem q336_25_eq (C : YC) (lf : Nat) (n : K1) (KR : KF) (KE : KX) : ∀ F h, evX fx336 C lf [1, 1, 0] F h (fun F h => n (F 3) h) KR KE = q336_25 C lf n (F 0) (F 3) h := cSeq (a := subX fx336 [1, 1, 0, 0]) (b := subX fx336 [1, 1, 0, 1]) (by kernel_rfl) (B := (fun F h => lp (l336_3 C lf n) lf ((F 3), (F 9), (F 10), (F 11)) h)) (cBlock (id := 0) (a := subX fx336 [1, 1, 0, 1, 0]) (by kernel_rfl) (cLoop (a := subX fx336 [1, 1, 0, 1, 0, 0]) (g := fun F => (F 3, F 9, F 10, F 11)) (body := l336_3 C lf n) (by kernel_rfl) (fun k => (q336_18_eq C lf (fun x3 x9 x10 x11 h => k (x3, x9, x10, x11) h) n KR KE)))) (q336_24_eq C lf (fun x3 x9 x10 x11 h => lp (l336_3 C lf n) lf (x3, x9, x10, x11) h) KR KE)
noncomputable def q336_26 (C : YC) (lf : Nat) (r : K1) (x0 x3 : O) (h : HW) : Rs :=
 q336_25 C lf (fun x3 h => q336_2 C lf r x3 h) x0 x3 h
theorem q336_26_eq (C : YC) (lf : Nat) (r : K1) (KN : KF) (KE : KX) : ∀ F h, evX fx336 C lf [1, 1] F h KN (fun F h => r (F 2) h) KE = q336_26 C lf r (F 0) (F 3) h := cSeq (a := subX fx336 [1, 1, 0]) (b := subX fx336 [1, 1, 1]) (by kernel_rfl) (B := (fun F h => q336_2 C lf r (F 3) h)) (q336_2_eq C lf r KN KE) (q336_25_eq C lf (fun x3 h => q336_2 C lf r x3 h) (fun F h => r (F 2) h) KE)
noncomputable def q336_27 (C : YC) (lf : Nat) (n : K2) (x0 : O) (h : HW) : Rs :=
 n x0 (some (.int .i64 0)) h
theorem q336_27_eq (C : YC) (lf : Nat) (n : K2) (KR : KF) (KE : KX) : ∀ F h, evX fx336 C lf [1, 0] F h (fun F h => n (F 0) (F 3) h) KR KE = q336_27 C lf n (F 0) h := by
  intro F h; kernel_rfl
noncomputable def q336_28 (C : YC) (lf : Nat) (r : K1) (x0 : O) (h : HW) : Rs :=
 q336_27 C lf (fun x0 x3 h => q336_26 C lf r x0 x3 h) x0 h
theorem q336_28_eq (C : YC) (lf : Nat) (r : K1) (KN : KF) (KE : KX) : ∀ F h, evX fx336 C lf [1] F h KN (fun F h => r (F 2) h) KE = q336_28 C lf r (F 0) h := cSeq (a := subX fx336 [1, 0]) (b := subX fx336 [1, 1]) (by kernel_rfl) (B := (fun F h => q336_26 C lf r (F 0) (F 3) h)) (q336_26_eq C lf r KN KE) (q336_27_eq C lf (fun x0 x3 h => q336_26 C lf r x0 x3 h) (fun F h => r (F 2) h) KE)
noncomputable def q336_29 (C : YC) (lf : Nat) (n : K1) (x0 : O) (h : HW) : Rs :=
 n x0 h
theorem q336_29_eq (C : YC) (lf : Nat) (n : K1) (KR : KF) (KE : KX) : ∀ F h, evX fx336 C lf [0] F h (fun F h => n (F 0) h) KR KE = q336_29 C lf n (F 0) h := by
  intro F h; kernel_rfl
noncomputable def q336_30 (C : YC) (lf : Nat) (r : K1) (x0 : O) (h : HW) : Rs :=
 q336_29 C lf (fun x0 h => q336_28 C lf r x0 h) x0 h
theorem q336_30_eq (C : YC) (lf : Nat) (r : K1) (KN : KF) (KE : KX) : ∀ F h, evX fx336 C lf [] F h KN (fun F h => r (F 2) h) KE = q336_30 C lf r (F 0) h := cSeq (a := subX fx336 [0]) (b := subX fx336 [1]) (by kernel_rfl) (B := (fun F h => q336_28 C lf r (F 0) h)) (q336_28_eq C lf r KN KE) (q336_29_eq C lf (fun x0 h => q336_28 C lf r x0 h) (fun F h => r (F 2) h) KE)
noncomputable def fs336 (C : YC) (lf : Nat) (a0 : SV) (h : HW) : Rs := q336_30 C lf ff336 (some a0) h
theorem fs336_eq (C : YC) (lf : Nat) (a0 : SV) (h : HW) : yFn Tryz.prog fx336 C lf [a0] h = fs336 C lf a0 h := fnX (K := (fun F h => ff336 (F 2) h)) (by kernel_rfl) (((q336_30_eq C lf ff336 (fun F h => ff336 (F 2) h) (fun _ _ _ => none)) _ h).trans (by kernel_rfl))
noncomputable def fy336 : YX Tryz.prog := Y1 fx336 fs336 fs336_eq (by kernel_rfl)

noncomputable def fx337 : XF Tryz.prog := ⟨337, Tryz.f337, fun _ => .text, Tryz.func337, by kernel_rfl, by kernel_rfl, by kernel_rfl, by kernel_rfl⟩
noncomputable def ff337 (x6 : O) (h : HW) : Rs :=
 ob x6 fun a0 =>
 some (.ret a0, h)
noncomputable def q337_7 (C : YC) (lf : Nat) (r : K1) (x0 x1 x2 : O) (h : HW) : Rs :=
 ob x0 fun a1 =>
 ob x1 fun a2 =>
 bc (C (.fn 291) [a1, a2] h) fun y3 h3 =>
 ob (bin Tryz.prog .eql 3 y3 (.int .i64 0)) fun y4 =>
 yIf y4
 (ob x2 fun a5 =>
 bc (C (.fn 356) [a5] h3) fun y6 h6 =>
 r (some y6) h6)
 (r (some y3) h3)
theorem q337_7_eq (C : YC) (lf : Nat) (r : K1) (KN : KF) (KE : KX) : ∀ F h, evX fx337 C lf [] F h KN (fun F h => r (F 6) h) KE = q337_7 C lf r (F 0) (F 1) (F 2) h := by
  intro F h; kernel_rfl
noncomputable def fs337 (C : YC) (lf : Nat) (a0 a1 a2 : SV) (h : HW) : Rs := q337_7 C lf ff337 (some a0) (some a1) (some a2) h
theorem fs337_eq (C : YC) (lf : Nat) (a0 a1 a2 : SV) (h : HW) : yFn Tryz.prog fx337 C lf [a0, a1, a2] h = fs337 C lf a0 a1 a2 h := fnX (K := (fun F h => ff337 (F 6) h)) (by kernel_rfl) (((q337_7_eq C lf ff337 (fun F h => ff337 (F 6) h) (fun _ _ _ => none)) _ h).trans (by kernel_rfl))
noncomputable def fy337 : YX Tryz.prog := Y3 fx337 fs337 fs337_eq (by kernel_rfl)

noncomputable def fx338 : XF Tryz.prog := ⟨338, Tryz.f338, fun _ => .text, Tryz.func338, by kernel_rfl, by kernel_rfl, by kernel_rfl, by kernel_rfl⟩
noncomputable def ff338 (x6 : O) (h : HW) : Rs :=
 ob x6 fun a0 =>
 some (.ret a0, h)
noncomputable def q338_1 (C : YC) (lf : Nat) (r : K1) (h : HW) : Rs :=
 r (some (.int .i64 (-1))) h
theorem q338_1_eq (C : YC) (lf : Nat) (r : K1) (KN : KF) (KE : KX) : ∀ F h, evX fx338 C lf [1, 1] F h KN (fun F h => r (F 6) h) KE = q338_1 C lf r h := by
  intro F h; kernel_rfl
noncomputable def q338_23 (C : YC) (lf : Nat) (n : K4) (r : K1) (e0 : K0) (x2 x11 x12 x13 : O) (h : HW) : Rs :=
 ob x13 fun a3 =>
 ob x12 fun a4 =>
 ob (bin Tryz.prog .lss 3 a3 a4) fun y5 =>
 yIf y5
 (ob x13 fun a6 =>
 ob x11 fun a7 =>
 ob x13 fun a8 =>
 ob (ixS 1 a7 a8) fun y9 =>
 ob (ld1 y9 h) fun y10 =>
 bc (C (.fn 340) [y10] h) fun y11 h11 =>
 ob (bin Tryz.prog .gtr 3 y11 (.int .i64 0)) fun y12 =>
 bc (gd true (some y12) (some (.ret y10, h11)) h11) fun y13 h13 =>
 bc (gd true (some y12) (bc (C (.fn 357) [y13] h13) fun y14 h14 =>
 some (.ret y14, h14)) h13) fun y15 h15 =>
 bc (gd true (some y12) (ob x2 fun a16 =>
 some (.ret a16, h15)) h15) fun y17 h17 =>
 bc (gd true (some y12) (ob (bin Tryz.prog .eql 9 y15 y17) fun y18 =>
 some (.ret y18, h17)) h17) fun y19 h19 =>
 ob (ypk y12 y19 (.bool false)) fun y20 =>
 yIf y20
 (r (some a6) h19)
 (ob x13 fun a21 =>
 ob (bin Tryz.prog .add 3 a21 (.int .i64 1)) fun y22 =>
 n x2 x11 x12 (some y22) h19))
 (e0 h)
theorem q338_23_eq (C : YC) (lf : Nat) (n : K4) (r : K1) (e0 : K0) (KE : KX) : ∀ F h, evX fx338 C lf [1, 0, 1, 0, 0] F h (fun F h => n (F 2) (F 11) (F 12) (F 13) h) (fun F h => r (F 6) h) (bk 0 (fun F h => e0 h) KE) = q338_23 C lf n r e0 (F 2) (F 11) (F 12) (F 13) h := by
  intro F h; kernel_rfl
noncomputable def l338_2 (C : YC) (lf : Nat) (r : K1) (e0 : K0) (k : O × O × O × O → HW → Rs) (s : O × O × O × O) (h : HW) : Rs :=
 q338_23 C lf (fun x2 x11 x12 x13 h => k (x2, x11, x12, x13) h) r e0 s.1 s.2.1 s.2.2.1 s.2.2.2 h
noncomputable def q338_28 (C : YC) (lf : Nat) (n : K4) (x0 x1 x2 : O) (h : HW) : Rs :=
 ob x0 fun a24 =>
 ob x1 fun a25 =>
 bc (C (.fn 339) [a24, a25] h) fun y26 h26 =>
 ob (lenE Tryz.prog 385 y26) fun y27 =>
 n x2 (some y26) (some y27) (some (.int .i64 0)) h26
theorem q338_28_eq (C : YC) (lf : Nat) (n : K4) (KR : KF) (KE : KX) : ∀ F h, evX fx338 C lf [1, 0, 0] F h (fun F h => n (F 2) (F 11) (F 12) (F 13) h) KR KE = q338_28 C lf n (F 0) (F 1) (F 2) h := by
  intro F h; kernel_rfl
noncomputable def q338_29 (C : YC) (lf : Nat) (n : K0) (r : K1) (x0 x1 x2 : O) (h : HW) : Rs :=
 q338_28 C lf (fun x2 x11 x12 x13 h => lp (l338_2 C lf r n) lf (x2, x11, x12, x13) h) x0 x1 x2 h
theorem q338_29_eq (C : YC) (lf : Nat) (n : K0) (r : K1) (KE : KX) : ∀ F h, evX fx338 C lf [1, 0] F h (fun F h => n h) (fun F h => r (F 6) h) KE = q338_29 C lf n r (F 0) (F 1) (F 2) h := cSeq (a := subX fx338 [1, 0, 0]) (b := subX fx338 [1, 0, 1]) (by kernel_rfl) (B := (fun F h => lp (l338_2 C lf r n) lf ((F 2), (F 11), (F 12), (F 13)) h)) (cBlock (id := 0) (a := subX fx338 [1, 0, 1, 0]) (by kernel_rfl) (cLoop (a := subX fx338 [1, 0, 1, 0, 0]) (g := fun F => (F 2, F 11, F 12, F 13)) (body := l338_2 C lf r n) (by kernel_rfl) (fun k => (q338_23_eq C lf (fun x2 x11 x12 x13 h => k (x2, x11, x12, x13) h) r n KE)))) (q338_28_eq C lf (fun x2 x11 x12 x13 h => lp (l338_2 C lf r n) lf (x2, x11, x12, x13) h) (fun F h => r (F 6) h) KE)
noncomputable def q338_30 (C : YC) (lf : Nat) (r : K1) (x0 x1 x2 : O) (h : HW) : Rs :=
 q338_29 C lf (fun h => q338_1 C lf r h) r x0 x1 x2 h
theorem q338_30_eq (C : YC) (lf : Nat) (r : K1) (KN : KF) (KE : KX) : ∀ F h, evX fx338 C lf [1] F h KN (fun F h => r (F 6) h) KE = q338_30 C lf r (F 0) (F 1) (F 2) h := cSeq (a := subX fx338 [1, 0]) (b := subX fx338 [1, 1]) (by kernel_rfl) (B := (fun F h => q338_1 C lf r h)) (q338_1_eq C lf r KN KE) (q338_29_eq C lf (fun h => q338_1 C lf r h) r KE)
noncomputable def q338_31 (C : YC) (lf : Nat) (n : K3) (x0 x1 x2 : O) (h : HW) : Rs :=
 n x0 x1 x2 h
theorem q338_31_eq (C : YC) (lf : Nat) (n : K3) (KR : KF) (KE : KX) : ∀ F h, evX fx338 C lf [0] F h (fun F h => n (F 0) (F 1) (F 2) h) KR KE = q338_31 C lf n (F 0) (F 1) (F 2) h := by
  intro F h; kernel_rfl
noncomputable def q338_32 (C : YC) (lf : Nat) (r : K1) (x0 x1 x2 : O) (h : HW) : Rs :=
 q338_31 C lf (fun x0 x1 x2 h => q338_30 C lf r x0 x1 x2 h) x0 x1 x2 h
theorem q338_32_eq (C : YC) (lf : Nat) (r : K1) (KN : KF) (KE : KX) : ∀ F h, evX fx338 C lf [] F h KN (fun F h => r (F 6) h) KE = q338_32 C lf r (F 0) (F 1) (F 2) h := cSeq (a := subX fx338 [0]) (b := subX fx338 [1]) (by kernel_rfl) (B := (fun F h => q338_30 C lf r (F 0) (F 1) (F 2) h)) (q338_30_eq C lf r KN KE) (q338_31_eq C lf (fun x0 x1 x2 h => q338_30 C lf r x0 x1 x2 h) (fun F h => r (F 6) h) KE)
noncomputable def fs338 (C : YC) (lf : Nat) (a0 a1 a2 : SV) (h : HW) : Rs := q338_32 C lf ff338 (some a0) (some a1) (some a2) h
theorem fs338_eq (C : YC) (lf : Nat) (a0 a1 a2 : SV) (h : HW) : yFn Tryz.prog fx338 C lf [a0, a1, a2] h = fs338 C lf a0 a1 a2 h := fnX (K := (fun F h => ff338 (F 6) h)) (by kernel_rfl) (((q338_32_eq C lf ff338 (fun F h => ff338 (F 6) h) (fun _ _ _ => none)) _ h).trans (by kernel_rfl))
noncomputable def fy338 : YX Tryz.prog := Y3 fx338 fs338 fs338_eq (by kernel_rfl)

noncomputable def fx339 : XF Tryz.prog := ⟨339, Tryz.f339, fun _ => .text, Tryz.func339, by kernel_rfl, by kernel_rfl, by kernel_rfl, by kernel_rfl⟩
noncomputable def ff339 (x4 : O) (h : HW) : Rs :=
 ob x4 fun a0 =>
 some (.ret a0, h)
noncomputable def q339_2 (C : YC) (lf : Nat) (r : K1) (x7 : O) (h : HW) : Rs :=
 ob x7 fun a1 =>
 r (some a1) h
theorem q339_2_eq (C : YC) (lf : Nat) (r : K1) (KN : KF) (KE : KX) : ∀ F h, evX fx339 C lf [1, 1, 1, 1] F h KN (fun F h => r (F 4) h) KE = q339_2 C lf r (F 7) h := by
  intro F h; kernel_rfl
noncomputable def q339_14 (C : YC) (lf : Nat) (n : K2) (e0 : K1) (x5 x7 : O) (h : HW) : Rs :=
 ob x5 fun a4 =>
 ob (lenE Tryz.prog 31 a4) fun y5 =>
 ob (bin Tryz.prog .geq 3 y5 (.int .i64 32)) fun y6 =>
 yIf y6
 (ob x7 fun a7 =>
 ob x5 fun a8 =>
 ob (semSlice Tryz.prog 31 a8 none (some (.int .i64 32))) fun y9 =>
 b2 (ybs Tryz.prog 385 1 [0] [y9] h) fun y10 h10 =>
 b2 (ybl Tryz.prog .append #[385, 385] [a7, y10] h10) fun y11 h11 =>
 ob x5 fun a12 =>
 ob (semSlice Tryz.prog 31 a12 (some (.int .i64 32)) none) fun y13 =>
 n (some y13) (some y11) h11)
 (e0 x7 h)
theorem q339_14_eq (C : YC) (lf : Nat) (n : K2) (e0 : K1) (KR : KF) (KE : KX) : ∀ F h, evX fx339 C lf [1, 1, 1, 0, 0, 0] F h (fun F h => n (F 5) (F 7) h) KR (bk 0 (fun F h => e0 (F 7) h) KE) = q339_14 C lf n e0 (F 5) (F 7) h := by
  intro F h; kernel_rfl
noncomputable def l339_3 (C : YC) (lf : Nat) (e0 : K1) (k : O × O → HW → Rs) (s : O × O) (h : HW) : Rs :=
 q339_14 C lf (fun x5 x7 h => k (x5, x7) h) e0 s.1 s.2 h
noncomputable def q339_15 (C : YC) (lf : Nat) (r : K1) (x5 x7 : O) (h : HW) : Rs :=
 lp (l339_3 C lf (fun x7 h => q339_2 C lf r x7 h)) lf (x5, x7) h
theorem q339_15_eq (C : YC) (lf : Nat) (r : K1) (KN : KF) (KE : KX) : ∀ F h, evX fx339 C lf [1, 1, 1] F h KN (fun F h => r (F 4) h) KE = q339_15 C lf r (F 5) (F 7) h := cSeq (a := subX fx339 [1, 1, 1, 0]) (b := subX fx339 [1, 1, 1, 1]) (by kernel_rfl) (B := (fun F h => q339_2 C lf r (F 7) h)) (q339_2_eq C lf r KN KE) (cBlock (id := 0) (a := subX fx339 [1, 1, 1, 0, 0]) (by kernel_rfl) (cLoop (a := subX fx339 [1, 1, 1, 0, 0, 0]) (g := fun F => (F 5, F 7)) (body := l339_3 C lf (fun x7 h => q339_2 C lf r x7 h)) (by kernel_rfl) (fun k => (q339_14_eq C lf (fun x5 x7 h => k (x5, x7) h) (fun x7 h => q339_2 C lf r x7 h) (fun F h => r (F 4) h) KE))))
noncomputable def q339_16 (C : YC) (lf : Nat) (n : K2) (x5 : O) (h : HW) : Rs :=
 n x5 (some (.val (.slice none 0 0))) h
theorem q339_16_eq (C : YC) (lf : Nat) (n : K2) (KR : KF) (KE : KX) : ∀ F h, evX fx339 C lf [1, 1, 0] F h (fun F h => n (F 5) (F 7) h) KR KE = q339_16 C lf n (F 5) h := by
  intro F h; kernel_rfl
noncomputable def q339_17 (C : YC) (lf : Nat) (r : K1) (x5 : O) (h : HW) : Rs :=
 q339_16 C lf (fun x5 x7 h => q339_15 C lf r x5 x7 h) x5 h
theorem q339_17_eq (C : YC) (lf : Nat) (r : K1) (KN : KF) (KE : KX) : ∀ F h, evX fx339 C lf [1, 1] F h KN (fun F h => r (F 4) h) KE = q339_17 C lf r (F 5) h := cSeq (a := subX fx339 [1, 1, 0]) (b := subX fx339 [1, 1, 1]) (by kernel_rfl) (B := (fun F h => q339_15 C lf r (F 5) (F 7) h)) (q339_15_eq C lf r KN KE) (q339_16_eq C lf (fun x5 x7 h => q339_15 C lf r x5 x7 h) (fun F h => r (F 4) h) KE)
noncomputable def q339_32 (C : YC) (lf : Nat) (n : K1) (x0 x1 : O) (h : HW) : Rs :=
 ob x0 fun a18 =>
 ob x1 fun a19 =>
 ob x0 fun a20 =>
 ob (semNil a20) fun y21 =>
 ob (fa 4 y21) fun y22 =>
 ob (ld1 y22 h) fun y23 =>
 ob x1 fun a24 =>
 ob (ixS 308 y23 a24) fun y25 =>
 ob (fa 1 y25) fun y26 =>
 ob (fa 4 y26) fun y27 =>
 ob (ld1 y27 h) fun y28 =>
 bc (C (.fn 347) [a18, a19, (.int .i64 0), y28] h) fun y29 h29 =>
 ob (ext 0 y29) fun y30 =>
 ob (ext 1 y29) fun y31 =>
 n (some y30) h29
theorem q339_32_eq (C : YC) (lf : Nat) (n : K1) (KR : KF) (KE : KX) : ∀ F h, evX fx339 C lf [1, 0] F h (fun F h => n (F 5) h) KR KE = q339_32 C lf n (F 0) (F 1) h := by
  intro F h; kernel_rfl
noncomputable def q339_33 (C : YC) (lf : Nat) (r : K1) (x0 x1 : O) (h : HW) : Rs :=
 q339_32 C lf (fun x5 h => q339_17 C lf r x5 h) x0 x1 h
theorem q339_33_eq (C : YC) (lf : Nat) (r : K1) (KN : KF) (KE : KX) : ∀ F h, evX fx339 C lf [1] F h KN (fun F h => r (F 4) h) KE = q339_33 C lf r (F 0) (F 1) h := cSeq (a := subX fx339 [1, 0]) (b := subX fx339 [1, 1]) (by kernel_rfl) (B := (fun F h => q339_17 C lf r (F 5) h)) (q339_17_eq C lf r KN KE) (q339_32_eq C lf (fun x5 h => q339_17 C lf r x5 h) (fun F h => r (F 4) h) KE)
noncomputable def q339_34 (C : YC) (lf : Nat) (n : K2) (x0 x1 : O) (h : HW) : Rs :=
 n x0 x1 h
theorem q339_34_eq (C : YC) (lf : Nat) (n : K2) (KR : KF) (KE : KX) : ∀ F h, evX fx339 C lf [0] F h (fun F h => n (F 0) (F 1) h) KR KE = q339_34 C lf n (F 0) (F 1) h := by
  intro F h; kernel_rfl
noncomputable def q339_35 (C : YC) (lf : Nat) (r : K1) (x0 x1 : O) (h : HW) : Rs :=
 q339_34 C lf (fun x0 x1 h => q339_33 C lf r x0 x1 h) x0 x1 h
theorem q339_35_eq (C : YC) (lf : Nat) (r : K1) (KN : KF) (KE : KX) : ∀ F h, evX fx339 C lf [] F h KN (fun F h => r (F 4) h) KE = q339_35 C lf r (F 0) (F 1) h := cSeq (a := subX fx339 [0]) (b := subX fx339 [1]) (by kernel_rfl) (B := (fun F h => q339_33 C lf r (F 0) (F 1) h)) (q339_33_eq C lf r KN KE) (q339_34_eq C lf (fun x0 x1 h => q339_33 C lf r x0 x1 h) (fun F h => r (F 4) h) KE)
noncomputable def fs339 (C : YC) (lf : Nat) (a0 a1 : SV) (h : HW) : Rs := q339_35 C lf ff339 (some a0) (some a1) h
theorem fs339_eq (C : YC) (lf : Nat) (a0 a1 : SV) (h : HW) : yFn Tryz.prog fx339 C lf [a0, a1] h = fs339 C lf a0 a1 h := fnX (K := (fun F h => ff339 (F 4) h)) (by kernel_rfl) (((q339_35_eq C lf ff339 (fun F h => ff339 (F 4) h) (fun _ _ _ => none)) _ h).trans (by kernel_rfl))
noncomputable def fy339 : YX Tryz.prog := Y2 fx339 fs339 fs339_eq (by kernel_rfl)

noncomputable def fx340 : XF Tryz.prog := ⟨340, Tryz.f340, fun _ => .text, Tryz.func340, by kernel_rfl, by kernel_rfl, by kernel_rfl, by kernel_rfl⟩
noncomputable def ff340 (x2 : O) (h : HW) : Rs :=
 ob x2 fun a0 =>
 some (.ret a0, h)
noncomputable def q340_23 (C : YC) (lf : Nat) (r : K1) (x0 : O) (h : HW) : Rs :=
 ob x0 fun a1 =>
 ob (ixS 1 a1 (.int .i64 0)) fun y2 =>
 ob (ld1 y2 h) fun y3 =>
 ob (cvI .i64 y3) fun y4 =>
 ob x0 fun a5 =>
 ob (ixS 1 a5 (.int .i64 1)) fun y6 =>
 ob (ld1 y6 h) fun y7 =>
 ob (cvI .i64 y7) fun y8 =>
 ob (bin Tryz.prog .shl 3 y8 (.int .u64 8)) fun y9 =>
 ob (bin Tryz.prog .or 3 y4 y9) fun y10 =>
 ob x0 fun a11 =>
 ob (ixS 1 a11 (.int .i64 2)) fun y12 =>
 ob (ld1 y12 h) fun y13 =>
 ob (cvI .i64 y13) fun y14 =>
 ob (bin Tryz.prog .shl 3 y14 (.int .u64 16)) fun y15 =>
 ob (bin Tryz.prog .or 3 y10 y15) fun y16 =>
 ob x0 fun a17 =>
 ob (ixS 1 a17 (.int .i64 3)) fun y18 =>
 ob (ld1 y18 h) fun y19 =>
 ob (cvI .i64 y19) fun y20 =>
 ob (bin Tryz.prog .shl 3 y20 (.int .u64 24)) fun y21 =>
 ob (bin Tryz.prog .or 3 y16 y21) fun y22 =>
 r (some y22) h
theorem q340_23_eq (C : YC) (lf : Nat) (r : K1) (KN : KF) (KE : KX) : ∀ F h, evX fx340 C lf [] F h KN (fun F h => r (F 2) h) KE = q340_23 C lf r (F 0) h := by
  intro F h; kernel_rfl
noncomputable def fs340 (C : YC) (lf : Nat) (a0 : SV) (h : HW) : Rs := q340_23 C lf ff340 (some a0) h
theorem fs340_eq (C : YC) (lf : Nat) (a0 : SV) (h : HW) : yFn Tryz.prog fx340 C lf [a0] h = fs340 C lf a0 h := fnX (K := (fun F h => ff340 (F 2) h)) (by kernel_rfl) (((q340_23_eq C lf ff340 (fun F h => ff340 (F 2) h) (fun _ _ _ => none)) _ h).trans (by kernel_rfl))
noncomputable def fy340 : YX Tryz.prog := Y1 fx340 fs340 fs340_eq (by kernel_rfl)

noncomputable def fx341 : XF Tryz.prog := ⟨341, Tryz.f341, fun _ => .text, Tryz.func341, by kernel_rfl, by kernel_rfl, by kernel_rfl, by kernel_rfl⟩
noncomputable def ff341 (x2 : O) (h : HW) : Rs :=
 ob x2 fun a0 =>
 some (.ret a0, h)
noncomputable def q341_8 (C : YC) (lf : Nat) (r : K1) (x3 x4 : O) (h : HW) : Rs :=
 ob x4 fun a1 =>
 ob (bin Tryz.prog .neq 9 a1 (.str (bs []))) fun y2 =>
 yIf y2
 (ob x3 fun a3 =>
 ob x4 fun a4 =>
 b2 (ybs Tryz.prog 25 1 [0] [a4] h) fun y5 h5 =>
 b2 (ybl Tryz.prog .append #[25, 25] [a3, y5] h5) fun y6 h6 =>
 r (some y6) h6)
 (ob x3 fun a7 =>
 r (some a7) h)
theorem q341_8_eq (C : YC) (lf : Nat) (r : K1) (KN : KF) (KE : KX) : ∀ F h, evX fx341 C lf [1, 1, 1, 1] F h KN (fun F h => r (F 2) h) KE = q341_8 C lf r (F 3) (F 4) h := by
  intro F h; kernel_rfl
noncomputable def q341_37 (C : YC) (lf : Nat) (n : K4) (e0 : K2) (x0 x3 x4 x5 : O) (h : HW) : Rs :=
 ob x5 fun a10 =>
 ob x0 fun a11 =>
 ob (lenE Tryz.prog 9 a11) fun y12 =>
 ob (bin Tryz.prog .lss 3 a10 y12) fun y13 =>
 yIf y13
 (ob x0 fun a14 =>
 ob x5 fun a15 =>
 ob (semIndex Tryz.prog 9 a14 a15) fun y16 =>
 ob (bin Tryz.prog .neq 5 y16 (.int .u8 47)) fun y17 =>
 yIf y17
 (ob x4 fun a18 =>
 ob x0 fun a19 =>
 ob x5 fun a20 =>
 ob x5 fun a21 =>
 ob (bin Tryz.prog .add 3 a21 (.int .i64 1)) fun y22 =>
 ob (semSlice Tryz.prog 9 a19 (some a20) (some y22)) fun y23 =>
 ob (bin Tryz.prog .add 9 a18 y23) fun y24 =>
 ob x5 fun a25 =>
 ob (bin Tryz.prog .add 3 a25 (.int .i64 1)) fun y26 =>
 n x0 x3 (some y24) (some y26) h)
 (ob x4 fun a27 =>
 ob (bin Tryz.prog .neq 9 a27 (.str (bs []))) fun y28 =>
 yIf y28
 (ob x3 fun a29 =>
 ob x4 fun a30 =>
 b2 (ybs Tryz.prog 25 1 [0] [a30] h) fun y31 h31 =>
 b2 (ybl Tryz.prog .append #[25, 25] [a29, y31] h31) fun y32 h32 =>
 ob x5 fun a33 =>
 ob (bin Tryz.prog .add 3 a33 (.int .i64 1)) fun y34 =>
 n x0 (some y32) (some (.str (bs []))) (some y34) h32)
 (ob x5 fun a35 =>
 ob (bin Tryz.prog .add 3 a35 (.int .i64 1)) fun y36 =>
 n x0 x3 (some (.str (bs []))) (some y36) h)))
 (e0 x3 x4 h)
theorem q341_37_eq (C : YC) (lf : Nat) (n : K4) (e0 : K2) (KR : KF) (KE : KX) : ∀ F h, evX fx341 C lf [1, 1, 1, 0, 1, 0, 0] F h (fun F h => n (F 0) (F 3) (F 4) (F 5) h) KR (bk 0 (fun F h => e0 (F 3) (F 4) h) KE) = q341_37 C lf n e0 (F 0) (F 3) (F 4) (F 5) h := by
  intro F h; kernel_rfl
noncomputable def l341_9 (C : YC) (lf : Nat) (e0 : K2) (k : O × O × O × O → HW → Rs) (s : O × O × O × O) (h : HW) : Rs :=
 q341_37 C lf (fun x0 x3 x4 x5 h => k (x0, x3, x4, x5) h) e0 s.1 s.2.1 s.2.2.1 s.2.2.2 h
noncomputable def q341_38 (C : YC) (lf : Nat) (n : K4) (x0 x3 x4 : O) (h : HW) : Rs :=
 n x0 x3 x4 (some (.int .i64 0)) h
theorem q341_38_eq (C : YC) (lf : Nat) (n : K4) (KR : KF) (KE : KX) : ∀ F h, evX fx341 C lf [1, 1, 1, 0, 0] F h (fun F h => n (F 0) (F 3) (F 4) (F 5) h) KR KE = q341_38 C lf n (F 0) (F 3) (F 4) h := by
  intro F h; kernel_rfl
noncomputable def q341_39 (C : YC) (lf : Nat) (n : K2) (x0 x3 x4 : O) (h : HW) : Rs :=
 q341_38 C lf (fun x0 x3 x4 x5 h => lp (l341_9 C lf n) lf (x0, x3, x4, x5) h) x0 x3 x4 h
theorem q341_39_eq (C : YC) (lf : Nat) (n : K2) (KR : KF) (KE : KX) : ∀ F h, evX fx341 C lf [1, 1, 1, 0] F h (fun F h => n (F 3) (F 4) h) KR KE = q341_39 C lf n (F 0) (F 3) (F 4) h := cSeq (a := subX fx341 [1, 1, 1, 0, 0]) (b := subX fx341 [1, 1, 1, 0, 1]) (by kernel_rfl) (B := (fun F h => lp (l341_9 C lf n) lf ((F 0), (F 3), (F 4), (F 5)) h)) (cBlock (id := 0) (a := subX fx341 [1, 1, 1, 0, 1, 0]) (by kernel_rfl) (cLoop (a := subX fx341 [1, 1, 1, 0, 1, 0, 0]) (g := fun F => (F 0, F 3, F 4, F 5)) (body := l341_9 C lf n) (by kernel_rfl) (fun k => (q341_37_eq C lf (fun x0 x3 x4 x5 h => k (x0, x3, x4, x5) h) n KR KE)))) (q341_38_eq C lf (fun x0 x3 x4 x5 h => lp (l341_9 C lf n) lf (x0, x3, x4, x5) h) KR KE)
noncomputable def q341_40 (C : YC) (lf : Nat) (r : K1) (x0 x3 x4 : O) (h : HW) : Rs :=
 q341_39 C lf (fun x3 x4 h => q341_8 C lf r x3 x4 h) x0 x3 x4 h
theorem q341_40_eq (C : YC) (lf : Nat) (r : K1) (KN : KF) (KE : KX) : ∀ F h, evX fx341 C lf [1, 1, 1] F h KN (fun F h => r (F 2) h) KE = q341_40 C lf r (F 0) (F 3) (F 4) h := cSeq (a := subX fx341 [1, 1, 1, 0]) (b := subX fx341 [1, 1, 1, 1]) (by kernel_rfl) (B := (fun F h => q341_8 C lf r (F 3) (F 4) h)) (q341_8_eq C lf r KN KE) (q341_39_eq C lf (fun x3 x4 h => q341_8 C lf r x3 x4 h) (fun F h => r (F 2) h) KE)
noncomputable def q341_41 (C : YC) (lf : Nat) (n : K3) (x0 x3 : O) (h : HW) : Rs :=
 n x0 x3 (some (.str (bs []))) h
theorem q341_41_eq (C : YC) (lf : Nat) (n : K3) (KR : KF) (KE : KX) : ∀ F h, evX fx341 C lf [1, 1, 0] F h (fun F h => n (F 0) (F 3) (F 4) h) KR KE = q341_41 C lf n (F 0) (F 3) h := by
  intro F h; kernel_rfl
noncomputable def q341_42 (C : YC) (lf : Nat) (r : K1) (x0 x3 : O) (h : HW) : Rs :=
 q341_41 C lf (fun x0 x3 x4 h => q341_40 C lf r x0 x3 x4 h) x0 x3 h
theorem q341_42_eq (C : YC) (lf : Nat) (r : K1) (KN : KF) (KE : KX) : ∀ F h, evX fx341 C lf [1, 1] F h KN (fun F h => r (F 2) h) KE = q341_42 C lf r (F 0) (F 3) h := cSeq (a := subX fx341 [1, 1, 0]) (b := subX fx341 [1, 1, 1]) (by kernel_rfl) (B := (fun F h => q341_40 C lf r (F 0) (F 3) (F 4) h)) (q341_40_eq C lf r KN KE) (q341_41_eq C lf (fun x0 x3 x4 h => q341_40 C lf r x0 x3 x4 h) (fun F h => r (F 2) h) KE)
noncomputable def q341_43 (C : YC) (lf : Nat) (n : K2) (x0 : O) (h : HW) : Rs :=
 n x0 (some (.val (.slice none 0 0))) h
theorem q341_43_eq (C : YC) (lf : Nat) (n : K2) (KR : KF) (KE : KX) : ∀ F h, evX fx341 C lf [1, 0] F h (fun F h => n (F 0) (F 3) h) KR KE = q341_43 C lf n (F 0) h := by
  intro F h; kernel_rfl
noncomputable def q341_44 (C : YC) (lf : Nat) (r : K1) (x0 : O) (h : HW) : Rs :=
 q341_43 C lf (fun x0 x3 h => q341_42 C lf r x0 x3 h) x0 h
theorem q341_44_eq (C : YC) (lf : Nat) (r : K1) (KN : KF) (KE : KX) : ∀ F h, evX fx341 C lf [1] F h KN (fun F h => r (F 2) h) KE = q341_44 C lf r (F 0) h := cSeq (a := subX fx341 [1, 0]) (b := subX fx341 [1, 1]) (by kernel_rfl) (B := (fun F h => q341_42 C lf r (F 0) (F 3) h)) (q341_42_eq C lf r KN KE) (q341_43_eq C lf (fun x0 x3 h => q341_42 C lf r x0 x3 h) (fun F h => r (F 2) h) KE)
noncomputable def q341_45 (C : YC) (lf : Nat) (n : K1) (x0 : O) (h : HW) : Rs :=
 n x0 h
theorem q341_45_eq (C : YC) (lf : Nat) (n : K1) (KR : KF) (KE : KX) : ∀ F h, evX fx341 C lf [0] F h (fun F h => n (F 0) h) KR KE = q341_45 C lf n (F 0) h := by
  intro F h; kernel_rfl
noncomputable def q341_46 (C : YC) (lf : Nat) (r : K1) (x0 : O) (h : HW) : Rs :=
 q341_45 C lf (fun x0 h => q341_44 C lf r x0 h) x0 h
theorem q341_46_eq (C : YC) (lf : Nat) (r : K1) (KN : KF) (KE : KX) : ∀ F h, evX fx341 C lf [] F h KN (fun F h => r (F 2) h) KE = q341_46 C lf r (F 0) h := cSeq (a := subX fx341 [0]) (b := subX fx341 [1]) (by kernel_rfl) (B := (fun F h => q341_44 C lf r (F 0) h)) (q341_44_eq C lf r KN KE) (q341_45_eq C lf (fun x0 h => q341_44 C lf r x0 h) (fun F h => r (F 2) h) KE)
noncomputable def fs341 (C : YC) (lf : Nat) (a0 : SV) (h : HW) : Rs := q341_46 C lf ff341 (some a0) h
theorem fs341_eq (C : YC) (lf : Nat) (a0 : SV) (h : HW) : yFn Tryz.prog fx341 C lf [a0] h = fs341 C lf a0 h := fnX (K := (fun F h => ff341 (F 2) h)) (by kernel_rfl) (((q341_46_eq C lf ff341 (fun F h => ff341 (F 2) h) (fun _ _ _ => none)) _ h).trans (by kernel_rfl))
noncomputable def fy341 : YX Tryz.prog := Y1 fx341 fs341 fs341_eq (by kernel_rfl)

noncomputable def fx342 : XF Tryz.prog := ⟨342, Tryz.f342, fun _ => .text, Tryz.func342, by kernel_rfl, by kernel_rfl, by kernel_rfl, by kernel_rfl⟩
noncomputable def ff342 (x2 : O) (h : HW) : Rs :=
 ob x2 fun a0 =>
 some (.ret a0, h)
noncomputable def q342_11 (C : YC) (lf : Nat) (r : K1) (x0 : O) (h : HW) : Rs :=
 ob x0 fun a1 =>
 ob (lenE Tryz.prog 9 a1) fun y2 =>
 ob (bin Tryz.prog .gtr 3 y2 (.int .i64 0)) fun y3 =>
 bc (gd true (some y3) (ob x0 fun a4 =>
 some (.ret a4, h)) h) fun y5 h5 =>
 bc (gd true (some y3) (ob (semIndex Tryz.prog 9 y5 (.int .i64 0)) fun y6 =>
 some (.ret y6, h5)) h5) fun y7 h7 =>
 bc (gd true (some y3) (ob (bin Tryz.prog .eql 5 y7 (.int .u8 47)) fun y8 =>
 some (.ret y8, h7)) h7) fun y9 h9 =>
 ob (ypk y3 y9 (.bool false)) fun y10 =>
 r (some y10) h9
theorem q342_11_eq (C : YC) (lf : Nat) (r : K1) (KN : KF) (KE : KX) : ∀ F h, evX fx342 C lf [] F h KN (fun F h => r (F 2) h) KE = q342_11 C lf r (F 0) h := by
  intro F h; kernel_rfl
noncomputable def fs342 (C : YC) (lf : Nat) (a0 : SV) (h : HW) : Rs := q342_11 C lf ff342 (some a0) h
theorem fs342_eq (C : YC) (lf : Nat) (a0 : SV) (h : HW) : yFn Tryz.prog fx342 C lf [a0] h = fs342 C lf a0 h := fnX (K := (fun F h => ff342 (F 2) h)) (by kernel_rfl) (((q342_11_eq C lf ff342 (fun F h => ff342 (F 2) h) (fun _ _ _ => none)) _ h).trans (by kernel_rfl))
noncomputable def fy342 : YX Tryz.prog := Y1 fx342 fs342 fs342_eq (by kernel_rfl)

noncomputable def fx343 : XF Tryz.prog := ⟨343, Tryz.f343, fun _ => .text, Tryz.func343, by kernel_rfl, by kernel_rfl, by kernel_rfl, by kernel_rfl⟩
noncomputable def ff343 (x4 : O) (h : HW) : Rs :=
 ob x4 fun a0 =>
 some (.ret a0, h)
noncomputable def q343_5 (C : YC) (lf : Nat) (r : K1) (x0 x1 : O) (h : HW) : Rs :=
 ob x0 fun a1 =>
 ob x1 fun a2 =>
 bc (C (.fn 358) [a1, a2] h) fun y3 h3 =>
 ob (bin Tryz.prog .geq 3 y3 (.int .i64 0)) fun y4 =>
 r (some y4) h3
theorem q343_5_eq (C : YC) (lf : Nat) (r : K1) (KN : KF) (KE : KX) : ∀ F h, evX fx343 C lf [] F h KN (fun F h => r (F 4) h) KE = q343_5 C lf r (F 0) (F 1) h := by
  intro F h; kernel_rfl
noncomputable def fs343 (C : YC) (lf : Nat) (a0 a1 : SV) (h : HW) : Rs := q343_5 C lf ff343 (some a0) (some a1) h
theorem fs343_eq (C : YC) (lf : Nat) (a0 a1 : SV) (h : HW) : yFn Tryz.prog fx343 C lf [a0, a1] h = fs343 C lf a0 a1 h := fnX (K := (fun F h => ff343 (F 4) h)) (by kernel_rfl) (((q343_5_eq C lf ff343 (fun F h => ff343 (F 4) h) (fun _ _ _ => none)) _ h).trans (by kernel_rfl))
noncomputable def fy343 : YX Tryz.prog := Y2 fx343 fs343 fs343_eq (by kernel_rfl)

noncomputable def fx344 : XF Tryz.prog := ⟨344, Tryz.f344, fun _ => .text, Tryz.func344, by kernel_rfl, by kernel_rfl, by kernel_rfl, by kernel_rfl⟩
noncomputable def ff344 (x4 : O) (h : HW) : Rs :=
 ob x4 fun a0 =>
 some (.ret a0, h)
noncomputable def q344_4 (C : YC) (lf : Nat) (r : K1) (x0 x1 : O) (h : HW) : Rs :=
 ob x0 fun a1 =>
 ob x1 fun a2 =>
 bc (C (.fn 359) [a1, a2] h) fun y3 h3 =>
 r (some y3) h3
theorem q344_4_eq (C : YC) (lf : Nat) (r : K1) (KN : KF) (KE : KX) : ∀ F h, evX fx344 C lf [] F h KN (fun F h => r (F 4) h) KE = q344_4 C lf r (F 0) (F 1) h := by
  intro F h; kernel_rfl
noncomputable def fs344 (C : YC) (lf : Nat) (a0 a1 : SV) (h : HW) : Rs := q344_4 C lf ff344 (some a0) (some a1) h
theorem fs344_eq (C : YC) (lf : Nat) (a0 a1 : SV) (h : HW) : yFn Tryz.prog fx344 C lf [a0, a1] h = fs344 C lf a0 a1 h := fnX (K := (fun F h => ff344 (F 4) h)) (by kernel_rfl) (((q344_4_eq C lf ff344 (fun F h => ff344 (F 4) h) (fun _ _ _ => none)) _ h).trans (by kernel_rfl))
noncomputable def fy344 : YX Tryz.prog := Y2 fx344 fs344 fs344_eq (by kernel_rfl)

noncomputable def fx347 : XF Tryz.prog := ⟨347, Tryz.f347, fun _ => .text, Tryz.func347, by kernel_rfl, by kernel_rfl, by kernel_rfl, by kernel_rfl⟩
noncomputable def ff347 (x8 x9 : O) (h : HW) : Rs :=
 ob x8 fun a0 =>
 ob x9 fun a1 =>
 some (.ret (.tup [a0, a1]), h)
noncomputable def q347_3 (C : YC) (lf : Nat) (r : K2) (x10 : O) (h : HW) : Rs :=
 ob x10 fun a2 =>
 r (some a2) (some (.int .i64 0)) h
theorem q347_3_eq (C : YC) (lf : Nat) (r : K2) (KN : KF) (KE : KX) : ∀ F h, evX fx347 C lf [1, 1, 1, 1, 1, 1] F h KN (fun F h => r (F 8) (F 9) h) KE = q347_3 C lf r (F 10) h := by
  intro F h; kernel_rfl
noncomputable def q347_7 (C : YC) (lf : Nat) (n : K6) (x0 x1 x3 x10 x11 x12 : O) (h : HW) : Rs :=
 ob x12 fun a5 =>
 ob (bin Tryz.prog .add 3 a5 (.int .i64 1)) fun y6 =>
 n x0 x1 x3 x10 x11 (some y6) h
theorem q347_7_eq (C : YC) (lf : Nat) (n : K6) (KR : KF) (K0 : KF) (KE : KX) : ∀ F h, evX fx347 C lf [1, 1, 1, 1, 1, 0, 1, 0, 0, 1, 1] F h (fun F h => n (F 0) (F 1) (F 3) (F 10) (F 11) (F 12) h) KR (bk 0 K0 KE) = q347_7 C lf n (F 0) (F 1) (F 3) (F 10) (F 11) (F 12) h := by
  intro F h; kernel_rfl
noncomputable def q347_12 (C : YC) (lf : Nat) (n : K6) (x0 x1 x3 x10 x11 x12 x14 : O) (h : HW) : Rs :=
 ob x10 fun a8 =>
 ob x14 fun a9 =>
 b2 (ybs Tryz.prog 31 1 [0] [a9] h) fun y10 h10 =>
 b2 (ybl Tryz.prog .append #[31, 31] [a8, y10] h10) fun y11 h11 =>
 n x0 x1 x3 (some y11) x11 x12 h11
theorem q347_12_eq (C : YC) (lf : Nat) (n : K6) (KR : KF) (K1 : KF) (K0 : KF) (KE : KX) : ∀ F h, evX fx347 C lf [1, 1, 1, 1, 1, 0, 1, 0, 0, 1, 0, 0, 1, 1, 1] F h (fun F h => n (F 0) (F 1) (F 3) (F 10) (F 11) (F 12) h) KR (bk 1 K1 (bk 0 K0 KE)) = q347_12 C lf n (F 0) (F 1) (F 3) (F 10) (F 11) (F 12) (F 14) h := by
  intro F h; kernel_rfl
noncomputable def q347_28 (C : YC) (lf : Nat) (n : K7) (x0 x1 x3 x10 x11 x12 x13 x14 : O) (h : HW) : Rs :=
 ob x13 fun a13 =>
 ob (bin Tryz.prog .gtr 3 a13 (.int .i64 0)) fun y14 =>
 yIf y14
 (ob x0 fun a15 =>
 ob (semNil a15) fun y16 =>
 ob (fa 0 y16) fun y17 =>
 ob (fa 1 y17) fun y18 =>
 ob (ld1 y18 h) fun y19 =>
 ob x13 fun a20 =>
 ob (bin Tryz.prog .sub 3 a20 (.int .i64 1)) fun y21 =>
 ob (ixS 1 y19 y21) fun y22 =>
 ob (ld1 y22 h) fun y23 =>
 ob x12 fun a24 =>
 ob (bin Tryz.prog .rem 3 a24 (.int .i64 64)) fun y25 =>
 ob (ixS 1 y23 y25) fun y26 =>
 ob (ld1 y26 h) fun y27 =>
 n x0 x1 x3 x10 x11 x12 (some y27) h)
 (n x0 x1 x3 x10 x11 x12 x14 h)
theorem q347_28_eq (C : YC) (lf : Nat) (n : K7) (KR : KF) (K1 : KF) (K0 : KF) (KE : KX) : ∀ F h, evX fx347 C lf [1, 1, 1, 1, 1, 0, 1, 0, 0, 1, 0, 0, 1, 1, 0] F h (fun F h => n (F 0) (F 1) (F 3) (F 10) (F 11) (F 12) (F 14) h) KR (bk 1 K1 (bk 0 K0 KE)) = q347_28 C lf n (F 0) (F 1) (F 3) (F 10) (F 11) (F 12) (F 13) (F 14) h := by
  intro F h; kernel_rfl
noncomputable def q347_29 (C : YC) (lf : Nat) (n : K6) (x0 x1 x3 x10 x11 x12 x13 x14 : O) (h : HW) : Rs :=
 q347_28 C lf (fun x0 x1 x3 x10 x11 x12 x14 h => q347_12 C lf n x0 x1 x3 x10 x11 x12 x14 h) x0 x1 x3 x10 x11 x12 x13 x14 h
theorem q347_29_eq (C : YC) (lf : Nat) (n : K6) (KR : KF) (K1 : KF) (K0 : KF) (KE : KX) : ∀ F h, evX fx347 C lf [1, 1, 1, 1, 1, 0, 1, 0, 0, 1, 0, 0, 1, 1] F h (fun F h => n (F 0) (F 1) (F 3) (F 10) (F 11) (F 12) h) KR (bk 1 K1 (bk 0 K0 KE)) = q347_29 C lf n (F 0) (F 1) (F 3) (F 10) (F 11) (F 12) (F 13) (F 14) h := cSeq (a := subX fx347 [1, 1, 1, 1, 1, 0, 1, 0, 0, 1, 0, 0, 1, 1, 0]) (b := subX fx347 [1, 1, 1, 1, 1, 0, 1, 0, 0, 1, 0, 0, 1, 1, 1]) (by kernel_rfl) (B := (fun F h => q347_12 C lf n (F 0) (F 1) (F 3) (F 10) (F 11) (F 12) (F 14) h)) (q347_12_eq C lf n KR K1 K0 KE) (q347_28_eq C lf (fun x0 x1 x3 x10 x11 x12 x14 h => q347_12 C lf n x0 x1 x3 x10 x11 x12 x14 h) KR K1 K0 KE)
noncomputable def q347_30 (C : YC) (lf : Nat) (n : K8) (x0 x1 x3 x10 x11 x12 x13 : O) (h : HW) : Rs :=
 n x0 x1 x3 x10 x11 x12 x13 (some (.int .u8 0)) h
theorem q347_30_eq (C : YC) (lf : Nat) (n : K8) (KR : KF) (K1 : KF) (K0 : KF) (KE : KX) : ∀ F h, evX fx347 C lf [1, 1, 1, 1, 1, 0, 1, 0, 0, 1, 0, 0, 1, 0] F h (fun F h => n (F 0) (F 1) (F 3) (F 10) (F 11) (F 12) (F 13) (F 14) h) KR (bk 1 K1 (bk 0 K0 KE)) = q347_30 C lf n (F 0) (F 1) (F 3) (F 10) (F 11) (F 12) (F 13) h := by
  intro F h; kernel_rfl
noncomputable def q347_31 (C : YC) (lf : Nat) (n : K6) (x0 x1 x3 x10 x11 x12 x13 : O) (h : HW) : Rs :=
 q347_30 C lf (fun x0 x1 x3 x10 x11 x12 x13 x14 h => q347_29 C lf n x0 x1 x3 x10 x11 x12 x13 x14 h) x0 x1 x3 x10 x11 x12 x13 h
theorem q347_31_eq (C : YC) (lf : Nat) (n : K6) (KR : KF) (K1 : KF) (K0 : KF) (KE : KX) : ∀ F h, evX fx347 C lf [1, 1, 1, 1, 1, 0, 1, 0, 0, 1, 0, 0, 1] F h (fun F h => n (F 0) (F 1) (F 3) (F 10) (F 11) (F 12) h) KR (bk 1 K1 (bk 0 K0 KE)) = q347_31 C lf n (F 0) (F 1) (F 3) (F 10) (F 11) (F 12) (F 13) h := cSeq (a := subX fx347 [1, 1, 1, 1, 1, 0, 1, 0, 0, 1, 0, 0, 1, 0]) (b := subX fx347 [1, 1, 1, 1, 1, 0, 1, 0, 0, 1, 0, 0, 1, 1]) (by kernel_rfl) (B := (fun F h => q347_29 C lf n (F 0) (F 1) (F 3) (F 10) (F 11) (F 12) (F 13) (F 14) h)) (q347_29_eq C lf n KR K1 K0 KE) (q347_30_eq C lf (fun x0 x1 x3 x10 x11 x12 x13 x14 h => q347_29 C lf n x0 x1 x3 x10 x11 x12 x13 x14 h) KR K1 K0 KE)
noncomputable def q347_43 (C : YC) (lf : Nat) (n : K7) (x0 x1 x3 x10 x11 x12 : O) (h : HW) : Rs :=
 ob x0 fun a32 =>
 ob (semNil a32) fun y33 =>
 ob (fa 4 y33) fun y34 =>
 ob (ld1 y34 h) fun y35 =>
 ob x1 fun a36 =>
 ob x12 fun a37 =>
 ob (bin Tryz.prog .quo 3 a37 (.int .i64 64)) fun y38 =>
 ob (ixS 308 y35 a36) fun y39 =>
 ob (fa 12 y39) fun y40 =>
 ob (ixA 278 1 y40 y38) fun y41 =>
 ob (ld1 y41 h) fun y42 =>
 n x0 x1 x3 x10 x11 x12 (some y42) h
theorem q347_43_eq (C : YC) (lf : Nat) (n : K7) (KR : KF) (K1 : KF) (K0 : KF) (KE : KX) : ∀ F h, evX fx347 C lf [1, 1, 1, 1, 1, 0, 1, 0, 0, 1, 0, 0, 0] F h (fun F h => n (F 0) (F 1) (F 3) (F 10) (F 11) (F 12) (F 13) h) KR (bk 1 K1 (bk 0 K0 KE)) = q347_43 C lf n (F 0) (F 1) (F 3) (F 10) (F 11) (F 12) h := by
  intro F h; kernel_rfl
noncomputable def q347_44 (C : YC) (lf : Nat) (n : K6) (x0 x1 x3 x10 x11 x12 : O) (h : HW) : Rs :=
 q347_43 C lf (fun x0 x1 x3 x10 x11 x12 x13 h => q347_31 C lf n x0 x1 x3 x10 x11 x12 x13 h) x0 x1 x3 x10 x11 x12 h
theorem q347_44_eq (C : YC) (lf : Nat) (n : K6) (KR : KF) (K1 : KF) (K0 : KF) (KE : KX) : ∀ F h, evX fx347 C lf [1, 1, 1, 1, 1, 0, 1, 0, 0, 1, 0, 0] F h (fun F h => n (F 0) (F 1) (F 3) (F 10) (F 11) (F 12) h) KR (bk 1 K1 (bk 0 K0 KE)) = q347_44 C lf n (F 0) (F 1) (F 3) (F 10) (F 11) (F 12) h := cSeq (a := subX fx347 [1, 1, 1, 1, 1, 0, 1, 0, 0, 1, 0, 0, 0]) (b := subX fx347 [1, 1, 1, 1, 1, 0, 1, 0, 0, 1, 0, 0, 1]) (by kernel_rfl) (B := (fun F h => q347_31 C lf n (F 0) (F 1) (F 3) (F 10) (F 11) (F 12) (F 13) h)) (q347_31_eq C lf n KR K1 K0 KE) (q347_43_eq C lf (fun x0 x1 x3 x10 x11 x12 x13 h => q347_31 C lf n x0 x1 x3 x10 x11 x12 x13 h) KR K1 K0 KE)
noncomputable def q347_45 (C : YC) (lf : Nat) (n : K6) (x0 x1 x3 x10 x11 x12 : O) (h : HW) : Rs :=
 q347_44 C lf (fun x0 x1 x3 x10 x11 x12 h => q347_7 C lf n x0 x1 x3 x10 x11 x12 h) x0 x1 x3 x10 x11 x12 h
theorem q347_45_eq (C : YC) (lf : Nat) (n : K6) (KR : KF) (K0 : KF) (KE : KX) : ∀ F h, evX fx347 C lf [1, 1, 1, 1, 1, 0, 1, 0, 0, 1] F h (fun F h => n (F 0) (F 1) (F 3) (F 10) (F 11) (F 12) h) KR (bk 0 K0 KE) = q347_45 C lf n (F 0) (F 1) (F 3) (F 10) (F 11) (F 12) h := cSeq (a := subX fx347 [1, 1, 1, 1, 1, 0, 1, 0, 0, 1, 0]) (b := subX fx347 [1, 1, 1, 1, 1, 0, 1, 0, 0, 1, 1]) (by kernel_rfl) (B := (fun F h => q347_7 C lf n (F 0) (F 1) (F 3) (F 10) (F 11) (F 12) h)) (q347_7_eq C lf n KR K0 KE) (cBlock (id := 1) (a := subX fx347 [1, 1, 1, 1, 1, 0, 1, 0, 0, 1, 0, 0]) (by kernel_rfl) (q347_44_eq C lf (fun x0 x1 x3 x10 x11 x12 h => q347_7 C lf n x0 x1 x3 x10 x11 x12 h) KR (fun F h => n (F 0) (F 1) (F 3) (F 10) (F 11) (F 12) h) K0 KE))
noncomputable def q347_58 (C : YC) (lf : Nat) (n : K6) (e0 : K1) (x0 x1 x3 x10 x11 x12 : O) (h : HW) : Rs :=
 ob x12 fun a46 =>
 ob x11 fun a47 =>
 ob (bin Tryz.prog .lss 3 a46 a47) fun y48 =>
 bc (gd true (some y48) (ob x10 fun a49 =>
 some (.ret a49, h)) h) fun y50 h50 =>
 bc (gd true (some y48) (ob (lenE Tryz.prog 31 y50) fun y51 =>
 some (.ret y51, h50)) h50) fun y52 h52 =>
 bc (gd true (some y48) (ob x3 fun a53 =>
 some (.ret a53, h52)) h52) fun y54 h54 =>
 bc (gd true (some y48) (ob (bin Tryz.prog .lss 3 y52 y54) fun y55 =>
 some (.ret y55, h54)) h54) fun y56 h56 =>
 ob (ypk y48 y56 (.bool false)) fun y57 =>
 yIf y57
 (n x0 x1 x3 x10 x11 x12 h56)
 (e0 x10 h56)
theorem q347_58_eq (C : YC) (lf : Nat) (n : K6) (e0 : K1) (KR : KF) (KE : KX) : ∀ F h, evX fx347 C lf [1, 1, 1, 1, 1, 0, 1, 0, 0, 0] F h (fun F h => n (F 0) (F 1) (F 3) (F 10) (F 11) (F 12) h) KR (bk 0 (fun F h => e0 (F 10) h) KE) = q347_58 C lf n e0 (F 0) (F 1) (F 3) (F 10) (F 11) (F 12) h := by
  intro F h; kernel_rfl
noncomputable def q347_59 (C : YC) (lf : Nat) (n : K6) (e0 : K1) (x0 x1 x3 x10 x11 x12 : O) (h : HW) : Rs :=
 q347_58 C lf (fun x0 x1 x3 x10 x11 x12 h => q347_45 C lf n x0 x1 x3 x10 x11 x12 h) e0 x0 x1 x3 x10 x11 x12 h
theorem q347_59_eq (C : YC) (lf : Nat) (n : K6) (e0 : K1) (KR : KF) (KE : KX) : ∀ F h, evX fx347 C lf [1, 1, 1, 1, 1, 0, 1, 0, 0] F h (fun F h => n (F 0) (F 1) (F 3) (F 10) (F 11) (F 12) h) KR (bk 0 (fun F h => e0 (F 10) h) KE) = q347_59 C lf n e0 (F 0) (F 1) (F 3) (F 10) (F 11) (F 12) h := cSeq (a := subX fx347 [1, 1, 1, 1, 1, 0, 1, 0, 0, 0]) (b := subX fx347 [1, 1, 1, 1, 1, 0, 1, 0, 0, 1]) (by kernel_rfl) (B := (fun F h => q347_45 C lf n (F 0) (F 1) (F 3) (F 10) (F 11) (F 12) h)) (q347_45_eq C lf n KR (fun F h => e0 (F 10) h) KE) (q347_58_eq C lf (fun x0 x1 x3 x10 x11 x12 h => q347_45 C lf n x0 x1 x3 x10 x11 x12 h) e0 KR KE)
noncomputable def l347_4 (C : YC) (lf : Nat) (e0 : K1) (k : O × O × O × O × O × O → HW → Rs) (s : O × O × O × O × O × O) (h : HW) : Rs :=
 q347_59 C lf (fun x0 x1 x3 x10 x11 x12 h => k (x0, x1, x3, x10, x11, x12) h) e0 s.1 s.2.1 s.2.2.1 s.2.2.2.1 s.2.2.2.2.1 s.2.2.2.2.2 h
noncomputable def q347_61 (C : YC) (lf : Nat) (n : K6) (x0 x1 x2 x3 x10 x11 : O) (h : HW) : Rs :=
 ob x2 fun a60 =>
 n x0 x1 x3 x10 x11 (some a60) h
theorem q347_61_eq (C : YC) (lf : Nat) (n : K6) (KR : KF) (KE : KX) : ∀ F h, evX fx347 C lf [1, 1, 1, 1, 1, 0, 0] F h (fun F h => n (F 0) (F 1) (F 3) (F 10) (F 11) (F 12) h) KR KE = q347_61 C lf n (F 0) (F 1) (F 2) (F 3) (F 10) (F 11) h := by
  intro F h; kernel_rfl
noncomputable def q347_62 (C : YC) (lf : Nat) (n : K1) (x0 x1 x2 x3 x10 x11 : O) (h : HW) : Rs :=
 q347_61 C lf (fun x0 x1 x3 x10 x11 x12 h => lp (l347_4 C lf n) lf (x0, x1, x3, x10, x11, x12) h) x0 x1 x2 x3 x10 x11 h
theorem q347_62_eq (C : YC) (lf : Nat) (n : K1) (KR : KF) (KE : KX) : ∀ F h, evX fx347 C lf [1, 1, 1, 1, 1, 0] F h (fun F h => n (F 10) h) KR KE = q347_62 C lf n (F 0) (F 1) (F 2) (F 3) (F 10) (F 11) h := cSeq (a := subX fx347 [1, 1, 1, 1, 1, 0, 0]) (b := subX fx347 [1, 1, 1, 1, 1, 0, 1]) (by kernel_rfl) (B := (fun F h => lp (l347_4 C lf n) lf ((F 0), (F 1), (F 3), (F 10), (F 11), (F 12)) h)) (cBlock (id := 0) (a := subX fx347 [1, 1, 1, 1, 1, 0, 1, 0]) (by kernel_rfl) (cLoop (a := subX fx347 [1, 1, 1, 1, 1, 0, 1, 0, 0]) (g := fun F => (F 0, F 1, F 3, F 10, F 11, F 12)) (body := l347_4 C lf n) (by kernel_rfl) (fun k => (q347_59_eq C lf (fun x0 x1 x3 x10 x11 x12 h => k (x0, x1, x3, x10, x11, x12) h) n KR KE)))) (q347_61_eq C lf (fun x0 x1 x3 x10 x11 x12 h => lp (l347_4 C lf n) lf (x0, x1, x3, x10, x11, x12) h) KR KE)
noncomputable def q347_63 (C : YC) (lf : Nat) (r : K2) (x0 x1 x2 x3 x10 x11 : O) (h : HW) : Rs :=
 q347_62 C lf (fun x10 h => q347_3 C lf r x10 h) x0 x1 x2 x3 x10 x11 h
theorem q347_63_eq (C : YC) (lf : Nat) (r : K2) (KN : KF) (KE : KX) : ∀ F h, evX fx347 C lf [1, 1, 1, 1, 1] F h KN (fun F h => r (F 8) (F 9) h) KE = q347_63 C lf r (F 0) (F 1) (F 2) (F 3) (F 10) (F 11) h := cSeq (a := subX fx347 [1, 1, 1, 1, 1, 0]) (b := subX fx347 [1, 1, 1, 1, 1, 1]) (by kernel_rfl) (B := (fun F h => q347_3 C lf r (F 10) h)) (q347_3_eq C lf r KN KE) (q347_62_eq C lf (fun x10 h => q347_3 C lf r x10 h) (fun F h => r (F 8) (F 9) h) KE)
noncomputable def q347_73 (C : YC) (lf : Nat) (n : K6) (x0 x1 x2 x3 x10 : O) (h : HW) : Rs :=
 ob x0 fun a64 =>
 ob (semNil a64) fun y65 =>
 ob (fa 4 y65) fun y66 =>
 ob (ld1 y66 h) fun y67 =>
 ob x1 fun a68 =>
 ob (ixS 308 y67 a68) fun y69 =>
 ob (fa 1 y69) fun y70 =>
 ob (fa 4 y70) fun y71 =>
 ob (ld1 y71 h) fun y72 =>
 n x0 x1 x2 x3 x10 (some y72) h
theorem q347_73_eq (C : YC) (lf : Nat) (n : K6) (KR : KF) (KE : KX) : ∀ F h, evX fx347 C lf [1, 1, 1, 1, 0] F h (fun F h => n (F 0) (F 1) (F 2) (F 3) (F 10) (F 11) h) KR KE = q347_73 C lf n (F 0) (F 1) (F 2) (F 3) (F 10) h := by
  intro F h; kernel_rfl
noncomputable def q347_74 (C : YC) (lf : Nat) (r : K2) (x0 x1 x2 x3 x10 : O) (h : HW) : Rs :=
 q347_73 C lf (fun x0 x1 x2 x3 x10 x11 h => q347_63 C lf r x0 x1 x2 x3 x10 x11 h) x0 x1 x2 x3 x10 h
theorem q347_74_eq (C : YC) (lf : Nat) (r : K2) (KN : KF) (KE : KX) : ∀ F h, evX fx347 C lf [1, 1, 1, 1] F h KN (fun F h => r (F 8) (F 9) h) KE = q347_74 C lf r (F 0) (F 1) (F 2) (F 3) (F 10) h := cSeq (a := subX fx347 [1, 1, 1, 1, 0]) (b := subX fx347 [1, 1, 1, 1, 1]) (by kernel_rfl) (B := (fun F h => q347_63 C lf r (F 0) (F 1) (F 2) (F 3) (F 10) (F 11) h)) (q347_63_eq C lf r KN KE) (q347_73_eq C lf (fun x0 x1 x2 x3 x10 x11 h => q347_63 C lf r x0 x1 x2 x3 x10 x11 h) (fun F h => r (F 8) (F 9) h) KE)
noncomputable def q347_75 (C : YC) (lf : Nat) (n : K5) (x0 x1 x2 x3 : O) (h : HW) : Rs :=
 n x0 x1 x2 x3 (some (.val (.slice none 0 0))) h
theorem q347_75_eq (C : YC) (lf : Nat) (n : K5) (KR : KF) (KE : KX) : ∀ F h, evX fx347 C lf [1, 1, 1, 0] F h (fun F h => n (F 0) (F 1) (F 2) (F 3) (F 10) h) KR KE = q347_75 C lf n (F 0) (F 1) (F 2) (F 3) h := by
  intro F h; kernel_rfl
noncomputable def q347_76 (C : YC) (lf : Nat) (r : K2) (x0 x1 x2 x3 : O) (h : HW) : Rs :=
 q347_75 C lf (fun x0 x1 x2 x3 x10 h => q347_74 C lf r x0 x1 x2 x3 x10 h) x0 x1 x2 x3 h
theorem q347_76_eq (C : YC) (lf : Nat) (r : K2) (KN : KF) (KE : KX) : ∀ F h, evX fx347 C lf [1, 1, 1] F h KN (fun F h => r (F 8) (F 9) h) KE = q347_76 C lf r (F 0) (F 1) (F 2) (F 3) h := cSeq (a := subX fx347 [1, 1, 1, 0]) (b := subX fx347 [1, 1, 1, 1]) (by kernel_rfl) (B := (fun F h => q347_74 C lf r (F 0) (F 1) (F 2) (F 3) (F 10) h)) (q347_74_eq C lf r KN KE) (q347_75_eq C lf (fun x0 x1 x2 x3 x10 h => q347_74 C lf r x0 x1 x2 x3 x10 h) (fun F h => r (F 8) (F 9) h) KE)
noncomputable def q347_84 (C : YC) (lf : Nat) (n : K4) (r : K2) (x0 x1 x2 x3 : O) (h : HW) : Rs :=
 ob x2 fun a77 =>
 ob (bin Tryz.prog .lss 3 a77 (.int .i64 0)) fun y78 =>
 bc (gd false (some y78) (ob x3 fun a79 =>
 some (.ret a79, h)) h) fun y80 h80 =>
 bc (gd false (some y78) (ob (bin Tryz.prog .lss 3 y80 (.int .i64 0)) fun y81 =>
 some (.ret y81, h80)) h80) fun y82 h82 =>
 ob (ypk y78 (.bool true) y82) fun y83 =>
 yIf y83
 (r (some (.val (.slice none 0 0))) (some (.int .i64 22)) h82)
 (n x0 x1 x2 x3 h82)
theorem q347_84_eq (C : YC) (lf : Nat) (n : K4) (r : K2) (KE : KX) : ∀ F h, evX fx347 C lf [1, 1, 0] F h (fun F h => n (F 0) (F 1) (F 2) (F 3) h) (fun F h => r (F 8) (F 9) h) KE = q347_84 C lf n r (F 0) (F 1) (F 2) (F 3) h := by
  intro F h; kernel_rfl
noncomputable def q347_85 (C : YC) (lf : Nat) (r : K2) (x0 x1 x2 x3 : O) (h : HW) : Rs :=
 q347_84 C lf (fun x0 x1 x2 x3 h => q347_76 C lf r x0 x1 x2 x3 h) r x0 x1 x2 x3 h
theorem q347_85_eq (C : YC) (lf : Nat) (r : K2) (KN : KF) (KE : KX) : ∀ F h, evX fx347 C lf [1, 1] F h KN (fun F h => r (F 8) (F 9) h) KE = q347_85 C lf r (F 0) (F 1) (F 2) (F 3) h := cSeq (a := subX fx347 [1, 1, 0]) (b := subX fx347 [1, 1, 1]) (by kernel_rfl) (B := (fun F h => q347_76 C lf r (F 0) (F 1) (F 2) (F 3) h)) (q347_76_eq C lf r KN KE) (q347_84_eq C lf (fun x0 x1 x2 x3 h => q347_76 C lf r x0 x1 x2 x3 h) r KE)
noncomputable def q347_90 (C : YC) (lf : Nat) (n : K4) (r : K2) (x0 x1 x2 x3 : O) (h : HW) : Rs :=
 ob x0 fun a86 =>
 ob x1 fun a87 =>
 bc (C (.fn 292) [a86, a87] h) fun y88 h88 =>
 ob (unE .not y88) fun y89 =>
 yIf y89
 (r (some (.val (.slice none 0 0))) (some (.int .i64 2)) h88)
 (n x0 x1 x2 x3 h88)
theorem q347_90_eq (C : YC) (lf : Nat) (n : K4) (r : K2) (KE : KX) : ∀ F h, evX fx347 C lf [1, 0] F h (fun F h => n (F 0) (F 1) (F 2) (F 3) h) (fun F h => r (F 8) (F 9) h) KE = q347_90 C lf n r (F 0) (F 1) (F 2) (F 3) h := by
  intro F h; kernel_rfl
noncomputable def q347_91 (C : YC) (lf : Nat) (r : K2) (x0 x1 x2 x3 : O) (h : HW) : Rs :=
 q347_90 C lf (fun x0 x1 x2 x3 h => q347_85 C lf r x0 x1 x2 x3 h) r x0 x1 x2 x3 h
theorem q347_91_eq (C : YC) (lf : Nat) (r : K2) (KN : KF) (KE : KX) : ∀ F h, evX fx347 C lf [1] F h KN (fun F h => r (F 8) (F 9) h) KE = q347_91 C lf r (F 0) (F 1) (F 2) (F 3) h := cSeq (a := subX fx347 [1, 0]) (b := subX fx347 [1, 1]) (by kernel_rfl) (B := (fun F h => q347_85 C lf r (F 0) (F 1) (F 2) (F 3) h)) (q347_85_eq C lf r KN KE) (q347_90_eq C lf (fun x0 x1 x2 x3 h => q347_85 C lf r x0 x1 x2 x3 h) r KE)
noncomputable def q347_92 (C : YC) (lf : Nat) (n : K4) (x0 x1 x2 x3 : O) (h : HW) : Rs :=
 n x0 x1 x2 x3 h
theorem q347_92_eq (C : YC) (lf : Nat) (n : K4) (KR : KF) (KE : KX) : ∀ F h, evX fx347 C lf [0] F h (fun F h => n (F 0) (F 1) (F 2) (F 3) h) KR KE = q347_92 C lf n (F 0) (F 1) (F 2) (F 3) h := by
  intro F h; kernel_rfl
noncomputable def q347_93 (C : YC) (lf : Nat) (r : K2) (x0 x1 x2 x3 : O) (h : HW) : Rs :=
 q347_92 C lf (fun x0 x1 x2 x3 h => q347_91 C lf r x0 x1 x2 x3 h) x0 x1 x2 x3 h
theorem q347_93_eq (C : YC) (lf : Nat) (r : K2) (KN : KF) (KE : KX) : ∀ F h, evX fx347 C lf [] F h KN (fun F h => r (F 8) (F 9) h) KE = q347_93 C lf r (F 0) (F 1) (F 2) (F 3) h := cSeq (a := subX fx347 [0]) (b := subX fx347 [1]) (by kernel_rfl) (B := (fun F h => q347_91 C lf r (F 0) (F 1) (F 2) (F 3) h)) (q347_91_eq C lf r KN KE) (q347_92_eq C lf (fun x0 x1 x2 x3 h => q347_91 C lf r x0 x1 x2 x3 h) (fun F h => r (F 8) (F 9) h) KE)
noncomputable def fs347 (C : YC) (lf : Nat) (a0 a1 a2 a3 : SV) (h : HW) : Rs := q347_93 C lf ff347 (some a0) (some a1) (some a2) (some a3) h
theorem fs347_eq (C : YC) (lf : Nat) (a0 a1 a2 a3 : SV) (h : HW) : yFn Tryz.prog fx347 C lf [a0, a1, a2, a3] h = fs347 C lf a0 a1 a2 a3 h := fnX (K := (fun F h => ff347 (F 8) (F 9) h)) (by kernel_rfl) (((q347_93_eq C lf ff347 (fun F h => ff347 (F 8) (F 9) h) (fun _ _ _ => none)) _ h).trans (by kernel_rfl))
noncomputable def fy347 : YX Tryz.prog := Y4 fx347 fs347 fs347_eq (by kernel_rfl)

noncomputable def fx349 : XF Tryz.prog := ⟨349, Tryz.f349, fun _ => .text, Tryz.func349, by kernel_rfl, by kernel_rfl, by kernel_rfl, by kernel_rfl⟩
noncomputable def ff349 (x2 : O) (h : HW) : Rs :=
 ob x2 fun a0 =>
 some (.ret a0, h)
noncomputable def q349_6 (C : YC) (lf : Nat) (r : K1) (x0 : O) (h : HW) : Rs :=
 ob x0 fun a1 =>
 ob (bin Tryz.prog .lss 3 a1 (.int .i64 6)) fun y2 =>
 yIf y2
 (r (some (.int .i64 (-1))) h)
 (ob x0 fun a3 =>
 ob (bin Tryz.prog .sub 3 a3 (.int .i64 6)) fun y4 =>
 ob (bin Tryz.prog .quo 3 y4 (.int .i64 16)) fun y5 =>
 r (some y5) h)
theorem q349_6_eq (C : YC) (lf : Nat) (r : K1) (KN : KF) (KE : KX) : ∀ F h, evX fx349 C lf [] F h KN (fun F h => r (F 2) h) KE = q349_6 C lf r (F 0) h := by
  intro F h; kernel_rfl
noncomputable def fs349 (C : YC) (lf : Nat) (a0 : SV) (h : HW) : Rs := q349_6 C lf ff349 (some a0) h
theorem fs349_eq (C : YC) (lf : Nat) (a0 : SV) (h : HW) : yFn Tryz.prog fx349 C lf [a0] h = fs349 C lf a0 h := fnX (K := (fun F h => ff349 (F 2) h)) (by kernel_rfl) (((q349_6_eq C lf ff349 (fun F h => ff349 (F 2) h) (fun _ _ _ => none)) _ h).trans (by kernel_rfl))
noncomputable def fy349 : YX Tryz.prog := Y1 fx349 fs349 fs349_eq (by kernel_rfl)

noncomputable def fx350 : XF Tryz.prog := ⟨350, Tryz.f350, fun _ => .text, Tryz.func350, by kernel_rfl, by kernel_rfl, by kernel_rfl, by kernel_rfl⟩
noncomputable def ff350 (x6 : O) (h : HW) : Rs :=
 ob x6 fun a0 =>
 some (.ret a0, h)
noncomputable def q350_17 (C : YC) (lf : Nat) (r : K1) (x7 x8 x9 : O) (h : HW) : Rs :=
 ob x8 fun a1 =>
 ob (bin Tryz.prog .gtr 3 a1 (.int .i64 0)) fun y2 =>
 bc (gd true (some y2) (ob x7 fun a3 =>
 some (.ret a3, h)) h) fun y4 h4 =>
 bc (gd true (some y2) (ob (semNil y4) fun y5 =>
 some (.ret y5, h4)) h4) fun y6 h6 =>
 bc (gd true (some y2) (ob (fa 307 y6) fun y7 =>
 some (.ret y7, h6)) h6) fun y8 h8 =>
 bc (gd true (some y2) (ob (ld1 y8 h8) fun y9 =>
 some (.ret y9, h8)) h8) fun y10 h10 =>
 bc (gd true (some y2) (ob (bin Tryz.prog .eql 3 y10 (.int .i64 0)) fun y11 =>
 some (.ret y11, h10)) h10) fun y12 h12 =>
 ob (ypk y2 y12 (.bool false)) fun y13 =>
 yIf y13
 (ob x9 fun a14 =>
 ob (bin Tryz.prog .add 3 a14 (.int .i64 1)) fun y15 =>
 r (some y15) h12)
 (ob x9 fun a16 =>
 r (some a16) h12)
theorem q350_17_eq (C : YC) (lf : Nat) (r : K1) (KN : KF) (KE : KX) : ∀ F h, evX fx350 C lf [1, 1, 1, 1, 1, 1] F h KN (fun F h => r (F 6) h) KE = q350_17 C lf r (F 7) (F 8) (F 9) h := by
  intro F h; kernel_rfl
noncomputable def q350_37 (C : YC) (lf : Nat) (n : K3) (x7 x8 x9 : O) (h : HW) : Rs :=
 ob x8 fun a18 =>
 ob (bin Tryz.prog .geq 3 a18 (.int .i64 0)) fun y19 =>
 bc (gd true (some y19) (ob x7 fun a20 =>
 some (.ret a20, h)) h) fun y21 h21 =>
 bc (gd true (some y19) (ob x8 fun a22 =>
 some (.ret a22, h21)) h21) fun y23 h23 =>
 bc (gd true (some y19) (ob (semNil y21) fun y24 =>
 some (.ret y24, h23)) h23) fun y25 h25 =>
 bc (gd true (some y19) (ob (fa 290 y25) fun y26 =>
 some (.ret y26, h25)) h25) fun y27 h27 =>
 bc (gd true (some y19) (ob (ixA 17 1 y27 y23) fun y28 =>
 some (.ret y28, h27)) h27) fun y29 h29 =>
 bc (gd true (some y19) (ob (ld1 y29 h29) fun y30 =>
 some (.ret y30, h29)) h29) fun y31 h31 =>
 bc (gd true (some y19) (ob (bin Tryz.prog .eql 3 y31 (.int .i64 0)) fun y32 =>
 some (.ret y32, h31)) h31) fun y33 h33 =>
 ob (ypk y19 y33 (.bool false)) fun y34 =>
 yIf y34
 (ob x9 fun a35 =>
 ob (bin Tryz.prog .add 3 a35 (.int .i64 1)) fun y36 =>
 n x7 x8 (some y36) h33)
 (n x7 x8 x9 h33)
theorem q350_37_eq (C : YC) (lf : Nat) (n : K3) (KR : KF) (KE : KX) : ∀ F h, evX fx350 C lf [1, 1, 1, 1, 1, 0] F h (fun F h => n (F 7) (F 8) (F 9) h) KR KE = q350_37 C lf n (F 7) (F 8) (F 9) h := by
  intro F h; kernel_rfl
noncomputable def q350_38 (C : YC) (lf : Nat) (r : K1) (x7 x8 x9 : O) (h : HW) : Rs :=
 q350_37 C lf (fun x7 x8 x9 h => q350_17 C lf r x7 x8 x9 h) x7 x8 x9 h
theorem q350_38_eq (C : YC) (lf : Nat) (r : K1) (KN : KF) (KE : KX) : ∀ F h, evX fx350 C lf [1, 1, 1, 1, 1] F h KN (fun F h => r (F 6) h) KE = q350_38 C lf r (F 7) (F 8) (F 9) h := cSeq (a := subX fx350 [1, 1, 1, 1, 1, 0]) (b := subX fx350 [1, 1, 1, 1, 1, 1]) (by kernel_rfl) (B := (fun F h => q350_17 C lf r (F 7) (F 8) (F 9) h)) (q350_17_eq C lf r KN KE) (q350_37_eq C lf (fun x7 x8 x9 h => q350_17 C lf r x7 x8 x9 h) (fun F h => r (F 6) h) KE)
noncomputable def q350_39 (C : YC) (lf : Nat) (n : K3) (x7 x8 : O) (h : HW) : Rs :=
 n x7 x8 (some (.int .i64 1)) h
theorem q350_39_eq (C : YC) (lf : Nat) (n : K3) (KR : KF) (KE : KX) : ∀ F h, evX fx350 C lf [1, 1, 1, 1, 0] F h (fun F h => n (F 7) (F 8) (F 9) h) KR KE = q350_39 C lf n (F 7) (F 8) h := by
  intro F h; kernel_rfl
noncomputable def q350_40 (C : YC) (lf : Nat) (r : K1) (x7 x8 : O) (h : HW) : Rs :=
 q350_39 C lf (fun x7 x8 x9 h => q350_38 C lf r x7 x8 x9 h) x7 x8 h
theorem q350_40_eq (C : YC) (lf : Nat) (r : K1) (KN : KF) (KE : KX) : ∀ F h, evX fx350 C lf [1, 1, 1, 1] F h KN (fun F h => r (F 6) h) KE = q350_40 C lf r (F 7) (F 8) h := cSeq (a := subX fx350 [1, 1, 1, 1, 0]) (b := subX fx350 [1, 1, 1, 1, 1]) (by kernel_rfl) (B := (fun F h => q350_38 C lf r (F 7) (F 8) (F 9) h)) (q350_38_eq C lf r KN KE) (q350_39_eq C lf (fun x7 x8 x9 h => q350_38 C lf r x7 x8 x9 h) (fun F h => r (F 6) h) KE)
noncomputable def q350_43 (C : YC) (lf : Nat) (n : K2) (x2 x7 : O) (h : HW) : Rs :=
 ob x2 fun a41 =>
 bc (C (.fn 349) [a41] h) fun y42 h42 =>
 n x7 (some y42) h42
theorem q350_43_eq (C : YC) (lf : Nat) (n : K2) (KR : KF) (KE : KX) : ∀ F h, evX fx350 C lf [1, 1, 1, 0] F h (fun F h => n (F 7) (F 8) h) KR KE = q350_43 C lf n (F 2) (F 7) h := by
  intro F h; kernel_rfl
noncomputable def q350_44 (C : YC) (lf : Nat) (r : K1) (x2 x7 : O) (h : HW) : Rs :=
 q350_43 C lf (fun x7 x8 h => q350_40 C lf r x7 x8 h) x2 x7 h
theorem q350_44_eq (C : YC) (lf : Nat) (r : K1) (KN : KF) (KE : KX) : ∀ F h, evX fx350 C lf [1, 1, 1] F h KN (fun F h => r (F 6) h) KE = q350_44 C lf r (F 2) (F 7) h := cSeq (a := subX fx350 [1, 1, 1, 0]) (b := subX fx350 [1, 1, 1, 1]) (by kernel_rfl) (B := (fun F h => q350_40 C lf r (F 7) (F 8) h)) (q350_40_eq C lf r KN KE) (q350_43_eq C lf (fun x7 x8 h => q350_40 C lf r x7 x8 h) (fun F h => r (F 6) h) KE)
noncomputable def q350_52 (C : YC) (lf : Nat) (n : K2) (r : K1) (x2 x7 : O) (h : HW) : Rs :=
 ob x7 fun a45 =>
 ob x2 fun a46 =>
 ob (semNil a45) fun y47 =>
 ob (fa 12 y47) fun y48 =>
 ob (ixA 278 1 y48 a46) fun y49 =>
 ob (ld1 y49 h) fun y50 =>
 ob (bin Tryz.prog .gtr 3 y50 (.int .i64 0)) fun y51 =>
 yIf y51
 (r (some (.int .i64 0)) h)
 (n x2 x7 h)
theorem q350_52_eq (C : YC) (lf : Nat) (n : K2) (r : K1) (KE : KX) : ∀ F h, evX fx350 C lf [1, 1, 0] F h (fun F h => n (F 2) (F 7) h) (fun F h => r (F 6) h) KE = q350_52 C lf n r (F 2) (F 7) h := by
  intro F h; kernel_rfl
noncomputable def q350_53 (C : YC) (lf : Nat) (r : K1) (x2 x7 : O) (h : HW) : Rs :=
 q350_52 C lf (fun x2 x7 h => q350_44 C lf r x2 x7 h) r x2 x7 h
theorem q350_53_eq (C : YC) (lf : Nat) (r : K1) (KN : KF) (KE : KX) : ∀ F h, evX fx350 C lf [1, 1] F h KN (fun F h => r (F 6) h) KE = q350_53 C lf r (F 2) (F 7) h := cSeq (a := subX fx350 [1, 1, 0]) (b := subX fx350 [1, 1, 1]) (by kernel_rfl) (B := (fun F h => q350_44 C lf r (F 2) (F 7) h)) (q350_44_eq C lf r KN KE) (q350_52_eq C lf (fun x2 x7 h => q350_44 C lf r x2 x7 h) r KE)
noncomputable def q350_60 (C : YC) (lf : Nat) (n : K2) (x0 x1 x2 : O) (h : HW) : Rs :=
 ob x0 fun a54 =>
 ob (semNil a54) fun y55 =>
 ob (fa 4 y55) fun y56 =>
 ob (ld1 y56 h) fun y57 =>
 ob x1 fun a58 =>
 ob (ixS 308 y57 a58) fun y59 =>
 n x2 (some y59) h
theorem q350_60_eq (C : YC) (lf : Nat) (n : K2) (KR : KF) (KE : KX) : ∀ F h, evX fx350 C lf [1, 0] F h (fun F h => n (F 2) (F 7) h) KR KE = q350_60 C lf n (F 0) (F 1) (F 2) h := by
  intro F h; kernel_rfl
noncomputable def q350_61 (C : YC) (lf : Nat) (r : K1) (x0 x1 x2 : O) (h : HW) : Rs :=
 q350_60 C lf (fun x2 x7 h => q350_53 C lf r x2 x7 h) x0 x1 x2 h
theorem q350_61_eq (C : YC) (lf : Nat) (r : K1) (KN : KF) (KE : KX) : ∀ F h, evX fx350 C lf [1] F h KN (fun F h => r (F 6) h) KE = q350_61 C lf r (F 0) (F 1) (F 2) h := cSeq (a := subX fx350 [1, 0]) (b := subX fx350 [1, 1]) (by kernel_rfl) (B := (fun F h => q350_53 C lf r (F 2) (F 7) h)) (q350_53_eq C lf r KN KE) (q350_60_eq C lf (fun x2 x7 h => q350_53 C lf r x2 x7 h) (fun F h => r (F 6) h) KE)
noncomputable def q350_62 (C : YC) (lf : Nat) (n : K3) (x0 x1 x2 : O) (h : HW) : Rs :=
 n x0 x1 x2 h
theorem q350_62_eq (C : YC) (lf : Nat) (n : K3) (KR : KF) (KE : KX) : ∀ F h, evX fx350 C lf [0] F h (fun F h => n (F 0) (F 1) (F 2) h) KR KE = q350_62 C lf n (F 0) (F 1) (F 2) h := by
  intro F h; kernel_rfl
noncomputable def q350_63 (C : YC) (lf : Nat) (r : K1) (x0 x1 x2 : O) (h : HW) : Rs :=
 q350_62 C lf (fun x0 x1 x2 h => q350_61 C lf r x0 x1 x2 h) x0 x1 x2 h
theorem q350_63_eq (C : YC) (lf : Nat) (r : K1) (KN : KF) (KE : KX) : ∀ F h, evX fx350 C lf [] F h KN (fun F h => r (F 6) h) KE = q350_63 C lf r (F 0) (F 1) (F 2) h := cSeq (a := subX fx350 [0]) (b := subX fx350 [1]) (by kernel_rfl) (B := (fun F h => q350_61 C lf r (F 0) (F 1) (F 2) h)) (q350_61_eq C lf r KN KE) (q350_62_eq C lf (fun x0 x1 x2 h => q350_61 C lf r x0 x1 x2 h) (fun F h => r (F 6) h) KE)
noncomputable def fs350 (C : YC) (lf : Nat) (a0 a1 a2 : SV) (h : HW) : Rs := q350_63 C lf ff350 (some a0) (some a1) (some a2) h
theorem fs350_eq (C : YC) (lf : Nat) (a0 a1 a2 : SV) (h : HW) : yFn Tryz.prog fx350 C lf [a0, a1, a2] h = fs350 C lf a0 a1 a2 h := fnX (K := (fun F h => ff350 (F 6) h)) (by kernel_rfl) (((q350_63_eq C lf ff350 (fun F h => ff350 (F 6) h) (fun _ _ _ => none)) _ h).trans (by kernel_rfl))
noncomputable def fy350 : YX Tryz.prog := Y3 fx350 fs350 fs350_eq (by kernel_rfl)

noncomputable def fx351 : XF Tryz.prog := ⟨351, Tryz.f351, fun r => bif Nat.beq r 6 then .ord [0, 1, 2, 4, 3, 5, 6, 7] [(5, [3])] else .text, Tryz.func351, by kernel_rfl, by kernel_rfl, by kernel_rfl, by kernel_rfl⟩
noncomputable def ff351 (x2 x3 : O) (h : HW) : Rs :=
 ob x2 fun a0 =>
 ob x3 fun a1 =>
 some (.ret (.tup [a0, a1]), h)
noncomputable def q351_2 (C : YC) (lf : Nat) (r : K2) (h : HW) : Rs :=
 r (some (.int .i64 0)) (some (.int .i64 28)) h
theorem q351_2_eq (C : YC) (lf : Nat) (r : K2) (KN : KF) (KE : KX) : ∀ F h, evX fx351 C lf [1, 1] F h KN (fun F h => r (F 2) (F 3) h) KE = q351_2 C lf r h := by
  intro F h; kernel_rfl
noncomputable def q351_28 (C : YC) (lf : Nat) (n : K4) (r : K2) (e0 : K0) (x0 x9 x10 x11 : O) (h : HW) : Rs :=
 ob x11 fun a4 =>
 ob x10 fun a5 =>
 ob (bin Tryz.prog .lss 3 a4 a5) fun y6 =>
 yIf y6
 (ob x11 fun a7 =>
 ob x9 fun a8 =>
 ob x11 fun a9 =>
 ob (ixS 1 a8 a9) fun y10 =>
 ob (ld1 y10 h) fun y11 =>
 ob (unE .not y11) fun y12 =>
 yIf y12
 (ob x0 fun a13 =>
 ob (semNil a13) fun y14 =>
 ob (fa 0 y14) fun y15 =>
 ob (ld1 y15 h) fun y16 =>
 ob (ixS 1 y16 a7) fun y17 =>
 ob (st 1 y17 (.bool true) h) fun h18 =>
 ob x0 fun a19 =>
 ob (semNil a19) fun y20 =>
 ob (fa 1 y20) fun y21 =>
 ob (ld1 y21 h18) fun y22 =>
 b2 (ymk Tryz.prog 31 (.int .i64 64) (.int .i64 64) h18) fun y23 h23 =>
 ck (chkH [(3, adrO (some y21))] h18 h23 [3]) <|
 ob (ixS 1 y22 a7) fun y24 =>
 ob (st 1 y24 y23 h23) fun h25 =>
 r (some a7) (some (.int .i64 0)) h25)
 (ob x11 fun a26 =>
 ob (bin Tryz.prog .add 3 a26 (.int .i64 1)) fun y27 =>
 n x0 x9 x10 (some y27) h))
 (e0 h)
theorem q351_28_eq (C : YC) (lf : Nat) (n : K4) (r : K2) (e0 : K0) (KE : KX) : ∀ F h, evX fx351 C lf [1, 0, 1, 0, 0] F h (fun F h => n (F 0) (F 9) (F 10) (F 11) h) (fun F h => r (F 2) (F 3) h) (bk 0 (fun F h => e0 h) KE) = q351_28 C lf n r e0 (F 0) (F 9) (F 10) (F 11) h := by
  intro F h; kernel_rfl
noncomputable def l351_3 (C : YC) (lf : Nat) (r : K2) (e0 : K0) (k : O × O × O × O → HW → Rs) (s : O × O × O × O) (h : HW) : Rs :=
 q351_28 C lf (fun x0 x9 x10 x11 h => k (x0, x9, x10, x11) h) r e0 s.1 s.2.1 s.2.2.1 s.2.2.2 h
noncomputable def q351_34 (C : YC) (lf : Nat) (n : K4) (x0 : O) (h : HW) : Rs :=
 ob x0 fun a29 =>
 ob (semNil a29) fun y30 =>
 ob (fa 0 y30) fun y31 =>
 ob (ld1 y31 h) fun y32 =>
 ob (lenE Tryz.prog 106 y32) fun y33 =>
 n x0 (some y32) (some y33) (some (.int .i64 0)) h
theorem q351_34_eq (C : YC) (lf : Nat) (n : K4) (KR : KF) (KE : KX) : ∀ F h, evX fx351 C lf [1, 0, 0] F h (fun F h => n (F 0) (F 9) (F 10) (F 11) h) KR KE = q351_34 C lf n (F 0) h := by
  intro F h; kernel_rfl
noncomputable def q351_35 (C : YC) (lf : Nat) (n : K0) (r : K2) (x0 : O) (h : HW) : Rs :=
 q351_34 C lf (fun x0 x9 x10 x11 h => lp (l351_3 C lf r n) lf (x0, x9, x10, x11) h) x0 h
theorem q351_35_eq (C : YC) (lf : Nat) (n : K0) (r : K2) (KE : KX) : ∀ F h, evX fx351 C lf [1, 0] F h (fun F h => n h) (fun F h => r (F 2) (F 3) h) KE = q351_35 C lf n r (F 0) h := cSeq (a := subX fx351 [1, 0, 0]) (b := subX fx351 [1, 0, 1]) (by kernel_rfl) (B := (fun F h => lp (l351_3 C lf r n) lf ((F 0), (F 9), (F 10), (F 11)) h)) (cBlock (id := 0) (a := subX fx351 [1, 0, 1, 0]) (by kernel_rfl) (cLoop (a := subX fx351 [1, 0, 1, 0, 0]) (g := fun F => (F 0, F 9, F 10, F 11)) (body := l351_3 C lf r n) (by kernel_rfl) (fun k => (q351_28_eq C lf (fun x0 x9 x10 x11 h => k (x0, x9, x10, x11) h) r n KE)))) (q351_34_eq C lf (fun x0 x9 x10 x11 h => lp (l351_3 C lf r n) lf (x0, x9, x10, x11) h) (fun F h => r (F 2) (F 3) h) KE)
noncomputable def q351_36 (C : YC) (lf : Nat) (r : K2) (x0 : O) (h : HW) : Rs :=
 q351_35 C lf (fun h => q351_2 C lf r h) r x0 h
theorem q351_36_eq (C : YC) (lf : Nat) (r : K2) (KN : KF) (KE : KX) : ∀ F h, evX fx351 C lf [1] F h KN (fun F h => r (F 2) (F 3) h) KE = q351_36 C lf r (F 0) h := cSeq (a := subX fx351 [1, 0]) (b := subX fx351 [1, 1]) (by kernel_rfl) (B := (fun F h => q351_2 C lf r h)) (q351_2_eq C lf r KN KE) (q351_35_eq C lf (fun h => q351_2 C lf r h) r KE)
noncomputable def q351_37 (C : YC) (lf : Nat) (n : K1) (x0 : O) (h : HW) : Rs :=
 n x0 h
theorem q351_37_eq (C : YC) (lf : Nat) (n : K1) (KR : KF) (KE : KX) : ∀ F h, evX fx351 C lf [0] F h (fun F h => n (F 0) h) KR KE = q351_37 C lf n (F 0) h := by
  intro F h; kernel_rfl
noncomputable def q351_38 (C : YC) (lf : Nat) (r : K2) (x0 : O) (h : HW) : Rs :=
 q351_37 C lf (fun x0 h => q351_36 C lf r x0 h) x0 h
theorem q351_38_eq (C : YC) (lf : Nat) (r : K2) (KN : KF) (KE : KX) : ∀ F h, evX fx351 C lf [] F h KN (fun F h => r (F 2) (F 3) h) KE = q351_38 C lf r (F 0) h := cSeq (a := subX fx351 [0]) (b := subX fx351 [1]) (by kernel_rfl) (B := (fun F h => q351_36 C lf r (F 0) h)) (q351_36_eq C lf r KN KE) (q351_37_eq C lf (fun x0 h => q351_36 C lf r x0 h) (fun F h => r (F 2) (F 3) h) KE)
noncomputable def fs351 (C : YC) (lf : Nat) (a0 : SV) (h : HW) : Rs := q351_38 C lf ff351 (some a0) h
theorem fs351_eq (C : YC) (lf : Nat) (a0 : SV) (h : HW) : yFn Tryz.prog fx351 C lf [a0] h = fs351 C lf a0 h := fnX (K := (fun F h => ff351 (F 2) (F 3) h)) (by kernel_rfl) (((q351_38_eq C lf ff351 (fun F h => ff351 (F 2) (F 3) h) (fun _ _ _ => none)) _ h).trans (by kernel_rfl))
noncomputable def fy351 : YX Tryz.prog := Y1 fx351 fs351 fs351_eq (by kernel_rfl)

noncomputable def fx355 : XF Tryz.prog := ⟨355, Tryz.f355, fun _ => .text, Tryz.func355, by kernel_rfl, by kernel_rfl, by kernel_rfl, by kernel_rfl⟩
noncomputable def ff355 (x4 x5 : O) (h : HW) : Rs :=
 ob x4 fun a0 =>
 ob x5 fun a1 =>
 some (.ret (.tup [a0, a1]), h)
noncomputable def q355_15 (C : YC) (lf : Nat) (r : K2) (x0 x1 : O) (h : HW) : Rs :=
 ob x0 fun a2 =>
 ob x1 fun a3 =>
 bc (C (.fn 362) [a2, a3] h) fun y4 h4 =>
 ob (ext 0 y4) fun y5 =>
 ob (ext 1 y4) fun y6 =>
 ob (ext 2 y4) fun y7 =>
 ob (bin Tryz.prog .neq 3 y7 (.int .i64 0)) fun y8 =>
 yIf y8
 (r (some (.int .i64 0)) (some y7) h4)
 (ob x0 fun a9 =>
 ob x1 fun a10 =>
 bc (C (.fn 339) [a9, a10] h4) fun y11 h11 =>
 ob (lenE Tryz.prog 385 y11) fun y12 =>
 ob (lenE Tryz.prog 123 y5) fun y13 =>
 ob (bin Tryz.prog .sub 3 y12 y13) fun y14 =>
 r (some y14) (some (.int .i64 0)) h11)
theorem q355_15_eq (C : YC) (lf : Nat) (r : K2) (KN : KF) (KE : KX) : ∀ F h, evX fx355 C lf [] F h KN (fun F h => r (F 4) (F 5) h) KE = q355_15 C lf r (F 0) (F 1) h := by
  intro F h; kernel_rfl
noncomputable def fs355 (C : YC) (lf : Nat) (a0 a1 : SV) (h : HW) : Rs := q355_15 C lf ff355 (some a0) (some a1) h
theorem fs355_eq (C : YC) (lf : Nat) (a0 a1 : SV) (h : HW) : yFn Tryz.prog fx355 C lf [a0, a1] h = fs355 C lf a0 a1 h := fnX (K := (fun F h => ff355 (F 4) (F 5) h)) (by kernel_rfl) (((q355_15_eq C lf ff355 (fun F h => ff355 (F 4) (F 5) h) (fun _ _ _ => none)) _ h).trans (by kernel_rfl))
noncomputable def fy355 : YX Tryz.prog := Y2 fx355 fs355 fs355_eq (by kernel_rfl)

noncomputable def fx356 : XF Tryz.prog := ⟨356, Tryz.f356, fun _ => .text, Tryz.func356, by kernel_rfl, by kernel_rfl, by kernel_rfl, by kernel_rfl⟩
noncomputable def ff356 (x2 : O) (h : HW) : Rs :=
 ob x2 fun a0 =>
 some (.ret a0, h)
noncomputable def q356_6 (C : YC) (lf : Nat) (r : K1) (x0 : O) (h : HW) : Rs :=
 ob x0 fun a1 =>
 ob (bin Tryz.prog .eql 9 a1 (.str (bs []))) fun y2 =>
 yIf y2
 (r (some (.int .i64 22)) h)
 (ob x0 fun a3 =>
 ob (lenE Tryz.prog 9 a3) fun y4 =>
 ob (bin Tryz.prog .gtr 3 y4 (.int .i64 27)) fun y5 =>
 yIf y5
 (r (some (.int .i64 36)) h)
 (r (some (.int .i64 0)) h))
theorem q356_6_eq (C : YC) (lf : Nat) (r : K1) (KN : KF) (KE : KX) : ∀ F h, evX fx356 C lf [1, 1] F h KN (fun F h => r (F 2) h) KE = q356_6 C lf r (F 0) h := by
  intro F h; kernel_rfl
noncomputable def q356_25 (C : YC) (lf : Nat) (n : K3) (r : K1) (e0 : K1) (x0 x5 x6 : O) (h : HW) : Rs :=
 ob x6 fun a8 =>
 ob x5 fun a9 =>
 ob (bin Tryz.prog .lss 3 a8 a9) fun y10 =>
 yIf y10
 (ob x6 fun a11 =>
 ob x0 fun a12 =>
 ob (semIndex Tryz.prog 9 a12 a11) fun y13 =>
 ob (bin Tryz.prog .eql 5 y13 (.int .u8 47)) fun y14 =>
 bc (gd false (some y14) (ob x0 fun a15 =>
 some (.ret a15, h)) h) fun y16 h16 =>
 bc (gd false (some y14) (some (.ret a11, h16)) h16) fun y17 h17 =>
 bc (gd false (some y14) (ob (semIndex Tryz.prog 9 y16 y17) fun y18 =>
 some (.ret y18, h17)) h17) fun y19 h19 =>
 bc (gd false (some y14) (ob (bin Tryz.prog .eql 5 y19 (.int .u8 0)) fun y20 =>
 some (.ret y20, h19)) h19) fun y21 h21 =>
 ob (ypk y14 (.bool true) y21) fun y22 =>
 yIf y22
 (r (some (.int .i64 22)) h21)
 (ob x6 fun a23 =>
 ob (bin Tryz.prog .add 3 a23 (.int .i64 1)) fun y24 =>
 n x0 x5 (some y24) h21))
 (e0 x0 h)
theorem q356_25_eq (C : YC) (lf : Nat) (n : K3) (r : K1) (e0 : K1) (KE : KX) : ∀ F h, evX fx356 C lf [1, 0, 1, 0, 0] F h (fun F h => n (F 0) (F 5) (F 6) h) (fun F h => r (F 2) h) (bk 0 (fun F h => e0 (F 0) h) KE) = q356_25 C lf n r e0 (F 0) (F 5) (F 6) h := by
  intro F h; kernel_rfl
noncomputable def l356_7 (C : YC) (lf : Nat) (r : K1) (e0 : K1) (k : O × O × O → HW → Rs) (s : O × O × O) (h : HW) : Rs :=
 q356_25 C lf (fun x0 x5 x6 h => k (x0, x5, x6) h) r e0 s.1 s.2.1 s.2.2 h
noncomputable def q356_28 (C : YC) (lf : Nat) (n : K3) (x0 : O) (h : HW) : Rs :=
 ob x0 fun a26 =>
 ob (lenE Tryz.prog 9 a26) fun y27 =>
 n x0 (some y27) (some (.int .i64 0)) h
theorem q356_28_eq (C : YC) (lf : Nat) (n : K3) (KR : KF) (KE : KX) : ∀ F h, evX fx356 C lf [1, 0, 0] F h (fun F h => n (F 0) (F 5) (F 6) h) KR KE = q356_28 C lf n (F 0) h := by
  intro F h; kernel_rfl
noncomputable def q356_29 (C : YC) (lf : Nat) (n : K1) (r : K1) (x0 : O) (h : HW) : Rs :=
 q356_28 C lf (fun x0 x5 x6 h => lp (l356_7 C lf r n) lf (x0, x5, x6) h) x0 h
theorem q356_29_eq (C : YC) (lf : Nat) (n : K1) (r : K1) (KE : KX) : ∀ F h, evX fx356 C lf [1, 0] F h (fun F h => n (F 0) h) (fun F h => r (F 2) h) KE = q356_29 C lf n r (F 0) h := cSeq (a := subX fx356 [1, 0, 0]) (b := subX fx356 [1, 0, 1]) (by kernel_rfl) (B := (fun F h => lp (l356_7 C lf r n) lf ((F 0), (F 5), (F 6)) h)) (cBlock (id := 0) (a := subX fx356 [1, 0, 1, 0]) (by kernel_rfl) (cLoop (a := subX fx356 [1, 0, 1, 0, 0]) (g := fun F => (F 0, F 5, F 6)) (body := l356_7 C lf r n) (by kernel_rfl) (fun k => (q356_25_eq C lf (fun x0 x5 x6 h => k (x0, x5, x6) h) r n KE)))) (q356_28_eq C lf (fun x0 x5 x6 h => lp (l356_7 C lf r n) lf (x0, x5, x6) h) (fun F h => r (F 2) h) KE)
noncomputable def q356_30 (C : YC) (lf : Nat) (r : K1) (x0 : O) (h : HW) : Rs :=
 q356_29 C lf (fun x0 h => q356_6 C lf r x0 h) r x0 h
theorem q356_30_eq (C : YC) (lf : Nat) (r : K1) (KN : KF) (KE : KX) : ∀ F h, evX fx356 C lf [1] F h KN (fun F h => r (F 2) h) KE = q356_30 C lf r (F 0) h := cSeq (a := subX fx356 [1, 0]) (b := subX fx356 [1, 1]) (by kernel_rfl) (B := (fun F h => q356_6 C lf r (F 0) h)) (q356_6_eq C lf r KN KE) (q356_29_eq C lf (fun x0 h => q356_6 C lf r x0 h) r KE)
noncomputable def q356_31 (C : YC) (lf : Nat) (n : K1) (x0 : O) (h : HW) : Rs :=
 n x0 h
theorem q356_31_eq (C : YC) (lf : Nat) (n : K1) (KR : KF) (KE : KX) : ∀ F h, evX fx356 C lf [0] F h (fun F h => n (F 0) h) KR KE = q356_31 C lf n (F 0) h := by
  intro F h; kernel_rfl
noncomputable def q356_32 (C : YC) (lf : Nat) (r : K1) (x0 : O) (h : HW) : Rs :=
 q356_31 C lf (fun x0 h => q356_30 C lf r x0 h) x0 h
theorem q356_32_eq (C : YC) (lf : Nat) (r : K1) (KN : KF) (KE : KX) : ∀ F h, evX fx356 C lf [] F h KN (fun F h => r (F 2) h) KE = q356_32 C lf r (F 0) h := cSeq (a := subX fx356 [0]) (b := subX fx356 [1]) (by kernel_rfl) (B := (fun F h => q356_30 C lf r (F 0) h)) (q356_30_eq C lf r KN KE) (q356_31_eq C lf (fun x0 h => q356_30 C lf r x0 h) (fun F h => r (F 2) h) KE)
noncomputable def fs356 (C : YC) (lf : Nat) (a0 : SV) (h : HW) : Rs := q356_32 C lf ff356 (some a0) h
theorem fs356_eq (C : YC) (lf : Nat) (a0 : SV) (h : HW) : yFn Tryz.prog fx356 C lf [a0] h = fs356 C lf a0 h := fnX (K := (fun F h => ff356 (F 2) h)) (by kernel_rfl) (((q356_32_eq C lf ff356 (fun F h => ff356 (F 2) h) (fun _ _ _ => none)) _ h).trans (by kernel_rfl))
noncomputable def fy356 : YX Tryz.prog := Y1 fx356 fs356 fs356_eq (by kernel_rfl)

noncomputable def fx357 : XF Tryz.prog := ⟨357, Tryz.f357, fun _ => .text, Tryz.func357, by kernel_rfl, by kernel_rfl, by kernel_rfl, by kernel_rfl⟩
noncomputable def ff357 (x2 : O) (h : HW) : Rs :=
 ob x2 fun a0 =>
 some (.ret a0, h)
noncomputable def q357_5 (C : YC) (lf : Nat) (r : K1) (x0 x3 : O) (h : HW) : Rs :=
 ob x0 fun a1 =>
 ob x3 fun a2 =>
 ob (semSlice Tryz.prog 31 a1 (some (.int .i64 4)) (some a2)) fun y3 =>
 b2 (ycv Tryz.prog 31 9 y3 h) fun y4 h4 =>
 r (some y4) h4
theorem q357_5_eq (C : YC) (lf : Nat) (r : K1) (KN : KF) (KE : KX) : ∀ F h, evX fx357 C lf [1, 1, 1] F h KN (fun F h => r (F 2) h) KE = q357_5 C lf r (F 0) (F 3) h := by
  intro F h; kernel_rfl
noncomputable def q357_22 (C : YC) (lf : Nat) (n : K2) (e0 : K2) (x0 x3 : O) (h : HW) : Rs :=
 ob x3 fun a7 =>
 ob (bin Tryz.prog .lss 3 a7 (.int .i64 32)) fun y8 =>
 bc (gd true (some y8) (ob x0 fun a9 =>
 some (.ret a9, h)) h) fun y10 h10 =>
 bc (gd true (some y8) (ob x3 fun a11 =>
 some (.ret a11, h10)) h10) fun y12 h12 =>
 bc (gd true (some y8) (ob (ixS 1 y10 y12) fun y13 =>
 some (.ret y13, h12)) h12) fun y14 h14 =>
 bc (gd true (some y8) (ob (ld1 y14 h14) fun y15 =>
 some (.ret y15, h14)) h14) fun y16 h16 =>
 bc (gd true (some y8) (ob (bin Tryz.prog .neq 5 y16 (.int .u8 0)) fun y17 =>
 some (.ret y17, h16)) h16) fun y18 h18 =>
 ob (ypk y8 y18 (.bool false)) fun y19 =>
 yIf y19
 (ob x3 fun a20 =>
 ob (bin Tryz.prog .add 3 a20 (.int .i64 1)) fun y21 =>
 n x0 (some y21) h18)
 (e0 x0 x3 h18)
theorem q357_22_eq (C : YC) (lf : Nat) (n : K2) (e0 : K2) (KR : KF) (KE : KX) : ∀ F h, evX fx357 C lf [1, 1, 0, 0, 0] F h (fun F h => n (F 0) (F 3) h) KR (bk 0 (fun F h => e0 (F 0) (F 3) h) KE) = q357_22 C lf n e0 (F 0) (F 3) h := by
  intro F h; kernel_rfl
noncomputable def l357_6 (C : YC) (lf : Nat) (e0 : K2) (k : O × O → HW → Rs) (s : O × O) (h : HW) : Rs :=
 q357_22 C lf (fun x0 x3 h => k (x0, x3) h) e0 s.1 s.2 h
noncomputable def q357_23 (C : YC) (lf : Nat) (r : K1) (x0 x3 : O) (h : HW) : Rs :=
 lp (l357_6 C lf (fun x0 x3 h => q357_5 C lf r x0 x3 h)) lf (x0, x3) h
theorem q357_23_eq (C : YC) (lf : Nat) (r : K1) (KN : KF) (KE : KX) : ∀ F h, evX fx357 C lf [1, 1] F h KN (fun F h => r (F 2) h) KE = q357_23 C lf r (F 0) (F 3) h := cSeq (a := subX fx357 [1, 1, 0]) (b := subX fx357 [1, 1, 1]) (by kernel_rfl) (B := (fun F h => q357_5 C lf r (F 0) (F 3) h)) (q357_5_eq C lf r KN KE) (cBlock (id := 0) (a := subX fx357 [1, 1, 0, 0]) (by kernel_rfl) (cLoop (a := subX fx357 [1, 1, 0, 0, 0]) (g := fun F => (F 0, F 3)) (body := l357_6 C lf (fun x0 x3 h => q357_5 C lf r x0 x3 h)) (by kernel_rfl) (fun k => (q357_22_eq C lf (fun x0 x3 h => k (x0, x3) h) (fun x0 x3 h => q357_5 C lf r x0 x3 h) (fun F h => r (F 2) h) KE))))
noncomputable def q357_24 (C : YC) (lf : Nat) (n : K2) (x0 : O) (h : HW) : Rs :=
 n x0 (some (.int .i64 4)) h
theorem q357_24_eq (C : YC) (lf : Nat) (n : K2) (KR : KF) (KE : KX) : ∀ F h, evX fx357 C lf [1, 0] F h (fun F h => n (F 0) (F 3) h) KR KE = q357_24 C lf n (F 0) h := by
  intro F h; kernel_rfl
noncomputable def q357_25 (C : YC) (lf : Nat) (r : K1) (x0 : O) (h : HW) : Rs :=
 q357_24 C lf (fun x0 x3 h => q357_23 C lf r x0 x3 h) x0 h
theorem q357_25_eq (C : YC) (lf : Nat) (r : K1) (KN : KF) (KE : KX) : ∀ F h, evX fx357 C lf [1] F h KN (fun F h => r (F 2) h) KE = q357_25 C lf r (F 0) h := cSeq (a := subX fx357 [1, 0]) (b := subX fx357 [1, 1]) (by kernel_rfl) (B := (fun F h => q357_23 C lf r (F 0) (F 3) h)) (q357_23_eq C lf r KN KE) (q357_24_eq C lf (fun x0 x3 h => q357_23 C lf r x0 x3 h) (fun F h => r (F 2) h) KE)
noncomputable def q357_26 (C : YC) (lf : Nat) (n : K1) (x0 : O) (h : HW) : Rs :=
 n x0 h
theorem q357_26_eq (C : YC) (lf : Nat) (n : K1) (KR : KF) (KE : KX) : ∀ F h, evX fx357 C lf [0] F h (fun F h => n (F 0) h) KR KE = q357_26 C lf n (F 0) h := by
  intro F h; kernel_rfl
noncomputable def q357_27 (C : YC) (lf : Nat) (r : K1) (x0 : O) (h : HW) : Rs :=
 q357_26 C lf (fun x0 h => q357_25 C lf r x0 h) x0 h
theorem q357_27_eq (C : YC) (lf : Nat) (r : K1) (KN : KF) (KE : KX) : ∀ F h, evX fx357 C lf [] F h KN (fun F h => r (F 2) h) KE = q357_27 C lf r (F 0) h := cSeq (a := subX fx357 [0]) (b := subX fx357 [1]) (by kernel_rfl) (B := (fun F h => q357_25 C lf r (F 0) h)) (q357_25_eq C lf r KN KE) (q357_26_eq C lf (fun x0 h => q357_25 C lf r x0 h) (fun F h => r (F 2) h) KE)
noncomputable def fs357 (C : YC) (lf : Nat) (a0 : SV) (h : HW) : Rs := q357_27 C lf ff357 (some a0) h
theorem fs357_eq (C : YC) (lf : Nat) (a0 : SV) (h : HW) : yFn Tryz.prog fx357 C lf [a0] h = fs357 C lf a0 h := fnX (K := (fun F h => ff357 (F 2) h)) (by kernel_rfl) (((q357_27_eq C lf ff357 (fun F h => ff357 (F 2) h) (fun _ _ _ => none)) _ h).trans (by kernel_rfl))
noncomputable def fy357 : YX Tryz.prog := Y1 fx357 fs357 fs357_eq (by kernel_rfl)

noncomputable def fx358 : XF Tryz.prog := ⟨358, Tryz.f358, fun _ => .text, Tryz.func358, by kernel_rfl, by kernel_rfl, by kernel_rfl, by kernel_rfl⟩
noncomputable def ff358 (x4 : O) (h : HW) : Rs :=
 ob x4 fun a0 =>
 some (.ret a0, h)
noncomputable def q358_1 (C : YC) (lf : Nat) (r : K1) (h : HW) : Rs :=
 r (some (.int .i64 (-1))) h
theorem q358_1_eq (C : YC) (lf : Nat) (r : K1) (KN : KF) (KE : KX) : ∀ F h, evX fx358 C lf [1, 1, 1, 1, 1] F h KN (fun F h => r (F 4) h) KE = q358_1 C lf r h := by
  intro F h; kernel_rfl
noncomputable def q358_11 (C : YC) (lf : Nat) (n : K2) (r : K1) (e2 : K0) (x1 x45 : O) (h : HW) : Rs :=
 ob x45 fun a3 =>
 b2 (ynx a3 h) fun y4 h4 =>
 ob (ext 0 y4) fun y5 =>
 yIf y5
 (ob (ext 1 y4) fun y6 =>
 ob (ext 2 y4) fun y7 =>
 ob x1 fun a8 =>
 bc (C (.fn 363) [a8, y7] h4) fun y9 h9 =>
 ob (bin Tryz.prog .geq 3 y9 (.int .i64 0)) fun y10 =>
 yIf y10
 (r (some y6) h9)
 (n x1 x45 h9))
 (e2 h4)
theorem q358_11_eq (C : YC) (lf : Nat) (n : K2) (r : K1) (e2 : K0) (KE : KX) : ∀ F h, evX fx358 C lf [1, 1, 1, 1, 0, 1, 0, 0] F h (fun F h => n (F 1) (F 45) h) (fun F h => r (F 4) h) (bk 2 (fun F h => e2 h) KE) = q358_11 C lf n r e2 (F 1) (F 45) h := by
  intro F h; kernel_rfl
noncomputable def l358_2 (C : YC) (lf : Nat) (r : K1) (e2 : K0) (k : O × O → HW → Rs) (s : O × O) (h : HW) : Rs :=
 q358_11 C lf (fun x1 x45 h => k (x1, x45) h) r e2 s.1 s.2 h
noncomputable def q358_14 (C : YC) (lf : Nat) (n : K2) (x0 x1 : O) (h : HW) : Rs :=
 ob x0 fun a12 =>
 b2 (yrg Tryz.prog 9 a12 h) fun y13 h13 =>
 n x1 (some y13) h13
theorem q358_14_eq (C : YC) (lf : Nat) (n : K2) (KR : KF) (KE : KX) : ∀ F h, evX fx358 C lf [1, 1, 1, 1, 0, 0] F h (fun F h => n (F 1) (F 45) h) KR KE = q358_14 C lf n (F 0) (F 1) h := by
  intro F h; kernel_rfl
noncomputable def q358_15 (C : YC) (lf : Nat) (n : K0) (r : K1) (x0 x1 : O) (h : HW) : Rs :=
 q358_14 C lf (fun x1 x45 h => lp (l358_2 C lf r n) lf (x1, x45) h) x0 x1 h
theorem q358_15_eq (C : YC) (lf : Nat) (n : K0) (r : K1) (KE : KX) : ∀ F h, evX fx358 C lf [1, 1, 1, 1, 0] F h (fun F h => n h) (fun F h => r (F 4) h) KE = q358_15 C lf n r (F 0) (F 1) h := cSeq (a := subX fx358 [1, 1, 1, 1, 0, 0]) (b := subX fx358 [1, 1, 1, 1, 0, 1]) (by kernel_rfl) (B := (fun F h => lp (l358_2 C lf r n) lf ((F 1), (F 45)) h)) (cBlock (id := 2) (a := subX fx358 [1, 1, 1, 1, 0, 1, 0]) (by kernel_rfl) (cLoop (a := subX fx358 [1, 1, 1, 1, 0, 1, 0, 0]) (g := fun F => (F 1, F 45)) (body := l358_2 C lf r n) (by kernel_rfl) (fun k => (q358_11_eq C lf (fun x1 x45 h => k (x1, x45) h) r n KE)))) (q358_14_eq C lf (fun x1 x45 h => lp (l358_2 C lf r n) lf (x1, x45) h) (fun F h => r (F 4) h) KE)
noncomputable def q358_16 (C : YC) (lf : Nat) (r : K1) (x0 x1 : O) (h : HW) : Rs :=
 q358_15 C lf (fun h => q358_1 C lf r h) r x0 x1 h
theorem q358_16_eq (C : YC) (lf : Nat) (r : K1) (KN : KF) (KE : KX) : ∀ F h, evX fx358 C lf [1, 1, 1, 1] F h KN (fun F h => r (F 4) h) KE = q358_16 C lf r (F 0) (F 1) h := cSeq (a := subX fx358 [1, 1, 1, 1, 0]) (b := subX fx358 [1, 1, 1, 1, 1]) (by kernel_rfl) (B := (fun F h => q358_1 C lf r h)) (q358_1_eq C lf r KN KE) (q358_15_eq C lf (fun h => q358_1 C lf r h) r KE)
noncomputable def q358_17 (C : YC) (lf : Nat) (r : K1) (h : HW) : Rs :=
 r (some (.int .i64 (-1))) h
theorem q358_17_eq (C : YC) (lf : Nat) (r : K1) (KN : KF) (KE : KX) : ∀ F h, evX fx358 C lf [1, 1, 1, 0, 1, 0, 1, 1, 0, 1] F h KN (fun F h => r (F 4) h) KE = q358_17 C lf r h := by
  intro F h; kernel_rfl
noncomputable def q358_31 (C : YC) (lf : Nat) (n : K3) (r : K1) (e0 : K0) (x0 x6 x8 : O) (h : HW) : Rs :=
 ob x8 fun a19 =>
 ob x0 fun a20 =>
 ob (lenE Tryz.prog 9 a20) fun y21 =>
 ob (bin Tryz.prog .lss 3 a19 y21) fun y22 =>
 yIf y22
 (ob x0 fun a23 =>
 ob x8 fun a24 =>
 ob (semIndex Tryz.prog 9 a23 a24) fun y25 =>
 ob x6 fun a26 =>
 bc (C (.fn 366) [a26, y25] h) fun y27 h27 =>
 yIf y27
 (ob x8 fun a28 =>
 r (some a28) h27)
 (ob x8 fun a29 =>
 ob (bin Tryz.prog .add 3 a29 (.int .i64 1)) fun y30 =>
 n x0 x6 (some y30) h27))
 (e0 h)
theorem q358_31_eq (C : YC) (lf : Nat) (n : K3) (r : K1) (e0 : K0) (KE : KX) : ∀ F h, evX fx358 C lf [1, 1, 1, 0, 1, 0, 1, 1, 0, 0, 1, 0, 0] F h (fun F h => n (F 0) (F 6) (F 8) h) (fun F h => r (F 4) h) (bk 0 (fun F h => e0 h) KE) = q358_31 C lf n r e0 (F 0) (F 6) (F 8) h := by
  intro F h; kernel_rfl
noncomputable def l358_18 (C : YC) (lf : Nat) (r : K1) (e0 : K0) (k : O × O × O → HW → Rs) (s : O × O × O) (h : HW) : Rs :=
 q358_31 C lf (fun x0 x6 x8 h => k (x0, x6, x8) h) r e0 s.1 s.2.1 s.2.2 h
noncomputable def q358_32 (C : YC) (lf : Nat) (n : K3) (x0 x6 : O) (h : HW) : Rs :=
 n x0 x6 (some (.int .i64 0)) h
theorem q358_32_eq (C : YC) (lf : Nat) (n : K3) (KR : KF) (KE : KX) : ∀ F h, evX fx358 C lf [1, 1, 1, 0, 1, 0, 1, 1, 0, 0, 0] F h (fun F h => n (F 0) (F 6) (F 8) h) KR KE = q358_32 C lf n (F 0) (F 6) h := by
  intro F h; kernel_rfl
noncomputable def q358_33 (C : YC) (lf : Nat) (n : K0) (r : K1) (x0 x6 : O) (h : HW) : Rs :=
 q358_32 C lf (fun x0 x6 x8 h => lp (l358_18 C lf r n) lf (x0, x6, x8) h) x0 x6 h
theorem q358_33_eq (C : YC) (lf : Nat) (n : K0) (r : K1) (KE : KX) : ∀ F h, evX fx358 C lf [1, 1, 1, 0, 1, 0, 1, 1, 0, 0] F h (fun F h => n h) (fun F h => r (F 4) h) KE = q358_33 C lf n r (F 0) (F 6) h := cSeq (a := subX fx358 [1, 1, 1, 0, 1, 0, 1, 1, 0, 0, 0]) (b := subX fx358 [1, 1, 1, 0, 1, 0, 1, 1, 0, 0, 1]) (by kernel_rfl) (B := (fun F h => lp (l358_18 C lf r n) lf ((F 0), (F 6), (F 8)) h)) (cBlock (id := 0) (a := subX fx358 [1, 1, 1, 0, 1, 0, 1, 1, 0, 0, 1, 0]) (by kernel_rfl) (cLoop (a := subX fx358 [1, 1, 1, 0, 1, 0, 1, 1, 0, 0, 1, 0, 0]) (g := fun F => (F 0, F 6, F 8)) (body := l358_18 C lf r n) (by kernel_rfl) (fun k => (q358_31_eq C lf (fun x0 x6 x8 h => k (x0, x6, x8) h) r n KE)))) (q358_32_eq C lf (fun x0 x6 x8 h => lp (l358_18 C lf r n) lf (x0, x6, x8) h) (fun F h => r (F 4) h) KE)
noncomputable def q358_34 (C : YC) (lf : Nat) (r : K1) (x0 x6 : O) (h : HW) : Rs :=
 q358_33 C lf (fun h => q358_17 C lf r h) r x0 x6 h
theorem q358_34_eq (C : YC) (lf : Nat) (r : K1) (KN : KF) (KE : KX) : ∀ F h, evX fx358 C lf [1, 1, 1, 0, 1, 0, 1, 1, 0] F h KN (fun F h => r (F 4) h) KE = q358_34 C lf r (F 0) (F 6) h := cSeq (a := subX fx358 [1, 1, 1, 0, 1, 0, 1, 1, 0, 0]) (b := subX fx358 [1, 1, 1, 0, 1, 0, 1, 1, 0, 1]) (by kernel_rfl) (B := (fun F h => q358_17 C lf r h)) (q358_17_eq C lf r KN KE) (q358_33_eq C lf (fun h => q358_17 C lf r h) r KE)
noncomputable def q358_35 (C : YC) (lf : Nat) (n : K2) (x0 x1 : O) (h : HW) : Rs :=
 n x0 x1 h
theorem q358_35_eq (C : YC) (lf : Nat) (n : K2) (KR : KF) (KE : KX) : ∀ F h, evX fx358 C lf [1, 1, 1, 0, 1, 0, 1, 1, 1] F h (fun F h => n (F 0) (F 1) h) KR KE = q358_35 C lf n (F 0) (F 1) h := by
  intro F h; kernel_rfl
noncomputable def q358_37 (C : YC) (lf : Nat) (n : K2) (r : K1) (x0 x1 x6 x32 : O) (h : HW) : Rs :=
 ob x32 fun a36 =>
 yIf a36
 (q358_34 C lf r x0 x6 h)
 (q358_35 C lf n x0 x1 h)
theorem q358_37_eq (C : YC) (lf : Nat) (n : K2) (r : K1) (KE : KX) : ∀ F h, evX fx358 C lf [1, 1, 1, 0, 1, 0, 1, 1] F h (fun F h => n (F 0) (F 1) h) (fun F h => r (F 4) h) KE = q358_37 C lf n r (F 0) (F 1) (F 6) (F 32) h := cCond (x := .tmp 32) (by kernel_rfl) (q358_34_eq C lf r (fun F h => n (F 0) (F 1) h) KE) (q358_35_eq C lf n (fun F h => r (F 4) h) KE)
noncomputable def q358_39 (C : YC) (lf : Nat) (n : K4) (x0 x1 x6 x7 : O) (h : HW) : Rs :=
 ob x7 fun a38 =>
 n x0 x1 x6 (some a38) h
theorem q358_39_eq (C : YC) (lf : Nat) (n : K4) (KR : KF) (KE : KX) : ∀ F h, evX fx358 C lf [1, 1, 1, 0, 1, 0, 1, 0] F h (fun F h => n (F 0) (F 1) (F 6) (F 32) h) KR KE = q358_39 C lf n (F 0) (F 1) (F 6) (F 7) h := by
  intro F h; kernel_rfl
noncomputable def q358_40 (C : YC) (lf : Nat) (n : K2) (r : K1) (x0 x1 x6 x7 : O) (h : HW) : Rs :=
 q358_39 C lf (fun x0 x1 x6 x32 h => q358_37 C lf n r x0 x1 x6 x32 h) x0 x1 x6 x7 h
theorem q358_40_eq (C : YC) (lf : Nat) (n : K2) (r : K1) (KE : KX) : ∀ F h, evX fx358 C lf [1, 1, 1, 0, 1, 0, 1] F h (fun F h => n (F 0) (F 1) h) (fun F h => r (F 4) h) KE = q358_40 C lf n r (F 0) (F 1) (F 6) (F 7) h := cSeq (a := subX fx358 [1, 1, 1, 0, 1, 0, 1, 0]) (b := subX fx358 [1, 1, 1, 0, 1, 0, 1, 1]) (by kernel_rfl) (B := (fun F h => q358_37 C lf n r (F 0) (F 1) (F 6) (F 32) h)) (q358_37_eq C lf n r KE) (q358_39_eq C lf (fun x0 x1 x6 x32 h => q358_37 C lf n r x0 x1 x6 x32 h) (fun F h => r (F 4) h) KE)
noncomputable def q358_47 (C : YC) (lf : Nat) (n : K4) (x0 x1 : O) (h : HW) : Rs :=
 ob x1 fun a41 =>
 bc (C (.fn 365) [a41] h) fun y42 h42 =>
 ob (ext 0 y42) fun y43 =>
 ob (ext 1 y42) fun y44 =>
 b2 (yAl Tryz.prog 446 h42) fun y45 h45 =>
 ob (st 256 y45 y43 h45) fun h46 =>
 n x0 x1 (some y45) (some y44) h46
theorem q358_47_eq (C : YC) (lf : Nat) (n : K4) (KR : KF) (KE : KX) : ∀ F h, evX fx358 C lf [1, 1, 1, 0, 1, 0, 0] F h (fun F h => n (F 0) (F 1) (F 6) (F 7) h) KR KE = q358_47 C lf n (F 0) (F 1) h := by
  intro F h; kernel_rfl
noncomputable def q358_48 (C : YC) (lf : Nat) (n : K2) (r : K1) (x0 x1 : O) (h : HW) : Rs :=
 q358_47 C lf (fun x0 x1 x6 x7 h => q358_40 C lf n r x0 x1 x6 x7 h) x0 x1 h
theorem q358_48_eq (C : YC) (lf : Nat) (n : K2) (r : K1) (KE : KX) : ∀ F h, evX fx358 C lf [1, 1, 1, 0, 1, 0] F h (fun F h => n (F 0) (F 1) h) (fun F h => r (F 4) h) KE = q358_48 C lf n r (F 0) (F 1) h := cSeq (a := subX fx358 [1, 1, 1, 0, 1, 0, 0]) (b := subX fx358 [1, 1, 1, 0, 1, 0, 1]) (by kernel_rfl) (B := (fun F h => q358_40 C lf n r (F 0) (F 1) (F 6) (F 7) h)) (q358_40_eq C lf n r KE) (q358_47_eq C lf (fun x0 x1 x6 x7 h => q358_40 C lf n r x0 x1 x6 x7 h) (fun F h => r (F 4) h) KE)
noncomputable def q358_49 (C : YC) (lf : Nat) (n : K2) (x0 x1 : O) (h : HW) : Rs :=
 n x0 x1 h
theorem q358_49_eq (C : YC) (lf : Nat) (n : K2) (KR : KF) (KE : KX) : ∀ F h, evX fx358 C lf [1, 1, 1, 0, 1, 1] F h (fun F h => n (F 0) (F 1) h) KR KE = q358_49 C lf n (F 0) (F 1) h := by
  intro F h; kernel_rfl
noncomputable def q358_51 (C : YC) (lf : Nat) (n : K2) (r : K1) (x0 x1 x26 : O) (h : HW) : Rs :=
 ob x26 fun a50 =>
 yIf a50
 (q358_48 C lf n r x0 x1 h)
 (q358_49 C lf n x0 x1 h)
theorem q358_51_eq (C : YC) (lf : Nat) (n : K2) (r : K1) (KE : KX) : ∀ F h, evX fx358 C lf [1, 1, 1, 0, 1] F h (fun F h => n (F 0) (F 1) h) (fun F h => r (F 4) h) KE = q358_51 C lf n r (F 0) (F 1) (F 26) h := cCond (x := .tmp 26) (by kernel_rfl) (q358_48_eq C lf n r KE) (q358_49_eq C lf n (fun F h => r (F 4) h) KE)
noncomputable def q358_55 (C : YC) (lf : Nat) (n : K3) (x0 x1 : O) (h : HW) : Rs :=
 ob x0 fun a52 =>
 ob (lenE Tryz.prog 9 a52) fun y53 =>
 bc (C (.fn 364) [y53] h) fun y54 h54 =>
 n x0 x1 (some y54) h54
theorem q358_55_eq (C : YC) (lf : Nat) (n : K3) (KR : KF) (KE : KX) : ∀ F h, evX fx358 C lf [1, 1, 1, 0, 0] F h (fun F h => n (F 0) (F 1) (F 26) h) KR KE = q358_55 C lf n (F 0) (F 1) h := by
  intro F h; kernel_rfl
noncomputable def q358_56 (C : YC) (lf : Nat) (n : K2) (r : K1) (x0 x1 : O) (h : HW) : Rs :=
 q358_55 C lf (fun x0 x1 x26 h => q358_51 C lf n r x0 x1 x26 h) x0 x1 h
theorem q358_56_eq (C : YC) (lf : Nat) (n : K2) (r : K1) (KE : KX) : ∀ F h, evX fx358 C lf [1, 1, 1, 0] F h (fun F h => n (F 0) (F 1) h) (fun F h => r (F 4) h) KE = q358_56 C lf n r (F 0) (F 1) h := cSeq (a := subX fx358 [1, 1, 1, 0, 0]) (b := subX fx358 [1, 1, 1, 0, 1]) (by kernel_rfl) (B := (fun F h => q358_51 C lf n r (F 0) (F 1) (F 26) h)) (q358_51_eq C lf n r KE) (q358_55_eq C lf (fun x0 x1 x26 h => q358_51 C lf n r x0 x1 x26 h) (fun F h => r (F 4) h) KE)
noncomputable def q358_57 (C : YC) (lf : Nat) (r : K1) (x0 x1 : O) (h : HW) : Rs :=
 q358_56 C lf (fun x0 x1 h => q358_16 C lf r x0 x1 h) r x0 x1 h
theorem q358_57_eq (C : YC) (lf : Nat) (r : K1) (KN : KF) (KE : KX) : ∀ F h, evX fx358 C lf [1, 1, 1] F h KN (fun F h => r (F 4) h) KE = q358_57 C lf r (F 0) (F 1) h := cSeq (a := subX fx358 [1, 1, 1, 0]) (b := subX fx358 [1, 1, 1, 1]) (by kernel_rfl) (B := (fun F h => q358_16 C lf r (F 0) (F 1) h)) (q358_16_eq C lf r KN KE) (q358_56_eq C lf (fun x0 x1 h => q358_16 C lf r x0 x1 h) r KE)
noncomputable def q358_69 (C : YC) (lf : Nat) (n : K2) (r : K1) (x0 x1 : O) (h : HW) : Rs :=
 ob x1 fun a58 =>
 ob (lenE Tryz.prog 9 a58) fun y59 =>
 ob (bin Tryz.prog .eql 3 y59 (.int .i64 1)) fun y60 =>
 yIf y60
 (ob x1 fun a61 =>
 ob (semIndex Tryz.prog 9 a61 (.int .i64 0)) fun y62 =>
 ob (cvI .i32 y62) fun y63 =>
 ob (bin Tryz.prog .geq 21 y63 (.int .i32 128)) fun y64 =>
 yIf y64
 (ob x0 fun a65 =>
 bc (C (.fn 363) [a65, (.int .i32 65533)] h) fun y66 h66 =>
 r (some y66) h66)
 (ob x0 fun a67 =>
 bc (C (.fn 363) [a67, y63] h) fun y68 h68 =>
 r (some y68) h68))
 (n x0 x1 h)
theorem q358_69_eq (C : YC) (lf : Nat) (n : K2) (r : K1) (KE : KX) : ∀ F h, evX fx358 C lf [1, 1, 0] F h (fun F h => n (F 0) (F 1) h) (fun F h => r (F 4) h) KE = q358_69 C lf n r (F 0) (F 1) h := by
  intro F h; kernel_rfl
noncomputable def q358_70 (C : YC) (lf : Nat) (r : K1) (x0 x1 : O) (h : HW) : Rs :=
 q358_69 C lf (fun x0 x1 h => q358_57 C lf r x0 x1 h) r x0 x1 h
theorem q358_70_eq (C : YC) (lf : Nat) (r : K1) (KN : KF) (KE : KX) : ∀ F h, evX fx358 C lf [1, 1] F h KN (fun F h => r (F 4) h) KE = q358_70 C lf r (F 0) (F 1) h := cSeq (a := subX fx358 [1, 1, 0]) (b := subX fx358 [1, 1, 1]) (by kernel_rfl) (B := (fun F h => q358_57 C lf r (F 0) (F 1) h)) (q358_57_eq C lf r KN KE) (q358_69_eq C lf (fun x0 x1 h => q358_57 C lf r x0 x1 h) r KE)
noncomputable def q358_73 (C : YC) (lf : Nat) (n : K2) (r : K1) (x0 x1 : O) (h : HW) : Rs :=
 ob x1 fun a71 =>
 ob (bin Tryz.prog .eql 9 a71 (.str (bs []))) fun y72 =>
 yIf y72
 (r (some (.int .i64 (-1))) h)
 (n x0 x1 h)
theorem q358_73_eq (C : YC) (lf : Nat) (n : K2) (r : K1) (KE : KX) : ∀ F h, evX fx358 C lf [1, 0] F h (fun F h => n (F 0) (F 1) h) (fun F h => r (F 4) h) KE = q358_73 C lf n r (F 0) (F 1) h := by
  intro F h; kernel_rfl
noncomputable def q358_74 (C : YC) (lf : Nat) (r : K1) (x0 x1 : O) (h : HW) : Rs :=
 q358_73 C lf (fun x0 x1 h => q358_70 C lf r x0 x1 h) r x0 x1 h
theorem q358_74_eq (C : YC) (lf : Nat) (r : K1) (KN : KF) (KE : KX) : ∀ F h, evX fx358 C lf [1] F h KN (fun F h => r (F 4) h) KE = q358_74 C lf r (F 0) (F 1) h := cSeq (a := subX fx358 [1, 0]) (b := subX fx358 [1, 1]) (by kernel_rfl) (B := (fun F h => q358_70 C lf r (F 0) (F 1) h)) (q358_70_eq C lf r KN KE) (q358_73_eq C lf (fun x0 x1 h => q358_70 C lf r x0 x1 h) r KE)
noncomputable def q358_75 (C : YC) (lf : Nat) (n : K2) (x0 x1 : O) (h : HW) : Rs :=
 n x0 x1 h
theorem q358_75_eq (C : YC) (lf : Nat) (n : K2) (KR : KF) (KE : KX) : ∀ F h, evX fx358 C lf [0] F h (fun F h => n (F 0) (F 1) h) KR KE = q358_75 C lf n (F 0) (F 1) h := by
  intro F h; kernel_rfl
noncomputable def q358_76 (C : YC) (lf : Nat) (r : K1) (x0 x1 : O) (h : HW) : Rs :=
 q358_75 C lf (fun x0 x1 h => q358_74 C lf r x0 x1 h) x0 x1 h
theorem q358_76_eq (C : YC) (lf : Nat) (r : K1) (KN : KF) (KE : KX) : ∀ F h, evX fx358 C lf [] F h KN (fun F h => r (F 4) h) KE = q358_76 C lf r (F 0) (F 1) h := cSeq (a := subX fx358 [0]) (b := subX fx358 [1]) (by kernel_rfl) (B := (fun F h => q358_74 C lf r (F 0) (F 1) h)) (q358_74_eq C lf r KN KE) (q358_75_eq C lf (fun x0 x1 h => q358_74 C lf r x0 x1 h) (fun F h => r (F 4) h) KE)
noncomputable def fs358 (C : YC) (lf : Nat) (a0 a1 : SV) (h : HW) : Rs := q358_76 C lf ff358 (some a0) (some a1) h
theorem fs358_eq (C : YC) (lf : Nat) (a0 a1 : SV) (h : HW) : yFn Tryz.prog fx358 C lf [a0, a1] h = fs358 C lf a0 a1 h := fnX (K := (fun F h => ff358 (F 4) h)) (by kernel_rfl) (((q358_76_eq C lf ff358 (fun F h => ff358 (F 4) h) (fun _ _ _ => none)) _ h).trans (by kernel_rfl))
noncomputable def fy358 : YX Tryz.prog := Y2 fx358 fs358 fs358_eq (by kernel_rfl)

noncomputable def gx359 : XN Tryz.prog := { f := 359, fn := Tryz.f359, k := .indexByte, isFn := Tryz.func359, isPlain := by kernel_rfl, noBody := by kernel_rfl, noNext := by kernel_rfl, isK := by kernel_rfl }

noncomputable def fx362 : XF Tryz.prog := ⟨362, Tryz.f362, fun _ => .text, Tryz.func362, by kernel_rfl, by kernel_rfl, by kernel_rfl, by kernel_rfl⟩
noncomputable def ff362 (x4 x5 x6 : O) (h : HW) : Rs :=
 ob x4 fun a0 =>
 ob x5 fun a1 =>
 ob x6 fun a2 =>
 some (.ret (.tup [a0, a1, a2]), h)
noncomputable def q362_5 (C : YC) (lf : Nat) (r : K3) (x8 x9 : O) (h : HW) : Rs :=
 ob x8 fun a3 =>
 ob x9 fun a4 =>
 r (some a3) (some a4) (some (.int .i64 0)) h
theorem q362_5_eq (C : YC) (lf : Nat) (r : K3) (KN : KF) (KE : KX) : ∀ F h, evX fx362 C lf [1, 1, 1, 1, 1, 1] F h KN (fun F h => r (F 4) (F 5) (F 6) h) KE = q362_5 C lf r (F 8) (F 9) h := by
  intro F h; kernel_rfl
noncomputable def q362_29 (C : YC) (lf : Nat) (n : K6) (e0 : K2) (x0 x8 x9 x20 x21 x22 : O) (h : HW) : Rs :=
 ob x22 fun a7 =>
 ob x21 fun a8 =>
 ob (bin Tryz.prog .lss 3 a7 a8) fun y9 =>
 yIf y9
 (ob x22 fun a10 =>
 ob x20 fun a11 =>
 ob x22 fun a12 =>
 ob (ixS 1 a11 a12) fun y13 =>
 ob (ld1 y13 h) fun y14 =>
 bc (C (.fn 340) [y14] h) fun y15 h15 =>
 ob (bin Tryz.prog .gtr 3 y15 (.int .i64 0)) fun y16 =>
 yIf y16
 (ob x8 fun a17 =>
 ob x0 fun a18 =>
 bc (C (.fn 367) [a18, y14] h15) fun y19 h19 =>
 b2 (ybs Tryz.prog 123 1 [0] [y19] h19) fun y20 h20 =>
 b2 (ybl Tryz.prog .append #[123, 123] [a17, y20] h20) fun y21 h21 =>
 ob x9 fun a22 =>
 b2 (ybs Tryz.prog 44 1 [0] [a10] h21) fun y23 h23 =>
 b2 (ybl Tryz.prog .append #[44, 44] [a22, y23] h23) fun y24 h24 =>
 ob x22 fun a25 =>
 ob (bin Tryz.prog .add 3 a25 (.int .i64 1)) fun y26 =>
 n x0 (some y21) (some y24) x20 x21 (some y26) h24)
 (ob x22 fun a27 =>
 ob (bin Tryz.prog .add 3 a27 (.int .i64 1)) fun y28 =>
 n x0 x8 x9 x20 x21 (some y28) h15))
 (e0 x8 x9 h)
theorem q362_29_eq (C : YC) (lf : Nat) (n : K6) (e0 : K2) (KR : KF) (KE : KX) : ∀ F h, evX fx362 C lf [1, 1, 1, 1, 1, 0, 1, 0, 0] F h (fun F h => n (F 0) (F 8) (F 9) (F 20) (F 21) (F 22) h) KR (bk 0 (fun F h => e0 (F 8) (F 9) h) KE) = q362_29 C lf n e0 (F 0) (F 8) (F 9) (F 20) (F 21) (F 22) h := by
  intro F h; kernel_rfl
noncomputable def l362_6 (C : YC) (lf : Nat) (e0 : K2) (k : O × O × O × O × O × O → HW → Rs) (s : O × O × O × O × O × O) (h : HW) : Rs :=
 q362_29 C lf (fun x0 x8 x9 x20 x21 x22 h => k (x0, x8, x9, x20, x21, x22) h) e0 s.1 s.2.1 s.2.2.1 s.2.2.2.1 s.2.2.2.2.1 s.2.2.2.2.2 h
noncomputable def q362_34 (C : YC) (lf : Nat) (n : K6) (x0 x1 x8 x9 : O) (h : HW) : Rs :=
 ob x0 fun a30 =>
 ob x1 fun a31 =>
 bc (C (.fn 339) [a30, a31] h) fun y32 h32 =>
 ob (lenE Tryz.prog 385 y32) fun y33 =>
 n x0 x8 x9 (some y32) (some y33) (some (.int .i64 0)) h32
theorem q362_34_eq (C : YC) (lf : Nat) (n : K6) (KR : KF) (KE : KX) : ∀ F h, evX fx362 C lf [1, 1, 1, 1, 1, 0, 0] F h (fun F h => n (F 0) (F 8) (F 9) (F 20) (F 21) (F 22) h) KR KE = q362_34 C lf n (F 0) (F 1) (F 8) (F 9) h := by
  intro F h; kernel_rfl
noncomputable def q362_35 (C : YC) (lf : Nat) (n : K2) (x0 x1 x8 x9 : O) (h : HW) : Rs :=
 q362_34 C lf (fun x0 x8 x9 x20 x21 x22 h => lp (l362_6 C lf n) lf (x0, x8, x9, x20, x21, x22) h) x0 x1 x8 x9 h
theorem q362_35_eq (C : YC) (lf : Nat) (n : K2) (KR : KF) (KE : KX) : ∀ F h, evX fx362 C lf [1, 1, 1, 1, 1, 0] F h (fun F h => n (F 8) (F 9) h) KR KE = q362_35 C lf n (F 0) (F 1) (F 8) (F 9) h := cSeq (a := subX fx362 [1, 1, 1, 1, 1, 0, 0]) (b := subX fx362 [1, 1, 1, 1, 1, 0, 1]) (by kernel_rfl) (B := (fun F h => lp (l362_6 C lf n) lf ((F 0), (F 8), (F 9), (F 20), (F 21), (F 22)) h)) (cBlock (id := 0) (a := subX fx362 [1, 1, 1, 1, 1, 0, 1, 0]) (by kernel_rfl) (cLoop (a := subX fx362 [1, 1, 1, 1, 1, 0, 1, 0, 0]) (g := fun F => (F 0, F 8, F 9, F 20, F 21, F 22)) (body := l362_6 C lf n) (by kernel_rfl) (fun k => (q362_29_eq C lf (fun x0 x8 x9 x20 x21 x22 h => k (x0, x8, x9, x20, x21, x22) h) n KR KE)))) (q362_34_eq C lf (fun x0 x8 x9 x20 x21 x22 h => lp (l362_6 C lf n) lf (x0, x8, x9, x20, x21, x22) h) KR KE)
noncomputable def q362_36 (C : YC) (lf : Nat) (r : K3) (x0 x1 x8 x9 : O) (h : HW) : Rs :=
 q362_35 C lf (fun x8 x9 h => q362_5 C lf r x8 x9 h) x0 x1 x8 x9 h
theorem q362_36_eq (C : YC) (lf : Nat) (r : K3) (KN : KF) (KE : KX) : ∀ F h, evX fx362 C lf [1, 1, 1, 1, 1] F h KN (fun F h => r (F 4) (F 5) (F 6) h) KE = q362_36 C lf r (F 0) (F 1) (F 8) (F 9) h := cSeq (a := subX fx362 [1, 1, 1, 1, 1, 0]) (b := subX fx362 [1, 1, 1, 1, 1, 1]) (by kernel_rfl) (B := (fun F h => q362_5 C lf r (F 8) (F 9) h)) (q362_5_eq C lf r KN KE) (q362_35_eq C lf (fun x8 x9 h => q362_5 C lf r x8 x9 h) (fun F h => r (F 4) (F 5) (F 6) h) KE)
noncomputable def q362_37 (C : YC) (lf : Nat) (n : K4) (x0 x1 x8 : O) (h : HW) : Rs :=
 n x0 x1 x8 (some (.val (.slice none 0 0))) h
theorem q362_37_eq (C : YC) (lf : Nat) (n : K4) (KR : KF) (KE : KX) : ∀ F h, evX fx362 C lf [1, 1, 1, 1, 0] F h (fun F h => n (F 0) (F 1) (F 8) (F 9) h) KR KE = q362_37 C lf n (F 0) (F 1) (F 8) h := by
  intro F h; kernel_rfl
noncomputable def q362_38 (C : YC) (lf : Nat) (r : K3) (x0 x1 x8 : O) (h : HW) : Rs :=
 q362_37 C lf (fun x0 x1 x8 x9 h => q362_36 C lf r x0 x1 x8 x9 h) x0 x1 x8 h
theorem q362_38_eq (C : YC) (lf : Nat) (r : K3) (KN : KF) (KE : KX) : ∀ F h, evX fx362 C lf [1, 1, 1, 1] F h KN (fun F h => r (F 4) (F 5) (F 6) h) KE = q362_38 C lf r (F 0) (F 1) (F 8) h := cSeq (a := subX fx362 [1, 1, 1, 1, 0]) (b := subX fx362 [1, 1, 1, 1, 1]) (by kernel_rfl) (B := (fun F h => q362_36 C lf r (F 0) (F 1) (F 8) (F 9) h)) (q362_36_eq C lf r KN KE) (q362_37_eq C lf (fun x0 x1 x8 x9 h => q362_36 C lf r x0 x1 x8 x9 h) (fun F h => r (F 4) (F 5) (F 6) h) KE)
noncomputable def q362_39 (C : YC) (lf : Nat) (n : K3) (x0 x1 : O) (h : HW) : Rs :=
 n x0 x1 (some (.val (.slice none 0 0))) h
theorem q362_39_eq (C : YC) (lf : Nat) (n : K3) (KR : KF) (KE : KX) : ∀ F h, evX fx362 C lf [1, 1, 1, 0] F h (fun F h => n (F 0) (F 1) (F 8) h) KR KE = q362_39 C lf n (F 0) (F 1) h := by
  intro F h; kernel_rfl
noncomputable def q362_40 (C : YC) (lf : Nat) (r : K3) (x0 x1 : O) (h : HW) : Rs :=
 q362_39 C lf (fun x0 x1 x8 h => q362_38 C lf r x0 x1 x8 h) x0 x1 h
theorem q362_40_eq (C : YC) (lf : Nat) (r : K3) (KN : KF) (KE : KX) : ∀ F h, evX fx362 C lf [1, 1, 1] F h KN (fun F h => r (F 4) (F 5) (F 6) h) KE = q362_40 C lf r (F 0) (F 1) h := cSeq (a := subX fx362 [1, 1, 1, 0]) (b := subX fx362 [1, 1, 1, 1]) (by kernel_rfl) (B := (fun F h => q362_38 C lf r (F 0) (F 1) (F 8) h)) (q362_38_eq C lf r KN KE) (q362_39_eq C lf (fun x0 x1 x8 h => q362_38 C lf r x0 x1 x8 h) (fun F h => r (F 4) (F 5) (F 6) h) KE)
noncomputable def q362_44 (C : YC) (lf : Nat) (n : K2) (r : K3) (x0 x1 x7 : O) (h : HW) : Rs :=
 ob x7 fun a41 =>
 ob (bin Tryz.prog .neq 3 a41 (.int .i64 0)) fun y42 =>
 yIf y42
 (ob x7 fun a43 =>
 r (some (.val (.slice none 0 0))) (some (.val (.slice none 0 0))) (some a43) h)
 (n x0 x1 h)
theorem q362_44_eq (C : YC) (lf : Nat) (n : K2) (r : K3) (KE : KX) : ∀ F h, evX fx362 C lf [1, 1, 0] F h (fun F h => n (F 0) (F 1) h) (fun F h => r (F 4) (F 5) (F 6) h) KE = q362_44 C lf n r (F 0) (F 1) (F 7) h := by
  intro F h; kernel_rfl
noncomputable def q362_45 (C : YC) (lf : Nat) (r : K3) (x0 x1 x7 : O) (h : HW) : Rs :=
 q362_44 C lf (fun x0 x1 h => q362_40 C lf r x0 x1 h) r x0 x1 x7 h
theorem q362_45_eq (C : YC) (lf : Nat) (r : K3) (KN : KF) (KE : KX) : ∀ F h, evX fx362 C lf [1, 1] F h KN (fun F h => r (F 4) (F 5) (F 6) h) KE = q362_45 C lf r (F 0) (F 1) (F 7) h := cSeq (a := subX fx362 [1, 1, 0]) (b := subX fx362 [1, 1, 1]) (by kernel_rfl) (B := (fun F h => q362_40 C lf r (F 0) (F 1) h)) (q362_40_eq C lf r KN KE) (q362_44_eq C lf (fun x0 x1 h => q362_40 C lf r x0 x1 h) r KE)
noncomputable def q362_49 (C : YC) (lf : Nat) (n : K3) (x0 x1 : O) (h : HW) : Rs :=
 ob x0 fun a46 =>
 ob x1 fun a47 =>
 bc (C (.fn 291) [a46, a47] h) fun y48 h48 =>
 n x0 x1 (some y48) h48
theorem q362_49_eq (C : YC) (lf : Nat) (n : K3) (KR : KF) (KE : KX) : ∀ F h, evX fx362 C lf [1, 0] F h (fun F h => n (F 0) (F 1) (F 7) h) KR KE = q362_49 C lf n (F 0) (F 1) h := by
  intro F h; kernel_rfl
noncomputable def q362_50 (C : YC) (lf : Nat) (r : K3) (x0 x1 : O) (h : HW) : Rs :=
 q362_49 C lf (fun x0 x1 x7 h => q362_45 C lf r x0 x1 x7 h) x0 x1 h
theorem q362_50_eq (C : YC) (lf : Nat) (r : K3) (KN : KF) (KE : KX) : ∀ F h, evX fx362 C lf [1] F h KN (fun F h => r (F 4) (F 5) (F 6) h) KE = q362_50 C lf r (F 0) (F 1) h := cSeq (a := subX fx362 [1, 0]) (b := subX fx362 [1, 1]) (by kernel_rfl) (B := (fun F h => q362_45 C lf r (F 0) (F 1) (F 7) h)) (q362_45_eq C lf r KN KE) (q362_49_eq C lf (fun x0 x1 x7 h => q362_45 C lf r x0 x1 x7 h) (fun F h => r (F 4) (F 5) (F 6) h) KE)
noncomputable def q362_51 (C : YC) (lf : Nat) (n : K2) (x0 x1 : O) (h : HW) : Rs :=
 n x0 x1 h
theorem q362_51_eq (C : YC) (lf : Nat) (n : K2) (KR : KF) (KE : KX) : ∀ F h, evX fx362 C lf [0] F h (fun F h => n (F 0) (F 1) h) KR KE = q362_51 C lf n (F 0) (F 1) h := by
  intro F h; kernel_rfl
noncomputable def q362_52 (C : YC) (lf : Nat) (r : K3) (x0 x1 : O) (h : HW) : Rs :=
 q362_51 C lf (fun x0 x1 h => q362_50 C lf r x0 x1 h) x0 x1 h
theorem q362_52_eq (C : YC) (lf : Nat) (r : K3) (KN : KF) (KE : KX) : ∀ F h, evX fx362 C lf [] F h KN (fun F h => r (F 4) (F 5) (F 6) h) KE = q362_52 C lf r (F 0) (F 1) h := cSeq (a := subX fx362 [0]) (b := subX fx362 [1]) (by kernel_rfl) (B := (fun F h => q362_50 C lf r (F 0) (F 1) h)) (q362_50_eq C lf r KN KE) (q362_51_eq C lf (fun x0 x1 h => q362_50 C lf r x0 x1 h) (fun F h => r (F 4) (F 5) (F 6) h) KE)
noncomputable def fs362 (C : YC) (lf : Nat) (a0 a1 : SV) (h : HW) : Rs := q362_52 C lf ff362 (some a0) (some a1) h
theorem fs362_eq (C : YC) (lf : Nat) (a0 a1 : SV) (h : HW) : yFn Tryz.prog fx362 C lf [a0, a1] h = fs362 C lf a0 a1 h := fnX (K := (fun F h => ff362 (F 4) (F 5) (F 6) h)) (by kernel_rfl) (((q362_52_eq C lf ff362 (fun F h => ff362 (F 4) (F 5) (F 6) h) (fun _ _ _ => none)) _ h).trans (by kernel_rfl))
noncomputable def fy362 : YX Tryz.prog := Y2 fx362 fs362 fs362_eq (by kernel_rfl)

noncomputable def fx363 : XF Tryz.prog := ⟨363, Tryz.f363, fun _ => .text, Tryz.func363, by kernel_rfl, by kernel_rfl, by kernel_rfl, by kernel_rfl⟩

noncomputable def fx364 : XF Tryz.prog := ⟨364, Tryz.f364, fun _ => .text, Tryz.func364, by kernel_rfl, by kernel_rfl, by kernel_rfl, by kernel_rfl⟩
noncomputable def ff364 (x2 : O) (h : HW) : Rs :=
 ob x2 fun a0 =>
 some (.ret a0, h)
noncomputable def q364_3 (C : YC) (lf : Nat) (r : K1) (x0 : O) (h : HW) : Rs :=
 ob x0 fun a1 =>
 ob (bin Tryz.prog .gtr 3 a1 (.int .i64 8)) fun y2 =>
 r (some y2) h
theorem q364_3_eq (C : YC) (lf : Nat) (r : K1) (KN : KF) (KE : KX) : ∀ F h, evX fx364 C lf [] F h KN (fun F h => r (F 2) h) KE = q364_3 C lf r (F 0) h := by
  intro F h; kernel_rfl
noncomputable def fs364 (C : YC) (lf : Nat) (a0 : SV) (h : HW) : Rs := q364_3 C lf ff364 (some a0) h
theorem fs364_eq (C : YC) (lf : Nat) (a0 : SV) (h : HW) : yFn Tryz.prog fx364 C lf [a0] h = fs364 C lf a0 h := fnX (K := (fun F h => ff364 (F 2) h)) (by kernel_rfl) (((q364_3_eq C lf ff364 (fun F h => ff364 (F 2) h) (fun _ _ _ => none)) _ h).trans (by kernel_rfl))
noncomputable def fy364 : YX Tryz.prog := Y1 fx364 fs364 fs364_eq (by kernel_rfl)

noncomputable def fx367 : XF Tryz.prog := ⟨367, Tryz.f367, fun _ => .text, Tryz.func367, by kernel_rfl, by kernel_rfl, by kernel_rfl, by kernel_rfl⟩
noncomputable def ff367 (x4 : O) (h : HW) : Rs :=
 ob x4 fun a0 =>
 ob (ldN 3 a0 h) fun y1 =>
 some (.ret y1, h)
noncomputable def q367_31 (C : YC) (lf : Nat) (r : K1) (x0 x1 : O) (h : HW) : Rs :=
 b2 (yAl Tryz.prog 81 h) fun y2 h2 =>
 ob x1 fun a3 =>
 bc (C (.fn 357) [a3] h2) fun y4 h4 =>
 ob x1 fun a5 =>
 bc (C (.fn 340) [a5] h4) fun y6 h6 =>
 ob (semBuild Tryz.prog 81 [0, 1] [y4, y6]) fun y7 =>
 b2 (yAl Tryz.prog 81 h6) fun y8 h8 =>
 ob (st 3 y8 y7 h8) fun h9 =>
 ob x0 fun a10 =>
 ob (fa 1 y8) fun y11 =>
 ob (ld1 y11 h9) fun y12 =>
 bc (C (.fn 292) [a10, y12] h9) fun y13 h13 =>
 yIf y13
 (ob x0 fun a14 =>
 ob (semNil a14) fun y15 =>
 ob (fa 4 y15) fun y16 =>
 ob (ld1 y16 h13) fun y17 =>
 ob (fa 1 y8) fun y18 =>
 ob (ld1 y18 h13) fun y19 =>
 ob (ixS 308 y17 y19) fun y20 =>
 ob (fa 1 y20) fun y21 =>
 ob (fa 6 y21) fun y22 =>
 ob (ld1 y22 h13) fun y23 =>
 ob (bin Tryz.prog .and 30 y23 (.int .i64 61440)) fun y24 =>
 ob (fa 2 y8) fun y25 =>
 ob (st 1 y25 y24 h13) fun h26 =>
 ob (ldN 3 y8 h26) fun y27 =>
 ob (st 3 y2 y27 h26) fun h28 =>
 r (some y2) h28)
 (ob (ldN 3 y8 h13) fun y29 =>
 ob (st 3 y2 y29 h13) fun h30 =>
 r (some y2) h30)
theorem q367_31_eq (C : YC) (lf : Nat) (r : K1) (KN : KF) (KE : KX) : ∀ F h, evX fx367 C lf [] F h KN (fun F h => r (F 4) h) KE = q367_31 C lf r (F 0) (F 1) h := by
  intro F h; kernel_rfl
noncomputable def fs367 (C : YC) (lf : Nat) (a0 a1 : SV) (h : HW) : Rs := q367_31 C lf ff367 (some a0) (some a1) h
theorem fs367_eq (C : YC) (lf : Nat) (a0 a1 : SV) (h : HW) : yFn Tryz.prog fx367 C lf [a0, a1] h = fs367 C lf a0 a1 h := fnX (K := (fun F h => ff367 (F 4) h)) (by kernel_rfl) (((q367_31_eq C lf ff367 (fun F h => ff367 (F 4) h) (fun _ _ _ => none)) _ h).trans (by kernel_rfl))
noncomputable def fy367 : YX Tryz.prog := Y2 fx367 fs367 fs367_eq (by kernel_rfl)

noncomputable def fx389 : XF Tryz.prog := ⟨389, Tryz.f389, fun _ => .text, Tryz.func389, by kernel_rfl, by kernel_rfl, by kernel_rfl, by kernel_rfl⟩
noncomputable def ff389 (h : HW) : Rs :=
 some (.ret (.tup []), h)
noncomputable def q389_9 (C : YC) (lf : Nat) (n : K0) (x0 : O) (h : HW) : Rs :=
 ob x0 fun a0 =>
 ob (semNil a0) fun y1 =>
 ob (fa 0 y1) fun y2 =>
 ob (ld1 y2 h) fun y3 =>
 ob x0 fun a4 =>
 ob (semNil a4) fun y5 =>
 ob (fa 1 y5) fun y6 =>
 ob (ld1 y6 h) fun y7 =>
 bcn (C (.fn 169) [y3, y7] h) fun y8 h8 =>
 n h8
theorem q389_9_eq (C : YC) (lf : Nat) (n : K0) (KR : KF) (KE : KX) : ∀ F h, evX fx389 C lf [] F h (fun F h => n h) KR KE = q389_9 C lf n (F 0) h := by
  intro F h; kernel_rfl
noncomputable def fs389 (C : YC) (lf : Nat) (a0 : SV) (h : HW) : Rs := q389_9 C lf ff389 (some a0) h
theorem fs389_eq (C : YC) (lf : Nat) (a0 : SV) (h : HW) : yFn Tryz.prog fx389 C lf [a0] h = fs389 C lf a0 h := fnX (K := (fun F h => ff389 h)) (by kernel_rfl) (((q389_9_eq C lf ff389 (fun F h => ff389 h) (fun _ _ _ => none)) _ h).trans (by kernel_rfl))
noncomputable def fy389 : YX Tryz.prog := Y1 fx389 fs389 fs389_eq (by kernel_rfl)

end Go.Proofs.YtoglpmfmnknlaaaGreatDoor.Eva
