/- Texts of functions of the program. -/
import Derived.Test.YtoglpmfmnknlaaaGreatDoorCards
import Derived.Test.YtoglpmfmnknlaaaGreatDoorXeYh
namespace Go.Proofs.YtoglpmfmnknlaaaGreatDoor.Eva
open Go.Xe
set_option maxRecDepth 100000
set_option linter.unusedVariables false
/-! FN 244 tinsel/tree.flagged$1 -/
noncomputable def fx244 : XF Tryz.prog := ⟨244, Tryz.f244, fun _ => .text, Tryz.func244, by kernel_rfl, by kernel_rfl, by kernel_rfl, by kernel_rfl⟩
noncomputable def ff244 (x3 : O) (h : HW) : Rs :=
 ob x3 fun a0 =>
 some (.ret a0, h)
noncomputable def q244_6 (C : YC) (lf : Nat) (r : K1) (x0 x1 : O) (h : HW) : Rs :=
 ob x1 fun a1 =>
 ob (ld1 a1 h) fun y2 =>
 ob x0 fun a3 =>
 ob (bin Tryz.prog .and 3 y2 a3) fun y4 =>
 ob (bin Tryz.prog .neq 3 y4 (.int .i64 0)) fun y5 =>
 r (some y5) h
theorem q244_6_eq (C : YC) (lf : Nat) (r : K1) (KN : KF) (KE : KX) : ∀ F h, evX fx244 C lf [] F h KN (fun F h => r (F 3) h) KE = q244_6 C lf r (F 0) (F 1) h := by
  intro F h; kernel_rfl
noncomputable def fs244 (C : YC) (lf : Nat) (a0 a1 : SV) (h : HW) : Rs := q244_6 C lf ff244 (some a0) (some a1) h
theorem fs244_eq (C : YC) (lf : Nat) (a0 a1 : SV) (h : HW) : yFn Tryz.prog fx244 C lf [a0, a1] h = fs244 C lf a0 a1 h := fnX (K := (fun F h => ff244 (F 3) h)) (by kernel_rfl) (((q244_6_eq C lf ff244 (fun F h => ff244 (F 3) h) (fun _ _ _ => none)) _ h).trans (by kernel_rfl))
noncomputable def fy244 : YX Tryz.prog := Y2 fx244 fs244 fs244_eq (by kernel_rfl)

/-! FN 245 (*tinsel/tree.FS).create$1 -/
noncomputable def fx245 : XF Tryz.prog := ⟨245, Tryz.f245, fun _ => .text, Tryz.func245, by kernel_rfl, by kernel_rfl, by kernel_rfl, by kernel_rfl⟩
noncomputable def ff245 (x2 : O) (h : HW) : Rs :=
 ob x2 fun a0 =>
 some (.ret a0, h)
noncomputable def q245_1 (C : YC) (lf : Nat) (r : K1) (h : HW) : Rs :=
 r (some (.int .i64 0)) h
theorem q245_1_eq (C : YC) (lf : Nat) (r : K1) (KN : KF) (KE : KX) : ∀ F h, evX fx245 C lf [] F h KN (fun F h => r (F 2) h) KE = q245_1 C lf r h := by
  intro F h; kernel_rfl
noncomputable def fs245 (C : YC) (lf : Nat) (a0 : SV) (h : HW) : Rs := q245_1 C lf ff245 h
theorem fs245_eq (C : YC) (lf : Nat) (a0 : SV) (h : HW) : yFn Tryz.prog fx245 C lf [a0] h = fs245 C lf a0 h := fnX (K := (fun F h => ff245 (F 2) h)) (by kernel_rfl) (((q245_1_eq C lf ff245 (fun F h => ff245 (F 2) h) (fun _ _ _ => none)) _ h).trans (by kernel_rfl))
noncomputable def fy245 : YX Tryz.prog := Y1 fx245 fs245 fs245_eq (by kernel_rfl)

/-! FN 247 tinsel/dir.begin -/
noncomputable def fx247 : XF Tryz.prog := ⟨247, Tryz.f247, fun _ => .text, Tryz.func247, by kernel_rfl, by kernel_rfl, by kernel_rfl, by kernel_rfl⟩
noncomputable def ff247 (x6 : O) (h : HW) : Rs :=
 ob x6 fun a0 =>
 some (.ret a0, h)
noncomputable def q247_7 (C : YC) (lf : Nat) (r : K1) (x0 x1 x2 : O) (h : HW) : Rs :=
 ob x0 fun a1 =>
 ob x1 fun a2 =>
 bc (C (.fn 203) [a1, a2] h) fun y3 h3 =>
 ob (bin Tryz.prog .neq 23 y3 (.int .i64 0)) fun y4 =>
 yIf y4
 (r (some y3) h3)
 (ob x2 fun a5 =>
 bc (C (.fn 315) [a5] h3) fun y6 h6 =>
 r (some y6) h6)
theorem q247_7_eq (C : YC) (lf : Nat) (r : K1) (KN : KF) (KE : KX) : ∀ F h, evX fx247 C lf [] F h KN (fun F h => r (F 6) h) KE = q247_7 C lf r (F 0) (F 1) (F 2) h := by
  intro F h; kernel_rfl
noncomputable def fs247 (C : YC) (lf : Nat) (a0 a1 a2 : SV) (h : HW) : Rs := q247_7 C lf ff247 (some a0) (some a1) (some a2) h
theorem fs247_eq (C : YC) (lf : Nat) (a0 a1 a2 : SV) (h : HW) : yFn Tryz.prog fx247 C lf [a0, a1, a2] h = fs247 C lf a0 a1 a2 h := fnX (K := (fun F h => ff247 (F 6) h)) (by kernel_rfl) (((q247_7_eq C lf ff247 (fun F h => ff247 (F 6) h) (fun _ _ _ => none)) _ h).trans (by kernel_rfl))
noncomputable def fy247 : YX Tryz.prog := Y3 fx247 fs247 fs247_eq (by kernel_rfl)

/-! FN 248 tinsel/dir.slots -/
noncomputable def fx248 : XF Tryz.prog := ⟨248, Tryz.f248, fun _ => .text, Tryz.func248, by kernel_rfl, by kernel_rfl, by kernel_rfl, by kernel_rfl⟩
noncomputable def ff248 (x4 : O) (h : HW) : Rs :=
 ob x4 fun a0 =>
 some (.ret a0, h)
noncomputable def q248_2 (C : YC) (lf : Nat) (r : K1) (x7 : O) (h : HW) : Rs :=
 ob x7 fun a1 =>
 r (some a1) h
theorem q248_2_eq (C : YC) (lf : Nat) (r : K1) (KN : KF) (KE : KX) : ∀ F h, evX fx248 C lf [1, 1, 1, 1] F h KN (fun F h => r (F 4) h) KE = q248_2 C lf r (F 7) h := by
  intro F h; kernel_rfl
noncomputable def q248_16 (C : YC) (lf : Nat) (n : K2) (e0 : K1) (x5 x7 : O) (h : HW) : Rs :=
 ob x5 fun a4 =>
 ob (lenE Tryz.prog 31 a4) fun y5 =>
 ob (bin Tryz.prog .geq 3 y5 (.int .i64 32)) fun y6 =>
 yIf y6
 (ob x7 fun a7 =>
 ob x5 fun a8 =>
 ob (semSlice Tryz.prog 31 a8 none (some (.int .i64 32))) fun y9 =>
 ob (ysa Tryz.prog 292 y9) fun y10 =>
 ob (ldN 32 y10 h) fun y11 =>
 b2 (ybs Tryz.prog 335 1 [0] [y11] h) fun y12 h12 =>
 b2 (ybl Tryz.prog .append #[335, 335] [a7, y12] h12) fun y13 h13 =>
 ob x5 fun a14 =>
 ob (semSlice Tryz.prog 31 a14 (some (.int .i64 32)) none) fun y15 =>
 n (some y15) (some y13) h13)
 (e0 x7 h)
theorem q248_16_eq (C : YC) (lf : Nat) (n : K2) (e0 : K1) (KR : KF) (KE : KX) : ∀ F h, evX fx248 C lf [1, 1, 1, 0, 0, 0] F h (fun F h => n (F 5) (F 7) h) KR (bk 0 (fun F h => e0 (F 7) h) KE) = q248_16 C lf n e0 (F 5) (F 7) h := by
  intro F h; kernel_rfl
noncomputable def l248_3 (C : YC) (lf : Nat) (e0 : K1) (k : O × O → HW → Rs) (s : O × O) (h : HW) : Rs :=
 q248_16 C lf (fun x5 x7 h => k (x5, x7) h) e0 s.1 s.2 h
noncomputable def q248_17 (C : YC) (lf : Nat) (r : K1) (x5 x7 : O) (h : HW) : Rs :=
 lp (l248_3 C lf (fun x7 h => q248_2 C lf r x7 h)) lf (x5, x7) h
theorem q248_17_eq (C : YC) (lf : Nat) (r : K1) (KN : KF) (KE : KX) : ∀ F h, evX fx248 C lf [1, 1, 1] F h KN (fun F h => r (F 4) h) KE = q248_17 C lf r (F 5) (F 7) h := cSeq (a := subX fx248 [1, 1, 1, 0]) (b := subX fx248 [1, 1, 1, 1]) (by kernel_rfl) (B := (fun F h => q248_2 C lf r (F 7) h)) (q248_2_eq C lf r KN KE) (cBlock (id := 0) (a := subX fx248 [1, 1, 1, 0, 0]) (by kernel_rfl) (cLoop (a := subX fx248 [1, 1, 1, 0, 0, 0]) (g := fun F => (F 5, F 7)) (body := l248_3 C lf (fun x7 h => q248_2 C lf r x7 h)) (by kernel_rfl) (fun k => (q248_16_eq C lf (fun x5 x7 h => k (x5, x7) h) (fun x7 h => q248_2 C lf r x7 h) (fun F h => r (F 4) h) KE))))
noncomputable def q248_18 (C : YC) (lf : Nat) (n : K2) (x5 : O) (h : HW) : Rs :=
 n x5 (some (.val (.slice none 0 0))) h
theorem q248_18_eq (C : YC) (lf : Nat) (n : K2) (KR : KF) (KE : KX) : ∀ F h, evX fx248 C lf [1, 1, 0] F h (fun F h => n (F 5) (F 7) h) KR KE = q248_18 C lf n (F 5) h := by
  intro F h; kernel_rfl
noncomputable def q248_19 (C : YC) (lf : Nat) (r : K1) (x5 : O) (h : HW) : Rs :=
 q248_18 C lf (fun x5 x7 h => q248_17 C lf r x5 x7 h) x5 h
theorem q248_19_eq (C : YC) (lf : Nat) (r : K1) (KN : KF) (KE : KX) : ∀ F h, evX fx248 C lf [1, 1] F h KN (fun F h => r (F 4) h) KE = q248_19 C lf r (F 5) h := cSeq (a := subX fx248 [1, 1, 0]) (b := subX fx248 [1, 1, 1]) (by kernel_rfl) (B := (fun F h => q248_17 C lf r (F 5) (F 7) h)) (q248_17_eq C lf r KN KE) (q248_18_eq C lf (fun x5 x7 h => q248_17 C lf r x5 x7 h) (fun F h => r (F 4) h) KE)
noncomputable def q248_25 (C : YC) (lf : Nat) (n : K1) (x0 x1 : O) (h : HW) : Rs :=
 ob x0 fun a20 =>
 ob x1 fun a21 =>
 bc (C (.fn 278) [a20, a21, (.int .i64 0), (.int .i64 17792)] h) fun y22 h22 =>
 ob (ext 0 y22) fun y23 =>
 ob (ext 1 y22) fun y24 =>
 n (some y23) h22
theorem q248_25_eq (C : YC) (lf : Nat) (n : K1) (KR : KF) (KE : KX) : ∀ F h, evX fx248 C lf [1, 0] F h (fun F h => n (F 5) h) KR KE = q248_25 C lf n (F 0) (F 1) h := by
  intro F h; kernel_rfl
noncomputable def q248_26 (C : YC) (lf : Nat) (r : K1) (x0 x1 : O) (h : HW) : Rs :=
 q248_25 C lf (fun x5 h => q248_19 C lf r x5 h) x0 x1 h
theorem q248_26_eq (C : YC) (lf : Nat) (r : K1) (KN : KF) (KE : KX) : ∀ F h, evX fx248 C lf [1] F h KN (fun F h => r (F 4) h) KE = q248_26 C lf r (F 0) (F 1) h := cSeq (a := subX fx248 [1, 0]) (b := subX fx248 [1, 1]) (by kernel_rfl) (B := (fun F h => q248_19 C lf r (F 5) h)) (q248_19_eq C lf r KN KE) (q248_25_eq C lf (fun x5 h => q248_19 C lf r x5 h) (fun F h => r (F 4) h) KE)
noncomputable def q248_27 (C : YC) (lf : Nat) (n : K2) (x0 x1 : O) (h : HW) : Rs :=
 n x0 x1 h
theorem q248_27_eq (C : YC) (lf : Nat) (n : K2) (KR : KF) (KE : KX) : ∀ F h, evX fx248 C lf [0] F h (fun F h => n (F 0) (F 1) h) KR KE = q248_27 C lf n (F 0) (F 1) h := by
  intro F h; kernel_rfl
noncomputable def q248_28 (C : YC) (lf : Nat) (r : K1) (x0 x1 : O) (h : HW) : Rs :=
 q248_27 C lf (fun x0 x1 h => q248_26 C lf r x0 x1 h) x0 x1 h
theorem q248_28_eq (C : YC) (lf : Nat) (r : K1) (KN : KF) (KE : KX) : ∀ F h, evX fx248 C lf [] F h KN (fun F h => r (F 4) h) KE = q248_28 C lf r (F 0) (F 1) h := cSeq (a := subX fx248 [0]) (b := subX fx248 [1]) (by kernel_rfl) (B := (fun F h => q248_26 C lf r (F 0) (F 1) h)) (q248_26_eq C lf r KN KE) (q248_27_eq C lf (fun x0 x1 h => q248_26 C lf r x0 x1 h) (fun F h => r (F 4) h) KE)
noncomputable def fs248 (C : YC) (lf : Nat) (a0 a1 : SV) (h : HW) : Rs := q248_28 C lf ff248 (some a0) (some a1) h
theorem fs248_eq (C : YC) (lf : Nat) (a0 a1 : SV) (h : HW) : yFn Tryz.prog fx248 C lf [a0, a1] h = fs248 C lf a0 a1 h := fnX (K := (fun F h => ff248 (F 4) h)) (by kernel_rfl) (((q248_28_eq C lf ff248 (fun F h => ff248 (F 4) h) (fun _ _ _ => none)) _ h).trans (by kernel_rfl))
noncomputable def fy248 : YX Tryz.prog := Y2 fx248 fs248 fs248_eq (by kernel_rfl)

/-! FN 249 tinsel/dir.place -/
noncomputable def fx249 : XF Tryz.prog := ⟨249, Tryz.f249, fun r => bif Nat.beq r 5 then .ord [0, 1, 2, 3, 4, 6, 5, 7, 8, 9] [(5, [6])] else .text, Tryz.func249, by kernel_rfl, by kernel_rfl, by kernel_rfl, by kernel_rfl⟩
noncomputable def ff249 (x4 : O) (h : HW) : Rs :=
 ob x4 fun a0 =>
 some (.ret a0, h)
noncomputable def q249_1 (C : YC) (lf : Nat) (r : K1) (h : HW) : Rs :=
 r (some (.int .i64 (-1))) h
theorem q249_1_eq (C : YC) (lf : Nat) (r : K1) (KN : KF) (KE : KX) : ∀ F h, evX fx249 C lf [1, 1, 1] F h KN (fun F h => r (F 4) h) KE = q249_1 C lf r h := by
  intro F h; kernel_rfl
noncomputable def q249_30 (C : YC) (lf : Nat) (n : K4) (r : K1) (e0 : K0) (x5 x10 x11 x12 : O) (h : HW) : Rs :=
 ob x12 fun a3 =>
 ob x11 fun a4 =>
 ob (bin Tryz.prog .lss 3 a3 a4) fun y5 =>
 yIf y5
 (ob x12 fun a6 =>
 ob x10 fun a7 =>
 ob x12 fun a8 =>
 ob (ixS 32 a7 a8) fun y9 =>
 ob (ldN 32 y9 h) fun y10 =>
 b2 (yAl Tryz.prog 292 h) fun y11 h11 =>
 ob (st 32 y11 y10 h11) fun h12 =>
 ob (ldN 32 y11 h12) fun y13 =>
 bcn (C (.fn 250) [y13] h12) fun y14 h14 =>
 ob (bin Tryz.prog .neq 3 y14 (.int .i64 0)) fun y15 =>
 bcn (gd true (some y15) (ob (ldN 32 y11 h14) fun y16 =>
 some (.ret y16, h14)) h14) fun y17 h17 =>
 bcn (gd true (some y15) (ob x5 fun a18 =>
 ob (ldN 32 a18 h17) fun y19 =>
 some (.ret y19, h17)) h17) fun y20 h20 =>
 bcn (gd true (some y15) (bcn (C (.fn 316) [y17] h20) fun y21 h21 =>
 some (.ret y21, h21)) h20) fun y22 h22 =>
 ck (chkH [(6, gdA true (some y15) (adrO x5)), (4, gdA true (some y15) (adrO (some y11))), (0, adrO (some y11))] h20 h22 [6]) <|
 bcn (gd true (some y15) (bcn (C (.fn 316) [y20] h22) fun y23 h23 =>
 some (.ret y23, h23)) h22) fun y24 h24 =>
 bcn (gd true (some y15) (ob (bin Tryz.prog .eql 9 y22 y24) fun y25 =>
 some (.ret y25, h24)) h24) fun y26 h26 =>
 ob (ypk y15 y26 (.bool false)) fun y27 =>
 yIf y27
 (r (some a6) h26)
 (ob x12 fun a28 =>
 ob (bin Tryz.prog .add 3 a28 (.int .i64 1)) fun y29 =>
 n x5 x10 x11 (some y29) h26))
 (e0 h)
theorem q249_30_eq (C : YC) (lf : Nat) (n : K4) (r : K1) (e0 : K0) (KE : KX) : ∀ F h, evX fx249 C lf [1, 1, 0, 1, 0, 0] F h (fun F h => n (F 5) (F 10) (F 11) (F 12) h) (fun F h => r (F 4) h) (bk 0 (fun F h => e0 h) KE) = q249_30 C lf n r e0 (F 5) (F 10) (F 11) (F 12) h := by
  intro F h; kernel_rfl
noncomputable def l249_2 (C : YC) (lf : Nat) (r : K1) (e0 : K0) (k : O × O × O × O → HW → Rs) (s : O × O × O × O) (h : HW) : Rs :=
 q249_30 C lf (fun x5 x10 x11 x12 h => k (x5, x10, x11, x12) h) r e0 s.1 s.2.1 s.2.2.1 s.2.2.2 h
noncomputable def q249_33 (C : YC) (lf : Nat) (n : K4) (x0 x5 : O) (h : HW) : Rs :=
 ob x0 fun a31 =>
 ob (lenE Tryz.prog 335 a31) fun y32 =>
 n x5 (some a31) (some y32) (some (.int .i64 0)) h
theorem q249_33_eq (C : YC) (lf : Nat) (n : K4) (KR : KF) (KE : KX) : ∀ F h, evX fx249 C lf [1, 1, 0, 0] F h (fun F h => n (F 5) (F 10) (F 11) (F 12) h) KR KE = q249_33 C lf n (F 0) (F 5) h := by
  intro F h; kernel_rfl
noncomputable def q249_34 (C : YC) (lf : Nat) (n : K0) (r : K1) (x0 x5 : O) (h : HW) : Rs :=
 q249_33 C lf (fun x5 x10 x11 x12 h => lp (l249_2 C lf r n) lf (x5, x10, x11, x12) h) x0 x5 h
theorem q249_34_eq (C : YC) (lf : Nat) (n : K0) (r : K1) (KE : KX) : ∀ F h, evX fx249 C lf [1, 1, 0] F h (fun F h => n h) (fun F h => r (F 4) h) KE = q249_34 C lf n r (F 0) (F 5) h := cSeq (a := subX fx249 [1, 1, 0, 0]) (b := subX fx249 [1, 1, 0, 1]) (by kernel_rfl) (B := (fun F h => lp (l249_2 C lf r n) lf ((F 5), (F 10), (F 11), (F 12)) h)) (cBlock (id := 0) (a := subX fx249 [1, 1, 0, 1, 0]) (by kernel_rfl) (cLoop (a := subX fx249 [1, 1, 0, 1, 0, 0]) (g := fun F => (F 5, F 10, F 11, F 12)) (body := l249_2 C lf r n) (by kernel_rfl) (fun k => (q249_30_eq C lf (fun x5 x10 x11 x12 h => k (x5, x10, x11, x12) h) r n KE)))) (q249_33_eq C lf (fun x5 x10 x11 x12 h => lp (l249_2 C lf r n) lf (x5, x10, x11, x12) h) (fun F h => r (F 4) h) KE)
noncomputable def q249_35 (C : YC) (lf : Nat) (r : K1) (x0 x5 : O) (h : HW) : Rs :=
 q249_34 C lf (fun h => q249_1 C lf r h) r x0 x5 h
theorem q249_35_eq (C : YC) (lf : Nat) (r : K1) (KN : KF) (KE : KX) : ∀ F h, evX fx249 C lf [1, 1] F h KN (fun F h => r (F 4) h) KE = q249_35 C lf r (F 0) (F 5) h := cSeq (a := subX fx249 [1, 1, 0]) (b := subX fx249 [1, 1, 1]) (by kernel_rfl) (B := (fun F h => q249_1 C lf r h)) (q249_1_eq C lf r KN KE) (q249_34_eq C lf (fun h => q249_1 C lf r h) r KE)
noncomputable def q249_40 (C : YC) (lf : Nat) (n : K2) (x0 x1 : O) (h : HW) : Rs :=
 ob x1 fun a36 =>
 bc (C (.fn 205) [a36, (.int .i64 0)] h) fun y37 h37 =>
 b2 (yAl Tryz.prog 292 h37) fun y38 h38 =>
 ob (st 32 y38 y37 h38) fun h39 =>
 n x0 (some y38) h39
theorem q249_40_eq (C : YC) (lf : Nat) (n : K2) (KR : KF) (KE : KX) : ∀ F h, evX fx249 C lf [1, 0] F h (fun F h => n (F 0) (F 5) h) KR KE = q249_40 C lf n (F 0) (F 1) h := by
  intro F h; kernel_rfl
noncomputable def q249_41 (C : YC) (lf : Nat) (r : K1) (x0 x1 : O) (h : HW) : Rs :=
 q249_40 C lf (fun x0 x5 h => q249_35 C lf r x0 x5 h) x0 x1 h
theorem q249_41_eq (C : YC) (lf : Nat) (r : K1) (KN : KF) (KE : KX) : ∀ F h, evX fx249 C lf [1] F h KN (fun F h => r (F 4) h) KE = q249_41 C lf r (F 0) (F 1) h := cSeq (a := subX fx249 [1, 0]) (b := subX fx249 [1, 1]) (by kernel_rfl) (B := (fun F h => q249_35 C lf r (F 0) (F 5) h)) (q249_35_eq C lf r KN KE) (q249_40_eq C lf (fun x0 x5 h => q249_35 C lf r x0 x5 h) (fun F h => r (F 4) h) KE)
noncomputable def q249_42 (C : YC) (lf : Nat) (n : K2) (x0 x1 : O) (h : HW) : Rs :=
 n x0 x1 h
theorem q249_42_eq (C : YC) (lf : Nat) (n : K2) (KR : KF) (KE : KX) : ∀ F h, evX fx249 C lf [0] F h (fun F h => n (F 0) (F 1) h) KR KE = q249_42 C lf n (F 0) (F 1) h := by
  intro F h; kernel_rfl
noncomputable def q249_43 (C : YC) (lf : Nat) (r : K1) (x0 x1 : O) (h : HW) : Rs :=
 q249_42 C lf (fun x0 x1 h => q249_41 C lf r x0 x1 h) x0 x1 h
theorem q249_43_eq (C : YC) (lf : Nat) (r : K1) (KN : KF) (KE : KX) : ∀ F h, evX fx249 C lf [] F h KN (fun F h => r (F 4) h) KE = q249_43 C lf r (F 0) (F 1) h := cSeq (a := subX fx249 [0]) (b := subX fx249 [1]) (by kernel_rfl) (B := (fun F h => q249_41 C lf r (F 0) (F 1) h)) (q249_41_eq C lf r KN KE) (q249_42_eq C lf (fun x0 x1 h => q249_41 C lf r x0 x1 h) (fun F h => r (F 4) h) KE)
noncomputable def fs249 (C : YC) (lf : Nat) (a0 a1 : SV) (h : HW) : Rs := q249_43 C lf ff249 (some a0) (some a1) h
theorem fs249_eq (C : YC) (lf : Nat) (a0 a1 : SV) (h : HW) : yFn Tryz.prog fx249 C lf [a0, a1] h = fs249 C lf a0 a1 h := fnX (K := (fun F h => ff249 (F 4) h)) (by kernel_rfl) (((q249_43_eq C lf ff249 (fun F h => ff249 (F 4) h) (fun _ _ _ => none)) _ h).trans (by kernel_rfl))
noncomputable def fy249 : YX Tryz.prog := Y2 fx249 fs249 fs249_eq (by kernel_rfl)

/-! FN 250 (tinsel/dir.slot).ino -/
noncomputable def fx250 : XF Tryz.prog := ⟨250, Tryz.f250, fun _ => .text, Tryz.func250, by kernel_rfl, by kernel_rfl, by kernel_rfl, by kernel_rfl⟩
noncomputable def ff250 (x2 : O) (h : HW) : Rs :=
 ob x2 fun a0 =>
 some (.ret a0, h)
noncomputable def q250_2 (C : YC) (lf : Nat) (r : K1) (x3 : O) (h : HW) : Rs :=
 ob x3 fun a1 =>
 r (some a1) h
theorem q250_2_eq (C : YC) (lf : Nat) (r : K1) (KN : KF) (KE : KX) : ∀ F h, evX fx250 C lf [1, 1, 1] F h KN (fun F h => r (F 2) h) KE = q250_2 C lf r (F 3) h := by
  intro F h; kernel_rfl
noncomputable def q250_17 (C : YC) (lf : Nat) (n : K3) (e0 : K1) (x1 x3 x5 : O) (h : HW) : Rs :=
 ob x5 fun a4 =>
 ob (bin Tryz.prog .lss 3 a4 (.int .i64 4)) fun y5 =>
 yIf y5
 (ob x5 fun a6 =>
 ob x3 fun a7 =>
 ob x1 fun a8 =>
 ob (ixA 32 1 a8 a6) fun y9 =>
 ob (ld1 y9 h) fun y10 =>
 ob (cvI .i64 y10) fun y11 =>
 ob (bin Tryz.prog .mul 3 (.int .i64 8) a6) fun y12 =>
 ob (bin Tryz.prog .shl 3 y11 y12) fun y13 =>
 ob (bin Tryz.prog .or 3 a7 y13) fun y14 =>
 ob x5 fun a15 =>
 ob (bin Tryz.prog .add 3 a15 (.int .i64 1)) fun y16 =>
 n x1 (some y14) (some y16) h)
 (e0 x3 h)
theorem q250_17_eq (C : YC) (lf : Nat) (n : K3) (e0 : K1) (KR : KF) (KE : KX) : ∀ F h, evX fx250 C lf [1, 1, 0, 1, 0, 0] F h (fun F h => n (F 1) (F 3) (F 5) h) KR (bk 0 (fun F h => e0 (F 3) h) KE) = q250_17 C lf n e0 (F 1) (F 3) (F 5) h := by
  intro F h; kernel_rfl
noncomputable def l250_3 (C : YC) (lf : Nat) (e0 : K1) (k : O × O × O → HW → Rs) (s : O × O × O) (h : HW) : Rs :=
 q250_17 C lf (fun x1 x3 x5 h => k (x1, x3, x5) h) e0 s.1 s.2.1 s.2.2 h
noncomputable def q250_18 (C : YC) (lf : Nat) (n : K3) (x1 x3 : O) (h : HW) : Rs :=
 n x1 x3 (some (.int .i64 0)) h
theorem q250_18_eq (C : YC) (lf : Nat) (n : K3) (KR : KF) (KE : KX) : ∀ F h, evX fx250 C lf [1, 1, 0, 0] F h (fun F h => n (F 1) (F 3) (F 5) h) KR KE = q250_18 C lf n (F 1) (F 3) h := by
  intro F h; kernel_rfl
noncomputable def q250_19 (C : YC) (lf : Nat) (n : K1) (x1 x3 : O) (h : HW) : Rs :=
 q250_18 C lf (fun x1 x3 x5 h => lp (l250_3 C lf n) lf (x1, x3, x5) h) x1 x3 h
theorem q250_19_eq (C : YC) (lf : Nat) (n : K1) (KR : KF) (KE : KX) : ∀ F h, evX fx250 C lf [1, 1, 0] F h (fun F h => n (F 3) h) KR KE = q250_19 C lf n (F 1) (F 3) h := cSeq (a := subX fx250 [1, 1, 0, 0]) (b := subX fx250 [1, 1, 0, 1]) (by kernel_rfl) (B := (fun F h => lp (l250_3 C lf n) lf ((F 1), (F 3), (F 5)) h)) (cBlock (id := 0) (a := subX fx250 [1, 1, 0, 1, 0]) (by kernel_rfl) (cLoop (a := subX fx250 [1, 1, 0, 1, 0, 0]) (g := fun F => (F 1, F 3, F 5)) (body := l250_3 C lf n) (by kernel_rfl) (fun k => (q250_17_eq C lf (fun x1 x3 x5 h => k (x1, x3, x5) h) n KR KE)))) (q250_18_eq C lf (fun x1 x3 x5 h => lp (l250_3 C lf n) lf (x1, x3, x5) h) KR KE)
noncomputable def q250_20 (C : YC) (lf : Nat) (r : K1) (x1 x3 : O) (h : HW) : Rs :=
 q250_19 C lf (fun x3 h => q250_2 C lf r x3 h) x1 x3 h
theorem q250_20_eq (C : YC) (lf : Nat) (r : K1) (KN : KF) (KE : KX) : ∀ F h, evX fx250 C lf [1, 1] F h KN (fun F h => r (F 2) h) KE = q250_20 C lf r (F 1) (F 3) h := cSeq (a := subX fx250 [1, 1, 0]) (b := subX fx250 [1, 1, 1]) (by kernel_rfl) (B := (fun F h => q250_2 C lf r (F 3) h)) (q250_2_eq C lf r KN KE) (q250_19_eq C lf (fun x3 h => q250_2 C lf r x3 h) (fun F h => r (F 2) h) KE)
noncomputable def q250_21 (C : YC) (lf : Nat) (n : K2) (x1 : O) (h : HW) : Rs :=
 n x1 (some (.int .i64 0)) h
theorem q250_21_eq (C : YC) (lf : Nat) (n : K2) (KR : KF) (KE : KX) : ∀ F h, evX fx250 C lf [1, 0] F h (fun F h => n (F 1) (F 3) h) KR KE = q250_21 C lf n (F 1) h := by
  intro F h; kernel_rfl
noncomputable def q250_22 (C : YC) (lf : Nat) (r : K1) (x1 : O) (h : HW) : Rs :=
 q250_21 C lf (fun x1 x3 h => q250_20 C lf r x1 x3 h) x1 h
theorem q250_22_eq (C : YC) (lf : Nat) (r : K1) (KN : KF) (KE : KX) : ∀ F h, evX fx250 C lf [1] F h KN (fun F h => r (F 2) h) KE = q250_22 C lf r (F 1) h := cSeq (a := subX fx250 [1, 0]) (b := subX fx250 [1, 1]) (by kernel_rfl) (B := (fun F h => q250_20 C lf r (F 1) (F 3) h)) (q250_20_eq C lf r KN KE) (q250_21_eq C lf (fun x1 x3 h => q250_20 C lf r x1 x3 h) (fun F h => r (F 2) h) KE)
noncomputable def q250_25 (C : YC) (lf : Nat) (n : K1) (x0 : O) (h : HW) : Rs :=
 ob x0 fun a23 =>
 b2 (ybx 292 a23 h) fun y24 h24 =>
 n (some y24) h24
theorem q250_25_eq (C : YC) (lf : Nat) (n : K1) (KR : KF) (KE : KX) : ∀ F h, evX fx250 C lf [0] F h (fun F h => n (F 1) h) KR KE = q250_25 C lf n (F 0) h := by
  intro F h; kernel_rfl
noncomputable def q250_26 (C : YC) (lf : Nat) (r : K1) (x0 : O) (h : HW) : Rs :=
 q250_25 C lf (fun x1 h => q250_22 C lf r x1 h) x0 h
theorem q250_26_eq (C : YC) (lf : Nat) (r : K1) (KN : KF) (KE : KX) : ∀ F h, evX fx250 C lf [] F h KN (fun F h => r (F 2) h) KE = q250_26 C lf r (F 0) h := cSeq (a := subX fx250 [0]) (b := subX fx250 [1]) (by kernel_rfl) (B := (fun F h => q250_22 C lf r (F 1) h)) (q250_22_eq C lf r KN KE) (q250_25_eq C lf (fun x1 h => q250_22 C lf r x1 h) (fun F h => r (F 2) h) KE)
noncomputable def fs250 (C : YC) (lf : Nat) (a0 : SV) (h : HW) : Rs := q250_26 C lf ff250 (some a0) h
theorem fs250_eq (C : YC) (lf : Nat) (a0 : SV) (h : HW) : yFn Tryz.prog fx250 C lf [a0] h = fs250 C lf a0 h := fnX (K := (fun F h => ff250 (F 2) h)) (by kernel_rfl) (((q250_26_eq C lf ff250 (fun F h => ff250 (F 2) h) (fun _ _ _ => none)) _ h).trans (by kernel_rfl))
noncomputable def fy250 : YX Tryz.prog := Y1 fx250 fs250 fs250_eq (by kernel_rfl)

/-! FN 255 (*tinsel/inode.Table).each -/
noncomputable def fx255 : XF Tryz.prog := ⟨255, Tryz.f255, fun _ => .text, Tryz.func255, by kernel_rfl, by kernel_rfl, by kernel_rfl, by kernel_rfl⟩
noncomputable def ff255 (h : HW) : Rs :=
 some (.ret (.tup []), h)
noncomputable def q255_24 (C : YC) (lf : Nat) (n : K4) (r : K0) (e0 : K0) (x0 x1 x12 x13 : O) (h : HW) : Rs :=
 ob x13 fun a1 =>
 ob x12 fun a2 =>
 ob (bin Tryz.prog .lss 3 a1 a2) fun y3 =>
 yIf y3
 (ob x13 fun a4 =>
 ob x0 fun a5 =>
 ob (semNil a5) fun y6 =>
 ob (fa 1 y6) fun y7 =>
 ob (ld1 y7 h) fun y8 =>
 ob (ixS 308 y8 a4) fun y9 =>
 ob (fa 0 y9) fun y10 =>
 ob (ld1 y10 h) fun y11 =>
 bc (gd true (some y11) (ob x1 fun a12 =>
 some (.ret a12, h)) h) fun y13 h13 =>
 bc (gd true (some y11) (some (.ret a4, h13)) h13) fun y14 h14 =>
 bc (gd true (some y11) (ob (bin Tryz.prog .add 3 y14 (.int .i64 1)) fun y15 =>
 some (.ret y15, h14)) h14) fun y16 h16 =>
 bc (gd true (some y11) (cv false C y13 [y16] h16 fun y17 h17 =>
 some (.ret y17, h17)) h16) fun y18 h18 =>
 bc (gd true (some y11) (ob (unE .not y18) fun y19 =>
 some (.ret y19, h18)) h18) fun y20 h20 =>
 ob (ypk y11 y20 (.bool false)) fun y21 =>
 yIf y21
 (r h20)
 (ob x13 fun a22 =>
 ob (bin Tryz.prog .add 3 a22 (.int .i64 1)) fun y23 =>
 n x0 x1 x12 (some y23) h20))
 (e0 h)
theorem q255_24_eq (C : YC) (lf : Nat) (n : K4) (r : K0) (e0 : K0) (KE : KX) : ∀ F h, evX fx255 C lf [1, 1, 0, 0] F h (fun F h => n (F 0) (F 1) (F 12) (F 13) h) (fun F h => r h) (bk 0 (fun F h => e0 h) KE) = q255_24 C lf n r e0 (F 0) (F 1) (F 12) (F 13) h := by
  intro F h; kernel_rfl
noncomputable def l255_0 (C : YC) (lf : Nat) (r : K0) (e0 : K0) (k : O × O × O × O → HW → Rs) (s : O × O × O × O) (h : HW) : Rs :=
 q255_24 C lf (fun x0 x1 x12 x13 h => k (x0, x1, x12, x13) h) r e0 s.1 s.2.1 s.2.2.1 s.2.2.2 h
noncomputable def q255_30 (C : YC) (lf : Nat) (n : K4) (x0 x1 : O) (h : HW) : Rs :=
 ob x0 fun a25 =>
 ob (semNil a25) fun y26 =>
 ob (fa 1 y26) fun y27 =>
 ob (ld1 y27 h) fun y28 =>
 ob (lenE Tryz.prog 280 y28) fun y29 =>
 n x0 x1 (some y29) (some (.int .i64 0)) h
theorem q255_30_eq (C : YC) (lf : Nat) (n : K4) (KR : KF) (KE : KX) : ∀ F h, evX fx255 C lf [1, 0] F h (fun F h => n (F 0) (F 1) (F 12) (F 13) h) KR KE = q255_30 C lf n (F 0) (F 1) h := by
  intro F h; kernel_rfl
noncomputable def q255_31 (C : YC) (lf : Nat) (n : K0) (r : K0) (x0 x1 : O) (h : HW) : Rs :=
 q255_30 C lf (fun x0 x1 x12 x13 h => lp (l255_0 C lf r n) lf (x0, x1, x12, x13) h) x0 x1 h
theorem q255_31_eq (C : YC) (lf : Nat) (n : K0) (r : K0) (KE : KX) : ∀ F h, evX fx255 C lf [1] F h (fun F h => n h) (fun F h => r h) KE = q255_31 C lf n r (F 0) (F 1) h := cSeq (a := subX fx255 [1, 0]) (b := subX fx255 [1, 1]) (by kernel_rfl) (B := (fun F h => lp (l255_0 C lf r n) lf ((F 0), (F 1), (F 12), (F 13)) h)) (cBlock (id := 0) (a := subX fx255 [1, 1, 0]) (by kernel_rfl) (cLoop (a := subX fx255 [1, 1, 0, 0]) (g := fun F => (F 0, F 1, F 12, F 13)) (body := l255_0 C lf r n) (by kernel_rfl) (fun k => (q255_24_eq C lf (fun x0 x1 x12 x13 h => k (x0, x1, x12, x13) h) r n KE)))) (q255_30_eq C lf (fun x0 x1 x12 x13 h => lp (l255_0 C lf r n) lf (x0, x1, x12, x13) h) (fun F h => r h) KE)
noncomputable def q255_35 (C : YC) (lf : Nat) (n : K2) (r : K0) (x0 x1 : O) (h : HW) : Rs :=
 ob x0 fun a32 =>
 bc (C (.fn 202) [a32] h) fun y33 h33 =>
 ob (unE .not y33) fun y34 =>
 yIf y34
 (r h33)
 (n x0 x1 h33)
theorem q255_35_eq (C : YC) (lf : Nat) (n : K2) (r : K0) (KE : KX) : ∀ F h, evX fx255 C lf [0] F h (fun F h => n (F 0) (F 1) h) (fun F h => r h) KE = q255_35 C lf n r (F 0) (F 1) h := by
  intro F h; kernel_rfl
noncomputable def q255_36 (C : YC) (lf : Nat) (n : K0) (r : K0) (x0 x1 : O) (h : HW) : Rs :=
 q255_35 C lf (fun x0 x1 h => q255_31 C lf n r x0 x1 h) r x0 x1 h
theorem q255_36_eq (C : YC) (lf : Nat) (n : K0) (r : K0) (KE : KX) : ∀ F h, evX fx255 C lf [] F h (fun F h => n h) (fun F h => r h) KE = q255_36 C lf n r (F 0) (F 1) h := cSeq (a := subX fx255 [0]) (b := subX fx255 [1]) (by kernel_rfl) (B := (fun F h => q255_31 C lf n r (F 0) (F 1) h)) (q255_31_eq C lf n r KE) (q255_35_eq C lf (fun x0 x1 h => q255_31 C lf n r x0 x1 h) r KE)
noncomputable def fs255 (C : YC) (lf : Nat) (a0 a1 : SV) (h : HW) : Rs := q255_36 C lf ff255 ff255 (some a0) (some a1) h
theorem fs255_eq (C : YC) (lf : Nat) (a0 a1 : SV) (h : HW) : yFn Tryz.prog fx255 C lf [a0, a1] h = fs255 C lf a0 a1 h := fnX (K := (fun F h => ff255 h)) (by kernel_rfl) (((q255_36_eq C lf ff255 ff255 (fun _ _ _ => none)) _ h).trans (by kernel_rfl))
noncomputable def fy255 : YX Tryz.prog := Y2 fx255 fs255 fs255_eq (by kernel_rfl)

/-! FN 256 (*tinsel/inode.node).owned -/
noncomputable def fx256 : XF Tryz.prog := ⟨256, Tryz.f256, fun _ => .text, Tryz.func256, by kernel_rfl, by kernel_rfl, by kernel_rfl, by kernel_rfl⟩
noncomputable def ff256 (x2 : O) (h : HW) : Rs :=
 ob x2 fun a0 =>
 some (.ret a0, h)
noncomputable def q256_3 (C : YC) (lf : Nat) (r : K1) (x3 : O) (h : HW) : Rs :=
 ob x3 fun a1 =>
 ob (ld1 a1 h) fun y2 =>
 r (some y2) h
theorem q256_3_eq (C : YC) (lf : Nat) (r : K1) (KN : KF) (KE : KX) : ∀ F h, evX fx256 C lf [1, 1, 1, 1, 1, 1, 1, 1] F h KN (fun F h => r (F 2) h) KE = q256_3 C lf r (F 3) h := by
  intro F h; kernel_rfl
noncomputable def q256_23 (C : YC) (lf : Nat) (n : K4) (e0 : K1) (x3 x4 x39 x40 : O) (h : HW) : Rs :=
 ob x40 fun a5 =>
 ob (bin Tryz.prog .lss 3 a5 (.int .i64 16)) fun y6 =>
 yIf y6
 (ob x39 fun a7 =>
 ob x40 fun a8 =>
 ob (semIndex Tryz.prog 287 a7 a8) fun y9 =>
 b2 (yAl Tryz.prog 286 h) fun y10 h10 =>
 ob (st 17 y10 y9 h10) fun h11 =>
 ob x4 fun a12 =>
 ob (fa 0 y10) fun y13 =>
 ob (ld1 y13 h11) fun y14 =>
 b2 (ybs Tryz.prog 44 1 [0] [y14] h11) fun y15 h15 =>
 cv false C a12 [y15] h15 fun y16 h16 =>
 ob x4 fun a17 =>
 ob (fa 1 y10) fun y18 =>
 ob (semSlice Tryz.prog 284 y18 none none) fun y19 =>
 cv false C a17 [y19] h16 fun y20 h20 =>
 ob x40 fun a21 =>
 ob (bin Tryz.prog .add 3 a21 (.int .i64 1)) fun y22 =>
 n x3 x4 x39 (some y22) h20)
 (e0 x3 h)
theorem q256_23_eq (C : YC) (lf : Nat) (n : K4) (e0 : K1) (KR : KF) (KE : KX) : ∀ F h, evX fx256 C lf [1, 1, 1, 1, 1, 1, 1, 0, 1, 0, 0] F h (fun F h => n (F 3) (F 4) (F 39) (F 40) h) KR (bk 0 (fun F h => e0 (F 3) h) KE) = q256_23 C lf n e0 (F 3) (F 4) (F 39) (F 40) h := by
  intro F h; kernel_rfl
noncomputable def l256_4 (C : YC) (lf : Nat) (e0 : K1) (k : O × O × O × O → HW → Rs) (s : O × O × O × O) (h : HW) : Rs :=
 q256_23 C lf (fun x3 x4 x39 x40 h => k (x3, x4, x39, x40) h) e0 s.1 s.2.1 s.2.2.1 s.2.2.2 h
noncomputable def q256_28 (C : YC) (lf : Nat) (n : K4) (x0 x3 x4 : O) (h : HW) : Rs :=
 ob x0 fun a24 =>
 ob (semNil a24) fun y25 =>
 ob (fa 36 y25) fun y26 =>
 ob (ldN 272 y26 h) fun y27 =>
 n x3 x4 (some y27) (some (.int .i64 0)) h
theorem q256_28_eq (C : YC) (lf : Nat) (n : K4) (KR : KF) (KE : KX) : ∀ F h, evX fx256 C lf [1, 1, 1, 1, 1, 1, 1, 0, 0] F h (fun F h => n (F 3) (F 4) (F 39) (F 40) h) KR KE = q256_28 C lf n (F 0) (F 3) (F 4) h := by
  intro F h; kernel_rfl
noncomputable def q256_29 (C : YC) (lf : Nat) (n : K1) (x0 x3 x4 : O) (h : HW) : Rs :=
 q256_28 C lf (fun x3 x4 x39 x40 h => lp (l256_4 C lf n) lf (x3, x4, x39, x40) h) x0 x3 x4 h
theorem q256_29_eq (C : YC) (lf : Nat) (n : K1) (KR : KF) (KE : KX) : ∀ F h, evX fx256 C lf [1, 1, 1, 1, 1, 1, 1, 0] F h (fun F h => n (F 3) h) KR KE = q256_29 C lf n (F 0) (F 3) (F 4) h := cSeq (a := subX fx256 [1, 1, 1, 1, 1, 1, 1, 0, 0]) (b := subX fx256 [1, 1, 1, 1, 1, 1, 1, 0, 1]) (by kernel_rfl) (B := (fun F h => lp (l256_4 C lf n) lf ((F 3), (F 4), (F 39), (F 40)) h)) (cBlock (id := 0) (a := subX fx256 [1, 1, 1, 1, 1, 1, 1, 0, 1, 0]) (by kernel_rfl) (cLoop (a := subX fx256 [1, 1, 1, 1, 1, 1, 1, 0, 1, 0, 0]) (g := fun F => (F 3, F 4, F 39, F 40)) (body := l256_4 C lf n) (by kernel_rfl) (fun k => (q256_23_eq C lf (fun x3 x4 x39 x40 h => k (x3, x4, x39, x40) h) n KR KE)))) (q256_28_eq C lf (fun x3 x4 x39 x40 h => lp (l256_4 C lf n) lf (x3, x4, x39, x40) h) KR KE)
noncomputable def q256_30 (C : YC) (lf : Nat) (r : K1) (x0 x3 x4 : O) (h : HW) : Rs :=
 q256_29 C lf (fun x3 h => q256_3 C lf r x3 h) x0 x3 x4 h
theorem q256_30_eq (C : YC) (lf : Nat) (r : K1) (KN : KF) (KE : KX) : ∀ F h, evX fx256 C lf [1, 1, 1, 1, 1, 1, 1] F h KN (fun F h => r (F 2) h) KE = q256_30 C lf r (F 0) (F 3) (F 4) h := cSeq (a := subX fx256 [1, 1, 1, 1, 1, 1, 1, 0]) (b := subX fx256 [1, 1, 1, 1, 1, 1, 1, 1]) (by kernel_rfl) (B := (fun F h => q256_3 C lf r (F 3) h)) (q256_3_eq C lf r KN KE) (q256_29_eq C lf (fun x3 h => q256_3 C lf r x3 h) (fun F h => r (F 2) h) KE)
noncomputable def q256_38 (C : YC) (lf : Nat) (n : K3) (x0 x3 x4 : O) (h : HW) : Rs :=
 ob x4 fun a31 =>
 ob x0 fun a32 =>
 ob (semNil a32) fun y33 =>
 ob (fa 35 y33) fun y34 =>
 ob (ld1 y34 h) fun y35 =>
 b2 (ybs Tryz.prog 44 1 [0] [y35] h) fun y36 h36 =>
 cv false C a31 [y36] h36 fun y37 h37 =>
 n x0 x3 x4 h37
theorem q256_38_eq (C : YC) (lf : Nat) (n : K3) (KR : KF) (KE : KX) : ∀ F h, evX fx256 C lf [1, 1, 1, 1, 1, 1, 0] F h (fun F h => n (F 0) (F 3) (F 4) h) KR KE = q256_38 C lf n (F 0) (F 3) (F 4) h := by
  intro F h; kernel_rfl
noncomputable def q256_39 (C : YC) (lf : Nat) (r : K1) (x0 x3 x4 : O) (h : HW) : Rs :=
 q256_38 C lf (fun x0 x3 x4 h => q256_30 C lf r x0 x3 x4 h) x0 x3 x4 h
theorem q256_39_eq (C : YC) (lf : Nat) (r : K1) (KN : KF) (KE : KX) : ∀ F h, evX fx256 C lf [1, 1, 1, 1, 1, 1] F h KN (fun F h => r (F 2) h) KE = q256_39 C lf r (F 0) (F 3) (F 4) h := cSeq (a := subX fx256 [1, 1, 1, 1, 1, 1, 0]) (b := subX fx256 [1, 1, 1, 1, 1, 1, 1]) (by kernel_rfl) (B := (fun F h => q256_30 C lf r (F 0) (F 3) (F 4) h)) (q256_30_eq C lf r KN KE) (q256_38_eq C lf (fun x0 x3 x4 h => q256_30 C lf r x0 x3 x4 h) (fun F h => r (F 2) h) KE)
noncomputable def q256_47 (C : YC) (lf : Nat) (n : K3) (x0 x3 x4 : O) (h : HW) : Rs :=
 ob x4 fun a40 =>
 ob x0 fun a41 =>
 ob (semNil a41) fun y42 =>
 ob (fa 18 y42) fun y43 =>
 ob (fa 1 y43) fun y44 =>
 ob (semSlice Tryz.prog 284 y44 none none) fun y45 =>
 cv false C a40 [y45] h fun y46 h46 =>
 n x0 x3 x4 h46
theorem q256_47_eq (C : YC) (lf : Nat) (n : K3) (KR : KF) (KE : KX) : ∀ F h, evX fx256 C lf [1, 1, 1, 1, 1, 0] F h (fun F h => n (F 0) (F 3) (F 4) h) KR KE = q256_47 C lf n (F 0) (F 3) (F 4) h := by
  intro F h; kernel_rfl
noncomputable def q256_48 (C : YC) (lf : Nat) (r : K1) (x0 x3 x4 : O) (h : HW) : Rs :=
 q256_47 C lf (fun x0 x3 x4 h => q256_39 C lf r x0 x3 x4 h) x0 x3 x4 h
theorem q256_48_eq (C : YC) (lf : Nat) (r : K1) (KN : KF) (KE : KX) : ∀ F h, evX fx256 C lf [1, 1, 1, 1, 1] F h KN (fun F h => r (F 2) h) KE = q256_48 C lf r (F 0) (F 3) (F 4) h := cSeq (a := subX fx256 [1, 1, 1, 1, 1, 0]) (b := subX fx256 [1, 1, 1, 1, 1, 1]) (by kernel_rfl) (B := (fun F h => q256_39 C lf r (F 0) (F 3) (F 4) h)) (q256_39_eq C lf r KN KE) (q256_47_eq C lf (fun x0 x3 x4 h => q256_39 C lf r x0 x3 x4 h) (fun F h => r (F 2) h) KE)
noncomputable def q256_57 (C : YC) (lf : Nat) (n : K3) (x0 x3 x4 : O) (h : HW) : Rs :=
 ob x4 fun a49 =>
 ob x0 fun a50 =>
 ob (semNil a50) fun y51 =>
 ob (fa 18 y51) fun y52 =>
 ob (fa 0 y52) fun y53 =>
 ob (ld1 y53 h) fun y54 =>
 b2 (ybs Tryz.prog 44 1 [0] [y54] h) fun y55 h55 =>
 cv false C a49 [y55] h55 fun y56 h56 =>
 n x0 x3 x4 h56
theorem q256_57_eq (C : YC) (lf : Nat) (n : K3) (KR : KF) (KE : KX) : ∀ F h, evX fx256 C lf [1, 1, 1, 1, 0] F h (fun F h => n (F 0) (F 3) (F 4) h) KR KE = q256_57 C lf n (F 0) (F 3) (F 4) h := by
  intro F h; kernel_rfl
noncomputable def q256_58 (C : YC) (lf : Nat) (r : K1) (x0 x3 x4 : O) (h : HW) : Rs :=
 q256_57 C lf (fun x0 x3 x4 h => q256_48 C lf r x0 x3 x4 h) x0 x3 x4 h
theorem q256_58_eq (C : YC) (lf : Nat) (r : K1) (KN : KF) (KE : KX) : ∀ F h, evX fx256 C lf [1, 1, 1, 1] F h KN (fun F h => r (F 2) h) KE = q256_58 C lf r (F 0) (F 3) (F 4) h := cSeq (a := subX fx256 [1, 1, 1, 1, 0]) (b := subX fx256 [1, 1, 1, 1, 1]) (by kernel_rfl) (B := (fun F h => q256_48 C lf r (F 0) (F 3) (F 4) h)) (q256_48_eq C lf r KN KE) (q256_57_eq C lf (fun x0 x3 x4 h => q256_48 C lf r x0 x3 x4 h) (fun F h => r (F 2) h) KE)
noncomputable def q256_65 (C : YC) (lf : Nat) (n : K3) (x0 x3 x4 : O) (h : HW) : Rs :=
 ob x4 fun a59 =>
 ob x0 fun a60 =>
 ob (semNil a60) fun y61 =>
 ob (fa 12 y61) fun y62 =>
 ob (semSlice Tryz.prog 283 y62 none none) fun y63 =>
 cv false C a59 [y63] h fun y64 h64 =>
 n x0 x3 x4 h64
theorem q256_65_eq (C : YC) (lf : Nat) (n : K3) (KR : KF) (KE : KX) : ∀ F h, evX fx256 C lf [1, 1, 1, 0] F h (fun F h => n (F 0) (F 3) (F 4) h) KR KE = q256_65 C lf n (F 0) (F 3) (F 4) h := by
  intro F h; kernel_rfl
noncomputable def q256_66 (C : YC) (lf : Nat) (r : K1) (x0 x3 x4 : O) (h : HW) : Rs :=
 q256_65 C lf (fun x0 x3 x4 h => q256_58 C lf r x0 x3 x4 h) x0 x3 x4 h
theorem q256_66_eq (C : YC) (lf : Nat) (r : K1) (KN : KF) (KE : KX) : ∀ F h, evX fx256 C lf [1, 1, 1] F h KN (fun F h => r (F 2) h) KE = q256_66 C lf r (F 0) (F 3) (F 4) h := cSeq (a := subX fx256 [1, 1, 1, 0]) (b := subX fx256 [1, 1, 1, 1]) (by kernel_rfl) (B := (fun F h => q256_58 C lf r (F 0) (F 3) (F 4) h)) (q256_58_eq C lf r KN KE) (q256_65_eq C lf (fun x0 x3 x4 h => q256_58 C lf r x0 x3 x4 h) (fun F h => r (F 2) h) KE)
noncomputable def q256_68 (C : YC) (lf : Nat) (n : K3) (x0 x3 : O) (h : HW) : Rs :=
 ob x3 fun a67 =>
 n x0 x3 (some (.fn (.func 321) [] [a67])) h
theorem q256_68_eq (C : YC) (lf : Nat) (n : K3) (KR : KF) (KE : KX) : ∀ F h, evX fx256 C lf [1, 1, 0] F h (fun F h => n (F 0) (F 3) (F 4) h) KR KE = q256_68 C lf n (F 0) (F 3) h := by
  intro F h; kernel_rfl
noncomputable def q256_69 (C : YC) (lf : Nat) (r : K1) (x0 x3 : O) (h : HW) : Rs :=
 q256_68 C lf (fun x0 x3 x4 h => q256_66 C lf r x0 x3 x4 h) x0 x3 h
theorem q256_69_eq (C : YC) (lf : Nat) (r : K1) (KN : KF) (KE : KX) : ∀ F h, evX fx256 C lf [1, 1] F h KN (fun F h => r (F 2) h) KE = q256_69 C lf r (F 0) (F 3) h := cSeq (a := subX fx256 [1, 1, 0]) (b := subX fx256 [1, 1, 1]) (by kernel_rfl) (B := (fun F h => q256_66 C lf r (F 0) (F 3) (F 4) h)) (q256_66_eq C lf r KN KE) (q256_68_eq C lf (fun x0 x3 x4 h => q256_66 C lf r x0 x3 x4 h) (fun F h => r (F 2) h) KE)
noncomputable def q256_71 (C : YC) (lf : Nat) (n : K2) (x0 : O) (h : HW) : Rs :=
 b2 (yAl Tryz.prog 44 h) fun y70 h70 =>
 n x0 (some y70) h70
theorem q256_71_eq (C : YC) (lf : Nat) (n : K2) (KR : KF) (KE : KX) : ∀ F h, evX fx256 C lf [1, 0] F h (fun F h => n (F 0) (F 3) h) KR KE = q256_71 C lf n (F 0) h := by
  intro F h; kernel_rfl
noncomputable def q256_72 (C : YC) (lf : Nat) (r : K1) (x0 : O) (h : HW) : Rs :=
 q256_71 C lf (fun x0 x3 h => q256_69 C lf r x0 x3 h) x0 h
theorem q256_72_eq (C : YC) (lf : Nat) (r : K1) (KN : KF) (KE : KX) : ∀ F h, evX fx256 C lf [1] F h KN (fun F h => r (F 2) h) KE = q256_72 C lf r (F 0) h := cSeq (a := subX fx256 [1, 0]) (b := subX fx256 [1, 1]) (by kernel_rfl) (B := (fun F h => q256_69 C lf r (F 0) (F 3) h)) (q256_69_eq C lf r KN KE) (q256_71_eq C lf (fun x0 x3 h => q256_69 C lf r x0 x3 h) (fun F h => r (F 2) h) KE)
noncomputable def q256_73 (C : YC) (lf : Nat) (n : K1) (x0 : O) (h : HW) : Rs :=
 n x0 h
theorem q256_73_eq (C : YC) (lf : Nat) (n : K1) (KR : KF) (KE : KX) : ∀ F h, evX fx256 C lf [0] F h (fun F h => n (F 0) h) KR KE = q256_73 C lf n (F 0) h := by
  intro F h; kernel_rfl
noncomputable def q256_74 (C : YC) (lf : Nat) (r : K1) (x0 : O) (h : HW) : Rs :=
 q256_73 C lf (fun x0 h => q256_72 C lf r x0 h) x0 h
theorem q256_74_eq (C : YC) (lf : Nat) (r : K1) (KN : KF) (KE : KX) : ∀ F h, evX fx256 C lf [] F h KN (fun F h => r (F 2) h) KE = q256_74 C lf r (F 0) h := cSeq (a := subX fx256 [0]) (b := subX fx256 [1]) (by kernel_rfl) (B := (fun F h => q256_72 C lf r (F 0) h)) (q256_72_eq C lf r KN KE) (q256_73_eq C lf (fun x0 h => q256_72 C lf r x0 h) (fun F h => r (F 2) h) KE)
noncomputable def fs256 (C : YC) (lf : Nat) (a0 : SV) (h : HW) : Rs := q256_74 C lf ff256 (some a0) h
theorem fs256_eq (C : YC) (lf : Nat) (a0 : SV) (h : HW) : yFn Tryz.prog fx256 C lf [a0] h = fs256 C lf a0 h := fnX (K := (fun F h => ff256 (F 2) h)) (by kernel_rfl) (((q256_74_eq C lf ff256 (fun F h => ff256 (F 2) h) (fun _ _ _ => none)) _ h).trans (by kernel_rfl))
noncomputable def fy256 : YX Tryz.prog := Y1 fx256 fs256 fs256_eq (by kernel_rfl)

/-! FN 257 tinsel/tinselref06.bits -/
noncomputable def fx257 : XF Tryz.prog := ⟨257, Tryz.f257, fun _ => .text, Tryz.func257, by kernel_rfl, by kernel_rfl, by kernel_rfl, by kernel_rfl⟩
noncomputable def ff257 (x2 : O) (h : HW) : Rs :=
 ob x2 fun a0 =>
 some (.ret a0, h)
noncomputable def q257_50 (C : YC) (lf : Nat) (r : K1) (x0 : O) (h : HW) : Rs :=
 ob x0 fun a1 =>
 ob (bin Tryz.prog .lss 3 a1 (.int .i64 0)) fun y2 =>
 bc (gd false (some y2) (ob x0 fun a3 =>
 some (.ret a3, h)) h) fun y4 h4 =>
 bc (gd false (some y2) (ob (bin Tryz.prog .gtr 3 y4 (.int .i64 255)) fun y5 =>
 some (.ret y5, h4)) h4) fun y6 h6 =>
 ob (ypk y2 (.bool true) y6) fun y7 =>
 bc (gd false (some y7) (ob x0 fun a8 =>
 some (.ret a8, h6)) h6) fun y9 h9 =>
 bc (gd false (some y7) (ob (bin Tryz.prog .and 3 y9 (.int .i64 3)) fun y10 =>
 some (.ret y10, h9)) h9) fun y11 h11 =>
 bc (gd false (some y7) (ob (bin Tryz.prog .eql 3 y11 (.int .i64 0)) fun y12 =>
 some (.ret y12, h11)) h11) fun y13 h13 =>
 ob (ypk y7 (.bool true) y13) fun y14 =>
 yIf y14
 (r (some (.bool false)) h13)
 (ob x0 fun a15 =>
 ob (bin Tryz.prog .and 3 a15 (.int .i64 2)) fun y16 =>
 ob (bin Tryz.prog .neq 3 y16 (.int .i64 0)) fun y17 =>
 ob x0 fun a18 =>
 ob (bin Tryz.prog .and 3 a18 (.int .i64 4)) fun y19 =>
 ob (bin Tryz.prog .neq 3 y19 (.int .i64 0)) fun y20 =>
 ob x0 fun a21 =>
 ob (bin Tryz.prog .and 3 a21 (.int .i64 32)) fun y22 =>
 ob (bin Tryz.prog .neq 3 y22 (.int .i64 0)) fun y23 =>
 bc (gd false (some y17) (some (.ret y20, h13)) h13) fun y24 h24 =>
 bc (gd false (some y17) (ob (unE .not y24) fun y25 =>
 some (.ret y25, h24)) h24) fun y26 h26 =>
 bc (gd false (some y17) (some (.ret y26, h26)) h26) fun y27 h27 =>
 bc (gd true (some y27) (some (.ret y23, h27)) h27) fun y28 h28 =>
 bc (gd true (some y27) (ob (unE .not y28) fun y29 =>
 some (.ret y29, h28)) h28) fun y30 h30 =>
 bc (gd false (some y17) (ob (ypk y27 y30 (.bool false)) fun y31 =>
 some (.ret y31, h30)) h30) fun y32 h32 =>
 ob (ypk y17 (.bool true) y32) fun y33 =>
 bc (gd true (some y33) (ob x0 fun a34 =>
 some (.ret a34, h32)) h32) fun y35 h35 =>
 bc (gd true (some y33) (ob (bin Tryz.prog .and 3 y35 (.int .i64 64)) fun y36 =>
 some (.ret y36, h35)) h35) fun y37 h37 =>
 bc (gd true (some y33) (ob (bin Tryz.prog .eql 3 y37 (.int .i64 0)) fun y38 =>
 some (.ret y38, h37)) h37) fun y39 h39 =>
 bc (gd true (some y33) (some (.ret y39, h39)) h39) fun y40 h40 =>
 bc (gd false (some y40) (ob x0 fun a41 =>
 some (.ret a41, h40)) h40) fun y42 h42 =>
 bc (gd false (some y40) (ob (bin Tryz.prog .and 3 y42 (.int .i64 8)) fun y43 =>
 some (.ret y43, h42)) h42) fun y44 h44 =>
 bc (gd false (some y40) (ob (bin Tryz.prog .eql 3 y44 (.int .i64 0)) fun y45 =>
 some (.ret y45, h44)) h44) fun y46 h46 =>
 bc (gd true (some y33) (ob (ypk y40 (.bool true) y46) fun y47 =>
 some (.ret y47, h46)) h46) fun y48 h48 =>
 ob (ypk y33 y48 (.bool false)) fun y49 =>
 r (some y49) h48)
theorem q257_50_eq (C : YC) (lf : Nat) (r : K1) (KN : KF) (KE : KX) : ∀ F h, evX fx257 C lf [] F h KN (fun F h => r (F 2) h) KE = q257_50 C lf r (F 0) h := by
  intro F h; kernel_rfl
noncomputable def fs257 (C : YC) (lf : Nat) (a0 : SV) (h : HW) : Rs := q257_50 C lf ff257 (some a0) h
theorem fs257_eq (C : YC) (lf : Nat) (a0 : SV) (h : HW) : yFn Tryz.prog fx257 C lf [a0] h = fs257 C lf a0 h := fnX (K := (fun F h => ff257 (F 2) h)) (by kernel_rfl) (((q257_50_eq C lf ff257 (fun F h => ff257 (F 2) h) (fun _ _ _ => none)) _ h).trans (by kernel_rfl))
noncomputable def fy257 : YX Tryz.prog := Y1 fx257 fs257 fs257_eq (by kernel_rfl)

/-! FN 258 (*tinsel/tinselref06.FS).Follow -/
noncomputable def fx258 : XF Tryz.prog := ⟨258, Tryz.f258, fun _ => .text, Tryz.func258, by kernel_rfl, by kernel_rfl, by kernel_rfl, by kernel_rfl⟩
noncomputable def ff258 (x10 x11 : O) (h : HW) : Rs :=
 ob x10 fun a0 =>
 ob (ldN 5 a0 h) fun y1 =>
 ob x11 fun a2 =>
 some (.ret (.tup [y1, a2]), h)
noncomputable def q258_13 (C : YC) (lf : Nat) (n : K9) (r : K2) (x0 x3 x4 x6 x10 x14 x15 x16 x17 x18 x19 x21 : O) (h : HW) : Rs :=
 ob x21 fun a4 =>
 yIf a4
 (ob x14 fun a5 =>
 ob x19 fun a6 =>
 ob x18 fun a7 =>
 ob x16 fun a8 =>
 ob (semBuild Tryz.prog 351 [0, 1, 2, 3] [a5, a6, a7, a8]) fun y9 =>
 ob x10 fun a10 =>
 ob (st 5 a10 y9 h) fun h11 =>
 r x10 (some (.int .i64 0)) h11)
 (ob x19 fun a12 =>
 n x0 x3 x4 x6 x10 (some a12) x15 x16 x17 h)
theorem q258_13_eq (C : YC) (lf : Nat) (n : K9) (r : K2) (K1 : KF) (K0 : KF) (KE : KX) : ∀ F h, evX fx258 C lf [1, 1, 1, 1, 1, 1, 1, 1, 1, 0, 0, 0, 1, 1, 1, 1, 1, 1, 1, 1, 1] F h (fun F h => n (F 0) (F 3) (F 4) (F 6) (F 10) (F 14) (F 15) (F 16) (F 17) h) (fun F h => r (F 10) (F 11) h) (bk 1 K1 (bk 0 K0 KE)) = q258_13 C lf n r (F 0) (F 3) (F 4) (F 6) (F 10) (F 14) (F 15) (F 16) (F 17) (F 18) (F 19) (F 21) h := by
  intro F h; kernel_rfl
noncomputable def q258_29 (C : YC) (lf : Nat) (r : K2) (e1 : K9) (x0 x3 x4 x6 x10 x14 x15 x16 x17 x22 : O) (h : HW) : Rs :=
 b2 (ybs Tryz.prog 25 0 [] [] h) fun y14 h14 =>
 ob x22 fun a15 =>
 ob (fa 1 a15) fun y16 =>
 ob (ld1 y16 h14) fun y17 =>
 b2 (ybl Tryz.prog .append #[25, 25] [y14, y17] h14) fun y18 h18 =>
 ob x15 fun a19 =>
 b2 (ybl Tryz.prog .append #[25, 25] [y18, a19] h18) fun y20 h20 =>
 ob (lenE Tryz.prog 25 y20) fun y21 =>
 ob (bin Tryz.prog .eql 3 y21 (.int .i64 0)) fun y22 =>
 yIf y22
 (ob x14 fun a23 =>
 ob x14 fun a24 =>
 ob x16 fun a25 =>
 ob (semBuild Tryz.prog 351 [0, 1, 4, 3] [a23, a24, (.bool true), a25]) fun y26 =>
 ob x10 fun a27 =>
 ob (st 5 a27 y26 h20) fun h28 =>
 r x10 (some (.int .i64 0)) h28)
 (e1 x0 x3 x4 x6 x10 x14 (some y20) x16 x17 h20)
theorem q258_29_eq (C : YC) (lf : Nat) (r : K2) (e1 : K9) (KN : KF) (K0 : KF) (KE : KX) : ∀ F h, evX fx258 C lf [1, 1, 1, 1, 1, 1, 1, 1, 1, 0, 0, 0, 1, 1, 1, 1, 1, 1, 1, 1, 0, 1, 0, 1, 1, 1, 1, 1] F h KN (fun F h => r (F 10) (F 11) h) (bk 1 (fun F h => e1 (F 0) (F 3) (F 4) (F 6) (F 10) (F 14) (F 15) (F 16) (F 17) h) (bk 0 K0 KE)) = q258_29 C lf r e1 (F 0) (F 3) (F 4) (F 6) (F 10) (F 14) (F 15) (F 16) (F 17) (F 22) h := by
  intro F h; kernel_rfl
noncomputable def q258_38 (C : YC) (lf : Nat) (n : K10) (x0 x3 x4 x6 x10 x14 x15 x16 x17 x21 x22 : O) (h : HW) : Rs :=
 ob x21 fun a30 =>
 yIf a30
 (ob x16 fun a31 =>
 bc (gd false (some a31) (ob x22 fun a32 =>
 ob (fa 2 a32) fun y33 =>
 some (.ret y33, h)) h) fun y34 h34 =>
 bc (gd false (some a31) (ob (ld1 y34 h34) fun y35 =>
 some (.ret y35, h34)) h34) fun y36 h36 =>
 ob (ypk a31 (.bool true) y36) fun y37 =>
 n x0 x3 x4 x6 x10 x14 x15 (some y37) x17 x22 h36)
 (n x0 x3 x4 x6 x10 x14 x15 x16 x17 x22 h)
theorem q258_38_eq (C : YC) (lf : Nat) (n : K10) (KR : KF) (K1 : KF) (K0 : KF) (KE : KX) : ∀ F h, evX fx258 C lf [1, 1, 1, 1, 1, 1, 1, 1, 1, 0, 0, 0, 1, 1, 1, 1, 1, 1, 1, 1, 0, 1, 0, 1, 1, 1, 1, 0] F h (fun F h => n (F 0) (F 3) (F 4) (F 6) (F 10) (F 14) (F 15) (F 16) (F 17) (F 22) h) KR (bk 1 K1 (bk 0 K0 KE)) = q258_38 C lf n (F 0) (F 3) (F 4) (F 6) (F 10) (F 14) (F 15) (F 16) (F 17) (F 21) (F 22) h := by
  intro F h; kernel_rfl
noncomputable def q258_39 (C : YC) (lf : Nat) (r : K2) (e1 : K9) (x0 x3 x4 x6 x10 x14 x15 x16 x17 x21 x22 : O) (h : HW) : Rs :=
 q258_38 C lf (fun x0 x3 x4 x6 x10 x14 x15 x16 x17 x22 h => q258_29 C lf r e1 x0 x3 x4 x6 x10 x14 x15 x16 x17 x22 h) x0 x3 x4 x6 x10 x14 x15 x16 x17 x21 x22 h
theorem q258_39_eq (C : YC) (lf : Nat) (r : K2) (e1 : K9) (KN : KF) (K0 : KF) (KE : KX) : ∀ F h, evX fx258 C lf [1, 1, 1, 1, 1, 1, 1, 1, 1, 0, 0, 0, 1, 1, 1, 1, 1, 1, 1, 1, 0, 1, 0, 1, 1, 1, 1] F h KN (fun F h => r (F 10) (F 11) h) (bk 1 (fun F h => e1 (F 0) (F 3) (F 4) (F 6) (F 10) (F 14) (F 15) (F 16) (F 17) h) (bk 0 K0 KE)) = q258_39 C lf r e1 (F 0) (F 3) (F 4) (F 6) (F 10) (F 14) (F 15) (F 16) (F 17) (F 21) (F 22) h := cSeq (a := subX fx258 [1, 1, 1, 1, 1, 1, 1, 1, 1, 0, 0, 0, 1, 1, 1, 1, 1, 1, 1, 1, 0, 1, 0, 1, 1, 1, 1, 0]) (b := subX fx258 [1, 1, 1, 1, 1, 1, 1, 1, 1, 0, 0, 0, 1, 1, 1, 1, 1, 1, 1, 1, 0, 1, 0, 1, 1, 1, 1, 1]) (by kernel_rfl) (B := (fun F h => q258_29 C lf r e1 (F 0) (F 3) (F 4) (F 6) (F 10) (F 14) (F 15) (F 16) (F 17) (F 22) h)) (q258_29_eq C lf r e1 KN K0 KE) (q258_38_eq C lf (fun x0 x3 x4 x6 x10 x14 x15 x16 x17 x22 h => q258_29 C lf r e1 x0 x3 x4 x6 x10 x14 x15 x16 x17 x22 h) (fun F h => r (F 10) (F 11) h) (fun F h => e1 (F 0) (F 3) (F 4) (F 6) (F 10) (F 14) (F 15) (F 16) (F 17) h) K0 KE)
noncomputable def q258_43 (C : YC) (lf : Nat) (n : K11) (x0 x3 x4 x6 x10 x14 x15 x16 x17 x21 x22 : O) (h : HW) : Rs :=
 ob x22 fun a40 =>
 ob (fa 0 a40) fun y41 =>
 ob (ld1 y41 h) fun y42 =>
 yIf y42
 (n x0 x3 x4 x6 x10 (some (.int .i64 1)) x15 x16 x17 x21 x22 h)
 (n x0 x3 x4 x6 x10 x14 x15 x16 x17 x21 x22 h)
theorem q258_43_eq (C : YC) (lf : Nat) (n : K11) (KR : KF) (K1 : KF) (K0 : KF) (KE : KX) : ∀ F h, evX fx258 C lf [1, 1, 1, 1, 1, 1, 1, 1, 1, 0, 0, 0, 1, 1, 1, 1, 1, 1, 1, 1, 0, 1, 0, 1, 1, 1, 0] F h (fun F h => n (F 0) (F 3) (F 4) (F 6) (F 10) (F 14) (F 15) (F 16) (F 17) (F 21) (F 22) h) KR (bk 1 K1 (bk 0 K0 KE)) = q258_43 C lf n (F 0) (F 3) (F 4) (F 6) (F 10) (F 14) (F 15) (F 16) (F 17) (F 21) (F 22) h := by
  intro F h; kernel_rfl
noncomputable def q258_44 (C : YC) (lf : Nat) (r : K2) (e1 : K9) (x0 x3 x4 x6 x10 x14 x15 x16 x17 x21 x22 : O) (h : HW) : Rs :=
 q258_43 C lf (fun x0 x3 x4 x6 x10 x14 x15 x16 x17 x21 x22 h => q258_39 C lf r e1 x0 x3 x4 x6 x10 x14 x15 x16 x17 x21 x22 h) x0 x3 x4 x6 x10 x14 x15 x16 x17 x21 x22 h
theorem q258_44_eq (C : YC) (lf : Nat) (r : K2) (e1 : K9) (KN : KF) (K0 : KF) (KE : KX) : ∀ F h, evX fx258 C lf [1, 1, 1, 1, 1, 1, 1, 1, 1, 0, 0, 0, 1, 1, 1, 1, 1, 1, 1, 1, 0, 1, 0, 1, 1, 1] F h KN (fun F h => r (F 10) (F 11) h) (bk 1 (fun F h => e1 (F 0) (F 3) (F 4) (F 6) (F 10) (F 14) (F 15) (F 16) (F 17) h) (bk 0 K0 KE)) = q258_44 C lf r e1 (F 0) (F 3) (F 4) (F 6) (F 10) (F 14) (F 15) (F 16) (F 17) (F 21) (F 22) h := cSeq (a := subX fx258 [1, 1, 1, 1, 1, 1, 1, 1, 1, 0, 0, 0, 1, 1, 1, 1, 1, 1, 1, 1, 0, 1, 0, 1, 1, 1, 0]) (b := subX fx258 [1, 1, 1, 1, 1, 1, 1, 1, 1, 0, 0, 0, 1, 1, 1, 1, 1, 1, 1, 1, 0, 1, 0, 1, 1, 1, 1]) (by kernel_rfl) (B := (fun F h => q258_39 C lf r e1 (F 0) (F 3) (F 4) (F 6) (F 10) (F 14) (F 15) (F 16) (F 17) (F 21) (F 22) h)) (q258_39_eq C lf r e1 KN K0 KE) (q258_43_eq C lf (fun x0 x3 x4 x6 x10 x14 x15 x16 x17 x21 x22 h => q258_39 C lf r e1 x0 x3 x4 x6 x10 x14 x15 x16 x17 x21 x22 h) (fun F h => r (F 10) (F 11) h) (fun F h => e1 (F 0) (F 3) (F 4) (F 6) (F 10) (F 14) (F 15) (F 16) (F 17) h) K0 KE)
noncomputable def q258_53 (C : YC) (lf : Nat) (n : K11) (x0 x3 x4 x6 x10 x14 x15 x16 x17 x19 x21 : O) (h : HW) : Rs :=
 ob x0 fun a45 =>
 ob x19 fun a46 =>
 bc (C (.fn 324) [a45, a46] h) fun y47 h47 =>
 bc (C (.fn 301) [y47] h47) fun y48 h48 =>
 ob (ext 0 y48) fun y49 =>
 ob (ext 1 y48) fun y50 =>
 b2 (yAl Tryz.prog 234 h48) fun y51 h51 =>
 ob (st 3 y51 y49 h51) fun h52 =>
 n x0 x3 x4 x6 x10 x14 x15 x16 x17 x21 (some y51) h52
theorem q258_53_eq (C : YC) (lf : Nat) (n : K11) (KR : KF) (K1 : KF) (K0 : KF) (KE : KX) : ∀ F h, evX fx258 C lf [1, 1, 1, 1, 1, 1, 1, 1, 1, 0, 0, 0, 1, 1, 1, 1, 1, 1, 1, 1, 0, 1, 0, 1, 1, 0] F h (fun F h => n (F 0) (F 3) (F 4) (F 6) (F 10) (F 14) (F 15) (F 16) (F 17) (F 21) (F 22) h) KR (bk 1 K1 (bk 0 K0 KE)) = q258_53 C lf n (F 0) (F 3) (F 4) (F 6) (F 10) (F 14) (F 15) (F 16) (F 17) (F 19) (F 21) h := by
  intro F h; kernel_rfl
noncomputable def q258_54 (C : YC) (lf : Nat) (r : K2) (e1 : K9) (x0 x3 x4 x6 x10 x14 x15 x16 x17 x19 x21 : O) (h : HW) : Rs :=
 q258_53 C lf (fun x0 x3 x4 x6 x10 x14 x15 x16 x17 x21 x22 h => q258_44 C lf r e1 x0 x3 x4 x6 x10 x14 x15 x16 x17 x21 x22 h) x0 x3 x4 x6 x10 x14 x15 x16 x17 x19 x21 h
theorem q258_54_eq (C : YC) (lf : Nat) (r : K2) (e1 : K9) (KN : KF) (K0 : KF) (KE : KX) : ∀ F h, evX fx258 C lf [1, 1, 1, 1, 1, 1, 1, 1, 1, 0, 0, 0, 1, 1, 1, 1, 1, 1, 1, 1, 0, 1, 0, 1, 1] F h KN (fun F h => r (F 10) (F 11) h) (bk 1 (fun F h => e1 (F 0) (F 3) (F 4) (F 6) (F 10) (F 14) (F 15) (F 16) (F 17) h) (bk 0 K0 KE)) = q258_54 C lf r e1 (F 0) (F 3) (F 4) (F 6) (F 10) (F 14) (F 15) (F 16) (F 17) (F 19) (F 21) h := cSeq (a := subX fx258 [1, 1, 1, 1, 1, 1, 1, 1, 1, 0, 0, 0, 1, 1, 1, 1, 1, 1, 1, 1, 0, 1, 0, 1, 1, 0]) (b := subX fx258 [1, 1, 1, 1, 1, 1, 1, 1, 1, 0, 0, 0, 1, 1, 1, 1, 1, 1, 1, 1, 0, 1, 0, 1, 1, 1]) (by kernel_rfl) (B := (fun F h => q258_44 C lf r e1 (F 0) (F 3) (F 4) (F 6) (F 10) (F 14) (F 15) (F 16) (F 17) (F 21) (F 22) h)) (q258_44_eq C lf r e1 KN K0 KE) (q258_53_eq C lf (fun x0 x3 x4 x6 x10 x14 x15 x16 x17 x21 x22 h => q258_44 C lf r e1 x0 x3 x4 x6 x10 x14 x15 x16 x17 x21 x22 h) (fun F h => r (F 10) (F 11) h) (fun F h => e1 (F 0) (F 3) (F 4) (F 6) (F 10) (F 14) (F 15) (F 16) (F 17) h) K0 KE)
noncomputable def q258_60 (C : YC) (lf : Nat) (n : K11) (r : K2) (x0 x3 x4 x6 x10 x14 x15 x16 x17 x19 x21 : O) (h : HW) : Rs :=
 ob x17 fun a55 =>
 ob (bin Tryz.prog .gtr 3 a55 (.int .i64 8)) fun y56 =>
 yIf y56
 (ob (semBuild Tryz.prog 351 [] []) fun y57 =>
 ob x10 fun a58 =>
 ob (st 5 a58 y57 h) fun h59 =>
 r x10 (some (.int .i64 40)) h59)
 (n x0 x3 x4 x6 x10 x14 x15 x16 x17 x19 x21 h)
theorem q258_60_eq (C : YC) (lf : Nat) (n : K11) (r : K2) (K1 : KF) (K0 : KF) (KE : KX) : ∀ F h, evX fx258 C lf [1, 1, 1, 1, 1, 1, 1, 1, 1, 0, 0, 0, 1, 1, 1, 1, 1, 1, 1, 1, 0, 1, 0, 1, 0] F h (fun F h => n (F 0) (F 3) (F 4) (F 6) (F 10) (F 14) (F 15) (F 16) (F 17) (F 19) (F 21) h) (fun F h => r (F 10) (F 11) h) (bk 1 K1 (bk 0 K0 KE)) = q258_60 C lf n r (F 0) (F 3) (F 4) (F 6) (F 10) (F 14) (F 15) (F 16) (F 17) (F 19) (F 21) h := by
  intro F h; kernel_rfl
noncomputable def q258_61 (C : YC) (lf : Nat) (r : K2) (e1 : K9) (x0 x3 x4 x6 x10 x14 x15 x16 x17 x19 x21 : O) (h : HW) : Rs :=
 q258_60 C lf (fun x0 x3 x4 x6 x10 x14 x15 x16 x17 x19 x21 h => q258_54 C lf r e1 x0 x3 x4 x6 x10 x14 x15 x16 x17 x19 x21 h) r x0 x3 x4 x6 x10 x14 x15 x16 x17 x19 x21 h
theorem q258_61_eq (C : YC) (lf : Nat) (r : K2) (e1 : K9) (KN : KF) (K0 : KF) (KE : KX) : ∀ F h, evX fx258 C lf [1, 1, 1, 1, 1, 1, 1, 1, 1, 0, 0, 0, 1, 1, 1, 1, 1, 1, 1, 1, 0, 1, 0, 1] F h KN (fun F h => r (F 10) (F 11) h) (bk 1 (fun F h => e1 (F 0) (F 3) (F 4) (F 6) (F 10) (F 14) (F 15) (F 16) (F 17) h) (bk 0 K0 KE)) = q258_61 C lf r e1 (F 0) (F 3) (F 4) (F 6) (F 10) (F 14) (F 15) (F 16) (F 17) (F 19) (F 21) h := cSeq (a := subX fx258 [1, 1, 1, 1, 1, 1, 1, 1, 1, 0, 0, 0, 1, 1, 1, 1, 1, 1, 1, 1, 0, 1, 0, 1, 0]) (b := subX fx258 [1, 1, 1, 1, 1, 1, 1, 1, 1, 0, 0, 0, 1, 1, 1, 1, 1, 1, 1, 1, 0, 1, 0, 1, 1]) (by kernel_rfl) (B := (fun F h => q258_54 C lf r e1 (F 0) (F 3) (F 4) (F 6) (F 10) (F 14) (F 15) (F 16) (F 17) (F 19) (F 21) h)) (q258_54_eq C lf r e1 KN K0 KE) (q258_60_eq C lf (fun x0 x3 x4 x6 x10 x14 x15 x16 x17 x19 x21 h => q258_54 C lf r e1 x0 x3 x4 x6 x10 x14 x15 x16 x17 x19 x21 h) r (fun F h => e1 (F 0) (F 3) (F 4) (F 6) (F 10) (F 14) (F 15) (F 16) (F 17) h) K0 KE)
noncomputable def q258_64 (C : YC) (lf : Nat) (n : K11) (x0 x3 x4 x6 x10 x14 x15 x16 x17 x19 x21 : O) (h : HW) : Rs :=
 ob x17 fun a62 =>
 ob (bin Tryz.prog .add 3 a62 (.int .i64 1)) fun y63 =>
 n x0 x3 x4 x6 x10 x14 x15 x16 (some y63) x19 x21 h
theorem q258_64_eq (C : YC) (lf : Nat) (n : K11) (KR : KF) (K1 : KF) (K0 : KF) (KE : KX) : ∀ F h, evX fx258 C lf [1, 1, 1, 1, 1, 1, 1, 1, 1, 0, 0, 0, 1, 1, 1, 1, 1, 1, 1, 1, 0, 1, 0, 0] F h (fun F h => n (F 0) (F 3) (F 4) (F 6) (F 10) (F 14) (F 15) (F 16) (F 17) (F 19) (F 21) h) KR (bk 1 K1 (bk 0 K0 KE)) = q258_64 C lf n (F 0) (F 3) (F 4) (F 6) (F 10) (F 14) (F 15) (F 16) (F 17) (F 19) (F 21) h := by
  intro F h; kernel_rfl
noncomputable def q258_65 (C : YC) (lf : Nat) (r : K2) (e1 : K9) (x0 x3 x4 x6 x10 x14 x15 x16 x17 x19 x21 : O) (h : HW) : Rs :=
 q258_64 C lf (fun x0 x3 x4 x6 x10 x14 x15 x16 x17 x19 x21 h => q258_61 C lf r e1 x0 x3 x4 x6 x10 x14 x15 x16 x17 x19 x21 h) x0 x3 x4 x6 x10 x14 x15 x16 x17 x19 x21 h
theorem q258_65_eq (C : YC) (lf : Nat) (r : K2) (e1 : K9) (KN : KF) (K0 : KF) (KE : KX) : ∀ F h, evX fx258 C lf [1, 1, 1, 1, 1, 1, 1, 1, 1, 0, 0, 0, 1, 1, 1, 1, 1, 1, 1, 1, 0, 1, 0] F h KN (fun F h => r (F 10) (F 11) h) (bk 1 (fun F h => e1 (F 0) (F 3) (F 4) (F 6) (F 10) (F 14) (F 15) (F 16) (F 17) h) (bk 0 K0 KE)) = q258_65 C lf r e1 (F 0) (F 3) (F 4) (F 6) (F 10) (F 14) (F 15) (F 16) (F 17) (F 19) (F 21) h := cSeq (a := subX fx258 [1, 1, 1, 1, 1, 1, 1, 1, 1, 0, 0, 0, 1, 1, 1, 1, 1, 1, 1, 1, 0, 1, 0, 0]) (b := subX fx258 [1, 1, 1, 1, 1, 1, 1, 1, 1, 0, 0, 0, 1, 1, 1, 1, 1, 1, 1, 1, 0, 1, 0, 1]) (by kernel_rfl) (B := (fun F h => q258_61 C lf r e1 (F 0) (F 3) (F 4) (F 6) (F 10) (F 14) (F 15) (F 16) (F 17) (F 19) (F 21) h)) (q258_61_eq C lf r e1 KN K0 KE) (q258_64_eq C lf (fun x0 x3 x4 x6 x10 x14 x15 x16 x17 x19 x21 h => q258_61 C lf r e1 x0 x3 x4 x6 x10 x14 x15 x16 x17 x19 x21 h) (fun F h => r (F 10) (F 11) h) (fun F h => e1 (F 0) (F 3) (F 4) (F 6) (F 10) (F 14) (F 15) (F 16) (F 17) h) K0 KE)
noncomputable def q258_66 (C : YC) (lf : Nat) (n : K12) (x0 x3 x4 x6 x10 x14 x15 x16 x17 x18 x19 x21 : O) (h : HW) : Rs :=
 n x0 x3 x4 x6 x10 x14 x15 x16 x17 x18 x19 x21 h
theorem q258_66_eq (C : YC) (lf : Nat) (n : K12) (KR : KF) (K1 : KF) (K0 : KF) (KE : KX) : ∀ F h, evX fx258 C lf [1, 1, 1, 1, 1, 1, 1, 1, 1, 0, 0, 0, 1, 1, 1, 1, 1, 1, 1, 1, 0, 1, 1] F h (fun F h => n (F 0) (F 3) (F 4) (F 6) (F 10) (F 14) (F 15) (F 16) (F 17) (F 18) (F 19) (F 21) h) KR (bk 1 K1 (bk 0 K0 KE)) = q258_66 C lf n (F 0) (F 3) (F 4) (F 6) (F 10) (F 14) (F 15) (F 16) (F 17) (F 18) (F 19) (F 21) h := by
  intro F h; kernel_rfl
noncomputable def q258_68 (C : YC) (lf : Nat) (n : K12) (r : K2) (e1 : K9) (x0 x3 x4 x6 x10 x14 x15 x16 x17 x18 x19 x21 x112 : O) (h : HW) : Rs :=
 ob x112 fun a67 =>
 yIf a67
 (q258_65 C lf r e1 x0 x3 x4 x6 x10 x14 x15 x16 x17 x19 x21 h)
 (q258_66 C lf n x0 x3 x4 x6 x10 x14 x15 x16 x17 x18 x19 x21 h)
theorem q258_68_eq (C : YC) (lf : Nat) (n : K12) (r : K2) (e1 : K9) (K0 : KF) (KE : KX) : ∀ F h, evX fx258 C lf [1, 1, 1, 1, 1, 1, 1, 1, 1, 0, 0, 0, 1, 1, 1, 1, 1, 1, 1, 1, 0, 1] F h (fun F h => n (F 0) (F 3) (F 4) (F 6) (F 10) (F 14) (F 15) (F 16) (F 17) (F 18) (F 19) (F 21) h) (fun F h => r (F 10) (F 11) h) (bk 1 (fun F h => e1 (F 0) (F 3) (F 4) (F 6) (F 10) (F 14) (F 15) (F 16) (F 17) h) (bk 0 K0 KE)) = q258_68 C lf n r e1 (F 0) (F 3) (F 4) (F 6) (F 10) (F 14) (F 15) (F 16) (F 17) (F 18) (F 19) (F 21) (F 112) h := cCond (x := .tmp 112) (by kernel_rfl) (q258_65_eq C lf r e1 (fun F h => n (F 0) (F 3) (F 4) (F 6) (F 10) (F 14) (F 15) (F 16) (F 17) (F 18) (F 19) (F 21) h) K0 KE) (q258_66_eq C lf n (fun F h => r (F 10) (F 11) h) (fun F h => e1 (F 0) (F 3) (F 4) (F 6) (F 10) (F 14) (F 15) (F 16) (F 17) h) K0 KE)
noncomputable def q258_93 (C : YC) (lf : Nat) (n : K13) (x0 x3 x4 x6 x10 x14 x15 x16 x17 x18 x19 x21 : O) (h : HW) : Rs :=
 ob x0 fun a69 =>
 ob x19 fun a70 =>
 bc (C (.fn 260) [a69, a70] h) fun y71 h71 =>
 ob (bin Tryz.prog .eql 30 y71 (.int .i64 40960)) fun y72 =>
 bc (gd true (some y72) (ob x21 fun a73 =>
 some (.ret a73, h71)) h71) fun y74 h74 =>
 bc (gd true (some y72) (ob (unE .not y74) fun y75 =>
 some (.ret y75, h74)) h74) fun y76 h76 =>
 bc (gd true (some y72) (some (.ret y76, h76)) h76) fun y77 h77 =>
 bc (gd false (some y77) (ob x3 fun a78 =>
 some (.ret a78, h77)) h77) fun y79 h79 =>
 bc (gd true (some y72) (ob (ypk y77 (.bool true) y79) fun y80 =>
 some (.ret y80, h79)) h79) fun y81 h81 =>
 bc (gd true (some y72) (some (.ret y81, h81)) h81) fun y82 h82 =>
 bc (gd false (some y82) (ob x16 fun a83 =>
 some (.ret a83, h82)) h82) fun y84 h84 =>
 bc (gd false (some y82) (some (.ret y84, h84)) h84) fun y85 h85 =>
 bc (gd true (some y85) (ob x4 fun a86 =>
 some (.ret a86, h85)) h85) fun y87 h87 =>
 bc (gd false (some y82) (ob (ypk y85 y87 (.bool false)) fun y88 =>
 some (.ret y88, h87)) h87) fun y89 h89 =>
 bc (gd true (some y72) (ob (ypk y82 (.bool true) y89) fun y90 =>
 some (.ret y90, h89)) h89) fun y91 h91 =>
 ob (ypk y72 y91 (.bool false)) fun y92 =>
 n x0 x3 x4 x6 x10 x14 x15 x16 x17 x18 x19 x21 (some y92) h91
theorem q258_93_eq (C : YC) (lf : Nat) (n : K13) (KR : KF) (K1 : KF) (K0 : KF) (KE : KX) : ∀ F h, evX fx258 C lf [1, 1, 1, 1, 1, 1, 1, 1, 1, 0, 0, 0, 1, 1, 1, 1, 1, 1, 1, 1, 0, 0] F h (fun F h => n (F 0) (F 3) (F 4) (F 6) (F 10) (F 14) (F 15) (F 16) (F 17) (F 18) (F 19) (F 21) (F 112) h) KR (bk 1 K1 (bk 0 K0 KE)) = q258_93 C lf n (F 0) (F 3) (F 4) (F 6) (F 10) (F 14) (F 15) (F 16) (F 17) (F 18) (F 19) (F 21) h := by
  intro F h; kernel_rfl
noncomputable def q258_94 (C : YC) (lf : Nat) (n : K12) (r : K2) (e1 : K9) (x0 x3 x4 x6 x10 x14 x15 x16 x17 x18 x19 x21 : O) (h : HW) : Rs :=
 q258_93 C lf (fun x0 x3 x4 x6 x10 x14 x15 x16 x17 x18 x19 x21 x112 h => q258_68 C lf n r e1 x0 x3 x4 x6 x10 x14 x15 x16 x17 x18 x19 x21 x112 h) x0 x3 x4 x6 x10 x14 x15 x16 x17 x18 x19 x21 h
theorem q258_94_eq (C : YC) (lf : Nat) (n : K12) (r : K2) (e1 : K9) (K0 : KF) (KE : KX) : ∀ F h, evX fx258 C lf [1, 1, 1, 1, 1, 1, 1, 1, 1, 0, 0, 0, 1, 1, 1, 1, 1, 1, 1, 1, 0] F h (fun F h => n (F 0) (F 3) (F 4) (F 6) (F 10) (F 14) (F 15) (F 16) (F 17) (F 18) (F 19) (F 21) h) (fun F h => r (F 10) (F 11) h) (bk 1 (fun F h => e1 (F 0) (F 3) (F 4) (F 6) (F 10) (F 14) (F 15) (F 16) (F 17) h) (bk 0 K0 KE)) = q258_94 C lf n r e1 (F 0) (F 3) (F 4) (F 6) (F 10) (F 14) (F 15) (F 16) (F 17) (F 18) (F 19) (F 21) h := cSeq (a := subX fx258 [1, 1, 1, 1, 1, 1, 1, 1, 1, 0, 0, 0, 1, 1, 1, 1, 1, 1, 1, 1, 0, 0]) (b := subX fx258 [1, 1, 1, 1, 1, 1, 1, 1, 1, 0, 0, 0, 1, 1, 1, 1, 1, 1, 1, 1, 0, 1]) (by kernel_rfl) (B := (fun F h => q258_68 C lf n r e1 (F 0) (F 3) (F 4) (F 6) (F 10) (F 14) (F 15) (F 16) (F 17) (F 18) (F 19) (F 21) (F 112) h)) (q258_68_eq C lf n r e1 K0 KE) (q258_93_eq C lf (fun x0 x3 x4 x6 x10 x14 x15 x16 x17 x18 x19 x21 x112 h => q258_68 C lf n r e1 x0 x3 x4 x6 x10 x14 x15 x16 x17 x18 x19 x21 x112 h) (fun F h => r (F 10) (F 11) h) (fun F h => e1 (F 0) (F 3) (F 4) (F 6) (F 10) (F 14) (F 15) (F 16) (F 17) h) K0 KE)
noncomputable def q258_95 (C : YC) (lf : Nat) (n : K9) (r : K2) (e1 : K9) (x0 x3 x4 x6 x10 x14 x15 x16 x17 x18 x19 x21 : O) (h : HW) : Rs :=
 q258_94 C lf (fun x0 x3 x4 x6 x10 x14 x15 x16 x17 x18 x19 x21 h => q258_13 C lf n r x0 x3 x4 x6 x10 x14 x15 x16 x17 x18 x19 x21 h) r e1 x0 x3 x4 x6 x10 x14 x15 x16 x17 x18 x19 x21 h
theorem q258_95_eq (C : YC) (lf : Nat) (n : K9) (r : K2) (e1 : K9) (K0 : KF) (KE : KX) : ∀ F h, evX fx258 C lf [1, 1, 1, 1, 1, 1, 1, 1, 1, 0, 0, 0, 1, 1, 1, 1, 1, 1, 1, 1] F h (fun F h => n (F 0) (F 3) (F 4) (F 6) (F 10) (F 14) (F 15) (F 16) (F 17) h) (fun F h => r (F 10) (F 11) h) (bk 1 (fun F h => e1 (F 0) (F 3) (F 4) (F 6) (F 10) (F 14) (F 15) (F 16) (F 17) h) (bk 0 K0 KE)) = q258_95 C lf n r e1 (F 0) (F 3) (F 4) (F 6) (F 10) (F 14) (F 15) (F 16) (F 17) (F 18) (F 19) (F 21) h := cSeq (a := subX fx258 [1, 1, 1, 1, 1, 1, 1, 1, 1, 0, 0, 0, 1, 1, 1, 1, 1, 1, 1, 1, 0]) (b := subX fx258 [1, 1, 1, 1, 1, 1, 1, 1, 1, 0, 0, 0, 1, 1, 1, 1, 1, 1, 1, 1, 1]) (by kernel_rfl) (B := (fun F h => q258_13 C lf n r (F 0) (F 3) (F 4) (F 6) (F 10) (F 14) (F 15) (F 16) (F 17) (F 18) (F 19) (F 21) h)) (q258_13_eq C lf n r (fun F h => e1 (F 0) (F 3) (F 4) (F 6) (F 10) (F 14) (F 15) (F 16) (F 17) h) K0 KE) (q258_94_eq C lf (fun x0 x3 x4 x6 x10 x14 x15 x16 x17 x18 x19 x21 h => q258_13 C lf n r x0 x3 x4 x6 x10 x14 x15 x16 x17 x18 x19 x21 h) r e1 K0 KE)
noncomputable def q258_108 (C : YC) (lf : Nat) (n : K12) (r : K2) (x0 x3 x4 x6 x10 x14 x15 x16 x17 x18 x19 x20 x21 : O) (h : HW) : Rs :=
 ob x20 fun a96 =>
 ob (bin Tryz.prog .neq 3 a96 (.int .i64 0)) fun y97 =>
 yIf y97
 (ob x21 fun a98 =>
 yIf a98
 (ob x14 fun a99 =>
 ob x18 fun a100 =>
 ob x16 fun a101 =>
 ob (semBuild Tryz.prog 351 [0, 2, 3] [a99, a100, a101]) fun y102 =>
 ob x10 fun a103 =>
 ob (st 5 a103 y102 h) fun h104 =>
 r x10 (some (.int .i64 0)) h104)
 (ob (semBuild Tryz.prog 351 [] []) fun y105 =>
 ob x10 fun a106 =>
 ob (st 5 a106 y105 h) fun h107 =>
 r x10 (some (.int .i64 2)) h107))
 (n x0 x3 x4 x6 x10 x14 x15 x16 x17 x18 x19 x21 h)
theorem q258_108_eq (C : YC) (lf : Nat) (n : K12) (r : K2) (K1 : KF) (K0 : KF) (KE : KX) : ∀ F h, evX fx258 C lf [1, 1, 1, 1, 1, 1, 1, 1, 1, 0, 0, 0, 1, 1, 1, 1, 1, 1, 1, 0] F h (fun F h => n (F 0) (F 3) (F 4) (F 6) (F 10) (F 14) (F 15) (F 16) (F 17) (F 18) (F 19) (F 21) h) (fun F h => r (F 10) (F 11) h) (bk 1 K1 (bk 0 K0 KE)) = q258_108 C lf n r (F 0) (F 3) (F 4) (F 6) (F 10) (F 14) (F 15) (F 16) (F 17) (F 18) (F 19) (F 20) (F 21) h := by
  intro F h; kernel_rfl
noncomputable def q258_109 (C : YC) (lf : Nat) (n : K9) (r : K2) (e1 : K9) (x0 x3 x4 x6 x10 x14 x15 x16 x17 x18 x19 x20 x21 : O) (h : HW) : Rs :=
 q258_108 C lf (fun x0 x3 x4 x6 x10 x14 x15 x16 x17 x18 x19 x21 h => q258_95 C lf n r e1 x0 x3 x4 x6 x10 x14 x15 x16 x17 x18 x19 x21 h) r x0 x3 x4 x6 x10 x14 x15 x16 x17 x18 x19 x20 x21 h
theorem q258_109_eq (C : YC) (lf : Nat) (n : K9) (r : K2) (e1 : K9) (K0 : KF) (KE : KX) : ∀ F h, evX fx258 C lf [1, 1, 1, 1, 1, 1, 1, 1, 1, 0, 0, 0, 1, 1, 1, 1, 1, 1, 1] F h (fun F h => n (F 0) (F 3) (F 4) (F 6) (F 10) (F 14) (F 15) (F 16) (F 17) h) (fun F h => r (F 10) (F 11) h) (bk 1 (fun F h => e1 (F 0) (F 3) (F 4) (F 6) (F 10) (F 14) (F 15) (F 16) (F 17) h) (bk 0 K0 KE)) = q258_109 C lf n r e1 (F 0) (F 3) (F 4) (F 6) (F 10) (F 14) (F 15) (F 16) (F 17) (F 18) (F 19) (F 20) (F 21) h := cSeq (a := subX fx258 [1, 1, 1, 1, 1, 1, 1, 1, 1, 0, 0, 0, 1, 1, 1, 1, 1, 1, 1, 0]) (b := subX fx258 [1, 1, 1, 1, 1, 1, 1, 1, 1, 0, 0, 0, 1, 1, 1, 1, 1, 1, 1, 1]) (by kernel_rfl) (B := (fun F h => q258_95 C lf n r e1 (F 0) (F 3) (F 4) (F 6) (F 10) (F 14) (F 15) (F 16) (F 17) (F 18) (F 19) (F 21) h)) (q258_95_eq C lf n r e1 K0 KE) (q258_108_eq C lf (fun x0 x3 x4 x6 x10 x14 x15 x16 x17 x18 x19 x21 h => q258_95 C lf n r e1 x0 x3 x4 x6 x10 x14 x15 x16 x17 x18 x19 x21 h) r (fun F h => e1 (F 0) (F 3) (F 4) (F 6) (F 10) (F 14) (F 15) (F 16) (F 17) h) K0 KE)
noncomputable def q258_113 (C : YC) (lf : Nat) (n : K13) (x0 x3 x4 x6 x10 x14 x15 x16 x17 x18 x19 x20 : O) (h : HW) : Rs :=
 ob x15 fun a110 =>
 ob (lenE Tryz.prog 25 a110) fun y111 =>
 ob (bin Tryz.prog .eql 3 y111 (.int .i64 0)) fun y112 =>
 n x0 x3 x4 x6 x10 x14 x15 x16 x17 x18 x19 x20 (some y112) h
theorem q258_113_eq (C : YC) (lf : Nat) (n : K13) (KR : KF) (K1 : KF) (K0 : KF) (KE : KX) : ∀ F h, evX fx258 C lf [1, 1, 1, 1, 1, 1, 1, 1, 1, 0, 0, 0, 1, 1, 1, 1, 1, 1, 0] F h (fun F h => n (F 0) (F 3) (F 4) (F 6) (F 10) (F 14) (F 15) (F 16) (F 17) (F 18) (F 19) (F 20) (F 21) h) KR (bk 1 K1 (bk 0 K0 KE)) = q258_113 C lf n (F 0) (F 3) (F 4) (F 6) (F 10) (F 14) (F 15) (F 16) (F 17) (F 18) (F 19) (F 20) h := by
  intro F h; kernel_rfl
noncomputable def q258_114 (C : YC) (lf : Nat) (n : K9) (r : K2) (e1 : K9) (x0 x3 x4 x6 x10 x14 x15 x16 x17 x18 x19 x20 : O) (h : HW) : Rs :=
 q258_113 C lf (fun x0 x3 x4 x6 x10 x14 x15 x16 x17 x18 x19 x20 x21 h => q258_109 C lf n r e1 x0 x3 x4 x6 x10 x14 x15 x16 x17 x18 x19 x20 x21 h) x0 x3 x4 x6 x10 x14 x15 x16 x17 x18 x19 x20 h
theorem q258_114_eq (C : YC) (lf : Nat) (n : K9) (r : K2) (e1 : K9) (K0 : KF) (KE : KX) : ∀ F h, evX fx258 C lf [1, 1, 1, 1, 1, 1, 1, 1, 1, 0, 0, 0, 1, 1, 1, 1, 1, 1] F h (fun F h => n (F 0) (F 3) (F 4) (F 6) (F 10) (F 14) (F 15) (F 16) (F 17) h) (fun F h => r (F 10) (F 11) h) (bk 1 (fun F h => e1 (F 0) (F 3) (F 4) (F 6) (F 10) (F 14) (F 15) (F 16) (F 17) h) (bk 0 K0 KE)) = q258_114 C lf n r e1 (F 0) (F 3) (F 4) (F 6) (F 10) (F 14) (F 15) (F 16) (F 17) (F 18) (F 19) (F 20) h := cSeq (a := subX fx258 [1, 1, 1, 1, 1, 1, 1, 1, 1, 0, 0, 0, 1, 1, 1, 1, 1, 1, 0]) (b := subX fx258 [1, 1, 1, 1, 1, 1, 1, 1, 1, 0, 0, 0, 1, 1, 1, 1, 1, 1, 1]) (by kernel_rfl) (B := (fun F h => q258_109 C lf n r e1 (F 0) (F 3) (F 4) (F 6) (F 10) (F 14) (F 15) (F 16) (F 17) (F 18) (F 19) (F 20) (F 21) h)) (q258_109_eq C lf n r e1 K0 KE) (q258_113_eq C lf (fun x0 x3 x4 x6 x10 x14 x15 x16 x17 x18 x19 x20 x21 h => q258_109 C lf n r e1 x0 x3 x4 x6 x10 x14 x15 x16 x17 x18 x19 x20 x21 h) (fun F h => r (F 10) (F 11) h) (fun F h => e1 (F 0) (F 3) (F 4) (F 6) (F 10) (F 14) (F 15) (F 16) (F 17) h) K0 KE)
noncomputable def q258_126 (C : YC) (lf : Nat) (n : K12) (x0 x3 x4 x6 x10 x14 x15 x16 x17 x18 x19 x20 : O) (h : HW) : Rs :=
 ob x18 fun a115 =>
 ob (bin Tryz.prog .neq 9 a115 (.str (bs [46]))) fun y116 =>
 yIf y116
 (ob x0 fun a117 =>
 ob (semNil a117) fun y118 =>
 ob (fa 0 y118) fun y119 =>
 ob (ld1 y119 h) fun y120 =>
 ob x14 fun a121 =>
 ob x18 fun a122 =>
 bc (C (.fn 323) [y120, a121, a122] h) fun y123 h123 =>
 ob (ext 0 y123) fun y124 =>
 ob (ext 1 y123) fun y125 =>
 n x0 x3 x4 x6 x10 x14 x15 x16 x17 x18 (some y124) (some y125) h123)
 (n x0 x3 x4 x6 x10 x14 x15 x16 x17 x18 x19 x20 h)
theorem q258_126_eq (C : YC) (lf : Nat) (n : K12) (KR : KF) (K1 : KF) (K0 : KF) (KE : KX) : ∀ F h, evX fx258 C lf [1, 1, 1, 1, 1, 1, 1, 1, 1, 0, 0, 0, 1, 1, 1, 1, 1, 0] F h (fun F h => n (F 0) (F 3) (F 4) (F 6) (F 10) (F 14) (F 15) (F 16) (F 17) (F 18) (F 19) (F 20) h) KR (bk 1 K1 (bk 0 K0 KE)) = q258_126 C lf n (F 0) (F 3) (F 4) (F 6) (F 10) (F 14) (F 15) (F 16) (F 17) (F 18) (F 19) (F 20) h := by
  intro F h; kernel_rfl
noncomputable def q258_127 (C : YC) (lf : Nat) (n : K9) (r : K2) (e1 : K9) (x0 x3 x4 x6 x10 x14 x15 x16 x17 x18 x19 x20 : O) (h : HW) : Rs :=
 q258_126 C lf (fun x0 x3 x4 x6 x10 x14 x15 x16 x17 x18 x19 x20 h => q258_114 C lf n r e1 x0 x3 x4 x6 x10 x14 x15 x16 x17 x18 x19 x20 h) x0 x3 x4 x6 x10 x14 x15 x16 x17 x18 x19 x20 h
theorem q258_127_eq (C : YC) (lf : Nat) (n : K9) (r : K2) (e1 : K9) (K0 : KF) (KE : KX) : ∀ F h, evX fx258 C lf [1, 1, 1, 1, 1, 1, 1, 1, 1, 0, 0, 0, 1, 1, 1, 1, 1] F h (fun F h => n (F 0) (F 3) (F 4) (F 6) (F 10) (F 14) (F 15) (F 16) (F 17) h) (fun F h => r (F 10) (F 11) h) (bk 1 (fun F h => e1 (F 0) (F 3) (F 4) (F 6) (F 10) (F 14) (F 15) (F 16) (F 17) h) (bk 0 K0 KE)) = q258_127 C lf n r e1 (F 0) (F 3) (F 4) (F 6) (F 10) (F 14) (F 15) (F 16) (F 17) (F 18) (F 19) (F 20) h := cSeq (a := subX fx258 [1, 1, 1, 1, 1, 1, 1, 1, 1, 0, 0, 0, 1, 1, 1, 1, 1, 0]) (b := subX fx258 [1, 1, 1, 1, 1, 1, 1, 1, 1, 0, 0, 0, 1, 1, 1, 1, 1, 1]) (by kernel_rfl) (B := (fun F h => q258_114 C lf n r e1 (F 0) (F 3) (F 4) (F 6) (F 10) (F 14) (F 15) (F 16) (F 17) (F 18) (F 19) (F 20) h)) (q258_114_eq C lf n r e1 K0 KE) (q258_126_eq C lf (fun x0 x3 x4 x6 x10 x14 x15 x16 x17 x18 x19 x20 h => q258_114 C lf n r e1 x0 x3 x4 x6 x10 x14 x15 x16 x17 x18 x19 x20 h) (fun F h => r (F 10) (F 11) h) (fun F h => e1 (F 0) (F 3) (F 4) (F 6) (F 10) (F 14) (F 15) (F 16) (F 17) h) K0 KE)
noncomputable def q258_129 (C : YC) (lf : Nat) (n : K12) (x0 x3 x4 x6 x10 x14 x15 x16 x17 x18 : O) (h : HW) : Rs :=
 ob x14 fun a128 =>
 n x0 x3 x4 x6 x10 x14 x15 x16 x17 x18 (some a128) (some (.int .i64 0)) h
theorem q258_129_eq (C : YC) (lf : Nat) (n : K12) (KR : KF) (K1 : KF) (K0 : KF) (KE : KX) : ∀ F h, evX fx258 C lf [1, 1, 1, 1, 1, 1, 1, 1, 1, 0, 0, 0, 1, 1, 1, 1, 0] F h (fun F h => n (F 0) (F 3) (F 4) (F 6) (F 10) (F 14) (F 15) (F 16) (F 17) (F 18) (F 19) (F 20) h) KR (bk 1 K1 (bk 0 K0 KE)) = q258_129 C lf n (F 0) (F 3) (F 4) (F 6) (F 10) (F 14) (F 15) (F 16) (F 17) (F 18) h := by
  intro F h; kernel_rfl
noncomputable def q258_130 (C : YC) (lf : Nat) (n : K9) (r : K2) (e1 : K9) (x0 x3 x4 x6 x10 x14 x15 x16 x17 x18 : O) (h : HW) : Rs :=
 q258_129 C lf (fun x0 x3 x4 x6 x10 x14 x15 x16 x17 x18 x19 x20 h => q258_127 C lf n r e1 x0 x3 x4 x6 x10 x14 x15 x16 x17 x18 x19 x20 h) x0 x3 x4 x6 x10 x14 x15 x16 x17 x18 h
theorem q258_130_eq (C : YC) (lf : Nat) (n : K9) (r : K2) (e1 : K9) (K0 : KF) (KE : KX) : ∀ F h, evX fx258 C lf [1, 1, 1, 1, 1, 1, 1, 1, 1, 0, 0, 0, 1, 1, 1, 1] F h (fun F h => n (F 0) (F 3) (F 4) (F 6) (F 10) (F 14) (F 15) (F 16) (F 17) h) (fun F h => r (F 10) (F 11) h) (bk 1 (fun F h => e1 (F 0) (F 3) (F 4) (F 6) (F 10) (F 14) (F 15) (F 16) (F 17) h) (bk 0 K0 KE)) = q258_130 C lf n r e1 (F 0) (F 3) (F 4) (F 6) (F 10) (F 14) (F 15) (F 16) (F 17) (F 18) h := cSeq (a := subX fx258 [1, 1, 1, 1, 1, 1, 1, 1, 1, 0, 0, 0, 1, 1, 1, 1, 0]) (b := subX fx258 [1, 1, 1, 1, 1, 1, 1, 1, 1, 0, 0, 0, 1, 1, 1, 1, 1]) (by kernel_rfl) (B := (fun F h => q258_127 C lf n r e1 (F 0) (F 3) (F 4) (F 6) (F 10) (F 14) (F 15) (F 16) (F 17) (F 18) (F 19) (F 20) h)) (q258_127_eq C lf n r e1 K0 KE) (q258_129_eq C lf (fun x0 x3 x4 x6 x10 x14 x15 x16 x17 x18 x19 x20 h => q258_127 C lf n r e1 x0 x3 x4 x6 x10 x14 x15 x16 x17 x18 x19 x20 h) (fun F h => r (F 10) (F 11) h) (fun F h => e1 (F 0) (F 3) (F 4) (F 6) (F 10) (F 14) (F 15) (F 16) (F 17) h) K0 KE)
noncomputable def q258_140 (C : YC) (lf : Nat) (n : K10) (r : K2) (x0 x3 x4 x6 x10 x14 x15 x16 x17 x18 : O) (h : HW) : Rs :=
 ob x0 fun a131 =>
 ob x6 fun a132 =>
 ob (ldN 5 a132 h) fun y133 =>
 ob x14 fun a134 =>
 bc (C (.fn 261) [a131, y133, a134, (.int .i64 1)] h) fun y135 h135 =>
 ob (unE .not y135) fun y136 =>
 yIf y136
 (ob (semBuild Tryz.prog 351 [] []) fun y137 =>
 ob x10 fun a138 =>
 ob (st 5 a138 y137 h135) fun h139 =>
 r x10 (some (.int .i64 13)) h139)
 (n x0 x3 x4 x6 x10 x14 x15 x16 x17 x18 h135)
theorem q258_140_eq (C : YC) (lf : Nat) (n : K10) (r : K2) (K1 : KF) (K0 : KF) (KE : KX) : ∀ F h, evX fx258 C lf [1, 1, 1, 1, 1, 1, 1, 1, 1, 0, 0, 0, 1, 1, 1, 0] F h (fun F h => n (F 0) (F 3) (F 4) (F 6) (F 10) (F 14) (F 15) (F 16) (F 17) (F 18) h) (fun F h => r (F 10) (F 11) h) (bk 1 K1 (bk 0 K0 KE)) = q258_140 C lf n r (F 0) (F 3) (F 4) (F 6) (F 10) (F 14) (F 15) (F 16) (F 17) (F 18) h := by
  intro F h; kernel_rfl
noncomputable def q258_141 (C : YC) (lf : Nat) (n : K9) (r : K2) (e1 : K9) (x0 x3 x4 x6 x10 x14 x15 x16 x17 x18 : O) (h : HW) : Rs :=
 q258_140 C lf (fun x0 x3 x4 x6 x10 x14 x15 x16 x17 x18 h => q258_130 C lf n r e1 x0 x3 x4 x6 x10 x14 x15 x16 x17 x18 h) r x0 x3 x4 x6 x10 x14 x15 x16 x17 x18 h
theorem q258_141_eq (C : YC) (lf : Nat) (n : K9) (r : K2) (e1 : K9) (K0 : KF) (KE : KX) : ∀ F h, evX fx258 C lf [1, 1, 1, 1, 1, 1, 1, 1, 1, 0, 0, 0, 1, 1, 1] F h (fun F h => n (F 0) (F 3) (F 4) (F 6) (F 10) (F 14) (F 15) (F 16) (F 17) h) (fun F h => r (F 10) (F 11) h) (bk 1 (fun F h => e1 (F 0) (F 3) (F 4) (F 6) (F 10) (F 14) (F 15) (F 16) (F 17) h) (bk 0 K0 KE)) = q258_141 C lf n r e1 (F 0) (F 3) (F 4) (F 6) (F 10) (F 14) (F 15) (F 16) (F 17) (F 18) h := cSeq (a := subX fx258 [1, 1, 1, 1, 1, 1, 1, 1, 1, 0, 0, 0, 1, 1, 1, 0]) (b := subX fx258 [1, 1, 1, 1, 1, 1, 1, 1, 1, 0, 0, 0, 1, 1, 1, 1]) (by kernel_rfl) (B := (fun F h => q258_130 C lf n r e1 (F 0) (F 3) (F 4) (F 6) (F 10) (F 14) (F 15) (F 16) (F 17) (F 18) h)) (q258_130_eq C lf n r e1 K0 KE) (q258_140_eq C lf (fun x0 x3 x4 x6 x10 x14 x15 x16 x17 x18 h => q258_130 C lf n r e1 x0 x3 x4 x6 x10 x14 x15 x16 x17 x18 h) r (fun F h => e1 (F 0) (F 3) (F 4) (F 6) (F 10) (F 14) (F 15) (F 16) (F 17) h) K0 KE)
noncomputable def q258_149 (C : YC) (lf : Nat) (n : K10) (r : K2) (x0 x3 x4 x6 x10 x14 x15 x16 x17 x18 : O) (h : HW) : Rs :=
 ob x0 fun a142 =>
 ob x14 fun a143 =>
 bc (C (.fn 260) [a142, a143] h) fun y144 h144 =>
 ob (bin Tryz.prog .neq 30 y144 (.int .i64 16384)) fun y145 =>
 yIf y145
 (ob (semBuild Tryz.prog 351 [] []) fun y146 =>
 ob x10 fun a147 =>
 ob (st 5 a147 y146 h144) fun h148 =>
 r x10 (some (.int .i64 20)) h148)
 (n x0 x3 x4 x6 x10 x14 x15 x16 x17 x18 h144)
theorem q258_149_eq (C : YC) (lf : Nat) (n : K10) (r : K2) (K1 : KF) (K0 : KF) (KE : KX) : ∀ F h, evX fx258 C lf [1, 1, 1, 1, 1, 1, 1, 1, 1, 0, 0, 0, 1, 1, 0] F h (fun F h => n (F 0) (F 3) (F 4) (F 6) (F 10) (F 14) (F 15) (F 16) (F 17) (F 18) h) (fun F h => r (F 10) (F 11) h) (bk 1 K1 (bk 0 K0 KE)) = q258_149 C lf n r (F 0) (F 3) (F 4) (F 6) (F 10) (F 14) (F 15) (F 16) (F 17) (F 18) h := by
  intro F h; kernel_rfl
noncomputable def q258_150 (C : YC) (lf : Nat) (n : K9) (r : K2) (e1 : K9) (x0 x3 x4 x6 x10 x14 x15 x16 x17 x18 : O) (h : HW) : Rs :=
 q258_149 C lf (fun x0 x3 x4 x6 x10 x14 x15 x16 x17 x18 h => q258_141 C lf n r e1 x0 x3 x4 x6 x10 x14 x15 x16 x17 x18 h) r x0 x3 x4 x6 x10 x14 x15 x16 x17 x18 h
theorem q258_150_eq (C : YC) (lf : Nat) (n : K9) (r : K2) (e1 : K9) (K0 : KF) (KE : KX) : ∀ F h, evX fx258 C lf [1, 1, 1, 1, 1, 1, 1, 1, 1, 0, 0, 0, 1, 1] F h (fun F h => n (F 0) (F 3) (F 4) (F 6) (F 10) (F 14) (F 15) (F 16) (F 17) h) (fun F h => r (F 10) (F 11) h) (bk 1 (fun F h => e1 (F 0) (F 3) (F 4) (F 6) (F 10) (F 14) (F 15) (F 16) (F 17) h) (bk 0 K0 KE)) = q258_150 C lf n r e1 (F 0) (F 3) (F 4) (F 6) (F 10) (F 14) (F 15) (F 16) (F 17) (F 18) h := cSeq (a := subX fx258 [1, 1, 1, 1, 1, 1, 1, 1, 1, 0, 0, 0, 1, 1, 0]) (b := subX fx258 [1, 1, 1, 1, 1, 1, 1, 1, 1, 0, 0, 0, 1, 1, 1]) (by kernel_rfl) (B := (fun F h => q258_141 C lf n r e1 (F 0) (F 3) (F 4) (F 6) (F 10) (F 14) (F 15) (F 16) (F 17) (F 18) h)) (q258_141_eq C lf n r e1 K0 KE) (q258_149_eq C lf (fun x0 x3 x4 x6 x10 x14 x15 x16 x17 x18 h => q258_141 C lf n r e1 x0 x3 x4 x6 x10 x14 x15 x16 x17 x18 h) r (fun F h => e1 (F 0) (F 3) (F 4) (F 6) (F 10) (F 14) (F 15) (F 16) (F 17) h) K0 KE)
noncomputable def q258_153 (C : YC) (lf : Nat) (n : K10) (x0 x3 x4 x6 x10 x14 x15 x16 x17 x18 : O) (h : HW) : Rs :=
 ob x15 fun a151 =>
 ob (semSlice Tryz.prog 25 a151 (some (.int .i64 1)) none) fun y152 =>
 n x0 x3 x4 x6 x10 x14 (some y152) x16 x17 x18 h
theorem q258_153_eq (C : YC) (lf : Nat) (n : K10) (KR : KF) (K1 : KF) (K0 : KF) (KE : KX) : ∀ F h, evX fx258 C lf [1, 1, 1, 1, 1, 1, 1, 1, 1, 0, 0, 0, 1, 0] F h (fun F h => n (F 0) (F 3) (F 4) (F 6) (F 10) (F 14) (F 15) (F 16) (F 17) (F 18) h) KR (bk 1 K1 (bk 0 K0 KE)) = q258_153 C lf n (F 0) (F 3) (F 4) (F 6) (F 10) (F 14) (F 15) (F 16) (F 17) (F 18) h := by
  intro F h; kernel_rfl
noncomputable def q258_154 (C : YC) (lf : Nat) (n : K9) (r : K2) (e1 : K9) (x0 x3 x4 x6 x10 x14 x15 x16 x17 x18 : O) (h : HW) : Rs :=
 q258_153 C lf (fun x0 x3 x4 x6 x10 x14 x15 x16 x17 x18 h => q258_150 C lf n r e1 x0 x3 x4 x6 x10 x14 x15 x16 x17 x18 h) x0 x3 x4 x6 x10 x14 x15 x16 x17 x18 h
theorem q258_154_eq (C : YC) (lf : Nat) (n : K9) (r : K2) (e1 : K9) (K0 : KF) (KE : KX) : ∀ F h, evX fx258 C lf [1, 1, 1, 1, 1, 1, 1, 1, 1, 0, 0, 0, 1] F h (fun F h => n (F 0) (F 3) (F 4) (F 6) (F 10) (F 14) (F 15) (F 16) (F 17) h) (fun F h => r (F 10) (F 11) h) (bk 1 (fun F h => e1 (F 0) (F 3) (F 4) (F 6) (F 10) (F 14) (F 15) (F 16) (F 17) h) (bk 0 K0 KE)) = q258_154 C lf n r e1 (F 0) (F 3) (F 4) (F 6) (F 10) (F 14) (F 15) (F 16) (F 17) (F 18) h := cSeq (a := subX fx258 [1, 1, 1, 1, 1, 1, 1, 1, 1, 0, 0, 0, 1, 0]) (b := subX fx258 [1, 1, 1, 1, 1, 1, 1, 1, 1, 0, 0, 0, 1, 1]) (by kernel_rfl) (B := (fun F h => q258_150 C lf n r e1 (F 0) (F 3) (F 4) (F 6) (F 10) (F 14) (F 15) (F 16) (F 17) (F 18) h)) (q258_150_eq C lf n r e1 K0 KE) (q258_153_eq C lf (fun x0 x3 x4 x6 x10 x14 x15 x16 x17 x18 h => q258_150 C lf n r e1 x0 x3 x4 x6 x10 x14 x15 x16 x17 x18 h) (fun F h => r (F 10) (F 11) h) (fun F h => e1 (F 0) (F 3) (F 4) (F 6) (F 10) (F 14) (F 15) (F 16) (F 17) h) K0 KE)
noncomputable def q258_158 (C : YC) (lf : Nat) (n : K10) (x0 x3 x4 x6 x10 x14 x15 x16 x17 : O) (h : HW) : Rs :=
 ob x15 fun a155 =>
 ob (ixS 1 a155 (.int .i64 0)) fun y156 =>
 ob (ld1 y156 h) fun y157 =>
 n x0 x3 x4 x6 x10 x14 x15 x16 x17 (some y157) h
theorem q258_158_eq (C : YC) (lf : Nat) (n : K10) (KR : KF) (K1 : KF) (K0 : KF) (KE : KX) : ∀ F h, evX fx258 C lf [1, 1, 1, 1, 1, 1, 1, 1, 1, 0, 0, 0, 0] F h (fun F h => n (F 0) (F 3) (F 4) (F 6) (F 10) (F 14) (F 15) (F 16) (F 17) (F 18) h) KR (bk 1 K1 (bk 0 K0 KE)) = q258_158 C lf n (F 0) (F 3) (F 4) (F 6) (F 10) (F 14) (F 15) (F 16) (F 17) h := by
  intro F h; kernel_rfl
noncomputable def q258_159 (C : YC) (lf : Nat) (n : K9) (r : K2) (e1 : K9) (x0 x3 x4 x6 x10 x14 x15 x16 x17 : O) (h : HW) : Rs :=
 q258_158 C lf (fun x0 x3 x4 x6 x10 x14 x15 x16 x17 x18 h => q258_154 C lf n r e1 x0 x3 x4 x6 x10 x14 x15 x16 x17 x18 h) x0 x3 x4 x6 x10 x14 x15 x16 x17 h
theorem q258_159_eq (C : YC) (lf : Nat) (n : K9) (r : K2) (e1 : K9) (K0 : KF) (KE : KX) : ∀ F h, evX fx258 C lf [1, 1, 1, 1, 1, 1, 1, 1, 1, 0, 0, 0] F h (fun F h => n (F 0) (F 3) (F 4) (F 6) (F 10) (F 14) (F 15) (F 16) (F 17) h) (fun F h => r (F 10) (F 11) h) (bk 1 (fun F h => e1 (F 0) (F 3) (F 4) (F 6) (F 10) (F 14) (F 15) (F 16) (F 17) h) (bk 0 K0 KE)) = q258_159 C lf n r e1 (F 0) (F 3) (F 4) (F 6) (F 10) (F 14) (F 15) (F 16) (F 17) h := cSeq (a := subX fx258 [1, 1, 1, 1, 1, 1, 1, 1, 1, 0, 0, 0, 0]) (b := subX fx258 [1, 1, 1, 1, 1, 1, 1, 1, 1, 0, 0, 0, 1]) (by kernel_rfl) (B := (fun F h => q258_154 C lf n r e1 (F 0) (F 3) (F 4) (F 6) (F 10) (F 14) (F 15) (F 16) (F 17) (F 18) h)) (q258_154_eq C lf n r e1 K0 KE) (q258_158_eq C lf (fun x0 x3 x4 x6 x10 x14 x15 x16 x17 x18 h => q258_154 C lf n r e1 x0 x3 x4 x6 x10 x14 x15 x16 x17 x18 h) (fun F h => r (F 10) (F 11) h) (fun F h => e1 (F 0) (F 3) (F 4) (F 6) (F 10) (F 14) (F 15) (F 16) (F 17) h) K0 KE)
noncomputable def l258_3 (C : YC) (lf : Nat) (r : K2) (k : O × O × O × O × O × O × O × O × O → HW → Rs) (s : O × O × O × O × O × O × O × O × O) (h : HW) : Rs :=
 q258_159 C lf (fun x0 x3 x4 x6 x10 x14 x15 x16 x17 h => k (x0, x3, x4, x6, x10, x14, x15, x16, x17) h) r (fun x0 x3 x4 x6 x10 x14 x15 x16 x17 h => k (x0, x3, x4, x6, x10, x14, x15, x16, x17) h) s.1 s.2.1 s.2.2.1 s.2.2.2.1 s.2.2.2.2.1 s.2.2.2.2.2.1 s.2.2.2.2.2.2.1 s.2.2.2.2.2.2.2.1 s.2.2.2.2.2.2.2.2 h
noncomputable def q258_168 (C : YC) (lf : Nat) (n : K9) (r : K2) (x0 x3 x4 x6 x10 x14 x15 x16 x17 : O) (h : HW) : Rs :=
 ob x15 fun a160 =>
 ob (lenE Tryz.prog 25 a160) fun y161 =>
 ob (bin Tryz.prog .eql 3 y161 (.int .i64 0)) fun y162 =>
 yIf y162
 (ob x14 fun a163 =>
 ob x14 fun a164 =>
 ob (semBuild Tryz.prog 351 [0, 1, 4] [a163, a164, (.bool true)]) fun y165 =>
 ob x10 fun a166 =>
 ob (st 5 a166 y165 h) fun h167 =>
 r x10 (some (.int .i64 0)) h167)
 (n x0 x3 x4 x6 x10 x14 x15 x16 x17 h)
theorem q258_168_eq (C : YC) (lf : Nat) (n : K9) (r : K2) (KE : KX) : ∀ F h, evX fx258 C lf [1, 1, 1, 1, 1, 1, 1, 1, 0] F h (fun F h => n (F 0) (F 3) (F 4) (F 6) (F 10) (F 14) (F 15) (F 16) (F 17) h) (fun F h => r (F 10) (F 11) h) KE = q258_168 C lf n r (F 0) (F 3) (F 4) (F 6) (F 10) (F 14) (F 15) (F 16) (F 17) h := by
  intro F h; kernel_rfl
noncomputable def q258_169 (C : YC) (lf : Nat) (r : K2) (x0 x3 x4 x6 x10 x14 x15 x16 x17 : O) (h : HW) : Rs :=
 q258_168 C lf (fun x0 x3 x4 x6 x10 x14 x15 x16 x17 h => lp (l258_3 C lf r) lf (x0, x3, x4, x6, x10, x14, x15, x16, x17) h) r x0 x3 x4 x6 x10 x14 x15 x16 x17 h
theorem q258_169_eq (C : YC) (lf : Nat) (r : K2) (KN : KF) (KE : KX) : ∀ F h, evX fx258 C lf [1, 1, 1, 1, 1, 1, 1, 1] F h KN (fun F h => r (F 10) (F 11) h) KE = q258_169 C lf r (F 0) (F 3) (F 4) (F 6) (F 10) (F 14) (F 15) (F 16) (F 17) h := cSeq (a := subX fx258 [1, 1, 1, 1, 1, 1, 1, 1, 0]) (b := subX fx258 [1, 1, 1, 1, 1, 1, 1, 1, 1]) (by kernel_rfl) (B := (fun F h => lp (l258_3 C lf r) lf ((F 0), (F 3), (F 4), (F 6), (F 10), (F 14), (F 15), (F 16), (F 17)) h)) (cBlock (id := 0) (a := subX fx258 [1, 1, 1, 1, 1, 1, 1, 1, 1, 0]) (by kernel_rfl) (cLoop (a := subX fx258 [1, 1, 1, 1, 1, 1, 1, 1, 1, 0, 0]) (g := fun F => (F 0, F 3, F 4, F 6, F 10, F 14, F 15, F 16, F 17)) (body := l258_3 C lf r) (by kernel_rfl) (fun k => (cBlock (id := 1) (a := subX fx258 [1, 1, 1, 1, 1, 1, 1, 1, 1, 0, 0, 0]) (by kernel_rfl) (q258_159_eq C lf (fun x0 x3 x4 x6 x10 x14 x15 x16 x17 h => k (x0, x3, x4, x6, x10, x14, x15, x16, x17) h) r (fun x0 x3 x4 x6 x10 x14 x15 x16 x17 h => k (x0, x3, x4, x6, x10, x14, x15, x16, x17) h) KN KE))))) (q258_168_eq C lf (fun x0 x3 x4 x6 x10 x14 x15 x16 x17 h => lp (l258_3 C lf r) lf (x0, x3, x4, x6, x10, x14, x15, x16, x17) h) r KE)
noncomputable def q258_170 (C : YC) (lf : Nat) (n : K9) (x0 x3 x4 x6 x10 x14 x15 x16 : O) (h : HW) : Rs :=
 n x0 x3 x4 x6 x10 x14 x15 x16 (some (.int .i64 0)) h
theorem q258_170_eq (C : YC) (lf : Nat) (n : K9) (KR : KF) (KE : KX) : ∀ F h, evX fx258 C lf [1, 1, 1, 1, 1, 1, 1, 0] F h (fun F h => n (F 0) (F 3) (F 4) (F 6) (F 10) (F 14) (F 15) (F 16) (F 17) h) KR KE = q258_170 C lf n (F 0) (F 3) (F 4) (F 6) (F 10) (F 14) (F 15) (F 16) h := by
  intro F h; kernel_rfl
noncomputable def q258_171 (C : YC) (lf : Nat) (r : K2) (x0 x3 x4 x6 x10 x14 x15 x16 : O) (h : HW) : Rs :=
 q258_170 C lf (fun x0 x3 x4 x6 x10 x14 x15 x16 x17 h => q258_169 C lf r x0 x3 x4 x6 x10 x14 x15 x16 x17 h) x0 x3 x4 x6 x10 x14 x15 x16 h
theorem q258_171_eq (C : YC) (lf : Nat) (r : K2) (KN : KF) (KE : KX) : ∀ F h, evX fx258 C lf [1, 1, 1, 1, 1, 1, 1] F h KN (fun F h => r (F 10) (F 11) h) KE = q258_171 C lf r (F 0) (F 3) (F 4) (F 6) (F 10) (F 14) (F 15) (F 16) h := cSeq (a := subX fx258 [1, 1, 1, 1, 1, 1, 1, 0]) (b := subX fx258 [1, 1, 1, 1, 1, 1, 1, 1]) (by kernel_rfl) (B := (fun F h => q258_169 C lf r (F 0) (F 3) (F 4) (F 6) (F 10) (F 14) (F 15) (F 16) (F 17) h)) (q258_169_eq C lf r KN KE) (q258_170_eq C lf (fun x0 x3 x4 x6 x10 x14 x15 x16 x17 h => q258_169 C lf r x0 x3 x4 x6 x10 x14 x15 x16 x17 h) (fun F h => r (F 10) (F 11) h) KE)
noncomputable def q258_175 (C : YC) (lf : Nat) (n : K8) (x0 x3 x4 x6 x10 x12 x14 x15 : O) (h : HW) : Rs :=
 ob x12 fun a172 =>
 ob (fa 2 a172) fun y173 =>
 ob (ld1 y173 h) fun y174 =>
 n x0 x3 x4 x6 x10 x14 x15 (some y174) h
theorem q258_175_eq (C : YC) (lf : Nat) (n : K8) (KR : KF) (KE : KX) : ∀ F h, evX fx258 C lf [1, 1, 1, 1, 1, 1, 0] F h (fun F h => n (F 0) (F 3) (F 4) (F 6) (F 10) (F 14) (F 15) (F 16) h) KR KE = q258_175 C lf n (F 0) (F 3) (F 4) (F 6) (F 10) (F 12) (F 14) (F 15) h := by
  intro F h; kernel_rfl
noncomputable def q258_176 (C : YC) (lf : Nat) (r : K2) (x0 x3 x4 x6 x10 x12 x14 x15 : O) (h : HW) : Rs :=
 q258_175 C lf (fun x0 x3 x4 x6 x10 x14 x15 x16 h => q258_171 C lf r x0 x3 x4 x6 x10 x14 x15 x16 h) x0 x3 x4 x6 x10 x12 x14 x15 h
theorem q258_176_eq (C : YC) (lf : Nat) (r : K2) (KN : KF) (KE : KX) : ∀ F h, evX fx258 C lf [1, 1, 1, 1, 1, 1] F h KN (fun F h => r (F 10) (F 11) h) KE = q258_176 C lf r (F 0) (F 3) (F 4) (F 6) (F 10) (F 12) (F 14) (F 15) h := cSeq (a := subX fx258 [1, 1, 1, 1, 1, 1, 0]) (b := subX fx258 [1, 1, 1, 1, 1, 1, 1]) (by kernel_rfl) (B := (fun F h => q258_171 C lf r (F 0) (F 3) (F 4) (F 6) (F 10) (F 14) (F 15) (F 16) h)) (q258_171_eq C lf r KN KE) (q258_175_eq C lf (fun x0 x3 x4 x6 x10 x14 x15 x16 h => q258_171 C lf r x0 x3 x4 x6 x10 x14 x15 x16 h) (fun F h => r (F 10) (F 11) h) KE)
noncomputable def q258_180 (C : YC) (lf : Nat) (n : K8) (x0 x3 x4 x6 x10 x12 x14 : O) (h : HW) : Rs :=
 ob x12 fun a177 =>
 ob (fa 1 a177) fun y178 =>
 ob (ld1 y178 h) fun y179 =>
 n x0 x3 x4 x6 x10 x12 x14 (some y179) h
theorem q258_180_eq (C : YC) (lf : Nat) (n : K8) (KR : KF) (KE : KX) : ∀ F h, evX fx258 C lf [1, 1, 1, 1, 1, 0] F h (fun F h => n (F 0) (F 3) (F 4) (F 6) (F 10) (F 12) (F 14) (F 15) h) KR KE = q258_180 C lf n (F 0) (F 3) (F 4) (F 6) (F 10) (F 12) (F 14) h := by
  intro F h; kernel_rfl
noncomputable def q258_181 (C : YC) (lf : Nat) (r : K2) (x0 x3 x4 x6 x10 x12 x14 : O) (h : HW) : Rs :=
 q258_180 C lf (fun x0 x3 x4 x6 x10 x12 x14 x15 h => q258_176 C lf r x0 x3 x4 x6 x10 x12 x14 x15 h) x0 x3 x4 x6 x10 x12 x14 h
theorem q258_181_eq (C : YC) (lf : Nat) (r : K2) (KN : KF) (KE : KX) : ∀ F h, evX fx258 C lf [1, 1, 1, 1, 1] F h KN (fun F h => r (F 10) (F 11) h) KE = q258_181 C lf r (F 0) (F 3) (F 4) (F 6) (F 10) (F 12) (F 14) h := cSeq (a := subX fx258 [1, 1, 1, 1, 1, 0]) (b := subX fx258 [1, 1, 1, 1, 1, 1]) (by kernel_rfl) (B := (fun F h => q258_176 C lf r (F 0) (F 3) (F 4) (F 6) (F 10) (F 12) (F 14) (F 15) h)) (q258_176_eq C lf r KN KE) (q258_180_eq C lf (fun x0 x3 x4 x6 x10 x12 x14 x15 h => q258_176 C lf r x0 x3 x4 x6 x10 x12 x14 x15 h) (fun F h => r (F 10) (F 11) h) KE)
noncomputable def q258_196 (C : YC) (lf : Nat) (n : K7) (r : K2) (x0 x3 x4 x6 x10 x12 x14 : O) (h : HW) : Rs :=
 ob x12 fun a182 =>
 ob (fa 0 a182) fun y183 =>
 ob (ld1 y183 h) fun y184 =>
 ob (unE .not y184) fun y185 =>
 yIf y185
 (ob x0 fun a186 =>
 ob x6 fun a187 =>
 ob (ldN 5 a187 h) fun y188 =>
 bc (C (.fn 322) [a186, y188] h) fun y189 h189 =>
 ob (ext 0 y189) fun y190 =>
 ob (ext 1 y189) fun y191 =>
 ob (bin Tryz.prog .neq 3 y191 (.int .i64 0)) fun y192 =>
 yIf y192
 (ob (semBuild Tryz.prog 351 [] []) fun y193 =>
 ob x10 fun a194 =>
 ob (st 5 a194 y193 h189) fun h195 =>
 r x10 (some y191) h195)
 (n x0 x3 x4 x6 x10 x12 (some y190) h189))
 (n x0 x3 x4 x6 x10 x12 x14 h)
theorem q258_196_eq (C : YC) (lf : Nat) (n : K7) (r : K2) (KE : KX) : ∀ F h, evX fx258 C lf [1, 1, 1, 1, 0] F h (fun F h => n (F 0) (F 3) (F 4) (F 6) (F 10) (F 12) (F 14) h) (fun F h => r (F 10) (F 11) h) KE = q258_196 C lf n r (F 0) (F 3) (F 4) (F 6) (F 10) (F 12) (F 14) h := by
  intro F h; kernel_rfl
noncomputable def q258_197 (C : YC) (lf : Nat) (r : K2) (x0 x3 x4 x6 x10 x12 x14 : O) (h : HW) : Rs :=
 q258_196 C lf (fun x0 x3 x4 x6 x10 x12 x14 h => q258_181 C lf r x0 x3 x4 x6 x10 x12 x14 h) r x0 x3 x4 x6 x10 x12 x14 h
theorem q258_197_eq (C : YC) (lf : Nat) (r : K2) (KN : KF) (KE : KX) : ∀ F h, evX fx258 C lf [1, 1, 1, 1] F h KN (fun F h => r (F 10) (F 11) h) KE = q258_197 C lf r (F 0) (F 3) (F 4) (F 6) (F 10) (F 12) (F 14) h := cSeq (a := subX fx258 [1, 1, 1, 1, 0]) (b := subX fx258 [1, 1, 1, 1, 1]) (by kernel_rfl) (B := (fun F h => q258_181 C lf r (F 0) (F 3) (F 4) (F 6) (F 10) (F 12) (F 14) h)) (q258_181_eq C lf r KN KE) (q258_196_eq C lf (fun x0 x3 x4 x6 x10 x12 x14 h => q258_181 C lf r x0 x3 x4 x6 x10 x12 x14 h) r KE)
noncomputable def q258_198 (C : YC) (lf : Nat) (n : K7) (x0 x3 x4 x6 x10 x12 : O) (h : HW) : Rs :=
 n x0 x3 x4 x6 x10 x12 (some (.int .i64 1)) h
theorem q258_198_eq (C : YC) (lf : Nat) (n : K7) (KR : KF) (KE : KX) : ∀ F h, evX fx258 C lf [1, 1, 1, 0] F h (fun F h => n (F 0) (F 3) (F 4) (F 6) (F 10) (F 12) (F 14) h) KR KE = q258_198 C lf n (F 0) (F 3) (F 4) (F 6) (F 10) (F 12) h := by
  intro F h; kernel_rfl
noncomputable def q258_199 (C : YC) (lf : Nat) (r : K2) (x0 x3 x4 x6 x10 x12 : O) (h : HW) : Rs :=
 q258_198 C lf (fun x0 x3 x4 x6 x10 x12 x14 h => q258_197 C lf r x0 x3 x4 x6 x10 x12 x14 h) x0 x3 x4 x6 x10 x12 h
theorem q258_199_eq (C : YC) (lf : Nat) (r : K2) (KN : KF) (KE : KX) : ∀ F h, evX fx258 C lf [1, 1, 1] F h KN (fun F h => r (F 10) (F 11) h) KE = q258_199 C lf r (F 0) (F 3) (F 4) (F 6) (F 10) (F 12) h := cSeq (a := subX fx258 [1, 1, 1, 0]) (b := subX fx258 [1, 1, 1, 1]) (by kernel_rfl) (B := (fun F h => q258_197 C lf r (F 0) (F 3) (F 4) (F 6) (F 10) (F 12) (F 14) h)) (q258_197_eq C lf r KN KE) (q258_198_eq C lf (fun x0 x3 x4 x6 x10 x12 x14 h => q258_197 C lf r x0 x3 x4 x6 x10 x12 x14 h) (fun F h => r (F 10) (F 11) h) KE)
noncomputable def q258_206 (C : YC) (lf : Nat) (n : K6) (r : K2) (x0 x3 x4 x6 x10 x12 x13 : O) (h : HW) : Rs :=
 ob x13 fun a200 =>
 ob (bin Tryz.prog .neq 3 a200 (.int .i64 0)) fun y201 =>
 yIf y201
 (ob (semBuild Tryz.prog 351 [] []) fun y202 =>
 ob x13 fun a203 =>
 ob x10 fun a204 =>
 ob (st 5 a204 y202 h) fun h205 =>
 r x10 (some a203) h205)
 (n x0 x3 x4 x6 x10 x12 h)
theorem q258_206_eq (C : YC) (lf : Nat) (n : K6) (r : K2) (KE : KX) : ∀ F h, evX fx258 C lf [1, 1, 0] F h (fun F h => n (F 0) (F 3) (F 4) (F 6) (F 10) (F 12) h) (fun F h => r (F 10) (F 11) h) KE = q258_206 C lf n r (F 0) (F 3) (F 4) (F 6) (F 10) (F 12) (F 13) h := by
  intro F h; kernel_rfl
noncomputable def q258_207 (C : YC) (lf : Nat) (r : K2) (x0 x3 x4 x6 x10 x12 x13 : O) (h : HW) : Rs :=
 q258_206 C lf (fun x0 x3 x4 x6 x10 x12 h => q258_199 C lf r x0 x3 x4 x6 x10 x12 h) r x0 x3 x4 x6 x10 x12 x13 h
theorem q258_207_eq (C : YC) (lf : Nat) (r : K2) (KN : KF) (KE : KX) : ∀ F h, evX fx258 C lf [1, 1] F h KN (fun F h => r (F 10) (F 11) h) KE = q258_207 C lf r (F 0) (F 3) (F 4) (F 6) (F 10) (F 12) (F 13) h := cSeq (a := subX fx258 [1, 1, 0]) (b := subX fx258 [1, 1, 1]) (by kernel_rfl) (B := (fun F h => q258_199 C lf r (F 0) (F 3) (F 4) (F 6) (F 10) (F 12) h)) (q258_199_eq C lf r KN KE) (q258_206_eq C lf (fun x0 x3 x4 x6 x10 x12 h => q258_199 C lf r x0 x3 x4 x6 x10 x12 h) r KE)
noncomputable def q258_214 (C : YC) (lf : Nat) (n : K7) (x0 x2 x3 x4 x6 x10 : O) (h : HW) : Rs :=
 ob x2 fun a208 =>
 bc (C (.fn 301) [a208] h) fun y209 h209 =>
 ob (ext 0 y209) fun y210 =>
 ob (ext 1 y209) fun y211 =>
 b2 (yAl Tryz.prog 234 h209) fun y212 h212 =>
 ob (st 3 y212 y210 h212) fun h213 =>
 n x0 x3 x4 x6 x10 (some y212) (some y211) h213
theorem q258_214_eq (C : YC) (lf : Nat) (n : K7) (KR : KF) (KE : KX) : ∀ F h, evX fx258 C lf [1, 0] F h (fun F h => n (F 0) (F 3) (F 4) (F 6) (F 10) (F 12) (F 13) h) KR KE = q258_214 C lf n (F 0) (F 2) (F 3) (F 4) (F 6) (F 10) h := by
  intro F h; kernel_rfl
noncomputable def q258_215 (C : YC) (lf : Nat) (r : K2) (x0 x2 x3 x4 x6 x10 : O) (h : HW) : Rs :=
 q258_214 C lf (fun x0 x3 x4 x6 x10 x12 x13 h => q258_207 C lf r x0 x3 x4 x6 x10 x12 x13 h) x0 x2 x3 x4 x6 x10 h
theorem q258_215_eq (C : YC) (lf : Nat) (r : K2) (KN : KF) (KE : KX) : ∀ F h, evX fx258 C lf [1] F h KN (fun F h => r (F 10) (F 11) h) KE = q258_215 C lf r (F 0) (F 2) (F 3) (F 4) (F 6) (F 10) h := cSeq (a := subX fx258 [1, 0]) (b := subX fx258 [1, 1]) (by kernel_rfl) (B := (fun F h => q258_207 C lf r (F 0) (F 3) (F 4) (F 6) (F 10) (F 12) (F 13) h)) (q258_207_eq C lf r KN KE) (q258_214_eq C lf (fun x0 x3 x4 x6 x10 x12 x13 h => q258_207 C lf r x0 x3 x4 x6 x10 x12 x13 h) (fun F h => r (F 10) (F 11) h) KE)
noncomputable def q258_219 (C : YC) (lf : Nat) (n : K6) (x0 x1 x2 x3 x4 : O) (h : HW) : Rs :=
 ob x1 fun a216 =>
 b2 (ybx 46 a216 h) fun y217 h217 =>
 b2 (yAl Tryz.prog 351 h217) fun y218 h218 =>
 n x0 x2 x3 x4 (some y217) (some y218) h218
theorem q258_219_eq (C : YC) (lf : Nat) (n : K6) (KR : KF) (KE : KX) : ∀ F h, evX fx258 C lf [0] F h (fun F h => n (F 0) (F 2) (F 3) (F 4) (F 6) (F 10) h) KR KE = q258_219 C lf n (F 0) (F 1) (F 2) (F 3) (F 4) h := by
  intro F h; kernel_rfl
noncomputable def q258_220 (C : YC) (lf : Nat) (r : K2) (x0 x1 x2 x3 x4 : O) (h : HW) : Rs :=
 q258_219 C lf (fun x0 x2 x3 x4 x6 x10 h => q258_215 C lf r x0 x2 x3 x4 x6 x10 h) x0 x1 x2 x3 x4 h
theorem q258_220_eq (C : YC) (lf : Nat) (r : K2) (KN : KF) (KE : KX) : ∀ F h, evX fx258 C lf [] F h KN (fun F h => r (F 10) (F 11) h) KE = q258_220 C lf r (F 0) (F 1) (F 2) (F 3) (F 4) h := cSeq (a := subX fx258 [0]) (b := subX fx258 [1]) (by kernel_rfl) (B := (fun F h => q258_215 C lf r (F 0) (F 2) (F 3) (F 4) (F 6) (F 10) h)) (q258_215_eq C lf r KN KE) (q258_219_eq C lf (fun x0 x2 x3 x4 x6 x10 h => q258_215 C lf r x0 x2 x3 x4 x6 x10 h) (fun F h => r (F 10) (F 11) h) KE)
noncomputable def fs258 (C : YC) (lf : Nat) (a0 a1 a2 a3 a4 : SV) (h : HW) : Rs := q258_220 C lf ff258 (some a0) (some a1) (some a2) (some a3) (some a4) h
theorem fs258_eq (C : YC) (lf : Nat) (a0 a1 a2 a3 a4 : SV) (h : HW) : yFn Tryz.prog fx258 C lf [a0, a1, a2, a3, a4] h = fs258 C lf a0 a1 a2 a3 a4 h := fnX (K := (fun F h => ff258 (F 10) (F 11) h)) (by kernel_rfl) (((q258_220_eq C lf ff258 (fun F h => ff258 (F 10) (F 11) h) (fun _ _ _ => none)) _ h).trans (by kernel_rfl))
noncomputable def fy258 : YX Tryz.prog := Y5 fx258 fs258 fs258_eq (by kernel_rfl)

/-! FN 259 (*tinsel/tinselref06.FS).create -/
noncomputable def fx259 : XF Tryz.prog := ⟨259, Tryz.f259, fun r => bif Nat.beq r 7 then .ord [0, 1, 2, 6, 7, 8, 3, 9, 10, 11, 12, 4, 5, 13, 14, 15, 16, 17, 18, 19, 20] [(4, [12, 9])] else bif Nat.beq r 9 then .ord [0, 1, 2, 4, 5, 6, 10, 12, 14, 3, 7, 8, 9, 11, 13, 15, 16, 17, 18, 19, 20, 21, 22] [(16, [11, 7, 3])] else .text, Tryz.func259, by kernel_rfl, by kernel_rfl, by kernel_rfl, by kernel_rfl⟩
noncomputable def ff259 (x8 x9 : O) (h : HW) : Rs :=
 ob x8 fun a0 =>
 ob x9 fun a1 =>
 some (.ret (.tup [a0, a1]), h)
noncomputable def q259_82 (C : YC) (lf : Nat) (r : K2) (x0 x1 x2 x3 : O) (h : HW) : Rs :=
 ob x1 fun a2 =>
 b2 (ybx 46 a2 h) fun y3 h3 =>
 ob x2 fun a4 =>
 b2 (ybx 351 a4 h3) fun y5 h5 =>
 ob (fa 3 y5) fun y6 =>
 ob (ld1 y6 h5) fun y7 =>
 yIf y7
 (r (some (.int .i64 0)) (some (.int .i64 21)) h5)
 (ob x0 fun a8 =>
 ob (fa 0 y5) fun y9 =>
 ob (ld1 y9 h5) fun y10 =>
 bc (C (.fn 296) [a8, y10] h5) fun y11 h11 =>
 yIf y11
 (r (some (.int .i64 0)) (some (.int .i64 2)) h11)
 (ob x0 fun a12 =>
 ob (ldN 5 y3 h11) fun y13 =>
 ob (fa 0 y5) fun y14 =>
 ob (ld1 y14 h11) fun y15 =>
 bc (C (.fn 261) [a12, y13, y15, (.int .i64 2)] h11) fun y16 h16 =>
 ob (unE .not y16) fun y17 =>
 yIf y17
 (r (some (.int .i64 0)) (some (.int .i64 13)) h16)
 (ob x0 fun a18 =>
 ob (semNil a18) fun y19 =>
 ob (fa 0 y19) fun y20 =>
 ob x0 fun a21 =>
 ob (semNil a21) fun y22 =>
 ob (fa 0 y22) fun y23 =>
 ob (ld1 y20 h16) fun y24 =>
 ob (ld1 y23 h16) fun y25 =>
 ob (semNil y25) fun y26 =>
 ob (fa 2 y26) fun y27 =>
 ob (ld1 y27 h16) fun y28 =>
 bcn (C (.fn 297) [y24] h16) fun y29 h29 =>
 ck (chkH [(12, adrO (some y27)), (9, adrO (some y23)), (3, adrO (some y20))] h16 h29 [12, 9]) <|
 ob (lenE Tryz.prog 44 y29) fun y30 =>
 ob (bin Tryz.prog .eql 3 y30 y28) fun y31 =>
 bcn (gd false (some y31) (ob x0 fun a32 =>
 some (.ret a32, h29)) h29) fun y33 h33 =>
 bcn (gd false (some y31) (ob (fa 0 y5) fun y34 =>
 some (.ret y34, h33)) h33) fun y35 h35 =>
 bcn (gd false (some y31) (ob (ld1 y35 h35) fun y36 =>
 some (.ret y36, h35)) h35) fun y37 h37 =>
 bcn (gd false (some y31) (bcn (C (.fn 298) [y33, y37, (.int .i64 0)] h37) fun y38 h38 =>
 some (.ret y38, h38)) h37) fun y39 h39 =>
 bcn (gd false (some y31) (ob (unE .not y39) fun y40 =>
 some (.ret y40, h39)) h39) fun y41 h41 =>
 ob (ypk y31 (.bool true) y41) fun y42 =>
 yIf y42
 (r (some (.int .i64 0)) (some (.int .i64 28)) h41)
 (ob x0 fun a43 =>
 ob (semNil a43) fun y44 =>
 ob (fa 0 y44) fun y45 =>
 ob x3 fun a46 =>
 ob (bin Tryz.prog .and 30 a46 (.int .i64 4095)) fun y47 =>
 ob (fa 3 y3) fun y48 =>
 ob (fa 0 y3) fun y49 =>
 ob x0 fun a50 =>
 ob (fa 0 y5) fun y51 =>
 ob (ld1 y45 h41) fun y52 =>
 ob (ld1 y48 h41) fun y53 =>
 ob (bin Tryz.prog .andNot 30 y47 y53) fun y54 =>
 ob (bin Tryz.prog .or 30 (.int .i64 32768) y54) fun y55 =>
 ob (ld1 y49 h41) fun y56 =>
 ob (ldN 5 y3 h41) fun y57 =>
 ob (ld1 y51 h41) fun y58 =>
 bcn (C (.fn 299) [a50, y57, y58] h41) fun y59 h59 =>
 ck (chkH [(15, adrO (some y51)), (13, adrO (some y3)), (11, adrO (some y49)), (7, adrO (some y48)), (3, adrO (some y45))] h41 h59 [11, 7, 3]) <|
 bcn (C (.fn 227) [y52, y55, y56, y59] h59) fun y60 h60 =>
 ob (ext 0 y60) fun y61 =>
 ob (ext 1 y60) fun y62 =>
 ob x0 fun a63 =>
 ob (semNil a63) fun y64 =>
 ob (fa 0 y64) fun y65 =>
 ob (ld1 y65 h60) fun y66 =>
 ob (fa 0 y5) fun y67 =>
 ob (ld1 y67 h60) fun y68 =>
 ob (fa 2 y5) fun y69 =>
 ob (ld1 y69 h60) fun y70 =>
 bcn (C (.fn 300) [y66, y68, y70, y61] h60) fun y71 h71 =>
 ob x0 fun a72 =>
 ob (semNil a72) fun y73 =>
 ob (fa 0 y73) fun y74 =>
 ob (ld1 y74 h71) fun y75 =>
 bc (C (.fn 229) [y75, y61, (.int .i64 1)] h71) fun y76 h76 =>
 ob x0 fun a77 =>
 ob (semNil a77) fun y78 =>
 ob (fa 0 y78) fun y79 =>
 ob (ld1 y79 h76) fun y80 =>
 bc (C (.fn 263) [y80, y61] h76) fun y81 h81 =>
 r (some y61) (some (.int .i64 0)) h81))))
theorem q259_82_eq (C : YC) (lf : Nat) (r : K2) (KN : KF) (KE : KX) : ∀ F h, evX fx259 C lf [] F h KN (fun F h => r (F 8) (F 9) h) KE = q259_82 C lf r (F 0) (F 1) (F 2) (F 3) h := by
  intro F h; kernel_rfl
noncomputable def fs259 (C : YC) (lf : Nat) (a0 a1 a2 a3 : SV) (h : HW) : Rs := q259_82 C lf ff259 (some a0) (some a1) (some a2) (some a3) h
theorem fs259_eq (C : YC) (lf : Nat) (a0 a1 a2 a3 : SV) (h : HW) : yFn Tryz.prog fx259 C lf [a0, a1, a2, a3] h = fs259 C lf a0 a1 a2 a3 h := fnX (K := (fun F h => ff259 (F 8) (F 9) h)) (by kernel_rfl) (((q259_82_eq C lf ff259 (fun F h => ff259 (F 8) (F 9) h) (fun _ _ _ => none)) _ h).trans (by kernel_rfl))
noncomputable def fy259 : YX Tryz.prog := Y4 fx259 fs259 fs259_eq (by kernel_rfl)

/-! FN 260 (*tinsel/tinselref06.FS).Kind -/
noncomputable def fx260 : XF Tryz.prog := ⟨260, Tryz.f260, fun _ => .text, Tryz.func260, by kernel_rfl, by kernel_rfl, by kernel_rfl, by kernel_rfl⟩
noncomputable def ff260 (x4 : O) (h : HW) : Rs :=
 ob x4 fun a0 =>
 some (.ret a0, h)
noncomputable def q260_14 (C : YC) (lf : Nat) (r : K1) (x0 x1 : O) (h : HW) : Rs :=
 ob x0 fun a1 =>
 ob (semNil a1) fun y2 =>
 ob (fa 0 y2) fun y3 =>
 ob (ld1 y3 h) fun y4 =>
 ob (semNil y4) fun y5 =>
 ob (fa 4 y5) fun y6 =>
 ob (ld1 y6 h) fun y7 =>
 ob x1 fun a8 =>
 ob (ixS 308 y7 a8) fun y9 =>
 ob (fa 1 y9) fun y10 =>
 ob (fa 6 y10) fun y11 =>
 ob (ld1 y11 h) fun y12 =>
 ob (bin Tryz.prog .and 30 y12 (.int .i64 61440)) fun y13 =>
 r (some y13) h
theorem q260_14_eq (C : YC) (lf : Nat) (r : K1) (KN : KF) (KE : KX) : ∀ F h, evX fx260 C lf [] F h KN (fun F h => r (F 4) h) KE = q260_14 C lf r (F 0) (F 1) h := by
  intro F h; kernel_rfl
noncomputable def fs260 (C : YC) (lf : Nat) (a0 a1 : SV) (h : HW) : Rs := q260_14 C lf ff260 (some a0) (some a1) h
theorem fs260_eq (C : YC) (lf : Nat) (a0 a1 : SV) (h : HW) : yFn Tryz.prog fx260 C lf [a0, a1] h = fs260 C lf a0 a1 h := fnX (K := (fun F h => ff260 (F 4) h)) (by kernel_rfl) (((q260_14_eq C lf ff260 (fun F h => ff260 (F 4) h) (fun _ _ _ => none)) _ h).trans (by kernel_rfl))
noncomputable def fy260 : YX Tryz.prog := Y2 fx260 fs260 fs260_eq (by kernel_rfl)

/-! FN 261 (*tinsel/tinselref06.FS).may -/
noncomputable def fx261 : XF Tryz.prog := ⟨261, Tryz.f261, fun _ => .text, Tryz.func261, by kernel_rfl, by kernel_rfl, by kernel_rfl, by kernel_rfl⟩
noncomputable def ff261 (x8 : O) (h : HW) : Rs :=
 ob x8 fun a0 =>
 some (.ret a0, h)
noncomputable def q261_25 (C : YC) (lf : Nat) (r : K1) (x0 x1 x2 x3 : O) (h : HW) : Rs :=
 ob x1 fun a1 =>
 b2 (ybx 46 a1 h) fun y2 h2 =>
 ob x0 fun a3 =>
 ob (semNil a3) fun y4 =>
 ob (fa 0 y4) fun y5 =>
 ob (ld1 y5 h2) fun y6 =>
 ob (semNil y6) fun y7 =>
 ob (fa 4 y7) fun y8 =>
 ob (ld1 y8 h2) fun y9 =>
 ob x2 fun a10 =>
 ob (ixS 308 y9 a10) fun y11 =>
 ob (fa 1 y11) fun y12 =>
 ob (ldN 10 y12 h2) fun y13 =>
 b2 (yAl Tryz.prog 58 h2) fun y14 h14 =>
 ob (st 10 y14 y13 h14) fun h15 =>
 ob (fa 6 y14) fun y16 =>
 ob (ld1 y16 h15) fun y17 =>
 ob (fa 2 y14) fun y18 =>
 ob (ld1 y18 h15) fun y19 =>
 ob (fa 3 y14) fun y20 =>
 ob (ld1 y20 h15) fun y21 =>
 ob (ldN 5 y2 h15) fun y22 =>
 ob x3 fun a23 =>
 bc (C (.fn 325) [y17, y19, y21, y22, a23] h15) fun y24 h24 =>
 r (some y24) h24
theorem q261_25_eq (C : YC) (lf : Nat) (r : K1) (KN : KF) (KE : KX) : ∀ F h, evX fx261 C lf [] F h KN (fun F h => r (F 8) h) KE = q261_25 C lf r (F 0) (F 1) (F 2) (F 3) h := by
  intro F h; kernel_rfl
noncomputable def fs261 (C : YC) (lf : Nat) (a0 a1 a2 a3 : SV) (h : HW) : Rs := q261_25 C lf ff261 (some a0) (some a1) (some a2) (some a3) h
theorem fs261_eq (C : YC) (lf : Nat) (a0 a1 a2 a3 : SV) (h : HW) : yFn Tryz.prog fx261 C lf [a0, a1, a2, a3] h = fs261 C lf a0 a1 a2 a3 h := fnX (K := (fun F h => ff261 (F 8) h)) (by kernel_rfl) (((q261_25_eq C lf ff261 (fun F h => ff261 (F 8) h) (fun _ _ _ => none)) _ h).trans (by kernel_rfl))
noncomputable def fy261 : YX Tryz.prog := Y4 fx261 fs261 fs261_eq (by kernel_rfl)

/-! FN 263 (*tinsel/tinselref02.Table).Hold -/
noncomputable def fx263 : XF Tryz.prog := ⟨263, Tryz.f263, fun _ => .text, Tryz.func263, by kernel_rfl, by kernel_rfl, by kernel_rfl, by kernel_rfl⟩
noncomputable def ff263 (x4 : O) (h : HW) : Rs :=
 ob x4 fun a0 =>
 some (.ret a0, h)
noncomputable def q263_17 (C : YC) (lf : Nat) (r : K1) (x0 x1 : O) (h : HW) : Rs :=
 ob x0 fun a1 =>
 ob x1 fun a2 =>
 bc (C (.fn 292) [a1, a2] h) fun y3 h3 =>
 ob (unE .not y3) fun y4 =>
 yIf y4
 (r (some (.int .i64 2)) h3)
 (ob x0 fun a5 =>
 ob (semNil a5) fun y6 =>
 ob (fa 4 y6) fun y7 =>
 ob (ld1 y7 h3) fun y8 =>
 ob x1 fun a9 =>
 ob (ixS 308 y8 a9) fun y10 =>
 ob (fa 11 y10) fun y11 =>
 ob (ld1 y11 h3) fun y12 =>
 ob (bin Tryz.prog .add 3 y12 (.int .i64 1)) fun y13 =>
 ob (ixS 308 y8 a9) fun y14 =>
 ob (fa 11 y14) fun y15 =>
 ob (st 1 y15 y13 h3) fun h16 =>
 r (some (.int .i64 0)) h16)
theorem q263_17_eq (C : YC) (lf : Nat) (r : K1) (KN : KF) (KE : KX) : ∀ F h, evX fx263 C lf [] F h KN (fun F h => r (F 4) h) KE = q263_17 C lf r (F 0) (F 1) h := by
  intro F h; kernel_rfl
noncomputable def fs263 (C : YC) (lf : Nat) (a0 a1 : SV) (h : HW) : Rs := q263_17 C lf ff263 (some a0) (some a1) h
theorem fs263_eq (C : YC) (lf : Nat) (a0 a1 : SV) (h : HW) : yFn Tryz.prog fx263 C lf [a0, a1] h = fs263 C lf a0 a1 h := fnX (K := (fun F h => ff263 (F 4) h)) (by kernel_rfl) (((q263_17_eq C lf ff263 (fun F h => ff263 (F 4) h) (fun _ _ _ => none)) _ h).trans (by kernel_rfl))
noncomputable def fy263 : YX Tryz.prog := Y2 fx263 fs263 fs263_eq (by kernel_rfl)

/-! FN 264 (*tinsel/tree.FS).file -/
noncomputable def fx264 : XF Tryz.prog := ⟨264, Tryz.f264, fun _ => .text, Tryz.func264, by kernel_rfl, by kernel_rfl, by kernel_rfl, by kernel_rfl⟩
noncomputable def ff264 (x4 : O) (h : HW) : Rs :=
 ob x4 fun a0 =>
 some (.ret a0, h)
noncomputable def q264_17 (C : YC) (lf : Nat) (r : K1) (x0 x1 : O) (h : HW) : Rs :=
 ob x0 fun a1 =>
 ob x1 fun a2 =>
 bc (C (.fn 118) [a1, a2] h) fun y3 h3 =>
 ob (ext 0 y3) fun y4 =>
 ob (ext 1 y3) fun y5 =>
 b2 (yAl Tryz.prog 58 h3) fun y6 h6 =>
 ob (st 10 y6 y4 h6) fun h7 =>
 ob (bin Tryz.prog .neq 23 y5 (.int .i64 0)) fun y8 =>
 yIf y8
 (r (some y5) h7)
 (ob (fa 6 y6) fun y9 =>
 ob (ld1 y9 h7) fun y10 =>
 ob (bin Tryz.prog .and 30 y10 (.int .i64 61440)) fun y11 =>
 ob (bin Tryz.prog .eql 30 y11 (.int .i64 16384)) fun y12 =>
 yIf y12
 (r (some (.int .i64 21)) h7)
 (ob (fa 6 y6) fun y13 =>
 ob (ld1 y13 h7) fun y14 =>
 ob (bin Tryz.prog .and 30 y14 (.int .i64 61440)) fun y15 =>
 ob (bin Tryz.prog .eql 30 y15 (.int .i64 40960)) fun y16 =>
 yIf y16
 (r (some (.int .i64 22)) h7)
 (r (some (.int .i64 0)) h7)))
theorem q264_17_eq (C : YC) (lf : Nat) (r : K1) (KN : KF) (KE : KX) : ∀ F h, evX fx264 C lf [] F h KN (fun F h => r (F 4) h) KE = q264_17 C lf r (F 0) (F 1) h := by
  intro F h; kernel_rfl
noncomputable def fs264 (C : YC) (lf : Nat) (a0 a1 : SV) (h : HW) : Rs := q264_17 C lf ff264 (some a0) (some a1) h
theorem fs264_eq (C : YC) (lf : Nat) (a0 a1 : SV) (h : HW) : yFn Tryz.prog fx264 C lf [a0, a1] h = fs264 C lf a0 a1 h := fnX (K := (fun F h => ff264 (F 4) h)) (by kernel_rfl) (((q264_17_eq C lf ff264 (fun F h => ff264 (F 4) h) (fun _ _ _ => none)) _ h).trans (by kernel_rfl))
noncomputable def fy264 : YX Tryz.prog := Y2 fx264 fs264 fs264_eq (by kernel_rfl)

/-! FN 265 (*tinsel/tinselref06.FS).plain -/
noncomputable def fx265 : XF Tryz.prog := ⟨265, Tryz.f265, fun _ => .text, Tryz.func265, by kernel_rfl, by kernel_rfl, by kernel_rfl, by kernel_rfl⟩
noncomputable def ff265 (x4 : O) (h : HW) : Rs :=
 ob x4 fun a0 =>
 some (.ret a0, h)
noncomputable def q265_16 (C : YC) (lf : Nat) (r : K1) (x0 x1 : O) (h : HW) : Rs :=
 ob x0 fun a1 =>
 ob (semNil a1) fun y2 =>
 ob (fa 0 y2) fun y3 =>
 ob (ld1 y3 h) fun y4 =>
 ob x1 fun a5 =>
 bc (C (.fn 292) [y4, a5] h) fun y6 h6 =>
 ob (unE .not y6) fun y7 =>
 yIf y7
 (r (some (.int .i64 2)) h6)
 (ob x0 fun a8 =>
 ob x1 fun a9 =>
 bc (C (.fn 260) [a8, a9] h6) fun y10 h10 =>
 ob (bin Tryz.prog .eql 30 y10 (.int .i64 16384)) fun y11 =>
 yIf y11
 (r (some (.int .i64 21)) h10)
 (ob x0 fun a12 =>
 ob x1 fun a13 =>
 bc (C (.fn 260) [a12, a13] h10) fun y14 h14 =>
 ob (bin Tryz.prog .neq 30 y14 (.int .i64 32768)) fun y15 =>
 yIf y15
 (r (some (.int .i64 22)) h14)
 (r (some (.int .i64 0)) h14)))
theorem q265_16_eq (C : YC) (lf : Nat) (r : K1) (KN : KF) (KE : KX) : ∀ F h, evX fx265 C lf [] F h KN (fun F h => r (F 4) h) KE = q265_16 C lf r (F 0) (F 1) h := by
  intro F h; kernel_rfl
noncomputable def fs265 (C : YC) (lf : Nat) (a0 a1 : SV) (h : HW) : Rs := q265_16 C lf ff265 (some a0) (some a1) h
theorem fs265_eq (C : YC) (lf : Nat) (a0 a1 : SV) (h : HW) : yFn Tryz.prog fx265 C lf [a0, a1] h = fs265 C lf a0 a1 h := fnX (K := (fun F h => ff265 (F 4) h)) (by kernel_rfl) (((q265_16_eq C lf ff265 (fun F h => ff265 (F 4) h) (fun _ _ _ => none)) _ h).trans (by kernel_rfl))
noncomputable def fy265 : YX Tryz.prog := Y2 fx265 fs265 fs265_eq (by kernel_rfl)

/-! FN 266 (*tinsel/tinselref02.Table).Write -/
noncomputable def fx266 : XF Tryz.prog := ⟨266, Tryz.f266, fun _ => .text, Tryz.func266, by kernel_rfl, by kernel_rfl, by kernel_rfl, by kernel_rfl⟩
noncomputable def ff266 (x8 x9 : O) (h : HW) : Rs :=
 ob x8 fun a0 =>
 ob x9 fun a1 =>
 some (.ret (.tup [a0, a1]), h)
noncomputable def q266_21 (C : YC) (lf : Nat) (r : K2) (x0 x10 x11 : O) (h : HW) : Rs :=
 ob x10 fun a2 =>
 ob x10 fun a3 =>
 ob x0 fun a4 =>
 ob (semNil a4) fun y5 =>
 ob (fa 3 y5) fun y6 =>
 ob (ld1 y6 h) fun y7 =>
 ob x0 fun a8 =>
 ob (semNil a8) fun y9 =>
 ob (fa 3 y9) fun y10 =>
 ob (ld1 y10 h) fun y11 =>
 ob (semNil a2) fun y12 =>
 ob (fa 1 y12) fun y13 =>
 ob (fa 8 y13) fun y14 =>
 ob (st 1 y14 y7 h) fun h15 =>
 ob (semNil a3) fun y16 =>
 ob (fa 1 y16) fun y17 =>
 ob (fa 9 y17) fun y18 =>
 ob (st 1 y18 y11 h15) fun h19 =>
 ob x11 fun a20 =>
 r (some a20) (some (.int .i64 0)) h19
theorem q266_21_eq (C : YC) (lf : Nat) (r : K2) (KN : KF) (KE : KX) : ∀ F h, evX fx266 C lf [1, 1, 1, 1, 1, 1, 1, 1, 1, 1] F h KN (fun F h => r (F 8) (F 9) h) KE = q266_21 C lf r (F 0) (F 10) (F 11) h := by
  intro F h; kernel_rfl
noncomputable def q266_39 (C : YC) (lf : Nat) (n : K3) (x0 x2 x10 x11 : O) (h : HW) : Rs :=
 ob x2 fun a22 =>
 ob x11 fun a23 =>
 ob (bin Tryz.prog .add 3 a22 a23) fun y24 =>
 ob x10 fun a25 =>
 ob (semNil a25) fun y26 =>
 ob (fa 1 y26) fun y27 =>
 ob (fa 4 y27) fun y28 =>
 ob (ld1 y28 h) fun y29 =>
 ob (bin Tryz.prog .gtr 3 y24 y29) fun y30 =>
 yIf y30
 (ob x10 fun a31 =>
 ob x2 fun a32 =>
 ob x11 fun a33 =>
 ob (bin Tryz.prog .add 3 a32 a33) fun y34 =>
 ob (semNil a31) fun y35 =>
 ob (fa 1 y35) fun y36 =>
 ob (fa 4 y36) fun y37 =>
 ob (st 1 y37 y34 h) fun h38 =>
 n x0 x10 x11 h38)
 (n x0 x10 x11 h)
theorem q266_39_eq (C : YC) (lf : Nat) (n : K3) (KR : KF) (KE : KX) : ∀ F h, evX fx266 C lf [1, 1, 1, 1, 1, 1, 1, 1, 1, 0] F h (fun F h => n (F 0) (F 10) (F 11) h) KR KE = q266_39 C lf n (F 0) (F 2) (F 10) (F 11) h := by
  intro F h; kernel_rfl
noncomputable def q266_40 (C : YC) (lf : Nat) (r : K2) (x0 x2 x10 x11 : O) (h : HW) : Rs :=
 q266_39 C lf (fun x0 x10 x11 h => q266_21 C lf r x0 x10 x11 h) x0 x2 x10 x11 h
theorem q266_40_eq (C : YC) (lf : Nat) (r : K2) (KN : KF) (KE : KX) : ∀ F h, evX fx266 C lf [1, 1, 1, 1, 1, 1, 1, 1, 1] F h KN (fun F h => r (F 8) (F 9) h) KE = q266_40 C lf r (F 0) (F 2) (F 10) (F 11) h := cSeq (a := subX fx266 [1, 1, 1, 1, 1, 1, 1, 1, 1, 0]) (b := subX fx266 [1, 1, 1, 1, 1, 1, 1, 1, 1, 1]) (by kernel_rfl) (B := (fun F h => q266_21 C lf r (F 0) (F 10) (F 11) h)) (q266_21_eq C lf r KN KE) (q266_39_eq C lf (fun x0 x10 x11 h => q266_21 C lf r x0 x10 x11 h) (fun F h => r (F 8) (F 9) h) KE)
noncomputable def q266_43 (C : YC) (lf : Nat) (n : K4) (r : K2) (x0 x2 x10 x11 : O) (h : HW) : Rs :=
 ob x11 fun a41 =>
 ob (bin Tryz.prog .eql 3 a41 (.int .i64 0)) fun y42 =>
 yIf y42
 (r (some (.int .i64 0)) (some (.int .i64 28)) h)
 (n x0 x2 x10 x11 h)
theorem q266_43_eq (C : YC) (lf : Nat) (n : K4) (r : K2) (KE : KX) : ∀ F h, evX fx266 C lf [1, 1, 1, 1, 1, 1, 1, 1, 0] F h (fun F h => n (F 0) (F 2) (F 10) (F 11) h) (fun F h => r (F 8) (F 9) h) KE = q266_43 C lf n r (F 0) (F 2) (F 10) (F 11) h := by
  intro F h; kernel_rfl
noncomputable def q266_44 (C : YC) (lf : Nat) (r : K2) (x0 x2 x10 x11 : O) (h : HW) : Rs :=
 q266_43 C lf (fun x0 x2 x10 x11 h => q266_40 C lf r x0 x2 x10 x11 h) r x0 x2 x10 x11 h
theorem q266_44_eq (C : YC) (lf : Nat) (r : K2) (KN : KF) (KE : KX) : ∀ F h, evX fx266 C lf [1, 1, 1, 1, 1, 1, 1, 1] F h KN (fun F h => r (F 8) (F 9) h) KE = q266_44 C lf r (F 0) (F 2) (F 10) (F 11) h := cSeq (a := subX fx266 [1, 1, 1, 1, 1, 1, 1, 1, 0]) (b := subX fx266 [1, 1, 1, 1, 1, 1, 1, 1, 1]) (by kernel_rfl) (B := (fun F h => q266_40 C lf r (F 0) (F 2) (F 10) (F 11) h)) (q266_40_eq C lf r KN KE) (q266_43_eq C lf (fun x0 x2 x10 x11 h => q266_40 C lf r x0 x2 x10 x11 h) r KE)
noncomputable def q266_96 (C : YC) (lf : Nat) (n : K6) (e0 : K4) (x0 x1 x2 x3 x10 x11 : O) (h : HW) : Rs :=
 ob x11 fun a46 =>
 ob x3 fun a47 =>
 ob (lenE Tryz.prog 31 a47) fun y48 =>
 ob (bin Tryz.prog .lss 3 a46 y48) fun y49 =>
 bc (gd true (some y49) (ob x2 fun a50 =>
 some (.ret a50, h)) h) fun y51 h51 =>
 bc (gd true (some y49) (ob x11 fun a52 =>
 some (.ret a52, h51)) h51) fun y53 h53 =>
 bc (gd true (some y49) (ob (bin Tryz.prog .add 3 y51 y53) fun y54 =>
 some (.ret y54, h53)) h53) fun y55 h55 =>
 bc (gd true (some y49) (ob (bin Tryz.prog .lss 3 y55 (.int .i64 17792)) fun y56 =>
 some (.ret y56, h55)) h55) fun y57 h57 =>
 ob (ypk y49 y57 (.bool false)) fun y58 =>
 yIf y58
 (ob x0 fun a59 =>
 ob x1 fun a60 =>
 ob x2 fun a61 =>
 ob x11 fun a62 =>
 ob (bin Tryz.prog .add 3 a61 a62) fun y63 =>
 ob (bin Tryz.prog .quo 3 y63 (.int .i64 64)) fun y64 =>
 bc (C (.fn 327) [a59, a60, y64] h57) fun y65 h65 =>
 ob (unE .not y65) fun y66 =>
 yIf y66
 (e0 x0 x2 x10 x11 h65)
 (ob x10 fun a67 =>
 ob x2 fun a68 =>
 ob x11 fun a69 =>
 ob (bin Tryz.prog .add 3 a68 a69) fun y70 =>
 ob (bin Tryz.prog .quo 3 y70 (.int .i64 64)) fun y71 =>
 ob (semNil a67) fun y72 =>
 ob (fa 12 y72) fun y73 =>
 ob (ixA 278 1 y73 y71) fun y74 =>
 ob (ld1 y74 h65) fun y75 =>
 ob (bin Tryz.prog .sub 3 y75 (.int .i64 1)) fun y76 =>
 ob x0 fun a77 =>
 ob (semNil a77) fun y78 =>
 ob (fa 0 y78) fun y79 =>
 ob (fa 1 y79) fun y80 =>
 ob (ld1 y80 h65) fun y81 =>
 ob (ixS 1 y81 y76) fun y82 =>
 ob (ld1 y82 h65) fun y83 =>
 ob x2 fun a84 =>
 ob x11 fun a85 =>
 ob (bin Tryz.prog .add 3 a84 a85) fun y86 =>
 ob (bin Tryz.prog .rem 3 y86 (.int .i64 64)) fun y87 =>
 ob x3 fun a88 =>
 ob x11 fun a89 =>
 ob (ixS 1 a88 a89) fun y90 =>
 ob (ld1 y90 h65) fun y91 =>
 ob (ixS 1 y83 y87) fun y92 =>
 ob (st 1 y92 y91 h65) fun h93 =>
 ob x11 fun a94 =>
 ob (bin Tryz.prog .add 3 a94 (.int .i64 1)) fun y95 =>
 n x0 x1 x2 x3 x10 (some y95) h93))
 (e0 x0 x2 x10 x11 h57)
theorem q266_96_eq (C : YC) (lf : Nat) (n : K6) (e0 : K4) (KR : KF) (KE : KX) : ∀ F h, evX fx266 C lf [1, 1, 1, 1, 1, 1, 1, 0, 0, 0] F h (fun F h => n (F 0) (F 1) (F 2) (F 3) (F 10) (F 11) h) KR (bk 0 (fun F h => e0 (F 0) (F 2) (F 10) (F 11) h) KE) = q266_96 C lf n e0 (F 0) (F 1) (F 2) (F 3) (F 10) (F 11) h := by
  intro F h; kernel_rfl
noncomputable def l266_45 (C : YC) (lf : Nat) (e0 : K4) (k : O × O × O × O × O × O → HW → Rs) (s : O × O × O × O × O × O) (h : HW) : Rs :=
 q266_96 C lf (fun x0 x1 x2 x3 x10 x11 h => k (x0, x1, x2, x3, x10, x11) h) e0 s.1 s.2.1 s.2.2.1 s.2.2.2.1 s.2.2.2.2.1 s.2.2.2.2.2 h
noncomputable def q266_97 (C : YC) (lf : Nat) (r : K2) (x0 x1 x2 x3 x10 x11 : O) (h : HW) : Rs :=
 lp (l266_45 C lf (fun x0 x2 x10 x11 h => q266_44 C lf r x0 x2 x10 x11 h)) lf (x0, x1, x2, x3, x10, x11) h
theorem q266_97_eq (C : YC) (lf : Nat) (r : K2) (KN : KF) (KE : KX) : ∀ F h, evX fx266 C lf [1, 1, 1, 1, 1, 1, 1] F h KN (fun F h => r (F 8) (F 9) h) KE = q266_97 C lf r (F 0) (F 1) (F 2) (F 3) (F 10) (F 11) h := cSeq (a := subX fx266 [1, 1, 1, 1, 1, 1, 1, 0]) (b := subX fx266 [1, 1, 1, 1, 1, 1, 1, 1]) (by kernel_rfl) (B := (fun F h => q266_44 C lf r (F 0) (F 2) (F 10) (F 11) h)) (q266_44_eq C lf r KN KE) (cBlock (id := 0) (a := subX fx266 [1, 1, 1, 1, 1, 1, 1, 0, 0]) (by kernel_rfl) (cLoop (a := subX fx266 [1, 1, 1, 1, 1, 1, 1, 0, 0, 0]) (g := fun F => (F 0, F 1, F 2, F 3, F 10, F 11)) (body := l266_45 C lf (fun x0 x2 x10 x11 h => q266_44 C lf r x0 x2 x10 x11 h)) (by kernel_rfl) (fun k => (q266_96_eq C lf (fun x0 x1 x2 x3 x10 x11 h => k (x0, x1, x2, x3, x10, x11) h) (fun x0 x2 x10 x11 h => q266_44 C lf r x0 x2 x10 x11 h) (fun F h => r (F 8) (F 9) h) KE))))
noncomputable def q266_98 (C : YC) (lf : Nat) (n : K6) (x0 x1 x2 x3 x10 : O) (h : HW) : Rs :=
 n x0 x1 x2 x3 x10 (some (.int .i64 0)) h
theorem q266_98_eq (C : YC) (lf : Nat) (n : K6) (KR : KF) (KE : KX) : ∀ F h, evX fx266 C lf [1, 1, 1, 1, 1, 1, 0] F h (fun F h => n (F 0) (F 1) (F 2) (F 3) (F 10) (F 11) h) KR KE = q266_98 C lf n (F 0) (F 1) (F 2) (F 3) (F 10) h := by
  intro F h; kernel_rfl
noncomputable def q266_99 (C : YC) (lf : Nat) (r : K2) (x0 x1 x2 x3 x10 : O) (h : HW) : Rs :=
 q266_98 C lf (fun x0 x1 x2 x3 x10 x11 h => q266_97 C lf r x0 x1 x2 x3 x10 x11 h) x0 x1 x2 x3 x10 h
theorem q266_99_eq (C : YC) (lf : Nat) (r : K2) (KN : KF) (KE : KX) : ∀ F h, evX fx266 C lf [1, 1, 1, 1, 1, 1] F h KN (fun F h => r (F 8) (F 9) h) KE = q266_99 C lf r (F 0) (F 1) (F 2) (F 3) (F 10) h := cSeq (a := subX fx266 [1, 1, 1, 1, 1, 1, 0]) (b := subX fx266 [1, 1, 1, 1, 1, 1, 1]) (by kernel_rfl) (B := (fun F h => q266_97 C lf r (F 0) (F 1) (F 2) (F 3) (F 10) (F 11) h)) (q266_97_eq C lf r KN KE) (q266_98_eq C lf (fun x0 x1 x2 x3 x10 x11 h => q266_97 C lf r x0 x1 x2 x3 x10 x11 h) (fun F h => r (F 8) (F 9) h) KE)
noncomputable def q266_106 (C : YC) (lf : Nat) (n : K5) (x0 x1 x2 x3 : O) (h : HW) : Rs :=
 ob x0 fun a100 =>
 ob (semNil a100) fun y101 =>
 ob (fa 4 y101) fun y102 =>
 ob (ld1 y102 h) fun y103 =>
 ob x1 fun a104 =>
 ob (ixS 308 y103 a104) fun y105 =>
 n x0 x1 x2 x3 (some y105) h
theorem q266_106_eq (C : YC) (lf : Nat) (n : K5) (KR : KF) (KE : KX) : ∀ F h, evX fx266 C lf [1, 1, 1, 1, 1, 0] F h (fun F h => n (F 0) (F 1) (F 2) (F 3) (F 10) h) KR KE = q266_106 C lf n (F 0) (F 1) (F 2) (F 3) h := by
  intro F h; kernel_rfl
noncomputable def q266_107 (C : YC) (lf : Nat) (r : K2) (x0 x1 x2 x3 : O) (h : HW) : Rs :=
 q266_106 C lf (fun x0 x1 x2 x3 x10 h => q266_99 C lf r x0 x1 x2 x3 x10 h) x0 x1 x2 x3 h
theorem q266_107_eq (C : YC) (lf : Nat) (r : K2) (KN : KF) (KE : KX) : ∀ F h, evX fx266 C lf [1, 1, 1, 1, 1] F h KN (fun F h => r (F 8) (F 9) h) KE = q266_107 C lf r (F 0) (F 1) (F 2) (F 3) h := cSeq (a := subX fx266 [1, 1, 1, 1, 1, 0]) (b := subX fx266 [1, 1, 1, 1, 1, 1]) (by kernel_rfl) (B := (fun F h => q266_99 C lf r (F 0) (F 1) (F 2) (F 3) (F 10) h)) (q266_99_eq C lf r KN KE) (q266_106_eq C lf (fun x0 x1 x2 x3 x10 h => q266_99 C lf r x0 x1 x2 x3 x10 h) (fun F h => r (F 8) (F 9) h) KE)
noncomputable def q266_110 (C : YC) (lf : Nat) (n : K4) (r : K2) (x0 x1 x2 x3 : O) (h : HW) : Rs :=
 ob x2 fun a108 =>
 ob (bin Tryz.prog .geq 3 a108 (.int .i64 17792)) fun y109 =>
 yIf y109
 (r (some (.int .i64 0)) (some (.int .i64 27)) h)
 (n x0 x1 x2 x3 h)
theorem q266_110_eq (C : YC) (lf : Nat) (n : K4) (r : K2) (KE : KX) : ∀ F h, evX fx266 C lf [1, 1, 1, 1, 0] F h (fun F h => n (F 0) (F 1) (F 2) (F 3) h) (fun F h => r (F 8) (F 9) h) KE = q266_110 C lf n r (F 0) (F 1) (F 2) (F 3) h := by
  intro F h; kernel_rfl
noncomputable def q266_111 (C : YC) (lf : Nat) (r : K2) (x0 x1 x2 x3 : O) (h : HW) : Rs :=
 q266_110 C lf (fun x0 x1 x2 x3 h => q266_107 C lf r x0 x1 x2 x3 h) r x0 x1 x2 x3 h
theorem q266_111_eq (C : YC) (lf : Nat) (r : K2) (KN : KF) (KE : KX) : ∀ F h, evX fx266 C lf [1, 1, 1, 1] F h KN (fun F h => r (F 8) (F 9) h) KE = q266_111 C lf r (F 0) (F 1) (F 2) (F 3) h := cSeq (a := subX fx266 [1, 1, 1, 1, 0]) (b := subX fx266 [1, 1, 1, 1, 1]) (by kernel_rfl) (B := (fun F h => q266_107 C lf r (F 0) (F 1) (F 2) (F 3) h)) (q266_107_eq C lf r KN KE) (q266_110_eq C lf (fun x0 x1 x2 x3 h => q266_107 C lf r x0 x1 x2 x3 h) r KE)
noncomputable def q266_115 (C : YC) (lf : Nat) (n : K4) (r : K2) (x0 x1 x2 x3 : O) (h : HW) : Rs :=
 ob x3 fun a112 =>
 ob (lenE Tryz.prog 31 a112) fun y113 =>
 ob (bin Tryz.prog .eql 3 y113 (.int .i64 0)) fun y114 =>
 yIf y114
 (r (some (.int .i64 0)) (some (.int .i64 0)) h)
 (n x0 x1 x2 x3 h)
theorem q266_115_eq (C : YC) (lf : Nat) (n : K4) (r : K2) (KE : KX) : ∀ F h, evX fx266 C lf [1, 1, 1, 0] F h (fun F h => n (F 0) (F 1) (F 2) (F 3) h) (fun F h => r (F 8) (F 9) h) KE = q266_115 C lf n r (F 0) (F 1) (F 2) (F 3) h := by
  intro F h; kernel_rfl
noncomputable def q266_116 (C : YC) (lf : Nat) (r : K2) (x0 x1 x2 x3 : O) (h : HW) : Rs :=
 q266_115 C lf (fun x0 x1 x2 x3 h => q266_111 C lf r x0 x1 x2 x3 h) r x0 x1 x2 x3 h
theorem q266_116_eq (C : YC) (lf : Nat) (r : K2) (KN : KF) (KE : KX) : ∀ F h, evX fx266 C lf [1, 1, 1] F h KN (fun F h => r (F 8) (F 9) h) KE = q266_116 C lf r (F 0) (F 1) (F 2) (F 3) h := cSeq (a := subX fx266 [1, 1, 1, 0]) (b := subX fx266 [1, 1, 1, 1]) (by kernel_rfl) (B := (fun F h => q266_111 C lf r (F 0) (F 1) (F 2) (F 3) h)) (q266_111_eq C lf r KN KE) (q266_115_eq C lf (fun x0 x1 x2 x3 h => q266_111 C lf r x0 x1 x2 x3 h) r KE)
noncomputable def q266_119 (C : YC) (lf : Nat) (n : K4) (r : K2) (x0 x1 x2 x3 : O) (h : HW) : Rs :=
 ob x2 fun a117 =>
 ob (bin Tryz.prog .lss 3 a117 (.int .i64 0)) fun y118 =>
 yIf y118
 (r (some (.int .i64 0)) (some (.int .i64 22)) h)
 (n x0 x1 x2 x3 h)
theorem q266_119_eq (C : YC) (lf : Nat) (n : K4) (r : K2) (KE : KX) : ∀ F h, evX fx266 C lf [1, 1, 0] F h (fun F h => n (F 0) (F 1) (F 2) (F 3) h) (fun F h => r (F 8) (F 9) h) KE = q266_119 C lf n r (F 0) (F 1) (F 2) (F 3) h := by
  intro F h; kernel_rfl
noncomputable def q266_120 (C : YC) (lf : Nat) (r : K2) (x0 x1 x2 x3 : O) (h : HW) : Rs :=
 q266_119 C lf (fun x0 x1 x2 x3 h => q266_116 C lf r x0 x1 x2 x3 h) r x0 x1 x2 x3 h
theorem q266_120_eq (C : YC) (lf : Nat) (r : K2) (KN : KF) (KE : KX) : ∀ F h, evX fx266 C lf [1, 1] F h KN (fun F h => r (F 8) (F 9) h) KE = q266_120 C lf r (F 0) (F 1) (F 2) (F 3) h := cSeq (a := subX fx266 [1, 1, 0]) (b := subX fx266 [1, 1, 1]) (by kernel_rfl) (B := (fun F h => q266_116 C lf r (F 0) (F 1) (F 2) (F 3) h)) (q266_116_eq C lf r KN KE) (q266_119_eq C lf (fun x0 x1 x2 x3 h => q266_116 C lf r x0 x1 x2 x3 h) r KE)
noncomputable def q266_125 (C : YC) (lf : Nat) (n : K4) (r : K2) (x0 x1 x2 x3 : O) (h : HW) : Rs :=
 ob x0 fun a121 =>
 ob x1 fun a122 =>
 bc (C (.fn 292) [a121, a122] h) fun y123 h123 =>
 ob (unE .not y123) fun y124 =>
 yIf y124
 (r (some (.int .i64 0)) (some (.int .i64 2)) h123)
 (n x0 x1 x2 x3 h123)
theorem q266_125_eq (C : YC) (lf : Nat) (n : K4) (r : K2) (KE : KX) : ∀ F h, evX fx266 C lf [1, 0] F h (fun F h => n (F 0) (F 1) (F 2) (F 3) h) (fun F h => r (F 8) (F 9) h) KE = q266_125 C lf n r (F 0) (F 1) (F 2) (F 3) h := by
  intro F h; kernel_rfl
noncomputable def q266_126 (C : YC) (lf : Nat) (r : K2) (x0 x1 x2 x3 : O) (h : HW) : Rs :=
 q266_125 C lf (fun x0 x1 x2 x3 h => q266_120 C lf r x0 x1 x2 x3 h) r x0 x1 x2 x3 h
theorem q266_126_eq (C : YC) (lf : Nat) (r : K2) (KN : KF) (KE : KX) : ∀ F h, evX fx266 C lf [1] F h KN (fun F h => r (F 8) (F 9) h) KE = q266_126 C lf r (F 0) (F 1) (F 2) (F 3) h := cSeq (a := subX fx266 [1, 0]) (b := subX fx266 [1, 1]) (by kernel_rfl) (B := (fun F h => q266_120 C lf r (F 0) (F 1) (F 2) (F 3) h)) (q266_120_eq C lf r KN KE) (q266_125_eq C lf (fun x0 x1 x2 x3 h => q266_120 C lf r x0 x1 x2 x3 h) r KE)
noncomputable def q266_127 (C : YC) (lf : Nat) (n : K4) (x0 x1 x2 x3 : O) (h : HW) : Rs :=
 n x0 x1 x2 x3 h
theorem q266_127_eq (C : YC) (lf : Nat) (n : K4) (KR : KF) (KE : KX) : ∀ F h, evX fx266 C lf [0] F h (fun F h => n (F 0) (F 1) (F 2) (F 3) h) KR KE = q266_127 C lf n (F 0) (F 1) (F 2) (F 3) h := by
  intro F h; kernel_rfl
noncomputable def q266_128 (C : YC) (lf : Nat) (r : K2) (x0 x1 x2 x3 : O) (h : HW) : Rs :=
 q266_127 C lf (fun x0 x1 x2 x3 h => q266_126 C lf r x0 x1 x2 x3 h) x0 x1 x2 x3 h
theorem q266_128_eq (C : YC) (lf : Nat) (r : K2) (KN : KF) (KE : KX) : ∀ F h, evX fx266 C lf [] F h KN (fun F h => r (F 8) (F 9) h) KE = q266_128 C lf r (F 0) (F 1) (F 2) (F 3) h := cSeq (a := subX fx266 [0]) (b := subX fx266 [1]) (by kernel_rfl) (B := (fun F h => q266_126 C lf r (F 0) (F 1) (F 2) (F 3) h)) (q266_126_eq C lf r KN KE) (q266_127_eq C lf (fun x0 x1 x2 x3 h => q266_126 C lf r x0 x1 x2 x3 h) (fun F h => r (F 8) (F 9) h) KE)
noncomputable def fs266 (C : YC) (lf : Nat) (a0 a1 a2 a3 : SV) (h : HW) : Rs := q266_128 C lf ff266 (some a0) (some a1) (some a2) (some a3) h
theorem fs266_eq (C : YC) (lf : Nat) (a0 a1 a2 a3 : SV) (h : HW) : yFn Tryz.prog fx266 C lf [a0, a1, a2, a3] h = fs266 C lf a0 a1 a2 a3 h := fnX (K := (fun F h => ff266 (F 8) (F 9) h)) (by kernel_rfl) (((q266_128_eq C lf ff266 (fun F h => ff266 (F 8) (F 9) h) (fun _ _ _ => none)) _ h).trans (by kernel_rfl))
noncomputable def fy266 : YX Tryz.prog := Y4 fx266 fs266 fs266_eq (by kernel_rfl)

/-! FN 267 (*tinsel/tinselref02.Table).Release -/
noncomputable def fx267 : XF Tryz.prog := ⟨267, Tryz.f267, fun _ => .text, Tryz.func267, by kernel_rfl, by kernel_rfl, by kernel_rfl, by kernel_rfl⟩
noncomputable def ff267 (x4 : O) (h : HW) : Rs :=
 ob x4 fun a0 =>
 some (.ret a0, h)
noncomputable def q267_29 (C : YC) (lf : Nat) (r : K1) (x0 x1 : O) (h : HW) : Rs :=
 ob x0 fun a1 =>
 ob x1 fun a2 =>
 bc (C (.fn 292) [a1, a2] h) fun y3 h3 =>
 ob (unE .not y3) fun y4 =>
 yIf y4
 (r (some (.int .i64 2)) h3)
 (ob x0 fun a5 =>
 ob (semNil a5) fun y6 =>
 ob (fa 4 y6) fun y7 =>
 ob (ld1 y7 h3) fun y8 =>
 ob x1 fun a9 =>
 ob (ixS 308 y8 a9) fun y10 =>
 ob (fa 11 y10) fun y11 =>
 ob (ld1 y11 h3) fun y12 =>
 ob (bin Tryz.prog .eql 3 y12 (.int .i64 0)) fun y13 =>
 yIf y13
 (r (some (.int .i64 22)) h3)
 (ob x0 fun a14 =>
 ob (semNil a14) fun y15 =>
 ob (fa 4 y15) fun y16 =>
 ob (ld1 y16 h3) fun y17 =>
 ob x1 fun a18 =>
 ob (ixS 308 y17 a18) fun y19 =>
 ob (fa 11 y19) fun y20 =>
 ob (ld1 y20 h3) fun y21 =>
 ob (bin Tryz.prog .sub 3 y21 (.int .i64 1)) fun y22 =>
 ob (ixS 308 y17 a18) fun y23 =>
 ob (fa 11 y23) fun y24 =>
 ob (st 1 y24 y22 h3) fun h25 =>
 ob x0 fun a26 =>
 ob x1 fun a27 =>
 bc (C (.fn 294) [a26, a27] h25) fun y28 h28 =>
 r (some (.int .i64 0)) h28))
theorem q267_29_eq (C : YC) (lf : Nat) (r : K1) (KN : KF) (KE : KX) : ∀ F h, evX fx267 C lf [] F h KN (fun F h => r (F 4) h) KE = q267_29 C lf r (F 0) (F 1) h := by
  intro F h; kernel_rfl
noncomputable def fs267 (C : YC) (lf : Nat) (a0 a1 : SV) (h : HW) : Rs := q267_29 C lf ff267 (some a0) (some a1) h
theorem fs267_eq (C : YC) (lf : Nat) (a0 a1 : SV) (h : HW) : yFn Tryz.prog fx267 C lf [a0, a1] h = fs267 C lf a0 a1 h := fnX (K := (fun F h => ff267 (F 4) h)) (by kernel_rfl) (((q267_29_eq C lf ff267 (fun F h => ff267 (F 4) h) (fun _ _ _ => none)) _ h).trans (by kernel_rfl))
noncomputable def fy267 : YX Tryz.prog := Y2 fx267 fs267 fs267_eq (by kernel_rfl)

/-! FN 278 (*tinsel/inode.Table).Read -/
noncomputable def fx278 : XF Tryz.prog := ⟨278, Tryz.f278, fun _ => .text, Tryz.func278, by kernel_rfl, by kernel_rfl, by kernel_rfl, by kernel_rfl⟩
noncomputable def ff278 (x8 x9 : O) (h : HW) : Rs :=
 ob x8 fun a0 =>
 ob x9 fun a1 =>
 some (.ret (.tup [a0, a1]), h)
noncomputable def q278_3 (C : YC) (lf : Nat) (r : K2) (x13 : O) (h : HW) : Rs :=
 ob x13 fun a2 =>
 r (some a2) (some (.int .i64 0)) h
theorem q278_3_eq (C : YC) (lf : Nat) (r : K2) (KN : KF) (KE : KX) : ∀ F h, evX fx278 C lf [1, 1, 1, 1, 1, 1, 1, 1, 1] F h KN (fun F h => r (F 8) (F 9) h) KE = q278_3 C lf r (F 13) h := by
  intro F h; kernel_rfl
noncomputable def q278_40 (C : YC) (lf : Nat) (n : K5) (e0 : K1) (x0 x2 x10 x12 x13 : O) (h : HW) : Rs :=
 ob x2 fun a5 =>
 ob x12 fun a6 =>
 ob (bin Tryz.prog .lss 3 a5 a6) fun y7 =>
 yIf y7
 (ob x2 fun a8 =>
 ob (bin Tryz.prog .quo 3 a8 (.int .i64 64)) fun y9 =>
 ob x2 fun a10 =>
 ob (bin Tryz.prog .rem 3 a10 (.int .i64 64)) fun y11 =>
 ob (bin Tryz.prog .sub 3 (.int .i64 64) y11) fun y12 =>
 ob x12 fun a13 =>
 ob x2 fun a14 =>
 ob (bin Tryz.prog .sub 3 a13 a14) fun y15 =>
 b2 (ybl Tryz.prog .min #[3, 3] [y12, y15] h) fun y16 h16 =>
 ob x10 fun a17 =>
 bc (C (.fn 219) [a17, y9] h16) fun y18 h18 =>
 ob (semNil y18) fun y19 =>
 ob (ld1 y19 h18) fun y20 =>
 ob (bin Tryz.prog .gtr 3 y20 (.int .i64 0)) fun y21 =>
 yIf y21
 (ob x0 fun a22 =>
 ob (semNil a22) fun y23 =>
 ob (fa 0 y23) fun y24 =>
 ob (ld1 y24 h18) fun y25 =>
 ob (bin Tryz.prog .sub 3 y20 (.int .i64 1)) fun y26 =>
 bc (C (.fn 330) [y25, y26] h18) fun y27 h27 =>
 ob (ext 0 y27) fun y28 =>
 ob (ext 1 y27) fun y29 =>
 ob x13 fun a30 =>
 ob (bin Tryz.prog .add 3 y11 y16) fun y31 =>
 ob (semSlice Tryz.prog 31 y28 (some y11) (some y31)) fun y32 =>
 b2 (ybl Tryz.prog .append #[31, 31] [a30, y32] h27) fun y33 h33 =>
 ob x2 fun a34 =>
 ob (bin Tryz.prog .add 3 a34 y16) fun y35 =>
 n x0 (some y35) x10 x12 (some y33) h33)
 (ob x13 fun a36 =>
 b2 (ybl Tryz.prog .append #[31, 3] [a36, y16] h18) fun y37 h37 =>
 ob x2 fun a38 =>
 ob (bin Tryz.prog .add 3 a38 y16) fun y39 =>
 n x0 (some y39) x10 x12 (some y37) h37))
 (e0 x13 h)
theorem q278_40_eq (C : YC) (lf : Nat) (n : K5) (e0 : K1) (KR : KF) (KE : KX) : ∀ F h, evX fx278 C lf [1, 1, 1, 1, 1, 1, 1, 1, 0, 0, 0] F h (fun F h => n (F 0) (F 2) (F 10) (F 12) (F 13) h) KR (bk 0 (fun F h => e0 (F 13) h) KE) = q278_40 C lf n e0 (F 0) (F 2) (F 10) (F 12) (F 13) h := by
  intro F h; kernel_rfl
noncomputable def l278_4 (C : YC) (lf : Nat) (e0 : K1) (k : O × O × O × O × O → HW → Rs) (s : O × O × O × O × O) (h : HW) : Rs :=
 q278_40 C lf (fun x0 x2 x10 x12 x13 h => k (x0, x2, x10, x12, x13) h) e0 s.1 s.2.1 s.2.2.1 s.2.2.2.1 s.2.2.2.2 h
noncomputable def q278_41 (C : YC) (lf : Nat) (r : K2) (x0 x2 x10 x12 x13 : O) (h : HW) : Rs :=
 lp (l278_4 C lf (fun x13 h => q278_3 C lf r x13 h)) lf (x0, x2, x10, x12, x13) h
theorem q278_41_eq (C : YC) (lf : Nat) (r : K2) (KN : KF) (KE : KX) : ∀ F h, evX fx278 C lf [1, 1, 1, 1, 1, 1, 1, 1] F h KN (fun F h => r (F 8) (F 9) h) KE = q278_41 C lf r (F 0) (F 2) (F 10) (F 12) (F 13) h := cSeq (a := subX fx278 [1, 1, 1, 1, 1, 1, 1, 1, 0]) (b := subX fx278 [1, 1, 1, 1, 1, 1, 1, 1, 1]) (by kernel_rfl) (B := (fun F h => q278_3 C lf r (F 13) h)) (q278_3_eq C lf r KN KE) (cBlock (id := 0) (a := subX fx278 [1, 1, 1, 1, 1, 1, 1, 1, 0, 0]) (by kernel_rfl) (cLoop (a := subX fx278 [1, 1, 1, 1, 1, 1, 1, 1, 0, 0, 0]) (g := fun F => (F 0, F 2, F 10, F 12, F 13)) (body := l278_4 C lf (fun x13 h => q278_3 C lf r x13 h)) (by kernel_rfl) (fun k => (q278_40_eq C lf (fun x0 x2 x10 x12 x13 h => k (x0, x2, x10, x12, x13) h) (fun x13 h => q278_3 C lf r x13 h) (fun F h => r (F 8) (F 9) h) KE))))
noncomputable def q278_46 (C : YC) (lf : Nat) (n : K5) (x0 x2 x10 x12 : O) (h : HW) : Rs :=
 ob x12 fun a42 =>
 ob x2 fun a43 =>
 ob (bin Tryz.prog .sub 3 a42 a43) fun y44 =>
 b2 (ymk Tryz.prog 31 (.int .i64 0) y44 h) fun y45 h45 =>
 n x0 x2 x10 x12 (some y45) h45
theorem q278_46_eq (C : YC) (lf : Nat) (n : K5) (KR : KF) (KE : KX) : ∀ F h, evX fx278 C lf [1, 1, 1, 1, 1, 1, 1, 0] F h (fun F h => n (F 0) (F 2) (F 10) (F 12) (F 13) h) KR KE = q278_46 C lf n (F 0) (F 2) (F 10) (F 12) h := by
  intro F h; kernel_rfl
noncomputable def q278_47 (C : YC) (lf : Nat) (r : K2) (x0 x2 x10 x12 : O) (h : HW) : Rs :=
 q278_46 C lf (fun x0 x2 x10 x12 x13 h => q278_41 C lf r x0 x2 x10 x12 x13 h) x0 x2 x10 x12 h
theorem q278_47_eq (C : YC) (lf : Nat) (r : K2) (KN : KF) (KE : KX) : ∀ F h, evX fx278 C lf [1, 1, 1, 1, 1, 1, 1] F h KN (fun F h => r (F 8) (F 9) h) KE = q278_47 C lf r (F 0) (F 2) (F 10) (F 12) h := cSeq (a := subX fx278 [1, 1, 1, 1, 1, 1, 1, 0]) (b := subX fx278 [1, 1, 1, 1, 1, 1, 1, 1]) (by kernel_rfl) (B := (fun F h => q278_41 C lf r (F 0) (F 2) (F 10) (F 12) (F 13) h)) (q278_41_eq C lf r KN KE) (q278_46_eq C lf (fun x0 x2 x10 x12 x13 h => q278_41 C lf r x0 x2 x10 x12 x13 h) (fun F h => r (F 8) (F 9) h) KE)
noncomputable def q278_56 (C : YC) (lf : Nat) (n : K4) (x0 x2 x3 x10 x12 : O) (h : HW) : Rs :=
 ob x3 fun a48 =>
 ob x12 fun a49 =>
 ob x2 fun a50 =>
 ob (bin Tryz.prog .sub 3 a49 a50) fun y51 =>
 ob (bin Tryz.prog .lss 3 a48 y51) fun y52 =>
 yIf y52
 (ob x2 fun a53 =>
 ob x3 fun a54 =>
 ob (bin Tryz.prog .add 3 a53 a54) fun y55 =>
 n x0 x2 x10 (some y55) h)
 (n x0 x2 x10 x12 h)
theorem q278_56_eq (C : YC) (lf : Nat) (n : K4) (KR : KF) (KE : KX) : ∀ F h, evX fx278 C lf [1, 1, 1, 1, 1, 1, 0] F h (fun F h => n (F 0) (F 2) (F 10) (F 12) h) KR KE = q278_56 C lf n (F 0) (F 2) (F 3) (F 10) (F 12) h := by
  intro F h; kernel_rfl
noncomputable def q278_57 (C : YC) (lf : Nat) (r : K2) (x0 x2 x3 x10 x12 : O) (h : HW) : Rs :=
 q278_56 C lf (fun x0 x2 x10 x12 h => q278_47 C lf r x0 x2 x10 x12 h) x0 x2 x3 x10 x12 h
theorem q278_57_eq (C : YC) (lf : Nat) (r : K2) (KN : KF) (KE : KX) : ∀ F h, evX fx278 C lf [1, 1, 1, 1, 1, 1] F h KN (fun F h => r (F 8) (F 9) h) KE = q278_57 C lf r (F 0) (F 2) (F 3) (F 10) (F 12) h := cSeq (a := subX fx278 [1, 1, 1, 1, 1, 1, 0]) (b := subX fx278 [1, 1, 1, 1, 1, 1, 1]) (by kernel_rfl) (B := (fun F h => q278_47 C lf r (F 0) (F 2) (F 10) (F 12) h)) (q278_47_eq C lf r KN KE) (q278_56_eq C lf (fun x0 x2 x10 x12 h => q278_47 C lf r x0 x2 x10 x12 h) (fun F h => r (F 8) (F 9) h) KE)
noncomputable def q278_63 (C : YC) (lf : Nat) (n : K5) (x0 x2 x3 x10 : O) (h : HW) : Rs :=
 ob x10 fun a58 =>
 ob (semNil a58) fun y59 =>
 ob (fa 1 y59) fun y60 =>
 ob (fa 4 y60) fun y61 =>
 ob (ld1 y61 h) fun y62 =>
 n x0 x2 x3 x10 (some y62) h
theorem q278_63_eq (C : YC) (lf : Nat) (n : K5) (KR : KF) (KE : KX) : ∀ F h, evX fx278 C lf [1, 1, 1, 1, 1, 0] F h (fun F h => n (F 0) (F 2) (F 3) (F 10) (F 12) h) KR KE = q278_63 C lf n (F 0) (F 2) (F 3) (F 10) h := by
  intro F h; kernel_rfl
noncomputable def q278_64 (C : YC) (lf : Nat) (r : K2) (x0 x2 x3 x10 : O) (h : HW) : Rs :=
 q278_63 C lf (fun x0 x2 x3 x10 x12 h => q278_57 C lf r x0 x2 x3 x10 x12 h) x0 x2 x3 x10 h
theorem q278_64_eq (C : YC) (lf : Nat) (r : K2) (KN : KF) (KE : KX) : ∀ F h, evX fx278 C lf [1, 1, 1, 1, 1] F h KN (fun F h => r (F 8) (F 9) h) KE = q278_64 C lf r (F 0) (F 2) (F 3) (F 10) h := cSeq (a := subX fx278 [1, 1, 1, 1, 1, 0]) (b := subX fx278 [1, 1, 1, 1, 1, 1]) (by kernel_rfl) (B := (fun F h => q278_57 C lf r (F 0) (F 2) (F 3) (F 10) (F 12) h)) (q278_57_eq C lf r KN KE) (q278_63_eq C lf (fun x0 x2 x3 x10 x12 h => q278_57 C lf r x0 x2 x3 x10 x12 h) (fun F h => r (F 8) (F 9) h) KE)
noncomputable def q278_72 (C : YC) (lf : Nat) (n : K4) (r : K2) (x0 x2 x3 x10 : O) (h : HW) : Rs :=
 ob x2 fun a65 =>
 ob x10 fun a66 =>
 ob (semNil a66) fun y67 =>
 ob (fa 1 y67) fun y68 =>
 ob (fa 4 y68) fun y69 =>
 ob (ld1 y69 h) fun y70 =>
 ob (bin Tryz.prog .geq 3 a65 y70) fun y71 =>
 yIf y71
 (r (some (.val (.slice none 0 0))) (some (.int .i64 0)) h)
 (n x0 x2 x3 x10 h)
theorem q278_72_eq (C : YC) (lf : Nat) (n : K4) (r : K2) (KE : KX) : ∀ F h, evX fx278 C lf [1, 1, 1, 1, 0] F h (fun F h => n (F 0) (F 2) (F 3) (F 10) h) (fun F h => r (F 8) (F 9) h) KE = q278_72 C lf n r (F 0) (F 2) (F 3) (F 10) h := by
  intro F h; kernel_rfl
noncomputable def q278_73 (C : YC) (lf : Nat) (r : K2) (x0 x2 x3 x10 : O) (h : HW) : Rs :=
 q278_72 C lf (fun x0 x2 x3 x10 h => q278_64 C lf r x0 x2 x3 x10 h) r x0 x2 x3 x10 h
theorem q278_73_eq (C : YC) (lf : Nat) (r : K2) (KN : KF) (KE : KX) : ∀ F h, evX fx278 C lf [1, 1, 1, 1] F h KN (fun F h => r (F 8) (F 9) h) KE = q278_73 C lf r (F 0) (F 2) (F 3) (F 10) h := cSeq (a := subX fx278 [1, 1, 1, 1, 0]) (b := subX fx278 [1, 1, 1, 1, 1]) (by kernel_rfl) (B := (fun F h => q278_64 C lf r (F 0) (F 2) (F 3) (F 10) h)) (q278_64_eq C lf r KN KE) (q278_72_eq C lf (fun x0 x2 x3 x10 h => q278_64 C lf r x0 x2 x3 x10 h) r KE)
noncomputable def q278_81 (C : YC) (lf : Nat) (n : K4) (r : K2) (x0 x2 x3 x10 : O) (h : HW) : Rs :=
 ob x2 fun a74 =>
 ob (bin Tryz.prog .lss 3 a74 (.int .i64 0)) fun y75 =>
 bc (gd false (some y75) (ob x3 fun a76 =>
 some (.ret a76, h)) h) fun y77 h77 =>
 bc (gd false (some y75) (ob (bin Tryz.prog .lss 3 y77 (.int .i64 0)) fun y78 =>
 some (.ret y78, h77)) h77) fun y79 h79 =>
 ob (ypk y75 (.bool true) y79) fun y80 =>
 yIf y80
 (r (some (.val (.slice none 0 0))) (some (.int .i64 22)) h79)
 (n x0 x2 x3 x10 h79)
theorem q278_81_eq (C : YC) (lf : Nat) (n : K4) (r : K2) (KE : KX) : ∀ F h, evX fx278 C lf [1, 1, 1, 0] F h (fun F h => n (F 0) (F 2) (F 3) (F 10) h) (fun F h => r (F 8) (F 9) h) KE = q278_81 C lf n r (F 0) (F 2) (F 3) (F 10) h := by
  intro F h; kernel_rfl
noncomputable def q278_82 (C : YC) (lf : Nat) (r : K2) (x0 x2 x3 x10 : O) (h : HW) : Rs :=
 q278_81 C lf (fun x0 x2 x3 x10 h => q278_73 C lf r x0 x2 x3 x10 h) r x0 x2 x3 x10 h
theorem q278_82_eq (C : YC) (lf : Nat) (r : K2) (KN : KF) (KE : KX) : ∀ F h, evX fx278 C lf [1, 1, 1] F h KN (fun F h => r (F 8) (F 9) h) KE = q278_82 C lf r (F 0) (F 2) (F 3) (F 10) h := cSeq (a := subX fx278 [1, 1, 1, 0]) (b := subX fx278 [1, 1, 1, 1]) (by kernel_rfl) (B := (fun F h => q278_73 C lf r (F 0) (F 2) (F 3) (F 10) h)) (q278_73_eq C lf r KN KE) (q278_81_eq C lf (fun x0 x2 x3 x10 h => q278_73 C lf r x0 x2 x3 x10 h) r KE)
noncomputable def q278_86 (C : YC) (lf : Nat) (n : K4) (r : K2) (x0 x2 x3 x10 x11 : O) (h : HW) : Rs :=
 ob x11 fun a83 =>
 ob (bin Tryz.prog .neq 23 a83 (.int .i64 0)) fun y84 =>
 yIf y84
 (ob x11 fun a85 =>
 r (some (.val (.slice none 0 0))) (some a85) h)
 (n x0 x2 x3 x10 h)
theorem q278_86_eq (C : YC) (lf : Nat) (n : K4) (r : K2) (KE : KX) : ∀ F h, evX fx278 C lf [1, 1, 0] F h (fun F h => n (F 0) (F 2) (F 3) (F 10) h) (fun F h => r (F 8) (F 9) h) KE = q278_86 C lf n r (F 0) (F 2) (F 3) (F 10) (F 11) h := by
  intro F h; kernel_rfl
noncomputable def q278_87 (C : YC) (lf : Nat) (r : K2) (x0 x2 x3 x10 x11 : O) (h : HW) : Rs :=
 q278_86 C lf (fun x0 x2 x3 x10 h => q278_82 C lf r x0 x2 x3 x10 h) r x0 x2 x3 x10 x11 h
theorem q278_87_eq (C : YC) (lf : Nat) (r : K2) (KN : KF) (KE : KX) : ∀ F h, evX fx278 C lf [1, 1] F h KN (fun F h => r (F 8) (F 9) h) KE = q278_87 C lf r (F 0) (F 2) (F 3) (F 10) (F 11) h := cSeq (a := subX fx278 [1, 1, 0]) (b := subX fx278 [1, 1, 1]) (by kernel_rfl) (B := (fun F h => q278_82 C lf r (F 0) (F 2) (F 3) (F 10) h)) (q278_82_eq C lf r KN KE) (q278_86_eq C lf (fun x0 x2 x3 x10 h => q278_82 C lf r x0 x2 x3 x10 h) r KE)
noncomputable def q278_93 (C : YC) (lf : Nat) (n : K5) (x0 x1 x2 x3 : O) (h : HW) : Rs :=
 ob x0 fun a88 =>
 ob x1 fun a89 =>
 bc (C (.fn 206) [a88, a89] h) fun y90 h90 =>
 ob (ext 0 y90) fun y91 =>
 ob (ext 1 y90) fun y92 =>
 n x0 x2 x3 (some y91) (some y92) h90
theorem q278_93_eq (C : YC) (lf : Nat) (n : K5) (KR : KF) (KE : KX) : ∀ F h, evX fx278 C lf [1, 0] F h (fun F h => n (F 0) (F 2) (F 3) (F 10) (F 11) h) KR KE = q278_93 C lf n (F 0) (F 1) (F 2) (F 3) h := by
  intro F h; kernel_rfl
noncomputable def q278_94 (C : YC) (lf : Nat) (r : K2) (x0 x1 x2 x3 : O) (h : HW) : Rs :=
 q278_93 C lf (fun x0 x2 x3 x10 x11 h => q278_87 C lf r x0 x2 x3 x10 x11 h) x0 x1 x2 x3 h
theorem q278_94_eq (C : YC) (lf : Nat) (r : K2) (KN : KF) (KE : KX) : ∀ F h, evX fx278 C lf [1] F h KN (fun F h => r (F 8) (F 9) h) KE = q278_94 C lf r (F 0) (F 1) (F 2) (F 3) h := cSeq (a := subX fx278 [1, 0]) (b := subX fx278 [1, 1]) (by kernel_rfl) (B := (fun F h => q278_87 C lf r (F 0) (F 2) (F 3) (F 10) (F 11) h)) (q278_87_eq C lf r KN KE) (q278_93_eq C lf (fun x0 x2 x3 x10 x11 h => q278_87 C lf r x0 x2 x3 x10 x11 h) (fun F h => r (F 8) (F 9) h) KE)
noncomputable def q278_95 (C : YC) (lf : Nat) (n : K4) (x0 x1 x2 x3 : O) (h : HW) : Rs :=
 n x0 x1 x2 x3 h
theorem q278_95_eq (C : YC) (lf : Nat) (n : K4) (KR : KF) (KE : KX) : ∀ F h, evX fx278 C lf [0] F h (fun F h => n (F 0) (F 1) (F 2) (F 3) h) KR KE = q278_95 C lf n (F 0) (F 1) (F 2) (F 3) h := by
  intro F h; kernel_rfl
noncomputable def q278_96 (C : YC) (lf : Nat) (r : K2) (x0 x1 x2 x3 : O) (h : HW) : Rs :=
 q278_95 C lf (fun x0 x1 x2 x3 h => q278_94 C lf r x0 x1 x2 x3 h) x0 x1 x2 x3 h
theorem q278_96_eq (C : YC) (lf : Nat) (r : K2) (KN : KF) (KE : KX) : ∀ F h, evX fx278 C lf [] F h KN (fun F h => r (F 8) (F 9) h) KE = q278_96 C lf r (F 0) (F 1) (F 2) (F 3) h := cSeq (a := subX fx278 [0]) (b := subX fx278 [1]) (by kernel_rfl) (B := (fun F h => q278_94 C lf r (F 0) (F 1) (F 2) (F 3) h)) (q278_94_eq C lf r KN KE) (q278_95_eq C lf (fun x0 x1 x2 x3 h => q278_94 C lf r x0 x1 x2 x3 h) (fun F h => r (F 8) (F 9) h) KE)
noncomputable def fs278 (C : YC) (lf : Nat) (a0 a1 a2 a3 : SV) (h : HW) : Rs := q278_96 C lf ff278 (some a0) (some a1) (some a2) (some a3) h
theorem fs278_eq (C : YC) (lf : Nat) (a0 a1 a2 a3 : SV) (h : HW) : yFn Tryz.prog fx278 C lf [a0, a1, a2, a3] h = fs278 C lf a0 a1 a2 a3 h := fnX (K := (fun F h => ff278 (F 8) (F 9) h)) (by kernel_rfl) (((q278_96_eq C lf ff278 (fun F h => ff278 (F 8) (F 9) h) (fun _ _ _ => none)) _ h).trans (by kernel_rfl))
noncomputable def fy278 : YX Tryz.prog := Y4 fx278 fs278 fs278_eq (by kernel_rfl)

/-! FN 279 tinsel/dir.put -/
noncomputable def fx279 : XF Tryz.prog := ⟨279, Tryz.f279, fun _ => .text, Tryz.func279, by kernel_rfl, by kernel_rfl, by kernel_rfl, by kernel_rfl⟩
noncomputable def ff279 (x8 : O) (h : HW) : Rs :=
 ob x8 fun a0 =>
 some (.ret a0, h)
noncomputable def q279_22 (C : YC) (lf : Nat) (r : K1) (x0 x1 x2 x3 : O) (h : HW) : Rs :=
 ob x3 fun a1 =>
 b2 (ybx 292 a1 h) fun y2 h2 =>
 ob x0 fun a3 =>
 ob x1 fun a4 =>
 ob x2 fun a5 =>
 ob (bin Tryz.prog .mul 3 a5 (.int .i64 32)) fun y6 =>
 ob (semSlice Tryz.prog 292 y2 none none) fun y7 =>
 bc (C (.fn 154) [a3, a4, y6, y7] h2) fun y8 h8 =>
 ob (ext 0 y8) fun y9 =>
 ob (ext 1 y8) fun y10 =>
 ob (bin Tryz.prog .eql 23 y10 (.int .i64 27)) fun y11 =>
 bc (gd false (some y11) (some (.ret y10, h8)) h8) fun y12 h12 =>
 bc (gd false (some y11) (ob (bin Tryz.prog .eql 23 y12 (.int .i64 0)) fun y13 =>
 some (.ret y13, h12)) h12) fun y14 h14 =>
 bc (gd false (some y11) (some (.ret y14, h14)) h14) fun y15 h15 =>
 bc (gd true (some y15) (some (.ret y9, h15)) h15) fun y16 h16 =>
 bc (gd true (some y15) (ob (bin Tryz.prog .lss 3 y16 (.int .i64 32)) fun y17 =>
 some (.ret y17, h16)) h16) fun y18 h18 =>
 bc (gd false (some y11) (ob (ypk y15 y18 (.bool false)) fun y19 =>
 some (.ret y19, h18)) h18) fun y20 h20 =>
 ob (ypk y11 (.bool true) y20) fun y21 =>
 yIf y21
 (r (some (.int .i64 28)) h20)
 (r (some y10) h20)
theorem q279_22_eq (C : YC) (lf : Nat) (r : K1) (KN : KF) (KE : KX) : ∀ F h, evX fx279 C lf [] F h KN (fun F h => r (F 8) h) KE = q279_22 C lf r (F 0) (F 1) (F 2) (F 3) h := by
  intro F h; kernel_rfl
noncomputable def fs279 (C : YC) (lf : Nat) (a0 a1 a2 a3 : SV) (h : HW) : Rs := q279_22 C lf ff279 (some a0) (some a1) (some a2) (some a3) h
theorem fs279_eq (C : YC) (lf : Nat) (a0 a1 a2 a3 : SV) (h : HW) : yFn Tryz.prog fx279 C lf [a0, a1, a2, a3] h = fs279 C lf a0 a1 a2 a3 h := fnX (K := (fun F h => ff279 (F 8) h)) (by kernel_rfl) (((q279_22_eq C lf ff279 (fun F h => ff279 (F 8) h) (fun _ _ _ => none)) _ h).trans (by kernel_rfl))
noncomputable def fy279 : YX Tryz.prog := Y4 fx279 fs279 fs279_eq (by kernel_rfl)

/-! FN 280 tinsel/path.names$1 -/
noncomputable def fx280 : XF Tryz.prog := ⟨280, Tryz.f280, fun _ => .text, Tryz.func280, by kernel_rfl, by kernel_rfl, by kernel_rfl, by kernel_rfl⟩
noncomputable def ff280 (h : HW) : Rs :=
 some (.ret (.tup []), h)
noncomputable def q280_48 (C : YC) (lf : Nat) (n : K4) (r : K0) (e0 : K0) (x0 x1 x3 x4 : O) (h : HW) : Rs :=
 ob x4 fun a1 =>
 ob x1 fun a2 =>
 ob (ld1 a2 h) fun y3 =>
 ob (lenE Tryz.prog 9 y3) fun y4 =>
 ob (bin Tryz.prog .leq 3 a1 y4) fun y5 =>
 yIf y5
 (ob x4 fun a6 =>
 ob x1 fun a7 =>
 ob (ld1 a7 h) fun y8 =>
 ob (lenE Tryz.prog 9 y8) fun y9 =>
 ob (bin Tryz.prog .lss 3 a6 y9) fun y10 =>
 bc (gd true (some y10) (ob x1 fun a11 =>
 ob (ld1 a11 h) fun y12 =>
 some (.ret y12, h)) h) fun y13 h13 =>
 bc (gd true (some y10) (ob x4 fun a14 =>
 some (.ret a14, h13)) h13) fun y15 h15 =>
 bc (gd true (some y10) (ob (semIndex Tryz.prog 9 y13 y15) fun y16 =>
 some (.ret y16, h15)) h15) fun y17 h17 =>
 bc (gd true (some y10) (ob (bin Tryz.prog .neq 5 y17 (.int .u8 47)) fun y18 =>
 some (.ret y18, h17)) h17) fun y19 h19 =>
 ob (ypk y10 y19 (.bool false)) fun y20 =>
 yIf y20
 (ob x4 fun a21 =>
 ob (bin Tryz.prog .add 3 a21 (.int .i64 1)) fun y22 =>
 n x0 x1 x3 (some y22) h19)
 (ob x4 fun a23 =>
 ob x3 fun a24 =>
 ob (bin Tryz.prog .gtr 3 a23 a24) fun y25 =>
 bc (gd true (some y25) (ob x0 fun a26 =>
 some (.ret a26, h19)) h19) fun y27 h27 =>
 bc (gd true (some y25) (ob x4 fun a28 =>
 some (.ret a28, h27)) h27) fun y29 h29 =>
 bc (gd true (some y25) (ob x1 fun a30 =>
 ob (ld1 a30 h29) fun y31 =>
 some (.ret y31, h29)) h29) fun y32 h32 =>
 bc (gd true (some y25) (ob x3 fun a33 =>
 some (.ret a33, h32)) h32) fun y34 h34 =>
 bc (gd true (some y25) (ob x4 fun a35 =>
 some (.ret a35, h34)) h34) fun y36 h36 =>
 bc (gd true (some y25) (ob (semSlice Tryz.prog 9 y32 (some y34) (some y36)) fun y37 =>
 some (.ret y37, h36)) h36) fun y38 h38 =>
 bc (gd true (some y25) (cv false C y27 [y29, y38] h38 fun y39 h39 =>
 some (.ret y39, h39)) h38) fun y40 h40 =>
 bc (gd true (some y25) (ob (unE .not y40) fun y41 =>
 some (.ret y41, h40)) h40) fun y42 h42 =>
 ob (ypk y25 y42 (.bool false)) fun y43 =>
 yIf y43
 (r h42)
 (ob x4 fun a44 =>
 ob (bin Tryz.prog .add 3 a44 (.int .i64 1)) fun y45 =>
 ob x4 fun a46 =>
 ob (bin Tryz.prog .add 3 a46 (.int .i64 1)) fun y47 =>
 n x0 x1 (some y45) (some y47) h42)))
 (e0 h)
theorem q280_48_eq (C : YC) (lf : Nat) (n : K4) (r : K0) (e0 : K0) (KE : KX) : ∀ F h, evX fx280 C lf [1, 1, 0, 0] F h (fun F h => n (F 0) (F 1) (F 3) (F 4) h) (fun F h => r h) (bk 0 (fun F h => e0 h) KE) = q280_48 C lf n r e0 (F 0) (F 1) (F 3) (F 4) h := by
  intro F h; kernel_rfl
noncomputable def l280_0 (C : YC) (lf : Nat) (r : K0) (e0 : K0) (k : O × O × O × O → HW → Rs) (s : O × O × O × O) (h : HW) : Rs :=
 q280_48 C lf (fun x0 x1 x3 x4 h => k (x0, x1, x3, x4) h) r e0 s.1 s.2.1 s.2.2.1 s.2.2.2 h
noncomputable def q280_49 (C : YC) (lf : Nat) (n : K4) (x0 x1 x3 : O) (h : HW) : Rs :=
 n x0 x1 x3 (some (.int .i64 0)) h
theorem q280_49_eq (C : YC) (lf : Nat) (n : K4) (KR : KF) (KE : KX) : ∀ F h, evX fx280 C lf [1, 0] F h (fun F h => n (F 0) (F 1) (F 3) (F 4) h) KR KE = q280_49 C lf n (F 0) (F 1) (F 3) h := by
  intro F h; kernel_rfl
noncomputable def q280_50 (C : YC) (lf : Nat) (n : K0) (r : K0) (x0 x1 x3 : O) (h : HW) : Rs :=
 q280_49 C lf (fun x0 x1 x3 x4 h => lp (l280_0 C lf r n) lf (x0, x1, x3, x4) h) x0 x1 x3 h
theorem q280_50_eq (C : YC) (lf : Nat) (n : K0) (r : K0) (KE : KX) : ∀ F h, evX fx280 C lf [1] F h (fun F h => n h) (fun F h => r h) KE = q280_50 C lf n r (F 0) (F 1) (F 3) h := cSeq (a := subX fx280 [1, 0]) (b := subX fx280 [1, 1]) (by kernel_rfl) (B := (fun F h => lp (l280_0 C lf r n) lf ((F 0), (F 1), (F 3), (F 4)) h)) (cBlock (id := 0) (a := subX fx280 [1, 1, 0]) (by kernel_rfl) (cLoop (a := subX fx280 [1, 1, 0, 0]) (g := fun F => (F 0, F 1, F 3, F 4)) (body := l280_0 C lf r n) (by kernel_rfl) (fun k => (q280_48_eq C lf (fun x0 x1 x3 x4 h => k (x0, x1, x3, x4) h) r n KE)))) (q280_49_eq C lf (fun x0 x1 x3 x4 h => lp (l280_0 C lf r n) lf (x0, x1, x3, x4) h) (fun F h => r h) KE)
noncomputable def q280_51 (C : YC) (lf : Nat) (n : K3) (x0 x1 : O) (h : HW) : Rs :=
 n x0 x1 (some (.int .i64 0)) h
theorem q280_51_eq (C : YC) (lf : Nat) (n : K3) (KR : KF) (KE : KX) : ∀ F h, evX fx280 C lf [0] F h (fun F h => n (F 0) (F 1) (F 3) h) KR KE = q280_51 C lf n (F 0) (F 1) h := by
  intro F h; kernel_rfl
noncomputable def q280_52 (C : YC) (lf : Nat) (n : K0) (r : K0) (x0 x1 : O) (h : HW) : Rs :=
 q280_51 C lf (fun x0 x1 x3 h => q280_50 C lf n r x0 x1 x3 h) x0 x1 h
theorem q280_52_eq (C : YC) (lf : Nat) (n : K0) (r : K0) (KE : KX) : ∀ F h, evX fx280 C lf [] F h (fun F h => n h) (fun F h => r h) KE = q280_52 C lf n r (F 0) (F 1) h := cSeq (a := subX fx280 [0]) (b := subX fx280 [1]) (by kernel_rfl) (B := (fun F h => q280_50 C lf n r (F 0) (F 1) (F 3) h)) (q280_50_eq C lf n r KE) (q280_51_eq C lf (fun x0 x1 x3 h => q280_50 C lf n r x0 x1 x3 h) (fun F h => r h) KE)
noncomputable def fs280 (C : YC) (lf : Nat) (a0 a1 : SV) (h : HW) : Rs := q280_52 C lf ff280 ff280 (some a0) (some a1) h
theorem fs280_eq (C : YC) (lf : Nat) (a0 a1 : SV) (h : HW) : yFn Tryz.prog fx280 C lf [a0, a1] h = fs280 C lf a0 a1 h := fnX (K := (fun F h => ff280 h)) (by kernel_rfl) (((q280_52_eq C lf ff280 ff280 (fun _ _ _ => none)) _ h).trans (by kernel_rfl))
noncomputable def fy280 : YX Tryz.prog := Y2 fx280 fs280 fs280_eq (by kernel_rfl)

/-! FN 281 internal/stringslite.IndexByte -/
noncomputable def fx281 : XF Tryz.prog := ⟨281, Tryz.f281, fun _ => .text, Tryz.func281, by kernel_rfl, by kernel_rfl, by kernel_rfl, by kernel_rfl⟩
noncomputable def ff281 (x4 : O) (h : HW) : Rs :=
 ob x4 fun a0 =>
 some (.ret a0, h)
noncomputable def q281_4 (C : YC) (lf : Nat) (r : K1) (x0 x1 : O) (h : HW) : Rs :=
 ob x0 fun a1 =>
 ob x1 fun a2 =>
 bc (C (.fn 331) [a1, a2] h) fun y3 h3 =>
 r (some y3) h3
theorem q281_4_eq (C : YC) (lf : Nat) (r : K1) (KN : KF) (KE : KX) : ∀ F h, evX fx281 C lf [] F h KN (fun F h => r (F 4) h) KE = q281_4 C lf r (F 0) (F 1) h := by
  intro F h; kernel_rfl
noncomputable def fs281 (C : YC) (lf : Nat) (a0 a1 : SV) (h : HW) : Rs := q281_4 C lf ff281 (some a0) (some a1) h
theorem fs281_eq (C : YC) (lf : Nat) (a0 a1 : SV) (h : HW) : yFn Tryz.prog fx281 C lf [a0, a1] h = fs281 C lf a0 a1 h := fnX (K := (fun F h => ff281 (F 4) h)) (by kernel_rfl) (((q281_4_eq C lf ff281 (fun F h => ff281 (F 4) h) (fun _ _ _ => none)) _ h).trans (by kernel_rfl))
noncomputable def fy281 : YX Tryz.prog := Y2 fx281 fs281 fs281_eq (by kernel_rfl)

/-! FN 284 (*tinsel/blocks.Store).Alloc -/
noncomputable def fx284 : XF Tryz.prog := ⟨284, Tryz.f284, fun _ => .text, Tryz.func284, by kernel_rfl, by kernel_rfl, by kernel_rfl, by kernel_rfl⟩
noncomputable def ff284 (x2 x3 : O) (h : HW) : Rs :=
 ob x2 fun a0 =>
 ob x3 fun a1 =>
 some (.ret (.tup [a0, a1]), h)
noncomputable def q284_2 (C : YC) (lf : Nat) (r : K2) (h : HW) : Rs :=
 r (some (.int .i64 0)) (some (.int .i64 28)) h
theorem q284_2_eq (C : YC) (lf : Nat) (r : K2) (KN : KF) (KE : KX) : ∀ F h, evX fx284 C lf [1, 1, 1] F h KN (fun F h => r (F 2) (F 3) h) KE = q284_2 C lf r h := by
  intro F h; kernel_rfl
noncomputable def q284_55 (C : YC) (lf : Nat) (n : K2) (r : K2) (e0 : K0) (x0 x9 : O) (h : HW) : Rs :=
 ob x9 fun a4 =>
 ob (bin Tryz.prog .lss 3 a4 (.int .i64 64)) fun y5 =>
 yIf y5
 (ob x9 fun a6 =>
 ob (bin Tryz.prog .mul 3 a6 (.int .i64 64)) fun y7 =>
 ob x0 fun a8 =>
 ob (semNil a8) fun y9 =>
 ob (fa 1 y9) fun y10 =>
 ob (ixA 64 1 y10 a6) fun y11 =>
 ob (ld1 y11 h) fun y12 =>
 ob (unE .xor y12) fun y13 =>
 bc (C (.fn 332) [y13] h) fun y14 h14 =>
 ob (bin Tryz.prog .add 3 y7 y14) fun y15 =>
 ob x0 fun a16 =>
 ob (semNil a16) fun y17 =>
 ob (fa 1 y17) fun y18 =>
 ob (ixA 64 1 y18 a6) fun y19 =>
 ob (ld1 y19 h14) fun y20 =>
 ob (bin Tryz.prog .eql 372 y20 (.int .u64 18446744073709551615)) fun y21 =>
 bc (gd false (some y21) (some (.ret y15, h14)) h14) fun y22 h22 =>
 bc (gd false (some y21) (ob x0 fun a23 =>
 some (.ret a23, h22)) h22) fun y24 h24 =>
 bc (gd false (some y21) (ob (semNil y24) fun y25 =>
 some (.ret y25, h24)) h24) fun y26 h26 =>
 bc (gd false (some y21) (ob (fa 0 y26) fun y27 =>
 some (.ret y27, h26)) h26) fun y28 h28 =>
 bc (gd false (some y21) (ob (ld1 y28 h28) fun y29 =>
 some (.ret y29, h28)) h28) fun y30 h30 =>
 bc (gd false (some y21) (ob (bin Tryz.prog .geq 3 y22 y30) fun y31 =>
 some (.ret y31, h30)) h30) fun y32 h32 =>
 ob (ypk y21 (.bool true) y32) fun y33 =>
 yIf y33
 (ob x9 fun a34 =>
 ob (bin Tryz.prog .add 3 a34 (.int .i64 1)) fun y35 =>
 n x0 (some y35) h32)
 (ob x0 fun a36 =>
 ob (semNil a36) fun y37 =>
 ob (fa 1 y37) fun y38 =>
 ob (ixA 64 1 y38 a6) fun y39 =>
 ob (ld1 y39 h32) fun y40 =>
 ob (bin Tryz.prog .rem 3 y15 (.int .i64 64)) fun y41 =>
 ob (bin Tryz.prog .shl 372 (.int .u64 1) y41) fun y42 =>
 ob (bin Tryz.prog .or 372 y40 y42) fun y43 =>
 ob (semNil a36) fun y44 =>
 ob (fa 1 y44) fun y45 =>
 ob (ixA 64 1 y45 a6) fun y46 =>
 ob (st 1 y46 y43 h32) fun h47 =>
 ob x0 fun a48 =>
 ob (semNil a48) fun y49 =>
 ob (fa 65 y49) fun y50 =>
 ob (ld1 y50 h47) fun y51 =>
 ob (semBuild Tryz.prog 182 [] []) fun y52 =>
 ob (ixS 64 y51 y15) fun y53 =>
 ob (st 64 y53 y52 h47) fun h54 =>
 r (some y15) (some (.int .i64 0)) h54))
 (e0 h)
theorem q284_55_eq (C : YC) (lf : Nat) (n : K2) (r : K2) (e0 : K0) (KE : KX) : ∀ F h, evX fx284 C lf [1, 1, 0, 1, 0, 0] F h (fun F h => n (F 0) (F 9) h) (fun F h => r (F 2) (F 3) h) (bk 0 (fun F h => e0 h) KE) = q284_55 C lf n r e0 (F 0) (F 9) h := by
  intro F h; kernel_rfl
noncomputable def l284_3 (C : YC) (lf : Nat) (r : K2) (e0 : K0) (k : O × O → HW → Rs) (s : O × O) (h : HW) : Rs :=
 q284_55 C lf (fun x0 x9 h => k (x0, x9) h) r e0 s.1 s.2 h
noncomputable def q284_56 (C : YC) (lf : Nat) (n : K2) (x0 : O) (h : HW) : Rs :=
 n x0 (some (.int .i64 0)) h
theorem q284_56_eq (C : YC) (lf : Nat) (n : K2) (KR : KF) (KE : KX) : ∀ F h, evX fx284 C lf [1, 1, 0, 0] F h (fun F h => n (F 0) (F 9) h) KR KE = q284_56 C lf n (F 0) h := by
  intro F h; kernel_rfl
noncomputable def q284_57 (C : YC) (lf : Nat) (n : K0) (r : K2) (x0 : O) (h : HW) : Rs :=
 q284_56 C lf (fun x0 x9 h => lp (l284_3 C lf r n) lf (x0, x9) h) x0 h
theorem q284_57_eq (C : YC) (lf : Nat) (n : K0) (r : K2) (KE : KX) : ∀ F h, evX fx284 C lf [1, 1, 0] F h (fun F h => n h) (fun F h => r (F 2) (F 3) h) KE = q284_57 C lf n r (F 0) h := cSeq (a := subX fx284 [1, 1, 0, 0]) (b := subX fx284 [1, 1, 0, 1]) (by kernel_rfl) (B := (fun F h => lp (l284_3 C lf r n) lf ((F 0), (F 9)) h)) (cBlock (id := 0) (a := subX fx284 [1, 1, 0, 1, 0]) (by kernel_rfl) (cLoop (a := subX fx284 [1, 1, 0, 1, 0, 0]) (g := fun F => (F 0, F 9)) (body := l284_3 C lf r n) (by kernel_rfl) (fun k => (q284_55_eq C lf (fun x0 x9 h => k (x0, x9) h) r n KE)))) (q284_56_eq C lf (fun x0 x9 h => lp (l284_3 C lf r n) lf (x0, x9) h) (fun F h => r (F 2) (F 3) h) KE)
noncomputable def q284_58 (C : YC) (lf : Nat) (r : K2) (x0 : O) (h : HW) : Rs :=
 q284_57 C lf (fun h => q284_2 C lf r h) r x0 h
theorem q284_58_eq (C : YC) (lf : Nat) (r : K2) (KN : KF) (KE : KX) : ∀ F h, evX fx284 C lf [1, 1] F h KN (fun F h => r (F 2) (F 3) h) KE = q284_58 C lf r (F 0) h := cSeq (a := subX fx284 [1, 1, 0]) (b := subX fx284 [1, 1, 1]) (by kernel_rfl) (B := (fun F h => q284_2 C lf r h)) (q284_2_eq C lf r KN KE) (q284_57_eq C lf (fun h => q284_2 C lf r h) r KE)
noncomputable def q284_62 (C : YC) (lf : Nat) (n : K1) (r : K2) (x0 : O) (h : HW) : Rs :=
 ob x0 fun a59 =>
 bc (C (.fn 285) [a59] h) fun y60 h60 =>
 ob (unE .not y60) fun y61 =>
 yIf y61
 (r (some (.int .i64 0)) (some (.int .i64 14)) h60)
 (n x0 h60)
theorem q284_62_eq (C : YC) (lf : Nat) (n : K1) (r : K2) (KE : KX) : ∀ F h, evX fx284 C lf [1, 0] F h (fun F h => n (F 0) h) (fun F h => r (F 2) (F 3) h) KE = q284_62 C lf n r (F 0) h := by
  intro F h; kernel_rfl
noncomputable def q284_63 (C : YC) (lf : Nat) (r : K2) (x0 : O) (h : HW) : Rs :=
 q284_62 C lf (fun x0 h => q284_58 C lf r x0 h) r x0 h
theorem q284_63_eq (C : YC) (lf : Nat) (r : K2) (KN : KF) (KE : KX) : ∀ F h, evX fx284 C lf [1] F h KN (fun F h => r (F 2) (F 3) h) KE = q284_63 C lf r (F 0) h := cSeq (a := subX fx284 [1, 0]) (b := subX fx284 [1, 1]) (by kernel_rfl) (B := (fun F h => q284_58 C lf r (F 0) h)) (q284_58_eq C lf r KN KE) (q284_62_eq C lf (fun x0 h => q284_58 C lf r x0 h) r KE)
noncomputable def q284_64 (C : YC) (lf : Nat) (n : K1) (x0 : O) (h : HW) : Rs :=
 n x0 h
theorem q284_64_eq (C : YC) (lf : Nat) (n : K1) (KR : KF) (KE : KX) : ∀ F h, evX fx284 C lf [0] F h (fun F h => n (F 0) h) KR KE = q284_64 C lf n (F 0) h := by
  intro F h; kernel_rfl
noncomputable def q284_65 (C : YC) (lf : Nat) (r : K2) (x0 : O) (h : HW) : Rs :=
 q284_64 C lf (fun x0 h => q284_63 C lf r x0 h) x0 h
theorem q284_65_eq (C : YC) (lf : Nat) (r : K2) (KN : KF) (KE : KX) : ∀ F h, evX fx284 C lf [] F h KN (fun F h => r (F 2) (F 3) h) KE = q284_65 C lf r (F 0) h := cSeq (a := subX fx284 [0]) (b := subX fx284 [1]) (by kernel_rfl) (B := (fun F h => q284_63 C lf r (F 0) h)) (q284_63_eq C lf r KN KE) (q284_64_eq C lf (fun x0 h => q284_63 C lf r x0 h) (fun F h => r (F 2) (F 3) h) KE)
noncomputable def fs284 (C : YC) (lf : Nat) (a0 : SV) (h : HW) : Rs := q284_65 C lf ff284 (some a0) h
theorem fs284_eq (C : YC) (lf : Nat) (a0 : SV) (h : HW) : yFn Tryz.prog fx284 C lf [a0] h = fs284 C lf a0 h := fnX (K := (fun F h => ff284 (F 2) (F 3) h)) (by kernel_rfl) (((q284_65_eq C lf ff284 (fun F h => ff284 (F 2) (F 3) h) (fun _ _ _ => none)) _ h).trans (by kernel_rfl))
noncomputable def fy284 : YX Tryz.prog := Y1 fx284 fs284 fs284_eq (by kernel_rfl)

/-! FN 285 (*tinsel/blocks.Store).made -/
noncomputable def fx285 : XF Tryz.prog := ⟨285, Tryz.f285, fun _ => .text, Tryz.func285, by kernel_rfl, by kernel_rfl, by kernel_rfl, by kernel_rfl⟩
noncomputable def ff285 (x2 : O) (h : HW) : Rs :=
 ob x2 fun a0 =>
 some (.ret a0, h)
noncomputable def q285_14 (C : YC) (lf : Nat) (r : K1) (x0 : O) (h : HW) : Rs :=
 ob x0 fun a1 =>
 ob (bin Tryz.prog .neq 277 a1 (.val (.pointer none))) fun y2 =>
 bc (gd true (some y2) (ob x0 fun a3 =>
 some (.ret a3, h)) h) fun y4 h4 =>
 bc (gd true (some y2) (ob (semNil y4) fun y5 =>
 some (.ret y5, h4)) h4) fun y6 h6 =>
 bc (gd true (some y2) (ob (fa 0 y6) fun y7 =>
 some (.ret y7, h6)) h6) fun y8 h8 =>
 bc (gd true (some y2) (ob (ld1 y8 h8) fun y9 =>
 some (.ret y9, h8)) h8) fun y10 h10 =>
 bc (gd true (some y2) (ob (bin Tryz.prog .gtr 3 y10 (.int .i64 0)) fun y11 =>
 some (.ret y11, h10)) h10) fun y12 h12 =>
 ob (ypk y2 y12 (.bool false)) fun y13 =>
 r (some y13) h12
theorem q285_14_eq (C : YC) (lf : Nat) (r : K1) (KN : KF) (KE : KX) : ∀ F h, evX fx285 C lf [] F h KN (fun F h => r (F 2) h) KE = q285_14 C lf r (F 0) h := by
  intro F h; kernel_rfl
noncomputable def fs285 (C : YC) (lf : Nat) (a0 : SV) (h : HW) : Rs := q285_14 C lf ff285 (some a0) h
theorem fs285_eq (C : YC) (lf : Nat) (a0 : SV) (h : HW) : yFn Tryz.prog fx285 C lf [a0] h = fs285 C lf a0 h := fnX (K := (fun F h => ff285 (F 2) h)) (by kernel_rfl) (((q285_14_eq C lf ff285 (fun F h => ff285 (F 2) h) (fun _ _ _ => none)) _ h).trans (by kernel_rfl))
noncomputable def fy285 : YX Tryz.prog := Y1 fx285 fs285 fs285_eq (by kernel_rfl)

/-! FN 286 (*tinsel/blocks.Store).Is -/
noncomputable def fx286 : XF Tryz.prog := ⟨286, Tryz.f286, fun _ => .text, Tryz.func286, by kernel_rfl, by kernel_rfl, by kernel_rfl, by kernel_rfl⟩
noncomputable def ff286 (x4 : O) (h : HW) : Rs :=
 ob x4 fun a0 =>
 some (.ret a0, h)
noncomputable def q286_46 (C : YC) (lf : Nat) (r : K1) (x0 x1 : O) (h : HW) : Rs :=
 ob x0 fun a1 =>
 bc (C (.fn 285) [a1] h) fun y2 h2 =>
 bc (gd true (some y2) (ob x1 fun a3 =>
 some (.ret a3, h2)) h2) fun y4 h4 =>
 bc (gd true (some y2) (ob (bin Tryz.prog .geq 3 y4 (.int .i64 0)) fun y5 =>
 some (.ret y5, h4)) h4) fun y6 h6 =>
 ob (ypk y2 y6 (.bool false)) fun y7 =>
 bc (gd true (some y7) (ob x1 fun a8 =>
 some (.ret a8, h6)) h6) fun y9 h9 =>
 bc (gd true (some y7) (ob x0 fun a10 =>
 some (.ret a10, h9)) h9) fun y11 h11 =>
 bc (gd true (some y7) (ob (semNil y11) fun y12 =>
 some (.ret y12, h11)) h11) fun y13 h13 =>
 bc (gd true (some y7) (ob (fa 0 y13) fun y14 =>
 some (.ret y14, h13)) h13) fun y15 h15 =>
 bc (gd true (some y7) (ob (ld1 y15 h15) fun y16 =>
 some (.ret y16, h15)) h15) fun y17 h17 =>
 bc (gd true (some y7) (ob (bin Tryz.prog .lss 3 y9 y17) fun y18 =>
 some (.ret y18, h17)) h17) fun y19 h19 =>
 ob (ypk y7 y19 (.bool false)) fun y20 =>
 bc (gd true (some y20) (ob x0 fun a21 =>
 some (.ret a21, h19)) h19) fun y22 h22 =>
 bc (gd true (some y20) (ob x1 fun a23 =>
 some (.ret a23, h22)) h22) fun y24 h24 =>
 bc (gd true (some y20) (ob (bin Tryz.prog .quo 3 y24 (.int .i64 64)) fun y25 =>
 some (.ret y25, h24)) h24) fun y26 h26 =>
 bc (gd true (some y20) (ob (semNil y22) fun y27 =>
 some (.ret y27, h26)) h26) fun y28 h28 =>
 bc (gd true (some y20) (ob (fa 1 y28) fun y29 =>
 some (.ret y29, h28)) h28) fun y30 h30 =>
 bc (gd true (some y20) (ob (ixA 64 1 y30 y26) fun y31 =>
 some (.ret y31, h30)) h30) fun y32 h32 =>
 bc (gd true (some y20) (ob (ld1 y32 h32) fun y33 =>
 some (.ret y33, h32)) h32) fun y34 h34 =>
 bc (gd true (some y20) (ob x1 fun a35 =>
 some (.ret a35, h34)) h34) fun y36 h36 =>
 bc (gd true (some y20) (ob (bin Tryz.prog .rem 3 y36 (.int .i64 64)) fun y37 =>
 some (.ret y37, h36)) h36) fun y38 h38 =>
 bc (gd true (some y20) (ob (bin Tryz.prog .shr 372 y34 y38) fun y39 =>
 some (.ret y39, h38)) h38) fun y40 h40 =>
 bc (gd true (some y20) (ob (bin Tryz.prog .and 372 y40 (.int .u64 1)) fun y41 =>
 some (.ret y41, h40)) h40) fun y42 h42 =>
 bc (gd true (some y20) (ob (bin Tryz.prog .eql 372 y42 (.int .u64 1)) fun y43 =>
 some (.ret y43, h42)) h42) fun y44 h44 =>
 ob (ypk y20 y44 (.bool false)) fun y45 =>
 r (some y45) h44
theorem q286_46_eq (C : YC) (lf : Nat) (r : K1) (KN : KF) (KE : KX) : ∀ F h, evX fx286 C lf [] F h KN (fun F h => r (F 4) h) KE = q286_46 C lf r (F 0) (F 1) h := by
  intro F h; kernel_rfl
noncomputable def fs286 (C : YC) (lf : Nat) (a0 a1 : SV) (h : HW) : Rs := q286_46 C lf ff286 (some a0) (some a1) h
theorem fs286_eq (C : YC) (lf : Nat) (a0 a1 : SV) (h : HW) : yFn Tryz.prog fx286 C lf [a0, a1] h = fs286 C lf a0 a1 h := fnX (K := (fun F h => ff286 (F 4) h)) (by kernel_rfl) (((q286_46_eq C lf ff286 (fun F h => ff286 (F 4) h) (fun _ _ _ => none)) _ h).trans (by kernel_rfl))
noncomputable def fy286 : YX Tryz.prog := Y2 fx286 fs286 fs286_eq (by kernel_rfl)

/-! FN 289 tinsel/tinselref01.New -/
noncomputable def fx289 : XF Tryz.prog := ⟨289, Tryz.f289, fun r => bif Nat.beq r 1 then .news [0, 2, 1, 3, 4, 5] [1, 3] [] else .text, Tryz.func289, by kernel_rfl, by kernel_rfl, by kernel_rfl, by kernel_rfl⟩
noncomputable def ff289 (x2 : O) (h : HW) : Rs :=
 ob x2 fun a0 =>
 ob (ldN 2 a0 h) fun y1 =>
 some (.ret y1, h)
noncomputable def q289_10 (C : YC) (lf : Nat) (r : K1) (x0 : O) (h : HW) : Rs :=
 b2 (yAl Tryz.prog 387 h) fun y2 h2 =>
 nwB [1, 3] 6 h2 fun b3 h3 =>
 ob x0 fun a4 =>
 ob x0 fun a5 =>
 ck (lowV b3 a4 && lowV b3 a4) <|
 b2 (ynf (ymk Tryz.prog 106 a4 a4) b3 1 h3) fun y6 h6 =>
 ck (lowV b3 a5 && lowV b3 a5) <|
 b2 (ynf (ymk Tryz.prog 385 a5 a5) b3 3 h6) fun y7 h7 =>
 ob (semBuild Tryz.prog 387 [0, 1] [y6, y7]) fun y8 =>
 ob (st 2 y2 y8 h7) fun h9 =>
 r (some y2) h9
theorem q289_10_eq (C : YC) (lf : Nat) (r : K1) (KN : KF) (KE : KX) : ∀ F h, evX fx289 C lf [] F h KN (fun F h => r (F 2) h) KE = q289_10 C lf r (F 0) h := by
  intro F h; kernel_rfl
noncomputable def fs289 (C : YC) (lf : Nat) (a0 : SV) (h : HW) : Rs := q289_10 C lf ff289 (some a0) h
theorem fs289_eq (C : YC) (lf : Nat) (a0 : SV) (h : HW) : yFn Tryz.prog fx289 C lf [a0] h = fs289 C lf a0 h := fnX (K := (fun F h => ff289 (F 2) h)) (by kernel_rfl) (((q289_10_eq C lf ff289 (fun F h => ff289 (F 2) h) (fun _ _ _ => none)) _ h).trans (by kernel_rfl))
noncomputable def fy289 : YX Tryz.prog := Y1 fx289 fs289 fs289_eq (by kernel_rfl)

/-! FN 290 tinsel/tinselref02.kind -/
noncomputable def fx290 : XF Tryz.prog := ⟨290, Tryz.f290, fun _ => .text, Tryz.func290, by kernel_rfl, by kernel_rfl, by kernel_rfl, by kernel_rfl⟩
noncomputable def ff290 (x2 : O) (h : HW) : Rs :=
 ob x2 fun a0 =>
 some (.ret a0, h)
noncomputable def q290_3 (C : YC) (lf : Nat) (r : K1) (x0 : O) (h : HW) : Rs :=
 ob x0 fun a1 =>
 ob (bin Tryz.prog .and 30 a1 (.int .i64 61440)) fun y2 =>
 r (some y2) h
theorem q290_3_eq (C : YC) (lf : Nat) (r : K1) (KN : KF) (KE : KX) : ∀ F h, evX fx290 C lf [] F h KN (fun F h => r (F 2) h) KE = q290_3 C lf r (F 0) h := by
  intro F h; kernel_rfl
noncomputable def fs290 (C : YC) (lf : Nat) (a0 : SV) (h : HW) : Rs := q290_3 C lf ff290 (some a0) h
theorem fs290_eq (C : YC) (lf : Nat) (a0 : SV) (h : HW) : yFn Tryz.prog fx290 C lf [a0] h = fs290 C lf a0 h := fnX (K := (fun F h => ff290 (F 2) h)) (by kernel_rfl) (((q290_3_eq C lf ff290 (fun F h => ff290 (F 2) h) (fun _ _ _ => none)) _ h).trans (by kernel_rfl))
noncomputable def fy290 : YX Tryz.prog := Y1 fx290 fs290 fs290_eq (by kernel_rfl)

/-! FN 291 tinsel/tinselref04.Of -/
noncomputable def fx291 : XF Tryz.prog := ⟨291, Tryz.f291, fun _ => .text, Tryz.func291, by kernel_rfl, by kernel_rfl, by kernel_rfl, by kernel_rfl⟩
noncomputable def ff291 (x4 : O) (h : HW) : Rs :=
 ob x4 fun a0 =>
 some (.ret a0, h)
noncomputable def q291_16 (C : YC) (lf : Nat) (r : K1) (x0 x1 : O) (h : HW) : Rs :=
 ob x0 fun a1 =>
 ob x1 fun a2 =>
 bc (C (.fn 292) [a1, a2] h) fun y3 h3 =>
 ob (unE .not y3) fun y4 =>
 yIf y4
 (r (some (.int .i64 2)) h3)
 (ob x0 fun a5 =>
 ob (semNil a5) fun y6 =>
 ob (fa 4 y6) fun y7 =>
 ob (ld1 y7 h3) fun y8 =>
 ob x1 fun a9 =>
 ob (ixS 308 y8 a9) fun y10 =>
 ob (fa 1 y10) fun y11 =>
 ob (fa 6 y11) fun y12 =>
 ob (ld1 y12 h3) fun y13 =>
 ob (bin Tryz.prog .and 30 y13 (.int .i64 61440)) fun y14 =>
 ob (bin Tryz.prog .neq 30 y14 (.int .i64 16384)) fun y15 =>
 yIf y15
 (r (some (.int .i64 20)) h3)
 (r (some (.int .i64 0)) h3))
theorem q291_16_eq (C : YC) (lf : Nat) (r : K1) (KN : KF) (KE : KX) : ∀ F h, evX fx291 C lf [] F h KN (fun F h => r (F 4) h) KE = q291_16 C lf r (F 0) (F 1) h := by
  intro F h; kernel_rfl
noncomputable def fs291 (C : YC) (lf : Nat) (a0 a1 : SV) (h : HW) : Rs := q291_16 C lf ff291 (some a0) (some a1) h
theorem fs291_eq (C : YC) (lf : Nat) (a0 a1 : SV) (h : HW) : yFn Tryz.prog fx291 C lf [a0, a1] h = fs291 C lf a0 a1 h := fnX (K := (fun F h => ff291 (F 4) h)) (by kernel_rfl) (((q291_16_eq C lf ff291 (fun F h => ff291 (F 4) h) (fun _ _ _ => none)) _ h).trans (by kernel_rfl))
noncomputable def fy291 : YX Tryz.prog := Y2 fx291 fs291 fs291_eq (by kernel_rfl)

/-! FN 292 (*tinsel/tinselref02.Table).Is -/
noncomputable def fx292 : XF Tryz.prog := ⟨292, Tryz.f292, fun _ => .text, Tryz.func292, by kernel_rfl, by kernel_rfl, by kernel_rfl, by kernel_rfl⟩
noncomputable def ff292 (x4 : O) (h : HW) : Rs :=
 ob x4 fun a0 =>
 some (.ret a0, h)
noncomputable def q292_33 (C : YC) (lf : Nat) (r : K1) (x0 x1 : O) (h : HW) : Rs :=
 ob x1 fun a1 =>
 ob (bin Tryz.prog .gtr 3 a1 (.int .i64 0)) fun y2 =>
 bc (gd true (some y2) (ob x1 fun a3 =>
 some (.ret a3, h)) h) fun y4 h4 =>
 bc (gd true (some y2) (ob x0 fun a5 =>
 some (.ret a5, h4)) h4) fun y6 h6 =>
 bc (gd true (some y2) (ob (semNil y6) fun y7 =>
 some (.ret y7, h6)) h6) fun y8 h8 =>
 bc (gd true (some y2) (ob (fa 2 y8) fun y9 =>
 some (.ret y9, h8)) h8) fun y10 h10 =>
 bc (gd true (some y2) (ob (ld1 y10 h10) fun y11 =>
 some (.ret y11, h10)) h10) fun y12 h12 =>
 bc (gd true (some y2) (ob (bin Tryz.prog .leq 3 y4 y12) fun y13 =>
 some (.ret y13, h12)) h12) fun y14 h14 =>
 ob (ypk y2 y14 (.bool false)) fun y15 =>
 bc (gd true (some y15) (ob x0 fun a16 =>
 some (.ret a16, h14)) h14) fun y17 h17 =>
 bc (gd true (some y15) (ob (semNil y17) fun y18 =>
 some (.ret y18, h17)) h17) fun y19 h19 =>
 bc (gd true (some y15) (ob (fa 4 y19) fun y20 =>
 some (.ret y20, h19)) h19) fun y21 h21 =>
 bc (gd true (some y15) (ob (ld1 y21 h21) fun y22 =>
 some (.ret y22, h21)) h21) fun y23 h23 =>
 bc (gd true (some y15) (ob x1 fun a24 =>
 some (.ret a24, h23)) h23) fun y25 h25 =>
 bc (gd true (some y15) (ob (ixS 308 y23 y25) fun y26 =>
 some (.ret y26, h25)) h25) fun y27 h27 =>
 bc (gd true (some y15) (ob (fa 0 y27) fun y28 =>
 some (.ret y28, h27)) h27) fun y29 h29 =>
 bc (gd true (some y15) (ob (ld1 y29 h29) fun y30 =>
 some (.ret y30, h29)) h29) fun y31 h31 =>
 ob (ypk y15 y31 (.bool false)) fun y32 =>
 r (some y32) h31
theorem q292_33_eq (C : YC) (lf : Nat) (r : K1) (KN : KF) (KE : KX) : ∀ F h, evX fx292 C lf [] F h KN (fun F h => r (F 4) h) KE = q292_33 C lf r (F 0) (F 1) h := by
  intro F h; kernel_rfl
noncomputable def fs292 (C : YC) (lf : Nat) (a0 a1 : SV) (h : HW) : Rs := q292_33 C lf ff292 (some a0) (some a1) h
theorem fs292_eq (C : YC) (lf : Nat) (a0 a1 : SV) (h : HW) : yFn Tryz.prog fx292 C lf [a0, a1] h = fs292 C lf a0 a1 h := fnX (K := (fun F h => ff292 (F 4) h)) (by kernel_rfl) (((q292_33_eq C lf ff292 (fun F h => ff292 (F 4) h) (fun _ _ _ => none)) _ h).trans (by kernel_rfl))
noncomputable def fy292 : YX Tryz.prog := Y2 fx292 fs292 fs292_eq (by kernel_rfl)

/-! FN 293 tinsel/tinselref04.made -/
noncomputable def fx293 : XF Tryz.prog := ⟨293, Tryz.f293, fun _ => .text, Tryz.func293, by kernel_rfl, by kernel_rfl, by kernel_rfl, by kernel_rfl⟩
noncomputable def ff293 (x4 : O) (h : HW) : Rs :=
 ob x4 fun a0 =>
 some (.ret a0, h)
noncomputable def q293_6 (C : YC) (lf : Nat) (r : K1) (x1 x5 : O) (h : HW) : Rs :=
 ob x5 fun a1 =>
 ob (semSlice Tryz.prog 31 a1 (some (.int .i64 4)) none) fun y2 =>
 ob x1 fun a3 =>
 b2 (ybl Tryz.prog .copy #[31, 9] [y2, a3] h) fun y4 h4 =>
 ob x5 fun a5 =>
 r (some a5) h4
theorem q293_6_eq (C : YC) (lf : Nat) (r : K1) (KN : KF) (KE : KX) : ∀ F h, evX fx293 C lf [1, 1, 1] F h KN (fun F h => r (F 4) h) KE = q293_6 C lf r (F 1) (F 5) h := by
  intro F h; kernel_rfl
noncomputable def q293_20 (C : YC) (lf : Nat) (n : K4) (e0 : K2) (x0 x1 x5 x8 : O) (h : HW) : Rs :=
 ob x8 fun a8 =>
 ob (bin Tryz.prog .lss 3 a8 (.int .i64 4)) fun y9 =>
 yIf y9
 (ob x8 fun a10 =>
 ob x5 fun a11 =>
 ob x0 fun a12 =>
 ob (bin Tryz.prog .mul 3 (.int .i64 8) a10) fun y13 =>
 ob (bin Tryz.prog .shr 3 a12 y13) fun y14 =>
 ob (cvI .u8 y14) fun y15 =>
 ob (ixS 1 a11 a10) fun y16 =>
 ob (st 1 y16 y15 h) fun h17 =>
 ob x8 fun a18 =>
 ob (bin Tryz.prog .add 3 a18 (.int .i64 1)) fun y19 =>
 n x0 x1 x5 (some y19) h17)
 (e0 x1 x5 h)
theorem q293_20_eq (C : YC) (lf : Nat) (n : K4) (e0 : K2) (KR : KF) (KE : KX) : ∀ F h, evX fx293 C lf [1, 1, 0, 1, 0, 0] F h (fun F h => n (F 0) (F 1) (F 5) (F 8) h) KR (bk 0 (fun F h => e0 (F 1) (F 5) h) KE) = q293_20 C lf n e0 (F 0) (F 1) (F 5) (F 8) h := by
  intro F h; kernel_rfl
noncomputable def l293_7 (C : YC) (lf : Nat) (e0 : K2) (k : O × O × O × O → HW → Rs) (s : O × O × O × O) (h : HW) : Rs :=
 q293_20 C lf (fun x0 x1 x5 x8 h => k (x0, x1, x5, x8) h) e0 s.1 s.2.1 s.2.2.1 s.2.2.2 h
noncomputable def q293_21 (C : YC) (lf : Nat) (n : K4) (x0 x1 x5 : O) (h : HW) : Rs :=
 n x0 x1 x5 (some (.int .i64 0)) h
theorem q293_21_eq (C : YC) (lf : Nat) (n : K4) (KR : KF) (KE : KX) : ∀ F h, evX fx293 C lf [1, 1, 0, 0] F h (fun F h => n (F 0) (F 1) (F 5) (F 8) h) KR KE = q293_21 C lf n (F 0) (F 1) (F 5) h := by
  intro F h; kernel_rfl
noncomputable def q293_22 (C : YC) (lf : Nat) (n : K2) (x0 x1 x5 : O) (h : HW) : Rs :=
 q293_21 C lf (fun x0 x1 x5 x8 h => lp (l293_7 C lf n) lf (x0, x1, x5, x8) h) x0 x1 x5 h
theorem q293_22_eq (C : YC) (lf : Nat) (n : K2) (KR : KF) (KE : KX) : ∀ F h, evX fx293 C lf [1, 1, 0] F h (fun F h => n (F 1) (F 5) h) KR KE = q293_22 C lf n (F 0) (F 1) (F 5) h := cSeq (a := subX fx293 [1, 1, 0, 0]) (b := subX fx293 [1, 1, 0, 1]) (by kernel_rfl) (B := (fun F h => lp (l293_7 C lf n) lf ((F 0), (F 1), (F 5), (F 8)) h)) (cBlock (id := 0) (a := subX fx293 [1, 1, 0, 1, 0]) (by kernel_rfl) (cLoop (a := subX fx293 [1, 1, 0, 1, 0, 0]) (g := fun F => (F 0, F 1, F 5, F 8)) (body := l293_7 C lf n) (by kernel_rfl) (fun k => (q293_20_eq C lf (fun x0 x1 x5 x8 h => k (x0, x1, x5, x8) h) n KR KE)))) (q293_21_eq C lf (fun x0 x1 x5 x8 h => lp (l293_7 C lf n) lf (x0, x1, x5, x8) h) KR KE)
noncomputable def q293_23 (C : YC) (lf : Nat) (r : K1) (x0 x1 x5 : O) (h : HW) : Rs :=
 q293_22 C lf (fun x1 x5 h => q293_6 C lf r x1 x5 h) x0 x1 x5 h
theorem q293_23_eq (C : YC) (lf : Nat) (r : K1) (KN : KF) (KE : KX) : ∀ F h, evX fx293 C lf [1, 1] F h KN (fun F h => r (F 4) h) KE = q293_23 C lf r (F 0) (F 1) (F 5) h := cSeq (a := subX fx293 [1, 1, 0]) (b := subX fx293 [1, 1, 1]) (by kernel_rfl) (B := (fun F h => q293_6 C lf r (F 1) (F 5) h)) (q293_6_eq C lf r KN KE) (q293_22_eq C lf (fun x1 x5 h => q293_6 C lf r x1 x5 h) (fun F h => r (F 4) h) KE)
noncomputable def q293_25 (C : YC) (lf : Nat) (n : K3) (x0 x1 : O) (h : HW) : Rs :=
 b2 (ymk Tryz.prog 31 (.int .i64 32) (.int .i64 32) h) fun y24 h24 =>
 n x0 x1 (some y24) h24
theorem q293_25_eq (C : YC) (lf : Nat) (n : K3) (KR : KF) (KE : KX) : ∀ F h, evX fx293 C lf [1, 0] F h (fun F h => n (F 0) (F 1) (F 5) h) KR KE = q293_25 C lf n (F 0) (F 1) h := by
  intro F h; kernel_rfl
noncomputable def q293_26 (C : YC) (lf : Nat) (r : K1) (x0 x1 : O) (h : HW) : Rs :=
 q293_25 C lf (fun x0 x1 x5 h => q293_23 C lf r x0 x1 x5 h) x0 x1 h
theorem q293_26_eq (C : YC) (lf : Nat) (r : K1) (KN : KF) (KE : KX) : ∀ F h, evX fx293 C lf [1] F h KN (fun F h => r (F 4) h) KE = q293_26 C lf r (F 0) (F 1) h := cSeq (a := subX fx293 [1, 0]) (b := subX fx293 [1, 1]) (by kernel_rfl) (B := (fun F h => q293_23 C lf r (F 0) (F 1) (F 5) h)) (q293_23_eq C lf r KN KE) (q293_25_eq C lf (fun x0 x1 x5 h => q293_23 C lf r x0 x1 x5 h) (fun F h => r (F 4) h) KE)
noncomputable def q293_27 (C : YC) (lf : Nat) (n : K2) (x0 x1 : O) (h : HW) : Rs :=
 n x0 x1 h
theorem q293_27_eq (C : YC) (lf : Nat) (n : K2) (KR : KF) (KE : KX) : ∀ F h, evX fx293 C lf [0] F h (fun F h => n (F 0) (F 1) h) KR KE = q293_27 C lf n (F 0) (F 1) h := by
  intro F h; kernel_rfl
noncomputable def q293_28 (C : YC) (lf : Nat) (r : K1) (x0 x1 : O) (h : HW) : Rs :=
 q293_27 C lf (fun x0 x1 h => q293_26 C lf r x0 x1 h) x0 x1 h
theorem q293_28_eq (C : YC) (lf : Nat) (r : K1) (KN : KF) (KE : KX) : ∀ F h, evX fx293 C lf [] F h KN (fun F h => r (F 4) h) KE = q293_28 C lf r (F 0) (F 1) h := cSeq (a := subX fx293 [0]) (b := subX fx293 [1]) (by kernel_rfl) (B := (fun F h => q293_26 C lf r (F 0) (F 1) h)) (q293_26_eq C lf r KN KE) (q293_27_eq C lf (fun x0 x1 h => q293_26 C lf r x0 x1 h) (fun F h => r (F 4) h) KE)
noncomputable def fs293 (C : YC) (lf : Nat) (a0 a1 : SV) (h : HW) : Rs := q293_28 C lf ff293 (some a0) (some a1) h
theorem fs293_eq (C : YC) (lf : Nat) (a0 a1 : SV) (h : HW) : yFn Tryz.prog fx293 C lf [a0, a1] h = fs293 C lf a0 a1 h := fnX (K := (fun F h => ff293 (F 4) h)) (by kernel_rfl) (((q293_28_eq C lf ff293 (fun F h => ff293 (F 4) h) (fun _ _ _ => none)) _ h).trans (by kernel_rfl))
noncomputable def fy293 : YX Tryz.prog := Y2 fx293 fs293 fs293_eq (by kernel_rfl)

/-! FN 294 (*tinsel/tinselref02.Table).gone -/
noncomputable def fx294 : XF Tryz.prog := ⟨294, Tryz.f294, fun _ => .text, Tryz.func294, by kernel_rfl, by kernel_rfl, by kernel_rfl, by kernel_rfl⟩
noncomputable def ff294 (h : HW) : Rs :=
 some (.ret (.tup []), h)
noncomputable def q294_40 (C : YC) (lf : Nat) (n : K0) (x0 x1 : O) (h : HW) : Rs :=
 ob x0 fun a0 =>
 ob (semNil a0) fun y1 =>
 ob (fa 4 y1) fun y2 =>
 ob (ld1 y2 h) fun y3 =>
 ob x1 fun a4 =>
 ob (ixS 308 y3 a4) fun y5 =>
 ob (fa 1 y5) fun y6 =>
 ob (fa 1 y6) fun y7 =>
 ob (ld1 y7 h) fun y8 =>
 ob (bin Tryz.prog .eql 3 y8 (.int .i64 0)) fun y9 =>
 bc (gd true (some y9) (ob x0 fun a10 =>
 some (.ret a10, h)) h) fun y11 h11 =>
 bc (gd true (some y9) (ob (semNil y11) fun y12 =>
 some (.ret y12, h11)) h11) fun y13 h13 =>
 bc (gd true (some y9) (ob (fa 4 y13) fun y14 =>
 some (.ret y14, h13)) h13) fun y15 h15 =>
 bc (gd true (some y9) (ob (ld1 y15 h15) fun y16 =>
 some (.ret y16, h15)) h15) fun y17 h17 =>
 bc (gd true (some y9) (ob x1 fun a18 =>
 some (.ret a18, h17)) h17) fun y19 h19 =>
 bc (gd true (some y9) (ob (ixS 308 y17 y19) fun y20 =>
 some (.ret y20, h19)) h19) fun y21 h21 =>
 bc (gd true (some y9) (ob (fa 11 y21) fun y22 =>
 some (.ret y22, h21)) h21) fun y23 h23 =>
 bc (gd true (some y9) (ob (ld1 y23 h23) fun y24 =>
 some (.ret y24, h23)) h23) fun y25 h25 =>
 bc (gd true (some y9) (ob (bin Tryz.prog .eql 3 y25 (.int .i64 0)) fun y26 =>
 some (.ret y26, h25)) h25) fun y27 h27 =>
 ob (ypk y9 y27 (.bool false)) fun y28 =>
 yIf y28
 (ob x0 fun a29 =>
 ob x1 fun a30 =>
 bc (C (.fn 326) [a29, a30, (.int .i64 0)] h27) fun y31 h31 =>
 ob x0 fun a32 =>
 ob (semNil a32) fun y33 =>
 ob (fa 4 y33) fun y34 =>
 ob (ld1 y34 h31) fun y35 =>
 ob x1 fun a36 =>
 ob (semBuild Tryz.prog 395 [] []) fun y37 =>
 ob (ixS 308 y35 a36) fun y38 =>
 ob (st 308 y38 y37 h31) fun h39 =>
 n h39)
 (n h27)
theorem q294_40_eq (C : YC) (lf : Nat) (n : K0) (KR : KF) (KE : KX) : ∀ F h, evX fx294 C lf [] F h (fun F h => n h) KR KE = q294_40 C lf n (F 0) (F 1) h := by
  intro F h; kernel_rfl
noncomputable def fs294 (C : YC) (lf : Nat) (a0 a1 : SV) (h : HW) : Rs := q294_40 C lf ff294 (some a0) (some a1) h
theorem fs294_eq (C : YC) (lf : Nat) (a0 a1 : SV) (h : HW) : yFn Tryz.prog fx294 C lf [a0, a1] h = fs294 C lf a0 a1 h := fnX (K := (fun F h => ff294 h)) (by kernel_rfl) (((q294_40_eq C lf ff294 (fun F h => ff294 h) (fun _ _ _ => none)) _ h).trans (by kernel_rfl))
noncomputable def fy294 : YX Tryz.prog := Y2 fx294 fs294 fs294_eq (by kernel_rfl)

/-! FN 296 (*tinsel/tinselref06.FS).gone -/
noncomputable def fx296 : XF Tryz.prog := ⟨296, Tryz.f296, fun _ => .text, Tryz.func296, by kernel_rfl, by kernel_rfl, by kernel_rfl, by kernel_rfl⟩
noncomputable def ff296 (x4 : O) (h : HW) : Rs :=
 ob x4 fun a0 =>
 some (.ret a0, h)
noncomputable def q296_14 (C : YC) (lf : Nat) (r : K1) (x0 x1 : O) (h : HW) : Rs :=
 ob x0 fun a1 =>
 ob (semNil a1) fun y2 =>
 ob (fa 0 y2) fun y3 =>
 ob (ld1 y3 h) fun y4 =>
 ob (semNil y4) fun y5 =>
 ob (fa 4 y5) fun y6 =>
 ob (ld1 y6 h) fun y7 =>
 ob x1 fun a8 =>
 ob (ixS 308 y7 a8) fun y9 =>
 ob (fa 1 y9) fun y10 =>
 ob (fa 1 y10) fun y11 =>
 ob (ld1 y11 h) fun y12 =>
 ob (bin Tryz.prog .eql 3 y12 (.int .i64 0)) fun y13 =>
 r (some y13) h
theorem q296_14_eq (C : YC) (lf : Nat) (r : K1) (KN : KF) (KE : KX) : ∀ F h, evX fx296 C lf [] F h KN (fun F h => r (F 4) h) KE = q296_14 C lf r (F 0) (F 1) h := by
  intro F h; kernel_rfl
noncomputable def fs296 (C : YC) (lf : Nat) (a0 a1 : SV) (h : HW) : Rs := q296_14 C lf ff296 (some a0) (some a1) h
theorem fs296_eq (C : YC) (lf : Nat) (a0 a1 : SV) (h : HW) : yFn Tryz.prog fx296 C lf [a0, a1] h = fs296 C lf a0 a1 h := fnX (K := (fun F h => ff296 (F 4) h)) (by kernel_rfl) (((q296_14_eq C lf ff296 (fun F h => ff296 (F 4) h) (fun _ _ _ => none)) _ h).trans (by kernel_rfl))
noncomputable def fy296 : YX Tryz.prog := Y2 fx296 fs296 fs296_eq (by kernel_rfl)

/-! FN 297 (*tinsel/tinselref02.Table).Used -/
noncomputable def fx297 : XF Tryz.prog := ⟨297, Tryz.f297, fun _ => .text, Tryz.func297, by kernel_rfl, by kernel_rfl, by kernel_rfl, by kernel_rfl⟩
noncomputable def ff297 (x2 : O) (h : HW) : Rs :=
 ob x2 fun a0 =>
 some (.ret a0, h)
noncomputable def q297_2 (C : YC) (lf : Nat) (r : K1) (x3 : O) (h : HW) : Rs :=
 ob x3 fun a1 =>
 r (some a1) h
theorem q297_2_eq (C : YC) (lf : Nat) (r : K1) (KN : KF) (KE : KX) : ∀ F h, evX fx297 C lf [1, 1, 1] F h KN (fun F h => r (F 2) h) KE = q297_2 C lf r (F 3) h := by
  intro F h; kernel_rfl
noncomputable def q297_26 (C : YC) (lf : Nat) (n : K3) (e0 : K1) (x0 x3 x4 : O) (h : HW) : Rs :=
 ob x4 fun a4 =>
 ob x0 fun a5 =>
 ob (semNil a5) fun y6 =>
 ob (fa 2 y6) fun y7 =>
 ob (ld1 y7 h) fun y8 =>
 ob (bin Tryz.prog .leq 3 a4 y8) fun y9 =>
 yIf y9
 (ob x0 fun a10 =>
 ob (semNil a10) fun y11 =>
 ob (fa 4 y11) fun y12 =>
 ob (ld1 y12 h) fun y13 =>
 ob x4 fun a14 =>
 ob (ixS 308 y13 a14) fun y15 =>
 ob (fa 0 y15) fun y16 =>
 ob (ld1 y16 h) fun y17 =>
 yIf y17
 (ob x3 fun a18 =>
 ob x4 fun a19 =>
 b2 (ybs Tryz.prog 44 1 [0] [a19] h) fun y20 h20 =>
 b2 (ybl Tryz.prog .append #[44, 44] [a18, y20] h20) fun y21 h21 =>
 ob x4 fun a22 =>
 ob (bin Tryz.prog .add 3 a22 (.int .i64 1)) fun y23 =>
 n x0 (some y21) (some y23) h21)
 (ob x4 fun a24 =>
 ob (bin Tryz.prog .add 3 a24 (.int .i64 1)) fun y25 =>
 n x0 x3 (some y25) h))
 (e0 x3 h)
theorem q297_26_eq (C : YC) (lf : Nat) (n : K3) (e0 : K1) (KR : KF) (KE : KX) : ∀ F h, evX fx297 C lf [1, 1, 0, 1, 0, 0] F h (fun F h => n (F 0) (F 3) (F 4) h) KR (bk 0 (fun F h => e0 (F 3) h) KE) = q297_26 C lf n e0 (F 0) (F 3) (F 4) h := by
  intro F h; kernel_rfl
noncomputable def l297_3 (C : YC) (lf : Nat) (e0 : K1) (k : O × O × O → HW → Rs) (s : O × O × O) (h : HW) : Rs :=
 q297_26 C lf (fun x0 x3 x4 h => k (x0, x3, x4) h) e0 s.1 s.2.1 s.2.2 h
noncomputable def q297_27 (C : YC) (lf : Nat) (n : K3) (x0 x3 : O) (h : HW) : Rs :=
 n x0 x3 (some (.int .i64 1)) h
theorem q297_27_eq (C : YC) (lf : Nat) (n : K3) (KR : KF) (KE : KX) : ∀ F h, evX fx297 C lf [1, 1, 0, 0] F h (fun F h => n (F 0) (F 3) (F 4) h) KR KE = q297_27 C lf n (F 0) (F 3) h := by
  intro F h; kernel_rfl
noncomputable def q297_28 (C : YC) (lf : Nat) (n : K1) (x0 x3 : O) (h : HW) : Rs :=
 q297_27 C lf (fun x0 x3 x4 h => lp (l297_3 C lf n) lf (x0, x3, x4) h) x0 x3 h
theorem q297_28_eq (C : YC) (lf : Nat) (n : K1) (KR : KF) (KE : KX) : ∀ F h, evX fx297 C lf [1, 1, 0] F h (fun F h => n (F 3) h) KR KE = q297_28 C lf n (F 0) (F 3) h := cSeq (a := subX fx297 [1, 1, 0, 0]) (b := subX fx297 [1, 1, 0, 1]) (by kernel_rfl) (B := (fun F h => lp (l297_3 C lf n) lf ((F 0), (F 3), (F 4)) h)) (cBlock (id := 0) (a := subX fx297 [1, 1, 0, 1, 0]) (by kernel_rfl) (cLoop (a := subX fx297 [1, 1, 0, 1, 0, 0]) (g := fun F => (F 0, F 3, F 4)) (body := l297_3 C lf n) (by kernel_rfl) (fun k => (q297_26_eq C lf (fun x0 x3 x4 h => k (x0, x3, x4) h) n KR KE)))) (q297_27_eq C lf (fun x0 x3 x4 h => lp (l297_3 C lf n) lf (x0, x3, x4) h) KR KE)
noncomputable def q297_29 (C : YC) (lf : Nat) (r : K1) (x0 x3 : O) (h : HW) : Rs :=
 q297_28 C lf (fun x3 h => q297_2 C lf r x3 h) x0 x3 h
theorem q297_29_eq (C : YC) (lf : Nat) (r : K1) (KN : KF) (KE : KX) : ∀ F h, evX fx297 C lf [1, 1] F h KN (fun F h => r (F 2) h) KE = q297_29 C lf r (F 0) (F 3) h := cSeq (a := subX fx297 [1, 1, 0]) (b := subX fx297 [1, 1, 1]) (by kernel_rfl) (B := (fun F h => q297_2 C lf r (F 3) h)) (q297_2_eq C lf r KN KE) (q297_28_eq C lf (fun x3 h => q297_2 C lf r x3 h) (fun F h => r (F 2) h) KE)
noncomputable def q297_30 (C : YC) (lf : Nat) (n : K2) (x0 : O) (h : HW) : Rs :=
 n x0 (some (.val (.slice none 0 0))) h
theorem q297_30_eq (C : YC) (lf : Nat) (n : K2) (KR : KF) (KE : KX) : ∀ F h, evX fx297 C lf [1, 0] F h (fun F h => n (F 0) (F 3) h) KR KE = q297_30 C lf n (F 0) h := by
  intro F h; kernel_rfl
noncomputable def q297_31 (C : YC) (lf : Nat) (r : K1) (x0 : O) (h : HW) : Rs :=
 q297_30 C lf (fun x0 x3 h => q297_29 C lf r x0 x3 h) x0 h
theorem q297_31_eq (C : YC) (lf : Nat) (r : K1) (KN : KF) (KE : KX) : ∀ F h, evX fx297 C lf [1] F h KN (fun F h => r (F 2) h) KE = q297_31 C lf r (F 0) h := cSeq (a := subX fx297 [1, 0]) (b := subX fx297 [1, 1]) (by kernel_rfl) (B := (fun F h => q297_29 C lf r (F 0) (F 3) h)) (q297_29_eq C lf r KN KE) (q297_30_eq C lf (fun x0 x3 h => q297_29 C lf r x0 x3 h) (fun F h => r (F 2) h) KE)
noncomputable def q297_32 (C : YC) (lf : Nat) (n : K1) (x0 : O) (h : HW) : Rs :=
 n x0 h
theorem q297_32_eq (C : YC) (lf : Nat) (n : K1) (KR : KF) (KE : KX) : ∀ F h, evX fx297 C lf [0] F h (fun F h => n (F 0) h) KR KE = q297_32 C lf n (F 0) h := by
  intro F h; kernel_rfl
noncomputable def q297_33 (C : YC) (lf : Nat) (r : K1) (x0 : O) (h : HW) : Rs :=
 q297_32 C lf (fun x0 h => q297_31 C lf r x0 h) x0 h
theorem q297_33_eq (C : YC) (lf : Nat) (r : K1) (KN : KF) (KE : KX) : ∀ F h, evX fx297 C lf [] F h KN (fun F h => r (F 2) h) KE = q297_33 C lf r (F 0) h := cSeq (a := subX fx297 [0]) (b := subX fx297 [1]) (by kernel_rfl) (B := (fun F h => q297_31 C lf r (F 0) h)) (q297_31_eq C lf r KN KE) (q297_32_eq C lf (fun x0 h => q297_31 C lf r x0 h) (fun F h => r (F 2) h) KE)
noncomputable def fs297 (C : YC) (lf : Nat) (a0 : SV) (h : HW) : Rs := q297_33 C lf ff297 (some a0) h
theorem fs297_eq (C : YC) (lf : Nat) (a0 : SV) (h : HW) : yFn Tryz.prog fx297 C lf [a0] h = fs297 C lf a0 h := fnX (K := (fun F h => ff297 (F 2) h)) (by kernel_rfl) (((q297_33_eq C lf ff297 (fun F h => ff297 (F 2) h) (fun _ _ _ => none)) _ h).trans (by kernel_rfl))
noncomputable def fy297 : YX Tryz.prog := Y1 fx297 fs297 fs297_eq (by kernel_rfl)

/-! FN 298 (*tinsel/tinselref06.FS).room -/
noncomputable def fx298 : XF Tryz.prog := ⟨298, Tryz.f298, fun _ => .text, Tryz.func298, by kernel_rfl, by kernel_rfl, by kernel_rfl, by kernel_rfl⟩
noncomputable def ff298 (x6 : O) (h : HW) : Rs :=
 ob x6 fun a0 =>
 some (.ret a0, h)
noncomputable def q298_27 (C : YC) (lf : Nat) (r : K1) (x0 x1 x2 : O) (h : HW) : Rs :=
 ob x0 fun a1 =>
 ob x1 fun a2 =>
 bc (C (.fn 335) [a1, a2] h) fun y3 h3 =>
 ob (bin Tryz.prog .geq 3 y3 (.int .i64 0)) fun y4 =>
 bc (gd true (some y4) (ob x0 fun a5 =>
 some (.ret a5, h3)) h3) fun y6 h6 =>
 bc (gd true (some y4) (ob (semNil y6) fun y7 =>
 some (.ret y7, h6)) h6) fun y8 h8 =>
 bc (gd true (some y4) (ob (fa 0 y8) fun y9 =>
 some (.ret y9, h8)) h8) fun y10 h10 =>
 bc (gd true (some y4) (ob (ld1 y10 h10) fun y11 =>
 some (.ret y11, h10)) h10) fun y12 h12 =>
 bc (gd true (some y4) (ob (semNil y12) fun y13 =>
 some (.ret y13, h12)) h12) fun y14 h14 =>
 bc (gd true (some y4) (ob (fa 0 y14) fun y15 =>
 some (.ret y15, h14)) h14) fun y16 h16 =>
 bc (gd true (some y4) (bc (C (.fn 336) [y16] h16) fun y17 h17 =>
 some (.ret y17, h17)) h16) fun y18 h18 =>
 bc (gd true (some y4) (some (.ret y3, h18)) h18) fun y19 h19 =>
 bc (gd true (some y4) (ob x2 fun a20 =>
 some (.ret a20, h19)) h19) fun y21 h21 =>
 bc (gd true (some y4) (ob (bin Tryz.prog .add 3 y19 y21) fun y22 =>
 some (.ret y22, h21)) h21) fun y23 h23 =>
 bc (gd true (some y4) (ob (bin Tryz.prog .geq 3 y18 y23) fun y24 =>
 some (.ret y24, h23)) h23) fun y25 h25 =>
 ob (ypk y4 y25 (.bool false)) fun y26 =>
 r (some y26) h25
theorem q298_27_eq (C : YC) (lf : Nat) (r : K1) (KN : KF) (KE : KX) : ∀ F h, evX fx298 C lf [] F h KN (fun F h => r (F 6) h) KE = q298_27 C lf r (F 0) (F 1) (F 2) h := by
  intro F h; kernel_rfl
noncomputable def fs298 (C : YC) (lf : Nat) (a0 a1 a2 : SV) (h : HW) : Rs := q298_27 C lf ff298 (some a0) (some a1) (some a2) h
theorem fs298_eq (C : YC) (lf : Nat) (a0 a1 a2 : SV) (h : HW) : yFn Tryz.prog fx298 C lf [a0, a1, a2] h = fs298 C lf a0 a1 a2 h := fnX (K := (fun F h => ff298 (F 6) h)) (by kernel_rfl) (((q298_27_eq C lf ff298 (fun F h => ff298 (F 6) h) (fun _ _ _ => none)) _ h).trans (by kernel_rfl))
noncomputable def fy298 : YX Tryz.prog := Y3 fx298 fs298 fs298_eq (by kernel_rfl)

/-! FN 299 (*tinsel/tinselref06.FS).group -/
noncomputable def fx299 : XF Tryz.prog := ⟨299, Tryz.f299, fun _ => .text, Tryz.func299, by kernel_rfl, by kernel_rfl, by kernel_rfl, by kernel_rfl⟩
noncomputable def ff299 (x6 : O) (h : HW) : Rs :=
 ob x6 fun a0 =>
 some (.ret a0, h)
noncomputable def q299_31 (C : YC) (lf : Nat) (r : K1) (x0 x1 x2 : O) (h : HW) : Rs :=
 ob x1 fun a1 =>
 b2 (ybx 46 a1 h) fun y2 h2 =>
 ob x0 fun a3 =>
 ob (semNil a3) fun y4 =>
 ob (fa 0 y4) fun y5 =>
 ob (ld1 y5 h2) fun y6 =>
 ob (semNil y6) fun y7 =>
 ob (fa 4 y7) fun y8 =>
 ob (ld1 y8 h2) fun y9 =>
 ob x2 fun a10 =>
 ob (ixS 308 y9 a10) fun y11 =>
 ob (fa 1 y11) fun y12 =>
 ob (fa 6 y12) fun y13 =>
 ob (ld1 y13 h2) fun y14 =>
 ob (bin Tryz.prog .and 30 y14 (.int .i64 1024)) fun y15 =>
 ob (bin Tryz.prog .neq 30 y15 (.int .i64 0)) fun y16 =>
 yIf y16
 (ob x0 fun a17 =>
 ob (semNil a17) fun y18 =>
 ob (fa 0 y18) fun y19 =>
 ob (ld1 y19 h2) fun y20 =>
 ob (semNil y20) fun y21 =>
 ob (fa 4 y21) fun y22 =>
 ob (ld1 y22 h2) fun y23 =>
 ob x2 fun a24 =>
 ob (ixS 308 y23 a24) fun y25 =>
 ob (fa 1 y25) fun y26 =>
 ob (fa 3 y26) fun y27 =>
 ob (ld1 y27 h2) fun y28 =>
 r (some y28) h2)
 (ob (fa 1 y2) fun y29 =>
 ob (ld1 y29 h2) fun y30 =>
 r (some y30) h2)
theorem q299_31_eq (C : YC) (lf : Nat) (r : K1) (KN : KF) (KE : KX) : ∀ F h, evX fx299 C lf [] F h KN (fun F h => r (F 6) h) KE = q299_31 C lf r (F 0) (F 1) (F 2) h := by
  intro F h; kernel_rfl
noncomputable def fs299 (C : YC) (lf : Nat) (a0 a1 a2 : SV) (h : HW) : Rs := q299_31 C lf ff299 (some a0) (some a1) (some a2) h
theorem fs299_eq (C : YC) (lf : Nat) (a0 a1 a2 : SV) (h : HW) : yFn Tryz.prog fx299 C lf [a0, a1, a2] h = fs299 C lf a0 a1 a2 h := fnX (K := (fun F h => ff299 (F 6) h)) (by kernel_rfl) (((q299_31_eq C lf ff299 (fun F h => ff299 (F 6) h) (fun _ _ _ => none)) _ h).trans (by kernel_rfl))
noncomputable def fy299 : YX Tryz.prog := Y3 fx299 fs299 fs299_eq (by kernel_rfl)

/-! FN 300 tinsel/tinselref04.Add -/
noncomputable def fx300 : XF Tryz.prog := ⟨300, Tryz.f300, fun _ => .text, Tryz.func300, by kernel_rfl, by kernel_rfl, by kernel_rfl, by kernel_rfl⟩
noncomputable def ff300 (x8 : O) (h : HW) : Rs :=
 ob x8 fun a0 =>
 some (.ret a0, h)
noncomputable def q300_16 (C : YC) (lf : Nat) (r : K1) (x0 x1 x2 x3 x11 : O) (h : HW) : Rs :=
 ob x11 fun a1 =>
 ob (bin Tryz.prog .add 3 a1 (.int .i64 1)) fun y2 =>
 ob (bin Tryz.prog .mul 3 y2 (.int .i64 32)) fun y3 =>
 ob (bin Tryz.prog .gtr 3 y3 (.int .i64 17792)) fun y4 =>
 yIf y4
 (r (some (.int .i64 28)) h)
 (ob x0 fun a5 =>
 ob x1 fun a6 =>
 ob x11 fun a7 =>
 ob (bin Tryz.prog .mul 3 a7 (.int .i64 32)) fun y8 =>
 ob x3 fun a9 =>
 ob x2 fun a10 =>
 bc (C (.fn 293) [a9, a10] h) fun y11 h11 =>
 bc (C (.fn 266) [a5, a6, y8, y11] h11) fun y12 h12 =>
 ob (ext 0 y12) fun y13 =>
 ob (ext 1 y12) fun y14 =>
 ob (bin Tryz.prog .eql 3 y13 (.int .i64 0)) fun y15 =>
 yIf y15
 (r (some (.int .i64 28)) h12)
 (r (some (.int .i64 0)) h12))
theorem q300_16_eq (C : YC) (lf : Nat) (r : K1) (KN : KF) (KE : KX) : ∀ F h, evX fx300 C lf [1, 1, 1, 1, 1, 1, 1, 1] F h KN (fun F h => r (F 8) h) KE = q300_16 C lf r (F 0) (F 1) (F 2) (F 3) (F 11) h := by
  intro F h; kernel_rfl
noncomputable def q300_31 (C : YC) (lf : Nat) (n : K7) (e0 : K5) (x0 x1 x2 x3 x10 x11 x12 : O) (h : HW) : Rs :=
 ob x12 fun a18 =>
 ob (bin Tryz.prog .geq 3 a18 (.int .i64 0)) fun y19 =>
 yIf y19
 (ob x10 fun a20 =>
 ob x12 fun a21 =>
 ob (ixS 1 a20 a21) fun y22 =>
 ob (ld1 y22 h) fun y23 =>
 bc (C (.fn 340) [y23] h) fun y24 h24 =>
 ob (bin Tryz.prog .eql 3 y24 (.int .i64 0)) fun y25 =>
 yIf y25
 (ob x12 fun a26 =>
 ob x12 fun a27 =>
 ob (bin Tryz.prog .sub 3 a27 (.int .i64 1)) fun y28 =>
 n x0 x1 x2 x3 x10 (some a26) (some y28) h24)
 (ob x12 fun a29 =>
 ob (bin Tryz.prog .sub 3 a29 (.int .i64 1)) fun y30 =>
 n x0 x1 x2 x3 x10 x11 (some y30) h24))
 (e0 x0 x1 x2 x3 x11 h)
theorem q300_31_eq (C : YC) (lf : Nat) (n : K7) (e0 : K5) (KR : KF) (KE : KX) : ∀ F h, evX fx300 C lf [1, 1, 1, 1, 1, 1, 1, 0, 1, 0, 0] F h (fun F h => n (F 0) (F 1) (F 2) (F 3) (F 10) (F 11) (F 12) h) KR (bk 0 (fun F h => e0 (F 0) (F 1) (F 2) (F 3) (F 11) h) KE) = q300_31 C lf n e0 (F 0) (F 1) (F 2) (F 3) (F 10) (F 11) (F 12) h := by
  intro F h; kernel_rfl
noncomputable def l300_17 (C : YC) (lf : Nat) (e0 : K5) (k : O × O × O × O × O × O × O → HW → Rs) (s : O × O × O × O × O × O × O) (h : HW) : Rs :=
 q300_31 C lf (fun x0 x1 x2 x3 x10 x11 x12 h => k (x0, x1, x2, x3, x10, x11, x12) h) e0 s.1 s.2.1 s.2.2.1 s.2.2.2.1 s.2.2.2.2.1 s.2.2.2.2.2.1 s.2.2.2.2.2.2 h
noncomputable def q300_35 (C : YC) (lf : Nat) (n : K7) (x0 x1 x2 x3 x10 x11 : O) (h : HW) : Rs :=
 ob x10 fun a32 =>
 ob (lenE Tryz.prog 385 a32) fun y33 =>
 ob (bin Tryz.prog .sub 3 y33 (.int .i64 1)) fun y34 =>
 n x0 x1 x2 x3 x10 x11 (some y34) h
theorem q300_35_eq (C : YC) (lf : Nat) (n : K7) (KR : KF) (KE : KX) : ∀ F h, evX fx300 C lf [1, 1, 1, 1, 1, 1, 1, 0, 0] F h (fun F h => n (F 0) (F 1) (F 2) (F 3) (F 10) (F 11) (F 12) h) KR KE = q300_35 C lf n (F 0) (F 1) (F 2) (F 3) (F 10) (F 11) h := by
  intro F h; kernel_rfl
noncomputable def q300_36 (C : YC) (lf : Nat) (n : K5) (x0 x1 x2 x3 x10 x11 : O) (h : HW) : Rs :=
 q300_35 C lf (fun x0 x1 x2 x3 x10 x11 x12 h => lp (l300_17 C lf n) lf (x0, x1, x2, x3, x10, x11, x12) h) x0 x1 x2 x3 x10 x11 h
theorem q300_36_eq (C : YC) (lf : Nat) (n : K5) (KR : KF) (KE : KX) : ∀ F h, evX fx300 C lf [1, 1, 1, 1, 1, 1, 1, 0] F h (fun F h => n (F 0) (F 1) (F 2) (F 3) (F 11) h) KR KE = q300_36 C lf n (F 0) (F 1) (F 2) (F 3) (F 10) (F 11) h := cSeq (a := subX fx300 [1, 1, 1, 1, 1, 1, 1, 0, 0]) (b := subX fx300 [1, 1, 1, 1, 1, 1, 1, 0, 1]) (by kernel_rfl) (B := (fun F h => lp (l300_17 C lf n) lf ((F 0), (F 1), (F 2), (F 3), (F 10), (F 11), (F 12)) h)) (cBlock (id := 0) (a := subX fx300 [1, 1, 1, 1, 1, 1, 1, 0, 1, 0]) (by kernel_rfl) (cLoop (a := subX fx300 [1, 1, 1, 1, 1, 1, 1, 0, 1, 0, 0]) (g := fun F => (F 0, F 1, F 2, F 3, F 10, F 11, F 12)) (body := l300_17 C lf n) (by kernel_rfl) (fun k => (q300_31_eq C lf (fun x0 x1 x2 x3 x10 x11 x12 h => k (x0, x1, x2, x3, x10, x11, x12) h) n KR KE)))) (q300_35_eq C lf (fun x0 x1 x2 x3 x10 x11 x12 h => lp (l300_17 C lf n) lf (x0, x1, x2, x3, x10, x11, x12) h) KR KE)
noncomputable def q300_37 (C : YC) (lf : Nat) (r : K1) (x0 x1 x2 x3 x10 x11 : O) (h : HW) : Rs :=
 q300_36 C lf (fun x0 x1 x2 x3 x11 h => q300_16 C lf r x0 x1 x2 x3 x11 h) x0 x1 x2 x3 x10 x11 h
theorem q300_37_eq (C : YC) (lf : Nat) (r : K1) (KN : KF) (KE : KX) : ∀ F h, evX fx300 C lf [1, 1, 1, 1, 1, 1, 1] F h KN (fun F h => r (F 8) h) KE = q300_37 C lf r (F 0) (F 1) (F 2) (F 3) (F 10) (F 11) h := cSeq (a := subX fx300 [1, 1, 1, 1, 1, 1, 1, 0]) (b := subX fx300 [1, 1, 1, 1, 1, 1, 1, 1]) (by kernel_rfl) (B := (fun F h => q300_16 C lf r (F 0) (F 1) (F 2) (F 3) (F 11) h)) (q300_16_eq C lf r KN KE) (q300_36_eq C lf (fun x0 x1 x2 x3 x11 h => q300_16 C lf r x0 x1 x2 x3 x11 h) (fun F h => r (F 8) h) KE)
noncomputable def q300_40 (C : YC) (lf : Nat) (n : K6) (x0 x1 x2 x3 x10 : O) (h : HW) : Rs :=
 ob x10 fun a38 =>
 ob (lenE Tryz.prog 385 a38) fun y39 =>
 n x0 x1 x2 x3 x10 (some y39) h
theorem q300_40_eq (C : YC) (lf : Nat) (n : K6) (KR : KF) (KE : KX) : ∀ F h, evX fx300 C lf [1, 1, 1, 1, 1, 1, 0] F h (fun F h => n (F 0) (F 1) (F 2) (F 3) (F 10) (F 11) h) KR KE = q300_40 C lf n (F 0) (F 1) (F 2) (F 3) (F 10) h := by
  intro F h; kernel_rfl
noncomputable def q300_41 (C : YC) (lf : Nat) (r : K1) (x0 x1 x2 x3 x10 : O) (h : HW) : Rs :=
 q300_40 C lf (fun x0 x1 x2 x3 x10 x11 h => q300_37 C lf r x0 x1 x2 x3 x10 x11 h) x0 x1 x2 x3 x10 h
theorem q300_41_eq (C : YC) (lf : Nat) (r : K1) (KN : KF) (KE : KX) : ∀ F h, evX fx300 C lf [1, 1, 1, 1, 1, 1] F h KN (fun F h => r (F 8) h) KE = q300_41 C lf r (F 0) (F 1) (F 2) (F 3) (F 10) h := cSeq (a := subX fx300 [1, 1, 1, 1, 1, 1, 0]) (b := subX fx300 [1, 1, 1, 1, 1, 1, 1]) (by kernel_rfl) (B := (fun F h => q300_37 C lf r (F 0) (F 1) (F 2) (F 3) (F 10) (F 11) h)) (q300_37_eq C lf r KN KE) (q300_40_eq C lf (fun x0 x1 x2 x3 x10 x11 h => q300_37 C lf r x0 x1 x2 x3 x10 x11 h) (fun F h => r (F 8) h) KE)
noncomputable def q300_45 (C : YC) (lf : Nat) (n : K5) (x0 x1 x2 x3 : O) (h : HW) : Rs :=
 ob x0 fun a42 =>
 ob x1 fun a43 =>
 bc (C (.fn 339) [a42, a43] h) fun y44 h44 =>
 n x0 x1 x2 x3 (some y44) h44
theorem q300_45_eq (C : YC) (lf : Nat) (n : K5) (KR : KF) (KE : KX) : ∀ F h, evX fx300 C lf [1, 1, 1, 1, 1, 0] F h (fun F h => n (F 0) (F 1) (F 2) (F 3) (F 10) h) KR KE = q300_45 C lf n (F 0) (F 1) (F 2) (F 3) h := by
  intro F h; kernel_rfl
noncomputable def q300_46 (C : YC) (lf : Nat) (r : K1) (x0 x1 x2 x3 : O) (h : HW) : Rs :=
 q300_45 C lf (fun x0 x1 x2 x3 x10 h => q300_41 C lf r x0 x1 x2 x3 x10 h) x0 x1 x2 x3 h
theorem q300_46_eq (C : YC) (lf : Nat) (r : K1) (KN : KF) (KE : KX) : ∀ F h, evX fx300 C lf [1, 1, 1, 1, 1] F h KN (fun F h => r (F 8) h) KE = q300_46 C lf r (F 0) (F 1) (F 2) (F 3) h := cSeq (a := subX fx300 [1, 1, 1, 1, 1, 0]) (b := subX fx300 [1, 1, 1, 1, 1, 1]) (by kernel_rfl) (B := (fun F h => q300_41 C lf r (F 0) (F 1) (F 2) (F 3) (F 10) h)) (q300_41_eq C lf r KN KE) (q300_45_eq C lf (fun x0 x1 x2 x3 x10 h => q300_41 C lf r x0 x1 x2 x3 x10 h) (fun F h => r (F 8) h) KE)
noncomputable def q300_52 (C : YC) (lf : Nat) (n : K4) (r : K1) (x0 x1 x2 x3 : O) (h : HW) : Rs :=
 ob x0 fun a47 =>
 ob x1 fun a48 =>
 ob x2 fun a49 =>
 bc (C (.fn 338) [a47, a48, a49] h) fun y50 h50 =>
 ob (bin Tryz.prog .geq 3 y50 (.int .i64 0)) fun y51 =>
 yIf y51
 (r (some (.int .i64 17)) h50)
 (n x0 x1 x2 x3 h50)
theorem q300_52_eq (C : YC) (lf : Nat) (n : K4) (r : K1) (KE : KX) : ∀ F h, evX fx300 C lf [1, 1, 1, 1, 0] F h (fun F h => n (F 0) (F 1) (F 2) (F 3) h) (fun F h => r (F 8) h) KE = q300_52 C lf n r (F 0) (F 1) (F 2) (F 3) h := by
  intro F h; kernel_rfl
noncomputable def q300_53 (C : YC) (lf : Nat) (r : K1) (x0 x1 x2 x3 : O) (h : HW) : Rs :=
 q300_52 C lf (fun x0 x1 x2 x3 h => q300_46 C lf r x0 x1 x2 x3 h) r x0 x1 x2 x3 h
theorem q300_53_eq (C : YC) (lf : Nat) (r : K1) (KN : KF) (KE : KX) : ∀ F h, evX fx300 C lf [1, 1, 1, 1] F h KN (fun F h => r (F 8) h) KE = q300_53 C lf r (F 0) (F 1) (F 2) (F 3) h := cSeq (a := subX fx300 [1, 1, 1, 1, 0]) (b := subX fx300 [1, 1, 1, 1, 1]) (by kernel_rfl) (B := (fun F h => q300_46 C lf r (F 0) (F 1) (F 2) (F 3) h)) (q300_46_eq C lf r KN KE) (q300_52_eq C lf (fun x0 x1 x2 x3 h => q300_46 C lf r x0 x1 x2 x3 h) r KE)
noncomputable def q300_58 (C : YC) (lf : Nat) (n : K4) (r : K1) (x0 x1 x2 x3 : O) (h : HW) : Rs :=
 ob x0 fun a54 =>
 ob x3 fun a55 =>
 bc (C (.fn 292) [a54, a55] h) fun y56 h56 =>
 ob (unE .not y56) fun y57 =>
 yIf y57
 (r (some (.int .i64 22)) h56)
 (n x0 x1 x2 x3 h56)
theorem q300_58_eq (C : YC) (lf : Nat) (n : K4) (r : K1) (KE : KX) : ∀ F h, evX fx300 C lf [1, 1, 1, 0] F h (fun F h => n (F 0) (F 1) (F 2) (F 3) h) (fun F h => r (F 8) h) KE = q300_58 C lf n r (F 0) (F 1) (F 2) (F 3) h := by
  intro F h; kernel_rfl
noncomputable def q300_59 (C : YC) (lf : Nat) (r : K1) (x0 x1 x2 x3 : O) (h : HW) : Rs :=
 q300_58 C lf (fun x0 x1 x2 x3 h => q300_53 C lf r x0 x1 x2 x3 h) r x0 x1 x2 x3 h
theorem q300_59_eq (C : YC) (lf : Nat) (r : K1) (KN : KF) (KE : KX) : ∀ F h, evX fx300 C lf [1, 1, 1] F h KN (fun F h => r (F 8) h) KE = q300_59 C lf r (F 0) (F 1) (F 2) (F 3) h := cSeq (a := subX fx300 [1, 1, 1, 0]) (b := subX fx300 [1, 1, 1, 1]) (by kernel_rfl) (B := (fun F h => q300_53 C lf r (F 0) (F 1) (F 2) (F 3) h)) (q300_53_eq C lf r KN KE) (q300_58_eq C lf (fun x0 x1 x2 x3 h => q300_53 C lf r x0 x1 x2 x3 h) r KE)
noncomputable def q300_63 (C : YC) (lf : Nat) (n : K4) (r : K1) (x0 x1 x2 x3 x9 : O) (h : HW) : Rs :=
 ob x9 fun a60 =>
 ob (bin Tryz.prog .neq 3 a60 (.int .i64 0)) fun y61 =>
 yIf y61
 (ob x9 fun a62 =>
 r (some a62) h)
 (n x0 x1 x2 x3 h)
theorem q300_63_eq (C : YC) (lf : Nat) (n : K4) (r : K1) (KE : KX) : ∀ F h, evX fx300 C lf [1, 1, 0] F h (fun F h => n (F 0) (F 1) (F 2) (F 3) h) (fun F h => r (F 8) h) KE = q300_63 C lf n r (F 0) (F 1) (F 2) (F 3) (F 9) h := by
  intro F h; kernel_rfl
noncomputable def q300_64 (C : YC) (lf : Nat) (r : K1) (x0 x1 x2 x3 x9 : O) (h : HW) : Rs :=
 q300_63 C lf (fun x0 x1 x2 x3 h => q300_59 C lf r x0 x1 x2 x3 h) r x0 x1 x2 x3 x9 h
theorem q300_64_eq (C : YC) (lf : Nat) (r : K1) (KN : KF) (KE : KX) : ∀ F h, evX fx300 C lf [1, 1] F h KN (fun F h => r (F 8) h) KE = q300_64 C lf r (F 0) (F 1) (F 2) (F 3) (F 9) h := cSeq (a := subX fx300 [1, 1, 0]) (b := subX fx300 [1, 1, 1]) (by kernel_rfl) (B := (fun F h => q300_59 C lf r (F 0) (F 1) (F 2) (F 3) h)) (q300_59_eq C lf r KN KE) (q300_63_eq C lf (fun x0 x1 x2 x3 h => q300_59 C lf r x0 x1 x2 x3 h) r KE)
noncomputable def q300_69 (C : YC) (lf : Nat) (n : K5) (x0 x1 x2 x3 : O) (h : HW) : Rs :=
 ob x0 fun a65 =>
 ob x1 fun a66 =>
 ob x2 fun a67 =>
 bc (C (.fn 337) [a65, a66, a67] h) fun y68 h68 =>
 n x0 x1 x2 x3 (some y68) h68
theorem q300_69_eq (C : YC) (lf : Nat) (n : K5) (KR : KF) (KE : KX) : ∀ F h, evX fx300 C lf [1, 0] F h (fun F h => n (F 0) (F 1) (F 2) (F 3) (F 9) h) KR KE = q300_69 C lf n (F 0) (F 1) (F 2) (F 3) h := by
  intro F h; kernel_rfl
noncomputable def q300_70 (C : YC) (lf : Nat) (r : K1) (x0 x1 x2 x3 : O) (h : HW) : Rs :=
 q300_69 C lf (fun x0 x1 x2 x3 x9 h => q300_64 C lf r x0 x1 x2 x3 x9 h) x0 x1 x2 x3 h
theorem q300_70_eq (C : YC) (lf : Nat) (r : K1) (KN : KF) (KE : KX) : ∀ F h, evX fx300 C lf [1] F h KN (fun F h => r (F 8) h) KE = q300_70 C lf r (F 0) (F 1) (F 2) (F 3) h := cSeq (a := subX fx300 [1, 0]) (b := subX fx300 [1, 1]) (by kernel_rfl) (B := (fun F h => q300_64 C lf r (F 0) (F 1) (F 2) (F 3) (F 9) h)) (q300_64_eq C lf r KN KE) (q300_69_eq C lf (fun x0 x1 x2 x3 x9 h => q300_64 C lf r x0 x1 x2 x3 x9 h) (fun F h => r (F 8) h) KE)
noncomputable def q300_71 (C : YC) (lf : Nat) (n : K4) (x0 x1 x2 x3 : O) (h : HW) : Rs :=
 n x0 x1 x2 x3 h
theorem q300_71_eq (C : YC) (lf : Nat) (n : K4) (KR : KF) (KE : KX) : ∀ F h, evX fx300 C lf [0] F h (fun F h => n (F 0) (F 1) (F 2) (F 3) h) KR KE = q300_71 C lf n (F 0) (F 1) (F 2) (F 3) h := by
  intro F h; kernel_rfl
noncomputable def q300_72 (C : YC) (lf : Nat) (r : K1) (x0 x1 x2 x3 : O) (h : HW) : Rs :=
 q300_71 C lf (fun x0 x1 x2 x3 h => q300_70 C lf r x0 x1 x2 x3 h) x0 x1 x2 x3 h
theorem q300_72_eq (C : YC) (lf : Nat) (r : K1) (KN : KF) (KE : KX) : ∀ F h, evX fx300 C lf [] F h KN (fun F h => r (F 8) h) KE = q300_72 C lf r (F 0) (F 1) (F 2) (F 3) h := cSeq (a := subX fx300 [0]) (b := subX fx300 [1]) (by kernel_rfl) (B := (fun F h => q300_70 C lf r (F 0) (F 1) (F 2) (F 3) h)) (q300_70_eq C lf r KN KE) (q300_71_eq C lf (fun x0 x1 x2 x3 h => q300_70 C lf r x0 x1 x2 x3 h) (fun F h => r (F 8) h) KE)
noncomputable def fs300 (C : YC) (lf : Nat) (a0 a1 a2 a3 : SV) (h : HW) : Rs := q300_72 C lf ff300 (some a0) (some a1) (some a2) (some a3) h
theorem fs300_eq (C : YC) (lf : Nat) (a0 a1 a2 a3 : SV) (h : HW) : yFn Tryz.prog fx300 C lf [a0, a1, a2, a3] h = fs300 C lf a0 a1 a2 a3 h := fnX (K := (fun F h => ff300 (F 8) h)) (by kernel_rfl) (((q300_72_eq C lf ff300 (fun F h => ff300 (F 8) h) (fun _ _ _ => none)) _ h).trans (by kernel_rfl))
noncomputable def fy300 : YX Tryz.prog := Y4 fx300 fs300 fs300_eq (by kernel_rfl)

/-! FN 301 tinsel/tinselref03.Split -/
noncomputable def fx301 : XF Tryz.prog := ⟨301, Tryz.f301, fun _ => .text, Tryz.func301, by kernel_rfl, by kernel_rfl, by kernel_rfl, by kernel_rfl⟩
noncomputable def ff301 (x2 x3 : O) (h : HW) : Rs :=
 ob x2 fun a0 =>
 ob (ldN 3 a0 h) fun y1 =>
 ob x3 fun a2 =>
 some (.ret (.tup [y1, a2]), h)
noncomputable def q301_25 (C : YC) (lf : Nat) (r : K2) (x0 x2 x4 : O) (h : HW) : Rs :=
 ob x0 fun a3 =>
 bc (C (.fn 342) [a3] h) fun y4 h4 =>
 ob x4 fun a5 =>
 ob x4 fun a6 =>
 ob (lenE Tryz.prog 25 a6) fun y7 =>
 ob (bin Tryz.prog .gtr 3 y7 (.int .i64 0)) fun y8 =>
 bc (gd true (some y8) (ob x0 fun a9 =>
 some (.ret a9, h4)) h4) fun y10 h10 =>
 bc (gd true (some y8) (ob x0 fun a11 =>
 some (.ret a11, h10)) h10) fun y12 h12 =>
 bc (gd true (some y8) (ob (lenE Tryz.prog 9 y12) fun y13 =>
 some (.ret y13, h12)) h12) fun y14 h14 =>
 bc (gd true (some y8) (ob (bin Tryz.prog .sub 3 y14 (.int .i64 1)) fun y15 =>
 some (.ret y15, h14)) h14) fun y16 h16 =>
 bc (gd true (some y8) (ob (semIndex Tryz.prog 9 y10 y16) fun y17 =>
 some (.ret y17, h16)) h16) fun y18 h18 =>
 bc (gd true (some y8) (ob (bin Tryz.prog .eql 5 y18 (.int .u8 47)) fun y19 =>
 some (.ret y19, h18)) h18) fun y20 h20 =>
 ob (ypk y8 y20 (.bool false)) fun y21 =>
 ob (semBuild Tryz.prog 234 [0, 1, 2] [y4, a5, y21]) fun y22 =>
 ob x2 fun a23 =>
 ob (st 3 a23 y22 h20) fun h24 =>
 r x2 (some (.int .i64 0)) h24
theorem q301_25_eq (C : YC) (lf : Nat) (r : K2) (KN : KF) (KE : KX) : ∀ F h, evX fx301 C lf [1, 1, 1, 1, 1, 1] F h KN (fun F h => r (F 2) (F 3) h) KE = q301_25 C lf r (F 0) (F 2) (F 4) h := by
  intro F h; kernel_rfl
noncomputable def q301_40 (C : YC) (lf : Nat) (n : K4) (r : K2) (e2 : K3) (x0 x2 x4 x7 : O) (h : HW) : Rs :=
 ob x7 fun a27 =>
 ob x0 fun a28 =>
 ob (lenE Tryz.prog 9 a28) fun y29 =>
 ob (bin Tryz.prog .lss 3 a27 y29) fun y30 =>
 yIf y30
 (ob x0 fun a31 =>
 ob x7 fun a32 =>
 ob (semIndex Tryz.prog 9 a31 a32) fun y33 =>
 ob (bin Tryz.prog .eql 5 y33 (.int .u8 0)) fun y34 =>
 yIf y34
 (ob (semBuild Tryz.prog 234 [] []) fun y35 =>
 ob x2 fun a36 =>
 ob (st 3 a36 y35 h) fun h37 =>
 r x2 (some (.int .i64 22)) h37)
 (ob x7 fun a38 =>
 ob (bin Tryz.prog .add 3 a38 (.int .i64 1)) fun y39 =>
 n x0 x2 x4 (some y39) h))
 (e2 x0 x2 x4 h)
theorem q301_40_eq (C : YC) (lf : Nat) (n : K4) (r : K2) (e2 : K3) (KE : KX) : ∀ F h, evX fx301 C lf [1, 1, 1, 1, 1, 0, 1, 0, 0] F h (fun F h => n (F 0) (F 2) (F 4) (F 7) h) (fun F h => r (F 2) (F 3) h) (bk 2 (fun F h => e2 (F 0) (F 2) (F 4) h) KE) = q301_40 C lf n r e2 (F 0) (F 2) (F 4) (F 7) h := by
  intro F h; kernel_rfl
noncomputable def l301_26 (C : YC) (lf : Nat) (r : K2) (e2 : K3) (k : O × O × O × O → HW → Rs) (s : O × O × O × O) (h : HW) : Rs :=
 q301_40 C lf (fun x0 x2 x4 x7 h => k (x0, x2, x4, x7) h) r e2 s.1 s.2.1 s.2.2.1 s.2.2.2 h
noncomputable def q301_41 (C : YC) (lf : Nat) (n : K4) (x0 x2 x4 : O) (h : HW) : Rs :=
 n x0 x2 x4 (some (.int .i64 0)) h
theorem q301_41_eq (C : YC) (lf : Nat) (n : K4) (KR : KF) (KE : KX) : ∀ F h, evX fx301 C lf [1, 1, 1, 1, 1, 0, 0] F h (fun F h => n (F 0) (F 2) (F 4) (F 7) h) KR KE = q301_41 C lf n (F 0) (F 2) (F 4) h := by
  intro F h; kernel_rfl
noncomputable def q301_42 (C : YC) (lf : Nat) (n : K3) (r : K2) (x0 x2 x4 : O) (h : HW) : Rs :=
 q301_41 C lf (fun x0 x2 x4 x7 h => lp (l301_26 C lf r n) lf (x0, x2, x4, x7) h) x0 x2 x4 h
theorem q301_42_eq (C : YC) (lf : Nat) (n : K3) (r : K2) (KE : KX) : ∀ F h, evX fx301 C lf [1, 1, 1, 1, 1, 0] F h (fun F h => n (F 0) (F 2) (F 4) h) (fun F h => r (F 2) (F 3) h) KE = q301_42 C lf n r (F 0) (F 2) (F 4) h := cSeq (a := subX fx301 [1, 1, 1, 1, 1, 0, 0]) (b := subX fx301 [1, 1, 1, 1, 1, 0, 1]) (by kernel_rfl) (B := (fun F h => lp (l301_26 C lf r n) lf ((F 0), (F 2), (F 4), (F 7)) h)) (cBlock (id := 2) (a := subX fx301 [1, 1, 1, 1, 1, 0, 1, 0]) (by kernel_rfl) (cLoop (a := subX fx301 [1, 1, 1, 1, 1, 0, 1, 0, 0]) (g := fun F => (F 0, F 2, F 4, F 7)) (body := l301_26 C lf r n) (by kernel_rfl) (fun k => (q301_40_eq C lf (fun x0 x2 x4 x7 h => k (x0, x2, x4, x7) h) r n KE)))) (q301_41_eq C lf (fun x0 x2 x4 x7 h => lp (l301_26 C lf r n) lf (x0, x2, x4, x7) h) (fun F h => r (F 2) (F 3) h) KE)
noncomputable def q301_43 (C : YC) (lf : Nat) (r : K2) (x0 x2 x4 : O) (h : HW) : Rs :=
 q301_42 C lf (fun x0 x2 x4 h => q301_25 C lf r x0 x2 x4 h) r x0 x2 x4 h
theorem q301_43_eq (C : YC) (lf : Nat) (r : K2) (KN : KF) (KE : KX) : ∀ F h, evX fx301 C lf [1, 1, 1, 1, 1] F h KN (fun F h => r (F 2) (F 3) h) KE = q301_43 C lf r (F 0) (F 2) (F 4) h := cSeq (a := subX fx301 [1, 1, 1, 1, 1, 0]) (b := subX fx301 [1, 1, 1, 1, 1, 1]) (by kernel_rfl) (B := (fun F h => q301_25 C lf r (F 0) (F 2) (F 4) h)) (q301_25_eq C lf r KN KE) (q301_42_eq C lf (fun x0 x2 x4 h => q301_25 C lf r x0 x2 x4 h) r KE)
noncomputable def q301_59 (C : YC) (lf : Nat) (n : K6) (r : K2) (e0 : K3) (x0 x2 x4 x17 x18 x19 : O) (h : HW) : Rs :=
 ob x19 fun a45 =>
 ob x18 fun a46 =>
 ob (bin Tryz.prog .lss 3 a45 a46) fun y47 =>
 yIf y47
 (ob x17 fun a48 =>
 ob x19 fun a49 =>
 ob (ixS 1 a48 a49) fun y50 =>
 ob (ld1 y50 h) fun y51 =>
 ob (lenE Tryz.prog 9 y51) fun y52 =>
 ob (bin Tryz.prog .gtr 3 y52 (.int .i64 27)) fun y53 =>
 yIf y53
 (ob (semBuild Tryz.prog 234 [] []) fun y54 =>
 ob x2 fun a55 =>
 ob (st 3 a55 y54 h) fun h56 =>
 r x2 (some (.int .i64 36)) h56)
 (ob x19 fun a57 =>
 ob (bin Tryz.prog .add 3 a57 (.int .i64 1)) fun y58 =>
 n x0 x2 x4 x17 x18 (some y58) h))
 (e0 x0 x2 x4 h)
theorem q301_59_eq (C : YC) (lf : Nat) (n : K6) (r : K2) (e0 : K3) (KE : KX) : ∀ F h, evX fx301 C lf [1, 1, 1, 1, 0, 1, 0, 0] F h (fun F h => n (F 0) (F 2) (F 4) (F 17) (F 18) (F 19) h) (fun F h => r (F 2) (F 3) h) (bk 0 (fun F h => e0 (F 0) (F 2) (F 4) h) KE) = q301_59 C lf n r e0 (F 0) (F 2) (F 4) (F 17) (F 18) (F 19) h := by
  intro F h; kernel_rfl
noncomputable def l301_44 (C : YC) (lf : Nat) (r : K2) (e0 : K3) (k : O × O × O × O × O × O → HW → Rs) (s : O × O × O × O × O × O) (h : HW) : Rs :=
 q301_59 C lf (fun x0 x2 x4 x17 x18 x19 h => k (x0, x2, x4, x17, x18, x19) h) r e0 s.1 s.2.1 s.2.2.1 s.2.2.2.1 s.2.2.2.2.1 s.2.2.2.2.2 h
noncomputable def q301_62 (C : YC) (lf : Nat) (n : K6) (x0 x2 x4 : O) (h : HW) : Rs :=
 ob x4 fun a60 =>
 ob (lenE Tryz.prog 25 a60) fun y61 =>
 n x0 x2 x4 (some a60) (some y61) (some (.int .i64 0)) h
theorem q301_62_eq (C : YC) (lf : Nat) (n : K6) (KR : KF) (KE : KX) : ∀ F h, evX fx301 C lf [1, 1, 1, 1, 0, 0] F h (fun F h => n (F 0) (F 2) (F 4) (F 17) (F 18) (F 19) h) KR KE = q301_62 C lf n (F 0) (F 2) (F 4) h := by
  intro F h; kernel_rfl
noncomputable def q301_63 (C : YC) (lf : Nat) (n : K3) (r : K2) (x0 x2 x4 : O) (h : HW) : Rs :=
 q301_62 C lf (fun x0 x2 x4 x17 x18 x19 h => lp (l301_44 C lf r n) lf (x0, x2, x4, x17, x18, x19) h) x0 x2 x4 h
theorem q301_63_eq (C : YC) (lf : Nat) (n : K3) (r : K2) (KE : KX) : ∀ F h, evX fx301 C lf [1, 1, 1, 1, 0] F h (fun F h => n (F 0) (F 2) (F 4) h) (fun F h => r (F 2) (F 3) h) KE = q301_63 C lf n r (F 0) (F 2) (F 4) h := cSeq (a := subX fx301 [1, 1, 1, 1, 0, 0]) (b := subX fx301 [1, 1, 1, 1, 0, 1]) (by kernel_rfl) (B := (fun F h => lp (l301_44 C lf r n) lf ((F 0), (F 2), (F 4), (F 17), (F 18), (F 19)) h)) (cBlock (id := 0) (a := subX fx301 [1, 1, 1, 1, 0, 1, 0]) (by kernel_rfl) (cLoop (a := subX fx301 [1, 1, 1, 1, 0, 1, 0, 0]) (g := fun F => (F 0, F 2, F 4, F 17, F 18, F 19)) (body := l301_44 C lf r n) (by kernel_rfl) (fun k => (q301_59_eq C lf (fun x0 x2 x4 x17 x18 x19 h => k (x0, x2, x4, x17, x18, x19) h) r n KE)))) (q301_62_eq C lf (fun x0 x2 x4 x17 x18 x19 h => lp (l301_44 C lf r n) lf (x0, x2, x4, x17, x18, x19) h) (fun F h => r (F 2) (F 3) h) KE)
noncomputable def q301_64 (C : YC) (lf : Nat) (r : K2) (x0 x2 x4 : O) (h : HW) : Rs :=
 q301_63 C lf (fun x0 x2 x4 h => q301_43 C lf r x0 x2 x4 h) r x0 x2 x4 h
theorem q301_64_eq (C : YC) (lf : Nat) (r : K2) (KN : KF) (KE : KX) : ∀ F h, evX fx301 C lf [1, 1, 1, 1] F h KN (fun F h => r (F 2) (F 3) h) KE = q301_64 C lf r (F 0) (F 2) (F 4) h := cSeq (a := subX fx301 [1, 1, 1, 1, 0]) (b := subX fx301 [1, 1, 1, 1, 1]) (by kernel_rfl) (B := (fun F h => q301_43 C lf r (F 0) (F 2) (F 4) h)) (q301_43_eq C lf r KN KE) (q301_63_eq C lf (fun x0 x2 x4 h => q301_43 C lf r x0 x2 x4 h) r KE)
noncomputable def q301_71 (C : YC) (lf : Nat) (n : K3) (r : K2) (x0 x2 x4 : O) (h : HW) : Rs :=
 ob x0 fun a65 =>
 ob (lenE Tryz.prog 9 a65) fun y66 =>
 ob (bin Tryz.prog .gtr 3 y66 (.int .i64 255)) fun y67 =>
 yIf y67
 (ob (semBuild Tryz.prog 234 [] []) fun y68 =>
 ob x2 fun a69 =>
 ob (st 3 a69 y68 h) fun h70 =>
 r x2 (some (.int .i64 36)) h70)
 (n x0 x2 x4 h)
theorem q301_71_eq (C : YC) (lf : Nat) (n : K3) (r : K2) (KE : KX) : ∀ F h, evX fx301 C lf [1, 1, 1, 0] F h (fun F h => n (F 0) (F 2) (F 4) h) (fun F h => r (F 2) (F 3) h) KE = q301_71 C lf n r (F 0) (F 2) (F 4) h := by
  intro F h; kernel_rfl
noncomputable def q301_72 (C : YC) (lf : Nat) (r : K2) (x0 x2 x4 : O) (h : HW) : Rs :=
 q301_71 C lf (fun x0 x2 x4 h => q301_64 C lf r x0 x2 x4 h) r x0 x2 x4 h
theorem q301_72_eq (C : YC) (lf : Nat) (r : K2) (KN : KF) (KE : KX) : ∀ F h, evX fx301 C lf [1, 1, 1] F h KN (fun F h => r (F 2) (F 3) h) KE = q301_72 C lf r (F 0) (F 2) (F 4) h := cSeq (a := subX fx301 [1, 1, 1, 0]) (b := subX fx301 [1, 1, 1, 1]) (by kernel_rfl) (B := (fun F h => q301_64 C lf r (F 0) (F 2) (F 4) h)) (q301_64_eq C lf r KN KE) (q301_71_eq C lf (fun x0 x2 x4 h => q301_64 C lf r x0 x2 x4 h) r KE)
noncomputable def q301_75 (C : YC) (lf : Nat) (n : K3) (x0 x2 : O) (h : HW) : Rs :=
 ob x0 fun a73 =>
 bc (C (.fn 341) [a73] h) fun y74 h74 =>
 n x0 x2 (some y74) h74
theorem q301_75_eq (C : YC) (lf : Nat) (n : K3) (KR : KF) (KE : KX) : ∀ F h, evX fx301 C lf [1, 1, 0] F h (fun F h => n (F 0) (F 2) (F 4) h) KR KE = q301_75 C lf n (F 0) (F 2) h := by
  intro F h; kernel_rfl
noncomputable def q301_76 (C : YC) (lf : Nat) (r : K2) (x0 x2 : O) (h : HW) : Rs :=
 q301_75 C lf (fun x0 x2 x4 h => q301_72 C lf r x0 x2 x4 h) x0 x2 h
theorem q301_76_eq (C : YC) (lf : Nat) (r : K2) (KN : KF) (KE : KX) : ∀ F h, evX fx301 C lf [1, 1] F h KN (fun F h => r (F 2) (F 3) h) KE = q301_76 C lf r (F 0) (F 2) h := cSeq (a := subX fx301 [1, 1, 0]) (b := subX fx301 [1, 1, 1]) (by kernel_rfl) (B := (fun F h => q301_72 C lf r (F 0) (F 2) (F 4) h)) (q301_72_eq C lf r KN KE) (q301_75_eq C lf (fun x0 x2 x4 h => q301_72 C lf r x0 x2 x4 h) (fun F h => r (F 2) (F 3) h) KE)
noncomputable def q301_82 (C : YC) (lf : Nat) (n : K2) (r : K2) (x0 x2 : O) (h : HW) : Rs :=
 ob x0 fun a77 =>
 ob (bin Tryz.prog .eql 9 a77 (.str (bs []))) fun y78 =>
 yIf y78
 (ob (semBuild Tryz.prog 234 [] []) fun y79 =>
 ob x2 fun a80 =>
 ob (st 3 a80 y79 h) fun h81 =>
 r x2 (some (.int .i64 2)) h81)
 (n x0 x2 h)
theorem q301_82_eq (C : YC) (lf : Nat) (n : K2) (r : K2) (KE : KX) : ∀ F h, evX fx301 C lf [1, 0] F h (fun F h => n (F 0) (F 2) h) (fun F h => r (F 2) (F 3) h) KE = q301_82 C lf n r (F 0) (F 2) h := by
  intro F h; kernel_rfl
noncomputable def q301_83 (C : YC) (lf : Nat) (r : K2) (x0 x2 : O) (h : HW) : Rs :=
 q301_82 C lf (fun x0 x2 h => q301_76 C lf r x0 x2 h) r x0 x2 h
theorem q301_83_eq (C : YC) (lf : Nat) (r : K2) (KN : KF) (KE : KX) : ∀ F h, evX fx301 C lf [1] F h KN (fun F h => r (F 2) (F 3) h) KE = q301_83 C lf r (F 0) (F 2) h := cSeq (a := subX fx301 [1, 0]) (b := subX fx301 [1, 1]) (by kernel_rfl) (B := (fun F h => q301_76 C lf r (F 0) (F 2) h)) (q301_76_eq C lf r KN KE) (q301_82_eq C lf (fun x0 x2 h => q301_76 C lf r x0 x2 h) r KE)
noncomputable def q301_85 (C : YC) (lf : Nat) (n : K2) (x0 : O) (h : HW) : Rs :=
 b2 (yAl Tryz.prog 234 h) fun y84 h84 =>
 n x0 (some y84) h84
theorem q301_85_eq (C : YC) (lf : Nat) (n : K2) (KR : KF) (KE : KX) : ∀ F h, evX fx301 C lf [0] F h (fun F h => n (F 0) (F 2) h) KR KE = q301_85 C lf n (F 0) h := by
  intro F h; kernel_rfl
noncomputable def q301_86 (C : YC) (lf : Nat) (r : K2) (x0 : O) (h : HW) : Rs :=
 q301_85 C lf (fun x0 x2 h => q301_83 C lf r x0 x2 h) x0 h
theorem q301_86_eq (C : YC) (lf : Nat) (r : K2) (KN : KF) (KE : KX) : ∀ F h, evX fx301 C lf [] F h KN (fun F h => r (F 2) (F 3) h) KE = q301_86 C lf r (F 0) h := cSeq (a := subX fx301 [0]) (b := subX fx301 [1]) (by kernel_rfl) (B := (fun F h => q301_83 C lf r (F 0) (F 2) h)) (q301_83_eq C lf r KN KE) (q301_85_eq C lf (fun x0 x2 h => q301_83 C lf r x0 x2 h) (fun F h => r (F 2) (F 3) h) KE)
noncomputable def fs301 (C : YC) (lf : Nat) (a0 : SV) (h : HW) : Rs := q301_86 C lf ff301 (some a0) h
theorem fs301_eq (C : YC) (lf : Nat) (a0 : SV) (h : HW) : yFn Tryz.prog fx301 C lf [a0] h = fs301 C lf a0 h := fnX (K := (fun F h => ff301 (F 2) (F 3) h)) (by kernel_rfl) (((q301_86_eq C lf ff301 (fun F h => ff301 (F 2) (F 3) h) (fun _ _ _ => none)) _ h).trans (by kernel_rfl))
noncomputable def fy301 : YX Tryz.prog := Y1 fx301 fs301 fs301_eq (by kernel_rfl)

/-! FN 315 tinsel/dir.good -/
noncomputable def fx315 : XF Tryz.prog := ⟨315, Tryz.f315, fun _ => .text, Tryz.func315, by kernel_rfl, by kernel_rfl, by kernel_rfl, by kernel_rfl⟩
noncomputable def ff315 (x2 : O) (h : HW) : Rs :=
 ob x2 fun a0 =>
 some (.ret a0, h)
noncomputable def q315_11 (C : YC) (lf : Nat) (r : K1) (x0 : O) (h : HW) : Rs :=
 ob x0 fun a1 =>
 ob (bin Tryz.prog .eql 9 a1 (.str (bs []))) fun y2 =>
 bc (gd false (some y2) (ob x0 fun a3 =>
 some (.ret a3, h)) h) fun y4 h4 =>
 bc (gd false (some y2) (bc (C (.fn 343) [y4, (.str (bs [47, 0]))] h4) fun y5 h5 =>
 some (.ret y5, h5)) h4) fun y6 h6 =>
 ob (ypk y2 (.bool true) y6) fun y7 =>
 yIf y7
 (r (some (.int .i64 22)) h6)
 (ob x0 fun a8 =>
 ob (lenE Tryz.prog 9 a8) fun y9 =>
 ob (bin Tryz.prog .gtr 3 y9 (.int .i64 27)) fun y10 =>
 yIf y10
 (r (some (.int .i64 36)) h6)
 (r (some (.int .i64 0)) h6))
theorem q315_11_eq (C : YC) (lf : Nat) (r : K1) (KN : KF) (KE : KX) : ∀ F h, evX fx315 C lf [] F h KN (fun F h => r (F 2) h) KE = q315_11 C lf r (F 0) h := by
  intro F h; kernel_rfl
noncomputable def fs315 (C : YC) (lf : Nat) (a0 : SV) (h : HW) : Rs := q315_11 C lf ff315 (some a0) h
theorem fs315_eq (C : YC) (lf : Nat) (a0 : SV) (h : HW) : yFn Tryz.prog fx315 C lf [a0] h = fs315 C lf a0 h := fnX (K := (fun F h => ff315 (F 2) h)) (by kernel_rfl) (((q315_11_eq C lf ff315 (fun F h => ff315 (F 2) h) (fun _ _ _ => none)) _ h).trans (by kernel_rfl))
noncomputable def fy315 : YX Tryz.prog := Y1 fx315 fs315 fs315_eq (by kernel_rfl)

/-! FN 316 (tinsel/dir.slot).name -/
noncomputable def fx316 : XF Tryz.prog := ⟨316, Tryz.f316, fun _ => .text, Tryz.func316, by kernel_rfl, by kernel_rfl, by kernel_rfl, by kernel_rfl⟩
noncomputable def ff316 (x2 : O) (h : HW) : Rs :=
 ob x2 fun a0 =>
 some (.ret a0, h)
noncomputable def q316_9 (C : YC) (lf : Nat) (r : K1) (x0 : O) (h : HW) : Rs :=
 ob x0 fun a1 =>
 b2 (ybx 292 a1 h) fun y2 h2 =>
 ob (semSlice Tryz.prog 292 y2 (some (.int .i64 4)) none) fun y3 =>
 bc (C (.fn 344) [y3, (.int .u8 0)] h2) fun y4 h4 =>
 ob (bin Tryz.prog .geq 3 y4 (.int .i64 0)) fun y5 =>
 yIf y5
 (ob (semSlice Tryz.prog 31 y3 none (some y4)) fun y6 =>
 b2 (ycv Tryz.prog 31 9 y6 h4) fun y7 h7 =>
 r (some y7) h7)
 (b2 (ycv Tryz.prog 31 9 y3 h4) fun y8 h8 =>
 r (some y8) h8)
theorem q316_9_eq (C : YC) (lf : Nat) (r : K1) (KN : KF) (KE : KX) : ∀ F h, evX fx316 C lf [] F h KN (fun F h => r (F 2) h) KE = q316_9 C lf r (F 0) h := by
  intro F h; kernel_rfl
noncomputable def fs316 (C : YC) (lf : Nat) (a0 : SV) (h : HW) : Rs := q316_9 C lf ff316 (some a0) h
theorem fs316_eq (C : YC) (lf : Nat) (a0 : SV) (h : HW) : yFn Tryz.prog fx316 C lf [a0] h = fs316 C lf a0 h := fnX (K := (fun F h => ff316 (F 2) h)) (by kernel_rfl) (((q316_9_eq C lf ff316 (fun F h => ff316 (F 2) h) (fun _ _ _ => none)) _ h).trans (by kernel_rfl))
noncomputable def fy316 : YX Tryz.prog := Y1 fx316 fs316 fs316_eq (by kernel_rfl)

/-! FN 321 (*tinsel/inode.node).owned$1 -/
noncomputable def fx321 : XF Tryz.prog := ⟨321, Tryz.f321, fun _ => .text, Tryz.func321, by kernel_rfl, by kernel_rfl, by kernel_rfl, by kernel_rfl⟩
noncomputable def ff321 (h : HW) : Rs :=
 some (.ret (.tup []), h)
noncomputable def q321_20 (C : YC) (lf : Nat) (n : K4) (e0 : K0) (x1 x5 x6 x7 : O) (h : HW) : Rs :=
 ob x7 fun a1 =>
 ob x6 fun a2 =>
 ob (bin Tryz.prog .lss 3 a1 a2) fun y3 =>
 yIf y3
 (ob x5 fun a4 =>
 ob x7 fun a5 =>
 ob (ixS 1 a4 a5) fun y6 =>
 ob (ld1 y6 h) fun y7 =>
 ob (bin Tryz.prog .gtr 3 y7 (.int .i64 0)) fun y8 =>
 yIf y8
 (ob x1 fun a9 =>
 ob (ld1 a9 h) fun y10 =>
 ob (bin Tryz.prog .sub 3 y7 (.int .i64 1)) fun y11 =>
 b2 (ybs Tryz.prog 44 1 [0] [y11] h) fun y12 h12 =>
 b2 (ybl Tryz.prog .append #[44, 44] [y10, y12] h12) fun y13 h13 =>
 ob x1 fun a14 =>
 ob (st 1 a14 y13 h13) fun h15 =>
 ob x7 fun a16 =>
 ob (bin Tryz.prog .add 3 a16 (.int .i64 1)) fun y17 =>
 n x1 x5 x6 (some y17) h15)
 (ob x7 fun a18 =>
 ob (bin Tryz.prog .add 3 a18 (.int .i64 1)) fun y19 =>
 n x1 x5 x6 (some y19) h))
 (e0 h)
theorem q321_20_eq (C : YC) (lf : Nat) (n : K4) (e0 : K0) (KR : KF) (KE : KX) : ∀ F h, evX fx321 C lf [1, 0, 0] F h (fun F h => n (F 1) (F 5) (F 6) (F 7) h) KR (bk 0 (fun F h => e0 h) KE) = q321_20 C lf n e0 (F 1) (F 5) (F 6) (F 7) h := by
  intro F h; kernel_rfl
noncomputable def l321_0 (C : YC) (lf : Nat) (e0 : K0) (k : O × O × O × O → HW → Rs) (s : O × O × O × O) (h : HW) : Rs :=
 q321_20 C lf (fun x1 x5 x6 x7 h => k (x1, x5, x6, x7) h) e0 s.1 s.2.1 s.2.2.1 s.2.2.2 h
noncomputable def q321_23 (C : YC) (lf : Nat) (n : K4) (x0 x1 : O) (h : HW) : Rs :=
 ob x0 fun a21 =>
 ob (lenE Tryz.prog 44 a21) fun y22 =>
 n x1 (some a21) (some y22) (some (.int .i64 0)) h
theorem q321_23_eq (C : YC) (lf : Nat) (n : K4) (KR : KF) (KE : KX) : ∀ F h, evX fx321 C lf [0] F h (fun F h => n (F 1) (F 5) (F 6) (F 7) h) KR KE = q321_23 C lf n (F 0) (F 1) h := by
  intro F h; kernel_rfl
noncomputable def q321_24 (C : YC) (lf : Nat) (n : K0) (x0 x1 : O) (h : HW) : Rs :=
 q321_23 C lf (fun x1 x5 x6 x7 h => lp (l321_0 C lf n) lf (x1, x5, x6, x7) h) x0 x1 h
theorem q321_24_eq (C : YC) (lf : Nat) (n : K0) (KR : KF) (KE : KX) : ∀ F h, evX fx321 C lf [] F h (fun F h => n h) KR KE = q321_24 C lf n (F 0) (F 1) h := cSeq (a := subX fx321 [0]) (b := subX fx321 [1]) (by kernel_rfl) (B := (fun F h => lp (l321_0 C lf n) lf ((F 1), (F 5), (F 6), (F 7)) h)) (cBlock (id := 0) (a := subX fx321 [1, 0]) (by kernel_rfl) (cLoop (a := subX fx321 [1, 0, 0]) (g := fun F => (F 1, F 5, F 6, F 7)) (body := l321_0 C lf n) (by kernel_rfl) (fun k => (q321_20_eq C lf (fun x1 x5 x6 x7 h => k (x1, x5, x6, x7) h) n KR KE)))) (q321_23_eq C lf (fun x1 x5 x6 x7 h => lp (l321_0 C lf n) lf (x1, x5, x6, x7) h) KR KE)
noncomputable def fs321 (C : YC) (lf : Nat) (a0 a1 : SV) (h : HW) : Rs := q321_24 C lf ff321 (some a0) (some a1) h
theorem fs321_eq (C : YC) (lf : Nat) (a0 a1 : SV) (h : HW) : yFn Tryz.prog fx321 C lf [a0, a1] h = fs321 C lf a0 a1 h := fnX (K := (fun F h => ff321 h)) (by kernel_rfl) (((q321_24_eq C lf ff321 (fun F h => ff321 h) (fun _ _ _ => none)) _ h).trans (by kernel_rfl))
noncomputable def fy321 : YX Tryz.prog := Y2 fx321 fs321 fs321_eq (by kernel_rfl)

/-! FN 323 tinsel/tinselref04.Find -/
noncomputable def fx323 : XF Tryz.prog := ⟨323, Tryz.f323, fun _ => .text, Tryz.func323, by kernel_rfl, by kernel_rfl, by kernel_rfl, by kernel_rfl⟩
noncomputable def ff323 (x6 x7 : O) (h : HW) : Rs :=
 ob x6 fun a0 =>
 ob x7 fun a1 =>
 some (.ret (.tup [a0, a1]), h)
noncomputable def q323_18 (C : YC) (lf : Nat) (r : K2) (x0 x1 x2 : O) (h : HW) : Rs :=
 ob x0 fun a2 =>
 ob x1 fun a3 =>
 ob x2 fun a4 =>
 bc (C (.fn 337) [a2, a3, a4] h) fun y5 h5 =>
 ob (bin Tryz.prog .neq 3 y5 (.int .i64 0)) fun y6 =>
 yIf y6
 (r (some (.int .i64 0)) (some y5) h5)
 (ob x0 fun a7 =>
 ob x1 fun a8 =>
 ob x2 fun a9 =>
 bc (C (.fn 338) [a7, a8, a9] h5) fun y10 h10 =>
 ob (bin Tryz.prog .lss 3 y10 (.int .i64 0)) fun y11 =>
 yIf y11
 (r (some (.int .i64 0)) (some (.int .i64 2)) h10)
 (ob x0 fun a12 =>
 ob x1 fun a13 =>
 bc (C (.fn 339) [a12, a13] h10) fun y14 h14 =>
 ob (ixS 1 y14 y10) fun y15 =>
 ob (ld1 y15 h14) fun y16 =>
 bc (C (.fn 340) [y16] h14) fun y17 h17 =>
 r (some y17) (some (.int .i64 0)) h17))
theorem q323_18_eq (C : YC) (lf : Nat) (r : K2) (KN : KF) (KE : KX) : ∀ F h, evX fx323 C lf [] F h KN (fun F h => r (F 6) (F 7) h) KE = q323_18 C lf r (F 0) (F 1) (F 2) h := by
  intro F h; kernel_rfl
noncomputable def fs323 (C : YC) (lf : Nat) (a0 a1 a2 : SV) (h : HW) : Rs := q323_18 C lf ff323 (some a0) (some a1) (some a2) h
theorem fs323_eq (C : YC) (lf : Nat) (a0 a1 a2 : SV) (h : HW) : yFn Tryz.prog fx323 C lf [a0, a1, a2] h = fs323 C lf a0 a1 a2 h := fnX (K := (fun F h => ff323 (F 6) (F 7) h)) (by kernel_rfl) (((q323_18_eq C lf ff323 (fun F h => ff323 (F 6) (F 7) h) (fun _ _ _ => none)) _ h).trans (by kernel_rfl))
noncomputable def fy323 : YX Tryz.prog := Y3 fx323 fs323 fs323_eq (by kernel_rfl)

/-! FN 325 tinsel/tinselref05.Access -/
noncomputable def fx325 : XF Tryz.prog := ⟨325, Tryz.f325, fun _ => .text, Tryz.func325, by kernel_rfl, by kernel_rfl, by kernel_rfl, by kernel_rfl⟩
noncomputable def ff325 (x10 : O) (h : HW) : Rs :=
 ob x10 fun a0 =>
 some (.ret a0, h)
noncomputable def q325_42 (C : YC) (lf : Nat) (r : K1) (x0 x1 x2 x3 x4 : O) (h : HW) : Rs :=
 ob x3 fun a1 =>
 b2 (ybx 46 a1 h) fun y2 h2 =>
 ob x4 fun a3 =>
 ob (bin Tryz.prog .and 3 a3 (.int .i64 7)) fun y4 =>
 ob (fa 0 y2) fun y5 =>
 ob (ld1 y5 h2) fun y6 =>
 ob (bin Tryz.prog .eql 3 y6 (.int .i64 0)) fun y7 =>
 yIf y7
 (ob (bin Tryz.prog .and 30 y4 (.int .i64 1)) fun y8 =>
 ob (bin Tryz.prog .eql 30 y8 (.int .i64 0)) fun y9 =>
 bc (gd false (some y9) (ob x0 fun a10 =>
 some (.ret a10, h2)) h2) fun y11 h11 =>
 bc (gd false (some y9) (ob (bin Tryz.prog .and 30 y11 (.int .i64 61440)) fun y12 =>
 some (.ret y12, h11)) h11) fun y13 h13 =>
 bc (gd false (some y9) (ob (bin Tryz.prog .eql 30 y13 (.int .i64 16384)) fun y14 =>
 some (.ret y14, h13)) h13) fun y15 h15 =>
 ob (ypk y9 (.bool true) y15) fun y16 =>
 bc (gd false (some y16) (ob x0 fun a17 =>
 some (.ret a17, h15)) h15) fun y18 h18 =>
 bc (gd false (some y16) (ob (bin Tryz.prog .and 30 y18 (.int .i64 73)) fun y19 =>
 some (.ret y19, h18)) h18) fun y20 h20 =>
 bc (gd false (some y16) (ob (bin Tryz.prog .neq 30 y20 (.int .i64 0)) fun y21 =>
 some (.ret y21, h20)) h20) fun y22 h22 =>
 ob (ypk y16 (.bool true) y22) fun y23 =>
 r (some y23) h22)
 (ob (fa 0 y2) fun y24 =>
 ob (ld1 y24 h2) fun y25 =>
 ob x1 fun a26 =>
 ob (bin Tryz.prog .eql 3 y25 a26) fun y27 =>
 yIf y27
 (ob x0 fun a28 =>
 ob (bin Tryz.prog .shr 30 a28 (.int .u64 6)) fun y29 =>
 ob (bin Tryz.prog .and 30 y29 y4) fun y30 =>
 ob (bin Tryz.prog .eql 30 y30 y4) fun y31 =>
 r (some y31) h2)
 (ob (ldN 5 y2 h2) fun y32 =>
 ob x2 fun a33 =>
 bc (C (.fn 307) [y32, a33] h2) fun y34 h34 =>
 yIf y34
 (ob x0 fun a35 =>
 ob (bin Tryz.prog .shr 30 a35 (.int .u64 3)) fun y36 =>
 ob (bin Tryz.prog .and 30 y36 y4) fun y37 =>
 ob (bin Tryz.prog .eql 30 y37 y4) fun y38 =>
 r (some y38) h34)
 (ob x0 fun a39 =>
 ob (bin Tryz.prog .and 30 a39 y4) fun y40 =>
 ob (bin Tryz.prog .eql 30 y40 y4) fun y41 =>
 r (some y41) h34)))
theorem q325_42_eq (C : YC) (lf : Nat) (r : K1) (KN : KF) (KE : KX) : ∀ F h, evX fx325 C lf [] F h KN (fun F h => r (F 10) h) KE = q325_42 C lf r (F 0) (F 1) (F 2) (F 3) (F 4) h := by
  intro F h; kernel_rfl
noncomputable def fs325 (C : YC) (lf : Nat) (a0 a1 a2 a3 a4 : SV) (h : HW) : Rs := q325_42 C lf ff325 (some a0) (some a1) (some a2) (some a3) (some a4) h
theorem fs325_eq (C : YC) (lf : Nat) (a0 a1 a2 a3 a4 : SV) (h : HW) : yFn Tryz.prog fx325 C lf [a0, a1, a2, a3, a4] h = fs325 C lf a0 a1 a2 a3 a4 h := fnX (K := (fun F h => ff325 (F 10) h)) (by kernel_rfl) (((q325_42_eq C lf ff325 (fun F h => ff325 (F 10) h) (fun _ _ _ => none)) _ h).trans (by kernel_rfl))
noncomputable def fy325 : YX Tryz.prog := Y5 fx325 fs325 fs325_eq (by kernel_rfl)

/-! FN 327 (*tinsel/tinselref02.Table).take -/
noncomputable def fx327 : XF Tryz.prog := ⟨327, Tryz.f327, fun _ => .text, Tryz.func327, by kernel_rfl, by kernel_rfl, by kernel_rfl, by kernel_rfl⟩
noncomputable def ff327 (x6 : O) (h : HW) : Rs :=
 ob x6 fun a0 =>
 some (.ret a0, h)
noncomputable def q327_10 (C : YC) (lf : Nat) (r : K1) (x2 x7 x9 : O) (h : HW) : Rs :=
 ob x7 fun a1 =>
 ob x2 fun a2 =>
 ob x9 fun a3 =>
 ob (ixS 1 a3 (.int .i64 0)) fun y4 =>
 ob (ld1 y4 h) fun y5 =>
 ob (semNil a1) fun y6 =>
 ob (fa 12 y6) fun y7 =>
 ob (ixA 278 1 y7 a2) fun y8 =>
 ob (st 1 y8 y5 h) fun h9 =>
 r (some (.bool true)) h9
theorem q327_10_eq (C : YC) (lf : Nat) (r : K1) (KN : KF) (KE : KX) : ∀ F h, evX fx327 C lf [1, 1, 1, 1, 1, 1, 1, 1, 1, 1] F h KN (fun F h => r (F 6) h) KE = q327_10 C lf r (F 2) (F 7) (F 9) h := by
  intro F h; kernel_rfl
noncomputable def q327_39 (C : YC) (lf : Nat) (n : K3) (x2 x7 x8 x9 : O) (h : HW) : Rs :=
 ob x8 fun a11 =>
 ob (bin Tryz.prog .geq 3 a11 (.int .i64 0)) fun y12 =>
 bc (gd true (some y12) (ob x7 fun a13 =>
 some (.ret a13, h)) h) fun y14 h14 =>
 bc (gd true (some y12) (ob x8 fun a15 =>
 some (.ret a15, h14)) h14) fun y16 h16 =>
 bc (gd true (some y12) (ob (semNil y14) fun y17 =>
 some (.ret y17, h16)) h16) fun y18 h18 =>
 bc (gd true (some y12) (ob (fa 290 y18) fun y19 =>
 some (.ret y19, h18)) h18) fun y20 h20 =>
 bc (gd true (some y12) (ob (ixA 17 1 y20 y16) fun y21 =>
 some (.ret y21, h20)) h20) fun y22 h22 =>
 bc (gd true (some y12) (ob (ld1 y22 h22) fun y23 =>
 some (.ret y23, h22)) h22) fun y24 h24 =>
 bc (gd true (some y12) (ob (bin Tryz.prog .eql 3 y24 (.int .i64 0)) fun y25 =>
 some (.ret y25, h24)) h24) fun y26 h26 =>
 ob (ypk y12 y26 (.bool false)) fun y27 =>
 yIf y27
 (ob x7 fun a28 =>
 ob x8 fun a29 =>
 ob x9 fun a30 =>
 ob (ixS 1 a30 (.int .i64 0)) fun y31 =>
 ob (ld1 y31 h26) fun y32 =>
 ob (semNil a28) fun y33 =>
 ob (fa 290 y33) fun y34 =>
 ob (ixA 17 1 y34 a29) fun y35 =>
 ob (st 1 y35 y32 h26) fun h36 =>
 ob x9 fun a37 =>
 ob (semSlice Tryz.prog 44 a37 (some (.int .i64 1)) none) fun y38 =>
 n x2 x7 (some y38) h36)
 (n x2 x7 x9 h26)
theorem q327_39_eq (C : YC) (lf : Nat) (n : K3) (KR : KF) (KE : KX) : ∀ F h, evX fx327 C lf [1, 1, 1, 1, 1, 1, 1, 1, 1, 0] F h (fun F h => n (F 2) (F 7) (F 9) h) KR KE = q327_39 C lf n (F 2) (F 7) (F 8) (F 9) h := by
  intro F h; kernel_rfl
noncomputable def q327_40 (C : YC) (lf : Nat) (r : K1) (x2 x7 x8 x9 : O) (h : HW) : Rs :=
 q327_39 C lf (fun x2 x7 x9 h => q327_10 C lf r x2 x7 x9 h) x2 x7 x8 x9 h
theorem q327_40_eq (C : YC) (lf : Nat) (r : K1) (KN : KF) (KE : KX) : ∀ F h, evX fx327 C lf [1, 1, 1, 1, 1, 1, 1, 1, 1] F h KN (fun F h => r (F 6) h) KE = q327_40 C lf r (F 2) (F 7) (F 8) (F 9) h := cSeq (a := subX fx327 [1, 1, 1, 1, 1, 1, 1, 1, 1, 0]) (b := subX fx327 [1, 1, 1, 1, 1, 1, 1, 1, 1, 1]) (by kernel_rfl) (B := (fun F h => q327_10 C lf r (F 2) (F 7) (F 9) h)) (q327_10_eq C lf r KN KE) (q327_39_eq C lf (fun x2 x7 x9 h => q327_10 C lf r x2 x7 x9 h) (fun F h => r (F 6) h) KE)
noncomputable def q327_63 (C : YC) (lf : Nat) (n : K4) (x2 x7 x8 x9 : O) (h : HW) : Rs :=
 ob x8 fun a41 =>
 ob (bin Tryz.prog .gtr 3 a41 (.int .i64 0)) fun y42 =>
 bc (gd true (some y42) (ob x7 fun a43 =>
 some (.ret a43, h)) h) fun y44 h44 =>
 bc (gd true (some y42) (ob (semNil y44) fun y45 =>
 some (.ret y45, h44)) h44) fun y46 h46 =>
 bc (gd true (some y42) (ob (fa 307 y46) fun y47 =>
 some (.ret y47, h46)) h46) fun y48 h48 =>
 bc (gd true (some y42) (ob (ld1 y48 h48) fun y49 =>
 some (.ret y49, h48)) h48) fun y50 h50 =>
 bc (gd true (some y42) (ob (bin Tryz.prog .eql 3 y50 (.int .i64 0)) fun y51 =>
 some (.ret y51, h50)) h50) fun y52 h52 =>
 ob (ypk y42 y52 (.bool false)) fun y53 =>
 yIf y53
 (ob x7 fun a54 =>
 ob x9 fun a55 =>
 ob (ixS 1 a55 (.int .i64 0)) fun y56 =>
 ob (ld1 y56 h52) fun y57 =>
 ob (semNil a54) fun y58 =>
 ob (fa 307 y58) fun y59 =>
 ob (st 1 y59 y57 h52) fun h60 =>
 ob x9 fun a61 =>
 ob (semSlice Tryz.prog 44 a61 (some (.int .i64 1)) none) fun y62 =>
 n x2 x7 x8 (some y62) h60)
 (n x2 x7 x8 x9 h52)
theorem q327_63_eq (C : YC) (lf : Nat) (n : K4) (KR : KF) (KE : KX) : ∀ F h, evX fx327 C lf [1, 1, 1, 1, 1, 1, 1, 1, 0] F h (fun F h => n (F 2) (F 7) (F 8) (F 9) h) KR KE = q327_63 C lf n (F 2) (F 7) (F 8) (F 9) h := by
  intro F h; kernel_rfl
noncomputable def q327_64 (C : YC) (lf : Nat) (r : K1) (x2 x7 x8 x9 : O) (h : HW) : Rs :=
 q327_63 C lf (fun x2 x7 x8 x9 h => q327_40 C lf r x2 x7 x8 x9 h) x2 x7 x8 x9 h
theorem q327_64_eq (C : YC) (lf : Nat) (r : K1) (KN : KF) (KE : KX) : ∀ F h, evX fx327 C lf [1, 1, 1, 1, 1, 1, 1, 1] F h KN (fun F h => r (F 6) h) KE = q327_64 C lf r (F 2) (F 7) (F 8) (F 9) h := cSeq (a := subX fx327 [1, 1, 1, 1, 1, 1, 1, 1, 0]) (b := subX fx327 [1, 1, 1, 1, 1, 1, 1, 1, 1]) (by kernel_rfl) (B := (fun F h => q327_40 C lf r (F 2) (F 7) (F 8) (F 9) h)) (q327_40_eq C lf r KN KE) (q327_63_eq C lf (fun x2 x7 x8 x9 h => q327_40 C lf r x2 x7 x8 x9 h) (fun F h => r (F 6) h) KE)
noncomputable def q327_81 (C : YC) (lf : Nat) (n : K7) (e0 : K4) (x0 x2 x7 x8 x9 x38 x39 : O) (h : HW) : Rs :=
 ob x39 fun a66 =>
 ob x38 fun a67 =>
 ob (bin Tryz.prog .lss 3 a66 a67) fun y68 =>
 yIf y68
 (ob x0 fun a69 =>
 ob (semNil a69) fun y70 =>
 ob (fa 0 y70) fun y71 =>
 bc (C (.fn 351) [y71] h) fun y72 h72 =>
 ob (ext 0 y72) fun y73 =>
 ob (ext 1 y72) fun y74 =>
 ob x9 fun a75 =>
 ob (bin Tryz.prog .add 3 y73 (.int .i64 1)) fun y76 =>
 b2 (ybs Tryz.prog 44 1 [0] [y76] h72) fun y77 h77 =>
 b2 (ybl Tryz.prog .append #[44, 44] [a75, y77] h77) fun y78 h78 =>
 ob x39 fun a79 =>
 ob (bin Tryz.prog .add 3 a79 (.int .i64 1)) fun y80 =>
 n x0 x2 x7 x8 (some y78) x38 (some y80) h78)
 (e0 x2 x7 x8 x9 h)
theorem q327_81_eq (C : YC) (lf : Nat) (n : K7) (e0 : K4) (KR : KF) (KE : KX) : ∀ F h, evX fx327 C lf [1, 1, 1, 1, 1, 1, 1, 0, 1, 0, 0] F h (fun F h => n (F 0) (F 2) (F 7) (F 8) (F 9) (F 38) (F 39) h) KR (bk 0 (fun F h => e0 (F 2) (F 7) (F 8) (F 9) h) KE) = q327_81 C lf n e0 (F 0) (F 2) (F 7) (F 8) (F 9) (F 38) (F 39) h := by
  intro F h; kernel_rfl
noncomputable def l327_65 (C : YC) (lf : Nat) (e0 : K4) (k : O × O × O × O × O × O × O → HW → Rs) (s : O × O × O × O × O × O × O) (h : HW) : Rs :=
 q327_81 C lf (fun x0 x2 x7 x8 x9 x38 x39 h => k (x0, x2, x7, x8, x9, x38, x39) h) e0 s.1 s.2.1 s.2.2.1 s.2.2.2.1 s.2.2.2.2.1 s.2.2.2.2.2.1 s.2.2.2.2.2.2 h
noncomputable def q327_83 (C : YC) (lf : Nat) (n : K7) (x0 x2 x7 x8 x9 x10 : O) (h : HW) : Rs :=
 ob x10 fun a82 =>
 n x0 x2 x7 x8 x9 (some a82) (some (.int .i64 0)) h
theorem q327_83_eq (C : YC) (lf : Nat) (n : K7) (KR : KF) (KE : KX) : ∀ F h, evX fx327 C lf [1, 1, 1, 1, 1, 1, 1, 0, 0] F h (fun F h => n (F 0) (F 2) (F 7) (F 8) (F 9) (F 38) (F 39) h) KR KE = q327_83 C lf n (F 0) (F 2) (F 7) (F 8) (F 9) (F 10) h := by
  intro F h; kernel_rfl
noncomputable def q327_84 (C : YC) (lf : Nat) (n : K4) (x0 x2 x7 x8 x9 x10 : O) (h : HW) : Rs :=
 q327_83 C lf (fun x0 x2 x7 x8 x9 x38 x39 h => lp (l327_65 C lf n) lf (x0, x2, x7, x8, x9, x38, x39) h) x0 x2 x7 x8 x9 x10 h
theorem q327_84_eq (C : YC) (lf : Nat) (n : K4) (KR : KF) (KE : KX) : ∀ F h, evX fx327 C lf [1, 1, 1, 1, 1, 1, 1, 0] F h (fun F h => n (F 2) (F 7) (F 8) (F 9) h) KR KE = q327_84 C lf n (F 0) (F 2) (F 7) (F 8) (F 9) (F 10) h := cSeq (a := subX fx327 [1, 1, 1, 1, 1, 1, 1, 0, 0]) (b := subX fx327 [1, 1, 1, 1, 1, 1, 1, 0, 1]) (by kernel_rfl) (B := (fun F h => lp (l327_65 C lf n) lf ((F 0), (F 2), (F 7), (F 8), (F 9), (F 38), (F 39)) h)) (cBlock (id := 0) (a := subX fx327 [1, 1, 1, 1, 1, 1, 1, 0, 1, 0]) (by kernel_rfl) (cLoop (a := subX fx327 [1, 1, 1, 1, 1, 1, 1, 0, 1, 0, 0]) (g := fun F => (F 0, F 2, F 7, F 8, F 9, F 38, F 39)) (body := l327_65 C lf n) (by kernel_rfl) (fun k => (q327_81_eq C lf (fun x0 x2 x7 x8 x9 x38 x39 h => k (x0, x2, x7, x8, x9, x38, x39) h) n KR KE)))) (q327_83_eq C lf (fun x0 x2 x7 x8 x9 x38 x39 h => lp (l327_65 C lf n) lf (x0, x2, x7, x8, x9, x38, x39) h) KR KE)
noncomputable def q327_85 (C : YC) (lf : Nat) (r : K1) (x0 x2 x7 x8 x9 x10 : O) (h : HW) : Rs :=
 q327_84 C lf (fun x2 x7 x8 x9 h => q327_64 C lf r x2 x7 x8 x9 h) x0 x2 x7 x8 x9 x10 h
theorem q327_85_eq (C : YC) (lf : Nat) (r : K1) (KN : KF) (KE : KX) : ∀ F h, evX fx327 C lf [1, 1, 1, 1, 1, 1, 1] F h KN (fun F h => r (F 6) h) KE = q327_85 C lf r (F 0) (F 2) (F 7) (F 8) (F 9) (F 10) h := cSeq (a := subX fx327 [1, 1, 1, 1, 1, 1, 1, 0]) (b := subX fx327 [1, 1, 1, 1, 1, 1, 1, 1]) (by kernel_rfl) (B := (fun F h => q327_64 C lf r (F 2) (F 7) (F 8) (F 9) h)) (q327_64_eq C lf r KN KE) (q327_84_eq C lf (fun x2 x7 x8 x9 h => q327_64 C lf r x2 x7 x8 x9 h) (fun F h => r (F 6) h) KE)
noncomputable def q327_92 (C : YC) (lf : Nat) (n : K6) (r : K1) (x0 x2 x7 x8 x9 x10 : O) (h : HW) : Rs :=
 ob x0 fun a86 =>
 ob (semNil a86) fun y87 =>
 ob (fa 0 y87) fun y88 =>
 bc (C (.fn 336) [y88] h) fun y89 h89 =>
 ob x10 fun a90 =>
 ob (bin Tryz.prog .lss 3 y89 a90) fun y91 =>
 yIf y91
 (r (some (.bool false)) h89)
 (n x0 x2 x7 x8 x9 x10 h89)
theorem q327_92_eq (C : YC) (lf : Nat) (n : K6) (r : K1) (KE : KX) : ∀ F h, evX fx327 C lf [1, 1, 1, 1, 1, 1, 0] F h (fun F h => n (F 0) (F 2) (F 7) (F 8) (F 9) (F 10) h) (fun F h => r (F 6) h) KE = q327_92 C lf n r (F 0) (F 2) (F 7) (F 8) (F 9) (F 10) h := by
  intro F h; kernel_rfl
noncomputable def q327_93 (C : YC) (lf : Nat) (r : K1) (x0 x2 x7 x8 x9 x10 : O) (h : HW) : Rs :=
 q327_92 C lf (fun x0 x2 x7 x8 x9 x10 h => q327_85 C lf r x0 x2 x7 x8 x9 x10 h) r x0 x2 x7 x8 x9 x10 h
theorem q327_93_eq (C : YC) (lf : Nat) (r : K1) (KN : KF) (KE : KX) : ∀ F h, evX fx327 C lf [1, 1, 1, 1, 1, 1] F h KN (fun F h => r (F 6) h) KE = q327_93 C lf r (F 0) (F 2) (F 7) (F 8) (F 9) (F 10) h := cSeq (a := subX fx327 [1, 1, 1, 1, 1, 1, 0]) (b := subX fx327 [1, 1, 1, 1, 1, 1, 1]) (by kernel_rfl) (B := (fun F h => q327_85 C lf r (F 0) (F 2) (F 7) (F 8) (F 9) (F 10) h)) (q327_85_eq C lf r KN KE) (q327_92_eq C lf (fun x0 x2 x7 x8 x9 x10 h => q327_85 C lf r x0 x2 x7 x8 x9 x10 h) r KE)
noncomputable def q327_98 (C : YC) (lf : Nat) (n : K6) (x0 x1 x2 x7 x8 x9 : O) (h : HW) : Rs :=
 ob x0 fun a94 =>
 ob x1 fun a95 =>
 ob x2 fun a96 =>
 bc (C (.fn 350) [a94, a95, a96] h) fun y97 h97 =>
 n x0 x2 x7 x8 x9 (some y97) h97
theorem q327_98_eq (C : YC) (lf : Nat) (n : K6) (KR : KF) (KE : KX) : ∀ F h, evX fx327 C lf [1, 1, 1, 1, 1, 0] F h (fun F h => n (F 0) (F 2) (F 7) (F 8) (F 9) (F 10) h) KR KE = q327_98 C lf n (F 0) (F 1) (F 2) (F 7) (F 8) (F 9) h := by
  intro F h; kernel_rfl
noncomputable def q327_99 (C : YC) (lf : Nat) (r : K1) (x0 x1 x2 x7 x8 x9 : O) (h : HW) : Rs :=
 q327_98 C lf (fun x0 x2 x7 x8 x9 x10 h => q327_93 C lf r x0 x2 x7 x8 x9 x10 h) x0 x1 x2 x7 x8 x9 h
theorem q327_99_eq (C : YC) (lf : Nat) (r : K1) (KN : KF) (KE : KX) : ∀ F h, evX fx327 C lf [1, 1, 1, 1, 1] F h KN (fun F h => r (F 6) h) KE = q327_99 C lf r (F 0) (F 1) (F 2) (F 7) (F 8) (F 9) h := cSeq (a := subX fx327 [1, 1, 1, 1, 1, 0]) (b := subX fx327 [1, 1, 1, 1, 1, 1]) (by kernel_rfl) (B := (fun F h => q327_93 C lf r (F 0) (F 2) (F 7) (F 8) (F 9) (F 10) h)) (q327_93_eq C lf r KN KE) (q327_98_eq C lf (fun x0 x2 x7 x8 x9 x10 h => q327_93 C lf r x0 x2 x7 x8 x9 x10 h) (fun F h => r (F 6) h) KE)
noncomputable def q327_100 (C : YC) (lf : Nat) (n : K6) (x0 x1 x2 x7 x8 : O) (h : HW) : Rs :=
 n x0 x1 x2 x7 x8 (some (.val (.slice none 0 0))) h
theorem q327_100_eq (C : YC) (lf : Nat) (n : K6) (KR : KF) (KE : KX) : ∀ F h, evX fx327 C lf [1, 1, 1, 1, 0] F h (fun F h => n (F 0) (F 1) (F 2) (F 7) (F 8) (F 9) h) KR KE = q327_100 C lf n (F 0) (F 1) (F 2) (F 7) (F 8) h := by
  intro F h; kernel_rfl
noncomputable def q327_101 (C : YC) (lf : Nat) (r : K1) (x0 x1 x2 x7 x8 : O) (h : HW) : Rs :=
 q327_100 C lf (fun x0 x1 x2 x7 x8 x9 h => q327_99 C lf r x0 x1 x2 x7 x8 x9 h) x0 x1 x2 x7 x8 h
theorem q327_101_eq (C : YC) (lf : Nat) (r : K1) (KN : KF) (KE : KX) : ∀ F h, evX fx327 C lf [1, 1, 1, 1] F h KN (fun F h => r (F 6) h) KE = q327_101 C lf r (F 0) (F 1) (F 2) (F 7) (F 8) h := cSeq (a := subX fx327 [1, 1, 1, 1, 0]) (b := subX fx327 [1, 1, 1, 1, 1]) (by kernel_rfl) (B := (fun F h => q327_99 C lf r (F 0) (F 1) (F 2) (F 7) (F 8) (F 9) h)) (q327_99_eq C lf r KN KE) (q327_100_eq C lf (fun x0 x1 x2 x7 x8 x9 h => q327_99 C lf r x0 x1 x2 x7 x8 x9 h) (fun F h => r (F 6) h) KE)
noncomputable def q327_104 (C : YC) (lf : Nat) (n : K5) (x0 x1 x2 x7 : O) (h : HW) : Rs :=
 ob x2 fun a102 =>
 bc (C (.fn 349) [a102] h) fun y103 h103 =>
 n x0 x1 x2 x7 (some y103) h103
theorem q327_104_eq (C : YC) (lf : Nat) (n : K5) (KR : KF) (KE : KX) : ∀ F h, evX fx327 C lf [1, 1, 1, 0] F h (fun F h => n (F 0) (F 1) (F 2) (F 7) (F 8) h) KR KE = q327_104 C lf n (F 0) (F 1) (F 2) (F 7) h := by
  intro F h; kernel_rfl
noncomputable def q327_105 (C : YC) (lf : Nat) (r : K1) (x0 x1 x2 x7 : O) (h : HW) : Rs :=
 q327_104 C lf (fun x0 x1 x2 x7 x8 h => q327_101 C lf r x0 x1 x2 x7 x8 h) x0 x1 x2 x7 h
theorem q327_105_eq (C : YC) (lf : Nat) (r : K1) (KN : KF) (KE : KX) : ∀ F h, evX fx327 C lf [1, 1, 1] F h KN (fun F h => r (F 6) h) KE = q327_105 C lf r (F 0) (F 1) (F 2) (F 7) h := cSeq (a := subX fx327 [1, 1, 1, 0]) (b := subX fx327 [1, 1, 1, 1]) (by kernel_rfl) (B := (fun F h => q327_101 C lf r (F 0) (F 1) (F 2) (F 7) (F 8) h)) (q327_101_eq C lf r KN KE) (q327_104_eq C lf (fun x0 x1 x2 x7 x8 h => q327_101 C lf r x0 x1 x2 x7 x8 h) (fun F h => r (F 6) h) KE)
noncomputable def q327_113 (C : YC) (lf : Nat) (n : K4) (r : K1) (x0 x1 x2 x7 : O) (h : HW) : Rs :=
 ob x7 fun a106 =>
 ob x2 fun a107 =>
 ob (semNil a106) fun y108 =>
 ob (fa 12 y108) fun y109 =>
 ob (ixA 278 1 y109 a107) fun y110 =>
 ob (ld1 y110 h) fun y111 =>
 ob (bin Tryz.prog .gtr 3 y111 (.int .i64 0)) fun y112 =>
 yIf y112
 (r (some (.bool true)) h)
 (n x0 x1 x2 x7 h)
theorem q327_113_eq (C : YC) (lf : Nat) (n : K4) (r : K1) (KE : KX) : ∀ F h, evX fx327 C lf [1, 1, 0] F h (fun F h => n (F 0) (F 1) (F 2) (F 7) h) (fun F h => r (F 6) h) KE = q327_113 C lf n r (F 0) (F 1) (F 2) (F 7) h := by
  intro F h; kernel_rfl
noncomputable def q327_114 (C : YC) (lf : Nat) (r : K1) (x0 x1 x2 x7 : O) (h : HW) : Rs :=
 q327_113 C lf (fun x0 x1 x2 x7 h => q327_105 C lf r x0 x1 x2 x7 h) r x0 x1 x2 x7 h
theorem q327_114_eq (C : YC) (lf : Nat) (r : K1) (KN : KF) (KE : KX) : ∀ F h, evX fx327 C lf [1, 1] F h KN (fun F h => r (F 6) h) KE = q327_114 C lf r (F 0) (F 1) (F 2) (F 7) h := cSeq (a := subX fx327 [1, 1, 0]) (b := subX fx327 [1, 1, 1]) (by kernel_rfl) (B := (fun F h => q327_105 C lf r (F 0) (F 1) (F 2) (F 7) h)) (q327_105_eq C lf r KN KE) (q327_113_eq C lf (fun x0 x1 x2 x7 h => q327_105 C lf r x0 x1 x2 x7 h) r KE)
noncomputable def q327_121 (C : YC) (lf : Nat) (n : K4) (x0 x1 x2 : O) (h : HW) : Rs :=
 ob x0 fun a115 =>
 ob (semNil a115) fun y116 =>
 ob (fa 4 y116) fun y117 =>
 ob (ld1 y117 h) fun y118 =>
 ob x1 fun a119 =>
 ob (ixS 308 y118 a119) fun y120 =>
 n x0 x1 x2 (some y120) h
theorem q327_121_eq (C : YC) (lf : Nat) (n : K4) (KR : KF) (KE : KX) : ∀ F h, evX fx327 C lf [1, 0] F h (fun F h => n (F 0) (F 1) (F 2) (F 7) h) KR KE = q327_121 C lf n (F 0) (F 1) (F 2) h := by
  intro F h; kernel_rfl
noncomputable def q327_122 (C : YC) (lf : Nat) (r : K1) (x0 x1 x2 : O) (h : HW) : Rs :=
 q327_121 C lf (fun x0 x1 x2 x7 h => q327_114 C lf r x0 x1 x2 x7 h) x0 x1 x2 h
theorem q327_122_eq (C : YC) (lf : Nat) (r : K1) (KN : KF) (KE : KX) : ∀ F h, evX fx327 C lf [1] F h KN (fun F h => r (F 6) h) KE = q327_122 C lf r (F 0) (F 1) (F 2) h := cSeq (a := subX fx327 [1, 0]) (b := subX fx327 [1, 1]) (by kernel_rfl) (B := (fun F h => q327_114 C lf r (F 0) (F 1) (F 2) (F 7) h)) (q327_114_eq C lf r KN KE) (q327_121_eq C lf (fun x0 x1 x2 x7 h => q327_114 C lf r x0 x1 x2 x7 h) (fun F h => r (F 6) h) KE)
noncomputable def q327_123 (C : YC) (lf : Nat) (n : K3) (x0 x1 x2 : O) (h : HW) : Rs :=
 n x0 x1 x2 h
theorem q327_123_eq (C : YC) (lf : Nat) (n : K3) (KR : KF) (KE : KX) : ∀ F h, evX fx327 C lf [0] F h (fun F h => n (F 0) (F 1) (F 2) h) KR KE = q327_123 C lf n (F 0) (F 1) (F 2) h := by
  intro F h; kernel_rfl
noncomputable def q327_124 (C : YC) (lf : Nat) (r : K1) (x0 x1 x2 : O) (h : HW) : Rs :=
 q327_123 C lf (fun x0 x1 x2 h => q327_122 C lf r x0 x1 x2 h) x0 x1 x2 h
theorem q327_124_eq (C : YC) (lf : Nat) (r : K1) (KN : KF) (KE : KX) : ∀ F h, evX fx327 C lf [] F h KN (fun F h => r (F 6) h) KE = q327_124 C lf r (F 0) (F 1) (F 2) h := cSeq (a := subX fx327 [0]) (b := subX fx327 [1]) (by kernel_rfl) (B := (fun F h => q327_122 C lf r (F 0) (F 1) (F 2) h)) (q327_122_eq C lf r KN KE) (q327_123_eq C lf (fun x0 x1 x2 h => q327_122 C lf r x0 x1 x2 h) (fun F h => r (F 6) h) KE)
noncomputable def fs327 (C : YC) (lf : Nat) (a0 a1 a2 : SV) (h : HW) : Rs := q327_124 C lf ff327 (some a0) (some a1) (some a2) h
theorem fs327_eq (C : YC) (lf : Nat) (a0 a1 a2 : SV) (h : HW) : yFn Tryz.prog fx327 C lf [a0, a1, a2] h = fs327 C lf a0 a1 a2 h := fnX (K := (fun F h => ff327 (F 6) h)) (by kernel_rfl) (((q327_124_eq C lf ff327 (fun F h => ff327 (F 6) h) (fun _ _ _ => none)) _ h).trans (by kernel_rfl))
noncomputable def fy327 : YX Tryz.prog := Y3 fx327 fs327 fs327_eq (by kernel_rfl)

/-! FN 330 (*tinsel/blocks.Store).Read -/
noncomputable def fx330 : XF Tryz.prog := ⟨330, Tryz.f330, fun _ => .text, Tryz.func330, by kernel_rfl, by kernel_rfl, by kernel_rfl, by kernel_rfl⟩
noncomputable def ff330 (x4 x5 : O) (h : HW) : Rs :=
 ob x4 fun a0 =>
 ob x5 fun a1 =>
 some (.ret (.tup [a0, a1]), h)
noncomputable def q330_19 (C : YC) (lf : Nat) (r : K2) (x0 x1 : O) (h : HW) : Rs :=
 ob x0 fun a2 =>
 bc (C (.fn 285) [a2] h) fun y3 h3 =>
 ob (unE .not y3) fun y4 =>
 yIf y4
 (r (some (.val (.slice none 0 0))) (some (.int .i64 14)) h3)
 (ob x0 fun a5 =>
 ob x1 fun a6 =>
 bc (C (.fn 286) [a5, a6] h3) fun y7 h7 =>
 ob (unE .not y7) fun y8 =>
 yIf y8
 (r (some (.val (.slice none 0 0))) (some (.int .i64 22)) h7)
 (ob x0 fun a9 =>
 ob (semNil a9) fun y10 =>
 ob (fa 65 y10) fun y11 =>
 ob (ld1 y11 h7) fun y12 =>
 ob x1 fun a13 =>
 ob (ixS 64 y12 a13) fun y14 =>
 ob (ldN 64 y14 h7) fun y15 =>
 b2 (yAl Tryz.prog 182 h7) fun y16 h16 =>
 ob (st 64 y16 y15 h16) fun h17 =>
 ob (semSlice Tryz.prog 182 y16 none none) fun y18 =>
 r (some y18) (some (.int .i64 0)) h17))
theorem q330_19_eq (C : YC) (lf : Nat) (r : K2) (KN : KF) (KE : KX) : ∀ F h, evX fx330 C lf [] F h KN (fun F h => r (F 4) (F 5) h) KE = q330_19 C lf r (F 0) (F 1) h := by
  intro F h; kernel_rfl
noncomputable def fs330 (C : YC) (lf : Nat) (a0 a1 : SV) (h : HW) : Rs := q330_19 C lf ff330 (some a0) (some a1) h
theorem fs330_eq (C : YC) (lf : Nat) (a0 a1 : SV) (h : HW) : yFn Tryz.prog fx330 C lf [a0, a1] h = fs330 C lf a0 a1 h := fnX (K := (fun F h => ff330 (F 4) (F 5) h)) (by kernel_rfl) (((q330_19_eq C lf ff330 (fun F h => ff330 (F 4) (F 5) h) (fun _ _ _ => none)) _ h).trans (by kernel_rfl))
noncomputable def fy330 : YX Tryz.prog := Y2 fx330 fs330 fs330_eq (by kernel_rfl)

/-! NAT 331 internal/bytealg.IndexByteString -/
noncomputable def gx331 : XN Tryz.prog := { f := 331, fn := Tryz.f331, k := .indexByte, isFn := Tryz.func331, isPlain := by kernel_rfl, noBody := by kernel_rfl, noNext := by kernel_rfl, isK := by kernel_rfl }

/-! FN 332 math/bits.TrailingZeros64 -/
noncomputable def fx332 : XF Tryz.prog := ⟨332, Tryz.f332, fun _ => .text, Tryz.func332, by kernel_rfl, by kernel_rfl, by kernel_rfl, by kernel_rfl⟩
noncomputable def ff332 (x2 : O) (h : HW) : Rs :=
 ob x2 fun a0 =>
 some (.ret a0, h)
noncomputable def q332_13 (C : YC) (lf : Nat) (r : K1) (x0 : O) (h : HW) : Rs :=
 ob x0 fun a1 =>
 ob (bin Tryz.prog .eql 372 a1 (.int .u64 0)) fun y2 =>
 yIf y2
 (r (some (.int .i64 64)) h)
 (ob x0 fun a3 =>
 ob x0 fun a4 =>
 ob (unE .neg a4) fun y5 =>
 ob (bin Tryz.prog .and 372 a3 y5) fun y6 =>
 ob (bin Tryz.prog .mul 372 y6 (.int .u64 285870213051353865)) fun y7 =>
 ob (bin Tryz.prog .shr 372 y7 (.int .u64 58)) fun y8 =>
 gl h.ng 1 fun a9 =>
 ob (ixA 64 1 a9 y8) fun y10 =>
 ob (ld1 y10 h) fun y11 =>
 ob (cvI .i64 y11) fun y12 =>
 r (some y12) h)
theorem q332_13_eq (C : YC) (lf : Nat) (r : K1) (KN : KF) (KE : KX) : ∀ F h, evX fx332 C lf [] F h KN (fun F h => r (F 2) h) KE = q332_13 C lf r (F 0) h := by
  intro F h; kernel_rfl
noncomputable def fs332 (C : YC) (lf : Nat) (a0 : SV) (h : HW) : Rs := q332_13 C lf ff332 (some a0) h
theorem fs332_eq (C : YC) (lf : Nat) (a0 : SV) (h : HW) : yFn Tryz.prog fx332 C lf [a0] h = fs332 C lf a0 h := fnX (K := (fun F h => ff332 (F 2) h)) (by kernel_rfl) (((q332_13_eq C lf ff332 (fun F h => ff332 (F 2) h) (fun _ _ _ => none)) _ h).trans (by kernel_rfl))
noncomputable def fy332 : YX Tryz.prog := Y1 fx332 fs332 fs332_eq (by kernel_rfl)

/-! FN 335 (*tinsel/tinselref06.FS).needs -/
noncomputable def fx335 : XF Tryz.prog := ⟨335, Tryz.f335, fun _ => .text, Tryz.func335, by kernel_rfl, by kernel_rfl, by kernel_rfl, by kernel_rfl⟩
noncomputable def ff335 (x4 : O) (h : HW) : Rs :=
 ob x4 fun a0 =>
 some (.ret a0, h)
noncomputable def q335_33 (C : YC) (lf : Nat) (r : K1) (x0 x1 : O) (h : HW) : Rs :=
 ob x0 fun a1 =>
 ob (semNil a1) fun y2 =>
 ob (fa 0 y2) fun y3 =>
 ob (ld1 y3 h) fun y4 =>
 ob x1 fun a5 =>
 bc (C (.fn 355) [y4, a5] h) fun y6 h6 =>
 ob (ext 0 y6) fun y7 =>
 ob (ext 1 y6) fun y8 =>
 ob (bin Tryz.prog .gtr 3 y7 (.int .i64 0)) fun y9 =>
 yIf y9
 (r (some (.int .i64 0)) h6)
 (ob x0 fun a10 =>
 ob (semNil a10) fun y11 =>
 ob (fa 0 y11) fun y12 =>
 ob (ld1 y12 h6) fun y13 =>
 ob (semNil y13) fun y14 =>
 ob (fa 4 y14) fun y15 =>
 ob (ld1 y15 h6) fun y16 =>
 ob x1 fun a17 =>
 ob (ixS 308 y16 a17) fun y18 =>
 ob (fa 1 y18) fun y19 =>
 ob (fa 4 y19) fun y20 =>
 ob (ld1 y20 h6) fun y21 =>
 ob (bin Tryz.prog .quo 3 y21 (.int .i64 32)) fun y22 =>
 ob (bin Tryz.prog .mul 3 y22 (.int .i64 32)) fun y23 =>
 ob (bin Tryz.prog .add 3 y23 (.int .i64 32)) fun y24 =>
 ob (bin Tryz.prog .gtr 3 y24 (.int .i64 17792)) fun y25 =>
 yIf y25
 (r (some (.int .i64 (-1))) h6)
 (ob x0 fun a26 =>
 ob (semNil a26) fun y27 =>
 ob (fa 0 y27) fun y28 =>
 ob (ld1 y28 h6) fun y29 =>
 ob x1 fun a30 =>
 ob (bin Tryz.prog .quo 3 y23 (.int .i64 64)) fun y31 =>
 bc (C (.fn 350) [y29, a30, y31] h6) fun y32 h32 =>
 r (some y32) h32))
theorem q335_33_eq (C : YC) (lf : Nat) (r : K1) (KN : KF) (KE : KX) : ∀ F h, evX fx335 C lf [] F h KN (fun F h => r (F 4) h) KE = q335_33 C lf r (F 0) (F 1) h := by
  intro F h; kernel_rfl
noncomputable def fs335 (C : YC) (lf : Nat) (a0 a1 : SV) (h : HW) : Rs := q335_33 C lf ff335 (some a0) (some a1) h
theorem fs335_eq (C : YC) (lf : Nat) (a0 a1 : SV) (h : HW) : yFn Tryz.prog fx335 C lf [a0, a1] h = fs335 C lf a0 a1 h := fnX (K := (fun F h => ff335 (F 4) h)) (by kernel_rfl) (((q335_33_eq C lf ff335 (fun F h => ff335 (F 4) h) (fun _ _ _ => none)) _ h).trans (by kernel_rfl))
noncomputable def fy335 : YX Tryz.prog := Y2 fx335 fs335 fs335_eq (by kernel_rfl)

/-! FN 336 (*tinsel/tinselref01.Store).Left -/
noncomputable def fx336 : XF Tryz.prog := ⟨336, Tryz.f336, fun _ => .text, Tryz.func336, by kernel_rfl, by kernel_rfl, by kernel_rfl, by kernel_rfl⟩
noncomputable def ff336 (x2 : O) (h : HW) : Rs :=
 ob x2 fun a0 =>
 some (.ret a0, h)
noncomputable def q336_2 (C : YC) (lf : Nat) (r : K1) (x3 : O) (h : HW) : Rs :=
 ob x3 fun a1 =>
 r (some a1) h
theorem q336_2_eq (C : YC) (lf : Nat) (r : K1) (KN : KF) (KE : KX) : ∀ F h, evX fx336 C lf [1, 1, 1] F h KN (fun F h => r (F 2) h) KE = q336_2 C lf r (F 3) h := by
  intro F h; kernel_rfl
noncomputable def q336_18 (C : YC) (lf : Nat) (n : K4) (e0 : K1) (x3 x9 x10 x11 : O) (h : HW) : Rs :=
 ob x11 fun a4 =>
 ob x10 fun a5 =>
 ob (bin Tryz.prog .lss 3 a4 a5) fun y6 =>
 yIf y6
 (ob x9 fun a7 =>
 ob x11 fun a8 =>
 ob (ixS 1 a7 a8) fun y9 =>
 ob (ld1 y9 h) fun y10 =>
 ob (unE .not y10) fun y11 =>
 yIf y11
 (ob x3 fun a12 =>
 ob (bin Tryz.prog .add 3 a12 (.int .i64 1)) fun y13 =>
 ob x11 fun a14 =>
 ob (bin Tryz.prog .add 3 a14 (.int .i64 1)) fun y15 =>
 n (some y13) x9 x10 (some y15) h)
 (ob x11 fun a16 =>
 ob (bin Tryz.prog .add 3 a16 (.int .i64 1)) fun y17 =>
 n x3 x9 x10 (some y17) h))
 (e0 x3 h)
theorem q336_18_eq (C : YC) (lf : Nat) (n : K4) (e0 : K1) (KR : KF) (KE : KX) : ∀ F h, evX fx336 C lf [1, 1, 0, 1, 0, 0] F h (fun F h => n (F 3) (F 9) (F 10) (F 11) h) KR (bk 0 (fun F h => e0 (F 3) h) KE) = q336_18 C lf n e0 (F 3) (F 9) (F 10) (F 11) h := by
  intro F h; kernel_rfl
noncomputable def l336_3 (C : YC) (lf : Nat) (e0 : K1) (k : O × O × O × O → HW → Rs) (s : O × O × O × O) (h : HW) : Rs :=
 q336_18 C lf (fun x3 x9 x10 x11 h => k (x3, x9, x10, x11) h) e0 s.1 s.2.1 s.2.2.1 s.2.2.2 h
noncomputable def q336_24 (C : YC) (lf : Nat) (n : K4) (x0 x3 : O) (h : HW) : Rs :=
 ob x0 fun a19 =>
 ob (semNil a19) fun y20 =>
 ob (fa 0 y20) fun y21 =>
 ob (ld1 y21 h) fun y22 =>
 ob (lenE Tryz.prog 106 y22) fun y23 =>
 n x3 (some y22) (some y23) (some (.int .i64 0)) h
theorem q336_24_eq (C : YC) (lf : Nat) (n : K4) (KR : KF) (KE : KX) : ∀ F h, evX fx336 C lf [1, 1, 0, 0] F h (fun F h => n (F 3) (F 9) (F 10) (F 11) h) KR KE = q336_24 C lf n (F 0) (F 3) h := by
  intro F h; kernel_rfl
noncomputable def q336_25 (C : YC) (lf : Nat) (n : K1) (x0 x3 : O) (h : HW) : Rs :=
 q336_24 C lf (fun x3 x9 x10 x11 h => lp (l336_3 C lf n) lf (x3, x9, x10, x11) h) x0 x3 h
theorem q336_25_eq (C : YC) (lf : Nat) (n : K1) (KR : KF) (KE : KX) : ∀ F h, evX fx336 C lf [1, 1, 0] F h (fun F h => n (F 3) h) KR KE = q336_25 C lf n (F 0) (F 3) h := cSeq (a := subX fx336 [1, 1, 0, 0]) (b := subX fx336 [1, 1, 0, 1]) (by kernel_rfl) (B := (fun F h => lp (l336_3 C lf n) lf ((F 3), (F 9), (F 10), (F 11)) h)) (cBlock (id := 0) (a := subX fx336 [1, 1, 0, 1, 0]) (by kernel_rfl) (cLoop (a := subX fx336 [1, 1, 0, 1, 0, 0]) (g := fun F => (F 3, F 9, F 10, F 11)) (body := l336_3 C lf n) (by kernel_rfl) (fun k => (q336_18_eq C lf (fun x3 x9 x10 x11 h => k (x3, x9, x10, x11) h) n KR KE)))) (q336_24_eq C lf (fun x3 x9 x10 x11 h => lp (l336_3 C lf n) lf (x3, x9, x10, x11) h) KR KE)
noncomputable def q336_26 (C : YC) (lf : Nat) (r : K1) (x0 x3 : O) (h : HW) : Rs :=
 q336_25 C lf (fun x3 h => q336_2 C lf r x3 h) x0 x3 h
theorem q336_26_eq (C : YC) (lf : Nat) (r : K1) (KN : KF) (KE : KX) : ∀ F h, evX fx336 C lf [1, 1] F h KN (fun F h => r (F 2) h) KE = q336_26 C lf r (F 0) (F 3) h := cSeq (a := subX fx336 [1, 1, 0]) (b := subX fx336 [1, 1, 1]) (by kernel_rfl) (B := (fun F h => q336_2 C lf r (F 3) h)) (q336_2_eq C lf r KN KE) (q336_25_eq C lf (fun x3 h => q336_2 C lf r x3 h) (fun F h => r (F 2) h) KE)
noncomputable def q336_27 (C : YC) (lf : Nat) (n : K2) (x0 : O) (h : HW) : Rs :=
 n x0 (some (.int .i64 0)) h
theorem q336_27_eq (C : YC) (lf : Nat) (n : K2) (KR : KF) (KE : KX) : ∀ F h, evX fx336 C lf [1, 0] F h (fun F h => n (F 0) (F 3) h) KR KE = q336_27 C lf n (F 0) h := by
  intro F h; kernel_rfl
noncomputable def q336_28 (C : YC) (lf : Nat) (r : K1) (x0 : O) (h : HW) : Rs :=
 q336_27 C lf (fun x0 x3 h => q336_26 C lf r x0 x3 h) x0 h
theorem q336_28_eq (C : YC) (lf : Nat) (r : K1) (KN : KF) (KE : KX) : ∀ F h, evX fx336 C lf [1] F h KN (fun F h => r (F 2) h) KE = q336_28 C lf r (F 0) h := cSeq (a := subX fx336 [1, 0]) (b := subX fx336 [1, 1]) (by kernel_rfl) (B := (fun F h => q336_26 C lf r (F 0) (F 3) h)) (q336_26_eq C lf r KN KE) (q336_27_eq C lf (fun x0 x3 h => q336_26 C lf r x0 x3 h) (fun F h => r (F 2) h) KE)
noncomputable def q336_29 (C : YC) (lf : Nat) (n : K1) (x0 : O) (h : HW) : Rs :=
 n x0 h
theorem q336_29_eq (C : YC) (lf : Nat) (n : K1) (KR : KF) (KE : KX) : ∀ F h, evX fx336 C lf [0] F h (fun F h => n (F 0) h) KR KE = q336_29 C lf n (F 0) h := by
  intro F h; kernel_rfl
noncomputable def q336_30 (C : YC) (lf : Nat) (r : K1) (x0 : O) (h : HW) : Rs :=
 q336_29 C lf (fun x0 h => q336_28 C lf r x0 h) x0 h
theorem q336_30_eq (C : YC) (lf : Nat) (r : K1) (KN : KF) (KE : KX) : ∀ F h, evX fx336 C lf [] F h KN (fun F h => r (F 2) h) KE = q336_30 C lf r (F 0) h := cSeq (a := subX fx336 [0]) (b := subX fx336 [1]) (by kernel_rfl) (B := (fun F h => q336_28 C lf r (F 0) h)) (q336_28_eq C lf r KN KE) (q336_29_eq C lf (fun x0 h => q336_28 C lf r x0 h) (fun F h => r (F 2) h) KE)
noncomputable def fs336 (C : YC) (lf : Nat) (a0 : SV) (h : HW) : Rs := q336_30 C lf ff336 (some a0) h
theorem fs336_eq (C : YC) (lf : Nat) (a0 : SV) (h : HW) : yFn Tryz.prog fx336 C lf [a0] h = fs336 C lf a0 h := fnX (K := (fun F h => ff336 (F 2) h)) (by kernel_rfl) (((q336_30_eq C lf ff336 (fun F h => ff336 (F 2) h) (fun _ _ _ => none)) _ h).trans (by kernel_rfl))
noncomputable def fy336 : YX Tryz.prog := Y1 fx336 fs336 fs336_eq (by kernel_rfl)

/-! FN 337 tinsel/tinselref04.asked -/
noncomputable def fx337 : XF Tryz.prog := ⟨337, Tryz.f337, fun _ => .text, Tryz.func337, by kernel_rfl, by kernel_rfl, by kernel_rfl, by kernel_rfl⟩
noncomputable def ff337 (x6 : O) (h : HW) : Rs :=
 ob x6 fun a0 =>
 some (.ret a0, h)
noncomputable def q337_7 (C : YC) (lf : Nat) (r : K1) (x0 x1 x2 : O) (h : HW) : Rs :=
 ob x0 fun a1 =>
 ob x1 fun a2 =>
 bc (C (.fn 291) [a1, a2] h) fun y3 h3 =>
 ob (bin Tryz.prog .eql 3 y3 (.int .i64 0)) fun y4 =>
 yIf y4
 (ob x2 fun a5 =>
 bc (C (.fn 356) [a5] h3) fun y6 h6 =>
 r (some y6) h6)
 (r (some y3) h3)
theorem q337_7_eq (C : YC) (lf : Nat) (r : K1) (KN : KF) (KE : KX) : ∀ F h, evX fx337 C lf [] F h KN (fun F h => r (F 6) h) KE = q337_7 C lf r (F 0) (F 1) (F 2) h := by
  intro F h; kernel_rfl
noncomputable def fs337 (C : YC) (lf : Nat) (a0 a1 a2 : SV) (h : HW) : Rs := q337_7 C lf ff337 (some a0) (some a1) (some a2) h
theorem fs337_eq (C : YC) (lf : Nat) (a0 a1 a2 : SV) (h : HW) : yFn Tryz.prog fx337 C lf [a0, a1, a2] h = fs337 C lf a0 a1 a2 h := fnX (K := (fun F h => ff337 (F 6) h)) (by kernel_rfl) (((q337_7_eq C lf ff337 (fun F h => ff337 (F 6) h) (fun _ _ _ => none)) _ h).trans (by kernel_rfl))
noncomputable def fy337 : YX Tryz.prog := Y3 fx337 fs337 fs337_eq (by kernel_rfl)

/-! FN 338 tinsel/tinselref04.slot -/
noncomputable def fx338 : XF Tryz.prog := ⟨338, Tryz.f338, fun _ => .text, Tryz.func338, by kernel_rfl, by kernel_rfl, by kernel_rfl, by kernel_rfl⟩
noncomputable def ff338 (x6 : O) (h : HW) : Rs :=
 ob x6 fun a0 =>
 some (.ret a0, h)
noncomputable def q338_1 (C : YC) (lf : Nat) (r : K1) (h : HW) : Rs :=
 r (some (.int .i64 (-1))) h
theorem q338_1_eq (C : YC) (lf : Nat) (r : K1) (KN : KF) (KE : KX) : ∀ F h, evX fx338 C lf [1, 1] F h KN (fun F h => r (F 6) h) KE = q338_1 C lf r h := by
  intro F h; kernel_rfl
noncomputable def q338_23 (C : YC) (lf : Nat) (n : K4) (r : K1) (e0 : K0) (x2 x11 x12 x13 : O) (h : HW) : Rs :=
 ob x13 fun a3 =>
 ob x12 fun a4 =>
 ob (bin Tryz.prog .lss 3 a3 a4) fun y5 =>
 yIf y5
 (ob x13 fun a6 =>
 ob x11 fun a7 =>
 ob x13 fun a8 =>
 ob (ixS 1 a7 a8) fun y9 =>
 ob (ld1 y9 h) fun y10 =>
 bc (C (.fn 340) [y10] h) fun y11 h11 =>
 ob (bin Tryz.prog .gtr 3 y11 (.int .i64 0)) fun y12 =>
 bc (gd true (some y12) (some (.ret y10, h11)) h11) fun y13 h13 =>
 bc (gd true (some y12) (bc (C (.fn 357) [y13] h13) fun y14 h14 =>
 some (.ret y14, h14)) h13) fun y15 h15 =>
 bc (gd true (some y12) (ob x2 fun a16 =>
 some (.ret a16, h15)) h15) fun y17 h17 =>
 bc (gd true (some y12) (ob (bin Tryz.prog .eql 9 y15 y17) fun y18 =>
 some (.ret y18, h17)) h17) fun y19 h19 =>
 ob (ypk y12 y19 (.bool false)) fun y20 =>
 yIf y20
 (r (some a6) h19)
 (ob x13 fun a21 =>
 ob (bin Tryz.prog .add 3 a21 (.int .i64 1)) fun y22 =>
 n x2 x11 x12 (some y22) h19))
 (e0 h)
theorem q338_23_eq (C : YC) (lf : Nat) (n : K4) (r : K1) (e0 : K0) (KE : KX) : ∀ F h, evX fx338 C lf [1, 0, 1, 0, 0] F h (fun F h => n (F 2) (F 11) (F 12) (F 13) h) (fun F h => r (F 6) h) (bk 0 (fun F h => e0 h) KE) = q338_23 C lf n r e0 (F 2) (F 11) (F 12) (F 13) h := by
  intro F h; kernel_rfl
noncomputable def l338_2 (C : YC) (lf : Nat) (r : K1) (e0 : K0) (k : O × O × O × O → HW → Rs) (s : O × O × O × O) (h : HW) : Rs :=
 q338_23 C lf (fun x2 x11 x12 x13 h => k (x2, x11, x12, x13) h) r e0 s.1 s.2.1 s.2.2.1 s.2.2.2 h
noncomputable def q338_28 (C : YC) (lf : Nat) (n : K4) (x0 x1 x2 : O) (h : HW) : Rs :=
 ob x0 fun a24 =>
 ob x1 fun a25 =>
 bc (C (.fn 339) [a24, a25] h) fun y26 h26 =>
 ob (lenE Tryz.prog 385 y26) fun y27 =>
 n x2 (some y26) (some y27) (some (.int .i64 0)) h26
theorem q338_28_eq (C : YC) (lf : Nat) (n : K4) (KR : KF) (KE : KX) : ∀ F h, evX fx338 C lf [1, 0, 0] F h (fun F h => n (F 2) (F 11) (F 12) (F 13) h) KR KE = q338_28 C lf n (F 0) (F 1) (F 2) h := by
  intro F h; kernel_rfl
noncomputable def q338_29 (C : YC) (lf : Nat) (n : K0) (r : K1) (x0 x1 x2 : O) (h : HW) : Rs :=
 q338_28 C lf (fun x2 x11 x12 x13 h => lp (l338_2 C lf r n) lf (x2, x11, x12, x13) h) x0 x1 x2 h
theorem q338_29_eq (C : YC) (lf : Nat) (n : K0) (r : K1) (KE : KX) : ∀ F h, evX fx338 C lf [1, 0] F h (fun F h => n h) (fun F h => r (F 6) h) KE = q338_29 C lf n r (F 0) (F 1) (F 2) h := cSeq (a := subX fx338 [1, 0, 0]) (b := subX fx338 [1, 0, 1]) (by kernel_rfl) (B := (fun F h => lp (l338_2 C lf r n) lf ((F 2), (F 11), (F 12), (F 13)) h)) (cBlock (id := 0) (a := subX fx338 [1, 0, 1, 0]) (by kernel_rfl) (cLoop (a := subX fx338 [1, 0, 1, 0, 0]) (g := fun F => (F 2, F 11, F 12, F 13)) (body := l338_2 C lf r n) (by kernel_rfl) (fun k => (q338_23_eq C lf (fun x2 x11 x12 x13 h => k (x2, x11, x12, x13) h) r n KE)))) (q338_28_eq C lf (fun x2 x11 x12 x13 h => lp (l338_2 C lf r n) lf (x2, x11, x12, x13) h) (fun F h => r (F 6) h) KE)
noncomputable def q338_30 (C : YC) (lf : Nat) (r : K1) (x0 x1 x2 : O) (h : HW) : Rs :=
 q338_29 C lf (fun h => q338_1 C lf r h) r x0 x1 x2 h
theorem q338_30_eq (C : YC) (lf : Nat) (r : K1) (KN : KF) (KE : KX) : ∀ F h, evX fx338 C lf [1] F h KN (fun F h => r (F 6) h) KE = q338_30 C lf r (F 0) (F 1) (F 2) h := cSeq (a := subX fx338 [1, 0]) (b := subX fx338 [1, 1]) (by kernel_rfl) (B := (fun F h => q338_1 C lf r h)) (q338_1_eq C lf r KN KE) (q338_29_eq C lf (fun h => q338_1 C lf r h) r KE)
noncomputable def q338_31 (C : YC) (lf : Nat) (n : K3) (x0 x1 x2 : O) (h : HW) : Rs :=
 n x0 x1 x2 h
theorem q338_31_eq (C : YC) (lf : Nat) (n : K3) (KR : KF) (KE : KX) : ∀ F h, evX fx338 C lf [0] F h (fun F h => n (F 0) (F 1) (F 2) h) KR KE = q338_31 C lf n (F 0) (F 1) (F 2) h := by
  intro F h; kernel_rfl
noncomputable def q338_32 (C : YC) (lf : Nat) (r : K1) (x0 x1 x2 : O) (h : HW) : Rs :=
 q338_31 C lf (fun x0 x1 x2 h => q338_30 C lf r x0 x1 x2 h) x0 x1 x2 h
theorem q338_32_eq (C : YC) (lf : Nat) (r : K1) (KN : KF) (KE : KX) : ∀ F h, evX fx338 C lf [] F h KN (fun F h => r (F 6) h) KE = q338_32 C lf r (F 0) (F 1) (F 2) h := cSeq (a := subX fx338 [0]) (b := subX fx338 [1]) (by kernel_rfl) (B := (fun F h => q338_30 C lf r (F 0) (F 1) (F 2) h)) (q338_30_eq C lf r KN KE) (q338_31_eq C lf (fun x0 x1 x2 h => q338_30 C lf r x0 x1 x2 h) (fun F h => r (F 6) h) KE)
noncomputable def fs338 (C : YC) (lf : Nat) (a0 a1 a2 : SV) (h : HW) : Rs := q338_32 C lf ff338 (some a0) (some a1) (some a2) h
theorem fs338_eq (C : YC) (lf : Nat) (a0 a1 a2 : SV) (h : HW) : yFn Tryz.prog fx338 C lf [a0, a1, a2] h = fs338 C lf a0 a1 a2 h := fnX (K := (fun F h => ff338 (F 6) h)) (by kernel_rfl) (((q338_32_eq C lf ff338 (fun F h => ff338 (F 6) h) (fun _ _ _ => none)) _ h).trans (by kernel_rfl))
noncomputable def fy338 : YX Tryz.prog := Y3 fx338 fs338 fs338_eq (by kernel_rfl)

/-! FN 339 tinsel/tinselref04.slots -/
noncomputable def fx339 : XF Tryz.prog := ⟨339, Tryz.f339, fun _ => .text, Tryz.func339, by kernel_rfl, by kernel_rfl, by kernel_rfl, by kernel_rfl⟩
noncomputable def ff339 (x4 : O) (h : HW) : Rs :=
 ob x4 fun a0 =>
 some (.ret a0, h)
noncomputable def q339_2 (C : YC) (lf : Nat) (r : K1) (x7 : O) (h : HW) : Rs :=
 ob x7 fun a1 =>
 r (some a1) h
theorem q339_2_eq (C : YC) (lf : Nat) (r : K1) (KN : KF) (KE : KX) : ∀ F h, evX fx339 C lf [1, 1, 1, 1] F h KN (fun F h => r (F 4) h) KE = q339_2 C lf r (F 7) h := by
  intro F h; kernel_rfl
noncomputable def q339_14 (C : YC) (lf : Nat) (n : K2) (e0 : K1) (x5 x7 : O) (h : HW) : Rs :=
 ob x5 fun a4 =>
 ob (lenE Tryz.prog 31 a4) fun y5 =>
 ob (bin Tryz.prog .geq 3 y5 (.int .i64 32)) fun y6 =>
 yIf y6
 (ob x7 fun a7 =>
 ob x5 fun a8 =>
 ob (semSlice Tryz.prog 31 a8 none (some (.int .i64 32))) fun y9 =>
 b2 (ybs Tryz.prog 385 1 [0] [y9] h) fun y10 h10 =>
 b2 (ybl Tryz.prog .append #[385, 385] [a7, y10] h10) fun y11 h11 =>
 ob x5 fun a12 =>
 ob (semSlice Tryz.prog 31 a12 (some (.int .i64 32)) none) fun y13 =>
 n (some y13) (some y11) h11)
 (e0 x7 h)
theorem q339_14_eq (C : YC) (lf : Nat) (n : K2) (e0 : K1) (KR : KF) (KE : KX) : ∀ F h, evX fx339 C lf [1, 1, 1, 0, 0, 0] F h (fun F h => n (F 5) (F 7) h) KR (bk 0 (fun F h => e0 (F 7) h) KE) = q339_14 C lf n e0 (F 5) (F 7) h := by
  intro F h; kernel_rfl
noncomputable def l339_3 (C : YC) (lf : Nat) (e0 : K1) (k : O × O → HW → Rs) (s : O × O) (h : HW) : Rs :=
 q339_14 C lf (fun x5 x7 h => k (x5, x7) h) e0 s.1 s.2 h
noncomputable def q339_15 (C : YC) (lf : Nat) (r : K1) (x5 x7 : O) (h : HW) : Rs :=
 lp (l339_3 C lf (fun x7 h => q339_2 C lf r x7 h)) lf (x5, x7) h
theorem q339_15_eq (C : YC) (lf : Nat) (r : K1) (KN : KF) (KE : KX) : ∀ F h, evX fx339 C lf [1, 1, 1] F h KN (fun F h => r (F 4) h) KE = q339_15 C lf r (F 5) (F 7) h := cSeq (a := subX fx339 [1, 1, 1, 0]) (b := subX fx339 [1, 1, 1, 1]) (by kernel_rfl) (B := (fun F h => q339_2 C lf r (F 7) h)) (q339_2_eq C lf r KN KE) (cBlock (id := 0) (a := subX fx339 [1, 1, 1, 0, 0]) (by kernel_rfl) (cLoop (a := subX fx339 [1, 1, 1, 0, 0, 0]) (g := fun F => (F 5, F 7)) (body := l339_3 C lf (fun x7 h => q339_2 C lf r x7 h)) (by kernel_rfl) (fun k => (q339_14_eq C lf (fun x5 x7 h => k (x5, x7) h) (fun x7 h => q339_2 C lf r x7 h) (fun F h => r (F 4) h) KE))))
noncomputable def q339_16 (C : YC) (lf : Nat) (n : K2) (x5 : O) (h : HW) : Rs :=
 n x5 (some (.val (.slice none 0 0))) h
theorem q339_16_eq (C : YC) (lf : Nat) (n : K2) (KR : KF) (KE : KX) : ∀ F h, evX fx339 C lf [1, 1, 0] F h (fun F h => n (F 5) (F 7) h) KR KE = q339_16 C lf n (F 5) h := by
  intro F h; kernel_rfl
noncomputable def q339_17 (C : YC) (lf : Nat) (r : K1) (x5 : O) (h : HW) : Rs :=
 q339_16 C lf (fun x5 x7 h => q339_15 C lf r x5 x7 h) x5 h
theorem q339_17_eq (C : YC) (lf : Nat) (r : K1) (KN : KF) (KE : KX) : ∀ F h, evX fx339 C lf [1, 1] F h KN (fun F h => r (F 4) h) KE = q339_17 C lf r (F 5) h := cSeq (a := subX fx339 [1, 1, 0]) (b := subX fx339 [1, 1, 1]) (by kernel_rfl) (B := (fun F h => q339_15 C lf r (F 5) (F 7) h)) (q339_15_eq C lf r KN KE) (q339_16_eq C lf (fun x5 x7 h => q339_15 C lf r x5 x7 h) (fun F h => r (F 4) h) KE)
noncomputable def q339_32 (C : YC) (lf : Nat) (n : K1) (x0 x1 : O) (h : HW) : Rs :=
 ob x0 fun a18 =>
 ob x1 fun a19 =>
 ob x0 fun a20 =>
 ob (semNil a20) fun y21 =>
 ob (fa 4 y21) fun y22 =>
 ob (ld1 y22 h) fun y23 =>
 ob x1 fun a24 =>
 ob (ixS 308 y23 a24) fun y25 =>
 ob (fa 1 y25) fun y26 =>
 ob (fa 4 y26) fun y27 =>
 ob (ld1 y27 h) fun y28 =>
 bc (C (.fn 347) [a18, a19, (.int .i64 0), y28] h) fun y29 h29 =>
 ob (ext 0 y29) fun y30 =>
 ob (ext 1 y29) fun y31 =>
 n (some y30) h29
theorem q339_32_eq (C : YC) (lf : Nat) (n : K1) (KR : KF) (KE : KX) : ∀ F h, evX fx339 C lf [1, 0] F h (fun F h => n (F 5) h) KR KE = q339_32 C lf n (F 0) (F 1) h := by
  intro F h; kernel_rfl
noncomputable def q339_33 (C : YC) (lf : Nat) (r : K1) (x0 x1 : O) (h : HW) : Rs :=
 q339_32 C lf (fun x5 h => q339_17 C lf r x5 h) x0 x1 h
theorem q339_33_eq (C : YC) (lf : Nat) (r : K1) (KN : KF) (KE : KX) : ∀ F h, evX fx339 C lf [1] F h KN (fun F h => r (F 4) h) KE = q339_33 C lf r (F 0) (F 1) h := cSeq (a := subX fx339 [1, 0]) (b := subX fx339 [1, 1]) (by kernel_rfl) (B := (fun F h => q339_17 C lf r (F 5) h)) (q339_17_eq C lf r KN KE) (q339_32_eq C lf (fun x5 h => q339_17 C lf r x5 h) (fun F h => r (F 4) h) KE)
noncomputable def q339_34 (C : YC) (lf : Nat) (n : K2) (x0 x1 : O) (h : HW) : Rs :=
 n x0 x1 h
theorem q339_34_eq (C : YC) (lf : Nat) (n : K2) (KR : KF) (KE : KX) : ∀ F h, evX fx339 C lf [0] F h (fun F h => n (F 0) (F 1) h) KR KE = q339_34 C lf n (F 0) (F 1) h := by
  intro F h; kernel_rfl
noncomputable def q339_35 (C : YC) (lf : Nat) (r : K1) (x0 x1 : O) (h : HW) : Rs :=
 q339_34 C lf (fun x0 x1 h => q339_33 C lf r x0 x1 h) x0 x1 h
theorem q339_35_eq (C : YC) (lf : Nat) (r : K1) (KN : KF) (KE : KX) : ∀ F h, evX fx339 C lf [] F h KN (fun F h => r (F 4) h) KE = q339_35 C lf r (F 0) (F 1) h := cSeq (a := subX fx339 [0]) (b := subX fx339 [1]) (by kernel_rfl) (B := (fun F h => q339_33 C lf r (F 0) (F 1) h)) (q339_33_eq C lf r KN KE) (q339_34_eq C lf (fun x0 x1 h => q339_33 C lf r x0 x1 h) (fun F h => r (F 4) h) KE)
noncomputable def fs339 (C : YC) (lf : Nat) (a0 a1 : SV) (h : HW) : Rs := q339_35 C lf ff339 (some a0) (some a1) h
theorem fs339_eq (C : YC) (lf : Nat) (a0 a1 : SV) (h : HW) : yFn Tryz.prog fx339 C lf [a0, a1] h = fs339 C lf a0 a1 h := fnX (K := (fun F h => ff339 (F 4) h)) (by kernel_rfl) (((q339_35_eq C lf ff339 (fun F h => ff339 (F 4) h) (fun _ _ _ => none)) _ h).trans (by kernel_rfl))
noncomputable def fy339 : YX Tryz.prog := Y2 fx339 fs339 fs339_eq (by kernel_rfl)

/-! FN 340 tinsel/tinselref04.number -/
noncomputable def fx340 : XF Tryz.prog := ⟨340, Tryz.f340, fun _ => .text, Tryz.func340, by kernel_rfl, by kernel_rfl, by kernel_rfl, by kernel_rfl⟩
noncomputable def ff340 (x2 : O) (h : HW) : Rs :=
 ob x2 fun a0 =>
 some (.ret a0, h)
noncomputable def q340_23 (C : YC) (lf : Nat) (r : K1) (x0 : O) (h : HW) : Rs :=
 ob x0 fun a1 =>
 ob (ixS 1 a1 (.int .i64 0)) fun y2 =>
 ob (ld1 y2 h) fun y3 =>
 ob (cvI .i64 y3) fun y4 =>
 ob x0 fun a5 =>
 ob (ixS 1 a5 (.int .i64 1)) fun y6 =>
 ob (ld1 y6 h) fun y7 =>
 ob (cvI .i64 y7) fun y8 =>
 ob (bin Tryz.prog .shl 3 y8 (.int .u64 8)) fun y9 =>
 ob (bin Tryz.prog .or 3 y4 y9) fun y10 =>
 ob x0 fun a11 =>
 ob (ixS 1 a11 (.int .i64 2)) fun y12 =>
 ob (ld1 y12 h) fun y13 =>
 ob (cvI .i64 y13) fun y14 =>
 ob (bin Tryz.prog .shl 3 y14 (.int .u64 16)) fun y15 =>
 ob (bin Tryz.prog .or 3 y10 y15) fun y16 =>
 ob x0 fun a17 =>
 ob (ixS 1 a17 (.int .i64 3)) fun y18 =>
 ob (ld1 y18 h) fun y19 =>
 ob (cvI .i64 y19) fun y20 =>
 ob (bin Tryz.prog .shl 3 y20 (.int .u64 24)) fun y21 =>
 ob (bin Tryz.prog .or 3 y16 y21) fun y22 =>
 r (some y22) h
theorem q340_23_eq (C : YC) (lf : Nat) (r : K1) (KN : KF) (KE : KX) : ∀ F h, evX fx340 C lf [] F h KN (fun F h => r (F 2) h) KE = q340_23 C lf r (F 0) h := by
  intro F h; kernel_rfl
noncomputable def fs340 (C : YC) (lf : Nat) (a0 : SV) (h : HW) : Rs := q340_23 C lf ff340 (some a0) h
theorem fs340_eq (C : YC) (lf : Nat) (a0 : SV) (h : HW) : yFn Tryz.prog fx340 C lf [a0] h = fs340 C lf a0 h := fnX (K := (fun F h => ff340 (F 2) h)) (by kernel_rfl) (((q340_23_eq C lf ff340 (fun F h => ff340 (F 2) h) (fun _ _ _ => none)) _ h).trans (by kernel_rfl))
noncomputable def fy340 : YX Tryz.prog := Y1 fx340 fs340 fs340_eq (by kernel_rfl)

/-! FN 341 tinsel/tinselref03.Names -/
noncomputable def fx341 : XF Tryz.prog := ⟨341, Tryz.f341, fun _ => .text, Tryz.func341, by kernel_rfl, by kernel_rfl, by kernel_rfl, by kernel_rfl⟩
noncomputable def ff341 (x2 : O) (h : HW) : Rs :=
 ob x2 fun a0 =>
 some (.ret a0, h)
noncomputable def q341_8 (C : YC) (lf : Nat) (r : K1) (x3 x4 : O) (h : HW) : Rs :=
 ob x4 fun a1 =>
 ob (bin Tryz.prog .neq 9 a1 (.str (bs []))) fun y2 =>
 yIf y2
 (ob x3 fun a3 =>
 ob x4 fun a4 =>
 b2 (ybs Tryz.prog 25 1 [0] [a4] h) fun y5 h5 =>
 b2 (ybl Tryz.prog .append #[25, 25] [a3, y5] h5) fun y6 h6 =>
 r (some y6) h6)
 (ob x3 fun a7 =>
 r (some a7) h)
theorem q341_8_eq (C : YC) (lf : Nat) (r : K1) (KN : KF) (KE : KX) : ∀ F h, evX fx341 C lf [1, 1, 1, 1] F h KN (fun F h => r (F 2) h) KE = q341_8 C lf r (F 3) (F 4) h := by
  intro F h; kernel_rfl
noncomputable def q341_37 (C : YC) (lf : Nat) (n : K4) (e0 : K2) (x0 x3 x4 x5 : O) (h : HW) : Rs :=
 ob x5 fun a10 =>
 ob x0 fun a11 =>
 ob (lenE Tryz.prog 9 a11) fun y12 =>
 ob (bin Tryz.prog .lss 3 a10 y12) fun y13 =>
 yIf y13
 (ob x0 fun a14 =>
 ob x5 fun a15 =>
 ob (semIndex Tryz.prog 9 a14 a15) fun y16 =>
 ob (bin Tryz.prog .neq 5 y16 (.int .u8 47)) fun y17 =>
 yIf y17
 (ob x4 fun a18 =>
 ob x0 fun a19 =>
 ob x5 fun a20 =>
 ob x5 fun a21 =>
 ob (bin Tryz.prog .add 3 a21 (.int .i64 1)) fun y22 =>
 ob (semSlice Tryz.prog 9 a19 (some a20) (some y22)) fun y23 =>
 ob (bin Tryz.prog .add 9 a18 y23) fun y24 =>
 ob x5 fun a25 =>
 ob (bin Tryz.prog .add 3 a25 (.int .i64 1)) fun y26 =>
 n x0 x3 (some y24) (some y26) h)
 (ob x4 fun a27 =>
 ob (bin Tryz.prog .neq 9 a27 (.str (bs []))) fun y28 =>
 yIf y28
 (ob x3 fun a29 =>
 ob x4 fun a30 =>
 b2 (ybs Tryz.prog 25 1 [0] [a30] h) fun y31 h31 =>
 b2 (ybl Tryz.prog .append #[25, 25] [a29, y31] h31) fun y32 h32 =>
 ob x5 fun a33 =>
 ob (bin Tryz.prog .add 3 a33 (.int .i64 1)) fun y34 =>
 n x0 (some y32) (some (.str (bs []))) (some y34) h32)
 (ob x5 fun a35 =>
 ob (bin Tryz.prog .add 3 a35 (.int .i64 1)) fun y36 =>
 n x0 x3 (some (.str (bs []))) (some y36) h)))
 (e0 x3 x4 h)
theorem q341_37_eq (C : YC) (lf : Nat) (n : K4) (e0 : K2) (KR : KF) (KE : KX) : ∀ F h, evX fx341 C lf [1, 1, 1, 0, 1, 0, 0] F h (fun F h => n (F 0) (F 3) (F 4) (F 5) h) KR (bk 0 (fun F h => e0 (F 3) (F 4) h) KE) = q341_37 C lf n e0 (F 0) (F 3) (F 4) (F 5) h := by
  intro F h; kernel_rfl
noncomputable def l341_9 (C : YC) (lf : Nat) (e0 : K2) (k : O × O × O × O → HW → Rs) (s : O × O × O × O) (h : HW) : Rs :=
 q341_37 C lf (fun x0 x3 x4 x5 h => k (x0, x3, x4, x5) h) e0 s.1 s.2.1 s.2.2.1 s.2.2.2 h
noncomputable def q341_38 (C : YC) (lf : Nat) (n : K4) (x0 x3 x4 : O) (h : HW) : Rs :=
 n x0 x3 x4 (some (.int .i64 0)) h
theorem q341_38_eq (C : YC) (lf : Nat) (n : K4) (KR : KF) (KE : KX) : ∀ F h, evX fx341 C lf [1, 1, 1, 0, 0] F h (fun F h => n (F 0) (F 3) (F 4) (F 5) h) KR KE = q341_38 C lf n (F 0) (F 3) (F 4) h := by
  intro F h; kernel_rfl
noncomputable def q341_39 (C : YC) (lf : Nat) (n : K2) (x0 x3 x4 : O) (h : HW) : Rs :=
 q341_38 C lf (fun x0 x3 x4 x5 h => lp (l341_9 C lf n) lf (x0, x3, x4, x5) h) x0 x3 x4 h
theorem q341_39_eq (C : YC) (lf : Nat) (n : K2) (KR : KF) (KE : KX) : ∀ F h, evX fx341 C lf [1, 1, 1, 0] F h (fun F h => n (F 3) (F 4) h) KR KE = q341_39 C lf n (F 0) (F 3) (F 4) h := cSeq (a := subX fx341 [1, 1, 1, 0, 0]) (b := subX fx341 [1, 1, 1, 0, 1]) (by kernel_rfl) (B := (fun F h => lp (l341_9 C lf n) lf ((F 0), (F 3), (F 4), (F 5)) h)) (cBlock (id := 0) (a := subX fx341 [1, 1, 1, 0, 1, 0]) (by kernel_rfl) (cLoop (a := subX fx341 [1, 1, 1, 0, 1, 0, 0]) (g := fun F => (F 0, F 3, F 4, F 5)) (body := l341_9 C lf n) (by kernel_rfl) (fun k => (q341_37_eq C lf (fun x0 x3 x4 x5 h => k (x0, x3, x4, x5) h) n KR KE)))) (q341_38_eq C lf (fun x0 x3 x4 x5 h => lp (l341_9 C lf n) lf (x0, x3, x4, x5) h) KR KE)
noncomputable def q341_40 (C : YC) (lf : Nat) (r : K1) (x0 x3 x4 : O) (h : HW) : Rs :=
 q341_39 C lf (fun x3 x4 h => q341_8 C lf r x3 x4 h) x0 x3 x4 h
theorem q341_40_eq (C : YC) (lf : Nat) (r : K1) (KN : KF) (KE : KX) : ∀ F h, evX fx341 C lf [1, 1, 1] F h KN (fun F h => r (F 2) h) KE = q341_40 C lf r (F 0) (F 3) (F 4) h := cSeq (a := subX fx341 [1, 1, 1, 0]) (b := subX fx341 [1, 1, 1, 1]) (by kernel_rfl) (B := (fun F h => q341_8 C lf r (F 3) (F 4) h)) (q341_8_eq C lf r KN KE) (q341_39_eq C lf (fun x3 x4 h => q341_8 C lf r x3 x4 h) (fun F h => r (F 2) h) KE)
noncomputable def q341_41 (C : YC) (lf : Nat) (n : K3) (x0 x3 : O) (h : HW) : Rs :=
 n x0 x3 (some (.str (bs []))) h
theorem q341_41_eq (C : YC) (lf : Nat) (n : K3) (KR : KF) (KE : KX) : ∀ F h, evX fx341 C lf [1, 1, 0] F h (fun F h => n (F 0) (F 3) (F 4) h) KR KE = q341_41 C lf n (F 0) (F 3) h := by
  intro F h; kernel_rfl
noncomputable def q341_42 (C : YC) (lf : Nat) (r : K1) (x0 x3 : O) (h : HW) : Rs :=
 q341_41 C lf (fun x0 x3 x4 h => q341_40 C lf r x0 x3 x4 h) x0 x3 h
theorem q341_42_eq (C : YC) (lf : Nat) (r : K1) (KN : KF) (KE : KX) : ∀ F h, evX fx341 C lf [1, 1] F h KN (fun F h => r (F 2) h) KE = q341_42 C lf r (F 0) (F 3) h := cSeq (a := subX fx341 [1, 1, 0]) (b := subX fx341 [1, 1, 1]) (by kernel_rfl) (B := (fun F h => q341_40 C lf r (F 0) (F 3) (F 4) h)) (q341_40_eq C lf r KN KE) (q341_41_eq C lf (fun x0 x3 x4 h => q341_40 C lf r x0 x3 x4 h) (fun F h => r (F 2) h) KE)
noncomputable def q341_43 (C : YC) (lf : Nat) (n : K2) (x0 : O) (h : HW) : Rs :=
 n x0 (some (.val (.slice none 0 0))) h
theorem q341_43_eq (C : YC) (lf : Nat) (n : K2) (KR : KF) (KE : KX) : ∀ F h, evX fx341 C lf [1, 0] F h (fun F h => n (F 0) (F 3) h) KR KE = q341_43 C lf n (F 0) h := by
  intro F h; kernel_rfl
noncomputable def q341_44 (C : YC) (lf : Nat) (r : K1) (x0 : O) (h : HW) : Rs :=
 q341_43 C lf (fun x0 x3 h => q341_42 C lf r x0 x3 h) x0 h
theorem q341_44_eq (C : YC) (lf : Nat) (r : K1) (KN : KF) (KE : KX) : ∀ F h, evX fx341 C lf [1] F h KN (fun F h => r (F 2) h) KE = q341_44 C lf r (F 0) h := cSeq (a := subX fx341 [1, 0]) (b := subX fx341 [1, 1]) (by kernel_rfl) (B := (fun F h => q341_42 C lf r (F 0) (F 3) h)) (q341_42_eq C lf r KN KE) (q341_43_eq C lf (fun x0 x3 h => q341_42 C lf r x0 x3 h) (fun F h => r (F 2) h) KE)
noncomputable def q341_45 (C : YC) (lf : Nat) (n : K1) (x0 : O) (h : HW) : Rs :=
 n x0 h
theorem q341_45_eq (C : YC) (lf : Nat) (n : K1) (KR : KF) (KE : KX) : ∀ F h, evX fx341 C lf [0] F h (fun F h => n (F 0) h) KR KE = q341_45 C lf n (F 0) h := by
  intro F h; kernel_rfl
noncomputable def q341_46 (C : YC) (lf : Nat) (r : K1) (x0 : O) (h : HW) : Rs :=
 q341_45 C lf (fun x0 h => q341_44 C lf r x0 h) x0 h
theorem q341_46_eq (C : YC) (lf : Nat) (r : K1) (KN : KF) (KE : KX) : ∀ F h, evX fx341 C lf [] F h KN (fun F h => r (F 2) h) KE = q341_46 C lf r (F 0) h := cSeq (a := subX fx341 [0]) (b := subX fx341 [1]) (by kernel_rfl) (B := (fun F h => q341_44 C lf r (F 0) h)) (q341_44_eq C lf r KN KE) (q341_45_eq C lf (fun x0 h => q341_44 C lf r x0 h) (fun F h => r (F 2) h) KE)
noncomputable def fs341 (C : YC) (lf : Nat) (a0 : SV) (h : HW) : Rs := q341_46 C lf ff341 (some a0) h
theorem fs341_eq (C : YC) (lf : Nat) (a0 : SV) (h : HW) : yFn Tryz.prog fx341 C lf [a0] h = fs341 C lf a0 h := fnX (K := (fun F h => ff341 (F 2) h)) (by kernel_rfl) (((q341_46_eq C lf ff341 (fun F h => ff341 (F 2) h) (fun _ _ _ => none)) _ h).trans (by kernel_rfl))
noncomputable def fy341 : YX Tryz.prog := Y1 fx341 fs341 fs341_eq (by kernel_rfl)

/-! FN 342 tinsel/tinselref03.Abs -/
noncomputable def fx342 : XF Tryz.prog := ⟨342, Tryz.f342, fun _ => .text, Tryz.func342, by kernel_rfl, by kernel_rfl, by kernel_rfl, by kernel_rfl⟩
noncomputable def ff342 (x2 : O) (h : HW) : Rs :=
 ob x2 fun a0 =>
 some (.ret a0, h)
noncomputable def q342_11 (C : YC) (lf : Nat) (r : K1) (x0 : O) (h : HW) : Rs :=
 ob x0 fun a1 =>
 ob (lenE Tryz.prog 9 a1) fun y2 =>
 ob (bin Tryz.prog .gtr 3 y2 (.int .i64 0)) fun y3 =>
 bc (gd true (some y3) (ob x0 fun a4 =>
 some (.ret a4, h)) h) fun y5 h5 =>
 bc (gd true (some y3) (ob (semIndex Tryz.prog 9 y5 (.int .i64 0)) fun y6 =>
 some (.ret y6, h5)) h5) fun y7 h7 =>
 bc (gd true (some y3) (ob (bin Tryz.prog .eql 5 y7 (.int .u8 47)) fun y8 =>
 some (.ret y8, h7)) h7) fun y9 h9 =>
 ob (ypk y3 y9 (.bool false)) fun y10 =>
 r (some y10) h9
theorem q342_11_eq (C : YC) (lf : Nat) (r : K1) (KN : KF) (KE : KX) : ∀ F h, evX fx342 C lf [] F h KN (fun F h => r (F 2) h) KE = q342_11 C lf r (F 0) h := by
  intro F h; kernel_rfl
noncomputable def fs342 (C : YC) (lf : Nat) (a0 : SV) (h : HW) : Rs := q342_11 C lf ff342 (some a0) h
theorem fs342_eq (C : YC) (lf : Nat) (a0 : SV) (h : HW) : yFn Tryz.prog fx342 C lf [a0] h = fs342 C lf a0 h := fnX (K := (fun F h => ff342 (F 2) h)) (by kernel_rfl) (((q342_11_eq C lf ff342 (fun F h => ff342 (F 2) h) (fun _ _ _ => none)) _ h).trans (by kernel_rfl))
noncomputable def fy342 : YX Tryz.prog := Y1 fx342 fs342 fs342_eq (by kernel_rfl)

/-! FN 343 strings.ContainsAny -/
noncomputable def fx343 : XF Tryz.prog := ⟨343, Tryz.f343, fun _ => .text, Tryz.func343, by kernel_rfl, by kernel_rfl, by kernel_rfl, by kernel_rfl⟩
noncomputable def ff343 (x4 : O) (h : HW) : Rs :=
 ob x4 fun a0 =>
 some (.ret a0, h)
noncomputable def q343_5 (C : YC) (lf : Nat) (r : K1) (x0 x1 : O) (h : HW) : Rs :=
 ob x0 fun a1 =>
 ob x1 fun a2 =>
 bc (C (.fn 358) [a1, a2] h) fun y3 h3 =>
 ob (bin Tryz.prog .geq 3 y3 (.int .i64 0)) fun y4 =>
 r (some y4) h3
theorem q343_5_eq (C : YC) (lf : Nat) (r : K1) (KN : KF) (KE : KX) : ∀ F h, evX fx343 C lf [] F h KN (fun F h => r (F 4) h) KE = q343_5 C lf r (F 0) (F 1) h := by
  intro F h; kernel_rfl
noncomputable def fs343 (C : YC) (lf : Nat) (a0 a1 : SV) (h : HW) : Rs := q343_5 C lf ff343 (some a0) (some a1) h
theorem fs343_eq (C : YC) (lf : Nat) (a0 a1 : SV) (h : HW) : yFn Tryz.prog fx343 C lf [a0, a1] h = fs343 C lf a0 a1 h := fnX (K := (fun F h => ff343 (F 4) h)) (by kernel_rfl) (((q343_5_eq C lf ff343 (fun F h => ff343 (F 4) h) (fun _ _ _ => none)) _ h).trans (by kernel_rfl))
noncomputable def fy343 : YX Tryz.prog := Y2 fx343 fs343 fs343_eq (by kernel_rfl)

/-! FN 344 bytes.IndexByte -/
noncomputable def fx344 : XF Tryz.prog := ⟨344, Tryz.f344, fun _ => .text, Tryz.func344, by kernel_rfl, by kernel_rfl, by kernel_rfl, by kernel_rfl⟩
noncomputable def ff344 (x4 : O) (h : HW) : Rs :=
 ob x4 fun a0 =>
 some (.ret a0, h)
noncomputable def q344_4 (C : YC) (lf : Nat) (r : K1) (x0 x1 : O) (h : HW) : Rs :=
 ob x0 fun a1 =>
 ob x1 fun a2 =>
 bc (C (.fn 359) [a1, a2] h) fun y3 h3 =>
 r (some y3) h3
theorem q344_4_eq (C : YC) (lf : Nat) (r : K1) (KN : KF) (KE : KX) : ∀ F h, evX fx344 C lf [] F h KN (fun F h => r (F 4) h) KE = q344_4 C lf r (F 0) (F 1) h := by
  intro F h; kernel_rfl
noncomputable def fs344 (C : YC) (lf : Nat) (a0 a1 : SV) (h : HW) : Rs := q344_4 C lf ff344 (some a0) (some a1) h
theorem fs344_eq (C : YC) (lf : Nat) (a0 a1 : SV) (h : HW) : yFn Tryz.prog fx344 C lf [a0, a1] h = fs344 C lf a0 a1 h := fnX (K := (fun F h => ff344 (F 4) h)) (by kernel_rfl) (((q344_4_eq C lf ff344 (fun F h => ff344 (F 4) h) (fun _ _ _ => none)) _ h).trans (by kernel_rfl))
noncomputable def fy344 : YX Tryz.prog := Y2 fx344 fs344 fs344_eq (by kernel_rfl)

end Go.Proofs.YtoglpmfmnknlaaaGreatDoor.Eva
