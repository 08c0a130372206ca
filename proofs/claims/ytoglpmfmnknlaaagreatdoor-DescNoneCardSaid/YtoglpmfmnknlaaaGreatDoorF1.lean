/- Texts of functions of the program. -/
import Derived.Test.YtoglpmfmnknlaaaGreatDoorCards
import Derived.Test.YtoglpmfmnknlaaaGreatDoorXeYh
namespace Go.Proofs.YtoglpmfmnknlaaaGreatDoor.Eva
open Go.Xe
set_option maxRecDepth 100000
set_option linter.unusedVariables false
/-! FN 220 (*tinsel/inode.Table).touch -/
noncomputable def fx220 : XF Tryz.prog := { f := 220, fn := Tryz.f220, ord := fun _ => .text, isFn := Tryz.func220, isBody := by kernel_rfl, isPlain := by kernel_rfl, isSmall := by kernel_rfl, isOK := by kernel_rfl }
noncomputable def fb220 : Code := Tryz.f220.body.getD .skip
noncomputable def fn220 : Nat := Tryz.f220.ntmps
noncomputable abbrev ev220 (C : YC) (lf : Nat) (p : List Nat) := evY Tryz.prog C fn220 fx220.ord lf (sub fb220 p)
noncomputable def ff220 (h : HW) : Rs :=
 some (.ret (.tup []), h)
noncomputable def q220_18 (C : YC) (lf : Nat) (n : K0) (x0 x1 : O) (h : HW) : Rs :=
 ob x1 fun a0 =>
 ob x1 fun a1 =>
 ob x0 fun a2 =>
 ob (semNil a2) fun y3 =>
 ob (fa 2 y3) fun y4 =>
 ob (ld1 y4 h) fun y5 =>
 ob x0 fun a6 =>
 ob (semNil a6) fun y7 =>
 ob (fa 2 y7) fun y8 =>
 ob (ld1 y8 h) fun y9 =>
 ob (semNil a0) fun y10 =>
 ob (fa 1 y10) fun y11 =>
 ob (fa 8 y11) fun y12 =>
 ob (st 1 y12 y5 h) fun h13 =>
 ob (semNil a1) fun y14 =>
 ob (fa 1 y14) fun y15 =>
 ob (fa 9 y15) fun y16 =>
 ob (st 1 y16 y9 h13) fun h17 =>
 n h17
theorem q220_18_eq (C : YC) (lf : Nat) (n : K0) (KR : KF) (KE : KX) : ∀ F h, ev220 C lf [] F h (fun F h => n h) KR KE = q220_18 C lf n (F 0) (F 1) h := by
  intro F h; kernel_rfl
noncomputable def fs220 (C : YC) (lf : Nat) (a0 a1 : SV) (h : HW) : Rs := q220_18 C lf ff220 (some a0) (some a1) h
theorem fs220_eq (C : YC) (lf : Nat) (a0 a1 : SV) (h : HW) : yFn Tryz.prog fx220 C lf [a0, a1] h = fs220 C lf a0 a1 h :=
  fnOf (K := (fun F h => ff220 h)) (b := fb220) (N := fn220) (by kernel_rfl) (by kernel_rfl) (by kernel_rfl) (((q220_18_eq C lf ff220 (fun F h => ff220 h) (fun _ _ _ => none)) (frOf [a0, a1]) h).trans (by kernel_rfl))
noncomputable def ft220 (C : YC) (lf : Nat) (args : List SV) (h : HW) : Rs := match args with | [a0, a1] => fs220 C lf a0 a1 h | _ => none
theorem ft220_eq (C : YC) (lf : Nat) (args : List SV) (h : HW) (r : Out × HW) (e : ft220 C lf args h = some r) : Nat.ble args.length fx220.fn.ntmps = true ∧ yFn Tryz.prog fx220 C lf args h = some r := by
  rcases args with _ | ⟨a0, _ | ⟨a1, _ | ⟨_, _⟩⟩⟩ <;> first | (cases e; done) | exact ⟨by kernel_rfl, (fs220_eq ..).trans e⟩
noncomputable def fy220 : YX Tryz.prog := ⟨fx220, ft220, ft220_eq⟩

/-! FN 221 tinsel/perm.Access -/
noncomputable def fx221 : XF Tryz.prog := { f := 221, fn := Tryz.f221, ord := fun _ => .text, isFn := Tryz.func221, isBody := by kernel_rfl, isPlain := by kernel_rfl, isSmall := by kernel_rfl, isOK := by kernel_rfl }
noncomputable def fb221 : Code := Tryz.f221.body.getD .skip
noncomputable def fn221 : Nat := Tryz.f221.ntmps
noncomputable abbrev ev221 (C : YC) (lf : Nat) (p : List Nat) := evY Tryz.prog C fn221 fx221.ord lf (sub fb221 p)
noncomputable def ff221 (x10 : O) (h : HW) : Rs :=
 ob x10 fun a0 =>
 some (.ret a0, h)
noncomputable def q221_6 (C : YC) (lf : Nat) (r : K1) (x11 x12 : O) (h : HW) : Rs :=
 ob x12 fun a1 =>
 ob x11 fun a2 =>
 ob (bin Tryz.prog .and 30 a1 a2) fun y3 =>
 ob x11 fun a4 =>
 ob (bin Tryz.prog .eql 30 y3 a4) fun y5 =>
 r (some y5) h
theorem q221_6_eq (C : YC) (lf : Nat) (r : K1) (KN : KF) (KE : KX) : ∀ F h, ev221 C lf [1, 1, 1, 1, 1] F h KN (fun F h => r (F 10) h) KE = q221_6 C lf r (F 11) (F 12) h := by
  intro F h; kernel_rfl
noncomputable def q221_20 (C : YC) (lf : Nat) (n : K2) (x0 x1 x2 x8 x11 x12 : O) (h : HW) : Rs :=
 ob x8 fun a7 =>
 ob (fa 0 a7) fun y8 =>
 ob (ld1 y8 h) fun y9 =>
 ob x1 fun a10 =>
 ob (bin Tryz.prog .eql 3 y9 a10) fun y11 =>
 yIf y11
 (ob x0 fun a12 =>
 ob (bin Tryz.prog .shr 30 a12 (.int .u64 6)) fun y13 =>
 n x11 (some y13) h)
 (ob x8 fun a14 =>
 ob (ldN 5 a14 h) fun y15 =>
 ob x2 fun a16 =>
 bc (C (.fn 287) [y15, a16] h) fun y17 h17 =>
 yIf y17
 (ob x0 fun a18 =>
 ob (bin Tryz.prog .shr 30 a18 (.int .u64 3)) fun y19 =>
 n x11 (some y19) h17)
 (n x11 x12 h17))
theorem q221_20_eq (C : YC) (lf : Nat) (n : K2) (KR : KF) (KE : KX) : ∀ F h, ev221 C lf [1, 1, 1, 1, 0] F h (fun F h => n (F 11) (F 12) h) KR KE = q221_20 C lf n (F 0) (F 1) (F 2) (F 8) (F 11) (F 12) h := by
  intro F h; kernel_rfl
noncomputable def q221_21 (C : YC) (lf : Nat) (r : K1) (x0 x1 x2 x8 x11 x12 : O) (h : HW) : Rs :=
 q221_20 C lf (fun x11 x12 h => q221_6 C lf r x11 x12 h) x0 x1 x2 x8 x11 x12 h
theorem q221_21_eq (C : YC) (lf : Nat) (r : K1) (KN : KF) (KE : KX) : ∀ F h, ev221 C lf [1, 1, 1, 1] F h KN (fun F h => r (F 10) h) KE = q221_21 C lf r (F 0) (F 1) (F 2) (F 8) (F 11) (F 12) h := cSeq (a := sub fb221 [1, 1, 1, 1, 0]) (b := sub fb221 [1, 1, 1, 1, 1]) (by kernel_rfl) (B := (fun F h => q221_6 C lf r (F 11) (F 12) h)) (q221_6_eq C lf r KN KE) (q221_20_eq C lf (fun x11 x12 h => q221_6 C lf r x11 x12 h) (fun F h => r (F 10) h) KE)
noncomputable def q221_23 (C : YC) (lf : Nat) (n : K6) (x0 x1 x2 x8 x11 : O) (h : HW) : Rs :=
 ob x0 fun a22 =>
 n x0 x1 x2 x8 x11 (some a22) h
theorem q221_23_eq (C : YC) (lf : Nat) (n : K6) (KR : KF) (KE : KX) : ∀ F h, ev221 C lf [1, 1, 1, 0] F h (fun F h => n (F 0) (F 1) (F 2) (F 8) (F 11) (F 12) h) KR KE = q221_23 C lf n (F 0) (F 1) (F 2) (F 8) (F 11) h := by
  intro F h; kernel_rfl
noncomputable def q221_24 (C : YC) (lf : Nat) (r : K1) (x0 x1 x2 x8 x11 : O) (h : HW) : Rs :=
 q221_23 C lf (fun x0 x1 x2 x8 x11 x12 h => q221_21 C lf r x0 x1 x2 x8 x11 x12 h) x0 x1 x2 x8 x11 h
theorem q221_24_eq (C : YC) (lf : Nat) (r : K1) (KN : KF) (KE : KX) : ∀ F h, ev221 C lf [1, 1, 1] F h KN (fun F h => r (F 10) h) KE = q221_24 C lf r (F 0) (F 1) (F 2) (F 8) (F 11) h := cSeq (a := sub fb221 [1, 1, 1, 0]) (b := sub fb221 [1, 1, 1, 1]) (by kernel_rfl) (B := (fun F h => q221_21 C lf r (F 0) (F 1) (F 2) (F 8) (F 11) (F 12) h)) (q221_21_eq C lf r KN KE) (q221_23_eq C lf (fun x0 x1 x2 x8 x11 x12 h => q221_21 C lf r x0 x1 x2 x8 x11 x12 h) (fun F h => r (F 10) h) KE)
noncomputable def q221_46 (C : YC) (lf : Nat) (n : K5) (r : K1) (x0 x1 x2 x8 x11 : O) (h : HW) : Rs :=
 ob x8 fun a25 =>
 ob (fa 0 a25) fun y26 =>
 ob (ld1 y26 h) fun y27 =>
 ob (bin Tryz.prog .eql 3 y27 (.int .i64 0)) fun y28 =>
 yIf y28
 (ob x11 fun a29 =>
 ob (bin Tryz.prog .and 30 a29 (.int .i64 1)) fun y30 =>
 ob (bin Tryz.prog .eql 30 y30 (.int .i64 0)) fun y31 =>
 bc (gd false (some y31) (ob x0 fun a32 =>
 some (.ret a32, h)) h) fun y33 h33 =>
 bc (gd false (some y31) (ob (bin Tryz.prog .and 30 y33 (.int .i64 61440)) fun y34 =>
 some (.ret y34, h33)) h33) fun y35 h35 =>
 bc (gd false (some y31) (ob (bin Tryz.prog .eql 30 y35 (.int .i64 16384)) fun y36 =>
 some (.ret y36, h35)) h35) fun y37 h37 =>
 ob (ypk y31 (.bool true) y37) fun y38 =>
 bc (gd false (some y38) (ob x0 fun a39 =>
 some (.ret a39, h37)) h37) fun y40 h40 =>
 bc (gd false (some y38) (ob (bin Tryz.prog .and 30 y40 (.int .i64 73)) fun y41 =>
 some (.ret y41, h40)) h40) fun y42 h42 =>
 bc (gd false (some y38) (ob (bin Tryz.prog .neq 30 y42 (.int .i64 0)) fun y43 =>
 some (.ret y43, h42)) h42) fun y44 h44 =>
 ob (ypk y38 (.bool true) y44) fun y45 =>
 r (some y45) h44)
 (n x0 x1 x2 x8 x11 h)
theorem q221_46_eq (C : YC) (lf : Nat) (n : K5) (r : K1) (KE : KX) : ∀ F h, ev221 C lf [1, 1, 0] F h (fun F h => n (F 0) (F 1) (F 2) (F 8) (F 11) h) (fun F h => r (F 10) h) KE = q221_46 C lf n r (F 0) (F 1) (F 2) (F 8) (F 11) h := by
  intro F h; kernel_rfl
noncomputable def q221_47 (C : YC) (lf : Nat) (r : K1) (x0 x1 x2 x8 x11 : O) (h : HW) : Rs :=
 q221_46 C lf (fun x0 x1 x2 x8 x11 h => q221_24 C lf r x0 x1 x2 x8 x11 h) r x0 x1 x2 x8 x11 h
theorem q221_47_eq (C : YC) (lf : Nat) (r : K1) (KN : KF) (KE : KX) : ∀ F h, ev221 C lf [1, 1] F h KN (fun F h => r (F 10) h) KE = q221_47 C lf r (F 0) (F 1) (F 2) (F 8) (F 11) h := cSeq (a := sub fb221 [1, 1, 0]) (b := sub fb221 [1, 1, 1]) (by kernel_rfl) (B := (fun F h => q221_24 C lf r (F 0) (F 1) (F 2) (F 8) (F 11) h)) (q221_24_eq C lf r KN KE) (q221_46_eq C lf (fun x0 x1 x2 x8 x11 h => q221_24 C lf r x0 x1 x2 x8 x11 h) r KE)
noncomputable def q221_50 (C : YC) (lf : Nat) (n : K5) (x0 x1 x2 x4 x8 : O) (h : HW) : Rs :=
 ob x4 fun a48 =>
 ob (bin Tryz.prog .and 3 a48 (.int .i64 7)) fun y49 =>
 n x0 x1 x2 x8 (some y49) h
theorem q221_50_eq (C : YC) (lf : Nat) (n : K5) (KR : KF) (KE : KX) : ∀ F h, ev221 C lf [1, 0] F h (fun F h => n (F 0) (F 1) (F 2) (F 8) (F 11) h) KR KE = q221_50 C lf n (F 0) (F 1) (F 2) (F 4) (F 8) h := by
  intro F h; kernel_rfl
noncomputable def q221_51 (C : YC) (lf : Nat) (r : K1) (x0 x1 x2 x4 x8 : O) (h : HW) : Rs :=
 q221_50 C lf (fun x0 x1 x2 x8 x11 h => q221_47 C lf r x0 x1 x2 x8 x11 h) x0 x1 x2 x4 x8 h
theorem q221_51_eq (C : YC) (lf : Nat) (r : K1) (KN : KF) (KE : KX) : ∀ F h, ev221 C lf [1] F h KN (fun F h => r (F 10) h) KE = q221_51 C lf r (F 0) (F 1) (F 2) (F 4) (F 8) h := cSeq (a := sub fb221 [1, 0]) (b := sub fb221 [1, 1]) (by kernel_rfl) (B := (fun F h => q221_47 C lf r (F 0) (F 1) (F 2) (F 8) (F 11) h)) (q221_47_eq C lf r KN KE) (q221_50_eq C lf (fun x0 x1 x2 x8 x11 h => q221_47 C lf r x0 x1 x2 x8 x11 h) (fun F h => r (F 10) h) KE)
noncomputable def q221_54 (C : YC) (lf : Nat) (n : K5) (x0 x1 x2 x3 x4 : O) (h : HW) : Rs :=
 ob x3 fun a52 =>
 b2 (ybx 46 a52 h) fun y53 h53 =>
 n x0 x1 x2 x4 (some y53) h53
theorem q221_54_eq (C : YC) (lf : Nat) (n : K5) (KR : KF) (KE : KX) : ∀ F h, ev221 C lf [0] F h (fun F h => n (F 0) (F 1) (F 2) (F 4) (F 8) h) KR KE = q221_54 C lf n (F 0) (F 1) (F 2) (F 3) (F 4) h := by
  intro F h; kernel_rfl
noncomputable def q221_55 (C : YC) (lf : Nat) (r : K1) (x0 x1 x2 x3 x4 : O) (h : HW) : Rs :=
 q221_54 C lf (fun x0 x1 x2 x4 x8 h => q221_51 C lf r x0 x1 x2 x4 x8 h) x0 x1 x2 x3 x4 h
theorem q221_55_eq (C : YC) (lf : Nat) (r : K1) (KN : KF) (KE : KX) : ∀ F h, ev221 C lf [] F h KN (fun F h => r (F 10) h) KE = q221_55 C lf r (F 0) (F 1) (F 2) (F 3) (F 4) h := cSeq (a := sub fb221 [0]) (b := sub fb221 [1]) (by kernel_rfl) (B := (fun F h => q221_51 C lf r (F 0) (F 1) (F 2) (F 4) (F 8) h)) (q221_51_eq C lf r KN KE) (q221_54_eq C lf (fun x0 x1 x2 x4 x8 h => q221_51 C lf r x0 x1 x2 x4 x8 h) (fun F h => r (F 10) h) KE)
noncomputable def fs221 (C : YC) (lf : Nat) (a0 a1 a2 a3 a4 : SV) (h : HW) : Rs := q221_55 C lf ff221 (some a0) (some a1) (some a2) (some a3) (some a4) h
theorem fs221_eq (C : YC) (lf : Nat) (a0 a1 a2 a3 a4 : SV) (h : HW) : yFn Tryz.prog fx221 C lf [a0, a1, a2, a3, a4] h = fs221 C lf a0 a1 a2 a3 a4 h :=
  fnOf (K := (fun F h => ff221 (F 10) h)) (b := fb221) (N := fn221) (by kernel_rfl) (by kernel_rfl) (by kernel_rfl) (((q221_55_eq C lf ff221 (fun F h => ff221 (F 10) h) (fun _ _ _ => none)) (frOf [a0, a1, a2, a3, a4]) h).trans (by kernel_rfl))
noncomputable def ft221 (C : YC) (lf : Nat) (args : List SV) (h : HW) : Rs := match args with | [a0, a1, a2, a3, a4] => fs221 C lf a0 a1 a2 a3 a4 h | _ => none
theorem ft221_eq (C : YC) (lf : Nat) (args : List SV) (h : HW) (r : Out × HW) (e : ft221 C lf args h = some r) : Nat.ble args.length fx221.fn.ntmps = true ∧ yFn Tryz.prog fx221 C lf args h = some r := by
  rcases args with _ | ⟨a0, _ | ⟨a1, _ | ⟨a2, _ | ⟨a3, _ | ⟨a4, _ | ⟨_, _⟩⟩⟩⟩⟩⟩ <;> first | (cases e; done) | exact ⟨by kernel_rfl, (fs221_eq ..).trans e⟩
noncomputable def fy221 : YX Tryz.prog := ⟨fx221, ft221, ft221_eq⟩

/-! FN 244 tinsel/tree.flagged$1 -/
noncomputable def fx244 : XF Tryz.prog := { f := 244, fn := Tryz.f244, ord := fun _ => .text, isFn := Tryz.func244, isBody := by kernel_rfl, isPlain := by kernel_rfl, isSmall := by kernel_rfl, isOK := by kernel_rfl }
noncomputable def fb244 : Code := Tryz.f244.body.getD .skip
noncomputable def fn244 : Nat := Tryz.f244.ntmps
noncomputable abbrev ev244 (C : YC) (lf : Nat) (p : List Nat) := evY Tryz.prog C fn244 fx244.ord lf (sub fb244 p)
noncomputable def ff244 (x3 : O) (h : HW) : Rs :=
 ob x3 fun a0 =>
 some (.ret a0, h)
noncomputable def q244_6 (C : YC) (lf : Nat) (r : K1) (x0 x1 : O) (h : HW) : Rs :=
 ob x1 fun a1 =>
 ob (ld1 a1 h) fun y2 =>
 ob x0 fun a3 =>
 ob (bin Tryz.prog .and 3 y2 a3) fun y4 =>
 ob (bin Tryz.prog .neq 3 y4 (.int .i64 0)) fun y5 =>
 r (some y5) h
theorem q244_6_eq (C : YC) (lf : Nat) (r : K1) (KN : KF) (KE : KX) : ∀ F h, ev244 C lf [] F h KN (fun F h => r (F 3) h) KE = q244_6 C lf r (F 0) (F 1) h := by
  intro F h; kernel_rfl
noncomputable def fs244 (C : YC) (lf : Nat) (a0 a1 : SV) (h : HW) : Rs := q244_6 C lf ff244 (some a0) (some a1) h
theorem fs244_eq (C : YC) (lf : Nat) (a0 a1 : SV) (h : HW) : yFn Tryz.prog fx244 C lf [a0, a1] h = fs244 C lf a0 a1 h :=
  fnOf (K := (fun F h => ff244 (F 3) h)) (b := fb244) (N := fn244) (by kernel_rfl) (by kernel_rfl) (by kernel_rfl) (((q244_6_eq C lf ff244 (fun F h => ff244 (F 3) h) (fun _ _ _ => none)) (frOf [a0, a1]) h).trans (by kernel_rfl))
noncomputable def ft244 (C : YC) (lf : Nat) (args : List SV) (h : HW) : Rs := match args with | [a0, a1] => fs244 C lf a0 a1 h | _ => none
theorem ft244_eq (C : YC) (lf : Nat) (args : List SV) (h : HW) (r : Out × HW) (e : ft244 C lf args h = some r) : Nat.ble args.length fx244.fn.ntmps = true ∧ yFn Tryz.prog fx244 C lf args h = some r := by
  rcases args with _ | ⟨a0, _ | ⟨a1, _ | ⟨_, _⟩⟩⟩ <;> first | (cases e; done) | exact ⟨by kernel_rfl, (fs244_eq ..).trans e⟩
noncomputable def fy244 : YX Tryz.prog := ⟨fx244, ft244, ft244_eq⟩

/-! FN 245 (*tinsel/tree.FS).create$1 -/
noncomputable def fx245 : XF Tryz.prog := { f := 245, fn := Tryz.f245, ord := fun _ => .text, isFn := Tryz.func245, isBody := by kernel_rfl, isPlain := by kernel_rfl, isSmall := by kernel_rfl, isOK := by kernel_rfl }
noncomputable def fb245 : Code := Tryz.f245.body.getD .skip
noncomputable def fn245 : Nat := Tryz.f245.ntmps
noncomputable abbrev ev245 (C : YC) (lf : Nat) (p : List Nat) := evY Tryz.prog C fn245 fx245.ord lf (sub fb245 p)
noncomputable def ff245 (x2 : O) (h : HW) : Rs :=
 ob x2 fun a0 =>
 some (.ret a0, h)
noncomputable def q245_1 (C : YC) (lf : Nat) (r : K1) (h : HW) : Rs :=
 r (some (.int .i64 0)) h
theorem q245_1_eq (C : YC) (lf : Nat) (r : K1) (KN : KF) (KE : KX) : ∀ F h, ev245 C lf [] F h KN (fun F h => r (F 2) h) KE = q245_1 C lf r h := by
  intro F h; kernel_rfl
noncomputable def fs245 (C : YC) (lf : Nat) (a0 : SV) (h : HW) : Rs := q245_1 C lf ff245 h
theorem fs245_eq (C : YC) (lf : Nat) (a0 : SV) (h : HW) : yFn Tryz.prog fx245 C lf [a0] h = fs245 C lf a0 h :=
  fnOf (K := (fun F h => ff245 (F 2) h)) (b := fb245) (N := fn245) (by kernel_rfl) (by kernel_rfl) (by kernel_rfl) (((q245_1_eq C lf ff245 (fun F h => ff245 (F 2) h) (fun _ _ _ => none)) (frOf [a0]) h).trans (by kernel_rfl))
noncomputable def ft245 (C : YC) (lf : Nat) (args : List SV) (h : HW) : Rs := match args with | [a0] => fs245 C lf a0 h | _ => none
theorem ft245_eq (C : YC) (lf : Nat) (args : List SV) (h : HW) (r : Out × HW) (e : ft245 C lf args h = some r) : Nat.ble args.length fx245.fn.ntmps = true ∧ yFn Tryz.prog fx245 C lf args h = some r := by
  rcases args with _ | ⟨a0, _ | ⟨_, _⟩⟩ <;> first | (cases e; done) | exact ⟨by kernel_rfl, (fs245_eq ..).trans e⟩
noncomputable def fy245 : YX Tryz.prog := ⟨fx245, ft245, ft245_eq⟩

/-! FN 247 tinsel/dir.begin -/
noncomputable def fx247 : XF Tryz.prog := { f := 247, fn := Tryz.f247, ord := fun _ => .text, isFn := Tryz.func247, isBody := by kernel_rfl, isPlain := by kernel_rfl, isSmall := by kernel_rfl, isOK := by kernel_rfl }
noncomputable def fb247 : Code := Tryz.f247.body.getD .skip
noncomputable def fn247 : Nat := Tryz.f247.ntmps
noncomputable abbrev ev247 (C : YC) (lf : Nat) (p : List Nat) := evY Tryz.prog C fn247 fx247.ord lf (sub fb247 p)
noncomputable def ff247 (x6 : O) (h : HW) : Rs :=
 ob x6 fun a0 =>
 some (.ret a0, h)
noncomputable def q247_7 (C : YC) (lf : Nat) (r : K1) (x0 x1 x2 : O) (h : HW) : Rs :=
 ob x0 fun a1 =>
 ob x1 fun a2 =>
 bc (C (.fn 203) [a1, a2] h) fun y3 h3 =>
 ob (bin Tryz.prog .neq 23 y3 (.int .i64 0)) fun y4 =>
 yIf y4
 (r (some y3) h3)
 (ob x2 fun a5 =>
 bc (C (.fn 315) [a5] h3) fun y6 h6 =>
 r (some y6) h6)
theorem q247_7_eq (C : YC) (lf : Nat) (r : K1) (KN : KF) (KE : KX) : ∀ F h, ev247 C lf [] F h KN (fun F h => r (F 6) h) KE = q247_7 C lf r (F 0) (F 1) (F 2) h := by
  intro F h; kernel_rfl
noncomputable def fs247 (C : YC) (lf : Nat) (a0 a1 a2 : SV) (h : HW) : Rs := q247_7 C lf ff247 (some a0) (some a1) (some a2) h
theorem fs247_eq (C : YC) (lf : Nat) (a0 a1 a2 : SV) (h : HW) : yFn Tryz.prog fx247 C lf [a0, a1, a2] h = fs247 C lf a0 a1 a2 h :=
  fnOf (K := (fun F h => ff247 (F 6) h)) (b := fb247) (N := fn247) (by kernel_rfl) (by kernel_rfl) (by kernel_rfl) (((q247_7_eq C lf ff247 (fun F h => ff247 (F 6) h) (fun _ _ _ => none)) (frOf [a0, a1, a2]) h).trans (by kernel_rfl))
noncomputable def ft247 (C : YC) (lf : Nat) (args : List SV) (h : HW) : Rs := match args with | [a0, a1, a2] => fs247 C lf a0 a1 a2 h | _ => none
theorem ft247_eq (C : YC) (lf : Nat) (args : List SV) (h : HW) (r : Out × HW) (e : ft247 C lf args h = some r) : Nat.ble args.length fx247.fn.ntmps = true ∧ yFn Tryz.prog fx247 C lf args h = some r := by
  rcases args with _ | ⟨a0, _ | ⟨a1, _ | ⟨a2, _ | ⟨_, _⟩⟩⟩⟩ <;> first | (cases e; done) | exact ⟨by kernel_rfl, (fs247_eq ..).trans e⟩
noncomputable def fy247 : YX Tryz.prog := ⟨fx247, ft247, ft247_eq⟩

/-! FN 248 tinsel/dir.slots -/
noncomputable def fx248 : XF Tryz.prog := { f := 248, fn := Tryz.f248, ord := fun _ => .text, isFn := Tryz.func248, isBody := by kernel_rfl, isPlain := by kernel_rfl, isSmall := by kernel_rfl, isOK := by kernel_rfl }
noncomputable def fb248 : Code := Tryz.f248.body.getD .skip
noncomputable def fn248 : Nat := Tryz.f248.ntmps
noncomputable abbrev ev248 (C : YC) (lf : Nat) (p : List Nat) := evY Tryz.prog C fn248 fx248.ord lf (sub fb248 p)
noncomputable def ff248 (x4 : O) (h : HW) : Rs :=
 ob x4 fun a0 =>
 some (.ret a0, h)
noncomputable def q248_2 (C : YC) (lf : Nat) (r : K1) (x7 : O) (h : HW) : Rs :=
 ob x7 fun a1 =>
 r (some a1) h
theorem q248_2_eq (C : YC) (lf : Nat) (r : K1) (KN : KF) (KE : KX) : ∀ F h, ev248 C lf [1, 1, 1, 1] F h KN (fun F h => r (F 4) h) KE = q248_2 C lf r (F 7) h := by
  intro F h; kernel_rfl
noncomputable def q248_16 (C : YC) (lf : Nat) (n : K2) (e0 : K1) (x5 x7 : O) (h : HW) : Rs :=
 ob x5 fun a4 =>
 ob (lenE Tryz.prog 31 a4) fun y5 =>
 ob (bin Tryz.prog .geq 3 y5 (.int .i64 32)) fun y6 =>
 yIf y6
 (ob x7 fun a7 =>
 ob x5 fun a8 =>
 ob (semSlice Tryz.prog 31 a8 none (some (.int .i64 32))) fun y9 =>
 ob (ysa Tryz.prog 292 y9) fun y10 =>
 ob (ldN 32 y10 h) fun y11 =>
 b2 (ybs Tryz.prog 335 1 [0] [y11] h) fun y12 h12 =>
 b2 (ybl Tryz.prog .append #[335, 335] [a7, y12] h12) fun y13 h13 =>
 ob x5 fun a14 =>
 ob (semSlice Tryz.prog 31 a14 (some (.int .i64 32)) none) fun y15 =>
 n (some y15) (some y13) h13)
 (e0 x7 h)
theorem q248_16_eq (C : YC) (lf : Nat) (n : K2) (e0 : K1) (KR : KF) (KE : KX) : ∀ F h, ev248 C lf [1, 1, 1, 0, 0, 0] F h (fun F h => n (F 5) (F 7) h) KR (bk 0 (fun F h => e0 (F 7) h) KE) = q248_16 C lf n e0 (F 5) (F 7) h := by
  intro F h; kernel_rfl
noncomputable def l248_3 (C : YC) (lf : Nat) (e0 : K1) (k : O × O → HW → Rs) (s : O × O) (h : HW) : Rs :=
 q248_16 C lf (fun x5 x7 h => k (x5, x7) h) e0 s.1 s.2 h
noncomputable def q248_17 (C : YC) (lf : Nat) (r : K1) (x5 x7 : O) (h : HW) : Rs :=
 lp (l248_3 C lf (fun x7 h => q248_2 C lf r x7 h)) lf (x5, x7) h
theorem q248_17_eq (C : YC) (lf : Nat) (r : K1) (KN : KF) (KE : KX) : ∀ F h, ev248 C lf [1, 1, 1] F h KN (fun F h => r (F 4) h) KE = q248_17 C lf r (F 5) (F 7) h := cSeq (a := sub fb248 [1, 1, 1, 0]) (b := sub fb248 [1, 1, 1, 1]) (by kernel_rfl) (B := (fun F h => q248_2 C lf r (F 7) h)) (q248_2_eq C lf r KN KE) (cBlock (a := sub fb248 [1, 1, 1, 0, 0]) (by kernel_rfl) (cLoop (g := fun F => (F 5, F 7)) (body := l248_3 C lf (fun x7 h => q248_2 C lf r x7 h)) (by kernel_rfl) (fun k => (q248_16_eq C lf (fun x5 x7 h => k (x5, x7) h) (fun x7 h => q248_2 C lf r x7 h) (fun F h => r (F 4) h) KE))))
noncomputable def q248_18 (C : YC) (lf : Nat) (n : K2) (x5 : O) (h : HW) : Rs :=
 n x5 (some (.val (.slice none 0 0))) h
theorem q248_18_eq (C : YC) (lf : Nat) (n : K2) (KR : KF) (KE : KX) : ∀ F h, ev248 C lf [1, 1, 0] F h (fun F h => n (F 5) (F 7) h) KR KE = q248_18 C lf n (F 5) h := by
  intro F h; kernel_rfl
noncomputable def q248_19 (C : YC) (lf : Nat) (r : K1) (x5 : O) (h : HW) : Rs :=
 q248_18 C lf (fun x5 x7 h => q248_17 C lf r x5 x7 h) x5 h
theorem q248_19_eq (C : YC) (lf : Nat) (r : K1) (KN : KF) (KE : KX) : ∀ F h, ev248 C lf [1, 1] F h KN (fun F h => r (F 4) h) KE = q248_19 C lf r (F 5) h := cSeq (a := sub fb248 [1, 1, 0]) (b := sub fb248 [1, 1, 1]) (by kernel_rfl) (B := (fun F h => q248_17 C lf r (F 5) (F 7) h)) (q248_17_eq C lf r KN KE) (q248_18_eq C lf (fun x5 x7 h => q248_17 C lf r x5 x7 h) (fun F h => r (F 4) h) KE)
noncomputable def q248_25 (C : YC) (lf : Nat) (n : K1) (x0 x1 : O) (h : HW) : Rs :=
 ob x0 fun a20 =>
 ob x1 fun a21 =>
 bc (C (.fn 278) [a20, a21, (.int .i64 0), (.int .i64 17792)] h) fun y22 h22 =>
 ob (ext 0 y22) fun y23 =>
 ob (ext 1 y22) fun y24 =>
 n (some y23) h22
theorem q248_25_eq (C : YC) (lf : Nat) (n : K1) (KR : KF) (KE : KX) : ∀ F h, ev248 C lf [1, 0] F h (fun F h => n (F 5) h) KR KE = q248_25 C lf n (F 0) (F 1) h := by
  intro F h; kernel_rfl
noncomputable def q248_26 (C : YC) (lf : Nat) (r : K1) (x0 x1 : O) (h : HW) : Rs :=
 q248_25 C lf (fun x5 h => q248_19 C lf r x5 h) x0 x1 h
theorem q248_26_eq (C : YC) (lf : Nat) (r : K1) (KN : KF) (KE : KX) : ∀ F h, ev248 C lf [1] F h KN (fun F h => r (F 4) h) KE = q248_26 C lf r (F 0) (F 1) h := cSeq (a := sub fb248 [1, 0]) (b := sub fb248 [1, 1]) (by kernel_rfl) (B := (fun F h => q248_19 C lf r (F 5) h)) (q248_19_eq C lf r KN KE) (q248_25_eq C lf (fun x5 h => q248_19 C lf r x5 h) (fun F h => r (F 4) h) KE)
noncomputable def q248_27 (C : YC) (lf : Nat) (n : K2) (x0 x1 : O) (h : HW) : Rs :=
 n x0 x1 h
theorem q248_27_eq (C : YC) (lf : Nat) (n : K2) (KR : KF) (KE : KX) : ∀ F h, ev248 C lf [0] F h (fun F h => n (F 0) (F 1) h) KR KE = q248_27 C lf n (F 0) (F 1) h := by
  intro F h; kernel_rfl
noncomputable def q248_28 (C : YC) (lf : Nat) (r : K1) (x0 x1 : O) (h : HW) : Rs :=
 q248_27 C lf (fun x0 x1 h => q248_26 C lf r x0 x1 h) x0 x1 h
theorem q248_28_eq (C : YC) (lf : Nat) (r : K1) (KN : KF) (KE : KX) : ∀ F h, ev248 C lf [] F h KN (fun F h => r (F 4) h) KE = q248_28 C lf r (F 0) (F 1) h := cSeq (a := sub fb248 [0]) (b := sub fb248 [1]) (by kernel_rfl) (B := (fun F h => q248_26 C lf r (F 0) (F 1) h)) (q248_26_eq C lf r KN KE) (q248_27_eq C lf (fun x0 x1 h => q248_26 C lf r x0 x1 h) (fun F h => r (F 4) h) KE)
noncomputable def fs248 (C : YC) (lf : Nat) (a0 a1 : SV) (h : HW) : Rs := q248_28 C lf ff248 (some a0) (some a1) h
theorem fs248_eq (C : YC) (lf : Nat) (a0 a1 : SV) (h : HW) : yFn Tryz.prog fx248 C lf [a0, a1] h = fs248 C lf a0 a1 h :=
  fnOf (K := (fun F h => ff248 (F 4) h)) (b := fb248) (N := fn248) (by kernel_rfl) (by kernel_rfl) (by kernel_rfl) (((q248_28_eq C lf ff248 (fun F h => ff248 (F 4) h) (fun _ _ _ => none)) (frOf [a0, a1]) h).trans (by kernel_rfl))
noncomputable def ft248 (C : YC) (lf : Nat) (args : List SV) (h : HW) : Rs := match args with | [a0, a1] => fs248 C lf a0 a1 h | _ => none
theorem ft248_eq (C : YC) (lf : Nat) (args : List SV) (h : HW) (r : Out × HW) (e : ft248 C lf args h = some r) : Nat.ble args.length fx248.fn.ntmps = true ∧ yFn Tryz.prog fx248 C lf args h = some r := by
  rcases args with _ | ⟨a0, _ | ⟨a1, _ | ⟨_, _⟩⟩⟩ <;> first | (cases e; done) | exact ⟨by kernel_rfl, (fs248_eq ..).trans e⟩
noncomputable def fy248 : YX Tryz.prog := ⟨fx248, ft248, ft248_eq⟩

/-! FN 249 tinsel/dir.place -/
noncomputable def fx249 : XF Tryz.prog := { f := 249, fn := Tryz.f249, ord := fun r => bif Nat.beq r 5 then .ord [0, 1, 2, 3, 4, 6, 5, 7, 8, 9] [(5, [6])] else .text, isFn := Tryz.func249, isBody := by kernel_rfl, isPlain := by kernel_rfl, isSmall := by kernel_rfl, isOK := by kernel_rfl }
noncomputable def fb249 : Code := Tryz.f249.body.getD .skip
noncomputable def fn249 : Nat := Tryz.f249.ntmps
noncomputable abbrev ev249 (C : YC) (lf : Nat) (p : List Nat) := evY Tryz.prog C fn249 fx249.ord lf (sub fb249 p)
noncomputable def ff249 (x4 : O) (h : HW) : Rs :=
 ob x4 fun a0 =>
 some (.ret a0, h)
noncomputable def q249_1 (C : YC) (lf : Nat) (r : K1) (h : HW) : Rs :=
 r (some (.int .i64 (-1))) h
theorem q249_1_eq (C : YC) (lf : Nat) (r : K1) (KN : KF) (KE : KX) : ∀ F h, ev249 C lf [1, 1, 1] F h KN (fun F h => r (F 4) h) KE = q249_1 C lf r h := by
  intro F h; kernel_rfl
noncomputable def q249_30 (C : YC) (lf : Nat) (n : K4) (r : K1) (e0 : K0) (x5 x10 x11 x12 : O) (h : HW) : Rs :=
 ob x12 fun a3 =>
 ob x11 fun a4 =>
 ob (bin Tryz.prog .lss 3 a3 a4) fun y5 =>
 yIf y5
 (ob x12 fun a6 =>
 ob x10 fun a7 =>
 ob x12 fun a8 =>
 ob (ixS 32 a7 a8) fun y9 =>
 ob (ldN 32 y9 h) fun y10 =>
 b2 (yAl Tryz.prog 292 h) fun y11 h11 =>
 ob (st 32 y11 y10 h11) fun h12 =>
 ob (ldN 32 y11 h12) fun y13 =>
 bcn (C (.fn 250) [y13] h12) fun y14 h14 =>
 ob (bin Tryz.prog .neq 3 y14 (.int .i64 0)) fun y15 =>
 bcn (gd true (some y15) (ob (ldN 32 y11 h14) fun y16 =>
 some (.ret y16, h14)) h14) fun y17 h17 =>
 bcn (gd true (some y15) (ob x5 fun a18 =>
 ob (ldN 32 a18 h17) fun y19 =>
 some (.ret y19, h17)) h17) fun y20 h20 =>
 bcn (gd true (some y15) (bcn (C (.fn 316) [y17] h20) fun y21 h21 =>
 some (.ret y21, h21)) h20) fun y22 h22 =>
 ck (chkH [(6, gdA true (some y15) (adrO x5)), (4, gdA true (some y15) (adrO (some y11))), (0, adrO (some y11))] h20 h22 [6]) <|
 bcn (gd true (some y15) (bcn (C (.fn 316) [y20] h22) fun y23 h23 =>
 some (.ret y23, h23)) h22) fun y24 h24 =>
 bcn (gd true (some y15) (ob (bin Tryz.prog .eql 9 y22 y24) fun y25 =>
 some (.ret y25, h24)) h24) fun y26 h26 =>
 ob (ypk y15 y26 (.bool false)) fun y27 =>
 yIf y27
 (r (some a6) h26)
 (ob x12 fun a28 =>
 ob (bin Tryz.prog .add 3 a28 (.int .i64 1)) fun y29 =>
 n x5 x10 x11 (some y29) h26))
 (e0 h)
theorem q249_30_eq (C : YC) (lf : Nat) (n : K4) (r : K1) (e0 : K0) (KE : KX) : ∀ F h, ev249 C lf [1, 1, 0, 1, 0, 0] F h (fun F h => n (F 5) (F 10) (F 11) (F 12) h) (fun F h => r (F 4) h) (bk 0 (fun F h => e0 h) KE) = q249_30 C lf n r e0 (F 5) (F 10) (F 11) (F 12) h := by
  intro F h; kernel_rfl
noncomputable def l249_2 (C : YC) (lf : Nat) (r : K1) (e0 : K0) (k : O × O × O × O → HW → Rs) (s : O × O × O × O) (h : HW) : Rs :=
 q249_30 C lf (fun x5 x10 x11 x12 h => k (x5, x10, x11, x12) h) r e0 s.1 s.2.1 s.2.2.1 s.2.2.2 h
noncomputable def q249_33 (C : YC) (lf : Nat) (n : K4) (x0 x5 : O) (h : HW) : Rs :=
 ob x0 fun a31 =>
 ob (lenE Tryz.prog 335 a31) fun y32 =>
 n x5 (some a31) (some y32) (some (.int .i64 0)) h
theorem q249_33_eq (C : YC) (lf : Nat) (n : K4) (KR : KF) (KE : KX) : ∀ F h, ev249 C lf [1, 1, 0, 0] F h (fun F h => n (F 5) (F 10) (F 11) (F 12) h) KR KE = q249_33 C lf n (F 0) (F 5) h := by
  intro F h; kernel_rfl
noncomputable def q249_34 (C : YC) (lf : Nat) (n : K0) (r : K1) (x0 x5 : O) (h : HW) : Rs :=
 q249_33 C lf (fun x5 x10 x11 x12 h => lp (l249_2 C lf r n) lf (x5, x10, x11, x12) h) x0 x5 h
theorem q249_34_eq (C : YC) (lf : Nat) (n : K0) (r : K1) (KE : KX) : ∀ F h, ev249 C lf [1, 1, 0] F h (fun F h => n h) (fun F h => r (F 4) h) KE = q249_34 C lf n r (F 0) (F 5) h := cSeq (a := sub fb249 [1, 1, 0, 0]) (b := sub fb249 [1, 1, 0, 1]) (by kernel_rfl) (B := (fun F h => lp (l249_2 C lf r n) lf ((F 5), (F 10), (F 11), (F 12)) h)) (cBlock (a := sub fb249 [1, 1, 0, 1, 0]) (by kernel_rfl) (cLoop (g := fun F => (F 5, F 10, F 11, F 12)) (body := l249_2 C lf r n) (by kernel_rfl) (fun k => (q249_30_eq C lf (fun x5 x10 x11 x12 h => k (x5, x10, x11, x12) h) r n KE)))) (q249_33_eq C lf (fun x5 x10 x11 x12 h => lp (l249_2 C lf r n) lf (x5, x10, x11, x12) h) (fun F h => r (F 4) h) KE)
noncomputable def q249_35 (C : YC) (lf : Nat) (r : K1) (x0 x5 : O) (h : HW) : Rs :=
 q249_34 C lf (fun h => q249_1 C lf r h) r x0 x5 h
theorem q249_35_eq (C : YC) (lf : Nat) (r : K1) (KN : KF) (KE : KX) : ∀ F h, ev249 C lf [1, 1] F h KN (fun F h => r (F 4) h) KE = q249_35 C lf r (F 0) (F 5) h := cSeq (a := sub fb249 [1, 1, 0]) (b := sub fb249 [1, 1, 1]) (by kernel_rfl) (B := (fun F h => q249_1 C lf r h)) (q249_1_eq C lf r KN KE) (q249_34_eq C lf (fun h => q249_1 C lf r h) r KE)
noncomputable def q249_40 (C : YC) (lf : Nat) (n : K2) (x0 x1 : O) (h : HW) : Rs :=
 ob x1 fun a36 =>
 bc (C (.fn 205) [a36, (.int .i64 0)] h) fun y37 h37 =>
 b2 (yAl Tryz.prog 292 h37) fun y38 h38 =>
 ob (st 32 y38 y37 h38) fun h39 =>
 n x0 (some y38) h39
theorem q249_40_eq (C : YC) (lf : Nat) (n : K2) (KR : KF) (KE : KX) : ∀ F h, ev249 C lf [1, 0] F h (fun F h => n (F 0) (F 5) h) KR KE = q249_40 C lf n (F 0) (F 1) h := by
  intro F h; kernel_rfl
noncomputable def q249_41 (C : YC) (lf : Nat) (r : K1) (x0 x1 : O) (h : HW) : Rs :=
 q249_40 C lf (fun x0 x5 h => q249_35 C lf r x0 x5 h) x0 x1 h
theorem q249_41_eq (C : YC) (lf : Nat) (r : K1) (KN : KF) (KE : KX) : ∀ F h, ev249 C lf [1] F h KN (fun F h => r (F 4) h) KE = q249_41 C lf r (F 0) (F 1) h := cSeq (a := sub fb249 [1, 0]) (b := sub fb249 [1, 1]) (by kernel_rfl) (B := (fun F h => q249_35 C lf r (F 0) (F 5) h)) (q249_35_eq C lf r KN KE) (q249_40_eq C lf (fun x0 x5 h => q249_35 C lf r x0 x5 h) (fun F h => r (F 4) h) KE)
noncomputable def q249_42 (C : YC) (lf : Nat) (n : K2) (x0 x1 : O) (h : HW) : Rs :=
 n x0 x1 h
theorem q249_42_eq (C : YC) (lf : Nat) (n : K2) (KR : KF) (KE : KX) : ∀ F h, ev249 C lf [0] F h (fun F h => n (F 0) (F 1) h) KR KE = q249_42 C lf n (F 0) (F 1) h := by
  intro F h; kernel_rfl
noncomputable def q249_43 (C : YC) (lf : Nat) (r : K1) (x0 x1 : O) (h : HW) : Rs :=
 q249_42 C lf (fun x0 x1 h => q249_41 C lf r x0 x1 h) x0 x1 h
theorem q249_43_eq (C : YC) (lf : Nat) (r : K1) (KN : KF) (KE : KX) : ∀ F h, ev249 C lf [] F h KN (fun F h => r (F 4) h) KE = q249_43 C lf r (F 0) (F 1) h := cSeq (a := sub fb249 [0]) (b := sub fb249 [1]) (by kernel_rfl) (B := (fun F h => q249_41 C lf r (F 0) (F 1) h)) (q249_41_eq C lf r KN KE) (q249_42_eq C lf (fun x0 x1 h => q249_41 C lf r x0 x1 h) (fun F h => r (F 4) h) KE)
noncomputable def fs249 (C : YC) (lf : Nat) (a0 a1 : SV) (h : HW) : Rs := q249_43 C lf ff249 (some a0) (some a1) h
theorem fs249_eq (C : YC) (lf : Nat) (a0 a1 : SV) (h : HW) : yFn Tryz.prog fx249 C lf [a0, a1] h = fs249 C lf a0 a1 h :=
  fnOf (K := (fun F h => ff249 (F 4) h)) (b := fb249) (N := fn249) (by kernel_rfl) (by kernel_rfl) (by kernel_rfl) (((q249_43_eq C lf ff249 (fun F h => ff249 (F 4) h) (fun _ _ _ => none)) (frOf [a0, a1]) h).trans (by kernel_rfl))
noncomputable def ft249 (C : YC) (lf : Nat) (args : List SV) (h : HW) : Rs := match args with | [a0, a1] => fs249 C lf a0 a1 h | _ => none
theorem ft249_eq (C : YC) (lf : Nat) (args : List SV) (h : HW) (r : Out × HW) (e : ft249 C lf args h = some r) : Nat.ble args.length fx249.fn.ntmps = true ∧ yFn Tryz.prog fx249 C lf args h = some r := by
  rcases args with _ | ⟨a0, _ | ⟨a1, _ | ⟨_, _⟩⟩⟩ <;> first | (cases e; done) | exact ⟨by kernel_rfl, (fs249_eq ..).trans e⟩
noncomputable def fy249 : YX Tryz.prog := ⟨fx249, ft249, ft249_eq⟩

/-! FN 250 (tinsel/dir.slot).ino -/
noncomputable def fx250 : XF Tryz.prog := { f := 250, fn := Tryz.f250, ord := fun _ => .text, isFn := Tryz.func250, isBody := by kernel_rfl, isPlain := by kernel_rfl, isSmall := by kernel_rfl, isOK := by kernel_rfl }
noncomputable def fb250 : Code := Tryz.f250.body.getD .skip
noncomputable def fn250 : Nat := Tryz.f250.ntmps
noncomputable abbrev ev250 (C : YC) (lf : Nat) (p : List Nat) := evY Tryz.prog C fn250 fx250.ord lf (sub fb250 p)
noncomputable def ff250 (x2 : O) (h : HW) : Rs :=
 ob x2 fun a0 =>
 some (.ret a0, h)
noncomputable def q250_2 (C : YC) (lf : Nat) (r : K1) (x3 : O) (h : HW) : Rs :=
 ob x3 fun a1 =>
 r (some a1) h
theorem q250_2_eq (C : YC) (lf : Nat) (r : K1) (KN : KF) (KE : KX) : ∀ F h, ev250 C lf [1, 1, 1] F h KN (fun F h => r (F 2) h) KE = q250_2 C lf r (F 3) h := by
  intro F h; kernel_rfl
noncomputable def q250_17 (C : YC) (lf : Nat) (n : K3) (e0 : K1) (x1 x3 x5 : O) (h : HW) : Rs :=
 ob x5 fun a4 =>
 ob (bin Tryz.prog .lss 3 a4 (.int .i64 4)) fun y5 =>
 yIf y5
 (ob x5 fun a6 =>
 ob x3 fun a7 =>
 ob x1 fun a8 =>
 ob (ixA 32 1 a8 a6) fun y9 =>
 ob (ld1 y9 h) fun y10 =>
 ob (cvI .i64 y10) fun y11 =>
 ob (bin Tryz.prog .mul 3 (.int .i64 8) a6) fun y12 =>
 ob (bin Tryz.prog .shl 3 y11 y12) fun y13 =>
 ob (bin Tryz.prog .or 3 a7 y13) fun y14 =>
 ob x5 fun a15 =>
 ob (bin Tryz.prog .add 3 a15 (.int .i64 1)) fun y16 =>
 n x1 (some y14) (some y16) h)
 (e0 x3 h)
theorem q250_17_eq (C : YC) (lf : Nat) (n : K3) (e0 : K1) (KR : KF) (KE : KX) : ∀ F h, ev250 C lf [1, 1, 0, 1, 0, 0] F h (fun F h => n (F 1) (F 3) (F 5) h) KR (bk 0 (fun F h => e0 (F 3) h) KE) = q250_17 C lf n e0 (F 1) (F 3) (F 5) h := by
  intro F h; kernel_rfl
noncomputable def l250_3 (C : YC) (lf : Nat) (e0 : K1) (k : O × O × O → HW → Rs) (s : O × O × O) (h : HW) : Rs :=
 q250_17 C lf (fun x1 x3 x5 h => k (x1, x3, x5) h) e0 s.1 s.2.1 s.2.2 h
noncomputable def q250_18 (C : YC) (lf : Nat) (n : K3) (x1 x3 : O) (h : HW) : Rs :=
 n x1 x3 (some (.int .i64 0)) h
theorem q250_18_eq (C : YC) (lf : Nat) (n : K3) (KR : KF) (KE : KX) : ∀ F h, ev250 C lf [1, 1, 0, 0] F h (fun F h => n (F 1) (F 3) (F 5) h) KR KE = q250_18 C lf n (F 1) (F 3) h := by
  intro F h; kernel_rfl
noncomputable def q250_19 (C : YC) (lf : Nat) (n : K1) (x1 x3 : O) (h : HW) : Rs :=
 q250_18 C lf (fun x1 x3 x5 h => lp (l250_3 C lf n) lf (x1, x3, x5) h) x1 x3 h
theorem q250_19_eq (C : YC) (lf : Nat) (n : K1) (KR : KF) (KE : KX) : ∀ F h, ev250 C lf [1, 1, 0] F h (fun F h => n (F 3) h) KR KE = q250_19 C lf n (F 1) (F 3) h := cSeq (a := sub fb250 [1, 1, 0, 0]) (b := sub fb250 [1, 1, 0, 1]) (by kernel_rfl) (B := (fun F h => lp (l250_3 C lf n) lf ((F 1), (F 3), (F 5)) h)) (cBlock (a := sub fb250 [1, 1, 0, 1, 0]) (by kernel_rfl) (cLoop (g := fun F => (F 1, F 3, F 5)) (body := l250_3 C lf n) (by kernel_rfl) (fun k => (q250_17_eq C lf (fun x1 x3 x5 h => k (x1, x3, x5) h) n KR KE)))) (q250_18_eq C lf (fun x1 x3 x5 h => lp (l250_3 C lf n) lf (x1, x3, x5) h) KR KE)
noncomputable def q250_20 (C : YC) (lf : Nat) (r : K1) (x1 x3 : O) (h : HW) : Rs :=
 q250_19 C lf (fun x3 h => q250_2 C lf r x3 h) x1 x3 h
theorem q250_20_eq (C : YC) (lf : Nat) (r : K1) (KN : KF) (KE : KX) : ∀ F h, ev250 C lf [1, 1] F h KN (fun F h => r (F 2) h) KE = q250_20 C lf r (F 1) (F 3) h := cSeq (a := sub fb250 [1, 1, 0]) (b := sub fb250 [1, 1, 1]) (by kernel_rfl) (B := (fun F h => q250_2 C lf r (F 3) h)) (q250_2_eq C lf r KN KE) (q250_19_eq C lf (fun x3 h => q250_2 C lf r x3 h) (fun F h => r (F 2) h) KE)
noncomputable def q250_21 (C : YC) (lf : Nat) (n : K2) (x1 : O) (h : HW) : Rs :=
 n x1 (some (.int .i64 0)) h
theorem q250_21_eq (C : YC) (lf : Nat) (n : K2) (KR : KF) (KE : KX) : ∀ F h, ev250 C lf [1, 0] F h (fun F h => n (F 1) (F 3) h) KR KE = q250_21 C lf n (F 1) h := by
  intro F h; kernel_rfl
noncomputable def q250_22 (C : YC) (lf : Nat) (r : K1) (x1 : O) (h : HW) : Rs :=
 q250_21 C lf (fun x1 x3 h => q250_20 C lf r x1 x3 h) x1 h
theorem q250_22_eq (C : YC) (lf : Nat) (r : K1) (KN : KF) (KE : KX) : ∀ F h, ev250 C lf [1] F h KN (fun F h => r (F 2) h) KE = q250_22 C lf r (F 1) h := cSeq (a := sub fb250 [1, 0]) (b := sub fb250 [1, 1]) (by kernel_rfl) (B := (fun F h => q250_20 C lf r (F 1) (F 3) h)) (q250_20_eq C lf r KN KE) (q250_21_eq C lf (fun x1 x3 h => q250_20 C lf r x1 x3 h) (fun F h => r (F 2) h) KE)
noncomputable def q250_25 (C : YC) (lf : Nat) (n : K1) (x0 : O) (h : HW) : Rs :=
 ob x0 fun a23 =>
 b2 (ybx 292 a23 h) fun y24 h24 =>
 n (some y24) h24
theorem q250_25_eq (C : YC) (lf : Nat) (n : K1) (KR : KF) (KE : KX) : ∀ F h, ev250 C lf [0] F h (fun F h => n (F 1) h) KR KE = q250_25 C lf n (F 0) h := by
  intro F h; kernel_rfl
noncomputable def q250_26 (C : YC) (lf : Nat) (r : K1) (x0 : O) (h : HW) : Rs :=
 q250_25 C lf (fun x1 h => q250_22 C lf r x1 h) x0 h
theorem q250_26_eq (C : YC) (lf : Nat) (r : K1) (KN : KF) (KE : KX) : ∀ F h, ev250 C lf [] F h KN (fun F h => r (F 2) h) KE = q250_26 C lf r (F 0) h := cSeq (a := sub fb250 [0]) (b := sub fb250 [1]) (by kernel_rfl) (B := (fun F h => q250_22 C lf r (F 1) h)) (q250_22_eq C lf r KN KE) (q250_25_eq C lf (fun x1 h => q250_22 C lf r x1 h) (fun F h => r (F 2) h) KE)
noncomputable def fs250 (C : YC) (lf : Nat) (a0 : SV) (h : HW) : Rs := q250_26 C lf ff250 (some a0) h
theorem fs250_eq (C : YC) (lf : Nat) (a0 : SV) (h : HW) : yFn Tryz.prog fx250 C lf [a0] h = fs250 C lf a0 h :=
  fnOf (K := (fun F h => ff250 (F 2) h)) (b := fb250) (N := fn250) (by kernel_rfl) (by kernel_rfl) (by kernel_rfl) (((q250_26_eq C lf ff250 (fun F h => ff250 (F 2) h) (fun _ _ _ => none)) (frOf [a0]) h).trans (by kernel_rfl))
noncomputable def ft250 (C : YC) (lf : Nat) (args : List SV) (h : HW) : Rs := match args with | [a0] => fs250 C lf a0 h | _ => none
theorem ft250_eq (C : YC) (lf : Nat) (args : List SV) (h : HW) (r : Out × HW) (e : ft250 C lf args h = some r) : Nat.ble args.length fx250.fn.ntmps = true ∧ yFn Tryz.prog fx250 C lf args h = some r := by
  rcases args with _ | ⟨a0, _ | ⟨_, _⟩⟩ <;> first | (cases e; done) | exact ⟨by kernel_rfl, (fs250_eq ..).trans e⟩
noncomputable def fy250 : YX Tryz.prog := ⟨fx250, ft250, ft250_eq⟩

/-! FN 255 (*tinsel/inode.Table).each -/
noncomputable def fx255 : XF Tryz.prog := { f := 255, fn := Tryz.f255, ord := fun _ => .text, isFn := Tryz.func255, isBody := by kernel_rfl, isPlain := by kernel_rfl, isSmall := by kernel_rfl, isOK := by kernel_rfl }
noncomputable def fb255 : Code := Tryz.f255.body.getD .skip
noncomputable def fn255 : Nat := Tryz.f255.ntmps
noncomputable abbrev ev255 (C : YC) (lf : Nat) (p : List Nat) := evY Tryz.prog C fn255 fx255.ord lf (sub fb255 p)
noncomputable def ff255 (h : HW) : Rs :=
 some (.ret (.tup []), h)
noncomputable def q255_24 (C : YC) (lf : Nat) (n : K4) (r : K0) (e0 : K0) (x0 x1 x12 x13 : O) (h : HW) : Rs :=
 ob x13 fun a1 =>
 ob x12 fun a2 =>
 ob (bin Tryz.prog .lss 3 a1 a2) fun y3 =>
 yIf y3
 (ob x13 fun a4 =>
 ob x0 fun a5 =>
 ob (semNil a5) fun y6 =>
 ob (fa 1 y6) fun y7 =>
 ob (ld1 y7 h) fun y8 =>
 ob (ixS 308 y8 a4) fun y9 =>
 ob (fa 0 y9) fun y10 =>
 ob (ld1 y10 h) fun y11 =>
 bc (gd true (some y11) (ob x1 fun a12 =>
 some (.ret a12, h)) h) fun y13 h13 =>
 bc (gd true (some y11) (some (.ret a4, h13)) h13) fun y14 h14 =>
 bc (gd true (some y11) (ob (bin Tryz.prog .add 3 y14 (.int .i64 1)) fun y15 =>
 some (.ret y15, h14)) h14) fun y16 h16 =>
 bc (gd true (some y11) (cv false C y13 [y16] h16 fun y17 h17 =>
 some (.ret y17, h17)) h16) fun y18 h18 =>
 bc (gd true (some y11) (ob (unE .not y18) fun y19 =>
 some (.ret y19, h18)) h18) fun y20 h20 =>
 ob (ypk y11 y20 (.bool false)) fun y21 =>
 yIf y21
 (r h20)
 (ob x13 fun a22 =>
 ob (bin Tryz.prog .add 3 a22 (.int .i64 1)) fun y23 =>
 n x0 x1 x12 (some y23) h20))
 (e0 h)
theorem q255_24_eq (C : YC) (lf : Nat) (n : K4) (r : K0) (e0 : K0) (KE : KX) : ∀ F h, ev255 C lf [1, 1, 0, 0] F h (fun F h => n (F 0) (F 1) (F 12) (F 13) h) (fun F h => r h) (bk 0 (fun F h => e0 h) KE) = q255_24 C lf n r e0 (F 0) (F 1) (F 12) (F 13) h := by
  intro F h; kernel_rfl
noncomputable def l255_0 (C : YC) (lf : Nat) (r : K0) (e0 : K0) (k : O × O × O × O → HW → Rs) (s : O × O × O × O) (h : HW) : Rs :=
 q255_24 C lf (fun x0 x1 x12 x13 h => k (x0, x1, x12, x13) h) r e0 s.1 s.2.1 s.2.2.1 s.2.2.2 h
noncomputable def q255_30 (C : YC) (lf : Nat) (n : K4) (x0 x1 : O) (h : HW) : Rs :=
 ob x0 fun a25 =>
 ob (semNil a25) fun y26 =>
 ob (fa 1 y26) fun y27 =>
 ob (ld1 y27 h) fun y28 =>
 ob (lenE Tryz.prog 280 y28) fun y29 =>
 n x0 x1 (some y29) (some (.int .i64 0)) h
theorem q255_30_eq (C : YC) (lf : Nat) (n : K4) (KR : KF) (KE : KX) : ∀ F h, ev255 C lf [1, 0] F h (fun F h => n (F 0) (F 1) (F 12) (F 13) h) KR KE = q255_30 C lf n (F 0) (F 1) h := by
  intro F h; kernel_rfl
noncomputable def q255_31 (C : YC) (lf : Nat) (n : K0) (r : K0) (x0 x1 : O) (h : HW) : Rs :=
 q255_30 C lf (fun x0 x1 x12 x13 h => lp (l255_0 C lf r n) lf (x0, x1, x12, x13) h) x0 x1 h
theorem q255_31_eq (C : YC) (lf : Nat) (n : K0) (r : K0) (KE : KX) : ∀ F h, ev255 C lf [1] F h (fun F h => n h) (fun F h => r h) KE = q255_31 C lf n r (F 0) (F 1) h := cSeq (a := sub fb255 [1, 0]) (b := sub fb255 [1, 1]) (by kernel_rfl) (B := (fun F h => lp (l255_0 C lf r n) lf ((F 0), (F 1), (F 12), (F 13)) h)) (cBlock (a := sub fb255 [1, 1, 0]) (by kernel_rfl) (cLoop (g := fun F => (F 0, F 1, F 12, F 13)) (body := l255_0 C lf r n) (by kernel_rfl) (fun k => (q255_24_eq C lf (fun x0 x1 x12 x13 h => k (x0, x1, x12, x13) h) r n KE)))) (q255_30_eq C lf (fun x0 x1 x12 x13 h => lp (l255_0 C lf r n) lf (x0, x1, x12, x13) h) (fun F h => r h) KE)
noncomputable def q255_35 (C : YC) (lf : Nat) (n : K2) (r : K0) (x0 x1 : O) (h : HW) : Rs :=
 ob x0 fun a32 =>
 bc (C (.fn 202) [a32] h) fun y33 h33 =>
 ob (unE .not y33) fun y34 =>
 yIf y34
 (r h33)
 (n x0 x1 h33)
theorem q255_35_eq (C : YC) (lf : Nat) (n : K2) (r : K0) (KE : KX) : ∀ F h, ev255 C lf [0] F h (fun F h => n (F 0) (F 1) h) (fun F h => r h) KE = q255_35 C lf n r (F 0) (F 1) h := by
  intro F h; kernel_rfl
noncomputable def q255_36 (C : YC) (lf : Nat) (n : K0) (r : K0) (x0 x1 : O) (h : HW) : Rs :=
 q255_35 C lf (fun x0 x1 h => q255_31 C lf n r x0 x1 h) r x0 x1 h
theorem q255_36_eq (C : YC) (lf : Nat) (n : K0) (r : K0) (KE : KX) : ∀ F h, ev255 C lf [] F h (fun F h => n h) (fun F h => r h) KE = q255_36 C lf n r (F 0) (F 1) h := cSeq (a := sub fb255 [0]) (b := sub fb255 [1]) (by kernel_rfl) (B := (fun F h => q255_31 C lf n r (F 0) (F 1) h)) (q255_31_eq C lf n r KE) (q255_35_eq C lf (fun x0 x1 h => q255_31 C lf n r x0 x1 h) r KE)
noncomputable def fs255 (C : YC) (lf : Nat) (a0 a1 : SV) (h : HW) : Rs := q255_36 C lf ff255 ff255 (some a0) (some a1) h
theorem fs255_eq (C : YC) (lf : Nat) (a0 a1 : SV) (h : HW) : yFn Tryz.prog fx255 C lf [a0, a1] h = fs255 C lf a0 a1 h :=
  fnOf (K := (fun F h => ff255 h)) (b := fb255) (N := fn255) (by kernel_rfl) (by kernel_rfl) (by kernel_rfl) (((q255_36_eq C lf ff255 ff255 (fun _ _ _ => none)) (frOf [a0, a1]) h).trans (by kernel_rfl))
noncomputable def ft255 (C : YC) (lf : Nat) (args : List SV) (h : HW) : Rs := match args with | [a0, a1] => fs255 C lf a0 a1 h | _ => none
theorem ft255_eq (C : YC) (lf : Nat) (args : List SV) (h : HW) (r : Out × HW) (e : ft255 C lf args h = some r) : Nat.ble args.length fx255.fn.ntmps = true ∧ yFn Tryz.prog fx255 C lf args h = some r := by
  rcases args with _ | ⟨a0, _ | ⟨a1, _ | ⟨_, _⟩⟩⟩ <;> first | (cases e; done) | exact ⟨by kernel_rfl, (fs255_eq ..).trans e⟩
noncomputable def fy255 : YX Tryz.prog := ⟨fx255, ft255, ft255_eq⟩

/-! FN 256 (*tinsel/inode.node).owned -/
noncomputable def fx256 : XF Tryz.prog := { f := 256, fn := Tryz.f256, ord := fun _ => .text, isFn := Tryz.func256, isBody := by kernel_rfl, isPlain := by kernel_rfl, isSmall := by kernel_rfl, isOK := by kernel_rfl }
noncomputable def fb256 : Code := Tryz.f256.body.getD .skip
noncomputable def fn256 : Nat := Tryz.f256.ntmps
noncomputable abbrev ev256 (C : YC) (lf : Nat) (p : List Nat) := evY Tryz.prog C fn256 fx256.ord lf (sub fb256 p)
noncomputable def ff256 (x2 : O) (h : HW) : Rs :=
 ob x2 fun a0 =>
 some (.ret a0, h)
noncomputable def q256_3 (C : YC) (lf : Nat) (r : K1) (x3 : O) (h : HW) : Rs :=
 ob x3 fun a1 =>
 ob (ld1 a1 h) fun y2 =>
 r (some y2) h
theorem q256_3_eq (C : YC) (lf : Nat) (r : K1) (KN : KF) (KE : KX) : ∀ F h, ev256 C lf [1, 1, 1, 1, 1, 1, 1, 1] F h KN (fun F h => r (F 2) h) KE = q256_3 C lf r (F 3) h := by
  intro F h; kernel_rfl
noncomputable def q256_23 (C : YC) (lf : Nat) (n : K4) (e0 : K1) (x3 x4 x39 x40 : O) (h : HW) : Rs :=
 ob x40 fun a5 =>
 ob (bin Tryz.prog .lss 3 a5 (.int .i64 16)) fun y6 =>
 yIf y6
 (ob x39 fun a7 =>
 ob x40 fun a8 =>
 ob (semIndex Tryz.prog 287 a7 a8) fun y9 =>
 b2 (yAl Tryz.prog 286 h) fun y10 h10 =>
 ob (st 17 y10 y9 h10) fun h11 =>
 ob x4 fun a12 =>
 ob (fa 0 y10) fun y13 =>
 ob (ld1 y13 h11) fun y14 =>
 b2 (ybs Tryz.prog 44 1 [0] [y14] h11) fun y15 h15 =>
 cv false C a12 [y15] h15 fun y16 h16 =>
 ob x4 fun a17 =>
 ob (fa 1 y10) fun y18 =>
 ob (semSlice Tryz.prog 284 y18 none none) fun y19 =>
 cv false C a17 [y19] h16 fun y20 h20 =>
 ob x40 fun a21 =>
 ob (bin Tryz.prog .add 3 a21 (.int .i64 1)) fun y22 =>
 n x3 x4 x39 (some y22) h20)
 (e0 x3 h)
theorem q256_23_eq (C : YC) (lf : Nat) (n : K4) (e0 : K1) (KR : KF) (KE : KX) : ∀ F h, ev256 C lf [1, 1, 1, 1, 1, 1, 1, 0, 1, 0, 0] F h (fun F h => n (F 3) (F 4) (F 39) (F 40) h) KR (bk 0 (fun F h => e0 (F 3) h) KE) = q256_23 C lf n e0 (F 3) (F 4) (F 39) (F 40) h := by
  intro F h; kernel_rfl
noncomputable def l256_4 (C : YC) (lf : Nat) (e0 : K1) (k : O × O × O × O → HW → Rs) (s : O × O × O × O) (h : HW) : Rs :=
 q256_23 C lf (fun x3 x4 x39 x40 h => k (x3, x4, x39, x40) h) e0 s.1 s.2.1 s.2.2.1 s.2.2.2 h
noncomputable def q256_28 (C : YC) (lf : Nat) (n : K4) (x0 x3 x4 : O) (h : HW) : Rs :=
 ob x0 fun a24 =>
 ob (semNil a24) fun y25 =>
 ob (fa 36 y25) fun y26 =>
 ob (ldN 272 y26 h) fun y27 =>
 n x3 x4 (some y27) (some (.int .i64 0)) h
theorem q256_28_eq (C : YC) (lf : Nat) (n : K4) (KR : KF) (KE : KX) : ∀ F h, ev256 C lf [1, 1, 1, 1, 1, 1, 1, 0, 0] F h (fun F h => n (F 3) (F 4) (F 39) (F 40) h) KR KE = q256_28 C lf n (F 0) (F 3) (F 4) h := by
  intro F h; kernel_rfl
noncomputable def q256_29 (C : YC) (lf : Nat) (n : K1) (x0 x3 x4 : O) (h : HW) : Rs :=
 q256_28 C lf (fun x3 x4 x39 x40 h => lp (l256_4 C lf n) lf (x3, x4, x39, x40) h) x0 x3 x4 h
theorem q256_29_eq (C : YC) (lf : Nat) (n : K1) (KR : KF) (KE : KX) : ∀ F h, ev256 C lf [1, 1, 1, 1, 1, 1, 1, 0] F h (fun F h => n (F 3) h) KR KE = q256_29 C lf n (F 0) (F 3) (F 4) h := cSeq (a := sub fb256 [1, 1, 1, 1, 1, 1, 1, 0, 0]) (b := sub fb256 [1, 1, 1, 1, 1, 1, 1, 0, 1]) (by kernel_rfl) (B := (fun F h => lp (l256_4 C lf n) lf ((F 3), (F 4), (F 39), (F 40)) h)) (cBlock (a := sub fb256 [1, 1, 1, 1, 1, 1, 1, 0, 1, 0]) (by kernel_rfl) (cLoop (g := fun F => (F 3, F 4, F 39, F 40)) (body := l256_4 C lf n) (by kernel_rfl) (fun k => (q256_23_eq C lf (fun x3 x4 x39 x40 h => k (x3, x4, x39, x40) h) n KR KE)))) (q256_28_eq C lf (fun x3 x4 x39 x40 h => lp (l256_4 C lf n) lf (x3, x4, x39, x40) h) KR KE)
noncomputable def q256_30 (C : YC) (lf : Nat) (r : K1) (x0 x3 x4 : O) (h : HW) : Rs :=
 q256_29 C lf (fun x3 h => q256_3 C lf r x3 h) x0 x3 x4 h
theorem q256_30_eq (C : YC) (lf : Nat) (r : K1) (KN : KF) (KE : KX) : ∀ F h, ev256 C lf [1, 1, 1, 1, 1, 1, 1] F h KN (fun F h => r (F 2) h) KE = q256_30 C lf r (F 0) (F 3) (F 4) h := cSeq (a := sub fb256 [1, 1, 1, 1, 1, 1, 1, 0]) (b := sub fb256 [1, 1, 1, 1, 1, 1, 1, 1]) (by kernel_rfl) (B := (fun F h => q256_3 C lf r (F 3) h)) (q256_3_eq C lf r KN KE) (q256_29_eq C lf (fun x3 h => q256_3 C lf r x3 h) (fun F h => r (F 2) h) KE)
noncomputable def q256_38 (C : YC) (lf : Nat) (n : K3) (x0 x3 x4 : O) (h : HW) : Rs :=
 ob x4 fun a31 =>
 ob x0 fun a32 =>
 ob (semNil a32) fun y33 =>
 ob (fa 35 y33) fun y34 =>
 ob (ld1 y34 h) fun y35 =>
 b2 (ybs Tryz.prog 44 1 [0] [y35] h) fun y36 h36 =>
 cv false C a31 [y36] h36 fun y37 h37 =>
 n x0 x3 x4 h37
theorem q256_38_eq (C : YC) (lf : Nat) (n : K3) (KR : KF) (KE : KX) : ∀ F h, ev256 C lf [1, 1, 1, 1, 1, 1, 0] F h (fun F h => n (F 0) (F 3) (F 4) h) KR KE = q256_38 C lf n (F 0) (F 3) (F 4) h := by
  intro F h; kernel_rfl
noncomputable def q256_39 (C : YC) (lf : Nat) (r : K1) (x0 x3 x4 : O) (h : HW) : Rs :=
 q256_38 C lf (fun x0 x3 x4 h => q256_30 C lf r x0 x3 x4 h) x0 x3 x4 h
theorem q256_39_eq (C : YC) (lf : Nat) (r : K1) (KN : KF) (KE : KX) : ∀ F h, ev256 C lf [1, 1, 1, 1, 1, 1] F h KN (fun F h => r (F 2) h) KE = q256_39 C lf r (F 0) (F 3) (F 4) h := cSeq (a := sub fb256 [1, 1, 1, 1, 1, 1, 0]) (b := sub fb256 [1, 1, 1, 1, 1, 1, 1]) (by kernel_rfl) (B := (fun F h => q256_30 C lf r (F 0) (F 3) (F 4) h)) (q256_30_eq C lf r KN KE) (q256_38_eq C lf (fun x0 x3 x4 h => q256_30 C lf r x0 x3 x4 h) (fun F h => r (F 2) h) KE)
noncomputable def q256_47 (C : YC) (lf : Nat) (n : K3) (x0 x3 x4 : O) (h : HW) : Rs :=
 ob x4 fun a40 =>
 ob x0 fun a41 =>
 ob (semNil a41) fun y42 =>
 ob (fa 18 y42) fun y43 =>
 ob (fa 1 y43) fun y44 =>
 ob (semSlice Tryz.prog 284 y44 none none) fun y45 =>
 cv false C a40 [y45] h fun y46 h46 =>
 n x0 x3 x4 h46
theorem q256_47_eq (C : YC) (lf : Nat) (n : K3) (KR : KF) (KE : KX) : ∀ F h, ev256 C lf [1, 1, 1, 1, 1, 0] F h (fun F h => n (F 0) (F 3) (F 4) h) KR KE = q256_47 C lf n (F 0) (F 3) (F 4) h := by
  intro F h; kernel_rfl
noncomputable def q256_48 (C : YC) (lf : Nat) (r : K1) (x0 x3 x4 : O) (h : HW) : Rs :=
 q256_47 C lf (fun x0 x3 x4 h => q256_39 C lf r x0 x3 x4 h) x0 x3 x4 h
theorem q256_48_eq (C : YC) (lf : Nat) (r : K1) (KN : KF) (KE : KX) : ∀ F h, ev256 C lf [1, 1, 1, 1, 1] F h KN (fun F h => r (F 2) h) KE = q256_48 C lf r (F 0) (F 3) (F 4) h := cSeq (a := sub fb256 [1, 1, 1, 1, 1, 0]) (b := sub fb256 [1, 1, 1, 1, 1, 1]) (by kernel_rfl) (B := (fun F h => q256_39 C lf r (F 0) (F 3) (F 4) h)) (q256_39_eq C lf r KN KE) (q256_47_eq C lf (fun x0 x3 x4 h => q256_39 C lf r x0 x3 x4 h) (fun F h => r (F 2) h) KE)
noncomputable def q256_57 (C : YC) (lf : Nat) (n : K3) (x0 x3 x4 : O) (h : HW) : Rs :=
 ob x4 fun a49 =>
 ob x0 fun a50 =>
 ob (semNil a50) fun y51 =>
 ob (fa 18 y51) fun y52 =>
 ob (fa 0 y52) fun y53 =>
 ob (ld1 y53 h) fun y54 =>
 b2 (ybs Tryz.prog 44 1 [0] [y54] h) fun y55 h55 =>
 cv false C a49 [y55] h55 fun y56 h56 =>
 n x0 x3 x4 h56
theorem q256_57_eq (C : YC) (lf : Nat) (n : K3) (KR : KF) (KE : KX) : ∀ F h, ev256 C lf [1, 1, 1, 1, 0] F h (fun F h => n (F 0) (F 3) (F 4) h) KR KE = q256_57 C lf n (F 0) (F 3) (F 4) h := by
  intro F h; kernel_rfl
noncomputable def q256_58 (C : YC) (lf : Nat) (r : K1) (x0 x3 x4 : O) (h : HW) : Rs :=
 q256_57 C lf (fun x0 x3 x4 h => q256_48 C lf r x0 x3 x4 h) x0 x3 x4 h
theorem q256_58_eq (C : YC) (lf : Nat) (r : K1) (KN : KF) (KE : KX) : ∀ F h, ev256 C lf [1, 1, 1, 1] F h KN (fun F h => r (F 2) h) KE = q256_58 C lf r (F 0) (F 3) (F 4) h := cSeq (a := sub fb256 [1, 1, 1, 1, 0]) (b := sub fb256 [1, 1, 1, 1, 1]) (by kernel_rfl) (B := (fun F h => q256_48 C lf r (F 0) (F 3) (F 4) h)) (q256_48_eq C lf r KN KE) (q256_57_eq C lf (fun x0 x3 x4 h => q256_48 C lf r x0 x3 x4 h) (fun F h => r (F 2) h) KE)
noncomputable def q256_65 (C : YC) (lf : Nat) (n : K3) (x0 x3 x4 : O) (h : HW) : Rs :=
 ob x4 fun a59 =>
 ob x0 fun a60 =>
 ob (semNil a60) fun y61 =>
 ob (fa 12 y61) fun y62 =>
 ob (semSlice Tryz.prog 283 y62 none none) fun y63 =>
 cv false C a59 [y63] h fun y64 h64 =>
 n x0 x3 x4 h64
theorem q256_65_eq (C : YC) (lf : Nat) (n : K3) (KR : KF) (KE : KX) : ∀ F h, ev256 C lf [1, 1, 1, 0] F h (fun F h => n (F 0) (F 3) (F 4) h) KR KE = q256_65 C lf n (F 0) (F 3) (F 4) h := by
  intro F h; kernel_rfl
noncomputable def q256_66 (C : YC) (lf : Nat) (r : K1) (x0 x3 x4 : O) (h : HW) : Rs :=
 q256_65 C lf (fun x0 x3 x4 h => q256_58 C lf r x0 x3 x4 h) x0 x3 x4 h
theorem q256_66_eq (C : YC) (lf : Nat) (r : K1) (KN : KF) (KE : KX) : ∀ F h, ev256 C lf [1, 1, 1] F h KN (fun F h => r (F 2) h) KE = q256_66 C lf r (F 0) (F 3) (F 4) h := cSeq (a := sub fb256 [1, 1, 1, 0]) (b := sub fb256 [1, 1, 1, 1]) (by kernel_rfl) (B := (fun F h => q256_58 C lf r (F 0) (F 3) (F 4) h)) (q256_58_eq C lf r KN KE) (q256_65_eq C lf (fun x0 x3 x4 h => q256_58 C lf r x0 x3 x4 h) (fun F h => r (F 2) h) KE)
noncomputable def q256_68 (C : YC) (lf : Nat) (n : K3) (x0 x3 : O) (h : HW) : Rs :=
 ob x3 fun a67 =>
 n x0 x3 (some (.fn (.func 321) [] [a67])) h
theorem q256_68_eq (C : YC) (lf : Nat) (n : K3) (KR : KF) (KE : KX) : ∀ F h, ev256 C lf [1, 1, 0] F h (fun F h => n (F 0) (F 3) (F 4) h) KR KE = q256_68 C lf n (F 0) (F 3) h := by
  intro F h; kernel_rfl
noncomputable def q256_69 (C : YC) (lf : Nat) (r : K1) (x0 x3 : O) (h : HW) : Rs :=
 q256_68 C lf (fun x0 x3 x4 h => q256_66 C lf r x0 x3 x4 h) x0 x3 h
theorem q256_69_eq (C : YC) (lf : Nat) (r : K1) (KN : KF) (KE : KX) : ∀ F h, ev256 C lf [1, 1] F h KN (fun F h => r (F 2) h) KE = q256_69 C lf r (F 0) (F 3) h := cSeq (a := sub fb256 [1, 1, 0]) (b := sub fb256 [1, 1, 1]) (by kernel_rfl) (B := (fun F h => q256_66 C lf r (F 0) (F 3) (F 4) h)) (q256_66_eq C lf r KN KE) (q256_68_eq C lf (fun x0 x3 x4 h => q256_66 C lf r x0 x3 x4 h) (fun F h => r (F 2) h) KE)
noncomputable def q256_71 (C : YC) (lf : Nat) (n : K2) (x0 : O) (h : HW) : Rs :=
 b2 (yAl Tryz.prog 44 h) fun y70 h70 =>
 n x0 (some y70) h70
theorem q256_71_eq (C : YC) (lf : Nat) (n : K2) (KR : KF) (KE : KX) : ∀ F h, ev256 C lf [1, 0] F h (fun F h => n (F 0) (F 3) h) KR KE = q256_71 C lf n (F 0) h := by
  intro F h; kernel_rfl
noncomputable def q256_72 (C : YC) (lf : Nat) (r : K1) (x0 : O) (h : HW) : Rs :=
 q256_71 C lf (fun x0 x3 h => q256_69 C lf r x0 x3 h) x0 h
theorem q256_72_eq (C : YC) (lf : Nat) (r : K1) (KN : KF) (KE : KX) : ∀ F h, ev256 C lf [1] F h KN (fun F h => r (F 2) h) KE = q256_72 C lf r (F 0) h := cSeq (a := sub fb256 [1, 0]) (b := sub fb256 [1, 1]) (by kernel_rfl) (B := (fun F h => q256_69 C lf r (F 0) (F 3) h)) (q256_69_eq C lf r KN KE) (q256_71_eq C lf (fun x0 x3 h => q256_69 C lf r x0 x3 h) (fun F h => r (F 2) h) KE)
noncomputable def q256_73 (C : YC) (lf : Nat) (n : K1) (x0 : O) (h : HW) : Rs :=
 n x0 h
theorem q256_73_eq (C : YC) (lf : Nat) (n : K1) (KR : KF) (KE : KX) : ∀ F h, ev256 C lf [0] F h (fun F h => n (F 0) h) KR KE = q256_73 C lf n (F 0) h := by
  intro F h; kernel_rfl
noncomputable def q256_74 (C : YC) (lf : Nat) (r : K1) (x0 : O) (h : HW) : Rs :=
 q256_73 C lf (fun x0 h => q256_72 C lf r x0 h) x0 h
theorem q256_74_eq (C : YC) (lf : Nat) (r : K1) (KN : KF) (KE : KX) : ∀ F h, ev256 C lf [] F h KN (fun F h => r (F 2) h) KE = q256_74 C lf r (F 0) h := cSeq (a := sub fb256 [0]) (b := sub fb256 [1]) (by kernel_rfl) (B := (fun F h => q256_72 C lf r (F 0) h)) (q256_72_eq C lf r KN KE) (q256_73_eq C lf (fun x0 h => q256_72 C lf r x0 h) (fun F h => r (F 2) h) KE)
noncomputable def fs256 (C : YC) (lf : Nat) (a0 : SV) (h : HW) : Rs := q256_74 C lf ff256 (some a0) h
theorem fs256_eq (C : YC) (lf : Nat) (a0 : SV) (h : HW) : yFn Tryz.prog fx256 C lf [a0] h = fs256 C lf a0 h :=
  fnOf (K := (fun F h => ff256 (F 2) h)) (b := fb256) (N := fn256) (by kernel_rfl) (by kernel_rfl) (by kernel_rfl) (((q256_74_eq C lf ff256 (fun F h => ff256 (F 2) h) (fun _ _ _ => none)) (frOf [a0]) h).trans (by kernel_rfl))
noncomputable def ft256 (C : YC) (lf : Nat) (args : List SV) (h : HW) : Rs := match args with | [a0] => fs256 C lf a0 h | _ => none
theorem ft256_eq (C : YC) (lf : Nat) (args : List SV) (h : HW) (r : Out × HW) (e : ft256 C lf args h = some r) : Nat.ble args.length fx256.fn.ntmps = true ∧ yFn Tryz.prog fx256 C lf args h = some r := by
  rcases args with _ | ⟨a0, _ | ⟨_, _⟩⟩ <;> first | (cases e; done) | exact ⟨by kernel_rfl, (fs256_eq ..).trans e⟩
noncomputable def fy256 : YX Tryz.prog := ⟨fx256, ft256, ft256_eq⟩

/-! FN 264 (*tinsel/tree.FS).file -/
noncomputable def fx264 : XF Tryz.prog := { f := 264, fn := Tryz.f264, ord := fun _ => .text, isFn := Tryz.func264, isBody := by kernel_rfl, isPlain := by kernel_rfl, isSmall := by kernel_rfl, isOK := by kernel_rfl }
noncomputable def fb264 : Code := Tryz.f264.body.getD .skip
noncomputable def fn264 : Nat := Tryz.f264.ntmps
noncomputable abbrev ev264 (C : YC) (lf : Nat) (p : List Nat) := evY Tryz.prog C fn264 fx264.ord lf (sub fb264 p)
noncomputable def ff264 (x4 : O) (h : HW) : Rs :=
 ob x4 fun a0 =>
 some (.ret a0, h)
noncomputable def q264_17 (C : YC) (lf : Nat) (r : K1) (x0 x1 : O) (h : HW) : Rs :=
 ob x0 fun a1 =>
 ob x1 fun a2 =>
 bc (C (.fn 118) [a1, a2] h) fun y3 h3 =>
 ob (ext 0 y3) fun y4 =>
 ob (ext 1 y3) fun y5 =>
 b2 (yAl Tryz.prog 58 h3) fun y6 h6 =>
 ob (st 10 y6 y4 h6) fun h7 =>
 ob (bin Tryz.prog .neq 23 y5 (.int .i64 0)) fun y8 =>
 yIf y8
 (r (some y5) h7)
 (ob (fa 6 y6) fun y9 =>
 ob (ld1 y9 h7) fun y10 =>
 ob (bin Tryz.prog .and 30 y10 (.int .i64 61440)) fun y11 =>
 ob (bin Tryz.prog .eql 30 y11 (.int .i64 16384)) fun y12 =>
 yIf y12
 (r (some (.int .i64 21)) h7)
 (ob (fa 6 y6) fun y13 =>
 ob (ld1 y13 h7) fun y14 =>
 ob (bin Tryz.prog .and 30 y14 (.int .i64 61440)) fun y15 =>
 ob (bin Tryz.prog .eql 30 y15 (.int .i64 40960)) fun y16 =>
 yIf y16
 (r (some (.int .i64 22)) h7)
 (r (some (.int .i64 0)) h7)))
theorem q264_17_eq (C : YC) (lf : Nat) (r : K1) (KN : KF) (KE : KX) : ∀ F h, ev264 C lf [] F h KN (fun F h => r (F 4) h) KE = q264_17 C lf r (F 0) (F 1) h := by
  intro F h; kernel_rfl
noncomputable def fs264 (C : YC) (lf : Nat) (a0 a1 : SV) (h : HW) : Rs := q264_17 C lf ff264 (some a0) (some a1) h
theorem fs264_eq (C : YC) (lf : Nat) (a0 a1 : SV) (h : HW) : yFn Tryz.prog fx264 C lf [a0, a1] h = fs264 C lf a0 a1 h :=
  fnOf (K := (fun F h => ff264 (F 4) h)) (b := fb264) (N := fn264) (by kernel_rfl) (by kernel_rfl) (by kernel_rfl) (((q264_17_eq C lf ff264 (fun F h => ff264 (F 4) h) (fun _ _ _ => none)) (frOf [a0, a1]) h).trans (by kernel_rfl))
noncomputable def ft264 (C : YC) (lf : Nat) (args : List SV) (h : HW) : Rs := match args with | [a0, a1] => fs264 C lf a0 a1 h | _ => none
theorem ft264_eq (C : YC) (lf : Nat) (args : List SV) (h : HW) (r : Out × HW) (e : ft264 C lf args h = some r) : Nat.ble args.length fx264.fn.ntmps = true ∧ yFn Tryz.prog fx264 C lf args h = some r := by
  rcases args with _ | ⟨a0, _ | ⟨a1, _ | ⟨_, _⟩⟩⟩ <;> first | (cases e; done) | exact ⟨by kernel_rfl, (fs264_eq ..).trans e⟩
noncomputable def fy264 : YX Tryz.prog := ⟨fx264, ft264, ft264_eq⟩

/-! FN 278 (*tinsel/inode.Table).Read -/
noncomputable def fx278 : XF Tryz.prog := { f := 278, fn := Tryz.f278, ord := fun _ => .text, isFn := Tryz.func278, isBody := by kernel_rfl, isPlain := by kernel_rfl, isSmall := by kernel_rfl, isOK := by kernel_rfl }
noncomputable def fb278 : Code := Tryz.f278.body.getD .skip
noncomputable def fn278 : Nat := Tryz.f278.ntmps
noncomputable abbrev ev278 (C : YC) (lf : Nat) (p : List Nat) := evY Tryz.prog C fn278 fx278.ord lf (sub fb278 p)
noncomputable def ff278 (x8 x9 : O) (h : HW) : Rs :=
 ob x8 fun a0 =>
 ob x9 fun a1 =>
 some (.ret (.tup [a0, a1]), h)
noncomputable def q278_3 (C : YC) (lf : Nat) (r : K2) (x13 : O) (h : HW) : Rs :=
 ob x13 fun a2 =>
 r (some a2) (some (.int .i64 0)) h
theorem q278_3_eq (C : YC) (lf : Nat) (r : K2) (KN : KF) (KE : KX) : ∀ F h, ev278 C lf [1, 1, 1, 1, 1, 1, 1, 1, 1] F h KN (fun F h => r (F 8) (F 9) h) KE = q278_3 C lf r (F 13) h := by
  intro F h; kernel_rfl
noncomputable def q278_40 (C : YC) (lf : Nat) (n : K5) (e0 : K1) (x0 x2 x10 x12 x13 : O) (h : HW) : Rs :=
 ob x2 fun a5 =>
 ob x12 fun a6 =>
 ob (bin Tryz.prog .lss 3 a5 a6) fun y7 =>
 yIf y7
 (ob x2 fun a8 =>
 ob (bin Tryz.prog .quo 3 a8 (.int .i64 64)) fun y9 =>
 ob x2 fun a10 =>
 ob (bin Tryz.prog .rem 3 a10 (.int .i64 64)) fun y11 =>
 ob (bin Tryz.prog .sub 3 (.int .i64 64) y11) fun y12 =>
 ob x12 fun a13 =>
 ob x2 fun a14 =>
 ob (bin Tryz.prog .sub 3 a13 a14) fun y15 =>
 b2 (ybl Tryz.prog .min #[3, 3] [y12, y15] h) fun y16 h16 =>
 ob x10 fun a17 =>
 bc (C (.fn 219) [a17, y9] h16) fun y18 h18 =>
 ob (semNil y18) fun y19 =>
 ob (ld1 y19 h18) fun y20 =>
 ob (bin Tryz.prog .gtr 3 y20 (.int .i64 0)) fun y21 =>
 yIf y21
 (ob x0 fun a22 =>
 ob (semNil a22) fun y23 =>
 ob (fa 0 y23) fun y24 =>
 ob (ld1 y24 h18) fun y25 =>
 ob (bin Tryz.prog .sub 3 y20 (.int .i64 1)) fun y26 =>
 bc (C (.fn 330) [y25, y26] h18) fun y27 h27 =>
 ob (ext 0 y27) fun y28 =>
 ob (ext 1 y27) fun y29 =>
 ob x13 fun a30 =>
 ob (bin Tryz.prog .add 3 y11 y16) fun y31 =>
 ob (semSlice Tryz.prog 31 y28 (some y11) (some y31)) fun y32 =>
 b2 (ybl Tryz.prog .append #[31, 31] [a30, y32] h27) fun y33 h33 =>
 ob x2 fun a34 =>
 ob (bin Tryz.prog .add 3 a34 y16) fun y35 =>
 n x0 (some y35) x10 x12 (some y33) h33)
 (ob x13 fun a36 =>
 b2 (ybl Tryz.prog .append #[31, 3] [a36, y16] h18) fun y37 h37 =>
 ob x2 fun a38 =>
 ob (bin Tryz.prog .add 3 a38 y16) fun y39 =>
 n x0 (some y39) x10 x12 (some y37) h37))
 (e0 x13 h)
theorem q278_40_eq (C : YC) (lf : Nat) (n : K5) (e0 : K1) (KR : KF) (KE : KX) : ∀ F h, ev278 C lf [1, 1, 1, 1, 1, 1, 1, 1, 0, 0, 0] F h (fun F h => n (F 0) (F 2) (F 10) (F 12) (F 13) h) KR (bk 0 (fun F h => e0 (F 13) h) KE) = q278_40 C lf n e0 (F 0) (F 2) (F 10) (F 12) (F 13) h := by
  intro F h; kernel_rfl
noncomputable def l278_4 (C : YC) (lf : Nat) (e0 : K1) (k : O × O × O × O × O → HW → Rs) (s : O × O × O × O × O) (h : HW) : Rs :=
 q278_40 C lf (fun x0 x2 x10 x12 x13 h => k (x0, x2, x10, x12, x13) h) e0 s.1 s.2.1 s.2.2.1 s.2.2.2.1 s.2.2.2.2 h
noncomputable def q278_41 (C : YC) (lf : Nat) (r : K2) (x0 x2 x10 x12 x13 : O) (h : HW) : Rs :=
 lp (l278_4 C lf (fun x13 h => q278_3 C lf r x13 h)) lf (x0, x2, x10, x12, x13) h
theorem q278_41_eq (C : YC) (lf : Nat) (r : K2) (KN : KF) (KE : KX) : ∀ F h, ev278 C lf [1, 1, 1, 1, 1, 1, 1, 1] F h KN (fun F h => r (F 8) (F 9) h) KE = q278_41 C lf r (F 0) (F 2) (F 10) (F 12) (F 13) h := cSeq (a := sub fb278 [1, 1, 1, 1, 1, 1, 1, 1, 0]) (b := sub fb278 [1, 1, 1, 1, 1, 1, 1, 1, 1]) (by kernel_rfl) (B := (fun F h => q278_3 C lf r (F 13) h)) (q278_3_eq C lf r KN KE) (cBlock (a := sub fb278 [1, 1, 1, 1, 1, 1, 1, 1, 0, 0]) (by kernel_rfl) (cLoop (g := fun F => (F 0, F 2, F 10, F 12, F 13)) (body := l278_4 C lf (fun x13 h => q278_3 C lf r x13 h)) (by kernel_rfl) (fun k => (q278_40_eq C lf (fun x0 x2 x10 x12 x13 h => k (x0, x2, x10, x12, x13) h) (fun x13 h => q278_3 C lf r x13 h) (fun F h => r (F 8) (F 9) h) KE))))
noncomputable def q278_46 (C : YC) (lf : Nat) (n : K5) (x0 x2 x10 x12 : O) (h : HW) : Rs :=
 ob x12 fun a42 =>
 ob x2 fun a43 =>
 ob (bin Tryz.prog .sub 3 a42 a43) fun y44 =>
 b2 (ymk Tryz.prog 31 (.int .i64 0) y44 h) fun y45 h45 =>
 n x0 x2 x10 x12 (some y45) h45
theorem q278_46_eq (C : YC) (lf : Nat) (n : K5) (KR : KF) (KE : KX) : ∀ F h, ev278 C lf [1, 1, 1, 1, 1, 1, 1, 0] F h (fun F h => n (F 0) (F 2) (F 10) (F 12) (F 13) h) KR KE = q278_46 C lf n (F 0) (F 2) (F 10) (F 12) h := by
  intro F h; kernel_rfl
noncomputable def q278_47 (C : YC) (lf : Nat) (r : K2) (x0 x2 x10 x12 : O) (h : HW) : Rs :=
 q278_46 C lf (fun x0 x2 x10 x12 x13 h => q278_41 C lf r x0 x2 x10 x12 x13 h) x0 x2 x10 x12 h
theorem q278_47_eq (C : YC) (lf : Nat) (r : K2) (KN : KF) (KE : KX) : ∀ F h, ev278 C lf [1, 1, 1, 1, 1, 1, 1] F h KN (fun F h => r (F 8) (F 9) h) KE = q278_47 C lf r (F 0) (F 2) (F 10) (F 12) h := cSeq (a := sub fb278 [1, 1, 1, 1, 1, 1, 1, 0]) (b := sub fb278 [1, 1, 1, 1, 1, 1, 1, 1]) (by kernel_rfl) (B := (fun F h => q278_41 C lf r (F 0) (F 2) (F 10) (F 12) (F 13) h)) (q278_41_eq C lf r KN KE) (q278_46_eq C lf (fun x0 x2 x10 x12 x13 h => q278_41 C lf r x0 x2 x10 x12 x13 h) (fun F h => r (F 8) (F 9) h) KE)
noncomputable def q278_56 (C : YC) (lf : Nat) (n : K4) (x0 x2 x3 x10 x12 : O) (h : HW) : Rs :=
 ob x3 fun a48 =>
 ob x12 fun a49 =>
 ob x2 fun a50 =>
 ob (bin Tryz.prog .sub 3 a49 a50) fun y51 =>
 ob (bin Tryz.prog .lss 3 a48 y51) fun y52 =>
 yIf y52
 (ob x2 fun a53 =>
 ob x3 fun a54 =>
 ob (bin Tryz.prog .add 3 a53 a54) fun y55 =>
 n x0 x2 x10 (some y55) h)
 (n x0 x2 x10 x12 h)
theorem q278_56_eq (C : YC) (lf : Nat) (n : K4) (KR : KF) (KE : KX) : ∀ F h, ev278 C lf [1, 1, 1, 1, 1, 1, 0] F h (fun F h => n (F 0) (F 2) (F 10) (F 12) h) KR KE = q278_56 C lf n (F 0) (F 2) (F 3) (F 10) (F 12) h := by
  intro F h; kernel_rfl
noncomputable def q278_57 (C : YC) (lf : Nat) (r : K2) (x0 x2 x3 x10 x12 : O) (h : HW) : Rs :=
 q278_56 C lf (fun x0 x2 x10 x12 h => q278_47 C lf r x0 x2 x10 x12 h) x0 x2 x3 x10 x12 h
theorem q278_57_eq (C : YC) (lf : Nat) (r : K2) (KN : KF) (KE : KX) : ∀ F h, ev278 C lf [1, 1, 1, 1, 1, 1] F h KN (fun F h => r (F 8) (F 9) h) KE = q278_57 C lf r (F 0) (F 2) (F 3) (F 10) (F 12) h := cSeq (a := sub fb278 [1, 1, 1, 1, 1, 1, 0]) (b := sub fb278 [1, 1, 1, 1, 1, 1, 1]) (by kernel_rfl) (B := (fun F h => q278_47 C lf r (F 0) (F 2) (F 10) (F 12) h)) (q278_47_eq C lf r KN KE) (q278_56_eq C lf (fun x0 x2 x10 x12 h => q278_47 C lf r x0 x2 x10 x12 h) (fun F h => r (F 8) (F 9) h) KE)
noncomputable def q278_63 (C : YC) (lf : Nat) (n : K5) (x0 x2 x3 x10 : O) (h : HW) : Rs :=
 ob x10 fun a58 =>
 ob (semNil a58) fun y59 =>
 ob (fa 1 y59) fun y60 =>
 ob (fa 4 y60) fun y61 =>
 ob (ld1 y61 h) fun y62 =>
 n x0 x2 x3 x10 (some y62) h
theorem q278_63_eq (C : YC) (lf : Nat) (n : K5) (KR : KF) (KE : KX) : ∀ F h, ev278 C lf [1, 1, 1, 1, 1, 0] F h (fun F h => n (F 0) (F 2) (F 3) (F 10) (F 12) h) KR KE = q278_63 C lf n (F 0) (F 2) (F 3) (F 10) h := by
  intro F h; kernel_rfl
noncomputable def q278_64 (C : YC) (lf : Nat) (r : K2) (x0 x2 x3 x10 : O) (h : HW) : Rs :=
 q278_63 C lf (fun x0 x2 x3 x10 x12 h => q278_57 C lf r x0 x2 x3 x10 x12 h) x0 x2 x3 x10 h
theorem q278_64_eq (C : YC) (lf : Nat) (r : K2) (KN : KF) (KE : KX) : ∀ F h, ev278 C lf [1, 1, 1, 1, 1] F h KN (fun F h => r (F 8) (F 9) h) KE = q278_64 C lf r (F 0) (F 2) (F 3) (F 10) h := cSeq (a := sub fb278 [1, 1, 1, 1, 1, 0]) (b := sub fb278 [1, 1, 1, 1, 1, 1]) (by kernel_rfl) (B := (fun F h => q278_57 C lf r (F 0) (F 2) (F 3) (F 10) (F 12) h)) (q278_57_eq C lf r KN KE) (q278_63_eq C lf (fun x0 x2 x3 x10 x12 h => q278_57 C lf r x0 x2 x3 x10 x12 h) (fun F h => r (F 8) (F 9) h) KE)
noncomputable def q278_72 (C : YC) (lf : Nat) (n : K4) (r : K2) (x0 x2 x3 x10 : O) (h : HW) : Rs :=
 ob x2 fun a65 =>
 ob x10 fun a66 =>
 ob (semNil a66) fun y67 =>
 ob (fa 1 y67) fun y68 =>
 ob (fa 4 y68) fun y69 =>
 ob (ld1 y69 h) fun y70 =>
 ob (bin Tryz.prog .geq 3 a65 y70) fun y71 =>
 yIf y71
 (r (some (.val (.slice none 0 0))) (some (.int .i64 0)) h)
 (n x0 x2 x3 x10 h)
theorem q278_72_eq (C : YC) (lf : Nat) (n : K4) (r : K2) (KE : KX) : ∀ F h, ev278 C lf [1, 1, 1, 1, 0] F h (fun F h => n (F 0) (F 2) (F 3) (F 10) h) (fun F h => r (F 8) (F 9) h) KE = q278_72 C lf n r (F 0) (F 2) (F 3) (F 10) h := by
  intro F h; kernel_rfl
noncomputable def q278_73 (C : YC) (lf : Nat) (r : K2) (x0 x2 x3 x10 : O) (h : HW) : Rs :=
 q278_72 C lf (fun x0 x2 x3 x10 h => q278_64 C lf r x0 x2 x3 x10 h) r x0 x2 x3 x10 h
theorem q278_73_eq (C : YC) (lf : Nat) (r : K2) (KN : KF) (KE : KX) : ∀ F h, ev278 C lf [1, 1, 1, 1] F h KN (fun F h => r (F 8) (F 9) h) KE = q278_73 C lf r (F 0) (F 2) (F 3) (F 10) h := cSeq (a := sub fb278 [1, 1, 1, 1, 0]) (b := sub fb278 [1, 1, 1, 1, 1]) (by kernel_rfl) (B := (fun F h => q278_64 C lf r (F 0) (F 2) (F 3) (F 10) h)) (q278_64_eq C lf r KN KE) (q278_72_eq C lf (fun x0 x2 x3 x10 h => q278_64 C lf r x0 x2 x3 x10 h) r KE)
noncomputable def q278_81 (C : YC) (lf : Nat) (n : K4) (r : K2) (x0 x2 x3 x10 : O) (h : HW) : Rs :=
 ob x2 fun a74 =>
 ob (bin Tryz.prog .lss 3 a74 (.int .i64 0)) fun y75 =>
 bc (gd false (some y75) (ob x3 fun a76 =>
 some (.ret a76, h)) h) fun y77 h77 =>
 bc (gd false (some y75) (ob (bin Tryz.prog .lss 3 y77 (.int .i64 0)) fun y78 =>
 some (.ret y78, h77)) h77) fun y79 h79 =>
 ob (ypk y75 (.bool true) y79) fun y80 =>
 yIf y80
 (r (some (.val (.slice none 0 0))) (some (.int .i64 22)) h79)
 (n x0 x2 x3 x10 h79)
theorem q278_81_eq (C : YC) (lf : Nat) (n : K4) (r : K2) (KE : KX) : ∀ F h, ev278 C lf [1, 1, 1, 0] F h (fun F h => n (F 0) (F 2) (F 3) (F 10) h) (fun F h => r (F 8) (F 9) h) KE = q278_81 C lf n r (F 0) (F 2) (F 3) (F 10) h := by
  intro F h; kernel_rfl
noncomputable def q278_82 (C : YC) (lf : Nat) (r : K2) (x0 x2 x3 x10 : O) (h : HW) : Rs :=
 q278_81 C lf (fun x0 x2 x3 x10 h => q278_73 C lf r x0 x2 x3 x10 h) r x0 x2 x3 x10 h
theorem q278_82_eq (C : YC) (lf : Nat) (r : K2) (KN : KF) (KE : KX) : ∀ F h, ev278 C lf [1, 1, 1] F h KN (fun F h => r (F 8) (F 9) h) KE = q278_82 C lf r (F 0) (F 2) (F 3) (F 10) h := cSeq (a := sub fb278 [1, 1, 1, 0]) (b := sub fb278 [1, 1, 1, 1]) (by kernel_rfl) (B := (fun F h => q278_73 C lf r (F 0) (F 2) (F 3) (F 10) h)) (q278_73_eq C lf r KN KE) (q278_81_eq C lf (fun x0 x2 x3 x10 h => q278_73 C lf r x0 x2 x3 x10 h) r KE)
noncomputable def q278_86 (C : YC) (lf : Nat) (n : K4) (r : K2) (x0 x2 x3 x10 x11 : O) (h : HW) : Rs :=
 ob x11 fun a83 =>
 ob (bin Tryz.prog .neq 23 a83 (.int .i64 0)) fun y84 =>
 yIf y84
 (ob x11 fun a85 =>
 r (some (.val (.slice none 0 0))) (some a85) h)
 (n x0 x2 x3 x10 h)
theorem q278_86_eq (C : YC) (lf : Nat) (n : K4) (r : K2) (KE : KX) : ∀ F h, ev278 C lf [1, 1, 0] F h (fun F h => n (F 0) (F 2) (F 3) (F 10) h) (fun F h => r (F 8) (F 9) h) KE = q278_86 C lf n r (F 0) (F 2) (F 3) (F 10) (F 11) h := by
  intro F h; kernel_rfl
noncomputable def q278_87 (C : YC) (lf : Nat) (r : K2) (x0 x2 x3 x10 x11 : O) (h : HW) : Rs :=
 q278_86 C lf (fun x0 x2 x3 x10 h => q278_82 C lf r x0 x2 x3 x10 h) r x0 x2 x3 x10 x11 h
theorem q278_87_eq (C : YC) (lf : Nat) (r : K2) (KN : KF) (KE : KX) : ∀ F h, ev278 C lf [1, 1] F h KN (fun F h => r (F 8) (F 9) h) KE = q278_87 C lf r (F 0) (F 2) (F 3) (F 10) (F 11) h := cSeq (a := sub fb278 [1, 1, 0]) (b := sub fb278 [1, 1, 1]) (by kernel_rfl) (B := (fun F h => q278_82 C lf r (F 0) (F 2) (F 3) (F 10) h)) (q278_82_eq C lf r KN KE) (q278_86_eq C lf (fun x0 x2 x3 x10 h => q278_82 C lf r x0 x2 x3 x10 h) r KE)
noncomputable def q278_93 (C : YC) (lf : Nat) (n : K5) (x0 x1 x2 x3 : O) (h : HW) : Rs :=
 ob x0 fun a88 =>
 ob x1 fun a89 =>
 bc (C (.fn 206) [a88, a89] h) fun y90 h90 =>
 ob (ext 0 y90) fun y91 =>
 ob (ext 1 y90) fun y92 =>
 n x0 x2 x3 (some y91) (some y92) h90
theorem q278_93_eq (C : YC) (lf : Nat) (n : K5) (KR : KF) (KE : KX) : ∀ F h, ev278 C lf [1, 0] F h (fun F h => n (F 0) (F 2) (F 3) (F 10) (F 11) h) KR KE = q278_93 C lf n (F 0) (F 1) (F 2) (F 3) h := by
  intro F h; kernel_rfl
noncomputable def q278_94 (C : YC) (lf : Nat) (r : K2) (x0 x1 x2 x3 : O) (h : HW) : Rs :=
 q278_93 C lf (fun x0 x2 x3 x10 x11 h => q278_87 C lf r x0 x2 x3 x10 x11 h) x0 x1 x2 x3 h
theorem q278_94_eq (C : YC) (lf : Nat) (r : K2) (KN : KF) (KE : KX) : ∀ F h, ev278 C lf [1] F h KN (fun F h => r (F 8) (F 9) h) KE = q278_94 C lf r (F 0) (F 1) (F 2) (F 3) h := cSeq (a := sub fb278 [1, 0]) (b := sub fb278 [1, 1]) (by kernel_rfl) (B := (fun F h => q278_87 C lf r (F 0) (F 2) (F 3) (F 10) (F 11) h)) (q278_87_eq C lf r KN KE) (q278_93_eq C lf (fun x0 x2 x3 x10 x11 h => q278_87 C lf r x0 x2 x3 x10 x11 h) (fun F h => r (F 8) (F 9) h) KE)
noncomputable def q278_95 (C : YC) (lf : Nat) (n : K4) (x0 x1 x2 x3 : O) (h : HW) : Rs :=
 n x0 x1 x2 x3 h
theorem q278_95_eq (C : YC) (lf : Nat) (n : K4) (KR : KF) (KE : KX) : ∀ F h, ev278 C lf [0] F h (fun F h => n (F 0) (F 1) (F 2) (F 3) h) KR KE = q278_95 C lf n (F 0) (F 1) (F 2) (F 3) h := by
  intro F h; kernel_rfl
noncomputable def q278_96 (C : YC) (lf : Nat) (r : K2) (x0 x1 x2 x3 : O) (h : HW) : Rs :=
 q278_95 C lf (fun x0 x1 x2 x3 h => q278_94 C lf r x0 x1 x2 x3 h) x0 x1 x2 x3 h
theorem q278_96_eq (C : YC) (lf : Nat) (r : K2) (KN : KF) (KE : KX) : ∀ F h, ev278 C lf [] F h KN (fun F h => r (F 8) (F 9) h) KE = q278_96 C lf r (F 0) (F 1) (F 2) (F 3) h := cSeq (a := sub fb278 [0]) (b := sub fb278 [1]) (by kernel_rfl) (B := (fun F h => q278_94 C lf r (F 0) (F 1) (F 2) (F 3) h)) (q278_94_eq C lf r KN KE) (q278_95_eq C lf (fun x0 x1 x2 x3 h => q278_94 C lf r x0 x1 x2 x3 h) (fun F h => r (F 8) (F 9) h) KE)
noncomputable def fs278 (C : YC) (lf : Nat) (a0 a1 a2 a3 : SV) (h : HW) : Rs := q278_96 C lf ff278 (some a0) (some a1) (some a2) (some a3) h
theorem fs278_eq (C : YC) (lf : Nat) (a0 a1 a2 a3 : SV) (h : HW) : yFn Tryz.prog fx278 C lf [a0, a1, a2, a3] h = fs278 C lf a0 a1 a2 a3 h :=
  fnOf (K := (fun F h => ff278 (F 8) (F 9) h)) (b := fb278) (N := fn278) (by kernel_rfl) (by kernel_rfl) (by kernel_rfl) (((q278_96_eq C lf ff278 (fun F h => ff278 (F 8) (F 9) h) (fun _ _ _ => none)) (frOf [a0, a1, a2, a3]) h).trans (by kernel_rfl))
noncomputable def ft278 (C : YC) (lf : Nat) (args : List SV) (h : HW) : Rs := match args with | [a0, a1, a2, a3] => fs278 C lf a0 a1 a2 a3 h | _ => none
theorem ft278_eq (C : YC) (lf : Nat) (args : List SV) (h : HW) (r : Out × HW) (e : ft278 C lf args h = some r) : Nat.ble args.length fx278.fn.ntmps = true ∧ yFn Tryz.prog fx278 C lf args h = some r := by
  rcases args with _ | ⟨a0, _ | ⟨a1, _ | ⟨a2, _ | ⟨a3, _ | ⟨_, _⟩⟩⟩⟩⟩ <;> first | (cases e; done) | exact ⟨by kernel_rfl, (fs278_eq ..).trans e⟩
noncomputable def fy278 : YX Tryz.prog := ⟨fx278, ft278, ft278_eq⟩

/-! FN 279 tinsel/dir.put -/
noncomputable def fx279 : XF Tryz.prog := { f := 279, fn := Tryz.f279, ord := fun _ => .text, isFn := Tryz.func279, isBody := by kernel_rfl, isPlain := by kernel_rfl, isSmall := by kernel_rfl, isOK := by kernel_rfl }
noncomputable def fb279 : Code := Tryz.f279.body.getD .skip
noncomputable def fn279 : Nat := Tryz.f279.ntmps
noncomputable abbrev ev279 (C : YC) (lf : Nat) (p : List Nat) := evY Tryz.prog C fn279 fx279.ord lf (sub fb279 p)
noncomputable def ff279 (x8 : O) (h : HW) : Rs :=
 ob x8 fun a0 =>
 some (.ret a0, h)
noncomputable def q279_22 (C : YC) (lf : Nat) (r : K1) (x0 x1 x2 x3 : O) (h : HW) : Rs :=
 ob x3 fun a1 =>
 b2 (ybx 292 a1 h) fun y2 h2 =>
 ob x0 fun a3 =>
 ob x1 fun a4 =>
 ob x2 fun a5 =>
 ob (bin Tryz.prog .mul 3 a5 (.int .i64 32)) fun y6 =>
 ob (semSlice Tryz.prog 292 y2 none none) fun y7 =>
 bc (C (.fn 154) [a3, a4, y6, y7] h2) fun y8 h8 =>
 ob (ext 0 y8) fun y9 =>
 ob (ext 1 y8) fun y10 =>
 ob (bin Tryz.prog .eql 23 y10 (.int .i64 27)) fun y11 =>
 bc (gd false (some y11) (some (.ret y10, h8)) h8) fun y12 h12 =>
 bc (gd false (some y11) (ob (bin Tryz.prog .eql 23 y12 (.int .i64 0)) fun y13 =>
 some (.ret y13, h12)) h12) fun y14 h14 =>
 bc (gd false (some y11) (some (.ret y14, h14)) h14) fun y15 h15 =>
 bc (gd true (some y15) (some (.ret y9, h15)) h15) fun y16 h16 =>
 bc (gd true (some y15) (ob (bin Tryz.prog .lss 3 y16 (.int .i64 32)) fun y17 =>
 some (.ret y17, h16)) h16) fun y18 h18 =>
 bc (gd false (some y11) (ob (ypk y15 y18 (.bool false)) fun y19 =>
 some (.ret y19, h18)) h18) fun y20 h20 =>
 ob (ypk y11 (.bool true) y20) fun y21 =>
 yIf y21
 (r (some (.int .i64 28)) h20)
 (r (some y10) h20)
theorem q279_22_eq (C : YC) (lf : Nat) (r : K1) (KN : KF) (KE : KX) : ∀ F h, ev279 C lf [] F h KN (fun F h => r (F 8) h) KE = q279_22 C lf r (F 0) (F 1) (F 2) (F 3) h := by
  intro F h; kernel_rfl
noncomputable def fs279 (C : YC) (lf : Nat) (a0 a1 a2 a3 : SV) (h : HW) : Rs := q279_22 C lf ff279 (some a0) (some a1) (some a2) (some a3) h
theorem fs279_eq (C : YC) (lf : Nat) (a0 a1 a2 a3 : SV) (h : HW) : yFn Tryz.prog fx279 C lf [a0, a1, a2, a3] h = fs279 C lf a0 a1 a2 a3 h :=
  fnOf (K := (fun F h => ff279 (F 8) h)) (b := fb279) (N := fn279) (by kernel_rfl) (by kernel_rfl) (by kernel_rfl) (((q279_22_eq C lf ff279 (fun F h => ff279 (F 8) h) (fun _ _ _ => none)) (frOf [a0, a1, a2, a3]) h).trans (by kernel_rfl))
noncomputable def ft279 (C : YC) (lf : Nat) (args : List SV) (h : HW) : Rs := match args with | [a0, a1, a2, a3] => fs279 C lf a0 a1 a2 a3 h | _ => none
theorem ft279_eq (C : YC) (lf : Nat) (args : List SV) (h : HW) (r : Out × HW) (e : ft279 C lf args h = some r) : Nat.ble args.length fx279.fn.ntmps = true ∧ yFn Tryz.prog fx279 C lf args h = some r := by
  rcases args with _ | ⟨a0, _ | ⟨a1, _ | ⟨a2, _ | ⟨a3, _ | ⟨_, _⟩⟩⟩⟩⟩ <;> first | (cases e; done) | exact ⟨by kernel_rfl, (fs279_eq ..).trans e⟩
noncomputable def fy279 : YX Tryz.prog := ⟨fx279, ft279, ft279_eq⟩

/-! FN 280 tinsel/path.names$1 -/
noncomputable def fx280 : XF Tryz.prog := { f := 280, fn := Tryz.f280, ord := fun _ => .text, isFn := Tryz.func280, isBody := by kernel_rfl, isPlain := by kernel_rfl, isSmall := by kernel_rfl, isOK := by kernel_rfl }
noncomputable def fb280 : Code := Tryz.f280.body.getD .skip
noncomputable def fn280 : Nat := Tryz.f280.ntmps
noncomputable abbrev ev280 (C : YC) (lf : Nat) (p : List Nat) := evY Tryz.prog C fn280 fx280.ord lf (sub fb280 p)
noncomputable def ff280 (h : HW) : Rs :=
 some (.ret (.tup []), h)
noncomputable def q280_48 (C : YC) (lf : Nat) (n : K4) (r : K0) (e0 : K0) (x0 x1 x3 x4 : O) (h : HW) : Rs :=
 ob x4 fun a1 =>
 ob x1 fun a2 =>
 ob (ld1 a2 h) fun y3 =>
 ob (lenE Tryz.prog 9 y3) fun y4 =>
 ob (bin Tryz.prog .leq 3 a1 y4) fun y5 =>
 yIf y5
 (ob x4 fun a6 =>
 ob x1 fun a7 =>
 ob (ld1 a7 h) fun y8 =>
 ob (lenE Tryz.prog 9 y8) fun y9 =>
 ob (bin Tryz.prog .lss 3 a6 y9) fun y10 =>
 bc (gd true (some y10) (ob x1 fun a11 =>
 ob (ld1 a11 h) fun y12 =>
 some (.ret y12, h)) h) fun y13 h13 =>
 bc (gd true (some y10) (ob x4 fun a14 =>
 some (.ret a14, h13)) h13) fun y15 h15 =>
 bc (gd true (some y10) (ob (semIndex Tryz.prog 9 y13 y15) fun y16 =>
 some (.ret y16, h15)) h15) fun y17 h17 =>
 bc (gd true (some y10) (ob (bin Tryz.prog .neq 5 y17 (.int .u8 47)) fun y18 =>
 some (.ret y18, h17)) h17) fun y19 h19 =>
 ob (ypk y10 y19 (.bool false)) fun y20 =>
 yIf y20
 (ob x4 fun a21 =>
 ob (bin Tryz.prog .add 3 a21 (.int .i64 1)) fun y22 =>
 n x0 x1 x3 (some y22) h19)
 (ob x4 fun a23 =>
 ob x3 fun a24 =>
 ob (bin Tryz.prog .gtr 3 a23 a24) fun y25 =>
 bc (gd true (some y25) (ob x0 fun a26 =>
 some (.ret a26, h19)) h19) fun y27 h27 =>
 bc (gd true (some y25) (ob x4 fun a28 =>
 some (.ret a28, h27)) h27) fun y29 h29 =>
 bc (gd true (some y25) (ob x1 fun a30 =>
 ob (ld1 a30 h29) fun y31 =>
 some (.ret y31, h29)) h29) fun y32 h32 =>
 bc (gd true (some y25) (ob x3 fun a33 =>
 some (.ret a33, h32)) h32) fun y34 h34 =>
 bc (gd true (some y25) (ob x4 fun a35 =>
 some (.ret a35, h34)) h34) fun y36 h36 =>
 bc (gd true (some y25) (ob (semSlice Tryz.prog 9 y32 (some y34) (some y36)) fun y37 =>
 some (.ret y37, h36)) h36) fun y38 h38 =>
 bc (gd true (some y25) (cv false C y27 [y29, y38] h38 fun y39 h39 =>
 some (.ret y39, h39)) h38) fun y40 h40 =>
 bc (gd true (some y25) (ob (unE .not y40) fun y41 =>
 some (.ret y41, h40)) h40) fun y42 h42 =>
 ob (ypk y25 y42 (.bool false)) fun y43 =>
 yIf y43
 (r h42)
 (ob x4 fun a44 =>
 ob (bin Tryz.prog .add 3 a44 (.int .i64 1)) fun y45 =>
 ob x4 fun a46 =>
 ob (bin Tryz.prog .add 3 a46 (.int .i64 1)) fun y47 =>
 n x0 x1 (some y45) (some y47) h42)))
 (e0 h)
theorem q280_48_eq (C : YC) (lf : Nat) (n : K4) (r : K0) (e0 : K0) (KE : KX) : ∀ F h, ev280 C lf [1, 1, 0, 0] F h (fun F h => n (F 0) (F 1) (F 3) (F 4) h) (fun F h => r h) (bk 0 (fun F h => e0 h) KE) = q280_48 C lf n r e0 (F 0) (F 1) (F 3) (F 4) h := by
  intro F h; kernel_rfl
noncomputable def l280_0 (C : YC) (lf : Nat) (r : K0) (e0 : K0) (k : O × O × O × O → HW → Rs) (s : O × O × O × O) (h : HW) : Rs :=
 q280_48 C lf (fun x0 x1 x3 x4 h => k (x0, x1, x3, x4) h) r e0 s.1 s.2.1 s.2.2.1 s.2.2.2 h
noncomputable def q280_49 (C : YC) (lf : Nat) (n : K4) (x0 x1 x3 : O) (h : HW) : Rs :=
 n x0 x1 x3 (some (.int .i64 0)) h
theorem q280_49_eq (C : YC) (lf : Nat) (n : K4) (KR : KF) (KE : KX) : ∀ F h, ev280 C lf [1, 0] F h (fun F h => n (F 0) (F 1) (F 3) (F 4) h) KR KE = q280_49 C lf n (F 0) (F 1) (F 3) h := by
  intro F h; kernel_rfl
noncomputable def q280_50 (C : YC) (lf : Nat) (n : K0) (r : K0) (x0 x1 x3 : O) (h : HW) : Rs :=
 q280_49 C lf (fun x0 x1 x3 x4 h => lp (l280_0 C lf r n) lf (x0, x1, x3, x4) h) x0 x1 x3 h
theorem q280_50_eq (C : YC) (lf : Nat) (n : K0) (r : K0) (KE : KX) : ∀ F h, ev280 C lf [1] F h (fun F h => n h) (fun F h => r h) KE = q280_50 C lf n r (F 0) (F 1) (F 3) h := cSeq (a := sub fb280 [1, 0]) (b := sub fb280 [1, 1]) (by kernel_rfl) (B := (fun F h => lp (l280_0 C lf r n) lf ((F 0), (F 1), (F 3), (F 4)) h)) (cBlock (a := sub fb280 [1, 1, 0]) (by kernel_rfl) (cLoop (g := fun F => (F 0, F 1, F 3, F 4)) (body := l280_0 C lf r n) (by kernel_rfl) (fun k => (q280_48_eq C lf (fun x0 x1 x3 x4 h => k (x0, x1, x3, x4) h) r n KE)))) (q280_49_eq C lf (fun x0 x1 x3 x4 h => lp (l280_0 C lf r n) lf (x0, x1, x3, x4) h) (fun F h => r h) KE)
noncomputable def q280_51 (C : YC) (lf : Nat) (n : K3) (x0 x1 : O) (h : HW) : Rs :=
 n x0 x1 (some (.int .i64 0)) h
theorem q280_51_eq (C : YC) (lf : Nat) (n : K3) (KR : KF) (KE : KX) : ∀ F h, ev280 C lf [0] F h (fun F h => n (F 0) (F 1) (F 3) h) KR KE = q280_51 C lf n (F 0) (F 1) h := by
  intro F h; kernel_rfl
noncomputable def q280_52 (C : YC) (lf : Nat) (n : K0) (r : K0) (x0 x1 : O) (h : HW) : Rs :=
 q280_51 C lf (fun x0 x1 x3 h => q280_50 C lf n r x0 x1 x3 h) x0 x1 h
theorem q280_52_eq (C : YC) (lf : Nat) (n : K0) (r : K0) (KE : KX) : ∀ F h, ev280 C lf [] F h (fun F h => n h) (fun F h => r h) KE = q280_52 C lf n r (F 0) (F 1) h := cSeq (a := sub fb280 [0]) (b := sub fb280 [1]) (by kernel_rfl) (B := (fun F h => q280_50 C lf n r (F 0) (F 1) (F 3) h)) (q280_50_eq C lf n r KE) (q280_51_eq C lf (fun x0 x1 x3 h => q280_50 C lf n r x0 x1 x3 h) (fun F h => r h) KE)
noncomputable def fs280 (C : YC) (lf : Nat) (a0 a1 : SV) (h : HW) : Rs := q280_52 C lf ff280 ff280 (some a0) (some a1) h
theorem fs280_eq (C : YC) (lf : Nat) (a0 a1 : SV) (h : HW) : yFn Tryz.prog fx280 C lf [a0, a1] h = fs280 C lf a0 a1 h :=
  fnOf (K := (fun F h => ff280 h)) (b := fb280) (N := fn280) (by kernel_rfl) (by kernel_rfl) (by kernel_rfl) (((q280_52_eq C lf ff280 ff280 (fun _ _ _ => none)) (frOf [a0, a1]) h).trans (by kernel_rfl))
noncomputable def ft280 (C : YC) (lf : Nat) (args : List SV) (h : HW) : Rs := match args with | [a0, a1] => fs280 C lf a0 a1 h | _ => none
theorem ft280_eq (C : YC) (lf : Nat) (args : List SV) (h : HW) (r : Out × HW) (e : ft280 C lf args h = some r) : Nat.ble args.length fx280.fn.ntmps = true ∧ yFn Tryz.prog fx280 C lf args h = some r := by
  rcases args with _ | ⟨a0, _ | ⟨a1, _ | ⟨_, _⟩⟩⟩ <;> first | (cases e; done) | exact ⟨by kernel_rfl, (fs280_eq ..).trans e⟩
noncomputable def fy280 : YX Tryz.prog := ⟨fx280, ft280, ft280_eq⟩

/-! FN 281 internal/stringslite.IndexByte -/
noncomputable def fx281 : XF Tryz.prog := { f := 281, fn := Tryz.f281, ord := fun _ => .text, isFn := Tryz.func281, isBody := by kernel_rfl, isPlain := by kernel_rfl, isSmall := by kernel_rfl, isOK := by kernel_rfl }
noncomputable def fb281 : Code := Tryz.f281.body.getD .skip
noncomputable def fn281 : Nat := Tryz.f281.ntmps
noncomputable abbrev ev281 (C : YC) (lf : Nat) (p : List Nat) := evY Tryz.prog C fn281 fx281.ord lf (sub fb281 p)
noncomputable def ff281 (x4 : O) (h : HW) : Rs :=
 ob x4 fun a0 =>
 some (.ret a0, h)
noncomputable def q281_4 (C : YC) (lf : Nat) (r : K1) (x0 x1 : O) (h : HW) : Rs :=
 ob x0 fun a1 =>
 ob x1 fun a2 =>
 bc (C (.fn 331) [a1, a2] h) fun y3 h3 =>
 r (some y3) h3
theorem q281_4_eq (C : YC) (lf : Nat) (r : K1) (KN : KF) (KE : KX) : ∀ F h, ev281 C lf [] F h KN (fun F h => r (F 4) h) KE = q281_4 C lf r (F 0) (F 1) h := by
  intro F h; kernel_rfl
noncomputable def fs281 (C : YC) (lf : Nat) (a0 a1 : SV) (h : HW) : Rs := q281_4 C lf ff281 (some a0) (some a1) h
theorem fs281_eq (C : YC) (lf : Nat) (a0 a1 : SV) (h : HW) : yFn Tryz.prog fx281 C lf [a0, a1] h = fs281 C lf a0 a1 h :=
  fnOf (K := (fun F h => ff281 (F 4) h)) (b := fb281) (N := fn281) (by kernel_rfl) (by kernel_rfl) (by kernel_rfl) (((q281_4_eq C lf ff281 (fun F h => ff281 (F 4) h) (fun _ _ _ => none)) (frOf [a0, a1]) h).trans (by kernel_rfl))
noncomputable def ft281 (C : YC) (lf : Nat) (args : List SV) (h : HW) : Rs := match args with | [a0, a1] => fs281 C lf a0 a1 h | _ => none
theorem ft281_eq (C : YC) (lf : Nat) (args : List SV) (h : HW) (r : Out × HW) (e : ft281 C lf args h = some r) : Nat.ble args.length fx281.fn.ntmps = true ∧ yFn Tryz.prog fx281 C lf args h = some r := by
  rcases args with _ | ⟨a0, _ | ⟨a1, _ | ⟨_, _⟩⟩⟩ <;> first | (cases e; done) | exact ⟨by kernel_rfl, (fs281_eq ..).trans e⟩
noncomputable def fy281 : YX Tryz.prog := ⟨fx281, ft281, ft281_eq⟩

/-! FN 284 (*tinsel/blocks.Store).Alloc -/
noncomputable def fx284 : XF Tryz.prog := { f := 284, fn := Tryz.f284, ord := fun _ => .text, isFn := Tryz.func284, isBody := by kernel_rfl, isPlain := by kernel_rfl, isSmall := by kernel_rfl, isOK := by kernel_rfl }
noncomputable def fb284 : Code := Tryz.f284.body.getD .skip
noncomputable def fn284 : Nat := Tryz.f284.ntmps
noncomputable abbrev ev284 (C : YC) (lf : Nat) (p : List Nat) := evY Tryz.prog C fn284 fx284.ord lf (sub fb284 p)
noncomputable def ff284 (x2 x3 : O) (h : HW) : Rs :=
 ob x2 fun a0 =>
 ob x3 fun a1 =>
 some (.ret (.tup [a0, a1]), h)
noncomputable def q284_2 (C : YC) (lf : Nat) (r : K2) (h : HW) : Rs :=
 r (some (.int .i64 0)) (some (.int .i64 28)) h
theorem q284_2_eq (C : YC) (lf : Nat) (r : K2) (KN : KF) (KE : KX) : ∀ F h, ev284 C lf [1, 1, 1] F h KN (fun F h => r (F 2) (F 3) h) KE = q284_2 C lf r h := by
  intro F h; kernel_rfl
noncomputable def q284_55 (C : YC) (lf : Nat) (n : K2) (r : K2) (e0 : K0) (x0 x9 : O) (h : HW) : Rs :=
 ob x9 fun a4 =>
 ob (bin Tryz.prog .lss 3 a4 (.int .i64 64)) fun y5 =>
 yIf y5
 (ob x9 fun a6 =>
 ob (bin Tryz.prog .mul 3 a6 (.int .i64 64)) fun y7 =>
 ob x0 fun a8 =>
 ob (semNil a8) fun y9 =>
 ob (fa 1 y9) fun y10 =>
 ob (ixA 64 1 y10 a6) fun y11 =>
 ob (ld1 y11 h) fun y12 =>
 ob (unE .xor y12) fun y13 =>
 bc (C (.fn 332) [y13] h) fun y14 h14 =>
 ob (bin Tryz.prog .add 3 y7 y14) fun y15 =>
 ob x0 fun a16 =>
 ob (semNil a16) fun y17 =>
 ob (fa 1 y17) fun y18 =>
 ob (ixA 64 1 y18 a6) fun y19 =>
 ob (ld1 y19 h14) fun y20 =>
 ob (bin Tryz.prog .eql 372 y20 (.int .u64 18446744073709551615)) fun y21 =>
 bc (gd false (some y21) (some (.ret y15, h14)) h14) fun y22 h22 =>
 bc (gd false (some y21) (ob x0 fun a23 =>
 some (.ret a23, h22)) h22) fun y24 h24 =>
 bc (gd false (some y21) (ob (semNil y24) fun y25 =>
 some (.ret y25, h24)) h24) fun y26 h26 =>
 bc (gd false (some y21) (ob (fa 0 y26) fun y27 =>
 some (.ret y27, h26)) h26) fun y28 h28 =>
 bc (gd false (some y21) (ob (ld1 y28 h28) fun y29 =>
 some (.ret y29, h28)) h28) fun y30 h30 =>
 bc (gd false (some y21) (ob (bin Tryz.prog .geq 3 y22 y30) fun y31 =>
 some (.ret y31, h30)) h30) fun y32 h32 =>
 ob (ypk y21 (.bool true) y32) fun y33 =>
 yIf y33
 (ob x9 fun a34 =>
 ob (bin Tryz.prog .add 3 a34 (.int .i64 1)) fun y35 =>
 n x0 (some y35) h32)
 (ob x0 fun a36 =>
 ob (semNil a36) fun y37 =>
 ob (fa 1 y37) fun y38 =>
 ob (ixA 64 1 y38 a6) fun y39 =>
 ob (ld1 y39 h32) fun y40 =>
 ob (bin Tryz.prog .rem 3 y15 (.int .i64 64)) fun y41 =>
 ob (bin Tryz.prog .shl 372 (.int .u64 1) y41) fun y42 =>
 ob (bin Tryz.prog .or 372 y40 y42) fun y43 =>
 ob (semNil a36) fun y44 =>
 ob (fa 1 y44) fun y45 =>
 ob (ixA 64 1 y45 a6) fun y46 =>
 ob (st 1 y46 y43 h32) fun h47 =>
 ob x0 fun a48 =>
 ob (semNil a48) fun y49 =>
 ob (fa 65 y49) fun y50 =>
 ob (ld1 y50 h47) fun y51 =>
 ob (semBuild Tryz.prog 182 [] []) fun y52 =>
 ob (ixS 64 y51 y15) fun y53 =>
 ob (st 64 y53 y52 h47) fun h54 =>
 r (some y15) (some (.int .i64 0)) h54))
 (e0 h)
theorem q284_55_eq (C : YC) (lf : Nat) (n : K2) (r : K2) (e0 : K0) (KE : KX) : ∀ F h, ev284 C lf [1, 1, 0, 1, 0, 0] F h (fun F h => n (F 0) (F 9) h) (fun F h => r (F 2) (F 3) h) (bk 0 (fun F h => e0 h) KE) = q284_55 C lf n r e0 (F 0) (F 9) h := by
  intro F h; kernel_rfl
noncomputable def l284_3 (C : YC) (lf : Nat) (r : K2) (e0 : K0) (k : O × O → HW → Rs) (s : O × O) (h : HW) : Rs :=
 q284_55 C lf (fun x0 x9 h => k (x0, x9) h) r e0 s.1 s.2 h
noncomputable def q284_56 (C : YC) (lf : Nat) (n : K2) (x0 : O) (h : HW) : Rs :=
 n x0 (some (.int .i64 0)) h
theorem q284_56_eq (C : YC) (lf : Nat) (n : K2) (KR : KF) (KE : KX) : ∀ F h, ev284 C lf [1, 1, 0, 0] F h (fun F h => n (F 0) (F 9) h) KR KE = q284_56 C lf n (F 0) h := by
  intro F h; kernel_rfl
noncomputable def q284_57 (C : YC) (lf : Nat) (n : K0) (r : K2) (x0 : O) (h : HW) : Rs :=
 q284_56 C lf (fun x0 x9 h => lp (l284_3 C lf r n) lf (x0, x9) h) x0 h
theorem q284_57_eq (C : YC) (lf : Nat) (n : K0) (r : K2) (KE : KX) : ∀ F h, ev284 C lf [1, 1, 0] F h (fun F h => n h) (fun F h => r (F 2) (F 3) h) KE = q284_57 C lf n r (F 0) h := cSeq (a := sub fb284 [1, 1, 0, 0]) (b := sub fb284 [1, 1, 0, 1]) (by kernel_rfl) (B := (fun F h => lp (l284_3 C lf r n) lf ((F 0), (F 9)) h)) (cBlock (a := sub fb284 [1, 1, 0, 1, 0]) (by kernel_rfl) (cLoop (g := fun F => (F 0, F 9)) (body := l284_3 C lf r n) (by kernel_rfl) (fun k => (q284_55_eq C lf (fun x0 x9 h => k (x0, x9) h) r n KE)))) (q284_56_eq C lf (fun x0 x9 h => lp (l284_3 C lf r n) lf (x0, x9) h) (fun F h => r (F 2) (F 3) h) KE)
noncomputable def q284_58 (C : YC) (lf : Nat) (r : K2) (x0 : O) (h : HW) : Rs :=
 q284_57 C lf (fun h => q284_2 C lf r h) r x0 h
theorem q284_58_eq (C : YC) (lf : Nat) (r : K2) (KN : KF) (KE : KX) : ∀ F h, ev284 C lf [1, 1] F h KN (fun F h => r (F 2) (F 3) h) KE = q284_58 C lf r (F 0) h := cSeq (a := sub fb284 [1, 1, 0]) (b := sub fb284 [1, 1, 1]) (by kernel_rfl) (B := (fun F h => q284_2 C lf r h)) (q284_2_eq C lf r KN KE) (q284_57_eq C lf (fun h => q284_2 C lf r h) r KE)
noncomputable def q284_62 (C : YC) (lf : Nat) (n : K1) (r : K2) (x0 : O) (h : HW) : Rs :=
 ob x0 fun a59 =>
 bc (C (.fn 285) [a59] h) fun y60 h60 =>
 ob (unE .not y60) fun y61 =>
 yIf y61
 (r (some (.int .i64 0)) (some (.int .i64 14)) h60)
 (n x0 h60)
theorem q284_62_eq (C : YC) (lf : Nat) (n : K1) (r : K2) (KE : KX) : ∀ F h, ev284 C lf [1, 0] F h (fun F h => n (F 0) h) (fun F h => r (F 2) (F 3) h) KE = q284_62 C lf n r (F 0) h := by
  intro F h; kernel_rfl
noncomputable def q284_63 (C : YC) (lf : Nat) (r : K2) (x0 : O) (h : HW) : Rs :=
 q284_62 C lf (fun x0 h => q284_58 C lf r x0 h) r x0 h
theorem q284_63_eq (C : YC) (lf : Nat) (r : K2) (KN : KF) (KE : KX) : ∀ F h, ev284 C lf [1] F h KN (fun F h => r (F 2) (F 3) h) KE = q284_63 C lf r (F 0) h := cSeq (a := sub fb284 [1, 0]) (b := sub fb284 [1, 1]) (by kernel_rfl) (B := (fun F h => q284_58 C lf r (F 0) h)) (q284_58_eq C lf r KN KE) (q284_62_eq C lf (fun x0 h => q284_58 C lf r x0 h) r KE)
noncomputable def q284_64 (C : YC) (lf : Nat) (n : K1) (x0 : O) (h : HW) : Rs :=
 n x0 h
theorem q284_64_eq (C : YC) (lf : Nat) (n : K1) (KR : KF) (KE : KX) : ∀ F h, ev284 C lf [0] F h (fun F h => n (F 0) h) KR KE = q284_64 C lf n (F 0) h := by
  intro F h; kernel_rfl
noncomputable def q284_65 (C : YC) (lf : Nat) (r : K2) (x0 : O) (h : HW) : Rs :=
 q284_64 C lf (fun x0 h => q284_63 C lf r x0 h) x0 h
theorem q284_65_eq (C : YC) (lf : Nat) (r : K2) (KN : KF) (KE : KX) : ∀ F h, ev284 C lf [] F h KN (fun F h => r (F 2) (F 3) h) KE = q284_65 C lf r (F 0) h := cSeq (a := sub fb284 [0]) (b := sub fb284 [1]) (by kernel_rfl) (B := (fun F h => q284_63 C lf r (F 0) h)) (q284_63_eq C lf r KN KE) (q284_64_eq C lf (fun x0 h => q284_63 C lf r x0 h) (fun F h => r (F 2) (F 3) h) KE)
noncomputable def fs284 (C : YC) (lf : Nat) (a0 : SV) (h : HW) : Rs := q284_65 C lf ff284 (some a0) h
theorem fs284_eq (C : YC) (lf : Nat) (a0 : SV) (h : HW) : yFn Tryz.prog fx284 C lf [a0] h = fs284 C lf a0 h :=
  fnOf (K := (fun F h => ff284 (F 2) (F 3) h)) (b := fb284) (N := fn284) (by kernel_rfl) (by kernel_rfl) (by kernel_rfl) (((q284_65_eq C lf ff284 (fun F h => ff284 (F 2) (F 3) h) (fun _ _ _ => none)) (frOf [a0]) h).trans (by kernel_rfl))
noncomputable def ft284 (C : YC) (lf : Nat) (args : List SV) (h : HW) : Rs := match args with | [a0] => fs284 C lf a0 h | _ => none
theorem ft284_eq (C : YC) (lf : Nat) (args : List SV) (h : HW) (r : Out × HW) (e : ft284 C lf args h = some r) : Nat.ble args.length fx284.fn.ntmps = true ∧ yFn Tryz.prog fx284 C lf args h = some r := by
  rcases args with _ | ⟨a0, _ | ⟨_, _⟩⟩ <;> first | (cases e; done) | exact ⟨by kernel_rfl, (fs284_eq ..).trans e⟩
noncomputable def fy284 : YX Tryz.prog := ⟨fx284, ft284, ft284_eq⟩

/-! FN 285 (*tinsel/blocks.Store).made -/
noncomputable def fx285 : XF Tryz.prog := { f := 285, fn := Tryz.f285, ord := fun _ => .text, isFn := Tryz.func285, isBody := by kernel_rfl, isPlain := by kernel_rfl, isSmall := by kernel_rfl, isOK := by kernel_rfl }
noncomputable def fb285 : Code := Tryz.f285.body.getD .skip
noncomputable def fn285 : Nat := Tryz.f285.ntmps
noncomputable abbrev ev285 (C : YC) (lf : Nat) (p : List Nat) := evY Tryz.prog C fn285 fx285.ord lf (sub fb285 p)
noncomputable def ff285 (x2 : O) (h : HW) : Rs :=
 ob x2 fun a0 =>
 some (.ret a0, h)
noncomputable def q285_14 (C : YC) (lf : Nat) (r : K1) (x0 : O) (h : HW) : Rs :=
 ob x0 fun a1 =>
 ob (bin Tryz.prog .neq 277 a1 (.val (.pointer none))) fun y2 =>
 bc (gd true (some y2) (ob x0 fun a3 =>
 some (.ret a3, h)) h) fun y4 h4 =>
 bc (gd true (some y2) (ob (semNil y4) fun y5 =>
 some (.ret y5, h4)) h4) fun y6 h6 =>
 bc (gd true (some y2) (ob (fa 0 y6) fun y7 =>
 some (.ret y7, h6)) h6) fun y8 h8 =>
 bc (gd true (some y2) (ob (ld1 y8 h8) fun y9 =>
 some (.ret y9, h8)) h8) fun y10 h10 =>
 bc (gd true (some y2) (ob (bin Tryz.prog .gtr 3 y10 (.int .i64 0)) fun y11 =>
 some (.ret y11, h10)) h10) fun y12 h12 =>
 ob (ypk y2 y12 (.bool false)) fun y13 =>
 r (some y13) h12
theorem q285_14_eq (C : YC) (lf : Nat) (r : K1) (KN : KF) (KE : KX) : ∀ F h, ev285 C lf [] F h KN (fun F h => r (F 2) h) KE = q285_14 C lf r (F 0) h := by
  intro F h; kernel_rfl
noncomputable def fs285 (C : YC) (lf : Nat) (a0 : SV) (h : HW) : Rs := q285_14 C lf ff285 (some a0) h
theorem fs285_eq (C : YC) (lf : Nat) (a0 : SV) (h : HW) : yFn Tryz.prog fx285 C lf [a0] h = fs285 C lf a0 h :=
  fnOf (K := (fun F h => ff285 (F 2) h)) (b := fb285) (N := fn285) (by kernel_rfl) (by kernel_rfl) (by kernel_rfl) (((q285_14_eq C lf ff285 (fun F h => ff285 (F 2) h) (fun _ _ _ => none)) (frOf [a0]) h).trans (by kernel_rfl))
noncomputable def ft285 (C : YC) (lf : Nat) (args : List SV) (h : HW) : Rs := match args with | [a0] => fs285 C lf a0 h | _ => none
theorem ft285_eq (C : YC) (lf : Nat) (args : List SV) (h : HW) (r : Out × HW) (e : ft285 C lf args h = some r) : Nat.ble args.length fx285.fn.ntmps = true ∧ yFn Tryz.prog fx285 C lf args h = some r := by
  rcases args with _ | ⟨a0, _ | ⟨_, _⟩⟩ <;> first | (cases e; done) | exact ⟨by kernel_rfl, (fs285_eq ..).trans e⟩
noncomputable def fy285 : YX Tryz.prog := ⟨fx285, ft285, ft285_eq⟩

/-! FN 286 (*tinsel/blocks.Store).Is -/
noncomputable def fx286 : XF Tryz.prog := { f := 286, fn := Tryz.f286, ord := fun _ => .text, isFn := Tryz.func286, isBody := by kernel_rfl, isPlain := by kernel_rfl, isSmall := by kernel_rfl, isOK := by kernel_rfl }
noncomputable def fb286 : Code := Tryz.f286.body.getD .skip
noncomputable def fn286 : Nat := Tryz.f286.ntmps
noncomputable abbrev ev286 (C : YC) (lf : Nat) (p : List Nat) := evY Tryz.prog C fn286 fx286.ord lf (sub fb286 p)
noncomputable def ff286 (x4 : O) (h : HW) : Rs :=
 ob x4 fun a0 =>
 some (.ret a0, h)
noncomputable def q286_46 (C : YC) (lf : Nat) (r : K1) (x0 x1 : O) (h : HW) : Rs :=
 ob x0 fun a1 =>
 bc (C (.fn 285) [a1] h) fun y2 h2 =>
 bc (gd true (some y2) (ob x1 fun a3 =>
 some (.ret a3, h2)) h2) fun y4 h4 =>
 bc (gd true (some y2) (ob (bin Tryz.prog .geq 3 y4 (.int .i64 0)) fun y5 =>
 some (.ret y5, h4)) h4) fun y6 h6 =>
 ob (ypk y2 y6 (.bool false)) fun y7 =>
 bc (gd true (some y7) (ob x1 fun a8 =>
 some (.ret a8, h6)) h6) fun y9 h9 =>
 bc (gd true (some y7) (ob x0 fun a10 =>
 some (.ret a10, h9)) h9) fun y11 h11 =>
 bc (gd true (some y7) (ob (semNil y11) fun y12 =>
 some (.ret y12, h11)) h11) fun y13 h13 =>
 bc (gd true (some y7) (ob (fa 0 y13) fun y14 =>
 some (.ret y14, h13)) h13) fun y15 h15 =>
 bc (gd true (some y7) (ob (ld1 y15 h15) fun y16 =>
 some (.ret y16, h15)) h15) fun y17 h17 =>
 bc (gd true (some y7) (ob (bin Tryz.prog .lss 3 y9 y17) fun y18 =>
 some (.ret y18, h17)) h17) fun y19 h19 =>
 ob (ypk y7 y19 (.bool false)) fun y20 =>
 bc (gd true (some y20) (ob x0 fun a21 =>
 some (.ret a21, h19)) h19) fun y22 h22 =>
 bc (gd true (some y20) (ob x1 fun a23 =>
 some (.ret a23, h22)) h22) fun y24 h24 =>
 bc (gd true (some y20) (ob (bin Tryz.prog .quo 3 y24 (.int .i64 64)) fun y25 =>
 some (.ret y25, h24)) h24) fun y26 h26 =>
 bc (gd true (some y20) (ob (semNil y22) fun y27 =>
 some (.ret y27, h26)) h26) fun y28 h28 =>
 bc (gd true (some y20) (ob (fa 1 y28) fun y29 =>
 some (.ret y29, h28)) h28) fun y30 h30 =>
 bc (gd true (some y20) (ob (ixA 64 1 y30 y26) fun y31 =>
 some (.ret y31, h30)) h30) fun y32 h32 =>
 bc (gd true (some y20) (ob (ld1 y32 h32) fun y33 =>
 some (.ret y33, h32)) h32) fun y34 h34 =>
 bc (gd true (some y20) (ob x1 fun a35 =>
 some (.ret a35, h34)) h34) fun y36 h36 =>
 bc (gd true (some y20) (ob (bin Tryz.prog .rem 3 y36 (.int .i64 64)) fun y37 =>
 some (.ret y37, h36)) h36) fun y38 h38 =>
 bc (gd true (some y20) (ob (bin Tryz.prog .shr 372 y34 y38) fun y39 =>
 some (.ret y39, h38)) h38) fun y40 h40 =>
 bc (gd true (some y20) (ob (bin Tryz.prog .and 372 y40 (.int .u64 1)) fun y41 =>
 some (.ret y41, h40)) h40) fun y42 h42 =>
 bc (gd true (some y20) (ob (bin Tryz.prog .eql 372 y42 (.int .u64 1)) fun y43 =>
 some (.ret y43, h42)) h42) fun y44 h44 =>
 ob (ypk y20 y44 (.bool false)) fun y45 =>
 r (some y45) h44
theorem q286_46_eq (C : YC) (lf : Nat) (r : K1) (KN : KF) (KE : KX) : ∀ F h, ev286 C lf [] F h KN (fun F h => r (F 4) h) KE = q286_46 C lf r (F 0) (F 1) h := by
  intro F h; kernel_rfl
noncomputable def fs286 (C : YC) (lf : Nat) (a0 a1 : SV) (h : HW) : Rs := q286_46 C lf ff286 (some a0) (some a1) h
theorem fs286_eq (C : YC) (lf : Nat) (a0 a1 : SV) (h : HW) : yFn Tryz.prog fx286 C lf [a0, a1] h = fs286 C lf a0 a1 h :=
  fnOf (K := (fun F h => ff286 (F 4) h)) (b := fb286) (N := fn286) (by kernel_rfl) (by kernel_rfl) (by kernel_rfl) (((q286_46_eq C lf ff286 (fun F h => ff286 (F 4) h) (fun _ _ _ => none)) (frOf [a0, a1]) h).trans (by kernel_rfl))
noncomputable def ft286 (C : YC) (lf : Nat) (args : List SV) (h : HW) : Rs := match args with | [a0, a1] => fs286 C lf a0 a1 h | _ => none
theorem ft286_eq (C : YC) (lf : Nat) (args : List SV) (h : HW) (r : Out × HW) (e : ft286 C lf args h = some r) : Nat.ble args.length fx286.fn.ntmps = true ∧ yFn Tryz.prog fx286 C lf args h = some r := by
  rcases args with _ | ⟨a0, _ | ⟨a1, _ | ⟨_, _⟩⟩⟩ <;> first | (cases e; done) | exact ⟨by kernel_rfl, (fs286_eq ..).trans e⟩
noncomputable def fy286 : YX Tryz.prog := ⟨fx286, ft286, ft286_eq⟩

/-! FN 315 tinsel/dir.good -/
noncomputable def fx315 : XF Tryz.prog := { f := 315, fn := Tryz.f315, ord := fun _ => .text, isFn := Tryz.func315, isBody := by kernel_rfl, isPlain := by kernel_rfl, isSmall := by kernel_rfl, isOK := by kernel_rfl }
noncomputable def fb315 : Code := Tryz.f315.body.getD .skip
noncomputable def fn315 : Nat := Tryz.f315.ntmps
noncomputable abbrev ev315 (C : YC) (lf : Nat) (p : List Nat) := evY Tryz.prog C fn315 fx315.ord lf (sub fb315 p)
noncomputable def ff315 (x2 : O) (h : HW) : Rs :=
 ob x2 fun a0 =>
 some (.ret a0, h)
noncomputable def q315_11 (C : YC) (lf : Nat) (r : K1) (x0 : O) (h : HW) : Rs :=
 ob x0 fun a1 =>
 ob (bin Tryz.prog .eql 9 a1 (.str (bs []))) fun y2 =>
 bc (gd false (some y2) (ob x0 fun a3 =>
 some (.ret a3, h)) h) fun y4 h4 =>
 bc (gd false (some y2) (bc (C (.fn 343) [y4, (.str (bs [47, 0]))] h4) fun y5 h5 =>
 some (.ret y5, h5)) h4) fun y6 h6 =>
 ob (ypk y2 (.bool true) y6) fun y7 =>
 yIf y7
 (r (some (.int .i64 22)) h6)
 (ob x0 fun a8 =>
 ob (lenE Tryz.prog 9 a8) fun y9 =>
 ob (bin Tryz.prog .gtr 3 y9 (.int .i64 27)) fun y10 =>
 yIf y10
 (r (some (.int .i64 36)) h6)
 (r (some (.int .i64 0)) h6))
theorem q315_11_eq (C : YC) (lf : Nat) (r : K1) (KN : KF) (KE : KX) : ∀ F h, ev315 C lf [] F h KN (fun F h => r (F 2) h) KE = q315_11 C lf r (F 0) h := by
  intro F h; kernel_rfl
noncomputable def fs315 (C : YC) (lf : Nat) (a0 : SV) (h : HW) : Rs := q315_11 C lf ff315 (some a0) h
theorem fs315_eq (C : YC) (lf : Nat) (a0 : SV) (h : HW) : yFn Tryz.prog fx315 C lf [a0] h = fs315 C lf a0 h :=
  fnOf (K := (fun F h => ff315 (F 2) h)) (b := fb315) (N := fn315) (by kernel_rfl) (by kernel_rfl) (by kernel_rfl) (((q315_11_eq C lf ff315 (fun F h => ff315 (F 2) h) (fun _ _ _ => none)) (frOf [a0]) h).trans (by kernel_rfl))
noncomputable def ft315 (C : YC) (lf : Nat) (args : List SV) (h : HW) : Rs := match args with | [a0] => fs315 C lf a0 h | _ => none
theorem ft315_eq (C : YC) (lf : Nat) (args : List SV) (h : HW) (r : Out × HW) (e : ft315 C lf args h = some r) : Nat.ble args.length fx315.fn.ntmps = true ∧ yFn Tryz.prog fx315 C lf args h = some r := by
  rcases args with _ | ⟨a0, _ | ⟨_, _⟩⟩ <;> first | (cases e; done) | exact ⟨by kernel_rfl, (fs315_eq ..).trans e⟩
noncomputable def fy315 : YX Tryz.prog := ⟨fx315, ft315, ft315_eq⟩

/-! FN 316 (tinsel/dir.slot).name -/
noncomputable def fx316 : XF Tryz.prog := { f := 316, fn := Tryz.f316, ord := fun _ => .text, isFn := Tryz.func316, isBody := by kernel_rfl, isPlain := by kernel_rfl, isSmall := by kernel_rfl, isOK := by kernel_rfl }
noncomputable def fb316 : Code := Tryz.f316.body.getD .skip
noncomputable def fn316 : Nat := Tryz.f316.ntmps
noncomputable abbrev ev316 (C : YC) (lf : Nat) (p : List Nat) := evY Tryz.prog C fn316 fx316.ord lf (sub fb316 p)
noncomputable def ff316 (x2 : O) (h : HW) : Rs :=
 ob x2 fun a0 =>
 some (.ret a0, h)
noncomputable def q316_9 (C : YC) (lf : Nat) (r : K1) (x0 : O) (h : HW) : Rs :=
 ob x0 fun a1 =>
 b2 (ybx 292 a1 h) fun y2 h2 =>
 ob (semSlice Tryz.prog 292 y2 (some (.int .i64 4)) none) fun y3 =>
 bc (C (.fn 344) [y3, (.int .u8 0)] h2) fun y4 h4 =>
 ob (bin Tryz.prog .geq 3 y4 (.int .i64 0)) fun y5 =>
 yIf y5
 (ob (semSlice Tryz.prog 31 y3 none (some y4)) fun y6 =>
 b2 (ycv Tryz.prog 31 9 y6 h4) fun y7 h7 =>
 r (some y7) h7)
 (b2 (ycv Tryz.prog 31 9 y3 h4) fun y8 h8 =>
 r (some y8) h8)
theorem q316_9_eq (C : YC) (lf : Nat) (r : K1) (KN : KF) (KE : KX) : ∀ F h, ev316 C lf [] F h KN (fun F h => r (F 2) h) KE = q316_9 C lf r (F 0) h := by
  intro F h; kernel_rfl
noncomputable def fs316 (C : YC) (lf : Nat) (a0 : SV) (h : HW) : Rs := q316_9 C lf ff316 (some a0) h
theorem fs316_eq (C : YC) (lf : Nat) (a0 : SV) (h : HW) : yFn Tryz.prog fx316 C lf [a0] h = fs316 C lf a0 h :=
  fnOf (K := (fun F h => ff316 (F 2) h)) (b := fb316) (N := fn316) (by kernel_rfl) (by kernel_rfl) (by kernel_rfl) (((q316_9_eq C lf ff316 (fun F h => ff316 (F 2) h) (fun _ _ _ => none)) (frOf [a0]) h).trans (by kernel_rfl))
noncomputable def ft316 (C : YC) (lf : Nat) (args : List SV) (h : HW) : Rs := match args with | [a0] => fs316 C lf a0 h | _ => none
theorem ft316_eq (C : YC) (lf : Nat) (args : List SV) (h : HW) (r : Out × HW) (e : ft316 C lf args h = some r) : Nat.ble args.length fx316.fn.ntmps = true ∧ yFn Tryz.prog fx316 C lf args h = some r := by
  rcases args with _ | ⟨a0, _ | ⟨_, _⟩⟩ <;> first | (cases e; done) | exact ⟨by kernel_rfl, (fs316_eq ..).trans e⟩
noncomputable def fy316 : YX Tryz.prog := ⟨fx316, ft316, ft316_eq⟩

/-! FN 321 (*tinsel/inode.node).owned$1 -/
noncomputable def fx321 : XF Tryz.prog := { f := 321, fn := Tryz.f321, ord := fun _ => .text, isFn := Tryz.func321, isBody := by kernel_rfl, isPlain := by kernel_rfl, isSmall := by kernel_rfl, isOK := by kernel_rfl }
noncomputable def fb321 : Code := Tryz.f321.body.getD .skip
noncomputable def fn321 : Nat := Tryz.f321.ntmps
noncomputable abbrev ev321 (C : YC) (lf : Nat) (p : List Nat) := evY Tryz.prog C fn321 fx321.ord lf (sub fb321 p)
noncomputable def ff321 (h : HW) : Rs :=
 some (.ret (.tup []), h)
noncomputable def q321_20 (C : YC) (lf : Nat) (n : K4) (e0 : K0) (x1 x5 x6 x7 : O) (h : HW) : Rs :=
 ob x7 fun a1 =>
 ob x6 fun a2 =>
 ob (bin Tryz.prog .lss 3 a1 a2) fun y3 =>
 yIf y3
 (ob x5 fun a4 =>
 ob x7 fun a5 =>
 ob (ixS 1 a4 a5) fun y6 =>
 ob (ld1 y6 h) fun y7 =>
 ob (bin Tryz.prog .gtr 3 y7 (.int .i64 0)) fun y8 =>
 yIf y8
 (ob x1 fun a9 =>
 ob (ld1 a9 h) fun y10 =>
 ob (bin Tryz.prog .sub 3 y7 (.int .i64 1)) fun y11 =>
 b2 (ybs Tryz.prog 44 1 [0] [y11] h) fun y12 h12 =>
 b2 (ybl Tryz.prog .append #[44, 44] [y10, y12] h12) fun y13 h13 =>
 ob x1 fun a14 =>
 ob (st 1 a14 y13 h13) fun h15 =>
 ob x7 fun a16 =>
 ob (bin Tryz.prog .add 3 a16 (.int .i64 1)) fun y17 =>
 n x1 x5 x6 (some y17) h15)
 (ob x7 fun a18 =>
 ob (bin Tryz.prog .add 3 a18 (.int .i64 1)) fun y19 =>
 n x1 x5 x6 (some y19) h))
 (e0 h)
theorem q321_20_eq (C : YC) (lf : Nat) (n : K4) (e0 : K0) (KR : KF) (KE : KX) : ∀ F h, ev321 C lf [1, 0, 0] F h (fun F h => n (F 1) (F 5) (F 6) (F 7) h) KR (bk 0 (fun F h => e0 h) KE) = q321_20 C lf n e0 (F 1) (F 5) (F 6) (F 7) h := by
  intro F h; kernel_rfl
noncomputable def l321_0 (C : YC) (lf : Nat) (e0 : K0) (k : O × O × O × O → HW → Rs) (s : O × O × O × O) (h : HW) : Rs :=
 q321_20 C lf (fun x1 x5 x6 x7 h => k (x1, x5, x6, x7) h) e0 s.1 s.2.1 s.2.2.1 s.2.2.2 h
noncomputable def q321_23 (C : YC) (lf : Nat) (n : K4) (x0 x1 : O) (h : HW) : Rs :=
 ob x0 fun a21 =>
 ob (lenE Tryz.prog 44 a21) fun y22 =>
 n x1 (some a21) (some y22) (some (.int .i64 0)) h
theorem q321_23_eq (C : YC) (lf : Nat) (n : K4) (KR : KF) (KE : KX) : ∀ F h, ev321 C lf [0] F h (fun F h => n (F 1) (F 5) (F 6) (F 7) h) KR KE = q321_23 C lf n (F 0) (F 1) h := by
  intro F h; kernel_rfl
noncomputable def q321_24 (C : YC) (lf : Nat) (n : K0) (x0 x1 : O) (h : HW) : Rs :=
 q321_23 C lf (fun x1 x5 x6 x7 h => lp (l321_0 C lf n) lf (x1, x5, x6, x7) h) x0 x1 h
theorem q321_24_eq (C : YC) (lf : Nat) (n : K0) (KR : KF) (KE : KX) : ∀ F h, ev321 C lf [] F h (fun F h => n h) KR KE = q321_24 C lf n (F 0) (F 1) h := cSeq (a := sub fb321 [0]) (b := sub fb321 [1]) (by kernel_rfl) (B := (fun F h => lp (l321_0 C lf n) lf ((F 1), (F 5), (F 6), (F 7)) h)) (cBlock (a := sub fb321 [1, 0]) (by kernel_rfl) (cLoop (g := fun F => (F 1, F 5, F 6, F 7)) (body := l321_0 C lf n) (by kernel_rfl) (fun k => (q321_20_eq C lf (fun x1 x5 x6 x7 h => k (x1, x5, x6, x7) h) n KR KE)))) (q321_23_eq C lf (fun x1 x5 x6 x7 h => lp (l321_0 C lf n) lf (x1, x5, x6, x7) h) KR KE)
noncomputable def fs321 (C : YC) (lf : Nat) (a0 a1 : SV) (h : HW) : Rs := q321_24 C lf ff321 (some a0) (some a1) h
theorem fs321_eq (C : YC) (lf : Nat) (a0 a1 : SV) (h : HW) : yFn Tryz.prog fx321 C lf [a0, a1] h = fs321 C lf a0 a1 h :=
  fnOf (K := (fun F h => ff321 h)) (b := fb321) (N := fn321) (by kernel_rfl) (by kernel_rfl) (by kernel_rfl) (((q321_24_eq C lf ff321 (fun F h => ff321 h) (fun _ _ _ => none)) (frOf [a0, a1]) h).trans (by kernel_rfl))
noncomputable def ft321 (C : YC) (lf : Nat) (args : List SV) (h : HW) : Rs := match args with | [a0, a1] => fs321 C lf a0 a1 h | _ => none
theorem ft321_eq (C : YC) (lf : Nat) (args : List SV) (h : HW) (r : Out × HW) (e : ft321 C lf args h = some r) : Nat.ble args.length fx321.fn.ntmps = true ∧ yFn Tryz.prog fx321 C lf args h = some r := by
  rcases args with _ | ⟨a0, _ | ⟨a1, _ | ⟨_, _⟩⟩⟩ <;> first | (cases e; done) | exact ⟨by kernel_rfl, (fs321_eq ..).trans e⟩
noncomputable def fy321 : YX Tryz.prog := ⟨fx321, ft321, ft321_eq⟩

/-! FN 330 (*tinsel/blocks.Store).Read -/
noncomputable def fx330 : XF Tryz.prog := { f := 330, fn := Tryz.f330, ord := fun _ => .text, isFn := Tryz.func330, isBody := by kernel_rfl, isPlain := by kernel_rfl, isSmall := by kernel_rfl, isOK := by kernel_rfl }
noncomputable def fb330 : Code := Tryz.f330.body.getD .skip
noncomputable def fn330 : Nat := Tryz.f330.ntmps
noncomputable abbrev ev330 (C : YC) (lf : Nat) (p : List Nat) := evY Tryz.prog C fn330 fx330.ord lf (sub fb330 p)
noncomputable def ff330 (x4 x5 : O) (h : HW) : Rs :=
 ob x4 fun a0 =>
 ob x5 fun a1 =>
 some (.ret (.tup [a0, a1]), h)
noncomputable def q330_19 (C : YC) (lf : Nat) (r : K2) (x0 x1 : O) (h : HW) : Rs :=
 ob x0 fun a2 =>
 bc (C (.fn 285) [a2] h) fun y3 h3 =>
 ob (unE .not y3) fun y4 =>
 yIf y4
 (r (some (.val (.slice none 0 0))) (some (.int .i64 14)) h3)
 (ob x0 fun a5 =>
 ob x1 fun a6 =>
 bc (C (.fn 286) [a5, a6] h3) fun y7 h7 =>
 ob (unE .not y7) fun y8 =>
 yIf y8
 (r (some (.val (.slice none 0 0))) (some (.int .i64 22)) h7)
 (ob x0 fun a9 =>
 ob (semNil a9) fun y10 =>
 ob (fa 65 y10) fun y11 =>
 ob (ld1 y11 h7) fun y12 =>
 ob x1 fun a13 =>
 ob (ixS 64 y12 a13) fun y14 =>
 ob (ldN 64 y14 h7) fun y15 =>
 b2 (yAl Tryz.prog 182 h7) fun y16 h16 =>
 ob (st 64 y16 y15 h16) fun h17 =>
 ob (semSlice Tryz.prog 182 y16 none none) fun y18 =>
 r (some y18) (some (.int .i64 0)) h17))
theorem q330_19_eq (C : YC) (lf : Nat) (r : K2) (KN : KF) (KE : KX) : ∀ F h, ev330 C lf [] F h KN (fun F h => r (F 4) (F 5) h) KE = q330_19 C lf r (F 0) (F 1) h := by
  intro F h; kernel_rfl
noncomputable def fs330 (C : YC) (lf : Nat) (a0 a1 : SV) (h : HW) : Rs := q330_19 C lf ff330 (some a0) (some a1) h
theorem fs330_eq (C : YC) (lf : Nat) (a0 a1 : SV) (h : HW) : yFn Tryz.prog fx330 C lf [a0, a1] h = fs330 C lf a0 a1 h :=
  fnOf (K := (fun F h => ff330 (F 4) (F 5) h)) (b := fb330) (N := fn330) (by kernel_rfl) (by kernel_rfl) (by kernel_rfl) (((q330_19_eq C lf ff330 (fun F h => ff330 (F 4) (F 5) h) (fun _ _ _ => none)) (frOf [a0, a1]) h).trans (by kernel_rfl))
noncomputable def ft330 (C : YC) (lf : Nat) (args : List SV) (h : HW) : Rs := match args with | [a0, a1] => fs330 C lf a0 a1 h | _ => none
theorem ft330_eq (C : YC) (lf : Nat) (args : List SV) (h : HW) (r : Out × HW) (e : ft330 C lf args h = some r) : Nat.ble args.length fx330.fn.ntmps = true ∧ yFn Tryz.prog fx330 C lf args h = some r := by
  rcases args with _ | ⟨a0, _ | ⟨a1, _ | ⟨_, _⟩⟩⟩ <;> first | (cases e; done) | exact ⟨by kernel_rfl, (fs330_eq ..).trans e⟩
noncomputable def fy330 : YX Tryz.prog := ⟨fx330, ft330, ft330_eq⟩

/-! NAT 331 internal/bytealg.IndexByteString -/
noncomputable def gx331 : XN Tryz.prog := { f := 331, fn := Tryz.f331, k := .indexByte, isFn := Tryz.func331, isPlain := by kernel_rfl, noBody := by kernel_rfl, noNext := by kernel_rfl, isK := by kernel_rfl }

/-! FN 332 math/bits.TrailingZeros64 -/
noncomputable def fx332 : XF Tryz.prog := { f := 332, fn := Tryz.f332, ord := fun _ => .text, isFn := Tryz.func332, isBody := by kernel_rfl, isPlain := by kernel_rfl, isSmall := by kernel_rfl, isOK := by kernel_rfl }
noncomputable def fb332 : Code := Tryz.f332.body.getD .skip
noncomputable def fn332 : Nat := Tryz.f332.ntmps
noncomputable abbrev ev332 (C : YC) (lf : Nat) (p : List Nat) := evY Tryz.prog C fn332 fx332.ord lf (sub fb332 p)
noncomputable def ff332 (x2 : O) (h : HW) : Rs :=
 ob x2 fun a0 =>
 some (.ret a0, h)
noncomputable def q332_13 (C : YC) (lf : Nat) (r : K1) (x0 : O) (h : HW) : Rs :=
 ob x0 fun a1 =>
 ob (bin Tryz.prog .eql 372 a1 (.int .u64 0)) fun y2 =>
 yIf y2
 (r (some (.int .i64 64)) h)
 (ob x0 fun a3 =>
 ob x0 fun a4 =>
 ob (unE .neg a4) fun y5 =>
 ob (bin Tryz.prog .and 372 a3 y5) fun y6 =>
 ob (bin Tryz.prog .mul 372 y6 (.int .u64 285870213051353865)) fun y7 =>
 ob (bin Tryz.prog .shr 372 y7 (.int .u64 58)) fun y8 =>
 gl h.ng 1 fun a9 =>
 ob (ixA 64 1 a9 y8) fun y10 =>
 ob (ld1 y10 h) fun y11 =>
 ob (cvI .i64 y11) fun y12 =>
 r (some y12) h)
theorem q332_13_eq (C : YC) (lf : Nat) (r : K1) (KN : KF) (KE : KX) : ∀ F h, ev332 C lf [] F h KN (fun F h => r (F 2) h) KE = q332_13 C lf r (F 0) h := by
  intro F h; kernel_rfl
noncomputable def fs332 (C : YC) (lf : Nat) (a0 : SV) (h : HW) : Rs := q332_13 C lf ff332 (some a0) h
theorem fs332_eq (C : YC) (lf : Nat) (a0 : SV) (h : HW) : yFn Tryz.prog fx332 C lf [a0] h = fs332 C lf a0 h :=
  fnOf (K := (fun F h => ff332 (F 2) h)) (b := fb332) (N := fn332) (by kernel_rfl) (by kernel_rfl) (by kernel_rfl) (((q332_13_eq C lf ff332 (fun F h => ff332 (F 2) h) (fun _ _ _ => none)) (frOf [a0]) h).trans (by kernel_rfl))
noncomputable def ft332 (C : YC) (lf : Nat) (args : List SV) (h : HW) : Rs := match args with | [a0] => fs332 C lf a0 h | _ => none
theorem ft332_eq (C : YC) (lf : Nat) (args : List SV) (h : HW) (r : Out × HW) (e : ft332 C lf args h = some r) : Nat.ble args.length fx332.fn.ntmps = true ∧ yFn Tryz.prog fx332 C lf args h = some r := by
  rcases args with _ | ⟨a0, _ | ⟨_, _⟩⟩ <;> first | (cases e; done) | exact ⟨by kernel_rfl, (fs332_eq ..).trans e⟩
noncomputable def fy332 : YX Tryz.prog := ⟨fx332, ft332, ft332_eq⟩

/-! FN 343 strings.ContainsAny -/
noncomputable def fx343 : XF Tryz.prog := { f := 343, fn := Tryz.f343, ord := fun _ => .text, isFn := Tryz.func343, isBody := by kernel_rfl, isPlain := by kernel_rfl, isSmall := by kernel_rfl, isOK := by kernel_rfl }
noncomputable def fb343 : Code := Tryz.f343.body.getD .skip
noncomputable def fn343 : Nat := Tryz.f343.ntmps
noncomputable abbrev ev343 (C : YC) (lf : Nat) (p : List Nat) := evY Tryz.prog C fn343 fx343.ord lf (sub fb343 p)
noncomputable def ff343 (x4 : O) (h : HW) : Rs :=
 ob x4 fun a0 =>
 some (.ret a0, h)
noncomputable def q343_5 (C : YC) (lf : Nat) (r : K1) (x0 x1 : O) (h : HW) : Rs :=
 ob x0 fun a1 =>
 ob x1 fun a2 =>
 bc (C (.fn 358) [a1, a2] h) fun y3 h3 =>
 ob (bin Tryz.prog .geq 3 y3 (.int .i64 0)) fun y4 =>
 r (some y4) h3
theorem q343_5_eq (C : YC) (lf : Nat) (r : K1) (KN : KF) (KE : KX) : ∀ F h, ev343 C lf [] F h KN (fun F h => r (F 4) h) KE = q343_5 C lf r (F 0) (F 1) h := by
  intro F h; kernel_rfl
noncomputable def fs343 (C : YC) (lf : Nat) (a0 a1 : SV) (h : HW) : Rs := q343_5 C lf ff343 (some a0) (some a1) h
theorem fs343_eq (C : YC) (lf : Nat) (a0 a1 : SV) (h : HW) : yFn Tryz.prog fx343 C lf [a0, a1] h = fs343 C lf a0 a1 h :=
  fnOf (K := (fun F h => ff343 (F 4) h)) (b := fb343) (N := fn343) (by kernel_rfl) (by kernel_rfl) (by kernel_rfl) (((q343_5_eq C lf ff343 (fun F h => ff343 (F 4) h) (fun _ _ _ => none)) (frOf [a0, a1]) h).trans (by kernel_rfl))
noncomputable def ft343 (C : YC) (lf : Nat) (args : List SV) (h : HW) : Rs := match args with | [a0, a1] => fs343 C lf a0 a1 h | _ => none
theorem ft343_eq (C : YC) (lf : Nat) (args : List SV) (h : HW) (r : Out × HW) (e : ft343 C lf args h = some r) : Nat.ble args.length fx343.fn.ntmps = true ∧ yFn Tryz.prog fx343 C lf args h = some r := by
  rcases args with _ | ⟨a0, _ | ⟨a1, _ | ⟨_, _⟩⟩⟩ <;> first | (cases e; done) | exact ⟨by kernel_rfl, (fs343_eq ..).trans e⟩
noncomputable def fy343 : YX Tryz.prog := ⟨fx343, ft343, ft343_eq⟩

/-! FN 344 bytes.IndexByte -/
noncomputable def fx344 : XF Tryz.prog := { f := 344, fn := Tryz.f344, ord := fun _ => .text, isFn := Tryz.func344, isBody := by kernel_rfl, isPlain := by kernel_rfl, isSmall := by kernel_rfl, isOK := by kernel_rfl }
noncomputable def fb344 : Code := Tryz.f344.body.getD .skip
noncomputable def fn344 : Nat := Tryz.f344.ntmps
noncomputable abbrev ev344 (C : YC) (lf : Nat) (p : List Nat) := evY Tryz.prog C fn344 fx344.ord lf (sub fb344 p)
noncomputable def ff344 (x4 : O) (h : HW) : Rs :=
 ob x4 fun a0 =>
 some (.ret a0, h)
noncomputable def q344_4 (C : YC) (lf : Nat) (r : K1) (x0 x1 : O) (h : HW) : Rs :=
 ob x0 fun a1 =>
 ob x1 fun a2 =>
 bc (C (.fn 359) [a1, a2] h) fun y3 h3 =>
 r (some y3) h3
theorem q344_4_eq (C : YC) (lf : Nat) (r : K1) (KN : KF) (KE : KX) : ∀ F h, ev344 C lf [] F h KN (fun F h => r (F 4) h) KE = q344_4 C lf r (F 0) (F 1) h := by
  intro F h; kernel_rfl
noncomputable def fs344 (C : YC) (lf : Nat) (a0 a1 : SV) (h : HW) : Rs := q344_4 C lf ff344 (some a0) (some a1) h
theorem fs344_eq (C : YC) (lf : Nat) (a0 a1 : SV) (h : HW) : yFn Tryz.prog fx344 C lf [a0, a1] h = fs344 C lf a0 a1 h :=
  fnOf (K := (fun F h => ff344 (F 4) h)) (b := fb344) (N := fn344) (by kernel_rfl) (by kernel_rfl) (by kernel_rfl) (((q344_4_eq C lf ff344 (fun F h => ff344 (F 4) h) (fun _ _ _ => none)) (frOf [a0, a1]) h).trans (by kernel_rfl))
noncomputable def ft344 (C : YC) (lf : Nat) (args : List SV) (h : HW) : Rs := match args with | [a0, a1] => fs344 C lf a0 a1 h | _ => none
theorem ft344_eq (C : YC) (lf : Nat) (args : List SV) (h : HW) (r : Out × HW) (e : ft344 C lf args h = some r) : Nat.ble args.length fx344.fn.ntmps = true ∧ yFn Tryz.prog fx344 C lf args h = some r := by
  rcases args with _ | ⟨a0, _ | ⟨a1, _ | ⟨_, _⟩⟩⟩ <;> first | (cases e; done) | exact ⟨by kernel_rfl, (fs344_eq ..).trans e⟩
noncomputable def fy344 : YX Tryz.prog := ⟨fx344, ft344, ft344_eq⟩

/-! FN 358 strings.IndexAny -/
noncomputable def fx358 : XF Tryz.prog := { f := 358, fn := Tryz.f358, ord := fun _ => .text, isFn := Tryz.func358, isBody := by kernel_rfl, isPlain := by kernel_rfl, isSmall := by kernel_rfl, isOK := by kernel_rfl }
noncomputable def fb358 : Code := Tryz.f358.body.getD .skip
noncomputable def fn358 : Nat := Tryz.f358.ntmps
noncomputable abbrev ev358 (C : YC) (lf : Nat) (p : List Nat) := evY Tryz.prog C fn358 fx358.ord lf (sub fb358 p)
noncomputable def ff358 (x4 : O) (h : HW) : Rs :=
 ob x4 fun a0 =>
 some (.ret a0, h)
noncomputable def q358_1 (C : YC) (lf : Nat) (r : K1) (h : HW) : Rs :=
 r (some (.int .i64 (-1))) h
theorem q358_1_eq (C : YC) (lf : Nat) (r : K1) (KN : KF) (KE : KX) : ∀ F h, ev358 C lf [1, 1, 1, 1, 1] F h KN (fun F h => r (F 4) h) KE = q358_1 C lf r h := by
  intro F h; kernel_rfl
noncomputable def q358_11 (C : YC) (lf : Nat) (n : K2) (r : K1) (e2 : K0) (x1 x45 : O) (h : HW) : Rs :=
 ob x45 fun a3 =>
 b2 (ynx a3 h) fun y4 h4 =>
 ob (ext 0 y4) fun y5 =>
 yIf y5
 (ob (ext 1 y4) fun y6 =>
 ob (ext 2 y4) fun y7 =>
 ob x1 fun a8 =>
 bc (C (.fn 363) [a8, y7] h4) fun y9 h9 =>
 ob (bin Tryz.prog .geq 3 y9 (.int .i64 0)) fun y10 =>
 yIf y10
 (r (some y6) h9)
 (n x1 x45 h9))
 (e2 h4)
theorem q358_11_eq (C : YC) (lf : Nat) (n : K2) (r : K1) (e2 : K0) (KE : KX) : ∀ F h, ev358 C lf [1, 1, 1, 1, 0, 1, 0, 0] F h (fun F h => n (F 1) (F 45) h) (fun F h => r (F 4) h) (bk 2 (fun F h => e2 h) KE) = q358_11 C lf n r e2 (F 1) (F 45) h := by
  intro F h; kernel_rfl
noncomputable def l358_2 (C : YC) (lf : Nat) (r : K1) (e2 : K0) (k : O × O → HW → Rs) (s : O × O) (h : HW) : Rs :=
 q358_11 C lf (fun x1 x45 h => k (x1, x45) h) r e2 s.1 s.2 h
noncomputable def q358_14 (C : YC) (lf : Nat) (n : K2) (x0 x1 : O) (h : HW) : Rs :=
 ob x0 fun a12 =>
 b2 (yrg Tryz.prog 9 a12 h) fun y13 h13 =>
 n x1 (some y13) h13
theorem q358_14_eq (C : YC) (lf : Nat) (n : K2) (KR : KF) (KE : KX) : ∀ F h, ev358 C lf [1, 1, 1, 1, 0, 0] F h (fun F h => n (F 1) (F 45) h) KR KE = q358_14 C lf n (F 0) (F 1) h := by
  intro F h; kernel_rfl
noncomputable def q358_15 (C : YC) (lf : Nat) (n : K0) (r : K1) (x0 x1 : O) (h : HW) : Rs :=
 q358_14 C lf (fun x1 x45 h => lp (l358_2 C lf r n) lf (x1, x45) h) x0 x1 h
theorem q358_15_eq (C : YC) (lf : Nat) (n : K0) (r : K1) (KE : KX) : ∀ F h, ev358 C lf [1, 1, 1, 1, 0] F h (fun F h => n h) (fun F h => r (F 4) h) KE = q358_15 C lf n r (F 0) (F 1) h := cSeq (a := sub fb358 [1, 1, 1, 1, 0, 0]) (b := sub fb358 [1, 1, 1, 1, 0, 1]) (by kernel_rfl) (B := (fun F h => lp (l358_2 C lf r n) lf ((F 1), (F 45)) h)) (cBlock (a := sub fb358 [1, 1, 1, 1, 0, 1, 0]) (by kernel_rfl) (cLoop (g := fun F => (F 1, F 45)) (body := l358_2 C lf r n) (by kernel_rfl) (fun k => (q358_11_eq C lf (fun x1 x45 h => k (x1, x45) h) r n KE)))) (q358_14_eq C lf (fun x1 x45 h => lp (l358_2 C lf r n) lf (x1, x45) h) (fun F h => r (F 4) h) KE)
noncomputable def q358_16 (C : YC) (lf : Nat) (r : K1) (x0 x1 : O) (h : HW) : Rs :=
 q358_15 C lf (fun h => q358_1 C lf r h) r x0 x1 h
theorem q358_16_eq (C : YC) (lf : Nat) (r : K1) (KN : KF) (KE : KX) : ∀ F h, ev358 C lf [1, 1, 1, 1] F h KN (fun F h => r (F 4) h) KE = q358_16 C lf r (F 0) (F 1) h := cSeq (a := sub fb358 [1, 1, 1, 1, 0]) (b := sub fb358 [1, 1, 1, 1, 1]) (by kernel_rfl) (B := (fun F h => q358_1 C lf r h)) (q358_1_eq C lf r KN KE) (q358_15_eq C lf (fun h => q358_1 C lf r h) r KE)
noncomputable def q358_17 (C : YC) (lf : Nat) (r : K1) (h : HW) : Rs :=
 r (some (.int .i64 (-1))) h
theorem q358_17_eq (C : YC) (lf : Nat) (r : K1) (KN : KF) (KE : KX) : ∀ F h, ev358 C lf [1, 1, 1, 0, 1, 0, 1, 1, 0, 1] F h KN (fun F h => r (F 4) h) KE = q358_17 C lf r h := by
  intro F h; kernel_rfl
noncomputable def q358_31 (C : YC) (lf : Nat) (n : K3) (r : K1) (e0 : K0) (x0 x6 x8 : O) (h : HW) : Rs :=
 ob x8 fun a19 =>
 ob x0 fun a20 =>
 ob (lenE Tryz.prog 9 a20) fun y21 =>
 ob (bin Tryz.prog .lss 3 a19 y21) fun y22 =>
 yIf y22
 (ob x0 fun a23 =>
 ob x8 fun a24 =>
 ob (semIndex Tryz.prog 9 a23 a24) fun y25 =>
 ob x6 fun a26 =>
 bc (C (.fn 366) [a26, y25] h) fun y27 h27 =>
 yIf y27
 (ob x8 fun a28 =>
 r (some a28) h27)
 (ob x8 fun a29 =>
 ob (bin Tryz.prog .add 3 a29 (.int .i64 1)) fun y30 =>
 n x0 x6 (some y30) h27))
 (e0 h)
theorem q358_31_eq (C : YC) (lf : Nat) (n : K3) (r : K1) (e0 : K0) (KE : KX) : ∀ F h, ev358 C lf [1, 1, 1, 0, 1, 0, 1, 1, 0, 0, 1, 0, 0] F h (fun F h => n (F 0) (F 6) (F 8) h) (fun F h => r (F 4) h) (bk 0 (fun F h => e0 h) KE) = q358_31 C lf n r e0 (F 0) (F 6) (F 8) h := by
  intro F h; kernel_rfl
noncomputable def l358_18 (C : YC) (lf : Nat) (r : K1) (e0 : K0) (k : O × O × O → HW → Rs) (s : O × O × O) (h : HW) : Rs :=
 q358_31 C lf (fun x0 x6 x8 h => k (x0, x6, x8) h) r e0 s.1 s.2.1 s.2.2 h
noncomputable def q358_32 (C : YC) (lf : Nat) (n : K3) (x0 x6 : O) (h : HW) : Rs :=
 n x0 x6 (some (.int .i64 0)) h
theorem q358_32_eq (C : YC) (lf : Nat) (n : K3) (KR : KF) (KE : KX) : ∀ F h, ev358 C lf [1, 1, 1, 0, 1, 0, 1, 1, 0, 0, 0] F h (fun F h => n (F 0) (F 6) (F 8) h) KR KE = q358_32 C lf n (F 0) (F 6) h := by
  intro F h; kernel_rfl
noncomputable def q358_33 (C : YC) (lf : Nat) (n : K0) (r : K1) (x0 x6 : O) (h : HW) : Rs :=
 q358_32 C lf (fun x0 x6 x8 h => lp (l358_18 C lf r n) lf (x0, x6, x8) h) x0 x6 h
theorem q358_33_eq (C : YC) (lf : Nat) (n : K0) (r : K1) (KE : KX) : ∀ F h, ev358 C lf [1, 1, 1, 0, 1, 0, 1, 1, 0, 0] F h (fun F h => n h) (fun F h => r (F 4) h) KE = q358_33 C lf n r (F 0) (F 6) h := cSeq (a := sub fb358 [1, 1, 1, 0, 1, 0, 1, 1, 0, 0, 0]) (b := sub fb358 [1, 1, 1, 0, 1, 0, 1, 1, 0, 0, 1]) (by kernel_rfl) (B := (fun F h => lp (l358_18 C lf r n) lf ((F 0), (F 6), (F 8)) h)) (cBlock (a := sub fb358 [1, 1, 1, 0, 1, 0, 1, 1, 0, 0, 1, 0]) (by kernel_rfl) (cLoop (g := fun F => (F 0, F 6, F 8)) (body := l358_18 C lf r n) (by kernel_rfl) (fun k => (q358_31_eq C lf (fun x0 x6 x8 h => k (x0, x6, x8) h) r n KE)))) (q358_32_eq C lf (fun x0 x6 x8 h => lp (l358_18 C lf r n) lf (x0, x6, x8) h) (fun F h => r (F 4) h) KE)
noncomputable def q358_34 (C : YC) (lf : Nat) (r : K1) (x0 x6 : O) (h : HW) : Rs :=
 q358_33 C lf (fun h => q358_17 C lf r h) r x0 x6 h
theorem q358_34_eq (C : YC) (lf : Nat) (r : K1) (KN : KF) (KE : KX) : ∀ F h, ev358 C lf [1, 1, 1, 0, 1, 0, 1, 1, 0] F h KN (fun F h => r (F 4) h) KE = q358_34 C lf r (F 0) (F 6) h := cSeq (a := sub fb358 [1, 1, 1, 0, 1, 0, 1, 1, 0, 0]) (b := sub fb358 [1, 1, 1, 0, 1, 0, 1, 1, 0, 1]) (by kernel_rfl) (B := (fun F h => q358_17 C lf r h)) (q358_17_eq C lf r KN KE) (q358_33_eq C lf (fun h => q358_17 C lf r h) r KE)
noncomputable def q358_35 (C : YC) (lf : Nat) (n : K2) (x0 x1 : O) (h : HW) : Rs :=
 n x0 x1 h
theorem q358_35_eq (C : YC) (lf : Nat) (n : K2) (KR : KF) (KE : KX) : ∀ F h, ev358 C lf [1, 1, 1, 0, 1, 0, 1, 1, 1] F h (fun F h => n (F 0) (F 1) h) KR KE = q358_35 C lf n (F 0) (F 1) h := by
  intro F h; kernel_rfl
noncomputable def q358_37 (C : YC) (lf : Nat) (n : K2) (r : K1) (x0 x1 x6 x32 : O) (h : HW) : Rs :=
 ob x32 fun a36 =>
 yIf a36
 (q358_34 C lf r x0 x6 h)
 (q358_35 C lf n x0 x1 h)
theorem q358_37_eq (C : YC) (lf : Nat) (n : K2) (r : K1) (KE : KX) : ∀ F h, ev358 C lf [1, 1, 1, 0, 1, 0, 1, 1] F h (fun F h => n (F 0) (F 1) h) (fun F h => r (F 4) h) KE = q358_37 C lf n r (F 0) (F 1) (F 6) (F 32) h := cCond (x := .tmp 32) (by kernel_rfl) (q358_34_eq C lf r (fun F h => n (F 0) (F 1) h) KE) (q358_35_eq C lf n (fun F h => r (F 4) h) KE)
noncomputable def q358_39 (C : YC) (lf : Nat) (n : K4) (x0 x1 x6 x7 : O) (h : HW) : Rs :=
 ob x7 fun a38 =>
 n x0 x1 x6 (some a38) h
theorem q358_39_eq (C : YC) (lf : Nat) (n : K4) (KR : KF) (KE : KX) : ∀ F h, ev358 C lf [1, 1, 1, 0, 1, 0, 1, 0] F h (fun F h => n (F 0) (F 1) (F 6) (F 32) h) KR KE = q358_39 C lf n (F 0) (F 1) (F 6) (F 7) h := by
  intro F h; kernel_rfl
noncomputable def q358_40 (C : YC) (lf : Nat) (n : K2) (r : K1) (x0 x1 x6 x7 : O) (h : HW) : Rs :=
 q358_39 C lf (fun x0 x1 x6 x32 h => q358_37 C lf n r x0 x1 x6 x32 h) x0 x1 x6 x7 h
theorem q358_40_eq (C : YC) (lf : Nat) (n : K2) (r : K1) (KE : KX) : ∀ F h, ev358 C lf [1, 1, 1, 0, 1, 0, 1] F h (fun F h => n (F 0) (F 1) h) (fun F h => r (F 4) h) KE = q358_40 C lf n r (F 0) (F 1) (F 6) (F 7) h := cSeq (a := sub fb358 [1, 1, 1, 0, 1, 0, 1, 0]) (b := sub fb358 [1, 1, 1, 0, 1, 0, 1, 1]) (by kernel_rfl) (B := (fun F h => q358_37 C lf n r (F 0) (F 1) (F 6) (F 32) h)) (q358_37_eq C lf n r KE) (q358_39_eq C lf (fun x0 x1 x6 x32 h => q358_37 C lf n r x0 x1 x6 x32 h) (fun F h => r (F 4) h) KE)
noncomputable def q358_47 (C : YC) (lf : Nat) (n : K4) (x0 x1 : O) (h : HW) : Rs :=
 ob x1 fun a41 =>
 bc (C (.fn 365) [a41] h) fun y42 h42 =>
 ob (ext 0 y42) fun y43 =>
 ob (ext 1 y42) fun y44 =>
 b2 (yAl Tryz.prog 446 h42) fun y45 h45 =>
 ob (st 256 y45 y43 h45) fun h46 =>
 n x0 x1 (some y45) (some y44) h46
theorem q358_47_eq (C : YC) (lf : Nat) (n : K4) (KR : KF) (KE : KX) : ∀ F h, ev358 C lf [1, 1, 1, 0, 1, 0, 0] F h (fun F h => n (F 0) (F 1) (F 6) (F 7) h) KR KE = q358_47 C lf n (F 0) (F 1) h := by
  intro F h; kernel_rfl
noncomputable def q358_48 (C : YC) (lf : Nat) (n : K2) (r : K1) (x0 x1 : O) (h : HW) : Rs :=
 q358_47 C lf (fun x0 x1 x6 x7 h => q358_40 C lf n r x0 x1 x6 x7 h) x0 x1 h
theorem q358_48_eq (C : YC) (lf : Nat) (n : K2) (r : K1) (KE : KX) : ∀ F h, ev358 C lf [1, 1, 1, 0, 1, 0] F h (fun F h => n (F 0) (F 1) h) (fun F h => r (F 4) h) KE = q358_48 C lf n r (F 0) (F 1) h := cSeq (a := sub fb358 [1, 1, 1, 0, 1, 0, 0]) (b := sub fb358 [1, 1, 1, 0, 1, 0, 1]) (by kernel_rfl) (B := (fun F h => q358_40 C lf n r (F 0) (F 1) (F 6) (F 7) h)) (q358_40_eq C lf n r KE) (q358_47_eq C lf (fun x0 x1 x6 x7 h => q358_40 C lf n r x0 x1 x6 x7 h) (fun F h => r (F 4) h) KE)
noncomputable def q358_49 (C : YC) (lf : Nat) (n : K2) (x0 x1 : O) (h : HW) : Rs :=
 n x0 x1 h
theorem q358_49_eq (C : YC) (lf : Nat) (n : K2) (KR : KF) (KE : KX) : ∀ F h, ev358 C lf [1, 1, 1, 0, 1, 1] F h (fun F h => n (F 0) (F 1) h) KR KE = q358_49 C lf n (F 0) (F 1) h := by
  intro F h; kernel_rfl
noncomputable def q358_51 (C : YC) (lf : Nat) (n : K2) (r : K1) (x0 x1 x26 : O) (h : HW) : Rs :=
 ob x26 fun a50 =>
 yIf a50
 (q358_48 C lf n r x0 x1 h)
 (q358_49 C lf n x0 x1 h)
theorem q358_51_eq (C : YC) (lf : Nat) (n : K2) (r : K1) (KE : KX) : ∀ F h, ev358 C lf [1, 1, 1, 0, 1] F h (fun F h => n (F 0) (F 1) h) (fun F h => r (F 4) h) KE = q358_51 C lf n r (F 0) (F 1) (F 26) h := cCond (x := .tmp 26) (by kernel_rfl) (q358_48_eq C lf n r KE) (q358_49_eq C lf n (fun F h => r (F 4) h) KE)
noncomputable def q358_55 (C : YC) (lf : Nat) (n : K3) (x0 x1 : O) (h : HW) : Rs :=
 ob x0 fun a52 =>
 ob (lenE Tryz.prog 9 a52) fun y53 =>
 bc (C (.fn 364) [y53] h) fun y54 h54 =>
 n x0 x1 (some y54) h54
theorem q358_55_eq (C : YC) (lf : Nat) (n : K3) (KR : KF) (KE : KX) : ∀ F h, ev358 C lf [1, 1, 1, 0, 0] F h (fun F h => n (F 0) (F 1) (F 26) h) KR KE = q358_55 C lf n (F 0) (F 1) h := by
  intro F h; kernel_rfl
noncomputable def q358_56 (C : YC) (lf : Nat) (n : K2) (r : K1) (x0 x1 : O) (h : HW) : Rs :=
 q358_55 C lf (fun x0 x1 x26 h => q358_51 C lf n r x0 x1 x26 h) x0 x1 h
theorem q358_56_eq (C : YC) (lf : Nat) (n : K2) (r : K1) (KE : KX) : ∀ F h, ev358 C lf [1, 1, 1, 0] F h (fun F h => n (F 0) (F 1) h) (fun F h => r (F 4) h) KE = q358_56 C lf n r (F 0) (F 1) h := cSeq (a := sub fb358 [1, 1, 1, 0, 0]) (b := sub fb358 [1, 1, 1, 0, 1]) (by kernel_rfl) (B := (fun F h => q358_51 C lf n r (F 0) (F 1) (F 26) h)) (q358_51_eq C lf n r KE) (q358_55_eq C lf (fun x0 x1 x26 h => q358_51 C lf n r x0 x1 x26 h) (fun F h => r (F 4) h) KE)
noncomputable def q358_57 (C : YC) (lf : Nat) (r : K1) (x0 x1 : O) (h : HW) : Rs :=
 q358_56 C lf (fun x0 x1 h => q358_16 C lf r x0 x1 h) r x0 x1 h
theorem q358_57_eq (C : YC) (lf : Nat) (r : K1) (KN : KF) (KE : KX) : ∀ F h, ev358 C lf [1, 1, 1] F h KN (fun F h => r (F 4) h) KE = q358_57 C lf r (F 0) (F 1) h := cSeq (a := sub fb358 [1, 1, 1, 0]) (b := sub fb358 [1, 1, 1, 1]) (by kernel_rfl) (B := (fun F h => q358_16 C lf r (F 0) (F 1) h)) (q358_16_eq C lf r KN KE) (q358_56_eq C lf (fun x0 x1 h => q358_16 C lf r x0 x1 h) r KE)
noncomputable def q358_69 (C : YC) (lf : Nat) (n : K2) (r : K1) (x0 x1 : O) (h : HW) : Rs :=
 ob x1 fun a58 =>
 ob (lenE Tryz.prog 9 a58) fun y59 =>
 ob (bin Tryz.prog .eql 3 y59 (.int .i64 1)) fun y60 =>
 yIf y60
 (ob x1 fun a61 =>
 ob (semIndex Tryz.prog 9 a61 (.int .i64 0)) fun y62 =>
 ob (cvI .i32 y62) fun y63 =>
 ob (bin Tryz.prog .geq 21 y63 (.int .i32 128)) fun y64 =>
 yIf y64
 (ob x0 fun a65 =>
 bc (C (.fn 363) [a65, (.int .i32 65533)] h) fun y66 h66 =>
 r (some y66) h66)
 (ob x0 fun a67 =>
 bc (C (.fn 363) [a67, y63] h) fun y68 h68 =>
 r (some y68) h68))
 (n x0 x1 h)
theorem q358_69_eq (C : YC) (lf : Nat) (n : K2) (r : K1) (KE : KX) : ∀ F h, ev358 C lf [1, 1, 0] F h (fun F h => n (F 0) (F 1) h) (fun F h => r (F 4) h) KE = q358_69 C lf n r (F 0) (F 1) h := by
  intro F h; kernel_rfl
noncomputable def q358_70 (C : YC) (lf : Nat) (r : K1) (x0 x1 : O) (h : HW) : Rs :=
 q358_69 C lf (fun x0 x1 h => q358_57 C lf r x0 x1 h) r x0 x1 h
theorem q358_70_eq (C : YC) (lf : Nat) (r : K1) (KN : KF) (KE : KX) : ∀ F h, ev358 C lf [1, 1] F h KN (fun F h => r (F 4) h) KE = q358_70 C lf r (F 0) (F 1) h := cSeq (a := sub fb358 [1, 1, 0]) (b := sub fb358 [1, 1, 1]) (by kernel_rfl) (B := (fun F h => q358_57 C lf r (F 0) (F 1) h)) (q358_57_eq C lf r KN KE) (q358_69_eq C lf (fun x0 x1 h => q358_57 C lf r x0 x1 h) r KE)
noncomputable def q358_73 (C : YC) (lf : Nat) (n : K2) (r : K1) (x0 x1 : O) (h : HW) : Rs :=
 ob x1 fun a71 =>
 ob (bin Tryz.prog .eql 9 a71 (.str (bs []))) fun y72 =>
 yIf y72
 (r (some (.int .i64 (-1))) h)
 (n x0 x1 h)
theorem q358_73_eq (C : YC) (lf : Nat) (n : K2) (r : K1) (KE : KX) : ∀ F h, ev358 C lf [1, 0] F h (fun F h => n (F 0) (F 1) h) (fun F h => r (F 4) h) KE = q358_73 C lf n r (F 0) (F 1) h := by
  intro F h; kernel_rfl
noncomputable def q358_74 (C : YC) (lf : Nat) (r : K1) (x0 x1 : O) (h : HW) : Rs :=
 q358_73 C lf (fun x0 x1 h => q358_70 C lf r x0 x1 h) r x0 x1 h
theorem q358_74_eq (C : YC) (lf : Nat) (r : K1) (KN : KF) (KE : KX) : ∀ F h, ev358 C lf [1] F h KN (fun F h => r (F 4) h) KE = q358_74 C lf r (F 0) (F 1) h := cSeq (a := sub fb358 [1, 0]) (b := sub fb358 [1, 1]) (by kernel_rfl) (B := (fun F h => q358_70 C lf r (F 0) (F 1) h)) (q358_70_eq C lf r KN KE) (q358_73_eq C lf (fun x0 x1 h => q358_70 C lf r x0 x1 h) r KE)
noncomputable def q358_75 (C : YC) (lf : Nat) (n : K2) (x0 x1 : O) (h : HW) : Rs :=
 n x0 x1 h
theorem q358_75_eq (C : YC) (lf : Nat) (n : K2) (KR : KF) (KE : KX) : ∀ F h, ev358 C lf [0] F h (fun F h => n (F 0) (F 1) h) KR KE = q358_75 C lf n (F 0) (F 1) h := by
  intro F h; kernel_rfl
noncomputable def q358_76 (C : YC) (lf : Nat) (r : K1) (x0 x1 : O) (h : HW) : Rs :=
 q358_75 C lf (fun x0 x1 h => q358_74 C lf r x0 x1 h) x0 x1 h
theorem q358_76_eq (C : YC) (lf : Nat) (r : K1) (KN : KF) (KE : KX) : ∀ F h, ev358 C lf [] F h KN (fun F h => r (F 4) h) KE = q358_76 C lf r (F 0) (F 1) h := cSeq (a := sub fb358 [0]) (b := sub fb358 [1]) (by kernel_rfl) (B := (fun F h => q358_74 C lf r (F 0) (F 1) h)) (q358_74_eq C lf r KN KE) (q358_75_eq C lf (fun x0 x1 h => q358_74 C lf r x0 x1 h) (fun F h => r (F 4) h) KE)
noncomputable def fs358 (C : YC) (lf : Nat) (a0 a1 : SV) (h : HW) : Rs := q358_76 C lf ff358 (some a0) (some a1) h
theorem fs358_eq (C : YC) (lf : Nat) (a0 a1 : SV) (h : HW) : yFn Tryz.prog fx358 C lf [a0, a1] h = fs358 C lf a0 a1 h :=
  fnOf (K := (fun F h => ff358 (F 4) h)) (b := fb358) (N := fn358) (by kernel_rfl) (by kernel_rfl) (by kernel_rfl) (((q358_76_eq C lf ff358 (fun F h => ff358 (F 4) h) (fun _ _ _ => none)) (frOf [a0, a1]) h).trans (by kernel_rfl))
noncomputable def ft358 (C : YC) (lf : Nat) (args : List SV) (h : HW) : Rs := match args with | [a0, a1] => fs358 C lf a0 a1 h | _ => none
theorem ft358_eq (C : YC) (lf : Nat) (args : List SV) (h : HW) (r : Out × HW) (e : ft358 C lf args h = some r) : Nat.ble args.length fx358.fn.ntmps = true ∧ yFn Tryz.prog fx358 C lf args h = some r := by
  rcases args with _ | ⟨a0, _ | ⟨a1, _ | ⟨_, _⟩⟩⟩ <;> first | (cases e; done) | exact ⟨by kernel_rfl, (fs358_eq ..).trans e⟩
noncomputable def fy358 : YX Tryz.prog := ⟨fx358, ft358, ft358_eq⟩

/-! NAT 359 internal/bytealg.IndexByte -/
noncomputable def gx359 : XN Tryz.prog := { f := 359, fn := Tryz.f359, k := .indexByte, isFn := Tryz.func359, isPlain := by kernel_rfl, noBody := by kernel_rfl, noNext := by kernel_rfl, isK := by kernel_rfl }

/-! EV 363 strings.IndexRune: scope -/
noncomputable def fx363 : XF Tryz.prog := { f := 363, fn := Tryz.f363, ord := fun _ => .text, isFn := Tryz.func363, isBody := by kernel_rfl, isPlain := by kernel_rfl, isSmall := by kernel_rfl, isOK := by kernel_rfl }

/-! FN 364 strings.shouldUseASCIISet -/
noncomputable def fx364 : XF Tryz.prog := { f := 364, fn := Tryz.f364, ord := fun _ => .text, isFn := Tryz.func364, isBody := by kernel_rfl, isPlain := by kernel_rfl, isSmall := by kernel_rfl, isOK := by kernel_rfl }
noncomputable def fb364 : Code := Tryz.f364.body.getD .skip
noncomputable def fn364 : Nat := Tryz.f364.ntmps
noncomputable abbrev ev364 (C : YC) (lf : Nat) (p : List Nat) := evY Tryz.prog C fn364 fx364.ord lf (sub fb364 p)
noncomputable def ff364 (x2 : O) (h : HW) : Rs :=
 ob x2 fun a0 =>
 some (.ret a0, h)
noncomputable def q364_3 (C : YC) (lf : Nat) (r : K1) (x0 : O) (h : HW) : Rs :=
 ob x0 fun a1 =>
 ob (bin Tryz.prog .gtr 3 a1 (.int .i64 8)) fun y2 =>
 r (some y2) h
theorem q364_3_eq (C : YC) (lf : Nat) (r : K1) (KN : KF) (KE : KX) : ∀ F h, ev364 C lf [] F h KN (fun F h => r (F 2) h) KE = q364_3 C lf r (F 0) h := by
  intro F h; kernel_rfl
noncomputable def fs364 (C : YC) (lf : Nat) (a0 : SV) (h : HW) : Rs := q364_3 C lf ff364 (some a0) h
theorem fs364_eq (C : YC) (lf : Nat) (a0 : SV) (h : HW) : yFn Tryz.prog fx364 C lf [a0] h = fs364 C lf a0 h :=
  fnOf (K := (fun F h => ff364 (F 2) h)) (b := fb364) (N := fn364) (by kernel_rfl) (by kernel_rfl) (by kernel_rfl) (((q364_3_eq C lf ff364 (fun F h => ff364 (F 2) h) (fun _ _ _ => none)) (frOf [a0]) h).trans (by kernel_rfl))
noncomputable def ft364 (C : YC) (lf : Nat) (args : List SV) (h : HW) : Rs := match args with | [a0] => fs364 C lf a0 h | _ => none
theorem ft364_eq (C : YC) (lf : Nat) (args : List SV) (h : HW) (r : Out × HW) (e : ft364 C lf args h = some r) : Nat.ble args.length fx364.fn.ntmps = true ∧ yFn Tryz.prog fx364 C lf args h = some r := by
  rcases args with _ | ⟨a0, _ | ⟨_, _⟩⟩ <;> first | (cases e; done) | exact ⟨by kernel_rfl, (fs364_eq ..).trans e⟩
noncomputable def fy364 : YX Tryz.prog := ⟨fx364, ft364, ft364_eq⟩

/-! FN 391 (*tinsel/desc.file).write -/
noncomputable def fx391 : XF Tryz.prog := { f := 391, fn := Tryz.f391, ord := fun r => bif Nat.beq r 2 then .news [0, 1, 2, 4, 5, 6, 3, 7, 8, 9, 10, 11, 12, 13, 14] [12] [] else .text, isFn := Tryz.func391, isBody := by kernel_rfl, isPlain := by kernel_rfl, isSmall := by kernel_rfl, isOK := by kernel_rfl }
noncomputable def fb391 : Code := Tryz.f391.body.getD .skip
noncomputable def fn391 : Nat := Tryz.f391.ntmps
noncomputable abbrev ev391 (C : YC) (lf : Nat) (p : List Nat) := evY Tryz.prog C fn391 fx391.ord lf (sub fb391 p)
noncomputable def ff391 (x4 x5 : O) (h : HW) : Rs :=
 ob x4 fun a0 =>
 ob x5 fun a1 =>
 some (.ret (.tup [a0, a1]), h)
noncomputable def q391_26 (C : YC) (lf : Nat) (r : K2) (x0 x1 : O) (h : HW) : Rs :=
 ob x0 fun a2 =>
 ob (semNil a2) fun y3 =>
 ob (fa 0 y3) fun y4 =>
 ob (ld1 y4 h) fun y5 =>
 ob x0 fun a6 =>
 ob (semNil a6) fun y7 =>
 ob (fa 1 y7) fun y8 =>
 ob (ld1 y8 h) fun y9 =>
 ob x0 fun a10 =>
 ob (semNil a10) fun y11 =>
 ob (fa 2 y11) fun y12 =>
 ob (ld1 y12 h) fun y13 =>
 ob x1 fun a14 =>
 bcn (C (.fn 186) [y5, y9, y13, a14] h) fun y15 h15 =>
 ob (ext 0 y15) fun y16 =>
 ob (ext 1 y15) fun y17 =>
 ob x0 fun a18 =>
 ob (semNil a18) fun y19 =>
 ob (fa 2 y19) fun y20 =>
 ob (ld1 y20 h15) fun y21 =>
 ob (bin Tryz.prog .add 3 y21 y16) fun y22 =>
 ob (semNil a18) fun y23 =>
 ob (fa 2 y23) fun y24 =>
 ob (st 1 y24 y22 h15) fun h25 =>
 r (some y16) (some y17) h25
theorem q391_26_eq (C : YC) (lf : Nat) (r : K2) (KN : KF) (KE : KX) : ∀ F h, ev391 C lf [1, 1] F h KN (fun F h => r (F 4) (F 5) h) KE = q391_26 C lf r (F 0) (F 1) h := by
  intro F h; kernel_rfl
noncomputable def q391_52 (C : YC) (lf : Nat) (n : K2) (r : K2) (x0 x1 : O) (h : HW) : Rs :=
 ob x0 fun a27 =>
 ob (semNil a27) fun y28 =>
 ob (fa 3 y28) fun y29 =>
 ob (ld1 y29 h) fun y30 =>
 yIf y30
 (nwB [12] 15 h fun b31 h31 =>
 ob x0 fun a32 =>
 ob (semNil a32) fun y33 =>
 ob (fa 0 y33) fun y34 =>
 ob x0 fun a35 =>
 ob (semNil a35) fun y36 =>
 ob (fa 1 y36) fun y37 =>
 ck (lowA b31 (adrO (some y34))) <|
 ob (ld1 y34 h31) fun y38 =>
 ck (lowA b31 (adrO (some y37))) <|
 ob (ld1 y37 h31) fun y39 =>
 bcn (C (.fn 118) [y38, y39] h31) fun y40 h40 =>
 ob (ext 0 y40) fun y41 =>
 ob (ext 1 y40) fun y42 =>
 b2 (ynf (yAl Tryz.prog 58) b31 12 h40) fun y43 h43 =>
 ob (st 10 y43 y41 h43) fun h44 =>
 ob (bin Tryz.prog .neq 23 y42 (.int .i64 0)) fun y45 =>
 yIf y45
 (r (some (.int .i64 0)) (some y42) h44)
 (ob x0 fun a46 =>
 ob (fa 4 y43) fun y47 =>
 ob (ld1 y47 h44) fun y48 =>
 ob (semNil a46) fun y49 =>
 ob (fa 2 y49) fun y50 =>
 ob (st 1 y50 y48 h44) fun h51 =>
 n x0 x1 h51))
 (n x0 x1 h)
theorem q391_52_eq (C : YC) (lf : Nat) (n : K2) (r : K2) (KE : KX) : ∀ F h, ev391 C lf [1, 0] F h (fun F h => n (F 0) (F 1) h) (fun F h => r (F 4) (F 5) h) KE = q391_52 C lf n r (F 0) (F 1) h := by
  intro F h; kernel_rfl
noncomputable def q391_53 (C : YC) (lf : Nat) (r : K2) (x0 x1 : O) (h : HW) : Rs :=
 q391_52 C lf (fun x0 x1 h => q391_26 C lf r x0 x1 h) r x0 x1 h
theorem q391_53_eq (C : YC) (lf : Nat) (r : K2) (KN : KF) (KE : KX) : ∀ F h, ev391 C lf [1] F h KN (fun F h => r (F 4) (F 5) h) KE = q391_53 C lf r (F 0) (F 1) h := cSeq (a := sub fb391 [1, 0]) (b := sub fb391 [1, 1]) (by kernel_rfl) (B := (fun F h => q391_26 C lf r (F 0) (F 1) h)) (q391_26_eq C lf r KN KE) (q391_52_eq C lf (fun x0 x1 h => q391_26 C lf r x0 x1 h) r KE)
noncomputable def q391_54 (C : YC) (lf : Nat) (n : K2) (x0 x1 : O) (h : HW) : Rs :=
 n x0 x1 h
theorem q391_54_eq (C : YC) (lf : Nat) (n : K2) (KR : KF) (KE : KX) : ∀ F h, ev391 C lf [0] F h (fun F h => n (F 0) (F 1) h) KR KE = q391_54 C lf n (F 0) (F 1) h := by
  intro F h; kernel_rfl
noncomputable def q391_55 (C : YC) (lf : Nat) (r : K2) (x0 x1 : O) (h : HW) : Rs :=
 q391_54 C lf (fun x0 x1 h => q391_53 C lf r x0 x1 h) x0 x1 h
theorem q391_55_eq (C : YC) (lf : Nat) (r : K2) (KN : KF) (KE : KX) : ∀ F h, ev391 C lf [] F h KN (fun F h => r (F 4) (F 5) h) KE = q391_55 C lf r (F 0) (F 1) h := cSeq (a := sub fb391 [0]) (b := sub fb391 [1]) (by kernel_rfl) (B := (fun F h => q391_53 C lf r (F 0) (F 1) h)) (q391_53_eq C lf r KN KE) (q391_54_eq C lf (fun x0 x1 h => q391_53 C lf r x0 x1 h) (fun F h => r (F 4) (F 5) h) KE)
noncomputable def fs391 (C : YC) (lf : Nat) (a0 a1 : SV) (h : HW) : Rs := q391_55 C lf ff391 (some a0) (some a1) h
theorem fs391_eq (C : YC) (lf : Nat) (a0 a1 : SV) (h : HW) : yFn Tryz.prog fx391 C lf [a0, a1] h = fs391 C lf a0 a1 h :=
  fnOf (K := (fun F h => ff391 (F 4) (F 5) h)) (b := fb391) (N := fn391) (by kernel_rfl) (by kernel_rfl) (by kernel_rfl) (((q391_55_eq C lf ff391 (fun F h => ff391 (F 4) (F 5) h) (fun _ _ _ => none)) (frOf [a0, a1]) h).trans (by kernel_rfl))
noncomputable def ft391 (C : YC) (lf : Nat) (args : List SV) (h : HW) : Rs := match args with | [a0, a1] => fs391 C lf a0 a1 h | _ => none
theorem ft391_eq (C : YC) (lf : Nat) (args : List SV) (h : HW) (r : Out × HW) (e : ft391 C lf args h = some r) : Nat.ble args.length fx391.fn.ntmps = true ∧ yFn Tryz.prog fx391 C lf args h = some r := by
  rcases args with _ | ⟨a0, _ | ⟨a1, _ | ⟨_, _⟩⟩⟩ <;> first | (cases e; done) | exact ⟨by kernel_rfl, (fs391_eq ..).trans e⟩
noncomputable def fy391 : YX Tryz.prog := ⟨fx391, ft391, ft391_eq⟩

end Go.Proofs.YtoglpmfmnknlaaaGreatDoor.Eva
