/- Texts of functions of the program. -/
import Derived.Test.YtoglpmfmnknlaaaGreatDoorCards
import Derived.Test.YtoglpmfmnknlaaaGreatDoorXeYh
namespace Go.Proofs.YtoglpmfmnknlaaaGreatDoor.Eva
open Go.Xe
set_option maxRecDepth 100000
set_option linter.unusedVariables false
/-! FN 7 tinsel/tinsellaw07.DescNone -/
noncomputable def fx7 : XF Tryz.prog := { f := 7, fn := Tryz.f7, ord := fun _ => .text, isFn := Tryz.func7, isBody := by kernel_rfl, isPlain := by kernel_rfl, isSmall := by kernel_rfl, isOK := by kernel_rfl }
noncomputable def fb7 : Code := Tryz.f7.body.getD .skip
noncomputable def fn7 : Nat := Tryz.f7.ntmps
noncomputable abbrev ev7 (C : YC) (lf : Nat) (p : List Nat) := evY Tryz.prog C fn7 fx7.ord lf (sub fb7 p)
noncomputable def ff7 (x2 : O) (h : HW) : Rs :=
 ob x2 fun a0 =>
 some (.ret a0, h)
noncomputable def q7_13 (C : YC) (lf : Nat) (r : K1) (h : HW) : Rs :=
 ob (semBuild Tryz.prog 46 [] []) fun y1 =>
 bc (C (.fn 51) [(.val (.pointer none)), y1] h) fun y2 h2 =>
 ob (ext 0 y2) fun y3 =>
 ob (ext 1 y2) fun y4 =>
 ob (bin Tryz.prog .eql 36 y3 (.val (.pointer none))) fun y5 =>
 bc (gd true (some y5) (some (.ret y4, h2)) h2) fun y6 h6 =>
 bc (gd true (some y5) (ob (bin Tryz.prog .eql 23 y6 (.int .i64 14)) fun y7 =>
 some (.ret y7, h6)) h6) fun y8 h8 =>
 ob (ypk y5 y8 (.bool false)) fun y9 =>
 bc (gd true (some y9) (bc (C (.fn 52) [] h8) fun y10 h10 =>
 some (.ret y10, h10)) h8) fun y11 h11 =>
 ob (ypk y9 y11 (.bool false)) fun y12 =>
 r (some y12) h11
theorem q7_13_eq (C : YC) (lf : Nat) (r : K1) (KN : KF) (KE : KX) : ∀ F h, ev7 C lf [1, 1, 1, 1] F h KN (fun F h => r (F 2) h) KE = q7_13 C lf r h := by
  intro F h; kernel_rfl
noncomputable def q7_160 (C : YC) (lf : Nat) (n : K3) (r : K1) (e0 : K0) (x1 x25 x26 : O) (h : HW) : Rs :=
 ob x26 fun a15 =>
 ob (bin Tryz.prog .lss 3 a15 (.int .i64 2)) fun y16 =>
 yIf y16
 (ob x25 fun a17 =>
 ob x26 fun a18 =>
 ob (semIndex Tryz.prog 75 a17 a18) fun y19 =>
 ob x1 fun a20 =>
 ob (fa 1 a20) fun y21 =>
 ob (ld1 y21 h) fun y22 =>
 ob x1 fun a23 =>
 ob (fa 3 a23) fun y24 =>
 ob (ld1 y24 h) fun y25 =>
 ob x1 fun a26 =>
 ob (fa 4 a26) fun y27 =>
 ob (ld1 y27 h) fun y28 =>
 bc (C (.fn 36) [y19, y22, y25, y28] h) fun y29 h29 =>
 ob (ext 0 y29) fun y30 =>
 ob (ext 1 y29) fun y31 =>
 ob x1 fun a32 =>
 ob (fa 3 a32) fun y33 =>
 ob (ld1 y33 h29) fun y34 =>
 ob x1 fun a35 =>
 ob (fa 4 a35) fun y36 =>
 ob (ld1 y36 h29) fun y37 =>
 bc (C (.fn 37) [y19, y34, y37] h29) fun y38 h38 =>
 ob (ext 0 y38) fun y39 =>
 ob (ext 1 y38) fun y40 =>
 ob x1 fun a41 =>
 ob (fa 3 a41) fun y42 =>
 ob (ld1 y42 h38) fun y43 =>
 ob x1 fun a44 =>
 ob (fa 6 a44) fun y45 =>
 ob (ld1 y45 h38) fun y46 =>
 bc (C (.fn 38) [y19, y43, y46] h38) fun y47 h47 =>
 ob (ext 0 y47) fun y48 =>
 ob (ext 1 y47) fun y49 =>
 bc (C (.fn 39) [y19] h47) fun y50 h50 =>
 ob (ext 0 y50) fun y51 =>
 ob (ext 1 y50) fun y52 =>
 ob (ext 2 y50) fun y53 =>
 ob x1 fun a54 =>
 ob (fa 1 a54) fun y55 =>
 ob (ld1 y55 h50) fun y56 =>
 bc (C (.fn 40) [y19, y56] h50) fun y57 h57 =>
 ob (ext 0 y57) fun y58 =>
 ob (ext 1 y57) fun y59 =>
 b2 (yAl Tryz.prog 58 h57) fun y60 h60 =>
 ob (st 10 y60 y58 h60) fun h61 =>
 bc (C (.fn 41) [y19] h61) fun y62 h62 =>
 ob (ext 0 y62) fun y63 =>
 ob (ext 1 y62) fun y64 =>
 ob x1 fun a65 =>
 ob (fa 3 a65) fun y66 =>
 ob (ld1 y66 h62) fun y67 =>
 bc (C (.fn 42) [y19, y67] h62) fun y68 h68 =>
 ob (ext 0 y68) fun y69 =>
 ob (ext 1 y68) fun y70 =>
 ob (ext 2 y68) fun y71 =>
 b2 (yAl Tryz.prog 81 h68) fun y72 h72 =>
 ob (st 3 y72 y69 h72) fun h73 =>
 bc (C (.fn 43) [y19] h73) fun y74 h74 =>
 ob (bin Tryz.prog .neq 23 y31 (.int .i64 14)) fun y75 =>
 bc (gd false (some y75) (some (.ret y40, h74)) h74) fun y76 h76 =>
 bc (gd false (some y75) (ob (bin Tryz.prog .neq 23 y76 (.int .i64 14)) fun y77 =>
 some (.ret y77, h76)) h76) fun y78 h78 =>
 ob (ypk y75 (.bool true) y78) fun y79 =>
 bc (gd false (some y79) (some (.ret y49, h78)) h78) fun y80 h80 =>
 bc (gd false (some y79) (ob (bin Tryz.prog .neq 23 y80 (.int .i64 14)) fun y81 =>
 some (.ret y81, h80)) h80) fun y82 h82 =>
 ob (ypk y79 (.bool true) y82) fun y83 =>
 bc (gd false (some y83) (some (.ret y53, h82)) h82) fun y84 h84 =>
 bc (gd false (some y83) (ob (bin Tryz.prog .neq 23 y84 (.int .i64 14)) fun y85 =>
 some (.ret y85, h84)) h84) fun y86 h86 =>
 ob (ypk y83 (.bool true) y86) fun y87 =>
 bc (gd false (some y87) (some (.ret y59, h86)) h86) fun y88 h88 =>
 bc (gd false (some y87) (ob (bin Tryz.prog .neq 23 y88 (.int .i64 14)) fun y89 =>
 some (.ret y89, h88)) h88) fun y90 h90 =>
 ob (ypk y87 (.bool true) y90) fun y91 =>
 bc (gd false (some y91) (some (.ret y64, h90)) h90) fun y92 h92 =>
 bc (gd false (some y91) (ob (bin Tryz.prog .neq 23 y92 (.int .i64 14)) fun y93 =>
 some (.ret y93, h92)) h92) fun y94 h94 =>
 ob (ypk y91 (.bool true) y94) fun y95 =>
 bc (gd false (some y95) (some (.ret y71, h94)) h94) fun y96 h96 =>
 bc (gd false (some y95) (ob (bin Tryz.prog .neq 23 y96 (.int .i64 14)) fun y97 =>
 some (.ret y97, h96)) h96) fun y98 h98 =>
 ob (ypk y95 (.bool true) y98) fun y99 =>
 bc (gd false (some y99) (some (.ret y70, h98)) h98) fun y100 h100 =>
 ob (ypk y99 (.bool true) y100) fun y101 =>
 yIf y101
 (r (some (.bool false)) h100)
 (ob x1 fun a102 =>
 ob (fa 1 a102) fun y103 =>
 ob (ld1 y103 h100) fun y104 =>
 bc (C (.fn 44) [y19, y104, (.int .i64 0)] h100) fun y105 h105 =>
 ob (bin Tryz.prog .neq 23 y105 (.int .i64 14)) fun y106 =>
 bc (gd false (some y106) (some (.ret y19, h105)) h105) fun y107 h107 =>
 bc (gd false (some y106) (ob x1 fun a108 =>
 ob (fa 3 a108) fun y109 =>
 some (.ret y109, h107)) h107) fun y110 h110 =>
 bc (gd false (some y106) (ob (ld1 y110 h110) fun y111 =>
 some (.ret y111, h110)) h110) fun y112 h112 =>
 bc (gd false (some y106) (bc (C (.fn 45) [y107, y112] h112) fun y113 h113 =>
 some (.ret y113, h113)) h112) fun y114 h114 =>
 bc (gd false (some y106) (ob (bin Tryz.prog .neq 23 y114 (.int .i64 14)) fun y115 =>
 some (.ret y115, h114)) h114) fun y116 h116 =>
 ob (ypk y106 (.bool true) y116) fun y117 =>
 bc (gd false (some y117) (some (.ret y19, h116)) h116) fun y118 h118 =>
 bc (gd false (some y117) (ob x1 fun a119 =>
 ob (fa 1 a119) fun y120 =>
 some (.ret y120, h118)) h118) fun y121 h121 =>
 bc (gd false (some y117) (ob (ld1 y121 h121) fun y122 =>
 some (.ret y122, h121)) h121) fun y123 h123 =>
 bc (gd false (some y117) (ob x1 fun a124 =>
 ob (fa 2 a124) fun y125 =>
 some (.ret y125, h123)) h123) fun y126 h126 =>
 bc (gd false (some y117) (ob (ld1 y126 h126) fun y127 =>
 some (.ret y127, h126)) h126) fun y128 h128 =>
 bc (gd false (some y117) (bc (C (.fn 46) [y118, y123, y128] h128) fun y129 h129 =>
 some (.ret y129, h129)) h128) fun y130 h130 =>
 bc (gd false (some y117) (ob (bin Tryz.prog .neq 23 y130 (.int .i64 14)) fun y131 =>
 some (.ret y131, h130)) h130) fun y132 h132 =>
 ob (ypk y117 (.bool true) y132) fun y133 =>
 bc (gd false (some y133) (some (.ret y19, h132)) h132) fun y134 h134 =>
 bc (gd false (some y133) (bc (C (.fn 47) [y134] h134) fun y135 h135 =>
 some (.ret y135, h135)) h134) fun y136 h136 =>
 bc (gd false (some y133) (ob (bin Tryz.prog .neq 43 y136 (.val (.pointer none))) fun y137 =>
 some (.ret y137, h136)) h136) fun y138 h138 =>
 ob (ypk y133 (.bool true) y138) fun y139 =>
 bc (gd false (some y139) (some (.ret y19, h138)) h138) fun y140 h140 =>
 bc (gd false (some y139) (bc (C (.fn 48) [y140] h140) fun y141 h141 =>
 some (.ret y141, h141)) h140) fun y142 h142 =>
 bc (gd false (some y139) (ob (lenE Tryz.prog 44 y142) fun y143 =>
 some (.ret y143, h142)) h142) fun y144 h144 =>
 bc (gd false (some y139) (ob (bin Tryz.prog .gtr 3 y144 (.int .i64 0)) fun y145 =>
 some (.ret y145, h144)) h144) fun y146 h146 =>
 ob (ypk y139 (.bool true) y146) fun y147 =>
 bc (gd false (some y147) (some (.ret y19, h146)) h146) fun y148 h148 =>
 bc (gd false (some y147) (bc (C (.fn 50) [y148] h148) fun y149 h149 =>
 some (.ret y149, h149)) h148) fun y150 h150 =>
 bc (gd false (some y147) (ob (semBuild Tryz.prog 46 [] []) fun y151 =>
 some (.ret y151, h150)) h150) fun y152 h152 =>
 bc (gd false (some y147) (bc (C (.fn 49) [y150, y152] h152) fun y153 h153 =>
 some (.ret y153, h153)) h152) fun y154 h154 =>
 bc (gd false (some y147) (ob (unE .not y154) fun y155 =>
 some (.ret y155, h154)) h154) fun y156 h156 =>
 ob (ypk y147 (.bool true) y156) fun y157 =>
 yIf y157
 (r (some (.bool false)) h156)
 (ob x26 fun a158 =>
 ob (bin Tryz.prog .add 3 a158 (.int .i64 1)) fun y159 =>
 n x1 x25 (some y159) h156)))
 (e0 h)
theorem q7_160_eq (C : YC) (lf : Nat) (n : K3) (r : K1) (e0 : K0) (KE : KX) : ∀ F h, ev7 C lf [1, 1, 1, 0, 1, 0, 0] F h (fun F h => n (F 1) (F 25) (F 26) h) (fun F h => r (F 2) h) (bk 0 (fun F h => e0 h) KE) = q7_160 C lf n r e0 (F 1) (F 25) (F 26) h := by
  intro F h; kernel_rfl
noncomputable def l7_14 (C : YC) (lf : Nat) (r : K1) (e0 : K0) (k : O × O × O → HW → Rs) (s : O × O × O) (h : HW) : Rs :=
 q7_160 C lf (fun x1 x25 x26 h => k (x1, x25, x26) h) r e0 s.1 s.2.1 s.2.2 h
noncomputable def q7_164 (C : YC) (lf : Nat) (n : K3) (x1 x3 x4 : O) (h : HW) : Rs :=
 ob x3 fun a161 =>
 ob x4 fun a162 =>
 ob (semBuild Tryz.prog 75 [0, 1] [a161, a162]) fun y163 =>
 n x1 (some y163) (some (.int .i64 0)) h
theorem q7_164_eq (C : YC) (lf : Nat) (n : K3) (KR : KF) (KE : KX) : ∀ F h, ev7 C lf [1, 1, 1, 0, 0] F h (fun F h => n (F 1) (F 25) (F 26) h) KR KE = q7_164 C lf n (F 1) (F 3) (F 4) h := by
  intro F h; kernel_rfl
noncomputable def q7_165 (C : YC) (lf : Nat) (n : K0) (r : K1) (x1 x3 x4 : O) (h : HW) : Rs :=
 q7_164 C lf (fun x1 x25 x26 h => lp (l7_14 C lf r n) lf (x1, x25, x26) h) x1 x3 x4 h
theorem q7_165_eq (C : YC) (lf : Nat) (n : K0) (r : K1) (KE : KX) : ∀ F h, ev7 C lf [1, 1, 1, 0] F h (fun F h => n h) (fun F h => r (F 2) h) KE = q7_165 C lf n r (F 1) (F 3) (F 4) h := cSeq (a := sub fb7 [1, 1, 1, 0, 0]) (b := sub fb7 [1, 1, 1, 0, 1]) (by kernel_rfl) (B := (fun F h => lp (l7_14 C lf r n) lf ((F 1), (F 25), (F 26)) h)) (cBlock (a := sub fb7 [1, 1, 1, 0, 1, 0]) (by kernel_rfl) (cLoop (g := fun F => (F 1, F 25, F 26)) (body := l7_14 C lf r n) (by kernel_rfl) (fun k => (q7_160_eq C lf (fun x1 x25 x26 h => k (x1, x25, x26) h) r n KE)))) (q7_164_eq C lf (fun x1 x25 x26 h => lp (l7_14 C lf r n) lf (x1, x25, x26) h) (fun F h => r (F 2) h) KE)
noncomputable def q7_166 (C : YC) (lf : Nat) (r : K1) (x1 x3 x4 : O) (h : HW) : Rs :=
 q7_165 C lf (fun h => q7_13 C lf r h) r x1 x3 x4 h
theorem q7_166_eq (C : YC) (lf : Nat) (r : K1) (KN : KF) (KE : KX) : ∀ F h, ev7 C lf [1, 1, 1] F h KN (fun F h => r (F 2) h) KE = q7_166 C lf r (F 1) (F 3) (F 4) h := cSeq (a := sub fb7 [1, 1, 1, 0]) (b := sub fb7 [1, 1, 1, 1]) (by kernel_rfl) (B := (fun F h => q7_13 C lf r h)) (q7_13_eq C lf r KN KE) (q7_165_eq C lf (fun h => q7_13 C lf r h) r KE)
noncomputable def q7_168 (C : YC) (lf : Nat) (n : K3) (x1 x3 : O) (h : HW) : Rs :=
 b2 (yAl Tryz.prog 50 h) fun y167 h167 =>
 n x1 x3 (some y167) h167
theorem q7_168_eq (C : YC) (lf : Nat) (n : K3) (KR : KF) (KE : KX) : ∀ F h, ev7 C lf [1, 1, 0] F h (fun F h => n (F 1) (F 3) (F 4) h) KR KE = q7_168 C lf n (F 1) (F 3) h := by
  intro F h; kernel_rfl
noncomputable def q7_169 (C : YC) (lf : Nat) (r : K1) (x1 x3 : O) (h : HW) : Rs :=
 q7_168 C lf (fun x1 x3 x4 h => q7_166 C lf r x1 x3 x4 h) x1 x3 h
theorem q7_169_eq (C : YC) (lf : Nat) (r : K1) (KN : KF) (KE : KX) : ∀ F h, ev7 C lf [1, 1] F h KN (fun F h => r (F 2) h) KE = q7_169 C lf r (F 1) (F 3) h := cSeq (a := sub fb7 [1, 1, 0]) (b := sub fb7 [1, 1, 1]) (by kernel_rfl) (B := (fun F h => q7_166 C lf r (F 1) (F 3) (F 4) h)) (q7_166_eq C lf r KN KE) (q7_168_eq C lf (fun x1 x3 x4 h => q7_166 C lf r x1 x3 x4 h) (fun F h => r (F 2) h) KE)
noncomputable def q7_170 (C : YC) (lf : Nat) (n : K2) (x1 : O) (h : HW) : Rs :=
 n x1 (some (.val (.pointer none))) h
theorem q7_170_eq (C : YC) (lf : Nat) (n : K2) (KR : KF) (KE : KX) : ∀ F h, ev7 C lf [1, 0] F h (fun F h => n (F 1) (F 3) h) KR KE = q7_170 C lf n (F 1) h := by
  intro F h; kernel_rfl
noncomputable def q7_171 (C : YC) (lf : Nat) (r : K1) (x1 : O) (h : HW) : Rs :=
 q7_170 C lf (fun x1 x3 h => q7_169 C lf r x1 x3 h) x1 h
theorem q7_171_eq (C : YC) (lf : Nat) (r : K1) (KN : KF) (KE : KX) : ∀ F h, ev7 C lf [1] F h KN (fun F h => r (F 2) h) KE = q7_171 C lf r (F 1) h := cSeq (a := sub fb7 [1, 0]) (b := sub fb7 [1, 1]) (by kernel_rfl) (B := (fun F h => q7_169 C lf r (F 1) (F 3) h)) (q7_169_eq C lf r KN KE) (q7_170_eq C lf (fun x1 x3 h => q7_169 C lf r x1 x3 h) (fun F h => r (F 2) h) KE)
noncomputable def q7_174 (C : YC) (lf : Nat) (n : K1) (x0 : O) (h : HW) : Rs :=
 ob x0 fun a172 =>
 b2 (ybx 74 a172 h) fun y173 h173 =>
 n (some y173) h173
theorem q7_174_eq (C : YC) (lf : Nat) (n : K1) (KR : KF) (KE : KX) : ∀ F h, ev7 C lf [0] F h (fun F h => n (F 1) h) KR KE = q7_174 C lf n (F 0) h := by
  intro F h; kernel_rfl
noncomputable def q7_175 (C : YC) (lf : Nat) (r : K1) (x0 : O) (h : HW) : Rs :=
 q7_174 C lf (fun x1 h => q7_171 C lf r x1 h) x0 h
theorem q7_175_eq (C : YC) (lf : Nat) (r : K1) (KN : KF) (KE : KX) : ∀ F h, ev7 C lf [] F h KN (fun F h => r (F 2) h) KE = q7_175 C lf r (F 0) h := cSeq (a := sub fb7 [0]) (b := sub fb7 [1]) (by kernel_rfl) (B := (fun F h => q7_171 C lf r (F 1) h)) (q7_171_eq C lf r KN KE) (q7_174_eq C lf (fun x1 h => q7_171 C lf r x1 h) (fun F h => r (F 2) h) KE)
noncomputable def fs7 (C : YC) (lf : Nat) (a0 : SV) (h : HW) : Rs := q7_175 C lf ff7 (some a0) h
theorem fs7_eq (C : YC) (lf : Nat) (a0 : SV) (h : HW) : yFn Tryz.prog fx7 C lf [a0] h = fs7 C lf a0 h :=
  fnOf (K := (fun F h => ff7 (F 2) h)) (b := fb7) (N := fn7) (by kernel_rfl) (by kernel_rfl) (by kernel_rfl) (((q7_175_eq C lf ff7 (fun F h => ff7 (F 2) h) (fun _ _ _ => none)) (frOf [a0]) h).trans (by kernel_rfl))
noncomputable def ft7 (C : YC) (lf : Nat) (args : List SV) (h : HW) : Rs := match args with | [a0] => fs7 C lf a0 h | _ => none
theorem ft7_eq (C : YC) (lf : Nat) (args : List SV) (h : HW) (r : Out × HW) (e : ft7 C lf args h = some r) : Nat.ble args.length fx7.fn.ntmps = true ∧ yFn Tryz.prog fx7 C lf args h = some r := by
  rcases args with _ | ⟨a0, _ | ⟨_, _⟩⟩ <;> first | (cases e; done) | exact ⟨by kernel_rfl, (fs7_eq ..).trans e⟩
noncomputable def fy7 : YX Tryz.prog := ⟨fx7, ft7, ft7_eq⟩

/-! FN 36 (*tinsel/desc.Proc).Open -/
noncomputable def fx36 : XF Tryz.prog := { f := 36, fn := Tryz.f36, ord := fun _ => .text, isFn := Tryz.func36, isBody := by kernel_rfl, isPlain := by kernel_rfl, isSmall := by kernel_rfl, isOK := by kernel_rfl }
noncomputable def fb36 : Code := Tryz.f36.body.getD .skip
noncomputable def fn36 : Nat := Tryz.f36.ntmps
noncomputable abbrev ev36 (C : YC) (lf : Nat) (p : List Nat) := evY Tryz.prog C fn36 fx36.ord lf (sub fb36 p)
noncomputable def ff36 (x8 x9 : O) (h : HW) : Rs :=
 ob x8 fun a0 =>
 ob x9 fun a1 =>
 some (.ret (.tup [a0, a1]), h)
noncomputable def q36_47 (C : YC) (lf : Nat) (r : K2) (x0 x1 x2 x3 : O) (h : HW) : Rs :=
 ob x0 fun a2 =>
 bc (C (.fn 103) [a2] h) fun y3 h3 =>
 ob (unE .not y3) fun y4 =>
 yIf y4
 (r (some (.int .i64 0)) (some (.int .i64 14)) h3)
 (ob x2 fun a5 =>
 ob (bin Tryz.prog .and 3 a5 (.int .i64 3)) fun y6 =>
 ob (bin Tryz.prog .eql 3 y6 (.int .i64 0)) fun y7 =>
 bc (gd false (some y7) (ob x2 fun a8 =>
 some (.ret a8, h3)) h3) fun y9 h9 =>
 bc (gd false (some y7) (ob (bin Tryz.prog .andNot 3 y9 (.int .i64 255)) fun y10 =>
 some (.ret y10, h9)) h9) fun y11 h11 =>
 bc (gd false (some y7) (ob (bin Tryz.prog .neq 3 y11 (.int .i64 0)) fun y12 =>
 some (.ret y12, h11)) h11) fun y13 h13 =>
 ob (ypk y7 (.bool true) y13) fun y14 =>
 yIf y14
 (r (some (.int .i64 0)) (some (.int .i64 22)) h13)
 (ob x0 fun a15 =>
 bc (C (.fn 104) [a15] h13) fun y16 h16 =>
 ob (bin Tryz.prog .eql 3 y16 (.int .i64 0)) fun y17 =>
 yIf y17
 (r (some (.int .i64 0)) (some (.int .i64 24)) h16)
 (ob x0 fun a18 =>
 ob (semNil a18) fun y19 =>
 ob (fa 0 y19) fun y20 =>
 ob (ld1 y20 h16) fun y21 =>
 ob x0 fun a22 =>
 ob (semNil a22) fun y23 =>
 ob (fa 1 y23) fun y24 =>
 ob (ldN 5 y24 h16) fun y25 =>
 ob x1 fun a26 =>
 ob x2 fun a27 =>
 ob x3 fun a28 =>
 bcn (C (.fn 105) [y21, y25, a26, a27, a28] h16) fun y29 h29 =>
 ob (ext 0 y29) fun y30 =>
 ob (ext 1 y29) fun y31 =>
 ob (bin Tryz.prog .neq 23 y31 (.int .i64 0)) fun y32 =>
 yIf y32
 (r (some (.int .i64 0)) (some y31) h29)
 (ob x0 fun a33 =>
 ob x0 fun a34 =>
 ob (semNil a34) fun y35 =>
 ob (fa 0 y35) fun y36 =>
 ob (ld1 y36 h29) fun y37 =>
 ob x2 fun a38 =>
 ob (bin Tryz.prog .and 3 a38 (.int .i64 4)) fun y39 =>
 ob (bin Tryz.prog .neq 3 y39 (.int .i64 0)) fun y40 =>
 ob (semBuild Tryz.prog 157 [0, 1, 3] [y37, y30, y40]) fun y41 =>
 b2 (ybx 157 y41 h29) fun y42 h42 =>
 ob x2 fun a43 =>
 ob (semBuild Tryz.prog 161 [0, 1] [(.ifc 155 y42), a43]) fun y44 =>
 b2 (ybx 161 y44 h42) fun y45 h45 =>
 bc (C (.fn 106) [a33, y45] h45) fun y46 h46 =>
 r (some y46) (some (.int .i64 0)) h46))))
theorem q36_47_eq (C : YC) (lf : Nat) (r : K2) (KN : KF) (KE : KX) : ∀ F h, ev36 C lf [] F h KN (fun F h => r (F 8) (F 9) h) KE = q36_47 C lf r (F 0) (F 1) (F 2) (F 3) h := by
  intro F h; kernel_rfl
noncomputable def fs36 (C : YC) (lf : Nat) (a0 a1 a2 a3 : SV) (h : HW) : Rs := q36_47 C lf ff36 (some a0) (some a1) (some a2) (some a3) h
theorem fs36_eq (C : YC) (lf : Nat) (a0 a1 a2 a3 : SV) (h : HW) : yFn Tryz.prog fx36 C lf [a0, a1, a2, a3] h = fs36 C lf a0 a1 a2 a3 h :=
  fnOf (K := (fun F h => ff36 (F 8) (F 9) h)) (b := fb36) (N := fn36) (by kernel_rfl) (by kernel_rfl) (by kernel_rfl) (((q36_47_eq C lf ff36 (fun F h => ff36 (F 8) (F 9) h) (fun _ _ _ => none)) (frOf [a0, a1, a2, a3]) h).trans (by kernel_rfl))
noncomputable def ft36 (C : YC) (lf : Nat) (args : List SV) (h : HW) : Rs := match args with | [a0, a1, a2, a3] => fs36 C lf a0 a1 a2 a3 h | _ => none
theorem ft36_eq (C : YC) (lf : Nat) (args : List SV) (h : HW) (r : Out × HW) (e : ft36 C lf args h = some r) : Nat.ble args.length fx36.fn.ntmps = true ∧ yFn Tryz.prog fx36 C lf args h = some r := by
  rcases args with _ | ⟨a0, _ | ⟨a1, _ | ⟨a2, _ | ⟨a3, _ | ⟨_, _⟩⟩⟩⟩⟩ <;> first | (cases e; done) | exact ⟨by kernel_rfl, (fs36_eq ..).trans e⟩
noncomputable def fy36 : YX Tryz.prog := ⟨fx36, ft36, ft36_eq⟩

/-! FN 37 (*tinsel/desc.Proc).Read -/
noncomputable def fx37 : XF Tryz.prog := { f := 37, fn := Tryz.f37, ord := fun _ => .text, isFn := Tryz.func37, isBody := by kernel_rfl, isPlain := by kernel_rfl, isSmall := by kernel_rfl, isOK := by kernel_rfl }
noncomputable def fb37 : Code := Tryz.f37.body.getD .skip
noncomputable def fn37 : Nat := Tryz.f37.ntmps
noncomputable abbrev ev37 (C : YC) (lf : Nat) (p : List Nat) := evY Tryz.prog C fn37 fx37.ord lf (sub fb37 p)
noncomputable def ff37 (x6 x7 : O) (h : HW) : Rs :=
 ob x6 fun a0 =>
 ob x7 fun a1 =>
 some (.ret (.tup [a0, a1]), h)
noncomputable def q37_20 (C : YC) (lf : Nat) (r : K2) (x0 x1 x2 : O) (h : HW) : Rs :=
 ob x0 fun a2 =>
 ob x1 fun a3 =>
 bc (C (.fn 107) [a2, a3] h) fun y4 h4 =>
 ob (ext 0 y4) fun y5 =>
 ob (ext 1 y4) fun y6 =>
 ob (bin Tryz.prog .neq 23 y6 (.int .i64 0)) fun y7 =>
 yIf y7
 (r (some (.val (.slice none 0 0))) (some y6) h4)
 (ob (semNil y5) fun y8 =>
 ob (fa 1 y8) fun y9 =>
 ob (ld1 y9 h4) fun y10 =>
 ob (bin Tryz.prog .and 3 y10 (.int .i64 1)) fun y11 =>
 ob (bin Tryz.prog .eql 3 y11 (.int .i64 0)) fun y12 =>
 yIf y12
 (r (some (.val (.slice none 0 0))) (some (.int .i64 9)) h4)
 (ob (semNil y5) fun y13 =>
 ob (fa 0 y13) fun y14 =>
 ob (ld1 y14 h4) fun y15 =>
 ob x2 fun a16 =>
 bc (iv Tryz.prog C "tinsel/desc.read" y15 [a16] h4) fun y17 h17 =>
 ob (ext 0 y17) fun y18 =>
 ob (ext 1 y17) fun y19 =>
 r (some y18) (some y19) h17))
theorem q37_20_eq (C : YC) (lf : Nat) (r : K2) (KN : KF) (KE : KX) : ∀ F h, ev37 C lf [] F h KN (fun F h => r (F 6) (F 7) h) KE = q37_20 C lf r (F 0) (F 1) (F 2) h := by
  intro F h; kernel_rfl
noncomputable def fs37 (C : YC) (lf : Nat) (a0 a1 a2 : SV) (h : HW) : Rs := q37_20 C lf ff37 (some a0) (some a1) (some a2) h
theorem fs37_eq (C : YC) (lf : Nat) (a0 a1 a2 : SV) (h : HW) : yFn Tryz.prog fx37 C lf [a0, a1, a2] h = fs37 C lf a0 a1 a2 h :=
  fnOf (K := (fun F h => ff37 (F 6) (F 7) h)) (b := fb37) (N := fn37) (by kernel_rfl) (by kernel_rfl) (by kernel_rfl) (((q37_20_eq C lf ff37 (fun F h => ff37 (F 6) (F 7) h) (fun _ _ _ => none)) (frOf [a0, a1, a2]) h).trans (by kernel_rfl))
noncomputable def ft37 (C : YC) (lf : Nat) (args : List SV) (h : HW) : Rs := match args with | [a0, a1, a2] => fs37 C lf a0 a1 a2 h | _ => none
theorem ft37_eq (C : YC) (lf : Nat) (args : List SV) (h : HW) (r : Out × HW) (e : ft37 C lf args h = some r) : Nat.ble args.length fx37.fn.ntmps = true ∧ yFn Tryz.prog fx37 C lf args h = some r := by
  rcases args with _ | ⟨a0, _ | ⟨a1, _ | ⟨a2, _ | ⟨_, _⟩⟩⟩⟩ <;> first | (cases e; done) | exact ⟨by kernel_rfl, (fs37_eq ..).trans e⟩
noncomputable def fy37 : YX Tryz.prog := ⟨fx37, ft37, ft37_eq⟩

/-! FN 38 (*tinsel/desc.Proc).Write -/
noncomputable def fx38 : XF Tryz.prog := { f := 38, fn := Tryz.f38, ord := fun _ => .text, isFn := Tryz.func38, isBody := by kernel_rfl, isPlain := by kernel_rfl, isSmall := by kernel_rfl, isOK := by kernel_rfl }
noncomputable def fb38 : Code := Tryz.f38.body.getD .skip
noncomputable def fn38 : Nat := Tryz.f38.ntmps
noncomputable abbrev ev38 (C : YC) (lf : Nat) (p : List Nat) := evY Tryz.prog C fn38 fx38.ord lf (sub fb38 p)
noncomputable def ff38 (x6 x7 : O) (h : HW) : Rs :=
 ob x6 fun a0 =>
 ob x7 fun a1 =>
 some (.ret (.tup [a0, a1]), h)
noncomputable def q38_20 (C : YC) (lf : Nat) (r : K2) (x0 x1 x2 : O) (h : HW) : Rs :=
 ob x0 fun a2 =>
 ob x1 fun a3 =>
 bc (C (.fn 107) [a2, a3] h) fun y4 h4 =>
 ob (ext 0 y4) fun y5 =>
 ob (ext 1 y4) fun y6 =>
 ob (bin Tryz.prog .neq 23 y6 (.int .i64 0)) fun y7 =>
 yIf y7
 (r (some (.int .i64 0)) (some y6) h4)
 (ob (semNil y5) fun y8 =>
 ob (fa 1 y8) fun y9 =>
 ob (ld1 y9 h4) fun y10 =>
 ob (bin Tryz.prog .and 3 y10 (.int .i64 2)) fun y11 =>
 ob (bin Tryz.prog .eql 3 y11 (.int .i64 0)) fun y12 =>
 yIf y12
 (r (some (.int .i64 0)) (some (.int .i64 9)) h4)
 (ob (semNil y5) fun y13 =>
 ob (fa 0 y13) fun y14 =>
 ob (ld1 y14 h4) fun y15 =>
 ob x2 fun a16 =>
 bc (iv Tryz.prog C "tinsel/desc.write" y15 [a16] h4) fun y17 h17 =>
 ob (ext 0 y17) fun y18 =>
 ob (ext 1 y17) fun y19 =>
 r (some y18) (some y19) h17))
theorem q38_20_eq (C : YC) (lf : Nat) (r : K2) (KN : KF) (KE : KX) : ∀ F h, ev38 C lf [] F h KN (fun F h => r (F 6) (F 7) h) KE = q38_20 C lf r (F 0) (F 1) (F 2) h := by
  intro F h; kernel_rfl
noncomputable def fs38 (C : YC) (lf : Nat) (a0 a1 a2 : SV) (h : HW) : Rs := q38_20 C lf ff38 (some a0) (some a1) (some a2) h
theorem fs38_eq (C : YC) (lf : Nat) (a0 a1 a2 : SV) (h : HW) : yFn Tryz.prog fx38 C lf [a0, a1, a2] h = fs38 C lf a0 a1 a2 h :=
  fnOf (K := (fun F h => ff38 (F 6) (F 7) h)) (b := fb38) (N := fn38) (by kernel_rfl) (by kernel_rfl) (by kernel_rfl) (((q38_20_eq C lf ff38 (fun F h => ff38 (F 6) (F 7) h) (fun _ _ _ => none)) (frOf [a0, a1, a2]) h).trans (by kernel_rfl))
noncomputable def ft38 (C : YC) (lf : Nat) (args : List SV) (h : HW) : Rs := match args with | [a0, a1, a2] => fs38 C lf a0 a1 a2 h | _ => none
theorem ft38_eq (C : YC) (lf : Nat) (args : List SV) (h : HW) (r : Out × HW) (e : ft38 C lf args h = some r) : Nat.ble args.length fx38.fn.ntmps = true ∧ yFn Tryz.prog fx38 C lf args h = some r := by
  rcases args with _ | ⟨a0, _ | ⟨a1, _ | ⟨a2, _ | ⟨_, _⟩⟩⟩⟩ <;> first | (cases e; done) | exact ⟨by kernel_rfl, (fs38_eq ..).trans e⟩
noncomputable def fy38 : YX Tryz.prog := ⟨fx38, ft38, ft38_eq⟩

/-! FN 39 (*tinsel/desc.Proc).Pipe -/
noncomputable def fx39 : XF Tryz.prog := { f := 39, fn := Tryz.f39, ord := fun _ => .text, isFn := Tryz.func39, isBody := by kernel_rfl, isPlain := by kernel_rfl, isSmall := by kernel_rfl, isOK := by kernel_rfl }
noncomputable def fb39 : Code := Tryz.f39.body.getD .skip
noncomputable def fn39 : Nat := Tryz.f39.ntmps
noncomputable abbrev ev39 (C : YC) (lf : Nat) (p : List Nat) := evY Tryz.prog C fn39 fx39.ord lf (sub fb39 p)
noncomputable def ff39 (x2 x3 x4 : O) (h : HW) : Rs :=
 ob x2 fun a0 =>
 ob x3 fun a1 =>
 ob x4 fun a2 =>
 some (.ret (.tup [a0, a1, a2]), h)
noncomputable def q39_21 (C : YC) (lf : Nat) (r : K3) (x0 : O) (h : HW) : Rs :=
 ob x0 fun a3 =>
 bc (C (.fn 103) [a3] h) fun y4 h4 =>
 ob (unE .not y4) fun y5 =>
 yIf y5
 (r (some (.int .i64 0)) (some (.int .i64 0)) (some (.int .i64 14)) h4)
 (ob x0 fun a6 =>
 bc (C (.fn 104) [a6] h4) fun y7 h7 =>
 ob (bin Tryz.prog .lss 3 y7 (.int .i64 2)) fun y8 =>
 yIf y8
 (r (some (.int .i64 0)) (some (.int .i64 0)) (some (.int .i64 24)) h7)
 (ob (semBuild Tryz.prog 168 [1, 2] [(.bool true), (.bool true)]) fun y9 =>
 b2 (ybx 168 y9 h7) fun y10 h10 =>
 ob x0 fun a11 =>
 ob (semBuild Tryz.prog 170 [0] [y10]) fun y12 =>
 ob (semBuild Tryz.prog 161 [0, 1] [(.ifc 170 y12), (.int .i64 1)]) fun y13 =>
 b2 (ybx 161 y13 h10) fun y14 h14 =>
 bc (C (.fn 106) [a11, y14] h14) fun y15 h15 =>
 ob x0 fun a16 =>
 ob (semBuild Tryz.prog 171 [0] [y10]) fun y17 =>
 ob (semBuild Tryz.prog 161 [0, 1] [(.ifc 171 y17), (.int .i64 2)]) fun y18 =>
 b2 (ybx 161 y18 h15) fun y19 h19 =>
 bc (C (.fn 106) [a16, y19] h19) fun y20 h20 =>
 r (some y15) (some y20) (some (.int .i64 0)) h20))
theorem q39_21_eq (C : YC) (lf : Nat) (r : K3) (KN : KF) (KE : KX) : ∀ F h, ev39 C lf [] F h KN (fun F h => r (F 2) (F 3) (F 4) h) KE = q39_21 C lf r (F 0) h := by
  intro F h; kernel_rfl
noncomputable def fs39 (C : YC) (lf : Nat) (a0 : SV) (h : HW) : Rs := q39_21 C lf ff39 (some a0) h
theorem fs39_eq (C : YC) (lf : Nat) (a0 : SV) (h : HW) : yFn Tryz.prog fx39 C lf [a0] h = fs39 C lf a0 h :=
  fnOf (K := (fun F h => ff39 (F 2) (F 3) (F 4) h)) (b := fb39) (N := fn39) (by kernel_rfl) (by kernel_rfl) (by kernel_rfl) (((q39_21_eq C lf ff39 (fun F h => ff39 (F 2) (F 3) (F 4) h) (fun _ _ _ => none)) (frOf [a0]) h).trans (by kernel_rfl))
noncomputable def ft39 (C : YC) (lf : Nat) (args : List SV) (h : HW) : Rs := match args with | [a0] => fs39 C lf a0 h | _ => none
theorem ft39_eq (C : YC) (lf : Nat) (args : List SV) (h : HW) (r : Out × HW) (e : ft39 C lf args h = some r) : Nat.ble args.length fx39.fn.ntmps = true ∧ yFn Tryz.prog fx39 C lf args h = some r := by
  rcases args with _ | ⟨a0, _ | ⟨_, _⟩⟩ <;> first | (cases e; done) | exact ⟨by kernel_rfl, (fs39_eq ..).trans e⟩
noncomputable def fy39 : YX Tryz.prog := ⟨fx39, ft39, ft39_eq⟩

/-! FN 40 (*tinsel/desc.Proc).Stat -/
noncomputable def fx40 : XF Tryz.prog := { f := 40, fn := Tryz.f40, ord := fun _ => .text, isFn := Tryz.func40, isBody := by kernel_rfl, isPlain := by kernel_rfl, isSmall := by kernel_rfl, isOK := by kernel_rfl }
noncomputable def fb40 : Code := Tryz.f40.body.getD .skip
noncomputable def fn40 : Nat := Tryz.f40.ntmps
noncomputable abbrev ev40 (C : YC) (lf : Nat) (p : List Nat) := evY Tryz.prog C fn40 fx40.ord lf (sub fb40 p)
noncomputable def ff40 (x4 x5 : O) (h : HW) : Rs :=
 ob x4 fun a0 =>
 ob (ldN 10 a0 h) fun y1 =>
 ob x5 fun a2 =>
 some (.ret (.tup [y1, a2]), h)
noncomputable def q40_10 (C : YC) (lf : Nat) (r : K2) (x0 x1 : O) (h : HW) : Rs :=
 b2 (yAl Tryz.prog 58 h) fun y3 h3 =>
 ob x0 fun a4 =>
 ob x1 fun a5 =>
 bc (C (.fn 108) [a4, a5, (.bool true)] h3) fun y6 h6 =>
 ob (ext 0 y6) fun y7 =>
 ob (ext 1 y6) fun y8 =>
 ob (st 10 y3 y7 h6) fun h9 =>
 r (some y3) (some y8) h9
theorem q40_10_eq (C : YC) (lf : Nat) (r : K2) (KN : KF) (KE : KX) : ∀ F h, ev40 C lf [] F h KN (fun F h => r (F 4) (F 5) h) KE = q40_10 C lf r (F 0) (F 1) h := by
  intro F h; kernel_rfl
noncomputable def fs40 (C : YC) (lf : Nat) (a0 a1 : SV) (h : HW) : Rs := q40_10 C lf ff40 (some a0) (some a1) h
theorem fs40_eq (C : YC) (lf : Nat) (a0 a1 : SV) (h : HW) : yFn Tryz.prog fx40 C lf [a0, a1] h = fs40 C lf a0 a1 h :=
  fnOf (K := (fun F h => ff40 (F 4) (F 5) h)) (b := fb40) (N := fn40) (by kernel_rfl) (by kernel_rfl) (by kernel_rfl) (((q40_10_eq C lf ff40 (fun F h => ff40 (F 4) (F 5) h) (fun _ _ _ => none)) (frOf [a0, a1]) h).trans (by kernel_rfl))
noncomputable def ft40 (C : YC) (lf : Nat) (args : List SV) (h : HW) : Rs := match args with | [a0, a1] => fs40 C lf a0 a1 h | _ => none
theorem ft40_eq (C : YC) (lf : Nat) (args : List SV) (h : HW) (r : Out × HW) (e : ft40 C lf args h = some r) : Nat.ble args.length fx40.fn.ntmps = true ∧ yFn Tryz.prog fx40 C lf args h = some r := by
  rcases args with _ | ⟨a0, _ | ⟨a1, _ | ⟨_, _⟩⟩⟩ <;> first | (cases e; done) | exact ⟨by kernel_rfl, (fs40_eq ..).trans e⟩
noncomputable def fy40 : YX Tryz.prog := ⟨fx40, ft40, ft40_eq⟩

/-! FN 41 (*tinsel/desc.Proc).Getcwd -/
noncomputable def fx41 : XF Tryz.prog := { f := 41, fn := Tryz.f41, ord := fun _ => .text, isFn := Tryz.func41, isBody := by kernel_rfl, isPlain := by kernel_rfl, isSmall := by kernel_rfl, isOK := by kernel_rfl }
noncomputable def fb41 : Code := Tryz.f41.body.getD .skip
noncomputable def fn41 : Nat := Tryz.f41.ntmps
noncomputable abbrev ev41 (C : YC) (lf : Nat) (p : List Nat) := evY Tryz.prog C fn41 fx41.ord lf (sub fb41 p)
noncomputable def ff41 (x2 x3 : O) (h : HW) : Rs :=
 ob x2 fun a0 =>
 ob x3 fun a1 =>
 some (.ret (.tup [a0, a1]), h)
noncomputable def q41_17 (C : YC) (lf : Nat) (r : K2) (x0 : O) (h : HW) : Rs :=
 ob x0 fun a2 =>
 bc (C (.fn 103) [a2] h) fun y3 h3 =>
 ob (unE .not y3) fun y4 =>
 yIf y4
 (r (some (.str (bs []))) (some (.int .i64 14)) h3)
 (ob x0 fun a5 =>
 ob (semNil a5) fun y6 =>
 ob (fa 0 y6) fun y7 =>
 ob (ld1 y7 h3) fun y8 =>
 ob x0 fun a9 =>
 ob (semNil a9) fun y10 =>
 ob (fa 1 y10) fun y11 =>
 ob (fa 4 y11) fun y12 =>
 ob (ld1 y12 h3) fun y13 =>
 bcn (C (.fn 109) [y8, y13] h3) fun y14 h14 =>
 ob (ext 0 y14) fun y15 =>
 ob (ext 1 y14) fun y16 =>
 r (some y15) (some y16) h14)
theorem q41_17_eq (C : YC) (lf : Nat) (r : K2) (KN : KF) (KE : KX) : ∀ F h, ev41 C lf [] F h KN (fun F h => r (F 2) (F 3) h) KE = q41_17 C lf r (F 0) h := by
  intro F h; kernel_rfl
noncomputable def fs41 (C : YC) (lf : Nat) (a0 : SV) (h : HW) : Rs := q41_17 C lf ff41 (some a0) h
theorem fs41_eq (C : YC) (lf : Nat) (a0 : SV) (h : HW) : yFn Tryz.prog fx41 C lf [a0] h = fs41 C lf a0 h :=
  fnOf (K := (fun F h => ff41 (F 2) (F 3) h)) (b := fb41) (N := fn41) (by kernel_rfl) (by kernel_rfl) (by kernel_rfl) (((q41_17_eq C lf ff41 (fun F h => ff41 (F 2) (F 3) h) (fun _ _ _ => none)) (frOf [a0]) h).trans (by kernel_rfl))
noncomputable def ft41 (C : YC) (lf : Nat) (args : List SV) (h : HW) : Rs := match args with | [a0] => fs41 C lf a0 h | _ => none
theorem ft41_eq (C : YC) (lf : Nat) (args : List SV) (h : HW) (r : Out × HW) (e : ft41 C lf args h = some r) : Nat.ble args.length fx41.fn.ntmps = true ∧ yFn Tryz.prog fx41 C lf args h = some r := by
  rcases args with _ | ⟨a0, _ | ⟨_, _⟩⟩ <;> first | (cases e; done) | exact ⟨by kernel_rfl, (fs41_eq ..).trans e⟩
noncomputable def fy41 : YX Tryz.prog := ⟨fx41, ft41, ft41_eq⟩

/-! FN 42 (*tinsel/desc.Proc).Readdir -/
noncomputable def fx42 : XF Tryz.prog := { f := 42, fn := Tryz.f42, ord := fun _ => .text, isFn := Tryz.func42, isBody := by kernel_rfl, isPlain := by kernel_rfl, isSmall := by kernel_rfl, isOK := by kernel_rfl }
noncomputable def fb42 : Code := Tryz.f42.body.getD .skip
noncomputable def fn42 : Nat := Tryz.f42.ntmps
noncomputable abbrev ev42 (C : YC) (lf : Nat) (p : List Nat) := evY Tryz.prog C fn42 fx42.ord lf (sub fb42 p)
noncomputable def ff42 (x4 x5 x6 : O) (h : HW) : Rs :=
 ob x4 fun a0 =>
 ob (ldN 3 a0 h) fun y1 =>
 ob x5 fun a2 =>
 ob x6 fun a3 =>
 some (.ret (.tup [y1, a2, a3]), h)
noncomputable def q42_33 (C : YC) (lf : Nat) (r : K3) (x4 x9 : O) (h : HW) : Rs :=
 ob x9 fun a4 =>
 ob (semNil a4) fun y5 =>
 ob (fa 4 y5) fun y6 =>
 ob (ld1 y6 h) fun y7 =>
 ob (lenE Tryz.prog 123 y7) fun y8 =>
 ob (bin Tryz.prog .eql 3 y8 (.int .i64 0)) fun y9 =>
 yIf y9
 (ob (semBuild Tryz.prog 81 [] []) fun y10 =>
 ob x4 fun a11 =>
 ob (st 3 a11 y10 h) fun h12 =>
 r x4 (some (.bool false)) (some (.int .i64 0)) h12)
 (ob x9 fun a13 =>
 ob (semNil a13) fun y14 =>
 ob (fa 4 y14) fun y15 =>
 ob (ld1 y15 h) fun y16 =>
 ob (ixS 3 y16 (.int .i64 0)) fun y17 =>
 ob (ldN 3 y17 h) fun y18 =>
 b2 (yAl Tryz.prog 81 h) fun y19 h19 =>
 ob (st 3 y19 y18 h19) fun h20 =>
 ob x9 fun a21 =>
 ob x9 fun a22 =>
 ob (semNil a22) fun y23 =>
 ob (fa 4 y23) fun y24 =>
 ob (ld1 y24 h20) fun y25 =>
 ob (semSlice Tryz.prog 123 y25 (some (.int .i64 1)) none) fun y26 =>
 ob (semNil a21) fun y27 =>
 ob (fa 4 y27) fun y28 =>
 ob (st 1 y28 y26 h20) fun h29 =>
 ob (ldN 3 y19 h29) fun y30 =>
 ob x4 fun a31 =>
 ob (st 3 a31 y30 h29) fun h32 =>
 r x4 (some (.bool true)) (some (.int .i64 0)) h32)
theorem q42_33_eq (C : YC) (lf : Nat) (r : K3) (KN : KF) (KE : KX) : ∀ F h, ev42 C lf [1, 1, 1, 1, 1, 1] F h KN (fun F h => r (F 4) (F 5) (F 6) h) KE = q42_33 C lf r (F 4) (F 9) h := by
  intro F h; kernel_rfl
noncomputable def q42_62 (C : YC) (lf : Nat) (n : K2) (r : K3) (x0 x4 x9 : O) (h : HW) : Rs :=
 ob x9 fun a34 =>
 ob (semNil a34) fun y35 =>
 ob (fa 5 y35) fun y36 =>
 ob (ld1 y36 h) fun y37 =>
 ob (unE .not y37) fun y38 =>
 yIf y38
 (ob x0 fun a39 =>
 ob (semNil a39) fun y40 =>
 ob (fa 0 y40) fun y41 =>
 ob (ld1 y41 h) fun y42 =>
 ob x9 fun a43 =>
 ob (semNil a43) fun y44 =>
 ob (fa 1 y44) fun y45 =>
 ob (ld1 y45 h) fun y46 =>
 bcn (C (.fn 110) [y42, y46] h) fun y47 h47 =>
 ob (ext 0 y47) fun y48 =>
 ob (ext 1 y47) fun y49 =>
 ob (bin Tryz.prog .neq 23 y49 (.int .i64 0)) fun y50 =>
 yIf y50
 (ob (semBuild Tryz.prog 81 [] []) fun y51 =>
 ob x4 fun a52 =>
 ob (st 3 a52 y51 h47) fun h53 =>
 r x4 (some (.bool false)) (some y49) h53)
 (ob x9 fun a54 =>
 ob x9 fun a55 =>
 ob (semNil a54) fun y56 =>
 ob (fa 4 y56) fun y57 =>
 ob (st 1 y57 y48 h47) fun h58 =>
 ob (semNil a55) fun y59 =>
 ob (fa 5 y59) fun y60 =>
 ob (st 1 y60 (.bool true) h58) fun h61 =>
 n x4 x9 h61))
 (n x4 x9 h)
theorem q42_62_eq (C : YC) (lf : Nat) (n : K2) (r : K3) (KE : KX) : ∀ F h, ev42 C lf [1, 1, 1, 1, 1, 0] F h (fun F h => n (F 4) (F 9) h) (fun F h => r (F 4) (F 5) (F 6) h) KE = q42_62 C lf n r (F 0) (F 4) (F 9) h := by
  intro F h; kernel_rfl
noncomputable def q42_63 (C : YC) (lf : Nat) (r : K3) (x0 x4 x9 : O) (h : HW) : Rs :=
 q42_62 C lf (fun x4 x9 h => q42_33 C lf r x4 x9 h) r x0 x4 x9 h
theorem q42_63_eq (C : YC) (lf : Nat) (r : K3) (KN : KF) (KE : KX) : ∀ F h, ev42 C lf [1, 1, 1, 1, 1] F h KN (fun F h => r (F 4) (F 5) (F 6) h) KE = q42_63 C lf r (F 0) (F 4) (F 9) h := cSeq (a := sub fb42 [1, 1, 1, 1, 1, 0]) (b := sub fb42 [1, 1, 1, 1, 1, 1]) (by kernel_rfl) (B := (fun F h => q42_33 C lf r (F 4) (F 9) h)) (q42_33_eq C lf r KN KE) (q42_62_eq C lf (fun x4 x9 h => q42_33 C lf r x4 x9 h) r KE)
noncomputable def q42_69 (C : YC) (lf : Nat) (n : K3) (r : K3) (x0 x4 x9 x10 : O) (h : HW) : Rs :=
 ob x10 fun a64 =>
 ob (unE .not a64) fun y65 =>
 yIf y65
 (ob (semBuild Tryz.prog 81 [] []) fun y66 =>
 ob x4 fun a67 =>
 ob (st 3 a67 y66 h) fun h68 =>
 r x4 (some (.bool false)) (some (.int .i64 20)) h68)
 (n x0 x4 x9 h)
theorem q42_69_eq (C : YC) (lf : Nat) (n : K3) (r : K3) (KE : KX) : ∀ F h, ev42 C lf [1, 1, 1, 1, 0] F h (fun F h => n (F 0) (F 4) (F 9) h) (fun F h => r (F 4) (F 5) (F 6) h) KE = q42_69 C lf n r (F 0) (F 4) (F 9) (F 10) h := by
  intro F h; kernel_rfl
noncomputable def q42_70 (C : YC) (lf : Nat) (r : K3) (x0 x4 x9 x10 : O) (h : HW) : Rs :=
 q42_69 C lf (fun x0 x4 x9 h => q42_63 C lf r x0 x4 x9 h) r x0 x4 x9 x10 h
theorem q42_70_eq (C : YC) (lf : Nat) (r : K3) (KN : KF) (KE : KX) : ∀ F h, ev42 C lf [1, 1, 1, 1] F h KN (fun F h => r (F 4) (F 5) (F 6) h) KE = q42_70 C lf r (F 0) (F 4) (F 9) (F 10) h := cSeq (a := sub fb42 [1, 1, 1, 1, 0]) (b := sub fb42 [1, 1, 1, 1, 1]) (by kernel_rfl) (B := (fun F h => q42_63 C lf r (F 0) (F 4) (F 9) h)) (q42_63_eq C lf r KN KE) (q42_69_eq C lf (fun x0 x4 x9 h => q42_63 C lf r x0 x4 x9 h) r KE)
noncomputable def q42_78 (C : YC) (lf : Nat) (n : K4) (x0 x4 x7 : O) (h : HW) : Rs :=
 ob x7 fun a71 =>
 ob (semNil a71) fun y72 =>
 ob (fa 0 y72) fun y73 =>
 ob (ld1 y73 h) fun y74 =>
 ob (semAssert Tryz.prog y74 155 true) fun y75 =>
 ob (ext 0 y75) fun y76 =>
 ob (ext 1 y75) fun y77 =>
 n x0 x4 (some y76) (some y77) h
theorem q42_78_eq (C : YC) (lf : Nat) (n : K4) (KR : KF) (KE : KX) : ∀ F h, ev42 C lf [1, 1, 1, 0] F h (fun F h => n (F 0) (F 4) (F 9) (F 10) h) KR KE = q42_78 C lf n (F 0) (F 4) (F 7) h := by
  intro F h; kernel_rfl
noncomputable def q42_79 (C : YC) (lf : Nat) (r : K3) (x0 x4 x7 : O) (h : HW) : Rs :=
 q42_78 C lf (fun x0 x4 x9 x10 h => q42_70 C lf r x0 x4 x9 x10 h) x0 x4 x7 h
theorem q42_79_eq (C : YC) (lf : Nat) (r : K3) (KN : KF) (KE : KX) : ∀ F h, ev42 C lf [1, 1, 1] F h KN (fun F h => r (F 4) (F 5) (F 6) h) KE = q42_79 C lf r (F 0) (F 4) (F 7) h := cSeq (a := sub fb42 [1, 1, 1, 0]) (b := sub fb42 [1, 1, 1, 1]) (by kernel_rfl) (B := (fun F h => q42_70 C lf r (F 0) (F 4) (F 9) (F 10) h)) (q42_70_eq C lf r KN KE) (q42_78_eq C lf (fun x0 x4 x9 x10 h => q42_70 C lf r x0 x4 x9 x10 h) (fun F h => r (F 4) (F 5) (F 6) h) KE)
noncomputable def q42_86 (C : YC) (lf : Nat) (n : K3) (r : K3) (x0 x4 x7 x8 : O) (h : HW) : Rs :=
 ob x8 fun a80 =>
 ob (bin Tryz.prog .neq 23 a80 (.int .i64 0)) fun y81 =>
 yIf y81
 (ob (semBuild Tryz.prog 81 [] []) fun y82 =>
 ob x8 fun a83 =>
 ob x4 fun a84 =>
 ob (st 3 a84 y82 h) fun h85 =>
 r x4 (some (.bool false)) (some a83) h85)
 (n x0 x4 x7 h)
theorem q42_86_eq (C : YC) (lf : Nat) (n : K3) (r : K3) (KE : KX) : ∀ F h, ev42 C lf [1, 1, 0] F h (fun F h => n (F 0) (F 4) (F 7) h) (fun F h => r (F 4) (F 5) (F 6) h) KE = q42_86 C lf n r (F 0) (F 4) (F 7) (F 8) h := by
  intro F h; kernel_rfl
noncomputable def q42_87 (C : YC) (lf : Nat) (r : K3) (x0 x4 x7 x8 : O) (h : HW) : Rs :=
 q42_86 C lf (fun x0 x4 x7 h => q42_79 C lf r x0 x4 x7 h) r x0 x4 x7 x8 h
theorem q42_87_eq (C : YC) (lf : Nat) (r : K3) (KN : KF) (KE : KX) : ∀ F h, ev42 C lf [1, 1] F h KN (fun F h => r (F 4) (F 5) (F 6) h) KE = q42_87 C lf r (F 0) (F 4) (F 7) (F 8) h := cSeq (a := sub fb42 [1, 1, 0]) (b := sub fb42 [1, 1, 1]) (by kernel_rfl) (B := (fun F h => q42_79 C lf r (F 0) (F 4) (F 7) h)) (q42_79_eq C lf r KN KE) (q42_86_eq C lf (fun x0 x4 x7 h => q42_79 C lf r x0 x4 x7 h) r KE)
noncomputable def q42_93 (C : YC) (lf : Nat) (n : K4) (x0 x1 x4 : O) (h : HW) : Rs :=
 ob x0 fun a88 =>
 ob x1 fun a89 =>
 bc (C (.fn 107) [a88, a89] h) fun y90 h90 =>
 ob (ext 0 y90) fun y91 =>
 ob (ext 1 y90) fun y92 =>
 n x0 x4 (some y91) (some y92) h90
theorem q42_93_eq (C : YC) (lf : Nat) (n : K4) (KR : KF) (KE : KX) : ∀ F h, ev42 C lf [1, 0] F h (fun F h => n (F 0) (F 4) (F 7) (F 8) h) KR KE = q42_93 C lf n (F 0) (F 1) (F 4) h := by
  intro F h; kernel_rfl
noncomputable def q42_94 (C : YC) (lf : Nat) (r : K3) (x0 x1 x4 : O) (h : HW) : Rs :=
 q42_93 C lf (fun x0 x4 x7 x8 h => q42_87 C lf r x0 x4 x7 x8 h) x0 x1 x4 h
theorem q42_94_eq (C : YC) (lf : Nat) (r : K3) (KN : KF) (KE : KX) : ∀ F h, ev42 C lf [1] F h KN (fun F h => r (F 4) (F 5) (F 6) h) KE = q42_94 C lf r (F 0) (F 1) (F 4) h := cSeq (a := sub fb42 [1, 0]) (b := sub fb42 [1, 1]) (by kernel_rfl) (B := (fun F h => q42_87 C lf r (F 0) (F 4) (F 7) (F 8) h)) (q42_87_eq C lf r KN KE) (q42_93_eq C lf (fun x0 x4 x7 x8 h => q42_87 C lf r x0 x4 x7 x8 h) (fun F h => r (F 4) (F 5) (F 6) h) KE)
noncomputable def q42_96 (C : YC) (lf : Nat) (n : K3) (x0 x1 : O) (h : HW) : Rs :=
 b2 (yAl Tryz.prog 81 h) fun y95 h95 =>
 n x0 x1 (some y95) h95
theorem q42_96_eq (C : YC) (lf : Nat) (n : K3) (KR : KF) (KE : KX) : ∀ F h, ev42 C lf [0] F h (fun F h => n (F 0) (F 1) (F 4) h) KR KE = q42_96 C lf n (F 0) (F 1) h := by
  intro F h; kernel_rfl
noncomputable def q42_97 (C : YC) (lf : Nat) (r : K3) (x0 x1 : O) (h : HW) : Rs :=
 q42_96 C lf (fun x0 x1 x4 h => q42_94 C lf r x0 x1 x4 h) x0 x1 h
theorem q42_97_eq (C : YC) (lf : Nat) (r : K3) (KN : KF) (KE : KX) : ∀ F h, ev42 C lf [] F h KN (fun F h => r (F 4) (F 5) (F 6) h) KE = q42_97 C lf r (F 0) (F 1) h := cSeq (a := sub fb42 [0]) (b := sub fb42 [1]) (by kernel_rfl) (B := (fun F h => q42_94 C lf r (F 0) (F 1) (F 4) h)) (q42_94_eq C lf r KN KE) (q42_96_eq C lf (fun x0 x1 x4 h => q42_94 C lf r x0 x1 x4 h) (fun F h => r (F 4) (F 5) (F 6) h) KE)
noncomputable def fs42 (C : YC) (lf : Nat) (a0 a1 : SV) (h : HW) : Rs := q42_97 C lf ff42 (some a0) (some a1) h
theorem fs42_eq (C : YC) (lf : Nat) (a0 a1 : SV) (h : HW) : yFn Tryz.prog fx42 C lf [a0, a1] h = fs42 C lf a0 a1 h :=
  fnOf (K := (fun F h => ff42 (F 4) (F 5) (F 6) h)) (b := fb42) (N := fn42) (by kernel_rfl) (by kernel_rfl) (by kernel_rfl) (((q42_97_eq C lf ff42 (fun F h => ff42 (F 4) (F 5) (F 6) h) (fun _ _ _ => none)) (frOf [a0, a1]) h).trans (by kernel_rfl))
noncomputable def ft42 (C : YC) (lf : Nat) (args : List SV) (h : HW) : Rs := match args with | [a0, a1] => fs42 C lf a0 a1 h | _ => none
theorem ft42_eq (C : YC) (lf : Nat) (args : List SV) (h : HW) (r : Out × HW) (e : ft42 C lf args h = some r) : Nat.ble args.length fx42.fn.ntmps = true ∧ yFn Tryz.prog fx42 C lf args h = some r := by
  rcases args with _ | ⟨a0, _ | ⟨a1, _ | ⟨_, _⟩⟩⟩ <;> first | (cases e; done) | exact ⟨by kernel_rfl, (fs42_eq ..).trans e⟩
noncomputable def fy42 : YX Tryz.prog := ⟨fx42, ft42, ft42_eq⟩

/-! FN 43 (*tinsel/desc.Proc).CloseAll -/
noncomputable def fx43 : XF Tryz.prog := { f := 43, fn := Tryz.f43, ord := fun _ => .text, isFn := Tryz.func43, isBody := by kernel_rfl, isPlain := by kernel_rfl, isSmall := by kernel_rfl, isOK := by kernel_rfl }
noncomputable def fb43 : Code := Tryz.f43.body.getD .skip
noncomputable def fn43 : Nat := Tryz.f43.ntmps
noncomputable abbrev ev43 (C : YC) (lf : Nat) (p : List Nat) := evY Tryz.prog C fn43 fx43.ord lf (sub fb43 p)
noncomputable def ff43 (h : HW) : Rs :=
 some (.ret (.tup []), h)
noncomputable def q43_12 (C : YC) (lf : Nat) (n : K4) (e0 : K0) (x0 x5 x6 x7 : O) (h : HW) : Rs :=
 ob x7 fun a1 =>
 ob x6 fun a2 =>
 ob (bin Tryz.prog .lss 3 a1 a2) fun y3 =>
 yIf y3
 (ob x5 fun a4 =>
 ob x7 fun a5 =>
 ob (ixS 1 a4 a5) fun y6 =>
 ob (ld1 y6 h) fun y7 =>
 ob x0 fun a8 =>
 bc (C (.fn 111) [a8, y7] h) fun y9 h9 =>
 ob x7 fun a10 =>
 ob (bin Tryz.prog .add 3 a10 (.int .i64 1)) fun y11 =>
 n x0 x5 x6 (some y11) h9)
 (e0 h)
theorem q43_12_eq (C : YC) (lf : Nat) (n : K4) (e0 : K0) (KR : KF) (KE : KX) : ∀ F h, ev43 C lf [1, 0, 0] F h (fun F h => n (F 0) (F 5) (F 6) (F 7) h) KR (bk 0 (fun F h => e0 h) KE) = q43_12 C lf n e0 (F 0) (F 5) (F 6) (F 7) h := by
  intro F h; kernel_rfl
noncomputable def l43_0 (C : YC) (lf : Nat) (e0 : K0) (k : O × O × O × O → HW → Rs) (s : O × O × O × O) (h : HW) : Rs :=
 q43_12 C lf (fun x0 x5 x6 x7 h => k (x0, x5, x6, x7) h) e0 s.1 s.2.1 s.2.2.1 s.2.2.2 h
noncomputable def q43_16 (C : YC) (lf : Nat) (n : K4) (x0 : O) (h : HW) : Rs :=
 ob x0 fun a13 =>
 bc (C (.fn 48) [a13] h) fun y14 h14 =>
 ob (lenE Tryz.prog 44 y14) fun y15 =>
 n x0 (some y14) (some y15) (some (.int .i64 0)) h14
theorem q43_16_eq (C : YC) (lf : Nat) (n : K4) (KR : KF) (KE : KX) : ∀ F h, ev43 C lf [0] F h (fun F h => n (F 0) (F 5) (F 6) (F 7) h) KR KE = q43_16 C lf n (F 0) h := by
  intro F h; kernel_rfl
noncomputable def q43_17 (C : YC) (lf : Nat) (n : K0) (x0 : O) (h : HW) : Rs :=
 q43_16 C lf (fun x0 x5 x6 x7 h => lp (l43_0 C lf n) lf (x0, x5, x6, x7) h) x0 h
theorem q43_17_eq (C : YC) (lf : Nat) (n : K0) (KR : KF) (KE : KX) : ∀ F h, ev43 C lf [] F h (fun F h => n h) KR KE = q43_17 C lf n (F 0) h := cSeq (a := sub fb43 [0]) (b := sub fb43 [1]) (by kernel_rfl) (B := (fun F h => lp (l43_0 C lf n) lf ((F 0), (F 5), (F 6), (F 7)) h)) (cBlock (a := sub fb43 [1, 0]) (by kernel_rfl) (cLoop (g := fun F => (F 0, F 5, F 6, F 7)) (body := l43_0 C lf n) (by kernel_rfl) (fun k => (q43_12_eq C lf (fun x0 x5 x6 x7 h => k (x0, x5, x6, x7) h) n KR KE)))) (q43_16_eq C lf (fun x0 x5 x6 x7 h => lp (l43_0 C lf n) lf (x0, x5, x6, x7) h) KR KE)
noncomputable def fs43 (C : YC) (lf : Nat) (a0 : SV) (h : HW) : Rs := q43_17 C lf ff43 (some a0) h
theorem fs43_eq (C : YC) (lf : Nat) (a0 : SV) (h : HW) : yFn Tryz.prog fx43 C lf [a0] h = fs43 C lf a0 h :=
  fnOf (K := (fun F h => ff43 h)) (b := fb43) (N := fn43) (by kernel_rfl) (by kernel_rfl) (by kernel_rfl) (((q43_17_eq C lf ff43 (fun F h => ff43 h) (fun _ _ _ => none)) (frOf [a0]) h).trans (by kernel_rfl))
noncomputable def ft43 (C : YC) (lf : Nat) (args : List SV) (h : HW) : Rs := match args with | [a0] => fs43 C lf a0 h | _ => none
theorem ft43_eq (C : YC) (lf : Nat) (args : List SV) (h : HW) (r : Out × HW) (e : ft43 C lf args h = some r) : Nat.ble args.length fx43.fn.ntmps = true ∧ yFn Tryz.prog fx43 C lf args h = some r := by
  rcases args with _ | ⟨a0, _ | ⟨_, _⟩⟩ <;> first | (cases e; done) | exact ⟨by kernel_rfl, (fs43_eq ..).trans e⟩
noncomputable def fy43 : YX Tryz.prog := ⟨fx43, ft43, ft43_eq⟩

/-! FN 44 (*tinsel/desc.Proc).Mkdir -/
noncomputable def fx44 : XF Tryz.prog := { f := 44, fn := Tryz.f44, ord := fun _ => .text, isFn := Tryz.func44, isBody := by kernel_rfl, isPlain := by kernel_rfl, isSmall := by kernel_rfl, isOK := by kernel_rfl }
noncomputable def fb44 : Code := Tryz.f44.body.getD .skip
noncomputable def fn44 : Nat := Tryz.f44.ntmps
noncomputable abbrev ev44 (C : YC) (lf : Nat) (p : List Nat) := evY Tryz.prog C fn44 fx44.ord lf (sub fb44 p)
noncomputable def ff44 (x6 : O) (h : HW) : Rs :=
 ob x6 fun a0 =>
 some (.ret a0, h)
noncomputable def q44_9 (C : YC) (lf : Nat) (r : K1) (x0 x1 x2 : O) (h : HW) : Rs :=
 ob x0 fun a1 =>
 b2 (ybx 36 a1 h) fun y2 h2 =>
 ob x1 fun a3 =>
 b2 (ybx 9 a3 h2) fun y4 h4 =>
 ob x2 fun a5 =>
 b2 (ybx 30 a5 h4) fun y6 h6 =>
 ob (ld1 y2 h6) fun y7 =>
 bc (C (.fn 112) [y7, (.fn (.func 113) [] [y2, y4, y6])] h6) fun y8 h8 =>
 r (some y8) h8
theorem q44_9_eq (C : YC) (lf : Nat) (r : K1) (KN : KF) (KE : KX) : ∀ F h, ev44 C lf [] F h KN (fun F h => r (F 6) h) KE = q44_9 C lf r (F 0) (F 1) (F 2) h := by
  intro F h; kernel_rfl
noncomputable def fs44 (C : YC) (lf : Nat) (a0 a1 a2 : SV) (h : HW) : Rs := q44_9 C lf ff44 (some a0) (some a1) (some a2) h
theorem fs44_eq (C : YC) (lf : Nat) (a0 a1 a2 : SV) (h : HW) : yFn Tryz.prog fx44 C lf [a0, a1, a2] h = fs44 C lf a0 a1 a2 h :=
  fnOf (K := (fun F h => ff44 (F 6) h)) (b := fb44) (N := fn44) (by kernel_rfl) (by kernel_rfl) (by kernel_rfl) (((q44_9_eq C lf ff44 (fun F h => ff44 (F 6) h) (fun _ _ _ => none)) (frOf [a0, a1, a2]) h).trans (by kernel_rfl))
noncomputable def ft44 (C : YC) (lf : Nat) (args : List SV) (h : HW) : Rs := match args with | [a0, a1, a2] => fs44 C lf a0 a1 a2 h | _ => none
theorem ft44_eq (C : YC) (lf : Nat) (args : List SV) (h : HW) (r : Out × HW) (e : ft44 C lf args h = some r) : Nat.ble args.length fx44.fn.ntmps = true ∧ yFn Tryz.prog fx44 C lf args h = some r := by
  rcases args with _ | ⟨a0, _ | ⟨a1, _ | ⟨a2, _ | ⟨_, _⟩⟩⟩⟩ <;> first | (cases e; done) | exact ⟨by kernel_rfl, (fs44_eq ..).trans e⟩
noncomputable def fy44 : YX Tryz.prog := ⟨fx44, ft44, ft44_eq⟩

/-! FN 45 (*tinsel/desc.Proc).Close -/
noncomputable def fx45 : XF Tryz.prog := { f := 45, fn := Tryz.f45, ord := fun _ => .text, isFn := Tryz.func45, isBody := by kernel_rfl, isPlain := by kernel_rfl, isSmall := by kernel_rfl, isOK := by kernel_rfl }
noncomputable def fb45 : Code := Tryz.f45.body.getD .skip
noncomputable def fn45 : Nat := Tryz.f45.ntmps
noncomputable abbrev ev45 (C : YC) (lf : Nat) (p : List Nat) := evY Tryz.prog C fn45 fx45.ord lf (sub fb45 p)
noncomputable def ff45 (x4 : O) (h : HW) : Rs :=
 ob x4 fun a0 =>
 some (.ret a0, h)
noncomputable def q45_10 (C : YC) (lf : Nat) (r : K1) (x0 x1 : O) (h : HW) : Rs :=
 ob x0 fun a1 =>
 ob x1 fun a2 =>
 bc (C (.fn 107) [a1, a2] h) fun y3 h3 =>
 ob (ext 0 y3) fun y4 =>
 ob (ext 1 y3) fun y5 =>
 ob (bin Tryz.prog .neq 23 y5 (.int .i64 0)) fun y6 =>
 yIf y6
 (r (some y5) h3)
 (ob x0 fun a7 =>
 ob x1 fun a8 =>
 bc (C (.fn 111) [a7, a8] h3) fun y9 h9 =>
 r (some (.int .i64 0)) h9)
theorem q45_10_eq (C : YC) (lf : Nat) (r : K1) (KN : KF) (KE : KX) : ∀ F h, ev45 C lf [] F h KN (fun F h => r (F 4) h) KE = q45_10 C lf r (F 0) (F 1) h := by
  intro F h; kernel_rfl
noncomputable def fs45 (C : YC) (lf : Nat) (a0 a1 : SV) (h : HW) : Rs := q45_10 C lf ff45 (some a0) (some a1) h
theorem fs45_eq (C : YC) (lf : Nat) (a0 a1 : SV) (h : HW) : yFn Tryz.prog fx45 C lf [a0, a1] h = fs45 C lf a0 a1 h :=
  fnOf (K := (fun F h => ff45 (F 4) h)) (b := fb45) (N := fn45) (by kernel_rfl) (by kernel_rfl) (by kernel_rfl) (((q45_10_eq C lf ff45 (fun F h => ff45 (F 4) h) (fun _ _ _ => none)) (frOf [a0, a1]) h).trans (by kernel_rfl))
noncomputable def ft45 (C : YC) (lf : Nat) (args : List SV) (h : HW) : Rs := match args with | [a0, a1] => fs45 C lf a0 a1 h | _ => none
theorem ft45_eq (C : YC) (lf : Nat) (args : List SV) (h : HW) (r : Out × HW) (e : ft45 C lf args h = some r) : Nat.ble args.length fx45.fn.ntmps = true ∧ yFn Tryz.prog fx45 C lf args h = some r := by
  rcases args with _ | ⟨a0, _ | ⟨a1, _ | ⟨_, _⟩⟩⟩ <;> first | (cases e; done) | exact ⟨by kernel_rfl, (fs45_eq ..).trans e⟩
noncomputable def fy45 : YX Tryz.prog := ⟨fx45, ft45, ft45_eq⟩

/-! FN 46 (*tinsel/desc.Proc).Rename -/
noncomputable def fx46 : XF Tryz.prog := { f := 46, fn := Tryz.f46, ord := fun _ => .text, isFn := Tryz.func46, isBody := by kernel_rfl, isPlain := by kernel_rfl, isSmall := by kernel_rfl, isOK := by kernel_rfl }
noncomputable def fb46 : Code := Tryz.f46.body.getD .skip
noncomputable def fn46 : Nat := Tryz.f46.ntmps
noncomputable abbrev ev46 (C : YC) (lf : Nat) (p : List Nat) := evY Tryz.prog C fn46 fx46.ord lf (sub fb46 p)
noncomputable def ff46 (x6 : O) (h : HW) : Rs :=
 ob x6 fun a0 =>
 some (.ret a0, h)
noncomputable def q46_9 (C : YC) (lf : Nat) (r : K1) (x0 x1 x2 : O) (h : HW) : Rs :=
 ob x0 fun a1 =>
 b2 (ybx 36 a1 h) fun y2 h2 =>
 ob x1 fun a3 =>
 b2 (ybx 9 a3 h2) fun y4 h4 =>
 ob x2 fun a5 =>
 b2 (ybx 9 a5 h4) fun y6 h6 =>
 ob (ld1 y2 h6) fun y7 =>
 bc (C (.fn 112) [y7, (.fn (.func 114) [] [y2, y4, y6])] h6) fun y8 h8 =>
 r (some y8) h8
theorem q46_9_eq (C : YC) (lf : Nat) (r : K1) (KN : KF) (KE : KX) : ∀ F h, ev46 C lf [] F h KN (fun F h => r (F 6) h) KE = q46_9 C lf r (F 0) (F 1) (F 2) h := by
  intro F h; kernel_rfl
noncomputable def fs46 (C : YC) (lf : Nat) (a0 a1 a2 : SV) (h : HW) : Rs := q46_9 C lf ff46 (some a0) (some a1) (some a2) h
theorem fs46_eq (C : YC) (lf : Nat) (a0 a1 a2 : SV) (h : HW) : yFn Tryz.prog fx46 C lf [a0, a1, a2] h = fs46 C lf a0 a1 a2 h :=
  fnOf (K := (fun F h => ff46 (F 6) h)) (b := fb46) (N := fn46) (by kernel_rfl) (by kernel_rfl) (by kernel_rfl) (((q46_9_eq C lf ff46 (fun F h => ff46 (F 6) h) (fun _ _ _ => none)) (frOf [a0, a1, a2]) h).trans (by kernel_rfl))
noncomputable def ft46 (C : YC) (lf : Nat) (args : List SV) (h : HW) : Rs := match args with | [a0, a1, a2] => fs46 C lf a0 a1 a2 h | _ => none
theorem ft46_eq (C : YC) (lf : Nat) (args : List SV) (h : HW) (r : Out × HW) (e : ft46 C lf args h = some r) : Nat.ble args.length fx46.fn.ntmps = true ∧ yFn Tryz.prog fx46 C lf args h = some r := by
  rcases args with _ | ⟨a0, _ | ⟨a1, _ | ⟨a2, _ | ⟨_, _⟩⟩⟩⟩ <;> first | (cases e; done) | exact ⟨by kernel_rfl, (fs46_eq ..).trans e⟩
noncomputable def fy46 : YX Tryz.prog := ⟨fx46, ft46, ft46_eq⟩

/-! FN 47 (*tinsel/desc.Proc).FS -/
noncomputable def fx47 : XF Tryz.prog := { f := 47, fn := Tryz.f47, ord := fun _ => .text, isFn := Tryz.func47, isBody := by kernel_rfl, isPlain := by kernel_rfl, isSmall := by kernel_rfl, isOK := by kernel_rfl }
noncomputable def fb47 : Code := Tryz.f47.body.getD .skip
noncomputable def fn47 : Nat := Tryz.f47.ntmps
noncomputable abbrev ev47 (C : YC) (lf : Nat) (p : List Nat) := evY Tryz.prog C fn47 fx47.ord lf (sub fb47 p)
noncomputable def ff47 (x2 : O) (h : HW) : Rs :=
 ob x2 fun a0 =>
 some (.ret a0, h)
noncomputable def q47_8 (C : YC) (lf : Nat) (r : K1) (x0 : O) (h : HW) : Rs :=
 ob x0 fun a1 =>
 bc (C (.fn 103) [a1] h) fun y2 h2 =>
 ob (unE .not y2) fun y3 =>
 yIf y3
 (r (some (.val (.pointer none))) h2)
 (ob x0 fun a4 =>
 ob (semNil a4) fun y5 =>
 ob (fa 0 y5) fun y6 =>
 ob (ld1 y6 h2) fun y7 =>
 r (some y7) h2)
theorem q47_8_eq (C : YC) (lf : Nat) (r : K1) (KN : KF) (KE : KX) : ∀ F h, ev47 C lf [] F h KN (fun F h => r (F 2) h) KE = q47_8 C lf r (F 0) h := by
  intro F h; kernel_rfl
noncomputable def fs47 (C : YC) (lf : Nat) (a0 : SV) (h : HW) : Rs := q47_8 C lf ff47 (some a0) h
theorem fs47_eq (C : YC) (lf : Nat) (a0 : SV) (h : HW) : yFn Tryz.prog fx47 C lf [a0] h = fs47 C lf a0 h :=
  fnOf (K := (fun F h => ff47 (F 2) h)) (b := fb47) (N := fn47) (by kernel_rfl) (by kernel_rfl) (by kernel_rfl) (((q47_8_eq C lf ff47 (fun F h => ff47 (F 2) h) (fun _ _ _ => none)) (frOf [a0]) h).trans (by kernel_rfl))
noncomputable def ft47 (C : YC) (lf : Nat) (args : List SV) (h : HW) : Rs := match args with | [a0] => fs47 C lf a0 h | _ => none
theorem ft47_eq (C : YC) (lf : Nat) (args : List SV) (h : HW) (r : Out × HW) (e : ft47 C lf args h = some r) : Nat.ble args.length fx47.fn.ntmps = true ∧ yFn Tryz.prog fx47 C lf args h = some r := by
  rcases args with _ | ⟨a0, _ | ⟨_, _⟩⟩ <;> first | (cases e; done) | exact ⟨by kernel_rfl, (fs47_eq ..).trans e⟩
noncomputable def fy47 : YX Tryz.prog := ⟨fx47, ft47, ft47_eq⟩

/-! FN 48 (*tinsel/desc.Proc).Fds -/
noncomputable def fx48 : XF Tryz.prog := { f := 48, fn := Tryz.f48, ord := fun _ => .text, isFn := Tryz.func48, isBody := by kernel_rfl, isPlain := by kernel_rfl, isSmall := by kernel_rfl, isOK := by kernel_rfl }
noncomputable def fb48 : Code := Tryz.f48.body.getD .skip
noncomputable def fn48 : Nat := Tryz.f48.ntmps
noncomputable abbrev ev48 (C : YC) (lf : Nat) (p : List Nat) := evY Tryz.prog C fn48 fx48.ord lf (sub fb48 p)
noncomputable def ff48 (x2 : O) (h : HW) : Rs :=
 ob x2 fun a0 =>
 some (.ret a0, h)
noncomputable def q48_2 (C : YC) (lf : Nat) (r : K1) (x3 : O) (h : HW) : Rs :=
 ob x3 fun a1 =>
 r (some a1) h
theorem q48_2_eq (C : YC) (lf : Nat) (r : K1) (KN : KF) (KE : KX) : ∀ F h, ev48 C lf [1, 1, 1, 1] F h KN (fun F h => r (F 2) h) KE = q48_2 C lf r (F 3) h := by
  intro F h; kernel_rfl
noncomputable def q48_20 (C : YC) (lf : Nat) (n : K3) (e0 : K1) (x0 x3 x8 : O) (h : HW) : Rs :=
 ob x8 fun a4 =>
 ob (bin Tryz.prog .lss 3 a4 (.int .i64 16)) fun y5 =>
 yIf y5
 (ob x8 fun a6 =>
 ob x0 fun a7 =>
 ob (semNil a7) fun y8 =>
 ob (fa 6 y8) fun y9 =>
 ob (ixA 16 1 y9 a6) fun y10 =>
 ob (ld1 y10 h) fun y11 =>
 ob (bin Tryz.prog .neq 47 y11 (.val (.pointer none))) fun y12 =>
 yIf y12
 (ob x3 fun a13 =>
 b2 (ybs Tryz.prog 44 1 [0] [a6] h) fun y14 h14 =>
 b2 (ybl Tryz.prog .append #[44, 44] [a13, y14] h14) fun y15 h15 =>
 ob x8 fun a16 =>
 ob (bin Tryz.prog .add 3 a16 (.int .i64 1)) fun y17 =>
 n x0 (some y15) (some y17) h15)
 (ob x8 fun a18 =>
 ob (bin Tryz.prog .add 3 a18 (.int .i64 1)) fun y19 =>
 n x0 x3 (some y19) h))
 (e0 x3 h)
theorem q48_20_eq (C : YC) (lf : Nat) (n : K3) (e0 : K1) (KR : KF) (KE : KX) : ∀ F h, ev48 C lf [1, 1, 1, 0, 1, 0, 0] F h (fun F h => n (F 0) (F 3) (F 8) h) KR (bk 0 (fun F h => e0 (F 3) h) KE) = q48_20 C lf n e0 (F 0) (F 3) (F 8) h := by
  intro F h; kernel_rfl
noncomputable def l48_3 (C : YC) (lf : Nat) (e0 : K1) (k : O × O × O → HW → Rs) (s : O × O × O) (h : HW) : Rs :=
 q48_20 C lf (fun x0 x3 x8 h => k (x0, x3, x8) h) e0 s.1 s.2.1 s.2.2 h
noncomputable def q48_21 (C : YC) (lf : Nat) (n : K3) (x0 x3 : O) (h : HW) : Rs :=
 n x0 x3 (some (.int .i64 0)) h
theorem q48_21_eq (C : YC) (lf : Nat) (n : K3) (KR : KF) (KE : KX) : ∀ F h, ev48 C lf [1, 1, 1, 0, 0] F h (fun F h => n (F 0) (F 3) (F 8) h) KR KE = q48_21 C lf n (F 0) (F 3) h := by
  intro F h; kernel_rfl
noncomputable def q48_22 (C : YC) (lf : Nat) (n : K1) (x0 x3 : O) (h : HW) : Rs :=
 q48_21 C lf (fun x0 x3 x8 h => lp (l48_3 C lf n) lf (x0, x3, x8) h) x0 x3 h
theorem q48_22_eq (C : YC) (lf : Nat) (n : K1) (KR : KF) (KE : KX) : ∀ F h, ev48 C lf [1, 1, 1, 0] F h (fun F h => n (F 3) h) KR KE = q48_22 C lf n (F 0) (F 3) h := cSeq (a := sub fb48 [1, 1, 1, 0, 0]) (b := sub fb48 [1, 1, 1, 0, 1]) (by kernel_rfl) (B := (fun F h => lp (l48_3 C lf n) lf ((F 0), (F 3), (F 8)) h)) (cBlock (a := sub fb48 [1, 1, 1, 0, 1, 0]) (by kernel_rfl) (cLoop (g := fun F => (F 0, F 3, F 8)) (body := l48_3 C lf n) (by kernel_rfl) (fun k => (q48_20_eq C lf (fun x0 x3 x8 h => k (x0, x3, x8) h) n KR KE)))) (q48_21_eq C lf (fun x0 x3 x8 h => lp (l48_3 C lf n) lf (x0, x3, x8) h) KR KE)
noncomputable def q48_23 (C : YC) (lf : Nat) (r : K1) (x0 x3 : O) (h : HW) : Rs :=
 q48_22 C lf (fun x3 h => q48_2 C lf r x3 h) x0 x3 h
theorem q48_23_eq (C : YC) (lf : Nat) (r : K1) (KN : KF) (KE : KX) : ∀ F h, ev48 C lf [1, 1, 1] F h KN (fun F h => r (F 2) h) KE = q48_23 C lf r (F 0) (F 3) h := cSeq (a := sub fb48 [1, 1, 1, 0]) (b := sub fb48 [1, 1, 1, 1]) (by kernel_rfl) (B := (fun F h => q48_2 C lf r (F 3) h)) (q48_2_eq C lf r KN KE) (q48_22_eq C lf (fun x3 h => q48_2 C lf r x3 h) (fun F h => r (F 2) h) KE)
noncomputable def q48_24 (C : YC) (lf : Nat) (n : K2) (x0 : O) (h : HW) : Rs :=
 n x0 (some (.val (.slice none 0 0))) h
theorem q48_24_eq (C : YC) (lf : Nat) (n : K2) (KR : KF) (KE : KX) : ∀ F h, ev48 C lf [1, 1, 0] F h (fun F h => n (F 0) (F 3) h) KR KE = q48_24 C lf n (F 0) h := by
  intro F h; kernel_rfl
noncomputable def q48_25 (C : YC) (lf : Nat) (r : K1) (x0 : O) (h : HW) : Rs :=
 q48_24 C lf (fun x0 x3 h => q48_23 C lf r x0 x3 h) x0 h
theorem q48_25_eq (C : YC) (lf : Nat) (r : K1) (KN : KF) (KE : KX) : ∀ F h, ev48 C lf [1, 1] F h KN (fun F h => r (F 2) h) KE = q48_25 C lf r (F 0) h := cSeq (a := sub fb48 [1, 1, 0]) (b := sub fb48 [1, 1, 1]) (by kernel_rfl) (B := (fun F h => q48_23 C lf r (F 0) (F 3) h)) (q48_23_eq C lf r KN KE) (q48_24_eq C lf (fun x0 x3 h => q48_23 C lf r x0 x3 h) (fun F h => r (F 2) h) KE)
noncomputable def q48_29 (C : YC) (lf : Nat) (n : K1) (r : K1) (x0 : O) (h : HW) : Rs :=
 ob x0 fun a26 =>
 bc (C (.fn 103) [a26] h) fun y27 h27 =>
 ob (unE .not y27) fun y28 =>
 yIf y28
 (r (some (.val (.slice none 0 0))) h27)
 (n x0 h27)
theorem q48_29_eq (C : YC) (lf : Nat) (n : K1) (r : K1) (KE : KX) : ∀ F h, ev48 C lf [1, 0] F h (fun F h => n (F 0) h) (fun F h => r (F 2) h) KE = q48_29 C lf n r (F 0) h := by
  intro F h; kernel_rfl
noncomputable def q48_30 (C : YC) (lf : Nat) (r : K1) (x0 : O) (h : HW) : Rs :=
 q48_29 C lf (fun x0 h => q48_25 C lf r x0 h) r x0 h
theorem q48_30_eq (C : YC) (lf : Nat) (r : K1) (KN : KF) (KE : KX) : ∀ F h, ev48 C lf [1] F h KN (fun F h => r (F 2) h) KE = q48_30 C lf r (F 0) h := cSeq (a := sub fb48 [1, 0]) (b := sub fb48 [1, 1]) (by kernel_rfl) (B := (fun F h => q48_25 C lf r (F 0) h)) (q48_25_eq C lf r KN KE) (q48_29_eq C lf (fun x0 h => q48_25 C lf r x0 h) r KE)
noncomputable def q48_31 (C : YC) (lf : Nat) (n : K1) (x0 : O) (h : HW) : Rs :=
 n x0 h
theorem q48_31_eq (C : YC) (lf : Nat) (n : K1) (KR : KF) (KE : KX) : ∀ F h, ev48 C lf [0] F h (fun F h => n (F 0) h) KR KE = q48_31 C lf n (F 0) h := by
  intro F h; kernel_rfl
noncomputable def q48_32 (C : YC) (lf : Nat) (r : K1) (x0 : O) (h : HW) : Rs :=
 q48_31 C lf (fun x0 h => q48_30 C lf r x0 h) x0 h
theorem q48_32_eq (C : YC) (lf : Nat) (r : K1) (KN : KF) (KE : KX) : ∀ F h, ev48 C lf [] F h KN (fun F h => r (F 2) h) KE = q48_32 C lf r (F 0) h := cSeq (a := sub fb48 [0]) (b := sub fb48 [1]) (by kernel_rfl) (B := (fun F h => q48_30 C lf r (F 0) h)) (q48_30_eq C lf r KN KE) (q48_31_eq C lf (fun x0 h => q48_30 C lf r x0 h) (fun F h => r (F 2) h) KE)
noncomputable def fs48 (C : YC) (lf : Nat) (a0 : SV) (h : HW) : Rs := q48_32 C lf ff48 (some a0) h
theorem fs48_eq (C : YC) (lf : Nat) (a0 : SV) (h : HW) : yFn Tryz.prog fx48 C lf [a0] h = fs48 C lf a0 h :=
  fnOf (K := (fun F h => ff48 (F 2) h)) (b := fb48) (N := fn48) (by kernel_rfl) (by kernel_rfl) (by kernel_rfl) (((q48_32_eq C lf ff48 (fun F h => ff48 (F 2) h) (fun _ _ _ => none)) (frOf [a0]) h).trans (by kernel_rfl))
noncomputable def ft48 (C : YC) (lf : Nat) (args : List SV) (h : HW) : Rs := match args with | [a0] => fs48 C lf a0 h | _ => none
theorem ft48_eq (C : YC) (lf : Nat) (args : List SV) (h : HW) (r : Out × HW) (e : ft48 C lf args h = some r) : Nat.ble args.length fx48.fn.ntmps = true ∧ yFn Tryz.prog fx48 C lf args h = some r := by
  rcases args with _ | ⟨a0, _ | ⟨_, _⟩⟩ <;> first | (cases e; done) | exact ⟨by kernel_rfl, (fs48_eq ..).trans e⟩
noncomputable def fy48 : YX Tryz.prog := ⟨fx48, ft48, ft48_eq⟩

/-! FN 49 tinsel/tinsellaw07.who -/
noncomputable def fx49 : XF Tryz.prog := { f := 49, fn := Tryz.f49, ord := fun _ => .text, isFn := Tryz.func49, isBody := by kernel_rfl, isPlain := by kernel_rfl, isSmall := by kernel_rfl, isOK := by kernel_rfl }
noncomputable def fb49 : Code := Tryz.f49.body.getD .skip
noncomputable def fn49 : Nat := Tryz.f49.ntmps
noncomputable abbrev ev49 (C : YC) (lf : Nat) (p : List Nat) := evY Tryz.prog C fn49 fx49.ord lf (sub fb49 p)
noncomputable def ff49 (x4 : O) (h : HW) : Rs :=
 ob x4 fun a0 =>
 some (.ret a0, h)
noncomputable def q49_54 (C : YC) (lf : Nat) (r : K1) (x0 x1 : O) (h : HW) : Rs :=
 ob x0 fun a1 =>
 b2 (ybx 46 a1 h) fun y2 h2 =>
 ob x1 fun a3 =>
 b2 (ybx 46 a3 h2) fun y4 h4 =>
 ob (fa 0 y2) fun y5 =>
 ob (ld1 y5 h4) fun y6 =>
 ob (fa 0 y4) fun y7 =>
 ob (ld1 y7 h4) fun y8 =>
 ob (bin Tryz.prog .eql 3 y6 y8) fun y9 =>
 bc (gd true (some y9) (ob (fa 1 y2) fun y10 =>
 some (.ret y10, h4)) h4) fun y11 h11 =>
 bc (gd true (some y9) (ob (ld1 y11 h11) fun y12 =>
 some (.ret y12, h11)) h11) fun y13 h13 =>
 bc (gd true (some y9) (ob (fa 1 y4) fun y14 =>
 some (.ret y14, h13)) h13) fun y15 h15 =>
 bc (gd true (some y9) (ob (ld1 y15 h15) fun y16 =>
 some (.ret y16, h15)) h15) fun y17 h17 =>
 bc (gd true (some y9) (ob (bin Tryz.prog .eql 3 y13 y17) fun y18 =>
 some (.ret y18, h17)) h17) fun y19 h19 =>
 ob (ypk y9 y19 (.bool false)) fun y20 =>
 bc (gd true (some y20) (ob (fa 3 y2) fun y21 =>
 some (.ret y21, h19)) h19) fun y22 h22 =>
 bc (gd true (some y20) (ob (ld1 y22 h22) fun y23 =>
 some (.ret y23, h22)) h22) fun y24 h24 =>
 bc (gd true (some y20) (ob (fa 3 y4) fun y25 =>
 some (.ret y25, h24)) h24) fun y26 h26 =>
 bc (gd true (some y20) (ob (ld1 y26 h26) fun y27 =>
 some (.ret y27, h26)) h26) fun y28 h28 =>
 bc (gd true (some y20) (ob (bin Tryz.prog .eql 3 y24 y28) fun y29 =>
 some (.ret y29, h28)) h28) fun y30 h30 =>
 ob (ypk y20 y30 (.bool false)) fun y31 =>
 bc (gd true (some y31) (ob (fa 4 y2) fun y32 =>
 some (.ret y32, h30)) h30) fun y33 h33 =>
 bc (gd true (some y31) (ob (ld1 y33 h33) fun y34 =>
 some (.ret y34, h33)) h33) fun y35 h35 =>
 bc (gd true (some y31) (ob (fa 4 y4) fun y36 =>
 some (.ret y36, h35)) h35) fun y37 h37 =>
 bc (gd true (some y31) (ob (ld1 y37 h37) fun y38 =>
 some (.ret y38, h37)) h37) fun y39 h39 =>
 bc (gd true (some y31) (ob (bin Tryz.prog .eql 3 y35 y39) fun y40 =>
 some (.ret y40, h39)) h39) fun y41 h41 =>
 ob (ypk y31 y41 (.bool false)) fun y42 =>
 bc (gd true (some y42) (ob (fa 2 y2) fun y43 =>
 some (.ret y43, h41)) h41) fun y44 h44 =>
 bc (gd true (some y42) (ob (ld1 y44 h44) fun y45 =>
 some (.ret y45, h44)) h44) fun y46 h46 =>
 bc (gd true (some y42) (ob (fa 2 y4) fun y47 =>
 some (.ret y47, h46)) h46) fun y48 h48 =>
 bc (gd true (some y42) (ob (ld1 y48 h48) fun y49 =>
 some (.ret y49, h48)) h48) fun y50 h50 =>
 bc (gd true (some y42) (bc (C (.fn 115) [y46, y50] h50) fun y51 h51 =>
 some (.ret y51, h51)) h50) fun y52 h52 =>
 ob (ypk y42 y52 (.bool false)) fun y53 =>
 r (some y53) h52
theorem q49_54_eq (C : YC) (lf : Nat) (r : K1) (KN : KF) (KE : KX) : ∀ F h, ev49 C lf [] F h KN (fun F h => r (F 4) h) KE = q49_54 C lf r (F 0) (F 1) h := by
  intro F h; kernel_rfl
noncomputable def fs49 (C : YC) (lf : Nat) (a0 a1 : SV) (h : HW) : Rs := q49_54 C lf ff49 (some a0) (some a1) h
theorem fs49_eq (C : YC) (lf : Nat) (a0 a1 : SV) (h : HW) : yFn Tryz.prog fx49 C lf [a0, a1] h = fs49 C lf a0 a1 h :=
  fnOf (K := (fun F h => ff49 (F 4) h)) (b := fb49) (N := fn49) (by kernel_rfl) (by kernel_rfl) (by kernel_rfl) (((q49_54_eq C lf ff49 (fun F h => ff49 (F 4) h) (fun _ _ _ => none)) (frOf [a0, a1]) h).trans (by kernel_rfl))
noncomputable def ft49 (C : YC) (lf : Nat) (args : List SV) (h : HW) : Rs := match args with | [a0, a1] => fs49 C lf a0 a1 h | _ => none
theorem ft49_eq (C : YC) (lf : Nat) (args : List SV) (h : HW) (r : Out × HW) (e : ft49 C lf args h = some r) : Nat.ble args.length fx49.fn.ntmps = true ∧ yFn Tryz.prog fx49 C lf args h = some r := by
  rcases args with _ | ⟨a0, _ | ⟨a1, _ | ⟨_, _⟩⟩⟩ <;> first | (cases e; done) | exact ⟨by kernel_rfl, (fs49_eq ..).trans e⟩
noncomputable def fy49 : YX Tryz.prog := ⟨fx49, ft49, ft49_eq⟩

/-! FN 50 (*tinsel/desc.Proc).Cred -/
noncomputable def fx50 : XF Tryz.prog := { f := 50, fn := Tryz.f50, ord := fun _ => .text, isFn := Tryz.func50, isBody := by kernel_rfl, isPlain := by kernel_rfl, isSmall := by kernel_rfl, isOK := by kernel_rfl }
noncomputable def fb50 : Code := Tryz.f50.body.getD .skip
noncomputable def fn50 : Nat := Tryz.f50.ntmps
noncomputable abbrev ev50 (C : YC) (lf : Nat) (p : List Nat) := evY Tryz.prog C fn50 fx50.ord lf (sub fb50 p)
noncomputable def ff50 (x2 : O) (h : HW) : Rs :=
 ob x2 fun a0 =>
 ob (ldN 5 a0 h) fun y1 =>
 some (.ret y1, h)
noncomputable def q50_14 (C : YC) (lf : Nat) (r : K1) (x0 : O) (h : HW) : Rs :=
 b2 (yAl Tryz.prog 46 h) fun y2 h2 =>
 ob x0 fun a3 =>
 bc (C (.fn 103) [a3] h2) fun y4 h4 =>
 ob (unE .not y4) fun y5 =>
 yIf y5
 (ob (semBuild Tryz.prog 46 [] []) fun y6 =>
 ob (st 5 y2 y6 h4) fun h7 =>
 r (some y2) h7)
 (ob x0 fun a8 =>
 ob (semNil a8) fun y9 =>
 ob (fa 1 y9) fun y10 =>
 ob (ldN 5 y10 h4) fun y11 =>
 bc (C (.fn 116) [y11] h4) fun y12 h12 =>
 ob (st 5 y2 y12 h12) fun h13 =>
 r (some y2) h13)
theorem q50_14_eq (C : YC) (lf : Nat) (r : K1) (KN : KF) (KE : KX) : ∀ F h, ev50 C lf [] F h KN (fun F h => r (F 2) h) KE = q50_14 C lf r (F 0) h := by
  intro F h; kernel_rfl
noncomputable def fs50 (C : YC) (lf : Nat) (a0 : SV) (h : HW) : Rs := q50_14 C lf ff50 (some a0) h
theorem fs50_eq (C : YC) (lf : Nat) (a0 : SV) (h : HW) : yFn Tryz.prog fx50 C lf [a0] h = fs50 C lf a0 h :=
  fnOf (K := (fun F h => ff50 (F 2) h)) (b := fb50) (N := fn50) (by kernel_rfl) (by kernel_rfl) (by kernel_rfl) (((q50_14_eq C lf ff50 (fun F h => ff50 (F 2) h) (fun _ _ _ => none)) (frOf [a0]) h).trans (by kernel_rfl))
noncomputable def ft50 (C : YC) (lf : Nat) (args : List SV) (h : HW) : Rs := match args with | [a0] => fs50 C lf a0 h | _ => none
theorem ft50_eq (C : YC) (lf : Nat) (args : List SV) (h : HW) (r : Out × HW) (e : ft50 C lf args h = some r) : Nat.ble args.length fx50.fn.ntmps = true ∧ yFn Tryz.prog fx50 C lf args h = some r := by
  rcases args with _ | ⟨a0, _ | ⟨_, _⟩⟩ <;> first | (cases e; done) | exact ⟨by kernel_rfl, (fs50_eq ..).trans e⟩
noncomputable def fy50 : YX Tryz.prog := ⟨fx50, ft50, ft50_eq⟩

/-! FN 51 tinsel/desc.New -/
noncomputable def fx51 : XF Tryz.prog := { f := 51, fn := Tryz.f51, ord := fun _ => .text, isFn := Tryz.func51, isBody := by kernel_rfl, isPlain := by kernel_rfl, isSmall := by kernel_rfl, isOK := by kernel_rfl }
noncomputable def fb51 : Code := Tryz.f51.body.getD .skip
noncomputable def fn51 : Nat := Tryz.f51.ntmps
noncomputable abbrev ev51 (C : YC) (lf : Nat) (p : List Nat) := evY Tryz.prog C fn51 fx51.ord lf (sub fb51 p)
noncomputable def ff51 (x4 x5 : O) (h : HW) : Rs :=
 ob x4 fun a0 =>
 ob x5 fun a1 =>
 some (.ret (.tup [a0, a1]), h)
noncomputable def q51_36 (C : YC) (lf : Nat) (r : K2) (x0 x3 x6 : O) (h : HW) : Rs :=
 ob x0 fun a2 =>
 ob x3 fun a3 =>
 ob (fa 4 a3) fun y4 =>
 ob (ld1 y4 h) fun y5 =>
 bc (C (.fn 118) [a2, y5] h) fun y6 h6 =>
 ob (ext 0 y6) fun y7 =>
 ob (ext 1 y6) fun y8 =>
 b2 (yAl Tryz.prog 58 h6) fun y9 h9 =>
 ob (st 10 y9 y7 h9) fun h10 =>
 ob x6 fun a11 =>
 bc (gd false (some a11) (some (.ret y8, h10)) h10) fun y12 h12 =>
 bc (gd false (some a11) (ob (bin Tryz.prog .neq 23 y12 (.int .i64 0)) fun y13 =>
 some (.ret y13, h12)) h12) fun y14 h14 =>
 ob (ypk a11 (.bool true) y14) fun y15 =>
 bc (gd false (some y15) (ob (fa 6 y9) fun y16 =>
 some (.ret y16, h14)) h14) fun y17 h17 =>
 bc (gd false (some y15) (ob (ld1 y17 h17) fun y18 =>
 some (.ret y18, h17)) h17) fun y19 h19 =>
 bc (gd false (some y15) (ob (bin Tryz.prog .and 30 y19 (.int .i64 61440)) fun y20 =>
 some (.ret y20, h19)) h19) fun y21 h21 =>
 bc (gd false (some y15) (ob (bin Tryz.prog .neq 30 y21 (.int .i64 16384)) fun y22 =>
 some (.ret y22, h21)) h21) fun y23 h23 =>
 ob (ypk y15 (.bool true) y23) fun y24 =>
 yIf y24
 (r (some (.val (.pointer none))) (some (.int .i64 22)) h23)
 (ob x0 fun a25 =>
 ob x3 fun a26 =>
 ob (fa 4 a26) fun y27 =>
 ob (ld1 y27 h23) fun y28 =>
 bc (C (.fn 119) [a25, y28] h23) fun y29 h29 =>
 ob x0 fun a30 =>
 ob x3 fun a31 =>
 ob (ldN 5 a31 h29) fun y32 =>
 bc (C (.fn 116) [y32] h29) fun y33 h33 =>
 ob (semBuild Tryz.prog 50 [0, 1] [a30, y33]) fun y34 =>
 b2 (ybx 50 y34 h33) fun y35 h35 =>
 r (some y35) (some (.int .i64 0)) h35)
theorem q51_36_eq (C : YC) (lf : Nat) (r : K2) (KN : KF) (KE : KX) : ∀ F h, ev51 C lf [1, 1, 1, 1, 1] F h KN (fun F h => r (F 4) (F 5) h) KE = q51_36 C lf r (F 0) (F 3) (F 6) h := by
  intro F h; kernel_rfl
noncomputable def q51_44 (C : YC) (lf : Nat) (n : K3) (x0 x3 x6 : O) (h : HW) : Rs :=
 ob x3 fun a37 =>
 ob (fa 4 a37) fun y38 =>
 ob (ld1 y38 h) fun y39 =>
 ob (bin Tryz.prog .eql 3 y39 (.int .i64 0)) fun y40 =>
 yIf y40
 (ob x3 fun a41 =>
 ob (fa 4 a41) fun y42 =>
 ob (st 1 y42 (.int .i64 1) h) fun h43 =>
 n x0 x3 x6 h43)
 (n x0 x3 x6 h)
theorem q51_44_eq (C : YC) (lf : Nat) (n : K3) (KR : KF) (KE : KX) : ∀ F h, ev51 C lf [1, 1, 1, 1, 0] F h (fun F h => n (F 0) (F 3) (F 6) h) KR KE = q51_44 C lf n (F 0) (F 3) (F 6) h := by
  intro F h; kernel_rfl
noncomputable def q51_45 (C : YC) (lf : Nat) (r : K2) (x0 x3 x6 : O) (h : HW) : Rs :=
 q51_44 C lf (fun x0 x3 x6 h => q51_36 C lf r x0 x3 x6 h) x0 x3 x6 h
theorem q51_45_eq (C : YC) (lf : Nat) (r : K2) (KN : KF) (KE : KX) : ∀ F h, ev51 C lf [1, 1, 1, 1] F h KN (fun F h => r (F 4) (F 5) h) KE = q51_45 C lf r (F 0) (F 3) (F 6) h := cSeq (a := sub fb51 [1, 1, 1, 1, 0]) (b := sub fb51 [1, 1, 1, 1, 1]) (by kernel_rfl) (B := (fun F h => q51_36 C lf r (F 0) (F 3) (F 6) h)) (q51_36_eq C lf r KN KE) (q51_44_eq C lf (fun x0 x3 x6 h => q51_36 C lf r x0 x3 x6 h) (fun F h => r (F 4) (F 5) h) KE)
noncomputable def q51_61 (C : YC) (lf : Nat) (n : K6) (e0 : K3) (x0 x3 x6 x38 x39 x40 : O) (h : HW) : Rs :=
 ob x40 fun a47 =>
 ob x39 fun a48 =>
 ob (bin Tryz.prog .lss 3 a47 a48) fun y49 =>
 yIf y49
 (ob x38 fun a50 =>
 ob x40 fun a51 =>
 ob (ixS 1 a50 a51) fun y52 =>
 ob (ld1 y52 h) fun y53 =>
 ob x6 fun a54 =>
 bc (gd false (some a54) (some (.ret y53, h)) h) fun y55 h55 =>
 bc (gd false (some a54) (ob (bin Tryz.prog .lss 3 y55 (.int .i64 0)) fun y56 =>
 some (.ret y56, h55)) h55) fun y57 h57 =>
 ob (ypk a54 (.bool true) y57) fun y58 =>
 ob x40 fun a59 =>
 ob (bin Tryz.prog .add 3 a59 (.int .i64 1)) fun y60 =>
 n x0 x3 (some y58) x38 x39 (some y60) h57)
 (e0 x0 x3 x6 h)
theorem q51_61_eq (C : YC) (lf : Nat) (n : K6) (e0 : K3) (KR : KF) (KE : KX) : ∀ F h, ev51 C lf [1, 1, 1, 0, 1, 0, 0] F h (fun F h => n (F 0) (F 3) (F 6) (F 38) (F 39) (F 40) h) KR (bk 0 (fun F h => e0 (F 0) (F 3) (F 6) h) KE) = q51_61 C lf n e0 (F 0) (F 3) (F 6) (F 38) (F 39) (F 40) h := by
  intro F h; kernel_rfl
noncomputable def l51_46 (C : YC) (lf : Nat) (e0 : K3) (k : O × O × O × O × O × O → HW → Rs) (s : O × O × O × O × O × O) (h : HW) : Rs :=
 q51_61 C lf (fun x0 x3 x6 x38 x39 x40 h => k (x0, x3, x6, x38, x39, x40) h) e0 s.1 s.2.1 s.2.2.1 s.2.2.2.1 s.2.2.2.2.1 s.2.2.2.2.2 h
noncomputable def q51_66 (C : YC) (lf : Nat) (n : K6) (x0 x3 x6 : O) (h : HW) : Rs :=
 ob x3 fun a62 =>
 ob (fa 2 a62) fun y63 =>
 ob (ld1 y63 h) fun y64 =>
 ob (lenE Tryz.prog 44 y64) fun y65 =>
 n x0 x3 x6 (some y64) (some y65) (some (.int .i64 0)) h
theorem q51_66_eq (C : YC) (lf : Nat) (n : K6) (KR : KF) (KE : KX) : ∀ F h, ev51 C lf [1, 1, 1, 0, 0] F h (fun F h => n (F 0) (F 3) (F 6) (F 38) (F 39) (F 40) h) KR KE = q51_66 C lf n (F 0) (F 3) (F 6) h := by
  intro F h; kernel_rfl
noncomputable def q51_67 (C : YC) (lf : Nat) (n : K3) (x0 x3 x6 : O) (h : HW) : Rs :=
 q51_66 C lf (fun x0 x3 x6 x38 x39 x40 h => lp (l51_46 C lf n) lf (x0, x3, x6, x38, x39, x40) h) x0 x3 x6 h
theorem q51_67_eq (C : YC) (lf : Nat) (n : K3) (KR : KF) (KE : KX) : ∀ F h, ev51 C lf [1, 1, 1, 0] F h (fun F h => n (F 0) (F 3) (F 6) h) KR KE = q51_67 C lf n (F 0) (F 3) (F 6) h := cSeq (a := sub fb51 [1, 1, 1, 0, 0]) (b := sub fb51 [1, 1, 1, 0, 1]) (by kernel_rfl) (B := (fun F h => lp (l51_46 C lf n) lf ((F 0), (F 3), (F 6), (F 38), (F 39), (F 40)) h)) (cBlock (a := sub fb51 [1, 1, 1, 0, 1, 0]) (by kernel_rfl) (cLoop (g := fun F => (F 0, F 3, F 6, F 38, F 39, F 40)) (body := l51_46 C lf n) (by kernel_rfl) (fun k => (q51_61_eq C lf (fun x0 x3 x6 x38 x39 x40 h => k (x0, x3, x6, x38, x39, x40) h) n KR KE)))) (q51_66_eq C lf (fun x0 x3 x6 x38 x39 x40 h => lp (l51_46 C lf n) lf (x0, x3, x6, x38, x39, x40) h) KR KE)
noncomputable def q51_68 (C : YC) (lf : Nat) (r : K2) (x0 x3 x6 : O) (h : HW) : Rs :=
 q51_67 C lf (fun x0 x3 x6 h => q51_45 C lf r x0 x3 x6 h) x0 x3 x6 h
theorem q51_68_eq (C : YC) (lf : Nat) (r : K2) (KN : KF) (KE : KX) : ∀ F h, ev51 C lf [1, 1, 1] F h KN (fun F h => r (F 4) (F 5) h) KE = q51_68 C lf r (F 0) (F 3) (F 6) h := cSeq (a := sub fb51 [1, 1, 1, 0]) (b := sub fb51 [1, 1, 1, 1]) (by kernel_rfl) (B := (fun F h => q51_45 C lf r (F 0) (F 3) (F 6) h)) (q51_45_eq C lf r KN KE) (q51_67_eq C lf (fun x0 x3 x6 h => q51_45 C lf r x0 x3 x6 h) (fun F h => r (F 4) (F 5) h) KE)
noncomputable def q51_97 (C : YC) (lf : Nat) (n : K3) (x0 x3 : O) (h : HW) : Rs :=
 ob x3 fun a69 =>
 ob (fa 0 a69) fun y70 =>
 ob (ld1 y70 h) fun y71 =>
 ob (bin Tryz.prog .lss 3 y71 (.int .i64 0)) fun y72 =>
 bc (gd false (some y72) (ob x3 fun a73 =>
 ob (fa 1 a73) fun y74 =>
 some (.ret y74, h)) h) fun y75 h75 =>
 bc (gd false (some y72) (ob (ld1 y75 h75) fun y76 =>
 some (.ret y76, h75)) h75) fun y77 h77 =>
 bc (gd false (some y72) (ob (bin Tryz.prog .lss 3 y77 (.int .i64 0)) fun y78 =>
 some (.ret y78, h77)) h77) fun y79 h79 =>
 ob (ypk y72 (.bool true) y79) fun y80 =>
 bc (gd false (some y80) (ob x3 fun a81 =>
 ob (fa 3 a81) fun y82 =>
 some (.ret y82, h79)) h79) fun y83 h83 =>
 bc (gd false (some y80) (ob (ld1 y83 h83) fun y84 =>
 some (.ret y84, h83)) h83) fun y85 h85 =>
 bc (gd false (some y80) (ob (bin Tryz.prog .lss 3 y85 (.int .i64 0)) fun y86 =>
 some (.ret y86, h85)) h85) fun y87 h87 =>
 ob (ypk y80 (.bool true) y87) fun y88 =>
 bc (gd false (some y88) (ob x3 fun a89 =>
 ob (fa 3 a89) fun y90 =>
 some (.ret y90, h87)) h87) fun y91 h91 =>
 bc (gd false (some y88) (ob (ld1 y91 h91) fun y92 =>
 some (.ret y92, h91)) h91) fun y93 h93 =>
 bc (gd false (some y88) (ob (bin Tryz.prog .gtr 3 y93 (.int .i64 511)) fun y94 =>
 some (.ret y94, h93)) h93) fun y95 h95 =>
 ob (ypk y88 (.bool true) y95) fun y96 =>
 n x0 x3 (some y96) h95
theorem q51_97_eq (C : YC) (lf : Nat) (n : K3) (KR : KF) (KE : KX) : ∀ F h, ev51 C lf [1, 1, 0] F h (fun F h => n (F 0) (F 3) (F 6) h) KR KE = q51_97 C lf n (F 0) (F 3) h := by
  intro F h; kernel_rfl
noncomputable def q51_98 (C : YC) (lf : Nat) (r : K2) (x0 x3 : O) (h : HW) : Rs :=
 q51_97 C lf (fun x0 x3 x6 h => q51_68 C lf r x0 x3 x6 h) x0 x3 h
theorem q51_98_eq (C : YC) (lf : Nat) (r : K2) (KN : KF) (KE : KX) : ∀ F h, ev51 C lf [1, 1] F h KN (fun F h => r (F 4) (F 5) h) KE = q51_98 C lf r (F 0) (F 3) h := cSeq (a := sub fb51 [1, 1, 0]) (b := sub fb51 [1, 1, 1]) (by kernel_rfl) (B := (fun F h => q51_68 C lf r (F 0) (F 3) (F 6) h)) (q51_68_eq C lf r KN KE) (q51_97_eq C lf (fun x0 x3 x6 h => q51_68 C lf r x0 x3 x6 h) (fun F h => r (F 4) (F 5) h) KE)
noncomputable def q51_110 (C : YC) (lf : Nat) (n : K2) (r : K2) (x0 x3 : O) (h : HW) : Rs :=
 ob x0 fun a99 =>
 ob (bin Tryz.prog .eql 43 a99 (.val (.pointer none))) fun y100 =>
 bc (gd false (some y100) (ob x0 fun a101 =>
 some (.ret a101, h)) h) fun y102 h102 =>
 bc (gd false (some y100) (bc (C (.fn 117) [y102] h102) fun y103 h103 =>
 some (.ret y103, h103)) h102) fun y104 h104 =>
 bc (gd false (some y100) (ob (lenE Tryz.prog 44 y104) fun y105 =>
 some (.ret y105, h104)) h104) fun y106 h106 =>
 bc (gd false (some y100) (ob (bin Tryz.prog .eql 3 y106 (.int .i64 0)) fun y107 =>
 some (.ret y107, h106)) h106) fun y108 h108 =>
 ob (ypk y100 (.bool true) y108) fun y109 =>
 yIf y109
 (r (some (.val (.pointer none))) (some (.int .i64 14)) h108)
 (n x0 x3 h108)
theorem q51_110_eq (C : YC) (lf : Nat) (n : K2) (r : K2) (KE : KX) : ∀ F h, ev51 C lf [1, 0] F h (fun F h => n (F 0) (F 3) h) (fun F h => r (F 4) (F 5) h) KE = q51_110 C lf n r (F 0) (F 3) h := by
  intro F h; kernel_rfl
noncomputable def q51_111 (C : YC) (lf : Nat) (r : K2) (x0 x3 : O) (h : HW) : Rs :=
 q51_110 C lf (fun x0 x3 h => q51_98 C lf r x0 x3 h) r x0 x3 h
theorem q51_111_eq (C : YC) (lf : Nat) (r : K2) (KN : KF) (KE : KX) : ∀ F h, ev51 C lf [1] F h KN (fun F h => r (F 4) (F 5) h) KE = q51_111 C lf r (F 0) (F 3) h := cSeq (a := sub fb51 [1, 0]) (b := sub fb51 [1, 1]) (by kernel_rfl) (B := (fun F h => q51_98 C lf r (F 0) (F 3) h)) (q51_98_eq C lf r KN KE) (q51_110_eq C lf (fun x0 x3 h => q51_98 C lf r x0 x3 h) r KE)
noncomputable def q51_114 (C : YC) (lf : Nat) (n : K2) (x0 x1 : O) (h : HW) : Rs :=
 ob x1 fun a112 =>
 b2 (ybx 46 a112 h) fun y113 h113 =>
 n x0 (some y113) h113
theorem q51_114_eq (C : YC) (lf : Nat) (n : K2) (KR : KF) (KE : KX) : ∀ F h, ev51 C lf [0] F h (fun F h => n (F 0) (F 3) h) KR KE = q51_114 C lf n (F 0) (F 1) h := by
  intro F h; kernel_rfl
noncomputable def q51_115 (C : YC) (lf : Nat) (r : K2) (x0 x1 : O) (h : HW) : Rs :=
 q51_114 C lf (fun x0 x3 h => q51_111 C lf r x0 x3 h) x0 x1 h
theorem q51_115_eq (C : YC) (lf : Nat) (r : K2) (KN : KF) (KE : KX) : ∀ F h, ev51 C lf [] F h KN (fun F h => r (F 4) (F 5) h) KE = q51_115 C lf r (F 0) (F 1) h := cSeq (a := sub fb51 [0]) (b := sub fb51 [1]) (by kernel_rfl) (B := (fun F h => q51_111 C lf r (F 0) (F 3) h)) (q51_111_eq C lf r KN KE) (q51_114_eq C lf (fun x0 x3 h => q51_111 C lf r x0 x3 h) (fun F h => r (F 4) (F 5) h) KE)
noncomputable def fs51 (C : YC) (lf : Nat) (a0 a1 : SV) (h : HW) : Rs := q51_115 C lf ff51 (some a0) (some a1) h
theorem fs51_eq (C : YC) (lf : Nat) (a0 a1 : SV) (h : HW) : yFn Tryz.prog fx51 C lf [a0, a1] h = fs51 C lf a0 a1 h :=
  fnOf (K := (fun F h => ff51 (F 4) (F 5) h)) (b := fb51) (N := fn51) (by kernel_rfl) (by kernel_rfl) (by kernel_rfl) (((q51_115_eq C lf ff51 (fun F h => ff51 (F 4) (F 5) h) (fun _ _ _ => none)) (frOf [a0, a1]) h).trans (by kernel_rfl))
noncomputable def ft51 (C : YC) (lf : Nat) (args : List SV) (h : HW) : Rs := match args with | [a0, a1] => fs51 C lf a0 a1 h | _ => none
theorem ft51_eq (C : YC) (lf : Nat) (args : List SV) (h : HW) (r : Out × HW) (e : ft51 C lf args h = some r) : Nat.ble args.length fx51.fn.ntmps = true ∧ yFn Tryz.prog fx51 C lf args h = some r := by
  rcases args with _ | ⟨a0, _ | ⟨a1, _ | ⟨_, _⟩⟩⟩ <;> first | (cases e; done) | exact ⟨by kernel_rfl, (fs51_eq ..).trans e⟩
noncomputable def fy51 : YX Tryz.prog := ⟨fx51, ft51, ft51_eq⟩

/-! FN 52 tinsel/tinsellaw07.lives -/
noncomputable def fx52 : XF Tryz.prog := { f := 52, fn := Tryz.f52, ord := fun _ => .text, isFn := Tryz.func52, isBody := by kernel_rfl, isPlain := by kernel_rfl, isSmall := by kernel_rfl, isOK := by kernel_rfl }
noncomputable def fb52 : Code := Tryz.f52.body.getD .skip
noncomputable def fn52 : Nat := Tryz.f52.ntmps
noncomputable abbrev ev52 (C : YC) (lf : Nat) (p : List Nat) := evY Tryz.prog C fn52 fx52.ord lf (sub fb52 p)
noncomputable def ff52 (x0 : O) (h : HW) : Rs :=
 ob x0 fun a0 =>
 some (.ret a0, h)
noncomputable def q52_73 (C : YC) (lf : Nat) (r : K1) (h : HW) : Rs :=
 bc (C (.fn 77) [(.int .i64 16), (.int .i64 8)] h) fun y1 h1 =>
 ob (ext 0 y1) fun y2 =>
 ob (ext 1 y1) fun y3 =>
 ob (bin Tryz.prog .neq 23 y3 (.int .i64 0)) fun y4 =>
 bc (gd false (some y4) (some (.ret y2, h1)) h1) fun y5 h5 =>
 bc (gd false (some y4) (ob (bin Tryz.prog .eql 43 y5 (.val (.pointer none))) fun y6 =>
 some (.ret y6, h5)) h5) fun y7 h7 =>
 ob (ypk y4 (.bool true) y7) fun y8 =>
 yIf y8
 (r (some (.bool false)) h7)
 (ob (semBuild Tryz.prog 46 [] []) fun y9 =>
 bc (C (.fn 51) [y2, y9] h7) fun y10 h10 =>
 ob (ext 0 y10) fun y11 =>
 ob (ext 1 y10) fun y12 =>
 ob (bin Tryz.prog .neq 23 y12 (.int .i64 0)) fun y13 =>
 bc (gd false (some y13) (some (.ret y11, h10)) h10) fun y14 h14 =>
 bc (gd false (some y13) (ob (bin Tryz.prog .eql 36 y14 (.val (.pointer none))) fun y15 =>
 some (.ret y15, h14)) h14) fun y16 h16 =>
 ob (ypk y13 (.bool true) y16) fun y17 =>
 yIf y17
 (r (some (.bool false)) h16)
 (bc (C (.fn 36) [y11, (.str (bs [102])), (.int .i64 10), (.int .i64 438)] h16) fun y18 h18 =>
 ob (ext 0 y18) fun y19 =>
 ob (ext 1 y18) fun y20 =>
 b2 (ybs Tryz.prog 31 3 [0, 1, 2] [(.int .u8 97), (.int .u8 98), (.int .u8 99)] h18) fun y21 h21 =>
 b2 (ycv Tryz.prog 31 31 y21 h21) fun y22 h22 =>
 bc (C (.fn 38) [y11, y19, y22] h22) fun y23 h23 =>
 ob (ext 0 y23) fun y24 =>
 ob (ext 1 y23) fun y25 =>
 bc (C (.fn 120) [y11, y19, (.int .i64 (-1)), (.int .i64 1)] h23) fun y26 h26 =>
 ob (ext 0 y26) fun y27 =>
 ob (ext 1 y26) fun y28 =>
 bc (C (.fn 37) [y11, y19, (.int .i64 1)] h26) fun y29 h29 =>
 ob (ext 0 y29) fun y30 =>
 ob (ext 1 y29) fun y31 =>
 bc (C (.fn 39) [y11] h29) fun y32 h32 =>
 ob (ext 0 y32) fun y33 =>
 ob (ext 1 y32) fun y34 =>
 ob (ext 2 y32) fun y35 =>
 ob (bin Tryz.prog .eql 3 y19 (.int .i64 0)) fun y36 =>
 bc (gd true (some y36) (some (.ret y20, h32)) h32) fun y37 h37 =>
 bc (gd true (some y36) (ob (bin Tryz.prog .eql 23 y37 (.int .i64 0)) fun y38 =>
 some (.ret y38, h37)) h37) fun y39 h39 =>
 ob (ypk y36 y39 (.bool false)) fun y40 =>
 bc (gd true (some y40) (some (.ret y24, h39)) h39) fun y41 h41 =>
 bc (gd true (some y40) (ob (bin Tryz.prog .eql 3 y41 (.int .i64 3)) fun y42 =>
 some (.ret y42, h41)) h41) fun y43 h43 =>
 ob (ypk y40 y43 (.bool false)) fun y44 =>
 bc (gd true (some y44) (some (.ret y25, h43)) h43) fun y45 h45 =>
 bc (gd true (some y44) (ob (bin Tryz.prog .eql 23 y45 (.int .i64 0)) fun y46 =>
 some (.ret y46, h45)) h45) fun y47 h47 =>
 ob (ypk y44 y47 (.bool false)) fun y48 =>
 bc (gd true (some y48) (some (.ret y27, h47)) h47) fun y49 h49 =>
 bc (gd true (some y48) (ob (bin Tryz.prog .eql 3 y49 (.int .i64 2)) fun y50 =>
 some (.ret y50, h49)) h49) fun y51 h51 =>
 ob (ypk y48 y51 (.bool false)) fun y52 =>
 bc (gd true (some y52) (some (.ret y28, h51)) h51) fun y53 h53 =>
 bc (gd true (some y52) (ob (bin Tryz.prog .eql 23 y53 (.int .i64 0)) fun y54 =>
 some (.ret y54, h53)) h53) fun y55 h55 =>
 ob (ypk y52 y55 (.bool false)) fun y56 =>
 bc (gd true (some y56) (some (.ret y31, h55)) h55) fun y57 h57 =>
 bc (gd true (some y56) (ob (bin Tryz.prog .eql 23 y57 (.int .i64 9)) fun y58 =>
 some (.ret y58, h57)) h57) fun y59 h59 =>
 ob (ypk y56 y59 (.bool false)) fun y60 =>
 bc (gd true (some y60) (some (.ret y33, h59)) h59) fun y61 h61 =>
 bc (gd true (some y60) (ob (bin Tryz.prog .eql 3 y61 (.int .i64 1)) fun y62 =>
 some (.ret y62, h61)) h61) fun y63 h63 =>
 ob (ypk y60 y63 (.bool false)) fun y64 =>
 bc (gd true (some y64) (some (.ret y34, h63)) h63) fun y65 h65 =>
 bc (gd true (some y64) (ob (bin Tryz.prog .eql 3 y65 (.int .i64 2)) fun y66 =>
 some (.ret y66, h65)) h65) fun y67 h67 =>
 ob (ypk y64 y67 (.bool false)) fun y68 =>
 bc (gd true (some y68) (some (.ret y35, h67)) h67) fun y69 h69 =>
 bc (gd true (some y68) (ob (bin Tryz.prog .eql 23 y69 (.int .i64 0)) fun y70 =>
 some (.ret y70, h69)) h69) fun y71 h71 =>
 ob (ypk y68 y71 (.bool false)) fun y72 =>
 r (some y72) h71))
theorem q52_73_eq (C : YC) (lf : Nat) (r : K1) (KN : KF) (KE : KX) : ∀ F h, ev52 C lf [] F h KN (fun F h => r (F 0) h) KE = q52_73 C lf r h := by
  intro F h; kernel_rfl
noncomputable def fs52 (C : YC) (lf : Nat) (h : HW) : Rs := q52_73 C lf ff52 h
theorem fs52_eq (C : YC) (lf : Nat) (h : HW) : yFn Tryz.prog fx52 C lf [] h = fs52 C lf h :=
  fnOf (K := (fun F h => ff52 (F 0) h)) (b := fb52) (N := fn52) (by kernel_rfl) (by kernel_rfl) (by kernel_rfl) (((q52_73_eq C lf ff52 (fun F h => ff52 (F 0) h) (fun _ _ _ => none)) (frOf []) h).trans (by kernel_rfl))
noncomputable def ft52 (C : YC) (lf : Nat) (args : List SV) (h : HW) : Rs := match args with | [] => fs52 C lf h | _ => none
theorem ft52_eq (C : YC) (lf : Nat) (args : List SV) (h : HW) (r : Out × HW) (e : ft52 C lf args h = some r) : Nat.ble args.length fx52.fn.ntmps = true ∧ yFn Tryz.prog fx52 C lf args h = some r := by
  rcases args with _ | ⟨_, _⟩ <;> first | (cases e; done) | exact ⟨by kernel_rfl, (fs52_eq ..).trans e⟩
noncomputable def fy52 : YX Tryz.prog := ⟨fx52, ft52, ft52_eq⟩

/-! FN 77 tinsel/tree.New -/
noncomputable def fx77 : XF Tryz.prog := { f := 77, fn := Tryz.f77, ord := fun _ => .text, isFn := Tryz.func77, isBody := by kernel_rfl, isPlain := by kernel_rfl, isSmall := by kernel_rfl, isOK := by kernel_rfl }
noncomputable def fb77 : Code := Tryz.f77.body.getD .skip
noncomputable def fn77 : Nat := Tryz.f77.ntmps
noncomputable abbrev ev77 (C : YC) (lf : Nat) (p : List Nat) := evY Tryz.prog C fn77 fx77.ord lf (sub fb77 p)
noncomputable def ff77 (x4 x5 : O) (h : HW) : Rs :=
 ob x4 fun a0 =>
 ob x5 fun a1 =>
 some (.ret (.tup [a0, a1]), h)
noncomputable def q77_13 (C : YC) (lf : Nat) (r : K2) (x0 x1 : O) (h : HW) : Rs :=
 ob x0 fun a2 =>
 ob x1 fun a3 =>
 bc (C (.fn 137) [a2, a3] h) fun y4 h4 =>
 ob (ext 0 y4) fun y5 =>
 ob (ext 1 y4) fun y6 =>
 ob (bin Tryz.prog .neq 23 y6 (.int .i64 0)) fun y7 =>
 yIf y7
 (r (some (.val (.pointer none))) (some y6) h4)
 (bc (C (.fn 138) [y5, (.int .i64 16877), (.int .i64 0), (.int .i64 0)] h4) fun y8 h8 =>
 bc (C (.fn 139) [y5, (.int .i64 1), (.int .i64 1)] h8) fun y9 h9 =>
 bc (C (.fn 140) [y5, (.int .i64 1), (.int .i64 2)] h9) fun y10 h10 =>
 ob (semBuild Tryz.prog 220 [0] [y5]) fun y11 =>
 b2 (ybx 220 y11 h10) fun y12 h12 =>
 r (some y12) (some (.int .i64 0)) h12)
theorem q77_13_eq (C : YC) (lf : Nat) (r : K2) (KN : KF) (KE : KX) : ∀ F h, ev77 C lf [] F h KN (fun F h => r (F 4) (F 5) h) KE = q77_13 C lf r (F 0) (F 1) h := by
  intro F h; kernel_rfl
noncomputable def fs77 (C : YC) (lf : Nat) (a0 a1 : SV) (h : HW) : Rs := q77_13 C lf ff77 (some a0) (some a1) h
theorem fs77_eq (C : YC) (lf : Nat) (a0 a1 : SV) (h : HW) : yFn Tryz.prog fx77 C lf [a0, a1] h = fs77 C lf a0 a1 h :=
  fnOf (K := (fun F h => ff77 (F 4) (F 5) h)) (b := fb77) (N := fn77) (by kernel_rfl) (by kernel_rfl) (by kernel_rfl) (((q77_13_eq C lf ff77 (fun F h => ff77 (F 4) (F 5) h) (fun _ _ _ => none)) (frOf [a0, a1]) h).trans (by kernel_rfl))
noncomputable def ft77 (C : YC) (lf : Nat) (args : List SV) (h : HW) : Rs := match args with | [a0, a1] => fs77 C lf a0 a1 h | _ => none
theorem ft77_eq (C : YC) (lf : Nat) (args : List SV) (h : HW) (r : Out × HW) (e : ft77 C lf args h = some r) : Nat.ble args.length fx77.fn.ntmps = true ∧ yFn Tryz.prog fx77 C lf args h = some r := by
  rcases args with _ | ⟨a0, _ | ⟨a1, _ | ⟨_, _⟩⟩⟩ <;> first | (cases e; done) | exact ⟨by kernel_rfl, (fs77_eq ..).trans e⟩
noncomputable def fy77 : YX Tryz.prog := ⟨fx77, ft77, ft77_eq⟩

/-! FN 103 (*tinsel/desc.Proc).made -/
noncomputable def fx103 : XF Tryz.prog := { f := 103, fn := Tryz.f103, ord := fun _ => .text, isFn := Tryz.func103, isBody := by kernel_rfl, isPlain := by kernel_rfl, isSmall := by kernel_rfl, isOK := by kernel_rfl }
noncomputable def fb103 : Code := Tryz.f103.body.getD .skip
noncomputable def fn103 : Nat := Tryz.f103.ntmps
noncomputable abbrev ev103 (C : YC) (lf : Nat) (p : List Nat) := evY Tryz.prog C fn103 fx103.ord lf (sub fb103 p)
noncomputable def ff103 (x2 : O) (h : HW) : Rs :=
 ob x2 fun a0 =>
 some (.ret a0, h)
noncomputable def q103_14 (C : YC) (lf : Nat) (r : K1) (x0 : O) (h : HW) : Rs :=
 ob x0 fun a1 =>
 ob (bin Tryz.prog .neq 36 a1 (.val (.pointer none))) fun y2 =>
 bc (gd true (some y2) (ob x0 fun a3 =>
 some (.ret a3, h)) h) fun y4 h4 =>
 bc (gd true (some y2) (ob (semNil y4) fun y5 =>
 some (.ret y5, h4)) h4) fun y6 h6 =>
 bc (gd true (some y2) (ob (fa 0 y6) fun y7 =>
 some (.ret y7, h6)) h6) fun y8 h8 =>
 bc (gd true (some y2) (ob (ld1 y8 h8) fun y9 =>
 some (.ret y9, h8)) h8) fun y10 h10 =>
 bc (gd true (some y2) (ob (bin Tryz.prog .neq 43 y10 (.val (.pointer none))) fun y11 =>
 some (.ret y11, h10)) h10) fun y12 h12 =>
 ob (ypk y2 y12 (.bool false)) fun y13 =>
 r (some y13) h12
theorem q103_14_eq (C : YC) (lf : Nat) (r : K1) (KN : KF) (KE : KX) : ∀ F h, ev103 C lf [] F h KN (fun F h => r (F 2) h) KE = q103_14 C lf r (F 0) h := by
  intro F h; kernel_rfl
noncomputable def fs103 (C : YC) (lf : Nat) (a0 : SV) (h : HW) : Rs := q103_14 C lf ff103 (some a0) h
theorem fs103_eq (C : YC) (lf : Nat) (a0 : SV) (h : HW) : yFn Tryz.prog fx103 C lf [a0] h = fs103 C lf a0 h :=
  fnOf (K := (fun F h => ff103 (F 2) h)) (b := fb103) (N := fn103) (by kernel_rfl) (by kernel_rfl) (by kernel_rfl) (((q103_14_eq C lf ff103 (fun F h => ff103 (F 2) h) (fun _ _ _ => none)) (frOf [a0]) h).trans (by kernel_rfl))
noncomputable def ft103 (C : YC) (lf : Nat) (args : List SV) (h : HW) : Rs := match args with | [a0] => fs103 C lf a0 h | _ => none
theorem ft103_eq (C : YC) (lf : Nat) (args : List SV) (h : HW) (r : Out × HW) (e : ft103 C lf args h = some r) : Nat.ble args.length fx103.fn.ntmps = true ∧ yFn Tryz.prog fx103 C lf args h = some r := by
  rcases args with _ | ⟨a0, _ | ⟨_, _⟩⟩ <;> first | (cases e; done) | exact ⟨by kernel_rfl, (fs103_eq ..).trans e⟩
noncomputable def fy103 : YX Tryz.prog := ⟨fx103, ft103, ft103_eq⟩

/-! FN 104 (*tinsel/desc.Proc).free -/
noncomputable def fx104 : XF Tryz.prog := { f := 104, fn := Tryz.f104, ord := fun _ => .text, isFn := Tryz.func104, isBody := by kernel_rfl, isPlain := by kernel_rfl, isSmall := by kernel_rfl, isOK := by kernel_rfl }
noncomputable def fb104 : Code := Tryz.f104.body.getD .skip
noncomputable def fn104 : Nat := Tryz.f104.ntmps
noncomputable abbrev ev104 (C : YC) (lf : Nat) (p : List Nat) := evY Tryz.prog C fn104 fx104.ord lf (sub fb104 p)
noncomputable def ff104 (x2 : O) (h : HW) : Rs :=
 ob x2 fun a0 =>
 some (.ret a0, h)
noncomputable def q104_5 (C : YC) (lf : Nat) (r : K1) (x0 : O) (h : HW) : Rs :=
 ob x0 fun a1 =>
 bc (C (.fn 48) [a1] h) fun y2 h2 =>
 ob (lenE Tryz.prog 44 y2) fun y3 =>
 ob (bin Tryz.prog .sub 3 (.int .i64 16) y3) fun y4 =>
 r (some y4) h2
theorem q104_5_eq (C : YC) (lf : Nat) (r : K1) (KN : KF) (KE : KX) : ∀ F h, ev104 C lf [] F h KN (fun F h => r (F 2) h) KE = q104_5 C lf r (F 0) h := by
  intro F h; kernel_rfl
noncomputable def fs104 (C : YC) (lf : Nat) (a0 : SV) (h : HW) : Rs := q104_5 C lf ff104 (some a0) h
theorem fs104_eq (C : YC) (lf : Nat) (a0 : SV) (h : HW) : yFn Tryz.prog fx104 C lf [a0] h = fs104 C lf a0 h :=
  fnOf (K := (fun F h => ff104 (F 2) h)) (b := fb104) (N := fn104) (by kernel_rfl) (by kernel_rfl) (by kernel_rfl) (((q104_5_eq C lf ff104 (fun F h => ff104 (F 2) h) (fun _ _ _ => none)) (frOf [a0]) h).trans (by kernel_rfl))
noncomputable def ft104 (C : YC) (lf : Nat) (args : List SV) (h : HW) : Rs := match args with | [a0] => fs104 C lf a0 h | _ => none
theorem ft104_eq (C : YC) (lf : Nat) (args : List SV) (h : HW) (r : Out × HW) (e : ft104 C lf args h = some r) : Nat.ble args.length fx104.fn.ntmps = true ∧ yFn Tryz.prog fx104 C lf args h = some r := by
  rcases args with _ | ⟨a0, _ | ⟨_, _⟩⟩ <;> first | (cases e; done) | exact ⟨by kernel_rfl, (fs104_eq ..).trans e⟩
noncomputable def fy104 : YX Tryz.prog := ⟨fx104, ft104, ft104_eq⟩

/-! EV 105 (*tinsel/tree.FS).Open: operation -/
noncomputable def fx105 : XF Tryz.prog := { f := 105, fn := Tryz.f105, ord := fun r => bif Nat.beq r 7 then .news [0, 2, 3, 1, 4, 5, 6, 7, 8, 9, 10, 11, 12, 13] [12] [(10, [1]), (4, [1])] else .text, isFn := Tryz.func105, isBody := by kernel_rfl, isPlain := by kernel_rfl, isSmall := by kernel_rfl, isOK := by kernel_rfl }

/-! FN 106 (*tinsel/desc.Proc).put -/
noncomputable def fx106 : XF Tryz.prog := { f := 106, fn := Tryz.f106, ord := fun _ => .text, isFn := Tryz.func106, isBody := by kernel_rfl, isPlain := by kernel_rfl, isSmall := by kernel_rfl, isOK := by kernel_rfl }
noncomputable def fb106 : Code := Tryz.f106.body.getD .skip
noncomputable def fn106 : Nat := Tryz.f106.ntmps
noncomputable abbrev ev106 (C : YC) (lf : Nat) (p : List Nat) := evY Tryz.prog C fn106 fx106.ord lf (sub fb106 p)
noncomputable def ff106 (x4 : O) (h : HW) : Rs :=
 ob x4 fun a0 =>
 some (.ret a0, h)
noncomputable def q106_1 (C : YC) (lf : Nat) (r : K1) (h : HW) : Rs :=
 r (some (.int .i64 (-1))) h
theorem q106_1_eq (C : YC) (lf : Nat) (r : K1) (KN : KF) (KE : KX) : ∀ F h, ev106 C lf [1, 1] F h KN (fun F h => r (F 4) h) KE = q106_1 C lf r h := by
  intro F h; kernel_rfl
noncomputable def q106_28 (C : YC) (lf : Nat) (n : K3) (r : K1) (e0 : K0) (x0 x1 x6 : O) (h : HW) : Rs :=
 ob x6 fun a3 =>
 ob (bin Tryz.prog .lss 3 a3 (.int .i64 16)) fun y4 =>
 yIf y4
 (ob x6 fun a5 =>
 ob x0 fun a6 =>
 ob (semNil a6) fun y7 =>
 ob (fa 6 y7) fun y8 =>
 ob (ixA 16 1 y8 a5) fun y9 =>
 ob (ld1 y9 h) fun y10 =>
 ob (bin Tryz.prog .eql 47 y10 (.val (.pointer none))) fun y11 =>
 yIf y11
 (ob x0 fun a12 =>
 ob x1 fun a13 =>
 ob (semNil a12) fun y14 =>
 ob (fa 6 y14) fun y15 =>
 ob (ixA 16 1 y15 a5) fun y16 =>
 ob (st 1 y16 a13 h) fun h17 =>
 ob x1 fun a18 =>
 ob (semNil a18) fun y19 =>
 ob (fa 2 y19) fun y20 =>
 ob (ld1 y20 h17) fun y21 =>
 ob (bin Tryz.prog .add 3 y21 (.int .i64 1)) fun y22 =>
 ob (semNil a18) fun y23 =>
 ob (fa 2 y23) fun y24 =>
 ob (st 1 y24 y22 h17) fun h25 =>
 r (some a5) h25)
 (ob x6 fun a26 =>
 ob (bin Tryz.prog .add 3 a26 (.int .i64 1)) fun y27 =>
 n x0 x1 (some y27) h))
 (e0 h)
theorem q106_28_eq (C : YC) (lf : Nat) (n : K3) (r : K1) (e0 : K0) (KE : KX) : ∀ F h, ev106 C lf [1, 0, 1, 0, 0] F h (fun F h => n (F 0) (F 1) (F 6) h) (fun F h => r (F 4) h) (bk 0 (fun F h => e0 h) KE) = q106_28 C lf n r e0 (F 0) (F 1) (F 6) h := by
  intro F h; kernel_rfl
noncomputable def l106_2 (C : YC) (lf : Nat) (r : K1) (e0 : K0) (k : O × O × O → HW → Rs) (s : O × O × O) (h : HW) : Rs :=
 q106_28 C lf (fun x0 x1 x6 h => k (x0, x1, x6) h) r e0 s.1 s.2.1 s.2.2 h
noncomputable def q106_29 (C : YC) (lf : Nat) (n : K3) (x0 x1 : O) (h : HW) : Rs :=
 n x0 x1 (some (.int .i64 0)) h
theorem q106_29_eq (C : YC) (lf : Nat) (n : K3) (KR : KF) (KE : KX) : ∀ F h, ev106 C lf [1, 0, 0] F h (fun F h => n (F 0) (F 1) (F 6) h) KR KE = q106_29 C lf n (F 0) (F 1) h := by
  intro F h; kernel_rfl
noncomputable def q106_30 (C : YC) (lf : Nat) (n : K0) (r : K1) (x0 x1 : O) (h : HW) : Rs :=
 q106_29 C lf (fun x0 x1 x6 h => lp (l106_2 C lf r n) lf (x0, x1, x6) h) x0 x1 h
theorem q106_30_eq (C : YC) (lf : Nat) (n : K0) (r : K1) (KE : KX) : ∀ F h, ev106 C lf [1, 0] F h (fun F h => n h) (fun F h => r (F 4) h) KE = q106_30 C lf n r (F 0) (F 1) h := cSeq (a := sub fb106 [1, 0, 0]) (b := sub fb106 [1, 0, 1]) (by kernel_rfl) (B := (fun F h => lp (l106_2 C lf r n) lf ((F 0), (F 1), (F 6)) h)) (cBlock (a := sub fb106 [1, 0, 1, 0]) (by kernel_rfl) (cLoop (g := fun F => (F 0, F 1, F 6)) (body := l106_2 C lf r n) (by kernel_rfl) (fun k => (q106_28_eq C lf (fun x0 x1 x6 h => k (x0, x1, x6) h) r n KE)))) (q106_29_eq C lf (fun x0 x1 x6 h => lp (l106_2 C lf r n) lf (x0, x1, x6) h) (fun F h => r (F 4) h) KE)
noncomputable def q106_31 (C : YC) (lf : Nat) (r : K1) (x0 x1 : O) (h : HW) : Rs :=
 q106_30 C lf (fun h => q106_1 C lf r h) r x0 x1 h
theorem q106_31_eq (C : YC) (lf : Nat) (r : K1) (KN : KF) (KE : KX) : ∀ F h, ev106 C lf [1] F h KN (fun F h => r (F 4) h) KE = q106_31 C lf r (F 0) (F 1) h := cSeq (a := sub fb106 [1, 0]) (b := sub fb106 [1, 1]) (by kernel_rfl) (B := (fun F h => q106_1 C lf r h)) (q106_1_eq C lf r KN KE) (q106_30_eq C lf (fun h => q106_1 C lf r h) r KE)
noncomputable def q106_32 (C : YC) (lf : Nat) (n : K2) (x0 x1 : O) (h : HW) : Rs :=
 n x0 x1 h
theorem q106_32_eq (C : YC) (lf : Nat) (n : K2) (KR : KF) (KE : KX) : ∀ F h, ev106 C lf [0] F h (fun F h => n (F 0) (F 1) h) KR KE = q106_32 C lf n (F 0) (F 1) h := by
  intro F h; kernel_rfl
noncomputable def q106_33 (C : YC) (lf : Nat) (r : K1) (x0 x1 : O) (h : HW) : Rs :=
 q106_32 C lf (fun x0 x1 h => q106_31 C lf r x0 x1 h) x0 x1 h
theorem q106_33_eq (C : YC) (lf : Nat) (r : K1) (KN : KF) (KE : KX) : ∀ F h, ev106 C lf [] F h KN (fun F h => r (F 4) h) KE = q106_33 C lf r (F 0) (F 1) h := cSeq (a := sub fb106 [0]) (b := sub fb106 [1]) (by kernel_rfl) (B := (fun F h => q106_31 C lf r (F 0) (F 1) h)) (q106_31_eq C lf r KN KE) (q106_32_eq C lf (fun x0 x1 h => q106_31 C lf r x0 x1 h) (fun F h => r (F 4) h) KE)
noncomputable def fs106 (C : YC) (lf : Nat) (a0 a1 : SV) (h : HW) : Rs := q106_33 C lf ff106 (some a0) (some a1) h
theorem fs106_eq (C : YC) (lf : Nat) (a0 a1 : SV) (h : HW) : yFn Tryz.prog fx106 C lf [a0, a1] h = fs106 C lf a0 a1 h :=
  fnOf (K := (fun F h => ff106 (F 4) h)) (b := fb106) (N := fn106) (by kernel_rfl) (by kernel_rfl) (by kernel_rfl) (((q106_33_eq C lf ff106 (fun F h => ff106 (F 4) h) (fun _ _ _ => none)) (frOf [a0, a1]) h).trans (by kernel_rfl))
noncomputable def ft106 (C : YC) (lf : Nat) (args : List SV) (h : HW) : Rs := match args with | [a0, a1] => fs106 C lf a0 a1 h | _ => none
theorem ft106_eq (C : YC) (lf : Nat) (args : List SV) (h : HW) (r : Out × HW) (e : ft106 C lf args h = some r) : Nat.ble args.length fx106.fn.ntmps = true ∧ yFn Tryz.prog fx106 C lf args h = some r := by
  rcases args with _ | ⟨a0, _ | ⟨a1, _ | ⟨_, _⟩⟩⟩ <;> first | (cases e; done) | exact ⟨by kernel_rfl, (fs106_eq ..).trans e⟩
noncomputable def fy106 : YX Tryz.prog := ⟨fx106, ft106, ft106_eq⟩

/-! FN 107 (*tinsel/desc.Proc).get -/
noncomputable def fx107 : XF Tryz.prog := { f := 107, fn := Tryz.f107, ord := fun _ => .text, isFn := Tryz.func107, isBody := by kernel_rfl, isPlain := by kernel_rfl, isSmall := by kernel_rfl, isOK := by kernel_rfl }
noncomputable def fb107 : Code := Tryz.f107.body.getD .skip
noncomputable def fn107 : Nat := Tryz.f107.ntmps
noncomputable abbrev ev107 (C : YC) (lf : Nat) (p : List Nat) := evY Tryz.prog C fn107 fx107.ord lf (sub fb107 p)
noncomputable def ff107 (x4 x5 : O) (h : HW) : Rs :=
 ob x4 fun a0 =>
 ob x5 fun a1 =>
 some (.ret (.tup [a0, a1]), h)
noncomputable def q107_33 (C : YC) (lf : Nat) (r : K2) (x0 x1 : O) (h : HW) : Rs :=
 ob x0 fun a2 =>
 bc (C (.fn 103) [a2] h) fun y3 h3 =>
 ob (unE .not y3) fun y4 =>
 yIf y4
 (r (some (.val (.pointer none))) (some (.int .i64 14)) h3)
 (ob x1 fun a5 =>
 ob (bin Tryz.prog .lss 3 a5 (.int .i64 0)) fun y6 =>
 bc (gd false (some y6) (ob x1 fun a7 =>
 some (.ret a7, h3)) h3) fun y8 h8 =>
 bc (gd false (some y6) (ob (bin Tryz.prog .geq 3 y8 (.int .i64 16)) fun y9 =>
 some (.ret y9, h8)) h8) fun y10 h10 =>
 ob (ypk y6 (.bool true) y10) fun y11 =>
 bc (gd false (some y11) (ob x0 fun a12 =>
 some (.ret a12, h10)) h10) fun y13 h13 =>
 bc (gd false (some y11) (ob x1 fun a14 =>
 some (.ret a14, h13)) h13) fun y15 h15 =>
 bc (gd false (some y11) (ob (semNil y13) fun y16 =>
 some (.ret y16, h15)) h15) fun y17 h17 =>
 bc (gd false (some y11) (ob (fa 6 y17) fun y18 =>
 some (.ret y18, h17)) h17) fun y19 h19 =>
 bc (gd false (some y11) (ob (ixA 16 1 y19 y15) fun y20 =>
 some (.ret y20, h19)) h19) fun y21 h21 =>
 bc (gd false (some y11) (ob (ld1 y21 h21) fun y22 =>
 some (.ret y22, h21)) h21) fun y23 h23 =>
 bc (gd false (some y11) (ob (bin Tryz.prog .eql 47 y23 (.val (.pointer none))) fun y24 =>
 some (.ret y24, h23)) h23) fun y25 h25 =>
 ob (ypk y11 (.bool true) y25) fun y26 =>
 yIf y26
 (r (some (.val (.pointer none))) (some (.int .i64 9)) h25)
 (ob x0 fun a27 =>
 ob x1 fun a28 =>
 ob (semNil a27) fun y29 =>
 ob (fa 6 y29) fun y30 =>
 ob (ixA 16 1 y30 a28) fun y31 =>
 ob (ld1 y31 h25) fun y32 =>
 r (some y32) (some (.int .i64 0)) h25))
theorem q107_33_eq (C : YC) (lf : Nat) (r : K2) (KN : KF) (KE : KX) : ∀ F h, ev107 C lf [] F h KN (fun F h => r (F 4) (F 5) h) KE = q107_33 C lf r (F 0) (F 1) h := by
  intro F h; kernel_rfl
noncomputable def fs107 (C : YC) (lf : Nat) (a0 a1 : SV) (h : HW) : Rs := q107_33 C lf ff107 (some a0) (some a1) h
theorem fs107_eq (C : YC) (lf : Nat) (a0 a1 : SV) (h : HW) : yFn Tryz.prog fx107 C lf [a0, a1] h = fs107 C lf a0 a1 h :=
  fnOf (K := (fun F h => ff107 (F 4) (F 5) h)) (b := fb107) (N := fn107) (by kernel_rfl) (by kernel_rfl) (by kernel_rfl) (((q107_33_eq C lf ff107 (fun F h => ff107 (F 4) (F 5) h) (fun _ _ _ => none)) (frOf [a0, a1]) h).trans (by kernel_rfl))
noncomputable def ft107 (C : YC) (lf : Nat) (args : List SV) (h : HW) : Rs := match args with | [a0, a1] => fs107 C lf a0 a1 h | _ => none
theorem ft107_eq (C : YC) (lf : Nat) (args : List SV) (h : HW) (r : Out × HW) (e : ft107 C lf args h = some r) : Nat.ble args.length fx107.fn.ntmps = true ∧ yFn Tryz.prog fx107 C lf args h = some r := by
  rcases args with _ | ⟨a0, _ | ⟨a1, _ | ⟨_, _⟩⟩⟩ <;> first | (cases e; done) | exact ⟨by kernel_rfl, (fs107_eq ..).trans e⟩
noncomputable def fy107 : YX Tryz.prog := ⟨fx107, ft107, ft107_eq⟩

/-! FN 108 (*tinsel/desc.Proc).look -/
noncomputable def fx108 : XF Tryz.prog := { f := 108, fn := Tryz.f108, ord := fun _ => .text, isFn := Tryz.func108, isBody := by kernel_rfl, isPlain := by kernel_rfl, isSmall := by kernel_rfl, isOK := by kernel_rfl }
noncomputable def fb108 : Code := Tryz.f108.body.getD .skip
noncomputable def fn108 : Nat := Tryz.f108.ntmps
noncomputable abbrev ev108 (C : YC) (lf : Nat) (p : List Nat) := evY Tryz.prog C fn108 fx108.ord lf (sub fb108 p)
noncomputable def ff108 (x6 x7 : O) (h : HW) : Rs :=
 ob x6 fun a0 =>
 ob (ldN 10 a0 h) fun y1 =>
 ob x7 fun a2 =>
 some (.ret (.tup [y1, a2]), h)
noncomputable def q108_23 (C : YC) (lf : Nat) (r : K2) (x0 x1 x2 : O) (h : HW) : Rs :=
 b2 (yAl Tryz.prog 58 h) fun y3 h3 =>
 ob x0 fun a4 =>
 bc (C (.fn 103) [a4] h3) fun y5 h5 =>
 ob (unE .not y5) fun y6 =>
 yIf y6
 (ob (semBuild Tryz.prog 58 [] []) fun y7 =>
 ob (st 10 y3 y7 h5) fun h8 =>
 r (some y3) (some (.int .i64 14)) h8)
 (ob x0 fun a9 =>
 ob (semNil a9) fun y10 =>
 ob (fa 0 y10) fun y11 =>
 ob (ld1 y11 h5) fun y12 =>
 ob x0 fun a13 =>
 ob (semNil a13) fun y14 =>
 ob (fa 1 y14) fun y15 =>
 ob (ldN 5 y15 h5) fun y16 =>
 ob x1 fun a17 =>
 ob x2 fun a18 =>
 bcn (C (.fn 81) [y12, y16, a17, a18] h5) fun y19 h19 =>
 ob (ext 0 y19) fun y20 =>
 ob (ext 1 y19) fun y21 =>
 ob (st 10 y3 y20 h19) fun h22 =>
 r (some y3) (some y21) h22)
theorem q108_23_eq (C : YC) (lf : Nat) (r : K2) (KN : KF) (KE : KX) : ∀ F h, ev108 C lf [] F h KN (fun F h => r (F 6) (F 7) h) KE = q108_23 C lf r (F 0) (F 1) (F 2) h := by
  intro F h; kernel_rfl
noncomputable def fs108 (C : YC) (lf : Nat) (a0 a1 a2 : SV) (h : HW) : Rs := q108_23 C lf ff108 (some a0) (some a1) (some a2) h
theorem fs108_eq (C : YC) (lf : Nat) (a0 a1 a2 : SV) (h : HW) : yFn Tryz.prog fx108 C lf [a0, a1, a2] h = fs108 C lf a0 a1 a2 h :=
  fnOf (K := (fun F h => ff108 (F 6) (F 7) h)) (b := fb108) (N := fn108) (by kernel_rfl) (by kernel_rfl) (by kernel_rfl) (((q108_23_eq C lf ff108 (fun F h => ff108 (F 6) (F 7) h) (fun _ _ _ => none)) (frOf [a0, a1, a2]) h).trans (by kernel_rfl))
noncomputable def ft108 (C : YC) (lf : Nat) (args : List SV) (h : HW) : Rs := match args with | [a0, a1, a2] => fs108 C lf a0 a1 a2 h | _ => none
theorem ft108_eq (C : YC) (lf : Nat) (args : List SV) (h : HW) (r : Out × HW) (e : ft108 C lf args h = some r) : Nat.ble args.length fx108.fn.ntmps = true ∧ yFn Tryz.prog fx108 C lf args h = some r := by
  rcases args with _ | ⟨a0, _ | ⟨a1, _ | ⟨a2, _ | ⟨_, _⟩⟩⟩⟩ <;> first | (cases e; done) | exact ⟨by kernel_rfl, (fs108_eq ..).trans e⟩
noncomputable def fy108 : YX Tryz.prog := ⟨fx108, ft108, ft108_eq⟩

/-! FN 112 (*tinsel/desc.Proc).named -/
noncomputable def fx112 : XF Tryz.prog := { f := 112, fn := Tryz.f112, ord := fun _ => .text, isFn := Tryz.func112, isBody := by kernel_rfl, isPlain := by kernel_rfl, isSmall := by kernel_rfl, isOK := by kernel_rfl }
noncomputable def fb112 : Code := Tryz.f112.body.getD .skip
noncomputable def fn112 : Nat := Tryz.f112.ntmps
noncomputable abbrev ev112 (C : YC) (lf : Nat) (p : List Nat) := evY Tryz.prog C fn112 fx112.ord lf (sub fb112 p)
noncomputable def ff112 (x4 : O) (h : HW) : Rs :=
 ob x4 fun a0 =>
 some (.ret a0, h)
noncomputable def q112_6 (C : YC) (lf : Nat) (r : K1) (x0 x1 : O) (h : HW) : Rs :=
 ob x0 fun a1 =>
 bc (C (.fn 103) [a1] h) fun y2 h2 =>
 ob (unE .not y2) fun y3 =>
 yIf y3
 (r (some (.int .i64 14)) h2)
 (ob x1 fun a4 =>
 cv false C a4 [] h2 fun y5 h5 =>
 r (some y5) h5)
theorem q112_6_eq (C : YC) (lf : Nat) (r : K1) (KN : KF) (KE : KX) : ∀ F h, ev112 C lf [] F h KN (fun F h => r (F 4) h) KE = q112_6 C lf r (F 0) (F 1) h := by
  intro F h; kernel_rfl
noncomputable def fs112 (C : YC) (lf : Nat) (a0 a1 : SV) (h : HW) : Rs := q112_6 C lf ff112 (some a0) (some a1) h
theorem fs112_eq (C : YC) (lf : Nat) (a0 a1 : SV) (h : HW) : yFn Tryz.prog fx112 C lf [a0, a1] h = fs112 C lf a0 a1 h :=
  fnOf (K := (fun F h => ff112 (F 4) h)) (b := fb112) (N := fn112) (by kernel_rfl) (by kernel_rfl) (by kernel_rfl) (((q112_6_eq C lf ff112 (fun F h => ff112 (F 4) h) (fun _ _ _ => none)) (frOf [a0, a1]) h).trans (by kernel_rfl))
noncomputable def ft112 (C : YC) (lf : Nat) (args : List SV) (h : HW) : Rs := match args with | [a0, a1] => fs112 C lf a0 a1 h | _ => none
theorem ft112_eq (C : YC) (lf : Nat) (args : List SV) (h : HW) (r : Out × HW) (e : ft112 C lf args h = some r) : Nat.ble args.length fx112.fn.ntmps = true ∧ yFn Tryz.prog fx112 C lf args h = some r := by
  rcases args with _ | ⟨a0, _ | ⟨a1, _ | ⟨_, _⟩⟩⟩ <;> first | (cases e; done) | exact ⟨by kernel_rfl, (fs112_eq ..).trans e⟩
noncomputable def fy112 : YX Tryz.prog := ⟨fx112, ft112, ft112_eq⟩

/-! FN 115 tinsel/tinselref01.Ints -/
noncomputable def fx115 : XF Tryz.prog := { f := 115, fn := Tryz.f115, ord := fun _ => .text, isFn := Tryz.func115, isBody := by kernel_rfl, isPlain := by kernel_rfl, isSmall := by kernel_rfl, isOK := by kernel_rfl }
noncomputable def fb115 : Code := Tryz.f115.body.getD .skip
noncomputable def fn115 : Nat := Tryz.f115.ntmps
noncomputable abbrev ev115 (C : YC) (lf : Nat) (p : List Nat) := evY Tryz.prog C fn115 fx115.ord lf (sub fb115 p)
noncomputable def ff115 (x4 : O) (h : HW) : Rs :=
 ob x4 fun a0 =>
 some (.ret a0, h)
noncomputable def q115_1 (C : YC) (lf : Nat) (r : K1) (h : HW) : Rs :=
 r (some (.bool true)) h
theorem q115_1_eq (C : YC) (lf : Nat) (r : K1) (KN : KF) (KE : KX) : ∀ F h, ev115 C lf [1, 1, 1] F h KN (fun F h => r (F 4) h) KE = q115_1 C lf r h := by
  intro F h; kernel_rfl
noncomputable def q115_16 (C : YC) (lf : Nat) (n : K4) (r : K1) (e0 : K0) (x0 x1 x12 x13 : O) (h : HW) : Rs :=
 ob x13 fun a3 =>
 ob x12 fun a4 =>
 ob (bin Tryz.prog .lss 3 a3 a4) fun y5 =>
 yIf y5
 (ob x13 fun a6 =>
 ob x0 fun a7 =>
 ob (ixS 1 a7 a6) fun y8 =>
 ob (ld1 y8 h) fun y9 =>
 ob x1 fun a10 =>
 ob (ixS 1 a10 a6) fun y11 =>
 ob (ld1 y11 h) fun y12 =>
 ob (bin Tryz.prog .neq 3 y9 y12) fun y13 =>
 yIf y13
 (r (some (.bool false)) h)
 (ob x13 fun a14 =>
 ob (bin Tryz.prog .add 3 a14 (.int .i64 1)) fun y15 =>
 n x0 x1 x12 (some y15) h))
 (e0 h)
theorem q115_16_eq (C : YC) (lf : Nat) (n : K4) (r : K1) (e0 : K0) (KE : KX) : ∀ F h, ev115 C lf [1, 1, 0, 1, 0, 0] F h (fun F h => n (F 0) (F 1) (F 12) (F 13) h) (fun F h => r (F 4) h) (bk 0 (fun F h => e0 h) KE) = q115_16 C lf n r e0 (F 0) (F 1) (F 12) (F 13) h := by
  intro F h; kernel_rfl
noncomputable def l115_2 (C : YC) (lf : Nat) (r : K1) (e0 : K0) (k : O × O × O × O → HW → Rs) (s : O × O × O × O) (h : HW) : Rs :=
 q115_16 C lf (fun x0 x1 x12 x13 h => k (x0, x1, x12, x13) h) r e0 s.1 s.2.1 s.2.2.1 s.2.2.2 h
noncomputable def q115_19 (C : YC) (lf : Nat) (n : K4) (x0 x1 : O) (h : HW) : Rs :=
 ob x0 fun a17 =>
 ob (lenE Tryz.prog 44 a17) fun y18 =>
 n x0 x1 (some y18) (some (.int .i64 0)) h
theorem q115_19_eq (C : YC) (lf : Nat) (n : K4) (KR : KF) (KE : KX) : ∀ F h, ev115 C lf [1, 1, 0, 0] F h (fun F h => n (F 0) (F 1) (F 12) (F 13) h) KR KE = q115_19 C lf n (F 0) (F 1) h := by
  intro F h; kernel_rfl
noncomputable def q115_20 (C : YC) (lf : Nat) (n : K0) (r : K1) (x0 x1 : O) (h : HW) : Rs :=
 q115_19 C lf (fun x0 x1 x12 x13 h => lp (l115_2 C lf r n) lf (x0, x1, x12, x13) h) x0 x1 h
theorem q115_20_eq (C : YC) (lf : Nat) (n : K0) (r : K1) (KE : KX) : ∀ F h, ev115 C lf [1, 1, 0] F h (fun F h => n h) (fun F h => r (F 4) h) KE = q115_20 C lf n r (F 0) (F 1) h := cSeq (a := sub fb115 [1, 1, 0, 0]) (b := sub fb115 [1, 1, 0, 1]) (by kernel_rfl) (B := (fun F h => lp (l115_2 C lf r n) lf ((F 0), (F 1), (F 12), (F 13)) h)) (cBlock (a := sub fb115 [1, 1, 0, 1, 0]) (by kernel_rfl) (cLoop (g := fun F => (F 0, F 1, F 12, F 13)) (body := l115_2 C lf r n) (by kernel_rfl) (fun k => (q115_16_eq C lf (fun x0 x1 x12 x13 h => k (x0, x1, x12, x13) h) r n KE)))) (q115_19_eq C lf (fun x0 x1 x12 x13 h => lp (l115_2 C lf r n) lf (x0, x1, x12, x13) h) (fun F h => r (F 4) h) KE)
noncomputable def q115_21 (C : YC) (lf : Nat) (r : K1) (x0 x1 : O) (h : HW) : Rs :=
 q115_20 C lf (fun h => q115_1 C lf r h) r x0 x1 h
theorem q115_21_eq (C : YC) (lf : Nat) (r : K1) (KN : KF) (KE : KX) : ∀ F h, ev115 C lf [1, 1] F h KN (fun F h => r (F 4) h) KE = q115_21 C lf r (F 0) (F 1) h := cSeq (a := sub fb115 [1, 1, 0]) (b := sub fb115 [1, 1, 1]) (by kernel_rfl) (B := (fun F h => q115_1 C lf r h)) (q115_1_eq C lf r KN KE) (q115_20_eq C lf (fun h => q115_1 C lf r h) r KE)
noncomputable def q115_27 (C : YC) (lf : Nat) (n : K2) (r : K1) (x0 x1 : O) (h : HW) : Rs :=
 ob x0 fun a22 =>
 ob (lenE Tryz.prog 44 a22) fun y23 =>
 ob x1 fun a24 =>
 ob (lenE Tryz.prog 44 a24) fun y25 =>
 ob (bin Tryz.prog .neq 3 y23 y25) fun y26 =>
 yIf y26
 (r (some (.bool false)) h)
 (n x0 x1 h)
theorem q115_27_eq (C : YC) (lf : Nat) (n : K2) (r : K1) (KE : KX) : ∀ F h, ev115 C lf [1, 0] F h (fun F h => n (F 0) (F 1) h) (fun F h => r (F 4) h) KE = q115_27 C lf n r (F 0) (F 1) h := by
  intro F h; kernel_rfl
noncomputable def q115_28 (C : YC) (lf : Nat) (r : K1) (x0 x1 : O) (h : HW) : Rs :=
 q115_27 C lf (fun x0 x1 h => q115_21 C lf r x0 x1 h) r x0 x1 h
theorem q115_28_eq (C : YC) (lf : Nat) (r : K1) (KN : KF) (KE : KX) : ∀ F h, ev115 C lf [1] F h KN (fun F h => r (F 4) h) KE = q115_28 C lf r (F 0) (F 1) h := cSeq (a := sub fb115 [1, 0]) (b := sub fb115 [1, 1]) (by kernel_rfl) (B := (fun F h => q115_21 C lf r (F 0) (F 1) h)) (q115_21_eq C lf r KN KE) (q115_27_eq C lf (fun x0 x1 h => q115_21 C lf r x0 x1 h) r KE)
noncomputable def q115_29 (C : YC) (lf : Nat) (n : K2) (x0 x1 : O) (h : HW) : Rs :=
 n x0 x1 h
theorem q115_29_eq (C : YC) (lf : Nat) (n : K2) (KR : KF) (KE : KX) : ∀ F h, ev115 C lf [0] F h (fun F h => n (F 0) (F 1) h) KR KE = q115_29 C lf n (F 0) (F 1) h := by
  intro F h; kernel_rfl
noncomputable def q115_30 (C : YC) (lf : Nat) (r : K1) (x0 x1 : O) (h : HW) : Rs :=
 q115_29 C lf (fun x0 x1 h => q115_28 C lf r x0 x1 h) x0 x1 h
theorem q115_30_eq (C : YC) (lf : Nat) (r : K1) (KN : KF) (KE : KX) : ∀ F h, ev115 C lf [] F h KN (fun F h => r (F 4) h) KE = q115_30 C lf r (F 0) (F 1) h := cSeq (a := sub fb115 [0]) (b := sub fb115 [1]) (by kernel_rfl) (B := (fun F h => q115_28 C lf r (F 0) (F 1) h)) (q115_28_eq C lf r KN KE) (q115_29_eq C lf (fun x0 x1 h => q115_28 C lf r x0 x1 h) (fun F h => r (F 4) h) KE)
noncomputable def fs115 (C : YC) (lf : Nat) (a0 a1 : SV) (h : HW) : Rs := q115_30 C lf ff115 (some a0) (some a1) h
theorem fs115_eq (C : YC) (lf : Nat) (a0 a1 : SV) (h : HW) : yFn Tryz.prog fx115 C lf [a0, a1] h = fs115 C lf a0 a1 h :=
  fnOf (K := (fun F h => ff115 (F 4) h)) (b := fb115) (N := fn115) (by kernel_rfl) (by kernel_rfl) (by kernel_rfl) (((q115_30_eq C lf ff115 (fun F h => ff115 (F 4) h) (fun _ _ _ => none)) (frOf [a0, a1]) h).trans (by kernel_rfl))
noncomputable def ft115 (C : YC) (lf : Nat) (args : List SV) (h : HW) : Rs := match args with | [a0, a1] => fs115 C lf a0 a1 h | _ => none
theorem ft115_eq (C : YC) (lf : Nat) (args : List SV) (h : HW) (r : Out × HW) (e : ft115 C lf args h = some r) : Nat.ble args.length fx115.fn.ntmps = true ∧ yFn Tryz.prog fx115 C lf args h = some r := by
  rcases args with _ | ⟨a0, _ | ⟨a1, _ | ⟨_, _⟩⟩⟩ <;> first | (cases e; done) | exact ⟨by kernel_rfl, (fs115_eq ..).trans e⟩
noncomputable def fy115 : YX Tryz.prog := ⟨fx115, ft115, ft115_eq⟩

/-! FN 116 tinsel/desc.own -/
noncomputable def fx116 : XF Tryz.prog := { f := 116, fn := Tryz.f116, ord := fun _ => .text, isFn := Tryz.func116, isBody := by kernel_rfl, isPlain := by kernel_rfl, isSmall := by kernel_rfl, isOK := by kernel_rfl }
noncomputable def fb116 : Code := Tryz.f116.body.getD .skip
noncomputable def fn116 : Nat := Tryz.f116.ntmps
noncomputable abbrev ev116 (C : YC) (lf : Nat) (p : List Nat) := evY Tryz.prog C fn116 fx116.ord lf (sub fb116 p)
noncomputable def ff116 (x2 : O) (h : HW) : Rs :=
 ob x2 fun a0 =>
 ob (ldN 5 a0 h) fun y1 =>
 some (.ret y1, h)
noncomputable def q116_12 (C : YC) (lf : Nat) (r : K1) (x0 : O) (h : HW) : Rs :=
 ob x0 fun a2 =>
 b2 (ybx 46 a2 h) fun y3 h3 =>
 b2 (yAl Tryz.prog 46 h3) fun y4 h4 =>
 ob (fa 2 y3) fun y5 =>
 ob (ld1 y5 h4) fun y6 =>
 b2 (ybl Tryz.prog .append #[44, 44] [(.val (.slice none 0 0)), y6] h4) fun y7 h7 =>
 ob (fa 2 y3) fun y8 =>
 ob (st 1 y8 y7 h7) fun h9 =>
 ob (ldN 5 y3 h9) fun y10 =>
 ob (st 5 y4 y10 h9) fun h11 =>
 r (some y4) h11
theorem q116_12_eq (C : YC) (lf : Nat) (r : K1) (KN : KF) (KE : KX) : ∀ F h, ev116 C lf [] F h KN (fun F h => r (F 2) h) KE = q116_12 C lf r (F 0) h := by
  intro F h; kernel_rfl
noncomputable def fs116 (C : YC) (lf : Nat) (a0 : SV) (h : HW) : Rs := q116_12 C lf ff116 (some a0) h
theorem fs116_eq (C : YC) (lf : Nat) (a0 : SV) (h : HW) : yFn Tryz.prog fx116 C lf [a0] h = fs116 C lf a0 h :=
  fnOf (K := (fun F h => ff116 (F 2) h)) (b := fb116) (N := fn116) (by kernel_rfl) (by kernel_rfl) (by kernel_rfl) (((q116_12_eq C lf ff116 (fun F h => ff116 (F 2) h) (fun _ _ _ => none)) (frOf [a0]) h).trans (by kernel_rfl))
noncomputable def ft116 (C : YC) (lf : Nat) (args : List SV) (h : HW) : Rs := match args with | [a0] => fs116 C lf a0 h | _ => none
theorem ft116_eq (C : YC) (lf : Nat) (args : List SV) (h : HW) (r : Out × HW) (e : ft116 C lf args h = some r) : Nat.ble args.length fx116.fn.ntmps = true ∧ yFn Tryz.prog fx116 C lf args h = some r := by
  rcases args with _ | ⟨a0, _ | ⟨_, _⟩⟩ <;> first | (cases e; done) | exact ⟨by kernel_rfl, (fs116_eq ..).trans e⟩
noncomputable def fy116 : YX Tryz.prog := ⟨fx116, ft116, ft116_eq⟩

/-! FN 117 (*tinsel/tree.FS).Inodes -/
noncomputable def fx117 : XF Tryz.prog := { f := 117, fn := Tryz.f117, ord := fun _ => .text, isFn := Tryz.func117, isBody := by kernel_rfl, isPlain := by kernel_rfl, isSmall := by kernel_rfl, isOK := by kernel_rfl }
noncomputable def fb117 : Code := Tryz.f117.body.getD .skip
noncomputable def fn117 : Nat := Tryz.f117.ntmps
noncomputable abbrev ev117 (C : YC) (lf : Nat) (p : List Nat) := evY Tryz.prog C fn117 fx117.ord lf (sub fb117 p)
noncomputable def ff117 (x2 : O) (h : HW) : Rs :=
 ob x2 fun a0 =>
 some (.ret a0, h)
noncomputable def q117_9 (C : YC) (lf : Nat) (r : K1) (x0 : O) (h : HW) : Rs :=
 ob x0 fun a1 =>
 bc (C (.fn 181) [a1] h) fun y2 h2 =>
 ob (unE .not y2) fun y3 =>
 yIf y3
 (r (some (.val (.slice none 0 0))) h2)
 (ob x0 fun a4 =>
 ob (semNil a4) fun y5 =>
 ob (fa 0 y5) fun y6 =>
 ob (ld1 y6 h2) fun y7 =>
 bc (C (.fn 183) [y7] h2) fun y8 h8 =>
 r (some y8) h8)
theorem q117_9_eq (C : YC) (lf : Nat) (r : K1) (KN : KF) (KE : KX) : ∀ F h, ev117 C lf [] F h KN (fun F h => r (F 2) h) KE = q117_9 C lf r (F 0) h := by
  intro F h; kernel_rfl
noncomputable def fs117 (C : YC) (lf : Nat) (a0 : SV) (h : HW) : Rs := q117_9 C lf ff117 (some a0) h
theorem fs117_eq (C : YC) (lf : Nat) (a0 : SV) (h : HW) : yFn Tryz.prog fx117 C lf [a0] h = fs117 C lf a0 h :=
  fnOf (K := (fun F h => ff117 (F 2) h)) (b := fb117) (N := fn117) (by kernel_rfl) (by kernel_rfl) (by kernel_rfl) (((q117_9_eq C lf ff117 (fun F h => ff117 (F 2) h) (fun _ _ _ => none)) (frOf [a0]) h).trans (by kernel_rfl))
noncomputable def ft117 (C : YC) (lf : Nat) (args : List SV) (h : HW) : Rs := match args with | [a0] => fs117 C lf a0 h | _ => none
theorem ft117_eq (C : YC) (lf : Nat) (args : List SV) (h : HW) (r : Out × HW) (e : ft117 C lf args h = some r) : Nat.ble args.length fx117.fn.ntmps = true ∧ yFn Tryz.prog fx117 C lf args h = some r := by
  rcases args with _ | ⟨a0, _ | ⟨_, _⟩⟩ <;> first | (cases e; done) | exact ⟨by kernel_rfl, (fs117_eq ..).trans e⟩
noncomputable def fy117 : YX Tryz.prog := ⟨fx117, ft117, ft117_eq⟩

/-! FN 118 (*tinsel/tree.FS).Info -/
noncomputable def fx118 : XF Tryz.prog := { f := 118, fn := Tryz.f118, ord := fun _ => .text, isFn := Tryz.func118, isBody := by kernel_rfl, isPlain := by kernel_rfl, isSmall := by kernel_rfl, isOK := by kernel_rfl }
noncomputable def fb118 : Code := Tryz.f118.body.getD .skip
noncomputable def fn118 : Nat := Tryz.f118.ntmps
noncomputable abbrev ev118 (C : YC) (lf : Nat) (p : List Nat) := evY Tryz.prog C fn118 fx118.ord lf (sub fb118 p)
noncomputable def ff118 (x4 x5 : O) (h : HW) : Rs :=
 ob x4 fun a0 =>
 ob (ldN 10 a0 h) fun y1 =>
 ob x5 fun a2 =>
 some (.ret (.tup [y1, a2]), h)
noncomputable def q118_18 (C : YC) (lf : Nat) (r : K2) (x0 x1 : O) (h : HW) : Rs :=
 b2 (yAl Tryz.prog 58 h) fun y3 h3 =>
 ob x0 fun a4 =>
 bc (C (.fn 181) [a4] h3) fun y5 h5 =>
 ob (unE .not y5) fun y6 =>
 yIf y6
 (ob (semBuild Tryz.prog 58 [] []) fun y7 =>
 ob (st 10 y3 y7 h5) fun h8 =>
 r (some y3) (some (.int .i64 14)) h8)
 (ob x0 fun a9 =>
 ob (semNil a9) fun y10 =>
 ob (fa 0 y10) fun y11 =>
 ob (ld1 y11 h5) fun y12 =>
 ob x1 fun a13 =>
 bc (C (.fn 184) [y12, a13] h5) fun y14 h14 =>
 ob (ext 0 y14) fun y15 =>
 ob (ext 1 y14) fun y16 =>
 ob (st 10 y3 y15 h14) fun h17 =>
 r (some y3) (some y16) h17)
theorem q118_18_eq (C : YC) (lf : Nat) (r : K2) (KN : KF) (KE : KX) : ∀ F h, ev118 C lf [] F h KN (fun F h => r (F 4) (F 5) h) KE = q118_18 C lf r (F 0) (F 1) h := by
  intro F h; kernel_rfl
noncomputable def fs118 (C : YC) (lf : Nat) (a0 a1 : SV) (h : HW) : Rs := q118_18 C lf ff118 (some a0) (some a1) h
theorem fs118_eq (C : YC) (lf : Nat) (a0 a1 : SV) (h : HW) : yFn Tryz.prog fx118 C lf [a0, a1] h = fs118 C lf a0 a1 h :=
  fnOf (K := (fun F h => ff118 (F 4) (F 5) h)) (b := fb118) (N := fn118) (by kernel_rfl) (by kernel_rfl) (by kernel_rfl) (((q118_18_eq C lf ff118 (fun F h => ff118 (F 4) (F 5) h) (fun _ _ _ => none)) (frOf [a0, a1]) h).trans (by kernel_rfl))
noncomputable def ft118 (C : YC) (lf : Nat) (args : List SV) (h : HW) : Rs := match args with | [a0, a1] => fs118 C lf a0 a1 h | _ => none
theorem ft118_eq (C : YC) (lf : Nat) (args : List SV) (h : HW) (r : Out × HW) (e : ft118 C lf args h = some r) : Nat.ble args.length fx118.fn.ntmps = true ∧ yFn Tryz.prog fx118 C lf args h = some r := by
  rcases args with _ | ⟨a0, _ | ⟨a1, _ | ⟨_, _⟩⟩⟩ <;> first | (cases e; done) | exact ⟨by kernel_rfl, (fs118_eq ..).trans e⟩
noncomputable def fy118 : YX Tryz.prog := ⟨fx118, ft118, ft118_eq⟩

/-! FN 119 (*tinsel/tree.FS).Hold -/
noncomputable def fx119 : XF Tryz.prog := { f := 119, fn := Tryz.f119, ord := fun _ => .text, isFn := Tryz.func119, isBody := by kernel_rfl, isPlain := by kernel_rfl, isSmall := by kernel_rfl, isOK := by kernel_rfl }
noncomputable def fb119 : Code := Tryz.f119.body.getD .skip
noncomputable def fn119 : Nat := Tryz.f119.ntmps
noncomputable abbrev ev119 (C : YC) (lf : Nat) (p : List Nat) := evY Tryz.prog C fn119 fx119.ord lf (sub fb119 p)
noncomputable def ff119 (x4 : O) (h : HW) : Rs :=
 ob x4 fun a0 =>
 some (.ret a0, h)
noncomputable def q119_10 (C : YC) (lf : Nat) (r : K1) (x0 x1 : O) (h : HW) : Rs :=
 ob x0 fun a1 =>
 bc (C (.fn 181) [a1] h) fun y2 h2 =>
 ob (unE .not y2) fun y3 =>
 yIf y3
 (r (some (.int .i64 14)) h2)
 (ob x0 fun a4 =>
 ob (semNil a4) fun y5 =>
 ob (fa 0 y5) fun y6 =>
 ob (ld1 y6 h2) fun y7 =>
 ob x1 fun a8 =>
 bc (C (.fn 176) [y7, a8] h2) fun y9 h9 =>
 r (some y9) h9)
theorem q119_10_eq (C : YC) (lf : Nat) (r : K1) (KN : KF) (KE : KX) : ∀ F h, ev119 C lf [] F h KN (fun F h => r (F 4) h) KE = q119_10 C lf r (F 0) (F 1) h := by
  intro F h; kernel_rfl
noncomputable def fs119 (C : YC) (lf : Nat) (a0 a1 : SV) (h : HW) : Rs := q119_10 C lf ff119 (some a0) (some a1) h
theorem fs119_eq (C : YC) (lf : Nat) (a0 a1 : SV) (h : HW) : yFn Tryz.prog fx119 C lf [a0, a1] h = fs119 C lf a0 a1 h :=
  fnOf (K := (fun F h => ff119 (F 4) h)) (b := fb119) (N := fn119) (by kernel_rfl) (by kernel_rfl) (by kernel_rfl) (((q119_10_eq C lf ff119 (fun F h => ff119 (F 4) h) (fun _ _ _ => none)) (frOf [a0, a1]) h).trans (by kernel_rfl))
noncomputable def ft119 (C : YC) (lf : Nat) (args : List SV) (h : HW) : Rs := match args with | [a0, a1] => fs119 C lf a0 a1 h | _ => none
theorem ft119_eq (C : YC) (lf : Nat) (args : List SV) (h : HW) (r : Out × HW) (e : ft119 C lf args h = some r) : Nat.ble args.length fx119.fn.ntmps = true ∧ yFn Tryz.prog fx119 C lf args h = some r := by
  rcases args with _ | ⟨a0, _ | ⟨a1, _ | ⟨_, _⟩⟩⟩ <;> first | (cases e; done) | exact ⟨by kernel_rfl, (fs119_eq ..).trans e⟩
noncomputable def fy119 : YX Tryz.prog := ⟨fx119, ft119, ft119_eq⟩

/-! FN 120 (*tinsel/desc.Proc).Seek -/
noncomputable def fx120 : XF Tryz.prog := { f := 120, fn := Tryz.f120, ord := fun r => bif Nat.beq r 14 then .news [0, 1, 2, 4, 5, 6, 3, 7, 8, 9, 10, 11, 12, 13, 14] [12] [] else .text, isFn := Tryz.func120, isBody := by kernel_rfl, isPlain := by kernel_rfl, isSmall := by kernel_rfl, isOK := by kernel_rfl }
noncomputable def fb120 : Code := Tryz.f120.body.getD .skip
noncomputable def fn120 : Nat := Tryz.f120.ntmps
noncomputable abbrev ev120 (C : YC) (lf : Nat) (p : List Nat) := evY Tryz.prog C fn120 fx120.ord lf (sub fb120 p)
noncomputable def ff120 (x8 x9 : O) (h : HW) : Rs :=
 ob x8 fun a0 =>
 ob x9 fun a1 =>
 some (.ret (.tup [a0, a1]), h)
noncomputable def q120_34 (C : YC) (lf : Nat) (r : K2) (x2 x12 x14 : O) (h : HW) : Rs :=
 ob x2 fun a2 =>
 ob x14 fun a3 =>
 ob (bin Tryz.prog .sub 3 (.int .i64 4611686018427387904) a3) fun y4 =>
 ob (bin Tryz.prog .gtr 3 a2 y4) fun y5 =>
 bc (gd false (some y5) (ob x2 fun a6 =>
 some (.ret a6, h)) h) fun y7 h7 =>
 bc (gd false (some y5) (ob x14 fun a8 =>
 some (.ret a8, h7)) h7) fun y9 h9 =>
 bc (gd false (some y5) (ob (unE .neg y9) fun y10 =>
 some (.ret y10, h9)) h9) fun y11 h11 =>
 bc (gd false (some y5) (ob (bin Tryz.prog .lss 3 y7 y11) fun y12 =>
 some (.ret y12, h11)) h11) fun y13 h13 =>
 ob (ypk y5 (.bool true) y13) fun y14 =>
 yIf y14
 (r (some (.int .i64 0)) (some (.int .i64 22)) h13)
 (ob x12 fun a15 =>
 ob x14 fun a16 =>
 ob x2 fun a17 =>
 ob (bin Tryz.prog .add 3 a16 a17) fun y18 =>
 ob (semNil a15) fun y19 =>
 ob (fa 2 y19) fun y20 =>
 ob (st 1 y20 y18 h13) fun h21 =>
 ob x12 fun a22 =>
 ob x12 fun a23 =>
 ob (semNil a22) fun y24 =>
 ob (fa 4 y24) fun y25 =>
 ob (st 1 y25 (.val (.slice none 0 0)) h21) fun h26 =>
 ob (semNil a23) fun y27 =>
 ob (fa 5 y27) fun y28 =>
 ob (st 1 y28 (.bool false) h26) fun h29 =>
 ob x12 fun a30 =>
 ob (semNil a30) fun y31 =>
 ob (fa 2 y31) fun y32 =>
 ob (ld1 y32 h29) fun y33 =>
 r (some y33) (some (.int .i64 0)) h29)
theorem q120_34_eq (C : YC) (lf : Nat) (r : K2) (KN : KF) (KE : KX) : ∀ F h, ev120 C lf [1, 1, 1, 1, 1, 1, 1] F h KN (fun F h => r (F 8) (F 9) h) KE = q120_34 C lf r (F 2) (F 12) (F 14) h := by
  intro F h; kernel_rfl
noncomputable def q120_60 (C : YC) (lf : Nat) (n : K3) (r : K2) (x0 x2 x3 x12 x14 : O) (h : HW) : Rs :=
 ob x3 fun a35 =>
 ob (bin Tryz.prog .eql 3 a35 (.int .i64 0)) fun y36 =>
 yIf y36
 (n x2 x12 x14 h)
 (ob (bin Tryz.prog .eql 3 a35 (.int .i64 1)) fun y37 =>
 yIf y37
 (ob x12 fun a38 =>
 ob (semNil a38) fun y39 =>
 ob (fa 2 y39) fun y40 =>
 ob (ld1 y40 h) fun y41 =>
 n x2 x12 (some y41) h)
 (ob (bin Tryz.prog .eql 3 a35 (.int .i64 2)) fun y42 =>
 yIf y42
 (nwB [12] 15 h fun b43 h43 =>
 ob x0 fun a44 =>
 ob (semNil a44) fun y45 =>
 ob (fa 0 y45) fun y46 =>
 ob x12 fun a47 =>
 ob (semNil a47) fun y48 =>
 ob (fa 1 y48) fun y49 =>
 ck (lowA b43 (adrO (some y46))) <|
 ob (ld1 y46 h43) fun y50 =>
 ck (lowA b43 (adrO (some y49))) <|
 ob (ld1 y49 h43) fun y51 =>
 bcn (C (.fn 118) [y50, y51] h43) fun y52 h52 =>
 ob (ext 0 y52) fun y53 =>
 ob (ext 1 y52) fun y54 =>
 b2 (ynf (yAl Tryz.prog 58) b43 12 h52) fun y55 h55 =>
 ob (st 10 y55 y53 h55) fun h56 =>
 ob (bin Tryz.prog .neq 23 y54 (.int .i64 0)) fun y57 =>
 yIf y57
 (r (some (.int .i64 0)) (some y54) h56)
 (ob (fa 4 y55) fun y58 =>
 ob (ld1 y58 h56) fun y59 =>
 n x2 x12 (some y59) h56))
 (r (some (.int .i64 0)) (some (.int .i64 22)) h)))
theorem q120_60_eq (C : YC) (lf : Nat) (n : K3) (r : K2) (KE : KX) : ∀ F h, ev120 C lf [1, 1, 1, 1, 1, 1, 0] F h (fun F h => n (F 2) (F 12) (F 14) h) (fun F h => r (F 8) (F 9) h) KE = q120_60 C lf n r (F 0) (F 2) (F 3) (F 12) (F 14) h := by
  intro F h; kernel_rfl
noncomputable def q120_61 (C : YC) (lf : Nat) (r : K2) (x0 x2 x3 x12 x14 : O) (h : HW) : Rs :=
 q120_60 C lf (fun x2 x12 x14 h => q120_34 C lf r x2 x12 x14 h) r x0 x2 x3 x12 x14 h
theorem q120_61_eq (C : YC) (lf : Nat) (r : K2) (KN : KF) (KE : KX) : ∀ F h, ev120 C lf [1, 1, 1, 1, 1, 1] F h KN (fun F h => r (F 8) (F 9) h) KE = q120_61 C lf r (F 0) (F 2) (F 3) (F 12) (F 14) h := cSeq (a := sub fb120 [1, 1, 1, 1, 1, 1, 0]) (b := sub fb120 [1, 1, 1, 1, 1, 1, 1]) (by kernel_rfl) (B := (fun F h => q120_34 C lf r (F 2) (F 12) (F 14) h)) (q120_34_eq C lf r KN KE) (q120_60_eq C lf (fun x2 x12 x14 h => q120_34 C lf r x2 x12 x14 h) r KE)
noncomputable def q120_62 (C : YC) (lf : Nat) (n : K5) (x0 x2 x3 x12 : O) (h : HW) : Rs :=
 n x0 x2 x3 x12 (some (.int .i64 0)) h
theorem q120_62_eq (C : YC) (lf : Nat) (n : K5) (KR : KF) (KE : KX) : ∀ F h, ev120 C lf [1, 1, 1, 1, 1, 0] F h (fun F h => n (F 0) (F 2) (F 3) (F 12) (F 14) h) KR KE = q120_62 C lf n (F 0) (F 2) (F 3) (F 12) h := by
  intro F h; kernel_rfl
noncomputable def q120_63 (C : YC) (lf : Nat) (r : K2) (x0 x2 x3 x12 : O) (h : HW) : Rs :=
 q120_62 C lf (fun x0 x2 x3 x12 x14 h => q120_61 C lf r x0 x2 x3 x12 x14 h) x0 x2 x3 x12 h
theorem q120_63_eq (C : YC) (lf : Nat) (r : K2) (KN : KF) (KE : KX) : ∀ F h, ev120 C lf [1, 1, 1, 1, 1] F h KN (fun F h => r (F 8) (F 9) h) KE = q120_63 C lf r (F 0) (F 2) (F 3) (F 12) h := cSeq (a := sub fb120 [1, 1, 1, 1, 1, 0]) (b := sub fb120 [1, 1, 1, 1, 1, 1]) (by kernel_rfl) (B := (fun F h => q120_61 C lf r (F 0) (F 2) (F 3) (F 12) (F 14) h)) (q120_61_eq C lf r KN KE) (q120_62_eq C lf (fun x0 x2 x3 x12 x14 h => q120_61 C lf r x0 x2 x3 x12 x14 h) (fun F h => r (F 8) (F 9) h) KE)
noncomputable def q120_66 (C : YC) (lf : Nat) (n : K4) (r : K2) (x0 x2 x3 x12 x13 : O) (h : HW) : Rs :=
 ob x13 fun a64 =>
 ob (unE .not a64) fun y65 =>
 yIf y65
 (r (some (.int .i64 0)) (some (.int .i64 29)) h)
 (n x0 x2 x3 x12 h)
theorem q120_66_eq (C : YC) (lf : Nat) (n : K4) (r : K2) (KE : KX) : ∀ F h, ev120 C lf [1, 1, 1, 1, 0] F h (fun F h => n (F 0) (F 2) (F 3) (F 12) h) (fun F h => r (F 8) (F 9) h) KE = q120_66 C lf n r (F 0) (F 2) (F 3) (F 12) (F 13) h := by
  intro F h; kernel_rfl
noncomputable def q120_67 (C : YC) (lf : Nat) (r : K2) (x0 x2 x3 x12 x13 : O) (h : HW) : Rs :=
 q120_66 C lf (fun x0 x2 x3 x12 h => q120_63 C lf r x0 x2 x3 x12 h) r x0 x2 x3 x12 x13 h
theorem q120_67_eq (C : YC) (lf : Nat) (r : K2) (KN : KF) (KE : KX) : ∀ F h, ev120 C lf [1, 1, 1, 1] F h KN (fun F h => r (F 8) (F 9) h) KE = q120_67 C lf r (F 0) (F 2) (F 3) (F 12) (F 13) h := cSeq (a := sub fb120 [1, 1, 1, 1, 0]) (b := sub fb120 [1, 1, 1, 1, 1]) (by kernel_rfl) (B := (fun F h => q120_63 C lf r (F 0) (F 2) (F 3) (F 12) h)) (q120_63_eq C lf r KN KE) (q120_66_eq C lf (fun x0 x2 x3 x12 h => q120_63 C lf r x0 x2 x3 x12 h) r KE)
noncomputable def q120_75 (C : YC) (lf : Nat) (n : K5) (x0 x2 x3 x10 : O) (h : HW) : Rs :=
 ob x10 fun a68 =>
 ob (semNil a68) fun y69 =>
 ob (fa 0 y69) fun y70 =>
 ob (ld1 y70 h) fun y71 =>
 ob (semAssert Tryz.prog y71 155 true) fun y72 =>
 ob (ext 0 y72) fun y73 =>
 ob (ext 1 y72) fun y74 =>
 n x0 x2 x3 (some y73) (some y74) h
theorem q120_75_eq (C : YC) (lf : Nat) (n : K5) (KR : KF) (KE : KX) : ∀ F h, ev120 C lf [1, 1, 1, 0] F h (fun F h => n (F 0) (F 2) (F 3) (F 12) (F 13) h) KR KE = q120_75 C lf n (F 0) (F 2) (F 3) (F 10) h := by
  intro F h; kernel_rfl
noncomputable def q120_76 (C : YC) (lf : Nat) (r : K2) (x0 x2 x3 x10 : O) (h : HW) : Rs :=
 q120_75 C lf (fun x0 x2 x3 x12 x13 h => q120_67 C lf r x0 x2 x3 x12 x13 h) x0 x2 x3 x10 h
theorem q120_76_eq (C : YC) (lf : Nat) (r : K2) (KN : KF) (KE : KX) : ∀ F h, ev120 C lf [1, 1, 1] F h KN (fun F h => r (F 8) (F 9) h) KE = q120_76 C lf r (F 0) (F 2) (F 3) (F 10) h := cSeq (a := sub fb120 [1, 1, 1, 0]) (b := sub fb120 [1, 1, 1, 1]) (by kernel_rfl) (B := (fun F h => q120_67 C lf r (F 0) (F 2) (F 3) (F 12) (F 13) h)) (q120_67_eq C lf r KN KE) (q120_75_eq C lf (fun x0 x2 x3 x12 x13 h => q120_67 C lf r x0 x2 x3 x12 x13 h) (fun F h => r (F 8) (F 9) h) KE)
noncomputable def q120_80 (C : YC) (lf : Nat) (n : K4) (r : K2) (x0 x2 x3 x10 x11 : O) (h : HW) : Rs :=
 ob x11 fun a77 =>
 ob (bin Tryz.prog .neq 23 a77 (.int .i64 0)) fun y78 =>
 yIf y78
 (ob x11 fun a79 =>
 r (some (.int .i64 0)) (some a79) h)
 (n x0 x2 x3 x10 h)
theorem q120_80_eq (C : YC) (lf : Nat) (n : K4) (r : K2) (KE : KX) : ∀ F h, ev120 C lf [1, 1, 0] F h (fun F h => n (F 0) (F 2) (F 3) (F 10) h) (fun F h => r (F 8) (F 9) h) KE = q120_80 C lf n r (F 0) (F 2) (F 3) (F 10) (F 11) h := by
  intro F h; kernel_rfl
noncomputable def q120_81 (C : YC) (lf : Nat) (r : K2) (x0 x2 x3 x10 x11 : O) (h : HW) : Rs :=
 q120_80 C lf (fun x0 x2 x3 x10 h => q120_76 C lf r x0 x2 x3 x10 h) r x0 x2 x3 x10 x11 h
theorem q120_81_eq (C : YC) (lf : Nat) (r : K2) (KN : KF) (KE : KX) : ∀ F h, ev120 C lf [1, 1] F h KN (fun F h => r (F 8) (F 9) h) KE = q120_81 C lf r (F 0) (F 2) (F 3) (F 10) (F 11) h := cSeq (a := sub fb120 [1, 1, 0]) (b := sub fb120 [1, 1, 1]) (by kernel_rfl) (B := (fun F h => q120_76 C lf r (F 0) (F 2) (F 3) (F 10) h)) (q120_76_eq C lf r KN KE) (q120_80_eq C lf (fun x0 x2 x3 x10 h => q120_76 C lf r x0 x2 x3 x10 h) r KE)
noncomputable def q120_87 (C : YC) (lf : Nat) (n : K5) (x0 x1 x2 x3 : O) (h : HW) : Rs :=
 ob x0 fun a82 =>
 ob x1 fun a83 =>
 bc (C (.fn 107) [a82, a83] h) fun y84 h84 =>
 ob (ext 0 y84) fun y85 =>
 ob (ext 1 y84) fun y86 =>
 n x0 x2 x3 (some y85) (some y86) h84
theorem q120_87_eq (C : YC) (lf : Nat) (n : K5) (KR : KF) (KE : KX) : ∀ F h, ev120 C lf [1, 0] F h (fun F h => n (F 0) (F 2) (F 3) (F 10) (F 11) h) KR KE = q120_87 C lf n (F 0) (F 1) (F 2) (F 3) h := by
  intro F h; kernel_rfl
noncomputable def q120_88 (C : YC) (lf : Nat) (r : K2) (x0 x1 x2 x3 : O) (h : HW) : Rs :=
 q120_87 C lf (fun x0 x2 x3 x10 x11 h => q120_81 C lf r x0 x2 x3 x10 x11 h) x0 x1 x2 x3 h
theorem q120_88_eq (C : YC) (lf : Nat) (r : K2) (KN : KF) (KE : KX) : ∀ F h, ev120 C lf [1] F h KN (fun F h => r (F 8) (F 9) h) KE = q120_88 C lf r (F 0) (F 1) (F 2) (F 3) h := cSeq (a := sub fb120 [1, 0]) (b := sub fb120 [1, 1]) (by kernel_rfl) (B := (fun F h => q120_81 C lf r (F 0) (F 2) (F 3) (F 10) (F 11) h)) (q120_81_eq C lf r KN KE) (q120_87_eq C lf (fun x0 x2 x3 x10 x11 h => q120_81 C lf r x0 x2 x3 x10 x11 h) (fun F h => r (F 8) (F 9) h) KE)
noncomputable def q120_89 (C : YC) (lf : Nat) (n : K4) (x0 x1 x2 x3 : O) (h : HW) : Rs :=
 n x0 x1 x2 x3 h
theorem q120_89_eq (C : YC) (lf : Nat) (n : K4) (KR : KF) (KE : KX) : ∀ F h, ev120 C lf [0] F h (fun F h => n (F 0) (F 1) (F 2) (F 3) h) KR KE = q120_89 C lf n (F 0) (F 1) (F 2) (F 3) h := by
  intro F h; kernel_rfl
noncomputable def q120_90 (C : YC) (lf : Nat) (r : K2) (x0 x1 x2 x3 : O) (h : HW) : Rs :=
 q120_89 C lf (fun x0 x1 x2 x3 h => q120_88 C lf r x0 x1 x2 x3 h) x0 x1 x2 x3 h
theorem q120_90_eq (C : YC) (lf : Nat) (r : K2) (KN : KF) (KE : KX) : ∀ F h, ev120 C lf [] F h KN (fun F h => r (F 8) (F 9) h) KE = q120_90 C lf r (F 0) (F 1) (F 2) (F 3) h := cSeq (a := sub fb120 [0]) (b := sub fb120 [1]) (by kernel_rfl) (B := (fun F h => q120_88 C lf r (F 0) (F 1) (F 2) (F 3) h)) (q120_88_eq C lf r KN KE) (q120_89_eq C lf (fun x0 x1 x2 x3 h => q120_88 C lf r x0 x1 x2 x3 h) (fun F h => r (F 8) (F 9) h) KE)
noncomputable def fs120 (C : YC) (lf : Nat) (a0 a1 a2 a3 : SV) (h : HW) : Rs := q120_90 C lf ff120 (some a0) (some a1) (some a2) (some a3) h
theorem fs120_eq (C : YC) (lf : Nat) (a0 a1 a2 a3 : SV) (h : HW) : yFn Tryz.prog fx120 C lf [a0, a1, a2, a3] h = fs120 C lf a0 a1 a2 a3 h :=
  fnOf (K := (fun F h => ff120 (F 8) (F 9) h)) (b := fb120) (N := fn120) (by kernel_rfl) (by kernel_rfl) (by kernel_rfl) (((q120_90_eq C lf ff120 (fun F h => ff120 (F 8) (F 9) h) (fun _ _ _ => none)) (frOf [a0, a1, a2, a3]) h).trans (by kernel_rfl))
noncomputable def ft120 (C : YC) (lf : Nat) (args : List SV) (h : HW) : Rs := match args with | [a0, a1, a2, a3] => fs120 C lf a0 a1 a2 a3 h | _ => none
theorem ft120_eq (C : YC) (lf : Nat) (args : List SV) (h : HW) (r : Out × HW) (e : ft120 C lf args h = some r) : Nat.ble args.length fx120.fn.ntmps = true ∧ yFn Tryz.prog fx120 C lf args h = some r := by
  rcases args with _ | ⟨a0, _ | ⟨a1, _ | ⟨a2, _ | ⟨a3, _ | ⟨_, _⟩⟩⟩⟩⟩ <;> first | (cases e; done) | exact ⟨by kernel_rfl, (fs120_eq ..).trans e⟩
noncomputable def fy120 : YX Tryz.prog := ⟨fx120, ft120, ft120_eq⟩

/-! FN 137 tinsel/inode.New -/
noncomputable def fx137 : XF Tryz.prog := { f := 137, fn := Tryz.f137, ord := fun _ => .text, isFn := Tryz.func137, isBody := by kernel_rfl, isPlain := by kernel_rfl, isSmall := by kernel_rfl, isOK := by kernel_rfl }
noncomputable def fb137 : Code := Tryz.f137.body.getD .skip
noncomputable def fn137 : Nat := Tryz.f137.ntmps
noncomputable abbrev ev137 (C : YC) (lf : Nat) (p : List Nat) := evY Tryz.prog C fn137 fx137.ord lf (sub fb137 p)
noncomputable def ff137 (x4 x5 : O) (h : HW) : Rs :=
 ob x4 fun a0 =>
 ob x5 fun a1 =>
 some (.ret (.tup [a0, a1]), h)
noncomputable def q137_18 (C : YC) (lf : Nat) (r : K2) (x0 x1 : O) (h : HW) : Rs :=
 ob x0 fun a2 =>
 bc (C (.fn 201) [a2] h) fun y3 h3 =>
 ob (ext 0 y3) fun y4 =>
 ob (ext 1 y3) fun y5 =>
 ob (bin Tryz.prog .neq 23 y5 (.int .i64 0)) fun y6 =>
 yIf y6
 (r (some (.val (.pointer none))) (some (.int .i64 22)) h3)
 (ob x1 fun a7 =>
 ob (bin Tryz.prog .lss 3 a7 (.int .i64 1)) fun y8 =>
 bc (gd false (some y8) (ob x1 fun a9 =>
 some (.ret a9, h3)) h3) fun y10 h10 =>
 bc (gd false (some y8) (ob (bin Tryz.prog .gtr 3 y10 (.int .i64 4096)) fun y11 =>
 some (.ret y11, h10)) h10) fun y12 h12 =>
 ob (ypk y8 (.bool true) y12) fun y13 =>
 yIf y13
 (r (some (.val (.pointer none))) (some (.int .i64 22)) h12)
 (ob x1 fun a14 =>
 b2 (ymk Tryz.prog 280 a14 a14 h12) fun y15 h15 =>
 ob (semBuild Tryz.prog 282 [0, 1] [y4, y15]) fun y16 =>
 b2 (ybx 282 y16 h15) fun y17 h17 =>
 r (some y17) (some (.int .i64 0)) h17))
theorem q137_18_eq (C : YC) (lf : Nat) (r : K2) (KN : KF) (KE : KX) : ∀ F h, ev137 C lf [] F h KN (fun F h => r (F 4) (F 5) h) KE = q137_18 C lf r (F 0) (F 1) h := by
  intro F h; kernel_rfl
noncomputable def fs137 (C : YC) (lf : Nat) (a0 a1 : SV) (h : HW) : Rs := q137_18 C lf ff137 (some a0) (some a1) h
theorem fs137_eq (C : YC) (lf : Nat) (a0 a1 : SV) (h : HW) : yFn Tryz.prog fx137 C lf [a0, a1] h = fs137 C lf a0 a1 h :=
  fnOf (K := (fun F h => ff137 (F 4) (F 5) h)) (b := fb137) (N := fn137) (by kernel_rfl) (by kernel_rfl) (by kernel_rfl) (((q137_18_eq C lf ff137 (fun F h => ff137 (F 4) (F 5) h) (fun _ _ _ => none)) (frOf [a0, a1]) h).trans (by kernel_rfl))
noncomputable def ft137 (C : YC) (lf : Nat) (args : List SV) (h : HW) : Rs := match args with | [a0, a1] => fs137 C lf a0 a1 h | _ => none
theorem ft137_eq (C : YC) (lf : Nat) (args : List SV) (h : HW) (r : Out × HW) (e : ft137 C lf args h = some r) : Nat.ble args.length fx137.fn.ntmps = true ∧ yFn Tryz.prog fx137 C lf args h = some r := by
  rcases args with _ | ⟨a0, _ | ⟨a1, _ | ⟨_, _⟩⟩⟩ <;> first | (cases e; done) | exact ⟨by kernel_rfl, (fs137_eq ..).trans e⟩
noncomputable def fy137 : YX Tryz.prog := ⟨fx137, ft137, ft137_eq⟩

/-! FN 138 (*tinsel/inode.Table).Alloc -/
noncomputable def fx138 : XF Tryz.prog := { f := 138, fn := Tryz.f138, ord := fun _ => .text, isFn := Tryz.func138, isBody := by kernel_rfl, isPlain := by kernel_rfl, isSmall := by kernel_rfl, isOK := by kernel_rfl }
noncomputable def fb138 : Code := Tryz.f138.body.getD .skip
noncomputable def fn138 : Nat := Tryz.f138.ntmps
noncomputable abbrev ev138 (C : YC) (lf : Nat) (p : List Nat) := evY Tryz.prog C fn138 fx138.ord lf (sub fb138 p)
noncomputable def ff138 (x8 x9 : O) (h : HW) : Rs :=
 ob x8 fun a0 =>
 ob x9 fun a1 =>
 some (.ret (.tup [a0, a1]), h)
noncomputable def q138_2 (C : YC) (lf : Nat) (r : K2) (h : HW) : Rs :=
 r (some (.int .i64 0)) (some (.int .i64 28)) h
theorem q138_2_eq (C : YC) (lf : Nat) (r : K2) (KN : KF) (KE : KX) : ∀ F h, ev138 C lf [1, 1, 1, 1, 1] F h KN (fun F h => r (F 8) (F 9) h) KE = q138_2 C lf r h := by
  intro F h; kernel_rfl
noncomputable def q138_43 (C : YC) (lf : Nat) (n : K6) (r : K2) (e0 : K0) (x0 x1 x2 x3 x44 x45 : O) (h : HW) : Rs :=
 ob x45 fun a4 =>
 ob x44 fun a5 =>
 ob (bin Tryz.prog .lss 3 a4 a5) fun y6 =>
 yIf y6
 (ob x45 fun a7 =>
 ob x0 fun a8 =>
 ob (semNil a8) fun y9 =>
 ob (fa 1 y9) fun y10 =>
 ob (ld1 y10 h) fun y11 =>
 ob (ixS 308 y11 a7) fun y12 =>
 ob (fa 0 y12) fun y13 =>
 ob (ld1 y13 h) fun y14 =>
 ob (unE .not y14) fun y15 =>
 yIf y15
 (ob x0 fun a16 =>
 ob (semNil a16) fun y17 =>
 ob (fa 1 y17) fun y18 =>
 ob (ld1 y18 h) fun y19 =>
 ob (bin Tryz.prog .add 3 a7 (.int .i64 1)) fun y20 =>
 ob x2 fun a21 =>
 ob x3 fun a22 =>
 ob x1 fun a23 =>
 ob x0 fun a24 =>
 ob (semNil a24) fun y25 =>
 ob (fa 2 y25) fun y26 =>
 ob (ld1 y26 h) fun y27 =>
 ob x0 fun a28 =>
 ob (semNil a28) fun y29 =>
 ob (fa 2 y29) fun y30 =>
 ob (ld1 y30 h) fun y31 =>
 ob x0 fun a32 =>
 ob (semNil a32) fun y33 =>
 ob (fa 2 y33) fun y34 =>
 ob (ld1 y34 h) fun y35 =>
 ob (semBuild Tryz.prog 58 [0, 2, 3, 6, 7, 8, 9] [y20, a21, a22, a23, y27, y31, y35]) fun y36 =>
 ob (semBuild Tryz.prog 289 [0, 1] [(.bool true), y36]) fun y37 =>
 ob (ixS 308 y19 a7) fun y38 =>
 ob (st 308 y38 y37 h) fun h39 =>
 ob (bin Tryz.prog .add 3 a7 (.int .i64 1)) fun y40 =>
 r (some y40) (some (.int .i64 0)) h39)
 (ob x45 fun a41 =>
 ob (bin Tryz.prog .add 3 a41 (.int .i64 1)) fun y42 =>
 n x0 x1 x2 x3 x44 (some y42) h))
 (e0 h)
theorem q138_43_eq (C : YC) (lf : Nat) (n : K6) (r : K2) (e0 : K0) (KE : KX) : ∀ F h, ev138 C lf [1, 1, 1, 1, 0, 1, 0, 0] F h (fun F h => n (F 0) (F 1) (F 2) (F 3) (F 44) (F 45) h) (fun F h => r (F 8) (F 9) h) (bk 0 (fun F h => e0 h) KE) = q138_43 C lf n r e0 (F 0) (F 1) (F 2) (F 3) (F 44) (F 45) h := by
  intro F h; kernel_rfl
noncomputable def l138_3 (C : YC) (lf : Nat) (r : K2) (e0 : K0) (k : O × O × O × O × O × O → HW → Rs) (s : O × O × O × O × O × O) (h : HW) : Rs :=
 q138_43 C lf (fun x0 x1 x2 x3 x44 x45 h => k (x0, x1, x2, x3, x44, x45) h) r e0 s.1 s.2.1 s.2.2.1 s.2.2.2.1 s.2.2.2.2.1 s.2.2.2.2.2 h
noncomputable def q138_49 (C : YC) (lf : Nat) (n : K6) (x0 x1 x2 x3 : O) (h : HW) : Rs :=
 ob x0 fun a44 =>
 ob (semNil a44) fun y45 =>
 ob (fa 1 y45) fun y46 =>
 ob (ld1 y46 h) fun y47 =>
 ob (lenE Tryz.prog 280 y47) fun y48 =>
 n x0 x1 x2 x3 (some y48) (some (.int .i64 0)) h
theorem q138_49_eq (C : YC) (lf : Nat) (n : K6) (KR : KF) (KE : KX) : ∀ F h, ev138 C lf [1, 1, 1, 1, 0, 0] F h (fun F h => n (F 0) (F 1) (F 2) (F 3) (F 44) (F 45) h) KR KE = q138_49 C lf n (F 0) (F 1) (F 2) (F 3) h := by
  intro F h; kernel_rfl
noncomputable def q138_50 (C : YC) (lf : Nat) (n : K0) (r : K2) (x0 x1 x2 x3 : O) (h : HW) : Rs :=
 q138_49 C lf (fun x0 x1 x2 x3 x44 x45 h => lp (l138_3 C lf r n) lf (x0, x1, x2, x3, x44, x45) h) x0 x1 x2 x3 h
theorem q138_50_eq (C : YC) (lf : Nat) (n : K0) (r : K2) (KE : KX) : ∀ F h, ev138 C lf [1, 1, 1, 1, 0] F h (fun F h => n h) (fun F h => r (F 8) (F 9) h) KE = q138_50 C lf n r (F 0) (F 1) (F 2) (F 3) h := cSeq (a := sub fb138 [1, 1, 1, 1, 0, 0]) (b := sub fb138 [1, 1, 1, 1, 0, 1]) (by kernel_rfl) (B := (fun F h => lp (l138_3 C lf r n) lf ((F 0), (F 1), (F 2), (F 3), (F 44), (F 45)) h)) (cBlock (a := sub fb138 [1, 1, 1, 1, 0, 1, 0]) (by kernel_rfl) (cLoop (g := fun F => (F 0, F 1, F 2, F 3, F 44, F 45)) (body := l138_3 C lf r n) (by kernel_rfl) (fun k => (q138_43_eq C lf (fun x0 x1 x2 x3 x44 x45 h => k (x0, x1, x2, x3, x44, x45) h) r n KE)))) (q138_49_eq C lf (fun x0 x1 x2 x3 x44 x45 h => lp (l138_3 C lf r n) lf (x0, x1, x2, x3, x44, x45) h) (fun F h => r (F 8) (F 9) h) KE)
noncomputable def q138_51 (C : YC) (lf : Nat) (r : K2) (x0 x1 x2 x3 : O) (h : HW) : Rs :=
 q138_50 C lf (fun h => q138_2 C lf r h) r x0 x1 x2 x3 h
theorem q138_51_eq (C : YC) (lf : Nat) (r : K2) (KN : KF) (KE : KX) : ∀ F h, ev138 C lf [1, 1, 1, 1] F h KN (fun F h => r (F 8) (F 9) h) KE = q138_51 C lf r (F 0) (F 1) (F 2) (F 3) h := cSeq (a := sub fb138 [1, 1, 1, 1, 0]) (b := sub fb138 [1, 1, 1, 1, 1]) (by kernel_rfl) (B := (fun F h => q138_2 C lf r h)) (q138_2_eq C lf r KN KE) (q138_50_eq C lf (fun h => q138_2 C lf r h) r KE)
noncomputable def q138_84 (C : YC) (lf : Nat) (n : K4) (r : K2) (x0 x1 x2 x3 x10 : O) (h : HW) : Rs :=
 ob x1 fun a52 =>
 ob (bin Tryz.prog .andNot 30 a52 (.int .i64 65535)) fun y53 =>
 ob (bin Tryz.prog .neq 30 y53 (.int .i64 0)) fun y54 =>
 bc (gd false (some y54) (ob x10 fun a55 =>
 some (.ret a55, h)) h) fun y56 h56 =>
 bc (gd false (some y54) (ob (bin Tryz.prog .neq 30 y56 (.int .i64 32768)) fun y57 =>
 some (.ret y57, h56)) h56) fun y58 h58 =>
 bc (gd false (some y54) (some (.ret y58, h58)) h58) fun y59 h59 =>
 bc (gd true (some y59) (ob x10 fun a60 =>
 some (.ret a60, h59)) h59) fun y61 h61 =>
 bc (gd true (some y59) (ob (bin Tryz.prog .neq 30 y61 (.int .i64 16384)) fun y62 =>
 some (.ret y62, h61)) h61) fun y63 h63 =>
 bc (gd false (some y54) (ob (ypk y59 y63 (.bool false)) fun y64 =>
 some (.ret y64, h63)) h63) fun y65 h65 =>
 bc (gd false (some y54) (some (.ret y65, h65)) h65) fun y66 h66 =>
 bc (gd true (some y66) (ob x10 fun a67 =>
 some (.ret a67, h66)) h66) fun y68 h68 =>
 bc (gd true (some y66) (ob (bin Tryz.prog .neq 30 y68 (.int .i64 40960)) fun y69 =>
 some (.ret y69, h68)) h68) fun y70 h70 =>
 bc (gd false (some y54) (ob (ypk y66 y70 (.bool false)) fun y71 =>
 some (.ret y71, h70)) h70) fun y72 h72 =>
 ob (ypk y54 (.bool true) y72) fun y73 =>
 bc (gd false (some y73) (ob x2 fun a74 =>
 some (.ret a74, h72)) h72) fun y75 h75 =>
 bc (gd false (some y73) (ob (bin Tryz.prog .lss 3 y75 (.int .i64 0)) fun y76 =>
 some (.ret y76, h75)) h75) fun y77 h77 =>
 ob (ypk y73 (.bool true) y77) fun y78 =>
 bc (gd false (some y78) (ob x3 fun a79 =>
 some (.ret a79, h77)) h77) fun y80 h80 =>
 bc (gd false (some y78) (ob (bin Tryz.prog .lss 3 y80 (.int .i64 0)) fun y81 =>
 some (.ret y81, h80)) h80) fun y82 h82 =>
 ob (ypk y78 (.bool true) y82) fun y83 =>
 yIf y83
 (r (some (.int .i64 0)) (some (.int .i64 22)) h82)
 (n x0 x1 x2 x3 h82)
theorem q138_84_eq (C : YC) (lf : Nat) (n : K4) (r : K2) (KE : KX) : ∀ F h, ev138 C lf [1, 1, 1, 0] F h (fun F h => n (F 0) (F 1) (F 2) (F 3) h) (fun F h => r (F 8) (F 9) h) KE = q138_84 C lf n r (F 0) (F 1) (F 2) (F 3) (F 10) h := by
  intro F h; kernel_rfl
noncomputable def q138_85 (C : YC) (lf : Nat) (r : K2) (x0 x1 x2 x3 x10 : O) (h : HW) : Rs :=
 q138_84 C lf (fun x0 x1 x2 x3 h => q138_51 C lf r x0 x1 x2 x3 h) r x0 x1 x2 x3 x10 h
theorem q138_85_eq (C : YC) (lf : Nat) (r : K2) (KN : KF) (KE : KX) : ∀ F h, ev138 C lf [1, 1, 1] F h KN (fun F h => r (F 8) (F 9) h) KE = q138_85 C lf r (F 0) (F 1) (F 2) (F 3) (F 10) h := cSeq (a := sub fb138 [1, 1, 1, 0]) (b := sub fb138 [1, 1, 1, 1]) (by kernel_rfl) (B := (fun F h => q138_51 C lf r (F 0) (F 1) (F 2) (F 3) h)) (q138_51_eq C lf r KN KE) (q138_84_eq C lf (fun x0 x1 x2 x3 h => q138_51 C lf r x0 x1 x2 x3 h) r KE)
noncomputable def q138_88 (C : YC) (lf : Nat) (n : K5) (x0 x1 x2 x3 : O) (h : HW) : Rs :=
 ob x1 fun a86 =>
 ob (bin Tryz.prog .and 30 a86 (.int .i64 61440)) fun y87 =>
 n x0 x1 x2 x3 (some y87) h
theorem q138_88_eq (C : YC) (lf : Nat) (n : K5) (KR : KF) (KE : KX) : ∀ F h, ev138 C lf [1, 1, 0] F h (fun F h => n (F 0) (F 1) (F 2) (F 3) (F 10) h) KR KE = q138_88 C lf n (F 0) (F 1) (F 2) (F 3) h := by
  intro F h; kernel_rfl
noncomputable def q138_89 (C : YC) (lf : Nat) (r : K2) (x0 x1 x2 x3 : O) (h : HW) : Rs :=
 q138_88 C lf (fun x0 x1 x2 x3 x10 h => q138_85 C lf r x0 x1 x2 x3 x10 h) x0 x1 x2 x3 h
theorem q138_89_eq (C : YC) (lf : Nat) (r : K2) (KN : KF) (KE : KX) : ∀ F h, ev138 C lf [1, 1] F h KN (fun F h => r (F 8) (F 9) h) KE = q138_89 C lf r (F 0) (F 1) (F 2) (F 3) h := cSeq (a := sub fb138 [1, 1, 0]) (b := sub fb138 [1, 1, 1]) (by kernel_rfl) (B := (fun F h => q138_85 C lf r (F 0) (F 1) (F 2) (F 3) (F 10) h)) (q138_85_eq C lf r KN KE) (q138_88_eq C lf (fun x0 x1 x2 x3 x10 h => q138_85 C lf r x0 x1 x2 x3 x10 h) (fun F h => r (F 8) (F 9) h) KE)
noncomputable def q138_93 (C : YC) (lf : Nat) (n : K4) (r : K2) (x0 x1 x2 x3 : O) (h : HW) : Rs :=
 ob x0 fun a90 =>
 bc (C (.fn 202) [a90] h) fun y91 h91 =>
 ob (unE .not y91) fun y92 =>
 yIf y92
 (r (some (.int .i64 0)) (some (.int .i64 14)) h91)
 (n x0 x1 x2 x3 h91)
theorem q138_93_eq (C : YC) (lf : Nat) (n : K4) (r : K2) (KE : KX) : ∀ F h, ev138 C lf [1, 0] F h (fun F h => n (F 0) (F 1) (F 2) (F 3) h) (fun F h => r (F 8) (F 9) h) KE = q138_93 C lf n r (F 0) (F 1) (F 2) (F 3) h := by
  intro F h; kernel_rfl
noncomputable def q138_94 (C : YC) (lf : Nat) (r : K2) (x0 x1 x2 x3 : O) (h : HW) : Rs :=
 q138_93 C lf (fun x0 x1 x2 x3 h => q138_89 C lf r x0 x1 x2 x3 h) r x0 x1 x2 x3 h
theorem q138_94_eq (C : YC) (lf : Nat) (r : K2) (KN : KF) (KE : KX) : ∀ F h, ev138 C lf [1] F h KN (fun F h => r (F 8) (F 9) h) KE = q138_94 C lf r (F 0) (F 1) (F 2) (F 3) h := cSeq (a := sub fb138 [1, 0]) (b := sub fb138 [1, 1]) (by kernel_rfl) (B := (fun F h => q138_89 C lf r (F 0) (F 1) (F 2) (F 3) h)) (q138_89_eq C lf r KN KE) (q138_93_eq C lf (fun x0 x1 x2 x3 h => q138_89 C lf r x0 x1 x2 x3 h) r KE)
noncomputable def q138_95 (C : YC) (lf : Nat) (n : K4) (x0 x1 x2 x3 : O) (h : HW) : Rs :=
 n x0 x1 x2 x3 h
theorem q138_95_eq (C : YC) (lf : Nat) (n : K4) (KR : KF) (KE : KX) : ∀ F h, ev138 C lf [0] F h (fun F h => n (F 0) (F 1) (F 2) (F 3) h) KR KE = q138_95 C lf n (F 0) (F 1) (F 2) (F 3) h := by
  intro F h; kernel_rfl
noncomputable def q138_96 (C : YC) (lf : Nat) (r : K2) (x0 x1 x2 x3 : O) (h : HW) : Rs :=
 q138_95 C lf (fun x0 x1 x2 x3 h => q138_94 C lf r x0 x1 x2 x3 h) x0 x1 x2 x3 h
theorem q138_96_eq (C : YC) (lf : Nat) (r : K2) (KN : KF) (KE : KX) : ∀ F h, ev138 C lf [] F h KN (fun F h => r (F 8) (F 9) h) KE = q138_96 C lf r (F 0) (F 1) (F 2) (F 3) h := cSeq (a := sub fb138 [0]) (b := sub fb138 [1]) (by kernel_rfl) (B := (fun F h => q138_94 C lf r (F 0) (F 1) (F 2) (F 3) h)) (q138_94_eq C lf r KN KE) (q138_95_eq C lf (fun x0 x1 x2 x3 h => q138_94 C lf r x0 x1 x2 x3 h) (fun F h => r (F 8) (F 9) h) KE)
noncomputable def fs138 (C : YC) (lf : Nat) (a0 a1 a2 a3 : SV) (h : HW) : Rs := q138_96 C lf ff138 (some a0) (some a1) (some a2) (some a3) h
theorem fs138_eq (C : YC) (lf : Nat) (a0 a1 a2 a3 : SV) (h : HW) : yFn Tryz.prog fx138 C lf [a0, a1, a2, a3] h = fs138 C lf a0 a1 a2 a3 h :=
  fnOf (K := (fun F h => ff138 (F 8) (F 9) h)) (b := fb138) (N := fn138) (by kernel_rfl) (by kernel_rfl) (by kernel_rfl) (((q138_96_eq C lf ff138 (fun F h => ff138 (F 8) (F 9) h) (fun _ _ _ => none)) (frOf [a0, a1, a2, a3]) h).trans (by kernel_rfl))
noncomputable def ft138 (C : YC) (lf : Nat) (args : List SV) (h : HW) : Rs := match args with | [a0, a1, a2, a3] => fs138 C lf a0 a1 a2 a3 h | _ => none
theorem ft138_eq (C : YC) (lf : Nat) (args : List SV) (h : HW) (r : Out × HW) (e : ft138 C lf args h = some r) : Nat.ble args.length fx138.fn.ntmps = true ∧ yFn Tryz.prog fx138 C lf args h = some r := by
  rcases args with _ | ⟨a0, _ | ⟨a1, _ | ⟨a2, _ | ⟨a3, _ | ⟨_, _⟩⟩⟩⟩⟩ <;> first | (cases e; done) | exact ⟨by kernel_rfl, (fs138_eq ..).trans e⟩
noncomputable def fy138 : YX Tryz.prog := ⟨fx138, ft138, ft138_eq⟩

/-! FN 139 tinsel/dir.Init -/
noncomputable def fx139 : XF Tryz.prog := { f := 139, fn := Tryz.f139, ord := fun _ => .text, isFn := Tryz.func139, isBody := by kernel_rfl, isPlain := by kernel_rfl, isSmall := by kernel_rfl, isOK := by kernel_rfl }
noncomputable def fb139 : Code := Tryz.f139.body.getD .skip
noncomputable def fn139 : Nat := Tryz.f139.ntmps
noncomputable abbrev ev139 (C : YC) (lf : Nat) (p : List Nat) := evY Tryz.prog C fn139 fx139.ord lf (sub fb139 p)
noncomputable def ff139 (x6 : O) (h : HW) : Rs :=
 ob x6 fun a0 =>
 some (.ret a0, h)
noncomputable def q139_35 (C : YC) (lf : Nat) (r : K1) (x0 x1 x2 : O) (h : HW) : Rs :=
 ob x0 fun a1 =>
 ob x1 fun a2 =>
 bc (C (.fn 203) [a1, a2] h) fun y3 h3 =>
 ob (bin Tryz.prog .neq 23 y3 (.int .i64 0)) fun y4 =>
 yIf y4
 (r (some y3) h3)
 (ob x0 fun a5 =>
 ob x1 fun a6 =>
 bc (C (.fn 184) [a5, a6] h3) fun y7 h7 =>
 ob (ext 0 y7) fun y8 =>
 ob (ext 1 y7) fun y9 =>
 b2 (yAl Tryz.prog 58 h7) fun y10 h10 =>
 ob (st 10 y10 y8 h10) fun h11 =>
 ob x0 fun a12 =>
 ob x2 fun a13 =>
 bc (C (.fn 204) [a12, a13] h11) fun y14 h14 =>
 ob (unE .not y14) fun y15 =>
 yIf y15
 (r (some (.int .i64 22)) h14)
 (ob (fa 4 y10) fun y16 =>
 ob (ld1 y16 h14) fun y17 =>
 ob (bin Tryz.prog .neq 3 y17 (.int .i64 0)) fun y18 =>
 yIf y18
 (r (some (.int .i64 17)) h14)
 (ob x1 fun a19 =>
 bc (C (.fn 205) [(.str (bs [46])), a19] h14) fun y20 h20 =>
 ob x2 fun a21 =>
 bc (C (.fn 205) [(.str (bs [46, 46])), a21] h20) fun y22 h22 =>
 b2 (yAl Tryz.prog 292 h22) fun y23 h23 =>
 b2 (yAl Tryz.prog 292 h23) fun y24 h24 =>
 ob (st 32 y23 y20 h24) fun h25 =>
 ob (st 32 y24 y22 h25) fun h26 =>
 ob x0 fun a27 =>
 ob x1 fun a28 =>
 ob (semSlice Tryz.prog 292 y23 none none) fun y29 =>
 ob (semSlice Tryz.prog 292 y24 none none) fun y30 =>
 b2 (ybl Tryz.prog .append #[31, 31] [y29, y30] h26) fun y31 h31 =>
 bcn (C (.fn 154) [a27, a28, (.int .i64 0), y31] h31) fun y32 h32 =>
 ob (ext 0 y32) fun y33 =>
 ob (ext 1 y32) fun y34 =>
 r (some y34) h32)))
theorem q139_35_eq (C : YC) (lf : Nat) (r : K1) (KN : KF) (KE : KX) : ∀ F h, ev139 C lf [] F h KN (fun F h => r (F 6) h) KE = q139_35 C lf r (F 0) (F 1) (F 2) h := by
  intro F h; kernel_rfl
noncomputable def fs139 (C : YC) (lf : Nat) (a0 a1 a2 : SV) (h : HW) : Rs := q139_35 C lf ff139 (some a0) (some a1) (some a2) h
theorem fs139_eq (C : YC) (lf : Nat) (a0 a1 a2 : SV) (h : HW) : yFn Tryz.prog fx139 C lf [a0, a1, a2] h = fs139 C lf a0 a1 a2 h :=
  fnOf (K := (fun F h => ff139 (F 6) h)) (b := fb139) (N := fn139) (by kernel_rfl) (by kernel_rfl) (by kernel_rfl) (((q139_35_eq C lf ff139 (fun F h => ff139 (F 6) h) (fun _ _ _ => none)) (frOf [a0, a1, a2]) h).trans (by kernel_rfl))
noncomputable def ft139 (C : YC) (lf : Nat) (args : List SV) (h : HW) : Rs := match args with | [a0, a1, a2] => fs139 C lf a0 a1 a2 h | _ => none
theorem ft139_eq (C : YC) (lf : Nat) (args : List SV) (h : HW) (r : Out × HW) (e : ft139 C lf args h = some r) : Nat.ble args.length fx139.fn.ntmps = true ∧ yFn Tryz.prog fx139 C lf args h = some r := by
  rcases args with _ | ⟨a0, _ | ⟨a1, _ | ⟨a2, _ | ⟨_, _⟩⟩⟩⟩ <;> first | (cases e; done) | exact ⟨by kernel_rfl, (fs139_eq ..).trans e⟩
noncomputable def fy139 : YX Tryz.prog := ⟨fx139, ft139, ft139_eq⟩

/-! FN 140 (*tinsel/inode.Table).Links -/
noncomputable def fx140 : XF Tryz.prog := { f := 140, fn := Tryz.f140, ord := fun _ => .text, isFn := Tryz.func140, isBody := by kernel_rfl, isPlain := by kernel_rfl, isSmall := by kernel_rfl, isOK := by kernel_rfl }
noncomputable def fb140 : Code := Tryz.f140.body.getD .skip
noncomputable def fn140 : Nat := Tryz.f140.ntmps
noncomputable abbrev ev140 (C : YC) (lf : Nat) (p : List Nat) := evY Tryz.prog C fn140 fx140.ord lf (sub fb140 p)
noncomputable def ff140 (x6 : O) (h : HW) : Rs :=
 ob x6 fun a0 =>
 some (.ret a0, h)
noncomputable def q140_41 (C : YC) (lf : Nat) (r : K1) (x0 x1 x2 : O) (h : HW) : Rs :=
 ob x0 fun a1 =>
 ob x1 fun a2 =>
 bc (C (.fn 206) [a1, a2] h) fun y3 h3 =>
 ob (ext 0 y3) fun y4 =>
 ob (ext 1 y3) fun y5 =>
 ob (bin Tryz.prog .neq 23 y5 (.int .i64 0)) fun y6 =>
 yIf y6
 (r (some y5) h3)
 (ob x2 fun a7 =>
 ob (semNil y4) fun y8 =>
 ob (fa 1 y8) fun y9 =>
 ob (fa 1 y9) fun y10 =>
 ob (ld1 y10 h3) fun y11 =>
 ob (unE .neg y11) fun y12 =>
 ob (bin Tryz.prog .lss 3 a7 y12) fun y13 =>
 yIf y13
 (r (some (.int .i64 22)) h3)
 (ob x2 fun a14 =>
 ob (semNil y4) fun y15 =>
 ob (fa 1 y15) fun y16 =>
 ob (fa 1 y16) fun y17 =>
 ob (ld1 y17 h3) fun y18 =>
 ob (bin Tryz.prog .sub 3 (.int .i64 16) y18) fun y19 =>
 ob (bin Tryz.prog .gtr 3 a14 y19) fun y20 =>
 yIf y20
 (r (some (.int .i64 31)) h3)
 (ob (semNil y4) fun y21 =>
 ob (fa 1 y21) fun y22 =>
 ob (fa 1 y22) fun y23 =>
 ob (ld1 y23 h3) fun y24 =>
 ob x2 fun a25 =>
 ob (bin Tryz.prog .add 3 y24 a25) fun y26 =>
 ob (semNil y4) fun y27 =>
 ob (fa 1 y27) fun y28 =>
 ob (fa 1 y28) fun y29 =>
 ob (st 1 y29 y26 h3) fun h30 =>
 ob x0 fun a31 =>
 ob (semNil a31) fun y32 =>
 ob (fa 2 y32) fun y33 =>
 ob (ld1 y33 h30) fun y34 =>
 ob (semNil y4) fun y35 =>
 ob (fa 1 y35) fun y36 =>
 ob (fa 9 y36) fun y37 =>
 ob (st 1 y37 y34 h30) fun h38 =>
 ob x0 fun a39 =>
 bc (C (.fn 207) [a39, y4] h38) fun y40 h40 =>
 r (some (.int .i64 0)) h40)))
theorem q140_41_eq (C : YC) (lf : Nat) (r : K1) (KN : KF) (KE : KX) : ∀ F h, ev140 C lf [] F h KN (fun F h => r (F 6) h) KE = q140_41 C lf r (F 0) (F 1) (F 2) h := by
  intro F h; kernel_rfl
noncomputable def fs140 (C : YC) (lf : Nat) (a0 a1 a2 : SV) (h : HW) : Rs := q140_41 C lf ff140 (some a0) (some a1) (some a2) h
theorem fs140_eq (C : YC) (lf : Nat) (a0 a1 a2 : SV) (h : HW) : yFn Tryz.prog fx140 C lf [a0, a1, a2] h = fs140 C lf a0 a1 a2 h :=
  fnOf (K := (fun F h => ff140 (F 6) h)) (b := fb140) (N := fn140) (by kernel_rfl) (by kernel_rfl) (by kernel_rfl) (((q140_41_eq C lf ff140 (fun F h => ff140 (F 6) h) (fun _ _ _ => none)) (frOf [a0, a1, a2]) h).trans (by kernel_rfl))
noncomputable def ft140 (C : YC) (lf : Nat) (args : List SV) (h : HW) : Rs := match args with | [a0, a1, a2] => fs140 C lf a0 a1 a2 h | _ => none
theorem ft140_eq (C : YC) (lf : Nat) (args : List SV) (h : HW) (r : Out × HW) (e : ft140 C lf args h = some r) : Nat.ble args.length fx140.fn.ntmps = true ∧ yFn Tryz.prog fx140 C lf args h = some r := by
  rcases args with _ | ⟨a0, _ | ⟨a1, _ | ⟨a2, _ | ⟨_, _⟩⟩⟩⟩ <;> first | (cases e; done) | exact ⟨by kernel_rfl, (fs140_eq ..).trans e⟩
noncomputable def fy140 : YX Tryz.prog := ⟨fx140, ft140, ft140_eq⟩

/-! EV 141 tinsel/tree.caught: builtin -/
noncomputable def fx141 : XF Tryz.prog := { f := 141, fn := Tryz.f141, ord := fun _ => .text, isFn := Tryz.func141, isBody := by kernel_rfl, isPlain := by kernel_rfl, isSmall := by kernel_rfl, isOK := by kernel_rfl }

/-! FN 142 (*tinsel/tree.FS).real -/
noncomputable def fx142 : XF Tryz.prog := { f := 142, fn := Tryz.f142, ord := fun _ => .text, isFn := Tryz.func142, isBody := by kernel_rfl, isPlain := by kernel_rfl, isSmall := by kernel_rfl, isOK := by kernel_rfl }
noncomputable def fb142 : Code := Tryz.f142.body.getD .skip
noncomputable def fn142 : Nat := Tryz.f142.ntmps
noncomputable abbrev ev142 (C : YC) (lf : Nat) (p : List Nat) := evY Tryz.prog C fn142 fx142.ord lf (sub fb142 p)
noncomputable def ff142 (h : HW) : Rs :=
 some (.ret (.tup []), h)
noncomputable def q142_4 (C : YC) (lf : Nat) (n : K0) (x0 : O) (h : HW) : Rs :=
 ob x0 fun a0 =>
 bc (C (.fn 181) [a0] h) fun y1 h1 =>
 ob (unE .not y1) fun y2 =>
 bc (C (.fn 146) [y2, (.int .i64 14)] h1) fun y3 h3 =>
 n h3
theorem q142_4_eq (C : YC) (lf : Nat) (n : K0) (KR : KF) (KE : KX) : ∀ F h, ev142 C lf [] F h (fun F h => n h) KR KE = q142_4 C lf n (F 0) h := by
  intro F h; kernel_rfl
noncomputable def fs142 (C : YC) (lf : Nat) (a0 : SV) (h : HW) : Rs := q142_4 C lf ff142 (some a0) h
theorem fs142_eq (C : YC) (lf : Nat) (a0 : SV) (h : HW) : yFn Tryz.prog fx142 C lf [a0] h = fs142 C lf a0 h :=
  fnOf (K := (fun F h => ff142 h)) (b := fb142) (N := fn142) (by kernel_rfl) (by kernel_rfl) (by kernel_rfl) (((q142_4_eq C lf ff142 (fun F h => ff142 h) (fun _ _ _ => none)) (frOf [a0]) h).trans (by kernel_rfl))
noncomputable def ft142 (C : YC) (lf : Nat) (args : List SV) (h : HW) : Rs := match args with | [a0] => fs142 C lf a0 h | _ => none
theorem ft142_eq (C : YC) (lf : Nat) (args : List SV) (h : HW) (r : Out × HW) (e : ft142 C lf args h = some r) : Nat.ble args.length fx142.fn.ntmps = true ∧ yFn Tryz.prog fx142 C lf args h = some r := by
  rcases args with _ | ⟨a0, _ | ⟨_, _⟩⟩ <;> first | (cases e; done) | exact ⟨by kernel_rfl, (fs142_eq ..).trans e⟩
noncomputable def fy142 : YX Tryz.prog := ⟨fx142, ft142, ft142_eq⟩

/-! EV 143 (*tinsel/tree.FS).walk: scope -/
noncomputable def fx143 : XF Tryz.prog := { f := 143, fn := Tryz.f143, ord := fun r => bif Nat.beq r 4 then .ord [0, 1, 2, 4, 5, 6, 3, 7, 8, 9, 10] [(9, [7, 3])] else .text, isFn := Tryz.func143, isBody := by kernel_rfl, isPlain := by kernel_rfl, isSmall := by kernel_rfl, isOK := by kernel_rfl }

/-! FN 145 (*tinsel/tree.FS).room -/
noncomputable def fx145 : XF Tryz.prog := { f := 145, fn := Tryz.f145, ord := fun _ => .text, isFn := Tryz.func145, isBody := by kernel_rfl, isPlain := by kernel_rfl, isSmall := by kernel_rfl, isOK := by kernel_rfl }
noncomputable def fb145 : Code := Tryz.f145.body.getD .skip
noncomputable def fn145 : Nat := Tryz.f145.ntmps
noncomputable abbrev ev145 (C : YC) (lf : Nat) (p : List Nat) := evY Tryz.prog C fn145 fx145.ord lf (sub fb145 p)
noncomputable def ff145 (h : HW) : Rs :=
 some (.ret (.tup []), h)
noncomputable def q145_31 (C : YC) (lf : Nat) (n : K0) (x0 x1 x2 x3 : O) (h : HW) : Rs :=
 ob x1 fun a0 =>
 b2 (ybx 46 a0 h) fun y1 h1 =>
 ob x2 fun a2 =>
 b2 (ybx 224 a2 h1) fun y3 h3 =>
 ob x3 fun a4 =>
 bc (gd true (some a4) (ob (fa 2 y3) fun y5 =>
 some (.ret y5, h3)) h3) fun y6 h6 =>
 bc (gd true (some a4) (ob (ld1 y6 h6) fun y7 =>
 some (.ret y7, h6)) h6) fun y8 h8 =>
 ob (ypk a4 y8 (.bool false)) fun y9 =>
 bc (gd false (some y9) (ob x0 fun a10 =>
 some (.ret a10, h8)) h8) fun y11 h11 =>
 bc (gd false (some y9) (ob (fa 0 y3) fun y12 =>
 some (.ret y12, h11)) h11) fun y13 h13 =>
 bc (gd false (some y9) (ob (ld1 y13 h13) fun y14 =>
 some (.ret y14, h13)) h13) fun y15 h15 =>
 bc (gd false (some y9) (bc (C (.fn 147) [y11, y15] h15) fun y16 h16 =>
 some (.ret y16, h16)) h15) fun y17 h17 =>
 bc (gd false (some y9) (ob (fd1 1 y17) fun y18 =>
 some (.ret y18, h17)) h17) fun y19 h19 =>
 bc (gd false (some y9) (ob (bin Tryz.prog .eql 3 y19 (.int .i64 0)) fun y20 =>
 some (.ret y20, h19)) h19) fun y21 h21 =>
 ob (ypk y9 (.bool true) y21) fun y22 =>
 bc (C (.fn 146) [y22, (.int .i64 2)] h21) fun y23 h23 =>
 ob x0 fun a24 =>
 ob (ldN 5 y1 h23) fun y25 =>
 ob (fa 0 y3) fun y26 =>
 ob (ld1 y26 h23) fun y27 =>
 bc (C (.fn 157) [a24, y25, y27, (.int .i64 2)] h23) fun y28 h28 =>
 ob (unE .not y28) fun y29 =>
 bc (C (.fn 146) [y29, (.int .i64 13)] h28) fun y30 h30 =>
 n h30
theorem q145_31_eq (C : YC) (lf : Nat) (n : K0) (KR : KF) (KE : KX) : ∀ F h, ev145 C lf [] F h (fun F h => n h) KR KE = q145_31 C lf n (F 0) (F 1) (F 2) (F 3) h := by
  intro F h; kernel_rfl
noncomputable def fs145 (C : YC) (lf : Nat) (a0 a1 a2 a3 : SV) (h : HW) : Rs := q145_31 C lf ff145 (some a0) (some a1) (some a2) (some a3) h
theorem fs145_eq (C : YC) (lf : Nat) (a0 a1 a2 a3 : SV) (h : HW) : yFn Tryz.prog fx145 C lf [a0, a1, a2, a3] h = fs145 C lf a0 a1 a2 a3 h :=
  fnOf (K := (fun F h => ff145 h)) (b := fb145) (N := fn145) (by kernel_rfl) (by kernel_rfl) (by kernel_rfl) (((q145_31_eq C lf ff145 (fun F h => ff145 h) (fun _ _ _ => none)) (frOf [a0, a1, a2, a3]) h).trans (by kernel_rfl))
noncomputable def ft145 (C : YC) (lf : Nat) (args : List SV) (h : HW) : Rs := match args with | [a0, a1, a2, a3] => fs145 C lf a0 a1 a2 a3 h | _ => none
theorem ft145_eq (C : YC) (lf : Nat) (args : List SV) (h : HW) (r : Out × HW) (e : ft145 C lf args h = some r) : Nat.ble args.length fx145.fn.ntmps = true ∧ yFn Tryz.prog fx145 C lf args h = some r := by
  rcases args with _ | ⟨a0, _ | ⟨a1, _ | ⟨a2, _ | ⟨a3, _ | ⟨_, _⟩⟩⟩⟩⟩ <;> first | (cases e; done) | exact ⟨by kernel_rfl, (fs145_eq ..).trans e⟩
noncomputable def fy145 : YX Tryz.prog := ⟨fx145, ft145, ft145_eq⟩

/-! FN 146 tinsel/tree.need -/
noncomputable def fx146 : XF Tryz.prog := { f := 146, fn := Tryz.f146, ord := fun _ => .text, isFn := Tryz.func146, isBody := by kernel_rfl, isPlain := by kernel_rfl, isSmall := by kernel_rfl, isOK := by kernel_rfl }
noncomputable def fb146 : Code := Tryz.f146.body.getD .skip
noncomputable def fn146 : Nat := Tryz.f146.ntmps
noncomputable abbrev ev146 (C : YC) (lf : Nat) (p : List Nat) := evY Tryz.prog C fn146 fx146.ord lf (sub fb146 p)
noncomputable def ff146 (h : HW) : Rs :=
 some (.ret (.tup []), h)
noncomputable def q146_3 (C : YC) (lf : Nat) (n : K0) (x0 x1 : O) (h : HW) : Rs :=
 ob x0 fun a0 =>
 yIf a0
 (ob x1 fun a1 =>
 ob (semBuild Tryz.prog 299 [0] [a1]) fun y2 =>
 yPan false [(.ifc 299 y2)] h)
 (n h)
theorem q146_3_eq (C : YC) (lf : Nat) (n : K0) (KR : KF) (KE : KX) : ∀ F h, ev146 C lf [] F h (fun F h => n h) KR KE = q146_3 C lf n (F 0) (F 1) h := by
  intro F h; kernel_rfl
noncomputable def fs146 (C : YC) (lf : Nat) (a0 a1 : SV) (h : HW) : Rs := q146_3 C lf ff146 (some a0) (some a1) h
theorem fs146_eq (C : YC) (lf : Nat) (a0 a1 : SV) (h : HW) : yFn Tryz.prog fx146 C lf [a0, a1] h = fs146 C lf a0 a1 h :=
  fnOf (K := (fun F h => ff146 h)) (b := fb146) (N := fn146) (by kernel_rfl) (by kernel_rfl) (by kernel_rfl) (((q146_3_eq C lf ff146 (fun F h => ff146 h) (fun _ _ _ => none)) (frOf [a0, a1]) h).trans (by kernel_rfl))
noncomputable def ft146 (C : YC) (lf : Nat) (args : List SV) (h : HW) : Rs := match args with | [a0, a1] => fs146 C lf a0 a1 h | _ => none
theorem ft146_eq (C : YC) (lf : Nat) (args : List SV) (h : HW) (r : Out × HW) (e : ft146 C lf args h = some r) : Nat.ble args.length fx146.fn.ntmps = true ∧ yFn Tryz.prog fx146 C lf args h = some r := by
  rcases args with _ | ⟨a0, _ | ⟨a1, _ | ⟨_, _⟩⟩⟩ <;> first | (cases e; done) | exact ⟨by kernel_rfl, (fs146_eq ..).trans e⟩
noncomputable def fy146 : YX Tryz.prog := ⟨fx146, ft146, ft146_eq⟩

/-! FN 147 (*tinsel/tree.FS).stat -/
noncomputable def fx147 : XF Tryz.prog := { f := 147, fn := Tryz.f147, ord := fun _ => .text, isFn := Tryz.func147, isBody := by kernel_rfl, isPlain := by kernel_rfl, isSmall := by kernel_rfl, isOK := by kernel_rfl }
noncomputable def fb147 : Code := Tryz.f147.body.getD .skip
noncomputable def fn147 : Nat := Tryz.f147.ntmps
noncomputable abbrev ev147 (C : YC) (lf : Nat) (p : List Nat) := evY Tryz.prog C fn147 fx147.ord lf (sub fb147 p)
noncomputable def ff147 (x4 : O) (h : HW) : Rs :=
 ob x4 fun a0 =>
 ob (ldN 10 a0 h) fun y1 =>
 some (.ret y1, h)
noncomputable def q147_15 (C : YC) (lf : Nat) (r : K1) (x0 x1 : O) (h : HW) : Rs :=
 b2 (yAl Tryz.prog 58 h) fun y2 h2 =>
 ob x0 fun a3 =>
 ob (semNil a3) fun y4 =>
 ob (fa 0 y4) fun y5 =>
 ob (ld1 y5 h2) fun y6 =>
 ob x1 fun a7 =>
 bc (C (.fn 184) [y6, a7] h2) fun y8 h8 =>
 ob (ext 0 y8) fun y9 =>
 ob (ext 1 y8) fun y10 =>
 b2 (yAl Tryz.prog 58 h8) fun y11 h11 =>
 ob (st 10 y11 y9 h11) fun h12 =>
 ob (ldN 10 y11 h12) fun y13 =>
 ob (st 10 y2 y13 h12) fun h14 =>
 r (some y2) h14
theorem q147_15_eq (C : YC) (lf : Nat) (r : K1) (KN : KF) (KE : KX) : ∀ F h, ev147 C lf [] F h KN (fun F h => r (F 4) h) KE = q147_15 C lf r (F 0) (F 1) h := by
  intro F h; kernel_rfl
noncomputable def fs147 (C : YC) (lf : Nat) (a0 a1 : SV) (h : HW) : Rs := q147_15 C lf ff147 (some a0) (some a1) h
theorem fs147_eq (C : YC) (lf : Nat) (a0 a1 : SV) (h : HW) : yFn Tryz.prog fx147 C lf [a0, a1] h = fs147 C lf a0 a1 h :=
  fnOf (K := (fun F h => ff147 (F 4) h)) (b := fb147) (N := fn147) (by kernel_rfl) (by kernel_rfl) (by kernel_rfl) (((q147_15_eq C lf ff147 (fun F h => ff147 (F 4) h) (fun _ _ _ => none)) (frOf [a0, a1]) h).trans (by kernel_rfl))
noncomputable def ft147 (C : YC) (lf : Nat) (args : List SV) (h : HW) : Rs := match args with | [a0, a1] => fs147 C lf a0 a1 h | _ => none
theorem ft147_eq (C : YC) (lf : Nat) (args : List SV) (h : HW) (r : Out × HW) (e : ft147 C lf args h = some r) : Nat.ble args.length fx147.fn.ntmps = true ∧ yFn Tryz.prog fx147 C lf args h = some r := by
  rcases args with _ | ⟨a0, _ | ⟨a1, _ | ⟨_, _⟩⟩⟩ <;> first | (cases e; done) | exact ⟨by kernel_rfl, (fs147_eq ..).trans e⟩
noncomputable def fy147 : YX Tryz.prog := ⟨fx147, ft147, ft147_eq⟩

/-! EV 148 (*tinsel/tree.FS).make: operation -/
noncomputable def fx148 : XF Tryz.prog := { f := 148, fn := Tryz.f148, ord := fun _ => .text, isFn := Tryz.func148, isBody := by kernel_rfl, isPlain := by kernel_rfl, isSmall := by kernel_rfl, isOK := by kernel_rfl }

/-! FN 149 tinsel/tree.less -/
noncomputable def fx149 : XF Tryz.prog := { f := 149, fn := Tryz.f149, ord := fun _ => .text, isFn := Tryz.func149, isBody := by kernel_rfl, isPlain := by kernel_rfl, isSmall := by kernel_rfl, isOK := by kernel_rfl }
noncomputable def fb149 : Code := Tryz.f149.body.getD .skip
noncomputable def fn149 : Nat := Tryz.f149.ntmps
noncomputable abbrev ev149 (C : YC) (lf : Nat) (p : List Nat) := evY Tryz.prog C fn149 fx149.ord lf (sub fb149 p)
noncomputable def ff149 (x4 : O) (h : HW) : Rs :=
 ob x4 fun a0 =>
 some (.ret a0, h)
noncomputable def q149_8 (C : YC) (lf : Nat) (r : K1) (x0 x1 : O) (h : HW) : Rs :=
 ob x0 fun a1 =>
 b2 (ybx 46 a1 h) fun y2 h2 =>
 ob x1 fun a3 =>
 ob (bin Tryz.prog .and 30 a3 (.int .i64 4095)) fun y4 =>
 ob (fa 3 y2) fun y5 =>
 ob (ld1 y5 h2) fun y6 =>
 ob (bin Tryz.prog .andNot 30 y4 y6) fun y7 =>
 r (some y7) h2
theorem q149_8_eq (C : YC) (lf : Nat) (r : K1) (KN : KF) (KE : KX) : ∀ F h, ev149 C lf [] F h KN (fun F h => r (F 4) h) KE = q149_8 C lf r (F 0) (F 1) h := by
  intro F h; kernel_rfl
noncomputable def fs149 (C : YC) (lf : Nat) (a0 a1 : SV) (h : HW) : Rs := q149_8 C lf ff149 (some a0) (some a1) h
theorem fs149_eq (C : YC) (lf : Nat) (a0 a1 : SV) (h : HW) : yFn Tryz.prog fx149 C lf [a0, a1] h = fs149 C lf a0 a1 h :=
  fnOf (K := (fun F h => ff149 (F 4) h)) (b := fb149) (N := fn149) (by kernel_rfl) (by kernel_rfl) (by kernel_rfl) (((q149_8_eq C lf ff149 (fun F h => ff149 (F 4) h) (fun _ _ _ => none)) (frOf [a0, a1]) h).trans (by kernel_rfl))
noncomputable def ft149 (C : YC) (lf : Nat) (args : List SV) (h : HW) : Rs := match args with | [a0, a1] => fs149 C lf a0 a1 h | _ => none
theorem ft149_eq (C : YC) (lf : Nat) (args : List SV) (h : HW) (r : Out × HW) (e : ft149 C lf args h = some r) : Nat.ble args.length fx149.fn.ntmps = true ∧ yFn Tryz.prog fx149 C lf args h = some r := by
  rcases args with _ | ⟨a0, _ | ⟨a1, _ | ⟨_, _⟩⟩⟩ <;> first | (cases e; done) | exact ⟨by kernel_rfl, (fs149_eq ..).trans e⟩
noncomputable def fy149 : YX Tryz.prog := ⟨fx149, ft149, ft149_eq⟩

/-! EV 151 tinsel/path.Split: rangeFunc -/
noncomputable def fx151 : XF Tryz.prog := { f := 151, fn := Tryz.f151, ord := fun _ => .text, isFn := Tryz.func151, isBody := by kernel_rfl, isPlain := by kernel_rfl, isSmall := by kernel_rfl, isOK := by kernel_rfl }

/-! FN 152 tinsel/tree.must -/
noncomputable def fx152 : XF Tryz.prog := { f := 152, fn := Tryz.f152, ord := fun _ => .text, isFn := Tryz.func152, isBody := by kernel_rfl, isPlain := by kernel_rfl, isSmall := by kernel_rfl, isOK := by kernel_rfl }
noncomputable def fb152 : Code := Tryz.f152.body.getD .skip
noncomputable def fn152 : Nat := Tryz.f152.ntmps
noncomputable abbrev ev152 (C : YC) (lf : Nat) (p : List Nat) := evY Tryz.prog C fn152 fx152.ord lf (sub fb152 p)
noncomputable def ff152 (h : HW) : Rs :=
 some (.ret (.tup []), h)
noncomputable def q152_4 (C : YC) (lf : Nat) (n : K0) (x0 : O) (h : HW) : Rs :=
 ob x0 fun a0 =>
 ob (bin Tryz.prog .neq 23 a0 (.int .i64 0)) fun y1 =>
 ob x0 fun a2 =>
 bc (C (.fn 146) [y1, a2] h) fun y3 h3 =>
 n h3
theorem q152_4_eq (C : YC) (lf : Nat) (n : K0) (KR : KF) (KE : KX) : ∀ F h, ev152 C lf [] F h (fun F h => n h) KR KE = q152_4 C lf n (F 0) h := by
  intro F h; kernel_rfl
noncomputable def fs152 (C : YC) (lf : Nat) (a0 : SV) (h : HW) : Rs := q152_4 C lf ff152 (some a0) h
theorem fs152_eq (C : YC) (lf : Nat) (a0 : SV) (h : HW) : yFn Tryz.prog fx152 C lf [a0] h = fs152 C lf a0 h :=
  fnOf (K := (fun F h => ff152 h)) (b := fb152) (N := fn152) (by kernel_rfl) (by kernel_rfl) (by kernel_rfl) (((q152_4_eq C lf ff152 (fun F h => ff152 h) (fun _ _ _ => none)) (frOf [a0]) h).trans (by kernel_rfl))
noncomputable def ft152 (C : YC) (lf : Nat) (args : List SV) (h : HW) : Rs := match args with | [a0] => fs152 C lf a0 h | _ => none
theorem ft152_eq (C : YC) (lf : Nat) (args : List SV) (h : HW) (r : Out × HW) (e : ft152 C lf args h = some r) : Nat.ble args.length fx152.fn.ntmps = true ∧ yFn Tryz.prog fx152 C lf args h = some r := by
  rcases args with _ | ⟨a0, _ | ⟨_, _⟩⟩ <;> first | (cases e; done) | exact ⟨by kernel_rfl, (fs152_eq ..).trans e⟩
noncomputable def fy152 : YX Tryz.prog := ⟨fx152, ft152, ft152_eq⟩

/-! FN 154 (*tinsel/inode.Table).Write -/
noncomputable def fx154 : XF Tryz.prog := { f := 154, fn := Tryz.f154, ord := fun r => bif Nat.beq r 16 then .ord [0, 1, 2, 4, 5, 10, 11, 12, 13, 14, 15, 16, 3, 6, 7, 8, 9, 17] [(6, [3])] else .text, isFn := Tryz.func154, isBody := by kernel_rfl, isPlain := by kernel_rfl, isSmall := by kernel_rfl, isOK := by kernel_rfl }
noncomputable def fb154 : Code := Tryz.f154.body.getD .skip
noncomputable def fn154 : Nat := Tryz.f154.ntmps
noncomputable abbrev ev154 (C : YC) (lf : Nat) (p : List Nat) := evY Tryz.prog C fn154 fx154.ord lf (sub fb154 p)
noncomputable def ff154 (x8 x9 : O) (h : HW) : Rs :=
 ob x8 fun a0 =>
 ob x9 fun a1 =>
 some (.ret (.tup [a0, a1]), h)
noncomputable def q154_22 (C : YC) (lf : Nat) (r : K2) (x0 x2 x10 x12 : O) (h : HW) : Rs :=
 ob x12 fun a2 =>
 ob (bin Tryz.prog .eql 3 a2 (.int .i64 0)) fun y3 =>
 yIf y3
 (r (some (.int .i64 0)) (some (.int .i64 28)) h)
 (ob x10 fun a4 =>
 ob x10 fun a5 =>
 ob (semNil a5) fun y6 =>
 ob (fa 1 y6) fun y7 =>
 ob (fa 4 y7) fun y8 =>
 ob (ld1 y8 h) fun y9 =>
 ob x2 fun a10 =>
 ob x12 fun a11 =>
 ob (bin Tryz.prog .add 3 a10 a11) fun y12 =>
 b2 (ybl Tryz.prog .max #[3, 3] [y9, y12] h) fun y13 h13 =>
 ob (semNil a4) fun y14 =>
 ob (fa 1 y14) fun y15 =>
 ob (fa 4 y15) fun y16 =>
 ob (st 1 y16 y13 h13) fun h17 =>
 ob x0 fun a18 =>
 ob x10 fun a19 =>
 bc (C (.fn 220) [a18, a19] h17) fun y20 h20 =>
 ob x12 fun a21 =>
 r (some a21) (some (.int .i64 0)) h20)
theorem q154_22_eq (C : YC) (lf : Nat) (r : K2) (KN : KF) (KE : KX) : ∀ F h, ev154 C lf [1, 1, 1, 1, 1, 1, 1] F h KN (fun F h => r (F 8) (F 9) h) KE = q154_22 C lf r (F 0) (F 2) (F 10) (F 12) h := by
  intro F h; kernel_rfl
noncomputable def q154_63 (C : YC) (lf : Nat) (n : K5) (e1 : K4) (x0 x2 x3 x10 x12 : O) (h : HW) : Rs :=
 ob x12 fun a24 =>
 ob x3 fun a25 =>
 ob (lenE Tryz.prog 31 a25) fun y26 =>
 ob (bin Tryz.prog .lss 3 a24 y26) fun y27 =>
 yIf y27
 (ob x2 fun a28 =>
 ob x12 fun a29 =>
 ob (bin Tryz.prog .add 3 a28 a29) fun y30 =>
 ob (bin Tryz.prog .quo 3 y30 (.int .i64 64)) fun y31 =>
 ob x2 fun a32 =>
 ob x12 fun a33 =>
 ob (bin Tryz.prog .add 3 a32 a33) fun y34 =>
 ob (bin Tryz.prog .rem 3 y34 (.int .i64 64)) fun y35 =>
 ob x0 fun a36 =>
 ob x10 fun a37 =>
 bc (C (.fn 217) [a36, a37, y31] h) fun y38 h38 =>
 ob (unE .not y38) fun y39 =>
 yIf y39
 (e1 x0 x2 x10 x12 h38)
 (ob (bin Tryz.prog .sub 3 (.int .i64 64) y35) fun y40 =>
 ob x3 fun a41 =>
 ob (lenE Tryz.prog 31 a41) fun y42 =>
 ob x12 fun a43 =>
 ob (bin Tryz.prog .sub 3 y42 a43) fun y44 =>
 b2 (ybl Tryz.prog .min #[3, 3] [y40, y44] h38) fun y45 h45 =>
 ob x0 fun a46 =>
 ob (semNil a46) fun y47 =>
 ob (fa 0 y47) fun y48 =>
 ob x10 fun a49 =>
 ob x3 fun a50 =>
 ob x12 fun a51 =>
 ob x12 fun a52 =>
 ob (bin Tryz.prog .add 3 a52 y45) fun y53 =>
 ob (semSlice Tryz.prog 31 a50 (some a51) (some y53)) fun y54 =>
 ob (ld1 y48 h45) fun y55 =>
 bcn (C (.fn 219) [a49, y31] h45) fun y56 h56 =>
 ck (chkH [(3, adrO (some y48))] h45 h56 [3]) <|
 ob (semNil y56) fun y57 =>
 ob (ld1 y57 h56) fun y58 =>
 ob (bin Tryz.prog .sub 3 y58 (.int .i64 1)) fun y59 =>
 bcn (C (.fn 218) [y55, y59, y35, y54] h56) fun y60 h60 =>
 ob x12 fun a61 =>
 ob (bin Tryz.prog .add 3 a61 y45) fun y62 =>
 n x0 x2 x3 x10 (some y62) h60))
 (e1 x0 x2 x10 x12 h)
theorem q154_63_eq (C : YC) (lf : Nat) (n : K5) (e1 : K4) (KR : KF) (KE : KX) : ∀ F h, ev154 C lf [1, 1, 1, 1, 1, 1, 0, 0, 0] F h (fun F h => n (F 0) (F 2) (F 3) (F 10) (F 12) h) KR (bk 1 (fun F h => e1 (F 0) (F 2) (F 10) (F 12) h) KE) = q154_63 C lf n e1 (F 0) (F 2) (F 3) (F 10) (F 12) h := by
  intro F h; kernel_rfl
noncomputable def l154_23 (C : YC) (lf : Nat) (e1 : K4) (k : O × O × O × O × O → HW → Rs) (s : O × O × O × O × O) (h : HW) : Rs :=
 q154_63 C lf (fun x0 x2 x3 x10 x12 h => k (x0, x2, x3, x10, x12) h) e1 s.1 s.2.1 s.2.2.1 s.2.2.2.1 s.2.2.2.2 h
noncomputable def q154_64 (C : YC) (lf : Nat) (r : K2) (x0 x2 x3 x10 x12 : O) (h : HW) : Rs :=
 lp (l154_23 C lf (fun x0 x2 x10 x12 h => q154_22 C lf r x0 x2 x10 x12 h)) lf (x0, x2, x3, x10, x12) h
theorem q154_64_eq (C : YC) (lf : Nat) (r : K2) (KN : KF) (KE : KX) : ∀ F h, ev154 C lf [1, 1, 1, 1, 1, 1] F h KN (fun F h => r (F 8) (F 9) h) KE = q154_64 C lf r (F 0) (F 2) (F 3) (F 10) (F 12) h := cSeq (a := sub fb154 [1, 1, 1, 1, 1, 1, 0]) (b := sub fb154 [1, 1, 1, 1, 1, 1, 1]) (by kernel_rfl) (B := (fun F h => q154_22 C lf r (F 0) (F 2) (F 10) (F 12) h)) (q154_22_eq C lf r KN KE) (cBlock (a := sub fb154 [1, 1, 1, 1, 1, 1, 0, 0]) (by kernel_rfl) (cLoop (g := fun F => (F 0, F 2, F 3, F 10, F 12)) (body := l154_23 C lf (fun x0 x2 x10 x12 h => q154_22 C lf r x0 x2 x10 x12 h)) (by kernel_rfl) (fun k => (q154_63_eq C lf (fun x0 x2 x3 x10 x12 h => k (x0, x2, x3, x10, x12) h) (fun x0 x2 x10 x12 h => q154_22 C lf r x0 x2 x10 x12 h) (fun F h => r (F 8) (F 9) h) KE))))
noncomputable def q154_65 (C : YC) (lf : Nat) (n : K5) (x0 x2 x3 x10 : O) (h : HW) : Rs :=
 n x0 x2 x3 x10 (some (.int .i64 0)) h
theorem q154_65_eq (C : YC) (lf : Nat) (n : K5) (KR : KF) (KE : KX) : ∀ F h, ev154 C lf [1, 1, 1, 1, 1, 0] F h (fun F h => n (F 0) (F 2) (F 3) (F 10) (F 12) h) KR KE = q154_65 C lf n (F 0) (F 2) (F 3) (F 10) h := by
  intro F h; kernel_rfl
noncomputable def q154_66 (C : YC) (lf : Nat) (r : K2) (x0 x2 x3 x10 : O) (h : HW) : Rs :=
 q154_65 C lf (fun x0 x2 x3 x10 x12 h => q154_64 C lf r x0 x2 x3 x10 x12 h) x0 x2 x3 x10 h
theorem q154_66_eq (C : YC) (lf : Nat) (r : K2) (KN : KF) (KE : KX) : ∀ F h, ev154 C lf [1, 1, 1, 1, 1] F h KN (fun F h => r (F 8) (F 9) h) KE = q154_66 C lf r (F 0) (F 2) (F 3) (F 10) h := cSeq (a := sub fb154 [1, 1, 1, 1, 1, 0]) (b := sub fb154 [1, 1, 1, 1, 1, 1]) (by kernel_rfl) (B := (fun F h => q154_64 C lf r (F 0) (F 2) (F 3) (F 10) (F 12) h)) (q154_64_eq C lf r KN KE) (q154_65_eq C lf (fun x0 x2 x3 x10 x12 h => q154_64 C lf r x0 x2 x3 x10 x12 h) (fun F h => r (F 8) (F 9) h) KE)
noncomputable def q154_74 (C : YC) (lf : Nat) (n : K4) (x0 x2 x3 x10 : O) (h : HW) : Rs :=
 ob x3 fun a67 =>
 ob x3 fun a68 =>
 ob (lenE Tryz.prog 31 a68) fun y69 =>
 ob x2 fun a70 =>
 ob (bin Tryz.prog .sub 3 (.int .i64 17792) a70) fun y71 =>
 b2 (ybl Tryz.prog .min #[3, 3] [y69, y71] h) fun y72 h72 =>
 ob (semSlice Tryz.prog 31 a67 none (some y72)) fun y73 =>
 n x0 x2 (some y73) x10 h72
theorem q154_74_eq (C : YC) (lf : Nat) (n : K4) (KR : KF) (KE : KX) : ∀ F h, ev154 C lf [1, 1, 1, 1, 0] F h (fun F h => n (F 0) (F 2) (F 3) (F 10) h) KR KE = q154_74 C lf n (F 0) (F 2) (F 3) (F 10) h := by
  intro F h; kernel_rfl
noncomputable def q154_75 (C : YC) (lf : Nat) (r : K2) (x0 x2 x3 x10 : O) (h : HW) : Rs :=
 q154_74 C lf (fun x0 x2 x3 x10 h => q154_66 C lf r x0 x2 x3 x10 h) x0 x2 x3 x10 h
theorem q154_75_eq (C : YC) (lf : Nat) (r : K2) (KN : KF) (KE : KX) : ∀ F h, ev154 C lf [1, 1, 1, 1] F h KN (fun F h => r (F 8) (F 9) h) KE = q154_75 C lf r (F 0) (F 2) (F 3) (F 10) h := cSeq (a := sub fb154 [1, 1, 1, 1, 0]) (b := sub fb154 [1, 1, 1, 1, 1]) (by kernel_rfl) (B := (fun F h => q154_66 C lf r (F 0) (F 2) (F 3) (F 10) h)) (q154_66_eq C lf r KN KE) (q154_74_eq C lf (fun x0 x2 x3 x10 h => q154_66 C lf r x0 x2 x3 x10 h) (fun F h => r (F 8) (F 9) h) KE)
noncomputable def q154_83 (C : YC) (lf : Nat) (n : K4) (r : K2) (x0 x2 x3 x10 : O) (h : HW) : Rs :=
 ob x2 fun a76 =>
 ob (bin Tryz.prog .lss 3 a76 (.int .i64 0)) fun y77 =>
 yIf y77
 (r (some (.int .i64 0)) (some (.int .i64 22)) h)
 (ob x3 fun a78 =>
 ob (lenE Tryz.prog 31 a78) fun y79 =>
 ob (bin Tryz.prog .eql 3 y79 (.int .i64 0)) fun y80 =>
 yIf y80
 (r (some (.int .i64 0)) (some (.int .i64 0)) h)
 (ob x2 fun a81 =>
 ob (bin Tryz.prog .geq 3 a81 (.int .i64 17792)) fun y82 =>
 yIf y82
 (r (some (.int .i64 0)) (some (.int .i64 27)) h)
 (n x0 x2 x3 x10 h)))
theorem q154_83_eq (C : YC) (lf : Nat) (n : K4) (r : K2) (KE : KX) : ∀ F h, ev154 C lf [1, 1, 1, 0] F h (fun F h => n (F 0) (F 2) (F 3) (F 10) h) (fun F h => r (F 8) (F 9) h) KE = q154_83 C lf n r (F 0) (F 2) (F 3) (F 10) h := by
  intro F h; kernel_rfl
noncomputable def q154_84 (C : YC) (lf : Nat) (r : K2) (x0 x2 x3 x10 : O) (h : HW) : Rs :=
 q154_83 C lf (fun x0 x2 x3 x10 h => q154_75 C lf r x0 x2 x3 x10 h) r x0 x2 x3 x10 h
theorem q154_84_eq (C : YC) (lf : Nat) (r : K2) (KN : KF) (KE : KX) : ∀ F h, ev154 C lf [1, 1, 1] F h KN (fun F h => r (F 8) (F 9) h) KE = q154_84 C lf r (F 0) (F 2) (F 3) (F 10) h := cSeq (a := sub fb154 [1, 1, 1, 0]) (b := sub fb154 [1, 1, 1, 1]) (by kernel_rfl) (B := (fun F h => q154_75 C lf r (F 0) (F 2) (F 3) (F 10) h)) (q154_75_eq C lf r KN KE) (q154_83_eq C lf (fun x0 x2 x3 x10 h => q154_75 C lf r x0 x2 x3 x10 h) r KE)
noncomputable def q154_88 (C : YC) (lf : Nat) (n : K4) (r : K2) (x0 x2 x3 x10 x11 : O) (h : HW) : Rs :=
 ob x11 fun a85 =>
 ob (bin Tryz.prog .neq 23 a85 (.int .i64 0)) fun y86 =>
 yIf y86
 (ob x11 fun a87 =>
 r (some (.int .i64 0)) (some a87) h)
 (n x0 x2 x3 x10 h)
theorem q154_88_eq (C : YC) (lf : Nat) (n : K4) (r : K2) (KE : KX) : ∀ F h, ev154 C lf [1, 1, 0] F h (fun F h => n (F 0) (F 2) (F 3) (F 10) h) (fun F h => r (F 8) (F 9) h) KE = q154_88 C lf n r (F 0) (F 2) (F 3) (F 10) (F 11) h := by
  intro F h; kernel_rfl
noncomputable def q154_89 (C : YC) (lf : Nat) (r : K2) (x0 x2 x3 x10 x11 : O) (h : HW) : Rs :=
 q154_88 C lf (fun x0 x2 x3 x10 h => q154_84 C lf r x0 x2 x3 x10 h) r x0 x2 x3 x10 x11 h
theorem q154_89_eq (C : YC) (lf : Nat) (r : K2) (KN : KF) (KE : KX) : ∀ F h, ev154 C lf [1, 1] F h KN (fun F h => r (F 8) (F 9) h) KE = q154_89 C lf r (F 0) (F 2) (F 3) (F 10) (F 11) h := cSeq (a := sub fb154 [1, 1, 0]) (b := sub fb154 [1, 1, 1]) (by kernel_rfl) (B := (fun F h => q154_84 C lf r (F 0) (F 2) (F 3) (F 10) h)) (q154_84_eq C lf r KN KE) (q154_88_eq C lf (fun x0 x2 x3 x10 h => q154_84 C lf r x0 x2 x3 x10 h) r KE)
noncomputable def q154_95 (C : YC) (lf : Nat) (n : K5) (x0 x1 x2 x3 : O) (h : HW) : Rs :=
 ob x0 fun a90 =>
 ob x1 fun a91 =>
 bc (C (.fn 206) [a90, a91] h) fun y92 h92 =>
 ob (ext 0 y92) fun y93 =>
 ob (ext 1 y92) fun y94 =>
 n x0 x2 x3 (some y93) (some y94) h92
theorem q154_95_eq (C : YC) (lf : Nat) (n : K5) (KR : KF) (KE : KX) : ∀ F h, ev154 C lf [1, 0] F h (fun F h => n (F 0) (F 2) (F 3) (F 10) (F 11) h) KR KE = q154_95 C lf n (F 0) (F 1) (F 2) (F 3) h := by
  intro F h; kernel_rfl
noncomputable def q154_96 (C : YC) (lf : Nat) (r : K2) (x0 x1 x2 x3 : O) (h : HW) : Rs :=
 q154_95 C lf (fun x0 x2 x3 x10 x11 h => q154_89 C lf r x0 x2 x3 x10 x11 h) x0 x1 x2 x3 h
theorem q154_96_eq (C : YC) (lf : Nat) (r : K2) (KN : KF) (KE : KX) : ∀ F h, ev154 C lf [1] F h KN (fun F h => r (F 8) (F 9) h) KE = q154_96 C lf r (F 0) (F 1) (F 2) (F 3) h := cSeq (a := sub fb154 [1, 0]) (b := sub fb154 [1, 1]) (by kernel_rfl) (B := (fun F h => q154_89 C lf r (F 0) (F 2) (F 3) (F 10) (F 11) h)) (q154_89_eq C lf r KN KE) (q154_95_eq C lf (fun x0 x2 x3 x10 x11 h => q154_89 C lf r x0 x2 x3 x10 x11 h) (fun F h => r (F 8) (F 9) h) KE)
noncomputable def q154_97 (C : YC) (lf : Nat) (n : K4) (x0 x1 x2 x3 : O) (h : HW) : Rs :=
 n x0 x1 x2 x3 h
theorem q154_97_eq (C : YC) (lf : Nat) (n : K4) (KR : KF) (KE : KX) : ∀ F h, ev154 C lf [0] F h (fun F h => n (F 0) (F 1) (F 2) (F 3) h) KR KE = q154_97 C lf n (F 0) (F 1) (F 2) (F 3) h := by
  intro F h; kernel_rfl
noncomputable def q154_98 (C : YC) (lf : Nat) (r : K2) (x0 x1 x2 x3 : O) (h : HW) : Rs :=
 q154_97 C lf (fun x0 x1 x2 x3 h => q154_96 C lf r x0 x1 x2 x3 h) x0 x1 x2 x3 h
theorem q154_98_eq (C : YC) (lf : Nat) (r : K2) (KN : KF) (KE : KX) : ∀ F h, ev154 C lf [] F h KN (fun F h => r (F 8) (F 9) h) KE = q154_98 C lf r (F 0) (F 1) (F 2) (F 3) h := cSeq (a := sub fb154 [0]) (b := sub fb154 [1]) (by kernel_rfl) (B := (fun F h => q154_96 C lf r (F 0) (F 1) (F 2) (F 3) h)) (q154_96_eq C lf r KN KE) (q154_97_eq C lf (fun x0 x1 x2 x3 h => q154_96 C lf r x0 x1 x2 x3 h) (fun F h => r (F 8) (F 9) h) KE)
noncomputable def fs154 (C : YC) (lf : Nat) (a0 a1 a2 a3 : SV) (h : HW) : Rs := q154_98 C lf ff154 (some a0) (some a1) (some a2) (some a3) h
theorem fs154_eq (C : YC) (lf : Nat) (a0 a1 a2 a3 : SV) (h : HW) : yFn Tryz.prog fx154 C lf [a0, a1, a2, a3] h = fs154 C lf a0 a1 a2 a3 h :=
  fnOf (K := (fun F h => ff154 (F 8) (F 9) h)) (b := fb154) (N := fn154) (by kernel_rfl) (by kernel_rfl) (by kernel_rfl) (((q154_98_eq C lf ff154 (fun F h => ff154 (F 8) (F 9) h) (fun _ _ _ => none)) (frOf [a0, a1, a2, a3]) h).trans (by kernel_rfl))
noncomputable def ft154 (C : YC) (lf : Nat) (args : List SV) (h : HW) : Rs := match args with | [a0, a1, a2, a3] => fs154 C lf a0 a1 a2 a3 h | _ => none
theorem ft154_eq (C : YC) (lf : Nat) (args : List SV) (h : HW) (r : Out × HW) (e : ft154 C lf args h = some r) : Nat.ble args.length fx154.fn.ntmps = true ∧ yFn Tryz.prog fx154 C lf args h = some r := by
  rcases args with _ | ⟨a0, _ | ⟨a1, _ | ⟨a2, _ | ⟨a3, _ | ⟨_, _⟩⟩⟩⟩⟩ <;> first | (cases e; done) | exact ⟨by kernel_rfl, (fs154_eq ..).trans e⟩
noncomputable def fy154 : YX Tryz.prog := ⟨fx154, ft154, ft154_eq⟩

/-! FN 156 (*tinsel/tree.FS).kind -/
noncomputable def fx156 : XF Tryz.prog := { f := 156, fn := Tryz.f156, ord := fun _ => .text, isFn := Tryz.func156, isBody := by kernel_rfl, isPlain := by kernel_rfl, isSmall := by kernel_rfl, isOK := by kernel_rfl }
noncomputable def fb156 : Code := Tryz.f156.body.getD .skip
noncomputable def fn156 : Nat := Tryz.f156.ntmps
noncomputable abbrev ev156 (C : YC) (lf : Nat) (p : List Nat) := evY Tryz.prog C fn156 fx156.ord lf (sub fb156 p)
noncomputable def ff156 (x4 : O) (h : HW) : Rs :=
 ob x4 fun a0 =>
 some (.ret a0, h)
noncomputable def q156_6 (C : YC) (lf : Nat) (r : K1) (x0 x1 : O) (h : HW) : Rs :=
 ob x0 fun a1 =>
 ob x1 fun a2 =>
 bc (C (.fn 147) [a1, a2] h) fun y3 h3 =>
 ob (fd1 6 y3) fun y4 =>
 ob (bin Tryz.prog .and 30 y4 (.int .i64 61440)) fun y5 =>
 r (some y5) h3
theorem q156_6_eq (C : YC) (lf : Nat) (r : K1) (KN : KF) (KE : KX) : ∀ F h, ev156 C lf [] F h KN (fun F h => r (F 4) h) KE = q156_6 C lf r (F 0) (F 1) h := by
  intro F h; kernel_rfl
noncomputable def fs156 (C : YC) (lf : Nat) (a0 a1 : SV) (h : HW) : Rs := q156_6 C lf ff156 (some a0) (some a1) h
theorem fs156_eq (C : YC) (lf : Nat) (a0 a1 : SV) (h : HW) : yFn Tryz.prog fx156 C lf [a0, a1] h = fs156 C lf a0 a1 h :=
  fnOf (K := (fun F h => ff156 (F 4) h)) (b := fb156) (N := fn156) (by kernel_rfl) (by kernel_rfl) (by kernel_rfl) (((q156_6_eq C lf ff156 (fun F h => ff156 (F 4) h) (fun _ _ _ => none)) (frOf [a0, a1]) h).trans (by kernel_rfl))
noncomputable def ft156 (C : YC) (lf : Nat) (args : List SV) (h : HW) : Rs := match args with | [a0, a1] => fs156 C lf a0 a1 h | _ => none
theorem ft156_eq (C : YC) (lf : Nat) (args : List SV) (h : HW) (r : Out × HW) (e : ft156 C lf args h = some r) : Nat.ble args.length fx156.fn.ntmps = true ∧ yFn Tryz.prog fx156 C lf args h = some r := by
  rcases args with _ | ⟨a0, _ | ⟨a1, _ | ⟨_, _⟩⟩⟩ <;> first | (cases e; done) | exact ⟨by kernel_rfl, (fs156_eq ..).trans e⟩
noncomputable def fy156 : YX Tryz.prog := ⟨fx156, ft156, ft156_eq⟩

/-! FN 157 (*tinsel/tree.FS).may -/
noncomputable def fx157 : XF Tryz.prog := { f := 157, fn := Tryz.f157, ord := fun _ => .text, isFn := Tryz.func157, isBody := by kernel_rfl, isPlain := by kernel_rfl, isSmall := by kernel_rfl, isOK := by kernel_rfl }
noncomputable def fb157 : Code := Tryz.f157.body.getD .skip
noncomputable def fn157 : Nat := Tryz.f157.ntmps
noncomputable abbrev ev157 (C : YC) (lf : Nat) (p : List Nat) := evY Tryz.prog C fn157 fx157.ord lf (sub fb157 p)
noncomputable def ff157 (x8 : O) (h : HW) : Rs :=
 ob x8 fun a0 =>
 some (.ret a0, h)
noncomputable def q157_17 (C : YC) (lf : Nat) (r : K1) (x0 x1 x2 x3 : O) (h : HW) : Rs :=
 ob x1 fun a1 =>
 b2 (ybx 46 a1 h) fun y2 h2 =>
 ob x0 fun a3 =>
 ob x2 fun a4 =>
 bc (C (.fn 147) [a3, a4] h2) fun y5 h5 =>
 b2 (yAl Tryz.prog 58 h5) fun y6 h6 =>
 ob (st 10 y6 y5 h6) fun h7 =>
 ob (fa 6 y6) fun y8 =>
 ob (ld1 y8 h7) fun y9 =>
 ob (fa 2 y6) fun y10 =>
 ob (ld1 y10 h7) fun y11 =>
 ob (fa 3 y6) fun y12 =>
 ob (ld1 y12 h7) fun y13 =>
 ob (ldN 5 y2 h7) fun y14 =>
 ob x3 fun a15 =>
 bc (C (.fn 221) [y9, y11, y13, y14, a15] h7) fun y16 h16 =>
 r (some y16) h16
theorem q157_17_eq (C : YC) (lf : Nat) (r : K1) (KN : KF) (KE : KX) : ∀ F h, ev157 C lf [] F h KN (fun F h => r (F 8) h) KE = q157_17 C lf r (F 0) (F 1) (F 2) (F 3) h := by
  intro F h; kernel_rfl
noncomputable def fs157 (C : YC) (lf : Nat) (a0 a1 a2 a3 : SV) (h : HW) : Rs := q157_17 C lf ff157 (some a0) (some a1) (some a2) (some a3) h
theorem fs157_eq (C : YC) (lf : Nat) (a0 a1 a2 a3 : SV) (h : HW) : yFn Tryz.prog fx157 C lf [a0, a1, a2, a3] h = fs157 C lf a0 a1 a2 a3 h :=
  fnOf (K := (fun F h => ff157 (F 8) h)) (b := fb157) (N := fn157) (by kernel_rfl) (by kernel_rfl) (by kernel_rfl) (((q157_17_eq C lf ff157 (fun F h => ff157 (F 8) h) (fun _ _ _ => none)) (frOf [a0, a1, a2, a3]) h).trans (by kernel_rfl))
noncomputable def ft157 (C : YC) (lf : Nat) (args : List SV) (h : HW) : Rs := match args with | [a0, a1, a2, a3] => fs157 C lf a0 a1 a2 a3 h | _ => none
theorem ft157_eq (C : YC) (lf : Nat) (args : List SV) (h : HW) (r : Out × HW) (e : ft157 C lf args h = some r) : Nat.ble args.length fx157.fn.ntmps = true ∧ yFn Tryz.prog fx157 C lf args h = some r := by
  rcases args with _ | ⟨a0, _ | ⟨a1, _ | ⟨a2, _ | ⟨a3, _ | ⟨_, _⟩⟩⟩⟩⟩ <;> first | (cases e; done) | exact ⟨by kernel_rfl, (fs157_eq ..).trans e⟩
noncomputable def fy157 : YX Tryz.prog := ⟨fx157, ft157, ft157_eq⟩

/-! FN 163 tinsel/tree.way -/
noncomputable def fx163 : XF Tryz.prog := { f := 163, fn := Tryz.f163, ord := fun _ => .text, isFn := Tryz.func163, isBody := by kernel_rfl, isPlain := by kernel_rfl, isSmall := by kernel_rfl, isOK := by kernel_rfl }
noncomputable def fb163 : Code := Tryz.f163.body.getD .skip
noncomputable def fn163 : Nat := Tryz.f163.ntmps
noncomputable abbrev ev163 (C : YC) (lf : Nat) (p : List Nat) := evY Tryz.prog C fn163 fx163.ord lf (sub fb163 p)
noncomputable def ff163 (x2 : O) (h : HW) : Rs :=
 ob x2 fun a0 =>
 some (.ret a0, h)
noncomputable def q163_2 (C : YC) (lf : Nat) (r : K1) (x0 : O) (h : HW) : Rs :=
 ob x0 fun a1 =>
 yIf a1
 (r (some (.int .i64 1)) h)
 (r (some (.int .i64 0)) h)
theorem q163_2_eq (C : YC) (lf : Nat) (r : K1) (KN : KF) (KE : KX) : ∀ F h, ev163 C lf [] F h KN (fun F h => r (F 2) h) KE = q163_2 C lf r (F 0) h := by
  intro F h; kernel_rfl
noncomputable def fs163 (C : YC) (lf : Nat) (a0 : SV) (h : HW) : Rs := q163_2 C lf ff163 (some a0) h
theorem fs163_eq (C : YC) (lf : Nat) (a0 : SV) (h : HW) : yFn Tryz.prog fx163 C lf [a0] h = fs163 C lf a0 h :=
  fnOf (K := (fun F h => ff163 (F 2) h)) (b := fb163) (N := fn163) (by kernel_rfl) (by kernel_rfl) (by kernel_rfl) (((q163_2_eq C lf ff163 (fun F h => ff163 (F 2) h) (fun _ _ _ => none)) (frOf [a0]) h).trans (by kernel_rfl))
noncomputable def ft163 (C : YC) (lf : Nat) (args : List SV) (h : HW) : Rs := match args with | [a0] => fs163 C lf a0 h | _ => none
theorem ft163_eq (C : YC) (lf : Nat) (args : List SV) (h : HW) (r : Out × HW) (e : ft163 C lf args h = some r) : Nat.ble args.length fx163.fn.ntmps = true ∧ yFn Tryz.prog fx163 C lf args h = some r := by
  rcases args with _ | ⟨a0, _ | ⟨_, _⟩⟩ <;> first | (cases e; done) | exact ⟨by kernel_rfl, (fs163_eq ..).trans e⟩
noncomputable def fy163 : YX Tryz.prog := ⟨fx163, ft163, ft163_eq⟩

/-! FN 172 (*tinsel/tree.FS).Open$1 -/
noncomputable def fx172 : XF Tryz.prog := { f := 172, fn := Tryz.f172, ord := fun _ => .text, isFn := Tryz.func172, isBody := by kernel_rfl, isPlain := by kernel_rfl, isSmall := by kernel_rfl, isOK := by kernel_rfl }
noncomputable def fb172 : Code := Tryz.f172.body.getD .skip
noncomputable def fn172 : Nat := Tryz.f172.ntmps
noncomputable abbrev ev172 (C : YC) (lf : Nat) (p : List Nat) := evY Tryz.prog C fn172 fx172.ord lf (sub fb172 p)
noncomputable def ff172 (h : HW) : Rs :=
 some (.ret (.tup []), h)
noncomputable def q172_5 (C : YC) (lf : Nat) (n : K0) (x0 x1 : O) (h : HW) : Rs :=
 ob x0 fun a0 =>
 ob (ld1 a0 h) fun y1 =>
 ob (bin Tryz.prog .neq 23 y1 (.int .i64 0)) fun y2 =>
 yIf y2
 (ob x1 fun a3 =>
 ob (st 1 a3 (.int .i64 0) h) fun h4 =>
 n h4)
 (n h)
theorem q172_5_eq (C : YC) (lf : Nat) (n : K0) (KR : KF) (KE : KX) : ∀ F h, ev172 C lf [] F h (fun F h => n h) KR KE = q172_5 C lf n (F 0) (F 1) h := by
  intro F h; kernel_rfl
noncomputable def fs172 (C : YC) (lf : Nat) (a0 a1 : SV) (h : HW) : Rs := q172_5 C lf ff172 (some a0) (some a1) h
theorem fs172_eq (C : YC) (lf : Nat) (a0 a1 : SV) (h : HW) : yFn Tryz.prog fx172 C lf [a0, a1] h = fs172 C lf a0 a1 h :=
  fnOf (K := (fun F h => ff172 h)) (b := fb172) (N := fn172) (by kernel_rfl) (by kernel_rfl) (by kernel_rfl) (((q172_5_eq C lf ff172 (fun F h => ff172 h) (fun _ _ _ => none)) (frOf [a0, a1]) h).trans (by kernel_rfl))
noncomputable def ft172 (C : YC) (lf : Nat) (args : List SV) (h : HW) : Rs := match args with | [a0, a1] => fs172 C lf a0 a1 h | _ => none
theorem ft172_eq (C : YC) (lf : Nat) (args : List SV) (h : HW) (r : Out × HW) (e : ft172 C lf args h = some r) : Nat.ble args.length fx172.fn.ntmps = true ∧ yFn Tryz.prog fx172 C lf args h = some r := by
  rcases args with _ | ⟨a0, _ | ⟨a1, _ | ⟨_, _⟩⟩⟩ <;> first | (cases e; done) | exact ⟨by kernel_rfl, (fs172_eq ..).trans e⟩
noncomputable def fy172 : YX Tryz.prog := ⟨fx172, ft172, ft172_eq⟩

/-! FN 173 tinsel/tree.flagged -/
noncomputable def fx173 : XF Tryz.prog := { f := 173, fn := Tryz.f173, ord := fun _ => .text, isFn := Tryz.func173, isBody := by kernel_rfl, isPlain := by kernel_rfl, isSmall := by kernel_rfl, isOK := by kernel_rfl }
noncomputable def fb173 : Code := Tryz.f173.body.getD .skip
noncomputable def fn173 : Nat := Tryz.f173.ntmps
noncomputable abbrev ev173 (C : YC) (lf : Nat) (p : List Nat) := evY Tryz.prog C fn173 fx173.ord lf (sub fb173 p)
noncomputable def ff173 (x2 : O) (h : HW) : Rs :=
 ob x2 fun a0 =>
 some (.ret a0, h)
noncomputable def q173_34 (C : YC) (lf : Nat) (r : K1) (x0 : O) (h : HW) : Rs :=
 ob x0 fun a1 =>
 b2 (ybx 3 a1 h) fun y2 h2 =>
 ob (ld1 y2 h2) fun y3 =>
 ob (bin Tryz.prog .andNot 3 y3 (.int .i64 255)) fun y4 =>
 ob (bin Tryz.prog .eql 3 y4 (.int .i64 0)) fun y5 =>
 bc (gd true (some y5) (some (.ret (.fn (.func 244) [] [y2]), h2)) h2) fun y6 h6 =>
 bc (gd true (some y5) (cv false C y6 [(.int .i64 3)] h6 fun y7 h7 =>
 some (.ret y7, h7)) h6) fun y8 h8 =>
 ob (ypk y5 y8 (.bool false)) fun y9 =>
 bc (gd true (some y9) (some (.ret (.fn (.func 244) [] [y2]), h8)) h8) fun y10 h10 =>
 bc (gd true (some y9) (cv false C y10 [(.int .i64 2)] h10 fun y11 h11 =>
 some (.ret y11, h11)) h10) fun y12 h12 =>
 bc (gd true (some y9) (some (.ret y12, h12)) h12) fun y13 h13 =>
 bc (gd false (some y13) (some (.ret (.fn (.func 244) [] [y2]), h13)) h13) fun y14 h14 =>
 bc (gd false (some y13) (cv false C y14 [(.int .i64 36)] h14 fun y15 h15 =>
 some (.ret y15, h15)) h14) fun y16 h16 =>
 bc (gd false (some y13) (ob (unE .not y16) fun y17 =>
 some (.ret y17, h16)) h16) fun y18 h18 =>
 bc (gd true (some y9) (ob (ypk y13 (.bool true) y18) fun y19 =>
 some (.ret y19, h18)) h18) fun y20 h20 =>
 ob (ypk y9 y20 (.bool false)) fun y21 =>
 bc (gd true (some y21) (some (.ret (.fn (.func 244) [] [y2]), h20)) h20) fun y22 h22 =>
 bc (gd true (some y21) (cv false C y22 [(.int .i64 64)] h22 fun y23 h23 =>
 some (.ret y23, h23)) h22) fun y24 h24 =>
 bc (gd true (some y21) (some (.ret y24, h24)) h24) fun y25 h25 =>
 bc (gd true (some y25) (some (.ret (.fn (.func 244) [] [y2]), h25)) h25) fun y26 h26 =>
 bc (gd true (some y25) (cv false C y26 [(.int .i64 8)] h26 fun y27 h27 =>
 some (.ret y27, h27)) h26) fun y28 h28 =>
 bc (gd true (some y21) (ob (ypk y25 y28 (.bool false)) fun y29 =>
 some (.ret y29, h28)) h28) fun y30 h30 =>
 bc (gd true (some y21) (ob (unE .not y30) fun y31 =>
 some (.ret y31, h30)) h30) fun y32 h32 =>
 ob (ypk y21 y32 (.bool false)) fun y33 =>
 r (some y33) h32
theorem q173_34_eq (C : YC) (lf : Nat) (r : K1) (KN : KF) (KE : KX) : ∀ F h, ev173 C lf [] F h KN (fun F h => r (F 2) h) KE = q173_34 C lf r (F 0) h := by
  intro F h; kernel_rfl
noncomputable def fs173 (C : YC) (lf : Nat) (a0 : SV) (h : HW) : Rs := q173_34 C lf ff173 (some a0) h
theorem fs173_eq (C : YC) (lf : Nat) (a0 : SV) (h : HW) : yFn Tryz.prog fx173 C lf [a0] h = fs173 C lf a0 h :=
  fnOf (K := (fun F h => ff173 (F 2) h)) (b := fb173) (N := fn173) (by kernel_rfl) (by kernel_rfl) (by kernel_rfl) (((q173_34_eq C lf ff173 (fun F h => ff173 (F 2) h) (fun _ _ _ => none)) (frOf [a0]) h).trans (by kernel_rfl))
noncomputable def ft173 (C : YC) (lf : Nat) (args : List SV) (h : HW) : Rs := match args with | [a0] => fs173 C lf a0 h | _ => none
theorem ft173_eq (C : YC) (lf : Nat) (args : List SV) (h : HW) (r : Out × HW) (e : ft173 C lf args h = some r) : Nat.ble args.length fx173.fn.ntmps = true ∧ yFn Tryz.prog fx173 C lf args h = some r := by
  rcases args with _ | ⟨a0, _ | ⟨_, _⟩⟩ <;> first | (cases e; done) | exact ⟨by kernel_rfl, (fs173_eq ..).trans e⟩
noncomputable def fy173 : YX Tryz.prog := ⟨fx173, ft173, ft173_eq⟩

/-! FN 174 (*tinsel/tree.FS).Open$2 -/
noncomputable def fx174 : XF Tryz.prog := { f := 174, fn := Tryz.f174, ord := fun _ => .text, isFn := Tryz.func174, isBody := by kernel_rfl, isPlain := by kernel_rfl, isSmall := by kernel_rfl, isOK := by kernel_rfl }
noncomputable def fb174 : Code := Tryz.f174.body.getD .skip
noncomputable def fn174 : Nat := Tryz.f174.ntmps
noncomputable abbrev ev174 (C : YC) (lf : Nat) (p : List Nat) := evY Tryz.prog C fn174 fx174.ord lf (sub fb174 p)
noncomputable def ff174 (x3 : O) (h : HW) : Rs :=
 ob x3 fun a0 =>
 some (.ret a0, h)
noncomputable def q174_6 (C : YC) (lf : Nat) (r : K1) (x0 x1 : O) (h : HW) : Rs :=
 ob x1 fun a1 =>
 ob (ld1 a1 h) fun y2 =>
 ob x0 fun a3 =>
 ob (bin Tryz.prog .and 3 y2 a3) fun y4 =>
 ob (bin Tryz.prog .neq 3 y4 (.int .i64 0)) fun y5 =>
 r (some y5) h
theorem q174_6_eq (C : YC) (lf : Nat) (r : K1) (KN : KF) (KE : KX) : ∀ F h, ev174 C lf [] F h KN (fun F h => r (F 3) h) KE = q174_6 C lf r (F 0) (F 1) h := by
  intro F h; kernel_rfl
noncomputable def fs174 (C : YC) (lf : Nat) (a0 a1 : SV) (h : HW) : Rs := q174_6 C lf ff174 (some a0) (some a1) h
theorem fs174_eq (C : YC) (lf : Nat) (a0 a1 : SV) (h : HW) : yFn Tryz.prog fx174 C lf [a0, a1] h = fs174 C lf a0 a1 h :=
  fnOf (K := (fun F h => ff174 (F 3) h)) (b := fb174) (N := fn174) (by kernel_rfl) (by kernel_rfl) (by kernel_rfl) (((q174_6_eq C lf ff174 (fun F h => ff174 (F 3) h) (fun _ _ _ => none)) (frOf [a0, a1]) h).trans (by kernel_rfl))
noncomputable def ft174 (C : YC) (lf : Nat) (args : List SV) (h : HW) : Rs := match args with | [a0, a1] => fs174 C lf a0 a1 h | _ => none
theorem ft174_eq (C : YC) (lf : Nat) (args : List SV) (h : HW) (r : Out × HW) (e : ft174 C lf args h = some r) : Nat.ble args.length fx174.fn.ntmps = true ∧ yFn Tryz.prog fx174 C lf args h = some r := by
  rcases args with _ | ⟨a0, _ | ⟨a1, _ | ⟨_, _⟩⟩⟩ <;> first | (cases e; done) | exact ⟨by kernel_rfl, (fs174_eq ..).trans e⟩
noncomputable def fy174 : YX Tryz.prog := ⟨fx174, ft174, ft174_eq⟩

/-! FN 175 (*tinsel/tree.FS).create -/
noncomputable def fx175 : XF Tryz.prog := { f := 175, fn := Tryz.f175, ord := fun r => bif Nat.beq r 3 then .ord [0, 2, 4, 7, 1, 3, 5, 6, 8, 9, 10, 11] [(8, [5, 3, 1])] else .text, isFn := Tryz.func175, isBody := by kernel_rfl, isPlain := by kernel_rfl, isSmall := by kernel_rfl, isOK := by kernel_rfl }
noncomputable def fb175 : Code := Tryz.f175.body.getD .skip
noncomputable def fn175 : Nat := Tryz.f175.ntmps
noncomputable abbrev ev175 (C : YC) (lf : Nat) (p : List Nat) := evY Tryz.prog C fn175 fx175.ord lf (sub fb175 p)
noncomputable def ff175 (x8 : O) (h : HW) : Rs :=
 ob x8 fun a0 =>
 some (.ret a0, h)
noncomputable def q175_28 (C : YC) (lf : Nat) (r : K1) (x0 x1 x2 x3 : O) (h : HW) : Rs :=
 ob x1 fun a1 =>
 b2 (ybx 46 a1 h) fun y2 h2 =>
 ob x2 fun a3 =>
 b2 (ybx 224 a3 h2) fun y4 h4 =>
 ob (fa 2 y4) fun y5 =>
 ob (ld1 y5 h4) fun y6 =>
 bc (C (.fn 146) [y6, (.int .i64 21)] h4) fun y7 h7 =>
 ob x0 fun a8 =>
 ob (ldN 5 y2 h7) fun y9 =>
 ob (ldN 5 y4 h7) fun y10 =>
 bc (C (.fn 145) [a8, y9, y10, (.bool false)] h7) fun y11 h11 =>
 ob x0 fun a12 =>
 ob (fa 0 y4) fun y13 =>
 ob (fa 1 y4) fun y14 =>
 ob x3 fun a15 =>
 ob (ldN 5 y2 h11) fun y16 =>
 ob (ld1 y13 h11) fun y17 =>
 ob (ld1 y14 h11) fun y18 =>
 ob (ldN 5 y2 h11) fun y19 =>
 bcn (C (.fn 149) [y19, a15] h11) fun y20 h20 =>
 ck (chkH [(6, adrO (some y2)), (5, adrO (some y14)), (3, adrO (some y13)), (1, adrO (some y2))] h11 h20 [5, 3, 1]) <|
 ob (bin Tryz.prog .or 30 (.int .i64 32768) y20) fun y21 =>
 bcn (C (.fn 148) [a12, y16, y17, y18, y21, (.fn (.func 245) [] [])] h20) fun y22 h22 =>
 ob x0 fun a23 =>
 ob (semNil a23) fun y24 =>
 ob (fa 0 y24) fun y25 =>
 ob (ld1 y25 h22) fun y26 =>
 bc (C (.fn 140) [y26, y22, (.int .i64 1)] h22) fun y27 h27 =>
 r (some y22) h27
theorem q175_28_eq (C : YC) (lf : Nat) (r : K1) (KN : KF) (KE : KX) : ∀ F h, ev175 C lf [] F h KN (fun F h => r (F 8) h) KE = q175_28 C lf r (F 0) (F 1) (F 2) (F 3) h := by
  intro F h; kernel_rfl
noncomputable def fs175 (C : YC) (lf : Nat) (a0 a1 a2 a3 : SV) (h : HW) : Rs := q175_28 C lf ff175 (some a0) (some a1) (some a2) (some a3) h
theorem fs175_eq (C : YC) (lf : Nat) (a0 a1 a2 a3 : SV) (h : HW) : yFn Tryz.prog fx175 C lf [a0, a1, a2, a3] h = fs175 C lf a0 a1 a2 a3 h :=
  fnOf (K := (fun F h => ff175 (F 8) h)) (b := fb175) (N := fn175) (by kernel_rfl) (by kernel_rfl) (by kernel_rfl) (((q175_28_eq C lf ff175 (fun F h => ff175 (F 8) h) (fun _ _ _ => none)) (frOf [a0, a1, a2, a3]) h).trans (by kernel_rfl))
noncomputable def ft175 (C : YC) (lf : Nat) (args : List SV) (h : HW) : Rs := match args with | [a0, a1, a2, a3] => fs175 C lf a0 a1 a2 a3 h | _ => none
theorem ft175_eq (C : YC) (lf : Nat) (args : List SV) (h : HW) (r : Out × HW) (e : ft175 C lf args h = some r) : Nat.ble args.length fx175.fn.ntmps = true ∧ yFn Tryz.prog fx175 C lf args h = some r := by
  rcases args with _ | ⟨a0, _ | ⟨a1, _ | ⟨a2, _ | ⟨a3, _ | ⟨_, _⟩⟩⟩⟩⟩ <;> first | (cases e; done) | exact ⟨by kernel_rfl, (fs175_eq ..).trans e⟩
noncomputable def fy175 : YX Tryz.prog := ⟨fx175, ft175, ft175_eq⟩

/-! FN 176 (*tinsel/inode.Table).Hold -/
noncomputable def fx176 : XF Tryz.prog := { f := 176, fn := Tryz.f176, ord := fun _ => .text, isFn := Tryz.func176, isBody := by kernel_rfl, isPlain := by kernel_rfl, isSmall := by kernel_rfl, isOK := by kernel_rfl }
noncomputable def fb176 : Code := Tryz.f176.body.getD .skip
noncomputable def fn176 : Nat := Tryz.f176.ntmps
noncomputable abbrev ev176 (C : YC) (lf : Nat) (p : List Nat) := evY Tryz.prog C fn176 fx176.ord lf (sub fb176 p)
noncomputable def ff176 (x4 : O) (h : HW) : Rs :=
 ob x4 fun a0 =>
 some (.ret a0, h)
noncomputable def q176_14 (C : YC) (lf : Nat) (r : K1) (x0 x1 : O) (h : HW) : Rs :=
 ob x0 fun a1 =>
 ob x1 fun a2 =>
 bc (C (.fn 206) [a1, a2] h) fun y3 h3 =>
 ob (ext 0 y3) fun y4 =>
 ob (ext 1 y3) fun y5 =>
 ob (bin Tryz.prog .neq 23 y5 (.int .i64 0)) fun y6 =>
 yIf y6
 (r (some y5) h3)
 (ob (semNil y4) fun y7 =>
 ob (fa 11 y7) fun y8 =>
 ob (ld1 y8 h3) fun y9 =>
 ob (bin Tryz.prog .add 3 y9 (.int .i64 1)) fun y10 =>
 ob (semNil y4) fun y11 =>
 ob (fa 11 y11) fun y12 =>
 ob (st 1 y12 y10 h3) fun h13 =>
 r (some (.int .i64 0)) h13)
theorem q176_14_eq (C : YC) (lf : Nat) (r : K1) (KN : KF) (KE : KX) : ∀ F h, ev176 C lf [] F h KN (fun F h => r (F 4) h) KE = q176_14 C lf r (F 0) (F 1) h := by
  intro F h; kernel_rfl
noncomputable def fs176 (C : YC) (lf : Nat) (a0 a1 : SV) (h : HW) : Rs := q176_14 C lf ff176 (some a0) (some a1) h
theorem fs176_eq (C : YC) (lf : Nat) (a0 a1 : SV) (h : HW) : yFn Tryz.prog fx176 C lf [a0, a1] h = fs176 C lf a0 a1 h :=
  fnOf (K := (fun F h => ff176 (F 4) h)) (b := fb176) (N := fn176) (by kernel_rfl) (by kernel_rfl) (by kernel_rfl) (((q176_14_eq C lf ff176 (fun F h => ff176 (F 4) h) (fun _ _ _ => none)) (frOf [a0, a1]) h).trans (by kernel_rfl))
noncomputable def ft176 (C : YC) (lf : Nat) (args : List SV) (h : HW) : Rs := match args with | [a0, a1] => fs176 C lf a0 a1 h | _ => none
theorem ft176_eq (C : YC) (lf : Nat) (args : List SV) (h : HW) (r : Out × HW) (e : ft176 C lf args h = some r) : Nat.ble args.length fx176.fn.ntmps = true ∧ yFn Tryz.prog fx176 C lf args h = some r := by
  rcases args with _ | ⟨a0, _ | ⟨a1, _ | ⟨_, _⟩⟩⟩ <;> first | (cases e; done) | exact ⟨by kernel_rfl, (fs176_eq ..).trans e⟩
noncomputable def fy176 : YX Tryz.prog := ⟨fx176, ft176, ft176_eq⟩

/-! FN 178 tinsel/dir.Find -/
noncomputable def fx178 : XF Tryz.prog := { f := 178, fn := Tryz.f178, ord := fun _ => .text, isFn := Tryz.func178, isBody := by kernel_rfl, isPlain := by kernel_rfl, isSmall := by kernel_rfl, isOK := by kernel_rfl }
noncomputable def fb178 : Code := Tryz.f178.body.getD .skip
noncomputable def fn178 : Nat := Tryz.f178.ntmps
noncomputable abbrev ev178 (C : YC) (lf : Nat) (p : List Nat) := evY Tryz.prog C fn178 fx178.ord lf (sub fb178 p)
noncomputable def ff178 (x6 x7 : O) (h : HW) : Rs :=
 ob x6 fun a0 =>
 ob x7 fun a1 =>
 some (.ret (.tup [a0, a1]), h)
noncomputable def q178_16 (C : YC) (lf : Nat) (r : K2) (x0 x1 x2 : O) (h : HW) : Rs :=
 ob x0 fun a2 =>
 ob x1 fun a3 =>
 ob x2 fun a4 =>
 bc (C (.fn 247) [a2, a3, a4] h) fun y5 h5 =>
 ob (bin Tryz.prog .neq 23 y5 (.int .i64 0)) fun y6 =>
 yIf y6
 (r (some (.int .i64 0)) (some y5) h5)
 (ob x0 fun a7 =>
 ob x1 fun a8 =>
 bc (C (.fn 248) [a7, a8] h5) fun y9 h9 =>
 ob x2 fun a10 =>
 bc (C (.fn 249) [y9, a10] h9) fun y11 h11 =>
 ob (bin Tryz.prog .lss 3 y11 (.int .i64 0)) fun y12 =>
 yIf y12
 (r (some (.int .i64 0)) (some (.int .i64 2)) h11)
 (ob (ixS 32 y9 y11) fun y13 =>
 ob (ldN 32 y13 h11) fun y14 =>
 bc (C (.fn 250) [y14] h11) fun y15 h15 =>
 r (some y15) (some (.int .i64 0)) h15))
theorem q178_16_eq (C : YC) (lf : Nat) (r : K2) (KN : KF) (KE : KX) : ∀ F h, ev178 C lf [] F h KN (fun F h => r (F 6) (F 7) h) KE = q178_16 C lf r (F 0) (F 1) (F 2) h := by
  intro F h; kernel_rfl
noncomputable def fs178 (C : YC) (lf : Nat) (a0 a1 a2 : SV) (h : HW) : Rs := q178_16 C lf ff178 (some a0) (some a1) (some a2) h
theorem fs178_eq (C : YC) (lf : Nat) (a0 a1 a2 : SV) (h : HW) : yFn Tryz.prog fx178 C lf [a0, a1, a2] h = fs178 C lf a0 a1 a2 h :=
  fnOf (K := (fun F h => ff178 (F 6) (F 7) h)) (b := fb178) (N := fn178) (by kernel_rfl) (by kernel_rfl) (by kernel_rfl) (((q178_16_eq C lf ff178 (fun F h => ff178 (F 6) (F 7) h) (fun _ _ _ => none)) (frOf [a0, a1, a2]) h).trans (by kernel_rfl))
noncomputable def ft178 (C : YC) (lf : Nat) (args : List SV) (h : HW) : Rs := match args with | [a0, a1, a2] => fs178 C lf a0 a1 a2 h | _ => none
theorem ft178_eq (C : YC) (lf : Nat) (args : List SV) (h : HW) (r : Out × HW) (e : ft178 C lf args h = some r) : Nat.ble args.length fx178.fn.ntmps = true ∧ yFn Tryz.prog fx178 C lf args h = some r := by
  rcases args with _ | ⟨a0, _ | ⟨a1, _ | ⟨a2, _ | ⟨_, _⟩⟩⟩⟩ <;> first | (cases e; done) | exact ⟨by kernel_rfl, (fs178_eq ..).trans e⟩
noncomputable def fy178 : YX Tryz.prog := ⟨fx178, ft178, ft178_eq⟩

/-! FN 181 (*tinsel/tree.FS).is -/
noncomputable def fx181 : XF Tryz.prog := { f := 181, fn := Tryz.f181, ord := fun _ => .text, isFn := Tryz.func181, isBody := by kernel_rfl, isPlain := by kernel_rfl, isSmall := by kernel_rfl, isOK := by kernel_rfl }
noncomputable def fb181 : Code := Tryz.f181.body.getD .skip
noncomputable def fn181 : Nat := Tryz.f181.ntmps
noncomputable abbrev ev181 (C : YC) (lf : Nat) (p : List Nat) := evY Tryz.prog C fn181 fx181.ord lf (sub fb181 p)
noncomputable def ff181 (x2 : O) (h : HW) : Rs :=
 ob x2 fun a0 =>
 some (.ret a0, h)
noncomputable def q181_14 (C : YC) (lf : Nat) (r : K1) (x0 : O) (h : HW) : Rs :=
 ob x0 fun a1 =>
 ob (bin Tryz.prog .neq 43 a1 (.val (.pointer none))) fun y2 =>
 bc (gd true (some y2) (ob x0 fun a3 =>
 some (.ret a3, h)) h) fun y4 h4 =>
 bc (gd true (some y2) (ob (semNil y4) fun y5 =>
 some (.ret y5, h4)) h4) fun y6 h6 =>
 bc (gd true (some y2) (ob (fa 0 y6) fun y7 =>
 some (.ret y7, h6)) h6) fun y8 h8 =>
 bc (gd true (some y2) (ob (ld1 y8 h8) fun y9 =>
 some (.ret y9, h8)) h8) fun y10 h10 =>
 bc (gd true (some y2) (ob (bin Tryz.prog .neq 213 y10 (.val (.pointer none))) fun y11 =>
 some (.ret y11, h10)) h10) fun y12 h12 =>
 ob (ypk y2 y12 (.bool false)) fun y13 =>
 r (some y13) h12
theorem q181_14_eq (C : YC) (lf : Nat) (r : K1) (KN : KF) (KE : KX) : ∀ F h, ev181 C lf [] F h KN (fun F h => r (F 2) h) KE = q181_14 C lf r (F 0) h := by
  intro F h; kernel_rfl
noncomputable def fs181 (C : YC) (lf : Nat) (a0 : SV) (h : HW) : Rs := q181_14 C lf ff181 (some a0) h
theorem fs181_eq (C : YC) (lf : Nat) (a0 : SV) (h : HW) : yFn Tryz.prog fx181 C lf [a0] h = fs181 C lf a0 h :=
  fnOf (K := (fun F h => ff181 (F 2) h)) (b := fb181) (N := fn181) (by kernel_rfl) (by kernel_rfl) (by kernel_rfl) (((q181_14_eq C lf ff181 (fun F h => ff181 (F 2) h) (fun _ _ _ => none)) (frOf [a0]) h).trans (by kernel_rfl))
noncomputable def ft181 (C : YC) (lf : Nat) (args : List SV) (h : HW) : Rs := match args with | [a0] => fs181 C lf a0 h | _ => none
theorem ft181_eq (C : YC) (lf : Nat) (args : List SV) (h : HW) (r : Out × HW) (e : ft181 C lf args h = some r) : Nat.ble args.length fx181.fn.ntmps = true ∧ yFn Tryz.prog fx181 C lf args h = some r := by
  rcases args with _ | ⟨a0, _ | ⟨_, _⟩⟩ <;> first | (cases e; done) | exact ⟨by kernel_rfl, (fs181_eq ..).trans e⟩
noncomputable def fy181 : YX Tryz.prog := ⟨fx181, ft181, ft181_eq⟩

/-! EV 183 (*tinsel/inode.Table).Used: rangeFunc -/
noncomputable def fx183 : XF Tryz.prog := { f := 183, fn := Tryz.f183, ord := fun _ => .text, isFn := Tryz.func183, isBody := by kernel_rfl, isPlain := by kernel_rfl, isSmall := by kernel_rfl, isOK := by kernel_rfl }

/-! FN 184 (*tinsel/inode.Table).Stat -/
noncomputable def fx184 : XF Tryz.prog := { f := 184, fn := Tryz.f184, ord := fun _ => .text, isFn := Tryz.func184, isBody := by kernel_rfl, isPlain := by kernel_rfl, isSmall := by kernel_rfl, isOK := by kernel_rfl }
noncomputable def fb184 : Code := Tryz.f184.body.getD .skip
noncomputable def fn184 : Nat := Tryz.f184.ntmps
noncomputable abbrev ev184 (C : YC) (lf : Nat) (p : List Nat) := evY Tryz.prog C fn184 fx184.ord lf (sub fb184 p)
noncomputable def ff184 (x4 x5 : O) (h : HW) : Rs :=
 ob x4 fun a0 =>
 ob (ldN 10 a0 h) fun y1 =>
 ob x5 fun a2 =>
 some (.ret (.tup [y1, a2]), h)
noncomputable def q184_23 (C : YC) (lf : Nat) (r : K2) (x0 x1 : O) (h : HW) : Rs :=
 b2 (yAl Tryz.prog 58 h) fun y3 h3 =>
 ob x0 fun a4 =>
 ob x1 fun a5 =>
 bc (C (.fn 206) [a4, a5] h3) fun y6 h6 =>
 ob (ext 0 y6) fun y7 =>
 ob (ext 1 y6) fun y8 =>
 ob (bin Tryz.prog .neq 23 y8 (.int .i64 0)) fun y9 =>
 yIf y9
 (ob (semBuild Tryz.prog 58 [] []) fun y10 =>
 ob (st 10 y3 y10 h6) fun h11 =>
 r (some y3) (some y8) h11)
 (ob (semNil y7) fun y12 =>
 ob (fa 1 y12) fun y13 =>
 ob (ldN 10 y13 h6) fun y14 =>
 b2 (yAl Tryz.prog 58 h6) fun y15 h15 =>
 ob (st 10 y15 y14 h15) fun h16 =>
 bc (C (.fn 256) [y7] h16) fun y17 h17 =>
 ob (lenE Tryz.prog 44 y17) fun y18 =>
 ob (fa 5 y15) fun y19 =>
 ob (st 1 y19 y18 h17) fun h20 =>
 ob (ldN 10 y15 h20) fun y21 =>
 ob (st 10 y3 y21 h20) fun h22 =>
 r (some y3) (some (.int .i64 0)) h22)
theorem q184_23_eq (C : YC) (lf : Nat) (r : K2) (KN : KF) (KE : KX) : ∀ F h, ev184 C lf [] F h KN (fun F h => r (F 4) (F 5) h) KE = q184_23 C lf r (F 0) (F 1) h := by
  intro F h; kernel_rfl
noncomputable def fs184 (C : YC) (lf : Nat) (a0 a1 : SV) (h : HW) : Rs := q184_23 C lf ff184 (some a0) (some a1) h
theorem fs184_eq (C : YC) (lf : Nat) (a0 a1 : SV) (h : HW) : yFn Tryz.prog fx184 C lf [a0, a1] h = fs184 C lf a0 a1 h :=
  fnOf (K := (fun F h => ff184 (F 4) (F 5) h)) (b := fb184) (N := fn184) (by kernel_rfl) (by kernel_rfl) (by kernel_rfl) (((q184_23_eq C lf ff184 (fun F h => ff184 (F 4) (F 5) h) (fun _ _ _ => none)) (frOf [a0, a1]) h).trans (by kernel_rfl))
noncomputable def ft184 (C : YC) (lf : Nat) (args : List SV) (h : HW) : Rs := match args with | [a0, a1] => fs184 C lf a0 a1 h | _ => none
theorem ft184_eq (C : YC) (lf : Nat) (args : List SV) (h : HW) (r : Out × HW) (e : ft184 C lf args h = some r) : Nat.ble args.length fx184.fn.ntmps = true ∧ yFn Tryz.prog fx184 C lf args h = some r := by
  rcases args with _ | ⟨a0, _ | ⟨a1, _ | ⟨_, _⟩⟩⟩ <;> first | (cases e; done) | exact ⟨by kernel_rfl, (fs184_eq ..).trans e⟩
noncomputable def fy184 : YX Tryz.prog := ⟨fx184, ft184, ft184_eq⟩

/-! FN 186 (*tinsel/tree.FS).WriteAt -/
noncomputable def fx186 : XF Tryz.prog := { f := 186, fn := Tryz.f186, ord := fun _ => .text, isFn := Tryz.func186, isBody := by kernel_rfl, isPlain := by kernel_rfl, isSmall := by kernel_rfl, isOK := by kernel_rfl }
noncomputable def fb186 : Code := Tryz.f186.body.getD .skip
noncomputable def fn186 : Nat := Tryz.f186.ntmps
noncomputable abbrev ev186 (C : YC) (lf : Nat) (p : List Nat) := evY Tryz.prog C fn186 fx186.ord lf (sub fb186 p)
noncomputable def ff186 (x8 x9 : O) (h : HW) : Rs :=
 ob x8 fun a0 =>
 ob x9 fun a1 =>
 some (.ret (.tup [a0, a1]), h)
noncomputable def q186_16 (C : YC) (lf : Nat) (r : K2) (x0 x1 x2 x3 : O) (h : HW) : Rs :=
 ob x0 fun a2 =>
 ob x1 fun a3 =>
 bc (C (.fn 264) [a2, a3] h) fun y4 h4 =>
 ob (bin Tryz.prog .neq 23 y4 (.int .i64 0)) fun y5 =>
 yIf y5
 (r (some (.int .i64 0)) (some y4) h4)
 (ob x0 fun a6 =>
 ob (semNil a6) fun y7 =>
 ob (fa 0 y7) fun y8 =>
 ob (ld1 y8 h4) fun y9 =>
 ob x1 fun a10 =>
 ob x2 fun a11 =>
 ob x3 fun a12 =>
 bc (C (.fn 154) [y9, a10, a11, a12] h4) fun y13 h13 =>
 ob (ext 0 y13) fun y14 =>
 ob (ext 1 y13) fun y15 =>
 r (some y14) (some y15) h13)
theorem q186_16_eq (C : YC) (lf : Nat) (r : K2) (KN : KF) (KE : KX) : ∀ F h, ev186 C lf [] F h KN (fun F h => r (F 8) (F 9) h) KE = q186_16 C lf r (F 0) (F 1) (F 2) (F 3) h := by
  intro F h; kernel_rfl
noncomputable def fs186 (C : YC) (lf : Nat) (a0 a1 a2 a3 : SV) (h : HW) : Rs := q186_16 C lf ff186 (some a0) (some a1) (some a2) (some a3) h
theorem fs186_eq (C : YC) (lf : Nat) (a0 a1 a2 a3 : SV) (h : HW) : yFn Tryz.prog fx186 C lf [a0, a1, a2, a3] h = fs186 C lf a0 a1 a2 a3 h :=
  fnOf (K := (fun F h => ff186 (F 8) (F 9) h)) (b := fb186) (N := fn186) (by kernel_rfl) (by kernel_rfl) (by kernel_rfl) (((q186_16_eq C lf ff186 (fun F h => ff186 (F 8) (F 9) h) (fun _ _ _ => none)) (frOf [a0, a1, a2, a3]) h).trans (by kernel_rfl))
noncomputable def ft186 (C : YC) (lf : Nat) (args : List SV) (h : HW) : Rs := match args with | [a0, a1, a2, a3] => fs186 C lf a0 a1 a2 a3 h | _ => none
theorem ft186_eq (C : YC) (lf : Nat) (args : List SV) (h : HW) (r : Out × HW) (e : ft186 C lf args h = some r) : Nat.ble args.length fx186.fn.ntmps = true ∧ yFn Tryz.prog fx186 C lf args h = some r := by
  rcases args with _ | ⟨a0, _ | ⟨a1, _ | ⟨a2, _ | ⟨a3, _ | ⟨_, _⟩⟩⟩⟩⟩ <;> first | (cases e; done) | exact ⟨by kernel_rfl, (fs186_eq ..).trans e⟩
noncomputable def fy186 : YX Tryz.prog := ⟨fx186, ft186, ft186_eq⟩

/-! FN 201 tinsel/blocks.New -/
noncomputable def fx201 : XF Tryz.prog := { f := 201, fn := Tryz.f201, ord := fun _ => .text, isFn := Tryz.func201, isBody := by kernel_rfl, isPlain := by kernel_rfl, isSmall := by kernel_rfl, isOK := by kernel_rfl }
noncomputable def fb201 : Code := Tryz.f201.body.getD .skip
noncomputable def fn201 : Nat := Tryz.f201.ntmps
noncomputable abbrev ev201 (C : YC) (lf : Nat) (p : List Nat) := evY Tryz.prog C fn201 fx201.ord lf (sub fb201 p)
noncomputable def ff201 (x2 x3 : O) (h : HW) : Rs :=
 ob x2 fun a0 =>
 ob x3 fun a1 =>
 some (.ret (.tup [a0, a1]), h)
noncomputable def q201_14 (C : YC) (lf : Nat) (r : K2) (x0 : O) (h : HW) : Rs :=
 ob x0 fun a2 =>
 ob (bin Tryz.prog .lss 3 a2 (.int .i64 1)) fun y3 =>
 bc (gd false (some y3) (ob x0 fun a4 =>
 some (.ret a4, h)) h) fun y5 h5 =>
 bc (gd false (some y3) (ob (bin Tryz.prog .gtr 3 y5 (.int .i64 4096)) fun y6 =>
 some (.ret y6, h5)) h5) fun y7 h7 =>
 ob (ypk y3 (.bool true) y7) fun y8 =>
 yIf y8
 (r (some (.val (.pointer none))) (some (.int .i64 22)) h7)
 (ob x0 fun a9 =>
 ob x0 fun a10 =>
 b2 (ymk Tryz.prog 371 a10 a10 h7) fun y11 h11 =>
 ob (semBuild Tryz.prog 375 [0, 2] [a9, y11]) fun y12 =>
 b2 (ybx 375 y12 h11) fun y13 h13 =>
 r (some y13) (some (.int .i64 0)) h13)
theorem q201_14_eq (C : YC) (lf : Nat) (r : K2) (KN : KF) (KE : KX) : ∀ F h, ev201 C lf [] F h KN (fun F h => r (F 2) (F 3) h) KE = q201_14 C lf r (F 0) h := by
  intro F h; kernel_rfl
noncomputable def fs201 (C : YC) (lf : Nat) (a0 : SV) (h : HW) : Rs := q201_14 C lf ff201 (some a0) h
theorem fs201_eq (C : YC) (lf : Nat) (a0 : SV) (h : HW) : yFn Tryz.prog fx201 C lf [a0] h = fs201 C lf a0 h :=
  fnOf (K := (fun F h => ff201 (F 2) (F 3) h)) (b := fb201) (N := fn201) (by kernel_rfl) (by kernel_rfl) (by kernel_rfl) (((q201_14_eq C lf ff201 (fun F h => ff201 (F 2) (F 3) h) (fun _ _ _ => none)) (frOf [a0]) h).trans (by kernel_rfl))
noncomputable def ft201 (C : YC) (lf : Nat) (args : List SV) (h : HW) : Rs := match args with | [a0] => fs201 C lf a0 h | _ => none
theorem ft201_eq (C : YC) (lf : Nat) (args : List SV) (h : HW) (r : Out × HW) (e : ft201 C lf args h = some r) : Nat.ble args.length fx201.fn.ntmps = true ∧ yFn Tryz.prog fx201 C lf args h = some r := by
  rcases args with _ | ⟨a0, _ | ⟨_, _⟩⟩ <;> first | (cases e; done) | exact ⟨by kernel_rfl, (fs201_eq ..).trans e⟩
noncomputable def fy201 : YX Tryz.prog := ⟨fx201, ft201, ft201_eq⟩

/-! FN 202 (*tinsel/inode.Table).is -/
noncomputable def fx202 : XF Tryz.prog := { f := 202, fn := Tryz.f202, ord := fun _ => .text, isFn := Tryz.func202, isBody := by kernel_rfl, isPlain := by kernel_rfl, isSmall := by kernel_rfl, isOK := by kernel_rfl }
noncomputable def fb202 : Code := Tryz.f202.body.getD .skip
noncomputable def fn202 : Nat := Tryz.f202.ntmps
noncomputable abbrev ev202 (C : YC) (lf : Nat) (p : List Nat) := evY Tryz.prog C fn202 fx202.ord lf (sub fb202 p)
noncomputable def ff202 (x2 : O) (h : HW) : Rs :=
 ob x2 fun a0 =>
 some (.ret a0, h)
noncomputable def q202_14 (C : YC) (lf : Nat) (r : K1) (x0 : O) (h : HW) : Rs :=
 ob x0 fun a1 =>
 ob (bin Tryz.prog .neq 213 a1 (.val (.pointer none))) fun y2 =>
 bc (gd true (some y2) (ob x0 fun a3 =>
 some (.ret a3, h)) h) fun y4 h4 =>
 bc (gd true (some y2) (ob (semNil y4) fun y5 =>
 some (.ret y5, h4)) h4) fun y6 h6 =>
 bc (gd true (some y2) (ob (fa 0 y6) fun y7 =>
 some (.ret y7, h6)) h6) fun y8 h8 =>
 bc (gd true (some y2) (ob (ld1 y8 h8) fun y9 =>
 some (.ret y9, h8)) h8) fun y10 h10 =>
 bc (gd true (some y2) (ob (bin Tryz.prog .neq 277 y10 (.val (.pointer none))) fun y11 =>
 some (.ret y11, h10)) h10) fun y12 h12 =>
 ob (ypk y2 y12 (.bool false)) fun y13 =>
 r (some y13) h12
theorem q202_14_eq (C : YC) (lf : Nat) (r : K1) (KN : KF) (KE : KX) : ∀ F h, ev202 C lf [] F h KN (fun F h => r (F 2) h) KE = q202_14 C lf r (F 0) h := by
  intro F h; kernel_rfl
noncomputable def fs202 (C : YC) (lf : Nat) (a0 : SV) (h : HW) : Rs := q202_14 C lf ff202 (some a0) h
theorem fs202_eq (C : YC) (lf : Nat) (a0 : SV) (h : HW) : yFn Tryz.prog fx202 C lf [a0] h = fs202 C lf a0 h :=
  fnOf (K := (fun F h => ff202 (F 2) h)) (b := fb202) (N := fn202) (by kernel_rfl) (by kernel_rfl) (by kernel_rfl) (((q202_14_eq C lf ff202 (fun F h => ff202 (F 2) h) (fun _ _ _ => none)) (frOf [a0]) h).trans (by kernel_rfl))
noncomputable def ft202 (C : YC) (lf : Nat) (args : List SV) (h : HW) : Rs := match args with | [a0] => fs202 C lf a0 h | _ => none
theorem ft202_eq (C : YC) (lf : Nat) (args : List SV) (h : HW) (r : Out × HW) (e : ft202 C lf args h = some r) : Nat.ble args.length fx202.fn.ntmps = true ∧ yFn Tryz.prog fx202 C lf args h = some r := by
  rcases args with _ | ⟨a0, _ | ⟨_, _⟩⟩ <;> first | (cases e; done) | exact ⟨by kernel_rfl, (fs202_eq ..).trans e⟩
noncomputable def fy202 : YX Tryz.prog := ⟨fx202, ft202, ft202_eq⟩

/-! FN 203 tinsel/dir.check -/
noncomputable def fx203 : XF Tryz.prog := { f := 203, fn := Tryz.f203, ord := fun _ => .text, isFn := Tryz.func203, isBody := by kernel_rfl, isPlain := by kernel_rfl, isSmall := by kernel_rfl, isOK := by kernel_rfl }
noncomputable def fb203 : Code := Tryz.f203.body.getD .skip
noncomputable def fn203 : Nat := Tryz.f203.ntmps
noncomputable abbrev ev203 (C : YC) (lf : Nat) (p : List Nat) := evY Tryz.prog C fn203 fx203.ord lf (sub fb203 p)
noncomputable def ff203 (x4 : O) (h : HW) : Rs :=
 ob x4 fun a0 =>
 some (.ret a0, h)
noncomputable def q203_13 (C : YC) (lf : Nat) (r : K1) (x0 x1 : O) (h : HW) : Rs :=
 ob x0 fun a1 =>
 ob x1 fun a2 =>
 bc (C (.fn 184) [a1, a2] h) fun y3 h3 =>
 ob (ext 0 y3) fun y4 =>
 ob (ext 1 y3) fun y5 =>
 b2 (yAl Tryz.prog 58 h3) fun y6 h6 =>
 ob (st 10 y6 y4 h6) fun h7 =>
 ob (bin Tryz.prog .neq 23 y5 (.int .i64 0)) fun y8 =>
 yIf y8
 (r (some y5) h7)
 (ob (fa 6 y6) fun y9 =>
 ob (ld1 y9 h7) fun y10 =>
 ob (bin Tryz.prog .and 30 y10 (.int .i64 61440)) fun y11 =>
 ob (bin Tryz.prog .neq 30 y11 (.int .i64 16384)) fun y12 =>
 yIf y12
 (r (some (.int .i64 20)) h7)
 (r (some (.int .i64 0)) h7))
theorem q203_13_eq (C : YC) (lf : Nat) (r : K1) (KN : KF) (KE : KX) : ∀ F h, ev203 C lf [] F h KN (fun F h => r (F 4) h) KE = q203_13 C lf r (F 0) (F 1) h := by
  intro F h; kernel_rfl
noncomputable def fs203 (C : YC) (lf : Nat) (a0 a1 : SV) (h : HW) : Rs := q203_13 C lf ff203 (some a0) (some a1) h
theorem fs203_eq (C : YC) (lf : Nat) (a0 a1 : SV) (h : HW) : yFn Tryz.prog fx203 C lf [a0, a1] h = fs203 C lf a0 a1 h :=
  fnOf (K := (fun F h => ff203 (F 4) h)) (b := fb203) (N := fn203) (by kernel_rfl) (by kernel_rfl) (by kernel_rfl) (((q203_13_eq C lf ff203 (fun F h => ff203 (F 4) h) (fun _ _ _ => none)) (frOf [a0, a1]) h).trans (by kernel_rfl))
noncomputable def ft203 (C : YC) (lf : Nat) (args : List SV) (h : HW) : Rs := match args with | [a0, a1] => fs203 C lf a0 a1 h | _ => none
theorem ft203_eq (C : YC) (lf : Nat) (args : List SV) (h : HW) (r : Out × HW) (e : ft203 C lf args h = some r) : Nat.ble args.length fx203.fn.ntmps = true ∧ yFn Tryz.prog fx203 C lf args h = some r := by
  rcases args with _ | ⟨a0, _ | ⟨a1, _ | ⟨_, _⟩⟩⟩ <;> first | (cases e; done) | exact ⟨by kernel_rfl, (fs203_eq ..).trans e⟩
noncomputable def fy203 : YX Tryz.prog := ⟨fx203, ft203, ft203_eq⟩

/-! FN 204 (*tinsel/inode.Table).Is -/
noncomputable def fx204 : XF Tryz.prog := { f := 204, fn := Tryz.f204, ord := fun _ => .text, isFn := Tryz.func204, isBody := by kernel_rfl, isPlain := by kernel_rfl, isSmall := by kernel_rfl, isOK := by kernel_rfl }
noncomputable def fb204 : Code := Tryz.f204.body.getD .skip
noncomputable def fn204 : Nat := Tryz.f204.ntmps
noncomputable abbrev ev204 (C : YC) (lf : Nat) (p : List Nat) := evY Tryz.prog C fn204 fx204.ord lf (sub fb204 p)
noncomputable def ff204 (x4 : O) (h : HW) : Rs :=
 ob x4 fun a0 =>
 some (.ret a0, h)
noncomputable def q204_42 (C : YC) (lf : Nat) (r : K1) (x0 x1 : O) (h : HW) : Rs :=
 ob x0 fun a1 =>
 bc (C (.fn 202) [a1] h) fun y2 h2 =>
 bc (gd true (some y2) (ob x1 fun a3 =>
 some (.ret a3, h2)) h2) fun y4 h4 =>
 bc (gd true (some y2) (ob (bin Tryz.prog .geq 3 y4 (.int .i64 1)) fun y5 =>
 some (.ret y5, h4)) h4) fun y6 h6 =>
 ob (ypk y2 y6 (.bool false)) fun y7 =>
 bc (gd true (some y7) (ob x1 fun a8 =>
 some (.ret a8, h6)) h6) fun y9 h9 =>
 bc (gd true (some y7) (ob x0 fun a10 =>
 some (.ret a10, h9)) h9) fun y11 h11 =>
 bc (gd true (some y7) (ob (semNil y11) fun y12 =>
 some (.ret y12, h11)) h11) fun y13 h13 =>
 bc (gd true (some y7) (ob (fa 1 y13) fun y14 =>
 some (.ret y14, h13)) h13) fun y15 h15 =>
 bc (gd true (some y7) (ob (ld1 y15 h15) fun y16 =>
 some (.ret y16, h15)) h15) fun y17 h17 =>
 bc (gd true (some y7) (ob (lenE Tryz.prog 280 y17) fun y18 =>
 some (.ret y18, h17)) h17) fun y19 h19 =>
 bc (gd true (some y7) (ob (bin Tryz.prog .leq 3 y9 y19) fun y20 =>
 some (.ret y20, h19)) h19) fun y21 h21 =>
 ob (ypk y7 y21 (.bool false)) fun y22 =>
 bc (gd true (some y22) (ob x0 fun a23 =>
 some (.ret a23, h21)) h21) fun y24 h24 =>
 bc (gd true (some y22) (ob (semNil y24) fun y25 =>
 some (.ret y25, h24)) h24) fun y26 h26 =>
 bc (gd true (some y22) (ob (fa 1 y26) fun y27 =>
 some (.ret y27, h26)) h26) fun y28 h28 =>
 bc (gd true (some y22) (ob (ld1 y28 h28) fun y29 =>
 some (.ret y29, h28)) h28) fun y30 h30 =>
 bc (gd true (some y22) (ob x1 fun a31 =>
 some (.ret a31, h30)) h30) fun y32 h32 =>
 bc (gd true (some y22) (ob (bin Tryz.prog .sub 3 y32 (.int .i64 1)) fun y33 =>
 some (.ret y33, h32)) h32) fun y34 h34 =>
 bc (gd true (some y22) (ob (ixS 308 y30 y34) fun y35 =>
 some (.ret y35, h34)) h34) fun y36 h36 =>
 bc (gd true (some y22) (ob (fa 0 y36) fun y37 =>
 some (.ret y37, h36)) h36) fun y38 h38 =>
 bc (gd true (some y22) (ob (ld1 y38 h38) fun y39 =>
 some (.ret y39, h38)) h38) fun y40 h40 =>
 ob (ypk y22 y40 (.bool false)) fun y41 =>
 r (some y41) h40
theorem q204_42_eq (C : YC) (lf : Nat) (r : K1) (KN : KF) (KE : KX) : ∀ F h, ev204 C lf [] F h KN (fun F h => r (F 4) h) KE = q204_42 C lf r (F 0) (F 1) h := by
  intro F h; kernel_rfl
noncomputable def fs204 (C : YC) (lf : Nat) (a0 a1 : SV) (h : HW) : Rs := q204_42 C lf ff204 (some a0) (some a1) h
theorem fs204_eq (C : YC) (lf : Nat) (a0 a1 : SV) (h : HW) : yFn Tryz.prog fx204 C lf [a0, a1] h = fs204 C lf a0 a1 h :=
  fnOf (K := (fun F h => ff204 (F 4) h)) (b := fb204) (N := fn204) (by kernel_rfl) (by kernel_rfl) (by kernel_rfl) (((q204_42_eq C lf ff204 (fun F h => ff204 (F 4) h) (fun _ _ _ => none)) (frOf [a0, a1]) h).trans (by kernel_rfl))
noncomputable def ft204 (C : YC) (lf : Nat) (args : List SV) (h : HW) : Rs := match args with | [a0, a1] => fs204 C lf a0 a1 h | _ => none
theorem ft204_eq (C : YC) (lf : Nat) (args : List SV) (h : HW) (r : Out × HW) (e : ft204 C lf args h = some r) : Nat.ble args.length fx204.fn.ntmps = true ∧ yFn Tryz.prog fx204 C lf args h = some r := by
  rcases args with _ | ⟨a0, _ | ⟨a1, _ | ⟨_, _⟩⟩⟩ <;> first | (cases e; done) | exact ⟨by kernel_rfl, (fs204_eq ..).trans e⟩
noncomputable def fy204 : YX Tryz.prog := ⟨fx204, ft204, ft204_eq⟩

/-! FN 205 tinsel/dir.of -/
noncomputable def fx205 : XF Tryz.prog := { f := 205, fn := Tryz.f205, ord := fun _ => .text, isFn := Tryz.func205, isBody := by kernel_rfl, isPlain := by kernel_rfl, isSmall := by kernel_rfl, isOK := by kernel_rfl }
noncomputable def fb205 : Code := Tryz.f205.body.getD .skip
noncomputable def fn205 : Nat := Tryz.f205.ntmps
noncomputable abbrev ev205 (C : YC) (lf : Nat) (p : List Nat) := evY Tryz.prog C fn205 fx205.ord lf (sub fb205 p)
noncomputable def ff205 (x4 : O) (h : HW) : Rs :=
 ob x4 fun a0 =>
 ob (ldN 32 a0 h) fun y1 =>
 some (.ret y1, h)
noncomputable def q205_10 (C : YC) (lf : Nat) (r : K1) (x0 x4 x5 : O) (h : HW) : Rs :=
 ob x5 fun a2 =>
 ob (semSlice Tryz.prog 292 a2 (some (.int .i64 4)) none) fun y3 =>
 ob x0 fun a4 =>
 b2 (ybl Tryz.prog .copy #[31, 9] [y3, a4] h) fun y5 h5 =>
 ob x5 fun a6 =>
 ob (ldN 32 a6 h5) fun y7 =>
 ob x4 fun a8 =>
 ob (st 32 a8 y7 h5) fun h9 =>
 r x4 h9
theorem q205_10_eq (C : YC) (lf : Nat) (r : K1) (KN : KF) (KE : KX) : ∀ F h, ev205 C lf [1, 1, 1] F h KN (fun F h => r (F 4) h) KE = q205_10 C lf r (F 0) (F 4) (F 5) h := by
  intro F h; kernel_rfl
noncomputable def q205_24 (C : YC) (lf : Nat) (n : K5) (e0 : K3) (x0 x1 x4 x5 x7 : O) (h : HW) : Rs :=
 ob x7 fun a12 =>
 ob (bin Tryz.prog .lss 3 a12 (.int .i64 4)) fun y13 =>
 yIf y13
 (ob x7 fun a14 =>
 ob x1 fun a15 =>
 ob (bin Tryz.prog .mul 3 (.int .i64 8) a14) fun y16 =>
 ob (bin Tryz.prog .shr 3 a15 y16) fun y17 =>
 ob (cvI .u8 y17) fun y18 =>
 ob x5 fun a19 =>
 ob (ixA 32 1 a19 a14) fun y20 =>
 ob (st 1 y20 y18 h) fun h21 =>
 ob x7 fun a22 =>
 ob (bin Tryz.prog .add 3 a22 (.int .i64 1)) fun y23 =>
 n x0 x1 x4 x5 (some y23) h21)
 (e0 x0 x4 x5 h)
theorem q205_24_eq (C : YC) (lf : Nat) (n : K5) (e0 : K3) (KR : KF) (KE : KX) : ∀ F h, ev205 C lf [1, 1, 0, 1, 0, 0] F h (fun F h => n (F 0) (F 1) (F 4) (F 5) (F 7) h) KR (bk 0 (fun F h => e0 (F 0) (F 4) (F 5) h) KE) = q205_24 C lf n e0 (F 0) (F 1) (F 4) (F 5) (F 7) h := by
  intro F h; kernel_rfl
noncomputable def l205_11 (C : YC) (lf : Nat) (e0 : K3) (k : O × O × O × O × O → HW → Rs) (s : O × O × O × O × O) (h : HW) : Rs :=
 q205_24 C lf (fun x0 x1 x4 x5 x7 h => k (x0, x1, x4, x5, x7) h) e0 s.1 s.2.1 s.2.2.1 s.2.2.2.1 s.2.2.2.2 h
noncomputable def q205_25 (C : YC) (lf : Nat) (n : K5) (x0 x1 x4 x5 : O) (h : HW) : Rs :=
 n x0 x1 x4 x5 (some (.int .i64 0)) h
theorem q205_25_eq (C : YC) (lf : Nat) (n : K5) (KR : KF) (KE : KX) : ∀ F h, ev205 C lf [1, 1, 0, 0] F h (fun F h => n (F 0) (F 1) (F 4) (F 5) (F 7) h) KR KE = q205_25 C lf n (F 0) (F 1) (F 4) (F 5) h := by
  intro F h; kernel_rfl
noncomputable def q205_26 (C : YC) (lf : Nat) (n : K3) (x0 x1 x4 x5 : O) (h : HW) : Rs :=
 q205_25 C lf (fun x0 x1 x4 x5 x7 h => lp (l205_11 C lf n) lf (x0, x1, x4, x5, x7) h) x0 x1 x4 x5 h
theorem q205_26_eq (C : YC) (lf : Nat) (n : K3) (KR : KF) (KE : KX) : ∀ F h, ev205 C lf [1, 1, 0] F h (fun F h => n (F 0) (F 4) (F 5) h) KR KE = q205_26 C lf n (F 0) (F 1) (F 4) (F 5) h := cSeq (a := sub fb205 [1, 1, 0, 0]) (b := sub fb205 [1, 1, 0, 1]) (by kernel_rfl) (B := (fun F h => lp (l205_11 C lf n) lf ((F 0), (F 1), (F 4), (F 5), (F 7)) h)) (cBlock (a := sub fb205 [1, 1, 0, 1, 0]) (by kernel_rfl) (cLoop (g := fun F => (F 0, F 1, F 4, F 5, F 7)) (body := l205_11 C lf n) (by kernel_rfl) (fun k => (q205_24_eq C lf (fun x0 x1 x4 x5 x7 h => k (x0, x1, x4, x5, x7) h) n KR KE)))) (q205_25_eq C lf (fun x0 x1 x4 x5 x7 h => lp (l205_11 C lf n) lf (x0, x1, x4, x5, x7) h) KR KE)
noncomputable def q205_27 (C : YC) (lf : Nat) (r : K1) (x0 x1 x4 x5 : O) (h : HW) : Rs :=
 q205_26 C lf (fun x0 x4 x5 h => q205_10 C lf r x0 x4 x5 h) x0 x1 x4 x5 h
theorem q205_27_eq (C : YC) (lf : Nat) (r : K1) (KN : KF) (KE : KX) : ∀ F h, ev205 C lf [1, 1] F h KN (fun F h => r (F 4) h) KE = q205_27 C lf r (F 0) (F 1) (F 4) (F 5) h := cSeq (a := sub fb205 [1, 1, 0]) (b := sub fb205 [1, 1, 1]) (by kernel_rfl) (B := (fun F h => q205_10 C lf r (F 0) (F 4) (F 5) h)) (q205_10_eq C lf r KN KE) (q205_26_eq C lf (fun x0 x4 x5 h => q205_10 C lf r x0 x4 x5 h) (fun F h => r (F 4) h) KE)
noncomputable def q205_29 (C : YC) (lf : Nat) (n : K4) (x0 x1 x4 : O) (h : HW) : Rs :=
 b2 (yAl Tryz.prog 292 h) fun y28 h28 =>
 n x0 x1 x4 (some y28) h28
theorem q205_29_eq (C : YC) (lf : Nat) (n : K4) (KR : KF) (KE : KX) : ∀ F h, ev205 C lf [1, 0] F h (fun F h => n (F 0) (F 1) (F 4) (F 5) h) KR KE = q205_29 C lf n (F 0) (F 1) (F 4) h := by
  intro F h; kernel_rfl
noncomputable def q205_30 (C : YC) (lf : Nat) (r : K1) (x0 x1 x4 : O) (h : HW) : Rs :=
 q205_29 C lf (fun x0 x1 x4 x5 h => q205_27 C lf r x0 x1 x4 x5 h) x0 x1 x4 h
theorem q205_30_eq (C : YC) (lf : Nat) (r : K1) (KN : KF) (KE : KX) : ∀ F h, ev205 C lf [1] F h KN (fun F h => r (F 4) h) KE = q205_30 C lf r (F 0) (F 1) (F 4) h := cSeq (a := sub fb205 [1, 0]) (b := sub fb205 [1, 1]) (by kernel_rfl) (B := (fun F h => q205_27 C lf r (F 0) (F 1) (F 4) (F 5) h)) (q205_27_eq C lf r KN KE) (q205_29_eq C lf (fun x0 x1 x4 x5 h => q205_27 C lf r x0 x1 x4 x5 h) (fun F h => r (F 4) h) KE)
noncomputable def q205_32 (C : YC) (lf : Nat) (n : K3) (x0 x1 : O) (h : HW) : Rs :=
 b2 (yAl Tryz.prog 292 h) fun y31 h31 =>
 n x0 x1 (some y31) h31
theorem q205_32_eq (C : YC) (lf : Nat) (n : K3) (KR : KF) (KE : KX) : ∀ F h, ev205 C lf [0] F h (fun F h => n (F 0) (F 1) (F 4) h) KR KE = q205_32 C lf n (F 0) (F 1) h := by
  intro F h; kernel_rfl
noncomputable def q205_33 (C : YC) (lf : Nat) (r : K1) (x0 x1 : O) (h : HW) : Rs :=
 q205_32 C lf (fun x0 x1 x4 h => q205_30 C lf r x0 x1 x4 h) x0 x1 h
theorem q205_33_eq (C : YC) (lf : Nat) (r : K1) (KN : KF) (KE : KX) : ∀ F h, ev205 C lf [] F h KN (fun F h => r (F 4) h) KE = q205_33 C lf r (F 0) (F 1) h := cSeq (a := sub fb205 [0]) (b := sub fb205 [1]) (by kernel_rfl) (B := (fun F h => q205_30 C lf r (F 0) (F 1) (F 4) h)) (q205_30_eq C lf r KN KE) (q205_32_eq C lf (fun x0 x1 x4 h => q205_30 C lf r x0 x1 x4 h) (fun F h => r (F 4) h) KE)
noncomputable def fs205 (C : YC) (lf : Nat) (a0 a1 : SV) (h : HW) : Rs := q205_33 C lf ff205 (some a0) (some a1) h
theorem fs205_eq (C : YC) (lf : Nat) (a0 a1 : SV) (h : HW) : yFn Tryz.prog fx205 C lf [a0, a1] h = fs205 C lf a0 a1 h :=
  fnOf (K := (fun F h => ff205 (F 4) h)) (b := fb205) (N := fn205) (by kernel_rfl) (by kernel_rfl) (by kernel_rfl) (((q205_33_eq C lf ff205 (fun F h => ff205 (F 4) h) (fun _ _ _ => none)) (frOf [a0, a1]) h).trans (by kernel_rfl))
noncomputable def ft205 (C : YC) (lf : Nat) (args : List SV) (h : HW) : Rs := match args with | [a0, a1] => fs205 C lf a0 a1 h | _ => none
theorem ft205_eq (C : YC) (lf : Nat) (args : List SV) (h : HW) (r : Out × HW) (e : ft205 C lf args h = some r) : Nat.ble args.length fx205.fn.ntmps = true ∧ yFn Tryz.prog fx205 C lf args h = some r := by
  rcases args with _ | ⟨a0, _ | ⟨a1, _ | ⟨_, _⟩⟩⟩ <;> first | (cases e; done) | exact ⟨by kernel_rfl, (fs205_eq ..).trans e⟩
noncomputable def fy205 : YX Tryz.prog := ⟨fx205, ft205, ft205_eq⟩

/-! FN 206 (*tinsel/inode.Table).get -/
noncomputable def fx206 : XF Tryz.prog := { f := 206, fn := Tryz.f206, ord := fun _ => .text, isFn := Tryz.func206, isBody := by kernel_rfl, isPlain := by kernel_rfl, isSmall := by kernel_rfl, isOK := by kernel_rfl }
noncomputable def fb206 : Code := Tryz.f206.body.getD .skip
noncomputable def fn206 : Nat := Tryz.f206.ntmps
noncomputable abbrev ev206 (C : YC) (lf : Nat) (p : List Nat) := evY Tryz.prog C fn206 fx206.ord lf (sub fb206 p)
noncomputable def ff206 (x4 x5 : O) (h : HW) : Rs :=
 ob x4 fun a0 =>
 ob x5 fun a1 =>
 some (.ret (.tup [a0, a1]), h)
noncomputable def q206_16 (C : YC) (lf : Nat) (r : K2) (x0 x1 : O) (h : HW) : Rs :=
 ob x0 fun a2 =>
 bc (C (.fn 202) [a2] h) fun y3 h3 =>
 ob (unE .not y3) fun y4 =>
 yIf y4
 (r (some (.val (.pointer none))) (some (.int .i64 14)) h3)
 (ob x0 fun a5 =>
 ob x1 fun a6 =>
 bc (C (.fn 204) [a5, a6] h3) fun y7 h7 =>
 ob (unE .not y7) fun y8 =>
 yIf y8
 (r (some (.val (.pointer none))) (some (.int .i64 2)) h7)
 (ob x0 fun a9 =>
 ob (semNil a9) fun y10 =>
 ob (fa 1 y10) fun y11 =>
 ob (ld1 y11 h7) fun y12 =>
 ob x1 fun a13 =>
 ob (bin Tryz.prog .sub 3 a13 (.int .i64 1)) fun y14 =>
 ob (ixS 308 y12 y14) fun y15 =>
 r (some y15) (some (.int .i64 0)) h7))
theorem q206_16_eq (C : YC) (lf : Nat) (r : K2) (KN : KF) (KE : KX) : ∀ F h, ev206 C lf [] F h KN (fun F h => r (F 4) (F 5) h) KE = q206_16 C lf r (F 0) (F 1) h := by
  intro F h; kernel_rfl
noncomputable def fs206 (C : YC) (lf : Nat) (a0 a1 : SV) (h : HW) : Rs := q206_16 C lf ff206 (some a0) (some a1) h
theorem fs206_eq (C : YC) (lf : Nat) (a0 a1 : SV) (h : HW) : yFn Tryz.prog fx206 C lf [a0, a1] h = fs206 C lf a0 a1 h :=
  fnOf (K := (fun F h => ff206 (F 4) (F 5) h)) (b := fb206) (N := fn206) (by kernel_rfl) (by kernel_rfl) (by kernel_rfl) (((q206_16_eq C lf ff206 (fun F h => ff206 (F 4) (F 5) h) (fun _ _ _ => none)) (frOf [a0, a1]) h).trans (by kernel_rfl))
noncomputable def ft206 (C : YC) (lf : Nat) (args : List SV) (h : HW) : Rs := match args with | [a0, a1] => fs206 C lf a0 a1 h | _ => none
theorem ft206_eq (C : YC) (lf : Nat) (args : List SV) (h : HW) (r : Out × HW) (e : ft206 C lf args h = some r) : Nat.ble args.length fx206.fn.ntmps = true ∧ yFn Tryz.prog fx206 C lf args h = some r := by
  rcases args with _ | ⟨a0, _ | ⟨a1, _ | ⟨_, _⟩⟩⟩ <;> first | (cases e; done) | exact ⟨by kernel_rfl, (fs206_eq ..).trans e⟩
noncomputable def fy206 : YX Tryz.prog := ⟨fx206, ft206, ft206_eq⟩

/-! FN 207 (*tinsel/inode.Table).free -/
noncomputable def fx207 : XF Tryz.prog := { f := 207, fn := Tryz.f207, ord := fun _ => .text, isFn := Tryz.func207, isBody := by kernel_rfl, isPlain := by kernel_rfl, isSmall := by kernel_rfl, isOK := by kernel_rfl }
noncomputable def fb207 : Code := Tryz.f207.body.getD .skip
noncomputable def fn207 : Nat := Tryz.f207.ntmps
noncomputable abbrev ev207 (C : YC) (lf : Nat) (p : List Nat) := evY Tryz.prog C fn207 fx207.ord lf (sub fb207 p)
noncomputable def ff207 (h : HW) : Rs :=
 some (.ret (.tup []), h)
noncomputable def q207_24 (C : YC) (lf : Nat) (n : K0) (x0 x1 : O) (h : HW) : Rs :=
 ob x1 fun a0 =>
 ob (semNil a0) fun y1 =>
 ob (fa 1 y1) fun y2 =>
 ob (fa 1 y2) fun y3 =>
 ob (ld1 y3 h) fun y4 =>
 ob (bin Tryz.prog .eql 3 y4 (.int .i64 0)) fun y5 =>
 bc (gd true (some y5) (ob x1 fun a6 =>
 some (.ret a6, h)) h) fun y7 h7 =>
 bc (gd true (some y5) (ob (semNil y7) fun y8 =>
 some (.ret y8, h7)) h7) fun y9 h9 =>
 bc (gd true (some y5) (ob (fa 11 y9) fun y10 =>
 some (.ret y10, h9)) h9) fun y11 h11 =>
 bc (gd true (some y5) (ob (ld1 y11 h11) fun y12 =>
 some (.ret y12, h11)) h11) fun y13 h13 =>
 bc (gd true (some y5) (ob (bin Tryz.prog .eql 3 y13 (.int .i64 0)) fun y14 =>
 some (.ret y14, h13)) h13) fun y15 h15 =>
 ob (ypk y5 y15 (.bool false)) fun y16 =>
 yIf y16
 (ob x0 fun a17 =>
 ob x1 fun a18 =>
 bc (C (.fn 246) [a17, a18, (.int .i64 0)] h15) fun y19 h19 =>
 ob x1 fun a20 =>
 ob (semBuild Tryz.prog 289 [] []) fun y21 =>
 ob (semNil a20) fun y22 =>
 ob (st 308 y22 y21 h19) fun h23 =>
 n h23)
 (n h15)
theorem q207_24_eq (C : YC) (lf : Nat) (n : K0) (KR : KF) (KE : KX) : ∀ F h, ev207 C lf [] F h (fun F h => n h) KR KE = q207_24 C lf n (F 0) (F 1) h := by
  intro F h; kernel_rfl
noncomputable def fs207 (C : YC) (lf : Nat) (a0 a1 : SV) (h : HW) : Rs := q207_24 C lf ff207 (some a0) (some a1) h
theorem fs207_eq (C : YC) (lf : Nat) (a0 a1 : SV) (h : HW) : yFn Tryz.prog fx207 C lf [a0, a1] h = fs207 C lf a0 a1 h :=
  fnOf (K := (fun F h => ff207 h)) (b := fb207) (N := fn207) (by kernel_rfl) (by kernel_rfl) (by kernel_rfl) (((q207_24_eq C lf ff207 (fun F h => ff207 h) (fun _ _ _ => none)) (frOf [a0, a1]) h).trans (by kernel_rfl))
noncomputable def ft207 (C : YC) (lf : Nat) (args : List SV) (h : HW) : Rs := match args with | [a0, a1] => fs207 C lf a0 a1 h | _ => none
theorem ft207_eq (C : YC) (lf : Nat) (args : List SV) (h : HW) (r : Out × HW) (e : ft207 C lf args h = some r) : Nat.ble args.length fx207.fn.ntmps = true ∧ yFn Tryz.prog fx207 C lf args h = some r := by
  rcases args with _ | ⟨a0, _ | ⟨a1, _ | ⟨_, _⟩⟩⟩ <;> first | (cases e; done) | exact ⟨by kernel_rfl, (fs207_eq ..).trans e⟩
noncomputable def fy207 : YX Tryz.prog := ⟨fx207, ft207, ft207_eq⟩

/-! FN 208 (*tinsel/tree.walker).begin -/
noncomputable def fx208 : XF Tryz.prog := { f := 208, fn := Tryz.f208, ord := fun r => bif Nat.beq r 8 then .ord [0, 1, 2, 4, 3, 6, 7, 5, 8, 9, 10, 11] [(8, [5])] else .text, isFn := Tryz.func208, isBody := by kernel_rfl, isPlain := by kernel_rfl, isSmall := by kernel_rfl, isOK := by kernel_rfl }
noncomputable def fb208 : Code := Tryz.f208.body.getD .skip
noncomputable def fn208 : Nat := Tryz.f208.ntmps
noncomputable abbrev ev208 (C : YC) (lf : Nat) (p : List Nat) := evY Tryz.prog C fn208 fx208.ord lf (sub fb208 p)
noncomputable def ff208 (x4 : O) (h : HW) : Rs :=
 ob x4 fun a0 =>
 some (.ret a0, h)
noncomputable def q208_20 (C : YC) (lf : Nat) (r : K1) (x0 x5 : O) (h : HW) : Rs :=
 ob x0 fun a1 =>
 ob x0 fun a2 =>
 ob x5 fun a3 =>
 ob (fa 1 a3) fun y4 =>
 ob x5 fun a5 =>
 ob (fa 2 a5) fun y6 =>
 ob (ld1 y4 h) fun y7 =>
 ob (semNil a1) fun y8 =>
 ob (fa 8 y8) fun y9 =>
 ob (ld1 y6 h) fun y10 =>
 ob (st 1 y9 y7 h) fun h11 =>
 ck (chkH [(5, adrO (some y6)), (3, adrO (some y4))] h h11 [5]) <|
 ob (semNil a2) fun y12 =>
 ob (fa 9 y12) fun y13 =>
 ob (st 1 y13 y10 h11) fun h14 =>
 ob x5 fun a15 =>
 ob (fa 1 a15) fun y16 =>
 ob (ld1 y16 h14) fun y17 =>
 ob (lenE Tryz.prog 25 y17) fun y18 =>
 ob (bin Tryz.prog .gtr 3 y18 (.int .i64 0)) fun y19 =>
 r (some y19) h14
theorem q208_20_eq (C : YC) (lf : Nat) (r : K1) (KN : KF) (KE : KX) : ∀ F h, ev208 C lf [1, 1, 1, 1, 1] F h KN (fun F h => r (F 4) h) KE = q208_20 C lf r (F 0) (F 5) h := by
  intro F h; kernel_rfl
noncomputable def q208_72 (C : YC) (lf : Nat) (n : K2) (x0 x5 : O) (h : HW) : Rs :=
 ob x5 fun a21 =>
 ob (fa 0 a21) fun y22 =>
 ob (ld1 y22 h) fun y23 =>
 ob (unE .not y23) fun y24 =>
 bc (gd true (some y24) (ob x0 fun a25 =>
 some (.ret a25, h)) h) fun y26 h26 =>
 bc (gd true (some y24) (ob (semNil y26) fun y27 =>
 some (.ret y27, h26)) h26) fun y28 h28 =>
 bc (gd true (some y24) (ob (fa 1 y28) fun y29 =>
 some (.ret y29, h28)) h28) fun y30 h30 =>
 bc (gd true (some y24) (ob (fa 4 y30) fun y31 =>
 some (.ret y31, h30)) h30) fun y32 h32 =>
 bc (gd true (some y24) (ob (ld1 y32 h32) fun y33 =>
 some (.ret y33, h32)) h32) fun y34 h34 =>
 bc (gd true (some y24) (ob (bin Tryz.prog .neq 3 y34 (.int .i64 0)) fun y35 =>
 some (.ret y35, h34)) h34) fun y36 h36 =>
 ob (ypk y24 y36 (.bool false)) fun y37 =>
 yIf y37
 (ob x0 fun a38 =>
 ob x0 fun a39 =>
 ob (semNil a39) fun y40 =>
 ob (fa 1 y40) fun y41 =>
 ob (fa 4 y41) fun y42 =>
 ob (ld1 y42 h36) fun y43 =>
 ob (semNil a38) fun y44 =>
 ob (fa 7 y44) fun y45 =>
 ob (st 1 y45 y43 h36) fun h46 =>
 ob x0 fun a47 =>
 ob (semNil a47) fun y48 =>
 ob (fa 0 y48) fun y49 =>
 ob (ld1 y49 h46) fun y50 =>
 ob (semNil y50) fun y51 =>
 ob (fa 0 y51) fun y52 =>
 ob (ld1 y52 h46) fun y53 =>
 ob x0 fun a54 =>
 ob (semNil a54) fun y55 =>
 ob (fa 7 y55) fun y56 =>
 ob (ld1 y56 h46) fun y57 =>
 bcn (C (.fn 204) [y53, y57] h46) fun y58 h58 =>
 ob (unE .not y58) fun y59 =>
 bcn (C (.fn 146) [y59, (.int .i64 2)] h58) fun y60 h60 =>
 ob x0 fun a61 =>
 ob (semNil a61) fun y62 =>
 ob (fa 0 y62) fun y63 =>
 ob (ld1 y63 h60) fun y64 =>
 ob x0 fun a65 =>
 ob (semNil a65) fun y66 =>
 ob (fa 7 y66) fun y67 =>
 ob (ld1 y67 h60) fun y68 =>
 bcn (C (.fn 156) [y64, y68] h60) fun y69 h69 =>
 ob (bin Tryz.prog .neq 30 y69 (.int .i64 16384)) fun y70 =>
 bcn (C (.fn 146) [y70, (.int .i64 20)] h69) fun y71 h71 =>
 n x0 x5 h71)
 (n x0 x5 h36)
theorem q208_72_eq (C : YC) (lf : Nat) (n : K2) (KR : KF) (KE : KX) : ∀ F h, ev208 C lf [1, 1, 1, 1, 0] F h (fun F h => n (F 0) (F 5) h) KR KE = q208_72 C lf n (F 0) (F 5) h := by
  intro F h; kernel_rfl
noncomputable def q208_73 (C : YC) (lf : Nat) (r : K1) (x0 x5 : O) (h : HW) : Rs :=
 q208_72 C lf (fun x0 x5 h => q208_20 C lf r x0 x5 h) x0 x5 h
theorem q208_73_eq (C : YC) (lf : Nat) (r : K1) (KN : KF) (KE : KX) : ∀ F h, ev208 C lf [1, 1, 1, 1] F h KN (fun F h => r (F 4) h) KE = q208_73 C lf r (F 0) (F 5) h := cSeq (a := sub fb208 [1, 1, 1, 1, 0]) (b := sub fb208 [1, 1, 1, 1, 1]) (by kernel_rfl) (B := (fun F h => q208_20 C lf r (F 0) (F 5) h)) (q208_20_eq C lf r KN KE) (q208_72_eq C lf (fun x0 x5 h => q208_20 C lf r x0 x5 h) (fun F h => r (F 4) h) KE)
noncomputable def q208_78 (C : YC) (lf : Nat) (n : K2) (x0 x5 : O) (h : HW) : Rs :=
 ob x0 fun a74 =>
 ob (semNil a74) fun y75 =>
 ob (fa 7 y75) fun y76 =>
 ob (st 1 y76 (.int .i64 1) h) fun h77 =>
 n x0 x5 h77
theorem q208_78_eq (C : YC) (lf : Nat) (n : K2) (KR : KF) (KE : KX) : ∀ F h, ev208 C lf [1, 1, 1, 0] F h (fun F h => n (F 0) (F 5) h) KR KE = q208_78 C lf n (F 0) (F 5) h := by
  intro F h; kernel_rfl
noncomputable def q208_79 (C : YC) (lf : Nat) (r : K1) (x0 x5 : O) (h : HW) : Rs :=
 q208_78 C lf (fun x0 x5 h => q208_73 C lf r x0 x5 h) x0 x5 h
theorem q208_79_eq (C : YC) (lf : Nat) (r : K1) (KN : KF) (KE : KX) : ∀ F h, ev208 C lf [1, 1, 1] F h KN (fun F h => r (F 4) h) KE = q208_79 C lf r (F 0) (F 5) h := cSeq (a := sub fb208 [1, 1, 1, 0]) (b := sub fb208 [1, 1, 1, 1]) (by kernel_rfl) (B := (fun F h => q208_73 C lf r (F 0) (F 5) h)) (q208_73_eq C lf r KN KE) (q208_78_eq C lf (fun x0 x5 h => q208_73 C lf r x0 x5 h) (fun F h => r (F 4) h) KE)
noncomputable def q208_82 (C : YC) (lf : Nat) (n : K2) (x0 x5 x6 : O) (h : HW) : Rs :=
 ob x6 fun a80 =>
 bc (C (.fn 152) [a80] h) fun y81 h81 =>
 n x0 x5 h81
theorem q208_82_eq (C : YC) (lf : Nat) (n : K2) (KR : KF) (KE : KX) : ∀ F h, ev208 C lf [1, 1, 0] F h (fun F h => n (F 0) (F 5) h) KR KE = q208_82 C lf n (F 0) (F 5) (F 6) h := by
  intro F h; kernel_rfl
noncomputable def q208_83 (C : YC) (lf : Nat) (r : K1) (x0 x5 x6 : O) (h : HW) : Rs :=
 q208_82 C lf (fun x0 x5 h => q208_79 C lf r x0 x5 h) x0 x5 x6 h
theorem q208_83_eq (C : YC) (lf : Nat) (r : K1) (KN : KF) (KE : KX) : ∀ F h, ev208 C lf [1, 1] F h KN (fun F h => r (F 4) h) KE = q208_83 C lf r (F 0) (F 5) (F 6) h := cSeq (a := sub fb208 [1, 1, 0]) (b := sub fb208 [1, 1, 1]) (by kernel_rfl) (B := (fun F h => q208_79 C lf r (F 0) (F 5) h)) (q208_79_eq C lf r KN KE) (q208_82_eq C lf (fun x0 x5 h => q208_79 C lf r x0 x5 h) (fun F h => r (F 4) h) KE)
noncomputable def q208_90 (C : YC) (lf : Nat) (n : K3) (x0 x1 : O) (h : HW) : Rs :=
 ob x1 fun a84 =>
 bc (C (.fn 151) [a84] h) fun y85 h85 =>
 ob (ext 0 y85) fun y86 =>
 ob (ext 1 y85) fun y87 =>
 b2 (yAl Tryz.prog 234 h85) fun y88 h88 =>
 ob (st 3 y88 y86 h88) fun h89 =>
 n x0 (some y88) (some y87) h89
theorem q208_90_eq (C : YC) (lf : Nat) (n : K3) (KR : KF) (KE : KX) : ∀ F h, ev208 C lf [1, 0] F h (fun F h => n (F 0) (F 5) (F 6) h) KR KE = q208_90 C lf n (F 0) (F 1) h := by
  intro F h; kernel_rfl
noncomputable def q208_91 (C : YC) (lf : Nat) (r : K1) (x0 x1 : O) (h : HW) : Rs :=
 q208_90 C lf (fun x0 x5 x6 h => q208_83 C lf r x0 x5 x6 h) x0 x1 h
theorem q208_91_eq (C : YC) (lf : Nat) (r : K1) (KN : KF) (KE : KX) : ∀ F h, ev208 C lf [1] F h KN (fun F h => r (F 4) h) KE = q208_91 C lf r (F 0) (F 1) h := cSeq (a := sub fb208 [1, 0]) (b := sub fb208 [1, 1]) (by kernel_rfl) (B := (fun F h => q208_83 C lf r (F 0) (F 5) (F 6) h)) (q208_83_eq C lf r KN KE) (q208_90_eq C lf (fun x0 x5 x6 h => q208_83 C lf r x0 x5 x6 h) (fun F h => r (F 4) h) KE)
noncomputable def q208_92 (C : YC) (lf : Nat) (n : K2) (x0 x1 : O) (h : HW) : Rs :=
 n x0 x1 h
theorem q208_92_eq (C : YC) (lf : Nat) (n : K2) (KR : KF) (KE : KX) : ∀ F h, ev208 C lf [0] F h (fun F h => n (F 0) (F 1) h) KR KE = q208_92 C lf n (F 0) (F 1) h := by
  intro F h; kernel_rfl
noncomputable def q208_93 (C : YC) (lf : Nat) (r : K1) (x0 x1 : O) (h : HW) : Rs :=
 q208_92 C lf (fun x0 x1 h => q208_91 C lf r x0 x1 h) x0 x1 h
theorem q208_93_eq (C : YC) (lf : Nat) (r : K1) (KN : KF) (KE : KX) : ∀ F h, ev208 C lf [] F h KN (fun F h => r (F 4) h) KE = q208_93 C lf r (F 0) (F 1) h := cSeq (a := sub fb208 [0]) (b := sub fb208 [1]) (by kernel_rfl) (B := (fun F h => q208_91 C lf r (F 0) (F 1) h)) (q208_91_eq C lf r KN KE) (q208_92_eq C lf (fun x0 x1 h => q208_91 C lf r x0 x1 h) (fun F h => r (F 4) h) KE)
noncomputable def fs208 (C : YC) (lf : Nat) (a0 a1 : SV) (h : HW) : Rs := q208_93 C lf ff208 (some a0) (some a1) h
theorem fs208_eq (C : YC) (lf : Nat) (a0 a1 : SV) (h : HW) : yFn Tryz.prog fx208 C lf [a0, a1] h = fs208 C lf a0 a1 h :=
  fnOf (K := (fun F h => ff208 (F 4) h)) (b := fb208) (N := fn208) (by kernel_rfl) (by kernel_rfl) (by kernel_rfl) (((q208_93_eq C lf ff208 (fun F h => ff208 (F 4) h) (fun _ _ _ => none)) (frOf [a0, a1]) h).trans (by kernel_rfl))
noncomputable def ft208 (C : YC) (lf : Nat) (args : List SV) (h : HW) : Rs := match args with | [a0, a1] => fs208 C lf a0 a1 h | _ => none
theorem ft208_eq (C : YC) (lf : Nat) (args : List SV) (h : HW) (r : Out × HW) (e : ft208 C lf args h = some r) : Nat.ble args.length fx208.fn.ntmps = true ∧ yFn Tryz.prog fx208 C lf args h = some r := by
  rcases args with _ | ⟨a0, _ | ⟨a1, _ | ⟨_, _⟩⟩⟩ <;> first | (cases e; done) | exact ⟨by kernel_rfl, (fs208_eq ..).trans e⟩
noncomputable def fy208 : YX Tryz.prog := ⟨fx208, ft208, ft208_eq⟩

/-! FN 209 (*tinsel/tree.walker).look -/
noncomputable def fx209 : XF Tryz.prog := { f := 209, fn := Tryz.f209, ord := fun _ => .text, isFn := Tryz.func209, isBody := by kernel_rfl, isPlain := by kernel_rfl, isSmall := by kernel_rfl, isOK := by kernel_rfl }
noncomputable def fb209 : Code := Tryz.f209.body.getD .skip
noncomputable def fn209 : Nat := Tryz.f209.ntmps
noncomputable abbrev ev209 (C : YC) (lf : Nat) (p : List Nat) := evY Tryz.prog C fn209 fx209.ord lf (sub fb209 p)
noncomputable def ff209 (x4 : O) (h : HW) : Rs :=
 ob x4 fun a0 =>
 some (.ret a0, h)
noncomputable def q209_28 (C : YC) (lf : Nat) (r : K1) (x0 x1 : O) (h : HW) : Rs :=
 ob x1 fun a1 =>
 ob (bin Tryz.prog .eql 9 a1 (.str (bs [46]))) fun y2 =>
 yIf y2
 (ob x0 fun a3 =>
 ob (semNil a3) fun y4 =>
 ob (fa 7 y4) fun y5 =>
 ob (ld1 y5 h) fun y6 =>
 r (some y6) h)
 (ob x0 fun a7 =>
 ob (semNil a7) fun y8 =>
 ob (fa 0 y8) fun y9 =>
 ob (ld1 y9 h) fun y10 =>
 ob (semNil y10) fun y11 =>
 ob (fa 0 y11) fun y12 =>
 ob (ld1 y12 h) fun y13 =>
 ob x0 fun a14 =>
 ob (semNil a14) fun y15 =>
 ob (fa 7 y15) fun y16 =>
 ob (ld1 y16 h) fun y17 =>
 ob x1 fun a18 =>
 bcn (C (.fn 178) [y13, y17, a18] h) fun y19 h19 =>
 ob (ext 0 y19) fun y20 =>
 ob (ext 1 y19) fun y21 =>
 ob (bin Tryz.prog .neq 23 y21 (.int .i64 0)) fun y22 =>
 bc (gd true (some y22) (some (.ret y21, h19)) h19) fun y23 h23 =>
 bc (gd true (some y22) (ob (bin Tryz.prog .neq 23 y23 (.int .i64 2)) fun y24 =>
 some (.ret y24, h23)) h23) fun y25 h25 =>
 ob (ypk y22 y25 (.bool false)) fun y26 =>
 bc (C (.fn 146) [y26, y21] h25) fun y27 h27 =>
 r (some y20) h27)
theorem q209_28_eq (C : YC) (lf : Nat) (r : K1) (KN : KF) (KE : KX) : ∀ F h, ev209 C lf [] F h KN (fun F h => r (F 4) h) KE = q209_28 C lf r (F 0) (F 1) h := by
  intro F h; kernel_rfl
noncomputable def fs209 (C : YC) (lf : Nat) (a0 a1 : SV) (h : HW) : Rs := q209_28 C lf ff209 (some a0) (some a1) h
theorem fs209_eq (C : YC) (lf : Nat) (a0 a1 : SV) (h : HW) : yFn Tryz.prog fx209 C lf [a0, a1] h = fs209 C lf a0 a1 h :=
  fnOf (K := (fun F h => ff209 (F 4) h)) (b := fb209) (N := fn209) (by kernel_rfl) (by kernel_rfl) (by kernel_rfl) (((q209_28_eq C lf ff209 (fun F h => ff209 (F 4) h) (fun _ _ _ => none)) (frOf [a0, a1]) h).trans (by kernel_rfl))
noncomputable def ft209 (C : YC) (lf : Nat) (args : List SV) (h : HW) : Rs := match args with | [a0, a1] => fs209 C lf a0 a1 h | _ => none
theorem ft209_eq (C : YC) (lf : Nat) (args : List SV) (h : HW) (r : Out × HW) (e : ft209 C lf args h = some r) : Nat.ble args.length fx209.fn.ntmps = true ∧ yFn Tryz.prog fx209 C lf args h = some r := by
  rcases args with _ | ⟨a0, _ | ⟨a1, _ | ⟨_, _⟩⟩⟩ <;> first | (cases e; done) | exact ⟨by kernel_rfl, (fs209_eq ..).trans e⟩
noncomputable def fy209 : YX Tryz.prog := ⟨fx209, ft209, ft209_eq⟩

/-! EV 211 (*tinsel/tree.undo).run: builtin -/
noncomputable def fx211 : XF Tryz.prog := { f := 211, fn := Tryz.f211, ord := fun _ => .text, isFn := Tryz.func211, isBody := by kernel_rfl, isPlain := by kernel_rfl, isSmall := by kernel_rfl, isOK := by kernel_rfl }

/-! FN 212 (*tinsel/tree.undo).add -/
noncomputable def fx212 : XF Tryz.prog := { f := 212, fn := Tryz.f212, ord := fun _ => .text, isFn := Tryz.func212, isBody := by kernel_rfl, isPlain := by kernel_rfl, isSmall := by kernel_rfl, isOK := by kernel_rfl }
noncomputable def fb212 : Code := Tryz.f212.body.getD .skip
noncomputable def fn212 : Nat := Tryz.f212.ntmps
noncomputable abbrev ev212 (C : YC) (lf : Nat) (p : List Nat) := evY Tryz.prog C fn212 fx212.ord lf (sub fb212 p)
noncomputable def ff212 (h : HW) : Rs :=
 some (.ret (.tup []), h)
noncomputable def q212_9 (C : YC) (lf : Nat) (n : K0) (x0 x1 : O) (h : HW) : Rs :=
 ob x0 fun a0 =>
 ob x0 fun a1 =>
 ob (semNil a1) fun y2 =>
 ob (ld1 y2 h) fun y3 =>
 ob x1 fun a4 =>
 b2 (ybs Tryz.prog 305 1 [0] [a4] h) fun y5 h5 =>
 b2 (ybl Tryz.prog .append #[305, 305] [y3, y5] h5) fun y6 h6 =>
 ob (semNil a0) fun y7 =>
 ob (st 1 y7 y6 h6) fun h8 =>
 n h8
theorem q212_9_eq (C : YC) (lf : Nat) (n : K0) (KR : KF) (KE : KX) : ∀ F h, ev212 C lf [] F h (fun F h => n h) KR KE = q212_9 C lf n (F 0) (F 1) h := by
  intro F h; kernel_rfl
noncomputable def fs212 (C : YC) (lf : Nat) (a0 a1 : SV) (h : HW) : Rs := q212_9 C lf ff212 (some a0) (some a1) h
theorem fs212_eq (C : YC) (lf : Nat) (a0 a1 : SV) (h : HW) : yFn Tryz.prog fx212 C lf [a0, a1] h = fs212 C lf a0 a1 h :=
  fnOf (K := (fun F h => ff212 h)) (b := fb212) (N := fn212) (by kernel_rfl) (by kernel_rfl) (by kernel_rfl) (((q212_9_eq C lf ff212 (fun F h => ff212 h) (fun _ _ _ => none)) (frOf [a0, a1]) h).trans (by kernel_rfl))
noncomputable def ft212 (C : YC) (lf : Nat) (args : List SV) (h : HW) : Rs := match args with | [a0, a1] => fs212 C lf a0 a1 h | _ => none
theorem ft212_eq (C : YC) (lf : Nat) (args : List SV) (h : HW) (r : Out × HW) (e : ft212 C lf args h = some r) : Nat.ble args.length fx212.fn.ntmps = true ∧ yFn Tryz.prog fx212 C lf args h = some r := by
  rcases args with _ | ⟨a0, _ | ⟨a1, _ | ⟨_, _⟩⟩⟩ <;> first | (cases e; done) | exact ⟨by kernel_rfl, (fs212_eq ..).trans e⟩
noncomputable def fy212 : YX Tryz.prog := ⟨fx212, ft212, ft212_eq⟩

/-! FN 214 tinsel/dir.Add -/
noncomputable def fx214 : XF Tryz.prog := { f := 214, fn := Tryz.f214, ord := fun _ => .text, isFn := Tryz.func214, isBody := by kernel_rfl, isPlain := by kernel_rfl, isSmall := by kernel_rfl, isOK := by kernel_rfl }
noncomputable def fb214 : Code := Tryz.f214.body.getD .skip
noncomputable def fn214 : Nat := Tryz.f214.ntmps
noncomputable abbrev ev214 (C : YC) (lf : Nat) (p : List Nat) := evY Tryz.prog C fn214 fx214.ord lf (sub fb214 p)
noncomputable def ff214 (x8 : O) (h : HW) : Rs :=
 ob x8 fun a0 =>
 some (.ret a0, h)
noncomputable def q214_12 (C : YC) (lf : Nat) (r : K1) (x0 x1 x2 x3 x11 : O) (h : HW) : Rs :=
 ob x11 fun a1 =>
 ob (bin Tryz.prog .add 3 a1 (.int .i64 1)) fun y2 =>
 ob (bin Tryz.prog .mul 3 y2 (.int .i64 32)) fun y3 =>
 ob (bin Tryz.prog .gtr 3 y3 (.int .i64 17792)) fun y4 =>
 yIf y4
 (r (some (.int .i64 28)) h)
 (ob x0 fun a5 =>
 ob x1 fun a6 =>
 ob x11 fun a7 =>
 ob x2 fun a8 =>
 ob x3 fun a9 =>
 bc (C (.fn 205) [a8, a9] h) fun y10 h10 =>
 bc (C (.fn 279) [a5, a6, a7, y10] h10) fun y11 h11 =>
 r (some y11) h11)
theorem q214_12_eq (C : YC) (lf : Nat) (r : K1) (KN : KF) (KE : KX) : ∀ F h, ev214 C lf [1, 1, 1, 1, 1, 1] F h KN (fun F h => r (F 8) h) KE = q214_12 C lf r (F 0) (F 1) (F 2) (F 3) (F 11) h := by
  intro F h; kernel_rfl
noncomputable def q214_33 (C : YC) (lf : Nat) (n : K6) (e1 : K5) (x0 x1 x2 x3 x10 x11 : O) (h : HW) : Rs :=
 ob x11 fun a14 =>
 ob x10 fun a15 =>
 ob (lenE Tryz.prog 335 a15) fun y16 =>
 ob (bin Tryz.prog .lss 3 a14 y16) fun y17 =>
 bc (gd true (some y17) (ob x10 fun a18 =>
 some (.ret a18, h)) h) fun y19 h19 =>
 bc (gd true (some y17) (ob x11 fun a20 =>
 some (.ret a20, h19)) h19) fun y21 h21 =>
 bc (gd true (some y17) (ob (ixS 32 y19 y21) fun y22 =>
 some (.ret y22, h21)) h21) fun y23 h23 =>
 bc (gd true (some y17) (ob (ldN 32 y23 h23) fun y24 =>
 some (.ret y24, h23)) h23) fun y25 h25 =>
 bc (gd true (some y17) (bc (C (.fn 250) [y25] h25) fun y26 h26 =>
 some (.ret y26, h26)) h25) fun y27 h27 =>
 bc (gd true (some y17) (ob (bin Tryz.prog .neq 3 y27 (.int .i64 0)) fun y28 =>
 some (.ret y28, h27)) h27) fun y29 h29 =>
 ob (ypk y17 y29 (.bool false)) fun y30 =>
 yIf y30
 (ob x11 fun a31 =>
 ob (bin Tryz.prog .add 3 a31 (.int .i64 1)) fun y32 =>
 n x0 x1 x2 x3 x10 (some y32) h29)
 (e1 x0 x1 x2 x3 x11 h29)
theorem q214_33_eq (C : YC) (lf : Nat) (n : K6) (e1 : K5) (KR : KF) (KE : KX) : ∀ F h, ev214 C lf [1, 1, 1, 1, 1, 0, 0, 0] F h (fun F h => n (F 0) (F 1) (F 2) (F 3) (F 10) (F 11) h) KR (bk 1 (fun F h => e1 (F 0) (F 1) (F 2) (F 3) (F 11) h) KE) = q214_33 C lf n e1 (F 0) (F 1) (F 2) (F 3) (F 10) (F 11) h := by
  intro F h; kernel_rfl
noncomputable def l214_13 (C : YC) (lf : Nat) (e1 : K5) (k : O × O × O × O × O × O → HW → Rs) (s : O × O × O × O × O × O) (h : HW) : Rs :=
 q214_33 C lf (fun x0 x1 x2 x3 x10 x11 h => k (x0, x1, x2, x3, x10, x11) h) e1 s.1 s.2.1 s.2.2.1 s.2.2.2.1 s.2.2.2.2.1 s.2.2.2.2.2 h
noncomputable def q214_34 (C : YC) (lf : Nat) (r : K1) (x0 x1 x2 x3 x10 x11 : O) (h : HW) : Rs :=
 lp (l214_13 C lf (fun x0 x1 x2 x3 x11 h => q214_12 C lf r x0 x1 x2 x3 x11 h)) lf (x0, x1, x2, x3, x10, x11) h
theorem q214_34_eq (C : YC) (lf : Nat) (r : K1) (KN : KF) (KE : KX) : ∀ F h, ev214 C lf [1, 1, 1, 1, 1] F h KN (fun F h => r (F 8) h) KE = q214_34 C lf r (F 0) (F 1) (F 2) (F 3) (F 10) (F 11) h := cSeq (a := sub fb214 [1, 1, 1, 1, 1, 0]) (b := sub fb214 [1, 1, 1, 1, 1, 1]) (by kernel_rfl) (B := (fun F h => q214_12 C lf r (F 0) (F 1) (F 2) (F 3) (F 11) h)) (q214_12_eq C lf r KN KE) (cBlock (a := sub fb214 [1, 1, 1, 1, 1, 0, 0]) (by kernel_rfl) (cLoop (g := fun F => (F 0, F 1, F 2, F 3, F 10, F 11)) (body := l214_13 C lf (fun x0 x1 x2 x3 x11 h => q214_12 C lf r x0 x1 x2 x3 x11 h)) (by kernel_rfl) (fun k => (q214_33_eq C lf (fun x0 x1 x2 x3 x10 x11 h => k (x0, x1, x2, x3, x10, x11) h) (fun x0 x1 x2 x3 x11 h => q214_12 C lf r x0 x1 x2 x3 x11 h) (fun F h => r (F 8) h) KE))))
noncomputable def q214_35 (C : YC) (lf : Nat) (n : K6) (x0 x1 x2 x3 x10 : O) (h : HW) : Rs :=
 n x0 x1 x2 x3 x10 (some (.int .i64 0)) h
theorem q214_35_eq (C : YC) (lf : Nat) (n : K6) (KR : KF) (KE : KX) : ∀ F h, ev214 C lf [1, 1, 1, 1, 0] F h (fun F h => n (F 0) (F 1) (F 2) (F 3) (F 10) (F 11) h) KR KE = q214_35 C lf n (F 0) (F 1) (F 2) (F 3) (F 10) h := by
  intro F h; kernel_rfl
noncomputable def q214_36 (C : YC) (lf : Nat) (r : K1) (x0 x1 x2 x3 x10 : O) (h : HW) : Rs :=
 q214_35 C lf (fun x0 x1 x2 x3 x10 x11 h => q214_34 C lf r x0 x1 x2 x3 x10 x11 h) x0 x1 x2 x3 x10 h
theorem q214_36_eq (C : YC) (lf : Nat) (r : K1) (KN : KF) (KE : KX) : ∀ F h, ev214 C lf [1, 1, 1, 1] F h KN (fun F h => r (F 8) h) KE = q214_36 C lf r (F 0) (F 1) (F 2) (F 3) (F 10) h := cSeq (a := sub fb214 [1, 1, 1, 1, 0]) (b := sub fb214 [1, 1, 1, 1, 1]) (by kernel_rfl) (B := (fun F h => q214_34 C lf r (F 0) (F 1) (F 2) (F 3) (F 10) (F 11) h)) (q214_34_eq C lf r KN KE) (q214_35_eq C lf (fun x0 x1 x2 x3 x10 x11 h => q214_34 C lf r x0 x1 x2 x3 x10 x11 h) (fun F h => r (F 8) h) KE)
noncomputable def q214_45 (C : YC) (lf : Nat) (n : K5) (r : K1) (x0 x1 x2 x3 x10 : O) (h : HW) : Rs :=
 ob x0 fun a37 =>
 ob x3 fun a38 =>
 bc (C (.fn 204) [a37, a38] h) fun y39 h39 =>
 ob (unE .not y39) fun y40 =>
 yIf y40
 (r (some (.int .i64 22)) h39)
 (ob x10 fun a41 =>
 ob x2 fun a42 =>
 bc (C (.fn 249) [a41, a42] h39) fun y43 h43 =>
 ob (bin Tryz.prog .geq 3 y43 (.int .i64 0)) fun y44 =>
 yIf y44
 (r (some (.int .i64 17)) h43)
 (n x0 x1 x2 x3 x10 h43))
theorem q214_45_eq (C : YC) (lf : Nat) (n : K5) (r : K1) (KE : KX) : ∀ F h, ev214 C lf [1, 1, 1, 0] F h (fun F h => n (F 0) (F 1) (F 2) (F 3) (F 10) h) (fun F h => r (F 8) h) KE = q214_45 C lf n r (F 0) (F 1) (F 2) (F 3) (F 10) h := by
  intro F h; kernel_rfl
noncomputable def q214_46 (C : YC) (lf : Nat) (r : K1) (x0 x1 x2 x3 x10 : O) (h : HW) : Rs :=
 q214_45 C lf (fun x0 x1 x2 x3 x10 h => q214_36 C lf r x0 x1 x2 x3 x10 h) r x0 x1 x2 x3 x10 h
theorem q214_46_eq (C : YC) (lf : Nat) (r : K1) (KN : KF) (KE : KX) : ∀ F h, ev214 C lf [1, 1, 1] F h KN (fun F h => r (F 8) h) KE = q214_46 C lf r (F 0) (F 1) (F 2) (F 3) (F 10) h := cSeq (a := sub fb214 [1, 1, 1, 0]) (b := sub fb214 [1, 1, 1, 1]) (by kernel_rfl) (B := (fun F h => q214_36 C lf r (F 0) (F 1) (F 2) (F 3) (F 10) h)) (q214_36_eq C lf r KN KE) (q214_45_eq C lf (fun x0 x1 x2 x3 x10 h => q214_36 C lf r x0 x1 x2 x3 x10 h) r KE)
noncomputable def q214_50 (C : YC) (lf : Nat) (n : K5) (x0 x1 x2 x3 : O) (h : HW) : Rs :=
 ob x0 fun a47 =>
 ob x1 fun a48 =>
 bc (C (.fn 248) [a47, a48] h) fun y49 h49 =>
 n x0 x1 x2 x3 (some y49) h49
theorem q214_50_eq (C : YC) (lf : Nat) (n : K5) (KR : KF) (KE : KX) : ∀ F h, ev214 C lf [1, 1, 0] F h (fun F h => n (F 0) (F 1) (F 2) (F 3) (F 10) h) KR KE = q214_50 C lf n (F 0) (F 1) (F 2) (F 3) h := by
  intro F h; kernel_rfl
noncomputable def q214_51 (C : YC) (lf : Nat) (r : K1) (x0 x1 x2 x3 : O) (h : HW) : Rs :=
 q214_50 C lf (fun x0 x1 x2 x3 x10 h => q214_46 C lf r x0 x1 x2 x3 x10 h) x0 x1 x2 x3 h
theorem q214_51_eq (C : YC) (lf : Nat) (r : K1) (KN : KF) (KE : KX) : ∀ F h, ev214 C lf [1, 1] F h KN (fun F h => r (F 8) h) KE = q214_51 C lf r (F 0) (F 1) (F 2) (F 3) h := cSeq (a := sub fb214 [1, 1, 0]) (b := sub fb214 [1, 1, 1]) (by kernel_rfl) (B := (fun F h => q214_46 C lf r (F 0) (F 1) (F 2) (F 3) (F 10) h)) (q214_46_eq C lf r KN KE) (q214_50_eq C lf (fun x0 x1 x2 x3 x10 h => q214_46 C lf r x0 x1 x2 x3 x10 h) (fun F h => r (F 8) h) KE)
noncomputable def q214_57 (C : YC) (lf : Nat) (n : K4) (r : K1) (x0 x1 x2 x3 : O) (h : HW) : Rs :=
 ob x0 fun a52 =>
 ob x1 fun a53 =>
 ob x2 fun a54 =>
 bc (C (.fn 247) [a52, a53, a54] h) fun y55 h55 =>
 ob (bin Tryz.prog .neq 23 y55 (.int .i64 0)) fun y56 =>
 yIf y56
 (r (some y55) h55)
 (n x0 x1 x2 x3 h55)
theorem q214_57_eq (C : YC) (lf : Nat) (n : K4) (r : K1) (KE : KX) : ∀ F h, ev214 C lf [1, 0] F h (fun F h => n (F 0) (F 1) (F 2) (F 3) h) (fun F h => r (F 8) h) KE = q214_57 C lf n r (F 0) (F 1) (F 2) (F 3) h := by
  intro F h; kernel_rfl
noncomputable def q214_58 (C : YC) (lf : Nat) (r : K1) (x0 x1 x2 x3 : O) (h : HW) : Rs :=
 q214_57 C lf (fun x0 x1 x2 x3 h => q214_51 C lf r x0 x1 x2 x3 h) r x0 x1 x2 x3 h
theorem q214_58_eq (C : YC) (lf : Nat) (r : K1) (KN : KF) (KE : KX) : ∀ F h, ev214 C lf [1] F h KN (fun F h => r (F 8) h) KE = q214_58 C lf r (F 0) (F 1) (F 2) (F 3) h := cSeq (a := sub fb214 [1, 0]) (b := sub fb214 [1, 1]) (by kernel_rfl) (B := (fun F h => q214_51 C lf r (F 0) (F 1) (F 2) (F 3) h)) (q214_51_eq C lf r KN KE) (q214_57_eq C lf (fun x0 x1 x2 x3 h => q214_51 C lf r x0 x1 x2 x3 h) r KE)
noncomputable def q214_59 (C : YC) (lf : Nat) (n : K4) (x0 x1 x2 x3 : O) (h : HW) : Rs :=
 n x0 x1 x2 x3 h
theorem q214_59_eq (C : YC) (lf : Nat) (n : K4) (KR : KF) (KE : KX) : ∀ F h, ev214 C lf [0] F h (fun F h => n (F 0) (F 1) (F 2) (F 3) h) KR KE = q214_59 C lf n (F 0) (F 1) (F 2) (F 3) h := by
  intro F h; kernel_rfl
noncomputable def q214_60 (C : YC) (lf : Nat) (r : K1) (x0 x1 x2 x3 : O) (h : HW) : Rs :=
 q214_59 C lf (fun x0 x1 x2 x3 h => q214_58 C lf r x0 x1 x2 x3 h) x0 x1 x2 x3 h
theorem q214_60_eq (C : YC) (lf : Nat) (r : K1) (KN : KF) (KE : KX) : ∀ F h, ev214 C lf [] F h KN (fun F h => r (F 8) h) KE = q214_60 C lf r (F 0) (F 1) (F 2) (F 3) h := cSeq (a := sub fb214 [0]) (b := sub fb214 [1]) (by kernel_rfl) (B := (fun F h => q214_58 C lf r (F 0) (F 1) (F 2) (F 3) h)) (q214_58_eq C lf r KN KE) (q214_59_eq C lf (fun x0 x1 x2 x3 h => q214_58 C lf r x0 x1 x2 x3 h) (fun F h => r (F 8) h) KE)
noncomputable def fs214 (C : YC) (lf : Nat) (a0 a1 a2 a3 : SV) (h : HW) : Rs := q214_60 C lf ff214 (some a0) (some a1) (some a2) (some a3) h
theorem fs214_eq (C : YC) (lf : Nat) (a0 a1 a2 a3 : SV) (h : HW) : yFn Tryz.prog fx214 C lf [a0, a1, a2, a3] h = fs214 C lf a0 a1 a2 a3 h :=
  fnOf (K := (fun F h => ff214 (F 8) h)) (b := fb214) (N := fn214) (by kernel_rfl) (by kernel_rfl) (by kernel_rfl) (((q214_60_eq C lf ff214 (fun F h => ff214 (F 8) h) (fun _ _ _ => none)) (frOf [a0, a1, a2, a3]) h).trans (by kernel_rfl))
noncomputable def ft214 (C : YC) (lf : Nat) (args : List SV) (h : HW) : Rs := match args with | [a0, a1, a2, a3] => fs214 C lf a0 a1 a2 a3 h | _ => none
theorem ft214_eq (C : YC) (lf : Nat) (args : List SV) (h : HW) (r : Out × HW) (e : ft214 C lf args h = some r) : Nat.ble args.length fx214.fn.ntmps = true ∧ yFn Tryz.prog fx214 C lf args h = some r := by
  rcases args with _ | ⟨a0, _ | ⟨a1, _ | ⟨a2, _ | ⟨a3, _ | ⟨_, _⟩⟩⟩⟩⟩ <;> first | (cases e; done) | exact ⟨by kernel_rfl, (fs214_eq ..).trans e⟩
noncomputable def fy214 : YX Tryz.prog := ⟨fx214, ft214, ft214_eq⟩

/-! FN 215 tinsel/path.names -/
noncomputable def fx215 : XF Tryz.prog := { f := 215, fn := Tryz.f215, ord := fun _ => .text, isFn := Tryz.func215, isBody := by kernel_rfl, isPlain := by kernel_rfl, isSmall := by kernel_rfl, isOK := by kernel_rfl }
noncomputable def fb215 : Code := Tryz.f215.body.getD .skip
noncomputable def fn215 : Nat := Tryz.f215.ntmps
noncomputable abbrev ev215 (C : YC) (lf : Nat) (p : List Nat) := evY Tryz.prog C fn215 fx215.ord lf (sub fb215 p)
noncomputable def ff215 (x2 : O) (h : HW) : Rs :=
 ob x2 fun a0 =>
 some (.ret a0, h)
noncomputable def q215_3 (C : YC) (lf : Nat) (r : K1) (x0 : O) (h : HW) : Rs :=
 ob x0 fun a1 =>
 b2 (ybx 9 a1 h) fun y2 h2 =>
 r (some (.fn (.func 280) [] [y2])) h2
theorem q215_3_eq (C : YC) (lf : Nat) (r : K1) (KN : KF) (KE : KX) : ∀ F h, ev215 C lf [] F h KN (fun F h => r (F 2) h) KE = q215_3 C lf r (F 0) h := by
  intro F h; kernel_rfl
noncomputable def fs215 (C : YC) (lf : Nat) (a0 : SV) (h : HW) : Rs := q215_3 C lf ff215 (some a0) h
theorem fs215_eq (C : YC) (lf : Nat) (a0 : SV) (h : HW) : yFn Tryz.prog fx215 C lf [a0] h = fs215 C lf a0 h :=
  fnOf (K := (fun F h => ff215 (F 2) h)) (b := fb215) (N := fn215) (by kernel_rfl) (by kernel_rfl) (by kernel_rfl) (((q215_3_eq C lf ff215 (fun F h => ff215 (F 2) h) (fun _ _ _ => none)) (frOf [a0]) h).trans (by kernel_rfl))
noncomputable def ft215 (C : YC) (lf : Nat) (args : List SV) (h : HW) : Rs := match args with | [a0] => fs215 C lf a0 h | _ => none
theorem ft215_eq (C : YC) (lf : Nat) (args : List SV) (h : HW) (r : Out × HW) (e : ft215 C lf args h = some r) : Nat.ble args.length fx215.fn.ntmps = true ∧ yFn Tryz.prog fx215 C lf args h = some r := by
  rcases args with _ | ⟨a0, _ | ⟨_, _⟩⟩ <;> first | (cases e; done) | exact ⟨by kernel_rfl, (fs215_eq ..).trans e⟩
noncomputable def fy215 : YX Tryz.prog := ⟨fx215, ft215, ft215_eq⟩

/-! FN 216 strings.IndexByte -/
noncomputable def fx216 : XF Tryz.prog := { f := 216, fn := Tryz.f216, ord := fun _ => .text, isFn := Tryz.func216, isBody := by kernel_rfl, isPlain := by kernel_rfl, isSmall := by kernel_rfl, isOK := by kernel_rfl }
noncomputable def fb216 : Code := Tryz.f216.body.getD .skip
noncomputable def fn216 : Nat := Tryz.f216.ntmps
noncomputable abbrev ev216 (C : YC) (lf : Nat) (p : List Nat) := evY Tryz.prog C fn216 fx216.ord lf (sub fb216 p)
noncomputable def ff216 (x4 : O) (h : HW) : Rs :=
 ob x4 fun a0 =>
 some (.ret a0, h)
noncomputable def q216_4 (C : YC) (lf : Nat) (r : K1) (x0 x1 : O) (h : HW) : Rs :=
 ob x0 fun a1 =>
 ob x1 fun a2 =>
 bc (C (.fn 281) [a1, a2] h) fun y3 h3 =>
 r (some y3) h3
theorem q216_4_eq (C : YC) (lf : Nat) (r : K1) (KN : KF) (KE : KX) : ∀ F h, ev216 C lf [] F h KN (fun F h => r (F 4) h) KE = q216_4 C lf r (F 0) (F 1) h := by
  intro F h; kernel_rfl
noncomputable def fs216 (C : YC) (lf : Nat) (a0 a1 : SV) (h : HW) : Rs := q216_4 C lf ff216 (some a0) (some a1) h
theorem fs216_eq (C : YC) (lf : Nat) (a0 a1 : SV) (h : HW) : yFn Tryz.prog fx216 C lf [a0, a1] h = fs216 C lf a0 a1 h :=
  fnOf (K := (fun F h => ff216 (F 4) h)) (b := fb216) (N := fn216) (by kernel_rfl) (by kernel_rfl) (by kernel_rfl) (((q216_4_eq C lf ff216 (fun F h => ff216 (F 4) h) (fun _ _ _ => none)) (frOf [a0, a1]) h).trans (by kernel_rfl))
noncomputable def ft216 (C : YC) (lf : Nat) (args : List SV) (h : HW) : Rs := match args with | [a0, a1] => fs216 C lf a0 a1 h | _ => none
theorem ft216_eq (C : YC) (lf : Nat) (args : List SV) (h : HW) (r : Out × HW) (e : ft216 C lf args h = some r) : Nat.ble args.length fx216.fn.ntmps = true ∧ yFn Tryz.prog fx216 C lf args h = some r := by
  rcases args with _ | ⟨a0, _ | ⟨a1, _ | ⟨_, _⟩⟩⟩ <;> first | (cases e; done) | exact ⟨by kernel_rfl, (fs216_eq ..).trans e⟩
noncomputable def fy216 : YX Tryz.prog := ⟨fx216, ft216, ft216_eq⟩

/-! FN 217 (*tinsel/inode.Table).fill -/
noncomputable def fx217 : XF Tryz.prog := { f := 217, fn := Tryz.f217, ord := fun _ => .text, isFn := Tryz.func217, isBody := by kernel_rfl, isPlain := by kernel_rfl, isSmall := by kernel_rfl, isOK := by kernel_rfl }
noncomputable def fb217 : Code := Tryz.f217.body.getD .skip
noncomputable def fn217 : Nat := Tryz.f217.ntmps
noncomputable abbrev ev217 (C : YC) (lf : Nat) (p : List Nat) := evY Tryz.prog C fn217 fx217.ord lf (sub fb217 p)
noncomputable def ff217 (x6 : O) (h : HW) : Rs :=
 ob x6 fun a0 =>
 some (.ret a0, h)
noncomputable def q217_1 (C : YC) (lf : Nat) (r : K1) (h : HW) : Rs :=
 r (some (.bool true)) h
theorem q217_1_eq (C : YC) (lf : Nat) (r : K1) (KN : KF) (KE : KX) : ∀ F h, ev217 C lf [1, 1, 1, 1, 1, 1] F h KN (fun F h => r (F 6) h) KE = q217_1 C lf r h := by
  intro F h; kernel_rfl
noncomputable def q217_37 (C : YC) (lf : Nat) (n : K6) (r : K1) (e1 : K0) (x3 x8 x9 x50 x51 x52 : O) (h : HW) : Rs :=
 ob x52 fun a3 =>
 ob x51 fun a4 =>
 ob (bin Tryz.prog .lss 3 a3 a4) fun y5 =>
 yIf y5
 (ob x50 fun a6 =>
 ob x52 fun a7 =>
 ob (ixS 1 a6 a7) fun y8 =>
 ob (ld1 y8 h) fun y9 =>
 ob (semNil y9) fun y10 =>
 ob (ld1 y10 h) fun y11 =>
 ob (bin Tryz.prog .gtr 3 y11 (.int .i64 0)) fun y12 =>
 yIf y12
 (ob x52 fun a13 =>
 ob (bin Tryz.prog .add 3 a13 (.int .i64 1)) fun y14 =>
 n x3 x8 x9 x50 x51 (some y14) h)
 (ob x3 fun a15 =>
 ob (ld1 a15 h) fun y16 =>
 ob (semNil y16) fun y17 =>
 ob (fa 0 y17) fun y18 =>
 ob (ld1 y18 h) fun y19 =>
 bc (C (.fn 284) [y19] h) fun y20 h20 =>
 ob (ext 0 y20) fun y21 =>
 ob (ext 1 y20) fun y22 =>
 ob (bin Tryz.prog .neq 23 y22 (.int .i64 0)) fun y23 =>
 yIf y23
 (ob x9 fun a24 =>
 cv false C a24 [] h20 fun y25 h25 =>
 r (some (.bool false)) h25)
 (ob (bin Tryz.prog .add 3 y21 (.int .i64 1)) fun y26 =>
 ob (semNil y9) fun y27 =>
 ob (st 1 y27 y26 h20) fun h28 =>
 ob x8 fun a29 =>
 ob (ld1 a29 h28) fun y30 =>
 b2 (ybs Tryz.prog 380 1 [0] [y9] h28) fun y31 h31 =>
 b2 (ybl Tryz.prog .append #[380, 380] [y30, y31] h31) fun y32 h32 =>
 ob x8 fun a33 =>
 ob (st 1 a33 y32 h32) fun h34 =>
 ob x52 fun a35 =>
 ob (bin Tryz.prog .add 3 a35 (.int .i64 1)) fun y36 =>
 n x3 x8 x9 x50 x51 (some y36) h34)))
 (e1 h)
theorem q217_37_eq (C : YC) (lf : Nat) (n : K6) (r : K1) (e1 : K0) (KE : KX) : ∀ F h, ev217 C lf [1, 1, 1, 1, 1, 0, 1, 0, 0] F h (fun F h => n (F 3) (F 8) (F 9) (F 50) (F 51) (F 52) h) (fun F h => r (F 6) h) (bk 1 (fun F h => e1 h) KE) = q217_37 C lf n r e1 (F 3) (F 8) (F 9) (F 50) (F 51) (F 52) h := by
  intro F h; kernel_rfl
noncomputable def l217_2 (C : YC) (lf : Nat) (r : K1) (e1 : K0) (k : O × O × O × O × O × O → HW → Rs) (s : O × O × O × O × O × O) (h : HW) : Rs :=
 q217_37 C lf (fun x3 x8 x9 x50 x51 x52 h => k (x3, x8, x9, x50, x51, x52) h) r e1 s.1 s.2.1 s.2.2.1 s.2.2.2.1 s.2.2.2.2.1 s.2.2.2.2.2 h
noncomputable def q217_45 (C : YC) (lf : Nat) (n : K6) (x1 x2 x3 x7 x8 x9 : O) (h : HW) : Rs :=
 ob x7 fun a38 =>
 ob x1 fun a39 =>
 ob x2 fun a40 =>
 bc (C (.fn 219) [a39, a40] h) fun y41 h41 =>
 b2 (ybs Tryz.prog 380 1 [0] [y41] h41) fun y42 h42 =>
 b2 (ybl Tryz.prog .append #[380, 380] [a38, y42] h42) fun y43 h43 =>
 ob (lenE Tryz.prog 380 y43) fun y44 =>
 n x3 x8 x9 (some y43) (some y44) (some (.int .i64 0)) h43
theorem q217_45_eq (C : YC) (lf : Nat) (n : K6) (KR : KF) (KE : KX) : ∀ F h, ev217 C lf [1, 1, 1, 1, 1, 0, 0] F h (fun F h => n (F 3) (F 8) (F 9) (F 50) (F 51) (F 52) h) KR KE = q217_45 C lf n (F 1) (F 2) (F 3) (F 7) (F 8) (F 9) h := by
  intro F h; kernel_rfl
noncomputable def q217_46 (C : YC) (lf : Nat) (n : K0) (r : K1) (x1 x2 x3 x7 x8 x9 : O) (h : HW) : Rs :=
 q217_45 C lf (fun x3 x8 x9 x50 x51 x52 h => lp (l217_2 C lf r n) lf (x3, x8, x9, x50, x51, x52) h) x1 x2 x3 x7 x8 x9 h
theorem q217_46_eq (C : YC) (lf : Nat) (n : K0) (r : K1) (KE : KX) : ∀ F h, ev217 C lf [1, 1, 1, 1, 1, 0] F h (fun F h => n h) (fun F h => r (F 6) h) KE = q217_46 C lf n r (F 1) (F 2) (F 3) (F 7) (F 8) (F 9) h := cSeq (a := sub fb217 [1, 1, 1, 1, 1, 0, 0]) (b := sub fb217 [1, 1, 1, 1, 1, 0, 1]) (by kernel_rfl) (B := (fun F h => lp (l217_2 C lf r n) lf ((F 3), (F 8), (F 9), (F 50), (F 51), (F 52)) h)) (cBlock (a := sub fb217 [1, 1, 1, 1, 1, 0, 1, 0]) (by kernel_rfl) (cLoop (g := fun F => (F 3, F 8, F 9, F 50, F 51, F 52)) (body := l217_2 C lf r n) (by kernel_rfl) (fun k => (q217_37_eq C lf (fun x3 x8 x9 x50 x51 x52 h => k (x3, x8, x9, x50, x51, x52) h) r n KE)))) (q217_45_eq C lf (fun x3 x8 x9 x50 x51 x52 h => lp (l217_2 C lf r n) lf (x3, x8, x9, x50, x51, x52) h) (fun F h => r (F 6) h) KE)
noncomputable def q217_47 (C : YC) (lf : Nat) (r : K1) (x1 x2 x3 x7 x8 x9 : O) (h : HW) : Rs :=
 q217_46 C lf (fun h => q217_1 C lf r h) r x1 x2 x3 x7 x8 x9 h
theorem q217_47_eq (C : YC) (lf : Nat) (r : K1) (KN : KF) (KE : KX) : ∀ F h, ev217 C lf [1, 1, 1, 1, 1] F h KN (fun F h => r (F 6) h) KE = q217_47 C lf r (F 1) (F 2) (F 3) (F 7) (F 8) (F 9) h := cSeq (a := sub fb217 [1, 1, 1, 1, 1, 0]) (b := sub fb217 [1, 1, 1, 1, 1, 1]) (by kernel_rfl) (B := (fun F h => q217_1 C lf r h)) (q217_1_eq C lf r KN KE) (q217_46_eq C lf (fun h => q217_1 C lf r h) r KE)
noncomputable def q217_50 (C : YC) (lf : Nat) (n : K6) (x1 x2 x3 x7 x8 : O) (h : HW) : Rs :=
 ob x8 fun a48 =>
 ob x3 fun a49 =>
 n x1 x2 x3 x7 x8 (some (.fn (.func 282) [] [a48, a49])) h
theorem q217_50_eq (C : YC) (lf : Nat) (n : K6) (KR : KF) (KE : KX) : ∀ F h, ev217 C lf [1, 1, 1, 1, 0] F h (fun F h => n (F 1) (F 2) (F 3) (F 7) (F 8) (F 9) h) KR KE = q217_50 C lf n (F 1) (F 2) (F 3) (F 7) (F 8) h := by
  intro F h; kernel_rfl
noncomputable def q217_51 (C : YC) (lf : Nat) (r : K1) (x1 x2 x3 x7 x8 : O) (h : HW) : Rs :=
 q217_50 C lf (fun x1 x2 x3 x7 x8 x9 h => q217_47 C lf r x1 x2 x3 x7 x8 x9 h) x1 x2 x3 x7 x8 h
theorem q217_51_eq (C : YC) (lf : Nat) (r : K1) (KN : KF) (KE : KX) : ∀ F h, ev217 C lf [1, 1, 1, 1] F h KN (fun F h => r (F 6) h) KE = q217_51 C lf r (F 1) (F 2) (F 3) (F 7) (F 8) h := cSeq (a := sub fb217 [1, 1, 1, 1, 0]) (b := sub fb217 [1, 1, 1, 1, 1]) (by kernel_rfl) (B := (fun F h => q217_47 C lf r (F 1) (F 2) (F 3) (F 7) (F 8) (F 9) h)) (q217_47_eq C lf r KN KE) (q217_50_eq C lf (fun x1 x2 x3 x7 x8 x9 h => q217_47 C lf r x1 x2 x3 x7 x8 x9 h) (fun F h => r (F 6) h) KE)
noncomputable def q217_53 (C : YC) (lf : Nat) (n : K5) (x1 x2 x3 x7 : O) (h : HW) : Rs :=
 b2 (yAl Tryz.prog 380 h) fun y52 h52 =>
 n x1 x2 x3 x7 (some y52) h52
theorem q217_53_eq (C : YC) (lf : Nat) (n : K5) (KR : KF) (KE : KX) : ∀ F h, ev217 C lf [1, 1, 1, 0] F h (fun F h => n (F 1) (F 2) (F 3) (F 7) (F 8) h) KR KE = q217_53 C lf n (F 1) (F 2) (F 3) (F 7) h := by
  intro F h; kernel_rfl
noncomputable def q217_54 (C : YC) (lf : Nat) (r : K1) (x1 x2 x3 x7 : O) (h : HW) : Rs :=
 q217_53 C lf (fun x1 x2 x3 x7 x8 h => q217_51 C lf r x1 x2 x3 x7 x8 h) x1 x2 x3 x7 h
theorem q217_54_eq (C : YC) (lf : Nat) (r : K1) (KN : KF) (KE : KX) : ∀ F h, ev217 C lf [1, 1, 1] F h KN (fun F h => r (F 6) h) KE = q217_54 C lf r (F 1) (F 2) (F 3) (F 7) h := cSeq (a := sub fb217 [1, 1, 1, 0]) (b := sub fb217 [1, 1, 1, 1]) (by kernel_rfl) (B := (fun F h => q217_51 C lf r (F 1) (F 2) (F 3) (F 7) (F 8) h)) (q217_51_eq C lf r KN KE) (q217_53_eq C lf (fun x1 x2 x3 x7 x8 h => q217_51 C lf r x1 x2 x3 x7 x8 h) (fun F h => r (F 6) h) KE)
noncomputable def q217_82 (C : YC) (lf : Nat) (n : K4) (r : K1) (x1 x2 x3 x7 : O) (h : HW) : Rs :=
 ob x1 fun a55 =>
 ob x2 fun a56 =>
 bc (C (.fn 219) [a55, a56] h) fun y57 h57 =>
 ob (semNil y57) fun y58 =>
 ob (ld1 y58 h57) fun y59 =>
 ob (bin Tryz.prog .gtr 3 y59 (.int .i64 0)) fun y60 =>
 yIf y60
 (r (some (.bool true)) h57)
 (ob x2 fun a61 =>
 ob (bin Tryz.prog .geq 3 a61 (.int .i64 22)) fun y62 =>
 yIf y62
 (ob x1 fun a63 =>
 ob (semNil a63) fun y64 =>
 ob (fa 35 y64) fun y65 =>
 ob x1 fun a66 =>
 ob x2 fun a67 =>
 ob (bin Tryz.prog .sub 3 a67 (.int .i64 22)) fun y68 =>
 ob (bin Tryz.prog .quo 3 y68 (.int .i64 16)) fun y69 =>
 ob (semNil a66) fun y70 =>
 ob (fa 36 y70) fun y71 =>
 ob (ixA 16 17 y71 y69) fun y72 =>
 ob (fa 0 y72) fun y73 =>
 b2 (ybs Tryz.prog 380 2 [0, 1] [y65, y73] h57) fun y74 h74 =>
 n x1 x2 x3 (some y74) h74)
 (ob x2 fun a75 =>
 ob (bin Tryz.prog .geq 3 a75 (.int .i64 6)) fun y76 =>
 yIf y76
 (ob x1 fun a77 =>
 ob (semNil a77) fun y78 =>
 ob (fa 18 y78) fun y79 =>
 ob (fa 0 y79) fun y80 =>
 b2 (ybs Tryz.prog 380 1 [0] [y80] h57) fun y81 h81 =>
 n x1 x2 x3 (some y81) h81)
 (n x1 x2 x3 x7 h57)))
theorem q217_82_eq (C : YC) (lf : Nat) (n : K4) (r : K1) (KE : KX) : ∀ F h, ev217 C lf [1, 1, 0] F h (fun F h => n (F 1) (F 2) (F 3) (F 7) h) (fun F h => r (F 6) h) KE = q217_82 C lf n r (F 1) (F 2) (F 3) (F 7) h := by
  intro F h; kernel_rfl
noncomputable def q217_83 (C : YC) (lf : Nat) (r : K1) (x1 x2 x3 x7 : O) (h : HW) : Rs :=
 q217_82 C lf (fun x1 x2 x3 x7 h => q217_54 C lf r x1 x2 x3 x7 h) r x1 x2 x3 x7 h
theorem q217_83_eq (C : YC) (lf : Nat) (r : K1) (KN : KF) (KE : KX) : ∀ F h, ev217 C lf [1, 1] F h KN (fun F h => r (F 6) h) KE = q217_83 C lf r (F 1) (F 2) (F 3) (F 7) h := cSeq (a := sub fb217 [1, 1, 0]) (b := sub fb217 [1, 1, 1]) (by kernel_rfl) (B := (fun F h => q217_54 C lf r (F 1) (F 2) (F 3) (F 7) h)) (q217_54_eq C lf r KN KE) (q217_82_eq C lf (fun x1 x2 x3 x7 h => q217_54 C lf r x1 x2 x3 x7 h) r KE)
noncomputable def q217_84 (C : YC) (lf : Nat) (n : K4) (x1 x2 x3 : O) (h : HW) : Rs :=
 n x1 x2 x3 (some (.val (.slice none 0 0))) h
theorem q217_84_eq (C : YC) (lf : Nat) (n : K4) (KR : KF) (KE : KX) : ∀ F h, ev217 C lf [1, 0] F h (fun F h => n (F 1) (F 2) (F 3) (F 7) h) KR KE = q217_84 C lf n (F 1) (F 2) (F 3) h := by
  intro F h; kernel_rfl
noncomputable def q217_85 (C : YC) (lf : Nat) (r : K1) (x1 x2 x3 : O) (h : HW) : Rs :=
 q217_84 C lf (fun x1 x2 x3 x7 h => q217_83 C lf r x1 x2 x3 x7 h) x1 x2 x3 h
theorem q217_85_eq (C : YC) (lf : Nat) (r : K1) (KN : KF) (KE : KX) : ∀ F h, ev217 C lf [1] F h KN (fun F h => r (F 6) h) KE = q217_85 C lf r (F 1) (F 2) (F 3) h := cSeq (a := sub fb217 [1, 0]) (b := sub fb217 [1, 1]) (by kernel_rfl) (B := (fun F h => q217_83 C lf r (F 1) (F 2) (F 3) (F 7) h)) (q217_83_eq C lf r KN KE) (q217_84_eq C lf (fun x1 x2 x3 x7 h => q217_83 C lf r x1 x2 x3 x7 h) (fun F h => r (F 6) h) KE)
noncomputable def q217_88 (C : YC) (lf : Nat) (n : K3) (x0 x1 x2 : O) (h : HW) : Rs :=
 ob x0 fun a86 =>
 b2 (ybx 213 a86 h) fun y87 h87 =>
 n x1 x2 (some y87) h87
theorem q217_88_eq (C : YC) (lf : Nat) (n : K3) (KR : KF) (KE : KX) : ∀ F h, ev217 C lf [0] F h (fun F h => n (F 1) (F 2) (F 3) h) KR KE = q217_88 C lf n (F 0) (F 1) (F 2) h := by
  intro F h; kernel_rfl
noncomputable def q217_89 (C : YC) (lf : Nat) (r : K1) (x0 x1 x2 : O) (h : HW) : Rs :=
 q217_88 C lf (fun x1 x2 x3 h => q217_85 C lf r x1 x2 x3 h) x0 x1 x2 h
theorem q217_89_eq (C : YC) (lf : Nat) (r : K1) (KN : KF) (KE : KX) : ∀ F h, ev217 C lf [] F h KN (fun F h => r (F 6) h) KE = q217_89 C lf r (F 0) (F 1) (F 2) h := cSeq (a := sub fb217 [0]) (b := sub fb217 [1]) (by kernel_rfl) (B := (fun F h => q217_85 C lf r (F 1) (F 2) (F 3) h)) (q217_85_eq C lf r KN KE) (q217_88_eq C lf (fun x1 x2 x3 h => q217_85 C lf r x1 x2 x3 h) (fun F h => r (F 6) h) KE)
noncomputable def fs217 (C : YC) (lf : Nat) (a0 a1 a2 : SV) (h : HW) : Rs := q217_89 C lf ff217 (some a0) (some a1) (some a2) h
theorem fs217_eq (C : YC) (lf : Nat) (a0 a1 a2 : SV) (h : HW) : yFn Tryz.prog fx217 C lf [a0, a1, a2] h = fs217 C lf a0 a1 a2 h :=
  fnOf (K := (fun F h => ff217 (F 6) h)) (b := fb217) (N := fn217) (by kernel_rfl) (by kernel_rfl) (by kernel_rfl) (((q217_89_eq C lf ff217 (fun F h => ff217 (F 6) h) (fun _ _ _ => none)) (frOf [a0, a1, a2]) h).trans (by kernel_rfl))
noncomputable def ft217 (C : YC) (lf : Nat) (args : List SV) (h : HW) : Rs := match args with | [a0, a1, a2] => fs217 C lf a0 a1 a2 h | _ => none
theorem ft217_eq (C : YC) (lf : Nat) (args : List SV) (h : HW) (r : Out × HW) (e : ft217 C lf args h = some r) : Nat.ble args.length fx217.fn.ntmps = true ∧ yFn Tryz.prog fx217 C lf args h = some r := by
  rcases args with _ | ⟨a0, _ | ⟨a1, _ | ⟨a2, _ | ⟨_, _⟩⟩⟩⟩ <;> first | (cases e; done) | exact ⟨by kernel_rfl, (fs217_eq ..).trans e⟩
noncomputable def fy217 : YX Tryz.prog := ⟨fx217, ft217, ft217_eq⟩

/-! FN 218 (*tinsel/blocks.Store).Write -/
noncomputable def fx218 : XF Tryz.prog := { f := 218, fn := Tryz.f218, ord := fun _ => .text, isFn := Tryz.func218, isBody := by kernel_rfl, isPlain := by kernel_rfl, isSmall := by kernel_rfl, isOK := by kernel_rfl }
noncomputable def fb218 : Code := Tryz.f218.body.getD .skip
noncomputable def fn218 : Nat := Tryz.f218.ntmps
noncomputable abbrev ev218 (C : YC) (lf : Nat) (p : List Nat) := evY Tryz.prog C fn218 fx218.ord lf (sub fb218 p)
noncomputable def ff218 (x8 : O) (h : HW) : Rs :=
 ob x8 fun a0 =>
 some (.ret a0, h)
noncomputable def q218_39 (C : YC) (lf : Nat) (r : K1) (x0 x1 x2 x3 : O) (h : HW) : Rs :=
 ob x0 fun a1 =>
 bc (C (.fn 285) [a1] h) fun y2 h2 =>
 ob (unE .not y2) fun y3 =>
 yIf y3
 (r (some (.int .i64 14)) h2)
 (ob x0 fun a4 =>
 ob x1 fun a5 =>
 bc (C (.fn 286) [a4, a5] h2) fun y6 h6 =>
 ob (unE .not y6) fun y7 =>
 bc (gd false (some y7) (ob x2 fun a8 =>
 some (.ret a8, h6)) h6) fun y9 h9 =>
 bc (gd false (some y7) (ob (bin Tryz.prog .lss 3 y9 (.int .i64 0)) fun y10 =>
 some (.ret y10, h9)) h9) fun y11 h11 =>
 ob (ypk y7 (.bool true) y11) fun y12 =>
 bc (gd false (some y12) (ob x2 fun a13 =>
 some (.ret a13, h11)) h11) fun y14 h14 =>
 bc (gd false (some y12) (ob (bin Tryz.prog .gtr 3 y14 (.int .i64 64)) fun y15 =>
 some (.ret y15, h14)) h14) fun y16 h16 =>
 ob (ypk y12 (.bool true) y16) fun y17 =>
 bc (gd false (some y17) (ob x3 fun a18 =>
 some (.ret a18, h16)) h16) fun y19 h19 =>
 bc (gd false (some y17) (ob (lenE Tryz.prog 31 y19) fun y20 =>
 some (.ret y20, h19)) h19) fun y21 h21 =>
 bc (gd false (some y17) (ob x2 fun a22 =>
 some (.ret a22, h21)) h21) fun y23 h23 =>
 bc (gd false (some y17) (ob (bin Tryz.prog .sub 3 (.int .i64 64) y23) fun y24 =>
 some (.ret y24, h23)) h23) fun y25 h25 =>
 bc (gd false (some y17) (ob (bin Tryz.prog .gtr 3 y21 y25) fun y26 =>
 some (.ret y26, h25)) h25) fun y27 h27 =>
 ob (ypk y17 (.bool true) y27) fun y28 =>
 yIf y28
 (r (some (.int .i64 22)) h27)
 (ob x0 fun a29 =>
 ob (semNil a29) fun y30 =>
 ob (fa 65 y30) fun y31 =>
 ob (ld1 y31 h27) fun y32 =>
 ob x1 fun a33 =>
 ob (ixS 64 y32 a33) fun y34 =>
 ob x2 fun a35 =>
 ob (semSlice Tryz.prog 182 y34 (some a35) none) fun y36 =>
 ob x3 fun a37 =>
 b2 (ybl Tryz.prog .copy #[31, 31] [y36, a37] h27) fun y38 h38 =>
 r (some (.int .i64 0)) h38))
theorem q218_39_eq (C : YC) (lf : Nat) (r : K1) (KN : KF) (KE : KX) : ∀ F h, ev218 C lf [] F h KN (fun F h => r (F 8) h) KE = q218_39 C lf r (F 0) (F 1) (F 2) (F 3) h := by
  intro F h; kernel_rfl
noncomputable def fs218 (C : YC) (lf : Nat) (a0 a1 a2 a3 : SV) (h : HW) : Rs := q218_39 C lf ff218 (some a0) (some a1) (some a2) (some a3) h
theorem fs218_eq (C : YC) (lf : Nat) (a0 a1 a2 a3 : SV) (h : HW) : yFn Tryz.prog fx218 C lf [a0, a1, a2, a3] h = fs218 C lf a0 a1 a2 a3 h :=
  fnOf (K := (fun F h => ff218 (F 8) h)) (b := fb218) (N := fn218) (by kernel_rfl) (by kernel_rfl) (by kernel_rfl) (((q218_39_eq C lf ff218 (fun F h => ff218 (F 8) h) (fun _ _ _ => none)) (frOf [a0, a1, a2, a3]) h).trans (by kernel_rfl))
noncomputable def ft218 (C : YC) (lf : Nat) (args : List SV) (h : HW) : Rs := match args with | [a0, a1, a2, a3] => fs218 C lf a0 a1 a2 a3 h | _ => none
theorem ft218_eq (C : YC) (lf : Nat) (args : List SV) (h : HW) (r : Out × HW) (e : ft218 C lf args h = some r) : Nat.ble args.length fx218.fn.ntmps = true ∧ yFn Tryz.prog fx218 C lf args h = some r := by
  rcases args with _ | ⟨a0, _ | ⟨a1, _ | ⟨a2, _ | ⟨a3, _ | ⟨_, _⟩⟩⟩⟩⟩ <;> first | (cases e; done) | exact ⟨by kernel_rfl, (fs218_eq ..).trans e⟩
noncomputable def fy218 : YX Tryz.prog := ⟨fx218, ft218, ft218_eq⟩

/-! FN 219 (*tinsel/inode.node).place -/
noncomputable def fx219 : XF Tryz.prog := { f := 219, fn := Tryz.f219, ord := fun _ => .text, isFn := Tryz.func219, isBody := by kernel_rfl, isPlain := by kernel_rfl, isSmall := by kernel_rfl, isOK := by kernel_rfl }
noncomputable def fb219 : Code := Tryz.f219.body.getD .skip
noncomputable def fn219 : Nat := Tryz.f219.ntmps
noncomputable abbrev ev219 (C : YC) (lf : Nat) (p : List Nat) := evY Tryz.prog C fn219 fx219.ord lf (sub fb219 p)
noncomputable def ff219 (x4 : O) (h : HW) : Rs :=
 ob x4 fun a0 =>
 some (.ret a0, h)
noncomputable def q219_27 (C : YC) (lf : Nat) (r : K1) (x0 x1 : O) (h : HW) : Rs :=
 ob x1 fun a1 =>
 ob (bin Tryz.prog .lss 3 a1 (.int .i64 6)) fun y2 =>
 yIf y2
 (ob x0 fun a3 =>
 ob x1 fun a4 =>
 ob (semNil a3) fun y5 =>
 ob (fa 12 y5) fun y6 =>
 ob (ixA 6 1 y6 a4) fun y7 =>
 r (some y7) h)
 (ob x1 fun a8 =>
 ob (bin Tryz.prog .lss 3 a8 (.int .i64 22)) fun y9 =>
 yIf y9
 (ob x0 fun a10 =>
 ob x1 fun a11 =>
 ob (bin Tryz.prog .sub 3 a11 (.int .i64 6)) fun y12 =>
 ob (semNil a10) fun y13 =>
 ob (fa 18 y13) fun y14 =>
 ob (fa 1 y14) fun y15 =>
 ob (ixA 16 1 y15 y12) fun y16 =>
 r (some y16) h)
 (ob x1 fun a17 =>
 ob (bin Tryz.prog .sub 3 a17 (.int .i64 22)) fun y18 =>
 ob x0 fun a19 =>
 ob (bin Tryz.prog .quo 3 y18 (.int .i64 16)) fun y20 =>
 ob (bin Tryz.prog .rem 3 y18 (.int .i64 16)) fun y21 =>
 ob (semNil a19) fun y22 =>
 ob (fa 36 y22) fun y23 =>
 ob (ixA 16 17 y23 y20) fun y24 =>
 ob (fa 1 y24) fun y25 =>
 ob (ixA 16 1 y25 y21) fun y26 =>
 r (some y26) h))
theorem q219_27_eq (C : YC) (lf : Nat) (r : K1) (KN : KF) (KE : KX) : ∀ F h, ev219 C lf [] F h KN (fun F h => r (F 4) h) KE = q219_27 C lf r (F 0) (F 1) h := by
  intro F h; kernel_rfl
noncomputable def fs219 (C : YC) (lf : Nat) (a0 a1 : SV) (h : HW) : Rs := q219_27 C lf ff219 (some a0) (some a1) h
theorem fs219_eq (C : YC) (lf : Nat) (a0 a1 : SV) (h : HW) : yFn Tryz.prog fx219 C lf [a0, a1] h = fs219 C lf a0 a1 h :=
  fnOf (K := (fun F h => ff219 (F 4) h)) (b := fb219) (N := fn219) (by kernel_rfl) (by kernel_rfl) (by kernel_rfl) (((q219_27_eq C lf ff219 (fun F h => ff219 (F 4) h) (fun _ _ _ => none)) (frOf [a0, a1]) h).trans (by kernel_rfl))
noncomputable def ft219 (C : YC) (lf : Nat) (args : List SV) (h : HW) : Rs := match args with | [a0, a1] => fs219 C lf a0 a1 h | _ => none
theorem ft219_eq (C : YC) (lf : Nat) (args : List SV) (h : HW) (r : Out × HW) (e : ft219 C lf args h = some r) : Nat.ble args.length fx219.fn.ntmps = true ∧ yFn Tryz.prog fx219 C lf args h = some r := by
  rcases args with _ | ⟨a0, _ | ⟨a1, _ | ⟨_, _⟩⟩⟩ <;> first | (cases e; done) | exact ⟨by kernel_rfl, (fs219_eq ..).trans e⟩
noncomputable def fy219 : YX Tryz.prog := ⟨fx219, ft219, ft219_eq⟩

end Go.Proofs.YtoglpmfmnknlaaaGreatDoor.Eva
