/- What is proved of the functions' texts holds of their calls: InodeShort. -/
import Derived.Test.YtomialandfplkaaDoorCards
import Derived.Test.YtomialandfplkaaDoorTie
import Derived.WalkKit
import Derived.ProofKit
import Derived.OpenShut
import Derived.Deep.DeepHandedRow
import Derived.Lib.LaidTab
import Derived.Test.YtomialandfplkaaDoorWInodeShortm3
import Derived.Test.YtomialandfplkaaDoorWInodeShortm2
import Derived.Test.YtomialandfplkaaDoorWInodeShortm4
set_option linter.unusedSimpArgs false
set_option linter.unusedVariables false
namespace Go.Proofs.YtomialandfplkaaDoor.Eva
open Go.Xe
set_option maxRecDepth 100000
set_option linter.unusedVariables false
noncomputable def fx35 : XF Tryd.prog := ⟨35, Tryd.f35, fun _ => .text, Tryd.func35, by kernel_rfl, by kernel_rfl, by kernel_rfl, by kernel_rfl⟩
noncomputable def ff35 (x0 : O) (h : HW) : Rs :=
 ob x0 fun a0 =>
 some (.ret a0, h)
noncomputable def q35_51 (C : YC) (lf : Nat) (r : K1) (h : HW) : Rs :=
 bc (C (.fn 36) [(.int .i64 4), (.int .i64 2)] h) fun y1 h1 =>
 ob (ext 0 y1) fun y2 =>
 ob (ext 1 y1) fun y3 =>
 ob (bin Tryd.prog .eql 64 y2 (.val (.pointer none))) fun y4 =>
 bc (gd false (some y4) (some (.ret y3, h1)) h1) fun y5 h5 =>
 bc (gd false (some y4) (bc (C (.fn 34) [y5] h5) fun y6 h6 =>
 some (.ret y6, h6)) h5) fun y7 h7 =>
 bc (gd false (some y4) (ob (bin Tryd.prog .neq 3 y7 (.int .i64 0)) fun y8 =>
 some (.ret y8, h7)) h7) fun y9 h9 =>
 ob (ypk y4 (.bool true) y9) fun y10 =>
 yIf y10
 (r (some (.bool false)) h9)
 (bc (C (.fn 37) [y2, (.int .i64 33188), (.int .i64 0), (.int .i64 0)] h9) fun y11 h11 =>
 ob (ext 0 y11) fun y12 =>
 ob (ext 1 y11) fun y13 =>
 b2 (ybs Tryd.prog 24 2 [0, 1] [(.int .u8 97), (.int .u8 98)] h11) fun y14 h14 =>
 b2 (ycv Tryd.prog 24 24 y14 h14) fun y15 h15 =>
 bc (C (.fn 38) [y2, y12, (.int .i64 100), y15] h15) fun y16 h16 =>
 ob (ext 0 y16) fun y17 =>
 ob (ext 1 y16) fun y18 =>
 bc (C (.fn 41) [y2, y12, (.int .i64 98), (.int .i64 10)] h16) fun y19 h19 =>
 ob (ext 0 y19) fun y20 =>
 ob (ext 1 y19) fun y21 =>
 ob (bin Tryd.prog .eql 3 y12 (.int .i64 1)) fun y22 =>
 bc (gd true (some y22) (some (.ret y13, h19)) h19) fun y23 h23 =>
 bc (gd true (some y22) (bc (C (.fn 34) [y23] h23) fun y24 h24 =>
 some (.ret y24, h24)) h23) fun y25 h25 =>
 bc (gd true (some y22) (ob (bin Tryd.prog .eql 3 y25 (.int .i64 0)) fun y26 =>
 some (.ret y26, h25)) h25) fun y27 h27 =>
 ob (ypk y22 y27 (.bool false)) fun y28 =>
 bc (gd true (some y28) (some (.ret y17, h27)) h27) fun y29 h29 =>
 bc (gd true (some y28) (ob (bin Tryd.prog .eql 3 y29 (.int .i64 2)) fun y30 =>
 some (.ret y30, h29)) h29) fun y31 h31 =>
 ob (ypk y28 y31 (.bool false)) fun y32 =>
 bc (gd true (some y32) (some (.ret y18, h31)) h31) fun y33 h33 =>
 bc (gd true (some y32) (bc (C (.fn 34) [y33] h33) fun y34 h34 =>
 some (.ret y34, h34)) h33) fun y35 h35 =>
 bc (gd true (some y32) (ob (bin Tryd.prog .eql 3 y35 (.int .i64 0)) fun y36 =>
 some (.ret y36, h35)) h35) fun y37 h37 =>
 ob (ypk y32 y37 (.bool false)) fun y38 =>
 bc (gd true (some y38) (some (.ret y21, h37)) h37) fun y39 h39 =>
 bc (gd true (some y38) (bc (C (.fn 34) [y39] h39) fun y40 h40 =>
 some (.ret y40, h40)) h39) fun y41 h41 =>
 bc (gd true (some y38) (ob (bin Tryd.prog .eql 3 y41 (.int .i64 0)) fun y42 =>
 some (.ret y42, h41)) h41) fun y43 h43 =>
 ob (ypk y38 y43 (.bool false)) fun y44 =>
 bc (gd true (some y44) (some (.ret y20, h43)) h43) fun y45 h45 =>
 bc (gd true (some y44) (b2 (ycv Tryd.prog 24 9 y45 h45) fun y46 h46 =>
 some (.ret y46, h46)) h45) fun y47 h47 =>
 bc (gd true (some y44) (ob (bin Tryd.prog .eql 9 y47 (.str (bs [0, 0, 97, 98]))) fun y48 =>
 some (.ret y48, h47)) h47) fun y49 h49 =>
 ob (ypk y44 y49 (.bool false)) fun y50 =>
 r (some y50) h49)
theorem q35_51_eq (C : YC) (lf : Nat) (r : K1) (KN : KF) (KE : KX) : ∀ F h, evX fx35 C lf [] F h KN (fun F h => r (F 0) h) KE = q35_51 C lf r h := by
  intro F h; kernel_rfl
noncomputable def fs35 (C : YC) (lf : Nat) (h : HW) : Rs := q35_51 C lf ff35 h
theorem fs35_eq (C : YC) (lf : Nat) (h : HW) : yFn Tryd.prog fx35 C lf [] h = fs35 C lf h := fnX (K := (fun F h => ff35 (F 0) h)) (by kernel_rfl) (((q35_51_eq C lf ff35 (fun F h => ff35 (F 0) h) (fun _ _ _ => none)) _ h).trans (by kernel_rfl))
noncomputable def fy35 : YX Tryd.prog := Y0 fx35 fs35 fs35_eq (by kernel_rfl)
end Go.Proofs.YtomialandfplkaaDoor.Eva
namespace Go.Proofs.YtomialandfplkaaDoor.Eva
open Go.ChangeShapes Go.WideShapes Go.ChangeAt Go.RowKit Go.Xe
noncomputable def tabL {P : Program} : List (FuncId × YE P) → Tr (YE P)
  | [] => .nil
  | (f, x) :: xs => (tabL xs).put f x
noncomputable def tab : Tr (YE Tryd.prog) := tabL [(16, .fn fy16), (17, .fn fy17), (18, .fn fy18), (21, .fn fy21), (33, .fn fy33), (34, .fn fy34), (36, .fn fy36), (37, .fn fy37), (38, .fn fy38), (41, .fn fy41), (62, .fn fy62), (63, .fn fy63), (64, .fn fy64), (73, .fn fy73), (74, .fn fy74), (75, .fn fy75), (76, .fn fy76), (77, .fn fy77), (35, .fn fy35)]
def zs : List Int := [0, 1, 56, 2, 57, 49, 28, 3, 61, 58, 42, 50, 38, 29, 17, 4, 62, 47, 59, 36, 45, 43, 51, 22, 53, 39, 33, 30, 24, 18, 12, 5, 63, 55, 48, 27, 60, 41, 37, 16, 46, 35, 44, 21, 52, 32, 23, 11, 54, 26, 40, 15, 34, 20, 31, 10, 25, 14, 19, 9, 13, 8, 7, 6]
theorem mixed : Tryd.prog.follows .mixedOrders = true := by kernel_rfl
theorem laidOut : laidOutB Tryd.prog = true := by kernel_rfl
theorem own : ownKnob Tryd.prog.godebug = none := by kernel_rfl
theorem gTab : Tryd.prog.globalNamed "math/bits.deBruijn64tab" = some 0 := by kernel_rfl
theorem gTabType : (Tryd.prog.globals[0]?).map (·.type) = some 110 := by kernel_rfl
theorem cellsArr : Tryd.prog.cellsOf 110 = 64 := by kernel_rfl
theorem cellsEl : Tryd.prog.cellsOf 5 = 1 := by kernel_rfl
theorem table {W : World} (h : laidMetH Tryd.prog [("math/bits.deBruijn64tab", Rows.laid_math_bits_deBruijn64tab)] W) : Lib.TabIs Tryd.prog W "math/bits.deBruijn64tab" .u8 zs :=
  Lib.tabIs_of_head (rest := []) gTab gTabType Tryd.underlying110 Tryd.underlying5 cellsEl cellsArr h
noncomputable def objs : Hp := tabObjs 0 110 64 (zs.map (.int .u8))
noncomputable def laidWorld (os : Os) : World :=
  { World.holding Tryd.prog os ⟨#[], #[], []⟩ with heap := (World.holding Tryd.prog os ⟨#[], #[], []⟩).heap.modify 0 fun
      | .cells _ t frozen => .cells #[.int .u8 0, .int .u8 1, .int .u8 56, .int .u8 2, .int .u8 57, .int .u8 49, .int .u8 28, .int .u8 3, .int .u8 61, .int .u8 58, .int .u8 42, .int .u8 50, .int .u8 38, .int .u8 29, .int .u8 17, .int .u8 4, .int .u8 62, .int .u8 47, .int .u8 59, .int .u8 36, .int .u8 45, .int .u8 43, .int .u8 51, .int .u8 22, .int .u8 53, .int .u8 39, .int .u8 33, .int .u8 30, .int .u8 24, .int .u8 18, .int .u8 12, .int .u8 5, .int .u8 63, .int .u8 55, .int .u8 48, .int .u8 27, .int .u8 60, .int .u8 41, .int .u8 37, .int .u8 16, .int .u8 46, .int .u8 35, .int .u8 44, .int .u8 21, .int .u8 52, .int .u8 32, .int .u8 23, .int .u8 11, .int .u8 54, .int .u8 26, .int .u8 40, .int .u8 15, .int .u8 34, .int .u8 20, .int .u8 31, .int .u8 10, .int .u8 25, .int .u8 14, .int .u8 19, .int .u8 9, .int .u8 13, .int .u8 8, .int .u8 7, .int .u8 6] t frozen
      | o => o }
end Go.Proofs.YtomialandfplkaaDoor.Eva
namespace Go.Proofs.YtomialandfplkaaDoor.Eva
open Go.Xe
set_option maxRecDepth 100000 in
theorem livesK : saysY ((runY tab 100000 1000).call (.ent 35) [] ⟨1, 1, objs⟩) = true := by kernel_rfl
theorem saysY_spec {r : Rs} (h : saysY r = true) : ∃ h', r = some (.ret (.bool true), h') := by
  unfold saysY at h
  split at h
  · exact ⟨_, rfl⟩
  · cases h
noncomputable def conG : List SV → Option SV
  | [] => some (.bool true)
  | _ => none
noncomputable def conLives : Con Tryd.prog := conOf (tab := tab) (lf := 100000) (fuel := 1000) mixed 0 110 64 .u8 zs (by decide) 35 conG
  (fun args y h => by
    cases args with
    | nil => cases h; exact ⟨rfl, rfl⟩
    | cons a l => cases h)
  (fun args y h => by
    cases args with
    | nil =>
      cases h
      exact saysY_spec livesK
    | cons a l => cases h)
noncomputable def cons : List (Con Tryd.prog) := [conLives]
theorem con_lives {C : YC} {h : HW} (ht : hasTab 0 .u8 zs h = true) : conY cons C (.fn 35) [] h = some (.ret (.bool true), h) := by
  have h1 : conF cons 35 = some conLives := rfl
  have h2 : conLives.g [] h = some (.bool true) := by
    show (bif hasTab 0 .u8 zs h then conG [] else none) = _
    rw [ht]; rfl
  simp only [conY, h1, h2]
theorem con_other {C : YC} {f : Nat} (hf : Nat.beq 35 f = false) (args : List SV) (h : HW) : conY cons C (.fn f) args h = C (.fn f) args h := by
  have h1 : conF cons f = none := by
    show (bif Nat.beq 35 f then some conLives else none) = none
    rw [hf]; rfl
  simp only [conY, h1]
end Go.Proofs.YtomialandfplkaaDoor.Eva
namespace Go.Proofs.YtomialandfplkaaDoor.Eva
open Go.Xe
set_option linter.unusedSimpArgs false
noncomputable def tabF : Tr (YE Tryd.prog) := tabLC [(64, .fn fy64), (63, .fn fy63), (33, .fn fy33), (23, .fn fy23), (16, .fn fy16), (17, .fn fy17), (18, .fn fy18), (65, .fn fy65), (19, .fn fy19), (29, .fn fy29), (73, .fn fy73), (62, .fn fy62), (74, .fn fy74), (76, .fn fy76), (77, .fn fy77), (36, .fn fy36), (37, .fn fy37), (90, .fn fy90), (75, .fn fy75), (38, .fn fy38), (81, .fn fy81), (47, .fn fy47), (39, .fn fy39), (34, .fn fy34)]
theorem tabF_64 : getP (path 64) tabF = some (.fn fy64) := by kernel_rfl
theorem tabF_63 : getP (path 63) tabF = some (.fn fy63) := by kernel_rfl
theorem tabF_33 : getP (path 33) tabF = some (.fn fy33) := by kernel_rfl
theorem tabF_23 : getP (path 23) tabF = some (.fn fy23) := by kernel_rfl
theorem tabF_16 : getP (path 16) tabF = some (.fn fy16) := by kernel_rfl
theorem tabF_17 : getP (path 17) tabF = some (.fn fy17) := by kernel_rfl
theorem tabF_18 : getP (path 18) tabF = some (.fn fy18) := by kernel_rfl
theorem tabF_65 : getP (path 65) tabF = some (.fn fy65) := by kernel_rfl
theorem tabF_19 : getP (path 19) tabF = some (.fn fy19) := by kernel_rfl
theorem tabF_29 : getP (path 29) tabF = some (.fn fy29) := by kernel_rfl
theorem tabF_73 : getP (path 73) tabF = some (.fn fy73) := by kernel_rfl
theorem tabF_62 : getP (path 62) tabF = some (.fn fy62) := by kernel_rfl
theorem tabF_74 : getP (path 74) tabF = some (.fn fy74) := by kernel_rfl
theorem tabF_76 : getP (path 76) tabF = some (.fn fy76) := by kernel_rfl
theorem tabF_77 : getP (path 77) tabF = some (.fn fy77) := by kernel_rfl
theorem tabF_36 : getP (path 36) tabF = some (.fn fy36) := by kernel_rfl
theorem tabF_37 : getP (path 37) tabF = some (.fn fy37) := by kernel_rfl
theorem tabF_90 : getP (path 90) tabF = some (.fn fy90) := by kernel_rfl
theorem tabF_75 : getP (path 75) tabF = some (.fn fy75) := by kernel_rfl
theorem tabF_38 : getP (path 38) tabF = some (.fn fy38) := by kernel_rfl
theorem tabF_81 : getP (path 81) tabF = some (.fn fy81) := by kernel_rfl
theorem tabF_47 : getP (path 47) tabF = some (.fn fy47) := by kernel_rfl
theorem tabF_39 : getP (path 39) tabF = some (.fn fy39) := by kernel_rfl
theorem tabF_34 : getP (path 34) tabF = some (.fn fy34) := by kernel_rfl
theorem tabF_s64 {C : YC} {lf : Nat} {a0 : SV} {h : HW} : fy64.s C lf [a0] h = fs64 C lf a0 h := by kernel_rfl
theorem tabF_s63 {C : YC} {lf : Nat} {a0 : SV} {h : HW} : fy63.s C lf [a0] h = fs63 C lf a0 h := by kernel_rfl
theorem tabF_s33 {C : YC} {lf : Nat} {a0 a1 : SV} {h : HW} : fy33.s C lf [a0, a1] h = fs33 C lf a0 a1 h := by kernel_rfl
theorem tabF_s23 {C : YC} {lf : Nat} {a0 a1 : SV} {h : HW} : fy23.s C lf [a0, a1] h = fs23 C lf a0 a1 h := by kernel_rfl
theorem tabF_s16 {C : YC} {lf : Nat} {a0 : SV} {h : HW} : fy16.s C lf [a0] h = fs16 C lf a0 h := by kernel_rfl
theorem tabF_s17 {C : YC} {lf : Nat} {a0 : SV} {h : HW} : fy17.s C lf [a0] h = fs17 C lf a0 h := by kernel_rfl
theorem tabF_s18 {C : YC} {lf : Nat} {a0 a1 a2 a3 : SV} {h : HW} : fy18.s C lf [a0, a1, a2, a3] h = fs18 C lf a0 a1 a2 a3 h := by kernel_rfl
theorem tabF_s65 {C : YC} {lf : Nat} {a0 : SV} {h : HW} : fy65.s C lf [a0] h = fs65 C lf a0 h := by kernel_rfl
theorem tabF_s19 {C : YC} {lf : Nat} {a0 : SV} {h : HW} : fy19.s C lf [a0] h = fs19 C lf a0 h := by kernel_rfl
theorem tabF_s29 {C : YC} {lf : Nat} {a0 : SV} {h : HW} : fy29.s C lf [a0] h = fs29 C lf a0 h := by kernel_rfl
theorem tabF_s73 {C : YC} {lf : Nat} {a0 : SV} {h : HW} : fy73.s C lf [a0] h = fs73 C lf a0 h := by kernel_rfl
theorem tabF_s62 {C : YC} {lf : Nat} {a0 a1 : SV} {h : HW} : fy62.s C lf [a0, a1] h = fs62 C lf a0 a1 h := by kernel_rfl
theorem tabF_s74 {C : YC} {lf : Nat} {a0 a1 : SV} {h : HW} : fy74.s C lf [a0, a1] h = fs74 C lf a0 a1 h := by kernel_rfl
theorem tabF_s76 {C : YC} {lf : Nat} {a0 a1 : SV} {h : HW} : fy76.s C lf [a0, a1] h = fs76 C lf a0 a1 h := by kernel_rfl
theorem tabF_s77 {C : YC} {lf : Nat} {a0 a1 : SV} {h : HW} : fy77.s C lf [a0, a1] h = fs77 C lf a0 a1 h := by kernel_rfl
theorem tabF_s36 {C : YC} {lf : Nat} {a0 a1 : SV} {h : HW} : fy36.s C lf [a0, a1] h = fs36 C lf a0 a1 h := by kernel_rfl
theorem tabF_s37 {C : YC} {lf : Nat} {a0 a1 a2 a3 : SV} {h : HW} : fy37.s C lf [a0, a1, a2, a3] h = fs37 C lf a0 a1 a2 a3 h := by kernel_rfl
theorem tabF_s90 {C : YC} {lf : Nat} {a0 a1 : SV} {h : HW} : fy90.s C lf [a0, a1] h = fs90 C lf a0 a1 h := by kernel_rfl
theorem tabF_s75 {C : YC} {lf : Nat} {a0 a1 a2 : SV} {h : HW} : fy75.s C lf [a0, a1, a2] h = fs75 C lf a0 a1 a2 h := by kernel_rfl
theorem tabF_s38 {C : YC} {lf : Nat} {a0 a1 a2 a3 : SV} {h : HW} : fy38.s C lf [a0, a1, a2, a3] h = fs38 C lf a0 a1 a2 a3 h := by kernel_rfl
theorem tabF_s81 {C : YC} {lf : Nat} {a0 a1 : SV} {h : HW} : fy81.s C lf [a0, a1] h = fs81 C lf a0 a1 h := by kernel_rfl
theorem tabF_s47 {C : YC} {lf : Nat} {a0 : SV} {h : HW} : fy47.s C lf [a0] h = fs47 C lf a0 h := by kernel_rfl
theorem tabF_s39 {C : YC} {lf : Nat} {a0 : SV} {h : HW} : fy39.s C lf [a0] h = fs39 C lf a0 h := by kernel_rfl
theorem tabF_s34 {C : YC} {lf : Nat} {a0 : SV} {h : HW} : fy34.s C lf [a0] h = fs34 C lf a0 h := by kernel_rfl
theorem tabF_TzOK (m : Nat) : TzOK (runY tabF LF (m + 1)).call := by
  unfold TzOK; intros; simp only [call_fn (tab := tabF) (lf := LF) (n := m + 0) (k := m + 1) (y := fy64) (f := 64) rfl rfl tabF_64]; simp only [tabF_s64]
  apply tz_ok (C := (runY tabF LF (m + 0)).call) (lf := LF)   <;> assumption
theorem tabF_MadeOK (m : Nat) : MadeOK (runY tabF LF (m + 1)).call := by
  unfold MadeOK; intros; simp only [call_fn (tab := tabF) (lf := LF) (n := m + 0) (k := m + 1) (y := fy63) (f := 63) rfl rfl tabF_63]; simp only [tabF_s63]
  apply made_ok (C := (runY tabF LF (m + 0)).call) (lf := LF)   <;> assumption
theorem tabF_IsOK (m : Nat) : IsOK (runY tabF LF (m + 2)).call := by
  unfold IsOK; intros; simp only [call_fn (tab := tabF) (lf := LF) (n := m + 1) (k := m + 2) (y := fy33) (f := 33) rfl rfl tabF_33]; simp only [tabF_s33]
  apply is_ok (C := (runY tabF LF (m + 1)).call) (lf := LF)  (tabF_MadeOK (m + 0)) <;> assumption
theorem tabF_FreeOK (m : Nat) : FreeOK (runY tabF LF (m + 3)).call := by
  unfold FreeOK; intros; simp only [call_fn (tab := tabF) (lf := LF) (n := m + 2) (k := m + 3) (y := fy23) (f := 23) rfl rfl tabF_23]; simp only [tabF_s23]
  apply free_ok (C := (runY tabF LF (m + 2)).call) (lf := LF)  (tabF_MadeOK (m + 1)) (tabF_IsOK (m + 0)) <;> assumption
theorem tabF_NewOK (m : Nat) : NewOK (runY tabF LF (m + 1)).call := by
  unfold NewOK; intros; simp only [call_fn (tab := tabF) (lf := LF) (n := m + 0) (k := m + 1) (y := fy16) (f := 16) rfl rfl tabF_16]; simp only [tabF_s16]
  apply new_ok (C := (runY tabF LF (m + 0)).call) (lf := LF)   <;> assumption
theorem tabF_AllocOK (m : Nat) : AllocOK (runY tabF LF (m + 2)).call := by
  unfold AllocOK; intros; simp only [call_fn (tab := tabF) (lf := LF) (n := m + 1) (k := m + 2) (y := fy17) (f := 17) rfl rfl tabF_17]; simp only [tabF_s17]
  apply alloc_ok (C := (runY tabF LF (m + 1)).call) (lf := LF) (le_LF (by omega)) (tabF_MadeOK (m + 0)) (tabF_TzOK (m + 0)) <;> assumption
theorem tabF_WriteOK (m : Nat) : WriteOK (runY tabF LF (m + 3)).call := by
  unfold WriteOK; intros; simp only [call_fn (tab := tabF) (lf := LF) (n := m + 2) (k := m + 3) (y := fy18) (f := 18) rfl rfl tabF_18]; simp only [tabF_s18]
  apply write_ok (C := (runY tabF LF (m + 2)).call) (lf := LF)  (tabF_MadeOK (m + 1)) (tabF_IsOK (m + 0)) <;> assumption
theorem tabF_OnesOK (m : Nat) : OnesOK (runY tabF LF (m + 1)).call := by
  unfold OnesOK; intros; simp only [call_fn (tab := tabF) (lf := LF) (n := m + 0) (k := m + 1) (y := fy65) (f := 65) rfl rfl tabF_65]; simp only [tabF_s65]
  apply ones_ok (C := (runY tabF LF (m + 0)).call) (lf := LF)   <;> assumption
theorem tabF_LeftOK (m : Nat) : LeftOK (runY tabF LF (m + 2)).call := by
  unfold LeftOK; intros; simp only [call_fn (tab := tabF) (lf := LF) (n := m + 1) (k := m + 2) (y := fy19) (f := 19) rfl rfl tabF_19]; simp only [tabF_s19]
  apply left_ok (C := (runY tabF LF (m + 1)).call) (lf := LF) (le_LF (by omega)) (tabF_MadeOK (m + 0)) (tabF_OnesOK (m + 0)) <;> assumption
theorem tabF_TotalOK (m : Nat) : TotalOK (runY tabF LF (m + 2)).call := by
  unfold TotalOK; intros; simp only [call_fn (tab := tabF) (lf := LF) (n := m + 1) (k := m + 2) (y := fy29) (f := 29) rfl rfl tabF_29]; simp only [tabF_s29]
  apply total_ok (C := (runY tabF LF (m + 1)).call) (lf := LF)  (tabF_MadeOK (m + 0)) <;> assumption
theorem tabF_IsTOK (m : Nat) : IsTOK (runY tabF LF (m + 1)).call := by
  unfold IsTOK; intros; simp only [call_fn (tab := tabF) (lf := LF) (n := m + 0) (k := m + 1) (y := fy73) (f := 73) rfl rfl tabF_73]; simp only [tabF_s73]
  apply isT_ok (C := (runY tabF LF (m + 0)).call) (lf := LF)   <;> assumption
theorem tabF_IsInoOK (m : Nat) : IsInoOK (runY tabF LF (m + 2)).call := by
  unfold IsInoOK; intros; simp only [call_fn (tab := tabF) (lf := LF) (n := m + 1) (k := m + 2) (y := fy62) (f := 62) rfl rfl tabF_62]; simp only [tabF_s62]
  apply isIno_ok (C := (runY tabF LF (m + 1)).call) (lf := LF)  (tabF_IsTOK (m + 0)) <;> assumption
theorem tabF_GetOK (m : Nat) : GetOK (runY tabF LF (m + 3)).call := by
  unfold GetOK; intros; simp only [call_fn (tab := tabF) (lf := LF) (n := m + 2) (k := m + 3) (y := fy74) (f := 74) rfl rfl tabF_74]; simp only [tabF_s74]
  apply get_ok (C := (runY tabF LF (m + 2)).call) (lf := LF)  (tabF_IsTOK (m + 1)) (tabF_IsInoOK (m + 0)) <;> assumption
theorem tabF_PlaceOK (m : Nat) : PlaceOK (runY tabF LF (m + 1)).call := by
  unfold PlaceOK; intros; simp only [call_fn (tab := tabF) (lf := LF) (n := m + 0) (k := m + 1) (y := fy76) (f := 76) rfl rfl tabF_76]; simp only [tabF_s76]
  apply place_ok (C := (runY tabF LF (m + 0)).call) (lf := LF)   <;> assumption
theorem tabF_TouchOK (m : Nat) : TouchOK (runY tabF LF (m + 1)).call := by
  unfold TouchOK; intros; simp only [call_fn (tab := tabF) (lf := LF) (n := m + 0) (k := m + 1) (y := fy77) (f := 77) rfl rfl tabF_77]; simp only [tabF_s77]
  apply touch_ok (C := (runY tabF LF (m + 0)).call) (lf := LF)   <;> assumption
theorem tabF_NewTOK (m : Nat) : NewTOK (runY tabF LF (m + 2)).call := by
  unfold NewTOK; intros; simp only [call_fn (tab := tabF) (lf := LF) (n := m + 1) (k := m + 2) (y := fy36) (f := 36) rfl rfl tabF_36]; simp only [tabF_s36]
  apply newT_ok (C := (runY tabF LF (m + 1)).call) (lf := LF)  (tabF_NewOK (m + 0)) <;> assumption
theorem tabF_AllocTOK (m : Nat) : AllocTOK (runY tabF LF (m + 2)).call := by
  unfold AllocTOK; intros; simp only [call_fn (tab := tabF) (lf := LF) (n := m + 1) (k := m + 2) (y := fy37) (f := 37) rfl rfl tabF_37]; simp only [tabF_s37]
  apply allocT_ok (C := (runY tabF LF (m + 1)).call) (lf := LF) (le_LF (by omega)) (tabF_IsTOK (m + 0)) <;> assumption
theorem tabF_BackOK (m : Nat) : BackOK (runY tabF LF (m + 4)).call := by
  unfold BackOK; intros; simp only [call_fn (tab := tabF) (lf := LF) (n := m + 3) (k := m + 4) (y := fy90) (f := 90) rfl rfl tabF_90]; simp only [tabF_s90]
  apply back_ok (C := (runY tabF LF (m + 3)).call) (lf := LF) (le_LF (by omega)) (tabF_FreeOK (m + 0)) <;> assumption
theorem tabF_FillOK (m : Nat) : FillOK (runY tabF LF (m + 5)).call := by
  unfold FillOK; intros; simp only [call_fn (tab := tabF) (lf := LF) (n := m + 4) (k := m + 5) (y := fy75) (f := 75) rfl rfl tabF_75]; simp only [tabF_s75]
  apply fill_ok (C := (runY tabF LF (m + 4)).call) (lf := LF) (le_LF (by omega)) (tabF_PlaceOK (m + 3)) (tabF_AllocOK (m + 2)) (tabF_BackOK (m + 0)) <;> assumption
theorem tabF_TWriteOK (m : Nat) : TWriteOK (runY tabF LF (m + 6)).call := by
  unfold TWriteOK; intros; simp only [call_fn (tab := tabF) (lf := LF) (n := m + 5) (k := m + 6) (y := fy38) (f := 38) rfl rfl tabF_38]; simp only [tabF_s38]
  apply twrite_ok (C := (runY tabF LF (m + 5)).call) (lf := LF) (le_LF (by omega)) (tabF_GetOK (m + 2)) (tabF_PlaceOK (m + 4)) (tabF_FillOK (m + 0)) (tabF_WriteOK (m + 2)) (tabF_TouchOK (m + 4)) <;> assumption
theorem call_ent {P : Program} {tab : Tr (YE P)} {lf n k : Nat} {y : YX P} {f : FuncId} {args : List SV} {h : HW} (hk : k = n + 1) (hy : y.x.f = f) (hg : getP (path f) tab = some (.fn y)) : (runY tab lf k).call (.ent f) args h = y.s (runY tab lf n).call lf args h := by
  subst hk
  have : (runY tab lf (n + 1)).call (.ent f) args h = Go.Xe.runN (runY tab lf n) lf f args h (getP (path f) tab) := rfl
  rw [this, hg]
  simp only [Go.Xe.runN, hy, Nat.beq_refl, cond_true]
theorem layT_one (t : Nat) (y : SV) : (layT [(t, some y)]).get t = some y := by
  show (Tr.put .nil t y).get t = _
  rw [get_put, if_pos rfl]
theorem tabF_EachUsedOK (m : Nat) : EachUsedOK (runY tabF LF (m + 2)).call := by
  intro h0 h T n N wd b now us nd kb kl p A U
  rw [call_ent (tab := tabF) (lf := LF) (n := m + 1) (k := m + 2) (y := fy81) (f := 81) rfl rfl tabF_81, tabF_s81]
  refine eachUsed_ok (C := (runY tabF LF (m + 1)).call) (C' := (runY tabF LF m).call) (lf := LF) (le_LF (by omega)) (tabF_IsTOK m) (fun kl p kb v h y h' L e => ?_) A U
  obtain ⟨o, ho, hs⟩ := L.ol
  refine run_round ho hs ?_
  rw [← e, rt47_4_eq, layT_one]
theorem tabF_UsedTOK (m : Nat) : UsedTOK (runY tabF LF (m + 3)).call := by
  unfold UsedTOK; intros; simp only [call_fn (tab := tabF) (lf := LF) (n := m + 2) (k := m + 3) (y := fy47) (f := 47) rfl rfl tabF_47]; simp only [tabF_s47]
  apply usedT_ok (C := (runY tabF LF (m + 2)).call) (lf := LF) (tabF_EachUsedOK m) <;> assumption
theorem tabF_RoomTOK (m : Nat) : RoomTOK (runY tabF LF (m + 4)).call := by
  unfold RoomTOK; intros; simp only [call_fn (tab := tabF) (lf := LF) (n := m + 3) (k := m + 4) (y := fy39) (f := 39) rfl rfl tabF_39]; simp only [tabF_s39]
  apply roomT_ok (C := (runY tabF LF (m + 3)).call) (lf := LF)  (tabF_IsTOK (m + 2)) (tabF_TotalOK (m + 1)) (tabF_LeftOK (m + 1)) (tabF_UsedTOK (m + 0)) <;> assumption
theorem tabF_NumOK (m : Nat) : NumOK (runY tabF LF (m + 1)).call := by
  unfold NumOK; intros; simp only [call_fn (tab := tabF) (lf := LF) (n := m + 0) (k := m + 1) (y := fy34) (f := 34) rfl rfl tabF_34]; simp only [tabF_s34]
  apply num_ok (C := (runY tabF LF (m + 0)).call) (lf := LF)   <;> assumption
theorem tabAt_ofB {h : HW} (ht : hasTab 0 .u8 zs h = true) : TabAt h := by
  obtain ⟨h1, _, h2⟩ := hasTab_cell ht
  refine ⟨h1, fun i hi => ?_⟩
  have e : ∀ i, i < 64 → zs.getD i 0 = ((Lib.deBruijn64tab.getD i 0 : Nat) : Int) := by decide
  rw [h2 i hi, e i hi]
section
variable {w : World}
def FUELS : Nat := 10
theorem mainS (ht : hasTab 0 .u8 zs (hw0 w) = true) {n m : Int} (hn : IntKind.i64.min ≤ n ∧ n ≤ IntKind.i64.max) (hm : IntKind.i64.min ≤ m ∧ m ≤ IntKind.i64.max) {x : SV} {l : List Nat} (B : Bytes (hw0 w) x l) (hr : CapOK x) (hl : l.length ≤ 140737488351232) :
    ∃ h', fy8.s (conY cons (runY tabF LF FUELS).call) LF [.int .i64 n, .int .i64 m, x] (hw0 w) = some (.ret (.bool true), h') := by
  have m1 : IntKind.i64.min = -9223372036854775808 := rfl
  have m2 : IntKind.i64.max = 9223372036854775807 := rfl
  have hgn : 0 < (hw0 w).next := by
    obtain ⟨_, ⟨m, hm⟩, _⟩ := hasTab_cell ht
    exact hw0_row hm
  have c1 := tabF_NewTOK 8
  have c2 := tabF_AllocTOK 8
  have c3 := tabF_NumOK 9
  have c4 := tabF_TWriteOK 4
  have c5 := tabF_RoomTOK 6
  refine short_main (lf := LF) (C := conY cons (runY tabF LF 10).call) hgn (tabAt_ofB ht) ?_ ?_ ?_ ?_ ?_ (fun h F => con_lives ?_) (by omega) (by omega) (by omega) (by omega) B hr hl (fun j hj => ?_)
  · unfold NewTOK at *; simpa only [con_other (f := 36) rfl] using c1
  · unfold AllocTOK at *; simpa only [con_other (f := 37) rfl] using c2
  · unfold NumOK at *; simpa only [con_other (f := 34) rfl] using c3
  · unfold TWriteOK at *; simpa only [con_other (f := 38) rfl] using c4
  · unfold RoomTOK at *; simpa only [con_other (f := 39) rfl] using c5
  · rw [hasTab_same F.ng (F.same _ hgn (fun e => e))]; exact ht
  · rcases B.2 with ⟨rfl | ⟨_, rfl⟩, _⟩ | ⟨k1, ob, cap, lo, m, rfl, hm, _⟩
    · cases hj
    · cases hj
    · cases hj; exact hw0_row hm
end
end Go.Proofs.YtomialandfplkaaDoor.Eva
