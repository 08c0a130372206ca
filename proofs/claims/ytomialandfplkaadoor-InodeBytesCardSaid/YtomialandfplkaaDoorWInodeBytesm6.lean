/- What is proved of the functions' texts holds of their calls: InodeBytes. -/
import Derived.Test.YtomialandfplkaaDoorWInodeBytesm5
set_option linter.unusedSimpArgs false
set_option linter.unusedVariables false
namespace Go.Proofs.YtomialandfplkaaDoor.Eva
open Go.Xe
set_option linter.unusedSimpArgs false
noncomputable def tabG : Tr (YE Tryd.prog) := tabLC [(64, .fn fy64), (63, .fn fy63), (33, .fn fy33), (23, .fn fy23), (16, .fn fy16), (17, .fn fy17), (21, .fn fy21), (18, .fn fy18), (73, .fn fy73), (62, .fn fy62), (74, .fn fy74), (76, .fn fy76), (77, .fn fy77), (36, .fn fy36), (37, .fn fy37), (90, .fn fy90), (75, .fn fy75), (38, .fn fy38), (41, .fn fy41), (91, .fn fy91), (92, .fn fy92), (78, .fn fy78), (40, .fn fy40), (93, .fn fy93), (79, .fn fy79), (42, .fn fy42), (34, .fn fy34), (43, .fn fy43)]
theorem tabG_64 : getP (path 64) tabG = some (.fn fy64) := by kernel_rfl
theorem tabG_63 : getP (path 63) tabG = some (.fn fy63) := by kernel_rfl
theorem tabG_33 : getP (path 33) tabG = some (.fn fy33) := by kernel_rfl
theorem tabG_23 : getP (path 23) tabG = some (.fn fy23) := by kernel_rfl
theorem tabG_16 : getP (path 16) tabG = some (.fn fy16) := by kernel_rfl
theorem tabG_17 : getP (path 17) tabG = some (.fn fy17) := by kernel_rfl
theorem tabG_21 : getP (path 21) tabG = some (.fn fy21) := by kernel_rfl
theorem tabG_18 : getP (path 18) tabG = some (.fn fy18) := by kernel_rfl
theorem tabG_73 : getP (path 73) tabG = some (.fn fy73) := by kernel_rfl
theorem tabG_62 : getP (path 62) tabG = some (.fn fy62) := by kernel_rfl
theorem tabG_74 : getP (path 74) tabG = some (.fn fy74) := by kernel_rfl
theorem tabG_76 : getP (path 76) tabG = some (.fn fy76) := by kernel_rfl
theorem tabG_77 : getP (path 77) tabG = some (.fn fy77) := by kernel_rfl
theorem tabG_36 : getP (path 36) tabG = some (.fn fy36) := by kernel_rfl
theorem tabG_37 : getP (path 37) tabG = some (.fn fy37) := by kernel_rfl
theorem tabG_90 : getP (path 90) tabG = some (.fn fy90) := by kernel_rfl
theorem tabG_75 : getP (path 75) tabG = some (.fn fy75) := by kernel_rfl
theorem tabG_38 : getP (path 38) tabG = some (.fn fy38) := by kernel_rfl
theorem tabG_41 : getP (path 41) tabG = some (.fn fy41) := by kernel_rfl
theorem tabG_91 : getP (path 91) tabG = some (.fn fy91) := by kernel_rfl
theorem tabG_92 : getP (path 92) tabG = some (.fn fy92) := by kernel_rfl
theorem tabG_78 : getP (path 78) tabG = some (.fn fy78) := by kernel_rfl
theorem tabG_40 : getP (path 40) tabG = some (.fn fy40) := by kernel_rfl
theorem tabG_93 : getP (path 93) tabG = some (.fn fy93) := by kernel_rfl
theorem tabG_79 : getP (path 79) tabG = some (.fn fy79) := by kernel_rfl
theorem tabG_42 : getP (path 42) tabG = some (.fn fy42) := by kernel_rfl
theorem tabG_34 : getP (path 34) tabG = some (.fn fy34) := by kernel_rfl
theorem tabG_43 : getP (path 43) tabG = some (.fn fy43) := by kernel_rfl
theorem tabG_s64 {C : YC} {lf : Nat} {a0 : SV} {h : HW} : fy64.s C lf [a0] h = fs64 C lf a0 h := by kernel_rfl
theorem tabG_s63 {C : YC} {lf : Nat} {a0 : SV} {h : HW} : fy63.s C lf [a0] h = fs63 C lf a0 h := by kernel_rfl
theorem tabG_s33 {C : YC} {lf : Nat} {a0 a1 : SV} {h : HW} : fy33.s C lf [a0, a1] h = fs33 C lf a0 a1 h := by kernel_rfl
theorem tabG_s23 {C : YC} {lf : Nat} {a0 a1 : SV} {h : HW} : fy23.s C lf [a0, a1] h = fs23 C lf a0 a1 h := by kernel_rfl
theorem tabG_s16 {C : YC} {lf : Nat} {a0 : SV} {h : HW} : fy16.s C lf [a0] h = fs16 C lf a0 h := by kernel_rfl
theorem tabG_s17 {C : YC} {lf : Nat} {a0 : SV} {h : HW} : fy17.s C lf [a0] h = fs17 C lf a0 h := by kernel_rfl
theorem tabG_s21 {C : YC} {lf : Nat} {a0 a1 : SV} {h : HW} : fy21.s C lf [a0, a1] h = fs21 C lf a0 a1 h := by kernel_rfl
theorem tabG_s18 {C : YC} {lf : Nat} {a0 a1 a2 a3 : SV} {h : HW} : fy18.s C lf [a0, a1, a2, a3] h = fs18 C lf a0 a1 a2 a3 h := by kernel_rfl
theorem tabG_s73 {C : YC} {lf : Nat} {a0 : SV} {h : HW} : fy73.s C lf [a0] h = fs73 C lf a0 h := by kernel_rfl
theorem tabG_s62 {C : YC} {lf : Nat} {a0 a1 : SV} {h : HW} : fy62.s C lf [a0, a1] h = fs62 C lf a0 a1 h := by kernel_rfl
theorem tabG_s74 {C : YC} {lf : Nat} {a0 a1 : SV} {h : HW} : fy74.s C lf [a0, a1] h = fs74 C lf a0 a1 h := by kernel_rfl
theorem tabG_s76 {C : YC} {lf : Nat} {a0 a1 : SV} {h : HW} : fy76.s C lf [a0, a1] h = fs76 C lf a0 a1 h := by kernel_rfl
theorem tabG_s77 {C : YC} {lf : Nat} {a0 a1 : SV} {h : HW} : fy77.s C lf [a0, a1] h = fs77 C lf a0 a1 h := by kernel_rfl
theorem tabG_s36 {C : YC} {lf : Nat} {a0 a1 : SV} {h : HW} : fy36.s C lf [a0, a1] h = fs36 C lf a0 a1 h := by kernel_rfl
theorem tabG_s37 {C : YC} {lf : Nat} {a0 a1 a2 a3 : SV} {h : HW} : fy37.s C lf [a0, a1, a2, a3] h = fs37 C lf a0 a1 a2 a3 h := by kernel_rfl
theorem tabG_s90 {C : YC} {lf : Nat} {a0 a1 : SV} {h : HW} : fy90.s C lf [a0, a1] h = fs90 C lf a0 a1 h := by kernel_rfl
theorem tabG_s75 {C : YC} {lf : Nat} {a0 a1 a2 : SV} {h : HW} : fy75.s C lf [a0, a1, a2] h = fs75 C lf a0 a1 a2 h := by kernel_rfl
theorem tabG_s38 {C : YC} {lf : Nat} {a0 a1 a2 a3 : SV} {h : HW} : fy38.s C lf [a0, a1, a2, a3] h = fs38 C lf a0 a1 a2 a3 h := by kernel_rfl
theorem tabG_s41 {C : YC} {lf : Nat} {a0 a1 a2 a3 : SV} {h : HW} : fy41.s C lf [a0, a1, a2, a3] h = fs41 C lf a0 a1 a2 a3 h := by kernel_rfl
theorem tabG_s91 {C : YC} {lf : Nat} {a0 a1 : SV} {h : HW} : fy91.s C lf [a0, a1] h = fs91 C lf a0 a1 h := by kernel_rfl
theorem tabG_s92 {C : YC} {lf : Nat} {a0 : SV} {h : HW} : fy92.s C lf [a0] h = fs92 C lf a0 h := by kernel_rfl
theorem tabG_s78 {C : YC} {lf : Nat} {a0 a1 a2 : SV} {h : HW} : fy78.s C lf [a0, a1, a2] h = fs78 C lf a0 a1 a2 h := by kernel_rfl
theorem tabG_s40 {C : YC} {lf : Nat} {a0 a1 a2 : SV} {h : HW} : fy40.s C lf [a0, a1, a2] h = fs40 C lf a0 a1 a2 h := by kernel_rfl
theorem tabG_s93 {C : YC} {lf : Nat} {a0 a1 : SV} {h : HW} : fy93.s C lf [a0, a1] h = fs93 C lf a0 a1 h := by kernel_rfl
theorem tabG_s79 {C : YC} {lf : Nat} {a0 : SV} {h : HW} : fy79.s C lf [a0] h = fs79 C lf a0 h := by kernel_rfl
theorem tabG_s42 {C : YC} {lf : Nat} {a0 a1 : SV} {h : HW} : fy42.s C lf [a0, a1] h = fs42 C lf a0 a1 h := by kernel_rfl
theorem tabG_s34 {C : YC} {lf : Nat} {a0 : SV} {h : HW} : fy34.s C lf [a0] h = fs34 C lf a0 h := by kernel_rfl
theorem tabG_s43 {C : YC} {lf : Nat} {a0 a1 : SV} {h : HW} : fy43.s C lf [a0, a1] h = fs43 C lf a0 a1 h := by kernel_rfl
theorem tabG_TzOK (m : Nat) : TzOK (runY tabG LF (m + 1)).call := by
  unfold TzOK; intros; simp only [call_fn (tab := tabG) (lf := LF) (n := m + 0) (k := m + 1) (y := fy64) (f := 64) rfl rfl tabG_64]; simp only [tabG_s64]
  apply tz_ok (C := (runY tabG LF (m + 0)).call) (lf := LF)   <;> assumption
theorem tabG_MadeOK (m : Nat) : MadeOK (runY tabG LF (m + 1)).call := by
  unfold MadeOK; intros; simp only [call_fn (tab := tabG) (lf := LF) (n := m + 0) (k := m + 1) (y := fy63) (f := 63) rfl rfl tabG_63]; simp only [tabG_s63]
  apply made_ok (C := (runY tabG LF (m + 0)).call) (lf := LF)   <;> assumption
theorem tabG_IsOK (m : Nat) : IsOK (runY tabG LF (m + 2)).call := by
  unfold IsOK; intros; simp only [call_fn (tab := tabG) (lf := LF) (n := m + 1) (k := m + 2) (y := fy33) (f := 33) rfl rfl tabG_33]; simp only [tabG_s33]
  apply is_ok (C := (runY tabG LF (m + 1)).call) (lf := LF)  (tabG_MadeOK (m + 0)) <;> assumption
theorem tabG_FreeOK (m : Nat) : FreeOK (runY tabG LF (m + 3)).call := by
  unfold FreeOK; intros; simp only [call_fn (tab := tabG) (lf := LF) (n := m + 2) (k := m + 3) (y := fy23) (f := 23) rfl rfl tabG_23]; simp only [tabG_s23]
  apply free_ok (C := (runY tabG LF (m + 2)).call) (lf := LF)  (tabG_MadeOK (m + 1)) (tabG_IsOK (m + 0)) <;> assumption
theorem tabG_NewOK (m : Nat) : NewOK (runY tabG LF (m + 1)).call := by
  unfold NewOK; intros; simp only [call_fn (tab := tabG) (lf := LF) (n := m + 0) (k := m + 1) (y := fy16) (f := 16) rfl rfl tabG_16]; simp only [tabG_s16]
  apply new_ok (C := (runY tabG LF (m + 0)).call) (lf := LF)   <;> assumption
theorem tabG_AllocOK (m : Nat) : AllocOK (runY tabG LF (m + 2)).call := by
  unfold AllocOK; intros; simp only [call_fn (tab := tabG) (lf := LF) (n := m + 1) (k := m + 2) (y := fy17) (f := 17) rfl rfl tabG_17]; simp only [tabG_s17]
  apply alloc_ok (C := (runY tabG LF (m + 1)).call) (lf := LF) (le_LF (by omega)) (tabG_MadeOK (m + 0)) (tabG_TzOK (m + 0)) <;> assumption
theorem tabG_ReadOK (m : Nat) : ReadOK (runY tabG LF (m + 3)).call := by
  unfold ReadOK; intros; simp only [call_fn (tab := tabG) (lf := LF) (n := m + 2) (k := m + 3) (y := fy21) (f := 21) rfl rfl tabG_21]; simp only [tabG_s21]
  apply read_ok (C := (runY tabG LF (m + 2)).call) (lf := LF)  (tabG_MadeOK (m + 1)) (tabG_IsOK (m + 0)) <;> assumption
theorem tabG_WriteOK (m : Nat) : WriteOK (runY tabG LF (m + 3)).call := by
  unfold WriteOK; intros; simp only [call_fn (tab := tabG) (lf := LF) (n := m + 2) (k := m + 3) (y := fy18) (f := 18) rfl rfl tabG_18]; simp only [tabG_s18]
  apply write_ok (C := (runY tabG LF (m + 2)).call) (lf := LF)  (tabG_MadeOK (m + 1)) (tabG_IsOK (m + 0)) <;> assumption
theorem tabG_IsTOK (m : Nat) : IsTOK (runY tabG LF (m + 1)).call := by
  unfold IsTOK; intros; simp only [call_fn (tab := tabG) (lf := LF) (n := m + 0) (k := m + 1) (y := fy73) (f := 73) rfl rfl tabG_73]; simp only [tabG_s73]
  apply isT_ok (C := (runY tabG LF (m + 0)).call) (lf := LF)   <;> assumption
theorem tabG_IsInoOK (m : Nat) : IsInoOK (runY tabG LF (m + 2)).call := by
  unfold IsInoOK; intros; simp only [call_fn (tab := tabG) (lf := LF) (n := m + 1) (k := m + 2) (y := fy62) (f := 62) rfl rfl tabG_62]; simp only [tabG_s62]
  apply isIno_ok (C := (runY tabG LF (m + 1)).call) (lf := LF)  (tabG_IsTOK (m + 0)) <;> assumption
theorem tabG_GetOK (m : Nat) : GetOK (runY tabG LF (m + 3)).call := by
  unfold GetOK; intros; simp only [call_fn (tab := tabG) (lf := LF) (n := m + 2) (k := m + 3) (y := fy74) (f := 74) rfl rfl tabG_74]; simp only [tabG_s74]
  apply get_ok (C := (runY tabG LF (m + 2)).call) (lf := LF)  (tabG_IsTOK (m + 1)) (tabG_IsInoOK (m + 0)) <;> assumption
theorem tabG_PlaceOK (m : Nat) : PlaceOK (runY tabG LF (m + 1)).call := by
  unfold PlaceOK; intros; simp only [call_fn (tab := tabG) (lf := LF) (n := m + 0) (k := m + 1) (y := fy76) (f := 76) rfl rfl tabG_76]; simp only [tabG_s76]
  apply place_ok (C := (runY tabG LF (m + 0)).call) (lf := LF)   <;> assumption
theorem tabG_TouchOK (m : Nat) : TouchOK (runY tabG LF (m + 1)).call := by
  unfold TouchOK; intros; simp only [call_fn (tab := tabG) (lf := LF) (n := m + 0) (k := m + 1) (y := fy77) (f := 77) rfl rfl tabG_77]; simp only [tabG_s77]
  apply touch_ok (C := (runY tabG LF (m + 0)).call) (lf := LF)   <;> assumption
theorem tabG_NewTOK (m : Nat) : NewTOK (runY tabG LF (m + 2)).call := by
  unfold NewTOK; intros; simp only [call_fn (tab := tabG) (lf := LF) (n := m + 1) (k := m + 2) (y := fy36) (f := 36) rfl rfl tabG_36]; simp only [tabG_s36]
  apply newT_ok (C := (runY tabG LF (m + 1)).call) (lf := LF)  (tabG_NewOK (m + 0)) <;> assumption
theorem tabG_AllocTOK (m : Nat) : AllocTOK (runY tabG LF (m + 2)).call := by
  unfold AllocTOK; intros; simp only [call_fn (tab := tabG) (lf := LF) (n := m + 1) (k := m + 2) (y := fy37) (f := 37) rfl rfl tabG_37]; simp only [tabG_s37]
  apply allocT_ok (C := (runY tabG LF (m + 1)).call) (lf := LF) (le_LF (by omega)) (tabG_IsTOK (m + 0)) <;> assumption
theorem tabG_BackOK (m : Nat) : BackOK (runY tabG LF (m + 4)).call := by
  unfold BackOK; intros; simp only [call_fn (tab := tabG) (lf := LF) (n := m + 3) (k := m + 4) (y := fy90) (f := 90) rfl rfl tabG_90]; simp only [tabG_s90]
  apply back_ok (C := (runY tabG LF (m + 3)).call) (lf := LF) (le_LF (by omega)) (tabG_FreeOK (m + 0)) <;> assumption
theorem tabG_FillOK (m : Nat) : FillOK (runY tabG LF (m + 5)).call := by
  unfold FillOK; intros; simp only [call_fn (tab := tabG) (lf := LF) (n := m + 4) (k := m + 5) (y := fy75) (f := 75) rfl rfl tabG_75]; simp only [tabG_s75]
  apply fill_ok (C := (runY tabG LF (m + 4)).call) (lf := LF) (le_LF (by omega)) (tabG_PlaceOK (m + 3)) (tabG_AllocOK (m + 2)) (tabG_BackOK (m + 0)) <;> assumption
theorem tabG_TWriteOK (m : Nat) : TWriteOK (runY tabG LF (m + 6)).call := by
  unfold TWriteOK; intros; simp only [call_fn (tab := tabG) (lf := LF) (n := m + 5) (k := m + 6) (y := fy38) (f := 38) rfl rfl tabG_38]; simp only [tabG_s38]
  apply twrite_ok (C := (runY tabG LF (m + 5)).call) (lf := LF) (le_LF (by omega)) (tabG_GetOK (m + 2)) (tabG_PlaceOK (m + 4)) (tabG_FillOK (m + 0)) (tabG_WriteOK (m + 2)) (tabG_TouchOK (m + 4)) <;> assumption
theorem tabG_TReadOK (m : Nat) : TReadOK (runY tabG LF (m + 4)).call := by
  unfold TReadOK; intros; simp only [call_fn (tab := tabG) (lf := LF) (n := m + 3) (k := m + 4) (y := fy41) (f := 41) rfl rfl tabG_41]; simp only [tabG_s41]
  apply tread_ok (C := (runY tabG LF (m + 3)).call) (lf := LF) (le_LF (by omega)) (tabG_GetOK (m + 0)) (tabG_PlaceOK (m + 2)) (tabG_ReadOK (m + 0)) <;> assumption
theorem tabG_DropOK (m : Nat) : DropOK (runY tabG LF (m + 4)).call := by
  unfold DropOK; intros; simp only [call_fn (tab := tabG) (lf := LF) (n := m + 3) (k := m + 4) (y := fy91) (f := 91) rfl rfl tabG_91]; simp only [tabG_s91]
  apply drop_ok (C := (runY tabG LF (m + 3)).call) (lf := LF)  (tabG_FreeOK (m + 0)) <;> assumption
theorem tabG_EmptyOK (m : Nat) : EmptyOK (runY tabG LF (m + 1)).call := by
  unfold EmptyOK; intros; simp only [call_fn (tab := tabG) (lf := LF) (n := m + 0) (k := m + 1) (y := fy92) (f := 92) rfl rfl tabG_92]; simp only [tabG_s92]
  apply empty_ok (C := (runY tabG LF (m + 0)).call) (lf := LF)   <;> assumption
theorem tabG_CutOK (m : Nat) : CutOK (runY tabG LF (m + 5)).call := by
  unfold CutOK; intros; simp only [call_fn (tab := tabG) (lf := LF) (n := m + 4) (k := m + 5) (y := fy78) (f := 78) rfl rfl tabG_78]; simp only [tabG_s78]
  apply cut_ok (C := (runY tabG LF (m + 4)).call) (lf := LF) (le_LF (by omega)) (tabG_DropOK (m + 0)) (tabG_PlaceOK (m + 3)) (tabG_EmptyOK (m + 3)) <;> assumption
theorem tabG_TruncOK (m : Nat) : TruncOK (runY tabG LF (m + 6)).call := by
  unfold TruncOK; intros; simp only [call_fn (tab := tabG) (lf := LF) (n := m + 5) (k := m + 6) (y := fy40) (f := 40) rfl rfl tabG_40]; simp only [tabG_s40]
  apply trunc_ok (C := (runY tabG LF (m + 5)).call) (lf := LF)  (tabG_GetOK (m + 2)) (tabG_PlaceOK (m + 4)) (tabG_CutOK (m + 0)) (tabG_WriteOK (m + 2)) (tabG_TouchOK (m + 4)) <;> assumption
theorem tabG_AddOK (m : Nat) : AddOK (runY tabG LF (m + 1)).call := by
  unfold AddOK; intros; simp only [call_fn (tab := tabG) (lf := LF) (n := m + 0) (k := m + 1) (y := fy93) (f := 93) rfl rfl tabG_93]; simp only [tabG_s93]
  apply add_ok (C := (runY tabG LF (m + 0)).call) (lf := LF) (le_LF (by omega))  <;> assumption
theorem tabG_OwnedOK (m : Nat) : OwnedOK (runY tabG LF (m + 2)).call := by
  unfold OwnedOK; intros; simp only [call_fn (tab := tabG) (lf := LF) (n := m + 1) (k := m + 2) (y := fy79) (f := 79) rfl rfl tabG_79]; simp only [tabG_s79]
  apply owned_ok (C := (runY tabG LF (m + 1)).call) (lf := LF) (le_LF (by omega)) (tabG_AddOK (m + 0)) <;> assumption
theorem tabG_StatOK (m : Nat) : StatOK (runY tabG LF (m + 4)).call := by
  unfold StatOK; intros; simp only [call_fn (tab := tabG) (lf := LF) (n := m + 3) (k := m + 4) (y := fy42) (f := 42) rfl rfl tabG_42]; simp only [tabG_s42]
  apply stat_ok (C := (runY tabG LF (m + 3)).call) (lf := LF)  (tabG_GetOK (m + 0)) (tabG_OwnedOK (m + 1)) <;> assumption
theorem tabG_NumOK (m : Nat) : NumOK (runY tabG LF (m + 1)).call := by
  unfold NumOK; intros; simp only [call_fn (tab := tabG) (lf := LF) (n := m + 0) (k := m + 1) (y := fy34) (f := 34) rfl rfl tabG_34]; simp only [tabG_s34]
  apply num_ok (C := (runY tabG LF (m + 0)).call) (lf := LF)   <;> assumption
theorem tabG_SameTOK (m : Nat) : SameTOK (runY tabG LF (m + 1)).call := by
  unfold SameTOK; intros; simp only [call_fn (tab := tabG) (lf := LF) (n := m + 0) (k := m + 1) (y := fy43) (f := 43) rfl rfl tabG_43]; simp only [tabG_s43]
  apply sameT_ok (C := (runY tabG LF (m + 0)).call) (lf := LF)   <;> assumption
theorem tabAt_ofG {h : HW} (ht : hasTab 0 .u8 zs h = true) : TabAt h := by
  obtain ⟨h1, _, h2⟩ := hasTab_cell ht
  refine ⟨h1, fun i hi => ?_⟩
  have e : ∀ i, i < 64 → zs.getD i 0 = ((Lib.deBruijn64tab.getD i 0 : Nat) : Int) := by decide
  rw [h2 i hi, e i hi]
theorem mainG_s {C : YC} {lf : Nat} {a0 : SV} {h : HW} : fy9.s C lf [a0] h = fs9 C lf a0 h := by kernel_rfl
section
variable {w : World}
def FUELG : Nat := 10
theorem mainG (ht : hasTab 0 .u8 zs (hw0 w) = true) {x : SV} {L : List PcR} (P : PcsAt (hw0 w) x L) (hL : L.length ≤ 140737488355328) :
    ∃ h', fy9.s (conY cons (runY tabG LF FUELG).call) LF [x] (hw0 w) = some (.ret (.bool true), h') := by
  have hgn : 0 < (hw0 w).next := by
    obtain ⟨_, ⟨m, hm⟩, _⟩ := hasTab_cell ht
    exact hw0_row hm
  have c1 := tabG_NewTOK 8
  have c2 := tabG_AllocTOK 8
  have c3 := tabG_NumOK 9
  have c4 := tabG_TWriteOK 4
  have c5 := tabG_TruncOK 4
  have c6 := tabG_TReadOK 6
  have c7 := tabG_StatOK 6
  have c8 := tabG_SameTOK 9
  simp only [mainG_s]
  have hlf : 140737488355329 ≤ LF := le_LF (n := 140737488355329) (by omega)
  refine bytes_main (lf := LF) (C := conY cons (runY tabG LF 10).call) hlf hgn (tabAt_ofG ht) ?_ ?_ ?_ ?_ ?_ ?_ ?_ ?_ (fun h F => con_lives ?_) P hL
  · unfold NewTOK at *; simpa only [con_other (f := 36) rfl] using c1
  · unfold AllocTOK at *; simpa only [con_other (f := 37) rfl] using c2
  · unfold NumOK at *; simpa only [con_other (f := 34) rfl] using c3
  · unfold TWriteOK at *; simpa only [con_other (f := 38) rfl] using c4
  · unfold TruncOK at *; simpa only [con_other (f := 40) rfl] using c5
  · unfold TReadOK at *; simpa only [con_other (f := 41) rfl] using c6
  · unfold StatOK at *; simpa only [con_other (f := 42) rfl] using c7
  · unfold SameTOK at *; simpa only [con_other (f := 43) rfl] using c8
  · rw [hasTab_same F.ng (F.same _ hgn (fun e => e))]; exact ht
end
end Go.Proofs.YtomialandfplkaaDoor.Eva
