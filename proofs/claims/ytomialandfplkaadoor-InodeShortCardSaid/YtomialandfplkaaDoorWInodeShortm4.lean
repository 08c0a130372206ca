/- What is proved of the functions' texts holds of their calls. -/
import Derived.Test.YtomialandfplkaaDoorCards
import Derived.SizedLaws
import Derived.Test.YtomialandfplkaaDoorWInodeShortm3
import Derived.Test.YtomialandfplkaaDoorWInodeShortm2
set_option linter.unusedSimpArgs false
set_option linter.unusedVariables false
namespace Go.Proofs.YtomialandfplkaaDoor.Eva
open Go.Xe
set_option linter.unusedSimpArgs false
section
variable {lf : Nat} {h : HW} {T : TN} {n N : Nat} {wd b : Nat → Nat} {now : Int} {us : Nat → Bool} {nd : Nat → Nat → SV} {mo uid gid : Int}
def AllocTOK (C : YC) : Prop := ∀ h T n N wd b now us nd (mo uid gid : Int), TableAt h T n N wd b now us nd →
  (badA mo uid gid → C (.fn 37) [.ptr T.kt 0, .int .i64 mo, .int .i64 uid, .int .i64 gid] h = some (.ret (.tup [.int .i64 0, .int .i64 22]), h)) ∧
  (¬ badA mo uid gid → (∀ j, j < N → us j = true) → C (.fn 37) [.ptr T.kt 0, .int .i64 mo, .int .i64 uid, .int .i64 gid] h = some (.ret (.tup [.int .i64 0, .int .i64 28]), h)) ∧
  (¬ badA mo uid gid → ∀ i, i < N → us i = false → (∀ j, j < i → us j = true) → ∃ h', C (.fn 37) [.ptr T.kt 0, .int .i64 mo, .int .i64 uid, .int .i64 gid] h = some (.ret (.tup [.int .i64 ((i + 1 : Nat) : Int), .int .i64 0]), h') ∧
    TableAt h' T n N wd b now (upd us i true) (updR nd i (newN ((i + 1 : Nat) : Int) uid gid mo now)) ∧ h'.next = h.next ∧ Frm h h' (· = T.kn))
theorem ffA {a c : SV} : ff37 (some a) (some c) h = some (.ret (.tup [a, c]), h) := noRfl rfl
theorem gd_un {w : Bool} {r : Rs} : gd w (some (.val undef)) r h = some (.ret (.val undef), h) := by cases w <;> exact noRfl rfl
theorem allocT_pre {C : YC} (It : IsTOK C) (A : TableAt h T n N wd b now us nd) :
    (badA mo uid gid → fs37 C lf (.ptr T.kt 0) (.int .i64 mo) (.int .i64 uid) (.int .i64 gid) h = some (.ret (.tup [.int .i64 0, .int .i64 22]), h)) ∧
    (¬ badA mo uid gid → fs37 C lf (.ptr T.kt 0) (.int .i64 mo) (.int .i64 uid) (.int .i64 gid) h = q37_51 C lf ff37 (some (.ptr T.kt 0)) (some (.int .i64 mo)) (some (.int .i64 uid)) (some (.int .i64 gid)) h) := by
  have hx : IntKind.i64.wrap ((BitVec.ofInt 64 mo &&& ~~~BitVec.ofInt 64 65535).toNat : Int) = modeX mo := rfl
  have hk : IntKind.i64.wrap ((BitVec.ofInt 64 mo &&& BitVec.ofInt 64 61440).toNat : Int) = modeK mo := rfl
  unfold fs37 q37_96 q37_95 q37_94 q37_93 q37_89 q37_88 q37_85 q37_84
  generalize hq : q37_51 C lf ff37 (some (.ptr T.kt 0)) (some (.int .i64 mo)) (some (.int .i64 uid)) (some (.int .i64 gid)) h = Q
  simp only [ob_some, b2_some, bc_ret, bcn_ret, gd_tt, gd_ff, gd_tf, gd_ft, ypk_true, ypk_false, yIf_true, yIf_false, semNil_ptr, fa_ptr, ld1_ptr, ext_tup, fd1_agg, un_not, bin_add, bin_sub, bin_mul, bin_eql, bin_neq, bin_lss, bin_leq, bin_gtr, bin_geq, Nat.zero_add, Nat.mul_one, It _ _ _ _ _ _ _ _ _ A, Bool.not_true, bin_andI, bin_andNotI, hx, hk, hq]
  unfold badA
  by_cases a1 : modeX mo = 0 <;> by_cases a2 : modeK mo = 32768 <;> by_cases a3 : modeK mo = 16384 <;> by_cases a4 : modeK mo = 40960 <;> by_cases a5 : uid < 0 <;> by_cases a6 : gid < 0 <;>
    simp [a1, a2, a3, a4, a5, a6, hq, ffA, gd_un]
theorem allocT_ok {C : YC} (hlf : 4097 ≤ lf) (It : IsTOK C) (A : TableAt h T n N wd b now us nd) :
    (badA mo uid gid → fs37 C lf (.ptr T.kt 0) (.int .i64 mo) (.int .i64 uid) (.int .i64 gid) h = some (.ret (.tup [.int .i64 0, .int .i64 22]), h)) ∧
    (¬ badA mo uid gid → (∀ j, j < N → us j = true) → fs37 C lf (.ptr T.kt 0) (.int .i64 mo) (.int .i64 uid) (.int .i64 gid) h = some (.ret (.tup [.int .i64 0, .int .i64 28]), h)) ∧
    (¬ badA mo uid gid → ∀ i, i < N → us i = false → (∀ j, j < i → us j = true) → ∃ h', fs37 C lf (.ptr T.kt 0) (.int .i64 mo) (.int .i64 uid) (.int .i64 gid) h = some (.ret (.tup [.int .i64 ((i + 1 : Nat) : Int), .int .i64 0]), h') ∧
      TableAt h' T n N wd b now (upd us i true) (updR nd i (newN ((i + 1 : Nat) : Int) uid gid mo now)) ∧ h'.next = h.next ∧ Frm h h' (· = T.kn)) := by
  have hN := A.N2
  obtain ⟨p1, p2⟩ := allocT_pre (lf := lf) (mo := mo) (uid := uid) (gid := gid) It A
  have hl : lenE Tryd.prog 100 (.sl T.kn 0 N (some N) 0) = some (.int .i64 (N : Int)) := by
    simp [lenE, Tryd.underlying100]
  obtain ⟨l1, l2⟩ := allocT_loop (lf := lf) (mo := mo) (uid := uid) (gid := gid) (C := C) ff37 (fun h => q37_2 C lf ff37 h) A N 0 (by omega) lf (by omega)
  have hq : q37_51 C lf ff37 (some (.ptr T.kt 0)) (some (.int .i64 mo)) (some (.int .i64 uid)) (some (.int .i64 gid)) h =
      lp (l37_3 C lf ff37 (fun h => q37_2 C lf ff37 h)) lf (some (.ptr T.kt 0), some (.int .i64 mo), some (.int .i64 uid), some (.int .i64 gid), some (.int .i64 (N : Int)), some (.int .i64 ((0 : Nat) : Int))) h := by
    unfold q37_51 q37_50 q37_49
    simp only [ob_some, b2_some, bc_ret, bcn_ret, gd_tt, gd_ff, gd_tf, gd_ft, ypk_true, ypk_false, yIf_true, yIf_false, semNil_ptr, fa_ptr, ld1_ptr, ext_tup, fd1_agg, un_not, bin_add, bin_sub, bin_mul, bin_eql, bin_neq, bin_lss, bin_leq, bin_gtr, bin_geq, Nat.zero_add, Nat.mul_one, A.c1, hl]
    rfl
  refine ⟨p1, fun hg hall => ?_, fun hg i hi hu hb => ⟨_, ?_, A.setRow hi rfl, set_next .., frm_set rfl⟩⟩
  · rw [p2 hg, hq, l1 fun j _ hj => hall j hj]; rfl
  · rw [p2 hg, hq, l2 i (Nat.zero_le _) hi hu fun j _ hj => hb j hj]; rfl
end
end Go.Proofs.YtomialandfplkaaDoor.Eva
namespace Go.Proofs.YtomialandfplkaaDoor.Eva
open Go.Xe
open Classical
set_option linter.unusedSimpArgs false
end Go.Proofs.YtomialandfplkaaDoor.Eva
namespace Go.Proofs.YtomialandfplkaaDoor.Eva
open Go.Xe
set_option maxRecDepth 100000
set_option maxHeartbeats 400000
set_option linter.unusedVariables false
noncomputable section
noncomputable def fx39 : XF Tryd.prog := ⟨39, Tryd.f39, fun r => bif Nat.beq r 3 then .ord [0, 1, 2, 5, 6, 7, 10, 11, 12, 15, 16, 17, 20, 3, 8, 13, 14, 18, 19, 4, 9, 21, 22, 23, 24, 25, 26, 27] [(21, [18, 13]), (9, [18, 13]), (4, [18, 13, 8])] else .text, Tryd.func39, by kernel_rfl, by kernel_rfl, by kernel_rfl, by kernel_rfl⟩
noncomputable def ff39 (x2 x3 x4 x5 : O) (h : HW) : Rs :=
 ob x2 fun a0 =>
 ob x3 fun a1 =>
 ob x4 fun a2 =>
 ob x5 fun a3 =>
 some (.ret (.tup [a0, a1, a2, a3]), h)
noncomputable def q39_31 (C : YC) (lf : Nat) (r : K4) (x0 : O) (h : HW) : Rs :=
 ob x0 fun a4 =>
 bc (C (.fn 73) [a4] h) fun y5 h5 =>
 ob (unE .not y5) fun y6 =>
 yIf y6
 (r (some (.int .i64 0)) (some (.int .i64 0)) (some (.int .i64 0)) (some (.int .i64 0)) h5)
 (ob x0 fun a7 =>
 ob (semNil a7) fun y8 =>
 ob (fa 0 y8) fun y9 =>
 ob x0 fun a10 =>
 ob (semNil a10) fun y11 =>
 ob (fa 0 y11) fun y12 =>
 ob x0 fun a13 =>
 ob (semNil a13) fun y14 =>
 ob (fa 1 y14) fun y15 =>
 ob x0 fun a16 =>
 ob (semNil a16) fun y17 =>
 ob (fa 1 y17) fun y18 =>
 ob x0 fun a19 =>
 ob (ld1 y9 h5) fun y20 =>
 ob (ld1 y12 h5) fun y21 =>
 ob (ld1 y15 h5) fun y22 =>
 ob (lenE Tryd.prog 100 y22) fun y23 =>
 ob (ld1 y18 h5) fun y24 =>
 ob (lenE Tryd.prog 100 y24) fun y25 =>
 bcn (C (.fn 29) [y20] h5) fun y26 h26 =>
 ck (chkH [(18, adrO (some y18)), (13, adrO (some y15)), (8, adrO (some y12)), (3, adrO (some y9))] h5 h26 [18, 13, 8]) <|
 bcn (C (.fn 19) [y21] h26) fun y27 h27 =>
 ck (chkH [(18, adrO (some y18)), (13, adrO (some y15)), (8, adrO (some y12)), (3, adrO (some y9))] h26 h27 [18, 13]) <|
 bcn (C (.fn 47) [a19] h27) fun y28 h28 =>
 ck (chkH [(18, adrO (some y18)), (13, adrO (some y15)), (8, adrO (some y12)), (3, adrO (some y9))] h27 h28 [18, 13]) <|
 ob (lenE Tryd.prog 33 y28) fun y29 =>
 ob (bin Tryd.prog .sub 3 y25 y29) fun y30 =>
 r (some y26) (some y27) (some y23) (some y30) h28)
theorem q39_31_eq (C : YC) (lf : Nat) (r : K4) (KN : KF) (KE : KX) : ∀ F h, evX fx39 C lf [] F h KN (fun F h => r (F 2) (F 3) (F 4) (F 5) h) KE = q39_31 C lf r (F 0) h := by
  intro F h; kernel_rfl
noncomputable def fs39 (C : YC) (lf : Nat) (a0 : SV) (h : HW) : Rs := q39_31 C lf ff39 (some a0) h
theorem fs39_eq (C : YC) (lf : Nat) (a0 : SV) (h : HW) : yFn Tryd.prog fx39 C lf [a0] h = fs39 C lf a0 h := fnX (K := (fun F h => ff39 (F 2) (F 3) (F 4) (F 5) h)) (by kernel_rfl) (((q39_31_eq C lf ff39 (fun F h => ff39 (F 2) (F 3) (F 4) (F 5) h) (fun _ _ _ => none)) _ h).trans (by kernel_rfl))
noncomputable def fy39 : YX Tryd.prog := Y1 fx39 fs39 fs39_eq (by kernel_rfl)
noncomputable def fx47 : XF Tryd.prog := ⟨47, Tryd.f47, fun r => bif Nat.beq r 1000004 then .ord [3] [] else .text, Tryd.func47, by kernel_rfl, by kernel_rfl, by kernel_rfl, by kernel_rfl⟩
noncomputable def ff47 (x2 : O) (h : HW) : Rs :=
 ob x2 fun a0 =>
 some (.ret a0, h)
noncomputable def fz47 (L : List Nat) (x2 : O) (h : HW) : Rs := markZ L h fun h => ff47 x2 h
noncomputable def q47_3 (C : YC) (lf : Nat) (r : K1) (x3 : O) (h : HW) : Rs :=
 ob x3 fun a1 =>
 ob (ld1 a1 h) fun y2 =>
 r (some y2) h
theorem q47_3_eq (C : YC) (lf : Nat) (r : K1) (KN : KF) (KE : KX) : ∀ F h, evX fx47 C lf [1, 1, 1] F h KN (fun F h => r (F 2) h) KE = q47_3 C lf r (F 3) h := by
  intro F h; kernel_rfl
noncomputable def q47_12 (C : YC) (lf : Nat) (n : K0) (x3 x4 : O) (h : HW) : Rs :=
 ob x3 fun a5 =>
 ob (ld1 a5 h) fun y6 =>
 ob x4 fun a7 =>
 b2 (ybs Tryd.prog 33 1 [0] [a7] h) fun y8 h8 =>
 b2 (ybl Tryd.prog .append #[33, 33] [y6, y8] h8) fun y9 h9 =>
 ob x3 fun a10 =>
 ob (st 1 a10 y9 h9) fun h11 =>
 n h11
theorem q47_12_eq (C : YC) (lf : Nat) (n : K0) (KR : KF) (KE : KX) : ∀ F h, evX fx47 C lf [1, 1, 0, 1, 0, 1] F h (fun F h => n h) KR KE = q47_12 C lf n (F 3) (F 4) h := by
  intro F h; kernel_rfl
noncomputable def q47_14 (C : YC) (lf : Nat) (n : K2) (x3 x7 : O) (h : HW) : Rs :=
 ob x7 fun a13 =>
 n x3 (some a13) h
theorem q47_14_eq (C : YC) (lf : Nat) (n : K2) (KR : KF) (KE : KX) : ∀ F h, evX fx47 C lf [1, 1, 0, 1, 0, 0] F h (fun F h => n (F 3) (F 4) h) KR KE = q47_14 C lf n (F 3) (F 7) h := by
  intro F h; kernel_rfl
noncomputable def rt47_4 (C : YC) (lf k : Nat) (x3 : O) (y0 : SV) (h : HW) : Rs :=
 q47_14 C lf (fun x3 x4 h => readyH h k fun h => q47_12 C lf (fun h => endRoundZ h k .ready .none true) x3 x4 h) x3 (some y0) h
theorem rt47_4_eq (C : YC) (lf k : Nat) (F : Fr) (y0 : SV) (h : HW) : roundZ Tryd.prog C fx47.ord 47 k 13 lf F #[7] (subX fx47 [1, 1, 0, 1, 0, 0]) (subX fx47 [1, 1, 0, 1, 0, 1]) [y0] h = rt47_4 C lf k (F 3) y0 h :=
 (zRound (x := fx47) (pa := [1, 1, 0, 1, 0, 0]) (pc := [1, 1, 0, 1, 0, 1]) (by kernel_rfl) (by kernel_rfl) (by kernel_rfl) (q47_12_eq C lf (fun h => endRoundZ h k .ready .none true) (fun _ h => endRoundZ h k .done .ret false) (fun i _ h => endRoundZ h k .done (.ex i) false)) (q47_14_eq C lf (fun x3 x4 h => readyH h k fun h => q47_12 C lf (fun h => endRoundZ h k .ready .none true) x3 x4 h) (fun _ _ => none) (fun _ _ _ => none))).trans (by kernel_rfl)
noncomputable def q47_16 (C : YC) (lf : Nat) (n : K2) (x0 x3 : O) (h : HW) : Rs :=
 ob x0 fun a15 =>
 n x3 (some (.fn (.func 81) [a15] [])) h
theorem q47_16_eq (C : YC) (lf : Nat) (n : K2) (KR : KF) (KE : KX) : ∀ F h, evX fx47 C lf [1, 1, 0, 0] F h (fun F h => n (F 3) (F 6) h) KR KE = q47_16 C lf n (F 0) (F 3) h := by
  intro F h; kernel_rfl
noncomputable def q47_18 (C : YC) (lf : Nat) (n : K2) (x0 : O) (h : HW) : Rs :=
 b2 (yAl Tryd.prog 33 h) fun y17 h17 =>
 n x0 (some y17) h17
theorem q47_18_eq (C : YC) (lf : Nat) (n : K2) (KR : KF) (KE : KX) : ∀ F h, evX fx47 C lf [1, 0] F h (fun F h => n (F 0) (F 3) h) KR KE = q47_18 C lf n (F 0) h := by
  intro F h; kernel_rfl
noncomputable def q47_19 (C : YC) (lf : Nat) (n : K1) (x0 : O) (h : HW) : Rs :=
 n x0 h
theorem q47_19_eq (C : YC) (lf : Nat) (n : K1) (KR : KF) (KE : KX) : ∀ F h, evX fx47 C lf [0] F h (fun F h => n (F 0) h) KR KE = q47_19 C lf n (F 0) h := by
  intro F h; kernel_rfl
noncomputable def fs47 (C : YC) (lf : Nat) (a0 : SV) (h : HW) : Rs := noPan (q47_19 C lf ((fun L x0 h => q47_18 C lf ((fun L x0 x3 h => q47_16 C lf ((fun L x3 x6 h => ob x6 fun y => rangeT C fx47.ord 47 none 13 #[7] (subX fx47 [1, 1, 0, 1, 0, 0]) (subX fx47 [1, 1, 0, 1, 0, 1]) y L (layT [(3, x3)]) h (fun L h => (fun L x3 h => q47_3 C lf (fz47 L) x3 h) L x3 h) noT []) L) x0 x3 h) L) x0 h) []) (some a0) h)
theorem fs47_eq (C : YC) (lf : Nat) (a0 : SV) (h : HW) : yFnZ Tryd.prog fx47 C lf [a0] h = fs47 C lf a0 h := fnZ (K := (fun L F h => fz47 L (F 2) h)) (by kernel_rfl) (((zSeq (a := subX fx47 [0]) (b := subX fx47 [1]) (by kernel_rfl) (B := (fun L F h => q47_18 C lf ((fun L x0 x3 h => q47_16 C lf ((fun L x3 x6 h => ob x6 fun y => rangeT C fx47.ord 47 none 13 #[7] (subX fx47 [1, 1, 0, 1, 0, 0]) (subX fx47 [1, 1, 0, 1, 0, 1]) y L (layT [(3, x3)]) h (fun L h => (fun L x3 h => q47_3 C lf (fz47 L) x3 h) L x3 h) noT []) L) x0 x3 h) L) (F 0) h)) (zSeq (a := subX fx47 [1, 0]) (b := subX fx47 [1, 1]) (by kernel_rfl) (B := (fun L F h => q47_16 C lf ((fun L x3 x6 h => ob x6 fun y => rangeT C fx47.ord 47 none 13 #[7] (subX fx47 [1, 1, 0, 1, 0, 0]) (subX fx47 [1, 1, 0, 1, 0, 1]) y L (layT [(3, x3)]) h (fun L h => (fun L x3 h => q47_3 C lf (fz47 L) x3 h) L x3 h) noT []) L) (F 0) (F 3) h)) (zSeq (a := subX fx47 [1, 1, 0]) (b := subX fx47 [1, 1, 1]) (by kernel_rfl) (B := (fun L F h => q47_3 C lf (fz47 L) (F 3) h)) (zPlain (x := fx47) (p := [1, 1, 1]) (by kernel_rfl) (fun L F h => (q47_3_eq C lf (fz47 L) ((fun L F h => fz47 L (F 2) h) L) (fun i => (fun _ _ _ _ => none) i L)) F h)) (zSeq (a := subX fx47 [1, 1, 0, 0]) (b := subX fx47 [1, 1, 0, 1]) (by kernel_rfl) (B := (fun L F h => ob (F 6) fun y => rangeT C fx47.ord 47 none 13 #[7] (subX fx47 [1, 1, 0, 1, 0, 0]) (subX fx47 [1, 1, 0, 1, 0, 1]) y L (layT [(3, (F 3))]) h (fun L h => (fun L x3 h => q47_3 C lf (fz47 L) x3 h) L (F 3) h) noT [])) (zBlock (id := 0) (a := subX fx47 [1, 1, 0, 1, 0]) (by kernel_rfl) (fun L F h => zRange (a := subX fx47 [1, 1, 0, 1, 0, 0]) (b := subX fx47 [1, 1, 0, 1, 0, 1]) (g := .tmp 6) (ps := #[7]) (us := [3]) (es := []) (rb := false) (by kernel_rfl) (by kernel_rfl) (by kernel_rfl) (by kernel_rfl) L F h)) (zPlain (x := fx47) (p := [1, 1, 0, 0]) (by kernel_rfl) (fun L F h => (q47_16_eq C lf ((fun L x3 x6 h => ob x6 fun y => rangeT C fx47.ord 47 none 13 #[7] (subX fx47 [1, 1, 0, 1, 0, 0]) (subX fx47 [1, 1, 0, 1, 0, 1]) y L (layT [(3, x3)]) h (fun L h => (fun L x3 h => q47_3 C lf (fz47 L) x3 h) L x3 h) noT []) L) ((fun L F h => fz47 L (F 2) h) L) (fun i => (fun _ _ _ _ => none) i L)) F h)))) (zPlain (x := fx47) (p := [1, 0]) (by kernel_rfl) (fun L F h => (q47_18_eq C lf ((fun L x0 x3 h => q47_16 C lf ((fun L x3 x6 h => ob x6 fun y => rangeT C fx47.ord 47 none 13 #[7] (subX fx47 [1, 1, 0, 1, 0, 0]) (subX fx47 [1, 1, 0, 1, 0, 1]) y L (layT [(3, x3)]) h (fun L h => (fun L x3 h => q47_3 C lf (fz47 L) x3 h) L x3 h) noT []) L) x0 x3 h) L) ((fun L F h => fz47 L (F 2) h) L) (fun i => (fun _ _ _ _ => none) i L)) F h))) (zPlain (x := fx47) (p := [0]) (by kernel_rfl) (fun L F h => (q47_19_eq C lf ((fun L x0 h => q47_18 C lf ((fun L x0 x3 h => q47_16 C lf ((fun L x3 x6 h => ob x6 fun y => rangeT C fx47.ord 47 none 13 #[7] (subX fx47 [1, 1, 0, 1, 0, 0]) (subX fx47 [1, 1, 0, 1, 0, 1]) y L (layT [(3, x3)]) h (fun L h => (fun L x3 h => q47_3 C lf (fz47 L) x3 h) L x3 h) noT []) L) x0 x3 h) L) x0 h) L) ((fun L F h => fz47 L (F 2) h) L) (fun i => (fun _ _ _ _ => none) i L)) F h))) [] _ h).trans (by kernel_rfl))
noncomputable def fy47 : YX Tryd.prog := Z1 fx47 fs47 fs47_eq (by kernel_rfl)
noncomputable def fx81 : XF Tryd.prog := ⟨81, Tryd.f81, fun _ => .text, Tryd.func81, by kernel_rfl, by kernel_rfl, by kernel_rfl, by kernel_rfl⟩
noncomputable def ff81 (h : HW) : Rs :=
 some (.ret (.tup []), h)
noncomputable def q81_24 (C : YC) (lf : Nat) (n : K4) (r : K0) (e0 : K0) (x0 x1 x12 x13 : O) (h : HW) : Rs :=
 ob x13 fun a1 =>
 ob x12 fun a2 =>
 ob (bin Tryd.prog .lss 3 a1 a2) fun y3 =>
 yIf y3
 (ob x13 fun a4 =>
 ob x0 fun a5 =>
 ob (semNil a5) fun y6 =>
 ob (fa 1 y6) fun y7 =>
 ob (ld1 y7 h) fun y8 =>
 ob (ixS 308 y8 a4) fun y9 =>
 ob (fa 0 y9) fun y10 =>
 ob (ld1 y10 h) fun y11 =>
 bc (gd true (some y11) (ob x1 fun a12 =>
 some (.ret a12, h)) h) fun y13 h13 =>
 bc (gd true (some y11) (some (.ret a4, h13)) h13) fun y14 h14 =>
 bc (gd true (some y11) (ob (bin Tryd.prog .add 3 y14 (.int .i64 1)) fun y15 =>
 some (.ret y15, h14)) h14) fun y16 h16 =>
 bc (gd true (some y11) (cv false C y13 [y16] h16 fun y17 h17 =>
 some (.ret y17, h17)) h16) fun y18 h18 =>
 bc (gd true (some y11) (ob (unE .not y18) fun y19 =>
 some (.ret y19, h18)) h18) fun y20 h20 =>
 ob (ypk y11 y20 (.bool false)) fun y21 =>
 yIf y21
 (r h20)
 (ob x13 fun a22 =>
 ob (bin Tryd.prog .add 3 a22 (.int .i64 1)) fun y23 =>
 n x0 x1 x12 (some y23) h20))
 (e0 h)
theorem q81_24_eq (C : YC) (lf : Nat) (n : K4) (r : K0) (e0 : K0) (KE : KX) : ∀ F h, evX fx81 C lf [1, 1, 0, 0] F h (fun F h => n (F 0) (F 1) (F 12) (F 13) h) (fun F h => r h) (bk 0 (fun F h => e0 h) KE) = q81_24 C lf n r e0 (F 0) (F 1) (F 12) (F 13) h := by
  intro F h; kernel_rfl
noncomputable def l81_0 (C : YC) (lf : Nat) (r : K0) (e0 : K0) (k : O × O × O × O → HW → Rs) (s : O × O × O × O) (h : HW) : Rs :=
 q81_24 C lf (fun x0 x1 x12 x13 h => k (x0, x1, x12, x13) h) r e0 s.1 s.2.1 s.2.2.1 s.2.2.2 h
noncomputable def q81_30 (C : YC) (lf : Nat) (n : K4) (x0 x1 : O) (h : HW) : Rs :=
 ob x0 fun a25 =>
 ob (semNil a25) fun y26 =>
 ob (fa 1 y26) fun y27 =>
 ob (ld1 y27 h) fun y28 =>
 ob (lenE Tryd.prog 100 y28) fun y29 =>
 n x0 x1 (some y29) (some (.int .i64 0)) h
theorem q81_30_eq (C : YC) (lf : Nat) (n : K4) (KR : KF) (KE : KX) : ∀ F h, evX fx81 C lf [1, 0] F h (fun F h => n (F 0) (F 1) (F 12) (F 13) h) KR KE = q81_30 C lf n (F 0) (F 1) h := by
  intro F h; kernel_rfl
noncomputable def q81_31 (C : YC) (lf : Nat) (n : K0) (r : K0) (x0 x1 : O) (h : HW) : Rs :=
 q81_30 C lf (fun x0 x1 x12 x13 h => lp (l81_0 C lf r n) lf (x0, x1, x12, x13) h) x0 x1 h
theorem q81_31_eq (C : YC) (lf : Nat) (n : K0) (r : K0) (KE : KX) : ∀ F h, evX fx81 C lf [1] F h (fun F h => n h) (fun F h => r h) KE = q81_31 C lf n r (F 0) (F 1) h := cSeq (a := subX fx81 [1, 0]) (b := subX fx81 [1, 1]) (by kernel_rfl) (B := (fun F h => lp (l81_0 C lf r n) lf ((F 0), (F 1), (F 12), (F 13)) h)) (cBlock (id := 0) (a := subX fx81 [1, 1, 0]) (by kernel_rfl) (cLoop (a := subX fx81 [1, 1, 0, 0]) (g := fun F => (F 0, F 1, F 12, F 13)) (body := l81_0 C lf r n) (by kernel_rfl) (fun k => (q81_24_eq C lf (fun x0 x1 x12 x13 h => k (x0, x1, x12, x13) h) r n KE)))) (q81_30_eq C lf (fun x0 x1 x12 x13 h => lp (l81_0 C lf r n) lf (x0, x1, x12, x13) h) (fun F h => r h) KE)
noncomputable def q81_35 (C : YC) (lf : Nat) (n : K2) (r : K0) (x0 x1 : O) (h : HW) : Rs :=
 ob x0 fun a32 =>
 bc (C (.fn 73) [a32] h) fun y33 h33 =>
 ob (unE .not y33) fun y34 =>
 yIf y34
 (r h33)
 (n x0 x1 h33)
theorem q81_35_eq (C : YC) (lf : Nat) (n : K2) (r : K0) (KE : KX) : ∀ F h, evX fx81 C lf [0] F h (fun F h => n (F 0) (F 1) h) (fun F h => r h) KE = q81_35 C lf n r (F 0) (F 1) h := by
  intro F h; kernel_rfl
noncomputable def q81_36 (C : YC) (lf : Nat) (n : K0) (r : K0) (x0 x1 : O) (h : HW) : Rs :=
 q81_35 C lf (fun x0 x1 h => q81_31 C lf n r x0 x1 h) r x0 x1 h
theorem q81_36_eq (C : YC) (lf : Nat) (n : K0) (r : K0) (KE : KX) : ∀ F h, evX fx81 C lf [] F h (fun F h => n h) (fun F h => r h) KE = q81_36 C lf n r (F 0) (F 1) h := cSeq (a := subX fx81 [0]) (b := subX fx81 [1]) (by kernel_rfl) (B := (fun F h => q81_31 C lf n r (F 0) (F 1) h)) (q81_31_eq C lf n r KE) (q81_35_eq C lf (fun x0 x1 h => q81_31 C lf n r x0 x1 h) r KE)
noncomputable def fs81 (C : YC) (lf : Nat) (a0 a1 : SV) (h : HW) : Rs := q81_36 C lf ff81 ff81 (some a0) (some a1) h
theorem fs81_eq (C : YC) (lf : Nat) (a0 a1 : SV) (h : HW) : yFn Tryd.prog fx81 C lf [a0, a1] h = fs81 C lf a0 a1 h := fnX (K := (fun F h => ff81 h)) (by kernel_rfl) (((q81_36_eq C lf ff81 ff81 (fun _ _ _ => none)) _ h).trans (by kernel_rfl))
noncomputable def fy81 : YX Tryd.prog := Y2 fx81 fs81 fs81_eq (by kernel_rfl)
noncomputable def fx34 : XF Tryd.prog := ⟨34, Tryd.f34, fun _ => .text, Tryd.func34, by kernel_rfl, by kernel_rfl, by kernel_rfl, by kernel_rfl⟩
noncomputable def ff34 (x2 : O) (h : HW) : Rs :=
 ob x2 fun a0 =>
 some (.ret a0, h)
noncomputable def q34_2 (C : YC) (lf : Nat) (r : K1) (x0 : O) (h : HW) : Rs :=
 ob x0 fun a1 =>
 r (some a1) h
theorem q34_2_eq (C : YC) (lf : Nat) (r : K1) (KN : KF) (KE : KX) : ∀ F h, evX fx34 C lf [] F h KN (fun F h => r (F 2) h) KE = q34_2 C lf r (F 0) h := by
  intro F h; kernel_rfl
noncomputable def fs34 (C : YC) (lf : Nat) (a0 : SV) (h : HW) : Rs := q34_2 C lf ff34 (some a0) h
theorem fs34_eq (C : YC) (lf : Nat) (a0 : SV) (h : HW) : yFn Tryd.prog fx34 C lf [a0] h = fs34 C lf a0 h := fnX (K := (fun F h => ff34 (F 2) h)) (by kernel_rfl) (((q34_2_eq C lf ff34 (fun F h => ff34 (F 2) h) (fun _ _ _ => none)) _ h).trans (by kernel_rfl))
noncomputable def fy34 : YX Tryd.prog := Y1 fx34 fs34 fs34_eq (by kernel_rfl)
end
end Go.Proofs.YtomialandfplkaaDoor.Eva
namespace Go.Xe
def pop : Nat → Nat → Nat
  | 0, _ => 0
  | n + 1, x => x % 2 + pop n (x / 2)
theorem and_split {a c y d : Nat} (ha : a < 256) (hc : c < 256) : (a + 256 * y) &&& (c + 256 * d) = (a &&& c) + 256 * (y &&& d) := by
  have h1 : (a &&& c) < 256 := Nat.lt_of_le_of_lt Nat.and_le_left ha
  have e : ((a + 256 * y) &&& (c + 256 * d)) = 256 * (((a + 256 * y) &&& (c + 256 * d)) / 256) + ((a + 256 * y) &&& (c + 256 * d)) % 256 := (Nat.div_add_mod _ _).symm
  have hdiv : ((a + 256 * y) &&& (c + 256 * d)) / 256 = y &&& d := by
    have := Nat.and_div_two_pow (a := a + 256 * y) (b := c + 256 * d) (n := 8)
    rw [show (2 : Nat) ^ 8 = 256 from rfl] at this
    rw [this, show (a + 256 * y) / 256 = y by omega, show (c + 256 * d) / 256 = d by omega]
  have hmod : ((a + 256 * y) &&& (c + 256 * d)) % 256 = a &&& c := by
    have := Nat.and_mod_two_pow (a := a + 256 * y) (b := c + 256 * d) (n := 8)
    rw [show (2 : Nat) ^ 8 = 256 from rfl] at this
    rw [this, show (a + 256 * y) % 256 = a by omega, show (c + 256 * d) % 256 = c by omega]
  rw [e, hdiv, hmod]; omega
def rep (m : Nat) : Nat → Nat
  | 0 => 0
  | n + 1 => m + 256 * rep m n
def s1 (M x : Nat) : Nat := (x / 2 &&& M) + (x &&& M)
def s2 (M x : Nat) : Nat := (x / 4 &&& M) + (x &&& M)
def s3 (M x : Nat) : Nat := (x / 16 + x) &&& M
def f8 (a : Nat) : Nat := s3 15 (s2 51 (s1 85 a))
def F8 : Nat → Nat → Nat
  | 0, _ => 0
  | n + 1, x => f8 (x % 256) + 256 * F8 n (x / 256)
theorem low1 : ∀ a, a < 256 → ∀ q, q < 2 → (a / 2 + 128 * q) &&& 85 = a / 2 &&& 85 := by decide +kernel
theorem low2 : ∀ a, a < 256 → ∀ q, q < 4 → (a / 4 + 64 * q) &&& 51 = a / 4 &&& 51 := by decide +kernel
theorem le1 : ∀ a, a < 256 → s1 85 a < 256 := by decide +kernel
theorem le2 : ∀ a, a < 256 → s2 51 (s1 85 a) ≤ 68 ∧ s2 51 (s1 85 a) % 16 ≤ 4 := by decide +kernel
theorem low3 : ∀ a, a < 69 → ∀ q, q < 5 → (a / 16 + a + 16 * q) &&& 15 = (a / 16 + a) &&& 15 := by decide +kernel
theorem f8_pop : ∀ a, a < 256 → f8 a = pop 8 a := by decide +kernel
theorem f8_le : ∀ a, a < 256 → f8 a ≤ 8 := by decide +kernel
theorem s1_step {a y M : Nat} (ha : a < 256) : s1 (85 + 256 * M) (a + 256 * y) = s1 85 a + 256 * s1 M y := by
  unfold s1
  have e : (a + 256 * y) / 2 = (a / 2 + 128 * (y % 2)) + 256 * (y / 2) := by omega
  rw [e, and_split (by omega) (by omega), and_split ha (by omega), low1 a ha _ (by omega)]
  omega
theorem s2_step {a y M : Nat} (ha : a < 256) : s2 (51 + 256 * M) (a + 256 * y) = s2 51 a + 256 * s2 M y := by
  unfold s2
  have e : (a + 256 * y) / 4 = (a / 4 + 64 * (y % 4)) + 256 * (y / 4) := by omega
  rw [e, and_split (by omega) (by omega), and_split ha (by omega), low2 a ha _ (by omega)]
  omega
theorem s3_step {a y M : Nat} (ha : a ≤ 68) (hy : y % 16 ≤ 4) : s3 (15 + 256 * M) (a + 256 * y) = s3 15 a + 256 * s3 M y := by
  unfold s3
  have e : (a + 256 * y) / 16 + (a + 256 * y) = (a / 16 + a + 16 * (y % 16)) + 256 * (y / 16 + y) := by omega
  rw [e, and_split (by omega) (by omega), low3 a (by omega) _ (by omega)]
theorem s12_low : ∀ n y, s2 (rep 51 n) (s1 (rep 85 n) y) % 16 ≤ 4
  | 0, y => by simp [s2, s1, rep]
  | n + 1, y => by
    have e : y = y % 256 + 256 * (y / 256) := by omega
    rw [e]
    simp only [rep]
    rw [s1_step (by omega), s2_step (le1 _ (by omega))]
    have := (le2 (y % 256) (by omega)).2
    omega
theorem s123 : ∀ n x, s3 (rep 15 n) (s2 (rep 51 n) (s1 (rep 85 n) x)) = F8 n x
  | 0, x => by simp [s3, rep, F8]
  | n + 1, x => by
    have e : x = x % 256 + 256 * (x / 256) := by omega
    have h1 : s3 (rep 15 (n + 1)) (s2 (rep 51 (n + 1)) (s1 (rep 85 (n + 1)) (x % 256 + 256 * (x / 256)))) = f8 (x % 256) + 256 * F8 n (x / 256) := by
      simp only [rep]
      rw [s1_step (by omega), s2_step (le1 _ (by omega)), s3_step (le2 _ (by omega)).1 (s12_low n _), s123 n]
      rfl
    rw [← e] at h1
    rw [h1]; rfl
theorem pop_add (m : Nat) : ∀ n x, pop (n + m) x = pop n (x % 2 ^ n) + pop m (x / 2 ^ n)
  | 0, x => by simp [pop]
  | n + 1, x => by
    have h := pop_add m n (x / 2)
    rw [show n + 1 + m = (n + m) + 1 by omega]
    simp only [pop]
    rw [h]
    have e1 : x % 2 ^ (n + 1) % 2 = x % 2 := by rw [Nat.pow_succ, Nat.mul_comm]; exact Nat.mod_mul_right_mod x 2 (2 ^ n)
    have e2 : x % 2 ^ (n + 1) / 2 = x / 2 % 2 ^ n := by rw [Nat.pow_succ, Nat.mul_comm]; exact Nat.mod_mul_right_div_self x 2 (2 ^ n)
    have e3 : x / 2 / 2 ^ n = x / 2 ^ (n + 1) := by rw [Nat.div_div_eq_div_mul, Nat.pow_succ, Nat.mul_comm]
    rw [e1, e2, e3]; omega
theorem pop8 (m x : Nat) : pop (8 + m) x = f8 (x % 256) + pop m (x / 256) := by
  rw [pop_add m 8 x, show (2 : Nat) ^ 8 = 256 from rfl, f8_pop _ (by omega)]
theorem F8_shape (x : Nat) : ∃ a b c d e f g i : Nat, a ≤ 8 ∧ b ≤ 8 ∧ c ≤ 8 ∧ d ≤ 8 ∧ e ≤ 8 ∧ f ≤ 8 ∧ g ≤ 8 ∧ i ≤ 8 ∧
    F8 8 x = a + 256 * (b + 256 * (c + 256 * (d + 256 * (e + 256 * (f + 256 * (g + 256 * i)))))) ∧ pop 64 x = a + b + c + d + e + f + g + i := by
  refine ⟨f8 (x % 256), f8 (x / 256 % 256), f8 (x / 256 / 256 % 256), f8 (x / 256 / 256 / 256 % 256), f8 (x / 256 / 256 / 256 / 256 % 256), f8 (x / 256 / 256 / 256 / 256 / 256 % 256), f8 (x / 256 / 256 / 256 / 256 / 256 / 256 % 256), f8 (x / 256 / 256 / 256 / 256 / 256 / 256 / 256 % 256), f8_le _ (Nat.mod_lt _ (by omega)), f8_le _ (Nat.mod_lt _ (by omega)), f8_le _ (Nat.mod_lt _ (by omega)), f8_le _ (Nat.mod_lt _ (by omega)), f8_le _ (Nat.mod_lt _ (by omega)), f8_le _ (Nat.mod_lt _ (by omega)), f8_le _ (Nat.mod_lt _ (by omega)), f8_le _ (Nat.mod_lt _ (by omega)), ?_, ?_⟩
  rotate_left
  · rw [show (64 : Nat) = 8 + 56 from rfl, pop8, show (56 : Nat) = 8 + 48 from rfl, pop8, show (48 : Nat) = 8 + 40 from rfl, pop8, show (40 : Nat) = 8 + 32 from rfl, pop8, show (32 : Nat) = 8 + 24 from rfl, pop8,
      show (24 : Nat) = 8 + 16 from rfl, pop8, show (16 : Nat) = 8 + 8 from rfl, pop8, show (8 : Nat) = 8 + 0 from rfl, pop8]
    simp only [pop, Nat.add_zero, Nat.add_assoc]
  · simp [F8]
def s4 (x : Nat) : Nat := x + x / 256
def s5 (x : Nat) : Nat := x + x / 65536
def s6 (x : Nat) : Nat := x + x / 4294967296
theorem quo1 (u r : Nat) (hu : u < 256) : (u + 256 * r) / 256 = r := by omega
theorem quo2 (u r : Nat) (hu : u < 65536) : (u + 65536 * r) / 65536 = r := by omega
theorem quo3 (u r : Nat) (hu : u < 4294967296) : (u + 4294967296 * r) / 4294967296 = r := by omega
theorem bd3 (a b c d e f g : Nat) (h1 : a ≤ 8) (h2 : b ≤ 8) (h3 : c ≤ 8) (h4 : d ≤ 8) (h5 : e ≤ 8) (h6 : f ≤ 8) (h7 : g ≤ 8) : (a + b + c + d) + 256 * (b + c + d + e) + 65536 * ((c + d + e + f) + 256 * (d + e + f + g)) < 4294967296 := by omega
theorem bd4 (a b c d e f g i : Nat) (h1 : a ≤ 8) (h2 : b ≤ 8) (h3 : c ≤ 8) (h4 : d ≤ 8) (h5 : e ≤ 8) (h6 : f ≤ 8) (h7 : g ≤ 8) (h8 : i ≤ 8) : a + b + c + d + e + f + g + i < 128 := by omega
theorem bd5 (a b c d e f g i : Nat) (h1 : a ≤ 8) (h2 : b ≤ 8) (h3 : c ≤ 8) (h4 : d ≤ 8) (h5 : e ≤ 8) (h6 : f ≤ 8) (h7 : g ≤ 8) (h8 : i ≤ 8) : (a + 256 * (b + 256 * (c + 256 * (d + 256 * (e + 256 * (f + 256 * (g + 256 * i))))))) < 2 ^ 60 := by omega
theorem popOf (x : Nat) : s6 (s5 (s4 (F8 8 x))) % 128 = pop 64 x ∧ F8 8 x < 2 ^ 60 := by
  obtain ⟨a, b, c, d, e, f, g, i, h1, h2, h3, h4, h5, h6, h7, h8, hF, hp⟩ := F8_shape x
  rw [hF, hp]
  clear hF hp
  have k1 : a < 256 := Nat.lt_of_le_of_lt h1 (by decide)
  have k2 : (a + b) + 256 * (b + c) < 65536 := by clear h4 h5 h6 h7 h8 k1; omega
  have k3 := bd3 a b c d e f g h1 h2 h3 h4 h5 h6 h7
  have k4 := bd4 a b c d e f g i h1 h2 h3 h4 h5 h6 h7 h8
  have k5 := bd5 a b c d e f g i h1 h2 h3 h4 h5 h6 h7 h8
  refine ⟨?_, k5⟩
  clear k5 h1 h2 h3 h4 h5 h6 h7 h8
  have e4 : s4 (a + 256 * (b + 256 * (c + 256 * (d + 256 * (e + 256 * (f + 256 * (g + 256 * i))))))) = ((a + b) + 256 * (b + c)) + 65536 * ((c + d) + 256 * (d + e) + 65536 * ((e + f) + 256 * (f + g) + 65536 * ((g + i) + 256 * i))) := by
    unfold s4; rw [quo1 a (b + 256 * (c + 256 * (d + 256 * (e + 256 * (f + 256 * (g + 256 * i)))))) k1]; clear k1 k2 k3 k4; omega
  have e5 : s5 (((a + b) + 256 * (b + c)) + 65536 * ((c + d) + 256 * (d + e) + 65536 * ((e + f) + 256 * (f + g) + 65536 * ((g + i) + 256 * i)))) =
      ((a + b + c + d) + 256 * (b + c + d + e) + 65536 * ((c + d + e + f) + 256 * (d + e + f + g))) + 4294967296 * ((e + f + g + i) + 256 * (f + g + i) + 65536 * ((g + i) + 256 * i)) := by
    unfold s5; rw [quo2 ((a + b) + 256 * (b + c)) ((c + d) + 256 * (d + e) + 65536 * ((e + f) + 256 * (f + g) + 65536 * ((g + i) + 256 * i))) k2]; clear k1 k2 k3 k4 e4; omega
  have e6 : s6 (((a + b + c + d) + 256 * (b + c + d + e) + 65536 * ((c + d + e + f) + 256 * (d + e + f + g))) + 4294967296 * ((e + f + g + i) + 256 * (f + g + i) + 65536 * ((g + i) + 256 * i))) =
      (a + b + c + d + e + f + g + i) + 128 * (2 * (b + c + d + e + f + g + i) + 512 * ((c + d + e + f) + 256 * (d + e + f + g) + ((g + i) + 256 * i)) + 33554432 * ((e + f + g + i) + 256 * (f + g + i) + 65536 * ((g + i) + 256 * i))) := by
    unfold s6; rw [quo3 ((a + b + c + d) + 256 * (b + c + d + e) + 65536 * ((c + d + e + f) + 256 * (d + e + f + g))) ((e + f + g + i) + 256 * (f + g + i) + 65536 * ((g + i) + 256 * i)) k3]; clear k1 k2 k3 k4 e4 e5; omega
  rw [e4, e5, e6, Nat.add_mul_mod_self_left]
  exact Nat.mod_eq_of_lt k4
theorem masks : rep 85 8 = 6148914691236517205 ∧ rep 51 8 = 3689348814741910323 ∧ rep 15 8 = 1085102592571150095 := by decide
end Go.Xe
namespace Go.Proofs.YtomialandfplkaaDoor.Eva
open Go.Xe
set_option maxRecDepth 100000
set_option maxHeartbeats 400000
set_option linter.unusedVariables false
noncomputable section
noncomputable def fx19 : XF Tryd.prog := ⟨19, Tryd.f19, fun _ => .text, Tryd.func19, by kernel_rfl, by kernel_rfl, by kernel_rfl, by kernel_rfl⟩
noncomputable def ff19 (x2 : O) (h : HW) : Rs :=
 ob x2 fun a0 =>
 some (.ret a0, h)
noncomputable def q19_2 (C : YC) (lf : Nat) (r : K1) (x3 : O) (h : HW) : Rs :=
 ob x3 fun a1 =>
 r (some a1) h
theorem q19_2_eq (C : YC) (lf : Nat) (r : K1) (KN : KF) (KE : KX) : ∀ F h, evX fx19 C lf [1, 1, 1, 1] F h KN (fun F h => r (F 2) h) KE = q19_2 C lf r (F 3) h := by
  intro F h; kernel_rfl
noncomputable def q19_17 (C : YC) (lf : Nat) (n : K3) (e0 : K1) (x0 x3 x12 : O) (h : HW) : Rs :=
 ob x12 fun a4 =>
 ob (bin Tryd.prog .lss 3 a4 (.int .i64 64)) fun y5 =>
 yIf y5
 (ob x12 fun a6 =>
 ob x3 fun a7 =>
 ob x0 fun a8 =>
 ob (semNil a8) fun y9 =>
 ob (fa 1 y9) fun y10 =>
 ob (ixA 64 1 y10 a6) fun y11 =>
 ob (ld1 y11 h) fun y12 =>
 bc (C (.fn 65) [y12] h) fun y13 h13 =>
 ob (bin Tryd.prog .sub 3 a7 y13) fun y14 =>
 ob x12 fun a15 =>
 ob (bin Tryd.prog .add 3 a15 (.int .i64 1)) fun y16 =>
 n x0 (some y14) (some y16) h13)
 (e0 x3 h)
theorem q19_17_eq (C : YC) (lf : Nat) (n : K3) (e0 : K1) (KR : KF) (KE : KX) : ∀ F h, evX fx19 C lf [1, 1, 1, 0, 1, 0, 0] F h (fun F h => n (F 0) (F 3) (F 12) h) KR (bk 0 (fun F h => e0 (F 3) h) KE) = q19_17 C lf n e0 (F 0) (F 3) (F 12) h := by
  intro F h; kernel_rfl
noncomputable def l19_3 (C : YC) (lf : Nat) (e0 : K1) (k : O × O × O → HW → Rs) (s : O × O × O) (h : HW) : Rs :=
 q19_17 C lf (fun x0 x3 x12 h => k (x0, x3, x12) h) e0 s.1 s.2.1 s.2.2 h
noncomputable def q19_18 (C : YC) (lf : Nat) (n : K3) (x0 x3 : O) (h : HW) : Rs :=
 n x0 x3 (some (.int .i64 0)) h
theorem q19_18_eq (C : YC) (lf : Nat) (n : K3) (KR : KF) (KE : KX) : ∀ F h, evX fx19 C lf [1, 1, 1, 0, 0] F h (fun F h => n (F 0) (F 3) (F 12) h) KR KE = q19_18 C lf n (F 0) (F 3) h := by
  intro F h; kernel_rfl
noncomputable def q19_19 (C : YC) (lf : Nat) (n : K1) (x0 x3 : O) (h : HW) : Rs :=
 q19_18 C lf (fun x0 x3 x12 h => lp (l19_3 C lf n) lf (x0, x3, x12) h) x0 x3 h
theorem q19_19_eq (C : YC) (lf : Nat) (n : K1) (KR : KF) (KE : KX) : ∀ F h, evX fx19 C lf [1, 1, 1, 0] F h (fun F h => n (F 3) h) KR KE = q19_19 C lf n (F 0) (F 3) h := cSeq (a := subX fx19 [1, 1, 1, 0, 0]) (b := subX fx19 [1, 1, 1, 0, 1]) (by kernel_rfl) (B := (fun F h => lp (l19_3 C lf n) lf ((F 0), (F 3), (F 12)) h)) (cBlock (id := 0) (a := subX fx19 [1, 1, 1, 0, 1, 0]) (by kernel_rfl) (cLoop (a := subX fx19 [1, 1, 1, 0, 1, 0, 0]) (g := fun F => (F 0, F 3, F 12)) (body := l19_3 C lf n) (by kernel_rfl) (fun k => (q19_17_eq C lf (fun x0 x3 x12 h => k (x0, x3, x12) h) n KR KE)))) (q19_18_eq C lf (fun x0 x3 x12 h => lp (l19_3 C lf n) lf (x0, x3, x12) h) KR KE)
noncomputable def q19_20 (C : YC) (lf : Nat) (r : K1) (x0 x3 : O) (h : HW) : Rs :=
 q19_19 C lf (fun x3 h => q19_2 C lf r x3 h) x0 x3 h
theorem q19_20_eq (C : YC) (lf : Nat) (r : K1) (KN : KF) (KE : KX) : ∀ F h, evX fx19 C lf [1, 1, 1] F h KN (fun F h => r (F 2) h) KE = q19_20 C lf r (F 0) (F 3) h := cSeq (a := subX fx19 [1, 1, 1, 0]) (b := subX fx19 [1, 1, 1, 1]) (by kernel_rfl) (B := (fun F h => q19_2 C lf r (F 3) h)) (q19_2_eq C lf r KN KE) (q19_19_eq C lf (fun x3 h => q19_2 C lf r x3 h) (fun F h => r (F 2) h) KE)
noncomputable def q19_25 (C : YC) (lf : Nat) (n : K2) (x0 : O) (h : HW) : Rs :=
 ob x0 fun a21 =>
 ob (semNil a21) fun y22 =>
 ob (fa 0 y22) fun y23 =>
 ob (ld1 y23 h) fun y24 =>
 n x0 (some y24) h
theorem q19_25_eq (C : YC) (lf : Nat) (n : K2) (KR : KF) (KE : KX) : ∀ F h, evX fx19 C lf [1, 1, 0] F h (fun F h => n (F 0) (F 3) h) KR KE = q19_25 C lf n (F 0) h := by
  intro F h; kernel_rfl
noncomputable def q19_26 (C : YC) (lf : Nat) (r : K1) (x0 : O) (h : HW) : Rs :=
 q19_25 C lf (fun x0 x3 h => q19_20 C lf r x0 x3 h) x0 h
theorem q19_26_eq (C : YC) (lf : Nat) (r : K1) (KN : KF) (KE : KX) : ∀ F h, evX fx19 C lf [1, 1] F h KN (fun F h => r (F 2) h) KE = q19_26 C lf r (F 0) h := cSeq (a := subX fx19 [1, 1, 0]) (b := subX fx19 [1, 1, 1]) (by kernel_rfl) (B := (fun F h => q19_20 C lf r (F 0) (F 3) h)) (q19_20_eq C lf r KN KE) (q19_25_eq C lf (fun x0 x3 h => q19_20 C lf r x0 x3 h) (fun F h => r (F 2) h) KE)
noncomputable def q19_30 (C : YC) (lf : Nat) (n : K1) (r : K1) (x0 : O) (h : HW) : Rs :=
 ob x0 fun a27 =>
 bc (C (.fn 63) [a27] h) fun y28 h28 =>
 ob (unE .not y28) fun y29 =>
 yIf y29
 (r (some (.int .i64 0)) h28)
 (n x0 h28)
theorem q19_30_eq (C : YC) (lf : Nat) (n : K1) (r : K1) (KE : KX) : ∀ F h, evX fx19 C lf [1, 0] F h (fun F h => n (F 0) h) (fun F h => r (F 2) h) KE = q19_30 C lf n r (F 0) h := by
  intro F h; kernel_rfl
noncomputable def q19_31 (C : YC) (lf : Nat) (r : K1) (x0 : O) (h : HW) : Rs :=
 q19_30 C lf (fun x0 h => q19_26 C lf r x0 h) r x0 h
theorem q19_31_eq (C : YC) (lf : Nat) (r : K1) (KN : KF) (KE : KX) : ∀ F h, evX fx19 C lf [1] F h KN (fun F h => r (F 2) h) KE = q19_31 C lf r (F 0) h := cSeq (a := subX fx19 [1, 0]) (b := subX fx19 [1, 1]) (by kernel_rfl) (B := (fun F h => q19_26 C lf r (F 0) h)) (q19_26_eq C lf r KN KE) (q19_30_eq C lf (fun x0 h => q19_26 C lf r x0 h) r KE)
noncomputable def q19_32 (C : YC) (lf : Nat) (n : K1) (x0 : O) (h : HW) : Rs :=
 n x0 h
theorem q19_32_eq (C : YC) (lf : Nat) (n : K1) (KR : KF) (KE : KX) : ∀ F h, evX fx19 C lf [0] F h (fun F h => n (F 0) h) KR KE = q19_32 C lf n (F 0) h := by
  intro F h; kernel_rfl
noncomputable def q19_33 (C : YC) (lf : Nat) (r : K1) (x0 : O) (h : HW) : Rs :=
 q19_32 C lf (fun x0 h => q19_31 C lf r x0 h) x0 h
theorem q19_33_eq (C : YC) (lf : Nat) (r : K1) (KN : KF) (KE : KX) : ∀ F h, evX fx19 C lf [] F h KN (fun F h => r (F 2) h) KE = q19_33 C lf r (F 0) h := cSeq (a := subX fx19 [0]) (b := subX fx19 [1]) (by kernel_rfl) (B := (fun F h => q19_31 C lf r (F 0) h)) (q19_31_eq C lf r KN KE) (q19_32_eq C lf (fun x0 h => q19_31 C lf r x0 h) (fun F h => r (F 2) h) KE)
noncomputable def fs19 (C : YC) (lf : Nat) (a0 : SV) (h : HW) : Rs := q19_33 C lf ff19 (some a0) h
theorem fs19_eq (C : YC) (lf : Nat) (a0 : SV) (h : HW) : yFn Tryd.prog fx19 C lf [a0] h = fs19 C lf a0 h := fnX (K := (fun F h => ff19 (F 2) h)) (by kernel_rfl) (((q19_33_eq C lf ff19 (fun F h => ff19 (F 2) h) (fun _ _ _ => none)) _ h).trans (by kernel_rfl))
noncomputable def fy19 : YX Tryd.prog := Y1 fx19 fs19 fs19_eq (by kernel_rfl)
noncomputable def fx65 : XF Tryd.prog := ⟨65, Tryd.f65, fun _ => .text, Tryd.func65, by kernel_rfl, by kernel_rfl, by kernel_rfl, by kernel_rfl⟩
noncomputable def ff65 (x2 : O) (h : HW) : Rs :=
 ob x2 fun a0 =>
 some (.ret a0, h)
noncomputable def q65_22 (C : YC) (lf : Nat) (r : K1) (x0 : O) (h : HW) : Rs :=
 ob x0 fun a1 =>
 ob (bin Tryd.prog .shr 55 a1 (.int .u64 1)) fun y2 =>
 ob (bin Tryd.prog .and 55 y2 (.int .u64 6148914691236517205)) fun y3 =>
 ob x0 fun a4 =>
 ob (bin Tryd.prog .and 55 a4 (.int .u64 6148914691236517205)) fun y5 =>
 ob (bin Tryd.prog .add 55 y3 y5) fun y6 =>
 ob (bin Tryd.prog .shr 55 y6 (.int .u64 2)) fun y7 =>
 ob (bin Tryd.prog .and 55 y7 (.int .u64 3689348814741910323)) fun y8 =>
 ob (bin Tryd.prog .and 55 y6 (.int .u64 3689348814741910323)) fun y9 =>
 ob (bin Tryd.prog .add 55 y8 y9) fun y10 =>
 ob (bin Tryd.prog .shr 55 y10 (.int .u64 4)) fun y11 =>
 ob (bin Tryd.prog .add 55 y11 y10) fun y12 =>
 ob (bin Tryd.prog .and 55 y12 (.int .u64 1085102592571150095)) fun y13 =>
 ob (bin Tryd.prog .shr 55 y13 (.int .u64 8)) fun y14 =>
 ob (bin Tryd.prog .add 55 y13 y14) fun y15 =>
 ob (bin Tryd.prog .shr 55 y15 (.int .u64 16)) fun y16 =>
 ob (bin Tryd.prog .add 55 y15 y16) fun y17 =>
 ob (bin Tryd.prog .shr 55 y17 (.int .u64 32)) fun y18 =>
 ob (bin Tryd.prog .add 55 y17 y18) fun y19 =>
 ob (cvI .i64 y19) fun y20 =>
 ob (bin Tryd.prog .and 3 y20 (.int .i64 127)) fun y21 =>
 r (some y21) h
theorem q65_22_eq (C : YC) (lf : Nat) (r : K1) (KN : KF) (KE : KX) : ∀ F h, evX fx65 C lf [] F h KN (fun F h => r (F 2) h) KE = q65_22 C lf r (F 0) h := by
  intro F h; kernel_rfl
noncomputable def fs65 (C : YC) (lf : Nat) (a0 : SV) (h : HW) : Rs := q65_22 C lf ff65 (some a0) h
theorem fs65_eq (C : YC) (lf : Nat) (a0 : SV) (h : HW) : yFn Tryd.prog fx65 C lf [a0] h = fs65 C lf a0 h := fnX (K := (fun F h => ff65 (F 2) h)) (by kernel_rfl) (((q65_22_eq C lf ff65 (fun F h => ff65 (F 2) h) (fun _ _ _ => none)) _ h).trans (by kernel_rfl))
noncomputable def fy65 : YX Tryd.prog := Y1 fx65 fs65 fs65_eq (by kernel_rfl)
end
end Go.Proofs.YtomialandfplkaaDoor.Eva
namespace Go.Proofs.YtomialandfplkaaDoor.Eva
open Go.Xe
set_option linter.unusedSimpArgs false
theorem pop_count : ∀ n x, pop n x = ((List.range n).filter fun i => x.testBit i).length
  | 0, _ => rfl
  | n + 1, x => by
    rw [List.range_succ_eq_map, List.filter_cons]
    simp only [pop, pop_count n (x / 2), List.filter_map, List.length_map]
    have e : (List.range n).filter ((fun i => x.testBit i) ∘ Nat.succ) = (List.range n).filter fun i => (x / 2).testBit i := by
      apply List.filter_congr
      intro i _
      simp [Nat.testBit_succ]
    cases hb : x.testBit 0 with
    | true =>
      have : x % 2 = 1 := by simpa [Nat.testBit_zero] using hb
      simp only [if_true, List.length_cons, List.length_map, e]; omega
    | false =>
      have : x % 2 = 0 := by simp [Nat.testBit_zero] at hb; omega
      simp [e, this]
def sumPop (wd : Nat → Nat) : Nat → Nat
  | 0 => 0
  | m + 1 => sumPop wd m + pop 64 (wd m)
theorem range_add64 (m : Nat) : List.range (64 * (m + 1)) = List.range (64 * m) ++ (List.range 64).map (64 * m + ·) := by
  rw [Nat.mul_succ, List.range_add]
theorem sumPop_eq (wd : Nat → Nat) : ∀ m, sumPop wd m = ((List.range (64 * m)).filter (onB wd)).length
  | 0 => rfl
  | m + 1 => by
    rw [range_add64, List.filter_append, List.length_append, sumPop, sumPop_eq wd m, pop_count, List.filter_map, List.length_map]
    congr 2
    apply List.filter_congr
    intro i hi
    have : i < 64 := List.mem_range.1 hi
    simp only [Function.comp, onB]
    rw [show (64 * m + i) / 64 = m by omega, show (64 * m + i) % 64 = i by omega]
def usedL (wd : Nat → Nat) (n : Nat) : List Nat := (List.range n).filter (onB wd)
theorem usedL_le (wd : Nat → Nat) (n : Nat) : (usedL wd n).length ≤ n := by
  have := List.length_filter_le (onB wd) (List.range n)
  simpa [usedL] using this
section
variable {lf m : Nat} {h : HW} {k dk n : Nat} {wd b : Nat → Nat}
theorem StoreAt.sum (S : StoreAt h k dk n wd b) : sumPop wd 64 = (usedL wd n).length := by
  rw [sumPop_eq]
  have h2 := S.n2
  have e : List.range (64 * 64) = List.range n ++ (List.range (4096 - n)).map (n + ·) := by
    rw [show 64 * 64 = n + (4096 - n) by omega, List.range_add]
  rw [e, List.filter_append, List.length_append, usedL]
  have : ((List.range (4096 - n)).map (n + ·)).filter (onB wd) = [] := by
    rw [List.filter_eq_nil_iff]
    intro x hx
    obtain ⟨i, hi, rfl⟩ := List.mem_map.1 hx
    have hi : i < 4096 - n := List.mem_range.1 hi
    unfold onB
    rw [S.out ((n + i) / 64) ((n + i) % 64) (by omega) (by omega) (by omega)]
    simp
  rw [this]; rfl
theorem sumPop_mono (wd : Nat → Nat) : ∀ a d, sumPop wd a ≤ sumPop wd (a + d)
  | a, 0 => Nat.le_refl _
  | a, d + 1 => Nat.le_trans (sumPop_mono wd a d) (Nat.le_add_right _ _)
def OnesOK (C : YC) : Prop := ∀ h (x : Nat), x < 2 ^ 64 → C (.fn 65) [.int .u64 (x : Int)] h = some (.ret (.int .i64 (pop 64 x : Nat)), h)
theorem bin_addN {P : Program} {t : TypeId} {a b : Nat} (h : a + b < 2 ^ 64) : bin P .add t (.int .u64 (a : Int)) (.int .u64 (b : Int)) = some (.int .u64 ((a + b : Nat) : Int)) := by
  rw [bin_add, wrap_u64 (by omega) (by omega)]; rfl
theorem bin_shrN {P : Program} {t : TypeId} {a : Nat} (b p : Nat) (hb : b < 64) (hp : 2 ^ b = p) : bin P .shr t (.int .u64 (a : Int)) (.int .u64 (b : Int)) = some (.int .u64 ((a / p : Nat) : Int)) := by
  rw [bin_shr hb, hp]
theorem bin_andN {P : Program} {t : TypeId} {a : Nat} (b : Nat) (ha : a < 2 ^ 64) (hb : b < 2 ^ 64) : bin P .and t (.int .u64 (a : Int)) (.int .u64 (b : Int)) = some (.int .u64 ((a &&& b : Nat) : Int)) := bin_and ha hb
theorem bin_and127 {P : Program} {t : TypeId} {a : Nat} (ha : a < 2 ^ 62) : bin P .and t (.int .i64 (a : Int)) (.int .i64 127) = some (.int .i64 ((a % 128 : Nat) : Int)) := by
  rw [bin_bits .and (.inl rfl)]
  have h1 : BitVec.ofInt 64 (a : Int) = BitVec.ofNat 64 a := ofInt_nat a
  have h2 : BitVec.ofInt 64 (127 : Int) = BitVec.ofNat 64 127 := rfl
  have h3 : (BitVec.ofNat 64 a &&& BitVec.ofNat 64 127).toNat = a % 128 := by
    rw [BitVec.toNat_and, BitVec.toNat_ofNat, BitVec.toNat_ofNat, Nat.mod_eq_of_lt (by omega), Nat.mod_eq_of_lt (by omega)]
    exact Nat.and_two_pow_sub_one_eq_mod a 7
  show some (forceI (IntKind.i64.wrap ((BitVec.ofInt 64 (a : Int) &&& BitVec.ofInt 64 (127 : Int)).toNat : Int)) fun r => SV.int .i64 r) = _
  rw [forceI_eq, h1, h2, h3, wrap_i64 (by omega) (by omega)]
theorem ones_ok {C : YC} {lf x : Nat} {h : HW} (hx : x < 2 ^ 64) : fs65 C lf (.int .u64 (x : Int)) h = some (.ret (.int .i64 (pop 64 x : Nat)), h) := by
  obtain ⟨p1, p2⟩ := popOf x
  rw [← s123 8 x, masks.1, masks.2.1, masks.2.2] at p1 p2
  have a1 : x / 2 < 2 ^ 64 := by omega
  have a2 : x / 2 &&& 6148914691236517205 ≤ 6148914691236517205 := Nat.and_le_right
  have a3 : x &&& 6148914691236517205 ≤ 6148914691236517205 := Nat.and_le_right
  have hs1 : s1 6148914691236517205 x = (x / 2 &&& 6148914691236517205) + (x &&& 6148914691236517205) := rfl
  have b0 : s1 6148914691236517205 x < 2 ^ 64 := by omega
  generalize hy : s1 6148914691236517205 x = y at *
  have b2 : y / 4 &&& 3689348814741910323 ≤ 3689348814741910323 := Nat.and_le_right
  have b3 : y &&& 3689348814741910323 ≤ 3689348814741910323 := Nat.and_le_right
  have hs2 : s2 3689348814741910323 y = (y / 4 &&& 3689348814741910323) + (y &&& 3689348814741910323) := rfl
  have c0 : s2 3689348814741910323 y ≤ 7378697629483820646 := by omega
  generalize hz : s2 3689348814741910323 y = z at *
  have hs3 : s3 1085102592571150095 z = (z / 16 + z) &&& 1085102592571150095 := rfl
  generalize hw : s3 1085102592571150095 z = w at *
  have hs4 : s4 w = w + w / 256 := rfl
  have hs5 : s5 (s4 w) = s4 w + s4 w / 65536 := rfl
  have hs6 : s6 (s5 (s4 w)) = s5 (s4 w) + s5 (s4 w) / 4294967296 := rfl
  have d4 : s4 w < 2 ^ 61 := by omega
  generalize hq4 : s4 w = w4 at *
  have d5 : s5 w4 < 2 ^ 61 + 2 ^ 50 := by omega
  generalize hq5 : s5 w4 = w5 at *
  have d6 : s6 w5 < 2 ^ 62 := by omega
  generalize hq6 : s6 w5 = w6 at *
  have e1 := bin_shrN (P := Tryd.prog) (t := 55) (a := x) 1 2 (by omega) rfl
  have e2 := bin_andN (P := Tryd.prog) (t := 55) (a := x / 2) 6148914691236517205 a1 (by omega)
  have e3 := bin_andN (P := Tryd.prog) (t := 55) (a := x) 6148914691236517205 hx (by omega)
  have e4 := bin_addN (P := Tryd.prog) (t := 55) (a := x / 2 &&& 6148914691236517205) (b := x &&& 6148914691236517205) (by omega)
  rw [← hs1] at e4
  have e5 := bin_shrN (P := Tryd.prog) (t := 55) (a := y) 2 4 (by omega) rfl
  have e6 := bin_andN (P := Tryd.prog) (t := 55) (a := y / 4) 3689348814741910323 (by omega) (by omega)
  have e7 := bin_andN (P := Tryd.prog) (t := 55) (a := y) 3689348814741910323 b0 (by omega)
  have e8 := bin_addN (P := Tryd.prog) (t := 55) (a := y / 4 &&& 3689348814741910323) (b := y &&& 3689348814741910323) (by omega)
  rw [← hs2] at e8
  have e9 := bin_shrN (P := Tryd.prog) (t := 55) (a := z) 4 16 (by omega) rfl
  have e10 := bin_addN (P := Tryd.prog) (t := 55) (a := z / 16) (b := z) (by omega)
  have e11 := bin_andN (P := Tryd.prog) (t := 55) (a := z / 16 + z) 1085102592571150095 (by omega) (by omega)
  rw [← hs3] at e11
  have e12 := bin_shrN (P := Tryd.prog) (t := 55) (a := w) 8 256 (by omega) rfl
  have e13 := bin_addN (P := Tryd.prog) (t := 55) (a := w) (b := w / 256) (by omega)
  rw [← hs4] at e13
  have e14 := bin_shrN (P := Tryd.prog) (t := 55) (a := w4) 16 65536 (by omega) rfl
  have e15 := bin_addN (P := Tryd.prog) (t := 55) (a := w4) (b := w4 / 65536) (by omega)
  rw [← hs5] at e15
  have e16 := bin_shrN (P := Tryd.prog) (t := 55) (a := w5) 32 4294967296 (by omega) rfl
  have e17 := bin_addN (P := Tryd.prog) (t := 55) (a := w5) (b := w5 / 4294967296) (by omega)
  rw [← hs6] at e17
  have e18 : cvI .i64 (.int .u64 (w6 : Int)) = some (.int .i64 (w6 : Int)) := by simp only [cvI, forceI_eq]; rw [wrap_i64 (by omega) (by omega)]
  have e19 := bin_and127 (P := Tryd.prog) (t := 3) (a := w6) d6
  rw [p1] at e19
  clear p1 p2 a1 a2 a3 hs1 b0 b2 b3 hs2 c0 hs3 hs4 hs5 hs6 d4 d5 d6
  unfold fs65 q65_22 ff65
  simp only [ob_some]
  erw [e1]; simp only [ob_some]
  erw [e2]; simp only [ob_some]
  erw [e3]; simp only [ob_some]
  rw [e4]; simp only [ob_some]
  erw [e5]; simp only [ob_some]
  erw [e6]; simp only [ob_some]
  erw [e7]; simp only [ob_some]
  rw [e8]; simp only [ob_some]
  erw [e9]; simp only [ob_some]
  rw [e10]; simp only [ob_some]
  erw [e11]; simp only [ob_some]
  erw [e12]; simp only [ob_some]
  rw [e13]; simp only [ob_some]
  erw [e14]; simp only [ob_some]
  rw [e15]; simp only [ob_some]
  erw [e16]; simp only [ob_some]
  rw [e17]; simp only [ob_some, e18, e19]
def LeftOK (C : YC) : Prop := ∀ h k dk n wd b, StoreAt h k dk n wd b → C (.fn 19) [.ptr k 0] h = some (.ret (.int .i64 ((n - (usedL wd n).length : Nat) : Int)), h)
theorem left_loop {C : YC} {lf : Nat} (ho : OnesOK C) (S : StoreAt h k dk n wd b) (e0 : K1) : ∀ (d w : Nat), w + d = 64 → ∀ f, d < f →
    lp (l19_3 C lf e0) f (some (.ptr k 0), some (.int .i64 ((n - sumPop wd w : Nat) : Int)), some (.int .i64 (w : Int))) h = e0 (some (.int .i64 ((n - (usedL wd n).length : Nat) : Int))) h
  | 0, w, hw, f, hf => by
    obtain ⟨f, rfl⟩ : ∃ g, f = g + 1 := ⟨f - 1, by omega⟩
    have : w = 64 := by omega
    subst this
    rw [lp_succ, S.sum]
    unfold l19_3 q19_17
    have hlt : decide (((64 : Nat) : Int) < 64) = false := by decide
    simp only [ob_some, b2_some, bc_ret, bcn_ret, gd_tt, gd_ff, gd_tf, gd_ft, ypk_true, ypk_false, yIf_true, yIf_false, semNil_ptr, fa_ptr, ld1_ptr, ext_tup, fd1_agg, un_not, bin_add, bin_sub, bin_mul, bin_eql, bin_neq, bin_lss, bin_leq, bin_gtr, bin_geq, Nat.zero_add, Nat.mul_one, hlt]
  | d + 1, w, hw, f, hf => by
    obtain ⟨f, rfl⟩ : ∃ g, f = g + 1 := ⟨f - 1, by omega⟩
    have h2 := S.n2
    have hw64 : w < 64 := by omega
    have hix := ixA_ptr (n := 64) (s := 1) (k := k) (off := 1) (kd := .i64) (i := (w : Int)) (by omega) (by omega)
    rw [Int.toNat_natCast, Nat.mul_one] at hix
    have hlt : decide ((w : Int) < 64) = true := decide_eq_true (by omega)
    have hinc : IntKind.i64.wrap ((w : Int) + 1) = ((w + 1 : Nat) : Int) := by rw [wrap_i64 (by omega) (by omega)]; omega
    have hle : sumPop wd (w + 1) ≤ n := by
      have h3 := sumPop_mono wd (w + 1) d
      rw [show w + 1 + d = 64 by omega, S.sum] at h3
      exact Nat.le_trans h3 (usedL_le wd n)
    have hs : sumPop wd (w + 1) = sumPop wd w + pop 64 (wd w) := rfl
    have hsub : IntKind.i64.wrap (((n - sumPop wd w : Nat) : Int) - (pop 64 (wd w) : Nat)) = ((n - sumPop wd (w + 1) : Nat) : Int) := by
      rw [wrap_i64 (by omega) (by omega)]; omega
    rw [lp_succ]
    show q19_17 C lf (fun x0 x3 x12 h => lp (l19_3 C lf e0) f (x0, x3, x12) h) e0 (some (.ptr k 0)) (some (.int .i64 ((n - sumPop wd w : Nat) : Int))) (some (.int .i64 (w : Int))) h = _
    unfold q19_17
    simp only [ob_some, b2_some, bc_ret, bcn_ret, gd_tt, gd_ff, gd_tf, gd_ft, ypk_true, ypk_false, yIf_true, yIf_false, semNil_ptr, fa_ptr, ld1_ptr, ext_tup, fd1_agg, un_not, bin_add, bin_sub, bin_mul, bin_eql, bin_neq, bin_lss, bin_leq, bin_gtr, bin_geq, Nat.zero_add, Nat.mul_one, hlt, hix, S.cw w hw64, ho _ _ (S.wlt w), hsub, hinc]
    exact left_loop ho S e0 d (w + 1) (by omega) f (by omega)
theorem left_ok {C : YC} (hlf : 65 ≤ lf) (hm : MadeOK C) (ho : OnesOK C) (S : StoreAt h k dk n wd b) : fs19 C lf (.ptr k 0) h = some (.ret (.int .i64 ((n - (usedL wd n).length : Nat) : Int)), h) := by
  unfold fs19 q19_33 q19_32 q19_31 q19_30 q19_26 q19_25 q19_20 q19_19 q19_18
  simp only [ob_some, b2_some, bc_ret, bcn_ret, gd_tt, gd_ff, gd_tf, gd_ft, ypk_true, ypk_false, yIf_true, yIf_false, semNil_ptr, fa_ptr, ld1_ptr, ext_tup, fd1_agg, un_not, bin_add, bin_sub, bin_mul, bin_eql, bin_neq, bin_lss, bin_leq, bin_gtr, bin_geq, Nat.zero_add, Nat.mul_one, hm _ _ _ _ _ _ S, Bool.not_true, S.cn]
  have := left_loop (lf := lf) ho S (fun x3 h => q19_2 C lf ff19 x3 h) 64 0 rfl lf (by omega)
  have e0 : sumPop wd 0 = 0 := rfl
  rw [e0, Nat.sub_zero] at this
  refine Eq.trans this ?_
  unfold q19_2 ff19
  simp only [ob_some]
end
end Go.Proofs.YtomialandfplkaaDoor.Eva
namespace Go.Xe
section
variable {P : Program}
end
end Go.Xe
namespace Go.Xe
open Go.ChangeShapes Go.WideShapes Go.ChangeAt Go.RowKit
section
variable {P : Program} {H : Type} {enc : TypeId × Value → H} {w : World}
theorem int_arg {t : TypeId} {k : IntKind} {v : Value} {d : DataW H} {ps : List MemPlace} {r : Reach} {b0 : Nat} (ht : P.underlying t = some (.int k)) (hval : Value.okWide P w r b0 t v) (h : DataW.Trod enc P w 0 (fun _ => true) true t v d ps) :
    ∃ n, v = .int k n ∧ k.min ≤ n ∧ n ≤ k.max := by
  obtain ⟨n, rfl⟩ := okWide_int ht hval
  obtain ⟨fuel, hf⟩ := h
  obtain ⟨n', h1, _, hw⟩ := DataW.trod_int ht hf
  refine ⟨n, rfl, ?_⟩
  have h1 : [Value.int k n] = [Value.int k n'] := h1
  cases h1
  simpa [Lit.wf] using hw
theorem bytes_sized {t e : TypeId} {v : Value} {d : DataW H} {ps : List MemPlace} {r : Reach} {b0 j : Nat} {ts : List TypeId} {ds : List (DataW H)} (ht : P.underlying t = some (.slice e)) (he : P.underlying e = some (.int .u8)) (hc : P.cellsOf e = 1) (hby : P.bytesOf e = 1)
    (hval : Value.okWide P w r b0 t v) (h : DataW.Trod enc P w 0 (fun _ => true) true t v d ps) (hts : ts[j]? = some t) (hds : ds[j]? = some d) (hz : (DataW.weightsEach P ts ds).all (· ≤ reachBytes) = true) :
    ∃ l : List Nat, Bytes (hw0 w) (liftA w.heap.size v) l ∧ CapOK (liftA w.heap.size v) ∧ l.length ≤ 140737488351232 := by
  obtain ⟨fuel, hf⟩ := h
  obtain ⟨a0, len0, cap0, rfl⟩ := okWide_slice ht hval
  have hf : DataW.trod enc P w 0 (fun _ => true) true fuel t [.slice a0 len0 cap0] = some (d, ps) := hf
  obtain ⟨l, B, C, e, hd⟩ := bytes_trod ht he hc hf
  rw [e]
  refine ⟨l, B, C, ?_⟩
  rcases hd with ⟨_, rfl⟩ | ⟨el, sp, rfl, hl⟩
  · simp
  · have := sized_slice hz hts hds ht
    rw [hby] at this
    have hr : reachBytes = 140737488351232 := rfl
    rw [hr] at this
    omega
end
end Go.Xe
namespace Go.Xe
section
variable {P : Program} {t e : TypeId} {h : HW}
theorem ybs_one {z : Value} {y : SV} (hu : P.underlying t = some (.slice e)) (hs : tySize P e = some 1) (hz : tyZero P e = some z) (hzl : (mkV z).cells.length = 1) (hy : y.cells = [y]) (hf : y.flat = true) :
    ybs P t 1 [0] [y] h = some (.sl h.next 0 1 (some 1) 0, h.new (rowOb e [y])) := by
  obtain ⟨c, hc⟩ : ∃ c, (mkV z).cells = [c] := by
    match hm : (mkV z).cells, hzl with
    | [c], _ => exact ⟨c, rfl⟩
  unfold ybs semBuildSlice
  have h1 : (Nat.ble (1 * 1) 65536 && Nat.ble 1 1 && Nat.beq [c].length 1) = true := rfl
  have h2 : fillL (fun i => some (i * 1, 1)) (reps [c] 1) ([0].zip [y]) = some [y] := by
    simp [reps, fillL, splice, hy, hf, show Nat.ble 1 1 = true from rfl]
  simp only [hu, hs, hz, hc, h1, cond_true, h2, newRow, force_eq]
  rfl
theorem elems_row {y : SV} {e : TypeId} : appElems (h.new (rowOb e [y])).x0 1 (.sl h.next 0 1 (some 1) 0) = some (1, [y]) := by
  have ho : (h.new (rowOb e [y])).objs.get h.next = some (rowOb e [y]) := by rw [new_get, if_pos rfl]
  have hc : (rowOb e [y]).get 0 = some y := by rw [rowOb_get]; rfl
  simp only [appElems, HW.x0_objs, ho, Nat.mul_one]
  show (match loadN (rowOb e [y]) 0 1 with | some ys => some (1, ys) | none => none) = _
  simp only [loadN, hc]
theorem app_one {x y : SV} {b len : Nat} {ys : List SV} (T : AppT P t t e 1 b) (hy : y.cells = [y]) (hf : y.flat = true) (ho : allOne [y] = true) (S : Sl h e 1 x len ys)
    (hc : len + 1 ≤ 140737488355328) (hcb : (len + 1) * b ≤ 140737488355328) :
    ∃ x' h', ybs P t 1 [0] [y] h = some (.sl h.next 0 1 (some 1) 0, h.new (rowOb e [y])) ∧ ybl P .append #[t, t] [x, .sl h.next 0 1 (some 1) 0] (h.new (rowOb e [y])) = some (x', h') ∧ Sl h' e 1 x' (len + 1) (ys ++ [y]) ∧ h.next ≤ h'.next ∧ h'.ng = h.ng ∧
      (∀ j, j < h.next → rowOf x ≠ some j → SameOb h h' j) ∧ (∀ j, rowOf x' = some j → rowOf x = some j ∨ h.next ≤ j) ∧ (Fresh h → Fresh h') := by
  obtain ⟨z, hz, hzl⟩ := T.hz
  have hb := ybs_one (h := h) T.hu T.hs hz hzl hy hf
  have S' : Sl (h.new (rowOb e [y])) e 1 x len ys := S.frame (by simp) (fun k hk => new_other h _ (Nat.ne_of_lt (S.row_lt hk)))
  obtain ⟨x', h', h1, h2, h3, h4, h5, h6, h7⟩ := app_sl T S' elems_row rfl ho hc hcb
  refine ⟨x', h', hb, h1, h2, ?_, h4, fun j hj hr => (h5 j (by simp; omega) hr).trans (new_other h _ (Nat.ne_of_lt hj)), fun j hj => ?_, fun hf => h7 (fresh_new hf _)⟩
  · simp at h3; omega
  · rcases h6 j hj with h7 | h7
    · exact .inl h7
    · right; simp at h7; omega
end
end Go.Xe
namespace Go.Proofs.YtomialandfplkaaDoor.Eva
open Go.Xe
set_option linter.unusedSimpArgs false
section
variable {lf m : Nat} {h : HW} {k dk n : Nat} {wd b : Nat → Nat}
def ints (l : List Nat) : List SV := l.map fun (i : Nat) => SV.int .i64 (i : Int)
theorem appT_int : AppT Tryd.prog 33 33 3 1 8 :=
  ⟨Tryd.underlying33, by kernel_rfl, ⟨.int .i64 0, by kernel_rfl, rfl⟩, by kernel_rfl, ⟨_, Tryd.underlying33, rfl⟩, Nat.le_refl 1⟩
structure IntsAt (h0 h : HW) (x : SV) (l : List Nat) : Prop where
  sl : Sl h 3 1 x l.length (ints l)
  new : ∀ j, rowOf x = some j → h0.next ≤ j
theorem len_ints {h0 h : HW} {x : SV} {l : List Nat} (A : IntsAt h0 h x l) : lenE Tryd.prog 33 x = some (.int .i64 (l.length : Int)) := by
  rcases A.sl.2 with ⟨rfl, h1⟩ | ⟨k, rfl, _⟩
  · rw [h1]; simp [lenE, Tryd.underlying33, forceI_eq]
  · simp [lenE, Tryd.underlying33]
end
end Go.Proofs.YtomialandfplkaaDoor.Eva
namespace Go.Xe
open Go.ChangeShapes Go.WideShapes Go.ChangeAt Go.RowKit
section
variable {P : Program}
theorem slice_hi {t e s kb ob len lo q : Nat} {cap : Option Nat} {kd : IntKind} (hu : P.underlying t = some (.slice e)) (hs : tySize P e = some s) (hr : CapOK (.sl kb ob len cap lo)) (hq : q ≤ len) :
    ∃ cap' lo', semSlice P t (.sl kb ob len cap lo) none (some (.int kd (q : Int))) = some (.sl kb ob q cap' lo') ∧ CapOK (.sl kb ob q cap' lo') := by
  have h0 : natOf (.int kd (q : Int)) = some q := rfl
  unfold semSlice
  cases cap with
  | none =>
    have h1 : sliceB len len none (some (.int kd (q : Int))) = some (0, q) := by
      simp only [sliceB, h0]
      have : (Nat.ble q len && Nat.ble 0 q) = true := by simp [Nat.ble_eq_true_of_le hq, Nat.ble_eq_true_of_le (Nat.zero_le q)]
      simp only [this, cond_true]
    simp only [hu, hs, h1, slAt, force_eq, Nat.ble_eq_true_of_le hq, cond_true, Nat.sub_zero, Nat.add_zero, Nat.zero_mul]
    cases hb : Nat.blt 0 len with
    | true => exact ⟨none, lo, by simp only [cond_true], trivial⟩
    | false => exact ⟨none, lo, by simp only [cond_false, show Nat.beq 0 0 = true from rfl, cond_true], trivial⟩
  | some c =>
    have hr : len ≤ c := hr
    have h1 : sliceB len c none (some (.int kd (q : Int))) = some (0, q) := by
      simp only [sliceB, h0]
      have : (Nat.ble q c && Nat.ble 0 q) = true := by simp [Nat.ble_eq_true_of_le (Nat.le_trans hq hr), Nat.ble_eq_true_of_le (Nat.zero_le q)]
      simp only [this, cond_true]
    simp only [hu, hs, h1, slAt, force_eq, Nat.sub_zero, Nat.add_zero, Nat.zero_mul]
    refine ⟨some c, 0, ?_, Nat.le_trans hq hr⟩
    cases hb : Nat.beq c 0 with
    | true => simp only [cond_true]
    | false => simp only [cond_false]
theorem bytes_hi {t e s q : Nat} {kd : IntKind} {h : HW} {x : SV} {l : List Nat} (hu : P.underlying t = some (.slice e)) (hs : tySize P e = some s) (B : Bytes h x l) (hr : CapOK x) (hq : q ≤ l.length) :
    ∃ x', semSlice P t x none (some (.int kd (q : Int))) = some x' ∧ Bytes h x' (l.take q) ∧ CapOK x' := by
  rcases B.2 with ⟨rfl | ⟨k, rfl⟩, rfl⟩ | ⟨kb, ob, cap, lo, m, rfl, hm, hc⟩
  · have hq : q = 0 := by simpa using hq
    subst hq
    refine ⟨.val (.slice none 0 0), ?_, by simpa using B, trivial⟩
    have h0 : sliceB 0 0 none (some (.int kd ((0 : Nat) : Int))) = some (0, 0) := rfl
    unfold semSlice
    simp only [hu, hs, show (Nat.beq 0 0 && Nat.beq 0 0) = true from rfl, cond_true, h0]
  · have hq : q = 0 := by simpa using hq
    subst hq
    refine ⟨.se k, ?_, by simpa using B, trivial⟩
    have h0 : sliceB 0 0 none (some (.int kd ((0 : Nat) : Int))) = some (0, 0) := rfl
    unfold semSlice
    simp only [hu, hs, h0]
  · obtain ⟨cap', lo', h1, h2⟩ := slice_hi (kd := kd) hu hs hr hq
    have hl : (l.take q).length = q := by simp; omega
    refine ⟨_, h1, ⟨fun c hc => B.1 c (List.mem_of_mem_take hc), .inr ⟨kb, ob, cap', lo', m, by rw [hl], hm, fun j hj => ?_⟩⟩, h2⟩
    rw [hc j (by omega)]
    have : j < l.length := by omega
    simp [List.getD, this, show j < q by omega]
end
theorem hasTab_cell {g : Nat} {k : IntKind} {zs : List Int} {h : HW} (ht : hasTab g k zs h = true) : g < h.ng ∧ (∃ m, h.mt g = some m) ∧ ∀ i, i < zs.length → h.cell g i = some (.int k (zs.getD i 0)) := by
  unfold hasTab at ht
  simp only [Bool.and_eq_true] at ht
  obtain ⟨hg, ht⟩ := ht
  have hg : g < h.ng := by rw [Nat.blt_eq] at hg; exact hg
  split at ht <;> try (cases ht; done)
  rename_i o ho
  split at ht <;> try (cases ht; done)
  split at ht <;> try (cases ht; done)
  rename_i ys hys
  have hys' := eqInts_spec ht
  subst hys'
  refine ⟨hg, ⟨o.mt, by unfold HW.mt; rw [ho]⟩, fun i hi => ?_⟩
  have := loadN_get hys i (by simpa using hi)
  rw [Nat.zero_add] at this
  unfold HW.cell
  rw [ho]
  simp only [this]
  simp [List.getD, hi]
theorem hasTab_same {g : Nat} {k : IntKind} {zs : List Int} {h h' : HW} (hn : h'.ng = h.ng) (hs : SameOb h h' g) : hasTab g k zs h' = hasTab g k zs h := by
  unfold hasTab
  rw [hn, hs]
theorem hw0_row {w : World} {k : Nat} {m : Mt} (h : (hw0 w).mt k = some m) : k < (hw0 w).next := by
  apply Nat.lt_of_not_le
  intro hle
  unfold HW.mt at h
  rw [hw0_dead w hle] at h
  cases h
end Go.Xe
namespace Go.Proofs.YtomialandfplkaaDoor.Eva
open Go.Xe
set_option maxRecDepth 100000
set_option maxHeartbeats 400000
set_option linter.unusedVariables false
noncomputable section
noncomputable def fx29 : XF Tryd.prog := ⟨29, Tryd.f29, fun _ => .text, Tryd.func29, by kernel_rfl, by kernel_rfl, by kernel_rfl, by kernel_rfl⟩
noncomputable def ff29 (x2 : O) (h : HW) : Rs :=
 ob x2 fun a0 =>
 some (.ret a0, h)
noncomputable def q29_8 (C : YC) (lf : Nat) (r : K1) (x0 : O) (h : HW) : Rs :=
 ob x0 fun a1 =>
 bc (C (.fn 63) [a1] h) fun y2 h2 =>
 ob (unE .not y2) fun y3 =>
 yIf y3
 (r (some (.int .i64 0)) h2)
 (ob x0 fun a4 =>
 ob (semNil a4) fun y5 =>
 ob (fa 0 y5) fun y6 =>
 ob (ld1 y6 h2) fun y7 =>
 r (some y7) h2)
theorem q29_8_eq (C : YC) (lf : Nat) (r : K1) (KN : KF) (KE : KX) : ∀ F h, evX fx29 C lf [] F h KN (fun F h => r (F 2) h) KE = q29_8 C lf r (F 0) h := by
  intro F h; kernel_rfl
noncomputable def fs29 (C : YC) (lf : Nat) (a0 : SV) (h : HW) : Rs := q29_8 C lf ff29 (some a0) h
theorem fs29_eq (C : YC) (lf : Nat) (a0 : SV) (h : HW) : yFn Tryd.prog fx29 C lf [a0] h = fs29 C lf a0 h := fnX (K := (fun F h => ff29 (F 2) h)) (by kernel_rfl) (((q29_8_eq C lf ff29 (fun F h => ff29 (F 2) h) (fun _ _ _ => none)) _ h).trans (by kernel_rfl))
noncomputable def fy29 : YX Tryd.prog := Y1 fx29 fs29 fs29_eq (by kernel_rfl)
end
end Go.Proofs.YtomialandfplkaaDoor.Eva
namespace Go.Proofs.YtomialandfplkaaDoor.Eva
open Go.Xe
set_option linter.unusedSimpArgs false
structure BlkAt (h : HW) (x : SV) (q : Nat) (b : Nat → Nat) (i : Nat) : Prop where
  sl : ∃ cap lo, x = .sl q 0 64 cap lo
  ok : CapOK x
  w : h.wr q 64
  cs : ∀ j, j < 64 → h.cell q j = some (.int .u8 (b (i * 64 + j) : Int))
  lt : q < h.next
def RowAt (h : HW) (x : SV) (k : Nat) (b : Nat → Nat) (i : Nat) (o : Bool) : Prop := BlkAt h x k b i ∨ (o = false ∧ (∃ cap lo, x = .sl k 0 0 cap lo) ∧ (∃ N, h.wr k N) ∧ k < h.next)
structure RefV (h : HW) (x0 x1 : SV) (ro rb n : Nat) (on : Nat → Bool) (q : Nat → Option Nat) (b : Nat → Nat) : Prop where
  n1 : 1 ≤ n
  n2 : n ≤ 4096
  e0 : ∃ cap lo, x0 = .sl ro 0 n cap lo
  e1 : ∃ cap lo, x1 = .sl rb 0 n cap lo
  wro : h.wr ro n
  wrb : h.wr rb n
  con : ∀ i, i < n → h.cell ro i = some (.bool (on i))
  off : ∀ i, i < n → q i = none → on i = false ∧ h.cell rb i = some (.val (.slice none 0 0))
  has : ∀ i k, i < n → q i = some k → k ≠ ro ∧ k ≠ rb ∧ ∃ x, h.cell rb i = some x ∧ RowAt h x k b i (on i)
  inj : ∀ i j k, i < n → j < n → q i = some k → q j = some k → i = j
  ne : ro ≠ rb
  lto : ro < h.next
  ltb : rb < h.next
  blt : ∀ j, b j < 256
structure RefAt (h : HW) (r ro rb n : Nat) (on : Nat → Bool) (q : Nat → Option Nat) (b : Nat → Nat) : Prop where
  v : ∃ x0 x1, h.cell r 0 = some x0 ∧ h.cell r 1 = some x1 ∧ RefV h x0 x1 ro rb n on q b
  wr : ∃ M, 2 ≤ M ∧ h.wr r M
  nro : r ≠ ro
  nrb : r ≠ rb
  nq : ∀ i k, i < n → q i = some k → k ≠ r
  lt : r < h.next
def rowsV (ro rb n : Nat) (q : Nat → Option Nat) (j : Nat) : Prop := j = ro ∨ j = rb ∨ ∃ i, i < n ∧ q i = some j
def rowsR (r ro rb n : Nat) (q : Nat → Option Nat) (j : Nat) : Prop := j = r ∨ rowsV ro rb n q j
section
variable {lf m : Nat} {h : HW} {r ro rb n : Nat} {on : Nat → Bool} {q : Nat → Option Nat} {b : Nat → Nat} {x0 x1 : SV}
theorem wr_same {h h' : HW} {k N : Nat} (w : h.wr k N) (e : SameOb h h' k) : h'.wr k N := let ⟨m, a, c⟩ := w; ⟨m, by rw [e.mt]; exact a, c⟩
theorem BlkAt.frame {x : SV} {k i : Nat} (A : BlkAt h x k b i) {h' : HW} (hn : h.next ≤ h'.next) (e : SameOb h h' k) : BlkAt h' x k b i :=
  ⟨A.sl, A.ok, wr_same A.w e, fun j hj => by rw [e.cell]; exact A.cs j hj, Nat.lt_of_lt_of_le A.lt hn⟩
theorem RowAt.lt {x : SV} {k i : Nat} {o : Bool} (A : RowAt h x k b i o) : k < h.next := by
  rcases A with A | ⟨_, _, _, A⟩
  · exact A.lt
  · exact A
theorem RowAt.row {x : SV} {k i : Nat} {o : Bool} (A : RowAt h x k b i o) : rowOf x = some k := by
  rcases A with A | ⟨_, ⟨cap, lo, rfl⟩, _, _⟩
  · obtain ⟨cap, lo, rfl⟩ := A.sl; rfl
  · rfl
theorem RowAt.blk {x : SV} {k i : Nat} {o : Bool} (A : RowAt h x k b i o) (ho : o = true) : BlkAt h x k b i := by
  rcases A with A | ⟨e, _⟩
  · exact A
  · rw [ho] at e; cases e
theorem RowAt.frame {x : SV} {k i : Nat} {o : Bool} (A : RowAt h x k b i o) {h' : HW} (hn : h.next ≤ h'.next) (e : SameOb h h' k) : RowAt h' x k b i o := by
  rcases A with A | ⟨h1, h2, ⟨N, h3⟩, h4⟩
  · exact .inl (A.frame hn e)
  · exact .inr ⟨h1, h2, ⟨N, wr_same h3 e⟩, Nat.lt_of_lt_of_le h4 hn⟩
theorem RowAt.off {x : SV} {k i : Nat} {o o' : Bool} (A : RowAt h x k b i o) (ho : o' = o ∨ o' = false) : RowAt h x k b i o' := by
  rcases A with A | ⟨h1, h2⟩
  · exact .inl A
  · refine .inr ⟨?_, h2⟩
    rcases ho with e | e
    · rw [e]; exact h1
    · exact e
theorem RefV.frame (A : RefV h x0 x1 ro rb n on q b) {h' : HW} (hn : h.next ≤ h'.next) (hs : ∀ j, rowsV ro rb n q j → SameOb h h' j) : RefV h' x0 x1 ro rb n on q b := by
  have so := hs ro (.inl rfl)
  have sb := hs rb (.inr (.inl rfl))
  refine ⟨A.n1, A.n2, A.e0, A.e1, wr_same A.wro so, wr_same A.wrb sb, fun i hi => by rw [so.cell]; exact A.con i hi, fun i hi hq => by rw [sb.cell]; exact A.off i hi hq, fun i k hi hq => ?_, A.inj, A.ne, Nat.lt_of_lt_of_le A.lto hn, Nat.lt_of_lt_of_le A.ltb hn, A.blt⟩
  obtain ⟨h1, h2, x, h3, h4⟩ := A.has i k hi hq
  exact ⟨h1, h2, x, by rw [sb.cell]; exact h3, h4.frame hn (hs k (.inr (.inr ⟨i, hi, hq⟩)))⟩
theorem RefAt.frame (A : RefAt h r ro rb n on q b) {h' : HW} (hn : h.next ≤ h'.next) (hs : ∀ j, rowsR r ro rb n q j → SameOb h h' j) : RefAt h' r ro rb n on q b := by
  have sr := hs r (.inl rfl)
  obtain ⟨x0, x1, c0, c1, V⟩ := A.v
  exact ⟨⟨x0, x1, by rw [sr.cell]; exact c0, by rw [sr.cell]; exact c1, V.frame hn fun j hj => hs j (.inr hj)⟩, (let ⟨M, a, c⟩ := A.wr; ⟨M, a, wr_same c sr⟩), A.nro, A.nrb, A.nq, Nat.lt_of_lt_of_le A.lt hn⟩
theorem RefV.row_lt (A : RefV h x0 x1 ro rb n on q b) {j : Nat} (hj : rowsV ro rb n q j) : j < h.next := by
  rcases hj with rfl | rfl | ⟨i, hi, hq⟩
  · exact A.lto
  · exact A.ltb
  · obtain ⟨_, _, x, _, B⟩ := A.has i j hi hq
    exact B.lt
theorem RefAt.row_lt (A : RefAt h r ro rb n on q b) {j : Nat} (hj : rowsR r ro rb n q j) : j < h.next := by
  obtain ⟨x0, x1, _, _, V⟩ := A.v
  rcases hj with rfl | hj
  · exact A.lt
  · exact V.row_lt hj
theorem RefAt.frm (A : RefAt h r ro rb n on q b) {h' : HW} {Q : Nat → Prop} (F : Frm h h' Q) (hs : ∀ j, rowsR r ro rb n q j → ¬ Q j) : RefAt h' r ro rb n on q b :=
  A.frame F.next fun j hj => F.same j (A.row_lt hj) (hs j hj)
def inR (n : Nat) (on : Nat → Bool) (i : Int) : Bool := decide (0 ≤ i) && (decide (i < n) && on i.toNat)
end
end Go.Proofs.YtomialandfplkaaDoor.Eva
namespace Go.Proofs.YtomialandfplkaaDoor.Eva
open Go.Xe
set_option linter.unusedSimpArgs false
section
variable {lf m : Nat} {h : HW} {r ro rb n : Nat} {on : Nat → Bool} {q : Nat → Option Nat} {b : Nat → Nat} {x0 x1 : SV}
def usedR (on : Nat → Bool) (n : Nat) : List Nat := (List.range n).filter on
theorem usedR_succ (on : Nat → Bool) (i : Nat) : usedR on (i + 1) = usedR on i ++ (if on i then [i] else []) := by
  unfold usedR
  rw [List.range_succ, List.filter_append]
  cases h : on i <;> simp [List.filter, h]
theorem usedR_le (on : Nat → Bool) (n : Nat) : (usedR on n).length ≤ n := by
  have := List.length_filter_le on (List.range n)
  simpa [usedR] using this
def IntsIn (h : HW) (x : SV) (l : List Nat) : Prop := l.length ≤ 4096 ∧ ((x = .val (.slice none 0 0) ∧ l = []) ∨ ∃ k cap lo, x = .sl k 0 l.length cap lo ∧ ∀ j, j < l.length → h.cell k j = some (.int .i64 ((l.getD j 0 : Nat) : Int)))
theorem IntsIn.frame {h h' : HW} {x : SV} {l : List Nat} (A : IntsIn h x l) (hs : ∀ k, rowOf x = some k → SameOb h h' k) : IntsIn h' x l := by
  refine ⟨A.1, ?_⟩
  rcases A.2 with h1 | ⟨k, cap, lo, rfl, h2⟩
  · exact .inl h1
  · exact .inr ⟨k, cap, lo, rfl, fun j hj => by rw [(hs k rfl).cell]; exact h2 j hj⟩
theorem IntsIn.len {x : SV} {l : List Nat} (A : IntsIn h x l) : lenE Tryd.prog 33 x = some (.int .i64 (l.length : Int)) := by
  rcases A.2 with ⟨rfl, rfl⟩ | ⟨k, cap, lo, rfl, _⟩
  · simp [lenE, Tryd.underlying33, forceI_eq]
  · simp [lenE, Tryd.underlying33]
theorem IntsIn.at {x : SV} {l : List Nat} (A : IntsIn h x l) {i : Nat} (hi : i < l.length) : ∃ a, ixS 1 x (.int .i64 (i : Int)) = some a ∧ ld1 a h = some (.int .i64 ((l.getD i 0 : Nat) : Int)) := by
  rcases A.2 with ⟨rfl, rfl⟩ | ⟨k, cap, lo, rfl, h2⟩
  · simp at hi
  · have hix := ixS_sl (s := 1) (k := k) (off := 0) (len := l.length) (lo := lo) (cap := cap) (kd := .i64) (i := (i : Int)) (by omega) (by omega)
    rw [Int.toNat_natCast, Nat.mul_one, Nat.zero_add] at hix
    exact ⟨_, hix, h2 i hi⟩
end
end Go.Proofs.YtomialandfplkaaDoor.Eva
namespace Go.Xe
section
variable {P : Program}
theorem liftC_ok (C : YC) : LiftOK C (liftC C) := fun c args h o h' e D => by
  show (match C c args h with | some (o, h) => some (o, h.xd D) | none => none) = _
  rw [e]
theorem clean_xd (h : HW) : clean (h.xd []) = true := rfl
theorem run_round {tab : Tr (YE P)} {lf m k : Nat} {args : List SV} {h h' : HW} {y : SV} {o : Ob} {st : LoopState} {pend : Jump} {ord : Nat → Hint} {me : FuncId} {N : Nat} {F : Tr SV} {ps : Array Tmp} {a c : Code} {b : Nat}
    (ho : h.objs.get k = some o) (hs : o.sp = .loop st pend ord me N F ps a c b) (e : roundZ P (runY tab lf m).call ord me k N lf F.get ps a c args h = some (.ret y, h')) : (runY tab lf (m + 1)).call (.yld k) args h = some (.ret y, h') := by
  show runR P (runY tab lf m) lf k args h = _
  unfold runR
  simp only [ho, hs, kBody_eq]
  have := roundZ_spec (callf := liftC (runY tab lf m).call) (jump := jumpE P (liftC (runY tab lf m).call) ord me (some k) N lf lf) (liftC_ok _) (Ft := F) (fun t => rfl) e []
  have e0 : h.x0 = h.xd [] := rfl
  rw [e0, this]
  unfold toR
  simp only [clean_xd, cond_true]
  rfl
end
end Go.Xe
namespace Go.Xe
section
variable {P : Program} {t u e sz b : Nat} {h : HW}
theorem sameH_of {h h' : HW} {k : Nat} (hk : k < h.next) (hm : ∃ m, h.mt k = some m) (e : SameOb h h' k) : sameH h h' k = true := by
  obtain ⟨m, hm⟩ := hm
  have hb : Nat.blt k h.next = true := by rw [Nat.blt_eq]; exact hk
  unfold HW.mt at hm
  cases ho : h.objs.get k with
  | none => simp [ho] at hm
  | some o =>
    have e : h'.objs.get k = h.objs.get k := e
    unfold sameH
    simp only [hb, cond_true, ho, e, Nat.beq_refl]
theorem ck_one {h h' : HW} {k i : Nat} {x : SV} {r : Rs} (hx : adr x = some k) (hk : k < h.next) (hm : ∃ m, h.mt k = some m) (e : SameOb h h' k) : ck (chkH [(i, adrO (some x))] h h' [i]) r = r := by
  have h1 := sameH_of hk hm e
  have h2 : findK [(i, adrO (some x))] i = some k := by
    simp [findK, adrO, hx]
  simp only [chkH, h2, h1, Bool.and_self, ck_true]
end
end Go.Xe
namespace Go.Xe
def HW.at (h : HW) (k : Nat) (o : Ob) : HW := ⟨h.ng, h.next, h.objs.put k o⟩
theorem at_get (h : HW) (k : Nat) (o : Ob) (j : Nat) : (h.at k o).objs.get j = if j = k then some o else h.objs.get j := Hp.get_put _ _ _ _
theorem at_other (h : HW) {k j : Nat} (o : Ob) (e : j ≠ k) : (h.at k o).objs.get j = h.objs.get j := by rw [at_get, if_neg e]
theorem cell_at_other {h : HW} {k j : Nat} (o : Ob) (e : j ≠ k) (i : Nat) : (h.at k o).cell j i = h.cell j i := by unfold HW.cell; rw [at_other h o e]
section
variable {P : Program} {h : HW}
theorem app_nil {t u e sz b : Nat} {y : SV} {n : Nat} {news : List SV} (T : AppT P t u e sz b) (he : appElems h.x0 sz y = some (n, news)) (hnl : news.length = n * sz) (hone : allOne news = true) (hn : 1 ≤ n)
    (hc : n ≤ 140737488355328) (hcb : n * b ≤ 140737488355328) :
    ybl P .append #[t, u] [.val (.slice none 0 0), y] h = some (.sl h.next 0 n none 0, h.new (looseOb e sz news)) := by
  rw [ybl_append T he hnl hone]
  have b1 : Nat.beq n 0 = false := by
    cases hb : Nat.beq n 0 with
    | false => rfl
    | true => exact absurd (Nat.eq_of_beq_eq_true hb) (by omega)
  simp only [show (Nat.beq 0 0 && Nat.beq 0 0) = true from rfl, cond_true, b1, cond_false]
  exact appNew_hx hc hcb
end
end Go.Xe
namespace Go.Proofs.YtomialandfplkaaDoor.Eva
open Go.Xe
set_option linter.unusedSimpArgs false
section
variable {lf : Nat} {h : HW} {T : TN} {n N : Nat} {wd b : Nat → Nat} {now : Int} {us : Nat → Bool} {nd : Nat → Nat → SV}
theorem TableAt.frm (A : TableAt h T n N wd b now us nd) {h' : HW} {S : Nat → Prop} (F : Frm h h' S) (hs : ∀ j, S j → j ≠ T.kt ∧ j ≠ T.ks ∧ j ≠ T.kd ∧ j ≠ T.kn) : TableAt h' T n N wd b now us nd :=
  A.frame F.next fun j hj => F.same j (by rcases hj with rfl | rfl | rfl | rfl; exact A.lt; exact A.st.lk; exact A.st.ldk; exact A.ln) (fun e => by have := hs j e; rcases hj with rfl | rfl | rfl | rfl <;> simp at this)
def usedN (us : Nat → Bool) (N : Nat) : List Nat := (usedR us N).map (· + 1)
theorem usedN_succ (us : Nat → Bool) (i : Nat) : usedN us (i + 1) = usedN us i ++ (if us i then [i + 1] else []) := by
  unfold usedN
  rw [usedR_succ, List.map_append]
  cases us i <;> rfl
theorem usedN_le (us : Nat → Bool) (N : Nat) : (usedN us N).length ≤ N := by
  unfold usedN
  rw [List.length_map]; exact usedR_le us N
theorem each_loop {C : YC} (I : Nat → HW → Prop) (ky : Nat) (A : ∀ i h, I i h → TableAt h T n N wd b now us nd) (hr : ∀ i h, i < N → us i = true → I i h → ∃ h', C (.yld ky) [.int .i64 ((i + 1 : Nat) : Int)] h = some (.ret (.bool true), h') ∧ I (i + 1) h')
    (hsk : ∀ i h, i < N → us i = false → I i h → I (i + 1) h) (r e0 : K0) : ∀ (d i : Nat), i + d = N → ∀ f, d < f → ∀ h, I i h →
    ∃ h', lp (l81_0 C lf r e0) f (some (.ptr T.kt 0), some (.yld ky), some (.int .i64 (N : Int)), some (.int .i64 (i : Int))) h = e0 h' ∧ I N h'
  | 0, i, hw, f, hf, h, hI => by
    obtain ⟨f, rfl⟩ : ∃ g, f = g + 1 := ⟨f - 1, by omega⟩
    have : i = N := by omega
    subst this
    refine ⟨h, ?_, hI⟩
    rw [lp_succ]
    unfold l81_0 q81_24
    have hlt : decide ((i : Int) < (i : Int)) = false := by simp
    simp only [ob_some, b2_some, bc_ret, bcn_ret, gd_tt, gd_ff, gd_tf, gd_ft, ypk_true, ypk_false, yIf_true, yIf_false, semNil_ptr, fa_ptr, ld1_ptr, ext_tup, fd1_agg, un_not, bin_add, bin_sub, bin_mul, bin_eql, bin_neq, bin_lss, bin_leq, bin_gtr, bin_geq, Nat.zero_add, Nat.mul_one, hlt]
  | d + 1, i, hw, f, hf, h, hI => by
    obtain ⟨f, rfl⟩ : ∃ g, f = g + 1 := ⟨f - 1, by omega⟩
    have Ah := A i h hI
    have hN := Ah.N2
    have hi : i < N := by omega
    have hlt : decide ((i : Int) < (N : Int)) = true := decide_eq_true (by omega)
    have hinc : IntKind.i64.wrap ((i : Int) + 1) = ((i + 1 : Nat) : Int) := by rw [wrap_i64 (by omega) (by omega)]; omega
    have hix := ixS_sl (s := 308) (k := T.kn) (off := 0) (len := N) (lo := 0) (cap := some N) (kd := .i64) (i := (i : Int)) (by omega) (by omega)
    rw [Int.toNat_natCast, Nat.zero_add] at hix
    have hc := Ah.cn i 0 hi (by omega)
    rw [Nat.add_zero, Ah.u0 i hi] at hc
    rw [lp_succ]
    show ∃ h', q81_24 C lf (fun x0 x1 x12 x13 h => lp (l81_0 C lf r e0) f (x0, x1, x12, x13) h) r e0 (some (.ptr T.kt 0)) (some (.yld ky)) (some (.int .i64 (N : Int))) (some (.int .i64 (i : Int))) h = e0 h' ∧ _
    unfold q81_24
    cases ho : us i with
    | false =>
      rw [ho] at hc
      simp only [ob_some, b2_some, bc_ret, bcn_ret, gd_tt, gd_ff, gd_tf, gd_ft, ypk_true, ypk_false, yIf_true, yIf_false, semNil_ptr, fa_ptr, ld1_ptr, ext_tup, fd1_agg, un_not, bin_add, bin_sub, bin_mul, bin_eql, bin_neq, bin_lss, bin_leq, bin_gtr, bin_geq, Nat.zero_add, Nat.mul_one, hlt, Ah.c1, hix, Nat.add_zero, hc, hinc]
      exact each_loop I ky A hr hsk r e0 d (i + 1) (by omega) f (by omega) h (hsk i h hi ho hI)
    | true =>
      rw [ho] at hc
      obtain ⟨h1, e1, I1⟩ := hr i h hi ho hI
      simp only [ob_some, b2_some, bc_ret, bcn_ret, gd_tt, gd_ff, gd_tf, gd_ft, ypk_true, ypk_false, yIf_true, yIf_false, semNil_ptr, fa_ptr, ld1_ptr, ext_tup, fd1_agg, un_not, bin_add, bin_sub, bin_mul, bin_eql, bin_neq, bin_lss, bin_leq, bin_gtr, bin_geq, Nat.zero_add, Nat.mul_one, hlt, Ah.c1, hix, Nat.add_zero, hc, hinc, cv, bcd, e1, Bool.not_true]
      exact each_loop I ky A hr hsk r e0 d (i + 1) (by omega) f (by omega) h1 I1
theorem each_ok {C : YC} (hlf : 4097 ≤ lf) (ht : IsTOK C) (I : Nat → HW → Prop) (ky : Nat) (A : ∀ i h, I i h → TableAt h T n N wd b now us nd) (hr : ∀ i h, i < N → us i = true → I i h → ∃ h', C (.yld ky) [.int .i64 ((i + 1 : Nat) : Int)] h = some (.ret (.bool true), h') ∧ I (i + 1) h')
    (hsk : ∀ i h, i < N → us i = false → I i h → I (i + 1) h) (hI : I 0 h) : ∃ h', fs81 C lf (.ptr T.kt 0) (.yld ky) h = some (.ret (.tup []), h') ∧ I N h' := by
  have Ah := A 0 h hI
  have hN := Ah.N2
  have hl : lenE Tryd.prog 100 (.sl T.kn 0 N (some N) 0) = some (.int .i64 (N : Int)) := by
    simp [lenE, Tryd.underlying100]
  obtain ⟨h', l1, l2⟩ := each_loop (lf := lf) I ky A hr hsk ff81 ff81 N 0 (by omega) lf (by omega) h hI
  refine ⟨h', ?_, l2⟩
  unfold fs81 q81_36 q81_35 q81_31 q81_30
  simp only [ob_some, b2_some, bc_ret, bcn_ret, gd_tt, gd_ff, gd_tf, gd_ft, ypk_true, ypk_false, yIf_true, yIf_false, semNil_ptr, fa_ptr, ld1_ptr, ext_tup, fd1_agg, un_not, bin_add, bin_sub, bin_mul, bin_eql, bin_neq, bin_lss, bin_leq, bin_gtr, bin_geq, Nat.zero_add, Nat.mul_one, ht _ _ _ _ _ _ _ _ _ Ah, Bool.not_true, Ah.c1, hl]
  exact l1
noncomputable def lpSp (p kb : Nat) : Sp := .loop .ready .none fx47.ord 47 13 (layT [(3, some (.ptr p 0))]) #[7] (subX fx47 [1, 1, 0, 1, 0, 0]) (subX fx47 [1, 1, 0, 1, 0, 1]) kb
structure LpAt (h : HW) (kb kl p : Nat) : Prop where
  ol : ∃ o, h.objs.get kl = some o ∧ o.sp = lpSp p kb
  ob : ∃ o, h.objs.get kb = some o ∧ o.sp = .blk false
theorem LpAt.same {kb kl p : Nat} (A : LpAt h kb kl p) {h' : HW} (h1 : SameOb h h' kb) (h2 : SameOb h h' kl) : LpAt h' kb kl p :=
  ⟨let ⟨o, a, c⟩ := A.ol; ⟨o, h2.trans a, c⟩, let ⟨o, a, c⟩ := A.ob; ⟨o, h1.trans a, c⟩⟩
structure UsSt (h0 h : HW) (kb kl p : Nat) (l : List Nat) : Prop where
  F : Frm h0 h (fun _ => False)
  L : LpAt h kb kl p
  v : ∃ x, h.cell p 0 = some x ∧ IntsAt h0 h x l ∧ ∀ j, rowOf x = some j → j ≠ kb ∧ j ≠ kl ∧ j ≠ p
  w : h.wr p 1
  nb : h0.next ≤ kb
  nl : h0.next ≤ kl
  np : h0.next ≤ p
  lb : kb < h.next
  ll : kl < h.next
  lp : p < h.next
  d1 : kb ≠ kl
  d2 : kb ≠ p
  d3 : kl ≠ p
theorem setLoopH_at {h : HW} {k : Nat} {o : Ob} {st st0 : LoopState} {p : Option Jump} {q : Jump} {ord : Nat → Hint} {me : FuncId} {M : Nat} {G : Tr SV} {ps : Array Tmp} {a c : Code} {bb : Nat} (ho : h.objs.get k = some o) (hs : o.sp = .loop st0 q ord me M G ps a c bb) :
    setLoopH h k st p = some (h.at k { o with ver := o.ver + 1, sp := .loop st (orJ p q) ord me M G ps a c bb }) := by
  unfold setLoopH
  simp only [ho, setSt, hs]
  rfl
theorem readyH_at {h : HW} {k : Nat} {o : Ob} {K : HW → Rs} {q : Jump} {ord : Nat → Hint} {me : FuncId} {M : Nat} {G : Tr SV} {ps : Array Tmp} {a c : Code} {bb : Nat} (ho : h.objs.get k = some o) (hs : o.sp = .loop .ready q ord me M G ps a c bb) :
    readyH h k K = K (h.at k { o with ver := o.ver + 1, sp := .loop .busy q ord me M G ps a c bb }) := by
  unfold readyH
  have : isReady o = true := by unfold isReady; obtain ⟨_, _, _, _, _, _, _, _, sp⟩ := o; simp only at hs; subst hs; rfl
  simp only [ho, this, cond_true, setLoopH_at ho hs, ob_some]
  rfl
theorem endRound_at {h : HW} {k : Nat} {o : Ob} {st st0 : LoopState} {p q : Jump} {ord : Nat → Hint} {me : FuncId} {M : Nat} {G : Tr SV} {ps : Array Tmp} {a c : Code} {bb : Nat} {r : Bool} (ho : h.objs.get k = some o) (hs : o.sp = .loop st0 q ord me M G ps a c bb) :
    endRoundZ h k st p r = some (.ret (.bool r), h.at k { o with ver := o.ver + 1, sp := .loop st p ord me M G ps a c bb }) := by
  unfold endRoundZ
  rw [setLoopH_at ho hs]
  rfl
theorem frm_at {h : HW} {k : Nat} {o : Ob} {S : Nat → Prop} (hk : S k) (hn : k < h.next) : Frm h (h.at k o) S :=
  ⟨rfl, Nat.le_refl _, fun j _ hs => at_other h o (fun e => hs (e ▸ hk)), fun hf j hj => by rw [at_get, if_neg (by have : h.next ≤ j := hj; omega)]; exact hf j hj⟩
theorem round_used {C : YC} {h0 : HW} {kb kl p : Nat} {l : List Nat} (A : UsSt h0 h kb kl p l) (hl : l.length ≤ 4096) (v : Nat) :
    ∃ h', rt47_4 C lf kl (some (.ptr p 0)) (.int .i64 (v : Int)) h = some (.ret (.bool true), h') ∧ UsSt h0 h' kb kl p (l ++ [v]) := by
  obtain ⟨o, ho, hs⟩ := A.L.ol
  have hs : o.sp = .loop .ready .none fx47.ord 47 13 (layT [(3, some (.ptr p 0))]) #[7] (subX fx47 [1, 1, 0, 1, 0, 0]) (subX fx47 [1, 1, 0, 1, 0, 1]) kb := hs
  generalize hsa : subX fx47 [1, 1, 0, 1, 0, 0] = ca at *
  generalize hsc : subX fx47 [1, 1, 0, 1, 0, 1] = cc at *
  obtain ⟨x, hx, hA, hrow⟩ := A.v
  have hr := readyH_at (K := fun h => q47_12 C lf (fun h => endRoundZ h kl .ready .none true) (some (.ptr p 0)) (some (.int .i64 (v : Int))) h) ho hs
  generalize hg1 : h.at kl { o with ver := o.ver + 1, sp := .loop .busy .none fx47.ord 47 13 (layT [(3, some (.ptr p 0))]) #[7] ca cc kb } = g1 at *
  have F1 : Frm h g1 (· = kl) := by rw [← hg1]; exact frm_at rfl A.ll
  have n1 : g1.next = h.next := by rw [← hg1]; rfl
  have s1 : ∀ j, j ≠ kl → SameOb h g1 j := fun j hj => by rw [← hg1]; exact at_other h _ hj
  have o1 : g1.objs.get kl = some { o with ver := o.ver + 1, sp := .loop .busy .none fx47.ord 47 13 (layT [(3, some (.ptr p 0))]) #[7] ca cc kb } := by rw [← hg1, at_get, if_pos rfl]
  have hx1 : g1.cell p 0 = some x := by rw [(s1 p (fun e => A.d3 e.symm)).cell]; exact hx
  have hS1 : Sl g1 3 1 x l.length (ints l) := hA.sl.frame (Nat.le_of_eq n1.symm) fun k hk => s1 k (hrow k hk).2.1
  obtain ⟨x', g2, a1, a2, a3, a4, a5, a6, a7, a8⟩ := app_one (y := .int .i64 (v : Int)) appT_int rfl rfl rfl hS1 (by omega) (by omega)
  have s2 : ∀ j, j < h.next → rowOf x ≠ some j → SameOb g1 g2 j := fun j hj e => a6 j (by omega) e
  have rp : ∀ j, j = kb ∨ j = kl ∨ j = p → rowOf x ≠ some j := fun j hj e => by have := hrow j e; omega
  have w2 : g2.wr p 1 := wr_same (wr_same A.w (s1 p (fun e => A.d3 e.symm))) (s2 p A.lp (rp p (.inr (.inr rfl))))
  have hone : allOne [x'] = true := by rcases a3.2 with ⟨rfl, _⟩ | ⟨_, rfl, _⟩ <;> rfl
  have hcx : x'.cells = [x'] := by rcases a3.2 with ⟨rfl, _⟩ | ⟨_, rfl, _⟩ <;> rfl
  have st3 := st_ptr (n := 1) (off := 0) (y := x') w2 (by rw [hcx]; rfl) (by omega) (by rw [hcx]; exact hone)
  rw [hcx] at st3
  have F3 : Frm g2 (g2.set p 0 [x']) (· = p) := frm_set rfl
  generalize hg3 : g2.set p 0 [x'] = g3 at *
  have n3 : g3.next = g2.next := by rw [← hg3, set_next]
  have s3 : ∀ j, j ≠ p → SameOb g2 g3 j := fun j hj => by rw [← hg3]; exact set_other _ _ _ hj
  have o3 : g3.objs.get kl = some { o with ver := o.ver + 1, sp := .loop .busy .none fx47.ord 47 13 (layT [(3, some (.ptr p 0))]) #[7] ca cc kb } :=
    (s3 kl A.d3).trans ((s2 kl A.ll (rp kl (.inr (.inl rfl)))).trans o1)
  have he := endRound_at (st := .ready) (p := .none) (r := true) o3 rfl
  have F4 := frm_at (h := g3) (k := kl) (o := { o with ver := o.ver + 1 + 1, sp := .loop .ready .none fx47.ord 47 13 (layT [(3, some (.ptr p 0))]) #[7] ca cc kb }) (S := (· = kl)) rfl (by rw [n3]; have := A.ll; omega)
  generalize hg4 : g3.at kl { o with ver := o.ver + 1 + 1, sp := .loop .ready .none fx47.ord 47 13 (layT [(3, some (.ptr p 0))]) #[7] ca cc kb } = g4 at *
  have n4 : g4.next = g3.next := by rw [← hg4]; rfl
  have s4 : ∀ j, j ≠ kl → SameOb g3 g4 j := fun j hj => by rw [← hg4]; exact at_other _ _ hj
  have rx : ∀ j, rowOf x' = some j → h0.next ≤ j ∧ j ≠ kb ∧ j ≠ kl ∧ j ≠ p := fun j hj => by
    have h1 := A.lb
    have h2 := A.ll
    have h3 := A.lp
    have h4 := A.F.next
    rcases a7 j hj with e | e
    · exact ⟨hA.new j e, hrow j e⟩
    · omega
  have keep : ∀ j, j < h.next → rowOf x ≠ some j → j ≠ kl → j ≠ p → SameOb h g4 j := fun j hj e e1 e2 => (s4 j e1).trans ((s3 j e2).trans ((s2 j hj e).trans (s1 j e1)))
  refine ⟨g4, ?_, ⟨?_, ⟨⟨_, by rw [← hg4, at_get, if_pos rfl], by simp only [lpSp, hsa, hsc]⟩, ?_⟩, ⟨x', ?_, ⟨?_, fun j hj => (rx j hj).1⟩, fun j hj => (rx j hj).2⟩, ?_, A.nb, A.nl, A.np, by have := A.lb; omega, by have := A.ll; omega, by have := A.lp; omega, A.d1, A.d2, A.d3⟩⟩
  · unfold rt47_4 q47_14
    simp only [ob_some]
    refine hr.trans ?_
    unfold q47_12
    simp only [ob_some, ld1_ptr, hx1, a1, b2_some, a2, st3]
    exact he
  · have hf4 : Fresh h → Fresh g4 := fun hf => F4.fr (F3.fr (a8 (F1.fr hf)))
    refine ⟨?_, ?_, fun j hj _ => ?_, fun hf => hf4 (A.F.fr hf)⟩
    · exact F4.ng.trans (F3.ng.trans (a5.trans (F1.ng.trans A.F.ng)))
    · have := A.F.next; omega
    · have h1 := A.F.next
      have h2 := A.nl
      have h3 := A.np
      exact (keep j (by omega) (fun e => by have := hA.new j e; omega) (by omega) (by omega)).trans (A.F.same j hj (fun e => e))
  · obtain ⟨ob, b1, b2⟩ := A.L.ob
    exact ⟨ob, (keep kb A.lb (rp kb (.inl rfl)) A.d1 A.d2).trans b1, b2⟩
  · rw [(s4 p (fun e => A.d3 e.symm)).cell, ← hg3, cell_set_same w2 (by simp) (Nat.zero_le _) (by simp)]; rfl
  · have : ints (l ++ [v]) = ints l ++ [.int .i64 (v : Int)] := by simp [ints]
    rw [this, List.length_append]
    exact a3.frame (by omega) fun k hk => (s4 k (rx k hk).2.2.1).trans (s3 k (rx k hk).2.2.2)
  · exact wr_same (by rw [← hg3]; exact wr_set w2) (s4 p (fun e => A.d3 e.symm))
end
end Go.Proofs.YtomialandfplkaaDoor.Eva
namespace Go.Proofs.YtomialandfplkaaDoor.Eva
open Go.Xe
set_option linter.unusedSimpArgs false
section
variable {lf m : Nat} {h : HW} {r ro rb n : Nat} {on : Nat → Bool} {q : Nat → Option Nat} {b : Nat → Nat} {x0 x1 : SV}
theorem RefAt.had (A : RefAt h r ro rb n on q b) {i : Nat} (hi : i < n) {h1 h2 h3 : HW} (e1 : h1 = h.set ro i [.bool true]) (e2 : h2 = h1.new (patOb 5 (64 * 1) [.int .u8 0])) (e3 : h3 = h2.set rb i [.sl h.next 0 64 (some 64) 0]) :
    RefAt h3 r ro rb n (upd on i true) (upd q i (some h.next)) (zero64 b i) ∧ Frm h h3 (fun j => j = ro ∨ j = rb) ∧ h3.next = h.next + 1 ∧ h1.next = h.next := by
  obtain ⟨x0, x1, c0, c1, V⟩ := A.v
  have n1 : h1.next = h.next := by rw [e1, set_next]
  have n2 : h2.next = h.next + 1 := by rw [e2, new_next, n1]
  have n3 : h3.next = h.next + 1 := by rw [e3, set_next, n2]
  have F1 : Frm h h1 (fun j => j = ro ∨ j = rb) := by rw [e1]; exact frm_set (.inl rfl)
  have F2 : Frm h1 h2 (fun j => j = ro ∨ j = rb) := by rw [e2]; exact frm_new _ _ _
  have F3 : Frm h2 h3 (fun j => j = ro ∨ j = rb) := by rw [e3]; exact frm_set (.inr rfl)
  have F := (F1.trans F2).trans F3
  have lto := V.lto
  have ltb := V.ltb
  have lr := A.lt
  have nrn : r ≠ ro := A.nro
  have nrb : r ≠ rb := A.nrb
  have neb := V.ne
  have w1 : h1.wr ro n := by rw [e1]; exact wr_set V.wro
  have w1b : h1.wr rb n := by rw [e1]; exact wr_set V.wrb
  have w2 : h2.wr ro n := by rw [e2]; exact wr_new_other w1 (by omega)
  have w2b : h2.wr rb n := by rw [e2]; exact wr_new_other w1b (by omega)
  have w2n : h2.wr h.next 64 := by rw [e2, ← n1]; exact wr_new rfl
  -- cells of ro
  have cro : ∀ j, h3.cell ro j = h1.cell ro j := fun j => by
    rw [e3, cell_set_off (.inl neb), e2, cell_new_other (by omega)]
  -- cells of rb
  have crb : ∀ j, j ≠ i → h3.cell rb j = h.cell rb j := fun j hj => by
    rw [e3, cell_set_off (.inr (by simp; omega)), e2, cell_new_other (by omega), e1, cell_set_off (.inl neb.symm)]
  have crbi : h3.cell rb i = some (.sl h.next 0 64 (some 64) 0) := by
    rw [e3, cell_set_same w2b (by simp; omega) (Nat.le_refl _) (by simp)]; simp
  refine ⟨⟨⟨x0, x1, ?_, ?_, ?_⟩, ?_, nrn, nrb, fun j k hj hq => ?_, by omega⟩, F, n3, n1⟩
  · rw [(F.same r lr (fun e => by rcases e with e | e; exact nrn e; exact nrb e)).cell]; exact c0
  · rw [(F.same r lr (fun e => by rcases e with e | e; exact nrn e; exact nrb e)).cell]; exact c1
  · refine ⟨V.n1, V.n2, V.e0, V.e1, ?_, ?_, fun j hj => ?_, fun j hj hq => ?_, fun j k hj hq => ?_, fun j j' k hj hj' hq hq' => ?_, neb, by omega, by omega, fun j => ?_⟩
    · rw [e3]; exact wr_set w2
    · rw [e3]; exact wr_set w2b
    · rw [cro, e1]
      by_cases e : j = i
      · subst e
        rw [cell_set_same V.wro (by simp; omega) (Nat.le_refl _) (by simp), upd_same]; simp
      · rw [cell_set_off (.inr (by simp; omega)), upd_ne _ _ e]; exact V.con j hj
    · by_cases e : j = i
      · rw [e, upd_same] at hq; cases hq
      · rw [upd_ne _ _ e] at hq ⊢
        obtain ⟨o1, o2⟩ := V.off j hj hq
        exact ⟨o1, by rw [crb j e]; exact o2⟩
    · by_cases e : j = i
      · rw [e, upd_same] at hq
        cases hq
        refine ⟨by omega, by omega, _, by rw [e]; exact crbi, .inl ⟨⟨some 64, 0, rfl⟩, Nat.le_refl _, ?_, fun c hc => ?_, by omega⟩⟩
        · rw [e3]; exact wr_set w2n
        · rw [e3, cell_set_off (.inl (by omega)), e2, ← n1, cell_new_same, patOb_get _ _ (by omega)]
          unfold zero64
          rw [if_pos (by omega)]
          simp [Nat.mod_one]
      · rw [upd_ne _ _ e] at hq
        obtain ⟨o1, o2, x, o3, B⟩ := V.has j k hj hq
        have hk := B.lt
        refine ⟨o1, o2, x, by rw [crb j e]; exact o3, ?_⟩
        rw [upd_ne _ _ e]
        rcases B.frame (h' := h3) F.next (F.same k hk (fun e => by rcases e with e | e; exact o1 e; exact o2 e)) with B' | B'
        · refine .inl ⟨B'.sl, B'.ok, B'.w, fun c hc => ?_, B'.lt⟩
          rw [B'.cs c hc]
          unfold zero64
          rw [if_neg (by omega)]
        · exact .inr B'
    · by_cases e : j = i
      · by_cases e' : j' = i
        · omega
        · rw [e, upd_same] at hq
          rw [upd_ne _ _ e'] at hq'
          cases hq
          obtain ⟨_, _, x, _, B⟩ := V.has j' _ hj' hq'
          exact absurd B.lt (Nat.lt_irrefl _)
      · by_cases e' : j' = i
        · rw [e', upd_same] at hq'
          rw [upd_ne _ _ e] at hq
          cases hq'
          obtain ⟨_, _, x, _, B⟩ := V.has j _ hj hq
          exact absurd B.lt (Nat.lt_irrefl _)
        · rw [upd_ne _ _ e] at hq
          rw [upd_ne _ _ e'] at hq'
          exact V.inj j j' k hj hj' hq hq'
    · unfold zero64; split
      · omega
      · exact V.blt j
  · obtain ⟨M, a, c⟩ := A.wr
    exact ⟨M, a, wr_same c (F.same r lr (fun e => by rcases e with e | e; exact nrn e; exact nrb e))⟩
  · by_cases e : j = i
    · rw [e, upd_same] at hq; cases hq; omega
    · rw [upd_ne _ _ e] at hq; exact A.nq j k hj hq
end
end Go.Proofs.YtomialandfplkaaDoor.Eva
namespace Go.Proofs.YtomialandfplkaaDoor.Eva
open Go.Xe
set_option linter.unusedSimpArgs false
section
variable {lf m : Nat} {h : HW} {r ro rb n : Nat} {on : Nat → Bool} {q : Nat → Option Nat} {b : Nat → Nat} {x0 x1 : SV}
def blkL (b : Nat → Nat) (i : Nat) : List Nat := (List.range 64).map fun j => b (i * 64 + j)
theorem blkL_length (b : Nat → Nat) (i : Nat) : (blkL b i).length = 64 := by simp [blkL]
theorem blkL_get (b : Nat → Nat) (i : Nat) {j : Nat} (hj : j < 64) : (blkL b i).getD j 0 = b (i * 64 + j) := by simp [blkL, List.getD, hj]
theorem BlkAt.bytes {x : SV} {k i : Nat} (B : BlkAt h x k b i) (hb : ∀ j, b j < 256) : Bytes h x (blkL b i) := by
  obtain ⟨cap, lo, rfl⟩ := B.sl
  obtain ⟨mm, hm, _⟩ := B.w
  refine ⟨fun c hc => ?_, .inr ⟨k, 0, cap, lo, mm, by rw [blkL_length], hm, fun j hj => ?_⟩⟩
  · obtain ⟨j, _, rfl⟩ := List.mem_map.1 hc
    exact hb _
  · rw [blkL_length] at hj
    rw [Nat.zero_add, B.cs j hj, blkL_get b i hj]
theorem RefAt.put (A : RefAt h r ro rb n on q b) {i k p v : Nat} (hi : i < n) (hon : on i = true) (hq : q i = some k) (hp : p < 64) (hv : v < 256) {b' : Nat → Nat} (hb : ∀ j, b' j = if j = i * 64 + p then v else b j) :
    RefAt (h.set k p [.int .u8 (v : Int)]) r ro rb n on q b' := by
  obtain ⟨x0, x1, c0, c1, V⟩ := A.v
  obtain ⟨k1, k2, x, k3, B⟩ := V.has i k hi hq
  replace B := B.blk hon
  have kr := A.nq i k hi hq
  have so : SameOb h (h.set k p [.int .u8 (v : Int)]) ro := set_other _ _ _ k1.symm
  have sb : SameOb h (h.set k p [.int .u8 (v : Int)]) rb := set_other _ _ _ k2.symm
  have sr : SameOb h (h.set k p [.int .u8 (v : Int)]) r := set_other _ _ _ kr.symm
  refine ⟨⟨x0, x1, by rw [sr.cell]; exact c0, by rw [sr.cell]; exact c1, V.n1, V.n2, V.e0, V.e1, wr_set V.wro, wr_set V.wrb, fun j hj => by rw [so.cell]; exact V.con j hj, fun j hj hq => by rw [sb.cell]; exact V.off j hj hq, fun j k' hj hq' => ?_, V.inj, V.ne, by rw [set_next]; exact V.lto, by rw [set_next]; exact V.ltb, fun j => ?_⟩, (let ⟨M, a, c⟩ := A.wr; ⟨M, a, wr_set c⟩), A.nro, A.nrb, A.nq, by rw [set_next]; exact A.lt⟩
  · obtain ⟨o1, o2, x', o3, B'⟩ := V.has j k' hj hq'
    refine ⟨o1, o2, x', by rw [sb.cell]; exact o3, ?_⟩
    rcases B' with B' | ⟨u1, u2, ⟨N, u3⟩, u4⟩
    rotate_left
    · exact .inr ⟨u1, u2, ⟨N, wr_set u3⟩, by rw [set_next]; exact u4⟩
    refine .inl ⟨B'.sl, B'.ok, wr_set B'.w, fun c hc => ?_, by rw [set_next]; exact B'.lt⟩
    by_cases e : j = i
    · subst e
      rw [hq] at hq'
      cases hq'
      by_cases e2 : c = p
      · subst e2
        rw [cell_set_same B.w (by simp; omega) (Nat.le_refl _) (by simp), hb, if_pos rfl]; simp
      · rw [cell_set_off (.inr (by simp; omega)), B'.cs c hc, hb, if_neg (by omega)]
    · have hne : k' ≠ k := fun e2 => e (V.inj j i k' hj hi hq' (by rw [e2]; exact hq))
      rw [cell_set_off (.inl hne), B'.cs c hc, hb, if_neg (by omega)]
  · rw [hb]; split
    · exact hv
    · exact V.blt j
end
end Go.Proofs.YtomialandfplkaaDoor.Eva
namespace Go.Proofs.YtomialandfplkaaDoor.Eva
open Go.Xe
set_option linter.unusedSimpArgs false
section
variable {lf m : Nat} {h : HW} {k dk n : Nat} {wd b : Nat → Nat}
def TotalOK (C : YC) : Prop := ∀ h k dk n wd b, StoreAt h k dk n wd b → C (.fn 29) [.ptr k 0] h = some (.ret (.int .i64 (n : Int)), h)
theorem total_ok {C : YC} (hm : MadeOK C) (S : StoreAt h k dk n wd b) : fs29 C lf (.ptr k 0) h = some (.ret (.int .i64 (n : Int)), h) := by
  unfold fs29 q29_8 ff29
  simp only [ob_some, b2_some, bc_ret, bcn_ret, gd_tt, gd_ff, gd_tf, gd_ft, ypk_true, ypk_false, yIf_true, yIf_false, semNil_ptr, fa_ptr, ld1_ptr, ext_tup, fd1_agg, un_not, bin_add, bin_sub, bin_mul, bin_eql, bin_neq, bin_lss, bin_leq, bin_gtr, bin_geq, Nat.zero_add, Nat.mul_one, hm _ _ _ _ _ _ S, Bool.not_true, S.cn]
@[simp] theorem lowV_int (bb : Nat) (kd : IntKind) (i : Int) : lowV bb (.int kd i) = true := noRfl rfl
end
end Go.Proofs.YtomialandfplkaaDoor.Eva
namespace Go.Proofs.YtomialandfplkaaDoor.Eva
open Go.Xe
set_option linter.unusedSimpArgs false
section
variable {lf m : Nat} {h : HW} {r ro rb n : Nat} {on : Nat → Bool} {q : Nat → Option Nat} {b : Nat → Nat} {x0 x1 : SV}
end
end Go.Proofs.YtomialandfplkaaDoor.Eva
namespace Go.Proofs.YtomialandfplkaaDoor.Eva
open Go.Xe
set_option linter.unusedSimpArgs false
section
variable {lf m : Nat} {h : HW}
structure Whole (h : HW) (k : Nat) (l : List Nat) : Prop where
  w : h.wr k (l.length + 2)
  c0 : h.cell k 0 = some (.int .u8 165)
  c1 : h.cell k (l.length + 1) = some (.int .u8 90)
  cs : ∀ j, j < l.length → h.cell k (1 + j) = some (.int .u8 ((l.getD j 0 : Nat) : Int))
  lt : k < h.next
def lentX (k n : Nat) : SV := .sl k 1 n (some (n + 1)) 0
theorem Whole.bytes {k : Nat} {l : List Nat} (W : Whole h k l) (hb : ∀ c ∈ l, c < 256) : Bytes h (lentX k l.length) l := by
  obtain ⟨mm, hm, _⟩ := W.w
  exact ⟨hb, .inr ⟨k, 1, _, 0, mm, rfl, hm, W.cs⟩⟩
end
end Go.Proofs.YtomialandfplkaaDoor.Eva
namespace Go.Proofs.YtomialandfplkaaDoor.Eva
open Go.Xe
set_option linter.unusedSimpArgs false
theorem ck_chk {recs : List (Nat × Option Nat)} {h h' : HW} {ls : List Nat} {r : Rs} (H : ∀ p ∈ recs, ∀ k, p.2 = some k → k < h.next ∧ (∃ m, h.mt k = some m) ∧ SameOb h h' k) : ck (chkH recs h h' ls) r = r := by
  have hf : ∀ (recs : List (Nat × Option Nat)) i k, (∀ p ∈ recs, ∀ k, p.2 = some k → k < h.next ∧ (∃ m, h.mt k = some m) ∧ SameOb h h' k) → findK recs i = some k → k < h.next ∧ (∃ m, h.mt k = some m) ∧ SameOb h h' k := by
    intro recs
    induction recs with
    | nil => intro i k _ e; cases e
    | cons p recs ih =>
      intro i k H e
      obtain ⟨l, a⟩ := p
      have e : (bif Nat.beq l i then a else findK recs i) = some k := e
      cases hb : Nat.beq l i with
      | true => rw [hb, cond_true] at e; exact H (l, a) (List.mem_cons_self ..) k e
      | false => rw [hb, cond_false] at e; exact ih i k (fun p hp => H p (List.mem_cons_of_mem _ hp)) e
  have : chkH recs h h' ls = true := by
    induction ls with
    | nil => rfl
    | cons l ls ih =>
      show ((match findK recs l with | some k => sameH h h' k | none => true) && chkH recs h h' ls) = true
      rw [ih, Bool.and_true]
      cases hk : findK recs l with
      | none => rfl
      | some k =>
        obtain ⟨h1, h2, h3⟩ := hf recs l k H hk
        exact sameH_of h1 h2 h3
  rw [this, ck_true]
section
variable {lf : Nat} {h : HW} {T : TN} {n N : Nat} {wd b : Nat → Nat} {now : Int} {us : Nat → Bool} {nd : Nat → Nat → SV}
def EachUsedOK (C : YC) : Prop := ∀ h0 h T n N wd b now us nd kb kl p, TableAt h0 T n N wd b now us nd → UsSt h0 h kb kl p [] → ∃ h', C (.ent 81) [.ptr T.kt 0, .yld kl] h = some (.ret (.tup []), h') ∧ UsSt h0 h' kb kl p (usedN us N)
theorem eachUsed_ok {C C' : YC} (hlf : 4097 ≤ lf) (ht : IsTOK C) (hy : ∀ kl p kb v h y h', LpAt h kb kl p → rt47_4 C' lf kl (some (.ptr p 0)) v h = some (.ret y, h') → C (.yld kl) [v] h = some (.ret y, h')) {h0 : HW} {kb kl p : Nat} (A : TableAt h0 T n N wd b now us nd) (U : UsSt h0 h kb kl p []) :
    ∃ h', fs81 C lf (.ptr T.kt 0) (.yld kl) h = some (.ret (.tup []), h') ∧ UsSt h0 h' kb kl p (usedN us N) := by
  have hN := A.N2
  refine each_ok (n := n) (N := N) (wd := wd) (b := b) (now := now) (us := us) (nd := nd) hlf ht (fun i h => UsSt h0 h kb kl p (usedN us i)) kl (fun i h U => A.frm U.F fun _ e => e.elim) (fun i h hi hu U => ?_) (fun i h hi hu U => ?_) (by simpa [usedN, usedR] using U)
  · have hle := usedN_le us i
    obtain ⟨h', e1, e2⟩ := round_used (C := C') (lf := lf) U (by omega) (i + 1)
    refine ⟨h', hy kl p kb _ h _ h' U.L e1, ?_⟩
    rw [usedN_succ, hu]; exact e2
  · rw [usedN_succ, hu]; simpa using U
def UsedTOK (C : YC) : Prop := ∀ h T n N wd b now us nd, TableAt h T n N wd b now us nd → ∃ x h', C (.fn 47) [.ptr T.kt 0] h = some (.ret x, h') ∧ IntsAt h h' x (usedN us N) ∧ Frm h h' (fun _ => False)
theorem usedT_ok {C : YC} (E : EachUsedOK C) (A : TableAt h T n N wd b now us nd) : ∃ x h', fs47 C lf (.ptr T.kt 0) h = some (.ret x, h') ∧ IntsAt h h' x (usedN us N) ∧ Frm h h' (fun _ => False) := by
  have hz : tyZero Tryd.prog 33 = some (.slice none 0 0) := by kernel_rfl
  have al := yAl_eq (P := Tryd.prog) (e := 33) (h := h) hz
  have hzc : (mkV (.slice none 0 0)).cells = [.val (.slice none 0 0)] := rfl
  rw [hzc] at al
  generalize ho1 : rowOb 33 [.val (.slice none 0 0)] = o1 at *
  generalize hg1 : h.new o1 = g1 at *
  have n1 : g1.next = h.next + 1 := by rw [← hg1, new_next]
  have w1 : g1.wr h.next 1 := by
    have := wr_new (h := h) (o := o1) (by rw [← ho1]; rfl)
    rw [show o1.n = 1 by rw [← ho1]; rfl, hg1] at this
    exact this
  have c1 : g1.cell h.next 0 = some (.val (.slice none 0 0)) := by rw [← hg1, cell_new_same, ← ho1, rowOb_get]; rfl
  have F1 : Frm h g1 (fun _ => False) := by rw [← hg1]; exact frm_new _ _ _
  -- the block of deferred calls, and the loop
  generalize hg2 : (⟨g1.ng, g1.next + 1, g1.objs.put g1.next mkBlk⟩ : HW) = g2 at *
  have e2 : g2 = g1.new mkBlk := by rw [← hg2]; rfl
  have n2 : g2.next = h.next + 2 := by rw [e2, new_next, n1]
  have F2 : Frm g1 g2 (fun _ => False) := by rw [e2]; exact frm_new _ _ _
  generalize hol : mkLoop fx47.ord 47 13 (layT [(3, some (.ptr h.next 0))]) #[7] (subX fx47 [1, 1, 0, 1, 0, 0]) (subX fx47 [1, 1, 0, 1, 0, 1]) g1.next = ol at *
  generalize hg3 : (⟨g2.ng, g2.next + 1, g2.objs.put g2.next ol⟩ : HW) = g3 at *
  have e3 : g3 = g2.new ol := by rw [← hg3]; rfl
  have n3 : g3.next = h.next + 3 := by rw [e3, new_next, n2]
  have F3 : Frm g2 g3 (fun _ => False) := by rw [e3]; exact frm_new _ _ _
  have s23 : ∀ j, j < g2.next → SameOb g2 g3 j := fun j hj => F3.same j hj (fun e => e)
  have s12 : ∀ j, j < g1.next → SameOb g1 g2 j := fun j hj => F2.same j hj (fun e => e)
  have U : UsSt h g3 (h.next + 1) (h.next + 2) h.next [] :=
    ⟨(F1.trans F2).trans F3, ⟨⟨ol, by rw [e3, new_get, if_pos (by rw [n2])], by rw [← hol, n1]; rfl⟩, ⟨mkBlk, by
        have h1 : SameOb g2 g3 (h.next + 1) := s23 _ (by omega)
        exact h1.trans (by rw [e2, new_get, if_pos n1.symm]), rfl⟩⟩,
      ⟨.val (.slice none 0 0), by rw [(s23 _ (by omega)).cell, (s12 _ (by omega)).cell]; exact c1, ⟨Sl.nil _ _ _, fun j hj => by cases hj⟩, fun j hj => by cases hj⟩,
      wr_same (wr_same w1 (s12 _ (by omega))) (s23 _ (by omega)), by omega, by omega, by omega, by omega, by omega, by omega, by omega, by omega, by omega⟩
  obtain ⟨g4, c4, U4⟩ := E h g3 T n N wd b now us nd _ _ _ A U
  obtain ⟨o4, q1, q2⟩ := U4.L.ol
  obtain ⟨b4, q3, q4⟩ := U4.L.ob
  obtain ⟨x, x1, x2, x3⟩ := U4.v
  have q2 : o4.sp = .loop .ready .none fx47.ord 47 13 (layT [(3, some (.ptr h.next 0))]) #[7] (subX fx47 [1, 1, 0, 1, 0, 0]) (subX fx47 [1, 1, 0, 1, 0, 1]) (h.next + 1) := q2
  -- the end of the loop, and of the function
  generalize hg5 : g4.at (h.next + 2) (doneOb o4) = g5 at *
  have F5 : Frm g4 g5 (· = h.next + 2) := by rw [← hg5]; exact frm_at rfl U4.ll
  have b5 : g5.objs.get (h.next + 1) = some b4 := by rw [← hg5, at_get, if_neg (by omega)]; exact q3
  generalize hg6 : g5.at (h.next + 1) { b4 with ver := b4.ver + 1, sp := .blk true } = g6 at *
  have n5 : g5.next = g4.next := by rw [← hg5]; rfl
  have F6 : Frm g5 g6 (· = h.next + 1) := by rw [← hg6]; exact frm_at rfl (by rw [n5]; exact U4.lb)
  have s46 : ∀ j, j ≠ h.next + 1 → j ≠ h.next + 2 → SameOb g4 g6 j := fun j h1 h2 => by
    have a : SameOb g4 g5 j := by rw [← hg5]; exact at_other _ _ h2
    have b : SameOb g5 g6 j := by rw [← hg6]; exact at_other _ _ h1
    exact b.trans a
  have n6 : g6.next = g4.next := by rw [← hg6, ← hg5]; rfl
  refine ⟨x, g6, ?_, ⟨x2.sl.frame (Nat.le_of_eq n6.symm) fun k hk => s46 k (x3 k hk).1 (x3 k hk).2.1, x2.new⟩, ?_⟩
  · unfold fs47 q47_19 q47_18 q47_16
    simp only [ob_some, b2_some, al]
    have hr : ∀ kn kr ke, rangeT C fx47.ord 47 none 13 #[7] (subX fx47 [1, 1, 0, 1, 0, 0]) (subX fx47 [1, 1, 0, 1, 0, 1]) (.fn (.func 81) [.ptr T.kt 0] []) [] (layT [(3, some (.ptr h.next 0))]) g1 kn kr ke = kn [h.next + 1] g5 := fun kn kr ke => by
      show bcn (C (.ent 81) [.ptr T.kt 0, .yld (g1.next + 1)] ⟨g1.ng, g1.next + 2, (g1.objs.put g1.next mkBlk).put (g1.next + 1) (mkLoop fx47.ord 47 13 (layT [(3, some (.ptr h.next 0))]) #[7] (subX fx47 [1, 1, 0, 1, 0, 0]) (subX fx47 [1, 1, 0, 1, 0, 1]) g1.next)⟩) (fun _ h2 => endT (g1.next :: []) (g1.next + 1) h2 kn kr ke) = _
      have eg : (⟨g1.ng, g1.next + 2, (g1.objs.put g1.next mkBlk).put (g1.next + 1) (mkLoop fx47.ord 47 13 (layT [(3, some (.ptr h.next 0))]) #[7] (subX fx47 [1, 1, 0, 1, 0, 0]) (subX fx47 [1, 1, 0, 1, 0, 1]) g1.next)⟩ : HW) = g3 := by rw [← hg3, ← hg2, hol]
      rw [eg, n1, c4, bcn_ret]
      unfold endT
      simp only [q1, q2]
      show kn [h.next + 1] (g4.at (h.next + 2) (doneOb o4)) = _
      rw [hg5]
    rw [hr]
    unfold q47_3 fz47 markZ markZ ff47
    have hx5 : g5.cell h.next 0 = some x := by rw [← hg5, cell_at_other _ (by omega)]; exact x1
    simp only [ob_some, ld1_ptr, hx5, b5, q4]
    show noPan (some (.ret x, g5.at (h.next + 1) { b4 with ver := b4.ver + 1, sp := .blk true })) = _
    rw [hg6, noPan_ret]
  · refine ⟨F6.ng.trans (F5.ng.trans U4.F.ng), by rw [n6]; exact U4.F.next, fun j hj e => (s46 j (by omega) (by omega)).trans (U4.F.same j hj e), fun hf => F6.fr (F5.fr (U4.F.fr hf))⟩
end
end Go.Proofs.YtomialandfplkaaDoor.Eva
namespace Go.Proofs.YtomialandfplkaaDoor.Eva
open Go.Xe
set_option linter.unusedSimpArgs false
section
variable {lf : Nat} {h : HW} {T : TN} {n N : Nat} {wd b : Nat → Nat} {now : Int} {us : Nat → Bool} {nd : Nat → Nat → SV}
theorem wr_mt {h : HW} {k M : Nat} (w : h.wr k M) : ∃ m, h.mt k = some m := let ⟨m, a, _⟩ := w; ⟨m, a⟩
def roomV (n l N u : Nat) : SV := .tup [.int .i64 (n : Int), .int .i64 (l : Int), .int .i64 (N : Int), .int .i64 (u : Int)]
def RoomTOK (C : YC) : Prop := ∀ h T n N wd b now us nd, TableAt h T n N wd b now us nd → ∃ h', C (.fn 39) [.ptr T.kt 0] h = some (.ret (roomV n (n - (usedL wd n).length) N (N - (usedN us N).length)), h') ∧ Frm h h' (fun _ => False)
theorem roomT_ok {C : YC} (ht : IsTOK C) (hto : TotalOK C) (hle : LeftOK C) (hu : UsedTOK C) (A : TableAt h T n N wd b now us nd) : ∃ h', fs39 C lf (.ptr T.kt 0) h = some (.ret (roomV n (n - (usedL wd n).length) N (N - (usedN us N).length)), h') ∧ Frm h h' (fun _ => False) := by
  obtain ⟨x, h', e, a, f⟩ := hu _ _ _ _ _ _ _ _ _ A
  have hN := A.N2
  have hln := usedN_le us N
  have hl : lenE Tryd.prog 100 (.sl T.kn 0 N (some N) 0) = some (.int .i64 (N : Int)) := by
    simp [lenE, Tryd.underlying100]
  have hlx := len_ints a
  have hs : IntKind.i64.wrap ((N : Int) - ((usedN us N).length : Int)) = ((N - (usedN us N).length : Nat) : Int) := by rw [wrap_i64 (by omega) (by omega)]; omega
  have e1 := hto _ _ _ _ _ _ A.st
  have e2 := hle _ _ _ _ _ _ A.st
  have hk : ∀ {h1 : HW} (recs : List (Nat × Option Nat)) (ls : List Nat) (r : Rs), (∀ p ∈ recs, ∀ k, p.2 = some k → k = T.kt) → SameOb h h1 T.kt → ck (chkH recs h h1 ls) r = r := fun recs ls r hp hs => ck_chk fun p hp' k e => by
    have := hp p hp' k e
    subst this
    exact ⟨A.lt, wr_mt A.wt, hs⟩
  refine ⟨h', ?_, f⟩
  unfold fs39 q39_31 ff39
  simp only [ob_some, b2_some, bc_ret, bcn_ret, gd_tt, gd_ff, gd_tf, gd_ft, ypk_true, ypk_false, yIf_true, yIf_false, semNil_ptr, fa_ptr, ld1_ptr, ext_tup, fd1_agg, un_not, bin_add, bin_sub, bin_mul, bin_eql, bin_neq, bin_lss, bin_leq, bin_gtr, bin_geq, Nat.zero_add, Nat.mul_one, ht _ _ _ _ _ _ _ _ _ A, Bool.not_true, A.c0, A.c1, hl, e1, e2]
  rw [hk _ _ _ (by intro p hp k e; simp [adrO, adr] at hp; rcases hp with rfl | rfl | rfl | rfl <;> simp at e <;> exact e.symm) rfl]
  rw [hk _ _ _ (by intro p hp k e; simp [adrO, adr] at hp; rcases hp with rfl | rfl | rfl | rfl <;> simp at e <;> exact e.symm) rfl]
  simp only [ob_some, b2_some, bc_ret, bcn_ret, gd_tt, gd_ff, gd_tf, gd_ft, ypk_true, ypk_false, yIf_true, yIf_false, semNil_ptr, fa_ptr, ld1_ptr, ext_tup, fd1_agg, un_not, bin_add, bin_sub, bin_mul, bin_eql, bin_neq, bin_lss, bin_leq, bin_gtr, bin_geq, Nat.zero_add, Nat.mul_one, e]
  rw [hk _ _ _ (by intro p hp k e; simp [adrO, adr] at hp; rcases hp with rfl | rfl | rfl | rfl <;> simp at e <;> exact e.symm) (f.same _ A.lt (fun e => e))]
  simp only [ob_some, b2_some, bc_ret, bcn_ret, gd_tt, gd_ff, gd_tf, gd_ft, ypk_true, ypk_false, yIf_true, yIf_false, semNil_ptr, fa_ptr, ld1_ptr, ext_tup, fd1_agg, un_not, bin_add, bin_sub, bin_mul, bin_eql, bin_neq, bin_lss, bin_leq, bin_gtr, bin_geq, Nat.zero_add, Nat.mul_one, hlx, hs]
  rfl
end
structure RN where
  rt : Nat
  ro : Nat
  rb : Nat
  rl : Nat
structure RTabAt (h : HW) (R : RN) (n N : Nat) (on : Nat → Bool) (q : Nat → Option Nat) (b : Nat → Nat) (now : Int) (us : Nat → Bool) (rd : Nat → Nat → SV) : Prop where
  N1 : 1 ≤ N
  N2 : N ≤ 4096
  ref : RefAt h R.rt R.ro R.rb n on q b
  c2 : h.cell R.rt 2 = some (.int .i64 (N : Int))
  c3 : h.cell R.rt 3 = some (.int .i64 now)
  c4 : ∃ cap lo, h.cell R.rt 4 = some (.sl R.rl 0 (N + 1) cap lo)
  wt : h.wr R.rt 5
  wl : h.wr R.rl ((N + 1) * 308)
  cl : ∀ i c, i < N + 1 → c < 308 → h.cell R.rl (i * 308 + c) = some (rd i c)
  u0 : ∀ i, i < N → rd (i + 1) 0 = .bool (us i)
  d1 : R.rl ≠ R.rt
  d2 : R.rl ≠ R.ro
  d3 : R.rl ≠ R.rb
  d4 : ∀ i k, i < n → q i = some k → k ≠ R.rl
  ll : R.rl < h.next
def rowsT (R : RN) (n : Nat) (q : Nat → Option Nat) (j : Nat) : Prop := j = R.rl ∨ rowsR R.rt R.ro R.rb n q j
section
variable {lf : Nat} {h : HW} {R : RN} {n N : Nat} {on : Nat → Bool} {q : Nat → Option Nat} {b : Nat → Nat} {now : Int} {us : Nat → Bool} {rd : Nat → Nat → SV}
theorem RTabAt.row_lt (A : RTabAt h R n N on q b now us rd) {j : Nat} (hj : rowsT R n q j) : j < h.next := by
  rcases hj with rfl | hj
  · exact A.ll
  · exact A.ref.row_lt hj
theorem RTabAt.frm (A : RTabAt h R n N on q b now us rd) {h' : HW} {S : Nat → Prop} (F : Frm h h' S) (hs : ∀ j, rowsT R n q j → ¬ S j) : RTabAt h' R n N on q b now us rd := by
  have st : SameOb h h' R.rt := F.same _ A.ref.lt (hs _ (.inr (.inl rfl)))
  have sl : SameOb h h' R.rl := F.same _ A.ll (hs _ (.inl rfl))
  exact ⟨A.N1, A.N2, A.ref.frm F fun j hj => hs j (.inr hj), by rw [st.cell]; exact A.c2, by rw [st.cell]; exact A.c3, let ⟨cap, lo, e⟩ := A.c4; ⟨cap, lo, by rw [st.cell]; exact e⟩, wr_same A.wt st, wr_same A.wl sl, fun i c hi hc => by rw [sl.cell]; exact A.cl i c hi hc, A.u0, A.d1, A.d2, A.d3, A.d4, Nat.lt_of_lt_of_le A.ll F.next⟩
end
end Go.Proofs.YtomialandfplkaaDoor.Eva
namespace Go.Proofs.YtomialandfplkaaDoor.Eva
open Go.Xe
set_option linter.unusedSimpArgs false
section
variable {lf : Nat} {h : HW} {R : RN} {n N : Nat} {on : Nat → Bool} {q : Nat → Option Nat} {b : Nat → Nat} {now : Int} {us : Nat → Bool} {rd : Nat → Nat → SV}
def NumOK (C : YC) : Prop := ∀ h (e : Int), C (.fn 34) [.int .i64 e] h = some (.ret (.int .i64 e), h)
theorem num_ok {C : YC} {e : Int} : fs34 C lf (.int .i64 e) h = some (.ret (.int .i64 e), h) := by
  unfold fs34 q34_2 ff34
  simp only [ob_some, b2_some, bc_ret, bcn_ret, gd_tt, gd_ff, gd_tf, gd_ft, ypk_true, ypk_false, yIf_true, yIf_false, semNil_ptr, fa_ptr, ld1_ptr, ext_tup, fd1_agg, un_not, bin_add, bin_sub, bin_mul, bin_eql, bin_neq, bin_lss, bin_leq, bin_gtr, bin_geq, Nat.zero_add, Nat.mul_one]
theorem roomV_ext (n l N u : Nat) : ext 0 (roomV n l N u) = some (.int .i64 (n : Int)) ∧ ext 1 (roomV n l N u) = some (.int .i64 (l : Int)) ∧ ext 2 (roomV n l N u) = some (.int .i64 (N : Int)) ∧ ext 3 (roomV n l N u) = some (.int .i64 (u : Int)) := ⟨rfl, rfl, rfl, rfl⟩
end
end Go.Proofs.YtomialandfplkaaDoor.Eva
namespace Go.Proofs.YtomialandfplkaaDoor.Eva
open Go.Xe
set_option linter.unusedSimpArgs false
section
theorem eql_ptr_nil {P : Program} {t e : TypeId} {k off : Nat} (hu : P.underlying t = some (.pointer e)) : bin P .eql t (.ptr k off) (.val (.pointer none)) = some (.bool false) := bin_eql_ptr hu
theorem neq_bools {P : Program} {t : TypeId} (hu : P.underlying t = some .bool) (a b : Bool) : bin P .neq t (.bool a) (.bool b) = some (.bool (a != b)) := by
  rw [bin_eq]; show eqOp P .neq t _ _ = _; simp [eqOp, eqTop, eqE, hu]; cases a <;> cases b <;> rfl
variable {lf : Nat} {C : YC}
end
end Go.Proofs.YtomialandfplkaaDoor.Eva
namespace Go.Proofs.YtomialandfplkaaDoor.Eva
open Go.Xe
set_option linter.unusedSimpArgs false
structure S4 where
  wd : Nat → Nat
  b : Nat → Nat
  nd : Nat → Nat → SV
  bl : Nat → Nat → Nat
def onW (wd : Nat → Nat) (j : Nat) : Nat → Nat := upd wd (j / 64) (put1 (wd (j / 64)) (j % 64))
def S4.take (s : S4) (i c j : Nat) : S4 := ⟨onW s.wd j, zero64 s.b j, upd2 s.nd i c (.int .i64 ((j + 1 : Nat) : Int)), updB s.bl i c (j + 1)⟩
def S4.back (s : S4) (i c : Nat) : S4 := ⟨offW s.wd (s.bl i c - 1), s.b, upd2 s.nd i c (.int .i64 0), updB s.bl i c 0⟩
def backF (i : Nat) (tk : List Nat) (s : S4) : S4 := tk.foldl (fun s c => s.back i c) s
def low (n : Nat) (wd : Nat → Nat) : Option Nat := (List.range n).find? fun j => !onB wd j
theorem low_none {n : Nat} {wd : Nat → Nat} (h : low n wd = none) : ∀ j, j < n → onB wd j = true := fun j hj => by
  have := List.find?_eq_none.1 h j (List.mem_range.2 hj)
  simpa using this
theorem low_some {n : Nat} {wd : Nat → Nat} {i : Nat} (h : low n wd = some i) : i < n ∧ onB wd i = false ∧ ∀ j, j < i → onB wd j = true := by
  unfold low at h
  obtain ⟨h1, l1, l2, h2, h3⟩ := List.find?_eq_some_iff_append.1 h
  have hi : i ∈ List.range n := by rw [h2]; simp
  have hin := List.mem_range.1 hi
  refine ⟨hin, by simpa using h1, fun j hj => ?_⟩
  have hl : l1.length = i := by
    have h4 : (List.range n)[l1.length]? = some i := by rw [h2]; simp
    have h5 : l1.length < n := by
      have h6 := (List.getElem?_eq_some_iff.1 h4).1
      simpa using h6
    rw [List.getElem?_range h5] at h4
    simpa using h4
  have h7 : j ∈ l1 := by
    have h8 : (List.range n)[j]? = some j := List.getElem?_range (by omega)
    rw [h2, List.getElem?_append_left (by omega)] at h8
    exact List.mem_of_getElem? h8
  simpa using h3 j h7
def fillF (n i : Nat) : List Nat → S4 → List Nat → S4 × List Nat × Bool
  | [], s, tk => (s, tk, true)
  | c :: cs, s, tk => if 0 < s.bl i c then fillF n i cs s tk else match low n s.wd with
    | none => (s, tk, false)
    | some j => fillF n i cs (s.take i c j) (tk ++ [c])
section
variable {h h' : HW} {T : TN} {n N : Nat} {wd b wd' b' : Nat → Nat} {now : Int} {us : Nat → Bool} {nd : Nat → Nat → SV} {bl : Nat → Nat → Nat} {i c j : Nat}
theorem onB_on (_ : ∀ i, wd i < 2 ^ 64) {j j' : Nat} : onB (onW wd j) j' = (onB wd j' || decide (j' = j)) := by
  unfold onW
  rw [onB_upd]
  split
  · rename_i e
    rw [put1_bit]
    unfold onB
    rw [e]
    congr 1
    by_cases h : j' = j
    · subst h; simp
    · have : j' % 64 ≠ j % 64 := by omega
      simp [h, this]
  · rename_i e
    have : j' ≠ j := fun h => e (by rw [h])
    simp [this]
theorem onW_lt (hw : ∀ i, wd i < 2 ^ 64) (j : Nat) : ∀ i, onW wd j i < 2 ^ 64 := fun i => by
  unfold onW
  by_cases e : i = j / 64
  · subst e; rw [upd_same]; exact put1_lt (hw _) (Nat.mod_lt _ (by omega))
  · rw [upd_ne _ _ e]; exact hw i
theorem offW_lt (hw : ∀ i, wd i < 2 ^ 64) (j : Nat) : ∀ i, offW wd j i < 2 ^ 64 := fun i => by
  unfold offW
  by_cases e : i = j / 64
  · subst e; rw [upd_same]; exact Nat.and_lt_two_pow _ (by have : 2 ^ (j % 64) > 0 := Nat.two_pow_pos _; omega)
  · rw [upd_ne _ _ e]; exact hw i
theorem words_ext (h1 : ∀ i, wd i < 2 ^ 64) (h2 : ∀ i, wd' i < 2 ^ 64) (h : ∀ j, onB wd j = onB wd' j) : wd = wd' := by
  funext i
  apply Nat.eq_of_testBit_eq
  intro c
  by_cases hc : c < 64
  · have := h (i * 64 + c)
    unfold onB at this
    rw [show (i * 64 + c) / 64 = i by omega, show (i * 64 + c) % 64 = c by omega] at this
    exact this
  · rw [Nat.testBit_lt_two_pow (Nat.lt_of_lt_of_le (h1 i) (Nat.pow_le_pow_right (by omega) (by omega))), Nat.testBit_lt_two_pow (Nat.lt_of_lt_of_le (h2 i) (Nat.pow_le_pow_right (by omega) (by omega)))]
theorem MapAt.take (M : MapAt n N wd nd bl) (hw : ∀ i, wd i < 2 ^ 64) (hi : i < N) (h12 : 12 ≤ c) (hc : c < 308) (hj : j < n) (hoff : onB wd j = false) :
    MapAt n N (onW wd j) (upd2 nd i c (.int .i64 ((j + 1 : Nat) : Int))) (updB bl i c (j + 1)) := by
  have hne : ∀ i' c', i' < N → 12 ≤ c' → c' < 308 → bl i' c' ≠ j + 1 := fun i' c' a1 a2 a3 e => by
    have := M.on i' c' a1 a2 a3 (by omega)
    rw [e, Nat.add_sub_cancel, hoff] at this
    cases this
  refine ⟨fun i' c' hi' h12' hc' => ?_, fun i' c' => ?_, fun i' c' hi' h12' hc' hp => ?_, fun i1 c1 i2 c2 hi1 h1 hc1 hi2 h2 hc2 hp he => ?_⟩
  · by_cases e : i' = i ∧ c' = c
    · obtain ⟨rfl, rfl⟩ := e
      rw [upd2_same, updB_same]
    · rw [upd2_ne _ _ (by omega), updB_ne _ _ (by omega)]; exact M.cell i' c' hi' h12' hc'
  · unfold updB; split
    · omega
    · exact M.le i' c'
  · rw [onB_on hw]
    by_cases e : i' = i ∧ c' = c
    · obtain ⟨rfl, rfl⟩ := e
      rw [updB_same, Nat.add_sub_cancel]; simp
    · rw [updB_ne _ _ (by omega)] at hp ⊢
      rw [M.on i' c' hi' h12' hc' hp]; rfl
  · by_cases e1 : i1 = i ∧ c1 = c
    · by_cases e2 : i2 = i ∧ c2 = c
      · omega
      · obtain ⟨rfl, rfl⟩ := e1
        rw [updB_same, updB_ne _ _ (by omega)] at he
        exact absurd he.symm (hne i2 c2 hi2 h2 hc2)
    · rw [updB_ne _ _ (by omega)] at hp he
      by_cases e2 : i2 = i ∧ c2 = c
      · obtain ⟨rfl, rfl⟩ := e2
        rw [updB_same] at he
        exact absurd he (hne i1 c1 hi1 h1 hc1)
      · rw [updB_ne _ _ (by omega)] at he
        exact M.inj i1 c1 i2 c2 hi1 h1 hc1 hi2 h2 hc2 hp he
end
inductive Taken (n i : Nat) (s0 : S4) : List Nat → S4 → Prop
  | nil : Taken n i s0 [] s0
  | snoc {tk : List Nat} {s : S4} {c j : Nat} : Taken n i s0 tk s → s.bl i c = 0 → 12 ≤ c → c < 308 → j < n → onB s.wd j = false → Taken n i s0 (tk ++ [c]) (s.take i c j)
section
variable {n N i : Nat} {s0 s : S4} {tk : List Nat}
structure TakenP (n N i : Nat) (s0 : S4) (tk : List Nat) (s : S4) : Prop where
  M : MapAt n N s.wd s.nd s.bl
  wlt : ∀ j, s.wd j < 2 ^ 64
  out : ∀ i' c, i' ≠ i ∨ c ∉ tk → s.bl i' c = s0.bl i' c
  outn : ∀ i' c, i' ≠ i ∨ c ∉ tk → s.nd i' c = s0.nd i' c
  was : ∀ c, c ∈ tk → s0.bl i c = 0 ∧ 12 ≤ c ∧ c < 308 ∧ 0 < s.bl i c ∧ onB s0.wd (s.bl i c - 1) = false ∧ s.bl i c ≤ n
  on : ∀ j, onB s.wd j = true ↔ (onB s0.wd j = true ∨ ∃ c, c ∈ tk ∧ s.bl i c = j + 1)
  by' : ∀ p, onB s0.wd (p / 64) = true → s.b p = s0.b p
  z : ∀ c, c ∈ tk → ∀ t, t < 64 → s.b ((s.bl i c - 1) * 64 + t) = 0
  nd' : tk.Nodup
  cnt : ((List.range n).filter (onB s.wd)).length = ((List.range n).filter (onB s0.wd)).length + tk.length
theorem count_on {n j : Nat} {f g : Nat → Bool} (hj : j < n) (hf : f j = false) (hg : ∀ k, g k = (f k || decide (k = j))) : ((List.range n).filter g).length = ((List.range n).filter f).length + 1 := by
  induction n with
  | zero => omega
  | succ n ih =>
    rw [List.range_succ, List.filter_append, List.filter_append, List.length_append, List.length_append]
    by_cases e : j = n
    · subst e
      have h1 : (List.range j).filter g = (List.range j).filter f := List.filter_congr fun k hk => by
        have := List.mem_range.1 hk
        rw [hg]; simp; omega
      rw [h1]
      simp [List.filter, hf, hg]
    · rw [ih (by omega)]
      have h2 : g n = f n := by rw [hg]; simp; omega
      simp only [List.filter, h2]
      omega
theorem Taken.props (t : Taken n i s0 tk s) (hi : i < N) (M : MapAt n N s0.wd s0.nd s0.bl) (hw : ∀ j, s0.wd j < 2 ^ 64) : TakenP n N i s0 tk s := by
  induction t with
  | nil => exact ⟨M, hw, fun _ _ _ => rfl, fun _ _ _ => rfl, fun c hc => (by cases hc), fun j => (by simp), fun _ _ => rfl, fun c hc => (by cases hc), List.nodup_nil, (by simp)⟩
  | @snoc tk s c j t h0 h12 hc hj hoff ih =>
    have hnot : c ∉ tk := fun e => by have := (ih.was c e).2.2.2.1; omega
    have hoff0 : onB s0.wd j = false := by
      cases hb : onB s0.wd j with
      | false => rfl
      | true => have := (ih.on j).2 (.inl hb); rw [hoff] at this; cases this
    have hbl : ∀ c', c' ∈ tk → (s.take i c j).bl i c' = s.bl i c' := fun c' hc' => updB_ne _ _ (.inr fun e => hnot (e ▸ hc'))
    have hblc : (s.take i c j).bl i c = j + 1 := updB_same _ _ _ _
    refine ⟨ih.M.take ih.wlt hi h12 hc hj hoff, onW_lt ih.wlt j, fun i' c' h => ?_, fun i' c' h => ?_, fun c' h => ?_, fun j' => ?_, fun p hp => ?_, fun c' h t ht => ?_, ?_, ?_⟩
    · have : i' ≠ i ∨ c' ≠ c := by
        rcases h with h | h
        · exact .inl h
        · exact .inr fun e => h (by simp [e])
      show updB s.bl i c (j + 1) i' c' = _
      rw [updB_ne _ _ this]
      exact ih.out i' c' (h.imp id fun h e => h (by simp [e]))
    · have : i' ≠ i ∨ c' ≠ c := by
        rcases h with h | h
        · exact .inl h
        · exact .inr fun e => h (by simp [e])
      show upd2 s.nd i c _ i' c' = _
      rw [upd2_ne _ _ this]
      exact ih.outn i' c' (h.imp id fun h e => h (by simp [e]))
    · rcases List.mem_append.1 h with h | h
      · rw [hbl c' h]; exact ih.was c' h
      · have e : c' = c := by simpa using h
        subst e
        rw [hblc, Nat.add_sub_cancel]
        exact ⟨by rw [← ih.out i c' (.inr hnot)]; exact h0, h12, hc, by omega, hoff0, by omega⟩
    · show onB (onW s.wd j) j' = true ↔ _
      rw [onB_on ih.wlt, Bool.or_eq_true, ih.on j', decide_eq_true_eq]
      constructor
      · rintro ((e | ⟨c', e1, e2⟩) | e)
        · exact .inl e
        · exact .inr ⟨c', by simp [e1], by rw [hbl c' e1]; exact e2⟩
        · exact .inr ⟨c, by simp, by rw [hblc, e]⟩
      · rintro (e | ⟨c', e1, e2⟩)
        · exact .inl (.inl e)
        · rcases List.mem_append.1 e1 with h | h
          · exact .inl (.inr ⟨c', h, by rw [← hbl c' h]; exact e2⟩)
          · have e : c' = c := by simpa using h
            subst e
            rw [hblc] at e2
            exact .inr (by omega)
    · show zero64 s.b j p = _
      unfold zero64
      rw [if_neg fun e => by
        have : p / 64 = j := by omega
        rw [this, hoff0] at hp; cases hp]
      exact ih.by' p hp
    · show zero64 s.b j _ = 0
      unfold zero64
      rcases List.mem_append.1 h with h | h
      · rw [hbl c' h]
        split
        · rfl
        · exact ih.z c' h t ht
      · have e : c' = c := by simpa using h
        subst e
        rw [hblc, if_pos (by omega)]
    · exact List.nodup_append.2 ⟨ih.nd', by simp, fun a ha b hb e => hnot (by
        have : b = c := by simpa using hb
        rw [← this, ← e]; exact ha)⟩
    · show ((List.range n).filter (onB (onW s.wd j))).length = _
      rw [count_on (g := onB (onW s.wd j)) hj hoff fun k => onB_on ih.wlt, ih.cnt, List.length_append]; rfl
theorem back_props : ∀ (tk : List Nat) (s : S4), tk.Nodup → (∀ j, s.wd j < 2 ^ 64) → (∀ c, c ∈ tk → 0 < s.bl i c) →
    (∀ j, (backF i tk s).wd j < 2 ^ 64) ∧ (backF i tk s).b = s.b ∧ (∀ i' c, (backF i tk s).bl i' c = if i' = i ∧ c ∈ tk then 0 else s.bl i' c) ∧ (∀ i' c, (backF i tk s).nd i' c = if i' = i ∧ c ∈ tk then .int .i64 0 else s.nd i' c) ∧
      (∀ j, onB (backF i tk s).wd j = true ↔ (onB s.wd j = true ∧ ∀ c, c ∈ tk → s.bl i c ≠ j + 1))
  | [], s, _, hw, _ => ⟨hw, rfl, fun i' c => by simp [backF], fun i' c => by simp [backF], fun j => by simp [backF]⟩
  | c :: tk, s, hn, hw, hp => by
    obtain ⟨hn1, hn2⟩ := List.nodup_cons.1 hn
    have hne : ∀ c', c' ∈ tk → (s.back i c).bl i c' = s.bl i c' := fun c' h => updB_ne _ _ (.inr fun e => hn1 (e ▸ h))
    obtain ⟨a1, a2, a3, a4, a5⟩ := back_props tk (s.back i c) hn2 (offW_lt hw _) fun c' h => by rw [hne c' h]; exact hp c' (by simp [h])
    have hc := hp c (by simp)
    refine ⟨a1, a2, fun i' c' => ?_, fun i' c' => ?_, fun j => ?_⟩
    · show (backF i tk (s.back i c)).bl i' c' = _
      rw [a3]
      by_cases e : i' = i ∧ c' ∈ tk
      · rw [if_pos e, if_pos ⟨e.1, by simp [e.2]⟩]
      · rw [if_neg e]
        show updB s.bl i c 0 i' c' = _
        unfold updB
        by_cases e2 : i' = i ∧ c' = c
        · rw [if_pos e2, if_pos ⟨e2.1, by simp [e2.2]⟩]
        · rw [if_neg e2, if_neg fun h => by
            rcases List.mem_cons.1 h.2 with h3 | h3
            · exact e2 ⟨h.1, h3⟩
            · exact e ⟨h.1, h3⟩]
    · show (backF i tk (s.back i c)).nd i' c' = _
      rw [a4]
      by_cases e : i' = i ∧ c' ∈ tk
      · rw [if_pos e, if_pos ⟨e.1, by simp [e.2]⟩]
      · rw [if_neg e]
        show upd2 s.nd i c (.int .i64 0) i' c' = _
        unfold upd2
        by_cases e2 : i' = i ∧ c' = c
        · rw [if_pos e2, if_pos ⟨e2.1, by simp [e2.2]⟩]
        · rw [if_neg e2, if_neg fun h => by
            rcases List.mem_cons.1 h.2 with h3 | h3
            · exact e2 ⟨h.1, h3⟩
            · exact e ⟨h.1, h3⟩]
    · show onB (backF i tk (s.back i c)).wd j = true ↔ _
      rw [a5]
      show (onB (offW s.wd (s.bl i c - 1)) j = true ∧ _) ↔ _
      rw [onB_off hw, Bool.and_eq_true, decide_eq_true_eq]
      constructor
      · rintro ⟨⟨e1, e2⟩, e3⟩
        refine ⟨e1, fun c' h => ?_⟩
        rcases List.mem_cons.1 h with rfl | h
        · omega
        · rw [← hne c' h]; exact e3 c' h
      · rintro ⟨e1, e2⟩
        refine ⟨⟨e1, fun e => e2 c (by simp) (by omega)⟩, fun c' h => ?_⟩
        rw [hne c' h]; exact e2 c' (by simp [h])
theorem Taken.undo (t : Taken n i s0 tk s) (hi : i < N) (M : MapAt n N s0.wd s0.nd s0.bl) (hw : ∀ j, s0.wd j < 2 ^ 64) :
    (backF i tk s).wd = s0.wd ∧ (backF i tk s).nd = s0.nd ∧ (backF i tk s).bl = s0.bl ∧ ∀ p, onB s0.wd (p / 64) = true → (backF i tk s).b p = s0.b p := by
  have P := t.props hi M hw
  obtain ⟨a1, a2, a3, a4, a5⟩ := back_props (i := i) tk s P.nd' P.wlt fun c h => (P.was c h).2.2.2.1
  refine ⟨words_ext a1 hw fun j => ?_, ?_, ?_, fun p hp => by rw [a2]; exact P.by' p hp⟩
  · rw [Bool.eq_iff_iff, a5, P.on]
    constructor
    · rintro ⟨e | ⟨c, e1, e2⟩, e3⟩
      · exact e
      · exact absurd e2 (e3 c e1)
    · intro e
      refine ⟨.inl e, fun c h e2 => ?_⟩
      have := (P.was c h).2.2.2.2.1
      rw [e2, Nat.add_sub_cancel, e] at this
      cases this
  · funext i' c
    rw [a4]
    by_cases e : i' = i ∧ c ∈ tk
    · rw [if_pos e, e.1]
      obtain ⟨w1, w2, w3, _⟩ := P.was c e.2
      rw [M.cell i c hi w2 w3, w1]; rfl
    · rw [if_neg e]; exact P.outn i' c (by by_cases h : i' = i; exact .inr fun h2 => e ⟨h, h2⟩; exact .inl h)
  · funext i' c
    rw [a3]
    by_cases e : i' = i ∧ c ∈ tk
    · rw [if_pos e, e.1, (P.was c e.2).1]
    · rw [if_neg e]; exact P.out i' c (by by_cases h : i' = i; exact .inr fun h2 => e ⟨h, h2⟩; exact .inl h)
theorem fillF_taken : ∀ (cs : List Nat) (s : S4) (tk : List Nat), Taken n i s0 tk s → (∀ c, c ∈ cs → 12 ≤ c ∧ c < 308) → Taken n i s0 (fillF n i cs s tk).2.1 (fillF n i cs s tk).1
  | [], s, tk, t, _ => t
  | c :: cs, s, tk, t, hc => by
    unfold fillF
    by_cases e : 0 < s.bl i c
    · rw [if_pos e]; exact fillF_taken cs s tk t fun c' h => hc c' (by simp [h])
    · rw [if_neg e]
      cases hl : low n s.wd with
      | none => exact t
      | some j =>
        obtain ⟨l1, l2, _⟩ := low_some hl
        exact fillF_taken cs _ _ (.snoc t (by omega) (hc c (by simp)).1 (hc c (by simp)).2 l1 l2) fun c' h => hc c' (by simp [h])
theorem fillF_false : ∀ (cs : List Nat) (s : S4) (tk : List Nat), (fillF n i cs s tk).2.2 = false → (∀ j, j < n → onB (fillF n i cs s tk).1.wd j = true) ∧ (fillF n i cs s tk).2.1.length < tk.length + cs.length
  | [], s, tk, h => by cases h
  | c :: cs, s, tk, h => by
    unfold fillF at h ⊢
    by_cases e : 0 < s.bl i c
    · rw [if_pos e] at h ⊢
      obtain ⟨h1, h2⟩ := fillF_false cs s tk h
      exact ⟨h1, by simp only [List.length_cons]; omega⟩
    · rw [if_neg e] at h ⊢
      cases hl : low n s.wd with
      | none => exact ⟨low_none hl, by simp only [List.length_cons]; omega⟩
      | some j =>
        rw [hl] at h
        obtain ⟨h1, h2⟩ := fillF_false cs _ _ h
        exact ⟨h1, by simp only [List.length_append, List.length_cons, List.length_nil] at h2 ⊢; omega⟩
theorem fillF_true : ∀ (cs : List Nat) (s : S4) (tk : List Nat), (fillF n i cs s tk).2.2 = true → (∀ c, 0 < s.bl i c → 0 < (fillF n i cs s tk).1.bl i c) ∧ (∀ c, c ∈ cs → 0 < (fillF n i cs s tk).1.bl i c)
  | [], s, tk, _ => ⟨fun _ h => h, fun c h => by cases h⟩
  | c :: cs, s, tk, h => by
    unfold fillF at h ⊢
    by_cases e : 0 < s.bl i c
    · rw [if_pos e] at h ⊢
      obtain ⟨h1, h2⟩ := fillF_true cs s tk h
      refine ⟨h1, fun c' hc => ?_⟩
      rcases List.mem_cons.1 hc with rfl | hc
      · exact h1 c' e
      · exact h2 c' hc
    · rw [if_neg e] at h ⊢
      cases hl : low n s.wd with
      | none => rw [hl] at h; cases h
      | some j =>
        rw [hl] at h
        obtain ⟨h1, h2⟩ := fillF_true cs _ _ h
        have h3 : 0 < (s.take i c j).bl i c := by
          show 0 < updB s.bl i c (j + 1) i c
          rw [updB_same]; omega
        refine ⟨fun c' hp => h1 c' ?_, fun c' hc => ?_⟩
        · show 0 < updB s.bl i c (j + 1) i c'
          unfold updB
          split
          · omega
          · exact hp
        · rcases List.mem_cons.1 hc with rfl | hc
          · exact h1 c' h3
          · exact h2 c' hc
end
end Go.Proofs.YtomialandfplkaaDoor.Eva
namespace Go.Proofs.YtomialandfplkaaDoor.Eva
open Go.Xe
set_option linter.unusedSimpArgs false
theorem app_full {P : Program} {h : HW} {t u e sz b k off len lo n : Nat} {y : SV} {olds news : List SV} (T : AppT P t u e sz b) (hm : ∃ m, h.mt k = some m) (ho : h.cells k off (len * sz) = some olds) (he : appElems h.x0 sz y = some (n, news)) (hnl : news.length = n * sz)
    (hone : allOne news = true) (hn : 1 ≤ n) (hc : len + n ≤ 140737488355328) (hcb : (len + n) * b ≤ 140737488355328) :
    ybl P .append #[t, u] [.sl k off len (some len) lo, y] h = some (.sl h.next 0 (len + n) none 0, h.new (looseOb e sz (olds ++ news))) := by
  rw [ybl_append T he hnl hone]
  obtain ⟨m, hm⟩ := hm
  unfold HW.mt at hm
  cases hob : h.objs.get k with
  | none => simp [hob] at hm
  | some o =>
    have b1 : Nat.ble (len + n) len = false := by
      cases hb : Nat.ble (len + n) len with
      | false => rfl
      | true => exact absurd (Nat.le_of_ble_eq_true hb) (by omega)
    have hl : loadN o off (len * sz) = some olds := by rw [loadN_cells hob]; exact ho
    simp only [appTo, HW.x0_objs, hob, force_eq, b1, cond_false, hl]
    exact appNew_hx hc hcb
abbrev gT : Nat := 0
noncomputable def eP : TypeId := match Tryd.prog.underlying 143 with
  | some (.slice e) => e
  | _ => 0
theorem appT_ptr : AppT Tryd.prog 143 143 eP 1 8 :=
  ⟨by kernel_rfl, by kernel_rfl, ⟨.pointer none, by kernel_rfl, rfl⟩, by kernel_rfl, ⟨_, Tryd.underlying143, rfl⟩, Nat.le_refl 1⟩
theorem TabAt.same {h h' : HW} (A : TabAt h) (s : SameOb h h' gT) (hn : h'.ng = h.ng) : TabAt h' := ⟨by rw [hn]; exact A.1, fun i hi => by rw [s.cell]; exact A.2 i hi⟩
theorem TabAt.fr {h h' : HW} {S : Nat → Prop} (A : TabAt h) (F : Frm h h' S) (hn : gT < h.next) (hs : ¬ S gT) : TabAt h' := A.same (F.same _ hn hs) F.ng
def ptrs (kn i : Nat) (cs : List Nat) : List SV := cs.map fun c => SV.ptr kn (i * 308 + c)
structure NotG (T : TN) : Prop where
  s : gT ≠ T.ks
  d : gT ≠ T.kd
  n : gT ≠ T.kn
structure FlSt (h0 h : HW) (T : TN) (n N : Nat) (now : Int) (us : Nat → Bool) (s : S4) (i v3 v8 : Nat) (tk : List Nat) : Prop where
  A : TableAt h T n N s.wd s.b now us s.nd
  M : MapAt n N s.wd s.nd s.bl
  Tt : TabAt h
  F : Frm h0 h (fun j => j = T.ks ∨ j = T.kd ∨ j = T.kn)
  c3 : h.cell v3 0 = some (.ptr T.kt 0)
  n3 : h0.next ≤ v3
  l3 : v3 < h.next
  c8 : ∃ x, h.cell v8 0 = some x ∧ Sl h eP 1 x tk.length (ptrs T.kn i tk) ∧ ∀ j, rowOf x = some j → h0.next ≤ j ∧ j ≠ v3 ∧ j ≠ v8
  w8 : h.wr v8 1
  n8 : h0.next ≤ v8
  l8 : v8 < h.next
  d : v3 ≠ v8
structure OldT (h0 : HW) (T : TN) : Prop where
  t : T.kt < h0.next
  s : T.ks < h0.next
  d : T.kd < h0.next
  n : T.kn < h0.next
  g : gT < h0.next
  ng : NotG T
section
variable {lf : Nat} {h0 h : HW} {T : TN} {n N : Nat} {now : Int} {us : Nat → Bool} {s : S4} {i v3 v8 : Nat} {tk : List Nat}
theorem fl_take {C : YC} (Al : AllocOK C) (O : OldT h0 T) (hi : i < N) (X : FlSt h0 h T n N now us s i v3 v8 tk) {c j : Nat} (h12 : 12 ≤ c) (hc : c < 308) (hl : low n s.wd = some j) (ht : tk.length ≤ 1000) :
    ∃ h1 h2 h3 h4 x x', C (.fn 17) [.ptr T.ks 0] h = some (.ret (.tup [.int .i64 (j : Int), .int .i64 0]), h1) ∧
      st 1 (.ptr T.kn (i * 308 + c)) (.int .i64 ((j + 1 : Nat) : Int)) h1 = some h2 ∧
      h2.cell v8 0 = some x ∧
      ybs Tryd.prog 143 1 [0] [.ptr T.kn (i * 308 + c)] h2 = some (.sl h1.next 0 1 (some 1) 0, h2.new (rowOb eP [.ptr T.kn (i * 308 + c)])) ∧
      ybl Tryd.prog .append #[143, 143] [x, .sl h1.next 0 1 (some 1) 0] (h2.new (rowOb eP [.ptr T.kn (i * 308 + c)])) = some (x', h3) ∧
      st 1 (.ptr v8 0) x' h3 = some h4 ∧ FlSt h0 h4 T n N now us (s.take i c j) i v3 v8 (tk ++ [c]) ∧ h.cell v8 0 = some x ∧ h4.cell v8 0 = some x' ∧ (∀ j, rowOf x' = some j → rowOf x = some j ∨ h.next ≤ j) ∧ h.next ≤ h4.next ∧
      (∀ j, h0.next ≤ j → j < h.next → j ≠ v8 → rowOf x ≠ some j → SameOb h h4 j) := by
  obtain ⟨l1, l2, l3⟩ := low_some hl
  have hn2 := X.A.st.n2
  obtain ⟨h1, e1, S1, F1⟩ := (Al h T.ks T.kd n s.wd s.b X.A.st X.Tt).2 j l1 l2 l3
  have hF := X.F.next
  have skt : SameOb h h1 T.kt := F1.same _ X.A.lt (fun e => by rcases e with e | e; exact X.A.d1 e; exact X.A.d2 e)
  have skn : SameOb h h1 T.kn := F1.same _ X.A.ln (fun e => by rcases e with e | e; exact X.A.d4 e; exact X.A.d5 e)
  have A1 : TableAt h1 T n N (onW s.wd j) (zero64 s.b j) now us s.nd := X.A.store S1 F1.next skt skn
  have s2 := st_node A1 (i := i) (c := c) (y := .int .i64 ((j + 1 : Nat) : Int)) hi hc rfl rfl
  have A2 := A1.setNode (i := i) (c := c) (y := .int .i64 ((j + 1 : Nat) : Int)) hi hc (by omega)
  have F2 : Frm h1 (h1.set T.kn (i * 308 + c) [.int .i64 ((j + 1 : Nat) : Int)]) (· = T.kn) := frm_set rfl
  have nx2 : (h1.set T.kn (i * 308 + c) [.int .i64 ((j + 1 : Nat) : Int)]).next = h1.next := set_next ..
  generalize hg2 : h1.set T.kn (i * 308 + c) [.int .i64 ((j + 1 : Nat) : Int)] = h2 at *
  have s02 : ∀ j, h0.next ≤ j → j < h.next → SameOb h h2 j := fun j hj hl => by
    have o1 := O.s; have o2 := O.d; have o3 := O.n
    have a : SameOb h h1 j := F1.same j hl (fun e => by omega)
    exact (F2.same j (Nat.lt_of_lt_of_le hl F1.next) (fun e => by omega)).trans a
  have n1 := F1.next
  obtain ⟨x, x1, x2, x3⟩ := X.c8
  have c8 : h2.cell v8 0 = some x := by rw [(s02 v8 X.n8 X.l8).cell]; exact x1
  have hS : Sl h2 eP 1 x tk.length (ptrs T.kn i tk) := x2.frame (by omega) fun k hk => s02 k (x3 k hk).1 (x2.row_lt hk)
  obtain ⟨x', h3, a1, a2, a3, a4, a5, a6, a7, a8⟩ := app_one (y := .ptr T.kn (i * 308 + c)) appT_ptr rfl rfl rfl hS (by omega) (by omega)
  rw [nx2] at a1 a2
  have s23 : ∀ j, j < h2.next → rowOf x ≠ some j → SameOb h2 h3 j := a6
  have hnr : ∀ j, j = v3 ∨ j = v8 ∨ j < h0.next → rowOf x ≠ some j := fun j hj e => by have := x3 j e; omega
  have l8' := X.l8
  have l3' := X.l3
  have w3 : h3.wr v8 1 := wr_same (wr_same X.w8 (s02 v8 X.n8 X.l8)) (s23 v8 (by omega) (hnr _ (.inr (.inl rfl))))
  have hone : allOne [x'] = true := by rcases a3.2 with ⟨rfl, _⟩ | ⟨_, rfl, _⟩ <;> rfl
  have hcx : x'.cells = [x'] := by rcases a3.2 with ⟨rfl, _⟩ | ⟨_, rfl, _⟩ <;> rfl
  have st4 := st_ptr (n := 1) (off := 0) (y := x') w3 (by rw [hcx]; rfl) (by omega) (by rw [hcx]; exact hone)
  rw [hcx] at st4
  have F4 : Frm h3 (h3.set v8 0 [x']) (· = v8) := frm_set rfl
  generalize hg4 : h3.set v8 0 [x'] = h4 at *
  have n4 : h4.next = h3.next := by rw [← hg4, set_next]
  have s34 : ∀ j, j ≠ v8 → SameOb h3 h4 j := fun j hj => by rw [← hg4]; exact set_other _ _ _ hj
  have s24 : ∀ j, j < h2.next → rowOf x ≠ some j → j ≠ v8 → SameOb h2 h4 j := fun j h1 h2 h3 => (s34 j h3).trans (s23 j h1 h2)
  have old : ∀ j, j < h0.next → SameOb h2 h4 j := fun j hj => s24 j (by omega) (hnr j (.inr (.inr hj))) (by have := X.n8; omega)
  have c4 : h4.cell v8 0 = some x' := by rw [← hg4, cell_set_same w3 (by simp) (Nat.zero_le _) (by simp)]; rfl
  refine ⟨h1, h2, h3, h4, x, x', e1, s2, c8, a1, a2, st4, ⟨?_, X.M.take X.A.st.wlt hi h12 hc l1 l2, ?_, ?_, ?_, X.n3, by omega, ⟨x', c4, ?_, fun j hj => ?_⟩, ?_, X.n8, by omega, X.d⟩, x1, c4, fun j hj => (a7 j hj).imp id fun e => by omega, by omega, fun j h1 h2 h3 h4 => (s24 j (by omega) h4 h3).trans (s02 j h1 h2)⟩
  · exact A2.frame (by omega) fun j hj => old j (by rcases hj with rfl | rfl | rfl | rfl; exact O.t; exact O.s; exact O.d; exact O.n)
  · have t1 := X.Tt.fr F1 (by have := O.g; omega) (fun e => by rcases e with e | e; exact O.ng.s e; exact O.ng.d e)
    have t2 := t1.fr F2 (by have := O.g; omega) (fun e => O.ng.n e)
    exact t2.same (old gT O.g) (by
      have : h4.ng = h2.ng := F4.ng.trans a5
      exact this)
  · refine ⟨F4.ng.trans (a5.trans (F2.ng.trans (F1.ng.trans X.F.ng))), by omega, fun j hj hn => ?_, fun hf => F4.fr (a8 (F2.fr (F1.fr (X.F.fr hf))))⟩
    have b1 := X.F.same j hj hn
    have b2 : SameOb h h1 j := F1.same j (by omega) (fun e => hn (by rcases e with e | e; exact .inl e; exact .inr (.inl e)))
    have b3 : SameOb h1 h2 j := F2.same j (by omega) (fun e => hn (.inr (.inr e)))
    exact (old j hj).trans (b3.trans (b2.trans b1))
  · rw [(s24 v3 (by omega) (hnr _ (.inl rfl)) X.d).cell, (s02 v3 X.n3 X.l3).cell]; exact X.c3
  · have : ptrs T.kn i (tk ++ [c]) = ptrs T.kn i tk ++ [.ptr T.kn (i * 308 + c)] := by simp [ptrs]
    rw [this, List.length_append]
    exact a3.frame (by omega) fun k hk => s34 k (by rcases a7 k hk with e | e; exact (x3 k e).2.2; omega)
  · rcases a7 j hj with e | e
    · exact x3 j e
    · have := X.n8; have := X.n3; omega
  · rw [← hg4]; exact wr_set w3
theorem ptrs_get (kn i : Nat) (cs : List Nat) {t : Nat} (ht : t < cs.length) : (ptrs kn i cs)[t]? = some (.ptr kn (i * 308 + cs[t])) := by simp [ptrs, ht]
theorem backF_step {tk : List Nat} {t : Nat} (ht : t < tk.length) : backF i (tk.take (t + 1)) s = (backF i (tk.take t) s).back i tk[t] := by
  unfold backF
  rw [List.take_succ_eq_append_getElem ht, List.foldl_append]; rfl
theorem back_loop {C : YC} (Fr : FreeOK C) (O : OldT h0 T) (hi : i < N) {x : SV} {q : Nat} (hq : tk = [] ∨ x = .sl q 0 tk.length none 0) (hnd : tk.Nodup) (hin : ∀ c, c ∈ tk → 12 ≤ c ∧ c < 308 ∧ 0 < s.bl i c) (hlen : tk.length ≤ 1000) (hqn : q ≠ T.ks ∧ q ≠ T.kn ∧ q ≠ v3) (hv : v3 ≠ T.ks ∧ v3 ≠ T.kn) (e0 : K0) :
    ∀ (d t : Nat), t + d = tk.length → ∀ f, d < f → ∀ h, TableAt h T n N (backF i (tk.take t) s).wd (backF i (tk.take t) s).b now us (backF i (tk.take t) s).nd → MapAt n N (backF i (tk.take t) s).wd (backF i (tk.take t) s).nd (backF i (tk.take t) s).bl →
    h.cell v3 0 = some (.ptr T.kt 0) → v3 < h.next → (∀ j, j < tk.length → q < h.next ∧ h.cell q j = (ptrs T.kn i tk)[j]?) →
    ∃ h', lp (l90_0 C lf e0) f (some (.ptr v3 0), some x, some (.int .i64 (tk.length : Int)), some (.int .i64 (t : Int))) h = e0 h' ∧ TableAt h' T n N (backF i tk s).wd (backF i tk s).b now us (backF i tk s).nd ∧ MapAt n N (backF i tk s).wd (backF i tk s).nd (backF i tk s).bl ∧ Frm h h' (fun j => j = T.ks ∨ j = T.kn)
  | 0, t, hw, f, hf, h, A, M, c3, l3, hc => by
    obtain ⟨f, rfl⟩ : ∃ g, f = g + 1 := ⟨f - 1, by omega⟩
    have : t = tk.length := by omega
    subst this
    rw [List.take_length] at A M
    refine ⟨h, ?_, A, M, Frm.refl _ _⟩
    rw [lp_succ]
    unfold l90_0 q90_21
    have hlt : decide ((tk.length : Int) < (tk.length : Int)) = false := by simp
    simp only [ob_some, b2_some, bc_ret, bcn_ret, gd_tt, gd_ff, gd_tf, gd_ft, ypk_true, ypk_false, yIf_true, yIf_false, semNil_ptr, fa_ptr, ld1_ptr, ext_tup, fd1_agg, un_not, bin_add, bin_sub, bin_mul, bin_eql, bin_neq, bin_lss, bin_leq, bin_gtr, bin_geq, Nat.zero_add, Nat.mul_one, hlt]
  | d + 1, t, hw, f, hf, h, A, M, c3, l3, hc => by
    obtain ⟨f, rfl⟩ : ∃ g, f = g + 1 := ⟨f - 1, by omega⟩
    have ht : t < tk.length := by omega
    have hx : x = .sl q 0 tk.length none 0 := by
      rcases hq with e | e
      · rw [e] at ht; simp at ht
      · exact e
    subst hx
    have hlt : decide ((t : Int) < (tk.length : Int)) = true := decide_eq_true (by omega)
    have hinc : IntKind.i64.wrap ((t : Int) + 1) = ((t + 1 : Nat) : Int) := by rw [wrap_i64 (by omega) (by omega)]; omega
    have hix := ixS_sl (s := 1) (k := q) (off := 0) (len := tk.length) (lo := 0) (cap := none) (kd := .i64) (i := (t : Int)) (by omega) (by omega)
    rw [Int.toNat_natCast, Nat.mul_one, Nat.zero_add] at hix
    have hcell := (hc t ht).2
    rw [ptrs_get _ _ _ ht] at hcell
    have hmem : tk[t] ∈ tk := List.getElem_mem ht
    obtain ⟨b1, b2, b3⟩ := hin _ hmem
    generalize hcc : tk[t] = c at *
    -- what the cell leads to is as it was
    have hnot : c ∉ tk.take t := fun e => by
      obtain ⟨k, hk, e2⟩ := List.getElem_of_mem e
      rw [List.length_take] at hk
      rw [List.getElem_take] at e2
      exact absurd (e2.trans hcc.symm) (List.pairwise_iff_getElem.1 hnd k t (by omega) ht (by omega))
    have hblc : (backF i (tk.take t) s).bl i c = s.bl i c := by
      have : ∀ (l : List Nat) (s : S4), c ∉ l → (backF i l s).bl i c = s.bl i c := by
        intro l
        induction l with
        | nil => intro s _; rfl
        | cons a l ih =>
          intro s h
          show (backF i l (s.back i a)).bl i c = _
          rw [ih _ (fun e => h (by simp [e]))]
          exact updB_ne _ _ (.inr fun e => h (by simp [e]))
      exact this _ s hnot
    have step := backF_step (i := i) (s := s) ht
    rw [hcc] at step
    generalize hs1 : backF i (tk.take t) s = s1 at *
    have hle := M.le i c
    have hon := M.on i c hi b1 b2 (by omega)
    have hcv := A.cn i c hi b2
    rw [M.cell i c hi b1 b2] at hcv
    have hn2 := A.st.n2
    have hs : IntKind.i64.wrap ((s1.bl i c : Int) - 1) = ((s1.bl i c - 1 : Nat) : Int) := by rw [wrap_i64 (by omega) (by omega)]; omega
    have hinu : inUse n s1.wd ((s1.bl i c - 1 : Nat) : Int) = true := by
      simp only [inUse, Int.toNat_natCast, hon, Bool.and_true, Bool.and_eq_true, decide_eq_true_eq]; omega
    obtain ⟨h1, e1, S1, F1⟩ := (Fr h T.ks T.kd n s1.wd s1.b ((s1.bl i c - 1 : Nat) : Int) A.st (by omega) (by omega)).2 hinu
    rw [Int.toNat_natCast] at S1
    have A1 := A.store S1 F1.next (F1.same _ A.lt (fun e => A.d1 e)) (F1.same _ A.ln (fun e => A.d4 e))
    have hst := st_node A1 (i := i) (c := c) (y := .int .i64 0) hi b2 rfl rfl
    have A2 := A1.setNode (i := i) (c := c) (y := .int .i64 0) hi b2 (by omega)
    have M2 := M.drop A.st.wlt hi b1 b2 (by omega)
    have F2 : Frm h1 (h1.set T.kn (i * 308 + c) [.int .i64 0]) (· = T.kn) := frm_set rfl
    have F12 : Frm h (h1.set T.kn (i * 308 + c) [.int .i64 0]) (fun j => j = T.ks ∨ j = T.kn) := (F1.weak fun _ e => .inl e).trans (F2.weak fun _ e => .inr e)
    generalize hg2 : h1.set T.kn (i * 308 + c) [.int .i64 0] = h2 at *
    have A2' : TableAt h2 T n N (backF i (tk.take (t + 1)) s).wd (backF i (tk.take (t + 1)) s).b now us (backF i (tk.take (t + 1)) s).nd := by rw [step]; exact A2
    have M2' : MapAt n N (backF i (tk.take (t + 1)) s).wd (backF i (tk.take (t + 1)) s).nd (backF i (tk.take (t + 1)) s).bl := by rw [step]; exact M2
    obtain ⟨h', r1, r2, r3, r4⟩ := back_loop Fr O hi (.inr rfl) hnd hin hlen hqn hv e0 d (t + 1) (by omega) f (by omega) h2 A2' M2'
      (by rw [(F12.same v3 l3 (fun e => by rcases e with e | e; exact hv.1 e; exact hv.2 e)).cell]; exact c3) (Nat.lt_of_lt_of_le l3 F12.next)
      (fun j hj => ⟨Nat.lt_of_lt_of_le (hc j hj).1 F12.next, by rw [(F12.same q (hc j hj).1 (fun e => by rcases e with e | e; exact hqn.1 e; exact hqn.2.1 e)).cell]; exact (hc j hj).2⟩)
    refine ⟨h', ?_, r2, r3, F12.trans r4⟩
    rw [lp_succ]
    show q90_21 C lf (fun x1 x4 x5 x6 h => lp (l90_0 C lf e0) f (x1, x4, x5, x6) h) e0 (some (.ptr v3 0)) (some (.sl q 0 tk.length none 0)) (some (.int .i64 (tk.length : Int))) (some (.int .i64 (t : Int))) h = _
    unfold q90_21
    simp only [ob_some, b2_some, bc_ret, bcn_ret, gd_tt, gd_ff, gd_tf, gd_ft, ypk_true, ypk_false, yIf_true, yIf_false, semNil_ptr, fa_ptr, ld1_ptr, ext_tup, fd1_agg, un_not, bin_add, bin_sub, bin_mul, bin_eql, bin_neq, bin_lss, bin_leq, bin_gtr, bin_geq, Nat.zero_add, Nat.mul_one, hlt, hix, hcell, c3, A.c0, hcv, hs, e1, hst, hinc]
    exact r1
def BackOK (C : YC) : Prop := ∀ h0 h T n N now us s i v3 v8 tk, OldT h0 T → i < N → FlSt h0 h T n N now us s i v3 v8 tk → tk.Nodup → (∀ c, c ∈ tk → 12 ≤ c ∧ c < 308 ∧ 0 < s.bl i c) → tk.length ≤ 1000 →
  ∃ h', C (.fn 90) [.ptr v8 0, .ptr v3 0] h = some (.ret (.tup []), h') ∧ TableAt h' T n N (backF i tk s).wd (backF i tk s).b now us (backF i tk s).nd ∧ MapAt n N (backF i tk s).wd (backF i tk s).nd (backF i tk s).bl ∧ Frm h h' (fun j => j = T.ks ∨ j = T.kn)
theorem back_ok {C : YC} (hlf : 1001 ≤ lf) (Fr : FreeOK C) (O : OldT h0 T) (hi : i < N) (X : FlSt h0 h T n N now us s i v3 v8 tk) (hnd : tk.Nodup) (hin : ∀ c, c ∈ tk → 12 ≤ c ∧ c < 308 ∧ 0 < s.bl i c) (hlen : tk.length ≤ 1000) :
    ∃ h', fs90 C lf (.ptr v8 0) (.ptr v3 0) h = some (.ret (.tup []), h') ∧ TableAt h' T n N (backF i tk s).wd (backF i tk s).b now us (backF i tk s).nd ∧ MapAt n N (backF i tk s).wd (backF i tk s).nd (backF i tk s).bl ∧ Frm h h' (fun j => j = T.ks ∨ j = T.kn) := by
  obtain ⟨x, x1, x2, x3⟩ := X.c8
  have o1 := O.s
  have o2 := O.n
  have n3 := X.n3
  have hlx : lenE Tryd.prog 143 x = some (.int .i64 (tk.length : Int)) := by
    rcases x2.2 with ⟨rfl, h1⟩ | ⟨k, rfl, _⟩
    · rw [h1]; simp [lenE, Tryd.underlying143, forceI_eq]
    · simp [lenE, Tryd.underlying143]
  obtain ⟨q, hq, hqn, hqc⟩ : ∃ q, (tk = [] ∨ x = .sl q 0 tk.length none 0) ∧ (q ≠ T.ks ∧ q ≠ T.kn ∧ q ≠ v3) ∧ ∀ j, j < tk.length → q < h.next ∧ h.cell q j = (ptrs T.kn i tk)[j]? := by
    rcases x2.2 with ⟨_, h1⟩ | ⟨k, rfl, hk⟩
    · exact ⟨v8, .inl (List.length_eq_zero_iff.1 h1), ⟨by have := X.n8; omega, by have := X.n8; omega, fun e => X.d e.symm⟩, fun j hj => by omega⟩
    · have := x3 k rfl
      exact ⟨k, .inr rfl, ⟨by omega, by omega, this.2.1⟩, fun j hj => ⟨hk.lt, hk.cs j (by omega)⟩⟩
  obtain ⟨h', r1, r2, r3, r4⟩ := back_loop (lf := lf) (s := s) Fr O hi hq hnd hin hlen hqn ⟨by omega, by omega⟩ ff90 tk.length 0 (by omega) lf (by omega) h X.A X.M X.c3 X.l3 hqc
  refine ⟨h', ?_, r2, r3, r4⟩
  unfold fs90 q90_26 q90_25
  simp only [ob_some, b2_some, bc_ret, bcn_ret, gd_tt, gd_ff, gd_tf, gd_ft, ypk_true, ypk_false, yIf_true, yIf_false, semNil_ptr, fa_ptr, ld1_ptr, ext_tup, fd1_agg, un_not, bin_add, bin_sub, bin_mul, bin_eql, bin_neq, bin_lss, bin_leq, bin_gtr, bin_geq, Nat.zero_add, Nat.mul_one, x1, hlx]
  exact r1
theorem fill_loop {C : YC} (Al : AllocOK C) (O : OldT h0 T) (hi : i < N) {kx : Nat} {cs0 : List Nat} (hcs : ∀ c, c ∈ cs0 → 12 ≤ c ∧ c < 308) (hl0 : cs0.length ≤ 500) (hkx : h0.next ≤ kx ∧ kx ≠ v8) (clo : SV) (r : K1) (e1 : K0) :
    ∀ (cs : List Nat) (t : Nat), cs0.drop t = cs → t ≤ cs0.length → ∀ f, cs.length < f → ∀ h s tk, FlSt h0 h T n N now us s i v3 v8 tk → tk.length ≤ t → kx < h.next → (∀ j, j < cs0.length → h.cell kx j = (ptrs T.kn i cs0)[j]?) → (∀ j, rowOf (((h.cell v8 0).getD (.bool true))) = some j → j ≠ kx) →
    ∃ h', FlSt h0 h' T n N now us (fillF n i cs s tk).1 i v3 v8 (fillF n i cs s tk).2.1 ∧
      lp (l75_2 C lf r e1) f (some (.ptr v3 0), some (.ptr v8 0), some clo, some (.sl kx 0 cs0.length none 0), some (.int .i64 (cs0.length : Int)), some (.int .i64 (t : Int))) h =
        (if (fillF n i cs s tk).2.2 = true then e1 h' else cv false C clo [] h' fun _ h25 => r (some (.bool false)) h25)
  | [], t, hd, ht, f, hf, h, s, tk, X, hle, lkx, hc, _ => by
    obtain ⟨f, rfl⟩ : ∃ g, f = g + 1 := ⟨f - 1, by omega⟩
    have : t = cs0.length := by
      have := congrArg List.length hd
      rw [List.length_drop] at this
      simp at this; omega
    subst this
    refine ⟨h, X, ?_⟩
    show _ = e1 h
    rw [lp_succ]
    unfold l75_2 q75_37
    have hlt : decide ((cs0.length : Int) < (cs0.length : Int)) = false := by simp
    simp only [ob_some, b2_some, bc_ret, bcn_ret, gd_tt, gd_ff, gd_tf, gd_ft, ypk_true, ypk_false, yIf_true, yIf_false, semNil_ptr, fa_ptr, ld1_ptr, ext_tup, fd1_agg, un_not, bin_add, bin_sub, bin_mul, bin_eql, bin_neq, bin_lss, bin_leq, bin_gtr, bin_geq, Nat.zero_add, Nat.mul_one, hlt]
  | c :: cs, t, hd, ht, f, hf, h, s, tk, X, hle, lkx, hc, hrx => by
    obtain ⟨f, rfl⟩ : ∃ g, f = g + 1 := ⟨f - 1, by simp at hf; omega⟩
    have htl : t < cs0.length := by
      have := congrArg List.length hd
      rw [List.length_drop] at this
      simp at this; omega
    have hct : cs0[t] = c := by
      have := congrArg (·[0]?) hd
      simp [List.getElem?_drop, htl] at this
      exact this
    have hd' : cs0.drop (t + 1) = cs := by
      rw [← List.tail_drop, hd]; rfl
    obtain ⟨b1, b2⟩ := hcs c (by rw [← hct]; exact List.getElem_mem htl)
    have hlt : decide ((t : Int) < (cs0.length : Int)) = true := decide_eq_true (by omega)
    have hinc : IntKind.i64.wrap ((t : Int) + 1) = ((t + 1 : Nat) : Int) := by rw [wrap_i64 (by omega) (by omega)]; omega
    have hix := ixS_sl (s := 1) (k := kx) (off := 0) (len := cs0.length) (lo := 0) (cap := none) (kd := .i64) (i := (t : Int)) (by omega) (by omega)
    rw [Int.toNat_natCast, Nat.mul_one, Nat.zero_add] at hix
    have hcell := hc t htl
    rw [ptrs_get _ _ _ htl, hct] at hcell
    have hcv := X.A.cn i c hi b2
    rw [X.M.cell i c hi b1 b2] at hcv
    rw [lp_succ]
    show ∃ h', _ ∧ q75_37 C lf (fun x3 x8 x9 x50 x51 x52 h => lp (l75_2 C lf r e1) f (x3, x8, x9, x50, x51, x52) h) r e1 (some (.ptr v3 0)) (some (.ptr v8 0)) (some clo) (some (.sl kx 0 cs0.length none 0)) (some (.int .i64 (cs0.length : Int))) (some (.int .i64 (t : Int))) h = _
    unfold q75_37
    by_cases hp : 0 < s.bl i c
    · have hd1 : decide ((0 : Int) < (s.bl i c : Int)) = true := decide_eq_true (by omega)
      have hff : fillF n i (c :: cs) s tk = fillF n i cs s tk := by
        rw [fillF, if_pos hp]
      rw [hff]
      obtain ⟨h', r1, r2⟩ := fill_loop Al O hi hcs hl0 hkx clo r e1 cs (t + 1) hd' (by omega) f (by simp at hf; omega) h s tk X (by omega) lkx hc hrx
      refine ⟨h', r1, ?_⟩
      simp only [ob_some, b2_some, bc_ret, bcn_ret, gd_tt, gd_ff, gd_tf, gd_ft, ypk_true, ypk_false, yIf_true, yIf_false, semNil_ptr, fa_ptr, ld1_ptr, ext_tup, fd1_agg, un_not, bin_add, bin_sub, bin_mul, bin_eql, bin_neq, bin_lss, bin_leq, bin_gtr, bin_geq, Nat.zero_add, Nat.mul_one, hlt, hix, hcell, hcv, hd1, hinc]
      exact r2
    · have hz : s.bl i c = 0 := by omega
      have hd1 : decide ((0 : Int) < (s.bl i c : Int)) = false := decide_eq_false (by omega)
      cases hl : low n s.wd with
      | none =>
        have hff : fillF n i (c :: cs) s tk = (s, tk, false) := by rw [fillF, if_neg hp, hl]
        rw [hff]
        have e1 := (Al h T.ks T.kd n s.wd s.b X.A.st X.Tt).1 (low_none hl)
        have hne : decide ((28 : Int) ≠ 0) = true := rfl
        refine ⟨h, X, ?_⟩
        simp only [ob_some, b2_some, bc_ret, bcn_ret, gd_tt, gd_ff, gd_tf, gd_ft, ypk_true, ypk_false, yIf_true, yIf_false, semNil_ptr, fa_ptr, ld1_ptr, ext_tup, fd1_agg, un_not, bin_add, bin_sub, bin_mul, bin_eql, bin_neq, bin_lss, bin_leq, bin_gtr, bin_geq, Nat.zero_add, Nat.mul_one, hlt, hix, hcell, hcv, hd1, X.c3, X.A.c0, e1, List.getElem?_cons_zero, List.getElem?_cons_succ, hne]
        rfl
      | some j =>
        have hff : fillF n i (c :: cs) s tk = fillF n i cs (s.take i c j) (tk ++ [c]) := by rw [fillF, if_neg hp, hl]
        rw [hff]
        have hjn := (low_some hl).1
        have hn2 := X.A.st.n2
        obtain ⟨h1, h2, h3, h4, x, x', e1', s2, c8, a1, a2, st4, X4, y1, y2, y3, y4, y5⟩ := fl_take Al O hi X b1 b2 hl (by omega)
        have hne : decide ((0 : Int) ≠ 0) = false := rfl
        have hadd : IntKind.i64.wrap ((j : Int) + 1) = ((j + 1 : Nat) : Int) := by rw [wrap_i64 (by omega) (by omega)]; omega
        obtain ⟨k1, k2, k3⟩ : kx < h4.next ∧ (∀ j, j < cs0.length → h4.cell kx j = (ptrs T.kn i cs0)[j]?) ∧ (∀ j, rowOf (((h4.cell v8 0).getD (.bool true))) = some j → j ≠ kx) := by
          rw [y1] at hrx
          have hne : rowOf x ≠ some kx := fun e => hrx kx e rfl
          have sk := y5 kx hkx.1 lkx hkx.2 hne
          refine ⟨by omega, fun j hj => by rw [sk.cell]; exact hc j hj, fun j hj => ?_⟩
          rw [y2] at hj
          rcases y3 j hj with e | e
          · exact hrx j e
          · omega
        obtain ⟨h', r1, r2⟩ := fill_loop Al O hi hcs hl0 hkx clo r e1 cs (t + 1) hd' (by omega) f (by simp at hf; omega) h4 (s.take i c j) (tk ++ [c]) X4 (by simp; omega) k1 k2 k3
        refine ⟨h', r1, ?_⟩
        simp only [ob_some, b2_some, bc_ret, bcn_ret, gd_tt, gd_ff, gd_tf, gd_ft, ypk_true, ypk_false, yIf_true, yIf_false, semNil_ptr, fa_ptr, ld1_ptr, ext_tup, fd1_agg, un_not, bin_add, bin_sub, bin_mul, bin_eql, bin_neq, bin_lss, bin_leq, bin_gtr, bin_geq, Nat.zero_add, Nat.mul_one, hlt, hix, hcell, hcv, hd1, X.c3, X.A.c0, e1', List.getElem?_cons_zero, List.getElem?_cons_succ, hne, hadd, s2, c8, a1, a2, st4, hinc]
        exact r2
end
end Go.Proofs.YtomialandfplkaaDoor.Eva
namespace Go.Proofs.YtomialandfplkaaDoor.Eva
open Go.Xe
set_option linter.unusedSimpArgs false
def needC (k : Nat) : List Nat := if k < 6 then [plOff k] else if k < 22 then [18, plOff k] else [35, 36 + 17 * ((k - 22) / 16), plOff k]
def wantC (k : Nat) : List Nat := if k < 6 then [] else if k < 22 then [18] else [35, 36 + 17 * ((k - 22) / 16)]
theorem needC_want (k : Nat) : needC k = wantC k ++ [plOff k] := by
  unfold needC wantC
  split
  · rfl
  · split <;> rfl
theorem plOff_lt {k : Nat} (h : k < 278) : 12 ≤ plOff k ∧ plOff k < 308 := by
  unfold plOff; split
  · omega
  · split
    · omega
    · have := Nat.div_add_mod (k - 22) 16
      have := Nat.mod_lt (k - 22) (show 16 > 0 by omega)
      omega
theorem needC_lt {k : Nat} (h : k < 278) : ∀ c, c ∈ needC k → 12 ≤ c ∧ c < 308 := by
  intro c hc
  have := plOff_lt h
  unfold needC at hc
  split at hc
  · simp only [List.mem_cons, List.not_mem_nil, or_false] at hc; subst hc; exact this
  · split at hc
    · simp only [List.mem_cons, List.not_mem_nil, or_false] at hc
      rcases hc with rfl | rfl
      · omega
      · exact this
    · simp only [List.mem_cons, List.not_mem_nil, or_false] at hc
      rcases hc with rfl | rfl | rfl
      · omega
      · omega
      · exact this
theorem needC_len (k : Nat) : (needC k).length ≤ 3 := by unfold needC; split <;> (try split) <;> simp
def fillR (n i k : Nat) (s : S4) : S4 × Bool := if 0 < s.bl i (plOff k) then (s, true) else
  if (fillF n i (needC k) s []).2.2 = true then ((fillF n i (needC k) s []).1, true) else (⟨s.wd, (fillF n i (needC k) s []).1.b, s.nd, s.bl⟩, false)
theorem ybs_two {P : Program} {h : HW} {t e : TypeId} {z : Value} {y0 y1 : SV} (hu : P.underlying t = some (.slice e)) (hs : tySize P e = some 1) (hz : tyZero P e = some z) (hzl : (mkV z).cells.length = 1) (h0 : y0.cells = [y0]) (f0 : y0.flat = true) (h1 : y1.cells = [y1]) (f1 : y1.flat = true) :
    ybs P t 2 [0, 1] [y0, y1] h = some (.sl h.next 0 2 (some 2) 0, h.new (rowOb e [y0, y1])) := by
  obtain ⟨c, hc⟩ : ∃ c, (mkV z).cells = [c] := by
    match hm : (mkV z).cells, hzl with
    | [c], _ => exact ⟨c, rfl⟩
  unfold ybs semBuildSlice
  have q1 : (Nat.ble (2 * 1) 65536 && Nat.ble 1 1 && Nat.beq [c].length 1) = true := rfl
  have q2 : fillL (fun i => some (i * 1, 1)) (reps [c] 2) ([0, 1].zip [y0, y1]) = some [y0, y1] := by
    simp [reps, fillL, splice, h0, f0, h1, f1, show Nat.ble 1 1 = true from rfl, show Nat.ble 1 2 = true from rfl, show Nat.ble 2 2 = true from rfl]
  simp only [hu, hs, hz, hc, q1, cond_true, q2, newRow, force_eq]
  rfl
section
variable {lf : Nat} {h : HW} {T : TN} {n N : Nat} {now : Int} {us : Nat → Bool} {s : S4} {i : Nat}
theorem want_app {x7 : SV} {kn : Nat} {wcs : List Nat} (c : Nat) (hw : (x7 = .val (.slice none 0 0) ∧ wcs = []) ∨ ∃ kw m, x7 = .sl kw 0 wcs.length (some wcs.length) 0 ∧ h.mt kw = some m ∧ kw < h.next ∧ (∀ j, j < wcs.length → h.cell kw j = (ptrs kn i wcs)[j]?)) (hl : wcs.length ≤ 2) :
    ∃ h', ybs Tryd.prog 143 1 [0] [.ptr kn (i * 308 + c)] h = some (.sl h.next 0 1 (some 1) 0, h.new (rowOb eP [.ptr kn (i * 308 + c)])) ∧
      ybl Tryd.prog .append #[143, 143] [x7, .sl h.next 0 1 (some 1) 0] (h.new (rowOb eP [.ptr kn (i * 308 + c)])) = some (.sl (h.next + 1) 0 (wcs ++ [c]).length none 0, h') ∧ h'.next = h.next + 2 ∧
      (∀ j, j < (wcs ++ [c]).length → h'.cell (h.next + 1) j = (ptrs kn i (wcs ++ [c]))[j]?) ∧ Frm h h' (fun _ => False) := by
  obtain ⟨z, hz, hzl⟩ := appT_ptr.hz
  have hb := ybs_one (h := h) (y := .ptr kn (i * 308 + c)) appT_ptr.hu appT_ptr.hs hz hzl rfl rfl
  have hel := elems_row (h := h) (y := .ptr kn (i * 308 + c)) (e := eP)
  generalize ho : rowOb eP [.ptr kn (i * 308 + c)] = o at *
  have F1 := frm_new h o (fun _ => False)
  have n1 : (h.new o).next = h.next + 1 := new_next ..
  have e1 : ptrs kn i (wcs ++ [c]) = ptrs kn i wcs ++ [.ptr kn (i * 308 + c)] := by simp [ptrs]
  have hpl : (ptrs kn i wcs).length = wcs.length := by simp [ptrs]
  have fin : ∀ cells : List SV, cells = ptrs kn i (wcs ++ [c]) → ∃ h', (some (SV.sl (h.new o).next 0 (wcs.length + 1) none 0, (h.new o).new (looseOb eP 1 cells)) : Option (SV × HW)) = some (.sl (h.next + 1) 0 (wcs ++ [c]).length none 0, h') ∧ h'.next = h.next + 2 ∧
      (∀ j, j < (wcs ++ [c]).length → h'.cell (h.next + 1) j = (ptrs kn i (wcs ++ [c]))[j]?) ∧ Frm h h' (fun _ => False) := fun cells hc => by
    refine ⟨(h.new o).new (looseOb eP 1 cells), by rw [n1]; simp, by rw [new_next, n1], fun j _ => ?_, F1.trans (frm_new _ _ _)⟩
    rw [← n1, cell_new_same, looseOb_get, hc]
  rcases hw with ⟨rfl, rfl⟩ | ⟨kw, m, rfl, hm, hk, hc⟩
  · have := app_nil (P := Tryd.prog) (h := h.new o) (y := .sl h.next 0 1 (some 1) 0) appT_ptr hel rfl rfl (Nat.le_refl 1) (by omega) (by omega)
    obtain ⟨h', q1, q2⟩ := fin [.ptr kn (i * 308 + c)] (by simp [ptrs])
    exact ⟨h', hb, by rw [this]; exact q1, q2⟩
  · have hs : SameOb h (h.new o) kw := new_other h o (by omega)
    have hcs : (h.new o).cells kw 0 (wcs.length * 1) = some (ptrs kn i wcs) := cells_of (by rw [hpl, Nat.mul_one]) fun j hj => by
      rw [Nat.zero_add, hs.cell]; exact hc j (by omega)
    have := app_full (P := Tryd.prog) (h := h.new o) (y := .sl h.next 0 1 (some 1) 0) (lo := 0) appT_ptr ⟨m, by rw [hs.mt]; exact hm⟩ hcs hel rfl rfl (Nat.le_refl 1) (by omega) (by omega)
    obtain ⟨h', q1, q2⟩ := fin _ e1.symm
    exact ⟨h', hb, by rw [this]; exact q1, q2⟩
def FillOK (C : YC) : Prop := ∀ h T n N now us s i (k : Nat), TableAt h T n N s.wd s.b now us s.nd → MapAt n N s.wd s.nd s.bl → TabAt h → OldT h T → i < N → k < 278 →
  ∃ h', C (.fn 75) [.ptr T.kt 0, .ptr T.kn (i * 308), .int .i64 (k : Int)] h = some (.ret (.bool (fillR n i k s).2), h') ∧ TableAt h' T n N (fillR n i k s).1.wd (fillR n i k s).1.b now us (fillR n i k s).1.nd ∧
    MapAt n N (fillR n i k s).1.wd (fillR n i k s).1.nd (fillR n i k s).1.bl ∧ TabAt h' ∧ Frm h h' (fun j => j = T.ks ∨ j = T.kd ∨ j = T.kn)
theorem fill_ok {C : YC} (hlf : 1001 ≤ lf) (Pl : PlaceOK C) (Al : AllocOK C) (Bk : BackOK C) (A : TableAt h T n N s.wd s.b now us s.nd) (M : MapAt n N s.wd s.nd s.bl) (Tt : TabAt h) (O : OldT h T) (hi : i < N) {k : Nat} (hk : k < 278) :
    ∃ h', fs75 C lf (.ptr T.kt 0) (.ptr T.kn (i * 308)) (.int .i64 (k : Int)) h = some (.ret (.bool (fillR n i k s).2), h') ∧ TableAt h' T n N (fillR n i k s).1.wd (fillR n i k s).1.b now us (fillR n i k s).1.nd ∧
      MapAt n N (fillR n i k s).1.wd (fillR n i k s).1.nd (fillR n i k s).1.bl ∧ TabAt h' ∧ Frm h h' (fun j => j = T.ks ∨ j = T.kd ∨ j = T.kn) := by
  obtain ⟨p1, p2⟩ := plOff_lt hk
  have hbx := ybx_eq (e := 64) (x := .ptr T.kt 0) (h := h) rfl
  have hcc : (SV.ptr T.kt 0).cells = [.ptr T.kt 0] := rfl
  rw [hcc] at hbx
  generalize ho1 : rowOb 64 [.ptr T.kt 0] = o1 at *
  generalize hg1 : h.new o1 = h1 at *
  have n1 : h1.next = h.next + 1 := by rw [← hg1, new_next]
  have F1 : Frm h h1 (fun _ => False) := by rw [← hg1]; exact frm_new _ _ _
  have A1 := A.frm F1 fun _ e => e.elim
  have Tt1 : TabAt h1 := Tt.fr F1 O.g (fun e => e)
  have cv3 : h1.cell h.next 0 = some (.ptr T.kt 0) := by rw [← hg1, cell_new_same, ← ho1, rowOb_get]; rfl
  have hpl : ∀ h, C (.fn 76) [.ptr T.kn (i * 308), .int .i64 (k : Int)] h = some (.ret (.ptr T.kn (i * 308 + plOff k)), h) := fun h => Pl h T.kn (i * 308) k hk
  have hcell := A1.cn i (plOff k) hi p2
  rw [M.cell i _ hi p1 p2] at hcell
  have hfs : fs75 C lf (.ptr T.kt 0) (.ptr T.kn (i * 308)) (.int .i64 (k : Int)) h = q75_82 C lf (fun x1 x2 x3 x7 h => q75_54 C lf ff75 x1 x2 x3 x7 h) ff75 (some (.ptr T.kn (i * 308))) (some (.int .i64 (k : Int))) (some (.ptr h.next 0)) (some (.val (.slice none 0 0))) h1 := by
    unfold fs75 q75_89 q75_88
    simp only [ob_some, b2_some, hbx]
    rfl
  rw [hfs]
  by_cases hp : 0 < s.bl i (plOff k)
  · have hr : fillR n i k s = (s, true) := by unfold fillR; rw [if_pos hp]
    rw [hr]
    have hd : decide ((0 : Int) < (s.bl i (plOff k) : Int)) = true := decide_eq_true (by omega)
    refine ⟨h1, ?_, A1, M, Tt1, F1.weak fun _ e => e.elim⟩
    unfold q75_82 ff75
    simp only [ob_some, b2_some, bc_ret, bcn_ret, gd_tt, gd_ff, gd_tf, gd_ft, ypk_true, ypk_false, yIf_true, yIf_false, semNil_ptr, fa_ptr, ld1_ptr, ext_tup, fd1_agg, un_not, bin_add, bin_sub, bin_mul, bin_eql, bin_neq, bin_lss, bin_leq, bin_gtr, bin_geq, Nat.zero_add, Nat.mul_one, hpl, hcell, hd]
  have hd0 : decide ((0 : Int) < (s.bl i (plOff k) : Int)) = false := decide_eq_false (by omega)
  -- the list of what leads to the place
  obtain ⟨z, hz, hzl⟩ := appT_ptr.hz
  have want : ∃ x7 h2, q75_82 C lf (fun x1 x2 x3 x7 h => q75_54 C lf ff75 x1 x2 x3 x7 h) ff75 (some (.ptr T.kn (i * 308))) (some (.int .i64 (k : Int))) (some (.ptr h.next 0)) (some (.val (.slice none 0 0))) h1 =
      q75_54 C lf ff75 (some (.ptr T.kn (i * 308))) (some (.int .i64 (k : Int))) (some (.ptr h.next 0)) (some x7) h2 ∧ Frm h1 h2 (fun _ => False) ∧
      ((x7 = .val (.slice none 0 0) ∧ wantC k = []) ∨ ∃ kw m, x7 = .sl kw 0 (wantC k).length (some (wantC k).length) 0 ∧ h2.mt kw = some m ∧ kw < h2.next ∧ (∀ j, j < (wantC k).length → h2.cell kw j = (ptrs T.kn i (wantC k))[j]?)) := by
    by_cases k6 : k < 6
    · have d1 : decide ((22 : Int) ≤ (k : Int)) = false := decide_eq_false (by omega)
      have d2 : decide ((6 : Int) ≤ (k : Int)) = false := decide_eq_false (by omega)
      refine ⟨_, h1, ?_, Frm.refl _ _, .inl ⟨rfl, by unfold wantC; rw [if_pos k6]⟩⟩
      unfold q75_82
      simp only [ob_some, b2_some, bc_ret, bcn_ret, gd_tt, gd_ff, gd_tf, gd_ft, ypk_true, ypk_false, yIf_true, yIf_false, semNil_ptr, fa_ptr, ld1_ptr, ext_tup, fd1_agg, un_not, bin_add, bin_sub, bin_mul, bin_eql, bin_neq, bin_lss, bin_leq, bin_gtr, bin_geq, Nat.zero_add, Nat.mul_one, hpl, hcell, hd0, d1, d2]
    · by_cases k22 : k < 22
      · have d1 : decide ((22 : Int) ≤ (k : Int)) = false := decide_eq_false (by omega)
        have d2 : decide ((6 : Int) ≤ (k : Int)) = true := decide_eq_true (by omega)
        have hw : wantC k = [18] := by unfold wantC; rw [if_neg k6, if_pos k22]
        have hb := ybs_one (h := h1) (y := .ptr T.kn (i * 308 + 18)) appT_ptr.hu appT_ptr.hs hz hzl rfl rfl
        refine ⟨.sl h1.next 0 1 (some 1) 0, h1.new (rowOb eP [.ptr T.kn (i * 308 + 18)]), ?_, frm_new _ _ _, .inr ⟨h1.next, (rowOb eP [.ptr T.kn (i * 308 + 18)]).mt, by rw [hw]; rfl, by rw [mt_new, if_pos rfl], by rw [new_next]; omega, fun j hj => ?_⟩⟩
        · unfold q75_82
          simp only [ob_some, b2_some, bc_ret, bcn_ret, gd_tt, gd_ff, gd_tf, gd_ft, ypk_true, ypk_false, yIf_true, yIf_false, semNil_ptr, fa_ptr, ld1_ptr, ext_tup, fd1_agg, un_not, bin_add, bin_sub, bin_mul, bin_eql, bin_neq, bin_lss, bin_leq, bin_gtr, bin_geq, Nat.zero_add, Nat.mul_one, hpl, hcell, hd0, d1, d2, Nat.add_zero, hb]
        · rw [cell_new_same, rowOb_get, hw]; rfl
      · have d1 : decide ((22 : Int) ≤ (k : Int)) = true := decide_eq_true (by omega)
        have hw : wantC k = [35, 36 + 17 * ((k - 22) / 16)] := by unfold wantC; rw [if_neg k6, if_neg k22]
        have hs : IntKind.i64.wrap ((k : Int) - 22) = ((k - 22 : Nat) : Int) := by rw [wrap_i64 (by omega) (by omega)]; omega
        have hq : IntKind.i64.wrap (((k - 22 : Nat) : Int).tdiv 16) = (((k - 22) / 16 : Nat) : Int) := by
          rw [Int.tdiv_eq_ediv_of_nonneg (by omega), wrap_i64 (by omega) (by omega)]; rfl
        have hix := ixA_ptr (n := 16) (s := 17) (k := T.kn) (off := i * 308 + 36) (kd := .i64) (i := (((k - 22) / 16 : Nat) : Int)) (by omega) (by omega)
        rw [Int.toNat_natCast] at hix
        have ea : i * 308 + 36 + (k - 22) / 16 * 17 = i * 308 + (36 + 17 * ((k - 22) / 16)) := by omega
        rw [ea] at hix
        have hb := ybs_two (h := h1) (y0 := .ptr T.kn (i * 308 + 35)) (y1 := .ptr T.kn (i * 308 + (36 + 17 * ((k - 22) / 16)))) appT_ptr.hu appT_ptr.hs hz hzl rfl rfl rfl rfl
        refine ⟨.sl h1.next 0 2 (some 2) 0, h1.new (rowOb eP [.ptr T.kn (i * 308 + 35), .ptr T.kn (i * 308 + (36 + 17 * ((k - 22) / 16)))]), ?_, frm_new _ _ _, .inr ⟨h1.next, (rowOb eP [.ptr T.kn (i * 308 + 35), .ptr T.kn (i * 308 + (36 + 17 * ((k - 22) / 16)))]).mt, by rw [hw]; rfl, by rw [mt_new, if_pos rfl], by rw [new_next]; omega, fun j hj => ?_⟩⟩
        · unfold q75_82
          simp only [ob_some, b2_some, bc_ret, bcn_ret, gd_tt, gd_ff, gd_tf, gd_ft, ypk_true, ypk_false, yIf_true, yIf_false, semNil_ptr, fa_ptr, ld1_ptr, ext_tup, fd1_agg, un_not, bin_add, bin_sub, bin_mul, bin_eql, bin_neq, bin_lss, bin_leq, bin_gtr, bin_geq, Nat.zero_add, Nat.mul_one, hpl, hcell, hd0, d1, hs, bin_quo (show (16 : Int) ≠ 0 by omega), hq, hix, Nat.add_zero, hb]
        · rw [cell_new_same, rowOb_get, hw]; rfl
  obtain ⟨x7, h2, q1, F2, hw⟩ := want
  rw [q1]
  have hwl : (wantC k).length ≤ 2 := by unfold wantC; split <;> (try split) <;> simp
  -- the variable of what is taken
  have hz3 : tyZero Tryd.prog 143 = some (.slice none 0 0) := by kernel_rfl
  have al := yAl_eq (P := Tryd.prog) (e := 143) (h := h2) hz3
  have hzc : (mkV (.slice none 0 0)).cells = [.val (.slice none 0 0)] := rfl
  rw [hzc] at al
  generalize ho3 : rowOb 143 [.val (.slice none 0 0)] = o3 at *
  generalize hg3 : h2.new o3 = h3 at *
  have n3 : h3.next = h2.next + 1 := by rw [← hg3, new_next]
  have F3 : Frm h2 h3 (fun _ => False) := by rw [← hg3]; exact frm_new _ _ _
  have w8 : h3.wr h2.next 1 := by
    have := wr_new (h := h2) (o := o3) (by rw [← ho3]; rfl)
    rw [show o3.n = 1 by rw [← ho3]; rfl, hg3] at this
    exact this
  have c8 : h3.cell h2.next 0 = some (.val (.slice none 0 0)) := by rw [← hg3, cell_new_same, ← ho3, rowOb_get]; rfl
  have hw3 : (x7 = .val (.slice none 0 0) ∧ wantC k = []) ∨ ∃ kw m, x7 = .sl kw 0 (wantC k).length (some (wantC k).length) 0 ∧ h3.mt kw = some m ∧ kw < h3.next ∧ (∀ j, j < (wantC k).length → h3.cell kw j = (ptrs T.kn i (wantC k))[j]?) := by
    rcases hw with e | ⟨kw, m, e1, e2, e3, e4⟩
    · exact .inl e
    · have sk := F3.same kw e3 (fun e => e)
      exact .inr ⟨kw, m, e1, by rw [sk.mt]; exact e2, by omega, fun j hj => by rw [sk.cell]; exact e4 j hj⟩
  obtain ⟨h4, b1, b2, n4, b4, F4⟩ := want_app (plOff k) hw3 hwl
  rw [← needC_want] at b2 b4
  have F14 : Frm h1 h4 (fun _ => False) := (F2.trans F3).trans F4
  have F04 : Frm h h4 (fun _ => False) := F1.trans F14
  have nx2 := F2.next
  have keep : ∀ j, j < h3.next → SameOb h3 h4 j := fun j hj => F4.same j hj (fun e => e)
  have X : FlSt h h4 T n N now us s i h.next h2.next [] :=
    ⟨A.frm F04 fun _ e => e.elim, M, Tt.fr F04 O.g (fun e => e), F04.weak fun _ e => e.elim, by rw [(F14.same h.next (by omega) (fun e => e)).cell]; exact cv3, by omega, by omega,
      ⟨.val (.slice none 0 0), by rw [(keep h2.next (by omega)).cell]; exact c8, Sl.nil _ _ _, fun j hj => by cases hj⟩, wr_same w8 (keep _ (by omega)), by omega, by omega, by omega⟩
  have hnl := needC_len k
  obtain ⟨h5, X5, l5⟩ := fill_loop (lf := lf) (h0 := h) Al O hi (kx := h3.next + 1) (cs0 := needC k) (needC_lt hk) (by omega) ⟨by omega, by omega⟩ (.fn (.func 90) [] [.ptr h2.next 0, .ptr h.next 0]) ff75 (fun h => q75_1 C lf ff75 h)
    (needC k) 0 rfl (by omega) lf (by omega) h4 s [] X (by simp) (by omega) b4 (fun j hj => by rw [(keep h2.next (by omega)).cell, c8] at hj; cases hj)
  have hlx : lenE Tryd.prog 143 (.sl (h3.next + 1) 0 (needC k).length none 0) = some (.int .i64 ((needC k).length : Int)) := by
    simp [lenE, Tryd.underlying143]
  have pre : q75_54 C lf ff75 (some (.ptr T.kn (i * 308))) (some (.int .i64 (k : Int))) (some (.ptr h.next 0)) (some x7) h2 =
      lp (l75_2 C lf ff75 (fun h => q75_1 C lf ff75 h)) lf (some (.ptr h.next 0), some (.ptr h2.next 0), some (.fn (.func 90) [] [.ptr h2.next 0, .ptr h.next 0]), some (.sl (h3.next + 1) 0 (needC k).length none 0), some (.int .i64 ((needC k).length : Int)), some (.int .i64 ((0 : Nat) : Int))) h4 := by
    unfold q75_54 q75_53
    simp only [ob_some, b2_some, al]
    unfold q75_51 q75_50
    simp only [ob_some]
    unfold q75_47 q75_46 q75_45
    simp only [ob_some, bc_ret, b2_some, hpl, b1, b2, hlx]
    rfl
  rw [pre, l5]
  have tkn : Taken n i s (fillF n i (needC k) s []).2.1 (fillF n i (needC k) s []).1 := fillF_taken (needC k) s [] .nil (needC_lt hk)
  by_cases hb : (fillF n i (needC k) s []).2.2 = true
  · have hr : fillR n i k s = ((fillF n i (needC k) s []).1, true) := by unfold fillR; rw [if_neg hp, if_pos hb]
    rw [if_pos hb, hr]
    refine ⟨h5, ?_, X5.A, X5.M, X5.Tt, X5.F⟩
    unfold q75_1 ff75
    simp only [ob_some]
  · have hr : fillR n i k s = (⟨s.wd, (fillF n i (needC k) s []).1.b, s.nd, s.bl⟩, false) := by unfold fillR; rw [if_neg hp, if_neg hb]
    rw [if_neg hb, hr]
    have P := tkn.props hi M A.st.wlt
    have hfl := fillF_false (n := n) (i := i) (needC k) s [] (by simpa using hb)
    have hlt : (fillF n i (needC k) s []).2.1.length ≤ 1000 := by have := hfl.2; simp at this; omega
    obtain ⟨h6, c6, A6, M6, F6⟩ := Bk h h5 T n N now us _ i _ _ _ O hi X5 P.nd' (fun c hc => ⟨(P.was c hc).2.1, (P.was c hc).2.2.1, (P.was c hc).2.2.2.1⟩) hlt
    obtain ⟨u1, u2, u3, _⟩ := tkn.undo hi M A.st.wlt
    have u4 : (backF i (fillF n i (needC k) s []).2.1 (fillF n i (needC k) s []).1).b = (fillF n i (needC k) s []).1.b := (back_props (i := i) _ _ P.nd' P.wlt fun c h => (P.was c h).2.2.2.1).2.1
    rw [u1, u2, u4] at A6
    rw [u1, u2, u3] at M6
    refine ⟨h6, ?_, A6, M6, X5.Tt.fr F6 (Nat.lt_of_lt_of_le O.g X5.F.next) (fun e => by rcases e with e | e; exact O.ng.s e; exact O.ng.n e), X5.F.trans (F6.weak fun _ e => by rcases e with e | e; exact .inl e; exact .inr (.inr e))⟩
    show bc (C (.fn 90) ([] ++ [] ++ [.ptr h2.next 0, .ptr h.next 0]) h5) _ = _
    simp only [List.nil_append, c6, bc_ret]
    unfold ff75
    simp only [ob_some]
end
end Go.Proofs.YtomialandfplkaaDoor.Eva
namespace Go.Proofs.YtomialandfplkaaDoor.Eva
open Go.Xe
set_option linter.unusedSimpArgs false
section
variable {P : Program} {h : HW} {t : TypeId}
theorem ybl_min {ts : Array TypeId} {a b : Int} {k : IntKind} : ybl P .min ts [.int k a, .int k b] h = some (.int k (min a b), h) := by
  have e : (bif decide (b < a) then b else a) = min a b := by
    by_cases c : b < a
    · rw [decide_eq_true c, cond_true]; omega
    · rw [decide_eq_false c, cond_false]; omega
  show hx (withX h.x0 (minE (.int k a) (.int k b))) = _
  simp only [minE, e]
  rfl
theorem ybl_max {ts : Array TypeId} {a b : Int} {k : IntKind} : ybl P .max ts [.int k a, .int k b] h = some (.int k (max a b), h) := by
  have e : (bif decide (b > a) then b else a) = max a b := by
    by_cases c : b > a
    · rw [decide_eq_true c, cond_true]; omega
    · rw [decide_eq_false c, cond_false]; omega
  show hx (withX h.x0 (maxE (.int k a) (.int k b))) = _
  simp only [maxE, e]
  rfl
theorem bytes_mid {e s lo hi : Nat} {k1 k2 : IntKind} {x : SV} {l : List Nat} (hu : P.underlying t = some (.slice e)) (hs : tySize P e = some s) (h1 : s = 1) (B : Bytes h x l) (hc : CapOK x) (hl : lo < hi) (hh : hi ≤ l.length) :
    ∃ x', semSlice P t x (some (.int k1 (lo : Int))) (some (.int k2 (hi : Int))) = some x' ∧ Bytes h x' ((l.drop lo).take (hi - lo)) ∧ rowOf x' = rowOf x := by
  subst h1
  rcases B.2 with ⟨_, rfl⟩ | ⟨kb, ob, cap, lo', m, rfl, hm, hcs⟩
  · simp at hh; omega
  · have q1 : natOf (.int k1 (lo : Int)) = some lo := rfl
    have q2 : natOf (.int k2 (hi : Int)) = some hi := rfl
    have hlen : ((l.drop lo).take (hi - lo)).length = hi - lo := by simp; omega
    have hb : ∀ off', off' = ob + lo → ∀ cap'' lo'', Bytes h (.sl kb off' (hi - lo) cap'' lo'') ((l.drop lo).take (hi - lo)) := fun off' e cap'' lo'' => by
      subst e
      refine ⟨fun c hc => B.1 c (List.mem_of_mem_drop (List.mem_of_mem_take hc)), .inr ⟨kb, ob + lo, cap'', lo'', m, by rw [hlen], hm, fun j hj => ?_⟩⟩
      rw [hlen] at hj
      rw [Nat.add_assoc, hcs (lo + j) (by omega)]
      congr 3
      simp [List.getD, List.getElem?_take, hj, List.getElem?_drop]
    unfold semSlice
    cases cap with
    | none =>
      have h3 : sliceB l.length l.length (some (.int k1 (lo : Int))) (some (.int k2 (hi : Int))) = some (lo, hi) := by
        simp only [sliceB, q1, q2]
        have : (Nat.ble hi l.length && Nat.ble lo hi) = true := by simp [Nat.ble_eq_true_of_le hh, Nat.ble_eq_true_of_le (Nat.le_of_lt hl)]
        simp only [this, cond_true]
      have b1 : Nat.blt lo l.length = true := by rw [Nat.blt_eq]; omega
      simp only [hu, hs, h3, slAt, force_eq, Nat.ble_eq_true_of_le hh, cond_true, b1, Nat.mul_one]
      exact ⟨_, rfl, hb _ rfl _ _, rfl⟩
    | some c =>
      have hc : l.length ≤ c := hc
      have h3 : sliceB l.length c (some (.int k1 (lo : Int))) (some (.int k2 (hi : Int))) = some (lo, hi) := by
        simp only [sliceB, q1, q2]
        have : (Nat.ble hi c && Nat.ble lo hi) = true := by simp [Nat.ble_eq_true_of_le (Nat.le_trans hh hc), Nat.ble_eq_true_of_le (Nat.le_of_lt hl)]
        simp only [this, cond_true]
      have b1 : Nat.beq (c - lo) 0 = false := by
        cases hb : Nat.beq (c - lo) 0 with
        | false => rfl
        | true => exact absurd (Nat.eq_of_beq_eq_true hb) (by omega)
      simp only [hu, hs, h3, slAt, force_eq, b1, cond_false, Nat.mul_one]
      exact ⟨_, rfl, hb _ rfl _ _, rfl⟩
end
def writeF (n i off : Nat) (l : List Nat) : Nat → Nat → S4 → S4 × Nat
  | 0, done, s => (s, done)
  | f + 1, done, s => if done < l.length then
      (if (fillR n i ((off + done) / 64) s).2 = true then
        writeF n i off l f (done + min (64 - (off + done) % 64) (l.length - done)) ⟨(fillR n i ((off + done) / 64) s).1.wd,
          over (fillR n i ((off + done) / 64) s).1.b (((fillR n i ((off + done) / 64) s).1.bl i (plOff ((off + done) / 64)) - 1) * 64 + (off + done) % 64) ((l.drop done).take (min (64 - (off + done) % 64) (l.length - done))),
          (fillR n i ((off + done) / 64) s).1.nd, (fillR n i ((off + done) / 64) s).1.bl⟩
      else ((fillR n i ((off + done) / 64) s).1, done)) else (s, done)
theorem OldT.mono {h h' : HW} {T : TN} (O : OldT h T) (hn : h.next ≤ h'.next) : OldT h' T := ⟨Nat.lt_of_lt_of_le O.t hn, Nat.lt_of_lt_of_le O.s hn, Nat.lt_of_lt_of_le O.d hn, Nat.lt_of_lt_of_le O.n hn, Nat.lt_of_lt_of_le O.g hn, O.ng⟩
def apartT (T : TN) (x : SV) : Prop := ∀ j, rowOf x = some j → j ≠ T.kt ∧ j ≠ T.ks ∧ j ≠ T.kd ∧ j ≠ T.kn
theorem fillR_pos {n i k : Nat} {s : S4} (hp : (fillR n i k s).2 = true) : 0 < (fillR n i k s).1.bl i (plOff k) := by
  unfold fillR at hp ⊢
  by_cases h1 : 0 < s.bl i (plOff k)
  · rw [if_pos h1]; exact h1
  · rw [if_neg h1] at hp ⊢
    by_cases h2 : (fillF n i (needC k) s []).2.2 = true
    · rw [if_pos h2]
      exact (fillF_true (needC k) s [] h2).2 _ (by rw [needC_want]; simp)
    · rw [if_neg h2] at hp; cases hp
section
variable {lf : Nat} {h : HW} {T : TN} {n N : Nat} {now : Int} {us : Nat → Bool} {s : S4} {i : Nat}
theorem write_loop {C : YC} (Pl : PlaceOK C) (Fi : FillOK C) (Wr : WriteOK C) (hi : i < N) {off : Nat} {x : SV} {l : List Nat} (hcap : CapOK x) (hap : apartT T x) (hoff : off + l.length ≤ 17792) (e1 : K4) :
    ∀ (g done : Nat), l.length - done ≤ g → done ≤ l.length → ∀ f, g < f → ∀ h s, TableAt h T n N s.wd s.b now us s.nd → MapAt n N s.wd s.nd s.bl → TabAt h → OldT h T → Bytes h x l → (∀ j, rowOf x = some j → j < h.next) →
    ∃ h', lp (l38_23 C lf e1) f (some (.ptr T.kt 0), some (.int .i64 (off : Int)), some x, some (.ptr T.kn (i * 308)), some (.int .i64 (done : Int))) h =
        e1 (some (.ptr T.kt 0)) (some (.int .i64 (off : Int))) (some (.ptr T.kn (i * 308))) (some (.int .i64 ((writeF n i off l g done s).2 : Int))) h' ∧
      TableAt h' T n N (writeF n i off l g done s).1.wd (writeF n i off l g done s).1.b now us (writeF n i off l g done s).1.nd ∧ MapAt n N (writeF n i off l g done s).1.wd (writeF n i off l g done s).1.nd (writeF n i off l g done s).1.bl ∧
      TabAt h' ∧ Frm h h' (fun j => j = T.ks ∨ j = T.kd ∨ j = T.kn) := by
  intro g
  induction g with
  | zero =>
    intro done hg hd f hf h s A M Tt O B hx
    obtain ⟨f, rfl⟩ : ∃ g, f = g + 1 := ⟨f - 1, by omega⟩
    have hlen := len_bytes (P := Tryd.prog) Tryd.underlying24 B
    have hlt : decide ((done : Int) < (l.length : Int)) = false := decide_eq_false (by omega)
    refine ⟨h, ?_, A, M, Tt, Frm.refl _ _⟩
    rw [lp_succ]
    unfold l38_23 q38_63
    simp only [ob_some, b2_some, bc_ret, bcn_ret, gd_tt, gd_ff, gd_tf, gd_ft, ypk_true, ypk_false, yIf_true, yIf_false, semNil_ptr, fa_ptr, ld1_ptr, ext_tup, fd1_agg, un_not, bin_add, bin_sub, bin_mul, bin_eql, bin_neq, bin_lss, bin_leq, bin_gtr, bin_geq, Nat.zero_add, Nat.mul_one, hlen, hlt]
    rfl
  | succ g ih =>
    intro done hg hd f hf h s A M Tt O B hx
    obtain ⟨f, rfl⟩ : ∃ g, f = g + 1 := ⟨f - 1, by omega⟩
    have hlen := fun (h : HW) (B : Bytes h x l) => len_bytes (P := Tryd.prog) Tryd.underlying24 B
    rw [lp_succ]
    show ∃ h', q38_63 C lf (fun x0 x2 x3 x10 x12 h => lp (l38_23 C lf e1) f (x0, x2, x3, x10, x12) h) e1 (some (.ptr T.kt 0)) (some (.int .i64 (off : Int))) (some x) (some (.ptr T.kn (i * 308))) (some (.int .i64 (done : Int))) h = _ ∧ _
    unfold q38_63
    by_cases hdl : done < l.length
    · have hlt : decide ((done : Int) < (l.length : Int)) = true := decide_eq_true (by omega)
      have hadd : IntKind.i64.wrap ((off : Int) + (done : Int)) = ((off + done : Nat) : Int) := by rw [wrap_i64 (by omega) (by omega)]; omega
      have hq : IntKind.i64.wrap (((off + done : Nat) : Int).tdiv 64) = (((off + done) / 64 : Nat) : Int) := by
        rw [Int.tdiv_eq_ediv_of_nonneg (by omega), wrap_i64 (by omega) (by omega)]; rfl
      have hr : ((off + done : Nat) : Int).tmod 64 = (((off + done) % 64 : Nat) : Int) := by
        rw [Int.tmod_eq_emod_of_nonneg (by omega)]; rfl
      have hk : (off + done) / 64 < 278 := by omega
      obtain ⟨h1, c1, A1, M1, Tt1, F1⟩ := Fi h T n N now us s i ((off + done) / 64) A M Tt O hi hk
      have hw : writeF n i off l (g + 1) done s = if (fillR n i ((off + done) / 64) s).2 = true then
          writeF n i off l g (done + min (64 - (off + done) % 64) (l.length - done)) ⟨(fillR n i ((off + done) / 64) s).1.wd,
            over (fillR n i ((off + done) / 64) s).1.b (((fillR n i ((off + done) / 64) s).1.bl i (plOff ((off + done) / 64)) - 1) * 64 + (off + done) % 64) ((l.drop done).take (min (64 - (off + done) % 64) (l.length - done))),
            (fillR n i ((off + done) / 64) s).1.nd, (fillR n i ((off + done) / 64) s).1.bl⟩
          else ((fillR n i ((off + done) / 64) s).1, done) := by
        show (if done < l.length then _ else _) = _
        rw [if_pos hdl]
      rw [hw]
      have hpos := fillR_pos (n := n) (i := i) (k := (off + done) / 64) (s := s)
      generalize hfr : fillR n i ((off + done) / 64) s = fr at *
      generalize hkk : (off + done) / 64 = k at *
      generalize haa : (off + done) % 64 = a at *
      have ha : a < 64 := by omega
      by_cases hb : fr.2 = true
      · rw [hb] at c1
        rw [if_pos hb]
        have hpos := hpos hb
        obtain ⟨p1, p2⟩ := plOff_lt hk
        generalize hm : min (64 - a) (l.length - done) = m at *
        have hm1 : 1 ≤ m := by omega
        have hm2 : m ≤ 64 - a := by omega
        have hm3 : done + m ≤ l.length := by omega
        have B1 : Bytes h1 x l := B.frame fun kb ob len cap lo e => F1.same kb (hx kb (by rw [e]; rfl)) (fun e2 => by have := hap kb (by rw [e]; rfl); omega)
        have hs64 : IntKind.i64.wrap (64 - (a : Int)) = ((64 - a : Nat) : Int) := by rw [wrap_i64 (by omega) (by omega)]; omega
        have hsl : IntKind.i64.wrap ((l.length : Int) - (done : Int)) = ((l.length - done : Nat) : Int) := by rw [wrap_i64 (by omega) (by omega)]; omega
        have hmin : min ((64 - a : Nat) : Int) ((l.length - done : Nat) : Int) = (m : Int) := by omega
        have hdm : IntKind.i64.wrap ((done : Int) + (m : Int)) = ((done + m : Nat) : Int) := by rw [wrap_i64 (by omega) (by omega)]; omega
        obtain ⟨x', q1, q2, q3⟩ := bytes_mid (P := Tryd.prog) (t := 24) (lo := done) (hi := done + m) (k1 := .i64) (k2 := .i64) Tryd.underlying24 (s := 1) (by kernel_rfl) rfl B1 hcap (by omega) hm3
        rw [Nat.add_sub_cancel_left] at q2
        have hpl : C (.fn 76) [.ptr T.kn (i * 308), .int .i64 (k : Int)] h1 = some (.ret (.ptr T.kn (i * 308 + plOff k)), h1) := Pl h1 T.kn (i * 308) k hk
        have hcell := A1.cn i (plOff k) hi p2
        rw [M1.cell i _ hi p1 p2] at hcell
        have hle := M1.le i (plOff k)
        have hn2 := A1.st.n2
        have hs1 : IntKind.i64.wrap ((fr.1.bl i (plOff k) : Int) - 1) = ((fr.1.bl i (plOff k) - 1 : Nat) : Int) := by rw [wrap_i64 (by omega) (by omega)]; omega
        have hon := M1.on i (plOff k) hi p1 p2 hpos
        have hlen2 : ((l.drop done).take m).length = m := by simp; omega
        have hnb : ¬ badW n fr.1.wd ((fr.1.bl i (plOff k) - 1 : Nat) : Int) (a : Int) ((l.drop done).take m) := by
          have hin : inUse n fr.1.wd ((fr.1.bl i (plOff k) - 1 : Nat) : Int) = true := by
            simp only [inUse, Int.toNat_natCast, hon, Bool.and_true, Bool.and_eq_true, decide_eq_true_eq]; omega
          unfold badW
          rw [hin, hlen2]
          simp only [Bool.true_eq_false, false_or]
          omega
        obtain ⟨h2, c2, S2, n2, F2⟩ := (Wr h1 T.ks T.kd n fr.1.wd fr.1.b ((fr.1.bl i (plOff k) - 1 : Nat) : Int) (a : Int) x' ((l.drop done).take m) A1.st q2 (by omega) (by omega) (by omega) (by omega) (by omega)).2 hnb
        rw [Int.toNat_natCast, Int.toNat_natCast] at S2
        have A2 := A1.store S2 F2.next (F2.same _ A1.lt (fun e => A1.d2 e)) (F2.same _ A1.ln (fun e => A1.d5 e))
        have F12 : Frm h h2 (fun j => j = T.ks ∨ j = T.kd ∨ j = T.kn) := F1.trans (F2.weak fun _ e => .inr (.inl e))
        have hck : ∀ r, ck (chkH [(3, adrO (some (SV.ptr T.kt 0)))] h1 h1 [3]) r = r := fun r => ck_one rfl A1.lt (wr_mt A1.wt) rfl
        obtain ⟨h3, r1, r2, r3, r4, r5⟩ := ih (done + m) (by omega) hm3 f (by omega) h2 ⟨fr.1.wd, over fr.1.b ((fr.1.bl i (plOff k) - 1) * 64 + a) ((l.drop done).take m), fr.1.nd, fr.1.bl⟩ A2 M1 (Tt1.fr F2 (Nat.lt_of_lt_of_le O.g F1.next) (fun e => O.ng.d e)) (O.mono F12.next)
          (B1.frame fun kb ob len cap lo e => F2.same kb (Nat.lt_of_lt_of_le (hx kb (by rw [e]; rfl)) F1.next) (fun e2 => by have := hap kb (by rw [e]; rfl); omega)) (fun j hj => Nat.lt_of_lt_of_le (hx j hj) F12.next)
        refine ⟨h3, ?_, r2, r3, r4, F12.trans r5⟩
        simp only [ob_some, b2_some, bc_ret, bcn_ret, gd_tt, gd_ff, gd_tf, gd_ft, ypk_true, ypk_false, yIf_true, yIf_false, semNil_ptr, fa_ptr, ld1_ptr, ext_tup, fd1_agg, un_not, bin_add, bin_sub, bin_mul, bin_eql, bin_neq, bin_lss, bin_leq, bin_gtr, bin_geq, Nat.zero_add, Nat.mul_one, hlen h B, hlt, hadd, bin_quo (show (64 : Int) ≠ 0 by omega), hq, bin_rem (show (64 : Int) ≠ 0 by omega), hr, c1, Bool.not_true, hs64, hlen h1 B1, hsl, ybl_min, hmin, hdm, q1, A1.c0, hpl, hck, hcell, hs1, c2]
        exact r1
      · have hb' : fr.2 = false := by simpa using hb
        rw [hb'] at c1
        rw [if_neg hb]
        refine ⟨h1, ?_, A1, M1, Tt1, F1⟩
        simp only [ob_some, b2_some, bc_ret, bcn_ret, gd_tt, gd_ff, gd_tf, gd_ft, ypk_true, ypk_false, yIf_true, yIf_false, semNil_ptr, fa_ptr, ld1_ptr, ext_tup, fd1_agg, un_not, bin_add, bin_sub, bin_mul, bin_eql, bin_neq, bin_lss, bin_leq, bin_gtr, bin_geq, Nat.zero_add, Nat.mul_one, hlen h B, hlt, hadd, bin_quo (show (64 : Int) ≠ 0 by omega), hq, bin_rem (show (64 : Int) ≠ 0 by omega), hr, c1, Bool.not_false]
    · have hlt : decide ((done : Int) < (l.length : Int)) = false := decide_eq_false (by omega)
      have hw : writeF n i off l (g + 1) done s = (s, done) := by
        show (if done < l.length then _ else _) = _
        rw [if_neg hdl]
      rw [hw]
      refine ⟨h, ?_, A, M, Tt, Frm.refl _ _⟩
      simp only [ob_some, b2_some, bc_ret, bcn_ret, gd_tt, gd_ff, gd_tf, gd_ft, ypk_true, ypk_false, yIf_true, yIf_false, semNil_ptr, fa_ptr, ld1_ptr, ext_tup, fd1_agg, un_not, bin_add, bin_sub, bin_mul, bin_eql, bin_neq, bin_lss, bin_leq, bin_gtr, bin_geq, Nat.zero_add, Nat.mul_one, hlen h B, hlt]
end
end Go.Proofs.YtomialandfplkaaDoor.Eva
namespace Go.Proofs.YtomialandfplkaaDoor.Eva
open Go.Xe
set_option linter.unusedSimpArgs false
def cutL (off : Nat) (l : List Nat) : List Nat := l.take (min l.length (17792 - off))
def wrF (n i off : Nat) (l : List Nat) (s : S4) : S4 × Nat := writeF n i off (cutL off l) (cutL off l).length 0 s
def grown (nd : Nat → Nat → SV) (i sz : Nat) (now : Int) : Nat → Nat → SV := upd2 (upd2 (upd2 nd i 5 (.int .i64 (sz : Int))) i 9 (.int .i64 now)) i 10 (.int .i64 now)
theorem MapAt.grown {n N : Nat} {wd : Nat → Nat} {nd : Nat → Nat → SV} {bl : Nat → Nat → Nat} (M : MapAt n N wd nd bl) (i sz : Nat) (now : Int) : MapAt n N wd (grown nd i sz now) bl :=
  ((M.cellOff (by omega)).cellOff (by omega)).cellOff (by omega)
section
variable {lf : Nat} {h : HW} {T : TN} {n N : Nat} {now : Int} {us : Nat → Bool} {s : S4} {i : Nat}
theorem inoB_yes (hi : i < N) (hu : us i = true) : inoB N us ((i + 1 : Nat) : Int) = true := by
  have h1 : decide ((1 : Int) ≤ ((i + 1 : Nat) : Int)) = true := decide_eq_true (by omega)
  have h2 : decide (((i + 1 : Nat) : Int) ≤ (N : Int)) = true := decide_eq_true (by omega)
  have e : ((i + 1 : Nat) : Int).toNat - 1 = i := by omega
  simp only [inoB, h1, h2, Bool.true_and, e, hu]
theorem fillR_low {k i' c : Nat} (hi : i < N) (M : MapAt n N s.wd s.nd s.bl) (hw : ∀ j, s.wd j < 2 ^ 64) (hk : k < 278) (hc : c < 12) : (fillR n i k s).1.nd i' c = s.nd i' c := by
  unfold fillR
  by_cases h1 : 0 < s.bl i (plOff k)
  · rw [if_pos h1]
  · rw [if_neg h1]
    by_cases h2 : (fillF n i (needC k) s []).2.2 = true
    · rw [if_pos h2]
      have t : Taken n i s (fillF n i (needC k) s []).2.1 (fillF n i (needC k) s []).1 := fillF_taken (needC k) s [] .nil (needC_lt hk)
      have P := t.props hi M hw
      exact P.outn i' c (.inr fun e => by have := (P.was c e).2.1; omega)
    · rw [if_neg h2]
structure Well (n N : Nat) (s : S4) : Prop where
  M : MapAt n N s.wd s.nd s.bl
  w : ∀ j, s.wd j < 2 ^ 64
theorem fillR_well {k : Nat} (W : Well n N s) (hi : i < N) (hk : k < 278) : Well n N (fillR n i k s).1 := by
  unfold fillR
  by_cases h1 : 0 < s.bl i (plOff k)
  · rw [if_pos h1]; exact W
  · rw [if_neg h1]
    by_cases h2 : (fillF n i (needC k) s []).2.2 = true
    · rw [if_pos h2]
      have t : Taken n i s (fillF n i (needC k) s []).2.1 (fillF n i (needC k) s []).1 := fillF_taken (needC k) s [] .nil (needC_lt hk)
      have P := t.props hi W.M W.w
      exact ⟨P.M, P.wlt⟩
    · rw [if_neg h2]; exact ⟨W.M, W.w⟩
theorem writeF_low {off : Nat} {l : List Nat} (hoff : off + l.length ≤ 17792) {i' c : Nat} (hi : i < N) (hc : c < 12) : ∀ (g done : Nat) (s : S4), done ≤ l.length → Well n N s → (writeF n i off l g done s).1.nd i' c = s.nd i' c ∧ done ≤ (writeF n i off l g done s).2 ∧ (writeF n i off l g done s).2 ≤ l.length ∧ Well n N (writeF n i off l g done s).1
  | 0, done, s, hd, W => ⟨rfl, Nat.le_refl _, hd, W⟩
  | g + 1, done, s, hd, W => by
    unfold writeF
    by_cases h1 : done < l.length
    · rw [if_pos h1]
      have hk : (off + done) / 64 < 278 := by omega
      have e1 := fillR_low (i := i) (i' := i') (c := c) hi W.M W.w hk hc
      have W1 := fillR_well (i := i) W hi hk
      by_cases h2 : (fillR n i ((off + done) / 64) s).2 = true
      · rw [if_pos h2]
        obtain ⟨a1, a2, a3, a4⟩ := writeF_low hoff (i' := i') hi hc g (done + min (64 - (off + done) % 64) (l.length - done)) ⟨(fillR n i ((off + done) / 64) s).1.wd,
          over (fillR n i ((off + done) / 64) s).1.b (((fillR n i ((off + done) / 64) s).1.bl i (plOff ((off + done) / 64)) - 1) * 64 + (off + done) % 64) ((l.drop done).take (min (64 - (off + done) % 64) (l.length - done))),
          (fillR n i ((off + done) / 64) s).1.nd, (fillR n i ((off + done) / 64) s).1.bl⟩ (by omega) ⟨W1.M, W1.w⟩
        exact ⟨a1.trans e1, by omega, a3, a4⟩
      · rw [if_neg h2]
        exact ⟨e1, Nat.le_refl _, hd, W1⟩
    · rw [if_neg h1]
      exact ⟨rfl, Nat.le_refl _, hd, W⟩
def TWriteOK (C : YC) : Prop := ∀ h T n N now us s i (off : Int) x l (sz : Nat), TableAt h T n N s.wd s.b now us s.nd → MapAt n N s.wd s.nd s.bl → TabAt h → OldT h T → i < N → us i = true → s.nd i 5 = .int .i64 (sz : Int) → sz ≤ 17792 → Bytes h x l → CapOK x → apartT T x →
  (∀ j, rowOf x = some j → j < h.next) → l.length ≤ 140737488351232 → -9223372036854775808 ≤ off → off < 9223372036854775808 →
  (off < 0 → C (.fn 38) [.ptr T.kt 0, .int .i64 ((i + 1 : Nat) : Int), .int .i64 off, x] h = some (.ret (.tup [.int .i64 0, .int .i64 22]), h)) ∧
  (0 ≤ off → l = [] → C (.fn 38) [.ptr T.kt 0, .int .i64 ((i + 1 : Nat) : Int), .int .i64 off, x] h = some (.ret (.tup [.int .i64 0, .int .i64 0]), h)) ∧
  (l ≠ [] → 17792 ≤ off → C (.fn 38) [.ptr T.kt 0, .int .i64 ((i + 1 : Nat) : Int), .int .i64 off, x] h = some (.ret (.tup [.int .i64 0, .int .i64 27]), h)) ∧
  (l ≠ [] → 0 ≤ off → off < 17792 → ∃ h', Frm h h' (fun j => j = T.ks ∨ j = T.kd ∨ j = T.kn) ∧ TabAt h' ∧
    ((wrF n i off.toNat l s).2 = 0 → C (.fn 38) [.ptr T.kt 0, .int .i64 ((i + 1 : Nat) : Int), .int .i64 off, x] h = some (.ret (.tup [.int .i64 0, .int .i64 28]), h') ∧
      TableAt h' T n N (wrF n i off.toNat l s).1.wd (wrF n i off.toNat l s).1.b now us (wrF n i off.toNat l s).1.nd ∧ MapAt n N (wrF n i off.toNat l s).1.wd (wrF n i off.toNat l s).1.nd (wrF n i off.toNat l s).1.bl) ∧
    ((wrF n i off.toNat l s).2 ≠ 0 → C (.fn 38) [.ptr T.kt 0, .int .i64 ((i + 1 : Nat) : Int), .int .i64 off, x] h = some (.ret (.tup [.int .i64 ((wrF n i off.toNat l s).2 : Int), .int .i64 0]), h') ∧
      TableAt h' T n N (wrF n i off.toNat l s).1.wd (wrF n i off.toNat l s).1.b now us (grown (wrF n i off.toNat l s).1.nd i (max sz (off.toNat + (wrF n i off.toNat l s).2)) now) ∧
      MapAt n N (wrF n i off.toNat l s).1.wd (grown (wrF n i off.toNat l s).1.nd i (max sz (off.toNat + (wrF n i off.toNat l s).2)) now) (wrF n i off.toNat l s).1.bl))
theorem twrite_ok {C : YC} (hlf : 20000 ≤ lf) (Ge : GetOK C) (Pl : PlaceOK C) (Fi : FillOK C) (Wr : WriteOK C) (To : TouchOK C) {off : Int} {x : SV} {l : List Nat} {sz : Nat} (A : TableAt h T n N s.wd s.b now us s.nd) (M : MapAt n N s.wd s.nd s.bl) (Tt : TabAt h) (O : OldT h T) (hi : i < N) (hu : us i = true) (hsz : s.nd i 5 = .int .i64 (sz : Int)) (hsz2 : sz ≤ 17792) (B : Bytes h x l) (hcap : CapOK x) (hap : apartT T x)
    (hx : ∀ j, rowOf x = some j → j < h.next) (hll : l.length ≤ 140737488351232) (o1 : -9223372036854775808 ≤ off) (o2 : off < 9223372036854775808) :
    (off < 0 → fs38 C lf (.ptr T.kt 0) (.int .i64 ((i + 1 : Nat) : Int)) (.int .i64 off) x h = some (.ret (.tup [.int .i64 0, .int .i64 22]), h)) ∧
    (0 ≤ off → l = [] → fs38 C lf (.ptr T.kt 0) (.int .i64 ((i + 1 : Nat) : Int)) (.int .i64 off) x h = some (.ret (.tup [.int .i64 0, .int .i64 0]), h)) ∧
    (l ≠ [] → 17792 ≤ off → fs38 C lf (.ptr T.kt 0) (.int .i64 ((i + 1 : Nat) : Int)) (.int .i64 off) x h = some (.ret (.tup [.int .i64 0, .int .i64 27]), h)) ∧
    (l ≠ [] → 0 ≤ off → off < 17792 → ∃ h', Frm h h' (fun j => j = T.ks ∨ j = T.kd ∨ j = T.kn) ∧ TabAt h' ∧
      ((wrF n i off.toNat l s).2 = 0 → fs38 C lf (.ptr T.kt 0) (.int .i64 ((i + 1 : Nat) : Int)) (.int .i64 off) x h = some (.ret (.tup [.int .i64 0, .int .i64 28]), h') ∧
        TableAt h' T n N (wrF n i off.toNat l s).1.wd (wrF n i off.toNat l s).1.b now us (wrF n i off.toNat l s).1.nd ∧ MapAt n N (wrF n i off.toNat l s).1.wd (wrF n i off.toNat l s).1.nd (wrF n i off.toNat l s).1.bl) ∧
      ((wrF n i off.toNat l s).2 ≠ 0 → fs38 C lf (.ptr T.kt 0) (.int .i64 ((i + 1 : Nat) : Int)) (.int .i64 off) x h = some (.ret (.tup [.int .i64 ((wrF n i off.toNat l s).2 : Int), .int .i64 0]), h') ∧
        TableAt h' T n N (wrF n i off.toNat l s).1.wd (wrF n i off.toNat l s).1.b now us (grown (wrF n i off.toNat l s).1.nd i (max sz (off.toNat + (wrF n i off.toNat l s).2)) now) ∧
        MapAt n N (wrF n i off.toNat l s).1.wd (grown (wrF n i off.toNat l s).1.nd i (max sz (off.toNat + (wrF n i off.toNat l s).2)) now) (wrF n i off.toNat l s).1.bl)) := by
  have hN := A.N2
  have hg := Ge h T n N s.wd s.b now us s.nd ((i + 1 : Nat) : Int) A (by omega) (by omega)
  rw [inoB_yes hi hu, if_pos rfl, show ((i + 1 : Nat) : Int).toNat - 1 = i by omega] at hg
  have hne : decide ((0 : Int) ≠ 0) = false := rfl
  have hlen := fun (h : HW) (x : SV) (l : List Nat) (B : Bytes h x l) => len_bytes (P := Tryd.prog) Tryd.underlying24 B
  have pre : fs38 C lf (.ptr T.kt 0) (.int .i64 ((i + 1 : Nat) : Int)) (.int .i64 off) x h = q38_84 C lf ff38 (some (.ptr T.kt 0)) (some (.int .i64 off)) (some x) (some (.ptr T.kn (i * 308))) h := by
    unfold fs38 q38_98 q38_97 q38_96 q38_95
    simp only [ob_some, bc_ret, hg, ext_tup, List.getElem?_cons_zero, List.getElem?_cons_succ]
    unfold q38_89 q38_88
    simp only [ob_some, bin_neq, hne, yIf_false]
  rw [pre]
  refine ⟨fun hb => ?_, fun hb hl => ?_, fun hl hb => ?_, fun hl b1 b2 => ?_⟩
  · unfold q38_84 q38_83 ff38
    simp only [ob_some, b2_some, bc_ret, bcn_ret, gd_tt, gd_ff, gd_tf, gd_ft, ypk_true, ypk_false, yIf_true, yIf_false, semNil_ptr, fa_ptr, ld1_ptr, ext_tup, fd1_agg, un_not, bin_add, bin_sub, bin_mul, bin_eql, bin_neq, bin_lss, bin_leq, bin_gtr, bin_geq, Nat.zero_add, Nat.mul_one, decide_eq_true hb]
  · have d1 : decide (off < 0) = false := decide_eq_false (by omega)
    have d2 : decide ((l.length : Int) = 0) = true := decide_eq_true (by rw [hl]; rfl)
    unfold q38_84 q38_83 ff38
    simp only [ob_some, b2_some, bc_ret, bcn_ret, gd_tt, gd_ff, gd_tf, gd_ft, ypk_true, ypk_false, yIf_true, yIf_false, semNil_ptr, fa_ptr, ld1_ptr, ext_tup, fd1_agg, un_not, bin_add, bin_sub, bin_mul, bin_eql, bin_neq, bin_lss, bin_leq, bin_gtr, bin_geq, Nat.zero_add, Nat.mul_one, d1, hlen h x l B, d2]
  · have d1 : decide (off < 0) = false := decide_eq_false (by omega)
    have hlp : 0 < l.length := List.length_pos_iff.2 hl
    have d2 : decide ((l.length : Int) = 0) = false := decide_eq_false (by omega)
    unfold q38_84 q38_83 ff38
    simp only [ob_some, b2_some, bc_ret, bcn_ret, gd_tt, gd_ff, gd_tf, gd_ft, ypk_true, ypk_false, yIf_true, yIf_false, semNil_ptr, fa_ptr, ld1_ptr, ext_tup, fd1_agg, un_not, bin_add, bin_sub, bin_mul, bin_eql, bin_neq, bin_lss, bin_leq, bin_gtr, bin_geq, Nat.zero_add, Nat.mul_one, d1, hlen h x l B, d2, decide_eq_true hb]
  · obtain ⟨o, rfl⟩ : ∃ o : Nat, off = o := ⟨off.toNat, by omega⟩
    rw [Int.toNat_natCast]
    have d1 : decide ((o : Int) < 0) = false := decide_eq_false (by omega)
    have hlp : 0 < l.length := List.length_pos_iff.2 hl
    have d2 : decide ((l.length : Int) = 0) = false := decide_eq_false (by omega)
    have d3 : decide ((17792 : Int) ≤ (o : Int)) = false := decide_eq_false (by omega)
    have hs : IntKind.i64.wrap (17792 - (o : Int)) = ((17792 - o : Nat) : Int) := by rw [wrap_i64 (by omega) (by omega)]; omega
    have hmin : min (l.length : Int) ((17792 - o : Nat) : Int) = ((min l.length (17792 - o) : Nat) : Int) := by omega
    obtain ⟨x', q1, q2, q3⟩ := bytes_hi (P := Tryd.prog) (t := 24) (q := min l.length (17792 - o)) (kd := .i64) Tryd.underlying24 (s := 1) (by kernel_rfl) B hcap (by omega)
    have hrow : rowOf x' = rowOf x := by
      rcases B.2 with ⟨_, rfl⟩ | ⟨k1, ob, cap, lo, m, rfl, _, _⟩
      · simp at hlp
      · obtain ⟨cap', lo', u1, _⟩ := slice_hi (P := Tryd.prog) (t := 24) (q := min l.length (17792 - o)) (kd := .i64) Tryd.underlying24 (s := 1) (by kernel_rfl) hcap (by omega)
        rw [u1] at q1
        cases q1
        rfl
    have hcl : (cutL o l).length = min l.length (17792 - o) := by simp [cutL]
    obtain ⟨h1, r1, A1, M1, Tt1, F1⟩ := write_loop (lf := lf) (N := N) (now := now) (us := us) Pl Fi Wr hi (off := o) (x := x') (l := cutL o l) q3 (fun j hj => hap j (by rw [← hrow]; exact hj)) (by omega) (fun x0 x2 x10 x12 h => q38_22 C lf ff38 x0 x2 x10 x12 h)
      (cutL o l).length 0 (by omega) (by omega) lf (by omega) h s A M Tt O q2 (fun j hj => hx j (by rw [← hrow]; exact hj))
    have hw : writeF n i o (cutL o l) (cutL o l).length 0 s = wrF n i o l s := rfl
    rw [hw] at r1 A1 M1
    have mid : q38_84 C lf ff38 (some (.ptr T.kt 0)) (some (.int .i64 (o : Int))) (some x) (some (.ptr T.kn (i * 308))) h = q38_22 C lf ff38 (some (.ptr T.kt 0)) (some (.int .i64 (o : Int))) (some (.ptr T.kn (i * 308))) (some (.int .i64 ((wrF n i o l s).2 : Int))) h1 := by
      unfold q38_84 q38_83
      simp only [ob_some, b2_some, bc_ret, bcn_ret, gd_tt, gd_ff, gd_tf, gd_ft, ypk_true, ypk_false, yIf_true, yIf_false, semNil_ptr, fa_ptr, ld1_ptr, ext_tup, fd1_agg, un_not, bin_add, bin_sub, bin_mul, bin_eql, bin_neq, bin_lss, bin_leq, bin_gtr, bin_geq, Nat.zero_add, Nat.mul_one, d1, hlen h x l B, d2, d3]
      unfold q38_75 q38_74
      simp only [ob_some, b2_some, bc_ret, bcn_ret, gd_tt, gd_ff, gd_tf, gd_ft, ypk_true, ypk_false, yIf_true, yIf_false, semNil_ptr, fa_ptr, ld1_ptr, ext_tup, fd1_agg, un_not, bin_add, bin_sub, bin_mul, bin_eql, bin_neq, bin_lss, bin_leq, bin_gtr, bin_geq, Nat.zero_add, Nat.mul_one, hlen h x l B, hs, ybl_min, hmin, q1]
      unfold q38_66 q38_65 q38_64
      exact r1
    rw [mid]
    obtain ⟨w1, w2, w3, w4⟩ := writeF_low (n := n) (N := N) (i := i) (off := o) (l := cutL o l) (by omega) (i' := i) (c := 5) hi (by omega) (cutL o l).length 0 s (by omega) ⟨M, A.st.wlt⟩
    rw [hw] at w1 w2 w3 w4
    by_cases hz : (wrF n i o l s).2 = 0
    · refine ⟨h1, F1, Tt1, fun _ => ⟨?_, A1, M1⟩, fun e => absurd hz e⟩
      have d4 : decide (((wrF n i o l s).2 : Int) = 0) = true := decide_eq_true (by omega)
      unfold q38_22 ff38
      simp only [ob_some, b2_some, bc_ret, bcn_ret, gd_tt, gd_ff, gd_tf, gd_ft, ypk_true, ypk_false, yIf_true, yIf_false, semNil_ptr, fa_ptr, ld1_ptr, ext_tup, fd1_agg, un_not, bin_add, bin_sub, bin_mul, bin_eql, bin_neq, bin_lss, bin_leq, bin_gtr, bin_geq, Nat.zero_add, Nat.mul_one, d4]
    · have d4 : decide (((wrF n i o l s).2 : Int) = 0) = false := decide_eq_false (by omega)
      have hc5 := A1.cn i 5 hi (by omega)
      rw [w1, hsz] at hc5
      have hadd : IntKind.i64.wrap ((o : Int) + ((wrF n i o l s).2 : Int)) = ((o + (wrF n i o l s).2 : Nat) : Int) := by rw [wrap_i64 (by omega) (by omega)]; omega
      have hmax : max (sz : Int) ((o + (wrF n i o l s).2 : Nat) : Int) = ((max sz (o + (wrF n i o l s).2) : Nat) : Int) := by omega
      generalize hsz' : max sz (o + (wrF n i o l s).2) = sz' at *
      have st2 := st_node A1 (i := i) (c := 5) (y := .int .i64 (sz' : Int)) hi (by omega) rfl rfl
      have A2 := A1.setNode (i := i) (c := 5) (y := .int .i64 (sz' : Int)) hi (by omega) (by omega)
      have F2 : Frm h1 (h1.set T.kn (i * 308 + 5) [.int .i64 (sz' : Int)]) (· = T.kn) := frm_set rfl
      generalize hg2 : h1.set T.kn (i * 308 + 5) [.int .i64 (sz' : Int)] = h2 at *
      obtain ⟨h3, c3, A3, n3, F3⟩ := To h2 T n N _ _ now us _ i A2 hi
      have F23 : Frm h1 h3 (· = T.kn) := F2.trans F3
      refine ⟨h3, F1.trans (F23.weak fun _ e => .inr (.inr e)), Tt1.fr F23 (Nat.lt_of_lt_of_le O.g F1.next) (fun e => O.ng.n e), fun e => absurd e hz, fun _ => ⟨?_, A3, M1.grown _ _ _⟩⟩
      have e1 : i * 308 + 1 + 4 = i * 308 + 5 := Nat.add_assoc _ 1 4
      unfold q38_22 ff38
      simp only [ob_some, b2_some, bc_ret, bcn_ret, gd_tt, gd_ff, gd_tf, gd_ft, ypk_true, ypk_false, yIf_true, yIf_false, semNil_ptr, fa_ptr, ld1_ptr, ext_tup, fd1_agg, un_not, bin_add, bin_sub, bin_mul, bin_eql, bin_neq, bin_lss, bin_leq, bin_gtr, bin_geq, Nat.zero_add, Nat.mul_one, d4, e1, hc5, hadd, ybl_max, hmax, st2, c3]
end
end Go.Proofs.YtomialandfplkaaDoor.Eva
namespace Go.Proofs.YtomialandfplkaaDoor.Eva
open Go.Xe
set_option maxRecDepth 100000
set_option maxHeartbeats 400000
set_option linter.unusedVariables false
noncomputable section
noncomputable def fx8 : XF Tryd.prog := ⟨8, Tryd.f8, fun _ => .text, Tryd.func8, by kernel_rfl, by kernel_rfl, by kernel_rfl, by kernel_rfl⟩
noncomputable def ff8 (x6 : O) (h : HW) : Rs :=
 ob x6 fun a0 =>
 some (.ret a0, h)
noncomputable def q8_76 (C : YC) (lf : Nat) (r : K1) (x0 x1 x2 x7 x9 x10 : O) (h : HW) : Rs :=
 ob x7 fun a1 =>
 ob x9 fun a2 =>
 ob x1 fun a3 =>
 ob x2 fun a4 =>
 bc (C (.fn 38) [a1, a2, a3, a4] h) fun y5 h5 =>
 ob (ext 0 y5) fun y6 =>
 ob (ext 1 y5) fun y7 =>
 ob x7 fun a8 =>
 bc (C (.fn 39) [a8] h5) fun y9 h9 =>
 ob (ext 0 y9) fun y10 =>
 ob (ext 1 y9) fun y11 =>
 ob (ext 2 y9) fun y12 =>
 ob (ext 3 y9) fun y13 =>
 ob x10 fun a14 =>
 ob (bin Tryd.prog .gtr 3 y6 a14) fun y15 =>
 bc (gd false (some y15) (some (.ret y6, h9)) h9) fun y16 h16 =>
 bc (gd false (some y15) (ob (bin Tryd.prog .lss 3 y16 (.int .i64 0)) fun y17 =>
 some (.ret y17, h16)) h16) fun y18 h18 =>
 ob (ypk y15 (.bool true) y18) fun y19 =>
 bc (gd false (some y19) (some (.ret y6, h18)) h18) fun y20 h20 =>
 bc (gd false (some y19) (ob (bin Tryd.prog .eql 3 y20 (.int .i64 0)) fun y21 =>
 some (.ret y21, h20)) h20) fun y22 h22 =>
 bc (gd false (some y19) (some (.ret y7, h22)) h22) fun y23 h23 =>
 bc (gd false (some y19) (bc (C (.fn 34) [y23] h23) fun y24 h24 =>
 some (.ret y24, h24)) h23) fun y25 h25 =>
 bc (gd false (some y19) (ob (bin Tryd.prog .eql 3 y25 (.int .i64 28)) fun y26 =>
 some (.ret y26, h25)) h25) fun y27 h27 =>
 bc (gd false (some y19) (ob (bin Tryd.prog .neq 4 y22 y27) fun y28 =>
 some (.ret y28, h27)) h27) fun y29 h29 =>
 ob (ypk y19 (.bool true) y29) fun y30 =>
 bc (gd false (some y30) (some (.ret y6, h29)) h29) fun y31 h31 =>
 bc (gd false (some y30) (ob (bin Tryd.prog .gtr 3 y31 (.int .i64 0)) fun y32 =>
 some (.ret y32, h31)) h31) fun y33 h33 =>
 bc (gd false (some y30) (some (.ret y33, h33)) h33) fun y34 h34 =>
 bc (gd true (some y34) (some (.ret y7, h34)) h34) fun y35 h35 =>
 bc (gd true (some y34) (bc (C (.fn 34) [y35] h35) fun y36 h36 =>
 some (.ret y36, h36)) h35) fun y37 h37 =>
 bc (gd true (some y34) (ob (bin Tryd.prog .neq 3 y37 (.int .i64 0)) fun y38 =>
 some (.ret y38, h37)) h37) fun y39 h39 =>
 bc (gd false (some y30) (ob (ypk y34 y39 (.bool false)) fun y40 =>
 some (.ret y40, h39)) h39) fun y41 h41 =>
 ob (ypk y30 (.bool true) y41) fun y42 =>
 yIf y42
 (r (some (.bool false)) h41)
 (ob x10 fun a43 =>
 ob (bin Tryd.prog .eql 3 y6 a43) fun y44 =>
 bc (gd false (some y44) (some (.ret y11, h41)) h41) fun y45 h45 =>
 bc (gd false (some y44) (ob (bin Tryd.prog .leq 3 y45 (.int .i64 2)) fun y46 =>
 some (.ret y46, h45)) h45) fun y47 h47 =>
 bc (gd false (some y44) (some (.ret y47, h47)) h47) fun y48 h48 =>
 bc (gd true (some y48) (ob x1 fun a49 =>
 some (.ret a49, h48)) h48) fun y50 h50 =>
 bc (gd true (some y48) (some (.ret y6, h50)) h50) fun y51 h51 =>
 bc (gd true (some y48) (ob (bin Tryd.prog .add 3 y50 y51) fun y52 =>
 some (.ret y52, h51)) h51) fun y53 h53 =>
 bc (gd true (some y48) (ob (bin Tryd.prog .rem 3 y53 (.int .i64 64)) fun y54 =>
 some (.ret y54, h53)) h53) fun y55 h55 =>
 bc (gd true (some y48) (ob (bin Tryd.prog .eql 3 y55 (.int .i64 0)) fun y56 =>
 some (.ret y56, h55)) h55) fun y57 h57 =>
 bc (gd false (some y44) (ob (ypk y48 y57 (.bool false)) fun y58 =>
 some (.ret y58, h57)) h57) fun y59 h59 =>
 ob (ypk y44 (.bool true) y59) fun y60 =>
 bc (gd false (some y60) (some (.ret y6, h59)) h59) fun y61 h61 =>
 bc (gd false (some y60) (ob (bin Tryd.prog .eql 3 y61 (.int .i64 0)) fun y62 =>
 some (.ret y62, h61)) h61) fun y63 h63 =>
 bc (gd false (some y60) (some (.ret y63, h63)) h63) fun y64 h64 =>
 bc (gd true (some y64) (some (.ret y11, h64)) h64) fun y65 h65 =>
 bc (gd true (some y64) (ob x0 fun a66 =>
 some (.ret a66, h65)) h65) fun y67 h67 =>
 bc (gd true (some y64) (ob (bin Tryd.prog .eql 3 y65 y67) fun y68 =>
 some (.ret y68, h67)) h67) fun y69 h69 =>
 bc (gd false (some y60) (ob (ypk y64 y69 (.bool false)) fun y70 =>
 some (.ret y70, h69)) h69) fun y71 h71 =>
 ob (ypk y60 (.bool true) y71) fun y72 =>
 bc (gd true (some y72) (bc (C (.fn 35) [] h71) fun y73 h73 =>
 some (.ret y73, h73)) h71) fun y74 h74 =>
 ob (ypk y72 y74 (.bool false)) fun y75 =>
 r (some y75) h74)
theorem q8_76_eq (C : YC) (lf : Nat) (r : K1) (KN : KF) (KE : KX) : ∀ F h, evX fx8 C lf [1, 1, 1, 1, 1, 1, 1, 1] F h KN (fun F h => r (F 6) h) KE = q8_76 C lf r (F 0) (F 1) (F 2) (F 7) (F 9) (F 10) h := by
  intro F h; kernel_rfl
noncomputable def q8_83 (C : YC) (lf : Nat) (n : K6) (x0 x1 x2 x7 x9 x10 : O) (h : HW) : Rs :=
 ob x10 fun a77 =>
 ob x1 fun a78 =>
 ob (bin Tryd.prog .sub 3 (.int .i64 17792) a78) fun y79 =>
 ob (bin Tryd.prog .gtr 3 a77 y79) fun y80 =>
 yIf y80
 (ob x1 fun a81 =>
 ob (bin Tryd.prog .sub 3 (.int .i64 17792) a81) fun y82 =>
 n x0 x1 x2 x7 x9 (some y82) h)
 (n x0 x1 x2 x7 x9 x10 h)
theorem q8_83_eq (C : YC) (lf : Nat) (n : K6) (KR : KF) (KE : KX) : ∀ F h, evX fx8 C lf [1, 1, 1, 1, 1, 1, 1, 0] F h (fun F h => n (F 0) (F 1) (F 2) (F 7) (F 9) (F 10) h) KR KE = q8_83 C lf n (F 0) (F 1) (F 2) (F 7) (F 9) (F 10) h := by
  intro F h; kernel_rfl
noncomputable def q8_84 (C : YC) (lf : Nat) (r : K1) (x0 x1 x2 x7 x9 x10 : O) (h : HW) : Rs :=
 q8_83 C lf (fun x0 x1 x2 x7 x9 x10 h => q8_76 C lf r x0 x1 x2 x7 x9 x10 h) x0 x1 x2 x7 x9 x10 h
theorem q8_84_eq (C : YC) (lf : Nat) (r : K1) (KN : KF) (KE : KX) : ∀ F h, evX fx8 C lf [1, 1, 1, 1, 1, 1, 1] F h KN (fun F h => r (F 6) h) KE = q8_84 C lf r (F 0) (F 1) (F 2) (F 7) (F 9) (F 10) h := cSeq (a := subX fx8 [1, 1, 1, 1, 1, 1, 1, 0]) (b := subX fx8 [1, 1, 1, 1, 1, 1, 1, 1]) (by kernel_rfl) (B := (fun F h => q8_76 C lf r (F 0) (F 1) (F 2) (F 7) (F 9) (F 10) h)) (q8_76_eq C lf r KN KE) (q8_83_eq C lf (fun x0 x1 x2 x7 x9 x10 h => q8_76 C lf r x0 x1 x2 x7 x9 x10 h) (fun F h => r (F 6) h) KE)
noncomputable def q8_87 (C : YC) (lf : Nat) (n : K6) (x0 x1 x2 x7 x9 : O) (h : HW) : Rs :=
 ob x2 fun a85 =>
 ob (lenE Tryd.prog 24 a85) fun y86 =>
 n x0 x1 x2 x7 x9 (some y86) h
theorem q8_87_eq (C : YC) (lf : Nat) (n : K6) (KR : KF) (KE : KX) : ∀ F h, evX fx8 C lf [1, 1, 1, 1, 1, 1, 0] F h (fun F h => n (F 0) (F 1) (F 2) (F 7) (F 9) (F 10) h) KR KE = q8_87 C lf n (F 0) (F 1) (F 2) (F 7) (F 9) h := by
  intro F h; kernel_rfl
noncomputable def q8_88 (C : YC) (lf : Nat) (r : K1) (x0 x1 x2 x7 x9 : O) (h : HW) : Rs :=
 q8_87 C lf (fun x0 x1 x2 x7 x9 x10 h => q8_84 C lf r x0 x1 x2 x7 x9 x10 h) x0 x1 x2 x7 x9 h
theorem q8_88_eq (C : YC) (lf : Nat) (r : K1) (KN : KF) (KE : KX) : ∀ F h, evX fx8 C lf [1, 1, 1, 1, 1, 1] F h KN (fun F h => r (F 6) h) KE = q8_88 C lf r (F 0) (F 1) (F 2) (F 7) (F 9) h := cSeq (a := subX fx8 [1, 1, 1, 1, 1, 1, 0]) (b := subX fx8 [1, 1, 1, 1, 1, 1, 1]) (by kernel_rfl) (B := (fun F h => q8_84 C lf r (F 0) (F 1) (F 2) (F 7) (F 9) (F 10) h)) (q8_84_eq C lf r KN KE) (q8_87_eq C lf (fun x0 x1 x2 x7 x9 x10 h => q8_84 C lf r x0 x1 x2 x7 x9 x10 h) (fun F h => r (F 6) h) KE)
noncomputable def q8_92 (C : YC) (lf : Nat) (n : K5) (r : K1) (x0 x1 x2 x7 x8 x9 : O) (h : HW) : Rs :=
 ob x8 fun a89 =>
 bc (C (.fn 34) [a89] h) fun y90 h90 =>
 ob (bin Tryd.prog .neq 3 y90 (.int .i64 0)) fun y91 =>
 yIf y91
 (r (some (.bool false)) h90)
 (n x0 x1 x2 x7 x9 h90)
theorem q8_92_eq (C : YC) (lf : Nat) (n : K5) (r : K1) (KE : KX) : ∀ F h, evX fx8 C lf [1, 1, 1, 1, 1, 0] F h (fun F h => n (F 0) (F 1) (F 2) (F 7) (F 9) h) (fun F h => r (F 6) h) KE = q8_92 C lf n r (F 0) (F 1) (F 2) (F 7) (F 8) (F 9) h := by
  intro F h; kernel_rfl
noncomputable def q8_93 (C : YC) (lf : Nat) (r : K1) (x0 x1 x2 x7 x8 x9 : O) (h : HW) : Rs :=
 q8_92 C lf (fun x0 x1 x2 x7 x9 h => q8_88 C lf r x0 x1 x2 x7 x9 h) r x0 x1 x2 x7 x8 x9 h
theorem q8_93_eq (C : YC) (lf : Nat) (r : K1) (KN : KF) (KE : KX) : ∀ F h, evX fx8 C lf [1, 1, 1, 1, 1] F h KN (fun F h => r (F 6) h) KE = q8_93 C lf r (F 0) (F 1) (F 2) (F 7) (F 8) (F 9) h := cSeq (a := subX fx8 [1, 1, 1, 1, 1, 0]) (b := subX fx8 [1, 1, 1, 1, 1, 1]) (by kernel_rfl) (B := (fun F h => q8_88 C lf r (F 0) (F 1) (F 2) (F 7) (F 9) h)) (q8_88_eq C lf r KN KE) (q8_92_eq C lf (fun x0 x1 x2 x7 x9 h => q8_88 C lf r x0 x1 x2 x7 x9 h) r KE)
noncomputable def q8_98 (C : YC) (lf : Nat) (n : K6) (x0 x1 x2 x7 : O) (h : HW) : Rs :=
 ob x7 fun a94 =>
 bc (C (.fn 37) [a94, (.int .i64 33152), (.int .i64 0), (.int .i64 0)] h) fun y95 h95 =>
 ob (ext 0 y95) fun y96 =>
 ob (ext 1 y95) fun y97 =>
 n x0 x1 x2 x7 (some y97) (some y96) h95
theorem q8_98_eq (C : YC) (lf : Nat) (n : K6) (KR : KF) (KE : KX) : ∀ F h, evX fx8 C lf [1, 1, 1, 1, 0] F h (fun F h => n (F 0) (F 1) (F 2) (F 7) (F 8) (F 9) h) KR KE = q8_98 C lf n (F 0) (F 1) (F 2) (F 7) h := by
  intro F h; kernel_rfl
noncomputable def q8_99 (C : YC) (lf : Nat) (r : K1) (x0 x1 x2 x7 : O) (h : HW) : Rs :=
 q8_98 C lf (fun x0 x1 x2 x7 x8 x9 h => q8_93 C lf r x0 x1 x2 x7 x8 x9 h) x0 x1 x2 x7 h
theorem q8_99_eq (C : YC) (lf : Nat) (r : K1) (KN : KF) (KE : KX) : ∀ F h, evX fx8 C lf [1, 1, 1, 1] F h KN (fun F h => r (F 6) h) KE = q8_99 C lf r (F 0) (F 1) (F 2) (F 7) h := cSeq (a := subX fx8 [1, 1, 1, 1, 0]) (b := subX fx8 [1, 1, 1, 1, 1]) (by kernel_rfl) (B := (fun F h => q8_93 C lf r (F 0) (F 1) (F 2) (F 7) (F 8) (F 9) h)) (q8_93_eq C lf r KN KE) (q8_98_eq C lf (fun x0 x1 x2 x7 x8 x9 h => q8_93 C lf r x0 x1 x2 x7 x8 x9 h) (fun F h => r (F 6) h) KE)
noncomputable def q8_108 (C : YC) (lf : Nat) (n : K4) (r : K1) (x0 x1 x2 x7 x8 : O) (h : HW) : Rs :=
 ob x8 fun a100 =>
 bc (C (.fn 34) [a100] h) fun y101 h101 =>
 ob (bin Tryd.prog .neq 3 y101 (.int .i64 0)) fun y102 =>
 bc (gd false (some y102) (ob x7 fun a103 =>
 some (.ret a103, h101)) h101) fun y104 h104 =>
 bc (gd false (some y102) (ob (bin Tryd.prog .eql 64 y104 (.val (.pointer none))) fun y105 =>
 some (.ret y105, h104)) h104) fun y106 h106 =>
 ob (ypk y102 (.bool true) y106) fun y107 =>
 yIf y107
 (r (some (.bool false)) h106)
 (n x0 x1 x2 x7 h106)
theorem q8_108_eq (C : YC) (lf : Nat) (n : K4) (r : K1) (KE : KX) : ∀ F h, evX fx8 C lf [1, 1, 1, 0] F h (fun F h => n (F 0) (F 1) (F 2) (F 7) h) (fun F h => r (F 6) h) KE = q8_108 C lf n r (F 0) (F 1) (F 2) (F 7) (F 8) h := by
  intro F h; kernel_rfl
noncomputable def q8_109 (C : YC) (lf : Nat) (r : K1) (x0 x1 x2 x7 x8 : O) (h : HW) : Rs :=
 q8_108 C lf (fun x0 x1 x2 x7 h => q8_99 C lf r x0 x1 x2 x7 h) r x0 x1 x2 x7 x8 h
theorem q8_109_eq (C : YC) (lf : Nat) (r : K1) (KN : KF) (KE : KX) : ∀ F h, evX fx8 C lf [1, 1, 1] F h KN (fun F h => r (F 6) h) KE = q8_109 C lf r (F 0) (F 1) (F 2) (F 7) (F 8) h := cSeq (a := subX fx8 [1, 1, 1, 0]) (b := subX fx8 [1, 1, 1, 1]) (by kernel_rfl) (B := (fun F h => q8_99 C lf r (F 0) (F 1) (F 2) (F 7) h)) (q8_99_eq C lf r KN KE) (q8_108_eq C lf (fun x0 x1 x2 x7 h => q8_99 C lf r x0 x1 x2 x7 h) r KE)
noncomputable def q8_114 (C : YC) (lf : Nat) (n : K5) (x0 x1 x2 : O) (h : HW) : Rs :=
 ob x0 fun a110 =>
 bc (C (.fn 36) [a110, (.int .i64 1)] h) fun y111 h111 =>
 ob (ext 0 y111) fun y112 =>
 ob (ext 1 y111) fun y113 =>
 n x0 x1 x2 (some y112) (some y113) h111
theorem q8_114_eq (C : YC) (lf : Nat) (n : K5) (KR : KF) (KE : KX) : ∀ F h, evX fx8 C lf [1, 1, 0] F h (fun F h => n (F 0) (F 1) (F 2) (F 7) (F 8) h) KR KE = q8_114 C lf n (F 0) (F 1) (F 2) h := by
  intro F h; kernel_rfl
noncomputable def q8_115 (C : YC) (lf : Nat) (r : K1) (x0 x1 x2 : O) (h : HW) : Rs :=
 q8_114 C lf (fun x0 x1 x2 x7 x8 h => q8_109 C lf r x0 x1 x2 x7 x8 h) x0 x1 x2 h
theorem q8_115_eq (C : YC) (lf : Nat) (r : K1) (KN : KF) (KE : KX) : ∀ F h, evX fx8 C lf [1, 1] F h KN (fun F h => r (F 6) h) KE = q8_115 C lf r (F 0) (F 1) (F 2) h := cSeq (a := subX fx8 [1, 1, 0]) (b := subX fx8 [1, 1, 1]) (by kernel_rfl) (B := (fun F h => q8_109 C lf r (F 0) (F 1) (F 2) (F 7) (F 8) h)) (q8_109_eq C lf r KN KE) (q8_114_eq C lf (fun x0 x1 x2 x7 x8 h => q8_109 C lf r x0 x1 x2 x7 x8 h) (fun F h => r (F 6) h) KE)
noncomputable def q8_141 (C : YC) (lf : Nat) (n : K3) (r : K1) (x0 x1 x2 : O) (h : HW) : Rs :=
 ob x0 fun a116 =>
 ob (bin Tryd.prog .lss 3 a116 (.int .i64 1)) fun y117 =>
 bc (gd false (some y117) (ob x0 fun a118 =>
 some (.ret a118, h)) h) fun y119 h119 =>
 bc (gd false (some y117) (ob (bin Tryd.prog .gtr 3 y119 (.int .i64 400)) fun y120 =>
 some (.ret y120, h119)) h119) fun y121 h121 =>
 ob (ypk y117 (.bool true) y121) fun y122 =>
 bc (gd false (some y122) (ob x1 fun a123 =>
 some (.ret a123, h121)) h121) fun y124 h124 =>
 bc (gd false (some y122) (ob (bin Tryd.prog .lss 3 y124 (.int .i64 0)) fun y125 =>
 some (.ret y125, h124)) h124) fun y126 h126 =>
 ob (ypk y122 (.bool true) y126) fun y127 =>
 bc (gd false (some y127) (ob x1 fun a128 =>
 some (.ret a128, h126)) h126) fun y129 h129 =>
 bc (gd false (some y127) (ob (bin Tryd.prog .geq 3 y129 (.int .i64 17792)) fun y130 =>
 some (.ret y130, h129)) h129) fun y131 h131 =>
 ob (ypk y127 (.bool true) y131) fun y132 =>
 bc (gd false (some y132) (ob x2 fun a133 =>
 some (.ret a133, h131)) h131) fun y134 h134 =>
 bc (gd false (some y132) (ob (lenE Tryd.prog 24 y134) fun y135 =>
 some (.ret y135, h134)) h134) fun y136 h136 =>
 bc (gd false (some y132) (ob (bin Tryd.prog .eql 3 y136 (.int .i64 0)) fun y137 =>
 some (.ret y137, h136)) h136) fun y138 h138 =>
 ob (ypk y132 (.bool true) y138) fun y139 =>
 yIf y139
 (bc (C (.fn 35) [] h138) fun y140 h140 =>
 r (some y140) h140)
 (n x0 x1 x2 h138)
theorem q8_141_eq (C : YC) (lf : Nat) (n : K3) (r : K1) (KE : KX) : ∀ F h, evX fx8 C lf [1, 0] F h (fun F h => n (F 0) (F 1) (F 2) h) (fun F h => r (F 6) h) KE = q8_141 C lf n r (F 0) (F 1) (F 2) h := by
  intro F h; kernel_rfl
noncomputable def q8_142 (C : YC) (lf : Nat) (r : K1) (x0 x1 x2 : O) (h : HW) : Rs :=
 q8_141 C lf (fun x0 x1 x2 h => q8_115 C lf r x0 x1 x2 h) r x0 x1 x2 h
theorem q8_142_eq (C : YC) (lf : Nat) (r : K1) (KN : KF) (KE : KX) : ∀ F h, evX fx8 C lf [1] F h KN (fun F h => r (F 6) h) KE = q8_142 C lf r (F 0) (F 1) (F 2) h := cSeq (a := subX fx8 [1, 0]) (b := subX fx8 [1, 1]) (by kernel_rfl) (B := (fun F h => q8_115 C lf r (F 0) (F 1) (F 2) h)) (q8_115_eq C lf r KN KE) (q8_141_eq C lf (fun x0 x1 x2 h => q8_115 C lf r x0 x1 x2 h) r KE)
noncomputable def q8_143 (C : YC) (lf : Nat) (n : K3) (x0 x1 x2 : O) (h : HW) : Rs :=
 n x0 x1 x2 h
theorem q8_143_eq (C : YC) (lf : Nat) (n : K3) (KR : KF) (KE : KX) : ∀ F h, evX fx8 C lf [0] F h (fun F h => n (F 0) (F 1) (F 2) h) KR KE = q8_143 C lf n (F 0) (F 1) (F 2) h := by
  intro F h; kernel_rfl
noncomputable def q8_144 (C : YC) (lf : Nat) (r : K1) (x0 x1 x2 : O) (h : HW) : Rs :=
 q8_143 C lf (fun x0 x1 x2 h => q8_142 C lf r x0 x1 x2 h) x0 x1 x2 h
theorem q8_144_eq (C : YC) (lf : Nat) (r : K1) (KN : KF) (KE : KX) : ∀ F h, evX fx8 C lf [] F h KN (fun F h => r (F 6) h) KE = q8_144 C lf r (F 0) (F 1) (F 2) h := cSeq (a := subX fx8 [0]) (b := subX fx8 [1]) (by kernel_rfl) (B := (fun F h => q8_142 C lf r (F 0) (F 1) (F 2) h)) (q8_142_eq C lf r KN KE) (q8_143_eq C lf (fun x0 x1 x2 h => q8_142 C lf r x0 x1 x2 h) (fun F h => r (F 6) h) KE)
noncomputable def fs8 (C : YC) (lf : Nat) (a0 a1 a2 : SV) (h : HW) : Rs := q8_144 C lf ff8 (some a0) (some a1) (some a2) h
theorem fs8_eq (C : YC) (lf : Nat) (a0 a1 a2 : SV) (h : HW) : yFn Tryd.prog fx8 C lf [a0, a1, a2] h = fs8 C lf a0 a1 a2 h := fnX (K := (fun F h => ff8 (F 6) h)) (by kernel_rfl) (((q8_144_eq C lf ff8 (fun F h => ff8 (F 6) h) (fun _ _ _ => none)) _ h).trans (by kernel_rfl))
noncomputable def fy8 : YX Tryd.prog := Y3 fx8 fs8 fs8_eq (by kernel_rfl)
end
end Go.Proofs.YtomialandfplkaaDoor.Eva
namespace Go.Proofs.YtomialandfplkaaDoor.Eva
open Go.Xe
set_option linter.unusedSimpArgs false
section
variable {lf : Nat} {n N i : Nat} {s : S4}
theorem filter_full {n : Nat} {f : Nat → Bool} (h : ∀ j, j < n → f j = true) : ((List.range n).filter f).length = n := by
  rw [List.filter_eq_self.2 fun j hj => h j (List.mem_range.1 hj)]; simp
theorem fillR_short {k : Nat} (hi : i < N) (W : Well n N s) (hk : k < 278) (hb : (fillR n i k s).2 = false) : (fillR n i k s).1.wd = s.wd ∧ n ≤ (usedL s.wd n).length + 2 := by
  unfold fillR at hb ⊢
  by_cases h1 : 0 < s.bl i (plOff k)
  · rw [if_pos h1] at hb; cases hb
  · rw [if_neg h1] at hb ⊢
    by_cases h2 : (fillF n i (needC k) s []).2.2 = true
    · rw [if_pos h2] at hb; cases hb
    · rw [if_neg h2]
      refine ⟨rfl, ?_⟩
      obtain ⟨f1, f2⟩ := fillF_false (n := n) (i := i) (needC k) s [] (by simpa using h2)
      have t : Taken n i s (fillF n i (needC k) s []).2.1 (fillF n i (needC k) s []).1 := fillF_taken (needC k) s [] .nil (needC_lt hk)
      have P := t.props hi W.M W.w
      have h3 := P.cnt
      rw [filter_full f1] at h3
      have h4 := needC_len k
      have h5 : (usedL s.wd n).length = ((List.range n).filter (onB s.wd)).length := rfl
      simp only [List.length_nil, Nat.zero_add] at f2
      omega
theorem writeF_short {off : Nat} {l : List Nat} (hoff : off + l.length ≤ 17792) (hi : i < N) : ∀ (g done : Nat) (s : S4), l.length - done ≤ g → done ≤ l.length → Well n N s → (writeF n i off l g done s).2 < l.length →
    ((writeF n i off l g done s).2 = done ∧ (writeF n i off l g done s).1.wd = s.wd ∨ (off + (writeF n i off l g done s).2) % 64 = 0) ∧ n ≤ (usedL (writeF n i off l g done s).1.wd n).length + 2
  | 0, done, s, hg, hd, W, hlt => by
    have : (writeF n i off l 0 done s).2 = done := rfl
    omega
  | g + 1, done, s, hg, hd, W, hlt => by
    unfold writeF at hlt ⊢
    by_cases h1 : done < l.length
    · rw [if_pos h1] at hlt ⊢
      have hk : (off + done) / 64 < 278 := by omega
      have W1 := fillR_well (i := i) W hi hk
      by_cases h2 : (fillR n i ((off + done) / 64) s).2 = true
      · rw [if_pos h2] at hlt ⊢
        obtain ⟨a1, a2⟩ := writeF_short hoff hi g (done + min (64 - (off + done) % 64) (l.length - done)) ⟨(fillR n i ((off + done) / 64) s).1.wd,
          over (fillR n i ((off + done) / 64) s).1.b (((fillR n i ((off + done) / 64) s).1.bl i (plOff ((off + done) / 64)) - 1) * 64 + (off + done) % 64) ((l.drop done).take (min (64 - (off + done) % 64) (l.length - done))),
          (fillR n i ((off + done) / 64) s).1.nd, (fillR n i ((off + done) / 64) s).1.bl⟩ (by omega) (by omega) ⟨W1.M, W1.w⟩ hlt
        refine ⟨.inr ?_, a2⟩
        rcases a1 with ⟨e, _⟩ | e
        · rw [e] at hlt ⊢; omega
        · exact e
      · rw [if_neg h2]
        obtain ⟨b1, b2⟩ := fillR_short hi W hk (by simpa using h2)
        exact ⟨.inl ⟨rfl, b1⟩, by rw [b1]; exact b2⟩
    · rw [if_neg h1] at hlt
      have hlt : done < l.length := hlt
      omega
def nd1 : Nat → Nat → SV := updR (fun _ => zeroN) 0 (newN ((0 + 1 : Nat) : Int) 0 0 33152 0)
def us1 : Nat → Bool := upd (fun _ => false) 0 true
def s1 : S4 := ⟨fun _ => 0, fun _ => 0, nd1, fun _ _ => 0⟩
theorem map1 (n : Nat) : MapAt n 1 s1.wd s1.nd s1.bl := by
  refine ⟨fun i c hi h12 hc => ?_, fun _ _ => Nat.zero_le _, fun i c _ _ _ h => absurd h (Nat.lt_irrefl 0), fun i c i' c' _ _ _ _ _ _ h => absurd h (Nat.lt_irrefl 0)⟩
  have : i = 0 := by omega
  subst this
  show updR (fun _ => zeroN) 0 (newN ((0 + 1 : Nat) : Int) 0 0 33152 0) 0 c = .int .i64 ((0 : Nat) : Int)
  rw [updR_same]
  unfold newN
  rw [if_neg (by omega), if_neg (by omega), if_neg (by omega), if_neg (by omega), if_neg (by omega), if_neg (by omega)]
  rfl
theorem good1 : ¬ badA 33152 0 0 := by
  have h1 : modeX 33152 = 0 := by decide
  have h2 : modeK 33152 = 32768 := by decide
  unfold badA
  rw [h1, h2]
  simp
theorem usedL_zero (n : Nat) : (usedL (fun _ => 0) n).length = 0 := by
  have : onB (fun _ => 0) = fun _ => false := by funext j; simp [onB]
  simp [usedL, this]
theorem oldT_new {h h' : HW} (hn : h'.next = h.next + 4) (hg : gT < h.next) : OldT h' ⟨h.next + 3, h.next + 1, h.next, h.next + 2⟩ :=
  ⟨by show h.next + 3 < _; omega, by show h.next + 1 < _; omega, by show h.next < _; omega, by show h.next + 2 < _; omega, by omega, ⟨by show gT ≠ h.next + 1; omega, by show gT ≠ h.next; omega, by show gT ≠ h.next + 2; omega⟩⟩
theorem short_main {C : YC} {h0 : HW} (hgn : gT < h0.next) (Tt : TabAt h0) (Nw : NewTOK C) (Al : AllocTOK C) (Nm : NumOK C) (Wr : TWriteOK C) (Rm : RoomTOK C) (hLv : ∀ h, Frm h0 h (fun _ => False) → C (.fn 35) [] h = some (.ret (.bool true), h))
    {m off : Int} (m1 : -9223372036854775808 ≤ m) (m2 : m < 9223372036854775808) (o1 : -9223372036854775808 ≤ off) (o2 : off < 9223372036854775808) {x : SV} {l : List Nat} (B : Bytes h0 x l) (hcap : CapOK x) (hll : l.length ≤ 140737488351232) (hx : ∀ j, rowOf x = some j → j < h0.next) :
    ∃ h', fs8 C lf (.int .i64 m) (.int .i64 off) x h0 = some (.ret (.bool true), h') := by
  have Nm' : ∀ h (e : Int), C (.fn 34) [.int .i64 e] h = some (.ret (.int .i64 e), h) := Nm
  have hlen := len_bytes (P := Tryd.prog) Tryd.underlying24 B
  have L0 := hLv h0 (Frm.refl _ _)
  unfold fs8 q8_144 q8_143 q8_142 q8_141
  by_cases g1 : m < 1
  · refine ⟨h0, ?_⟩
    simp only [ob_some, b2_some, bc_ret, bcn_ret, gd_tt, gd_ff, gd_tf, gd_ft, ypk_true, ypk_false, yIf_true, yIf_false, semNil_ptr, fa_ptr, ld1_ptr, ext_tup, fd1_agg, un_not, bin_add, bin_sub, bin_mul, bin_eql, bin_neq, bin_lss, bin_leq, bin_gtr, bin_geq, Nat.zero_add, Nat.mul_one, decide_eq_true g1, L0]
    rfl
  by_cases g2 : 400 < m
  · refine ⟨h0, ?_⟩
    simp only [ob_some, b2_some, bc_ret, bcn_ret, gd_tt, gd_ff, gd_tf, gd_ft, ypk_true, ypk_false, yIf_true, yIf_false, semNil_ptr, fa_ptr, ld1_ptr, ext_tup, fd1_agg, un_not, bin_add, bin_sub, bin_mul, bin_eql, bin_neq, bin_lss, bin_leq, bin_gtr, bin_geq, Nat.zero_add, Nat.mul_one, decide_eq_false g1, decide_eq_true g2, L0]
    rfl
  by_cases g3 : off < 0
  · refine ⟨h0, ?_⟩
    simp only [ob_some, b2_some, bc_ret, bcn_ret, gd_tt, gd_ff, gd_tf, gd_ft, ypk_true, ypk_false, yIf_true, yIf_false, semNil_ptr, fa_ptr, ld1_ptr, ext_tup, fd1_agg, un_not, bin_add, bin_sub, bin_mul, bin_eql, bin_neq, bin_lss, bin_leq, bin_gtr, bin_geq, Nat.zero_add, Nat.mul_one, decide_eq_false g1, decide_eq_false g2, decide_eq_true g3, L0]
    rfl
  by_cases g4 : 17792 ≤ off
  · refine ⟨h0, ?_⟩
    simp only [ob_some, b2_some, bc_ret, bcn_ret, gd_tt, gd_ff, gd_tf, gd_ft, ypk_true, ypk_false, yIf_true, yIf_false, semNil_ptr, fa_ptr, ld1_ptr, ext_tup, fd1_agg, un_not, bin_add, bin_sub, bin_mul, bin_eql, bin_neq, bin_lss, bin_leq, bin_gtr, bin_geq, Nat.zero_add, Nat.mul_one, decide_eq_false g1, decide_eq_false g2, decide_eq_false g3, decide_eq_true g4, L0]
    rfl
  by_cases g5 : (l.length : Int) = 0
  · refine ⟨h0, ?_⟩
    simp only [ob_some, b2_some, bc_ret, bcn_ret, gd_tt, gd_ff, gd_tf, gd_ft, ypk_true, ypk_false, yIf_true, yIf_false, semNil_ptr, fa_ptr, ld1_ptr, ext_tup, fd1_agg, un_not, bin_add, bin_sub, bin_mul, bin_eql, bin_neq, bin_lss, bin_leq, bin_gtr, bin_geq, Nat.zero_add, Nat.mul_one, decide_eq_false g1, decide_eq_false g2, decide_eq_false g3, decide_eq_false g4, hlen, decide_eq_true g5, L0]
    rfl
  obtain ⟨o, rfl⟩ : ∃ o : Nat, off = o := ⟨off.toNat, by omega⟩
  obtain ⟨n, rfl⟩ : ∃ o : Nat, m = o := ⟨m.toNat, by omega⟩
  have hlp : 0 < l.length := by omega
  have hlne : l ≠ [] := List.length_pos_iff.1 hlp
  obtain ⟨h1, e1, k1, T1, F1⟩ := (Nw h0 (n : Int) 1 m1 m2 (by omega) (by omega)).2 (by omega) (by omega) (by omega) (by omega)
  rw [Int.toNat_natCast, show (1 : Int).toNat = 1 from rfl] at T1
  generalize hT : (⟨h0.next + 3, h0.next + 1, h0.next, h0.next + 2⟩ : TN) = T at *
  have hTt : T.kt = h0.next + 3 := by rw [← hT]
  obtain ⟨h2, e2, T2, k2, F2⟩ := (Al h1 T n 1 _ _ 0 _ _ 33152 0 0 T1).2.2 good1 0 (by omega) rfl (fun j hj => by omega)
  have hTn : T.kn = h0.next + 2 := by rw [← hT]
  have hTs : T.ks = h0.next + 1 := by rw [← hT]
  have hTd : T.kd = h0.next := by rw [← hT]
  have F02 : Frm h0 h2 (fun _ => False) := ⟨F2.ng.trans F1.ng, Nat.le_trans F1.next F2.next, fun j hj e => (F2.same j (by omega) (fun e => by omega)).trans (F1.same j hj e), fun hf => F2.fr (F1.fr hf)⟩
  have O2 : OldT h2 T := by rw [← hT]; exact oldT_new (by omega) hgn
  have T2' : TableAt h2 T n 1 s1.wd s1.b 0 us1 s1.nd := T2
  have B2 : Bytes h2 x l := B.frame fun kb ob len cap lo e => F02.same kb (hx kb (by rw [e]; rfl)) (fun e => e)
  have hap : apartT T x := fun j hj => by have := hx j hj; omega
  obtain ⟨h3, F3, Tt3, w1, w2⟩ := (Wr h2 T n 1 0 us1 s1 0 (o : Int) x l 0 T2' (map1 n) (Tt.fr F02 hgn (fun e => e)) O2 (by omega) rfl rfl (by omega) B2 hcap hap (fun j hj => by have := hx j hj; have := F02.next; omega) hll o1 o2).2.2.2 hlne (by omega) (by omega)
  rw [Int.toNat_natCast] at w1 w2
  have F03 : Frm h0 h3 (fun _ => False) := ⟨F3.ng.trans F02.ng, Nat.le_trans F02.next F3.next, fun j hj e => (F3.same j (Nat.lt_of_lt_of_le hj F02.next) (fun e => by omega)).trans (F02.same j hj e), fun hf => F3.fr (F02.fr hf)⟩
  have hcl : (cutL o l).length = min l.length (17792 - o) := by simp [cutL]
  have W1 : Well n 1 s1 := ⟨map1 n, fun _ => by show 0 < 2 ^ 64; omega⟩
  obtain ⟨_, _, b3, _⟩ := writeF_low (n := n) (N := 1) (i := 0) (off := o) (l := cutL o l) (by omega) (i' := 0) (c := 0) (by omega) (by omega) (cutL o l).length 0 s1 (by omega) W1
  have hsh := writeF_short (n := n) (N := 1) (i := 0) (off := o) (l := cutL o l) (by omega) (by omega) (cutL o l).length 0 s1 (by omega) (by omega) W1
  have hw : writeF n 0 o (cutL o l) (cutL o l).length 0 s1 = wrF n 0 o l s1 := rfl
  rw [hw] at b3 hsh
  -- what the law asks at the end
  have want : ∃ wv : Nat, wv = (cutL o l).length ∧ q8_84 C lf ff8 (some (.int .i64 (n : Int))) (some (.int .i64 (o : Int))) (some x) (some (.ptr T.kt 0)) (some (.int .i64 ((0 + 1 : Nat) : Int))) (some (.int .i64 (l.length : Int))) h2 =
      q8_76 C lf ff8 (some (.int .i64 (n : Int))) (some (.int .i64 (o : Int))) (some x) (some (.ptr T.kt 0)) (some (.int .i64 ((0 + 1 : Nat) : Int))) (some (.int .i64 (wv : Int))) h2 := by
    have hs : IntKind.i64.wrap (17792 - (o : Int)) = ((17792 - o : Nat) : Int) := by rw [wrap_i64 (by omega) (by omega)]; omega
    refine ⟨(cutL o l).length, rfl, ?_⟩
    unfold q8_84 q8_83
    by_cases hb : ((17792 - o : Nat) : Int) < (l.length : Int)
    · simp only [ob_some, b2_some, bc_ret, bcn_ret, gd_tt, gd_ff, gd_tf, gd_ft, ypk_true, ypk_false, yIf_true, yIf_false, semNil_ptr, fa_ptr, ld1_ptr, ext_tup, fd1_agg, un_not, bin_add, bin_sub, bin_mul, bin_eql, bin_neq, bin_lss, bin_leq, bin_gtr, bin_geq, Nat.zero_add, Nat.mul_one, hs, decide_eq_true hb]
      rw [show (cutL o l).length = 17792 - o by omega]
    · simp only [ob_some, b2_some, bc_ret, bcn_ret, gd_tt, gd_ff, gd_tf, gd_ft, ypk_true, ypk_false, yIf_true, yIf_false, semNil_ptr, fa_ptr, ld1_ptr, ext_tup, fd1_agg, un_not, bin_add, bin_sub, bin_mul, bin_eql, bin_neq, bin_lss, bin_leq, bin_gtr, bin_geq, Nat.zero_add, Nat.mul_one, hs, decide_eq_false hb]
      rw [show (cutL o l).length = l.length by omega]
  obtain ⟨wv, hwv, want⟩ := want
  have mid : ∃ h', q8_76 C lf ff8 (some (.int .i64 (n : Int))) (some (.int .i64 (o : Int))) (some x) (some (.ptr T.kt 0)) (some (.int .i64 ((0 + 1 : Nat) : Int))) (some (.int .i64 (wv : Int))) h2 = some (.ret (.bool true), h') := by
    have hbool : ∀ b : Bool, ff8 (some (.bool b)) h3 = some (.ret (.bool b), h3) := fun _ => rfl
    by_cases hz : (wrF n 0 o l s1).2 = 0
    · obtain ⟨c1, A3, M3⟩ := w1 hz
      obtain ⟨h4, e4, F4⟩ := Rm _ _ _ _ _ _ _ _ _ A3
      generalize hleft : n - (usedL (wrF n 0 o l s1).1.wd n).length = left at *
      obtain ⟨r0, r1, r2, r3⟩ := roomV_ext n left 1 (1 - (usedN us1 1).length)
      have L4 := hLv h4 ⟨F4.ng.trans F03.ng, Nat.le_trans F03.next F4.next, fun j hj e => (F4.same j (Nat.lt_of_lt_of_le hj F03.next) e).trans (F03.same j hj e), fun hf => F4.fr (F03.fr hf)⟩
      have hlt : (wrF n 0 o l s1).2 < (cutL o l).length := by omega
      obtain ⟨hs1, hs2⟩ := hsh hlt
      have hbb := neq_bools Tryd.underlying4
      refine ⟨h4, ?_⟩
      have d1 : decide ((wv : Int) < 0) = false := decide_eq_false (by omega)
      have d2 : decide ((0 : Int) < 0) = false := rfl
      have d3 : decide ((0 : Int) = (wv : Int)) = false := decide_eq_false (by omega)
      unfold q8_76
      rcases hs1 with ⟨_, hwd⟩ | hmod
      · have hu : (usedL (wrF n 0 o l s1).1.wd n).length = 0 := by rw [hwd]; exact usedL_zero n
        have d5 : decide ((left : Int) = (n : Int)) = true := decide_eq_true (by omega)
        have hadd : IntKind.i64.wrap ((o : Int) + 0) = (o : Int) := by rw [wrap_i64 (by omega) (by omega)]; omega
        have d4 : decide ((left : Int) ≤ 2) = true := decide_eq_true (by omega)
        by_cases hm : ((o : Int)).tmod 64 = 0
        · simp only [ob_some, b2_some, bc_ret, bcn_ret, gd_tt, gd_ff, gd_tf, gd_ft, ypk_true, ypk_false, yIf_true, yIf_false, semNil_ptr, fa_ptr, ld1_ptr, ext_tup, fd1_agg, un_not, bin_add, bin_sub, bin_mul, bin_eql, bin_neq, bin_lss, bin_leq, bin_gtr, bin_geq, Nat.zero_add, Nat.mul_one, c1, e4, r0, r1, r2, r3, List.getElem?_cons_zero, List.getElem?_cons_succ, d1, d2, d3, d4, d5, Nm', decide_true, hbb, bne_self_eq_false, gd_un, hadd, bin_rem (show (64 : Int) ≠ 0 by omega), decide_eq_true hm, L4]
          rfl
        · simp only [ob_some, b2_some, bc_ret, bcn_ret, gd_tt, gd_ff, gd_tf, gd_ft, ypk_true, ypk_false, yIf_true, yIf_false, semNil_ptr, fa_ptr, ld1_ptr, ext_tup, fd1_agg, un_not, bin_add, bin_sub, bin_mul, bin_eql, bin_neq, bin_lss, bin_leq, bin_gtr, bin_geq, Nat.zero_add, Nat.mul_one, c1, e4, r0, r1, r2, r3, List.getElem?_cons_zero, List.getElem?_cons_succ, d1, d2, d3, d4, d5, Nm', decide_true, hbb, bne_self_eq_false, gd_un, hadd, bin_rem (show (64 : Int) ≠ 0 by omega), decide_eq_false hm, L4]
          rfl
      · have hadd : IntKind.i64.wrap ((o : Int) + 0) = (o : Int) := by rw [wrap_i64 (by omega) (by omega)]; omega
        have hm : ((o : Int)).tmod 64 = 0 := by rw [Int.tmod_eq_emod_of_nonneg (by omega)]; omega
        have d4 : decide ((left : Int) ≤ 2) = true := decide_eq_true (by omega)
        simp only [ob_some, b2_some, bc_ret, bcn_ret, gd_tt, gd_ff, gd_tf, gd_ft, ypk_true, ypk_false, yIf_true, yIf_false, semNil_ptr, fa_ptr, ld1_ptr, ext_tup, fd1_agg, un_not, bin_add, bin_sub, bin_mul, bin_eql, bin_neq, bin_lss, bin_leq, bin_gtr, bin_geq, Nat.zero_add, Nat.mul_one, c1, e4, r0, r1, r2, r3, List.getElem?_cons_zero, List.getElem?_cons_succ, d1, d2, d3, d4, Nm', decide_true, hbb, bne_self_eq_false, gd_un, hadd, bin_rem (show (64 : Int) ≠ 0 by omega), decide_eq_true hm, L4]
        rfl
    · obtain ⟨c1, A3, M3⟩ := w2 hz
      obtain ⟨h4, e4, F4⟩ := Rm _ _ _ _ _ _ _ _ _ A3
      generalize hleft : n - (usedL (wrF n 0 o l s1).1.wd n).length = left at *
      obtain ⟨r0, r1, r2, r3⟩ := roomV_ext n left 1 (1 - (usedN us1 1).length)
      have L4 := hLv h4 ⟨F4.ng.trans F03.ng, Nat.le_trans F03.next F4.next, fun j hj e => (F4.same j (Nat.lt_of_lt_of_le hj F03.next) e).trans (F03.same j hj e), fun hf => F4.fr (F03.fr hf)⟩
      have hbb := neq_bools Tryd.underlying4
      generalize hv : (wrF n 0 o l s1).2 = v at *
      have d1 : decide ((wv : Int) < (v : Int)) = false := decide_eq_false (by omega)
      have d2 : decide ((v : Int) < 0) = false := decide_eq_false (by omega)
      have d0 : decide ((v : Int) = 0) = false := decide_eq_false (by omega)
      have d6 : decide ((0 : Int) < (v : Int)) = true := decide_eq_true (by omega)
      have d28 : decide ((0 : Int) = 28) = false := rfl
      have d00 : decide ((0 : Int) ≠ 0) = false := rfl
      refine ⟨h4, ?_⟩
      unfold q8_76
      by_cases hfull : v = wv
      · have d3 : decide ((v : Int) = (wv : Int)) = true := decide_eq_true (by omega)
        simp only [ob_some, b2_some, bc_ret, bcn_ret, gd_tt, gd_ff, gd_tf, gd_ft, ypk_true, ypk_false, yIf_true, yIf_false, semNil_ptr, fa_ptr, ld1_ptr, ext_tup, fd1_agg, un_not, bin_add, bin_sub, bin_mul, bin_eql, bin_neq, bin_lss, bin_leq, bin_gtr, bin_geq, Nat.zero_add, Nat.mul_one, c1, e4, r0, r1, r2, r3, List.getElem?_cons_zero, List.getElem?_cons_succ, d1, d2, d0, d6, d28, d00, d3, Nm', decide_true, hbb, bne_self_eq_false, gd_un, L4]
        rfl
      · obtain ⟨hs1, hs2⟩ := hsh (by omega)
        have hmod : (o + v) % 64 = 0 := by
          rcases hs1 with ⟨e, _⟩ | e
          · omega
          · exact e
        have d3 : decide ((v : Int) = (wv : Int)) = false := decide_eq_false (by omega)
        have hadd : IntKind.i64.wrap ((o : Int) + (v : Int)) = ((o + v : Nat) : Int) := by rw [wrap_i64 (by omega) (by omega)]; omega
        have hm : ((o + v : Nat) : Int).tmod 64 = 0 := by rw [Int.tmod_eq_emod_of_nonneg (by omega)]; omega
        have d4 : decide ((left : Int) ≤ 2) = true := decide_eq_true (by omega)
        simp only [ob_some, b2_some, bc_ret, bcn_ret, gd_tt, gd_ff, gd_tf, gd_ft, ypk_true, ypk_false, yIf_true, yIf_false, semNil_ptr, fa_ptr, ld1_ptr, ext_tup, fd1_agg, un_not, bin_add, bin_sub, bin_mul, bin_eql, bin_neq, bin_lss, bin_leq, bin_gtr, bin_geq, Nat.zero_add, Nat.mul_one, c1, e4, r0, r1, r2, r3, List.getElem?_cons_zero, List.getElem?_cons_succ, d1, d2, d0, d6, d28, d00, d3, d4, Nm', decide_true, hbb, bne_self_eq_false, gd_un, hadd, bin_rem (show (64 : Int) ≠ 0 by omega), hm, L4]
        rfl
  obtain ⟨h', mid⟩ := mid
  refine ⟨h', ?_⟩
  have hp := eql_ptr_nil (k := T.kt) (off := 0) Tryd.underlying64
  have hne : decide ((0 : Int) ≠ 0) = false := rfl
  have e1' : C (.fn 36) [.int .i64 (n : Int), .int .i64 1] h0 = some (.ret (.tup [.ptr T.kt 0, .int .i64 0]), h1) := by rw [hTt]; exact e1
  simp only [ob_some, b2_some, bc_ret, bcn_ret, gd_tt, gd_ff, gd_tf, gd_ft, ypk_true, ypk_false, yIf_true, yIf_false, semNil_ptr, fa_ptr, ld1_ptr, ext_tup, fd1_agg, un_not, bin_add, bin_sub, bin_mul, bin_eql, bin_neq, bin_lss, bin_leq, bin_gtr, bin_geq, Nat.zero_add, Nat.mul_one, decide_eq_false g1, decide_eq_false g2, decide_eq_false g3, decide_eq_false g4, hlen, decide_eq_false g5]
  unfold q8_115 q8_114
  simp only [ob_some, b2_some, bc_ret, bcn_ret, gd_tt, gd_ff, gd_tf, gd_ft, ypk_true, ypk_false, yIf_true, yIf_false, semNil_ptr, fa_ptr, ld1_ptr, ext_tup, fd1_agg, un_not, bin_add, bin_sub, bin_mul, bin_eql, bin_neq, bin_lss, bin_leq, bin_gtr, bin_geq, Nat.zero_add, Nat.mul_one, e1', List.getElem?_cons_zero, List.getElem?_cons_succ]
  unfold q8_109 q8_108
  simp only [ob_some, b2_some, bc_ret, bcn_ret, gd_tt, gd_ff, gd_tf, gd_ft, ypk_true, ypk_false, yIf_true, yIf_false, semNil_ptr, fa_ptr, ld1_ptr, ext_tup, fd1_agg, un_not, bin_add, bin_sub, bin_mul, bin_eql, bin_neq, bin_lss, bin_leq, bin_gtr, bin_geq, Nat.zero_add, Nat.mul_one, Nm', hne, hp]
  unfold q8_99 q8_98
  simp only [ob_some, b2_some, bc_ret, bcn_ret, gd_tt, gd_ff, gd_tf, gd_ft, ypk_true, ypk_false, yIf_true, yIf_false, semNil_ptr, fa_ptr, ld1_ptr, ext_tup, fd1_agg, un_not, bin_add, bin_sub, bin_mul, bin_eql, bin_neq, bin_lss, bin_leq, bin_gtr, bin_geq, Nat.zero_add, Nat.mul_one, e2, List.getElem?_cons_zero, List.getElem?_cons_succ]
  unfold q8_93 q8_92
  simp only [ob_some, b2_some, bc_ret, bcn_ret, gd_tt, gd_ff, gd_tf, gd_ft, ypk_true, ypk_false, yIf_true, yIf_false, semNil_ptr, fa_ptr, ld1_ptr, ext_tup, fd1_agg, un_not, bin_add, bin_sub, bin_mul, bin_eql, bin_neq, bin_lss, bin_leq, bin_gtr, bin_geq, Nat.zero_add, Nat.mul_one, Nm', hne]
  unfold q8_88 q8_87
  simp only [ob_some, b2_some, bc_ret, bcn_ret, gd_tt, gd_ff, gd_tf, gd_ft, ypk_true, ypk_false, yIf_true, yIf_false, semNil_ptr, fa_ptr, ld1_ptr, ext_tup, fd1_agg, un_not, bin_add, bin_sub, bin_mul, bin_eql, bin_neq, bin_lss, bin_leq, bin_gtr, bin_geq, Nat.zero_add, Nat.mul_one, hlen]
  rw [want]
  exact mid
end
end Go.Proofs.YtomialandfplkaaDoor.Eva
namespace Go.Proofs.YtomialandfplkaaDoor.Eva
open Go.Xe
set_option linter.unusedSimpArgs false
@[irreducible] def LF : Nat := 2 ^ 64
theorem le_LF {n : Nat} (h : n ≤ 2 ^ 64) : n ≤ LF := by unfold LF; exact h
theorem call_fn {P : Program} {tab : Tr (YE P)} {lf n k : Nat} {y : YX P} {f : FuncId} {args : List SV} {h : HW} (hk : k = n + 1) (hy : y.x.f = f) (hg : getP (path f) tab = some (.fn y)) : (runY tab lf k).call (.fn f) args h = y.s (runY tab lf n).call lf args h := by
  subst hk
  have : (runY tab lf (n + 1)).call (.fn f) args h = runE (runY tab lf n) lf f args h (getP (path f) tab) := rfl
  rw [this, hg]
  simp only [runE, hy, Nat.beq_refl, cond_true]
noncomputable def tabLC {P : Program} : List (FuncId × YE P) → Tr (YE P)
  | [] => .nil
  | (f, x) :: xs => (tabLC xs).put f x
end Go.Proofs.YtomialandfplkaaDoor.Eva
