/- BlocksActs: its arguments, and that it answers true. -/
import Derived.Test.YtomialandfplkaaDoorCards
import Derived.Deep.DeepHandedRow
import Derived.Test.YtomialandfplkaaDoorWBlocksActsm4
import Derived.Test.YtomialandfplkaaDoorWBlocksActsm2
set_option linter.unusedSimpArgs false
set_option linter.unusedVariables false
namespace Go.Proofs.YtomialandfplkaaDoor.Eva
open Go.Xe
set_option linter.unusedSimpArgs false

section
variable {lf m : Nat} {Z : Nat → Prop} {h : HW} {k dk r ro rb n : Nat} {wd b : Nat → Nat} {q : Nat → Option Nat}
theorem bin_xorU {P : Program} {t : TypeId} (v : Int) : ∃ z : Int, bin P .xor t (.int .u8 v) (.int .u8 255) = some (.int .u8 z) := by
  rw [bin_bits .xor (.inr (.inr (.inl rfl)))]
  refine ⟨IntKind.u8.wrap ((BitVec.ofInt 8 v ^^^ BitVec.ofInt 8 255).toNat : Int), ?_⟩
  show some (forceI (IntKind.u8.wrap ((BitVec.ofInt 8 v ^^^ BitVec.ofInt 8 255).toNat : Int)) fun r => SV.int .u8 r) = _
  rw [forceI_eq]
theorem xor_loop {C : YC} {lf kb : Nat} {x0 x5 x12 x13 x14 : Option SV} {h0 : HW} (e1 : K6) : ∀ (d t : Nat), t + d = 64 → ∀ f, d < f → ∀ h, h.wr kb 64 → (∀ j, j < 64 → ∃ v, h.cell kb j = some (.int .u8 v)) → Frm h0 h (· = kb) → h.next = h0.next →
    ∃ h', lp (l25_68 C lf e1) f (x0, x5, some (.sl kb 0 64 (some 64) 0), x12, x13, x14, some (.int .i64 64), some (.int .i64 (t : Int))) h = e1 x0 x5 (some (.sl kb 0 64 (some 64) 0)) x12 x13 x14 h' ∧ Frm h0 h' (· = kb) ∧ h'.next = h0.next
  | 0, t, hw, f, hf, h, a1, a2, a3, a4 => by
    obtain ⟨f, rfl⟩ : ∃ g, f = g + 1 := ⟨f - 1, by omega⟩
    have : t = 64 := by omega
    subst this
    refine ⟨h, ?_, a3, a4⟩
    rw [lp_succ]
    unfold l25_68 q25_81
    have hlt : decide (((64 : Nat) : Int) < 64) = false := by decide
    simp only [ob_some, b2_some, bc_ret, bcn_ret, gd_tt, gd_ff, gd_tf, gd_ft, ypk_true, ypk_false, yIf_true, yIf_false, semNil_ptr, fa_ptr, ld1_ptr, ext_tup, fd1_agg, un_not, bin_add, bin_sub, bin_mul, bin_eql, bin_neq, bin_lss, bin_leq, bin_gtr, bin_geq, Nat.zero_add, Nat.mul_one, hlt]
  | d + 1, t, hw, f, hf, h, a1, a2, a3, a4 => by
    obtain ⟨f, rfl⟩ : ∃ g, f = g + 1 := ⟨f - 1, by omega⟩
    have hlt : decide ((t : Int) < 64) = true := decide_eq_true (by omega)
    have hinc : IntKind.i64.wrap ((t : Int) + 1) = ((t + 1 : Nat) : Int) := by rw [wrap_i64 (by omega) (by omega)]; omega
    have hix := ixS_sl (s := 1) (k := kb) (off := 0) (len := 64) (lo := 0) (cap := some 64) (kd := .i64) (i := (t : Int)) (by omega) (by omega)
    rw [Int.toNat_natCast, Nat.mul_one, Nat.zero_add] at hix
    obtain ⟨v, hv⟩ := a2 t (by omega)
    obtain ⟨z, hz⟩ := bin_xorU (P := Tryd.prog) (t := 5) v
    have hst := st_ptr (n := 1) (off := t) (y := .int .u8 z) a1 rfl (by omega) rfl
    obtain ⟨h', b1, b2⟩ := xor_loop (lf := lf) (C := C) (x0 := x0) (x5 := x5) (x12 := x12) (x13 := x13) (x14 := x14) (h0 := h0) e1 d (t + 1) (by omega) f (by omega) (h.set kb t [.int .u8 z]) (wr_set a1) (fun j hj => by
      by_cases e : j = t
      · subst e
        exact ⟨z, by rw [cell_set_same a1 (by simp; omega) (Nat.le_refl _) (by simp)]; simp⟩
      · obtain ⟨v', hv'⟩ := a2 j hj
        exact ⟨v', by rw [cell_set_off (.inr (by simp; omega))]; exact hv'⟩) (a3.trans (frm_set rfl)) (by rw [set_next]; exact a4)
    refine ⟨h', ?_, b2⟩
    refine Eq.trans ?_ b1
    rw [lp_succ]
    show q25_81 C lf (fun x0 x5 x11 x12 x13 x14 x70 x71 h => lp (l25_68 C lf e1) f (x0, x5, x11, x12, x13, x14, x70, x71) h) e1 x0 x5 (some (.sl kb 0 64 (some 64) 0)) x12 x13 x14 (some (.int .i64 64)) (some (.int .i64 (t : Int))) h = _
    unfold q25_81
    simp only [ob_some, b2_some, bc_ret, bcn_ret, gd_tt, gd_ff, gd_tf, gd_ft, ypk_true, ypk_false, yIf_true, yIf_false, semNil_ptr, fa_ptr, ld1_ptr, ext_tup, fd1_agg, un_not, bin_add, bin_sub, bin_mul, bin_eql, bin_neq, bin_lss, bin_leq, bin_gtr, bin_geq, Nat.zero_add, Nat.mul_one, hlt, hix, hv, hz, hst, SV.cells, hinc]
theorem act2 {C : YC} (hlf : 100 ≤ lf) (P : BlocksOK C) (Q : RefOK C) (A : St Z h k dk r ro rb n wd q b) {kx : Nat} {i : Int} (hi1 : -9223372036854775808 ≤ i) (hi2 : i < 9223372036854775808) (hx : h.cell kx 1 = some (.int .i64 i)) (hxl : kx < h.next) (rr : K1) :
    ∃ h', q25_104 C lf rr (some (.ptr k 0)) (some (.ptr r 0)) (some (.ptr kx 0)) h = rr (some (.bool true)) h' ∧ St Z h' k dk r ro rb n wd q b ∧ Step Z h h' := by
  cases hu : inUse n wd i with
  | false =>
    have e1 := (P.read h k dk n wd b i A.S hi1 hi2).1 hu
    have e2 := (Q.read h r ro rb n _ q b i A.R).1 hu
    have d22 : decide ((22 : Int) = 22) = true := rfl
    have hl : lenE Tryd.prog 24 (.val (.slice none 0 0)) = some (.int .i64 0) := by simp [lenE, Tryd.underlying24, forceI_eq]
    have Bn : Bytes h (.val (.slice none 0 0)) [] := ⟨fun c hc => by simp at hc, .inl ⟨.inl rfl, rfl⟩⟩
    have es := P.same h _ _ _ _ Bn Bn
    have dn : decide (([] : List Nat) = []) = true := by simp
    have d00 : decide ((0 : Int) = 0) = true := rfl
    have hlp : lp (l25_68 C lf (fun x0 x5 x11 x12 x13 x14 h => q25_67 C lf rr x0 x5 x11 x12 x13 x14 h)) lf (some (.ptr k 0), some (.ptr kx 0), some (.val (.slice none 0 0)), some (.int .i64 22), some (.val (.slice none 0 0)), some (.int .i64 22), some (.int .i64 0), some (.int .i64 0)) h = q25_67 C lf rr (some (.ptr k 0)) (some (.ptr kx 0)) (some (.val (.slice none 0 0))) (some (.int .i64 22)) (some (.val (.slice none 0 0))) (some (.int .i64 22)) h := by
      obtain ⟨f, rfl⟩ : ∃ g, lf = g + 1 := ⟨lf - 1, by omega⟩
      rw [lp_succ]
      conv => lhs; unfold l25_68 q25_81
      have hlt : decide ((0 : Int) < 0) = false := by decide
      simp only [ob_some, b2_some, bc_ret, bcn_ret, gd_tt, gd_ff, gd_tf, gd_ft, ypk_true, ypk_false, yIf_true, yIf_false, semNil_ptr, fa_ptr, ld1_ptr, ext_tup, fd1_agg, un_not, bin_add, bin_sub, bin_mul, bin_eql, bin_neq, bin_lss, bin_leq, bin_gtr, bin_geq, Nat.zero_add, Nat.mul_one, hlt]
    refine ⟨h, ?_, A, Frm.refl _ _⟩
    unfold q25_104 q25_103 q25_95 q25_94 q25_86 q25_85 q25_84
    simp only [ob_some, b2_some, bc_ret, bcn_ret, gd_tt, gd_ff, gd_tf, gd_ft, ypk_true, ypk_false, yIf_true, yIf_false, semNil_ptr, fa_ptr, ld1_ptr, ext_tup, fd1_agg, un_not, bin_add, bin_sub, bin_mul, bin_eql, bin_neq, bin_lss, bin_leq, bin_gtr, bin_geq, Nat.zero_add, Nat.mul_one, hx, e1, e2, List.getElem?_cons_zero, List.getElem?_cons_succ, hl]
    refine Eq.trans hlp ?_
    unfold q25_67
    simp only [ob_some, b2_some, bc_ret, bcn_ret, gd_tt, gd_ff, gd_tf, gd_ft, ypk_true, ypk_false, yIf_true, yIf_false, semNil_ptr, fa_ptr, ld1_ptr, ext_tup, fd1_agg, un_not, bin_add, bin_sub, bin_mul, bin_eql, bin_neq, bin_lss, bin_leq, bin_gtr, bin_geq, Nat.zero_add, Nat.mul_one, hx, e1, List.getElem?_cons_zero, List.getElem?_cons_succ, d22, decide_true, es, dn, hl, d00]
  | true =>
    obtain ⟨g1, e1, n1, w1, c1, F1⟩ := (P.read h k dk n wd b i A.S hi1 hi2).2 hu
    have A1 := A.frame F1 (fun e => e) (fun e => e) (fun _ _ e => e) (fun _ e => e.elim)
    have hx1 : g1.cell kx 1 = some (.int .i64 i) := by rw [(F1.same kx hxl (fun e => e)).cell]; exact hx
    obtain ⟨xc, g2, e2, N2, F2⟩ := (Q.read g1 r ro rb n _ q b i A1.R).2 hu
    have A2 := A1.frame F2 (fun e => e) (fun e => e) (fun _ _ e => e) (fun _ e => e.elim)
    have s12 : SameOb g1 g2 h.next := F2.same _ (by omega) (fun e => e)
    obtain ⟨g3, e3, F3, n3⟩ := xor_loop (lf := lf) (C := C) (kb := h.next) (x0 := some (.ptr k 0)) (x5 := some (.ptr kx 0)) (x12 := some (.int .i64 0)) (x13 := some xc) (x14 := some (.int .i64 0)) (h0 := g2)
      (fun x0 x5 x11 x12 x13 x14 h => q25_67 C lf rr x0 x5 x11 x12 x13 x14 h) 64 0 (by omega) lf (by omega) g2 (wr_same w1 s12) (fun j hj => ⟨_, by rw [s12.cell]; exact c1 j hj⟩) (Frm.refl _ _) rfl
    have hkn : k ≠ h.next := by have := A.S.lk; omega
    have hdn : dk ≠ h.next := by have := A.S.ldk; omega
    have A3 := A2.frame F3 hkn hdn (fun j hj e => by have := A.R.row_lt hj; omega) (fun j e hz => by have := A.bn j hz; omega)
    obtain ⟨g4, e4, n4, w4, c4, F4⟩ := (P.read g3 k dk n wd b i A3.S hi1 hi2).2 hu
    have A4 := A3.frame F4 (fun e => e) (fun e => e) (fun _ _ e => e) (fun _ e => e.elim)
    have F12 := F1.trans F2
    have hx2 : g3.cell kx 1 = some (.int .i64 i) := by
      rw [(F3.same kx (by have := F12.next; omega) (by omega)).cell, (F2.same kx (by omega) (fun e => e)).cell]; exact hx1
    have Bd : Bytes g4 (.sl g3.next 0 64 (some 64) 0) (blkL b i.toNat) := read_bytes (f := fun j => b (i.toNat * 64 + j)) (fun j => A.S.blt _) w4 c4
    have Bc : Bytes g4 xc (blkL b i.toNat) := N2.b.frame fun kb ob len cap lo e => by
      obtain ⟨o1, o2, _⟩ := N2.w kb (by rw [e]; rfl)
      exact (F4.same kb (by omega) (fun e => e)).trans (F3.same kb o2 (by omega))
    have es := P.same g4 _ _ _ _ Bd Bc
    have dn : decide (blkL b i.toNat = blkL b i.toNat) = true := by simp
    rw [dn] at es
    have hl1 : lenE Tryd.prog 24 (.sl h.next 0 64 (some 64) 0) = some (.int .i64 64) := lenE_sl Tryd.underlying24
    have hl2 : lenE Tryd.prog 24 xc = some (.int .i64 64) := by
      have := len_bytes (P := Tryd.prog) Tryd.underlying24 Bc
      rw [blkL_length] at this
      exact this
    have d00 : decide ((0 : Int) = 0) = true := rfl
    have d64 : decide ((64 : Int) = 64) = true := rfl
    refine ⟨g4, ?_, A4, ((Step.of F1 fun _ e => e.elim).trans (Step.of F2 fun _ e => e.elim)).trans ((Step.of F3 fun j e hz => by have := A.bn j hz; omega).trans (Step.of F4 fun _ e => e.elim))⟩
    unfold q25_104 q25_103 q25_95 q25_94 q25_86 q25_85 q25_84
    simp only [ob_some, b2_some, bc_ret, bcn_ret, gd_tt, gd_ff, gd_tf, gd_ft, ypk_true, ypk_false, yIf_true, yIf_false, semNil_ptr, fa_ptr, ld1_ptr, ext_tup, fd1_agg, un_not, bin_add, bin_sub, bin_mul, bin_eql, bin_neq, bin_lss, bin_leq, bin_gtr, bin_geq, Nat.zero_add, Nat.mul_one, hx, e1, hx1, e2, List.getElem?_cons_zero, List.getElem?_cons_succ, hl1]
    refine Eq.trans e3 ?_
    unfold q25_67
    simp only [ob_some, b2_some, bc_ret, bcn_ret, gd_tt, gd_ff, gd_tf, gd_ft, ypk_true, ypk_false, yIf_true, yIf_false, semNil_ptr, fa_ptr, ld1_ptr, ext_tup, fd1_agg, un_not, bin_add, bin_sub, bin_mul, bin_eql, bin_neq, bin_lss, bin_leq, bin_gtr, bin_geq, Nat.zero_add, Nat.mul_one, hx2, e4, List.getElem?_cons_zero, List.getElem?_cons_succ, d00, decide_true, es, hl1, hl2, d64]

/-- Write. -/
theorem act3 {C : YC} (P : BlocksOK C) (Q : RefOK C) (A : St Z h k dk r ro rb n wd q b) {kx : Nat} {i at_ : Int} {bx : SV} {l : List Nat} (hi1 : -9223372036854775808 ≤ i) (hi2 : i < 9223372036854775808) (ha1 : -9223372036854775808 ≤ at_) (ha2 : at_ < 9223372036854775808)
    (hx1 : h.cell kx 1 = some (.int .i64 i)) (hx2 : h.cell kx 2 = some (.int .i64 at_)) (hx3 : h.cell kx 3 = some bx) (hxl : kx < h.next) (hxm : ∃ mm, h.mt kx = some mm) (hxk : kx ≠ k ∧ kx ≠ dk ∧ ¬ rowsR r ro rb n q kx)
    (B : Bytes h bx l) (hl : l.length ≤ 140737488351232) (hb : ∀ j, rowOf bx = some j → Z j) (nn : K3) (rr : K1) :
    ∃ h' b', q25_142 C lf nn rr (some (.ptr k 0)) (some (.ptr r 0)) (some (.ptr kx 0)) (some (.int .i64 3)) h = rr (some (.bool true)) h' ∧ St Z h' k dk r ro rb n wd q b' ∧ Step Z h h' := by
  have hbn : ∀ {j}, rowOf bx = some j → j < h.next := fun hj => A.bn _ (hb _ hj)
  obtain ⟨g1, e1, W1, F1, n1⟩ := Q.lend h bx l B hl (fun j hj => hbn hj)
  have A1 := A.frame F1 (fun e => e) (fun e => e) (fun _ _ e => e) (fun _ e => e.elim)
  have sx : SameOb h g1 kx := F1.same kx hxl (fun e => e)
  have y1 : g1.cell kx 1 = some (.int .i64 i) := by rw [sx.cell]; exact hx1
  have y2 : g1.cell kx 2 = some (.int .i64 at_) := by rw [sx.cell]; exact hx2
  have y3 : g1.cell kx 3 = some bx := by rw [sx.cell]; exact hx3
  have hxm1 : ∃ mm, g1.mt kx = some mm := by obtain ⟨mm, hm⟩ := hxm; exact ⟨mm, by rw [sx.mt]; exact hm⟩
  have Bl := W1.bytes B.1
  have Bx1 : Bytes g1 bx l := B.frame fun kb ob len cap lo e => F1.same kb (hbn (by rw [e]; rfl)) (fun e => e)
  have d3 : decide ((3 : Int) = 3) = true := rfl
  have d22 : decide ((22 : Int) = 22) = true := rfl
  have d0 : decide ((0 : Int) = 0) = true := rfl
  have hrow : ∀ j, rowOf bx = some j → j < g1.next ∧ ¬ rowsR r ro rb n q j := fun j hj => ⟨by have := hbn hj; omega, fun e => A.lor j e (hb j hj)⟩
  have hckOf : ∀ {g : HW}, SameOb g1 g kx → ∀ R : Rs, ck (chkH [(13, adrO (some (.ptr kx 3))), (11, adrO (some (.ptr kx 2))), (9, adrO (some (.ptr kx 1))), (4, adrO (some (.ptr kx 2))), (2, adrO (some (.ptr kx 1)))] g1 g [13, 11, 9]) R = R := fun s R => by
    have := sameH_of (by omega : kx < g1.next) hxm1 s
    show ck (sameH g1 _ kx && (sameH g1 _ kx && (sameH g1 _ kx && true))) R = R
    rw [this]; rfl
  by_cases hbad : badW n wd i at_ l
  · have e2 := (P.write g1 k dk n wd b i at_ _ l A1.S Bl (by omega) hi1 hi2 ha1 ha2).1 hbad
    have e3 := (Q.write g1 r ro rb n _ q b i at_ bx l A1.R Bx1 hrow (by omega) ha1 ha2).1 hbad
    have e4 := Q.kept g1 h.next bx l W1 Bx1 hl
    refine ⟨g1, b, ?_, A1, Step.of F1 fun _ e => e.elim⟩
    unfold q25_142
    simp only [ob_some, b2_some, bc_ret, bcn_ret, gd_tt, gd_ff, gd_tf, gd_ft, ypk_true, ypk_false, yIf_true, yIf_false, semNil_ptr, fa_ptr, ld1_ptr, ext_tup, fd1_agg, un_not, bin_add, bin_sub, bin_mul, bin_eql, bin_neq, bin_lss, bin_leq, bin_gtr, bin_geq, Nat.zero_add, Nat.mul_one, d3, hx3, e1, List.getElem?_cons_zero, List.getElem?_cons_succ, y1, y2, y3, e2, hckOf rfl, e3, d22, decide_true, e4]
  · obtain ⟨g2, e2, S2, n2, F2⟩ := (P.write g1 k dk n wd b i at_ _ l A1.S Bl (by omega) hi1 hi2 ha1 ha2).2 hbad
    have R2 : RefAt g2 r ro rb n (onB wd) q b := A1.R.frm F2 fun j hj e => (A.nk j hj).2 e
    have Bx2 : Bytes g2 bx l := Bx1.frame fun kb ob len cap lo e => F2.same kb (hrow kb (by rw [e]; rfl)).1 (fun e2 => A.lod (by rw [← e2]; exact hb kb (by rw [e]; rfl)))
    obtain ⟨g3, e3, R3, n3, F3⟩ := (Q.write g2 r ro rb n _ q b i at_ bx l R2 Bx2 (fun j hj => ⟨by have := (hrow j hj).1; omega, (hrow j hj).2⟩) (by omega) ha1 ha2).2 hbad
    have hi0 : i.toNat < n ∧ 0 ≤ i := by
      have hu : inUse n wd i = true := by
        cases hu : inUse n wd i with
        | true => rfl
        | false => exact absurd (.inl hu) hbad
      simp only [inUse, Bool.and_eq_true, decide_eq_true_eq] at hu
      omega
    have qrow : ∀ j, q i.toNat = some j → rowsR r ro rb n q j := fun j e => .inr (.inr (.inr ⟨i.toNat, hi0.1, e⟩))
    have S3 := S2.frm F3 (fun e => (A.nk _ (qrow _ e)).1 rfl) (fun e => (A.nk _ (qrow _ e)).2 rfl)
    have s2 : SameOb g1 g2 kx := F2.same kx (by omega) hxk.2.1
    have s3 : SameOb g2 g3 kx := F3.same kx (by omega) (fun e => hxk.2.2 (qrow _ e))
    have z3 : g3.cell kx 3 = some bx := by rw [s3.cell, s2.cell]; exact y3
    have sw : SameOb g1 g3 h.next := (F3.same _ (by omega) (fun e => by have := A.R.row_lt (qrow _ e); omega)).trans (F2.same _ (by omega) (by have := A.S.ldk; omega))
    have W3 : Whole g3 h.next l := ⟨wr_same W1.w sw, by rw [sw.cell]; exact W1.c0, by rw [sw.cell]; exact W1.c1, fun j hj => by rw [sw.cell]; exact W1.cs j hj, by omega⟩
    have Bx3 : Bytes g3 bx l := Bx2.frame fun kb ob len cap lo e => F3.same kb (by have := hbn (j := kb) (by rw [e]; rfl); omega) (fun e2 => A.lor _ (qrow _ e2) (hb kb (by rw [e]; rfl)))
    have e4 := Q.kept g3 h.next bx l W3 Bx3 hl
    have F13 : Step Z h g3 := ((Step.of F1 fun _ e => e.elim).trans (Step.of F2 fun j e => by rw [e]; exact A.lod)).trans (Step.of F3 fun j e => A.lor j (qrow j e))
    refine ⟨g3, _, ?_, ⟨S3, R3, A.nk, A.lok, A.lod, A.lor, A.T.frm F13 (A.bn _ A.gb) (fun e => e A.gb), F13.fr A.fr, A.gb, fun j hj => Nat.lt_of_lt_of_le (A.bn j hj) F13.next⟩, F13⟩
    unfold q25_142
    simp only [ob_some, b2_some, bc_ret, bcn_ret, gd_tt, gd_ff, gd_tf, gd_ft, ypk_true, ypk_false, yIf_true, yIf_false, semNil_ptr, fa_ptr, ld1_ptr, ext_tup, fd1_agg, un_not, bin_add, bin_sub, bin_mul, bin_eql, bin_neq, bin_lss, bin_leq, bin_gtr, bin_geq, Nat.zero_add, Nat.mul_one, d3, hx3, e1, List.getElem?_cons_zero, List.getElem?_cons_succ, y1, y2, y3, e2, hckOf s2, e3, d0, decide_true, z3, e4]
end
end Go.Proofs.YtomialandfplkaaDoor.Eva
namespace Go.Proofs.YtomialandfplkaaDoor.Eva
open Go.Xe
set_option linter.unusedSimpArgs false

section
variable {lf m : Nat} {Z : Nat → Prop} {h : HW} {k dk r ro rb n : Nat} {wd b : Nat → Nat} {q : Nat → Option Nat}
def ActOK (C : YC) : Prop := ∀ Z h k dk r ro rb n wd q b (kd i at_ : Int) bx l, St Z h k dk r ro rb n wd q b → -9223372036854775808 ≤ i → i < 9223372036854775808 → -9223372036854775808 ≤ at_ → at_ < 9223372036854775808 → Bytes h bx l → l.length ≤ 140737488351232 → (∀ j, rowOf bx = some j → Z j) →
  ∃ h' wd' q' b', C (.fn 25) [.ptr k 0, .ptr r 0, .agg [.int .i64 kd, .int .i64 i, .int .i64 at_, bx]] h = some (.ret (.bool true), h') ∧ St Z h' k dk r ro rb n wd' q' b' ∧ Step Z h h'
theorem Bytes.one {h : HW} {x : SV} {l : List Nat} (B : Bytes h x l) : x.cells = [x] := by
  rcases B.2 with ⟨rfl | ⟨_, rfl⟩, _⟩ | ⟨_, _, _, _, _, rfl, _⟩ <;> rfl
theorem act_ok {C : YC} (hlf : 100 ≤ lf) (P : BlocksOK C) (Q : RefOK C) (A : St Z h k dk r ro rb n wd q b) {kd i at_ : Int} {bx : SV} {l : List Nat} (hi1 : -9223372036854775808 ≤ i) (hi2 : i < 9223372036854775808) (ha1 : -9223372036854775808 ≤ at_) (ha2 : at_ < 9223372036854775808)
    (B : Bytes h bx l) (hl : l.length ≤ 140737488351232) (hb : ∀ j, rowOf bx = some j → Z j) :
    ∃ h' wd' q' b', fs25 C lf (.ptr k 0) (.ptr r 0) (.agg [.int .i64 kd, .int .i64 i, .int .i64 at_, bx]) h = some (.ret (.bool true), h') ∧ St Z h' k dk r ro rb n wd' q' b' ∧ Step Z h h' := by
  have hbx := ybx_eq (e := 47) (x := .agg [.int .i64 kd, .int .i64 i, .int .i64 at_, bx]) (h := h) rfl
  have hcy : (SV.agg [.int .i64 kd, .int .i64 i, .int .i64 at_, bx]).cells = [.int .i64 kd, .int .i64 i, .int .i64 at_, bx] := rfl
  rw [hcy] at hbx
  have hcell : ∀ j, (h.new (rowOb 47 [.int .i64 kd, .int .i64 i, .int .i64 at_, bx])).cell h.next j = [SV.int .i64 kd, .int .i64 i, .int .i64 at_, bx][j]? := fun j => by rw [cell_new_same, rowOb_get]
  have hm : ∃ mm, (h.new (rowOb 47 [.int .i64 kd, .int .i64 i, .int .i64 at_, bx])).mt h.next = some mm := ⟨_, by rw [mt_new, if_pos rfl]⟩
  have F0 : Frm h (h.new (rowOb 47 [.int .i64 kd, .int .i64 i, .int .i64 at_, bx])) (fun _ => False) := frm_new _ _ _
  have ng : (h.new (rowOb 47 [.int .i64 kd, .int .i64 i, .int .i64 at_, bx])).next = h.next + 1 := rfl
  generalize h.new (rowOb 47 [.int .i64 kd, .int .i64 i, .int .i64 at_, bx]) = g at *
  have A0 := A.frame F0 (fun e => e) (fun e => e) (fun _ _ e => e) (fun _ e => e.elim)
  have x0 : g.cell h.next 0 = some (.int .i64 kd) := hcell 0
  have x1 : g.cell h.next 1 = some (.int .i64 i) := hcell 1
  have x2 : g.cell h.next 2 = some (.int .i64 at_) := hcell 2
  have x3 : g.cell h.next 3 = some bx := hcell 3
  have B0 : Bytes g bx l := B.frame fun kb ob len cap lo e => F0.same kb (A.bn _ (hb kb (by rw [e]; rfl))) (fun e => e)
  have hxk : h.next ≠ k ∧ h.next ≠ dk ∧ ¬ rowsR r ro rb n q h.next := ⟨by have := A.S.lk; omega, by have := A.S.ldk; omega, fun e => by have := A.R.row_lt e; omega⟩
  have fin : ∀ x h, ff25 (some x) h = some (.ret x, h) := fun x h => rfl
  have S0 : Step Z h g := Step.of F0 fun _ e => e.elim
  have pre : fs25 C lf (.ptr k 0) (.ptr r 0) (.agg [.int .i64 kd, .int .i64 i, .int .i64 at_, bx]) h =
      q25_160 C lf (fun x0 x1 x5 h => q25_12 C lf ff25 x0 x1 x5 h) ff25 (some (.ptr k 0)) (some (.ptr r 0)) (some (.ptr h.next 0)) (some (.int .i64 kd)) g := by
    unfold fs25 q25_170 q25_169 q25_166 q25_165 q25_164
    simp only [ob_some, b2_some, bc_ret, bcn_ret, gd_tt, gd_ff, gd_tf, gd_ft, ypk_true, ypk_false, yIf_true, yIf_false, semNil_ptr, fa_ptr, ld1_ptr, ext_tup, fd1_agg, un_not, bin_add, bin_sub, bin_mul, bin_eql, bin_neq, bin_lss, bin_leq, bin_gtr, bin_geq, Nat.zero_add, Nat.mul_one, hbx, x0]
  rw [pre]
  unfold q25_160 q25_159 q25_156
  simp only [ob_some, bin_eql]
  by_cases k0 : kd = 0
  · obtain ⟨h', wd', q', b', e1, e2, e3⟩ := act0 (lf := lf) P Q A0 ff25
    refine ⟨h', wd', q', b', ?_, e2, S0.trans e3⟩
    rw [decide_eq_true k0, yIf_true, e1, fin]
  rw [decide_eq_false k0, yIf_false]
  unfold q25_154 q25_153 q25_150
  simp only [ob_some, bin_eql]
  by_cases k1 : kd = 1
  · obtain ⟨h', wd', q', b', e1, e2, e3⟩ := act1 (lf := lf) P Q A0 (kx := h.next) hi1 hi2 x1 (by omega) hm hxk ff25
    refine ⟨h', wd', q', b', ?_, e2, S0.trans e3⟩
    rw [decide_eq_true k1, yIf_true, e1, fin]
  rw [decide_eq_false k1, yIf_false]
  unfold q25_148 q25_147 q25_144
  simp only [ob_some, bin_eql]
  by_cases k2 : kd = 2
  · obtain ⟨h', e1, e2, e3⟩ := act2 hlf P Q A0 (kx := h.next) hi1 hi2 x1 (by omega) ff25
    refine ⟨h', wd, q, b, ?_, e2, S0.trans e3⟩
    rw [decide_eq_true k2, yIf_true, e1, fin]
  rw [decide_eq_false k2, yIf_false]
  by_cases k3 : kd = 3
  · subst k3
    obtain ⟨h', b', e1, e2, e3⟩ := act3 (lf := lf) P Q A0 (kx := h.next) hi1 hi2 ha1 ha2 x1 x2 x3 (by omega) hm hxk B0 hl hb (fun x0 x1 x5 h => q25_12 C lf ff25 x0 x1 x5 h) ff25
    refine ⟨h', wd, q, b', ?_, e2, S0.trans e3⟩
    rw [e1, fin]
  · refine ⟨g, wd, q, b, ?_, A0, S0⟩
    unfold q25_142
    simp only [ob_some, bin_eql, decide_eq_false k3, yIf_false]
    rw [act4 (lf := lf) P Q A0 (kx := h.next) hi1 hi2 x1 (by omega) hm ff25, fin]

/-! All blocks of a store go. -/
def TurnedOK (C : YC) : Prop := ∀ Z h k dk r ro rb n wd q b, St Z h k dk r ro rb n wd q b → ∃ h', C (.fn 28) [.ptr k 0, .ptr r 0] h = some (.ret (.bool true), h') ∧ Frm h h' (fun j => j = k ∨ j = dk)
theorem usedR_nodup (on : Nat → Bool) (n : Nat) : (usedR on n).Nodup := List.Pairwise.filter _ (List.nodup_range (n := n))
theorem turn_loop {C : YC} {lf : Nat} {x : SV} {l : List Nat} {h0 : HW} (P : BlocksOK C) (hnd : l.Nodup) (hln : ∀ i ∈ l, i < n) (I0 : IntsIn h0 x l) (hx : ∀ j, rowOf x = some j → j < h0.next ∧ j ≠ k ∧ j ≠ dk) (rr : K1) (e0 : K1) : ∀ (d t : Nat), t + d = l.length → ∀ f, d < f → ∀ h wd b, StoreAt h k dk n wd b → (∀ j, j < n → (onB wd j = true ↔ j ∈ l.drop t)) → Frm h0 h (fun j => j = k ∨ j = dk) →
    ∃ h' wd' b', lp (l28_7 C lf rr e0) f (some (.ptr k 0), some x, some (.int .i64 (l.length : Int)), some (.int .i64 (t : Int))) h = e0 (some (.ptr k 0)) h' ∧ StoreAt h' k dk n wd' b' ∧ (∀ j, j < n → onB wd' j = false) ∧ Frm h0 h' (fun j => j = k ∨ j = dk)
  | 0, t, hw, f, hf, h, wd, b, S, on, F => by
    obtain ⟨f, rfl⟩ : ∃ g, f = g + 1 := ⟨f - 1, by omega⟩
    have : t = l.length := by omega
    subst this
    refine ⟨h, wd, b, ?_, S, fun j hj => ?_, F⟩
    · rw [lp_succ]
      unfold l28_7 q28_29
      have hlt : decide ((l.length : Int) < (l.length : Int)) = false := by simp
      simp only [ob_some, b2_some, bc_ret, bcn_ret, gd_tt, gd_ff, gd_tf, gd_ft, ypk_true, ypk_false, yIf_true, yIf_false, semNil_ptr, fa_ptr, ld1_ptr, ext_tup, fd1_agg, un_not, bin_add, bin_sub, bin_mul, bin_eql, bin_neq, bin_lss, bin_leq, bin_gtr, bin_geq, Nat.zero_add, Nat.mul_one, hlt]
    · have := on j hj
      rw [List.drop_length] at this
      cases e : onB wd j with
      | false => rfl
      | true => exact absurd (this.1 e) (by simp)
  | d + 1, t, hw, f, hf, h, wd, b, S, on, F => by
    obtain ⟨f, rfl⟩ : ∃ g, f = g + 1 := ⟨f - 1, by omega⟩
    have h2 := S.n2
    have hle := I0.1
    have ht : t < l.length := by omega
    have hlt : decide ((t : Int) < (l.length : Int)) = true := decide_eq_true (by omega)
    have hinc : IntKind.i64.wrap ((t : Int) + 1) = ((t + 1 : Nat) : Int) := by rw [wrap_i64 (by omega) (by omega)]; omega
    have Ih : IntsIn h x l := I0.frame fun j hj => F.same j (hx j hj).1 (fun e => by have := hx j hj; omega)
    obtain ⟨a, a1, a2⟩ := Ih.at ht
    have hg : l.getD t 0 = l[t] := by simp [List.getD, ht]
    generalize hi : l[t] = i at *
    rw [hg] at a2
    have hin : i < n := hln i (by rw [← hi]; exact List.getElem_mem ht)
    have hdrop : l.drop t = i :: l.drop (t + 1) := by rw [← hi]; exact List.drop_eq_getElem_cons ht
    have hon : onB wd i = true := (on i hin).2 (by rw [hdrop]; exact List.mem_cons_self ..)
    have hu : inUse n wd (i : Int) = true := by
      have h9 : (i : Int) < n := by omega
      simp [inUse, h9, hon]
    -- the two bytes
    obtain ⟨z, hz, hzl⟩ := appT_u8.hz
    have hyb : ybs Tryd.prog 24 2 [0, 1] [.int .u8 9, .int .u8 9] h = some (.sl h.next 0 2 (some 2) 0, h.new (rowOb 5 [.int .u8 9, .int .u8 9])) := by
      obtain ⟨c, hc⟩ : ∃ c, (mkV z).cells = [c] := by
        match hm : (mkV z).cells, hzl with
        | [c], _ => exact ⟨c, rfl⟩
      unfold ybs semBuildSlice
      have h3 : (Nat.ble (2 * 1) 65536 && Nat.ble 1 1 && Nat.beq [c].length 1) = true := rfl
      have h4 : fillL (fun i => some (i * 1, 1)) (reps [c] 2) ([0, 1].zip [SV.int .u8 9, .int .u8 9]) = some [.int .u8 9, .int .u8 9] := rfl
      simp only [appT_u8.hu, appT_u8.hs, hz, hc, h3, cond_true, h4, newRow, force_eq]
      rfl
    have F1 : Frm h (h.new (rowOb 5 [.int .u8 9, .int .u8 9])) (fun j => j = k ∨ j = dk) := frm_new _ _ _
    have B9 : Bytes (h.new (rowOb 5 [.int .u8 9, .int .u8 9])) (.sl h.next 0 2 (some 2) 0) [9, 9] := by
      refine ⟨fun c hc => by simp at hc; omega, .inr ⟨h.next, 0, some 2, 0, (rowOb 5 [.int .u8 9, .int .u8 9]).mt, rfl, by rw [mt_new, if_pos rfl], fun j hj => ?_⟩⟩
      have hj : j < 2 := hj
      rw [Nat.zero_add, cell_new_same, rowOb_get]
      rcases (show j = 0 ∨ j = 1 by omega) with rfl | rfl <;> rfl
    have lk := S.lk
    have ldk := S.ldk
    have S1 := S.frm (frm_new h (rowOb 5 [.int .u8 9, .int .u8 9]) (fun _ => False)) (fun e => e) (fun e => e)
    generalize h.new (rowOb 5 [.int .u8 9, .int .u8 9]) = g1 at *
    obtain ⟨g2, w1, S2, w3, w4⟩ := (P.write g1 k dk n wd b (i : Int) 0 _ [9, 9] S1 B9 (by simp) (by omega) (by omega) (by omega) (by omega)).2 (by
      unfold badW
      rw [hu]
      simp)
    obtain ⟨g3, f1, S3, f3⟩ := (P.free g2 k dk n wd _ (i : Int) S2 (by omega) (by omega)).2 hu
    rw [Int.toNat_natCast] at S3
    have F3 := ((F.trans F1).trans (w4.weak fun _ e => .inr e)).trans (f3.weak fun _ e => .inl e)
    obtain ⟨h', wd', b', l1, l2⟩ := turn_loop (lf := lf) P hnd hln I0 hx rr e0 d (t + 1) (by omega) f (by omega) g3 _ _ S3 (fun j hj => by
      rw [onB_clr (S.wlt _)]
      have := on j hj
      rw [hdrop] at this
      have hni : i ∉ l.drop (t + 1) := by
        have h8 : (l.drop t).Nodup := (List.drop_sublist t l).nodup hnd
        rw [hdrop] at h8
        exact (List.nodup_cons.1 h8).1
      by_cases e : j = i
      · subst e
        simp [hni]
      · simp only [List.mem_cons, e, false_or] at this
        simp [e, this]) F3
    refine ⟨h', wd', b', ?_, l2⟩
    refine Eq.trans ?_ l1
    rw [lp_succ]
    show q28_29 C lf (fun x0 x8 x9 x10 h => lp (l28_7 C lf rr e0) f (x0, x8, x9, x10) h) rr e0 (some (.ptr k 0)) (some x) (some (.int .i64 (l.length : Int))) (some (.int .i64 (t : Int))) h = _
    unfold q28_29
    simp only [ob_some, b2_some, bc_ret, bcn_ret, gd_tt, gd_ff, gd_tf, gd_ft, ypk_true, ypk_false, yIf_true, yIf_false, semNil_ptr, fa_ptr, ld1_ptr, ext_tup, fd1_agg, un_not, bin_add, bin_sub, bin_mul, bin_eql, bin_neq, bin_lss, bin_leq, bin_gtr, bin_geq, Nat.zero_add, Nat.mul_one, hlt, a1, a2, hyb, w1, neF, f1, hinc]
theorem turned_ok {C : YC} (hlf : 4097 ≤ lf) (P : BlocksOK C) (Q : RefOK C) (A : St Z h k dk r ro rb n wd q b) : ∃ h', fs28 C lf (.ptr k 0) (.ptr r 0) h = some (.ret (.bool true), h') ∧ Frm h h' (fun j => j = k ∨ j = dk) := by
  have h2 := A.S.n2
  obtain ⟨x, g1, e1, e2, F1⟩ := Q.used h r ro rb n _ q b A.R
  have hle := usedR_le (onB wd) n
  have I1 := e2.inn (by omega)
  have S1 := A.S.frm F1 (fun e => e) (fun e => e)
  have lk := A.S.lk
  have ldk := A.S.ldk
  obtain ⟨g2, wd', b', l1, l2, l3, l4⟩ := turn_loop (lf := lf) (C := C) P (usedR_nodup (onB wd) n) (fun i hi => List.mem_range.1 (List.mem_filter.1 hi).1) I1 (fun j hj => ⟨e2.sl.row_lt hj, by have := e2.new j hj; omega, by have := e2.new j hj; omega⟩) ff28 (fun x0 h => q28_6 C lf ff28 x0 h) (usedR (onB wd) n).length 0 (by omega) lf (by omega) g1 wd b S1 (fun j hj => by
    rw [List.drop_zero]
    unfold usedR
    simp [List.mem_filter, hj]) (Frm.refl _ _)
  have hleft := P.left g2 k dk n wd' b' l2
  have htot := Q.total g2 k dk n wd' b' l2
  have hz : (usedL wd' n).length = 0 := by
    have : usedL wd' n = [] := by
      unfold usedL
      rw [List.filter_eq_nil_iff]
      intro j hj
      rw [l3 j (List.mem_range.1 hj)]; simp
    rw [this]; rfl
  rw [hz, Nat.sub_zero] at hleft
  have hd : decide ((n : Int) = (n : Int)) = true := by simp
  have hl := I1.len
  refine ⟨g2, ?_, (F1.weak fun _ e => e.elim).trans l4⟩
  unfold fs28 q28_37 q28_36 q28_35 q28_34 q28_33
  simp only [ob_some, b2_some, bc_ret, bcn_ret, gd_tt, gd_ff, gd_tf, gd_ft, ypk_true, ypk_false, yIf_true, yIf_false, semNil_ptr, fa_ptr, ld1_ptr, ext_tup, fd1_agg, un_not, bin_add, bin_sub, bin_mul, bin_eql, bin_neq, bin_lss, bin_leq, bin_gtr, bin_geq, Nat.zero_add, Nat.mul_one, e1, hl]
  refine Eq.trans l1 ?_
  unfold q28_6 ff28
  simp only [ob_some, b2_some, bc_ret, bcn_ret, gd_tt, gd_ff, gd_tf, gd_ft, ypk_true, ypk_false, yIf_true, yIf_false, semNil_ptr, fa_ptr, ld1_ptr, ext_tup, fd1_agg, un_not, bin_add, bin_sub, bin_mul, bin_eql, bin_neq, bin_lss, bin_leq, bin_gtr, bin_geq, Nat.zero_add, Nat.mul_one, hleft, htot, hd, decide_true]
end
end Go.Proofs.YtomialandfplkaaDoor.Eva
namespace Go.Proofs.YtomialandfplkaaDoor.Eva
open Go.Xe
set_option maxRecDepth 100000
set_option maxHeartbeats 400000
set_option linter.unusedVariables false
noncomputable section
/-! FN 5 tinsel/tinsellaw01.BlocksActs -/
noncomputable def fx5 : XF Tryd.prog := ⟨5, Tryd.f5, fun _ => .text, Tryd.func5, by kernel_rfl, by kernel_rfl, by kernel_rfl, by kernel_rfl⟩
noncomputable def ff5 (x4 : O) (h : HW) : Rs :=
 ob x4 fun a0 =>
 some (.ret a0, h)
noncomputable def q5_2 (C : YC) (lf : Nat) (r : K1) (h : HW) : Rs :=
 bc (C (.fn 15) [] h) fun y1 h1 =>
 r (some y1) h1
theorem q5_2_eq (C : YC) (lf : Nat) (r : K1) (KN : KF) (KE : KX) : ∀ F h, evX fx5 C lf [1, 1, 1, 1, 1, 1] F h KN (fun F h => r (F 4) h) KE = q5_2 C lf r h := by
  intro F h; kernel_rfl
noncomputable def q5_6 (C : YC) (lf : Nat) (n : K6) (x0 x5 x7 x40 x41 x42 : O) (h : HW) : Rs :=
 ob x42 fun a4 =>
 ob (bin Tryd.prog .add 3 a4 (.int .i64 1)) fun y5 =>
 n x0 x5 x7 x40 x41 (some y5) h
theorem q5_6_eq (C : YC) (lf : Nat) (n : K6) (KR : KF) (K0 : KF) (KE : KX) : ∀ F h, evX fx5 C lf [1, 1, 1, 1, 1, 0, 1, 0, 0, 1, 1, 1] F h (fun F h => n (F 0) (F 5) (F 7) (F 40) (F 41) (F 42) h) KR (bk 0 K0 KE) = q5_6 C lf n (F 0) (F 5) (F 7) (F 40) (F 41) (F 42) h := by
  intro F h; kernel_rfl
noncomputable def q5_33 (C : YC) (lf : Nat) (n : K6) (r : K1) (x0 x5 x7 x40 x41 x42 : O) (h : HW) : Rs :=
 ob x5 fun a7 =>
 bc (C (.fn 29) [a7] h) fun y8 h8 =>
 ob x0 fun a9 =>
 ob (bin Tryd.prog .neq 3 y8 a9) fun y10 =>
 bc (gd false (some y10) (ob x5 fun a11 =>
 some (.ret a11, h8)) h8) fun y12 h12 =>
 bc (gd false (some y10) (bc (C (.fn 19) [y12] h12) fun y13 h13 =>
 some (.ret y13, h13)) h12) fun y14 h14 =>
 bc (gd false (some y10) (ob x7 fun a15 =>
 bc (C (.fn 30) [a15] h14) fun y16 h16 =>
 some (.ret y16, h16)) h14) fun y17 h17 =>
 bc (gd false (some y10) (ob (bin Tryd.prog .neq 3 y14 y17) fun y18 =>
 some (.ret y18, h17)) h17) fun y19 h19 =>
 ob (ypk y10 (.bool true) y19) fun y20 =>
 bc (gd false (some y20) (ob x5 fun a21 =>
 some (.ret a21, h19)) h19) fun y22 h22 =>
 bc (gd false (some y20) (bc (C (.fn 20) [y22] h22) fun y23 h23 =>
 some (.ret y23, h23)) h22) fun y24 h24 =>
 bc (gd false (some y20) (ob x7 fun a25 =>
 bc (C (.fn 32) [a25] h24) fun y26 h26 =>
 some (.ret y26, h26)) h24) fun y27 h27 =>
 bc (gd false (some y20) (bc (C (.fn 31) [y24, y27] h27) fun y28 h28 =>
 some (.ret y28, h28)) h27) fun y29 h29 =>
 bc (gd false (some y20) (ob (unE .not y29) fun y30 =>
 some (.ret y30, h29)) h29) fun y31 h31 =>
 ob (ypk y20 (.bool true) y31) fun y32 =>
 yIf y32
 (r (some (.bool false)) h31)
 (n x0 x5 x7 x40 x41 x42 h31)
theorem q5_33_eq (C : YC) (lf : Nat) (n : K6) (r : K1) (K1 : KF) (K0 : KF) (KE : KX) : ∀ F h, evX fx5 C lf [1, 1, 1, 1, 1, 0, 1, 0, 0, 1, 1, 0, 0, 1, 1, 1] F h (fun F h => n (F 0) (F 5) (F 7) (F 40) (F 41) (F 42) h) (fun F h => r (F 4) h) (bk 1 K1 (bk 0 K0 KE)) = q5_33 C lf n r (F 0) (F 5) (F 7) (F 40) (F 41) (F 42) h := by
  intro F h; kernel_rfl
noncomputable def q5_56 (C : YC) (lf : Nat) (n : K6) (r : K1) (x0 x5 x7 x9 x40 x41 x42 : O) (h : HW) : Rs :=
 ob x9 fun a34 =>
 ob (fa 0 a34) fun y35 =>
 ob (ld1 y35 h) fun y36 =>
 ob (bin Tryd.prog .eql 3 y36 (.int .i64 4)) fun y37 =>
 yIf y37
 (ob x5 fun a38 =>
 ob x5 fun a39 =>
 bc (C (.fn 26) [a39] h) fun y40 h40 =>
 ob x7 fun a41 =>
 bc (C (.fn 27) [a41] h40) fun y42 h42 =>
 b2 (yAl Tryd.prog 44 h42) fun y43 h43 =>
 ob (st 2 y43 y42 h43) fun h44 =>
 ob (bin Tryd.prog .eql 25 y40 (.val (.pointer none))) fun y45 =>
 bc (gd false (some y45) (some (.ret a38, h44)) h44) fun y46 h46 =>
 bc (gd false (some y45) (ob x7 fun a47 =>
 bc (C (.fn 28) [y46, a47] h46) fun y48 h48 =>
 some (.ret y48, h48)) h46) fun y49 h49 =>
 bc (gd false (some y45) (ob (unE .not y49) fun y50 =>
 some (.ret y50, h49)) h49) fun y51 h51 =>
 ob (ypk y45 (.bool true) y51) fun y52 =>
 yIf y52
 (r (some (.bool false)) h51)
 (ob (ldN 2 y43 h51) fun y53 =>
 ob x7 fun a54 =>
 ob (st 2 a54 y53 h51) fun h55 =>
 n x0 (some y40) x7 x40 x41 x42 h55))
 (n x0 x5 x7 x40 x41 x42 h)
theorem q5_56_eq (C : YC) (lf : Nat) (n : K6) (r : K1) (K1 : KF) (K0 : KF) (KE : KX) : ∀ F h, evX fx5 C lf [1, 1, 1, 1, 1, 0, 1, 0, 0, 1, 1, 0, 0, 1, 1, 0] F h (fun F h => n (F 0) (F 5) (F 7) (F 40) (F 41) (F 42) h) (fun F h => r (F 4) h) (bk 1 K1 (bk 0 K0 KE)) = q5_56 C lf n r (F 0) (F 5) (F 7) (F 9) (F 40) (F 41) (F 42) h := by
  intro F h; kernel_rfl
noncomputable def q5_57 (C : YC) (lf : Nat) (n : K6) (r : K1) (x0 x5 x7 x9 x40 x41 x42 : O) (h : HW) : Rs :=
 q5_56 C lf (fun x0 x5 x7 x40 x41 x42 h => q5_33 C lf n r x0 x5 x7 x40 x41 x42 h) r x0 x5 x7 x9 x40 x41 x42 h
theorem q5_57_eq (C : YC) (lf : Nat) (n : K6) (r : K1) (K1 : KF) (K0 : KF) (KE : KX) : ∀ F h, evX fx5 C lf [1, 1, 1, 1, 1, 0, 1, 0, 0, 1, 1, 0, 0, 1, 1] F h (fun F h => n (F 0) (F 5) (F 7) (F 40) (F 41) (F 42) h) (fun F h => r (F 4) h) (bk 1 K1 (bk 0 K0 KE)) = q5_57 C lf n r (F 0) (F 5) (F 7) (F 9) (F 40) (F 41) (F 42) h := cSeq (a := subX fx5 [1, 1, 1, 1, 1, 0, 1, 0, 0, 1, 1, 0, 0, 1, 1, 0]) (b := subX fx5 [1, 1, 1, 1, 1, 0, 1, 0, 0, 1, 1, 0, 0, 1, 1, 1]) (by kernel_rfl) (B := (fun F h => q5_33 C lf n r (F 0) (F 5) (F 7) (F 40) (F 41) (F 42) h)) (q5_33_eq C lf n r K1 K0 KE) (q5_56_eq C lf (fun x0 x5 x7 x40 x41 x42 h => q5_33 C lf n r x0 x5 x7 x40 x41 x42 h) r K1 K0 KE)
noncomputable def q5_64 (C : YC) (lf : Nat) (n : K7) (r : K1) (x0 x5 x7 x9 x40 x41 x42 : O) (h : HW) : Rs :=
 ob x5 fun a58 =>
 ob x9 fun a59 =>
 ob (ldN 4 a59 h) fun y60 =>
 ob x7 fun a61 =>
 bc (C (.fn 25) [a58, a61, y60] h) fun y62 h62 =>
 ob (unE .not y62) fun y63 =>
 yIf y63
 (r (some (.bool false)) h62)
 (n x0 x5 x7 x9 x40 x41 x42 h62)
theorem q5_64_eq (C : YC) (lf : Nat) (n : K7) (r : K1) (K1 : KF) (K0 : KF) (KE : KX) : ∀ F h, evX fx5 C lf [1, 1, 1, 1, 1, 0, 1, 0, 0, 1, 1, 0, 0, 1, 0] F h (fun F h => n (F 0) (F 5) (F 7) (F 9) (F 40) (F 41) (F 42) h) (fun F h => r (F 4) h) (bk 1 K1 (bk 0 K0 KE)) = q5_64 C lf n r (F 0) (F 5) (F 7) (F 9) (F 40) (F 41) (F 42) h := by
  intro F h; kernel_rfl
noncomputable def q5_65 (C : YC) (lf : Nat) (n : K6) (r : K1) (x0 x5 x7 x9 x40 x41 x42 : O) (h : HW) : Rs :=
 q5_64 C lf (fun x0 x5 x7 x9 x40 x41 x42 h => q5_57 C lf n r x0 x5 x7 x9 x40 x41 x42 h) r x0 x5 x7 x9 x40 x41 x42 h
theorem q5_65_eq (C : YC) (lf : Nat) (n : K6) (r : K1) (K1 : KF) (K0 : KF) (KE : KX) : ∀ F h, evX fx5 C lf [1, 1, 1, 1, 1, 0, 1, 0, 0, 1, 1, 0, 0, 1] F h (fun F h => n (F 0) (F 5) (F 7) (F 40) (F 41) (F 42) h) (fun F h => r (F 4) h) (bk 1 K1 (bk 0 K0 KE)) = q5_65 C lf n r (F 0) (F 5) (F 7) (F 9) (F 40) (F 41) (F 42) h := cSeq (a := subX fx5 [1, 1, 1, 1, 1, 0, 1, 0, 0, 1, 1, 0, 0, 1, 0]) (b := subX fx5 [1, 1, 1, 1, 1, 0, 1, 0, 0, 1, 1, 0, 0, 1, 1]) (by kernel_rfl) (B := (fun F h => q5_57 C lf n r (F 0) (F 5) (F 7) (F 9) (F 40) (F 41) (F 42) h)) (q5_57_eq C lf n r K1 K0 KE) (q5_64_eq C lf (fun x0 x5 x7 x9 x40 x41 x42 h => q5_57 C lf n r x0 x5 x7 x9 x40 x41 x42 h) r K1 K0 KE)
noncomputable def q5_72 (C : YC) (lf : Nat) (n : K7) (x0 x5 x7 x40 x41 x42 : O) (h : HW) : Rs :=
 ob x40 fun a66 =>
 ob x42 fun a67 =>
 ob (ixS 4 a66 a67) fun y68 =>
 ob (ldN 4 y68 h) fun y69 =>
 b2 (yAl Tryd.prog 47 h) fun y70 h70 =>
 ob (st 4 y70 y69 h70) fun h71 =>
 n x0 x5 x7 (some y70) x40 x41 x42 h71
theorem q5_72_eq (C : YC) (lf : Nat) (n : K7) (KR : KF) (K1 : KF) (K0 : KF) (KE : KX) : ∀ F h, evX fx5 C lf [1, 1, 1, 1, 1, 0, 1, 0, 0, 1, 1, 0, 0, 0] F h (fun F h => n (F 0) (F 5) (F 7) (F 9) (F 40) (F 41) (F 42) h) KR (bk 1 K1 (bk 0 K0 KE)) = q5_72 C lf n (F 0) (F 5) (F 7) (F 40) (F 41) (F 42) h := by
  intro F h; kernel_rfl
noncomputable def q5_73 (C : YC) (lf : Nat) (n : K6) (r : K1) (x0 x5 x7 x40 x41 x42 : O) (h : HW) : Rs :=
 q5_72 C lf (fun x0 x5 x7 x9 x40 x41 x42 h => q5_65 C lf n r x0 x5 x7 x9 x40 x41 x42 h) x0 x5 x7 x40 x41 x42 h
theorem q5_73_eq (C : YC) (lf : Nat) (n : K6) (r : K1) (K1 : KF) (K0 : KF) (KE : KX) : ∀ F h, evX fx5 C lf [1, 1, 1, 1, 1, 0, 1, 0, 0, 1, 1, 0, 0] F h (fun F h => n (F 0) (F 5) (F 7) (F 40) (F 41) (F 42) h) (fun F h => r (F 4) h) (bk 1 K1 (bk 0 K0 KE)) = q5_73 C lf n r (F 0) (F 5) (F 7) (F 40) (F 41) (F 42) h := cSeq (a := subX fx5 [1, 1, 1, 1, 1, 0, 1, 0, 0, 1, 1, 0, 0, 0]) (b := subX fx5 [1, 1, 1, 1, 1, 0, 1, 0, 0, 1, 1, 0, 0, 1]) (by kernel_rfl) (B := (fun F h => q5_65 C lf n r (F 0) (F 5) (F 7) (F 9) (F 40) (F 41) (F 42) h)) (q5_65_eq C lf n r K1 K0 KE) (q5_72_eq C lf (fun x0 x5 x7 x9 x40 x41 x42 h => q5_65 C lf n r x0 x5 x7 x9 x40 x41 x42 h) (fun F h => r (F 4) h) K1 K0 KE)
noncomputable def q5_74 (C : YC) (lf : Nat) (n : K6) (r : K1) (x0 x5 x7 x40 x41 x42 : O) (h : HW) : Rs :=
 q5_73 C lf (fun x0 x5 x7 x40 x41 x42 h => q5_6 C lf n x0 x5 x7 x40 x41 x42 h) r x0 x5 x7 x40 x41 x42 h
theorem q5_74_eq (C : YC) (lf : Nat) (n : K6) (r : K1) (K0 : KF) (KE : KX) : ∀ F h, evX fx5 C lf [1, 1, 1, 1, 1, 0, 1, 0, 0, 1, 1] F h (fun F h => n (F 0) (F 5) (F 7) (F 40) (F 41) (F 42) h) (fun F h => r (F 4) h) (bk 0 K0 KE) = q5_74 C lf n r (F 0) (F 5) (F 7) (F 40) (F 41) (F 42) h := cSeq (a := subX fx5 [1, 1, 1, 1, 1, 0, 1, 0, 0, 1, 1, 0]) (b := subX fx5 [1, 1, 1, 1, 1, 0, 1, 0, 0, 1, 1, 1]) (by kernel_rfl) (B := (fun F h => q5_6 C lf n (F 0) (F 5) (F 7) (F 40) (F 41) (F 42) h)) (q5_6_eq C lf n (fun F h => r (F 4) h) K0 KE) (cBlock (id := 1) (a := subX fx5 [1, 1, 1, 1, 1, 0, 1, 0, 0, 1, 1, 0, 0]) (by kernel_rfl) (q5_73_eq C lf (fun x0 x5 x7 x40 x41 x42 h => q5_6 C lf n x0 x5 x7 x40 x41 x42 h) r (fun F h => q5_6 C lf n (F 0) (F 5) (F 7) (F 40) (F 41) (F 42) h) K0 KE))
noncomputable def q5_76 (C : YC) (lf : Nat) (n : K6) (e0 : K0) (x0 x5 x7 x40 x41 x42 x43 : O) (h : HW) : Rs :=
 ob x43 fun a75 =>
 yIf a75
 (n x0 x5 x7 x40 x41 x42 h)
 (e0 h)
theorem q5_76_eq (C : YC) (lf : Nat) (n : K6) (e0 : K0) (KR : KF) (KE : KX) : ∀ F h, evX fx5 C lf [1, 1, 1, 1, 1, 0, 1, 0, 0, 1, 0] F h (fun F h => n (F 0) (F 5) (F 7) (F 40) (F 41) (F 42) h) KR (bk 0 (fun F h => e0 h) KE) = q5_76 C lf n e0 (F 0) (F 5) (F 7) (F 40) (F 41) (F 42) (F 43) h := by
  intro F h; kernel_rfl
noncomputable def q5_77 (C : YC) (lf : Nat) (n : K6) (r : K1) (e0 : K0) (x0 x5 x7 x40 x41 x42 x43 : O) (h : HW) : Rs :=
 q5_76 C lf (fun x0 x5 x7 x40 x41 x42 h => q5_74 C lf n r x0 x5 x7 x40 x41 x42 h) e0 x0 x5 x7 x40 x41 x42 x43 h
theorem q5_77_eq (C : YC) (lf : Nat) (n : K6) (r : K1) (e0 : K0) (KE : KX) : ∀ F h, evX fx5 C lf [1, 1, 1, 1, 1, 0, 1, 0, 0, 1] F h (fun F h => n (F 0) (F 5) (F 7) (F 40) (F 41) (F 42) h) (fun F h => r (F 4) h) (bk 0 (fun F h => e0 h) KE) = q5_77 C lf n r e0 (F 0) (F 5) (F 7) (F 40) (F 41) (F 42) (F 43) h := cSeq (a := subX fx5 [1, 1, 1, 1, 1, 0, 1, 0, 0, 1, 0]) (b := subX fx5 [1, 1, 1, 1, 1, 0, 1, 0, 0, 1, 1]) (by kernel_rfl) (B := (fun F h => q5_74 C lf n r (F 0) (F 5) (F 7) (F 40) (F 41) (F 42) h)) (q5_74_eq C lf n r (fun F h => e0 h) KE) (q5_76_eq C lf (fun x0 x5 x7 x40 x41 x42 h => q5_74 C lf n r x0 x5 x7 x40 x41 x42 h) e0 (fun F h => r (F 4) h) KE)
noncomputable def q5_81 (C : YC) (lf : Nat) (n : K7) (x0 x5 x7 x40 x41 x42 : O) (h : HW) : Rs :=
 ob x42 fun a78 =>
 ob x41 fun a79 =>
 ob (bin Tryd.prog .lss 3 a78 a79) fun y80 =>
 n x0 x5 x7 x40 x41 x42 (some y80) h
theorem q5_81_eq (C : YC) (lf : Nat) (n : K7) (KR : KF) (K0 : KF) (KE : KX) : ∀ F h, evX fx5 C lf [1, 1, 1, 1, 1, 0, 1, 0, 0, 0] F h (fun F h => n (F 0) (F 5) (F 7) (F 40) (F 41) (F 42) (F 43) h) KR (bk 0 K0 KE) = q5_81 C lf n (F 0) (F 5) (F 7) (F 40) (F 41) (F 42) h := by
  intro F h; kernel_rfl
noncomputable def q5_82 (C : YC) (lf : Nat) (n : K6) (r : K1) (e0 : K0) (x0 x5 x7 x40 x41 x42 : O) (h : HW) : Rs :=
 q5_81 C lf (fun x0 x5 x7 x40 x41 x42 x43 h => q5_77 C lf n r e0 x0 x5 x7 x40 x41 x42 x43 h) x0 x5 x7 x40 x41 x42 h
theorem q5_82_eq (C : YC) (lf : Nat) (n : K6) (r : K1) (e0 : K0) (KE : KX) : ∀ F h, evX fx5 C lf [1, 1, 1, 1, 1, 0, 1, 0, 0] F h (fun F h => n (F 0) (F 5) (F 7) (F 40) (F 41) (F 42) h) (fun F h => r (F 4) h) (bk 0 (fun F h => e0 h) KE) = q5_82 C lf n r e0 (F 0) (F 5) (F 7) (F 40) (F 41) (F 42) h := cSeq (a := subX fx5 [1, 1, 1, 1, 1, 0, 1, 0, 0, 0]) (b := subX fx5 [1, 1, 1, 1, 1, 0, 1, 0, 0, 1]) (by kernel_rfl) (B := (fun F h => q5_77 C lf n r e0 (F 0) (F 5) (F 7) (F 40) (F 41) (F 42) (F 43) h)) (q5_77_eq C lf n r e0 KE) (q5_81_eq C lf (fun x0 x5 x7 x40 x41 x42 x43 h => q5_77 C lf n r e0 x0 x5 x7 x40 x41 x42 x43 h) (fun F h => r (F 4) h) (fun F h => e0 h) KE)
noncomputable def l5_3 (C : YC) (lf : Nat) (r : K1) (e0 : K0) (k : O × O × O × O × O × O → HW → Rs) (s : O × O × O × O × O × O) (h : HW) : Rs :=
 q5_82 C lf (fun x0 x5 x7 x40 x41 x42 h => k (x0, x5, x7, x40, x41, x42) h) r e0 s.1 s.2.1 s.2.2.1 s.2.2.2.1 s.2.2.2.2.1 s.2.2.2.2.2 h
noncomputable def q5_85 (C : YC) (lf : Nat) (n : K6) (x0 x1 x5 x7 : O) (h : HW) : Rs :=
 ob x1 fun a83 =>
 ob (lenE Tryd.prog 40 a83) fun y84 =>
 n x0 x5 x7 (some a83) (some y84) (some (.int .i64 0)) h
theorem q5_85_eq (C : YC) (lf : Nat) (n : K6) (KR : KF) (KE : KX) : ∀ F h, evX fx5 C lf [1, 1, 1, 1, 1, 0, 0] F h (fun F h => n (F 0) (F 5) (F 7) (F 40) (F 41) (F 42) h) KR KE = q5_85 C lf n (F 0) (F 1) (F 5) (F 7) h := by
  intro F h; kernel_rfl
noncomputable def q5_86 (C : YC) (lf : Nat) (n : K0) (r : K1) (x0 x1 x5 x7 : O) (h : HW) : Rs :=
 q5_85 C lf (fun x0 x5 x7 x40 x41 x42 h => lp (l5_3 C lf r n) lf (x0, x5, x7, x40, x41, x42) h) x0 x1 x5 x7 h
theorem q5_86_eq (C : YC) (lf : Nat) (n : K0) (r : K1) (KE : KX) : ∀ F h, evX fx5 C lf [1, 1, 1, 1, 1, 0] F h (fun F h => n h) (fun F h => r (F 4) h) KE = q5_86 C lf n r (F 0) (F 1) (F 5) (F 7) h := cSeq (a := subX fx5 [1, 1, 1, 1, 1, 0, 0]) (b := subX fx5 [1, 1, 1, 1, 1, 0, 1]) (by kernel_rfl) (B := (fun F h => lp (l5_3 C lf r n) lf ((F 0), (F 5), (F 7), (F 40), (F 41), (F 42)) h)) (cBlock (id := 0) (a := subX fx5 [1, 1, 1, 1, 1, 0, 1, 0]) (by kernel_rfl) (cLoop (a := subX fx5 [1, 1, 1, 1, 1, 0, 1, 0, 0]) (g := fun F => (F 0, F 5, F 7, F 40, F 41, F 42)) (body := l5_3 C lf r n) (by kernel_rfl) (fun k => (q5_82_eq C lf (fun x0 x5 x7 x40 x41 x42 h => k (x0, x5, x7, x40, x41, x42) h) r n KE)))) (q5_85_eq C lf (fun x0 x5 x7 x40 x41 x42 h => lp (l5_3 C lf r n) lf (x0, x5, x7, x40, x41, x42) h) (fun F h => r (F 4) h) KE)
noncomputable def q5_87 (C : YC) (lf : Nat) (r : K1) (x0 x1 x5 x7 : O) (h : HW) : Rs :=
 q5_86 C lf (fun h => q5_2 C lf r h) r x0 x1 x5 x7 h
theorem q5_87_eq (C : YC) (lf : Nat) (r : K1) (KN : KF) (KE : KX) : ∀ F h, evX fx5 C lf [1, 1, 1, 1, 1] F h KN (fun F h => r (F 4) h) KE = q5_87 C lf r (F 0) (F 1) (F 5) (F 7) h := cSeq (a := subX fx5 [1, 1, 1, 1, 1, 0]) (b := subX fx5 [1, 1, 1, 1, 1, 1]) (by kernel_rfl) (B := (fun F h => q5_2 C lf r h)) (q5_2_eq C lf r KN KE) (q5_86_eq C lf (fun h => q5_2 C lf r h) r KE)
noncomputable def q5_92 (C : YC) (lf : Nat) (n : K4) (x0 x1 x5 : O) (h : HW) : Rs :=
 ob x0 fun a88 =>
 bc (C (.fn 24) [a88] h) fun y89 h89 =>
 b2 (yAl Tryd.prog 44 h89) fun y90 h90 =>
 ob (st 2 y90 y89 h90) fun h91 =>
 n x0 x1 x5 (some y90) h91
theorem q5_92_eq (C : YC) (lf : Nat) (n : K4) (KR : KF) (KE : KX) : ∀ F h, evX fx5 C lf [1, 1, 1, 1, 0] F h (fun F h => n (F 0) (F 1) (F 5) (F 7) h) KR KE = q5_92 C lf n (F 0) (F 1) (F 5) h := by
  intro F h; kernel_rfl
noncomputable def q5_93 (C : YC) (lf : Nat) (r : K1) (x0 x1 x5 : O) (h : HW) : Rs :=
 q5_92 C lf (fun x0 x1 x5 x7 h => q5_87 C lf r x0 x1 x5 x7 h) x0 x1 x5 h
theorem q5_93_eq (C : YC) (lf : Nat) (r : K1) (KN : KF) (KE : KX) : ∀ F h, evX fx5 C lf [1, 1, 1, 1] F h KN (fun F h => r (F 4) h) KE = q5_93 C lf r (F 0) (F 1) (F 5) h := cSeq (a := subX fx5 [1, 1, 1, 1, 0]) (b := subX fx5 [1, 1, 1, 1, 1]) (by kernel_rfl) (B := (fun F h => q5_87 C lf r (F 0) (F 1) (F 5) (F 7) h)) (q5_87_eq C lf r KN KE) (q5_92_eq C lf (fun x0 x1 x5 x7 h => q5_87 C lf r x0 x1 x5 x7 h) (fun F h => r (F 4) h) KE)
noncomputable def q5_101 (C : YC) (lf : Nat) (n : K3) (r : K1) (x0 x1 x5 x6 : O) (h : HW) : Rs :=
 ob x6 fun a94 =>
 ob (bin Tryd.prog .neq 26 a94 (.int .i64 0)) fun y95 =>
 bc (gd false (some y95) (ob x5 fun a96 =>
 some (.ret a96, h)) h) fun y97 h97 =>
 bc (gd false (some y95) (ob (bin Tryd.prog .eql 25 y97 (.val (.pointer none))) fun y98 =>
 some (.ret y98, h97)) h97) fun y99 h99 =>
 ob (ypk y95 (.bool true) y99) fun y100 =>
 yIf y100
 (r (some (.bool false)) h99)
 (n x0 x1 x5 h99)
theorem q5_101_eq (C : YC) (lf : Nat) (n : K3) (r : K1) (KE : KX) : ∀ F h, evX fx5 C lf [1, 1, 1, 0] F h (fun F h => n (F 0) (F 1) (F 5) h) (fun F h => r (F 4) h) KE = q5_101 C lf n r (F 0) (F 1) (F 5) (F 6) h := by
  intro F h; kernel_rfl
noncomputable def q5_102 (C : YC) (lf : Nat) (r : K1) (x0 x1 x5 x6 : O) (h : HW) : Rs :=
 q5_101 C lf (fun x0 x1 x5 h => q5_93 C lf r x0 x1 x5 h) r x0 x1 x5 x6 h
theorem q5_102_eq (C : YC) (lf : Nat) (r : K1) (KN : KF) (KE : KX) : ∀ F h, evX fx5 C lf [1, 1, 1] F h KN (fun F h => r (F 4) h) KE = q5_102 C lf r (F 0) (F 1) (F 5) (F 6) h := cSeq (a := subX fx5 [1, 1, 1, 0]) (b := subX fx5 [1, 1, 1, 1]) (by kernel_rfl) (B := (fun F h => q5_93 C lf r (F 0) (F 1) (F 5) h)) (q5_93_eq C lf r KN KE) (q5_101_eq C lf (fun x0 x1 x5 h => q5_93 C lf r x0 x1 x5 h) r KE)
noncomputable def q5_120 (C : YC) (lf : Nat) (n : K4) (r : K1) (x0 x1 x5 x6 : O) (h : HW) : Rs :=
 ob x0 fun a103 =>
 ob (bin Tryd.prog .lss 3 a103 (.int .i64 1)) fun y104 =>
 bc (gd false (some y104) (ob x0 fun a105 =>
 some (.ret a105, h)) h) fun y106 h106 =>
 bc (gd false (some y104) (ob (bin Tryd.prog .gtr 3 y106 (.int .i64 4096)) fun y107 =>
 some (.ret y107, h106)) h106) fun y108 h108 =>
 ob (ypk y104 (.bool true) y108) fun y109 =>
 yIf y109
 (ob x5 fun a110 =>
 ob (bin Tryd.prog .eql 25 a110 (.val (.pointer none))) fun y111 =>
 bc (gd true (some y111) (ob x6 fun a112 =>
 some (.ret a112, h108)) h108) fun y113 h113 =>
 bc (gd true (some y111) (ob (bin Tryd.prog .eql 26 y113 (.int .i64 22)) fun y114 =>
 some (.ret y114, h113)) h113) fun y115 h115 =>
 ob (ypk y111 y115 (.bool false)) fun y116 =>
 bc (gd true (some y116) (bc (C (.fn 15) [] h115) fun y117 h117 =>
 some (.ret y117, h117)) h115) fun y118 h118 =>
 ob (ypk y116 y118 (.bool false)) fun y119 =>
 r (some y119) h118)
 (n x0 x1 x5 x6 h108)
theorem q5_120_eq (C : YC) (lf : Nat) (n : K4) (r : K1) (KE : KX) : ∀ F h, evX fx5 C lf [1, 1, 0] F h (fun F h => n (F 0) (F 1) (F 5) (F 6) h) (fun F h => r (F 4) h) KE = q5_120 C lf n r (F 0) (F 1) (F 5) (F 6) h := by
  intro F h; kernel_rfl
noncomputable def q5_121 (C : YC) (lf : Nat) (r : K1) (x0 x1 x5 x6 : O) (h : HW) : Rs :=
 q5_120 C lf (fun x0 x1 x5 x6 h => q5_102 C lf r x0 x1 x5 x6 h) r x0 x1 x5 x6 h
theorem q5_121_eq (C : YC) (lf : Nat) (r : K1) (KN : KF) (KE : KX) : ∀ F h, evX fx5 C lf [1, 1] F h KN (fun F h => r (F 4) h) KE = q5_121 C lf r (F 0) (F 1) (F 5) (F 6) h := cSeq (a := subX fx5 [1, 1, 0]) (b := subX fx5 [1, 1, 1]) (by kernel_rfl) (B := (fun F h => q5_102 C lf r (F 0) (F 1) (F 5) (F 6) h)) (q5_102_eq C lf r KN KE) (q5_120_eq C lf (fun x0 x1 x5 x6 h => q5_102 C lf r x0 x1 x5 x6 h) r KE)
noncomputable def q5_126 (C : YC) (lf : Nat) (n : K4) (x0 x1 : O) (h : HW) : Rs :=
 ob x0 fun a122 =>
 bc (C (.fn 16) [a122] h) fun y123 h123 =>
 ob (ext 0 y123) fun y124 =>
 ob (ext 1 y123) fun y125 =>
 n x0 x1 (some y124) (some y125) h123
theorem q5_126_eq (C : YC) (lf : Nat) (n : K4) (KR : KF) (KE : KX) : ∀ F h, evX fx5 C lf [1, 0] F h (fun F h => n (F 0) (F 1) (F 5) (F 6) h) KR KE = q5_126 C lf n (F 0) (F 1) h := by
  intro F h; kernel_rfl
noncomputable def q5_127 (C : YC) (lf : Nat) (r : K1) (x0 x1 : O) (h : HW) : Rs :=
 q5_126 C lf (fun x0 x1 x5 x6 h => q5_121 C lf r x0 x1 x5 x6 h) x0 x1 h
theorem q5_127_eq (C : YC) (lf : Nat) (r : K1) (KN : KF) (KE : KX) : ∀ F h, evX fx5 C lf [1] F h KN (fun F h => r (F 4) h) KE = q5_127 C lf r (F 0) (F 1) h := cSeq (a := subX fx5 [1, 0]) (b := subX fx5 [1, 1]) (by kernel_rfl) (B := (fun F h => q5_121 C lf r (F 0) (F 1) (F 5) (F 6) h)) (q5_121_eq C lf r KN KE) (q5_126_eq C lf (fun x0 x1 x5 x6 h => q5_121 C lf r x0 x1 x5 x6 h) (fun F h => r (F 4) h) KE)
noncomputable def q5_128 (C : YC) (lf : Nat) (n : K2) (x0 x1 : O) (h : HW) : Rs :=
 n x0 x1 h
theorem q5_128_eq (C : YC) (lf : Nat) (n : K2) (KR : KF) (KE : KX) : ∀ F h, evX fx5 C lf [0] F h (fun F h => n (F 0) (F 1) h) KR KE = q5_128 C lf n (F 0) (F 1) h := by
  intro F h; kernel_rfl
noncomputable def q5_129 (C : YC) (lf : Nat) (r : K1) (x0 x1 : O) (h : HW) : Rs :=
 q5_128 C lf (fun x0 x1 h => q5_127 C lf r x0 x1 h) x0 x1 h
theorem q5_129_eq (C : YC) (lf : Nat) (r : K1) (KN : KF) (KE : KX) : ∀ F h, evX fx5 C lf [] F h KN (fun F h => r (F 4) h) KE = q5_129 C lf r (F 0) (F 1) h := cSeq (a := subX fx5 [0]) (b := subX fx5 [1]) (by kernel_rfl) (B := (fun F h => q5_127 C lf r (F 0) (F 1) h)) (q5_127_eq C lf r KN KE) (q5_128_eq C lf (fun x0 x1 h => q5_127 C lf r x0 x1 h) (fun F h => r (F 4) h) KE)
noncomputable def fs5 (C : YC) (lf : Nat) (a0 a1 : SV) (h : HW) : Rs := q5_129 C lf ff5 (some a0) (some a1) h
theorem fs5_eq (C : YC) (lf : Nat) (a0 a1 : SV) (h : HW) : yFn Tryd.prog fx5 C lf [a0, a1] h = fs5 C lf a0 a1 h := fnX (K := (fun F h => ff5 (F 4) h)) (by kernel_rfl) (((q5_129_eq C lf ff5 (fun F h => ff5 (F 4) h) (fun _ _ _ => none)) _ h).trans (by kernel_rfl))
noncomputable def fy5 : YX Tryd.prog := Y2 fx5 fs5 fs5_eq (by kernel_rfl)
end
end Go.Proofs.YtomialandfplkaaDoor.Eva
namespace Go.Proofs.YtomialandfplkaaDoor.Eva
open Go.Xe
set_option linter.unusedSimpArgs false

structure ActR where
  kd : Int
  i : Int
  at_ : Int
  bx : SV
  l : List Nat
def ActR.cells (a : ActR) : List SV := [.int .i64 a.kd, .int .i64 a.i, .int .i64 a.at_, a.bx]
structure ActR.Ok (Z : Nat → Prop) (h : HW) (a : ActR) : Prop where
  i1 : -9223372036854775808 ≤ a.i
  i2 : a.i < 9223372036854775808
  a1 : -9223372036854775808 ≤ a.at_
  a2 : a.at_ < 9223372036854775808
  b : Bytes h a.bx a.l
  l : a.l.length ≤ 140737488351232
  z : ∀ j, rowOf a.bx = some j → Z j
/-- Calls, in a slice of the law's. -/
def ActsAt (Z : Nat → Prop) (h : HW) (x : SV) (L : List ActR) : Prop := (Emp x ∧ L = []) ∨ ∃ ka oa cap lo m, x = .sl ka oa L.length cap lo ∧ h.mt ka = some m ∧ Z ka ∧
  ∀ t (ht : t < L.length), (∀ c, c < 4 → h.cell ka (oa + t * 4 + c) = L[t].cells[c]?) ∧ L[t].Ok Z h
section
variable {lf m : Nat} {Z : Nat → Prop} {h : HW} {k dk r ro rb n : Nat} {wd b : Nat → Nat} {q : Nat → Option Nat}
theorem ActsAt.frame {x : SV} {L : List ActR} (A : ActsAt Z h x L) {h' : HW} (F : Frm h h' (fun j => ¬ Z j)) (hz : ∀ j, Z j → j < h.next) : ActsAt Z h' x L := by
  rcases A with A | ⟨ka, oa, cap, lo, m, e1, e2, e3, e4⟩
  · exact .inl A
  · have s := F.same ka (hz _ e3) (fun e => e e3)
    refine .inr ⟨ka, oa, cap, lo, m, e1, by rw [s.mt]; exact e2, e3, fun t ht => ⟨fun c hc => by rw [s.cell]; exact (e4 t ht).1 c hc, ?_⟩⟩
    have o := (e4 t ht).2
    exact ⟨o.i1, o.i2, o.a1, o.a2, o.b.frame fun kb ob len cap lo e => F.same kb (hz _ (o.z kb (by rw [e]; rfl))) (fun e2 => e2 (o.z kb (by rw [e]; rfl))), o.l, o.z⟩
theorem ActsAt.len {x : SV} {L : List ActR} (A : ActsAt Z h x L) : lenE Tryd.prog 40 x = some (.int .i64 (L.length : Int)) := by
  rcases A with ⟨rfl | ⟨_, rfl⟩, rfl⟩ | ⟨ka, oa, cap, lo, m, rfl, _⟩
  · simp [lenE, Tryd.underlying40, forceI_eq]
  · simp [lenE, Tryd.underlying40, forceI_eq]
  · exact lenE_sl Tryd.underlying40
theorem St.weak (A : St Z h k dk r ro rb n wd q b) {Z' : Nat → Prop} (hz : ∀ j, Z' j → Z j) (hg : Z' 0) : St Z' h k dk r ro rb n wd q b :=
  ⟨A.S, A.R, A.nk, fun e => A.lok (hz _ e), fun e => A.lod (hz _ e), fun j hj e => A.lor j hj (hz _ e), A.T, A.fr, hg, fun j hj => A.bn j (hz _ hj)⟩

/-- Both stores look the same. -/
theorem look {C : YC} (P : BlocksOK C) (Q : RefOK C) (A : St Z h k dk r ro rb n wd q b) {x40 x41 x42 : Option SV} (nn : K6) (rr : K1) :
    ∃ h', q5_33 C lf nn rr (some (.int .i64 (n : Int))) (some (.ptr k 0)) (some (.ptr r 0)) x40 x41 x42 h = nn (some (.int .i64 (n : Int))) (some (.ptr k 0)) (some (.ptr r 0)) x40 x41 x42 h' ∧ St Z h' k dk r ro rb n wd q b ∧ Frm h h' (fun _ => False) := by
  have h2 := A.S.n2
  have e1 := Q.total h k dk n wd b A.S
  have e2 := P.left h k dk n wd b A.S
  have e3 := Q.left h r ro rb n _ q b A.R
  obtain ⟨xu, g1, u1, u2, u3⟩ := P.used h k dk n wd b A.S
  have A1 := A.frame u3 (fun e => e) (fun e => e) (fun _ _ e => e) (fun _ e => e.elim)
  obtain ⟨xr, g2, v1, v2, v3⟩ := Q.used g1 r ro rb n _ q b A1.R
  have A2 := A1.frame v3 (fun e => e) (fun e => e) (fun _ _ e => e) (fun _ e => e.elim)
  have hle := usedR_le (onB wd) n
  have hle2 := usedL_le wd n
  have hui : IntsIn g2 xu (usedL wd n) := (u2.inn (by omega)).frame fun j hj => v3.same j (u2.sl.row_lt hj) (fun e => e)
  have hi := Q.ints g2 xu xr _ _ hui (v2.inn (by omega))
  have hd : decide (usedL wd n = usedR (onB wd) n) = true := decide_eq_true rfl
  rw [hd] at hi
  have hn : decide ((n : Int) ≠ (n : Int)) = false := by simp
  have hl : (((n - (usedR (onB wd) n).length : Nat) : Int)) = ((n - (usedL wd n).length : Nat) : Int) := rfl
  have hnl : decide (((n - (usedL wd n).length : Nat) : Int) ≠ ((n - (usedL wd n).length : Nat) : Int)) = false := by simp
  rw [hl] at e3
  refine ⟨g2, ?_, A2, u3.trans v3⟩
  unfold q5_33
  simp only [ob_some, b2_some, bc_ret, bcn_ret, gd_tt, gd_ff, gd_tf, gd_ft, ypk_true, ypk_false, yIf_true, yIf_false, semNil_ptr, fa_ptr, ld1_ptr, ext_tup, fd1_agg, un_not, bin_add, bin_sub, bin_mul, bin_eql, bin_neq, bin_lss, bin_leq, bin_gtr, bin_geq, Nat.zero_add, Nat.mul_one, e1, hn, e2, e3, hnl, u1, v1, hi, Bool.not_true]

/-- A copy goes on, the old one's blocks go. -/
theorem turnaway {C : YC} (P : BlocksOK C) (Q : RefOK C) (Tk : TurnedOK C) (A : St Z h k dk r ro rb n wd q b) {x40 x41 x42 : Option SV} {x9 : SV} (hx9 : ∃ p, x9 = .ptr p 0 ∧ h.cell p 0 = some (.int .i64 4)) (nn : K6) (rr : K1) :
    ∃ h' k' dk' ro' rb' q', q5_56 C lf nn rr (some (.int .i64 (n : Int))) (some (.ptr k 0)) (some (.ptr r 0)) (some x9) x40 x41 x42 h = nn (some (.int .i64 (n : Int))) (some (.ptr k' 0)) (some (.ptr r 0)) x40 x41 x42 h' ∧
      St Z h' k' dk' r ro' rb' n wd q' b ∧ Step Z h h' := by
  obtain ⟨p, rfl, hp⟩ := hx9
  obtain ⟨g1, e1, S1, F1, n1⟩ := Q.pcopy h k dk n wd b A.S
  have A1 := A.frame F1 (fun e => e) (fun e => e) (fun _ _ e => e) (fun _ e => e.elim)
  obtain ⟨g2, y0, y1, ro', rb', q', e2, V2, F2, hrow⟩ := Q.copy g1 r ro rb n _ q b A1.R
  have A2 := A1.frame F2 (fun e => e) (fun e => e) (fun _ _ e => e) (fun _ e => e.elim)
  have S2 := S1.frm F2 (fun e => e) (fun e => e)
  have n2 := F2.next
  have hz : tyZero Tryd.prog 44 = some (.agg #[.slice none 0 0, .slice none 0 0]) := by kernel_rfl
  have hzc : (mkV (.agg #[.slice none 0 0, .slice none 0 0])).cells = [.val (.slice none 0 0), .val (.slice none 0 0)] := rfl
  have al := yAl_eq (P := Tryd.prog) (e := 44) (h := g2) hz
  rw [hzc] at al
  generalize ho : rowOb 44 [.val (.slice none 0 0), .val (.slice none 0 0)] = o at *
  have w3 : (g2.new o).wr g2.next 2 := by
    have := wr_new (h := g2) (o := o) (by rw [← ho]; rfl)
    rw [show o.n = 2 by rw [← ho]; rfl] at this
    exact this
  obtain ⟨c0, l0, ey0⟩ := V2.e0
  obtain ⟨c1, l1, ey1⟩ := V2.e1
  have one : allOne [y0, y1] = true := by rw [ey0, ey1]; rfl
  have st3 := st_ptr (n := 2) (off := 0) (y := .agg [y0, y1]) w3 rfl (by omega) one
  have hcy : (SV.agg [y0, y1]).cells = [y0, y1] := rfl
  rw [hcy] at st3
  generalize hg4 : (g2.new o).set g2.next 0 [y0, y1] = g4 at *
  have n4 : g4.next = g2.next + 1 := by rw [← hg4, set_next, new_next]
  have w4 : g4.wr g2.next 2 := by rw [← hg4]; exact wr_set w3
  have c4 : ∀ j, j < 2 → g4.cell g2.next j = [y0, y1][j]? := fun j hj => by
    rw [← hg4, cell_set_same w3 (by simp) (Nat.zero_le _) (by simpa using hj), Nat.sub_zero]
  have F4 : Frm g2 g4 (fun _ => False) := by
    rw [← hg4]
    exact ⟨by simp, by simp, fun j hj _ => (set_other _ _ _ (by omega)).trans (new_other g2 _ (by omega)), fun hf => fresh_set (fresh_new hf _) _ _ _⟩
  have A4 := A2.frame F4 (fun e => e) (fun e => e) (fun _ _ e => e) (fun _ e => e.elim)
  have S4 := S2.frm F4 (fun e => e) (fun e => e)
  have V4 := V2.frame F4.next fun j hj => F4.same j (V2.row_lt hj) (fun e => e)
  obtain ⟨g5, e5, F5⟩ := Tk Z g4 k dk r ro rb n wd q b A4
  have lk := A.S.lk
  have ldk := A.S.ldk
  have lr := A.R.lt
  have hrk := A.nk r (.inl rfl)
  have S5 := S4.frm F5 (fun e => by omega) (fun e => by omega)
  have V5 := V4.frame F5.next fun j hj => F5.same j (V4.row_lt hj) (fun e => by have := hrow j hj; omega)
  have w5 : g5.wr g2.next 2 := wr_same w4 (F5.same _ (by omega) (fun e => by omega))
  have c5 : ∀ j, j < 2 → g5.cell g2.next j = [y0, y1][j]? := fun j hj => by rw [(F5.same _ (by omega) (fun e => by omega)).cell]; exact c4 j hj
  have ld5 : ldN 2 (.ptr g2.next 0) g5 = some (.agg [y0, y1]) := by
    obtain ⟨mm, hm, _⟩ := w5
    rw [ldN_ptr hm, cells_of (n := 2) (ys := [y0, y1]) rfl fun i hi => by rw [Nat.zero_add]; exact c5 i hi]
    rfl
  have wr5 : g5.wr r 2 := wr_same A4.R.wr (F5.same _ (by omega) (fun e => by omega))
  have st6 := st_ptr (n := 2) (off := 0) (y := .agg [y0, y1]) wr5 rfl (by omega) one
  rw [hcy] at st6
  generalize hg6 : g5.set r 0 [y0, y1] = g6 at *
  have F6 : Frm g5 g6 (· = r) := by rw [← hg6]; exact frm_set rfl
  have n6 : g6.next = g5.next := by rw [← hg6, set_next]
  have c6 : ∀ j, j < 2 → g6.cell r j = [y0, y1][j]? := fun j hj => by
    rw [← hg6, cell_set_same wr5 (by simp) (Nat.zero_le _) (by simpa using hj), Nat.sub_zero]
  have n5 := F5.next
  have rows_ne : ∀ j, rowsV ro' rb' n q' j → j ≠ r := fun j hj => by have := hrow j hj; omega
  have V6 := V5.frame F6.next fun j hj => F6.same j (V5.row_lt hj) (fun e => rows_ne j hj e)
  have S6 := S5.frm F6 (fun e => by omega) (fun e => by omega)
  have R6 : RefAt g6 r ro' rb' n (onB wd) q' b := ⟨⟨y0, y1, c6 0 (by omega), c6 1 (by omega), V6⟩, by rw [← hg6]; exact wr_set wr5, (fun e => rows_ne ro' (.inl rfl) e.symm), (fun e => rows_ne rb' (.inr (.inl rfl)) e.symm), fun i kk hi hq => rows_ne kk (.inr (.inr ⟨i, hi, hq⟩)), by omega⟩
  have Fall : Step Z h g6 := (((((Step.of F1 fun _ e => e.elim).trans (Step.of F2 fun _ e => e.elim)).trans (Step.of F4 fun _ e => e.elim)).trans (Step.of F5 fun j e => by rcases e with rfl | rfl; exact A.lok; exact A.lod)).trans (Step.of F6 fun j e => by rw [e]; exact A.lor r (.inl rfl)))
  have hnz : ∀ j, h.next ≤ j → ¬ Z j := fun j hj e => by have := A.bn j e; omega
  have hnil := bin_eql_ptr (k := h.next) (off := 0) Tryd.underlying25
  have d4 : decide ((4 : Int) = 4) = true := rfl
  refine ⟨g6, h.next, h.next + 1, ro', rb', q', ?_, ⟨S6, R6, fun j hj => ?_, hnz _ (by omega), hnz _ (by omega), fun j hj => ?_, A.T.frm Fall (A.bn _ A.gb) (fun e => e A.gb), Fall.fr A.fr, A.gb, fun j hj => Nat.lt_of_lt_of_le (A.bn j hj) Fall.next⟩, Fall⟩
  · unfold q5_56
    simp only [ob_some, b2_some, bc_ret, bcn_ret, gd_tt, gd_ff, gd_tf, gd_ft, ypk_true, ypk_false, yIf_true, yIf_false, semNil_ptr, fa_ptr, ld1_ptr, ext_tup, fd1_agg, un_not, bin_add, bin_sub, bin_mul, bin_eql, bin_neq, bin_lss, bin_leq, bin_gtr, bin_geq, Nat.zero_add, Nat.mul_one, hp, d4, decide_true, e1, e2, al, st3, hnil, e5, Bool.not_true, ld5, st6]
  · rcases hj with rfl | hj
    · omega
    · have := hrow j hj; omega
  · rcases hj with rfl | hj
    · exact A.lor _ (.inl rfl)
    · exact hnz j (by have := hrow j hj; have := F1.next; omega)
end
end Go.Proofs.YtomialandfplkaaDoor.Eva
namespace Go.Proofs.YtomialandfplkaaDoor.Eva
open Go.Xe
set_option linter.unusedSimpArgs false

section
variable {lf m : Nat} {Z : Nat → Prop} {h : HW} {k dk r ro rb n : Nat} {wd b : Nat → Nat} {q : Nat → Option Nat}
theorem acts_loop {C : YC} {lf : Nat} {x : SV} {L : List ActR} {h0 : HW} (P : BlocksOK C) (Q : RefOK C) (Ak : ActOK C) (Tk : TurnedOK C) (Acts : ActsAt Z h0 x L) (hz0 : ∀ j, Z j → j < h0.next) (hL : L.length ≤ 140737488355328) (rr : K1) (e0 : K0) : ∀ (d t : Nat), t + d = L.length → ∀ f, d < f → ∀ h k dk ro rb wd q b, St Z h k dk r ro rb n wd q b → Frm h0 h (fun j => ¬ Z j) →
    ∃ h', lp (l5_3 C lf rr e0) f (some (.int .i64 (n : Int)), some (.ptr k 0), some (.ptr r 0), some x, some (.int .i64 (L.length : Int)), some (.int .i64 (t : Int))) h = e0 h' ∧ Frm h0 h' (fun j => ¬ Z j)
  | 0, t, hw, f, hf, h, k, dk, ro, rb, wd, q, b, A, F => by
    obtain ⟨f, rfl⟩ : ∃ g, f = g + 1 := ⟨f - 1, by omega⟩
    have : t = L.length := by omega
    subst this
    refine ⟨h, ?_, F⟩
    rw [lp_succ]
    unfold l5_3 q5_82 q5_81 q5_77 q5_76
    have hlt : decide ((L.length : Int) < (L.length : Int)) = false := by simp
    simp only [ob_some, b2_some, bc_ret, bcn_ret, gd_tt, gd_ff, gd_tf, gd_ft, ypk_true, ypk_false, yIf_true, yIf_false, semNil_ptr, fa_ptr, ld1_ptr, ext_tup, fd1_agg, un_not, bin_add, bin_sub, bin_mul, bin_eql, bin_neq, bin_lss, bin_leq, bin_gtr, bin_geq, Nat.zero_add, Nat.mul_one, hlt]
  | d + 1, t, hw, f, hf, h, k, dk, ro, rb, wd, q, b, A, F => by
    obtain ⟨f, rfl⟩ : ∃ g, f = g + 1 := ⟨f - 1, by omega⟩
    have ht : t < L.length := by omega
    have hlt : decide ((t : Int) < (L.length : Int)) = true := decide_eq_true (by omega)
    have hinc : IntKind.i64.wrap ((t : Int) + 1) = ((t + 1 : Nat) : Int) := by rw [wrap_i64 (by omega) (by omega)]; omega
    have Ah := Acts.frame F hz0
    rcases Ah with ⟨_, e⟩ | ⟨ka, oa, cap, lo, mm, rfl, hm, hka, hall⟩
    · rw [e] at ht; simp at ht
    obtain ⟨hc, ok⟩ := hall t ht
    generalize L[t] = a at *
    have hix := ixS_sl (s := 4) (k := ka) (off := oa) (len := L.length) (lo := lo) (cap := cap) (kd := .i64) (i := (t : Int)) (by omega) (by omega)
    rw [Int.toNat_natCast] at hix
    have hld : ldN 4 (.ptr ka (oa + t * 4)) h = some (.agg a.cells) := by rw [ldN_ptr hm, cells_of (n := 4) (ys := a.cells) rfl hc]; rfl
    -- the variable of the call
    have hzt : tyZero Tryd.prog 47 = some (.agg #[.int .i64 0, .int .i64 0, .int .i64 0, .slice none 0 0]) := by kernel_rfl
    have al := yAl_eq (P := Tryd.prog) (e := 47) (h := h) hzt
    generalize ho : rowOb 47 (mkV (.agg #[.int .i64 0, .int .i64 0, .int .i64 0, .slice none 0 0])).cells = o at *
    have w1 : (h.new o).wr h.next 4 := by
      have := wr_new (h := h) (o := o) (by rw [← ho]; rfl)
      rw [show o.n = 4 by rw [← ho]; rfl] at this
      exact this
    have one : allOne a.cells = true := by
      unfold ActR.cells
      rcases ok.b.2 with ⟨e | ⟨_, e⟩, _⟩ | ⟨_, _, _, _, _, e, _⟩ <;> rw [e] <;> rfl
    have st1 := st_ptr (n := 4) (off := 0) (y := .agg a.cells) w1 rfl (by omega) one
    have hcy : (SV.agg a.cells).cells = a.cells := rfl
    rw [hcy] at st1
    generalize hg1 : (h.new o).set h.next 0 a.cells = g1 at *
    have n1 : g1.next = h.next + 1 := by rw [← hg1, set_next, new_next]
    have F1 : Frm h g1 (fun _ => False) := by
      rw [← hg1]
      exact ⟨by simp, by simp, fun j hj _ => (set_other _ _ _ (by omega)).trans (new_other h _ (by omega)), fun hf => fresh_set (fresh_new hf _) _ _ _⟩
    have wg : g1.wr h.next 4 := by rw [← hg1]; exact wr_set w1
    have cg : ∀ j, j < 4 → g1.cell h.next j = a.cells[j]? := fun j hj => by
      rw [← hg1, cell_set_same w1 (show 0 + a.cells.length ≤ 4 from Nat.le_refl 4) (Nat.zero_le _) (show j < 0 + a.cells.length by show j < 0 + 4; omega), Nat.sub_zero]
    have ld1 : ldN 4 (.ptr h.next 0) g1 = some (.agg a.cells) := by
      obtain ⟨m2, hm2, _⟩ := wg
      rw [ldN_ptr hm2, cells_of (n := 4) (ys := a.cells) rfl fun i hi => by rw [Nat.zero_add]; exact cg i hi]
      rfl
    have A1 := A.frame F1 (fun e => e) (fun e => e) (fun _ _ e => e) (fun _ e => e.elim)
    have A1' : St (fun j => Z j ∨ j = h.next) g1 k dk r ro rb n wd q b := ⟨A1.S, A1.R, A1.nk, fun e => by rcases e with e | e; exact A.lok e; have := A.S.lk; omega, fun e => by rcases e with e | e; exact A.lod e; have := A.S.ldk; omega, fun j hj e => by rcases e with e | e; exact A.lor j hj e; have := A.R.row_lt hj; omega, A1.T, A1.fr, .inl A.gb, fun j hj => by rcases hj with e | e; exact A1.bn j e; omega⟩
    have Bg : Bytes g1 a.bx a.l := ok.b.frame fun kb ob len cap lo e => F1.same kb (A.bn _ (ok.z kb (by rw [e]; rfl))) (fun e => e)
    obtain ⟨g2, wd2, q2, b2', a1, a2, a3⟩ := Ak (fun j => Z j ∨ j = h.next) g1 k dk r ro rb n wd q b a.kd a.i a.at_ a.bx a.l A1' ok.i1 ok.i2 ok.a1 ok.a2 Bg ok.l (fun j hj => .inl (ok.z j hj))
    have a1' : C (.fn 25) [.ptr k 0, .ptr r 0, .agg a.cells] g1 = some (.ret (.bool true), g2) := a1
    have A2 : St Z g2 k dk r ro rb n wd2 q2 b2' := a2.weak (fun _ e => .inl e) A.gb
    have hk0 : g2.cell h.next 0 = some (.int .i64 a.kd) := by
      rw [(a3.same h.next (by omega) (fun e => e (.inr rfl))).cell]; exact cg 0 (by omega)
    have F02 : Frm h0 g2 (fun j => ¬ Z j) := (F.trans (F1.weak fun _ e => e.elim)).trans (a3.weak fun j e e2 => e (.inl e2))
    -- the rest of the round, and the rounds behind it
    have rest : ∀ h3 k' dk' ro' rb' q', St Z h3 k' dk' r ro' rb' n wd2 q' b2' → Frm h0 h3 (fun j => ¬ Z j) → ∃ h', q5_33 C lf (fun x0 x5 x7 x40 x41 x42 h => q5_6 C lf (fun x0 x5 x7 x40 x41 x42 h => lp (l5_3 C lf rr e0) f (x0, x5, x7, x40, x41, x42) h) x0 x5 x7 x40 x41 x42 h) rr (some (.int .i64 (n : Int))) (some (.ptr k' 0)) (some (.ptr r 0)) (some (.sl ka oa L.length cap lo)) (some (.int .i64 (L.length : Int))) (some (.int .i64 (t : Int))) h3 = e0 h' ∧ Frm h0 h' (fun j => ¬ Z j) := by
      intro h3 k' dk' ro' rb' q' A3 F3
      obtain ⟨h4, l1, l2, l3⟩ := look (lf := lf) P Q A3 (x40 := some (.sl ka oa L.length cap lo)) (x41 := some (.int .i64 (L.length : Int))) (x42 := some (.int .i64 (t : Int))) (fun x0 x5 x7 x40 x41 x42 h => q5_6 C lf (fun x0 x5 x7 x40 x41 x42 h => lp (l5_3 C lf rr e0) f (x0, x5, x7, x40, x41, x42) h) x0 x5 x7 x40 x41 x42 h) rr
      obtain ⟨h', r1, r2⟩ := acts_loop (lf := lf) P Q Ak Tk Acts hz0 hL rr e0 d (t + 1) (by omega) f (by omega) h4 k' dk' ro' rb' wd2 q' b2' l2 (F3.trans (l3.weak fun _ e => e.elim))
      refine ⟨h', ?_, r2⟩
      rw [l1]
      unfold q5_6
      simp only [ob_some, b2_some, bc_ret, bcn_ret, gd_tt, gd_ff, gd_tf, gd_ft, ypk_true, ypk_false, yIf_true, yIf_false, semNil_ptr, fa_ptr, ld1_ptr, ext_tup, fd1_agg, un_not, bin_add, bin_sub, bin_mul, bin_eql, bin_neq, bin_lss, bin_leq, bin_gtr, bin_geq, Nat.zero_add, Nat.mul_one, hinc]
      exact r1
    have pre : lp (l5_3 C lf rr e0) (f + 1) (some (.int .i64 (n : Int)), some (.ptr k 0), some (.ptr r 0), some (.sl ka oa L.length cap lo), some (.int .i64 (L.length : Int)), some (.int .i64 (t : Int))) h =
        q5_57 C lf (fun x0 x5 x7 x40 x41 x42 h => q5_6 C lf (fun x0 x5 x7 x40 x41 x42 h => lp (l5_3 C lf rr e0) f (x0, x5, x7, x40, x41, x42) h) x0 x5 x7 x40 x41 x42 h) rr (some (.int .i64 (n : Int))) (some (.ptr k 0)) (some (.ptr r 0)) (some (.ptr h.next 0)) (some (.sl ka oa L.length cap lo)) (some (.int .i64 (L.length : Int))) (some (.int .i64 (t : Int))) g2 := by
      rw [lp_succ]
      show q5_82 C lf (fun x0 x5 x7 x40 x41 x42 h => lp (l5_3 C lf rr e0) f (x0, x5, x7, x40, x41, x42) h) rr e0 (some (.int .i64 (n : Int))) (some (.ptr k 0)) (some (.ptr r 0)) (some (.sl ka oa L.length cap lo)) (some (.int .i64 (L.length : Int))) (some (.int .i64 (t : Int))) h = _
      unfold q5_82 q5_81 q5_77 q5_76 q5_74 q5_73 q5_72 q5_65 q5_64
      simp only [ob_some, b2_some, bc_ret, bcn_ret, gd_tt, gd_ff, gd_tf, gd_ft, ypk_true, ypk_false, yIf_true, yIf_false, semNil_ptr, fa_ptr, ld1_ptr, ext_tup, fd1_agg, un_not, bin_add, bin_sub, bin_mul, bin_eql, bin_neq, bin_lss, bin_leq, bin_gtr, bin_geq, Nat.zero_add, Nat.mul_one, hlt, hix, hld, al, st1, ld1, a1', Bool.not_true]
    rw [pre]
    unfold q5_57
    by_cases h4 : a.kd = 4
    · obtain ⟨g3, k', dk', ro', rb', q', t1, t2, t3⟩ := turnaway (lf := lf) P Q Tk A2 (x9 := .ptr h.next 0) (x40 := some (.sl ka oa L.length cap lo)) (x41 := some (.int .i64 (L.length : Int))) (x42 := some (.int .i64 (t : Int))) ⟨_, rfl, by rw [hk0, h4]⟩
        (fun x0 x5 x7 x40 x41 x42 h => q5_33 C lf (fun x0 x5 x7 x40 x41 x42 h => q5_6 C lf (fun x0 x5 x7 x40 x41 x42 h => lp (l5_3 C lf rr e0) f (x0, x5, x7, x40, x41, x42) h) x0 x5 x7 x40 x41 x42 h) rr x0 x5 x7 x40 x41 x42 h) rr
      rw [t1]
      exact rest g3 k' dk' ro' rb' q' t2 (F02.trans t3)
    · unfold q5_56
      simp only [ob_some, b2_some, bc_ret, bcn_ret, gd_tt, gd_ff, gd_tf, gd_ft, ypk_true, ypk_false, yIf_true, yIf_false, semNil_ptr, fa_ptr, ld1_ptr, ext_tup, fd1_agg, un_not, bin_add, bin_sub, bin_mul, bin_eql, bin_neq, bin_lss, bin_leq, bin_gtr, bin_geq, Nat.zero_add, Nat.mul_one, hk0, decide_eq_false h4]
      exact rest g2 k dk ro rb q2 A2 F02
end
end Go.Proofs.YtomialandfplkaaDoor.Eva
namespace Go.Proofs.YtomialandfplkaaDoor.Eva
open Go.Xe
set_option linter.unusedSimpArgs false

noncomputable def tabD : Tr (YE Tryd.prog) := tabLC [(64, .fn fy64), (63, .fn fy63), (33, .fn fy33), (23, .fn fy23), (16, .fn fy16), (17, .fn fy17), (21, .fn fy21), (18, .fn fy18), (65, .fn fy65), (19, .fn fy19), (20, .fn fy20), (22, .fn fy22), (72, .fn fy72), (30, .fn fy30), (32, .fn fy32), (31, .fn fy31), (66, .fn fy66), (67, .fn fy67), (68, .fn fy68), (70, .fn fy70), (24, .fn fy24), (27, .fn fy27), (69, .fn fy69), (71, .fn fy71), (29, .fn fy29), (26, .fn fy26), (25, .fn fy25), (28, .fn fy28)]
theorem tabD_64 : getP (path 64) tabD = some (.fn fy64) := by kernel_rfl
theorem tabD_63 : getP (path 63) tabD = some (.fn fy63) := by kernel_rfl
theorem tabD_33 : getP (path 33) tabD = some (.fn fy33) := by kernel_rfl
theorem tabD_23 : getP (path 23) tabD = some (.fn fy23) := by kernel_rfl
theorem tabD_16 : getP (path 16) tabD = some (.fn fy16) := by kernel_rfl
theorem tabD_17 : getP (path 17) tabD = some (.fn fy17) := by kernel_rfl
theorem tabD_21 : getP (path 21) tabD = some (.fn fy21) := by kernel_rfl
theorem tabD_18 : getP (path 18) tabD = some (.fn fy18) := by kernel_rfl
theorem tabD_65 : getP (path 65) tabD = some (.fn fy65) := by kernel_rfl
theorem tabD_19 : getP (path 19) tabD = some (.fn fy19) := by kernel_rfl
theorem tabD_20 : getP (path 20) tabD = some (.fn fy20) := by kernel_rfl
theorem tabD_22 : getP (path 22) tabD = some (.fn fy22) := by kernel_rfl
theorem tabD_72 : getP (path 72) tabD = some (.fn fy72) := by kernel_rfl
theorem tabD_30 : getP (path 30) tabD = some (.fn fy30) := by kernel_rfl
theorem tabD_32 : getP (path 32) tabD = some (.fn fy32) := by kernel_rfl
theorem tabD_31 : getP (path 31) tabD = some (.fn fy31) := by kernel_rfl
theorem tabD_66 : getP (path 66) tabD = some (.fn fy66) := by kernel_rfl
theorem tabD_67 : getP (path 67) tabD = some (.fn fy67) := by kernel_rfl
theorem tabD_68 : getP (path 68) tabD = some (.fn fy68) := by kernel_rfl
theorem tabD_70 : getP (path 70) tabD = some (.fn fy70) := by kernel_rfl
theorem tabD_24 : getP (path 24) tabD = some (.fn fy24) := by kernel_rfl
theorem tabD_27 : getP (path 27) tabD = some (.fn fy27) := by kernel_rfl
theorem tabD_69 : getP (path 69) tabD = some (.fn fy69) := by kernel_rfl
theorem tabD_71 : getP (path 71) tabD = some (.fn fy71) := by kernel_rfl
theorem tabD_29 : getP (path 29) tabD = some (.fn fy29) := by kernel_rfl
theorem tabD_26 : getP (path 26) tabD = some (.fn fy26) := by kernel_rfl
theorem tabD_25 : getP (path 25) tabD = some (.fn fy25) := by kernel_rfl
theorem tabD_28 : getP (path 28) tabD = some (.fn fy28) := by kernel_rfl
theorem tabD_s64 {C : YC} {lf : Nat} {a0 : SV} {h : HW} : fy64.s C lf [a0] h = fs64 C lf a0 h := by kernel_rfl
theorem tabD_s63 {C : YC} {lf : Nat} {a0 : SV} {h : HW} : fy63.s C lf [a0] h = fs63 C lf a0 h := by kernel_rfl
theorem tabD_s33 {C : YC} {lf : Nat} {a0 a1 : SV} {h : HW} : fy33.s C lf [a0, a1] h = fs33 C lf a0 a1 h := by kernel_rfl
theorem tabD_s23 {C : YC} {lf : Nat} {a0 a1 : SV} {h : HW} : fy23.s C lf [a0, a1] h = fs23 C lf a0 a1 h := by kernel_rfl
theorem tabD_s16 {C : YC} {lf : Nat} {a0 : SV} {h : HW} : fy16.s C lf [a0] h = fs16 C lf a0 h := by kernel_rfl
theorem tabD_s17 {C : YC} {lf : Nat} {a0 : SV} {h : HW} : fy17.s C lf [a0] h = fs17 C lf a0 h := by kernel_rfl
theorem tabD_s21 {C : YC} {lf : Nat} {a0 a1 : SV} {h : HW} : fy21.s C lf [a0, a1] h = fs21 C lf a0 a1 h := by kernel_rfl
theorem tabD_s18 {C : YC} {lf : Nat} {a0 a1 a2 a3 : SV} {h : HW} : fy18.s C lf [a0, a1, a2, a3] h = fs18 C lf a0 a1 a2 a3 h := by kernel_rfl
theorem tabD_s65 {C : YC} {lf : Nat} {a0 : SV} {h : HW} : fy65.s C lf [a0] h = fs65 C lf a0 h := by kernel_rfl
theorem tabD_s19 {C : YC} {lf : Nat} {a0 : SV} {h : HW} : fy19.s C lf [a0] h = fs19 C lf a0 h := by kernel_rfl
theorem tabD_s20 {C : YC} {lf : Nat} {a0 : SV} {h : HW} : fy20.s C lf [a0] h = fs20 C lf a0 h := by kernel_rfl
theorem tabD_s22 {C : YC} {lf : Nat} {a0 a1 : SV} {h : HW} : fy22.s C lf [a0, a1] h = fs22 C lf a0 a1 h := by kernel_rfl
theorem tabD_s72 {C : YC} {lf : Nat} {a0 a1 : SV} {h : HW} : fy72.s C lf [a0, a1] h = fs72 C lf a0 a1 h := by kernel_rfl
theorem tabD_s30 {C : YC} {lf : Nat} {a0 : SV} {h : HW} : fy30.s C lf [a0] h = fs30 C lf a0 h := by kernel_rfl
theorem tabD_s32 {C : YC} {lf : Nat} {a0 : SV} {h : HW} : fy32.s C lf [a0] h = fs32 C lf a0 h := by kernel_rfl
theorem tabD_s31 {C : YC} {lf : Nat} {a0 a1 : SV} {h : HW} : fy31.s C lf [a0, a1] h = fs31 C lf a0 a1 h := by kernel_rfl
theorem tabD_s66 {C : YC} {lf : Nat} {a0 : SV} {h : HW} : fy66.s C lf [a0] h = fs66 C lf a0 h := by kernel_rfl
theorem tabD_s67 {C : YC} {lf : Nat} {a0 a1 : SV} {h : HW} : fy67.s C lf [a0, a1] h = fs67 C lf a0 a1 h := by kernel_rfl
theorem tabD_s68 {C : YC} {lf : Nat} {a0 a1 : SV} {h : HW} : fy68.s C lf [a0, a1] h = fs68 C lf a0 a1 h := by kernel_rfl
theorem tabD_s70 {C : YC} {lf : Nat} {a0 a1 a2 a3 : SV} {h : HW} : fy70.s C lf [a0, a1, a2, a3] h = fs70 C lf a0 a1 a2 a3 h := by kernel_rfl
theorem tabD_s24 {C : YC} {lf : Nat} {a0 : SV} {h : HW} : fy24.s C lf [a0] h = fs24 C lf a0 h := by kernel_rfl
theorem tabD_s27 {C : YC} {lf : Nat} {a0 : SV} {h : HW} : fy27.s C lf [a0] h = fs27 C lf a0 h := by kernel_rfl
theorem tabD_s69 {C : YC} {lf : Nat} {a0 : SV} {h : HW} : fy69.s C lf [a0] h = fs69 C lf a0 h := by kernel_rfl
theorem tabD_s71 {C : YC} {lf : Nat} {a0 a1 : SV} {h : HW} : fy71.s C lf [a0, a1] h = fs71 C lf a0 a1 h := by kernel_rfl
theorem tabD_s29 {C : YC} {lf : Nat} {a0 : SV} {h : HW} : fy29.s C lf [a0] h = fs29 C lf a0 h := by kernel_rfl
theorem tabD_s26 {C : YC} {lf : Nat} {a0 : SV} {h : HW} : fy26.s C lf [a0] h = fs26 C lf a0 h := by kernel_rfl
theorem tabD_s25 {C : YC} {lf : Nat} {a0 a1 a2 : SV} {h : HW} : fy25.s C lf [a0, a1, a2] h = fs25 C lf a0 a1 a2 h := by kernel_rfl
theorem tabD_s28 {C : YC} {lf : Nat} {a0 a1 : SV} {h : HW} : fy28.s C lf [a0, a1] h = fs28 C lf a0 a1 h := by kernel_rfl
theorem tabD_TzOK (m : Nat) : TzOK (runY tabD LF (m + 1)).call := by
  unfold TzOK; intros; simp only [call_fn (tab := tabD) (lf := LF) (n := m + 0) (k := m + 1) (y := fy64) (f := 64) rfl rfl tabD_64]; simp only [tabD_s64]
  apply tz_ok (C := (runY tabD LF (m + 0)).call) (lf := LF)   <;> assumption
theorem tabD_MadeOK (m : Nat) : MadeOK (runY tabD LF (m + 1)).call := by
  unfold MadeOK; intros; simp only [call_fn (tab := tabD) (lf := LF) (n := m + 0) (k := m + 1) (y := fy63) (f := 63) rfl rfl tabD_63]; simp only [tabD_s63]
  apply made_ok (C := (runY tabD LF (m + 0)).call) (lf := LF)   <;> assumption
theorem tabD_IsOK (m : Nat) : IsOK (runY tabD LF (m + 2)).call := by
  unfold IsOK; intros; simp only [call_fn (tab := tabD) (lf := LF) (n := m + 1) (k := m + 2) (y := fy33) (f := 33) rfl rfl tabD_33]; simp only [tabD_s33]
  apply is_ok (C := (runY tabD LF (m + 1)).call) (lf := LF)  (tabD_MadeOK (m + 0)) <;> assumption
theorem tabD_FreeOK (m : Nat) : FreeOK (runY tabD LF (m + 3)).call := by
  unfold FreeOK; intros; simp only [call_fn (tab := tabD) (lf := LF) (n := m + 2) (k := m + 3) (y := fy23) (f := 23) rfl rfl tabD_23]; simp only [tabD_s23]
  apply free_ok (C := (runY tabD LF (m + 2)).call) (lf := LF)  (tabD_MadeOK (m + 1)) (tabD_IsOK (m + 0)) <;> assumption
theorem tabD_NewOK (m : Nat) : NewOK (runY tabD LF (m + 1)).call := by
  unfold NewOK; intros; simp only [call_fn (tab := tabD) (lf := LF) (n := m + 0) (k := m + 1) (y := fy16) (f := 16) rfl rfl tabD_16]; simp only [tabD_s16]
  apply new_ok (C := (runY tabD LF (m + 0)).call) (lf := LF)   <;> assumption
theorem tabD_AllocOK (m : Nat) : AllocOK (runY tabD LF (m + 2)).call := by
  unfold AllocOK; intros; simp only [call_fn (tab := tabD) (lf := LF) (n := m + 1) (k := m + 2) (y := fy17) (f := 17) rfl rfl tabD_17]; simp only [tabD_s17]
  apply alloc_ok (C := (runY tabD LF (m + 1)).call) (lf := LF) (le_LF (by omega)) (tabD_MadeOK (m + 0)) (tabD_TzOK (m + 0)) <;> assumption
theorem tabD_ReadOK (m : Nat) : ReadOK (runY tabD LF (m + 3)).call := by
  unfold ReadOK; intros; simp only [call_fn (tab := tabD) (lf := LF) (n := m + 2) (k := m + 3) (y := fy21) (f := 21) rfl rfl tabD_21]; simp only [tabD_s21]
  apply read_ok (C := (runY tabD LF (m + 2)).call) (lf := LF)  (tabD_MadeOK (m + 1)) (tabD_IsOK (m + 0)) <;> assumption
theorem tabD_WriteOK (m : Nat) : WriteOK (runY tabD LF (m + 3)).call := by
  unfold WriteOK; intros; simp only [call_fn (tab := tabD) (lf := LF) (n := m + 2) (k := m + 3) (y := fy18) (f := 18) rfl rfl tabD_18]; simp only [tabD_s18]
  apply write_ok (C := (runY tabD LF (m + 2)).call) (lf := LF)  (tabD_MadeOK (m + 1)) (tabD_IsOK (m + 0)) <;> assumption
theorem tabD_OnesOK (m : Nat) : OnesOK (runY tabD LF (m + 1)).call := by
  unfold OnesOK; intros; simp only [call_fn (tab := tabD) (lf := LF) (n := m + 0) (k := m + 1) (y := fy65) (f := 65) rfl rfl tabD_65]; simp only [tabD_s65]
  apply ones_ok (C := (runY tabD LF (m + 0)).call) (lf := LF)   <;> assumption
theorem tabD_LeftOK (m : Nat) : LeftOK (runY tabD LF (m + 2)).call := by
  unfold LeftOK; intros; simp only [call_fn (tab := tabD) (lf := LF) (n := m + 1) (k := m + 2) (y := fy19) (f := 19) rfl rfl tabD_19]; simp only [tabD_s19]
  apply left_ok (C := (runY tabD LF (m + 1)).call) (lf := LF) (le_LF (by omega)) (tabD_MadeOK (m + 0)) (tabD_OnesOK (m + 0)) <;> assumption
theorem tabD_UsedOK (m : Nat) : UsedOK (runY tabD LF (m + 3)).call := by
  unfold UsedOK; intros; simp only [call_fn (tab := tabD) (lf := LF) (n := m + 2) (k := m + 3) (y := fy20) (f := 20) rfl rfl tabD_20]; simp only [tabD_s20]
  apply used_ok (C := (runY tabD LF (m + 2)).call) (lf := LF) (le_LF (by omega)) (tabD_MadeOK (m + 1)) (tabD_IsOK (m + 0)) <;> assumption
theorem tabD_SameOK (m : Nat) : SameOK (runY tabD LF (m + 1)).call := by
  unfold SameOK; intros; simp only [call_fn (tab := tabD) (lf := LF) (n := m + 0) (k := m + 1) (y := fy22) (f := 22) rfl rfl tabD_22]; simp only [tabD_s22]
  apply same_ok (C := (runY tabD LF (m + 0)).call) (lf := LF)   <;> assumption
theorem tabD_RIsOK (m : Nat) : RIsOK (runY tabD LF (m + 1)).call := by
  unfold RIsOK; intros; simp only [call_fn (tab := tabD) (lf := LF) (n := m + 0) (k := m + 1) (y := fy72) (f := 72) rfl rfl tabD_72]; simp only [tabD_s72]
  apply ris_ok (C := (runY tabD LF (m + 0)).call) (lf := LF)   <;> assumption
theorem tabD_RLeftOK (m : Nat) : RLeftOK (runY tabD LF (m + 1)).call := by
  unfold RLeftOK; intros; simp only [call_fn (tab := tabD) (lf := LF) (n := m + 0) (k := m + 1) (y := fy30) (f := 30) rfl rfl tabD_30]; simp only [tabD_s30]
  apply rleft_ok (C := (runY tabD LF (m + 0)).call) (lf := LF) (le_LF (by omega))  <;> assumption
theorem tabD_RUsedOK (m : Nat) : RUsedOK (runY tabD LF (m + 1)).call := by
  unfold RUsedOK; intros; simp only [call_fn (tab := tabD) (lf := LF) (n := m + 0) (k := m + 1) (y := fy32) (f := 32) rfl rfl tabD_32]; simp only [tabD_s32]
  apply rused_ok (C := (runY tabD LF (m + 0)).call) (lf := LF) (le_LF (by omega))  <;> assumption
theorem tabD_SameIntsOK (m : Nat) : SameIntsOK (runY tabD LF (m + 1)).call := by
  unfold SameIntsOK; intros; simp only [call_fn (tab := tabD) (lf := LF) (n := m + 0) (k := m + 1) (y := fy31) (f := 31) rfl rfl tabD_31]; simp only [tabD_s31]
  apply ints_ok (C := (runY tabD LF (m + 0)).call) (lf := LF) (le_LF (by omega))  <;> assumption
theorem tabD_RAllocOK (m : Nat) : RAllocOK (runY tabD LF (m + 1)).call := by
  unfold RAllocOK; intros; simp only [call_fn (tab := tabD) (lf := LF) (n := m + 0) (k := m + 1) (y := fy66) (f := 66) rfl rfl tabD_66]; simp only [tabD_s66]
  apply ralloc_ok (C := (runY tabD LF (m + 0)).call) (lf := LF) (le_LF (by omega))  <;> assumption
theorem tabD_RFreeOK (m : Nat) : RFreeOK (runY tabD LF (m + 2)).call := by
  unfold RFreeOK; intros; simp only [call_fn (tab := tabD) (lf := LF) (n := m + 1) (k := m + 2) (y := fy67) (f := 67) rfl rfl tabD_67]; simp only [tabD_s67]
  apply rfree_ok (C := (runY tabD LF (m + 1)).call) (lf := LF)  (tabD_RIsOK (m + 0)) <;> assumption
theorem tabD_RReadOK (m : Nat) : RReadOK (runY tabD LF (m + 2)).call := by
  unfold RReadOK; intros; simp only [call_fn (tab := tabD) (lf := LF) (n := m + 1) (k := m + 2) (y := fy68) (f := 68) rfl rfl tabD_68]; simp only [tabD_s68]
  apply rread_ok (C := (runY tabD LF (m + 1)).call) (lf := LF)  (tabD_RIsOK (m + 0)) <;> assumption
theorem tabD_RWriteOK (m : Nat) : RWriteOK (runY tabD LF (m + 2)).call := by
  unfold RWriteOK; intros; simp only [call_fn (tab := tabD) (lf := LF) (n := m + 1) (k := m + 2) (y := fy70) (f := 70) rfl rfl tabD_70]; simp only [tabD_s70]
  apply rwrite_ok (C := (runY tabD LF (m + 1)).call) (lf := LF) (le_LF (by omega)) (tabD_RIsOK (m + 0)) <;> assumption
theorem tabD_RNewOK (m : Nat) : RNewOK (runY tabD LF (m + 1)).call := by
  unfold RNewOK; intros; simp only [call_fn (tab := tabD) (lf := LF) (n := m + 0) (k := m + 1) (y := fy24) (f := 24) rfl rfl tabD_24]; simp only [tabD_s24]
  apply rnew_ok (C := (runY tabD LF (m + 0)).call) (lf := LF)   <;> assumption
theorem tabD_RCopyOK (m : Nat) : RCopyOK (runY tabD LF (m + 1)).call := by
  unfold RCopyOK; intros; simp only [call_fn (tab := tabD) (lf := LF) (n := m + 0) (k := m + 1) (y := fy27) (f := 27) rfl rfl tabD_27]; simp only [tabD_s27]
  apply rcopy_ok (C := (runY tabD LF (m + 0)).call) (lf := LF) (le_LF (by omega))  <;> assumption
theorem tabD_LendOK (m : Nat) : LendOK (runY tabD LF (m + 1)).call := by
  unfold LendOK; intros; simp only [call_fn (tab := tabD) (lf := LF) (n := m + 0) (k := m + 1) (y := fy69) (f := 69) rfl rfl tabD_69]; simp only [tabD_s69]
  apply lend_ok (C := (runY tabD LF (m + 0)).call) (lf := LF) (le_LF (by omega))  <;> assumption
theorem tabD_KeptOK (m : Nat) : KeptOK (runY tabD LF (m + 1)).call := by
  unfold KeptOK; intros; simp only [call_fn (tab := tabD) (lf := LF) (n := m + 0) (k := m + 1) (y := fy71) (f := 71) rfl rfl tabD_71]; simp only [tabD_s71]
  apply kept_ok (C := (runY tabD LF (m + 0)).call) (lf := LF)   <;> assumption
theorem tabD_TotalOK (m : Nat) : TotalOK (runY tabD LF (m + 2)).call := by
  unfold TotalOK; intros; simp only [call_fn (tab := tabD) (lf := LF) (n := m + 1) (k := m + 2) (y := fy29) (f := 29) rfl rfl tabD_29]; simp only [tabD_s29]
  apply total_ok (C := (runY tabD LF (m + 1)).call) (lf := LF)  (tabD_MadeOK (m + 0)) <;> assumption
theorem tabD_CopyOK (m : Nat) : CopyOK (runY tabD LF (m + 2)).call := by
  unfold CopyOK; intros; simp only [call_fn (tab := tabD) (lf := LF) (n := m + 1) (k := m + 2) (y := fy26) (f := 26) rfl rfl tabD_26]; simp only [tabD_s26]
  apply copy_ok (C := (runY tabD LF (m + 1)).call) (lf := LF)  (tabD_MadeOK (m + 0)) <;> assumption
theorem tabD_Blocks (m : Nat) : BlocksOK (runY tabD LF (m + 3)).call := ⟨tabD_NewOK (m + 2), tabD_AllocOK (m + 1), tabD_FreeOK m, tabD_ReadOK m, tabD_WriteOK m, tabD_LeftOK (m + 1), tabD_UsedOK m, tabD_SameOK (m + 2)⟩
theorem tabD_Ref (m : Nat) : RefOK (runY tabD LF (m + 3)).call := ⟨tabD_RIsOK (m + 2), tabD_RLeftOK (m + 2), tabD_RUsedOK (m + 2), tabD_SameIntsOK (m + 2), tabD_RAllocOK (m + 2), tabD_RFreeOK (m + 1), tabD_RReadOK (m + 1), tabD_RWriteOK (m + 1), tabD_RNewOK (m + 2), tabD_RCopyOK (m + 2), tabD_LendOK (m + 2), tabD_KeptOK (m + 2), tabD_TotalOK (m + 1), tabD_CopyOK (m + 1), tabD_IsOK (m + 1)⟩
theorem tabD_ActOK (m : Nat) : ActOK (runY tabD LF (m + 4)).call := by
  unfold ActOK; intros; simp only [call_fn (tab := tabD) (lf := LF) (n := m + 3) (k := m + 4) (y := fy25) (f := 25) rfl rfl tabD_25]; simp only [tabD_s25]
  apply act_ok (C := (runY tabD LF (m + 3)).call) (lf := LF) (le_LF (by omega)) (tabD_Blocks m) (tabD_Ref m) <;> assumption
theorem tabD_TurnedOK (m : Nat) : TurnedOK (runY tabD LF (m + 4)).call := by
  unfold TurnedOK; intros; simp only [call_fn (tab := tabD) (lf := LF) (n := m + 3) (k := m + 4) (y := fy28) (f := 28) rfl rfl tabD_28]; simp only [tabD_s28]
  apply turned_ok (C := (runY tabD LF (m + 3)).call) (lf := LF) (le_LF (by omega)) (tabD_Blocks m) (tabD_Ref m) <;> assumption
end Go.Proofs.YtomialandfplkaaDoor.Eva
namespace Go.Proofs.YtomialandfplkaaDoor.Eva
open Go.Xe
set_option linter.unusedSimpArgs false

section
theorem con_blocks {C : YC} (h1 : NewOK C) (h2 : AllocOK C) (h3 : FreeOK C) (h4 : ReadOK C) (h5 : WriteOK C) (h6 : LeftOK C) (h7 : UsedOK C) (h8 : SameOK C) : BlocksOK (conY cons C) := by
  refine ⟨?_, ?_, ?_, ?_, ?_, ?_, ?_, ?_⟩
  · unfold NewOK at *; simpa only [con_other (C := C) (f := 16) rfl] using h1
  · unfold AllocOK at *; simpa only [con_other (C := C) (f := 17) rfl] using h2
  · unfold FreeOK at *; simpa only [con_other (C := C) (f := 23) rfl] using h3
  · unfold ReadOK at *; simpa only [con_other (C := C) (f := 21) rfl] using h4
  · unfold WriteOK at *; simpa only [con_other (C := C) (f := 18) rfl] using h5
  · unfold LeftOK at *; simpa only [con_other (C := C) (f := 19) rfl] using h6
  · unfold UsedOK at *; simpa only [con_other (C := C) (f := 20) rfl] using h7
  · unfold SameOK at *; simpa only [con_other (C := C) (f := 22) rfl] using h8
theorem blocksC : BlocksOK (conY cons (runY tabC LF 10).call) := con_blocks (tabC_NewOK 9) (tabC_AllocOK 8) (tabC_FreeOK 7) (tabC_ReadOK 7) (tabC_WriteOK 7) (tabC_LeftOK 8) (tabC_UsedOK 7) (tabC_SameOK 9)

variable {C : YC}
theorem back_main {lf : Nat} (hlf : 64 ≤ lf) (H : BlocksOK C) {h0 : HW} (ht : hasTab 0 .u8 zs h0 = true) (hgn : 0 < h0.next) (hL : ∀ h, hasTab 0 .u8 zs h = true → C (.fn 15) [] h = some (.ret (.bool true), h))
    {a t : Nat} (ha : a < 2 ^ 64) (htt : t < 2 ^ 64) {x : SV} {l : List Nat} (B : Bytes h0 x l) (hr : CapOK x) (hl : l.length ≤ 140737488351232) (hx : ∀ kb, rowOf x = some kb → kb < h0.next) :
    ∃ h', fs4 C lf (.int .u64 (a : Int)) (.int .u64 (t : Int)) x h0 = some (.ret (.bool true), h') := by
  have e1 : ((a : Int)).tmod 60 = ((a % 60 : Nat) : Int) := by rw [Int.tmod_eq_emod_of_nonneg (by omega)]; omega
  have e2 : cvI .i64 (.int .u64 ((a % 60 : Nat) : Int)) = some (.int .i64 ((a % 60 : Nat) : Int)) := by simp only [cvI, forceI_eq]; rw [wrap_i64 (by omega) (by omega)]
  have e3 : IntKind.i64.wrap (((a % 60 : Nat) : Int) + 1) = ((a % 60 + 1 : Nat) : Int) := by rw [wrap_i64 (by omega) (by omega)]; omega
  generalize hn : a % 60 + 1 = n at *
  have hn1 : 1 ≤ n := by omega
  have hn2 : n ≤ 60 := by omega
  obtain ⟨h1, n1, n2, S, F1⟩ := (H.new h0 (n : Int) (by omega) (by omega)).2 (by omega) (by omega)
  rw [Int.toNat_natCast] at S
  have e4 : cvI .u64 (.int .i64 (n : Int)) = some (.int .u64 (n : Int)) := by simp only [cvI, forceI_eq]; rw [wrap_u64 (by omega) (by omega)]
  have e5 : ((t : Int)).tmod (n : Int) = ((t % n : Nat) : Int) := by rw [Int.tmod_eq_emod_of_nonneg (by omega)]; omega
  have hK : t % n < n := Nat.mod_lt _ hn1
  generalize hKe : t % n = K at *
  have e6 : cvI .i64 (.int .u64 (K : Int)) = some (.int .i64 (K : Int)) := by simp only [cvI, forceI_eq]; rw [wrap_i64 (by omega) (by omega)]
  have hnil := bin_eql_ptr (k := h0.next + 1) (off := 0) Tryd.underlying25
  have T1 : TabAt h1 := (tabAt_of ht).frm F1 hgn (fun e => e)
  have hg1 : 0 < h1.next := Nat.lt_of_lt_of_le hgn F1.next
  obtain ⟨h2, wd, b, l1, S2, T2, on, hb, F2⟩ := take_loop (lf := lf) H.alloc (x := x) hK (by omega) hg1 (show h0.next + 1 ≠ _ by omega) (show h0.next ≠ _ by omega) ff4
    (fun x2 x7 x8 x10 h => q4_90 C lf ff4 x2 x7 x8 x10 h) (K + 1) 0 (by omega) lf (by omega) h1 _ _ S T1 (fun j => by simp [onB]) (fun j => rfl) (Frm.refl _ _)
  have pre : fs4 C lf (.int .u64 (a : Int)) (.int .u64 (t : Int)) x h0 = q4_90 C lf ff4 (some x) (some (.int .i64 (n : Int))) (some (.ptr (h0.next + 1) 0)) (some (.int .i64 (K : Int))) h2 := by
    refine Eq.trans ?_ l1
    unfold fs4 q4_140 q4_139 q4_138 q4_137 q4_132 q4_131 q4_126 q4_125 q4_117 q4_116 q4_110 q4_109 q4_108
    simp only [ob_some, b2_some, bc_ret, bcn_ret, gd_tt, gd_ff, gd_tf, gd_ft, ypk_true, ypk_false, yIf_true, yIf_false, semNil_ptr, fa_ptr, ld1_ptr, ext_tup, fd1_agg, un_not, bin_add, bin_sub, bin_mul, bin_eql, bin_neq, bin_lss, bin_leq, bin_gtr, bin_geq, Nat.zero_add, Nat.mul_one, bin_rem (show (60 : Int) ≠ 0 by decide), e1, e2, e3, n1, List.getElem?_cons_zero, List.getElem?_cons_succ, neF, hnil, e4, bin_rem (show (n : Int) ≠ 0 by omega), e5, e6]
    rfl
  have hn60 := S2.n1
  have F02 := (F1.weak (S' := fun j => j = h0.next + 1 ∨ j = h0.next) fun _ e => e.elim).trans F2
  have hx2 : ∀ kb, rowOf x = some kb → kb ≠ h0.next + 1 ∧ kb ≠ h0.next ∧ kb < h2.next := fun kb e => by
    have := hx kb e
    have := F02.next
    omega
  have B2 : Bytes h2 x l := B.frame fun kb ob len cap lo e => by
    have h9 := hx kb (by rw [e]; rfl)
    exact (F2.same _ (Nat.lt_of_lt_of_le h9 F1.next) (fun e => by omega)).trans (F1.same _ h9 (fun e => e))
  have hLL : ∀ h', Frm h2 h' (fun j => j = h0.next + 1 ∨ j = h0.next) → C (.fn 15) [] h' = some (.ret (.bool true), h') := fun h' F => hL h' (by
    have e : SameOb h0 h' 0 := (F.same _ (Nat.lt_of_lt_of_le hg1 F2.next) (fun e => by omega)).trans ((F2.same _ hg1 (fun e => by omega)).trans (F1.same _ hgn (fun e => e)))
    rw [hasTab_same (F.ng.trans (F2.ng.trans F1.ng)) e]; exact ht)
  have hg2 := Nat.lt_of_lt_of_le hg1 F2.next
  have hlen := len_bytes (P := Tryd.prog) Tryd.underlying24 B
  rw [pre]
  by_cases h64 : l.length ≤ 64
  · obtain ⟨h', e⟩ := back_tail (lf := lf) H S2 T2 hg2 (by omega) (by omega) on hK B2 hr h64 hx2 hLL
    refine ⟨h', ?_⟩
    rw [← e]
    unfold q4_90 q4_89
    have hd : decide ((64 : Int) < (l.length : Int)) = false := decide_eq_false (by omega)
    simp only [ob_some, b2_some, bc_ret, bcn_ret, gd_tt, gd_ff, gd_tf, gd_ft, ypk_true, ypk_false, yIf_true, yIf_false, semNil_ptr, fa_ptr, ld1_ptr, ext_tup, fd1_agg, un_not, bin_add, bin_sub, bin_mul, bin_eql, bin_neq, bin_lss, bin_leq, bin_gtr, bin_geq, Nat.zero_add, Nat.mul_one, hlen, hd]
  · obtain ⟨x', s1, s2, s3⟩ := bytes_hi (P := Tryd.prog) (t := 24) (q := 64) (kd := .i64) Tryd.underlying24 (s := 1) (by kernel_rfl) B2 hr (by omega)
    have hrow : ∀ kb, rowOf x' = some kb → rowOf x = some kb := fun kb e => by
      rcases B.2 with ⟨_, rfl⟩ | ⟨k1, ob, cap, lo, m, rfl, _, _⟩
      · simp at h64
      · obtain ⟨cap', lo', q1, _⟩ := slice_hi (P := Tryd.prog) (t := 24) (q := 64) (kd := .i64) Tryd.underlying24 (s := 1) (by kernel_rfl) hr (by omega)
        rw [q1] at s1
        cases s1
        exact e
    obtain ⟨h', e⟩ := back_tail (lf := lf) H S2 T2 hg2 (by omega) (by omega) on hK s2 s3 (by simp; omega) (fun kb e => hx2 kb (hrow kb e)) hLL
    refine ⟨h', ?_⟩
    rw [← e]
    have s1' : semSlice Tryd.prog 24 x none (some (.int .i64 64)) = some x' := s1
    unfold q4_90 q4_89
    have hd : decide ((64 : Int) < (l.length : Int)) = true := decide_eq_true (by omega)
    simp only [ob_some, b2_some, bc_ret, bcn_ret, gd_tt, gd_ff, gd_tf, gd_ft, ypk_true, ypk_false, yIf_true, yIf_false, semNil_ptr, fa_ptr, ld1_ptr, ext_tup, fd1_agg, un_not, bin_add, bin_sub, bin_mul, bin_eql, bin_neq, bin_lss, bin_leq, bin_gtr, bin_geq, Nat.zero_add, Nat.mul_one, hlen, hd, s1']
def FUEL : Nat := 10
theorem main {w : World} (ht : hasTab 0 .u8 zs (hw0 w) = true) {n t : Int} (hn : IntKind.u64.min ≤ n ∧ n ≤ IntKind.u64.max) (htt : IntKind.u64.min ≤ t ∧ t ≤ IntKind.u64.max)
    {x : SV} {l : List Nat} (B : Bytes (hw0 w) x l) (hr : CapOK x) (hl : l.length ≤ 140737488351232) :
    ∃ h', fy4.s (conY cons (runY tabC LF FUEL).call) LF [.int .u64 n, .int .u64 t, x] (hw0 w) = some (.ret (.bool true), h') := by
  have m1 : IntKind.u64.min = 0 := rfl
  have m2 : IntKind.u64.max = 18446744073709551615 := rfl
  obtain ⟨a, rfl⟩ : ∃ a : Nat, n = a := ⟨n.toNat, by omega⟩
  obtain ⟨b, rfl⟩ : ∃ a : Nat, t = a := ⟨t.toNat, by omega⟩
  have hgn : 0 < (hw0 w).next := by
    obtain ⟨_, ⟨m, hm⟩, _⟩ := hasTab_cell ht
    exact hw0_row hm
  exact back_main (le_LF (by omega)) blocksC ht hgn (fun h e => con_lives e) (by omega) (by omega) B hr hl (fun kb e => by
    rcases B.2 with ⟨rfl | ⟨_, rfl⟩, _⟩ | ⟨k1, ob, cap, lo, m, rfl, hm, _⟩
    · cases e
    · cases e
    · cases e; exact hw0_row hm)
end
end Go.Proofs.YtomialandfplkaaDoor.Eva
namespace Go.Proofs.YtomialandfplkaaDoor.Eva
open Go.Xe
set_option linter.unusedSimpArgs false

section
theorem bin_eql_nil {P : Program} {t e : TypeId} (hu : P.underlying t = some (.pointer e)) : bin P .eql t (.val (.pointer none)) (.val (.pointer none)) = some (.bool true) := by
  rw [bin_eq]; show eqOp P .eql t _ _ = _; simp [eqOp, eqTop, eqE, hu]
theorem con_ref {C : YC} (Q : RefOK C) : RefOK (conY cons C) := by
  refine ⟨?_, ?_, ?_, ?_, ?_, ?_, ?_, ?_, ?_, ?_, ?_, ?_, ?_, ?_, ?_⟩
  · have := Q.is; unfold RIsOK at *; simpa only [con_other (C := C) (f := 72) rfl] using this
  · have := Q.left; unfold RLeftOK at *; simpa only [con_other (C := C) (f := 30) rfl] using this
  · have := Q.used; unfold RUsedOK at *; simpa only [con_other (C := C) (f := 32) rfl] using this
  · have := Q.ints; unfold SameIntsOK at *; simpa only [con_other (C := C) (f := 31) rfl] using this
  · have := Q.alloc; unfold RAllocOK at *; simpa only [con_other (C := C) (f := 66) rfl] using this
  · have := Q.free; unfold RFreeOK at *; simpa only [con_other (C := C) (f := 67) rfl] using this
  · have := Q.read; unfold RReadOK at *; simpa only [con_other (C := C) (f := 68) rfl] using this
  · have := Q.write; unfold RWriteOK at *; simpa only [con_other (C := C) (f := 70) rfl] using this
  · have := Q.new; unfold RNewOK at *; simpa only [con_other (C := C) (f := 24) rfl] using this
  · have := Q.copy; unfold RCopyOK at *; simpa only [con_other (C := C) (f := 27) rfl] using this
  · have := Q.lend; unfold LendOK at *; simpa only [con_other (C := C) (f := 69) rfl] using this
  · have := Q.kept; unfold KeptOK at *; simpa only [con_other (C := C) (f := 71) rfl] using this
  · have := Q.total; unfold TotalOK at *; simpa only [con_other (C := C) (f := 29) rfl] using this
  · have := Q.pcopy; unfold CopyOK at *; simpa only [con_other (C := C) (f := 26) rfl] using this
  · have := Q.pis; unfold IsOK at *; simpa only [con_other (C := C) (f := 33) rfl] using this
theorem blocksD : BlocksOK (conY cons (runY tabD LF 10).call) := let B := tabD_Blocks 7; con_blocks B.new B.alloc B.free B.read B.write B.left B.used B.same
theorem refD : RefOK (conY cons (runY tabD LF 10).call) := con_ref (tabD_Ref 7)
theorem actD : ActOK (conY cons (runY tabD LF 10).call) := by
  have := tabD_ActOK 6; unfold ActOK at *; simpa only [con_other (f := 25) rfl] using this
theorem turnedD : TurnedOK (conY cons (runY tabD LF 10).call) := by
  have := tabD_TurnedOK 6; unfold TurnedOK at *; simpa only [con_other (f := 28) rfl] using this
variable {C : YC} {lf : Nat}
theorem acts_main (hlf : 140737488355400 ≤ lf) (P : BlocksOK C) (Q : RefOK C) (Ak : ActOK C) (Tk : TurnedOK C) {h0 : HW} (hf0 : Fresh h0) (ht : hasTab 0 .u8 zs h0 = true) (hgn : 0 < h0.next) (hLv : ∀ h, hasTab 0 .u8 zs h = true → C (.fn 15) [] h = some (.ret (.bool true), h))
    {n : Int} (hn1 : -9223372036854775808 ≤ n) (hn2 : n < 9223372036854775808) {x : SV} {L : List ActR} (Acts : ActsAt (fun j => j < h0.next) h0 x L) (hL : L.length ≤ 140737488355328) :
    ∃ h', fs5 C lf (.int .i64 n) x h0 = some (.ret (.bool true), h') := by
  have hne := P.new h0 n hn1 hn2
  have lives : ∀ h', Frm h0 h' (fun j => ¬ j < h0.next) → C (.fn 15) [] h' = some (.ret (.bool true), h') := fun h' F => hLv h' (by
    rw [hasTab_same F.ng (F.same _ hgn (fun e => e hgn))]; exact ht)
  have d22 : decide ((22 : Int) = 22) = true := rfl
  have hnn := bin_eql_nil Tryd.underlying25
  unfold fs5 q5_129 q5_128 q5_127 q5_126 q5_121 q5_120
  by_cases hb : n < 1 ∨ 4096 < n
  · have e1 := hne.1 hb
    have e2 := lives h0 (Frm.refl _ _)
    refine ⟨h0, ?_⟩
    by_cases b1 : n < 1
    · simp only [ob_some, b2_some, bc_ret, bcn_ret, gd_tt, gd_ff, gd_tf, gd_ft, ypk_true, ypk_false, yIf_true, yIf_false, semNil_ptr, fa_ptr, ld1_ptr, ext_tup, fd1_agg, un_not, bin_add, bin_sub, bin_mul, bin_eql, bin_neq, bin_lss, bin_leq, bin_gtr, bin_geq, Nat.zero_add, Nat.mul_one, e1, List.getElem?_cons_zero, List.getElem?_cons_succ, decide_eq_true b1, hnn, d22, decide_true, e2]
      rfl
    · have b2 : 4096 < n := by omega
      simp only [ob_some, b2_some, bc_ret, bcn_ret, gd_tt, gd_ff, gd_tf, gd_ft, ypk_true, ypk_false, yIf_true, yIf_false, semNil_ptr, fa_ptr, ld1_ptr, ext_tup, fd1_agg, un_not, bin_add, bin_sub, bin_mul, bin_eql, bin_neq, bin_lss, bin_leq, bin_gtr, bin_geq, Nat.zero_add, Nat.mul_one, e1, List.getElem?_cons_zero, List.getElem?_cons_succ, decide_eq_false b1, decide_eq_true b2, hnn, d22, decide_true, e2]
      rfl
  · obtain ⟨h1, e1, n1, S1, F1⟩ := hne.2 (by omega) (by omega)
    obtain ⟨N, rfl⟩ : ∃ N : Nat, n = N := ⟨n.toNat, by omega⟩
    rw [Int.toNat_natCast] at S1
    obtain ⟨h2, y0, y1, ro, rb, e2, V2, F2, l1, l2⟩ := Q.new h1 N (by omega) (by omega) (F1.fr hf0)
    have hz : tyZero Tryd.prog 44 = some (.agg #[.slice none 0 0, .slice none 0 0]) := by kernel_rfl
    have al := yAl_eq (P := Tryd.prog) (e := 44) (h := h2) hz
    generalize ho : rowOb 44 (mkV (.agg #[.slice none 0 0, .slice none 0 0])).cells = o at *
    have w3 : (h2.new o).wr h2.next 2 := by
      have := wr_new (h := h2) (o := o) (by rw [← ho]; rfl)
      rw [show o.n = 2 by rw [← ho]; rfl] at this
      exact this
    obtain ⟨c0, q0, ey0⟩ := V2.e0
    obtain ⟨c1, q1, ey1⟩ := V2.e1
    have one : allOne [y0, y1] = true := by rw [ey0, ey1]; rfl
    have st3 := st_ptr (n := 2) (off := 0) (y := .agg [y0, y1]) w3 rfl (by omega) one
    have hcy : (SV.agg [y0, y1]).cells = [y0, y1] := rfl
    rw [hcy] at st3
    generalize hg4 : (h2.new o).set h2.next 0 [y0, y1] = g4 at *
    have n4 : g4.next = h2.next + 1 := by rw [← hg4, set_next, new_next]
    have c4 : ∀ j, j < 2 → g4.cell h2.next j = [y0, y1][j]? := fun j hj => by
      rw [← hg4, cell_set_same w3 (by simp) (Nat.zero_le _) (by simpa using hj), Nat.sub_zero]
    have F4 : Frm h2 g4 (fun _ => False) := by
      rw [← hg4]
      exact ⟨by simp, by simp, fun j hj _ => (set_other _ _ _ (by omega)).trans (new_other h2 _ (by omega)), fun hf => fresh_set (fresh_new hf _) _ _ _⟩
    have Fall := (F1.trans F2).trans F4
    have n2 := F2.next
    have hq : ∀ i k, (fun _ : Nat => (none : Option Nat)) i = some k → False := fun i k e => by cases e
    have V4 := V2.frame F4.next fun j hj => F4.same j (V2.row_lt hj) (fun e => e)
    have hlo := V2.lto
    have hlb := V2.ltb
    have eon : onB (fun _ => 0) = fun _ => false := by funext j; simp [onB]
    have R4 : RefAt g4 h2.next ro rb N (onB (fun _ => 0)) (fun _ => none) (fun _ => 0) := by
      rw [eon]
      exact ⟨⟨y0, y1, c4 0 (by omega), c4 1 (by omega), V4⟩, by rw [← hg4]; exact wr_set w3, by omega, by omega, fun i k _ e => (hq i k e).elim, by omega⟩
    have S4 : StoreAt g4 (h0.next + 1) h0.next N (fun _ => 0) (fun _ => 0) := (S1.frm F2 (fun e => e) (fun e => e)).frm F4 (fun e => e) (fun e => e)
    have rows : ∀ j, rowsR h2.next ro rb N (fun _ => none) j → h0.next + 2 ≤ j := fun j hj => by
      rcases hj with rfl | rfl | rfl | ⟨i, _, e⟩
      · omega
      · omega
      · omega
      · exact (hq i j e).elim
    have A4 : St (fun j => j < h0.next) g4 (h0.next + 1) h0.next h2.next ro rb N (fun _ => 0) (fun _ => none) (fun _ => 0) :=
      ⟨S4, R4, fun j hj => by have := rows j hj; omega, by omega, by omega, fun j hj => by have := rows j hj; omega, (tabAt_of ht).frm Fall hgn (fun e => e), Fall.fr hf0, hgn, fun j hj => by have hj : j < h0.next := hj; omega⟩
    have F04 : Frm h0 g4 (fun j => ¬ j < h0.next) := Fall.weak fun _ e => e.elim
    obtain ⟨h', l3, l4⟩ := acts_loop (lf := lf) P Q Ak Tk Acts (fun j hj => hj) hL ff5 (fun h => q5_2 C lf ff5 h) L.length 0 (by omega) lf (by omega) g4 _ _ _ _ _ _ _ A4 F04
    have hlv := lives h' l4
    have hlen := Acts.len
    have b1 : decide ((N : Int) < 1) = false := decide_eq_false (by omega)
    have b2 : decide ((4096 : Int) < (N : Int)) = false := decide_eq_false (by omega)
    have hnil := bin_eql_ptr (k := h0.next + 1) (off := 0) Tryd.underlying25
    refine ⟨h', ?_⟩
    simp only [ob_some, b2_some, bc_ret, bcn_ret, gd_tt, gd_ff, gd_tf, gd_ft, ypk_true, ypk_false, yIf_true, yIf_false, semNil_ptr, fa_ptr, ld1_ptr, ext_tup, fd1_agg, un_not, bin_add, bin_sub, bin_mul, bin_eql, bin_neq, bin_lss, bin_leq, bin_gtr, bin_geq, Nat.zero_add, Nat.mul_one, e1, List.getElem?_cons_zero, List.getElem?_cons_succ, b1, b2]
    unfold q5_102 q5_101 q5_93 q5_92 q5_87 q5_86 q5_85
    simp only [ob_some, b2_some, bc_ret, bcn_ret, gd_tt, gd_ff, gd_tf, gd_ft, ypk_true, ypk_false, yIf_true, yIf_false, semNil_ptr, fa_ptr, ld1_ptr, ext_tup, fd1_agg, un_not, bin_add, bin_sub, bin_mul, bin_eql, bin_neq, bin_lss, bin_leq, bin_gtr, bin_geq, Nat.zero_add, Nat.mul_one, neF, hnil, e2, al, st3, hlen]
    refine Eq.trans l3 ?_
    unfold q5_2 ff5
    simp only [ob_some, b2_some, bc_ret, bcn_ret, gd_tt, gd_ff, gd_tf, gd_ft, ypk_true, ypk_false, yIf_true, yIf_false, semNil_ptr, fa_ptr, ld1_ptr, ext_tup, fd1_agg, un_not, bin_add, bin_sub, bin_mul, bin_eql, bin_neq, bin_lss, bin_leq, bin_gtr, bin_geq, Nat.zero_add, Nat.mul_one, hlv]
end
end Go.Proofs.YtomialandfplkaaDoor.Eva
namespace Go.Xe
section
variable {H : Type} {enc : TypeId × Value → H}
/-- As the row's wrap, with what is known of the input's blocks handed on. -/
theorem handed_of_row {a : Assume} {C : Checked} {os : Os} {f : FuncId} {fn : Func} {s : OpenSpec} {F : Stop.Interp} {conds : List PathCond} {apart fresh handsOn again : Bool} {laid : List (String × DataW Unit)}
    (own : ownKnob C.prog.godebug = none) (started : os.Started) (noInit : C.prog.inits.idxOf? f = none) (hfn : C.prog.funcs[f]? = some fn)
    (witness : ∃ (w : World) (tape : Tape) (i : Input), w.os = os ∧ (w.forCall tape i).Shaped C.prog ∧ i.vars = [] ∧ Input.okWide C.prog (w.forCall tape i) .any w.heap.size f i ∧
      s.preRow enc C.prog fn conds apart laid (w.forCall tape i).memory i.args ∧ a.holds C.prog (lone (Frame.enter C.prog f i.args .normal) [] (w.forCall tape i)))
    (contract : ∀ (w : World) (tape : Tape) (i : Input) (ds gs : List (DataW H)) (before : List MemPlace),
      Input.okWide C.prog (w.forCall tape i) .any w.heap.size f i →
      DataW.Whole enc C.prog fn.params.toList s.vars apart (w.forCall tape i) i.args.toList ds gs before →
      (DataW.weightsEach C.prog (fn.params.toList ++ s.bare.plain.varTypes C.prog) (ds ++ gs)).all (· ≤ reachBytes) = true →
      laidMetH C.prog laid (w.forCall tape i) →
      Calls C.prog f i.args (w.forCall tape i) fun e W' => ∃ v, e = .returned v ∧ (s.at F).post enc C.prog fn apart fresh handsOn again (w.forCall tape i) i.args v W') :
    ReturnsInHanded a C os f .any (s.preRow enc C.prog fn conds apart laid) ((s.at F).post enc C.prog fn apart fresh handsOn again) := by
  refine returnsInHanded_of_calls own started noInit witness ?_
  intro w tape i _ hsh _ hok hpre hholds
  have hok0 := hok
  obtain ⟨_, _, _, fn', hfn', _, _, _, _, hval⟩ := hok
  have e : fn' = fn := Option.some.inj (hfn'.symm.trans hfn)
  subst e
  obtain ⟨⟨hp, hl⟩, hz⟩ := hpre
  obtain ⟨ds, gs, before, hw, hc, hk⟩ := OpenSpec.pre_parts hp
  have hw' := DataW.Whole.of_heap (w' := w.forCall tape i) (by rfl) hw
  refine (contract w tape i ds gs before hok0 hw' (hz.weights hw) (hl.of_heap (by rfl))).mono fun e W' ⟨v, he, hp⟩ => ?_
  subst he
  exact ChangeSpec.post_blind hp
end
end Go.Xe
namespace Go.Xe
open Go.ChangeShapes Go.WideShapes Go.ChangeAt Go.RowKit

/-! What a law's arguments are, slices and structs in them. -/
section
variable {P : Program} {H : Type} {enc : TypeId × Value → H} {w : World}
theorem weightsAll_mem {e : TypeId} : ∀ {l : List (DataW H)} {d : DataW H}, d ∈ l → ∀ n ∈ d.weights P e, n ∈ DataW.weightsAll P e l
  | d' :: r, d, hd, n, hn => by
    simp only [DataW.weightsAll, List.mem_append]
    rcases List.mem_cons.1 hd with rfl | h
    · exact Or.inl hn
    · exact Or.inr (weightsAll_mem h n hn)
/-- All that is read is small enough. -/
def Wt (P : Program) (t : TypeId) (d : DataW H) : Prop := ∀ n ∈ d.weights P t, n ≤ 140737488351232
theorem wt_top {ts : List TypeId} {ds : List (DataW H)} {j : Nat} {t : TypeId} {d : DataW H} (h : (DataW.weightsEach P ts ds).all (· ≤ reachBytes) = true) (ht : ts[j]? = some t) (hd : ds[j]? = some d) : Wt P t d := fun n hn => by
  have := List.all_eq_true.1 h _ (DataW.weights_mem_each ht hd n hn)
  have hr : reachBytes = 140737488351232 := rfl
  rw [hr] at this
  simpa using this
theorem Wt.len {t e : TypeId} {el sp : List (DataW H)} (h : Wt P t (.slice el sp)) (hu : P.underlying t = some (.slice e)) : (el.length + sp.length) * P.bytesOf e ≤ 140737488351232 :=
  h _ (by simp [DataW.weights, hu])
theorem Wt.elem {t e : TypeId} {el sp : List (DataW H)} (h : Wt P t (.slice el sp)) (hu : P.underlying t = some (.slice e)) {x : DataW H} (hx : x ∈ el) : Wt P e x := fun n hn =>
  h n (by
    simp only [DataW.weights, hu, List.mem_cons, List.mem_append]
    exact .inr (.inl (weightsAll_mem hx n hn)))
theorem Wt.field {t : TypeId} {fs : Array Field} {ds : List (DataW H)} (h : Wt P t (.agg ds)) (hu : P.underlying t = some (.struct fs)) {i : Nat} {f : Field} {d : DataW H} (hf : fs[i]? = some f) (hd : ds[i]? = some d) : Wt P f.type d := fun n hn =>
  h n (by
    simp only [DataW.weights, hu]
    exact DataW.weights_mem_each (j := i) (by simp [hf]) hd n hn)
theorem Wt.str {t : TypeId} {bytes : List UInt8} (h : Wt P t (.lit (.string bytes) : DataW H)) : bytes.length ≤ 140737488351232 := h _ (by simp [DataW.weights])

theorem slice_trod {t e s fuel : Nat} {v : Value} {d : DataW H} {ps : List MemPlace} (ht : P.underlying t = some (.slice e)) (hs : P.cellsOf e = s) (h1 : 1 ≤ s)
    (hf : DataW.trod enc P w 0 (fun _ => true) true fuel t [v] = some (d, ps)) :
    liftA w.heap.size v = lift w.heap.size v ∧ ((lift w.heap.size v = .val (.slice none 0 0) ∧ d = .nil) ∨ (lift w.heap.size v = .se 0 ∧ d = .slice [] []) ∨
      ∃ (id off len cap : Nat) (m : Mt) (el sp : List (DataW H)), lift w.heap.size v = .sl id off len (some cap) 0 ∧ len ≤ cap ∧ (hw0 w).mt id = some m ∧ d = .slice el sp ∧ el.length = len ∧
        ∀ i, i < len → ∃ (cs : List Value) (fuel' : Nat) (d' : DataW H) (ps' : List MemPlace), cs.length = s ∧ el[i]? = some d' ∧ (∀ j, j < s → (hw0 w).cell id (off + i * s + j) = (cs[j]?).map (lift w.heap.size)) ∧
          DataW.trod enc P w 0 (fun _ => true) true fuel' e cs = some (d', ps')) := by
  subst hs
  rcases DataW.trod_slice ht hf with ⟨hcs, hx⟩ | ⟨a, len, cap, elems, rest, n, _, hcs, hx, _, hl, hm, hlen, hel, hsp, _⟩
  · simp only [List.cons.injEq, and_true] at hcs
    subst hcs
    exact ⟨rfl, .inl ⟨rfl, (Prod.mk.inj hx).1⟩⟩
  · simp only [List.cons.injEq, and_true] at hcs
    subst hcs
    refine ⟨rfl, .inr ?_⟩
    have hd := (Prod.mk.inj hx).1
    obtain ⟨hr1, hr2⟩ := hsp rfl
    by_cases h0 : len = 0 ∧ cap = 0
    · obtain ⟨rfl, rfl⟩ := h0
      have e1 : elems = [] := List.length_eq_zero_iff.1 hlen
      have e2 : rest = [] := List.length_eq_zero_iff.1 (by simpa using hr1)
      rw [e1, e2] at hd
      exact .inl ⟨rfl, hd⟩
    · have hp : 0 < cap := by omega
      obtain ⟨id, off, spot⟩ := a
      -- a first element, in use or spare
      have first : ∃ cs, w.cells? 0 (Addr.add ⟨id, off, spot⟩ 0) (P.cellsOf e) = some cs := by
        by_cases hl0 : 0 < len
        · have h2 := hel 0 hl0
          have h3 : 0 < elems.length := by omega
          rw [List.getElem?_eq_getElem h3] at h2
          obtain ⟨cs, g1, _⟩ := Option.bind_eq_some_iff.1 h2
          exact ⟨cs, by simpa using g1⟩
        · have hl0 : len = 0 := by omega
          have h2 := hr2 0 (by omega)
          have h3 : 0 < rest.length := by omega
          rw [List.getElem?_eq_getElem h3] at h2
          obtain ⟨cs, g1, _⟩ := Option.bind_eq_some_iff.1 h2
          rw [hl0] at g1
          exact ⟨cs, by simpa using g1⟩
      obtain ⟨c0, hc0⟩ := first
      obtain ⟨_, hlc, hcc⟩ := World.cells?_some hc0
      have hcell0 := hcc 0 (by omega)
      have hlt0 : 0 < c0.length := by omega
      rw [List.getElem?_eq_getElem hlt0] at hcell0
      have hs : spot = none := add_spot (add_spot (World.cell?_spot hcell0))
      subst hs
      rw [addr_add, addr_add] at hcell0
      have hid : id < w.heap.size := cell_lt hcell0
      obtain ⟨m, hmt⟩ := hw0_mt hcell0
      refine .inr ⟨id, off, len, cap, m, _, _, lift_sl (off := off) hid h0, hl, hmt, hd, by simpa using hlen, fun i hi => ?_⟩
      have h2 := hel i hi
      have h3 : i < elems.length := by omega
      rw [List.getElem?_eq_getElem h3] at h2
      obtain ⟨cs, g1, g2⟩ := Option.bind_eq_some_iff.1 h2
      obtain ⟨_, k1, k2⟩ := World.cells?_some g1
      refine ⟨cs, n, elems[i].1, elems[i].2, k1, by simp [List.getElem?_eq_getElem h3], fun j hj => ?_, g2⟩
      have := k2 j hj
      rw [addr_add, addr_add] at this
      rw [hw0_cell, this]
theorem field_trod {t fuel i : Nat} {fs : Array Field} {cs : List Value} {d : DataW H} {ps : List MemPlace} {f : Field} (ht : P.underlying t = some (.struct fs)) (h : DataW.trod enc P w 0 (fun _ => true) true fuel t cs = some (d, ps)) (hf : fs[i]? = some f) :
    ∃ (fuel' : Nat) (ds : List (DataW H)) (d' : DataW H) (ps' : List MemPlace), d = .agg ds ∧ ds[i]? = some d' ∧ DataW.trod enc P w 0 (fun _ => true) true fuel' f.type ((cs.drop f.offset).take (P.cellsOf f.type)) = some (d', ps') := by
  obtain ⟨xs, n, _, hx, _, hl, hall⟩ := DataW.trod_struct ht h
  have h1 := hall i f hf
  have hi : i < xs.length := by
    rw [hl]
    exact (Array.getElem?_eq_some_iff.1 hf).1
  rw [List.getElem?_eq_getElem hi] at h1
  exact ⟨n, _, xs[i].1, xs[i].2, (Prod.mk.inj hx).1, by simp [List.getElem?_eq_getElem hi], h1⟩
/-- A field of one cell. -/
theorem one_trod {t fuel o : Nat} {cs : List Value} {d : DataW H} {ps : List MemPlace} (hl : o < cs.length) (h : DataW.trod enc P w 0 (fun _ => true) true fuel t ((cs.drop o).take 1) = some (d, ps)) :
    ∃ v, cs[o]? = some v ∧ DataW.trod enc P w 0 (fun _ => true) true fuel t [v] = some (d, ps) := by
  have : (cs.drop o).take 1 = [cs[o]] := by
    rw [List.drop_eq_getElem_cons hl]; rfl
  rw [this] at h
  exact ⟨cs[o], List.getElem?_eq_getElem hl, h⟩
/-- A struct's field of one cell. -/
theorem fld {t ty fuel i o : Nat} {fs : Array Field} {cs : List Value} {d : DataW H} {ps : List MemPlace} {f : Field} (ht : P.underlying t = some (.struct fs)) (h : DataW.trod enc P w 0 (fun _ => true) true fuel t cs = some (d, ps)) (hf : fs[i]? = some f)
    (hty : f.type = ty) (ho : f.offset = o) (hc : P.cellsOf ty = 1) (hl : o < cs.length) :
    ∃ (v : Value) (fuel' : Nat) (ds : List (DataW H)) (d' : DataW H) (ps' : List MemPlace), cs[o]? = some v ∧ d = .agg ds ∧ ds[i]? = some d' ∧ DataW.trod enc P w 0 (fun _ => true) true fuel' ty [v] = some (d', ps') := by
  obtain ⟨f', ds, d', ps', h1, h2, h3⟩ := field_trod ht h hf
  rw [hty, ho, hc] at h3
  obtain ⟨v, h4, h5⟩ := one_trod hl h3
  exact ⟨v, f', ds, d', ps', h4, h1, h2, h5⟩
theorem Wt.fld {t ty i : Nat} {fs : Array Field} {f : Field} {ds : List (DataW H)} {d : DataW H} (h : Wt P t (.agg ds)) (hu : P.underlying t = some (.struct fs)) (hf : fs[i]? = some f) (hty : f.type = ty) (hd : ds[i]? = some d) : Wt P ty d := by
  rw [← hty]; exact h.field hu hf hd
theorem int_trod {t fuel : Nat} {k : IntKind} {v : Value} {d : DataW H} {ps : List MemPlace} (ht : P.underlying t = some (.int k)) (h : DataW.trod enc P w 0 (fun _ => true) true fuel t [v] = some (d, ps)) :
    ∃ n, v = .int k n ∧ k.min ≤ n ∧ n ≤ k.max := by
  obtain ⟨n, h1, _, hw⟩ := DataW.trod_int ht h
  simp only [List.cons.injEq, and_true] at h1
  exact ⟨n, h1, by simpa [Lit.wf] using hw⟩
theorem bool_trod {t fuel : Nat} {v : Value} {d : DataW H} {ps : List MemPlace} (ht : P.underlying t = some .bool) (h : DataW.trod enc P w 0 (fun _ => true) true fuel t [v] = some (d, ps)) : ∃ b, v = .bool b := by
  obtain ⟨b, h1, _⟩ := DataW.trod_bool ht h
  simp only [List.cons.injEq, and_true] at h1
  exact ⟨b, h1⟩
theorem str_trod {t fuel : Nat} {v : Value} {d : DataW H} {ps : List MemPlace} (ht : P.underlying t = some .string) (h : DataW.trod enc P w 0 (fun _ => true) true fuel t [v] = some (d, ps)) : ∃ s : ByteArray, v = .string s ∧ d = .lit (.string s.data.toList) := by
  obtain ⟨s, h1, h2, _⟩ := DataW.trod_string ht h
  simp only [List.cons.injEq, and_true] at h1
  exact ⟨s, h1, (Prod.mk.inj h2).1⟩
/-- A slice that is an argument of its own. -/
theorem slice_arg {t e s j : Nat} {v : Value} {d : DataW H} {ps : List MemPlace} {r : Reach} {b0 : Nat} {ts : List TypeId} {ds : List (DataW H)} (ht : P.underlying t = some (.slice e)) (hs : P.cellsOf e = s) (h1 : 1 ≤ s)
    (hval : Value.okWide P w r b0 t v) (h : DataW.Trod enc P w 0 (fun _ => true) true t v d ps) (hts : ts[j]? = some t) (hds : ds[j]? = some d) (hz : (DataW.weightsEach P ts ds).all (· ≤ reachBytes) = true) :
    Emp (liftA w.heap.size v) ∨
      ∃ (id off len cap : Nat) (m : Mt), liftA w.heap.size v = .sl id off len (some cap) 0 ∧ len ≤ cap ∧ (hw0 w).mt id = some m ∧ len * P.bytesOf e ≤ 140737488351232 ∧
        ∀ i, i < len → ∃ (cs : List Value) (fuel' : Nat) (d' : DataW H) (ps' : List MemPlace), cs.length = s ∧ Wt P e d' ∧ (∀ j, j < s → (hw0 w).cell id (off + i * s + j) = (cs[j]?).map (lift w.heap.size)) ∧
          DataW.trod enc P w 0 (fun _ => true) true fuel' e cs = some (d', ps') := by
  have hwt := wt_top hz hts hds
  obtain ⟨fuel, hf⟩ := h
  obtain ⟨a0, len0, cap0, rfl⟩ := okWide_slice ht hval
  have hf : DataW.trod enc P w 0 (fun _ => true) true fuel t [.slice a0 len0 cap0] = some (d, ps) := hf
  obtain ⟨e0, e1⟩ := slice_trod ht hs h1 hf
  rw [e0]
  rcases e1 with ⟨e1, rfl⟩ | ⟨e1, rfl⟩ | ⟨id, off, len, cap, m, el, sp, e1, hlc, hm, rfl, hlen, hall⟩
  · exact .inl (.inl e1)
  · exact .inl (.inr ⟨_, e1⟩)
  · have h3 := hwt.len ht
    have h4 : len * P.bytesOf e ≤ (el.length + sp.length) * P.bytesOf e := Nat.mul_le_mul_right _ (by omega)
    refine .inr ⟨id, off, len, cap, m, e1, hlc, hm, by omega, fun i hi => ?_⟩
    obtain ⟨cs, fuel', d', ps', g1, g2, g3, g4⟩ := hall i hi
    exact ⟨cs, fuel', d', ps', g1, hwt.elem ht (List.mem_of_getElem? g2), g3, g4⟩
/-- Bytes, and how many. -/
theorem bytes_trodW {t e fuel : Nat} {v : Value} {d : DataW H} {ps : List MemPlace} (ht : P.underlying t = some (.slice e)) (he : P.underlying e = some (.int .u8)) (hc : P.cellsOf e = 1) (hb : P.bytesOf e = 1)
    (hf : DataW.trod enc P w 0 (fun _ => true) true fuel t [v] = some (d, ps)) (hw : Wt P t d) :
    ∃ l : List Nat, Bytes (hw0 w) (lift w.heap.size v) l ∧ CapOK (lift w.heap.size v) ∧ l.length ≤ 140737488351232 := by
  obtain ⟨l, B, C, _, hd⟩ := bytes_trod ht he hc hf
  refine ⟨l, B, C, ?_⟩
  rcases hd with ⟨_, rfl⟩ | ⟨el, sp, rfl, hl⟩
  · simp
  · have := hw.len ht
    rw [hb] at this
    omega
end
theorem choose_list {α : Type} {p : Nat → α → Prop} : ∀ {n : Nat}, (∀ i, i < n → ∃ a, p i a) → ∃ L : List α, L.length = n ∧ ∀ i (hi : i < L.length), p i L[i]
  | 0, _ => ⟨[], rfl, fun i hi => by simp at hi⟩
  | n + 1, h => by
    obtain ⟨L, h1, h2⟩ := choose_list (p := p) (n := n) fun i hi => h i (by omega)
    obtain ⟨a, ha⟩ := h n (by omega)
    refine ⟨L ++ [a], by simp [h1], fun i hi => ?_⟩
    by_cases hn : i < L.length
    · rw [List.getElem_append_left hn]; exact h2 i hn
    · have : i = n := by simp at hi; omega
      subst this
      rw [List.getElem_append_right (by omega)]
      simpa [h1] using ha
end Go.Xe
namespace Go.Proofs.YtomialandfplkaaDoor.Eva
open Go.Xe Go.ChangeShapes Go.WideShapes Go.ChangeAt Go.RowKit
set_option linter.unusedSimpArgs false

section
variable {H : Type} {enc : TypeId × Value → H} {w : World}
theorem cellsAct : Tryd.prog.cellsOf 47 = 4 := by kernel_rfl
theorem bytesAct : Tryd.prog.bytesOf 47 = 48 := by kernel_rfl
theorem cellsAt : ∀ t ∈ [24, 3], Tryd.prog.cellsOf t = 1 := by
  intro t ht
  simp only [List.mem_cons, List.not_mem_nil, or_false] at ht
  rcases ht with rfl | rfl <;> kernel_rfl
theorem bytesU8 : Tryd.prog.bytesOf 5 = 1 := by kernel_rfl
theorem hw0_lt {x : SV} {l : List Nat} (B : Bytes (hw0 w) x l) {j : Nat} (e : rowOf x = some j) : j < (hw0 w).next := by
  rcases B.2 with ⟨rfl | ⟨_, rfl⟩, _⟩ | ⟨k1, ob, cap, lo, m, rfl, hm, _⟩
  · cases e
  · cases e
  · cases e; exact hw0_row hm
theorem act_trod {fuel : Nat} {cs : List Value} {d : DataW H} {ps : List MemPlace} (hl : cs.length = 4) (hf : DataW.trod enc Tryd.prog w 0 (fun _ => true) true fuel 47 cs = some (d, ps)) (hw : Wt Tryd.prog 47 d) :
    ∃ a : ActR, (∀ j, j < 4 → (cs[j]?).map (lift w.heap.size) = a.cells[j]?) ∧ a.Ok (fun j => j < (hw0 w).next) (hw0 w) := by
  have hu := Tryd.underlying47
  have ci : Tryd.prog.cellsOf 3 = 1 := cellsAt _ (by simp)
  have cb : Tryd.prog.cellsOf 24 = 1 := cellsAt _ (by simp)
  obtain ⟨v0, _, _, _, _, c0, _, _, t0⟩ := fld (i := 0) (o := 0) hu hf rfl rfl rfl ci (by omega)
  obtain ⟨v1, _, _, _, _, c1, _, _, t1⟩ := fld (i := 1) (o := 1) hu hf rfl rfl rfl ci (by omega)
  obtain ⟨v2, _, _, _, _, c2, _, _, t2⟩ := fld (i := 2) (o := 2) hu hf rfl rfl rfl ci (by omega)
  obtain ⟨v3, _, _, _, _, c3, rfl, e3, t3⟩ := fld (i := 3) (o := 3) hu hf rfl rfl rfl cb (by omega)
  obtain ⟨n0, rfl, _⟩ := int_trod Tryd.underlying3 t0
  obtain ⟨n1, rfl, g1⟩ := int_trod Tryd.underlying3 t1
  obtain ⟨n2, rfl, g2⟩ := int_trod Tryd.underlying3 t2
  obtain ⟨l, B, _, hl3⟩ := bytes_trodW Tryd.underlying24 Tryd.underlying5 cellsEl bytesU8 t3 (hw.fld hu rfl rfl e3)
  have m1 : IntKind.i64.min = -9223372036854775808 := rfl
  have m2 : IntKind.i64.max = 9223372036854775807 := rfl
  refine ⟨⟨n0, n1, n2, lift w.heap.size v3, l⟩, fun j hj => ?_, ⟨by show _ ≤ n1; omega, by show n1 < _; omega, by show _ ≤ n2; omega, by show n2 < _; omega, B, hl3, fun j hj => hw0_lt B hj⟩⟩
  match j, hj with
  | 0, _ => rw [c0]; rfl
  | 1, _ => rw [c1]; rfl
  | 2, _ => rw [c2]; rfl
  | 3, _ => rw [c3]; rfl
set_option maxRecDepth 100000 in
theorem acts_arg {v : Value} {d : DataW H} {ps : List MemPlace} {r : Reach} {b0 j : Nat} {ts : List TypeId} {ds : List (DataW H)} (hval : Value.okWide Tryd.prog w r b0 40 v)
    (h : DataW.Trod enc Tryd.prog w 0 (fun _ => true) true 40 v d ps) (hts : ts[j]? = some 40) (hds : ds[j]? = some d) (hz : (DataW.weightsEach Tryd.prog ts ds).all (· ≤ reachBytes) = true) :
    ∃ L, ActsAt (fun j => j < (hw0 w).next) (hw0 w) (liftA w.heap.size v) L ∧ L.length ≤ 140737488355328 := by
  rcases slice_arg Tryd.underlying40 cellsAct (by omega) hval h hts hds hz with e1 | ⟨id, off, len, cap, m, e1, _, hm, h3, hall⟩
  · exact ⟨[], .inl ⟨e1, rfl⟩, Nat.zero_le _⟩
  · have each : ∀ i, i < len → ∃ a : ActR, (∀ j, j < 4 → (hw0 w).cell id (off + i * 4 + j) = a.cells[j]?) ∧ a.Ok (fun j => j < (hw0 w).next) (hw0 w) := fun i hi => by
      obtain ⟨cs, fuel', d', ps', g1, g2, g3, g4⟩ := hall i hi
      obtain ⟨a, k1, k2⟩ := act_trod g1 g4 g2
      exact ⟨a, fun j hj => (g3 j hj).trans (k1 j hj), k2⟩
    obtain ⟨L, h1, h2⟩ := choose_list each
    rw [bytesAct] at h3
    exact ⟨L, .inr ⟨id, off, some cap, 0, m, by rw [e1, h1], hm, hw0_row hm, fun t ht => h2 t ht⟩, by omega⟩
def FUELD : Nat := 10
theorem mainD (ht : hasTab 0 .u8 zs (hw0 w) = true) {n : Int} (hn : IntKind.i64.min ≤ n ∧ n ≤ IntKind.i64.max) {x : SV} {L : List ActR} (A : ActsAt (fun j => j < (hw0 w).next) (hw0 w) x L) (hL : L.length ≤ 140737488355328) :
    ∃ h', fy5.s (conY cons (runY tabD LF FUELD).call) LF [.int .i64 n, x] (hw0 w) = some (.ret (.bool true), h') := by
  have m1 : IntKind.i64.min = -9223372036854775808 := rfl
  have m2 : IntKind.i64.max = 9223372036854775807 := rfl
  have hgn : 0 < (hw0 w).next := by
    obtain ⟨_, ⟨m, hm⟩, _⟩ := hasTab_cell ht
    exact hw0_row hm
  exact acts_main (le_LF (by omega)) blocksD refD actD turnedD (fresh_hw0 w) ht hgn (fun h e => con_lives e) (by omega) (by omega) A hL
end
end Go.Proofs.YtomialandfplkaaDoor.Eva
