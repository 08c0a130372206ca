/- What is proved of the functions' texts holds of their calls: InodeNew. -/
import Derived.SizedLaws
import Derived.Test.YtomialandfplkaaDoorCards
import Derived.Test.YtomialandfplkaaDoorTie
import Derived.WalkKit
import Derived.ProofKit
import Derived.OpenShut
import Derived.Deep.DeepHandedRow
import Derived.Lib.LaidTab
import Derived.Test.YtomialandfplkaaDoorWInodeNewm3
import Derived.Test.YtomialandfplkaaDoorWInodeNewm2
set_option linter.unusedSimpArgs false
set_option linter.unusedVariables false
namespace Go.Proofs.YtomialandfplkaaDoor.Eva
open Go.Xe
set_option linter.unusedSimpArgs false
theorem pop_count : ∀ n x, pop n x = ((List.range n).filter fun i => x.testBit i).length
  | 0, _ => rfl
  | n + 1, x => by
    rw [List.range_succ_eq_map, List.filter_cons]
    simp only [pop, pop_count n (x / 2), List.filter_map, List.length_map]
    have e : (List.range n).filter ((fun i => x.testBit i) ∘ Nat.succ) = (List.range n).filter fun i => (x / 2).testBit i := by
      apply List.filter_congr
      intro i _
      simp [Nat.testBit_succ]
    cases hb : x.testBit 0 with
    | true =>
      have : x % 2 = 1 := by simpa [Nat.testBit_zero] using hb
      simp only [if_true, List.length_cons, List.length_map, e]; omega
    | false =>
      have : x % 2 = 0 := by simp [Nat.testBit_zero] at hb; omega
      simp [e, this]
def sumPop (wd : Nat → Nat) : Nat → Nat
  | 0 => 0
  | m + 1 => sumPop wd m + pop 64 (wd m)
theorem range_add64 (m : Nat) : List.range (64 * (m + 1)) = List.range (64 * m) ++ (List.range 64).map (64 * m + ·) := by
  rw [Nat.mul_succ, List.range_add]
theorem sumPop_eq (wd : Nat → Nat) : ∀ m, sumPop wd m = ((List.range (64 * m)).filter (onB wd)).length
  | 0 => rfl
  | m + 1 => by
    rw [range_add64, List.filter_append, List.length_append, sumPop, sumPop_eq wd m, pop_count, List.filter_map, List.length_map]
    congr 2
    apply List.filter_congr
    intro i hi
    have : i < 64 := List.mem_range.1 hi
    simp only [Function.comp, onB]
    rw [show (64 * m + i) / 64 = m by omega, show (64 * m + i) % 64 = i by omega]
def usedL (wd : Nat → Nat) (n : Nat) : List Nat := (List.range n).filter (onB wd)
theorem usedL_le (wd : Nat → Nat) (n : Nat) : (usedL wd n).length ≤ n := by
  have := List.length_filter_le (onB wd) (List.range n)
  simpa [usedL] using this
section
variable {lf m : Nat} {h : HW} {k dk n : Nat} {wd b : Nat → Nat}
theorem StoreAt.sum (S : StoreAt h k dk n wd b) : sumPop wd 64 = (usedL wd n).length := by
  rw [sumPop_eq]
  have h2 := S.n2
  have e : List.range (64 * 64) = List.range n ++ (List.range (4096 - n)).map (n + ·) := by
    rw [show 64 * 64 = n + (4096 - n) by omega, List.range_add]
  rw [e, List.filter_append, List.length_append, usedL]
  have : ((List.range (4096 - n)).map (n + ·)).filter (onB wd) = [] := by
    rw [List.filter_eq_nil_iff]
    intro x hx
    obtain ⟨i, hi, rfl⟩ := List.mem_map.1 hx
    have hi : i < 4096 - n := List.mem_range.1 hi
    unfold onB
    rw [S.out ((n + i) / 64) ((n + i) % 64) (by omega) (by omega) (by omega)]
    simp
  rw [this]; rfl
theorem sumPop_mono (wd : Nat → Nat) : ∀ a d, sumPop wd a ≤ sumPop wd (a + d)
  | a, 0 => Nat.le_refl _
  | a, d + 1 => Nat.le_trans (sumPop_mono wd a d) (Nat.le_add_right _ _)
def OnesOK (C : YC) : Prop := ∀ h (x : Nat), x < 2 ^ 64 → C (.fn 65) [.int .u64 (x : Int)] h = some (.ret (.int .i64 (pop 64 x : Nat)), h)
theorem bin_addN {P : Program} {t : TypeId} {a b : Nat} (h : a + b < 2 ^ 64) : bin P .add t (.int .u64 (a : Int)) (.int .u64 (b : Int)) = some (.int .u64 ((a + b : Nat) : Int)) := by
  rw [bin_add, wrap_u64 (by omega) (by omega)]; rfl
theorem bin_shrN {P : Program} {t : TypeId} {a : Nat} (b p : Nat) (hb : b < 64) (hp : 2 ^ b = p) : bin P .shr t (.int .u64 (a : Int)) (.int .u64 (b : Int)) = some (.int .u64 ((a / p : Nat) : Int)) := by
  rw [bin_shr hb, hp]
theorem bin_andN {P : Program} {t : TypeId} {a : Nat} (b : Nat) (ha : a < 2 ^ 64) (hb : b < 2 ^ 64) : bin P .and t (.int .u64 (a : Int)) (.int .u64 (b : Int)) = some (.int .u64 ((a &&& b : Nat) : Int)) := bin_and ha hb
theorem bin_and127 {P : Program} {t : TypeId} {a : Nat} (ha : a < 2 ^ 62) : bin P .and t (.int .i64 (a : Int)) (.int .i64 127) = some (.int .i64 ((a % 128 : Nat) : Int)) := by
  rw [bin_bits .and (.inl rfl)]
  have h1 : BitVec.ofInt 64 (a : Int) = BitVec.ofNat 64 a := ofInt_nat a
  have h2 : BitVec.ofInt 64 (127 : Int) = BitVec.ofNat 64 127 := rfl
  have h3 : (BitVec.ofNat 64 a &&& BitVec.ofNat 64 127).toNat = a % 128 := by
    rw [BitVec.toNat_and, BitVec.toNat_ofNat, BitVec.toNat_ofNat, Nat.mod_eq_of_lt (by omega), Nat.mod_eq_of_lt (by omega)]
    exact Nat.and_two_pow_sub_one_eq_mod a 7
  show some (forceI (IntKind.i64.wrap ((BitVec.ofInt 64 (a : Int) &&& BitVec.ofInt 64 (127 : Int)).toNat : Int)) fun r => SV.int .i64 r) = _
  rw [forceI_eq, h1, h2, h3, wrap_i64 (by omega) (by omega)]
theorem ones_ok {C : YC} {lf x : Nat} {h : HW} (hx : x < 2 ^ 64) : fs65 C lf (.int .u64 (x : Int)) h = some (.ret (.int .i64 (pop 64 x : Nat)), h) := by
  obtain ⟨p1, p2⟩ := popOf x
  rw [← s123 8 x, masks.1, masks.2.1, masks.2.2] at p1 p2
  have a1 : x / 2 < 2 ^ 64 := by omega
  have a2 : x / 2 &&& 6148914691236517205 ≤ 6148914691236517205 := Nat.and_le_right
  have a3 : x &&& 6148914691236517205 ≤ 6148914691236517205 := Nat.and_le_right
  have hs1 : s1 6148914691236517205 x = (x / 2 &&& 6148914691236517205) + (x &&& 6148914691236517205) := rfl
  have b0 : s1 6148914691236517205 x < 2 ^ 64 := by omega
  generalize hy : s1 6148914691236517205 x = y at *
  have b2 : y / 4 &&& 3689348814741910323 ≤ 3689348814741910323 := Nat.and_le_right
  have b3 : y &&& 3689348814741910323 ≤ 3689348814741910323 := Nat.and_le_right
  have hs2 : s2 3689348814741910323 y = (y / 4 &&& 3689348814741910323) + (y &&& 3689348814741910323) := rfl
  have c0 : s2 3689348814741910323 y ≤ 7378697629483820646 := by omega
  generalize hz : s2 3689348814741910323 y = z at *
  have hs3 : s3 1085102592571150095 z = (z / 16 + z) &&& 1085102592571150095 := rfl
  generalize hw : s3 1085102592571150095 z = w at *
  have hs4 : s4 w = w + w / 256 := rfl
  have hs5 : s5 (s4 w) = s4 w + s4 w / 65536 := rfl
  have hs6 : s6 (s5 (s4 w)) = s5 (s4 w) + s5 (s4 w) / 4294967296 := rfl
  have d4 : s4 w < 2 ^ 61 := by omega
  generalize hq4 : s4 w = w4 at *
  have d5 : s5 w4 < 2 ^ 61 + 2 ^ 50 := by omega
  generalize hq5 : s5 w4 = w5 at *
  have d6 : s6 w5 < 2 ^ 62 := by omega
  generalize hq6 : s6 w5 = w6 at *
  have e1 := bin_shrN (P := Tryd.prog) (t := 55) (a := x) 1 2 (by omega) rfl
  have e2 := bin_andN (P := Tryd.prog) (t := 55) (a := x / 2) 6148914691236517205 a1 (by omega)
  have e3 := bin_andN (P := Tryd.prog) (t := 55) (a := x) 6148914691236517205 hx (by omega)
  have e4 := bin_addN (P := Tryd.prog) (t := 55) (a := x / 2 &&& 6148914691236517205) (b := x &&& 6148914691236517205) (by omega)
  rw [← hs1] at e4
  have e5 := bin_shrN (P := Tryd.prog) (t := 55) (a := y) 2 4 (by omega) rfl
  have e6 := bin_andN (P := Tryd.prog) (t := 55) (a := y / 4) 3689348814741910323 (by omega) (by omega)
  have e7 := bin_andN (P := Tryd.prog) (t := 55) (a := y) 3689348814741910323 b0 (by omega)
  have e8 := bin_addN (P := Tryd.prog) (t := 55) (a := y / 4 &&& 3689348814741910323) (b := y &&& 3689348814741910323) (by omega)
  rw [← hs2] at e8
  have e9 := bin_shrN (P := Tryd.prog) (t := 55) (a := z) 4 16 (by omega) rfl
  have e10 := bin_addN (P := Tryd.prog) (t := 55) (a := z / 16) (b := z) (by omega)
  have e11 := bin_andN (P := Tryd.prog) (t := 55) (a := z / 16 + z) 1085102592571150095 (by omega) (by omega)
  rw [← hs3] at e11
  have e12 := bin_shrN (P := Tryd.prog) (t := 55) (a := w) 8 256 (by omega) rfl
  have e13 := bin_addN (P := Tryd.prog) (t := 55) (a := w) (b := w / 256) (by omega)
  rw [← hs4] at e13
  have e14 := bin_shrN (P := Tryd.prog) (t := 55) (a := w4) 16 65536 (by omega) rfl
  have e15 := bin_addN (P := Tryd.prog) (t := 55) (a := w4) (b := w4 / 65536) (by omega)
  rw [← hs5] at e15
  have e16 := bin_shrN (P := Tryd.prog) (t := 55) (a := w5) 32 4294967296 (by omega) rfl
  have e17 := bin_addN (P := Tryd.prog) (t := 55) (a := w5) (b := w5 / 4294967296) (by omega)
  rw [← hs6] at e17
  have e18 : cvI .i64 (.int .u64 (w6 : Int)) = some (.int .i64 (w6 : Int)) := by simp only [cvI, forceI_eq]; rw [wrap_i64 (by omega) (by omega)]
  have e19 := bin_and127 (P := Tryd.prog) (t := 3) (a := w6) d6
  rw [p1] at e19
  clear p1 p2 a1 a2 a3 hs1 b0 b2 b3 hs2 c0 hs3 hs4 hs5 hs6 d4 d5 d6
  unfold fs65 q65_22 ff65
  simp only [ob_some]
  erw [e1]; simp only [ob_some]
  erw [e2]; simp only [ob_some]
  erw [e3]; simp only [ob_some]
  rw [e4]; simp only [ob_some]
  erw [e5]; simp only [ob_some]
  erw [e6]; simp only [ob_some]
  erw [e7]; simp only [ob_some]
  rw [e8]; simp only [ob_some]
  erw [e9]; simp only [ob_some]
  rw [e10]; simp only [ob_some]
  erw [e11]; simp only [ob_some]
  erw [e12]; simp only [ob_some]
  rw [e13]; simp only [ob_some]
  erw [e14]; simp only [ob_some]
  rw [e15]; simp only [ob_some]
  erw [e16]; simp only [ob_some]
  rw [e17]; simp only [ob_some, e18, e19]
def LeftOK (C : YC) : Prop := ∀ h k dk n wd b, StoreAt h k dk n wd b → C (.fn 19) [.ptr k 0] h = some (.ret (.int .i64 ((n - (usedL wd n).length : Nat) : Int)), h)
theorem left_loop {C : YC} {lf : Nat} (ho : OnesOK C) (S : StoreAt h k dk n wd b) (e0 : K1) : ∀ (d w : Nat), w + d = 64 → ∀ f, d < f →
    lp (l19_3 C lf e0) f (some (.ptr k 0), some (.int .i64 ((n - sumPop wd w : Nat) : Int)), some (.int .i64 (w : Int))) h = e0 (some (.int .i64 ((n - (usedL wd n).length : Nat) : Int))) h
  | 0, w, hw, f, hf => by
    obtain ⟨f, rfl⟩ : ∃ g, f = g + 1 := ⟨f - 1, by omega⟩
    have : w = 64 := by omega
    subst this
    rw [lp_succ, S.sum]
    unfold l19_3 q19_17
    have hlt : decide (((64 : Nat) : Int) < 64) = false := by decide
    simp only [ob_some, b2_some, bc_ret, bcn_ret, gd_tt, gd_ff, gd_tf, gd_ft, ypk_true, ypk_false, yIf_true, yIf_false, semNil_ptr, fa_ptr, ld1_ptr, ext_tup, fd1_agg, un_not, bin_add, bin_sub, bin_mul, bin_eql, bin_neq, bin_lss, bin_leq, bin_gtr, bin_geq, Nat.zero_add, Nat.mul_one, hlt]
  | d + 1, w, hw, f, hf => by
    obtain ⟨f, rfl⟩ : ∃ g, f = g + 1 := ⟨f - 1, by omega⟩
    have h2 := S.n2
    have hw64 : w < 64 := by omega
    have hix := ixA_ptr (n := 64) (s := 1) (k := k) (off := 1) (kd := .i64) (i := (w : Int)) (by omega) (by omega)
    rw [Int.toNat_natCast, Nat.mul_one] at hix
    have hlt : decide ((w : Int) < 64) = true := decide_eq_true (by omega)
    have hinc : IntKind.i64.wrap ((w : Int) + 1) = ((w + 1 : Nat) : Int) := by rw [wrap_i64 (by omega) (by omega)]; omega
    have hle : sumPop wd (w + 1) ≤ n := by
      have h3 := sumPop_mono wd (w + 1) d
      rw [show w + 1 + d = 64 by omega, S.sum] at h3
      exact Nat.le_trans h3 (usedL_le wd n)
    have hs : sumPop wd (w + 1) = sumPop wd w + pop 64 (wd w) := rfl
    have hsub : IntKind.i64.wrap (((n - sumPop wd w : Nat) : Int) - (pop 64 (wd w) : Nat)) = ((n - sumPop wd (w + 1) : Nat) : Int) := by
      rw [wrap_i64 (by omega) (by omega)]; omega
    rw [lp_succ]
    show q19_17 C lf (fun x0 x3 x12 h => lp (l19_3 C lf e0) f (x0, x3, x12) h) e0 (some (.ptr k 0)) (some (.int .i64 ((n - sumPop wd w : Nat) : Int))) (some (.int .i64 (w : Int))) h = _
    unfold q19_17
    simp only [ob_some, b2_some, bc_ret, bcn_ret, gd_tt, gd_ff, gd_tf, gd_ft, ypk_true, ypk_false, yIf_true, yIf_false, semNil_ptr, fa_ptr, ld1_ptr, ext_tup, fd1_agg, un_not, bin_add, bin_sub, bin_mul, bin_eql, bin_neq, bin_lss, bin_leq, bin_gtr, bin_geq, Nat.zero_add, Nat.mul_one, hlt, hix, S.cw w hw64, ho _ _ (S.wlt w), hsub, hinc]
    exact left_loop ho S e0 d (w + 1) (by omega) f (by omega)
theorem left_ok {C : YC} (hlf : 65 ≤ lf) (hm : MadeOK C) (ho : OnesOK C) (S : StoreAt h k dk n wd b) : fs19 C lf (.ptr k 0) h = some (.ret (.int .i64 ((n - (usedL wd n).length : Nat) : Int)), h) := by
  unfold fs19 q19_33 q19_32 q19_31 q19_30 q19_26 q19_25 q19_20 q19_19 q19_18
  simp only [ob_some, b2_some, bc_ret, bcn_ret, gd_tt, gd_ff, gd_tf, gd_ft, ypk_true, ypk_false, yIf_true, yIf_false, semNil_ptr, fa_ptr, ld1_ptr, ext_tup, fd1_agg, un_not, bin_add, bin_sub, bin_mul, bin_eql, bin_neq, bin_lss, bin_leq, bin_gtr, bin_geq, Nat.zero_add, Nat.mul_one, hm _ _ _ _ _ _ S, Bool.not_true, S.cn]
  have := left_loop (lf := lf) ho S (fun x3 h => q19_2 C lf ff19 x3 h) 64 0 rfl lf (by omega)
  have e0 : sumPop wd 0 = 0 := rfl
  rw [e0, Nat.sub_zero] at this
  refine Eq.trans this ?_
  unfold q19_2 ff19
  simp only [ob_some]
end
end Go.Proofs.YtomialandfplkaaDoor.Eva
namespace Go.Xe
section
variable {P : Program}
end
end Go.Xe
namespace Go.Xe
open Go.ChangeShapes Go.WideShapes Go.ChangeAt Go.RowKit
section
variable {P : Program} {H : Type} {enc : TypeId × Value → H} {w : World}
theorem int_arg {t : TypeId} {k : IntKind} {v : Value} {d : DataW H} {ps : List MemPlace} {r : Reach} {b0 : Nat} (ht : P.underlying t = some (.int k)) (hval : Value.okWide P w r b0 t v) (h : DataW.Trod enc P w 0 (fun _ => true) true t v d ps) :
    ∃ n, v = .int k n ∧ k.min ≤ n ∧ n ≤ k.max := by
  obtain ⟨n, rfl⟩ := okWide_int ht hval
  obtain ⟨fuel, hf⟩ := h
  obtain ⟨n', h1, _, hw⟩ := DataW.trod_int ht hf
  refine ⟨n, rfl, ?_⟩
  have h1 : [Value.int k n] = [Value.int k n'] := h1
  cases h1
  simpa [Lit.wf] using hw
end
end Go.Xe
namespace Go.Xe
section
variable {P : Program} {t e : TypeId} {h : HW}
theorem ybs_one {z : Value} {y : SV} (hu : P.underlying t = some (.slice e)) (hs : tySize P e = some 1) (hz : tyZero P e = some z) (hzl : (mkV z).cells.length = 1) (hy : y.cells = [y]) (hf : y.flat = true) :
    ybs P t 1 [0] [y] h = some (.sl h.next 0 1 (some 1) 0, h.new (rowOb e [y])) := by
  obtain ⟨c, hc⟩ : ∃ c, (mkV z).cells = [c] := by
    match hm : (mkV z).cells, hzl with
    | [c], _ => exact ⟨c, rfl⟩
  unfold ybs semBuildSlice
  have h1 : (Nat.ble (1 * 1) 65536 && Nat.ble 1 1 && Nat.beq [c].length 1) = true := rfl
  have h2 : fillL (fun i => some (i * 1, 1)) (reps [c] 1) ([0].zip [y]) = some [y] := by
    simp [reps, fillL, splice, hy, hf, show Nat.ble 1 1 = true from rfl]
  simp only [hu, hs, hz, hc, h1, cond_true, h2, newRow, force_eq]
  rfl
theorem elems_row {y : SV} {e : TypeId} : appElems (h.new (rowOb e [y])).x0 1 (.sl h.next 0 1 (some 1) 0) = some (1, [y]) := by
  have ho : (h.new (rowOb e [y])).objs.get h.next = some (rowOb e [y]) := by rw [new_get, if_pos rfl]
  have hc : (rowOb e [y]).get 0 = some y := by rw [rowOb_get]; rfl
  simp only [appElems, HW.x0_objs, ho, Nat.mul_one]
  show (match loadN (rowOb e [y]) 0 1 with | some ys => some (1, ys) | none => none) = _
  simp only [loadN, hc]
theorem app_one {x y : SV} {b len : Nat} {ys : List SV} (T : AppT P t t e 1 b) (hy : y.cells = [y]) (hf : y.flat = true) (ho : allOne [y] = true) (S : Sl h e 1 x len ys)
    (hc : len + 1 ≤ 140737488355328) (hcb : (len + 1) * b ≤ 140737488355328) :
    ∃ x' h', ybs P t 1 [0] [y] h = some (.sl h.next 0 1 (some 1) 0, h.new (rowOb e [y])) ∧ ybl P .append #[t, t] [x, .sl h.next 0 1 (some 1) 0] (h.new (rowOb e [y])) = some (x', h') ∧ Sl h' e 1 x' (len + 1) (ys ++ [y]) ∧ h.next ≤ h'.next ∧ h'.ng = h.ng ∧
      (∀ j, j < h.next → rowOf x ≠ some j → SameOb h h' j) ∧ (∀ j, rowOf x' = some j → rowOf x = some j ∨ h.next ≤ j) ∧ (Fresh h → Fresh h') := by
  obtain ⟨z, hz, hzl⟩ := T.hz
  have hb := ybs_one (h := h) T.hu T.hs hz hzl hy hf
  have S' : Sl (h.new (rowOb e [y])) e 1 x len ys := S.frame (by simp) (fun k hk => new_other h _ (Nat.ne_of_lt (S.row_lt hk)))
  obtain ⟨x', h', h1, h2, h3, h4, h5, h6, h7⟩ := app_sl T S' elems_row rfl ho hc hcb
  refine ⟨x', h', hb, h1, h2, ?_, h4, fun j hj hr => (h5 j (by simp; omega) hr).trans (new_other h _ (Nat.ne_of_lt hj)), fun j hj => ?_, fun hf => h7 (fresh_new hf _)⟩
  · simp at h3; omega
  · rcases h6 j hj with h7 | h7
    · exact .inl h7
    · right; simp at h7; omega
end
end Go.Xe
namespace Go.Proofs.YtomialandfplkaaDoor.Eva
open Go.Xe
set_option linter.unusedSimpArgs false
section
variable {lf m : Nat} {h : HW} {k dk n : Nat} {wd b : Nat → Nat}
def ints (l : List Nat) : List SV := l.map fun (i : Nat) => SV.int .i64 (i : Int)
theorem usedL_succ (wd : Nat → Nat) (i : Nat) : usedL wd (i + 1) = usedL wd i ++ (if onB wd i then [i] else []) := by
  unfold usedL
  rw [List.range_succ, List.filter_append]
  cases h : onB wd i <;> simp [List.filter, h]
theorem appT_int : AppT Tryd.prog 33 33 3 1 8 :=
  ⟨Tryd.underlying33, by kernel_rfl, ⟨.int .i64 0, by kernel_rfl, rfl⟩, by kernel_rfl, ⟨_, Tryd.underlying33, rfl⟩, Nat.le_refl 1⟩
structure IntsAt (h0 h : HW) (x : SV) (l : List Nat) : Prop where
  sl : Sl h 3 1 x l.length (ints l)
  new : ∀ j, rowOf x = some j → h0.next ≤ j
def UsedOK (C : YC) : Prop := ∀ h k dk n wd b, StoreAt h k dk n wd b → ∃ x h', C (.fn 20) [.ptr k 0] h = some (.ret x, h') ∧ IntsAt h h' x (usedL wd n) ∧ Frm h h' (fun _ => False)
theorem used_loop {C : YC} {lf : Nat} (hi : IsOK C) {h0 : HW} (S : StoreAt h0 k dk n wd b) (e0 : K1) : ∀ (d i : Nat), i + d = n → ∀ f, d < f → ∀ h x, IntsAt h0 h x (usedL wd i) → Frm h0 h (fun _ => False) →
    ∃ x' h', lp (l20_3 C lf e0) f (some (.ptr k 0), some x, some (.int .i64 (n : Int)), some (.int .i64 (i : Int))) h = e0 (some x') h' ∧ IntsAt h0 h' x' (usedL wd n) ∧ Frm h0 h' (fun _ => False)
  | 0, i, hw, f, hf, h, x, A, F => by
    obtain ⟨f, rfl⟩ : ∃ g, f = g + 1 := ⟨f - 1, by omega⟩
    have : i = n := by omega
    subst this
    refine ⟨x, h, ?_, A, F⟩
    rw [lp_succ]
    unfold l20_3 q20_17
    have hlt : decide ((i : Int) < (i : Int)) = false := by simp
    simp only [ob_some, b2_some, bc_ret, bcn_ret, gd_tt, gd_ff, gd_tf, gd_ft, ypk_true, ypk_false, yIf_true, yIf_false, semNil_ptr, fa_ptr, ld1_ptr, ext_tup, fd1_agg, un_not, bin_add, bin_sub, bin_mul, bin_eql, bin_neq, bin_lss, bin_leq, bin_gtr, bin_geq, Nat.zero_add, Nat.mul_one, hlt]
  | d + 1, i, hw, f, hf, h, x, A, F => by
    obtain ⟨f, rfl⟩ : ∃ g, f = g + 1 := ⟨f - 1, by omega⟩
    have h2 := S.n2
    have S1 : StoreAt h k dk n wd b := S.frm F (fun e => e) (fun e => e)
    have hlt : decide ((i : Int) < (n : Int)) = true := decide_eq_true (by omega)
    have hinc : IntKind.i64.wrap ((i : Int) + 1) = ((i + 1 : Nat) : Int) := by rw [wrap_i64 (by omega) (by omega)]; omega
    have hu : inUse n wd (i : Int) = onB wd i := by
      have h3 : (i : Int) < n := by omega
      simp [inUse, h3]
    have his := hi _ _ _ _ _ _ (i : Int) S1 (by omega) (by omega)
    rw [hu] at his
    rw [lp_succ]
    show ∃ x' h', q20_17 C lf (fun x0 x3 x11 x12 h => lp (l20_3 C lf e0) f (x0, x3, x11, x12) h) e0 (some (.ptr k 0)) (some x) (some (.int .i64 (n : Int))) (some (.int .i64 (i : Int))) h = e0 (some x') h' ∧ _
    unfold q20_17
    cases ho : onB wd i with
    | false =>
      rw [ho] at his
      simp only [ob_some, b2_some, bc_ret, bcn_ret, gd_tt, gd_ff, gd_tf, gd_ft, ypk_true, ypk_false, yIf_true, yIf_false, semNil_ptr, fa_ptr, ld1_ptr, ext_tup, fd1_agg, un_not, bin_add, bin_sub, bin_mul, bin_eql, bin_neq, bin_lss, bin_leq, bin_gtr, bin_geq, Nat.zero_add, Nat.mul_one, hlt, his, hinc]
      have e : usedL wd (i + 1) = usedL wd i := by rw [usedL_succ, ho]; simp
      exact used_loop hi S e0 d (i + 1) (by omega) f (by omega) h x (by rw [e]; exact A) F
    | true =>
      rw [ho] at his
      have e : usedL wd (i + 1) = usedL wd i ++ [i] := by rw [usedL_succ, ho]; rfl
      have hl := usedL_le wd i
      obtain ⟨x', h', a1, a2, a3, a4, a5, a6, a7, a8⟩ := app_one (y := .int .i64 (i : Int)) appT_int rfl rfl rfl A.sl (by omega) (by omega)
      simp only [ob_some, b2_some, bc_ret, bcn_ret, gd_tt, gd_ff, gd_tf, gd_ft, ypk_true, ypk_false, yIf_true, yIf_false, semNil_ptr, fa_ptr, ld1_ptr, ext_tup, fd1_agg, un_not, bin_add, bin_sub, bin_mul, bin_eql, bin_neq, bin_lss, bin_leq, bin_gtr, bin_geq, Nat.zero_add, Nat.mul_one, hlt, his, hinc, a1, a2]
      refine used_loop hi S e0 d (i + 1) (by omega) f (by omega) h' x' ⟨?_, fun j hj => ?_⟩ ⟨a5.trans F.ng, Nat.le_trans F.next a4, fun j hj _ => (a6 j (Nat.lt_of_lt_of_le hj F.next) (fun hr => absurd (A.new j hr) (by omega))).trans (F.same j hj (fun e => e)), fun hf => a8 (F.fr hf)⟩
      · rw [e]
        have : ints (usedL wd i ++ [i]) = ints (usedL wd i) ++ [.int .i64 (i : Int)] := by simp [ints]
        rw [this, List.length_append]; exact a3
      · rcases a7 j hj with hr | hr
        · exact A.new j hr
        · exact Nat.le_trans F.next hr
theorem used_ok {C : YC} (hlf : 4097 ≤ lf) (hm : MadeOK C) (hi : IsOK C) (S : StoreAt h k dk n wd b) : ∃ x h', fs20 C lf (.ptr k 0) h = some (.ret x, h') ∧ IntsAt h h' x (usedL wd n) ∧ Frm h h' (fun _ => False) := by
  have h2 := S.n2
  obtain ⟨x', h', l1, l2, l3⟩ := used_loop (lf := lf) hi S (fun x3 h => q20_2 C lf ff20 x3 h) n 0 (by omega) lf (by omega) h (.val (.slice none 0 0)) ⟨Sl.nil _ _ _, fun j hj => by cases hj⟩ (Frm.refl h _)
  refine ⟨x', h', ?_, l2, l3⟩
  unfold fs20 q20_33 q20_32 q20_31 q20_30 q20_26 q20_25 q20_24 q20_23 q20_22
  simp only [ob_some, b2_some, bc_ret, bcn_ret, gd_tt, gd_ff, gd_tf, gd_ft, ypk_true, ypk_false, yIf_true, yIf_false, semNil_ptr, fa_ptr, ld1_ptr, ext_tup, fd1_agg, un_not, bin_add, bin_sub, bin_mul, bin_eql, bin_neq, bin_lss, bin_leq, bin_gtr, bin_geq, Nat.zero_add, Nat.mul_one, hm _ _ _ _ _ _ S, Bool.not_true, S.cn]
  refine Eq.trans l1 ?_
  unfold q20_2 ff20
  simp only [ob_some]
theorem len_ints {h0 h : HW} {x : SV} {l : List Nat} (A : IntsAt h0 h x l) : lenE Tryd.prog 33 x = some (.int .i64 (l.length : Int)) := by
  rcases A.sl.2 with ⟨rfl, h1⟩ | ⟨k, rfl, _⟩
  · rw [h1]; simp [lenE, Tryd.underlying33, forceI_eq]
  · simp [lenE, Tryd.underlying33]
end
end Go.Proofs.YtomialandfplkaaDoor.Eva
namespace Go.Xe
open Go.ChangeShapes Go.WideShapes Go.ChangeAt Go.RowKit
section
variable {P : Program}
end
theorem hasTab_cell {g : Nat} {k : IntKind} {zs : List Int} {h : HW} (ht : hasTab g k zs h = true) : g < h.ng ∧ (∃ m, h.mt g = some m) ∧ ∀ i, i < zs.length → h.cell g i = some (.int k (zs.getD i 0)) := by
  unfold hasTab at ht
  simp only [Bool.and_eq_true] at ht
  obtain ⟨hg, ht⟩ := ht
  have hg : g < h.ng := by rw [Nat.blt_eq] at hg; exact hg
  split at ht <;> try (cases ht; done)
  rename_i o ho
  split at ht <;> try (cases ht; done)
  split at ht <;> try (cases ht; done)
  rename_i ys hys
  have hys' := eqInts_spec ht
  subst hys'
  refine ⟨hg, ⟨o.mt, by unfold HW.mt; rw [ho]⟩, fun i hi => ?_⟩
  have := loadN_get hys i (by simpa using hi)
  rw [Nat.zero_add] at this
  unfold HW.cell
  rw [ho]
  simp only [this]
  simp [List.getD, hi]
theorem hasTab_same {g : Nat} {k : IntKind} {zs : List Int} {h h' : HW} (hn : h'.ng = h.ng) (hs : SameOb h h' g) : hasTab g k zs h' = hasTab g k zs h := by
  unfold hasTab
  rw [hn, hs]
theorem hw0_row {w : World} {k : Nat} {m : Mt} (h : (hw0 w).mt k = some m) : k < (hw0 w).next := by
  apply Nat.lt_of_not_le
  intro hle
  unfold HW.mt at h
  rw [hw0_dead w hle] at h
  cases h
end Go.Xe
namespace Go.Proofs.YtomialandfplkaaDoor.Eva
open Go.Xe
set_option maxRecDepth 100000
set_option maxHeartbeats 400000
set_option linter.unusedVariables false
noncomputable section
noncomputable def fx24 : XF Tryd.prog := ⟨24, Tryd.f24, fun r => bif Nat.beq r 1 then .news [0, 2, 1, 3, 4, 5] [1, 3] [] else .text, Tryd.func24, by kernel_rfl, by kernel_rfl, by kernel_rfl, by kernel_rfl⟩
noncomputable def ff24 (x2 : O) (h : HW) : Rs :=
 ob x2 fun a0 =>
 ob (ldN 2 a0 h) fun y1 =>
 some (.ret y1, h)
noncomputable def q24_10 (C : YC) (lf : Nat) (r : K1) (x0 : O) (h : HW) : Rs :=
 b2 (yAl Tryd.prog 44 h) fun y2 h2 =>
 nwB [1, 3] 6 h2 fun b3 h3 =>
 ob x0 fun a4 =>
 ob x0 fun a5 =>
 ck (lowV b3 a4 && lowV b3 a4) <|
 b2 (ynf (ymk Tryd.prog 41 a4 a4) b3 1 h3) fun y6 h6 =>
 ck (lowV b3 a5 && lowV b3 a5) <|
 b2 (ynf (ymk Tryd.prog 42 a5 a5) b3 3 h6) fun y7 h7 =>
 ob (semBuild Tryd.prog 44 [0, 1] [y6, y7]) fun y8 =>
 ob (st 2 y2 y8 h7) fun h9 =>
 r (some y2) h9
theorem q24_10_eq (C : YC) (lf : Nat) (r : K1) (KN : KF) (KE : KX) : ∀ F h, evX fx24 C lf [] F h KN (fun F h => r (F 2) h) KE = q24_10 C lf r (F 0) h := by
  intro F h; kernel_rfl
noncomputable def fs24 (C : YC) (lf : Nat) (a0 : SV) (h : HW) : Rs := q24_10 C lf ff24 (some a0) h
theorem fs24_eq (C : YC) (lf : Nat) (a0 : SV) (h : HW) : yFn Tryd.prog fx24 C lf [a0] h = fs24 C lf a0 h := fnX (K := (fun F h => ff24 (F 2) h)) (by kernel_rfl) (((q24_10_eq C lf ff24 (fun F h => ff24 (F 2) h) (fun _ _ _ => none)) _ h).trans (by kernel_rfl))
noncomputable def fy24 : YX Tryd.prog := Y1 fx24 fs24 fs24_eq (by kernel_rfl)
noncomputable def fx29 : XF Tryd.prog := ⟨29, Tryd.f29, fun _ => .text, Tryd.func29, by kernel_rfl, by kernel_rfl, by kernel_rfl, by kernel_rfl⟩
noncomputable def ff29 (x2 : O) (h : HW) : Rs :=
 ob x2 fun a0 =>
 some (.ret a0, h)
noncomputable def q29_8 (C : YC) (lf : Nat) (r : K1) (x0 : O) (h : HW) : Rs :=
 ob x0 fun a1 =>
 bc (C (.fn 63) [a1] h) fun y2 h2 =>
 ob (unE .not y2) fun y3 =>
 yIf y3
 (r (some (.int .i64 0)) h2)
 (ob x0 fun a4 =>
 ob (semNil a4) fun y5 =>
 ob (fa 0 y5) fun y6 =>
 ob (ld1 y6 h2) fun y7 =>
 r (some y7) h2)
theorem q29_8_eq (C : YC) (lf : Nat) (r : K1) (KN : KF) (KE : KX) : ∀ F h, evX fx29 C lf [] F h KN (fun F h => r (F 2) h) KE = q29_8 C lf r (F 0) h := by
  intro F h; kernel_rfl
noncomputable def fs29 (C : YC) (lf : Nat) (a0 : SV) (h : HW) : Rs := q29_8 C lf ff29 (some a0) h
theorem fs29_eq (C : YC) (lf : Nat) (a0 : SV) (h : HW) : yFn Tryd.prog fx29 C lf [a0] h = fs29 C lf a0 h := fnX (K := (fun F h => ff29 (F 2) h)) (by kernel_rfl) (((q29_8_eq C lf ff29 (fun F h => ff29 (F 2) h) (fun _ _ _ => none)) _ h).trans (by kernel_rfl))
noncomputable def fy29 : YX Tryd.prog := Y1 fx29 fs29 fs29_eq (by kernel_rfl)
noncomputable def fx30 : XF Tryd.prog := ⟨30, Tryd.f30, fun _ => .text, Tryd.func30, by kernel_rfl, by kernel_rfl, by kernel_rfl, by kernel_rfl⟩
noncomputable def ff30 (x2 : O) (h : HW) : Rs :=
 ob x2 fun a0 =>
 some (.ret a0, h)
noncomputable def q30_2 (C : YC) (lf : Nat) (r : K1) (x3 : O) (h : HW) : Rs :=
 ob x3 fun a1 =>
 r (some a1) h
theorem q30_2_eq (C : YC) (lf : Nat) (r : K1) (KN : KF) (KE : KX) : ∀ F h, evX fx30 C lf [1, 1, 1] F h KN (fun F h => r (F 2) h) KE = q30_2 C lf r (F 3) h := by
  intro F h; kernel_rfl
noncomputable def q30_18 (C : YC) (lf : Nat) (n : K4) (e0 : K1) (x3 x9 x10 x11 : O) (h : HW) : Rs :=
 ob x11 fun a4 =>
 ob x10 fun a5 =>
 ob (bin Tryd.prog .lss 3 a4 a5) fun y6 =>
 yIf y6
 (ob x9 fun a7 =>
 ob x11 fun a8 =>
 ob (ixS 1 a7 a8) fun y9 =>
 ob (ld1 y9 h) fun y10 =>
 ob (unE .not y10) fun y11 =>
 yIf y11
 (ob x3 fun a12 =>
 ob (bin Tryd.prog .add 3 a12 (.int .i64 1)) fun y13 =>
 ob x11 fun a14 =>
 ob (bin Tryd.prog .add 3 a14 (.int .i64 1)) fun y15 =>
 n (some y13) x9 x10 (some y15) h)
 (ob x11 fun a16 =>
 ob (bin Tryd.prog .add 3 a16 (.int .i64 1)) fun y17 =>
 n x3 x9 x10 (some y17) h))
 (e0 x3 h)
theorem q30_18_eq (C : YC) (lf : Nat) (n : K4) (e0 : K1) (KR : KF) (KE : KX) : ∀ F h, evX fx30 C lf [1, 1, 0, 1, 0, 0] F h (fun F h => n (F 3) (F 9) (F 10) (F 11) h) KR (bk 0 (fun F h => e0 (F 3) h) KE) = q30_18 C lf n e0 (F 3) (F 9) (F 10) (F 11) h := by
  intro F h; kernel_rfl
noncomputable def l30_3 (C : YC) (lf : Nat) (e0 : K1) (k : O × O × O × O → HW → Rs) (s : O × O × O × O) (h : HW) : Rs :=
 q30_18 C lf (fun x3 x9 x10 x11 h => k (x3, x9, x10, x11) h) e0 s.1 s.2.1 s.2.2.1 s.2.2.2 h
noncomputable def q30_24 (C : YC) (lf : Nat) (n : K4) (x0 x3 : O) (h : HW) : Rs :=
 ob x0 fun a19 =>
 ob (semNil a19) fun y20 =>
 ob (fa 0 y20) fun y21 =>
 ob (ld1 y21 h) fun y22 =>
 ob (lenE Tryd.prog 41 y22) fun y23 =>
 n x3 (some y22) (some y23) (some (.int .i64 0)) h
theorem q30_24_eq (C : YC) (lf : Nat) (n : K4) (KR : KF) (KE : KX) : ∀ F h, evX fx30 C lf [1, 1, 0, 0] F h (fun F h => n (F 3) (F 9) (F 10) (F 11) h) KR KE = q30_24 C lf n (F 0) (F 3) h := by
  intro F h; kernel_rfl
noncomputable def q30_25 (C : YC) (lf : Nat) (n : K1) (x0 x3 : O) (h : HW) : Rs :=
 q30_24 C lf (fun x3 x9 x10 x11 h => lp (l30_3 C lf n) lf (x3, x9, x10, x11) h) x0 x3 h
theorem q30_25_eq (C : YC) (lf : Nat) (n : K1) (KR : KF) (KE : KX) : ∀ F h, evX fx30 C lf [1, 1, 0] F h (fun F h => n (F 3) h) KR KE = q30_25 C lf n (F 0) (F 3) h := cSeq (a := subX fx30 [1, 1, 0, 0]) (b := subX fx30 [1, 1, 0, 1]) (by kernel_rfl) (B := (fun F h => lp (l30_3 C lf n) lf ((F 3), (F 9), (F 10), (F 11)) h)) (cBlock (id := 0) (a := subX fx30 [1, 1, 0, 1, 0]) (by kernel_rfl) (cLoop (a := subX fx30 [1, 1, 0, 1, 0, 0]) (g := fun F => (F 3, F 9, F 10, F 11)) (body := l30_3 C lf n) (by kernel_rfl) (fun k => (q30_18_eq C lf (fun x3 x9 x10 x11 h => k (x3, x9, x10, x11) h) n KR KE)))) (q30_24_eq C lf (fun x3 x9 x10 x11 h => lp (l30_3 C lf n) lf (x3, x9, x10, x11) h) KR KE)
noncomputable def q30_26 (C : YC) (lf : Nat) (r : K1) (x0 x3 : O) (h : HW) : Rs :=
 q30_25 C lf (fun x3 h => q30_2 C lf r x3 h) x0 x3 h
theorem q30_26_eq (C : YC) (lf : Nat) (r : K1) (KN : KF) (KE : KX) : ∀ F h, evX fx30 C lf [1, 1] F h KN (fun F h => r (F 2) h) KE = q30_26 C lf r (F 0) (F 3) h := cSeq (a := subX fx30 [1, 1, 0]) (b := subX fx30 [1, 1, 1]) (by kernel_rfl) (B := (fun F h => q30_2 C lf r (F 3) h)) (q30_2_eq C lf r KN KE) (q30_25_eq C lf (fun x3 h => q30_2 C lf r x3 h) (fun F h => r (F 2) h) KE)
noncomputable def q30_27 (C : YC) (lf : Nat) (n : K2) (x0 : O) (h : HW) : Rs :=
 n x0 (some (.int .i64 0)) h
theorem q30_27_eq (C : YC) (lf : Nat) (n : K2) (KR : KF) (KE : KX) : ∀ F h, evX fx30 C lf [1, 0] F h (fun F h => n (F 0) (F 3) h) KR KE = q30_27 C lf n (F 0) h := by
  intro F h; kernel_rfl
noncomputable def q30_28 (C : YC) (lf : Nat) (r : K1) (x0 : O) (h : HW) : Rs :=
 q30_27 C lf (fun x0 x3 h => q30_26 C lf r x0 x3 h) x0 h
theorem q30_28_eq (C : YC) (lf : Nat) (r : K1) (KN : KF) (KE : KX) : ∀ F h, evX fx30 C lf [1] F h KN (fun F h => r (F 2) h) KE = q30_28 C lf r (F 0) h := cSeq (a := subX fx30 [1, 0]) (b := subX fx30 [1, 1]) (by kernel_rfl) (B := (fun F h => q30_26 C lf r (F 0) (F 3) h)) (q30_26_eq C lf r KN KE) (q30_27_eq C lf (fun x0 x3 h => q30_26 C lf r x0 x3 h) (fun F h => r (F 2) h) KE)
noncomputable def q30_29 (C : YC) (lf : Nat) (n : K1) (x0 : O) (h : HW) : Rs :=
 n x0 h
theorem q30_29_eq (C : YC) (lf : Nat) (n : K1) (KR : KF) (KE : KX) : ∀ F h, evX fx30 C lf [0] F h (fun F h => n (F 0) h) KR KE = q30_29 C lf n (F 0) h := by
  intro F h; kernel_rfl
noncomputable def q30_30 (C : YC) (lf : Nat) (r : K1) (x0 : O) (h : HW) : Rs :=
 q30_29 C lf (fun x0 h => q30_28 C lf r x0 h) x0 h
theorem q30_30_eq (C : YC) (lf : Nat) (r : K1) (KN : KF) (KE : KX) : ∀ F h, evX fx30 C lf [] F h KN (fun F h => r (F 2) h) KE = q30_30 C lf r (F 0) h := cSeq (a := subX fx30 [0]) (b := subX fx30 [1]) (by kernel_rfl) (B := (fun F h => q30_28 C lf r (F 0) h)) (q30_28_eq C lf r KN KE) (q30_29_eq C lf (fun x0 h => q30_28 C lf r x0 h) (fun F h => r (F 2) h) KE)
noncomputable def fs30 (C : YC) (lf : Nat) (a0 : SV) (h : HW) : Rs := q30_30 C lf ff30 (some a0) h
theorem fs30_eq (C : YC) (lf : Nat) (a0 : SV) (h : HW) : yFn Tryd.prog fx30 C lf [a0] h = fs30 C lf a0 h := fnX (K := (fun F h => ff30 (F 2) h)) (by kernel_rfl) (((q30_30_eq C lf ff30 (fun F h => ff30 (F 2) h) (fun _ _ _ => none)) _ h).trans (by kernel_rfl))
noncomputable def fy30 : YX Tryd.prog := Y1 fx30 fs30 fs30_eq (by kernel_rfl)
end
end Go.Proofs.YtomialandfplkaaDoor.Eva
namespace Go.Proofs.YtomialandfplkaaDoor.Eva
open Go.Xe
set_option linter.unusedSimpArgs false
structure BlkAt (h : HW) (x : SV) (q : Nat) (b : Nat → Nat) (i : Nat) : Prop where
  sl : ∃ cap lo, x = .sl q 0 64 cap lo
  ok : CapOK x
  w : h.wr q 64
  cs : ∀ j, j < 64 → h.cell q j = some (.int .u8 (b (i * 64 + j) : Int))
  lt : q < h.next
def RowAt (h : HW) (x : SV) (k : Nat) (b : Nat → Nat) (i : Nat) (o : Bool) : Prop := BlkAt h x k b i ∨ (o = false ∧ (∃ cap lo, x = .sl k 0 0 cap lo) ∧ (∃ N, h.wr k N) ∧ k < h.next)
structure RefV (h : HW) (x0 x1 : SV) (ro rb n : Nat) (on : Nat → Bool) (q : Nat → Option Nat) (b : Nat → Nat) : Prop where
  n1 : 1 ≤ n
  n2 : n ≤ 4096
  e0 : ∃ cap lo, x0 = .sl ro 0 n cap lo
  e1 : ∃ cap lo, x1 = .sl rb 0 n cap lo
  wro : h.wr ro n
  wrb : h.wr rb n
  con : ∀ i, i < n → h.cell ro i = some (.bool (on i))
  off : ∀ i, i < n → q i = none → on i = false ∧ h.cell rb i = some (.val (.slice none 0 0))
  has : ∀ i k, i < n → q i = some k → k ≠ ro ∧ k ≠ rb ∧ ∃ x, h.cell rb i = some x ∧ RowAt h x k b i (on i)
  inj : ∀ i j k, i < n → j < n → q i = some k → q j = some k → i = j
  ne : ro ≠ rb
  lto : ro < h.next
  ltb : rb < h.next
  blt : ∀ j, b j < 256
structure RefAt (h : HW) (r ro rb n : Nat) (on : Nat → Bool) (q : Nat → Option Nat) (b : Nat → Nat) : Prop where
  v : ∃ x0 x1, h.cell r 0 = some x0 ∧ h.cell r 1 = some x1 ∧ RefV h x0 x1 ro rb n on q b
  wr : ∃ M, 2 ≤ M ∧ h.wr r M
  nro : r ≠ ro
  nrb : r ≠ rb
  nq : ∀ i k, i < n → q i = some k → k ≠ r
  lt : r < h.next
def rowsV (ro rb n : Nat) (q : Nat → Option Nat) (j : Nat) : Prop := j = ro ∨ j = rb ∨ ∃ i, i < n ∧ q i = some j
def rowsR (r ro rb n : Nat) (q : Nat → Option Nat) (j : Nat) : Prop := j = r ∨ rowsV ro rb n q j
section
variable {lf m : Nat} {h : HW} {r ro rb n : Nat} {on : Nat → Bool} {q : Nat → Option Nat} {b : Nat → Nat} {x0 x1 : SV}
theorem wr_same {h h' : HW} {k N : Nat} (w : h.wr k N) (e : SameOb h h' k) : h'.wr k N := let ⟨m, a, c⟩ := w; ⟨m, by rw [e.mt]; exact a, c⟩
theorem BlkAt.frame {x : SV} {k i : Nat} (A : BlkAt h x k b i) {h' : HW} (hn : h.next ≤ h'.next) (e : SameOb h h' k) : BlkAt h' x k b i :=
  ⟨A.sl, A.ok, wr_same A.w e, fun j hj => by rw [e.cell]; exact A.cs j hj, Nat.lt_of_lt_of_le A.lt hn⟩
theorem RowAt.lt {x : SV} {k i : Nat} {o : Bool} (A : RowAt h x k b i o) : k < h.next := by
  rcases A with A | ⟨_, _, _, A⟩
  · exact A.lt
  · exact A
theorem RowAt.row {x : SV} {k i : Nat} {o : Bool} (A : RowAt h x k b i o) : rowOf x = some k := by
  rcases A with A | ⟨_, ⟨cap, lo, rfl⟩, _, _⟩
  · obtain ⟨cap, lo, rfl⟩ := A.sl; rfl
  · rfl
theorem RowAt.blk {x : SV} {k i : Nat} {o : Bool} (A : RowAt h x k b i o) (ho : o = true) : BlkAt h x k b i := by
  rcases A with A | ⟨e, _⟩
  · exact A
  · rw [ho] at e; cases e
theorem RowAt.frame {x : SV} {k i : Nat} {o : Bool} (A : RowAt h x k b i o) {h' : HW} (hn : h.next ≤ h'.next) (e : SameOb h h' k) : RowAt h' x k b i o := by
  rcases A with A | ⟨h1, h2, ⟨N, h3⟩, h4⟩
  · exact .inl (A.frame hn e)
  · exact .inr ⟨h1, h2, ⟨N, wr_same h3 e⟩, Nat.lt_of_lt_of_le h4 hn⟩
theorem RowAt.off {x : SV} {k i : Nat} {o o' : Bool} (A : RowAt h x k b i o) (ho : o' = o ∨ o' = false) : RowAt h x k b i o' := by
  rcases A with A | ⟨h1, h2⟩
  · exact .inl A
  · refine .inr ⟨?_, h2⟩
    rcases ho with e | e
    · rw [e]; exact h1
    · exact e
theorem RefV.frame (A : RefV h x0 x1 ro rb n on q b) {h' : HW} (hn : h.next ≤ h'.next) (hs : ∀ j, rowsV ro rb n q j → SameOb h h' j) : RefV h' x0 x1 ro rb n on q b := by
  have so := hs ro (.inl rfl)
  have sb := hs rb (.inr (.inl rfl))
  refine ⟨A.n1, A.n2, A.e0, A.e1, wr_same A.wro so, wr_same A.wrb sb, fun i hi => by rw [so.cell]; exact A.con i hi, fun i hi hq => by rw [sb.cell]; exact A.off i hi hq, fun i k hi hq => ?_, A.inj, A.ne, Nat.lt_of_lt_of_le A.lto hn, Nat.lt_of_lt_of_le A.ltb hn, A.blt⟩
  obtain ⟨h1, h2, x, h3, h4⟩ := A.has i k hi hq
  exact ⟨h1, h2, x, by rw [sb.cell]; exact h3, h4.frame hn (hs k (.inr (.inr ⟨i, hi, hq⟩)))⟩
theorem RefAt.frame (A : RefAt h r ro rb n on q b) {h' : HW} (hn : h.next ≤ h'.next) (hs : ∀ j, rowsR r ro rb n q j → SameOb h h' j) : RefAt h' r ro rb n on q b := by
  have sr := hs r (.inl rfl)
  obtain ⟨x0, x1, c0, c1, V⟩ := A.v
  exact ⟨⟨x0, x1, by rw [sr.cell]; exact c0, by rw [sr.cell]; exact c1, V.frame hn fun j hj => hs j (.inr hj)⟩, (let ⟨M, a, c⟩ := A.wr; ⟨M, a, wr_same c sr⟩), A.nro, A.nrb, A.nq, Nat.lt_of_lt_of_le A.lt hn⟩
theorem RefV.row_lt (A : RefV h x0 x1 ro rb n on q b) {j : Nat} (hj : rowsV ro rb n q j) : j < h.next := by
  rcases hj with rfl | rfl | ⟨i, hi, hq⟩
  · exact A.lto
  · exact A.ltb
  · obtain ⟨_, _, x, _, B⟩ := A.has i j hi hq
    exact B.lt
theorem RefAt.row_lt (A : RefAt h r ro rb n on q b) {j : Nat} (hj : rowsR r ro rb n q j) : j < h.next := by
  obtain ⟨x0, x1, _, _, V⟩ := A.v
  rcases hj with rfl | hj
  · exact A.lt
  · exact V.row_lt hj
theorem RefAt.frm (A : RefAt h r ro rb n on q b) {h' : HW} {Q : Nat → Prop} (F : Frm h h' Q) (hs : ∀ j, rowsR r ro rb n q j → ¬ Q j) : RefAt h' r ro rb n on q b :=
  A.frame F.next fun j hj => F.same j (A.row_lt hj) (hs j hj)
def inR (n : Nat) (on : Nat → Bool) (i : Int) : Bool := decide (0 ≤ i) && (decide (i < n) && on i.toNat)
theorem lenE_sl {t e k off len lo : Nat} {cap : Option Nat} (hu : (Tryd.prog).underlying t = some (.slice e)) : lenE Tryd.prog t (.sl k off len cap lo) = some (.int .i64 (len : Int)) := by simp [lenE, hu]
end
end Go.Proofs.YtomialandfplkaaDoor.Eva
namespace Go.Proofs.YtomialandfplkaaDoor.Eva
open Go.Xe
set_option linter.unusedSimpArgs false
section
variable {lf m : Nat} {h : HW} {r ro rb n : Nat} {on : Nat → Bool} {q : Nat → Option Nat} {b : Nat → Nat} {x0 x1 : SV}
def usedR (on : Nat → Bool) (n : Nat) : List Nat := (List.range n).filter on
theorem usedR_succ (on : Nat → Bool) (i : Nat) : usedR on (i + 1) = usedR on i ++ (if on i then [i] else []) := by
  unfold usedR
  rw [List.range_succ, List.filter_append]
  cases h : on i <;> simp [List.filter, h]
theorem usedR_le (on : Nat → Bool) (n : Nat) : (usedR on n).length ≤ n := by
  have := List.length_filter_le on (List.range n)
  simpa [usedR] using this
def RLeftOK (C : YC) : Prop := ∀ h r ro rb n on q b, RefAt h r ro rb n on q b → C (.fn 30) [.ptr r 0] h = some (.ret (.int .i64 ((n - (usedR on n).length : Nat) : Int)), h)
theorem rleft_loop {C : YC} {lf lo : Nat} {cap : Option Nat} (V : RefV h x0 x1 ro rb n on q b) (e0 : K1) : ∀ (d i : Nat), i + d = n → ∀ f, d < f →
    lp (l30_3 C lf e0) f (some (.int .i64 ((i - (usedR on i).length : Nat) : Int)), some (.sl ro 0 n cap lo), some (.int .i64 (n : Int)), some (.int .i64 (i : Int))) h = e0 (some (.int .i64 ((n - (usedR on n).length : Nat) : Int))) h
  | 0, i, hw, f, hf => by
    obtain ⟨f, rfl⟩ : ∃ g, f = g + 1 := ⟨f - 1, by omega⟩
    have : i = n := by omega
    subst this
    rw [lp_succ]
    unfold l30_3 q30_18
    have hlt : decide ((i : Int) < (i : Int)) = false := by simp
    simp only [ob_some, b2_some, bc_ret, bcn_ret, gd_tt, gd_ff, gd_tf, gd_ft, ypk_true, ypk_false, yIf_true, yIf_false, semNil_ptr, fa_ptr, ld1_ptr, ext_tup, fd1_agg, un_not, bin_add, bin_sub, bin_mul, bin_eql, bin_neq, bin_lss, bin_leq, bin_gtr, bin_geq, Nat.zero_add, Nat.mul_one, hlt]
  | d + 1, i, hw, f, hf => by
    obtain ⟨f, rfl⟩ : ∃ g, f = g + 1 := ⟨f - 1, by omega⟩
    have h2 := V.n2
    have hlt : decide ((i : Int) < (n : Int)) = true := decide_eq_true (by omega)
    have hinc : IntKind.i64.wrap ((i : Int) + 1) = ((i + 1 : Nat) : Int) := by rw [wrap_i64 (by omega) (by omega)]; omega
    have hix := ixS_sl (s := 1) (k := ro) (off := 0) (len := n) (lo := lo) (cap := cap) (kd := .i64) (i := (i : Int)) (by omega) (by omega)
    rw [Int.toNat_natCast, Nat.mul_one, Nat.zero_add] at hix
    have hc := V.con i (by omega)
    have hle := usedR_le on i
    have ih := rleft_loop (lf := lf) (C := C) (lo := lo) (cap := cap) V e0 d (i + 1) (by omega) f (by omega)
    rw [lp_succ]
    show q30_18 C lf (fun x3 x9 x10 x11 h => lp (l30_3 C lf e0) f (x3, x9, x10, x11) h) e0 (some (.int .i64 ((i - (usedR on i).length : Nat) : Int))) (some (.sl ro 0 n cap lo)) (some (.int .i64 (n : Int))) (some (.int .i64 (i : Int))) h = _
    unfold q30_18
    cases ho : on i with
    | true =>
      have e : i + 1 - (usedR on (i + 1)).length = i - (usedR on i).length := by rw [usedR_succ, ho]; simp
      rw [ho] at hc
      rw [e] at ih
      simp only [ob_some, b2_some, bc_ret, bcn_ret, gd_tt, gd_ff, gd_tf, gd_ft, ypk_true, ypk_false, yIf_true, yIf_false, semNil_ptr, fa_ptr, ld1_ptr, ext_tup, fd1_agg, un_not, bin_add, bin_sub, bin_mul, bin_eql, bin_neq, bin_lss, bin_leq, bin_gtr, bin_geq, Nat.zero_add, Nat.mul_one, hlt, hix, hc, hinc, Bool.not_true]
      exact ih
    | false =>
      have e : i + 1 - (usedR on (i + 1)).length = i - (usedR on i).length + 1 := by rw [usedR_succ, ho]; simp; omega
      rw [ho] at hc
      rw [e] at ih
      have hadd : IntKind.i64.wrap (((i - (usedR on i).length : Nat) : Int) + 1) = ((i - (usedR on i).length + 1 : Nat) : Int) := by rw [wrap_i64 (by omega) (by omega)]; omega
      simp only [ob_some, b2_some, bc_ret, bcn_ret, gd_tt, gd_ff, gd_tf, gd_ft, ypk_true, ypk_false, yIf_true, yIf_false, semNil_ptr, fa_ptr, ld1_ptr, ext_tup, fd1_agg, un_not, bin_add, bin_sub, bin_mul, bin_eql, bin_neq, bin_lss, bin_leq, bin_gtr, bin_geq, Nat.zero_add, Nat.mul_one, hlt, hix, hc, hinc, Bool.not_false, hadd]
      exact ih
theorem rleft_ok {C : YC} (hlf : 4097 ≤ lf) (A : RefAt h r ro rb n on q b) : fs30 C lf (.ptr r 0) h = some (.ret (.int .i64 ((n - (usedR on n).length : Nat) : Int)), h) := by
  obtain ⟨x0, x1, c0, c1, V⟩ := A.v
  obtain ⟨cap, lo, rfl⟩ := V.e0
  have h2 := V.n2
  have hl := lenE_sl (k := ro) (off := 0) (len := n) (cap := cap) (lo := lo) Tryd.underlying41
  have := rleft_loop (lf := lf) (C := C) (lo := lo) (cap := cap) V (fun x3 h => q30_2 C lf ff30 x3 h) n 0 (by omega) lf (by omega)
  unfold fs30 q30_30 q30_29 q30_28 q30_27 q30_26 q30_25 q30_24
  simp only [ob_some, b2_some, bc_ret, bcn_ret, gd_tt, gd_ff, gd_tf, gd_ft, ypk_true, ypk_false, yIf_true, yIf_false, semNil_ptr, fa_ptr, ld1_ptr, ext_tup, fd1_agg, un_not, bin_add, bin_sub, bin_mul, bin_eql, bin_neq, bin_lss, bin_leq, bin_gtr, bin_geq, Nat.zero_add, Nat.mul_one, c0, hl]
  refine Eq.trans this ?_
  unfold q30_2 ff30
  simp only [ob_some]
def IntsIn (h : HW) (x : SV) (l : List Nat) : Prop := l.length ≤ 4096 ∧ ((x = .val (.slice none 0 0) ∧ l = []) ∨ ∃ k cap lo, x = .sl k 0 l.length cap lo ∧ ∀ j, j < l.length → h.cell k j = some (.int .i64 ((l.getD j 0 : Nat) : Int)))
theorem IntsIn.frame {h h' : HW} {x : SV} {l : List Nat} (A : IntsIn h x l) (hs : ∀ k, rowOf x = some k → SameOb h h' k) : IntsIn h' x l := by
  refine ⟨A.1, ?_⟩
  rcases A.2 with h1 | ⟨k, cap, lo, rfl, h2⟩
  · exact .inl h1
  · exact .inr ⟨k, cap, lo, rfl, fun j hj => by rw [(hs k rfl).cell]; exact h2 j hj⟩
theorem IntsIn.len {x : SV} {l : List Nat} (A : IntsIn h x l) : lenE Tryd.prog 33 x = some (.int .i64 (l.length : Int)) := by
  rcases A.2 with ⟨rfl, rfl⟩ | ⟨k, cap, lo, rfl, _⟩
  · simp [lenE, Tryd.underlying33, forceI_eq]
  · simp [lenE, Tryd.underlying33]
theorem IntsIn.at {x : SV} {l : List Nat} (A : IntsIn h x l) {i : Nat} (hi : i < l.length) : ∃ a, ixS 1 x (.int .i64 (i : Int)) = some a ∧ ld1 a h = some (.int .i64 ((l.getD i 0 : Nat) : Int)) := by
  rcases A.2 with ⟨rfl, rfl⟩ | ⟨k, cap, lo, rfl, h2⟩
  · simp at hi
  · have hix := ixS_sl (s := 1) (k := k) (off := 0) (len := l.length) (lo := lo) (cap := cap) (kd := .i64) (i := (i : Int)) (by omega) (by omega)
    rw [Int.toNat_natCast, Nat.mul_one, Nat.zero_add] at hix
    exact ⟨_, hix, h2 i hi⟩
end
end Go.Proofs.YtomialandfplkaaDoor.Eva
namespace Go.Xe
section
variable {P : Program}
theorem liftC_ok (C : YC) : LiftOK C (liftC C) := fun c args h o h' e D => by
  show (match C c args h with | some (o, h) => some (o, h.xd D) | none => none) = _
  rw [e]
theorem clean_xd (h : HW) : clean (h.xd []) = true := rfl
theorem run_round {tab : Tr (YE P)} {lf m k : Nat} {args : List SV} {h h' : HW} {y : SV} {o : Ob} {st : LoopState} {pend : Jump} {ord : Nat → Hint} {me : FuncId} {N : Nat} {F : Tr SV} {ps : Array Tmp} {a c : Code} {b : Nat}
    (ho : h.objs.get k = some o) (hs : o.sp = .loop st pend ord me N F ps a c b) (e : roundZ P (runY tab lf m).call ord me k N lf F.get ps a c args h = some (.ret y, h')) : (runY tab lf (m + 1)).call (.yld k) args h = some (.ret y, h') := by
  show runR P (runY tab lf m) lf k args h = _
  unfold runR
  simp only [ho, hs, kBody_eq]
  have := roundZ_spec (callf := liftC (runY tab lf m).call) (jump := jumpE P (liftC (runY tab lf m).call) ord me (some k) N lf lf) (liftC_ok _) (Ft := F) (fun t => rfl) e []
  have e0 : h.x0 = h.xd [] := rfl
  rw [e0, this]
  unfold toR
  simp only [clean_xd, cond_true]
  rfl
end
end Go.Xe
namespace Go.Xe
section
variable {P : Program} {t u e sz b : Nat} {h : HW}
theorem sameH_of {h h' : HW} {k : Nat} (hk : k < h.next) (hm : ∃ m, h.mt k = some m) (e : SameOb h h' k) : sameH h h' k = true := by
  obtain ⟨m, hm⟩ := hm
  have hb : Nat.blt k h.next = true := by rw [Nat.blt_eq]; exact hk
  unfold HW.mt at hm
  cases ho : h.objs.get k with
  | none => simp [ho] at hm
  | some o =>
    have e : h'.objs.get k = h.objs.get k := e
    unfold sameH
    simp only [hb, cond_true, ho, e, Nat.beq_refl]
end
end Go.Xe
namespace Go.Xe
def HW.at (h : HW) (k : Nat) (o : Ob) : HW := ⟨h.ng, h.next, h.objs.put k o⟩
theorem at_get (h : HW) (k : Nat) (o : Ob) (j : Nat) : (h.at k o).objs.get j = if j = k then some o else h.objs.get j := Hp.get_put _ _ _ _
theorem at_other (h : HW) {k j : Nat} (o : Ob) (e : j ≠ k) : (h.at k o).objs.get j = h.objs.get j := by rw [at_get, if_neg e]
theorem cell_at_same (h : HW) (k : Nat) (o : Ob) (i : Nat) : (h.at k o).cell k i = o.get i := by unfold HW.cell; rw [at_get, if_pos rfl]
theorem cell_at_other {h : HW} {k j : Nat} (o : Ob) (e : j ≠ k) (i : Nat) : (h.at k o).cell j i = h.cell j i := by unfold HW.cell; rw [at_other h o e]
theorem wr_at {h : HW} {k : Nat} {o : Ob} (hr : o.ro = false) : (h.at k o).wr k o.n := ⟨o.mt, by unfold HW.mt; rw [at_get, if_pos rfl], hr, rfl⟩
theorem wr_at_other {h : HW} {k j N : Nat} {o : Ob} (w : h.wr j N) (e : j ≠ k) : (h.at k o).wr j N := by
  obtain ⟨m, h1, h2, h3⟩ := w
  exact ⟨m, by unfold HW.mt; rw [at_other h o e]; exact h1, h2, h3⟩
section
variable {P : Program} {h : HW}
theorem ynf_ymk {t e s b base i : Nat} {z : Value} {k1 k2 : IntKind} {l c : Nat} (hu : P.underlying t = some (.slice e)) (hs : tySize P e = some s) (hz : tyZero P e = some z) (hb : tyBytes P e = some b)
    (h1 : l ≤ c) (h2 : c * b ≤ 140737488355328) (h3 : c ≤ 140737488355328) (h4 : (mkV z).cells.length = s) (h5 : 1 ≤ s) :
    ynf (ymk P t (.int k1 (l : Int)) (.int k2 (c : Int))) base i h = some (.sl (base + i) 0 l (some c) 0, h.at (base + i) (patOb e (c * s) (mkV z).cells)) := by
  unfold ynf
  rw [ymk_eq hu hs hz hb h1 h2 h3 h4 h5]
  rfl
theorem nwB_eq {rs : List Nat} {n : Nat} {k : Nat → HW → Rs} (hf : Fresh h) : nwB rs n h k = k h.next ⟨h.ng, h.next + n, h.objs⟩ := by
  have hd : ∀ rs : List Nat, deadH h h.next rs = true := fun rs => by
    induction rs with
    | nil => rfl
    | cons r rs ih => simp only [deadH, hf (h.next + r) (Nat.le_add_right _ _), ih, Bool.and_self]
  unfold nwB
  simp only [force_eq, hd, ck_true]
end
end Go.Xe
namespace Go.Proofs.YtomialandfplkaaDoor.Eva
open Go.Xe
set_option linter.unusedSimpArgs false
section
variable {lf : Nat} {h : HW} {T : TN} {n N : Nat} {wd b : Nat → Nat} {now : Int} {us : Nat → Bool} {nd : Nat → Nat → SV}
theorem TableAt.frm (A : TableAt h T n N wd b now us nd) {h' : HW} {S : Nat → Prop} (F : Frm h h' S) (hs : ∀ j, S j → j ≠ T.kt ∧ j ≠ T.ks ∧ j ≠ T.kd ∧ j ≠ T.kn) : TableAt h' T n N wd b now us nd :=
  A.frame F.next fun j hj => F.same j (by rcases hj with rfl | rfl | rfl | rfl; exact A.lt; exact A.st.lk; exact A.st.ldk; exact A.ln) (fun e => by have := hs j e; rcases hj with rfl | rfl | rfl | rfl <;> simp at this)
def usedN (us : Nat → Bool) (N : Nat) : List Nat := (usedR us N).map (· + 1)
theorem usedN_succ (us : Nat → Bool) (i : Nat) : usedN us (i + 1) = usedN us i ++ (if us i then [i + 1] else []) := by
  unfold usedN
  rw [usedR_succ, List.map_append]
  cases us i <;> rfl
theorem usedN_le (us : Nat → Bool) (N : Nat) : (usedN us N).length ≤ N := by
  unfold usedN
  rw [List.length_map]; exact usedR_le us N
theorem each_loop {C : YC} (I : Nat → HW → Prop) (ky : Nat) (A : ∀ i h, I i h → TableAt h T n N wd b now us nd) (hr : ∀ i h, i < N → us i = true → I i h → ∃ h', C (.yld ky) [.int .i64 ((i + 1 : Nat) : Int)] h = some (.ret (.bool true), h') ∧ I (i + 1) h')
    (hsk : ∀ i h, i < N → us i = false → I i h → I (i + 1) h) (r e0 : K0) : ∀ (d i : Nat), i + d = N → ∀ f, d < f → ∀ h, I i h →
    ∃ h', lp (l81_0 C lf r e0) f (some (.ptr T.kt 0), some (.yld ky), some (.int .i64 (N : Int)), some (.int .i64 (i : Int))) h = e0 h' ∧ I N h'
  | 0, i, hw, f, hf, h, hI => by
    obtain ⟨f, rfl⟩ : ∃ g, f = g + 1 := ⟨f - 1, by omega⟩
    have : i = N := by omega
    subst this
    refine ⟨h, ?_, hI⟩
    rw [lp_succ]
    unfold l81_0 q81_24
    have hlt : decide ((i : Int) < (i : Int)) = false := by simp
    simp only [ob_some, b2_some, bc_ret, bcn_ret, gd_tt, gd_ff, gd_tf, gd_ft, ypk_true, ypk_false, yIf_true, yIf_false, semNil_ptr, fa_ptr, ld1_ptr, ext_tup, fd1_agg, un_not, bin_add, bin_sub, bin_mul, bin_eql, bin_neq, bin_lss, bin_leq, bin_gtr, bin_geq, Nat.zero_add, Nat.mul_one, hlt]
  | d + 1, i, hw, f, hf, h, hI => by
    obtain ⟨f, rfl⟩ : ∃ g, f = g + 1 := ⟨f - 1, by omega⟩
    have Ah := A i h hI
    have hN := Ah.N2
    have hi : i < N := by omega
    have hlt : decide ((i : Int) < (N : Int)) = true := decide_eq_true (by omega)
    have hinc : IntKind.i64.wrap ((i : Int) + 1) = ((i + 1 : Nat) : Int) := by rw [wrap_i64 (by omega) (by omega)]; omega
    have hix := ixS_sl (s := 308) (k := T.kn) (off := 0) (len := N) (lo := 0) (cap := some N) (kd := .i64) (i := (i : Int)) (by omega) (by omega)
    rw [Int.toNat_natCast, Nat.zero_add] at hix
    have hc := Ah.cn i 0 hi (by omega)
    rw [Nat.add_zero, Ah.u0 i hi] at hc
    rw [lp_succ]
    show ∃ h', q81_24 C lf (fun x0 x1 x12 x13 h => lp (l81_0 C lf r e0) f (x0, x1, x12, x13) h) r e0 (some (.ptr T.kt 0)) (some (.yld ky)) (some (.int .i64 (N : Int))) (some (.int .i64 (i : Int))) h = e0 h' ∧ _
    unfold q81_24
    cases ho : us i with
    | false =>
      rw [ho] at hc
      simp only [ob_some, b2_some, bc_ret, bcn_ret, gd_tt, gd_ff, gd_tf, gd_ft, ypk_true, ypk_false, yIf_true, yIf_false, semNil_ptr, fa_ptr, ld1_ptr, ext_tup, fd1_agg, un_not, bin_add, bin_sub, bin_mul, bin_eql, bin_neq, bin_lss, bin_leq, bin_gtr, bin_geq, Nat.zero_add, Nat.mul_one, hlt, Ah.c1, hix, Nat.add_zero, hc, hinc]
      exact each_loop I ky A hr hsk r e0 d (i + 1) (by omega) f (by omega) h (hsk i h hi ho hI)
    | true =>
      rw [ho] at hc
      obtain ⟨h1, e1, I1⟩ := hr i h hi ho hI
      simp only [ob_some, b2_some, bc_ret, bcn_ret, gd_tt, gd_ff, gd_tf, gd_ft, ypk_true, ypk_false, yIf_true, yIf_false, semNil_ptr, fa_ptr, ld1_ptr, ext_tup, fd1_agg, un_not, bin_add, bin_sub, bin_mul, bin_eql, bin_neq, bin_lss, bin_leq, bin_gtr, bin_geq, Nat.zero_add, Nat.mul_one, hlt, Ah.c1, hix, Nat.add_zero, hc, hinc, cv, bcd, e1, Bool.not_true]
      exact each_loop I ky A hr hsk r e0 d (i + 1) (by omega) f (by omega) h1 I1
theorem each_ok {C : YC} (hlf : 4097 ≤ lf) (ht : IsTOK C) (I : Nat → HW → Prop) (ky : Nat) (A : ∀ i h, I i h → TableAt h T n N wd b now us nd) (hr : ∀ i h, i < N → us i = true → I i h → ∃ h', C (.yld ky) [.int .i64 ((i + 1 : Nat) : Int)] h = some (.ret (.bool true), h') ∧ I (i + 1) h')
    (hsk : ∀ i h, i < N → us i = false → I i h → I (i + 1) h) (hI : I 0 h) : ∃ h', fs81 C lf (.ptr T.kt 0) (.yld ky) h = some (.ret (.tup []), h') ∧ I N h' := by
  have Ah := A 0 h hI
  have hN := Ah.N2
  have hl : lenE Tryd.prog 100 (.sl T.kn 0 N (some N) 0) = some (.int .i64 (N : Int)) := by
    simp [lenE, Tryd.underlying100]
  obtain ⟨h', l1, l2⟩ := each_loop (lf := lf) I ky A hr hsk ff81 ff81 N 0 (by omega) lf (by omega) h hI
  refine ⟨h', ?_, l2⟩
  unfold fs81 q81_36 q81_35 q81_31 q81_30
  simp only [ob_some, b2_some, bc_ret, bcn_ret, gd_tt, gd_ff, gd_tf, gd_ft, ypk_true, ypk_false, yIf_true, yIf_false, semNil_ptr, fa_ptr, ld1_ptr, ext_tup, fd1_agg, un_not, bin_add, bin_sub, bin_mul, bin_eql, bin_neq, bin_lss, bin_leq, bin_gtr, bin_geq, Nat.zero_add, Nat.mul_one, ht _ _ _ _ _ _ _ _ _ Ah, Bool.not_true, Ah.c1, hl]
  exact l1
noncomputable def lpSp (p kb : Nat) : Sp := .loop .ready .none fx47.ord 47 13 (layT [(3, some (.ptr p 0))]) #[7] (subX fx47 [1, 1, 0, 1, 0, 0]) (subX fx47 [1, 1, 0, 1, 0, 1]) kb
structure LpAt (h : HW) (kb kl p : Nat) : Prop where
  ol : ∃ o, h.objs.get kl = some o ∧ o.sp = lpSp p kb
  ob : ∃ o, h.objs.get kb = some o ∧ o.sp = .blk false
theorem LpAt.same {kb kl p : Nat} (A : LpAt h kb kl p) {h' : HW} (h1 : SameOb h h' kb) (h2 : SameOb h h' kl) : LpAt h' kb kl p :=
  ⟨let ⟨o, a, c⟩ := A.ol; ⟨o, h2.trans a, c⟩, let ⟨o, a, c⟩ := A.ob; ⟨o, h1.trans a, c⟩⟩
structure UsSt (h0 h : HW) (kb kl p : Nat) (l : List Nat) : Prop where
  F : Frm h0 h (fun _ => False)
  L : LpAt h kb kl p
  v : ∃ x, h.cell p 0 = some x ∧ IntsAt h0 h x l ∧ ∀ j, rowOf x = some j → j ≠ kb ∧ j ≠ kl ∧ j ≠ p
  w : h.wr p 1
  nb : h0.next ≤ kb
  nl : h0.next ≤ kl
  np : h0.next ≤ p
  lb : kb < h.next
  ll : kl < h.next
  lp : p < h.next
  d1 : kb ≠ kl
  d2 : kb ≠ p
  d3 : kl ≠ p
theorem setLoopH_at {h : HW} {k : Nat} {o : Ob} {st st0 : LoopState} {p : Option Jump} {q : Jump} {ord : Nat → Hint} {me : FuncId} {M : Nat} {G : Tr SV} {ps : Array Tmp} {a c : Code} {bb : Nat} (ho : h.objs.get k = some o) (hs : o.sp = .loop st0 q ord me M G ps a c bb) :
    setLoopH h k st p = some (h.at k { o with ver := o.ver + 1, sp := .loop st (orJ p q) ord me M G ps a c bb }) := by
  unfold setLoopH
  simp only [ho, setSt, hs]
  rfl
theorem readyH_at {h : HW} {k : Nat} {o : Ob} {K : HW → Rs} {q : Jump} {ord : Nat → Hint} {me : FuncId} {M : Nat} {G : Tr SV} {ps : Array Tmp} {a c : Code} {bb : Nat} (ho : h.objs.get k = some o) (hs : o.sp = .loop .ready q ord me M G ps a c bb) :
    readyH h k K = K (h.at k { o with ver := o.ver + 1, sp := .loop .busy q ord me M G ps a c bb }) := by
  unfold readyH
  have : isReady o = true := by unfold isReady; obtain ⟨_, _, _, _, _, _, _, _, sp⟩ := o; simp only at hs; subst hs; rfl
  simp only [ho, this, cond_true, setLoopH_at ho hs, ob_some]
  rfl
theorem endRound_at {h : HW} {k : Nat} {o : Ob} {st st0 : LoopState} {p q : Jump} {ord : Nat → Hint} {me : FuncId} {M : Nat} {G : Tr SV} {ps : Array Tmp} {a c : Code} {bb : Nat} {r : Bool} (ho : h.objs.get k = some o) (hs : o.sp = .loop st0 q ord me M G ps a c bb) :
    endRoundZ h k st p r = some (.ret (.bool r), h.at k { o with ver := o.ver + 1, sp := .loop st p ord me M G ps a c bb }) := by
  unfold endRoundZ
  rw [setLoopH_at ho hs]
  rfl
theorem frm_at {h : HW} {k : Nat} {o : Ob} {S : Nat → Prop} (hk : S k) (hn : k < h.next) : Frm h (h.at k o) S :=
  ⟨rfl, Nat.le_refl _, fun j _ hs => at_other h o (fun e => hs (e ▸ hk)), fun hf j hj => by rw [at_get, if_neg (by have : h.next ≤ j := hj; omega)]; exact hf j hj⟩
theorem round_used {C : YC} {h0 : HW} {kb kl p : Nat} {l : List Nat} (A : UsSt h0 h kb kl p l) (hl : l.length ≤ 4096) (v : Nat) :
    ∃ h', rt47_4 C lf kl (some (.ptr p 0)) (.int .i64 (v : Int)) h = some (.ret (.bool true), h') ∧ UsSt h0 h' kb kl p (l ++ [v]) := by
  obtain ⟨o, ho, hs⟩ := A.L.ol
  have hs : o.sp = .loop .ready .none fx47.ord 47 13 (layT [(3, some (.ptr p 0))]) #[7] (subX fx47 [1, 1, 0, 1, 0, 0]) (subX fx47 [1, 1, 0, 1, 0, 1]) kb := hs
  generalize hsa : subX fx47 [1, 1, 0, 1, 0, 0] = ca at *
  generalize hsc : subX fx47 [1, 1, 0, 1, 0, 1] = cc at *
  obtain ⟨x, hx, hA, hrow⟩ := A.v
  have hr := readyH_at (K := fun h => q47_12 C lf (fun h => endRoundZ h kl .ready .none true) (some (.ptr p 0)) (some (.int .i64 (v : Int))) h) ho hs
  generalize hg1 : h.at kl { o with ver := o.ver + 1, sp := .loop .busy .none fx47.ord 47 13 (layT [(3, some (.ptr p 0))]) #[7] ca cc kb } = g1 at *
  have F1 : Frm h g1 (· = kl) := by rw [← hg1]; exact frm_at rfl A.ll
  have n1 : g1.next = h.next := by rw [← hg1]; rfl
  have s1 : ∀ j, j ≠ kl → SameOb h g1 j := fun j hj => by rw [← hg1]; exact at_other h _ hj
  have o1 : g1.objs.get kl = some { o with ver := o.ver + 1, sp := .loop .busy .none fx47.ord 47 13 (layT [(3, some (.ptr p 0))]) #[7] ca cc kb } := by rw [← hg1, at_get, if_pos rfl]
  have hx1 : g1.cell p 0 = some x := by rw [(s1 p (fun e => A.d3 e.symm)).cell]; exact hx
  have hS1 : Sl g1 3 1 x l.length (ints l) := hA.sl.frame (Nat.le_of_eq n1.symm) fun k hk => s1 k (hrow k hk).2.1
  obtain ⟨x', g2, a1, a2, a3, a4, a5, a6, a7, a8⟩ := app_one (y := .int .i64 (v : Int)) appT_int rfl rfl rfl hS1 (by omega) (by omega)
  have s2 : ∀ j, j < h.next → rowOf x ≠ some j → SameOb g1 g2 j := fun j hj e => a6 j (by omega) e
  have rp : ∀ j, j = kb ∨ j = kl ∨ j = p → rowOf x ≠ some j := fun j hj e => by have := hrow j e; omega
  have w2 : g2.wr p 1 := wr_same (wr_same A.w (s1 p (fun e => A.d3 e.symm))) (s2 p A.lp (rp p (.inr (.inr rfl))))
  have hone : allOne [x'] = true := by rcases a3.2 with ⟨rfl, _⟩ | ⟨_, rfl, _⟩ <;> rfl
  have hcx : x'.cells = [x'] := by rcases a3.2 with ⟨rfl, _⟩ | ⟨_, rfl, _⟩ <;> rfl
  have st3 := st_ptr (n := 1) (off := 0) (y := x') w2 (by rw [hcx]; rfl) (by omega) (by rw [hcx]; exact hone)
  rw [hcx] at st3
  have F3 : Frm g2 (g2.set p 0 [x']) (· = p) := frm_set rfl
  generalize hg3 : g2.set p 0 [x'] = g3 at *
  have n3 : g3.next = g2.next := by rw [← hg3, set_next]
  have s3 : ∀ j, j ≠ p → SameOb g2 g3 j := fun j hj => by rw [← hg3]; exact set_other _ _ _ hj
  have o3 : g3.objs.get kl = some { o with ver := o.ver + 1, sp := .loop .busy .none fx47.ord 47 13 (layT [(3, some (.ptr p 0))]) #[7] ca cc kb } :=
    (s3 kl A.d3).trans ((s2 kl A.ll (rp kl (.inr (.inl rfl)))).trans o1)
  have he := endRound_at (st := .ready) (p := .none) (r := true) o3 rfl
  have F4 := frm_at (h := g3) (k := kl) (o := { o with ver := o.ver + 1 + 1, sp := .loop .ready .none fx47.ord 47 13 (layT [(3, some (.ptr p 0))]) #[7] ca cc kb }) (S := (· = kl)) rfl (by rw [n3]; have := A.ll; omega)
  generalize hg4 : g3.at kl { o with ver := o.ver + 1 + 1, sp := .loop .ready .none fx47.ord 47 13 (layT [(3, some (.ptr p 0))]) #[7] ca cc kb } = g4 at *
  have n4 : g4.next = g3.next := by rw [← hg4]; rfl
  have s4 : ∀ j, j ≠ kl → SameOb g3 g4 j := fun j hj => by rw [← hg4]; exact at_other _ _ hj
  have rx : ∀ j, rowOf x' = some j → h0.next ≤ j ∧ j ≠ kb ∧ j ≠ kl ∧ j ≠ p := fun j hj => by
    have h1 := A.lb
    have h2 := A.ll
    have h3 := A.lp
    have h4 := A.F.next
    rcases a7 j hj with e | e
    · exact ⟨hA.new j e, hrow j e⟩
    · omega
  have keep : ∀ j, j < h.next → rowOf x ≠ some j → j ≠ kl → j ≠ p → SameOb h g4 j := fun j hj e e1 e2 => (s4 j e1).trans ((s3 j e2).trans ((s2 j hj e).trans (s1 j e1)))
  refine ⟨g4, ?_, ⟨?_, ⟨⟨_, by rw [← hg4, at_get, if_pos rfl], by simp only [lpSp, hsa, hsc]⟩, ?_⟩, ⟨x', ?_, ⟨?_, fun j hj => (rx j hj).1⟩, fun j hj => (rx j hj).2⟩, ?_, A.nb, A.nl, A.np, by have := A.lb; omega, by have := A.ll; omega, by have := A.lp; omega, A.d1, A.d2, A.d3⟩⟩
  · unfold rt47_4 q47_14
    simp only [ob_some]
    refine hr.trans ?_
    unfold q47_12
    simp only [ob_some, ld1_ptr, hx1, a1, b2_some, a2, st3]
    exact he
  · have hf4 : Fresh h → Fresh g4 := fun hf => F4.fr (F3.fr (a8 (F1.fr hf)))
    refine ⟨?_, ?_, fun j hj _ => ?_, fun hf => hf4 (A.F.fr hf)⟩
    · exact F4.ng.trans (F3.ng.trans (a5.trans (F1.ng.trans A.F.ng)))
    · have := A.F.next; omega
    · have h1 := A.F.next
      have h2 := A.nl
      have h3 := A.np
      exact (keep j (by omega) (fun e => by have := hA.new j e; omega) (by omega) (by omega)).trans (A.F.same j hj (fun e => e))
  · obtain ⟨ob, b1, b2⟩ := A.L.ob
    exact ⟨ob, (keep kb A.lb (rp kb (.inl rfl)) A.d1 A.d2).trans b1, b2⟩
  · rw [(s4 p (fun e => A.d3 e.symm)).cell, ← hg3, cell_set_same w2 (by simp) (Nat.zero_le _) (by simp)]; rfl
  · have : ints (l ++ [v]) = ints l ++ [.int .i64 (v : Int)] := by simp [ints]
    rw [this, List.length_append]
    exact a3.frame (by omega) fun k hk => (s4 k (rx k hk).2.2.1).trans (s3 k (rx k hk).2.2.2)
  · exact wr_same (by rw [← hg3]; exact wr_set w2) (s4 p (fun e => A.d3 e.symm))
end
end Go.Proofs.YtomialandfplkaaDoor.Eva
namespace Go.Proofs.YtomialandfplkaaDoor.Eva
open Go.Xe
set_option linter.unusedSimpArgs false
section
variable {lf m : Nat} {h : HW} {r ro rb n : Nat} {on : Nat → Bool} {q : Nat → Option Nat} {b : Nat → Nat} {x0 x1 : SV}
theorem RefAt.had (A : RefAt h r ro rb n on q b) {i : Nat} (hi : i < n) {h1 h2 h3 : HW} (e1 : h1 = h.set ro i [.bool true]) (e2 : h2 = h1.new (patOb 5 (64 * 1) [.int .u8 0])) (e3 : h3 = h2.set rb i [.sl h.next 0 64 (some 64) 0]) :
    RefAt h3 r ro rb n (upd on i true) (upd q i (some h.next)) (zero64 b i) ∧ Frm h h3 (fun j => j = ro ∨ j = rb) ∧ h3.next = h.next + 1 ∧ h1.next = h.next := by
  obtain ⟨x0, x1, c0, c1, V⟩ := A.v
  have n1 : h1.next = h.next := by rw [e1, set_next]
  have n2 : h2.next = h.next + 1 := by rw [e2, new_next, n1]
  have n3 : h3.next = h.next + 1 := by rw [e3, set_next, n2]
  have F1 : Frm h h1 (fun j => j = ro ∨ j = rb) := by rw [e1]; exact frm_set (.inl rfl)
  have F2 : Frm h1 h2 (fun j => j = ro ∨ j = rb) := by rw [e2]; exact frm_new _ _ _
  have F3 : Frm h2 h3 (fun j => j = ro ∨ j = rb) := by rw [e3]; exact frm_set (.inr rfl)
  have F := (F1.trans F2).trans F3
  have lto := V.lto
  have ltb := V.ltb
  have lr := A.lt
  have nrn : r ≠ ro := A.nro
  have nrb : r ≠ rb := A.nrb
  have neb := V.ne
  have w1 : h1.wr ro n := by rw [e1]; exact wr_set V.wro
  have w1b : h1.wr rb n := by rw [e1]; exact wr_set V.wrb
  have w2 : h2.wr ro n := by rw [e2]; exact wr_new_other w1 (by omega)
  have w2b : h2.wr rb n := by rw [e2]; exact wr_new_other w1b (by omega)
  have w2n : h2.wr h.next 64 := by rw [e2, ← n1]; exact wr_new rfl
  -- cells of ro
  have cro : ∀ j, h3.cell ro j = h1.cell ro j := fun j => by
    rw [e3, cell_set_off (.inl neb), e2, cell_new_other (by omega)]
  -- cells of rb
  have crb : ∀ j, j ≠ i → h3.cell rb j = h.cell rb j := fun j hj => by
    rw [e3, cell_set_off (.inr (by simp; omega)), e2, cell_new_other (by omega), e1, cell_set_off (.inl neb.symm)]
  have crbi : h3.cell rb i = some (.sl h.next 0 64 (some 64) 0) := by
    rw [e3, cell_set_same w2b (by simp; omega) (Nat.le_refl _) (by simp)]; simp
  refine ⟨⟨⟨x0, x1, ?_, ?_, ?_⟩, ?_, nrn, nrb, fun j k hj hq => ?_, by omega⟩, F, n3, n1⟩
  · rw [(F.same r lr (fun e => by rcases e with e | e; exact nrn e; exact nrb e)).cell]; exact c0
  · rw [(F.same r lr (fun e => by rcases e with e | e; exact nrn e; exact nrb e)).cell]; exact c1
  · refine ⟨V.n1, V.n2, V.e0, V.e1, ?_, ?_, fun j hj => ?_, fun j hj hq => ?_, fun j k hj hq => ?_, fun j j' k hj hj' hq hq' => ?_, neb, by omega, by omega, fun j => ?_⟩
    · rw [e3]; exact wr_set w2
    · rw [e3]; exact wr_set w2b
    · rw [cro, e1]
      by_cases e : j = i
      · subst e
        rw [cell_set_same V.wro (by simp; omega) (Nat.le_refl _) (by simp), upd_same]; simp
      · rw [cell_set_off (.inr (by simp; omega)), upd_ne _ _ e]; exact V.con j hj
    · by_cases e : j = i
      · rw [e, upd_same] at hq; cases hq
      · rw [upd_ne _ _ e] at hq ⊢
        obtain ⟨o1, o2⟩ := V.off j hj hq
        exact ⟨o1, by rw [crb j e]; exact o2⟩
    · by_cases e : j = i
      · rw [e, upd_same] at hq
        cases hq
        refine ⟨by omega, by omega, _, by rw [e]; exact crbi, .inl ⟨⟨some 64, 0, rfl⟩, Nat.le_refl _, ?_, fun c hc => ?_, by omega⟩⟩
        · rw [e3]; exact wr_set w2n
        · rw [e3, cell_set_off (.inl (by omega)), e2, ← n1, cell_new_same, patOb_get _ _ (by omega)]
          unfold zero64
          rw [if_pos (by omega)]
          simp [Nat.mod_one]
      · rw [upd_ne _ _ e] at hq
        obtain ⟨o1, o2, x, o3, B⟩ := V.has j k hj hq
        have hk := B.lt
        refine ⟨o1, o2, x, by rw [crb j e]; exact o3, ?_⟩
        rw [upd_ne _ _ e]
        rcases B.frame (h' := h3) F.next (F.same k hk (fun e => by rcases e with e | e; exact o1 e; exact o2 e)) with B' | B'
        · refine .inl ⟨B'.sl, B'.ok, B'.w, fun c hc => ?_, B'.lt⟩
          rw [B'.cs c hc]
          unfold zero64
          rw [if_neg (by omega)]
        · exact .inr B'
    · by_cases e : j = i
      · by_cases e' : j' = i
        · omega
        · rw [e, upd_same] at hq
          rw [upd_ne _ _ e'] at hq'
          cases hq
          obtain ⟨_, _, x, _, B⟩ := V.has j' _ hj' hq'
          exact absurd B.lt (Nat.lt_irrefl _)
      · by_cases e' : j' = i
        · rw [e', upd_same] at hq'
          rw [upd_ne _ _ e] at hq
          cases hq'
          obtain ⟨_, _, x, _, B⟩ := V.has j _ hj hq
          exact absurd B.lt (Nat.lt_irrefl _)
        · rw [upd_ne _ _ e] at hq
          rw [upd_ne _ _ e'] at hq'
          exact V.inj j j' k hj hj' hq hq'
    · unfold zero64; split
      · omega
      · exact V.blt j
  · obtain ⟨M, a, c⟩ := A.wr
    exact ⟨M, a, wr_same c (F.same r lr (fun e => by rcases e with e | e; exact nrn e; exact nrb e))⟩
  · by_cases e : j = i
    · rw [e, upd_same] at hq; cases hq; omega
    · rw [upd_ne _ _ e] at hq; exact A.nq j k hj hq
end
end Go.Proofs.YtomialandfplkaaDoor.Eva
namespace Go.Proofs.YtomialandfplkaaDoor.Eva
open Go.Xe
set_option linter.unusedSimpArgs false
section
variable {lf m : Nat} {h : HW} {r ro rb n : Nat} {on : Nat → Bool} {q : Nat → Option Nat} {b : Nat → Nat} {x0 x1 : SV}
def blkL (b : Nat → Nat) (i : Nat) : List Nat := (List.range 64).map fun j => b (i * 64 + j)
theorem blkL_length (b : Nat → Nat) (i : Nat) : (blkL b i).length = 64 := by simp [blkL]
theorem blkL_get (b : Nat → Nat) (i : Nat) {j : Nat} (hj : j < 64) : (blkL b i).getD j 0 = b (i * 64 + j) := by simp [blkL, List.getD, hj]
theorem BlkAt.bytes {x : SV} {k i : Nat} (B : BlkAt h x k b i) (hb : ∀ j, b j < 256) : Bytes h x (blkL b i) := by
  obtain ⟨cap, lo, rfl⟩ := B.sl
  obtain ⟨mm, hm, _⟩ := B.w
  refine ⟨fun c hc => ?_, .inr ⟨k, 0, cap, lo, mm, by rw [blkL_length], hm, fun j hj => ?_⟩⟩
  · obtain ⟨j, _, rfl⟩ := List.mem_map.1 hc
    exact hb _
  · rw [blkL_length] at hj
    rw [Nat.zero_add, B.cs j hj, blkL_get b i hj]
theorem RefAt.put (A : RefAt h r ro rb n on q b) {i k p v : Nat} (hi : i < n) (hon : on i = true) (hq : q i = some k) (hp : p < 64) (hv : v < 256) {b' : Nat → Nat} (hb : ∀ j, b' j = if j = i * 64 + p then v else b j) :
    RefAt (h.set k p [.int .u8 (v : Int)]) r ro rb n on q b' := by
  obtain ⟨x0, x1, c0, c1, V⟩ := A.v
  obtain ⟨k1, k2, x, k3, B⟩ := V.has i k hi hq
  replace B := B.blk hon
  have kr := A.nq i k hi hq
  have so : SameOb h (h.set k p [.int .u8 (v : Int)]) ro := set_other _ _ _ k1.symm
  have sb : SameOb h (h.set k p [.int .u8 (v : Int)]) rb := set_other _ _ _ k2.symm
  have sr : SameOb h (h.set k p [.int .u8 (v : Int)]) r := set_other _ _ _ kr.symm
  refine ⟨⟨x0, x1, by rw [sr.cell]; exact c0, by rw [sr.cell]; exact c1, V.n1, V.n2, V.e0, V.e1, wr_set V.wro, wr_set V.wrb, fun j hj => by rw [so.cell]; exact V.con j hj, fun j hj hq => by rw [sb.cell]; exact V.off j hj hq, fun j k' hj hq' => ?_, V.inj, V.ne, by rw [set_next]; exact V.lto, by rw [set_next]; exact V.ltb, fun j => ?_⟩, (let ⟨M, a, c⟩ := A.wr; ⟨M, a, wr_set c⟩), A.nro, A.nrb, A.nq, by rw [set_next]; exact A.lt⟩
  · obtain ⟨o1, o2, x', o3, B'⟩ := V.has j k' hj hq'
    refine ⟨o1, o2, x', by rw [sb.cell]; exact o3, ?_⟩
    rcases B' with B' | ⟨u1, u2, ⟨N, u3⟩, u4⟩
    rotate_left
    · exact .inr ⟨u1, u2, ⟨N, wr_set u3⟩, by rw [set_next]; exact u4⟩
    refine .inl ⟨B'.sl, B'.ok, wr_set B'.w, fun c hc => ?_, by rw [set_next]; exact B'.lt⟩
    by_cases e : j = i
    · subst e
      rw [hq] at hq'
      cases hq'
      by_cases e2 : c = p
      · subst e2
        rw [cell_set_same B.w (by simp; omega) (Nat.le_refl _) (by simp), hb, if_pos rfl]; simp
      · rw [cell_set_off (.inr (by simp; omega)), B'.cs c hc, hb, if_neg (by omega)]
    · have hne : k' ≠ k := fun e2 => e (V.inj j i k' hj hi hq' (by rw [e2]; exact hq))
      rw [cell_set_off (.inl hne), B'.cs c hc, hb, if_neg (by omega)]
  · rw [hb]; split
    · exact hv
    · exact V.blt j
end
end Go.Proofs.YtomialandfplkaaDoor.Eva
namespace Go.Proofs.YtomialandfplkaaDoor.Eva
open Go.Xe
set_option linter.unusedSimpArgs false
section
variable {lf m : Nat} {h : HW} {k dk n : Nat} {wd b : Nat → Nat}
def TotalOK (C : YC) : Prop := ∀ h k dk n wd b, StoreAt h k dk n wd b → C (.fn 29) [.ptr k 0] h = some (.ret (.int .i64 (n : Int)), h)
theorem total_ok {C : YC} (hm : MadeOK C) (S : StoreAt h k dk n wd b) : fs29 C lf (.ptr k 0) h = some (.ret (.int .i64 (n : Int)), h) := by
  unfold fs29 q29_8 ff29
  simp only [ob_some, b2_some, bc_ret, bcn_ret, gd_tt, gd_ff, gd_tf, gd_ft, ypk_true, ypk_false, yIf_true, yIf_false, semNil_ptr, fa_ptr, ld1_ptr, ext_tup, fd1_agg, un_not, bin_add, bin_sub, bin_mul, bin_eql, bin_neq, bin_lss, bin_leq, bin_gtr, bin_geq, Nat.zero_add, Nat.mul_one, hm _ _ _ _ _ _ S, Bool.not_true, S.cn]
@[simp] theorem lowV_int (bb : Nat) (kd : IntKind) (i : Int) : lowV bb (.int kd i) = true := noRfl rfl
def RNewOK (C : YC) : Prop := ∀ h (n : Nat), 1 ≤ n → n ≤ 4096 → Fresh h → ∃ h' x0 x1 ro rb, C (.fn 24) [.int .i64 (n : Int)] h = some (.ret (.agg [x0, x1]), h') ∧ RefV h' x0 x1 ro rb n (fun _ => false) (fun _ => none) (fun _ => 0) ∧ Frm h h' (fun _ => False) ∧ h.next ≤ ro ∧ h.next ≤ rb
theorem rnew_ok {C : YC} {n : Nat} (h1 : 1 ≤ n) (h2 : n ≤ 4096) (hf : Fresh h) : ∃ h' x0 x1 ro rb, fs24 C lf (.int .i64 (n : Int)) h = some (.ret (.agg [x0, x1]), h') ∧ RefV h' x0 x1 ro rb n (fun _ => false) (fun _ => none) (fun _ => 0) ∧ Frm h h' (fun _ => False) ∧ h.next ≤ ro ∧ h.next ≤ rb := by
  have hz : tyZero Tryd.prog 44 = some (.agg #[.slice none 0 0, .slice none 0 0]) := by kernel_rfl
  have hal := yAl_eq (P := Tryd.prog) (e := 44) (h := h) hz
  generalize ho1 : rowOb 44 (mkV (.agg #[.slice none 0 0, .slice none 0 0])).cells = o1 at *
  have hn1 : o1.n = 2 := by rw [← ho1]; rfl
  have hw1 : (h.new o1).wr h.next 2 := by rw [← hn1]; exact wr_new (by rw [← ho1]; rfl)
  have hf2 := fresh_new hf o1
  generalize hh3 : (⟨(h.new o1).ng, h.next + 1 + 6, (h.new o1).objs⟩ : HW) = h3
  have n3 : h3.next = h.next + 7 := by rw [← hh3]
  have g3 : ∀ j, h3.objs.get j = (h.new o1).objs.get j := fun j => by rw [← hh3]
  have w3 : h3.wr h.next 2 := by rw [← hh3]; exact hw1
  have m1 := ynf_ymk (P := Tryd.prog) (t := 41) (e := 4) (s := 1) (b := 1) (z := .bool false) (k1 := .i64) (k2 := .i64) (l := n) (c := n) (base := h.next + 1) (i := 1) (h := h3)
    Tryd.underlying41 (by kernel_rfl) (by kernel_rfl) (by kernel_rfl) (Nat.le_refl _) (by omega) (by omega) rfl (by omega)
  generalize ho2 : patOb 4 (n * 1) (mkV (.bool false)).cells = o2 at *
  generalize hh4 : h3.at (h.next + 1 + 1) o2 = h4 at *
  have m2 := ynf_ymk (P := Tryd.prog) (t := 42) (e := 24) (s := 1) (b := 24) (z := .slice none 0 0) (k1 := .i64) (k2 := .i64) (l := n) (c := n) (base := h.next + 1) (i := 3) (h := h4)
    Tryd.underlying42 (by kernel_rfl) (by kernel_rfl) (by kernel_rfl) (Nat.le_refl _) (by omega) (by omega) rfl (by omega)
  generalize ho3 : patOb 24 (n * 1) (mkV (.slice none 0 0)).cells = o3 at *
  generalize hh5 : h4.at (h.next + 1 + 3) o3 = h5 at *
  have hb : semBuild Tryd.prog 44 [0, 1] [.sl (h.next + 1 + 1) 0 n (some n) 0, .sl (h.next + 1 + 3) 0 n (some n) 0] = some (.agg [.sl (h.next + 1 + 1) 0 n (some n) 0, .sl (h.next + 1 + 3) 0 n (some n) 0]) := by kernel_rfl
  have w5 : h5.wr h.next 2 := by rw [← hh5, ← hh4]; exact wr_at_other (wr_at_other w3 (by omega)) (by omega)
  have hst := st_ptr (n := 2) (off := 0) (y := .agg [.sl (h.next + 1 + 1) 0 n (some n) 0, .sl (h.next + 1 + 3) 0 n (some n) 0]) w5 rfl (by omega) rfl
  have hcy : (SV.agg [.sl (h.next + 1 + 1) 0 n (some n) 0, .sl (h.next + 1 + 3) 0 n (some n) 0]).cells = [.sl (h.next + 1 + 1) 0 n (some n) 0, .sl (h.next + 1 + 3) 0 n (some n) 0] := rfl
  rw [hcy] at hst
  generalize hh6 : h5.set h.next 0 [.sl (h.next + 1 + 1) 0 n (some n) 0, .sl (h.next + 1 + 3) 0 n (some n) 0] = h6 at *
  have n6 : h6.next = h.next + 7 := by rw [← hh6, set_next, ← hh5, ← hh4]; exact n3
  have hld : ldN 2 (.ptr h.next 0) h6 = some (.agg [.sl (h.next + 1 + 1) 0 n (some n) 0, .sl (h.next + 1 + 3) 0 n (some n) 0]) := by
    have w5' := w5
    obtain ⟨mm, hmm, _⟩ := w5'
    have : ∃ m', h6.mt h.next = some m' := by rw [← hh6, mt_set, if_pos rfl, hmm]; exact ⟨_, rfl⟩
    obtain ⟨m', hm'⟩ := this
    rw [ldN_ptr hm', cells_of (n := 2) (ys := [.sl (h.next + 1 + 1) 0 n (some n) 0, .sl (h.next + 1 + 3) 0 n (some n) 0]) rfl fun i hi => by
      rw [Nat.zero_add, ← hh6, cell_set_same w5 (by simp) (Nat.zero_le _) (by simpa using hi), Nat.sub_zero]]
    rfl
  refine ⟨h6, _, _, h.next + 1 + 1, h.next + 1 + 3, ?_, ⟨h1, h2, ⟨some n, 0, rfl⟩, ⟨some n, 0, rfl⟩, ?_, ?_, fun i hi => ?_, fun i hi _ => ⟨rfl, ?_⟩, (fun i k hi hq => by cases hq), (fun i j k _ _ hq => by cases hq), by omega, by omega, by omega, fun j => by omega⟩, ⟨?_, by omega, fun j hj _ => ?_, fun hf j hj => ?_⟩, by omega, by omega⟩
  · unfold fs24 q24_10 ff24
    simp only [ob_some, b2_some, bc_ret, bcn_ret, gd_tt, gd_ff, gd_tf, gd_ft, ypk_true, ypk_false, yIf_true, yIf_false, semNil_ptr, fa_ptr, ld1_ptr, ext_tup, fd1_agg, un_not, bin_add, bin_sub, bin_mul, bin_eql, bin_neq, bin_lss, bin_leq, bin_gtr, bin_geq, Nat.zero_add, Nat.mul_one, hal, nwB_eq hf2, new_next, hh3, lowV_int, Bool.and_self, ck_true, m1, m2, hb, hst, hld]
  · rw [← hh6]
    refine wr_set ?_
    rw [← hh5, ← hh4]
    have : (h3.at (h.next + 1 + 1) o2).wr (h.next + 1 + 1) o2.n := wr_at (by rw [← ho2]; rfl)
    rw [show o2.n = n by rw [← ho2]; exact Nat.mul_one n] at this
    exact wr_at_other this (by omega)
  · rw [← hh6]
    refine wr_set ?_
    rw [← hh5]
    have : (h4.at (h.next + 1 + 3) o3).wr (h.next + 1 + 3) o3.n := wr_at (by rw [← ho3]; rfl)
    rw [show o3.n = n by rw [← ho3]; exact Nat.mul_one n] at this
    exact this
  · rw [← hh6, cell_set_off (.inl (by omega)), ← hh5, cell_at_other _ (by omega), ← hh4, cell_at_same, ← ho2, patOb_get _ _ (by omega)]
    show [SV.bool false][i % 1]? = _
    rw [Nat.mod_one]; rfl
  · rw [← hh6, cell_set_off (.inl (by omega)), ← hh5, cell_at_same, ← ho3, patOb_get _ _ (by omega)]
    show [SV.val (.slice none 0 0)][i % 1]? = _
    rw [Nat.mod_one]; rfl
  · rw [← hh6, set_ng, ← hh5, ← hh4, ← hh3]; rfl
  · show h6.objs.get j = h.objs.get j
    rw [← hh6, set_other _ _ _ (by omega), ← hh5, at_other _ _ (by omega), ← hh4, at_other _ _ (by omega), g3, new_other _ _ (by omega)]
  · rw [n6] at hj
    rw [← hh6, set_other _ _ _ (by omega), ← hh5, at_other _ _ (by omega), ← hh4, at_other _ _ (by omega), g3]
    exact hf2 j (by rw [new_next]; omega)
end
end Go.Proofs.YtomialandfplkaaDoor.Eva
namespace Go.Proofs.YtomialandfplkaaDoor.Eva
open Go.Xe
set_option linter.unusedSimpArgs false
section
variable {lf m : Nat} {h : HW} {r ro rb n : Nat} {on : Nat → Bool} {q : Nat → Option Nat} {b : Nat → Nat} {x0 x1 : SV}
end
end Go.Proofs.YtomialandfplkaaDoor.Eva
namespace Go.Proofs.YtomialandfplkaaDoor.Eva
open Go.Xe
set_option linter.unusedSimpArgs false
section
variable {lf m : Nat} {h : HW}
structure Whole (h : HW) (k : Nat) (l : List Nat) : Prop where
  w : h.wr k (l.length + 2)
  c0 : h.cell k 0 = some (.int .u8 165)
  c1 : h.cell k (l.length + 1) = some (.int .u8 90)
  cs : ∀ j, j < l.length → h.cell k (1 + j) = some (.int .u8 ((l.getD j 0 : Nat) : Int))
  lt : k < h.next
def lentX (k n : Nat) : SV := .sl k 1 n (some (n + 1)) 0
theorem Whole.bytes {k : Nat} {l : List Nat} (W : Whole h k l) (hb : ∀ c ∈ l, c < 256) : Bytes h (lentX k l.length) l := by
  obtain ⟨mm, hm, _⟩ := W.w
  exact ⟨hb, .inr ⟨k, 1, _, 0, mm, rfl, hm, W.cs⟩⟩
end
end Go.Proofs.YtomialandfplkaaDoor.Eva
namespace Go.Proofs.YtomialandfplkaaDoor.Eva
open Go.Xe
set_option linter.unusedSimpArgs false
theorem ck_chk {recs : List (Nat × Option Nat)} {h h' : HW} {ls : List Nat} {r : Rs} (H : ∀ p ∈ recs, ∀ k, p.2 = some k → k < h.next ∧ (∃ m, h.mt k = some m) ∧ SameOb h h' k) : ck (chkH recs h h' ls) r = r := by
  have hf : ∀ (recs : List (Nat × Option Nat)) i k, (∀ p ∈ recs, ∀ k, p.2 = some k → k < h.next ∧ (∃ m, h.mt k = some m) ∧ SameOb h h' k) → findK recs i = some k → k < h.next ∧ (∃ m, h.mt k = some m) ∧ SameOb h h' k := by
    intro recs
    induction recs with
    | nil => intro i k _ e; cases e
    | cons p recs ih =>
      intro i k H e
      obtain ⟨l, a⟩ := p
      have e : (bif Nat.beq l i then a else findK recs i) = some k := e
      cases hb : Nat.beq l i with
      | true => rw [hb, cond_true] at e; exact H (l, a) (List.mem_cons_self ..) k e
      | false => rw [hb, cond_false] at e; exact ih i k (fun p hp => H p (List.mem_cons_of_mem _ hp)) e
  have : chkH recs h h' ls = true := by
    induction ls with
    | nil => rfl
    | cons l ls ih =>
      show ((match findK recs l with | some k => sameH h h' k | none => true) && chkH recs h h' ls) = true
      rw [ih, Bool.and_true]
      cases hk : findK recs l with
      | none => rfl
      | some k =>
        obtain ⟨h1, h2, h3⟩ := hf recs l k H hk
        exact sameH_of h1 h2 h3
  rw [this, ck_true]
section
variable {lf : Nat} {h : HW} {T : TN} {n N : Nat} {wd b : Nat → Nat} {now : Int} {us : Nat → Bool} {nd : Nat → Nat → SV}
def EachUsedOK (C : YC) : Prop := ∀ h0 h T n N wd b now us nd kb kl p, TableAt h0 T n N wd b now us nd → UsSt h0 h kb kl p [] → ∃ h', C (.ent 81) [.ptr T.kt 0, .yld kl] h = some (.ret (.tup []), h') ∧ UsSt h0 h' kb kl p (usedN us N)
theorem eachUsed_ok {C C' : YC} (hlf : 4097 ≤ lf) (ht : IsTOK C) (hy : ∀ kl p kb v h y h', LpAt h kb kl p → rt47_4 C' lf kl (some (.ptr p 0)) v h = some (.ret y, h') → C (.yld kl) [v] h = some (.ret y, h')) {h0 : HW} {kb kl p : Nat} (A : TableAt h0 T n N wd b now us nd) (U : UsSt h0 h kb kl p []) :
    ∃ h', fs81 C lf (.ptr T.kt 0) (.yld kl) h = some (.ret (.tup []), h') ∧ UsSt h0 h' kb kl p (usedN us N) := by
  have hN := A.N2
  refine each_ok (n := n) (N := N) (wd := wd) (b := b) (now := now) (us := us) (nd := nd) hlf ht (fun i h => UsSt h0 h kb kl p (usedN us i)) kl (fun i h U => A.frm U.F fun _ e => e.elim) (fun i h hi hu U => ?_) (fun i h hi hu U => ?_) (by simpa [usedN, usedR] using U)
  · have hle := usedN_le us i
    obtain ⟨h', e1, e2⟩ := round_used (C := C') (lf := lf) U (by omega) (i + 1)
    refine ⟨h', hy kl p kb _ h _ h' U.L e1, ?_⟩
    rw [usedN_succ, hu]; exact e2
  · rw [usedN_succ, hu]; simpa using U
def UsedTOK (C : YC) : Prop := ∀ h T n N wd b now us nd, TableAt h T n N wd b now us nd → ∃ x h', C (.fn 47) [.ptr T.kt 0] h = some (.ret x, h') ∧ IntsAt h h' x (usedN us N) ∧ Frm h h' (fun _ => False)
theorem usedT_ok {C : YC} (E : EachUsedOK C) (A : TableAt h T n N wd b now us nd) : ∃ x h', fs47 C lf (.ptr T.kt 0) h = some (.ret x, h') ∧ IntsAt h h' x (usedN us N) ∧ Frm h h' (fun _ => False) := by
  have hz : tyZero Tryd.prog 33 = some (.slice none 0 0) := by kernel_rfl
  have al := yAl_eq (P := Tryd.prog) (e := 33) (h := h) hz
  have hzc : (mkV (.slice none 0 0)).cells = [.val (.slice none 0 0)] := rfl
  rw [hzc] at al
  generalize ho1 : rowOb 33 [.val (.slice none 0 0)] = o1 at *
  generalize hg1 : h.new o1 = g1 at *
  have n1 : g1.next = h.next + 1 := by rw [← hg1, new_next]
  have w1 : g1.wr h.next 1 := by
    have := wr_new (h := h) (o := o1) (by rw [← ho1]; rfl)
    rw [show o1.n = 1 by rw [← ho1]; rfl, hg1] at this
    exact this
  have c1 : g1.cell h.next 0 = some (.val (.slice none 0 0)) := by rw [← hg1, cell_new_same, ← ho1, rowOb_get]; rfl
  have F1 : Frm h g1 (fun _ => False) := by rw [← hg1]; exact frm_new _ _ _
  -- the block of deferred calls, and the loop
  generalize hg2 : (⟨g1.ng, g1.next + 1, g1.objs.put g1.next mkBlk⟩ : HW) = g2 at *
  have e2 : g2 = g1.new mkBlk := by rw [← hg2]; rfl
  have n2 : g2.next = h.next + 2 := by rw [e2, new_next, n1]
  have F2 : Frm g1 g2 (fun _ => False) := by rw [e2]; exact frm_new _ _ _
  generalize hol : mkLoop fx47.ord 47 13 (layT [(3, some (.ptr h.next 0))]) #[7] (subX fx47 [1, 1, 0, 1, 0, 0]) (subX fx47 [1, 1, 0, 1, 0, 1]) g1.next = ol at *
  generalize hg3 : (⟨g2.ng, g2.next + 1, g2.objs.put g2.next ol⟩ : HW) = g3 at *
  have e3 : g3 = g2.new ol := by rw [← hg3]; rfl
  have n3 : g3.next = h.next + 3 := by rw [e3, new_next, n2]
  have F3 : Frm g2 g3 (fun _ => False) := by rw [e3]; exact frm_new _ _ _
  have s23 : ∀ j, j < g2.next → SameOb g2 g3 j := fun j hj => F3.same j hj (fun e => e)
  have s12 : ∀ j, j < g1.next → SameOb g1 g2 j := fun j hj => F2.same j hj (fun e => e)
  have U : UsSt h g3 (h.next + 1) (h.next + 2) h.next [] :=
    ⟨(F1.trans F2).trans F3, ⟨⟨ol, by rw [e3, new_get, if_pos (by rw [n2])], by rw [← hol, n1]; rfl⟩, ⟨mkBlk, by
        have h1 : SameOb g2 g3 (h.next + 1) := s23 _ (by omega)
        exact h1.trans (by rw [e2, new_get, if_pos n1.symm]), rfl⟩⟩,
      ⟨.val (.slice none 0 0), by rw [(s23 _ (by omega)).cell, (s12 _ (by omega)).cell]; exact c1, ⟨Sl.nil _ _ _, fun j hj => by cases hj⟩, fun j hj => by cases hj⟩,
      wr_same (wr_same w1 (s12 _ (by omega))) (s23 _ (by omega)), by omega, by omega, by omega, by omega, by omega, by omega, by omega, by omega, by omega⟩
  obtain ⟨g4, c4, U4⟩ := E h g3 T n N wd b now us nd _ _ _ A U
  obtain ⟨o4, q1, q2⟩ := U4.L.ol
  obtain ⟨b4, q3, q4⟩ := U4.L.ob
  obtain ⟨x, x1, x2, x3⟩ := U4.v
  have q2 : o4.sp = .loop .ready .none fx47.ord 47 13 (layT [(3, some (.ptr h.next 0))]) #[7] (subX fx47 [1, 1, 0, 1, 0, 0]) (subX fx47 [1, 1, 0, 1, 0, 1]) (h.next + 1) := q2
  -- the end of the loop, and of the function
  generalize hg5 : g4.at (h.next + 2) (doneOb o4) = g5 at *
  have F5 : Frm g4 g5 (· = h.next + 2) := by rw [← hg5]; exact frm_at rfl U4.ll
  have b5 : g5.objs.get (h.next + 1) = some b4 := by rw [← hg5, at_get, if_neg (by omega)]; exact q3
  generalize hg6 : g5.at (h.next + 1) { b4 with ver := b4.ver + 1, sp := .blk true } = g6 at *
  have n5 : g5.next = g4.next := by rw [← hg5]; rfl
  have F6 : Frm g5 g6 (· = h.next + 1) := by rw [← hg6]; exact frm_at rfl (by rw [n5]; exact U4.lb)
  have s46 : ∀ j, j ≠ h.next + 1 → j ≠ h.next + 2 → SameOb g4 g6 j := fun j h1 h2 => by
    have a : SameOb g4 g5 j := by rw [← hg5]; exact at_other _ _ h2
    have b : SameOb g5 g6 j := by rw [← hg6]; exact at_other _ _ h1
    exact b.trans a
  have n6 : g6.next = g4.next := by rw [← hg6, ← hg5]; rfl
  refine ⟨x, g6, ?_, ⟨x2.sl.frame (Nat.le_of_eq n6.symm) fun k hk => s46 k (x3 k hk).1 (x3 k hk).2.1, x2.new⟩, ?_⟩
  · unfold fs47 q47_19 q47_18 q47_16
    simp only [ob_some, b2_some, al]
    have hr : ∀ kn kr ke, rangeT C fx47.ord 47 none 13 #[7] (subX fx47 [1, 1, 0, 1, 0, 0]) (subX fx47 [1, 1, 0, 1, 0, 1]) (.fn (.func 81) [.ptr T.kt 0] []) [] (layT [(3, some (.ptr h.next 0))]) g1 kn kr ke = kn [h.next + 1] g5 := fun kn kr ke => by
      show bcn (C (.ent 81) [.ptr T.kt 0, .yld (g1.next + 1)] ⟨g1.ng, g1.next + 2, (g1.objs.put g1.next mkBlk).put (g1.next + 1) (mkLoop fx47.ord 47 13 (layT [(3, some (.ptr h.next 0))]) #[7] (subX fx47 [1, 1, 0, 1, 0, 0]) (subX fx47 [1, 1, 0, 1, 0, 1]) g1.next)⟩) (fun _ h2 => endT (g1.next :: []) (g1.next + 1) h2 kn kr ke) = _
      have eg : (⟨g1.ng, g1.next + 2, (g1.objs.put g1.next mkBlk).put (g1.next + 1) (mkLoop fx47.ord 47 13 (layT [(3, some (.ptr h.next 0))]) #[7] (subX fx47 [1, 1, 0, 1, 0, 0]) (subX fx47 [1, 1, 0, 1, 0, 1]) g1.next)⟩ : HW) = g3 := by rw [← hg3, ← hg2, hol]
      rw [eg, n1, c4, bcn_ret]
      unfold endT
      simp only [q1, q2]
      show kn [h.next + 1] (g4.at (h.next + 2) (doneOb o4)) = _
      rw [hg5]
    rw [hr]
    unfold q47_3 fz47 markZ markZ ff47
    have hx5 : g5.cell h.next 0 = some x := by rw [← hg5, cell_at_other _ (by omega)]; exact x1
    simp only [ob_some, ld1_ptr, hx5, b5, q4]
    show noPan (some (.ret x, g5.at (h.next + 1) { b4 with ver := b4.ver + 1, sp := .blk true })) = _
    rw [hg6, noPan_ret]
  · refine ⟨F6.ng.trans (F5.ng.trans U4.F.ng), by rw [n6]; exact U4.F.next, fun j hj e => (s46 j (by omega) (by omega)).trans (U4.F.same j hj e), fun hf => F6.fr (F5.fr (U4.F.fr hf))⟩
end
end Go.Proofs.YtomialandfplkaaDoor.Eva
namespace Go.Proofs.YtomialandfplkaaDoor.Eva
open Go.Xe
set_option linter.unusedSimpArgs false
section
variable {lf : Nat} {h : HW} {T : TN} {n N : Nat} {wd b : Nat → Nat} {now : Int} {us : Nat → Bool} {nd : Nat → Nat → SV}
theorem wr_mt {h : HW} {k M : Nat} (w : h.wr k M) : ∃ m, h.mt k = some m := let ⟨m, a, _⟩ := w; ⟨m, a⟩
def NowOK (C : YC) : Prop := ∀ h T n N wd b now us nd, TableAt h T n N wd b now us nd → C (.fn 46) [.ptr T.kt 0] h = some (.ret (.int .i64 now), h)
theorem now_ok {C : YC} (ht : IsTOK C) (A : TableAt h T n N wd b now us nd) : fs46 C lf (.ptr T.kt 0) h = some (.ret (.int .i64 now), h) := by
  unfold fs46 q46_8 ff46
  simp only [ob_some, b2_some, bc_ret, bcn_ret, gd_tt, gd_ff, gd_tf, gd_ft, ypk_true, ypk_false, yIf_true, yIf_false, semNil_ptr, fa_ptr, ld1_ptr, ext_tup, fd1_agg, un_not, bin_add, bin_sub, bin_mul, bin_eql, bin_neq, bin_lss, bin_leq, bin_gtr, bin_geq, Nat.zero_add, Nat.mul_one, ht _ _ _ _ _ _ _ _ _ A, Bool.not_true, A.c2]
def TBlocksOK (C : YC) : Prop := ∀ h T n N wd b now us nd, TableAt h T n N wd b now us nd → ∃ x h', C (.fn 48) [.ptr T.kt 0] h = some (.ret x, h') ∧ IntsAt h h' x (usedL wd n) ∧ Frm h h' (fun _ => False)
theorem tblocks_ok {C : YC} (ht : IsTOK C) (hu : UsedOK C) (A : TableAt h T n N wd b now us nd) : ∃ x h', fs48 C lf (.ptr T.kt 0) h = some (.ret x, h') ∧ IntsAt h h' x (usedL wd n) ∧ Frm h h' (fun _ => False) := by
  obtain ⟨x, h', e, a, f⟩ := hu _ _ _ _ _ _ A.st
  refine ⟨x, h', ?_, a, f⟩
  unfold fs48 q48_9 ff48
  simp only [ob_some, b2_some, bc_ret, bcn_ret, gd_tt, gd_ff, gd_tf, gd_ft, ypk_true, ypk_false, yIf_true, yIf_false, semNil_ptr, fa_ptr, ld1_ptr, ext_tup, fd1_agg, un_not, bin_add, bin_sub, bin_mul, bin_eql, bin_neq, bin_lss, bin_leq, bin_gtr, bin_geq, Nat.zero_add, Nat.mul_one, ht _ _ _ _ _ _ _ _ _ A, Bool.not_true, A.c0, e]
def roomV (n l N u : Nat) : SV := .tup [.int .i64 (n : Int), .int .i64 (l : Int), .int .i64 (N : Int), .int .i64 (u : Int)]
def RoomTOK (C : YC) : Prop := ∀ h T n N wd b now us nd, TableAt h T n N wd b now us nd → ∃ h', C (.fn 39) [.ptr T.kt 0] h = some (.ret (roomV n (n - (usedL wd n).length) N (N - (usedN us N).length)), h') ∧ Frm h h' (fun _ => False)
theorem roomT_ok {C : YC} (ht : IsTOK C) (hto : TotalOK C) (hle : LeftOK C) (hu : UsedTOK C) (A : TableAt h T n N wd b now us nd) : ∃ h', fs39 C lf (.ptr T.kt 0) h = some (.ret (roomV n (n - (usedL wd n).length) N (N - (usedN us N).length)), h') ∧ Frm h h' (fun _ => False) := by
  obtain ⟨x, h', e, a, f⟩ := hu _ _ _ _ _ _ _ _ _ A
  have hN := A.N2
  have hln := usedN_le us N
  have hl : lenE Tryd.prog 100 (.sl T.kn 0 N (some N) 0) = some (.int .i64 (N : Int)) := by
    simp [lenE, Tryd.underlying100]
  have hlx := len_ints a
  have hs : IntKind.i64.wrap ((N : Int) - ((usedN us N).length : Int)) = ((N - (usedN us N).length : Nat) : Int) := by rw [wrap_i64 (by omega) (by omega)]; omega
  have e1 := hto _ _ _ _ _ _ A.st
  have e2 := hle _ _ _ _ _ _ A.st
  have hk : ∀ {h1 : HW} (recs : List (Nat × Option Nat)) (ls : List Nat) (r : Rs), (∀ p ∈ recs, ∀ k, p.2 = some k → k = T.kt) → SameOb h h1 T.kt → ck (chkH recs h h1 ls) r = r := fun recs ls r hp hs => ck_chk fun p hp' k e => by
    have := hp p hp' k e
    subst this
    exact ⟨A.lt, wr_mt A.wt, hs⟩
  refine ⟨h', ?_, f⟩
  unfold fs39 q39_31 ff39
  simp only [ob_some, b2_some, bc_ret, bcn_ret, gd_tt, gd_ff, gd_tf, gd_ft, ypk_true, ypk_false, yIf_true, yIf_false, semNil_ptr, fa_ptr, ld1_ptr, ext_tup, fd1_agg, un_not, bin_add, bin_sub, bin_mul, bin_eql, bin_neq, bin_lss, bin_leq, bin_gtr, bin_geq, Nat.zero_add, Nat.mul_one, ht _ _ _ _ _ _ _ _ _ A, Bool.not_true, A.c0, A.c1, hl, e1, e2]
  rw [hk _ _ _ (by intro p hp k e; simp [adrO, adr] at hp; rcases hp with rfl | rfl | rfl | rfl <;> simp at e <;> exact e.symm) rfl]
  rw [hk _ _ _ (by intro p hp k e; simp [adrO, adr] at hp; rcases hp with rfl | rfl | rfl | rfl <;> simp at e <;> exact e.symm) rfl]
  simp only [ob_some, b2_some, bc_ret, bcn_ret, gd_tt, gd_ff, gd_tf, gd_ft, ypk_true, ypk_false, yIf_true, yIf_false, semNil_ptr, fa_ptr, ld1_ptr, ext_tup, fd1_agg, un_not, bin_add, bin_sub, bin_mul, bin_eql, bin_neq, bin_lss, bin_leq, bin_gtr, bin_geq, Nat.zero_add, Nat.mul_one, e]
  rw [hk _ _ _ (by intro p hp k e; simp [adrO, adr] at hp; rcases hp with rfl | rfl | rfl | rfl <;> simp at e <;> exact e.symm) (f.same _ A.lt (fun e => e))]
  simp only [ob_some, b2_some, bc_ret, bcn_ret, gd_tt, gd_ff, gd_tf, gd_ft, ypk_true, ypk_false, yIf_true, yIf_false, semNil_ptr, fa_ptr, ld1_ptr, ext_tup, fd1_agg, un_not, bin_add, bin_sub, bin_mul, bin_eql, bin_neq, bin_lss, bin_leq, bin_gtr, bin_geq, Nat.zero_add, Nat.mul_one, hlx, hs]
  rfl
end
structure RN where
  rt : Nat
  ro : Nat
  rb : Nat
  rl : Nat
structure RTabAt (h : HW) (R : RN) (n N : Nat) (on : Nat → Bool) (q : Nat → Option Nat) (b : Nat → Nat) (now : Int) (us : Nat → Bool) (rd : Nat → Nat → SV) : Prop where
  N1 : 1 ≤ N
  N2 : N ≤ 4096
  ref : RefAt h R.rt R.ro R.rb n on q b
  c2 : h.cell R.rt 2 = some (.int .i64 (N : Int))
  c3 : h.cell R.rt 3 = some (.int .i64 now)
  c4 : ∃ cap lo, h.cell R.rt 4 = some (.sl R.rl 0 (N + 1) cap lo)
  wt : h.wr R.rt 5
  wl : h.wr R.rl ((N + 1) * 308)
  cl : ∀ i c, i < N + 1 → c < 308 → h.cell R.rl (i * 308 + c) = some (rd i c)
  u0 : ∀ i, i < N → rd (i + 1) 0 = .bool (us i)
  d1 : R.rl ≠ R.rt
  d2 : R.rl ≠ R.ro
  d3 : R.rl ≠ R.rb
  d4 : ∀ i k, i < n → q i = some k → k ≠ R.rl
  ll : R.rl < h.next
def rowsT (R : RN) (n : Nat) (q : Nat → Option Nat) (j : Nat) : Prop := j = R.rl ∨ rowsR R.rt R.ro R.rb n q j
section
variable {lf : Nat} {h : HW} {R : RN} {n N : Nat} {on : Nat → Bool} {q : Nat → Option Nat} {b : Nat → Nat} {now : Int} {us : Nat → Bool} {rd : Nat → Nat → SV}
theorem RTabAt.row_lt (A : RTabAt h R n N on q b now us rd) {j : Nat} (hj : rowsT R n q j) : j < h.next := by
  rcases hj with rfl | hj
  · exact A.ll
  · exact A.ref.row_lt hj
theorem RTabAt.frm (A : RTabAt h R n N on q b now us rd) {h' : HW} {S : Nat → Prop} (F : Frm h h' S) (hs : ∀ j, rowsT R n q j → ¬ S j) : RTabAt h' R n N on q b now us rd := by
  have st : SameOb h h' R.rt := F.same _ A.ref.lt (hs _ (.inr (.inl rfl)))
  have sl : SameOb h h' R.rl := F.same _ A.ll (hs _ (.inl rfl))
  exact ⟨A.N1, A.N2, A.ref.frm F fun j hj => hs j (.inr hj), by rw [st.cell]; exact A.c2, by rw [st.cell]; exact A.c3, let ⟨cap, lo, e⟩ := A.c4; ⟨cap, lo, by rw [st.cell]; exact e⟩, wr_same A.wt st, wr_same A.wl sl, fun i c hi hc => by rw [sl.cell]; exact A.cl i c hi hc, A.u0, A.d1, A.d2, A.d3, A.d4, Nat.lt_of_lt_of_le A.ll F.next⟩
def RNewTOK (C : YC) : Prop := ∀ h (n m : Int), Fresh h → -9223372036854775808 ≤ n → n < 9223372036854775808 → -9223372036854775808 ≤ m → m < 9223372036854775808 →
  ((n < 1 ∨ 4096 < n ∨ m < 1 ∨ 4096 < m) → C (.fn 44) [.int .i64 n, .int .i64 m] h = some (.ret (.tup [.val (.pointer none), .int .i64 22]), h)) ∧
  (1 ≤ n → n ≤ 4096 → 1 ≤ m → m ≤ 4096 → ∃ h' R, C (.fn 44) [.int .i64 n, .int .i64 m] h = some (.ret (.tup [.ptr R.rt 0, .int .i64 0]), h') ∧
    RTabAt h' R n.toNat m.toNat (fun _ => false) (fun _ => none) (fun _ => 0) 0 (fun _ => false) (fun _ => zeroN) ∧ (∀ j, rowsT R n.toNat (fun _ => none) j → h.next ≤ j) ∧ Frm h h' (fun _ => False))
theorem rnewT_ok {C : YC} (Nw : RNewOK C) {n m : Int} (hf : Fresh h) :
    ((n < 1 ∨ 4096 < n ∨ m < 1 ∨ 4096 < m) → fs44 C lf (.int .i64 n) (.int .i64 m) h = some (.ret (.tup [.val (.pointer none), .int .i64 22]), h)) ∧
    (1 ≤ n → n ≤ 4096 → 1 ≤ m → m ≤ 4096 → ∃ h' R, fs44 C lf (.int .i64 n) (.int .i64 m) h = some (.ret (.tup [.ptr R.rt 0, .int .i64 0]), h') ∧
      RTabAt h' R n.toNat m.toNat (fun _ => false) (fun _ => none) (fun _ => 0) 0 (fun _ => false) (fun _ => zeroN) ∧ (∀ j, rowsT R n.toNat (fun _ => none) j → h.next ≤ j) ∧ Frm h h' (fun _ => False)) := by
  unfold fs44 q44_28 ff44
  refine ⟨fun hb => ?_, fun h1 h2 h3 h4 => ?_⟩
  · by_cases b1 : n < 1
    · simp only [ob_some, b2_some, bc_ret, bcn_ret, gd_tt, gd_ff, gd_tf, gd_ft, ypk_true, ypk_false, yIf_true, yIf_false, semNil_ptr, fa_ptr, ld1_ptr, ext_tup, fd1_agg, un_not, bin_add, bin_sub, bin_mul, bin_eql, bin_neq, bin_lss, bin_leq, bin_gtr, bin_geq, Nat.zero_add, Nat.mul_one, decide_eq_true b1]
    · by_cases b2 : 4096 < n
      · simp only [ob_some, b2_some, bc_ret, bcn_ret, gd_tt, gd_ff, gd_tf, gd_ft, ypk_true, ypk_false, yIf_true, yIf_false, semNil_ptr, fa_ptr, ld1_ptr, ext_tup, fd1_agg, un_not, bin_add, bin_sub, bin_mul, bin_eql, bin_neq, bin_lss, bin_leq, bin_gtr, bin_geq, Nat.zero_add, Nat.mul_one, decide_eq_false b1, decide_eq_true b2]
      · by_cases b3 : m < 1
        · simp only [ob_some, b2_some, bc_ret, bcn_ret, gd_tt, gd_ff, gd_tf, gd_ft, ypk_true, ypk_false, yIf_true, yIf_false, semNil_ptr, fa_ptr, ld1_ptr, ext_tup, fd1_agg, un_not, bin_add, bin_sub, bin_mul, bin_eql, bin_neq, bin_lss, bin_leq, bin_gtr, bin_geq, Nat.zero_add, Nat.mul_one, decide_eq_false b1, decide_eq_false b2, decide_eq_true b3]
        · have b4 : 4096 < m := by omega
          simp only [ob_some, b2_some, bc_ret, bcn_ret, gd_tt, gd_ff, gd_tf, gd_ft, ypk_true, ypk_false, yIf_true, yIf_false, semNil_ptr, fa_ptr, ld1_ptr, ext_tup, fd1_agg, un_not, bin_add, bin_sub, bin_mul, bin_eql, bin_neq, bin_lss, bin_leq, bin_gtr, bin_geq, Nat.zero_add, Nat.mul_one, decide_eq_false b1, decide_eq_false b2, decide_eq_false b3, decide_eq_true b4]
  · have b1 : ¬ n < 1 := by omega
    have b2 : ¬ 4096 < n := by omega
    have b3 : ¬ m < 1 := by omega
    have b4 : ¬ 4096 < m := by omega
    obtain ⟨M, rfl⟩ : ∃ M : Nat, m = M := ⟨m.toNat, by omega⟩
    obtain ⟨n, rfl⟩ : ∃ M : Nat, n = M := ⟨n.toNat, by omega⟩
    simp only [ob_some, b2_some, bc_ret, bcn_ret, gd_tt, gd_ff, gd_tf, gd_ft, ypk_true, ypk_false, yIf_true, yIf_false, semNil_ptr, fa_ptr, ld1_ptr, ext_tup, fd1_agg, un_not, bin_add, bin_sub, bin_mul, bin_eql, bin_neq, bin_lss, bin_leq, bin_gtr, bin_geq, Nat.zero_add, Nat.mul_one, decide_eq_false b1, decide_eq_false b2, decide_eq_false b3, decide_eq_false b4, nwB_eq hf]
    have hadd : IntKind.i64.wrap ((M : Int) + 1) = ((M + 1 : Nat) : Int) := by rw [wrap_i64 (by omega) (by omega)]; omega
    generalize hg0 : (⟨h.ng, h.next + 10, h.objs⟩ : HW) = g0 at *
    have n0 : g0.next = h.next + 10 := by rw [← hg0]
    have F0 : Frm h g0 (fun _ => False) := by rw [← hg0]; exact ⟨rfl, Nat.le_add_right _ _, fun _ _ _ => rfl, fun hf j hj => hf j (by have : h.next + 10 ≤ j := hj; omega)⟩
    have hdead : ∀ j, h.next ≤ j → g0.objs.get j = none := fun j hj => by rw [← hg0]; exact hf j hj
    obtain ⟨g1, y0, y1, ro, rb, e1, V, F1, l1, l2⟩ := Nw g0 n (by omega) (by omega) (F0.fr hf)
    have n1 := F1.next
    have nq : ∀ (P : Prop) (i k : Nat), (fun _ : Nat => (none : Option Nat)) i = some k → P := fun P i k e => by cases e
    have vr : ∀ j, rowsV ro rb n (fun _ => none) j → h.next + 10 ≤ j := fun j hj => by
      rcases hj with rfl | rfl | ⟨i, _, e⟩
      · omega
      · omega
      · cases e
    have lto := V.lto
    have ltb := V.ltb
    have hz : (mkV (.agg ⟨zeroV⟩)).cells = rowN zeroN := by kernel_rfl
    have hlen : (rowN zeroN).length = 308 := by rw [rowN, List.length_map, List.length_range]
    have hmk := ynf_ymk (P := Tryd.prog) (t := 134) (s := 308) (b := 2464) (z := .agg ⟨zeroV⟩) (k1 := .i64) (k2 := .i64) (l := M + 1) (c := M + 1) (base := h.next) (i := 5) (h := g1)
      Tryd.underlying134 (by kernel_rfl) (by kernel_rfl) (by kernel_rfl) (Nat.le_refl _) (by omega) (by omega) (by rw [hz, hlen]) (by omega)
    rw [hz] at hmk
    obtain ⟨cap0, lo0, rfl⟩ := V.e0
    obtain ⟨cap1, lo1, rfl⟩ := V.e1
    have hbd : semBuild Tryd.prog 136 [0, 1, 3] [.agg [.sl ro 0 n cap0 lo0, .sl rb 0 n cap1 lo1], .int .i64 (M : Int), .sl (h.next + 5) 0 (M + 1) (some (M + 1)) 0] =
      some (.agg [.sl ro 0 n cap0 lo0, .sl rb 0 n cap1 lo1, .int .i64 (M : Int), .int .i64 0, .sl (h.next + 5) 0 (M + 1) (some (M + 1)) 0]) := by kernel_rfl
    have hlow : lowV h.next (.int .i64 ((M + 1 : Nat) : Int)) = true := rfl
    generalize hop : patOb _ ((M + 1) * 308) (rowN zeroN) = op at hmk
    have op1 : op.n = (M + 1) * 308 := by rw [← hop]; rfl
    have op2 : op.ro = false := by rw [← hop]; rfl
    generalize hg2 : g1.at (h.next + 5) op = g2 at *
    have n2 : g2.next = g1.next := by rw [← hg2]; rfl
    have s12 : ∀ j, j ≠ h.next + 5 → SameOb g1 g2 j := fun j hj => by rw [← hg2]; exact at_other _ _ hj
    have w2 : g2.wr (h.next + 5) ((M + 1) * 308) := by rw [← hg2, ← op1]; exact wr_at op2
    have hbx := ybx_eq (e := 136) (x := .agg [.sl ro 0 n cap0 lo0, .sl rb 0 n cap1 lo1, .int .i64 (M : Int), .int .i64 0, .sl (h.next + 5) 0 (M + 1) (some (M + 1)) 0]) (h := g2) rfl
    have hcells : (SV.agg [.sl ro 0 n cap0 lo0, .sl rb 0 n cap1 lo1, .int .i64 (M : Int), .int .i64 0, .sl (h.next + 5) 0 (M + 1) (some (M + 1)) 0]).cells = [.sl ro 0 n cap0 lo0, .sl rb 0 n cap1 lo1, .int .i64 (M : Int), .int .i64 0, .sl (h.next + 5) 0 (M + 1) (some (M + 1)) 0] := rfl
    rw [hcells] at hbx
    generalize hor : rowOb _ [.sl ro 0 n cap0 lo0, .sl rb 0 n cap1 lo1, .int .i64 (M : Int), .int .i64 0, .sl (h.next + 5) 0 (M + 1) (some (M + 1)) 0] = or at hbx
    have or1 : or.n = 5 := by rw [← hor]; rfl
    have or2 : or.ro = false := by rw [← hor]; rfl
    have or3 : ∀ i, or.get i = ([.sl ro 0 n cap0 lo0, .sl rb 0 n cap1 lo1, .int .i64 (M : Int), .int .i64 0, .sl (h.next + 5) 0 (M + 1) (some (M + 1)) 0] : List SV)[i]? := fun i => by rw [← hor, rowOb_get]
    generalize hg3 : g2.new or = g3 at *
    have n3 : g3.next = g2.next + 1 := by rw [← hg3, new_next]
    have s23 : ∀ j, j ≠ g2.next → SameOb g2 g3 j := fun j hj => by rw [← hg3]; exact new_other _ _ hj
    have w3 : g3.wr g2.next 5 := by
      have := wr_new (h := g2) (o := or) or2
      rw [or1, hg3] at this
      exact this
    have c3 : ∀ i, g3.cell g2.next i = ([.sl ro 0 n cap0 lo0, .sl rb 0 n cap1 lo1, .int .i64 (M : Int), .int .i64 0, .sl (h.next + 5) 0 (M + 1) (some (M + 1)) 0] : List SV)[i]? := fun i => by rw [← hg3, cell_new_same, or3]
    have V3 : RefV g3 (.sl ro 0 n cap0 lo0) (.sl rb 0 n cap1 lo1) ro rb n (fun _ => false) (fun _ => none) (fun _ => 0) := V.frame (by omega) fun j hj => (s23 j (by have := V.row_lt hj; omega)).trans (s12 j (by have := vr j hj; omega))
    have w2' : g3.wr (h.next + 5) ((M + 1) * 308) := wr_same w2 (s23 _ (by omega))
    refine ⟨g3, ⟨g2.next, ro, rb, h.next + 5⟩, ?_, ?_, fun j hj => ?_, ?_⟩
    · simp only [hadd, e1, hlow, Bool.and_self, ck_true, hmk, ob_some, b2_some, bc_ret, bcn_ret, gd_tt, gd_ff, gd_tf, gd_ft, ypk_true, ypk_false, yIf_true, yIf_false, semNil_ptr, fa_ptr, ld1_ptr, ext_tup, fd1_agg, un_not, bin_add, bin_sub, bin_mul, bin_eql, bin_neq, bin_lss, bin_leq, bin_gtr, bin_geq, Nat.zero_add, Nat.mul_one, hbd, hbx]
    · simp only [Int.toNat_natCast]
      refine ⟨by omega, by omega, ⟨⟨_, _, by rw [c3]; rfl, by rw [c3]; rfl, V3⟩, ⟨5, by omega, w3⟩, by show g2.next ≠ ro; omega, by show g2.next ≠ rb; omega, fun i k _ e => nq _ i k e, by show g2.next < _; omega⟩, by rw [c3]; rfl, by rw [c3]; rfl, ⟨_, _, by rw [c3]; rfl⟩, w3, w2', fun i c hi hc => ?_, fun i _ => rfl, by show h.next + 5 ≠ g2.next; omega, by show h.next + 5 ≠ ro; omega, by show h.next + 5 ≠ rb; omega, fun i k _ e => nq _ i k e, by show h.next + 5 < _; omega⟩
      have hlt : i * 308 + c < (M + 1) * 308 := by omega
      have hmod : (i * 308 + c) % 308 = c := by omega
      show g3.cell (h.next + 5) _ = _
      rw [(s23 _ (by omega)).cell, ← hg2, cell_at_same, ← hop, patOb_get _ _ hlt, hlen, hmod, rowN, List.getElem?_map, List.getElem?_range hc]; rfl
    · rcases hj with rfl | rfl | hj
      · show h.next ≤ h.next + 5; omega
      · show h.next ≤ g2.next; omega
      · have := vr j (by simpa only [Int.toNat_natCast] using hj); omega
    · refine ⟨?_, by omega, fun j hj _ => ?_, fun hf => ?_⟩
      · rw [← hg3, ← hg2]; exact F1.ng.trans F0.ng
      · exact (s23 j (by omega)).trans ((s12 j (by omega)).trans ((F1.same j (by omega) (fun e => e)).trans (F0.same j hj (fun e => e))))
      · have h1 := F1.fr (F0.fr hf)
        rw [← hg3]
        refine fresh_new (fun j hj => ?_) _
        rw [← hg2, at_get, if_neg (by omega)]
        exact h1 j (by omega)
end
end Go.Proofs.YtomialandfplkaaDoor.Eva
namespace Go.Proofs.YtomialandfplkaaDoor.Eva
open Go.Xe
set_option linter.unusedSimpArgs false
section
variable {lf : Nat} {h : HW} {R : RN} {n N : Nat} {on : Nat → Bool} {q : Nat → Option Nat} {b : Nat → Nat} {now : Int} {us : Nat → Bool} {rd : Nat → Nat → SV}
def RUsedTOK (C : YC) : Prop := ∀ h R n N on q b now us rd, RTabAt h R n N on q b now us rd → ∃ x h', C (.fn 84) [.ptr R.rt 0] h = some (.ret x, h') ∧ IntsAt h h' x (usedN us N) ∧ Frm h h' (fun _ => False)
theorem rusedT_loop {C : YC} {lf : Nat} {h0 : HW} (A : RTabAt h0 R n N on q b now us rd) (e0 : K1) : ∀ (d i : Nat), i + d = N → ∀ f, d < f → ∀ h x, IntsAt h0 h x (usedN us i) → Frm h0 h (fun _ => False) →
    ∃ x' h', lp (l84_3 C lf e0) f (some (.ptr R.rt 0), some x, some (.int .i64 ((i + 1 : Nat) : Int))) h = e0 (some x') h' ∧ IntsAt h0 h' x' (usedN us N) ∧ Frm h0 h' (fun _ => False)
  | 0, i, hw, f, hf, h, x, I, F => by
    obtain ⟨f, rfl⟩ : ∃ g, f = g + 1 := ⟨f - 1, by omega⟩
    have : i = N := by omega
    subst this
    have Ah := A.frm F fun _ _ e => e
    refine ⟨x, h, ?_, I, F⟩
    rw [lp_succ]
    unfold l84_3 q84_26
    have hlt : decide (((i + 1 : Nat) : Int) ≤ (i : Int)) = false := decide_eq_false (by omega)
    simp only [ob_some, b2_some, bc_ret, bcn_ret, gd_tt, gd_ff, gd_tf, gd_ft, ypk_true, ypk_false, yIf_true, yIf_false, semNil_ptr, fa_ptr, ld1_ptr, ext_tup, fd1_agg, un_not, bin_add, bin_sub, bin_mul, bin_eql, bin_neq, bin_lss, bin_leq, bin_gtr, bin_geq, Nat.zero_add, Nat.mul_one, Ah.c2, hlt]
  | d + 1, i, hw, f, hf, h, x, I, F => by
    obtain ⟨f, rfl⟩ : ∃ g, f = g + 1 := ⟨f - 1, by omega⟩
    have Ah := A.frm F fun _ _ e => e
    have h2 := A.N2
    obtain ⟨cap, lo, c4⟩ := Ah.c4
    have hlt : decide (((i + 1 : Nat) : Int) ≤ (N : Int)) = true := decide_eq_true (by omega)
    have hinc : IntKind.i64.wrap (((i + 1 : Nat) : Int) + 1) = ((i + 1 + 1 : Nat) : Int) := by rw [wrap_i64 (by omega) (by omega)]; omega
    have hix := ixS_sl (s := 308) (k := R.rl) (off := 0) (len := N + 1) (lo := lo) (cap := cap) (kd := .i64) (i := ((i + 1 : Nat) : Int)) (by omega) (by omega)
    rw [Int.toNat_natCast, Nat.zero_add] at hix
    have hc := Ah.cl (i + 1) 0 (by omega) (by omega)
    rw [Nat.add_zero, Ah.u0 i (by omega)] at hc
    rw [lp_succ]
    show ∃ x' h', q84_26 C lf (fun x0 x3 x4 h => lp (l84_3 C lf e0) f (x0, x3, x4) h) e0 (some (.ptr R.rt 0)) (some x) (some (.int .i64 ((i + 1 : Nat) : Int))) h = e0 (some x') h' ∧ _
    unfold q84_26
    cases ho : us i with
    | false =>
      rw [ho] at hc
      simp only [ob_some, b2_some, bc_ret, bcn_ret, gd_tt, gd_ff, gd_tf, gd_ft, ypk_true, ypk_false, yIf_true, yIf_false, semNil_ptr, fa_ptr, ld1_ptr, ext_tup, fd1_agg, un_not, bin_add, bin_sub, bin_mul, bin_eql, bin_neq, bin_lss, bin_leq, bin_gtr, bin_geq, Nat.zero_add, Nat.mul_one, Ah.c2, hlt, c4, hix, Nat.add_zero, hc, hinc]
      have e : usedN us (i + 1) = usedN us i := by rw [usedN_succ, ho]; simp
      exact rusedT_loop A e0 d (i + 1) (by omega) f (by omega) h x (by rw [e]; exact I) F
    | true =>
      rw [ho] at hc
      have e : usedN us (i + 1) = usedN us i ++ [i + 1] := by rw [usedN_succ, ho]; rfl
      have hl := usedN_le us i
      obtain ⟨x', h', a1, a2, a3, a4, a5, a6, a7, a8⟩ := app_one (y := .int .i64 ((i + 1 : Nat) : Int)) appT_int rfl rfl rfl I.sl (by omega) (by omega)
      simp only [ob_some, b2_some, bc_ret, bcn_ret, gd_tt, gd_ff, gd_tf, gd_ft, ypk_true, ypk_false, yIf_true, yIf_false, semNil_ptr, fa_ptr, ld1_ptr, ext_tup, fd1_agg, un_not, bin_add, bin_sub, bin_mul, bin_eql, bin_neq, bin_lss, bin_leq, bin_gtr, bin_geq, Nat.zero_add, Nat.mul_one, Ah.c2, hlt, c4, hix, Nat.add_zero, hc, hinc, a1, a2]
      refine rusedT_loop A e0 d (i + 1) (by omega) f (by omega) h' x' ⟨?_, fun j hj => ?_⟩ ⟨a5.trans F.ng, Nat.le_trans F.next a4, fun j hj _ => (a6 j (Nat.lt_of_lt_of_le hj F.next) (fun hr => absurd (I.new j hr) (by omega))).trans (F.same j hj (fun e => e)), fun hf => a8 (F.fr hf)⟩
      · rw [e]
        have : ints (usedN us i ++ [i + 1]) = ints (usedN us i) ++ [.int .i64 ((i + 1 : Nat) : Int)] := by simp [ints]
        rw [this, List.length_append]; exact a3
      · rcases a7 j hj with hr | hr
        · exact I.new j hr
        · exact Nat.le_trans F.next hr
theorem rusedT_ok {C : YC} (hlf : 4098 ≤ lf) (A : RTabAt h R n N on q b now us rd) : ∃ x h', fs84 C lf (.ptr R.rt 0) h = some (.ret x, h') ∧ IntsAt h h' x (usedN us N) ∧ Frm h h' (fun _ => False) := by
  have h2 := A.N2
  obtain ⟨x', h', l1, l2, l3⟩ := rusedT_loop (lf := lf) (C := C) A (fun x3 h => q84_2 C lf ff84 x3 h) N 0 (by omega) lf (by omega) h (.val (.slice none 0 0)) ⟨Sl.nil _ _ _, fun j hj => by cases hj⟩ (Frm.refl h _)
  refine ⟨x', h', ?_, l2, l3⟩
  unfold fs84 q84_33 q84_32 q84_31 q84_30 q84_29 q84_28 q84_27
  refine Eq.trans l1 ?_
  unfold q84_2 ff84
  simp only [ob_some]
def RRoomOK (C : YC) : Prop := ∀ h R n N on q b now us rd, RTabAt h R n N on q b now us rd → ∃ h', C (.fn 80) [.ptr R.rt 0] h = some (.ret (roomV n (n - (usedR on n).length) N (N - (usedN us N).length)), h') ∧ Frm h h' (fun _ => False)
theorem rroom_ok {C : YC} (hle : RLeftOK C) (hu : RUsedTOK C) (A : RTabAt h R n N on q b now us rd) : ∃ h', fs80 C lf (.ptr R.rt 0) h = some (.ret (roomV n (n - (usedR on n).length) N (N - (usedN us N).length)), h') ∧ Frm h h' (fun _ => False) := by
  obtain ⟨x, h', e, a, f⟩ := hu _ _ _ _ _ _ _ _ _ _ A
  have hN := A.N2
  have hln := usedN_le us N
  obtain ⟨x0, x1, c0, c1, V⟩ := A.ref.v
  obtain ⟨cap, lo, rfl⟩ := V.e0
  have hl := lenE_sl (k := R.ro) (off := 0) (len := n) (cap := cap) (lo := lo) Tryd.underlying41
  have hlx := len_ints a
  have hs : IntKind.i64.wrap ((N : Int) - ((usedN us N).length : Int)) = ((N - (usedN us N).length : Nat) : Int) := by rw [wrap_i64 (by omega) (by omega)]; omega
  have e2 := hle _ _ _ _ _ _ _ _ A.ref
  have hk : ∀ {h1 : HW} (recs : List (Nat × Option Nat)) (ls : List Nat) (r : Rs), (∀ p ∈ recs, ∀ k, p.2 = some k → k = R.rt) → SameOb h h1 R.rt → ck (chkH recs h h1 ls) r = r := fun recs ls r hp hs => ck_chk fun p hp' k e => by
    have := hp p hp' k e
    subst this
    exact ⟨A.ref.lt, wr_mt A.wt, hs⟩
  refine ⟨h', ?_, f⟩
  unfold fs80 q80_26 ff80
  simp only [ob_some, b2_some, bc_ret, bcn_ret, gd_tt, gd_ff, gd_tf, gd_ft, ypk_true, ypk_false, yIf_true, yIf_false, semNil_ptr, fa_ptr, ld1_ptr, ext_tup, fd1_agg, un_not, bin_add, bin_sub, bin_mul, bin_eql, bin_neq, bin_lss, bin_leq, bin_gtr, bin_geq, Nat.zero_add, Nat.mul_one, c0, hl, A.c2, e2]
  rw [hk _ _ _ (by intro p hp k e; simp [adrO, adr] at hp; rcases hp with rfl | rfl | rfl <;> simp at e <;> exact e.symm) rfl]
  simp only [ob_some, b2_some, bc_ret, bcn_ret, gd_tt, gd_ff, gd_tf, gd_ft, ypk_true, ypk_false, yIf_true, yIf_false, semNil_ptr, fa_ptr, ld1_ptr, ext_tup, fd1_agg, un_not, bin_add, bin_sub, bin_mul, bin_eql, bin_neq, bin_lss, bin_leq, bin_gtr, bin_geq, Nat.zero_add, Nat.mul_one, e]
  rw [hk _ _ _ (by intro p hp k e; simp [adrO, adr] at hp; rcases hp with rfl | rfl | rfl <;> simp at e <;> exact e.symm) (f.same _ A.ref.lt (fun e => e))]
  simp only [ob_some, b2_some, bc_ret, bcn_ret, gd_tt, gd_ff, gd_tf, gd_ft, ypk_true, ypk_false, yIf_true, yIf_false, semNil_ptr, fa_ptr, ld1_ptr, ext_tup, fd1_agg, un_not, bin_add, bin_sub, bin_mul, bin_eql, bin_neq, bin_lss, bin_leq, bin_gtr, bin_geq, Nat.zero_add, Nat.mul_one, hlx, hs]
  rfl
def NumOK (C : YC) : Prop := ∀ h (e : Int), C (.fn 34) [.int .i64 e] h = some (.ret (.int .i64 e), h)
theorem num_ok {C : YC} {e : Int} : fs34 C lf (.int .i64 e) h = some (.ret (.int .i64 e), h) := by
  unfold fs34 q34_2 ff34
  simp only [ob_some, b2_some, bc_ret, bcn_ret, gd_tt, gd_ff, gd_tf, gd_ft, ypk_true, ypk_false, yIf_true, yIf_false, semNil_ptr, fa_ptr, ld1_ptr, ext_tup, fd1_agg, un_not, bin_add, bin_sub, bin_mul, bin_eql, bin_neq, bin_lss, bin_leq, bin_gtr, bin_geq, Nat.zero_add, Nat.mul_one]
theorem roomV_ext (n l N u : Nat) : ext 0 (roomV n l N u) = some (.int .i64 (n : Int)) ∧ ext 1 (roomV n l N u) = some (.int .i64 (l : Int)) ∧ ext 2 (roomV n l N u) = some (.int .i64 (N : Int)) ∧ ext 3 (roomV n l N u) = some (.int .i64 (u : Int)) := ⟨rfl, rfl, rfl, rfl⟩
def RoomsOK (C : YC) : Prop := ∀ h T R n N wd b b' q now us nd now' us' rd, TableAt h T n N wd b now us nd → RTabAt h R n N (onB wd) q b' now' us' rd → (usedN us N).length = (usedN us' N).length →
  ∃ h', C (.fn 45) [.ptr T.kt 0, .ptr R.rt 0] h = some (.ret (.bool true), h') ∧ Frm h h' (fun _ => False)
theorem rooms_ok {C : YC} {T : TN} {wd b' : Nat → Nat} {now' : Int} {us' : Nat → Bool} {nd : Nat → Nat → SV} (hr : RoomTOK C) (hrr : RRoomOK C) (A : TableAt h T n N wd b now us nd) (B : RTabAt h R n N (onB wd) q b' now' us' rd) (hl : (usedN us N).length = (usedN us' N).length) :
    ∃ h', fs45 C lf (.ptr T.kt 0) (.ptr R.rt 0) h = some (.ret (.bool true), h') ∧ Frm h h' (fun _ => False) := by
  obtain ⟨h1, e1, F1⟩ := hr _ _ _ _ _ _ _ _ _ A
  obtain ⟨h2, e2, F2⟩ := hrr _ _ _ _ _ _ _ _ _ _ (B.frm F1 fun _ _ e => e)
  obtain ⟨p0, p1, p2, p3⟩ := roomV_ext n (n - (usedL wd n).length) N (N - (usedN us N).length)
  obtain ⟨r0, r1, r2, r3⟩ := roomV_ext n (n - (usedR (onB wd) n).length) N (N - (usedN us N).length)
  have d1 : (((n - (usedR (onB wd) n).length : Nat) : Int)) = ((n - (usedL wd n).length : Nat) : Int) := rfl
  rw [d1] at r1
  refine ⟨h2, ?_, F1.trans F2⟩
  unfold fs45 q45_29 ff45
  rw [← hl] at e2
  simp only [ob_some, bc_ret, e1, e2, p0, p1, p2, p3, r0, r1, r2, r3, bin_eql, decide_true, gd_tt, ypk_true]
end
end Go.Proofs.YtomialandfplkaaDoor.Eva
namespace Go.Proofs.YtomialandfplkaaDoor.Eva
open Go.Xe
set_option linter.unusedSimpArgs false
section
theorem eql_ptr_nil {P : Program} {t e : TypeId} {k off : Nat} (hu : P.underlying t = some (.pointer e)) : bin P .eql t (.ptr k off) (.val (.pointer none)) = some (.bool false) := bin_eql_ptr hu
theorem eql_nil_nil {P : Program} {t e : TypeId} (hu : P.underlying t = some (.pointer e)) : bin P .eql t (.val (.pointer none)) (.val (.pointer none)) = some (.bool true) := by
  rw [bin_eq]; show eqOp P .eql t _ _ = _; simp [eqOp, eqTop, eqE, hu]
theorem neq_bools {P : Program} {t : TypeId} (hu : P.underlying t = some .bool) (a b : Bool) : bin P .neq t (.bool a) (.bool b) = some (.bool (a != b)) := by
  rw [bin_eq]; show eqOp P .neq t _ _ = _; simp [eqOp, eqTop, eqE, hu]; cases a <;> cases b <;> rfl
variable {lf : Nat} {C : YC}
theorem inodeNew_main {h0 : HW} (hf0 : Fresh h0) (Nw : NewTOK C) (Rn : RNewTOK C) (Nm : NumOK C) (Rm : RoomsOK C) (No : NowOK C) (Us : UsedTOK C) (Bl : TBlocksOK C) (hLv : ∀ h, Frm h0 h (fun _ => False) → C (.fn 35) [] h = some (.ret (.bool true), h))
    {n m : Int} (n1 : -9223372036854775808 ≤ n) (n2 : n < 9223372036854775808) (m1 : -9223372036854775808 ≤ m) (m2 : m < 9223372036854775808) :
    ∃ h', fs10 C lf (.int .i64 n) (.int .i64 m) h0 = some (.ret (.bool true), h') := by
  obtain ⟨a1, a2⟩ := Nw h0 n m n1 n2 m1 m2
  have Nm' : ∀ h (e : Int), C (.fn 34) [.int .i64 e] h = some (.ret (.int .i64 e), h) := Nm
  have hnn := eql_nil_nil Tryd.underlying64
  have hbb := neq_bools Tryd.underlying4
  have d22 : decide ((22 : Int) = 22) = true := rfl
  have d22n : decide ((22 : Int) ≠ 22) = false := rfl
  have d220 : decide ((22 : Int) ≠ 0) = true := rfl
  have d00n : decide ((0 : Int) ≠ 0) = false := rfl
  have d00 : decide ((0 : Int) = 0) = true := rfl
  unfold fs10 q10_72 ff10
  by_cases hbig : 1048576 < n ∨ 1048576 < m
  · obtain ⟨h1, e1, F1⟩ := a1 (by omega)
    refine ⟨h1, ?_⟩
    by_cases b1 : 1048576 < n
    · simp only [ob_some, b2_some, bc_ret, bcn_ret, gd_tt, gd_ff, gd_tf, gd_ft, ypk_true, ypk_false, yIf_true, yIf_false, semNil_ptr, fa_ptr, ld1_ptr, ext_tup, fd1_agg, un_not, bin_add, bin_sub, bin_mul, bin_eql, bin_neq, bin_lss, bin_leq, bin_gtr, bin_geq, Nat.zero_add, Nat.mul_one, decide_eq_true b1, e1, List.getElem?_cons_zero, List.getElem?_cons_succ, hnn, Nm', d22, decide_true, hLv h1 F1]
    · have b2 : 1048576 < m := by omega
      simp only [ob_some, b2_some, bc_ret, bcn_ret, gd_tt, gd_ff, gd_tf, gd_ft, ypk_true, ypk_false, yIf_true, yIf_false, semNil_ptr, fa_ptr, ld1_ptr, ext_tup, fd1_agg, un_not, bin_add, bin_sub, bin_mul, bin_eql, bin_neq, bin_lss, bin_leq, bin_gtr, bin_geq, Nat.zero_add, Nat.mul_one, decide_eq_false b1, decide_eq_true b2, e1, List.getElem?_cons_zero, List.getElem?_cons_succ, hnn, Nm', d22, decide_true, hLv h1 F1]
  · have b1 : ¬ 1048576 < n := by omega
    have b2 : ¬ 1048576 < m := by omega
    by_cases hbad : n < 1 ∨ 4096 < n ∨ m < 1 ∨ 4096 < m
    · obtain ⟨h1, e1, F1⟩ := a1 hbad
      have e2 := (Rn h1 n m (F1.fr hf0) n1 n2 m1 m2).1 hbad
      refine ⟨h1, ?_⟩
      simp only [ob_some, b2_some, bc_ret, bcn_ret, gd_tt, gd_ff, gd_tf, gd_ft, ypk_true, ypk_false, yIf_true, yIf_false, semNil_ptr, fa_ptr, ld1_ptr, ext_tup, fd1_agg, un_not, bin_add, bin_sub, bin_mul, bin_eql, bin_neq, bin_lss, bin_leq, bin_gtr, bin_geq, Nat.zero_add, Nat.mul_one, decide_eq_false b1, decide_eq_false b2, e1, e2, List.getElem?_cons_zero, List.getElem?_cons_succ, hnn, Nm', d22n, d220, hbb, bne_self_eq_false, hLv h1 F1, ne_eq, not_true_eq_false, not_false_eq_true, decide_true, decide_false]
    · obtain ⟨h1, e1, k1, T1, F1⟩ := a2 (by omega) (by omega) (by omega) (by omega)
      obtain ⟨h2, R, e2, R2, hr, F2⟩ := (Rn h1 n m (F1.fr hf0) n1 n2 m1 m2).2 (by omega) (by omega) (by omega) (by omega)
      have T2 := T1.frm F2 fun _ e => e.elim
      have eon : onB (fun _ => 0) = fun _ => false := by funext j; simp [onB]
      have R2' : RTabAt h2 R n.toNat m.toNat (onB (fun _ => 0)) (fun _ => none) (fun _ => 0) 0 (fun _ => false) (fun _ => zeroN) := by rw [eon]; exact R2
      obtain ⟨h3, e3, F3⟩ := Rm _ _ _ _ _ _ _ _ _ _ _ _ _ _ _ T2 R2' rfl
      have T3 := T2.frm F3 fun _ e => e.elim
      have e4 := No _ _ _ _ _ _ _ _ _ T3
      obtain ⟨x5, h5, e5, I5, F5⟩ := Us _ _ _ _ _ _ _ _ _ T3
      have T5 := T3.frm F5 fun _ e => e.elim
      obtain ⟨x6, h6, e6, I6, F6⟩ := Bl _ _ _ _ _ _ _ _ _ T5
      have l5 := len_ints I5
      have l6 := len_ints I6
      have z5 : (usedN (fun _ => false) m.toNat).length = 0 := by simp [usedN, usedR]
      have z6 : (usedL (fun _ => 0) n.toNat).length = 0 := by simp [usedL, eon]
      rw [z5] at l5
      rw [z6] at l6
      have Lv := hLv h6 ((((F1.trans F2).trans F3).trans F5).trans F6)
      have hp1 := eql_ptr_nil (k := h0.next + 3) (off := 0) Tryd.underlying64
      refine ⟨h6, ?_⟩
      simp only [ob_some, b2_some, bc_ret, bcn_ret, gd_tt, gd_ff, gd_tf, gd_ft, ypk_true, ypk_false, yIf_true, yIf_false, semNil_ptr, fa_ptr, ld1_ptr, ext_tup, fd1_agg, un_not, bin_add, bin_sub, bin_mul, bin_eql, bin_neq, bin_lss, bin_leq, bin_gtr, bin_geq, Nat.zero_add, Nat.mul_one, decide_eq_false b1, decide_eq_false b2, e1, e2, List.getElem?_cons_zero, List.getElem?_cons_succ, hp1, Nm', d00n, d00, hbb, bne_self_eq_false, e3, e4, e5, l5, e6, l6, Lv, Int.natCast_zero, ne_eq, not_true_eq_false, not_false_eq_true, decide_true, decide_false]
end
end Go.Proofs.YtomialandfplkaaDoor.Eva
namespace Go.Proofs.YtomialandfplkaaDoor.Eva
open Go.Xe
set_option linter.unusedSimpArgs false
@[irreducible] def LF : Nat := 2 ^ 64
theorem le_LF {n : Nat} (h : n ≤ 2 ^ 64) : n ≤ LF := by unfold LF; exact h
theorem call_fn {P : Program} {tab : Tr (YE P)} {lf n k : Nat} {y : YX P} {f : FuncId} {args : List SV} {h : HW} (hk : k = n + 1) (hy : y.x.f = f) (hg : getP (path f) tab = some (.fn y)) : (runY tab lf k).call (.fn f) args h = y.s (runY tab lf n).call lf args h := by
  subst hk
  have : (runY tab lf (n + 1)).call (.fn f) args h = runE (runY tab lf n) lf f args h (getP (path f) tab) := rfl
  rw [this, hg]
  simp only [runE, hy, Nat.beq_refl, cond_true]
noncomputable def tabLC {P : Program} : List (FuncId × YE P) → Tr (YE P)
  | [] => .nil
  | (f, x) :: xs => (tabLC xs).put f x
end Go.Proofs.YtomialandfplkaaDoor.Eva
namespace Go.Proofs.YtomialandfplkaaDoor.Eva
open Go.Xe
set_option maxRecDepth 100000
set_option linter.unusedVariables false
noncomputable def fx35 : XF Tryd.prog := ⟨35, Tryd.f35, fun _ => .text, Tryd.func35, by kernel_rfl, by kernel_rfl, by kernel_rfl, by kernel_rfl⟩
noncomputable def ff35 (x0 : O) (h : HW) : Rs :=
 ob x0 fun a0 =>
 some (.ret a0, h)
noncomputable def q35_51 (C : YC) (lf : Nat) (r : K1) (h : HW) : Rs :=
 bc (C (.fn 36) [(.int .i64 4), (.int .i64 2)] h) fun y1 h1 =>
 ob (ext 0 y1) fun y2 =>
 ob (ext 1 y1) fun y3 =>
 ob (bin Tryd.prog .eql 64 y2 (.val (.pointer none))) fun y4 =>
 bc (gd false (some y4) (some (.ret y3, h1)) h1) fun y5 h5 =>
 bc (gd false (some y4) (bc (C (.fn 34) [y5] h5) fun y6 h6 =>
 some (.ret y6, h6)) h5) fun y7 h7 =>
 bc (gd false (some y4) (ob (bin Tryd.prog .neq 3 y7 (.int .i64 0)) fun y8 =>
 some (.ret y8, h7)) h7) fun y9 h9 =>
 ob (ypk y4 (.bool true) y9) fun y10 =>
 yIf y10
 (r (some (.bool false)) h9)
 (bc (C (.fn 37) [y2, (.int .i64 33188), (.int .i64 0), (.int .i64 0)] h9) fun y11 h11 =>
 ob (ext 0 y11) fun y12 =>
 ob (ext 1 y11) fun y13 =>
 b2 (ybs Tryd.prog 24 2 [0, 1] [(.int .u8 97), (.int .u8 98)] h11) fun y14 h14 =>
 b2 (ycv Tryd.prog 24 24 y14 h14) fun y15 h15 =>
 bc (C (.fn 38) [y2, y12, (.int .i64 100), y15] h15) fun y16 h16 =>
 ob (ext 0 y16) fun y17 =>
 ob (ext 1 y16) fun y18 =>
 bc (C (.fn 41) [y2, y12, (.int .i64 98), (.int .i64 10)] h16) fun y19 h19 =>
 ob (ext 0 y19) fun y20 =>
 ob (ext 1 y19) fun y21 =>
 ob (bin Tryd.prog .eql 3 y12 (.int .i64 1)) fun y22 =>
 bc (gd true (some y22) (some (.ret y13, h19)) h19) fun y23 h23 =>
 bc (gd true (some y22) (bc (C (.fn 34) [y23] h23) fun y24 h24 =>
 some (.ret y24, h24)) h23) fun y25 h25 =>
 bc (gd true (some y22) (ob (bin Tryd.prog .eql 3 y25 (.int .i64 0)) fun y26 =>
 some (.ret y26, h25)) h25) fun y27 h27 =>
 ob (ypk y22 y27 (.bool false)) fun y28 =>
 bc (gd true (some y28) (some (.ret y17, h27)) h27) fun y29 h29 =>
 bc (gd true (some y28) (ob (bin Tryd.prog .eql 3 y29 (.int .i64 2)) fun y30 =>
 some (.ret y30, h29)) h29) fun y31 h31 =>
 ob (ypk y28 y31 (.bool false)) fun y32 =>
 bc (gd true (some y32) (some (.ret y18, h31)) h31) fun y33 h33 =>
 bc (gd true (some y32) (bc (C (.fn 34) [y33] h33) fun y34 h34 =>
 some (.ret y34, h34)) h33) fun y35 h35 =>
 bc (gd true (some y32) (ob (bin Tryd.prog .eql 3 y35 (.int .i64 0)) fun y36 =>
 some (.ret y36, h35)) h35) fun y37 h37 =>
 ob (ypk y32 y37 (.bool false)) fun y38 =>
 bc (gd true (some y38) (some (.ret y21, h37)) h37) fun y39 h39 =>
 bc (gd true (some y38) (bc (C (.fn 34) [y39] h39) fun y40 h40 =>
 some (.ret y40, h40)) h39) fun y41 h41 =>
 bc (gd true (some y38) (ob (bin Tryd.prog .eql 3 y41 (.int .i64 0)) fun y42 =>
 some (.ret y42, h41)) h41) fun y43 h43 =>
 ob (ypk y38 y43 (.bool false)) fun y44 =>
 bc (gd true (some y44) (some (.ret y20, h43)) h43) fun y45 h45 =>
 bc (gd true (some y44) (b2 (ycv Tryd.prog 24 9 y45 h45) fun y46 h46 =>
 some (.ret y46, h46)) h45) fun y47 h47 =>
 bc (gd true (some y44) (ob (bin Tryd.prog .eql 9 y47 (.str (bs [0, 0, 97, 98]))) fun y48 =>
 some (.ret y48, h47)) h47) fun y49 h49 =>
 ob (ypk y44 y49 (.bool false)) fun y50 =>
 r (some y50) h49)
theorem q35_51_eq (C : YC) (lf : Nat) (r : K1) (KN : KF) (KE : KX) : ∀ F h, evX fx35 C lf [] F h KN (fun F h => r (F 0) h) KE = q35_51 C lf r h := by
  intro F h; kernel_rfl
noncomputable def fs35 (C : YC) (lf : Nat) (h : HW) : Rs := q35_51 C lf ff35 h
theorem fs35_eq (C : YC) (lf : Nat) (h : HW) : yFn Tryd.prog fx35 C lf [] h = fs35 C lf h := fnX (K := (fun F h => ff35 (F 0) h)) (by kernel_rfl) (((q35_51_eq C lf ff35 (fun F h => ff35 (F 0) h) (fun _ _ _ => none)) _ h).trans (by kernel_rfl))
noncomputable def fy35 : YX Tryd.prog := Y0 fx35 fs35 fs35_eq (by kernel_rfl)
end Go.Proofs.YtomialandfplkaaDoor.Eva
namespace Go.Proofs.YtomialandfplkaaDoor.Eva
open Go.ChangeShapes Go.WideShapes Go.ChangeAt Go.RowKit Go.Xe
noncomputable def tabL {P : Program} : List (FuncId × YE P) → Tr (YE P)
  | [] => .nil
  | (f, x) :: xs => (tabL xs).put f x
noncomputable def tab : Tr (YE Tryd.prog) := tabL [(16, .fn fy16), (17, .fn fy17), (18, .fn fy18), (21, .fn fy21), (33, .fn fy33), (34, .fn fy34), (36, .fn fy36), (37, .fn fy37), (38, .fn fy38), (41, .fn fy41), (62, .fn fy62), (63, .fn fy63), (64, .fn fy64), (73, .fn fy73), (74, .fn fy74), (75, .fn fy75), (76, .fn fy76), (77, .fn fy77), (35, .fn fy35)]
def zs : List Int := [0, 1, 56, 2, 57, 49, 28, 3, 61, 58, 42, 50, 38, 29, 17, 4, 62, 47, 59, 36, 45, 43, 51, 22, 53, 39, 33, 30, 24, 18, 12, 5, 63, 55, 48, 27, 60, 41, 37, 16, 46, 35, 44, 21, 52, 32, 23, 11, 54, 26, 40, 15, 34, 20, 31, 10, 25, 14, 19, 9, 13, 8, 7, 6]
theorem mixed : Tryd.prog.follows .mixedOrders = true := by kernel_rfl
theorem laidOut : laidOutB Tryd.prog = true := by kernel_rfl
theorem own : ownKnob Tryd.prog.godebug = none := by kernel_rfl
theorem gTab : Tryd.prog.globalNamed "math/bits.deBruijn64tab" = some 0 := by kernel_rfl
theorem gTabType : (Tryd.prog.globals[0]?).map (·.type) = some 110 := by kernel_rfl
theorem cellsArr : Tryd.prog.cellsOf 110 = 64 := by kernel_rfl
theorem cellsEl : Tryd.prog.cellsOf 5 = 1 := by kernel_rfl
theorem table {W : World} (h : laidMetH Tryd.prog [("math/bits.deBruijn64tab", Rows.laid_math_bits_deBruijn64tab)] W) : Lib.TabIs Tryd.prog W "math/bits.deBruijn64tab" .u8 zs :=
  Lib.tabIs_of_head (rest := []) gTab gTabType Tryd.underlying110 Tryd.underlying5 cellsEl cellsArr h
noncomputable def objs : Hp := tabObjs 0 110 64 (zs.map (.int .u8))
noncomputable def laidWorld (os : Os) : World :=
  { World.holding Tryd.prog os ⟨#[], #[], []⟩ with heap := (World.holding Tryd.prog os ⟨#[], #[], []⟩).heap.modify 0 fun
      | .cells _ t frozen => .cells #[.int .u8 0, .int .u8 1, .int .u8 56, .int .u8 2, .int .u8 57, .int .u8 49, .int .u8 28, .int .u8 3, .int .u8 61, .int .u8 58, .int .u8 42, .int .u8 50, .int .u8 38, .int .u8 29, .int .u8 17, .int .u8 4, .int .u8 62, .int .u8 47, .int .u8 59, .int .u8 36, .int .u8 45, .int .u8 43, .int .u8 51, .int .u8 22, .int .u8 53, .int .u8 39, .int .u8 33, .int .u8 30, .int .u8 24, .int .u8 18, .int .u8 12, .int .u8 5, .int .u8 63, .int .u8 55, .int .u8 48, .int .u8 27, .int .u8 60, .int .u8 41, .int .u8 37, .int .u8 16, .int .u8 46, .int .u8 35, .int .u8 44, .int .u8 21, .int .u8 52, .int .u8 32, .int .u8 23, .int .u8 11, .int .u8 54, .int .u8 26, .int .u8 40, .int .u8 15, .int .u8 34, .int .u8 20, .int .u8 31, .int .u8 10, .int .u8 25, .int .u8 14, .int .u8 19, .int .u8 9, .int .u8 13, .int .u8 8, .int .u8 7, .int .u8 6] t frozen
      | o => o }
end Go.Proofs.YtomialandfplkaaDoor.Eva
namespace Go.Proofs.YtomialandfplkaaDoor.Eva
open Go.Xe
set_option maxRecDepth 100000 in
theorem livesK : saysY ((runY tab 100000 1000).call (.ent 35) [] ⟨1, 1, objs⟩) = true := by kernel_rfl
theorem saysY_spec {r : Rs} (h : saysY r = true) : ∃ h', r = some (.ret (.bool true), h') := by
  unfold saysY at h
  split at h
  · exact ⟨_, rfl⟩
  · cases h
noncomputable def conG : List SV → Option SV
  | [] => some (.bool true)
  | _ => none
noncomputable def conLives : Con Tryd.prog := conOf (tab := tab) (lf := 100000) (fuel := 1000) mixed 0 110 64 .u8 zs (by decide) 35 conG
  (fun args y h => by
    cases args with
    | nil => cases h; exact ⟨rfl, rfl⟩
    | cons a l => cases h)
  (fun args y h => by
    cases args with
    | nil =>
      cases h
      exact saysY_spec livesK
    | cons a l => cases h)
noncomputable def cons : List (Con Tryd.prog) := [conLives]
theorem con_lives {C : YC} {h : HW} (ht : hasTab 0 .u8 zs h = true) : conY cons C (.fn 35) [] h = some (.ret (.bool true), h) := by
  have h1 : conF cons 35 = some conLives := rfl
  have h2 : conLives.g [] h = some (.bool true) := by
    show (bif hasTab 0 .u8 zs h then conG [] else none) = _
    rw [ht]; rfl
  simp only [conY, h1, h2]
theorem con_other {C : YC} {f : Nat} (hf : Nat.beq 35 f = false) (args : List SV) (h : HW) : conY cons C (.fn f) args h = C (.fn f) args h := by
  have h1 : conF cons f = none := by
    show (bif Nat.beq 35 f then some conLives else none) = none
    rw [hf]; rfl
  simp only [conY, h1]
end Go.Proofs.YtomialandfplkaaDoor.Eva
namespace Go.Proofs.YtomialandfplkaaDoor.Eva
open Go.Xe
set_option linter.unusedSimpArgs false
noncomputable def tabE : Tr (YE Tryd.prog) := tabLC [(63, .fn fy63), (33, .fn fy33), (16, .fn fy16), (65, .fn fy65), (19, .fn fy19), (20, .fn fy20), (29, .fn fy29), (30, .fn fy30), (24, .fn fy24), (73, .fn fy73), (36, .fn fy36), (81, .fn fy81), (47, .fn fy47), (46, .fn fy46), (48, .fn fy48), (39, .fn fy39), (44, .fn fy44), (84, .fn fy84), (80, .fn fy80), (34, .fn fy34), (45, .fn fy45)]
theorem tabE_63 : getP (path 63) tabE = some (.fn fy63) := by kernel_rfl
theorem tabE_33 : getP (path 33) tabE = some (.fn fy33) := by kernel_rfl
theorem tabE_16 : getP (path 16) tabE = some (.fn fy16) := by kernel_rfl
theorem tabE_65 : getP (path 65) tabE = some (.fn fy65) := by kernel_rfl
theorem tabE_19 : getP (path 19) tabE = some (.fn fy19) := by kernel_rfl
theorem tabE_20 : getP (path 20) tabE = some (.fn fy20) := by kernel_rfl
theorem tabE_29 : getP (path 29) tabE = some (.fn fy29) := by kernel_rfl
theorem tabE_30 : getP (path 30) tabE = some (.fn fy30) := by kernel_rfl
theorem tabE_24 : getP (path 24) tabE = some (.fn fy24) := by kernel_rfl
theorem tabE_73 : getP (path 73) tabE = some (.fn fy73) := by kernel_rfl
theorem tabE_36 : getP (path 36) tabE = some (.fn fy36) := by kernel_rfl
theorem tabE_81 : getP (path 81) tabE = some (.fn fy81) := by kernel_rfl
theorem tabE_47 : getP (path 47) tabE = some (.fn fy47) := by kernel_rfl
theorem tabE_46 : getP (path 46) tabE = some (.fn fy46) := by kernel_rfl
theorem tabE_48 : getP (path 48) tabE = some (.fn fy48) := by kernel_rfl
theorem tabE_39 : getP (path 39) tabE = some (.fn fy39) := by kernel_rfl
theorem tabE_44 : getP (path 44) tabE = some (.fn fy44) := by kernel_rfl
theorem tabE_84 : getP (path 84) tabE = some (.fn fy84) := by kernel_rfl
theorem tabE_80 : getP (path 80) tabE = some (.fn fy80) := by kernel_rfl
theorem tabE_34 : getP (path 34) tabE = some (.fn fy34) := by kernel_rfl
theorem tabE_45 : getP (path 45) tabE = some (.fn fy45) := by kernel_rfl
theorem tabE_s63 {C : YC} {lf : Nat} {a0 : SV} {h : HW} : fy63.s C lf [a0] h = fs63 C lf a0 h := by kernel_rfl
theorem tabE_s33 {C : YC} {lf : Nat} {a0 a1 : SV} {h : HW} : fy33.s C lf [a0, a1] h = fs33 C lf a0 a1 h := by kernel_rfl
theorem tabE_s16 {C : YC} {lf : Nat} {a0 : SV} {h : HW} : fy16.s C lf [a0] h = fs16 C lf a0 h := by kernel_rfl
theorem tabE_s65 {C : YC} {lf : Nat} {a0 : SV} {h : HW} : fy65.s C lf [a0] h = fs65 C lf a0 h := by kernel_rfl
theorem tabE_s19 {C : YC} {lf : Nat} {a0 : SV} {h : HW} : fy19.s C lf [a0] h = fs19 C lf a0 h := by kernel_rfl
theorem tabE_s20 {C : YC} {lf : Nat} {a0 : SV} {h : HW} : fy20.s C lf [a0] h = fs20 C lf a0 h := by kernel_rfl
theorem tabE_s29 {C : YC} {lf : Nat} {a0 : SV} {h : HW} : fy29.s C lf [a0] h = fs29 C lf a0 h := by kernel_rfl
theorem tabE_s30 {C : YC} {lf : Nat} {a0 : SV} {h : HW} : fy30.s C lf [a0] h = fs30 C lf a0 h := by kernel_rfl
theorem tabE_s24 {C : YC} {lf : Nat} {a0 : SV} {h : HW} : fy24.s C lf [a0] h = fs24 C lf a0 h := by kernel_rfl
theorem tabE_s73 {C : YC} {lf : Nat} {a0 : SV} {h : HW} : fy73.s C lf [a0] h = fs73 C lf a0 h := by kernel_rfl
theorem tabE_s36 {C : YC} {lf : Nat} {a0 a1 : SV} {h : HW} : fy36.s C lf [a0, a1] h = fs36 C lf a0 a1 h := by kernel_rfl
theorem tabE_s81 {C : YC} {lf : Nat} {a0 a1 : SV} {h : HW} : fy81.s C lf [a0, a1] h = fs81 C lf a0 a1 h := by kernel_rfl
theorem tabE_s47 {C : YC} {lf : Nat} {a0 : SV} {h : HW} : fy47.s C lf [a0] h = fs47 C lf a0 h := by kernel_rfl
theorem tabE_s46 {C : YC} {lf : Nat} {a0 : SV} {h : HW} : fy46.s C lf [a0] h = fs46 C lf a0 h := by kernel_rfl
theorem tabE_s48 {C : YC} {lf : Nat} {a0 : SV} {h : HW} : fy48.s C lf [a0] h = fs48 C lf a0 h := by kernel_rfl
theorem tabE_s39 {C : YC} {lf : Nat} {a0 : SV} {h : HW} : fy39.s C lf [a0] h = fs39 C lf a0 h := by kernel_rfl
theorem tabE_s44 {C : YC} {lf : Nat} {a0 a1 : SV} {h : HW} : fy44.s C lf [a0, a1] h = fs44 C lf a0 a1 h := by kernel_rfl
theorem tabE_s84 {C : YC} {lf : Nat} {a0 : SV} {h : HW} : fy84.s C lf [a0] h = fs84 C lf a0 h := by kernel_rfl
theorem tabE_s80 {C : YC} {lf : Nat} {a0 : SV} {h : HW} : fy80.s C lf [a0] h = fs80 C lf a0 h := by kernel_rfl
theorem tabE_s34 {C : YC} {lf : Nat} {a0 : SV} {h : HW} : fy34.s C lf [a0] h = fs34 C lf a0 h := by kernel_rfl
theorem tabE_s45 {C : YC} {lf : Nat} {a0 a1 : SV} {h : HW} : fy45.s C lf [a0, a1] h = fs45 C lf a0 a1 h := by kernel_rfl
theorem tabE_MadeOK (m : Nat) : MadeOK (runY tabE LF (m + 1)).call := by
  unfold MadeOK; intros; simp only [call_fn (tab := tabE) (lf := LF) (n := m + 0) (k := m + 1) (y := fy63) (f := 63) rfl rfl tabE_63]; simp only [tabE_s63]
  apply made_ok (C := (runY tabE LF (m + 0)).call) (lf := LF)   <;> assumption
theorem tabE_IsOK (m : Nat) : IsOK (runY tabE LF (m + 2)).call := by
  unfold IsOK; intros; simp only [call_fn (tab := tabE) (lf := LF) (n := m + 1) (k := m + 2) (y := fy33) (f := 33) rfl rfl tabE_33]; simp only [tabE_s33]
  apply is_ok (C := (runY tabE LF (m + 1)).call) (lf := LF)  (tabE_MadeOK (m + 0)) <;> assumption
theorem tabE_NewOK (m : Nat) : NewOK (runY tabE LF (m + 1)).call := by
  unfold NewOK; intros; simp only [call_fn (tab := tabE) (lf := LF) (n := m + 0) (k := m + 1) (y := fy16) (f := 16) rfl rfl tabE_16]; simp only [tabE_s16]
  apply new_ok (C := (runY tabE LF (m + 0)).call) (lf := LF)   <;> assumption
theorem tabE_OnesOK (m : Nat) : OnesOK (runY tabE LF (m + 1)).call := by
  unfold OnesOK; intros; simp only [call_fn (tab := tabE) (lf := LF) (n := m + 0) (k := m + 1) (y := fy65) (f := 65) rfl rfl tabE_65]; simp only [tabE_s65]
  apply ones_ok (C := (runY tabE LF (m + 0)).call) (lf := LF)   <;> assumption
theorem tabE_LeftOK (m : Nat) : LeftOK (runY tabE LF (m + 2)).call := by
  unfold LeftOK; intros; simp only [call_fn (tab := tabE) (lf := LF) (n := m + 1) (k := m + 2) (y := fy19) (f := 19) rfl rfl tabE_19]; simp only [tabE_s19]
  apply left_ok (C := (runY tabE LF (m + 1)).call) (lf := LF) (le_LF (by omega)) (tabE_MadeOK (m + 0)) (tabE_OnesOK (m + 0)) <;> assumption
theorem tabE_UsedOK (m : Nat) : UsedOK (runY tabE LF (m + 3)).call := by
  unfold UsedOK; intros; simp only [call_fn (tab := tabE) (lf := LF) (n := m + 2) (k := m + 3) (y := fy20) (f := 20) rfl rfl tabE_20]; simp only [tabE_s20]
  apply used_ok (C := (runY tabE LF (m + 2)).call) (lf := LF) (le_LF (by omega)) (tabE_MadeOK (m + 1)) (tabE_IsOK (m + 0)) <;> assumption
theorem tabE_TotalOK (m : Nat) : TotalOK (runY tabE LF (m + 2)).call := by
  unfold TotalOK; intros; simp only [call_fn (tab := tabE) (lf := LF) (n := m + 1) (k := m + 2) (y := fy29) (f := 29) rfl rfl tabE_29]; simp only [tabE_s29]
  apply total_ok (C := (runY tabE LF (m + 1)).call) (lf := LF)  (tabE_MadeOK (m + 0)) <;> assumption
theorem tabE_RLeftOK (m : Nat) : RLeftOK (runY tabE LF (m + 1)).call := by
  unfold RLeftOK; intros; simp only [call_fn (tab := tabE) (lf := LF) (n := m + 0) (k := m + 1) (y := fy30) (f := 30) rfl rfl tabE_30]; simp only [tabE_s30]
  apply rleft_ok (C := (runY tabE LF (m + 0)).call) (lf := LF) (le_LF (by omega))  <;> assumption
theorem tabE_RNewOK (m : Nat) : RNewOK (runY tabE LF (m + 1)).call := by
  unfold RNewOK; intros; simp only [call_fn (tab := tabE) (lf := LF) (n := m + 0) (k := m + 1) (y := fy24) (f := 24) rfl rfl tabE_24]; simp only [tabE_s24]
  apply rnew_ok (C := (runY tabE LF (m + 0)).call) (lf := LF)   <;> assumption
theorem tabE_IsTOK (m : Nat) : IsTOK (runY tabE LF (m + 1)).call := by
  unfold IsTOK; intros; simp only [call_fn (tab := tabE) (lf := LF) (n := m + 0) (k := m + 1) (y := fy73) (f := 73) rfl rfl tabE_73]; simp only [tabE_s73]
  apply isT_ok (C := (runY tabE LF (m + 0)).call) (lf := LF)   <;> assumption
theorem tabE_NewTOK (m : Nat) : NewTOK (runY tabE LF (m + 2)).call := by
  unfold NewTOK; intros; simp only [call_fn (tab := tabE) (lf := LF) (n := m + 1) (k := m + 2) (y := fy36) (f := 36) rfl rfl tabE_36]; simp only [tabE_s36]
  apply newT_ok (C := (runY tabE LF (m + 1)).call) (lf := LF)  (tabE_NewOK (m + 0)) <;> assumption
theorem call_ent {P : Program} {tab : Tr (YE P)} {lf n k : Nat} {y : YX P} {f : FuncId} {args : List SV} {h : HW} (hk : k = n + 1) (hy : y.x.f = f) (hg : getP (path f) tab = some (.fn y)) : (runY tab lf k).call (.ent f) args h = y.s (runY tab lf n).call lf args h := by
  subst hk
  have : (runY tab lf (n + 1)).call (.ent f) args h = Go.Xe.runN (runY tab lf n) lf f args h (getP (path f) tab) := rfl
  rw [this, hg]
  simp only [Go.Xe.runN, hy, Nat.beq_refl, cond_true]
theorem layT_one (t : Nat) (y : SV) : (layT [(t, some y)]).get t = some y := by
  show (Tr.put .nil t y).get t = _
  rw [get_put, if_pos rfl]
theorem tabE_EachUsedOK (m : Nat) : EachUsedOK (runY tabE LF (m + 2)).call := by
  intro h0 h T n N wd b now us nd kb kl p A U
  rw [call_ent (tab := tabE) (lf := LF) (n := m + 1) (k := m + 2) (y := fy81) (f := 81) rfl rfl tabE_81, tabE_s81]
  refine eachUsed_ok (C := (runY tabE LF (m + 1)).call) (C' := (runY tabE LF m).call) (lf := LF) (le_LF (by omega)) (tabE_IsTOK m) (fun kl p kb v h y h' L e => ?_) A U
  obtain ⟨o, ho, hs⟩ := L.ol
  refine run_round ho hs ?_
  rw [← e, rt47_4_eq, layT_one]
theorem tabE_UsedTOK (m : Nat) : UsedTOK (runY tabE LF (m + 3)).call := by
  unfold UsedTOK; intros; simp only [call_fn (tab := tabE) (lf := LF) (n := m + 2) (k := m + 3) (y := fy47) (f := 47) rfl rfl tabE_47]; simp only [tabE_s47]
  apply usedT_ok (C := (runY tabE LF (m + 2)).call) (lf := LF) (tabE_EachUsedOK m) <;> assumption
theorem tabE_NowOK (m : Nat) : NowOK (runY tabE LF (m + 2)).call := by
  unfold NowOK; intros; simp only [call_fn (tab := tabE) (lf := LF) (n := m + 1) (k := m + 2) (y := fy46) (f := 46) rfl rfl tabE_46]; simp only [tabE_s46]
  apply now_ok (C := (runY tabE LF (m + 1)).call) (lf := LF)  (tabE_IsTOK (m + 0)) <;> assumption
theorem tabE_TBlocksOK (m : Nat) : TBlocksOK (runY tabE LF (m + 4)).call := by
  unfold TBlocksOK; intros; simp only [call_fn (tab := tabE) (lf := LF) (n := m + 3) (k := m + 4) (y := fy48) (f := 48) rfl rfl tabE_48]; simp only [tabE_s48]
  apply tblocks_ok (C := (runY tabE LF (m + 3)).call) (lf := LF)  (tabE_IsTOK (m + 2)) (tabE_UsedOK (m + 0)) <;> assumption
theorem tabE_RoomTOK (m : Nat) : RoomTOK (runY tabE LF (m + 4)).call := by
  unfold RoomTOK; intros; simp only [call_fn (tab := tabE) (lf := LF) (n := m + 3) (k := m + 4) (y := fy39) (f := 39) rfl rfl tabE_39]; simp only [tabE_s39]
  apply roomT_ok (C := (runY tabE LF (m + 3)).call) (lf := LF)  (tabE_IsTOK (m + 2)) (tabE_TotalOK (m + 1)) (tabE_LeftOK (m + 1)) (tabE_UsedTOK (m + 0)) <;> assumption
theorem tabE_RNewTOK (m : Nat) : RNewTOK (runY tabE LF (m + 2)).call := by
  unfold RNewTOK; intros; simp only [call_fn (tab := tabE) (lf := LF) (n := m + 1) (k := m + 2) (y := fy44) (f := 44) rfl rfl tabE_44]; simp only [tabE_s44]
  apply rnewT_ok (C := (runY tabE LF (m + 1)).call) (lf := LF)  (tabE_RNewOK (m + 0)) <;> assumption
theorem tabE_RUsedTOK (m : Nat) : RUsedTOK (runY tabE LF (m + 1)).call := by
  unfold RUsedTOK; intros; simp only [call_fn (tab := tabE) (lf := LF) (n := m + 0) (k := m + 1) (y := fy84) (f := 84) rfl rfl tabE_84]; simp only [tabE_s84]
  apply rusedT_ok (C := (runY tabE LF (m + 0)).call) (lf := LF) (le_LF (by omega))  <;> assumption
theorem tabE_RRoomOK (m : Nat) : RRoomOK (runY tabE LF (m + 2)).call := by
  unfold RRoomOK; intros; simp only [call_fn (tab := tabE) (lf := LF) (n := m + 1) (k := m + 2) (y := fy80) (f := 80) rfl rfl tabE_80]; simp only [tabE_s80]
  apply rroom_ok (C := (runY tabE LF (m + 1)).call) (lf := LF)  (tabE_RLeftOK (m + 0)) (tabE_RUsedTOK (m + 0)) <;> assumption
theorem tabE_NumOK (m : Nat) : NumOK (runY tabE LF (m + 1)).call := by
  unfold NumOK; intros; simp only [call_fn (tab := tabE) (lf := LF) (n := m + 0) (k := m + 1) (y := fy34) (f := 34) rfl rfl tabE_34]; simp only [tabE_s34]
  apply num_ok (C := (runY tabE LF (m + 0)).call) (lf := LF)   <;> assumption
theorem tabE_RoomsOK (m : Nat) : RoomsOK (runY tabE LF (m + 5)).call := by
  unfold RoomsOK; intros; simp only [call_fn (tab := tabE) (lf := LF) (n := m + 4) (k := m + 5) (y := fy45) (f := 45) rfl rfl tabE_45]; simp only [tabE_s45]
  apply rooms_ok (C := (runY tabE LF (m + 4)).call) (lf := LF)  (tabE_RoomTOK (m + 0)) (tabE_RRoomOK (m + 2)) <;> assumption
section
variable {w : World}
def FUELN : Nat := 10
theorem mainN (ht : hasTab 0 .u8 zs (hw0 w) = true) {n m : Int} (hn : IntKind.i64.min ≤ n ∧ n ≤ IntKind.i64.max) (hm : IntKind.i64.min ≤ m ∧ m ≤ IntKind.i64.max) :
    ∃ h', fy10.s (conY cons (runY tabE LF FUELN).call) LF [.int .i64 n, .int .i64 m] (hw0 w) = some (.ret (.bool true), h') := by
  have m1 : IntKind.i64.min = -9223372036854775808 := rfl
  have m2 : IntKind.i64.max = 9223372036854775807 := rfl
  have hgn : 0 < (hw0 w).next := by
    obtain ⟨_, ⟨m, hm⟩, _⟩ := hasTab_cell ht
    exact hw0_row hm
  have c1 := tabE_NewTOK 8
  have c2 := tabE_RNewTOK 8
  have c3 := tabE_NumOK 9
  have c4 := tabE_RoomsOK 5
  have c5 := tabE_NowOK 8
  have c6 := tabE_UsedTOK 7
  have c7 := tabE_TBlocksOK 6
  refine inodeNew_main (lf := LF) (C := conY cons (runY tabE LF 10).call) (fresh_hw0 w) ?_ ?_ ?_ ?_ ?_ ?_ ?_ (fun h F => con_lives ?_) (by omega) (by omega) (by omega) (by omega)
  · unfold NewTOK at *; simpa only [con_other (f := 36) rfl] using c1
  · unfold RNewTOK at *; simpa only [con_other (f := 44) rfl] using c2
  · unfold NumOK at *; simpa only [con_other (f := 34) rfl] using c3
  · unfold RoomsOK at *; simpa only [con_other (f := 45) rfl] using c4
  · unfold NowOK at *; simpa only [con_other (f := 46) rfl] using c5
  · unfold UsedTOK at *; simpa only [con_other (f := 47) rfl] using c6
  · unfold TBlocksOK at *; simpa only [con_other (f := 48) rfl] using c7
  · rw [hasTab_same F.ng (F.same _ hgn (fun e => e))]; exact ht
end
end Go.Proofs.YtomialandfplkaaDoor.Eva
