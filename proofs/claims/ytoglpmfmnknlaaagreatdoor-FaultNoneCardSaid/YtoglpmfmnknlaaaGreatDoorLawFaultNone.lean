/- The law FaultNone: the card says so. -/
import Derived.Test.YtoglpmfmnknlaaaGreatDoorRunFaultNone
import Derived.Test.YtoglpmfmnknlaaaGreatDoorXeSh
import Derived.Test.YtoglpmfmnknlaaaGreatDoorFaFaultNone
import Derived.Test.YtoglpmfmnknlaaaGreatDoorFbFaultNone
import Derived.Test.YtoglpmfmnknlaaaGreatDoorFcFaultNone
import Derived.Test.YtoglpmfmnknlaaaGreatDoorFdFaultNone
namespace Go.Proofs.YtoglpmfmnknlaaaGreatDoor.faultNone
open Go.ChangeShapes Go.WideShapes Go.ChangeAt Go.RowKit Go.Xe Go.Proofs.YtoglpmfmnknlaaaGreatDoor.Eva

theorem readable : ∀ t ∈ Tryz.f6.params.toList, Tryz.prog.readableRec t = true ∧ t < Tryz.prog.types.size := by
  rw [Tryz.params6]
  intro t ht
  simp only [List.mem_cons, List.not_mem_nil, or_false] at ht
  rcases ht with rfl | rfl
  all_goals exact ⟨by kernel_rfl, of_decide_eq_true (by kernel_rfl)⟩

theorem len10 (l : List Value) (h : l.length = 10) : l = [l.getD 0 undef, l.getD 1 undef, l.getD 2 undef, l.getD 3 undef, l.getD 4 undef, l.getD 5 undef, l.getD 6 undef, l.getD 7 undef, l.getD 8 undef, l.getD 9 undef] := by
  match l, h with
  | [_, _, _, _, _, _, _, _, _, _], _ => rfl

set_option maxRecDepth 100000 in
theorem contract (H : Type) (enc : TypeId × Value → H) (W : World) (args : Array Value) (ds gs : List (DataW H)) (before : List MemPlace)
    (hW : DataW.Whole enc Tryz.prog Tryz.f6.params.toList Rows.faultNoneSpec.vars false W args.toList ds gs before) (hL : laidMetH Tryz.prog Rows.faultNoneRow.laid W) :
    Calls Tryz.prog 6 args W fun e W' => ∃ v, e = .returned v ∧ Rows.faultNoneSpec.post enc Tryz.prog Tryz.f6 false true false false W args v W' := by
  have hW' := hW
  obtain ⟨p, q, hA0, hV, rfl, hfz, hnd⟩ := hW
  have hA : DataW.TrodAll enc Tryz.prog W 0 (fun _ => true) true Tryz.f6.params.toList args.toList ds p := hA0
  rw [Tryz.params6] at hA
  obtain ⟨v0, vs0, d0, ds0, p0, q0, hargs, rfl, rfl, h0, r0⟩ := trodAll_cons hA
  obtain ⟨v1, vs1, d1, ds1, p1, q1, rfl, rfl, rfl, h1, r1⟩ := trodAll_cons r0
  obtain ⟨rfl, rfl, rfl⟩ := trodAll_nil r1
  obtain rfl : args = #[v0, v1] := by cases args; simp_all
  obtain ⟨rfl, rfl⟩ := trodVars_none hV
  obtain ⟨cs0, rfl, hl0⟩ := trod_agg Tryz.underlying33 (n := 10) (by kernel_rfl) (by decide) h0
  obtain ⟨x0_0, g0_0, t0_0⟩ := trod_cell 8 0 (s := .it .u8) (by kernel_rfl) h0
  obtain ⟨v0_0, rfl, _⟩ := t0_0
  replace g0_0 : cs0.toList[0]? = some (.int .u8 v0_0) := g0_0
  obtain ⟨x0_1, g0_1, t0_1⟩ := trod_cell 8 1 (s := .st) (by kernel_rfl) h0
  obtain ⟨v0_1, rfl, _⟩ := t0_1
  replace g0_1 : cs0.toList[1]? = some (.string v0_1) := g0_1
  obtain ⟨x0_2, g0_2, t0_2⟩ := trod_cell 8 2 (s := .st) (by kernel_rfl) h0
  obtain ⟨v0_2, rfl, _⟩ := t0_2
  replace g0_2 : cs0.toList[2]? = some (.string v0_2) := g0_2
  obtain ⟨x0_3, g0_3, t0_3⟩ := trod_cell 8 3 (s := .it .i64) (by kernel_rfl) h0
  obtain ⟨v0_3, rfl, _⟩ := t0_3
  replace g0_3 : cs0.toList[3]? = some (.int .i64 v0_3) := g0_3
  obtain ⟨x0_4, g0_4, t0_4⟩ := trod_cell 8 4 (s := .it .i64) (by kernel_rfl) h0
  obtain ⟨v0_4, rfl, _⟩ := t0_4
  replace g0_4 : cs0.toList[4]? = some (.int .i64 v0_4) := g0_4
  obtain ⟨x0_5, g0_5, t0_5⟩ := trod_cell 8 5 (s := .it .i64) (by kernel_rfl) h0
  obtain ⟨v0_5, rfl, _⟩ := t0_5
  replace g0_5 : cs0.toList[5]? = some (.int .i64 v0_5) := g0_5
  obtain ⟨x0_6, g0_6, t0_6⟩ := trod_cell 8 6 (s := .sl) (by kernel_rfl) h0
  obtain ⟨v0_6a, v0_6l, v0_6c, rfl⟩ := t0_6
  replace g0_6 : cs0.toList[6]? = some (.slice v0_6a v0_6l v0_6c) := g0_6
  obtain ⟨x0_7, g0_7, t0_7⟩ := trod_cell 8 7 (s := .it .i64) (by kernel_rfl) h0
  obtain ⟨v0_7, rfl, _⟩ := t0_7
  replace g0_7 : cs0.toList[7]? = some (.int .i64 v0_7) := g0_7
  obtain ⟨x0_8, g0_8, t0_8⟩ := trod_cell 8 8 (s := .it .i64) (by kernel_rfl) h0
  obtain ⟨v0_8, rfl, _⟩ := t0_8
  replace g0_8 : cs0.toList[8]? = some (.int .i64 v0_8) := g0_8
  obtain ⟨x0_9, g0_9, t0_9⟩ := trod_cell 8 9 (s := .bo) (by kernel_rfl) h0
  obtain ⟨v0_9, rfl⟩ := t0_9
  replace g0_9 : cs0.toList[9]? = some (.bool v0_9) := g0_9
  have e0 : cs0.toList = [.int .u8 v0_0, .string v0_1, .string v0_2, .int .i64 v0_3, .int .i64 v0_4, .int .i64 v0_5, .slice v0_6a v0_6l v0_6c, .int .i64 v0_7, .int .i64 v0_8, .bool v0_9] := by
    rw [len10 _ hl0]
    simp only [List.getD_eq_getElem?_getD, g0_0, g0_1, g0_2, g0_3, g0_4, g0_5, g0_6, g0_7, g0_8, g0_9, Option.getD_some]
  refine (says_trueY (args := [.agg [.val (.int .u8 v0_0), .val (.string v0_1), .val (.string v0_2), .val (.int .i64 v0_3), .val (.int .i64 v0_4), .val (.int .i64 v0_5), .val (.slice v0_6a v0_6l v0_6c), .val (.int .i64 v0_7), .val (.int .i64 v0_8), .val (.bool v0_9)], .val v1]) (argv := [.agg cs0, v1]) mixed (startT hL) (fun _ => ⟨_, _, ⟨_, (by rw [e0]; exact denL_val _ [.int .u8 v0_0, .string v0_1, .string v0_2, .int .i64 v0_3, .int .i64 v0_4, .int .i64 v0_5, .slice v0_6a v0_6l v0_6c, .int .i64 v0_7, .int .i64 v0_8, .bool v0_9]), rfl⟩, ⟨_, _, rfl, rfl, rfl⟩, rfl⟩) (evalK v0_0 v0_1 v0_2 v0_3 v0_4 v0_5 v0_6a v0_6l v0_6c v0_7 v0_8 v0_9 v1)).mono fun e W' ⟨he, hb⟩ => ?_
  subst he
  exact ⟨_, rfl, law_end (gs := []) hW' rfl (by kernel_rfl) Tryz.underlying4 rfl hb laidOut readable⟩

theorem laid_met (os : Os) : laidMet Tryz.prog Rows.faultNoneRow.laid ((laidWorld os).forCall (fun _ _ => 0) ⟨#[], #[.agg #[.int .u8 0, .string .empty, .string .empty, .int .i64 0, .int .i64 0, .int .i64 0, .slice none 0 0, .int .i64 0, .int .i64 0, .bool false], .slice none 0 0], []⟩).memory :=
  laidMet_of_run' 8 (by kernel_rfl) (by kernel_rfl)
theorem reads (os : Os) {H : Type} (enc : TypeId × Value → H) : ∃ places, DataW.whole enc Tryz.prog ((laidWorld os).forCall (fun _ _ => 0) ⟨#[], #[.agg #[.int .u8 0, .string .empty, .string .empty, .int .i64 0, .int .i64 0, .int .i64 0, .slice none 0 0, .int .i64 0, .int .i64 0, .bool false], .slice none 0 0], []⟩).memory Tryz.f6.params.toList Rows.faultNoneSpec.vars false (#[.agg #[.int .u8 0, .string .empty, .string .empty, .int .i64 0, .int .i64 0, .int .i64 0, .slice none 0 0, .int .i64 0, .int .i64 0, .bool false], .slice none 0 0] : Array Value).toList 8 = some ([.agg [.lit (.int .u8 0), .lit (.string []), .lit (.string []), .lit (.int .i64 0), .lit (.int .i64 0), .lit (.int .i64 0), .nil, .lit (.int .i64 0), .lit (.int .i64 0), .lit (.bool false)], .nil], [], places) :=
  ⟨[], by kernel_rfl⟩

set_option maxRecDepth 100000 in
theorem lifted (os : Os) (started : os.Started) (H : Type) (enc : TypeId × Value → H) (F : Stop.Interp) :
    ReturnsInHanded {} Tryz.checked os 6 .any ((OpenSpec.ofChange Rows.faultNoneSpec).preRow enc Tryz.prog Tryz.f6 Rows.faultNoneRow.domain false Rows.faultNoneRow.laid) (((OpenSpec.ofChange Rows.faultNoneSpec).at F).post enc Tryz.prog Tryz.f6 false true false false) := by
  obtain ⟨places, hx⟩ := reads os enc
  refine returnsInHanded_of_row (C := Tryz.checked) (s := (OpenSpec.ofChange Rows.faultNoneSpec)) own started (by kernel_rfl) Tryz.func6
    (witness_row_at (enc := enc) (C := Tryz.checked) false (laidWorld os) #[.agg #[.int .u8 0, .string .empty, .string .empty, .int .i64 0, .int .i64 0, .int .i64 0, .slice none 0 0, .int .i64 0, .int .i64 0, .bool false], .slice none 0 0] rfl (by kernel_rfl) (by kernel_rfl) (by kernel_rfl)
      (OpenSpec.preRow_of_cond 8 hx (by kernel_rfl) (fun k hk => by cases hk) (by kernel_rfl) (laid_met os))) ?_
  intro W base args ds gs before _ hW _ _ _ hL _ _
  exact contract H enc W args ds gs before hW hL

theorem and2 {a b : Bool} (h : a = true) (h' : b = true) : (a && b) = true := by rw [h, h']; rfl
set_option maxRecDepth 100000 in
theorem closed : joinedFacts Tryz.pinned.checked.prog 6 Tryz.f6 ((OpenSpec.ofChange Rows.faultNoneSpec)).bare Rows.faultNoneRow = true := (and2 (and2 (and2 (and2 (and2 (and2 (and2 (and2 (and2 (and2 (and2 (and2 (and2 (and2 (and2 (and2 (and2 (and2 (and2 (and2 (and2 (and2 (and2 (and2 (and2 (and2 (and2 (and2 (and2 (and2 (and2 g0 g1) g2) g3) g4) g5) g6) g7) g8) g9) g10) g11) g12) g13) g14) g15) g16) g17) g18) g19) g20) g21) g22) g23) g24) g25) g26) g27) g28) g29) g30) g31)

theorem said : Rows.FaultNoneSaid :=
  OpenClaim.holds_of_cond 6 Tryz.f6 rfl rfl rfl rfl rfl rfl rfl ⟨rfl, rfl, rfl, rfl, rfl⟩ rfl rfl rfl rfl rfl named_at Tryz.func6 closed
    (of_decide_eq_true (by kernel_rfl)) (by unfold Func.isWrapper; first | (rw [if_pos (by decide +kernel)]; kernel_rfl) | (rw [if_neg (by decide +kernel)]; exact ⟨rfl, rfl⟩))
    (fun os started H enc _ F => by rw [OpenClaim.pre_eq_preRow]; exact lifted os started H enc F)

theorem plain (f : FuncId) (fn : Func) (hf : Tryz.pinned.checked.prog.funcNamed "tinsel/tinsellaw08.FaultNone" = some f) (hfn : Tryz.pinned.checked.prog.funcs[f]? = some fn) :
    true = Tryz.pinned.checked.prog.looks [] ∧ ∀ (j : Nat) t, fn.params[j]? = some t → Tryz.pinned.checked.prog.wantsStandIn t = false := by
  obtain rfl : f = 6 := Option.some.inj (named_at.symm.trans hf) |>.symm
  obtain rfl : fn = Tryz.f6 := (Option.some.inj (Tryz.func6.symm.trans hfn)).symm
  refine ⟨by kernel_rfl, fun j t ht => ?_⟩
  rw [Tryz.params6] at ht
  have hm := Array.mem_of_getElem? ht
  simp only [List.mem_toArray, List.mem_cons, List.not_mem_nil, or_false] at hm
  rcases hm with rfl | rfl
  · exact (show Tryz.prog.wantsStandIn 33 = false by kernel_rfl)
  · exact (show Tryz.prog.wantsStandIn 34 = false by kernel_rfl)

theorem card : Rows.FaultNoneCardSaid :=
  Claim7.holds_tied_plain_at .later [] _ _ _ _ said (fun _ h => by cases h) (by kernel_rfl) (fun _ h => by cases h) faultNone_row_tie rfl ⟨rfl, rfl⟩ (by kernel_rfl) rfl plain (by kernel_rfl)
end Go.Proofs.YtoglpmfmnknlaaaGreatDoor.faultNone
