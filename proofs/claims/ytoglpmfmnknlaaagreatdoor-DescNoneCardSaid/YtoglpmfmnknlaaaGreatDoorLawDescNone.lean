/- The law DescNone: the card says so. -/
import Derived.Test.YtoglpmfmnknlaaaGreatDoorRunDescNone
import Derived.Test.YtoglpmfmnknlaaaGreatDoorXeSh
import Derived.Test.YtoglpmfmnknlaaaGreatDoorFaDescNone
import Derived.Test.YtoglpmfmnknlaaaGreatDoorFbDescNone
import Derived.Test.YtoglpmfmnknlaaaGreatDoorFcDescNone
import Derived.Test.YtoglpmfmnknlaaaGreatDoorFdDescNone
namespace Go.Proofs.YtoglpmfmnknlaaaGreatDoor.descNone
open Go.ChangeShapes Go.WideShapes Go.ChangeAt Go.RowKit Go.Xe Go.Proofs.YtoglpmfmnknlaaaGreatDoor.Eva

theorem readable : ∀ t ∈ Tryz.f7.params.toList, Tryz.prog.readableRec t = true ∧ t < Tryz.prog.types.size := by
  rw [Tryz.params7]
  intro t ht
  simp only [List.mem_cons, List.not_mem_nil, or_false] at ht
  rcases ht with rfl
  all_goals exact ⟨by kernel_rfl, of_decide_eq_true (by kernel_rfl)⟩

theorem len8 (l : List Value) (h : l.length = 8) : l = [l.getD 0 undef, l.getD 1 undef, l.getD 2 undef, l.getD 3 undef, l.getD 4 undef, l.getD 5 undef, l.getD 6 undef, l.getD 7 undef] := by
  match l, h with
  | [_, _, _, _, _, _, _, _], _ => rfl

set_option maxRecDepth 100000 in
theorem contract (H : Type) (enc : TypeId × Value → H) (W : World) (args : Array Value) (ds gs : List (DataW H)) (before : List MemPlace)
    (hW : DataW.Whole enc Tryz.prog Tryz.f7.params.toList Rows.descNoneSpec.vars false W args.toList ds gs before) (hL : laidMetH Tryz.prog Rows.descNoneRow.laid W) :
    Calls Tryz.prog 7 args W fun e W' => ∃ v, e = .returned v ∧ Rows.descNoneSpec.post enc Tryz.prog Tryz.f7 false true false false W args v W' := by
  have hW' := hW
  obtain ⟨p, q, hA0, hV, rfl, hfz, hnd⟩ := hW
  have hA : DataW.TrodAll enc Tryz.prog W 0 (fun _ => true) true Tryz.f7.params.toList args.toList ds p := hA0
  rw [Tryz.params7] at hA
  obtain ⟨v0, vs0, d0, ds0, p0, q0, hargs, rfl, rfl, h0, r0⟩ := trodAll_cons hA
  obtain ⟨rfl, rfl, rfl⟩ := trodAll_nil r0
  obtain rfl : args = #[v0] := by cases args; simp_all
  obtain ⟨rfl, rfl⟩ := trodVars_none hV
  obtain ⟨cs0, rfl, hl0⟩ := trod_agg Tryz.underlying74 (n := 8) (by kernel_rfl) (by decide) h0
  obtain ⟨x0_0, g0_0, t0_0⟩ := trod_cell 8 0 (s := .it .i64) (by kernel_rfl) h0
  obtain ⟨v0_0, rfl, _⟩ := t0_0
  replace g0_0 : cs0.toList[0]? = some (.int .i64 v0_0) := g0_0
  obtain ⟨x0_1, g0_1, t0_1⟩ := trod_cell 8 1 (s := .st) (by kernel_rfl) h0
  obtain ⟨v0_1, rfl, _⟩ := t0_1
  replace g0_1 : cs0.toList[1]? = some (.string v0_1) := g0_1
  obtain ⟨x0_2, g0_2, t0_2⟩ := trod_cell 8 2 (s := .st) (by kernel_rfl) h0
  obtain ⟨v0_2, rfl, _⟩ := t0_2
  replace g0_2 : cs0.toList[2]? = some (.string v0_2) := g0_2
  obtain ⟨x0_3, g0_3, t0_3⟩ := trod_cell 8 3 (s := .it .i64) (by kernel_rfl) h0
  obtain ⟨v0_3, rfl, _⟩ := t0_3
  replace g0_3 : cs0.toList[3]? = some (.int .i64 v0_3) := g0_3
  obtain ⟨x0_4, g0_4, t0_4⟩ := trod_cell 8 4 (s := .it .i64) (by kernel_rfl) h0
  obtain ⟨v0_4, rfl, _⟩ := t0_4
  replace g0_4 : cs0.toList[4]? = some (.int .i64 v0_4) := g0_4
  obtain ⟨x0_5, g0_5, t0_5⟩ := trod_cell 8 5 (s := .it .i64) (by kernel_rfl) h0
  obtain ⟨v0_5, rfl, _⟩ := t0_5
  replace g0_5 : cs0.toList[5]? = some (.int .i64 v0_5) := g0_5
  obtain ⟨x0_6, g0_6, t0_6⟩ := trod_cell 8 6 (s := .sl) (by kernel_rfl) h0
  obtain ⟨v0_6a, v0_6l, v0_6c, rfl⟩ := t0_6
  replace g0_6 : cs0.toList[6]? = some (.slice v0_6a v0_6l v0_6c) := g0_6
  obtain ⟨x0_7, g0_7, t0_7⟩ := trod_cell 8 7 (s := .bo) (by kernel_rfl) h0
  obtain ⟨v0_7, rfl⟩ := t0_7
  replace g0_7 : cs0.toList[7]? = some (.bool v0_7) := g0_7
  have e0 : cs0.toList = [.int .i64 v0_0, .string v0_1, .string v0_2, .int .i64 v0_3, .int .i64 v0_4, .int .i64 v0_5, .slice v0_6a v0_6l v0_6c, .bool v0_7] := by
    rw [len8 _ hl0]
    simp only [List.getD_eq_getElem?_getD, g0_0, g0_1, g0_2, g0_3, g0_4, g0_5, g0_6, g0_7, Option.getD_some]
  refine (says_trueY (args := [.agg [.val (.int .i64 v0_0), .val (.string v0_1), .val (.string v0_2), .val (.int .i64 v0_3), .val (.int .i64 v0_4), .val (.int .i64 v0_5), .val (.slice v0_6a v0_6l v0_6c), .val (.bool v0_7)]]) (argv := [.agg cs0]) mixed (startT hL) (fun _ => ⟨_, _, ⟨_, (by rw [e0]; exact denL_val _ [.int .i64 v0_0, .string v0_1, .string v0_2, .int .i64 v0_3, .int .i64 v0_4, .int .i64 v0_5, .slice v0_6a v0_6l v0_6c, .bool v0_7]), rfl⟩, rfl, rfl⟩) (evalK v0_0 v0_1 v0_2 v0_3 v0_4 v0_5 v0_6a v0_6l v0_6c v0_7)).mono fun e W' ⟨he, hb⟩ => ?_
  subst he
  exact ⟨_, rfl, law_end (gs := []) hW' rfl (by kernel_rfl) Tryz.underlying4 rfl hb laidOut readable⟩

theorem laid_met (os : Os) : laidMet Tryz.prog Rows.descNoneRow.laid ((laidWorld os).forCall (fun _ _ => 0) ⟨#[], #[.agg #[.int .i64 0, .string .empty, .string .empty, .int .i64 0, .int .i64 0, .int .i64 0, .slice none 0 0, .bool false]], []⟩).memory :=
  laidMet_of_run' 8 (by kernel_rfl) (by kernel_rfl)
theorem reads (os : Os) {H : Type} (enc : TypeId × Value → H) : ∃ places, DataW.whole enc Tryz.prog ((laidWorld os).forCall (fun _ _ => 0) ⟨#[], #[.agg #[.int .i64 0, .string .empty, .string .empty, .int .i64 0, .int .i64 0, .int .i64 0, .slice none 0 0, .bool false]], []⟩).memory Tryz.f7.params.toList Rows.descNoneSpec.vars false (#[.agg #[.int .i64 0, .string .empty, .string .empty, .int .i64 0, .int .i64 0, .int .i64 0, .slice none 0 0, .bool false]] : Array Value).toList 8 = some ([.agg [.lit (.int .i64 0), .lit (.string []), .lit (.string []), .lit (.int .i64 0), .lit (.int .i64 0), .lit (.int .i64 0), .nil, .lit (.bool false)]], [], places) :=
  ⟨[], by kernel_rfl⟩

set_option maxRecDepth 100000 in
theorem lifted (os : Os) (started : os.Started) (H : Type) (enc : TypeId × Value → H) (F : Stop.Interp) :
    ReturnsInHanded {} Tryz.checked os 7 .any ((OpenSpec.ofChange Rows.descNoneSpec).preRow enc Tryz.prog Tryz.f7 Rows.descNoneRow.domain false Rows.descNoneRow.laid) (((OpenSpec.ofChange Rows.descNoneSpec).at F).post enc Tryz.prog Tryz.f7 false true false false) := by
  obtain ⟨places, hx⟩ := reads os enc
  refine returnsInHanded_of_row (C := Tryz.checked) (s := (OpenSpec.ofChange Rows.descNoneSpec)) own started (by kernel_rfl) Tryz.func7
    (witness_row_at (enc := enc) (C := Tryz.checked) false (laidWorld os) #[.agg #[.int .i64 0, .string .empty, .string .empty, .int .i64 0, .int .i64 0, .int .i64 0, .slice none 0 0, .bool false]] rfl (by kernel_rfl) (by kernel_rfl) (by kernel_rfl)
      (OpenSpec.preRow_of_cond 8 hx (by kernel_rfl) (fun k hk => by cases hk) (by kernel_rfl) (laid_met os))) ?_
  intro W base args ds gs before _ hW _ _ _ hL _ _
  exact contract H enc W args ds gs before hW hL

theorem and2 {a b : Bool} (h : a = true) (h' : b = true) : (a && b) = true := by rw [h, h']; rfl
set_option maxRecDepth 100000 in
theorem closed : joinedFacts Tryz.pinned.checked.prog 7 Tryz.f7 ((OpenSpec.ofChange Rows.descNoneSpec)).bare Rows.descNoneRow = true := (and2 (and2 (and2 (and2 (and2 (and2 (and2 (and2 (and2 (and2 (and2 (and2 (and2 (and2 (and2 (and2 (and2 (and2 (and2 (and2 (and2 (and2 (and2 (and2 (and2 (and2 (and2 (and2 (and2 (and2 (and2 g0 g1) g2) g3) g4) g5) g6) g7) g8) g9) g10) g11) g12) g13) g14) g15) g16) g17) g18) g19) g20) g21) g22) g23) g24) g25) g26) g27) g28) g29) g30) g31)

theorem said : Rows.DescNoneSaid :=
  OpenClaim.holds_of_cond 7 Tryz.f7 rfl rfl rfl rfl rfl rfl rfl ⟨rfl, rfl, rfl, rfl, rfl⟩ rfl rfl rfl rfl rfl named_at Tryz.func7 closed
    (of_decide_eq_true (by kernel_rfl)) (by unfold Func.isWrapper; first | (rw [if_pos (by decide +kernel)]; kernel_rfl) | (rw [if_neg (by decide +kernel)]; exact ⟨rfl, rfl⟩))
    (fun os started H enc _ F => by rw [OpenClaim.pre_eq_preRow]; exact lifted os started H enc F)

theorem plain (f : FuncId) (fn : Func) (hf : Tryz.pinned.checked.prog.funcNamed "tinsel/tinsellaw07.DescNone" = some f) (hfn : Tryz.pinned.checked.prog.funcs[f]? = some fn) :
    true = Tryz.pinned.checked.prog.looks [] ∧ ∀ (j : Nat) t, fn.params[j]? = some t → Tryz.pinned.checked.prog.wantsStandIn t = false := by
  obtain rfl : f = 7 := Option.some.inj (named_at.symm.trans hf) |>.symm
  obtain rfl : fn = Tryz.f7 := (Option.some.inj (Tryz.func7.symm.trans hfn)).symm
  refine ⟨by kernel_rfl, fun j t ht => ?_⟩
  rw [Tryz.params7] at ht
  have hm := Array.mem_of_getElem? ht
  simp only [List.mem_toArray, List.mem_cons, List.not_mem_nil, or_false] at hm
  rcases hm with rfl
  · exact (show Tryz.prog.wantsStandIn 74 = false by kernel_rfl)

theorem card : Rows.DescNoneCardSaid :=
  Claim7.holds_tied_plain_at .later [] _ _ _ _ said (fun _ h => by cases h) (by kernel_rfl) (fun _ h => by cases h) descNone_row_tie rfl ⟨rfl, rfl⟩ (by kernel_rfl) rfl plain (by kernel_rfl)
end Go.Proofs.YtoglpmfmnknlaaaGreatDoor.descNone
