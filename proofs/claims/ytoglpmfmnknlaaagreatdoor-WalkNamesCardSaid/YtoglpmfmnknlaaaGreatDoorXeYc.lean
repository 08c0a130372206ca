/- A part of an evaluator for the code. -/
import Derived.Test.YtoglpmfmnknlaaaGreatDoorXeYb
namespace Go.Xe

section
variable {P : Program}
@[simp] theorem HW.x_objs (h : HW) (O : List Bool) (p : List Prop) (D : List SD) : (h.x O p D).objs = h.objs := rfl
@[simp] theorem HW.x_next (h : HW) (O : List Bool) (p : List Prop) (D : List SD) : (h.x O p D).next = h.next := rfl
@[simp] theorem HW.x_ng (h : HW) (O : List Bool) (p : List Prop) (D : List SD) : (h.x O p D).ng = h.ng := rfl
@[simp] theorem HW.x0_objs (h : HW) : h.x0.objs = h.objs := rfl
@[simp] theorem HW.x0_next (h : HW) : h.x0.next = h.next := rfl
@[simp] theorem HW.x0_h (h : HW) : h.x0.h = h := rfl
@[simp] theorem HW.x_h (h : HW) (O : List Bool) (p : List Prop) (D : List SD) : (h.x O p D).h = h := rfl

def HW.xd (h : HW) (D : List SD) : XW := h.x [] [] D
@[simp] theorem HW.xd_objs (h : HW) (D : List SD) : (h.xd D).objs = h.objs := rfl
@[simp] theorem HW.xd_next (h : HW) (D : List SD) : (h.xd D).next = h.next := rfl
@[simp] theorem HW.xd_ng (h : HW) (D : List SD) : (h.xd D).ng = h.ng := rfl
def Cm (f : XW → Option (SV × XW)) : Prop := ∀ (h : HW) (y : SV) (g : HW), hx (f h.x0) = some (y, g) → ∀ O p D, f (h.x O p D) = some (y, g.x O p D)
def Cs (f : XW → Option XW) : Prop := ∀ (h : HW) (g : HW), hs (f h.x0) = some g → ∀ O p D, f (h.x O p D) = some (g.x O p D)

theorem cm_none : Cm fun _ => none := fun h y g e => by cases e
theorem cm_new (y : Nat → SV) (o : Ob) : Cm fun X => some (y (X.new o).1, (X.new o).2) := fun h z g e O p D => by
  simp only [hx, Option.some.injEq, Prod.mk.injEq] at e
  obtain ⟨rfl, rfl⟩ := e
  rfl
theorem cm_row (y : Nat → SV) (t : TypeId) (cs : List SV) : Cm fun X => some (y (newRow X t cs).1, (newRow X t cs).2) := by
  simp only [newRow, force_eq]; exact cm_new y _
theorem cm_loose (y : Nat → SV) (t e : Nat) (cs : List SV) : Cm fun X => some (y (newLoose X t e cs).1, (newLoose X t e cs).2) := by
  simp only [newLoose, force_eq]; exact cm_new y _
theorem cm_pat (y : Nat → SV) (t n : Nat) (cs : List SV) : Cm fun X => some (y (newPat X t n cs).1, (newPat X t n cs).2) := by
  simp only [newPat, force_eq]; exact cm_new y _

theorem cm_alloc (e : TypeId) : Cm (semAlloc P e) := by
  unfold semAlloc
  cases tyZero P e with
  | none => exact cm_none
  | some z => exact cm_row (fun k => .ptr k 0) _ _
theorem cm_box (e : TypeId) (x : SV) : Cm (semBox e x) := by
  unfold semBox
  cases x.flat with
  | false => exact cm_none
  | true => exact cm_row (fun k => .ptr k 0) _ _
theorem cm_buildSlice (t : TypeId) (len : Nat) (ix : List Nat) (vs : List SV) : Cm (semBuildSlice P t len ix vs) := by
  unfold semBuildSlice
  split
  · rename_i e _
    split
    · rename_i s z _ _
      cases (Nat.ble (len * s) 65536 && Nat.ble 1 s && Nat.beq (mkV z).cells.length s) with
      | false => exact cm_none
      | true =>
        simp only [cond_true]
        cases fillL (fun i => some (i * s, s)) (reps (mkV z).cells len) (ix.zip vs) with
        | none => exact cm_none
        | some cs => exact cm_row (fun k => .sl k 0 len (some len) 0) _ _
    · exact cm_none
  · exact cm_none
theorem cm_make (t : TypeId) (l c : SV) : Cm (semMake P t l c) := by
  unfold semMake
  split
  · rename_i e _
    split
    · rename_i l c _ _
      split
      · rename_i s z b _ _ _
        cases (Nat.ble l c && Nat.ble (c * b) 35184372088832 && Nat.ble c 35184372088832 && Nat.beq (mkV z).cells.length s && Nat.ble 1 s) with
        | false => exact cm_none
        | true => exact cm_pat (fun k => .sl k 0 l (some c) 0) _ _ _
      · exact cm_none
    · exact cm_none
  · exact cm_none
theorem cm_convX (s d : TypeId) (x : SV) : Cm (convX P s d x) := by
  intro h y g e O p D
  unfold convX at e ⊢
  split at e
  · rename_i e0 b h1 h2
    cases hc : (isU8 P e0 && Nat.ble b.size 35184372088832) with
    | false => simp [hc, hx] at e
    | true => simp only [hc, cond_true] at e ⊢; exact cm_loose (fun k => .sl k 0 b.size none 0) _ _ _ h y g e O p D
  · rename_i e0 k off n cap lo h1 h2
    simp only [HW.x0_objs, HW.x_objs] at e ⊢
    cases hc : (isU8 P e0 && Nat.beq s d) with
    | false => simp [hc, hx] at e
    | true =>
      simp only [hc, cond_true] at e ⊢
      cases ho : h.objs.get k with
      | none => simp [ho, hx] at e
      | some o =>
        simp only [ho] at e ⊢
        cases hr : o.ro with
        | true => simp [hr, hx] at e
        | false => simp only [hr, cond_false, hx, Option.some.injEq, Prod.mk.injEq] at e ⊢; obtain ⟨rfl, rfl⟩ := e; exact ⟨rfl, rfl⟩
  · rename_i e0 _ _ h1 h2
    cases hc : isU8 P e0 with
    | false => simp [hc, hx] at e
    | true => simp only [hc, cond_true, hx, Option.some.injEq, Prod.mk.injEq] at e ⊢; obtain ⟨rfl, rfl⟩ := e; exact ⟨rfl, rfl⟩
  · rename_i e0 k off n _ _ h1 h2
    simp only [HW.x0_objs, HW.x_objs] at e ⊢
    cases hc : isU8 P e0 with
    | false => simp [hc, hx] at e
    | true =>
      simp only [hc, cond_true] at e ⊢
      cases ho : h.objs.get k with
      | none => simp [ho, hx] at e
      | some o =>
        simp only [ho] at e ⊢
        cases hl : loadN o off n with
        | none => simp [hl, hx] at e
        | some ys =>
          simp only [hl] at e ⊢
          cases hb : bytesOf ys with
          | none => simp [hb, hx] at e
          | some ns => simp only [hb, hx, Option.some.injEq, Prod.mk.injEq] at e ⊢; obtain ⟨rfl, rfl⟩ := e; exact ⟨rfl, rfl⟩
  · cases e
theorem cm_range (t : TypeId) (x : SV) : Cm (semRange P t x) := by
  intro h y g e O p D
  unfold semRange at e ⊢
  split at e
  · exact cm_new (fun k => .ptr k 0) _ h y g e O p D
  · cases e
theorem cm_next (k : Nat) : Cm (semNext k) := by
  intro h y g e O p D
  unfold semNext at e ⊢
  simp only [HW.x0_objs, HW.x_objs] at e ⊢
  cases ho : h.objs.get k with
  | none => simp [ho, hx] at e
  | some o =>
    simp only [ho] at e ⊢
    cases hsp : o.sp with
    | iter s pos =>
      simp only [hsp] at e ⊢
      cases hb : Nat.blt pos s.size with
      | false => simp only [hb, cond_false, hx, Option.some.injEq, Prod.mk.injEq] at e ⊢; obtain ⟨rfl, rfl⟩ := e; exact ⟨rfl, rfl⟩
      | true => simp only [hb, cond_true, force_eq, hx, Option.some.injEq, Prod.mk.injEq] at e ⊢; obtain ⟨rfl, rfl⟩ := e; exact ⟨rfl, rfl⟩
    | _ => simp [hsp, hx] at e
theorem lookup_x (t : TypeId) (m k : SV) (ok : Bool) (h : HW) (O : List Bool) (p : List Prop) (D : List SD) : semLookup P t m k ok (h.x O p D) = semLookup P t m k ok h.x0 := rfl
theorem meth_x (x : SV) (name : String) (h : HW) (O : List Bool) (p : List Prop) (D : List SD) : methE P x name (h.x O p D) = methE P x name h.x0 := rfl
theorem cs_update (t : TypeId) (m k v : SV) : Cs (semUpdate P t m k v) := by
  intro h g e O p D
  unfold semUpdate at e ⊢
  split at e
  · rename_i kt _ j h1
    simp only [HW.x0_objs, HW.x_objs] at e ⊢
    cases ho : h.objs.get j with
    | none => simp [ho, hs] at e
    | some o =>
      simp only [ho] at e ⊢
      cases hsp : o.sp with
      | map es clock =>
        simp only [hsp] at e ⊢
        cases hk : keyNow P kt k with
        | false => simp [hk, hs] at e
        | true =>
          simp only [hk, cond_true] at e ⊢
          cases hf : findE k es 0 with
          | none => simp [hf, hs] at e
          | some r =>
            cases r with
            | none => simp only [hf, force_eq, hs, Option.some.injEq] at e ⊢; subst e; rfl
            | some q => obtain ⟨i, z⟩ := q; simp only [hf, hs, Option.some.injEq] at e ⊢; subst e; rfl
      | _ => simp [hsp, hs] at e
  · cases e
theorem elems_x (sz : Nat) (x : SV) (h : HW) (O : List Bool) (p : List Prop) (D : List SD) : appElems (h.x O p D) sz x = appElems h.x0 sz x := rfl
theorem cm_appIn (k off len : Nat) (cap : Option Nat) (lo need sz : Nat) (o : Ob) (news : List SV) : Cm (appIn k off len cap lo need sz o news) := by
  intro h y g e O p D
  unfold appIn at e ⊢
  cases hc : (Nat.ble (off + need * sz) o.n && !o.ro) with
  | false => simp [hc, hx] at e
  | true => simp only [hc, cond_true, hx, Option.some.injEq, Prod.mk.injEq] at e ⊢; obtain ⟨rfl, rfl⟩ := e; exact ⟨rfl, rfl⟩
theorem cm_appNew (e sz b need : Nat) (cells : List SV) : Cm (appNew e sz b need cells) := by
  unfold appNew
  cases (Nat.ble need 35184372088832 && Nat.ble (need * b) 35184372088832) with
  | false => exact cm_none
  | true => exact cm_loose (fun k => .sl k 0 need none 0) _ _ _
theorem cm_appOn (k len need sz b : Nat) (o : Ob) (news : List SV) : Cm (appOn k len need sz b o news) := by
  intro h y g e O p D
  unfold appOn at e ⊢
  cases hc : (Nat.ble (len * sz) o.n && (Nat.ble need 35184372088832 && Nat.ble (need * b) 35184372088832)) with
  | false => simp [hc, hx] at e
  | true => simp only [hc, cond_true, force_eq, hx, Option.some.injEq, Prod.mk.injEq] at e ⊢; obtain ⟨rfl, rfl⟩ := e; exact ⟨rfl, rfl⟩
theorem cm_appTo (e sz b k off len : Nat) (cap : Option Nat) (lo n : Nat) (news : List SV) : Cm (appTo e sz b k off len cap lo n news) := by
  intro h y g he O p D
  unfold appTo at he ⊢
  simp only [HW.x0_objs, HW.x_objs, force_eq] at he ⊢
  cases ho : h.objs.get k with
  | none => simp [ho, hx] at he
  | some o =>
    simp only [ho] at he ⊢
    cases cap with
    | some c =>
      simp only at he ⊢
      cases hc : Nat.ble (len + n) c with
      | true => simp only [hc, cond_true] at he ⊢; exact cm_appIn _ _ _ _ _ _ _ _ _ h y g he O p D
      | false =>
        simp only [hc, cond_false] at he ⊢
        cases hl : loadN o off (len * sz) with
        | none => simp [hl, hx] at he
        | some olds => simp only [hl] at he ⊢; exact cm_appNew _ _ _ _ _ h y g he O p D
    | none =>
      simp only at he ⊢
      cases hc : (Nat.beq off 0 && (Nat.beq lo 0 && (Nat.beq o.esz sz && (o.loose && (!o.ro && Nat.beq o.ty e))))) with
      | false => simp [hc, hx] at he
      | true =>
        simp only [hc, cond_true] at he ⊢
        cases hd : Nat.ble ((len + n) * sz) o.n with
        | true => simp only [hd, cond_true] at he ⊢; exact cm_appIn _ _ _ _ _ _ _ _ _ h y g he O p D
        | false => simp only [hd, cond_false] at he ⊢; exact cm_appOn _ _ _ _ _ _ _ h y g he O p D
theorem cm_append (t : TypeId) (s x : SV) : Cm (semAppend P t s x) := by
  intro h y g he O p D
  unfold semAppend at he ⊢
  simp only [elems_x]
  split at he <;> try (cases he; done)
  rename_i e _
  split at he <;> try (cases he; done)
  rename_i sz z b h1 h2 h3
  try simp only []
  split at he <;> try (cases he; done)
  rename_i n news h4
  cases hc : (Nat.ble 1 sz && (Nat.beq news.length (n * sz) && (allOne news && Nat.beq (mkV z).cells.length sz))) with
  | false => simp [hc, hx] at he
  | true =>
    simp only [hc, cond_true] at he ⊢
    split at he
    · rename_i a c
      cases ha : (Nat.beq a 0 && Nat.beq c 0) with
      | false => simp [ha, hx] at he
      | true =>
        simp only [ha, cond_true] at he ⊢
        cases hn : Nat.beq n 0 with
        | true => simp only [hn, cond_true, hx, Option.some.injEq, Prod.mk.injEq] at he ⊢; obtain ⟨rfl, rfl⟩ := he; exact ⟨rfl, rfl⟩
        | false => simp only [hn, cond_false] at he ⊢; exact cm_appNew _ _ _ _ _ h y g he O p D
    · exact cm_appTo _ _ _ _ _ _ _ _ _ _ h y g he O p D
    · rename_i k
      cases hn : Nat.beq n 0 with
      | true => simp only [hn, cond_true, hx, Option.some.injEq, Prod.mk.injEq] at he ⊢; obtain ⟨rfl, rfl⟩ := he; exact ⟨rfl, rfl⟩
      | false => simp [hn, hx] at he
    · cases he
theorem cm_copy (t : TypeId) (d x : SV) : Cm (semCopy P t d x) := by
  intro h y g he O p D
  unfold semCopy at he ⊢
  simp only [elems_x]
  split at he <;> try (cases he; done)
  rename_i e _
  split at he <;> try (cases he; done)
  rename_i sz h1
  try simp only []
  split at he <;> try (cases he; done)
  rename_i n news h4
  cases hc : (Nat.beq news.length (n * sz) && allOne news) with
  | false => simp [hc, hx] at he
  | true =>
    simp only [hc, cond_true] at he ⊢
    split at he
    · rename_i a c
      cases ha : Nat.beq a 0 with
      | false => simp [ha, hx] at he
      | true => simp only [ha, cond_true, hx, Option.some.injEq, Prod.mk.injEq] at he ⊢; obtain ⟨rfl, rfl⟩ := he; exact ⟨rfl, rfl⟩
    · rename_i k off len _ _
      simp only [HW.x0_objs, HW.x_objs, force_eq] at he ⊢
      cases ho : h.objs.get k with
      | none => simp [ho, hx] at he
      | some o =>
        simp only [ho] at he ⊢
        cases hd : (Nat.ble (off + len * sz) o.n && !o.ro) with
        | false => simp [hd, hx] at he
        | true => simp only [hd, cond_true, hx, Option.some.injEq, Prod.mk.injEq] at he ⊢; obtain ⟨rfl, rfl⟩ := he; exact ⟨rfl, rfl⟩
    · cases he
theorem cm_withX (r : Option SV) : Cm fun X => withX X r := by
  intro h y g e O p D
  cases r with
  | none => cases e
  | some z => simp only [withX, hx, Option.some.injEq, Prod.mk.injEq] at e ⊢; obtain ⟨rfl, rfl⟩ := e; exact ⟨rfl, rfl⟩
theorem cm_blt (b : Builtin) (ts : Array TypeId) (vs : List SV) : Cm (bltE P b ts vs) := by
  intro h y g e O p D
  unfold bltE at e ⊢
  split at e
  · split at e
    · rename_i t ht; try simp only [ht]
      exact cm_withX _ h y g e O p D
    · cases e
  · split at e
    · rename_i t ht; try simp only [ht]
      exact cm_withX _ h y g e O p D
    · cases e
  · exact cm_withX _ h y g e O p D
  · exact cm_withX _ h y g e O p D
  · split at e
    · rename_i t u h1 h2
      try simp only [h1, h2]
      split at e
      · rename_i d hd
        cases hn : noInt d with
        | false => simp [hn, hx] at e
        | true => simp only [hn, cond_true] at e ⊢; exact cm_append _ _ _ h y g e O p D
      · cases e
    · cases e
  · split at e
    · rename_i t ht; try simp only [ht]
      exact cm_copy _ _ _ h y g e O p D
    · cases e
  · cases e
end
end Go.Xe
