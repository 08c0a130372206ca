/- A part of an evaluator for the code. -/
import Derived.Test.YtoglpmfmnknlaaaGreatDoorXeYf
namespace Go.Xe

def Ext (f g : CallF) : Prop := ∀ c args X r, f c args X = some r → g c args X = some r
def DExt (f g : DCallF) : Prop := ∀ i args u X r, f i args u X = some r → g i args u X = some r
def EExt (f g : Tr SV → XW → R) : Prop := ∀ F X r, f F X = some r → g F X = some r
def JExt (f g : JumpF) : Prop := ∀ c d F X r, f c d F X = some r → g c d F X = some r
def CExt (f g : Code → Tr SV → XW → R) : Prop := ∀ c F X r, f c F X = some r → g c F X = some r

section
variable {P : Program} {f g : CallF} {N : Nat}
theorem evOpO_mono (hx : Ext f g) {o : Oper} {F : Tr SV} {X : XW} {r : Out × XW} (h : evOpO P f o F X = some r) : evOpO P g o F X = some r := by
  rw [evOpO_eq] at h ⊢
  cases hl : looks X.ng F o.op.operands.toList with
  | none => rw [hl] at h; cases h
  | some vals =>
    rw [hl] at h
    simp only [] at h ⊢
    generalize o.op = op at h
    cases op <;> try exact h
    rename_i c
    simp only [evV] at h ⊢
    split at h
    · exact h
    · rename_i hb
      split at h <;> try (cases h; done)
      rename_i cal args hc
      exact hx _ _ _ _ h
theorem evOp_mono (hx : Ext f g) {o : Oper} {F : Tr SV} {X : XW} {r : SV × XW} (h : evOp P f o F X = some r) : evOp P g o F X = some r := by
  obtain ⟨y, X'⟩ := r
  exact evOp_of (evOpO_mono hx (evOpO_ret h))
theorem stepE_mono (hx : Ext f g) {ops : List Oper} {o : Oper} {F : Tr SV} {X : XW} {r : Tr SV × XW} (h : stepE P f N ops o F X = some r) : stepE P g N ops o F X = some r := by
  unfold stepE at h ⊢
  split at h
  · rename_i X1 hw
    split at h <;> try (cases h; done)
    rename_i y X2 he
    simp only [evOp_mono hx he]; exact h
  · exact h
  · cases h
theorem stepO_mono (hx : Ext f g) {ops : List Oper} {o : Oper} {F : Tr SV} {X : XW} {r : Option Chain × Tr SV × XW} (h : stepO P f N ops o F X = some r) : stepO P g N ops o F X = some r := by
  unfold stepO at h ⊢
  split at h
  · rename_i X1 hw
    cases hd : isDefer o.op with
    | true => simp only [hd, cond_true] at h ⊢; exact h
    | false =>
      simp only [hd, cond_false] at h ⊢
      cases he : evOpO P f o F X1 with
      | none => simp [he] at h
      | some r' => rw [he] at h; rw [evOpO_mono hx he]; exact h
  · exact h
  · cases h
theorem evOps_mono (hx : Ext f g) {ops : List Oper} : ∀ {l : List Oper} {F : Tr SV} {X : XW} {r : Option Chain × Tr SV × XW}, evOps P f N ops l F X = some r → evOps P g N ops l F X = some r
  | [], F, X, r, h => h
  | o :: rest, F, X, r, h => by
    simp only [evOps] at h ⊢
    cases hs : stepO P f N ops o F X with
    | none => simp [hs] at h
    | some r' =>
      rw [hs] at h; rw [stepO_mono hx hs]
      obtain ⟨ch, F1, X1⟩ := r'
      cases ch with
      | none => exact evOps_mono hx h
      | some ch => exact h
theorem evD_mono (hx : Ext f g) {ops : List Oper} {chk : List (Nat × List Nat)} : ∀ {is : List Nat} {recs : List (Nat × Option Nat)} {F : Tr SV} {X : XW} {r : Tr SV × XW}, evD P f N ops chk is recs F X = some r → evD P g N ops chk is recs F X = some r
  | [], recs, F, X, r, h => h
  | k :: ks, recs, F, X, r, h => by
    simp only [evD] at h ⊢
    split at h <;> try (cases h; done)
    rename_i o ho
    cases hs : stepE P f N ops o F X with
    | none => simp [hs] at h
    | some r' =>
      rw [hs] at h; rw [stepE_mono hx hs]
      obtain ⟨F1, X1⟩ := r'
      simp only [] at h ⊢
      cases hc : chkOK recs X X1 (chkOf chk k) with
      | false => simp [hc] at h
      | true => simp only [hc, cond_true] at h ⊢; exact evD_mono hx h
theorem stepN_mono (hx : Ext f g) {ops : List Oper} {rs : List Nat} {base k : Nat} {o : Oper} {F : Tr SV} {X : XW} {r : Tr SV × XW} (h : stepN P f N ops rs base k o F X = some r) : stepN P g N ops rs base k o F X = some r := by
  unfold stepN at h ⊢
  cases hn : newR rs k o.op with
  | true => simp only [hn, cond_true] at h ⊢; exact h
  | false => simp only [hn, cond_false] at h ⊢; exact stepE_mono hx h
theorem evN_mono (hx : Ext f g) {ops : List Oper} {rs : List Nat} {chk : List (Nat × List Nat)} {base : Nat} : ∀ {is : List Nat} {recs : List (Nat × Option Nat)} {F : Tr SV} {X : XW} {r : Tr SV × XW}, evN P f N ops rs chk base is recs F X = some r → evN P g N ops rs chk base is recs F X = some r
  | [], recs, F, X, r, h => h
  | k :: ks, recs, F, X, r, h => by
    simp only [evN] at h ⊢
    split at h <;> try (cases h; done)
    rename_i o ho
    cases hl : lowRead P ops base o F X with
    | false => simp [hl] at h
    | true =>
      simp only [hl, cond_true] at h ⊢
      cases hs : stepN P f N ops rs base k o F X with
      | none => simp [hs] at h
      | some r' =>
        rw [hs] at h; rw [stepN_mono hx hs]
        obtain ⟨F1, X1⟩ := r'
        simp only [] at h ⊢
        cases hc : chkOK recs X X1 (chkOf chk k) with
        | false => simp [hc] at h
        | true => simp only [hc, cond_true] at h ⊢; exact evN_mono hx h
theorem loopE_mono {b b' : Tr SV → XW → R} (hb : EExt b b') : ∀ n, EExt (loopE b n) (loopE b' n)
  | 0 => fun F X r h => h
  | n + 1 => fun F X r h => by
    have h : (match b F X with | some (.nm, F, X) => loopE b n F X | r => r) = some r := h
    show (match b' F X with | some (.nm, F, X) => loopE b' n F X | r => r) = some r
    cases he : b F X with
    | none => rw [he] at h; cases h
    | some q =>
      rw [he] at h; rw [hb _ _ _ he]
      obtain ⟨ex, F1, X1⟩ := q
      cases ex with
      | nm => exact loopE_mono hb n F1 X1 r h
      | _ => exact h
theorem rangeE_mono (hx : Ext f g) {ord : Nat → Hint} {me : FuncId} {rd : Option Nat} {ps : Array Tmp} {a c : Code} {y : SV} : EExt (rangeE f ord me rd N ps a c y) (rangeE g ord me rd N ps a c y) := by
  intro F X r h
  unfold rangeE at h ⊢
  split at h
  · rename_i fi fa fb b X1 hb
    split at h
    · rename_i y' X2 he; rw [hx _ _ _ _ he]; exact h
    · rename_i ch X2 he; rw [hx _ _ _ _ he]; exact h
    · cases h
  · cases h
theorem evC_mono (hx : Ext f g) {ord : Nat → Hint} {me : FuncId} {rd : Option Nat} {lf : Nat} {j j' : JumpF} (hj : JExt j j') : CExt (evC P f ord me rd N lf j) (evC P g ord me rd N lf j') := by
  intro c
  induction c with
  | region id ops d =>
    intro F X r h
    cases d with
    | false =>
      simp only [evC] at h ⊢
      cases he : evOps P f N ops.toList ops.toList F X with
      | none => simp [he] at h
      | some q => rw [he] at h; rw [evOps_mono hx he]; exact h
    | true =>
      simp only [evC] at h ⊢
      cases ho : ord id with
      | text =>
        simp only [ho] at h ⊢
        cases he : evD P f N ops.toList [] (List.range ops.size) [] F { X with orc := [] } with
        | none => simp [he] at h
        | some q => rw [he] at h; rw [evD_mono hx he]; exact h
      | skip => simp [ho] at h
      | ord is chk =>
        simp only [ho] at h ⊢
        cases he : evD P f N ops.toList chk is [] F { X with orc := [] } with
        | none => simp [he] at h
        | some q => rw [he] at h; rw [evD_mono hx he]; exact h
      | news is rs chk =>
        simp only [ho, force_eq] at h ⊢
        cases hd : allDead X X.next rs with
        | false => simp [hd] at h
        | true =>
          simp only [hd, cond_true] at h ⊢
          cases he : evN P f N ops.toList rs chk X.next is [] F { X with orc := [], next := X.next + ops.size } with
          | none => simp [he] at h
          | some q => rw [he] at h; rw [evN_mono hx he]; exact h
  | seq a b iha ihb =>
    intro F X r h
    simp only [evC] at h ⊢
    cases he : evC P f ord me rd N lf j a F X with
    | none => simp [he] at h
    | some q =>
      rw [he] at h; rw [iha _ _ _ he]
      obtain ⟨ex, F1, X1⟩ := q
      cases ex with
      | nm => exact ihb _ _ _ h
      | _ => exact h
  | cond x a b iha ihb =>
    intro F X r h
    simp only [evC] at h ⊢
    split at h <;> try (cases h; done)
    rename_i y hy
    split at h
    · exact iha _ _ _ h
    · exact ihb _ _ _ h
    · cases h
  | block id c ih =>
    intro F X r h
    simp only [evC] at h ⊢
    cases he : evC P f ord me rd N lf j c F X with
    | none => simp [he] at h
    | some q => rw [he] at h; rw [ih _ _ _ he]; exact h
  | loop c ih =>
    intro F X r h
    exact loopE_mono (fun F X r h => ih F X r h) lf F X r h
  | scope c ih =>
    intro F X r h
    simp only [evC] at h ⊢
    cases he : evC P f ord me rd N lf j c F X with
    | none => simp [he] at h
    | some q =>
      rw [he] at h; rw [ih _ _ _ he]
      obtain ⟨ex, F1, X1⟩ := q
      cases ex with
      | gt l =>
        simp only [] at h ⊢
        split at h
        · exact hj _ _ _ _ _ h
        · exact h
      | _ => exact h
  | rangeFunc x ps a c iha ihc =>
    intro F X r h
    simp only [evC] at h ⊢
    split at h <;> try (cases h; done)
    exact rangeE_mono hx _ _ _ h
  | _ => intro F X r h; exact h
theorem jumpE_mono (hx : Ext f g) {ord : Nat → Hint} {me : FuncId} {rd : Option Nat} {lf : Nat} : ∀ n, JExt (jumpE P f ord me rd N lf n) (jumpE P g ord me rd N lf n)
  | 0 => fun _ _ _ _ _ h => h
  | n + 1 => fun c d F X r h => by
    have h : (match evC P f ord me rd N lf (jumpE P f ord me rd N lf n) d F X with
      | some (.gt l, F, X) => (match findLabel c l with
        | some rest => jumpE P f ord me rd N lf n c rest F X
        | none => some (.gt l, F, X))
      | r => r) = some r := h
    show (match evC P g ord me rd N lf (jumpE P g ord me rd N lf n) d F X with
      | some (.gt l, F, X) => (match findLabel c l with
        | some rest => jumpE P g ord me rd N lf n c rest F X
        | none => some (.gt l, F, X))
      | r => r) = some r
    cases he : evC P f ord me rd N lf (jumpE P f ord me rd N lf n) d F X with
    | none => rw [he] at h; cases h
    | some q =>
      rw [he] at h; rw [evC_mono hx (jumpE_mono hx n) _ _ _ _ he]
      obtain ⟨ex, F1, X1⟩ := q
      cases ex with
      | gt l =>
        simp only [] at h ⊢
        split at h
        · exact jumpE_mono hx n _ _ _ _ _ h
        · exact h
      | _ => exact h
theorem evCj_mono (hx : Ext f g) {ord : Nat → Hint} {me : FuncId} {rd : Option Nat} {lf : Nat} : CExt (evC P f ord me rd N lf (jumpE P f ord me rd N lf lf)) (evC P g ord me rd N lf (jumpE P g ord me rd N lf lf)) :=
  evC_mono hx (jumpE_mono hx lf)
theorem evCD_mono {ev ev' : Code → Tr SV → XW → R} (he : CExt ev ev') : ∀ (c : Code) {F : Tr SV} {X : XW} {u : Mode} {r : Ex × Tr SV × XW × Mode}, evCD P N ev c F X u = some r → evCD P N ev' c F X u = some r := by
  intro c
  have base : ∀ (c : Code) {F : Tr SV} {X : XW} {u : Mode} {r : Ex × Tr SV × XW × Mode}, (match ev c F X with | some (ex, F, X) => some (ex, F, X, u) | none => none) = some r → (match ev' c F X with | some (ex, F, X) => some (ex, F, X, u) | none => none) = some r := by
    intro c F X u r h
    cases hc : ev c F X with
    | none => simp [hc] at h
    | some q => rw [hc] at h; rw [he _ _ _ _ hc]; exact h
  induction c with
  | seq a b iha ihb =>
    intro F X u r h
    simp only [evCD] at h ⊢
    cases hc : evCD P N ev a F X u with
    | none => simp [hc] at h
    | some q =>
      rw [hc] at h; rw [iha hc]
      obtain ⟨ex, F1, X1, u1⟩ := q
      cases ex with
      | nm => exact ihb h
      | _ => exact h
  | cond x a b iha ihb =>
    intro F X u r h
    simp only [evCD] at h ⊢
    split at h <;> try (cases h; done)
    split at h
    · exact iha h
    · exact ihb h
    · cases h
  | region id ops d =>
    intro F X u r h
    cases d with
    | true => exact base _ h
    | false =>
      simp only [evCD] at h ⊢
      cases hr : hasRec ops.toList with
      | true => simp only [hr, cond_true] at h ⊢; exact h
      | false => simp only [hr, cond_false] at h ⊢; exact base _ h
  | _ => intro F X u r h; exact base _ h
theorem round_mono {ev ev' : Code → Tr SV → XW → R} (he : CExt ev ev') {k : Nat} {F : Tr SV} {ps : Array Tmp} {a c : Code} {args : List SV} {X : XW} {r : Out × XW} (h : roundE ev k N F ps a c args X = some r) : roundE ev' k N F ps a c args X = some r := by
  unfold roundE at h ⊢
  cases hb : Nat.beq args.length ps.size with
  | false => simp [hb] at h
  | true =>
    simp only [hb, cond_true] at h ⊢
    split at h <;> try (cases h; done)
    rename_i F1 X1 h1
    rw [he _ _ _ _ h1]
    simp only [] at h ⊢
    split at h <;> try (cases h; done)
    rename_i o ho
    cases hr : isReady o with
    | false => simp [hr] at h
    | true =>
      simp only [hr, cond_true] at h ⊢
      split at h <;> try (cases h; done)
      rename_i X2 h2
      try simp only [h2] at h ⊢
      cases hc : ev c F1 X2 with
      | none => simp [hc] at h
      | some q => rw [hc] at h; rw [he _ _ _ _ hc]; exact h
theorem leave_mono {d d' : DCallF} (hd : DExt d d') {fn : Func} {F : Tr SV} : ∀ {D : List SD} {u : Mode} {X : XW} {r : Out × XW}, leaveE P d fn F D u X = some r → leaveE P d' fn F D u X = some r
  | [], u, X, r, h => by cases u <;> exact h
  | .coll k :: ds, u, X, r, h => by
    simp only [leaveE] at h ⊢
    split at h <;> try (cases h; done)
    split at h <;> try (cases h; done)
    exact leave_mono hd h
  | .call i xs ys :: ds, u, X, r, h => by
    simp only [leaveE] at h ⊢
    cases hc : d i (xs ++ ys) u X with
    | none => simp [hc] at h
    | some q =>
      rw [hc] at h; rw [hd _ _ _ _ _ hc]
      obtain ⟨o, u1, X1⟩ := q
      cases o <;> exact leave_mono hd h
theorem fin_mono {d d' : DCallF} (hd : DExt d d') {fn : Func} {r : R} {q : Out × XW} (h : finE P d fn r = some q) : finE P d' fn r = some q := by
  unfold finE at h ⊢
  split at h
  · exact leave_mono hd h
  · exact leave_mono hd h
  · exact leave_mono hd h
  · cases h
theorem go_mono {e e' : Evs} (hc : Ext e.call e'.call) (hd : DExt e.dcall e'.dcall) {xf : XF P} {lf : Nat} {i : FuncId} {args : List SV} {X : XW} {r : Out × XW} (h : goE e xf lf i args X = some r) : goE e' xf lf i args X = some r := by
  unfold goE bodyE at h ⊢
  cases hb : (Nat.beq xf.f i && Nat.ble args.length xf.fn.ntmps) with
  | false => simp [hb] at h
  | true =>
    simp only [hb, cond_true] at h ⊢
    cases he : evC P e.call xf.ord xf.f none xf.fn.ntmps lf (jumpE P e.call xf.ord xf.f none xf.fn.ntmps lf lf) (xf.fn.body.getD .skip) (storeN .nil 0 args) { X with dfs := [] } with
    | none => rw [he] at h; cases h
    | some q =>
      rw [he] at h; rw [evCj_mono hc _ _ _ _ he]
      cases hf : finE P e.dcall xf.fn (some q) with
      | none => rw [hf] at h; cases h
      | some z => rw [hf] at h; rw [fin_mono hd hf]; exact h
end
end Go.Xe
