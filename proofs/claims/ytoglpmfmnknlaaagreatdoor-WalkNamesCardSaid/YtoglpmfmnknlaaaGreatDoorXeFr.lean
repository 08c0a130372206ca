/- A part of an evaluator for the code. -/
import Derived.Test.YtoglpmfmnknlaaaGreatDoorXeK
namespace Go.Xe

def XW.add (X : XW) (m : Nat) (ob : Ob) : XW := { X with objs := X.objs.put m ob }

structure Free (X : XW) (m : Nat) : Prop where
  dead : X.objs.get m = none
  lt : m < X.next

theorem Free.keeps {X X' : XW} {m : Nat} (h : Free X m) (k : Keeps X X') : Free X' m := ⟨k.dead m h.lt h.dead, Nat.lt_of_lt_of_le h.lt k.next⟩

section
variable {P : Program} {X X' : XW} {m : Nat} {ob : Ob}

theorem add_get (h : Free X m) {k : Nat} {o : Ob} (hk : X.objs.get k = some o) : (X.add m ob).objs.get k = some o ∧ k ≠ m := by
  have hne : k ≠ m := fun e => by rw [e, h.dead] at hk; cases hk
  refine ⟨?_, hne⟩
  show (X.objs.put m ob).get k = some o
  rw [Hp.get_put, if_neg hne]; exact hk

theorem add_new (h : Free X m) (o : Ob) : ((X.add m ob).new o) = ((X.new o).1, ((X.new o).2).add m ob) := by
  unfold XW.new XW.add
  simp only [Prod.mk.injEq, true_and]
  rw [Hp.put_comm _ _ _ (by have := h.lt; omega)]

theorem add_newRow (h : Free X m) (ty : TypeId) (cells : List SV) : newRow (X.add m ob) ty cells = ((newRow X ty cells).1, (newRow X ty cells).2.add m ob) := by
  unfold newRow; simp only [force_eq]; exact add_new h _
theorem add_newPat (h : Free X m) (ty : TypeId) (n : Nat) (cells : List SV) : newPat (X.add m ob) ty n cells = ((newPat X ty n cells).1, (newPat X ty n cells).2.add m ob) := by
  unfold newPat; simp only [force_eq]; exact add_new h _
theorem add_newLoose (h : Free X m) (ty esz : Nat) (cells : List SV) : newLoose (X.add m ob) ty esz cells = ((newLoose X ty esz cells).1, (newLoose X ty esz cells).2.add m ob) := by
  unfold newLoose; simp only [force_eq]; exact add_new h _

theorem add_set (h : Free X m) {k : Nat} {o o' : Ob} (hk : X.objs.get k = some o) : ({ X.add m ob with objs := (X.add m ob).objs.put k o' } : XW) = ({ X with objs := X.objs.put k o' } : XW).add m ob := by
  obtain ⟨_, hne⟩ := add_get (ob := ob) h hk
  unfold XW.add
  simp only [XW.mk.injEq, true_and, and_true]
  exact Hp.put_comm _ _ _ (fun e => hne e.symm)

theorem asB_frame {y : SV} {b : Bool} (h : asB X y = some (b, X')) : asB (X.add m ob) y = some (b, X'.add m ob) := by
  cases y with
  | bool c => simp only [asB, Option.some.injEq, Prod.mk.injEq] at h ⊢; obtain ⟨rfl, rfl⟩ := h; exact ⟨rfl, rfl⟩
  | val x =>
    cases x with
    | bool s =>
      simp only [asB, XW.ask] at h
      split at h
      · rename_i o os ho
        cases h
        have : (X.add m ob).orc = _ :: os := ho
        simp only [asB, XW.ask, this]; rfl
      · cases h
    | _ => simp [asB] at h
  | _ => simp [asB] at h

theorem withX_frame {o : Option SV} {y : SV} (h : withX X o = some (y, X')) : withX (X.add m ob) o = some (y, X'.add m ob) := by
  obtain ⟨rfl, rfl⟩ := withX_some h; rfl

theorem load_frame (hf : Free X m) {t : TypeId} {k off : Nat} {y : SV} (h : semLoad P t X k off = some y) : semLoad P t (X.add m ob) k off = some y := by
  unfold semLoad at h ⊢
  cases hk : X.objs.get k with
  | none => simp [hk] at h
  | some o => rw [hk] at h; rw [(add_get hf hk).1]; exact h

theorem elems_frame (hf : Free X m) {sz n : Nat} {x : SV} {ys : List SV} (h : appElems X sz x = some (n, ys)) : appElems (X.add m ob) sz x = some (n, ys) := by
  unfold appElems at h ⊢
  split at h
  · split at h <;> try (cases h; done)
    rename_i o ho
    simp only [(add_get hf ho).1]; exact h
  · exact h
  · exact h
  · exact h
  · cases h

theorem store_frame (hf : Free X m) {t : TypeId} {k off : Nat} {y : SV} (h : semStore P t X k off y = some X') : semStore P t (X.add m ob) k off y = some (X'.add m ob) := by
  unfold semStore at h ⊢
  split at h <;> try (cases h; done)
  rename_i o n ho hn
  simp only [(add_get hf ho).1, hn]
  generalize (Nat.beq _ _ && _ && _ && _) = b at h ⊢
  cases b <;> simp only [cond_true, cond_false, Option.some.injEq, reduceCtorEq] at h ⊢
  subst h
  exact add_set hf ho

theorem appNew_frame (hf : Free X m) {e sz b need : Nat} {cells : List SV} {y : SV} (h : appNew e sz b need cells X = some (y, X')) : appNew e sz b need cells (X.add m ob) = some (y, X'.add m ob) := by
  unfold appNew at h ⊢
  generalize (Nat.ble _ _ && _) = c at h ⊢
  cases c <;> simp only [cond_true, cond_false, Option.some.injEq, Prod.mk.injEq, reduceCtorEq] at h ⊢
  obtain ⟨rfl, rfl⟩ := h
  rw [add_newLoose hf]
  exact ⟨rfl, rfl⟩

theorem appIn_frame (hf : Free X m) {k off len lo need sz : Nat} {cap : Option Nat} {o : Ob} {ny : List SV} {y : SV} (ho : X.objs.get k = some o) (h : appIn k off len cap lo need sz o ny X = some (y, X')) :
    appIn k off len cap lo need sz o ny (X.add m ob) = some (y, X'.add m ob) := by
  unfold appIn at h ⊢
  generalize (Nat.ble _ _ && _) = c at h ⊢
  cases c <;> simp only [cond_true, cond_false, Option.some.injEq, Prod.mk.injEq, reduceCtorEq] at h ⊢
  obtain ⟨rfl, rfl⟩ := h
  exact ⟨rfl, add_set hf ho⟩

theorem appOn_frame (hf : Free X m) {k len need sz b : Nat} {o : Ob} {ny : List SV} {y : SV} (ho : X.objs.get k = some o) (h : appOn k len need sz b o ny X = some (y, X')) :
    appOn k len need sz b o ny (X.add m ob) = some (y, X'.add m ob) := by
  unfold appOn at h ⊢
  generalize (Nat.ble _ _ && (_ && _)) = c at h ⊢
  cases c <;> simp only [cond_true, cond_false, force_eq, Option.some.injEq, Prod.mk.injEq, reduceCtorEq] at h ⊢
  obtain ⟨rfl, rfl⟩ := h
  refine ⟨rfl, ?_⟩
  obtain ⟨_, hne⟩ := add_get (ob := ob) hf ho
  have hlt := hf.lt
  unfold XW.add
  simp only [XW.mk.injEq, true_and, and_true]
  rw [← Hp.del_put _ _ hne, Hp.put_comm _ _ _ (by omega)]

theorem append_frame (hf : Free X m) {t : TypeId} {s x y : SV} (h : semAppend P t s x X = some (y, X')) : semAppend P t s x (X.add m ob) = some (y, X'.add m ob) := by
  unfold semAppend at h ⊢
  split at h <;> try (cases h; done)
  rename_i e ht
  split at h <;> try (cases h; done)
  rename_i sz z b hs hz hb
  split at h <;> try (cases h; done)
  rename_i n ny hel
  simp only [elems_frame hf hel]
  generalize (Nat.ble _ _ && (_ && (_ && _))) = c at h ⊢
  cases c <;> simp only [cond_true, cond_false, reduceCtorEq] at h ⊢
  split at h
  · rename_i a c
    try simp only []
    generalize (Nat.beq a 0 && _) = b1 at h ⊢
    cases b1 <;> simp only [cond_true, cond_false, reduceCtorEq] at h ⊢
    generalize Nat.beq _ 0 = b2 at h ⊢
    cases b2 <;> simp only [cond_true, cond_false] at h ⊢
    · exact appNew_frame hf h
    · cases h; rfl
  · try simp only []
    unfold appTo at h ⊢
    split at h <;> try (cases h; done)
    rename_i o ho
    simp only [(add_get hf ho).1]
    rw [force_eq] at h ⊢
    split at h
    · try simp only []
      generalize Nat.ble _ _ = b1 at h ⊢
      cases b1 <;> simp only [cond_true, cond_false] at h ⊢
      · split at h <;> try (cases h; done)
        exact appNew_frame hf h
      · exact appIn_frame hf ho h
    · try simp only []
      generalize (Nat.beq _ _ && (_ && (_ && (_ && (_ && _))))) = b1 at h ⊢
      cases b1 <;> simp only [cond_true, cond_false, reduceCtorEq] at h ⊢
      generalize Nat.ble _ _ = b2 at h ⊢
      cases b2 <;> simp only [cond_true, cond_false] at h ⊢
      · exact appOn_frame hf ho h
      · exact appIn_frame hf ho h
  · generalize Nat.beq _ 0 = b1 at h ⊢
    cases b1 <;> simp only [cond_true, cond_false, reduceCtorEq] at h ⊢
    cases h; rfl
  · cases h

theorem copy_frame (hf : Free X m) {t : TypeId} {s x y : SV} (h : semCopy P t s x X = some (y, X')) : semCopy P t s x (X.add m ob) = some (y, X'.add m ob) := by
  unfold semCopy at h ⊢
  split at h <;> try (cases h; done)
  rename_i e ht
  split at h <;> try (cases h; done)
  rename_i sz hs
  split at h <;> try (cases h; done)
  rename_i n ny hel
  simp only [elems_frame hf hel]
  generalize (Nat.beq _ _ && _) = c at h ⊢
  cases c <;> simp only [cond_true, cond_false, reduceCtorEq] at h ⊢
  split at h
  · try simp only []
    generalize Nat.beq _ _ = b1 at h ⊢
    cases b1 <;> simp only [cond_true, cond_false, reduceCtorEq] at h ⊢
    cases h; rfl
  · try simp only []
    split at h <;> try (cases h; done)
    rename_i o ho
    simp only [(add_get hf ho).1]
    rw [force_eq] at h ⊢
    generalize (Nat.ble _ _ && _) = b1 at h ⊢
    cases b1 <;> simp only [cond_true, cond_false, Option.some.injEq, Prod.mk.injEq, reduceCtorEq] at h ⊢
    obtain ⟨rfl, rfl⟩ := h
    exact ⟨rfl, add_set hf ho⟩
  · cases h

theorem blt_frame (hf : Free X m) {b : Builtin} {ts : Array TypeId} {vals : List SV} {y : SV} (h : bltE P b ts vals X = some (y, X')) : bltE P b ts vals (X.add m ob) = some (y, X'.add m ob) := by
  unfold bltE at h ⊢
  split at h
  · split at h <;> try (cases h; done)
    rename_i ht
    exact withX_frame h
  · split at h <;> try (cases h; done)
    rename_i ht
    exact withX_frame h
  · exact withX_frame h
  · exact withX_frame h
  · split at h <;> try (cases h; done)
    rename_i ht hu
    split at h <;> try (cases h; done)
    rename_i hd
    generalize noInt _ = b1 at h ⊢
    cases b1 <;> simp only [cond_true, cond_false, reduceCtorEq] at h ⊢
    exact append_frame hf h
  · split at h <;> try (cases h; done)
    rename_i ht
    exact copy_frame hf h
  · cases h

theorem convX_frame (hf : Free X m) {s d : TypeId} {x y : SV} (h : convX P s d x X = some (y, X')) : convX P s d x (X.add m ob) = some (y, X'.add m ob) := by
  unfold convX at h ⊢
  split at h
  · generalize (isU8 P _ && _) = b at h ⊢
    cases b <;> simp only [cond_true, cond_false, Option.some.injEq, Prod.mk.injEq, reduceCtorEq] at h ⊢
    obtain ⟨rfl, rfl⟩ := h
    rw [add_newLoose hf]
    exact ⟨rfl, rfl⟩
  · generalize (isU8 P _ && _) = b at h ⊢
    cases b <;> simp only [cond_true, cond_false, reduceCtorEq] at h ⊢
    split at h <;> try (cases h; done)
    rename_i o ho
    simp only [(add_get hf ho).1]
    cases hr : o.ro <;> simp only [hr, cond_true, cond_false, reduceCtorEq] at h ⊢
    cases h; rfl
  · generalize isU8 P _ = b at h ⊢
    cases b <;> simp only [cond_true, cond_false, reduceCtorEq] at h ⊢
    cases h; rfl
  · generalize isU8 P _ = b at h ⊢
    cases b <;> simp only [cond_true, cond_false, reduceCtorEq] at h ⊢
    split at h <;> try (cases h; done)
    rename_i o ho
    split at h <;> try (cases h; done)
    rename_i ys hys
    split at h <;> try (cases h; done)
    rename_i ns hns
    simp only [(add_get hf ho).1, hys, hns]
    cases h; rfl
  · cases h

theorem range_frame (hf : Free X m) {t : TypeId} {x y : SV} (h : semRange P t x X = some (y, X')) : semRange P t x (X.add m ob) = some (y, X'.add m ob) := by
  unfold semRange at h ⊢
  split at h <;> cases h
  simp only [add_new hf]

theorem next_frame (hf : Free X m) {k : Nat} {y : SV} (h : semNext k X = some (y, X')) : semNext k (X.add m ob) = some (y, X'.add m ob) := by
  unfold semNext at h ⊢
  split at h <;> try (cases h; done)
  rename_i o ho
  split at h <;> try (cases h; done)
  rename_i s pos hit
  simp only [(add_get hf ho).1, hit]
  generalize Nat.blt _ _ = b at h ⊢
  cases b <;> simp only [cond_true, cond_false, force_eq, Option.some.injEq, Prod.mk.injEq] at h ⊢
  · obtain ⟨rfl, rfl⟩ := h; exact ⟨rfl, rfl⟩
  · obtain ⟨rfl, rfl⟩ := h; exact ⟨rfl, add_set hf ho⟩

def FrameOK (callf : CallF) : Prop := ∀ f args X y X' m ob, callf f args X = some (y, X') → Free X m → callf f args (X.add m ob) = some (y, X'.add m ob)

theorem newMap_frame (hf : Free X m) : newMap (X.add m ob) = ((newMap X).1, (newMap X).2.add m ob) := add_new hf _

theorem entriesOf_frame (hf : Free X m) {k : Nat} {r : List (SV × SV × Nat) × Nat} (h : entriesOf X k = some r) : entriesOf (X.add m ob) k = some r := by
  unfold entriesOf at h ⊢
  split at h <;> try (cases h; done)
  rename_i o ho
  simp only [(add_get hf ho).1]; exact h

theorem lookup_frame (hf : Free X m) {t : TypeId} {a k z : SV} {ok : Bool} (h : semLookup P t a k ok X = some z) : semLookup P t a k ok (X.add m ob) = some z := by
  unfold semLookup at h ⊢
  split at h <;> try (cases h; done)
  rename_i kt e hu
  split at h <;> try (cases h; done)
  rename_i es zv hes hz
  have : mapOf a (X.add m ob) = some es := by
    unfold mapOf at hes ⊢
    split at hes
    · exact hes
    · split at hes <;> try (cases hes; done)
      rename_i es' clock hen
      rw [entriesOf_frame hf hen]; exact hes
    · cases hes
  rw [this, hz]
  exact h

theorem update_frame (hf : Free X m) {t : TypeId} {a k v : SV} (h : semUpdate P t a k v X = some X') : semUpdate P t a k v (X.add m ob) = some (X'.add m ob) := by
  unfold semUpdate at h ⊢
  split at h <;> try (cases h; done)
  rename_i kt e j hu
  split at h <;> try (cases h; done)
  rename_i o ho
  simp only [(add_get hf ho).1]
  split at h <;> try (cases h; done)
  rename_i es clock hs
  cases hn : keyNow P kt k with
  | false => simp [hn] at h
  | true =>
  simp only [hn, cond_true] at h ⊢
  split at h
  · rename_i i w hfd
    cases h
    rw [add_set hf ho]
  · rename_i hfd
    rw [force_eq] at h ⊢
    cases h
    rw [add_set hf ho]
  · cases h

theorem meth_frame (hf : Free X m) {x : SV} {name : String} {r : FuncId × SV} (h : methE P x name X = some r) : methE P x name (X.add m ob) = some r := by
  unfold methE at h ⊢
  split at h <;> try (cases h; done)
  split at h <;> try (cases h; done)
  split at h <;> try (cases h; done)
  rename_i mm hm
  cases hp : mm.path.isEmpty with
  | false => simp [hp] at h
  | true =>
  simp only [hp, cond_true] at h ⊢
  split at h
  · exact h
  · split at h <;> try (cases h; done)
    rename_i hz
    rw [load_frame hf hz]; exact h
  · cases h
  · exact h
  · cases h

theorem calE_frame (hf : Free X m) {c : Call} {vals : List SV} {r : Cal × List SV} (h : calE P c vals X = some r) : calE P c vals (X.add m ob) = some r := by
  unfold calE at h ⊢
  split at h
  · exact h
  · split at h <;> try (cases h; done)
    split at h <;> try (cases h; done)
    rename_i hm
    rw [meth_frame hf hm]; exact h
  · cases h

theorem sem_frame (hf : Free X m) {op : Op} {vals : List SV} {y : SV} (h : sem P op vals X = some (y, X')) : sem P op vals (X.add m ob) = some (y, X'.add m ob) := by
  unfold sem at h
  split at h
  case h_3 =>
    unfold semPick at h
    split at h
    · rename_i hb; cases h; simp only [sem, semPick, asB_frame (m := m) (ob := ob) hb]
    · rename_i hb; cases h; simp only [sem, semPick, asB_frame (m := m) (ob := ob) hb]
    · cases h
  case h_4 =>
    unfold semAlloc at h
    split at h <;> cases h
    rename_i z hz
    simp only [sem, semAlloc, hz, add_newRow hf]
  case h_5 =>
    unfold semBox at h
    rename_i x
    cases hx : x.flat <;> simp only [hx, cond_false, cond_true] at h <;> cases h
    simp only [sem, semBox, hx, cond_true, add_newRow hf]
  case h_7 =>
    unfold semBuildSlice at h
    split at h <;> try (cases h; done)
    rename_i e hu
    split at h <;> try (cases h; done)
    rename_i s z hs hz
    generalize hc : (Nat.ble _ _ && Nat.ble 1 s && _) = b at h
    cases b <;> simp only [cond_true, cond_false] at h
    · cases h
    · split at h <;> cases h
      rename_i cs hcs
      simp only [sem, semBuildSlice, hu, hs, hz, hc, cond_true, hcs, add_newRow hf]
  case h_8 =>
    obtain ⟨h', rfl⟩ := withX_some h
    simp only [sem, load_frame hf h', withX]
  case h_9 =>
    split at h <;> cases h
    rename_i X1 hs
    simp only [sem, store_frame hf hs]
  case h_13 =>
    split at h
    · rename_i hc; cases h; simp only [sem, hc]
    · rename_i hc; simp only [sem, hc]; exact convX_frame hf h
  case h_16 =>
    unfold semMake at h
    split at h <;> try (cases h; done)
    rename_i e hu
    split at h <;> try (cases h; done)
    rename_i l c hl hcc
    split at h <;> try (cases h; done)
    rename_i s z b hs hz hb
    generalize hc : (Nat.ble _ _ && _ && _ && _ && _) = b at h
    cases b <;> simp only [cond_true, cond_false] at h <;> cases h
    simp only [sem, semMake, hu, hl, hcc, hs, hz, hb, hc, cond_true, add_newPat hf]
  all_goals first
    | (cases h; rfl)
    | (obtain ⟨h', rfl⟩ := withX_some h; simp only [sem, withX, h']; done)
    | (obtain ⟨h', rfl⟩ := withX_some h; simp only [sem, lookup_frame hf h', withX]; done)
    | (cases h; simp only [sem, newMap_frame hf]; done)
    | (split at h <;> cases h; rename_i hu; simp only [sem, update_frame hf hu]; done)
    | (cases h; done)
    | (simp only [sem]; exact range_frame hf h)
    | (simp only [sem]; exact next_frame hf h)

theorem evOp_frame {callf : CallF} (hfr : FrameOK callf) (hf : Free X m) {o : Oper} {F : Tr SV} {y : SV} (h : evOp P callf o F X = some (y, X')) : evOp P callf o F (X.add m ob) = some (y, X'.add m ob) := by
  unfold evOp at h ⊢
  split at h <;> try (cases h; done)
  rename_i vals hl
  have hl' : looks (X.add m ob).ng F o.op.operands.toList = some vals := hl
  simp only [hl']
  split at h
  · unfold evCall at h ⊢
    split at h
    · exact blt_frame hf h
    · split at h <;> try (cases h; done)
      rename_i hcal
      rw [calE_frame hf hcal]
      unfold callV at h ⊢
      split at h <;> try (cases h; done)
      rename_i hz
      cases h
      simp only [hfr _ _ _ _ _ _ _ hz hf]
  · exact sem_frame hf h

theorem evOpO_frame {callf : CallF} (hfr : FrameOK callf) (hf : Free X m) {o : Oper} {F : Tr SV} {y : Out} (h : evOpO P callf o F X = some (y, X')) : evOpO P callf o F (X.add m ob) = some (y, X'.add m ob) := by
  have panF : ∀ {vals : List SV}, panE vals X = some (y, X') → panE vals (X.add m ob) = some (y, X'.add m ob) := by
    intro vals h
    unfold panE at h ⊢
    split at h <;> cases h
    rfl
  have retK : ∀ {r : Option (SV × XW)}, retO r = some (y, X') → ∃ z, y = .ret z ∧ r = some (z, X') := by
    intro r hr
    unfold retO at hr
    split at hr <;> cases hr
    exact ⟨_, rfl, rfl⟩
  unfold evOpO at h ⊢
  split at h <;> try (cases h; done)
  rename_i vals hl
  have hl' : looks (X.add m ob).ng F o.op.operands.toList = some vals := hl
  simp only [hl']
  split at h
  · split at h
    · rename_i b _
      cases hb : isPanB b with
      | true => rw [hb] at h; exact panF h
      | false =>
        rw [hb] at h
        obtain ⟨z, rfl, h3⟩ := retK h
        simp only [cond_false, blt_frame hf h3, retO]
    · split at h <;> try (cases h; done)
      rename_i hcal
      rw [calE_frame hf hcal]
      exact hfr _ _ _ _ _ _ _ h hf
  · exact panF h
  · obtain ⟨z, rfl, h3⟩ := retK h
    simp only [sem_frame hf h3, retO]

theorem want_frame {ops : List Oper} {F : Tr SV} {g : Option (Nat × Bool)} {b : Bool} (h : wantE ops F X g = some (b, X')) : wantE ops F (X.add m ob) g = some (b, X'.add m ob) := by
  unfold wantE at h ⊢
  split at h
  · cases h; rfl
  · split at h <;> try (cases h; done)
    split at h <;> try (cases h; done)
    split at h <;> try (cases h; done)
    rename_i y _
    unfold asW at h
    cases ht : isTup y with
    | true =>
      simp only [ht, cond_true, Option.some.injEq, Prod.mk.injEq] at h
      obtain ⟨rfl, rfl⟩ := h
      simp [*, asW]
    | false =>
      simp only [ht, cond_false] at h
      split at h <;> try (cases h; done)
      rename_i hb
      cases h
      simp [*, asW, asB_frame (m := m) (ob := ob) hb]

theorem stepV_frame {callf : CallF} (hfr : FrameOK callf) (hf : Free X m) {ops : List Oper} {o : Oper} {F : Tr SV} {y : SV} (h : stepV P callf ops o F X = some (y, X')) : stepV P callf ops o F (X.add m ob) = some (y, X'.add m ob) := by
  unfold stepV at h ⊢
  split at h
  · rename_i X1 hw
    rw [want_frame (m := m) (ob := ob) hw]
    exact evOp_frame hfr (hf.keeps (want_keeps hw)) h
  · rename_i X1 hw
    rw [want_frame (m := m) (ob := ob) hw]
    cases h; rfl
  · cases h

theorem stepE_frame {callf : CallF} (hfr : FrameOK callf) (hf : Free X m) {N : Nat} {ops : List Oper} {o : Oper} {F F' : Tr SV} (h : stepE P callf N ops o F X = some (F', X')) : stepE P callf N ops o F (X.add m ob) = some (F', X'.add m ob) := by
  obtain ⟨y, hy, rfl⟩ := stepE_eq.1 h
  exact stepE_eq.2 ⟨y, stepV_frame hfr hf hy, rfl⟩
end

section
variable {P : Program} {m : Nat} {ob : Ob}

theorem stepO_keeps {callf : CallF} (hc : KeepsOK callf) {N : Nat} {ops : List Oper} {o : Oper} {F F' : Tr SV} {X X' : XW} {r : Option Chain} (h : stepO P callf N ops o F X = some (r, F', X')) : Keeps X { X' with dfs := X.dfs } := by
  have wk : ∀ {X1 : XW} {b : Bool}, wantE ops F X o.guard = some (b, X1) → Keeps X X1 := fun h => want_keeps h
  unfold stepO at h
  split at h
  · rename_i X1 hw
    cases hd : isDefer o.op with
    | true =>
      rw [hd] at h
      simp only [cond_true] at h
      split at h <;> cases h
      have k := wk hw
      exact ⟨k.orc, k.ng, k.next, k.ver, k.dead, rfl, k.pc⟩
    | false =>
      rw [hd] at h
      simp only [cond_false] at h
      split at h
      · rename_i y X2 ho
        cases h
        have k := (wk hw).trans (evOpO_keeps hc ho)
        exact ⟨k.orc, k.ng, k.next, k.ver, k.dead, rfl, k.pc⟩
      · rename_i ch X2 ho
        cases h
        have k := (wk hw).trans (evOpO_keeps hc ho)
        exact ⟨k.orc, k.ng, k.next, k.ver, k.dead, rfl, k.pc⟩
      · cases h
  · rename_i X1 hw
    cases h
    have k := wk hw
    exact ⟨k.orc, k.ng, k.next, k.ver, k.dead, rfl, k.pc⟩
  · cases h

theorem Keeps.noD {X Y Z : XW} (h : Keeps X { Y with dfs := X.dfs }) (h' : Keeps Y { Z with dfs := Y.dfs }) : Keeps X { Z with dfs := X.dfs } := by
  have a : Keeps { Y with dfs := X.dfs } { Z with dfs := X.dfs } := ⟨h'.orc, h'.ng, h'.next, h'.ver, h'.dead, rfl, h'.pc⟩
  exact h.trans a

theorem evOps_keeps {callf : CallF} (hc : KeepsOK callf) {N : Nat} {ops : List Oper} : ∀ {l : List Oper} {F F' : Tr SV} {X X' : XW} {r : Option Chain}, evOps P callf N ops l F X = some (r, F', X') → Keeps X { X' with dfs := X.dfs }
  | [], _, _, _, _, _, h => by cases h; exact Keeps.refl _
  | o :: l, F, F', X, X', r, h => by
    simp only [evOps] at h
    split at h
    · rename_i F1 X1 hs
      exact (stepO_keeps hc hs).noD (evOps_keeps hc h)
    · exact stepO_keeps hc h

theorem dferE_frame {o : Oper} {F : Tr SV} {X : XW} : dferE o F (X.add m ob) = dferE o F X := rfl

theorem stepO_frame {callf : CallF} (hfr : FrameOK callf) {X X' : XW} (hf : Free X m) {N : Nat} {ops : List Oper} {o : Oper} {F F' : Tr SV} {r : Option Chain} (h : stepO P callf N ops o F X = some (r, F', X')) : stepO P callf N ops o F (X.add m ob) = some (r, F', X'.add m ob) := by
  unfold stepO at h ⊢
  split at h
  · rename_i X1 hw
    rw [want_frame (m := m) (ob := ob) hw]
    simp only []
    cases hd : isDefer o.op with
    | true =>
      rw [hd] at h
      simp only [cond_true] at h ⊢
      rw [dferE_frame]
      split at h <;> cases h
      rfl
    | false =>
      rw [hd] at h
      simp only [cond_false] at h ⊢
      split at h
      · rename_i y X2 ho
        cases h
        rw [evOpO_frame hfr (hf.keeps (want_keeps hw)) ho]
      · rename_i ch X2 ho
        cases h
        rw [evOpO_frame hfr (hf.keeps (want_keeps hw)) ho]
      · cases h
  · rename_i X1 hw
    rw [want_frame (m := m) (ob := ob) hw]
    cases h; rfl
  · cases h

theorem Free.keepsD {X X' : XW} (h : Free X m) (k : Keeps X { X' with dfs := X.dfs }) : Free X' m := ⟨k.dead m h.lt h.dead, Nat.lt_of_lt_of_le h.lt k.next⟩

theorem evOps_frame {callf : CallF} (hfr : FrameOK callf) (hc : KeepsOK callf) {N : Nat} {ops : List Oper} : ∀ {l : List Oper} {F F' : Tr SV} {X X' : XW} {r : Option Chain}, Free X m → evOps P callf N ops l F X = some (r, F', X') → evOps P callf N ops l F (X.add m ob) = some (r, F', X'.add m ob)
  | [], _, _, _, _, _, _, h => by cases h; rfl
  | o :: l, F, F', X, X', r, hf, h => by
    simp only [evOps] at h ⊢
    split at h
    · rename_i F1 X1 hs
      rw [stepO_frame hfr hf hs]
      exact evOps_frame hfr hc (hf.keepsD (stepO_keeps hc hs)) h
    · rename_i hne
      rw [stepO_frame hfr hf h]
      cases r with
      | none => exact absurd h (hne _ _)
      | some ch => rfl

theorem addrOf_frame {ops : List Oper} {o : Oper} {F : Tr SV} {X : XW} {r : Tr SV × XW} {callf : CallF} {N : Nat} (h : stepE P callf N ops o F X = some r) : addrOf ops o F (X.add m ob) = addrOf ops o F X := by
  unfold stepE at h
  unfold addrOf
  cases hw : wantE ops F X o.guard with
  | none => rw [hw] at h; cases h
  | some q =>
    obtain ⟨b, X1⟩ := q
    rw [want_frame (m := m) (ob := ob) hw]
    cases b <;> rfl

theorem sameVer_frame {X X' : XW} {k : Nat} (hf : Free X m) (h : sameVer X X' k = true) : sameVer (X.add m ob) (X'.add m ob) k = true := by
  unfold sameVer at h ⊢
  cases hb : Nat.blt k X.next with
  | false => rw [hb] at h; cases h
  | true =>
    rw [hb] at h
    have hb' : Nat.blt k (X.add m ob).next = true := hb
    rw [hb']
    simp only [cond_true, verOf] at h ⊢
    cases h1 : X.objs.get k with
    | none => simp [h1] at h
    | some o =>
      obtain ⟨h3, hne⟩ := add_get (ob := ob) hf h1
      have h4 : (X'.add m ob).objs.get k = X'.objs.get k := by
        show (X'.objs.put m ob).get k = _
        rw [Hp.get_put, if_neg hne]
      rw [h3, h4]
      rw [h1] at h
      exact h

theorem chkOK_frame {recs : List (Nat × Option Nat)} {X X' : XW} (hf : Free X m) : ∀ {ls : List Nat}, chkOK recs X X' ls = true → chkOK recs (X.add m ob) (X'.add m ob) ls = true
  | [], _ => rfl
  | l :: ls, h => by
    simp only [chkOK, Bool.and_eq_true] at h ⊢
    refine ⟨?_, chkOK_frame hf h.2⟩
    cases hk : findK recs l with
    | none => rfl
    | some k =>
      have := h.1
      rw [hk] at this
      exact sameVer_frame hf this

theorem evD_frame {callf : CallF} (hfr : FrameOK callf) (hc : KeepsOK callf) {N : Nat} {ops : List Oper} {chk : List (Nat × List Nat)} : ∀ {ks : List Nat} {recs : List (Nat × Option Nat)} {F F' : Tr SV} {X X' : XW}, Free X m → evD P callf N ops chk ks recs F X = some (F', X') →
    evD P callf N ops chk ks recs F (X.add m ob) = some (F', X'.add m ob)
  | [], _, _, _, _, _, _, h => by simp only [evD, Option.some.injEq, Prod.mk.injEq] at h ⊢; obtain ⟨rfl, rfl⟩ := h; exact ⟨rfl, rfl⟩
  | k :: ks, recs, F, F', X, X', hf, h => by
    simp only [evD] at h ⊢
    split at h <;> try (cases h; done)
    rename_i o _
    split at h <;> try (cases h; done)
    rename_i F1 X1 hs
    rw [stepE_frame hfr hf hs]
    simp only []
    cases hck : chkOK recs X X1 (chkOf chk k) with
    | false => rw [hck] at h; cases h
    | true =>
      rw [hck] at h
      rw [chkOK_frame hf hck, addrOf_frame hs]
      exact evD_frame hfr hc (hf.keeps (stepE_keeps hc hs)) h
end
end Go.Xe
