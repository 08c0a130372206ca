/- A part of an evaluator for the code. -/
import Derived.Test.YtoglpmfmnknlaaaGreatDoorXeKa
namespace Go.Xe
noncomputable section

structure KS where
  run : List SV → XW → Option (SV × XW)
structure KB where
  run : SV → SV → Option SV

def kMove : List SV → XW → Option (SV × XW)
  | [x], X => some (x, X)
  | _, _ => none
def kOn1 (f : SV → XW → Option (SV × XW)) : List SV → XW → Option (SV × XW)
  | [x], X => f x X
  | _, _ => none
def kOn2 (f : SV → SV → XW → Option (SV × XW)) : List SV → XW → Option (SV × XW)
  | [x, y], X => f x y X
  | _, _ => none
def kPtr (f : Nat → Nat → XW → Option (SV × XW)) (x : SV) (X : XW) : Option (SV × XW) := match x with
  | .ptr k off => f k off X
  | _ => none
def kLoad1 (k off : Nat) (X : XW) : Option (SV × XW) := match X.objs.get k with
  | some o => withX X (o.get off)
  | none => none
def kLoadN (n k off : Nat) (X : XW) : Option (SV × XW) := match X.objs.get k with
  | some o => (match loadN o off n with | some ys => some (.agg ys, X) | none => none)
  | none => none
def obSet (o : Ob) (off : Nat) (cells : List SV) : Ob := match o with
  | ⟨ver, ty, n, loose, esz, ro, bf, ov, sp⟩ => force (ver + 1) fun v => ⟨v, ty, n, loose, esz, ro, bf, storeN ov off cells, sp⟩
def xwPut (X : XW) (k : Nat) (o : Ob) : XW := match X with
  | ⟨ng, next, ⟨tr, base⟩, orc, pc, dfs⟩ => ⟨ng, next, ⟨tr.put k (some o), base⟩, orc, pc, dfs⟩
def kStoreO (n k off : Nat) (y : SV) (X : XW) (o : Ob) : Option (SV × XW) :=
  bif Nat.beq y.cells.length n && Nat.ble (off + n) o.n && !o.ro && allOne y.cells then some (.val undef, xwPut X k (obSet o off y.cells)) else none
def kStoreP (n k off : Nat) (y : SV) (X : XW) : Option (SV × XW) := match X.objs.get k with
  | some o => kStoreO n k off y X o
  | none => none
def kStore (n : Nat) (x y : SV) (X : XW) : Option (SV × XW) := match x with
  | .ptr k off => kStoreP n k off y X
  | _ => none
def kFieldAddr (fo k off : Nat) (X : XW) : Option (SV × XW) := force (off + fo) fun o => some (.ptr k o, X)
def kNil (x : SV) (X : XW) : Option (SV × XW) := match x with
  | .ptr k off => some (.ptr k off, X)
  | .fn f a b => withX X (semNil (.fn f a b))
  | _ => none
def kAtA (n s i k off : Nat) (X : XW) : Option (SV × XW) := bif Nat.blt i n then (force (off + i * s) fun o => some (.ptr k o, X)) else none
def kIxA (n s : Nat) (x ix : SV) (X : XW) : Option (SV × XW) := match natOf ix with
  | some i => (match x with | .ptr k off => kAtA n s i k off X | _ => none)
  | none => none
def kIxS (s : Nat) (x ix : SV) (X : XW) : Option (SV × XW) := match natOf ix with
  | some i => (match x with | .sl k off len _ _ => kAtA len s i k off X | _ => none)
  | none => none
def kExt (i : Nat) (x : SV) (X : XW) : Option (SV × XW) := match x with
  | .tup vs => withX X vs[i]?
  | _ => none

structure KA where
  run : IntKind → Int → IntKind → Int → Option SV
def kEq (k k' : IntKind) : Bool := Nat.beq k.ctorIdx k'.ctorIdx
theorem kEq_eq (k k' : IntKind) : kEq k k' = (k == k') := by cases k <;> cases k' <;> rfl
def kAr : BinOp → KA
  | .add => ⟨fun k a k' b => bif kEq k k' then some (forceI (k.wrap (a + b)) fun r => .int k r) else none⟩
  | .sub => ⟨fun k a k' b => bif kEq k k' then some (forceI (k.wrap (a - b)) fun r => .int k r) else none⟩
  | .mul => ⟨fun k a k' b => bif kEq k k' then some (forceI (k.wrap (a * b)) fun r => .int k r) else none⟩
  | .quo => ⟨fun k a k' b => bif kEq k k' then arith .quo k a b else none⟩
  | .rem => ⟨fun k a k' b => bif kEq k k' then arith .rem k a b else none⟩
  | .and => ⟨fun k a k' b => bif kEq k k' then arith .and k a b else none⟩
  | .or => ⟨fun k a k' b => bif kEq k k' then arith .or k a b else none⟩
  | .xor => ⟨fun k a k' b => bif kEq k k' then arith .xor k a b else none⟩
  | .andNot => ⟨fun k a k' b => bif kEq k k' then arith .andNot k a b else none⟩
  | .eql => ⟨fun k a k' b => bif kEq k k' then some (.bool (a == b)) else none⟩
  | .neq => ⟨fun k a k' b => bif kEq k k' then some (.bool (a != b)) else none⟩
  | .lss => ⟨fun k a k' b => bif kEq k k' then some (.bool (decide (a < b))) else none⟩
  | .leq => ⟨fun k a k' b => bif kEq k k' then some (.bool (decide (a ≤ b))) else none⟩
  | .gtr => ⟨fun k a k' b => bif kEq k k' then some (.bool (decide (a > b))) else none⟩
  | .geq => ⟨fun k a k' b => bif kEq k k' then some (.bool (decide (a ≥ b))) else none⟩
  | op => ⟨fun k a k' b => intE op k a k' b⟩
theorem kAr_eq (op : BinOp) (k : IntKind) (a : Int) (k' : IntKind) (b : Int) : (kAr op).run k a k' b = intE op k a k' b := by
  cases op <;> simp only [kAr, kEq_eq] <;> rfl

section
variable (P : Program)
def kBinI (A : KA) (op : BinOp) (t : TypeId) (k : IntKind) (a : Int) (y : SV) : Option SV := match y with
  | .int k' b => A.run k a k' b
  | y => binE P op t (.int k a) y
def kBin (A : KA) (op : BinOp) (t : TypeId) (x y : SV) (X : XW) : Option (SV × XW) := match x with
  | .int k a => withX X (kBinI P A op t k a y)
  | x => withX X (binE P op t x y)
def kNot (x : SV) (X : XW) : Option (SV × XW) := match x with
  | .bool b => some (.bool (!b), X)
  | x => withX X (unE .not x)

def kSem (op : Op) : KS := match op with
  | .move _ => ⟨kMove⟩
  | .assign _ => ⟨kMove⟩
  | .load t _ => (match tyAgg P t, tySize P t with
    | some true, some n => ⟨kOn1 (kPtr (kLoadN n))⟩
    | some false, some _ => ⟨kOn1 (kPtr kLoad1)⟩
    | _, _ => ⟨fun _ _ => none⟩)
  | .store t _ _ => (match tySize P t with
    | some n => ⟨kOn2 (kStore n)⟩
    | none => ⟨fun _ _ => none⟩)
  | .nilCheck _ => ⟨kOn1 kNil⟩
  | .binOp op t _ _ _ => ⟨kOn2 (kBin P (kAr op) op t)⟩
  | .unOp .not _ _ => ⟨kOn1 kNot⟩
  | .fieldAddr s _ f => (match fieldOf P s f with
    | some fd => (match tySize P fd.type with
      | some (_ + 1) => ⟨kOn1 (kPtr (kFieldAddr fd.offset))⟩
      | _ => ⟨fun _ _ => none⟩)
    | none => ⟨fun _ _ => none⟩)
  | .indexAddr t _ _ => (match P.underlying t with
    | some (.array n e) => (match tySize P e with | some s => ⟨kOn2 (kIxA n s)⟩ | none => ⟨fun _ _ => none⟩)
    | some (.slice e) => (match tySize P e with | some s => ⟨kOn2 (kIxS s)⟩ | none => ⟨fun _ _ => none⟩)
    | _ => ⟨fun _ _ => none⟩)
  | .extract _ i => ⟨kOn1 (kExt i)⟩
  | op => ⟨fun vals X => sem P op vals X⟩
end

theorem obSet_eq (o : Ob) (off : Nat) (cells : List SV) : obSet o off cells = { o with ver := o.ver + 1, ov := storeN o.ov off cells } := by
  cases o; simp [obSet, force_eq]
theorem xwPut_eq (X : XW) (k : Nat) (o : Ob) : xwPut X k o = { X with objs := X.objs.put k o } := by
  cases X; rename_i objs _ _ _; cases objs; rfl

theorem kSem_eq (P : Program) (op : Op) (vals : List SV) (X : XW) : (kSem P op).run vals X = sem P op vals X := by
  unfold kSem
  split
  · rcases vals with _ | ⟨x, _ | ⟨y, r⟩⟩ <;> rfl
  · rcases vals with _ | ⟨x, _ | ⟨y, r⟩⟩ <;> rfl
  · -- load
    rename_i t a
    have hn : ∀ (h : ∀ k off, semLoad P t X k off = none), none = sem P (.load t a) vals X := by
      intro h
      rcases vals with _ | ⟨x, _ | ⟨y, r⟩⟩ <;> first | rfl | (cases x <;> first | rfl | skip)
      rename_i k off
      show none = withX X (semLoad P t X k off)
      rw [h]; rfl
    split
    · rename_i n h1 h2
      rcases vals with _ | ⟨x, _ | ⟨y, r⟩⟩ <;> first | rfl | (cases x <;> first | rfl | skip)
      rename_i k off
      show kLoadN n k off X = withX X (semLoad P t X k off)
      unfold kLoadN semLoad
      rw [h1, h2]
      cases X.objs.get k with
      | none => rfl
      | some o => simp only []; cases loadN o off n <;> rfl
    · rename_i n h1 h2
      rcases vals with _ | ⟨x, _ | ⟨y, r⟩⟩ <;> first | rfl | (cases x <;> first | rfl | skip)
      rename_i k off
      show kLoad1 k off X = withX X (semLoad P t X k off)
      unfold kLoad1 semLoad
      rw [h1, h2]
      cases X.objs.get k <;> rfl
    · rename_i h1 h2
      refine hn fun k off => ?_
      unfold semLoad
      cases X.objs.get k with
      | none => rfl
      | some o =>
        cases ha : tyAgg P t with
        | none => rfl
        | some b =>
          cases hs : tySize P t with
          | none => cases b <;> rfl
          | some n => cases b with
            | true => exact absurd hs (h1 n ha)
            | false => exact absurd hs (h2 n ha)
  · -- store
    rename_i t a b
    split
    · rename_i n h1
      rcases vals with _ | ⟨x, _ | ⟨y, _ | ⟨z, r⟩⟩⟩ <;> first | rfl | (cases x <;> first | rfl | skip)
      rename_i k off
      show kStoreP n k off y X = (match semStore P t X k off y with | some X => some (.val undef, X) | none => none)
      unfold kStoreP semStore
      rw [h1]
      cases X.objs.get k with
      | none => rfl
      | some o =>
        simp only [kStoreO, obSet_eq, xwPut_eq]
        cases (Nat.beq y.cells.length n && Nat.ble (off + n) o.n && !o.ro && allOne y.cells) <;> rfl
    · rename_i h1
      rcases vals with _ | ⟨x, _ | ⟨y, _ | ⟨z, r⟩⟩⟩ <;> first | rfl | (cases x <;> first | rfl | skip)
      rename_i k off
      show none = (match semStore P t X k off y with | some X => some (SV.val undef, X) | none => none)
      unfold semStore
      rw [h1]
      cases X.objs.get k <;> rfl
  · rcases vals with _ | ⟨x, _ | ⟨y, r⟩⟩ <;> first | rfl | (cases x <;> rfl)
  · rename_i op t a b c
    rcases vals with _ | ⟨x, _ | ⟨y, _ | ⟨z, r⟩⟩⟩ <;> try rfl
    show kBin P (kAr op) op t x y X = withX X (binE P op t x y)
    cases x <;> try rfl
    cases y <;> try rfl
    show withX X ((kAr op).run _ _ _ _) = _
    rw [kAr_eq]; rfl
  · rcases vals with _ | ⟨x, _ | ⟨y, r⟩⟩ <;> first | rfl | (cases x <;> rfl)
  · rename_i s a f
    split
    · rename_i fd hf
      split
      · rename_i m hs
        rcases vals with _ | ⟨x, _ | ⟨y, r⟩⟩ <;> first | rfl | (cases x <;> first | rfl | skip)
        rename_i k off
        show kFieldAddr fd.offset k off X = withX X (semFieldAddr P s f k off)
        simp only [kFieldAddr, semFieldAddr, hf, hs, force_eq]
        rfl
      · rename_i hs
        rcases vals with _ | ⟨x, _ | ⟨y, r⟩⟩ <;> first | rfl | (cases x <;> first | rfl | skip)
        rename_i k off
        show none = withX X (semFieldAddr P s f k off)
        have : semFieldAddr P s f k off = none := by
          unfold semFieldAddr
          simp only [hf]
        rw [this]; rfl
    · rename_i hf
      rcases vals with _ | ⟨x, _ | ⟨y, r⟩⟩ <;> first | rfl | (cases x <;> first | rfl | skip)
      rename_i k off
      show none = withX X (semFieldAddr P s f k off)
      simp only [semFieldAddr, hf]; rfl
  · rename_i t a b
    split
    · rename_i n e hu
      split
      · rename_i s hs
        rcases vals with _ | ⟨x, _ | ⟨y, _ | ⟨z, r⟩⟩⟩ <;> try rfl
        show kIxA n s x y X = withX X (semIndexAddr P t x y)
        unfold kIxA semIndexAddr
        cases natOf y with
        | none => rfl
        | some i =>
          simp only [hu]
          cases x <;> try rfl
          simp only [hs, kAtA, force_eq]
          cases Nat.blt i n <;> rfl
      · rename_i hs
        rcases vals with _ | ⟨x, _ | ⟨y, _ | ⟨z, r⟩⟩⟩ <;> try rfl
        show none = withX X (semIndexAddr P t x y)
        unfold semIndexAddr
        cases natOf y with
        | none => rfl
        | some i =>
          simp only [hu]
          cases x <;> try rfl
          simp only [hs]; rfl
    · rename_i e hu
      split
      · rename_i s hs
        rcases vals with _ | ⟨x, _ | ⟨y, _ | ⟨z, r⟩⟩⟩ <;> try rfl
        show kIxS s x y X = withX X (semIndexAddr P t x y)
        unfold kIxS semIndexAddr
        cases natOf y with
        | none => rfl
        | some i =>
          simp only [hu]
          cases x <;> try rfl
          simp only [hs, kAtA, force_eq]
          rename_i len _ _
          cases Nat.blt i len <;> rfl
      · rename_i hs
        rcases vals with _ | ⟨x, _ | ⟨y, _ | ⟨z, r⟩⟩⟩ <;> try rfl
        show none = withX X (semIndexAddr P t x y)
        unfold semIndexAddr
        cases natOf y with
        | none => rfl
        | some i =>
          simp only [hu]
          cases x <;> try rfl
          simp only [hs]; rfl
    · rename_i h1 h2
      rcases vals with _ | ⟨x, _ | ⟨y, _ | ⟨z, r⟩⟩⟩ <;> try rfl
      show none = withX X (semIndexAddr P t x y)
      unfold semIndexAddr
      cases natOf y with
      | none => rfl
      | some i =>
        simp only []
        split
        · rename_i n e k off hu; exact absurd hu (h1 n e)
        · rename_i e k off len c l hu; exact absurd hu (h2 e)
        · rfl
  · rcases vals with _ | ⟨x, _ | ⟨y, r⟩⟩ <;> first | rfl | (cases x <;> rfl)
  · rfl
end
end Go.Xe
