/- A part of an evaluator for the code. -/
import Derived.Test.YtoglpmfmnknlaaaGreatDoorXeW
namespace Go.Xe
section
variable {P : Program}

def KeepsD (X X' : XW) : Prop := Keeps X { X' with dfs := X.dfs }
theorem KeepsD.refl (X : XW) : KeepsD X X := Keeps.refl X
theorem KeepsD.trans {X Y Z : XW} (h : KeepsD X Y) (h' : KeepsD Y Z) : KeepsD X Z := Keeps.noD h h'
theorem Keeps.toD {X Y : XW} (h : Keeps X Y) : KeepsD X Y := ⟨h.orc, h.ng, h.next, h.ver, h.dead, rfl, h.pc⟩
theorem KeepsD.reD {X Y : XW} (h : KeepsD X Y) (l : List SD) : KeepsD X { Y with dfs := l } := ⟨h.orc, h.ng, h.next, h.ver, h.dead, rfl, h.pc⟩
theorem KeepsD.reD' {X Y : XW} {l : List SD} (h : KeepsD { X with dfs := l } Y) : KeepsD X Y := ⟨h.orc, h.ng, h.next, h.ver, h.dead, rfl, h.pc⟩
theorem KeepsD.to {X Y : XW} (h : KeepsD X Y) (hd : Y.dfs = X.dfs) : Keeps X Y := ⟨h.orc, h.ng, h.next, h.ver, h.dead, hd, h.pc⟩

def KeepsJ (jump : JumpF) : Prop := ∀ c rest F X ex F' X', jump c rest F X = some (ex, F', X') → KeepsD X X'

theorem blk_keeps {rd : Option Nat} {X X1 : XW} {b : Nat} (h : blkOf rd X = some (b, X1)) : KeepsD X X1 := by
  unfold blkOf at h
  split at h
  · cases h
    exact (Keeps.new X mkBlk).toD.reD _
  · split at h <;> try (cases h; done)
    split at h <;> cases h
    exact KeepsD.refl _

theorem end_keeps {F F' : Tr SV} {l : Nat} {X X' : XW} {ex : Ex} (h : endE F l X = some (ex, F', X')) : KeepsD X X' := by
  unfold endE at h
  split at h <;> try (cases h; done)
  rename_i o ho
  split at h <;> try (cases h; done)
  split at h <;> cases h
  all_goals exact (Keeps.store ho (Nat.lt_succ_self _)).toD

theorem range_keeps {callf : CallF} (hc : KeepsOK callf) {ord : Nat → Hint} {me : FuncId} {rd : Option Nat} {N : Nat} {ps : Array Tmp} {as body : Code} {F F' : Tr SV} {X X' : XW} {y : SV} {ex : Ex} (h : rangeE callf ord me rd N ps as body y F X = some (ex, F', X')) : KeepsD X X' := by
  unfold rangeE at h
  split at h <;> try (cases h; done)
  rename_i f fa fb b X1 hb
  have k1 := (blk_keeps hb).trans (Keeps.new X1 (mkLoop ord me N F ps as body b)).toD
  split at h
  · rename_i z X2 hcl
    have k2 := k1.trans (KeepsD.reD' (l := []) (hc _ _ _ _ _ hcl).toD)
    exact (k2.reD _).trans (end_keeps h)
  · rename_i ch X2 hcl
    cases h
    have k2 := k1.trans (KeepsD.reD' (l := []) (hc _ _ _ _ _ hcl).toD)
    exact k2.reD _
  · cases h

theorem code_keeps {callf : CallF} (hc : KeepsOK callf) {ord : Nat → Hint} {me : FuncId} {rd : Option Nat} {N fuel : Nat} {jump : JumpF} (hj : KeepsJ jump) : ∀ (c : Code) (F : Tr SV) (X : XW) (ex : Ex) (F' : Tr SV) (X' : XW),
    evC P callf ord me rd N fuel jump c F X = some (ex, F', X') → KeepsD X X'
  | .skip, F, X, ex, F', X', h => by simp only [evC, Option.some.injEq, Prod.mk.injEq] at h; obtain ⟨rfl, rfl, rfl⟩ := h; exact KeepsD.refl _
  | .region id ops false, F, X, ex, F', X', h => by
    simp only [evC] at h
    split at h <;> try (cases h; done)
    · rename_i F1 X1 hops
      simp only [Option.some.injEq, Prod.mk.injEq] at h
      obtain ⟨rfl, rfl, rfl⟩ := h
      exact evOps_keeps hc hops
    · rename_i ch F1 X1 hops
      simp only [Option.some.injEq, Prod.mk.injEq] at h
      obtain ⟨rfl, rfl, rfl⟩ := h
      exact evOps_keeps hc hops
  | .region id ops true, F, X, ex, F', X', h => by
    simp only [evC] at h
    split at h <;> try (cases h; done)
    rename_i F1 X1 hd
    simp only [Option.some.injEq, Prod.mk.injEq] at h
    obtain ⟨rfl, rfl, rfl⟩ := h
    have key : ∀ {is : List Nat} {chk : List (Nat × List Nat)}, evD P callf N ops.toList chk is [] F { X with orc := [] } = some (F1, X1) → KeepsD X { X1 with orc := X.orc } := fun h =>
      have k := d_keeps hc h
      ⟨fun ho => ho, k.ng, k.next, k.ver, k.dead, rfl, k.pc⟩
    cases ho : ord id with
    | text => rw [ho] at hd; exact key hd
    | skip => rw [ho] at hd; cases hd
    | ord is chk => rw [ho] at hd; exact key hd
    | news is rs =>
      rw [ho] at hd
      simp only [force_eq] at hd
      cases hdd : allDead X X.next rs with
      | false => rw [hdd] at hd; cases hd
      | true =>
        rw [hdd] at hd
        obtain ⟨k, k2⟩ := evN_keeps hc (Nat.le_add_right _ _) hd
        exact ⟨fun ho => ho, k.ng, k2, k.ver, k.dead, rfl, k.pc⟩
  | .seq x y, F, X, ex, F', X', h => by
    simp only [evC] at h
    split at h
    · rename_i F1 X1 hx
      exact (code_keeps hc hj x _ _ _ _ _ hx).trans (code_keeps hc hj y _ _ _ _ _ h)
    · exact code_keeps hc hj x _ _ _ _ _ h
  | .cond c x y, F, X, ex, F', X', h => by
    simp only [evC] at h
    split at h <;> try (cases h; done)
    split at h
    · rename_i X1 hb
      exact (asB_keeps hb).toD.trans (code_keeps hc hj x _ _ _ _ _ h)
    · rename_i X1 hb
      exact (asB_keeps hb).toD.trans (code_keeps hc hj y _ _ _ _ _ h)
    · cases h
  | .block id c, F, X, ex, F', X', h => by
    simp only [evC] at h
    split at h
    · rename_i id' F1 X1 hx
      have := code_keeps hc hj c _ _ _ _ _ hx
      cases hb : Nat.beq id' id <;> simp only [hb, cond_true, cond_false, Option.some.injEq, Prod.mk.injEq] at h <;> (obtain ⟨rfl, rfl, rfl⟩ := h; exact this)
    · exact code_keeps hc hj c _ _ _ _ _ h
  | .loop c, F, X, ex, F', X', h => by
    simp only [evC] at h
    have key : ∀ (k : Nat) (F : Tr SV) (X : XW), loopE (evC P callf ord me rd N fuel jump c) k F X = some (ex, F', X') → KeepsD X X' := by
      intro k
      induction k with
      | zero => intro F X h; simp [loopE] at h
      | succ k ih =>
        intro F X h
        have h' : (match evC P callf ord me rd N fuel jump c F X with | some (.nm, F, X) => loopE (evC P callf ord me rd N fuel jump c) k F X | r => r) = some (ex, F', X') := h
        split at h'
        · rename_i F1 X1 hb
          exact (code_keeps hc hj c _ _ _ _ _ hb).trans (ih _ _ h')
        · exact code_keeps hc hj c _ _ _ _ _ h'
    exact key fuel F X h
  | .exit id, F, X, ex, F', X', h => by simp only [evC, Option.some.injEq, Prod.mk.injEq] at h; obtain ⟨rfl, rfl, rfl⟩ := h; exact KeepsD.refl _
  | .label l, F, X, ex, F', X', h => by simp only [evC, Option.some.injEq, Prod.mk.injEq] at h; obtain ⟨rfl, rfl, rfl⟩ := h; exact KeepsD.refl _
  | .ret, F, X, ex, F', X', h => by simp only [evC, Option.some.injEq, Prod.mk.injEq] at h; obtain ⟨rfl, rfl, rfl⟩ := h; exact KeepsD.refl _
  | .goto _, F, X, ex, F', X', h => by simp only [evC, Option.some.injEq, Prod.mk.injEq] at h; obtain ⟨rfl, rfl, rfl⟩ := h; exact KeepsD.refl _
  | .scope c, F, X, ex, F', X', h => by
    simp only [evC] at h
    split at h
    · rename_i l F1 X1 hx
      have k1 := code_keeps hc hj c _ _ _ _ _ hx
      split at h
      · exact k1.trans (hj _ _ _ _ _ _ _ h)
      · simp only [Option.some.injEq, Prod.mk.injEq] at h
        obtain ⟨rfl, rfl, rfl⟩ := h
        exact k1
    · exact code_keeps hc hj c _ _ _ _ _ h
  | .rangeFunc _ _ _ _, F, X, ex, F', X', h => by
    simp only [evC] at h
    split at h <;> try (cases h; done)
    exact range_keeps hc h
  | .refuse _, _, _, _, _, _, h => by simp [evC] at h

theorem jump_keeps {callf : CallF} (hc : KeepsOK callf) {ord : Nat → Hint} {me : FuncId} {rd : Option Nat} {N fuel : Nat} : ∀ n, KeepsJ (jumpE P callf ord me rd N fuel n)
  | 0, _, _, _, _, _, _, _, h => by simp [jumpE] at h
  | n + 1, c, rest, F, X, ex, F', X', h => by
    have ih := jump_keeps hc (ord := ord) (me := me) (rd := rd) (N := N) (fuel := fuel) n
    have h' : (match evC P callf ord me rd N fuel (jumpE P callf ord me rd N fuel n) rest F X with
      | some (.gt l, F, X) => (match findLabel c l with
        | some rest => jumpE P callf ord me rd N fuel n c rest F X
        | none => some (.gt l, F, X))
      | r => r) = some (ex, F', X') := h
    split at h'
    · rename_i l F1 X1 hx
      have k1 := code_keeps hc ih rest _ _ _ _ _ hx
      split at h'
      · exact k1.trans (ih _ _ _ _ _ _ _ h')
      · simp only [Option.some.injEq, Prod.mk.injEq] at h'
        obtain ⟨rfl, rfl, rfl⟩ := h'
        exact k1
    · exact code_keeps hc ih rest _ _ _ _ _ h'

/-! ### One more row -/
section
variable {m : Nat} {ob : Ob}

theorem stepN_frame {callf : CallF} (hfr : FrameOK callf) {N base k : Nat} {rs : List Nat} {ops : List Oper} {o : Oper} {F F' : Tr SV} {X X' : XW} (hf : Free X m) (hm : m < base) (h : stepN P callf N ops rs base k o F X = some (F', X')) :
    stepN P callf N ops rs base k o F (X.add m ob) = some (F', X'.add m ob) := by
  obtain ⟨y, hy, rfl⟩ := stepN_eq.1 h
  refine stepN_eq.2 ⟨y, ?_, rfl⟩
  cases hn : newR rs k o.op with
  | true =>
    obtain ⟨ob2, rfl, hind⟩ := stepNV_new hn hy
    rw [hind (X.add m ob) rfl]
    unfold XW.add
    simp only [Option.some.injEq, Prod.mk.injEq, true_and]
    rw [Hp.put_comm _ _ _ (by omega)]
  | false =>
    rw [stepNV_old hn] at hy ⊢
    exact stepV_frame hfr hf hy

theorem lowRead_frame {callf : CallF} {N base k : Nat} {rs : List Nat} {ops : List Oper} {o : Oper} {F : Tr SV} {X : XW} {r : Tr SV × XW} (h : stepN P callf N ops rs base k o F X = some r) : lowRead P ops base o F (X.add m ob) = lowRead P ops base o F X := by
  unfold lowRead
  cases hr : isRead P o.op with
  | false => rfl
  | true =>
    have hn := read_noNew (rs := rs) (k := k) hr
    unfold stepN at h
    rw [hn] at h
    simp only [cond_false] at h
    rw [addrOf_frame h]

theorem recs_frame {callf : CallF} {N base k : Nat} {rs : List Nat} {recs : List (Nat × Option Nat)} {ops : List Oper} {o : Oper} {F : Tr SV} {X : XW} {r : Tr SV × XW} (h : stepN P callf N ops rs base k o F X = some r) :
    (bif isRead P o.op then (k, addrOf ops o F (X.add m ob)) :: recs else recs) = (bif isRead P o.op then (k, addrOf ops o F X) :: recs else recs) := by
  cases hr : isRead P o.op with
  | false => rfl
  | true =>
    have hn := read_noNew (rs := rs) (k := k) hr
    unfold stepN at h
    rw [hn] at h
    simp only [cond_false] at h
    rw [addrOf_frame h]

theorem evN_frame {callf : CallF} (hfr : FrameOK callf) (hc : KeepsOK callf) {N base : Nat} {rs : List Nat} {chk : List (Nat × List Nat)} {ops : List Oper} (hm : m < base) : ∀ {ks : List Nat} {recs : List (Nat × Option Nat)} {F F' : Tr SV} {X X' : XW}, base ≤ X.next → Free X m → evN P callf N ops rs chk base ks recs F X = some (F', X') →
    evN P callf N ops rs chk base ks recs F (X.add m ob) = some (F', X'.add m ob)
  | [], _, _, _, _, _, _, _, h => by simp only [evN, Option.some.injEq, Prod.mk.injEq] at h ⊢; obtain ⟨rfl, rfl⟩ := h; exact ⟨rfl, rfl⟩
  | k :: ks, recs, F, F', X, X', hb, hf, h => by
    simp only [evN] at h ⊢
    split at h <;> try (cases h; done)
    rename_i o _
    cases hl : lowRead P ops base o F X with
    | false => rw [hl] at h; cases h
    | true =>
      rw [hl] at h
      simp only [cond_true] at h
      split at h <;> try (cases h; done)
      rename_i F1 X1 hs
      rw [lowRead_frame hs, hl]
      simp only [cond_true]
      rw [stepN_frame hfr hf hm hs]
      simp only []
      cases hck : chkOK recs X X1 (chkOf chk k) with
      | false => rw [hck] at h; cases h
      | true =>
      rw [hck] at h
      simp only [cond_true] at h
      rw [chkOK_frame hf hck, recs_frame hs]
      simp only [cond_true]
      obtain ⟨y, hy, _⟩ := stepN_eq.1 hs
      obtain ⟨k1, k2⟩ := stepNV_keeps hc hb hy
      have hnx := stepNV_next hc hy
      exact evN_frame hfr hc hm k2 ⟨k1.dead m hm hf.dead, Nat.lt_of_lt_of_le hf.lt hnx⟩ h

theorem allDead_frame {X : XW} {base : Nat} (hm : m < base) : ∀ {rs : List Nat}, allDead X base rs = true → allDead (X.add m ob) base rs = true
  | [], _ => rfl
  | k :: ks, h => by
    simp only [allDead, Bool.and_eq_true] at h ⊢
    refine ⟨?_, allDead_frame hm h.2⟩
    have : (X.add m ob).objs.get (base + k) = X.objs.get (base + k) := by
      show (X.objs.put m ob).get (base + k) = _
      rw [Hp.get_put, if_neg (by omega)]
    rw [this]; exact h.1

def FrameJ (jump : JumpF) : Prop := ∀ m ob c rest F X ex F' X', Free X m → jump c rest F X = some (ex, F', X') → jump c rest F (X.add m ob) = some (ex, F', X'.add m ob)

theorem Free.kD {X X' : XW} (h : Free X m) (k : KeepsD X X') : Free X' m := h.keepsD k
theorem Free.reD {X : XW} (h : Free X m) (l : List SD) : Free { X with dfs := l } m := ⟨h.dead, h.lt⟩

theorem blk_frame {rd : Option Nat} {X X1 : XW} {b : Nat} (hf : Free X m) (h : blkOf rd X = some (b, X1)) : blkOf rd (X.add m ob) = some (b, X1.add m ob) := by
  unfold blkOf at h ⊢
  split at h
  · cases h
    simp only [add_new hf]
    rfl
  · split at h <;> try (cases h; done)
    rename_i o ho
    simp only [(add_get hf ho).1]
    split at h <;> cases h
    rfl

theorem end_frame {F F' : Tr SV} {l : Nat} {X X' : XW} {ex : Ex} (hf : Free X m) (h : endE F l X = some (ex, F', X')) : endE F l (X.add m ob) = some (ex, F', X'.add m ob) := by
  unfold endE at h ⊢
  split at h <;> try (cases h; done)
  rename_i o ho
  simp only [(add_get hf ho).1]
  split at h <;> try (cases h; done)
  split at h
  · cases h
  · rename_i hb
    cases h
    rw [add_set hf ho]

theorem range_frame2 {callf : CallF} (hfr : FrameOK callf) (hc : KeepsOK callf) {ord : Nat → Hint} {me : FuncId} {rd : Option Nat} {N : Nat} {ps : Array Tmp} {as body : Code} {F F' : Tr SV} {X X' : XW} {y : SV} {ex : Ex} (hf : Free X m) (h : rangeE callf ord me rd N ps as body y F X = some (ex, F', X')) :
    rangeE callf ord me rd N ps as body y F (X.add m ob) = some (ex, F', X'.add m ob) := by
  unfold rangeE at h ⊢
  split at h <;> try (cases h; done)
  rename_i f fa fb b X1 hb
  have hf1 : Free X1 m := hf.kD (blk_keeps hb)
  have hf2 : Free (X1.new (mkLoop ord me N F ps as body b)).2 m := hf1.keeps (Keeps.new _ _)
  rw [blk_frame (ob := ob) hf hb]
  simp only [add_new hf1]
  split at h
  · rename_i z X2 hcl
    have e := hfr _ _ _ _ _ m ob hcl (hf2.reD _)
    have hf3 : Free X2 m := (hf2.reD []).keeps (hc _ _ _ _ _ hcl)
    rw [show ({ ((X1.new (mkLoop ord me N F ps as body b)).2).add m ob with dfs := [] } : XW) = ({ (X1.new (mkLoop ord me N F ps as body b)).2 with dfs := [] } : XW).add m ob from rfl, e]
    exact end_frame (ob := ob) (hf3.reD _) h
  · rename_i ch X2 hcl
    cases h
    have e := hfr _ _ _ _ _ m ob hcl (hf2.reD _)
    rw [show ({ ((X1.new (mkLoop ord me N F ps as body b)).2).add m ob with dfs := [] } : XW) = ({ (X1.new (mkLoop ord me N F ps as body b)).2 with dfs := [] } : XW).add m ob from rfl, e]
    rfl
  · cases h

theorem code_frame {callf : CallF} (hfr : FrameOK callf) (hc : KeepsOK callf) {ord : Nat → Hint} {me : FuncId} {rd : Option Nat} {N fuel : Nat} {jump : JumpF} (hj : FrameJ jump) (hjk : KeepsJ jump) : ∀ (c : Code) (F : Tr SV) (X : XW) (ex : Ex) (F' : Tr SV) (X' : XW), Free X m →
    evC P callf ord me rd N fuel jump c F X = some (ex, F', X') → evC P callf ord me rd N fuel jump c F (X.add m ob) = some (ex, F', X'.add m ob)
  | .skip, F, X, ex, F', X', _, h => by simp only [evC, Option.some.injEq, Prod.mk.injEq] at h ⊢; obtain ⟨rfl, rfl, rfl⟩ := h; exact ⟨rfl, rfl, rfl⟩
  | .region id ops false, F, X, ex, F', X', hf, h => by
    simp only [evC] at h ⊢
    split at h <;> try (cases h; done)
    · rename_i F1 X1 hops
      simp only [Option.some.injEq, Prod.mk.injEq] at h
      obtain ⟨rfl, rfl, rfl⟩ := h
      rw [evOps_frame hfr hc hf hops]
    · rename_i ch F1 X1 hops
      simp only [Option.some.injEq, Prod.mk.injEq] at h
      obtain ⟨rfl, rfl, rfl⟩ := h
      rw [evOps_frame hfr hc hf hops]
  | .region id ops true, F, X, ex, F', X', hf, h => by
    simp only [evC] at h ⊢
    split at h <;> try (cases h; done)
    rename_i F1 X1 hd
    simp only [Option.some.injEq, Prod.mk.injEq] at h
    obtain ⟨rfl, rfl, rfl⟩ := h
    have hf0 : Free { X with orc := [] } m := ⟨hf.dead, hf.lt⟩
    cases ho : ord id with
    | text =>
      rw [ho] at hd
      have := evD_frame (ob := ob) hfr hc hf0 hd
      simp only []
      rw [show ({ X.add m ob with orc := [] } : XW) = ({ X with orc := [] } : XW).add m ob from rfl, this]
      rfl
    | skip => rw [ho] at hd; cases hd
    | ord is chk =>
      rw [ho] at hd
      have := evD_frame (ob := ob) hfr hc hf0 hd
      simp only []
      rw [show ({ X.add m ob with orc := [] } : XW) = ({ X with orc := [] } : XW).add m ob from rfl, this]
      rfl
    | news is rs =>
      rw [ho] at hd
      simp only [force_eq] at hd ⊢
      cases hdd : allDead X X.next rs with
      | false => rw [hdd] at hd; cases hd
      | true =>
        rw [hdd] at hd
        have h2 : allDead (X.add m ob) (X.add m ob).next rs = true := allDead_frame hf.lt hdd
        rw [h2]
        have hf1 : Free { X with orc := [], next := X.next + ops.size } m := ⟨hf.dead, Nat.lt_of_lt_of_le hf.lt (Nat.le_add_right _ _)⟩
        have := evN_frame (ob := ob) hfr hc hf.lt (Nat.le_add_right _ _) hf1 hd
        simp only [cond_true]
        rw [show ({ X.add m ob with orc := [], next := (X.add m ob).next + ops.size } : XW) = ({ X with orc := [], next := X.next + ops.size } : XW).add m ob from rfl,
          show (X.add m ob).next = X.next from rfl, this]
        rfl
  | .seq x y, F, X, ex, F', X', hf, h => by
    simp only [evC] at h ⊢
    split at h
    · rename_i F1 X1 hx
      rw [code_frame hfr hc hj hjk x _ _ _ _ _ hf hx]
      exact code_frame hfr hc hj hjk y _ _ _ _ _ (hf.kD (code_keeps hc hjk x _ _ _ _ _ hx)) h
    · rename_i hne
      rw [code_frame hfr hc hj hjk x _ _ _ _ _ hf h]
      cases ex with
      | nm => exact absurd h (hne F' X')
      | _ => rfl
  | .cond c x y, F, X, ex, F', X', hf, h => by
    simp only [evC] at h ⊢
    split at h <;> try (cases h; done)
    rename_i z hz
    have hz' : look (X.add m ob).ng F c = some z := hz
    simp only [hz']
    split at h
    · rename_i X1 hb
      rw [asB_frame (m := m) (ob := ob) hb]
      exact code_frame hfr hc hj hjk x _ _ _ _ _ (hf.keeps (asB_keeps hb)) h
    · rename_i X1 hb
      rw [asB_frame (m := m) (ob := ob) hb]
      exact code_frame hfr hc hj hjk y _ _ _ _ _ (hf.keeps (asB_keeps hb)) h
    · cases h
  | .block id c, F, X, ex, F', X', hf, h => by
    simp only [evC] at h ⊢
    split at h
    · rename_i id' F1 X1 hx
      rw [code_frame hfr hc hj hjk c _ _ _ _ _ hf hx]
      simp only []
      cases hb : Nat.beq id' id <;> simp only [hb, cond_true, cond_false, Option.some.injEq, Prod.mk.injEq] at h ⊢ <;> (obtain ⟨rfl, rfl, rfl⟩ := h; exact ⟨rfl, rfl, rfl⟩)
    · rename_i hne
      rw [code_frame hfr hc hj hjk c _ _ _ _ _ hf h]
      cases ex with
      | ex id' => exact absurd h (hne id' F' X')
      | _ => rfl
  | .loop c, F, X, ex, F', X', hf, h => by
    simp only [evC] at h ⊢
    have key : ∀ (k : Nat) (F : Tr SV) (X : XW), Free X m → loopE (evC P callf ord me rd N fuel jump c) k F X = some (ex, F', X') → loopE (evC P callf ord me rd N fuel jump c) k F (X.add m ob) = some (ex, F', X'.add m ob) := by
      intro k
      induction k with
      | zero => intro F X _ h; simp [loopE] at h
      | succ k ih =>
        intro F X hf h
        have h' : (match evC P callf ord me rd N fuel jump c F X with | some (.nm, F, X) => loopE (evC P callf ord me rd N fuel jump c) k F X | r => r) = some (ex, F', X') := h
        show (match evC P callf ord me rd N fuel jump c F (X.add m ob) with | some (.nm, F, X) => loopE (evC P callf ord me rd N fuel jump c) k F X | r => r) = some (ex, F', X'.add m ob)
        split at h'
        · rename_i F1 X1 hb
          rw [code_frame hfr hc hj hjk c _ _ _ _ _ hf hb]
          exact ih _ _ (hf.kD (code_keeps hc hjk c _ _ _ _ _ hb)) h'
        · rename_i hne
          rw [code_frame hfr hc hj hjk c _ _ _ _ _ hf h']
          cases ex with
          | nm => exact absurd h' (hne F' X')
          | _ => rfl
    exact key fuel F X hf h
  | .exit id, F, X, ex, F', X', _, h => by simp only [evC, Option.some.injEq, Prod.mk.injEq] at h ⊢; obtain ⟨rfl, rfl, rfl⟩ := h; exact ⟨rfl, rfl, rfl⟩
  | .label l, F, X, ex, F', X', _, h => by simp only [evC, Option.some.injEq, Prod.mk.injEq] at h ⊢; obtain ⟨rfl, rfl, rfl⟩ := h; exact ⟨rfl, rfl, rfl⟩
  | .ret, F, X, ex, F', X', _, h => by simp only [evC, Option.some.injEq, Prod.mk.injEq] at h ⊢; obtain ⟨rfl, rfl, rfl⟩ := h; exact ⟨rfl, rfl, rfl⟩
  | .goto _, F, X, ex, F', X', _, h => by simp only [evC, Option.some.injEq, Prod.mk.injEq] at h ⊢; obtain ⟨rfl, rfl, rfl⟩ := h; exact ⟨rfl, rfl, rfl⟩
  | .scope c, F, X, ex, F', X', hf, h => by
    simp only [evC] at h ⊢
    split at h
    · rename_i l F1 X1 hx
      rw [code_frame hfr hc hj hjk c _ _ _ _ _ hf hx]
      have hf1 := hf.kD (code_keeps hc hjk c _ _ _ _ _ hx)
      simp only []
      split at h
      · rename_i rest hl
        exact hj _ _ _ _ _ _ _ _ _ hf1 h
      · simp only [Option.some.injEq, Prod.mk.injEq] at h ⊢
        obtain ⟨rfl, rfl, rfl⟩ := h
        exact ⟨rfl, rfl, rfl⟩
    · rename_i hne
      rw [code_frame hfr hc hj hjk c _ _ _ _ _ hf h]
      cases ex with
      | gt l => exact absurd h (hne l F' X')
      | _ => rfl
  | .rangeFunc g _ _ _, F, X, ex, F', X', hf, h => by
    simp only [evC] at h ⊢
    split at h <;> try (cases h; done)
    rename_i z hz
    have hz' : look (X.add m ob).ng F g = some z := hz
    simp only [hz']
    exact range_frame2 hfr hc hf h
  | .refuse _, _, _, _, _, _, _, h => by simp [evC] at h
end

theorem jump_frame {callf : CallF} (hfr : FrameOK callf) (hc : KeepsOK callf) {ord : Nat → Hint} {me : FuncId} {rd : Option Nat} {N fuel : Nat} : ∀ n, FrameJ (jumpE P callf ord me rd N fuel n)
  | 0, _, _, _, _, _, _, _, _, _, _, h => by simp [jumpE] at h
  | n + 1, m, ob, c, rest, F, X, ex, F', X', hf, h => by
    have ih := jump_frame hfr hc (ord := ord) (me := me) (rd := rd) (N := N) (fuel := fuel) n
    have ihk : KeepsJ (jumpE P callf ord me rd N fuel n) := jump_keeps hc n
    have h' : (match evC P callf ord me rd N fuel (jumpE P callf ord me rd N fuel n) rest F X with
      | some (.gt l, F, X) => (match findLabel c l with
        | some rest => jumpE P callf ord me rd N fuel n c rest F X
        | none => some (.gt l, F, X))
      | r => r) = some (ex, F', X') := h
    show (match evC P callf ord me rd N fuel (jumpE P callf ord me rd N fuel n) rest F (X.add m ob) with
      | some (.gt l, F, X) => (match findLabel c l with
        | some rest => jumpE P callf ord me rd N fuel n c rest F X
        | none => some (.gt l, F, X))
      | r => r) = some (ex, F', X'.add m ob)
    split at h'
    · rename_i l F1 X1 hx
      rw [code_frame hfr hc ih ihk rest _ _ _ _ _ hf hx]
      have hf1 := hf.kD (code_keeps hc ihk rest _ _ _ _ _ hx)
      simp only []
      split at h'
      · exact ih _ _ _ _ _ _ _ _ _ hf1 h'
      · simp only [Option.some.injEq, Prod.mk.injEq] at h' ⊢
        obtain ⟨rfl, rfl, rfl⟩ := h'
        exact ⟨rfl, rfl, rfl⟩
    · rename_i hne
      rw [code_frame hfr hc ih ihk rest _ _ _ _ _ hf h']
      cases ex with
      | gt l => exact absurd h' (hne l F' X')
      | _ => rfl
end
end Go.Xe
