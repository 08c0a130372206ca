/-
  NARROWER THAN 'FOR EVERY INPUT', by the rows' own cells (each row's printed sentence says how): BlocksNames: laid · BlocksBack: laid · BlocksActs: laid · BlocksNone: laid · InodeNames: laid · InodeShort: laid · InodeBytes: laid · InodeNew: laid · InodeSound: laid · InodeRuns: laid · InodeCopies: laid · InodeNone: laid.
  DERIVED. THE GIVEN ROWS OF THIS SEAT. 12 by the template 'for every input the law returns true; each argument reads behind the call as it read before'; 0 by the template 'total and deterministic' (their statements: YtomialandfplkaaDoorTotals.lean).
  GIVEN WITH THE SEED: the statements are not yours to turn. If you find one false, say at which input.
  Laid BY PROGRAM, IN A SANDBOX (cutbox-rows.mjs): the forced cells as the released guide's own fill.sh prints them over the translation 54aceca962314d71… (all of the seat's roots in one cut). By AI agents, Wed Nov 11 2026. No macro, syntax, notation, axiom, sorry.
-/
import Derived.Test.YtomialandfplkaaDoorChecked
import GoSem.Claim
import GoSem.ClaimJoined
import GoSem.ClaimMapViews
import Derived.JoinedTies
import Derived.KernelRfl
namespace Go.Proofs.YtomialandfplkaaDoor
/- THE CELL 'sum', in the pinned program and in every row, IS THE sha256 OF THE DUMP (.gsa) THAT YtomialandfplkaaDoorProg.lean LOADS. Nothing in Lean hashes anything: it is a label: what it is worth is what the hold of that sum in a sandbox is worth. -/
noncomputable def Tryd.pinned : Pinned := { name := "ytomialandfplkaadoor", sum := "54aceca962314d710dbcba1ae36c1f8815e92d8093373415283f5f97bc9e6b3a", checked := Tryd.checked }
namespace Rows
def none {H : Type} : Left H := { results := [], args := [] }

/- WHAT THE LISTED PACKAGE-LEVEL VARIABLES READ AS WHEN THE CALL BEGINS. Each datum BY PROGRAM (the guide's laid-datum.mjs) off the statement by which the dump's own 'gosem.cut.vars' lays the variable. In a bare row this is a premise. The card (YtomialandfplkaaDoorCards.lean) ties it to the program's text. -/
def laid_math_bits_deBruijn64tab {H : Type} : DataW H := .agg [.lit (.int .u8 0), .lit (.int .u8 1), .lit (.int .u8 56), .lit (.int .u8 2), .lit (.int .u8 57), .lit (.int .u8 49), .lit (.int .u8 28), .lit (.int .u8 3), .lit (.int .u8 61), .lit (.int .u8 58), .lit (.int .u8 42), .lit (.int .u8 50), .lit (.int .u8 38), .lit (.int .u8 29), .lit (.int .u8 17), .lit (.int .u8 4), .lit (.int .u8 62), .lit (.int .u8 47), .lit (.int .u8 59), .lit (.int .u8 36), .lit (.int .u8 45), .lit (.int .u8 43), .lit (.int .u8 51), .lit (.int .u8 22), .lit (.int .u8 53), .lit (.int .u8 39), .lit (.int .u8 33), .lit (.int .u8 30), .lit (.int .u8 24), .lit (.int .u8 18), .lit (.int .u8 12), .lit (.int .u8 5), .lit (.int .u8 63), .lit (.int .u8 55), .lit (.int .u8 48), .lit (.int .u8 27), .lit (.int .u8 60), .lit (.int .u8 41), .lit (.int .u8 37), .lit (.int .u8 16), .lit (.int .u8 46), .lit (.int .u8 35), .lit (.int .u8 44), .lit (.int .u8 21), .lit (.int .u8 52), .lit (.int .u8 32), .lit (.int .u8 23), .lit (.int .u8 11), .lit (.int .u8 54), .lit (.int .u8 26), .lit (.int .u8 40), .lit (.int .u8 15), .lit (.int .u8 34), .lit (.int .u8 20), .lit (.int .u8 31), .lit (.int .u8 10), .lit (.int .u8 25), .lit (.int .u8 14), .lit (.int .u8 19), .lit (.int .u8 9), .lit (.int .u8 13), .lit (.int .u8 8), .lit (.int .u8 7), .lit (.int .u8 6)]

/-- 'tinsellaw01.BlocksNames': WHATEVER THE INPUT: true; the input reads as it did. -/
def blocksNamesSpec : ChangeSpec := { name := "blocksNames", fn := fun _ => fun
  | [] => { results := [.lit (.bool true)], args := [] }
  | _ => none }
def blocksNamesRow : OpenClaim := { program := "ytomialandfplkaadoor", sum := "54aceca962314d710dbcba1ae36c1f8815e92d8093373415283f5f97bc9e6b3a", func := "tinsel/tinsellaw01.BlocksNames", spec := "blocksNames", named := ["math/bits.deBruijn64tab"], apart := false, laid := [("math/bits.deBruijn64tab", laid_math_bits_deBruijn64tab)] }
def BlocksNamesSaid : Prop := blocksNamesRow.holds Tryd.pinned (OpenSpec.ofChange blocksNamesSpec)

/-- ITS FALSE NEIGHBOUR: 'it returns false'. Refute it at one input. -/
def blocksNamesWrong : ChangeSpec := { name := "blocksNames", fn := fun _ => fun
  | [] => { results := [.lit (.bool false)], args := [] }
  | _ => none }
def BlocksNamesWrongFalsely : Prop := blocksNamesRow.holds Tryd.pinned (OpenSpec.ofChange blocksNamesWrong)

/-- 'tinsellaw01.BlocksBack': WHATEVER THE INPUT: true; the input reads as it did. -/
def blocksBackSpec : ChangeSpec := { name := "blocksBack", fn := fun _ => fun
  | [d1, d2, d3] => { results := [.lit (.bool true)], args := [d1, d2, d3] }
  | _ => none }
def blocksBackRow : OpenClaim := { program := "ytomialandfplkaadoor", sum := "54aceca962314d710dbcba1ae36c1f8815e92d8093373415283f5f97bc9e6b3a", func := "tinsel/tinsellaw01.BlocksBack", spec := "blocksBack", named := ["math/bits.deBruijn64tab"], apart := false, laid := [("math/bits.deBruijn64tab", laid_math_bits_deBruijn64tab)] }
def BlocksBackSaid : Prop := blocksBackRow.holds Tryd.pinned (OpenSpec.ofChange blocksBackSpec)

/-- ITS FALSE NEIGHBOUR: 'it returns false'. Refute it at one input. -/
def blocksBackWrong : ChangeSpec := { name := "blocksBack", fn := fun _ => fun
  | [d1, d2, d3] => { results := [.lit (.bool false)], args := [d1, d2, d3] }
  | _ => none }
def BlocksBackWrongFalsely : Prop := blocksBackRow.holds Tryd.pinned (OpenSpec.ofChange blocksBackWrong)

/-- 'tinsellaw01.BlocksActs': WHATEVER THE INPUT: true; the input reads as it did. -/
def blocksActsSpec : ChangeSpec := { name := "blocksActs", fn := fun _ => fun
  | [d1, d2] => { results := [.lit (.bool true)], args := [d1, d2] }
  | _ => none }
def blocksActsRow : OpenClaim := { program := "ytomialandfplkaadoor", sum := "54aceca962314d710dbcba1ae36c1f8815e92d8093373415283f5f97bc9e6b3a", func := "tinsel/tinsellaw01.BlocksActs", spec := "blocksActs", named := ["math/bits.deBruijn64tab"], apart := false, laid := [("math/bits.deBruijn64tab", laid_math_bits_deBruijn64tab)] }
def BlocksActsSaid : Prop := blocksActsRow.holds Tryd.pinned (OpenSpec.ofChange blocksActsSpec)

/-- ITS FALSE NEIGHBOUR: 'it returns false'. Refute it at one input. -/
def blocksActsWrong : ChangeSpec := { name := "blocksActs", fn := fun _ => fun
  | [d1, d2] => { results := [.lit (.bool false)], args := [d1, d2] }
  | _ => none }
def BlocksActsWrongFalsely : Prop := blocksActsRow.holds Tryd.pinned (OpenSpec.ofChange blocksActsWrong)

/-- 'tinsellaw01.BlocksNone': WHATEVER THE INPUT: true; the input reads as it did. -/
def blocksNoneSpec : ChangeSpec := { name := "blocksNone", fn := fun _ => fun
  | [d1, d2, d3] => { results := [.lit (.bool true)], args := [d1, d2, d3] }
  | _ => none }
def blocksNoneRow : OpenClaim := { program := "ytomialandfplkaadoor", sum := "54aceca962314d710dbcba1ae36c1f8815e92d8093373415283f5f97bc9e6b3a", func := "tinsel/tinsellaw01.BlocksNone", spec := "blocksNone", named := ["math/bits.deBruijn64tab"], apart := false, laid := [("math/bits.deBruijn64tab", laid_math_bits_deBruijn64tab)] }
def BlocksNoneSaid : Prop := blocksNoneRow.holds Tryd.pinned (OpenSpec.ofChange blocksNoneSpec)

/-- ITS FALSE NEIGHBOUR: 'it returns false'. Refute it at one input. -/
def blocksNoneWrong : ChangeSpec := { name := "blocksNone", fn := fun _ => fun
  | [d1, d2, d3] => { results := [.lit (.bool false)], args := [d1, d2, d3] }
  | _ => none }
def BlocksNoneWrongFalsely : Prop := blocksNoneRow.holds Tryd.pinned (OpenSpec.ofChange blocksNoneWrong)

/-- 'tinsellaw02.InodeNames': WHATEVER THE INPUT: true; the input reads as it did. -/
def inodeNamesSpec : ChangeSpec := { name := "inodeNames", fn := fun _ => fun
  | [] => { results := [.lit (.bool true)], args := [] }
  | _ => none }
def inodeNamesRow : OpenClaim := { program := "ytomialandfplkaadoor", sum := "54aceca962314d710dbcba1ae36c1f8815e92d8093373415283f5f97bc9e6b3a", func := "tinsel/tinsellaw02.InodeNames", spec := "inodeNames", unfollowed := true, recurses := true, named := ["math/bits.deBruijn64tab"], apart := false, laid := [("math/bits.deBruijn64tab", laid_math_bits_deBruijn64tab)] }
def InodeNamesSaid : Prop := inodeNamesRow.holds Tryd.pinned (OpenSpec.ofChange inodeNamesSpec)

/-- ITS FALSE NEIGHBOUR: 'it returns false'. Refute it at one input. -/
def inodeNamesWrong : ChangeSpec := { name := "inodeNames", fn := fun _ => fun
  | [] => { results := [.lit (.bool false)], args := [] }
  | _ => none }
def InodeNamesWrongFalsely : Prop := inodeNamesRow.holds Tryd.pinned (OpenSpec.ofChange inodeNamesWrong)

/-- 'tinsellaw02.InodeShort': WHATEVER THE INPUT: true; the input reads as it did. -/
def inodeShortSpec : ChangeSpec := { name := "inodeShort", fn := fun _ => fun
  | [d1, d2, d3] => { results := [.lit (.bool true)], args := [d1, d2, d3] }
  | _ => none }
def inodeShortRow : OpenClaim := { program := "ytomialandfplkaadoor", sum := "54aceca962314d710dbcba1ae36c1f8815e92d8093373415283f5f97bc9e6b3a", func := "tinsel/tinsellaw02.InodeShort", spec := "inodeShort", unfollowed := true, recurses := true, named := ["math/bits.deBruijn64tab"], apart := false, laid := [("math/bits.deBruijn64tab", laid_math_bits_deBruijn64tab)] }
def InodeShortSaid : Prop := inodeShortRow.holds Tryd.pinned (OpenSpec.ofChange inodeShortSpec)

/-- ITS FALSE NEIGHBOUR: 'it returns false'. Refute it at one input. -/
def inodeShortWrong : ChangeSpec := { name := "inodeShort", fn := fun _ => fun
  | [d1, d2, d3] => { results := [.lit (.bool false)], args := [d1, d2, d3] }
  | _ => none }
def InodeShortWrongFalsely : Prop := inodeShortRow.holds Tryd.pinned (OpenSpec.ofChange inodeShortWrong)

/-- 'tinsellaw02.InodeBytes': WHATEVER THE INPUT: true; the input reads as it did. -/
def inodeBytesSpec : ChangeSpec := { name := "inodeBytes", fn := fun _ => fun
  | [d] => { results := [.lit (.bool true)], args := [d] }
  | _ => none }
def inodeBytesRow : OpenClaim := { program := "ytomialandfplkaadoor", sum := "54aceca962314d710dbcba1ae36c1f8815e92d8093373415283f5f97bc9e6b3a", func := "tinsel/tinsellaw02.InodeBytes", spec := "inodeBytes", unfollowed := true, recurses := true, named := ["math/bits.deBruijn64tab"], apart := false, laid := [("math/bits.deBruijn64tab", laid_math_bits_deBruijn64tab)] }
def InodeBytesSaid : Prop := inodeBytesRow.holds Tryd.pinned (OpenSpec.ofChange inodeBytesSpec)

/-- ITS FALSE NEIGHBOUR: 'it returns false'. Refute it at one input. -/
def inodeBytesWrong : ChangeSpec := { name := "inodeBytes", fn := fun _ => fun
  | [d] => { results := [.lit (.bool false)], args := [d] }
  | _ => none }
def InodeBytesWrongFalsely : Prop := inodeBytesRow.holds Tryd.pinned (OpenSpec.ofChange inodeBytesWrong)

/-- 'tinsellaw02.InodeNew': WHATEVER THE INPUT: true; the input reads as it did. -/
def inodeNewSpec : ChangeSpec := { name := "inodeNew", fn := fun _ => fun
  | [d1, d2] => { results := [.lit (.bool true)], args := [d1, d2] }
  | _ => none }
def inodeNewRow : OpenClaim := { program := "ytomialandfplkaadoor", sum := "54aceca962314d710dbcba1ae36c1f8815e92d8093373415283f5f97bc9e6b3a", func := "tinsel/tinsellaw02.InodeNew", spec := "inodeNew", unfollowed := true, recurses := true, named := ["math/bits.deBruijn64tab"], apart := false, laid := [("math/bits.deBruijn64tab", laid_math_bits_deBruijn64tab)] }
def InodeNewSaid : Prop := inodeNewRow.holds Tryd.pinned (OpenSpec.ofChange inodeNewSpec)

/-- ITS FALSE NEIGHBOUR: 'it returns false'. Refute it at one input. -/
def inodeNewWrong : ChangeSpec := { name := "inodeNew", fn := fun _ => fun
  | [d1, d2] => { results := [.lit (.bool false)], args := [d1, d2] }
  | _ => none }
def InodeNewWrongFalsely : Prop := inodeNewRow.holds Tryd.pinned (OpenSpec.ofChange inodeNewWrong)

/-- 'tinsellaw02.InodeSound': WHATEVER THE INPUT: true; the input reads as it did. -/
def inodeSoundSpec : ChangeSpec := { name := "inodeSound", fn := fun _ => fun
  | [d1, d2, d3] => { results := [.lit (.bool true)], args := [d1, d2, d3] }
  | _ => none }
def inodeSoundRow : OpenClaim := { program := "ytomialandfplkaadoor", sum := "54aceca962314d710dbcba1ae36c1f8815e92d8093373415283f5f97bc9e6b3a", func := "tinsel/tinsellaw02.InodeSound", spec := "inodeSound", unfollowed := true, recurses := true, named := ["math/bits.deBruijn64tab"], apart := false, laid := [("math/bits.deBruijn64tab", laid_math_bits_deBruijn64tab)] }
def InodeSoundSaid : Prop := inodeSoundRow.holds Tryd.pinned (OpenSpec.ofChange inodeSoundSpec)

/-- ITS FALSE NEIGHBOUR: 'it returns false'. Refute it at one input. -/
def inodeSoundWrong : ChangeSpec := { name := "inodeSound", fn := fun _ => fun
  | [d1, d2, d3] => { results := [.lit (.bool false)], args := [d1, d2, d3] }
  | _ => none }
def InodeSoundWrongFalsely : Prop := inodeSoundRow.holds Tryd.pinned (OpenSpec.ofChange inodeSoundWrong)

/-- 'tinsellaw02.InodeRuns': WHATEVER THE INPUT: true; the input reads as it did. -/
def inodeRunsSpec : ChangeSpec := { name := "inodeRuns", fn := fun _ => fun
  | [d1, d2, d3] => { results := [.lit (.bool true)], args := [d1, d2, d3] }
  | _ => none }
def inodeRunsRow : OpenClaim := { program := "ytomialandfplkaadoor", sum := "54aceca962314d710dbcba1ae36c1f8815e92d8093373415283f5f97bc9e6b3a", func := "tinsel/tinsellaw02.InodeRuns", spec := "inodeRuns", unfollowed := true, recurses := true, named := ["math/bits.deBruijn64tab"], apart := false, laid := [("math/bits.deBruijn64tab", laid_math_bits_deBruijn64tab)] }
def InodeRunsSaid : Prop := inodeRunsRow.holds Tryd.pinned (OpenSpec.ofChange inodeRunsSpec)

/-- ITS FALSE NEIGHBOUR: 'it returns false'. Refute it at one input. -/
def inodeRunsWrong : ChangeSpec := { name := "inodeRuns", fn := fun _ => fun
  | [d1, d2, d3] => { results := [.lit (.bool false)], args := [d1, d2, d3] }
  | _ => none }
def InodeRunsWrongFalsely : Prop := inodeRunsRow.holds Tryd.pinned (OpenSpec.ofChange inodeRunsWrong)

/-- 'tinsellaw02.InodeCopies': WHATEVER THE INPUT: true; the input reads as it did. -/
def inodeCopiesSpec : ChangeSpec := { name := "inodeCopies", fn := fun _ => fun
  | [d1, d2, d3] => { results := [.lit (.bool true)], args := [d1, d2, d3] }
  | _ => none }
def inodeCopiesRow : OpenClaim := { program := "ytomialandfplkaadoor", sum := "54aceca962314d710dbcba1ae36c1f8815e92d8093373415283f5f97bc9e6b3a", func := "tinsel/tinsellaw02.InodeCopies", spec := "inodeCopies", unfollowed := true, recurses := true, named := ["math/bits.deBruijn64tab"], apart := false, laid := [("math/bits.deBruijn64tab", laid_math_bits_deBruijn64tab)] }
def InodeCopiesSaid : Prop := inodeCopiesRow.holds Tryd.pinned (OpenSpec.ofChange inodeCopiesSpec)

/-- ITS FALSE NEIGHBOUR: 'it returns false'. Refute it at one input. -/
def inodeCopiesWrong : ChangeSpec := { name := "inodeCopies", fn := fun _ => fun
  | [d1, d2, d3] => { results := [.lit (.bool false)], args := [d1, d2, d3] }
  | _ => none }
def InodeCopiesWrongFalsely : Prop := inodeCopiesRow.holds Tryd.pinned (OpenSpec.ofChange inodeCopiesWrong)

/-- 'tinsellaw02.InodeNone': WHATEVER THE INPUT: true; the input reads as it did. -/
def inodeNoneSpec : ChangeSpec := { name := "inodeNone", fn := fun _ => fun
  | [d] => { results := [.lit (.bool true)], args := [d] }
  | _ => none }
def inodeNoneRow : OpenClaim := { program := "ytomialandfplkaadoor", sum := "54aceca962314d710dbcba1ae36c1f8815e92d8093373415283f5f97bc9e6b3a", func := "tinsel/tinsellaw02.InodeNone", spec := "inodeNone", unfollowed := true, recurses := true, named := ["math/bits.deBruijn64tab"], apart := false, laid := [("math/bits.deBruijn64tab", laid_math_bits_deBruijn64tab)] }
def InodeNoneSaid : Prop := inodeNoneRow.holds Tryd.pinned (OpenSpec.ofChange inodeNoneSpec)

/-- ITS FALSE NEIGHBOUR: 'it returns false'. Refute it at one input. -/
def inodeNoneWrong : ChangeSpec := { name := "inodeNone", fn := fun _ => fun
  | [d] => { results := [.lit (.bool false)], args := [d] }
  | _ => none }
def InodeNoneWrongFalsely : Prop := inodeNoneRow.holds Tryd.pinned (OpenSpec.ofChange inodeNoneWrong)

/- THE SECOND FORM. 'bulk': how many values and letters a reading holds, each counted each time it is reached (what is shared counts as often as it is met; a slice's spare places count too). A statement '..UptoSaid' is the law's where the arguments, and the package variables that the reading takes, are together of bulk at most 1048576: NARROWER than '..Said'. Prove '..Said' where nothing that the law and all that it calls make is longer than what came in: it says more and counts as full. Else prove '..UptoSaid'. A law counts once. -/
mutual
def uptoBulk {H : Type} : DataW H → Nat
  | .lit (.string bytes) => bytes.length + 1
  | .lit _ => 1
  | .nil => 1
  | .ptr d => uptoBulk d + 1
  | .slice elems spare => uptoBulkAll elems + uptoBulkAll spare + 1
  | .agg parts => uptoBulkAll parts + 1
  | .iface _ d => uptoBulk d + 1
  | .map entries => uptoBulkEntries entries + 1
  | .held _ => 1
def uptoBulkAll {H : Type} : List (DataW H) → Nat
  | [] => 0
  | d :: r => uptoBulk d + uptoBulkAll r
def uptoBulkEntries {H : Type} : List (Lit × DataW H) → Nat
  | [] => 0
  | x :: r => uptoBulkEntry x + uptoBulkEntries r
def uptoBulkEntry {H : Type} : Lit × DataW H → Nat
  | (.string bytes, d) => bytes.length + uptoBulk d + 1
  | (_, d) => uptoBulk d + 1
 end
def uptoSmall : (H : Type) → List (DataW H) → Bool := fun _ ds => decide (uptoBulkAll ds ≤ 1048576)
def OpenSpec.upto (s : _root_.Go.ChangeSpec) : _root_.Go.OpenSpec := { _root_.Go.OpenSpec.ofChange s with cond := some uptoSmall }

/-- 'tinsellaw01.BlocksNames', WHERE WHAT IT READS IS OF BULK AT MOST 1048576: true; the input reads as it did. -/
def blocksNamesUptoRow : OpenClaim := { program := "ytomialandfplkaadoor", sum := "54aceca962314d710dbcba1ae36c1f8815e92d8093373415283f5f97bc9e6b3a", func := "tinsel/tinsellaw01.BlocksNames", spec := "blocksNames", named := ["math/bits.deBruijn64tab"], apart := false, laid := [("math/bits.deBruijn64tab", laid_math_bits_deBruijn64tab)], narrowed := true }
def BlocksNamesUptoSaid : Prop := blocksNamesUptoRow.holds Tryd.pinned (OpenSpec.upto blocksNamesSpec)

/-- 'tinsellaw01.BlocksBack', WHERE WHAT IT READS IS OF BULK AT MOST 1048576: true; the input reads as it did. -/
def blocksBackUptoRow : OpenClaim := { program := "ytomialandfplkaadoor", sum := "54aceca962314d710dbcba1ae36c1f8815e92d8093373415283f5f97bc9e6b3a", func := "tinsel/tinsellaw01.BlocksBack", spec := "blocksBack", named := ["math/bits.deBruijn64tab"], apart := false, laid := [("math/bits.deBruijn64tab", laid_math_bits_deBruijn64tab)], narrowed := true }
def BlocksBackUptoSaid : Prop := blocksBackUptoRow.holds Tryd.pinned (OpenSpec.upto blocksBackSpec)

/-- 'tinsellaw01.BlocksActs', WHERE WHAT IT READS IS OF BULK AT MOST 1048576: true; the input reads as it did. -/
def blocksActsUptoRow : OpenClaim := { program := "ytomialandfplkaadoor", sum := "54aceca962314d710dbcba1ae36c1f8815e92d8093373415283f5f97bc9e6b3a", func := "tinsel/tinsellaw01.BlocksActs", spec := "blocksActs", named := ["math/bits.deBruijn64tab"], apart := false, laid := [("math/bits.deBruijn64tab", laid_math_bits_deBruijn64tab)], narrowed := true }
def BlocksActsUptoSaid : Prop := blocksActsUptoRow.holds Tryd.pinned (OpenSpec.upto blocksActsSpec)

/-- 'tinsellaw01.BlocksNone', WHERE WHAT IT READS IS OF BULK AT MOST 1048576: true; the input reads as it did. -/
def blocksNoneUptoRow : OpenClaim := { program := "ytomialandfplkaadoor", sum := "54aceca962314d710dbcba1ae36c1f8815e92d8093373415283f5f97bc9e6b3a", func := "tinsel/tinsellaw01.BlocksNone", spec := "blocksNone", named := ["math/bits.deBruijn64tab"], apart := false, laid := [("math/bits.deBruijn64tab", laid_math_bits_deBruijn64tab)], narrowed := true }
def BlocksNoneUptoSaid : Prop := blocksNoneUptoRow.holds Tryd.pinned (OpenSpec.upto blocksNoneSpec)

/-- 'tinsellaw02.InodeNames', WHERE WHAT IT READS IS OF BULK AT MOST 1048576: true; the input reads as it did. -/
def inodeNamesUptoRow : OpenClaim := { program := "ytomialandfplkaadoor", sum := "54aceca962314d710dbcba1ae36c1f8815e92d8093373415283f5f97bc9e6b3a", func := "tinsel/tinsellaw02.InodeNames", spec := "inodeNames", unfollowed := true, recurses := true, named := ["math/bits.deBruijn64tab"], apart := false, laid := [("math/bits.deBruijn64tab", laid_math_bits_deBruijn64tab)], narrowed := true }
def InodeNamesUptoSaid : Prop := inodeNamesUptoRow.holds Tryd.pinned (OpenSpec.upto inodeNamesSpec)

/-- 'tinsellaw02.InodeShort', WHERE WHAT IT READS IS OF BULK AT MOST 1048576: true; the input reads as it did. -/
def inodeShortUptoRow : OpenClaim := { program := "ytomialandfplkaadoor", sum := "54aceca962314d710dbcba1ae36c1f8815e92d8093373415283f5f97bc9e6b3a", func := "tinsel/tinsellaw02.InodeShort", spec := "inodeShort", unfollowed := true, recurses := true, named := ["math/bits.deBruijn64tab"], apart := false, laid := [("math/bits.deBruijn64tab", laid_math_bits_deBruijn64tab)], narrowed := true }
def InodeShortUptoSaid : Prop := inodeShortUptoRow.holds Tryd.pinned (OpenSpec.upto inodeShortSpec)

/-- 'tinsellaw02.InodeBytes', WHERE WHAT IT READS IS OF BULK AT MOST 1048576: true; the input reads as it did. -/
def inodeBytesUptoRow : OpenClaim := { program := "ytomialandfplkaadoor", sum := "54aceca962314d710dbcba1ae36c1f8815e92d8093373415283f5f97bc9e6b3a", func := "tinsel/tinsellaw02.InodeBytes", spec := "inodeBytes", unfollowed := true, recurses := true, named := ["math/bits.deBruijn64tab"], apart := false, laid := [("math/bits.deBruijn64tab", laid_math_bits_deBruijn64tab)], narrowed := true }
def InodeBytesUptoSaid : Prop := inodeBytesUptoRow.holds Tryd.pinned (OpenSpec.upto inodeBytesSpec)

/-- 'tinsellaw02.InodeNew', WHERE WHAT IT READS IS OF BULK AT MOST 1048576: true; the input reads as it did. -/
def inodeNewUptoRow : OpenClaim := { program := "ytomialandfplkaadoor", sum := "54aceca962314d710dbcba1ae36c1f8815e92d8093373415283f5f97bc9e6b3a", func := "tinsel/tinsellaw02.InodeNew", spec := "inodeNew", unfollowed := true, recurses := true, named := ["math/bits.deBruijn64tab"], apart := false, laid := [("math/bits.deBruijn64tab", laid_math_bits_deBruijn64tab)], narrowed := true }
def InodeNewUptoSaid : Prop := inodeNewUptoRow.holds Tryd.pinned (OpenSpec.upto inodeNewSpec)

/-- 'tinsellaw02.InodeSound', WHERE WHAT IT READS IS OF BULK AT MOST 1048576: true; the input reads as it did. -/
def inodeSoundUptoRow : OpenClaim := { program := "ytomialandfplkaadoor", sum := "54aceca962314d710dbcba1ae36c1f8815e92d8093373415283f5f97bc9e6b3a", func := "tinsel/tinsellaw02.InodeSound", spec := "inodeSound", unfollowed := true, recurses := true, named := ["math/bits.deBruijn64tab"], apart := false, laid := [("math/bits.deBruijn64tab", laid_math_bits_deBruijn64tab)], narrowed := true }
def InodeSoundUptoSaid : Prop := inodeSoundUptoRow.holds Tryd.pinned (OpenSpec.upto inodeSoundSpec)

/-- 'tinsellaw02.InodeRuns', WHERE WHAT IT READS IS OF BULK AT MOST 1048576: true; the input reads as it did. -/
def inodeRunsUptoRow : OpenClaim := { program := "ytomialandfplkaadoor", sum := "54aceca962314d710dbcba1ae36c1f8815e92d8093373415283f5f97bc9e6b3a", func := "tinsel/tinsellaw02.InodeRuns", spec := "inodeRuns", unfollowed := true, recurses := true, named := ["math/bits.deBruijn64tab"], apart := false, laid := [("math/bits.deBruijn64tab", laid_math_bits_deBruijn64tab)], narrowed := true }
def InodeRunsUptoSaid : Prop := inodeRunsUptoRow.holds Tryd.pinned (OpenSpec.upto inodeRunsSpec)

/-- 'tinsellaw02.InodeCopies', WHERE WHAT IT READS IS OF BULK AT MOST 1048576: true; the input reads as it did. -/
def inodeCopiesUptoRow : OpenClaim := { program := "ytomialandfplkaadoor", sum := "54aceca962314d710dbcba1ae36c1f8815e92d8093373415283f5f97bc9e6b3a", func := "tinsel/tinsellaw02.InodeCopies", spec := "inodeCopies", unfollowed := true, recurses := true, named := ["math/bits.deBruijn64tab"], apart := false, laid := [("math/bits.deBruijn64tab", laid_math_bits_deBruijn64tab)], narrowed := true }
def InodeCopiesUptoSaid : Prop := inodeCopiesUptoRow.holds Tryd.pinned (OpenSpec.upto inodeCopiesSpec)

/-- 'tinsellaw02.InodeNone', WHERE WHAT IT READS IS OF BULK AT MOST 1048576: true; the input reads as it did. -/
def inodeNoneUptoRow : OpenClaim := { program := "ytomialandfplkaadoor", sum := "54aceca962314d710dbcba1ae36c1f8815e92d8093373415283f5f97bc9e6b3a", func := "tinsel/tinsellaw02.InodeNone", spec := "inodeNone", unfollowed := true, recurses := true, named := ["math/bits.deBruijn64tab"], apart := false, laid := [("math/bits.deBruijn64tab", laid_math_bits_deBruijn64tab)], narrowed := true }
def InodeNoneUptoSaid : Prop := inodeNoneUptoRow.holds Tryd.pinned (OpenSpec.upto inodeNoneSpec)

end Rows
end Go.Proofs.YtomialandfplkaaDoor
