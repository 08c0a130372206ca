/- The functions of the program as the evaluator takes them, and the one table that the program lays. -/
import Derived.Test.YtomialandfplkaaDoorCards
import Derived.Test.YtomialandfplkaaDoorTie
import Derived.Test.YtomialandfplkaaDoorXeO
import Derived.WalkKit
import Derived.ProofKit
import Derived.OpenShut
import Derived.Deep.DeepHandedRow
import Derived.Lib.LaidTab
namespace Go.Proofs.YtomialandfplkaaDoor.Eva
open Go.ChangeShapes Go.WideShapes Go.ChangeAt Go.RowKit Go.Xe

noncomputable def x14 : XF Tryd.prog := { f := 14, fn := Tryd.f14, ord := fun _ => .text, isFn := Tryd.func14, isBody := by kernel_rfl, isPlain := by kernel_rfl, isSmall := by kernel_rfl, isOK := by kernel_rfl }
noncomputable def x16 : XF Tryd.prog := { f := 16, fn := Tryd.f16, ord := fun _ => .text, isFn := Tryd.func16, isBody := by kernel_rfl, isPlain := by kernel_rfl, isSmall := by kernel_rfl, isOK := by kernel_rfl }
noncomputable def x17 : XF Tryd.prog := { f := 17, fn := Tryd.f17, ord := fun _ => .text, isFn := Tryd.func17, isBody := by kernel_rfl, isPlain := by kernel_rfl, isSmall := by kernel_rfl, isOK := by kernel_rfl }
noncomputable def x18 : XF Tryd.prog := { f := 18, fn := Tryd.f18, ord := fun _ => .text, isFn := Tryd.func18, isBody := by kernel_rfl, isPlain := by kernel_rfl, isSmall := by kernel_rfl, isOK := by kernel_rfl }
noncomputable def x21 : XF Tryd.prog := { f := 21, fn := Tryd.f21, ord := fun _ => .text, isFn := Tryd.func21, isBody := by kernel_rfl, isPlain := by kernel_rfl, isSmall := by kernel_rfl, isOK := by kernel_rfl }
noncomputable def x33 : XF Tryd.prog := { f := 33, fn := Tryd.f33, ord := fun _ => .text, isFn := Tryd.func33, isBody := by kernel_rfl, isPlain := by kernel_rfl, isSmall := by kernel_rfl, isOK := by kernel_rfl }
noncomputable def x34 : XF Tryd.prog := { f := 34, fn := Tryd.f34, ord := fun _ => .text, isFn := Tryd.func34, isBody := by kernel_rfl, isPlain := by kernel_rfl, isSmall := by kernel_rfl, isOK := by kernel_rfl }
noncomputable def x35 : XF Tryd.prog := { f := 35, fn := Tryd.f35, ord := fun _ => .text, isFn := Tryd.func35, isBody := by kernel_rfl, isPlain := by kernel_rfl, isSmall := by kernel_rfl, isOK := by kernel_rfl }
noncomputable def x36 : XF Tryd.prog := { f := 36, fn := Tryd.f36, ord := fun _ => .text, isFn := Tryd.func36, isBody := by kernel_rfl, isPlain := by kernel_rfl, isSmall := by kernel_rfl, isOK := by kernel_rfl }
noncomputable def x37 : XF Tryd.prog := { f := 37, fn := Tryd.f37, ord := fun _ => .text, isFn := Tryd.func37, isBody := by kernel_rfl, isPlain := by kernel_rfl, isSmall := by kernel_rfl, isOK := by kernel_rfl }
noncomputable def x38 : XF Tryd.prog := { f := 38, fn := Tryd.f38, ord := fun r => bif Nat.beq r 16 then .ord [0, 1, 2, 4, 5, 10, 11, 12, 13, 14, 15, 16, 3, 6, 7, 8, 9, 17] [(6, [3])] else .text, isFn := Tryd.func38, isBody := by kernel_rfl, isPlain := by kernel_rfl, isSmall := by kernel_rfl, isOK := by kernel_rfl }
noncomputable def x39 : XF Tryd.prog := { f := 39, fn := Tryd.f39, ord := fun r => bif Nat.beq r 3 then .ord [0, 1, 2, 5, 6, 7, 10, 11, 12, 15, 16, 17, 20, 3, 8, 13, 14, 18, 19, 4, 9, 21, 22, 23, 24, 25, 26, 27] [(21, [18, 13]), (9, [18, 13]), (4, [18, 13, 8])] else .text, isFn := Tryd.func39, isBody := by kernel_rfl, isPlain := by kernel_rfl, isSmall := by kernel_rfl, isOK := by kernel_rfl }
noncomputable def x40 : XF Tryd.prog := { f := 40, fn := Tryd.f40, ord := fun r => bif Nat.beq r 13 then .ord [0, 1, 2, 4, 5, 6, 7, 8, 3, 9, 10] [(9, [3])] else .text, isFn := Tryd.func40, isBody := by kernel_rfl, isPlain := by kernel_rfl, isSmall := by kernel_rfl, isOK := by kernel_rfl }
noncomputable def x41 : XF Tryd.prog := { f := 41, fn := Tryd.f41, ord := fun _ => .text, isFn := Tryd.func41, isBody := by kernel_rfl, isPlain := by kernel_rfl, isSmall := by kernel_rfl, isOK := by kernel_rfl }
noncomputable def x42 : XF Tryd.prog := { f := 42, fn := Tryd.f42, ord := fun _ => .text, isFn := Tryd.func42, isBody := by kernel_rfl, isPlain := by kernel_rfl, isSmall := by kernel_rfl, isOK := by kernel_rfl }
noncomputable def x46 : XF Tryd.prog := { f := 46, fn := Tryd.f46, ord := fun _ => .text, isFn := Tryd.func46, isBody := by kernel_rfl, isPlain := by kernel_rfl, isSmall := by kernel_rfl, isOK := by kernel_rfl }
noncomputable def x47 : XF Tryd.prog := { f := 47, fn := Tryd.f47, ord := fun _ => .text, isFn := Tryd.func47, isBody := by kernel_rfl, isPlain := by kernel_rfl, isSmall := by kernel_rfl, isOK := by kernel_rfl }
noncomputable def x48 : XF Tryd.prog := { f := 48, fn := Tryd.f48, ord := fun _ => .text, isFn := Tryd.func48, isBody := by kernel_rfl, isPlain := by kernel_rfl, isSmall := by kernel_rfl, isOK := by kernel_rfl }
noncomputable def x51 : XF Tryd.prog := { f := 51, fn := Tryd.f51, ord := fun _ => .text, isFn := Tryd.func51, isBody := by kernel_rfl, isPlain := by kernel_rfl, isSmall := by kernel_rfl, isOK := by kernel_rfl }
noncomputable def x53 : XF Tryd.prog := { f := 53, fn := Tryd.f53, ord := fun r => bif Nat.beq r 3 then .ord [0, 1, 2, 5, 6, 7, 10, 11, 12, 3, 8, 13, 4, 9, 14, 15, 16] [(9, [13]), (4, [13, 8])] else .text, isFn := Tryd.func53, isBody := by kernel_rfl, isPlain := by kernel_rfl, isSmall := by kernel_rfl, isOK := by kernel_rfl }
noncomputable def x55 : XF Tryd.prog := { f := 55, fn := Tryd.f55, ord := fun _ => .text, isFn := Tryd.func55, isBody := by kernel_rfl, isPlain := by kernel_rfl, isSmall := by kernel_rfl, isOK := by kernel_rfl }
noncomputable def x56 : XF Tryd.prog := { f := 56, fn := Tryd.f56, ord := fun _ => .text, isFn := Tryd.func56, isBody := by kernel_rfl, isPlain := by kernel_rfl, isSmall := by kernel_rfl, isOK := by kernel_rfl }
noncomputable def x57 : XF Tryd.prog := { f := 57, fn := Tryd.f57, ord := fun _ => .text, isFn := Tryd.func57, isBody := by kernel_rfl, isPlain := by kernel_rfl, isSmall := by kernel_rfl, isOK := by kernel_rfl }
noncomputable def x58 : XF Tryd.prog := { f := 58, fn := Tryd.f58, ord := fun _ => .text, isFn := Tryd.func58, isBody := by kernel_rfl, isPlain := by kernel_rfl, isSmall := by kernel_rfl, isOK := by kernel_rfl }
noncomputable def x59 : XF Tryd.prog := { f := 59, fn := Tryd.f59, ord := fun _ => .text, isFn := Tryd.func59, isBody := by kernel_rfl, isPlain := by kernel_rfl, isSmall := by kernel_rfl, isOK := by kernel_rfl }
noncomputable def x60 : XF Tryd.prog := { f := 60, fn := Tryd.f60, ord := fun _ => .text, isFn := Tryd.func60, isBody := by kernel_rfl, isPlain := by kernel_rfl, isSmall := by kernel_rfl, isOK := by kernel_rfl }
noncomputable def x61 : XF Tryd.prog := { f := 61, fn := Tryd.f61, ord := fun _ => .text, isFn := Tryd.func61, isBody := by kernel_rfl, isPlain := by kernel_rfl, isSmall := by kernel_rfl, isOK := by kernel_rfl }
noncomputable def x62 : XF Tryd.prog := { f := 62, fn := Tryd.f62, ord := fun _ => .text, isFn := Tryd.func62, isBody := by kernel_rfl, isPlain := by kernel_rfl, isSmall := by kernel_rfl, isOK := by kernel_rfl }
noncomputable def x63 : XF Tryd.prog := { f := 63, fn := Tryd.f63, ord := fun _ => .text, isFn := Tryd.func63, isBody := by kernel_rfl, isPlain := by kernel_rfl, isSmall := by kernel_rfl, isOK := by kernel_rfl }
noncomputable def x64 : XF Tryd.prog := { f := 64, fn := Tryd.f64, ord := fun _ => .text, isFn := Tryd.func64, isBody := by kernel_rfl, isPlain := by kernel_rfl, isSmall := by kernel_rfl, isOK := by kernel_rfl }
noncomputable def x73 : XF Tryd.prog := { f := 73, fn := Tryd.f73, ord := fun _ => .text, isFn := Tryd.func73, isBody := by kernel_rfl, isPlain := by kernel_rfl, isSmall := by kernel_rfl, isOK := by kernel_rfl }
noncomputable def x74 : XF Tryd.prog := { f := 74, fn := Tryd.f74, ord := fun _ => .text, isFn := Tryd.func74, isBody := by kernel_rfl, isPlain := by kernel_rfl, isSmall := by kernel_rfl, isOK := by kernel_rfl }
noncomputable def x75 : XF Tryd.prog := { f := 75, fn := Tryd.f75, ord := fun _ => .text, isFn := Tryd.func75, isBody := by kernel_rfl, isPlain := by kernel_rfl, isSmall := by kernel_rfl, isOK := by kernel_rfl }
noncomputable def x76 : XF Tryd.prog := { f := 76, fn := Tryd.f76, ord := fun _ => .text, isFn := Tryd.func76, isBody := by kernel_rfl, isPlain := by kernel_rfl, isSmall := by kernel_rfl, isOK := by kernel_rfl }
noncomputable def x77 : XF Tryd.prog := { f := 77, fn := Tryd.f77, ord := fun _ => .text, isFn := Tryd.func77, isBody := by kernel_rfl, isPlain := by kernel_rfl, isSmall := by kernel_rfl, isOK := by kernel_rfl }
noncomputable def x81 : XF Tryd.prog := { f := 81, fn := Tryd.f81, ord := fun _ => .text, isFn := Tryd.func81, isBody := by kernel_rfl, isPlain := by kernel_rfl, isSmall := by kernel_rfl, isOK := by kernel_rfl }
noncomputable def tab : Tr (XE Tryd.prog) := tabOf [(14, .fn x14), (16, .fn x16), (17, .fn x17), (18, .fn x18), (21, .fn x21), (33, .fn x33), (34, .fn x34), (35, .fn x35), (36, .fn x36), (37, .fn x37), (38, .fn x38), (39, .fn x39), (40, .fn x40), (41, .fn x41), (42, .fn x42), (46, .fn x46), (47, .fn x47), (48, .fn x48), (51, .fn x51), (53, .fn x53), (55, .fn x55), (56, .fn x56), (57, .fn x57), (58, .fn x58), (59, .fn x59), (60, .fn x60), (61, .fn x61), (62, .fn x62), (63, .fn x63), (64, .fn x64), (73, .fn x73), (74, .fn x74), (75, .fn x75), (76, .fn x76), (77, .fn x77), (81, .fn x81)]
def zs : List Int := [0, 1, 56, 2, 57, 49, 28, 3, 61, 58, 42, 50, 38, 29, 17, 4, 62, 47, 59, 36, 45, 43, 51, 22, 53, 39, 33, 30, 24, 18, 12, 5, 63, 55, 48, 27, 60, 41, 37, 16, 46, 35, 44, 21, 52, 32, 23, 11, 54, 26, 40, 15, 34, 20, 31, 10, 25, 14, 19, 9, 13, 8, 7, 6]
theorem mixed : Tryd.prog.follows .mixedOrders = true := by kernel_rfl
theorem laidOut : laidOutB Tryd.prog = true := by kernel_rfl
theorem own : ownKnob Tryd.prog.godebug = none := by kernel_rfl
theorem gTab : Tryd.prog.globalNamed "math/bits.deBruijn64tab" = some 0 := by kernel_rfl
theorem gTabType : (Tryd.prog.globals[0]?).map (·.type) = some 110 := by kernel_rfl
theorem cellsArr : Tryd.prog.cellsOf 110 = 64 := by kernel_rfl
theorem cellsEl : Tryd.prog.cellsOf 5 = 1 := by kernel_rfl
theorem table {W : World} (h : laidMetH Tryd.prog [("math/bits.deBruijn64tab", Rows.laid_math_bits_deBruijn64tab)] W) : Lib.TabIs Tryd.prog W "math/bits.deBruijn64tab" .u8 zs :=
  Lib.tabIs_of_head (rest := []) gTab gTabType Tryd.underlying110 Tryd.underlying5 cellsEl cellsArr h
noncomputable def objs : Hp := tabObjs 0 110 64 (zs.map (.int .u8))
theorem startT {W : World} (h : laidMetH Tryd.prog [("math/bits.deBruijn64tab", Rows.laid_math_bits_deBruijn64tab)] W) : Go.Xe.Start (0 + 1) objs W :=
  start_tab (fun i hi => (table h).cell gTab i hi) (by decide)
noncomputable def laidWorld (os : Os) : World :=
  { World.holding Tryd.prog os ⟨#[], #[], []⟩ with heap := (World.holding Tryd.prog os ⟨#[], #[], []⟩).heap.modify 0 fun
      | .cells _ t frozen => .cells #[.int .u8 0, .int .u8 1, .int .u8 56, .int .u8 2, .int .u8 57, .int .u8 49, .int .u8 28, .int .u8 3, .int .u8 61, .int .u8 58, .int .u8 42, .int .u8 50, .int .u8 38, .int .u8 29, .int .u8 17, .int .u8 4, .int .u8 62, .int .u8 47, .int .u8 59, .int .u8 36, .int .u8 45, .int .u8 43, .int .u8 51, .int .u8 22, .int .u8 53, .int .u8 39, .int .u8 33, .int .u8 30, .int .u8 24, .int .u8 18, .int .u8 12, .int .u8 5, .int .u8 63, .int .u8 55, .int .u8 48, .int .u8 27, .int .u8 60, .int .u8 41, .int .u8 37, .int .u8 16, .int .u8 46, .int .u8 35, .int .u8 44, .int .u8 21, .int .u8 52, .int .u8 32, .int .u8 23, .int .u8 11, .int .u8 54, .int .u8 26, .int .u8 40, .int .u8 15, .int .u8 34, .int .u8 20, .int .u8 31, .int .u8 10, .int .u8 25, .int .u8 14, .int .u8 19, .int .u8 9, .int .u8 13, .int .u8 8, .int .u8 7, .int .u8 6] t frozen
      | o => o }
end Go.Proofs.YtomialandfplkaaDoor.Eva
