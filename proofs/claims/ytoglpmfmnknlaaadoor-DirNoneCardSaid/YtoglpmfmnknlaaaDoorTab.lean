/- The functions of the program as the evaluator takes them, and the one table that the program lays. -/
import Derived.Test.YtoglpmfmnknlaaaDoorCards
import Derived.Test.YtoglpmfmnknlaaaDoorTie
import Derived.Test.YtoglpmfmnknlaaaDoorXeO
import Derived.WalkKit
import Derived.ProofKit
import Derived.OpenShut
import Derived.Deep.DeepHandedRow
import Derived.Lib.LaidTab
namespace Go.Proofs.YtoglpmfmnknlaaaDoor.Eva
open Go.ChangeShapes Go.WideShapes Go.ChangeAt Go.RowKit Go.Xe

noncomputable def x3 : XF Tryd.prog := { f := 3, fn := Tryd.f3, ord := fun _ => .text, isFn := Tryd.func3, isBody := by kernel_rfl, isPlain := by kernel_rfl, isSmall := by kernel_rfl, isOK := by kernel_rfl }
noncomputable def x4 : XF Tryd.prog := { f := 4, fn := Tryd.f4, ord := fun _ => .text, isFn := Tryd.func4, isBody := by kernel_rfl, isPlain := by kernel_rfl, isSmall := by kernel_rfl, isOK := by kernel_rfl }
noncomputable def x5 : XF Tryd.prog := { f := 5, fn := Tryd.f5, ord := fun _ => .text, isFn := Tryd.func5, isBody := by kernel_rfl, isPlain := by kernel_rfl, isSmall := by kernel_rfl, isOK := by kernel_rfl }
noncomputable def x6 : XF Tryd.prog := { f := 6, fn := Tryd.f6, ord := fun _ => .text, isFn := Tryd.func6, isBody := by kernel_rfl, isPlain := by kernel_rfl, isSmall := by kernel_rfl, isOK := by kernel_rfl }
noncomputable def x7 : XF Tryd.prog := { f := 7, fn := Tryd.f7, ord := fun _ => .text, isFn := Tryd.func7, isBody := by kernel_rfl, isPlain := by kernel_rfl, isSmall := by kernel_rfl, isOK := by kernel_rfl }
noncomputable def x8 : XF Tryd.prog := { f := 8, fn := Tryd.f8, ord := fun _ => .text, isFn := Tryd.func8, isBody := by kernel_rfl, isPlain := by kernel_rfl, isSmall := by kernel_rfl, isOK := by kernel_rfl }
noncomputable def x9 : XF Tryd.prog := { f := 9, fn := Tryd.f9, ord := fun _ => .text, isFn := Tryd.func9, isBody := by kernel_rfl, isPlain := by kernel_rfl, isSmall := by kernel_rfl, isOK := by kernel_rfl }
noncomputable def x10 : XF Tryd.prog := { f := 10, fn := Tryd.f10, ord := fun _ => .text, isFn := Tryd.func10, isBody := by kernel_rfl, isPlain := by kernel_rfl, isSmall := by kernel_rfl, isOK := by kernel_rfl }
noncomputable def x11 : XF Tryd.prog := { f := 11, fn := Tryd.f11, ord := fun _ => .text, isFn := Tryd.func11, isBody := by kernel_rfl, isPlain := by kernel_rfl, isSmall := by kernel_rfl, isOK := by kernel_rfl }
noncomputable def x12 : XF Tryd.prog := { f := 12, fn := Tryd.f12, ord := fun _ => .text, isFn := Tryd.func12, isBody := by kernel_rfl, isPlain := by kernel_rfl, isSmall := by kernel_rfl, isOK := by kernel_rfl }
noncomputable def x13 : XF Tryd.prog := { f := 13, fn := Tryd.f13, ord := fun _ => .text, isFn := Tryd.func13, isBody := by kernel_rfl, isPlain := by kernel_rfl, isSmall := by kernel_rfl, isOK := by kernel_rfl }
noncomputable def x14 : XF Tryd.prog := { f := 14, fn := Tryd.f14, ord := fun _ => .text, isFn := Tryd.func14, isBody := by kernel_rfl, isPlain := by kernel_rfl, isSmall := by kernel_rfl, isOK := by kernel_rfl }
noncomputable def x15 : XF Tryd.prog := { f := 15, fn := Tryd.f15, ord := fun _ => .text, isFn := Tryd.func15, isBody := by kernel_rfl, isPlain := by kernel_rfl, isSmall := by kernel_rfl, isOK := by kernel_rfl }
noncomputable def x16 : XF Tryd.prog := { f := 16, fn := Tryd.f16, ord := fun r => bif Nat.beq r 8 then .ord [1, 2, 0, 3, 4, 5, 6] [(4, [0])] else .text, isFn := Tryd.func16, isBody := by kernel_rfl, isPlain := by kernel_rfl, isSmall := by kernel_rfl, isOK := by kernel_rfl }
noncomputable def x17 : XF Tryd.prog := { f := 17, fn := Tryd.f17, ord := fun _ => .text, isFn := Tryd.func17, isBody := by kernel_rfl, isPlain := by kernel_rfl, isSmall := by kernel_rfl, isOK := by kernel_rfl }
noncomputable def x18 : XF Tryd.prog := { f := 18, fn := Tryd.f18, ord := fun _ => .text, isFn := Tryd.func18, isBody := by kernel_rfl, isPlain := by kernel_rfl, isSmall := by kernel_rfl, isOK := by kernel_rfl }
noncomputable def x19 : XF Tryd.prog := { f := 19, fn := Tryd.f19, ord := fun _ => .text, isFn := Tryd.func19, isBody := by kernel_rfl, isPlain := by kernel_rfl, isSmall := by kernel_rfl, isOK := by kernel_rfl }
noncomputable def x20 : XF Tryd.prog := { f := 20, fn := Tryd.f20, ord := fun r => bif Nat.beq r 5 then .ord [0, 1, 2, 3, 4, 6, 5, 7, 8, 9] [(5, [6])] else .text, isFn := Tryd.func20, isBody := by kernel_rfl, isPlain := by kernel_rfl, isSmall := by kernel_rfl, isOK := by kernel_rfl }
noncomputable def x21 : XF Tryd.prog := { f := 21, fn := Tryd.f21, ord := fun _ => .text, isFn := Tryd.func21, isBody := by kernel_rfl, isPlain := by kernel_rfl, isSmall := by kernel_rfl, isOK := by kernel_rfl }
noncomputable def x22 : XF Tryd.prog := { f := 22, fn := Tryd.f22, ord := fun _ => .text, isFn := Tryd.func22, isBody := by kernel_rfl, isPlain := by kernel_rfl, isSmall := by kernel_rfl, isOK := by kernel_rfl }
noncomputable def x23 : XF Tryd.prog := { f := 23, fn := Tryd.f23, ord := fun _ => .text, isFn := Tryd.func23, isBody := by kernel_rfl, isPlain := by kernel_rfl, isSmall := by kernel_rfl, isOK := by kernel_rfl }
noncomputable def x24 : XF Tryd.prog := { f := 24, fn := Tryd.f24, ord := fun _ => .text, isFn := Tryd.func24, isBody := by kernel_rfl, isPlain := by kernel_rfl, isSmall := by kernel_rfl, isOK := by kernel_rfl }
noncomputable def x25 : XF Tryd.prog := { f := 25, fn := Tryd.f25, ord := fun _ => .text, isFn := Tryd.func25, isBody := by kernel_rfl, isPlain := by kernel_rfl, isSmall := by kernel_rfl, isOK := by kernel_rfl }
noncomputable def x26 : XF Tryd.prog := { f := 26, fn := Tryd.f26, ord := fun r => bif Nat.beq r 16 then .ord [0, 1, 2, 4, 5, 10, 11, 12, 13, 14, 15, 16, 3, 6, 7, 8, 9, 17] [(6, [3])] else .text, isFn := Tryd.func26, isBody := by kernel_rfl, isPlain := by kernel_rfl, isSmall := by kernel_rfl, isOK := by kernel_rfl }
noncomputable def x27 : XF Tryd.prog := { f := 27, fn := Tryd.f27, ord := fun _ => .text, isFn := Tryd.func27, isBody := by kernel_rfl, isPlain := by kernel_rfl, isSmall := by kernel_rfl, isOK := by kernel_rfl }
noncomputable def x29 : XF Tryd.prog := { f := 29, fn := Tryd.f29, ord := fun _ => .text, isFn := Tryd.func29, isBody := by kernel_rfl, isPlain := by kernel_rfl, isSmall := by kernel_rfl, isOK := by kernel_rfl }
noncomputable def x30 : XF Tryd.prog := { f := 30, fn := Tryd.f30, ord := fun _ => .text, isFn := Tryd.func30, isBody := by kernel_rfl, isPlain := by kernel_rfl, isSmall := by kernel_rfl, isOK := by kernel_rfl }
noncomputable def x31 : XF Tryd.prog := { f := 31, fn := Tryd.f31, ord := fun r => bif Nat.beq r 3 then .news [0, 2, 3, 4, 1, 5, 6, 7, 8, 9] [5] else .text, isFn := Tryd.func31, isBody := by kernel_rfl, isPlain := by kernel_rfl, isSmall := by kernel_rfl, isOK := by kernel_rfl }
noncomputable def x32 : XF Tryd.prog := { f := 32, fn := Tryd.f32, ord := fun _ => .text, isFn := Tryd.func32, isBody := by kernel_rfl, isPlain := by kernel_rfl, isSmall := by kernel_rfl, isOK := by kernel_rfl }
noncomputable def x33 : XF Tryd.prog := { f := 33, fn := Tryd.f33, ord := fun _ => .text, isFn := Tryd.func33, isBody := by kernel_rfl, isPlain := by kernel_rfl, isSmall := by kernel_rfl, isOK := by kernel_rfl }
noncomputable def x34 : XF Tryd.prog := { f := 34, fn := Tryd.f34, ord := fun _ => .text, isFn := Tryd.func34, isBody := by kernel_rfl, isPlain := by kernel_rfl, isSmall := by kernel_rfl, isOK := by kernel_rfl }
noncomputable def x35 : XF Tryd.prog := { f := 35, fn := Tryd.f35, ord := fun _ => .text, isFn := Tryd.func35, isBody := by kernel_rfl, isPlain := by kernel_rfl, isSmall := by kernel_rfl, isOK := by kernel_rfl }
noncomputable def x36 : XF Tryd.prog := { f := 36, fn := Tryd.f36, ord := fun _ => .text, isFn := Tryd.func36, isBody := by kernel_rfl, isPlain := by kernel_rfl, isSmall := by kernel_rfl, isOK := by kernel_rfl }
noncomputable def x37 : XF Tryd.prog := { f := 37, fn := Tryd.f37, ord := fun _ => .text, isFn := Tryd.func37, isBody := by kernel_rfl, isPlain := by kernel_rfl, isSmall := by kernel_rfl, isOK := by kernel_rfl }
noncomputable def x38 : XF Tryd.prog := { f := 38, fn := Tryd.f38, ord := fun _ => .text, isFn := Tryd.func38, isBody := by kernel_rfl, isPlain := by kernel_rfl, isSmall := by kernel_rfl, isOK := by kernel_rfl }
noncomputable def x39 : XF Tryd.prog := { f := 39, fn := Tryd.f39, ord := fun _ => .text, isFn := Tryd.func39, isBody := by kernel_rfl, isPlain := by kernel_rfl, isSmall := by kernel_rfl, isOK := by kernel_rfl }
noncomputable def x40 : XF Tryd.prog := { f := 40, fn := Tryd.f40, ord := fun _ => .text, isFn := Tryd.func40, isBody := by kernel_rfl, isPlain := by kernel_rfl, isSmall := by kernel_rfl, isOK := by kernel_rfl }
noncomputable def x41 : XF Tryd.prog := { f := 41, fn := Tryd.f41, ord := fun _ => .text, isFn := Tryd.func41, isBody := by kernel_rfl, isPlain := by kernel_rfl, isSmall := by kernel_rfl, isOK := by kernel_rfl }
noncomputable def x42 : XF Tryd.prog := { f := 42, fn := Tryd.f42, ord := fun _ => .text, isFn := Tryd.func42, isBody := by kernel_rfl, isPlain := by kernel_rfl, isSmall := by kernel_rfl, isOK := by kernel_rfl }
noncomputable def x43 : XF Tryd.prog := { f := 43, fn := Tryd.f43, ord := fun _ => .text, isFn := Tryd.func43, isBody := by kernel_rfl, isPlain := by kernel_rfl, isSmall := by kernel_rfl, isOK := by kernel_rfl }
noncomputable def x44 : XF Tryd.prog := { f := 44, fn := Tryd.f44, ord := fun _ => .text, isFn := Tryd.func44, isBody := by kernel_rfl, isPlain := by kernel_rfl, isSmall := by kernel_rfl, isOK := by kernel_rfl }
noncomputable def x45 : XF Tryd.prog := { f := 45, fn := Tryd.f45, ord := fun _ => .text, isFn := Tryd.func45, isBody := by kernel_rfl, isPlain := by kernel_rfl, isSmall := by kernel_rfl, isOK := by kernel_rfl }
noncomputable def x46 : XF Tryd.prog := { f := 46, fn := Tryd.f46, ord := fun _ => .text, isFn := Tryd.func46, isBody := by kernel_rfl, isPlain := by kernel_rfl, isSmall := by kernel_rfl, isOK := by kernel_rfl }
noncomputable def x47 : XF Tryd.prog := { f := 47, fn := Tryd.f47, ord := fun r => bif Nat.beq r 1 then .news [0, 2, 1, 3, 4, 5] [1, 3] else .text, isFn := Tryd.func47, isBody := by kernel_rfl, isPlain := by kernel_rfl, isSmall := by kernel_rfl, isOK := by kernel_rfl }
noncomputable def x48 : XF Tryd.prog := { f := 48, fn := Tryd.f48, ord := fun _ => .text, isFn := Tryd.func48, isBody := by kernel_rfl, isPlain := by kernel_rfl, isSmall := by kernel_rfl, isOK := by kernel_rfl }
noncomputable def x49 : XF Tryd.prog := { f := 49, fn := Tryd.f49, ord := fun _ => .text, isFn := Tryd.func49, isBody := by kernel_rfl, isPlain := by kernel_rfl, isSmall := by kernel_rfl, isOK := by kernel_rfl }
noncomputable def x50 : XF Tryd.prog := { f := 50, fn := Tryd.f50, ord := fun _ => .text, isFn := Tryd.func50, isBody := by kernel_rfl, isPlain := by kernel_rfl, isSmall := by kernel_rfl, isOK := by kernel_rfl }
noncomputable def x51 : XF Tryd.prog := { f := 51, fn := Tryd.f51, ord := fun _ => .text, isFn := Tryd.func51, isBody := by kernel_rfl, isPlain := by kernel_rfl, isSmall := by kernel_rfl, isOK := by kernel_rfl }
noncomputable def x52 : XF Tryd.prog := { f := 52, fn := Tryd.f52, ord := fun _ => .text, isFn := Tryd.func52, isBody := by kernel_rfl, isPlain := by kernel_rfl, isSmall := by kernel_rfl, isOK := by kernel_rfl }
noncomputable def x53 : XF Tryd.prog := { f := 53, fn := Tryd.f53, ord := fun _ => .text, isFn := Tryd.func53, isBody := by kernel_rfl, isPlain := by kernel_rfl, isSmall := by kernel_rfl, isOK := by kernel_rfl }
noncomputable def x54 : XF Tryd.prog := { f := 54, fn := Tryd.f54, ord := fun _ => .text, isFn := Tryd.func54, isBody := by kernel_rfl, isPlain := by kernel_rfl, isSmall := by kernel_rfl, isOK := by kernel_rfl }
noncomputable def x55 : XF Tryd.prog := { f := 55, fn := Tryd.f55, ord := fun _ => .text, isFn := Tryd.func55, isBody := by kernel_rfl, isPlain := by kernel_rfl, isSmall := by kernel_rfl, isOK := by kernel_rfl }
noncomputable def x58 : XF Tryd.prog := { f := 58, fn := Tryd.f58, ord := fun _ => .text, isFn := Tryd.func58, isBody := by kernel_rfl, isPlain := by kernel_rfl, isSmall := by kernel_rfl, isOK := by kernel_rfl }
noncomputable def x59 : XF Tryd.prog := { f := 59, fn := Tryd.f59, ord := fun _ => .text, isFn := Tryd.func59, isBody := by kernel_rfl, isPlain := by kernel_rfl, isSmall := by kernel_rfl, isOK := by kernel_rfl }
noncomputable def x60 : XF Tryd.prog := { f := 60, fn := Tryd.f60, ord := fun _ => .text, isFn := Tryd.func60, isBody := by kernel_rfl, isPlain := by kernel_rfl, isSmall := by kernel_rfl, isOK := by kernel_rfl }
noncomputable def x63 : XF Tryd.prog := { f := 63, fn := Tryd.f63, ord := fun _ => .text, isFn := Tryd.func63, isBody := by kernel_rfl, isPlain := by kernel_rfl, isSmall := by kernel_rfl, isOK := by kernel_rfl }
noncomputable def x65 : XF Tryd.prog := { f := 65, fn := Tryd.f65, ord := fun _ => .text, isFn := Tryd.func65, isBody := by kernel_rfl, isPlain := by kernel_rfl, isSmall := by kernel_rfl, isOK := by kernel_rfl }
noncomputable def x69 : XF Tryd.prog := { f := 69, fn := Tryd.f69, ord := fun _ => .text, isFn := Tryd.func69, isBody := by kernel_rfl, isPlain := by kernel_rfl, isSmall := by kernel_rfl, isOK := by kernel_rfl }
noncomputable def x70 : XF Tryd.prog := { f := 70, fn := Tryd.f70, ord := fun _ => .text, isFn := Tryd.func70, isBody := by kernel_rfl, isPlain := by kernel_rfl, isSmall := by kernel_rfl, isOK := by kernel_rfl }
noncomputable def x74 : XF Tryd.prog := { f := 74, fn := Tryd.f74, ord := fun _ => .text, isFn := Tryd.func74, isBody := by kernel_rfl, isPlain := by kernel_rfl, isSmall := by kernel_rfl, isOK := by kernel_rfl }
noncomputable def x78 : XF Tryd.prog := { f := 78, fn := Tryd.f78, ord := fun _ => .text, isFn := Tryd.func78, isBody := by kernel_rfl, isPlain := by kernel_rfl, isSmall := by kernel_rfl, isOK := by kernel_rfl }
noncomputable def x64 : XN Tryd.prog := { f := 64, fn := Tryd.f64, k := .indexByte, isFn := Tryd.func64, isPlain := by kernel_rfl, noBody := by kernel_rfl, noNext := by kernel_rfl, isK := by kernel_rfl }
noncomputable def x79 : XN Tryd.prog := { f := 79, fn := Tryd.f79, k := .indexByte, isFn := Tryd.func79, isPlain := by kernel_rfl, noBody := by kernel_rfl, noNext := by kernel_rfl, isK := by kernel_rfl }
noncomputable def tab : Tr (XE Tryd.prog) := tabOf [(3, .fn x3), (4, .fn x4), (5, .fn x5), (6, .fn x6), (7, .fn x7), (8, .fn x8), (9, .fn x9), (10, .fn x10), (11, .fn x11), (12, .fn x12), (13, .fn x13), (14, .fn x14), (15, .fn x15), (16, .fn x16), (17, .fn x17), (18, .fn x18), (19, .fn x19), (20, .fn x20), (21, .fn x21), (22, .fn x22), (23, .fn x23), (24, .fn x24), (25, .fn x25), (26, .fn x26), (27, .fn x27), (29, .fn x29), (30, .fn x30), (31, .fn x31), (32, .fn x32), (33, .fn x33), (34, .fn x34), (35, .fn x35), (36, .fn x36), (37, .fn x37), (38, .fn x38), (39, .fn x39), (40, .fn x40), (41, .fn x41), (42, .fn x42), (43, .fn x43), (44, .fn x44), (45, .fn x45), (46, .fn x46), (47, .fn x47), (48, .fn x48), (49, .fn x49), (50, .fn x50), (51, .fn x51), (52, .fn x52), (53, .fn x53), (54, .fn x54), (55, .fn x55), (58, .fn x58), (59, .fn x59), (60, .fn x60), (63, .fn x63), (65, .fn x65), (69, .fn x69), (70, .fn x70), (74, .fn x74), (78, .fn x78), (64, .nat x64), (79, .nat x79)]
def zs : List Int := [0, 1, 56, 2, 57, 49, 28, 3, 61, 58, 42, 50, 38, 29, 17, 4, 62, 47, 59, 36, 45, 43, 51, 22, 53, 39, 33, 30, 24, 18, 12, 5, 63, 55, 48, 27, 60, 41, 37, 16, 46, 35, 44, 21, 52, 32, 23, 11, 54, 26, 40, 15, 34, 20, 31, 10, 25, 14, 19, 9, 13, 8, 7, 6]
theorem mixed : Tryd.prog.follows .mixedOrders = true := by kernel_rfl
theorem laidOut : laidOutB Tryd.prog = true := by kernel_rfl
theorem own : ownKnob Tryd.prog.godebug = none := by kernel_rfl
theorem gTab : Tryd.prog.globalNamed "math/bits.deBruijn64tab" = some 1 := by kernel_rfl
theorem gTabType : (Tryd.prog.globals[1]?).map (·.type) = some 131 := by kernel_rfl
theorem cellsArr : Tryd.prog.cellsOf 131 = 64 := by kernel_rfl
theorem cellsEl : Tryd.prog.cellsOf 5 = 1 := by kernel_rfl
theorem table {W : World} (h : laidMetH Tryd.prog [("math/bits.deBruijn64tab", Rows.laid_math_bits_deBruijn64tab)] W) : Lib.TabIs Tryd.prog W "math/bits.deBruijn64tab" .u8 zs :=
  Lib.tabIs_of_head (rest := []) gTab gTabType Tryd.underlying131 Tryd.underlying5 cellsEl cellsArr h
noncomputable def objs : Hp := tabObjs 1 131 64 (zs.map (.int .u8))
theorem startT {W : World} (h : laidMetH Tryd.prog [("math/bits.deBruijn64tab", Rows.laid_math_bits_deBruijn64tab)] W) : Go.Xe.Start (1 + 1) objs W :=
  start_tab (fun i hi => (table h).cell gTab i hi) (by decide)
noncomputable def laidWorld (os : Os) : World :=
  { World.holding Tryd.prog os ⟨#[], #[], []⟩ with heap := (World.holding Tryd.prog os ⟨#[], #[], []⟩).heap.modify 1 fun
      | .cells _ t frozen => .cells #[.int .u8 0, .int .u8 1, .int .u8 56, .int .u8 2, .int .u8 57, .int .u8 49, .int .u8 28, .int .u8 3, .int .u8 61, .int .u8 58, .int .u8 42, .int .u8 50, .int .u8 38, .int .u8 29, .int .u8 17, .int .u8 4, .int .u8 62, .int .u8 47, .int .u8 59, .int .u8 36, .int .u8 45, .int .u8 43, .int .u8 51, .int .u8 22, .int .u8 53, .int .u8 39, .int .u8 33, .int .u8 30, .int .u8 24, .int .u8 18, .int .u8 12, .int .u8 5, .int .u8 63, .int .u8 55, .int .u8 48, .int .u8 27, .int .u8 60, .int .u8 41, .int .u8 37, .int .u8 16, .int .u8 46, .int .u8 35, .int .u8 44, .int .u8 21, .int .u8 52, .int .u8 32, .int .u8 23, .int .u8 11, .int .u8 54, .int .u8 26, .int .u8 40, .int .u8 15, .int .u8 34, .int .u8 20, .int .u8 31, .int .u8 10, .int .u8 25, .int .u8 14, .int .u8 19, .int .u8 9, .int .u8 13, .int .u8 8, .int .u8 7, .int .u8 6] t frozen
      | o => o }
end Go.Proofs.YtoglpmfmnknlaaaDoor.Eva
