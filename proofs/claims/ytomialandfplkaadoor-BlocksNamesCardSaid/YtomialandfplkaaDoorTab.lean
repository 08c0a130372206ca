/- The functions of the program as the evaluator takes them, and the one table that the program lays. -/
import Derived.Test.YtomialandfplkaaDoorCards
import Derived.Test.YtomialandfplkaaDoorTie
import Derived.Test.YtomialandfplkaaDoorXvO
import Derived.WalkKit
import Derived.ProofKit
import Derived.OpenShut
import Derived.Deep.DeepHandedRow
import Derived.Lib.LaidTab
namespace Go.Proofs.YtomialandfplkaaDoor.Eva
open Go.ChangeShapes Go.WideShapes Go.ChangeAt Go.RowKit Go.Xe

noncomputable def x3 : XF Tryd.prog := { f := 3, fn := Tryd.f3, ord := fun _ => none, isFn := Tryd.func3, isBody := by kernel_rfl, isPlain := by kernel_rfl, isSmall := by kernel_rfl, isOK := by kernel_rfl }
noncomputable def x6 : XF Tryd.prog := { f := 6, fn := Tryd.f6, ord := fun _ => none, isFn := Tryd.func6, isBody := by kernel_rfl, isPlain := by kernel_rfl, isSmall := by kernel_rfl, isOK := by kernel_rfl }
noncomputable def x15 : XF Tryd.prog := { f := 15, fn := Tryd.f15, ord := fun _ => none, isFn := Tryd.func15, isBody := by kernel_rfl, isPlain := by kernel_rfl, isSmall := by kernel_rfl, isOK := by kernel_rfl }
noncomputable def x16 : XF Tryd.prog := { f := 16, fn := Tryd.f16, ord := fun _ => none, isFn := Tryd.func16, isBody := by kernel_rfl, isPlain := by kernel_rfl, isSmall := by kernel_rfl, isOK := by kernel_rfl }
noncomputable def x17 : XF Tryd.prog := { f := 17, fn := Tryd.f17, ord := fun _ => none, isFn := Tryd.func17, isBody := by kernel_rfl, isPlain := by kernel_rfl, isSmall := by kernel_rfl, isOK := by kernel_rfl }
noncomputable def x18 : XF Tryd.prog := { f := 18, fn := Tryd.f18, ord := fun _ => none, isFn := Tryd.func18, isBody := by kernel_rfl, isPlain := by kernel_rfl, isSmall := by kernel_rfl, isOK := by kernel_rfl }
noncomputable def x19 : XF Tryd.prog := { f := 19, fn := Tryd.f19, ord := fun _ => none, isFn := Tryd.func19, isBody := by kernel_rfl, isPlain := by kernel_rfl, isSmall := by kernel_rfl, isOK := by kernel_rfl }
noncomputable def x20 : XF Tryd.prog := { f := 20, fn := Tryd.f20, ord := fun _ => none, isFn := Tryd.func20, isBody := by kernel_rfl, isPlain := by kernel_rfl, isSmall := by kernel_rfl, isOK := by kernel_rfl }
noncomputable def x21 : XF Tryd.prog := { f := 21, fn := Tryd.f21, ord := fun _ => none, isFn := Tryd.func21, isBody := by kernel_rfl, isPlain := by kernel_rfl, isSmall := by kernel_rfl, isOK := by kernel_rfl }
noncomputable def x23 : XF Tryd.prog := { f := 23, fn := Tryd.f23, ord := fun _ => none, isFn := Tryd.func23, isBody := by kernel_rfl, isPlain := by kernel_rfl, isSmall := by kernel_rfl, isOK := by kernel_rfl }
noncomputable def x26 : XF Tryd.prog := { f := 26, fn := Tryd.f26, ord := fun _ => none, isFn := Tryd.func26, isBody := by kernel_rfl, isPlain := by kernel_rfl, isSmall := by kernel_rfl, isOK := by kernel_rfl }
noncomputable def x29 : XF Tryd.prog := { f := 29, fn := Tryd.f29, ord := fun _ => none, isFn := Tryd.func29, isBody := by kernel_rfl, isPlain := by kernel_rfl, isSmall := by kernel_rfl, isOK := by kernel_rfl }
noncomputable def x33 : XF Tryd.prog := { f := 33, fn := Tryd.f33, ord := fun _ => none, isFn := Tryd.func33, isBody := by kernel_rfl, isPlain := by kernel_rfl, isSmall := by kernel_rfl, isOK := by kernel_rfl }
noncomputable def x63 : XF Tryd.prog := { f := 63, fn := Tryd.f63, ord := fun _ => none, isFn := Tryd.func63, isBody := by kernel_rfl, isPlain := by kernel_rfl, isSmall := by kernel_rfl, isOK := by kernel_rfl }
noncomputable def x64 : XF Tryd.prog := { f := 64, fn := Tryd.f64, ord := fun _ => none, isFn := Tryd.func64, isBody := by kernel_rfl, isPlain := by kernel_rfl, isSmall := by kernel_rfl, isOK := by kernel_rfl }
noncomputable def x65 : XF Tryd.prog := { f := 65, fn := Tryd.f65, ord := fun _ => none, isFn := Tryd.func65, isBody := by kernel_rfl, isPlain := by kernel_rfl, isSmall := by kernel_rfl, isOK := by kernel_rfl }
noncomputable def tab : Tr (XF Tryd.prog) := tabOf [x3, x6, x15, x16, x17, x18, x19, x20, x21, x23, x26, x29, x33, x63, x64, x65]
def zs : List Int := [0, 1, 56, 2, 57, 49, 28, 3, 61, 58, 42, 50, 38, 29, 17, 4, 62, 47, 59, 36, 45, 43, 51, 22, 53, 39, 33, 30, 24, 18, 12, 5, 63, 55, 48, 27, 60, 41, 37, 16, 46, 35, 44, 21, 52, 32, 23, 11, 54, 26, 40, 15, 34, 20, 31, 10, 25, 14, 19, 9, 13, 8, 7, 6]
theorem mixed : Tryd.prog.follows .mixedOrders = true := by kernel_rfl
theorem laidOut : laidOutB Tryd.prog = true := by kernel_rfl
theorem own : ownKnob Tryd.prog.godebug = none := by kernel_rfl
theorem gTab : Tryd.prog.globalNamed "math/bits.deBruijn64tab" = some 0 := by kernel_rfl
theorem gTabType : (Tryd.prog.globals[0]?).map (·.type) = some 110 := by kernel_rfl
theorem cellsArr : Tryd.prog.cellsOf 110 = 64 := by kernel_rfl
theorem cellsEl : Tryd.prog.cellsOf 5 = 1 := by kernel_rfl
theorem table {W : World} (h : laidMetH Tryd.prog [("math/bits.deBruijn64tab", Rows.laid_math_bits_deBruijn64tab)] W) : Lib.TabIs Tryd.prog W "math/bits.deBruijn64tab" .u8 zs :=
  Lib.tabIs_of_head (rest := []) gTab gTabType Tryd.underlying110 Tryd.underlying5 cellsEl cellsArr h
noncomputable def objs : Tr Ob := tabObjs 110 64 (zs.map (.int .u8))
theorem startT {W : World} (h : laidMetH Tryd.prog [("math/bits.deBruijn64tab", Rows.laid_math_bits_deBruijn64tab)] W) : Go.Xe.Start 1 objs W :=
  start_tab (fun i hi => (table h).cell gTab i hi) (by decide)
noncomputable def laidWorld (os : Os) : World :=
  { World.holding Tryd.prog os ⟨#[], #[], []⟩ with heap := (World.holding Tryd.prog os ⟨#[], #[], []⟩).heap.modify 0 fun
      | .cells _ t frozen => .cells #[.int .u8 0, .int .u8 1, .int .u8 56, .int .u8 2, .int .u8 57, .int .u8 49, .int .u8 28, .int .u8 3, .int .u8 61, .int .u8 58, .int .u8 42, .int .u8 50, .int .u8 38, .int .u8 29, .int .u8 17, .int .u8 4, .int .u8 62, .int .u8 47, .int .u8 59, .int .u8 36, .int .u8 45, .int .u8 43, .int .u8 51, .int .u8 22, .int .u8 53, .int .u8 39, .int .u8 33, .int .u8 30, .int .u8 24, .int .u8 18, .int .u8 12, .int .u8 5, .int .u8 63, .int .u8 55, .int .u8 48, .int .u8 27, .int .u8 60, .int .u8 41, .int .u8 37, .int .u8 16, .int .u8 46, .int .u8 35, .int .u8 44, .int .u8 21, .int .u8 52, .int .u8 32, .int .u8 23, .int .u8 11, .int .u8 54, .int .u8 26, .int .u8 40, .int .u8 15, .int .u8 34, .int .u8 20, .int .u8 31, .int .u8 10, .int .u8 25, .int .u8 14, .int .u8 19, .int .u8 9, .int .u8 13, .int .u8 8, .int .u8 7, .int .u8 6] t frozen
      | o => o }
end Go.Proofs.YtomialandfplkaaDoor.Eva
