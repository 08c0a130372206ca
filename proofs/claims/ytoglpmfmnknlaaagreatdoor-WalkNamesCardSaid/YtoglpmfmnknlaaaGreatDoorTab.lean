/- The table of the functions' texts, and the one table that the program lays. -/
import Derived.Test.YtoglpmfmnknlaaaGreatDoorF0
import Derived.Test.YtoglpmfmnknlaaaGreatDoorF1
import Derived.Test.YtoglpmfmnknlaaaGreatDoorF2
import Derived.Test.YtoglpmfmnknlaaaGreatDoorCards
import Derived.Test.YtoglpmfmnknlaaaGreatDoorTie
import Derived.Test.YtoglpmfmnknlaaaGreatDoorXeYi
import Derived.WalkKit
import Derived.ProofKit
import Derived.OpenShut
import Derived.Deep.DeepHandedRow
import Derived.Lib.LaidTab
namespace Go.Proofs.YtoglpmfmnknlaaaGreatDoor.Eva
open Go.ChangeShapes Go.WideShapes Go.ChangeAt Go.RowKit Go.Xe

noncomputable def tabL {P : Program} : List (FuncId × YE P) → Tr (YE P)
  | [] => .nil
  | (f, x) :: xs => (tabL xs).put f x
noncomputable def tab : Tr (YE Tryz.prog) := tabL [(9, .fn fy9), (18, .fn fy18), (19, .fn fy19), (23, .fn fy23), (29, .fn fy29), (36, .fn fy36), (42, .fn fy42), (45, .fn fy45), (47, .fn fy47), (48, .fn fy48), (51, .fn fy51), (68, .fn fy68), (70, .fn fy70), (71, .fn fy71), (74, .fn fy74), (76, .fn fy76), (77, .fn fy77), (78, .ev fx78), (81, .ev fx81), (87, .fn fy87), (88, .fn fy88), (89, .fn fy89), (90, .fn fy90), (92, .fn fy92), (94, .fn fy94), (95, .fn fy95), (103, .fn fy103), (104, .fn fy104), (105, .ev fx105), (106, .fn fy106), (107, .fn fy107), (108, .fn fy108), (110, .fn fy110), (111, .fn fy111), (116, .fn fy116), (117, .fn fy117), (118, .fn fy118), (119, .fn fy119), (125, .fn fy125), (126, .fn fy126), (127, .fn fy127), (128, .fn fy128), (129, .fn fy129), (130, .fn fy130), (131, .fn fy131), (133, .fn fy133), (137, .fn fy137), (138, .fn fy138), (139, .fn fy139), (140, .fn fy140), (141, .ev fx141), (142, .fn fy142), (143, .ev fx143), (144, .fn fy144), (145, .fn fy145), (146, .fn fy146), (147, .fn fy147), (148, .ev fx148), (149, .fn fy149), (150, .fn fy150), (151, .ev fx151), (152, .fn fy152), (154, .fn fy154), (155, .fn fy155), (156, .fn fy156), (157, .fn fy157), (162, .fn fy162), (163, .fn fy163), (164, .fn fy164), (166, .fn fy166), (167, .fn fy167), (169, .fn fy169), (172, .fn fy172), (173, .fn fy173), (174, .fn fy174), (175, .fn fy175), (176, .fn fy176), (178, .fn fy178), (181, .fn fy181), (182, .ev fx182), (183, .ev fx183), (184, .fn fy184), (185, .fn fy185), (186, .fn fy186), (187, .fn fy187), (188, .fn fy188), (189, .fn fy189), (192, .fn fy192), (193, .fn fy193), (194, .fn fy194), (195, .ev fx195), (196, .fn fy196), (197, .fn fy197), (198, .fn fy198), (201, .fn fy201), (202, .fn fy202), (203, .fn fy203), (204, .fn fy204), (205, .fn fy205), (206, .fn fy206), (207, .fn fy207), (208, .fn fy208), (209, .fn fy209), (211, .ev fx211), (212, .fn fy212), (214, .fn fy214), (215, .fn fy215), (216, .fn fy216), (217, .fn fy217), (218, .fn fy218), (219, .fn fy219), (220, .fn fy220), (221, .fn fy221), (226, .fn fy226), (227, .fn fy227), (228, .fn fy228), (229, .fn fy229), (230, .fn fy230), (242, .fn fy242), (244, .fn fy244), (245, .fn fy245), (247, .fn fy247), (248, .fn fy248), (249, .fn fy249), (250, .fn fy250), (254, .fn fy254), (255, .fn fy255), (256, .fn fy256), (257, .fn fy257), (258, .fn fy258), (259, .fn fy259), (260, .fn fy260), (261, .fn fy261), (263, .fn fy263), (264, .fn fy264), (265, .fn fy265), (266, .fn fy266), (267, .fn fy267), (268, .fn fy268), (269, .fn fy269), (271, .fn fy271), (272, .fn fy272), (273, .fn fy273), (274, .fn fy274), (278, .fn fy278), (279, .fn fy279), (280, .fn fy280), (281, .fn fy281), (284, .fn fy284), (285, .fn fy285), (286, .fn fy286), (289, .fn fy289), (290, .fn fy290), (291, .fn fy291), (292, .fn fy292), (293, .fn fy293), (294, .fn fy294), (295, .fn fy295), (296, .fn fy296), (297, .fn fy297), (298, .fn fy298), (299, .fn fy299), (300, .fn fy300), (301, .fn fy301), (315, .fn fy315), (316, .fn fy316), (319, .fn fy319), (320, .fn fy320), (321, .fn fy321), (323, .fn fy323), (325, .fn fy325), (327, .fn fy327), (330, .fn fy330), (331, .nat gx331), (332, .fn fy332), (334, .fn fy334), (335, .fn fy335), (336, .fn fy336), (337, .fn fy337), (338, .fn fy338), (339, .fn fy339), (340, .fn fy340), (341, .fn fy341), (342, .fn fy342), (343, .fn fy343), (344, .fn fy344), (347, .fn fy347), (349, .fn fy349), (350, .fn fy350), (351, .fn fy351), (355, .fn fy355), (356, .fn fy356), (357, .fn fy357), (358, .fn fy358), (359, .nat gx359), (362, .fn fy362), (363, .ev fx363), (364, .fn fy364), (367, .fn fy367), (389, .fn fy389)]
def zs : List Int := [0, 1, 56, 2, 57, 49, 28, 3, 61, 58, 42, 50, 38, 29, 17, 4, 62, 47, 59, 36, 45, 43, 51, 22, 53, 39, 33, 30, 24, 18, 12, 5, 63, 55, 48, 27, 60, 41, 37, 16, 46, 35, 44, 21, 52, 32, 23, 11, 54, 26, 40, 15, 34, 20, 31, 10, 25, 14, 19, 9, 13, 8, 7, 6]
theorem mixed : Tryz.prog.follows .mixedOrders = true := by kernel_rfl
theorem laidOut : laidOutB Tryz.prog = true := by kernel_rfl
theorem own : ownKnob Tryz.prog.godebug = none := by kernel_rfl
theorem gTab : Tryz.prog.globalNamed "math/bits.deBruijn64tab" = some 1 := by kernel_rfl
theorem gTabType : (Tryz.prog.globals[1]?).map (·.type) = some 182 := by kernel_rfl
theorem cellsArr : Tryz.prog.cellsOf 182 = 64 := by kernel_rfl
theorem cellsEl : Tryz.prog.cellsOf 5 = 1 := by kernel_rfl
theorem table {W : World} (h : laidMetH Tryz.prog [("math/bits.deBruijn64tab", Rows.laid_math_bits_deBruijn64tab)] W) : Lib.TabIs Tryz.prog W "math/bits.deBruijn64tab" .u8 zs :=
  Lib.tabIs_of_head (rest := []) gTab gTabType Tryz.underlying182 Tryz.underlying5 cellsEl cellsArr h
noncomputable def objs : Hp := tabObjs 1 182 64 (zs.map (.int .u8))
theorem startT {W : World} (h : laidMetH Tryz.prog [("math/bits.deBruijn64tab", Rows.laid_math_bits_deBruijn64tab)] W) : Go.Xe.Start (1 + 1) objs W :=
  start_tab (fun i hi => (table h).cell gTab i hi) (by decide)
noncomputable def laidWorld (os : Os) : World :=
  { World.holding Tryz.prog os ⟨#[], #[], []⟩ with heap := (World.holding Tryz.prog os ⟨#[], #[], []⟩).heap.modify 1 fun
      | .cells _ t frozen => .cells #[.int .u8 0, .int .u8 1, .int .u8 56, .int .u8 2, .int .u8 57, .int .u8 49, .int .u8 28, .int .u8 3, .int .u8 61, .int .u8 58, .int .u8 42, .int .u8 50, .int .u8 38, .int .u8 29, .int .u8 17, .int .u8 4, .int .u8 62, .int .u8 47, .int .u8 59, .int .u8 36, .int .u8 45, .int .u8 43, .int .u8 51, .int .u8 22, .int .u8 53, .int .u8 39, .int .u8 33, .int .u8 30, .int .u8 24, .int .u8 18, .int .u8 12, .int .u8 5, .int .u8 63, .int .u8 55, .int .u8 48, .int .u8 27, .int .u8 60, .int .u8 41, .int .u8 37, .int .u8 16, .int .u8 46, .int .u8 35, .int .u8 44, .int .u8 21, .int .u8 52, .int .u8 32, .int .u8 23, .int .u8 11, .int .u8 54, .int .u8 26, .int .u8 40, .int .u8 15, .int .u8 34, .int .u8 20, .int .u8 31, .int .u8 10, .int .u8 25, .int .u8 14, .int .u8 19, .int .u8 9, .int .u8 13, .int .u8 8, .int .u8 7, .int .u8 6] t frozen
      | o => o }
end Go.Proofs.YtoglpmfmnknlaaaGreatDoor.Eva
